/- A state of a member that is made of picks: which it is. -/
import Derived.Test.YthpokjkbcdfhiaaTRf2
import Derived.Test.YthpokjkbcdfhiaaTPk1
namespace Go.Proofs.Ythpokjkbcdfhiaa.Told.RA
open Go Go.Proofs.Ythpokjkbcdfhiaa.Vam Go.Proofs.Ythpokjkbcdfhiaa.Told Go.Proofs.Ythpokjkbcdfhiaa.Told.PK
set_option linter.unusedSimpArgs false
set_option linter.unusedVariables false
theorem Rise.snoc : ∀ {l : List TEntry} {a t : Int} {e : TEntry}, Rise a t l → t ≤ e.Term → a ≤ e.Term → Rise a e.Term (l ++ [e])
 | [], a, t, e, _, _, ha => ⟨ha, Int.le_refl _, trivial⟩
 | x :: l, a, t, e, h, ht, ha => ⟨h.1, Int.le_trans h.2.1 ht, Rise.snoc h.2.2 ht (Int.le_trans h.2.1 ht)⟩
def Smt (e : TEntry) : Prop := e.T.Reads.length ≤ 3 ∧ e.T.Writes.length ≤ 3
theorem log_lp (fu : Nat) (hf : 20 ≤ fu) (N : Nat) (hN : N ≤ 100000) : ∀ (d i m : Nat) (l : List TEntry) (t : Int) (o : TPicks), i + d = N → l.length = i → PInv o → d < m → 1 ≤ t → t ≤ i + 1 → Rise 1 t l → (∀ e ∈ l, Smt e) →
  ∃ l' o', diwanplay_Picks_Log.lp5 fu (N : Int) m l t (i : Int) o = some (l', o') ∧ PInv o' ∧ l'.length = N ∧ Rise 1 (N + 1) l' ∧ ∀ e ∈ l', Smt e
 | 0, i, m, l, t, o, hid, hl, ho, hm, t0, t1, hr, he => by
  obtain ⟨m, rfl⟩ : ∃ k, m = k + 1 := ⟨m - 1, by omega⟩
  rw [diwanplay_Picks_Log.lp5, br_f (decide_eq_false (by omega))]
  exact ⟨_, _, rfl, ho, by omega, hr.up (by omega), he⟩
 | d + 1, i, m, l, t, o, hid, hl, ho, hm, t0, t1, hr, he => by
  obtain ⟨m, rfl⟩ : ∃ k, m = k + 1 := ⟨m - 1, by omega⟩
  obtain ⟨a, o1, h1, i1, _⟩ := num_e ho (m := 4) (by decide)
  rw [diwanplay_Picks_Log.lp5, br_t (decide_eq_true (by omega))]
  simp only [jn_e]
  rw [bd_s h1]
  dsimp only
  rw [w64_id (n := (i : Int) + 1) (by omega) (by omega), show (i : Int) + 1 = ((i + 1 : Nat) : Int) by omega, w64_id (n := t + 1) (by omega) (by omega)]
  have ih := fun (e : TEntry) (u : Int) (o : TPicks) (h : PInv o) (t0 : t ≤ u) (t1 : u ≤ i + 2) (hte : e.Term = u) (hs : Smt e) => log_lp fu hf N hN d (i + 1) m (l ++ [e]) u o (by omega) (by simp [hl]) h (by omega) (by omega) (by omega) (by subst hte; exact hr.snoc t0 (by omega)) fun x hx => by
   rcases List.mem_append.1 hx with g | g
   ·exact he x g
   ·rw [List.mem_singleton.1 g]; exact hs
  have hg : ∀ e : TEntry, decide (l.length + ([e] : List TEntry).length ≤ 4294967296) = true := fun e => decide_eq_true (by simp; omega)
  have rest : ∀ u : Int, t ≤ u → u ≤ i + 2 → ∃ l' o', (bd (diwanplay_Picks_Num 3 o1) fun (r12_1, r12_2) =>
    br (!(r12_1 == 0))
     (bd (diwanplay_Picks_Txn fu ((i + 1 : Nat) : Int) r12_2) fun (r15_1, r15_2) =>
     gd (decide (l.length + ([(TEntry.mk u (r12_1 == 0) r15_1)] : List TEntry).length ≤ 4294967296)) <|
     diwanplay_Picks_Log.lp5 fu (N : Int) m (l ++ ([(TEntry.mk u (r12_1 == 0) r15_1)] : List TEntry)) u ((i + 1 : Nat) : Int) r15_2)
     (gd (decide (l.length + ([(TEntry.mk u (r12_1 == 0) (TTxn.mk 0 0 [] []))] : List TEntry).length ≤ 4294967296)) <|
     diwanplay_Picks_Log.lp5 fu (N : Int) m (l ++ ([(TEntry.mk u (r12_1 == 0) (TTxn.mk 0 0 [] []))] : List TEntry)) u ((i + 1 : Nat) : Int) r12_2)) = some (l', o') ∧ PInv o' ∧ l'.length = N ∧ Rise 1 (N + 1) l' ∧ ∀ e ∈ l', Smt e := by
   intro u t0 t1
   obtain ⟨b, o2, h2, i2, _⟩ := num_e i1 (m := 3) (by decide)
   rw [bd_s h2]
   dsimp only
   cases (b == 0)
   ·obtain ⟨x, o3, h3, i3, hx⟩ := txn_e hf ((i + 1 : Nat) : Int) i2
    rw [br_t (by rfl), bd_s h3]
    dsimp only
    rw [gd_t (hg _)]
    exact ih _ _ _ i3 t0 t1 rfl ⟨hx.rl, hx.wl⟩
   ·rw [br_f (by rfl), gd_t (hg _)]
    exact ih _ _ _ i2 t0 t1 rfl ⟨Nat.zero_le _, Nat.zero_le _⟩
  cases (a == 0)
  ·rw [br_f rfl]; exact rest t (by omega) (by omega)
  ·rw [br_t rfl]; exact rest (t + 1) (by omega) (by omega)
theorem log_e {fu N : Nat} (hf : 20 ≤ fu) (hN : N < fu) (hN' : N ≤ 100000) {o : TPicks} (h : PInv o) : ∃ l o', diwanplay_Picks_Log fu (N : Int) o = some (l, o') ∧ PInv o' ∧ l.length = N ∧ Rise 1 (N + 1) l ∧ ∀ e ∈ l, Smt e := by
 unfold diwanplay_Picks_Log
 obtain ⟨l, o', h1, h2⟩ := log_lp fu hf N hN' N 0 fu [] 1 o (by omega) rfl h (by omega) (by decide) (by omega) trivial (by simp)
 simp only [Int.natCast_zero] at h1
 rw [bd_s h1]
 exact ⟨l, o', rfl, h2⟩
theorem rnew_e {me nodes wait : Int} {n : Nat} (h : nodes = (n : Int)) (hn : n ≤ 1000) : diwanref11_New me nodes wait = some (TRaft.mk me nodes wait 0 0 [] 0 0 0 (List.replicate n false) (List.replicate n 0) (List.replicate n 0) 0) := by
 unfold diwanref11_New
 have e : (if nodes < 0 then 0 else nodes) = (n : Int) := by rw [if_neg (by omega)]; exact h
 rw [e, gd_t (decide_eq_true (by omega)), gd_t (decide_eq_true (by omega)), gd_t (decide_eq_true (by omega)), Int.toNat_natCast]
structure RRows (n L : Nat) (v : List Bool) (x m : List Int) : Prop where
 lv : v.length = n
 lx : x.length = n
 lm : m.length = n
 xs : ∀ a ∈ x, 0 ≤ a ∧ a ≤ (L : Int) + 1
 ms : ∀ a ∈ m, 0 ≤ a ∧ a ≤ (L : Int)
theorem mem_set {P : Int → Prop} {l : List Int} {i : Nat} {a : Int} (h : ∀ x ∈ l, P x) (ha : P a) : ∀ x ∈ l.set i a, P x := fun x hx => by
 rcases List.mem_or_eq_of_mem_set hx with g | g
 ·exact h x g
 ·rw [g]; exact ha
theorem raft_lp (fu : Nat) (z : TRaft) (n : Nat) (hn : n ≤ 1000) (me nodes wait term vote : Int) (log : List TEntry) (commit role leader clock : Int) (hL : log.length ≤ 1000) : ∀ (d i k : Nat) (v : List Bool) (x m : List Int) (o : TPicks), i + d = n → RRows n log.length v x m → PInv o → d < k →
  ∃ v' x' m' o', diwanplay_Picks_Raft.lp13 fu (n : Int) z k (i : Int) (TRaft.mk me nodes wait term vote log commit role leader v x m clock) o = some (TRaft.mk me nodes wait term vote log commit role leader v' x' m' clock, o') ∧ PInv o' ∧ RRows n log.length v' x' m'
 | 0, i, k, v, x, m, o, hid, hr, ho, hk => by
  obtain ⟨k, rfl⟩ : ∃ j, k = j + 1 := ⟨k - 1, by omega⟩
  rw [diwanplay_Picks_Raft.lp13, br_f (decide_eq_false (by omega))]
  exact ⟨_, _, _, _, rfl, ho, hr⟩
 | d + 1, i, k, v, x, m, o, hid, hr, ho, hk => by
  obtain ⟨k, rfl⟩ : ∃ j, k = j + 1 := ⟨k - 1, by omega⟩
  have hv := hr.lv
  have hx := hr.lx
  have hm := hr.lm
  have wL : w64 ((log.length : Int) + 1) = ((log.length + 1 : Nat) : Int) := by rw [w64_id (by omega) (by omega)]; omega
  have wi : w64 ((i : Int) + 1) = ((i + 1 : Nat) : Int) := by rw [w64_id (by omega) (by omega)]; omega
  obtain ⟨a, o1, h1, i1, a0, a1, _⟩ := num_e ho (m := ((log.length + 1 : Nat) : Int)) (by omega)
  rw [diwanplay_Picks_Raft.lp13, br_t (decide_eq_true (by omega))]
  dsimp only
  rw [wL, bd_s h1]
  dsimp only
  have xm : m[i]? = some m[i] := List.getElem?_eq_getElem (by omega)
  have xm2 : (m.set i a)[i]? = some a := by rw [List.getElem?_set_self (by omega)]
  have xx : x[i]? = some x[i] := List.getElem?_eq_getElem (by omega)
  rw [ix_n xm, Int.toNat_natCast, ix_n xm2, ix_n xx, jn_e, w64_id (n := a + 1) (by omega) (by omega)]
  obtain ⟨b, o2, h2, i2, _⟩ := num_e i1 (m := 3) (by decide)
  rw [bd_s h2]
  dsimp only
  have go : ∀ (x' : List Int) (o : TPicks), PInv o → x'.length = n → (∀ a ∈ x', 0 ≤ a ∧ a ≤ (log.length : Int) + 1) →
    ∃ v' x2 m' o', (bd (diwanplay_Picks_Num 2 o) fun (r22_1, r22_2) => ix v (i : Int) fun x22_4 => diwanplay_Picks_Raft.lp13 fu (n : Int) z k (w64 ((i : Int) + 1)) (TRaft.mk me nodes wait term vote log commit role leader (v.set i (r22_1 == 0)) x' (m.set i a) clock) r22_2) = some (TRaft.mk me nodes wait term vote log commit role leader v' x2 m' clock, o') ∧ PInv o' ∧ RRows n log.length v' x2 m' := by
   intro x' o ho hx' hxs
   obtain ⟨c, o3, h3, i3, _⟩ := num_e ho (m := 2) (by decide)
   rw [bd_s h3]
   dsimp only
   rw [ix_n (List.getElem?_eq_getElem (show i < v.length by omega)), wi]
   exact raft_lp fu z n hn me nodes wait term vote log commit role leader clock hL d (i + 1) k _ _ _ o3 (by omega) ⟨by simp [hv], hx', by simp [hm], hxs, mem_set hr.ms ⟨a0, by omega⟩⟩ i3 (by omega)
  cases (b == 0)
  ·rw [br_f rfl]
   exact go _ _ i2 (by simp [hx]) (mem_set hr.xs ⟨by omega, by omega⟩)
  ·obtain ⟨c, o3, h3, i3, c0, c1, _⟩ := num_e i2 (m := ((log.length + 1 : Nat) : Int)) (by omega)
   rw [br_t rfl, bd_s h3]
   dsimp only
   have x2 : (x.set i (a + 1))[i]? = some (a + 1) := by rw [List.getElem?_set_self (by omega)]
   rw [ix_n x2, w64_id (n := 1 + c) (by omega) (by omega)]
   exact go _ _ i3 (by simp [hx]) (mem_set (mem_set hr.xs ⟨by omega, by omega⟩) ⟨by omega, by omega⟩)
structure MadeOk (r : TRaft) : Prop where
 may : MayP r
 rows : RRows r.Nodes.toNat r.Log.length r.Votes r.Next r.Match
 len : r.Log.length ≤ 7
 term : 1 ≤ r.Term ∧ r.Term ≤ 9
 smt : ∀ e ∈ r.Log, Smt e
 clock : r.Clock ≤ 60
theorem lastR : ∀ {l : List TEntry} {a t : Int} {x : TEntry} {u : Int}, Rise a t l → l[l.length - 1]? = some x → x.Term ≤ u → Rise a u l
 | [], _, _, _, _, _, _, _ => trivial
 | [e], _, _, x, _, h, hx, hu => by simp at hx; subst hx; exact ⟨h.1, hu, trivial⟩
 | e :: f :: l, a, t, x, u, h, hx, hu => by
  have ih := lastR (l := f :: l) h.2.2 (by simpa using hx) hu
  exact ⟨h.1, Int.le_trans ih.1 ih.2.1, ih⟩
theorem raft_e {fu : Nat} (hf : 20 ≤ fu) {o : TPicks} (h : PInv o) : ∃ r o', diwanplay_Picks_Raft fu o = some (r, o') ∧ PInv o' ∧ MadeOk r := by
 unfold diwanplay_Picks_Raft
 obtain ⟨a, o1, h1, i1, a0, a1, _⟩ := num_e h (m := 5) (by decide)
 obtain ⟨n, hn⟩ : ∃ n : Nat, 1 + a = (n : Int) := ⟨(1 + a).toNat, by omega⟩
 rw [bd_s h1]
 dsimp only
 rw [w64_id (n := 1 + a) (by omega) (by omega)]
 obtain ⟨b, o2, h2, i2, b0, b1, _⟩ := num_e i1 (m := 1 + a) (by omega)
 rw [bd_s h2]
 dsimp only
 obtain ⟨c, o3, h3, i3, c0, c1, _⟩ := num_e i2 (m := 9) (by decide)
 rw [bd_s h3]
 dsimp only
 rw [w64_id (n := 1 + b) (by omega) (by omega), w64_id (n := 3 + c) (by omega) (by omega), bd_s (rnew_e hn (by omega))]
 obtain ⟨d, o4, h4, i4, d0, d1, _⟩ := num_e i3 (m := 8) (by decide)
 rw [bd_s h4]
 dsimp only
 obtain ⟨L, rfl⟩ : ∃ L : Nat, d = (L : Int) := ⟨d.toNat, by omega⟩
 obtain ⟨l, o5, h5, i5, l1, l2, l3⟩ := log_e (fu := fu) hf (N := L) (by omega) (by omega) i4
 rw [bd_s h5]
 dsimp only
 obtain ⟨e, o6, h6, i6, e0, e1, _⟩ := num_e i5 (m := 3) (by decide)
 rw [bd_s h6]
 dsimp only
 rw [jn_e, w64_id (n := 1 + e) (by omega) (by omega), w64_id (n := 1 + a + 1) (by omega) (by omega)]
 have rest : ∀ (t : Int) (o : TPicks), PInv o → 1 ≤ t → t ≤ 9 → Rise 1 t l → ∃ r o', (bd (diwanplay_Picks_Num (w64 ((l.length : Int) + 1)) o) fun (r10_1, r10_2) =>
   bd (diwanplay_Picks_Num 3 r10_2) fun (r11_1, r11_2) =>
   bd (diwanplay_Picks_Num (1 + a + 1) r11_2) fun (r11_4, r11_5) =>
   bd (diwanplay_Picks_Num (1 + a + 1) r11_5) fun (r11_7, r11_8) =>
   bd (diwanplay_Picks_Num (3 + c) r11_8) fun (r11_10, r11_11) =>
   bd (diwanplay_Picks_Raft.lp13 fu (1 + a) (TRaft.mk 0 0 0 0 0 [] 0 0 0 [] [] [] 0) fu 0 (TRaft.mk (1 + b) (1 + a) (3 + c) t r11_4 l r10_1 r11_1 r11_7 (List.replicate n false) (List.replicate n 0) (List.replicate n 0) r11_10) r11_11) fun (y24_0, y24_1) =>
   br (y24_0.Role == 2)
    (ix y24_0.Match (w64 (y24_0.Me - 1)) fun x27_1 =>
    some ((TRaft.mk y24_0.Me y24_0.Nodes y24_0.Wait y24_0.Term y24_0.Vote y24_0.Log y24_0.Commit y24_0.Role y24_0.Me y24_0.Votes y24_0.Next (y24_0.Match.set (w64 (y24_0.Me - 1)).toNat (y24_0.Log.length : Int)) y24_0.Clock), y24_1))
    (some (y24_0, y24_1))) = some (r, o') ∧ PInv o' ∧ MadeOk r := by
  intro t o ho t0 t1 hR
  have wL : w64 ((l.length : Int) + 1) = (l.length : Int) + 1 := w64_id (by omega) (by omega)
  obtain ⟨f, o7, h7, i7, f0, f1, _⟩ := num_e ho (m := (l.length : Int) + 1) (by omega)
  rw [wL, bd_s h7]
  dsimp only
  obtain ⟨g, o8, h8, i8, g0, g1, _⟩ := num_e i7 (m := 3) (by decide)
  rw [bd_s h8]
  dsimp only
  obtain ⟨p, o9, h9, i9, p0, p1, _⟩ := num_e i8 (m := 1 + a + 1) (by omega)
  rw [bd_s h9]
  dsimp only
  obtain ⟨q, oa, ha, ia, q0, q1, _⟩ := num_e i9 (m := 1 + a + 1) (by omega)
  rw [bd_s ha]
  dsimp only
  obtain ⟨s, ob, hb, ib, s0, s1, _⟩ := num_e ia (m := 3 + c) (by omega)
  rw [bd_s hb]
  dsimp only
  rw [hn]
  obtain ⟨v, x, m, oc, hc, ic, hr⟩ := raft_lp fu (TRaft.mk 0 0 0 0 0 [] 0 0 0 [] [] [] 0) n (by omega) (1 + b) (n : Int) (3 + c) t p l f g q s (by omega) n 0 fu (List.replicate n false) (List.replicate n 0) (List.replicate n 0) ob (by omega)
   ⟨by simp, by simp, by simp, fun y hy => by rw [List.eq_of_mem_replicate hy]; omega, fun y hy => by rw [List.eq_of_mem_replicate hy]; omega⟩ ib (by omega)
  simp only [Int.natCast_zero] at hc
  rw [bd_s hc]
  dsimp only
  have hrv := hr.lv
  have hrx := hr.lx
  have hrm := hr.lm
  by_cases hg : g = 2
  ·obtain ⟨k, hk⟩ : ∃ k : Nat, b = (k : Int) := ⟨b.toNat, by omega⟩
   have wb : w64 (1 + b - 1) = (k : Int) := by rw [w64_id (by omega) (by omega)]; omega
   rw [br_t (by simpa using hg), wb, ix_n (List.getElem?_eq_getElem (show k < m.length by omega)), Int.toNat_natCast]
   refine ⟨_, oc, rfl, ic, ?_⟩
   exact { may := ⟨⟨by show (1 : Int) ≤ n; omega, by show (n : Int) ≤ 5; omega⟩, ⟨by show 1 ≤ 1 + b; omega, by show 1 + b ≤ n; omega⟩, ⟨by show 1 ≤ 3 + c; omega, by show 3 + c ≤ 60; omega⟩, by show 0 ≤ t; omega, ⟨p0, by show p ≤ n; omega⟩, ⟨by show 0 ≤ 1 + b; omega, by show 1 + b ≤ n; omega⟩, by show l.length ≤ 200; omega, ⟨f0, by show f ≤ l.length; omega⟩, ⟨g0, by show g ≤ 2; omega⟩, s0, by show (v.length : Int) = n; omega, by show (x.length : Int) = n; omega, by show ((m.set k _).length : Int) = n; rw [List.length_set]; omega, hR⟩
           rows := ⟨by show v.length = (n : Int).toNat; omega, by show x.length = (n : Int).toNat; omega, by show (m.set k _).length = (n : Int).toNat; rw [List.length_set]; omega, hr.xs, mem_set hr.ms ⟨by show 0 ≤ (l.length : Int); omega, by show (l.length : Int) ≤ l.length; omega⟩⟩
           len := by show l.length ≤ 7; omega
           term := ⟨t0, t1⟩
           smt := l3
           clock := by show s ≤ 60; omega }
  ·rw [br_f (by simpa using hg)]
   refine ⟨_, oc, rfl, ic, ?_⟩
   exact { may := ⟨⟨by show (1 : Int) ≤ n; omega, by show (n : Int) ≤ 5; omega⟩, ⟨by show 1 ≤ 1 + b; omega, by show 1 + b ≤ n; omega⟩, ⟨by show 1 ≤ 3 + c; omega, by show 3 + c ≤ 60; omega⟩, by show 0 ≤ t; omega, ⟨p0, by show p ≤ n; omega⟩, ⟨q0, by show q ≤ n; omega⟩, by show l.length ≤ 200; omega, ⟨f0, by show f ≤ l.length; omega⟩, ⟨g0, by show g ≤ 2; omega⟩, s0, by show (v.length : Int) = n; omega, by show (x.length : Int) = n; omega, by show (m.length : Int) = n; omega, hR⟩
           rows := ⟨by show v.length = (n : Int).toNat; omega, by show x.length = (n : Int).toNat; omega, by show m.length = (n : Int).toNat; omega, hr.xs, hr.ms⟩
           len := by show l.length ≤ 7; omega
           term := ⟨t0, t1⟩
           smt := l3
           clock := by show s ≤ 60; omega }
 by_cases hl : (l.length : Int) > 0
 ·have wl : w64 ((l.length : Int) - 1) = ((l.length - 1 : Nat) : Int) := by rw [w64_id (by omega) (by omega)]; omega
  have hx : l[l.length - 1]? = some l[l.length - 1] := List.getElem?_eq_getElem (by omega)
  obtain ⟨f, o7, h7, i7, f0, f1, _⟩ := num_e i6 (m := 2) (by decide)
  have hT := l2.all _ (List.mem_of_getElem? hx)
  rw [br_t (decide_eq_true hl), wl, ix_n hx, bd_s h7]
  dsimp only
  rw [w64_id (n := l[l.length - 1].Term + f) (by omega) (by omega)]
  exact rest _ _ i7 (by split <;> omega) (by split <;> omega) (lastR l2 hx (by split <;> omega))
 ·have : l = [] := List.length_eq_zero_iff.1 (by omega)
  rw [br_f (decide_eq_false hl)]
  exact rest (1 + e) _ i6 (by omega) (by omega) (by rw [this]; trivial)
end Go.Proofs.Ythpokjkbcdfhiaa.Told.RA
