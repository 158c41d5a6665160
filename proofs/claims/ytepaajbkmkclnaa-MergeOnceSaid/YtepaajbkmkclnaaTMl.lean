/- Logs out of numbers, transactions and places that are the same as themselves, who comes first. -/
import Derived.Test.YtepaajbkmkclnaaTMw
import Derived.Test.YtepaajbkmkclnaaTPk1
namespace Go.Proofs.Ytepaajbkmkclnaa.Told.MH
open Go Go.Proofs.Ytepaajbkmkclnaa.Vam Go.Proofs.Ytepaajbkmkclnaa.Told Go.Proofs.Ytepaajbkmkclnaa.Told.EP Go.Proofs.Ytepaajbkmkclnaa.Told.PK Go.Proofs.Ytepaajbkmkclnaa.Ep
set_option linter.unusedSimpArgs false
set_option linter.unusedVariables false
def EnOk (e : TEntry) : Prop := e.T.Reads.length ≤ 10 ∧ e.T.Writes.length ≤ 10 ∧ e.T.Session ≤ 3
theorem log_lp (fu : Nat) (hf : 20 ≤ fu) (N : Nat) (hN : N ≤ 100000) : ∀ (d i m : Nat) (l : List TEntry) (t : Int) (o : TPicks), i + d = N → l.length = i → PInv o → d < m → 1 ≤ t → t ≤ i + 1 → (∀ e ∈ l, EnOk e) →
  ∃ l' o', diwanplay_Picks_Log.lp5 fu (N : Int) m l t (i : Int) o = some (l', o') ∧ PInv o' ∧ l'.length = N ∧ ∀ e ∈ l', EnOk e
 | 0, i, m, l, t, o, hid, hl, ho, hm, t0, t1, he => by
  obtain ⟨m, rfl⟩ : ∃ k, m = k + 1 := ⟨m - 1, by omega⟩
  rw [diwanplay_Picks_Log.lp5, br_f (decide_eq_false (by omega))]
  exact ⟨_, _, rfl, ho, by omega, he⟩
 | d + 1, i, m, l, t, o, hid, hl, ho, hm, t0, t1, he => by
  obtain ⟨m, rfl⟩ : ∃ k, m = k + 1 := ⟨m - 1, by omega⟩
  obtain ⟨a, o1, h1, i1, _⟩ := num_e ho (m := 4) (by decide)
  rw [diwanplay_Picks_Log.lp5, br_t (decide_eq_true (by omega))]
  simp only [jn_e]
  rw [bd_s h1]
  dsimp only
  rw [w64_id (n := (i : Int) + 1) (by omega) (by omega), show (i : Int) + 1 = ((i + 1 : Nat) : Int) by omega, w64_id (n := t + 1) (by omega) (by omega)]
  have ih := fun (e : TEntry) (t : Int) (o : TPicks) (h : PInv o) (t0 : 1 ≤ t) (t1 : t ≤ i + 2) (hte : EnOk e) => log_lp fu hf N hN d (i + 1) m (l ++ [e]) t o (by omega) (by simp [hl]) h (by omega) t0 (by omega) fun x hx => by
   rcases List.mem_append.1 hx with g | g
   ·exact he x g
   ·simp at g; subst g; exact hte
  have hg : ∀ e : TEntry, decide (l.length + ([e] : List TEntry).length ≤ 4294967296) = true := fun e => decide_eq_true (by simp; omega)
  have rest : ∀ t : Int, 1 ≤ t → t ≤ i + 2 → ∃ l' o', (bd (diwanplay_Picks_Num 3 o1) fun (r12_1, r12_2) =>
    br (!(r12_1 == 0))
     (bd (diwanplay_Picks_Txn fu ((i + 1 : Nat) : Int) r12_2) fun (r15_1, r15_2) =>
     gd (decide (l.length + ([(TEntry.mk t (r12_1 == 0) r15_1)] : List TEntry).length ≤ 4294967296)) <|
     diwanplay_Picks_Log.lp5 fu (N : Int) m (l ++ ([(TEntry.mk t (r12_1 == 0) r15_1)] : List TEntry)) t ((i + 1 : Nat) : Int) r15_2)
     (gd (decide (l.length + ([(TEntry.mk t (r12_1 == 0) (TTxn.mk 0 0 [] []))] : List TEntry).length ≤ 4294967296)) <|
     diwanplay_Picks_Log.lp5 fu (N : Int) m (l ++ ([(TEntry.mk t (r12_1 == 0) (TTxn.mk 0 0 [] []))] : List TEntry)) t ((i + 1 : Nat) : Int) r12_2)) = some (l', o') ∧ PInv o' ∧ l'.length = N ∧ ∀ e ∈ l', EnOk e := by
   intro t t0 t1
   obtain ⟨b, o2, h2, i2, _⟩ := num_e i1 (m := 3) (by decide)
   rw [bd_s h2]
   dsimp only
   cases (b == 0)
   ·obtain ⟨x, o3, h3, i3, hx⟩ := txn_e hf ((i + 1 : Nat) : Int) i2
    rw [br_t (by rfl), bd_s h3]
    dsimp only
    rw [gd_t (hg _)]
    exact ih _ _ _ i3 t0 t1 ⟨by have := hx.rl; show x.Reads.length ≤ 10; omega, by have := hx.wl; show x.Writes.length ≤ 10; omega, hx.se.2⟩
   ·rw [br_f (by rfl), gd_t (hg _)]
    exact ih _ _ _ i2 t0 t1 ⟨Nat.zero_le _, Nat.zero_le _, by show (0 : Int) ≤ 3; decide⟩
  cases (a == 0)
  ·rw [br_f rfl]; exact rest t t0 (by omega)
  ·rw [br_t rfl]; exact rest (t + 1) (by omega) (by omega)
theorem log_e {fu N : Nat} (hf : 20 ≤ fu) (hN : N < fu) (hN' : N ≤ 100000) {o : TPicks} (h : PInv o) : ∃ l o', diwanplay_Picks_Log fu (N : Int) o = some (l, o') ∧ PInv o' ∧ l.length = N ∧ ∀ e ∈ l, EnOk e := by
 unfold diwanplay_Picks_Log
 obtain ⟨l, o', h1, h2⟩ := log_lp fu hf N hN' N 0 fu [] 1 o (by omega) rfl h (by omega) (by decide) (by omega) (by simp)
 simp only [Int.natCast_zero] at h1
 rw [bd_s h1]
 exact ⟨l, o', rfl, h2⟩
def LogsOk (L : List (List TEntry)) : Prop := ∀ l ∈ L, l.length ≤ 15 ∧ ∀ e ∈ l, EnOk e
theorem logs_lp (fu : Nat) (hf : 100 ≤ fu) : ∀ (d m : Nat) (L : List (List TEntry)) (o : TPicks), d < m → L.length + d ≤ 3 → LogsOk L → PInv o → ∃ L', diwanlaw14_logs.lp5 fu m L (d : Int) o = some L' ∧ L'.length ≤ 3 ∧ LogsOk L'
 | 0, m, L, o, hm, hl, hL, ho => by
  obtain ⟨m, rfl⟩ : ∃ k, m = k + 1 := ⟨m - 1, by omega⟩
  rw [diwanlaw14_logs.lp5, br_f (decide_eq_false (by omega))]
  exact ⟨L, rfl, by omega, hL⟩
 | d + 1, m, L, o, hm, hl, hL, ho => by
  obtain ⟨m, rfl⟩ : ∃ k, m = k + 1 := ⟨m - 1, by omega⟩
  obtain ⟨a, o1, h1, i1, a0, a1, _⟩ := num_e ho (m := 16) (by decide)
  obtain ⟨N, rfl⟩ : ∃ N : Nat, a = (N : Int) := ⟨a.toNat, by omega⟩
  obtain ⟨l, o2, h2, i2, l1, l2⟩ := log_e (fu := fu) (N := N) (by omega) (by omega) (by omega) i1
  rw [diwanlaw14_logs.lp5, br_t (decide_eq_true (by omega)), bd_s h1]
  dsimp only
  rw [bd_s h2]
  dsimp only
  rw [gd_t (decide_eq_true (by simp; omega)), w64_id (by omega) (by omega), show ((d + 1 : Nat) : Int) - 1 = (d : Int) by omega]
  exact logs_lp fu hf d m (L ++ [l]) o2 (by omega) (by simp; omega) (fun x hx => by
   rcases List.mem_append.1 hx with g | g
   ·exact hL x g
   ·rw [List.mem_singleton.1 g]; exact ⟨by omega, l2⟩) i2
theorem logs_e {fu : Nat} (hf : 100 ≤ fu) {picks : List Int} (hp : ∀ x ∈ picks, okI .u8 x) (hl : picks.length ≤ 1000000) : ∃ L, diwanlaw14_logs fu picks = some L ∧ L.length ≤ 3 ∧ LogsOk L := by
 unfold diwanlaw14_logs
 have hm : diwanplay_Made picks = some (TPicks.mk picks 0) := rfl
 rw [bd_s hm]
 obtain ⟨a, o1, h1, i1, a0, a1, _⟩ := num_e (made_inv hp hl) (m := 4) (by decide)
 obtain ⟨N, rfl⟩ : ∃ N : Nat, a = (N : Int) := ⟨a.toNat, by omega⟩
 rw [bd_s h1]
 dsimp only
 obtain ⟨L, e1, e2, e3⟩ := logs_lp fu hf N fu [] o1 (by omega) (by simp; omega) (fun x hx => by cases hx) i1
 rw [bd_s e1]
 exact ⟨L, rfl, e2, e3⟩
theorem LogsOk.lg {L : List (List TEntry)} (h : LogsOk L) (h1 : 1 ≤ L.length) (h3 : L.length ≤ 3) : LG L := ⟨⟨h1, h3⟩, fun l hl => by have := (h l hl).1; omega, fun l hl e he => ⟨((h l hl).2 e he).1, ((h l hl).2 e he).2.1⟩⟩
theorem rs_lp (fu : Nat) : ∀ (r q : List TRead) (n : Nat), (q ++ r).length ≤ 1000000 → r.length < n → diwanref1_SameReads.lp6 fu (q ++ r) (q ++ r) n (q.length : Int) = some (.inl ())
 | [], q, n, hl, hn => by
  obtain ⟨n, rfl⟩ : ∃ m, n = m + 1 := ⟨n - 1, by omega⟩
  simp only [List.append_nil]
  rw [diwanref1_SameReads.lp6, br_f (nlt_end _)]
 | x :: r, q, n, hl, hn => by
  obtain ⟨n, rfl⟩ : ∃ m, n = m + 1 := ⟨n - 1, by omega⟩
  have e1 : q ++ x :: r = (q ++ [x]) ++ r := by simp
  have ih := rs_lp fu r (q ++ [x]) n (by rw [← e1]; exact hl) (by simp at hn; omega)
  rw [← e1] at ih
  rw [diwanref1_SameReads.lp6, br_t (lt_mid _ _ _), ix_mid, ix_mid, br_f (by simp), w64_len q r x (by omega)]
  exact ih
theorem ws_lp (fu : Nat) (t : TTxn) (hl : t.Writes.length ≤ 1000000) : ∀ (d i n : Nat), i + d = t.Writes.length → d < n → diwanref1_SameTxn.lp9 fu t t n (i : Int) = some (.inl ())
 | 0, i, n, hi, hn => by
  obtain ⟨n, rfl⟩ : ∃ m, n = m + 1 := ⟨n - 1, by omega⟩
  rw [diwanref1_SameTxn.lp9, br_f (decide_eq_false (by omega))]
 | d + 1, i, n, hi, hn => by
  obtain ⟨n, rfl⟩ : ∃ m, n = m + 1 := ⟨n - 1, by omega⟩
  have hx : t.Writes[i]? = some t.Writes[i] := List.getElem?_eq_getElem (by omega)
  have hw : w64 ((i : Int) + 1) = ((i + 1 : Nat) : Int) := by rw [w64_id (by omega) (by omega)]; omega
  rw [diwanref1_SameTxn.lp9, br_t (decide_eq_true (by omega)), ix_n hx, ix_n hx, br_f (by simp), hw]
  exact ws_lp fu t hl d (i + 1) n (by omega) (by omega)
theorem same_e {fu : Nat} {t : TTxn} (h1 : t.Reads.length ≤ 10) (h2 : t.Writes.length ≤ 10) (hf : 20 ≤ fu) : diwanref1_SameTxn fu t t = some true := by
 unfold diwanref1_SameTxn diwanref1_SameReads
 have r := rs_lp fu t.Reads [] fu (by simp; omega) (by omega)
 simp only [List.nil_append, List.length_nil, Int.natCast_zero] at r
 have w := ws_lp fu t (by omega) t.Writes.length 0 fu (by omega) (by omega)
 simp only [Int.natCast_zero] at w
 rw [br_f (by simp), br_f (by simp), br_f (by simp), br_f (by simp), r]
 refine (bd_s (x := true) rfl).trans ?_
 rw [br_f (b := !true) rfl, bd_s w]
theorem ord_mem {L : List (List TEntry)} (h : LG L) {t : Nat} {x : TPlace} (hx : x ∈ ord L t) : ∃ p i, p < L.length ∧ x = TPlace.mk (p : Int) i (enT (lg L p) i) ∧ 1 ≤ i ∧ i ≤ ((lg L p).length : Int) := by
 unfold ord at hx
 obtain ⟨u, _, hu⟩ := List.mem_flatMap.1 hx
 unfold plc at hu
 obtain ⟨i, hi, rfl⟩ := List.mem_map.1 hu
 have := bat_bd i hi
 exact ⟨u % L.length, i, Nat.mod_lt _ h.n1.1, rfl, this.1, this.2⟩
theorem ord_txn {L : List (List TEntry)} (h : LG L) {t : Nat} {x : TPlace} (hx : x ∈ ord L t) : ∃ l ∈ L, ∃ e ∈ l, x.T = e.T := by
 obtain ⟨p, i, hp, rfl, h1, h2⟩ := ord_mem h hx
 obtain ⟨e, he, hT⟩ := enT_get h1 h2
 exact ⟨_, lg_mem hp, e, List.mem_of_getElem? he, hT.symm⟩
end Go.Proofs.Ytepaajbkmkclnaa.Told.MH
