/- Letters that are made of picks: they may be. -/
import Derived.Test.YtbflggolnolaeaaTMg5
import Derived.Test.YtbflggolnolaeaaTPk1
namespace Go.Proofs.Ytbflggolnolaeaa.Told.MG
open Go Go.Proofs.Ytbflggolnolaeaa.Vam Go.Proofs.Ytbflggolnolaeaa.Told Go.Proofs.Ytbflggolnolaeaa.Told.ST Go.Proofs.Ytbflggolnolaeaa.Told.PK
set_option linter.unusedSimpArgs false
set_option linter.unusedVariables false
theorem six_sz {k : ByteArray} (h : k ∈ six) : k.size ≤ 2 := by
 simp only [six, List.mem_cons, List.not_mem_nil, or_false] at h
 rcases h with rfl | rfl | rfl | rfl | rfl | rfl <;> decide
theorem six_may {fu : Nat} (hf : 10 ≤ fu) {k : ByteArray} (h : k ∈ six) : key_name_may fu k = some true := by
 obtain ⟨n, rfl⟩ : ∃ n, fu = n + 10 := ⟨fu - 10, by omega⟩
 simp only [six, List.mem_cons, List.not_mem_nil, or_false] at h
 rcases h with rfl | rfl | rfl | rfl | rfl | rfl <;> rfl
theorem six_srt : six.Pairwise (fun a b => kl a b = true) := by
 simp only [six, List.pairwise_cons, List.mem_cons, List.not_mem_nil, or_false, forall_eq_or_imp, forall_eq, List.Pairwise.nil, and_true, false_imp_iff, implies_true]
 and_intros <;> kernel_rfl
theorem rising_lp (fu : Nat) (hf : 10 ≤ fu) : ∀ (r q : List ByteArray) (n : Nat), (q ++ r).length ≤ 1000000 → (∀ k ∈ q ++ r, k ∈ six) → (q ++ r).Pairwise (fun a b => kl a b = true) → r.length < n →
  key_Rising.lp4 fu (q ++ r) (q ++ r) ((q ++ r).length : Int) n (q.length : Int) = some (.inl ())
 | [], q, n, hl, hk, hs, hn => by
  obtain ⟨n, rfl⟩ : ∃ m, n = m + 1 := ⟨n - 1, by omega⟩
  simp only [List.append_nil]
  rw [key_Rising.lp4, br_f (nlt_end _)]
 | k :: r, q, n, hl, hk, hs, hn => by
  obtain ⟨n, rfl⟩ : ∃ m, n = m + 1 := ⟨n - 1, by omega⟩
  have e : q ++ k :: r = (q ++ [k]) ++ r := by simp
  have ih := rising_lp fu hf r (q ++ [k]) n (by rw [← e]; exact hl) (by rw [← e]; exact hk) (by rw [← e]; exact hs) (by simp at hn; omega)
  rw [← e] at ih
  rw [key_Rising.lp4, br_t (lt_mid _ _ _), ix_mid, bd_s (six_may hf (hk k (by simp))), br_f (by rfl), w64_len q r k (by omega), ih]
  rcases List.eq_nil_or_concat q with rfl | ⟨q0, u, hu⟩
  ·rw [br_f (by rfl)]
  ·rw [List.concat_eq_append] at hu
   have hlen : q.length = q0.length + 1 := by rw [hu]; simp
   have hw : w64 ((q.length : Int) - 1) = (q0.length : Int) := by rw [w64_id (by omega) (by simp at hl; omega)]; omega
   have hx : (q ++ k :: r)[q0.length]? = some u := by rw [hu]; simp
   have huk : kl u k = true := (List.pairwise_append.1 hs).2.2 u (by rw [hu]; simp) k (by simp)
   rw [br_t (decide_eq_true (by omega)), hw, ix_n hx, br_f (by show (!(kl u k)) = false; rw [huk]; rfl)]
theorem ris_six {fu : Nat} (hf : 10 ≤ fu) {l : List ByteArray} (h : l.Sublist six) : risB fu l = true := by
 have hl : l.length ≤ 6 := h.length_le
 have := rising_lp fu hf l [] fu (by simp; omega) (fun k hk => h.subset (by simpa using hk)) (by simpa using six_srt.sublist h) (by omega)
 simp only [List.nil_append, List.length_nil, Int.natCast_zero] at this
 unfold risB key_Rising
 rw [this]; rfl
theorem val_sz {v : ByteArray} (h : v ∈ vals) : v.size ≤ 16 := by
 simp only [vals, List.mem_cons, List.not_mem_nil, or_false] at h
 rcases h with rfl | rfl | rfl | rfl | rfl <;> decide
theorem rd_ok {most : Int} {r : TRead} (h : RdOk most r) : rdOk r = true ∧ r.Version < 256 ∧ 0 ≤ r.Version := by
 obtain ⟨h1, h2, h3, h4, h5, h6⟩ := h
 refine ⟨?_, h3, h1⟩
 unfold rdOk
 have := val_sz h4
 rw [decide_eq_true h1, decide_eq_true (by omega)]
 cases ht : r.There
 ·rw [h5 ht, beq_self_eq_true]; rfl
 ·have := h6 ht
  rw [beq_eq_false_iff_ne.2 (show r.Version ≠ 0 by omega)]; rfl
theorem wr_ok {w : TWrite} (h : WrOk w) : wrOk w = true := by
 unfold wrOk
 have := val_sz h.1
 rw [decide_eq_true (by omega)]
 cases ht : w.Gone
 ·rfl
 ·rw [h.2 ht, beq_self_eq_true]; rfl
theorem tx_ok {fu : Nat} (hf : 10 ≤ fu) {most : Int} {t : TTxn} (h : TxOk most t) : txnB fu t = true ∧ TxF fu t ∧ VerT t := by
 have h1 := h.se
 have h2 := h.sq
 have h3 := h.rl
 have h4 := h.wl
 refine ⟨?_, ⟨by omega, by omega, fun x hx => ?_, fun x hx => ?_⟩, fun x hx => by have := (rd_ok (h.rv x hx)).2; omega⟩
 ·unfold txnB
  rw [decide_eq_true (by omega), decide_eq_true (by omega), decide_eq_true (by omega), decide_eq_true (by omega), decide_eq_true (by omega), ris_six hf h.rk, decide_eq_true (by omega), ris_six hf h.wk, List.all_eq_true.2 fun x hx => (rd_ok (h.rv x hx)).1, List.all_eq_true.2 fun x hx => wr_ok (h.wv x hx)]; rfl
 ·have := six_sz (h.rk.subset (List.mem_map_of_mem hx)); omega
 ·have := six_sz (h.wk.subset (List.mem_map_of_mem hx)); omega
def EnOk (e : TEntry) : Prop := (e.Seal = true ∧ e.T = TTxn.mk 0 0 [] []) ∨ (e.Seal = false ∧ ∃ most, TxOk most e.T)
theorem log_lp (fu : Nat) (hf : 20 ≤ fu) (N : Nat) (hN : N ≤ 1000) : ∀ (d i m : Nat) (l : List TEntry) (t : Int) (o : TPicks), i + d = N → l.length = i → PInv o → d < m → 1 ≤ t → t ≤ i + 1 → (∀ e ∈ l, EnOk e ∧ 1 ≤ e.Term ∧ e.Term ≤ i + 1) →
  ∃ l' o', diwanplay_Picks_Log.lp5 fu (N : Int) m l t (i : Int) o = some (l', o') ∧ PInv o' ∧ l'.length = N ∧ ∀ e ∈ l', EnOk e ∧ 1 ≤ e.Term ∧ e.Term ≤ N + 1
 | 0, i, m, l, t, o, hid, hl, ho, hm, t0, t1, he => by
  obtain ⟨m, rfl⟩ : ∃ k, m = k + 1 := ⟨m - 1, by omega⟩
  rw [diwanplay_Picks_Log.lp5, br_f (decide_eq_false (by omega))]
  exact ⟨_, _, rfl, ho, by omega, fun e h => by have := he e h; exact ⟨this.1, by omega⟩⟩
 | d + 1, i, m, l, t, o, hid, hl, ho, hm, t0, t1, he => by
  obtain ⟨m, rfl⟩ : ∃ k, m = k + 1 := ⟨m - 1, by omega⟩
  obtain ⟨a, o1, h1, i1, _⟩ := num_e ho (m := 4) (by decide)
  rw [diwanplay_Picks_Log.lp5, br_t (decide_eq_true (by omega))]
  simp only [jn_e]
  rw [bd_s h1]
  dsimp only
  rw [w64_id (n := (i : Int) + 1) (by omega) (by omega), show (i : Int) + 1 = ((i + 1 : Nat) : Int) by omega, w64_id (n := t + 1) (by omega) (by omega)]
  have ih := fun (e : TEntry) (t : Int) (o : TPicks) (h : PInv o) (t0 : 1 ≤ t) (t1 : t ≤ i + 2) (hte : e.Term = t) (hen : EnOk e) => log_lp fu hf N hN d (i + 1) m (l ++ [e]) t o (by omega) (by simp [hl]) h (by omega) t0 (by omega) (fun x hx => by
   rcases List.mem_append.1 hx with g | g
   ·have := he x g; exact ⟨this.1, by omega⟩
   ·simp at g; subst g; exact ⟨hen, by omega⟩)
  have hg : ∀ e : TEntry, decide (l.length + ([e] : List TEntry).length ≤ 4294967296) = true := fun e => decide_eq_true (by simp; omega)
  have rest : ∀ t : Int, 1 ≤ t → t ≤ i + 2 → ∃ l' o', (bd (diwanplay_Picks_Num 3 o1) fun (r12_1, r12_2) =>
    br (!(r12_1 == 0))
     (bd (diwanplay_Picks_Txn fu ((i + 1 : Nat) : Int) r12_2) fun (r15_1, r15_2) =>
     gd (decide (l.length + ([(TEntry.mk t (r12_1 == 0) r15_1)] : List TEntry).length ≤ 4294967296)) <|
     diwanplay_Picks_Log.lp5 fu (N : Int) m (l ++ ([(TEntry.mk t (r12_1 == 0) r15_1)] : List TEntry)) t ((i + 1 : Nat) : Int) r15_2)
     (gd (decide (l.length + ([(TEntry.mk t (r12_1 == 0) (TTxn.mk 0 0 [] []))] : List TEntry).length ≤ 4294967296)) <|
     diwanplay_Picks_Log.lp5 fu (N : Int) m (l ++ ([(TEntry.mk t (r12_1 == 0) (TTxn.mk 0 0 [] []))] : List TEntry)) t ((i + 1 : Nat) : Int) r12_2)) = some (l', o') ∧ PInv o' ∧ l'.length = N ∧ ∀ e ∈ l', EnOk e ∧ 1 ≤ e.Term ∧ e.Term ≤ N + 1 := by
   intro t t0 t1
   obtain ⟨b, o2, h2, i2, _⟩ := num_e i1 (m := 3) (by decide)
   rw [bd_s h2]
   dsimp only
   cases hb : (b == 0)
   ·obtain ⟨x, o3, h3, i3, x4⟩ := txn_e hf ((i + 1 : Nat) : Int) i2
    rw [br_t (by rfl), bd_s h3]
    dsimp only
    rw [gd_t (hg _)]
    exact ih _ _ _ i3 t0 t1 rfl (.inr ⟨rfl, _, x4⟩)
   ·rw [br_f (by rfl), gd_t (hg _)]
    exact ih _ _ _ i2 t0 t1 rfl (.inl ⟨rfl, rfl⟩)
  cases (a == 0)
  ·rw [br_f rfl]; exact rest t t0 (by omega)
  ·rw [br_t rfl]; exact rest (t + 1) (by omega) (by omega)
theorem log_e {fu N : Nat} (hf : 20 ≤ fu) (hN : N < fu) (hN' : N ≤ 1000) {o : TPicks} (h : PInv o) : ∃ l o', diwanplay_Picks_Log fu (N : Int) o = some (l, o') ∧ PInv o' ∧ l.length = N ∧ ∀ e ∈ l, EnOk e ∧ 1 ≤ e.Term ∧ e.Term ≤ N + 1 := by
 unfold diwanplay_Picks_Log
 obtain ⟨l, o', h1, h2⟩ := log_lp fu hf N hN' N 0 fu [] 1 o (by omega) rfl h (by omega) (by decide) (by omega) (by simp)
 simp only [Int.natCast_zero] at h1
 rw [bd_s h1]
 exact ⟨l, o', rfl, h2⟩
theorem en_ok {fu : Nat} (hf : 10 ≤ fu) {e : TEntry} (h : EnOk e) (ht : 0 ≤ e.Term ∧ e.Term ≤ 1099511627776) : entB fu e = true ∧ TxF fu e.T ∧ VerT e.T := by
 unfold entB
 rw [decide_eq_true ht.1, decide_eq_true ht.2]
 rcases h with ⟨h1, h2⟩ | ⟨h1, most, h2⟩
 ·rw [h1, h2]
  refine ⟨rfl, ⟨by simp; omega, by simp; omega, fun x hx => (by cases hx), fun x hx => (by cases hx)⟩, fun x hx => (by cases hx)⟩
 ·obtain ⟨g1, g2, g3⟩ := tx_ok hf h2
  rw [h1]
  exact ⟨by simp [g1], g2, g3⟩
structure MadeM (fu : Nat) (m : TMsg) : Prop where
 kd : 1 ≤ m.Kind ∧ m.Kind ≤ 9
 f : MsF fu 100 m
 may : mayM fu m = true
 v : VerM m
theorem mk_ok {fu : Nat} (hf : 200 ≤ fu) {m : TMsg} (hk : 1 ≤ m.Kind ∧ m.Kind ≤ 9) (hb : diwanref1_bare m = some m) (h1 : 1 ≤ m.From ∧ m.From ≤ 5) (h2 : 1 ≤ m.To ∧ m.To ≤ 5) (h3 : m.From ≠ m.To) (h4 : 0 ≤ m.Part ∧ m.Part < 3) (h5 : m.Shard < 3)
  (h6 : ∀ v ∈ numsOf m, 0 ≤ v ∧ v ≤ 1099511627776) (h7 : m.Entries.length ≤ 4 ∧ ∀ e ∈ m.Entries, EnOk e ∧ 0 ≤ e.Term ∧ e.Term ≤ 1099511627776) (h8 : (m.Kind ≠ 5 ∧ m.T = TTxn.mk 0 0 [] []) ∨ ∃ most, TxOk most m.T) (h9 : m.Keys.Sublist six) (h10 : m.FromKey.size ≤ 8 ∧ m.ToKey.size ≤ 8)
  (h11 : (m.Got.map (·.Key)).Sublist six) (h12 : ∃ most, ∀ r ∈ m.Got, RdOk most r) (h13 : 0 ≤ m.Err ∧ m.Err ≤ 6) : MadeM fu m := by
 have l9 := h9.length_le
 have l11 := h11.length_le
 have ls : six.length = 6 := rfl
 rw [ls] at l9 l11
 rw [List.length_map] at l11
 obtain ⟨most, h12⟩ := h12
 have ht : TxF fu m.T ∧ VerT m.T ∧ m.T.Reads.length ≤ 100 ∧ m.T.Writes.length ≤ 100 ∧ (m.Kind = 5 → txnB fu m.T = true) := by
  rcases h8 with ⟨g1, g2⟩ | ⟨mo, g⟩
  ·rw [g2]
   exact ⟨⟨by simp; omega, by simp; omega, fun x hx => (by cases hx), fun x hx => (by cases hx)⟩, fun x hx => (by cases hx), by simp, by simp, fun e => absurd e g1⟩
  ·obtain ⟨q1, q2, q3⟩ := tx_ok (fu := fu) (by omega) g
   have := g.rl
   have := g.wl
   exact ⟨q2, q3, by omega, by omega, fun _ => q1⟩
 have hen := fun e he => en_ok (fu := fu) (by omega) (h7.2 e he).1 (h7.2 e he).2
 have hlen : ∀ e ∈ m.Entries, e.T.Reads.length ≤ 100 ∧ e.T.Writes.length ≤ 100 := fun e he => by
  rcases (h7.2 e he).1 with ⟨_, g⟩ | ⟨_, mo, g⟩
  ·rw [g]; simp
  ·have := g.rl; have := g.wl; omega
 have hbm : bareM m = m := by unfold bareM; rw [hb]; rfl
 refine ⟨hk, ⟨⟨⟨by omega, hlen⟩, ht.2.2.1, ht.2.2.2.1, by omega, by omega⟩, by omega, by omega, by omega, ht.1, fun e he => (hen e he).2.1, fun k hk => by have := six_sz (h9.subset hk); omega, fun r hr => by have := six_sz (h11.subset (List.mem_map_of_mem hr)); omega⟩, ?_, ht.2.1, fun e he => (hen e he).2.2⟩
 unfold mayM
 rw [hbm, (msgB_iff m m).2 rfl, decide_eq_false (p := m.From < 1) (by omega), decide_eq_false (p := m.From > 5) (by omega), decide_eq_false (p := m.To < 1) (by omega), decide_eq_false (p := m.To > 5) (by omega), beq_eq_false_iff_ne.2 h3, decide_eq_false (p := m.Part < 0) (by omega), decide_eq_false (p := m.Part ≥ 3) (by omega), decide_eq_false (p := m.Shard ≥ 3) (by omega), List.all_eq_true.2 (fun v hv => by
   have := h6 v hv
   unfold nmOk
   rw [decide_eq_false (by omega), decide_eq_false (by omega)]; rfl), decide_eq_false (p := (m.Entries.length : Int) > 4) (by omega), List.all_eq_true.2 (fun e he => (hen e he).1), decide_eq_false (p := (m.Keys.length : Int) > 6) (by omega), ris_six (by omega) h9, decide_eq_false (p := (m.FromKey.size : Int) > 8) (by omega), decide_eq_false (p := (m.ToKey.size : Int) > 8) (by omega), decide_eq_true (p := (m.Got.length : Int) ≤ 64) (by omega), ris_six (by omega) h11, List.all_eq_true.2 (fun r hr => by
   have := rd_ok (h12 r hr)
   have := val_sz (h12 r hr).2.2.2.1
   unfold gtOk
   rw [decide_eq_true (by omega), decide_eq_true (by omega), decide_eq_true (by omega)]; rfl), decide_eq_true h13.1, decide_eq_true h13.2]
 by_cases hq : m.Kind = 5
 ·rw [ht.2.2.2.2 hq]; simp
 ·rw [beq_eq_false_iff_ne.2 hq]; rfl
theorem made_e {fu : Nat} (hf : 200 ≤ fu) {picks : List Int} (hp : ∀ x ∈ picks, okI .u8 x) (hl : picks.length ≤ 1000000) : ∃ m, diwanlaw6_made fu picks = some m ∧ MadeM fu m := by
 unfold diwanlaw6_made diwanplay_Made
 rw [bd_s rfl]
 obtain ⟨k, o1, n1, i1, k0, k1, _⟩ := num_e (made_inv hp hl) (m := 9) (by decide)
 rw [bd_s n1]
 dsimp only
 obtain ⟨f, o2, n2, i2, f0, f1, _⟩ := num_e i1 (m := 5) (by decide)
 rw [bd_s n2]
 dsimp only
 obtain ⟨p, o3, n3, i3, p0, p1, _⟩ := num_e i2 (m := 3) (by decide)
 rw [bd_s n3]
 dsimp only
 obtain ⟨u, o4, n4, i4, u0, u1, _⟩ := num_e i3 (m := 4) (by decide)
 rw [bd_s n4]
 dsimp only
 obtain ⟨a, o5, n5, i5, a0, a1, _⟩ := num_e i4 (m := 200) (by decide)
 rw [bd_s n5]
 dsimp only
 obtain ⟨b, o6, n6, i6, b0, b1, _⟩ := num_e i5 (m := 200) (by decide)
 rw [bd_s n6]
 dsimp only
 obtain ⟨c, o7, n7, i7, c0, c1, _⟩ := num_e i6 (m := 9) (by decide)
 rw [bd_s n7]
 dsimp only
 have e1 : w64 (1 + k) = 1 + k := w64_id (by omega) (by omega)
 have e2 : w64 (1 + f) = 1 + f := w64_id (by omega) (by omega)
 have e3 : w64 (1 + f + u) = 1 + f + u := w64_id (by omega) (by omega)
 have e4 : Int.tmod (1 + f + u) 5 = (1 + f + u) % 5 := Int.tmod_eq_emod_of_nonneg (by omega)
 have e5 : w64 (1 + (1 + f + u) % 5) = 1 + (1 + f + u) % 5 := w64_id (by omega) (by omega)
 have e6 : w64 (300 * b) = 300 * b := w64_id (by omega) (by omega)
 have e7 : Int.tmod c 3 = c % 3 := Int.tmod_eq_emod_of_nonneg c0
 rw [e1, e2, e3, e4, e5, e6, e7]
 generalize hT : 1 + (1 + f + u) % 5 = T
 generalize hK : 1 + k = K
 generalize hF : 1 + f = F
 generalize hS : c % 3 = S
 have K0 : 1 ≤ K ∧ K ≤ 9 := by omega
 have F0 : 1 ≤ F ∧ F ≤ 5 := by omega
 have T0 : 1 ≤ T ∧ T ≤ 5 := by omega
 have FT : F ≠ T := by omega
 have S0 : 0 ≤ S ∧ S < 3 := by omega
 have zs : ([] : List ByteArray).Sublist six := List.nil_sublist _
 have z8 : ByteArray.empty.size ≤ 8 := by decide
 have zg : (([] : List TRead).map (·.Key)).Sublist six := List.nil_sublist _
 have zr : ∃ most, ∀ r ∈ ([] : List TRead), RdOk most r := ⟨0, fun r hr => (by cases hr)⟩
 have ze : ([] : List TEntry).length ≤ 4 ∧ ∀ e ∈ ([] : List TEntry), EnOk e ∧ 0 ≤ e.Term ∧ e.Term ≤ 1099511627776 := ⟨by simp, fun e he => (by cases he)⟩
 have z6 : (0 : Int) ≤ 0 ∧ (0 : Int) ≤ 6 := by decide
 by_cases h1 : K = 1
 ·subst h1
  rw [br_t (by rfl)]
  exact ⟨_, rfl, mk_ok hf K0 rfl F0 T0 FT ⟨p0, p1⟩ (show (0 : Int) < 3 by decide) (fun v hv => by simp [numsOf] at hv; omega) ze (.inl ⟨show (1 : Int) ≠ 5 by decide, rfl⟩) zs ⟨z8, z8⟩ zg zr z6⟩
 rw [br_f (beq_eq_false_iff_ne.2 h1)]
 by_cases h2 : K = 2
 ·subst h2
  rw [br_t (by rfl)]
  exact ⟨_, rfl, mk_ok hf K0 rfl F0 T0 FT ⟨p0, p1⟩ (show (0 : Int) < 3 by decide) (fun v hv => by simp [numsOf] at hv; omega) ze (.inl ⟨show (2 : Int) ≠ 5 by decide, rfl⟩) zs ⟨z8, z8⟩ zg zr z6⟩
 rw [br_f (beq_eq_false_iff_ne.2 h2)]
 by_cases h3 : K = 3
 ·subst h3
  rw [br_t (by rfl)]
  obtain ⟨d, o8, n8, i8, d0, d1, _⟩ := num_e i7 (m := 99) (by decide)
  rw [bd_s n8]
  dsimp only
  obtain ⟨g, o9, n9, i9, g0, g1, _⟩ := num_e i8 (m := 5) (by decide)
  rw [bd_s n9]
  dsimp only
  obtain ⟨gn, rfl⟩ := Int.eq_ofNat_of_zero_le g0
  obtain ⟨l, o10, n10, i10, l1, l2⟩ := log_e (fu := fu) (N := gn) (by omega) (by omega) (by omega) i9
  have n10' : diwanplay_Picks_Log fu (Int.ofNat gn) o9 = some (l, o10) := n10
  rw [bd_s n10]
  exact ⟨_, rfl, mk_ok hf K0 rfl F0 T0 FT ⟨p0, p1⟩ (show (0 : Int) < 3 by decide) (fun v hv => by simp [numsOf] at hv; omega) ⟨by show l.length ≤ 4; omega, fun e he => by have := l2 e he; exact ⟨this.1, by omega, by omega⟩⟩ (.inl ⟨show (3 : Int) ≠ 5 by decide, rfl⟩) zs ⟨z8, z8⟩ zg zr z6⟩
 rw [br_f (beq_eq_false_iff_ne.2 h3)]
 by_cases h4 : K = 4
 ·subst h4
  rw [br_t (by rfl)]
  exact ⟨_, rfl, mk_ok hf K0 rfl F0 T0 FT ⟨p0, p1⟩ (show (0 : Int) < 3 by decide) (fun v hv => by simp [numsOf] at hv; omega) ze (.inl ⟨show (4 : Int) ≠ 5 by decide, rfl⟩) zs ⟨z8, z8⟩ zg zr z6⟩
 rw [br_f (beq_eq_false_iff_ne.2 h4)]
 by_cases h5 : K = 5
 ·subst h5
  rw [br_t (by rfl)]
  obtain ⟨t, o8, n8, i8, t1⟩ := txn_e (fu := fu) (by omega) 9 i7
  rw [bd_s n8]
  exact ⟨_, rfl, mk_ok hf K0 rfl F0 T0 FT ⟨p0, p1⟩ (show (0 : Int) < 3 by decide) (fun v hv => by simp [numsOf] at hv; omega) ze (.inr ⟨_, t1⟩) zs ⟨z8, z8⟩ zg zr z6⟩
 rw [br_f (beq_eq_false_iff_ne.2 h5)]
 by_cases h6 : K = 6
 ·subst h6
  rw [br_t (by rfl)]
  exact ⟨_, rfl, mk_ok hf K0 rfl F0 T0 FT ⟨p0, p1⟩ S0.2 (fun v hv => by simp [numsOf] at hv; omega) ze (.inl ⟨show (6 : Int) ≠ 5 by decide, rfl⟩) zs ⟨z8, z8⟩ zg zr z6⟩
 rw [br_f (beq_eq_false_iff_ne.2 h6)]
 by_cases h7 : K = 7
 ·subst h7
  rw [br_t (by rfl)]
  exact ⟨_, rfl, mk_ok hf K0 rfl F0 T0 FT ⟨p0, p1⟩ S0.2 (fun v hv => by simp [numsOf] at hv; omega) ze (.inl ⟨show (7 : Int) ≠ 5 by decide, rfl⟩) zs ⟨z8, z8⟩ zg zr z6⟩
 rw [br_f (beq_eq_false_iff_ne.2 h7)]
 by_cases h8 : K = 8
 ·subst h8
  rw [br_t (by rfl)]
  obtain ⟨ks, o8, n8, i8, s1, s2⟩ := PK.keys_e (fu := fu) (by omega) (most := 6) (by decide) i7
  rw [bd_s n8]
  exact ⟨_, rfl, mk_ok hf K0 rfl F0 T0 FT ⟨p0, p1⟩ S0.2 (fun v hv => by simp [numsOf] at hv; omega) ze (.inl ⟨show (8 : Int) ≠ 5 by decide, rfl⟩) s1 ⟨show (⟨#[97]⟩ : ByteArray).size ≤ 8 by decide, show (⟨#[122]⟩ : ByteArray).size ≤ 8 by decide⟩ zg zr z6⟩
 rw [br_f (beq_eq_false_iff_ne.2 h8)]
 have h9 : K = 9 := by omega
 subst h9
 obtain ⟨ks, o8, n8, i8, s1, s2⟩ := PK.keys_e (fu := fu) (by omega) (most := 6) (by decide) i7
 rw [bd_s n8]
 dsimp only
 obtain ⟨t, o9, n9, i9, t1⟩ := txn_e (fu := fu) (by omega) 9 i8
 rw [bd_s n9]
 dsimp only
 obtain ⟨e, o10, n10, i10, e0, e1, _⟩ := num_e i9 (m := 7) (by decide)
 rw [bd_s n10]
 exact ⟨_, rfl, mk_ok hf K0 rfl F0 T0 FT ⟨p0, p1⟩ S0.2 (fun v hv => by simp [numsOf] at hv; omega) ze (.inl ⟨show (9 : Int) ≠ 5 by decide, rfl⟩) s1 ⟨z8, z8⟩ t1.rk ⟨_, t1.rv⟩ ⟨e0, by show e ≤ 6; omega⟩⟩
end Go.Proofs.Ytbflggolnolaeaa.Told.MG
