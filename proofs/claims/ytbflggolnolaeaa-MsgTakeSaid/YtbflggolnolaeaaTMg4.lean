/- Which letters may be: the program and the document's answer say the same. -/
import Derived.Test.YtbflggolnolaeaaTMg3
namespace Go.Proofs.Ytbflggolnolaeaa.Told.MG
open Go Go.Proofs.Ytbflggolnolaeaa.Vam Go.Proofs.Ytbflggolnolaeaa.Told Go.Proofs.Ytbflggolnolaeaa.Told.ST
set_option linter.unusedSimpArgs false
set_option linter.unusedVariables false
def nmOk (v : Int) : Bool := !decide (v < 0) && !decide (v > 1099511627776)
def gtOk (r : TRead) : Bool := decide (r.Version ≥ 0) && (decide (r.Version ≤ 1099511627776) && decide ((r.Val.size : Int) ≤ 16))
theorem nm1_e (v : Int) : msg_May_1 v = some (!nmOk v) := by
 unfold msg_May_1 nmOk
 by_cases h : v < 0
 ·rw [br_t (decide_eq_true h), decide_eq_true h]; rfl
 ·rw [br_f (decide_eq_false h), decide_eq_false h]; simp
theorem gt_e (r : TRead) : msg_May_3 r = some (!gtOk r) := by
 unfold msg_May_3 msg_read gtOk
 rw [br_and (br_and rfl), bd_s rfl]
theorem en2_e {fu : Nat} {e : TEntry} (h : TxF fu e.T) : msg_May_2 fu e = some (!entB fu e) := by
 unfold msg_May_2
 rw [entry_e h, bd_s rfl]
theorem cN_lp (fu : Nat) : ∀ (r q : List Int) (n : Nat), (q ++ r).length ≤ 1000000 → r.length < n → ∃ o, slices_IndexFunc_int_int.lp3 fu (q ++ r) ((q ++ r).length : Int) n (q.length : Int) = some o ∧ (r.all nmOk = true → o = .inl ()) ∧ (r.all nmOk = false → ∃ j, o = .inr j ∧ 0 ≤ j)
 | [], q, n, hl, hn => by
  obtain ⟨n, rfl⟩ : ∃ m, n = m + 1 := ⟨n - 1, by omega⟩
  simp only [List.append_nil]
  rw [slices_IndexFunc_int_int.lp3, br_f (nlt_end _)]
  exact ⟨_, rfl, fun _ => rfl, fun h => by cases h⟩
 | v :: r, q, n, hl, hn => by
  obtain ⟨n, rfl⟩ : ∃ m, n = m + 1 := ⟨n - 1, by omega⟩
  have e : q ++ v :: r = (q ++ [v]) ++ r := by simp
  obtain ⟨o, g1, g2, g3⟩ := cN_lp fu r (q ++ [v]) n (by rw [← e]; exact hl) (by simp at hn; omega)
  rw [← e] at g1
  rw [slices_IndexFunc_int_int.lp3, br_t (lt_mid _ _ _), ix_mid, w64_len q r v (by omega), g1, List.all_cons]
  rw [nm1_e, bd_s rfl]
  cases nmOk v
  ·exact ⟨_, rfl, fun h => by simp at h, fun _ => ⟨_, rfl, by omega⟩⟩
  ·exact ⟨o, rfl, g2, g3⟩
theorem cN_e {fu : Nat} {l : List Int} (hl : l.length ≤ 1000000) (hf : l.length < fu) : slices_ContainsFunc_int_int fu l = some (!l.all nmOk) := by
 obtain ⟨o, g1, g2, g3⟩ := cN_lp fu l [] fu hl hf
 simp only [List.nil_append, List.length_nil, Int.natCast_zero] at g1
 unfold slices_ContainsFunc_int_int slices_IndexFunc_int_int
 rw [bd_s (o := bd _ _) (x := cfO o) (by rw [bd_s g1]; cases o <;> rfl)]
 cases h : l.all nmOk
 ·obtain ⟨j, hj, hj0⟩ := g3 h
  rw [hj]
  show some (decide (j ≥ 0)) = some true
  rw [decide_eq_true (by omega)]
 ·rw [g2 h]; rfl
theorem cG_lp (fu : Nat) : ∀ (r q : List TRead) (n : Nat), (q ++ r).length ≤ 1000000 → r.length < n → ∃ o, slices_IndexFunc_api_Read_2.lp3 fu (q ++ r) ((q ++ r).length : Int) n (q.length : Int) = some o ∧ (r.all gtOk = true → o = .inl ()) ∧ (r.all gtOk = false → ∃ j, o = .inr j ∧ 0 ≤ j)
 | [], q, n, hl, hn => by
  obtain ⟨n, rfl⟩ : ∃ m, n = m + 1 := ⟨n - 1, by omega⟩
  simp only [List.append_nil]
  rw [slices_IndexFunc_api_Read_2.lp3, br_f (nlt_end _)]
  exact ⟨_, rfl, fun _ => rfl, fun h => by cases h⟩
 | v :: r, q, n, hl, hn => by
  obtain ⟨n, rfl⟩ : ∃ m, n = m + 1 := ⟨n - 1, by omega⟩
  have e : q ++ v :: r = (q ++ [v]) ++ r := by simp
  obtain ⟨o, g1, g2, g3⟩ := cG_lp fu r (q ++ [v]) n (by rw [← e]; exact hl) (by simp at hn; omega)
  rw [← e] at g1
  rw [slices_IndexFunc_api_Read_2.lp3, br_t (lt_mid _ _ _), ix_mid, w64_len q r v (by omega), g1, List.all_cons]
  rw [gt_e, bd_s rfl]
  cases gtOk v
  ·exact ⟨_, rfl, fun h => by simp at h, fun _ => ⟨_, rfl, by omega⟩⟩
  ·exact ⟨o, rfl, g2, g3⟩
theorem cG_e {fu : Nat} {l : List TRead} (hl : l.length ≤ 1000000) (hf : l.length < fu) : slices_ContainsFunc_api_Read_2 fu l = some (!l.all gtOk) := by
 obtain ⟨o, g1, g2, g3⟩ := cG_lp fu l [] fu hl hf
 simp only [List.nil_append, List.length_nil, Int.natCast_zero] at g1
 unfold slices_ContainsFunc_api_Read_2 slices_IndexFunc_api_Read_2
 rw [bd_s (o := bd _ _) (x := cfO o) (by rw [bd_s g1]; cases o <;> rfl)]
 cases h : l.all gtOk
 ·obtain ⟨j, hj, hj0⟩ := g3 h
  rw [hj]
  show some (decide (j ≥ 0)) = some true
  rw [decide_eq_true (by omega)]
 ·rw [g2 h]; rfl
theorem cE_lp (fu : Nat) : ∀ (r q : List TEntry) (n : Nat), (q ++ r).length ≤ 1000000 → (∀ e ∈ r, TxF fu e.T) → r.length < n → ∃ o, slices_IndexFunc_api_Entry.lp3 fu (q ++ r) ((q ++ r).length : Int) n (q.length : Int) = some o ∧ (r.all (entB fu) = true → o = .inl ()) ∧ (r.all (entB fu) = false → ∃ j, o = .inr j ∧ 0 ≤ j)
 | [], q, n, hl, hr, hn => by
  obtain ⟨n, rfl⟩ : ∃ m, n = m + 1 := ⟨n - 1, by omega⟩
  simp only [List.append_nil]
  rw [slices_IndexFunc_api_Entry.lp3, br_f (nlt_end _)]
  exact ⟨_, rfl, fun _ => rfl, fun h => by cases h⟩
 | v :: r, q, n, hl, hr, hn => by
  obtain ⟨n, rfl⟩ : ∃ m, n = m + 1 := ⟨n - 1, by omega⟩
  have e : q ++ v :: r = (q ++ [v]) ++ r := by simp
  obtain ⟨o, g1, g2, g3⟩ := cE_lp fu r (q ++ [v]) n (by rw [← e]; exact hl) (fun e h => hr e (by simp [h])) (by simp at hn; omega)
  rw [← e] at g1
  rw [slices_IndexFunc_api_Entry.lp3, br_t (lt_mid _ _ _), ix_mid, w64_len q r v (by omega), g1, List.all_cons]
  rw [en2_e (hr v (by simp)), bd_s rfl]
  cases entB fu v
  ·exact ⟨_, rfl, fun h => by simp at h, fun _ => ⟨_, rfl, by omega⟩⟩
  ·exact ⟨o, rfl, g2, g3⟩
theorem cE_e {fu : Nat} {l : List TEntry} (hl : l.length ≤ 1000000) (hr : ∀ e ∈ l, TxF fu e.T) (hf : l.length < fu) : slices_ContainsFunc_api_Entry fu l = some (!l.all (entB fu)) := by
 obtain ⟨o, g1, g2, g3⟩ := cE_lp fu l [] fu hl hr hf
 simp only [List.nil_append, List.length_nil, Int.natCast_zero] at g1
 unfold slices_ContainsFunc_api_Entry slices_IndexFunc_api_Entry
 rw [bd_s (o := bd _ _) (x := cfO o) (by rw [bd_s g1]; cases o <;> rfl)]
 cases h : l.all (entB fu)
 ·obtain ⟨j, hj, hj0⟩ := g3 h
  rw [hj]
  show some (decide (j ≥ 0)) = some true
  rw [decide_eq_true (by omega)]
 ·rw [g2 h]; rfl
theorem kG_lp (fu : Nat) (b : Bool) (m z : TMsg) : ∀ (r q : List TRead) (ks : List ByteArray) (n : Nat), (q ++ r).length ≤ 1000000 → ks.length ≤ q.length → r.length < n → msg_May.lp5 fu b (q ++ r) ((q ++ r).length : Int) m z n ks (q.length : Int) = some (ks ++ r.map (·.Key))
 | [], q, ks, n, hl, hk, hn => by
  obtain ⟨n, rfl⟩ : ∃ m, n = m + 1 := ⟨n - 1, by omega⟩
  simp only [List.append_nil]
  rw [msg_May.lp5, br_f (nlt_end _)]; simp
 | v :: r, q, ks, n, hl, hk, hn => by
  obtain ⟨n, rfl⟩ : ∃ m, n = m + 1 := ⟨n - 1, by omega⟩
  have e : q ++ v :: r = (q ++ [v]) ++ r := by simp
  have hl' : q.length + 1 + r.length ≤ 1000000 := by simp at hl; omega
  have ih := kG_lp fu b m z r (q ++ [v]) (ks ++ [v.Key]) n (by rw [← e]; exact hl) (by simp; omega) (by simp at hn; omega)
  rw [← e] at ih
  rw [msg_May.lp5, br_t (lt_mid _ _ _), ix_mid, gd_t (decide_eq_true (by simp; omega)), w64_len q r v (by omega), ih]
  simp
theorem rN_lp (fu : Nat) (m : TMsg) : ∀ (r q : List Int) (n : Nat), (q ++ r).length ≤ 1000000 → r.length < n → diwanref1_MayMsg.lp16 fu (q ++ r) m n (q.length : Int) = some (inlB (r.all nmOk))
 | [], q, n, hl, hn => by
  obtain ⟨n, rfl⟩ : ∃ m, n = m + 1 := ⟨n - 1, by omega⟩
  simp only [List.append_nil]
  rw [diwanref1_MayMsg.lp16, br_f (nlt_end _)]; rfl
 | v :: r, q, n, hl, hn => by
  obtain ⟨n, rfl⟩ : ∃ m, n = m + 1 := ⟨n - 1, by omega⟩
  have e : q ++ v :: r = (q ++ [v]) ++ r := by simp
  have ih := rN_lp fu m r (q ++ [v]) n (by rw [← e]; exact hl) (by simp at hn; omega)
  rw [← e] at ih
  rw [diwanref1_MayMsg.lp16, br_t (lt_mid _ _ _), ix_mid, ix_mid, w64_len q r v (by omega), ih, List.all_cons]
  unfold nmOk
  cases decide (v < 0)
  ·cases decide (v > 1099511627776) <;> rfl
  ·rfl
theorem rE_lp (fu : Nat) (m : TMsg) : ∀ (r q : List TEntry) (n : Nat), m.Entries = q ++ r → m.Entries.length ≤ 1000000 → (∀ e ∈ r, TxF fu e.T) → r.length < n → diwanref1_MayMsg.lp26 fu m n (q.length : Int) = some (inlB (r.all (entB fu)))
 | [], q, n, e, hl, hr, hn => by
  obtain ⟨n, rfl⟩ : ∃ m, n = m + 1 := ⟨n - 1, by omega⟩
  simp only [List.append_nil] at e
  rw [diwanref1_MayMsg.lp26, br_f (by rw [e]; exact nlt_end _)]; rfl
 | v :: r, q, n, e, hl, hr, hn => by
  obtain ⟨n, rfl⟩ : ∃ m, n = m + 1 := ⟨n - 1, by omega⟩
  have hlen : m.Entries.length = q.length + 1 + r.length := by rw [e]; simp; omega
  have hx : m.Entries[q.length]? = some v := by rw [e]; simp
  have ew : w64 ((q.length : Int) + 1) = ((q ++ [v]).length : Int) := by rw [w64_id (by omega) (by omega)]; simp
  have ih := rE_lp fu m r (q ++ [v]) n (by rw [e]; simp) hl (fun e h => hr e (by simp [h])) (by simp at hn; omega)
  rw [diwanref1_MayMsg.lp26, br_t (decide_eq_true (by omega)), ix_n hx, bd_s (rentry_e (hr v (by simp))), ew, ih, List.all_cons]
  unfold entB
  cases (bif v.Seal then txB v.T (TTxn.mk 0 0 [] []) else txnB fu v.T)
  ·rfl
  rw [br_f (b := !true) rfl, ix_n hx]
  by_cases h1 : v.Term < 0
  ·rw [br_t (decide_eq_true h1), decide_eq_false (p := v.Term ≥ 0) (by omega)]; rfl
  rw [br_f (decide_eq_false h1), ix_n hx, decide_eq_true (p := v.Term ≥ 0) (by omega)]
  by_cases h2 : v.Term > 1099511627776
  ·rw [br_t (decide_eq_true h2), decide_eq_false (p := v.Term ≤ 1099511627776) (by omega)]; rfl
  ·rw [br_f (decide_eq_false h2), decide_eq_true (p := v.Term ≤ 1099511627776) (by omega)]; rfl
theorem rG_lp (fu : Nat) (m : TMsg) : ∀ (r q : List TRead) (ks : List ByteArray) (n : Nat), m.Got = q ++ r → m.Got.length ≤ 1000000 → ks.length ≤ q.length → r.length < n → diwanref1_MayMsg.lp38 fu m n ks (q.length : Int) = some (bif r.all gtOk then .inl (ks ++ r.map (·.Key)) else .inr ())
 | [], q, ks, n, e, hl, hk, hn => by
  obtain ⟨n, rfl⟩ : ∃ m, n = m + 1 := ⟨n - 1, by omega⟩
  simp only [List.append_nil] at e
  rw [diwanref1_MayMsg.lp38, br_f (by rw [e]; exact nlt_end _)]; simp
 | v :: r, q, ks, n, e, hl, hk, hn => by
  obtain ⟨n, rfl⟩ : ∃ m, n = m + 1 := ⟨n - 1, by omega⟩
  have hlen : m.Got.length = q.length + 1 + r.length := by rw [e]; simp; omega
  have hx : m.Got[q.length]? = some v := by rw [e]; simp
  have ew : w64 ((q.length : Int) + 1) = ((q ++ [v]).length : Int) := by rw [w64_id (by omega) (by omega)]; simp
  have ih := rG_lp fu m r (q ++ [v]) (ks ++ [v.Key]) n (by rw [e]; simp) hl (by simp; omega) (by simp at hn; omega)
  rw [diwanref1_MayMsg.lp38, br_t (decide_eq_true (by omega)), ix_n hx, gd_t (decide_eq_true (by simp; omega)), ix_n hx, ew, ih, List.all_cons]
  have e2 : ks ++ [v.Key] ++ r.map (·.Key) = ks ++ (v :: r).map (·.Key) := by simp
  rw [e2]
  unfold gtOk
  by_cases h1 : (v.Val.size : Int) > 16
  ·rw [br_t (decide_eq_true h1), decide_eq_false (p := (v.Val.size : Int) ≤ 16) (by omega), Bool.and_false, Bool.and_false]; rfl
  rw [br_f (decide_eq_false h1), ix_n hx, decide_eq_true (p := (v.Val.size : Int) ≤ 16) (by omega)]
  by_cases h2 : v.Version < 0
  ·rw [br_t (decide_eq_true h2), decide_eq_false (p := v.Version ≥ 0) (by omega)]; rfl
  rw [br_f (decide_eq_false h2), ix_n hx, decide_eq_true (p := v.Version ≥ 0) (by omega)]
  by_cases h3 : v.Version > 1099511627776
  ·rw [br_t (decide_eq_true h3), decide_eq_false (p := v.Version ≤ 1099511627776) (by omega)]; rfl
  ·rw [br_f (decide_eq_false h3), decide_eq_true (p := v.Version ≤ 1099511627776) (by omega)]; rfl
structure MsF (fu N : Nat) (m : TMsg) : Prop where
 sm : SmM N m
 n1 : N ≤ 1000000
 n2 : N < fu
 f8 : 8 < fu
 t : TxF fu m.T
 e : ∀ e ∈ m.Entries, TxF fu e.T
 k : ∀ k ∈ m.Keys, k.size ≤ 9223372036854775807 ∧ k.size < fu
 g : ∀ r ∈ m.Got, r.Key.size ≤ 9223372036854775807 ∧ r.Key.size < fu
def bareM (m : TMsg) : TMsg := (diwanref1_bare m).getD m
theorem named_e {N : Nat} {m : TMsg} (hk : 1 ≤ m.Kind ∧ m.Kind ≤ 9) (h : SmM N m) : msg_named m = some (bareM m, true) ∧ diwanref1_bare m = some (bareM m) ∧ SmM N (bareM m) := by
 have fin : ∀ B : TMsg, msg_named m = some (B, true) → diwanref1_bare m = some B → SmM N B → msg_named m = some (bareM m, true) ∧ diwanref1_bare m = some (bareM m) ∧ SmM N (bareM m) := fun B h1 h2 h3 => by
  have : bareM m = B := by unfold bareM; rw [h2]; rfl
  rw [this]; exact ⟨h1, h2, h3⟩
 have z : SmE N ([] : List TEntry) := ⟨Nat.zero_le _, fun e he => by cases he⟩
 by_cases h1 : m.Kind = 1
 ·exact fin _ (by unfold msg_named; rw [br_t (b := m.Kind == 1) (by rw [h1]; rfl)]; rfl) (by unfold diwanref1_bare; rw [br_t (b := m.Kind == 1) (by rw [h1]; rfl)]) ⟨by first | exact h.en | exact z, by first | exact h.tr | exact Nat.zero_le _, by first | exact h.tw | exact Nat.zero_le _, by first | exact h.ks | exact Nat.zero_le _, by first | exact h.gs | exact Nat.zero_le _⟩
 by_cases h2 : m.Kind = 2
 ·exact fin _ (by unfold msg_named; rw [br_f (b := m.Kind == 1) (beq_eq_false_iff_ne.2 h1), br_t (b := m.Kind == 2) (by rw [h2]; rfl)]; rfl) (by unfold diwanref1_bare; rw [br_f (b := m.Kind == 1) (beq_eq_false_iff_ne.2 h1), br_t (b := m.Kind == 2) (by rw [h2]; rfl)]) ⟨by first | exact h.en | exact z, by first | exact h.tr | exact Nat.zero_le _, by first | exact h.tw | exact Nat.zero_le _, by first | exact h.ks | exact Nat.zero_le _, by first | exact h.gs | exact Nat.zero_le _⟩
 by_cases h3 : m.Kind = 3
 ·exact fin _ (by unfold msg_named; rw [br_f (b := m.Kind == 1) (beq_eq_false_iff_ne.2 h1), br_f (b := m.Kind == 2) (beq_eq_false_iff_ne.2 h2), br_t (b := m.Kind == 3) (by rw [h3]; rfl)]; rfl) (by unfold diwanref1_bare; rw [br_f (b := m.Kind == 1) (beq_eq_false_iff_ne.2 h1), br_f (b := m.Kind == 2) (beq_eq_false_iff_ne.2 h2), br_t (b := m.Kind == 3) (by rw [h3]; rfl)]) ⟨by first | exact h.en | exact z, by first | exact h.tr | exact Nat.zero_le _, by first | exact h.tw | exact Nat.zero_le _, by first | exact h.ks | exact Nat.zero_le _, by first | exact h.gs | exact Nat.zero_le _⟩
 by_cases h4 : m.Kind = 4
 ·exact fin _ (by unfold msg_named; rw [br_f (b := m.Kind == 1) (beq_eq_false_iff_ne.2 h1), br_f (b := m.Kind == 2) (beq_eq_false_iff_ne.2 h2), br_f (b := m.Kind == 3) (beq_eq_false_iff_ne.2 h3), br_t (b := m.Kind == 4) (by rw [h4]; rfl)]; rfl) (by unfold diwanref1_bare; rw [br_f (b := m.Kind == 1) (beq_eq_false_iff_ne.2 h1), br_f (b := m.Kind == 2) (beq_eq_false_iff_ne.2 h2), br_f (b := m.Kind == 3) (beq_eq_false_iff_ne.2 h3), br_t (b := m.Kind == 4) (by rw [h4]; rfl)]) ⟨by first | exact h.en | exact z, by first | exact h.tr | exact Nat.zero_le _, by first | exact h.tw | exact Nat.zero_le _, by first | exact h.ks | exact Nat.zero_le _, by first | exact h.gs | exact Nat.zero_le _⟩
 by_cases h5 : m.Kind = 5
 ·exact fin _ (by unfold msg_named; rw [br_f (b := m.Kind == 1) (beq_eq_false_iff_ne.2 h1), br_f (b := m.Kind == 2) (beq_eq_false_iff_ne.2 h2), br_f (b := m.Kind == 3) (beq_eq_false_iff_ne.2 h3), br_f (b := m.Kind == 4) (beq_eq_false_iff_ne.2 h4), br_t (b := m.Kind == 5) (by rw [h5]; rfl)]; rfl) (by unfold diwanref1_bare; rw [br_f (b := m.Kind == 1) (beq_eq_false_iff_ne.2 h1), br_f (b := m.Kind == 2) (beq_eq_false_iff_ne.2 h2), br_f (b := m.Kind == 3) (beq_eq_false_iff_ne.2 h3), br_f (b := m.Kind == 4) (beq_eq_false_iff_ne.2 h4), br_t (b := m.Kind == 5) (by rw [h5]; rfl)]) ⟨by first | exact h.en | exact z, by first | exact h.tr | exact Nat.zero_le _, by first | exact h.tw | exact Nat.zero_le _, by first | exact h.ks | exact Nat.zero_le _, by first | exact h.gs | exact Nat.zero_le _⟩
 by_cases h6 : m.Kind = 6
 ·exact fin _ (by unfold msg_named; rw [br_f (b := m.Kind == 1) (beq_eq_false_iff_ne.2 h1), br_f (b := m.Kind == 2) (beq_eq_false_iff_ne.2 h2), br_f (b := m.Kind == 3) (beq_eq_false_iff_ne.2 h3), br_f (b := m.Kind == 4) (beq_eq_false_iff_ne.2 h4), br_f (b := m.Kind == 5) (beq_eq_false_iff_ne.2 h5), br_t (b := m.Kind == 6) (by rw [h6]; rfl)]; rfl) (by unfold diwanref1_bare; rw [br_f (b := m.Kind == 1) (beq_eq_false_iff_ne.2 h1), br_f (b := m.Kind == 2) (beq_eq_false_iff_ne.2 h2), br_f (b := m.Kind == 3) (beq_eq_false_iff_ne.2 h3), br_f (b := m.Kind == 4) (beq_eq_false_iff_ne.2 h4), br_f (b := m.Kind == 5) (beq_eq_false_iff_ne.2 h5), br_t (b := m.Kind == 6) (by rw [h6]; rfl)]) ⟨by first | exact h.en | exact z, by first | exact h.tr | exact Nat.zero_le _, by first | exact h.tw | exact Nat.zero_le _, by first | exact h.ks | exact Nat.zero_le _, by first | exact h.gs | exact Nat.zero_le _⟩
 by_cases h7 : m.Kind = 7
 ·exact fin _ (by unfold msg_named; rw [br_f (b := m.Kind == 1) (beq_eq_false_iff_ne.2 h1), br_f (b := m.Kind == 2) (beq_eq_false_iff_ne.2 h2), br_f (b := m.Kind == 3) (beq_eq_false_iff_ne.2 h3), br_f (b := m.Kind == 4) (beq_eq_false_iff_ne.2 h4), br_f (b := m.Kind == 5) (beq_eq_false_iff_ne.2 h5), br_f (b := m.Kind == 6) (beq_eq_false_iff_ne.2 h6), br_t (b := m.Kind == 7) (by rw [h7]; rfl)]; rfl) (by unfold diwanref1_bare; rw [br_f (b := m.Kind == 1) (beq_eq_false_iff_ne.2 h1), br_f (b := m.Kind == 2) (beq_eq_false_iff_ne.2 h2), br_f (b := m.Kind == 3) (beq_eq_false_iff_ne.2 h3), br_f (b := m.Kind == 4) (beq_eq_false_iff_ne.2 h4), br_f (b := m.Kind == 5) (beq_eq_false_iff_ne.2 h5), br_f (b := m.Kind == 6) (beq_eq_false_iff_ne.2 h6), br_t (b := m.Kind == 7) (by rw [h7]; rfl)]) ⟨by first | exact h.en | exact z, by first | exact h.tr | exact Nat.zero_le _, by first | exact h.tw | exact Nat.zero_le _, by first | exact h.ks | exact Nat.zero_le _, by first | exact h.gs | exact Nat.zero_le _⟩
 by_cases h8 : m.Kind = 8
 ·exact fin _ (by unfold msg_named; rw [br_f (b := m.Kind == 1) (beq_eq_false_iff_ne.2 h1), br_f (b := m.Kind == 2) (beq_eq_false_iff_ne.2 h2), br_f (b := m.Kind == 3) (beq_eq_false_iff_ne.2 h3), br_f (b := m.Kind == 4) (beq_eq_false_iff_ne.2 h4), br_f (b := m.Kind == 5) (beq_eq_false_iff_ne.2 h5), br_f (b := m.Kind == 6) (beq_eq_false_iff_ne.2 h6), br_f (b := m.Kind == 7) (beq_eq_false_iff_ne.2 h7), br_t (b := m.Kind == 8) (by rw [h8]; rfl)]; rfl) (by unfold diwanref1_bare; rw [br_f (b := m.Kind == 1) (beq_eq_false_iff_ne.2 h1), br_f (b := m.Kind == 2) (beq_eq_false_iff_ne.2 h2), br_f (b := m.Kind == 3) (beq_eq_false_iff_ne.2 h3), br_f (b := m.Kind == 4) (beq_eq_false_iff_ne.2 h4), br_f (b := m.Kind == 5) (beq_eq_false_iff_ne.2 h5), br_f (b := m.Kind == 6) (beq_eq_false_iff_ne.2 h6), br_f (b := m.Kind == 7) (beq_eq_false_iff_ne.2 h7), br_t (b := m.Kind == 8) (by rw [h8]; rfl)]) ⟨by first | exact h.en | exact z, by first | exact h.tr | exact Nat.zero_le _, by first | exact h.tw | exact Nat.zero_le _, by first | exact h.ks | exact Nat.zero_le _, by first | exact h.gs | exact Nat.zero_le _⟩
 by_cases h9 : m.Kind = 9
 ·exact fin _ (by unfold msg_named; rw [br_f (b := m.Kind == 1) (beq_eq_false_iff_ne.2 h1), br_f (b := m.Kind == 2) (beq_eq_false_iff_ne.2 h2), br_f (b := m.Kind == 3) (beq_eq_false_iff_ne.2 h3), br_f (b := m.Kind == 4) (beq_eq_false_iff_ne.2 h4), br_f (b := m.Kind == 5) (beq_eq_false_iff_ne.2 h5), br_f (b := m.Kind == 6) (beq_eq_false_iff_ne.2 h6), br_f (b := m.Kind == 7) (beq_eq_false_iff_ne.2 h7), br_f (b := m.Kind == 8) (beq_eq_false_iff_ne.2 h8), br_t (b := m.Kind == 9) (by rw [h9]; rfl)]; rfl) (by unfold diwanref1_bare; rw [br_f (b := m.Kind == 1) (beq_eq_false_iff_ne.2 h1), br_f (b := m.Kind == 2) (beq_eq_false_iff_ne.2 h2), br_f (b := m.Kind == 3) (beq_eq_false_iff_ne.2 h3), br_f (b := m.Kind == 4) (beq_eq_false_iff_ne.2 h4), br_f (b := m.Kind == 5) (beq_eq_false_iff_ne.2 h5), br_f (b := m.Kind == 6) (beq_eq_false_iff_ne.2 h6), br_f (b := m.Kind == 7) (beq_eq_false_iff_ne.2 h7), br_f (b := m.Kind == 8) (beq_eq_false_iff_ne.2 h8), br_t (b := m.Kind == 9) (by rw [h9]; rfl)]) ⟨by first | exact h.en | exact z, by first | exact h.tr | exact Nat.zero_le _, by first | exact h.tw | exact Nat.zero_le _, by first | exact h.ks | exact Nat.zero_le _, by first | exact h.gs | exact Nat.zero_le _⟩
 omega
theorem named_no {m : TMsg} (hk : ¬ (1 ≤ m.Kind ∧ m.Kind ≤ 9)) : ∃ z, msg_named m = some (z, false) := by
 unfold msg_named
 rw [br_f (b := m.Kind == 1) (beq_eq_false_iff_ne.2 (by omega)), br_f (b := m.Kind == 2) (beq_eq_false_iff_ne.2 (by omega)), br_f (b := m.Kind == 3) (beq_eq_false_iff_ne.2 (by omega)), br_f (b := m.Kind == 4) (beq_eq_false_iff_ne.2 (by omega)), br_f (b := m.Kind == 5) (beq_eq_false_iff_ne.2 (by omega)), br_f (b := m.Kind == 6) (beq_eq_false_iff_ne.2 (by omega)), br_f (b := m.Kind == 7) (beq_eq_false_iff_ne.2 (by omega)), br_f (b := m.Kind == 8) (beq_eq_false_iff_ne.2 (by omega)), br_f (b := m.Kind == 9) (beq_eq_false_iff_ne.2 (by omega))]
 exact ⟨_, rfl⟩
theorem br_or {b t y : Bool} {o : Option Bool} (h : o = some y) : br b (br (!t) (some false) o) o = some ((!b || t) && y) := by rw [h]; cases b <;> cases t <;> rfl
theorem br_or2 {b t y : Bool} {o : Option Bool} (h : o = some y) : br b o (br t o (some false)) = some ((b || t) && y) := by rw [h]; cases b <;> cases t <;> rfl
def mayM (fu : Nat) (m : TMsg) : Bool := msgB (bareM m) m && (!decide (m.From < 1) && (!decide (m.From > 5) && (!decide (m.To < 1) && (!decide (m.To > 5) && (!(m.From == m.To) && (!decide (m.Part < 0) && (!decide (m.Part ≥ 3) && (!decide (m.Shard ≥ 3) && ((numsOf m).all nmOk && (!decide ((m.Entries.length : Int) > 4) && (m.Entries.all (entB fu) && ((!(m.Kind == 5) || txnB fu m.T) && (!decide ((m.Keys.length : Int) > 6) && (risB fu m.Keys && (!decide ((m.FromKey.size : Int) > 8) && (!decide ((m.ToKey.size : Int) > 8) && (decide ((m.Got.length : Int) ≤ 64) && (risB fu (m.Got.map (·.Key)) && (m.Got.all gtOk && (decide (m.Err ≥ 0) && decide (m.Err ≤ 6)))))))))))))))))))))
theorem risG {fu N : Nat} {m : TMsg} (h : MsF fu N m) : key_Rising fu (m.Got.map (·.Key)) = some (risB fu (m.Got.map (·.Key))) ∧ diwanref1_Rising fu (m.Got.map (·.Key)) = some (risB fu (m.Got.map (·.Key))) :=
 ris_e (by have := h.sm.gs; have := h.n1; simp; omega) (fun k hk => by obtain ⟨x, hx, rfl⟩ := List.mem_map.1 hk; exact h.g x hx) (by have := h.sm.gs; have := h.n2; simp; omega)
theorem risK {fu N : Nat} {m : TMsg} (h : MsF fu N m) : key_Rising fu m.Keys = some (risB fu m.Keys) ∧ diwanref1_Rising fu m.Keys = some (risB fu m.Keys) :=
 ris_e (by have := h.sm.ks; have := h.n1; omega) h.k (by have := h.sm.ks; have := h.n2; omega)
theorem may_e {fu N : Nat} {m : TMsg} (h : MsF fu N m) (hk : 1 ≤ m.Kind ∧ m.Kind ≤ 9) : msg_May fu m = some (mayM fu m) := by
 obtain ⟨n1, n2, n3⟩ := named_e hk h.sm
 have hn := h.n1
 have hf := h.n2
 have he := h.sm.en.1
 have hg := h.sm.gs
 have k1 := kG_lp fu true m (bareM m) m.Got [] [] fu (by simp; omega) (Nat.le_refl _) (by omega)
 simp only [List.nil_append, List.length_nil, Int.natCast_zero] at k1
 unfold msg_May mayM
 rw [bd_s n1]
 dsimp only
 rw [bd_s k1]
 simp only [jn_e]
 rw [br_f (b := !true) rfl, bd_s (same_e n3 h.n1 h.n2 h.f8)]
 refine br_nn ?_
 refine br_nand ?_
 refine br_nand ?_
 refine br_nand ?_
 refine br_nand ?_
 refine br_nand ?_
 refine br_nand ?_
 refine br_nand ?_
 refine br_nand ?_
 unfold msg_numbers
 have hN := cN_e (fu := fu) (l := numsOf m) (by simp [numsOf]) (by have := h.f8; simp [numsOf]; omega)
 unfold numsOf at hN
 rw [bd_s rfl, bd_s hN]
 rw [show (List.all (numsOf m) nmOk) = (!!List.all [m.Term, m.Index, m.LogTerm, m.Commit, m.Session, m.Seq, m.Pos, m.Shard] nmOk) by rw [Bool.not_not]; rfl]
 refine br_nand ?_
 refine br_nand ?_
 rw [bd_s (cE_e (fu := fu) (l := m.Entries) (by omega) h.e (by omega)), ← Bool.not_not (m.Entries.all (entB fu))]
 rw [Bool.not_not (!(m.Entries.all (entB fu)))]
 refine br_nand ?_
 rw [bd_s (mayT_e h.t)]
 refine br_or ?_
 refine br_nand ?_
 rw [bd_s (risK h).1]
 refine br_nn ?_
 refine br_nand ?_
 refine br_nand ?_
 refine br_and ?_
 rw [bd_s (risG h).1]
 refine br_and ?_
 rw [bd_s (cG_e (fu := fu) (l := m.Got) (by omega) (by omega)), Bool.not_not]
 refine br_and ?_
 exact br_and rfl
theorem rmay_e {fu N : Nat} {m : TMsg} (h : MsF fu N m) (hk : 1 ≤ m.Kind ∧ m.Kind ≤ 9) : diwanref1_MayMsg fu m = some (mayM fu m) := by
 obtain ⟨n1, n2, n3⟩ := named_e hk h.sm
 have hn := h.n1
 have hf := h.n2
 have he := h.sm.en.1
 have hg := h.sm.gs
 have a1 := rN_lp fu m (numsOf m) [] fu (by simp [numsOf]) (by have := h.f8; simp [numsOf]; omega)
 have a2 := rE_lp fu m m.Entries [] fu rfl (by omega) h.e (by omega)
 have a3 := rG_lp fu m m.Got [] [] fu rfl (by omega) (Nat.le_refl _) (by omega)
 simp only [List.nil_append, List.length_nil, Int.natCast_zero] at a1 a2 a3
 unfold numsOf at a1
 have e1 : decide (m.Shard < 3) = !decide (m.Shard ≥ 3) := by by_cases g : m.Shard < 3 <;> simp [g] <;> omega
 have e2 : decide ((m.Entries.length : Int) ≤ 4) = !decide ((m.Entries.length : Int) > 4) := by by_cases g : (m.Entries.length : Int) ≤ 4 <;> simp [g] <;> omega
 have e3 : decide ((m.Keys.length : Int) ≤ 6) = !decide ((m.Keys.length : Int) > 6) := by by_cases g : (m.Keys.length : Int) ≤ 6 <;> simp [g] <;> omega
 have e4 : decide ((m.FromKey.size : Int) ≤ 8) = !decide ((m.FromKey.size : Int) > 8) := by by_cases g : (m.FromKey.size : Int) ≤ 8 <;> simp [g] <;> omega
 have e5 : decide ((m.ToKey.size : Int) ≤ 8) = !decide ((m.ToKey.size : Int) > 8) := by by_cases g : (m.ToKey.size : Int) ≤ 8 <;> simp [g] <;> omega
 have last : (br (decide (m.Shard < 3)) (br (decide ((m.Entries.length : Int) ≤ 4)) (br (m.Kind != 5) (br (decide ((m.Keys.length : Int) ≤ 6)) (bd (diwanref1_Rising fu m.Keys) fun r49_5 => br r49_5 (br (decide ((m.FromKey.size : Int) ≤ 8)) (br (decide ((m.ToKey.size : Int) ≤ 8)) (br (decide ((m.Got.length : Int) ≤ 64)) (bd (diwanref1_Rising fu (m.Got.map (·.Key))) fun r49_11 => br r49_11 (br (decide (m.Err ≥ 0)) (some (decide (m.Err ≤ 6))) (some false)) (some false)) (some false)) (some false)) (some false)) (some false)) (some false)) (bd (diwanref1_MayTxn fu m.T) fun r49_4 => br r49_4 (br (decide ((m.Keys.length : Int) ≤ 6)) (bd (diwanref1_Rising fu m.Keys) fun r49_8 => br r49_8 (br (decide ((m.FromKey.size : Int) ≤ 8)) (br (decide ((m.ToKey.size : Int) ≤ 8)) (br (decide ((m.Got.length : Int) ≤ 64)) (bd (diwanref1_Rising fu (m.Got.map (·.Key))) fun r49_14 => br r49_14 (br (decide (m.Err ≥ 0)) (some (decide (m.Err ≤ 6))) (some false)) (some false)) (some false)) (some false)) (some false)) (some false)) (some false)) (some false))) (some false)) (some false)) = some (!decide (m.Shard ≥ 3) && (!decide ((m.Entries.length : Int) > 4) && ((!(m.Kind == 5) || txnB fu m.T) && (!decide ((m.Keys.length : Int) > 6) && (risB fu m.Keys && (!decide ((m.FromKey.size : Int) > 8) && (!decide ((m.ToKey.size : Int) > 8) && (decide ((m.Got.length : Int) ≤ 64) && (risB fu (m.Got.map (·.Key)) && (decide (m.Err ≥ 0) && decide (m.Err ≤ 6))))))))))) := by
  rw [e1, e2, e3, e4, e5, bd_s (risK h).2, bd_s (risG h).2, bd_s (rmayT_e h.t)]
  exact br_and (br_and (br_or2 (br_and (br_and (br_and (br_and (br_and (br_and (br_and rfl)))))))))
 have mid : ∀ y : Bool, y = (!decide (m.Shard ≥ 3) && (!decide ((m.Entries.length : Int) > 4) && ((!(m.Kind == 5) || txnB fu m.T) && (!decide ((m.Keys.length : Int) > 6) && (risB fu m.Keys && (!decide ((m.FromKey.size : Int) > 8) && (!decide ((m.ToKey.size : Int) > 8) && (decide ((m.Got.length : Int) ≤ 64) && (risB fu (m.Got.map (·.Key)) && (decide (m.Err ≥ 0) && decide (m.Err ≤ 6))))))))))) → mayM fu m = (!decide (m.From < 1) && (!decide (m.From > 5) && (!decide (m.To < 1) && (!decide (m.To > 5) && (!(m.From == m.To) && (!decide (m.Part < 0) && (!decide (m.Part ≥ 3) && (msgB (bareM m) m && ((numsOf m).all nmOk && (m.Entries.all (entB fu) && (m.Got.all gtOk && y))))))))))) := fun y hy => by
  rw [hy]; unfold mayM; ac_rfl
 unfold diwanref1_MayMsg
 rw [br_f (decide_eq_false (by omega)), br_f (decide_eq_false (by omega)), mid _ rfl]
 refine br_nand ?_
 refine br_nand ?_
 refine br_nand ?_
 refine br_nand ?_
 refine br_nand ?_
 refine br_nand ?_
 refine br_nand ?_
 rw [bd_s n2, bd_s (rsame_e h.sm h.n1 h.n2), msgB_comm m (bareM m)]
 refine br_nn ?_
 rw [bd_s a1]
 unfold numsOf
 cases List.all [m.Term, m.Index, m.LogTerm, m.Commit, m.Session, m.Seq, m.Pos, m.Shard] nmOk
 ·rfl
 simp only [inlB, cond_true, Bool.true_and]
 rw [bd_s a2]
 cases m.Entries.all (entB fu)
 ·rfl
 simp only [inlB, cond_true, Bool.true_and]
 rw [bd_s a3]
 cases m.Got.all gtOk
 ·rfl
 simp only [cond_true, Bool.true_and]
 exact last
theorem may_no {fu N : Nat} {m : TMsg} (h : MsF fu N m) (hk : ¬ (1 ≤ m.Kind ∧ m.Kind ≤ 9)) : msg_May fu m = some false ∧ diwanref1_MayMsg fu m = some false := by
 constructor
 ·obtain ⟨z, hz⟩ := named_no hk
  have hn := h.n1
  have hf := h.n2
  have hg := h.sm.gs
  have k1 := kG_lp fu false m z m.Got [] [] fu (by simp; omega) (Nat.le_refl _) (by omega)
  simp only [List.nil_append, List.length_nil, Int.natCast_zero] at k1
  unfold msg_May
  rw [bd_s hz]
  dsimp only
  rw [bd_s k1]
  rfl
 ·unfold diwanref1_MayMsg
  by_cases h1 : m.Kind < 1
  ·rw [br_t (decide_eq_true h1)]
  ·rw [br_f (decide_eq_false h1), br_t (decide_eq_true (by omega))]
end Go.Proofs.Ytbflggolnolaeaa.Told.MG
