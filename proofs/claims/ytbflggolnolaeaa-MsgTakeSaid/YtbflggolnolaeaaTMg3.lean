/- Which transactions and entries may be: the program and the document's answer say the same. -/
import Derived.Test.YtbflggolnolaeaaTMg0
import Derived.Test.YtbflggolnolaeaaTMg2
namespace Go.Proofs.Ytbflggolnolaeaa.Told.MG
open Go Go.Proofs.Ytbflggolnolaeaa.Vam Go.Proofs.Ytbflggolnolaeaa.Told Go.Proofs.Ytbflggolnolaeaa.Told.ST
set_option linter.unusedSimpArgs false
set_option linter.unusedVariables false
def cfO : Unit ⊕ Int → Int
 | .inl _ => -1
 | .inr y => y
def rdOk (r : TRead) : Bool := decide (r.Version ≥ 0) && (decide ((r.Val.size : Int) ≤ 16) && ((r.There || (r.Val.toList == ByteArray.empty.toList)) && !(r.There && (r.Version == 0))))
def wrOk (w : TWrite) : Bool := decide ((w.Val.size : Int) ≤ 16) && (!w.Gone || (w.Val.toList == ByteArray.empty.toList))
theorem rd_e (r : TRead) : txn_read r = some (rdOk r) := by
 unfold txn_read rdOk
 cases r.There
 ·rw [br_t (b := !false) rfl]
  cases (r.Val.toList == ByteArray.empty.toList)
  ·rw [br_t (b := !false) rfl]; simp
  ·rw [br_f (b := !true) rfl, br_f rfl, br_and rfl]; simp
 ·rw [br_f (b := !true) rfl, br_t rfl, br_nand (br_and rfl)]
  cases (r.Version == 0) <;> simp
theorem wr_e (w : TWrite) : txn_write w = some (wrOk w) := by
 unfold txn_write wrOk
 refine br_and ?_
 cases w.Gone
 ·rfl
 ·rfl
theorem cR_lp (fu : Nat) : ∀ (r q : List TRead) (n : Nat), (q ++ r).length ≤ 1000000 → r.length < n → ∃ o, slices_IndexFunc_api_Read.lp3 fu (q ++ r) ((q ++ r).length : Int) n (q.length : Int) = some o ∧ (r.all rdOk = true → o = .inl ()) ∧ (r.all rdOk = false → ∃ j, o = .inr j ∧ 0 ≤ j)
 | [], q, n, hl, hn => by
  obtain ⟨n, rfl⟩ : ∃ m, n = m + 1 := ⟨n - 1, by omega⟩
  simp only [List.append_nil]
  rw [slices_IndexFunc_api_Read.lp3, br_f (nlt_end _)]
  exact ⟨_, rfl, fun _ => rfl, fun h => by cases h⟩
 | v :: r, q, n, hl, hn => by
  obtain ⟨n, rfl⟩ : ∃ m, n = m + 1 := ⟨n - 1, by omega⟩
  have e : q ++ v :: r = (q ++ [v]) ++ r := by simp
  obtain ⟨o, g1, g2, g3⟩ := cR_lp fu r (q ++ [v]) n (by rw [← e]; exact hl) (by simp at hn; omega)
  rw [← e] at g1
  rw [slices_IndexFunc_api_Read.lp3, br_t (lt_mid _ _ _), ix_mid, w64_len q r v (by omega), g1, List.all_cons]
  unfold txn_May_1
  rw [rd_e, bd_s rfl, bd_s rfl]
  cases rdOk v
  ·exact ⟨_, rfl, fun h => by simp at h, fun _ => ⟨_, rfl, by omega⟩⟩
  ·exact ⟨o, rfl, g2, g3⟩
theorem cR_e {fu : Nat} {l : List TRead} (hl : l.length ≤ 1000000) (hf : l.length < fu) : slices_ContainsFunc_api_Read fu l = some (!l.all rdOk) := by
 obtain ⟨o, g1, g2, g3⟩ := cR_lp fu l [] fu hl hf
 simp only [List.nil_append, List.length_nil, Int.natCast_zero] at g1
 unfold slices_ContainsFunc_api_Read slices_IndexFunc_api_Read
 rw [bd_s (o := bd _ _) (x := cfO o) (by rw [bd_s g1]; cases o <;> rfl)]
 cases h : l.all rdOk
 ·obtain ⟨j, hj, hj0⟩ := g3 h
  rw [hj]
  show some (decide (j ≥ 0)) = some true
  rw [decide_eq_true (by omega)]
 ·rw [g2 h]; rfl
theorem cW_lp (fu : Nat) : ∀ (r q : List TWrite) (n : Nat), (q ++ r).length ≤ 1000000 → r.length < n → ∃ o, slices_IndexFunc_api_Write.lp3 fu (q ++ r) ((q ++ r).length : Int) n (q.length : Int) = some o ∧ (r.all wrOk = true → o = .inl ()) ∧ (r.all wrOk = false → ∃ j, o = .inr j ∧ 0 ≤ j)
 | [], q, n, hl, hn => by
  obtain ⟨n, rfl⟩ : ∃ m, n = m + 1 := ⟨n - 1, by omega⟩
  simp only [List.append_nil]
  rw [slices_IndexFunc_api_Write.lp3, br_f (nlt_end _)]
  exact ⟨_, rfl, fun _ => rfl, fun h => by cases h⟩
 | v :: r, q, n, hl, hn => by
  obtain ⟨n, rfl⟩ : ∃ m, n = m + 1 := ⟨n - 1, by omega⟩
  have e : q ++ v :: r = (q ++ [v]) ++ r := by simp
  obtain ⟨o, g1, g2, g3⟩ := cW_lp fu r (q ++ [v]) n (by rw [← e]; exact hl) (by simp at hn; omega)
  rw [← e] at g1
  rw [slices_IndexFunc_api_Write.lp3, br_t (lt_mid _ _ _), ix_mid, w64_len q r v (by omega), g1, List.all_cons]
  unfold txn_May_2
  rw [wr_e, bd_s rfl, bd_s rfl]
  cases wrOk v
  ·exact ⟨_, rfl, fun h => by simp at h, fun _ => ⟨_, rfl, by omega⟩⟩
  ·exact ⟨o, rfl, g2, g3⟩
theorem cW_e {fu : Nat} {l : List TWrite} (hl : l.length ≤ 1000000) (hf : l.length < fu) : slices_ContainsFunc_api_Write fu l = some (!l.all wrOk) := by
 obtain ⟨o, g1, g2, g3⟩ := cW_lp fu l [] fu hl hf
 simp only [List.nil_append, List.length_nil, Int.natCast_zero] at g1
 unfold slices_ContainsFunc_api_Write slices_IndexFunc_api_Write
 rw [bd_s (o := bd _ _) (x := cfO o) (by rw [bd_s g1]; cases o <;> rfl)]
 cases h : l.all wrOk
 ·obtain ⟨j, hj, hj0⟩ := g3 h
  rw [hj]
  show some (decide (j ≥ 0)) = some true
  rw [decide_eq_true (by omega)]
 ·rw [g2 h]; rfl
theorem kR_lp (fu : Nat) (t : TTxn) : ∀ (r q : List TRead) (ks : List ByteArray) (n : Nat), (q ++ r).length ≤ 1000000 → ks.length ≤ q.length → r.length < n → txn_keys.lp3 fu (q ++ r) ((q ++ r).length : Int) t n ks (q.length : Int) = some (ks ++ r.map (·.Key))
 | [], q, ks, n, hl, hk, hn => by
  obtain ⟨n, rfl⟩ : ∃ m, n = m + 1 := ⟨n - 1, by omega⟩
  simp only [List.append_nil]
  rw [txn_keys.lp3, br_f (nlt_end _)]; simp
 | v :: r, q, ks, n, hl, hk, hn => by
  obtain ⟨n, rfl⟩ : ∃ m, n = m + 1 := ⟨n - 1, by omega⟩
  have e : q ++ v :: r = (q ++ [v]) ++ r := by simp
  have hl' : q.length + 1 + r.length ≤ 1000000 := by simp at hl; omega
  have ih := kR_lp fu t r (q ++ [v]) (ks ++ [v.Key]) n (by rw [← e]; exact hl) (by simp; omega) (by simp at hn; omega)
  rw [← e] at ih
  rw [txn_keys.lp3, br_t (lt_mid _ _ _), ix_mid, gd_t (decide_eq_true (by simp; omega)), w64_len q r v (by omega), ih]
  simp
theorem kW_lp (fu : Nat) (z : List ByteArray) : ∀ (r q : List TWrite) (ks : List ByteArray) (n : Nat), (q ++ r).length ≤ 1000000 → ks.length ≤ q.length → r.length < n → txn_keys.lp11 fu z (q ++ r) ((q ++ r).length : Int) n ks (q.length : Int) = some (ks ++ r.map (·.Key))
 | [], q, ks, n, hl, hk, hn => by
  obtain ⟨n, rfl⟩ : ∃ m, n = m + 1 := ⟨n - 1, by omega⟩
  simp only [List.append_nil]
  rw [txn_keys.lp11, br_f (nlt_end _)]; simp
 | v :: r, q, ks, n, hl, hk, hn => by
  obtain ⟨n, rfl⟩ : ∃ m, n = m + 1 := ⟨n - 1, by omega⟩
  have e : q ++ v :: r = (q ++ [v]) ++ r := by simp
  have hl' : q.length + 1 + r.length ≤ 1000000 := by simp at hl; omega
  have ih := kW_lp fu z r (q ++ [v]) (ks ++ [v.Key]) n (by rw [← e]; exact hl) (by simp; omega) (by simp at hn; omega)
  rw [← e] at ih
  rw [txn_keys.lp11, br_t (lt_mid _ _ _), ix_mid, gd_t (decide_eq_true (by simp; omega)), w64_len q r v (by omega), ih]
  simp
theorem keys_e {fu : Nat} {t : TTxn} (hr : t.Reads.length ≤ 1000000 ∧ t.Reads.length < fu) (hw : t.Writes.length ≤ 1000000 ∧ t.Writes.length < fu) : txn_keys fu t = some (t.Reads.map (·.Key), t.Writes.map (·.Key)) := by
 have h1 := kR_lp fu t t.Reads [] [] fu hr.1 (Nat.le_refl _) hr.2
 simp only [List.nil_append, List.length_nil, Int.natCast_zero] at h1
 have h2 := kW_lp fu (t.Reads.map (·.Key)) t.Writes [] [] fu hw.1 (Nat.le_refl _) hw.2
 simp only [List.nil_append, List.length_nil, Int.natCast_zero] at h2
 unfold txn_keys
 rw [bd_s h1, bd_s h2]
structure TxF (fu : Nat) (t : TTxn) : Prop where
 r : t.Reads.length ≤ 1000000 ∧ t.Reads.length < fu
 w : t.Writes.length ≤ 1000000 ∧ t.Writes.length < fu
 rk : ∀ x ∈ t.Reads, x.Key.size ≤ 9223372036854775807 ∧ x.Key.size < fu
 wk : ∀ x ∈ t.Writes, x.Key.size ≤ 9223372036854775807 ∧ x.Key.size < fu
def txnB (fu : Nat) (t : TTxn) : Bool := decide (t.Session ≥ 1) && (decide (t.Session ≤ 9) && (decide (t.Seq ≥ 1) && (decide (t.Seq ≤ 1000) && (decide ((t.Reads.length : Int) ≤ 6) && (risB fu (t.Reads.map (·.Key)) && (decide ((t.Writes.length : Int) ≤ 4) && (risB fu (t.Writes.map (·.Key)) && (t.Reads.all rdOk && t.Writes.all wrOk))))))))
theorem risR {fu : Nat} {t : TTxn} (h : TxF fu t) : key_Rising fu (t.Reads.map (·.Key)) = some (risB fu (t.Reads.map (·.Key))) ∧ diwanref1_Rising fu (t.Reads.map (·.Key)) = some (risB fu (t.Reads.map (·.Key))) := ris_e (fu := fu) (l := t.Reads.map (·.Key)) (by simpa using h.r.1) (fun k hk => by obtain ⟨x, hx, rfl⟩ := List.mem_map.1 hk; exact h.rk x hx) (by simpa using h.r.2)
theorem risW {fu : Nat} {t : TTxn} (h : TxF fu t) : key_Rising fu (t.Writes.map (·.Key)) = some (risB fu (t.Writes.map (·.Key))) ∧ diwanref1_Rising fu (t.Writes.map (·.Key)) = some (risB fu (t.Writes.map (·.Key))) := ris_e (fu := fu) (l := t.Writes.map (·.Key)) (by simpa using h.w.1) (fun k hk => by obtain ⟨x, hx, rfl⟩ := List.mem_map.1 hk; exact h.wk x hx) (by simpa using h.w.2)
theorem mayT_e {fu : Nat} {t : TTxn} (h : TxF fu t) : txn_May fu t = some (txnB fu t) := by
 unfold txn_May txnB
 rw [bd_s (keys_e h.r h.w)]
 dsimp only
 rw [List.length_map, List.length_map]
 refine br_and (br_and (br_and (br_and (br_and ?_))))
 rw [bd_s (risR h).1]
 refine br_and (br_and ?_)
 rw [bd_s (risW h).1]
 refine br_and ?_
 rw [bd_s (cR_e h.r.1 h.r.2), Bool.not_not]
 refine br_and ?_
 rw [bd_s (cW_e h.w.1 h.w.2), Bool.not_not]
theorem rR_lp (fu : Nat) (t : TTxn) : ∀ (r q : List TRead) (ks : List ByteArray) (n : Nat), t.Reads = q ++ r → t.Reads.length ≤ 1000000 → ks.length ≤ q.length → r.length < n → diwanref1_MayTxn.lp4 fu t n ks (q.length : Int) = some (bif r.all rdOk then .inl (ks ++ r.map (·.Key)) else .inr ())
 | [], q, ks, n, e, hl, hk, hn => by
  obtain ⟨n, rfl⟩ : ∃ m, n = m + 1 := ⟨n - 1, by omega⟩
  simp only [List.append_nil] at e
  rw [diwanref1_MayTxn.lp4, br_f (by rw [e]; exact nlt_end _)]; simp
 | v :: r, q, ks, n, e, hl, hk, hn => by
  obtain ⟨n, rfl⟩ : ∃ m, n = m + 1 := ⟨n - 1, by omega⟩
  have hlen : t.Reads.length = q.length + 1 + r.length := by rw [e]; simp; omega
  have hx : t.Reads[q.length]? = some v := by rw [e]; simp
  have ew : w64 ((q.length : Int) + 1) = ((q ++ [v]).length : Int) := by rw [w64_id (by omega) (by omega)]; simp
  have ih := rR_lp fu t r (q ++ [v]) (ks ++ [v.Key]) n (by rw [e]; simp) hl (by simp; omega) (by simp at hn; omega)
  rw [diwanref1_MayTxn.lp4, br_t (decide_eq_true (by omega)), ix_n hx, gd_t (decide_eq_true (by simp; omega)), ew, ih, List.all_cons]
  have e2 : ks ++ [v.Key] ++ r.map (·.Key) = ks ++ (v :: r).map (·.Key) := by simp
  rw [e2]
  unfold rdOk
  by_cases h1 : v.Version < 0
  ·rw [br_t (decide_eq_true h1), decide_eq_false (p := v.Version ≥ 0) (by omega)]; rfl
  rw [br_f (decide_eq_false h1), decide_eq_true (p := v.Version ≥ 0) (by omega), Bool.true_and]
  by_cases h2 : (v.Val.size : Int) > 16
  ·rw [br_t (decide_eq_true h2), decide_eq_false (p := (v.Val.size : Int) ≤ 16) (by omega)]; rfl
  rw [br_f (decide_eq_false h2), decide_eq_true (p := (v.Val.size : Int) ≤ 16) (by omega), Bool.true_and]
  cases v.There
  ·rw [br_t (b := !false) rfl]
   cases (v.Val.toList == ByteArray.empty.toList)
   ·rfl
   ·rfl
  ·rw [br_f (b := !true) rfl, br_t rfl]
   cases (v.Version == 0)
   ·rfl
   ·rfl
theorem rW_lp (fu : Nat) (z : List ByteArray) (t : TTxn) : ∀ (r q : List TWrite) (ks : List ByteArray) (n : Nat), t.Writes = q ++ r → t.Writes.length ≤ 1000000 → ks.length ≤ q.length → r.length < n → diwanref1_MayTxn.lp23 fu z t n ks (q.length : Int) = some (bif r.all wrOk then .inl (ks ++ r.map (·.Key)) else .inr ())
 | [], q, ks, n, e, hl, hk, hn => by
  obtain ⟨n, rfl⟩ : ∃ m, n = m + 1 := ⟨n - 1, by omega⟩
  simp only [List.append_nil] at e
  rw [diwanref1_MayTxn.lp23, br_f (by rw [e]; exact nlt_end _)]; simp
 | v :: r, q, ks, n, e, hl, hk, hn => by
  obtain ⟨n, rfl⟩ : ∃ m, n = m + 1 := ⟨n - 1, by omega⟩
  have hlen : t.Writes.length = q.length + 1 + r.length := by rw [e]; simp; omega
  have hx : t.Writes[q.length]? = some v := by rw [e]; simp
  have ew : w64 ((q.length : Int) + 1) = ((q ++ [v]).length : Int) := by rw [w64_id (by omega) (by omega)]; simp
  have ih := rW_lp fu z t r (q ++ [v]) (ks ++ [v.Key]) n (by rw [e]; simp) hl (by simp; omega) (by simp at hn; omega)
  rw [diwanref1_MayTxn.lp23, br_t (decide_eq_true (by omega)), ix_n hx, gd_t (decide_eq_true (by simp; omega)), ew, ih, List.all_cons]
  have e2 : ks ++ [v.Key] ++ r.map (·.Key) = ks ++ (v :: r).map (·.Key) := by simp
  rw [e2]
  unfold wrOk
  by_cases h2 : (v.Val.size : Int) > 16
  ·rw [br_t (decide_eq_true h2), decide_eq_false (p := (v.Val.size : Int) ≤ 16) (by omega)]; rfl
  rw [br_f (decide_eq_false h2), decide_eq_true (p := (v.Val.size : Int) ≤ 16) (by omega), Bool.true_and]
  cases v.Gone
  ·rfl
  ·rw [br_t rfl]
   cases (v.Val.toList == ByteArray.empty.toList)
   ·rfl
   ·rfl
theorem rmayT_e {fu : Nat} {t : TTxn} (h : TxF fu t) : diwanref1_MayTxn fu t = some (txnB fu t) := by
 have h1 := rR_lp fu t t.Reads [] [] fu rfl h.r.1 (Nat.le_refl _) h.r.2
 have h2 := fun z => rW_lp fu z t t.Writes [] [] fu rfl h.w.1 (Nat.le_refl _) h.w.2
 simp only [List.nil_append, List.length_nil, Int.natCast_zero] at h1 h2
 unfold diwanref1_MayTxn
 rw [bd_s h1]
 have c2 : (br (decide (t.Session ≥ 1)) (br (decide (t.Session ≤ 9)) (br (decide (t.Seq ≥ 1)) (br (decide (t.Seq ≤ 1000)) (br (decide (((t.Reads.map (·.Key)).length : Int) ≤ 6)) (br (decide (((t.Writes.map (·.Key)).length : Int) ≤ 4)) (bd (diwanref1_Rising fu (t.Reads.map (·.Key))) fun r35_7 => br r35_7 (bd (diwanref1_Rising fu (t.Writes.map (·.Key))) fun r35_10 => some r35_10) (some false)) (some false)) (some false)) (some false)) (some false)) (some false)) (some false)) = some (decide (t.Session ≥ 1) && (decide (t.Session ≤ 9) && (decide (t.Seq ≥ 1) && (decide (t.Seq ≤ 1000) && (decide ((t.Reads.length : Int) ≤ 6) && (decide ((t.Writes.length : Int) ≤ 4) && (risB fu (t.Reads.map (·.Key)) && risB fu (t.Writes.map (·.Key))))))))) := by
  rw [List.length_map, List.length_map, bd_s (risR h).2, bd_s (risW h).2]
  exact br_and (br_and (br_and (br_and (br_and (br_and (br_and rfl))))))
 unfold txnB
 cases hA : t.Reads.all rdOk
 ·simp
 ·simp only [cond_true]
  rw [bd_s (h2 _)]
  cases hB : t.Writes.all wrOk
  ·simp
  ·simp only [cond_true]
   rw [c2]
   congr 1
   ac_rfl
def entB (fu : Nat) (e : TEntry) : Bool := (bif e.Seal then txB e.T (TTxn.mk 0 0 [] []) else txnB fu e.T) && (decide (e.Term ≥ 0) && decide (e.Term ≤ 1099511627776))
theorem entry_e {fu : Nat} {e : TEntry} (h : TxF fu e.T) : msg_entry fu e = some (entB fu e) := by
 unfold msg_entry entB
 have hN : max e.T.Reads.length e.T.Writes.length ≤ 1000000 ∧ max e.T.Reads.length e.T.Writes.length < fu := by have := h.r; have := h.w; omega
 cases e.Seal
 ·rw [br_f rfl, bd_s (mayT_e h)]
  exact br_and (br_and rfl)
 ·rw [br_t rfl]
  simp only [jn_e]
  rw [bd_s (txS_e (N := max e.T.Reads.length e.T.Writes.length) (by omega) (by omega) hN.1 hN.2)]
  exact br_and (br_and rfl)
theorem rentry_e {fu : Nat} {e : TEntry} (h : TxF fu e.T) : diwanref1_MayEntry fu e = some (bif e.Seal then txB e.T (TTxn.mk 0 0 [] []) else txnB fu e.T) := by
 unfold diwanref1_MayEntry diwanref1_none
 have hN : max e.T.Reads.length e.T.Writes.length ≤ 1000000 ∧ max e.T.Reads.length e.T.Writes.length < fu := by have := h.r; have := h.w; omega
 cases e.Seal
 ·rw [br_f rfl, br_t (b := !false) rfl, bd_s (rmayT_e h)]; rfl
 ·rw [br_t rfl, bd_s (rsT_e (N := max e.T.Reads.length e.T.Writes.length) (by omega) (by omega) hN.1 hN.2), bd_s rfl]
  cases txB e.T (TTxn.mk 0 0 [] []) <;> rfl
end Go.Proofs.Ytbflggolnolaeaa.Told.MG
