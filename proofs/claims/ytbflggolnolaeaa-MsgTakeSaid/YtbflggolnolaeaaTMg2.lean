/- When two letters are the same: what the document's answer say. -/
import Derived.Test.YtbflggolnolaeaaTMg1
namespace Go.Proofs.Ytbflggolnolaeaa.Told.MG
open Go Go.Proofs.Ytbflggolnolaeaa.Vam Go.Proofs.Ytbflggolnolaeaa.Told
set_option linter.unusedSimpArgs false
set_option linter.unusedVariables false
theorem rsR_lp (fu : Nat) : ∀ (r s q p : List TRead) (n : Nat), (q ++ r).length ≤ 1000000 → q.length = p.length → r.length = s.length → r.length < n →
  diwanref1_SameReads.lp6 fu (q ++ r) (p ++ s) n (q.length : Int) = some (inlB (eqL rdB r s))
 | [], s, q, p, n, hl, hq, hs, hn => by
  obtain ⟨n, rfl⟩ : ∃ m, n = m + 1 := ⟨n - 1, by omega⟩
  have hs' : s = [] := List.length_eq_zero_iff.1 hs.symm
  subst hs'
  simp only [List.append_nil]
  rw [diwanref1_SameReads.lp6, br_f (nlt_end _)]; rfl
 | v :: r, s, q, p, n, hl, hq, hs, hn => by
  obtain ⟨n, rfl⟩ : ∃ m, n = m + 1 := ⟨n - 1, by omega⟩
  obtain ⟨u, s, rfl⟩ : ∃ u t, s = u :: t := by cases s with
   | nil => simp at hs
   | cons u t => exact ⟨u, t, rfl⟩
  have e1 : q ++ v :: r = (q ++ [v]) ++ r := by simp
  have e2 : p ++ u :: s = (p ++ [u]) ++ s := by simp
  have hx : (p ++ u :: s)[q.length]? = some u := by rw [hq]; simp
  have ih := rsR_lp fu r s (q ++ [v]) (p ++ [u]) n (by rw [← e1]; exact hl) (by simp [hq]) (by simpa using hs) (by simp at hn; omega)
  rw [← e1, ← e2] at ih
  rw [diwanref1_SameReads.lp6, br_t (lt_mid _ _ _), ix_mid, ix_n hx, w64_len q r v (by omega), ih]
  simp only [eqL]
  cases h : rdB v u
  ·rw [br_t (by show (!rdB v u) = true; rw [h]; rfl)]; rfl
  ·rw [br_f (by show (!rdB v u) = false; rw [h]; rfl)]; rfl
theorem rsR_e {fu : Nat} {a b : List TRead} (hl : a.length ≤ 1000000) (hf : a.length < fu) : diwanref1_SameReads fu a b = some (eqL rdB a b) := by
 unfold diwanref1_SameReads
 by_cases h : a.length = b.length
 ·have := rsR_lp fu a b [] [] fu (by simpa using hl) rfl h hf
  simp only [List.nil_append, List.length_nil, Int.natCast_zero] at this
  rw [br_f (by simp [h]), bd_s this]
  cases eqL rdB a b <;> rfl
 ·rw [br_t (by simpa using fun g => h (by omega)), eqL_len h]
theorem rsW_lp (fu : Nat) (a b : TTxn) : ∀ (r s q p : List TWrite) (n : Nat), a.Writes = q ++ r → b.Writes = p ++ s → a.Writes.length ≤ 1000000 → q.length = p.length → r.length = s.length → r.length < n →
  diwanref1_SameTxn.lp9 fu a b n (q.length : Int) = some (inlB (eqL wrB r s))
 | [], s, q, p, n, ha, hb, hl, hq, hs, hn => by
  obtain ⟨n, rfl⟩ : ∃ m, n = m + 1 := ⟨n - 1, by omega⟩
  have hs' : s = [] := List.length_eq_zero_iff.1 hs.symm
  subst hs'
  rw [diwanref1_SameTxn.lp9, br_f (decide_eq_false (by rw [ha]; simp))]; rfl
 | v :: r, s, q, p, n, ha, hb, hl, hq, hs, hn => by
  obtain ⟨n, rfl⟩ : ∃ m, n = m + 1 := ⟨n - 1, by omega⟩
  obtain ⟨u, s, rfl⟩ : ∃ u t, s = u :: t := by cases s with
   | nil => simp at hs
   | cons u t => exact ⟨u, t, rfl⟩
  have hlen : a.Writes.length = q.length + 1 + r.length := by rw [ha]; simp; omega
  have hx : b.Writes[q.length]? = some u := by rw [hb, hq]; simp
  have hy : a.Writes[q.length]? = some v := by rw [ha]; simp
  have hw : w64 ((q.length : Int) + 1) = ((q ++ [v]).length : Int) := by rw [w64_id (by omega) (by omega)]; simp
  have ih := rsW_lp fu a b r s (q ++ [v]) (p ++ [u]) n (by rw [ha]; simp) (by rw [hb]; simp) hl (by simp [hq]) (by simpa using hs) (by simp at hn; omega)
  rw [diwanref1_SameTxn.lp9, br_t (decide_eq_true (by omega)), ix_n hy, ix_n hx, hw, ih]
  simp only [eqL]
  cases h : wrB v u
  ·rw [br_t (by show (!wrB v u) = true; rw [h]; rfl)]; rfl
  ·rw [br_f (by show (!wrB v u) = false; rw [h]; rfl)]; rfl
theorem rsT_e {fu N : Nat} {a b : TTxn} (h1 : a.Reads.length ≤ N) (h2 : a.Writes.length ≤ N) (hN : N ≤ 1000000) (hf : N < fu) : diwanref1_SameTxn fu a b = some (txB a b) := by
 unfold diwanref1_SameTxn
 by_cases c1 : a.Session = b.Session
 ·rw [br_f (by simpa using c1)]
  by_cases c2 : a.Seq = b.Seq
  ·rw [br_f (by simpa using c2)]
   by_cases c3 : a.Writes.length = b.Writes.length
   ·have := rsW_lp fu a b a.Writes b.Writes [] [] fu rfl rfl (by omega) rfl c3 (by omega)
    simp only [List.length_nil, Int.natCast_zero] at this
    rw [br_f (by simp [c3]), bd_s (rsR_e (by omega) (by omega)), bd_s this]
    unfold txB
    rw [beq_iff_eq.2 c1, beq_iff_eq.2 c2]
    cases eqL rdB a.Reads b.Reads <;> cases eqL wrB a.Writes b.Writes <;> rfl
   ·rw [br_t (by simpa using fun g => c3 (by omega))]
    unfold txB
    rw [eqL_len c3]; simp
  ·rw [br_t (by simpa using c2)]
   unfold txB
   rw [beq_eq_false_iff_ne.2 c2]; simp
 ·rw [br_t (by simpa using c1)]
  unfold txB
  rw [beq_eq_false_iff_ne.2 c1]; simp
theorem rsE_e {fu N : Nat} {a b : TEntry} (h1 : a.T.Reads.length ≤ N) (h2 : a.T.Writes.length ≤ N) (hN : N ≤ 1000000) (hf : N < fu) : diwanref1_SameEntry fu a b = some (enB a b) := by
 unfold diwanref1_SameEntry enB
 refine br_and ?_
 refine br_and ?_
 rw [bd_s (rsT_e h1 h2 hN hf)]
theorem rsL_lp (fu : Nat) {N : Nat} (hN : N ≤ 1000000) (hf : N < fu) : ∀ (r s q p : List TEntry) (n : Nat), (q ++ r).length ≤ 1000000 → q.length = p.length → r.length = s.length → (∀ e ∈ r, e.T.Reads.length ≤ N ∧ e.T.Writes.length ≤ N) → r.length < n →
  diwanref1_SameEntries.lp6 fu (q ++ r) (p ++ s) n (q.length : Int) = some (inlB (eqL enB r s))
 | [], s, q, p, n, hl, hq, hs, hr, hn => by
  obtain ⟨n, rfl⟩ : ∃ m, n = m + 1 := ⟨n - 1, by omega⟩
  have hs' : s = [] := List.length_eq_zero_iff.1 hs.symm
  subst hs'
  simp only [List.append_nil]
  rw [diwanref1_SameEntries.lp6, br_f (nlt_end _)]; rfl
 | v :: r, s, q, p, n, hl, hq, hs, hr, hn => by
  obtain ⟨n, rfl⟩ : ∃ m, n = m + 1 := ⟨n - 1, by omega⟩
  obtain ⟨u, s, rfl⟩ : ∃ u t, s = u :: t := by cases s with
   | nil => simp at hs
   | cons u t => exact ⟨u, t, rfl⟩
  have e1 : q ++ v :: r = (q ++ [v]) ++ r := by simp
  have e2 : p ++ u :: s = (p ++ [u]) ++ s := by simp
  have hx : (p ++ u :: s)[q.length]? = some u := by rw [hq]; simp
  have ih := rsL_lp fu hN hf r s (q ++ [v]) (p ++ [u]) n (by rw [← e1]; exact hl) (by simp [hq]) (by simpa using hs) (fun e h => hr e (by simp [h])) (by simp at hn; omega)
  rw [← e1, ← e2] at ih
  obtain ⟨g1, g2⟩ := hr v (by simp)
  rw [diwanref1_SameEntries.lp6, br_t (lt_mid _ _ _), ix_mid, ix_n hx, bd_s (rsE_e g1 g2 hN hf), w64_len q r v (by omega), ih]
  simp only [eqL]
  cases enB v u <;> rfl
theorem rsL_e {fu N : Nat} {a b : List TEntry} (h : SmE N a) (hN : N ≤ 1000000) (hf : N < fu) : diwanref1_SameEntries fu a b = some (eqL enB a b) := by
 unfold diwanref1_SameEntries
 have hl := h.1
 by_cases e : a.length = b.length
 ·have := rsL_lp fu hN hf a b [] [] fu (by simp; omega) rfl e h.2 (by omega)
  simp only [List.nil_append, List.length_nil, Int.natCast_zero] at this
  rw [br_f (by simp [e]), bd_s this]; cases eqL enB a b <;> rfl
 ·rw [br_t (by simpa using fun g => e (by omega)), eqL_len e]
theorem rsK_lp (fu : Nat) (a b : TMsg) : ∀ (r s q p : List ByteArray) (n : Nat), a.Keys = q ++ r → b.Keys = p ++ s → a.Keys.length ≤ 1000000 → q.length = p.length → r.length = s.length → r.length < n →
  diwanref1_SameMsg.lp28 fu a b n (q.length : Int) = some (inlB (eqL bqS r s))
 | [], s, q, p, n, ha, hb, hl, hq, hs, hn => by
  obtain ⟨n, rfl⟩ : ∃ m, n = m + 1 := ⟨n - 1, by omega⟩
  have hs' : s = [] := List.length_eq_zero_iff.1 hs.symm
  subst hs'
  rw [diwanref1_SameMsg.lp28, br_f (decide_eq_false (by rw [ha]; simp))]; rfl
 | v :: r, s, q, p, n, ha, hb, hl, hq, hs, hn => by
  obtain ⟨n, rfl⟩ : ∃ m, n = m + 1 := ⟨n - 1, by omega⟩
  obtain ⟨u, s, rfl⟩ : ∃ u t, s = u :: t := by cases s with
   | nil => simp at hs
   | cons u t => exact ⟨u, t, rfl⟩
  have hlen : a.Keys.length = q.length + 1 + r.length := by rw [ha]; simp; omega
  have hx : b.Keys[q.length]? = some u := by rw [hb, hq]; simp
  have hy : a.Keys[q.length]? = some v := by rw [ha]; simp
  have hw : w64 ((q.length : Int) + 1) = ((q ++ [v]).length : Int) := by rw [w64_id (by omega) (by omega)]; simp
  have ih := rsK_lp fu a b r s (q ++ [v]) (p ++ [u]) n (by rw [ha]; simp) (by rw [hb]; simp) hl (by simp [hq]) (by simpa using hs) (by simp at hn; omega)
  rw [diwanref1_SameMsg.lp28, br_t (decide_eq_true (by omega)), ix_n hy, ix_n hx, hw, ih]
  simp only [eqL]
  cases h : bqS v u
  ·rw [br_t (by show (!bqS v u) = true; rw [h]; rfl)]; rfl
  ·rw [br_f (by show (!bqS v u) = false; rw [h]; rfl)]; rfl
def msgR (a b : TMsg) : Bool := (a.Kind == b.Kind) && ((a.From == b.From) && ((a.To == b.To) && ((a.Part == b.Part) && ((a.Term == b.Term) && ((a.Index == b.Index) && ((a.LogTerm == b.LogTerm) && ((a.Commit == b.Commit) && ((a.OK == b.OK) && ((a.Session == b.Session) && ((a.Seq == b.Seq) && ((a.Pos == b.Pos) && ((a.Shard == b.Shard) && ((a.Span == b.Span) && (bqS a.FromKey b.FromKey && (bqS a.ToKey b.ToKey && ((a.Err == b.Err) && (eqL enB a.Entries b.Entries && (txB a.T b.T && (eqL rdB a.Got b.Got && eqL bqS a.Keys b.Keys)))))))))))))))))))
theorem msgR_iff (a b : TMsg) : msgR a b = true ↔ a = b := by
 cases a; cases b
 simp only [msgR, Bool.and_eq_true, beq_iff_eq, TMsg.mk.injEq, eqL_iff enB_iff, txB_iff, bqS_iff, eqL_iff bqS_iff, eqL_iff rdB_iff]
 constructor
 ·rintro ⟨h1, h2, h3, h4, n1, n2, n3, n4, h6, n5, n6, n7, n8, h9, h10, h11, h14, h7, h8, h13, h12⟩
  exact ⟨h1, h2, h3, h4, n1, n2, n3, n4, h6, h7, h8, n5, n6, n7, n8, h9, h10, h11, h12, h13, h14⟩
 ·rintro ⟨h1, h2, h3, h4, n1, n2, n3, n4, h6, h7, h8, n5, n6, n7, n8, h9, h10, h11, h12, h13, h14⟩
  exact ⟨h1, h2, h3, h4, n1, n2, n3, n4, h6, n5, n6, n7, n8, h9, h10, h11, h14, h7, h8, h13, h12⟩
theorem msgR_eq (a b : TMsg) : msgR a b = msgB a b := Bool.eq_iff_iff.2 ((msgR_iff a b).trans (msgB_iff a b).symm)
theorem msgB_comm (a b : TMsg) : msgB a b = msgB b a := Bool.eq_iff_iff.2 ((msgB_iff a b).trans (eq_comm.trans (msgB_iff b a).symm))
theorem rsame_e {fu N : Nat} {a b : TMsg} (h : SmM N a) (hN : N ≤ 1000000) (hf : N < fu) : diwanref1_SameMsg fu a b = some (msgB a b) := by
 have h1 := h.tr
 have h2 := h.tw
 have h3 := h.ks
 have h4 := h.gs
 rw [← msgR_eq]
 unfold diwanref1_SameMsg msgR
 refine br_nn ?_
 refine br_nn ?_
 refine br_nn ?_
 refine br_nn ?_
 refine br_nn ?_
 refine br_nn ?_
 refine br_nn ?_
 refine br_nn ?_
 refine br_nn ?_
 refine br_nn ?_
 refine br_nn ?_
 refine br_nn ?_
 refine br_nn ?_
 refine br_nn ?_
 refine br_nn ?_
 refine br_nn ?_
 refine br_nn ?_
 rw [bd_s (rsL_e h.en hN hf)]
 refine br_nn ?_
 rw [bd_s (rsT_e h.tr h.tw hN hf)]
 refine br_nn ?_
 rw [bd_s (rsR_e (by omega) (by omega))]
 refine br_nn ?_
 by_cases e : a.Keys.length = b.Keys.length
 ·have := rsK_lp fu a b a.Keys b.Keys [] [] fu rfl rfl (by omega) rfl e (by omega)
  simp only [List.length_nil, Int.natCast_zero] at this
  rw [br_f (by simp [e]), bd_s this]
  cases eqL bqS a.Keys b.Keys <;> rfl
 ·rw [br_t (by simpa using fun g => e (by omega)), eqL_len e]
end Go.Proofs.Ytbflggolnolaeaa.Told.MG
