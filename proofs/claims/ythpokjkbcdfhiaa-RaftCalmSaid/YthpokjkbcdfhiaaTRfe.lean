/- When two rows of entries are the same: what the document's answer says. -/
import Derived.Test.YthpokjkbcdfhiaaTRf2
namespace Go.Proofs.Ythpokjkbcdfhiaa.Told.RA
open Go Go.Proofs.Ythpokjkbcdfhiaa.Vam Go.Proofs.Ythpokjkbcdfhiaa.Told
set_option linter.unusedSimpArgs false
set_option linter.unusedVariables false
theorem rsR_lp (fu : Nat) : ∀ (r s q p : List TRead) (n : Nat), (q ++ r).length ≤ 1000000 → q.length = p.length → r.length = s.length → r.length < n →
  diwanref1_SameReads.lp6 fu (q ++ r) (p ++ s) n (q.length : Int) = some (inlB (eqL rdB r s))
 | [], s, q, p, n, hl, hq, hs, hn => by
  obtain ⟨n, rfl⟩ : ∃ m, n = m + 1 := ⟨n - 1, by omega⟩
  have hs' : s = [] := List.length_eq_zero_iff.1 hs.symm
  subst hs'
  simp only [List.append_nil]
  rw [diwanref1_SameReads.lp6, br_f (nlt_end _)]; rfl
 | v :: r, s, q, p, n, hl, hq, hs, hn => by
  obtain ⟨n, rfl⟩ : ∃ m, n = m + 1 := ⟨n - 1, by omega⟩
  obtain ⟨u, s, rfl⟩ : ∃ u t, s = u :: t := by cases s with
   | nil => simp at hs
   | cons u t => exact ⟨u, t, rfl⟩
  have e1 : q ++ v :: r = (q ++ [v]) ++ r := by simp
  have e2 : p ++ u :: s = (p ++ [u]) ++ s := by simp
  have hx : (p ++ u :: s)[q.length]? = some u := by rw [hq]; simp
  have ih := rsR_lp fu r s (q ++ [v]) (p ++ [u]) n (by rw [← e1]; exact hl) (by simp [hq]) (by simpa using hs) (by simp at hn; omega)
  rw [← e1, ← e2] at ih
  rw [diwanref1_SameReads.lp6, br_t (lt_mid _ _ _), ix_mid, ix_n hx, w64_len q r v (by omega), ih]
  simp only [eqL]
  cases h : rdB v u
  ·rw [br_t (by show (!rdB v u) = true; rw [h]; rfl)]; rfl
  ·rw [br_f (by show (!rdB v u) = false; rw [h]; rfl)]; rfl
theorem rsR_e {fu : Nat} {a b : List TRead} (hl : a.length ≤ 1000000) (hf : a.length < fu) : diwanref1_SameReads fu a b = some (eqL rdB a b) := by
 unfold diwanref1_SameReads
 by_cases h : a.length = b.length
 ·have := rsR_lp fu a b [] [] fu (by simpa using hl) rfl h hf
  simp only [List.nil_append, List.length_nil, Int.natCast_zero] at this
  rw [br_f (by simp [h]), bd_s this]
  cases eqL rdB a b <;> rfl
 ·rw [br_t (by simpa using fun g => h (by omega)), eqL_len h]
theorem rsW_lp (fu : Nat) (a b : TTxn) : ∀ (r s q p : List TWrite) (n : Nat), a.Writes = q ++ r → b.Writes = p ++ s → a.Writes.length ≤ 1000000 → q.length = p.length → r.length = s.length → r.length < n →
  diwanref1_SameTxn.lp9 fu a b n (q.length : Int) = some (inlB (eqL wrB r s))
 | [], s, q, p, n, ha, hb, hl, hq, hs, hn => by
  obtain ⟨n, rfl⟩ : ∃ m, n = m + 1 := ⟨n - 1, by omega⟩
  have hs' : s = [] := List.length_eq_zero_iff.1 hs.symm
  subst hs'
  rw [diwanref1_SameTxn.lp9, br_f (decide_eq_false (by rw [ha]; simp))]; rfl
 | v :: r, s, q, p, n, ha, hb, hl, hq, hs, hn => by
  obtain ⟨n, rfl⟩ : ∃ m, n = m + 1 := ⟨n - 1, by omega⟩
  obtain ⟨u, s, rfl⟩ : ∃ u t, s = u :: t := by cases s with
   | nil => simp at hs
   | cons u t => exact ⟨u, t, rfl⟩
  have hlen : a.Writes.length = q.length + 1 + r.length := by rw [ha]; simp; omega
  have hx : b.Writes[q.length]? = some u := by rw [hb, hq]; simp
  have hy : a.Writes[q.length]? = some v := by rw [ha]; simp
  have hw : w64 ((q.length : Int) + 1) = ((q ++ [v]).length : Int) := by rw [w64_id (by omega) (by omega)]; simp
  have ih := rsW_lp fu a b r s (q ++ [v]) (p ++ [u]) n (by rw [ha]; simp) (by rw [hb]; simp) hl (by simp [hq]) (by simpa using hs) (by simp at hn; omega)
  rw [diwanref1_SameTxn.lp9, br_t (decide_eq_true (by omega)), ix_n hy, ix_n hx, hw, ih]
  simp only [eqL]
  cases h : wrB v u
  ·rw [br_t (by show (!wrB v u) = true; rw [h]; rfl)]; rfl
  ·rw [br_f (by show (!wrB v u) = false; rw [h]; rfl)]; rfl
theorem rsT_e {fu N : Nat} {a b : TTxn} (h1 : a.Reads.length ≤ N) (h2 : a.Writes.length ≤ N) (hN : N ≤ 1000000) (hf : N < fu) : diwanref1_SameTxn fu a b = some (txB a b) := by
 unfold diwanref1_SameTxn
 by_cases c1 : a.Session = b.Session
 ·rw [br_f (by simpa using c1)]
  by_cases c2 : a.Seq = b.Seq
  ·rw [br_f (by simpa using c2)]
   by_cases c3 : a.Writes.length = b.Writes.length
   ·have := rsW_lp fu a b a.Writes b.Writes [] [] fu rfl rfl (by omega) rfl c3 (by omega)
    simp only [List.length_nil, Int.natCast_zero] at this
    rw [br_f (by simp [c3]), bd_s (rsR_e (by omega) (by omega)), bd_s this]
    unfold txB
    rw [beq_iff_eq.2 c1, beq_iff_eq.2 c2]
    cases eqL rdB a.Reads b.Reads <;> cases eqL wrB a.Writes b.Writes <;> rfl
   ·rw [br_t (by simpa using fun g => c3 (by omega))]
    unfold txB
    rw [eqL_len c3]; simp
  ·rw [br_t (by simpa using c2)]
   unfold txB
   rw [beq_eq_false_iff_ne.2 c2]; simp
 ·rw [br_t (by simpa using c1)]
  unfold txB
  rw [beq_eq_false_iff_ne.2 c1]; simp
theorem rsE_e {fu N : Nat} {a b : TEntry} (h1 : a.T.Reads.length ≤ N) (h2 : a.T.Writes.length ≤ N) (hN : N ≤ 1000000) (hf : N < fu) : diwanref1_SameEntry fu a b = some (enB a b) := by
 unfold diwanref1_SameEntry enB
 refine and_br ?_
 refine and_br ?_
 rw [bd_s (rsT_e h1 h2 hN hf)]
theorem rsL_lp (fu : Nat) {N : Nat} (hN : N ≤ 1000000) (hf : N < fu) : ∀ (r s q p : List TEntry) (n : Nat), (q ++ r).length ≤ 1000000 → q.length = p.length → r.length = s.length → (∀ e ∈ r, e.T.Reads.length ≤ N ∧ e.T.Writes.length ≤ N) → r.length < n →
  diwanref1_SameEntries.lp6 fu (q ++ r) (p ++ s) n (q.length : Int) = some (inlB (eqL enB r s))
 | [], s, q, p, n, hl, hq, hs, hr, hn => by
  obtain ⟨n, rfl⟩ : ∃ m, n = m + 1 := ⟨n - 1, by omega⟩
  have hs' : s = [] := List.length_eq_zero_iff.1 hs.symm
  subst hs'
  simp only [List.append_nil]
  rw [diwanref1_SameEntries.lp6, br_f (nlt_end _)]; rfl
 | v :: r, s, q, p, n, hl, hq, hs, hr, hn => by
  obtain ⟨n, rfl⟩ : ∃ m, n = m + 1 := ⟨n - 1, by omega⟩
  obtain ⟨u, s, rfl⟩ : ∃ u t, s = u :: t := by cases s with
   | nil => simp at hs
   | cons u t => exact ⟨u, t, rfl⟩
  have e1 : q ++ v :: r = (q ++ [v]) ++ r := by simp
  have e2 : p ++ u :: s = (p ++ [u]) ++ s := by simp
  have hx : (p ++ u :: s)[q.length]? = some u := by rw [hq]; simp
  have ih := rsL_lp fu hN hf r s (q ++ [v]) (p ++ [u]) n (by rw [← e1]; exact hl) (by simp [hq]) (by simpa using hs) (fun e h => hr e (by simp [h])) (by simp at hn; omega)
  rw [← e1, ← e2] at ih
  obtain ⟨g1, g2⟩ := hr v (by simp)
  rw [diwanref1_SameEntries.lp6, br_t (lt_mid _ _ _), ix_mid, ix_n hx, bd_s (rsE_e g1 g2 hN hf), w64_len q r v (by omega), ih]
  simp only [eqL]
  cases enB v u <;> rfl
theorem rsL_e {fu N : Nat} {a b : List TEntry} (h : SmE N a) (hN : N ≤ 1000000) (hf : N < fu) : diwanref1_SameEntries fu a b = some (eqL enB a b) := by
 unfold diwanref1_SameEntries
 have hl := h.1
 by_cases e : a.length = b.length
 ·have := rsL_lp fu hN hf a b [] [] fu (by simp; omega) rfl e h.2 (by omega)
  simp only [List.nil_append, List.length_nil, Int.natCast_zero] at this
  rw [br_f (by simp [e]), bd_s this]; cases eqL enB a b <;> rfl
 ·rw [br_t (by simpa using fun g => e (by omega)), eqL_len e]
end Go.Proofs.Ythpokjkbcdfhiaa.Told.RA
