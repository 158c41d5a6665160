/- When two states of a member are the same: what the document's answer says. -/
import Derived.Test.YthpokjkbcdfhiaaTRf2
namespace Go.Proofs.Ythpokjkbcdfhiaa.Told.RA
open Go Go.Proofs.Ythpokjkbcdfhiaa.Vam Go.Proofs.Ythpokjkbcdfhiaa.Told
set_option linter.unusedSimpArgs false
set_option linter.unusedVariables false
theorem rsR_lp (fu : Nat) : ∀ (r s q p : List TRead) (n : Nat), (q ++ r).length ≤ 1000000 → q.length = p.length → r.length = s.length → r.length < n →
  diwanref1_SameReads.lp6 fu (q ++ r) (p ++ s) n (q.length : Int) = some (inlB (eqL rdB r s))
 | [], s, q, p, n, hl, hq, hs, hn => by
  obtain ⟨n, rfl⟩ : ∃ m, n = m + 1 := ⟨n - 1, by omega⟩
  have hs' : s = [] := List.length_eq_zero_iff.1 hs.symm
  subst hs'
  simp only [List.append_nil]
  rw [diwanref1_SameReads.lp6, br_f (nlt_end _)]; rfl
 | v :: r, s, q, p, n, hl, hq, hs, hn => by
  obtain ⟨n, rfl⟩ : ∃ m, n = m + 1 := ⟨n - 1, by omega⟩
  obtain ⟨u, s, rfl⟩ : ∃ u t, s = u :: t := by cases s with
   | nil => simp at hs
   | cons u t => exact ⟨u, t, rfl⟩
  have e1 : q ++ v :: r = (q ++ [v]) ++ r := by simp
  have e2 : p ++ u :: s = (p ++ [u]) ++ s := by simp
  have hx : (p ++ u :: s)[q.length]? = some u := by rw [hq]; simp
  have ih := rsR_lp fu r s (q ++ [v]) (p ++ [u]) n (by rw [← e1]; exact hl) (by simp [hq]) (by simpa using hs) (by simp at hn; omega)
  rw [← e1, ← e2] at ih
  rw [diwanref1_SameReads.lp6, br_t (lt_mid _ _ _), ix_mid, ix_n hx, w64_len q r v (by omega), ih]
  simp only [eqL]
  cases h : rdB v u
  ·rw [br_t (by show (!rdB v u) = true; rw [h]; rfl)]; rfl
  ·rw [br_f (by show (!rdB v u) = false; rw [h]; rfl)]; rfl
theorem rsR_e {fu : Nat} {a b : List TRead} (hl : a.length ≤ 1000000) (hf : a.length < fu) : diwanref1_SameReads fu a b = some (eqL rdB a b) := by
 unfold diwanref1_SameReads
 by_cases h : a.length = b.length
 ·have := rsR_lp fu a b [] [] fu (by simpa using hl) rfl h hf
  simp only [List.nil_append, List.length_nil, Int.natCast_zero] at this
  rw [br_f (by simp [h]), bd_s this]
  cases eqL rdB a b <;> rfl
 ·rw [br_t (by simpa using fun g => h (by omega)), eqL_len h]
theorem rsW_lp (fu : Nat) (a b : TTxn) : ∀ (r s q p : List TWrite) (n : Nat), a.Writes = q ++ r → b.Writes = p ++ s → a.Writes.length ≤ 1000000 → q.length = p.length → r.length = s.length → r.length < n →
  diwanref1_SameTxn.lp9 fu a b n (q.length : Int) = some (inlB (eqL wrB r s))
 | [], s, q, p, n, ha, hb, hl, hq, hs, hn => by
  obtain ⟨n, rfl⟩ : ∃ m, n = m + 1 := ⟨n - 1, by omega⟩
  have hs' : s = [] := List.length_eq_zero_iff.1 hs.symm
  subst hs'
  rw [diwanref1_SameTxn.lp9, br_f (decide_eq_false (by rw [ha]; simp))]; rfl
 | v :: r, s, q, p, n, ha, hb, hl, hq, hs, hn => by
  obtain ⟨n, rfl⟩ : ∃ m, n = m + 1 := ⟨n - 1, by omega⟩
  obtain ⟨u, s, rfl⟩ : ∃ u t, s = u :: t := by cases s with
   | nil => simp at hs
   | cons u t => exact ⟨u, t, rfl⟩
  have hlen : a.Writes.length = q.length + 1 + r.length := by rw [ha]; simp; omega
  have hx : b.Writes[q.length]? = some u := by rw [hb, hq]; simp
  have hy : a.Writes[q.length]? = some v := by rw [ha]; simp
  have hw : w64 ((q.length : Int) + 1) = ((q ++ [v]).length : Int) := by rw [w64_id (by omega) (by omega)]; simp
  have ih := rsW_lp fu a b r s (q ++ [v]) (p ++ [u]) n (by rw [ha]; simp) (by rw [hb]; simp) hl (by simp [hq]) (by simpa using hs) (by simp at hn; omega)
  rw [diwanref1_SameTxn.lp9, br_t (decide_eq_true (by omega)), ix_n hy, ix_n hx, hw, ih]
  simp only [eqL]
  cases h : wrB v u
  ·rw [br_t (by show (!wrB v u) = true; rw [h]; rfl)]; rfl
  ·rw [br_f (by show (!wrB v u) = false; rw [h]; rfl)]; rfl
theorem rsT_e {fu N : Nat} {a b : TTxn} (h1 : a.Reads.length ≤ N) (h2 : a.Writes.length ≤ N) (hN : N ≤ 1000000) (hf : N < fu) : diwanref1_SameTxn fu a b = some (txB a b) := by
 unfold diwanref1_SameTxn
 by_cases c1 : a.Session = b.Session
 ·rw [br_f (by simpa using c1)]
  by_cases c2 : a.Seq = b.Seq
  ·rw [br_f (by simpa using c2)]
   by_cases c3 : a.Writes.length = b.Writes.length
   ·have := rsW_lp fu a b a.Writes b.Writes [] [] fu rfl rfl (by omega) rfl c3 (by omega)
    simp only [List.length_nil, Int.natCast_zero] at this
    rw [br_f (by simp [c3]), bd_s (rsR_e (by omega) (by omega)), bd_s this]
    unfold txB
    rw [beq_iff_eq.2 c1, beq_iff_eq.2 c2]
    cases eqL rdB a.Reads b.Reads <;> cases eqL wrB a.Writes b.Writes <;> rfl
   ·rw [br_t (by simpa using fun g => c3 (by omega))]
    unfold txB
    rw [eqL_len c3]; simp
  ·rw [br_t (by simpa using c2)]
   unfold txB
   rw [beq_eq_false_iff_ne.2 c2]; simp
 ·rw [br_t (by simpa using c1)]
  unfold txB
  rw [beq_eq_false_iff_ne.2 c1]; simp
theorem rsE_e {fu N : Nat} {a b : TEntry} (h1 : a.T.Reads.length ≤ N) (h2 : a.T.Writes.length ≤ N) (hN : N ≤ 1000000) (hf : N < fu) : diwanref1_SameEntry fu a b = some (enB a b) := by
 unfold diwanref1_SameEntry enB
 refine and_br ?_
 refine and_br ?_
 rw [bd_s (rsT_e h1 h2 hN hf)]
theorem rsL_lp (fu : Nat) {N : Nat} (hN : N ≤ 1000000) (hf : N < fu) : ∀ (r s q p : List TEntry) (n : Nat), (q ++ r).length ≤ 1000000 → q.length = p.length → r.length = s.length → (∀ e ∈ r, e.T.Reads.length ≤ N ∧ e.T.Writes.length ≤ N) → r.length < n →
  diwanref1_SameEntries.lp6 fu (q ++ r) (p ++ s) n (q.length : Int) = some (inlB (eqL enB r s))
 | [], s, q, p, n, hl, hq, hs, hr, hn => by
  obtain ⟨n, rfl⟩ : ∃ m, n = m + 1 := ⟨n - 1, by omega⟩
  have hs' : s = [] := List.length_eq_zero_iff.1 hs.symm
  subst hs'
  simp only [List.append_nil]
  rw [diwanref1_SameEntries.lp6, br_f (nlt_end _)]; rfl
 | v :: r, s, q, p, n, hl, hq, hs, hr, hn => by
  obtain ⟨n, rfl⟩ : ∃ m, n = m + 1 := ⟨n - 1, by omega⟩
  obtain ⟨u, s, rfl⟩ : ∃ u t, s = u :: t := by cases s with
   | nil => simp at hs
   | cons u t => exact ⟨u, t, rfl⟩
  have e1 : q ++ v :: r = (q ++ [v]) ++ r := by simp
  have e2 : p ++ u :: s = (p ++ [u]) ++ s := by simp
  have hx : (p ++ u :: s)[q.length]? = some u := by rw [hq]; simp
  have ih := rsL_lp fu hN hf r s (q ++ [v]) (p ++ [u]) n (by rw [← e1]; exact hl) (by simp [hq]) (by simpa using hs) (fun e h => hr e (by simp [h])) (by simp at hn; omega)
  rw [← e1, ← e2] at ih
  obtain ⟨g1, g2⟩ := hr v (by simp)
  rw [diwanref1_SameEntries.lp6, br_t (lt_mid _ _ _), ix_mid, ix_n hx, bd_s (rsE_e g1 g2 hN hf), w64_len q r v (by omega), ih]
  simp only [eqL]
  cases enB v u <;> rfl
theorem rsL_e {fu N : Nat} {a b : List TEntry} (h : SmE N a) (hN : N ≤ 1000000) (hf : N < fu) : diwanref1_SameEntries fu a b = some (eqL enB a b) := by
 unfold diwanref1_SameEntries
 have hl := h.1
 by_cases e : a.length = b.length
 ·have := rsL_lp fu hN hf a b [] [] fu (by simp; omega) rfl e h.2 (by omega)
  simp only [List.nil_append, List.length_nil, Int.natCast_zero] at this
  rw [br_f (by simp [e]), bd_s this]; cases eqL enB a b <;> rfl
 ·rw [br_t (by simpa using fun g => e (by omega)), eqL_len e]
theorem rsV_lp (fu : Nat) (a b : TRaft) : ∀ (r s q p : List Bool) (n : Nat), a.Votes = q ++ r → b.Votes = p ++ s → a.Votes.length ≤ 1000000 → q.length = p.length → r.length = s.length → r.length < n →
  diwanref11_Same.lp18 fu a b n (q.length : Int) = some (inlB (eqL bqB r s))
 | [], s, q, p, n, ha, hb, hl, hq, hs, hn => by
  obtain ⟨n, rfl⟩ : ∃ m, n = m + 1 := ⟨n - 1, by omega⟩
  have hs' : s = [] := List.length_eq_zero_iff.1 hs.symm
  subst hs'
  rw [diwanref11_Same.lp18, br_f (decide_eq_false (by rw [ha]; simp))]; rfl
 | v :: r, s, q, p, n, ha, hb, hl, hq, hs, hn => by
  obtain ⟨n, rfl⟩ : ∃ m, n = m + 1 := ⟨n - 1, by omega⟩
  obtain ⟨u, s, rfl⟩ : ∃ u t, s = u :: t := by cases s with
   | nil => simp at hs
   | cons u t => exact ⟨u, t, rfl⟩
  have hlen : a.Votes.length = q.length + 1 + r.length := by rw [ha]; simp; omega
  have hx : b.Votes[q.length]? = some u := by rw [hb, hq]; simp
  have hy : a.Votes[q.length]? = some v := by rw [ha]; simp
  have hw : w64 ((q.length : Int) + 1) = ((q ++ [v]).length : Int) := by rw [w64_id (by omega) (by omega)]; simp
  have ih := rsV_lp fu a b r s (q ++ [v]) (p ++ [u]) n (by rw [ha]; simp) (by rw [hb]; simp) hl (by simp [hq]) (by simpa using hs) (by simp at hn; omega)
  rw [diwanref11_Same.lp18, br_t (decide_eq_true (by omega)), ix_n hy, ix_n hx, hw, ih]
  simp only [eqL]
  cases h : bqB v u
  ·rw [br_t (by show (!bqB v u) = true; rw [h]; rfl)]; rfl
  ·rw [br_f (by show (!bqB v u) = false; rw [h]; rfl)]; rfl
theorem rsN_lp (fu : Nat) (a b : TRaft) : ∀ (r s q p : List Int) (n : Nat), a.Next = q ++ r → b.Next = p ++ s → a.Next.length ≤ 1000000 → q.length = p.length → r.length = s.length → r.length < n →
  diwanref11_Same.lp27 fu a b n (q.length : Int) = some (inlB (eqL bqI r s))
 | [], s, q, p, n, ha, hb, hl, hq, hs, hn => by
  obtain ⟨n, rfl⟩ : ∃ m, n = m + 1 := ⟨n - 1, by omega⟩
  have hs' : s = [] := List.length_eq_zero_iff.1 hs.symm
  subst hs'
  rw [diwanref11_Same.lp27, br_f (decide_eq_false (by rw [ha]; simp))]; rfl
 | v :: r, s, q, p, n, ha, hb, hl, hq, hs, hn => by
  obtain ⟨n, rfl⟩ : ∃ m, n = m + 1 := ⟨n - 1, by omega⟩
  obtain ⟨u, s, rfl⟩ : ∃ u t, s = u :: t := by cases s with
   | nil => simp at hs
   | cons u t => exact ⟨u, t, rfl⟩
  have hlen : a.Next.length = q.length + 1 + r.length := by rw [ha]; simp; omega
  have hx : b.Next[q.length]? = some u := by rw [hb, hq]; simp
  have hy : a.Next[q.length]? = some v := by rw [ha]; simp
  have hw : w64 ((q.length : Int) + 1) = ((q ++ [v]).length : Int) := by rw [w64_id (by omega) (by omega)]; simp
  have ih := rsN_lp fu a b r s (q ++ [v]) (p ++ [u]) n (by rw [ha]; simp) (by rw [hb]; simp) hl (by simp [hq]) (by simpa using hs) (by simp at hn; omega)
  rw [diwanref11_Same.lp27, br_t (decide_eq_true (by omega)), ix_n hy, ix_n hx, hw, ih]
  simp only [eqL]
  cases h : bqI v u
  ·rw [br_t (by show (!bqI v u) = true; rw [h]; rfl)]; rfl
  ·rw [br_f (by show (!bqI v u) = false; rw [h]; rfl)]; rfl
theorem rsM_lp (fu : Nat) (a b : TRaft) : ∀ (r s q p : List Int) (n : Nat), a.Match = q ++ r → b.Match = p ++ s → a.Match.length ≤ 1000000 → q.length = p.length → r.length = s.length → r.length < n →
  diwanref11_Same.lp36 fu a b n (q.length : Int) = some (inlB (eqL bqI r s))
 | [], s, q, p, n, ha, hb, hl, hq, hs, hn => by
  obtain ⟨n, rfl⟩ : ∃ m, n = m + 1 := ⟨n - 1, by omega⟩
  have hs' : s = [] := List.length_eq_zero_iff.1 hs.symm
  subst hs'
  rw [diwanref11_Same.lp36, br_f (decide_eq_false (by rw [ha]; simp))]; rfl
 | v :: r, s, q, p, n, ha, hb, hl, hq, hs, hn => by
  obtain ⟨n, rfl⟩ : ∃ m, n = m + 1 := ⟨n - 1, by omega⟩
  obtain ⟨u, s, rfl⟩ : ∃ u t, s = u :: t := by cases s with
   | nil => simp at hs
   | cons u t => exact ⟨u, t, rfl⟩
  have hlen : a.Match.length = q.length + 1 + r.length := by rw [ha]; simp; omega
  have hx : b.Match[q.length]? = some u := by rw [hb, hq]; simp
  have hy : a.Match[q.length]? = some v := by rw [ha]; simp
  have hw : w64 ((q.length : Int) + 1) = ((q ++ [v]).length : Int) := by rw [w64_id (by omega) (by omega)]; simp
  have ih := rsM_lp fu a b r s (q ++ [v]) (p ++ [u]) n (by rw [ha]; simp) (by rw [hb]; simp) hl (by simp [hq]) (by simpa using hs) (by simp at hn; omega)
  rw [diwanref11_Same.lp36, br_t (decide_eq_true (by omega)), ix_n hy, ix_n hx, hw, ih]
  simp only [eqL]
  cases h : bqI v u
  ·rw [br_t (by show (!bqI v u) = true; rw [h]; rfl)]; rfl
  ·rw [br_f (by show (!bqI v u) = false; rw [h]; rfl)]; rfl
theorem rsame_e {fu N : Nat} {a b : TRaft} (h : SmR N a) (hN : N ≤ 1000000) (hf : N < fu) : diwanref11_Same fu a b = some (sameB a b) := by
 have hv := h.v
 have hn := h.n
 have hm := h.m
 have no : ∀ {p : Prop}, ¬ p → (a = b → p) → sameB a b = false := fun hp g => by
  cases hb : sameB a b
  ·rfl
  ·exact absurd (g (sameB_iff.1 hb)) hp
 unfold diwanref11_Same
 by_cases c0 : ¬ (a.Me = b.Me)
 ·rw [br_t (by simpa using c0), no c0 fun g => by rw [g]]
 rw [br_f (by simpa using c0)]
 by_cases c1 : ¬ (a.Nodes = b.Nodes)
 ·rw [br_t (by simpa using c1), no c1 fun g => by rw [g]]
 rw [br_f (by simpa using c1)]
 by_cases c2 : ¬ (a.Wait = b.Wait)
 ·rw [br_t (by simpa using c2), no c2 fun g => by rw [g]]
 rw [br_f (by simpa using c2)]
 by_cases c3 : ¬ (a.Term = b.Term)
 ·rw [br_t (by simpa using c3), no c3 fun g => by rw [g]]
 rw [br_f (by simpa using c3)]
 by_cases c4 : ¬ (a.Vote = b.Vote)
 ·rw [br_t (by simpa using c4), no c4 fun g => by rw [g]]
 rw [br_f (by simpa using c4)]
 by_cases c5 : ¬ (a.Commit = b.Commit)
 ·rw [br_t (by simpa using c5), no c5 fun g => by rw [g]]
 rw [br_f (by simpa using c5)]
 by_cases c6 : ¬ (a.Role = b.Role)
 ·rw [br_t (by simpa using c6), no c6 fun g => by rw [g]]
 rw [br_f (by simpa using c6)]
 by_cases c7 : ¬ (a.Leader = b.Leader)
 ·rw [br_t (by simpa using c7), no c7 fun g => by rw [g]]
 rw [br_f (by simpa using c7)]
 by_cases c8 : ¬ (a.Clock = b.Clock)
 ·rw [br_t (by simpa using c8), no c8 fun g => by rw [g]]
 rw [br_f (by simpa using c8)]
 by_cases d0 : ¬ (a.Votes.length = b.Votes.length)
 ·rw [br_t (by simpa using fun g => d0 (by omega)), no d0 fun g => by rw [g]]
 replace d0 := Decidable.not_not.1 d0
 rw [br_f (by simp [d0])]
 by_cases d1 : ¬ (a.Next.length = b.Next.length)
 ·rw [br_t (by simpa using fun g => d1 (by omega)), no d1 fun g => by rw [g]]
 replace d1 := Decidable.not_not.1 d1
 rw [br_f (by simp [d1])]
 by_cases d2 : ¬ (a.Match.length = b.Match.length)
 ·rw [br_t (by simpa using fun g => d2 (by omega)), no d2 fun g => by rw [g]]
 replace d2 := Decidable.not_not.1 d2
 rw [br_f (by simp [d2])]
 have l1 := rsV_lp fu a b a.Votes b.Votes [] [] fu rfl rfl (by omega) rfl d0 (by omega)
 have l2 := rsN_lp fu a b a.Next b.Next [] [] fu rfl rfl (by omega) rfl d1 (by omega)
 have l3 := rsM_lp fu a b a.Match b.Match [] [] fu rfl rfl (by omega) rfl d2 (by omega)
 simp only [List.length_nil, Int.natCast_zero] at l1 l2 l3
 rw [bd_s (rsL_e h.log hN hf), bd_s l1, bd_s l2, bd_s l3]
 have he : sameB a b = (eqL enB a.Log b.Log && (eqL bqB a.Votes b.Votes && (eqL bqI a.Next b.Next && eqL bqI a.Match b.Match))) := by
  unfold sameB
  rw [beq_iff_eq.2 (Decidable.not_not.1 c0), beq_iff_eq.2 (Decidable.not_not.1 c1), beq_iff_eq.2 (Decidable.not_not.1 c2), beq_iff_eq.2 (Decidable.not_not.1 c3), beq_iff_eq.2 (Decidable.not_not.1 c4), beq_iff_eq.2 (Decidable.not_not.1 c5), beq_iff_eq.2 (Decidable.not_not.1 c6), beq_iff_eq.2 (Decidable.not_not.1 c7), beq_iff_eq.2 (Decidable.not_not.1 c8)]
  simp
 rw [he]
 cases eqL enB a.Log b.Log <;> cases eqL bqB a.Votes b.Votes <;> cases eqL bqI a.Next b.Next <;> cases eqL bqI a.Match b.Match <;> rfl
end Go.Proofs.Ythpokjkbcdfhiaa.Told.RA
