/- Chains: the reference trims. -/
import Derived.Test.YthjpcfbfiaenaaaTCh1
namespace Go.Proofs.Ythjpcfbfiaenaaa.Told.CF
open Go Go.Proofs.Ythjpcfbfiaenaaa.Vam Go.Proofs.Ythjpcfbfiaenaaa.Told
set_option linter.unusedSimpArgs false
set_option linter.unusedVariables false
def keep (p : Int) : List TVersion → List TVersion
 | [] => []
 | [v] => [v]
 | v :: u :: r => bif decide (u.Pos ≤ p) then keep p (u :: r) else v :: keep p (u :: r)
theorem lpTrim (fu : Nat) (p : Int) : ∀ (r q out : List TVersion) (n : Nat), (q ++ r).length ≤ 1000000 → out.length ≤ q.length → r.length < n →
  diwanref13_TrimChain.lp4 fu (q ++ r) p n out (q.length : Int) = some (out ++ keep p r)
 | [], q, out, n, hl, ho, hn => by
  obtain ⟨n, rfl⟩ : ∃ m, n = m + 1 := ⟨n - 1, by omega⟩
  simp only [List.append_nil]
  rw [diwanref13_TrimChain.lp4, br_f (nlt_end _)]
  simp [keep]
 | v :: r, q, out, n, hl, ho, hn => by
  obtain ⟨n, rfl⟩ : ∃ m, n = m + 1 := ⟨n - 1, by omega⟩
  have e : q ++ v :: r = (q ++ [v]) ++ r := by simp
  have hl' : q.length + 1 + r.length ≤ 1000000 := by simp at hl; omega
  have ih := fun o h => lpTrim fu p r (q ++ [v]) o n (by rw [← e]; exact hl) (by simp; exact h) (by simp at hn; omega)
  rw [← e] at ih
  rw [diwanref13_TrimChain.lp4, br_t (lt_mid _ _ _), w64_len q r v (by omega), jn_e, ix_mid, gd_t (decide_eq_true (by simp; omega)), ih (out ++ [v]) (by simp; omega), ih out (by omega)]
  cases r with
  | nil =>
   rw [br_f (by simp)]
   simp [keep]
  | cons u r =>
   have hx : (q ++ v :: u :: r)[(q ++ [v]).length]? = some u := by rw [e]; simp
   rw [br_t (decide_eq_true (by simp; omega)), ix_n hx]
   simp only [keep]
   cases decide (u.Pos ≤ p)
   ·rw [br_f rfl]; simp
   ·rw [br_t rfl]; rfl
theorem rtrim_e {l : List TVersion} {fu : Nat} {p : Int} (hl : l.length ≤ 1000000) (hn : l.length < fu) : diwanref13_TrimChain fu l p = some (keep p l) := by
 unfold diwanref13_TrimChain
 have := lpTrim fu p l [] [] fu hl (Nat.le_refl _) hn
 simp only [List.nil_append, List.length_nil, Int.natCast_zero] at this
 rw [bd_s this]
theorem keep_hi (p : Int) : ∀ (v : TVersion) (l : List TVersion), (∀ x ∈ l, p < x.Pos) → keep p (v :: l) = v :: l
 | v, [], _ => rfl
 | v, u :: r, h => by
  have := h u (by simp)
  simp only [keep]; rw [decide_eq_false (by omega), keep_hi p u r fun x hx => h x (by simp [hx])]; rfl
theorem keep_lo (p : Int) : ∀ (A B : List TVersion) (v : TVersion), (∀ x ∈ A, x.Pos ≤ p) → v.Pos ≤ p → (∀ x ∈ B, p < x.Pos) → keep p (A ++ v :: B) = v :: B
 | [], B, v, _, _, hB => keep_hi p v B hB
 | a :: A, B, v, hA, hv, hB => by
  have ih := keep_lo p A B v (fun x hx => hA x (by simp [hx])) hv hB
  cases A with
  | nil =>
   simp only [List.cons_append, List.nil_append, keep] at ih ⊢
   rw [decide_eq_true hv]; exact ih
  | cons b A =>
   simp only [List.cons_append, keep] at ih ⊢
   rw [decide_eq_true (hA b (by simp))]; exact ih
end Go.Proofs.Ythjpcfbfiaenaaa.Told.CF
