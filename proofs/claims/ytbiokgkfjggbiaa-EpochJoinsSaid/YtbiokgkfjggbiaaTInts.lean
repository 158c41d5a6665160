/- Rows of numbers that are the same. -/
import Derived.Test.YtbiokgkfjggbiaaFitEpochJoins
import Derived.Test.YtbiokgkfjggbiaaTMath
namespace Go.Proofs.Ytbiokgkfjggbiaa.Told.JF
open Go Go.Proofs.Ytbiokgkfjggbiaa.Vam Go.Proofs.Ytbiokgkfjggbiaa.Told
set_option linter.unusedSimpArgs false
set_option linter.unusedVariables false
theorem ints_lp (fu : Nat) : ∀ (r q : List Int) (n : Nat), (q ++ r).length ≤ 1000000 → r.length < n → diwanref13_SameInts.lp6 fu (q ++ r) (q ++ r) n (q.length : Int) = some (.inl ())
 | [], q, n, hl, hn => by
  obtain ⟨n, rfl⟩ : ∃ m, n = m + 1 := ⟨n - 1, by omega⟩
  simp only [List.append_nil]
  rw [diwanref13_SameInts.lp6, br_f (nlt_end _)]
 | v :: r, q, n, hl, hn => by
  obtain ⟨n, rfl⟩ : ∃ m, n = m + 1 := ⟨n - 1, by omega⟩
  have e : q ++ v :: r = (q ++ [v]) ++ r := by simp
  have ih := ints_lp fu r (q ++ [v]) n (by rw [← e]; exact hl) (by simp at hn; omega)
  rw [← e] at ih
  rw [diwanref13_SameInts.lp6, br_t (lt_mid _ _ _), ix_mid, ix_mid, w64_len q r v (by omega), ih, br_f (by simp)]
theorem ints_e {fu : Nat} {l : List Int} (hl : l.length ≤ 1000000) (hf : l.length < fu) : diwanref13_SameInts fu l l = some true := by
 have := ints_lp fu l [] fu hl hf
 simp only [List.nil_append, List.length_nil, Int.natCast_zero] at this
 unfold diwanref13_SameInts
 rw [br_f (by simp), bd_s this]
end Go.Proofs.Ytbiokgkfjggbiaa.Told.JF
