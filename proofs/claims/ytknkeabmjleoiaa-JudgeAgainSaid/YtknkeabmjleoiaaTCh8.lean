/- Chains: alike. -/
import Derived.Test.YtknkeabmjleoiaaTCh1
namespace Go.Proofs.Ytknkeabmjleoiaa.Told.CF
open Go Go.Proofs.Ytknkeabmjleoiaa.Vam Go.Proofs.Ytknkeabmjleoiaa.Told
set_option linter.unusedSimpArgs false
set_option linter.unusedVariables false
theorem lpSame (fu : Nat) : ∀ (r q : List TVersion) (n : Nat), (q ++ r).length ≤ 4611686018427387904 → r.length < n → diwanref13_SameChain.lp6 fu (q ++ r) (q ++ r) n (q.length : Int) = some (.inl ())
  | [], q, n, hl, hn => by
    obtain ⟨n, rfl⟩ : ∃ m, n = m + 1 := ⟨n - 1, by omega⟩
    simp only [List.append_nil]
    rw [diwanref13_SameChain.lp6, br_f (nlt_end _)]
  | v :: r, q, n, hl, hn => by
    obtain ⟨n, rfl⟩ : ∃ m, n = m + 1 := ⟨n - 1, by omega⟩
    have e : q ++ v :: r = (q ++ [v]) ++ r := by simp
    have ih := lpSame fu r (q ++ [v]) n (by rw [← e]; exact hl) (by simp at hn; omega)
    rw [← e] at ih
    rw [diwanref13_SameChain.lp6, br_t (lt_mid _ _ _), ix_mid, ix_mid, w64_len q r v hl, ih, br_f (by simp)]
theorem same_e {l : List TVersion} {fu : Nat} (hl : l.length ≤ 4611686018427387904) (hn : l.length < fu) : diwanref13_SameChain fu l l = some true := by
  unfold diwanref13_SameChain
  have := lpSame fu l [] fu hl hn
  simp only [List.nil_append, List.length_nil, Int.natCast_zero] at this
  rw [br_f (by simp), bd_s this]
end Go.Proofs.Ytknkeabmjleoiaa.Told.CF
