/- A store's functions: what a key was. -/
import Derived.Test.YthjpcfbfiaenaaaTStore1
namespace Go.Proofs.Ythjpcfbfiaenaaa.Told.ST
open Go Go.Proofs.Ythjpcfbfiaenaaa.Vam Go.Proofs.Ythjpcfbfiaenaaa.Told Go.Proofs.Ythjpcfbfiaenaaa.Told.CF
set_option linter.unusedSimpArgs false
set_option linter.unusedVariables false
def chainOf (k : ByteArray) : List TChain → List TVersion
 | [] => []
 | c :: r => bif c.Key.toList == k.toList then c.L else chainOf k r
theorem chainOf_none {k : ByteArray} : ∀ {cs : List TChain}, (∀ c ∈ cs, c.Key ≠ k) → chainOf k cs = []
 | [], _ => rfl
 | c :: r, h => by
  simp only [chainOf]
  rw [beq_baf.2 (h c (by simp))]
  exact chainOf_none fun c hc => h c (by simp [hc])
theorem chainOf_app {k : ByteArray} : ∀ {A B : List TChain}, (∀ c ∈ A, c.Key ≠ k) → chainOf k (A ++ B) = chainOf k B
 | [], _, _ => rfl
 | c :: r, B, h => by
  simp only [List.cons_append, chainOf]
  rw [beq_baf.2 (h c (by simp))]
  exact chainOf_app fun c hc => h c (by simp [hc])
theorem chainOf_len {N : Nat} {k : ByteArray} : ∀ {cs : List TChain}, (∀ c ∈ cs, c.L.length ≤ N) → (chainOf k cs).length ≤ N
 | [], _ => by simp [chainOf]
 | c :: r, h => by
  simp only [chainOf]
  cases (c.Key.toList == k.toList)
  ·exact chainOf_len fun c hc => h c (by simp [hc])
  ·exact h c (by simp)
end Go.Proofs.Ythjpcfbfiaenaaa.Told.ST
