/- A store's functions: what a key was. -/
import Derived.Test.YtknkeabmjleoiaaTStore1
namespace Go.Proofs.Ytknkeabmjleoiaa.Told.ST
open Go Go.Proofs.Ytknkeabmjleoiaa.Vam Go.Proofs.Ytknkeabmjleoiaa.Told Go.Proofs.Ytknkeabmjleoiaa.Told.CF
set_option linter.unusedSimpArgs false
set_option linter.unusedVariables false
def chainOf (k : ByteArray) : List TChain → List TVersion
 | [] => []
 | c :: r => bif c.Key.toList == k.toList then c.L else chainOf k r
theorem chainOf_none {k : ByteArray} : ∀ {cs : List TChain}, (∀ c ∈ cs, c.Key ≠ k) → chainOf k cs = []
 | [], _ => rfl
 | c :: r, h => by
  simp only [chainOf]
  rw [beq_baf.2 (h c (by simp))]
  exact chainOf_none fun c hc => h c (by simp [hc])
theorem chainOf_app {k : ByteArray} : ∀ {A B : List TChain}, (∀ c ∈ A, c.Key ≠ k) → chainOf k (A ++ B) = chainOf k B
 | [], _, _ => rfl
 | c :: r, B, h => by
  simp only [List.cons_append, chainOf]
  rw [beq_baf.2 (h c (by simp))]
  exact chainOf_app fun c hc => h c (by simp [hc])
theorem chain_e {fu N : Nat} {s : TStore} (k : ByteArray) (hs : Srt s.Chains) (hl : s.Chains.length ≤ 1000000) (hf : s.Chains.length < fu) : store_keeper_chain fu s k = some (chainOf k s.Chains) := by
 obtain ⟨A, B, e, hA, hB, hR⟩ := srt_cut s.Chains k hs
 have hs' : s = TStore.mk (A ++ B) s.Mark := by rw [← e]
 rw [e] at hl hf
 unfold store_keeper_chain
 rw [hs', bd_s (find_e hA hB hl hf)]
 dsimp only
 rw [chainOf_app fun c hc => kl_ne (hA c hc)]
 cases B with
 | nil => rw [br_f (by rfl)]; rfl
 | cons v R =>
  cases h : hit (v :: R) k with
  | true =>
   rw [br_t rfl, ix_mid]
   simp only [chainOf]
   rw [show (v.Key.toList == k.toList) = true from h]; rfl
  | false =>
   rw [br_f rfl]
   simp only [chainOf]
   rw [show (v.Key.toList == k.toList) = false from h]
   simp only [cond_false]
   rw [chainOf_none fun c hc => (kl_ne (hR v R rfl c hc)).symm]
theorem chainOf_len {N : Nat} {k : ByteArray} : ∀ {cs : List TChain}, (∀ c ∈ cs, c.L.length ≤ N) → (chainOf k cs).length ≤ N
 | [], _ => by simp [chainOf]
 | c :: r, h => by
  simp only [chainOf]
  cases (c.Key.toList == k.toList)
  ·exact chainOf_len fun c hc => h c (by simp [hc])
  ·exact h c (by simp)
theorem lastS_e {fu N : Nat} {s : TStore} (k : ByteArray) (hs : Srt s.Chains) (hm : Sml N s.Chains) (hN : N ≤ 1000000) (hf : N < fu) : store_Last fu s k = some (last (chainOf k s.Chains)) := by
 unfold store_Last
 rw [bd_s (chain_e (N := N) k hs (by have := hm.1; omega) (by have := hm.1; omega)), bd_s (last_e (by have := chainOf_len (k := k) hm.2; omega)).1]
end Go.Proofs.Ytknkeabmjleoiaa.Told.ST
