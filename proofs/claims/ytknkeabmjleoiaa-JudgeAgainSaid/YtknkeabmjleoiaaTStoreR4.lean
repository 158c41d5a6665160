/- A store is the same as itself, by the reference. -/
import Derived.Test.YtknkeabmjleoiaaTStore1
import Derived.Test.YtknkeabmjleoiaaTCh8
namespace Go.Proofs.Ytknkeabmjleoiaa.Told.ST
open Go Go.Proofs.Ytknkeabmjleoiaa.Vam Go.Proofs.Ytknkeabmjleoiaa.Told Go.Proofs.Ytknkeabmjleoiaa.Told.CF
set_option linter.unusedSimpArgs false
set_option linter.unusedVariables false
theorem rsame_lp (fu N : Nat) (hN : N < fu) (hN' : N ≤ 1000000) (M : Int) : ∀ (r q : List TChain) (n : Nat), (q ++ r).length ≤ 1000000 → (∀ c ∈ r, c.L.length ≤ N) → r.length < n →
    diwanref13_SameStore.lp7 fu (TStore.mk (q ++ r) M) (TStore.mk (q ++ r) M) n (q.length : Int) = some (.inl ())
  | [], q, n, hl, hc, hn => by
    obtain ⟨n, rfl⟩ : ∃ m, n = m + 1 := ⟨n - 1, by omega⟩
    simp only [List.append_nil]
    rw [diwanref13_SameStore.lp7]
    dsimp only
    rw [br_f (nlt_end _)]
  | v :: r, q, n, hl, hc, hn => by
    obtain ⟨n, rfl⟩ : ∃ m, n = m + 1 := ⟨n - 1, by omega⟩
    have e : q ++ v :: r = (q ++ [v]) ++ r := by simp
    have ih := rsame_lp fu N hN hN' M r (q ++ [v]) n (by rw [← e]; exact hl) (fun c h => hc c (by simp [h])) (by simp at hn; omega)
    rw [← e] at ih
    have hv := hc v (by simp)
    rw [diwanref13_SameStore.lp7]
    dsimp only
    rw [br_t (lt_mid _ _ _), ix_mid, ix_mid, br_f (by simp), ix_mid, ix_mid, bd_s (same_e (by omega) (by omega)), br_f (by rfl), w64_len q r v (by omega), ih]
theorem rsameS_e {fu N : Nat} {s : TStore} (h : Sml N s.Chains) (hN : N < fu) (hN' : N ≤ 1000000) : diwanref13_SameStore fu s s = some true := by
  unfold diwanref13_SameStore
  have := rsame_lp fu N hN hN' s.Mark s.Chains [] fu (by have := h.1; simp; omega) h.2 (by have := h.1; omega)
  simp only [List.nil_append, List.length_nil, Int.natCast_zero] at this
  rw [br_f (by simp), br_f (by simp), show s = TStore.mk s.Chains s.Mark from rfl, bd_s this]
end Go.Proofs.Ytknkeabmjleoiaa.Told.ST
