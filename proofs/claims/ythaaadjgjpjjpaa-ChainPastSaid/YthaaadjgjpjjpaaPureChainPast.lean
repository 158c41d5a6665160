/- What is added is seenV from its position on, and not below. No condition beyond the row's own. -/
import Derived.Test.YthaaadjgjpjjpaaMath
namespace Go.Proofs.Ythaaadjgjpjjpaa.Pure
open Go Go.RowKit Go.Proofs.Ythaaadjgjpjjpaa.Q Go.Proofs.Ythaaadjgjpjjpaa.CMath Go.Proofs.YthaaadjgjpjjpaaW.PrintWords Go.Proofs.YthaaadjgjpjjpaaW.PrintLast Go.Proofs.YthaaadjgjpjjpaaW.PrintMore

theorem ChainPast : diwanlaw15_ChainPast.Pure := by
  intro b y g p hb1 hb2 wb wy wp
  have hb : ∀ x ∈ b, 0 ≤ x ∧ x < 256 := fun x hx => wf_u8 (wb x hx)
  have hy := wf_u8 wy
  have hp := wf_u8 wp
  refine ⟨40, ?_⟩
  unfold diwanlaw15_ChainPast.f
  rw [begunT]; simp only [Option.bind_some, if_true]
  by_cases h15 : (b.length : Int) > 15
  · rw [if_pos h15]
  · rw [if_neg h15]
    obtain ⟨l, e, hr, hl, hl2, hl0⟩ := made_f (k := 40) hb (by omega) (by omega)
    obtain ⟨n, rfl⟩ := Int.eq_ofNat_of_zero_le hy.1
    have ht : Int.tmod (n : Int) 9 = ((n % 9 : Nat) : Int) := by simp [Int.tmod]
    obtain ⟨w1, w2, w3, w4, w5⟩ : wrap64 ((n % 9 : Nat) : Int) = ((n % 9 : Nat) : Int) ∧ wrap64 (lastPos l + 1) = lastPos l + 1 ∧ wrap64 (lastPos l + 1 + ((n % 9 : Nat) : Int)) = lastPos l + 1 + ((n % 9 : Nat) : Int) ∧ wrap64 p = p ∧ wrap64 ((l.length : Int) + 1) = (l.length : Int) + 1 :=
      ⟨wrap64_id (by omega) (by omega), wrap64_id (by omega) (by omega), wrap64_id (by omega) (by omega), wrap64_id (by omega) (by omega), wrap64_id (by omega) (by omega)⟩
    rw [e]; simp only [Option.bind_some]
    have hll : l.length ≤ 9000000000000000000 := by rw [hl]; have : b.length ≤ 15 := Int.ofNat_le.1 (Int.not_lt.1 h15); exact Nat.le_trans this (by decide)
    rw [last_f hll]; simp only [Option.bind_some]
    rw [ht, w1, w2, w3, w4, w5]
    clear w1 w2 w3 w4 w5 ht
    obtain ⟨x, hx⟩ : ∃ x : Int, x = lastPos l + 1 + ((n % 9 : Nat) : Int) := ⟨_, rfl⟩
    rw [← hx]
    have hlx : ¬ x ≤ lastPos l := by omega
    have hle : ∀ v ∈ l, v.f0 ≤ lastPos l := le_last hr
    rw [add_new x _ g (by omega) hlx]; simp only [Option.bind_some]
    have hm : lastPos (l ++ [(⟨x, ⟨#[]⟩, g⟩ : S25)]) = x := by simp [lastPos]
    by_cases hpx : p ≥ x
    · have p1 : Part p l l [] := ⟨by simp, fun v hv => by have := hle v hv; omega, by simp⟩
      have p2 : Part p (l ++ [(⟨x, ⟨#[]⟩, g⟩ : S25)]) (l ++ [⟨x, ⟨#[]⟩, g⟩]) [] := ⟨by simp, fun v hv => by
        rcases List.mem_append.1 hv with z | z
        · have := hle v z; omega
        · have : v = ⟨x, ⟨#[]⟩, g⟩ := by simpa using z
          subst this; exact hpx, by simp⟩
      rw [at_part p1 (by omega) (by omega)]; simp only [Option.bind_some]
      rw [at_part p2 (by simp; omega) (by simp; omega)]; simp only [Option.bind_some]
      have hs : seenV (l ++ [(⟨x, ⟨#[]⟩, g⟩ : S25)]) = (x, ⟨#[]⟩, g, true) := by simp [seenV]
      rw [hs, if_pos hpx, if_pos rfl, if_pos (by simp), last_f (by simp; omega)]; simp only [Option.bind_some]
      rw [hm]; simp
    · obtain ⟨A, B, hpt⟩ := partV p hr
      have p2 : Part p (l ++ [(⟨x, ⟨#[]⟩, g⟩ : S25)]) A (B ++ [⟨x, ⟨#[]⟩, g⟩]) := ⟨by rw [hpt.eq]; simp, hpt.lo, fun v hv => by
        rcases List.mem_append.1 hv with z | z
        · exact hpt.hi v z
        · have : v = ⟨x, ⟨#[]⟩, g⟩ := by simpa using z
          subst this; show p < x; omega⟩
      rw [at_part hpt (by omega) (by omega)]; simp only [Option.bind_some]
      rw [at_part p2 (by simp; omega) (by simp; omega)]; simp only [Option.bind_some]
      rw [if_neg hpx, if_pos (by simp), if_pos (by simp), if_pos (by simp), add_old x _ g (by simp; omega) (by rw [hm]; exact Int.le_refl _)]; simp only [Option.bind_some]
      rw [same_f (by simp; omega) (by simp; omega)]; rfl
end Go.Proofs.Ythaaadjgjpjjpaa.Pure
