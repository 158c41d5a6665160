/- Of two numbers the lesser one has no more bytes, and they have the same bytes just if they are the same. No condition beyond the row's own. -/
import Derived.Test.YtiioolggdffdbaaQ17
import Derived.Test.YtiioolggdffdbaaNumFns
namespace Go.Proofs.Ytiioolggdffdbaa.Pure
open Go Go.RowKit Go.Proofs.Ytiioolggdffdbaa.Q Go.Proofs.Ytiioolggdffdbaa.NumMath Go.Proofs.YtiioolggdffdbaaW.PrintWords Go.Proofs.YtiioolggdffdbaaW.PrintLast Go.Proofs.YtiioolggdffdbaaW.PrintMore

theorem NumLess : diwanlaw1_NumLess.Pure := by
  intro a b wa wb
  have ha := wf_i64 wa
  have hb := wf_i64 wb
  refine ⟨20, ?_⟩
  unfold diwanlaw1_NumLess.f
  rw [NumFns.begun]; simp only [Option.bind_some, if_true]
  by_cases h0 : a < 0
  · rw [if_pos h0]; simp only [diwanlaw1_NumLess.j0]; simp
  · rw [if_neg h0]
    by_cases h1 : b < 0
    · simp only [diwanlaw1_NumLess.j0, h1, decide_true]; simp
    · obtain ⟨m, rfl⟩ := Int.eq_ofNat_of_zero_le (show 0 ≤ a by omega)
      obtain ⟨n, rfl⟩ := Int.eq_ofNat_of_zero_le (show 0 ≤ b by omega)
      simp only [diwanlaw1_NumLess.j0, h1, decide_false]
      rw [NumFns.put (by omega) (by decide), NumFns.put (by omega) (by decide)]
      have e : ((strOfNums (enc m)).toList == (strOfNums (enc n)).toList) = ((m : Int) == (n : Int)) := by
        rw [Bool.eq_iff_iff, beq_iff_eq, beq_iff_eq]
        constructor
        · intro h
          rw [enc_inj (str_inj (enc_bytes m) (enc_bytes n) h)]
        · intro h
          rw [show m = n by omega]
      simp only [Option.bind_some, e]
      by_cases hg : (m : Int) > n
      · simp [hg]
      · have := enc_mono n m (by omega)
        rw [if_neg (by decide), if_neg hg, if_pos (by omega)]; simp
end Go.Proofs.Ytiioolggdffdbaa.Pure
