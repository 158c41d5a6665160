/- What the arguments of SeatOnce read as, as plain data. -/
import Derived.Test.YtabhhjfciemcaaaToldSeatOnce
namespace Go.Proofs.Ytabhhjfciemcaaa.Told
open Go Go.Proofs.Ytabhhjfciemcaaa.Vam
set_option linter.unusedVariables false
def TA2_uint8.ok (x : TA2_uint8) : Prop := (okI .u8) x.c0 ∧ (okI .u8) x.c1
theorem fit_TA2_uint8 {ch : List DV} (h : FitL ch [.ti .u8, .ti .u8]) : ∃ x : TA2_uint8, ch = TA2_uint8.en x ∧ TA2_uint8.ok x := by
  obtain ⟨d0, r0, rfl, f0, h⟩ := fitL_cons h
  obtain ⟨d1, r1, rfl, f1, h⟩ := fitL_cons h
  obtain rfl := fitL_nil h
  obtain ⟨x0, e0, k0⟩ := fit_i f0
  subst e0
  obtain ⟨x1, e1, k1⟩ := fit_i f1
  subst e1
  exact ⟨⟨x0, x1⟩, rfl, k0, k1⟩
end Go.Proofs.Ytabhhjfciemcaaa.Told
