/- What the arguments of BallotMeet read as, as plain data. -/
import Derived.Test.YtfhnapifgniiiaaToldBallotMeet
namespace Go.Proofs.Ytfhnapifgniiiaa.Told
open Go Go.Proofs.Ytfhnapifgniiiaa.Vam
set_option linter.unusedVariables false
def TA5_bool.ok (x : TA5_bool) : Prop := okB x.c0 ∧ okB x.c1 ∧ okB x.c2 ∧ okB x.c3 ∧ okB x.c4
theorem fit_TA5_bool {ch : List DV} (h : FitL ch [.tb, .tb, .tb, .tb, .tb]) : ∃ x : TA5_bool, ch = TA5_bool.en x ∧ TA5_bool.ok x := by
  obtain ⟨d0, r0, rfl, f0, h⟩ := fitL_cons h
  obtain ⟨d1, r1, rfl, f1, h⟩ := fitL_cons h
  obtain ⟨d2, r2, rfl, f2, h⟩ := fitL_cons h
  obtain ⟨d3, r3, rfl, f3, h⟩ := fitL_cons h
  obtain ⟨d4, r4, rfl, f4, h⟩ := fitL_cons h
  obtain rfl := fitL_nil h
  obtain ⟨x0, e0, k0⟩ := fit_b f0
  subst e0
  obtain ⟨x1, e1, k1⟩ := fit_b f1
  subst e1
  obtain ⟨x2, e2, k2⟩ := fit_b f2
  subst e2
  obtain ⟨x3, e3, k3⟩ := fit_b f3
  subst e3
  obtain ⟨x4, e4, k4⟩ := fit_b f4
  subst e4
  exact ⟨⟨x0, x1, x2, x3, x4⟩, rfl, k0, k1, k2, k3, k4⟩
end Go.Proofs.Ytfhnapifgniiiaa.Told
