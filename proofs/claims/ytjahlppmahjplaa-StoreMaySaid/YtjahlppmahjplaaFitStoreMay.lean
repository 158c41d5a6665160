/- What the arguments of StoreMay read as, as plain data. -/
import Derived.Test.YtjahlppmahjplaaToldStoreMay
namespace Go.Proofs.Ytjahlppmahjplaa.Told
open Go Go.Proofs.Ytjahlppmahjplaa.Vam
set_option linter.unusedVariables false
def TVersion.ok (x : TVersion) : Prop := (okI .i64) x.Pos ∧ okS x.Val ∧ okB x.Gone
theorem fit_TVersion {ch : List DV} (h : FitL ch [.ti .i64, .ts, .tb]) : ∃ x : TVersion, ch = TVersion.en x ∧ TVersion.ok x := by
  obtain ⟨d0, r0, rfl, f0, h⟩ := fitL_cons h
  obtain ⟨d1, r1, rfl, f1, h⟩ := fitL_cons h
  obtain ⟨d2, r2, rfl, f2, h⟩ := fitL_cons h
  obtain rfl := fitL_nil h
  obtain ⟨x0, e0, k0⟩ := fit_i f0
  subst e0
  obtain ⟨x1, e1, k1⟩ := fit_s f1
  subst e1
  obtain ⟨x2, e2, k2⟩ := fit_b f2
  subst e2
  exact ⟨⟨x0, x1, x2⟩, rfl, k0, k1, k2⟩
end Go.Proofs.Ytjahlppmahjplaa.Told
