/- The plain law of MergeForms: its told function answers true. -/
import Derived.Test.YtepaajbkmkclnaaToldMergeForms
namespace Go.Proofs.Ytepaajbkmkclnaa.Told.PureMergeForms
theorem holds : diwanlaw14_MergeForms 1000 = some true := by kernel_rfl
end Go.Proofs.Ytepaajbkmkclnaa.Told.PureMergeForms
