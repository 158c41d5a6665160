/- The plain law of JudgeForms: its told function answers true. -/
import Derived.Test.YtknkeabmjleoiaaToldJudgeForms
namespace Go.Proofs.Ytknkeabmjleoiaa.Told.PureJudgeForms
theorem holds : diwanlaw18_JudgeForms 60 = some true := by kernel_rfl
end Go.Proofs.Ytknkeabmjleoiaa.Told.PureJudgeForms
