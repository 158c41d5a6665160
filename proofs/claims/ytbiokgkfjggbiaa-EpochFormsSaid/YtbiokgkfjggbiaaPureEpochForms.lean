/- The plain law of EpochForms: its told function answers true. -/
import Derived.Test.YtbiokgkfjggbiaaToldEpochForms
namespace Go.Proofs.Ytbiokgkfjggbiaa.Told.PureEpochForms
theorem holds : diwanlaw13_EpochForms = some true := by kernel_rfl
end Go.Proofs.Ytbiokgkfjggbiaa.Told.PureEpochForms
