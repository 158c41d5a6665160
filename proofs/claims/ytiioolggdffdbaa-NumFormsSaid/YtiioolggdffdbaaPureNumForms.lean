/- The plain law of NumForms: its told function answers true. -/
import Derived.Test.YtiioolggdffdbaaToldNumForms
namespace Go.Proofs.Ytiioolggdffdbaa.Told.PureNumForms
theorem holds : diwanlaw1_NumForms 300 = some true := by kernel_rfl
end Go.Proofs.Ytiioolggdffdbaa.Told.PureNumForms
