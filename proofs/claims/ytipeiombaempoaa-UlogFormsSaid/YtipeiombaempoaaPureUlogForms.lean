/- The plain law of UlogForms: its told function answers true. -/
import Derived.Test.YtipeiombaempoaaToldUlogForms
namespace Go.Proofs.Ytipeiombaempoaa.Told.PureUlogForms
theorem holds : diwanlaw9_UlogForms 50 = some true := by kernel_rfl
end Go.Proofs.Ytipeiombaempoaa.Told.PureUlogForms
