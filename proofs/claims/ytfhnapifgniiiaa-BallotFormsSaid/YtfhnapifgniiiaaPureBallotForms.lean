/- The plain law of BallotForms: its told function answers true. -/
import Derived.Test.YtfhnapifgniiiaaToldBallotForms
namespace Go.Proofs.Ytfhnapifgniiiaa.Told.PureBallotForms
theorem holds : diwanlaw10_BallotForms 30 = some true := by kernel_rfl
end Go.Proofs.Ytfhnapifgniiiaa.Told.PureBallotForms
