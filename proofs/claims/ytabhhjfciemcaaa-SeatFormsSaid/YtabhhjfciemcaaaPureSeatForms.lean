/- The plain law of SeatForms: its told function answers true. -/
import Derived.Test.YtabhhjfciemcaaaToldSeatForms
namespace Go.Proofs.Ytabhhjfciemcaaa.Told.PureSeatForms
theorem holds : diwanlaw17_SeatForms 60 = some true := by kernel_rfl
end Go.Proofs.Ytabhhjfciemcaaa.Told.PureSeatForms
