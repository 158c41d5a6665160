/- The plain law of RaftForms: its told function answers true. -/
import Derived.Test.YthpokjkbcdfhiaaToldRaftForms
namespace Go.Proofs.Ythpokjkbcdfhiaa.Told.PureRaftForms
theorem holds : diwanlaw11_RaftForms 200 = some true := by kernel_rfl
end Go.Proofs.Ythpokjkbcdfhiaa.Told.PureRaftForms
