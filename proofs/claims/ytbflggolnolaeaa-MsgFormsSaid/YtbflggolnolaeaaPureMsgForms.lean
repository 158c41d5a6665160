/- The plain law of MsgForms: its told function answers true. -/
import Derived.Test.YtbflggolnolaeaaToldMsgForms
namespace Go.Proofs.Ytbflggolnolaeaa.Told.PureMsgForms
theorem holds : diwanlaw6_MsgForms 300 = some true := by kernel_rfl
end Go.Proofs.Ytbflggolnolaeaa.Told.PureMsgForms
