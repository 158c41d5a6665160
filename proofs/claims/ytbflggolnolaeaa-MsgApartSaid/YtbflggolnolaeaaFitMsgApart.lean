/- What the arguments of MsgApart read as, as plain data. -/
import Derived.Test.YtbflggolnolaeaaToldMsgApart
namespace Go.Proofs.Ytbflggolnolaeaa.Told
open Go Go.Proofs.Ytbflggolnolaeaa.Vam
set_option linter.unusedVariables false
end Go.Proofs.Ytbflggolnolaeaa.Told
