/- What the arguments of MsgTake read as, as plain data. -/
import Derived.Test.YtbflggolnolaeaaToldMsgTake
namespace Go.Proofs.Ytbflggolnolaeaa.Told
open Go Go.Proofs.Ytbflggolnolaeaa.Vam
set_option linter.unusedVariables false
end Go.Proofs.Ytbflggolnolaeaa.Told
