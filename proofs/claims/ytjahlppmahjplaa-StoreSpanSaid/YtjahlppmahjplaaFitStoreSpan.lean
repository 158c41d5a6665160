/- What the arguments of StoreSpan read as, as plain data. -/
import Derived.Test.YtjahlppmahjplaaToldStoreSpan
namespace Go.Proofs.Ytjahlppmahjplaa.Told
open Go Go.Proofs.Ytjahlppmahjplaa.Vam
set_option linter.unusedVariables false
end Go.Proofs.Ytjahlppmahjplaa.Told
