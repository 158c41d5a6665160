/- What the arguments of EpochAll read as, as plain data. -/
import Derived.Test.YtbiokgkfjggbiaaToldEpochAll
namespace Go.Proofs.Ytbiokgkfjggbiaa.Told
open Go Go.Proofs.Ytbiokgkfjggbiaa.Vam
set_option linter.unusedVariables false
end Go.Proofs.Ytbiokgkfjggbiaa.Told
