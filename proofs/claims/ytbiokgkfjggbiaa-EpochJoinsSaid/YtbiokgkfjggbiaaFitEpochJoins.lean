/- What the arguments of EpochJoins read as, as plain data. -/
import Derived.Test.YtbiokgkfjggbiaaToldEpochJoins
namespace Go.Proofs.Ytbiokgkfjggbiaa.Told
open Go Go.Proofs.Ytbiokgkfjggbiaa.Vam
set_option linter.unusedVariables false
end Go.Proofs.Ytbiokgkfjggbiaa.Told
