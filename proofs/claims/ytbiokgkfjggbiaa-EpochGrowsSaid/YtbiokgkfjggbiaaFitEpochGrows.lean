/- What the arguments of EpochGrows read as, as plain data. -/
import Derived.Test.YtbiokgkfjggbiaaToldEpochGrows
namespace Go.Proofs.Ytbiokgkfjggbiaa.Told
open Go Go.Proofs.Ytbiokgkfjggbiaa.Vam
set_option linter.unusedVariables false
end Go.Proofs.Ytbiokgkfjggbiaa.Told
