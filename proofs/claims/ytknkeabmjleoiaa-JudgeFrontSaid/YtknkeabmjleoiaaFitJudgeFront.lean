/- What the arguments of JudgeFront read as, as plain data. -/
import Derived.Test.YtknkeabmjleoiaaToldJudgeFront
namespace Go.Proofs.Ytknkeabmjleoiaa.Told
open Go Go.Proofs.Ytknkeabmjleoiaa.Vam
set_option linter.unusedVariables false
end Go.Proofs.Ytknkeabmjleoiaa.Told
