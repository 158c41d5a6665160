/- What the arguments of JudgeMap read as, as plain data. -/
import Derived.Test.YtknkeabmjleoiaaToldJudgeMap
namespace Go.Proofs.Ytknkeabmjleoiaa.Told
open Go Go.Proofs.Ytknkeabmjleoiaa.Vam
set_option linter.unusedVariables false
end Go.Proofs.Ytknkeabmjleoiaa.Told
