/- What the arguments of JudgeBlind read as, as plain data. -/
import Derived.Test.YtknkeabmjleoiaaToldJudgeBlind
namespace Go.Proofs.Ytknkeabmjleoiaa.Told
open Go Go.Proofs.Ytknkeabmjleoiaa.Vam
set_option linter.unusedVariables false
end Go.Proofs.Ytknkeabmjleoiaa.Told
