/- What the arguments of JudgeAgain read as, as plain data. -/
import Derived.Test.YtknkeabmjleoiaaToldJudgeAgain
namespace Go.Proofs.Ytknkeabmjleoiaa.Told
open Go Go.Proofs.Ytknkeabmjleoiaa.Vam
set_option linter.unusedVariables false
end Go.Proofs.Ytknkeabmjleoiaa.Told
