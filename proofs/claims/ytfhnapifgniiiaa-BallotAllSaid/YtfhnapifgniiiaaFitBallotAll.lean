/- What the arguments of BallotAll read as, as plain data. -/
import Derived.Test.YtfhnapifgniiiaaToldBallotAll
namespace Go.Proofs.Ytfhnapifgniiiaa.Told
open Go Go.Proofs.Ytfhnapifgniiiaa.Vam
set_option linter.unusedVariables false
end Go.Proofs.Ytfhnapifgniiiaa.Told
