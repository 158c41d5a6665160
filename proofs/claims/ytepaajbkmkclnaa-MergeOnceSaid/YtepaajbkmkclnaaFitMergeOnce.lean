/- What the arguments of MergeOnce read as, as plain data. -/
import Derived.Test.YtepaajbkmkclnaaToldMergeOnce
namespace Go.Proofs.Ytepaajbkmkclnaa.Told
open Go Go.Proofs.Ytepaajbkmkclnaa.Vam
set_option linter.unusedVariables false
end Go.Proofs.Ytepaajbkmkclnaa.Told
