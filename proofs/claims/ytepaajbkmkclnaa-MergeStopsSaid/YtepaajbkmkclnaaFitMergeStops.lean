/- What the arguments of MergeStops read as, as plain data. -/
import Derived.Test.YtepaajbkmkclnaaToldMergeStops
namespace Go.Proofs.Ytepaajbkmkclnaa.Told
open Go Go.Proofs.Ytepaajbkmkclnaa.Vam
set_option linter.unusedVariables false
end Go.Proofs.Ytepaajbkmkclnaa.Told
