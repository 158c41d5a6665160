/- What the arguments of RaftCalm read as, as plain data. -/
import Derived.Test.YthpokjkbcdfhiaaToldRaftCalm
namespace Go.Proofs.Ythpokjkbcdfhiaa.Told
open Go Go.Proofs.Ythpokjkbcdfhiaa.Vam
set_option linter.unusedVariables false
end Go.Proofs.Ythpokjkbcdfhiaa.Told
