/- What the arguments of SaveTake read as, as plain data. -/
import Derived.Test.YthjpcfbfiaenaaaToldSaveTake
namespace Go.Proofs.Ythjpcfbfiaenaaa.Told
open Go Go.Proofs.Ythjpcfbfiaenaaa.Vam
set_option linter.unusedVariables false
end Go.Proofs.Ythjpcfbfiaenaaa.Told
