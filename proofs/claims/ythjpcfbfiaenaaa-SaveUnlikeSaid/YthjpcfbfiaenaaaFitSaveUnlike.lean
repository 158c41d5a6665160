/- What the arguments of SaveUnlike read as, as plain data. -/
import Derived.Test.YthjpcfbfiaenaaaToldSaveUnlike
namespace Go.Proofs.Ythjpcfbfiaenaaa.Told
open Go Go.Proofs.Ythjpcfbfiaenaaa.Vam
set_option linter.unusedVariables false
end Go.Proofs.Ythjpcfbfiaenaaa.Told
