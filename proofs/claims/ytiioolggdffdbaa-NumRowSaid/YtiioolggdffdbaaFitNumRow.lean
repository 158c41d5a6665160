/- What the arguments of NumRow read as, as plain data. -/
import Derived.Test.YtiioolggdffdbaaToldNumRow
namespace Go.Proofs.Ytiioolggdffdbaa.Told
open Go Go.Proofs.Ytiioolggdffdbaa.Vam
set_option linter.unusedVariables false
end Go.Proofs.Ytiioolggdffdbaa.Told
