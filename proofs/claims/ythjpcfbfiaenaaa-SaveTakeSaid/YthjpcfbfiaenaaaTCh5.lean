/- Chains: trimmed. -/
import Derived.Test.YthjpcfbfiaenaaaTCh4
namespace Go.Proofs.Ythjpcfbfiaenaaa.Told.CF
open Go Go.Proofs.Ythjpcfbfiaenaaa.Vam Go.Proofs.Ythjpcfbfiaenaaa.Told
set_option linter.unusedSimpArgs false
set_option linter.unusedVariables false
end Go.Proofs.Ythjpcfbfiaenaaa.Told.CF
