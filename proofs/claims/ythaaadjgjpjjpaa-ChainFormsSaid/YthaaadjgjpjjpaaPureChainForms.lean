/- Some versions: what is trimmed, seen, added and may be, at the document's examples. A closed statement. -/
import Derived.Test.YthaaadjgjpjjpaaQ20
namespace Go.Proofs.Ythaaadjgjpjjpaa.Pure
open Go Go.RowKit Go.Proofs.Ythaaadjgjpjjpaa.Q
theorem ChainForms : diwanlaw15_ChainForms.Pure := ⟨30, by kernel_rfl⟩
end Go.Proofs.Ythaaadjgjpjjpaa.Pure
