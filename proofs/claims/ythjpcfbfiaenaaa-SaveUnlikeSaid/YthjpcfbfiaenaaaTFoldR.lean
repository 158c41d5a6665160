/- A row of transactions is judged: the reference. -/
import Derived.Test.YthjpcfbfiaenaaaTFold1
import Derived.Test.YthjpcfbfiaenaaaTSeatR
import Derived.Test.YthjpcfbfiaenaaaTStoreR1
import Derived.Test.YthjpcfbfiaenaaaTStoreRC
namespace Go.Proofs.Ythjpcfbfiaenaaa.Told.JF
open Go Go.Proofs.Ythjpcfbfiaenaaa.Vam Go.Proofs.Ythjpcfbfiaenaaa.Told Go.Proofs.Ythjpcfbfiaenaaa.Told.CF Go.Proofs.Ythjpcfbfiaenaaa.Told.ST
set_option linter.unusedSimpArgs false
set_option linter.unusedVariables false
theorem rturnF_e {fu : Nat} {l : List TSeat} (t s p : Int) (hs : SF.Srt l) (hl : l.length ≤ 1000000) (hf : l.length < fu) : diwanref13_Turn fu l t s p = some (turnF l t s p) := by
 obtain ⟨A, B, e, hA, hB⟩ := SF.srt_cut l t hs
 rw [SF.rturn_e s p e hA hB hl hf, e, turnF_of hA hB]
end Go.Proofs.Ythjpcfbfiaenaaa.Told.JF
