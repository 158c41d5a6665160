import Derived.Test.YtipeiombaempoaaWInv
import Derived.Test.YtipeiombaempoaaWFootNe
namespace Go.Proofs.YtipeiombaempoaaW.PrintWords
open Go.RowKit
end Go.Proofs.YtipeiombaempoaaW.PrintWords
namespace Go.Proofs.YtipeiombaempoaaW.PrintLast
section
variable {ops : Array Oper} {a : Act} {o og : Oper} {g : Nat} {t : Tmp} {u : Bool}
end
end Go.Proofs.YtipeiombaempoaaW.PrintLast
