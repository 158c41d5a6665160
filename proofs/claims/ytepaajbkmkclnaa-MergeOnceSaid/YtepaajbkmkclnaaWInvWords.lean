import Derived.Test.YtepaajbkmkclnaaWInv
import Derived.Test.YtepaajbkmkclnaaWFootNe
namespace Go.Proofs.YtepaajbkmkclnaaW.PrintWords
open Go.RowKit
end Go.Proofs.YtepaajbkmkclnaaW.PrintWords
namespace Go.Proofs.YtepaajbkmkclnaaW.PrintLast
section
variable {ops : Array Oper} {a : Act} {o og : Oper} {g : Nat} {t : Tmp} {u : Bool}
end
end Go.Proofs.YtepaajbkmkclnaaW.PrintLast
