import Derived.Test.YtepaajbkmkclnaaWWords
namespace Go.Proofs.YtepaajbkmkclnaaW.PrintWords
open Go.RowKit
section
variable {P : Program} {ops : Array Oper} {rest : List Oper} {o : Oper} {a : Act} {Q : Exit → Act → World → Prop} {W : World}
end
end Go.Proofs.YtepaajbkmkclnaaW.PrintWords
