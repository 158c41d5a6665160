/- One Go function told as a Lean function, and that the Go code comes to its answers: out of the print of the program, by the kit and by programs of this session. -/
import Derived.Test.YtiioolggdffdbaaProg
import Derived.Below
import Derived.Deep.Draws
import Derived.Deep.AppendLies
import Derived.Maps.AppendAt
import Derived.OwnWalk
import Derived.Laws.BytesArg
import Derived.Laws.MakeOwn
import Derived.Laws.OwnMore
import Derived.Deep.OwnRows
import Derived.Tactics
import Derived.Lib.ConvBytes
import Derived.Laws.Slices
import Derived.WalkKit
import Derived.KernelRfl
import Derived.RowKit3
import Derived.Deep.LoopGhost
import Derived.Deep.QuietTactic
import Derived.BigQuiet
import Derived.WideLaws
import Derived.Deep.DeepCutAuto
import Derived.Deep.CutBlock
import Derived.Deep.RegionHeld3
import Derived.Laws.Rows
import Derived.Lib.AppendStr
import Derived.ArgAppend
import Derived.Laws.IdiomCopy
import Derived.OrdersHeld
import Derived.Laws.BitsLemmas
import Derived.RowKit
import Derived.Test.YtiioolggdffdbaaWWords
import Derived.Test.YtiioolggdffdbaaWLast
import Derived.Test.YtiioolggdffdbaaWTab
import Derived.Test.YtiioolggdffdbaaWFour
import Derived.Test.YtiioolggdffdbaaWQPut
import Derived.Test.YtiioolggdffdbaaWApart
import Derived.Test.YtiioolggdffdbaaWArr
import Derived.Test.YtiioolggdffdbaaWZeros
import Derived.Test.YtiioolggdffdbaaWFoot
import Derived.Test.YtiioolggdffdbaaWKept
import Derived.Test.YtiioolggdffdbaaWShare
import Derived.Test.YtiioolggdffdbaaWN
import Derived.Test.YtiioolggdffdbaaWFootNe
import Derived.Test.YtiioolggdffdbaaWAt
import Derived.Test.YtiioolggdffdbaaWEqStruct
import Derived.Test.YtiioolggdffdbaaWRepsOne
import Derived.Test.YtiioolggdffdbaaWInv
import Derived.Test.YtiioolggdffdbaaWInvWords
import Derived.Test.YtiioolggdffdbaaWGuard
import Derived.Test.YtiioolggdffdbaaWNEv
import Derived.Test.YtiioolggdffdbaaWMore
namespace Go.Proofs.Ytiioolggdffdbaa.Q
open Go.RowKit Go.Proofs.YtiioolggdffdbaaW.PrintWords Go.Proofs.YtiioolggdffdbaaW.PrintLast Go.Proofs.YtiioolggdffdbaaW.PrintMore
attribute [local go_sem] max2_int min2_int max_two min_two max_three min_three max_four min_four   -- for this text's walks alone
set_option linter.unusedVariables false
set_option linter.unusedSimpArgs false



def errW : Option Int → Value
  | none => .nilIface
  | some c => .iface 0 (.int .i64 c)
theorem errW_none : errW none = .nilIface := rfl
theorem errW_some (c : Int) : errW (some c) = .iface 0 (.int .i64 c) := rfl

theorem info5 : (Try.prog.info? 5).map (fun i => (i.zero, i.size, i.bytes)) = some (some (.int .u8 0), 1, 1) := by kernel_rfl
-- the values' own types

end Go.Proofs.Ytiioolggdffdbaa.Q
