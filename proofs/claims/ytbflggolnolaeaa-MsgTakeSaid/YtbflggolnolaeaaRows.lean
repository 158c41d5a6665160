/-
  No cell of these rows narrows 'for every input' (looked for: loops, veiled, ifaces, maps, wideKeys, modest, calm, conditions, laid).
  DERIVED. THE GIVEN ROWS OF THIS SEAT. 4 by the template 'for every input the law returns true; each argument reads behind the call as it read before'; 0 by the template 'total and deterministic' (their statements: YtbflggolnolaeaaTotals.lean).
  GIVEN WITH THE SEED: the statements are not yours to turn. If you find one false, say at which input.
  Laid BY PROGRAM, IN A SANDBOX (cutbox-rows.mjs): the forced cells as the released guide's own fill.sh prints them over the translation f7b6fa018596af97… (all of the seat's roots in one cut). By AI agents, Wed Nov 11 2026. No macro, syntax, notation, axiom, sorry.
-/
import Derived.Test.YtbflggolnolaeaaChecked
import GoSem.Claim
import GoSem.ClaimJoined
import GoSem.ClaimMapViews
import Derived.JoinedTies
import Derived.KernelRfl
namespace Go.Proofs.Ytbflggolnolaeaa
/- THE CELL 'sum', in the pinned program and in every row, IS THE sha256 OF THE DUMP (.gsa) THAT YtbflggolnolaeaaProg.lean LOADS. Nothing in Lean hashes anything: it is a label: what it is worth is what the hold of that sum in a sandbox is worth. -/
noncomputable def Try.pinned : Pinned := { name := "ytbflggolnolaeaa", sum := "f7b6fa018596af97bc66ee45bd49216cd1961f649d2c4c44e8528c7e15334654", checked := Try.checked }
namespace Rows
def none {H : Type} : Left H := { results := [], args := [] }

/-- 'diwanlaw6.MsgAll': WHATEVER THE INPUT: true; the input reads as it did. -/
def msgAllSpec : ChangeSpec := { name := "msgAll", fn := fun _ => fun
  | [d1, d2] => { results := [.lit (.bool true)], args := [d1, d2] }
  | _ => none }
def msgAllRow : OpenClaim := { program := "ytbflggolnolaeaa", sum := "f7b6fa018596af97bc66ee45bd49216cd1961f649d2c4c44e8528c7e15334654", func := "diwan/diwanlaw6.MsgAll", spec := "msgAll", unfollowed := true, recurses := true, apart := false }
def MsgAllSaid : Prop := msgAllRow.holds Try.pinned (OpenSpec.ofChange msgAllSpec)

/-- ITS FALSE NEIGHBOUR: 'it returns false'. Refute it at one input. -/
def msgAllWrong : ChangeSpec := { name := "msgAll", fn := fun _ => fun
  | [d1, d2] => { results := [.lit (.bool false)], args := [d1, d2] }
  | _ => none }
def MsgAllWrongFalsely : Prop := msgAllRow.holds Try.pinned (OpenSpec.ofChange msgAllWrong)

/-- 'diwanlaw6.MsgTake': WHATEVER THE INPUT: true; the input reads as it did. -/
def msgTakeSpec : ChangeSpec := { name := "msgTake", fn := fun _ => fun
  | [d] => { results := [.lit (.bool true)], args := [d] }
  | _ => none }
def msgTakeRow : OpenClaim := { program := "ytbflggolnolaeaa", sum := "f7b6fa018596af97bc66ee45bd49216cd1961f649d2c4c44e8528c7e15334654", func := "diwan/diwanlaw6.MsgTake", spec := "msgTake", unfollowed := true, recurses := true, apart := false }
def MsgTakeSaid : Prop := msgTakeRow.holds Try.pinned (OpenSpec.ofChange msgTakeSpec)

/-- ITS FALSE NEIGHBOUR: 'it returns false'. Refute it at one input. -/
def msgTakeWrong : ChangeSpec := { name := "msgTake", fn := fun _ => fun
  | [d] => { results := [.lit (.bool false)], args := [d] }
  | _ => none }
def MsgTakeWrongFalsely : Prop := msgTakeRow.holds Try.pinned (OpenSpec.ofChange msgTakeWrong)

/-- 'diwanlaw6.MsgForms': WHATEVER THE INPUT: true; the input reads as it did. -/
def msgFormsSpec : ChangeSpec := { name := "msgForms", fn := fun _ => fun
  | [] => { results := [.lit (.bool true)], args := [] }
  | _ => none }
def msgFormsRow : OpenClaim := { program := "ytbflggolnolaeaa", sum := "f7b6fa018596af97bc66ee45bd49216cd1961f649d2c4c44e8528c7e15334654", func := "diwan/diwanlaw6.MsgForms", spec := "msgForms", unfollowed := true, recurses := true, apart := false }
def MsgFormsSaid : Prop := msgFormsRow.holds Try.pinned (OpenSpec.ofChange msgFormsSpec)

/-- ITS FALSE NEIGHBOUR: 'it returns false'. Refute it at one input. -/
def msgFormsWrong : ChangeSpec := { name := "msgForms", fn := fun _ => fun
  | [] => { results := [.lit (.bool false)], args := [] }
  | _ => none }
def MsgFormsWrongFalsely : Prop := msgFormsRow.holds Try.pinned (OpenSpec.ofChange msgFormsWrong)

/-- 'diwanlaw6.MsgApart': WHATEVER THE INPUT: true; the input reads as it did. -/
def msgApartSpec : ChangeSpec := { name := "msgApart", fn := fun _ => fun
  | [d1, d2] => { results := [.lit (.bool true)], args := [d1, d2] }
  | _ => none }
def msgApartRow : OpenClaim := { program := "ytbflggolnolaeaa", sum := "f7b6fa018596af97bc66ee45bd49216cd1961f649d2c4c44e8528c7e15334654", func := "diwan/diwanlaw6.MsgApart", spec := "msgApart", unfollowed := true, recurses := true, apart := false }
def MsgApartSaid : Prop := msgApartRow.holds Try.pinned (OpenSpec.ofChange msgApartSpec)

/-- ITS FALSE NEIGHBOUR: 'it returns false'. Refute it at one input. -/
def msgApartWrong : ChangeSpec := { name := "msgApart", fn := fun _ => fun
  | [d1, d2] => { results := [.lit (.bool false)], args := [d1, d2] }
  | _ => none }
def MsgApartWrongFalsely : Prop := msgApartRow.holds Try.pinned (OpenSpec.ofChange msgApartWrong)

/- THE SECOND FORM. 'bulk': how many values and letters a reading holds, each counted each time it is reached (what is shared counts as often as it is met; a slice's spare places count too). A statement '..UptoSaid' is the law's where the arguments, and the package variables that the reading takes, are together of bulk at most 1048576: NARROWER than '..Said'. Prove '..Said' where nothing that the law and all that it calls make is longer than what came in: it says more and counts as full. Else prove '..UptoSaid'. A law counts once. -/
mutual
def uptoBulk {H : Type} : DataW H → Nat
  | .lit (.string bytes) => bytes.length + 1
  | .lit _ => 1
  | .nil => 1
  | .ptr d => uptoBulk d + 1
  | .slice elems spare => uptoBulkAll elems + uptoBulkAll spare + 1
  | .agg parts => uptoBulkAll parts + 1
  | .iface _ d => uptoBulk d + 1
  | .map entries => uptoBulkEntries entries + 1
  | .held _ => 1
def uptoBulkAll {H : Type} : List (DataW H) → Nat
  | [] => 0
  | d :: r => uptoBulk d + uptoBulkAll r
def uptoBulkEntries {H : Type} : List (Lit × DataW H) → Nat
  | [] => 0
  | x :: r => uptoBulkEntry x + uptoBulkEntries r
def uptoBulkEntry {H : Type} : Lit × DataW H → Nat
  | (.string bytes, d) => bytes.length + uptoBulk d + 1
  | (_, d) => uptoBulk d + 1
 end
def uptoSmall : (H : Type) → List (DataW H) → Bool := fun _ ds => decide (uptoBulkAll ds ≤ 1048576)
def OpenSpec.upto (s : _root_.Go.ChangeSpec) : _root_.Go.OpenSpec := { _root_.Go.OpenSpec.ofChange s with cond := some uptoSmall }

/-- 'diwanlaw6.MsgAll', WHERE WHAT IT READS IS OF BULK AT MOST 1048576: true; the input reads as it did. -/
def msgAllUptoRow : OpenClaim := { program := "ytbflggolnolaeaa", sum := "f7b6fa018596af97bc66ee45bd49216cd1961f649d2c4c44e8528c7e15334654", func := "diwan/diwanlaw6.MsgAll", spec := "msgAll", unfollowed := true, recurses := true, apart := false, narrowed := true }
def MsgAllUptoSaid : Prop := msgAllUptoRow.holds Try.pinned (OpenSpec.upto msgAllSpec)

/-- 'diwanlaw6.MsgTake', WHERE WHAT IT READS IS OF BULK AT MOST 1048576: true; the input reads as it did. -/
def msgTakeUptoRow : OpenClaim := { program := "ytbflggolnolaeaa", sum := "f7b6fa018596af97bc66ee45bd49216cd1961f649d2c4c44e8528c7e15334654", func := "diwan/diwanlaw6.MsgTake", spec := "msgTake", unfollowed := true, recurses := true, apart := false, narrowed := true }
def MsgTakeUptoSaid : Prop := msgTakeUptoRow.holds Try.pinned (OpenSpec.upto msgTakeSpec)

/-- 'diwanlaw6.MsgForms', WHERE WHAT IT READS IS OF BULK AT MOST 1048576: true; the input reads as it did. -/
def msgFormsUptoRow : OpenClaim := { program := "ytbflggolnolaeaa", sum := "f7b6fa018596af97bc66ee45bd49216cd1961f649d2c4c44e8528c7e15334654", func := "diwan/diwanlaw6.MsgForms", spec := "msgForms", unfollowed := true, recurses := true, apart := false, narrowed := true }
def MsgFormsUptoSaid : Prop := msgFormsUptoRow.holds Try.pinned (OpenSpec.upto msgFormsSpec)

/-- 'diwanlaw6.MsgApart', WHERE WHAT IT READS IS OF BULK AT MOST 1048576: true; the input reads as it did. -/
def msgApartUptoRow : OpenClaim := { program := "ytbflggolnolaeaa", sum := "f7b6fa018596af97bc66ee45bd49216cd1961f649d2c4c44e8528c7e15334654", func := "diwan/diwanlaw6.MsgApart", spec := "msgApart", unfollowed := true, recurses := true, apart := false, narrowed := true }
def MsgApartUptoSaid : Prop := msgApartUptoRow.holds Try.pinned (OpenSpec.upto msgApartSpec)

end Rows
end Go.Proofs.Ytbflggolnolaeaa
