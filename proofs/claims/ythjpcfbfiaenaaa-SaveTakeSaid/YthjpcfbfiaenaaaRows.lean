/-
  No cell of these rows narrows 'for every input' (looked for: loops, veiled, ifaces, maps, wideKeys, modest, calm, conditions, laid).
  DERIVED. THE GIVEN ROWS OF THIS SEAT. 3 by the template 'for every input the law returns true; each argument reads behind the call as it read before'; 0 by the template 'total and deterministic' (their statements: YthjpcfbfiaenaaaTotals.lean).
  GIVEN WITH THE SEED: the statements are not yours to turn. If you find one false, say at which input.
  Laid BY PROGRAM, IN A SANDBOX (cutbox-rows.mjs): the forced cells as the released guide's own fill.sh prints them over the translation 846362aacc33e0c7… (all of the seat's roots in one cut). By AI agents, Wed Nov 11 2026. No macro, syntax, notation, axiom, sorry.
-/
import Derived.Test.YthjpcfbfiaenaaaChecked
import GoSem.Claim
import GoSem.ClaimJoined
import GoSem.ClaimMapViews
import Derived.JoinedTies
import Derived.KernelRfl
namespace Go.Proofs.Ythjpcfbfiaenaaa
/- THE CELL 'sum', in the pinned program and in every row, IS THE sha256 OF THE DUMP (.gsa) THAT YthjpcfbfiaenaaaProg.lean LOADS. Nothing in Lean hashes anything: it is a label: what it is worth is what the hold of that sum in a sandbox is worth. -/
noncomputable def Try.pinned : Pinned := { name := "ythjpcfbfiaenaaa", sum := "846362aacc33e0c7ddf7897d08ee236b6350ccda52b4c329bcfdb02fed1b5905", checked := Try.checked }
namespace Rows
def none {H : Type} : Left H := { results := [], args := [] }

/-- 'diwanlaw20.SaveTake': WHATEVER THE INPUT: true; the input reads as it did. -/
def saveTakeSpec : ChangeSpec := { name := "saveTake", fn := fun _ => fun
  | [d] => { results := [.lit (.bool true)], args := [d] }
  | _ => none }
def saveTakeRow : OpenClaim := { program := "ythjpcfbfiaenaaa", sum := "846362aacc33e0c7ddf7897d08ee236b6350ccda52b4c329bcfdb02fed1b5905", func := "diwan/diwanlaw20.SaveTake", spec := "saveTake", unfollowed := true, recurses := true, apart := false }
def SaveTakeSaid : Prop := saveTakeRow.holds Try.pinned (OpenSpec.ofChange saveTakeSpec)

/-- ITS FALSE NEIGHBOUR: 'it returns false'. Refute it at one input. -/
def saveTakeWrong : ChangeSpec := { name := "saveTake", fn := fun _ => fun
  | [d] => { results := [.lit (.bool false)], args := [d] }
  | _ => none }
def SaveTakeWrongFalsely : Prop := saveTakeRow.holds Try.pinned (OpenSpec.ofChange saveTakeWrong)

/-- 'diwanlaw20.SaveMay': WHATEVER THE INPUT: true; the input reads as it did. -/
def saveMaySpec : ChangeSpec := { name := "saveMay", fn := fun _ => fun
  | [d1, d2, d3, d4, d5] => { results := [.lit (.bool true)], args := [d1, d2, d3, d4, d5] }
  | _ => none }
def saveMayRow : OpenClaim := { program := "ythjpcfbfiaenaaa", sum := "846362aacc33e0c7ddf7897d08ee236b6350ccda52b4c329bcfdb02fed1b5905", func := "diwan/diwanlaw20.SaveMay", spec := "saveMay", unfollowed := true, recurses := true, apart := false }
def SaveMaySaid : Prop := saveMayRow.holds Try.pinned (OpenSpec.ofChange saveMaySpec)

/-- ITS FALSE NEIGHBOUR: 'it returns false'. Refute it at one input. -/
def saveMayWrong : ChangeSpec := { name := "saveMay", fn := fun _ => fun
  | [d1, d2, d3, d4, d5] => { results := [.lit (.bool false)], args := [d1, d2, d3, d4, d5] }
  | _ => none }
def SaveMayWrongFalsely : Prop := saveMayRow.holds Try.pinned (OpenSpec.ofChange saveMayWrong)

/-- 'diwanlaw20.SaveUnlike': WHATEVER THE INPUT: true; the input reads as it did. -/
def saveUnlikeSpec : ChangeSpec := { name := "saveUnlike", fn := fun _ => fun
  | [d1, d2, d3, d4, d5] => { results := [.lit (.bool true)], args := [d1, d2, d3, d4, d5] }
  | _ => none }
def saveUnlikeRow : OpenClaim := { program := "ythjpcfbfiaenaaa", sum := "846362aacc33e0c7ddf7897d08ee236b6350ccda52b4c329bcfdb02fed1b5905", func := "diwan/diwanlaw20.SaveUnlike", spec := "saveUnlike", unfollowed := true, recurses := true, apart := false }
def SaveUnlikeSaid : Prop := saveUnlikeRow.holds Try.pinned (OpenSpec.ofChange saveUnlikeSpec)

/-- ITS FALSE NEIGHBOUR: 'it returns false'. Refute it at one input. -/
def saveUnlikeWrong : ChangeSpec := { name := "saveUnlike", fn := fun _ => fun
  | [d1, d2, d3, d4, d5] => { results := [.lit (.bool false)], args := [d1, d2, d3, d4, d5] }
  | _ => none }
def SaveUnlikeWrongFalsely : Prop := saveUnlikeRow.holds Try.pinned (OpenSpec.ofChange saveUnlikeWrong)

/- THE SECOND FORM. 'bulk': how many values and letters a reading holds, each counted each time it is reached (what is shared counts as often as it is met; a slice's spare places count too). A statement '..UptoSaid' is the law's where the arguments, and the package variables that the reading takes, are together of bulk at most 1048576: NARROWER than '..Said'. Prove '..Said' where nothing that the law and all that it calls make is longer than what came in: it says more and counts as full. Else prove '..UptoSaid'. A law counts once. -/
mutual
def uptoBulk {H : Type} : DataW H → Nat
  | .lit (.string bytes) => bytes.length + 1
  | .lit _ => 1
  | .nil => 1
  | .ptr d => uptoBulk d + 1
  | .slice elems spare => uptoBulkAll elems + uptoBulkAll spare + 1
  | .agg parts => uptoBulkAll parts + 1
  | .iface _ d => uptoBulk d + 1
  | .map entries => uptoBulkEntries entries + 1
  | .held _ => 1
def uptoBulkAll {H : Type} : List (DataW H) → Nat
  | [] => 0
  | d :: r => uptoBulk d + uptoBulkAll r
def uptoBulkEntries {H : Type} : List (Lit × DataW H) → Nat
  | [] => 0
  | x :: r => uptoBulkEntry x + uptoBulkEntries r
def uptoBulkEntry {H : Type} : Lit × DataW H → Nat
  | (.string bytes, d) => bytes.length + uptoBulk d + 1
  | (_, d) => uptoBulk d + 1
 end
def uptoSmall : (H : Type) → List (DataW H) → Bool := fun _ ds => decide (uptoBulkAll ds ≤ 1048576)
def OpenSpec.upto (s : _root_.Go.ChangeSpec) : _root_.Go.OpenSpec := { _root_.Go.OpenSpec.ofChange s with cond := some uptoSmall }

/-- 'diwanlaw20.SaveTake', WHERE WHAT IT READS IS OF BULK AT MOST 1048576: true; the input reads as it did. -/
def saveTakeUptoRow : OpenClaim := { program := "ythjpcfbfiaenaaa", sum := "846362aacc33e0c7ddf7897d08ee236b6350ccda52b4c329bcfdb02fed1b5905", func := "diwan/diwanlaw20.SaveTake", spec := "saveTake", unfollowed := true, recurses := true, apart := false, narrowed := true }
def SaveTakeUptoSaid : Prop := saveTakeUptoRow.holds Try.pinned (OpenSpec.upto saveTakeSpec)

/-- 'diwanlaw20.SaveMay', WHERE WHAT IT READS IS OF BULK AT MOST 1048576: true; the input reads as it did. -/
def saveMayUptoRow : OpenClaim := { program := "ythjpcfbfiaenaaa", sum := "846362aacc33e0c7ddf7897d08ee236b6350ccda52b4c329bcfdb02fed1b5905", func := "diwan/diwanlaw20.SaveMay", spec := "saveMay", unfollowed := true, recurses := true, apart := false, narrowed := true }
def SaveMayUptoSaid : Prop := saveMayUptoRow.holds Try.pinned (OpenSpec.upto saveMaySpec)

/-- 'diwanlaw20.SaveUnlike', WHERE WHAT IT READS IS OF BULK AT MOST 1048576: true; the input reads as it did. -/
def saveUnlikeUptoRow : OpenClaim := { program := "ythjpcfbfiaenaaa", sum := "846362aacc33e0c7ddf7897d08ee236b6350ccda52b4c329bcfdb02fed1b5905", func := "diwan/diwanlaw20.SaveUnlike", spec := "saveUnlike", unfollowed := true, recurses := true, apart := false, narrowed := true }
def SaveUnlikeUptoSaid : Prop := saveUnlikeUptoRow.holds Try.pinned (OpenSpec.upto saveUnlikeSpec)

end Rows
end Go.Proofs.Ythjpcfbfiaenaaa
