/-
  No cell of these rows narrows 'for every input' (looked for: loops, veiled, ifaces, maps, wideKeys, modest, calm, conditions, laid).
  DERIVED. THE GIVEN ROWS OF THIS SEAT. 9 by the template 'for every input the law returns true; each argument reads behind the call as it read before'; 0 by the template 'total and deterministic' (their statements: YthpokjkbcdfhiaaTotals.lean).
  GIVEN WITH THE SEED: the statements are not yours to turn. If you find one false, say at which input.
  Laid BY PROGRAM, IN A SANDBOX (cutbox-rows.mjs): the forced cells as the released guide's own fill.sh prints them over the translation e0e1a9a427138d5a… (all of the seat's roots in one cut). By AI agents, Wed Nov 11 2026. No macro, syntax, notation, axiom, sorry.
-/
import Derived.Test.YthpokjkbcdfhiaaChecked
import GoSem.Claim
import GoSem.ClaimJoined
import GoSem.ClaimMapViews
import Derived.JoinedTies
import Derived.KernelRfl
namespace Go.Proofs.Ythpokjkbcdfhiaa
/- THE CELL 'sum', in the pinned program and in every row, IS THE sha256 OF THE DUMP (.gsa) THAT YthpokjkbcdfhiaaProg.lean LOADS. Nothing in Lean hashes anything: it is a label: what it is worth is what the hold of that sum in a sandbox is worth. -/
noncomputable def Try.pinned : Pinned := { name := "ythpokjkbcdfhiaa", sum := "e0e1a9a427138d5acaad580a88cb0218393b4ffa9296aa68070050fa9ba80e03", checked := Try.checked }
namespace Rows
def none {H : Type} : Left H := { results := [], args := [] }

/-- 'diwanlaw11.RaftMay': WHATEVER THE INPUT: true; the input reads as it did. -/
def raftMaySpec : ChangeSpec := { name := "raftMay", fn := fun _ => fun
  | [d1, d2, d3] => { results := [.lit (.bool true)], args := [d1, d2, d3] }
  | _ => none }
def raftMayRow : OpenClaim := { program := "ythpokjkbcdfhiaa", sum := "e0e1a9a427138d5acaad580a88cb0218393b4ffa9296aa68070050fa9ba80e03", func := "diwan/diwanlaw11.RaftMay", spec := "raftMay", unfollowed := true, recurses := true, apart := false }
def RaftMaySaid : Prop := raftMayRow.holds Try.pinned (OpenSpec.ofChange raftMaySpec)

/-- ITS FALSE NEIGHBOUR: 'it returns false'. Refute it at one input. -/
def raftMayWrong : ChangeSpec := { name := "raftMay", fn := fun _ => fun
  | [d1, d2, d3] => { results := [.lit (.bool false)], args := [d1, d2, d3] }
  | _ => none }
def RaftMayWrongFalsely : Prop := raftMayRow.holds Try.pinned (OpenSpec.ofChange raftMayWrong)

/-- 'diwanlaw11.RaftFull': WHATEVER THE INPUT: true; the input reads as it did. -/
def raftFullSpec : ChangeSpec := { name := "raftFull", fn := fun _ => fun
  | [d] => { results := [.lit (.bool true)], args := [d] }
  | _ => none }
def raftFullRow : OpenClaim := { program := "ythpokjkbcdfhiaa", sum := "e0e1a9a427138d5acaad580a88cb0218393b4ffa9296aa68070050fa9ba80e03", func := "diwan/diwanlaw11.RaftFull", spec := "raftFull", unfollowed := true, recurses := true, apart := false }
def RaftFullSaid : Prop := raftFullRow.holds Try.pinned (OpenSpec.ofChange raftFullSpec)

/-- ITS FALSE NEIGHBOUR: 'it returns false'. Refute it at one input. -/
def raftFullWrong : ChangeSpec := { name := "raftFull", fn := fun _ => fun
  | [d] => { results := [.lit (.bool false)], args := [d] }
  | _ => none }
def RaftFullWrongFalsely : Prop := raftFullRow.holds Try.pinned (OpenSpec.ofChange raftFullWrong)

/-- 'diwanlaw11.RaftWild': WHATEVER THE INPUT: true; the input reads as it did. -/
def raftWildSpec : ChangeSpec := { name := "raftWild", fn := fun _ => fun
  | [d1, d2] => { results := [.lit (.bool true)], args := [d1, d2] }
  | _ => none }
def raftWildRow : OpenClaim := { program := "ythpokjkbcdfhiaa", sum := "e0e1a9a427138d5acaad580a88cb0218393b4ffa9296aa68070050fa9ba80e03", func := "diwan/diwanlaw11.RaftWild", spec := "raftWild", unfollowed := true, recurses := true, apart := false }
def RaftWildSaid : Prop := raftWildRow.holds Try.pinned (OpenSpec.ofChange raftWildSpec)

/-- ITS FALSE NEIGHBOUR: 'it returns false'. Refute it at one input. -/
def raftWildWrong : ChangeSpec := { name := "raftWild", fn := fun _ => fun
  | [d1, d2] => { results := [.lit (.bool false)], args := [d1, d2] }
  | _ => none }
def RaftWildWrongFalsely : Prop := raftWildRow.holds Try.pinned (OpenSpec.ofChange raftWildWrong)

/-- 'diwanlaw11.RaftForms': WHATEVER THE INPUT: true; the input reads as it did. -/
def raftFormsSpec : ChangeSpec := { name := "raftForms", fn := fun _ => fun
  | [] => { results := [.lit (.bool true)], args := [] }
  | _ => none }
def raftFormsRow : OpenClaim := { program := "ythpokjkbcdfhiaa", sum := "e0e1a9a427138d5acaad580a88cb0218393b4ffa9296aa68070050fa9ba80e03", func := "diwan/diwanlaw11.RaftForms", spec := "raftForms", unfollowed := true, recurses := true, apart := false }
def RaftFormsSaid : Prop := raftFormsRow.holds Try.pinned (OpenSpec.ofChange raftFormsSpec)

/-- ITS FALSE NEIGHBOUR: 'it returns false'. Refute it at one input. -/
def raftFormsWrong : ChangeSpec := { name := "raftForms", fn := fun _ => fun
  | [] => { results := [.lit (.bool false)], args := [] }
  | _ => none }
def RaftFormsWrongFalsely : Prop := raftFormsRow.holds Try.pinned (OpenSpec.ofChange raftFormsWrong)

/-- 'diwanlaw11.RaftOld': WHATEVER THE INPUT: true; the input reads as it did. -/
def raftOldSpec : ChangeSpec := { name := "raftOld", fn := fun _ => fun
  | [d1, d2, d3] => { results := [.lit (.bool true)], args := [d1, d2, d3] }
  | _ => none }
def raftOldRow : OpenClaim := { program := "ythpokjkbcdfhiaa", sum := "e0e1a9a427138d5acaad580a88cb0218393b4ffa9296aa68070050fa9ba80e03", func := "diwan/diwanlaw11.RaftOld", spec := "raftOld", unfollowed := true, recurses := true, apart := false }
def RaftOldSaid : Prop := raftOldRow.holds Try.pinned (OpenSpec.ofChange raftOldSpec)

/-- ITS FALSE NEIGHBOUR: 'it returns false'. Refute it at one input. -/
def raftOldWrong : ChangeSpec := { name := "raftOld", fn := fun _ => fun
  | [d1, d2, d3] => { results := [.lit (.bool false)], args := [d1, d2, d3] }
  | _ => none }
def RaftOldWrongFalsely : Prop := raftOldRow.holds Try.pinned (OpenSpec.ofChange raftOldWrong)

/-- 'diwanlaw11.RaftAll': WHATEVER THE INPUT: true; the input reads as it did. -/
def raftAllSpec : ChangeSpec := { name := "raftAll", fn := fun _ => fun
  | [d1, d2] => { results := [.lit (.bool true)], args := [d1, d2] }
  | _ => none }
def raftAllRow : OpenClaim := { program := "ythpokjkbcdfhiaa", sum := "e0e1a9a427138d5acaad580a88cb0218393b4ffa9296aa68070050fa9ba80e03", func := "diwan/diwanlaw11.RaftAll", spec := "raftAll", unfollowed := true, recurses := true, apart := false }
def RaftAllSaid : Prop := raftAllRow.holds Try.pinned (OpenSpec.ofChange raftAllSpec)

/-- ITS FALSE NEIGHBOUR: 'it returns false'. Refute it at one input. -/
def raftAllWrong : ChangeSpec := { name := "raftAll", fn := fun _ => fun
  | [d1, d2] => { results := [.lit (.bool false)], args := [d1, d2] }
  | _ => none }
def RaftAllWrongFalsely : Prop := raftAllRow.holds Try.pinned (OpenSpec.ofChange raftAllWrong)

/-- 'diwanlaw11.RaftSafe': WHATEVER THE INPUT: true; the input reads as it did. -/
def raftSafeSpec : ChangeSpec := { name := "raftSafe", fn := fun _ => fun
  | [d1, d2] => { results := [.lit (.bool true)], args := [d1, d2] }
  | _ => none }
def raftSafeRow : OpenClaim := { program := "ythpokjkbcdfhiaa", sum := "e0e1a9a427138d5acaad580a88cb0218393b4ffa9296aa68070050fa9ba80e03", func := "diwan/diwanlaw11.RaftSafe", spec := "raftSafe", unfollowed := true, recurses := true, apart := false }
def RaftSafeSaid : Prop := raftSafeRow.holds Try.pinned (OpenSpec.ofChange raftSafeSpec)

/-- ITS FALSE NEIGHBOUR: 'it returns false'. Refute it at one input. -/
def raftSafeWrong : ChangeSpec := { name := "raftSafe", fn := fun _ => fun
  | [d1, d2] => { results := [.lit (.bool false)], args := [d1, d2] }
  | _ => none }
def RaftSafeWrongFalsely : Prop := raftSafeRow.holds Try.pinned (OpenSpec.ofChange raftSafeWrong)

/-- 'diwanlaw11.RaftMatch': WHATEVER THE INPUT: true; the input reads as it did. -/
def raftMatchSpec : ChangeSpec := { name := "raftMatch", fn := fun _ => fun
  | [d1, d2] => { results := [.lit (.bool true)], args := [d1, d2] }
  | _ => none }
def raftMatchRow : OpenClaim := { program := "ythpokjkbcdfhiaa", sum := "e0e1a9a427138d5acaad580a88cb0218393b4ffa9296aa68070050fa9ba80e03", func := "diwan/diwanlaw11.RaftMatch", spec := "raftMatch", unfollowed := true, recurses := true, apart := false }
def RaftMatchSaid : Prop := raftMatchRow.holds Try.pinned (OpenSpec.ofChange raftMatchSpec)

/-- ITS FALSE NEIGHBOUR: 'it returns false'. Refute it at one input. -/
def raftMatchWrong : ChangeSpec := { name := "raftMatch", fn := fun _ => fun
  | [d1, d2] => { results := [.lit (.bool false)], args := [d1, d2] }
  | _ => none }
def RaftMatchWrongFalsely : Prop := raftMatchRow.holds Try.pinned (OpenSpec.ofChange raftMatchWrong)

/-- 'diwanlaw11.RaftCalm': WHATEVER THE INPUT: true; the input reads as it did. -/
def raftCalmSpec : ChangeSpec := { name := "raftCalm", fn := fun _ => fun
  | [d1, d2] => { results := [.lit (.bool true)], args := [d1, d2] }
  | _ => none }
def raftCalmRow : OpenClaim := { program := "ythpokjkbcdfhiaa", sum := "e0e1a9a427138d5acaad580a88cb0218393b4ffa9296aa68070050fa9ba80e03", func := "diwan/diwanlaw11.RaftCalm", spec := "raftCalm", unfollowed := true, recurses := true, apart := false }
def RaftCalmSaid : Prop := raftCalmRow.holds Try.pinned (OpenSpec.ofChange raftCalmSpec)

/-- ITS FALSE NEIGHBOUR: 'it returns false'. Refute it at one input. -/
def raftCalmWrong : ChangeSpec := { name := "raftCalm", fn := fun _ => fun
  | [d1, d2] => { results := [.lit (.bool false)], args := [d1, d2] }
  | _ => none }
def RaftCalmWrongFalsely : Prop := raftCalmRow.holds Try.pinned (OpenSpec.ofChange raftCalmWrong)

/- THE SECOND FORM. 'bulk': how many values and letters a reading holds, each counted each time it is reached (what is shared counts as often as it is met; a slice's spare places count too). A statement '..UptoSaid' is the law's where the arguments, and the package variables that the reading takes, are together of bulk at most 1048576: NARROWER than '..Said'. Prove '..Said' where nothing that the law and all that it calls make is longer than what came in: it says more and counts as full. Else prove '..UptoSaid'. A law counts once. -/
mutual
def uptoBulk {H : Type} : DataW H → Nat
  | .lit (.string bytes) => bytes.length + 1
  | .lit _ => 1
  | .nil => 1
  | .ptr d => uptoBulk d + 1
  | .slice elems spare => uptoBulkAll elems + uptoBulkAll spare + 1
  | .agg parts => uptoBulkAll parts + 1
  | .iface _ d => uptoBulk d + 1
  | .map entries => uptoBulkEntries entries + 1
  | .held _ => 1
def uptoBulkAll {H : Type} : List (DataW H) → Nat
  | [] => 0
  | d :: r => uptoBulk d + uptoBulkAll r
def uptoBulkEntries {H : Type} : List (Lit × DataW H) → Nat
  | [] => 0
  | x :: r => uptoBulkEntry x + uptoBulkEntries r
def uptoBulkEntry {H : Type} : Lit × DataW H → Nat
  | (.string bytes, d) => bytes.length + uptoBulk d + 1
  | (_, d) => uptoBulk d + 1
 end
def uptoSmall : (H : Type) → List (DataW H) → Bool := fun _ ds => decide (uptoBulkAll ds ≤ 1048576)
def OpenSpec.upto (s : _root_.Go.ChangeSpec) : _root_.Go.OpenSpec := { _root_.Go.OpenSpec.ofChange s with cond := some uptoSmall }

/-- 'diwanlaw11.RaftMay', WHERE WHAT IT READS IS OF BULK AT MOST 1048576: true; the input reads as it did. -/
def raftMayUptoRow : OpenClaim := { program := "ythpokjkbcdfhiaa", sum := "e0e1a9a427138d5acaad580a88cb0218393b4ffa9296aa68070050fa9ba80e03", func := "diwan/diwanlaw11.RaftMay", spec := "raftMay", unfollowed := true, recurses := true, apart := false, narrowed := true }
def RaftMayUptoSaid : Prop := raftMayUptoRow.holds Try.pinned (OpenSpec.upto raftMaySpec)

/-- 'diwanlaw11.RaftFull', WHERE WHAT IT READS IS OF BULK AT MOST 1048576: true; the input reads as it did. -/
def raftFullUptoRow : OpenClaim := { program := "ythpokjkbcdfhiaa", sum := "e0e1a9a427138d5acaad580a88cb0218393b4ffa9296aa68070050fa9ba80e03", func := "diwan/diwanlaw11.RaftFull", spec := "raftFull", unfollowed := true, recurses := true, apart := false, narrowed := true }
def RaftFullUptoSaid : Prop := raftFullUptoRow.holds Try.pinned (OpenSpec.upto raftFullSpec)

/-- 'diwanlaw11.RaftWild', WHERE WHAT IT READS IS OF BULK AT MOST 1048576: true; the input reads as it did. -/
def raftWildUptoRow : OpenClaim := { program := "ythpokjkbcdfhiaa", sum := "e0e1a9a427138d5acaad580a88cb0218393b4ffa9296aa68070050fa9ba80e03", func := "diwan/diwanlaw11.RaftWild", spec := "raftWild", unfollowed := true, recurses := true, apart := false, narrowed := true }
def RaftWildUptoSaid : Prop := raftWildUptoRow.holds Try.pinned (OpenSpec.upto raftWildSpec)

/-- 'diwanlaw11.RaftForms', WHERE WHAT IT READS IS OF BULK AT MOST 1048576: true; the input reads as it did. -/
def raftFormsUptoRow : OpenClaim := { program := "ythpokjkbcdfhiaa", sum := "e0e1a9a427138d5acaad580a88cb0218393b4ffa9296aa68070050fa9ba80e03", func := "diwan/diwanlaw11.RaftForms", spec := "raftForms", unfollowed := true, recurses := true, apart := false, narrowed := true }
def RaftFormsUptoSaid : Prop := raftFormsUptoRow.holds Try.pinned (OpenSpec.upto raftFormsSpec)

/-- 'diwanlaw11.RaftOld', WHERE WHAT IT READS IS OF BULK AT MOST 1048576: true; the input reads as it did. -/
def raftOldUptoRow : OpenClaim := { program := "ythpokjkbcdfhiaa", sum := "e0e1a9a427138d5acaad580a88cb0218393b4ffa9296aa68070050fa9ba80e03", func := "diwan/diwanlaw11.RaftOld", spec := "raftOld", unfollowed := true, recurses := true, apart := false, narrowed := true }
def RaftOldUptoSaid : Prop := raftOldUptoRow.holds Try.pinned (OpenSpec.upto raftOldSpec)

/-- 'diwanlaw11.RaftAll', WHERE WHAT IT READS IS OF BULK AT MOST 1048576: true; the input reads as it did. -/
def raftAllUptoRow : OpenClaim := { program := "ythpokjkbcdfhiaa", sum := "e0e1a9a427138d5acaad580a88cb0218393b4ffa9296aa68070050fa9ba80e03", func := "diwan/diwanlaw11.RaftAll", spec := "raftAll", unfollowed := true, recurses := true, apart := false, narrowed := true }
def RaftAllUptoSaid : Prop := raftAllUptoRow.holds Try.pinned (OpenSpec.upto raftAllSpec)

/-- 'diwanlaw11.RaftSafe', WHERE WHAT IT READS IS OF BULK AT MOST 1048576: true; the input reads as it did. -/
def raftSafeUptoRow : OpenClaim := { program := "ythpokjkbcdfhiaa", sum := "e0e1a9a427138d5acaad580a88cb0218393b4ffa9296aa68070050fa9ba80e03", func := "diwan/diwanlaw11.RaftSafe", spec := "raftSafe", unfollowed := true, recurses := true, apart := false, narrowed := true }
def RaftSafeUptoSaid : Prop := raftSafeUptoRow.holds Try.pinned (OpenSpec.upto raftSafeSpec)

/-- 'diwanlaw11.RaftMatch', WHERE WHAT IT READS IS OF BULK AT MOST 1048576: true; the input reads as it did. -/
def raftMatchUptoRow : OpenClaim := { program := "ythpokjkbcdfhiaa", sum := "e0e1a9a427138d5acaad580a88cb0218393b4ffa9296aa68070050fa9ba80e03", func := "diwan/diwanlaw11.RaftMatch", spec := "raftMatch", unfollowed := true, recurses := true, apart := false, narrowed := true }
def RaftMatchUptoSaid : Prop := raftMatchUptoRow.holds Try.pinned (OpenSpec.upto raftMatchSpec)

/-- 'diwanlaw11.RaftCalm', WHERE WHAT IT READS IS OF BULK AT MOST 1048576: true; the input reads as it did. -/
def raftCalmUptoRow : OpenClaim := { program := "ythpokjkbcdfhiaa", sum := "e0e1a9a427138d5acaad580a88cb0218393b4ffa9296aa68070050fa9ba80e03", func := "diwan/diwanlaw11.RaftCalm", spec := "raftCalm", unfollowed := true, recurses := true, apart := false, narrowed := true }
def RaftCalmUptoSaid : Prop := raftCalmUptoRow.holds Try.pinned (OpenSpec.upto raftCalmSpec)

end Rows
end Go.Proofs.Ythpokjkbcdfhiaa
