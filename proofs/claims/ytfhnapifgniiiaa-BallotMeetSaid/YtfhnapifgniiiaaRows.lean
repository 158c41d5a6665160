/-
  No cell of these rows narrows 'for every input' (looked for: loops, veiled, ifaces, maps, wideKeys, modest, calm, conditions, laid).
  DERIVED. THE GIVEN ROWS OF THIS SEAT. 5 by the template 'for every input the law returns true; each argument reads behind the call as it read before'; 0 by the template 'total and deterministic' (their statements: YtfhnapifgniiiaaTotals.lean).
  GIVEN WITH THE SEED: the statements are not yours to turn. If you find one false, say at which input.
  Laid BY PROGRAM, IN A SANDBOX (cutbox-rows.mjs): the forced cells as the released guide's own fill.sh prints them over the translation a3a2fa1bc9109458… (all of the seat's roots in one cut). By AI agents, Wed Nov 11 2026. No macro, syntax, notation, axiom, sorry.
-/
import Derived.Test.YtfhnapifgniiiaaChecked
import GoSem.Claim
import GoSem.ClaimJoined
import GoSem.ClaimMapViews
import Derived.JoinedTies
import Derived.KernelRfl
namespace Go.Proofs.Ytfhnapifgniiiaa
/- THE CELL 'sum', in the pinned program and in every row, IS THE sha256 OF THE DUMP (.gsa) THAT YtfhnapifgniiiaaProg.lean LOADS. Nothing in Lean hashes anything: it is a label: what it is worth is what the hold of that sum in a sandbox is worth. -/
noncomputable def Try.pinned : Pinned := { name := "ytfhnapifgniiiaa", sum := "a3a2fa1bc91094584441fddf99f39acf66618a4bfa03b21123955270867a179c", checked := Try.checked }
namespace Rows
def none {H : Type} : Left H := { results := [], args := [] }

/-- 'diwanlaw10.BallotAll': WHATEVER THE INPUT: true; the input reads as it did. -/
def ballotAllSpec : ChangeSpec := { name := "ballotAll", fn := fun _ => fun
  | [d1, d2, d3, d4, d5, d6] => { results := [.lit (.bool true)], args := [d1, d2, d3, d4, d5, d6] }
  | _ => none }
def ballotAllRow : OpenClaim := { program := "ytfhnapifgniiiaa", sum := "a3a2fa1bc91094584441fddf99f39acf66618a4bfa03b21123955270867a179c", func := "diwan/diwanlaw10.BallotAll", spec := "ballotAll", unfollowed := true, recurses := true, apart := false }
def BallotAllSaid : Prop := ballotAllRow.holds Try.pinned (OpenSpec.ofChange ballotAllSpec)

/-- ITS FALSE NEIGHBOUR: 'it returns false'. Refute it at one input. -/
def ballotAllWrong : ChangeSpec := { name := "ballotAll", fn := fun _ => fun
  | [d1, d2, d3, d4, d5, d6] => { results := [.lit (.bool false)], args := [d1, d2, d3, d4, d5, d6] }
  | _ => none }
def BallotAllWrongFalsely : Prop := ballotAllRow.holds Try.pinned (OpenSpec.ofChange ballotAllWrong)

/-- 'diwanlaw10.BallotMeet': WHATEVER THE INPUT: true; the input reads as it did. -/
def ballotMeetSpec : ChangeSpec := { name := "ballotMeet", fn := fun _ => fun
  | [d1, d2, d3] => { results := [.lit (.bool true)], args := [d1, d2, d3] }
  | _ => none }
def ballotMeetRow : OpenClaim := { program := "ytfhnapifgniiiaa", sum := "a3a2fa1bc91094584441fddf99f39acf66618a4bfa03b21123955270867a179c", func := "diwan/diwanlaw10.BallotMeet", spec := "ballotMeet", unfollowed := true, recurses := true, apart := false }
def BallotMeetSaid : Prop := ballotMeetRow.holds Try.pinned (OpenSpec.ofChange ballotMeetSpec)

/-- ITS FALSE NEIGHBOUR: 'it returns false'. Refute it at one input. -/
def ballotMeetWrong : ChangeSpec := { name := "ballotMeet", fn := fun _ => fun
  | [d1, d2, d3] => { results := [.lit (.bool false)], args := [d1, d2, d3] }
  | _ => none }
def BallotMeetWrongFalsely : Prop := ballotMeetRow.holds Try.pinned (OpenSpec.ofChange ballotMeetWrong)

/-- 'diwanlaw10.BallotMost': WHATEVER THE INPUT: true; the input reads as it did. -/
def ballotMostSpec : ChangeSpec := { name := "ballotMost", fn := fun _ => fun
  | [d1, d2, d3, d4] => { results := [.lit (.bool true)], args := [d1, d2, d3, d4] }
  | _ => none }
def ballotMostRow : OpenClaim := { program := "ytfhnapifgniiiaa", sum := "a3a2fa1bc91094584441fddf99f39acf66618a4bfa03b21123955270867a179c", func := "diwan/diwanlaw10.BallotMost", spec := "ballotMost", unfollowed := true, recurses := true, apart := false }
def BallotMostSaid : Prop := ballotMostRow.holds Try.pinned (OpenSpec.ofChange ballotMostSpec)

/-- ITS FALSE NEIGHBOUR: 'it returns false'. Refute it at one input. -/
def ballotMostWrong : ChangeSpec := { name := "ballotMost", fn := fun _ => fun
  | [d1, d2, d3, d4] => { results := [.lit (.bool false)], args := [d1, d2, d3, d4] }
  | _ => none }
def BallotMostWrongFalsely : Prop := ballotMostRow.holds Try.pinned (OpenSpec.ofChange ballotMostWrong)

/-- 'diwanlaw10.BallotForms': WHATEVER THE INPUT: true; the input reads as it did. -/
def ballotFormsSpec : ChangeSpec := { name := "ballotForms", fn := fun _ => fun
  | [] => { results := [.lit (.bool true)], args := [] }
  | _ => none }
def ballotFormsRow : OpenClaim := { program := "ytfhnapifgniiiaa", sum := "a3a2fa1bc91094584441fddf99f39acf66618a4bfa03b21123955270867a179c", func := "diwan/diwanlaw10.BallotForms", spec := "ballotForms", unfollowed := true, recurses := true, apart := false }
def BallotFormsSaid : Prop := ballotFormsRow.holds Try.pinned (OpenSpec.ofChange ballotFormsSpec)

/-- ITS FALSE NEIGHBOUR: 'it returns false'. Refute it at one input. -/
def ballotFormsWrong : ChangeSpec := { name := "ballotForms", fn := fun _ => fun
  | [] => { results := [.lit (.bool false)], args := [] }
  | _ => none }
def BallotFormsWrongFalsely : Prop := ballotFormsRow.holds Try.pinned (OpenSpec.ofChange ballotFormsWrong)

/-- 'diwanlaw10.BallotNext': WHATEVER THE INPUT: true; the input reads as it did. -/
def ballotNextSpec : ChangeSpec := { name := "ballotNext", fn := fun _ => fun
  | [d1, d2, d3, d4, d5] => { results := [.lit (.bool true)], args := [d1, d2, d3, d4, d5] }
  | _ => none }
def ballotNextRow : OpenClaim := { program := "ytfhnapifgniiiaa", sum := "a3a2fa1bc91094584441fddf99f39acf66618a4bfa03b21123955270867a179c", func := "diwan/diwanlaw10.BallotNext", spec := "ballotNext", unfollowed := true, recurses := true, apart := false }
def BallotNextSaid : Prop := ballotNextRow.holds Try.pinned (OpenSpec.ofChange ballotNextSpec)

/-- ITS FALSE NEIGHBOUR: 'it returns false'. Refute it at one input. -/
def ballotNextWrong : ChangeSpec := { name := "ballotNext", fn := fun _ => fun
  | [d1, d2, d3, d4, d5] => { results := [.lit (.bool false)], args := [d1, d2, d3, d4, d5] }
  | _ => none }
def BallotNextWrongFalsely : Prop := ballotNextRow.holds Try.pinned (OpenSpec.ofChange ballotNextWrong)

/- THE SECOND FORM. 'bulk': how many values and letters a reading holds, each counted each time it is reached (what is shared counts as often as it is met; a slice's spare places count too). A statement '..UptoSaid' is the law's where the arguments, and the package variables that the reading takes, are together of bulk at most 1048576: NARROWER than '..Said'. Prove '..Said' where nothing that the law and all that it calls make is longer than what came in: it says more and counts as full. Else prove '..UptoSaid'. A law counts once. -/
mutual
def uptoBulk {H : Type} : DataW H → Nat
  | .lit (.string bytes) => bytes.length + 1
  | .lit _ => 1
  | .nil => 1
  | .ptr d => uptoBulk d + 1
  | .slice elems spare => uptoBulkAll elems + uptoBulkAll spare + 1
  | .agg parts => uptoBulkAll parts + 1
  | .iface _ d => uptoBulk d + 1
  | .map entries => uptoBulkEntries entries + 1
  | .held _ => 1
def uptoBulkAll {H : Type} : List (DataW H) → Nat
  | [] => 0
  | d :: r => uptoBulk d + uptoBulkAll r
def uptoBulkEntries {H : Type} : List (Lit × DataW H) → Nat
  | [] => 0
  | x :: r => uptoBulkEntry x + uptoBulkEntries r
def uptoBulkEntry {H : Type} : Lit × DataW H → Nat
  | (.string bytes, d) => bytes.length + uptoBulk d + 1
  | (_, d) => uptoBulk d + 1
 end
def uptoSmall : (H : Type) → List (DataW H) → Bool := fun _ ds => decide (uptoBulkAll ds ≤ 1048576)
def OpenSpec.upto (s : _root_.Go.ChangeSpec) : _root_.Go.OpenSpec := { _root_.Go.OpenSpec.ofChange s with cond := some uptoSmall }

/-- 'diwanlaw10.BallotAll', WHERE WHAT IT READS IS OF BULK AT MOST 1048576: true; the input reads as it did. -/
def ballotAllUptoRow : OpenClaim := { program := "ytfhnapifgniiiaa", sum := "a3a2fa1bc91094584441fddf99f39acf66618a4bfa03b21123955270867a179c", func := "diwan/diwanlaw10.BallotAll", spec := "ballotAll", unfollowed := true, recurses := true, apart := false, narrowed := true }
def BallotAllUptoSaid : Prop := ballotAllUptoRow.holds Try.pinned (OpenSpec.upto ballotAllSpec)

/-- 'diwanlaw10.BallotMeet', WHERE WHAT IT READS IS OF BULK AT MOST 1048576: true; the input reads as it did. -/
def ballotMeetUptoRow : OpenClaim := { program := "ytfhnapifgniiiaa", sum := "a3a2fa1bc91094584441fddf99f39acf66618a4bfa03b21123955270867a179c", func := "diwan/diwanlaw10.BallotMeet", spec := "ballotMeet", unfollowed := true, recurses := true, apart := false, narrowed := true }
def BallotMeetUptoSaid : Prop := ballotMeetUptoRow.holds Try.pinned (OpenSpec.upto ballotMeetSpec)

/-- 'diwanlaw10.BallotMost', WHERE WHAT IT READS IS OF BULK AT MOST 1048576: true; the input reads as it did. -/
def ballotMostUptoRow : OpenClaim := { program := "ytfhnapifgniiiaa", sum := "a3a2fa1bc91094584441fddf99f39acf66618a4bfa03b21123955270867a179c", func := "diwan/diwanlaw10.BallotMost", spec := "ballotMost", unfollowed := true, recurses := true, apart := false, narrowed := true }
def BallotMostUptoSaid : Prop := ballotMostUptoRow.holds Try.pinned (OpenSpec.upto ballotMostSpec)

/-- 'diwanlaw10.BallotForms', WHERE WHAT IT READS IS OF BULK AT MOST 1048576: true; the input reads as it did. -/
def ballotFormsUptoRow : OpenClaim := { program := "ytfhnapifgniiiaa", sum := "a3a2fa1bc91094584441fddf99f39acf66618a4bfa03b21123955270867a179c", func := "diwan/diwanlaw10.BallotForms", spec := "ballotForms", unfollowed := true, recurses := true, apart := false, narrowed := true }
def BallotFormsUptoSaid : Prop := ballotFormsUptoRow.holds Try.pinned (OpenSpec.upto ballotFormsSpec)

/-- 'diwanlaw10.BallotNext', WHERE WHAT IT READS IS OF BULK AT MOST 1048576: true; the input reads as it did. -/
def ballotNextUptoRow : OpenClaim := { program := "ytfhnapifgniiiaa", sum := "a3a2fa1bc91094584441fddf99f39acf66618a4bfa03b21123955270867a179c", func := "diwan/diwanlaw10.BallotNext", spec := "ballotNext", unfollowed := true, recurses := true, apart := false, narrowed := true }
def BallotNextUptoSaid : Prop := ballotNextUptoRow.holds Try.pinned (OpenSpec.upto ballotNextSpec)

end Rows
end Go.Proofs.Ytfhnapifgniiiaa
