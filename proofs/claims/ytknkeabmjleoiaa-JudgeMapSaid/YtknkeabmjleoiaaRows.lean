/-
  No cell of these rows narrows 'for every input' (looked for: loops, veiled, ifaces, maps, wideKeys, modest, calm, conditions, laid).
  DERIVED. THE GIVEN ROWS OF THIS SEAT. 6 by the template 'for every input the law returns true; each argument reads behind the call as it read before'; 0 by the template 'total and deterministic' (their statements: YtknkeabmjleoiaaTotals.lean).
  GIVEN WITH THE SEED: the statements are not yours to turn. If you find one false, say at which input.
  Laid BY PROGRAM, IN A SANDBOX (cutbox-rows.mjs): the forced cells as the released guide's own fill.sh prints them over the translation 78fe43cc02c7f047… (all of the seat's roots in one cut). By AI agents, Wed Nov 11 2026. No macro, syntax, notation, axiom, sorry.
-/
import Derived.Test.YtknkeabmjleoiaaChecked
import GoSem.Claim
import GoSem.ClaimJoined
import GoSem.ClaimMapViews
import Derived.JoinedTies
import Derived.KernelRfl
namespace Go.Proofs.Ytknkeabmjleoiaa
/- THE CELL 'sum', in the pinned program and in every row, IS THE sha256 OF THE DUMP (.gsa) THAT YtknkeabmjleoiaaProg.lean LOADS. Nothing in Lean hashes anything: it is a label: what it is worth is what the hold of that sum in a sandbox is worth. -/
noncomputable def Try.pinned : Pinned := { name := "ytknkeabmjleoiaa", sum := "78fe43cc02c7f0477706b40b1a387f89e45ae696bd8dbb220aa1bfaea13704a2", checked := Try.checked }
namespace Rows
def none {H : Type} : Left H := { results := [], args := [] }

/-- 'diwanlaw18.JudgeAll': WHATEVER THE INPUT: true; the input reads as it did. -/
def judgeAllSpec : ChangeSpec := { name := "judgeAll", fn := fun _ => fun
  | [d] => { results := [.lit (.bool true)], args := [d] }
  | _ => none }
def judgeAllRow : OpenClaim := { program := "ytknkeabmjleoiaa", sum := "78fe43cc02c7f0477706b40b1a387f89e45ae696bd8dbb220aa1bfaea13704a2", func := "diwan/diwanlaw18.JudgeAll", spec := "judgeAll", inPlace := ["slices.overlaps[diwan/api.Seat]", "slices.overlaps[diwan/api.Chain]"], unfollowed := true, recurses := true, apart := false }
def JudgeAllSaid : Prop := judgeAllRow.holds Try.pinned (OpenSpec.ofChange judgeAllSpec)

/-- ITS FALSE NEIGHBOUR: 'it returns false'. Refute it at one input. -/
def judgeAllWrong : ChangeSpec := { name := "judgeAll", fn := fun _ => fun
  | [d] => { results := [.lit (.bool false)], args := [d] }
  | _ => none }
def JudgeAllWrongFalsely : Prop := judgeAllRow.holds Try.pinned (OpenSpec.ofChange judgeAllWrong)

/-- 'diwanlaw18.JudgeFront': WHATEVER THE INPUT: true; the input reads as it did. -/
def judgeFrontSpec : ChangeSpec := { name := "judgeFront", fn := fun _ => fun
  | [d1, d2] => { results := [.lit (.bool true)], args := [d1, d2] }
  | _ => none }
def judgeFrontRow : OpenClaim := { program := "ytknkeabmjleoiaa", sum := "78fe43cc02c7f0477706b40b1a387f89e45ae696bd8dbb220aa1bfaea13704a2", func := "diwan/diwanlaw18.JudgeFront", spec := "judgeFront", inPlace := ["slices.overlaps[diwan/api.Seat]", "slices.overlaps[diwan/api.Chain]"], unfollowed := true, recurses := true, apart := false }
def JudgeFrontSaid : Prop := judgeFrontRow.holds Try.pinned (OpenSpec.ofChange judgeFrontSpec)

/-- ITS FALSE NEIGHBOUR: 'it returns false'. Refute it at one input. -/
def judgeFrontWrong : ChangeSpec := { name := "judgeFront", fn := fun _ => fun
  | [d1, d2] => { results := [.lit (.bool false)], args := [d1, d2] }
  | _ => none }
def JudgeFrontWrongFalsely : Prop := judgeFrontRow.holds Try.pinned (OpenSpec.ofChange judgeFrontWrong)

/-- 'diwanlaw18.JudgeMap': WHATEVER THE INPUT: true; the input reads as it did. -/
def judgeMapSpec : ChangeSpec := { name := "judgeMap", fn := fun _ => fun
  | [d] => { results := [.lit (.bool true)], args := [d] }
  | _ => none }
def judgeMapRow : OpenClaim := { program := "ytknkeabmjleoiaa", sum := "78fe43cc02c7f0477706b40b1a387f89e45ae696bd8dbb220aa1bfaea13704a2", func := "diwan/diwanlaw18.JudgeMap", spec := "judgeMap", inPlace := ["slices.overlaps[diwan/api.Seat]", "slices.overlaps[diwan/api.Chain]"], unfollowed := true, recurses := true, apart := false }
def JudgeMapSaid : Prop := judgeMapRow.holds Try.pinned (OpenSpec.ofChange judgeMapSpec)

/-- ITS FALSE NEIGHBOUR: 'it returns false'. Refute it at one input. -/
def judgeMapWrong : ChangeSpec := { name := "judgeMap", fn := fun _ => fun
  | [d] => { results := [.lit (.bool false)], args := [d] }
  | _ => none }
def JudgeMapWrongFalsely : Prop := judgeMapRow.holds Try.pinned (OpenSpec.ofChange judgeMapWrong)

/-- 'diwanlaw18.JudgeForms': WHATEVER THE INPUT: true; the input reads as it did. -/
def judgeFormsSpec : ChangeSpec := { name := "judgeForms", fn := fun _ => fun
  | [] => { results := [.lit (.bool true)], args := [] }
  | _ => none }
def judgeFormsRow : OpenClaim := { program := "ytknkeabmjleoiaa", sum := "78fe43cc02c7f0477706b40b1a387f89e45ae696bd8dbb220aa1bfaea13704a2", func := "diwan/diwanlaw18.JudgeForms", spec := "judgeForms", inPlace := ["slices.overlaps[diwan/api.Seat]", "slices.overlaps[diwan/api.Chain]"], unfollowed := true, recurses := true, apart := false }
def JudgeFormsSaid : Prop := judgeFormsRow.holds Try.pinned (OpenSpec.ofChange judgeFormsSpec)

/-- ITS FALSE NEIGHBOUR: 'it returns false'. Refute it at one input. -/
def judgeFormsWrong : ChangeSpec := { name := "judgeForms", fn := fun _ => fun
  | [] => { results := [.lit (.bool false)], args := [] }
  | _ => none }
def JudgeFormsWrongFalsely : Prop := judgeFormsRow.holds Try.pinned (OpenSpec.ofChange judgeFormsWrong)

/-- 'diwanlaw18.JudgeBlind': WHATEVER THE INPUT: true; the input reads as it did. -/
def judgeBlindSpec : ChangeSpec := { name := "judgeBlind", fn := fun _ => fun
  | [d] => { results := [.lit (.bool true)], args := [d] }
  | _ => none }
def judgeBlindRow : OpenClaim := { program := "ytknkeabmjleoiaa", sum := "78fe43cc02c7f0477706b40b1a387f89e45ae696bd8dbb220aa1bfaea13704a2", func := "diwan/diwanlaw18.JudgeBlind", spec := "judgeBlind", inPlace := ["slices.overlaps[diwan/api.Seat]", "slices.overlaps[diwan/api.Chain]"], unfollowed := true, recurses := true, apart := false }
def JudgeBlindSaid : Prop := judgeBlindRow.holds Try.pinned (OpenSpec.ofChange judgeBlindSpec)

/-- ITS FALSE NEIGHBOUR: 'it returns false'. Refute it at one input. -/
def judgeBlindWrong : ChangeSpec := { name := "judgeBlind", fn := fun _ => fun
  | [d] => { results := [.lit (.bool false)], args := [d] }
  | _ => none }
def JudgeBlindWrongFalsely : Prop := judgeBlindRow.holds Try.pinned (OpenSpec.ofChange judgeBlindWrong)

/-- 'diwanlaw18.JudgeAgain': WHATEVER THE INPUT: true; the input reads as it did. -/
def judgeAgainSpec : ChangeSpec := { name := "judgeAgain", fn := fun _ => fun
  | [d] => { results := [.lit (.bool true)], args := [d] }
  | _ => none }
def judgeAgainRow : OpenClaim := { program := "ytknkeabmjleoiaa", sum := "78fe43cc02c7f0477706b40b1a387f89e45ae696bd8dbb220aa1bfaea13704a2", func := "diwan/diwanlaw18.JudgeAgain", spec := "judgeAgain", inPlace := ["slices.overlaps[diwan/api.Seat]", "slices.overlaps[diwan/api.Chain]"], unfollowed := true, recurses := true, apart := false }
def JudgeAgainSaid : Prop := judgeAgainRow.holds Try.pinned (OpenSpec.ofChange judgeAgainSpec)

/-- ITS FALSE NEIGHBOUR: 'it returns false'. Refute it at one input. -/
def judgeAgainWrong : ChangeSpec := { name := "judgeAgain", fn := fun _ => fun
  | [d] => { results := [.lit (.bool false)], args := [d] }
  | _ => none }
def JudgeAgainWrongFalsely : Prop := judgeAgainRow.holds Try.pinned (OpenSpec.ofChange judgeAgainWrong)

/- THE SECOND FORM. 'bulk': how many values and letters a reading holds, each counted each time it is reached (what is shared counts as often as it is met; a slice's spare places count too). A statement '..UptoSaid' is the law's where the arguments, and the package variables that the reading takes, are together of bulk at most 1048576: NARROWER than '..Said'. Prove '..Said' where nothing that the law and all that it calls make is longer than what came in: it says more and counts as full. Else prove '..UptoSaid'. A law counts once. -/
mutual
def uptoBulk {H : Type} : DataW H → Nat
  | .lit (.string bytes) => bytes.length + 1
  | .lit _ => 1
  | .nil => 1
  | .ptr d => uptoBulk d + 1
  | .slice elems spare => uptoBulkAll elems + uptoBulkAll spare + 1
  | .agg parts => uptoBulkAll parts + 1
  | .iface _ d => uptoBulk d + 1
  | .map entries => uptoBulkEntries entries + 1
  | .held _ => 1
def uptoBulkAll {H : Type} : List (DataW H) → Nat
  | [] => 0
  | d :: r => uptoBulk d + uptoBulkAll r
def uptoBulkEntries {H : Type} : List (Lit × DataW H) → Nat
  | [] => 0
  | x :: r => uptoBulkEntry x + uptoBulkEntries r
def uptoBulkEntry {H : Type} : Lit × DataW H → Nat
  | (.string bytes, d) => bytes.length + uptoBulk d + 1
  | (_, d) => uptoBulk d + 1
 end
def uptoSmall : (H : Type) → List (DataW H) → Bool := fun _ ds => decide (uptoBulkAll ds ≤ 1048576)
def OpenSpec.upto (s : _root_.Go.ChangeSpec) : _root_.Go.OpenSpec := { _root_.Go.OpenSpec.ofChange s with cond := some uptoSmall }

/-- 'diwanlaw18.JudgeAll', WHERE WHAT IT READS IS OF BULK AT MOST 1048576: true; the input reads as it did. -/
def judgeAllUptoRow : OpenClaim := { program := "ytknkeabmjleoiaa", sum := "78fe43cc02c7f0477706b40b1a387f89e45ae696bd8dbb220aa1bfaea13704a2", func := "diwan/diwanlaw18.JudgeAll", spec := "judgeAll", inPlace := ["slices.overlaps[diwan/api.Seat]", "slices.overlaps[diwan/api.Chain]"], unfollowed := true, recurses := true, apart := false, narrowed := true }
def JudgeAllUptoSaid : Prop := judgeAllUptoRow.holds Try.pinned (OpenSpec.upto judgeAllSpec)

/-- 'diwanlaw18.JudgeFront', WHERE WHAT IT READS IS OF BULK AT MOST 1048576: true; the input reads as it did. -/
def judgeFrontUptoRow : OpenClaim := { program := "ytknkeabmjleoiaa", sum := "78fe43cc02c7f0477706b40b1a387f89e45ae696bd8dbb220aa1bfaea13704a2", func := "diwan/diwanlaw18.JudgeFront", spec := "judgeFront", inPlace := ["slices.overlaps[diwan/api.Seat]", "slices.overlaps[diwan/api.Chain]"], unfollowed := true, recurses := true, apart := false, narrowed := true }
def JudgeFrontUptoSaid : Prop := judgeFrontUptoRow.holds Try.pinned (OpenSpec.upto judgeFrontSpec)

/-- 'diwanlaw18.JudgeMap', WHERE WHAT IT READS IS OF BULK AT MOST 1048576: true; the input reads as it did. -/
def judgeMapUptoRow : OpenClaim := { program := "ytknkeabmjleoiaa", sum := "78fe43cc02c7f0477706b40b1a387f89e45ae696bd8dbb220aa1bfaea13704a2", func := "diwan/diwanlaw18.JudgeMap", spec := "judgeMap", inPlace := ["slices.overlaps[diwan/api.Seat]", "slices.overlaps[diwan/api.Chain]"], unfollowed := true, recurses := true, apart := false, narrowed := true }
def JudgeMapUptoSaid : Prop := judgeMapUptoRow.holds Try.pinned (OpenSpec.upto judgeMapSpec)

/-- 'diwanlaw18.JudgeForms', WHERE WHAT IT READS IS OF BULK AT MOST 1048576: true; the input reads as it did. -/
def judgeFormsUptoRow : OpenClaim := { program := "ytknkeabmjleoiaa", sum := "78fe43cc02c7f0477706b40b1a387f89e45ae696bd8dbb220aa1bfaea13704a2", func := "diwan/diwanlaw18.JudgeForms", spec := "judgeForms", inPlace := ["slices.overlaps[diwan/api.Seat]", "slices.overlaps[diwan/api.Chain]"], unfollowed := true, recurses := true, apart := false, narrowed := true }
def JudgeFormsUptoSaid : Prop := judgeFormsUptoRow.holds Try.pinned (OpenSpec.upto judgeFormsSpec)

/-- 'diwanlaw18.JudgeBlind', WHERE WHAT IT READS IS OF BULK AT MOST 1048576: true; the input reads as it did. -/
def judgeBlindUptoRow : OpenClaim := { program := "ytknkeabmjleoiaa", sum := "78fe43cc02c7f0477706b40b1a387f89e45ae696bd8dbb220aa1bfaea13704a2", func := "diwan/diwanlaw18.JudgeBlind", spec := "judgeBlind", inPlace := ["slices.overlaps[diwan/api.Seat]", "slices.overlaps[diwan/api.Chain]"], unfollowed := true, recurses := true, apart := false, narrowed := true }
def JudgeBlindUptoSaid : Prop := judgeBlindUptoRow.holds Try.pinned (OpenSpec.upto judgeBlindSpec)

/-- 'diwanlaw18.JudgeAgain', WHERE WHAT IT READS IS OF BULK AT MOST 1048576: true; the input reads as it did. -/
def judgeAgainUptoRow : OpenClaim := { program := "ytknkeabmjleoiaa", sum := "78fe43cc02c7f0477706b40b1a387f89e45ae696bd8dbb220aa1bfaea13704a2", func := "diwan/diwanlaw18.JudgeAgain", spec := "judgeAgain", inPlace := ["slices.overlaps[diwan/api.Seat]", "slices.overlaps[diwan/api.Chain]"], unfollowed := true, recurses := true, apart := false, narrowed := true }
def JudgeAgainUptoSaid : Prop := judgeAgainUptoRow.holds Try.pinned (OpenSpec.upto judgeAgainSpec)

end Rows
end Go.Proofs.Ytknkeabmjleoiaa
