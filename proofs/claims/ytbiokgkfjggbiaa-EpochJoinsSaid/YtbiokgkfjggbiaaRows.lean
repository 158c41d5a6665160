/-
  No cell of these rows narrows 'for every input' (looked for: loops, veiled, ifaces, maps, wideKeys, modest, calm, conditions, laid).
  DERIVED. THE GIVEN ROWS OF THIS SEAT. 4 by the template 'for every input the law returns true; each argument reads behind the call as it read before'; 0 by the template 'total and deterministic' (their statements: YtbiokgkfjggbiaaTotals.lean).
  GIVEN WITH THE SEED: the statements are not yours to turn. If you find one false, say at which input.
  Laid BY PROGRAM, IN A SANDBOX (cutbox-rows.mjs): the forced cells as the released guide's own fill.sh prints them over the translation 2f79e640f4161d92… (all of the seat's roots in one cut). By AI agents, Wed Nov 11 2026. No macro, syntax, notation, axiom, sorry.
-/
import Derived.Test.YtbiokgkfjggbiaaChecked
import GoSem.Claim
import GoSem.ClaimJoined
import GoSem.ClaimMapViews
import Derived.JoinedTies
import Derived.KernelRfl
namespace Go.Proofs.Ytbiokgkfjggbiaa
/- THE CELL 'sum', in the pinned program and in every row, IS THE sha256 OF THE DUMP (.gsa) THAT YtbiokgkfjggbiaaProg.lean LOADS. Nothing in Lean hashes anything: it is a label: what it is worth is what the hold of that sum in a sandbox is worth. -/
noncomputable def Try.pinned : Pinned := { name := "ytbiokgkfjggbiaa", sum := "2f79e640f4161d926e7daab3aeef263d20b7d43c3367214c40ca62eddeb0bfba", checked := Try.checked }
namespace Rows
def none {H : Type} : Left H := { results := [], args := [] }

/-- 'diwanlaw13.EpochAll': WHATEVER THE INPUT: true; the input reads as it did. -/
def epochAllSpec : ChangeSpec := { name := "epochAll", fn := fun _ => fun
  | [d1, d2] => { results := [.lit (.bool true)], args := [d1, d2] }
  | _ => none }
def epochAllRow : OpenClaim := { program := "ytbiokgkfjggbiaa", sum := "2f79e640f4161d926e7daab3aeef263d20b7d43c3367214c40ca62eddeb0bfba", func := "diwan/diwanlaw13.EpochAll", spec := "epochAll", unfollowed := true, recurses := true, apart := false }
def EpochAllSaid : Prop := epochAllRow.holds Try.pinned (OpenSpec.ofChange epochAllSpec)

/-- ITS FALSE NEIGHBOUR: 'it returns false'. Refute it at one input. -/
def epochAllWrong : ChangeSpec := { name := "epochAll", fn := fun _ => fun
  | [d1, d2] => { results := [.lit (.bool false)], args := [d1, d2] }
  | _ => none }
def EpochAllWrongFalsely : Prop := epochAllRow.holds Try.pinned (OpenSpec.ofChange epochAllWrong)

/-- 'diwanlaw13.EpochGrows': WHATEVER THE INPUT: true; the input reads as it did. -/
def epochGrowsSpec : ChangeSpec := { name := "epochGrows", fn := fun _ => fun
  | [d1, d2] => { results := [.lit (.bool true)], args := [d1, d2] }
  | _ => none }
def epochGrowsRow : OpenClaim := { program := "ytbiokgkfjggbiaa", sum := "2f79e640f4161d926e7daab3aeef263d20b7d43c3367214c40ca62eddeb0bfba", func := "diwan/diwanlaw13.EpochGrows", spec := "epochGrows", unfollowed := true, recurses := true, apart := false }
def EpochGrowsSaid : Prop := epochGrowsRow.holds Try.pinned (OpenSpec.ofChange epochGrowsSpec)

/-- ITS FALSE NEIGHBOUR: 'it returns false'. Refute it at one input. -/
def epochGrowsWrong : ChangeSpec := { name := "epochGrows", fn := fun _ => fun
  | [d1, d2] => { results := [.lit (.bool false)], args := [d1, d2] }
  | _ => none }
def EpochGrowsWrongFalsely : Prop := epochGrowsRow.holds Try.pinned (OpenSpec.ofChange epochGrowsWrong)

/-- 'diwanlaw13.EpochForms': WHATEVER THE INPUT: true; the input reads as it did. -/
def epochFormsSpec : ChangeSpec := { name := "epochForms", fn := fun _ => fun
  | [] => { results := [.lit (.bool true)], args := [] }
  | _ => none }
def epochFormsRow : OpenClaim := { program := "ytbiokgkfjggbiaa", sum := "2f79e640f4161d926e7daab3aeef263d20b7d43c3367214c40ca62eddeb0bfba", func := "diwan/diwanlaw13.EpochForms", spec := "epochForms", unfollowed := true, recurses := true, apart := false }
def EpochFormsSaid : Prop := epochFormsRow.holds Try.pinned (OpenSpec.ofChange epochFormsSpec)

/-- ITS FALSE NEIGHBOUR: 'it returns false'. Refute it at one input. -/
def epochFormsWrong : ChangeSpec := { name := "epochForms", fn := fun _ => fun
  | [] => { results := [.lit (.bool false)], args := [] }
  | _ => none }
def EpochFormsWrongFalsely : Prop := epochFormsRow.holds Try.pinned (OpenSpec.ofChange epochFormsWrong)

/-- 'diwanlaw13.EpochJoins': WHATEVER THE INPUT: true; the input reads as it did. -/
def epochJoinsSpec : ChangeSpec := { name := "epochJoins", fn := fun _ => fun
  | [d1, d2, d3, d4] => { results := [.lit (.bool true)], args := [d1, d2, d3, d4] }
  | _ => none }
def epochJoinsRow : OpenClaim := { program := "ytbiokgkfjggbiaa", sum := "2f79e640f4161d926e7daab3aeef263d20b7d43c3367214c40ca62eddeb0bfba", func := "diwan/diwanlaw13.EpochJoins", spec := "epochJoins", unfollowed := true, recurses := true, apart := false }
def EpochJoinsSaid : Prop := epochJoinsRow.holds Try.pinned (OpenSpec.ofChange epochJoinsSpec)

/-- ITS FALSE NEIGHBOUR: 'it returns false'. Refute it at one input. -/
def epochJoinsWrong : ChangeSpec := { name := "epochJoins", fn := fun _ => fun
  | [d1, d2, d3, d4] => { results := [.lit (.bool false)], args := [d1, d2, d3, d4] }
  | _ => none }
def EpochJoinsWrongFalsely : Prop := epochJoinsRow.holds Try.pinned (OpenSpec.ofChange epochJoinsWrong)

/- THE SECOND FORM. 'bulk': how many values and letters a reading holds, each counted each time it is reached (what is shared counts as often as it is met; a slice's spare places count too). A statement '..UptoSaid' is the law's where the arguments, and the package variables that the reading takes, are together of bulk at most 1048576: NARROWER than '..Said'. Prove '..Said' where nothing that the law and all that it calls make is longer than what came in: it says more and counts as full. Else prove '..UptoSaid'. A law counts once. -/
mutual
def uptoBulk {H : Type} : DataW H → Nat
  | .lit (.string bytes) => bytes.length + 1
  | .lit _ => 1
  | .nil => 1
  | .ptr d => uptoBulk d + 1
  | .slice elems spare => uptoBulkAll elems + uptoBulkAll spare + 1
  | .agg parts => uptoBulkAll parts + 1
  | .iface _ d => uptoBulk d + 1
  | .map entries => uptoBulkEntries entries + 1
  | .held _ => 1
def uptoBulkAll {H : Type} : List (DataW H) → Nat
  | [] => 0
  | d :: r => uptoBulk d + uptoBulkAll r
def uptoBulkEntries {H : Type} : List (Lit × DataW H) → Nat
  | [] => 0
  | x :: r => uptoBulkEntry x + uptoBulkEntries r
def uptoBulkEntry {H : Type} : Lit × DataW H → Nat
  | (.string bytes, d) => bytes.length + uptoBulk d + 1
  | (_, d) => uptoBulk d + 1
 end
def uptoSmall : (H : Type) → List (DataW H) → Bool := fun _ ds => decide (uptoBulkAll ds ≤ 1048576)
def OpenSpec.upto (s : _root_.Go.ChangeSpec) : _root_.Go.OpenSpec := { _root_.Go.OpenSpec.ofChange s with cond := some uptoSmall }

/-- 'diwanlaw13.EpochAll', WHERE WHAT IT READS IS OF BULK AT MOST 1048576: true; the input reads as it did. -/
def epochAllUptoRow : OpenClaim := { program := "ytbiokgkfjggbiaa", sum := "2f79e640f4161d926e7daab3aeef263d20b7d43c3367214c40ca62eddeb0bfba", func := "diwan/diwanlaw13.EpochAll", spec := "epochAll", unfollowed := true, recurses := true, apart := false, narrowed := true }
def EpochAllUptoSaid : Prop := epochAllUptoRow.holds Try.pinned (OpenSpec.upto epochAllSpec)

/-- 'diwanlaw13.EpochGrows', WHERE WHAT IT READS IS OF BULK AT MOST 1048576: true; the input reads as it did. -/
def epochGrowsUptoRow : OpenClaim := { program := "ytbiokgkfjggbiaa", sum := "2f79e640f4161d926e7daab3aeef263d20b7d43c3367214c40ca62eddeb0bfba", func := "diwan/diwanlaw13.EpochGrows", spec := "epochGrows", unfollowed := true, recurses := true, apart := false, narrowed := true }
def EpochGrowsUptoSaid : Prop := epochGrowsUptoRow.holds Try.pinned (OpenSpec.upto epochGrowsSpec)

/-- 'diwanlaw13.EpochForms', WHERE WHAT IT READS IS OF BULK AT MOST 1048576: true; the input reads as it did. -/
def epochFormsUptoRow : OpenClaim := { program := "ytbiokgkfjggbiaa", sum := "2f79e640f4161d926e7daab3aeef263d20b7d43c3367214c40ca62eddeb0bfba", func := "diwan/diwanlaw13.EpochForms", spec := "epochForms", unfollowed := true, recurses := true, apart := false, narrowed := true }
def EpochFormsUptoSaid : Prop := epochFormsUptoRow.holds Try.pinned (OpenSpec.upto epochFormsSpec)

/-- 'diwanlaw13.EpochJoins', WHERE WHAT IT READS IS OF BULK AT MOST 1048576: true; the input reads as it did. -/
def epochJoinsUptoRow : OpenClaim := { program := "ytbiokgkfjggbiaa", sum := "2f79e640f4161d926e7daab3aeef263d20b7d43c3367214c40ca62eddeb0bfba", func := "diwan/diwanlaw13.EpochJoins", spec := "epochJoins", unfollowed := true, recurses := true, apart := false, narrowed := true }
def EpochJoinsUptoSaid : Prop := epochJoinsUptoRow.holds Try.pinned (OpenSpec.upto epochJoinsSpec)

end Rows
end Go.Proofs.Ytbiokgkfjggbiaa
