/-
  No cell of these rows narrows 'for every input' (looked for: loops, veiled, ifaces, maps, wideKeys, modest, calm, conditions, laid).
  DERIVED. THE GIVEN ROWS OF THIS SEAT. 4 by the template 'for every input the law returns true; each argument reads behind the call as it read before'; 0 by the template 'total and deterministic' (their statements: YtepaajbkmkclnaaTotals.lean).
  GIVEN WITH THE SEED: the statements are not yours to turn. If you find one false, say at which input.
  Laid BY PROGRAM, IN A SANDBOX (cutbox-rows.mjs): the forced cells as the released guide's own fill.sh prints them over the translation 1ad19150dd13a0a6… (all of the seat's roots in one cut). By AI agents, Wed Nov 11 2026. No macro, syntax, notation, axiom, sorry.
-/
import Derived.Test.YtepaajbkmkclnaaChecked
import GoSem.Claim
import GoSem.ClaimJoined
import GoSem.ClaimMapViews
import Derived.JoinedTies
import Derived.KernelRfl
namespace Go.Proofs.Ytepaajbkmkclnaa
/- THE CELL 'sum', in the pinned program and in every row, IS THE sha256 OF THE DUMP (.gsa) THAT YtepaajbkmkclnaaProg.lean LOADS. Nothing in Lean hashes anything: it is a label: what it is worth is what the hold of that sum in a sandbox is worth. -/
noncomputable def Try.pinned : Pinned := { name := "ytepaajbkmkclnaa", sum := "1ad19150dd13a0a67f2680f70681264c894aec01084dc414ecc1fbd1f51489ec", checked := Try.checked }
namespace Rows
def none {H : Type} : Left H := { results := [], args := [] }

/-- 'diwanlaw14.MergeOnce': WHATEVER THE INPUT: true; the input reads as it did. -/
def mergeOnceSpec : ChangeSpec := { name := "mergeOnce", fn := fun _ => fun
  | [d1, d2] => { results := [.lit (.bool true)], args := [d1, d2] }
  | _ => none }
def mergeOnceRow : OpenClaim := { program := "ytepaajbkmkclnaa", sum := "1ad19150dd13a0a67f2680f70681264c894aec01084dc414ecc1fbd1f51489ec", func := "diwan/diwanlaw14.MergeOnce", spec := "mergeOnce", unfollowed := true, recurses := true, apart := false }
def MergeOnceSaid : Prop := mergeOnceRow.holds Try.pinned (OpenSpec.ofChange mergeOnceSpec)

/-- ITS FALSE NEIGHBOUR: 'it returns false'. Refute it at one input. -/
def mergeOnceWrong : ChangeSpec := { name := "mergeOnce", fn := fun _ => fun
  | [d1, d2] => { results := [.lit (.bool false)], args := [d1, d2] }
  | _ => none }
def MergeOnceWrongFalsely : Prop := mergeOnceRow.holds Try.pinned (OpenSpec.ofChange mergeOnceWrong)

/-- 'diwanlaw14.MergeEven': WHATEVER THE INPUT: true; the input reads as it did. -/
def mergeEvenSpec : ChangeSpec := { name := "mergeEven", fn := fun _ => fun
  | [d] => { results := [.lit (.bool true)], args := [d] }
  | _ => none }
def mergeEvenRow : OpenClaim := { program := "ytepaajbkmkclnaa", sum := "1ad19150dd13a0a67f2680f70681264c894aec01084dc414ecc1fbd1f51489ec", func := "diwan/diwanlaw14.MergeEven", spec := "mergeEven", unfollowed := true, recurses := true, apart := false }
def MergeEvenSaid : Prop := mergeEvenRow.holds Try.pinned (OpenSpec.ofChange mergeEvenSpec)

/-- ITS FALSE NEIGHBOUR: 'it returns false'. Refute it at one input. -/
def mergeEvenWrong : ChangeSpec := { name := "mergeEven", fn := fun _ => fun
  | [d] => { results := [.lit (.bool false)], args := [d] }
  | _ => none }
def MergeEvenWrongFalsely : Prop := mergeEvenRow.holds Try.pinned (OpenSpec.ofChange mergeEvenWrong)

/-- 'diwanlaw14.MergeForms': WHATEVER THE INPUT: true; the input reads as it did. -/
def mergeFormsSpec : ChangeSpec := { name := "mergeForms", fn := fun _ => fun
  | [] => { results := [.lit (.bool true)], args := [] }
  | _ => none }
def mergeFormsRow : OpenClaim := { program := "ytepaajbkmkclnaa", sum := "1ad19150dd13a0a67f2680f70681264c894aec01084dc414ecc1fbd1f51489ec", func := "diwan/diwanlaw14.MergeForms", spec := "mergeForms", unfollowed := true, recurses := true, apart := false }
def MergeFormsSaid : Prop := mergeFormsRow.holds Try.pinned (OpenSpec.ofChange mergeFormsSpec)

/-- ITS FALSE NEIGHBOUR: 'it returns false'. Refute it at one input. -/
def mergeFormsWrong : ChangeSpec := { name := "mergeForms", fn := fun _ => fun
  | [] => { results := [.lit (.bool false)], args := [] }
  | _ => none }
def MergeFormsWrongFalsely : Prop := mergeFormsRow.holds Try.pinned (OpenSpec.ofChange mergeFormsWrong)

/-- 'diwanlaw14.MergeStops': WHATEVER THE INPUT: true; the input reads as it did. -/
def mergeStopsSpec : ChangeSpec := { name := "mergeStops", fn := fun _ => fun
  | [d1, d2] => { results := [.lit (.bool true)], args := [d1, d2] }
  | _ => none }
def mergeStopsRow : OpenClaim := { program := "ytepaajbkmkclnaa", sum := "1ad19150dd13a0a67f2680f70681264c894aec01084dc414ecc1fbd1f51489ec", func := "diwan/diwanlaw14.MergeStops", spec := "mergeStops", unfollowed := true, recurses := true, apart := false }
def MergeStopsSaid : Prop := mergeStopsRow.holds Try.pinned (OpenSpec.ofChange mergeStopsSpec)

/-- ITS FALSE NEIGHBOUR: 'it returns false'. Refute it at one input. -/
def mergeStopsWrong : ChangeSpec := { name := "mergeStops", fn := fun _ => fun
  | [d1, d2] => { results := [.lit (.bool false)], args := [d1, d2] }
  | _ => none }
def MergeStopsWrongFalsely : Prop := mergeStopsRow.holds Try.pinned (OpenSpec.ofChange mergeStopsWrong)

/- THE SECOND FORM. 'bulk': how many values and letters a reading holds, each counted each time it is reached (what is shared counts as often as it is met; a slice's spare places count too). A statement '..UptoSaid' is the law's where the arguments, and the package variables that the reading takes, are together of bulk at most 1048576: NARROWER than '..Said'. Prove '..Said' where nothing that the law and all that it calls make is longer than what came in: it says more and counts as full. Else prove '..UptoSaid'. A law counts once. -/
mutual
def uptoBulk {H : Type} : DataW H → Nat
  | .lit (.string bytes) => bytes.length + 1
  | .lit _ => 1
  | .nil => 1
  | .ptr d => uptoBulk d + 1
  | .slice elems spare => uptoBulkAll elems + uptoBulkAll spare + 1
  | .agg parts => uptoBulkAll parts + 1
  | .iface _ d => uptoBulk d + 1
  | .map entries => uptoBulkEntries entries + 1
  | .held _ => 1
def uptoBulkAll {H : Type} : List (DataW H) → Nat
  | [] => 0
  | d :: r => uptoBulk d + uptoBulkAll r
def uptoBulkEntries {H : Type} : List (Lit × DataW H) → Nat
  | [] => 0
  | x :: r => uptoBulkEntry x + uptoBulkEntries r
def uptoBulkEntry {H : Type} : Lit × DataW H → Nat
  | (.string bytes, d) => bytes.length + uptoBulk d + 1
  | (_, d) => uptoBulk d + 1
 end
def uptoSmall : (H : Type) → List (DataW H) → Bool := fun _ ds => decide (uptoBulkAll ds ≤ 1048576)
def OpenSpec.upto (s : _root_.Go.ChangeSpec) : _root_.Go.OpenSpec := { _root_.Go.OpenSpec.ofChange s with cond := some uptoSmall }

/-- 'diwanlaw14.MergeOnce', WHERE WHAT IT READS IS OF BULK AT MOST 1048576: true; the input reads as it did. -/
def mergeOnceUptoRow : OpenClaim := { program := "ytepaajbkmkclnaa", sum := "1ad19150dd13a0a67f2680f70681264c894aec01084dc414ecc1fbd1f51489ec", func := "diwan/diwanlaw14.MergeOnce", spec := "mergeOnce", unfollowed := true, recurses := true, apart := false, narrowed := true }
def MergeOnceUptoSaid : Prop := mergeOnceUptoRow.holds Try.pinned (OpenSpec.upto mergeOnceSpec)

/-- 'diwanlaw14.MergeEven', WHERE WHAT IT READS IS OF BULK AT MOST 1048576: true; the input reads as it did. -/
def mergeEvenUptoRow : OpenClaim := { program := "ytepaajbkmkclnaa", sum := "1ad19150dd13a0a67f2680f70681264c894aec01084dc414ecc1fbd1f51489ec", func := "diwan/diwanlaw14.MergeEven", spec := "mergeEven", unfollowed := true, recurses := true, apart := false, narrowed := true }
def MergeEvenUptoSaid : Prop := mergeEvenUptoRow.holds Try.pinned (OpenSpec.upto mergeEvenSpec)

/-- 'diwanlaw14.MergeForms', WHERE WHAT IT READS IS OF BULK AT MOST 1048576: true; the input reads as it did. -/
def mergeFormsUptoRow : OpenClaim := { program := "ytepaajbkmkclnaa", sum := "1ad19150dd13a0a67f2680f70681264c894aec01084dc414ecc1fbd1f51489ec", func := "diwan/diwanlaw14.MergeForms", spec := "mergeForms", unfollowed := true, recurses := true, apart := false, narrowed := true }
def MergeFormsUptoSaid : Prop := mergeFormsUptoRow.holds Try.pinned (OpenSpec.upto mergeFormsSpec)

/-- 'diwanlaw14.MergeStops', WHERE WHAT IT READS IS OF BULK AT MOST 1048576: true; the input reads as it did. -/
def mergeStopsUptoRow : OpenClaim := { program := "ytepaajbkmkclnaa", sum := "1ad19150dd13a0a67f2680f70681264c894aec01084dc414ecc1fbd1f51489ec", func := "diwan/diwanlaw14.MergeStops", spec := "mergeStops", unfollowed := true, recurses := true, apart := false, narrowed := true }
def MergeStopsUptoSaid : Prop := mergeStopsUptoRow.holds Try.pinned (OpenSpec.upto mergeStopsSpec)

end Rows
end Go.Proofs.Ytepaajbkmkclnaa
