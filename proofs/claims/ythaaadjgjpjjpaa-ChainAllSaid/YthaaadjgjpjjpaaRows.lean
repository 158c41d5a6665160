/-
  No cell of these rows narrows 'for every input' (looked for: loops, veiled, ifaces, maps, wideKeys, modest, calm, conditions, laid).
  DERIVED. THE GIVEN ROWS OF THIS SEAT. 4 by the template 'for every input the law returns true; each argument reads behind the call as it read before'; 0 by the template 'total and deterministic' (their statements: YthaaadjgjpjjpaaTotals.lean).
  GIVEN WITH THE SEED: the statements are not yours to turn. If you find one false, say at which input.
  Laid BY PROGRAM, IN A SANDBOX (cutbox-rows.mjs): the forced cells as the released guide's own fill.sh prints them over the translation 59d383b1c8344bdb… (all of the seat's roots in one cut). By AI agents, Wed Nov 11 2026. No macro, syntax, notation, axiom, sorry.
-/
import Derived.Test.YthaaadjgjpjjpaaChecked
import GoSem.Claim
import GoSem.ClaimJoined
import GoSem.ClaimMapViews
import Derived.JoinedTies
import Derived.KernelRfl
namespace Go.Proofs.Ythaaadjgjpjjpaa
/- THE CELL 'sum', in the pinned program and in every row, IS THE sha256 OF THE DUMP (.gsa) THAT YthaaadjgjpjjpaaProg.lean LOADS. Nothing in Lean hashes anything: it is a label: what it is worth is what the hold of that sum in a sandbox is worth. -/
noncomputable def Try.pinned : Pinned := { name := "ythaaadjgjpjjpaa", sum := "59d383b1c8344bdb34bf52aa2ac615298fafb637d71dd80d3558b979ed16362d", checked := Try.checked }
namespace Rows
def none {H : Type} : Left H := { results := [], args := [] }

/-- 'diwanlaw15.ChainAll': WHATEVER THE INPUT: true; the input reads as it did. -/
def chainAllSpec : ChangeSpec := { name := "chainAll", fn := fun _ => fun
  | [d1, d2, d3, d4] => { results := [.lit (.bool true)], args := [d1, d2, d3, d4] }
  | _ => none }
def chainAllRow : OpenClaim := { program := "ythaaadjgjpjjpaa", sum := "59d383b1c8344bdb34bf52aa2ac615298fafb637d71dd80d3558b979ed16362d", func := "diwan/diwanlaw15.ChainAll", spec := "chainAll", unfollowed := true, recurses := true, apart := false }
def ChainAllSaid : Prop := chainAllRow.holds Try.pinned (OpenSpec.ofChange chainAllSpec)

/-- ITS FALSE NEIGHBOUR: 'it returns false'. Refute it at one input. -/
def chainAllWrong : ChangeSpec := { name := "chainAll", fn := fun _ => fun
  | [d1, d2, d3, d4] => { results := [.lit (.bool false)], args := [d1, d2, d3, d4] }
  | _ => none }
def ChainAllWrongFalsely : Prop := chainAllRow.holds Try.pinned (OpenSpec.ofChange chainAllWrong)

/-- 'diwanlaw15.ChainTrim': WHATEVER THE INPUT: true; the input reads as it did. -/
def chainTrimSpec : ChangeSpec := { name := "chainTrim", fn := fun _ => fun
  | [d1, d2, d3] => { results := [.lit (.bool true)], args := [d1, d2, d3] }
  | _ => none }
def chainTrimRow : OpenClaim := { program := "ythaaadjgjpjjpaa", sum := "59d383b1c8344bdb34bf52aa2ac615298fafb637d71dd80d3558b979ed16362d", func := "diwan/diwanlaw15.ChainTrim", spec := "chainTrim", unfollowed := true, recurses := true, apart := false }
def ChainTrimSaid : Prop := chainTrimRow.holds Try.pinned (OpenSpec.ofChange chainTrimSpec)

/-- ITS FALSE NEIGHBOUR: 'it returns false'. Refute it at one input. -/
def chainTrimWrong : ChangeSpec := { name := "chainTrim", fn := fun _ => fun
  | [d1, d2, d3] => { results := [.lit (.bool false)], args := [d1, d2, d3] }
  | _ => none }
def ChainTrimWrongFalsely : Prop := chainTrimRow.holds Try.pinned (OpenSpec.ofChange chainTrimWrong)

/-- 'diwanlaw15.ChainForms': WHATEVER THE INPUT: true; the input reads as it did. -/
def chainFormsSpec : ChangeSpec := { name := "chainForms", fn := fun _ => fun
  | [] => { results := [.lit (.bool true)], args := [] }
  | _ => none }
def chainFormsRow : OpenClaim := { program := "ythaaadjgjpjjpaa", sum := "59d383b1c8344bdb34bf52aa2ac615298fafb637d71dd80d3558b979ed16362d", func := "diwan/diwanlaw15.ChainForms", spec := "chainForms", unfollowed := true, recurses := true, apart := false }
def ChainFormsSaid : Prop := chainFormsRow.holds Try.pinned (OpenSpec.ofChange chainFormsSpec)

/-- ITS FALSE NEIGHBOUR: 'it returns false'. Refute it at one input. -/
def chainFormsWrong : ChangeSpec := { name := "chainForms", fn := fun _ => fun
  | [] => { results := [.lit (.bool false)], args := [] }
  | _ => none }
def ChainFormsWrongFalsely : Prop := chainFormsRow.holds Try.pinned (OpenSpec.ofChange chainFormsWrong)

/-- 'diwanlaw15.ChainPast': WHATEVER THE INPUT: true; the input reads as it did. -/
def chainPastSpec : ChangeSpec := { name := "chainPast", fn := fun _ => fun
  | [d1, d2, d3, d4] => { results := [.lit (.bool true)], args := [d1, d2, d3, d4] }
  | _ => none }
def chainPastRow : OpenClaim := { program := "ythaaadjgjpjjpaa", sum := "59d383b1c8344bdb34bf52aa2ac615298fafb637d71dd80d3558b979ed16362d", func := "diwan/diwanlaw15.ChainPast", spec := "chainPast", unfollowed := true, recurses := true, apart := false }
def ChainPastSaid : Prop := chainPastRow.holds Try.pinned (OpenSpec.ofChange chainPastSpec)

/-- ITS FALSE NEIGHBOUR: 'it returns false'. Refute it at one input. -/
def chainPastWrong : ChangeSpec := { name := "chainPast", fn := fun _ => fun
  | [d1, d2, d3, d4] => { results := [.lit (.bool false)], args := [d1, d2, d3, d4] }
  | _ => none }
def ChainPastWrongFalsely : Prop := chainPastRow.holds Try.pinned (OpenSpec.ofChange chainPastWrong)

/- THE SECOND FORM. 'bulk': how many values and letters a reading holds, each counted each time it is reached (what is shared counts as often as it is met; a slice's spare places count too). A statement '..UptoSaid' is the law's where the arguments, and the package variables that the reading takes, are together of bulk at most 1048576: NARROWER than '..Said'. Prove '..Said' where nothing that the law and all that it calls make is longer than what came in: it says more and counts as full. Else prove '..UptoSaid'. A law counts once. -/
mutual
def uptoBulk {H : Type} : DataW H → Nat
  | .lit (.string bytes) => bytes.length + 1
  | .lit _ => 1
  | .nil => 1
  | .ptr d => uptoBulk d + 1
  | .slice elems spare => uptoBulkAll elems + uptoBulkAll spare + 1
  | .agg parts => uptoBulkAll parts + 1
  | .iface _ d => uptoBulk d + 1
  | .map entries => uptoBulkEntries entries + 1
  | .held _ => 1
def uptoBulkAll {H : Type} : List (DataW H) → Nat
  | [] => 0
  | d :: r => uptoBulk d + uptoBulkAll r
def uptoBulkEntries {H : Type} : List (Lit × DataW H) → Nat
  | [] => 0
  | x :: r => uptoBulkEntry x + uptoBulkEntries r
def uptoBulkEntry {H : Type} : Lit × DataW H → Nat
  | (.string bytes, d) => bytes.length + uptoBulk d + 1
  | (_, d) => uptoBulk d + 1
 end
def uptoSmall : (H : Type) → List (DataW H) → Bool := fun _ ds => decide (uptoBulkAll ds ≤ 1048576)
def OpenSpec.upto (s : _root_.Go.ChangeSpec) : _root_.Go.OpenSpec := { _root_.Go.OpenSpec.ofChange s with cond := some uptoSmall }

/-- 'diwanlaw15.ChainAll', WHERE WHAT IT READS IS OF BULK AT MOST 1048576: true; the input reads as it did. -/
def chainAllUptoRow : OpenClaim := { program := "ythaaadjgjpjjpaa", sum := "59d383b1c8344bdb34bf52aa2ac615298fafb637d71dd80d3558b979ed16362d", func := "diwan/diwanlaw15.ChainAll", spec := "chainAll", unfollowed := true, recurses := true, apart := false, narrowed := true }
def ChainAllUptoSaid : Prop := chainAllUptoRow.holds Try.pinned (OpenSpec.upto chainAllSpec)

/-- 'diwanlaw15.ChainTrim', WHERE WHAT IT READS IS OF BULK AT MOST 1048576: true; the input reads as it did. -/
def chainTrimUptoRow : OpenClaim := { program := "ythaaadjgjpjjpaa", sum := "59d383b1c8344bdb34bf52aa2ac615298fafb637d71dd80d3558b979ed16362d", func := "diwan/diwanlaw15.ChainTrim", spec := "chainTrim", unfollowed := true, recurses := true, apart := false, narrowed := true }
def ChainTrimUptoSaid : Prop := chainTrimUptoRow.holds Try.pinned (OpenSpec.upto chainTrimSpec)

/-- 'diwanlaw15.ChainForms', WHERE WHAT IT READS IS OF BULK AT MOST 1048576: true; the input reads as it did. -/
def chainFormsUptoRow : OpenClaim := { program := "ythaaadjgjpjjpaa", sum := "59d383b1c8344bdb34bf52aa2ac615298fafb637d71dd80d3558b979ed16362d", func := "diwan/diwanlaw15.ChainForms", spec := "chainForms", unfollowed := true, recurses := true, apart := false, narrowed := true }
def ChainFormsUptoSaid : Prop := chainFormsUptoRow.holds Try.pinned (OpenSpec.upto chainFormsSpec)

/-- 'diwanlaw15.ChainPast', WHERE WHAT IT READS IS OF BULK AT MOST 1048576: true; the input reads as it did. -/
def chainPastUptoRow : OpenClaim := { program := "ythaaadjgjpjjpaa", sum := "59d383b1c8344bdb34bf52aa2ac615298fafb637d71dd80d3558b979ed16362d", func := "diwan/diwanlaw15.ChainPast", spec := "chainPast", unfollowed := true, recurses := true, apart := false, narrowed := true }
def ChainPastUptoSaid : Prop := chainPastUptoRow.holds Try.pinned (OpenSpec.upto chainPastSpec)

end Rows
end Go.Proofs.Ythaaadjgjpjjpaa
