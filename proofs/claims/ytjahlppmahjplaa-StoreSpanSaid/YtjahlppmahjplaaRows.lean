/-
  No cell of these rows narrows 'for every input' (looked for: loops, veiled, ifaces, maps, wideKeys, modest, calm, conditions, laid).
  DERIVED. THE GIVEN ROWS OF THIS SEAT. 5 by the template 'for every input the law returns true; each argument reads behind the call as it read before'; 0 by the template 'total and deterministic' (their statements: YtjahlppmahjplaaTotals.lean).
  GIVEN WITH THE SEED: the statements are not yours to turn. If you find one false, say at which input.
  Laid BY PROGRAM, IN A SANDBOX (cutbox-rows.mjs): the forced cells as the released guide's own fill.sh prints them over the translation bfa5cbf5c41fdcc7… (all of the seat's roots in one cut). By AI agents, Wed Nov 11 2026. No macro, syntax, notation, axiom, sorry.
-/
import Derived.Test.YtjahlppmahjplaaChecked
import GoSem.Claim
import GoSem.ClaimJoined
import GoSem.ClaimMapViews
import Derived.JoinedTies
import Derived.KernelRfl
namespace Go.Proofs.Ytjahlppmahjplaa
/- THE CELL 'sum', in the pinned program and in every row, IS THE sha256 OF THE DUMP (.gsa) THAT YtjahlppmahjplaaProg.lean LOADS. Nothing in Lean hashes anything: it is a label: what it is worth is what the hold of that sum in a sandbox is worth. -/
noncomputable def Try.pinned : Pinned := { name := "ytjahlppmahjplaa", sum := "bfa5cbf5c41fdcc7486a5df662f26b2129e00f726efafab1bbc997b0f5ab5184", checked := Try.checked }
namespace Rows
def none {H : Type} : Left H := { results := [], args := [] }

/-- 'diwanlaw16.StoreAll': WHATEVER THE INPUT: true; the input reads as it did. -/
def storeAllSpec : ChangeSpec := { name := "storeAll", fn := fun _ => fun
  | [d1, d2, d3, d4, d5, d6, d7] => { results := [.lit (.bool true)], args := [d1, d2, d3, d4, d5, d6, d7] }
  | _ => none }
def storeAllRow : OpenClaim := { program := "ytjahlppmahjplaa", sum := "bfa5cbf5c41fdcc7486a5df662f26b2129e00f726efafab1bbc997b0f5ab5184", func := "diwan/diwanlaw16.StoreAll", spec := "storeAll", inPlace := ["slices.overlaps[diwan/api.Chain]"], unfollowed := true, recurses := true, apart := false }
def StoreAllSaid : Prop := storeAllRow.holds Try.pinned (OpenSpec.ofChange storeAllSpec)

/-- ITS FALSE NEIGHBOUR: 'it returns false'. Refute it at one input. -/
def storeAllWrong : ChangeSpec := { name := "storeAll", fn := fun _ => fun
  | [d1, d2, d3, d4, d5, d6, d7] => { results := [.lit (.bool false)], args := [d1, d2, d3, d4, d5, d6, d7] }
  | _ => none }
def StoreAllWrongFalsely : Prop := storeAllRow.holds Try.pinned (OpenSpec.ofChange storeAllWrong)

/-- 'diwanlaw16.StoreMay': WHATEVER THE INPUT: true; the input reads as it did. -/
def storeMaySpec : ChangeSpec := { name := "storeMay", fn := fun _ => fun
  | [d1, d2, d3, d4, d5] => { results := [.lit (.bool true)], args := [d1, d2, d3, d4, d5] }
  | _ => none }
def storeMayRow : OpenClaim := { program := "ytjahlppmahjplaa", sum := "bfa5cbf5c41fdcc7486a5df662f26b2129e00f726efafab1bbc997b0f5ab5184", func := "diwan/diwanlaw16.StoreMay", spec := "storeMay", inPlace := ["slices.overlaps[diwan/api.Chain]"], unfollowed := true, recurses := true, apart := false }
def StoreMaySaid : Prop := storeMayRow.holds Try.pinned (OpenSpec.ofChange storeMaySpec)

/-- ITS FALSE NEIGHBOUR: 'it returns false'. Refute it at one input. -/
def storeMayWrong : ChangeSpec := { name := "storeMay", fn := fun _ => fun
  | [d1, d2, d3, d4, d5] => { results := [.lit (.bool false)], args := [d1, d2, d3, d4, d5] }
  | _ => none }
def StoreMayWrongFalsely : Prop := storeMayRow.holds Try.pinned (OpenSpec.ofChange storeMayWrong)

/-- 'diwanlaw16.StorePast': WHATEVER THE INPUT: true; the input reads as it did. -/
def storePastSpec : ChangeSpec := { name := "storePast", fn := fun _ => fun
  | [d1, d2, d3, d4] => { results := [.lit (.bool true)], args := [d1, d2, d3, d4] }
  | _ => none }
def storePastRow : OpenClaim := { program := "ytjahlppmahjplaa", sum := "bfa5cbf5c41fdcc7486a5df662f26b2129e00f726efafab1bbc997b0f5ab5184", func := "diwan/diwanlaw16.StorePast", spec := "storePast", inPlace := ["slices.overlaps[diwan/api.Chain]"], unfollowed := true, recurses := true, apart := false }
def StorePastSaid : Prop := storePastRow.holds Try.pinned (OpenSpec.ofChange storePastSpec)

/-- ITS FALSE NEIGHBOUR: 'it returns false'. Refute it at one input. -/
def storePastWrong : ChangeSpec := { name := "storePast", fn := fun _ => fun
  | [d1, d2, d3, d4] => { results := [.lit (.bool false)], args := [d1, d2, d3, d4] }
  | _ => none }
def StorePastWrongFalsely : Prop := storePastRow.holds Try.pinned (OpenSpec.ofChange storePastWrong)

/-- 'diwanlaw16.StoreSpan': WHATEVER THE INPUT: true; the input reads as it did. -/
def storeSpanSpec : ChangeSpec := { name := "storeSpan", fn := fun _ => fun
  | [d1, d2, d3, d4] => { results := [.lit (.bool true)], args := [d1, d2, d3, d4] }
  | _ => none }
def storeSpanRow : OpenClaim := { program := "ytjahlppmahjplaa", sum := "bfa5cbf5c41fdcc7486a5df662f26b2129e00f726efafab1bbc997b0f5ab5184", func := "diwan/diwanlaw16.StoreSpan", spec := "storeSpan", inPlace := ["slices.overlaps[diwan/api.Chain]"], unfollowed := true, recurses := true, apart := false }
def StoreSpanSaid : Prop := storeSpanRow.holds Try.pinned (OpenSpec.ofChange storeSpanSpec)

/-- ITS FALSE NEIGHBOUR: 'it returns false'. Refute it at one input. -/
def storeSpanWrong : ChangeSpec := { name := "storeSpan", fn := fun _ => fun
  | [d1, d2, d3, d4] => { results := [.lit (.bool false)], args := [d1, d2, d3, d4] }
  | _ => none }
def StoreSpanWrongFalsely : Prop := storeSpanRow.holds Try.pinned (OpenSpec.ofChange storeSpanWrong)

/-- 'diwanlaw16.StoreTwice': WHATEVER THE INPUT: true; the input reads as it did. -/
def storeTwiceSpec : ChangeSpec := { name := "storeTwice", fn := fun _ => fun
  | [d1, d2, d3] => { results := [.lit (.bool true)], args := [d1, d2, d3] }
  | _ => none }
def storeTwiceRow : OpenClaim := { program := "ytjahlppmahjplaa", sum := "bfa5cbf5c41fdcc7486a5df662f26b2129e00f726efafab1bbc997b0f5ab5184", func := "diwan/diwanlaw16.StoreTwice", spec := "storeTwice", inPlace := ["slices.overlaps[diwan/api.Chain]"], unfollowed := true, recurses := true, apart := false }
def StoreTwiceSaid : Prop := storeTwiceRow.holds Try.pinned (OpenSpec.ofChange storeTwiceSpec)

/-- ITS FALSE NEIGHBOUR: 'it returns false'. Refute it at one input. -/
def storeTwiceWrong : ChangeSpec := { name := "storeTwice", fn := fun _ => fun
  | [d1, d2, d3] => { results := [.lit (.bool false)], args := [d1, d2, d3] }
  | _ => none }
def StoreTwiceWrongFalsely : Prop := storeTwiceRow.holds Try.pinned (OpenSpec.ofChange storeTwiceWrong)

/- THE SECOND FORM. 'bulk': how many values and letters a reading holds, each counted each time it is reached (what is shared counts as often as it is met; a slice's spare places count too). A statement '..UptoSaid' is the law's where the arguments, and the package variables that the reading takes, are together of bulk at most 1048576: NARROWER than '..Said'. Prove '..Said' where nothing that the law and all that it calls make is longer than what came in: it says more and counts as full. Else prove '..UptoSaid'. A law counts once. -/
mutual
def uptoBulk {H : Type} : DataW H → Nat
  | .lit (.string bytes) => bytes.length + 1
  | .lit _ => 1
  | .nil => 1
  | .ptr d => uptoBulk d + 1
  | .slice elems spare => uptoBulkAll elems + uptoBulkAll spare + 1
  | .agg parts => uptoBulkAll parts + 1
  | .iface _ d => uptoBulk d + 1
  | .map entries => uptoBulkEntries entries + 1
  | .held _ => 1
def uptoBulkAll {H : Type} : List (DataW H) → Nat
  | [] => 0
  | d :: r => uptoBulk d + uptoBulkAll r
def uptoBulkEntries {H : Type} : List (Lit × DataW H) → Nat
  | [] => 0
  | x :: r => uptoBulkEntry x + uptoBulkEntries r
def uptoBulkEntry {H : Type} : Lit × DataW H → Nat
  | (.string bytes, d) => bytes.length + uptoBulk d + 1
  | (_, d) => uptoBulk d + 1
 end
def uptoSmall : (H : Type) → List (DataW H) → Bool := fun _ ds => decide (uptoBulkAll ds ≤ 1048576)
def OpenSpec.upto (s : _root_.Go.ChangeSpec) : _root_.Go.OpenSpec := { _root_.Go.OpenSpec.ofChange s with cond := some uptoSmall }

/-- 'diwanlaw16.StoreAll', WHERE WHAT IT READS IS OF BULK AT MOST 1048576: true; the input reads as it did. -/
def storeAllUptoRow : OpenClaim := { program := "ytjahlppmahjplaa", sum := "bfa5cbf5c41fdcc7486a5df662f26b2129e00f726efafab1bbc997b0f5ab5184", func := "diwan/diwanlaw16.StoreAll", spec := "storeAll", inPlace := ["slices.overlaps[diwan/api.Chain]"], unfollowed := true, recurses := true, apart := false, narrowed := true }
def StoreAllUptoSaid : Prop := storeAllUptoRow.holds Try.pinned (OpenSpec.upto storeAllSpec)

/-- 'diwanlaw16.StoreMay', WHERE WHAT IT READS IS OF BULK AT MOST 1048576: true; the input reads as it did. -/
def storeMayUptoRow : OpenClaim := { program := "ytjahlppmahjplaa", sum := "bfa5cbf5c41fdcc7486a5df662f26b2129e00f726efafab1bbc997b0f5ab5184", func := "diwan/diwanlaw16.StoreMay", spec := "storeMay", inPlace := ["slices.overlaps[diwan/api.Chain]"], unfollowed := true, recurses := true, apart := false, narrowed := true }
def StoreMayUptoSaid : Prop := storeMayUptoRow.holds Try.pinned (OpenSpec.upto storeMaySpec)

/-- 'diwanlaw16.StorePast', WHERE WHAT IT READS IS OF BULK AT MOST 1048576: true; the input reads as it did. -/
def storePastUptoRow : OpenClaim := { program := "ytjahlppmahjplaa", sum := "bfa5cbf5c41fdcc7486a5df662f26b2129e00f726efafab1bbc997b0f5ab5184", func := "diwan/diwanlaw16.StorePast", spec := "storePast", inPlace := ["slices.overlaps[diwan/api.Chain]"], unfollowed := true, recurses := true, apart := false, narrowed := true }
def StorePastUptoSaid : Prop := storePastUptoRow.holds Try.pinned (OpenSpec.upto storePastSpec)

/-- 'diwanlaw16.StoreSpan', WHERE WHAT IT READS IS OF BULK AT MOST 1048576: true; the input reads as it did. -/
def storeSpanUptoRow : OpenClaim := { program := "ytjahlppmahjplaa", sum := "bfa5cbf5c41fdcc7486a5df662f26b2129e00f726efafab1bbc997b0f5ab5184", func := "diwan/diwanlaw16.StoreSpan", spec := "storeSpan", inPlace := ["slices.overlaps[diwan/api.Chain]"], unfollowed := true, recurses := true, apart := false, narrowed := true }
def StoreSpanUptoSaid : Prop := storeSpanUptoRow.holds Try.pinned (OpenSpec.upto storeSpanSpec)

/-- 'diwanlaw16.StoreTwice', WHERE WHAT IT READS IS OF BULK AT MOST 1048576: true; the input reads as it did. -/
def storeTwiceUptoRow : OpenClaim := { program := "ytjahlppmahjplaa", sum := "bfa5cbf5c41fdcc7486a5df662f26b2129e00f726efafab1bbc997b0f5ab5184", func := "diwan/diwanlaw16.StoreTwice", spec := "storeTwice", inPlace := ["slices.overlaps[diwan/api.Chain]"], unfollowed := true, recurses := true, apart := false, narrowed := true }
def StoreTwiceUptoSaid : Prop := storeTwiceUptoRow.holds Try.pinned (OpenSpec.upto storeTwiceSpec)

end Rows
end Go.Proofs.Ytjahlppmahjplaa
