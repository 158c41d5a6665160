/-
  No cell of these rows narrows 'for every input' (looked for: loops, veiled, ifaces, maps, wideKeys, modest, calm, conditions, laid).
  DERIVED. THE GIVEN ROWS OF THIS SEAT. 5 by the template 'for every input the law returns true; each argument reads behind the call as it read before'; 0 by the template 'total and deterministic' (their statements: YtipeiombaempoaaTotals.lean).
  GIVEN WITH THE SEED: the statements are not yours to turn. If you find one false, say at which input.
  Laid BY PROGRAM, IN A SANDBOX (cutbox-rows.mjs): the forced cells as the released guide's own fill.sh prints them over the translation 596a07616b963783… (all of the seat's roots in one cut). By AI agents, Wed Nov 11 2026. No macro, syntax, notation, axiom, sorry.
-/
import Derived.Test.YtipeiombaempoaaChecked
import GoSem.Claim
import GoSem.ClaimJoined
import GoSem.ClaimMapViews
import Derived.JoinedTies
import Derived.KernelRfl
namespace Go.Proofs.Ytipeiombaempoaa
/- THE CELL 'sum', in the pinned program and in every row, IS THE sha256 OF THE DUMP (.gsa) THAT YtipeiombaempoaaProg.lean LOADS. Nothing in Lean hashes anything: it is a label: what it is worth is what the hold of that sum in a sandbox is worth. -/
noncomputable def Try.pinned : Pinned := { name := "ytipeiombaempoaa", sum := "596a07616b9637837b134df10109aa78adad97fcf4933cd64f461a07dddadd4d", checked := Try.checked }
namespace Rows
def none {H : Type} : Left H := { results := [], args := [] }

/-- 'diwanlaw9.UlogAll': WHATEVER THE INPUT: true; the input reads as it did. -/
def ulogAllSpec : ChangeSpec := { name := "ulogAll", fn := fun _ => fun
  | [d1, d2, d3, d4] => { results := [.lit (.bool true)], args := [d1, d2, d3, d4] }
  | _ => none }
def ulogAllRow : OpenClaim := { program := "ytipeiombaempoaa", sum := "596a07616b9637837b134df10109aa78adad97fcf4933cd64f461a07dddadd4d", func := "diwan/diwanlaw9.UlogAll", spec := "ulogAll", unfollowed := true, recurses := true, apart := false }
def UlogAllSaid : Prop := ulogAllRow.holds Try.pinned (OpenSpec.ofChange ulogAllSpec)

/-- ITS FALSE NEIGHBOUR: 'it returns false'. Refute it at one input. -/
def ulogAllWrong : ChangeSpec := { name := "ulogAll", fn := fun _ => fun
  | [d1, d2, d3, d4] => { results := [.lit (.bool false)], args := [d1, d2, d3, d4] }
  | _ => none }
def UlogAllWrongFalsely : Prop := ulogAllRow.holds Try.pinned (OpenSpec.ofChange ulogAllWrong)

/-- 'diwanlaw9.UlogJoin': WHATEVER THE INPUT: true; the input reads as it did. -/
def ulogJoinSpec : ChangeSpec := { name := "ulogJoin", fn := fun _ => fun
  | [d1, d2, d3, d4] => { results := [.lit (.bool true)], args := [d1, d2, d3, d4] }
  | _ => none }
def ulogJoinRow : OpenClaim := { program := "ytipeiombaempoaa", sum := "596a07616b9637837b134df10109aa78adad97fcf4933cd64f461a07dddadd4d", func := "diwan/diwanlaw9.UlogJoin", spec := "ulogJoin", unfollowed := true, recurses := true, apart := false }
def UlogJoinSaid : Prop := ulogJoinRow.holds Try.pinned (OpenSpec.ofChange ulogJoinSpec)

/-- ITS FALSE NEIGHBOUR: 'it returns false'. Refute it at one input. -/
def ulogJoinWrong : ChangeSpec := { name := "ulogJoin", fn := fun _ => fun
  | [d1, d2, d3, d4] => { results := [.lit (.bool false)], args := [d1, d2, d3, d4] }
  | _ => none }
def UlogJoinWrongFalsely : Prop := ulogJoinRow.holds Try.pinned (OpenSpec.ofChange ulogJoinWrong)

/-- 'diwanlaw9.UlogNewer': WHATEVER THE INPUT: true; the input reads as it did. -/
def ulogNewerSpec : ChangeSpec := { name := "ulogNewer", fn := fun _ => fun
  | [d1, d2, d3, d4] => { results := [.lit (.bool true)], args := [d1, d2, d3, d4] }
  | _ => none }
def ulogNewerRow : OpenClaim := { program := "ytipeiombaempoaa", sum := "596a07616b9637837b134df10109aa78adad97fcf4933cd64f461a07dddadd4d", func := "diwan/diwanlaw9.UlogNewer", spec := "ulogNewer", unfollowed := true, recurses := true, apart := false }
def UlogNewerSaid : Prop := ulogNewerRow.holds Try.pinned (OpenSpec.ofChange ulogNewerSpec)

/-- ITS FALSE NEIGHBOUR: 'it returns false'. Refute it at one input. -/
def ulogNewerWrong : ChangeSpec := { name := "ulogNewer", fn := fun _ => fun
  | [d1, d2, d3, d4] => { results := [.lit (.bool false)], args := [d1, d2, d3, d4] }
  | _ => none }
def UlogNewerWrongFalsely : Prop := ulogNewerRow.holds Try.pinned (OpenSpec.ofChange ulogNewerWrong)

/-- 'diwanlaw9.UlogForms': WHATEVER THE INPUT: true; the input reads as it did. -/
def ulogFormsSpec : ChangeSpec := { name := "ulogForms", fn := fun _ => fun
  | [] => { results := [.lit (.bool true)], args := [] }
  | _ => none }
def ulogFormsRow : OpenClaim := { program := "ytipeiombaempoaa", sum := "596a07616b9637837b134df10109aa78adad97fcf4933cd64f461a07dddadd4d", func := "diwan/diwanlaw9.UlogForms", spec := "ulogForms", unfollowed := true, recurses := true, apart := false }
def UlogFormsSaid : Prop := ulogFormsRow.holds Try.pinned (OpenSpec.ofChange ulogFormsSpec)

/-- ITS FALSE NEIGHBOUR: 'it returns false'. Refute it at one input. -/
def ulogFormsWrong : ChangeSpec := { name := "ulogForms", fn := fun _ => fun
  | [] => { results := [.lit (.bool false)], args := [] }
  | _ => none }
def UlogFormsWrongFalsely : Prop := ulogFormsRow.holds Try.pinned (OpenSpec.ofChange ulogFormsWrong)

/-- 'diwanlaw9.UlogHas': WHATEVER THE INPUT: true; the input reads as it did. -/
def ulogHasSpec : ChangeSpec := { name := "ulogHas", fn := fun _ => fun
  | [d1, d2, d3] => { results := [.lit (.bool true)], args := [d1, d2, d3] }
  | _ => none }
def ulogHasRow : OpenClaim := { program := "ytipeiombaempoaa", sum := "596a07616b9637837b134df10109aa78adad97fcf4933cd64f461a07dddadd4d", func := "diwan/diwanlaw9.UlogHas", spec := "ulogHas", unfollowed := true, recurses := true, apart := false }
def UlogHasSaid : Prop := ulogHasRow.holds Try.pinned (OpenSpec.ofChange ulogHasSpec)

/-- ITS FALSE NEIGHBOUR: 'it returns false'. Refute it at one input. -/
def ulogHasWrong : ChangeSpec := { name := "ulogHas", fn := fun _ => fun
  | [d1, d2, d3] => { results := [.lit (.bool false)], args := [d1, d2, d3] }
  | _ => none }
def UlogHasWrongFalsely : Prop := ulogHasRow.holds Try.pinned (OpenSpec.ofChange ulogHasWrong)

/- THE SECOND FORM. 'bulk': how many values and letters a reading holds, each counted each time it is reached (what is shared counts as often as it is met; a slice's spare places count too). A statement '..UptoSaid' is the law's where the arguments, and the package variables that the reading takes, are together of bulk at most 1048576: NARROWER than '..Said'. Prove '..Said' where nothing that the law and all that it calls make is longer than what came in: it says more and counts as full. Else prove '..UptoSaid'. A law counts once. -/
mutual
def uptoBulk {H : Type} : DataW H → Nat
  | .lit (.string bytes) => bytes.length + 1
  | .lit _ => 1
  | .nil => 1
  | .ptr d => uptoBulk d + 1
  | .slice elems spare => uptoBulkAll elems + uptoBulkAll spare + 1
  | .agg parts => uptoBulkAll parts + 1
  | .iface _ d => uptoBulk d + 1
  | .map entries => uptoBulkEntries entries + 1
  | .held _ => 1
def uptoBulkAll {H : Type} : List (DataW H) → Nat
  | [] => 0
  | d :: r => uptoBulk d + uptoBulkAll r
def uptoBulkEntries {H : Type} : List (Lit × DataW H) → Nat
  | [] => 0
  | x :: r => uptoBulkEntry x + uptoBulkEntries r
def uptoBulkEntry {H : Type} : Lit × DataW H → Nat
  | (.string bytes, d) => bytes.length + uptoBulk d + 1
  | (_, d) => uptoBulk d + 1
 end
def uptoSmall : (H : Type) → List (DataW H) → Bool := fun _ ds => decide (uptoBulkAll ds ≤ 1048576)
def OpenSpec.upto (s : _root_.Go.ChangeSpec) : _root_.Go.OpenSpec := { _root_.Go.OpenSpec.ofChange s with cond := some uptoSmall }

/-- 'diwanlaw9.UlogAll', WHERE WHAT IT READS IS OF BULK AT MOST 1048576: true; the input reads as it did. -/
def ulogAllUptoRow : OpenClaim := { program := "ytipeiombaempoaa", sum := "596a07616b9637837b134df10109aa78adad97fcf4933cd64f461a07dddadd4d", func := "diwan/diwanlaw9.UlogAll", spec := "ulogAll", unfollowed := true, recurses := true, apart := false, narrowed := true }
def UlogAllUptoSaid : Prop := ulogAllUptoRow.holds Try.pinned (OpenSpec.upto ulogAllSpec)

/-- 'diwanlaw9.UlogJoin', WHERE WHAT IT READS IS OF BULK AT MOST 1048576: true; the input reads as it did. -/
def ulogJoinUptoRow : OpenClaim := { program := "ytipeiombaempoaa", sum := "596a07616b9637837b134df10109aa78adad97fcf4933cd64f461a07dddadd4d", func := "diwan/diwanlaw9.UlogJoin", spec := "ulogJoin", unfollowed := true, recurses := true, apart := false, narrowed := true }
def UlogJoinUptoSaid : Prop := ulogJoinUptoRow.holds Try.pinned (OpenSpec.upto ulogJoinSpec)

/-- 'diwanlaw9.UlogNewer', WHERE WHAT IT READS IS OF BULK AT MOST 1048576: true; the input reads as it did. -/
def ulogNewerUptoRow : OpenClaim := { program := "ytipeiombaempoaa", sum := "596a07616b9637837b134df10109aa78adad97fcf4933cd64f461a07dddadd4d", func := "diwan/diwanlaw9.UlogNewer", spec := "ulogNewer", unfollowed := true, recurses := true, apart := false, narrowed := true }
def UlogNewerUptoSaid : Prop := ulogNewerUptoRow.holds Try.pinned (OpenSpec.upto ulogNewerSpec)

/-- 'diwanlaw9.UlogForms', WHERE WHAT IT READS IS OF BULK AT MOST 1048576: true; the input reads as it did. -/
def ulogFormsUptoRow : OpenClaim := { program := "ytipeiombaempoaa", sum := "596a07616b9637837b134df10109aa78adad97fcf4933cd64f461a07dddadd4d", func := "diwan/diwanlaw9.UlogForms", spec := "ulogForms", unfollowed := true, recurses := true, apart := false, narrowed := true }
def UlogFormsUptoSaid : Prop := ulogFormsUptoRow.holds Try.pinned (OpenSpec.upto ulogFormsSpec)

/-- 'diwanlaw9.UlogHas', WHERE WHAT IT READS IS OF BULK AT MOST 1048576: true; the input reads as it did. -/
def ulogHasUptoRow : OpenClaim := { program := "ytipeiombaempoaa", sum := "596a07616b9637837b134df10109aa78adad97fcf4933cd64f461a07dddadd4d", func := "diwan/diwanlaw9.UlogHas", spec := "ulogHas", unfollowed := true, recurses := true, apart := false, narrowed := true }
def UlogHasUptoSaid : Prop := ulogHasUptoRow.holds Try.pinned (OpenSpec.upto ulogHasSpec)

end Rows
end Go.Proofs.Ytipeiombaempoaa
