/- MergeForms: the law is true at every input: what was told of its code, and the plain law, joined. No condition is laid. -/
import Derived.Test.YtepaajbkmkclnaaRows
import Derived.Test.YtepaajbkmkclnaaVam2
import Derived.Test.YtepaajbkmkclnaaToldMergeForms
import Derived.Test.YtepaajbkmkclnaaPureMergeForms
import Derived.WalkKit
import Derived.ProofKit
import Derived.OpenShut
import Derived.ShutString
import Derived.ChangeOld
import Derived.Below
import Derived.Carry
import Derived.SizedLaws
namespace Go.Proofs.Ytepaajbkmkclnaa.mergeForms
open Go Go.Proofs.Ytepaajbkmkclnaa.Vam Go.Proofs.Ytepaajbkmkclnaa.Told
open Go.ChangeShapes Go.WideShapes Go.ChangeAt Go.RowKit
open Go.ChangeMaps (open_string shut_string)
set_option linter.unusedVariables false
theorem own : ownKnob Try.prog.godebug = none := by kernel_rfl
theorem laidOut : laidOutB Try.prog = true := by kernel_rfl
set_option maxRecDepth 100000 in
theorem lifted (os : Os) (started : os.Started) (H : Type) (enc : TypeId × Value → H) :
    ReturnsInHanded {} Try.checked os 5 .any (Rows.mergeFormsSpec.pre6 enc Try.prog Try.f5 Rows.mergeFormsRow.domain false) (Rows.mergeFormsSpec.post enc Try.prog Try.f5 false true false false) := by
  refine returnsInHanded_of_change_sized (C := Try.checked) own started (by kernel_rfl) Try.func5
    (ChangeSpec.witness6 (enc := enc) (C := Try.checked) false ⟨#[], #[], []⟩ 8 (by kernel_rfl) (by kernel_rfl) (by kernel_rfl) (by kernel_rfl)) ?_
  intro W base args ds gs before hval0 hW hcnd hsz0 _
  have hW' := hW
  obtain ⟨p, q, hA0, hV, rfl, hfz, hnd⟩ := hW
  have hA : DataW.TrodAll enc Try.prog W 0 (fun _ => true) true Try.f5.params.toList args.toList ds p := hA0
  rw [Try.params5] at hA
  obtain ⟨hargs, rfl, rfl⟩ := trodAll_nil hA
  obtain rfl : args = #[] := by cases args; simp_all
  obtain ⟨rfl, rfl⟩ := trodVars_none hV
  refine (law_calls (w := W) (f := 5) (ds := []) (b := true) (vs := []) (diwanlaw14_MergeForms.meets 1000 true PureMergeForms.holds) (fun _ _ => Nat.zero_le _) .nil).mono fun e W' ⟨he, bel⟩ => ?_
  subst he
  exact ⟨_, rfl, _, _, _, [], _, [], hW', trodAll_mk1 (shut_bool Try.underlying4 _), trodAll_mk0, rfl, bel.frame _, fun h => by cases h⟩
theorem over : Rows.mergeFormsRow.holds Try.pinned (OpenSpec.ofChange Rows.mergeFormsSpec) :=
  OpenClaim.holds_of_wide 5 Try.f5 rfl rfl rfl rfl rfl rfl rfl ⟨rfl, rfl, rfl, rfl, rfl⟩ rfl rfl rfl rfl rfl (by kernel_rfl) Try.func5 (by kernel_rfl)
    (of_decide_eq_true (by kernel_rfl)) (by unfold Func.isWrapper; first | (rw [if_pos (by decide +kernel)]; kernel_rfl) | (rw [if_neg (by decide +kernel)]; exact ⟨rfl, rfl⟩))
    (fun os started H enc _ => lifted os started H enc)
theorem proved : Rows.MergeFormsSaid := over
#print axioms proved
end Go.Proofs.Ytepaajbkmkclnaa.mergeForms
namespace Go.Proofs.Ytepaajbkmkclnaa
/-- The row, under a short name, for the claim. -/
theorem mergeForms_holds : Rows.MergeFormsSaid := mergeForms.proved
end Go.Proofs.Ytepaajbkmkclnaa
