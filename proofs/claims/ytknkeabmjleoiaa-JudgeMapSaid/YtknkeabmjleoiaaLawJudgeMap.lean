/- JudgeMap: the law is true at every input: what was told of its code, and the plain law, joined. No condition is laid. -/
import Derived.Test.YtknkeabmjleoiaaRows
import Derived.Test.YtknkeabmjleoiaaVam2
import Derived.Test.YtknkeabmjleoiaaToldJudgeMap
import Derived.Test.YtknkeabmjleoiaaFitJudgeMap
import Derived.Test.YtknkeabmjleoiaaPureJudgeMap
import Derived.WalkKit
import Derived.ProofKit
import Derived.OpenShut
import Derived.ShutString
import Derived.ChangeOld
import Derived.Below
import Derived.Carry
import Derived.SizedLaws
namespace Go.Proofs.Ytknkeabmjleoiaa.judgeMap
open Go Go.Proofs.Ytknkeabmjleoiaa.Vam Go.Proofs.Ytknkeabmjleoiaa.Told
open Go.ChangeShapes Go.WideShapes Go.ChangeAt Go.RowKit
open Go.ChangeMaps (open_string shut_string)
set_option linter.unusedVariables false
theorem own : ownKnob Try.prog.godebug = none := by kernel_rfl
theorem laidOut : laidOutB Try.prog = true := by kernel_rfl
set_option maxRecDepth 100000 in
theorem lifted (os : Os) (started : os.Started) (H : Type) (enc : TypeId × Value → H) :
    ReturnsInHanded {} Try.checked os 5 .any (Rows.judgeMapSpec.pre6 enc Try.prog Try.f5 Rows.judgeMapRow.domain false) (Rows.judgeMapSpec.post enc Try.prog Try.f5 false true false false) := by
  refine returnsInHanded_of_change_sized (C := Try.checked) own started (by kernel_rfl) Try.func5
    (ChangeSpec.witness6 (enc := enc) (C := Try.checked) false ⟨#[], #[.slice none 0 0], []⟩ 8 (by kernel_rfl) (by kernel_rfl) (by kernel_rfl) (by kernel_rfl)) ?_
  intro W base args ds gs before hval0 hW hcnd hsz0 _
  have hW' := hW
  obtain ⟨p, q, hA0, hV, rfl, hfz, hnd⟩ := hW
  have hA : DataW.TrodAll enc Try.prog W 0 (fun _ => true) true Try.f5.params.toList args.toList ds p := hA0
  have hval : ∀ (j : Nat) t v, Try.f5.params[j]? = some t → args[j]? = some v → Value.okWide Try.prog W .any base t v := hval0
  rw [Try.params5] at hA hval
  obtain ⟨v0, vs0, d0, ds0, p0, q0, hargs, rfl, rfl, h0, r0⟩ := trodAll_cons hA
  obtain ⟨rfl, rfl, rfl⟩ := trodAll_nil r0
  obtain rfl : args = #[v0] := by cases args; simp_all
  obtain ⟨rfl, rfl⟩ := trodVars_none hV
  have l0 : ∀ x ∈ p0, x.block < W.heap.size := by obtain ⟨m, hm⟩ := h0; exact DataW.trod_lt m _ _ _ hm
  obtain ⟨x0, u0, f0⟩ := open_cell (P := Try.prog) (m := 12) (q := .tl [.ti .u8]) (by kernel_rfl) (by kernel_rfl) (hval 0 22 v0 rfl rfl) h0
  obtain ⟨a0, e0, k0⟩ : ∃ a : (List Int), x0 = .slc false none 1 (List.map e_u8 a) ∧ (okL (okI .u8)) a := (fit_l rfl (fun _ h => fitL_one (fun _ h => fit_i h) h)) f0
  subst e0
  obtain ⟨fu, hp⟩ := PureJudgeMap.holds a0 k0
  refine (law_calls (w := W) (f := 5) (ds := [.slc false none 1 (List.map e_u8 a0)]) (b := true) (vs := [v0]) (diwanlaw18_JudgeMap.meets fu a0 true hp) (fun fn hf => by cases (Try.func5.symm.trans hf); exact of_decide_eq_true (by kernel_rfl)) (.cons u0 .nil)).mono fun e W' ⟨he, bel⟩ => ?_
  subst he
  exact ⟨_, rfl, _, _, _, [], _, [], hW', trodAll_mk1 (shut_bool Try.underlying4 _), (trodAll_cons_mk (Below.trod laidOut (by kernel_rfl) (of_decide_eq_true (by kernel_rfl)) h0 bel l0) trodAll_mk0), rfl, bel.frame _, fun h => by cases h⟩
theorem over : Rows.judgeMapRow.holds Try.pinned (OpenSpec.ofChange Rows.judgeMapSpec) :=
  OpenClaim.holds_of_wide 5 Try.f5 rfl rfl rfl rfl rfl rfl rfl ⟨rfl, rfl, rfl, rfl, rfl⟩ rfl rfl rfl rfl rfl (by kernel_rfl) Try.func5 (by kernel_rfl)
    (of_decide_eq_true (by kernel_rfl)) (by unfold Func.isWrapper; first | (rw [if_pos (by decide +kernel)]; kernel_rfl) | (rw [if_neg (by decide +kernel)]; exact ⟨rfl, rfl⟩))
    (fun os started H enc _ => lifted os started H enc)
theorem proved : Rows.JudgeMapSaid := over
#print axioms proved
end Go.Proofs.Ytknkeabmjleoiaa.judgeMap
namespace Go.Proofs.Ytknkeabmjleoiaa
/-- The row, under a short name, for the claim. -/
theorem judgeMap_holds : Rows.JudgeMapSaid := judgeMap.proved
end Go.Proofs.Ytknkeabmjleoiaa
