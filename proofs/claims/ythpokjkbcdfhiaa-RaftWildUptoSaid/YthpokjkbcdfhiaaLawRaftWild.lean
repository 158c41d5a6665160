/- RaftWild: the law is true at every input of bulk at most 1048576: what was told of its code, and the plain law, joined. The condition: uptoSmall. -/
import Derived.Test.YthpokjkbcdfhiaaRows
import Derived.Test.YthpokjkbcdfhiaaVam2
import Derived.Test.YthpokjkbcdfhiaaToldRaftWild
import Derived.Test.YthpokjkbcdfhiaaFitRaftWild
import Derived.Test.YthpokjkbcdfhiaaPureRaftWild
import Derived.WalkKit
import Derived.ProofKit
import Derived.OpenShut
import Derived.ShutString
import Derived.ChangeOld
import Derived.Below
import Derived.Carry
import Derived.SizedLaws
import Derived.JoinedCond
namespace Go.Proofs.Ythpokjkbcdfhiaa.raftWild
open Go Go.Proofs.Ythpokjkbcdfhiaa.Vam Go.Proofs.Ythpokjkbcdfhiaa.Told
open Go.ChangeShapes Go.WideShapes Go.ChangeAt Go.RowKit
open Go.ChangeMaps (open_string shut_string)
set_option linter.unusedVariables false
theorem own : ownKnob Try.prog.godebug = none := by kernel_rfl
theorem laidOut : laidOutB Try.prog = true := by kernel_rfl
set_option maxRecDepth 100000 in
theorem contract (H : Type) (enc : TypeId × Value → H) (W : World) (base : Nat) (args : Array Value) (ds gs : List (DataW H)) (before : List MemPlace)
    (hval0 : ∀ (j : Nat) t v, Try.f5.params[j]? = some t → args[j]? = some v → Value.okWide Try.prog W .any base t v)
    (hW : DataW.Whole enc Try.prog Try.f5.params.toList Rows.raftWildSpec.vars false W args.toList ds gs before) (hk : Rows.uptoSmall H (ds ++ gs) = true) :
    Calls Try.prog 5 args W fun e W' => ∃ v, e = .returned v ∧ Rows.raftWildSpec.post enc Try.prog Try.f5 false true false false W args v W' := by
  have hW' := hW
  obtain ⟨p, q, hA0, hV, rfl, hfz, hnd⟩ := hW
  have hA : DataW.TrodAll enc Try.prog W 0 (fun _ => true) true Try.f5.params.toList args.toList ds p := hA0
  have hval : ∀ (j : Nat) t v, Try.f5.params[j]? = some t → args[j]? = some v → Value.okWide Try.prog W .any base t v := hval0
  rw [Try.params5] at hA hval
  obtain ⟨v0, vs0, d0, ds0, p0, q0, hargs, rfl, rfl, h0, r0⟩ := trodAll_cons hA
  obtain ⟨v1, vs1, d1, ds1, p1, q1, rfl, rfl, rfl, h1, r1⟩ := trodAll_cons r0
  obtain ⟨rfl, rfl, rfl⟩ := trodAll_nil r1
  obtain rfl : args = #[v0, v1] := by cases args; simp_all
  obtain ⟨rfl, rfl⟩ := trodVars_none hV
  have l0 : ∀ x ∈ p0, x.block < W.heap.size := by obtain ⟨m, hm⟩ := h0; exact DataW.trod_lt m _ _ _ hm
  obtain ⟨x0, u0, f0⟩ := open_cellN (N := 1048576) (P := Try.prog) (m := 12) (q := .tl [.ti .u8]) (by kernel_rfl) (by kernel_rfl) (hval 0 22 v0 rfl rfl) h0 (small hk d0 (by simp))
  obtain ⟨a0, e0, k0⟩ : ∃ a : (List Int), x0 = .slc false none 1 (List.map e_u8 a) ∧ (okLN 1048576 (okI .u8)) a := (fit_l rfl (fun _ h => fitL_one (fun _ h => fit_i h) h)) f0
  subst e0
  have l1 : ∀ x ∈ p1, x.block < W.heap.size := by obtain ⟨m, hm⟩ := h1; exact DataW.trod_lt m _ _ _ hm
  obtain ⟨x1, u1, f1⟩ := open_cellN (N := 1048576) (P := Try.prog) (m := 12) (q := .tl [.ti .i64, .ti .i64, .ti .i64, .ti .i64, .ti .i64, .ti .i64, .ti .i64, .ti .i64, .tb, .tl [.ti .i64, .tb, .ti .i64, .ti .i64, .tl [.ts, .ti .i64, .ts, .tb], .tl [.ts, .ts, .tb]], .ti .i64, .ti .i64, .tl [.ts, .ti .i64, .ts, .tb], .tl [.ts, .ts, .tb], .ti .i64, .ti .i64, .ti .i64, .ti .i64, .tb, .ts, .ts, .tl [.ts], .tl [.ts, .ti .i64, .ts, .tb], .ti .i64]) (by kernel_rfl) (by kernel_rfl) (hval 1 43 v1 rfl rfl) h1 (small hk d1 (by simp))
  obtain ⟨a1, e1, k1⟩ : ∃ a : (List TMsg), x1 = .slc false none 24 (List.map TMsg.en a) ∧ (okLN 1048576 TMsg.ok) a := (fit_l rfl (fun _ h => fit_TMsg h)) f1
  subst e1
  obtain ⟨fu, hp⟩ := PureRaftWild.holds a0 a1 k0 k1
  refine (law_calls (w := W) (f := 5) (ds := [.slc false none 1 (List.map e_u8 a0), .slc false none 24 (List.map TMsg.en a1)]) (b := true) (vs := [v0, v1]) (diwanlaw11_RaftWild.meets fu a0 a1 true hp) (fun fn hf => by cases (Try.func5.symm.trans hf); exact of_decide_eq_true (by kernel_rfl)) (.cons u0 (.cons u1 .nil))).mono fun e W' ⟨he, bel⟩ => ?_
  subst he
  exact ⟨_, rfl, _, _, _, [], _, [], hW', trodAll_mk1 (shut_bool Try.underlying4 _), (trodAll_cons_mk (Below.trod laidOut (by kernel_rfl) (of_decide_eq_true (by kernel_rfl)) h0 bel l0) (trodAll_cons_mk (Below.trod laidOut (by kernel_rfl) (of_decide_eq_true (by kernel_rfl)) h1 bel l1) trodAll_mk0)), rfl, bel.frame _, fun h => by cases h⟩
set_option maxRecDepth 100000 in
theorem lifted (os : Os) (started : os.Started) (H : Type) (enc : TypeId × Value → H) (F : Stop.Interp) :
    ReturnsInHanded {} Try.checked os 5 .any ((Rows.OpenSpec.upto Rows.raftWildSpec).pre6 enc Try.prog Try.f5 Rows.raftWildUptoRow.domain false) (((Rows.OpenSpec.upto Rows.raftWildSpec).at F).post enc Try.prog Try.f5 false true false false) := by
  refine returnsInHanded_of_cond (C := Try.checked) (s := Rows.OpenSpec.upto Rows.raftWildSpec) (k := Rows.uptoSmall) rfl own started (by kernel_rfl) Try.func5
    (OpenSpec.witness (enc := enc) (C := Try.checked) (s := Rows.OpenSpec.upto Rows.raftWildSpec) (k := Rows.uptoSmall) rfl false ⟨#[], #[.slice none 0 0, .slice none 0 0], []⟩ 8 (by kernel_rfl) (by kernel_rfl) (by kernel_rfl)
      (x := ([.nil, .nil], [], [])) (by kernel_rfl) rfl (by kernel_rfl)) ?_
  intro W base args ds gs before hval hW _ hk _
  exact contract H enc W base args ds gs before hval hW hk
theorem over : Rows.raftWildUptoRow.holds Try.pinned (Rows.OpenSpec.upto Rows.raftWildSpec) :=
  OpenClaim.holds_of_cond 5 Try.f5 rfl rfl rfl rfl rfl rfl rfl ⟨rfl, rfl, rfl, rfl, rfl⟩ rfl rfl rfl rfl rfl (by kernel_rfl) Try.func5 (by kernel_rfl)
    (of_decide_eq_true (by kernel_rfl)) (by unfold Func.isWrapper; first | (rw [if_pos (by decide +kernel)]; kernel_rfl) | (rw [if_neg (by decide +kernel)]; exact ⟨rfl, rfl⟩))
    (fun os started H enc _ F => lifted os started H enc F)
theorem proved : Rows.RaftWildUptoSaid := over
#print axioms proved
end Go.Proofs.Ythpokjkbcdfhiaa.raftWild
namespace Go.Proofs.Ythpokjkbcdfhiaa
/-- The row, under a short name, for the claim. -/
theorem raftWildUpto_holds : Rows.RaftWildUptoSaid := raftWild.proved
end Go.Proofs.Ythpokjkbcdfhiaa
