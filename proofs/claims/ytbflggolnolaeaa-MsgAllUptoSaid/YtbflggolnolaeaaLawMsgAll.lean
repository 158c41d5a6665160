/- MsgAll: the law is true at every input of bulk at most 1048576: what was told of its code, and the plain law, joined. The condition: uptoSmall. -/
import Derived.Test.YtbflggolnolaeaaRows
import Derived.Test.YtbflggolnolaeaaVam2
import Derived.Test.YtbflggolnolaeaaToldMsgAll
import Derived.Test.YtbflggolnolaeaaFitMsgAll
import Derived.Test.YtbflggolnolaeaaPureMsgAll
import Derived.WalkKit
import Derived.ProofKit
import Derived.OpenShut
import Derived.ShutString
import Derived.ChangeOld
import Derived.Below
import Derived.Carry
import Derived.SizedLaws
import Derived.JoinedCond
namespace Go.Proofs.Ytbflggolnolaeaa.msgAll
open Go Go.Proofs.Ytbflggolnolaeaa.Vam Go.Proofs.Ytbflggolnolaeaa.Told
open Go.ChangeShapes Go.WideShapes Go.ChangeAt Go.RowKit
open Go.ChangeMaps (open_string shut_string)
set_option linter.unusedVariables false
theorem own : ownKnob Try.prog.godebug = none := by kernel_rfl
theorem laidOut : laidOutB Try.prog = true := by kernel_rfl
set_option maxRecDepth 100000 in
theorem contract (H : Type) (enc : TypeId × Value → H) (W : World) (base : Nat) (args : Array Value) (ds gs : List (DataW H)) (before : List MemPlace)
    (hval0 : ∀ (j : Nat) t v, Try.f3.params[j]? = some t → args[j]? = some v → Value.okWide Try.prog W .any base t v)
    (hW : DataW.Whole enc Try.prog Try.f3.params.toList Rows.msgAllSpec.vars false W args.toList ds gs before) (hk : Rows.uptoSmall H (ds ++ gs) = true) :
    Calls Try.prog 3 args W fun e W' => ∃ v, e = .returned v ∧ Rows.msgAllSpec.post enc Try.prog Try.f3 false true false false W args v W' := by
  have hW' := hW
  obtain ⟨p, q, hA0, hV, rfl, hfz, hnd⟩ := hW
  have hA : DataW.TrodAll enc Try.prog W 0 (fun _ => true) true Try.f3.params.toList args.toList ds p := hA0
  have hval : ∀ (j : Nat) t v, Try.f3.params[j]? = some t → args[j]? = some v → Value.okWide Try.prog W .any base t v := hval0
  rw [Try.params3] at hA hval
  obtain ⟨v0, vs0, d0, ds0, p0, q0, hargs, rfl, rfl, h0, r0⟩ := trodAll_cons hA
  obtain ⟨v1, vs1, d1, ds1, p1, q1, rfl, rfl, rfl, h1, r1⟩ := trodAll_cons r0
  obtain ⟨rfl, rfl, rfl⟩ := trodAll_nil r1
  obtain rfl : args = #[v0, v1] := by cases args; simp_all
  obtain ⟨rfl, rfl⟩ := trodVars_none hV
  have l0 : ∀ x ∈ p0, x.block < W.heap.size := by obtain ⟨m, hm⟩ := h0; exact DataW.trod_lt m _ _ _ hm
  obtain ⟨x0, u0, f0⟩ := open_cellN (N := 1048576) (P := Try.prog) (m := 12) (q := .tl [.ti .u8]) (by kernel_rfl) (by kernel_rfl) (hval 0 22 v0 rfl rfl) h0 (small hk d0 (by simp))
  obtain ⟨a0, e0, k0⟩ : ∃ a : (List Int), x0 = .slc false none 1 (List.map e_u8 a) ∧ (okLN 1048576 (okI .u8)) a := (fit_l rfl (fun _ h => fitL_one (fun _ h => fit_i h) h)) f0
  subst e0
  have l1 : ∀ x ∈ p1, x.block < W.heap.size := by obtain ⟨m, hm⟩ := h1; exact DataW.trod_lt m _ _ _ hm
  obtain ⟨x1, u1, f1⟩ := open_aggN (N := 1048576) (P := Try.prog) (m := 12) (shs := [.ti .i64, .ti .i64, .ti .i64, .ti .i64, .ti .i64, .ti .i64, .ti .i64, .ti .i64, .tb, .tl [.ti .i64, .tb, .ti .i64, .ti .i64, .tl [.ts, .ti .i64, .ts, .tb], .tl [.ts, .ts, .tb]], .ti .i64, .ti .i64, .tl [.ts, .ti .i64, .ts, .tb], .tl [.ts, .ts, .tb], .ti .i64, .ti .i64, .ti .i64, .ti .i64, .tb, .ts, .ts, .tl [.ts], .tl [.ts, .ti .i64, .ts, .tb], .ti .i64]) (by kernel_rfl) (by kernel_rfl) (hval 1 31 v1 rfl rfl) h1 (small hk d1 (by simp))
  obtain ⟨a1, e1, k1⟩ := fit_TMsg f1
  subst e1
  obtain ⟨fu, hp⟩ := PureMsgAll.holds a0 a1 k0 k1
  refine (law_calls (w := W) (f := 3) (ds := [.slc false none 1 (List.map e_u8 a0), .agg (TMsg.en a1)]) (b := true) (vs := [v0, v1]) (diwanlaw6_MsgAll.meets fu a0 a1 true hp) (fun fn hf => by cases (Try.func3.symm.trans hf); exact of_decide_eq_true (by kernel_rfl)) (.cons u0 (.cons u1 .nil))).mono fun e W' ⟨he, bel⟩ => ?_
  subst he
  exact ⟨_, rfl, _, _, _, [], _, [], hW', trodAll_mk1 (shut_bool Try.underlying4 _), (trodAll_cons_mk (Below.trod laidOut (by kernel_rfl) (of_decide_eq_true (by kernel_rfl)) h0 bel l0) (trodAll_cons_mk (Below.trod laidOut (by kernel_rfl) (of_decide_eq_true (by kernel_rfl)) h1 bel l1) trodAll_mk0)), rfl, bel.frame _, fun h => by cases h⟩
set_option maxRecDepth 100000 in
theorem lifted (os : Os) (started : os.Started) (H : Type) (enc : TypeId × Value → H) (F : Stop.Interp) :
    ReturnsInHanded {} Try.checked os 3 .any ((Rows.OpenSpec.upto Rows.msgAllSpec).pre6 enc Try.prog Try.f3 Rows.msgAllUptoRow.domain false) (((Rows.OpenSpec.upto Rows.msgAllSpec).at F).post enc Try.prog Try.f3 false true false false) := by
  refine returnsInHanded_of_cond (C := Try.checked) (s := Rows.OpenSpec.upto Rows.msgAllSpec) (k := Rows.uptoSmall) rfl own started (by kernel_rfl) Try.func3
    (OpenSpec.witness (enc := enc) (C := Try.checked) (s := Rows.OpenSpec.upto Rows.msgAllSpec) (k := Rows.uptoSmall) rfl false ⟨#[], #[.slice none 0 0, .agg #[.int .i64 0, .int .i64 0, .int .i64 0, .int .i64 0, .int .i64 0, .int .i64 0, .int .i64 0, .int .i64 0, .bool false, .slice none 0 0, .int .i64 0, .int .i64 0, .slice none 0 0, .slice none 0 0, .int .i64 0, .int .i64 0, .int .i64 0, .int .i64 0, .bool false, .string ByteArray.empty, .string ByteArray.empty, .slice none 0 0, .slice none 0 0, .int .i64 0]], []⟩ 8 (by kernel_rfl) (by kernel_rfl) (by kernel_rfl)
      (x := ([.nil, .agg [.lit (.int .i64 0), .lit (.int .i64 0), .lit (.int .i64 0), .lit (.int .i64 0), .lit (.int .i64 0), .lit (.int .i64 0), .lit (.int .i64 0), .lit (.int .i64 0), .lit (.bool false), .nil, .agg [.lit (.int .i64 0), .lit (.int .i64 0), .nil, .nil], .lit (.int .i64 0), .lit (.int .i64 0), .lit (.int .i64 0), .lit (.int .i64 0), .lit (.bool false), .lit (.string []), .lit (.string []), .nil, .nil, .lit (.int .i64 0)]], [], [])) (by kernel_rfl) rfl (by kernel_rfl)) ?_
  intro W base args ds gs before hval hW _ hk _
  exact contract H enc W base args ds gs before hval hW hk
theorem over : Rows.msgAllUptoRow.holds Try.pinned (Rows.OpenSpec.upto Rows.msgAllSpec) :=
  OpenClaim.holds_of_cond 3 Try.f3 rfl rfl rfl rfl rfl rfl rfl ⟨rfl, rfl, rfl, rfl, rfl⟩ rfl rfl rfl rfl rfl (by kernel_rfl) Try.func3 (by kernel_rfl)
    (of_decide_eq_true (by kernel_rfl)) (by unfold Func.isWrapper; first | (rw [if_pos (by decide +kernel)]; kernel_rfl) | (rw [if_neg (by decide +kernel)]; exact ⟨rfl, rfl⟩))
    (fun os started H enc _ F => lifted os started H enc F)
theorem proved : Rows.MsgAllUptoSaid := over
#print axioms proved
end Go.Proofs.Ytbflggolnolaeaa.msgAll
namespace Go.Proofs.Ytbflggolnolaeaa
/-- The row, under a short name, for the claim. -/
theorem msgAllUpto_holds : Rows.MsgAllUptoSaid := msgAll.proved
end Go.Proofs.Ytbflggolnolaeaa
