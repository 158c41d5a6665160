/- The plain law of MsgApart: unlike letters have unlike bytes. -/
import Derived.Test.YtbflggolnolaeaaTMg6
import Derived.Test.YtbflggolnolaeaaTMg7
namespace Go.Proofs.Ytbflggolnolaeaa.Told.PureMsgApart
open Go Go.Proofs.Ytbflggolnolaeaa.Vam Go.Proofs.Ytbflggolnolaeaa.Told Go.Proofs.Ytbflggolnolaeaa.Told.ST Go.Proofs.Ytbflggolnolaeaa.Told.MG Go.Proofs.Ytbflggolnolaeaa.Told.NM
set_option linter.unusedSimpArgs false
set_option linter.unusedVariables false
theorem begun_e : diwanlaw6_begun 300 = some true := by kernel_rfl
theorem holds (a b : List Int) (k0 : okL (okI .u8) a) (k1 : okL (okI .u8) b) : ∃ fu, diwanlaw6_MsgApart fu a b = some true := by
 refine ⟨300, ?_⟩
 unfold diwanlaw6_MsgApart
 rw [bd_s begun_e, br_f (b := !true) rfl]
 by_cases h1 : (a.length : Int) > 60
 ·rw [br_t (decide_eq_true h1)]
 rw [br_f (decide_eq_false h1)]
 by_cases h2 : (b.length : Int) > 60
 ·rw [br_t (decide_eq_true h2)]
 rw [br_f (decide_eq_false h2)]
 obtain ⟨x, g1, g2⟩ := made_e (fu := 300) (by decide) k0.2 (by omega)
 obtain ⟨y, q1, q2⟩ := made_e (fu := 300) (by decide) k1.2 (by omega)
 obtain ⟨p1, p2⟩ := put_some (by decide) g2.f g2.kd g2.may g2.v
 obtain ⟨p3, p4⟩ := put_some (by decide) q2.f q2.kd q2.may q2.v
 have s1 := same_e (b := y) g2.f.sm g2.f.n1 g2.f.n2 g2.f.f8
 have s2 := rsame_e (b := y) g2.f.sm g2.f.n1 g2.f.n2
 have key : ((strB (putM x)).toList == (strB (putM y)).toList) = msgB x y := by
  by_cases e : x = y
  ·rw [(msgB_iff x y).2 e, e, beq_self_eq_true]
  ·have hc : msgB x y = false := by
    cases hc : msgB x y
    ·rfl
    ·exact absurd ((msgB_iff x y).1 hc) e
   rw [hc]
   exact beq_eq_false_iff_ne.2 fun g => e (put_inj (mayM_m g2.may) (mayM_m q2.may) g2.kd q2.kd g2.v q2.v (str_inj (put_bytes x) (put_bytes y) g))
 rw [bd_s g1, bd_s q1, bd_s p1, bd_s p3, br_t (decide_eq_true (by omega)), br_t (decide_eq_true (by omega)), bd_s s2, key, br_t (beq_self_eq_true _), bd_s s1, bd_s s2, beq_self_eq_true]
end Go.Proofs.Ytbflggolnolaeaa.Told.PureMsgApart
