/- The plain law of MsgTake: what Take takes may be and puts the same bytes; bytes that are lent come back as they were. -/
import Derived.Test.YtbflggolnolaeaaTMg9
import Derived.Test.YtbflggolnolaeaaTLent
namespace Go.Proofs.Ytbflggolnolaeaa.Told.PureMsgTake
open Go Go.Proofs.Ytbflggolnolaeaa.Vam Go.Proofs.Ytbflggolnolaeaa.Told Go.Proofs.Ytbflggolnolaeaa.Told.MG Go.Proofs.Ytbflggolnolaeaa.Told.NM Go.Proofs.Ytbflggolnolaeaa.Told.LB
set_option linter.unusedSimpArgs false
set_option linter.unusedVariables false
theorem begun_e : diwanlaw6_begun 300 = some true := by kernel_rfl
theorem same_no : diwanref1_SameMsg 300 noMsg noMsg = some true := by kernel_rfl
theorem holds (b : List Int) (k0 : okL (okI .u8) b) : ∃ fu, diwanlaw6_MsgTake fu b = some true := by
 refine ⟨300, ?_⟩
 have hB : Bytes b := fun x hx => okI_u8 (k0.2 x hx)
 unfold diwanlaw6_MsgTake
 rw [bd_s begun_e, br_f (b := !true) rfl]
 by_cases h1 : (b.length : Int) > 200
 ·rw [br_t (decide_eq_true h1)]
 rw [br_f (decide_eq_false h1), bd_s (lent_e (by omega) (by omega))]
 dsimp only
 rw [List.take_left]
 obtain ⟨s, ok, e, h⟩ := take_e (fu := 300) (Nat.le_refl _) hB (by omega)
 rw [bd_s e]
 have hbk := back_e (fu := 300) (l := b) (by omega) (by omega)
 rcases h with ⟨rfl, rfl⟩ | ⟨rfl, p, hp, hq, hm, hr⟩
 ·dsimp only
  rw [br_t (by rfl), jn_e, bd_s (x := true) (show diwanref1_SameMsg 300 noMsg (TMsg.mk 0 0 0 0 0 0 0 0 false [] (TTxn.mk 0 0 [] []) 0 0 0 0 false ByteArray.empty ByteArray.empty [] [] 0) = some true from same_no), br_t rfl, bd_s hbk]
 ·dsimp only
  rw [br_f (by rfl), bd_s hm, br_t rfl, bd_s hr, br_t rfl, bd_s hp, br_t hq, bd_s hbk]
end Go.Proofs.Ytbflggolnolaeaa.Told.PureMsgTake
