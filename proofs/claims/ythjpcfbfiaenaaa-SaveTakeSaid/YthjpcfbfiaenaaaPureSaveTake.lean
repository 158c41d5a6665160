/- The plain law of SaveTake: what Take takes may be and puts the same bytes; bytes that are lent come back as they were. -/
import Derived.Test.YthjpcfbfiaenaaaTSv7
import Derived.Test.YthjpcfbfiaenaaaTLent
namespace Go.Proofs.Ythjpcfbfiaenaaa.Told.PureSaveTake
open Go Go.Proofs.Ythjpcfbfiaenaaa.Vam Go.Proofs.Ythjpcfbfiaenaaa.Told Go.Proofs.Ythjpcfbfiaenaaa.Told.SV Go.Proofs.Ythjpcfbfiaenaaa.Told.NM Go.Proofs.Ythjpcfbfiaenaaa.Told.LB
set_option linter.unusedSimpArgs false
set_option linter.unusedVariables false
theorem begun_e : diwanlaw20_begun 300 = some true := by kernel_rfl
theorem same_no : diwanref13_SameShard 300 noShard noShard = some true := by kernel_rfl
theorem holds (b : List Int) (k0 : okL (okI .u8) b) : ∃ fu, diwanlaw20_SaveTake fu b = some true := by
 refine ⟨300, ?_⟩
 have hB : Bytes b := fun x hx => okI_u8 (k0.2 x hx)
 unfold diwanlaw20_SaveTake
 rw [bd_s begun_e, br_f (b := !true) rfl]
 by_cases h1 : (b.length : Int) > 200
 ·rw [br_t (decide_eq_true h1)]
 rw [br_f (decide_eq_false h1), bd_s (lent_e (by omega) (by omega))]
 dsimp only
 rw [List.take_left]
 obtain ⟨s, ok, e, h⟩ := take_e (fu := 300) (Nat.le_refl _) hB (by omega)
 rw [bd_s e]
 have hbk := back_e (fu := 300) (l := b) (by omega) (by omega)
 rcases h with ⟨rfl, rfl⟩ | ⟨rfl, p, hp, hq, hm⟩
 ·dsimp only
  rw [br_t (by rfl), jn_e, bd_s (x := true) (show diwanref13_SameShard 300 noShard (TShard.mk 0 0 0 (TStore.mk [] 0) [] [] []) = some true from same_no), br_t rfl, bd_s hbk]
 ·dsimp only
  rw [br_f (by rfl), bd_s hm, br_t rfl, bd_s hp, br_t hq, bd_s hbk]
end Go.Proofs.Ythjpcfbfiaenaaa.Told.PureSaveTake
