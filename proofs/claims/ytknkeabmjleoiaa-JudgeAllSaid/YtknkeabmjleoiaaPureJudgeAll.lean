/- The plain law of JudgeAll: the program's fold and the reference's come to the same. -/
import Derived.Test.YtknkeabmjleoiaaTTxns
import Derived.Test.YtknkeabmjleoiaaTFoldR
import Derived.Test.YtknkeabmjleoiaaTInts
import Derived.Test.YtknkeabmjleoiaaTStoreR4
namespace Go.Proofs.Ytknkeabmjleoiaa.Told.PureJudgeAll
open Go Go.Proofs.Ytknkeabmjleoiaa.Vam Go.Proofs.Ytknkeabmjleoiaa.Told Go.Proofs.Ytknkeabmjleoiaa.Told.PK Go.Proofs.Ytknkeabmjleoiaa.Told.ST Go.Proofs.Ytknkeabmjleoiaa.Told.JF
set_option linter.unusedSimpArgs false
set_option linter.unusedVariables false
theorem begun_e : diwanlaw18_begun 200 = some true := by kernel_rfl
theorem holds (picks : List Int) (k0 : okL (okI .u8) picks) : ∃ fu, diwanlaw18_JudgeAll fu picks = some true := by
  refine ⟨200, ?_⟩
  unfold diwanlaw18_JudgeAll
  rw [bd_s begun_e, br_f (by rfl)]
  by_cases h1 : (picks.length : Int) > 250
  · rw [br_t (decide_eq_true h1)]
  rw [br_f (decide_eq_false h1)]
  unfold diwanplay_Made
  rw [bd_s rfl]
  obtain ⟨l, o, t1, _, hl, ht⟩ := txs_e (fu := 200) (Nat.le_refl _) 25 (by decide) (made_inv (l := picks) k0.2 (by omega))
  rw [show (25 : Int) = ((25 : Nat) : Int) from rfl, bd_s t1]
  dsimp only
  obtain ⟨f1, inv⟩ := fold_e (fu := 200) (l := l) (by omega) (by omega) fun t h => ⟨(ht t h).rl, (ht t h).wl⟩
  have f2 := rfold_e (fu := 200) (l := l) (by omega) (by omega) fun t h => ⟨(ht t h).rl, (ht t h).wl⟩
  rw [bd_s f1]
  dsimp only
  rw [bd_s f2]
  dsimp only
  have hs := inv.sl
  have hm := inv.sm
  rw [hl] at hs hm
  rw [bd_s (ints_e (by omega) (by omega)), br_t rfl, bd_s (rsameS_e (N := 3 * l.length) inv.cm (by omega) (by omega)), br_t rfl, bd_s (SF.rsame_e (by omega) (by omega))]
end Go.Proofs.Ytknkeabmjleoiaa.Told.PureJudgeAll
