/- The plain law of JudgeFront: the first ones of a longer row are judged the same. -/
import Derived.Test.YtknkeabmjleoiaaTTxns
import Derived.Test.YtknkeabmjleoiaaTFold1
import Derived.Test.YtknkeabmjleoiaaTInts
namespace Go.Proofs.Ytknkeabmjleoiaa.Told.PureJudgeFront
open Go Go.Proofs.Ytknkeabmjleoiaa.Vam Go.Proofs.Ytknkeabmjleoiaa.Told Go.Proofs.Ytknkeabmjleoiaa.Told.PK Go.Proofs.Ytknkeabmjleoiaa.Told.ST Go.Proofs.Ytknkeabmjleoiaa.Told.JF
set_option linter.unusedSimpArgs false
set_option linter.unusedVariables false
theorem begun_e : diwanlaw18_begun 200 = some true := by kernel_rfl
theorem step_said (b : TBench) (t : TTxn) : ∃ x, (stepF b t).said = b.said ++ [x] := by
  unfold stepF
  cases (turnF b.seats t.Session t.Seq (posF b)).2
  · exact ⟨3, rfl⟩
  · cases hold t.Reads b.store.Chains
    · exact ⟨2, rfl⟩
    · exact ⟨1, rfl⟩
theorem said_ext : ∀ (l : List TTxn) (b : TBench), ∃ q, (l.foldl stepF b).said = b.said ++ q
  | [], b => ⟨[], by simp⟩
  | t :: l, b => by
    obtain ⟨q, h⟩ := said_ext l (stepF b t)
    obtain ⟨x, hx⟩ := step_said b t
    exact ⟨x :: q, by show (l.foldl stepF (stepF b t)).said = _; rw [h, hx]; simp⟩
theorem holds (picks : List Int) (n_v : Int) (k0 : okL (okI .u8) picks) (k1 : okI .u8 n_v) : ∃ fu, diwanlaw18_JudgeFront fu picks n_v = some true := by
  refine ⟨200, ?_⟩
  unfold diwanlaw18_JudgeFront
  rw [bd_s begun_e, br_f (by rfl)]
  by_cases h1 : (picks.length : Int) > 250
  · rw [br_t (decide_eq_true h1)]
  rw [br_f (decide_eq_false h1)]
  unfold diwanplay_Made
  rw [bd_s rfl]
  obtain ⟨l, o, t1, _, hl, ht⟩ := txs_e (fu := 200) (Nat.le_refl _) 25 (by decide) (made_inv (l := picks) k0.2 (by omega))
  rw [show (25 : Int) = ((25 : Nat) : Int) from rfl, bd_s t1]
  dsimp only
  have hn := okI_u8 k1
  rw [hl, show w64 (((25 : Nat) : Int) + 1) = 26 from by rw [w64_id (by decide) (by decide)]; rfl, w64_id (n := n_v) (by omega) (by omega)]
  obtain ⟨k, hk, hk'⟩ : ∃ k : Nat, Int.tmod n_v 26 = (k : Int) ∧ k < 26 := by
    have e1 : Int.tmod n_v 26 = n_v % 26 := Int.tmod_eq_emod_of_nonneg hn.1
    exact ⟨(n_v % 26).toNat, by rw [e1]; omega, by omega⟩
  rw [hk, gd_t (by rfl)]
  obtain ⟨f1, inv⟩ := fold_e (fu := 200) (l := l) (by omega) (by omega) fun t h => ⟨(ht t h).rl, (ht t h).wl⟩
  have hlk : (List.take k l).length = k := by rw [List.length_take]; omega
  obtain ⟨f2, inv2⟩ := fold_e (fu := 200) (l := List.take k l) (by omega) (by omega) fun t h => ⟨(ht t (List.mem_of_mem_take h)).rl, (ht t (List.mem_of_mem_take h)).wl⟩
  have e1 := inv.sl
  have e2 := inv2.sl
  rw [hl] at e1
  rw [hlk] at e2
  obtain ⟨q, hq⟩ := said_ext (List.drop k l) (foldF (List.take k l))
  have hfl : (List.drop k l).foldl stepF (foldF (List.take k l)) = foldF l := by
    unfold foldF
    rw [← List.foldl_append, List.take_append_drop]
  rw [hfl] at hq
  have htk : List.take k (foldF l).said = (foldF (List.take k l)).said := by rw [hq, List.take_left' e2]
  rw [bd_s f1]
  dsimp only
  rw [gd_t (decide_eq_true (by omega)), Int.toNat_natCast, bd_s f2]
  dsimp only
  rw [e1, br_t (by rfl), e2, br_t (beq_self_eq_true _), gd_t (decide_eq_true (by omega)), htk, bd_s (ints_e (by omega) (by omega))]
end Go.Proofs.Ytknkeabmjleoiaa.Told.PureJudgeFront
