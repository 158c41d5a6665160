/- The plain law of JudgeAgain: a row that comes once more has had its turns. -/
import Derived.Test.YtknkeabmjleoiaaTTxns
import Derived.Test.YtknkeabmjleoiaaTAgain
import Derived.Test.YtknkeabmjleoiaaTSeatR
import Derived.Test.YtknkeabmjleoiaaTStoreR4
namespace Go.Proofs.Ytknkeabmjleoiaa.Told.PureJudgeAgain
open Go Go.Proofs.Ytknkeabmjleoiaa.Vam Go.Proofs.Ytknkeabmjleoiaa.Told Go.Proofs.Ytknkeabmjleoiaa.Told.PK Go.Proofs.Ytknkeabmjleoiaa.Told.ST Go.Proofs.Ytknkeabmjleoiaa.Told.JF
set_option linter.unusedSimpArgs false
set_option linter.unusedVariables false
theorem begun_e : diwanlaw18_begun 200 = some true := by kernel_rfl
theorem lp18 (fu : Nat) (L : List TTxn) (hL : L.length ≤ 1000) (w : List Int) (hw : ∀ j : Nat, j < L.length → w[L.length + j]? = some 3) (v : List Int) (hv : ∀ j : Nat, j < L.length → ∃ x, w[j]? = some x ∧ v[j]? = some x) : ∀ (d i n : Nat), i + d = L.length → d < n →
    diwanlaw18_JudgeAgain.lp18 fu L v w n (i : Int) = some (.inl ())
  | 0, i, n, h, hn => by
    obtain ⟨n, rfl⟩ : ∃ m, n = m + 1 := ⟨n - 1, by omega⟩
    rw [diwanlaw18_JudgeAgain.lp18, br_f (decide_eq_false (by omega))]
  | d + 1, i, n, h, hn => by
    obtain ⟨n, rfl⟩ : ∃ m, n = m + 1 := ⟨n - 1, by omega⟩
    obtain ⟨x, h1, h2⟩ := hv i (by omega)
    have e1 : w64 ((i : Int) + 1) = ((i + 1 : Nat) : Int) := by rw [w64_id (by omega) (by omega)]; omega
    have e2 : w64 ((L.length : Int) + (i : Int)) = ((L.length + i : Nat) : Int) := by rw [w64_id (by omega) (by omega)]; omega
    rw [diwanlaw18_JudgeAgain.lp18, br_t (decide_eq_true (by omega)), ix_n h1, ix_n h2, br_f (by simp), e2, ix_n (hw i (by omega)), br_f (by rfl), e1]
    exact lp18 fu L hL w hw v hv d (i + 1) n (by omega) (by omega)
theorem holds (picks : List Int) (k0 : okL (okI .u8) picks) : ∃ fu, diwanlaw18_JudgeAgain fu picks = some true := by
  refine ⟨200, ?_⟩
  unfold diwanlaw18_JudgeAgain
  rw [bd_s begun_e, br_f (by rfl)]
  by_cases h1 : (picks.length : Int) > 250
  · rw [br_t (decide_eq_true h1)]
  rw [br_f (decide_eq_false h1)]
  unfold diwanplay_Made
  rw [bd_s rfl]
  obtain ⟨l, o, t1, _, hl, ht⟩ := txs_e (fu := 200) (Nat.le_refl _) 15 (by decide) (made_inv (l := picks) k0.2 (by omega))
  rw [show (15 : Int) = ((15 : Nat) : Int) from rfl, bd_s t1]
  dsimp only
  obtain ⟨f1, inv⟩ := fold_e (fu := 200) (l := l) (by omega) (by omega) fun t h => ⟨(ht t h).rl, (ht t h).wl⟩
  obtain ⟨f2, inv2⟩ := fold_e (fu := 200) (l := l ++ l) (by simp; omega) (by simp; omega) fun t h => by
    have h' : t ∈ l := by rcases List.mem_append.1 h with h | h <;> exact h
    exact ⟨(ht t h').rl, (ht t h').wl⟩
  have e1 := inv.sl
  have e2 := inv.sm
  have hk := fold_keep 0 (l := l) (b := b0) List.Pairwise.nil fun t h => (ht t h).sq.1
  have hfl : foldF (l ++ l) = TBench.mk ((foldF l).said ++ List.replicate l.length 3) (foldF l).store (foldF l).seats := by
    unfold foldF
    rw [List.foldl_append]
    exact fold_had hk.2.1 fun t h => ⟨(ht t h).sq.1, hk.2.2 t h⟩
  rw [bd_s f1]
  dsimp only
  rw [gd_t (decide_eq_true (by simp; omega)), gd_t (decide_eq_true (by omega)), bd_s f2, hfl]
  dsimp only
  rw [e1, br_f (by simp), br_f (by rw [w64_id (by omega) (by omega)]; simp; omega), bd_s (rsameS_e (N := 3 * l.length) inv.cm (by omega) (by omega)), br_f (by rfl), bd_s (SF.rsame_e (by omega) (by omega)), br_f (by rfl)]
  have h18 := lp18 200 l (by omega) ((foldF l).said ++ List.replicate l.length 3) (fun j hj => by
    rw [List.getElem?_append_right (by omega), e1, List.getElem?_replicate, if_pos (by omega)]) (foldF l).said (fun j hj => by
    have hx : (foldF l).said[j]? = some (foldF l).said[j] := List.getElem?_eq_getElem (by omega)
    exact ⟨_, by rw [List.getElem?_append_left (by omega)]; exact hx, hx⟩) l.length 0 200 (by omega) (by omega)
  simp only [Int.natCast_zero] at h18
  rw [bd_s h18]
end Go.Proofs.Ytknkeabmjleoiaa.Told.PureJudgeAgain
