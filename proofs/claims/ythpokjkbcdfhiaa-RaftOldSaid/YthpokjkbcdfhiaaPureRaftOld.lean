/- The plain law of RaftOld: letters of a term that is over change nothing. -/
import Derived.Test.YthpokjkbcdfhiaaTRf7
namespace Go.Proofs.Ythpokjkbcdfhiaa.Told.PureRaftOld
open Go Go.Proofs.Ythpokjkbcdfhiaa.Vam Go.Proofs.Ythpokjkbcdfhiaa.Told Go.Proofs.Ythpokjkbcdfhiaa.Told.PK Go.Proofs.Ythpokjkbcdfhiaa.Told.RA
set_option linter.unusedSimpArgs false
set_option linter.unusedVariables false
theorem begun_e : diwanlaw11_begun 600 = some true := by kernel_rfl
theorem made_bs {r : TRaft} (h : MadeOk r) : Bs r := h.may.bs (fun e he => by have := h.smt e he; unfold Smt at this; omega) (by have := h.term; omega) (fun a ha => by have := h.rows.xs a ha; have := h.len; omega) (fun a ha => by have := h.rows.ms a ha; have := h.len; omega) (by have := h.clock; omega)
theorem made_sm {r : TRaft} (h : MadeOk r) : SmR 100 r := by
  have := h.len
  have := h.may.nodes
  have := h.may.votes
  have := h.may.next
  have := h.may.mtch
  exact ⟨⟨by omega, fun e he => by have := h.smt e he; unfold Smt at this; omega⟩, by omega, by omega, by omega⟩
theorem holds (picks more : List Int) (by_v : Int) (k0 : okL (okI .u8) picks) (k1 : okL (okI .u8) more) (k2 : okI .u8 by_v) : ∃ fu, diwanlaw11_RaftOld fu picks more by_v = some true := by
  refine ⟨600, ?_⟩
  unfold diwanlaw11_RaftOld
  rw [bd_s begun_e, br_f (by rfl)]
  by_cases h1 : (picks.length : Int) > 120
  · rw [br_t (decide_eq_true h1)]
  rw [br_f (decide_eq_false h1)]
  by_cases h2 : (more.length : Int) > 20
  · rw [br_t (decide_eq_true h2)]
  rw [br_f (decide_eq_false h2)]
  unfold diwanplay_Made
  rw [bd_s rfl]
  obtain ⟨r, o, e1, _, hr⟩ := raft_e (fu := 600) (by decide) (made_inv (l := picks) (fun x hx => k0.2 x hx) (by omega))
  rw [bd_s e1]
  dsimp only
  rw [bd_s rfl]
  have hb := made_bs hr
  have hT := hr.term
  have hall := hr.may.rise.all
  obtain ⟨m, o', e2, _, hm⟩ := letter_e (fu := 600) (by decide) hr.may.nodes hr.may.len ⟨by omega, by omega⟩ (fun e he => by have := hall e he; omega) (made_inv (l := more) (fun x hx => k1.2 x hx) (by omega))
  rw [bd_s e2]
  dsimp only
  have hby := okI_u8 k2
  have b0 : 0 ≤ Int.tmod by_v 3 ∧ Int.tmod by_v 3 < 3 := by
    rw [Int.tmod_eq_emod_of_nonneg hby.1]
    exact ⟨Int.emod_nonneg _ (by decide), Int.emod_lt_of_pos _ (by decide)⟩
  rw [w64_id (n := Int.tmod by_v 3) (by omega) (by omega), w64_id (n := r.Term - 1) (by omega) (by omega), w64_id (n := r.Term - 1 - Int.tmod by_v 3) (by omega) (by omega)]
  generalize hT2 : (if r.Term - 1 - Int.tmod by_v 3 < 0 then 0 else r.Term - 1 - Int.tmod by_v 3) = T
  have hlt : 0 ≤ T ∧ T < r.Term := by rw [← hT2]; split <;> omega
  have hlb := hm.lb (by have := hr.len; omega) (by omega)
  obtain ⟨mk, mf, mt, mp, mT, mi, ml, mc, mo, mE, mx, ms, mq, mP, mS, mz, mFK, mTK, mK, mG, mR⟩ := m
  have hlb' : Lb (TMsg.mk mk mf mt mp T mi ml mc mo mE mx ms mq mP mS mz mFK mTK mK mG mR) := ⟨⟨hlt.1, by show T ≤ _; omega⟩, hlb.index, hlb.len, hlb.sm⟩
  rw [bd_s (take_e hb hlb' (by decide))]
  have hk := hm.kind
  have hf := hm.frm
  have ht := hm.to
  dsimp only at hk hf ht
  have hstep : stepR r (TMsg.mk mk mf mt mp T mi ml mc mo mE mx ms mq mP mS mz mFK mTK mK mG mR) = r := by unfold stepR; rw [if_neg (by show ¬ T > r.Term; omega)]
  have hmay : mayB r = true := mayB_iff.2 hr.may
  have same : diwanref11_Same 600 r r = some true := by rw [rsame_e (made_sm hr) (by decide) (by decide), sameB_iff.2 rfl]
  -- what there is to say of the answer
  have say : ∀ y : TRaft × List TMsg, takeF r (TMsg.mk mk mf mt mp T mi ml mc mo mE mx ms mq mP mS mz mFK mTK mK mG mR) = y → y.1 = r →
      ((mf ≠ r.Me ∧ (mk = 1 ∨ mk = 3)) → ∃ x, y.2 = [x] ∧ x.Term = r.Term ∧ x.OK = false ∧ x.To = mf ∧ x.From = r.Me) → (¬ (mf ≠ r.Me ∧ (mk = 1 ∨ mk = 3)) → y.2 = []) →
      (bd (diwanref11_Same 600 y.1 r) fun r13_1 => br (!r13_1) (some false) (br (decide ((y.2.length : Int) > 1)) (some false)
      (jn (fun (j18_1 : Bool) =>
       br (!j18_1)
        (some ((y.2.length : Int) == 0))
        (br ((y.2.length : Int) == 1)
         (ix y.2 0 fun x22_2 =>
         br (x22_2.Term == r.Term)
          (ix y.2 0 fun x22_6 =>
          br (!x22_6.OK)
           (ix y.2 0 fun x22_10 =>
           br (x22_10.To == mf)
            (ix y.2 0 fun x22_14 =>
            some (x22_14.From == r.Me))
            (some false))
           (some false))
          (some false))
         (some false))) fun k18 =>
      br (mf != r.Me)
       (br (mk == 1)
        (k18 true)
        (k18 (mk == 3)))
       (k18 false)))) = some true := by
    intro y _ h1 h2 h3
    rw [h1, bd_s same, br_f (by rfl), jn_e]
    by_cases c : mf ≠ r.Me ∧ (mk = 1 ∨ mk = 3)
    · obtain ⟨x, hx, g1, g2, g3, g4⟩ := h2 c
      rw [hx, br_f (by rfl), br_t (by simpa using c.1)]
      have fin : (br (!true) (some ((([x] : List TMsg).length : Int) == 0)) (br ((([x] : List TMsg).length : Int) == 1)
         (ix [x] 0 fun x22_2 =>
         br (x22_2.Term == r.Term)
          (ix [x] 0 fun x22_6 =>
          br (!x22_6.OK)
           (ix [x] 0 fun x22_10 =>
           br (x22_10.To == mf)
            (ix [x] 0 fun x22_14 =>
            some (x22_14.From == r.Me))
            (some false))
           (some false))
          (some false))
         (some false))) = some true := by
        have hg : ([x] : List TMsg)[(0 : Int).toNat]? = some x := rfl
        rw [br_f (by rfl), br_t (by rfl), ix_s (Int.le_refl 0) hg, g1, br_t (by simp), ix_s (Int.le_refl 0) hg, g2, br_t (by rfl), ix_s (Int.le_refl 0) hg, g3, br_t (by simp), ix_s (Int.le_refl 0) hg, g4, beq_self_eq_true]
      by_cases c1 : mk = 1
      · rw [br_t (by simpa using c1)]; exact fin
      · have c3 : mk = 3 := c.2.resolve_left c1
        rw [br_f (by simpa using c1), beq_iff_eq.2 c3]; exact fin
    · rw [h3 c]
      rw [br_f (by rfl)]
      by_cases c0 : mf = r.Me
      · rw [br_f (by simpa using c0)]; rfl
      · rw [br_t (by simpa using c0)]
        have c1 : ¬ mk = 1 := fun g => c ⟨c0, .inl g⟩
        have c3 : ¬ mk = 3 := fun g => c ⟨c0, .inr g⟩
        rw [br_f (by simpa using c1), beq_eq_false_iff_ne.2 c3]; rfl
  refine say (takeF r _) rfl ?_ ?_ ?_ <;> unfold takeF
  · by_cases c0 : mf = r.Me
    · rw [if_neg (fun g => g.2.2.2.2.1 c0)]
    · rw [if_pos ⟨hk, hmay, hf.1, hf.2, c0, ht⟩, hstep]
      unfold takeP
      dsimp only
      by_cases k1 : mk = 1
      · rw [if_pos k1]; unfold askVoteP grantB; dsimp only; rw [show (T == r.Term) = false from beq_eq_false_iff_ne.2 (by omega)]; rfl
      rw [if_neg k1]
      by_cases k2 : mk = 2
      · rw [if_pos k2]; unfold voteP; dsimp only; rw [if_neg (fun g => by have := g.1; omega)]
      rw [if_neg k2]
      by_cases k3 : mk = 3
      · rw [if_pos k3]; unfold appendP; dsimp only; rw [if_pos hlt.2]
      · rw [if_neg k3]; unfold appendedP; dsimp only; rw [if_pos (.inl hlt.2)]
  · rintro ⟨c0, ck⟩
    rw [if_pos ⟨hk, hmay, hf.1, hf.2, c0, ht⟩, hstep]
    unfold takeP
    dsimp only
    by_cases k1 : mk = 1
    · rw [if_pos k1]; unfold askVoteP grantB; dsimp only; rw [show (T == r.Term) = false from beq_eq_false_iff_ne.2 (by omega)]
      exact ⟨_, rfl, rfl, rfl, rfl, rfl⟩
    · have k3 : mk = 3 := ck.resolve_left k1
      rw [if_neg k1, if_neg (show ¬ mk = 2 by omega), if_pos k3]; unfold appendP; dsimp only; rw [if_pos hlt.2]
      exact ⟨_, rfl, rfl, rfl, rfl, rfl⟩
  · intro c
    by_cases c0 : mf = r.Me
    · rw [if_neg (fun g => g.2.2.2.2.1 c0)]
    · rw [if_pos ⟨hk, hmay, hf.1, hf.2, c0, ht⟩, hstep]
      unfold takeP
      dsimp only
      have c1 : ¬ mk = 1 := fun g => c ⟨c0, .inl g⟩
      have c3 : ¬ mk = 3 := fun g => c ⟨c0, .inr g⟩
      rw [if_neg c1, if_neg c3]
      by_cases k2 : mk = 2
      · rw [if_pos k2]; unfold voteP; dsimp only; rw [if_neg (fun g => by have := g.1; omega)]
      rw [if_neg k2]; unfold appendedP; dsimp only; rw [if_pos (.inl hlt.2)]
end Go.Proofs.Ythpokjkbcdfhiaa.Told.PureRaftOld
