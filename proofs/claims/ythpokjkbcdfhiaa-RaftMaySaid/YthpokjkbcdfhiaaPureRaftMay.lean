/- The plain law of RaftMay: which states may be, and are the same. -/
import Derived.Test.YthpokjkbcdfhiaaTRf3
namespace Go.Proofs.Ythpokjkbcdfhiaa.Told.PureRaftMay
open Go Go.Proofs.Ythpokjkbcdfhiaa.Vam Go.Proofs.Ythpokjkbcdfhiaa.Told Go.Proofs.Ythpokjkbcdfhiaa.Told.PK Go.Proofs.Ythpokjkbcdfhiaa.Told.RA
set_option linter.unusedSimpArgs false
set_option linter.unusedVariables false
theorem begun_e : diwanlaw11_begun 300 = some true := by kernel_rfl
noncomputable def fresh (k : Int) : Option Bool := bd (raft_New (w64 (1 + (w64 k))) (w64 (1 + (w64 k))) 5) fun r53_11 =>
      bd (diwanref11_New (w64 (1 + (w64 k))) (w64 (1 + (w64 k))) 5) fun r53_13 =>
      bd (diwanref11_Same 300 r53_11 r53_13) fun r53_15 =>
      br r53_15
       (bd (raft_New 1 (w64 (1 + (w64 k))) 5) fun r53_18 =>
       bd (raft_May 300 r53_18) fun r53_20 =>
       some r53_20)
       (some false)
theorem fresh0 : fresh 0 = some true := by kernel_rfl
theorem fresh1 : fresh 1 = some true := by kernel_rfl
theorem fresh2 : fresh 2 = some true := by kernel_rfl
theorem fresh3 : fresh 3 = some true := by kernel_rfl
theorem fresh4 : fresh 4 = some true := by kernel_rfl
theorem fresh_e {w : Int} (h : okI .u8 w) : fresh (Int.tmod w 5) = some true := by
  have hb := okI_u8 h
  rw [Int.tmod_eq_emod_of_nonneg hb.1]
  have h0 := Int.emod_nonneg w (b := 5) (by decide)
  have h1 := Int.emod_lt_of_pos w (b := 5) (by decide)
  have : w % 5 = 0 ∨ w % 5 = 1 ∨ w % 5 = 2 ∨ w % 5 = 3 ∨ w % 5 = 4 := by omega
  rcases this with g | g | g | g | g <;> rw [g]
  · exact fresh0
  · exact fresh1
  · exact fresh2
  · exact fresh3
  · exact fresh4
theorem holds (picks : List Int) (which to : Int) (k0 : okL (okI .u8) picks) (k1 : okI .u8 which) (k2 : okI .i64 to) : ∃ fu, diwanlaw11_RaftMay fu picks which to = some true := by
  refine ⟨300, ?_⟩
  unfold diwanlaw11_RaftMay
  rw [bd_s begun_e, br_f (by rfl)]
  by_cases h1 : (picks.length : Int) > 120
  · rw [br_t (decide_eq_true h1)]
  rw [br_f (decide_eq_false h1)]
  unfold diwanplay_Made
  rw [bd_s rfl]
  obtain ⟨r, o, e1, _, hr⟩ := raft_e (fu := 300) (by decide) (made_inv (l := picks) (fun x hx => k0.2 x hx) (by omega))
  have hlen := hr.len
  have hn := hr.may.nodes
  have hv := hr.may.votes
  have hx := hr.may.next
  have hm := hr.may.mtch
  rw [bd_s e1]
  dsimp only
  have ec : diwanref11_Copy r = some () := by
    unfold diwanref11_Copy
    rw [gd_t (decide_eq_true (by simp; omega)), gd_t (decide_eq_true (by simp; omega)), gd_t (decide_eq_true (by simp; omega)), gd_t (decide_eq_true (by simp; omega))]
  rw [bd_s ec, jn_e]
  have smr : SmR 100 r := ⟨⟨by omega, fun e he => by have := hr.smt e he; unfold Smt at this; omega⟩, by omega, by omega, by omega⟩
  have say : ∀ x : TRaft, SmR 100 x → (bd (raft_May 300 x) fun r53_1 => bd (diwanref11_May 300 x) fun r53_3 => br (r53_1 == r53_3) (bd (raft_Same 300 x r) fun r53_6 => bd (diwanref11_Same 300 x r) fun r53_8 => br (r53_6 == r53_8) (fresh (Int.tmod which 5)) (some false)) (some false)) = some true := by
    intro x hx
    have hl := hx.log.1
    rw [bd_s (may_e (fu := 300) (by omega) (by omega)), bd_s (rmay_e (fu := 300) (by omega) (by omega)), br_t (beq_self_eq_true _), bd_s (same_e (fu := 300) hx (by decide) (by decide)), bd_s (rsame_e (fu := 300) hx (by decide) (by decide)), br_t (beq_self_eq_true _), fresh_e k1]
  unfold fresh at say
  have same0 : ∀ (me nodes wait term vote : Int) (commit role leader clock : Int), SmR 100 (TRaft.mk me nodes wait term vote r.Log commit role leader r.Votes r.Next r.Match clock) := fun _ _ _ _ _ _ _ _ _ => ⟨smr.log, smr.v, smr.n, smr.m⟩
  cases (Int.tmod which 14 == 0)
  case true =>
    rw [br_t rfl]
    exact say _ (same0 _ _ _ _ _ _ _ _ _)
  rw [br_f rfl]
  cases (Int.tmod which 14 == 1)
  case true =>
    rw [br_t rfl]
    exact say _ (same0 _ _ _ _ _ _ _ _ _)
  rw [br_f rfl]
  cases (Int.tmod which 14 == 2)
  case true =>
    rw [br_t rfl]
    exact say _ (same0 _ _ _ _ _ _ _ _ _)
  rw [br_f rfl]
  cases (Int.tmod which 14 == 3)
  case true =>
    rw [br_t rfl]
    exact say _ (same0 _ _ _ _ _ _ _ _ _)
  rw [br_f rfl]
  cases (Int.tmod which 14 == 4)
  case true =>
    rw [br_t rfl]
    exact say _ (same0 _ _ _ _ _ _ _ _ _)
  rw [br_f rfl]
  cases (Int.tmod which 14 == 5)
  case true =>
    rw [br_t rfl]
    exact say _ (same0 _ _ _ _ _ _ _ _ _)
  rw [br_f rfl]
  cases (Int.tmod which 14 == 6)
  case true =>
    rw [br_t rfl]
    exact say _ (same0 _ _ _ _ _ _ _ _ _)
  rw [br_f rfl]
  cases (Int.tmod which 14 == 7)
  case true =>
    rw [br_t rfl]
    exact say _ (same0 _ _ _ _ _ _ _ _ _)
  rw [br_f rfl]
  cases (Int.tmod which 14 == 8)
  case true =>
    rw [br_t rfl]
    rw [gd_t (decide_eq_true (by simp; omega))]; exact say _ ⟨smr.log, by simp; omega, smr.n, smr.m⟩
  rw [br_f rfl]
  cases (Int.tmod which 14 == 9)
  case true =>
    rw [br_t rfl]
    rw [gd_t (decide_eq_true (by omega))]; exact say _ ⟨smr.log, smr.v, by simp; omega, smr.m⟩
  rw [br_f rfl]
  cases (Int.tmod which 14 == 10)
  case true =>
    rw [br_t rfl]
    rw [gd_t (decide_eq_true (by simp; omega))]; exact say _ ⟨smr.log, smr.v, smr.n, by simp; omega⟩
  rw [br_f rfl]
  cases (Int.tmod which 14 == 11)
  case true =>
    rw [br_t rfl]
    exact say _ (same0 _ _ _ _ _ _ _ _ _)
  rw [br_f rfl]
  cases (Int.tmod which 14 == 12)
  case true =>
    rw [br_t rfl]
    rw [gd_t (decide_eq_true (by simp; omega))]; exact say _ ⟨⟨by simp; omega, fun e he => (List.mem_append.1 he).elim (fun g => smr.log.2 e g) fun g => by rw [List.mem_singleton.1 g]; exact ⟨Nat.zero_le _, Nat.zero_le _⟩⟩, smr.v, smr.n, smr.m⟩
  rw [br_f rfl]
  rw [ix_s (Int.le_refl 0) (List.getElem?_eq_getElem (show (0 : Int).toNat < r.Match.length by show 0 < r.Match.length; omega))]
  exact say _ ⟨smr.log, smr.v, smr.n, by rw [List.length_set]; exact smr.m⟩
end Go.Proofs.Ythpokjkbcdfhiaa.Told.PureRaftMay
