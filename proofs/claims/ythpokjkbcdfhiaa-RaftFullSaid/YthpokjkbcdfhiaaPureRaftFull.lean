/- The plain law of RaftFull: a log that is full takes no more. -/
import Derived.Test.YthpokjkbcdfhiaaTFull
namespace Go.Proofs.Ythpokjkbcdfhiaa.Told.PureRaftFull
open Go Go.Proofs.Ythpokjkbcdfhiaa.Vam Go.Proofs.Ythpokjkbcdfhiaa.Told Go.Proofs.Ythpokjkbcdfhiaa.Told.RF
set_option linter.unusedSimpArgs false
set_option linter.unusedVariables false
theorem begun_e : diwanlaw11_begun 300 = some true := by kernel_rfl
theorem lp14 (n : Nat) (hn : n < 256) : ∀ (d i m : Nat), i + d = n → d < m → diwanlaw11_RaftFull.lp14 300 (n : Int) m (i : Int) (R (min (i + 1) 200)) = some (.inl (R (min (n + 1) 200)))
  | 0, i, m, h, hm => by
    obtain ⟨m, rfl⟩ : ∃ k, m = k + 1 := ⟨m - 1, by omega⟩
    rw [diwanlaw11_RaftFull.lp14, w64_id (n := (n : Int)) (by omega) (by omega), br_f (decide_eq_false (by omega)), show i = n by omega]
  | d + 1, i, m, h, hm => by
    obtain ⟨m, rfl⟩ : ∃ k, m = k + 1 := ⟨m - 1, by omega⟩
    have ih := lp14 n hn d (i + 1) m (by omega) (by omega)
    have e1 : w64 ((i : Int) + 1) = ((i + 1 : Nat) : Int) := by rw [w64_id (by omega) (by omega)]; omega
    rw [diwanlaw11_RaftFull.lp14, w64_id (n := (n : Int)) (by omega) (by omega), br_t (decide_eq_true (by omega)), e1]
    by_cases hi : i < 199
    · obtain ⟨s1, s2⟩ := sA199 i hi
      rw [show min (i + 1) 200 = i + 1 by omega]
      rw [show min (i + 1 + 1) 200 = i + 2 by omega] at ih
      have hb : (!(true == decide (((R (i + 1)).Log.length : Int) < 200))) = false := by
        show (!(true == decide (((List.replicate (i + 1) E).length : Int) < 200))) = false
        rw [List.length_replicate, decide_eq_true (by omega)]; rfl
      rw [bd_s s1]
      dsimp only
      rw [br_f hb, bd_s s2, br_f (by rfl)]
      exact ih
    · rw [show min (i + 1) 200 = 200 by omega]
      rw [show min (i + 1 + 1) 200 = 200 by omega] at ih
      have hb : (!(false == decide (((R 200).Log.length : Int) < 200))) = false := by
        show (!(false == decide (((List.replicate 200 E).length : Int) < 200))) = false
        rw [List.length_replicate]; rfl
      rw [bd_s sFull.1]
      dsimp only
      rw [br_f hb, bd_s sFull.2, br_f (by rfl)]
      exact ih
theorem holds (n_v : Int) (k0 : okI .u8 n_v) : ∃ fu, diwanlaw11_RaftFull fu n_v = some true := by
  have hb := okI_u8 k0
  obtain ⟨n, rfl⟩ : ∃ n : Nat, n_v = (n : Int) := ⟨n_v.toNat, by omega⟩
  refine ⟨300, ?_⟩
  unfold diwanlaw11_RaftFull
  have h14 := lp14 n (by omega) n 0 300 (by omega) (by omega)
  rw [show min (0 + 1) 200 = 1 from rfl] at h14
  simp only [Int.natCast_zero] at h14
  rw [bd_s begun_e, br_f (by rfl), bd_s new_e, bd_s ((start_n _ _ _ _).trans start_e), bd_s h14]
  dsimp only
  obtain ⟨j, hj, hj'⟩ : ∃ j, min (n + 1) 200 = j + 1 ∧ j < 200 := ⟨min (n + 1) 200 - 1, by omega, by omega⟩
  obtain ⟨t1, t2⟩ := tA200 j hj'
  rw [hj, bd_s t1]
  dsimp only
  have c1 : ((R (j + 1)).Commit == ((R (j + 1)).Log.length : Int)) = true := by
    show (((j + 1 : Nat) : Int) == ((List.replicate (j + 1) E).length : Int)) = true
    rw [List.length_replicate, beq_self_eq_true]
  have c2 : (((R (j + 1)).Log.length : Int) == (if (200 : Int) < (w64 (1 + (w64 (n : Int)))) then 200 else (w64 (1 + (w64 (n : Int)))))) = true := by
    show (((List.replicate (j + 1) E).length : Int) == _) = true
    rw [List.length_replicate, w64_id (n := (n : Int)) (by omega) (by omega), w64_id (n := 1 + (n : Int)) (by omega) (by omega), beq_iff_eq]
    split <;> omega
  rw [br_t c1, br_t c2, bd_s t2, br_t rfl]; rfl
end Go.Proofs.Ythpokjkbcdfhiaa.Told.PureRaftFull
