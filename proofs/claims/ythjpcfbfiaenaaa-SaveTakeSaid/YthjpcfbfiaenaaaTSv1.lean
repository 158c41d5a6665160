/- Whose a key is: the program and the reference say the same. -/
import Derived.Test.YthjpcfbfiaenaaaFitSaveTake
import Derived.Test.YthjpcfbfiaenaaaTMath
namespace Go.Proofs.Ythjpcfbfiaenaaa.Told.SV
open Go Go.Proofs.Ythjpcfbfiaenaaa.Vam Go.Proofs.Ythjpcfbfiaenaaa.Told
set_option linter.unusedSimpArgs false
set_option linter.unusedVariables false
theorem byte_lt (k : ByteArray) (i : Int) : 0 ≤ byteAt k i ∧ byteAt k i < 256 := by
 unfold byteAt
 have := (k.data.toList.getD i.toNat 0).toNat_lt
 omega
theorem shard_lp (fu : Nat) (k : ByteArray) (n : Int) (hn : 1 ≤ n ∧ n ≤ 3) (hk : k.size ≤ 1000000) : ∀ (d i m : Nat) (s : Int), i + d = k.size → d < m → 0 ≤ s → s < n →
  ∃ v, diwanref1_ShardOf.lp7 fu k n m s (i : Int) = some v ∧ key_Shard.lp7 fu k n (k.size : Int) m s (i : Int) = some v ∧ 0 ≤ v ∧ v < n
 | 0, i, m, s, h, hm, h0, h1 => by
  obtain ⟨m, rfl⟩ : ∃ j, m = j + 1 := ⟨m - 1, by omega⟩
  rw [diwanref1_ShardOf.lp7, key_Shard.lp7, br_f (decide_eq_false (by omega)), br_f (decide_eq_false (by omega))]
  exact ⟨s, rfl, rfl, h0, h1⟩
 | d + 1, i, m, s, h, hm, h0, h1 => by
  obtain ⟨m, rfl⟩ : ∃ j, m = j + 1 := ⟨m - 1, by omega⟩
  have hb := byte_lt k (i : Int)
  have q1 : Int.tmod (byteAt k (i : Int)) n = byteAt k (i : Int) % n := Int.tmod_eq_emod_of_nonneg hb.1
  have q2 := Int.emod_nonneg (byteAt k (i : Int)) (b := n) (by omega)
  have q3 := Int.emod_lt_of_pos (byteAt k (i : Int)) (b := n) (by omega)
  have e1 : w64 (byteAt k (i : Int)) = byteAt k (i : Int) := w64_id (by omega) (by omega)
  have e2 : w64 (s + byteAt k (i : Int)) = s + byteAt k (i : Int) := w64_id (by omega) (by omega)
  have e3 : w64 (s + byteAt k (i : Int) % n) = s + byteAt k (i : Int) % n := w64_id (by omega) (by omega)
  have e4 : Int.tmod (s + byteAt k (i : Int)) n = (s + byteAt k (i : Int)) % n := Int.tmod_eq_emod_of_nonneg (by omega)
  have e5 : Int.tmod (s + byteAt k (i : Int) % n) n = (s + byteAt k (i : Int)) % n := by
   rw [Int.tmod_eq_emod_of_nonneg (by omega), Int.add_emod_emod]
  have e6 : w64 ((i : Int) + 1) = ((i + 1 : Nat) : Int) := by rw [w64_id (by omega) (by omega)]; omega
  have n0 : (!decide (n = 0)) = true := by simp; omega
  obtain ⟨v, g1, g2, g3⟩ := shard_lp fu k n hn hk d (i + 1) m ((s + byteAt k (i : Int)) % n) (by omega) (by omega) (Int.emod_nonneg _ (by omega)) (Int.emod_lt_of_pos _ (by omega))
  rw [diwanref1_ShardOf.lp7, key_Shard.lp7, br_t (decide_eq_true (by omega)), br_t (decide_eq_true (by omega)), gd_t (decide_eq_true (by omega)), gd_t (decide_eq_true (by omega)), gd_t n0, gd_t n0, gd_t n0, e1, e2, q1, e3, e4, e5, e6]
  exact ⟨v, g1, g2, g3⟩
def shN (fu : Nat) (k : ByteArray) (n : Int) : Int := (diwanref1_ShardOf fu k n).getD 0
theorem shard_e {fu : Nat} {k : ByteArray} {n : Int} (hn : 1 ≤ n ∧ n ≤ 3) (hk : k.size ≤ 1000000) (hf : k.size < fu) : diwanref1_ShardOf fu k n = some (shN fu k n) ∧ key_Shard fu k n = some (shN fu k n) ∧ 0 ≤ shN fu k n ∧ shN fu k n < n := by
 obtain ⟨v, g1, g2, g3, g4⟩ := shard_lp fu k n hn hk k.size 0 fu 0 (by omega) hf (Int.le_refl _) (by omega)
 simp only [Int.natCast_zero] at g1 g2
 have h1 : diwanref1_ShardOf fu k n = some v := by
  unfold diwanref1_ShardOf
  rw [br_f (decide_eq_false (by omega)), bd_s g1]
 have h2 : key_Shard fu k n = some v := by
  unfold key_Shard
  rw [br_f (decide_eq_false (by omega)), bd_s g2]
 have h3 : shN fu k n = v := by unfold shN; rw [h1]; rfl
 rw [h3]
 exact ⟨h1, h2, g3, g4⟩
end Go.Proofs.Ythjpcfbfiaenaaa.Told.SV
