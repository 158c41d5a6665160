/- The plain law of MergeStops: the order waits for one log alone. -/
import Derived.Test.YtepaajbkmkclnaaTMs
namespace Go.Proofs.Ytepaajbkmkclnaa.Told.PureMergeStops
open Go Go.Proofs.Ytepaajbkmkclnaa.Vam Go.Proofs.Ytepaajbkmkclnaa.Told Go.Proofs.Ytepaajbkmkclnaa.Told.MH Go.Proofs.Ytepaajbkmkclnaa.Told.PK Go.Proofs.Ytepaajbkmkclnaa.Ep
set_option linter.unusedSimpArgs false
set_option linter.unusedVariables false
theorem begun_e : diwanlaw14_begun = some true := rfl
theorem holds (picks : List Int) (who : Int) (k0 : okL (okI .u8) picks) (k1 : okI .u8 who) : ∃ fu, diwanlaw14_MergeStops fu picks who = some true := by
 refine ⟨1000, ?_⟩
 unfold diwanlaw14_MergeStops
 rw [bd_s begun_e, br_f (b := !true) rfl]
 by_cases h1 : (picks.length : Int) > 250
 ·rw [br_t (decide_eq_true h1)]
 have hn := okI_u8 k1
 obtain ⟨W, rfl⟩ : ∃ W : Nat, who = (W : Int) := ⟨who.toNat, by omega⟩
 obtain ⟨L, e1, e2, e3⟩ := logs_e (fu := 1000) (by omega) k0.2 (by omega)
 rw [br_f (decide_eq_false h1), bd_s e1]
 by_cases hL : L.length = 0
 ·rw [List.length_eq_zero_iff.1 hL, br_t (by rfl), bd_s (merge_no (by omega)).2]; rfl
 have hLG := e3.lg (by omega) e2
 obtain ⟨D, d1, d2, d3⟩ := stp_ex hLG
 obtain ⟨m1, m2⟩ := merge_e hLG (fu := 1000) (by omega) d1 d2 d3
 have hDn : D % L.length < L.length := Nat.mod_lt _ (by omega)
 have ht : Int.tmod (w64 (W : Int)) (L.length : Int) = ((W % L.length : Nat) : Int) := by
  rw [w64_id (by omega) (by omega)]
  simp [Int.tmod]
 have hk : W % L.length < L.length := Nat.mod_lt _ (by omega)
 rw [br_f (beq_eq_false_iff_ne.2 (by omega)), bd_s m2, bd_s m1, gd_t (by rw [decide_eq_false (by omega)]; rfl), ht]
 generalize W % L.length = k at hk ⊢
 obtain ⟨h, hh⟩ : ∃ h, D % L.length = h := ⟨_, rfl⟩
 rw [hh] at hDn ⊢
 have hlk := e3 _ (lg_mem hk)
 have hset : L.set ((k : Int)).toNat (lg L k ++ [TEntry.mk 9 true (TTxn.mk 0 0 [] [])]) = more L k (TEntry.mk 9 true (TTxn.mk 0 0 [] [])) := by rw [Int.toNat_natCast]; rfl
 rw [br_f (decide_eq_false (by omega)), br_f (decide_eq_false (by omega)), gd_t (decide_eq_true (by simp; omega)), ix_n (lg_get hk), gd_t (decide_eq_true (by simp; omega)), gd_t (decide_eq_true (by simp; omega)), ix_n (lg_get hk), hset]
 have hM : LG (more L k (TEntry.mk 9 true (TTxn.mk 0 0 [] []))) := more_LG hLG hk hlk.1 ⟨Nat.zero_le _, Nat.zero_le _⟩
 have hin : ∀ u, u ≤ D → u % L.length = k → u / L.length < (cu L k).length := fun u hu hk' => by
  have := bat_in hLG (t := u) (fun v hv => d2 v (by omega))
  rw [hk'] at this; exact this
 have hord : ord (more L k (TEntry.mk 9 true (TTxn.mk 0 0 [] []))) (D + 1) = ord L (D + 1) := ord_more hk fun u hu hk' => .inr ⟨rfl, hin u (by omega) hk'⟩
 have hno : ∀ u, u < D → ¬ stp (more L k (TEntry.mk 9 true (TTxn.mk 0 0 [] []))) u := fun u hu => by
  by_cases hk' : u % L.length = k
  ·exact stp_true hk rfl hk' (hin u (by omega) hk')
  ·rw [stp_ne hk']; exact d2 u hu
 have hol := ord_len hLG (D + 1)
 have hsm : ∀ x ∈ ord L (D + 1), x.T.Reads.length ≤ 10 ∧ x.T.Writes.length ≤ 10 := fun x hx => by
  obtain ⟨l, hl, e, he, hT⟩ := ord_txn hLG hx
  have := hLG.sm l hl e he
  rw [hT]; exact this
 by_cases hc : k = h
 ·-- the log that is waited for is sealed
  have hnoD : ∀ u, u < D + 1 → ¬ stp (more L k (TEntry.mk 9 true (TTxn.mk 0 0 [] []))) u := fun u hu => by
   rcases Nat.lt_or_ge u D with g | g
   ·exact hno u g
   ·have : u = D := by omega
    subst this
    exact stp_true hk rfl (by rw [hh, hc]) (hin u (Nat.le_refl _) (by rw [hh, hc]))
  obtain ⟨E, s1, s2, s3⟩ := stp_ex hM
  obtain ⟨n1, n2⟩ := merge_e hM (fu := 1000) (by omega) s1 s2 s3
  have hDE : D < E := by
   rcases Nat.lt_or_ge D E with g | g
   ·exact g
   ·exact absurd s1 (hnoD E (by omega))
  have hpre : ord L (D + 1) <+: ord (more L k (TEntry.mk 9 true (TTxn.mk 0 0 [] []))) (E + 1) := by
   rw [← hord]
   have := ord_pre (more L k (TEntry.mk 9 true (TTxn.mk 0 0 [] []))) (D + 1) (E - D)
   rw [show D + 1 + (E - D) = E + 1 by omega] at this
   exact this
  have hle := hpre.length_le
  rw [bd_s n1, br_f (by simp; omega), br_t (decide_eq_true (by omega)), gd_t (decide_eq_true (by omega)), Int.toNat_natCast, ← List.prefix_iff_eq_take.1 hpre, bd_s (places_e (by omega) hsm (by omega) (by omega))]
 ·have hDk : D % L.length ≠ k := by rw [hh]; exact fun g => hc g.symm
  have hst : stp (more L k (TEntry.mk 9 true (TTxn.mk 0 0 [] []))) D := (stp_ne hDk).2 d1
  obtain ⟨n1, n2⟩ := merge_e hM (fu := 1000) (by omega) hst hno d3
  rw [more_len, hh] at n2
  rw [hord] at n1
  rw [bd_s n1, br_t (by simp; omega), jn_e, bd_s n2, br_t (by simp), bd_s (places_e (by omega) hsm (by omega) (by omega))]
end Go.Proofs.Ytepaajbkmkclnaa.Told.PureMergeStops
