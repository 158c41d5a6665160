/- The plain law of EpochGrows: a log that goes on has the same batches, but for the last, which goes on. -/
import Derived.Test.YtbiokgkfjggbiaaTEp
import Derived.Test.YtbiokgkfjggbiaaTPicks
namespace Go.Proofs.Ytbiokgkfjggbiaa.Told.PureEpochGrows
open Go Go.Proofs.Ytbiokgkfjggbiaa.Vam Go.Proofs.Ytbiokgkfjggbiaa.Told Go.Proofs.Ytbiokgkfjggbiaa.Told.EP Go.Proofs.Ytbiokgkfjggbiaa.Told.PK Go.Proofs.Ytbiokgkfjggbiaa.Ep
set_option linter.unusedSimpArgs false
set_option linter.unusedVariables false
theorem begun_e : diwanlaw13_begun = some true := by kernel_rfl
def Ext (A B : List (List Int)) : Prop := A.length ≤ B.length ∧ ∀ i a, A[i]? = some a → ∃ t, B[i]? = some (a ++ t) ∧ (i + 1 < A.length → t = [])
theorem Ext.refl (A : List (List Int)) : Ext A A := ⟨Nat.le_refl _, fun i a h => ⟨[], by simpa using h, fun _ => rfl⟩⟩
theorem Ext.trans {A B C : List (List Int)} (h : Ext A B) (k : Ext B C) : Ext A C := by
 refine ⟨Nat.le_trans h.1 k.1, fun i a ha => ?_⟩
 obtain ⟨t, h1, h2⟩ := h.2 i a ha
 obtain ⟨s, k1, k2⟩ := k.2 i _ h1
 refine ⟨t ++ s, by rw [← List.append_assoc]; exact k1, fun hi => ?_⟩
 rw [h2 hi, k2 (by have := h.1; omega)]; rfl
theorem Ext.step (A : List (List Int)) (p : Int) (b : Bool) : Ext A (stepR A p b) := by
 cases b
 ·refine ⟨(stepR_len A p false).1, fun i a ha => ?_⟩
  have hi := (List.getElem?_eq_some_iff.1 ha).1
  show ∃ t, (A.set (A.length - 1) _)[i]? = some (a ++ t) ∧ _
  by_cases e : i = A.length - 1
  ·subst e
   refine ⟨[p], ?_, fun h => by omega⟩
   rw [List.getElem?_set_self (by omega)]
   unfold rd_L9
   have it : ((A.length : Int) - 1).toNat = A.length - 1 := by omega
   rw [it, List.getD_eq_getElem?_getD, ha]; rfl
  ·refine ⟨[], ?_, fun _ => rfl⟩
   rw [List.getElem?_set_ne (by omega), ha]; simp
 ·refine ⟨(stepR_len A p true).1, fun i a ha => ⟨[], ?_, fun _ => rfl⟩⟩
  have hi := (List.getElem?_eq_some_iff.1 ha).1
  show (A ++ [[]])[i]? = _
  rw [List.getElem?_append_left hi, ha]; simp
theorem Ext.run : ∀ (ys : List Bool) (i : Nat) (A : List (List Int)), Ext A (runR i ys A)
 | [], i, A => Ext.refl A
 | b :: ys, i, A => (Ext.step A _ b).trans (Ext.run ys (i + 1) _)
theorem runR_app : ∀ (xs ys : List Bool) (i : Nat) (A : List (List Int)), runR i (xs ++ ys) A = runR (i + xs.length) ys (runR i xs A)
 | [], ys, i, A => rfl
 | x :: xs, ys, i, A => by
  simp only [List.cons_append, runR, List.length_cons]
  rw [runR_app xs ys (i + 1)]
  congr 1; omega
theorem cut_ext (l : List TEntry) (k : Nat) : Ext (cutB (l.take k)) (cutB l) := by
 have e : sealsOf l = sealsOf (l.take k) ++ sealsOf (l.drop k) := by
  unfold sealsOf; rw [← List.map_append, List.take_append_drop]
 unfold cutB
 rw [e, runR_app]
 exact Ext.run _ _ _
theorem inner (fu : Nat) (v : Int) (l : List TEntry) (A B : List (List Int)) (i : Nat) (a t : List Int) (ha : A[i]? = some a) (hb : B[i]? = some (a ++ t)) (hl : a.length ≤ 1000000) : ∀ (d j n : Nat), j + d = a.length → d < n → diwanlaw13_EpochGrows.lp26 fu v l A B (i : Int) n (j : Int) = some (.inl ())
 | 0, j, n, h, hn => by
  obtain ⟨n, rfl⟩ : ∃ m, n = m + 1 := ⟨n - 1, by omega⟩
  rw [diwanlaw13_EpochGrows.lp26, ix_n ha, br_f (decide_eq_false (by omega))]
 | d + 1, j, n, h, hn => by
  obtain ⟨n, rfl⟩ : ∃ m, n = m + 1 := ⟨n - 1, by omega⟩
  have hj : a[j]? = some a[j] := List.getElem?_eq_getElem (by omega)
  have hj2 : (a ++ t)[j]? = some a[j] := by rw [List.getElem?_append_left (by omega)]; exact hj
  have hw : w64 ((j : Int) + 1) = ((j + 1 : Nat) : Int) := by rw [w64_id (by omega) (by omega)]; omega
  rw [diwanlaw13_EpochGrows.lp26, ix_n ha, br_t (decide_eq_true (by omega)), ix_n ha, ix_n hj, ix_n hb, ix_n hj2, br_f (by simp), hw]
  exact inner fu v l A B i a t ha hb hl d (j + 1) n (by omega) (by omega)
theorem outer (fu : Nat) (v : Int) (l : List TEntry) (A B : List (List Int)) (h : Ext A B) (hl : A.length ≤ 1000000) (hr : ∀ r ∈ A, r.length ≤ 1000000 ∧ r.length < fu) : ∀ (d i n : Nat), i + d = A.length → d < n → diwanlaw13_EpochGrows.lp15 fu v l A B n (i : Int) = some (.inl ())
 | 0, i, n, hi, hn => by
  obtain ⟨n, rfl⟩ : ∃ m, n = m + 1 := ⟨n - 1, by omega⟩
  rw [diwanlaw13_EpochGrows.lp15, br_f (decide_eq_false (by omega))]
 | d + 1, i, n, hi, hn => by
  obtain ⟨n, rfl⟩ : ∃ m, n = m + 1 := ⟨n - 1, by omega⟩
  have ha : A[i]? = some A[i] := List.getElem?_eq_getElem (by omega)
  obtain ⟨t, hb, ht⟩ := h.2 i _ ha
  obtain ⟨r1, r2⟩ := hr A[i] (List.getElem_mem (by omega))
  have hw : w64 ((i : Int) + 1) = ((i + 1 : Nat) : Int) := by rw [w64_id (by omega) (by omega)]; omega
  have inn := inner fu v l A B i A[i] t ha hb r1 A[i].length 0 fu (by omega) r2
  simp only [Int.natCast_zero] at inn
  have next := outer fu v l A B h hl hr d (i + 1) n (by omega) (by omega)
  rw [diwanlaw13_EpochGrows.lp15, br_t (decide_eq_true (by omega)), jn_e, hw]
  by_cases hlast : i + 1 < A.length
  ·have ht0 := ht hlast
   subst ht0
   rw [br_t (decide_eq_true (by omega)), ix_n ha, ix_n hb, br_f (by simp), ix_n ha, ix_n hb, br_f (decide_eq_false (by simp)), bd_s inn]
   exact next
  ·rw [br_f (decide_eq_false (by omega)), ix_n ha, ix_n hb, br_f (decide_eq_false (by simp; omega)), bd_s inn]
   exact next
theorem holds (picks : List Int) (n_v : Int) (k0 : okL (okI .u8) picks) (k1 : okI .u8 n_v) : ∃ fu, diwanlaw13_EpochGrows fu picks n_v = some true := by
 refine ⟨100, ?_⟩
 unfold diwanlaw13_EpochGrows
 rw [bd_s begun_e, br_f (b := !true) rfl]
 by_cases h1 : (picks.length : Int) > 150
 ·rw [br_t (decide_eq_true h1)]
 have hn := okI_u8 k1
 obtain ⟨N, rfl⟩ : ∃ N : Nat, n_v = (N : Int) := ⟨n_v.toNat, by omega⟩
 have ht : w64 (Int.tmod (N : Int) 16) = ((N % 16 : Nat) : Int) := by
  have : Int.tmod (N : Int) 16 = ((N % 16 : Nat) : Int) := by simp [Int.tmod]
  rw [this, w64_id (by omega) (by omega)]
 obtain ⟨l, o', e1, e2, e3, e4⟩ := log_e (fu := 100) (N := 15) (by omega) (by omega) (by omega) (made_inv k0.2 (by omega))
 have e1' : diwanplay_Picks_Log 100 15 (TPicks.mk picks 0) = some (l, o') := e1
 have hm : diwanplay_Made picks = some (TPicks.mk picks 0) := rfl
 have hl : l.length ≤ 100000 := by omega
 have hlt : (l.take (N % 16)).length ≤ 15 := by rw [List.length_take]; omega
 have hx := cut_ext l (N % 16)
 have hc := cut_len l
 have hc2 := cut_len (l.take (N % 16))
 rw [br_f (decide_eq_false h1), bd_s hm, bd_s e1']
 dsimp only
 rw [ht, gd_t (decide_eq_true (by omega)), Int.toNat_natCast, bd_s (cut_e (by omega)), bd_s (cut_e hl), br_f (decide_eq_false (by omega)), br_f (decide_eq_false (by have := hx.1; omega))]
 have lp := outer 100 (N : Int) l _ _ hx (by omega) (fun r hr => by have := hc2.2.2 r hr; omega) (cutB (l.take (N % 16))).length 0 100 (by omega) (by omega)
 simp only [Int.natCast_zero] at lp
 rw [bd_s lp]
 dsimp only
 rw [bd_s (sealed_e hl), gd_t (decide_eq_true (by omega)), bd_s (sealed_e (by omega)), decide_eq_true (by have := hx.1; omega)]
end Go.Proofs.Ytbiokgkfjggbiaa.Told.PureEpochGrows
