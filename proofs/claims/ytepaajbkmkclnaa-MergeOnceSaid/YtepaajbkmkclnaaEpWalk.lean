/- epoch.Cut and diwanref13.Cut, as the machine by value asks for them. -/
import Derived.Test.YtepaajbkmkclnaaEpCut
import Derived.Test.YtepaajbkmkclnaaEpRef
import Derived.Test.YtepaajbkmkclnaaVamCut
namespace Go.Proofs.Ytepaajbkmkclnaa.Ep
open Go Go.RowKit Go.Proofs.YtepaajbkmkclnaaW.PrintWords Go.Proofs.YtepaajbkmkclnaaW.PrintLast Go.Proofs.YtepaajbkmkclnaaW.PrintMore
set_option linter.unusedVariables false
set_option linter.unusedSimpArgs false
theorem nrow_of {w : World} {base : Nat} {ok : Nat → Prop} {v : Value} {r : List Int} (h : Kd.R (Kd.int .i64) 3 w base ok v r) : Vam.NRow w base v r := by
  obtain ⟨_, inner, ho, hrep⟩ := id h
  rcases ho.2 with ⟨h1, h2⟩ | ⟨g, cap, cur, h1, h2, h3, h4⟩
  · obtain ⟨A, c, h5⟩ := Kd.R_slice h
    rw [h1] at h5
    injection h5 with _ h6 _
    exact .inl ⟨List.length_eq_zero_iff.1 h6.symm, h1⟩
  · subst h1
    obtain ⟨k1, k2, k3⟩ := Kd.R_reads' h
    right
    refine ⟨g, cap, rfl, k2, h2, fun j x hj => ?_⟩
    have hjl := (List.getElem?_eq_some_iff.1 hj).1
    obtain ⟨ad, e, hc⟩ := k3.2.2 (by omega)
    cases e
    obtain ⟨c, _, hk, hcell⟩ := hc j x hj
    have hk' : c = [.int .i64 x] := hk
    subst hk'
    have := hcell 0 _ rfl
    simpa [Addr.add_lit, show (Kd.int .i64).sz = 1 from rfl] using this
theorem nrows_of {w : World} {base : Nat} {ok : Nat → Prop} {v : Value} {rows : List (List Int)} (h : Rows w base ok v rows) (hne : 0 < rows.length) : Vam.NRows w base v rows := by
  obtain ⟨g, cap, rfl, hg, _, _, _⟩ := Kd.S_form h hne
  refine ⟨g, cap, rfl, (Kd.S_reads' h).2.1, hg, fun i r hi => ?_⟩
  have hil := (List.getElem?_eq_some_iff.1 hi).1
  obtain ⟨oki, ce, hcl, hM, hcc, hfc, hoki, hH⟩ := Kd.S_elem h [] (i : Int) (by omega) (by omega)
  obtain ⟨ve, rfl, ge⟩ := hM
  have hcx := hcc 0 _ rfl
  simp only [Nat.add_zero, show ((Kd.slice 3 (Kd.int .i64))).sz = 1 from rfl, Nat.mul_one, Int.toNat_natCast] at hcx
  rw [List.getD_eq_getElem?_getD, Int.toNat_natCast, hi] at ge
  exact ⟨ve, hcx, nrow_of ge⟩
theorem runR_pos (xs : List Bool) : 0 < (runR 0 xs [[]]).length := by
  have := (runR_len xs 0 0 [[]] (fun r hr => by simp at hr; simp [hr])).1
  simp at this; omega
theorem wsame {B : Nat} {w w' : World} (h : Below B w w') : Vam.WSame w w' := ⟨h.os, h.tape, h.output, h.size⟩
theorem cut_walk : Vam.CutWalk Try.prog 26 (fun xs => runR 0 xs [[]]) := by
  intro w A c xs hE hc hlim
  refine (cut_calls A c xs w hE hc hlim).mono fun e w' he => ?_
  obtain ⟨v, rfl, hS, hB⟩ := he
  exact ⟨v, rfl, nrows_of hS (runR_pos xs), fun k hk => hB.block k hk, wsame hB⟩
theorem ref_run (xs : List Bool) (hlim : xs.length ≤ 100000) : ∀ (d n k : Nat) (rows : List (List Int)), n + d = xs.length → d < k → rows = runR 0 (xs.take n) [[]] → refCut.l0 k xs rows (n : Int) = some (runR 0 xs [[]])
  | 0, n, k, rows, h, hk, hr => by
    obtain ⟨k, rfl⟩ : ∃ m, k = m + 1 := ⟨k - 1, by omega⟩
    rw [refCut.l0, if_neg (by omega), hr, List.take_of_length_le (by omega)]
  | d + 1, n, k, rows, h, hk, hr => by
    obtain ⟨k, rfl⟩ : ∃ m, k = m + 1 := ⟨k - 1, by omega⟩
    have hn1 : n < xs.length := by omega
    obtain ⟨l1, l2, l3⟩ := runR_len (xs.take n) 0 0 [[]] (fun r hr => by simp at hr; simp [hr])
    rw [← hr] at l1 l2 l3
    have e1 : xs.take (n + 1) = xs.take n ++ [xs.getD n false] := by
      rw [List.take_add_one, List.getD_eq_getElem?_getD, List.getElem?_eq_getElem hn1]; rfl
    have e2 : (xs.take n).length = n := by rw [List.length_take]; omega
    have hnx : runR 0 (xs.take (n + 1)) [[]] = stepR rows ((n : Int) + 1) (xs.getD n false) := by rw [e1, runR_snoc, ← hr, e2, Nat.zero_add]
    have hw : wrap64 ((n : Int) + 1) = ((n + 1 : Nat) : Int) := by unfold wrap64; omega
    have l1' : 0 < rows.length := by simp at l1; omega
    have l2' : rows.length ≤ 100001 := by simp at l2; omega
    have hw2 : wrap64 ((rows.length : Int) - 1) = (rows.length : Int) - 1 := by unfold wrap64; omega
    have it : ((rows.length : Int) - 1).toNat = rows.length - 1 := by omega
    have hrow : (rd_L9 rows ((rows.length : Int) - 1)).length < 17592186044416 := by
      unfold rd_L9
      rw [List.getD_eq_getElem?_getD]
      cases hx : rows[((rows.length : Int) - 1).toNat]? with
      | none => simp
      | some q => have := l3 q (List.mem_of_getElem? hx); simp at this ⊢; omega
    have hb : rd_B xs (n : Int) = xs.getD n false := by unfold rd_B; rw [Int.toNat_natCast]
    rw [refCut.l0, if_pos (by omega), if_pos (by omega), hb, hw, hw2]
    cases hs : xs.getD n false
    · rw [if_neg (by simp), if_pos (by omega), if_pos (by omega), if_pos hrow, it]
      refine ref_run xs hlim d (n + 1) k _ (by omega) (by omega) ?_
      rw [hnx, hs]; rfl
    · rw [if_pos rfl, if_pos (by omega)]
      refine ref_run xs hlim d (n + 1) k _ (by omega) (by omega) ?_
      rw [hnx, hs]; rfl
theorem ref_walk : Vam.CutWalk Try.prog 12 (fun xs => runR 0 xs [[]]) := by
  intro w A c xs hE hc hlim
  refine (refCut.calls (xs.length + 1) A c xs _ w hE hc (ref_run xs hlim xs.length 0 _ [[]] (by omega) (by omega) rfl)).mono fun e w' he => ?_
  obtain ⟨v, rfl, hS, hB⟩ := he
  exact ⟨v, rfl, nrows_of hS (runR_pos xs), fun k hk => hB.block k hk, wsame hB⟩
end Go.Proofs.Ytepaajbkmkclnaa.Ep
