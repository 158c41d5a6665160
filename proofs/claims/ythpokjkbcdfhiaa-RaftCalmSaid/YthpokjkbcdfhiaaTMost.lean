/- What ballot.Most comes to: the greatest that a majority has. -/
import Derived.Test.YthpokjkbcdfhiaaTHeap
namespace Go.Proofs.Ythpokjkbcdfhiaa.Told.HP
open Go Go.Proofs.Ythpokjkbcdfhiaa.Vam Go.Proofs.Ythpokjkbcdfhiaa.Told
set_option linter.unusedSimpArgs false
set_option linter.unusedVariables false
def ge (r : Int) (l : List Int) : Nat := l.countP fun x => decide (r ≤ x)
def mo (r : Int) (l : List Int) : Nat := l.countP fun x => decide (r < x)
theorem major_e {n : Nat} (h : n ≤ 1000000) : ballot_Majority (n : Int) = some ((n / 2 + 1 : Nat) : Int) := by
 unfold ballot_Majority
 rw [Int.tdiv_eq_ediv_of_nonneg (by omega), w64_id (n := (n : Int) / 2) (by omega) (by omega), w64_id (by omega) (by omega)]
 congr 1
theorem most_lp (fu : Nat) (l : List Int) (hl : l.length ≤ 100000) (h0 : ∀ x ∈ l, 0 ≤ x) (hf : l.length + 1 < fu) : ∀ (d i m : Nat) (P R : List Int) (least : Int), i + d = l.length / 2 + 1 → d < m → l.Perm (P ++ R) → Hf (g R) R.length 0 → P.length = i →
  (∀ p ∈ P, ∀ y ∈ R, y ≤ p) → ((P = [] ∧ least = 0) ∨ (least ∈ P ∧ ∀ p ∈ P, least ≤ p)) →
  ∃ r, ballot_Most.lp5 fu l m least (i : Int) R = some r ∧ ((l = [] ∧ r = 0) ∨ (r ∈ l ∧ l.length / 2 + 1 ≤ ge r l ∧ mo r l ≤ l.length / 2))
 | 0, i, m, P, R, least, hid, hm, hp, hh, hP, hPR, hle => by
  obtain ⟨m, rfl⟩ : ∃ k, m = k + 1 := ⟨m - 1, by omega⟩
  rw [ballot_Most.lp5, bd_s (major_e (by omega)), br_f (decide_eq_false (by omega))]
  refine ⟨least, rfl, .inr ?_⟩
  rcases hle with ⟨h, _⟩ | ⟨h1, h2⟩
  ·subst h; simp at hP; omega
  ·refine ⟨hp.mem_iff.2 (by simp [h1]), ?_, ?_⟩
   ·unfold ge
    rw [hp.countP_eq, List.countP_append]
    have : P.countP (fun x => decide (least ≤ x)) = P.length := List.countP_eq_length.2 fun x hx => by simpa using h2 x hx
    omega
   ·unfold mo
    rw [hp.countP_eq, List.countP_append]
    have hR : R.countP (fun x => decide (least < x)) = 0 := List.countP_eq_zero.2 fun y hy => by
     have := hPR least h1 y hy
     simpa using this
    have hPl : P.countP (fun x => decide (least < x)) < P.length := by
     rcases Nat.lt_or_ge (P.countP (fun x => decide (least < x))) P.length with h | h
     ·exact h
     ·have := List.countP_eq_length.1 (Nat.le_antisymm List.countP_le_length h) least h1
      simp at this
    omega
 | d + 1, i, m, P, R, least, hid, hm, hp, hh, hP, hPR, hle => by
  obtain ⟨m, rfl⟩ : ∃ k, m = k + 1 := ⟨m - 1, by omega⟩
  have hlen := hp.length_eq
  rw [List.length_append] at hlen
  rw [ballot_Most.lp5, bd_s (major_e (by omega)), br_t (decide_eq_true (by omega))]
  unfold ballot_heads_Len
  rw [bd_s rfl]
  by_cases hR : 0 < R.length
  ·rw [br_t (decide_eq_true (by omega))]
   obtain ⟨x, R', q1, q2, q3, q4⟩ := pop_e (fu := fu) hR (by omega) (by omega) hh
   have hxR : x ∈ R := q2.mem_iff.2 (by simp)
   have hsub : ∀ y ∈ R', y ∈ R := fun y hy => q2.mem_iff.2 (by simp [hy])
   have hx0 : 0 ≤ x := h0 x (hp.mem_iff.2 (by simp [hxR]))
   rw [bd_s q1]
   dsimp only
   rw [if_neg (by omega), w64_id (by omega) (by omega), show (i : Int) + 1 = ((i + 1 : Nat) : Int) by omega]
   refine most_lp fu l hl h0 hf d (i + 1) m (P ++ [x]) R' x (by omega) (by omega) ?_ q3 (by simp [hP]) ?_ (.inr ⟨by simp, ?_⟩)
   ·refine hp.trans ?_
    rw [List.append_assoc]
    exact List.Perm.append_left P q2
   ·intro p hp' y hy
    rcases List.mem_append.1 hp' with h | h
    ·exact hPR p h y (hsub y hy)
    ·simp at h; subst h; exact q4 y hy
   ·intro p hp'
    rcases List.mem_append.1 hp' with h | h
    ·exact hPR p h x hxR
    ·simp at h; subst h; exact Int.le_refl _
  ·rw [br_f (decide_eq_false (by omega))]
   have hR0 : R = [] := List.length_eq_zero_iff.1 (by omega)
   have hl0 : l = [] := List.length_eq_zero_iff.1 (by omega)
   have hP0 : P = [] := List.length_eq_zero_iff.1 (by rw [hl0] at hlen; simp at hlen; omega)
   refine ⟨least, rfl, .inl ⟨hl0, ?_⟩⟩
   rcases hle with ⟨_, h⟩ | ⟨h, _⟩
   ·exact h
   ·rw [hP0] at h; simp at h
theorem most_e {fu : Nat} {l : List Int} (hl : l.length ≤ 100000) (h0 : ∀ x ∈ l, 0 ≤ x) (hf : l.length + 1 < fu) : ∃ r, ballot_Most fu l = some r ∧ ((l = [] ∧ r = 0) ∨ (r ∈ l ∧ l.length / 2 + 1 ≤ ge r l ∧ mo r l ≤ l.length / 2)) := by
 unfold ballot_Most slices_Clone_int_int
 rw [gd_t (decide_eq_true (by simp; omega)), bd_s rfl]
 obtain ⟨h', q1, q2, q3⟩ := init_e (fu := fu) (h := l) (by omega) hf
 rw [bd_s q1]
 by_cases hnil : l = []
 ·subst hnil
  have : h' = [] := List.length_eq_zero_iff.1 (by simpa using q2.length_eq)
  subst this
  obtain ⟨fu, rfl⟩ : ∃ k, fu = k + 1 := ⟨fu - 1, by omega⟩
  exact ⟨0, rfl, .inl ⟨rfl, rfl⟩⟩
 have hpos : 0 < l.length := List.length_pos_iff.2 hnil
 obtain ⟨r, r1, r2⟩ := most_lp fu l hl h0 hf (l.length / 2 + 1) 0 fu [] h' 0 (by omega) (by omega) (by simpa using q2.symm) q3 rfl (by simp) (.inl ⟨rfl, rfl⟩)
 simp only [Int.natCast_zero] at r1
 rw [bd_s r1]
 exact ⟨r, rfl, r2⟩
theorem ge_le_mo {r r' : Int} (h : r' < r) (l : List Int) : ge r l ≤ mo r' l := List.countP_mono_left fun x _ hx => by simp at hx ⊢; omega
end Go.Proofs.Ythpokjkbcdfhiaa.Told.HP
