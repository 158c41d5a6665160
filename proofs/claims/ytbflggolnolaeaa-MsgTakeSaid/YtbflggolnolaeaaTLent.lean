/- Bytes that are lent: what Lent makes, and that Back sees that nothing was written. -/
import Derived.Test.YtbflggolnolaeaaFitMsgTake
import Derived.Test.YtbflggolnolaeaaTMath
namespace Go.Proofs.Ytbflggolnolaeaa.Told.LB
open Go Go.Proofs.Ytbflggolnolaeaa.Vam Go.Proofs.Ytbflggolnolaeaa.Told
set_option linter.unusedSimpArgs false
set_option linter.unusedVariables false
def fl (i : Int) : Int := w8 (w64 (85 + Int.tmod i 5))
def tail6 (n : Nat) : List Int := (List.range 6).map fun i => fl ((n + i : Nat) : Int)
theorem tail6_len (n : Nat) : (tail6 n).length = 6 := by simp [tail6]
theorem tail6_at (l : List Int) (i : Nat) (h0 : l.length ≤ i) (h1 : i < l.length + 6) : (l ++ tail6 l.length)[i]? = some (fl (i : Int)) := by
 unfold tail6
 rw [List.getElem?_append_right h0]
 have : i - l.length < 6 := by omega
 have hi : l.length + (i - l.length) = i := by omega
 rw [List.getElem?_map, List.getElem?_range this]
 simp only [Option.map_some, hi]
def Inv1 (l x : List Int) (i : Int) : Prop := x.length = l.length + 6 ∧ 0 ≤ i ∧ ∀ j : Nat, (j : Int) < i → j < x.length → x[j]? = some (fl (j : Int))
theorem Inv1.step {l x : List Int} {i : Int} (h : Inv1 l x i) : Inv1 l (x.set i.toNat (fl i)) (i + 1) := by
 obtain ⟨h1, h2, h3⟩ := h
 refine ⟨by simpa using h1, by omega, fun j hj hl => ?_⟩
 have hl' : j < x.length := by simpa using hl
 by_cases e : j = i.toNat
 ·subst e
  rw [List.getElem?_set_self (by omega)]
  congr 2
  omega
 ·rw [List.getElem?_set_ne (by omega)]
  exact h3 j (by omega) hl'
def Inv2 (l x : List Int) (i : Int) : Prop := x.length = l.length + 6 ∧ 0 ≤ i ∧ (∀ j : Nat, (j : Int) < i → j < l.length → x[j]? = l[j]?) ∧ ∀ j : Nat, l.length ≤ j → j < x.length → x[j]? = some (fl (j : Int))
theorem Inv2.step {l x : List Int} {i : Int} (h : Inv2 l x i) (hi : i < (l.length : Int)) (v : Int) (hv : l[i.toNat]? = some v) : Inv2 l (x.set i.toNat v) (i + 1) := by
 obtain ⟨h1, h2, h3, h4⟩ := h
 refine ⟨by simpa using h1, by omega, fun j hj hl => ?_, fun j hj hl => ?_⟩
 ·by_cases e : j = i.toNat
  ·subst e; rw [List.getElem?_set_self (by omega), hv]
  ·rw [List.getElem?_set_ne (by omega)]; exact h3 j (by omega) hl
 ·rw [List.getElem?_set_ne (by omega)]; exact h4 j hj (by simpa using hl)
theorem Inv2.full {l x : List Int} {i : Int} (h : Inv2 l x i) (hi : ¬ i < (l.length : Int)) : x = l ++ tail6 l.length := by
 obtain ⟨h1, h2, h3, h4⟩ := h
 have ht := tail6_len l.length
 apply List.ext_getElem?
 intro j
 by_cases hj : j < l.length
 ·rw [h3 j (by omega) hj, List.getElem?_append_left hj]
 ·by_cases hj6 : j < l.length + 6
  ·rw [h4 j (by omega) (by omega), tail6_at l j (by omega) hj6]
  ·rw [List.getElem?_eq_none (by omega), List.getElem?_eq_none (by simp [ht]; omega)]
theorem fill1 (fu : Nat) (l : List Int) (hl : l.length ≤ 1000) : ∀ (d n : Nat) (x : List Int) (i : Int), Inv1 l x i → (x.length : Int) ≤ i + (d : Int) → d < n → ∃ y, diwanlaw0_Lent.lp4 fu l n x i = some y ∧ Inv2 l y 0
 | d, 0, x, i, h, hd, hn => absurd hn (by omega)
 | 0, n + 1, x, i, h, hd, hn => by
  rw [diwanlaw0_Lent.lp4, br_f (decide_eq_false (by omega))]
  exact ⟨x, rfl, h.1, by decide, fun j hj => by omega, fun j _ hj => h.2.2 j (by omega) hj⟩
 | d + 1, n + 1, x, i, h, hd, hn => by
  have h0 := h.2.1
  have h1 := h.1
  rw [diwanlaw0_Lent.lp4]
  by_cases hi : i < (x.length : Int)
  ·rw [br_t (decide_eq_true hi), ix_s h0 (List.getElem?_eq_getElem (by omega)), w64_id (n := i + 1) (by omega) (by omega)]
   exact fill1 fu l hl d n _ _ h.step (by rw [List.length_set]; omega) (by omega)
  ·rw [br_f (decide_eq_false hi)]
   exact ⟨x, rfl, h.1, by decide, fun j hj => by omega, fun j _ hj => h.2.2 j (by omega) hj⟩
theorem fill2 (fu : Nat) (l : List Int) (hl : l.length ≤ 1000) : ∀ (d n : Nat) (x : List Int) (i : Int), Inv2 l x i → (l.length : Int) ≤ i + (d : Int) → d < n → diwanlaw0_Lent.lp11 fu l n x i = some (l ++ tail6 l.length)
 | d, 0, x, i, h, hd, hn => absurd hn (by omega)
 | 0, n + 1, x, i, h, hd, hn => by
  rw [diwanlaw0_Lent.lp11, br_f (decide_eq_false (by omega)), h.full (by omega)]
 | d + 1, n + 1, x, i, h, hd, hn => by
  have h0 := h.2.1
  have h1 := h.1
  rw [diwanlaw0_Lent.lp11]
  by_cases hi : i < (l.length : Int)
  ·have hg : l[i.toNat]? = some (l[i.toNat]'(by omega)) := List.getElem?_eq_getElem (by omega)
   rw [br_t (decide_eq_true hi), ix_s h0 hg, ix_s h0 (List.getElem?_eq_getElem (by omega)), w64_id (n := i + 1) (by omega) (by omega)]
   exact fill2 fu l hl d n _ _ (h.step hi _ hg) (by omega) (by omega)
  ·rw [br_f (decide_eq_false hi), h.full hi]
theorem lent_e {fu : Nat} {l : List Int} (hl : l.length ≤ 1000) (hf : l.length + 6 < fu) : diwanlaw0_Lent fu l = some (l.length, l ++ tail6 l.length) := by
 unfold diwanlaw0_Lent
 have e6 : w64 ((l.length : Int) + 6) = ((l.length + 6 : Nat) : Int) := by rw [w64_id (by omega) (by omega)]; omega
 rw [e6, gd_t (decide_eq_true (by omega)), Int.toNat_natCast]
 obtain ⟨y, g1, g2⟩ := fill1 fu l hl (l.length + 6) fu (List.replicate (l.length + 6) 0) 0 ⟨by simp, by decide, fun j hj => by omega⟩ (by simp) hf
 rw [bd_s g1, bd_s (fill2 fu l hl l.length fu y 0 g2 (by omega) (by omega)), gd_t (decide_eq_true (by rw [List.length_append, tail6_len]; omega)), gd_t ?_, Int.toNat_natCast]
 cases h : l ++ tail6 l.length with
 | nil => have := congrArg List.length h; simp [tail6_len] at this
 | cons => rfl
theorem back_lp (fu : Nat) (l : List Int) (hl : l.length ≤ 1000) : ∀ (d n : Nat) (i : Nat), l.length ≤ i → l.length + 6 ≤ i + d → d < n → diwanlaw0_Back.lp5 fu l.length (l ++ tail6 l.length) l n (i : Int) = some (.inl ())
 | d, 0, i, h0, hd, hn => absurd hn (by omega)
 | d, n + 1, i, h0, hd, hn => by
  have e6 : w64 ((l.length : Int) + 6) = ((l.length + 6 : Nat) : Int) := by rw [w64_id (by omega) (by omega)]; omega
  have ht := tail6_len l.length
  rw [diwanlaw0_Back.lp5, e6]
  by_cases hi : i < l.length + 6
  ·have hx := tail6_at l i h0 hi
   rw [br_t (decide_eq_true (by omega)), gd_t (decide_eq_true (by rw [List.length_append, ht]; omega)), Int.toNat_natCast, List.take_of_length_le (by simp [ht]), ix_n hx, br_f (b := fl (i : Int) != _) (by show (fl (i : Int) != fl (i : Int)) = false; simp), w64_id (n := (i : Int) + 1) (by omega) (by omega)]
   obtain ⟨d, rfl⟩ : ∃ e, d = e + 1 := ⟨d - 1, by omega⟩
   exact back_lp fu l hl d n (i + 1) (by omega) (by omega) (by omega)
  ·rw [br_f (decide_eq_false (by omega))]
theorem back_e {fu : Nat} {l : List Int} (hl : l.length ≤ 1000) (hf : 7 ≤ fu) : diwanlaw0_Back fu l.length (l ++ tail6 l.length) l = some true := by
 unfold diwanlaw0_Back
 have ht := tail6_len l.length
 have e6 : w64 ((l.length : Int) + 6) = ((l.length + 6 : Nat) : Int) := by rw [w64_id (by omega) (by omega)]; omega
 rw [List.take_left, br_f (by simp), e6, gd_t (decide_eq_true (by rw [List.length_append, ht]; omega)), bd_s (back_lp fu l hl 6 fu l.length (Nat.le_refl _) (Nat.le_refl _) (by omega))]
end Go.Proofs.Ytbflggolnolaeaa.Told.LB
