/- What seat's functions come to: a row that is sorted by session. -/
import Derived.Test.YtknkeabmjleoiaaFitJudgeMap
import Derived.Test.YtknkeabmjleoiaaTMath
namespace Go.Proofs.Ytknkeabmjleoiaa.Told.SF
open Go Go.Proofs.Ytknkeabmjleoiaa.Vam Go.Proofs.Ytknkeabmjleoiaa.Told
set_option linter.unusedSimpArgs false
set_option linter.unusedVariables false
theorem cmp_e (x y : Int) : cmp_Compare_int x y = some (if x < y then -1 else if x > y then 1 else 0) := by
 unfold cmp_Compare_int cmp_isNaN_int
 rw [bd_s rfl, bd_s rfl, br_f (by simp), br_f (by simp)]
 by_cases h : x < y
 ·rw [br_t (decide_eq_true h), if_pos h]
 ·rw [br_f (decide_eq_false h), if_neg h]
  by_cases h' : x > y
  ·rw [br_t (decide_eq_true h'), if_pos h']
  ·rw [br_f (decide_eq_false h'), if_neg h']
theorem find1_e (s : TSeat) (t : Int) : seat_seats_find_1 s t = some (if s.Session < t then -1 else if s.Session > t then 1 else 0) := by
 unfold seat_seats_find_1
 rw [bd_s (cmp_e _ _)]
theorem half {i j : Nat} (h : i + j ≤ 4611686018427387904) : w64 (vshr .u64 (IntKind.u64.wrap (w64 ((i : Int) + (j : Int)))) 1) = (((i + j) / 2 : Nat) : Int) := by
 rw [w64_id (n := (i : Int) + j) (by omega) (by omega)]
 have e1 : IntKind.u64.wrap ((i : Int) + (j : Int)) = ((i + j : Nat) : Int) := by
  simp [IntKind.wrap, IntKind.min, IntKind.max, IntKind.signed, IntKind.bits]; omega
 rw [e1]
 have e2 : vshr .u64 ((i + j : Nat) : Int) 1 = (((i + j) / 2 : Nat) : Int) := by
  show ((i + j : Nat) : Int).fdiv (2 ^ (min (1 : Int).toNat IntKind.u64.bits)) = _
  have : min (1 : Int).toNat IntKind.u64.bits = 1 := rfl
  rw [this, Int.fdiv_eq_ediv_of_nonneg _ (by decide)]
  omega
 rw [e2, w64_id (by omega) (by omega)]
theorem bs (fu : Nat) (A B : List TSeat) (t L : Int) (hA : ∀ v ∈ A, v.Session < t) (hB : ∀ v ∈ B, t ≤ v.Session) (hl : (A ++ B).length ≤ 1000000) : ∀ (n lo hi : Nat), lo ≤ A.length → A.length ≤ hi → hi ≤ (A ++ B).length → hi - lo < n →
  slices_BinarySearchFunc_api_Seat_int.lp4 fu (A ++ B) t L n (lo : Int) (hi : Int) = some (A.length : Int)
 | 0, lo, hi, h1, h2, h3, hn => by omega
 | n + 1, lo, hi, h1, h2, h3, hn => by
  rw [slices_BinarySearchFunc_api_Seat_int.lp4]
  by_cases h : lo < hi
  ·rw [br_t (decide_eq_true (by omega)), half (by omega)]
   have hh : (lo + hi) / 2 < (A ++ B).length := by omega
   have hx : (A ++ B)[(lo + hi) / 2]? = some (A ++ B)[(lo + hi) / 2] := List.getElem?_eq_getElem hh
   rw [ix_n hx, bd_s (find1_e _ _)]
   by_cases hA' : (lo + hi) / 2 < A.length
   ·have hs : (A ++ B)[(lo + hi) / 2].Session < t := by
     rw [List.getElem_append_left hA']; exact hA _ (List.getElem_mem _)
    rw [if_pos hs, br_t (by rfl), w64_id (by omega) (by omega), show (((lo + hi) / 2 : Nat) : Int) + 1 = (((lo + hi) / 2 + 1 : Nat) : Int) by omega]
    exact bs fu A B t L hA hB hl n ((lo + hi) / 2 + 1) hi (by omega) h2 h3 (by omega)
   ·have hs : t ≤ (A ++ B)[(lo + hi) / 2].Session := by
     rw [List.getElem_append_right (by omega)]; exact hB _ (List.getElem_mem _)
    rw [if_neg (by omega), br_f (by split <;> rfl)]
    exact bs fu A B t L hA hB hl n lo ((lo + hi) / 2) h1 (by omega) (by omega) (by omega)
  ·rw [br_f (decide_eq_false (by omega))]
   congr 2; omega
def hit (B : List TSeat) (t : Int) : Bool := match B with
 | [] => false
 | v :: _ => v.Session == t
theorem find_e {fu : Nat} {l A B : List TSeat} {t : Int} (e : l = A ++ B) (hA : ∀ v ∈ A, v.Session < t) (hB : ∀ v ∈ B, t ≤ v.Session) (hl : l.length ≤ 1000000) (hf : l.length < fu) : seat_seats_find fu l t = some ((A.length : Int), hit B t) := by
 unfold seat_seats_find slices_BinarySearchFunc_api_Seat_int
 subst e
 have := bs fu A B t ((A ++ B).length : Int) hA hB hl fu 0 (A ++ B).length (Nat.zero_le _) (by simp) (Nat.le_refl _) (by omega)
 simp only [Int.natCast_zero] at this
 rw [bd_s this]
 cases B with
 | nil => rw [br_f (decide_eq_false (by simp))]; rfl
 | cons v R =>
  rw [br_t (lt_mid A R v), ix_mid, bd_s (find1_e _ _)]
  have hv := hB v (by simp)
  show some _ = some _
  congr 2
  simp only [hit]
  by_cases h : v.Session = t
  ·rw [if_neg (by omega), if_neg (by omega), h]; simp
  ·rw [if_neg (by omega), if_pos (by omega)]; simp [h]
theorem clone_e {l : List TSeat} (h : l.length ≤ 1000000) : slices_Clone_api_Seat l = some l := by
 unfold slices_Clone_api_Seat
 rw [gd_t (decide_eq_true (by simp; omega))]
theorem set_mid {α : Type} (A R : List α) (v u : α) : (A ++ v :: R).set A.length u = A ++ u :: R := by
 rw [List.set_append_right _ _ (Nat.le_refl _)]; simp
theorem insert_e {A B : List TSeat} {u : TSeat} (h : (A ++ B).length ≤ 1000000) : slices_Insert_api_Seat (A ++ B) (A.length : Int) [u] = some (A ++ u :: B) := by
 unfold slices_Insert_api_Seat
 have hl : (A ++ B).length = A.length + B.length := by simp
 cases B with
 | nil =>
  have hA : A.length ≤ 1000000 := by simpa using h
  rw [br_f (decide_eq_false (by simp))]
  unfold slices_Insert_api_Seat_part
  rw [gd_t (decide_eq_true (by simp)), br_f (by simp), br_t (by simp), gd_t (decide_eq_true (by simp; omega))]
  simp
 | cons v R =>
  rw [br_t (decide_eq_true (by simp at h ⊢; omega)), Int.toNat_natCast, List.take_left' rfl, List.drop_left' rfl]
  simp
def turnOf (A B : List TSeat) (t seq pos : Int) : List TSeat × Bool := match B with
 | [] => (A ++ [TSeat.mk t seq pos], true)
 | v :: R => bif v.Session == t then (bif decide (v.Seq ≥ seq) then (A ++ v :: R, false) else (A ++ TSeat.mk t seq pos :: R, true)) else (A ++ TSeat.mk t seq pos :: v :: R, true)
theorem turn_e {fu : Nat} {l A B : List TSeat} {t : Int} (seq pos : Int) (e : l = A ++ B) (hA : ∀ v ∈ A, v.Session < t) (hB : ∀ v ∈ B, t ≤ v.Session) (hl : l.length ≤ 1000000) (hf : l.length < fu) : seat_Turn fu l t seq pos = some (turnOf A B t seq pos) := by
 unfold seat_Turn
 rw [bd_s (find_e e hA hB hl hf)]
 dsimp only
 rw [bd_s (clone_e hl)]
 subst e
 cases B with
 | nil =>
  rw [br_f (by rfl), br_f (by rfl), bd_s (insert_e hl)]; rfl
 | cons v R =>
  simp only [turnOf]
  cases h : (v.Session == t)
  ·rw [br_f (by simpa [hit] using h), br_f (by simpa [hit] using h), bd_s (insert_e hl)]; rfl
  ·have hv : v.Session = t := by simpa using h
   rw [br_t (by simpa [hit] using h), ix_mid]
   cases h2 : decide (v.Seq ≥ seq)
   ·rw [br_f rfl, br_t (by simpa [hit] using h), ix_mid, Int.toNat_natCast, set_mid, ix_mid, set_mid, hv]; rfl
   ·rw [br_t rfl]; rfl
def Srt (l : List TSeat) : Prop := l.Pairwise fun a b => a.Session < b.Session
theorem srt_cut : ∀ (l : List TSeat) (t : Int), Srt l → ∃ A B, l = A ++ B ∧ (∀ v ∈ A, v.Session < t) ∧ (∀ v ∈ B, t ≤ v.Session)
 | [], t, _ => ⟨[], [], rfl, by simp, by simp⟩
 | a :: l, t, h => by
  obtain ⟨h1, h2⟩ := List.pairwise_cons.1 h
  by_cases ha : a.Session < t
  ·obtain ⟨A, B, e, g1, g2⟩ := srt_cut l t h2
   refine ⟨a :: A, B, by rw [e]; rfl, fun v hv => ?_, g2⟩
   rcases List.mem_cons.1 hv with rfl | hv
   ·exact ha
   ·exact g1 v hv
  ·refine ⟨[], a :: l, rfl, by simp, fun v hv => ?_⟩
   rcases List.mem_cons.1 hv with rfl | hv
   ·omega
   ·have := h1 v hv; omega
theorem srt_mid {A R : List TSeat} {u : TSeat} (hA : Srt A) (hR : Srt R) (h1 : ∀ v ∈ A, v.Session < u.Session) (h2 : ∀ v ∈ R, u.Session < v.Session) : Srt (A ++ u :: R) := by
 refine List.pairwise_append.2 ⟨hA, List.pairwise_cons.2 ⟨h2, hR⟩, fun a ha b hb => ?_⟩
 rcases List.mem_cons.1 hb with rfl | hb
 ·exact h1 a ha
 ·have := h1 a ha; have := h2 b hb; omega
theorem turn_srt {A B : List TSeat} {t seq pos : Int} (hs : Srt (A ++ B)) (hA : ∀ v ∈ A, v.Session < t) (hB : ∀ v ∈ B, t ≤ v.Session) : Srt (turnOf A B t seq pos).1 ∧ (turnOf A B t seq pos).1.length ≤ (A ++ B).length + 1 := by
 obtain ⟨g1, g2, g3⟩ := List.pairwise_append.1 hs
 cases B with
 | nil => exact ⟨srt_mid g1 List.Pairwise.nil hA (by simp), by simp [turnOf]⟩
 | cons v R =>
  obtain ⟨k1, k2⟩ := List.pairwise_cons.1 g2
  simp only [turnOf]
  cases h : (v.Session == t)
  ·have hv := hB v (by simp)
   have hne : v.Session ≠ t := by simpa using h
   refine ⟨srt_mid g1 g2 hA fun w hw => ?_, by simp; omega⟩
   rcases List.mem_cons.1 hw with rfl | hw
   ·show t < _; omega
   ·have := k1 w hw; show t < _; omega
  ·have hv : v.Session = t := by simpa using h
   cases decide (v.Seq ≥ seq)
   ·exact ⟨srt_mid g1 k2 hA fun w hw => by have := k1 w hw; show t < _; omega, by simp⟩
   ·exact ⟨hs, by simp⟩
end Go.Proofs.Ytknkeabmjleoiaa.Told.SF
