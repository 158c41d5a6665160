/- What seat's functions come to: a row that is sorted by session. -/
import Derived.Test.YthjpcfbfiaenaaaFitSaveUnlike
import Derived.Test.YthjpcfbfiaenaaaTMath
namespace Go.Proofs.Ythjpcfbfiaenaaa.Told.SF
open Go Go.Proofs.Ythjpcfbfiaenaaa.Vam Go.Proofs.Ythjpcfbfiaenaaa.Told
set_option linter.unusedSimpArgs false
set_option linter.unusedVariables false
theorem half {i j : Nat} (h : i + j ≤ 4611686018427387904) : w64 (vshr .u64 (IntKind.u64.wrap (w64 ((i : Int) + (j : Int)))) 1) = (((i + j) / 2 : Nat) : Int) := by
 rw [w64_id (n := (i : Int) + j) (by omega) (by omega)]
 have e1 : IntKind.u64.wrap ((i : Int) + (j : Int)) = ((i + j : Nat) : Int) := by
  simp [IntKind.wrap, IntKind.min, IntKind.max, IntKind.signed, IntKind.bits]; omega
 rw [e1]
 have e2 : vshr .u64 ((i + j : Nat) : Int) 1 = (((i + j) / 2 : Nat) : Int) := by
  show ((i + j : Nat) : Int).fdiv (2 ^ (min (1 : Int).toNat IntKind.u64.bits)) = _
  have : min (1 : Int).toNat IntKind.u64.bits = 1 := rfl
  rw [this, Int.fdiv_eq_ediv_of_nonneg _ (by decide)]
  omega
 rw [e2, w64_id (by omega) (by omega)]
def hit (B : List TSeat) (t : Int) : Bool := match B with
 | [] => false
 | v :: _ => v.Session == t
theorem set_mid {α : Type} (A R : List α) (v u : α) : (A ++ v :: R).set A.length u = A ++ u :: R := by
 rw [List.set_append_right _ _ (Nat.le_refl _)]; simp
def turnOf (A B : List TSeat) (t seq pos : Int) : List TSeat × Bool := match B with
 | [] => (A ++ [TSeat.mk t seq pos], true)
 | v :: R => bif v.Session == t then (bif decide (v.Seq ≥ seq) then (A ++ v :: R, false) else (A ++ TSeat.mk t seq pos :: R, true)) else (A ++ TSeat.mk t seq pos :: v :: R, true)
def Srt (l : List TSeat) : Prop := l.Pairwise fun a b => a.Session < b.Session
theorem srt_cut : ∀ (l : List TSeat) (t : Int), Srt l → ∃ A B, l = A ++ B ∧ (∀ v ∈ A, v.Session < t) ∧ (∀ v ∈ B, t ≤ v.Session)
 | [], t, _ => ⟨[], [], rfl, by simp, by simp⟩
 | a :: l, t, h => by
  obtain ⟨h1, h2⟩ := List.pairwise_cons.1 h
  by_cases ha : a.Session < t
  ·obtain ⟨A, B, e, g1, g2⟩ := srt_cut l t h2
   refine ⟨a :: A, B, by rw [e]; rfl, fun v hv => ?_, g2⟩
   rcases List.mem_cons.1 hv with rfl | hv
   ·exact ha
   ·exact g1 v hv
  ·refine ⟨[], a :: l, rfl, by simp, fun v hv => ?_⟩
   rcases List.mem_cons.1 hv with rfl | hv
   ·omega
   ·have := h1 v hv; omega
theorem srt_mid {A R : List TSeat} {u : TSeat} (hA : Srt A) (hR : Srt R) (h1 : ∀ v ∈ A, v.Session < u.Session) (h2 : ∀ v ∈ R, u.Session < v.Session) : Srt (A ++ u :: R) := by
 refine List.pairwise_append.2 ⟨hA, List.pairwise_cons.2 ⟨h2, hR⟩, fun a ha b hb => ?_⟩
 rcases List.mem_cons.1 hb with rfl | hb
 ·exact h1 a ha
 ·have := h1 a ha; have := h2 b hb; omega
theorem turn_srt {A B : List TSeat} {t seq pos : Int} (hs : Srt (A ++ B)) (hA : ∀ v ∈ A, v.Session < t) (hB : ∀ v ∈ B, t ≤ v.Session) : Srt (turnOf A B t seq pos).1 ∧ (turnOf A B t seq pos).1.length ≤ (A ++ B).length + 1 := by
 obtain ⟨g1, g2, g3⟩ := List.pairwise_append.1 hs
 cases B with
 | nil => exact ⟨srt_mid g1 List.Pairwise.nil hA (by simp), by simp [turnOf]⟩
 | cons v R =>
  obtain ⟨k1, k2⟩ := List.pairwise_cons.1 g2
  simp only [turnOf]
  cases h : (v.Session == t)
  ·have hv := hB v (by simp)
   have hne : v.Session ≠ t := by simpa using h
   refine ⟨srt_mid g1 g2 hA fun w hw => ?_, by simp; omega⟩
   rcases List.mem_cons.1 hw with rfl | hw
   ·show t < _; omega
   ·have := k1 w hw; show t < _; omega
  ·have hv : v.Session = t := by simpa using h
   cases decide (v.Seq ≥ seq)
   ·exact ⟨srt_mid g1 k2 hA fun w hw => by have := k1 w hw; show t < _; omega, by simp⟩
   ·exact ⟨hs, by simp⟩
end Go.Proofs.Ythjpcfbfiaenaaa.Told.SF
