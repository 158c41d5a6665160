/- Who has had its turn has it no more. -/
import Derived.Test.YtknkeabmjleoiaaTFold1
namespace Go.Proofs.Ytknkeabmjleoiaa.Told.JF
open Go Go.Proofs.Ytknkeabmjleoiaa.Vam Go.Proofs.Ytknkeabmjleoiaa.Told Go.Proofs.Ytknkeabmjleoiaa.Told.CF Go.Proofs.Ytknkeabmjleoiaa.Told.ST
set_option linter.unusedSimpArgs false
set_option linter.unusedVariables false
def seqOf (t : Int) : List TSeat → Int
 | [] => 0
 | v :: R => bif v.Session == t then v.Seq else seqOf t R
theorem seqOf_hi {t : Int} : ∀ {l : List TSeat}, (∀ v ∈ l, t < v.Session) → seqOf t l = 0
 | [], _ => rfl
 | v :: R, h => by
  have := h v (by simp)
  simp only [seqOf]
  rw [beq_eq_false_iff_ne.2 (by omega)]
  exact seqOf_hi fun v hv => h v (by simp [hv])
theorem turnF_seq {t s p : Int} (hs1 : 1 ≤ s) : ∀ {l : List TSeat}, SF.Srt l → (turnF l t s p).2 = decide (s > seqOf t l) ∧ ((turnF l t s p).2 = false → (turnF l t s p).1 = l) ∧ ∀ u, seqOf u (turnF l t s p).1 = bif (t == u) && decide (s > seqOf t l) then s else seqOf u l
 | [], _ => by
  refine ⟨?_, fun h => by simp [turnF] at h, fun u => ?_⟩
  ·rw [turnF, seqOf, decide_eq_true (by omega)]
  ·rw [show seqOf t [] = 0 from rfl, decide_eq_true (show s > 0 by omega), Bool.and_true]; rfl
 | v :: R, h => by
  obtain ⟨h1, h2⟩ := List.pairwise_cons.1 h
  obtain ⟨i1, i2, i3⟩ := turnF_seq (t := t) (s := s) (p := p) hs1 h2
  simp only [turnF]
  by_cases a : v.Session < t
  ·rw [decide_eq_true a]
   simp only [cond_true]
   have e : seqOf t (v :: R) = seqOf t R := by
    simp only [seqOf]; rw [beq_eq_false_iff_ne.2 (by omega)]; rfl
   rw [e]
   refine ⟨i1, fun g => by rw [i2 g], fun u => ?_⟩
   simp only [seqOf]
   rw [i3 u]
   cases g : (v.Session == u)
   ·rfl
   ·have : v.Session = u := by simpa using g
    rw [show (t == u) = false from beq_eq_false_iff_ne.2 (by omega)]; rfl
  ·rw [decide_eq_false a]
   simp only [cond_false]
   by_cases b : v.Session = t
   ·rw [b, beq_self_eq_true]
    have e : seqOf t (v :: R) = v.Seq := by simp only [seqOf]; rw [b, beq_self_eq_true]; rfl
    rw [e]
    simp only [cond_true]
    by_cases c : v.Seq ≥ s
    ·rw [decide_eq_true c, decide_eq_false (by omega)]
     refine ⟨rfl, fun _ => rfl, fun u => ?_⟩
     rw [Bool.and_false]; rfl
    ·rw [decide_eq_false c, decide_eq_true (by omega)]
     refine ⟨rfl, fun g => by simp at g, fun u => ?_⟩
     simp only [cond_false, seqOf]
     rw [b, Bool.and_true]
     cases (t == u) <;> rfl
   ·rw [beq_eq_false_iff_ne.2 b]
    have e : seqOf t (v :: R) = 0 := seqOf_hi fun w hw => by
     rcases List.mem_cons.1 hw with rfl | hw
     ·omega
     ·have := h1 w hw; omega
    rw [e, decide_eq_true (show s > 0 by omega)]
    refine ⟨rfl, fun g => by simp at g, fun u => ?_⟩
    simp only [cond_false]
    rw [Bool.and_true, seqOf]
theorem step_seats (b : TBench) (t : TTxn) : (stepF b t).seats = (turnF b.seats t.Session t.Seq (posF b)).1 := by
 unfold stepF
 cases (turnF b.seats t.Session t.Seq (posF b)).2
 ·rfl
 ·cases hold t.Reads b.store.Chains <;> rfl
end Go.Proofs.Ytknkeabmjleoiaa.Told.JF
