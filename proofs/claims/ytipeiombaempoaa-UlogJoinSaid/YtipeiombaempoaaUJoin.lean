/- Joins of logs: what was joined is there, and joined again it changes nothing. -/
import Derived.Test.YtipeiombaempoaaUFns
namespace Go.Proofs.Ytipeiombaempoaa.UMath
open Go Go.RowKit Go.Proofs.Ytipeiombaempoaa.Q Go.Proofs.YtipeiombaempoaaW.PrintWords Go.Proofs.YtipeiombaempoaaW.PrintLast Go.Proofs.YtipeiombaempoaaW.PrintMore

/-- A front of what was joined, joined again. -/
theorem join0_again : ∀ (q m : List S39) (n : Nat), join0 (join0 q m) (m.take n) = join0 q m
  | q, [], n => by
    have : join0 q [] = q := by cases q <;> rfl
    rw [this]; simp
    cases q <;> rfl
  | [], b :: bs, n => by
    show join0 (b :: bs) ((b :: bs).take n) = b :: bs
    exact self (b :: bs) n
  | a :: q, b :: bs, n => by
    simp only [join0]
    by_cases h : a.f0 = b.f0
    · rw [if_pos h]
      cases n with
      | zero => rfl
      | succ n =>
        simp only [List.take_succ_cons, join0, h, if_true]
        rw [join0_again q bs n]
    · rw [if_neg h]
      exact self (b :: bs) n
where self : ∀ (l : List S39) (n : Nat), join0 l (l.take n) = l
  | [], n => by simp [join0]
  | a :: l, 0 => rfl
  | a :: l, n + 1 => by simp [join0, self l n]
theorem join0_has : ∀ (q m : List S39) (j : Nat) (h : j < m.length), m.length ≤ (join0 q m).length ∧ ∃ h' : j < (join0 q m).length, (join0 q m)[j].f0 = m[j].f0
  | q, [], j, h => by simp at h
  | [], b :: bs, j, h => by simp only [join0]; exact ⟨Nat.le_refl _, h, trivial⟩
  | a :: q, b :: bs, j, h => by
    simp only [join0]
    by_cases he : a.f0 = b.f0
    · simp only [he, if_true]
      cases j with
      | zero =>
        refine ⟨?_, by simp, he⟩
        have := joinLen q bs
        simp; omega
      | succ j =>
        obtain ⟨h1, h2, h3⟩ := join0_has q bs j (by simpa using h)
        exact ⟨by simp; omega, by simp; omega, by simpa using h3⟩
    · simp only [he, if_false]
      exact ⟨Nat.le_refl _, h, trivial⟩
where joinLen : ∀ (q m : List S39), m.length ≤ (join0 q m).length
  | q, [] => by simp
  | [], b :: bs => Nat.le_refl _
  | a :: q, b :: bs => by
    simp only [join0]
    split
    · have := joinLen q bs; simp; omega
    · exact Nat.le_refl _
theorem joinAgain {l m : List S39} {i : Nat} (hi : i ≤ l.length) (n : Nat) : joinS (joinS l (i : Int) m) (i : Int) (m.take n) = joinS l (i : Int) m := by
  have e : joinS l (i : Int) m = l.take i ++ join0 (l.drop i) m := by
    unfold joinS
    rw [if_neg (by omega), Int.toNat_natCast]
  rw [e]
  have hlen : (l.take i).length = i := by simp; omega
  unfold joinS
  rw [if_neg (by simp; omega), Int.toNat_natCast, List.take_left' hlen, List.drop_left' hlen, join0_again]
theorem joinS_has {l m : List S39} {i j : Nat} (hi : i ≤ l.length) (hj : j < m.length) : ∃ h : i + j < (joinS l (i : Int) m).length, (joinS l (i : Int) m)[i + j].f0 = m[j].f0 := by
  have e : joinS l (i : Int) m = l.take i ++ join0 (l.drop i) m := by
    unfold joinS
    rw [if_neg (by omega), Int.toNat_natCast]
  have hlen : (l.take i).length = i := by simp; omega
  obtain ⟨h1, h2, h3⟩ := join0_has (l.drop i) m j hj
  have hlt : i + j < (joinS l (i : Int) m).length := by rw [e, List.length_append, hlen]; exact Nat.add_lt_add_left h2 i
  refine ⟨hlt, ?_⟩
  rw [← h3]
  have : (joinS l (i : Int) m)[i + j]? = (join0 (l.drop i) m)[j]? := by
    rw [e, List.getElem?_append_right (by rw [hlen]; exact Nat.le_add_right _ _), hlen, Nat.add_sub_cancel_left]
  rw [List.getElem?_eq_getElem hlt, List.getElem?_eq_getElem h2] at this
  rw [Option.some.inj this]
end Go.Proofs.Ytipeiombaempoaa.UMath
