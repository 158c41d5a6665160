/- Who has had its turn has it no more. -/
import Derived.Test.YtknkeabmjleoiaaTFold1
namespace Go.Proofs.Ytknkeabmjleoiaa.Told.JF
open Go Go.Proofs.Ytknkeabmjleoiaa.Vam Go.Proofs.Ytknkeabmjleoiaa.Told Go.Proofs.Ytknkeabmjleoiaa.Told.CF Go.Proofs.Ytknkeabmjleoiaa.Told.ST
set_option linter.unusedSimpArgs false
set_option linter.unusedVariables false
/-- A session's newest number. -/
def seqOf (t : Int) : List TSeat → Int
  | [] => 0
  | v :: R => bif v.Session == t then v.Seq else seqOf t R
theorem seqOf_hi {t : Int} : ∀ {l : List TSeat}, (∀ v ∈ l, t < v.Session) → seqOf t l = 0
  | [], _ => rfl
  | v :: R, h => by
    have := h v (by simp)
    simp only [seqOf]
    rw [beq_eq_false_iff_ne.2 (by omega)]
    exact seqOf_hi fun v hv => h v (by simp [hv])
theorem turnF_seq {t s p : Int} (hs1 : 1 ≤ s) : ∀ {l : List TSeat}, SF.Srt l → (turnF l t s p).2 = decide (s > seqOf t l) ∧ ((turnF l t s p).2 = false → (turnF l t s p).1 = l) ∧ ∀ u, seqOf u (turnF l t s p).1 = bif (t == u) && decide (s > seqOf t l) then s else seqOf u l
  | [], _ => by
    refine ⟨?_, fun h => by simp [turnF] at h, fun u => ?_⟩
    · rw [turnF, seqOf, decide_eq_true (by omega)]
    · rw [show seqOf t [] = 0 from rfl, decide_eq_true (show s > 0 by omega), Bool.and_true]; rfl
  | v :: R, h => by
    obtain ⟨h1, h2⟩ := List.pairwise_cons.1 h
    obtain ⟨i1, i2, i3⟩ := turnF_seq (t := t) (s := s) (p := p) hs1 h2
    simp only [turnF]
    by_cases a : v.Session < t
    · rw [decide_eq_true a]
      simp only [cond_true]
      have e : seqOf t (v :: R) = seqOf t R := by
        simp only [seqOf]; rw [beq_eq_false_iff_ne.2 (by omega)]; rfl
      rw [e]
      refine ⟨i1, fun g => by rw [i2 g], fun u => ?_⟩
      simp only [seqOf]
      rw [i3 u]
      cases g : (v.Session == u)
      · rfl
      · have : v.Session = u := by simpa using g
        rw [show (t == u) = false from beq_eq_false_iff_ne.2 (by omega)]; rfl
    · rw [decide_eq_false a]
      simp only [cond_false]
      by_cases b : v.Session = t
      · rw [b, beq_self_eq_true]
        have e : seqOf t (v :: R) = v.Seq := by simp only [seqOf]; rw [b, beq_self_eq_true]; rfl
        rw [e]
        simp only [cond_true]
        by_cases c : v.Seq ≥ s
        · rw [decide_eq_true c, decide_eq_false (by omega)]
          refine ⟨rfl, fun _ => rfl, fun u => ?_⟩
          rw [Bool.and_false]; rfl
        · rw [decide_eq_false c, decide_eq_true (by omega)]
          refine ⟨rfl, fun g => by simp at g, fun u => ?_⟩
          simp only [cond_false, seqOf]
          rw [b, Bool.and_true]
          cases (t == u) <;> rfl
      · rw [beq_eq_false_iff_ne.2 b]
        have e : seqOf t (v :: R) = 0 := seqOf_hi fun w hw => by
          rcases List.mem_cons.1 hw with rfl | hw
          · omega
          · have := h1 w hw; omega
        rw [e, decide_eq_true (show s > 0 by omega)]
        refine ⟨rfl, fun g => by simp at g, fun u => ?_⟩
        simp only [cond_false]
        rw [Bool.and_true, seqOf]
theorem step_seats (b : TBench) (t : TTxn) : (stepF b t).seats = (turnF b.seats t.Session t.Seq (posF b)).1 := by
  unfold stepF
  cases (turnF b.seats t.Session t.Seq (posF b)).2
  · rfl
  · cases hold t.Reads b.store.Chains <;> rfl
theorem step_had {b : TBench} {t : TTxn} (hs : SF.Srt b.seats) (h1 : 1 ≤ t.Seq) (h : t.Seq ≤ seqOf t.Session b.seats) : stepF b t = TBench.mk (b.said ++ [3]) b.store b.seats := by
  obtain ⟨g1, g2, _⟩ := turnF_seq (t := t.Session) (s := t.Seq) (p := posF b) h1 hs
  rw [decide_eq_false (by omega)] at g1
  unfold stepF
  rw [g1, g2 g1]; rfl
theorem fold_had : ∀ {l : List TTxn} {b : TBench}, SF.Srt b.seats → (∀ t ∈ l, 1 ≤ t.Seq ∧ t.Seq ≤ seqOf t.Session b.seats) → l.foldl stepF b = TBench.mk (b.said ++ List.replicate l.length 3) b.store b.seats
  | [], b, _, _ => by simp
  | t :: l, b, hs, h => by
    obtain ⟨h1, h2⟩ := h t (by simp)
    show l.foldl stepF (stepF b t) = _
    rw [step_had hs h1 h2, fold_had (b := TBench.mk (b.said ++ [3]) b.store b.seats) hs fun t ht => h t (by simp [ht])]
    simp [List.replicate_succ]
theorem fold_keep (u : Int) : ∀ {l : List TTxn} {b : TBench}, SF.Srt b.seats → (∀ t ∈ l, 1 ≤ t.Seq) → seqOf u b.seats ≤ seqOf u (l.foldl stepF b).seats ∧ SF.Srt (l.foldl stepF b).seats ∧ ∀ t ∈ l, t.Seq ≤ seqOf t.Session (l.foldl stepF b).seats
  | [], b, hs, _ => ⟨Int.le_refl _, hs, fun t ht => by cases ht⟩
  | t :: l, b, hs, h => by
    obtain ⟨g1, g2, g3⟩ := turnF_seq (t := t.Session) (s := t.Seq) (p := posF b) (h t (by simp)) hs
    have k1 : SF.Srt (stepF b t).seats := by rw [step_seats]; exact (turnF_srt _ _ _ hs).1
    have k2 : ∀ u, seqOf u b.seats ≤ seqOf u (stepF b t).seats := fun u => by
      rw [step_seats, g3 u]
      cases q : (t.Session == u)
      · exact Int.le_refl _
      · have e : t.Session = u := by simpa using q
        subst e
        by_cases w : t.Seq > seqOf t.Session b.seats
        · rw [decide_eq_true w]; show _ ≤ t.Seq; omega
        · rw [decide_eq_false w]; exact Int.le_refl _
    have k3 : t.Seq ≤ seqOf t.Session (stepF b t).seats := by
      rw [step_seats, g3 t.Session, beq_self_eq_true]
      by_cases w : t.Seq > seqOf t.Session b.seats
      · rw [decide_eq_true w]; exact Int.le_refl _
      · rw [decide_eq_false w]; show _ ≤ seqOf t.Session b.seats; omega
    have ih := fun u => fold_keep u (l := l) (b := stepF b t) k1 fun t ht => h t (by simp [ht])
    refine ⟨Int.le_trans (k2 u) (ih u).1, (ih u).2.1, fun x hx => ?_⟩
    rcases List.mem_cons.1 hx with rfl | hx
    · exact Int.le_trans k3 (ih x.Session).1
    · exact (ih u).2.2 x hx
end Go.Proofs.Ytknkeabmjleoiaa.Told.JF
