/- Chains: which may be, by the reference. -/
import Derived.Test.YthjpcfbfiaenaaaTCh2
namespace Go.Proofs.Ythjpcfbfiaenaaa.Told.CF
open Go Go.Proofs.Ythjpcfbfiaenaaa.Vam Go.Proofs.Ythjpcfbfiaenaaa.Told
set_option linter.unusedSimpArgs false
set_option linter.unusedVariables false
theorem lpRef (fu : Nat) : ∀ (r q : List TVersion) (n : Nat), (q ++ r).length ≤ 4611686018427387904 → r.length < n → (q = [] ∨ 1 ≤ last q) →
  diwanref13_MayChain.lp3 fu (q ++ r) n (q.length : Int) = some (bif may (last q) r then .inl () else .inr ())
 | [], q, n, hl, hn, hq => by
  obtain ⟨n, rfl⟩ : ∃ m, n = m + 1 := ⟨n - 1, by omega⟩
  simp only [List.append_nil]
  rw [diwanref13_MayChain.lp3, br_f (nlt_end _)]; rfl
 | v :: r, q, n, hl, hn, hq => by
  obtain ⟨n, rfl⟩ : ∃ m, n = m + 1 := ⟨n - 1, by omega⟩
  have e : q ++ v :: r = (q ++ [v]) ++ r := by simp
  have ih := fun h => lpRef fu r (q ++ [v]) n (by rw [← e]; exact hl) (by simp at hn; omega) (.inr h)
  rw [last_snoc, ← e] at ih
  rw [diwanref13_MayChain.lp3, br_t (lt_mid _ _ _), ix_mid, w64_len q r v hl]
  simp only [may]
  cases h0 : decide (v.Pos < 1)
  ·have g0 := of_decide_eq_false h0
   rw [br_f rfl, ih (by omega)]
   have rest : ∀ b : Bool, b = decide (v.Pos ≤ last q) → 
     br b (some (Sum.inr ())) (br (decide ((v.Val.size : Int) > 16)) (some (.inr ())) (br v.Gone (br (!(v.Val.toList == ByteArray.empty.toList)) (some (.inr ())) (some (bif may v.Pos r then Sum.inl () else Sum.inr ()))) (some (bif may v.Pos r then Sum.inl () else Sum.inr ())))) =
     some (bif (bif decide (v.Pos ≤ last q) then false else bif decide ((v.Val.size : Int) > 16) then false else bif v.Gone && !(v.Val.toList == ByteArray.empty.toList) then false else may v.Pos r) then Sum.inl () else Sum.inr ()) := by
    intro b hb
    rw [← hb]
    cases b
    ·cases decide ((v.Val.size : Int) > 16) <;> cases v.Gone <;> cases (v.Val.toList == ByteArray.empty.toList) <;> rfl
    ·rfl
   rcases List.eq_nil_or_concat q with rfl | ⟨q0, u, hu⟩
   ·have hl0 : last [] = 0 := rfl
    rw [br_f (by rfl)]
    simp only [List.nil_append, List.length_nil]
    have hz : (v :: r)[0]? = some v := rfl
    rw [ix_n hz, ix_n hz, ix_n hz]
    have := rest false (by rw [hl0]; exact (decide_eq_false (by omega)).symm)
    rw [br_f rfl] at this
    exact this
   ·rw [List.concat_eq_append] at hu
    have hlen : q.length = q0.length + 1 := by rw [hu]; simp
    have hw : w64 ((q.length : Int) - 1) = (q0.length : Int) := by rw [w64_id (by omega) (by simp at hl; omega)]; omega
    have hx : (q ++ v :: r)[q0.length]? = some u := by rw [hu]; simp
    rw [br_t (decide_eq_true (by omega)), ix_mid, hw, ix_n hx, ix_mid, ix_mid, ix_mid]
    exact rest _ (by rw [hu, last_snoc])
  ·have g0 := of_decide_eq_true h0
   rw [br_t rfl]
   have : decide (v.Pos ≤ last q) = true := decide_eq_true (by
    rcases hq with rfl | hq
    ·show v.Pos ≤ 0; omega
    ·omega)
   rw [this]; rfl
theorem ref_e {l : List TVersion} {fu : Nat} (hl : l.length ≤ 4611686018427387904) (hn : l.length < fu) : diwanref13_MayChain fu l = some (may 0 l) := by
 have := lpRef fu l [] fu hl hn (.inl rfl)
 unfold diwanref13_MayChain
 rw [List.nil_append] at this
 simp only [List.length_nil, Int.natCast_zero] at this
 rw [bd_s this]
 cases h : may (last []) l <;> rw [show may 0 l = may (last []) l from rfl, h] <;> rfl
end Go.Proofs.Ythjpcfbfiaenaaa.Told.CF
