/- Chains: which may be. -/
import Derived.Test.YthjpcfbfiaenaaaTCh1
namespace Go.Proofs.Ythjpcfbfiaenaaa.Told.CF
open Go Go.Proofs.Ythjpcfbfiaenaaa.Vam Go.Proofs.Ythjpcfbfiaenaaa.Told
set_option linter.unusedSimpArgs false
set_option linter.unusedVariables false
def may : Int → List TVersion → Bool
 | _, [] => true
 | p, v :: r => bif decide (v.Pos ≤ p) then false else bif decide ((v.Val.size : Int) > 16) then false else bif v.Gone && !(v.Val.toList == ByteArray.empty.toList) then false else may v.Pos r
theorem may_cons {p : Int} {v : TVersion} {r : List TVersion} (h : may p (v :: r) = true) : p < v.Pos ∧ (v.Val.size : Int) ≤ 16 ∧ (v.Gone = true → (v.Val.toList == ByteArray.empty.toList) = true) ∧ may v.Pos r = true := by
 simp only [may] at h
 cases h1 : decide (v.Pos ≤ p) <;> rw [h1] at h
 ·cases h2 : decide ((v.Val.size : Int) > 16) <;> rw [h2] at h
  ·cases h3 : (v.Gone && !(v.Val.toList == ByteArray.empty.toList)) <;> rw [h3] at h
   ·refine ⟨by have := of_decide_eq_false h1; omega, by have := of_decide_eq_false h2; omega, fun hg => ?_, h⟩
    rw [hg] at h3
    simpa using h3
   ·cases h
  ·cases h
 ·cases h
theorem lpMay (fu : Nat) : ∀ (r q : List TVersion) (p : Int) (n : Nat), (q ++ r).length ≤ 4611686018427387904 → r.length < n →
  chain_May.lp4 fu (q ++ r) ((q ++ r).length : Int) n p (q.length : Int) = some (bif may p r then .inl () else .inr ())
 | [], q, p, n, hl, hn => by
  obtain ⟨n, rfl⟩ : ∃ m, n = m + 1 := ⟨n - 1, by omega⟩
  simp only [List.append_nil]
  rw [chain_May.lp4, br_f (nlt_end _)]; rfl
 | v :: r, q, p, n, hl, hn => by
  obtain ⟨n, rfl⟩ : ∃ m, n = m + 1 := ⟨n - 1, by omega⟩
  have e : q ++ v :: r = (q ++ [v]) ++ r := by simp
  have ih := lpMay fu r (q ++ [v]) v.Pos n (by rw [← e]; exact hl) (by simp at hn; omega)
  rw [← e] at ih
  rw [chain_May.lp4, br_t (lt_mid _ _ _), ix_mid, w64_len q r v hl, ih]
  simp only [may]
  cases h1 : decide (v.Pos ≤ p)
  ·rw [br_f rfl]
   cases h2 : decide ((v.Val.size : Int) > 16)
   ·rw [br_f rfl]
    cases h3 : v.Gone
    ·rw [br_f rfl]; rfl
    ·rw [br_t rfl]
     cases h4 : (v.Val.toList == ByteArray.empty.toList)
     ·rfl
     ·rfl
   ·rw [br_t rfl]; rfl
  ·rw [br_t rfl]; rfl
theorem may_e {l : List TVersion} {fu : Nat} (hl : l.length ≤ 4611686018427387904) (hn : l.length < fu) : chain_May fu l = some (may 0 l) := by
 have := lpMay fu l [] 0 fu hl hn
 unfold chain_May
 rw [List.nil_append] at this
 simp only [List.length_nil, Int.natCast_zero] at this
 rw [bd_s this]
 cases may 0 l <;> rfl
theorem may_rise : ∀ {l : List TVersion} {q : Int}, may q l = true → ∀ {A B : List TVersion} {v : TVersion}, l = A ++ v :: B → q < v.Pos ∧ ∀ x ∈ A, x.Pos < v.Pos
 | [], _, _, A, B, v, e => by simp at e
 | a :: l, q, h, A, B, v, e => by
  obtain ⟨h1, _, _, h4⟩ := may_cons h
  cases A with
  | nil =>
   simp at e
   obtain ⟨rfl, rfl⟩ := e
   exact ⟨h1, by simp⟩
  | cons b A =>
   simp at e
   obtain ⟨rfl, e⟩ := e
   obtain ⟨g1, g2⟩ := may_rise h4 e
   refine ⟨by omega, fun x hx => ?_⟩
   rcases List.mem_cons.1 hx with rfl | hx
   ·exact g1
   ·exact g2 x hx
end Go.Proofs.Ythjpcfbfiaenaaa.Told.CF
