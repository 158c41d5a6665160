/- Chains: the version at a position, what is trimmed. -/
import Derived.Test.YthjpcfbfiaenaaaTCh1
namespace Go.Proofs.Ythjpcfbfiaenaaa.Told.CF
open Go Go.Proofs.Ythjpcfbfiaenaaa.Vam Go.Proofs.Ythjpcfbfiaenaaa.Told
set_option linter.unusedSimpArgs false
set_option linter.unusedVariables false
def upg (p : Int) : List TVersion → Nat → Nat → Nat
 | [], _, n => n
 | v :: r, i, n => upg p r (i + 1) (bif decide (v.Pos ≤ p) then i + 1 else n)
theorem upg_hi (p : Int) : ∀ (B : List TVersion) (i n : Nat), (∀ v ∈ B, p < v.Pos) → upg p B i n = n
 | [], _, _, _ => rfl
 | v :: r, i, n, h => by
  have := h v (by simp)
  simp only [upg]; rw [decide_eq_false (by omega)]
  exact upg_hi p r _ _ (fun x hx => h x (by simp [hx]))
theorem upg_lo (p : Int) : ∀ (A B : List TVersion) (v : TVersion) (i n : Nat), v.Pos ≤ p → (∀ v ∈ B, p < v.Pos) → upg p (A ++ v :: B) i n = i + A.length + 1
 | [], B, v, i, n, hv, hB => by
  simp only [List.nil_append, upg]; rw [decide_eq_true hv, upg_hi p B _ _ hB]; rfl
 | a :: A, B, v, i, n, hv, hB => by
  simp only [List.cons_append, upg]; rw [upg_lo p A B v _ _ hv hB]; simp; omega
theorem cut (p : Int) : ∀ l : List TVersion, (∀ v ∈ l, p < v.Pos) ∨ ∃ A v B, l = A ++ v :: B ∧ v.Pos ≤ p ∧ ∀ x ∈ B, p < x.Pos
 | [] => .inl (by simp)
 | a :: l => by
  rcases cut p l with h | ⟨A, v, B, rfl, h1, h2⟩
  ·by_cases ha : a.Pos ≤ p
   ·exact .inr ⟨[], a, l, rfl, ha, h⟩
   ·refine .inl fun v hv => ?_
    rcases List.mem_cons.1 hv with rfl | hv
    ·omega
    ·exact h v hv
  ·exact .inr ⟨a :: A, v, B, rfl, h1, h2⟩
def none0 : TVersion := TVersion.mk 0 ByteArray.empty false
end Go.Proofs.Ythjpcfbfiaenaaa.Told.CF
