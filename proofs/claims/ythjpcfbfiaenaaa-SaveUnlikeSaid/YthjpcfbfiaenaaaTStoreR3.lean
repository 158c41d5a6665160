/- A store's functions by the reference: what is trimmed. -/
import Derived.Test.YthjpcfbfiaenaaaTStore3
import Derived.Test.YthjpcfbfiaenaaaTCh2
import Derived.Test.YthjpcfbfiaenaaaTCh7
namespace Go.Proofs.Ythjpcfbfiaenaaa.Told.ST
open Go Go.Proofs.Ythjpcfbfiaenaaa.Vam Go.Proofs.Ythjpcfbfiaenaaa.Told Go.Proofs.Ythjpcfbfiaenaaa.Told.CF
set_option linter.unusedSimpArgs false
set_option linter.unusedVariables false
theorem keep_tri {p : Int} {l : List TVersion} (h : may 0 l = true) : keep p l = tri p l := by
 rcases cut p l with g | ⟨A, v, B, e, h1, h2⟩
 ·rw [tri_hi g]
  cases l with
  | nil => rfl
  | cons v r => exact keep_hi p v r fun x hx => g x (by simp [hx])
 ·rw [e, tri_lo h1 h2]
  refine keep_lo p A B v (fun x hx => ?_) h1 h2
  have := (may_rise h e).2 x hx
  omega
theorem rtrimS_lp (fu : Nat) (p : Int) (z : TStore) (M M' : Int) : ∀ (r q : List TChain) (out : List TChain) (n : Nat), (q ++ r).length ≤ 1000000 → (∀ c ∈ r, c.L.length ≤ 1000000 ∧ c.L.length < fu ∧ may 0 c.L = true) → out.length ≤ q.length → r.length < n →
  diwanref13_Trim.lp7 fu p (TStore.mk (q ++ r) M) z n (q.length : Int) (TStore.mk out M') = some (TStore.mk (out ++ trs p r) M')
 | [], q, out, n, hl, hc, ho, hn => by
  obtain ⟨n, rfl⟩ : ∃ m, n = m + 1 := ⟨n - 1, by omega⟩
  simp only [List.append_nil]
  rw [diwanref13_Trim.lp7]
  dsimp only
  rw [br_f (nlt_end _)]; simp [trs]
 | c :: r, q, out, n, hl, hc, ho, hn => by
  obtain ⟨n, rfl⟩ : ∃ m, n = m + 1 := ⟨n - 1, by omega⟩
  have e : q ++ c :: r = (q ++ [c]) ++ r := by simp
  have hcc := hc c (by simp)
  have hl' : q.length + 1 + r.length ≤ 1000000 := by simp at hl; omega
  have ih := rtrimS_lp fu p z M M' r (q ++ [c]) (out ++ [TChain.mk c.Key (tri p c.L)]) n (by rw [← e]; exact hl) (fun c h => hc c (by simp [h])) (by simp; omega) (by simp at hn; omega)
  rw [← e] at ih
  rw [diwanref13_Trim.lp7]
  dsimp only
  rw [br_t (lt_mid _ _ _), ix_mid, ix_mid, bd_s (rtrim_e hcc.1 hcc.2.1), keep_tri hcc.2.2, gd_t (decide_eq_true (by simp; omega)), w64_len q r c (by omega), ih]
  simp [trs]
theorem rtrimS_e {fu N : Nat} {s : TStore} (p : Int) (hm : Sml N s.Chains) (hmay : ∀ c ∈ s.Chains, may 0 c.L = true) (hN : N ≤ 1000000) (hf : N < fu) : diwanref13_Trim fu s p = some (trimS s p) := by
 unfold diwanref13_Trim trimS
 cases decide (p ≤ s.Mark)
 ·have := rtrimS_lp fu p (TStore.mk [] 0) s.Mark p s.Chains [] [] fu (by have := hm.1; simp; omega) (fun c hc => by have := hm.2 c hc; exact ⟨by omega, by omega, hmay c hc⟩) (Nat.le_refl _) (by have := hm.1; omega)
  simp only [List.nil_append, List.length_nil, Int.natCast_zero] at this
  rw [br_f rfl, show s = TStore.mk s.Chains s.Mark from rfl, bd_s this]; rfl
 ·rw [br_t rfl]; rfl
end Go.Proofs.Ythjpcfbfiaenaaa.Told.ST
