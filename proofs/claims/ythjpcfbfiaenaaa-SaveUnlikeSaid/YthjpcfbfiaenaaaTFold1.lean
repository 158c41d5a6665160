/- A row of transactions is judged: the program's functions. -/
import Derived.Test.YthjpcfbfiaenaaaTStoreC
import Derived.Test.YthjpcfbfiaenaaaTSeat
namespace Go.Proofs.Ythjpcfbfiaenaaa.Told.JF
open Go Go.Proofs.Ythjpcfbfiaenaaa.Vam Go.Proofs.Ythjpcfbfiaenaaa.Told Go.Proofs.Ythjpcfbfiaenaaa.Told.CF Go.Proofs.Ythjpcfbfiaenaaa.Told.ST
set_option linter.unusedSimpArgs false
set_option linter.unusedVariables false
def turnF : List TSeat → Int → Int → Int → List TSeat × Bool
 | [], t, s, p => ([TSeat.mk t s p], true)
 | v :: R, t, s, p => bif decide (v.Session < t) then (v :: (turnF R t s p).1, (turnF R t s p).2) else bif v.Session == t then (bif decide (v.Seq ≥ s) then (v :: R, false) else (TSeat.mk t s p :: R, true)) else (TSeat.mk t s p :: v :: R, true)
theorem turnF_of {t s p : Int} : ∀ {A B : List TSeat}, (∀ v ∈ A, v.Session < t) → (∀ v ∈ B, t ≤ v.Session) → turnF (A ++ B) t s p = SF.turnOf A B t s p
 | [], [], _, _ => rfl
 | [], v :: R, _, hB => by
  have := hB v (by simp)
  simp only [List.nil_append, turnF]
  rw [decide_eq_false (by omega)]; rfl
 | a :: A, B, hA, hB => by
  have ih := turnF_of (s := s) (p := p) (A := A) (B := B) (fun v h => hA v (by simp [h])) hB
  simp only [List.cons_append, turnF]
  rw [decide_eq_true (hA a (by simp)), ih]
  cases B with
  | nil => rfl
  | cons v R =>
   simp only [SF.turnOf, cond_true]
   cases (v.Session == t)
   ·rfl
   ·cases decide (v.Seq ≥ s) <;> rfl
theorem turnF_srt {l : List TSeat} (t s p : Int) (hs : SF.Srt l) : SF.Srt (turnF l t s p).1 ∧ (turnF l t s p).1.length ≤ l.length + 1 := by
 obtain ⟨A, B, e, hA, hB⟩ := SF.srt_cut l t hs
 subst e
 rw [turnF_of hA hB]
 exact SF.turn_srt hs hA hB
def hold (rs : List TRead) (cs : List TChain) : Bool := rs.all fun r => r.Version == last (chainOf r.Key cs)
theorem puts_inv (pos : Int) : ∀ {l : List TWrite} {cs : List TChain} {N : Nat}, Srt cs → Sml N cs → Srt (puts pos l cs) ∧ Sml (N + l.length) (puts pos l cs)
 | [], cs, N, h, g => ⟨h, g⟩
 | w :: l, cs, N, h, g => by
  have hp := put_sml (N := N) pos w (cs := cs)
  obtain ⟨a, b⟩ := puts_inv pos (l := l) (put_srt pos w h) (N := N + 1) ⟨by have := hp.1; have := g.1; omega, hp.2 g.2⟩
  refine ⟨a, ?_⟩
  rw [show N + (w :: l).length = N + 1 + l.length by simp; omega]
  exact b
theorem Sml.mono {N M : Nat} {cs : List TChain} (h : Sml N cs) (hN : N ≤ M) : Sml M cs := ⟨by have := h.1; omega, fun c hc => by have := h.2 c hc; omega⟩
end Go.Proofs.Ythjpcfbfiaenaaa.Told.JF
