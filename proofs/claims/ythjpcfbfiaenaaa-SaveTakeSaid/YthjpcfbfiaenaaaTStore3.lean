/- A store's functions: what is trimmed. -/
import Derived.Test.YthjpcfbfiaenaaaTStore2
import Derived.Test.YthjpcfbfiaenaaaTCh5
namespace Go.Proofs.Ythjpcfbfiaenaaa.Told.ST
open Go Go.Proofs.Ythjpcfbfiaenaaa.Vam Go.Proofs.Ythjpcfbfiaenaaa.Told Go.Proofs.Ythjpcfbfiaenaaa.Told.CF
set_option linter.unusedSimpArgs false
set_option linter.unusedVariables false
def tri (p : Int) : List TVersion → List TVersion
 | [] => []
 | v :: r => bif (atV p r).2 then tri p r else v :: r
theorem tri_hi {p : Int} : ∀ {l : List TVersion}, (∀ v ∈ l, p < v.Pos) → tri p l = l
 | [], _ => rfl
 | v :: r, h => by
  simp only [tri]
  rw [atV_hi fun x hx => h x (by simp [hx])]; rfl
theorem tri_lo {p : Int} {v : TVersion} {B : List TVersion} (hv : v.Pos ≤ p) (hB : ∀ x ∈ B, p < x.Pos) : ∀ (A : List TVersion), tri p (A ++ v :: B) = v :: B
 | [] => by
  simp only [List.nil_append, tri]
  rw [atV_hi hB]; rfl
 | a :: A => by
  simp only [List.cons_append, tri]
  rw [atV_lo hv hB A, tri_lo hv hB A]; rfl
theorem tri_len (p : Int) : ∀ l : List TVersion, (tri p l).length ≤ l.length
 | [] => Nat.le_refl _
 | v :: r => by
  simp only [tri]
  have := tri_len p r
  cases (atV p r).2 <;> simp <;> omega
def trs (p : Int) (cs : List TChain) : List TChain := cs.map fun c => TChain.mk c.Key (tri p c.L)
def trimS (s : TStore) (p : Int) : TStore := bif decide (p ≤ s.Mark) then s else TStore.mk (trs p s.Chains) p
theorem trs_srt (p : Int) {cs : List TChain} (h : Srt cs) : Srt (trs p cs) := by
 unfold Srt trs
 rw [List.pairwise_map]
 exact h
theorem trs_sml (p : Int) {N : Nat} {cs : List TChain} (h : Sml N cs) : Sml N (trs p cs) := by
 refine ⟨by simpa [trs] using h.1, fun c hc => ?_⟩
 obtain ⟨c', h1, rfl⟩ := List.mem_map.1 hc
 have := tri_len p c'.L
 have := h.2 c' h1
 simp only; omega
end Go.Proofs.Ythjpcfbfiaenaaa.Told.ST
