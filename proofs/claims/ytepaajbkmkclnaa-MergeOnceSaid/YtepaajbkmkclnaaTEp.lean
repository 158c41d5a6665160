/- Batches: what a log that goes on leaves as it is, and what stands behind a Seal. -/
import Derived.Test.YtepaajbkmkclnaaFitMergeOnce
import Derived.Test.YtepaajbkmkclnaaTMath
namespace Go.Proofs.Ytepaajbkmkclnaa.Told.EP
open Go Go.Proofs.Ytepaajbkmkclnaa.Vam Go.Proofs.Ytepaajbkmkclnaa.Told Go.Proofs.Ytepaajbkmkclnaa.Ep
set_option linter.unusedSimpArgs false
set_option linter.unusedVariables false
def sealsOf (l : List TEntry) : List Bool := l.map fun x => x.Seal
def cutB (l : List TEntry) : List (List Int) := runR 0 (sealsOf l) [[]]
theorem cut_e {l : List TEntry} (h : l.length ≤ 100000) : epoch_Cut l = some (cutB l) := by
 unfold epoch_Cut
 rw [gd_t (decide_eq_true h)]; rfl
theorem cut_len (l : List TEntry) : 0 < (cutB l).length ∧ (cutB l).length ≤ l.length + 1 ∧ ∀ r ∈ cutB l, r.length ≤ l.length := by
 have hp := runR_pos (sealsOf l)
 obtain ⟨_, h2, h3⟩ := runR_len (sealsOf l) 0 0 [[]] (fun r hr => by simp at hr; simp [hr])
 have hs : (sealsOf l).length = l.length := by simp [sealsOf]
 rw [hs] at h2 h3
 simp only [List.length_singleton, Nat.zero_add] at h2 h3
 exact ⟨hp, by unfold cutB; omega, h3⟩
end Go.Proofs.Ytepaajbkmkclnaa.Told.EP
