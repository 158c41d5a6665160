/- Chains: the last one, what is added. -/
import Derived.Test.YtknkeabmjleoiaaFitJudgeMap
import Derived.Test.YtknkeabmjleoiaaTMath
namespace Go.Proofs.Ytknkeabmjleoiaa.Told.CF
open Go Go.Proofs.Ytknkeabmjleoiaa.Vam Go.Proofs.Ytknkeabmjleoiaa.Told
set_option linter.unusedSimpArgs false
set_option linter.unusedVariables false
def last (l : List TVersion) : Int := match l.getLast? with
 | some v => v.Pos
 | none => 0
theorem last_snoc (q : List TVersion) (v : TVersion) : last (q ++ [v]) = v.Pos := by simp [last]
theorem clone_e {l : List TVersion} (h : l.length ≤ 4294967296) : slices_Clone_api_Version l = some l := by
 unfold slices_Clone_api_Version
 rw [gd_t (decide_eq_true (by simpa using h))]
theorem last_e {l : List TVersion} (hl : l.length ≤ 4611686018427387904) : chain_Last l = some (last l) ∧ diwanref13_LastOf l = some (last l) := by
 unfold chain_Last chain_versions_last diwanref13_LastOf
 rcases List.eq_nil_or_concat l with rfl | ⟨q, v, e⟩
 ·exact ⟨rfl, rfl⟩
 ·rw [List.concat_eq_append] at e
  have hlen : l.length = q.length + 1 := by rw [e]; simp
  have hw : w64 ((l.length : Int) - 1) = (q.length : Int) := by rw [w64_id (by omega) (by omega)]; omega
  have hx : l[q.length]? = some v := by rw [e]; simp
  have hne : ((l.length : Int) == 0) = false := beq_eq_false_iff_ne.2 (by omega)
  rw [br_f hne, hw, ix_n hx, e, last_snoc]
  exact ⟨rfl, rfl⟩
def addV (l : List TVersion) (v : TVersion) : List TVersion := bif decide (v.Pos ≤ last l) then l else l ++ [v]
theorem add_e {l : List TVersion} (v : TVersion) (hl : l.length < 4294967296) : chain_Add l v = some (addV l v) ∧ diwanref13_Add l v = some (addV l v) := by
 obtain ⟨h1, h2⟩ := last_e (l := l) (by omega)
 unfold chain_Add diwanref13_Add addV
 rw [bd_s h1, bd_s h2, bd_s (clone_e (l := l) (by omega)), bd_s (clone_e (l := l) (by omega)), gd_t (decide_eq_true (by simp; omega)), gd_t (decide_eq_true (by simp; omega))]
 cases decide (v.Pos ≤ last l) <;> exact ⟨rfl, rfl⟩

end Go.Proofs.Ytknkeabmjleoiaa.Told.CF
