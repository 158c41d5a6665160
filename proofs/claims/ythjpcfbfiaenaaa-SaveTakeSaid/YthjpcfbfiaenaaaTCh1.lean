/- Chains: the last one, what is added. -/
import Derived.Test.YthjpcfbfiaenaaaFitSaveTake
import Derived.Test.YthjpcfbfiaenaaaTMath
namespace Go.Proofs.Ythjpcfbfiaenaaa.Told.CF
open Go Go.Proofs.Ythjpcfbfiaenaaa.Vam Go.Proofs.Ythjpcfbfiaenaaa.Told
set_option linter.unusedSimpArgs false
set_option linter.unusedVariables false
def last (l : List TVersion) : Int := match l.getLast? with
 | some v => v.Pos
 | none => 0
theorem last_snoc (q : List TVersion) (v : TVersion) : last (q ++ [v]) = v.Pos := by simp [last]
theorem rlast_e {l : List TVersion} (hl : l.length ≤ 4611686018427387904) : diwanref13_LastOf l = some (last l) := by
 unfold diwanref13_LastOf
 rcases List.eq_nil_or_concat l with rfl | ⟨q, v, e⟩
 ·rfl
 ·rw [List.concat_eq_append] at e
  have hlen : l.length = q.length + 1 := by rw [e]; simp
  have hw : w64 ((l.length : Int) - 1) = (q.length : Int) := by rw [w64_id (by omega) (by omega)]; omega
  have hx : l[q.length]? = some v := by rw [e]; simp
  have hne : ((l.length : Int) == 0) = false := beq_eq_false_iff_ne.2 (by omega)
  rw [br_f hne, hw, ix_n hx, e, last_snoc]
def addV (l : List TVersion) (v : TVersion) : List TVersion := bif decide (v.Pos ≤ last l) then l else l ++ [v]
theorem radd_e {l : List TVersion} (v : TVersion) (hl : l.length < 4294967296) : diwanref13_Add l v = some (addV l v) := by
 have h2 := rlast_e (l := l) (by omega)
 unfold diwanref13_Add addV
 rw [gd_t (decide_eq_true (by simp; omega)), bd_s h2, gd_t (decide_eq_true (by simp; omega))]
 cases decide (v.Pos ≤ last l) <;> rfl

end Go.Proofs.Ythjpcfbfiaenaaa.Told.CF
