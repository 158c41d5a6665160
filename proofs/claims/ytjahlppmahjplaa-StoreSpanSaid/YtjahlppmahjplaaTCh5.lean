/- Chains: trimmed. -/
import Derived.Test.YtjahlppmahjplaaTCh4
namespace Go.Proofs.Ytjahlppmahjplaa.Told.CF
open Go Go.Proofs.Ytjahlppmahjplaa.Vam Go.Proofs.Ytjahlppmahjplaa.Told
set_option linter.unusedSimpArgs false
set_option linter.unusedVariables false
theorem trim_hi {l : List TVersion} {fu : Nat} {p : Int} (hl : l.length ≤ 4294967296) (hn : l.length < fu) (h : ∀ v ∈ l, p < v.Pos) : chain_Trim fu l p = some l := by
  unfold chain_Trim
  rw [bd_s (upto_e p (by omega) hn), upg_hi p l _ _ h]
  have : w64 (((0 : Nat) : Int) - 1) = -1 := by decide
  rw [this]
  rw [gd_t (decide_eq_true ⟨by decide, by simp⟩)]
  rw [show (if (-1 : Int) < 0 then 0 else (-1 : Int)).toNat = 0 from rfl, List.drop_zero, bd_s (clone_e hl)]
theorem trim_lo {l A B : List TVersion} {v : TVersion} {fu : Nat} {p : Int} (hl : l.length ≤ 4294967296) (hn : l.length < fu) (e : l = A ++ v :: B) (h1 : v.Pos ≤ p) (h2 : ∀ v ∈ B, p < v.Pos) : chain_Trim fu l p = some (v :: B) := by
  unfold chain_Trim
  rw [bd_s (upto_e p (by omega) hn)]
  have hA : A.length < l.length := by rw [e]; simp <;> omega
  have hw : w64 (((upg p l 0 0 : Nat) : Int) - 1) = (A.length : Int) := by rw [e, upg_lo p A B v _ _ h1 h2, w64_id (by omega) (by omega)]; omega
  rw [hw, if_neg (by omega), gd_t (decide_eq_true ⟨by omega, by omega⟩)]
  rw [Int.toNat_natCast, show List.drop A.length l = v :: B by rw [e]; simp]
  have hB : (v :: B).length ≤ l.length := by rw [e]; simp
  rw [bd_s (clone_e (by omega))]
end Go.Proofs.Ytjahlppmahjplaa.Told.CF
