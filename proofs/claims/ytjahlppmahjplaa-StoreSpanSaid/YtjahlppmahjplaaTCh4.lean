/- Chains: the version at a position, what is trimmed. -/
import Derived.Test.YtjahlppmahjplaaTCh1
namespace Go.Proofs.Ytjahlppmahjplaa.Told.CF
open Go Go.Proofs.Ytjahlppmahjplaa.Vam Go.Proofs.Ytjahlppmahjplaa.Told
set_option linter.unusedSimpArgs false
set_option linter.unusedVariables false
/-- How far a row is not above a position. -/
def upg (p : Int) : List TVersion → Nat → Nat → Nat
  | [], _, n => n
  | v :: r, i, n => upg p r (i + 1) (bif decide (v.Pos ≤ p) then i + 1 else n)
theorem lpUp (fu : Nat) (p : Int) : ∀ (r q : List TVersion) (m n : Nat), (q ++ r).length ≤ 4611686018427387904 → r.length < n →
    chain_versions_upto.lp4 fu p (q ++ r) ((q ++ r).length : Int) n (m : Int) (q.length : Int) = some ((upg p r q.length m : Nat) : Int)
  | [], q, m, n, hl, hn => by
    obtain ⟨n, rfl⟩ : ∃ m, n = m + 1 := ⟨n - 1, by omega⟩
    simp only [List.append_nil]
    rw [chain_versions_upto.lp4, br_f (nlt_end _)]; rfl
  | v :: r, q, m, n, hl, hn => by
    obtain ⟨n, rfl⟩ : ∃ m, n = m + 1 := ⟨n - 1, by omega⟩
    have e : q ++ v :: r = (q ++ [v]) ++ r := by simp
    have ih := fun m => lpUp fu p r (q ++ [v]) m n (by rw [← e]; exact hl) (by simp at hn; omega)
    rw [← e] at ih
    rw [chain_versions_upto.lp4, br_t (lt_mid _ _ _), ix_mid, w64_len q r v hl, ih, ih]
    simp only [upg, List.length_append, List.length_singleton]
    cases decide (v.Pos ≤ p) <;> rfl
theorem upto_e {l : List TVersion} {fu : Nat} (p : Int) (hl : l.length ≤ 4611686018427387904) (hn : l.length < fu) : chain_versions_upto fu l p = some ((upg p l 0 0 : Nat) : Int) := by
  unfold chain_versions_upto
  have := lpUp fu p l [] 0 fu hl hn
  simp only [List.nil_append, List.length_nil, Int.natCast_zero] at this
  rw [bd_s this]
theorem upg_hi (p : Int) : ∀ (B : List TVersion) (i n : Nat), (∀ v ∈ B, p < v.Pos) → upg p B i n = n
  | [], _, _, _ => rfl
  | v :: r, i, n, h => by
    have := h v (by simp)
    simp only [upg]; rw [decide_eq_false (by omega)]
    exact upg_hi p r _ _ (fun x hx => h x (by simp [hx]))
theorem upg_lo (p : Int) : ∀ (A B : List TVersion) (v : TVersion) (i n : Nat), v.Pos ≤ p → (∀ v ∈ B, p < v.Pos) → upg p (A ++ v :: B) i n = i + A.length + 1
  | [], B, v, i, n, hv, hB => by
    simp only [List.nil_append, upg]; rw [decide_eq_true hv, upg_hi p B _ _ hB]; rfl
  | a :: A, B, v, i, n, hv, hB => by
    simp only [List.cons_append, upg]; rw [upg_lo p A B v _ _ hv hB]; simp; omega
/-- The last one that is not above a position. -/
theorem cut (p : Int) : ∀ l : List TVersion, (∀ v ∈ l, p < v.Pos) ∨ ∃ A v B, l = A ++ v :: B ∧ v.Pos ≤ p ∧ ∀ x ∈ B, p < x.Pos
  | [] => .inl (by simp)
  | a :: l => by
    rcases cut p l with h | ⟨A, v, B, rfl, h1, h2⟩
    · by_cases ha : a.Pos ≤ p
      · exact .inr ⟨[], a, l, rfl, ha, h⟩
      · refine .inl fun v hv => ?_
        rcases List.mem_cons.1 hv with rfl | hv
        · omega
        · exact h v hv
    · exact .inr ⟨a :: A, v, B, rfl, h1, h2⟩
def none0 : TVersion := TVersion.mk 0 ByteArray.empty false
theorem at_hi {l : List TVersion} {fu : Nat} {p : Int} (hl : l.length ≤ 4611686018427387904) (hn : l.length < fu) (h : ∀ v ∈ l, p < v.Pos) : chain_At fu l p = some (none0, false) := by
  unfold chain_At
  rw [bd_s (upto_e p hl hn), upg_hi p l _ _ h, br_t (by rfl)]; rfl
theorem at_lo {l A B : List TVersion} {v : TVersion} {fu : Nat} {p : Int} (hl : l.length ≤ 4611686018427387904) (hn : l.length < fu) (e : l = A ++ v :: B) (h1 : v.Pos ≤ p) (h2 : ∀ v ∈ B, p < v.Pos) : chain_At fu l p = some (v, true) := by
  unfold chain_At
  rw [bd_s (upto_e p hl hn), e, upg_lo p A B v _ _ h1 h2]
  have hA : A.length < l.length := by rw [e]; simp <;> omega
  have hw : w64 (((0 + A.length + 1 : Nat) : Int) - 1) = (A.length : Int) := by rw [w64_id (by omega) (by omega)]; omega
  rw [hw, ix_mid, br_f (by simp; omega)]
end Go.Proofs.Ytjahlppmahjplaa.Told.CF
