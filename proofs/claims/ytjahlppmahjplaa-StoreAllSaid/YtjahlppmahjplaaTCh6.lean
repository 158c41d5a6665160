/- Chains: the reference at a position. -/
import Derived.Test.YtjahlppmahjplaaTCh4
namespace Go.Proofs.Ytjahlppmahjplaa.Told.CF
open Go Go.Proofs.Ytjahlppmahjplaa.Vam Go.Proofs.Ytjahlppmahjplaa.Told
set_option linter.unusedSimpArgs false
set_option linter.unusedVariables false
theorem lpAt (fu : Nat) (p : Int) : ∀ (m : Nat) (l : List TVersion) (n : Nat), m ≤ l.length → l.length ≤ 4611686018427387904 → m < n →
    ((∀ (i : Nat) v, i < m → l[i]? = some v → p < v.Pos) → diwanref13_At.lp3 fu l p none0 n ((m : Int) - 1) = some (.inl ())) ∧
    (∀ (k : Nat) v, k < m → l[k]? = some v → v.Pos ≤ p → (∀ (i : Nat) x, k < i → i < m → l[i]? = some x → p < x.Pos) → diwanref13_At.lp3 fu l p none0 n ((m : Int) - 1) = some (.inr v))
  | 0, l, n, hm, hl, hn => by
    obtain ⟨n, rfl⟩ : ∃ m, n = m + 1 := ⟨n - 1, by omega⟩
    refine ⟨fun _ => ?_, fun k v hk => by omega⟩
    rw [diwanref13_At.lp3, br_f (by rfl)]
  | m + 1, l, n, hm, hl, hn => by
    obtain ⟨n, rfl⟩ : ∃ m, n = m + 1 := ⟨n - 1, by omega⟩
    obtain ⟨ih1, ih2⟩ := lpAt fu p m l n (by omega) hl (by omega)
    have hx : l[m]? = some l[m] := List.getElem?_eq_getElem (by omega)
    have he : (((m + 1 : Nat) : Int) - 1) = (m : Int) := by omega
    have hw : w64 ((m : Int) - 1) = (m : Int) - 1 := w64_id (by omega) (by omega)
    rw [he, diwanref13_At.lp3, br_t (decide_eq_true (Int.natCast_nonneg _)), ix_n hx, ix_n hx, hw]
    refine ⟨fun h => ?_, fun k v hk hv hp hi => ?_⟩
    · have := h m _ (by omega) hx
      rw [br_f (decide_eq_false (by omega))]
      exact ih1 fun i v hi => h i v (by omega)
    · by_cases hkm : k = m
      · subst hkm
        rw [hx] at hv
        cases hv
        rw [br_t (decide_eq_true hp)]
      · have := hi m _ (by omega) (by omega) hx
        rw [br_f (decide_eq_false (by omega))]
        exact ih2 k v (by omega) hv hp fun i x h1 h2 => hi i x h1 (by omega)
theorem rat_hi {l : List TVersion} {fu : Nat} {p : Int} (hl : l.length ≤ 4611686018427387904) (hn : l.length < fu) (h : ∀ v ∈ l, p < v.Pos) : diwanref13_At fu l p = some (none0, false) := by
  unfold diwanref13_At
  have := (lpAt fu p l.length l fu (Nat.le_refl _) hl hn).1 fun i v _ hi => h v (List.mem_of_getElem? hi)
  rw [w64_id (by omega) (by omega), show TVersion.mk 0 ByteArray.empty false = none0 from rfl, bd_s this]
theorem rat_lo {l A B : List TVersion} {v : TVersion} {fu : Nat} {p : Int} (hl : l.length ≤ 4611686018427387904) (hn : l.length < fu) (e : l = A ++ v :: B) (h1 : v.Pos ≤ p) (h2 : ∀ v ∈ B, p < v.Pos) : diwanref13_At fu l p = some (v, true) := by
  unfold diwanref13_At
  have hA : A.length < l.length := by rw [e]; simp <;> omega
  have := (lpAt fu p l.length l fu (Nat.le_refl _) hl hn).2 A.length v hA (by rw [e]; simp) h1 fun i x hi hi' hx => by
    rw [e, List.getElem?_append_right (by omega)] at hx
    obtain ⟨d, hd⟩ : ∃ d, i - A.length = d + 1 := ⟨i - A.length - 1, by omega⟩
    rw [hd, List.getElem?_cons_succ] at hx
    exact h2 x (List.mem_of_getElem? hx)
  rw [w64_id (by omega) (by omega), show TVersion.mk 0 ByteArray.empty false = none0 from rfl, bd_s this]
end Go.Proofs.Ytjahlppmahjplaa.Told.CF
