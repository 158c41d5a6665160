/- Which stores are the same: the program and the reference say the same. -/
import Derived.Test.YtjahlppmahjplaaTStore1
namespace Go.Proofs.Ytjahlppmahjplaa.Told.ST
open Go Go.Proofs.Ytjahlppmahjplaa.Vam Go.Proofs.Ytjahlppmahjplaa.Told Go.Proofs.Ytjahlppmahjplaa.Told.CF
set_option linter.unusedSimpArgs false
set_option linter.unusedVariables false
theorem get2 {α : Type} {q r : List α} {v : α} {i : Nat} (h : q.length = i) : (q ++ v :: r)[i]? = some v := by subst h; simp
theorem eqV_lp2 (fu : Nat) : ∀ (r q r' q' : List TVersion) (n : Nat), (q ++ r).length ≤ 4611686018427387904 → q'.length = q.length → r'.length = r.length → r.length < n →
    ∃ b : Bool, slices_Equal_api_Version.lp6 fu (q ++ r) (q' ++ r') ((q ++ r).length : Int) n (q.length : Int) = some (bif b then .inl () else .inr ()) ∧ diwanref13_SameChain.lp6 fu (q ++ r) (q' ++ r') n (q.length : Int) = some (bif b then .inl () else .inr ())
  | [], q, r', q', n, hl, hq, hr, hn => by
    obtain ⟨n, rfl⟩ : ∃ m, n = m + 1 := ⟨n - 1, by omega⟩
    simp only [List.append_nil]
    rw [slices_Equal_api_Version.lp6, diwanref13_SameChain.lp6, br_f (nlt_end _), br_f (nlt_end _)]
    exact ⟨true, rfl, rfl⟩
  | v :: r, q, [], q', n, hl, hq, hr, hn => by simp at hr
  | v :: r, q, v' :: r', q', n, hl, hq, hr, hn => by
    obtain ⟨n, rfl⟩ : ∃ m, n = m + 1 := ⟨n - 1, by omega⟩
    have e : q ++ v :: r = (q ++ [v]) ++ r := by simp
    have e' : q' ++ v' :: r' = (q' ++ [v']) ++ r' := by simp
    obtain ⟨b, ih1, ih2⟩ := eqV_lp2 fu r (q ++ [v]) r' (q' ++ [v']) n (by rw [← e]; exact hl) (by simp [hq]) (by simpa using hr) (by simp at hn; omega)
    rw [← e, ← e'] at ih1 ih2
    rw [slices_Equal_api_Version.lp6, diwanref13_SameChain.lp6, br_t (lt_mid _ _ _), br_t (lt_mid _ _ _), ix_mid, ix_n (get2 hq), ix_mid, ix_n (get2 hq), w64_len q r v hl, ih1, ih2]
    cases ((v.Pos == v'.Pos) && ((v.Val.toList == v'.Val.toList) && ((v.Gone == v'.Gone) && true)))
    · exact ⟨false, rfl, rfl⟩
    · exact ⟨b, rfl, rfl⟩
theorem eqV_eq {fu : Nat} {a b : List TVersion} (ha : a.length ≤ 1000000) (hf : a.length < fu) : ∃ x, slices_Equal_api_Version fu a b = some x ∧ diwanref13_SameChain fu a b = some x := by
  unfold slices_Equal_api_Version diwanref13_SameChain
  by_cases h : a.length = b.length
  · obtain ⟨x, h1, h2⟩ := eqV_lp2 fu a [] b [] fu (by simp; omega) rfl h.symm hf
    simp only [List.nil_append, List.length_nil, Int.natCast_zero] at h1 h2
    rw [br_f (by simp [h]), br_f (by simp [h]), bd_s h1, bd_s h2]
    cases x <;> exact ⟨_, rfl, rfl⟩
  · have : ((a.length : Int) != (b.length : Int)) = true := by simp; omega
    rw [br_t this, br_t this]; exact ⟨false, rfl, rfl⟩
theorem eqC_lp2 (fu N : Nat) (hN : N < fu) (hN' : N ≤ 1000000) (M M' : Int) : ∀ (r q r' q' : List TChain) (n : Nat), (q ++ r).length ≤ 1000000 → (∀ c ∈ r, c.L.length ≤ N) → q'.length = q.length → r'.length = r.length → r.length < n →
    ∃ b : Bool, slices_EqualFunc_api_Chain.lp6 fu (q' ++ r') (q ++ r) ((q ++ r).length : Int) n (q.length : Int) = some (bif b then .inl () else .inr ()) ∧ diwanref13_SameStore.lp7 fu (TStore.mk (q ++ r) M) (TStore.mk (q' ++ r') M') n (q.length : Int) = some (bif b then .inl () else .inr ())
  | [], q, r', q', n, hl, hc, hq, hr, hn => by
    obtain ⟨n, rfl⟩ : ∃ m, n = m + 1 := ⟨n - 1, by omega⟩
    simp only [List.append_nil]
    rw [slices_EqualFunc_api_Chain.lp6, diwanref13_SameStore.lp7]
    dsimp only
    rw [br_f (nlt_end _), br_f (nlt_end _)]
    exact ⟨true, rfl, rfl⟩
  | v :: r, q, [], q', n, hl, hc, hq, hr, hn => by simp at hr
  | v :: r, q, v' :: r', q', n, hl, hc, hq, hr, hn => by
    obtain ⟨n, rfl⟩ : ∃ m, n = m + 1 := ⟨n - 1, by omega⟩
    have e : q ++ v :: r = (q ++ [v]) ++ r := by simp
    have e' : q' ++ v' :: r' = (q' ++ [v']) ++ r' := by simp
    obtain ⟨b, ih1, ih2⟩ := eqC_lp2 fu N hN hN' M M' r (q ++ [v]) r' (q' ++ [v']) n (by rw [← e]; exact hl) (fun c h => hc c (by simp [h])) (by simp [hq]) (by simpa using hr) (by simp at hn; omega)
    rw [← e, ← e'] at ih1 ih2
    have hv := hc v (by simp)
    obtain ⟨x, g1, g2⟩ := eqV_eq (fu := fu) (a := v.L) (b := v'.L) (by omega) (by omega)
    rw [slices_EqualFunc_api_Chain.lp6, diwanref13_SameStore.lp7]
    dsimp only
    rw [br_t (lt_mid _ _ _), br_t (lt_mid _ _ _), ix_mid, ix_n (get2 hq), ix_mid, ix_n (get2 hq), ix_mid, ix_n (get2 hq), bd_s g2, w64_len q r v (by omega), ih1, ih2]
    unfold store_Same_1
    cases (v.Key.toList == v'.Key.toList)
    · rw [br_f rfl, bd_s rfl]; exact ⟨false, rfl, rfl⟩
    · rw [br_t rfl, bd_s (o := bd _ _) (x := x) (by rw [bd_s g1])]
      cases x
      · exact ⟨false, rfl, rfl⟩
      · exact ⟨b, rfl, rfl⟩
theorem sameS_eq {fu N : Nat} {s t : TStore} (h : Sml N s.Chains) (hN : N < fu) (hN' : N ≤ 1000000) : ∃ b, store_Same fu s t = some b ∧ diwanref13_SameStore fu s t = some b := by
  unfold store_Same slices_EqualFunc_api_Chain diwanref13_SameStore
  by_cases hM : s.Mark = t.Mark
  · rw [br_t (by simp [hM]), br_f (b := (s.Mark != t.Mark)) (by simp [hM])]
    by_cases hl : s.Chains.length = t.Chains.length
    · obtain ⟨b, h1, h2⟩ := eqC_lp2 fu N hN hN' s.Mark t.Mark s.Chains [] t.Chains [] fu (by have := h.1; simp; omega) h.2 rfl hl.symm (by have := h.1; omega)
      simp only [List.nil_append, List.length_nil, Int.natCast_zero] at h1 h2
      rw [br_f (by simp [hl]), br_f (by simp [hl]), bd_s h1, show s = TStore.mk s.Chains s.Mark from rfl, show t = TStore.mk t.Chains t.Mark from rfl, bd_s h2]
      cases b <;> exact ⟨_, rfl, rfl⟩
    · have : ((s.Chains.length : Int) != (t.Chains.length : Int)) = true := by simp; omega
      rw [br_t this, br_t this]; exact ⟨false, rfl, rfl⟩
  · rw [br_f (by simpa using hM), br_t (b := (s.Mark != t.Mark)) (by simpa using hM)]
    exact ⟨false, rfl, rfl⟩
end Go.Proofs.Ytjahlppmahjplaa.Told.ST
