/- The stores that are made may be. -/
import Derived.Test.YtjahlppmahjplaaTStoreR1
import Derived.Test.YtjahlppmahjplaaTStoreR3
import Derived.Test.YtjahlppmahjplaaTStore4
namespace Go.Proofs.Ytjahlppmahjplaa.Told.ST
open Go Go.Proofs.Ytjahlppmahjplaa.Vam Go.Proofs.Ytjahlppmahjplaa.Told Go.Proofs.Ytjahlppmahjplaa.Told.CF Go.Proofs.Ytjahlppmahjplaa.Told.PK
set_option linter.unusedSimpArgs false
set_option linter.unusedVariables false
theorem tx_wr {most : Int} {t : TTxn} (h : TxOk most t) : ∀ w ∈ t.Writes, WrOk w ∧ w.Key ∈ six := fun w hw => ⟨h.wv w hw, h.wk.subset (List.mem_map.2 ⟨w, hw, rfl⟩)⟩
theorem trimS_mi {N : Nat} {P p : Int} {s : TStore} (h : MI N P s.Chains) : MI N P (trimS s p).Chains := by
  unfold trimS
  cases decide (p ≤ s.Mark)
  · exact h.trs p
  · exact h
theorem MI.mono {N N' : Nat} {P P' : Int} {cs : List TChain} (h : MI N P cs) (hN : N ≤ N') (hP : P ≤ P') : MI N' P' cs :=
  ⟨h.srt, ⟨by have := h.sml.1; omega, fun c hc => by have := h.sml.2 c hc; omega⟩, fun c hc => let ⟨a, b, d, e⟩ := h.ok c hc; ⟨a, b, d, by omega⟩⟩
theorem made_lp {fu : Nat} (hf : 200 ≤ fu) (z : TStore) : ∀ (d i m : Nat) (pos : Int) (s : TStore) (o : TPicks), i + d = 12 → MI (3 * i) pos s.Chains → 0 ≤ s.Mark → s.Mark ≤ pos → 0 ≤ pos → pos ≤ 3 * i → PInv o → d < m →
    ∃ s', diwanlaw16_made.lp6 fu z m pos (i : Int) s o = some s' ∧ MI 36 36 s'.Chains ∧ 0 ≤ s'.Mark ∧ s'.Mark ≤ 36
  | 0, i, m, pos, s, o, hid, hs, hM, hM', hp, hp', ho, hm => by
    obtain ⟨m, rfl⟩ : ∃ k, m = k + 1 := ⟨m - 1, by omega⟩
    rw [diwanlaw16_made.lp6, br_f (decide_eq_false (by omega))]
    exact ⟨s, rfl, hs.mono (by omega) (by omega), hM, by omega⟩
  | d + 1, i, m, pos, s, o, hid, hs, hM, hM', hp, hp', ho, hm => by
    obtain ⟨m, rfl⟩ : ∃ k, m = k + 1 := ⟨m - 1, by omega⟩
    rw [diwanlaw16_made.lp6, br_t (decide_eq_true (by omega))]
    unfold diwanplay_Picks_Over
    rw [bd_s rfl]
    cases decide (o.n ≥ (o.l.length : Int))
    · obtain ⟨a, o1, h1, i1, a1, a2, _⟩ := num_e ho (m := 3) (by decide)
      rw [br_t (by rfl), bd_s h1]
      dsimp only
      obtain ⟨t, o2, h2, i2, tx⟩ := txn_e (fu := fu) (by omega) 1 i1
      rw [bd_s h2]
      dsimp only
      have e1 : w64 (pos + 1) = pos + 1 := w64_id (by omega) (by omega)
      have e2 : w64 (pos + 1 + a) = pos + 1 + a := w64_id (by omega) (by omega)
      rw [e1, e2]
      have hw := rwrite_e (fu := fu) (N := 3 * i) (s := s) (pos := pos + 1 + a) (l := t.Writes) hs.srt hs.sml (by have := tx.wl; omega) (by have := tx.wl; omega) (by have := tx.wl; omega)
      rw [bd_s hw]
      obtain ⟨b, o3, h3, i3, b1, b2, _⟩ := num_e i2 (m := 9) (by decide)
      rw [bd_s h3]
      dsimp only
      have hs1 : MI (3 * (i + 1)) (pos + 1 + a) (puts (pos + 1 + a) t.Writes s.Chains) := (hs.puts (Int.le_refl _) (tx_wr tx) (by omega)).mono (by have := tx.wl; omega) (Int.le_refl _)
      rw [w64_id (n := (i : Int) + 1) (by omega) (by omega), show (i : Int) + 1 = ((i + 1 : Nat) : Int) by omega]
      cases (b == 0)
      · rw [br_f rfl]
        exact made_lp hf z d (i + 1) m (pos + 1 + a) _ o3 (by omega) hs1 hM (by show s.Mark ≤ _; omega) (by omega) (by omega) i3 (by omega)
      · have e3 : w64 (pos + 1 + a + 1) = pos + 1 + a + 1 := w64_id (by omega) (by omega)
        rw [br_t rfl, e3]
        obtain ⟨c, o4, h4, i4, c1, c2, _⟩ := num_e i3 (m := pos + 1 + a + 1) (by omega)
        rw [bd_s h4]
        dsimp only
        rw [bd_s (rtrimS_e (fu := fu) (N := 3 * (i + 1)) c hs1.sml (fun c hc => (hs1.ok c hc).2.2.1) (by omega) (by omega))]
        refine made_lp hf z d (i + 1) m (pos + 1 + a) _ o4 (by omega) (trimS_mi hs1) ?_ ?_ (by omega) (by omega) i4 (by omega)
        · unfold trimS
          cases h : decide (c ≤ s.Mark)
          · exact c1
          · exact hM
        · unfold trimS
          cases h : decide (c ≤ s.Mark)
          · show c ≤ _; omega
          · show s.Mark ≤ _; omega
    · rw [br_f (by rfl)]
      exact ⟨s, rfl, hs.mono (by omega) (by omega), hM, by omega⟩
theorem made_e {fu : Nat} (hf : 200 ≤ fu) {l : List Int} (h : ∀ x ∈ l, okI .u8 x) (hl : l.length ≤ 1000000) : ∃ s, diwanlaw16_made fu l = some s ∧ MI 36 36 s.Chains ∧ 0 ≤ s.Mark ∧ s.Mark ≤ 36 := by
  unfold diwanlaw16_made diwanplay_Made
  rw [bd_s rfl]
  obtain ⟨s, h1, h2⟩ := made_lp hf (TStore.mk [] 0) 12 0 fu 0 (TStore.mk [] 0) (TPicks.mk l 0) rfl ⟨List.Pairwise.nil, ⟨Nat.le_refl _, fun c hc => by simp at hc⟩, fun c hc => by simp at hc⟩ (Int.le_refl _) (Int.le_refl _) (Int.le_refl _) (by omega) (made_inv h hl) (by omega)
  simp only [Int.natCast_zero] at h1
  rw [bd_s h1]
  exact ⟨s, rfl, h2⟩
end Go.Proofs.Ytjahlppmahjplaa.Told.ST
