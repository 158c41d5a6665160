/- The plain law of StoreMay: which stores may be, and are the same. -/
import Derived.Test.YtjahlppmahjplaaTMade
import Derived.Test.YtjahlppmahjplaaTStore5
import Derived.Test.YtjahlppmahjplaaTStore6
import Derived.Test.YtjahlppmahjplaaTStore7
namespace Go.Proofs.Ytjahlppmahjplaa.Told.PureStoreMay
open Go Go.Proofs.Ytjahlppmahjplaa.Vam Go.Proofs.Ytjahlppmahjplaa.Told Go.Proofs.Ytjahlppmahjplaa.Told.CF Go.Proofs.Ytjahlppmahjplaa.Told.PK Go.Proofs.Ytjahlppmahjplaa.Told.ST
set_option linter.unusedSimpArgs false
set_option linter.unusedVariables false
theorem begun_e : diwanlaw16_begun 200 = some true := by kernel_rfl
theorem six_size {k : ByteArray} (h : k ∈ six) : k.size ≤ 100 := by
  simp only [six, List.mem_cons, List.not_mem_nil, or_false] at h
  rcases h with rfl | rfl | rfl | rfl | rfl | rfl <;> decide
theorem holds (picks : List Int) (which at_v : Int) (key : ByteArray) (v : TVersion) (k0 : okL (okI .u8) picks) (k1 : okI .u8 which) (k2 : okI .u8 at_v) (k3 : okS key) (k4 : TVersion.ok v) : ∃ fu, diwanlaw16_StoreMay fu picks which at_v key v = some true := by
  refine ⟨200, ?_⟩
  unfold diwanlaw16_StoreMay
  rw [bd_s begun_e, br_f (by rfl)]
  by_cases h1 : (picks.length : Int) > 150
  · rw [br_t (decide_eq_true h1)]
  rw [br_f (decide_eq_false h1)]
  by_cases h2 : (key.size : Int) > 20
  · rw [br_t (decide_eq_true h2)]
  rw [br_f (decide_eq_false h2)]
  by_cases h3 : (v.Val.size : Int) > 40
  · rw [br_t (decide_eq_true h3)]
  rw [br_f (decide_eq_false h3)]
  obtain ⟨s, m1, hs, hM, _⟩ := made_e (fu := 200) (Nat.le_refl _) (l := picks) k0.2 (by omega)
  have hlen := hs.sml.1
  rw [bd_s m1, gd_t (decide_eq_true (by simp; omega))]
  by_cases h0 : s.Chains.length = 0
  · rw [br_t (by simp [h0]), bd_s (mayS_e hs hM (by decide) (by decide) (by decide))]
  rw [br_f (beq_eq_false_iff_ne.2 (by omega)), gd_t (by simp; exact List.length_pos_iff.1 (by omega)), jn_e]
  -- what is said of any store that is not too great
  have key_ok : ∀ c ∈ s.Chains, c.Key.size ≤ 100 := fun c hc => six_size (hs.ok c hc).1
  have say : ∀ t : TStore, Sml 100 t.Chains → (∀ c ∈ t.Chains, c.Key.size ≤ 100) → (bd (store_May 200 t) fun r31_1 => bd (diwanref13_MayStore 200 t) fun r31_3 => br (r31_1 == r31_3) (bd (store_Same 200 s t) fun r31_6 => bd (diwanref13_SameStore 200 s t) fun r31_8 => some (r31_6 == r31_8)) (some false)) = some true := by
    intro t ht hk
    obtain ⟨b, g1, g2⟩ := mayS_eq (fu := 200) ht (fun c hc => by have := hk c hc; omega) (by decide) (by decide)
    obtain ⟨b', g3, g4⟩ := sameS_eq (fu := 200) (s := s) (t := t) hs.sml (by decide) (by decide)
    rw [bd_s g1, bd_s g2, br_t (beq_self_eq_true _), bd_s g3, bd_s g4, beq_self_eq_true]
  have ha := okI_u8 k2
  have hat : w64 at_v = at_v := w64_id (by omega) (by omega)
  obtain ⟨k, hk, hkl⟩ : ∃ k : Nat, Int.tmod at_v (s.Chains.length : Int) = (k : Int) ∧ k < s.Chains.length := by
    have e1 : Int.tmod at_v (s.Chains.length : Int) = at_v % (s.Chains.length : Int) := Int.tmod_eq_emod_of_nonneg ha.1
    have e2 := Int.emod_nonneg at_v (b := (s.Chains.length : Int)) (by omega)
    have e3 := Int.emod_lt_of_pos at_v (b := (s.Chains.length : Int)) (by omega)
    exact ⟨(Int.tmod at_v (s.Chains.length : Int)).toNat, by rw [e1]; omega, by rw [e1]; omega⟩
  have hx : s.Chains[k]? = some s.Chains[k] := List.getElem?_eq_getElem hkl
  have hmem : s.Chains[k] ∈ s.Chains := List.getElem_mem hkl
  have hLk := hs.sml.2 _ hmem
  rw [hat, hk, ix_n hx, Int.toNat_natCast]
  have sml0 : Sml 100 s.Chains := ⟨by omega, fun c hc => by have := hs.sml.2 c hc; omega⟩
  have sset : ∀ u : TChain, u.L.length ≤ 100 → u.Key.size ≤ 100 → Sml 100 (s.Chains.set k u) ∧ ∀ c ∈ s.Chains.set k u, c.Key.size ≤ 100 := fun u hu hu' => by
    refine ⟨⟨by simp; omega, fun c hc => ?_⟩, fun c hc => ?_⟩ <;> rcases List.mem_or_eq_of_mem_set hc with g | g
    · exact sml0.2 c g
    · rw [g]; exact hu
    · exact key_ok c g
    · rw [g]; exact hu'
  cases (Int.tmod which 5 == 0)
  · rw [br_f rfl]
    cases (Int.tmod which 5 == 1)
    · rw [br_f rfl]
      cases (Int.tmod which 5 == 2)
      · rw [br_f rfl]
        cases (Int.tmod which 5 == 3)
        · rw [br_f rfl, gd_t (decide_eq_true (by simp; omega))]
          refine say _ ⟨by simp; omega, fun c hc => ?_⟩ fun c hc => ?_ <;> rcases List.mem_append.1 hc with g | g
          · exact sml0.2 c g
          · rw [List.mem_singleton.1 g]; simp
          · exact key_ok c g
          · rw [List.mem_singleton.1 g]; show key.size ≤ 100; omega
        · rw [br_t rfl, ix_n hx]
          obtain ⟨g1, g2⟩ := sset (TChain.mk s.Chains[k].Key []) (by simp) (show s.Chains[k].Key.size ≤ 100 from key_ok _ hmem)
          exact say _ g1 g2
      · rw [br_t rfl, ix_n hx, gd_t (decide_eq_true (by simp; omega)), gd_t (decide_eq_true (by simp; omega)), ix_n hx]
        obtain ⟨g1, g2⟩ := sset (TChain.mk s.Chains[k].Key (s.Chains[k].L ++ [v])) (by simp; omega) (show s.Chains[k].Key.size ≤ 100 from key_ok _ hmem)
        exact say _ g1 g2
    · rw [br_t rfl]
      obtain ⟨g1, g2⟩ := sset (TChain.mk key s.Chains[k].L) (by show s.Chains[k].L.length ≤ 100; omega) (by show key.size ≤ 100; omega)
      exact say _ g1 g2
  · rw [br_t rfl]
    exact say _ sml0 key_ok
end Go.Proofs.Ytjahlppmahjplaa.Told.PureStoreMay
