/- The plain law of StoreSpan: a span is the keys within that are there, each as it is got. -/
import Derived.Test.YtjahlppmahjplaaTMade
import Derived.Test.YtjahlppmahjplaaTStore10
namespace Go.Proofs.Ytjahlppmahjplaa.Told.PureStoreSpan
open Go Go.Proofs.Ytjahlppmahjplaa.Vam Go.Proofs.Ytjahlppmahjplaa.Told Go.Proofs.Ytjahlppmahjplaa.Told.CF Go.Proofs.Ytjahlppmahjplaa.Told.PK Go.Proofs.Ytjahlppmahjplaa.Told.ST
set_option linter.unusedSimpArgs false
set_option linter.unusedVariables false
theorem begun_e : diwanlaw16_begun 200 = some true := by kernel_rfl
theorem rd_same (a : TRead) : (!((a.Key.toList == a.Key.toList) && ((a.Version == a.Version) && ((a.Val.toList == a.Val.toList) && ((a.There == a.There) && true))))) = false := by simp
theorem lp15 {fu N : Nat} (hf : 200 ≤ fu) (L : List ByteArray) (e0 z : ByteArray) (a b : ByteArray) (p : Int) (s : TStore) (l : List TRead) (er : Int) (hN : N ≤ 100) (hs : MI N 100 s.Chains) (hM : s.Mark ≤ p) : ∀ (r q : List ByteArray) (n : Nat), L = e0 :: ((q ++ r) ++ [z]) → l = selK a b p s.Chains (q ++ r) → q.length + r.length = 6 → r.length < n →
    diwanlaw16_StoreSpan.lp15 fu L a b p l er s n ((selK a b p s.Chains q).length : Int) ((q.length + 1 : Nat) : Int) = some (.inl (l.length : Int))
  | [], q, n, hL, hl, h6, hn => by
    obtain ⟨n, rfl⟩ : ∃ m, n = m + 1 := ⟨n - 1, by omega⟩
    simp only [List.length_nil, Nat.add_zero] at h6
    rw [diwanlaw16_StoreSpan.lp15, br_f (decide_eq_false (by omega)), hl, List.append_nil]
  | k :: r, q, n, hL, hl, h6, hn => by
    obtain ⟨n, rfl⟩ : ∃ m, n = m + 1 := ⟨n - 1, by omega⟩
    have e : q ++ k :: r = (q ++ [k]) ++ r := by simp
    simp only [List.length_cons] at h6
    have ih := lp15 hf L e0 z a b p s l er hN hs hM r (q ++ [k]) n (by rw [← e]; exact hL) (by rw [← e]; exact hl) (by simp; omega) (by simp at hn; omega)
    rw [selK_app, show ((q ++ [k]).length + 1 : Nat) = q.length + 1 + 1 by simp] at ih
    have hx : L[q.length + 1]? = some k := by rw [hL]; simp
    have hw : w64 (((q.length + 1 : Nat) : Int) + 1) = ((q.length + 1 + 1 : Nat) : Int) := by rw [w64_id (by omega) (by omega)]; omega
    have hg : getS s k p = (rd k (chainOf k s.Chains) p, 0) := by
      unfold getS; rw [decide_eq_false (by omega)]; rfl
    rw [diwanlaw16_StoreSpan.lp15, br_t (decide_eq_true (by omega)), ix_n hx, bd_s (get_e (N := N) k p hs.srt hs.sml (by omega) (by omega)), hg]
    dsimp only
    rw [hw, br_f (by rfl), ix_n hx, br_f (by show (!(k.toList == k.toList)) = false; simp), jn_e]
    cases h1 : (rd k (chainOf k s.Chains) p).There
    · rw [br_t (by rfl)]
      rw [selK_f1 h1] at ih
      simpa [selK] using ih
    · rw [br_f (by rfl), ix_n hx]
      cases h2 : Op.bytesLess k.toList a.toList
      · rw [br_f rfl, ix_n hx]
        have h3 := inn_hi (b := b) h2
        have hin : inn k a b = true → (br (decide (((selK a b p s.Chains q).length : Int) ≥ (l.length : Int))) (some (.inr ())) (ix l ((selK a b p s.Chains q).length : Int) fun x29_2 => br (!((x29_2.Key.toList == (rd k (chainOf k s.Chains) p).Key.toList) && ((x29_2.Version == (rd k (chainOf k s.Chains) p).Version) && ((x29_2.Val.toList == (rd k (chainOf k s.Chains) p).Val.toList) && ((x29_2.There == true) && true))))) (some (.inr ())) (diwanlaw16_StoreSpan.lp15 fu L a b p l er s n (w64 (((selK a b p s.Chains q).length : Int) + 1)) ((q.length + 1 + 1 : Nat) : Int))) : Option (Int ⊕ Unit)) = some (.inl (l.length : Int)) := by
          intro h4
          have hl' : l = selK a b p s.Chains q ++ rd k (chainOf k s.Chains) p :: selK a b p s.Chains r := by rw [hl, selK_app, selK_t h1 h4]
          have hle : ∀ ks, (selK a b p s.Chains ks).length ≤ ks.length := by
            intro ks
            induction ks with
            | nil => exact Nat.le_refl _
            | cons j t ih => simp only [selK]; cases ((rd j (chainOf j s.Chains) p).There && inn j a b) <;> simp <;> omega
          have := hle q
          have hgt : ((selK a b p s.Chains q).length : Int) < (l.length : Int) := by rw [hl']; simp; omega
          have hix : l[(selK a b p s.Chains q).length]? = some (rd k (chainOf k s.Chains) p) := by rw [hl']; simp
          rw [br_f (decide_eq_false (by omega)), ix_n hix, br_f (by simp [h1]), w64_id (by omega) (by omega)]
          rw [selK_t h1 h4] at ih
          simpa [selK] using ih
        cases h5 : (b.toList == ByteArray.empty.toList)
        · rw [h5] at h3
          simp only [cond_false] at h3
          rw [br_t (by rfl)]
          cases h6 : Op.bytesLess k.toList b.toList
          · rw [br_t (by rfl)]
            rw [selK_f2 (h3.trans h6)] at ih
            simpa [selK] using ih
          · rw [br_f (by rfl)]
            exact hin (h3.trans h6)
        · rw [h5] at h3
          rw [br_f (by rfl)]
          exact hin h3
      · rw [br_t rfl]
        rw [selK_f2 (inn_lo h2)] at ih
        simpa [selK] using ih
theorem holds (picks : List Int) (a b pos : Int) (k0 : okL (okI .u8) picks) (k1 : okI .u8 a) (k2 : okI .u8 b) (k3 : okI .u8 pos) : ∃ fu, diwanlaw16_StoreSpan fu picks a b pos = some true := by
  refine ⟨200, ?_⟩
  unfold diwanlaw16_StoreSpan
  rw [bd_s begun_e, br_f (by rfl)]
  by_cases h1 : (picks.length : Int) > 150
  · rw [br_t (decide_eq_true h1)]
  rw [br_f (decide_eq_false h1)]
  obtain ⟨s, m1, hs, hM, hM'⟩ := made_e (fu := 200) (Nat.le_refl _) (l := picks) k0.2 (by omega)
  rw [bd_s m1]
  have ha := okI_u8 k1
  have hb := okI_u8 k2
  have hp := okI_u8 k3
  obtain ⟨i, hi, hi'⟩ : ∃ i : Nat, Int.tmod a 8 = (i : Int) ∧ i < 8 := by
    have e1 : Int.tmod a 8 = a % 8 := Int.tmod_eq_emod_of_nonneg ha.1
    exact ⟨(a % 8).toNat, by rw [e1]; omega, by omega⟩
  obtain ⟨j, hj, hj'⟩ : ∃ i : Nat, Int.tmod b 8 = (i : Int) ∧ i < 8 := by
    have e1 : Int.tmod b 8 = b % 8 := Int.tmod_eq_emod_of_nonneg hb.1
    exact ⟨(b % 8).toNat, by rw [e1]; omega, by omega⟩
  obtain ⟨L, hL⟩ : ∃ L : List ByteArray, L = [ByteArray.empty, (⟨#[97]⟩ : ByteArray), (⟨#[98]⟩ : ByteArray), (⟨#[99]⟩ : ByteArray), (⟨#[100]⟩ : ByteArray), (⟨#[101, 101]⟩ : ByteArray), (⟨#[102, 102]⟩ : ByteArray), (⟨#[122]⟩ : ByteArray)] := ⟨_, rfl⟩
  rw [← hL]
  have hLl : L.length = 8 := by rw [hL]; rfl
  obtain ⟨x, hx⟩ : ∃ x, L[i]? = some x := ⟨_, List.getElem?_eq_getElem (by omega)⟩
  obtain ⟨y, hy⟩ : ∃ x, L[j]? = some x := ⟨_, List.getElem?_eq_getElem (by omega)⟩
  rw [hi, hj, ix_n hx, ix_n hy]
  obtain ⟨q, hq, hq0, hq1⟩ : ∃ q, w64 (Int.tmod pos 30) = q ∧ 0 ≤ q ∧ q < 30 := by
    have e1 : Int.tmod pos 30 = pos % 30 := Int.tmod_eq_emod_of_nonneg hp.1
    refine ⟨pos % 30, by rw [e1, w64_id (by omega) (by omega)], by omega, by omega⟩
  rw [hq, w64_id (n := s.Mark + q) (by omega) (by omega)]
  have e1 : spanS s x y (s.Mark + q) = (spn x y (s.Mark + q) s.Chains, 0) := by
    unfold spanS; rw [decide_eq_false (by omega)]; rfl
  rw [bd_s (span_e (N := 36) _ _ _ hs.sml (by decide) (by decide)), e1, spn_sel x y (s.Mark + q) six_rise hs.srt (fun c hc => (hs.ok c hc).1)]
  dsimp only
  have h15 : diwanlaw16_StoreSpan.lp15 200 L x y (s.Mark + q) (selK x y (s.Mark + q) s.Chains six) 0 s 200 0 1 = some (.inl ((selK x y (s.Mark + q) s.Chains six).length : Int)) := lp15 (fu := 200) (N := 100) (Nat.le_refl _) L ByteArray.empty (⟨#[122]⟩ : ByteArray) x y (s.Mark + q) s (selK x y (s.Mark + q) s.Chains six) 0 (Nat.le_refl _) (hs.mono (by decide) (by decide)) (by omega) six [] 200 hL rfl rfl (by decide)
  rw [bd_s h15]
  dsimp only
  rw [br_t (by rfl), beq_self_eq_true]
end Go.Proofs.Ytjahlppmahjplaa.Told.PureStoreSpan
