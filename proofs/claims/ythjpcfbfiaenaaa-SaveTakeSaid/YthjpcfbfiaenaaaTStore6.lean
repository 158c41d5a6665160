/- Which stores may be: the program and the reference say the same. -/
import Derived.Test.YthjpcfbfiaenaaaTStore4
import Derived.Test.YthjpcfbfiaenaaaTCh3
namespace Go.Proofs.Ythjpcfbfiaenaaa.Told.ST
open Go Go.Proofs.Ythjpcfbfiaenaaa.Vam Go.Proofs.Ythjpcfbfiaenaaa.Told Go.Proofs.Ythjpcfbfiaenaaa.Told.CF Go.Proofs.Ythjpcfbfiaenaaa.Told.PK
set_option linter.unusedSimpArgs false
set_option linter.unusedVariables false
theorem mayK_lp (fu : Nat) (k : ByteArray) : ∀ (n : Nat) (i : Int), key_name_may.lp3 fu k (k.size : Int) n i = diwanref1_MayKey.lp3 fu k n i
 | 0, _ => rfl
 | n + 1, i => by
  have ih := mayK_lp fu k n (w64 (i + 1))
  rw [key_name_may.lp3, diwanref1_MayKey.lp3, ih]
  cases decide (i < (k.size : Int))
  ·rfl
  ·rw [br_t rfl, br_t rfl]
   cases decide (0 ≤ i ∧ i < (k.size : Int))
   ·rfl
   ·rw [gd_t rfl, gd_t rfl]
    unfold key_sign
    by_cases h1 : byteAt k i < 33
    ·rw [br_t (b := decide (byteAt k i < 33)) (decide_eq_true h1), br_f (b := decide (byteAt k i ≥ 33)) (decide_eq_false (by omega))]; rfl
    ·rw [br_f (b := decide (byteAt k i < 33)) (decide_eq_false h1), br_t (b := decide (byteAt k i ≥ 33)) (decide_eq_true (by omega)), gd_t rfl, bd_s rfl]
     by_cases h2 : byteAt k i > 126
     ·rw [br_t (b := decide (byteAt k i > 126)) (decide_eq_true h2), show decide (byteAt k i ≤ 126) = false from decide_eq_false (by omega)]; rfl
     ·rw [br_f (b := decide (byteAt k i > 126)) (decide_eq_false h2), show decide (byteAt k i ≤ 126) = true from decide_eq_true (by omega)]; rfl
theorem mayK_eq (fu : Nat) (k : ByteArray) : key_name_may fu k = diwanref1_MayKey fu k := by
 unfold key_name_may diwanref1_MayKey
 rw [mayK_lp]; try rfl
theorem mayK_tot_lp (fu : Nat) (k : ByteArray) (hk : k.size ≤ 1000000) : ∀ (d i n : Nat), i + d = k.size → d < n → ∃ x, key_name_may.lp3 fu k (k.size : Int) n (i : Int) = some x
 | 0, i, n, h, hn => by
  obtain ⟨n, rfl⟩ : ∃ m, n = m + 1 := ⟨n - 1, by omega⟩
  rw [key_name_may.lp3, br_f (decide_eq_false (by omega))]; exact ⟨_, rfl⟩
 | d + 1, i, n, h, hn => by
  obtain ⟨n, rfl⟩ : ∃ m, n = m + 1 := ⟨n - 1, by omega⟩
  obtain ⟨x, hx⟩ := mayK_tot_lp fu k hk d (i + 1) n (by omega) (by omega)
  rw [key_name_may.lp3, br_t (decide_eq_true (by omega)), gd_t (decide_eq_true (by omega)), w64_id (n := (i : Int) + 1) (by omega) (by omega), show (i : Int) + 1 = ((i + 1 : Nat) : Int) by omega, hx]
  unfold key_sign
  cases decide (byteAt k i ≥ 33)
  ·exact ⟨_, rfl⟩
  ·rw [br_t rfl, bd_s rfl]
   cases decide (byteAt k i ≤ 126)
   ·exact ⟨_, rfl⟩
   ·exact ⟨_, rfl⟩
theorem mayK_tot {fu : Nat} {k : ByteArray} (hk : k.size ≤ 1000000) (hf : k.size < fu) : ∃ b, key_name_may fu k = some b := by
 unfold key_name_may
 obtain ⟨x, hx⟩ := mayK_tot_lp fu k hk k.size 0 fu (by omega) hf
 simp only [Int.natCast_zero] at hx
 rw [bd_s hx]
 cases x with
 | inl _ => cases h : decide ((k.size : Int) ≥ 1) <;> exact ⟨_, rfl⟩
 | inr _ => exact ⟨_, rfl⟩
theorem rising_lp2 (fu : Nat) (f : ByteArray → Bool) : ∀ (r q : List ByteArray) (n : Nat), (q ++ r).length ≤ 1000000 → (∀ k ∈ r, key_name_may fu k = some (f k)) → r.length < n →
  ∃ b : Bool, key_Rising.lp4 fu (q ++ r) (q ++ r) ((q ++ r).length : Int) n (q.length : Int) = some (bif b then .inl () else .inr ()) ∧ diwanref1_Rising.lp3 fu (q ++ r) n (q.length : Int) = some (bif b then .inl () else .inr ())
 | [], q, n, hl, hk, hn => by
  obtain ⟨n, rfl⟩ : ∃ m, n = m + 1 := ⟨n - 1, by omega⟩
  simp only [List.append_nil]
  rw [key_Rising.lp4, diwanref1_Rising.lp3, br_f (nlt_end _), br_f (nlt_end _)]
  exact ⟨true, rfl, rfl⟩
 | k :: r, q, n, hl, hk, hn => by
  obtain ⟨n, rfl⟩ : ∃ m, n = m + 1 := ⟨n - 1, by omega⟩
  have e : q ++ k :: r = (q ++ [k]) ++ r := by simp
  obtain ⟨b, ih1, ih2⟩ := rising_lp2 fu f r (q ++ [k]) n (by rw [← e]; exact hl) (fun k h => hk k (by simp [h])) (by simp at hn; omega)
  rw [← e] at ih1 ih2
  have hkk := hk k (by simp)
  rw [key_Rising.lp4, diwanref1_Rising.lp3, br_t (lt_mid _ _ _), br_t (lt_mid _ _ _), ix_mid, ix_mid, bd_s hkk, bd_s (mayK_eq fu k ▸ hkk), w64_len q r k (by omega), ih1, ih2]
  cases f k
  ·exact ⟨false, rfl, rfl⟩
  ·rw [br_f (b := !true) rfl, br_f (b := !true) rfl]
   rcases List.eq_nil_or_concat q with rfl | ⟨q0, u, hu⟩
   ·rw [br_f (by rfl), br_f (by rfl)]
    exact ⟨b, rfl, rfl⟩
   ·rw [List.concat_eq_append] at hu
    have hlen : q.length = q0.length + 1 := by rw [hu]; simp
    have hw : w64 ((q.length : Int) - 1) = (q0.length : Int) := by rw [w64_id (by omega) (by simp at hl; omega)]; omega
    have hx : (q ++ k :: r)[q0.length]? = some u := by rw [hu]; simp
    rw [br_t (decide_eq_true (by omega)), br_t (decide_eq_true (by omega)), hw, ix_n hx, ix_mid, ix_n hx]
    have heq : (Op.bytesLess k.toList u.toList || (k.toList == u.toList)) = !(Op.bytesLess u.toList k.toList) := by
     show (kl k u || (k.toList == u.toList)) = !(kl u k)
     rcases kl_tri k u with g | g | g
     ·rw [g, kl_asymm g]; rfl
     ·subst g; rw [kl_irr]; simp
     ·rw [g, kl_asymm g, beq_baf.2 (kl_ne g).symm]; rfl
    rw [heq]
    cases Op.bytesLess u.toList k.toList
    ·exact ⟨false, rfl, rfl⟩
    ·exact ⟨b, rfl, rfl⟩
theorem rising_eq {fu : Nat} {l : List ByteArray} (hl : l.length ≤ 1000000) (hk : ∀ k ∈ l, k.size ≤ 1000000 ∧ k.size < fu) (hf : l.length < fu) : ∃ b, key_Rising fu l = some b ∧ diwanref1_Rising fu l = some b := by
 have hf' : ∀ k, ∃ b, k ∈ l → key_name_may fu k = some b := fun k => by
  by_cases h : k ∈ l
  ·obtain ⟨b, hb⟩ := mayK_tot (fu := fu) (k := k) (hk k h).1 (hk k h).2
   exact ⟨b, fun _ => hb⟩
  ·exact ⟨true, fun g => absurd g h⟩
 obtain ⟨b, h1, h2⟩ := rising_lp2 fu (fun k => (hf' k).choose) l [] fu hl (fun k h => (hf' k).choose_spec h) hf
 simp only [List.nil_append, List.length_nil, Int.natCast_zero] at h1 h2
 unfold key_Rising diwanref1_Rising
 rw [bd_s h1, bd_s h2]
 cases b <;> exact ⟨_, rfl, rfl⟩
theorem mayS_lp2 (fu N : Nat) (hN : N < fu) (hN' : N ≤ 1000000) (z : TStore) (M : Int) : ∀ (r q : List TChain) (ks : List ByteArray) (n : Nat), (q ++ r).length ≤ 1000000 → (∀ c ∈ r, c.L.length ≤ N) → ks.length ≤ q.length → r.length < n →
  ∃ b : Bool, store_May.lp4 fu (q ++ r) ((q ++ r).length : Int) z n ks (q.length : Int) = some (bif b then .inl (ks ++ r.map (·.Key)) else .inr ()) ∧ diwanref13_MayStore.lp4 fu (TStore.mk (q ++ r) M) n ks (q.length : Int) = some (bif b then .inl (ks ++ r.map (·.Key)) else .inr ()) ∧ (b = true → ∀ c ∈ r, may 0 c.L = true)
 | [], q, ks, n, hl, hc, hk, hn => by
  obtain ⟨n, rfl⟩ : ∃ m, n = m + 1 := ⟨n - 1, by omega⟩
  simp only [List.append_nil]
  rw [store_May.lp4, diwanref13_MayStore.lp4]
  dsimp only
  rw [br_f (nlt_end _), br_f (nlt_end _)]
  exact ⟨true, by simp, by simp, by simp⟩
 | c :: r, q, ks, n, hl, hc, hk, hn => by
  obtain ⟨n, rfl⟩ : ∃ m, n = m + 1 := ⟨n - 1, by omega⟩
  have e : q ++ c :: r = (q ++ [c]) ++ r := by simp
  have h1 := hc c (by simp)
  have hl' : q.length + 1 + r.length ≤ 1000000 := by simp at hl; omega
  obtain ⟨b, ih1, ih2, ih3⟩ := mayS_lp2 fu N hN hN' z M r (q ++ [c]) (ks ++ [c.Key]) n (by rw [← e]; exact hl) (fun c h => hc c (by simp [h])) (by simp; omega) (by simp at hn; omega)
  rw [← e] at ih1 ih2
  rw [store_May.lp4, diwanref13_MayStore.lp4]
  dsimp only
  rw [br_t (lt_mid _ _ _), br_t (lt_mid _ _ _), ix_mid, ix_mid, gd_t (b := decide (ks.length + ([c.Key] : List ByteArray).length ≤ 4294967296)) (decide_eq_true (by simp; omega)), gd_t (b := decide (ks.length + ([c.Key] : List ByteArray).length ≤ 4294967296)) (decide_eq_true (by simp; omega)), ix_mid, ix_mid, bd_s (may_e (l := c.L) (by omega) (by omega)), bd_s (ref_e (l := c.L) (by omega) (by omega)), w64_len q r c (by omega), ih1, ih2]
  have hmap : ks ++ [c.Key] ++ r.map (·.Key) = ks ++ (c :: r).map (·.Key) := by simp
  rw [hmap]
  cases ((c.L.length : Int) == 0)
  ·rw [br_f (by rfl)]
   cases hm : may 0 c.L
   ·exact ⟨false, rfl, rfl, fun g => by cases g⟩
   ·refine ⟨b, rfl, rfl, fun g d hd => ?_⟩
    rcases List.mem_cons.1 hd with rfl | hd
    ·exact hm
    ·exact ih3 g d hd
  ·exact ⟨false, rfl, rfl, fun g => by cases g⟩
theorem mayS_eq {fu N : Nat} {s : TStore} (hm : Sml N s.Chains) (hk : ∀ c ∈ s.Chains, c.Key.size ≤ 1000000 ∧ c.Key.size < fu) (hN : N < fu) (hN' : N ≤ 1000000) : ∃ b, store_May fu s = some b ∧ diwanref13_MayStore fu s = some b ∧ (b = true → (∀ c ∈ s.Chains, may 0 c.L = true) ∧ 0 ≤ s.Mark) := by
 obtain ⟨b, h1, h2, h3⟩ := mayS_lp2 fu N hN hN' s s.Mark s.Chains [] [] fu (by have := hm.1; simp; omega) hm.2 (Nat.le_refl _) (by have := hm.1; omega)
 simp only [List.nil_append, List.length_nil, Int.natCast_zero] at h1 h2
 unfold store_May diwanref13_MayStore
 rw [bd_s h1, show s = TStore.mk s.Chains s.Mark from rfl, bd_s h2]
 cases b
 ·exact ⟨false, rfl, rfl, fun g => by cases g⟩
 ·dsimp only
  obtain ⟨b, g1, g2⟩ := rising_eq (fu := fu) (l := s.Chains.map (·.Key)) (by have := hm.1; simp; omega) (fun k hk' => by
   obtain ⟨c, hc, rfl⟩ := List.mem_map.1 hk'
   exact hk c hc) (by have := hm.1; simp; omega)
  simp only [cond_true]
  rw [bd_s g1, bd_s g2]
  cases b
  ·cases decide (s.Mark ≥ 0) <;> exact ⟨false, rfl, rfl, fun g => by cases g⟩
  ·by_cases hM : s.Mark ≥ 0
   ·rw [decide_eq_true hM]; exact ⟨true, rfl, rfl, fun _ => ⟨h3 rfl, hM⟩⟩
   ·rw [decide_eq_false hM]; exact ⟨false, rfl, rfl, fun g => by cases g⟩
end Go.Proofs.Ythjpcfbfiaenaaa.Told.ST
