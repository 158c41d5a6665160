/- Which keys, and rows of keys, may be: the program and the document's answer say the same. -/
import Derived.Test.YtbflggolnolaeaaFitMsgTake
import Derived.Test.YtbflggolnolaeaaTMath
import Derived.Sort.Walk0
namespace Go.Proofs.Ytbflggolnolaeaa.Told.ST
open Go Go.Proofs.Ytbflggolnolaeaa.Vam Go.Proofs.Ytbflggolnolaeaa.Told
set_option linter.unusedSimpArgs false
set_option linter.unusedVariables false
def kl (a b : ByteArray) : Bool := Op.bytesLess a.toList b.toList
theorem kl_iff {a b : ByteArray} : kl a b = true ↔ a.toList < b.toList := by
 unfold kl; rw [Go.Proofs.bytesLess_eq]; simp
theorem ba_ext {x y : ByteArray} (h : x.toList = y.toList) : x = y := by
 rw [ByteArray.toList_eq, ByteArray.toList_eq] at h
 cases x with | mk x =>
 cases y with | mk y =>
 congr
 exact Array.ext' h
theorem beq_ba {x y : ByteArray} : (x.toList == y.toList) = true ↔ x = y := by
 rw [beq_iff_eq]; exact ⟨ba_ext, fun h => by rw [h]⟩
theorem beq_baf {x y : ByteArray} : (x.toList == y.toList) = false ↔ x ≠ y := by
 rw [beq_eq_false_iff_ne]; exact ⟨fun h g => h (by rw [g]), fun h g => h (ba_ext g)⟩
theorem kl_irr (a : ByteArray) : kl a a = false := by
 cases h : kl a a with
 | false => rfl
 | true => exact absurd (kl_iff.1 h) (List.lt_irrefl _)
theorem kl_trans {a b c : ByteArray} (h : kl a b = true) (h' : kl b c = true) : kl a c = true := kl_iff.2 (List.lt_trans (kl_iff.1 h) (kl_iff.1 h'))
theorem kl_asymm {a b : ByteArray} (h : kl a b = true) : kl b a = false := by
 cases h' : kl b a with
 | false => rfl
 | true => have := kl_trans h h'; rw [kl_irr] at this; cases this
theorem kl_tri (a b : ByteArray) : kl a b = true ∨ a = b ∨ kl b a = true := by
 rcases Nat.lt_trichotomy 0 0 with h | h | h
 ·omega
 ·by_cases h1 : a.toList < b.toList
  ·exact .inl (kl_iff.2 h1)
  ·by_cases h2 : b.toList < a.toList
   ·exact .inr (.inr (kl_iff.2 h2))
   ·exact .inr (.inl (ba_ext (List.le_antisymm (List.not_lt.1 h2) (List.not_lt.1 h1))))
 ·omega
theorem kl_ne {a b : ByteArray} (h : kl a b = true) : a ≠ b := fun e => by subst e; rw [kl_irr] at h; cases h
theorem kl_of_not {a b : ByteArray} (h : kl a b = false) (hn : a ≠ b) : kl b a = true := by
 rcases kl_tri a b with g | g | g
 ·rw [g] at h; cases h
 ·exact absurd g hn
 ·exact g
theorem mayK_lp (fu : Nat) (k : ByteArray) : ∀ (n : Nat) (i : Int), key_name_may.lp3 fu k (k.size : Int) n i = diwanref1_MayKey.lp3 fu k n i
 | 0, _ => rfl
 | n + 1, i => by
  have ih := mayK_lp fu k n (w64 (i + 1))
  rw [key_name_may.lp3, diwanref1_MayKey.lp3, ih]
  cases decide (i < (k.size : Int))
  ·rfl
  ·rw [br_t rfl, br_t rfl]
   cases decide (0 ≤ i ∧ i < (k.size : Int))
   ·rfl
   ·rw [gd_t rfl, gd_t rfl]
    unfold key_sign
    by_cases h1 : byteAt k i < 33
    ·rw [br_t (b := decide (byteAt k i < 33)) (decide_eq_true h1), br_f (b := decide (byteAt k i ≥ 33)) (decide_eq_false (by omega))]; rfl
    ·rw [br_f (b := decide (byteAt k i < 33)) (decide_eq_false h1), br_t (b := decide (byteAt k i ≥ 33)) (decide_eq_true (by omega)), gd_t rfl, bd_s rfl]
     by_cases h2 : byteAt k i > 126
     ·rw [br_t (b := decide (byteAt k i > 126)) (decide_eq_true h2), show decide (byteAt k i ≤ 126) = false from decide_eq_false (by omega)]; rfl
     ·rw [br_f (b := decide (byteAt k i > 126)) (decide_eq_false h2), show decide (byteAt k i ≤ 126) = true from decide_eq_true (by omega)]; rfl
theorem mayK_eq (fu : Nat) (k : ByteArray) : key_name_may fu k = diwanref1_MayKey fu k := by
 unfold key_name_may diwanref1_MayKey
 rw [mayK_lp]; rfl
theorem mayK_tot_lp (fu : Nat) (k : ByteArray) (hk : k.size ≤ 9223372036854775807) : ∀ (d i n : Nat), i + d = k.size → d < n → ∃ x, key_name_may.lp3 fu k (k.size : Int) n (i : Int) = some x
 | 0, i, n, h, hn => by
  obtain ⟨n, rfl⟩ : ∃ m, n = m + 1 := ⟨n - 1, by omega⟩
  rw [key_name_may.lp3, br_f (decide_eq_false (by omega))]; exact ⟨_, rfl⟩
 | d + 1, i, n, h, hn => by
  obtain ⟨n, rfl⟩ : ∃ m, n = m + 1 := ⟨n - 1, by omega⟩
  obtain ⟨x, hx⟩ := mayK_tot_lp fu k hk d (i + 1) n (by omega) (by omega)
  rw [key_name_may.lp3, br_t (decide_eq_true (by omega)), gd_t (decide_eq_true (by omega)), w64_id (n := (i : Int) + 1) (by omega) (by omega), show (i : Int) + 1 = ((i + 1 : Nat) : Int) by omega, hx]
  unfold key_sign
  cases decide (byteAt k i ≥ 33)
  ·exact ⟨_, rfl⟩
  ·rw [br_t rfl, bd_s rfl]
   cases decide (byteAt k i ≤ 126)
   ·exact ⟨_, rfl⟩
   ·exact ⟨_, rfl⟩
theorem mayK_tot {fu : Nat} {k : ByteArray} (hk : k.size ≤ 9223372036854775807) (hf : k.size < fu) : ∃ b, key_name_may fu k = some b := by
 unfold key_name_may
 obtain ⟨x, hx⟩ := mayK_tot_lp fu k hk k.size 0 fu (by omega) hf
 simp only [Int.natCast_zero] at hx
 rw [bd_s hx]
 cases x with
 | inl _ => cases h : decide ((k.size : Int) ≥ 1) <;> exact ⟨_, rfl⟩
 | inr _ => exact ⟨_, rfl⟩
theorem rising_lp2 (fu : Nat) (f : ByteArray → Bool) : ∀ (r q : List ByteArray) (n : Nat), (q ++ r).length ≤ 1000000 → (∀ k ∈ r, key_name_may fu k = some (f k)) → r.length < n →
  ∃ b : Bool, key_Rising.lp4 fu (q ++ r) (q ++ r) ((q ++ r).length : Int) n (q.length : Int) = some (bif b then .inl () else .inr ()) ∧ diwanref1_Rising.lp3 fu (q ++ r) n (q.length : Int) = some (bif b then .inl () else .inr ())
 | [], q, n, hl, hk, hn => by
  obtain ⟨n, rfl⟩ : ∃ m, n = m + 1 := ⟨n - 1, by omega⟩
  simp only [List.append_nil]
  rw [key_Rising.lp4, diwanref1_Rising.lp3, br_f (nlt_end _), br_f (nlt_end _)]
  exact ⟨true, rfl, rfl⟩
 | k :: r, q, n, hl, hk, hn => by
  obtain ⟨n, rfl⟩ : ∃ m, n = m + 1 := ⟨n - 1, by omega⟩
  have e : q ++ k :: r = (q ++ [k]) ++ r := by simp
  obtain ⟨b, ih1, ih2⟩ := rising_lp2 fu f r (q ++ [k]) n (by rw [← e]; exact hl) (fun k h => hk k (by simp [h])) (by simp at hn; omega)
  rw [← e] at ih1 ih2
  have hkk := hk k (by simp)
  rw [key_Rising.lp4, diwanref1_Rising.lp3, br_t (lt_mid _ _ _), br_t (lt_mid _ _ _), ix_mid, ix_mid, bd_s hkk, bd_s (mayK_eq fu k ▸ hkk), w64_len q r k (by omega), ih1, ih2]
  cases f k
  ·exact ⟨false, rfl, rfl⟩
  ·rw [br_f (b := !true) rfl, br_f (b := !true) rfl]
   rcases List.eq_nil_or_concat q with rfl | ⟨q0, u, hu⟩
   ·rw [br_f (by rfl), br_f (by rfl)]
    exact ⟨b, rfl, rfl⟩
   ·rw [List.concat_eq_append] at hu
    have hlen : q.length = q0.length + 1 := by rw [hu]; simp
    have hw : w64 ((q.length : Int) - 1) = (q0.length : Int) := by rw [w64_id (by omega) (by simp at hl; omega)]; omega
    have hx : (q ++ k :: r)[q0.length]? = some u := by rw [hu]; simp
    rw [br_t (decide_eq_true (by omega)), br_t (decide_eq_true (by omega)), hw, ix_n hx, ix_mid, ix_n hx]
    have heq : (Op.bytesLess k.toList u.toList || (k.toList == u.toList)) = !(Op.bytesLess u.toList k.toList) := by
     show (kl k u || (k.toList == u.toList)) = !(kl u k)
     rcases kl_tri k u with g | g | g
     ·rw [g, kl_asymm g]; rfl
     ·subst g; rw [kl_irr]; simp
     ·rw [g, kl_asymm g, beq_baf.2 (kl_ne g).symm]; rfl
    rw [heq]
    cases Op.bytesLess u.toList k.toList
    ·exact ⟨false, rfl, rfl⟩
    ·exact ⟨b, rfl, rfl⟩
theorem rising_eq {fu : Nat} {l : List ByteArray} (hl : l.length ≤ 1000000) (hk : ∀ k ∈ l, k.size ≤ 9223372036854775807 ∧ k.size < fu) (hf : l.length < fu) : ∃ b, key_Rising fu l = some b ∧ diwanref1_Rising fu l = some b := by
 have hf' : ∀ k, ∃ b, k ∈ l → key_name_may fu k = some b := fun k => by
  by_cases h : k ∈ l
  ·obtain ⟨b, hb⟩ := mayK_tot (fu := fu) (k := k) (hk k h).1 (hk k h).2
   exact ⟨b, fun _ => hb⟩
  ·exact ⟨true, fun g => absurd g h⟩
 obtain ⟨b, h1, h2⟩ := rising_lp2 fu (fun k => (hf' k).choose) l [] fu hl (fun k h => (hf' k).choose_spec h) hf
 simp only [List.nil_append, List.length_nil, Int.natCast_zero] at h1 h2
 unfold key_Rising diwanref1_Rising
 rw [bd_s h1, bd_s h2]
 cases b <;> exact ⟨_, rfl, rfl⟩
def risB (fu : Nat) (l : List ByteArray) : Bool := (key_Rising fu l).getD false
theorem ris_e {fu : Nat} {l : List ByteArray} (hl : l.length ≤ 1000000) (hk : ∀ k ∈ l, k.size ≤ 9223372036854775807 ∧ k.size < fu) (hf : l.length < fu) : key_Rising fu l = some (risB fu l) ∧ diwanref1_Rising fu l = some (risB fu l) := by
 obtain ⟨b, h1, h2⟩ := rising_eq hl hk hf
 have : risB fu l = b := by unfold risB; rw [h1]; rfl
 rw [this]; exact ⟨h1, h2⟩
theorem may_size {fu : Nat} {k : ByteArray} (h : key_name_may fu k = some true) : k.size ≤ 8 := by
 unfold key_name_may at h
 cases hh : key_name_may.lp3 fu k (k.size : Int) fu 0 with
 | none => rw [hh] at h; cases h
 | some o =>
  rw [hh, bd_s rfl] at h
  cases o with
  | inr _ => cases h
  | inl _ =>
   dsimp only at h
   by_cases h1 : (k.size : Int) ≥ 1
   ·rw [br_t (decide_eq_true h1)] at h
    have := of_decide_eq_true (Option.some.inj h)
    omega
   ·rw [br_f (decide_eq_false h1)] at h; cases h
theorem ris_size_lp (fu : Nat) : ∀ (r q : List ByteArray) (n : Nat), (q ++ r).length ≤ 1000000 → key_Rising.lp4 fu (q ++ r) (q ++ r) ((q ++ r).length : Int) n (q.length : Int) = some (.inl ()) → ∀ k ∈ r, k.size ≤ 8
 | [], q, n, hl, h, k, hk => by cases hk
 | x :: r, q, n, hl, h, k, hk => by
  cases n with
  | zero => rw [key_Rising.lp4] at h; cases h
  | succ n =>
   have e : q ++ x :: r = (q ++ [x]) ++ r := by simp
   rw [key_Rising.lp4, br_t (lt_mid _ _ _), ix_mid, w64_len q r x (by omega)] at h
   cases hm : key_name_may fu x with
   | none => rw [hm] at h; cases h
   | some b =>
    rw [hm, bd_s rfl] at h
    cases b with
    | false => cases h
    | true =>
     rw [br_f (b := !true) rfl] at h
     have ih : key_Rising.lp4 fu ((q ++ [x]) ++ r) ((q ++ [x]) ++ r) (((q ++ [x]) ++ r).length : Int) n ((q ++ [x]).length : Int) = some (.inl ()) := by
      rw [← e]
      by_cases h1 : (q.length : Int) > 0
      ·rw [br_t (decide_eq_true h1)] at h
       rcases List.eq_nil_or_concat q with hq | ⟨q0, u, hu⟩
       ·subst hq; simp at h1
       ·rw [List.concat_eq_append] at hu
        have hlen : q.length = q0.length + 1 := by rw [hu]; simp
        have hw : w64 ((q.length : Int) - 1) = (q0.length : Int) := by rw [w64_id (by omega) (by simp at hl; omega)]; omega
        have hx : (q ++ x :: r)[q0.length]? = some u := by rw [hu]; simp
        rw [hw, ix_n hx] at h
        cases hb : (!(Op.bytesLess u.toList x.toList))
        ·rw [br_f hb] at h; exact h
        ·rw [br_t hb] at h; cases h
      ·rw [br_f (decide_eq_false h1)] at h; exact h
     rcases List.mem_cons.1 hk with rfl | hk
     ·exact may_size hm
     ·exact ris_size_lp fu r (q ++ [x]) n (by rw [← e]; exact hl) ih k hk
theorem ris_size {fu : Nat} {l : List ByteArray} (hl : l.length ≤ 1000000) (h : risB fu l = true) : ∀ k ∈ l, k.size ≤ 8 := by
 unfold risB key_Rising at h
 cases hh : key_Rising.lp4 fu l l (l.length : Int) fu 0 with
 | none => rw [hh] at h; cases h
 | some o =>
  cases o with
  | inr _ => rw [hh] at h; cases h
  | inl _ => exact ris_size_lp fu l [] fu hl (by simpa using hh)
end Go.Proofs.Ytbflggolnolaeaa.Told.ST
