/- The plain law of NumRow. -/
import Derived.Test.YtiioolggdffdbaaFitNumRow
import Derived.Test.YtiioolggdffdbaaTNumMath
namespace Go.Proofs.Ytiioolggdffdbaa.Told.PureNumRow
open Go Go.Proofs.Ytiioolggdffdbaa.Vam Go.Proofs.Ytiioolggdffdbaa.Told Go.Proofs.Ytiioolggdffdbaa.Told.NM
set_option linter.unusedSimpArgs false
set_option linter.unusedVariables false
theorem w8_mod {n : Int} (h : 0 ≤ n) : w8 n = n % 256 := by
  show IntKind.wrap .u8 n = n % 256
  simp [IntKind.wrap, IntKind.min, IntKind.max, IntKind.signed, IntKind.bits]
theorem vshr7 {n : Nat} : vshr .i64 (n : Int) 7 = ((n / 128 : Nat) : Int) := by
  show (n : Int).fdiv (2 ^ (min (7 : Int).toNat IntKind.i64.bits)) = _
  have : min (7 : Int).toNat IntKind.i64.bits = 7 := rfl
  rw [this]
  rw [Int.fdiv_eq_ediv_of_nonneg _ (by decide)]
  omega
theorem put_lp (fu : Nat) : ∀ (j n k : Nat) (acc : List Int), n < 128 ^ (j + 1) → j < k → acc.length + j < 100000000 → num_Put.lp5 fu k (n : Int) acc = some (((n / 128 ^ ((enc n).length - 1) : Nat) : Int), acc ++ (enc n).take ((enc n).length - 1)) ∧ (enc n).drop ((enc n).length - 1) = [((n / 128 ^ ((enc n).length - 1) : Nat) : Int)] ∧ n / 128 ^ ((enc n).length - 1) < 128
  | j, n, k, acc, hn, hk, ha => by
    obtain ⟨k, rfl⟩ : ∃ m, k = m + 1 := ⟨k - 1, by omega⟩
    rw [num_Put.lp5]
    by_cases h : n < 128
    · rw [br_f (decide_eq_false (by omega)), enc_lt h]
      simp [h]
    · rw [br_t (decide_eq_true (by omega)), gd_t (decide_eq_true (by simp; omega)), vshr7]
      match j, hn, hk, ha with
      | 0, hn, _, _ => exact absurd (by simpa using hn) h
      | j + 1, hn, hk, ha =>
        have hd : n / 128 < 128 ^ (j + 1) := by
          rw [Nat.div_lt_iff_lt_mul (by decide)]
          rw [Nat.pow_succ] at hn; exact hn
        obtain ⟨g1, g2, g3⟩ := put_lp fu j (n / 128) k (acc ++ [vor .u8 (w8 (n : Int)) 128]) hd (by omega) (by simp; omega)
        have hp := enc_pos (n / 128)
        have e2 : vor .u8 (w8 (n : Int)) 128 = ((n % 128 + 128 : Nat) : Int) := by
          rw [w8_mod (by omega), or128 _ (by omega) (by omega)]; omega
        rw [g1, enc_ge h, e2]
        obtain ⟨q, hq⟩ : ∃ q, (enc (n / 128)).length = q + 1 := ⟨(enc (n / 128)).length - 1, by omega⟩
        have hdiv : n / 128 / 128 ^ q = n / 128 ^ (q + 1) := by rw [Nat.div_div_eq_div_mul, Nat.pow_succ, Nat.mul_comm]
        rw [hq] at g2 g3 ⊢
        simp only [Nat.add_sub_cancel] at g2 g3 ⊢
        rw [hdiv] at g2 g3 ⊢
        simp only [List.length_cons, hq, Nat.add_sub_cancel]
        refine ⟨?_, ?_, g3⟩
        · simp
        · simpa using g2
theorem put {n fu : Nat} (hn : n < 9223372036854775808) (hk : 9 ≤ fu) : num_Put fu (n : Int) = some (enc n) := by
  unfold num_Put
  obtain ⟨g1, g2, g3⟩ := put_lp fu 8 n fu [] (by have : (128 : Nat) ^ (8 + 1) = 9223372036854775808 := by decide +kernel
                                                 omega) (by omega) (by simp)
  have h9 := enc_len9 hn
  rw [br_f (decide_eq_false (by omega)), bd_s g1]
  dsimp only
  generalize hM : n / 128 ^ ((enc n).length - 1) = M at g2 g3
  have hw : w8 ((M : Nat) : Int) = (M : Int) := by rw [w8_mod (by omega)]; omega
  rw [gd_t (decide_eq_true (by simp; omega)), hw, ← g2, List.nil_append, List.take_append_drop]
theorem num_result_e (v n : Int) (ok : Bool) : num_result v n ok = some (bif ok then (v, n, true) else (0, 0, false)) := by cases ok <;> rfl
theorem take_lp (fu : Nat) : ∀ (r q : List Int) (i v k : Nat), Bytes r → q.length = i → i + r.length ≤ 9 → v < 2 ^ (7 * i) → r.length < k →
    num_Take.lp3 fu (q ++ r) ((q ++ r).length : Int) k (v : Int) (i : Int) = some (.inr (go r i v)) ∨ (num_Take.lp3 fu (q ++ r) ((q ++ r).length : Int) k (v : Int) (i : Int) = some (.inl ()) ∧ go r i v = (0, 0, false)) := by
  intro r
  induction r with
  | nil =>
    intro q i v k hb hi hl hv hk
    obtain ⟨k, rfl⟩ : ∃ m, k = m + 1 := ⟨k - 1, by omega⟩
    right
    rw [num_Take.lp3, br_f (decide_eq_false (by simp; omega))]; exact ⟨rfl, rfl⟩
  | cons c r ih =>
    intro q i v k hb hi hl hv hk
    obtain ⟨k, rfl⟩ : ∃ m, k = m + 1 := ⟨k - 1, by omega⟩
    have hl' : i + r.length + 1 ≤ 9 := by simp at hl; omega
    have hk' : r.length < k := by simp at hk; omega
    obtain ⟨c0, c1⟩ := hb c (List.mem_cons_self)
    have hget : (q ++ c :: r)[i]? = some c := by subst hi; simp
    have hi8 : i ≤ 8 := by omega
    have hw7 : w64 (7 * (i : Int)) = 7 * (i : Int) := w64_id (by omega) (by omega)
    have hw1 : w64 ((i : Int) + 1) = (i : Int) + 1 := w64_id (by omega) (by omega)
    have hos := or_shift v i c hi8 hv c0 c1
    rw [num_Take.lp3, br_t (decide_eq_true (by simp; omega)), ix_n hget, gd_t (decide_eq_true (by rw [hw7]; omega)), hos, hw1]
    have hm : c.toNat % 128 < 128 := Nat.mod_lt _ (by decide)
    by_cases hc : c < 128
    · left
      rw [br_t (by rw [and128_lo c c0 hc]; rfl)]
      simp only [go]; rw [if_pos hc]
      by_cases h0 : i = 0
      · rw [br_t (by simpa using h0), num_result_e, if_pos (.inl h0)]; rfl
      · rw [br_f (by simpa using h0), num_result_e]
        by_cases hp : c > 0
        · rw [if_pos (.inr hp), decide_eq_true hp]; rfl
        · rw [if_neg (by omega), decide_eq_false hp]; rfl
    · rw [br_f (by rw [and128_hi c (by omega) c1]; rfl)]
      simp only [go]; rw [if_neg hc]
      have e : q ++ c :: r = (q ++ [c]) ++ r := by simp
      have e1 : (i : Int) + 1 = ((i + 1 : Nat) : Int) := by omega
      rw [e, e1]
      refine ih (q ++ [c]) (i + 1) _ k (fun x hx => hb x (List.mem_cons_of_mem _ hx)) (by simp; omega) (by omega) ?_ hk'
      have h7 : 2 ^ (7 * (i + 1)) = 2 ^ (7 * i) * 128 := by rw [show 7 * (i + 1) = 7 * i + 7 by omega, Nat.pow_add]
      rw [h7]
      have h8 : 2 ^ (7 * i) * (c.toNat % 128) ≤ 2 ^ (7 * i) * 127 := Nat.mul_le_mul_left _ (by omega)
      have h9 : 2 ^ (7 * i) * 128 = 2 ^ (7 * i) * 127 + 2 ^ (7 * i) := by omega
      omega
theorem take {b : List Int} {fu : Nat} (hb : Bytes b) (hk : 10 ≤ fu) : num_Take fu b = some (tk b) := by
  unfold num_Take tk
  have hm : (if (9 : Int) < (b.length : Int) then 9 else (b.length : Int)) = ((min b.length 9 : Nat) : Int) := by split <;> omega
  rw [hm, gd_t (decide_eq_true (by omega))]
  have e : b.take ((min b.length 9 : Nat) : Int).toNat = b.take 9 := by
    rw [Int.toNat_natCast]
    by_cases h : b.length ≤ 9
    · rw [List.take_of_length_le (by omega), List.take_of_length_le h]
    · rw [Nat.min_eq_right (by omega)]
  rw [e]
  rcases take_lp fu (b.take 9) [] 0 0 fu (hb.take 9) rfl (by simp; omega) (by decide) (by simp; omega) with h | ⟨h, h'⟩
  · simp only [List.nil_append, Int.natCast_zero] at h
    rw [bd_s h]
  · simp only [List.nil_append, Int.natCast_zero] at h
    rw [bd_s h, h']
theorem putText {s : ByteArray} {fu : Nat} (hk : 9 ≤ fu) (hs : s.size ≤ 255) : num_PutText fu s = some (enc s.size ++ bytesL s) := by
  unfold num_PutText
  have := enc_len9 (n := s.size) (by omega)
  rw [br_f (decide_eq_false (by omega)), bd_s (put (by omega) hk), gd_t (decide_eq_true (by omega))]
theorem takeText {s : ByteArray} {r : List Int} {fu : Nat} (hs : s.size ≤ 255) (hr : Bytes r) (hl : r.length ≤ 100000000) (hk : 10 ≤ fu) :
    num_TakeText fu (enc s.size ++ bytesL s ++ r) = some (strB (bytesL s), (((enc s.size).length + s.size : Nat) : Int), true) := by
  have hb : Bytes (enc s.size ++ bytesL s ++ r) := ((enc_bytes _).app (bytesL_bytes s)).app hr
  have e := tk_back s.size (by omega) (bytesL s ++ r)
  rw [← List.append_assoc] at e
  have h9 := enc_len9 (n := s.size) (by omega)
  have hbl := bytesL_length s
  unfold num_TakeText
  rw [bd_s (take hb hk), e]
  dsimp only
  have hlen : (enc s.size ++ bytesL s ++ r).length = (enc s.size).length + s.size + r.length := by simp [hbl]; omega
  have e1 : w64 (((enc s.size ++ bytesL s ++ r).length : Int) - ((enc s.size).length : Int)) = ((s.size + r.length : Nat) : Int) := by rw [w64_id (by omega) (by omega)]; omega
  have e2 : w64 (((enc s.size).length : Int) + (s.size : Int)) = (((enc s.size).length + s.size : Nat) : Int) := by rw [w64_id (by omega) (by omega)]; omega
  rw [br_f (by rfl), br_f (decide_eq_false (by omega)), e1, e2, br_f (decide_eq_false (by omega)), gd_t (decide_eq_true (by omega))]
  rw [Int.toNat_natCast, Int.toNat_natCast, List.take_left' (by simp [hbl]), List.drop_left' rfl]
/-- Numbers, and texts, one behind the other. -/
def encs (l : List Int) : List Int := (l.map fun x => enc x.toNat).flatten
def txts (t : List ByteArray) : List Int := (t.map fun s => enc s.size ++ bytesL s).flatten
theorem encs_cons (x : Int) (l : List Int) : encs (x :: l) = enc x.toNat ++ encs l := by simp [encs]
theorem txts_cons (s : ByteArray) (t : List ByteArray) : txts (s :: t) = enc s.size ++ bytesL s ++ txts t := by simp [txts]
theorem encs_bytes (l : List Int) : Bytes (encs l) := by
  induction l with
  | nil => exact Bytes.nil
  | cons x l ih => rw [encs_cons]; exact (enc_bytes _).app ih
theorem txts_bytes (t : List ByteArray) : Bytes (txts t) := by
  induction t with
  | nil => exact Bytes.nil
  | cons x l ih => rw [txts_cons]; exact ((enc_bytes _).app (bytesL_bytes x)).app ih
theorem encs_len : ∀ (l : List Int), (∀ x ∈ l, okI .u32 x) → (encs l).length ≤ 9 * l.length
  | [], _ => by simp [encs]
  | x :: l, h => by
    have := okI_u32 (h x (by simp))
    have h9 := enc_len9 (n := x.toNat) (by omega)
    have := encs_len l fun y hy => h y (by simp [hy])
    rw [encs_cons]; simp; omega
theorem txts_len : ∀ (t : List ByteArray), (∀ s ∈ t, s.size ≤ 100) → (txts t).length ≤ 109 * t.length
  | [], _ => by simp [txts]
  | x :: l, h => by
    have := h x (by simp)
    have h9 := enc_len9 (n := x.size) (by omega)
    have := txts_len l fun y hy => h y (by simp [hy])
    rw [txts_cons]; simp [bytesL_length]; omega
theorem lp11 (fu : Nat) (hf : 30 ≤ fu) (t : List ByteArray) : ∀ (r q : List Int) (acc : List Int) (n : Nat), (q ++ r).length ≤ 20 → (∀ x ∈ r, okI .u32 x) → acc.length ≤ 9 * q.length → r.length < n →
    diwanlaw1_NumRow.lp11 fu (q ++ r) t n acc (q.length : Int) = some (acc ++ encs r)
  | [], q, acc, n, hl, hr, ha, hn => by
    obtain ⟨n, rfl⟩ : ∃ m, n = m + 1 := ⟨n - 1, by omega⟩
    simp only [List.append_nil]
    rw [diwanlaw1_NumRow.lp11, br_f (nlt_end _)]
    simp [encs]
  | v :: r, q, acc, n, hl, hr, ha, hn => by
    obtain ⟨n, rfl⟩ : ∃ m, n = m + 1 := ⟨n - 1, by omega⟩
    have e : q ++ v :: r = (q ++ [v]) ++ r := by simp
    have hv := okI_u32 (hr v (by simp))
    have h9 := enc_len9 (n := v.toNat) (by omega)
    have hl' : q.length + 1 + r.length ≤ 20 := by simp at hl; omega
    have ih := lp11 fu hf t r (q ++ [v]) (acc ++ enc v.toNat) n (by rw [← e]; exact hl) (fun x hx => hr x (by simp [hx])) (by simp; omega) (by simp at hn; omega)
    rw [← e] at ih
    have hw : w64 v = ((v.toNat : Nat) : Int) := by rw [w64_id (by omega) (by omega)]; omega
    rw [diwanlaw1_NumRow.lp11, br_t (lt_mid _ _ _), ix_mid, hw, bd_s (put (by omega) (by omega)), gd_t (decide_eq_true (by omega)), w64_len q r v (by omega), ih, encs_cons, List.append_assoc]
theorem lp18 (fu : Nat) (hf : 30 ≤ fu) (l : List Int) : ∀ (r q : List ByteArray) (acc : List Int) (n : Nat), (q ++ r).length ≤ 10 → acc.length ≤ 180 + 109 * q.length → r.length < n →
    diwanlaw1_NumRow.lp18 fu l (q ++ r) n acc (q.length : Int) = some (.inr ()) ∨ ((∀ s ∈ r, s.size ≤ 100) ∧ diwanlaw1_NumRow.lp18 fu l (q ++ r) n acc (q.length : Int) = some (.inl (acc ++ txts r)))
  | [], q, acc, n, hl, ha, hn => by
    obtain ⟨n, rfl⟩ : ∃ m, n = m + 1 := ⟨n - 1, by omega⟩
    simp only [List.append_nil]
    rw [diwanlaw1_NumRow.lp18, br_f (nlt_end _)]
    right; simp [txts]
  | v :: r, q, acc, n, hl, ha, hn => by
    obtain ⟨n, rfl⟩ : ∃ m, n = m + 1 := ⟨n - 1, by omega⟩
    have e : q ++ v :: r = (q ++ [v]) ++ r := by simp
    have hl' : q.length + 1 + r.length ≤ 10 := by simp at hl; omega
    rw [diwanlaw1_NumRow.lp18, br_t (lt_mid _ _ _), ix_mid]
    by_cases hv : (v.size : Int) > 100
    · rw [br_t (decide_eq_true hv)]; exact .inl rfl
    · have h9 := enc_len9 (n := v.size) (by omega)
      have hb := bytesL_length v
      have ih := lp18 fu hf l r (q ++ [v]) (acc ++ (enc v.size ++ bytesL v)) n (by rw [← e]; exact hl) (by simp [hb]; omega) (by simp at hn; omega)
      rw [← e] at ih
      rw [br_f (decide_eq_false hv), ix_mid, bd_s (putText (by omega) (by omega)), gd_t (decide_eq_true (by simp [hb]; omega)), w64_len q r v (by omega)]
      rcases ih with h | ⟨h1, h2⟩
      · exact .inl h
      · right
        refine ⟨fun s hs => ?_, by rw [h2, txts_cons]; simp⟩
        rcases List.mem_cons.1 hs with rfl | hs
        · omega
        · exact h1 s hs
theorem lp28 (fu : Nat) (hf : 30 ≤ fu) (t : List ByteArray) (T : List Int) (hT : Bytes T) (hTl : T.length ≤ 2000) : ∀ (r q : List Int) (n : Nat), (q ++ r).length ≤ 20 → (∀ x ∈ r, okI .u32 x) → r.length < n →
    diwanlaw1_NumRow.lp28 fu (q ++ r) t n (encs r ++ T) (q.length : Int) = some (.inl T)
  | [], q, n, hl, hr, hn => by
    obtain ⟨n, rfl⟩ : ∃ m, n = m + 1 := ⟨n - 1, by omega⟩
    simp only [List.append_nil]
    rw [diwanlaw1_NumRow.lp28, br_f (nlt_end _)]
    simp [encs]
  | v :: r, q, n, hl, hr, hn => by
    obtain ⟨n, rfl⟩ : ∃ m, n = m + 1 := ⟨n - 1, by omega⟩
    have e : q ++ v :: r = (q ++ [v]) ++ r := by simp
    have hv := okI_u32 (hr v (by simp))
    have h9 := enc_len9 (n := v.toNat) (by omega)
    have hp := enc_pos v.toNat
    have hl' : q.length + 1 + r.length ≤ 20 := by simp at hl; omega
    have ih := lp28 fu hf t T hT hTl r (q ++ [v]) n (by rw [← e]; exact hl) (fun x hx => hr x (by simp [hx])) (by simp at hn; omega)
    rw [← e] at ih
    have hw : w64 v = ((v.toNat : Nat) : Int) := by rw [w64_id (by omega) (by omega)]; omega
    have hB : Bytes (encs (v :: r) ++ T) := (encs_bytes _).app hT
    have hE : encs (v :: r) ++ T = enc v.toNat ++ (encs r ++ T) := by rw [encs_cons, List.append_assoc]
    have hL : (encs (v :: r) ++ T).length = (enc v.toNat).length + (encs r ++ T).length := by rw [hE, List.length_append]
    rw [diwanlaw1_NumRow.lp28, br_t (lt_mid _ _ _), bd_s (take hB (by omega)), hE, tk_back v.toNat (by omega)]
    dsimp only
    rw [br_f (by rfl), ix_mid, hw, br_f (by simp), br_f (decide_eq_false (by omega)), br_f (decide_eq_false (by rw [← hE, hL]; omega)), gd_t (decide_eq_true (by rw [← hE, hL]; omega)), Int.toNat_natCast, List.drop_left' rfl, w64_len q r v (by omega), ih]
theorem lp42 (fu : Nat) (hf : 30 ≤ fu) : ∀ (r q : List ByteArray) (n : Nat), (q ++ r).length ≤ 10 → (∀ s ∈ r, s.size ≤ 100) → r.length < n →
    diwanlaw1_NumRow.lp42 fu (q ++ r) n (txts r) (q.length : Int) = some (.inl [])
  | [], q, n, hl, hr, hn => by
    obtain ⟨n, rfl⟩ : ∃ m, n = m + 1 := ⟨n - 1, by omega⟩
    simp only [List.append_nil]
    rw [diwanlaw1_NumRow.lp42, br_f (nlt_end _)]
    simp [txts]
  | v :: r, q, n, hl, hr, hn => by
    obtain ⟨n, rfl⟩ : ∃ m, n = m + 1 := ⟨n - 1, by omega⟩
    have e : q ++ v :: r = (q ++ [v]) ++ r := by simp
    have hv := hr v (by simp)
    have h9 := enc_len9 (n := v.size) (by omega)
    have hp := enc_pos v.size
    have hl' : q.length + 1 + r.length ≤ 10 := by simp at hl; omega
    have ih := lp42 fu hf r (q ++ [v]) n (by rw [← e]; exact hl) (fun x hx => hr x (by simp [hx])) (by simp at hn; omega)
    rw [← e] at ih
    have hx := txts_len r fun x hx => hr x (by simp [hx])
    have hb := bytesL_length v
    rw [diwanlaw1_NumRow.lp42, br_t (lt_mid _ _ _), txts_cons, bd_s (takeText (by omega) (txts_bytes r) (by omega) (by omega))]
    dsimp only
    have hL : (enc v.size ++ bytesL v ++ txts r).length = (enc v.size).length + v.size + (txts r).length := by simp [hb]; omega
    rw [br_f (by rfl), ix_mid, bytesL_text, br_f (by simp), br_f (decide_eq_false (by omega)), br_f (decide_eq_false (by omega)), gd_t (decide_eq_true (by omega)), Int.toNat_natCast, List.drop_left' (by simp [hb]), w64_len q r v (by omega), ih]
theorem begun_e : diwanlaw1_begun 40 = some true := by kernel_rfl
theorem holds (l : List Int) (t : List ByteArray) (k0 : okL (okI .u32) l) (k1 : okL okS t) : ∃ fu, diwanlaw1_NumRow fu l t = some true := by
  refine ⟨40, ?_⟩
  unfold diwanlaw1_NumRow
  rw [bd_s begun_e, br_f (by rfl)]
  by_cases h1 : (l.length : Int) > 20
  · rw [br_t (decide_eq_true h1)]
  by_cases h2 : (t.length : Int) > 10
  · rw [br_f (decide_eq_false h1), br_t (decide_eq_true h2)]
  rw [br_f (decide_eq_false h1), br_f (decide_eq_false h2)]
  have a := lp11 40 (by omega) t l [] [] 40 (by simp; omega) k0.2 (Nat.le_refl _) (by omega)
  simp only [List.nil_append, List.length_nil, Int.natCast_zero] at a
  have hel := encs_len l k0.2
  rw [bd_s a]
  rcases lp18 40 (by omega) l t [] (encs l) 40 (by simp; omega) (by simp; omega) (by omega) with b | ⟨b1, b2⟩
  · simp only [List.nil_append, List.length_nil, Int.natCast_zero] at b
    rw [bd_s b]
  · simp only [List.nil_append, List.length_nil, Int.natCast_zero] at b2
    rw [bd_s b2]
    dsimp only
    have htl := txts_len t b1
    have c := lp28 40 (by omega) t (txts t) (txts_bytes t) (by omega) l [] 40 (by simp; omega) k0.2 (by omega)
    simp only [List.nil_append, List.length_nil, Int.natCast_zero] at c
    rw [bd_s c]
    dsimp only
    have d := lp42 40 (by omega) t [] 40 (by simp; omega) b1 (by omega)
    simp only [List.nil_append, List.length_nil, Int.natCast_zero] at d
    rw [bd_s d]; rfl
end Go.Proofs.Ytiioolggdffdbaa.Told.PureNumRow
