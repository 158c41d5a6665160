/- Numbers and texts as the program writes them. -/
import Derived.Test.YtbflggolnolaeaaFitMsgTake
import Derived.Test.YtbflggolnolaeaaTNumMath
namespace Go.Proofs.Ytbflggolnolaeaa.Told.NM
open Go Go.Proofs.Ytbflggolnolaeaa.Vam Go.Proofs.Ytbflggolnolaeaa.Told
set_option linter.unusedSimpArgs false
set_option linter.unusedVariables false
theorem w8_mod {n : Int} (h : 0 ≤ n) : w8 n = n % 256 := by
 show IntKind.wrap .u8 n = n % 256
 simp [IntKind.wrap, IntKind.min, IntKind.max, IntKind.signed, IntKind.bits]
theorem vshr7 {n : Nat} : vshr .i64 (n : Int) 7 = ((n / 128 : Nat) : Int) := by
 show (n : Int).fdiv (2 ^ (min (7 : Int).toNat IntKind.i64.bits)) = _
 have : min (7 : Int).toNat IntKind.i64.bits = 7 := rfl
 rw [this]
 rw [Int.fdiv_eq_ediv_of_nonneg _ (by decide)]
 omega
theorem put_lp (fu : Nat) : ∀ (j n k : Nat) (acc : List Int), n < 128 ^ (j + 1) → j < k → acc.length + j < 100000000 → num_Put.lp5 fu k (n : Int) acc = some (((n / 128 ^ ((enc n).length - 1) : Nat) : Int), acc ++ (enc n).take ((enc n).length - 1)) ∧ (enc n).drop ((enc n).length - 1) = [((n / 128 ^ ((enc n).length - 1) : Nat) : Int)] ∧ n / 128 ^ ((enc n).length - 1) < 128
 | j, n, k, acc, hn, hk, ha => by
  obtain ⟨k, rfl⟩ : ∃ m, k = m + 1 := ⟨k - 1, by omega⟩
  rw [num_Put.lp5]
  by_cases h : n < 128
  ·rw [br_f (decide_eq_false (by omega)), enc_lt h]
   simp [h]
  ·rw [br_t (decide_eq_true (by omega)), gd_t (decide_eq_true (by simp; omega)), vshr7]
   match j, hn, hk, ha with
   | 0, hn, _, _ => exact absurd (by simpa using hn) h
   | j + 1, hn, hk, ha =>
    have hd : n / 128 < 128 ^ (j + 1) := by
     rw [Nat.div_lt_iff_lt_mul (by decide)]
     rw [Nat.pow_succ] at hn; exact hn
    obtain ⟨g1, g2, g3⟩ := put_lp fu j (n / 128) k (acc ++ [vor .u8 (w8 (n : Int)) 128]) hd (by omega) (by simp; omega)
    have hp := enc_pos (n / 128)
    have e2 : vor .u8 (w8 (n : Int)) 128 = ((n % 128 + 128 : Nat) : Int) := by
     rw [w8_mod (by omega), or128 _ (by omega) (by omega)]; omega
    rw [g1, enc_ge h, e2]
    obtain ⟨q, hq⟩ : ∃ q, (enc (n / 128)).length = q + 1 := ⟨(enc (n / 128)).length - 1, by omega⟩
    have hdiv : n / 128 / 128 ^ q = n / 128 ^ (q + 1) := by rw [Nat.div_div_eq_div_mul, Nat.pow_succ, Nat.mul_comm]
    rw [hq] at g2 g3 ⊢
    simp only [Nat.add_sub_cancel] at g2 g3 ⊢
    rw [hdiv] at g2 g3 ⊢
    simp only [List.length_cons, hq, Nat.add_sub_cancel]
    refine ⟨?_, ?_, g3⟩
    ·simp
    ·simpa using g2
theorem put {n fu : Nat} (hn : n < 9223372036854775808) (hk : 9 ≤ fu) : num_Put fu (n : Int) = some (enc n) := by
 unfold num_Put
 obtain ⟨g1, g2, g3⟩ := put_lp fu 8 n fu [] (by have : (128 : Nat) ^ (8 + 1) = 9223372036854775808 := by decide +kernel
                                                omega) (by omega) (by simp)
 have h9 := enc_len9 hn
 rw [br_f (decide_eq_false (by omega)), bd_s g1]
 dsimp only
 generalize hM : n / 128 ^ ((enc n).length - 1) = M at g2 g3
 have hw : w8 ((M : Nat) : Int) = (M : Int) := by rw [w8_mod (by omega)]; omega
 rw [gd_t (decide_eq_true (by simp; omega)), hw, ← g2, List.nil_append, List.take_append_drop]
theorem putText {s : ByteArray} {fu : Nat} (hk : 9 ≤ fu) (hs : s.size ≤ 255) : num_PutText fu s = some (enc s.size ++ bytesL s) := by
 unfold num_PutText
 have := enc_len9 (n := s.size) (by omega)
 rw [br_f (decide_eq_false (by omega)), bd_s (put (by omega) hk), gd_t (decide_eq_true (by omega))]
def nm (v : Int) : List Int := bif decide (v < 0) then [] else enc v.toNat
def tx (s : ByteArray) : List Int := bif decide ((s.size : Int) > 255) then [] else enc s.size ++ bytesL s
def nms (l : List Int) : List Int := (l.map nm).flatten
theorem nms_cons (v : Int) (l : List Int) : nms (v :: l) = nm v ++ nms l := by simp [nms]
theorem nm_pos {v : Int} (h : 0 ≤ v) : nm v = enc v.toNat := by unfold nm; rw [decide_eq_false (by omega)]; rfl
theorem nm_nat (n : Nat) : nm (n : Int) = enc n := nm_pos (Int.natCast_nonneg n)
theorem tx_pos {s : ByteArray} (h : s.size ≤ 255) : tx s = enc s.size ++ bytesL s := by unfold tx; rw [decide_eq_false (by omega)]; rfl
theorem nm_e {v : Int} {fu : Nat} (hv : v < 9223372036854775808) (hk : 9 ≤ fu) : num_Put fu v = some (nm v) := by
 by_cases h : v < 0
 ·unfold num_Put nm
  rw [decide_eq_true h]; rfl
 ·obtain ⟨n, rfl⟩ := Int.eq_ofNat_of_zero_le (show 0 ≤ v by omega)
  rw [put (by omega) hk, nm_pos (by omega)]; rfl
theorem tx_e {s : ByteArray} {fu : Nat} (hk : 9 ≤ fu) : num_PutText fu s = some (tx s) := by
 by_cases h : (s.size : Int) > 255
 ·unfold num_PutText tx
  rw [decide_eq_true h]; rfl
 ·rw [putText hk (by omega), tx_pos (by omega)]
theorem nm_len {v : Int} (hv : v < 9223372036854775808) : (nm v).length ≤ 9 := by
 by_cases h : v < 0
 ·unfold nm; rw [decide_eq_true h]; simp
 ·rw [nm_pos (by omega)]; exact enc_len9 (by omega)
theorem tx_len (s : ByteArray) : (tx s).length ≤ 300 := by
 by_cases h : (s.size : Int) > 255
 ·unfold tx; rw [decide_eq_true h]; simp
 ·rw [tx_pos (by omega)]
  have := enc_len9 (n := s.size) (by omega)
  have := bytesL_length s
  simp; omega
theorem nm_bytes (v : Int) : Bytes (nm v) := by
 by_cases h : v < 0
 ·unfold nm; rw [decide_eq_true h]; exact Bytes.nil
 ·rw [nm_pos (by omega)]; exact enc_bytes _
theorem tx_bytes (s : ByteArray) : Bytes (tx s) := by
 by_cases h : (s.size : Int) > 255
 ·unfold tx; rw [decide_eq_true h]; exact Bytes.nil
 ·rw [tx_pos (by omega)]; exact (enc_bytes _).app (bytesL_bytes s)
theorem nms_bytes : ∀ l : List Int, Bytes (nms l)
 | [] => Bytes.nil
 | v :: l => by rw [nms_cons]; exact (nm_bytes v).app (nms_bytes l)
theorem nms_len : ∀ l : List Int, (∀ v ∈ l, v < 9223372036854775808) → (nms l).length ≤ 9 * l.length
 | [], _ => by simp [nms]
 | v :: l, h => by
  have := nm_len (h v (by simp))
  have := nms_len l fun v hv => h v (by simp [hv])
  rw [nms_cons]; simp; omega
theorem nm_cut {a b : Int} {r s : List Int} (ha : 0 ≤ a ∧ a < 9223372036854775808) (hb : 0 ≤ b ∧ b < 9223372036854775808) (h : nm a ++ r = nm b ++ s) : a = b ∧ r = s := by
 rw [nm_pos ha.1, nm_pos hb.1] at h
 have h1 := tk_back a.toNat (by omega) r
 have h2 := tk_back b.toNat (by omega) s
 rw [h, h2] at h1
 have h3 : ((b.toNat : Nat) : Int) = ((a.toNat : Nat) : Int) := congrArg Prod.fst h1
 have e : a = b := by omega
 subst e
 exact ⟨rfl, List.append_cancel_left h⟩
theorem bytesL_inj {a b : ByteArray} (h : bytesL a = bytesL b) : a = b := by
 have : a.toList = b.toList := by rw [← bytesL_text a, ← bytesL_text b, h]
 rw [ByteArray.toList_eq, ByteArray.toList_eq] at this
 exact ByteArray.ext (Array.toList_inj.1 this)
theorem tx_cut {a b : ByteArray} {r s : List Int} (ha : a.size ≤ 255) (hb : b.size ≤ 255) (h : tx a ++ r = tx b ++ s) : a = b ∧ r = s := by
 rw [tx_pos ha, tx_pos hb, List.append_assoc, List.append_assoc, ← nm_nat a.size, ← nm_nat b.size] at h
 obtain ⟨h1, h2⟩ := nm_cut (by omega) (by omega) h
 have hl : (bytesL a).length = (bytesL b).length := by rw [bytesL_length, bytesL_length]; omega
 obtain ⟨h3, h4⟩ := List.append_inj h2 hl
 exact ⟨bytesL_inj h3, h4⟩
theorem nms_cut : ∀ {a b : List Int} {r s : List Int}, a.length = b.length → (∀ v ∈ a, 0 ≤ v ∧ v < 9223372036854775808) → (∀ v ∈ b, 0 ≤ v ∧ v < 9223372036854775808) → nms a ++ r = nms b ++ s → a = b ∧ r = s
 | [], [], r, s, _, _, _, h => ⟨rfl, h⟩
 | [], _ :: _, _, _, h, _, _, _ => by simp at h
 | _ :: _, [], _, _, h, _, _, _ => by simp at h
 | x :: a, y :: b, r, s, hl, ha, hb, h => by
  rw [nms_cons, nms_cons, List.append_assoc, List.append_assoc] at h
  obtain ⟨h1, h2⟩ := nm_cut (ha x (by simp)) (hb y (by simp)) h
  obtain ⟨h3, h4⟩ := nms_cut (by simpa using hl) (fun v h => ha v (by simp [h])) (fun v h => hb v (by simp [h])) h2
  exact ⟨by rw [h1, h3], h4⟩
theorem rows_cut {α : Type} {e : α → List Int} {P : α → Prop} (he : ∀ {a b : α} {r s : List Int}, P a → P b → e a ++ r = e b ++ s → a = b ∧ r = s) : ∀ {a b : List α} {r s : List Int}, a.length = b.length → (∀ v ∈ a, P v) → (∀ v ∈ b, P v) → (a.map e).flatten ++ r = (b.map e).flatten ++ s → a = b ∧ r = s
 | [], [], r, s, _, _, _, h => ⟨rfl, by simpa using h⟩
 | [], _ :: _, _, _, h, _, _, _ => by simp at h
 | _ :: _, [], _, _, h, _, _, _ => by simp at h
 | x :: a, y :: b, r, s, hl, ha, hb, h => by
  simp only [List.map_cons, List.flatten_cons, List.append_assoc] at h
  obtain ⟨h1, h2⟩ := he (ha x (by simp)) (hb y (by simp)) h
  obtain ⟨h3, h4⟩ := rows_cut he (by simpa using hl) (fun v h => ha v (by simp [h])) (fun v h => hb v (by simp [h])) h2
  exact ⟨by rw [h1, h3], h4⟩
theorem rows_bytes {α : Type} {e : α → List Int} (he : ∀ a, Bytes (e a)) : ∀ l : List α, Bytes (l.map e).flatten
 | [] => by simpa using Bytes.nil
 | x :: l => by simp only [List.map_cons, List.flatten_cons]; exact (he x).app (rows_bytes he l)
end Go.Proofs.Ytbflggolnolaeaa.Told.NM
