/- Numbers as bytes, seven bits at a time: what they are, and that they come back. Plain lists and numbers alone. -/
import Derived.Test.YtbflggolnolaeaaTMath
import Derived.Laws.BitsLemmas
import Derived.WalkKit
import Derived.Lib.Bytes
namespace Go.Proofs.Ytbflggolnolaeaa.Told.NM
open Go Go.RowKit Go.Proofs.Ytbflggolnolaeaa.Vam Go.Proofs.Ytbflggolnolaeaa.Told
set_option linter.unusedSimpArgs false
set_option linter.unusedVariables false
theorem vor_bits (k : IntKind) (a b : Int) : vor k a b = bits .or k a b := rfl
theorem bytesL_length (s : ByteArray) : (bytesL s).length = s.size := by simp [bytesL]
def enc (n : Nat) : List Int := if n < 128 then [(n : Int)] else ((n % 128 + 128 : Nat) : Int) :: enc (n / 128)
termination_by n
decreasing_by omega
theorem enc_lt {n : Nat} (h : n < 128) : enc n = [(n : Int)] := by rw [enc, if_pos h]
theorem enc_ge {n : Nat} (h : ¬ n < 128) : enc n = ((n % 128 + 128 : Nat) : Int) :: enc (n / 128) := by rw [enc, if_neg h]

def Bytes (l : List Int) : Prop := ∀ x ∈ l, 0 ≤ x ∧ x < 256
theorem Bytes.nil : Bytes [] := fun x h => by simp at h
theorem Bytes.app {a b : List Int} (h : Bytes a) (k : Bytes b) : Bytes (a ++ b) := fun x hx => by
 rcases List.mem_append.1 hx with g | g
 ·exact h x g
 ·exact k x g
theorem Bytes.left {a b : List Int} (h : Bytes (a ++ b)) : Bytes a := fun x hx => h x (List.mem_append_left _ hx)
theorem Bytes.right {a b : List Int} (h : Bytes (a ++ b)) : Bytes b := fun x hx => h x (List.mem_append_right _ hx)
theorem Bytes.take {a : List Int} (h : Bytes a) (n : Nat) : Bytes (a.take n) := fun x hx => h x (List.mem_of_mem_take hx)
theorem Bytes.drop {a : List Int} (h : Bytes a) (n : Nat) : Bytes (a.drop n) := fun x hx => h x (List.mem_of_mem_drop hx)
theorem enc_bytes : ∀ n : Nat, Bytes (enc n) := by
 intro n
 induction n using Nat.strongRecOn with
 | ind n ih =>
  by_cases h : n < 128
  ·rw [enc_lt h]; intro x hx; simp at hx; omega
  ·rw [enc_ge h]; intro x hx
   rcases List.mem_cons.1 hx with g | g
   ·subst g; omega
   ·exact ih (n / 128) (by omega) x g
theorem bytesL_bytes (s : ByteArray) : Bytes (bytesL s) := by
 intro x hx
 simp only [bytesL, List.mem_map] at hx
 obtain ⟨b, _, rfl⟩ := hx
 have := b.toNat_lt
 omega

theorem or128 (x : Int) (h0 : 0 ≤ x) (h : x < 256) : vor .u8 x 128 = x % 128 + 128 := by
 obtain ⟨a, rfl⟩ := Int.eq_ofNat_of_zero_le h0
 have key : ∀ a : Fin 256, vor .u8 ((a.val : Nat) : Int) 128 = ((a.val : Nat) : Int) % 128 + 128 := by decide +kernel
 exact key ⟨a, by omega⟩
theorem and128_lo (x : Int) (h0 : 0 ≤ x) (h : x < 128) : vand .u8 x 128 = 0 := by
 obtain ⟨a, rfl⟩ := Int.eq_ofNat_of_zero_le h0
 have key : ∀ a : Fin 128, vand .u8 ((a.val : Nat) : Int) 128 = 0 := by decide +kernel
 exact key ⟨a, by omega⟩
theorem and128_hi (x : Int) (h0 : 128 ≤ x) (h : x < 256) : vand .u8 x 128 = 128 := by
 obtain ⟨a, rfl⟩ := Int.eq_ofNat_of_zero_le (Int.le_trans (by decide) h0)
 have key : ∀ a : Fin 256, 128 ≤ a.val → vand .u8 ((a.val : Nat) : Int) 128 = 128 := by decide +kernel
 exact key ⟨a, by omega⟩ (by show 128 ≤ a; omega)
theorem and127 (x : Int) (h0 : 0 ≤ x) (h : x < 256) : vand .u8 x 127 = x % 128 := by
 obtain ⟨a, rfl⟩ := Int.eq_ofNat_of_zero_le h0
 have key : ∀ a : Fin 256, vand .u8 ((a.val : Nat) : Int) 127 = ((a.val : Nat) : Int) % 128 := by decide +kernel
 exact key ⟨a, by omega⟩

theorem wraps_i64 (n : Int) (h0 : 0 ≤ n) (h1 : n < 2 ^ 63) : IntKind.i64.wrap n = n := by rw [IntKind.wrap_i64]; omega

theorem or_high (a b i : Nat) (h : a < 2 ^ i) (ha : a < 2 ^ 63) (hs : 2 ^ i * b < 2 ^ 63) : vor .i64 (a : Int) ((2 ^ i * b : Nat) : Int) = ((a + 2 ^ i * b : Nat) : Int) := by
 rw [vor_bits, (bits_nat .i64 63 (by decide) wraps_i64 a (2 ^ i * b) ha hs).2]
 rw [Nat.or_comm, ← Nat.two_pow_add_eq_or_of_lt h b, Nat.add_comm]

theorem pow7 : ∀ i : Nat, i ≤ 8 → (2 : Nat) ^ (7 * i) ≤ 72057594037927936 := fun i h =>
 Nat.le_trans (Nat.pow_le_pow_right (by decide) (show 7 * i ≤ 56 by omega)) (by decide)

theorem or_shift (v i : Nat) (c : Int) (hi : i ≤ 8) (hv : v < 2 ^ (7 * i)) (h0 : 0 ≤ c) (h1 : c < 256) :
  vor .i64 (v : Int) (vshl .i64 (w64 (vand .u8 c 127)) (w64 (7 * (i : Int)))) = ((v + 2 ^ (7 * i) * (c.toNat % 128) : Nat) : Int) := by
 rw [and127 c h0 h1, w64_id (by omega) (by omega), w64_id (by omega) (by omega)]
 obtain ⟨a, rfl⟩ := Int.eq_ofNat_of_zero_le h0
 have hp := pow7 i hi
 have hm : a % 128 < 128 := Nat.mod_lt _ (by decide)
 have hle : 2 ^ (7 * i) * (a % 128) ≤ 72057594037927936 * 127 := Nat.mul_le_mul hp (by omega)
 have e : vshl .i64 ((a : Int) % 128) (7 * (i : Int)) = ((2 ^ (7 * i) * (a % 128) : Nat) : Int) := by
  unfold vshl
  have e1 : min (7 * (i : Int)).toNat IntKind.i64.bits = 7 * i := by
   have : IntKind.i64.bits = 64 := rfl
   omega
  rw [e1]
  have e2 : ((a : Int) % 128 * 2 ^ (7 * i)) = ((2 ^ (7 * i) * (a % 128) : Nat) : Int) := by
   push_cast; rw [Int.mul_comm]
  rw [e2]
  exact wraps_i64 _ (Int.natCast_nonneg _) (by omega)
 rw [e]
 exact or_high v (a % 128) (7 * i) hv (by omega) (by omega)

def go : List Int → Nat → Nat → Int × Int × Bool
 | [], _, _ => (0, 0, false)
 | c :: r, i, v => if c < 128 then (if i = 0 ∨ c > 0 then (((v + 2 ^ (7 * i) * (c.toNat % 128) : Nat) : Int), (i : Int) + 1, true) else (0, 0, false)) else go r (i + 1) (v + 2 ^ (7 * i) * (c.toNat % 128))

def val : List Int → Nat
 | [] => 0
 | c :: r => c.toNat % 128 + 128 * val r

def High (p : List Int) : Prop := ∀ x ∈ p, 128 ≤ x
theorem High.cons {c : Int} {p : List Int} (h : High (c :: p)) : 128 ≤ c ∧ High p := ⟨h c (List.mem_cons_self), fun x hx => h x (List.mem_cons_of_mem _ hx)⟩

theorem go_high : ∀ (p : List Int) (i v : Nat), High p → go p i v = (0, 0, false)
 | [], _, _, _ => rfl
 | c :: p, i, v, h => by
  obtain ⟨h1, h2⟩ := h.cons
  simp only [go]; rw [if_neg (by omega)]
  exact go_high p _ _ h2
theorem go_ends : ∀ (p r : List Int) (c : Int) (i v : Nat), High p → c < 128 → go (p ++ c :: r) i v = if i + p.length = 0 ∨ c > 0 then (((v + 2 ^ (7 * i) * val (p ++ [c]) : Nat) : Int), ((i + p.length : Nat) : Int) + 1, true) else (0, 0, false)
 | [], r, c, i, v, _, hc => by
  simp only [List.nil_append, go, List.length_nil, Nat.add_zero]; rw [if_pos hc]
  simp [val]
 | d :: p, r, c, i, v, h, hc => by
  obtain ⟨h1, h2⟩ := h.cons
  simp only [List.cons_append, go]; rw [if_neg (by omega)]
  rw [go_ends p r c _ _ h2 hc]
  have e : i + 1 + p.length = i + (d :: p).length := by simp; omega
  rw [e]
  have e2 : v + 2 ^ (7 * i) * (d.toNat % 128) + 2 ^ (7 * (i + 1)) * val (p ++ [c]) = v + 2 ^ (7 * i) * val (d :: (p ++ [c])) := by
   have : 2 ^ (7 * (i + 1)) = 2 ^ (7 * i) * 128 := by rw [show 7 * (i + 1) = 7 * i + 7 by omega, Nat.pow_add]
   rw [this, val, Nat.mul_add, Nat.mul_assoc, Nat.add_assoc]
  rw [e2]

theorem split : ∀ l : List Int, High l ∨ ∃ p c r, l = p ++ c :: r ∧ High p ∧ c < 128
 | [] => .inl fun x hx => by simp at hx
 | c :: l => by
  by_cases hc : c < 128
  ·exact .inr ⟨[], c, l, rfl, (fun x hx => by simp at hx), hc⟩
  ·rcases split l with h | ⟨p, d, r, rfl, hp, hd⟩
   ·exact .inl fun x hx => by
     rcases List.mem_cons.1 hx with g | g
     ·omega
     ·exact h x g
   ·refine .inr ⟨c :: p, d, r, rfl, ?_, hd⟩
    intro x hx
    rcases List.mem_cons.1 hx with g | g
    ·omega
    ·exact hp x g

theorem enc_form : ∀ n : Nat, ∃ p c, enc n = p ++ [c] ∧ High p ∧ 0 ≤ c ∧ c < 128 ∧ (p = [] ∨ c > 0) ∧ val (p ++ [c]) = n ∧ ((n : Nat) = 0 → p = []) := by
 intro n
 induction n using Nat.strongRecOn with
 | ind n ih =>
  by_cases h : n < 128
  ·refine ⟨[], n, by rw [enc_lt h]; rfl, fun x hx => by simp at hx, by omega, by omega, .inl rfl, by simp [val]; omega, fun _ => rfl⟩
  ·obtain ⟨p, c, e, hp, h0, hc, ho, hv, hz⟩ := ih (n / 128) (by omega)
   refine ⟨((n % 128 + 128 : Nat) : Int) :: p, c, by rw [enc_ge h, e]; rfl, ?_, h0, hc, ?_, ?_, fun hn => by omega⟩
   ·intro x hx
    rcases List.mem_cons.1 hx with g | g
    ·omega
    ·exact hp x g
   ·rcases ho with ho | ho
    ·subst ho
     right
     simp only [List.nil_append, val] at hv
     omega
    ·exact .inr ho
   ·show ((n % 128 + 128 : Nat) : Int).toNat % 128 + 128 * val (p ++ [c]) = n
    rw [hv]; omega
theorem enc_val : ∀ (p : List Int) (c : Int), High p → Bytes p → 0 ≤ c → c < 128 → (p = [] ∨ c > 0) → enc (val (p ++ [c])) = p ++ [c] ∧ (c > 0 → 0 < val (p ++ [c]))
 | [], c, _, _, h0, hc, _ => by
  have : val ([] ++ [c]) = c.toNat := by simp [val]; omega
  rw [this]
  exact ⟨by rw [enc_lt (by omega)]; simp; omega, fun h => by omega⟩
 | d :: p, c, h, hb, h0, hc, ho => by
  obtain ⟨h1, h2⟩ := h.cons
  have hc0 : c > 0 := by rcases ho with ho | ho; · simp at ho
                         · exact ho
  have hd : d < 256 := (hb d (List.mem_cons_self)).2
  obtain ⟨ih, ihp⟩ := enc_val p c h2 (fun x hx => hb x (List.mem_cons_of_mem _ hx)) h0 hc (.inr hc0)
  have hp := ihp hc0
  have e : val (d :: p ++ [c]) = d.toNat % 128 + 128 * val (p ++ [c]) := rfl
  rw [e]
  refine ⟨?_, fun _ => by omega⟩
  rw [enc_ge (by omega)]
  rw [show (d.toNat % 128 + 128 * val (p ++ [c])) / 128 = val (p ++ [c]) by omega, ih]
  rw [show (((d.toNat % 128 + 128 * val (p ++ [c])) % 128 + 128 : Nat) : Int) = d by omega]
  rfl
theorem enc_pos (n : Nat) : 1 ≤ (enc n).length := by
 by_cases h : n < 128
 ·rw [enc_lt h]; simp
 ·rw [enc_ge h]; simp
theorem enc_len : ∀ (j n : Nat), n < 128 ^ (j + 1) → (enc n).length ≤ j + 1
 | 0, n, h => by rw [enc_lt (by simpa using h)]; simp
 | j + 1, n, h => by
  by_cases hn : n < 128
  ·rw [enc_lt hn]; simp
  ·rw [enc_ge hn]
   have := enc_len j (n / 128) (by
    rw [Nat.div_lt_iff_lt_mul (by decide)]
    rw [Nat.pow_succ] at h; exact h)
   simp; omega
theorem enc_len9 {n : Nat} (h : n < 9223372036854775808) : (enc n).length ≤ 9 := enc_len 8 n (by have : (128 : Nat) ^ (8 + 1) = 9223372036854775808 := by decide +kernel
                                                                                                 omega)
theorem enc_inj {m n : Nat} (h : enc m = enc n) : m = n := by
 obtain ⟨p, c, e, _, _, _, _, hv, _⟩ := enc_form m
 obtain ⟨q, d, f, _, _, _, _, hw, _⟩ := enc_form n
 rw [← hv, ← hw, ← e, ← f, h]
theorem enc_mono : ∀ (n m : Nat), m ≤ n → (enc m).length ≤ (enc n).length := by
 intro n
 induction n using Nat.strongRecOn with
 | ind n ih =>
  intro m h
  by_cases hm : m < 128
  ·rw [enc_lt hm]; exact enc_pos n
  ·have hn : ¬ n < 128 := by omega
   rw [enc_ge hm, enc_ge hn]
   have := ih (n / 128) (by omega) (m / 128) (by omega)
   simp; exact this

def tk (b : List Int) : Int × Int × Bool := go (b.take 9) 0 0
theorem tk_back (n : Nat) (h : n < 9223372036854775808) (r : List Int) : tk (enc n ++ r) = ((n : Int), ((enc n).length : Int), true) := by
 obtain ⟨p, c, e, hp, h0, hc, ho, hv, _⟩ := enc_form n
 have hl := enc_len9 h
 have hl2 : p.length + 1 ≤ 9 := by rw [e] at hl; simpa using hl
 have e3 : (enc n ++ r).take 9 = p ++ c :: r.take (9 - (p.length + 1)) := by
  rw [e, List.take_append, List.take_of_length_le (by simp; omega)]; simp
 unfold tk
 rw [e3, go_ends p _ c 0 0 hp hc, hv, e]
 rw [if_pos (by rcases ho with ho | ho; · left; simp [ho]
                · exact .inr ho)]
 simp
theorem tk_cut (n j : Nat) (h : j < (enc n).length) : (tk ((enc n).take j)).2.2 = false := by
 obtain ⟨p, c, e, hp, _⟩ := enc_form n
 have hj : j ≤ p.length := by rw [e] at h; simp at h; omega
 unfold tk
 rw [go_high]
 rw [e, List.take_append_of_le_length hj, List.take_take]
 exact fun x hx => hp x (List.mem_of_mem_take hx)
theorem tk_cases (b : List Int) (hb : Bytes b) : (tk b = (0, 0, false) ∧ ∀ n r, n < 9223372036854775808 → b ≠ enc n ++ r) ∨ ∃ n r, n < 9223372036854775808 ∧ b = enc n ++ r ∧ tk b = ((n : Int), ((enc n).length : Int), true) := by
 by_cases hx : ∃ n r, n < 9223372036854775808 ∧ b = enc n ++ r
 ·obtain ⟨n, r, hn, rfl⟩ := hx
  exact .inr ⟨n, r, hn, rfl, tk_back n hn r⟩
 ·left
  refine ⟨?_, fun n r hn e => hx ⟨n, r, hn, e⟩⟩
  rcases split (b.take 9) with h | ⟨p, c, r, e, hp, hc⟩
  ·exact go_high _ _ _ h
  ·unfold tk
   rw [e, go_ends p r c 0 0 hp hc]
   by_cases ho : 0 + p.length = 0 ∨ c > 0
   ·exfalso
    have hb9 : Bytes (p ++ c :: r) := e ▸ hb.take 9
    have hc0 : 0 ≤ c := (hb9 c (by simp)).1
    have ho' : p = [] ∨ c > 0 := by
     rcases ho with g | g
     ·left; exact List.eq_nil_of_length_eq_zero (by omega)
     ·exact .inr g
    have hv := (enc_val p c hp hb9.left hc0 hc ho').1
    have hl : p.length + 1 ≤ 9 := by
     have := congrArg List.length e
     simp only [List.length_take, List.length_append, List.length_cons] at this
     omega
    have hlt : val (p ++ [c]) < 9223372036854775808 := by
     have key : ∀ l : List Int, val l < 128 ^ l.length := by
      intro l
      induction l with
      | nil => decide
      | cons a l ih => simp only [val, List.length_cons, Nat.pow_succ]; omega
     have k1 := key (p ++ [c])
     have k2 : (128 : Nat) ^ (p ++ [c]).length ≤ 128 ^ 9 := Nat.pow_le_pow_right (by decide) (by simpa using hl)
     have k3 : (128 : Nat) ^ 9 = 9223372036854775808 := by decide +kernel
     omega
    refine hx ⟨val (p ++ [c]), r ++ b.drop 9, hlt, ?_⟩
    rw [hv]; conv => lhs; rw [← List.take_append_drop 9 b, e]
    simp
   ·rw [if_neg ho]

theorem text_eq (a : List Int) : (strB a).toList = a.map fun n => UInt8.ofNat n.toNat := by
 rw [ByteArray.toList_eq]
 simp [strB, strOf, e_u8, Function.comp_def]
theorem str_inj {a b : List Int} (ha : Bytes a) (hb : Bytes b) (h : (strB a).toList = (strB b).toList) : a = b := by
 rw [text_eq, text_eq] at h
 have key : ∀ l : List Int, Bytes l → (l.map fun n => UInt8.ofNat n.toNat).map (fun u => (u.toNat : Int)) = l := by
  intro l hl
  rw [List.map_map]
  conv => rhs; rw [← List.map_id l]
  apply List.map_congr_left
  intro x hx
  obtain ⟨h0, h1⟩ := hl x hx
  simp only [Function.comp, id]
  rw [UInt8.toNat_ofNat_of_lt' (show x.toNat < UInt8.size by simp [UInt8.size]; omega)]
  omega
 rw [← key a ha, ← key b hb, h]
theorem bytesL_text (s : ByteArray) : (strB (bytesL s)).toList = s.toList := by
 rw [text_eq, ByteArray.toList_eq]
 unfold bytesL
 rw [List.map_map]
 conv => rhs; rw [← List.map_id s.data.toList]
 apply List.map_congr_left
 intro x _
 simp
def txt (b : List Int) : ByteArray × Int × Bool :=
 if (tk b).2.2 = true then (if (tk b).1 > 255 then (ByteArray.empty, 0, false) else if (tk b).1 > (b.length : Int) - (tk b).2.1 then (ByteArray.empty, 0, false) else (strB ((b.take ((tk b).2.1 + (tk b).1).toNat).drop (tk b).2.1.toNat), (tk b).2.1 + (tk b).1, true)) else (ByteArray.empty, 0, false)
theorem tk_nums (b : List Int) (hb : Bytes b) : 0 ≤ (tk b).1 ∧ (tk b).1 < 9223372036854775808 ∧ 0 ≤ (tk b).2.1 ∧ (tk b).2.1 ≤ 9 ∧ (tk b).2.1 ≤ b.length := by
 rcases tk_cases b hb with ⟨e, _⟩ | ⟨n, r, hn, hbe, e⟩
 ·rw [e]; refine ⟨by decide, by decide, by decide, by decide, ?_⟩
  exact Int.natCast_nonneg _
 ·rw [e]
  have h9 := enc_len9 hn
  have hl : (enc n).length ≤ b.length := by rw [hbe]; simp
  simp only
  omega
theorem txt_back (s : ByteArray) (hs : s.size ≤ 255) (r : List Int) : txt (enc s.size ++ bytesL s ++ r) = (strB (bytesL s), (((enc s.size).length + s.size : Nat) : Int), true) := by
 have e := tk_back s.size (by omega) (bytesL s ++ r)
 rw [← List.append_assoc] at e
 unfold txt
 rw [e]
 have hl := bytesL_length s
 have h1 : ¬ ((s.size : Int) > ((enc s.size ++ bytesL s ++ r).length : Int) - ((enc s.size).length : Int)) := by
  simp only [List.length_append, hl]; omega
 simp only [if_true]
 rw [if_neg (by omega), if_neg h1]
 have h2 : (((enc s.size).length : Int) + (s.size : Int)).toNat = (enc s.size ++ bytesL s).length := by simp only [List.length_append, hl]; omega
 rw [h2, List.take_left', show ((enc s.size).length : Int).toNat = (enc s.size).length by omega, List.drop_left']
 ·simp
 ·rfl
 ·rfl
theorem txt_cut (s : ByteArray) (hs : s.size ≤ 255) (j : Nat) (hj : j < (enc s.size ++ bytesL s).length) : (txt ((enc s.size ++ bytesL s).take j)).2.2 = false := by
 have hl := bytesL_length s
 unfold txt
 by_cases h : j < (enc s.size).length
 ·rw [List.take_append_of_le_length (by omega)]
  have := tk_cut s.size j h
  rw [if_neg (by rw [this]; decide)]
 ·have e : (enc s.size ++ bytesL s).take j = enc s.size ++ (bytesL s).take (j - (enc s.size).length) := by
   rw [List.take_append, List.take_of_length_le (by omega)]
  rw [e, tk_back s.size (by omega)]
  simp only [if_true]
  rw [if_neg (by omega), if_pos]
  simp only [List.length_append, hl] at hj
  simp only [List.length_append, List.length_take, hl]
  omega

end Go.Proofs.Ytbflggolnolaeaa.Told.NM
