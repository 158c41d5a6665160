/- Reading of bytes by number after number: what num's Take and TakeText come to on any bytes, and loops that read till the bytes are bad. -/
import Derived.Test.YtbflggolnolaeaaFitMsgTake
import Derived.Test.YtbflggolnolaeaaTNumMath
namespace Go.Proofs.Ytbflggolnolaeaa.Told.NT
open Go Go.Proofs.Ytbflggolnolaeaa.Vam Go.Proofs.Ytbflggolnolaeaa.Told Go.Proofs.Ytbflggolnolaeaa.Told.NM
set_option linter.unusedSimpArgs false
set_option linter.unusedVariables false
theorem num_result_e (v n : Int) (ok : Bool) : num_result v n ok = some (bif ok then (v, n, true) else (0, 0, false)) := by cases ok <;> rfl
theorem take_lp (fu : Nat) : ∀ (r q : List Int) (i v k : Nat), Bytes r → q.length = i → i + r.length ≤ 9 → v < 2 ^ (7 * i) → r.length < k →
  num_Take.lp3 fu (q ++ r) ((q ++ r).length : Int) k (v : Int) (i : Int) = some (.inr (go r i v)) ∨ (num_Take.lp3 fu (q ++ r) ((q ++ r).length : Int) k (v : Int) (i : Int) = some (.inl ()) ∧ go r i v = (0, 0, false)) := by
 intro r
 induction r with
 | nil =>
  intro q i v k hb hi hl hv hk
  obtain ⟨k, rfl⟩ : ∃ m, k = m + 1 := ⟨k - 1, by omega⟩
  right
  rw [num_Take.lp3, br_f (decide_eq_false (by simp; omega))]; exact ⟨rfl, rfl⟩
 | cons c r ih =>
  intro q i v k hb hi hl hv hk
  obtain ⟨k, rfl⟩ : ∃ m, k = m + 1 := ⟨k - 1, by omega⟩
  have hl' : i + r.length + 1 ≤ 9 := by simp at hl; omega
  have hk' : r.length < k := by simp at hk; omega
  obtain ⟨c0, c1⟩ := hb c (List.mem_cons_self)
  have hget : (q ++ c :: r)[i]? = some c := by subst hi; simp
  have hi8 : i ≤ 8 := by omega
  have hw7 : w64 (7 * (i : Int)) = 7 * (i : Int) := w64_id (by omega) (by omega)
  have hw1 : w64 ((i : Int) + 1) = (i : Int) + 1 := w64_id (by omega) (by omega)
  have hos := or_shift v i c hi8 hv c0 c1
  rw [num_Take.lp3, br_t (decide_eq_true (by simp; omega)), ix_n hget, gd_t (decide_eq_true (by rw [hw7]; omega)), hos, hw1]
  have hm : c.toNat % 128 < 128 := Nat.mod_lt _ (by decide)
  by_cases hc : c < 128
  ·left
   rw [br_t (by rw [and128_lo c c0 hc]; rfl)]
   simp only [go]; rw [if_pos hc]
   by_cases h0 : i = 0
   ·rw [br_t (by simpa using h0), num_result_e, if_pos (.inl h0)]; rfl
   ·rw [br_f (by simpa using h0), num_result_e]
    by_cases hp : c > 0
    ·rw [if_pos (.inr hp), decide_eq_true hp]; rfl
    ·rw [if_neg (by omega), decide_eq_false hp]; rfl
  ·rw [br_f (by rw [and128_hi c (by omega) c1]; rfl)]
   simp only [go]; rw [if_neg hc]
   have e : q ++ c :: r = (q ++ [c]) ++ r := by simp
   have e1 : (i : Int) + 1 = ((i + 1 : Nat) : Int) := by omega
   rw [e, e1]
   refine ih (q ++ [c]) (i + 1) _ k (fun x hx => hb x (List.mem_cons_of_mem _ hx)) (by simp; omega) (by omega) ?_ hk'
   have h7 : 2 ^ (7 * (i + 1)) = 2 ^ (7 * i) * 128 := by rw [show 7 * (i + 1) = 7 * i + 7 by omega, Nat.pow_add]
   rw [h7]
   have h8 : 2 ^ (7 * i) * (c.toNat % 128) ≤ 2 ^ (7 * i) * 127 := Nat.mul_le_mul_left _ (by omega)
   have h9 : 2 ^ (7 * i) * 128 = 2 ^ (7 * i) * 127 + 2 ^ (7 * i) := by omega
   omega
theorem take {b : List Int} {fu : Nat} (hb : Bytes b) (hk : 10 ≤ fu) : num_Take fu b = some (tk b) := by
 unfold num_Take tk
 have hm : (if (9 : Int) < (b.length : Int) then 9 else (b.length : Int)) = ((min b.length 9 : Nat) : Int) := by split <;> omega
 rw [hm, gd_t (decide_eq_true (by omega))]
 have e : b.take ((min b.length 9 : Nat) : Int).toNat = b.take 9 := by
  rw [Int.toNat_natCast]
  by_cases h : b.length ≤ 9
  ·rw [List.take_of_length_le (by omega), List.take_of_length_le h]
  ·rw [Nat.min_eq_right (by omega)]
 rw [e]
 rcases take_lp fu (b.take 9) [] 0 0 fu (hb.take 9) rfl (by simp; omega) (by decide) (by simp; omega) with h | ⟨h, h'⟩
 ·simp only [List.nil_append, Int.natCast_zero] at h
  rw [bd_s h]
 ·simp only [List.nil_append, Int.natCast_zero] at h
  rw [bd_s h, h']
theorem strB_size (l : List Int) : (strB l).size = l.length := by simp [strB, strOf, ByteArray.size]
theorem tk_is {b : List Int} (hb : Bytes b) : ∃ (v : Int) (n : Nat) (ok : Bool), tk b = (v, (n : Int), ok) ∧ 0 ≤ v ∧ v < 9223372036854775808 ∧ n ≤ b.length ∧ (ok = true → 1 ≤ n) := by
 rcases tk_cases b hb with ⟨e, _⟩ | ⟨n, r, h1, h2, e⟩
 ·exact ⟨0, 0, false, e, by decide, by decide, Nat.zero_le _, fun h => by cases h⟩
 ·refine ⟨(n : Int), (enc n).length, true, e, by omega, by omega, ?_, fun _ => enc_pos n⟩
  rw [h2, List.length_append]; omega
theorem takeTextG {b : List Int} {fu : Nat} (hb : Bytes b) (hl : b.length ≤ 1000) (hk : 10 ≤ fu) : ∃ (s : ByteArray) (n : Nat) (ok : Bool), num_TakeText fu b = some (s, (n : Int), ok) ∧ n ≤ b.length ∧ (ok = true → 1 ≤ n) ∧ s.size ≤ b.length := by
 obtain ⟨v, n, ok, e, h1, h2, h3, h4⟩ := tk_is hb
 have hno : ∃ (s : ByteArray) (m : Nat) (ok : Bool), some (ByteArray.empty, (0 : Int), false) = some (s, (m : Int), ok) ∧ m ≤ b.length ∧ (ok = true → 1 ≤ m) ∧ s.size ≤ b.length := ⟨ByteArray.empty, 0, false, rfl, Nat.zero_le _, (fun h => by cases h), Nat.zero_le _⟩
 unfold num_TakeText
 rw [bd_s (take hb hk), e]
 dsimp only
 cases ok
 ·rw [br_t (by rfl)]; exact hno
 rw [br_f (by rfl)]
 by_cases g1 : v > 255
 ·rw [br_t (decide_eq_true g1)]; exact hno
 rw [br_f (decide_eq_false g1)]
 have e1 : w64 ((b.length : Int) - (n : Int)) = ((b.length - n : Nat) : Int) := by rw [w64_id (by omega) (by omega)]; omega
 rw [e1]
 by_cases g2 : v > ((b.length - n : Nat) : Int)
 ·rw [br_t (decide_eq_true g2)]; exact hno
 have e2 : w64 ((n : Int) + v) = ((n + v.toNat : Nat) : Int) := by rw [w64_id (by omega) (by omega)]; omega
 rw [br_f (decide_eq_false g2), e2, gd_t (decide_eq_true (by omega))]
 refine ⟨_, n + v.toNat, true, rfl, by omega, fun _ => by have := h4 rfl; omega, ?_⟩
 rw [strB_size]; simp; omega
theorem many {S O : Type} {bad : O → Bool} {ω : O → Nat} {I : O → S → Prop} {lp : Nat → Int → O → S → Option (O × S)} {f : S → O → Option (S × O)}
  (hlp : ∀ n i o s, lp (n + 1) i o s = br (decide (i > 0)) (br (!bad o) (bd (f s o) fun p => lp n (w64 (i - 1)) p.2 p.1) (some (o, s))) (some (o, s)))
  (hf : ∀ o s, I o s → bad o = false → ∃ s' o', f s o = some (s', o') ∧ ω o' < ω o ∧ I o' s') :
  ∀ (n : Nat) (i : Int) (o : O) (s : S), 0 ≤ i → i < 9223372036854775808 → I o s → ω o < n → ∃ o' s', lp n i o s = some (o', s') ∧ ω o' ≤ ω o ∧ I o' s'
 | 0, i, o, s, h0, h1, hI, hn => absurd hn (by omega)
 | n + 1, i, o, s, h0, h1, hI, hn => by
  rw [hlp]
  by_cases hi : i > 0
  ·rw [br_t (decide_eq_true hi)]
   cases hb : bad o
   ·obtain ⟨s', o', g1, g2, g3⟩ := hf o s hI hb
    rw [br_t (by rfl), bd_s g1, w64_id (n := i - 1) (by omega) (by omega)]
    obtain ⟨o'', s'', k1, k2, k3⟩ := many hlp hf n (i - 1) o' s' (by omega) (by omega) g3 (by omega)
    exact ⟨o'', s'', k1, by omega, k3⟩
   ·rw [br_f (by rfl)]
    exact ⟨o, s, rfl, Nat.le_refl _, hI⟩
  ·rw [br_f (decide_eq_false hi)]
   exact ⟨o, s, rfl, Nat.le_refl _, hI⟩
theorem manyS {S O : Type} {bad : O → Bool} {ω : O → Nat} {I : O → S → Prop} {lp : Nat → Int → S → O → Option (S × O)} {f : S → O → Option (S × O)}
  (hlp : ∀ n i o s, lp (n + 1) i s o = br (decide (i > 0)) (br (!bad o) (bd (f s o) fun p => lp n (w64 (i - 1)) p.1 p.2) (some (s, o))) (some (s, o)))
  (hf : ∀ o s, I o s → bad o = false → ∃ s' o', f s o = some (s', o') ∧ ω o' < ω o ∧ I o' s') :
  ∀ (n : Nat) (i : Int) (o : O) (s : S), 0 ≤ i → i < 9223372036854775808 → I o s → ω o < n → ∃ o' s', lp n i s o = some (s', o') ∧ ω o' ≤ ω o ∧ I o' s'
 | 0, i, o, s, h0, h1, hI, hn => absurd hn (by omega)
 | n + 1, i, o, s, h0, h1, hI, hn => by
  rw [hlp]
  by_cases hi : i > 0
  ·rw [br_t (decide_eq_true hi)]
   cases hb : bad o
   ·obtain ⟨s', o', g1, g2, g3⟩ := hf o s hI hb
    rw [br_t (by rfl), bd_s g1, w64_id (n := i - 1) (by omega) (by omega)]
    obtain ⟨o'', s'', k1, k2, k3⟩ := manyS hlp hf n (i - 1) o' s' (by omega) (by omega) g3 (by omega)
    exact ⟨o'', s'', k1, by omega, k3⟩
   ·rw [br_f (by rfl)]
    exact ⟨o, s, rfl, Nat.le_refl _, hI⟩
  ·rw [br_f (decide_eq_false hi)]
   exact ⟨o, s, rfl, Nat.le_refl _, hI⟩
end Go.Proofs.Ytbflggolnolaeaa.Told.NT
