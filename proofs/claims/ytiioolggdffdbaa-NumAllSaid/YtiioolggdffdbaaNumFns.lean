/- What num's functions come to, as the print tells them: numbers as bytes and back. -/
import Derived.Test.YtiioolggdffdbaaQdiwanlaw1begun
import Derived.Test.YtiioolggdffdbaaNumMath
namespace Go.Proofs.Ytiioolggdffdbaa.NumFns
open Go Go.RowKit Go.Proofs.Ytiioolggdffdbaa.Q Go.Proofs.Ytiioolggdffdbaa.NumMath Go.Proofs.YtiioolggdffdbaaW.PrintWords Go.Proofs.YtiioolggdffdbaaW.PrintLast Go.Proofs.YtiioolggdffdbaaW.PrintMore

theorem put_l0 : ∀ (j n k : Nat) (acc : List Int), n < 128 ^ (j + 1) → j < k → acc.length + j < 140737488355328 → num_Put.l0 k (n : Int) acc = some (acc ++ enc n)
  | j, n, k, acc, hn, hk, ha => by
    obtain ⟨k, rfl⟩ : ∃ m, k = m + 1 := ⟨k - 1, by omega⟩
    simp only [num_Put.l0]
    by_cases h : n < 128
    · rw [if_neg (by omega), if_pos (by omega), enc_lt h]
      rw [show (n : Int) % 256 = (n : Int) by omega]
    · rw [if_pos (by omega), if_pos (by omega), enc_ge h]
      match j, hn, hk, ha with
      | 0, hn, _, _ => exact absurd (by simpa using hn) h
      | j + 1, hn, hk, ha =>
        rw [or128 _ (by omega) (by omega)]
        have e : (n : Int) / 128 = ((n / 128 : Nat) : Int) := by omega
        rw [e, put_l0 j (n / 128) k _ (by
          rw [Nat.div_lt_iff_lt_mul (by decide)]
          rw [Nat.pow_succ] at hn; exact hn) (by omega) (by simp; omega)]
        have e2 : (n : Int) % 256 % 128 + 128 = ((n % 128 + 128 : Nat) : Int) := by omega
        rw [e2]; simp
theorem put {n k : Nat} (hn : n < 9223372036854775808) (hk : 9 ≤ k) : num_Put.f k (n : Int) = some (enc n) := by
  unfold num_Put.f
  rw [if_neg (by omega), put_l0 8 n k [] (by have : (128 : Nat) ^ (8 + 1) = 9223372036854775808 := by decide +kernel
                                             omega) (by omega) (by simp)]
  rfl
theorem put_neg {v : Int} (k : Nat) (h : v < 0) : num_Put.f k v = some [] := by
  unfold num_Put.f; rw [if_pos h]

theorem take_l0 : ∀ (r q : List Int) (i v k : Nat), Bytes r → q.length = i → i + r.length ≤ 9 → v < 2 ^ (7 * i) → r.length < k → num_Take.l0 k (v : Int) (q ++ r) ((q ++ r).length : Int) (i : Int) = some (go r i v) := by
  intro r
  induction r with
  | nil =>
    intro q i v k hb hi hl hv hk
    obtain ⟨k, rfl⟩ : ∃ m, k = m + 1 := ⟨k - 1, by omega⟩
    simp only [num_Take.l0]
    rw [if_neg (by simp; omega)]; rfl
  | cons c r ih =>
    intro q i v k hb hi hl hv hk
    obtain ⟨k, rfl⟩ : ∃ m, k = m + 1 := ⟨k - 1, by omega⟩
    have hl' : i + r.length + 1 ≤ 9 := by simp at hl; omega
    have hk' : r.length < k := by simp at hk; omega
    obtain ⟨c0, c1⟩ := hb c (List.mem_cons_self)
    have hrd : rd (q ++ c :: r) (i : Int) = c := by
      unfold rd
      rw [List.getD_eq_getElem?_getD, List.getElem?_append_right (by omega)]
      simp [hi]
    have hlen : (i : Int) < ((q ++ c :: r).length : Int) := by simp; omega
    have hi8 : i ≤ 8 := by omega
    have hw7 : wrap64 (7 * (i : Int)) = 7 * (i : Int) := wrap64_id (by omega) (by omega)
    have hw1 : wrap64 ((i : Int) + 1) = (i : Int) + 1 := wrap64_id (by omega) (by omega)
    have hi0 : 0 ≤ (i : Int) := Int.natCast_nonneg i
    have h70 : 0 ≤ wrap64 (7 * (i : Int)) := hw7.symm ▸ Int.mul_nonneg (by decide) hi0
    simp only [num_Take.l0]
    rw [if_pos hlen, if_pos hi0, if_pos hlen, if_pos h70, hrd, or_shift v i c hi8 hv c0 c1, hw1]
    clear hw7 hw1 h70
    have hm : c.toNat % 128 < 128 := Nat.mod_lt _ (by decide)
    by_cases hc : c < 128
    · rw [if_pos (and128_lo c c0 hc)]
      simp only [go]; rw [if_pos hc]
      by_cases h0 : i = 0
      · rw [if_pos (by omega), if_pos (.inl h0)]
        simp [num_result.f]
      · rw [if_neg (by omega)]
        by_cases hp : c > 0
        · rw [if_pos (.inr hp)]; simp [num_result.f, hp]
        · rw [if_neg (by omega)]; simp [num_result.f, hp]
    · rw [if_neg (by rw [and128_hi c (by omega) c1]; decide)]
      simp only [go]; rw [if_neg hc]
      have e : q ++ c :: r = (q ++ [c]) ++ r := by simp
      have e1 : (i : Int) + 1 = ((i + 1 : Nat) : Int) := by omega
      rw [e, e1]
      refine ih (q ++ [c]) (i + 1) _ k (fun x hx => hb x (List.mem_cons_of_mem _ hx)) (by simp; omega) (by omega) ?_ hk'
      have h7 : 2 ^ (7 * (i + 1)) = 2 ^ (7 * i) * 128 := by rw [show 7 * (i + 1) = 7 * i + 7 by omega, Nat.pow_add]
      rw [h7]
      have h8 : 2 ^ (7 * i) * (c.toNat % 128) ≤ 2 ^ (7 * i) * 127 := Nat.mul_le_mul_left _ (by omega)
      have h9 : 2 ^ (7 * i) * 128 = 2 ^ (7 * i) * 127 + 2 ^ (7 * i) := by omega
      omega
theorem take {b : List Int} {k : Nat} (hb : Bytes b) (hk : 10 ≤ k) : num_Take.f k b = some (tk b) := by
  unfold num_Take.f tk
  have hm : mn (b.length : Int) 9 = ((min b.length 9 : Nat) : Int) := by unfold mn; omega
  rw [hm, if_pos (by omega), if_pos (by omega)]
  have e : b.take ((min b.length 9 : Nat) : Int).toNat = b.take 9 := by
    rw [Int.toNat_natCast]
    by_cases h : b.length ≤ 9
    · rw [List.take_of_length_le (by omega), List.take_of_length_le h]
    · rw [Nat.min_eq_right (by omega)]
  rw [e]
  have := take_l0 (b.take 9) [] 0 0 k (hb.take 9) rfl (by simp; omega) (by decide) (by simp; omega)
  simpa using this

theorem putText {s : ByteArray} {k : Nat} (hk : 9 ≤ k) (hs : s.size ≤ 255) : num_PutText.f k s = some (enc s.size ++ bytesOf s) := by
  unfold num_PutText.f
  rw [if_neg (by omega), put (by omega) hk]
  have := enc_len9 (n := s.size) (by omega)
  simp only [Option.bind_some]
  rw [if_pos (by omega)]
theorem putText_none {s : ByteArray} (k : Nat) (hs : ¬ s.size ≤ 255) : num_PutText.f k s = some [] := by
  unfold num_PutText.f
  rw [if_pos (by omega)]
theorem takeText {b : List Int} {k : Nat} (hb : Bytes b) (hl : b.length ≤ 140737488355328) (hk : 10 ≤ k) : num_TakeText.f k b = some (txt b) := by
  unfold num_TakeText.f txt
  rw [take hb hk]
  simp only [Option.bind_some]
  obtain ⟨h1, h2, h3, h4, h5⟩ := tk_nums b hb
  generalize (tk b).1 = v at *
  generalize (tk b).2.1 = n at *
  generalize (tk b).2.2 = o at *
  cases o with
  | false => rfl
  | true =>
    simp only [if_true]
    by_cases g : v > 255
    · rw [if_pos g, if_pos g]
    · have e1 : wrap64 ((b.length : Int) - n) = (b.length : Int) - n := wrap64_id (by omega) (by omega)
      have e2 : wrap64 (n + v) = n + v := wrap64_id (by omega) (by omega)
      rw [if_neg g, if_neg g, e1, e2]
      clear e1 e2
      by_cases g2 : v > (b.length : Int) - n
      · rw [if_pos g2, if_pos g2]
      · rw [if_neg g2, if_neg g2, if_pos h3, if_pos (by omega), if_pos (by omega)]

theorem begun : diwanlaw1_begun.f 20 = some true := by kernel_rfl
end Go.Proofs.Ytiioolggdffdbaa.NumFns
