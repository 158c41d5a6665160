/- Which bytes numbers and texts are, and which ones bytes: the program's answer is the document's. No condition beyond the row's own. -/
import Derived.Test.YtiioolggdffdbaaQdiwanlaw1NumAll
import Derived.Test.YtiioolggdffdbaaNumFns
import Derived.Test.YtiioolggdffdbaaLent
namespace Go.Proofs.Ytiioolggdffdbaa.Pure
open Go Go.RowKit Go.Proofs.Ytiioolggdffdbaa.Q Go.Proofs.Ytiioolggdffdbaa.NumMath Go.Proofs.YtiioolggdffdbaaW.PrintWords Go.Proofs.YtiioolggdffdbaaW.PrintLast Go.Proofs.YtiioolggdffdbaaW.PrintMore

theorem refPut_l0 : ∀ (j n k : Nat) (acc : List Int), n < 128 ^ (j + 1) → n < 9223372036854775808 → j < k → acc.length + j < 140737488355328 → diwanref1_PutNum.l0 k (n : Int) acc = some (acc ++ enc n)
  | j, n, k, acc, hn, hb, hk, ha => by
    obtain ⟨k, rfl⟩ : ∃ m, k = m + 1 := ⟨k - 1, by omega⟩
    simp only [diwanref1_PutNum.l0]
    by_cases h : n < 128
    · rw [if_neg (by omega), if_pos (by omega), enc_lt h]
      rw [show (n : Int) % 256 = (n : Int) by omega]
    · rw [if_pos (by omega), if_pos (by omega), enc_ge h]
      match j, hn, hk, ha with
      | 0, hn, _, _ => exact absurd (by simpa using hn) h
      | j + 1, hn, hk, ha =>
        have e0 : Int.tdiv (n : Int) 128 = ((n / 128 : Nat) : Int) := by simp [Int.tdiv]
        have e1 : Int.tmod (n : Int) 128 = ((n % 128 : Nat) : Int) := by simp [Int.tmod]
        have e : wrap64 ((n / 128 : Nat) : Int) = ((n / 128 : Nat) : Int) := wrap64_id (by omega) (by omega)
        rw [e0, e1, e]
        clear e e0 e1
        rw [refPut_l0 j (n / 128) k _ (by
          rw [Nat.div_lt_iff_lt_mul (by decide)]
          rw [Nat.pow_succ] at hn; exact hn) (by omega) (by omega) (by simp; omega)]
        have e2 : (((n % 128 : Nat) : Int) + 128) % 256 = ((n % 128 + 128 : Nat) : Int) := by omega
        rw [e2]; simp
theorem refPut {n k : Nat} (hn : n < 9223372036854775808) (hk : 9 ≤ k) : diwanref1_PutNum.f k (n : Int) = some (enc n) := by
  unfold diwanref1_PutNum.f
  rw [if_neg (by omega), refPut_l0 8 n k [] (by have : (128 : Nat) ^ (8 + 1) = 9223372036854775808 := by decide +kernel
                                                omega) hn (by omega) (by simp)]
  rfl
theorem refPut_neg {v : Int} (k : Nat) (h : v < 0) : diwanref1_PutNum.f k v = some [] := by
  unfold diwanref1_PutNum.f; rw [if_pos h]
theorem refPutText {s : ByteArray} {k : Nat} (hk : 9 ≤ k) (hs : s.size ≤ 255) : diwanref1_PutText.f k s = some (enc s.size ++ bytesOf s) := by
  unfold diwanref1_PutText.f
  rw [if_neg (by omega), refPut (by omega) hk]
  have := enc_len9 (n := s.size) (by omega)
  simp only [Option.bind_some]
  rw [if_pos (by omega)]
theorem refPutText_none {s : ByteArray} (k : Nat) (hs : ¬ s.size ≤ 255) : diwanref1_PutText.f k s = some [] := by
  unfold diwanref1_PutText.f
  rw [if_pos (by omega)]

theorem rd_mid (q r : List Int) (c : Int) : rd (q ++ c :: r) (q.length : Int) = c := by
  unfold rd
  rw [Int.toNat_natCast, List.getD_eq_getElem?_getD, List.getElem?_append_right (Nat.le_refl _)]
  simp
/-- The high ones are gone past. -/
theorem refTake_high (p s : List Int) (hp : High p) (h9 : p.length ≤ 9) : ∀ (d i k : Nat), i + d = p.length → diwanref1_TakeNum.l0 (k + 2 * d) (p ++ s) ((i : Int) + 1) = diwanref1_TakeNum.l0 k (p ++ s) ((p.length : Int) + 1) := by
  intro d
  induction d with
  | zero => intro i k h; have : i = p.length := by omega
            subst this; rfl
  | succ d ih =>
    intro i k h
    have hi : i < p.length := by omega
    have e1 : k + 2 * (d + 1) = k + 2 * d + 1 + 1 := by omega
    rw [e1]
    simp only [diwanref1_TakeNum.l0]
    have hlen : ((i : Int) + 1 ≤ ((p ++ s).length : Int)) := by simp; omega
    rw [if_pos (by omega), decide_eq_true hlen]
    simp only [diwanref1_TakeNum.j1]
    have w1 : wrap64 ((i : Int) + 1 - 1) = (i : Int) := by rw [wrap64_id (by omega) (by omega)]; omega
    have w2 : wrap64 ((i : Int) + 1 + 1) = ((i + 1 : Nat) : Int) + 1 := by rw [wrap64_id (by omega) (by omega)]; omega
    rw [w1, w2]
    clear w1 w2
    have hrd : rd (p ++ s) (i : Int) ≥ 128 := by
      unfold rd
      rw [Int.toNat_natCast, List.getD_eq_getElem?_getD, List.getElem?_append_left hi, List.getElem?_eq_getElem hi]
      exact hp _ (List.getElem_mem hi)
    rw [if_pos True.intro, if_pos (by omega), if_pos (by simp; omega), if_pos hrd]
    exact ih (i + 1) k (by omega)
theorem val_lt : ∀ l : List Int, val l < 128 ^ l.length
  | [] => by decide
  | c :: r => by
    have := val_lt r
    simp only [val, List.length_cons, Nat.pow_succ]
    omega
theorem pow128 : ∀ n : Nat, n ≤ 9 → (128 : Nat) ^ n ≤ 9223372036854775808 := fun n h =>
  Nat.le_trans (Nat.pow_le_pow_right (by decide) h) (by decide +kernel)
theorem step_val (a x : Nat) (ha : a < 72057594037927936) : wrap64 (wrap64 ((a : Int) * 128) + wrap64 (Int.tmod (x : Int) 128)) = ((x % 128 + 128 * a : Nat) : Int) := by
  have e1 : Int.tmod (x : Int) 128 = ((x % 128 : Nat) : Int) := by simp [Int.tmod]
  rw [e1]
  clear e1
  generalize hy : x % 128 = y
  have : y < 128 := by omega
  clear hy
  unfold wrap64
  omega
/-- The value, from the last byte down. -/
theorem refTake_val (r : List Int) (x5 : Int) : ∀ (n : Nat) (q t : List Int) (k : Nat), q.length = n → (q ++ t).length ≤ 9 → Bytes (q ++ t) → n < k → ∃ m, k - n ≤ m + 1 ∧ diwanref1_TakeNum.l1 k (q ++ t ++ r) x5 ((val t : Nat) : Int) ((n : Int) - 1) = diwanref1_TakeNum.l1 (m + 1) (q ++ t ++ r) x5 ((val (q ++ t) : Nat) : Int) (-1) := by
  intro n
  induction n with
  | zero =>
    intro q t k hq _ _ hk
    obtain rfl : q = [] := List.eq_nil_of_length_eq_zero hq
    obtain ⟨k, rfl⟩ : ∃ m, k = m + 1 := ⟨k - 1, by omega⟩
    exact ⟨k, by omega, rfl⟩
  | succ n ih =>
    intro q t k hq h9 hb hk
    obtain ⟨k, rfl⟩ : ∃ m, k = m + 1 := ⟨k - 1, by omega⟩
    obtain ⟨q', c, rfl⟩ : ∃ q' c, q = q' ++ [c] := by
      refine ⟨q.dropLast, q.getLast (by intro e; simp [e] at hq), ?_⟩
      rw [List.dropLast_concat_getLast]
    have hq' : q'.length = n := by simpa using hq
    simp only [diwanref1_TakeNum.l1]
    have hc := hb c (by simp)
    have hl : (q' ++ t).length ≤ 8 := by simp at h9 ⊢; omega
    have hv : val t < 72057594037927936 := Nat.lt_of_lt_of_le (val_lt t) (Nat.le_trans (Nat.pow_le_pow_right (by decide) (by simp at hl; omega : t.length ≤ 8)) (by decide +kernel))
    have e : q' ++ [c] ++ t ++ r = q' ++ c :: (t ++ r) := by simp
    have hrd : rd (q' ++ [c] ++ t ++ r) (((n + 1 : Nat) : Int) - 1) = c := by
      rw [e, show ((n + 1 : Nat) : Int) - 1 = (q'.length : Int) by omega]; exact rd_mid _ _ _
    rw [if_pos (by omega), if_pos (by omega), if_pos (by simp; omega), hrd]
    obtain ⟨x, rfl⟩ := Int.eq_ofNat_of_zero_le hc.1
    have w2 := step_val (val t) x hv
    have hn9 : n ≤ 8 := by simp at hl; omega
    have w3 : wrap64 (((n + 1 : Nat) : Int) - 1 - 1) = (n : Int) - 1 := by clear hv w2 hc hrd hq' hl hq h9 hk; unfold wrap64; omega
    rw [w2, w3]
    clear w2 w3
    have e2 : q' ++ [(x : Int)] ++ t = q' ++ ((x : Int) :: t) := by simp
    rw [e2] at hb h9 ⊢
    obtain ⟨m, hm, h⟩ := ih q' ((x : Int) :: t) k hq' h9 hb (by omega)
    simp only [val, Int.toNat_natCast] at h
    exact ⟨m, by omega, h⟩
theorem refTake {b : List Int} {k : Nat} (hb : Bytes b) (hk : 60 ≤ k) : diwanref1_TakeNum.f k b = some (tk b) := by
  unfold diwanref1_TakeNum.f tk
  rcases split (b.take 9) with hh | ⟨p, c, r, e, hp, hc⟩
  · rw [go_high _ _ _ hh]
    have hl : (b.take 9).length ≤ 9 := by simp; omega
    have e : b = b.take 9 ++ b.drop 9 := (List.take_append_drop 9 b).symm
    obtain ⟨k, rfl⟩ : ∃ m, k = m + 1 + 1 + 2 * (b.take 9).length := ⟨k - 2 - 2 * (b.take 9).length, by omega⟩
    have h := refTake_high (b.take 9) (b.drop 9) hh hl (b.take 9).length 0 (k + 1 + 1) (by omega)
    rw [← e] at h
    have h0 : ((0 : Nat) : Int) + 1 = 1 := rfl
    rw [h0] at h
    rw [h]
    simp only [diwanref1_TakeNum.l0]
    by_cases h9 : (b.take 9).length = 9
    · rw [if_neg (by omega)]; simp only [diwanref1_TakeNum.j1]; rfl
    · have hbl : b.length = (b.take 9).length := by simp at h9 ⊢; omega
      rw [if_pos (by omega), decide_eq_false (by omega)]; simp only [diwanref1_TakeNum.j1]; rfl
  · have hpl : p.length ≤ 8 := by
      have := congrArg List.length e
      simp at this; omega
    have hb9 : Bytes (p ++ c :: r) := e ▸ hb.take 9
    have hbc := hb9 c (by simp)
    have eb : b = p ++ c :: (r ++ b.drop 9) := by
      have := (List.take_append_drop 9 b).symm
      rw [e] at this; simpa using this
    rw [e, go_ends p r c 0 0 hp hc]
    generalize hs : r ++ b.drop 9 = s at eb
    clear hs e
    obtain ⟨k, rfl⟩ : ∃ m, k = m + 1 + 1 + 2 * p.length := ⟨k - 2 - 2 * p.length, by omega⟩
    have h := refTake_high p (c :: s) hp (by omega) p.length 0 (k + 1 + 1) (by omega)
    have h0 : ((0 : Nat) : Int) + 1 = 1 := rfl
    rw [h0] at h
    rw [eb, h]
    simp only [diwanref1_TakeNum.l0]
    rw [if_pos (by omega), decide_eq_true (by simp; omega)]
    simp only [diwanref1_TakeNum.j1]
    have w1 : wrap64 ((p.length : Int) + 1 - 1) = (p.length : Int) := by rw [wrap64_id (by omega) (by omega)]; omega
    rw [w1]
    clear w1
    rw [if_pos True.intro, if_pos (by omega), if_pos (by simp; omega), rd_mid, if_neg (by omega)]
    have hbp : Bytes (p ++ [c]) := fun x hx => by
      rcases List.mem_append.1 hx with g | g
      · exact hb9 x (by simp [g])
      · simp at g; subst g; exact hbc
    obtain ⟨m, hm, hl⟩ := refTake_val s ((p.length : Int) + 1) (p.length + 1) (p ++ [c]) [] k (by simp) (by simp; omega) (by simpa using hbp) (by omega)
    have e1 : p ++ [c] ++ [] ++ s = p ++ c :: s := by simp
    have e2 : ((p.length + 1 : Nat) : Int) - 1 = (p.length : Int) := by omega
    rw [e1, e2] at hl
    simp only [val, List.append_nil] at hl
    have e3 : ((0 : Nat) : Int) = 0 := rfl
    rw [e3] at hl
    rw [hl]
    simp only [diwanref1_TakeNum.l1]
    have hv : val (p ++ [c]) < 9223372036854775808 := by
      have h1 := val_lt (p ++ [c]); have h2 := pow128 (p ++ [c]).length (by simp; omega); omega
    rw [if_neg (by decide), refPut hv (by omega)]
    simp only [Option.bind_some]
    have et : (p ++ c :: s).take (((p.length : Int) + 1).toNat) = p ++ [c] := by
      have : ((p.length : Int) + 1).toNat = p.length + 1 := by omega
      rw [this, List.take_append, List.take_of_length_le (by omega)]; simp
    rw [if_pos (by omega), if_pos (by simp; omega), et]
    by_cases g : 0 + p.length = 0 ∨ c > 0
    · have g' : p = [] ∨ c > 0 := g.imp (fun h => List.eq_nil_of_length_eq_zero (by omega)) id
      rw [if_pos g, (enc_val p c hp (fun x hx => hb9 x (by simp [hx])) hbc.1 hc g').1, if_pos rfl]
      simp
    · rw [if_neg g, if_neg]
      intro h
      have h2 := str_inj (enc_bytes _) hbp h
      obtain ⟨p', c', h3, _, _, _, h4, _, _⟩ := enc_form (val (p ++ [c]))
      rw [h3] at h2
      have h5 := List.append_inj' h2 rfl
      obtain ⟨rfl, h6⟩ := h5
      simp at h6; subst h6
      exact g (h4.imp (fun h => by simp [h]) id)
theorem refTakeText {b : List Int} {k : Nat} (hb : Bytes b) (hl : b.length ≤ 140737488355328) (hk : 60 ≤ k) : diwanref1_TakeText.f k b = some (txt b) := by
  unfold diwanref1_TakeText.f txt
  rw [refTake hb hk]
  simp only [Option.bind_some]
  obtain ⟨h1, h2, h3, h4, h5⟩ := tk_nums b hb
  generalize (tk b).1 = v at *
  generalize (tk b).2.1 = n at *
  generalize (tk b).2.2 = o at *
  cases o with
  | false => rfl
  | true =>
    simp only [if_true]
    by_cases g : v > 255
    · rw [if_pos g, if_pos g]
    · have e1 : wrap64 ((b.length : Int) - n) = (b.length : Int) - n := wrap64_id (by omega) (by omega)
      have e2 : wrap64 (n + v) = n + v := wrap64_id (by omega) (by omega)
      rw [if_neg g, if_neg g, e1, e2]
      clear e1 e2
      by_cases g2 : v > (b.length : Int) - n
      · rw [if_pos g2, if_pos g2]
      · rw [if_neg g2, if_neg g2, if_pos h3, if_pos (by omega), if_pos (by omega)]

theorem lent_l1 (l : List Int) : ∀ (d : Nat) (x : List Int) (i : Int) (k : Nat), Lent.Inv2 l x i → (l.length : Int) - i ≤ d → d < k → diwanlaw0_Lent.l1 k l x i = some l := by
  intro d
  induction d with
  | zero =>
    intro x i k h hd hk
    obtain ⟨k, rfl⟩ : ∃ m, k = m + 1 := ⟨k - 1, by omega⟩
    simp only [diwanlaw0_Lent.l1]
    have hx := h.full (by omega)
    subst hx
    rw [if_neg (by omega), if_pos (by omega), if_pos (by simp; omega)]
    simp
  | succ d ih =>
    intro x i k h hd hk
    obtain ⟨k, rfl⟩ : ∃ m, k = m + 1 := ⟨k - 1, by omega⟩
    by_cases hi : i < (l.length : Int)
    · simp only [diwanlaw0_Lent.l1]
      have h1 := h.1; have h2 := h.2.1
      rw [if_pos hi, if_pos h2, if_pos (by omega)]
      have h3 := Lent.fill2 h hi h2 rfl
      have hw : wrap64 (i + 1) = i + 1 := wrap64_id (by omega) (by omega)
      rw [hw] at h3 ⊢
      exact ih _ _ k h3 (by omega) (by omega)
    · simp only [diwanlaw0_Lent.l1]
      have hx := h.full hi
      subst hx
      rw [if_neg hi, if_pos (by omega), if_pos (by simp; omega)]
      simp
theorem lent_l0 (l : List Int) : ∀ (d : Nat) (x : List Int) (i : Int) (k : Nat), Lent.Inv1 l x i → (x.length : Int) - i ≤ d → d + l.length + 1 < k → diwanlaw0_Lent.l0 k l x i = some l := by
  intro d
  induction d with
  | zero =>
    intro x i k h hd hk
    obtain ⟨k, rfl⟩ : ∃ m, k = m + 1 := ⟨k - 1, by omega⟩
    simp only [diwanlaw0_Lent.l0]
    rw [if_neg (by omega)]
    exact lent_l1 l l.length x 0 k (h.next (by omega)) (by omega) (by omega)
  | succ d ih =>
    intro x i k h hd hk
    obtain ⟨k, rfl⟩ : ∃ m, k = m + 1 := ⟨k - 1, by omega⟩
    simp only [diwanlaw0_Lent.l0]
    by_cases hi : i < (x.length : Int)
    · have h1 := h.1; have h2 := h.2.1
      rw [if_pos hi, if_pos h2]
      have h3 := Lent.fill1 h hi h2 rfl
      have hw : wrap64 (i + 1) = i + 1 := wrap64_id (by omega) (by omega)
      rw [hw] at h3 ⊢
      exact ih _ _ k h3 (by simp; omega) (by omega)
    · rw [if_neg hi]
      exact lent_l1 l l.length x 0 k (h.next hi) (by omega) (by omega)
theorem lent {l : List Int} {k : Nat} (hl : l.length ≤ 300) (hk : 1000 ≤ k) : diwanlaw0_Lent.f k l = some l := by
  unfold diwanlaw0_Lent.f
  have w : wrap64 ((l.length : Int) + 6) = ((l.length + 6 : Nat) : Int) := by rw [wrap64_id (by omega) (by omega)]; omega
  rw [w, if_pos (by omega), if_pos (by omega), Int.toNat_natCast]
  exact lent_l0 l (l.length + 6) _ 0 k (Lent.Inv1.start l (by omega)) (by simp) (by omega)

theorem putBoth {k : Nat} (v : Int) (hk : 9 ≤ k) (h : v ≤ 9223372036854775807) : ∃ r, num_Put.f k v = some r ∧ diwanref1_PutNum.f k v = some r := by
  by_cases h0 : v < 0
  · exact ⟨[], NumFns.put_neg k h0, refPut_neg k h0⟩
  · obtain ⟨n, rfl⟩ := Int.eq_ofNat_of_zero_le (show 0 ≤ v by omega)
    exact ⟨enc n, NumFns.put (by omega) hk, refPut (by omega) hk⟩
theorem textBoth {k : Nat} (s : ByteArray) (hk : 9 ≤ k) : ∃ r, num_PutText.f k s = some r ∧ diwanref1_PutText.f k s = some r := by
  by_cases h : s.size ≤ 255
  · exact ⟨_, NumFns.putText hk h, refPutText hk h⟩
  · exact ⟨[], NumFns.putText_none k h, refPutText_none k h⟩
theorem begun_at : ∃ d, diwanlaw1_begun.f (d + 20) = some true := ⟨0, NumFns.begun⟩
theorem NumAll : diwanlaw1_NumAll.Pure := by
  intro v s b wv ws hl1 hl2 wb
  have hv := wf_i64 wv
  have hb : Bytes b := fun x hx => wf_u8 (wb x hx)
  refine ⟨1020, ?_⟩
  unfold diwanlaw1_NumAll.f
  have hbg : diwanlaw1_begun.f 1020 = some true := by kernel_rfl
  rw [hbg]; simp only [Option.bind_some, if_true]
  by_cases h1 : (s.size : Int) > 300
  · rw [if_pos h1]; simp only [diwanlaw1_NumAll.j0]; simp
  · rw [if_neg h1]
    by_cases h2 : (b.length : Int) > 300
    · rw [decide_eq_true h2]; simp only [diwanlaw1_NumAll.j0]; simp
    · rw [decide_eq_false h2]
      simp only [diwanlaw1_NumAll.j0]
      obtain ⟨r1, p1, q1⟩ := putBoth (k := 1019) v (by decide) hv.2
      obtain ⟨r2, p2, q2⟩ := textBoth (k := 1019) s (by decide)
      rw [lent (by omega) (by decide)]
      simp only [Option.bind_some, p1, q1, p2, q2]
      rw [NumFns.take hb (by decide), refTake hb (by decide), NumFns.takeText hb (by omega) (by decide), refTakeText hb (by omega) (by decide)]
      simp [diwanlaw0_Back.f]
end Go.Proofs.Ytiioolggdffdbaa.Pure
