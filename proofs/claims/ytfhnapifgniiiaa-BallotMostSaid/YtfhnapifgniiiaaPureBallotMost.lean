/- The plain law of BallotMost. -/
import Derived.Test.YtfhnapifgniiiaaTMost
namespace Go.Proofs.Ytfhnapifgniiiaa.Told.PureBallotMost
open Go Go.Proofs.Ytfhnapifgniiiaa.Vam Go.Proofs.Ytfhnapifgniiiaa.Told Go.Proofs.Ytfhnapifgniiiaa.Told.HP
set_option linter.unusedSimpArgs false
set_option linter.unusedVariables false
def vals (a : TA5_uint8) : List Int := [a.c0, a.c1, a.c2, a.c3, a.c4]
theorem lp8 (fu : Nat) (who by_v : Int) (a : TA5_uint8) (ha : ∀ x ∈ vals a, 0 ≤ x ∧ x < 256) (many : Nat) (hm : many ≤ 5) : ∀ (d i n : Nat), i + d = many → d < n → diwanlaw10_BallotMost.lp8 fu who by_v (many : Int) a n ((vals a).take i) (i : Int) = some ((vals a).take many)
  | 0, i, n, hid, hn => by
    obtain ⟨n, rfl⟩ : ∃ m, n = m + 1 := ⟨n - 1, by omega⟩
    rw [diwanlaw10_BallotMost.lp8, br_f (decide_eq_false (by omega)), show i = many by omega]
  | d + 1, i, n, hid, hn => by
    obtain ⟨n, rfl⟩ : ∃ m, n = m + 1 := ⟨n - 1, by omega⟩
    have ih := lp8 fu who by_v a ha many hm d (i + 1) n (by omega) (by omega)
    have hw : ∀ x ∈ vals a, w64 x = x := fun x hx => w64_id (by have := ha x hx; omega) (by have := ha x hx; omega)
    rw [diwanlaw10_BallotMost.lp8, br_t (decide_eq_true (by omega)), w64_id (n := (i : Int) + 1) (by omega) (by omega), show (i : Int) + 1 = ((i + 1 : Nat) : Int) by omega]
    have hi : i = 0 ∨ i = 1 ∨ i = 2 ∨ i = 3 ∨ i = 4 := by omega
    rcases hi with rfl | rfl | rfl | rfl | rfl
    · rw [br_t (by rfl), gd_t (by rfl), hw _ (by simp [vals])]; exact ih
    · rw [br_f (by rfl), br_t (by rfl), gd_t (by rfl), hw _ (by simp [vals])]; exact ih
    · rw [br_f (by rfl), br_f (by rfl), br_t (by rfl), gd_t (by rfl), hw _ (by simp [vals])]; exact ih
    · rw [br_f (by rfl), br_f (by rfl), br_f (by rfl), br_t (by rfl), gd_t (by rfl), hw _ (by simp [vals])]; exact ih
    · rw [br_f (by rfl), br_f (by rfl), br_f (by rfl), br_f (by rfl), br_t (by rfl), gd_t (by rfl), hw _ (by simp [vals])]; exact ih
theorem lp21 (fu : Nat) (who by_v r0 : Int) : ∀ (r q : List Int) (a b n : Nat), (q ++ r).length ≤ 1000 → a ≤ q.length → b ≤ q.length → r.length < n →
    diwanlaw10_BallotMost.lp21 fu who by_v ((q ++ r).length : Int) (q ++ r) r0 n (a : Int) (b : Int) (q.length : Int) = some (((a + ge r0 r : Nat) : Int), ((b + mo r0 r : Nat) : Int))
  | [], q, a, b, n, hl, ha, hb, hn => by
    obtain ⟨n, rfl⟩ : ∃ m, n = m + 1 := ⟨n - 1, by omega⟩
    simp only [List.append_nil]
    rw [diwanlaw10_BallotMost.lp21, br_f (nlt_end _)]; rfl
  | v :: r, q, a, b, n, hl, ha, hb, hn => by
    obtain ⟨n, rfl⟩ : ∃ m, n = m + 1 := ⟨n - 1, by omega⟩
    have e : q ++ v :: r = (q ++ [v]) ++ r := by simp
    have hl' : q.length + 1 + r.length ≤ 1000 := by simp at hl; omega
    have ih := fun a b h1 h2 => lp21 fu who by_v r0 r (q ++ [v]) a b n (by rw [← e]; exact hl) h1 h2 (by simp at hn; omega)
    rw [← e] at ih
    rw [diwanlaw10_BallotMost.lp21, br_t (lt_mid _ _ _), jn_e, ix_mid]
    dsimp only
    rw [ix_mid, ix_mid, w64_len q r v (by omega)]
    have wa : w64 ((a : Int) + 1) = ((a + 1 : Nat) : Int) := by rw [w64_id (by omega) (by omega)]; omega
    have wb : w64 ((b : Int) + 1) = ((b + 1 : Nat) : Int) := by rw [w64_id (by omega) (by omega)]; omega
    rw [wa, wb]
    have l1 : ∀ {k : Nat}, k ≤ q.length → k ≤ (q ++ [v]).length := fun h => by simp; omega
    have l2 : ∀ {k : Nat}, k ≤ q.length → k + 1 ≤ (q ++ [v]).length := fun h => by simp; omega
    rw [ih a b (l1 ha) (l1 hb), ih (a + 1) b (l2 ha) (l1 hb), ih a (b + 1) (l1 ha) (l2 hb), ih (a + 1) (b + 1) (l2 ha) (l2 hb)]
    simp only [ge, mo, List.countP_cons]
    by_cases h1 : r0 ≤ v
    · rw [br_t (decide_eq_true h1), if_pos (by simpa using h1)]
      by_cases h2 : r0 < v
      · rw [br_t (decide_eq_true h2), if_pos (by simpa using h2)]
        congr 2 <;> omega
      · rw [br_f (decide_eq_false h2), if_neg (by simpa using h2)]
        congr 2 <;> omega
    · rw [br_f (decide_eq_false h1), if_neg (by simpa using h1), br_f (decide_eq_false (by omega)), if_neg (by simp; omega)]
      rfl
theorem begun_e : diwanlaw10_begun 40 = some true := by kernel_rfl
theorem holds (a : TA5_uint8) (n_v who by_v : Int) (k0 : TA5_uint8.ok a) (k1 : okI .u8 n_v) (k2 : okI .u8 who) (k3 : okI .u8 by_v) : ∃ fu, diwanlaw10_BallotMost fu a n_v who by_v = some true := by
  refine ⟨40, ?_⟩
  have b1 := okI_u8 k1
  have b2 := okI_u8 k2
  have b3 := okI_u8 k3
  obtain ⟨a0, a1, a2, a3, a4⟩ := k0
  have ha : ∀ x ∈ vals a, 0 ≤ x ∧ x < 256 := by
    intro x hx
    simp [vals] at hx
    rcases hx with rfl | rfl | rfl | rfl | rfl <;> exact okI_u8 (by assumption)
  have hn : ∃ many : Nat, w64 (1 + (w64 (Int.tmod n_v 5))) = (many : Int) ∧ 1 ≤ many ∧ many ≤ 5 := by
    refine ⟨1 + (n_v % 5).toNat, ?_, by omega, by omega⟩
    rw [Int.tmod_eq_emod_of_nonneg b1.1, w64_id (n := n_v % 5) (by omega) (by omega), w64_id (by omega) (by omega)]; omega
  obtain ⟨many, en, h1, h5⟩ := hn
  unfold diwanlaw10_BallotMost
  rw [bd_s begun_e, br_f (by rfl), en]
  have e8 := lp8 40 who by_v a ha many h5 many 0 40 (by omega) (by omega)
  simp only [List.take_zero, Int.natCast_zero] at e8
  rw [bd_s e8]
  have hml : ((vals a).take many).length = many := by simp [vals]; omega
  have hmv : ∀ x ∈ (vals a).take many, 0 ≤ x ∧ x < 256 := fun x hx => ha x (List.mem_of_mem_take hx)
  generalize (vals a).take many = l at hml hmv
  obtain ⟨r, r1, r2⟩ := most_e (fu := 40) (l := l) (by omega) (fun x hx => (hmv x hx).1) (by omega)
  rw [bd_s r1]
  have e21 := lp21 40 who by_v r l [] 0 0 40 (by simp; omega) (by simp) (by simp) (by omega)
  simp only [List.nil_append, List.length_nil, Int.natCast_zero, Nat.zero_add] at e21
  rw [hml] at e21
  rw [bd_s e21]
  dsimp only
  rcases r2 with ⟨h, _⟩ | ⟨hr, c1, c2⟩
  · rw [h] at hml; simp at hml; omega
  have hge : ge r l ≤ 5 := by have : ge r l ≤ l.length := List.countP_le_length; omega
  have hgt : mo r l ≤ 5 := by have : mo r l ≤ l.length := List.countP_le_length; omega
  have hk : ∃ k : Nat, Int.tmod (w64 who) (many : Int) = (k : Int) ∧ k < many := by
    refine ⟨(who % (many : Int)).toNat, ?_, ?_⟩
    · rw [w64_id (by omega) (by omega), Int.tmod_eq_emod_of_nonneg b2.1]
      have := Int.emod_nonneg who (b := (many : Int)) (by omega)
      omega
    · have := Int.emod_nonneg who (b := (many : Int)) (by omega)
      have := Int.emod_lt_of_pos who (b := (many : Int)) (by omega)
      omega
  obtain ⟨k, ek, hk⟩ := hk
  obtain ⟨x, hx⟩ : ∃ x, l[k]? = some x := ⟨_, List.getElem?_eq_getElem (by omega)⟩
  have hxb := hmv x (List.mem_of_getElem? hx)
  rw [gd_t (decide_eq_true (by simp; omega)), gd_t (by simp; omega), ek, ix_n hx, ix_n hx, w64_id (n := 2 * ((ge r l : Nat) : Int)) (by omega) (by omega), w64_id (n := 2 * ((mo r l : Nat) : Int)) (by omega) (by omega),
    br_t (decide_eq_true (by omega)), br_t (decide_eq_true (by omega)), w64_id (n := by_v) (by omega) (by omega), w64_id (n := x + by_v) (by omega) (by omega), Int.toNat_natCast]
  obtain ⟨r', r1', r2'⟩ := most_e (fu := 40) (l := l.set k (x + by_v)) (by simp; omega) (fun y hy => by
    rcases List.mem_or_eq_of_mem_set hy with h | h
    · exact (hmv y h).1
    · omega) (by simp; omega)
  rw [bd_s r1']
  rcases r2' with ⟨h, _⟩ | ⟨_, _, c2'⟩
  · have := congrArg List.length h
    rw [List.length_set, hml, List.length_nil] at this; omega
  have : r' ≥ r := by
    rcases Int.lt_or_le r' r with h | h
    · have t1 := ge_le_mo h (l.set k (x + by_v))
      have t2 := ge_set (r := r) (v := x + by_v) hx (by omega)
      simp only [List.length_set] at c2'
      omega
    · exact h
  rw [decide_eq_true this]
end Go.Proofs.Ytfhnapifgniiiaa.Told.PureBallotMost
