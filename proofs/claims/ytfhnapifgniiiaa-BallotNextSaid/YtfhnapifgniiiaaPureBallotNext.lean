/- The plain law of BallotNext. -/
import Derived.Test.YtfhnapifgniiiaaTMost
import Derived.Test.YtfhnapifgniiiaaTPicks
namespace Go.Proofs.Ytfhnapifgniiiaa.Told.PureBallotNext
open Go Go.Proofs.Ytfhnapifgniiiaa.Vam Go.Proofs.Ytfhnapifgniiiaa.Told Go.Proofs.Ytfhnapifgniiiaa.Told.HP Go.Proofs.Ytfhnapifgniiiaa.Told.PK
set_option linter.unusedSimpArgs false
set_option linter.unusedVariables false
def vals (a : TA5_uint8) : List Int := [a.c0 % 11, a.c1 % 11, a.c2 % 11, a.c3 % 11, a.c4 % 11]
theorem lp12 (fu : Nat) (t c : Int) (es : List TEntry) (a : TA5_uint8) (ha : ∀ x ∈ [a.c0, a.c1, a.c2, a.c3, a.c4], 0 ≤ x ∧ x < 256) (many : Nat) (hm : many ≤ 5) : ∀ (d i n : Nat), i + d = many → d < n → diwanlaw10_BallotNext.lp12 fu t c es (many : Int) a n ((vals a).take i) (i : Int) = some ((vals a).take many)
  | 0, i, n, hid, hn => by
    obtain ⟨n, rfl⟩ : ∃ m, n = m + 1 := ⟨n - 1, by omega⟩
    rw [diwanlaw10_BallotNext.lp12, br_f (decide_eq_false (by omega)), show i = many by omega]
  | d + 1, i, n, hid, hn => by
    obtain ⟨n, rfl⟩ : ∃ m, n = m + 1 := ⟨n - 1, by omega⟩
    have ih := lp12 fu t c es a ha many hm d (i + 1) n (by omega) (by omega)
    have hw : ∀ x ∈ [a.c0, a.c1, a.c2, a.c3, a.c4], w64 (Int.tmod x 11) = x % 11 := fun x hx => by
      have := ha x hx
      rw [Int.tmod_eq_emod_of_nonneg this.1, w64_id (by omega) (by omega)]
    rw [diwanlaw10_BallotNext.lp12, br_t (decide_eq_true (by omega)), w64_id (n := (i : Int) + 1) (by omega) (by omega), show (i : Int) + 1 = ((i + 1 : Nat) : Int) by omega]
    have hi : i = 0 ∨ i = 1 ∨ i = 2 ∨ i = 3 ∨ i = 4 := by omega
    rcases hi with rfl | rfl | rfl | rfl | rfl
    · rw [br_t (by rfl), gd_t (by rfl), hw _ (by simp)]; exact ih
    · rw [br_f (by rfl), br_t (by rfl), gd_t (by rfl), hw _ (by simp)]; exact ih
    · rw [br_f (by rfl), br_f (by rfl), br_t (by rfl), gd_t (by rfl), hw _ (by simp)]; exact ih
    · rw [br_f (by rfl), br_f (by rfl), br_f (by rfl), br_t (by rfl), gd_t (by rfl), hw _ (by simp)]; exact ih
    · rw [br_f (by rfl), br_f (by rfl), br_f (by rfl), br_f (by rfl), br_t (by rfl), gd_t (by rfl), hw _ (by simp)]; exact ih
theorem lp29 (fu : Nat) (es : List TEntry) (c t r0 : Int) : ∀ (r q : List Int) (a n : Nat), (q ++ r).length ≤ 1000 → a ≤ q.length → r.length < n →
    diwanlaw10_BallotNext.lp29 fu es ((q ++ r).length : Int) (q ++ r) c t r0 n (a : Int) (q.length : Int) = some ((a + ge r0 r : Nat) : Int)
  | [], q, a, n, hl, ha, hn => by
    obtain ⟨n, rfl⟩ : ∃ m, n = m + 1 := ⟨n - 1, by omega⟩
    simp only [List.append_nil]
    rw [diwanlaw10_BallotNext.lp29, br_f (nlt_end _)]; rfl
  | v :: r, q, a, n, hl, ha, hn => by
    obtain ⟨n, rfl⟩ : ∃ m, n = m + 1 := ⟨n - 1, by omega⟩
    have e : q ++ v :: r = (q ++ [v]) ++ r := by simp
    have hl' : q.length + 1 + r.length ≤ 1000 := by simp at hl; omega
    have ih := fun a h1 => lp29 fu es c t r0 r (q ++ [v]) a n (by rw [← e]; exact hl) h1 (by simp at hn; omega)
    rw [← e] at ih
    have wa : w64 ((a : Int) + 1) = ((a + 1 : Nat) : Int) := by rw [w64_id (by omega) (by omega)]; omega
    rw [diwanlaw10_BallotNext.lp29, br_t (lt_mid _ _ _), ix_mid, w64_len q r v (by omega), wa, ih a (by simp; omega), ih (a + 1) (by simp; omega)]
    simp only [ge, List.countP_cons]
    by_cases h1 : r0 ≤ v
    · rw [br_t (decide_eq_true h1), if_pos (by simpa using h1)]
      congr 1; omega
    · rw [br_f (decide_eq_false h1), if_neg (by simpa using h1)]; rfl
theorem begun_e : diwanlaw10_begun 40 = some true := by kernel_rfl
theorem term_two (l : List TEntry) (i : Int) : ulog_Term l i = diwanref1_Term l i := by
  unfold ulog_Term ulog_entries_term diwanref1_Term
  generalize br (decide (i < 1)) (some 0) (br (decide (i > (l.length : Int))) (some 0) (ix l (w64 (i - 1)) fun x6_1 => some x6_1.Term)) = o
  cases o <;> rfl
theorem term_e {l : List TEntry} {i : Int} (hl : l.length ≤ 1000000) (hi : i ≤ (l.length : Int)) (h0 : 0 ≤ i) : ∃ t, diwanref1_Term l i = some t := by
  unfold diwanref1_Term
  by_cases h : i < 1
  · exact ⟨0, by rw [br_t (decide_eq_true h)]⟩
  · have hx : l[(i - 1).toNat]? = some l[(i - 1).toNat] := List.getElem?_eq_getElem (by omega)
    exact ⟨_, by rw [br_f (decide_eq_false h), br_f (decide_eq_false (by omega)), w64_id (by omega) (by omega), ix_s (by omega) hx]⟩
theorem holds (a : TA5_uint8) (n_v : Int) (picks : List Int) (term commit : Int) (k0 : TA5_uint8.ok a) (k1 : okI .u8 n_v) (k2 : okL (okI .u8) picks) (k3 : okI .u8 term) (k4 : okI .u8 commit) : ∃ fu, diwanlaw10_BallotNext fu a n_v picks term commit = some true := by
  refine ⟨40, ?_⟩
  have b1 := okI_u8 k1
  have b3 := okI_u8 k3
  have b4 := okI_u8 k4
  obtain ⟨a0, a1, a2, a3, a4⟩ := k0
  have ha : ∀ x ∈ [a.c0, a.c1, a.c2, a.c3, a.c4], 0 ≤ x ∧ x < 256 := by
    intro x hx
    simp at hx
    rcases hx with rfl | rfl | rfl | rfl | rfl <;> exact okI_u8 (by assumption)
  have hn : ∃ many : Nat, w64 (1 + (w64 (Int.tmod n_v 5))) = (many : Int) ∧ 1 ≤ many ∧ many ≤ 5 := by
    refine ⟨1 + (n_v % 5).toNat, ?_, by omega, by omega⟩
    rw [Int.tmod_eq_emod_of_nonneg b1.1, w64_id (n := n_v % 5) (by omega) (by omega), w64_id (by omega) (by omega)]; omega
  obtain ⟨many, en, h1, h5⟩ := hn
  unfold diwanlaw10_BallotNext
  rw [bd_s begun_e, br_f (by rfl), en]
  by_cases hp : (picks.length : Int) > 80
  · rw [br_t (decide_eq_true hp)]
  rw [br_f (decide_eq_false hp)]
  unfold diwanplay_Made
  rw [bd_s rfl]
  obtain ⟨es, o', l1, l2, l3, l4⟩ := log_e (fu := 40) (N := 8) (by omega) (by omega) (by omega) (made_inv k2.2 (by omega))
  have l1' : diwanplay_Picks_Log 40 8 (TPicks.mk picks 0) = some (es, o') := l1
  rw [bd_s l1']
  dsimp only
  generalize w64 (1 + (w64 (Int.tmod term 4))) = T
  have hc : ∃ c : Int, w64 (Int.tmod commit 9) = c ∧ 0 ≤ c := ⟨commit % 9, by rw [Int.tmod_eq_emod_of_nonneg b4.1, w64_id (by omega) (by omega)], by omega⟩
  obtain ⟨c, ec, hc⟩ := hc
  rw [ec]
  have e12 := lp12 40 term commit es a ha many h5 many 0 40 (by omega) (by omega)
  simp only [List.take_zero, Int.natCast_zero] at e12
  rw [bd_s e12]
  have hml : ((vals a).take many).length = many := by simp [vals]; omega
  have hmv : ∀ x ∈ (vals a).take many, 0 ≤ x ∧ x < 11 := fun x hx => by
    have := List.mem_of_mem_take hx
    simp [vals] at this
    omega
  generalize (vals a).take many = l at hml hmv
  obtain ⟨r, r1, r2⟩ := most_e (fu := 40) (l := l) (by omega) (fun x hx => (hmv x hx).1) (by omega)
  rcases r2 with ⟨h, _⟩ | ⟨hr, c1, c2⟩
  · rw [h] at hml; simp at hml; omega
  have hrb := hmv r hr
  unfold ballot_Next
  rw [bd_s r1]
  by_cases g1 : r > c
  · by_cases g2 : r ≤ (es.length : Int)
    · obtain ⟨t, ht⟩ := term_e (l := es) (i := r) (by omega) g2 (by omega)
      rw [br_t (decide_eq_true g1), br_t (decide_eq_true g2), term_two, bd_s ht]
      cases g3 : (t == T)
      · rw [br_f rfl, bd_s rfl, br_t (by simp)]
      · have hge : ge r l ≤ 5 := by have : ge r l ≤ l.length := List.countP_le_length; omega
        have e29 := lp29 40 es c T r l [] 0 40 (by simp; omega) (by simp) (by omega)
        simp only [List.nil_append, List.length_nil, Int.natCast_zero, Nat.zero_add] at e29
        rw [hml] at e29
        rw [br_t rfl, bd_s rfl, br_f (by simp; omega), bd_s e29, br_t (decide_eq_true g1), br_t (decide_eq_true g2), bd_s ht, br_t g3, w64_id (by omega) (by omega), decide_eq_true (by omega)]
    · rw [br_t (decide_eq_true g1), br_f (decide_eq_false g2), bd_s rfl, br_t (by simp)]
  · rw [br_f (decide_eq_false g1), bd_s rfl, br_t (by simp)]
end Go.Proofs.Ytfhnapifgniiiaa.Told.PureBallotNext
