/- The plain law of BallotAll. -/
import Derived.Test.YtfhnapifgniiiaaTMost
import Derived.Test.YtfhnapifgniiiaaTPicks
namespace Go.Proofs.Ytfhnapifgniiiaa.Told.PureBallotAll
open Go Go.Proofs.Ytfhnapifgniiiaa.Vam Go.Proofs.Ytfhnapifgniiiaa.Told Go.Proofs.Ytfhnapifgniiiaa.Told.HP Go.Proofs.Ytfhnapifgniiiaa.Told.PK
set_option linter.unusedSimpArgs false
set_option linter.unusedVariables false
theorem rmajor_e {n : Nat} (h : n ≤ 1000000) : diwanref1_Majority (n : Int) = some ((n / 2 + 1 : Nat) : Int) := by
  unfold diwanref1_Majority
  rw [Int.tdiv_eq_ediv_of_nonneg (by omega), w64_id (n := (n : Int) / 2) (by omega) (by omega), w64_id (by omega) (by omega)]
  congr 1
theorem lp9 (fu : Nat) (c : Int) (i : Nat) (x : Int) (L : List Int) (hx : L[i]? = some x) : ∀ (r q : List Int) (a n : Nat), L = q ++ r → L.length ≤ 1000 → a ≤ q.length → r.length < n →
    diwanref1_Most.lp9 fu L c (i : Int) n (a : Int) (q.length : Int) = some ((a + ge x r : Nat) : Int)
  | [], q, a, n, hL, hl, ha, hn => by
    obtain ⟨n, rfl⟩ : ∃ m, n = m + 1 := ⟨n - 1, by omega⟩
    rw [diwanref1_Most.lp9, br_f (decide_eq_false (by rw [hL]; simp))]; rfl
  | v :: r, q, a, n, hL, hl, ha, hn => by
    obtain ⟨n, rfl⟩ : ∃ m, n = m + 1 := ⟨n - 1, by omega⟩
    have hlen : L.length = q.length + 1 + r.length := by rw [hL]; simp; omega
    have hv : L[q.length]? = some v := by rw [hL]; simp
    have ih := fun a h1 => lp9 fu c i x L hx r (q ++ [v]) a n (by rw [hL]; simp) hl h1 (by simp at hn; omega)
    have wa : w64 ((a : Int) + 1) = ((a + 1 : Nat) : Int) := by rw [w64_id (by omega) (by omega)]; omega
    have wq : w64 ((q.length : Int) + 1) = ((q ++ [v]).length : Int) := by rw [w64_id (by omega) (by omega)]; simp
    rw [diwanref1_Most.lp9, br_t (decide_eq_true (by omega)), ix_n hv, ix_n hx, wa, wq, ih a (by simp; omega), ih (a + 1) (by simp; omega)]
    simp only [ge, List.countP_cons]
    by_cases h1 : x ≤ v
    · rw [br_t (decide_eq_true h1), if_pos (by simpa using h1)]
      congr 1; omega
    · rw [br_f (decide_eq_false h1), if_neg (by simpa using h1)]; rfl
theorem lp4 (fu : Nat) (L : List Int) (hl : L.length ≤ 1000) (hf : L.length + 1 < fu) : ∀ (r q : List Int) (acc : Int) (n : Nat), L = q ++ r → r.length < n →
    0 ≤ acc → (∀ x ∈ q, L.length / 2 + 1 ≤ ge x L → x ≤ acc) → (acc = 0 ∨ (acc ∈ q ∧ L.length / 2 + 1 ≤ ge acc L)) →
    ∃ o, diwanref1_Most.lp4 fu L n acc (q.length : Int) = some o ∧ 0 ≤ o ∧ (∀ x ∈ L, L.length / 2 + 1 ≤ ge x L → x ≤ o) ∧ (o = 0 ∨ (o ∈ L ∧ L.length / 2 + 1 ≤ ge o L))
  | [], q, acc, n, hL, hn, h1, h2, h3 => by
    obtain ⟨n, rfl⟩ : ∃ m, n = m + 1 := ⟨n - 1, by omega⟩
    have hq : L = q := by rw [hL]; simp
    rw [diwanref1_Most.lp4, br_f (decide_eq_false (by rw [hq]; omega))]
    rw [← hq] at h2 h3
    exact ⟨acc, rfl, h1, h2, h3⟩
  | v :: r, q, acc, n, hL, hn, h1, h2, h3 => by
    obtain ⟨n, rfl⟩ : ∃ m, n = m + 1 := ⟨n - 1, by omega⟩
    have hlen : L.length = q.length + 1 + r.length := by rw [hL]; simp; omega
    have hv : L[q.length]? = some v := by rw [hL]; simp
    have e9 := lp9 fu acc q.length v L hv L [] 0 fu rfl hl (Nat.le_refl _) (by omega)
    simp only [List.length_nil, Int.natCast_zero, Nat.zero_add] at e9
    have wq : w64 ((q.length : Int) + 1) = ((q ++ [v]).length : Int) := by rw [w64_id (by omega) (by omega)]; simp
    have ih := fun acc k1 k2 k3 => lp4 fu L hl hf r (q ++ [v]) acc n (by rw [hL]; simp) (by simp at hn; omega) k1 k2 k3
    rw [diwanref1_Most.lp4, br_t (decide_eq_true (by omega)), bd_s e9, bd_s (rmajor_e (by omega)), ix_n hv, wq]
    by_cases hge : L.length / 2 + 1 ≤ ge v L
    · rw [br_t (decide_eq_true (by omega))]
      refine ih _ (by split <;> omega) (fun x hx hxg => ?_) ?_
      · rcases List.mem_append.1 hx with g | g
        · have := h2 x g hxg; split <;> omega
        · simp at g; subst g; split <;> omega
      · by_cases hav : acc < v
        · rw [if_pos hav]; exact .inr ⟨by simp, hge⟩
        · rw [if_neg hav]
          rcases h3 with h | ⟨g1, g2⟩
          · exact .inl h
          · exact .inr ⟨by simp [g1], g2⟩
    · rw [br_f (decide_eq_false (by omega))]
      refine ih acc h1 (fun x hx hxg => ?_) ?_
      · rcases List.mem_append.1 hx with g | g
        · exact h2 x g hxg
        · simp at g; subst g; exact absurd hxg hge
      · rcases h3 with h | ⟨g1, g2⟩
        · exact .inl h
        · exact .inr ⟨by simp [g1], g2⟩
theorem rmost_e {fu : Nat} {l : List Int} (hl : l.length ≤ 1000) (h0 : ∀ x ∈ l, 0 ≤ x) (hf : l.length + 1 < fu) : ∃ r, ballot_Most fu l = some r ∧ diwanref1_Most fu l = some r ∧ 0 ≤ r := by
  obtain ⟨r, r1, r2⟩ := most_e (fu := fu) (l := l) (by omega) h0 hf
  obtain ⟨o, o1, o2, o3, o4⟩ := lp4 fu l hl hf l [] 0 fu rfl (by omega) (Int.le_refl _) (by simp) (.inl rfl)
  simp only [List.length_nil, Int.natCast_zero] at o1
  have ho : diwanref1_Most fu l = some o := by unfold diwanref1_Most; rw [bd_s o1]
  have : o = r := by
    rcases r2 with ⟨h, h'⟩ | ⟨g1, g2, g3⟩
    · subst h
      rcases o4 with h | ⟨h, _⟩
      · omega
      · simp at h
    · have a1 := o3 r g1 g2
      rcases o4 with h | ⟨h, h'⟩
      · have := h0 r g1; omega
      · rcases Int.lt_or_le r o with hlt | hle
        · have := ge_le_mo hlt l; omega
        · omega
  exact ⟨r, r1, by rw [ho, this], by omega⟩
theorem many_lp (fu : Nat) : ∀ (r q : List Bool) (a n : Nat), (q ++ r).length ≤ 1000 → a ≤ q.length → r.length < n →
    ∃ o, ballot_Many.lp3 fu (q ++ r) ((q ++ r).length : Int) n (a : Int) (q.length : Int) = some o ∧ diwanref1_Many.lp4 fu (q ++ r) n (a : Int) (q.length : Int) = some o
  | [], q, a, n, hl, ha, hn => by
    obtain ⟨n, rfl⟩ : ∃ m, n = m + 1 := ⟨n - 1, by omega⟩
    simp only [List.append_nil]
    rw [ballot_Many.lp3, diwanref1_Many.lp4, br_f (nlt_end _), br_f (nlt_end _)]
    exact ⟨_, rfl, rfl⟩
  | v :: r, q, a, n, hl, ha, hn => by
    obtain ⟨n, rfl⟩ : ∃ m, n = m + 1 := ⟨n - 1, by omega⟩
    have e : q ++ v :: r = (q ++ [v]) ++ r := by simp
    have hl' : q.length + 1 + r.length ≤ 1000 := by simp at hl; omega
    have ih := fun a h1 => many_lp fu r (q ++ [v]) a n (by rw [← e]; exact hl) h1 (by simp at hn; omega)
    rw [← e] at ih
    have wa : w64 ((a : Int) + 1) = ((a + 1 : Nat) : Int) := by rw [w64_id (by omega) (by omega)]; omega
    rw [ballot_Many.lp3, diwanref1_Many.lp4, br_t (lt_mid _ _ _), br_t (lt_mid _ _ _), ix_mid, ix_mid, w64_len q r v (by omega), wa]
    cases v
    · rw [br_f rfl, br_f rfl]; exact ih a (by simp; omega)
    · rw [br_t rfl, br_t rfl]; exact ih (a + 1) (by simp; omega)
theorem term_two (l : List TEntry) (i : Int) : ulog_Term l i = diwanref1_Term l i := by
  unfold ulog_Term ulog_entries_term diwanref1_Term
  generalize br (decide (i < 1)) (some 0) (br (decide (i > (l.length : Int))) (some 0) (ix l (w64 (i - 1)) fun x6_1 => some x6_1.Term)) = o
  cases o <;> rfl
theorem term_e {l : List TEntry} {i : Int} (hl : l.length ≤ 1000000) (hi : i ≤ (l.length : Int)) (h0 : 0 ≤ i) : ∃ t, diwanref1_Term l i = some t := by
  unfold diwanref1_Term
  by_cases h : i < 1
  · exact ⟨0, by rw [br_t (decide_eq_true h)]⟩
  · have hx : l[(i - 1).toNat]? = some l[(i - 1).toNat] := List.getElem?_eq_getElem (by omega)
    exact ⟨_, by rw [br_f (decide_eq_false h), br_f (decide_eq_false (by omega)), w64_id (by omega) (by omega), ix_s (by omega) hx]⟩
theorem next_two {fu : Nat} {l : List Int} (hl : l.length ≤ 1000) (h0 : ∀ x ∈ l, 0 ≤ x) (hf : l.length + 1 < fu) (es : List TEntry) (hes : es.length ≤ 1000) (t c : Int) : ∃ o, ballot_Next fu l es t c = some o ∧ diwanref1_Next fu l es t c = some o := by
  obtain ⟨r, r1, r2, r3⟩ := rmost_e hl h0 hf
  unfold ballot_Next diwanref1_Next
  rw [bd_s r1, bd_s r2]
  by_cases g1 : r > c
  · rw [br_t (decide_eq_true g1), br_t (decide_eq_true g1)]
    by_cases g2 : r ≤ (es.length : Int)
    · obtain ⟨u, hu⟩ := term_e (l := es) (i := r) (by omega) g2 r3
      rw [br_t (decide_eq_true g2), br_t (decide_eq_true g2), term_two, bd_s hu]
      cases (u == t)
      · exact ⟨_, rfl, rfl⟩
      · exact ⟨_, rfl, rfl⟩
    · rw [br_f (decide_eq_false g2), br_f (decide_eq_false g2)]; exact ⟨_, rfl, rfl⟩
  · rw [br_f (decide_eq_false g1), br_f (decide_eq_false g1)]; exact ⟨_, rfl, rfl⟩
theorem lp12 (fu : Nat) (x1 : Int) (x2 : List Bool) (x3 : List Int) (x4 x5 : Int) : ∀ (r q out : List Int) (n : Nat), (q ++ r).length ≤ 1000 → (∀ x ∈ r, okI .u8 x) → out.length ≤ q.length → (∀ x ∈ out, 0 ≤ x) → r.length < n →
    ∃ o, diwanlaw10_BallotAll.lp12 fu x1 x2 (q ++ r) x3 x4 x5 n out (q.length : Int) = some o ∧ o.length ≤ (q ++ r).length ∧ ∀ x ∈ o, 0 ≤ x
  | [], q, out, n, hl, hr, ho, h0, hn => by
    obtain ⟨n, rfl⟩ : ∃ m, n = m + 1 := ⟨n - 1, by omega⟩
    simp only [List.append_nil]
    rw [diwanlaw10_BallotAll.lp12, br_f (nlt_end _)]
    exact ⟨_, rfl, ho, h0⟩
  | v :: r, q, out, n, hl, hr, ho, h0, hn => by
    obtain ⟨n, rfl⟩ : ∃ m, n = m + 1 := ⟨n - 1, by omega⟩
    have e : q ++ v :: r = (q ++ [v]) ++ r := by simp
    have hl' : q.length + 1 + r.length ≤ 1000 := by simp at hl; omega
    have hv := okI_u8 (hr v (by simp))
    have hw : w64 (Int.tmod v 12) = v % 12 := by rw [Int.tmod_eq_emod_of_nonneg hv.1, w64_id (by omega) (by omega)]
    obtain ⟨o, h1, h2⟩ := lp12 fu x1 x2 x3 x4 x5 r (q ++ [v]) (out ++ [v % 12]) n (by rw [← e]; exact hl) (fun x hx => hr x (by simp [hx])) (by simp; omega) (fun x hx => by
      rcases List.mem_append.1 hx with g | g
      · exact h0 x g
      · simp at g; omega) (by simp at hn; omega)
    rw [← e] at h1 h2
    rw [diwanlaw10_BallotAll.lp12, br_t (lt_mid _ _ _), ix_mid, hw, gd_t (decide_eq_true (by simp; omega)), w64_len q r v (by omega)]
    exact ⟨o, h1, h2⟩
theorem lp20 (fu : Nat) (x1 : Int) (x2 : List Bool) (x3 x4 : Int) {l : List Int} (hl : l.length ≤ 1000) (h0 : ∀ x ∈ l, 0 ≤ x) (hf : l.length + 1 < fu) (es : List TEntry) (hes : es.length ≤ 1000) : ∀ (d i n : Nat), i + d = 6 → d < n →
    diwanlaw10_BallotAll.lp20 fu x1 x2 x3 x4 l es n (i : Int) = some (.inl ())
  | 0, i, n, hid, hn => by
    obtain ⟨n, rfl⟩ : ∃ m, n = m + 1 := ⟨n - 1, by omega⟩
    rw [diwanlaw10_BallotAll.lp20, br_f (decide_eq_false (by omega))]
  | d + 1, i, n, hid, hn => by
    obtain ⟨n, rfl⟩ : ∃ m, n = m + 1 := ⟨n - 1, by omega⟩
    obtain ⟨o, o1, o2⟩ := next_two (fu := fu) hl h0 hf es hes (i : Int) (w64 (Int.tmod x4 9))
    rw [diwanlaw10_BallotAll.lp20, br_t (decide_eq_true (by omega)), bd_s o1, bd_s o2, br_f (by simp), w64_id (by omega) (by omega), show (i : Int) + 1 = ((i + 1 : Nat) : Int) by omega]
    exact lp20 fu x1 x2 x3 x4 hl h0 hf es hes d (i + 1) n (by omega) (by omega)
theorem begun_e : diwanlaw10_begun 40 = some true := by kernel_rfl
theorem holds (n_v : Int) (votes : List Bool) (m picks : List Int) (term commit : Int) (k0 : okI .u8 n_v) (k1 : okL okB votes) (k2 : okL (okI .u8) m) (k3 : okL (okI .u8) picks) (k4 : okI .u8 term) (k5 : okI .u8 commit) :
    ∃ fu, diwanlaw10_BallotAll fu n_v votes m picks term commit = some true := by
  refine ⟨40, ?_⟩
  unfold diwanlaw10_BallotAll
  rw [bd_s begun_e, br_f (by rfl)]
  by_cases h1 : (votes.length : Int) > 9
  · rw [br_t (decide_eq_true h1)]
  by_cases h2 : (m.length : Int) > 9
  · rw [br_f (decide_eq_false h1), br_t (decide_eq_true h2)]
  by_cases h3 : (picks.length : Int) > 80
  · rw [br_f (decide_eq_false h1), br_f (decide_eq_false h2), br_t (decide_eq_true h3)]
  rw [br_f (decide_eq_false h1), br_f (decide_eq_false h2), br_f (decide_eq_false h3)]
  obtain ⟨l, l1, l2, l3⟩ := lp12 40 n_v votes picks term commit m [] [] 40 (by simp; omega) k2.2 (Nat.le_refl _) (by simp) (by omega)
  simp only [List.nil_append, List.length_nil, Int.natCast_zero] at l1 l2
  unfold diwanplay_Made
  rw [bd_s l1, bd_s rfl]
  obtain ⟨es, o', e1, e2, e3, e4⟩ := log_e (fu := 40) (N := 8) (by omega) (by omega) (by omega) (made_inv k3.2 (by omega))
  have e1' : diwanplay_Picks_Log 40 8 (TPicks.mk picks 0) = some (es, o') := e1
  have e20 := lp20 40 n_v votes term commit (l := l) (by omega) l3 (by omega) es (by omega) 6 0 40 (by omega) (by omega)
  simp only [Int.natCast_zero] at e20
  rw [bd_s e1']
  dsimp only
  rw [bd_s e20]
  dsimp only
  unfold ballot_Majority
  rw [bd_s rfl, br_t (by simp)]
  obtain ⟨o, o1, o2⟩ := many_lp 40 votes [] 0 40 (by simp; omega) (Nat.le_refl _) (by omega)
  simp only [List.nil_append, List.length_nil, Int.natCast_zero] at o1 o2
  unfold ballot_Many diwanref1_Many
  rw [o1, o2, bd_s (o := bd (some o) _) rfl, bd_s (o := bd (some o) _) rfl, br_t (by simp)]
  obtain ⟨r, r1, r2, _⟩ := rmost_e (fu := 40) (l := l) (by omega) l3 (by omega)
  rw [bd_s r1, bd_s r2, br_t (by simp)]
  obtain ⟨x, x1, x2⟩ := next_two (fu := 40) (l := l) (by omega) l3 (by omega) es (by omega) (w64 term) (w64 commit)
  rw [bd_s x1, bd_s x2]
  simp
end Go.Proofs.Ytfhnapifgniiiaa.Told.PureBallotAll
