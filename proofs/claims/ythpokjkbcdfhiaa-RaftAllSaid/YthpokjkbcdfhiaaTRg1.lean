/- What the document's functions on logs and numbers come to. -/
import Derived.Test.YthpokjkbcdfhiaaTRf6
namespace Go.Proofs.Ythpokjkbcdfhiaa.Told.RA
open Go Go.Proofs.Ythpokjkbcdfhiaa.Vam Go.Proofs.Ythpokjkbcdfhiaa.Told Go.Proofs.Ythpokjkbcdfhiaa.Told.HP
set_option linter.unusedSimpArgs false
set_option linter.unusedVariables false
theorem rmajN_e {n : Nat} (h : n ≤ 1000000) : diwanref1_Majority (n : Int) = some ((n / 2 + 1 : Nat) : Int) := by
 unfold diwanref1_Majority
 rw [Int.tdiv_eq_ediv_of_nonneg (by omega), w64_id (n := (n : Int) / 2) (by omega) (by omega), w64_id (by omega) (by omega)]
 congr 1
theorem rm_lp9 (fu : Nat) (c : Int) (i : Nat) (x : Int) (L : List Int) (hx : L[i]? = some x) : ∀ (r q : List Int) (a n : Nat), L = q ++ r → L.length ≤ 1000 → a ≤ q.length → r.length < n →
  diwanref1_Most.lp9 fu L c (i : Int) n (a : Int) (q.length : Int) = some ((a + ge x r : Nat) : Int)
 | [], q, a, n, hL, hl, ha, hn => by
  obtain ⟨n, rfl⟩ : ∃ m, n = m + 1 := ⟨n - 1, by omega⟩
  rw [diwanref1_Most.lp9, br_f (decide_eq_false (by rw [hL]; simp))]; rfl
 | v :: r, q, a, n, hL, hl, ha, hn => by
  obtain ⟨n, rfl⟩ : ∃ m, n = m + 1 := ⟨n - 1, by omega⟩
  have hlen : L.length = q.length + 1 + r.length := by rw [hL]; simp; omega
  have hv : L[q.length]? = some v := by rw [hL]; simp
  have ih := fun a h1 => rm_lp9 fu c i x L hx r (q ++ [v]) a n (by rw [hL]; simp) hl h1 (by simp at hn; omega)
  have wa : w64 ((a : Int) + 1) = ((a + 1 : Nat) : Int) := by rw [w64_id (by omega) (by omega)]; omega
  have wq : w64 ((q.length : Int) + 1) = ((q ++ [v]).length : Int) := by rw [w64_id (by omega) (by omega)]; simp
  rw [diwanref1_Most.lp9, br_t (decide_eq_true (by omega)), ix_n hv, ix_n hx, wa, wq, ih a (by simp; omega), ih (a + 1) (by simp; omega)]
  simp only [ge, List.countP_cons]
  by_cases h1 : x ≤ v
  ·rw [br_t (decide_eq_true h1), if_pos (by simpa using h1)]
   congr 1; omega
  ·rw [br_f (decide_eq_false h1), if_neg (by simpa using h1)]; rfl
theorem rm_lp4 (fu : Nat) (L : List Int) (hl : L.length ≤ 1000) (hf : L.length + 1 < fu) : ∀ (r q : List Int) (acc : Int) (n : Nat), L = q ++ r → r.length < n →
  0 ≤ acc → (∀ x ∈ q, L.length / 2 + 1 ≤ ge x L → x ≤ acc) → (acc = 0 ∨ (acc ∈ q ∧ L.length / 2 + 1 ≤ ge acc L)) →
  ∃ o, diwanref1_Most.lp4 fu L n acc (q.length : Int) = some o ∧ 0 ≤ o ∧ (∀ x ∈ L, L.length / 2 + 1 ≤ ge x L → x ≤ o) ∧ (o = 0 ∨ (o ∈ L ∧ L.length / 2 + 1 ≤ ge o L))
 | [], q, acc, n, hL, hn, h1, h2, h3 => by
  obtain ⟨n, rfl⟩ : ∃ m, n = m + 1 := ⟨n - 1, by omega⟩
  have hq : L = q := by rw [hL]; simp
  rw [diwanref1_Most.lp4, br_f (decide_eq_false (by rw [hq]; omega))]
  rw [← hq] at h2 h3
  exact ⟨acc, rfl, h1, h2, h3⟩
 | v :: r, q, acc, n, hL, hn, h1, h2, h3 => by
  obtain ⟨n, rfl⟩ : ∃ m, n = m + 1 := ⟨n - 1, by omega⟩
  have hlen : L.length = q.length + 1 + r.length := by rw [hL]; simp; omega
  have hv : L[q.length]? = some v := by rw [hL]; simp
  have e9 := rm_lp9 fu acc q.length v L hv L [] 0 fu rfl hl (Nat.le_refl _) (by omega)
  simp only [List.length_nil, Int.natCast_zero, Nat.zero_add] at e9
  have wq : w64 ((q.length : Int) + 1) = ((q ++ [v]).length : Int) := by rw [w64_id (by omega) (by omega)]; simp
  have ih := fun acc k1 k2 k3 => rm_lp4 fu L hl hf r (q ++ [v]) acc n (by rw [hL]; simp) (by simp at hn; omega) k1 k2 k3
  rw [diwanref1_Most.lp4, br_t (decide_eq_true (by omega)), bd_s e9, bd_s (rmajN_e (by omega)), ix_n hv, wq]
  by_cases hge : L.length / 2 + 1 ≤ ge v L
  ·rw [br_t (decide_eq_true (by omega))]
   refine ih _ (by split <;> omega) (fun x hx hxg => ?_) ?_
   ·rcases List.mem_append.1 hx with g | g
    ·have := h2 x g hxg; split <;> omega
    ·simp at g; subst g; split <;> omega
   ·by_cases hav : acc < v
    ·rw [if_pos hav]; exact .inr ⟨by simp, hge⟩
    ·rw [if_neg hav]
     rcases h3 with h | ⟨g1, g2⟩
     ·exact .inl h
     ·exact .inr ⟨by simp [g1], g2⟩
  ·rw [br_f (decide_eq_false (by omega))]
   refine ih acc h1 (fun x hx hxg => ?_) ?_
   ·rcases List.mem_append.1 hx with g | g
    ·exact h2 x g hxg
    ·simp at g; subst g; exact absurd hxg hge
   ·rcases h3 with h | ⟨g1, g2⟩
    ·exact .inl h
    ·exact .inr ⟨by simp [g1], g2⟩
theorem rmost_e {fu : Nat} {l : List Int} (hl : l.length ≤ 1000) (h0 : ∀ x ∈ l, 0 ≤ x) (hf : l.length + 1 < fu) : ∃ r, ballot_Most fu l = some r ∧ diwanref1_Most fu l = some r ∧ 0 ≤ r := by
 obtain ⟨r, r1, r2⟩ := most_e (fu := fu) (l := l) (by omega) h0 hf
 obtain ⟨o, o1, o2, o3, o4⟩ := rm_lp4 fu l hl hf l [] 0 fu rfl (by omega) (Int.le_refl _) (by simp) (.inl rfl)
 simp only [List.length_nil, Int.natCast_zero] at o1
 have ho : diwanref1_Most fu l = some o := by unfold diwanref1_Most; rw [bd_s o1]
 have : o = r := by
  rcases r2 with ⟨h, h'⟩ | ⟨g1, g2, g3⟩
  ·subst h
   rcases o4 with h | ⟨h, _⟩
   ·omega
   ·simp at h
  ·have a1 := o3 r g1 g2
   rcases o4 with h | ⟨h, h'⟩
   ·have := h0 r g1; omega
   ·rcases Int.lt_or_le r o with hlt | hle
    ·have := ge_le_mo hlt l; omega
    ·omega
 exact ⟨r, r1, by rw [ho, this], by omega⟩
theorem rterm_e {l : List TEntry} {i : Int} (hl : l.length ≤ 1000000) (hi : -4611686018427387904 ≤ i) (hi' : i ≤ 4611686018427387904) : diwanref1_Term l i = some (termAt l i) := by
 unfold diwanref1_Term termAt
 by_cases h1 : i < 1
 ·rw [br_t (decide_eq_true h1), if_neg (by omega)]
 rw [br_f (decide_eq_false h1), if_pos (by omega)]
 by_cases h2 : i > (l.length : Int)
 ·rw [br_t (decide_eq_true h2), List.getElem?_eq_none (by omega)]
 ·have hx : l[(i - 1).toNat]? = some l[(i - 1).toNat] := List.getElem?_eq_getElem (by omega)
  rw [br_f (decide_eq_false h2), w64_id (by omega) (by omega), ix_s (by omega) hx, hx]
theorem rhalf_e {n : Int} (h0 : 0 ≤ n) (h1 : n ≤ 1000000) : diwanref1_Majority n = some (n / 2 + 1) := by
 unfold diwanref1_Majority
 rw [Int.tdiv_eq_ediv_of_nonneg h0, w64_id (n := n / 2) (by omega) (by omega), w64_id (by omega) (by omega)]
theorem rmostF_e {fu : Nat} {l : List Int} (hl : l.length ≤ 900) (h0 : ∀ x ∈ l, 0 ≤ x) (hf : l.length + 1 < fu) : diwanref1_Most fu l = some (mostF l) := by
 obtain ⟨r, r1, r2, _⟩ := rmost_e (fu := fu) (by omega) h0 hf
 obtain ⟨s1, _⟩ := most_f (fu := fu) hl h0 hf
 rw [s1] at r1
 rw [r2, ← r1]
theorem rnext_e {fu : Nat} {m : List Int} {l : List TEntry} {term commit : Int} (hl : l.length ≤ 1000000) (hm : m.length ≤ 900) (h0 : ∀ x ∈ m, 0 ≤ x) (hf : m.length + 1 < fu) : diwanref1_Next fu m l term commit = some (nextC m l term commit) := by
 unfold diwanref1_Next nextC
 obtain ⟨_, h2⟩ := most_f (fu := fu) hm h0 hf
 have hpos : 0 ≤ mostF m := by
  rcases h2 with ⟨_, h⟩ | ⟨h, _⟩
  ·omega
  ·exact h0 _ h
 rw [bd_s (rmostF_e hm h0 hf)]
 by_cases c1 : mostF m > commit
 ·rw [br_t (decide_eq_true c1)]
  by_cases c2 : mostF m ≤ (l.length : Int)
  ·rw [br_t (decide_eq_true c2), bd_s (rterm_e hl (by omega) (by omega))]
   by_cases c3 : termAt l (mostF m) = term
   ·rw [br_t (by simpa using c3), if_pos ⟨c1, c2, c3⟩]
   ·rw [br_f (by simpa using c3), if_neg (fun g => c3 g.2.2)]
  ·rw [br_f (decide_eq_false c2), if_neg (fun g => c2 g.2.1)]
 ·rw [br_f (decide_eq_false c1), if_neg (fun g => c1 g.1)]
theorem rmany_lp (fu : Nat) : ∀ (r q : List Bool) (c n : Nat), (q ++ r).length ≤ 1000000 → c ≤ q.length → r.length < n → diwanref1_Many.lp4 fu (q ++ r) n (c : Int) (q.length : Int) = some ((c + cntT r : Nat) : Int)
 | [], q, c, n, hl, hc, hn => by
  obtain ⟨n, rfl⟩ : ∃ m, n = m + 1 := ⟨n - 1, by omega⟩
  simp only [List.append_nil]
  rw [diwanref1_Many.lp4, br_f (nlt_end _)]; simp [cntT]
 | v :: r, q, c, n, hl, hc, hn => by
  obtain ⟨n, rfl⟩ : ∃ m, n = m + 1 := ⟨n - 1, by omega⟩
  have e : q ++ v :: r = (q ++ [v]) ++ r := by simp
  have hl' : q.length + 1 + r.length ≤ 1000000 := by simp at hl; omega
  have ih := fun c h => rmany_lp fu r (q ++ [v]) c n (by rw [← e]; exact hl) h (by simp at hn; omega)
  rw [← e] at ih
  rw [diwanref1_Many.lp4, br_t (lt_mid _ _ _), ix_mid, w64_len q r v (by omega), w64_id (n := (c : Int) + 1) (by omega) (by omega), show (c : Int) + 1 = ((c + 1 : Nat) : Int) by omega, ih c (by simp; omega), ih (c + 1) (by simp; omega)]
  cases v
  ·rw [br_f rfl]; simp [cntT]
  ·rw [br_t rfl]; simp [cntT]; omega
theorem rmany_e {fu : Nat} {l : List Bool} (hl : l.length ≤ 1000000) (hf : l.length < fu) : diwanref1_Many fu l = some (cntT l : Int) := by
 have := rmany_lp fu l [] 0 fu (by simpa using hl) (Nat.le_refl _) hf
 simp only [List.nil_append, List.length_nil, Int.natCast_zero] at this
 unfold diwanref1_Many
 rw [bd_s this]; simp
theorem rnewer_e {l : List TEntry} {i t : Int} (hl : l.length ≤ 1000000) : diwanref1_Newer l i t = some (newerB l i t) := by
 unfold diwanref1_Newer newerB
 rw [bd_s (rterm_e hl (by omega) (by omega))]
 cases decide (t > termAt l l.length)
 ·rw [br_f rfl]
  cases (t == termAt l l.length)
  ·rfl
  ·rfl
 ·rfl
theorem rhas_e {l : List TEntry} {i t : Int} (hl : l.length ≤ 1000000) (hi : -4611686018427387904 ≤ i) (hi' : i ≤ 4611686018427387904) : diwanref1_Has l i t = some (hasB l i t) := by
 unfold diwanref1_Has hasB
 by_cases h0 : i = 0
 ·rw [br_t (by simpa using h0), beq_iff_eq.2 h0]; rfl
 rw [br_f (by simpa using h0), beq_eq_false_iff_ne.2 h0]
 by_cases h1 : 1 ≤ i
 ·rw [br_t (decide_eq_true h1), decide_eq_true h1]
  by_cases h2 : i ≤ (l.length : Int)
  ·have hx : l[(i - 1).toNat]? = some l[(i - 1).toNat] := List.getElem?_eq_getElem (by omega)
   rw [br_t (decide_eq_true h2), decide_eq_true h2, w64_id (by omega) (by omega), ix_s (by omega) hx]
   unfold termAt
   rw [if_pos h1, hx]; rfl
  ·rw [br_f (decide_eq_false h2), decide_eq_false h2]; rfl
 ·rw [br_f (decide_eq_false h1), decide_eq_false h1]; rfl
theorem rjoin_lp (fu : Nat) (l M : List TEntry) (i : Nat) (hl : l.length ≤ 100000) (hM : M.length ≤ 100000) (hi : i ≤ l.length) : ∀ (m mq s lp : List TEntry) (n : Nat), M = mq ++ m → l = lp ++ s → lp.length = i + mq.length → m.length < n →
  diwanref1_Join.lp8 fu (i : Int) M l n (mq.length : Int) = some (match jn3 s m with
   | none => .inl ()
   | some t => .inr (lp ++ t))
 | [], mq, s, lp, n, h1, h2, h3, hn => by
  obtain ⟨n, rfl⟩ : ∃ m, n = m + 1 := ⟨n - 1, by omega⟩
  rw [diwanref1_Join.lp8, br_f (decide_eq_false (by rw [h1]; simp))]
  cases s <;> rfl
 | e :: m, mq, s, lp, n, h1, h2, h3, hn => by
  obtain ⟨n, rfl⟩ : ∃ m, n = m + 1 := ⟨n - 1, by omega⟩
  have hlen : M.length = mq.length + 1 + m.length := by rw [h1]; simp; omega
  have hll : l.length = lp.length + s.length := by rw [h2]; simp
  have hx : M[mq.length]? = some e := by rw [h1]; simp
  have wa : w64 ((i : Int) + (mq.length : Int)) = (lp.length : Int) := by rw [w64_id (by omega) (by omega)]; omega
  have ht : List.take lp.length l = lp := by rw [h2]; simp
  have hd : List.drop mq.length M = e :: m := by rw [h1]; simp
  rw [diwanref1_Join.lp8, br_t (decide_eq_true (by omega)), jn_e, wa, Int.toNat_natCast, Int.toNat_natCast, ht, hd]
  have stop : (gd (decide ((0 : Int) ≤ (lp.length : Int) ∧ (lp.length : Int) ≤ (l.length : Int))) <|
   gd (decide (([] : List TEntry).length + lp.length ≤ 4294967296)) <|
   gd (decide ((0 : Int) ≤ (mq.length : Int) ∧ (mq.length : Int) ≤ (M.length : Int))) <|
   gd (decide (lp.length + (e :: m).length ≤ 4294967296)) <|
   some (.inr (lp ++ (e :: m)))) = some (Sum.inr (lp ++ e :: m) : Unit ⊕ List TEntry) := by
   rw [gd_t (decide_eq_true (by omega)), gd_t (decide_eq_true (by simp; omega)), gd_t (decide_eq_true (by omega)), gd_t (decide_eq_true (by simp; omega))]
  rw [stop]
  cases s with
  | nil =>
   have : l.length = lp.length := by simpa using hll
   rw [br_f (decide_eq_false (by omega))]; rfl
  | cons x s =>
   have hy : l[lp.length]? = some x := by rw [h2]; simp
   simp only [List.length_cons] at hll
   rw [br_t (decide_eq_true (by omega)), ix_n hy, ix_n hx]
   by_cases hT : x.Term = e.Term
   ·have ih := rjoin_lp fu l M i hl hM hi m (mq ++ [e]) s (lp ++ [x]) n (by rw [h1]; simp) (by rw [h2]; simp) (by simp; omega) (by simp at hn; omega)
    have wq : w64 ((mq.length : Int) + 1) = ((mq ++ [e]).length : Int) := by rw [w64_id (by omega) (by omega)]; simp
    rw [br_t (by simpa using hT), wq, ih, jn3, if_pos hT]
    cases jn3 s m with
    | none => rfl
    | some t => simp
   ·rw [br_f (by simpa using hT), jn3, if_neg hT]
theorem rjoin_e {fu : Nat} {l M : List TEntry} {i : Int} (hl : l.length ≤ 100000) (hM : M.length ≤ 100000) (hfM : M.length < fu) : diwanref1_Join fu l i M = some (joinF l i M) := by
 unfold diwanref1_Join joinF
 rw [gd_t (decide_eq_true (by simp; omega))]
 by_cases h0 : i < 0
 ·rw [br_t (decide_eq_true h0), if_neg (by omega)]
 rw [br_f (decide_eq_false h0)]
 by_cases h1 : i > (l.length : Int)
 ·rw [br_t (decide_eq_true h1), if_neg (by omega)]
 rw [br_f (decide_eq_false h1), if_pos (by omega)]
 obtain ⟨k, rfl⟩ : ∃ k : Nat, i = (k : Int) := ⟨i.toNat, by omega⟩
 have h7 := rjoin_lp fu l M k hl hM (by omega) M [] (l.drop k) (l.take k) fu rfl (by simp) (by simp; omega) hfM
 simp only [List.length_nil, Int.natCast_zero] at h7
 rw [bd_s h7, Int.toNat_natCast]
 unfold jn2
 cases jn3 (l.drop k) M with
 | none => simp
 | some t => rfl
end Go.Proofs.Ythpokjkbcdfhiaa.Told.RA
