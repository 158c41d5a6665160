/- Shards that are the same, by the reference: equal ones. -/
import Derived.Test.YthjpcfbfiaenaaaFitSaveUnlike
import Derived.Test.YthjpcfbfiaenaaaTMath
import Derived.Test.YthjpcfbfiaenaaaTStore1
namespace Go.Proofs.Ythjpcfbfiaenaaa.Told.SV
open Go Go.Proofs.Ythjpcfbfiaenaaa.Vam Go.Proofs.Ythjpcfbfiaenaaa.Told Go.Proofs.Ythjpcfbfiaenaaa.Told.CF Go.Proofs.Ythjpcfbfiaenaaa.Told.ST
set_option linter.unusedSimpArgs false
set_option linter.unusedVariables false
theorem inr_ne {P : Prop} (h : (.inr () : Unit ⊕ Unit) = .inl ()) : P := by cases h
theorem cons_ne {α : Type} {x y : α} {r t : List α} (h : x ≠ y) (e : x :: r = y :: t) : False := h (List.cons.inj e).1
theorem cons_iff {α : Type} {x y : α} {r t : List α} (h : x = y) : (x :: r = y :: t) ↔ r = t := by subst h; simp
theorem sint_lp (fu : Nat) : ∀ (r t q p : List Int) (n : Nat), q.length = p.length → r.length = t.length → (q ++ r).length ≤ 1000000 → r.length < n → ∃ o, diwanref13_SameInts.lp6 fu (q ++ r) (p ++ t) n (q.length : Int) = some o ∧ (o = .inl () ↔ r = t)
 | [], t, q, p, n, hq, hr, hl, hn => by
  obtain ⟨n, rfl⟩ : ∃ m, n = m + 1 := ⟨n - 1, by omega⟩
  have ht : t = [] := List.length_eq_zero_iff.1 hr.symm
  subst ht
  rw [diwanref13_SameInts.lp6, br_f (decide_eq_false (by simp))]
  exact ⟨_, rfl, by simp⟩
 | x :: r, t, q, p, n, hq, hr, hl, hn => by
  obtain ⟨n, rfl⟩ : ∃ m, n = m + 1 := ⟨n - 1, by omega⟩
  obtain ⟨y, t, rfl⟩ : ∃ u t', t = u :: t' := by cases t with
   | nil => simp at hr
   | cons u t => exact ⟨u, t, rfl⟩
  obtain ⟨o, g1, g2⟩ := sint_lp fu r t (q ++ [x]) (p ++ [y]) n (by simp [hq]) (by simpa using hr) (by simpa using hl) (by simp at hn; omega)
  have e1 : q ++ x :: r = (q ++ [x]) ++ r := by simp
  have e2 : p ++ y :: t = (p ++ [y]) ++ t := by simp
  rw [← e1, ← e2] at g1
  rw [diwanref13_SameInts.lp6, br_t (lt_mid _ _ _), ix_mid, hq, ix_mid, ← hq, w64_len q r x (by omega), g1]
  by_cases h : x = y
  ·rw [br_f (by simp [h])]
   exact ⟨o, rfl, by rw [cons_iff h]; exact g2⟩
  ·rw [br_t (by simpa using h)]
   exact ⟨_, rfl, inr_ne, fun e => (cons_ne h e).elim⟩
theorem sint_e {fu : Nat} {a b : List Int} (hl : a.length ≤ 1000000) (hf : a.length < fu) : ∃ c, diwanref13_SameInts fu a b = some c ∧ (c = true ↔ a = b) := by
 unfold diwanref13_SameInts
 by_cases h : a.length = b.length
 ·obtain ⟨o, g1, g2⟩ := sint_lp fu a b [] [] fu rfl h hl hf
  simp only [List.nil_append, List.length_nil, Int.natCast_zero] at g1
  rw [br_f (by simp [h]), bd_s g1]
  cases o with
  | inl u => exact ⟨true, rfl, by simpa using g2⟩
  | inr u => exact ⟨false, rfl, by simpa using g2⟩
 ·rw [br_t (by simp; omega)]
  exact ⟨false, rfl, fun e => (by cases e), fun e => (h (by rw [e])).elim⟩
theorem eq_beq {b : Bool} {P : Prop} (h : b = true ↔ P) : (P → (!b) = false) ∧ (¬ P → (!b) = true) := by
 cases b
 ·exact ⟨fun p => (by have := h.2 p; cases this), fun _ => rfl⟩
 ·exact ⟨fun _ => rfl, fun p => (p (h.1 rfl)).elim⟩
theorem ba_eq {x y : ByteArray} : (x.toList == y.toList) = true ↔ x = y := by
 have := @beq_baf x y
 cases h : (x.toList == y.toList)
 ·exact ⟨fun e => (by cases e), fun e => ((this.1 h) e).elim⟩
 ·refine ⟨fun _ => ?_, fun _ => rfl⟩
  by_cases e : x = y
  ·exact e
  ·rw [this.2 e] at h; cases h
theorem se_eq (x y : TSeat) : ((x.Session == y.Session) && ((x.Seq == y.Seq) && ((x.Pos == y.Pos) && true))) = true ↔ x = y := by
 cases x; cases y
 simp
theorem ve_eq (x y : TVersion) : ((x.Pos == y.Pos) && ((x.Val.toList == y.Val.toList) && ((x.Gone == y.Gone) && true))) = true ↔ x = y := by
 obtain ⟨p, v, g⟩ := x
 obtain ⟨p', v', g'⟩ := y
 simp only [Bool.and_eq_true, ba_eq, Bool.and_true]
 simp
theorem sse_lp (fu : Nat) : ∀ (r t q p : List TSeat) (n : Nat), q.length = p.length → r.length = t.length → (q ++ r).length ≤ 1000000 → r.length < n → ∃ o, diwanref13_SameSeats.lp6 fu (q ++ r) (p ++ t) n (q.length : Int) = some o ∧ (o = .inl () ↔ r = t)
 | [], t, q, p, n, hq, hr, hl, hn => by
  obtain ⟨n, rfl⟩ : ∃ m, n = m + 1 := ⟨n - 1, by omega⟩
  have ht : t = [] := List.length_eq_zero_iff.1 hr.symm
  subst ht
  rw [diwanref13_SameSeats.lp6, br_f (decide_eq_false (by simp))]
  exact ⟨_, rfl, by simp⟩
 | x :: r, t, q, p, n, hq, hr, hl, hn => by
  obtain ⟨n, rfl⟩ : ∃ m, n = m + 1 := ⟨n - 1, by omega⟩
  obtain ⟨y, t, rfl⟩ : ∃ u t', t = u :: t' := by cases t with
   | nil => simp at hr
   | cons u t => exact ⟨u, t, rfl⟩
  obtain ⟨o, g1, g2⟩ := sse_lp fu r t (q ++ [x]) (p ++ [y]) n (by simp [hq]) (by simpa using hr) (by simpa using hl) (by simp at hn; omega)
  have e1 : q ++ x :: r = (q ++ [x]) ++ r := by simp
  have e2 : p ++ y :: t = (p ++ [y]) ++ t := by simp
  rw [← e1, ← e2] at g1
  rw [diwanref13_SameSeats.lp6, br_t (lt_mid _ _ _), ix_mid, hq, ix_mid, ← hq, w64_len q r x (by omega), g1]
  by_cases h : x = y
  ·rw [br_f ((eq_beq (se_eq x y)).1 h)]
   exact ⟨o, rfl, by rw [cons_iff h]; exact g2⟩
  ·rw [br_t ((eq_beq (se_eq x y)).2 h)]
   exact ⟨_, rfl, inr_ne, fun e => (cons_ne h e).elim⟩
theorem sse_e {fu : Nat} {a b : List TSeat} (hl : a.length ≤ 1000000) (hf : a.length < fu) : ∃ c, diwanref13_SameSeats fu a b = some c ∧ (c = true ↔ a = b) := by
 unfold diwanref13_SameSeats
 by_cases h : a.length = b.length
 ·obtain ⟨o, g1, g2⟩ := sse_lp fu a b [] [] fu rfl h hl hf
  simp only [List.nil_append, List.length_nil, Int.natCast_zero] at g1
  rw [br_f (by simp [h]), bd_s g1]
  cases o with
  | inl u => exact ⟨true, rfl, by simpa using g2⟩
  | inr u => exact ⟨false, rfl, by simpa using g2⟩
 ·rw [br_t (by simp; omega)]
  exact ⟨false, rfl, fun e => (by cases e), fun e => (h (by rw [e])).elim⟩
theorem sve_lp (fu : Nat) : ∀ (r t q p : List TVersion) (n : Nat), q.length = p.length → r.length = t.length → (q ++ r).length ≤ 1000000 → r.length < n → ∃ o, diwanref13_SameChain.lp6 fu (q ++ r) (p ++ t) n (q.length : Int) = some o ∧ (o = .inl () ↔ r = t)
 | [], t, q, p, n, hq, hr, hl, hn => by
  obtain ⟨n, rfl⟩ : ∃ m, n = m + 1 := ⟨n - 1, by omega⟩
  have ht : t = [] := List.length_eq_zero_iff.1 hr.symm
  subst ht
  rw [diwanref13_SameChain.lp6, br_f (decide_eq_false (by simp))]
  exact ⟨_, rfl, by simp⟩
 | x :: r, t, q, p, n, hq, hr, hl, hn => by
  obtain ⟨n, rfl⟩ : ∃ m, n = m + 1 := ⟨n - 1, by omega⟩
  obtain ⟨y, t, rfl⟩ : ∃ u t', t = u :: t' := by cases t with
   | nil => simp at hr
   | cons u t => exact ⟨u, t, rfl⟩
  obtain ⟨o, g1, g2⟩ := sve_lp fu r t (q ++ [x]) (p ++ [y]) n (by simp [hq]) (by simpa using hr) (by simpa using hl) (by simp at hn; omega)
  have e1 : q ++ x :: r = (q ++ [x]) ++ r := by simp
  have e2 : p ++ y :: t = (p ++ [y]) ++ t := by simp
  rw [← e1, ← e2] at g1
  rw [diwanref13_SameChain.lp6, br_t (lt_mid _ _ _), ix_mid, hq, ix_mid, ← hq, w64_len q r x (by omega), g1]
  by_cases h : x = y
  ·rw [br_f ((eq_beq (ve_eq x y)).1 h)]
   exact ⟨o, rfl, by rw [cons_iff h]; exact g2⟩
  ·rw [br_t ((eq_beq (ve_eq x y)).2 h)]
   exact ⟨_, rfl, inr_ne, fun e => (cons_ne h e).elim⟩
theorem sve_e {fu : Nat} {a b : List TVersion} (hl : a.length ≤ 1000000) (hf : a.length < fu) : ∃ c, diwanref13_SameChain fu a b = some c ∧ (c = true ↔ a = b) := by
 unfold diwanref13_SameChain
 by_cases h : a.length = b.length
 ·obtain ⟨o, g1, g2⟩ := sve_lp fu a b [] [] fu rfl h hl hf
  simp only [List.nil_append, List.length_nil, Int.natCast_zero] at g1
  rw [br_f (by simp [h]), bd_s g1]
  cases o with
  | inl u => exact ⟨true, rfl, by simpa using g2⟩
  | inr u => exact ⟨false, rfl, by simpa using g2⟩
 ·rw [br_t (by simp; omega)]
  exact ⟨false, rfl, fun e => (by cases e), fun e => (h (by rw [e])).elim⟩
theorem chain_ext {x y : TChain} (h : x.Key = y.Key) (g : x.L = y.L) : x = y := by cases x; cases y; cases h; cases g; rfl
theorem sst_lp (fu N : Nat) (hN : N < fu) (hN' : N ≤ 1000000) (M M' : Int) : ∀ (r t q p : List TChain) (n : Nat), q.length = p.length → r.length = t.length → (q ++ r).length ≤ 1000000 → (∀ c ∈ r, c.L.length ≤ N) → r.length < n → ∃ o, diwanref13_SameStore.lp7 fu (TStore.mk (q ++ r) M) (TStore.mk (p ++ t) M') n (q.length : Int) = some o ∧ (o = .inl () ↔ r = t)
 | [], t, q, p, n, hq, hr, hl, hc, hn => by
  obtain ⟨n, rfl⟩ : ∃ m, n = m + 1 := ⟨n - 1, by omega⟩
  have ht : t = [] := List.length_eq_zero_iff.1 hr.symm
  subst ht
  rw [diwanref13_SameStore.lp7, br_f (decide_eq_false (by simp))]
  exact ⟨_, rfl, by simp⟩
 | x :: r, t, q, p, n, hq, hr, hl, hc, hn => by
  obtain ⟨n, rfl⟩ : ∃ m, n = m + 1 := ⟨n - 1, by omega⟩
  obtain ⟨y, t, rfl⟩ : ∃ u t', t = u :: t' := by cases t with
   | nil => simp at hr
   | cons u t => exact ⟨u, t, rfl⟩
  obtain ⟨o, g1, g2⟩ := sst_lp fu N hN hN' M M' r t (q ++ [x]) (p ++ [y]) n (by simp [hq]) (by simpa using hr) (by simpa using hl) (fun c h => hc c (by simp [h])) (by simp at hn; omega)
  have e1 : q ++ x :: r = (q ++ [x]) ++ r := by simp
  have e2 : p ++ y :: t = (p ++ [y]) ++ t := by simp
  rw [← e1, ← e2] at g1
  have hx : (q ++ x :: r)[q.length]? = some x := get_mid q r x
  have hy : (p ++ y :: t)[q.length]? = some y := by rw [hq]; exact get_mid p t y
  have hxl := hc x (by simp)
  rw [diwanref13_SameStore.lp7]
  dsimp only
  rw [br_t (lt_mid _ _ _), ix_n hx, ix_n hy, w64_len q r x (by omega), g1]
  by_cases h : x.Key = y.Key
  ·obtain ⟨b, k1, k2⟩ := sve_e (fu := fu) (a := x.L) (b := y.L) (by omega) (by omega)
   rw [br_f ((eq_beq ba_eq).1 h), ix_n hx, ix_n hy, bd_s k1]
   by_cases h2 : x.L = y.L
   ·rw [br_f ((eq_beq k2).1 h2)]
    exact ⟨o, rfl, by rw [cons_iff (chain_ext h h2)]; exact g2⟩
   ·rw [br_t ((eq_beq k2).2 h2)]
    exact ⟨_, rfl, inr_ne, fun e => (cons_ne (fun e' => h2 (by rw [e'])) e).elim⟩
  ·rw [br_t ((eq_beq ba_eq).2 h)]
   exact ⟨_, rfl, inr_ne, fun e => (cons_ne (fun e' => h (by rw [e'])) e).elim⟩
theorem sst_e {fu N : Nat} {a b : TStore} (hm : Sml N a.Chains) (hN : N < fu) (hN' : N ≤ 1000000) : ∃ c, diwanref13_SameStore fu a b = some c ∧ (c = true ↔ a = b) := by
 unfold diwanref13_SameStore
 obtain ⟨A, M⟩ := a
 obtain ⟨B, M'⟩ := b
 dsimp only at hm ⊢
 by_cases hM : M = M'
 ·rw [br_f (b := M != M') (by simp [hM])]
  by_cases h : A.length = B.length
  ·obtain ⟨o, g1, g2⟩ := sst_lp fu N hN hN' M M' A B [] [] fu rfl h (by have := hm.1; simp; omega) hm.2 (by have := hm.1; omega)
   simp only [List.nil_append, List.length_nil, Int.natCast_zero] at g1
   rw [br_f (by simp [h]), bd_s g1]
   cases o with
   | inl u => exact ⟨true, rfl, by simpa [hM] using g2⟩
   | inr u => exact ⟨false, rfl, by simpa [hM] using g2⟩
  ·rw [br_t (by simp; omega)]
   exact ⟨false, rfl, fun e => (by cases e), fun e => (h (by rw [(TStore.mk.inj e).1])).elim⟩
 ·rw [br_t (b := M != M') (by simpa using hM)]
  exact ⟨false, rfl, fun e => (by cases e), fun e => (hM (TStore.mk.inj e).2).elim⟩
theorem same_e {fu N : Nat} {a b : TShard} (hm : Sml N a.S.Chains) (hN : N < fu) (hN' : N ≤ 1000000) (hse : a.Seats.length ≤ 1000000 ∧ a.Seats.length < fu) (hb : a.Bits.length ≤ 1000000 ∧ a.Bits.length < fu) (hs : a.Said.length ≤ 1000000 ∧ a.Said.length < fu) : ∃ c, diwanref13_SameShard fu a b = some c ∧ (c = true ↔ a = b) := by
 unfold diwanref13_SameShard
 obtain ⟨c1, f1, f1'⟩ := sst_e (b := b.S) hm hN hN'
 obtain ⟨c2, f2, f2'⟩ := sse_e (fu := fu) (a := a.Seats) (b := b.Seats) hse.1 hse.2
 obtain ⟨c3, f3, f3'⟩ := sint_e (fu := fu) (a := a.Bits) (b := b.Bits) hb.1 hb.2
 obtain ⟨c4, f4, f4'⟩ := sint_e (fu := fu) (a := a.Said) (b := b.Said) hs.1 hs.2
 obtain ⟨i, n, d, S, se, bi, sa⟩ := a
 obtain ⟨i', n', d', S', se', bi', sa'⟩ := b
 dsimp only at *
 simp only [TShard.mk.injEq]
 have no : ∀ {Q : Prop}, ¬ Q → (false = true ↔ Q) := fun h => ⟨fun e => (by cases e), fun e => (h e).elim⟩
 by_cases h1 : ¬ i = i'
 ·rw [br_f (by simpa using h1)]; exact ⟨false, rfl, no fun e => h1 e.1⟩
 have h1 := Decidable.not_not.1 h1
 rw [br_t (by simpa using h1)]
 by_cases h2 : ¬ n = n'
 ·rw [br_f (by simpa using h2)]; exact ⟨false, rfl, no fun e => h2 e.2.1⟩
 have h2 := Decidable.not_not.1 h2
 rw [br_t (by simpa using h2)]
 by_cases h3 : ¬ d = d'
 ·rw [br_f (by simpa using h3)]; exact ⟨false, rfl, no fun e => h3 e.2.2.1⟩
 have h3 := Decidable.not_not.1 h3
 rw [br_t (by simpa using h3), bd_s f1]
 cases c1
 ·exact ⟨false, rfl, no fun e => by have := f1'.2 e.2.2.2.1; cases this⟩
 rw [br_t rfl, bd_s f2]
 cases c2
 ·exact ⟨false, rfl, no fun e => by have := f2'.2 e.2.2.2.2.1; cases this⟩
 rw [br_t rfl, bd_s f3]
 cases c3
 ·exact ⟨false, rfl, no fun e => by have := f3'.2 e.2.2.2.2.2.1; cases this⟩
 rw [br_t rfl, bd_s f4]
 cases c4
 ·exact ⟨false, rfl, no fun e => by have := f4'.2 e.2.2.2.2.2.2; cases this⟩
 ·exact ⟨true, rfl, fun _ => ⟨h1, h2, h3, f1'.1 rfl, f2'.1 rfl, f3'.1 rfl, f4'.1 rfl⟩, fun _ => rfl⟩
end Go.Proofs.Ythjpcfbfiaenaaa.Told.SV
