/- What the logs that are made of numbers are: they come, as long as they are asked for, with terms that rise slowly. -/
import Derived.Test.YtipeiombaempoaaQdiwanplayPicksLog
import Derived.Test.YtipeiombaempoaaQdiwanplayMade
namespace Go.Proofs.Ytipeiombaempoaa.UMath
open Go Go.RowKit Go.Proofs.Ytipeiombaempoaa.Q Go.Proofs.YtipeiombaempoaaW.PrintWords Go.Proofs.YtipeiombaempoaaW.PrintLast Go.Proofs.YtipeiombaempoaaW.PrintMore

theorem wid {x : Int} (h : -9000000000000000000 ≤ x ∧ x ≤ 9000000000000000000) : wrap64 x = x := by
  unfold wrap64; omega
def U (s : List Int) : Prop := ∀ x ∈ s, 0 ≤ x ∧ x < 256
theorem U.at_ {s : List Int} (h : U s) (i : Int) : 0 ≤ rd s i ∧ rd s i < 256 := by
  unfold rd
  rw [List.getD_eq_getElem?_getD]
  cases hx : s[i.toNat]? with
  | none => simp
  | some x => simpa using h x (List.mem_of_getElem? hx)
/-- A cursor in a row. -/
def Cu (s : List Int) (c : Int) : Prop := 0 ≤ c ∧ c ≤ (s.length : Int)
theorem num_ok {s : List Int} {c a : Int} (hs : U s) (hl : s.length ≤ 1000) (hc : Cu s c) (ha : 1 ≤ a ∧ a ≤ 1000) : ∃ v c', diwanplay_Picks_Num.f s c a = some (v, c') ∧ 0 ≤ v ∧ v < a ∧ Cu s c' := by
  unfold diwanplay_Picks_Num.f
  by_cases h : c ≥ (s.length : Int)
  · rw [if_pos h]; exact ⟨0, c, rfl, by omega, by omega, hc⟩
  · rw [if_neg h]
    have h0 := hc.1
    have e1 : wrap64 (c + 1) = c + 1 := wid (by omega)
    have e2 : wrap64 (c + 1 - 1) = c := by rw [wid (by omega)]; omega
    rw [e1, e2, if_pos h0, if_pos (by omega), if_neg (by omega)]
    have hr := hs.at_ c
    have e3 : wrap64 (rd s c) = rd s c := wid (by omega)
    rw [e3]
    refine ⟨_, _, rfl, ?_, ?_, by omega, by omega⟩
    · exact Int.tmod_nonneg _ hr.1
    · exact Int.tmod_lt_of_pos _ (by omega)
theorem val_ok {s : List Int} {c : Int} (hs : U s) (hl : s.length ≤ 1000) (hc : Cu s c) : ∃ v c', diwanplay_Picks_Val.f s c = some (v, c') ∧ Cu s c' := by
  unfold diwanplay_Picks_Val.f
  obtain ⟨v, c', h1, h2, h3, h4⟩ := num_ok (a := 5) hs hl hc (by omega)
  rw [h1]
  simp only [Option.bind_some]
  rw [if_pos h2, if_pos (by simp; omega)]
  exact ⟨_, _, rfl, h4⟩
theorem keysL_ok (x1 : Int) (x7 : List ByteArray) (h7 : x7.length ≤ 1000) (s : List Int) (c : Int) : ∀ (d j k : Nat) (acc : List ByteArray) (x6 : Int), j + d = x7.length → 2 * d + 2 ≤ k → acc.length + d ≤ 1000 →
    ∃ r, diwanplay_Picks_Keys.l0 k x1 acc x6 x7 (j : Int) s c = some (r, c) ∧ r.length ≤ acc.length + d
  | d, j, k, acc, x6, hd, hk, ha => by
    obtain ⟨k, rfl⟩ : ∃ m, k = m + 2 := ⟨k - 2, by omega⟩
    have stop : ∀ (x21 : Bool), x21 = false → ∃ r, diwanplay_Picks_Keys.j1 (k + 1) x1 acc x6 x7 (j : Int) x21 s c = some (r, c) ∧ r.length ≤ acc.length + d := fun x21 e => by
      subst e
      simp only [diwanplay_Picks_Keys.j1, Bool.false_eq_true, if_false]
      exact ⟨acc, rfl, by omega⟩
    unfold diwanplay_Picks_Keys.l0
    by_cases h : (j : Int) < (x7.length : Int)
    · rw [if_pos h]
      cases hb : decide ((acc.length : Int) < x1) with
      | false => exact stop false rfl
      | true =>
        match d, hd, hk, ha with
        | 0, hd, _, _ => omega
        | d + 1, hd, hk, ha =>
          simp only [diwanplay_Picks_Keys.j1, if_true]
          have e : wrap64 ((j : Int) + 1) = ((j + 1 : Nat) : Int) := by rw [wid (by omega)]; omega
          by_cases ho : Int.tmod x6 2 = 1
          · rw [if_pos ho, if_pos (by omega), if_pos h, if_pos (by omega), e]
            obtain ⟨r, h1, h2⟩ := keysL_ok x1 x7 h7 s c d (j + 1) k (acc ++ [rdOf ByteArray.empty x7 (j : Int)]) (wrap64 (Int.tdiv x6 2)) (by omega) (by omega) (by simp; omega)
            exact ⟨r, h1, by simp at h2; omega⟩
          · rw [if_neg ho, e]
            obtain ⟨r, h1, h2⟩ := keysL_ok x1 x7 h7 s c d (j + 1) k acc (wrap64 (Int.tdiv x6 2)) (by omega) (by omega) (by omega)
            exact ⟨r, h1, by omega⟩
    · rw [if_neg h]; exact stop false rfl
theorem keys_ok {s : List Int} {c a : Int} {k : Nat} (hs : U s) (hl : s.length ≤ 1000) (hc : Cu s c) (hk : 20 ≤ k) : ∃ r c', diwanplay_Picks_Keys.f k s c a = some (r, c') ∧ Cu s c' ∧ r.length ≤ 6 := by
  unfold diwanplay_Picks_Keys.f
  obtain ⟨v, c', h1, h2, h3, h4⟩ := num_ok (a := 64) hs hl hc (by omega)
  rw [h1]
  simp only [Option.bind_some, diwanplay_keys.f]
  obtain ⟨r, g1, g2⟩ := keysL_ok a ([(⟨#[97]⟩ : ByteArray), (⟨#[98]⟩ : ByteArray), (⟨#[99]⟩ : ByteArray), (⟨#[100]⟩ : ByteArray), (⟨#[101, 101]⟩ : ByteArray), (⟨#[102, 102]⟩ : ByteArray)]) (by simp) s c' 6 0 k [] v rfl (by omega) (by simp)
  exact ⟨r, c', g1, h4, by simpa using g2⟩
theorem txn1_ok {s : List Int} (hs : U s) (hl : s.length ≤ 1000) (x9 : List ByteArray) (h9 : x9.length ≤ 6) : ∀ (d j k : Nat) (c a b : Int) (A : List S55) (B : List S58), j + d = x9.length → d + 1 ≤ k → Cu s c → B.length + d ≤ 1000 →
    ∃ p q u v c', diwanplay_Picks_Txn.l1 k x9 (j : Int) s c a b A B = some (p, q, u, v, c') ∧ Cu s c' ∧ u.length ≤ A.length ∧ v.length ≤ B.length + d
  | d, j, k, c, a, b, A, B, hd, hk, hc, hB => by
    obtain ⟨k, rfl⟩ : ∃ m, k = m + 1 := ⟨k - 1, by omega⟩
    unfold diwanplay_Picks_Txn.l1
    by_cases h : (j : Int) < (x9.length : Int)
    · rw [if_pos h, if_pos (by omega)]
      obtain ⟨v1, c1, g1, g2⟩ := val_ok hs hl hc
      rw [g1]; simp only [Option.bind_some]
      obtain ⟨v2, c2, g3, _, _, g4⟩ := num_ok (a := 4) hs hl g2 (by omega)
      rw [g3]; simp only [Option.bind_some]
      match d, hd, hk, hB with
      | 0, hd, _, _ => omega
      | d + 1, hd, hk, hB =>
        have e : wrap64 ((j : Int) + 1) = ((j + 1 : Nat) : Int) := by rw [wid (by omega)]; omega
        rw [e]
        by_cases h0 : v2 = 0
        · rw [if_pos h0, if_pos (by omega)]
          obtain ⟨p, q, u, v, c', q1, q2, q3, q4⟩ := txn1_ok hs hl x9 h9 d (j + 1) k c2 a b A (B ++ [_]) (by omega) (by omega) g4 (by simp; omega)
          exact ⟨p, q, u, v, c', q1, q2, q3, by simp at q4; omega⟩
        · rw [if_neg h0, if_pos (by omega)]
          obtain ⟨p, q, u, v, c', q1, q2, q3, q4⟩ := txn1_ok hs hl x9 h9 d (j + 1) k c2 a b A (B ++ [_]) (by omega) (by omega) g4 (by simp; omega)
          exact ⟨p, q, u, v, c', q1, q2, q3, by simp at q4; omega⟩
    · rw [if_neg h]; exact ⟨_, _, _, _, _, rfl, hc, Nat.le_refl _, by omega⟩
theorem txn0_ok {s : List Int} (hs : U s) (hl : s.length ≤ 1000) (x1 : Int) (h1 : 1 ≤ x1 ∧ x1 ≤ 1000) (x6 : List ByteArray) (h6 : x6.length ≤ 6) : ∀ (d j k : Nat) (c a b : Int) (A : List S55), j + d = x6.length → 2 * d + 30 ≤ k → Cu s c → A.length + d ≤ 1000 →
    ∃ p q u v c', diwanplay_Picks_Txn.l0 k x1 x6 (j : Int) s c a b A = some (p, q, u, v, c') ∧ Cu s c' ∧ u.length ≤ A.length + d ∧ v.length ≤ 6
  | d, j, k, c, a, b, A, hd, hk, hc, hA => by
    obtain ⟨k, rfl⟩ : ∃ m, k = m + 2 := ⟨k - 2, by omega⟩
    unfold diwanplay_Picks_Txn.l0
    by_cases h : (j : Int) < (x6.length : Int)
    · rw [if_pos h, if_pos (by omega)]
      have hm : mx x1 1 = x1 := by unfold mx; split <;> omega
      rw [hm]
      obtain ⟨v1, c1, g1, _, _, g2⟩ := num_ok (a := x1) hs hl hc h1
      rw [g1]; simp only [Option.bind_some]
      match d, hd, hk, hA with
      | 0, hd, _, _ => omega
      | d + 1, hd, hk, hA =>
        have e : wrap64 ((j : Int) + 1) = ((j + 1 : Nat) : Int) := by rw [wid (by omega)]; omega
        have go : ∀ (x43 : Bool) (c' : Int) (k0 : ByteArray) (p0 : Int) (v0 : ByteArray) (o0 : Bool), Cu s c' → ∃ p q u v c'', diwanplay_Picks_Txn.j1 (k + 1) x1 x6 (j : Int) x43 s c' a b A k0 p0 v0 o0 = some (p, q, u, v, c'') ∧ Cu s c'' ∧ u.length ≤ A.length + (d + 1) ∧ v.length ≤ 6 := by
          intro x43 c' k0 p0 v0 o0 hc'
          unfold diwanplay_Picks_Txn.j1
          rw [e]
          cases x43 with
          | true =>
            obtain ⟨v3, c3, g5, g6⟩ := val_ok hs hl hc'
            rw [if_pos rfl, g5]; simp only [Option.bind_some]
            rw [if_pos (by omega)]
            obtain ⟨p, q, u, v, c'', q1, q2, q3, q4⟩ := txn0_ok hs hl x1 h1 x6 h6 d (j + 1) k c3 a b (A ++ [_]) (by omega) (by omega) g6 (by simp; omega)
            exact ⟨p, q, u, v, c'', q1, q2, by simp at q3; omega, q4⟩
          | false =>
            rw [if_neg (by simp), if_pos (by omega)]
            obtain ⟨p, q, u, v, c'', q1, q2, q3, q4⟩ := txn0_ok hs hl x1 h1 x6 h6 d (j + 1) k c' a b (A ++ [_]) (by omega) (by omega) hc' (by simp; omega)
            exact ⟨p, q, u, v, c'', q1, q2, by simp at q3; omega, q4⟩
        by_cases hv : v1 > 0
        · rw [if_pos hv]
          obtain ⟨v2, c2, g3, _, _, g4⟩ := num_ok (a := 4) hs hl g2 (by omega)
          rw [g3]; simp only [Option.bind_some]
          exact go _ _ _ _ _ _ g4
        · rw [if_neg hv]
          exact go _ _ _ _ _ _ g2
    · rw [if_neg h]
      obtain ⟨r, c1, g1, g2, g3⟩ := keys_ok (a := 3) (k := k + 1) hs hl hc (by omega)
      rw [g1]; simp only [Option.bind_some]
      obtain ⟨p, q, u, v, c', q1, q2, q3, q4⟩ := txn1_ok hs hl r g3 r.length 0 (k + 1) c1 a b A [] (by omega) (by omega) g2 (by simp; omega)
      exact ⟨p, q, u, v, c', q1, q2, by omega, by simp at q4; omega⟩
theorem txn_ok {s : List Int} (hs : U s) (hl : s.length ≤ 1000) {a : Int} (ha : 1 ≤ a ∧ a ≤ 1000) {c : Int} (hc : Cu s c) {k : Nat} (hk : 60 ≤ k) : ∃ p q u v c', diwanplay_Picks_Txn.f k s c a = some (p, q, u, v, c') ∧ Cu s c' ∧ u.length ≤ 6 ∧ v.length ≤ 6 := by
  unfold diwanplay_Picks_Txn.f
  obtain ⟨v1, c1, g1, _, _, g2⟩ := num_ok (a := 3) hs hl hc (by omega)
  rw [g1]; simp only [Option.bind_some]
  obtain ⟨v2, c2, g3, _, _, g4⟩ := num_ok (a := 6) hs hl g2 (by omega)
  rw [g3]; simp only [Option.bind_some]
  obtain ⟨r, c3, g5, g6, g7⟩ := keys_ok (a := 3) (k := k) hs hl g4 (by omega)
  rw [g5]; simp only [Option.bind_some]
  obtain ⟨p, q, u, v, c', q1, q2, q3, q4⟩ := txn0_ok hs hl a ha r g7 r.length 0 k c3 (wrap64 (1 + v1)) (wrap64 (1 + v2)) [] (by omega) (by omega) g6 (by simp; omega)
  exact ⟨p, q, u, v, c', q1, q2, by simp at q3; omega, q4⟩
/-- Terms from a number on, that never fall. -/
inductive Rise : Int → List S39 → Prop where
  | nil {t : Int} : Rise t []
  | cons {t : Int} {e : S39} {l : List S39} : t ≤ e.f0 → Rise e.f0 l → Rise t (e :: l)
theorem Rise.snoc {t u : Int} {l : List S39} {e : S39} (h : Rise t l) (ht : t ≤ u) (hu : ∀ x ∈ l, x.f0 ≤ u) (he : e.f0 = u) : Rise t (l ++ [e]) := by
  induction h with
  | nil => exact .cons (by omega) .nil
  | @cons t x l h1 _ ih =>
    exact .cons h1 (ih (hu x List.mem_cons_self) (fun y hy => hu y (List.mem_cons_of_mem _ hy)))
/-- Few reads and writes. -/
def Sm (e : S39) : Prop := e.f2.f2.length ≤ 100 ∧ e.f2.f3.length ≤ 100
structure LogOk (n : Nat) (l : List S39) : Prop where
  len : l.length = n
  rise : Rise 1 l
  lo : ∀ e ∈ l, 1 ≤ e.f0
  hi : ∀ e ∈ l, e.f0 ≤ n + 1
  sm : ∀ e ∈ l, Sm e
theorem logL_ok {s : List Int} (hs : U s) (hl : s.length ≤ 1000) (n : Nat) (hn : n ≤ 100) : ∀ (d j k : Nat) (c t : Int) (A : List S39), j + d = n → 2 * d + 80 ≤ k → Cu s c → A.length = j → Rise 1 A → (∀ e ∈ A, (1 ≤ e.f0 ∧ e.f0 ≤ t) ∧ Sm e) → 1 ≤ t → t ≤ j + 1 →
    ∃ l c', diwanplay_Picks_Log.l0 k (n : Int) A t (j : Int) s c = some (l, c') ∧ LogOk n l
  | d, j, k, c, t, A, hd, hk, hc, hA, hr, hb, ht1, ht2 => by
    obtain ⟨k, rfl⟩ : ∃ m, k = m + 2 := ⟨k - 2, by omega⟩
    unfold diwanplay_Picks_Log.l0
    by_cases h : (j : Int) < (n : Int)
    · rw [if_pos h]
      obtain ⟨v1, c1, g1, _, _, g2⟩ := num_ok (a := 4) hs hl hc (by omega)
      rw [g1]; simp only [Option.bind_some]
      match d, hd, hk with
      | 0, hd, _ => omega
      | d + 1, hd, hk =>
        have e : wrap64 ((j : Int) + 1) = ((j + 1 : Nat) : Int) := by rw [wid (by omega)]; omega
        have go : ∀ u : Int, t ≤ u → u ≤ t + 1 → ∃ l c', diwanplay_Picks_Log.j1 (k + 1) (n : Int) A u (j : Int) s c1 = some (l, c') ∧ LogOk n l := by
          intro u hu1 hu2
          unfold diwanplay_Picks_Log.j1
          obtain ⟨v2, c2, g3, _, _, g4⟩ := num_ok (a := 3) hs hl g2 (by omega)
          rw [g3]; simp only [Option.bind_some]
          rw [e]
          have next : ∀ (x : S39) (c3 : Int), x.f0 = u → Sm x → Cu s c3 → ∃ l c', diwanplay_Picks_Log.l0 k (n : Int) (A ++ [x]) u ((j + 1 : Nat) : Int) s c3 = some (l, c') ∧ LogOk n l := fun x c3 hx hsm hc3 =>
            logL_ok hs hl n hn d (j + 1) k c3 u (A ++ [x]) (by omega) (by omega) hc3 (by simp; omega) (hr.snoc (by omega) (fun y hy => by have := (hb y hy).1.2; omega) hx) (fun y hy => by
              rcases List.mem_append.1 hy with g | g
              · have := hb y g; exact ⟨by omega, this.2⟩
              · simp at g; subst g; exact ⟨by omega, hsm⟩) (by omega) (by omega)
          by_cases h0 : v2 = 0
          · rw [if_pos h0, if_pos (by omega)]
            exact next _ _ rfl ⟨by simp, by simp⟩ g4
          · rw [if_neg h0]
            obtain ⟨p, q, a, b, c3, g5, g6, g7, g8⟩ := txn_ok (a := ((j + 1 : Nat) : Int)) (k := k) hs hl (by omega) g4 (by omega)
            rw [g5]; simp only [Option.bind_some]
            rw [if_pos (by omega)]
            exact next _ _ rfl ⟨by show a.length ≤ 100; omega, by show b.length ≤ 100; omega⟩ g6
        by_cases h0 : v1 = 0
        · rw [if_pos h0, wid (by omega)]
          exact go (t + 1) (by omega) (by omega)
        · rw [if_neg h0]
          exact go t (by omega) (by omega)
    · rw [if_neg h]
      have : j = n := by omega
      subst this
      exact ⟨A, c, rfl, hA, hr, fun e he => (hb e he).1.1, fun e he => by have := (hb e he).1.2; omega, fun e he => (hb e he).2⟩
/-- A log that is made of numbers. -/
theorem log_ok {s : List Int} (hs : U s) (hl : s.length ≤ 1000) (n : Nat) (hn : n ≤ 100) {k : Nat} (hk : 400 ≤ k) : ∃ l c', diwanplay_Picks_Log.f k s 0 (n : Int) = some (l, c') ∧ LogOk n l := by
  unfold diwanplay_Picks_Log.f
  exact logL_ok hs hl n hn n 0 k 0 1 [] (by omega) (by omega) ⟨by omega, by omega⟩ rfl .nil (fun e he => by simp at he) (by omega) (by omega)
theorem wf_u8 {x : Int} (h : (Lit.int .u8 x).wf = true) : 0 ≤ x ∧ x < 256 := by
  simp [Lit.wf, IntKind.min, IntKind.max, IntKind.bits, IntKind.signed] at h
  omega
theorem U.of {s : List Int} (h : ∀ x ∈ s, (Lit.int .u8 x).wf = true) : U s := fun x hx => by
  have := h x hx
  simp [Lit.wf, IntKind.min, IntKind.max, IntKind.bits, IntKind.signed] at this
  omega
end Go.Proofs.Ytipeiombaempoaa.UMath
