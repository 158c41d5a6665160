/- The plain law of SeatAll. -/
import Derived.Test.YtabhhjfciemcaaaTSeatFns
namespace Go.Proofs.Ytabhhjfciemcaaa.Told.PureSeatAll
open Go Go.Proofs.Ytabhhjfciemcaaa.Vam Go.Proofs.Ytabhhjfciemcaaa.Told Go.Proofs.Ytabhhjfciemcaaa.Told.SF
set_option linter.unusedSimpArgs false
set_option linter.unusedVariables false
theorem rlp (fu : Nat) (seq pos : Int) (t : Int) : ∀ (r A q : List TSeat) (B : List TSeat) (n : Nat), (q ++ r ++ B).length ≤ 1000000 → (∀ v ∈ r, v.Session < t) → (∀ v ∈ B, t ≤ v.Session) → r.length < n →
    diwanref13_Turn.lp4 fu t seq pos (q ++ r ++ B) n (q.length : Int) = some (((q ++ r).length : Nat) : Int)
  | [], A, q, B, n, hl, hr, hB, hn => by
    obtain ⟨n, rfl⟩ : ∃ m, n = m + 1 := ⟨n - 1, by omega⟩
    simp only [List.append_nil] at hl ⊢
    rw [diwanref13_Turn.lp4]
    cases B with
    | nil => rw [br_f (decide_eq_false (by simp))]
    | cons v R =>
      have := hB v (by simp)
      rw [br_t (lt_mid q R v), ix_mid, br_f (decide_eq_false (by omega))]
  | v :: r, A, q, B, n, hl, hr, hB, hn => by
    obtain ⟨n, rfl⟩ : ∃ m, n = m + 1 := ⟨n - 1, by omega⟩
    have e : q ++ v :: r ++ B = (q ++ [v]) ++ r ++ B := by simp
    have e' : q ++ v :: r ++ B = q ++ v :: (r ++ B) := by simp
    have e2 : (q ++ v :: r).length = ((q ++ [v]) ++ r).length := by simp <;> omega
    have ih := rlp fu seq pos t r A (q ++ [v]) B n (by rw [← e]; exact hl) (fun x hx => hr x (by simp [hx])) hB (by simp at hn; omega)
    rw [← e, ← e2] at ih
    rw [e'] at hl ih ⊢
    rw [diwanref13_Turn.lp4, br_t (lt_mid _ _ _), ix_mid, br_t (decide_eq_true (hr v (by simp))), w64_len q (r ++ B) v (by omega), ih]
theorem rturn_e {fu : Nat} {l A B : List TSeat} {t : Int} (seq pos : Int) (e : l = A ++ B) (hA : ∀ v ∈ A, v.Session < t) (hB : ∀ v ∈ B, t ≤ v.Session) (hl : l.length ≤ 1000000) (hf : l.length < fu) : diwanref13_Turn fu l t seq pos = some (turnOf A B t seq pos) := by
  subst e
  have hlen : (A ++ B).length = A.length + B.length := by simp
  have h := rlp fu seq pos t A [] [] B fu (by simpa using hl) hA hB (by omega)
  simp only [List.nil_append, List.length_nil, Int.natCast_zero] at h
  unfold diwanref13_Turn
  rw [gd_t (decide_eq_true (by simp at hl ⊢; omega)), bd_s h, jn_e]
  have ins : (gd (decide ((0 : Int) ≤ (A.length : Int) ∧ (A.length : Int) ≤ ((A ++ B).length : Int))) <|
    gd (decide (([] : List TSeat).length + (List.take (A.length : Int).toNat (A ++ B)).length ≤ 4294967296)) <|
    gd (decide ((List.take (A.length : Int).toNat (A ++ B)).length + ([(TSeat.mk t seq pos)] : List TSeat).length ≤ 4294967296)) <|
    gd (decide ((0 : Int) ≤ (A.length : Int) ∧ (A.length : Int) ≤ ((A ++ B).length : Int))) <|
    gd (decide (((List.take (A.length : Int).toNat (A ++ B)) ++ ([(TSeat.mk t seq pos)] : List TSeat)).length + (List.drop (A.length : Int).toNat (A ++ B)).length ≤ 4294967296)) <|
    some ((((List.take (A.length : Int).toNat (A ++ B)) ++ ([(TSeat.mk t seq pos)] : List TSeat)) ++ (List.drop (A.length : Int).toNat (A ++ B))), true)) = some (A ++ TSeat.mk t seq pos :: B, true) := by
    rw [Int.toNat_natCast, List.take_left' rfl, List.drop_left' rfl]
    rw [gd_t (decide_eq_true (by omega)), gd_t (decide_eq_true (by simp; omega)), gd_t (decide_eq_true (by simp; omega)), gd_t (decide_eq_true (by omega)), gd_t (decide_eq_true (by simp; omega))]
    simp
  rw [ins]
  cases B with
  | nil => rw [br_f (decide_eq_false (by simp))]; rfl
  | cons v R =>
    rw [br_t (lt_mid A R v), ix_mid, ix_mid, ix_mid]
    simp only [turnOf]
    cases h1 : (v.Session == t)
    · rw [br_f rfl]; rfl
    · rw [br_t rfl, Int.toNat_natCast, set_mid]
      cases h2 : decide (v.Seq ≥ seq)
      · rfl
      · rfl
theorem rflp (fu : Nat) (t : Int) (z : TSeat) : ∀ (r q B : List TSeat) (n : Nat), (q ++ r ++ B).length ≤ 1000000 → (∀ v ∈ r, v.Session < t) → Srt B → (∀ v ∈ B, t ≤ v.Session) → (r ++ B).length < n →
    diwanref13_FindSeat.lp3 fu (q ++ r ++ B) t z n (q.length : Int) = some (match B with | [] => .inl () | v :: _ => bif v.Session == t then .inr v else .inl ())
  | v :: r, q, B, n, hl, hr, hS, hB, hn => by
    obtain ⟨n, rfl⟩ : ∃ m, n = m + 1 := ⟨n - 1, by omega⟩
    have e : q ++ v :: r ++ B = (q ++ [v]) ++ r ++ B := by simp
    have e' : q ++ v :: r ++ B = q ++ v :: (r ++ B) := by simp
    have ih := rflp fu t z r (q ++ [v]) B n (by rw [← e]; exact hl) (fun x hx => hr x (by simp [hx])) hS hB (by simp at hn ⊢; omega)
    have hv := hr v (by simp)
    rw [← e] at ih
    rw [e'] at hl ih ⊢
    rw [diwanref13_FindSeat.lp3, br_t (lt_mid _ _ _), ix_mid, br_f (beq_eq_false_iff_ne.2 (by omega)), w64_len q (r ++ B) v (by omega), ih]
  | [], q, B, n, hl, hr, hS, hB, hn => by
    simp only [List.append_nil] at hl ⊢
    have key : ∀ (B q : List TSeat) (n : Nat), (q ++ B).length ≤ 1000000 → (∀ v ∈ B, t < v.Session) → B.length < n → diwanref13_FindSeat.lp3 fu (q ++ B) t z n (q.length : Int) = some (.inl ()) := by
      intro B
      induction B with
      | nil =>
        intro q n hl _ hn
        obtain ⟨n, rfl⟩ : ∃ m, n = m + 1 := ⟨n - 1, by omega⟩
        simp only [List.append_nil]
        rw [diwanref13_FindSeat.lp3, br_f (nlt_end _)]
      | cons v R ihB =>
        intro q n hl hB hn
        obtain ⟨n, rfl⟩ : ∃ m, n = m + 1 := ⟨n - 1, by omega⟩
        have e : q ++ v :: R = (q ++ [v]) ++ R := by simp
        have ih := ihB (q ++ [v]) n (by rw [← e]; exact hl) (fun x hx => hB x (by simp [hx])) (by simp at hn; omega)
        have hv := hB v (by simp)
        rw [← e] at ih
        rw [diwanref13_FindSeat.lp3, br_t (lt_mid _ _ _), ix_mid, br_f (beq_eq_false_iff_ne.2 (by omega)), w64_len q R v (by omega), ih]
    cases B with
    | nil => exact key [] q n hl (by simp) (by simpa using hn)
    | cons v R =>
      obtain ⟨n, rfl⟩ : ∃ m, n = m + 1 := ⟨n - 1, by omega⟩
      have hv := hB v (by simp)
      obtain ⟨k1, k2⟩ := List.pairwise_cons.1 hS
      have e : q ++ v :: R = (q ++ [v]) ++ R := by simp
      have ih := key R (q ++ [v]) n (by rw [← e]; exact hl) (fun x hx => by have := k1 x hx; omega) (by simp at hn; omega)
      rw [← e] at ih
      rw [diwanref13_FindSeat.lp3, br_t (lt_mid _ _ _), ix_mid, ix_mid, w64_len q R v (by omega), ih]
      dsimp only
      cases (v.Session == t)
      · rw [br_f rfl]; rfl
      · rw [br_t rfl]; rfl
theorem rfind_e {fu : Nat} {l A B : List TSeat} {t : Int} (e : l = A ++ B) (hs : Srt l) (hA : ∀ v ∈ A, v.Session < t) (hB : ∀ v ∈ B, t ≤ v.Session) (hl : l.length ≤ 1000000) (hf : l.length < fu) :
    diwanref13_FindSeat fu l t = some (foundOf B t) := by
  subst e
  have h := rflp fu t (TSeat.mk 0 0 0) A [] B fu (by simpa using hl) hA (List.pairwise_append.1 hs).2.1 hB hf
  simp only [List.nil_append, List.length_nil, Int.natCast_zero] at h
  unfold diwanref13_FindSeat
  rw [bd_s h]
  cases B with
  | nil => rfl
  | cons v R => dsimp only; simp only [foundOf]; cases (v.Session == t) <;> rfl
theorem two (fu : Nat) (a b : List TSeat) : ∀ (n : Nat) (i : Int), slices_Equal_api_Seat.lp6 fu a b (a.length : Int) n i = diwanref13_SameSeats.lp6 fu a b n i
  | 0, i => rfl
  | n + 1, i => by
    rw [slices_Equal_api_Seat.lp6, diwanref13_SameSeats.lp6]
    simp only [two fu a b n]
theorem ends (fu : Nat) (b : List TSeat) : ∀ (r q : List TSeat) (n : Nat), (q ++ r).length ≤ 1000000 → b.length = (q ++ r).length → r.length < n → ∃ o, diwanref13_SameSeats.lp6 fu (q ++ r) b n (q.length : Int) = some o
  | [], q, n, hl, hb, hn => by
    obtain ⟨n, rfl⟩ : ∃ m, n = m + 1 := ⟨n - 1, by omega⟩
    simp only [List.append_nil]
    rw [diwanref13_SameSeats.lp6, br_f (nlt_end _)]
    exact ⟨_, rfl⟩
  | v :: r, q, n, hl, hb, hn => by
    obtain ⟨n, rfl⟩ : ∃ m, n = m + 1 := ⟨n - 1, by omega⟩
    have e : q ++ v :: r = (q ++ [v]) ++ r := by simp
    obtain ⟨o, ih⟩ := ends fu b r (q ++ [v]) n (by rw [← e]; exact hl) (by rw [← e]; exact hb) (by simp at hn; omega)
    rw [← e] at ih
    obtain ⟨u, hx⟩ : ∃ u, b[q.length]? = some u := ⟨_, List.getElem?_eq_getElem (by rw [hb]; simp)⟩
    rw [diwanref13_SameSeats.lp6, br_t (lt_mid _ _ _), ix_mid, ix_n hx, w64_len q r v (by omega), ih]
    generalize (!((v.Session == u.Session) && ((v.Seq == u.Seq) && ((v.Pos == u.Pos) && true)))) = c
    cases c
    · exact ⟨_, br_f rfl⟩
    · exact ⟨_, br_t rfl⟩
theorem both {fu : Nat} {a b : List TSeat} (hl : a.length ≤ 1000000) (hf : a.length < fu) : ∃ c, seat_Same fu a b = some c ∧ diwanref13_SameSeats fu a b = some c := by
  unfold seat_Same slices_Equal_api_Seat diwanref13_SameSeats
  by_cases h : a.length = b.length
  · obtain ⟨o, ho⟩ := ends fu b a [] fu (by simpa using hl) (by simpa using h.symm) hf
    simp only [List.nil_append, List.length_nil, Int.natCast_zero] at ho
    rw [br_f (by simp [h]), br_f (by simp [h]), two, ho]
    cases o <;> exact ⟨_, rfl, rfl⟩
  · rw [br_t (by simp; omega), br_t (by simp; omega)]
    exact ⟨_, rfl, rfl⟩
theorem same_lp (fu : Nat) : ∀ (r q : List TSeat) (n : Nat), (q ++ r).length ≤ 1000000 → r.length < n → diwanref13_SameSeats.lp6 fu (q ++ r) (q ++ r) n (q.length : Int) = some (.inl ())
  | [], q, n, hl, hn => by
    obtain ⟨n, rfl⟩ : ∃ m, n = m + 1 := ⟨n - 1, by omega⟩
    simp only [List.append_nil]
    rw [diwanref13_SameSeats.lp6, br_f (nlt_end _)]
  | v :: r, q, n, hl, hn => by
    obtain ⟨n, rfl⟩ : ∃ m, n = m + 1 := ⟨n - 1, by omega⟩
    have e : q ++ v :: r = (q ++ [v]) ++ r := by simp
    have ih := same_lp fu r (q ++ [v]) n (by rw [← e]; exact hl) (by simp at hn; omega)
    rw [← e] at ih
    rw [diwanref13_SameSeats.lp6, br_t (lt_mid _ _ _), ix_mid, ix_mid, w64_len q r v (by omega), ih, br_f (by simp)]
theorem same_e {fu : Nat} {a : List TSeat} (hl : a.length ≤ 1000000) (hf : a.length < fu) : seat_Same fu a a = some true ∧ diwanref13_SameSeats fu a a = some true := by
  obtain ⟨c, h1, h2⟩ := both (fu := fu) (a := a) (b := a) hl hf
  have h := same_lp fu a [] fu (by simpa using hl) hf
  simp only [List.nil_append, List.length_nil, Int.natCast_zero] at h
  have h3 : diwanref13_SameSeats fu a a = some true := by
    unfold diwanref13_SameSeats
    rw [br_f (by simp), bd_s h]
  rw [h3] at h2
  cases h2
  exact ⟨h1, h3⟩
theorem lp10 (fu : Nat) (hf : 100 ≤ fu) (s q0 p0 : Int) : ∀ (r q : List TA2_uint8) (x y : List TSeat) (n : Nat), (q ++ r).length ≤ 40 → Srt y → y.length ≤ q.length → x.length ≤ 40 → r.length < n →
    ∃ x' y', diwanlaw17_SeatAll.lp10 fu (q ++ r) s q0 p0 n x y (q.length : Int) = some (.inl (x', y')) ∧ Srt y' ∧ y'.length ≤ 40 ∧ x'.length ≤ 40
  | [], q, x, y, n, hl, hy, hyl, hxl, hn => by
    obtain ⟨n, rfl⟩ : ∃ m, n = m + 1 := ⟨n - 1, by omega⟩
    simp only [List.append_nil] at hl ⊢
    rw [diwanlaw17_SeatAll.lp10, br_f (nlt_end _)]
    exact ⟨x, y, rfl, hy, by omega, hxl⟩
  | v :: r, q, x, y, n, hl, hy, hyl, hxl, hn => by
    obtain ⟨n, rfl⟩ : ∃ m, n = m + 1 := ⟨n - 1, by omega⟩
    have e : q ++ v :: r = (q ++ [v]) ++ r := by simp
    have hl' : q.length + 1 + r.length ≤ 40 := by simp at hl; omega
    rw [diwanlaw17_SeatAll.lp10, br_t (lt_mid _ _ _), ix_mid, ix_mid]
    obtain ⟨t, ht⟩ : ∃ t, t = w64 (Int.tmod v.c0 5) := ⟨_, rfl⟩
    obtain ⟨sq, hsq⟩ : ∃ t, t = w64 (Int.tmod v.c1 9) := ⟨_, rfl⟩
    rw [← ht, ← hsq]
    obtain ⟨A, B, eab, hA, hB⟩ := srt_cut y t hy
    have hS := turn_srt (seq := sq) (pos := w64 ((q.length : Int) + 1)) (eab ▸ hy) hA hB
    rw [← eab] at hS
    have tt := turn_e (fu := fu) sq (w64 ((q.length : Int) + 1)) eab hA hB (by omega) (by omega)
    have rt := rturn_e (fu := fu) sq (w64 ((q.length : Int) + 1)) eab hA hB (by omega) (by omega)
    generalize turnOf A B t sq (w64 ((q.length : Int) + 1)) = o at hS tt rt
    obtain ⟨y1, b1⟩ := o
    obtain ⟨hS1, hS2⟩ := hS
    dsimp only at hS1 hS2 ⊢
    obtain ⟨m1, m2⟩ := same_e (fu := fu) (a := y1) (by omega) (by omega)
    obtain ⟨x', y', ih, i1, i2, i3⟩ := lp10 fu hf s q0 p0 r (q ++ [v]) y y1 n (by rw [← e]; exact hl) hS1 (by simp; omega) (by omega) (by simp at hn; omega)
    rw [← e] at ih
    rw [bd_s tt]
    dsimp only
    rw [ix_mid, ix_mid, ← ht, ← hsq, bd_s rt]
    dsimp only
    rw [br_f (by simp), bd_s m2, br_f (by rfl), bd_s m1, br_f (by rfl), w64_len q r v (by omega), ih]
    exact ⟨x', y', rfl, i1, i2, i3⟩
theorem begun_e : diwanlaw17_begun 100 = some true := by kernel_rfl
theorem holds (l : List TA2_uint8) (session seq pos : Int) (k0 : okL TA2_uint8.ok l) (k1 : okI .i64 session) (k2 : okI .i64 seq) (k3 : okI .i64 pos) : ∃ fu, diwanlaw17_SeatAll fu l session seq pos = some true := by
  refine ⟨100, ?_⟩
  unfold diwanlaw17_SeatAll
  rw [bd_s begun_e, br_f (by rfl)]
  by_cases h1 : (l.length : Int) > 40
  · rw [br_t (decide_eq_true h1)]
  rw [br_f (decide_eq_false h1)]
  obtain ⟨x, y, h, hy, hyl, hxl⟩ := lp10 100 (by omega) session seq pos l [] [] [] 100 (by simp; omega) List.Pairwise.nil (Nat.le_refl _) (by simp) (by omega)
  simp only [List.nil_append, List.length_nil, Int.natCast_zero] at h
  rw [bd_s h]
  dsimp only
  obtain ⟨A, B, eab, hA, hB⟩ := srt_cut y session hy
  have hS := turn_srt (seq := seq) (pos := pos) (eab ▸ hy) hA hB
  rw [← eab] at hS
  rw [bd_s (turn_e seq pos eab hA hB (by omega) (by omega)), bd_s (rturn_e seq pos eab hA hB (by omega) (by omega)), bd_s (sfind_e eab hA hB (by omega) (by omega)), bd_s (rfind_e eab hy hA hB (by omega) (by omega))]
  generalize turnOf A B session seq pos = o at hS
  obtain ⟨y1, b1⟩ := o
  obtain ⟨hS1, hS2⟩ := hS
  generalize foundOf B session = f
  obtain ⟨f1, f2⟩ := f
  dsimp only at hS1 hS2 ⊢
  obtain ⟨m1, m2⟩ := same_e (fu := 100) (a := y1) (by omega) (by omega)
  obtain ⟨c, c1, c2⟩ := both (fu := 100) (a := x) (b := y) (by omega) (by omega)
  rw [br_t (by simp), bd_s m2, br_t rfl, br_t (by simp), br_t (by simp), bd_s c1, bd_s c2]
  simp
end Go.Proofs.Ytabhhjfciemcaaa.Told.PureSeatAll
