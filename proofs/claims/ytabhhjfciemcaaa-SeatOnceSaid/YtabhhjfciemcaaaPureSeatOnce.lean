/- The plain law of SeatOnce. -/
import Derived.Test.YtabhhjfciemcaaaTSeatFns
namespace Go.Proofs.Ytabhhjfciemcaaa.Told.PureSeatOnce
open Go Go.Proofs.Ytabhhjfciemcaaa.Vam Go.Proofs.Ytabhhjfciemcaaa.Told Go.Proofs.Ytabhhjfciemcaaa.Told.SF
set_option linter.unusedSimpArgs false
set_option linter.unusedVariables false
/-- A session's last number. -/
def look (y : List TSeat) (s : Int) : Int := match y.find? (fun v => v.Session == s) with
  | some v => v.Seq
  | none => 0
theorem none_of {A : List TSeat} {s : Int} (h : ∀ v ∈ A, v.Session ≠ s) : A.find? (fun v => v.Session == s) = none := by
  rw [List.find?_eq_none]
  intro v hv
  simpa using h v hv
theorem look_mid {A R : List TSeat} {u : TSeat} (h1 : ∀ v ∈ A, v.Session < u.Session) : look (A ++ u :: R) u.Session = u.Seq := by
  unfold look
  rw [List.find?_append, none_of fun v hv => by have := h1 v hv; omega]
  simp
theorem look_skip {A R R' : List TSeat} {s : Int} (h : R.find? (fun v => v.Session == s) = R'.find? (fun v => v.Session == s)) : look (A ++ R) s = look (A ++ R') s := by
  unfold look
  rw [List.find?_append, List.find?_append, h]
theorem turn_look {fu : Nat} {y : List TSeat} {t sq p : Int} (hy : Srt y) (hsq : 1 ≤ sq) (hl : y.length ≤ 900000) (hf : y.length + 1 < fu) :
    ∃ y1 ok v, seat_Turn fu y t sq p = some (y1, ok) ∧ Srt y1 ∧ y1.length ≤ y.length + 1 ∧ ok = decide (sq > look y t) ∧ (∀ s, s ≠ t → look y1 s = look y s) ∧ look y1 t = (if sq > look y t then sq else look y t) ∧
      seat_Find fu y1 t = some (true, v) ∧ v.Seq = look y1 t ∧ (ok = true → v.Pos = p) := by
  obtain ⟨A, B, eab, hA, hB⟩ := srt_cut y t hy
  subst eab
  have hT := turn_e (fu := fu) sq p rfl hA hB (by omega) (by omega)
  have hS := turn_srt (seq := sq) (pos := p) hy hA hB
  obtain ⟨g1, g2, g3⟩ := List.pairwise_append.1 hy
  have hne : ∀ v ∈ A, v.Session ≠ t := fun v hv => by have := hA v hv; omega
  -- a seat that is laid
  have laid : ∀ R : List TSeat, (∀ v ∈ R, t < v.Session) → (A ++ TSeat.mk t sq p :: R).length ≤ (A ++ B).length + 1 → seat_Find fu (A ++ TSeat.mk t sq p :: R) t = some (true, TSeat.mk t sq p) ∧ look (A ++ TSeat.mk t sq p :: R) t = sq := fun R hR hlen => by
    refine ⟨?_, look_mid hA⟩
    rw [sfind_e (fu := fu) (A := A) (B := TSeat.mk t sq p :: R) rfl hA (fun v hv => ?_) (by omega) (by omega)]
    · simp [foundOf]
    · rcases List.mem_cons.1 hv with rfl | hv
      · exact Int.le_refl _
      · have := hR v hv; omega
  cases B with
  | nil =>
    have h0 : look (A ++ []) t = 0 := by
      unfold look
      rw [List.append_nil, none_of hne]
    obtain ⟨f1, f2⟩ := laid [] (by simp) (by simp)
    simp only [turnOf] at hT hS
    refine ⟨_, _, _, hT, hS.1, hS.2, by rw [h0, decide_eq_true (by omega)], fun s hs => look_skip ?_, by rw [h0, if_pos (by omega)]; exact f2, f1, f2.symm, fun _ => rfl⟩
    simp [List.find?_cons, beq_eq_false_iff_ne.2 hs.symm]
  | cons v R =>
    obtain ⟨k1, k2⟩ := List.pairwise_cons.1 g2
    have hv := hB v (by simp)
    simp only [turnOf] at hT hS
    cases h : (v.Session == t)
    · have hvt : v.Session ≠ t := by simpa using h
      rw [h] at hT hS
      simp only [cond_false] at hT hS
      have h0 : look (A ++ v :: R) t = 0 := by
        unfold look
        rw [none_of fun w hw => ?_]
        rcases List.mem_append.1 hw with hw | hw
        · exact hne w hw
        · rcases List.mem_cons.1 hw with rfl | hw
          · exact hvt
          · have := k1 w hw; omega
      obtain ⟨f1, f2⟩ := laid (v :: R) (fun w hw => by
        rcases List.mem_cons.1 hw with rfl | hw
        · omega
        · have := k1 w hw; omega) (by simp; omega)
      refine ⟨_, _, _, hT, hS.1, hS.2, by rw [h0, decide_eq_true (by omega)], fun s hs => look_skip ?_, by rw [h0, if_pos (by omega)]; exact f2, f1, f2.symm, fun _ => rfl⟩
      rw [List.find?_cons, beq_eq_false_iff_ne.2 hs.symm]
    · have hvt : v.Session = t := by simpa using h
      rw [h] at hT hS
      simp only [cond_true] at hT hS
      have h0 : look (A ++ v :: R) t = v.Seq := by rw [← hvt]; exact look_mid fun w hw => by rw [hvt]; exact hA w hw
      cases h2 : decide (v.Seq ≥ sq)
      · rw [h2] at hT hS
        simp only [cond_false] at hT hS
        have h3 := of_decide_eq_false h2
        obtain ⟨f1, f2⟩ := laid R (fun w hw => by have := k1 w hw; omega) (by simp)
        refine ⟨_, _, _, hT, hS.1, hS.2, by rw [h0, decide_eq_true (by omega)], fun s hs => look_skip ?_, by rw [h0, if_pos (by omega)]; exact f2, f1, f2.symm, fun _ => rfl⟩
        rw [List.find?_cons, List.find?_cons, beq_eq_false_iff_ne.2 hs.symm, beq_eq_false_iff_ne.2 (by rw [hvt]; exact hs.symm)]
      · rw [h2] at hT hS
        simp only [cond_true] at hT hS
        have h3 := of_decide_eq_true h2
        refine ⟨_, _, v, hT, hS.1, hS.2, by rw [h0, decide_eq_false (by omega)], fun s hs => rfl, by rw [h0, if_neg (by omega)], ?_, h0.symm, fun h => by cases h⟩
        rw [sfind_e (fu := fu) (A := A) (B := v :: R) rfl hA hB (by omega) (by omega)]
        simp [foundOf, h]
/-- The law's own row of last numbers. -/
def Inv (y : List TSeat) (a : TA6_int) : Prop := Srt y ∧ look y 1 = a.c1 ∧ look y 2 = a.c2 ∧ look y 3 = a.c3 ∧ look y 4 = a.c4 ∧ look y 5 = a.c5
theorem lp11 (fu : Nat) (hf : 200 ≤ fu) : ∀ (r q : List TA2_uint8) (y : List TSeat) (a : TA6_int) (n : Nat), (q ++ r).length ≤ 60 → (∀ x ∈ r, TA2_uint8.ok x) → Inv y a → y.length ≤ q.length → r.length < n →
    diwanlaw17_SeatOnce.lp11 fu (q ++ r) n y (q.length : Int) a = some (.inl ())
  | [], q, y, a, n, hl, hr, hi, hyl, hn => by
    obtain ⟨n, rfl⟩ : ∃ m, n = m + 1 := ⟨n - 1, by omega⟩
    simp only [List.append_nil] at hl ⊢
    rw [diwanlaw17_SeatOnce.lp11, br_f (nlt_end _)]
  | v :: r, q, y, a, n, hl, hr, hi, hyl, hn => by
    obtain ⟨n, rfl⟩ : ∃ m, n = m + 1 := ⟨n - 1, by omega⟩
    have e : q ++ v :: r = (q ++ [v]) ++ r := by simp
    have hl' : q.length + 1 + r.length ≤ 60 := by simp at hl; omega
    obtain ⟨o0, o1⟩ := hr v (by simp)
    have c0 := okI_u8 o0
    have c1 := okI_u8 o1
    have ih := fun y a h1 h2 => lp11 fu hf r (q ++ [v]) y a n (by rw [← e]; exact hl) (fun x hx => hr x (by simp [hx])) h1 h2 (by simp at hn; omega)
    rw [← e] at ih
    rw [diwanlaw17_SeatOnce.lp11, br_t (lt_mid _ _ _), ix_mid, ix_mid]
    have ht : ∃ t, w64 (1 + (w64 (Int.tmod v.c0 5))) = t ∧ (t = 1 ∨ t = 2 ∨ t = 3 ∨ t = 4 ∨ t = 5) := by
      refine ⟨1 + v.c0 % 5, ?_, by omega⟩
      rw [Int.tmod_eq_emod_of_nonneg c0.1, w64_id (n := v.c0 % 5) (by omega) (by omega), w64_id (by omega) (by omega)]
    have hs : ∃ s, w64 (1 + (w64 (Int.tmod v.c1 20))) = s ∧ 1 ≤ s := by
      refine ⟨1 + v.c1 % 20, ?_, by omega⟩
      rw [Int.tmod_eq_emod_of_nonneg c1.1, w64_id (n := v.c1 % 20) (by omega) (by omega), w64_id (by omega) (by omega)]
    obtain ⟨t, et, ht⟩ := ht
    obtain ⟨s, es, hs⟩ := hs
    rw [et, es, w64_len q r v (by omega)]
    obtain ⟨y1, ok, u, t1, t2, t3, t4, t5, t6, t7, t8, t9⟩ := turn_look (fu := fu) (t := t) (sq := s) (p := ((q ++ [v]).length : Int)) hi.1 hs (by omega) (by omega)
    rw [bd_s t1]
    dsimp only
    simp only [jn_e]
    have hpos : ok = true → (u.Pos != ((q ++ [v]).length : Int)) = false := fun h => by rw [t9 h]; simp
    obtain ⟨i0, i1, i2, i3, i4, i5⟩ := hi
    have hyl1 : y1.length ≤ (q ++ [v]).length := by simp; omega
    rcases ht with rfl | rfl | rfl | rfl | rfl
    · have hok : (!(ok == (decide (s > a.c1)))) = false := by rw [t4, i1]; simp
      have seq : ∀ c : Int, c = (if s > look y 1 then s else look y 1) → (u.Seq != c) = false := fun c hc => by rw [t8, t6, hc]; simp
      rw [br_f (by rfl), br_t (by rfl), br_f hok]
      cases hk : ok with
      | true =>
        have hgt : s > look y 1 := of_decide_eq_true (by rw [← t4, hk])
        rw [br_t rfl, br_f (by rfl), br_t (by rfl), bd_s t7]
        dsimp only
        rw [br_f (by rfl), br_f (by rfl), br_t (by rfl), br_f (seq _ (by rw [if_pos hgt])), br_t rfl, br_f (hpos hk)]
        exact ih _ _ ⟨t2, by rw [t6, if_pos hgt], by rw [t5 _ (by decide), i2], by rw [t5 _ (by decide), i3], by rw [t5 _ (by decide), i4], by rw [t5 _ (by decide), i5]⟩ hyl1
      | false =>
        have hgt : ¬ s > look y 1 := of_decide_eq_false (by rw [← t4, hk])
        rw [br_f rfl, bd_s t7]
        dsimp only
        rw [br_f (by rfl), br_f (by rfl), br_t (by rfl), br_f (seq _ (by rw [if_neg hgt, i1])), br_f rfl]
        exact ih _ _ ⟨t2, by rw [t6, if_neg hgt, i1], by rw [t5 _ (by decide), i2], by rw [t5 _ (by decide), i3], by rw [t5 _ (by decide), i4], by rw [t5 _ (by decide), i5]⟩ hyl1
    · have hok : (!(ok == (decide (s > a.c2)))) = false := by rw [t4, i2]; simp
      have seq : ∀ c : Int, c = (if s > look y 2 then s else look y 2) → (u.Seq != c) = false := fun c hc => by rw [t8, t6, hc]; simp
      rw [br_f (by rfl), br_f (by rfl), br_t (by rfl), br_f hok]
      cases hk : ok with
      | true =>
        have hgt : s > look y 2 := of_decide_eq_true (by rw [← t4, hk])
        rw [br_t rfl, br_f (by rfl), br_f (by rfl), br_t (by rfl), bd_s t7]
        dsimp only
        rw [br_f (by rfl), br_f (by rfl), br_f (by rfl), br_t (by rfl), br_f (seq _ (by rw [if_pos hgt])), br_t rfl, br_f (hpos hk)]
        exact ih _ _ ⟨t2, by rw [t5 _ (by decide), i1], by rw [t6, if_pos hgt], by rw [t5 _ (by decide), i3], by rw [t5 _ (by decide), i4], by rw [t5 _ (by decide), i5]⟩ hyl1
      | false =>
        have hgt : ¬ s > look y 2 := of_decide_eq_false (by rw [← t4, hk])
        rw [br_f rfl, bd_s t7]
        dsimp only
        rw [br_f (by rfl), br_f (by rfl), br_f (by rfl), br_t (by rfl), br_f (seq _ (by rw [if_neg hgt, i2])), br_f rfl]
        exact ih _ _ ⟨t2, by rw [t5 _ (by decide), i1], by rw [t6, if_neg hgt, i2], by rw [t5 _ (by decide), i3], by rw [t5 _ (by decide), i4], by rw [t5 _ (by decide), i5]⟩ hyl1
    · have hok : (!(ok == (decide (s > a.c3)))) = false := by rw [t4, i3]; simp
      have seq : ∀ c : Int, c = (if s > look y 3 then s else look y 3) → (u.Seq != c) = false := fun c hc => by rw [t8, t6, hc]; simp
      rw [br_f (by rfl), br_f (by rfl), br_f (by rfl), br_t (by rfl), br_f hok]
      cases hk : ok with
      | true =>
        have hgt : s > look y 3 := of_decide_eq_true (by rw [← t4, hk])
        rw [br_t rfl, br_f (by rfl), br_f (by rfl), br_f (by rfl), br_t (by rfl), bd_s t7]
        dsimp only
        rw [br_f (by rfl), br_f (by rfl), br_f (by rfl), br_f (by rfl), br_t (by rfl), br_f (seq _ (by rw [if_pos hgt])), br_t rfl, br_f (hpos hk)]
        exact ih _ _ ⟨t2, by rw [t5 _ (by decide), i1], by rw [t5 _ (by decide), i2], by rw [t6, if_pos hgt], by rw [t5 _ (by decide), i4], by rw [t5 _ (by decide), i5]⟩ hyl1
      | false =>
        have hgt : ¬ s > look y 3 := of_decide_eq_false (by rw [← t4, hk])
        rw [br_f rfl, bd_s t7]
        dsimp only
        rw [br_f (by rfl), br_f (by rfl), br_f (by rfl), br_f (by rfl), br_t (by rfl), br_f (seq _ (by rw [if_neg hgt, i3])), br_f rfl]
        exact ih _ _ ⟨t2, by rw [t5 _ (by decide), i1], by rw [t5 _ (by decide), i2], by rw [t6, if_neg hgt, i3], by rw [t5 _ (by decide), i4], by rw [t5 _ (by decide), i5]⟩ hyl1
    · have hok : (!(ok == (decide (s > a.c4)))) = false := by rw [t4, i4]; simp
      have seq : ∀ c : Int, c = (if s > look y 4 then s else look y 4) → (u.Seq != c) = false := fun c hc => by rw [t8, t6, hc]; simp
      rw [br_f (by rfl), br_f (by rfl), br_f (by rfl), br_f (by rfl), br_t (by rfl), br_f hok]
      cases hk : ok with
      | true =>
        have hgt : s > look y 4 := of_decide_eq_true (by rw [← t4, hk])
        rw [br_t rfl, br_f (by rfl), br_f (by rfl), br_f (by rfl), br_f (by rfl), br_t (by rfl), bd_s t7]
        dsimp only
        rw [br_f (by rfl), br_f (by rfl), br_f (by rfl), br_f (by rfl), br_f (by rfl), br_t (by rfl), br_f (seq _ (by rw [if_pos hgt])), br_t rfl, br_f (hpos hk)]
        exact ih _ _ ⟨t2, by rw [t5 _ (by decide), i1], by rw [t5 _ (by decide), i2], by rw [t5 _ (by decide), i3], by rw [t6, if_pos hgt], by rw [t5 _ (by decide), i5]⟩ hyl1
      | false =>
        have hgt : ¬ s > look y 4 := of_decide_eq_false (by rw [← t4, hk])
        rw [br_f rfl, bd_s t7]
        dsimp only
        rw [br_f (by rfl), br_f (by rfl), br_f (by rfl), br_f (by rfl), br_f (by rfl), br_t (by rfl), br_f (seq _ (by rw [if_neg hgt, i4])), br_f rfl]
        exact ih _ _ ⟨t2, by rw [t5 _ (by decide), i1], by rw [t5 _ (by decide), i2], by rw [t5 _ (by decide), i3], by rw [t6, if_neg hgt, i4], by rw [t5 _ (by decide), i5]⟩ hyl1
    · have hok : (!(ok == (decide (s > a.c5)))) = false := by rw [t4, i5]; simp
      have seq : ∀ c : Int, c = (if s > look y 5 then s else look y 5) → (u.Seq != c) = false := fun c hc => by rw [t8, t6, hc]; simp
      rw [br_f (by rfl), br_f (by rfl), br_f (by rfl), br_f (by rfl), br_f (by rfl), br_t (by rfl), br_f hok]
      cases hk : ok with
      | true =>
        have hgt : s > look y 5 := of_decide_eq_true (by rw [← t4, hk])
        rw [br_t rfl, br_f (by rfl), br_f (by rfl), br_f (by rfl), br_f (by rfl), br_f (by rfl), br_t (by rfl), bd_s t7]
        dsimp only
        rw [br_f (by rfl), br_f (by rfl), br_f (by rfl), br_f (by rfl), br_f (by rfl), br_f (by rfl), br_t (by rfl), br_f (seq _ (by rw [if_pos hgt])), br_t rfl, br_f (hpos hk)]
        exact ih _ _ ⟨t2, by rw [t5 _ (by decide), i1], by rw [t5 _ (by decide), i2], by rw [t5 _ (by decide), i3], by rw [t5 _ (by decide), i4], by rw [t6, if_pos hgt]⟩ hyl1
      | false =>
        have hgt : ¬ s > look y 5 := of_decide_eq_false (by rw [← t4, hk])
        rw [br_f rfl, bd_s t7]
        dsimp only
        rw [br_f (by rfl), br_f (by rfl), br_f (by rfl), br_f (by rfl), br_f (by rfl), br_f (by rfl), br_t (by rfl), br_f (seq _ (by rw [if_neg hgt, i5])), br_f rfl]
        exact ih _ _ ⟨t2, by rw [t5 _ (by decide), i1], by rw [t5 _ (by decide), i2], by rw [t5 _ (by decide), i3], by rw [t5 _ (by decide), i4], by rw [t6, if_neg hgt, i5]⟩ hyl1
theorem begun_e : diwanlaw17_begun 200 = some true := by kernel_rfl
theorem holds (l : List TA2_uint8) (k0 : okL TA2_uint8.ok l) : ∃ fu, diwanlaw17_SeatOnce fu l = some true := by
  refine ⟨200, ?_⟩
  unfold diwanlaw17_SeatOnce
  rw [bd_s begun_e, br_f (by rfl)]
  by_cases h1 : (l.length : Int) > 60
  · rw [br_t (decide_eq_true h1)]
  rw [br_f (decide_eq_false h1)]
  have h := lp11 200 (by omega) l [] [] (TA6_int.mk 0 0 0 0 0 0) 200 (by simp; omega) k0.2 ⟨List.Pairwise.nil, rfl, rfl, rfl, rfl, rfl⟩ (Nat.le_refl _) (by omega)
  simp only [List.nil_append, List.length_nil, Int.natCast_zero] at h
  rw [bd_s h]
end Go.Proofs.Ytabhhjfciemcaaa.Told.PureSeatOnce
