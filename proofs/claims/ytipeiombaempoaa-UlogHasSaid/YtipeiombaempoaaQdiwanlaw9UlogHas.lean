/- One Go function told as a Lean function, and that the Go code comes to its answers: out of the print of the program, by the kit and by programs of this session. -/
import Derived.Test.YtipeiombaempoaaQ0
import Derived.Test.YtipeiombaempoaaQulogA
import Derived.Test.YtipeiombaempoaaQulogJoin
import Derived.Test.YtipeiombaempoaaQdiwanlaw9begun
import Derived.Test.YtipeiombaempoaaQdiwanplayMade
import Derived.Test.YtipeiombaempoaaQdiwanplayPicksLog
namespace Go.Proofs.Ytipeiombaempoaa.Q
open Go.RowKit Go.Proofs.YtipeiombaempoaaW.PrintWords Go.Proofs.YtipeiombaempoaaW.PrintLast Go.Proofs.YtipeiombaempoaaW.PrintMore
attribute [local go_sem] max2_int min2_int max_two min_two max_three min_three max_four min_four   -- for this text's walks alone
set_option linter.unusedVariables false
set_option linter.unusedSimpArgs false

/-! ### diwanlaw9_UlogHas: function 7 -/
mutual
def diwanlaw9_UlogHas.j0 : Nat → List Int → List Int → Int → Bool → Option (Bool)
  | 0, _, _, _, _ => none
  | k + 1, x0, x1, x2, x22 => if x22 = true then (some true) else ((diwanplay_Made.f x0).bind fun bt508 => ((diwanplay_Picks_Log.f k bt508.1 bt508.2 7).bind fun bt511 => ((diwanplay_Made.f x1).bind fun bt515 => ((diwanplay_Picks_Log.f k bt515.1 bt515.2 4).bind fun bt518 => (if (wrap64 ((bt511.1.length : Int) + 1)) = 0 then (none) else ((ulog_Join.f k bt511.1 (Int.tmod (wrap64 (x2)) (wrap64 ((bt511.1.length : Int) + 1))) bt518.1).bind fun t522 => (diwanlaw9_UlogHas.l0 k bt518.1 (Int.tmod (wrap64 (x2)) (wrap64 ((bt511.1.length : Int) + 1))) t522 0)))))))
def diwanlaw9_UlogHas.l0 : Nat → List (S39) → Int → List (S39) → Int → Option (Bool)
  | 0, _, _, _, _ => none
  | k + 1, x8, x9, x10, x11 => if x11 < (x8.length : Int) then (if 0 ≤ x11 then ((ulog_Has.f k x10 (wrap64 ((wrap64 (x9 + x11)) + 1)) ((rd_T39 x8 x11).f0)).bind fun t526 => (if t526 = true then ((ulog_Has.f k x10 (wrap64 ((wrap64 (x9 + x11)) + 1)) (wrap64 (((rd_T39 x8 x11).f0) + 1))).bind fun t528 => (diwanlaw9_UlogHas.j2 k x8 x9 x10 x11 t528)) else (diwanlaw9_UlogHas.j2 k x8 x9 x10 x11 true))) else (none)) else (diwanlaw9_UlogHas.l1 k x10 1)
def diwanlaw9_UlogHas.j2 : Nat → List (S39) → Int → List (S39) → Int → Bool → Option (Bool)
  | 0, _, _, _, _, _ => none
  | k + 1, x8, x9, x10, x11, x70 => if x70 = true then (some false) else (diwanlaw9_UlogHas.l0 k x8 x9 x10 (wrap64 (x11 + 1)))
def diwanlaw9_UlogHas.l1 : Nat → List (S39) → Int → Option (Bool)
  | 0, _, _ => none
  | k + 1, x10, x12 => if x12 ≤ (x10.length : Int) then ((ulog_Term.f k x10 x12).bind fun t530 => ((ulog_Has.f k x10 x12 t530).bind fun t531 => (if t531 = true then ((ulog_Term.f k x10 x12).bind fun t532 => (diwanlaw9_UlogHas.j4 k x10 x12 (decide (t532 < 1)))) else (diwanlaw9_UlogHas.j4 k x10 x12 true)))) else ((ulog_Has.f k x10 (wrap64 ((x10.length : Int) + 1)) 0).bind fun t529 => (some (!t529)))
def diwanlaw9_UlogHas.j4 : Nat → List (S39) → Int → Bool → Option (Bool)
  | 0, _, _, _ => none
  | k + 1, x10, x12, x89 => if x89 = true then (some false) else (diwanlaw9_UlogHas.l1 k x10 (wrap64 (x12 + 1)))
end
def diwanlaw9_UlogHas.f (k : Nat) (l0 : List Int) (l1 : List Int) (a2 : Int) : Option (Bool) := (diwanlaw9_begun.f k).bind fun t507 => (if t507 = true then (if (l0.length : Int) > 80 then (diwanlaw9_UlogHas.j0 k l0 l1 a2 true) else (diwanlaw9_UlogHas.j0 k l0 l1 a2 (decide ((l1.length : Int) > 80)))) else (some false))
set_option maxHeartbeats 8000000 in
set_option maxRecDepth 100000 in
theorem diwanlaw9_UlogHas.calls (k : Nat) (A0 : Option Addr) (c0 : Nat) (l0 : List Int) (A1 : Option Addr) (c1 : Nat) (l1 : List Int) (a2 : Int) (r : Bool) (w : World) (hr0 : Kd.C (Kd.int .u8) w A0 l0.length l0) (hc0 : l0.length ≤ c0) (hr1 : Kd.C (Kd.int .u8) w A1 l1.length l1) (hc1 : l1.length ≤ c1) (h : diwanlaw9_UlogHas.f k l0 l1 a2 = some r) (hT : Aside0 (r = true)) :
    Calls Try.prog 7 #[.slice A0 l0.length c0, .slice A1 l1.length c1, .int .u8 a2] w fun e w' => e = .returned (.bool r) ∧ Below w.heap.size w w' := by
  have HR0 := Aside0.mk hr0
  have HC0 := Aside0.mk hc0
  clear hr0 hc0
  have HR1 := Aside0.mk hr1
  have HC1 := Aside0.mk hc1
  clear hr1 hc1
  have HB := Aside0.mk (Below.refl w.heap.size w)
  have H : ((diwanlaw9_begun.f k).bind fun t507 => (if t507 = true then (if (l0.length : Int) > 80 then (diwanlaw9_UlogHas.j0 k l0 l1 a2 true) else (diwanlaw9_UlogHas.j0 k l0 l1 a2 (decide ((l1.length : Int) > 80)))) else (some false))) = some r := h
  clear h
  replace H := Option.bind_eq_some_iff.mp H
  obtain ⟨t507, A40, H⟩ := H
  replace H : (if t507 = true then (if (l0.length : Int) > 80 then (diwanlaw9_UlogHas.j0 k l0 l1 a2 true) else (diwanlaw9_UlogHas.j0 k l0 l1 a2 (decide ((l1.length : Int) > 80)))) else (some false)) = some r := H
  have A4 := Aside0.mk A40
  clear A40
  by_cases c5 : t507 = true
  · subst c5
    have H1 : (if (l0.length : Int) > 80 then (diwanlaw9_UlogHas.j0 k l0 l1 a2 true) else (diwanlaw9_UlogHas.j0 k l0 l1 a2 (decide ((l1.length : Int) > 80)))) = some r := by rw [if_pos rfl] at H; exact H
    clear H
    have H := H1
    clear H1
    have HC6 := Aside0.mk H
    clear H
    go_enter Try.func7, Try.ntmps7
    go_upto_region 3 with (first | ((with_reducible refine gate_callee (f := 8) rfl ?_); refine goesL_ (some 13) rfl rfl Try.func8 (by kernel_rfl) rfl #[] rfl (by (try simp only [List.map_toArray, List.map_cons, List.map_nil]); first | done | rfl | (simp only [List.length_drop, List.length_take]; rfl)) ?_; (with_reducible refine (diwanlaw9_begun.calls k  true _ A4.out ⟨rfl⟩).mono ?_); rintro e w7 ⟨rfl, hb⟩; refine ⟨_, rfl, ?_⟩; have n0_ := Aside0.mk (below_step (by repeat (first | (with_reducible first | exact HB.out | apply below_alloc | apply pw_below_drewN | apply below_drew1) | exact HB.out)) hb); clear HB; have HB := n0_; clear n0_; (try clear hb); (try clear hb2); (try clear hk); (try clear hi); (try clear hgn_)))
    (try simp only [Act.put, List.setIfInBounds_toArray, List.set_cons_zero, List.set_cons_succ])
    go_cut [22] (fun v22 wc => ∃ (kq : Nat) (x22_5 : Bool), v22 = .bool x22_5 ∧ Aside0 (diwanlaw9_UlogHas.j0 kq l0 l1 a2 x22_5 = some r) ∧ Aside0 (kq ≤ k) ∧ Aside0 (Below w.heap.size w wc))
    case first =>
      have H := HC6.out
      clear HC6
      by_cases c8 : (l0.length : Int) > 80
      · rw [if_pos c8] at H
        have c8b0 : decide (80 < (l0.length : Int)) = true := decide_eq_true c8
        have c8b1 : decide (80 < l0.length) = true := decide_eq_true (by omega)
        clear c8
        (first | rw [c8b0] | (simp only [i64_w, i32_w]; rw [c8b0]) | skip)
        have H' := Aside0.mk H
        clear H
        go_wp2
        go_meet
        case rel => exact ⟨_, (true), (by first | rfl | (simp; done) | (simp [*]; done)), H', ⟨by first | omega | exact Nat.le_refl _⟩, ⟨by repeat (first | (with_reducible first | exact HB.out | apply below_alloc | apply pw_below_drewN | apply below_drew1) | exact HB.out)⟩⟩
      · rw [if_neg c8] at H
        have c8b0 : decide (80 < (l0.length : Int)) = false := decide_eq_false c8
        have c8b1 : decide (80 < l0.length) = false := decide_eq_false (by omega)
        clear c8
        (first | rw [c8b0] | (simp only [i64_w, i32_w]; rw [c8b0]) | skip)
        have H' := Aside0.mk H
        clear H
        go_wp2
        go_meet
        case rel => exact ⟨_, (decide ((l1.length : Int) > 80)), (by first | rfl | (simp; done) | (simp [*]; done)), H', ⟨by first | omega | exact Nat.le_refl _⟩, ⟨by repeat (first | (with_reducible first | exact HB.out | apply below_alloc | apply pw_below_drewN | apply below_drew1) | exact HB.out)⟩⟩
    case rest =>
      clear HC6
      try clear c1
      try clear p2
      try clear c5
      try clear c7
      try clear c8
      try clear c8b0
      try clear c8b1
      obtain ⟨kq, x22_5, rfl, HA, HJ5, HB⟩ := hcut
      cases kq with
      | zero => exact absurd HA.out (by simp [diwanlaw9_UlogHas.j0])
      | succ kj5 =>
        have H := HA.out
        clear HA
        simp only [diwanlaw9_UlogHas.j0] at H
        by_cases c9 : x22_5 = true
        · subst c9
          have H1 : (some true) = some r := by rw [if_pos rfl] at H; exact H
          clear H
          have H := H1
          clear H1
          obtain rfl := Option.some.inj H
          go_wp2
          go_ret
          exact ⟨by first | rfl | (simp [errW_none, errW_some] <;> rfl) | (simp [*, errW_none, errW_some] <;> rfl), by repeat (first | (with_reducible first | exact HB.out | apply below_alloc | apply pw_below_drewN | apply below_drew1) | exact HB.out)⟩
        · replace c9 := Bool.eq_false_iff.mpr c9
          subst c9
          have H1 : ((diwanplay_Made.f l0).bind fun bt508 => ((diwanplay_Picks_Log.f kj5 bt508.1 bt508.2 7).bind fun bt511 => ((diwanplay_Made.f l1).bind fun bt515 => ((diwanplay_Picks_Log.f kj5 bt515.1 bt515.2 4).bind fun bt518 => (if (wrap64 ((bt511.1.length : Int) + 1)) = 0 then (none) else ((ulog_Join.f kj5 bt511.1 (Int.tmod (wrap64 (a2)) (wrap64 ((bt511.1.length : Int) + 1))) bt518.1).bind fun t522 => (diwanlaw9_UlogHas.l0 kj5 bt518.1 (Int.tmod (wrap64 (a2)) (wrap64 ((bt511.1.length : Int) + 1))) t522 0))))))) = some r := by rw [if_neg (show ¬ (false = true) by decide)] at H; exact H
          clear H
          have H := H1
          clear H1
          replace H := Option.bind_eq_some_iff.mp H
          obtain ⟨⟨t508, t509⟩, A100, H⟩ := H
          replace H : ((diwanplay_Picks_Log.f kj5 t508 t509 7).bind fun bt511 => ((diwanplay_Made.f l1).bind fun bt515 => ((diwanplay_Picks_Log.f kj5 bt515.1 bt515.2 4).bind fun bt518 => (if (wrap64 ((bt511.1.length : Int) + 1)) = 0 then (none) else ((ulog_Join.f kj5 bt511.1 (Int.tmod (wrap64 (a2)) (wrap64 ((bt511.1.length : Int) + 1))) bt518.1).bind fun t522 => (diwanlaw9_UlogHas.l0 kj5 bt518.1 (Int.tmod (wrap64 (a2)) (wrap64 ((bt511.1.length : Int) + 1))) t522 0)))))) = some r := H
          have A10 := Aside0.mk A100
          clear A100
          replace H := Option.bind_eq_some_iff.mp H
          obtain ⟨⟨t511, t514⟩, A110, H⟩ := H
          replace H : ((diwanplay_Made.f l1).bind fun bt515 => ((diwanplay_Picks_Log.f kj5 bt515.1 bt515.2 4).bind fun bt518 => (if (wrap64 ((t511.length : Int) + 1)) = 0 then (none) else ((ulog_Join.f kj5 t511 (Int.tmod (wrap64 (a2)) (wrap64 ((t511.length : Int) + 1))) bt518.1).bind fun t522 => (diwanlaw9_UlogHas.l0 kj5 bt518.1 (Int.tmod (wrap64 (a2)) (wrap64 ((t511.length : Int) + 1))) t522 0))))) = some r := H
          have A11 := Aside0.mk A110
          clear A110
          replace H := Option.bind_eq_some_iff.mp H
          obtain ⟨⟨t515, t516⟩, A120, H⟩ := H
          replace H : ((diwanplay_Picks_Log.f kj5 t515 t516 4).bind fun bt518 => (if (wrap64 ((t511.length : Int) + 1)) = 0 then (none) else ((ulog_Join.f kj5 t511 (Int.tmod (wrap64 (a2)) (wrap64 ((t511.length : Int) + 1))) bt518.1).bind fun t522 => (diwanlaw9_UlogHas.l0 kj5 bt518.1 (Int.tmod (wrap64 (a2)) (wrap64 ((t511.length : Int) + 1))) t522 0)))) = some r := H
          have A12 := Aside0.mk A120
          clear A120
          replace H := Option.bind_eq_some_iff.mp H
          obtain ⟨⟨t518, t521⟩, A130, H⟩ := H
          replace H : (if (wrap64 ((t511.length : Int) + 1)) = 0 then (none) else ((ulog_Join.f kj5 t511 (Int.tmod (wrap64 (a2)) (wrap64 ((t511.length : Int) + 1))) t518).bind fun t522 => (diwanlaw9_UlogHas.l0 kj5 t518 (Int.tmod (wrap64 (a2)) (wrap64 ((t511.length : Int) + 1))) t522 0))) = some r := H
          have A13 := Aside0.mk A130
          clear A130
          by_cases c14 : (wrap64 ((t511.length : Int) + 1)) = 0
          · rw [if_pos c14] at H
            exact absurd H (by simp)
          · rw [if_neg c14] at H
            have c14b0 : ((wrap64 ((t511.length : Int) + 1)) == 0) = false := beq_eq_false_iff_ne.mpr c14
            have c14b1 : ((wrap64 ((t511.length : Int) + 1)) != 0) = true := bne_iff_ne.mpr c14
            replace H := Option.bind_eq_some_iff.mp H
            obtain ⟨t522, A150, H⟩ := H
            replace H : (diwanlaw9_UlogHas.l0 kj5 t518 (Int.tmod (wrap64 (a2)) (wrap64 ((t511.length : Int) + 1))) t522 0) = some r := H
            have A15 := Aside0.mk A150
            clear A150
            have H' := Aside0.mk H
            clear H
            go_wp2_with (first | ((with_reducible refine gate_callee (f := 9) rfl ?_); refine goesL_ (some 24) rfl rfl Try.func9 (by kernel_rfl) rfl #[.slice A0 l0.length c0] rfl (by (try simp only [List.map_toArray, List.map_cons, List.map_nil]); first | done | rfl | (simp only [List.length_drop, List.length_take]; rfl)) ?_; (with_reducible refine (diwanplay_Made.calls _ _ l0 t508 t509 w _ ?side1 ?side2 ?side3 A10.out).mono ?_); (case side1 => repeat (first | (with_reducible first | exact HB.out | apply below_alloc | apply pw_below_drewN | apply below_drew1) | exact HB.out)); (case side2 => exact HR0.out); (case side3 => exact HC0.out); rintro e w16 ⟨g510, rfl, hi, hb, hb2, hgn_⟩; refine ⟨_, rfl, ?_⟩; have n0_ := Aside0.mk (hb); have n1_ := Aside0.mk (hi); clear HB; have HB := n0_; have HI510 := n1_; clear n0_ n1_; (try clear hb); (try clear hb2); (try clear hk); (try clear hi); (try clear hgn_)) | ((with_reducible refine gate_callee (f := 10) rfl ?_); refine goesL_ (some 25) rfl rfl Try.func10 (by kernel_rfl) rfl #[.pointer (some ⟨g510, 0, none⟩), .int .i64 7] rfl (by (try simp only [List.map_toArray, List.map_cons, List.map_nil]); first | done | rfl | (simp only [List.length_drop, List.length_take]; rfl)) ?_; (with_reducible refine (diwanplay_Picks_Log.calls kj5 g510 t508 t509 7 t511 t514 w _ ?side1 ?side2 A11.out).mono ?_); (case side1 => repeat (first | (with_reducible first | exact HI510.out | apply IsS43.alloc | apply IsS43.drewN | apply IsS43.drew | apply IsS43.set_1) | exact HI510.out)); (case side2 => repeat (first | (with_reducible first | exact HB.out | apply below_alloc | apply pw_below_drewN | apply below_drew1 | refine below_set ?_ (IsS43.ge HI510.out)) | exact HB.out)); rintro e w17 ⟨v512, rfl, ho0, hi, hb, hk⟩; refine ⟨_, rfl, ?_⟩; have n0_ := Aside0.mk (Kd.N_lower (Kd.N_mono (ok' := fun k_ => k_ ≠ g510) (Kd.S_N (Kd.S_bound ho0)) (fun k_ hk_ => (IsS43.fresh (by repeat (first | (with_reducible first | exact HI510.out | apply IsS43.alloc | apply IsS43.drewN | apply IsS43.drew | apply IsS43.set_1) | exact HI510.out)) k_ hk_.2.1))) (below_size (by repeat (first | (with_reducible first | exact HB.out | apply below_alloc | apply pw_below_drewN | apply below_drew1 | refine below_set ?_ (IsS43.ge HI510.out)) | exact HB.out)))); have n1_ := Aside0.mk (hb); have n2_ := Aside0.mk (hi); clear HB; clear HI510; have HO513 := n0_; have HB := n1_; have HI510 := n2_; clear n0_ n1_ n2_; (try clear hb); (try clear hb2); (try clear hk); (try clear hi); (try clear hgn_); (try clear ho0)) | ((with_reducible refine gate_callee (f := 9) rfl ?_); refine goesL_ (some 27) rfl rfl Try.func9 (by kernel_rfl) rfl #[.slice A1 l1.length c1] rfl (by (try simp only [List.map_toArray, List.map_cons, List.map_nil]); first | done | rfl | (simp only [List.length_drop, List.length_take]; rfl)) ?_; (with_reducible refine (diwanplay_Made.calls _ _ l1 t515 t516 w _ ?side1 ?side2 ?side3 A12.out).mono ?_); (case side1 => repeat (first | (with_reducible first | exact HB.out | apply below_alloc | apply pw_below_drewN | apply below_drew1 | refine below_set ?_ (IsS43.ge HI510.out)) | exact HB.out)); (case side2 => exact HR1.out); (case side3 => exact HC1.out); rintro e w18 ⟨g517, rfl, hi, hb, hb2, hgn_⟩; refine ⟨_, rfl, ?_⟩; have n0_ := Aside0.mk (Kd.N_below (Kd.N_elderB (by (with_reducible repeat (first | apply Kd.N_alloc | apply Kd.N_drewN | apply Kd.N_drew)); exact HO513.out) g517 hgn_) hb2); have n1_ := Aside0.mk (hb); have n2_ := Aside0.mk (hi); clear HO513; clear HB; have HO513 := n0_; have HB := n1_; have HI517 := n2_; clear n0_ n1_ n2_; (try clear hb); (try clear hb2); (try clear hk); (try clear hi); (try clear hgn_)) | ((with_reducible refine gate_callee (f := 10) rfl ?_); refine goesL_ (some 28) rfl rfl Try.func10 (by kernel_rfl) rfl #[.pointer (some ⟨g517, 0, none⟩), .int .i64 4] rfl (by (try simp only [List.map_toArray, List.map_cons, List.map_nil]); first | done | rfl | (simp only [List.length_drop, List.length_take]; rfl)) ?_; (with_reducible refine (diwanplay_Picks_Log.calls kj5 g517 t515 t516 4 t518 t521 w _ ?side1 ?side2 A13.out).mono ?_); (case side1 => repeat (first | (with_reducible first | exact HI517.out | apply IsS43.alloc | apply IsS43.drewN | apply IsS43.drew | apply IsS43.set_1) | exact HI517.out)); (case side2 => repeat (first | (with_reducible first | exact HB.out | apply below_alloc | apply pw_below_drewN | apply below_drew1 | refine below_set ?_ (IsS43.ge HI517.out)) | exact HB.out)); rintro e w19 ⟨v519, rfl, ho0, hi, hb, hk⟩; refine ⟨_, rfl, ?_⟩; have n0_ := Aside0.mk (Kd.N_mono (Kd.N_told (Kd.N_oldK (Kd.N_mono (ok := fun k_ => (k_ ≠ g510 ∧ k_ ≠ g517)) (by (with_reducible repeat (first | apply Kd.N_alloc | apply Kd.N_drewN | apply Kd.N_drew)); exact HO513.out) (fun k_ hk_ => (⟨hk_, hk_.2⟩ : _ ∧ k_ ≠ g517))) hk) (Kd.S_base ho0)) (fun _ h_ => h_.1)); have n1_ := Aside0.mk (Kd.N_lower (Kd.N_mono (ok' := fun k_ => some k_ ≠ (v512 : Value).ownBlock ∧ k_ ≠ g517) (Kd.S_N (Kd.S_bound ho0)) (fun k_ hk_ => ⟨(Kd.fresh' (Kd.N_lt (by (with_reducible repeat (first | apply Kd.N_alloc | apply Kd.N_drewN | apply Kd.N_drew)); exact HO513.out)) k_ hk_.2.1), (IsS43.fresh (by repeat (first | (with_reducible first | exact HI517.out | apply IsS43.alloc | apply IsS43.drewN | apply IsS43.drew | apply IsS43.set_1) | exact HI517.out)) k_ hk_.2.1)⟩)) (below_size (by repeat (first | (with_reducible first | exact HB.out | apply below_alloc | apply pw_below_drewN | apply below_drew1 | refine below_set ?_ (IsS43.ge HI517.out)) | exact HB.out)))); have n2_ := Aside0.mk (hb); have n3_ := Aside0.mk (hi); clear HO513; clear HB; clear HI517; have HO513 := n0_; have HO520 := n1_; have HB := n2_; have HI517 := n3_; clear n0_ n1_ n2_ n3_; (try clear hb); (try clear hb2); (try clear hk); (try clear hi); (try clear hgn_); (try clear ho0); obtain ⟨Ao20, co20, eo20⟩ := Kd.N_slice HO513.out; subst eo20; obtain ⟨Ao21, co21, eo21⟩ := Kd.N_slice HO520.out; subst eo21) | ((with_reducible refine gate_callee (f := 16) rfl ?_); refine goesL_ (some 38) rfl rfl Try.func16 (by kernel_rfl) rfl #[.slice Ao20 t511.length co20, .int .i64 (Int.tmod (wrap64 (a2)) (wrap64 ((t511.length : Int) + 1))), .slice Ao21 t518.length co21] rfl (by (try simp only [List.map_toArray, List.map_cons, List.map_nil]); first | done | rfl | (simp only [List.length_drop, List.length_take]; rfl)) ?_; (with_reducible refine (ulog_Join.calls kj5 (fun k_ => ((k_ ≠ g510 ∧ k_ ≠ g517) ∧ some k_ ≠ (.slice Ao21 t518.length co21 : Value).ownBlock)) _ _ t511 (Int.tmod (wrap64 (a2)) (wrap64 ((t511.length : Int) + 1))) (fun k_ => (some k_ ≠ (.slice Ao20 t511.length co20 : Value).ownBlock ∧ k_ ≠ g517)) _ _ t518 t522 _ ?side1 ?side2 A15.out).mono ?_); (case side1 => exact Kd.N_V (HO513.out)); (case side2 => exact Kd.N_V (HO520.out)); rintro e w22 ⟨v523, rfl, ho0, hb⟩; refine ⟨_, rfl, ?_⟩; have n0_ := Aside0.mk (Kd.N_elder' (by (with_reducible repeat (first | apply Kd.N_alloc | apply Kd.N_drewN | apply Kd.N_drew)); exact HO513.out) (Kd.N_base ho0) hb); have n1_ := Aside0.mk (Kd.N_elder' (by (with_reducible repeat (first | apply Kd.N_alloc | apply Kd.N_drewN | apply Kd.N_drew)); exact HO520.out) (Kd.N_base ho0) hb); have n2_ := Aside0.mk (Kd.N_lower (Kd.N_mono (ok' := fun k_ => k_ ≠ g517) ho0 (fun k_ hk_ => Or.elim hk_ (fun hs_ => Or.elim hs_ (fun hs_ => hs_.1.2) (fun hs_ => hs_.2)) (fun hn_ => (IsS43.fresh (by repeat (first | (with_reducible first | exact HI517.out | apply IsS43.alloc | apply IsS43.drewN | apply IsS43.drew | apply IsS43.set_1) | exact HI517.out)) k_ hn_)))) (below_size (by repeat (first | (with_reducible first | exact HB.out | apply below_alloc | apply pw_below_drewN | apply below_drew1 | refine below_set ?_ (IsS43.ge HI517.out)) | exact HB.out)))); have n3_ := Aside0.mk (IsS43.below (by repeat (first | (with_reducible first | exact HI517.out | apply IsS43.alloc | apply IsS43.drewN | apply IsS43.drew | apply IsS43.set_1) | exact HI517.out)) hb); have n4_ := Aside0.mk (below_step (by repeat (first | (with_reducible first | exact HB.out | apply below_alloc | apply pw_below_drewN | apply below_drew1 | refine below_set ?_ (IsS43.ge HI517.out)) | exact HB.out)) hb); clear HO513; clear HO520; clear HI517; clear HB; have HO513 := n0_; have HO520 := n1_; have HO524 := n2_; have HI517 := n3_; have HB := n4_; clear n0_ n1_ n2_ n3_ n4_; (try clear hb); (try clear hb2); (try clear hk); (try clear hi); (try clear hgn_); (try clear ho0)))
            go_loopg [11] kj5 (fun kq v11 w' => ∃ (x11_2 : Int), v11 = .int .i64 x11_2 ∧ Aside0 (diwanlaw9_UlogHas.l0 kq t518 (Int.tmod (wrap64 (a2)) (wrap64 ((t511.length : Int) + 1))) t522 x11_2 = some r) ∧ Aside0 (kq ≤ kj5) ∧ Aside0 (Kd.N k39 39 w' w.heap.size (fun k_ => some k_ ≠ (v523 : Value).ownBlock) (.slice Ao21 t518.length co21) t518) ∧ Aside0 (Kd.N k39 39 w' w.heap.size (fun _ => True) v523 t522) ∧ Aside0 (Below w.heap.size w w'))
            case atStart => exact ⟨(0), (by first | rfl | (simp; done) | (simp [*]; done)), H', ⟨Nat.le_refl _⟩, ⟨by (with_reducible repeat (first | apply Kd.N_alloc | apply Kd.N_drewN | apply Kd.N_drew)); exact Kd.N_mono HO520.out (fun _ hk => hk.2)⟩, ⟨by (with_reducible repeat (first | apply Kd.N_alloc | apply Kd.N_drewN | apply Kd.N_drew)); exact Kd.N_mono HO524.out (fun _ hk => trivial)⟩, ⟨by repeat (first | (with_reducible first | exact HB.out | apply below_alloc | apply pw_below_drewN | apply below_drew1 | refine below_set ?_ (IsS43.ge HI517.out)) | exact HB.out)⟩⟩
            case round =>
              clear H'
              try clear c1
              try clear p2
              try clear c5
              try clear p6
              try clear c7
              try clear c8
              try clear c8b0
              try clear c8b1
              try clear c9
              try clear c10
              try clear c14
              try clear c14b0
              try clear c14b1
              try clear c16
              try clear p2
              obtain ⟨x11_2, rfl, HA, HK2, HO_8, HO_10, HB⟩ := hrel
              cases gk with
              | zero => exact absurd HA.out (by simp [diwanlaw9_UlogHas.l0])
              | succ k2 =>
                have H := HA.out
                clear HA
                simp only [diwanlaw9_UlogHas.l0] at H
                by_cases c23 : x11_2 < (t518.length : Int)
                · rw [if_pos c23] at H
                  have c23b0 : decide (x11_2 < (t518.length : Int)) = true := decide_eq_true c23
                  clear c23
                  have HC24 := Aside0.mk H
                  clear H
                  go_upto_region 11 with (fail)
                  go_cut [70] (fun v70 wc => ∃ (kq : Nat) (x70_23 : Bool), v70 = .bool x70_23 ∧ Aside0 (diwanlaw9_UlogHas.j2 kq t518 (Int.tmod (wrap64 (a2)) (wrap64 ((t511.length : Int) + 1))) t522 x11_2 x70_23 = some r) ∧ Aside0 (kq ≤ k2) ∧ Aside0 (Kd.N k39 39 wc w.heap.size (fun k_ => some k_ ≠ (v523 : Value).ownBlock) (.slice Ao21 t518.length co21) t518) ∧ Aside0 (Kd.N k39 39 wc w.heap.size (fun _ => True) v523 t522) ∧ Aside0 (Below w.heap.size w wc))
                  case first =>
                    have H := HC24.out
                    clear HC24
                    by_cases c25 : 0 ≤ x11_2
                    · rw [if_pos c25] at H
                      have c25b0 : decide (0 ≤ x11_2) = true := decide_eq_true c25
                      clear c25
                      (first | rw [c25b0] | (simp only [i64_w, i32_w]; rw [c25b0]) | skip)
                      replace H := Option.bind_eq_some_iff.mp H
                      obtain ⟨t526, A260, H⟩ := H
                      replace H : (if t526 = true then ((ulog_Has.f k2 t522 (wrap64 ((wrap64 ((Int.tmod (wrap64 (a2)) (wrap64 ((t511.length : Int) + 1))) + x11_2)) + 1)) (wrap64 (((rd_T39 t518 x11_2).f0) + 1))).bind fun t528 => (diwanlaw9_UlogHas.j2 k2 t518 (Int.tmod (wrap64 (a2)) (wrap64 ((t511.length : Int) + 1))) t522 x11_2 t528)) else (diwanlaw9_UlogHas.j2 k2 t518 (Int.tmod (wrap64 (a2)) (wrap64 ((t511.length : Int) + 1))) t522 x11_2 true)) = some r := H
                      have A26 := Aside0.mk A260
                      clear A260
                      by_cases c27 : t526 = true
                      · subst c27
                        have H1 : ((ulog_Has.f k2 t522 (wrap64 ((wrap64 ((Int.tmod (wrap64 (a2)) (wrap64 ((t511.length : Int) + 1))) + x11_2)) + 1)) (wrap64 (((rd_T39 t518 x11_2).f0) + 1))).bind fun t528 => (diwanlaw9_UlogHas.j2 k2 t518 (Int.tmod (wrap64 (a2)) (wrap64 ((t511.length : Int) + 1))) t522 x11_2 t528)) = some r := by rw [if_pos rfl] at H; exact H
                        clear H
                        have H := H1
                        clear H1
                        replace H := Option.bind_eq_some_iff.mp H
                        obtain ⟨t528, A280, H⟩ := H
                        replace H : (diwanlaw9_UlogHas.j2 k2 t518 (Int.tmod (wrap64 (a2)) (wrap64 ((t511.length : Int) + 1))) t522 x11_2 t528) = some r := H
                        have A28 := Aside0.mk A280
                        clear A280
                        have H' := Aside0.mk H
                        clear H
                        have p525 : 0 ≤ (x11_2 : Int) := of_decide_eq_true (by first | (with_reducible assumption) | assumption)
                        have q525 : x11_2 < (t518.length : Int) := of_decide_eq_true (by first | (with_reducible assumption) | assumption)
                        obtain ⟨ad525, A525_4, c525_4, A525_5, c525_5, e525, hx525_0, hx525_1, hx525_2, hx525_3, hx525_4, hx525_5, hl525_4, hi525_4, hl525_5, hi525_5⟩ := at_T39 (Kd.N_reads' HO_8.out).2.2 x11_2 p525 q525
                        cases e525
                        obtain ⟨ce525, hce525, hMe525, hcc525⟩ := Kd.N_get HO_8.out z39 x11_2 p525 (by first | exact q525 | exact of_decide_eq_true (by first | (with_reducible assumption) | assumption) | (have e_ := (Kd.N_reads' HO_8.out).1; omega))
                        obtain ⟨ua525_4, uc525_4, ua525_5, uc525_5, rfl, ul525_4, ge525_4, ul525_5, ge525_5⟩ := k39_openF hMe525
                        have hv525_4 := hcc525 4 _ rfl
                        rw [add_field _ _ 4 (by omega)] at hv525_4
                        replace hv525_4 := Option.some.inj (hv525_4.symm.trans hx525_4)
                        injection hv525_4 with hva_ hvn_ hvc_
                        rw [hva_] at ge525_4
                        rw [hvc_] at ul525_4
                        have HL525_4 := Aside0.mk (show Kd.V k55 55 _ w.heap.size _ _ ((rd_T39 t518 x11_2).f2.f2) from Kd.V_mk ul525_4 ge525_4)
                        clear hva_ hvn_ hvc_ ge525_4 ul525_4
                        have hv525_5 := hcc525 5 _ rfl
                        rw [add_field _ _ 5 (by omega)] at hv525_5
                        replace hv525_5 := Option.some.inj (hv525_5.symm.trans hx525_5)
                        injection hv525_5 with hva_ hvn_ hvc_
                        rw [hva_] at ge525_5
                        rw [hvc_] at ul525_5
                        have HL525_5 := Aside0.mk (show Kd.V k58 58 _ w.heap.size _ _ ((rd_T39 t518 x11_2).f2.f3) from Kd.V_mk ul525_5 ge525_5)
                        clear hva_ hvn_ hvc_ ge525_5 ul525_5
                        clear hcc525 hce525
                        have HR525_4 := Aside0.mk hi525_4
                        have HC525_4 := Aside0.mk hl525_4
                        clear hi525_4 hl525_4
                        have HR525_5 := Aside0.mk hi525_5
                        have HC525_5 := Aside0.mk hl525_5
                        clear hi525_5 hl525_5
                        replace p525 := eq_true p525
                        replace q525 := eq_true q525
                        obtain ⟨Ao29, co29, eo29⟩ := Kd.N_slice HO_10.out
                        subst eo29
                        go_wp2_with (first | ((with_reducible refine gate_callee (f := 13) rfl ?_); refine goesL_ (some 55) rfl rfl Try.func13 (by kernel_rfl) rfl #[.slice Ao29 t522.length co29, .int .i64 (wrap64 ((wrap64 ((Int.tmod (wrap64 (a2)) (wrap64 ((t511.length : Int) + 1))) + x11_2)) + 1)), .int .i64 ((rd_T39 t518 x11_2).f0)] rfl (by (try simp only [List.map_toArray, List.map_cons, List.map_nil]); first | done | rfl | (simp only [List.length_drop, List.length_take]; rfl)) ?_; (with_reducible refine (ulog_Has.calls k2 _ _ t522 (wrap64 ((wrap64 ((Int.tmod (wrap64 (a2)) (wrap64 ((t511.length : Int) + 1))) + x11_2)) + 1)) ((rd_T39 t518 x11_2).f0) true _ ?side1 ?side2 A26.out).mono ?_); (case side1 => repeat (first | exact (Kd.N_reads' HO_10.out).2.2 | (with_reducible refine Kd.C_alloc ?_ _) | (with_reducible refine Kd.C_drewN ?_ _) | (with_reducible refine Kd.C_drew ?_))); (case side2 => exact (Kd.N_reads' HO_10.out).2.1); rintro e w' ⟨rfl, ⟨nd, rfl⟩⟩; refine ⟨_, rfl, ?_⟩; have p527 : 0 ≤ (x11_2 : Int) := of_decide_eq_true (by first | (with_reducible assumption) | assumption); have q527 : x11_2 < (t518.length : Int) := of_decide_eq_true (by first | (with_reducible assumption) | assumption); obtain ⟨ad527, A527_4, c527_4, A527_5, c527_5, e527, hx527_0, hx527_1, hx527_2, hx527_3, hx527_4, hx527_5, hl527_4, hi527_4, hl527_5, hi527_5⟩ := at_T39 (Kd.N_reads' HO_8.out).2.2 x11_2 p527 q527; obtain rfl : ad525 = ad527 := (by injection e527); obtain ⟨ce527, hce527, hMe527, hcc527⟩ := Kd.N_get HO_8.out z39 x11_2 p527 (by first | exact q527 | exact of_decide_eq_true (by first | (with_reducible assumption) | assumption) | (have e_ := (Kd.N_reads' HO_8.out).1; omega)); obtain ⟨ua527_4, uc527_4, ua527_5, uc527_5, rfl, ul527_4, ge527_4, ul527_5, ge527_5⟩ := k39_openF hMe527; have hv527_4 := hcc527 4 _ rfl; rw [add_field _ _ 4 (by omega)] at hv527_4; replace hv527_4 := Option.some.inj (hv527_4.symm.trans hx527_4); injection hv527_4 with hva_ hvn_ hvc_; rw [hva_] at ge527_4; rw [hvc_] at ul527_4; have HL527_4 := Aside0.mk (show Kd.V k55 55 _ w.heap.size _ _ ((rd_T39 t518 x11_2).f2.f2) from Kd.V_mk ul527_4 ge527_4); clear hva_ hvn_ hvc_ ge527_4 ul527_4; have hv527_5 := hcc527 5 _ rfl; rw [add_field _ _ 5 (by omega)] at hv527_5; replace hv527_5 := Option.some.inj (hv527_5.symm.trans hx527_5); injection hv527_5 with hva_ hvn_ hvc_; rw [hva_] at ge527_5; rw [hvc_] at ul527_5; have HL527_5 := Aside0.mk (show Kd.V k58 58 _ w.heap.size _ _ ((rd_T39 t518 x11_2).f2.f3) from Kd.V_mk ul527_5 ge527_5); clear hva_ hvn_ hvc_ ge527_5 ul527_5; clear hcc527 hce527; have HR527_4 := Aside0.mk hi527_4; have HC527_4 := Aside0.mk hl527_4; clear hi527_4 hl527_4; have HR527_5 := Aside0.mk hi527_5; have HC527_5 := Aside0.mk hl527_5; clear hi527_5 hl527_5; replace p527 := eq_true p527; replace q527 := eq_true q527; have ea_ := Option.some.inj (hx525_4.symm.trans hx527_4); injection ea_ with ea_ en_ ec_; subst ea_; subst ec_; clear en_; have ea_ := Option.some.inj (hx525_5.symm.trans hx527_5); injection ea_ with ea_ en_ ec_; subst ea_; subst ec_; clear en_) | (go_at_call 13; (with_reducible refine (ulog_Has.calls k2 _ _ t522 (wrap64 ((wrap64 ((Int.tmod (wrap64 (a2)) (wrap64 ((t511.length : Int) + 1))) + x11_2)) + 1)) (wrap64 (((rd_T39 t518 x11_2).f0) + 1)) t528 _ ?side1 ?side2 A28.out).mono ?_); (case side1 => repeat (first | exact (Kd.N_reads' HO_10.out).2.2 | (with_reducible refine Kd.C_alloc ?_ _) | (with_reducible refine Kd.C_drewN ?_ _) | (with_reducible refine Kd.C_drew ?_))); (case side2 => exact (Kd.N_reads' HO_10.out).2.1); rintro e w' ⟨rfl, ⟨nd, rfl⟩⟩))
                        go_meet
                        case rel => exact ⟨_, (t528), (by first | rfl | (simp; done) | (simp [*]; done)), H', ⟨by have := HJ5.out; have := HK2.out; first | omega | exact Nat.le_refl _⟩, ⟨by (with_reducible repeat (first | apply Kd.N_alloc | apply Kd.N_drewN | apply Kd.N_drew)); exact HO_8.out⟩, ⟨by (with_reducible repeat (first | apply Kd.N_alloc | apply Kd.N_drewN | apply Kd.N_drew)); exact HO_10.out⟩, ⟨by repeat (first | (with_reducible first | exact HB.out | apply below_alloc | apply pw_below_drewN | apply below_drew1) | exact HB.out)⟩⟩
                      · replace c27 := Bool.eq_false_iff.mpr c27
                        subst c27
                        have H1 : (diwanlaw9_UlogHas.j2 k2 t518 (Int.tmod (wrap64 (a2)) (wrap64 ((t511.length : Int) + 1))) t522 x11_2 true) = some r := by rw [if_neg (show ¬ (false = true) by decide)] at H; exact H
                        clear H
                        have H := H1
                        clear H1
                        have H' := Aside0.mk H
                        clear H
                        have p525 : 0 ≤ (x11_2 : Int) := of_decide_eq_true (by first | (with_reducible assumption) | assumption)
                        have q525 : x11_2 < (t518.length : Int) := of_decide_eq_true (by first | (with_reducible assumption) | assumption)
                        obtain ⟨ad525, A525_4, c525_4, A525_5, c525_5, e525, hx525_0, hx525_1, hx525_2, hx525_3, hx525_4, hx525_5, hl525_4, hi525_4, hl525_5, hi525_5⟩ := at_T39 (Kd.N_reads' HO_8.out).2.2 x11_2 p525 q525
                        cases e525
                        obtain ⟨ce525, hce525, hMe525, hcc525⟩ := Kd.N_get HO_8.out z39 x11_2 p525 (by first | exact q525 | exact of_decide_eq_true (by first | (with_reducible assumption) | assumption) | (have e_ := (Kd.N_reads' HO_8.out).1; omega))
                        obtain ⟨ua525_4, uc525_4, ua525_5, uc525_5, rfl, ul525_4, ge525_4, ul525_5, ge525_5⟩ := k39_openF hMe525
                        have hv525_4 := hcc525 4 _ rfl
                        rw [add_field _ _ 4 (by omega)] at hv525_4
                        replace hv525_4 := Option.some.inj (hv525_4.symm.trans hx525_4)
                        injection hv525_4 with hva_ hvn_ hvc_
                        rw [hva_] at ge525_4
                        rw [hvc_] at ul525_4
                        have HL525_4 := Aside0.mk (show Kd.V k55 55 _ w.heap.size _ _ ((rd_T39 t518 x11_2).f2.f2) from Kd.V_mk ul525_4 ge525_4)
                        clear hva_ hvn_ hvc_ ge525_4 ul525_4
                        have hv525_5 := hcc525 5 _ rfl
                        rw [add_field _ _ 5 (by omega)] at hv525_5
                        replace hv525_5 := Option.some.inj (hv525_5.symm.trans hx525_5)
                        injection hv525_5 with hva_ hvn_ hvc_
                        rw [hva_] at ge525_5
                        rw [hvc_] at ul525_5
                        have HL525_5 := Aside0.mk (show Kd.V k58 58 _ w.heap.size _ _ ((rd_T39 t518 x11_2).f2.f3) from Kd.V_mk ul525_5 ge525_5)
                        clear hva_ hvn_ hvc_ ge525_5 ul525_5
                        clear hcc525 hce525
                        have HR525_4 := Aside0.mk hi525_4
                        have HC525_4 := Aside0.mk hl525_4
                        clear hi525_4 hl525_4
                        have HR525_5 := Aside0.mk hi525_5
                        have HC525_5 := Aside0.mk hl525_5
                        clear hi525_5 hl525_5
                        replace p525 := eq_true p525
                        replace q525 := eq_true q525
                        obtain ⟨Ao30, co30, eo30⟩ := Kd.N_slice HO_10.out
                        subst eo30
                        go_wp2_with (first | ((with_reducible refine gate_callee (f := 13) rfl ?_); refine goesL_ (some 55) rfl rfl Try.func13 (by kernel_rfl) rfl #[.slice Ao30 t522.length co30, .int .i64 (wrap64 ((wrap64 ((Int.tmod (wrap64 (a2)) (wrap64 ((t511.length : Int) + 1))) + x11_2)) + 1)), .int .i64 ((rd_T39 t518 x11_2).f0)] rfl (by (try simp only [List.map_toArray, List.map_cons, List.map_nil]); first | done | rfl | (simp only [List.length_drop, List.length_take]; rfl)) ?_; (with_reducible refine (ulog_Has.calls k2 _ _ t522 (wrap64 ((wrap64 ((Int.tmod (wrap64 (a2)) (wrap64 ((t511.length : Int) + 1))) + x11_2)) + 1)) ((rd_T39 t518 x11_2).f0) false _ ?side1 ?side2 A26.out).mono ?_); (case side1 => repeat (first | exact (Kd.N_reads' HO_10.out).2.2 | (with_reducible refine Kd.C_alloc ?_ _) | (with_reducible refine Kd.C_drewN ?_ _) | (with_reducible refine Kd.C_drew ?_))); (case side2 => exact (Kd.N_reads' HO_10.out).2.1); rintro e w' ⟨rfl, ⟨nd, rfl⟩⟩; refine ⟨_, rfl, ?_⟩))
                        go_meet
                        case rel => exact ⟨_, (true), (by first | rfl | (simp; done) | (simp [*]; done)), H', ⟨by have := HJ5.out; have := HK2.out; first | omega | exact Nat.le_refl _⟩, ⟨by (with_reducible repeat (first | apply Kd.N_alloc | apply Kd.N_drewN | apply Kd.N_drew)); exact HO_8.out⟩, ⟨by (with_reducible repeat (first | apply Kd.N_alloc | apply Kd.N_drewN | apply Kd.N_drew)); exact HO_10.out⟩, ⟨by repeat (first | (with_reducible first | exact HB.out | apply below_alloc | apply pw_below_drewN | apply below_drew1) | exact HB.out)⟩⟩
                    · rw [if_neg c25] at H
                      exact absurd H (by simp)
                  case rest =>
                    clear HC24
                    try clear c1
                    try clear c2
                    try clear p2
                    try clear c5
                    try clear p5
                    try clear q5
                    try clear hx5
                    try clear p6
                    try clear c7
                    try clear c8
                    try clear c8b0
                    try clear c8b1
                    try clear c9
                    try clear c10
                    try clear c13
                    try clear c14
                    try clear c14b0
                    try clear c14b1
                    try clear c16
                    try clear c23
                    try clear c23b0
                    try clear c25
                    try clear c25b0
                    try clear c27
                    try clear hx525_0
                    try clear hx525_1
                    try clear hx525_2
                    try clear hx525_3
                    try clear hx525_4
                    try clear hx525_5
                    try clear hx527_0
                    try clear hx527_1
                    try clear hx527_2
                    try clear hx527_3
                    try clear hx527_4
                    try clear hx527_5
                    try clear p2
                    try clear p525
                    try clear p527
                    try clear p6
                    try clear q525
                    try clear q527
                    obtain ⟨kq, x70_23, rfl, HA, HJ23, HO_8, HO_10, HB⟩ := hcut
                    cases kq with
                    | zero => exact absurd HA.out (by simp [diwanlaw9_UlogHas.j2])
                    | succ kj23 =>
                      have H := HA.out
                      clear HA
                      simp only [diwanlaw9_UlogHas.j2] at H
                      by_cases c31 : x70_23 = true
                      · subst c31
                        have H1 : (some false) = some r := by rw [if_pos rfl] at H; exact H
                        clear H
                        have H := H1
                        clear H1
                        exact absurd (Option.some.inj H) (by rw [hT.out]; decide)
                      · replace c31 := Bool.eq_false_iff.mpr c31
                        subst c31
                        have H1 : (diwanlaw9_UlogHas.l0 kj23 t518 (Int.tmod (wrap64 (a2)) (wrap64 ((t511.length : Int) + 1))) t522 (wrap64 (x11_2 + 1))) = some r := by rw [if_neg (show ¬ (false = true) by decide)] at H; exact H
                        clear H
                        have H := H1
                        clear H1
                        have H' := Aside0.mk H
                        clear H
                        go_wp2
                        go_roundg kj23
                        case measure => have := HJ5.out; have := HK2.out; have := HJ23.out; omega
                        case rel => exact ⟨(wrap64 (x11_2 + 1)), (by first | rfl | (simp; done) | (simp [*]; done)), H', ⟨by have := HJ5.out; have := HK2.out; have := HJ23.out; omega⟩, ⟨by (with_reducible repeat (first | apply Kd.N_alloc | apply Kd.N_drewN | apply Kd.N_drew)); exact HO_8.out⟩, ⟨by (with_reducible repeat (first | apply Kd.N_alloc | apply Kd.N_drewN | apply Kd.N_drew)); exact HO_10.out⟩, ⟨by repeat (first | (with_reducible first | exact HB.out | apply below_alloc | apply pw_below_drewN | apply below_drew1) | exact HB.out)⟩⟩
                · rw [if_neg c23] at H
                  have c23b0 : decide (x11_2 < (t518.length : Int)) = false := decide_eq_false c23
                  clear c23
                  have H' := Aside0.mk H
                  clear H
                  go_wp2
                  go_loopg [12] k2 (fun kq v12 w' => ∃ (x12_3 : Int), v12 = .int .i64 x12_3 ∧ Aside0 (diwanlaw9_UlogHas.l1 kq t522 x12_3 = some r) ∧ Aside0 (kq ≤ k2) ∧ Aside0 (Kd.N k39 39 w' w.heap.size (fun _ => True) v523 t522) ∧ Aside0 (Below w.heap.size w w'))
                  case atStart => exact ⟨(1), (by first | rfl | (simp; done) | (simp [*]; done)), H', ⟨Nat.le_refl _⟩, ⟨by (with_reducible repeat (first | apply Kd.N_alloc | apply Kd.N_drewN | apply Kd.N_drew)); exact HO_10.out⟩, ⟨by repeat (first | (with_reducible first | exact HB.out | apply below_alloc | apply pw_below_drewN | apply below_drew1) | exact HB.out)⟩⟩
                  case round =>
                    clear H'
                    try clear c1
                    try clear c2
                    try clear p2
                    try clear c3
                    try clear c5
                    try clear p5
                    try clear q5
                    try clear hx5
                    try clear p6
                    try clear c7
                    try clear c8
                    try clear c8b0
                    try clear c8b1
                    try clear c9
                    try clear c10
                    try clear c13
                    try clear c14
                    try clear c14b0
                    try clear c14b1
                    try clear c16
                    try clear c23
                    try clear c23b0
                    try clear c25
                    try clear c25b0
                    try clear c27
                    try clear c31
                    try clear hx525_0
                    try clear hx525_1
                    try clear hx525_2
                    try clear hx525_3
                    try clear hx525_4
                    try clear hx525_5
                    try clear hx527_0
                    try clear hx527_1
                    try clear hx527_2
                    try clear hx527_3
                    try clear hx527_4
                    try clear hx527_5
                    try clear p2
                    try clear p5
                    try clear p525
                    try clear p527
                    try clear p6
                    try clear q5
                    try clear q525
                    try clear q527
                    obtain ⟨x12_3, rfl, HA, HK3, HO_10, HB⟩ := hrel
                    cases gk with
                    | zero => exact absurd HA.out (by simp [diwanlaw9_UlogHas.l1])
                    | succ k3 =>
                      have H := HA.out
                      clear HA
                      simp only [diwanlaw9_UlogHas.l1] at H
                      by_cases c32 : x12_3 ≤ (t522.length : Int)
                      · rw [if_pos c32] at H
                        have c32b0 : decide (x12_3 ≤ (t522.length : Int)) = true := decide_eq_true c32
                        clear c32
                        have HC33 := Aside0.mk H
                        clear H
                        obtain ⟨Ao34, co34, eo34⟩ := Kd.N_slice HO_10.out
                        subst eo34
                        go_upto_region 16 with (fail)
                        go_cut [89] (fun v89 wc => ∃ (kq : Nat) (x89_32 : Bool), v89 = .bool x89_32 ∧ Aside0 (diwanlaw9_UlogHas.j4 kq t522 x12_3 x89_32 = some r) ∧ Aside0 (kq ≤ k3) ∧ Aside0 (Kd.N k39 39 wc w.heap.size (fun _ => True) (.slice Ao34 t522.length co34) t522) ∧ Aside0 (Below w.heap.size w wc))
                        case first =>
                          have H := HC33.out
                          clear HC33
                          replace H := Option.bind_eq_some_iff.mp H
                          obtain ⟨t530, A350, H⟩ := H
                          replace H : ((ulog_Has.f k3 t522 x12_3 t530).bind fun t531 => (if t531 = true then ((ulog_Term.f k3 t522 x12_3).bind fun t532 => (diwanlaw9_UlogHas.j4 k3 t522 x12_3 (decide (t532 < 1)))) else (diwanlaw9_UlogHas.j4 k3 t522 x12_3 true))) = some r := H
                          have A35 := Aside0.mk A350
                          clear A350
                          replace H := Option.bind_eq_some_iff.mp H
                          obtain ⟨t531, A360, H⟩ := H
                          replace H : (if t531 = true then ((ulog_Term.f k3 t522 x12_3).bind fun t532 => (diwanlaw9_UlogHas.j4 k3 t522 x12_3 (decide (t532 < 1)))) else (diwanlaw9_UlogHas.j4 k3 t522 x12_3 true)) = some r := H
                          have A36 := Aside0.mk A360
                          clear A360
                          by_cases c37 : t531 = true
                          · subst c37
                            have H1 : ((ulog_Term.f k3 t522 x12_3).bind fun t532 => (diwanlaw9_UlogHas.j4 k3 t522 x12_3 (decide (t532 < 1)))) = some r := by rw [if_pos rfl] at H; exact H
                            clear H
                            have H := H1
                            clear H1
                            replace H := Option.bind_eq_some_iff.mp H
                            obtain ⟨t532, A380, H⟩ := H
                            replace H : (diwanlaw9_UlogHas.j4 k3 t522 x12_3 (decide (t532 < 1))) = some r := H
                            have A38 := Aside0.mk A380
                            clear A380
                            have H' := Aside0.mk H
                            clear H
                            go_wp2_with (first | ((with_reducible refine gate_callee (f := 11) rfl ?_); refine goesL_ (some 81) rfl rfl Try.func11 (by kernel_rfl) rfl #[.slice Ao34 t522.length co34, .int .i64 x12_3] rfl (by (try simp only [List.map_toArray, List.map_cons, List.map_nil]); first | done | rfl | (simp only [List.length_drop, List.length_take]; rfl)) ?_; (with_reducible refine (ulog_Term.calls k3 _ _ t522 x12_3 t530 _ ?side1 ?side2 A35.out).mono ?_); (case side1 => repeat (first | exact (Kd.N_reads' HO_10.out).2.2 | (with_reducible refine Kd.C_alloc ?_ _) | (with_reducible refine Kd.C_drewN ?_ _) | (with_reducible refine Kd.C_drew ?_))); (case side2 => exact (Kd.N_reads' HO_10.out).2.1); rintro e w' ⟨rfl, ⟨nd, rfl⟩⟩; refine ⟨_, rfl, ?_⟩) | ((with_reducible refine gate_callee (f := 13) rfl ?_); refine goesL_ (some 82) rfl rfl Try.func13 (by kernel_rfl) rfl #[.slice Ao34 t522.length co34, .int .i64 x12_3, .int .i64 t530] rfl (by (try simp only [List.map_toArray, List.map_cons, List.map_nil]); first | done | rfl | (simp only [List.length_drop, List.length_take]; rfl)) ?_; (with_reducible refine (ulog_Has.calls k3 _ _ t522 x12_3 t530 true _ ?side1 ?side2 A36.out).mono ?_); (case side1 => repeat (first | exact (Kd.N_reads' HO_10.out).2.2 | (with_reducible refine Kd.C_alloc ?_ _) | (with_reducible refine Kd.C_drewN ?_ _) | (with_reducible refine Kd.C_drew ?_))); (case side2 => exact (Kd.N_reads' HO_10.out).2.1); rintro e w' ⟨rfl, ⟨nd, rfl⟩⟩; refine ⟨_, rfl, ?_⟩) | (go_at_call 11; (with_reducible refine (ulog_Term.calls k3 _ _ t522 x12_3 t532 _ ?side1 ?side2 A38.out).mono ?_); (case side1 => repeat (first | exact (Kd.N_reads' HO_10.out).2.2 | (with_reducible refine Kd.C_alloc ?_ _) | (with_reducible refine Kd.C_drewN ?_ _) | (with_reducible refine Kd.C_drew ?_))); (case side2 => exact (Kd.N_reads' HO_10.out).2.1); rintro e w' ⟨rfl, ⟨nd, rfl⟩⟩))
                            go_meet
                            case rel => exact ⟨_, (decide (t532 < 1)), (by first | rfl | (simp; done) | (simp [*]; done)), H', ⟨by have := HJ5.out; have := HK2.out; have := HK3.out; first | omega | exact Nat.le_refl _⟩, ⟨by (with_reducible repeat (first | apply Kd.N_alloc | apply Kd.N_drewN | apply Kd.N_drew)); exact HO_10.out⟩, ⟨by repeat (first | (with_reducible first | exact HB.out | apply below_alloc | apply pw_below_drewN | apply below_drew1) | exact HB.out)⟩⟩
                          · replace c37 := Bool.eq_false_iff.mpr c37
                            subst c37
                            have H1 : (diwanlaw9_UlogHas.j4 k3 t522 x12_3 true) = some r := by rw [if_neg (show ¬ (false = true) by decide)] at H; exact H
                            clear H
                            have H := H1
                            clear H1
                            have H' := Aside0.mk H
                            clear H
                            go_wp2_with (first | ((with_reducible refine gate_callee (f := 11) rfl ?_); refine goesL_ (some 81) rfl rfl Try.func11 (by kernel_rfl) rfl #[.slice Ao34 t522.length co34, .int .i64 x12_3] rfl (by (try simp only [List.map_toArray, List.map_cons, List.map_nil]); first | done | rfl | (simp only [List.length_drop, List.length_take]; rfl)) ?_; (with_reducible refine (ulog_Term.calls k3 _ _ t522 x12_3 t530 _ ?side1 ?side2 A35.out).mono ?_); (case side1 => repeat (first | exact (Kd.N_reads' HO_10.out).2.2 | (with_reducible refine Kd.C_alloc ?_ _) | (with_reducible refine Kd.C_drewN ?_ _) | (with_reducible refine Kd.C_drew ?_))); (case side2 => exact (Kd.N_reads' HO_10.out).2.1); rintro e w' ⟨rfl, ⟨nd, rfl⟩⟩; refine ⟨_, rfl, ?_⟩) | ((with_reducible refine gate_callee (f := 13) rfl ?_); refine goesL_ (some 82) rfl rfl Try.func13 (by kernel_rfl) rfl #[.slice Ao34 t522.length co34, .int .i64 x12_3, .int .i64 t530] rfl (by (try simp only [List.map_toArray, List.map_cons, List.map_nil]); first | done | rfl | (simp only [List.length_drop, List.length_take]; rfl)) ?_; (with_reducible refine (ulog_Has.calls k3 _ _ t522 x12_3 t530 false _ ?side1 ?side2 A36.out).mono ?_); (case side1 => repeat (first | exact (Kd.N_reads' HO_10.out).2.2 | (with_reducible refine Kd.C_alloc ?_ _) | (with_reducible refine Kd.C_drewN ?_ _) | (with_reducible refine Kd.C_drew ?_))); (case side2 => exact (Kd.N_reads' HO_10.out).2.1); rintro e w' ⟨rfl, ⟨nd, rfl⟩⟩; refine ⟨_, rfl, ?_⟩))
                            go_meet
                            case rel => exact ⟨_, (true), (by first | rfl | (simp; done) | (simp [*]; done)), H', ⟨by have := HJ5.out; have := HK2.out; have := HK3.out; first | omega | exact Nat.le_refl _⟩, ⟨by (with_reducible repeat (first | apply Kd.N_alloc | apply Kd.N_drewN | apply Kd.N_drew)); exact HO_10.out⟩, ⟨by repeat (first | (with_reducible first | exact HB.out | apply below_alloc | apply pw_below_drewN | apply below_drew1) | exact HB.out)⟩⟩
                        case rest =>
                          clear HC33
                          try clear c1
                          try clear c2
                          try clear p2
                          try clear c3
                          try clear c5
                          try clear p5
                          try clear q5
                          try clear hx5
                          try clear p6
                          try clear c7
                          try clear c8
                          try clear c8b0
                          try clear c8b1
                          try clear c9
                          try clear c10
                          try clear c11
                          try clear c13
                          try clear c14
                          try clear c14b0
                          try clear c14b1
                          try clear c16
                          try clear c23
                          try clear c23b0
                          try clear c25
                          try clear c25b0
                          try clear c27
                          try clear c31
                          try clear c32
                          try clear c32b0
                          try clear c37
                          try clear hx525_0
                          try clear hx525_1
                          try clear hx525_2
                          try clear hx525_3
                          try clear hx525_4
                          try clear hx525_5
                          try clear hx527_0
                          try clear hx527_1
                          try clear hx527_2
                          try clear hx527_3
                          try clear hx527_4
                          try clear hx527_5
                          try clear p2
                          try clear p5
                          try clear p525
                          try clear p527
                          try clear p6
                          try clear q5
                          try clear q525
                          try clear q527
                          obtain ⟨kq, x89_32, rfl, HA, HJ32, HO_10, HB⟩ := hcut
                          cases kq with
                          | zero => exact absurd HA.out (by simp [diwanlaw9_UlogHas.j4])
                          | succ kj32 =>
                            have H := HA.out
                            clear HA
                            simp only [diwanlaw9_UlogHas.j4] at H
                            by_cases c39 : x89_32 = true
                            · subst c39
                              have H1 : (some false) = some r := by rw [if_pos rfl] at H; exact H
                              clear H
                              have H := H1
                              clear H1
                              exact absurd (Option.some.inj H) (by rw [hT.out]; decide)
                            · replace c39 := Bool.eq_false_iff.mpr c39
                              subst c39
                              have H1 : (diwanlaw9_UlogHas.l1 kj32 t522 (wrap64 (x12_3 + 1))) = some r := by rw [if_neg (show ¬ (false = true) by decide)] at H; exact H
                              clear H
                              have H := H1
                              clear H1
                              have H' := Aside0.mk H
                              clear H
                              go_wp2
                              go_roundg kj32
                              case measure => have := HJ5.out; have := HK2.out; have := HK3.out; have := HJ32.out; omega
                              case rel => exact ⟨(wrap64 (x12_3 + 1)), (by first | rfl | (simp; done) | (simp [*]; done)), H', ⟨by have := HJ5.out; have := HK2.out; have := HK3.out; have := HJ32.out; omega⟩, ⟨by (with_reducible repeat (first | apply Kd.N_alloc | apply Kd.N_drewN | apply Kd.N_drew)); exact HO_10.out⟩, ⟨by repeat (first | (with_reducible first | exact HB.out | apply below_alloc | apply pw_below_drewN | apply below_drew1) | exact HB.out)⟩⟩
                      · rw [if_neg c32] at H
                        have c32b0 : decide (x12_3 ≤ (t522.length : Int)) = false := decide_eq_false c32
                        clear c32
                        replace H := Option.bind_eq_some_iff.mp H
                        obtain ⟨t529, A400, H⟩ := H
                        replace H : (some (!t529)) = some r := H
                        have A40 := Aside0.mk A400
                        clear A400
                        obtain rfl := Option.some.inj H
                        obtain ⟨Ao41, co41, eo41⟩ := Kd.N_slice HO_10.out
                        subst eo41
                        go_wp2_with (first | ((with_reducible refine gate_callee (f := 13) rfl ?_); refine goesL_ (some 94) rfl rfl Try.func13 (by kernel_rfl) rfl #[.slice Ao41 t522.length co41, .int .i64 (wrap64 ((t522.length : Int) + 1)), .int .i64 0] rfl (by (try simp only [List.map_toArray, List.map_cons, List.map_nil]); first | done | rfl | (simp only [List.length_drop, List.length_take]; rfl)) ?_; (with_reducible refine (ulog_Has.calls k3 _ _ t522 (wrap64 ((t522.length : Int) + 1)) 0 t529 _ ?side1 ?side2 A40.out).mono ?_); (case side1 => repeat (first | exact (Kd.N_reads' HO_10.out).2.2 | (with_reducible refine Kd.C_alloc ?_ _) | (with_reducible refine Kd.C_drewN ?_ _) | (with_reducible refine Kd.C_drew ?_))); (case side2 => exact (Kd.N_reads' HO_10.out).2.1); rintro e w' ⟨rfl, ⟨nd, rfl⟩⟩; refine ⟨_, rfl, ?_⟩))
                        go_ret
                        exact ⟨by first | rfl | (simp [errW_none, errW_some] <;> rfl) | (simp [*, errW_none, errW_some] <;> rfl), by repeat (first | (with_reducible first | exact HB.out | apply below_alloc | apply pw_below_drewN | apply below_drew1) | exact HB.out)⟩
  · replace c5 := Bool.eq_false_iff.mpr c5
    subst c5
    have H1 : (some false) = some r := by rw [if_neg (show ¬ (false = true) by decide)] at H; exact H
    clear H
    have H := H1
    clear H1
    exact absurd (Option.some.inj H) (by rw [hT.out]; decide)

/-- THE ONE PURE STATEMENT of diwanlaw9_UlogHas: yours. -/
def diwanlaw9_UlogHas.Pure : Prop := ∀ (l0 : List Int) (l1 : List Int) (a2 : Int), l0.length ≤ maxLen → l0.length * 1 ≤ 140737488351232 → (∀ x ∈ l0, (Lit.int .u8 x).wf = true) → l1.length ≤ maxLen → l1.length * 1 ≤ 140737488351232 → (∀ x ∈ l1, (Lit.int .u8 x).wf = true) → (Lit.int .u8 a2).wf = true → ∃ k, diwanlaw9_UlogHas.f k l0 l1 a2 = some true
theorem diwanlaw9_UlogHas.walk (P : diwanlaw9_UlogHas.Pure) (a0 : Option Addr) (len0 cap0 : Nat) (z0 : List Int) (a1 : Option Addr) (len1 cap1 : Nat) (z1 : List Int) (a2 : Int) (w : World) (w0 : (a0 = none ∧ len0 = 0 ∧ cap0 = 0 ∧ z0 = []) ∨ ∃ x, a0 = some x ∧ len0 ≤ cap0 ∧ cap0 ≤ maxLen ∧ z0.length = cap0 ∧ (∀ i, i < z0.length → w.cell? (x.add i) = some (.int .u8 (z0.getD i 0))) ∧ ∀ n ∈ z0, (Lit.int .u8 n).wf = true) (y0 : len0 * 1 ≤ 140737488351232) (w1 : (a1 = none ∧ len1 = 0 ∧ cap1 = 0 ∧ z1 = []) ∨ ∃ x, a1 = some x ∧ len1 ≤ cap1 ∧ cap1 ≤ maxLen ∧ z1.length = cap1 ∧ (∀ i, i < z1.length → w.cell? (x.add i) = some (.int .u8 (z1.getD i 0))) ∧ ∀ n ∈ z1, (Lit.int .u8 n).wf = true) (y1 : len1 * 1 ≤ 140737488351232) (w2 : (Lit.int .u8 a2).wf = true) :
    Calls Try.prog 7 #[.slice a0 len0 cap0, .slice a1 len1 cap1, .int .u8 a2] w fun e w' => e = .returned (.bool true) ∧ Below w.heap.size w w' := by
  obtain ⟨l0, rfl, hr0, hm0, hw0, hc0⟩ := ReadsInt.ofRowC w0
  obtain ⟨l1, rfl, hr1, hm1, hw1, hc1⟩ := ReadsInt.ofRowC w1
  obtain ⟨k, h⟩ := P l0 l1 a2 hm0 y0 hw0 hm1 y1 hw1 w2
  refine (diwanlaw9_UlogHas.calls k _ _ l0 _ _ l1 a2 true w (Kd.C_of_reads (d := (0 : Int)) (h1 := fun _ => rfl) hr0) hc0 (Kd.C_of_reads (d := (0 : Int)) (h1 := fun _ => rfl) hr1) hc1 h ⟨rfl⟩).mono ?_
  rintro e w' ⟨rfl, hd⟩
  exact ⟨rfl, hd⟩

end Go.Proofs.Ytipeiombaempoaa.Q
