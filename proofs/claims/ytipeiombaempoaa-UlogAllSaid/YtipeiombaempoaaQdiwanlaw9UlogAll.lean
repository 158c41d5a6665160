/- One Go function told as a Lean function, and that the Go code comes to its answers: out of the print of the program, by the kit and by programs of this session. -/
import Derived.Test.YtipeiombaempoaaQ0
import Derived.Test.YtipeiombaempoaaQulogA
import Derived.Test.YtipeiombaempoaaQulogJoin
import Derived.Test.YtipeiombaempoaaQulogSame
import Derived.Test.YtipeiombaempoaaQdiwanlaw9begun
import Derived.Test.YtipeiombaempoaaQdiwanplayMade
import Derived.Test.YtipeiombaempoaaQdiwanplayPicksLog
import Derived.Test.YtipeiombaempoaaQref1A
import Derived.Test.YtipeiombaempoaaQdiwanref1SameEntries
import Derived.Test.YtipeiombaempoaaQdiwanref1Join
namespace Go.Proofs.Ytipeiombaempoaa.Q
open Go.RowKit Go.Proofs.YtipeiombaempoaaW.PrintWords Go.Proofs.YtipeiombaempoaaW.PrintLast Go.Proofs.YtipeiombaempoaaW.PrintMore
attribute [local go_sem] max2_int min2_int max_two min_two max_three min_three max_four min_four   -- for this text's walks alone
set_option linter.unusedVariables false
set_option linter.unusedSimpArgs false

/-! ### diwanlaw9_UlogAll: function 3 -/
mutual
def diwanlaw9_UlogAll.j0 : Nat → List Int → List Int → Int → Int → Bool → Option (Bool)
  | 0, _, _, _, _, _ => none
  | k + 1, x0, x1, x2, x3, x23 => if x23 = true then (some true) else ((diwanplay_Made.f x0).bind fun bt321 => ((diwanplay_Picks_Log.f k bt321.1 bt321.2 8).bind fun bt324 => ((diwanplay_Made.f x1).bind fun bt328 => ((diwanplay_Picks_Log.f k bt328.1 bt328.2 4).bind fun bt331 => (diwanlaw9_UlogAll.l0 k x3 bt324.1 bt331.1 (([x2, 0, 1, 3, 8] : List Int)) 0)))))
def diwanlaw9_UlogAll.l0 : Nat → Int → List (S39) → List (S39) → List Int → Int → Option (Bool)
  | 0, _, _, _, _, _ => none
  | k + 1, x3, x9, x10, x11, x12 => if x12 < (x11.length : Int) then (if 0 ≤ x12 then ((ulog_Term.f k x9 (rd x11 x12)).bind fun t339 => ((diwanref1_Term.f k x9 (rd x11 x12)).bind fun t340 => (if t339 = t340 then ((ulog_Has.f k x9 (rd x11 x12) x3).bind fun t341 => ((diwanref1_Has.f x9 (rd x11 x12) x3).bind fun t342 => (if (t341 != t342) = true then (diwanlaw9_UlogAll.j2 k x3 x9 x10 x11 x12 true) else ((ulog_Has.f k x9 (rd x11 x12) 2).bind fun t343 => ((diwanref1_Has.f x9 (rd x11 x12) 2).bind fun t344 => (if (t343 != t344) = true then (diwanlaw9_UlogAll.j2 k x3 x9 x10 x11 x12 true) else ((ulog_Join.f k x9 (rd x11 x12) x10).bind fun t345 => ((diwanref1_Join.f k x9 (rd x11 x12) x10).bind fun t348 => ((diwanref1_SameEntries.f k t345 t348).bind fun t351 => (if t351 = true then ((ulog_Newer.f k x9 (rd x11 x12) x3).bind fun t352 => ((diwanref1_Newer.f k x9 (rd x11 x12) x3).bind fun t353 => (if (t352 != t353) = true then (diwanlaw9_UlogAll.j2 k x3 x9 x10 x11 x12 true) else ((ulog_Newer.f k x9 (rd x11 x12) 3).bind fun t354 => ((diwanref1_Newer.f k x9 (rd x11 x12) 3).bind fun t355 => (diwanlaw9_UlogAll.j2 k x3 x9 x10 x11 x12 (t354 != t355))))))) else (diwanlaw9_UlogAll.j2 k x3 x9 x10 x11 x12 true))))))))))) else (diwanlaw9_UlogAll.j2 k x3 x9 x10 x11 x12 true)))) else (none)) else ((ulog_Same.f k x9 x10).bind fun t356 => ((diwanref1_SameEntries.f k x9 x10).bind fun t357 => (if (t356 == t357) = true then ((ulog_Same.f k x9 x9).bind fun t358 => (some t358)) else (some false))))
def diwanlaw9_UlogAll.j2 : Nat → Int → List (S39) → List (S39) → List Int → Int → Bool → Option (Bool)
  | 0, _, _, _, _, _, _ => none
  | k + 1, x3, x9, x10, x11, x12, x100 => if x100 = true then (some false) else (diwanlaw9_UlogAll.l0 k x3 x9 x10 x11 (wrap64 (x12 + 1)))
end
def diwanlaw9_UlogAll.f (k : Nat) (l0 : List Int) (l1 : List Int) (a2 : Int) (a3 : Int) : Option (Bool) := (diwanlaw9_begun.f k).bind fun t320 => (if t320 = true then (if (l0.length : Int) > 80 then (diwanlaw9_UlogAll.j0 k l0 l1 a2 a3 true) else (diwanlaw9_UlogAll.j0 k l0 l1 a2 a3 (decide ((l1.length : Int) > 80)))) else (some false))
set_option maxHeartbeats 8000000 in
set_option maxRecDepth 100000 in
theorem diwanlaw9_UlogAll.calls (k : Nat) (A0 : Option Addr) (c0 : Nat) (l0 : List Int) (A1 : Option Addr) (c1 : Nat) (l1 : List Int) (a2 : Int) (a3 : Int) (r : Bool) (w : World) (hr0 : Kd.C (Kd.int .u8) w A0 l0.length l0) (hc0 : l0.length ≤ c0) (hr1 : Kd.C (Kd.int .u8) w A1 l1.length l1) (hc1 : l1.length ≤ c1) (h : diwanlaw9_UlogAll.f k l0 l1 a2 a3 = some r) (hT : Aside0 (r = true)) :
    Calls Try.prog 3 #[.slice A0 l0.length c0, .slice A1 l1.length c1, .int .i64 a2, .int .i64 a3] w fun e w' => e = .returned (.bool r) ∧ Below w.heap.size w w' := by
  have HR0 := Aside0.mk hr0
  have HC0 := Aside0.mk hc0
  clear hr0 hc0
  have HR1 := Aside0.mk hr1
  have HC1 := Aside0.mk hc1
  clear hr1 hc1
  have HB := Aside0.mk (Below.refl w.heap.size w)
  have H : ((diwanlaw9_begun.f k).bind fun t320 => (if t320 = true then (if (l0.length : Int) > 80 then (diwanlaw9_UlogAll.j0 k l0 l1 a2 a3 true) else (diwanlaw9_UlogAll.j0 k l0 l1 a2 a3 (decide ((l1.length : Int) > 80)))) else (some false))) = some r := h
  clear h
  replace H := Option.bind_eq_some_iff.mp H
  obtain ⟨t320, A50, H⟩ := H
  replace H : (if t320 = true then (if (l0.length : Int) > 80 then (diwanlaw9_UlogAll.j0 k l0 l1 a2 a3 true) else (diwanlaw9_UlogAll.j0 k l0 l1 a2 a3 (decide ((l1.length : Int) > 80)))) else (some false)) = some r := H
  have A5 := Aside0.mk A50
  clear A50
  by_cases c6 : t320 = true
  · subst c6
    have H1 : (if (l0.length : Int) > 80 then (diwanlaw9_UlogAll.j0 k l0 l1 a2 a3 true) else (diwanlaw9_UlogAll.j0 k l0 l1 a2 a3 (decide ((l1.length : Int) > 80)))) = some r := by rw [if_pos rfl] at H; exact H
    clear H
    have H := H1
    clear H1
    have HC7 := Aside0.mk H
    clear H
    go_enter Try.func3, Try.ntmps3
    go_upto_region 3 with (first | ((with_reducible refine gate_callee (f := 8) rfl ?_); refine goesL_ (some 14) rfl rfl Try.func8 (by kernel_rfl) rfl #[] rfl (by (try simp only [List.map_toArray, List.map_cons, List.map_nil]); first | done | rfl | (simp only [List.length_drop, List.length_take]; rfl)) ?_; (with_reducible refine (diwanlaw9_begun.calls k  true _ A5.out ⟨rfl⟩).mono ?_); rintro e w8 ⟨rfl, hb⟩; refine ⟨_, rfl, ?_⟩; have n0_ := Aside0.mk (below_step (by repeat (first | (with_reducible first | exact HB.out | apply below_alloc | apply pw_below_drewN | apply below_drew1) | exact HB.out)) hb); clear HB; have HB := n0_; clear n0_; (try clear hb); (try clear hb2); (try clear hk); (try clear hi); (try clear hgn_)))
    (try simp only [Act.put, List.setIfInBounds_toArray, List.set_cons_zero, List.set_cons_succ])
    go_cut [23] (fun v23 wc => ∃ (kq : Nat) (x23_6 : Bool), v23 = .bool x23_6 ∧ Aside0 (diwanlaw9_UlogAll.j0 kq l0 l1 a2 a3 x23_6 = some r) ∧ Aside0 (kq ≤ k) ∧ Aside0 (Below w.heap.size w wc))
    case first =>
      have H := HC7.out
      clear HC7
      by_cases c9 : (l0.length : Int) > 80
      · rw [if_pos c9] at H
        have c9b0 : decide (80 < (l0.length : Int)) = true := decide_eq_true c9
        have c9b1 : decide (80 < l0.length) = true := decide_eq_true (by omega)
        clear c9
        (first | rw [c9b0] | (simp only [i64_w, i32_w]; rw [c9b0]) | skip)
        have H' := Aside0.mk H
        clear H
        go_wp2
        go_meet
        case rel => exact ⟨_, (true), (by first | rfl | (simp; done) | (simp [*]; done)), H', ⟨by first | omega | exact Nat.le_refl _⟩, ⟨by repeat (first | (with_reducible first | exact HB.out | apply below_alloc | apply pw_below_drewN | apply below_drew1) | exact HB.out)⟩⟩
      · rw [if_neg c9] at H
        have c9b0 : decide (80 < (l0.length : Int)) = false := decide_eq_false c9
        have c9b1 : decide (80 < l0.length) = false := decide_eq_false (by omega)
        clear c9
        (first | rw [c9b0] | (simp only [i64_w, i32_w]; rw [c9b0]) | skip)
        have H' := Aside0.mk H
        clear H
        go_wp2
        go_meet
        case rel => exact ⟨_, (decide ((l1.length : Int) > 80)), (by first | rfl | (simp; done) | (simp [*]; done)), H', ⟨by first | omega | exact Nat.le_refl _⟩, ⟨by repeat (first | (with_reducible first | exact HB.out | apply below_alloc | apply pw_below_drewN | apply below_drew1) | exact HB.out)⟩⟩
    case rest =>
      clear HC7
      try clear c1
      try clear p2
      try clear c3
      try clear c6
      try clear c8
      try clear c9
      try clear c9b0
      try clear c9b1
      obtain ⟨kq, x23_6, rfl, HA, HJ6, HB⟩ := hcut
      cases kq with
      | zero => exact absurd HA.out (by simp [diwanlaw9_UlogAll.j0])
      | succ kj6 =>
        have H := HA.out
        clear HA
        simp only [diwanlaw9_UlogAll.j0] at H
        by_cases c10 : x23_6 = true
        · subst c10
          have H1 : (some true) = some r := by rw [if_pos rfl] at H; exact H
          clear H
          have H := H1
          clear H1
          obtain rfl := Option.some.inj H
          go_wp2
          go_ret
          exact ⟨by first | rfl | (simp [errW_none, errW_some] <;> rfl) | (simp [*, errW_none, errW_some] <;> rfl), by repeat (first | (with_reducible first | exact HB.out | apply below_alloc | apply pw_below_drewN | apply below_drew1) | exact HB.out)⟩
        · replace c10 := Bool.eq_false_iff.mpr c10
          subst c10
          have H1 : ((diwanplay_Made.f l0).bind fun bt321 => ((diwanplay_Picks_Log.f kj6 bt321.1 bt321.2 8).bind fun bt324 => ((diwanplay_Made.f l1).bind fun bt328 => ((diwanplay_Picks_Log.f kj6 bt328.1 bt328.2 4).bind fun bt331 => (diwanlaw9_UlogAll.l0 kj6 a3 bt324.1 bt331.1 (([a2, 0, 1, 3, 8] : List Int)) 0))))) = some r := by rw [if_neg (show ¬ (false = true) by decide)] at H; exact H
          clear H
          have H := H1
          clear H1
          replace H := Option.bind_eq_some_iff.mp H
          obtain ⟨⟨t321, t322⟩, A110, H⟩ := H
          replace H : ((diwanplay_Picks_Log.f kj6 t321 t322 8).bind fun bt324 => ((diwanplay_Made.f l1).bind fun bt328 => ((diwanplay_Picks_Log.f kj6 bt328.1 bt328.2 4).bind fun bt331 => (diwanlaw9_UlogAll.l0 kj6 a3 bt324.1 bt331.1 (([a2, 0, 1, 3, 8] : List Int)) 0)))) = some r := H
          have A11 := Aside0.mk A110
          clear A110
          replace H := Option.bind_eq_some_iff.mp H
          obtain ⟨⟨t324, t327⟩, A120, H⟩ := H
          replace H : ((diwanplay_Made.f l1).bind fun bt328 => ((diwanplay_Picks_Log.f kj6 bt328.1 bt328.2 4).bind fun bt331 => (diwanlaw9_UlogAll.l0 kj6 a3 t324 bt331.1 (([a2, 0, 1, 3, 8] : List Int)) 0))) = some r := H
          have A12 := Aside0.mk A120
          clear A120
          replace H := Option.bind_eq_some_iff.mp H
          obtain ⟨⟨t328, t329⟩, A130, H⟩ := H
          replace H : ((diwanplay_Picks_Log.f kj6 t328 t329 4).bind fun bt331 => (diwanlaw9_UlogAll.l0 kj6 a3 t324 bt331.1 (([a2, 0, 1, 3, 8] : List Int)) 0)) = some r := H
          have A13 := Aside0.mk A130
          clear A130
          replace H := Option.bind_eq_some_iff.mp H
          obtain ⟨⟨t331, t334⟩, A140, H⟩ := H
          replace H : (diwanlaw9_UlogAll.l0 kj6 a3 t324 t331 (([a2, 0, 1, 3, 8] : List Int)) 0) = some r := H
          have A14 := Aside0.mk A140
          clear A140
          obtain ⟨y335, hy335⟩ : ∃ y_ : List Int, y_ = (([a2, 0, 1, 3, 8] : List Int)) := ⟨_, rfl⟩
          replace H : (diwanlaw9_UlogAll.l0 kj6 a3 t324 t331 y335 0) = some r := by first | (rw [hy335]; with_reducible exact H) | (have H2_ := (Option.bind_some _ _).symm.trans H; rw [hy335]; with_reducible exact H2_) | (have H2_ := (Option.bind_some _ _).symm.trans H; with_reducible exact H2_) | with_reducible exact H | (rw [hy335]; exact H) | exact H
          have Ny335 := Aside0.mk hy335
          clear hy335
          have H' := Aside0.mk H
          clear H
          go_wp2_with (first | ((with_reducible refine gate_callee (f := 9) rfl ?_); refine goesL_ (some 25) rfl rfl Try.func9 (by kernel_rfl) rfl #[.slice A0 l0.length c0] rfl (by (try simp only [List.map_toArray, List.map_cons, List.map_nil]); first | done | rfl | (simp only [List.length_drop, List.length_take]; rfl)) ?_; (with_reducible refine (diwanplay_Made.calls _ _ l0 t321 t322 w _ ?side1 ?side2 ?side3 A11.out).mono ?_); (case side1 => repeat (first | (with_reducible first | exact HB.out | apply below_alloc | apply pw_below_drewN | apply below_drew1) | exact HB.out)); (case side2 => exact HR0.out); (case side3 => exact HC0.out); rintro e w15 ⟨g323, rfl, hi, hb, hb2, hgn_⟩; refine ⟨_, rfl, ?_⟩; have n0_ := Aside0.mk (hb); have n1_ := Aside0.mk (hi); clear HB; have HB := n0_; have HI323 := n1_; clear n0_ n1_; (try clear hb); (try clear hb2); (try clear hk); (try clear hi); (try clear hgn_)) | ((with_reducible refine gate_callee (f := 10) rfl ?_); refine goesL_ (some 26) rfl rfl Try.func10 (by kernel_rfl) rfl #[.pointer (some ⟨g323, 0, none⟩), .int .i64 8] rfl (by (try simp only [List.map_toArray, List.map_cons, List.map_nil]); first | done | rfl | (simp only [List.length_drop, List.length_take]; rfl)) ?_; (with_reducible refine (diwanplay_Picks_Log.calls kj6 g323 t321 t322 8 t324 t327 w _ ?side1 ?side2 A12.out).mono ?_); (case side1 => repeat (first | (with_reducible first | exact HI323.out | apply IsS43.alloc | apply IsS43.drewN | apply IsS43.drew | apply IsS43.set_1) | exact HI323.out)); (case side2 => repeat (first | (with_reducible first | exact HB.out | apply below_alloc | apply pw_below_drewN | apply below_drew1 | refine below_set ?_ (IsS43.ge HI323.out)) | exact HB.out)); rintro e w16 ⟨v325, rfl, ho0, hi, hb, hk⟩; refine ⟨_, rfl, ?_⟩; have n0_ := Aside0.mk (Kd.N_lower (Kd.N_mono (ok' := fun k_ => k_ ≠ g323) (Kd.S_N (Kd.S_bound ho0)) (fun k_ hk_ => (IsS43.fresh (by repeat (first | (with_reducible first | exact HI323.out | apply IsS43.alloc | apply IsS43.drewN | apply IsS43.drew | apply IsS43.set_1) | exact HI323.out)) k_ hk_.2.1))) (below_size (by repeat (first | (with_reducible first | exact HB.out | apply below_alloc | apply pw_below_drewN | apply below_drew1 | refine below_set ?_ (IsS43.ge HI323.out)) | exact HB.out)))); have n1_ := Aside0.mk (hb); have n2_ := Aside0.mk (hi); clear HB; clear HI323; have HO326 := n0_; have HB := n1_; have HI323 := n2_; clear n0_ n1_ n2_; (try clear hb); (try clear hb2); (try clear hk); (try clear hi); (try clear hgn_); (try clear ho0)) | ((with_reducible refine gate_callee (f := 9) rfl ?_); refine goesL_ (some 28) rfl rfl Try.func9 (by kernel_rfl) rfl #[.slice A1 l1.length c1] rfl (by (try simp only [List.map_toArray, List.map_cons, List.map_nil]); first | done | rfl | (simp only [List.length_drop, List.length_take]; rfl)) ?_; (with_reducible refine (diwanplay_Made.calls _ _ l1 t328 t329 w _ ?side1 ?side2 ?side3 A13.out).mono ?_); (case side1 => repeat (first | (with_reducible first | exact HB.out | apply below_alloc | apply pw_below_drewN | apply below_drew1 | refine below_set ?_ (IsS43.ge HI323.out)) | exact HB.out)); (case side2 => exact HR1.out); (case side3 => exact HC1.out); rintro e w17 ⟨g330, rfl, hi, hb, hb2, hgn_⟩; refine ⟨_, rfl, ?_⟩; have n0_ := Aside0.mk (Kd.N_below (Kd.N_elderB (by (with_reducible repeat (first | apply Kd.N_alloc | apply Kd.N_drewN | apply Kd.N_drew)); exact HO326.out) g330 hgn_) hb2); have n1_ := Aside0.mk (hb); have n2_ := Aside0.mk (hi); clear HO326; clear HB; have HO326 := n0_; have HB := n1_; have HI330 := n2_; clear n0_ n1_ n2_; (try clear hb); (try clear hb2); (try clear hk); (try clear hi); (try clear hgn_)) | ((with_reducible refine gate_callee (f := 10) rfl ?_); refine goesL_ (some 29) rfl rfl Try.func10 (by kernel_rfl) rfl #[.pointer (some ⟨g330, 0, none⟩), .int .i64 4] rfl (by (try simp only [List.map_toArray, List.map_cons, List.map_nil]); first | done | rfl | (simp only [List.length_drop, List.length_take]; rfl)) ?_; (with_reducible refine (diwanplay_Picks_Log.calls kj6 g330 t328 t329 4 t331 t334 w _ ?side1 ?side2 A14.out).mono ?_); (case side1 => repeat (first | (with_reducible first | exact HI330.out | apply IsS43.alloc | apply IsS43.drewN | apply IsS43.drew | apply IsS43.set_1) | exact HI330.out)); (case side2 => repeat (first | (with_reducible first | exact HB.out | apply below_alloc | apply pw_below_drewN | apply below_drew1 | refine below_set ?_ (IsS43.ge HI330.out)) | exact HB.out)); rintro e w18 ⟨v332, rfl, ho0, hi, hb, hk⟩; refine ⟨_, rfl, ?_⟩; have n0_ := Aside0.mk (Kd.N_mono (Kd.N_told (Kd.N_oldK (Kd.N_mono (ok := fun k_ => (k_ ≠ g323 ∧ k_ ≠ g330)) (by (with_reducible repeat (first | apply Kd.N_alloc | apply Kd.N_drewN | apply Kd.N_drew)); exact HO326.out) (fun k_ hk_ => (⟨hk_, hk_.2⟩ : _ ∧ k_ ≠ g330))) hk) (Kd.S_base ho0)) (fun _ h_ => h_.1)); have n1_ := Aside0.mk (Kd.N_lower (Kd.N_mono (ok' := fun k_ => some k_ ≠ (v325 : Value).ownBlock ∧ k_ ≠ g330) (Kd.S_N (Kd.S_bound ho0)) (fun k_ hk_ => ⟨(Kd.fresh' (Kd.N_lt (by (with_reducible repeat (first | apply Kd.N_alloc | apply Kd.N_drewN | apply Kd.N_drew)); exact HO326.out)) k_ hk_.2.1), (IsS43.fresh (by repeat (first | (with_reducible first | exact HI330.out | apply IsS43.alloc | apply IsS43.drewN | apply IsS43.drew | apply IsS43.set_1) | exact HI330.out)) k_ hk_.2.1)⟩)) (below_size (by repeat (first | (with_reducible first | exact HB.out | apply below_alloc | apply pw_below_drewN | apply below_drew1 | refine below_set ?_ (IsS43.ge HI330.out)) | exact HB.out)))); have n2_ := Aside0.mk (hb); have n3_ := Aside0.mk (hi); clear HO326; clear HB; clear HI330; have HO326 := n0_; have HO333 := n1_; have HB := n2_; have HI330 := n3_; clear n0_ n1_ n2_ n3_; (try clear hb); (try clear hb2); (try clear hk); (try clear hi); (try clear hgn_); (try clear ho0)) | ((with_reducible refine gate_dst (N := 31) rfl ?_); (try (refine gate_guard (by rfl) ?_; dsimp only)); refine Kd.R_lit (Kd.int .i64) _ 3 ?hg (N := 31) ?hd (xs := ([a2, 0, 1, 3, 8] : List Int)) (inner := [.int .i64 a2, .int .i64 0, .int .i64 1, .int .i64 3, .int .i64 8]) (ok := fun _ => True) (okp := fun _ => True) ?hr ?hp (fun _ hk => hk) trivial (Below.refl _ _) (Nat.le_refl _) (by simp) ?_; (case hd => rfl); (case hg => rfl); (case hr => first | (go_simp; done) | (go_simp; rfl)); (case hp => exact (Reps.one (show Kd.M (Kd.int .i64) _ _ _ a2 [.int .i64 a2] from rfl) (Reps.one (show Kd.M (Kd.int .i64) _ _ _ 0 [.int .i64 0] from rfl) (Reps.one (show Kd.M (Kd.int .i64) _ _ _ 1 [.int .i64 1] from rfl) (Reps.one (show Kd.M (Kd.int .i64) _ _ _ 3 [.int .i64 3] from rfl) (Reps.one (show Kd.M (Kd.int .i64) _ _ _ 8 [.int .i64 8] from rfl) (Reps.none _ _))))))); intro v336 w19 ho20 hb hg_ hnew_; clear hg_ hnew_; (first | rw [← Ny335.out] at ho20 | (simp only [Int.reduceToNat] at ho20; rw [← Ny335.out] at ho20)); have n0_ := Aside0.mk (Kd.N_elder' (by (with_reducible repeat (first | apply Kd.N_alloc | apply Kd.N_drewN | apply Kd.N_drew)); exact HO326.out) (Kd.R_base ho20) hb); have n1_ := Aside0.mk (Kd.N_elder' (by (with_reducible repeat (first | apply Kd.N_alloc | apply Kd.N_drewN | apply Kd.N_drew)); exact HO333.out) (Kd.R_base ho20) hb); have n2_ := Aside0.mk (Kd.R_lower ho20 (below_size (by repeat (first | (with_reducible first | exact HB.out | apply below_alloc | apply pw_below_drewN | apply below_drew1 | refine below_set ?_ (IsS43.ge HI330.out)) | exact HB.out)))); have n3_ := Aside0.mk (IsS43.below (by repeat (first | (with_reducible first | exact HI330.out | apply IsS43.alloc | apply IsS43.drewN | apply IsS43.drew | apply IsS43.set_1) | exact HI330.out)) hb); have n4_ := Aside0.mk (below_step (by repeat (first | (with_reducible first | exact HB.out | apply below_alloc | apply pw_below_drewN | apply below_drew1 | refine below_set ?_ (IsS43.ge HI330.out)) | exact HB.out)) hb); clear HO326; clear HO333; clear HI330; clear HB; have HO326 := n0_; have HO333 := n1_; have HO337 := n2_; have HI330 := n3_; have HB := n4_; clear n0_ n1_ n2_ n3_ n4_; clear hb ho20))
          go_loopg [12] kj6 (fun kq v12 w' => ∃ (x12_2 : Int), v12 = .int .i64 x12_2 ∧ Aside0 (diwanlaw9_UlogAll.l0 kq a3 t324 t331 y335 x12_2 = some r) ∧ Aside0 (kq ≤ kj6) ∧ Aside0 (Kd.N k39 39 w' w.heap.size (fun k_ => some k_ ≠ (v332 : Value).ownBlock ∧ some k_ ≠ (v336 : Value).ownBlock) v325 t324) ∧ Aside0 (Kd.N k39 39 w' w.heap.size (fun k_ => some k_ ≠ (v325 : Value).ownBlock ∧ some k_ ≠ (v336 : Value).ownBlock) v332 t331) ∧ Aside0 (Kd.R (Kd.int .i64) 3 w' w.heap.size (fun _ => True) v336 y335) ∧ Aside0 (Below w.heap.size w w'))
          case atStart => exact ⟨(0), (by first | rfl | (simp; done) | (simp [*]; done)), H', ⟨Nat.le_refl _⟩, ⟨by (with_reducible repeat (first | apply Kd.N_alloc | apply Kd.N_drewN | apply Kd.N_drew)); exact Kd.N_mono HO326.out (fun _ hk => ⟨hk.1.2, hk.2⟩)⟩, ⟨by (with_reducible repeat (first | apply Kd.N_alloc | apply Kd.N_drewN | apply Kd.N_drew)); exact Kd.N_mono HO333.out (fun _ hk => ⟨hk.1.1, hk.2⟩)⟩, ⟨by (with_reducible repeat (first | apply Kd.R_alloc | apply Kd.R_drewN | apply Kd.R_drew)); exact HO337.out⟩, ⟨by repeat (first | (with_reducible first | exact HB.out | apply below_alloc | apply pw_below_drewN | apply below_drew1 | refine below_set ?_ (IsS43.ge HI330.out)) | exact HB.out)⟩⟩
          case round =>
            clear H'
            try clear c1
            try clear p2
            try clear c3
            try clear c6
            try clear c8
            try clear c9
            try clear c9b0
            try clear c9b1
            try clear c10
            try clear p2
            obtain ⟨x12_2, rfl, HA, HK2, HO_9, HO_10, HO_11, HB⟩ := hrel
            cases gk with
            | zero => exact absurd HA.out (by simp [diwanlaw9_UlogAll.l0])
            | succ k2 =>
              have H := HA.out
              clear HA
              simp only [diwanlaw9_UlogAll.l0] at H
              by_cases c21 : x12_2 < (y335.length : Int)
              · rw [if_pos c21] at H
                have c21b0 : decide (x12_2 < (y335.length : Int)) = true := decide_eq_true c21
                clear c21
                by_cases c22 : 0 ≤ x12_2
                · rw [if_pos c22] at H
                  have c22b0 : decide (0 ≤ x12_2) = true := decide_eq_true c22
                  clear c22
                  have HC23 := Aside0.mk H
                  clear H
                  obtain ⟨Ao24, co24, eo24⟩ := Kd.R_slice HO_11.out
                  subst eo24
                  have p338 : 0 ≤ (x12_2 : Int) := of_decide_eq_true (by first | (with_reducible assumption) | assumption)
                  have q338 : x12_2 < (y335.length : Int) := of_decide_eq_true (by first | (with_reducible assumption) | assumption)
                  obtain ⟨ad338, e338, hx338_0⟩ := Kd.at_int (Kd.R_reads' HO_11.out).2.2 x12_2 p338 q338
                  cases e338
                  replace p338 := eq_true p338
                  replace q338 := eq_true q338
                  go_upto_region 11 with (fail)
                  go_cut [100] (fun v100 wc => ∃ (kq : Nat) (x100_22 : Bool), v100 = .bool x100_22 ∧ Aside0 (diwanlaw9_UlogAll.j2 kq a3 t324 t331 y335 x12_2 x100_22 = some r) ∧ Aside0 (kq ≤ k2) ∧ Aside0 (Kd.N k39 39 wc w.heap.size (fun k_ => some k_ ≠ (v332 : Value).ownBlock ∧ some k_ ≠ ((.slice (some ad338) y335.length co24) : Value).ownBlock) v325 t324) ∧ Aside0 (Kd.N k39 39 wc w.heap.size (fun k_ => some k_ ≠ (v325 : Value).ownBlock ∧ some k_ ≠ ((.slice (some ad338) y335.length co24) : Value).ownBlock) v332 t331) ∧ Aside0 (Kd.R (Kd.int .i64) 3 wc w.heap.size (fun _ => True) (.slice (some ad338) y335.length co24) y335) ∧ Aside0 (Below w.heap.size w wc))
                  case first =>
                    have H := HC23.out
                    clear HC23
                    replace H := Option.bind_eq_some_iff.mp H
                    obtain ⟨t339, A250, H⟩ := H
                    replace H : ((diwanref1_Term.f k2 t324 (rd y335 x12_2)).bind fun t340 => (if t339 = t340 then ((ulog_Has.f k2 t324 (rd y335 x12_2) a3).bind fun t341 => ((diwanref1_Has.f t324 (rd y335 x12_2) a3).bind fun t342 => (if (t341 != t342) = true then (diwanlaw9_UlogAll.j2 k2 a3 t324 t331 y335 x12_2 true) else ((ulog_Has.f k2 t324 (rd y335 x12_2) 2).bind fun t343 => ((diwanref1_Has.f t324 (rd y335 x12_2) 2).bind fun t344 => (if (t343 != t344) = true then (diwanlaw9_UlogAll.j2 k2 a3 t324 t331 y335 x12_2 true) else ((ulog_Join.f k2 t324 (rd y335 x12_2) t331).bind fun t345 => ((diwanref1_Join.f k2 t324 (rd y335 x12_2) t331).bind fun t348 => ((diwanref1_SameEntries.f k2 t345 t348).bind fun t351 => (if t351 = true then ((ulog_Newer.f k2 t324 (rd y335 x12_2) a3).bind fun t352 => ((diwanref1_Newer.f k2 t324 (rd y335 x12_2) a3).bind fun t353 => (if (t352 != t353) = true then (diwanlaw9_UlogAll.j2 k2 a3 t324 t331 y335 x12_2 true) else ((ulog_Newer.f k2 t324 (rd y335 x12_2) 3).bind fun t354 => ((diwanref1_Newer.f k2 t324 (rd y335 x12_2) 3).bind fun t355 => (diwanlaw9_UlogAll.j2 k2 a3 t324 t331 y335 x12_2 (t354 != t355))))))) else (diwanlaw9_UlogAll.j2 k2 a3 t324 t331 y335 x12_2 true))))))))))) else (diwanlaw9_UlogAll.j2 k2 a3 t324 t331 y335 x12_2 true))) = some r := H
                    have A25 := Aside0.mk A250
                    clear A250
                    replace H := Option.bind_eq_some_iff.mp H
                    obtain ⟨t340, A260, H⟩ := H
                    replace H : (if t339 = t340 then ((ulog_Has.f k2 t324 (rd y335 x12_2) a3).bind fun t341 => ((diwanref1_Has.f t324 (rd y335 x12_2) a3).bind fun t342 => (if (t341 != t342) = true then (diwanlaw9_UlogAll.j2 k2 a3 t324 t331 y335 x12_2 true) else ((ulog_Has.f k2 t324 (rd y335 x12_2) 2).bind fun t343 => ((diwanref1_Has.f t324 (rd y335 x12_2) 2).bind fun t344 => (if (t343 != t344) = true then (diwanlaw9_UlogAll.j2 k2 a3 t324 t331 y335 x12_2 true) else ((ulog_Join.f k2 t324 (rd y335 x12_2) t331).bind fun t345 => ((diwanref1_Join.f k2 t324 (rd y335 x12_2) t331).bind fun t348 => ((diwanref1_SameEntries.f k2 t345 t348).bind fun t351 => (if t351 = true then ((ulog_Newer.f k2 t324 (rd y335 x12_2) a3).bind fun t352 => ((diwanref1_Newer.f k2 t324 (rd y335 x12_2) a3).bind fun t353 => (if (t352 != t353) = true then (diwanlaw9_UlogAll.j2 k2 a3 t324 t331 y335 x12_2 true) else ((ulog_Newer.f k2 t324 (rd y335 x12_2) 3).bind fun t354 => ((diwanref1_Newer.f k2 t324 (rd y335 x12_2) 3).bind fun t355 => (diwanlaw9_UlogAll.j2 k2 a3 t324 t331 y335 x12_2 (t354 != t355))))))) else (diwanlaw9_UlogAll.j2 k2 a3 t324 t331 y335 x12_2 true))))))))))) else (diwanlaw9_UlogAll.j2 k2 a3 t324 t331 y335 x12_2 true)) = some r := H
                    have A26 := Aside0.mk A260
                    clear A260
                    by_cases c27 : t339 = t340
                    · rw [if_pos c27] at H
                      have c27b0 : (t339 == t340) = true := beq_iff_eq.mpr c27
                      have c27b1 : (t339 != t340) = false := bne_eq_false_iff_eq.mpr c27
                      clear c27
                      (first | rw [c27b0] | (simp only [i64_w, i32_w]; rw [c27b0]) | skip)
                      replace H := Option.bind_eq_some_iff.mp H
                      obtain ⟨t341, A280, H⟩ := H
                      replace H : ((diwanref1_Has.f t324 (rd y335 x12_2) a3).bind fun t342 => (if (t341 != t342) = true then (diwanlaw9_UlogAll.j2 k2 a3 t324 t331 y335 x12_2 true) else ((ulog_Has.f k2 t324 (rd y335 x12_2) 2).bind fun t343 => ((diwanref1_Has.f t324 (rd y335 x12_2) 2).bind fun t344 => (if (t343 != t344) = true then (diwanlaw9_UlogAll.j2 k2 a3 t324 t331 y335 x12_2 true) else ((ulog_Join.f k2 t324 (rd y335 x12_2) t331).bind fun t345 => ((diwanref1_Join.f k2 t324 (rd y335 x12_2) t331).bind fun t348 => ((diwanref1_SameEntries.f k2 t345 t348).bind fun t351 => (if t351 = true then ((ulog_Newer.f k2 t324 (rd y335 x12_2) a3).bind fun t352 => ((diwanref1_Newer.f k2 t324 (rd y335 x12_2) a3).bind fun t353 => (if (t352 != t353) = true then (diwanlaw9_UlogAll.j2 k2 a3 t324 t331 y335 x12_2 true) else ((ulog_Newer.f k2 t324 (rd y335 x12_2) 3).bind fun t354 => ((diwanref1_Newer.f k2 t324 (rd y335 x12_2) 3).bind fun t355 => (diwanlaw9_UlogAll.j2 k2 a3 t324 t331 y335 x12_2 (t354 != t355))))))) else (diwanlaw9_UlogAll.j2 k2 a3 t324 t331 y335 x12_2 true)))))))))) = some r := H
                      have A28 := Aside0.mk A280
                      clear A280
                      replace H := Option.bind_eq_some_iff.mp H
                      obtain ⟨t342, A290, H⟩ := H
                      replace H : (if (t341 != t342) = true then (diwanlaw9_UlogAll.j2 k2 a3 t324 t331 y335 x12_2 true) else ((ulog_Has.f k2 t324 (rd y335 x12_2) 2).bind fun t343 => ((diwanref1_Has.f t324 (rd y335 x12_2) 2).bind fun t344 => (if (t343 != t344) = true then (diwanlaw9_UlogAll.j2 k2 a3 t324 t331 y335 x12_2 true) else ((ulog_Join.f k2 t324 (rd y335 x12_2) t331).bind fun t345 => ((diwanref1_Join.f k2 t324 (rd y335 x12_2) t331).bind fun t348 => ((diwanref1_SameEntries.f k2 t345 t348).bind fun t351 => (if t351 = true then ((ulog_Newer.f k2 t324 (rd y335 x12_2) a3).bind fun t352 => ((diwanref1_Newer.f k2 t324 (rd y335 x12_2) a3).bind fun t353 => (if (t352 != t353) = true then (diwanlaw9_UlogAll.j2 k2 a3 t324 t331 y335 x12_2 true) else ((ulog_Newer.f k2 t324 (rd y335 x12_2) 3).bind fun t354 => ((diwanref1_Newer.f k2 t324 (rd y335 x12_2) 3).bind fun t355 => (diwanlaw9_UlogAll.j2 k2 a3 t324 t331 y335 x12_2 (t354 != t355))))))) else (diwanlaw9_UlogAll.j2 k2 a3 t324 t331 y335 x12_2 true))))))))) = some r := H
                      have A29 := Aside0.mk A290
                      clear A290
                      by_cases c30 : (t341 != t342) = true
                      · rw [if_pos c30] at H
                        have c30b0 : (t341 != t342) = true := c30
                        (try (have c30b1 : decide (t341 = t342) = false := by simpa using c30))
                        (try (have c30b2 : (t341 == t342) = false := by simpa using c30))
                        (try (have c30b3 : ¬ (t341 = t342) := by simpa using c30))
                        clear c30
                        have H' := Aside0.mk H
                        clear H
                        obtain ⟨Ao31, co31, eo31⟩ := Kd.N_slice HO_9.out
                        subst eo31
                        go_wp2_with (first | ((with_reducible refine gate_callee (f := 11) rfl ?_); refine goesL_ (some 44) rfl rfl Try.func11 (by kernel_rfl) rfl #[.slice Ao31 t324.length co31, .int .i64 (rd y335 x12_2)] rfl (by (try simp only [List.map_toArray, List.map_cons, List.map_nil]); first | done | rfl | (simp only [List.length_drop, List.length_take]; rfl)) ?_; (with_reducible refine (ulog_Term.calls k2 _ _ t324 (rd y335 x12_2) t339 _ ?side1 ?side2 A25.out).mono ?_); (case side1 => repeat (first | exact (Kd.N_reads' HO_9.out).2.2 | (with_reducible refine Kd.C_alloc ?_ _) | (with_reducible refine Kd.C_drewN ?_ _) | (with_reducible refine Kd.C_drew ?_))); (case side2 => exact (Kd.N_reads' HO_9.out).2.1); rintro e w' ⟨rfl, ⟨nd, rfl⟩⟩; refine ⟨_, rfl, ?_⟩) | ((with_reducible refine gate_callee (f := 12) rfl ?_); refine goesL_ (some 47) rfl rfl Try.func12 (by kernel_rfl) rfl #[.slice Ao31 t324.length co31, .int .i64 (rd y335 x12_2)] rfl (by (try simp only [List.map_toArray, List.map_cons, List.map_nil]); first | done | rfl | (simp only [List.length_drop, List.length_take]; rfl)) ?_; (with_reducible refine (diwanref1_Term.calls k2 _ _ t324 (rd y335 x12_2) t340 _ ?side1 ?side2 A26.out).mono ?_); (case side1 => repeat (first | exact (Kd.N_reads' HO_9.out).2.2 | (with_reducible refine Kd.C_alloc ?_ _) | (with_reducible refine Kd.C_drewN ?_ _) | (with_reducible refine Kd.C_drew ?_))); (case side2 => exact (Kd.N_reads' HO_9.out).2.1); rintro e w' ⟨rfl, ⟨nd, rfl⟩⟩; refine ⟨_, rfl, ?_⟩) | (go_at_call 13; (with_reducible refine (ulog_Has.calls k2 _ _ t324 (rd y335 x12_2) a3 t341 _ ?side1 ?side2 A28.out).mono ?_); (case side1 => repeat (first | exact (Kd.N_reads' HO_9.out).2.2 | (with_reducible refine Kd.C_alloc ?_ _) | (with_reducible refine Kd.C_drewN ?_ _) | (with_reducible refine Kd.C_drew ?_))); (case side2 => exact (Kd.N_reads' HO_9.out).2.1); rintro e w' ⟨rfl, ⟨nd, rfl⟩⟩) | (go_at_call 14; (with_reducible refine (diwanref1_Has.calls _ _ t324 (rd y335 x12_2) a3 t342 _ ?side1 ?side2 A29.out).mono ?_); (case side1 => repeat (first | exact (Kd.N_reads' HO_9.out).2.2 | (with_reducible refine Kd.C_alloc ?_ _) | (with_reducible refine Kd.C_drewN ?_ _) | (with_reducible refine Kd.C_drew ?_))); (case side2 => exact (Kd.N_reads' HO_9.out).2.1); rintro e w' ⟨rfl, ⟨nd, rfl⟩⟩))
                        go_meet
                        case rel => exact ⟨_, (true), (by first | rfl | (simp; done) | (simp [*]; done)), H', ⟨by have := HJ6.out; have := HK2.out; first | omega | exact Nat.le_refl _⟩, ⟨by (with_reducible repeat (first | apply Kd.N_alloc | apply Kd.N_drewN | apply Kd.N_drew)); exact HO_9.out⟩, ⟨by (with_reducible repeat (first | apply Kd.N_alloc | apply Kd.N_drewN | apply Kd.N_drew)); exact HO_10.out⟩, ⟨by (with_reducible repeat (first | apply Kd.R_alloc | apply Kd.R_drewN | apply Kd.R_drew)); exact HO_11.out⟩, ⟨by repeat (first | (with_reducible first | exact HB.out | apply below_alloc | apply pw_below_drewN | apply below_drew1) | exact HB.out)⟩⟩
                      · rw [if_neg c30] at H
                        have c30b0 : (t341 != t342) = false := by simpa using c30
                        (try (have c30b1 : decide (t341 = t342) = true := by simpa using c30))
                        (try (have c30b2 : (t341 == t342) = true := by simpa using c30))
                        clear c30
                        replace H := Option.bind_eq_some_iff.mp H
                        obtain ⟨t343, A320, H⟩ := H
                        replace H : ((diwanref1_Has.f t324 (rd y335 x12_2) 2).bind fun t344 => (if (t343 != t344) = true then (diwanlaw9_UlogAll.j2 k2 a3 t324 t331 y335 x12_2 true) else ((ulog_Join.f k2 t324 (rd y335 x12_2) t331).bind fun t345 => ((diwanref1_Join.f k2 t324 (rd y335 x12_2) t331).bind fun t348 => ((diwanref1_SameEntries.f k2 t345 t348).bind fun t351 => (if t351 = true then ((ulog_Newer.f k2 t324 (rd y335 x12_2) a3).bind fun t352 => ((diwanref1_Newer.f k2 t324 (rd y335 x12_2) a3).bind fun t353 => (if (t352 != t353) = true then (diwanlaw9_UlogAll.j2 k2 a3 t324 t331 y335 x12_2 true) else ((ulog_Newer.f k2 t324 (rd y335 x12_2) 3).bind fun t354 => ((diwanref1_Newer.f k2 t324 (rd y335 x12_2) 3).bind fun t355 => (diwanlaw9_UlogAll.j2 k2 a3 t324 t331 y335 x12_2 (t354 != t355))))))) else (diwanlaw9_UlogAll.j2 k2 a3 t324 t331 y335 x12_2 true))))))) = some r := H
                        have A32 := Aside0.mk A320
                        clear A320
                        replace H := Option.bind_eq_some_iff.mp H
                        obtain ⟨t344, A330, H⟩ := H
                        replace H : (if (t343 != t344) = true then (diwanlaw9_UlogAll.j2 k2 a3 t324 t331 y335 x12_2 true) else ((ulog_Join.f k2 t324 (rd y335 x12_2) t331).bind fun t345 => ((diwanref1_Join.f k2 t324 (rd y335 x12_2) t331).bind fun t348 => ((diwanref1_SameEntries.f k2 t345 t348).bind fun t351 => (if t351 = true then ((ulog_Newer.f k2 t324 (rd y335 x12_2) a3).bind fun t352 => ((diwanref1_Newer.f k2 t324 (rd y335 x12_2) a3).bind fun t353 => (if (t352 != t353) = true then (diwanlaw9_UlogAll.j2 k2 a3 t324 t331 y335 x12_2 true) else ((ulog_Newer.f k2 t324 (rd y335 x12_2) 3).bind fun t354 => ((diwanref1_Newer.f k2 t324 (rd y335 x12_2) 3).bind fun t355 => (diwanlaw9_UlogAll.j2 k2 a3 t324 t331 y335 x12_2 (t354 != t355))))))) else (diwanlaw9_UlogAll.j2 k2 a3 t324 t331 y335 x12_2 true)))))) = some r := H
                        have A33 := Aside0.mk A330
                        clear A330
                        by_cases c34 : (t343 != t344) = true
                        · rw [if_pos c34] at H
                          have c34b0 : (t343 != t344) = true := c34
                          (try (have c34b1 : decide (t343 = t344) = false := by simpa using c34))
                          (try (have c34b2 : (t343 == t344) = false := by simpa using c34))
                          (try (have c34b3 : ¬ (t343 = t344) := by simpa using c34))
                          clear c34
                          have H' := Aside0.mk H
                          clear H
                          obtain ⟨Ao35, co35, eo35⟩ := Kd.N_slice HO_9.out
                          subst eo35
                          go_wp2_with (first | ((with_reducible refine gate_callee (f := 11) rfl ?_); refine goesL_ (some 44) rfl rfl Try.func11 (by kernel_rfl) rfl #[.slice Ao35 t324.length co35, .int .i64 (rd y335 x12_2)] rfl (by (try simp only [List.map_toArray, List.map_cons, List.map_nil]); first | done | rfl | (simp only [List.length_drop, List.length_take]; rfl)) ?_; (with_reducible refine (ulog_Term.calls k2 _ _ t324 (rd y335 x12_2) t339 _ ?side1 ?side2 A25.out).mono ?_); (case side1 => repeat (first | exact (Kd.N_reads' HO_9.out).2.2 | (with_reducible refine Kd.C_alloc ?_ _) | (with_reducible refine Kd.C_drewN ?_ _) | (with_reducible refine Kd.C_drew ?_))); (case side2 => exact (Kd.N_reads' HO_9.out).2.1); rintro e w' ⟨rfl, ⟨nd, rfl⟩⟩; refine ⟨_, rfl, ?_⟩) | ((with_reducible refine gate_callee (f := 12) rfl ?_); refine goesL_ (some 47) rfl rfl Try.func12 (by kernel_rfl) rfl #[.slice Ao35 t324.length co35, .int .i64 (rd y335 x12_2)] rfl (by (try simp only [List.map_toArray, List.map_cons, List.map_nil]); first | done | rfl | (simp only [List.length_drop, List.length_take]; rfl)) ?_; (with_reducible refine (diwanref1_Term.calls k2 _ _ t324 (rd y335 x12_2) t340 _ ?side1 ?side2 A26.out).mono ?_); (case side1 => repeat (first | exact (Kd.N_reads' HO_9.out).2.2 | (with_reducible refine Kd.C_alloc ?_ _) | (with_reducible refine Kd.C_drewN ?_ _) | (with_reducible refine Kd.C_drew ?_))); (case side2 => exact (Kd.N_reads' HO_9.out).2.1); rintro e w' ⟨rfl, ⟨nd, rfl⟩⟩; refine ⟨_, rfl, ?_⟩) | (go_at_call 13; (with_reducible refine (ulog_Has.calls k2 _ _ t324 (rd y335 x12_2) a3 t341 _ ?side1 ?side2 A28.out).mono ?_); (case side1 => repeat (first | exact (Kd.N_reads' HO_9.out).2.2 | (with_reducible refine Kd.C_alloc ?_ _) | (with_reducible refine Kd.C_drewN ?_ _) | (with_reducible refine Kd.C_drew ?_))); (case side2 => exact (Kd.N_reads' HO_9.out).2.1); rintro e w' ⟨rfl, ⟨nd, rfl⟩⟩) | (go_at_call 14; (with_reducible refine (diwanref1_Has.calls _ _ t324 (rd y335 x12_2) a3 t342 _ ?side1 ?side2 A29.out).mono ?_); (case side1 => repeat (first | exact (Kd.N_reads' HO_9.out).2.2 | (with_reducible refine Kd.C_alloc ?_ _) | (with_reducible refine Kd.C_drewN ?_ _) | (with_reducible refine Kd.C_drew ?_))); (case side2 => exact (Kd.N_reads' HO_9.out).2.1); rintro e w' ⟨rfl, ⟨nd, rfl⟩⟩) | (go_at_call 13; (with_reducible refine (ulog_Has.calls k2 _ _ t324 (rd y335 x12_2) 2 t343 _ ?side1 ?side2 A32.out).mono ?_); (case side1 => repeat (first | exact (Kd.N_reads' HO_9.out).2.2 | (with_reducible refine Kd.C_alloc ?_ _) | (with_reducible refine Kd.C_drewN ?_ _) | (with_reducible refine Kd.C_drew ?_))); (case side2 => exact (Kd.N_reads' HO_9.out).2.1); rintro e w' ⟨rfl, ⟨nd, rfl⟩⟩) | (go_at_call 14; (with_reducible refine (diwanref1_Has.calls _ _ t324 (rd y335 x12_2) 2 t344 _ ?side1 ?side2 A33.out).mono ?_); (case side1 => repeat (first | exact (Kd.N_reads' HO_9.out).2.2 | (with_reducible refine Kd.C_alloc ?_ _) | (with_reducible refine Kd.C_drewN ?_ _) | (with_reducible refine Kd.C_drew ?_))); (case side2 => exact (Kd.N_reads' HO_9.out).2.1); rintro e w' ⟨rfl, ⟨nd, rfl⟩⟩))
                          go_meet
                          case rel => exact ⟨_, (true), (by first | rfl | (simp; done) | (simp [*]; done)), H', ⟨by have := HJ6.out; have := HK2.out; first | omega | exact Nat.le_refl _⟩, ⟨by (with_reducible repeat (first | apply Kd.N_alloc | apply Kd.N_drewN | apply Kd.N_drew)); exact HO_9.out⟩, ⟨by (with_reducible repeat (first | apply Kd.N_alloc | apply Kd.N_drewN | apply Kd.N_drew)); exact HO_10.out⟩, ⟨by (with_reducible repeat (first | apply Kd.R_alloc | apply Kd.R_drewN | apply Kd.R_drew)); exact HO_11.out⟩, ⟨by repeat (first | (with_reducible first | exact HB.out | apply below_alloc | apply pw_below_drewN | apply below_drew1) | exact HB.out)⟩⟩
                        · rw [if_neg c34] at H
                          have c34b0 : (t343 != t344) = false := by simpa using c34
                          (try (have c34b1 : decide (t343 = t344) = true := by simpa using c34))
                          (try (have c34b2 : (t343 == t344) = true := by simpa using c34))
                          clear c34
                          replace H := Option.bind_eq_some_iff.mp H
                          obtain ⟨t345, A360, H⟩ := H
                          replace H : ((diwanref1_Join.f k2 t324 (rd y335 x12_2) t331).bind fun t348 => ((diwanref1_SameEntries.f k2 t345 t348).bind fun t351 => (if t351 = true then ((ulog_Newer.f k2 t324 (rd y335 x12_2) a3).bind fun t352 => ((diwanref1_Newer.f k2 t324 (rd y335 x12_2) a3).bind fun t353 => (if (t352 != t353) = true then (diwanlaw9_UlogAll.j2 k2 a3 t324 t331 y335 x12_2 true) else ((ulog_Newer.f k2 t324 (rd y335 x12_2) 3).bind fun t354 => ((diwanref1_Newer.f k2 t324 (rd y335 x12_2) 3).bind fun t355 => (diwanlaw9_UlogAll.j2 k2 a3 t324 t331 y335 x12_2 (t354 != t355))))))) else (diwanlaw9_UlogAll.j2 k2 a3 t324 t331 y335 x12_2 true)))) = some r := H
                          have A36 := Aside0.mk A360
                          clear A360
                          replace H := Option.bind_eq_some_iff.mp H
                          obtain ⟨t348, A370, H⟩ := H
                          replace H : ((diwanref1_SameEntries.f k2 t345 t348).bind fun t351 => (if t351 = true then ((ulog_Newer.f k2 t324 (rd y335 x12_2) a3).bind fun t352 => ((diwanref1_Newer.f k2 t324 (rd y335 x12_2) a3).bind fun t353 => (if (t352 != t353) = true then (diwanlaw9_UlogAll.j2 k2 a3 t324 t331 y335 x12_2 true) else ((ulog_Newer.f k2 t324 (rd y335 x12_2) 3).bind fun t354 => ((diwanref1_Newer.f k2 t324 (rd y335 x12_2) 3).bind fun t355 => (diwanlaw9_UlogAll.j2 k2 a3 t324 t331 y335 x12_2 (t354 != t355))))))) else (diwanlaw9_UlogAll.j2 k2 a3 t324 t331 y335 x12_2 true))) = some r := H
                          have A37 := Aside0.mk A370
                          clear A370
                          replace H := Option.bind_eq_some_iff.mp H
                          obtain ⟨t351, A380, H⟩ := H
                          replace H : (if t351 = true then ((ulog_Newer.f k2 t324 (rd y335 x12_2) a3).bind fun t352 => ((diwanref1_Newer.f k2 t324 (rd y335 x12_2) a3).bind fun t353 => (if (t352 != t353) = true then (diwanlaw9_UlogAll.j2 k2 a3 t324 t331 y335 x12_2 true) else ((ulog_Newer.f k2 t324 (rd y335 x12_2) 3).bind fun t354 => ((diwanref1_Newer.f k2 t324 (rd y335 x12_2) 3).bind fun t355 => (diwanlaw9_UlogAll.j2 k2 a3 t324 t331 y335 x12_2 (t354 != t355))))))) else (diwanlaw9_UlogAll.j2 k2 a3 t324 t331 y335 x12_2 true)) = some r := H
                          have A38 := Aside0.mk A380
                          clear A380
                          by_cases c39 : t351 = true
                          · subst c39
                            have H1 : ((ulog_Newer.f k2 t324 (rd y335 x12_2) a3).bind fun t352 => ((diwanref1_Newer.f k2 t324 (rd y335 x12_2) a3).bind fun t353 => (if (t352 != t353) = true then (diwanlaw9_UlogAll.j2 k2 a3 t324 t331 y335 x12_2 true) else ((ulog_Newer.f k2 t324 (rd y335 x12_2) 3).bind fun t354 => ((diwanref1_Newer.f k2 t324 (rd y335 x12_2) 3).bind fun t355 => (diwanlaw9_UlogAll.j2 k2 a3 t324 t331 y335 x12_2 (t354 != t355))))))) = some r := by rw [if_pos rfl] at H; exact H
                            clear H
                            have H := H1
                            clear H1
                            replace H := Option.bind_eq_some_iff.mp H
                            obtain ⟨t352, A400, H⟩ := H
                            replace H : ((diwanref1_Newer.f k2 t324 (rd y335 x12_2) a3).bind fun t353 => (if (t352 != t353) = true then (diwanlaw9_UlogAll.j2 k2 a3 t324 t331 y335 x12_2 true) else ((ulog_Newer.f k2 t324 (rd y335 x12_2) 3).bind fun t354 => ((diwanref1_Newer.f k2 t324 (rd y335 x12_2) 3).bind fun t355 => (diwanlaw9_UlogAll.j2 k2 a3 t324 t331 y335 x12_2 (t354 != t355)))))) = some r := H
                            have A40 := Aside0.mk A400
                            clear A400
                            replace H := Option.bind_eq_some_iff.mp H
                            obtain ⟨t353, A410, H⟩ := H
                            replace H : (if (t352 != t353) = true then (diwanlaw9_UlogAll.j2 k2 a3 t324 t331 y335 x12_2 true) else ((ulog_Newer.f k2 t324 (rd y335 x12_2) 3).bind fun t354 => ((diwanref1_Newer.f k2 t324 (rd y335 x12_2) 3).bind fun t355 => (diwanlaw9_UlogAll.j2 k2 a3 t324 t331 y335 x12_2 (t354 != t355))))) = some r := H
                            have A41 := Aside0.mk A410
                            clear A410
                            by_cases c42 : (t352 != t353) = true
                            · rw [if_pos c42] at H
                              have c42b0 : (t352 != t353) = true := c42
                              (try (have c42b1 : decide (t352 = t353) = false := by simpa using c42))
                              (try (have c42b2 : (t352 == t353) = false := by simpa using c42))
                              (try (have c42b3 : ¬ (t352 = t353) := by simpa using c42))
                              clear c42
                              have H' := Aside0.mk H
                              clear H
                              obtain ⟨Ao43, co43, eo43⟩ := Kd.N_slice HO_9.out
                              subst eo43
                              go_wp2_with (first | ((with_reducible refine gate_callee (f := 11) rfl ?_); refine goesL_ (some 44) rfl rfl Try.func11 (by kernel_rfl) rfl #[.slice Ao43 t324.length co43, .int .i64 (rd y335 x12_2)] rfl (by (try simp only [List.map_toArray, List.map_cons, List.map_nil]); first | done | rfl | (simp only [List.length_drop, List.length_take]; rfl)) ?_; (with_reducible refine (ulog_Term.calls k2 _ _ t324 (rd y335 x12_2) t339 _ ?side1 ?side2 A25.out).mono ?_); (case side1 => repeat (first | exact (Kd.N_reads' HO_9.out).2.2 | (with_reducible refine Kd.C_alloc ?_ _) | (with_reducible refine Kd.C_drewN ?_ _) | (with_reducible refine Kd.C_drew ?_))); (case side2 => exact (Kd.N_reads' HO_9.out).2.1); rintro e w' ⟨rfl, ⟨nd, rfl⟩⟩; refine ⟨_, rfl, ?_⟩) | ((with_reducible refine gate_callee (f := 12) rfl ?_); refine goesL_ (some 47) rfl rfl Try.func12 (by kernel_rfl) rfl #[.slice Ao43 t324.length co43, .int .i64 (rd y335 x12_2)] rfl (by (try simp only [List.map_toArray, List.map_cons, List.map_nil]); first | done | rfl | (simp only [List.length_drop, List.length_take]; rfl)) ?_; (with_reducible refine (diwanref1_Term.calls k2 _ _ t324 (rd y335 x12_2) t340 _ ?side1 ?side2 A26.out).mono ?_); (case side1 => repeat (first | exact (Kd.N_reads' HO_9.out).2.2 | (with_reducible refine Kd.C_alloc ?_ _) | (with_reducible refine Kd.C_drewN ?_ _) | (with_reducible refine Kd.C_drew ?_))); (case side2 => exact (Kd.N_reads' HO_9.out).2.1); rintro e w' ⟨rfl, ⟨nd, rfl⟩⟩; refine ⟨_, rfl, ?_⟩) | (go_at_call 13; (with_reducible refine (ulog_Has.calls k2 _ _ t324 (rd y335 x12_2) a3 t341 _ ?side1 ?side2 A28.out).mono ?_); (case side1 => repeat (first | exact (Kd.N_reads' HO_9.out).2.2 | (with_reducible refine Kd.C_alloc ?_ _) | (with_reducible refine Kd.C_drewN ?_ _) | (with_reducible refine Kd.C_drew ?_))); (case side2 => exact (Kd.N_reads' HO_9.out).2.1); rintro e w' ⟨rfl, ⟨nd, rfl⟩⟩) | (go_at_call 14; (with_reducible refine (diwanref1_Has.calls _ _ t324 (rd y335 x12_2) a3 t342 _ ?side1 ?side2 A29.out).mono ?_); (case side1 => repeat (first | exact (Kd.N_reads' HO_9.out).2.2 | (with_reducible refine Kd.C_alloc ?_ _) | (with_reducible refine Kd.C_drewN ?_ _) | (with_reducible refine Kd.C_drew ?_))); (case side2 => exact (Kd.N_reads' HO_9.out).2.1); rintro e w' ⟨rfl, ⟨nd, rfl⟩⟩) | (go_at_call 13; (with_reducible refine (ulog_Has.calls k2 _ _ t324 (rd y335 x12_2) 2 t343 _ ?side1 ?side2 A32.out).mono ?_); (case side1 => repeat (first | exact (Kd.N_reads' HO_9.out).2.2 | (with_reducible refine Kd.C_alloc ?_ _) | (with_reducible refine Kd.C_drewN ?_ _) | (with_reducible refine Kd.C_drew ?_))); (case side2 => exact (Kd.N_reads' HO_9.out).2.1); rintro e w' ⟨rfl, ⟨nd, rfl⟩⟩) | (go_at_call 14; (with_reducible refine (diwanref1_Has.calls _ _ t324 (rd y335 x12_2) 2 t344 _ ?side1 ?side2 A33.out).mono ?_); (case side1 => repeat (first | exact (Kd.N_reads' HO_9.out).2.2 | (with_reducible refine Kd.C_alloc ?_ _) | (with_reducible refine Kd.C_drewN ?_ _) | (with_reducible refine Kd.C_drew ?_))); (case side2 => exact (Kd.N_reads' HO_9.out).2.1); rintro e w' ⟨rfl, ⟨nd, rfl⟩⟩; obtain ⟨Ao44, co44, eo44⟩ := Kd.N_slice HO_10.out; subst eo44) | (go_at_call 16; (with_reducible refine (ulog_Join.calls k2 (fun k_ => (some k_ ≠ (.slice Ao44 t331.length co44 : Value).ownBlock ∧ some k_ ≠ (.slice (some ad338) y335.length co24 : Value).ownBlock)) _ _ t324 (rd y335 x12_2) (fun k_ => (some k_ ≠ (.slice Ao43 t324.length co43 : Value).ownBlock ∧ some k_ ≠ (.slice (some ad338) y335.length co24 : Value).ownBlock)) _ _ t331 t345 _ ?side1 ?side2 A36.out).mono ?_); (case side1 => exact Kd.N_V (HO_9.out)); (case side2 => exact Kd.N_V (HO_10.out)); rintro e w45 ⟨v346, rfl, ho0, hb⟩; have n0_ := Aside0.mk (Kd.N_elder' (by (with_reducible repeat (first | apply Kd.N_alloc | apply Kd.N_drewN | apply Kd.N_drew)); exact HO_9.out) (Kd.N_base ho0) hb); have n1_ := Aside0.mk (Kd.N_elder' (by (with_reducible repeat (first | apply Kd.N_alloc | apply Kd.N_drewN | apply Kd.N_drew)); exact HO_10.out) (Kd.N_base ho0) hb); have n2_ := Aside0.mk (Kd.R_below (by (with_reducible repeat (first | apply Kd.R_alloc | apply Kd.R_drewN | apply Kd.R_drew)); exact HO_11.out) hb); have n3_ := Aside0.mk (Kd.N_lower (Kd.N_mono (ok' := fun k_ => some k_ ≠ (.slice (some ad338) y335.length co24 : Value).ownBlock) ho0 (fun k_ hk_ => Or.elim hk_ (fun hs_ => Or.elim hs_ (fun hs_ => hs_.2) (fun hs_ => hs_.2)) (fun hn_ => (Kd.fresh' (Kd.R_lt (by (with_reducible repeat (first | apply Kd.R_alloc | apply Kd.R_drewN | apply Kd.R_drew)); exact HO_11.out)) k_ hn_)))) (below_size (by repeat (first | (with_reducible first | exact HB.out | apply below_alloc | apply pw_below_drewN | apply below_drew1) | exact HB.out)))); have n4_ := Aside0.mk (below_step (by repeat (first | (with_reducible first | exact HB.out | apply below_alloc | apply pw_below_drewN | apply below_drew1) | exact HB.out)) hb); clear HO_9; clear HO_10; clear HO_11; clear HB; have HO_9 := n0_; have HO_10 := n1_; have HO_11 := n2_; have HO347 := n3_; have HB := n4_; clear n0_ n1_ n2_ n3_ n4_; (try clear hb); (try clear hb2); (try clear hk); (try clear hi); (try clear hgn_); (try clear ho0)) | (go_at_call 17; (with_reducible refine (diwanref1_Join.calls k2 (fun k_ => ((some k_ ≠ (.slice Ao44 t331.length co44 : Value).ownBlock ∧ some k_ ≠ (.slice (some ad338) y335.length co24 : Value).ownBlock) ∧ some k_ ≠ (v346 : Value).ownBlock)) _ _ t324 (rd y335 x12_2) (fun k_ => ((some k_ ≠ (.slice Ao43 t324.length co43 : Value).ownBlock ∧ some k_ ≠ (.slice (some ad338) y335.length co24 : Value).ownBlock) ∧ some k_ ≠ (v346 : Value).ownBlock)) _ _ t331 t348 _ ?side1 ?side2 A37.out).mono ?_); (case side1 => exact Kd.N_V (HO_9.out)); (case side2 => exact Kd.N_V (HO_10.out)); rintro e w46 ⟨v349, rfl, ho0, hb⟩; have n0_ := Aside0.mk (Kd.N_elder' (by (with_reducible repeat (first | apply Kd.N_alloc | apply Kd.N_drewN | apply Kd.N_drew)); exact HO_9.out) (Kd.N_base ho0) hb); have n1_ := Aside0.mk (Kd.N_elder' (by (with_reducible repeat (first | apply Kd.N_alloc | apply Kd.N_drewN | apply Kd.N_drew)); exact HO_10.out) (Kd.N_base ho0) hb); have n2_ := Aside0.mk (Kd.R_below (by (with_reducible repeat (first | apply Kd.R_alloc | apply Kd.R_drewN | apply Kd.R_drew)); exact HO_11.out) hb); have n3_ := Aside0.mk (Kd.N_elder' (by (with_reducible repeat (first | apply Kd.N_alloc | apply Kd.N_drewN | apply Kd.N_drew)); exact HO347.out) (Kd.N_base ho0) hb); have n4_ := Aside0.mk (Kd.N_lower (Kd.N_mono (ok' := fun k_ => some k_ ≠ (.slice (some ad338) y335.length co24 : Value).ownBlock ∧ some k_ ≠ (v346 : Value).ownBlock) ho0 (fun k_ hk_ => ⟨Or.elim hk_ (fun hs_ => Or.elim hs_ (fun hs_ => hs_.1.2) (fun hs_ => hs_.1.2)) (fun hn_ => (Kd.fresh' (Kd.R_lt (by (with_reducible repeat (first | apply Kd.R_alloc | apply Kd.R_drewN | apply Kd.R_drew)); exact HO_11.out)) k_ hn_)), Or.elim hk_ (fun hs_ => Or.elim hs_ (fun hs_ => hs_.2) (fun hs_ => hs_.2)) (fun hn_ => (Kd.fresh' (Kd.N_lt (by (with_reducible repeat (first | apply Kd.N_alloc | apply Kd.N_drewN | apply Kd.N_drew)); exact HO347.out)) k_ hn_))⟩)) (below_size (by repeat (first | (with_reducible first | exact HB.out | apply below_alloc | apply pw_below_drewN | apply below_drew1) | exact HB.out)))); have n5_ := Aside0.mk (below_step (by repeat (first | (with_reducible first | exact HB.out | apply below_alloc | apply pw_below_drewN | apply below_drew1) | exact HB.out)) hb); clear HO_9; clear HO_10; clear HO_11; clear HO347; clear HB; have HO_9 := n0_; have HO_10 := n1_; have HO_11 := n2_; have HO347 := n3_; have HO350 := n4_; have HB := n5_; clear n0_ n1_ n2_ n3_ n4_ n5_; (try clear hb); (try clear hb2); (try clear hk); (try clear hi); (try clear hgn_); (try clear ho0); obtain ⟨Ao47, co47, eo47⟩ := Kd.N_slice HO347.out; subst eo47; obtain ⟨Ao48, co48, eo48⟩ := Kd.N_slice HO350.out; subst eo48) | (go_at_call 15; (with_reducible refine (diwanref1_SameEntries.calls k2 _ _ t345 _ _ t348 true _ ?side1 ?side2 ?side3 ?side4 A38.out).mono ?_); (case side1 => repeat (first | exact (Kd.N_reads' HO347.out).2.2 | (with_reducible refine Kd.C_alloc ?_ _) | (with_reducible refine Kd.C_drewN ?_ _) | (with_reducible refine Kd.C_drew ?_))); (case side2 => exact (Kd.N_reads' HO347.out).2.1); (case side3 => repeat (first | exact (Kd.N_reads' HO350.out).2.2 | (with_reducible refine Kd.C_alloc ?_ _) | (with_reducible refine Kd.C_drewN ?_ _) | (with_reducible refine Kd.C_drew ?_))); (case side4 => exact (Kd.N_reads' HO350.out).2.1); rintro e w49 ⟨rfl, hb⟩; have n0_ := Aside0.mk (Kd.N_below (by (with_reducible repeat (first | apply Kd.N_alloc | apply Kd.N_drewN | apply Kd.N_drew)); exact HO_9.out) hb); have n1_ := Aside0.mk (Kd.N_below (by (with_reducible repeat (first | apply Kd.N_alloc | apply Kd.N_drewN | apply Kd.N_drew)); exact HO_10.out) hb); have n2_ := Aside0.mk (Kd.R_below (by (with_reducible repeat (first | apply Kd.R_alloc | apply Kd.R_drewN | apply Kd.R_drew)); exact HO_11.out) hb); have n3_ := Aside0.mk (Kd.N_below (by (with_reducible repeat (first | apply Kd.N_alloc | apply Kd.N_drewN | apply Kd.N_drew)); exact HO347.out) hb); have n4_ := Aside0.mk (Kd.N_below (by (with_reducible repeat (first | apply Kd.N_alloc | apply Kd.N_drewN | apply Kd.N_drew)); exact HO350.out) hb); have n5_ := Aside0.mk (below_step (by repeat (first | (with_reducible first | exact HB.out | apply below_alloc | apply pw_below_drewN | apply below_drew1) | exact HB.out)) hb); clear HO_9; clear HO_10; clear HO_11; clear HO347; clear HO350; clear HB; have HO_9 := n0_; have HO_10 := n1_; have HO_11 := n2_; have HO347 := n3_; have HO350 := n4_; have HB := n5_; clear n0_ n1_ n2_ n3_ n4_ n5_; (try clear hb); (try clear hb2); (try clear hk); (try clear hi); (try clear hgn_)) | (go_at_call 18; (with_reducible refine (ulog_Newer.calls k2 _ _ t324 (rd y335 x12_2) a3 t352 _ ?side1 ?side2 A40.out).mono ?_); (case side1 => repeat (first | exact (Kd.N_reads' HO_9.out).2.2 | (with_reducible refine Kd.C_alloc ?_ _) | (with_reducible refine Kd.C_drewN ?_ _) | (with_reducible refine Kd.C_drew ?_))); (case side2 => exact (Kd.N_reads' HO_9.out).2.1); rintro e w' ⟨rfl, ⟨nd, rfl⟩⟩) | (go_at_call 19; (with_reducible refine (diwanref1_Newer.calls k2 _ _ t324 (rd y335 x12_2) a3 t353 _ ?side1 ?side2 A41.out).mono ?_); (case side1 => repeat (first | exact (Kd.N_reads' HO_9.out).2.2 | (with_reducible refine Kd.C_alloc ?_ _) | (with_reducible refine Kd.C_drewN ?_ _) | (with_reducible refine Kd.C_drew ?_))); (case side2 => exact (Kd.N_reads' HO_9.out).2.1); rintro e w' ⟨rfl, ⟨nd, rfl⟩⟩))
                              go_meet
                              case rel => exact ⟨_, (true), (by first | rfl | (simp; done) | (simp [*]; done)), H', ⟨by have := HJ6.out; have := HK2.out; first | omega | exact Nat.le_refl _⟩, ⟨by (with_reducible repeat (first | apply Kd.N_alloc | apply Kd.N_drewN | apply Kd.N_drew)); exact Kd.N_mono HO_9.out (fun _ hk => ⟨hk.1.1.1, hk.1.1.2⟩)⟩, ⟨by (with_reducible repeat (first | apply Kd.N_alloc | apply Kd.N_drewN | apply Kd.N_drew)); exact Kd.N_mono HO_10.out (fun _ hk => ⟨hk.1.1.1, hk.1.1.2⟩)⟩, ⟨by (with_reducible repeat (first | apply Kd.R_alloc | apply Kd.R_drewN | apply Kd.R_drew)); exact HO_11.out⟩, ⟨by repeat (first | (with_reducible first | exact HB.out | apply below_alloc | apply pw_below_drewN | apply below_drew1) | exact HB.out)⟩⟩
                            · rw [if_neg c42] at H
                              have c42b0 : (t352 != t353) = false := by simpa using c42
                              (try (have c42b1 : decide (t352 = t353) = true := by simpa using c42))
                              (try (have c42b2 : (t352 == t353) = true := by simpa using c42))
                              clear c42
                              replace H := Option.bind_eq_some_iff.mp H
                              obtain ⟨t354, A500, H⟩ := H
                              replace H : ((diwanref1_Newer.f k2 t324 (rd y335 x12_2) 3).bind fun t355 => (diwanlaw9_UlogAll.j2 k2 a3 t324 t331 y335 x12_2 (t354 != t355))) = some r := H
                              have A50 := Aside0.mk A500
                              clear A500
                              replace H := Option.bind_eq_some_iff.mp H
                              obtain ⟨t355, A510, H⟩ := H
                              replace H : (diwanlaw9_UlogAll.j2 k2 a3 t324 t331 y335 x12_2 (t354 != t355)) = some r := H
                              have A51 := Aside0.mk A510
                              clear A510
                              have H' := Aside0.mk H
                              clear H
                              obtain ⟨Ao52, co52, eo52⟩ := Kd.N_slice HO_9.out
                              subst eo52
                              go_wp2_with (first | ((with_reducible refine gate_callee (f := 11) rfl ?_); refine goesL_ (some 44) rfl rfl Try.func11 (by kernel_rfl) rfl #[.slice Ao52 t324.length co52, .int .i64 (rd y335 x12_2)] rfl (by (try simp only [List.map_toArray, List.map_cons, List.map_nil]); first | done | rfl | (simp only [List.length_drop, List.length_take]; rfl)) ?_; (with_reducible refine (ulog_Term.calls k2 _ _ t324 (rd y335 x12_2) t339 _ ?side1 ?side2 A25.out).mono ?_); (case side1 => repeat (first | exact (Kd.N_reads' HO_9.out).2.2 | (with_reducible refine Kd.C_alloc ?_ _) | (with_reducible refine Kd.C_drewN ?_ _) | (with_reducible refine Kd.C_drew ?_))); (case side2 => exact (Kd.N_reads' HO_9.out).2.1); rintro e w' ⟨rfl, ⟨nd, rfl⟩⟩; refine ⟨_, rfl, ?_⟩) | ((with_reducible refine gate_callee (f := 12) rfl ?_); refine goesL_ (some 47) rfl rfl Try.func12 (by kernel_rfl) rfl #[.slice Ao52 t324.length co52, .int .i64 (rd y335 x12_2)] rfl (by (try simp only [List.map_toArray, List.map_cons, List.map_nil]); first | done | rfl | (simp only [List.length_drop, List.length_take]; rfl)) ?_; (with_reducible refine (diwanref1_Term.calls k2 _ _ t324 (rd y335 x12_2) t340 _ ?side1 ?side2 A26.out).mono ?_); (case side1 => repeat (first | exact (Kd.N_reads' HO_9.out).2.2 | (with_reducible refine Kd.C_alloc ?_ _) | (with_reducible refine Kd.C_drewN ?_ _) | (with_reducible refine Kd.C_drew ?_))); (case side2 => exact (Kd.N_reads' HO_9.out).2.1); rintro e w' ⟨rfl, ⟨nd, rfl⟩⟩; refine ⟨_, rfl, ?_⟩) | (go_at_call 13; (with_reducible refine (ulog_Has.calls k2 _ _ t324 (rd y335 x12_2) a3 t341 _ ?side1 ?side2 A28.out).mono ?_); (case side1 => repeat (first | exact (Kd.N_reads' HO_9.out).2.2 | (with_reducible refine Kd.C_alloc ?_ _) | (with_reducible refine Kd.C_drewN ?_ _) | (with_reducible refine Kd.C_drew ?_))); (case side2 => exact (Kd.N_reads' HO_9.out).2.1); rintro e w' ⟨rfl, ⟨nd, rfl⟩⟩) | (go_at_call 14; (with_reducible refine (diwanref1_Has.calls _ _ t324 (rd y335 x12_2) a3 t342 _ ?side1 ?side2 A29.out).mono ?_); (case side1 => repeat (first | exact (Kd.N_reads' HO_9.out).2.2 | (with_reducible refine Kd.C_alloc ?_ _) | (with_reducible refine Kd.C_drewN ?_ _) | (with_reducible refine Kd.C_drew ?_))); (case side2 => exact (Kd.N_reads' HO_9.out).2.1); rintro e w' ⟨rfl, ⟨nd, rfl⟩⟩) | (go_at_call 13; (with_reducible refine (ulog_Has.calls k2 _ _ t324 (rd y335 x12_2) 2 t343 _ ?side1 ?side2 A32.out).mono ?_); (case side1 => repeat (first | exact (Kd.N_reads' HO_9.out).2.2 | (with_reducible refine Kd.C_alloc ?_ _) | (with_reducible refine Kd.C_drewN ?_ _) | (with_reducible refine Kd.C_drew ?_))); (case side2 => exact (Kd.N_reads' HO_9.out).2.1); rintro e w' ⟨rfl, ⟨nd, rfl⟩⟩) | (go_at_call 14; (with_reducible refine (diwanref1_Has.calls _ _ t324 (rd y335 x12_2) 2 t344 _ ?side1 ?side2 A33.out).mono ?_); (case side1 => repeat (first | exact (Kd.N_reads' HO_9.out).2.2 | (with_reducible refine Kd.C_alloc ?_ _) | (with_reducible refine Kd.C_drewN ?_ _) | (with_reducible refine Kd.C_drew ?_))); (case side2 => exact (Kd.N_reads' HO_9.out).2.1); rintro e w' ⟨rfl, ⟨nd, rfl⟩⟩; obtain ⟨Ao53, co53, eo53⟩ := Kd.N_slice HO_10.out; subst eo53) | (go_at_call 16; (with_reducible refine (ulog_Join.calls k2 (fun k_ => (some k_ ≠ (.slice Ao53 t331.length co53 : Value).ownBlock ∧ some k_ ≠ (.slice (some ad338) y335.length co24 : Value).ownBlock)) _ _ t324 (rd y335 x12_2) (fun k_ => (some k_ ≠ (.slice Ao52 t324.length co52 : Value).ownBlock ∧ some k_ ≠ (.slice (some ad338) y335.length co24 : Value).ownBlock)) _ _ t331 t345 _ ?side1 ?side2 A36.out).mono ?_); (case side1 => exact Kd.N_V (HO_9.out)); (case side2 => exact Kd.N_V (HO_10.out)); rintro e w54 ⟨v346, rfl, ho0, hb⟩; have n0_ := Aside0.mk (Kd.N_elder' (by (with_reducible repeat (first | apply Kd.N_alloc | apply Kd.N_drewN | apply Kd.N_drew)); exact HO_9.out) (Kd.N_base ho0) hb); have n1_ := Aside0.mk (Kd.N_elder' (by (with_reducible repeat (first | apply Kd.N_alloc | apply Kd.N_drewN | apply Kd.N_drew)); exact HO_10.out) (Kd.N_base ho0) hb); have n2_ := Aside0.mk (Kd.R_below (by (with_reducible repeat (first | apply Kd.R_alloc | apply Kd.R_drewN | apply Kd.R_drew)); exact HO_11.out) hb); have n3_ := Aside0.mk (Kd.N_lower (Kd.N_mono (ok' := fun k_ => some k_ ≠ (.slice (some ad338) y335.length co24 : Value).ownBlock) ho0 (fun k_ hk_ => Or.elim hk_ (fun hs_ => Or.elim hs_ (fun hs_ => hs_.2) (fun hs_ => hs_.2)) (fun hn_ => (Kd.fresh' (Kd.R_lt (by (with_reducible repeat (first | apply Kd.R_alloc | apply Kd.R_drewN | apply Kd.R_drew)); exact HO_11.out)) k_ hn_)))) (below_size (by repeat (first | (with_reducible first | exact HB.out | apply below_alloc | apply pw_below_drewN | apply below_drew1) | exact HB.out)))); have n4_ := Aside0.mk (below_step (by repeat (first | (with_reducible first | exact HB.out | apply below_alloc | apply pw_below_drewN | apply below_drew1) | exact HB.out)) hb); clear HO_9; clear HO_10; clear HO_11; clear HB; have HO_9 := n0_; have HO_10 := n1_; have HO_11 := n2_; have HO347 := n3_; have HB := n4_; clear n0_ n1_ n2_ n3_ n4_; (try clear hb); (try clear hb2); (try clear hk); (try clear hi); (try clear hgn_); (try clear ho0)) | (go_at_call 17; (with_reducible refine (diwanref1_Join.calls k2 (fun k_ => ((some k_ ≠ (.slice Ao53 t331.length co53 : Value).ownBlock ∧ some k_ ≠ (.slice (some ad338) y335.length co24 : Value).ownBlock) ∧ some k_ ≠ (v346 : Value).ownBlock)) _ _ t324 (rd y335 x12_2) (fun k_ => ((some k_ ≠ (.slice Ao52 t324.length co52 : Value).ownBlock ∧ some k_ ≠ (.slice (some ad338) y335.length co24 : Value).ownBlock) ∧ some k_ ≠ (v346 : Value).ownBlock)) _ _ t331 t348 _ ?side1 ?side2 A37.out).mono ?_); (case side1 => exact Kd.N_V (HO_9.out)); (case side2 => exact Kd.N_V (HO_10.out)); rintro e w55 ⟨v349, rfl, ho0, hb⟩; have n0_ := Aside0.mk (Kd.N_elder' (by (with_reducible repeat (first | apply Kd.N_alloc | apply Kd.N_drewN | apply Kd.N_drew)); exact HO_9.out) (Kd.N_base ho0) hb); have n1_ := Aside0.mk (Kd.N_elder' (by (with_reducible repeat (first | apply Kd.N_alloc | apply Kd.N_drewN | apply Kd.N_drew)); exact HO_10.out) (Kd.N_base ho0) hb); have n2_ := Aside0.mk (Kd.R_below (by (with_reducible repeat (first | apply Kd.R_alloc | apply Kd.R_drewN | apply Kd.R_drew)); exact HO_11.out) hb); have n3_ := Aside0.mk (Kd.N_elder' (by (with_reducible repeat (first | apply Kd.N_alloc | apply Kd.N_drewN | apply Kd.N_drew)); exact HO347.out) (Kd.N_base ho0) hb); have n4_ := Aside0.mk (Kd.N_lower (Kd.N_mono (ok' := fun k_ => some k_ ≠ (.slice (some ad338) y335.length co24 : Value).ownBlock ∧ some k_ ≠ (v346 : Value).ownBlock) ho0 (fun k_ hk_ => ⟨Or.elim hk_ (fun hs_ => Or.elim hs_ (fun hs_ => hs_.1.2) (fun hs_ => hs_.1.2)) (fun hn_ => (Kd.fresh' (Kd.R_lt (by (with_reducible repeat (first | apply Kd.R_alloc | apply Kd.R_drewN | apply Kd.R_drew)); exact HO_11.out)) k_ hn_)), Or.elim hk_ (fun hs_ => Or.elim hs_ (fun hs_ => hs_.2) (fun hs_ => hs_.2)) (fun hn_ => (Kd.fresh' (Kd.N_lt (by (with_reducible repeat (first | apply Kd.N_alloc | apply Kd.N_drewN | apply Kd.N_drew)); exact HO347.out)) k_ hn_))⟩)) (below_size (by repeat (first | (with_reducible first | exact HB.out | apply below_alloc | apply pw_below_drewN | apply below_drew1) | exact HB.out)))); have n5_ := Aside0.mk (below_step (by repeat (first | (with_reducible first | exact HB.out | apply below_alloc | apply pw_below_drewN | apply below_drew1) | exact HB.out)) hb); clear HO_9; clear HO_10; clear HO_11; clear HO347; clear HB; have HO_9 := n0_; have HO_10 := n1_; have HO_11 := n2_; have HO347 := n3_; have HO350 := n4_; have HB := n5_; clear n0_ n1_ n2_ n3_ n4_ n5_; (try clear hb); (try clear hb2); (try clear hk); (try clear hi); (try clear hgn_); (try clear ho0); obtain ⟨Ao56, co56, eo56⟩ := Kd.N_slice HO347.out; subst eo56; obtain ⟨Ao57, co57, eo57⟩ := Kd.N_slice HO350.out; subst eo57) | (go_at_call 15; (with_reducible refine (diwanref1_SameEntries.calls k2 _ _ t345 _ _ t348 true _ ?side1 ?side2 ?side3 ?side4 A38.out).mono ?_); (case side1 => repeat (first | exact (Kd.N_reads' HO347.out).2.2 | (with_reducible refine Kd.C_alloc ?_ _) | (with_reducible refine Kd.C_drewN ?_ _) | (with_reducible refine Kd.C_drew ?_))); (case side2 => exact (Kd.N_reads' HO347.out).2.1); (case side3 => repeat (first | exact (Kd.N_reads' HO350.out).2.2 | (with_reducible refine Kd.C_alloc ?_ _) | (with_reducible refine Kd.C_drewN ?_ _) | (with_reducible refine Kd.C_drew ?_))); (case side4 => exact (Kd.N_reads' HO350.out).2.1); rintro e w58 ⟨rfl, hb⟩; have n0_ := Aside0.mk (Kd.N_below (by (with_reducible repeat (first | apply Kd.N_alloc | apply Kd.N_drewN | apply Kd.N_drew)); exact HO_9.out) hb); have n1_ := Aside0.mk (Kd.N_below (by (with_reducible repeat (first | apply Kd.N_alloc | apply Kd.N_drewN | apply Kd.N_drew)); exact HO_10.out) hb); have n2_ := Aside0.mk (Kd.R_below (by (with_reducible repeat (first | apply Kd.R_alloc | apply Kd.R_drewN | apply Kd.R_drew)); exact HO_11.out) hb); have n3_ := Aside0.mk (Kd.N_below (by (with_reducible repeat (first | apply Kd.N_alloc | apply Kd.N_drewN | apply Kd.N_drew)); exact HO347.out) hb); have n4_ := Aside0.mk (Kd.N_below (by (with_reducible repeat (first | apply Kd.N_alloc | apply Kd.N_drewN | apply Kd.N_drew)); exact HO350.out) hb); have n5_ := Aside0.mk (below_step (by repeat (first | (with_reducible first | exact HB.out | apply below_alloc | apply pw_below_drewN | apply below_drew1) | exact HB.out)) hb); clear HO_9; clear HO_10; clear HO_11; clear HO347; clear HO350; clear HB; have HO_9 := n0_; have HO_10 := n1_; have HO_11 := n2_; have HO347 := n3_; have HO350 := n4_; have HB := n5_; clear n0_ n1_ n2_ n3_ n4_ n5_; (try clear hb); (try clear hb2); (try clear hk); (try clear hi); (try clear hgn_)) | (go_at_call 18; (with_reducible refine (ulog_Newer.calls k2 _ _ t324 (rd y335 x12_2) a3 t352 _ ?side1 ?side2 A40.out).mono ?_); (case side1 => repeat (first | exact (Kd.N_reads' HO_9.out).2.2 | (with_reducible refine Kd.C_alloc ?_ _) | (with_reducible refine Kd.C_drewN ?_ _) | (with_reducible refine Kd.C_drew ?_))); (case side2 => exact (Kd.N_reads' HO_9.out).2.1); rintro e w' ⟨rfl, ⟨nd, rfl⟩⟩) | (go_at_call 19; (with_reducible refine (diwanref1_Newer.calls k2 _ _ t324 (rd y335 x12_2) a3 t353 _ ?side1 ?side2 A41.out).mono ?_); (case side1 => repeat (first | exact (Kd.N_reads' HO_9.out).2.2 | (with_reducible refine Kd.C_alloc ?_ _) | (with_reducible refine Kd.C_drewN ?_ _) | (with_reducible refine Kd.C_drew ?_))); (case side2 => exact (Kd.N_reads' HO_9.out).2.1); rintro e w' ⟨rfl, ⟨nd, rfl⟩⟩) | (go_at_call 18; (with_reducible refine (ulog_Newer.calls k2 _ _ t324 (rd y335 x12_2) 3 t354 _ ?side1 ?side2 A50.out).mono ?_); (case side1 => repeat (first | exact (Kd.N_reads' HO_9.out).2.2 | (with_reducible refine Kd.C_alloc ?_ _) | (with_reducible refine Kd.C_drewN ?_ _) | (with_reducible refine Kd.C_drew ?_))); (case side2 => exact (Kd.N_reads' HO_9.out).2.1); rintro e w' ⟨rfl, ⟨nd, rfl⟩⟩) | (go_at_call 19; (with_reducible refine (diwanref1_Newer.calls k2 _ _ t324 (rd y335 x12_2) 3 t355 _ ?side1 ?side2 A51.out).mono ?_); (case side1 => repeat (first | exact (Kd.N_reads' HO_9.out).2.2 | (with_reducible refine Kd.C_alloc ?_ _) | (with_reducible refine Kd.C_drewN ?_ _) | (with_reducible refine Kd.C_drew ?_))); (case side2 => exact (Kd.N_reads' HO_9.out).2.1); rintro e w' ⟨rfl, ⟨nd, rfl⟩⟩))
                              go_meet
                              case rel => exact ⟨_, ((t354 != t355)), (by first | rfl | (simp; done) | (simp [*]; done)), H', ⟨by have := HJ6.out; have := HK2.out; first | omega | exact Nat.le_refl _⟩, ⟨by (with_reducible repeat (first | apply Kd.N_alloc | apply Kd.N_drewN | apply Kd.N_drew)); exact Kd.N_mono HO_9.out (fun _ hk => ⟨hk.1.1.1, hk.1.1.2⟩)⟩, ⟨by (with_reducible repeat (first | apply Kd.N_alloc | apply Kd.N_drewN | apply Kd.N_drew)); exact Kd.N_mono HO_10.out (fun _ hk => ⟨hk.1.1.1, hk.1.1.2⟩)⟩, ⟨by (with_reducible repeat (first | apply Kd.R_alloc | apply Kd.R_drewN | apply Kd.R_drew)); exact HO_11.out⟩, ⟨by repeat (first | (with_reducible first | exact HB.out | apply below_alloc | apply pw_below_drewN | apply below_drew1) | exact HB.out)⟩⟩
                          · replace c39 := Bool.eq_false_iff.mpr c39
                            subst c39
                            have H1 : (diwanlaw9_UlogAll.j2 k2 a3 t324 t331 y335 x12_2 true) = some r := by rw [if_neg (show ¬ (false = true) by decide)] at H; exact H
                            clear H
                            have H := H1
                            clear H1
                            have H' := Aside0.mk H
                            clear H
                            obtain ⟨Ao59, co59, eo59⟩ := Kd.N_slice HO_9.out
                            subst eo59
                            go_wp2_with (first | ((with_reducible refine gate_callee (f := 11) rfl ?_); refine goesL_ (some 44) rfl rfl Try.func11 (by kernel_rfl) rfl #[.slice Ao59 t324.length co59, .int .i64 (rd y335 x12_2)] rfl (by (try simp only [List.map_toArray, List.map_cons, List.map_nil]); first | done | rfl | (simp only [List.length_drop, List.length_take]; rfl)) ?_; (with_reducible refine (ulog_Term.calls k2 _ _ t324 (rd y335 x12_2) t339 _ ?side1 ?side2 A25.out).mono ?_); (case side1 => repeat (first | exact (Kd.N_reads' HO_9.out).2.2 | (with_reducible refine Kd.C_alloc ?_ _) | (with_reducible refine Kd.C_drewN ?_ _) | (with_reducible refine Kd.C_drew ?_))); (case side2 => exact (Kd.N_reads' HO_9.out).2.1); rintro e w' ⟨rfl, ⟨nd, rfl⟩⟩; refine ⟨_, rfl, ?_⟩) | ((with_reducible refine gate_callee (f := 12) rfl ?_); refine goesL_ (some 47) rfl rfl Try.func12 (by kernel_rfl) rfl #[.slice Ao59 t324.length co59, .int .i64 (rd y335 x12_2)] rfl (by (try simp only [List.map_toArray, List.map_cons, List.map_nil]); first | done | rfl | (simp only [List.length_drop, List.length_take]; rfl)) ?_; (with_reducible refine (diwanref1_Term.calls k2 _ _ t324 (rd y335 x12_2) t340 _ ?side1 ?side2 A26.out).mono ?_); (case side1 => repeat (first | exact (Kd.N_reads' HO_9.out).2.2 | (with_reducible refine Kd.C_alloc ?_ _) | (with_reducible refine Kd.C_drewN ?_ _) | (with_reducible refine Kd.C_drew ?_))); (case side2 => exact (Kd.N_reads' HO_9.out).2.1); rintro e w' ⟨rfl, ⟨nd, rfl⟩⟩; refine ⟨_, rfl, ?_⟩) | (go_at_call 13; (with_reducible refine (ulog_Has.calls k2 _ _ t324 (rd y335 x12_2) a3 t341 _ ?side1 ?side2 A28.out).mono ?_); (case side1 => repeat (first | exact (Kd.N_reads' HO_9.out).2.2 | (with_reducible refine Kd.C_alloc ?_ _) | (with_reducible refine Kd.C_drewN ?_ _) | (with_reducible refine Kd.C_drew ?_))); (case side2 => exact (Kd.N_reads' HO_9.out).2.1); rintro e w' ⟨rfl, ⟨nd, rfl⟩⟩) | (go_at_call 14; (with_reducible refine (diwanref1_Has.calls _ _ t324 (rd y335 x12_2) a3 t342 _ ?side1 ?side2 A29.out).mono ?_); (case side1 => repeat (first | exact (Kd.N_reads' HO_9.out).2.2 | (with_reducible refine Kd.C_alloc ?_ _) | (with_reducible refine Kd.C_drewN ?_ _) | (with_reducible refine Kd.C_drew ?_))); (case side2 => exact (Kd.N_reads' HO_9.out).2.1); rintro e w' ⟨rfl, ⟨nd, rfl⟩⟩) | (go_at_call 13; (with_reducible refine (ulog_Has.calls k2 _ _ t324 (rd y335 x12_2) 2 t343 _ ?side1 ?side2 A32.out).mono ?_); (case side1 => repeat (first | exact (Kd.N_reads' HO_9.out).2.2 | (with_reducible refine Kd.C_alloc ?_ _) | (with_reducible refine Kd.C_drewN ?_ _) | (with_reducible refine Kd.C_drew ?_))); (case side2 => exact (Kd.N_reads' HO_9.out).2.1); rintro e w' ⟨rfl, ⟨nd, rfl⟩⟩) | (go_at_call 14; (with_reducible refine (diwanref1_Has.calls _ _ t324 (rd y335 x12_2) 2 t344 _ ?side1 ?side2 A33.out).mono ?_); (case side1 => repeat (first | exact (Kd.N_reads' HO_9.out).2.2 | (with_reducible refine Kd.C_alloc ?_ _) | (with_reducible refine Kd.C_drewN ?_ _) | (with_reducible refine Kd.C_drew ?_))); (case side2 => exact (Kd.N_reads' HO_9.out).2.1); rintro e w' ⟨rfl, ⟨nd, rfl⟩⟩; obtain ⟨Ao60, co60, eo60⟩ := Kd.N_slice HO_10.out; subst eo60) | (go_at_call 16; (with_reducible refine (ulog_Join.calls k2 (fun k_ => (some k_ ≠ (.slice Ao60 t331.length co60 : Value).ownBlock ∧ some k_ ≠ (.slice (some ad338) y335.length co24 : Value).ownBlock)) _ _ t324 (rd y335 x12_2) (fun k_ => (some k_ ≠ (.slice Ao59 t324.length co59 : Value).ownBlock ∧ some k_ ≠ (.slice (some ad338) y335.length co24 : Value).ownBlock)) _ _ t331 t345 _ ?side1 ?side2 A36.out).mono ?_); (case side1 => exact Kd.N_V (HO_9.out)); (case side2 => exact Kd.N_V (HO_10.out)); rintro e w61 ⟨v346, rfl, ho0, hb⟩; have n0_ := Aside0.mk (Kd.N_elder' (by (with_reducible repeat (first | apply Kd.N_alloc | apply Kd.N_drewN | apply Kd.N_drew)); exact HO_9.out) (Kd.N_base ho0) hb); have n1_ := Aside0.mk (Kd.N_elder' (by (with_reducible repeat (first | apply Kd.N_alloc | apply Kd.N_drewN | apply Kd.N_drew)); exact HO_10.out) (Kd.N_base ho0) hb); have n2_ := Aside0.mk (Kd.R_below (by (with_reducible repeat (first | apply Kd.R_alloc | apply Kd.R_drewN | apply Kd.R_drew)); exact HO_11.out) hb); have n3_ := Aside0.mk (Kd.N_lower (Kd.N_mono (ok' := fun k_ => some k_ ≠ (.slice (some ad338) y335.length co24 : Value).ownBlock) ho0 (fun k_ hk_ => Or.elim hk_ (fun hs_ => Or.elim hs_ (fun hs_ => hs_.2) (fun hs_ => hs_.2)) (fun hn_ => (Kd.fresh' (Kd.R_lt (by (with_reducible repeat (first | apply Kd.R_alloc | apply Kd.R_drewN | apply Kd.R_drew)); exact HO_11.out)) k_ hn_)))) (below_size (by repeat (first | (with_reducible first | exact HB.out | apply below_alloc | apply pw_below_drewN | apply below_drew1) | exact HB.out)))); have n4_ := Aside0.mk (below_step (by repeat (first | (with_reducible first | exact HB.out | apply below_alloc | apply pw_below_drewN | apply below_drew1) | exact HB.out)) hb); clear HO_9; clear HO_10; clear HO_11; clear HB; have HO_9 := n0_; have HO_10 := n1_; have HO_11 := n2_; have HO347 := n3_; have HB := n4_; clear n0_ n1_ n2_ n3_ n4_; (try clear hb); (try clear hb2); (try clear hk); (try clear hi); (try clear hgn_); (try clear ho0)) | (go_at_call 17; (with_reducible refine (diwanref1_Join.calls k2 (fun k_ => ((some k_ ≠ (.slice Ao60 t331.length co60 : Value).ownBlock ∧ some k_ ≠ (.slice (some ad338) y335.length co24 : Value).ownBlock) ∧ some k_ ≠ (v346 : Value).ownBlock)) _ _ t324 (rd y335 x12_2) (fun k_ => ((some k_ ≠ (.slice Ao59 t324.length co59 : Value).ownBlock ∧ some k_ ≠ (.slice (some ad338) y335.length co24 : Value).ownBlock) ∧ some k_ ≠ (v346 : Value).ownBlock)) _ _ t331 t348 _ ?side1 ?side2 A37.out).mono ?_); (case side1 => exact Kd.N_V (HO_9.out)); (case side2 => exact Kd.N_V (HO_10.out)); rintro e w62 ⟨v349, rfl, ho0, hb⟩; have n0_ := Aside0.mk (Kd.N_elder' (by (with_reducible repeat (first | apply Kd.N_alloc | apply Kd.N_drewN | apply Kd.N_drew)); exact HO_9.out) (Kd.N_base ho0) hb); have n1_ := Aside0.mk (Kd.N_elder' (by (with_reducible repeat (first | apply Kd.N_alloc | apply Kd.N_drewN | apply Kd.N_drew)); exact HO_10.out) (Kd.N_base ho0) hb); have n2_ := Aside0.mk (Kd.R_below (by (with_reducible repeat (first | apply Kd.R_alloc | apply Kd.R_drewN | apply Kd.R_drew)); exact HO_11.out) hb); have n3_ := Aside0.mk (Kd.N_elder' (by (with_reducible repeat (first | apply Kd.N_alloc | apply Kd.N_drewN | apply Kd.N_drew)); exact HO347.out) (Kd.N_base ho0) hb); have n4_ := Aside0.mk (Kd.N_lower (Kd.N_mono (ok' := fun k_ => some k_ ≠ (.slice (some ad338) y335.length co24 : Value).ownBlock ∧ some k_ ≠ (v346 : Value).ownBlock) ho0 (fun k_ hk_ => ⟨Or.elim hk_ (fun hs_ => Or.elim hs_ (fun hs_ => hs_.1.2) (fun hs_ => hs_.1.2)) (fun hn_ => (Kd.fresh' (Kd.R_lt (by (with_reducible repeat (first | apply Kd.R_alloc | apply Kd.R_drewN | apply Kd.R_drew)); exact HO_11.out)) k_ hn_)), Or.elim hk_ (fun hs_ => Or.elim hs_ (fun hs_ => hs_.2) (fun hs_ => hs_.2)) (fun hn_ => (Kd.fresh' (Kd.N_lt (by (with_reducible repeat (first | apply Kd.N_alloc | apply Kd.N_drewN | apply Kd.N_drew)); exact HO347.out)) k_ hn_))⟩)) (below_size (by repeat (first | (with_reducible first | exact HB.out | apply below_alloc | apply pw_below_drewN | apply below_drew1) | exact HB.out)))); have n5_ := Aside0.mk (below_step (by repeat (first | (with_reducible first | exact HB.out | apply below_alloc | apply pw_below_drewN | apply below_drew1) | exact HB.out)) hb); clear HO_9; clear HO_10; clear HO_11; clear HO347; clear HB; have HO_9 := n0_; have HO_10 := n1_; have HO_11 := n2_; have HO347 := n3_; have HO350 := n4_; have HB := n5_; clear n0_ n1_ n2_ n3_ n4_ n5_; (try clear hb); (try clear hb2); (try clear hk); (try clear hi); (try clear hgn_); (try clear ho0); obtain ⟨Ao63, co63, eo63⟩ := Kd.N_slice HO347.out; subst eo63; obtain ⟨Ao64, co64, eo64⟩ := Kd.N_slice HO350.out; subst eo64) | (go_at_call 15; (with_reducible refine (diwanref1_SameEntries.calls k2 _ _ t345 _ _ t348 false _ ?side1 ?side2 ?side3 ?side4 A38.out).mono ?_); (case side1 => repeat (first | exact (Kd.N_reads' HO347.out).2.2 | (with_reducible refine Kd.C_alloc ?_ _) | (with_reducible refine Kd.C_drewN ?_ _) | (with_reducible refine Kd.C_drew ?_))); (case side2 => exact (Kd.N_reads' HO347.out).2.1); (case side3 => repeat (first | exact (Kd.N_reads' HO350.out).2.2 | (with_reducible refine Kd.C_alloc ?_ _) | (with_reducible refine Kd.C_drewN ?_ _) | (with_reducible refine Kd.C_drew ?_))); (case side4 => exact (Kd.N_reads' HO350.out).2.1); rintro e w65 ⟨rfl, hb⟩; have n0_ := Aside0.mk (Kd.N_below (by (with_reducible repeat (first | apply Kd.N_alloc | apply Kd.N_drewN | apply Kd.N_drew)); exact HO_9.out) hb); have n1_ := Aside0.mk (Kd.N_below (by (with_reducible repeat (first | apply Kd.N_alloc | apply Kd.N_drewN | apply Kd.N_drew)); exact HO_10.out) hb); have n2_ := Aside0.mk (Kd.R_below (by (with_reducible repeat (first | apply Kd.R_alloc | apply Kd.R_drewN | apply Kd.R_drew)); exact HO_11.out) hb); have n3_ := Aside0.mk (Kd.N_below (by (with_reducible repeat (first | apply Kd.N_alloc | apply Kd.N_drewN | apply Kd.N_drew)); exact HO347.out) hb); have n4_ := Aside0.mk (Kd.N_below (by (with_reducible repeat (first | apply Kd.N_alloc | apply Kd.N_drewN | apply Kd.N_drew)); exact HO350.out) hb); have n5_ := Aside0.mk (below_step (by repeat (first | (with_reducible first | exact HB.out | apply below_alloc | apply pw_below_drewN | apply below_drew1) | exact HB.out)) hb); clear HO_9; clear HO_10; clear HO_11; clear HO347; clear HO350; clear HB; have HO_9 := n0_; have HO_10 := n1_; have HO_11 := n2_; have HO347 := n3_; have HO350 := n4_; have HB := n5_; clear n0_ n1_ n2_ n3_ n4_ n5_; (try clear hb); (try clear hb2); (try clear hk); (try clear hi); (try clear hgn_)))
                            go_meet
                            case rel => exact ⟨_, (true), (by first | rfl | (simp; done) | (simp [*]; done)), H', ⟨by have := HJ6.out; have := HK2.out; first | omega | exact Nat.le_refl _⟩, ⟨by (with_reducible repeat (first | apply Kd.N_alloc | apply Kd.N_drewN | apply Kd.N_drew)); exact Kd.N_mono HO_9.out (fun _ hk => ⟨hk.1.1.1, hk.1.1.2⟩)⟩, ⟨by (with_reducible repeat (first | apply Kd.N_alloc | apply Kd.N_drewN | apply Kd.N_drew)); exact Kd.N_mono HO_10.out (fun _ hk => ⟨hk.1.1.1, hk.1.1.2⟩)⟩, ⟨by (with_reducible repeat (first | apply Kd.R_alloc | apply Kd.R_drewN | apply Kd.R_drew)); exact HO_11.out⟩, ⟨by repeat (first | (with_reducible first | exact HB.out | apply below_alloc | apply pw_below_drewN | apply below_drew1) | exact HB.out)⟩⟩
                    · rw [if_neg c27] at H
                      have c27b0 : (t339 == t340) = false := beq_eq_false_iff_ne.mpr c27
                      have c27b1 : (t339 != t340) = true := bne_iff_ne.mpr c27
                      (first | rw [c27b0] | (simp only [i64_w, i32_w]; rw [c27b0]) | skip)
                      have H' := Aside0.mk H
                      clear H
                      obtain ⟨Ao66, co66, eo66⟩ := Kd.N_slice HO_9.out
                      subst eo66
                      go_wp2_with (first | ((with_reducible refine gate_callee (f := 11) rfl ?_); refine goesL_ (some 44) rfl rfl Try.func11 (by kernel_rfl) rfl #[.slice Ao66 t324.length co66, .int .i64 (rd y335 x12_2)] rfl (by (try simp only [List.map_toArray, List.map_cons, List.map_nil]); first | done | rfl | (simp only [List.length_drop, List.length_take]; rfl)) ?_; (with_reducible refine (ulog_Term.calls k2 _ _ t324 (rd y335 x12_2) t339 _ ?side1 ?side2 A25.out).mono ?_); (case side1 => repeat (first | exact (Kd.N_reads' HO_9.out).2.2 | (with_reducible refine Kd.C_alloc ?_ _) | (with_reducible refine Kd.C_drewN ?_ _) | (with_reducible refine Kd.C_drew ?_))); (case side2 => exact (Kd.N_reads' HO_9.out).2.1); rintro e w' ⟨rfl, ⟨nd, rfl⟩⟩; refine ⟨_, rfl, ?_⟩) | ((with_reducible refine gate_callee (f := 12) rfl ?_); refine goesL_ (some 47) rfl rfl Try.func12 (by kernel_rfl) rfl #[.slice Ao66 t324.length co66, .int .i64 (rd y335 x12_2)] rfl (by (try simp only [List.map_toArray, List.map_cons, List.map_nil]); first | done | rfl | (simp only [List.length_drop, List.length_take]; rfl)) ?_; (with_reducible refine (diwanref1_Term.calls k2 _ _ t324 (rd y335 x12_2) t340 _ ?side1 ?side2 A26.out).mono ?_); (case side1 => repeat (first | exact (Kd.N_reads' HO_9.out).2.2 | (with_reducible refine Kd.C_alloc ?_ _) | (with_reducible refine Kd.C_drewN ?_ _) | (with_reducible refine Kd.C_drew ?_))); (case side2 => exact (Kd.N_reads' HO_9.out).2.1); rintro e w' ⟨rfl, ⟨nd, rfl⟩⟩; refine ⟨_, rfl, ?_⟩))
                      go_meet
                      case rel => exact ⟨_, (true), (by first | rfl | (simp; done) | (simp [*]; done)), H', ⟨by have := HJ6.out; have := HK2.out; first | omega | exact Nat.le_refl _⟩, ⟨by (with_reducible repeat (first | apply Kd.N_alloc | apply Kd.N_drewN | apply Kd.N_drew)); exact HO_9.out⟩, ⟨by (with_reducible repeat (first | apply Kd.N_alloc | apply Kd.N_drewN | apply Kd.N_drew)); exact HO_10.out⟩, ⟨by (with_reducible repeat (first | apply Kd.R_alloc | apply Kd.R_drewN | apply Kd.R_drew)); exact HO_11.out⟩, ⟨by repeat (first | (with_reducible first | exact HB.out | apply below_alloc | apply pw_below_drewN | apply below_drew1) | exact HB.out)⟩⟩
                  case rest =>
                    clear HC23
                    try clear c1
                    try clear c2
                    try clear p2
                    try clear c3
                    try clear p3
                    try clear q3
                    try clear hx3
                    try clear c4
                    try clear c6
                    try clear c8
                    try clear c9
                    try clear c9b0
                    try clear c9b1
                    try clear c10
                    try clear c11
                    try clear c12
                    try clear c21
                    try clear c21b0
                    try clear c22
                    try clear c22b0
                    try clear c27
                    try clear c27b0
                    try clear c27b1
                    try clear c30
                    try clear c30b0
                    try clear c30b1
                    try clear c30b2
                    try clear p33
                    try clear q33
                    try clear hx33
                    try clear c34
                    try clear c34b0
                    try clear c34b1
                    try clear c34b2
                    try clear c39
                    try clear c42
                    try clear c42b0
                    try clear c42b1
                    try clear c42b2
                    try clear hx338_0
                    try clear p2
                    try clear p338
                    try clear q338
                    obtain ⟨kq, x100_22, rfl, HA, HJ22, HO_9, HO_10, HO_11, HB⟩ := hcut
                    cases kq with
                    | zero => exact absurd HA.out (by simp [diwanlaw9_UlogAll.j2])
                    | succ kj22 =>
                      have H := HA.out
                      clear HA
                      simp only [diwanlaw9_UlogAll.j2] at H
                      by_cases c67 : x100_22 = true
                      · subst c67
                        have H1 : (some false) = some r := by rw [if_pos rfl] at H; exact H
                        clear H
                        have H := H1
                        clear H1
                        exact absurd (Option.some.inj H) (by rw [hT.out]; decide)
                      · replace c67 := Bool.eq_false_iff.mpr c67
                        subst c67
                        have H1 : (diwanlaw9_UlogAll.l0 kj22 a3 t324 t331 y335 (wrap64 (x12_2 + 1))) = some r := by rw [if_neg (show ¬ (false = true) by decide)] at H; exact H
                        clear H
                        have H := H1
                        clear H1
                        have H' := Aside0.mk H
                        clear H
                        go_wp2
                        go_roundg kj22
                        case measure => have := HJ6.out; have := HK2.out; have := HJ22.out; omega
                        case rel => exact ⟨(wrap64 (x12_2 + 1)), (by first | rfl | (simp; done) | (simp [*]; done)), H', ⟨by have := HJ6.out; have := HK2.out; have := HJ22.out; omega⟩, ⟨by (with_reducible repeat (first | apply Kd.N_alloc | apply Kd.N_drewN | apply Kd.N_drew)); exact HO_9.out⟩, ⟨by (with_reducible repeat (first | apply Kd.N_alloc | apply Kd.N_drewN | apply Kd.N_drew)); exact HO_10.out⟩, ⟨by (with_reducible repeat (first | apply Kd.R_alloc | apply Kd.R_drewN | apply Kd.R_drew)); exact HO_11.out⟩, ⟨by repeat (first | (with_reducible first | exact HB.out | apply below_alloc | apply pw_below_drewN | apply below_drew1) | exact HB.out)⟩⟩
                · rw [if_neg c22] at H
                  exact absurd H (by simp)
              · rw [if_neg c21] at H
                have c21b0 : decide (x12_2 < (y335.length : Int)) = false := decide_eq_false c21
                clear c21
                replace H := Option.bind_eq_some_iff.mp H
                obtain ⟨t356, A680, H⟩ := H
                replace H : ((diwanref1_SameEntries.f k2 t324 t331).bind fun t357 => (if (t356 == t357) = true then ((ulog_Same.f k2 t324 t324).bind fun t358 => (some t358)) else (some false))) = some r := H
                have A68 := Aside0.mk A680
                clear A680
                replace H := Option.bind_eq_some_iff.mp H
                obtain ⟨t357, A690, H⟩ := H
                replace H : (if (t356 == t357) = true then ((ulog_Same.f k2 t324 t324).bind fun t358 => (some t358)) else (some false)) = some r := H
                have A69 := Aside0.mk A690
                clear A690
                by_cases c70 : (t356 == t357) = true
                · rw [if_pos c70] at H
                  have c70b0 : (t356 == t357) = true := c70
                  (try (have c70b1 : decide (t356 = t357) = true := by simpa using c70))
                  (try (have c70b2 : (t356 == t357) = true := by simpa using c70))
                  clear c70
                  replace H := Option.bind_eq_some_iff.mp H
                  obtain ⟨t358, A710, H⟩ := H
                  replace H : (some t358) = some r := H
                  have A71 := Aside0.mk A710
                  clear A710
                  obtain rfl := Option.some.inj H
                  obtain ⟨Ao72, co72, eo72⟩ := Kd.R_slice HO_11.out
                  subst eo72
                  obtain ⟨Ao73, co73, eo73⟩ := Kd.N_slice HO_9.out
                  subst eo73
                  obtain ⟨Ao74, co74, eo74⟩ := Kd.N_slice HO_10.out
                  subst eo74
                  go_wp2_with (first | ((with_reducible refine gate_callee (f := 20) rfl ?_); refine goesL_ (some 103) rfl rfl Try.func20 (by kernel_rfl) rfl #[.slice Ao73 t324.length co73, .slice Ao74 t331.length co74] rfl (by (try simp only [List.map_toArray, List.map_cons, List.map_nil]); first | done | rfl | (simp only [List.length_drop, List.length_take]; rfl)) ?_; (with_reducible refine (ulog_Same.calls k2 _ _ t324 _ _ t331 t356 _ ?side1 ?side2 ?side3 ?side4 A68.out).mono ?_); (case side1 => repeat (first | exact (Kd.N_reads' HO_9.out).2.2 | (with_reducible refine Kd.C_alloc ?_ _) | (with_reducible refine Kd.C_drewN ?_ _) | (with_reducible refine Kd.C_drew ?_))); (case side2 => exact (Kd.N_reads' HO_9.out).2.1); (case side3 => repeat (first | exact (Kd.N_reads' HO_10.out).2.2 | (with_reducible refine Kd.C_alloc ?_ _) | (with_reducible refine Kd.C_drewN ?_ _) | (with_reducible refine Kd.C_drew ?_))); (case side4 => exact (Kd.N_reads' HO_10.out).2.1); rintro e w75 ⟨rfl, hb⟩; refine ⟨_, rfl, ?_⟩; have n0_ := Aside0.mk (Kd.N_below (by (with_reducible repeat (first | apply Kd.N_alloc | apply Kd.N_drewN | apply Kd.N_drew)); exact HO_9.out) hb); have n1_ := Aside0.mk (Kd.N_below (by (with_reducible repeat (first | apply Kd.N_alloc | apply Kd.N_drewN | apply Kd.N_drew)); exact HO_10.out) hb); have n2_ := Aside0.mk (Kd.R_below (by (with_reducible repeat (first | apply Kd.R_alloc | apply Kd.R_drewN | apply Kd.R_drew)); exact HO_11.out) hb); have n3_ := Aside0.mk (below_step (by repeat (first | (with_reducible first | exact HB.out | apply below_alloc | apply pw_below_drewN | apply below_drew1) | exact HB.out)) hb); clear HO_9; clear HO_10; clear HO_11; clear HB; have HO_9 := n0_; have HO_10 := n1_; have HO_11 := n2_; have HB := n3_; clear n0_ n1_ n2_ n3_; (try clear hb); (try clear hb2); (try clear hk); (try clear hi); (try clear hgn_)) | ((with_reducible refine gate_callee (f := 15) rfl ?_); refine goesL_ (some 106) rfl rfl Try.func15 (by kernel_rfl) rfl #[.slice Ao73 t324.length co73, .slice Ao74 t331.length co74] rfl (by (try simp only [List.map_toArray, List.map_cons, List.map_nil]); first | done | rfl | (simp only [List.length_drop, List.length_take]; rfl)) ?_; (with_reducible refine (diwanref1_SameEntries.calls k2 _ _ t324 _ _ t331 t357 _ ?side1 ?side2 ?side3 ?side4 A69.out).mono ?_); (case side1 => repeat (first | exact (Kd.N_reads' HO_9.out).2.2 | (with_reducible refine Kd.C_alloc ?_ _) | (with_reducible refine Kd.C_drewN ?_ _) | (with_reducible refine Kd.C_drew ?_))); (case side2 => exact (Kd.N_reads' HO_9.out).2.1); (case side3 => repeat (first | exact (Kd.N_reads' HO_10.out).2.2 | (with_reducible refine Kd.C_alloc ?_ _) | (with_reducible refine Kd.C_drewN ?_ _) | (with_reducible refine Kd.C_drew ?_))); (case side4 => exact (Kd.N_reads' HO_10.out).2.1); rintro e w76 ⟨rfl, hb⟩; refine ⟨_, rfl, ?_⟩; have n0_ := Aside0.mk (Kd.N_below (by (with_reducible repeat (first | apply Kd.N_alloc | apply Kd.N_drewN | apply Kd.N_drew)); exact HO_9.out) hb); have n1_ := Aside0.mk (Kd.N_below (by (with_reducible repeat (first | apply Kd.N_alloc | apply Kd.N_drewN | apply Kd.N_drew)); exact HO_10.out) hb); have n2_ := Aside0.mk (Kd.R_below (by (with_reducible repeat (first | apply Kd.R_alloc | apply Kd.R_drewN | apply Kd.R_drew)); exact HO_11.out) hb); have n3_ := Aside0.mk (below_step (by repeat (first | (with_reducible first | exact HB.out | apply below_alloc | apply pw_below_drewN | apply below_drew1) | exact HB.out)) hb); clear HO_9; clear HO_10; clear HO_11; clear HB; have HO_9 := n0_; have HO_10 := n1_; have HO_11 := n2_; have HB := n3_; clear n0_ n1_ n2_ n3_; (try clear hb); (try clear hb2); (try clear hk); (try clear hi); (try clear hgn_)) | (go_at_call 20; (with_reducible refine (ulog_Same.calls k2 _ _ t324 _ _ t324 t358 _ ?side1 ?side2 ?side3 ?side4 A71.out).mono ?_); (case side1 => repeat (first | exact (Kd.N_reads' HO_9.out).2.2 | (with_reducible refine Kd.C_alloc ?_ _) | (with_reducible refine Kd.C_drewN ?_ _) | (with_reducible refine Kd.C_drew ?_))); (case side2 => exact (Kd.N_reads' HO_9.out).2.1); (case side3 => repeat (first | exact (Kd.N_reads' HO_9.out).2.2 | (with_reducible refine Kd.C_alloc ?_ _) | (with_reducible refine Kd.C_drewN ?_ _) | (with_reducible refine Kd.C_drew ?_))); (case side4 => exact (Kd.N_reads' HO_9.out).2.1); rintro e w77 ⟨rfl, hb⟩; have n0_ := Aside0.mk (Kd.N_below (by (with_reducible repeat (first | apply Kd.N_alloc | apply Kd.N_drewN | apply Kd.N_drew)); exact HO_9.out) hb); have n1_ := Aside0.mk (Kd.N_below (by (with_reducible repeat (first | apply Kd.N_alloc | apply Kd.N_drewN | apply Kd.N_drew)); exact HO_10.out) hb); have n2_ := Aside0.mk (Kd.R_below (by (with_reducible repeat (first | apply Kd.R_alloc | apply Kd.R_drewN | apply Kd.R_drew)); exact HO_11.out) hb); have n3_ := Aside0.mk (below_step (by repeat (first | (with_reducible first | exact HB.out | apply below_alloc | apply pw_below_drewN | apply below_drew1) | exact HB.out)) hb); clear HO_9; clear HO_10; clear HO_11; clear HB; have HO_9 := n0_; have HO_10 := n1_; have HO_11 := n2_; have HB := n3_; clear n0_ n1_ n2_ n3_; (try clear hb); (try clear hb2); (try clear hk); (try clear hi); (try clear hgn_)))
                  go_ret
                  exact ⟨by first | rfl | (simp [errW_none, errW_some] <;> rfl) | (simp [*, errW_none, errW_some] <;> rfl), by repeat (first | (with_reducible first | exact HB.out | apply below_alloc | apply pw_below_drewN | apply below_drew1) | exact HB.out)⟩
                · rw [if_neg c70] at H
                  have c70b0 : (t356 == t357) = false := by simpa using c70
                  (try (have c70b1 : decide (t356 = t357) = false := by simpa using c70))
                  (try (have c70b2 : (t356 == t357) = false := by simpa using c70))
                  (try (have c70b3 : ¬ (t356 = t357) := by simpa using c70))
                  clear c70
                  exact absurd (Option.some.inj H) (by rw [hT.out]; decide)
  · replace c6 := Bool.eq_false_iff.mpr c6
    subst c6
    have H1 : (some false) = some r := by rw [if_neg (show ¬ (false = true) by decide)] at H; exact H
    clear H
    have H := H1
    clear H1
    exact absurd (Option.some.inj H) (by rw [hT.out]; decide)

/-- THE ONE PURE STATEMENT of diwanlaw9_UlogAll: yours. -/
def diwanlaw9_UlogAll.Pure : Prop := ∀ (l0 : List Int) (l1 : List Int) (a2 : Int) (a3 : Int), l0.length ≤ maxLen → l0.length * 1 ≤ 140737488351232 → (∀ x ∈ l0, (Lit.int .u8 x).wf = true) → l1.length ≤ maxLen → l1.length * 1 ≤ 140737488351232 → (∀ x ∈ l1, (Lit.int .u8 x).wf = true) → (Lit.int .i64 a2).wf = true → (Lit.int .i64 a3).wf = true → ∃ k, diwanlaw9_UlogAll.f k l0 l1 a2 a3 = some true
theorem diwanlaw9_UlogAll.walk (P : diwanlaw9_UlogAll.Pure) (a0 : Option Addr) (len0 cap0 : Nat) (z0 : List Int) (a1 : Option Addr) (len1 cap1 : Nat) (z1 : List Int) (a2 : Int) (a3 : Int) (w : World) (w0 : (a0 = none ∧ len0 = 0 ∧ cap0 = 0 ∧ z0 = []) ∨ ∃ x, a0 = some x ∧ len0 ≤ cap0 ∧ cap0 ≤ maxLen ∧ z0.length = cap0 ∧ (∀ i, i < z0.length → w.cell? (x.add i) = some (.int .u8 (z0.getD i 0))) ∧ ∀ n ∈ z0, (Lit.int .u8 n).wf = true) (y0 : len0 * 1 ≤ 140737488351232) (w1 : (a1 = none ∧ len1 = 0 ∧ cap1 = 0 ∧ z1 = []) ∨ ∃ x, a1 = some x ∧ len1 ≤ cap1 ∧ cap1 ≤ maxLen ∧ z1.length = cap1 ∧ (∀ i, i < z1.length → w.cell? (x.add i) = some (.int .u8 (z1.getD i 0))) ∧ ∀ n ∈ z1, (Lit.int .u8 n).wf = true) (y1 : len1 * 1 ≤ 140737488351232) (w2 : (Lit.int .i64 a2).wf = true) (w3 : (Lit.int .i64 a3).wf = true) :
    Calls Try.prog 3 #[.slice a0 len0 cap0, .slice a1 len1 cap1, .int .i64 a2, .int .i64 a3] w fun e w' => e = .returned (.bool true) ∧ Below w.heap.size w w' := by
  obtain ⟨l0, rfl, hr0, hm0, hw0, hc0⟩ := ReadsInt.ofRowC w0
  obtain ⟨l1, rfl, hr1, hm1, hw1, hc1⟩ := ReadsInt.ofRowC w1
  obtain ⟨k, h⟩ := P l0 l1 a2 a3 hm0 y0 hw0 hm1 y1 hw1 w2 w3
  refine (diwanlaw9_UlogAll.calls k _ _ l0 _ _ l1 a2 a3 true w (Kd.C_of_reads (d := (0 : Int)) (h1 := fun _ => rfl) hr0) hc0 (Kd.C_of_reads (d := (0 : Int)) (h1 := fun _ => rfl) hr1) hc1 h ⟨rfl⟩).mono ?_
  rintro e w' ⟨rfl, hd⟩
  exact ⟨rfl, hd⟩

end Go.Proofs.Ytipeiombaempoaa.Q
