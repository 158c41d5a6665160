/- One Go function told as a Lean function, and that the Go code comes to its answers: out of the print of the program, by the kit and by programs of this session. -/
import Derived.Test.YtipeiombaempoaaQ0
import Derived.Test.YtipeiombaempoaaQulogJoin
import Derived.Test.YtipeiombaempoaaQulogSame
import Derived.Test.YtipeiombaempoaaQdiwanlaw9begun
import Derived.Test.YtipeiombaempoaaQdiwanplayMade
import Derived.Test.YtipeiombaempoaaQdiwanplayPicksLog
import Derived.Test.YtipeiombaempoaaQdiwanref1SameEntries
namespace Go.Proofs.Ytipeiombaempoaa.Q
open Go.RowKit Go.Proofs.YtipeiombaempoaaW.PrintWords Go.Proofs.YtipeiombaempoaaW.PrintLast Go.Proofs.YtipeiombaempoaaW.PrintMore
attribute [local go_sem] max2_int min2_int max_two min_two max_three min_three max_four min_four   -- for this text's walks alone
set_option linter.unusedVariables false
set_option linter.unusedSimpArgs false

/-! ### diwanlaw9_UlogJoin: function 4 -/
mutual
def diwanlaw9_UlogJoin.j0 : Nat → List Int → List Int → Int → Int → Bool → Option (Bool)
  | 0, _, _, _, _, _ => none
  | k + 1, x0, x1, x2, x3, x25 => if x25 = true then (some true) else ((diwanplay_Made.f x0).bind fun bt360 => ((diwanplay_Picks_Log.f k bt360.1 bt360.2 8).bind fun bt363 => ((diwanplay_Made.f x1).bind fun bt367 => ((diwanplay_Picks_Log.f k bt367.1 bt367.2 4).bind fun bt370 => (if (wrap64 ((bt363.1.length : Int) + 1)) = 0 then (none) else ((ulog_Join.f k bt363.1 (Int.tmod (wrap64 (x2)) (wrap64 ((bt363.1.length : Int) + 1))) bt370.1).bind fun t374 => ((ulog_Join.f k t374 (Int.tmod (wrap64 (x2)) (wrap64 ((bt363.1.length : Int) + 1))) bt370.1).bind fun t377 => (if (wrap64 ((bt370.1.length : Int) + 1)) = 0 then (none) else (if 0 ≤ (Int.tmod (wrap64 (x3)) (wrap64 ((bt370.1.length : Int) + 1))) then (if (Int.tmod (wrap64 (x3)) (wrap64 ((bt370.1.length : Int) + 1))) ≤ (bt370.1.length : Int) then ((ulog_Join.f k t374 (Int.tmod (wrap64 (x2)) (wrap64 ((bt363.1.length : Int) + 1))) (bt370.1.take ((Int.tmod (wrap64 (x3)) (wrap64 ((bt370.1.length : Int) + 1))) : Int).toNat)).bind fun t385 => ((ulog_Same.f k t374 t377).bind fun t388 => (if t388 = true then ((ulog_Same.f k t374 t385).bind fun t389 => (if t389 = true then (if (t374.length : Int) < (wrap64 ((Int.tmod (wrap64 (x2)) (wrap64 ((bt363.1.length : Int) + 1))) + (bt370.1.length : Int))) then (diwanlaw9_UlogJoin.j1 k bt363.1 bt370.1 (Int.tmod (wrap64 (x2)) (wrap64 ((bt363.1.length : Int) + 1))) t374 true) else (if 0 ≤ (Int.tmod (wrap64 (x2)) (wrap64 ((bt363.1.length : Int) + 1))) then (if (Int.tmod (wrap64 (x2)) (wrap64 ((bt363.1.length : Int) + 1))) ≤ (t374.length : Int) then (if (Int.tmod (wrap64 (x2)) (wrap64 ((bt363.1.length : Int) + 1))) ≤ (bt363.1.length : Int) then ((diwanref1_SameEntries.f k (t374.take ((Int.tmod (wrap64 (x2)) (wrap64 ((bt363.1.length : Int) + 1))) : Int).toNat) (bt363.1.take ((Int.tmod (wrap64 (x2)) (wrap64 ((bt363.1.length : Int) + 1))) : Int).toNat)).bind fun t400 => (diwanlaw9_UlogJoin.j1 k bt363.1 bt370.1 (Int.tmod (wrap64 (x2)) (wrap64 ((bt363.1.length : Int) + 1))) t374 (!t400))) else (none)) else (none)) else (none))) else (diwanlaw9_UlogJoin.j1 k bt363.1 bt370.1 (Int.tmod (wrap64 (x2)) (wrap64 ((bt363.1.length : Int) + 1))) t374 true))) else (diwanlaw9_UlogJoin.j1 k bt363.1 bt370.1 (Int.tmod (wrap64 (x2)) (wrap64 ((bt363.1.length : Int) + 1))) t374 true)))) else (none)) else (none))))))))))
def diwanlaw9_UlogJoin.j1 : Nat → List (S39) → List (S39) → Int → List (S39) → Bool → Option (Bool)
  | 0, _, _, _, _, _ => none
  | k + 1, x9, x10, x11, x12, x85 => if x85 = true then (some false) else (diwanlaw9_UlogJoin.l0 k x9 x10 x11 x12 0)
def diwanlaw9_UlogJoin.l0 : Nat → List (S39) → List (S39) → Int → List (S39) → Int → Option (Bool)
  | 0, _, _, _, _, _ => none
  | k + 1, x9, x10, x11, x12, x15 => if x15 < (x10.length : Int) then (if 0 ≤ (wrap64 (x11 + x15)) then (if (wrap64 (x11 + x15)) < (x12.length : Int) then (if 0 ≤ x15 then (if ((rd_T39 x12 (wrap64 (x11 + x15))).f0) = ((rd_T39 x10 x15).f0) then (diwanlaw9_UlogJoin.l0 k x9 x10 x11 x12 (wrap64 (x15 + 1))) else (some false)) else (none)) else (none)) else (none)) else ((ulog_Join.f k x9 x11 ([] : List (S39))).bind fun t403 => ((ulog_Same.f k t403 x9).bind fun t406 => (some t406)))
end
def diwanlaw9_UlogJoin.f (k : Nat) (l0 : List Int) (l1 : List Int) (a2 : Int) (a3 : Int) : Option (Bool) := (diwanlaw9_begun.f k).bind fun t359 => (if t359 = true then (if (l0.length : Int) > 80 then (diwanlaw9_UlogJoin.j0 k l0 l1 a2 a3 true) else (diwanlaw9_UlogJoin.j0 k l0 l1 a2 a3 (decide ((l1.length : Int) > 80)))) else (some false))
def diwanlaw9_UlogJoin.T10 : Bool × List (List Nat × List Nat) := (true, [([], []), ([], []), ([0, 1], [0, 1]), ([2], [2]), ([3, 2], [3]), ([4], [4]), ([4], [4]), ([5, 6, 4, 4], [4, 5, 6]), ([7, 4], [4, 7]), ([4, 8], [4, 8]), ([9, 7], [9]), ([10], [10]), ([11, 10], [10, 11]), ([10], [10]), ([10], [10]), ([14, 10], [10, 14]), ([13, 15, 10], [10, 13, 15]), ([12, 16, 10], [10, 12, 16]), ([10, 17], [10, 17]), ([18, 10], [18]), ([19], [19]), ([19], [19]), ([20, 21, 19], [19, 20, 21]), ([19], [19]), ([19], [19]), ([23, 24, 19], [19, 23, 24]), ([22, 25, 19, 19], [19, 22, 25]), ([26, 19], [19, 26]), ([19, 27], [19, 27])])
def diwanlaw9_UlogJoin.B10 : List Nat := [0, 0, 3, 7, 15, 31, 31, 127, 255, 511, 1023, 2047, 4095, 2047, 2047, 18431, 59391, 131071, 262143, 524287, 1048575, 1048575, 4194303, 1048575, 1048575, 26214399, 67108863, 134217727, 268435455]
theorem diwanlaw9_UlogJoin.tab10 : rtab .any (opsOf Try.f4 10) = diwanlaw9_UlogJoin.T10 := by kernel_rfl
theorem diwanlaw9_UlogJoin.bits10 : waitsOk diwanlaw9_UlogJoin.T10.2 diwanlaw9_UlogJoin.B10 = true := by kernel_rfl
def diwanlaw9_UlogJoin.T15 : Bool × List (List Nat × List Nat) := (true, [([], []), ([], []), ([], []), ([1, 2], [1, 2]), ([0, 3], [0, 3]), ([4], [4]), ([5], [5]), ([], []), ([], []), ([7, 8], [7, 8]), ([9], [9]), ([10], [10]), ([6, 11], [6, 11])])
def diwanlaw9_UlogJoin.B15 : List Nat := [0, 0, 0, 6, 15, 31, 63, 0, 0, 384, 896, 1920, 4095]
theorem diwanlaw9_UlogJoin.tab15 : rtab .any (opsOf Try.f4 15) = diwanlaw9_UlogJoin.T15 := by kernel_rfl
theorem diwanlaw9_UlogJoin.bits15 : waitsOk diwanlaw9_UlogJoin.T15.2 diwanlaw9_UlogJoin.B15 = true := by kernel_rfl
set_option maxHeartbeats 8000000 in
set_option maxRecDepth 100000 in
theorem diwanlaw9_UlogJoin.calls (k : Nat) (A0 : Option Addr) (c0 : Nat) (l0 : List Int) (A1 : Option Addr) (c1 : Nat) (l1 : List Int) (a2 : Int) (a3 : Int) (r : Bool) (w : World) (hr0 : Kd.C (Kd.int .u8) w A0 l0.length l0) (hc0 : l0.length ≤ c0) (hr1 : Kd.C (Kd.int .u8) w A1 l1.length l1) (hc1 : l1.length ≤ c1) (h : diwanlaw9_UlogJoin.f k l0 l1 a2 a3 = some r) (hT : Aside0 (r = true)) :
    Calls Try.prog 4 #[.slice A0 l0.length c0, .slice A1 l1.length c1, .int .u8 a2, .int .u8 a3] w fun e w' => e = .returned (.bool r) ∧ Below w.heap.size w w' := by
  have HR0 := Aside0.mk hr0
  have HC0 := Aside0.mk hc0
  clear hr0 hc0
  have HR1 := Aside0.mk hr1
  have HC1 := Aside0.mk hc1
  clear hr1 hc1
  have HB := Aside0.mk (Below.refl w.heap.size w)
  have H : ((diwanlaw9_begun.f k).bind fun t359 => (if t359 = true then (if (l0.length : Int) > 80 then (diwanlaw9_UlogJoin.j0 k l0 l1 a2 a3 true) else (diwanlaw9_UlogJoin.j0 k l0 l1 a2 a3 (decide ((l1.length : Int) > 80)))) else (some false))) = some r := h
  clear h
  replace H := Option.bind_eq_some_iff.mp H
  obtain ⟨t359, A50, H⟩ := H
  replace H : (if t359 = true then (if (l0.length : Int) > 80 then (diwanlaw9_UlogJoin.j0 k l0 l1 a2 a3 true) else (diwanlaw9_UlogJoin.j0 k l0 l1 a2 a3 (decide ((l1.length : Int) > 80)))) else (some false)) = some r := H
  have A5 := Aside0.mk A50
  clear A50
  by_cases c6 : t359 = true
  · subst c6
    have H1 : (if (l0.length : Int) > 80 then (diwanlaw9_UlogJoin.j0 k l0 l1 a2 a3 true) else (diwanlaw9_UlogJoin.j0 k l0 l1 a2 a3 (decide ((l1.length : Int) > 80)))) = some r := by rw [if_pos rfl] at H; exact H
    clear H
    have H := H1
    clear H1
    have HC7 := Aside0.mk H
    clear H
    go_enter Try.func4, Try.ntmps4
    go_upto_region 3 with (first | ((with_reducible refine gate_callee (f := 8) rfl ?_); refine goesL_ (some 16) rfl rfl Try.func8 (by kernel_rfl) rfl #[] rfl (by (try simp only [List.map_toArray, List.map_cons, List.map_nil]); first | done | rfl | (simp only [List.length_drop, List.length_take]; rfl)) ?_; (with_reducible refine (diwanlaw9_begun.calls k  true _ A5.out ⟨rfl⟩).mono ?_); rintro e w8 ⟨rfl, hb⟩; refine ⟨_, rfl, ?_⟩; have n0_ := Aside0.mk (below_step (by repeat (first | (with_reducible first | exact HB.out | apply below_alloc | apply pw_below_drewN | apply below_drew1) | exact HB.out)) hb); clear HB; have HB := n0_; clear n0_; (try clear hb); (try clear hb2); (try clear hk); (try clear hi); (try clear hgn_)))
    (try simp only [Act.put, List.setIfInBounds_toArray, List.set_cons_zero, List.set_cons_succ])
    go_cut [25] (fun v25 wc => ∃ (kq : Nat) (x25_6 : Bool), v25 = .bool x25_6 ∧ Aside0 (diwanlaw9_UlogJoin.j0 kq l0 l1 a2 a3 x25_6 = some r) ∧ Aside0 (kq ≤ k) ∧ Aside0 (Below w.heap.size w wc))
    case first =>
      have H := HC7.out
      clear HC7
      by_cases c9 : (l0.length : Int) > 80
      · rw [if_pos c9] at H
        have c9b0 : decide (80 < (l0.length : Int)) = true := decide_eq_true c9
        have c9b1 : decide (80 < l0.length) = true := decide_eq_true (by omega)
        clear c9
        (first | rw [c9b0] | (simp only [i64_w, i32_w]; rw [c9b0]) | skip)
        have H' := Aside0.mk H
        clear H
        go_wp2
        go_meet
        case rel => exact ⟨_, (true), (by first | rfl | (simp; done) | (simp [*]; done)), H', ⟨by first | omega | exact Nat.le_refl _⟩, ⟨by repeat (first | (with_reducible first | exact HB.out | apply below_alloc | apply pw_below_drewN | apply below_drew1) | exact HB.out)⟩⟩
      · rw [if_neg c9] at H
        have c9b0 : decide (80 < (l0.length : Int)) = false := decide_eq_false c9
        have c9b1 : decide (80 < l0.length) = false := decide_eq_false (by omega)
        clear c9
        (first | rw [c9b0] | (simp only [i64_w, i32_w]; rw [c9b0]) | skip)
        have H' := Aside0.mk H
        clear H
        go_wp2
        go_meet
        case rel => exact ⟨_, (decide ((l1.length : Int) > 80)), (by first | rfl | (simp; done) | (simp [*]; done)), H', ⟨by first | omega | exact Nat.le_refl _⟩, ⟨by repeat (first | (with_reducible first | exact HB.out | apply below_alloc | apply pw_below_drewN | apply below_drew1) | exact HB.out)⟩⟩
    case rest =>
      clear HC7
      try clear c1
      try clear p2
      try clear c4
      try clear c6
      try clear c8
      try clear c9
      try clear c9b0
      try clear c9b1
      obtain ⟨kq, x25_6, rfl, HA, HJ6, HB⟩ := hcut
      cases kq with
      | zero => exact absurd HA.out (by simp [diwanlaw9_UlogJoin.j0])
      | succ kj6 =>
        have H := HA.out
        clear HA
        simp only [diwanlaw9_UlogJoin.j0] at H
        by_cases c10 : x25_6 = true
        · subst c10
          have H1 : (some true) = some r := by rw [if_pos rfl] at H; exact H
          clear H
          have H := H1
          clear H1
          obtain rfl := Option.some.inj H
          go_wp2
          go_ret
          exact ⟨by first | rfl | (simp [errW_none, errW_some] <;> rfl) | (simp [*, errW_none, errW_some] <;> rfl), by repeat (first | (with_reducible first | exact HB.out | apply below_alloc | apply pw_below_drewN | apply below_drew1) | exact HB.out)⟩
        · replace c10 := Bool.eq_false_iff.mpr c10
          subst c10
          have H1 : ((diwanplay_Made.f l0).bind fun bt360 => ((diwanplay_Picks_Log.f kj6 bt360.1 bt360.2 8).bind fun bt363 => ((diwanplay_Made.f l1).bind fun bt367 => ((diwanplay_Picks_Log.f kj6 bt367.1 bt367.2 4).bind fun bt370 => (if (wrap64 ((bt363.1.length : Int) + 1)) = 0 then (none) else ((ulog_Join.f kj6 bt363.1 (Int.tmod (wrap64 (a2)) (wrap64 ((bt363.1.length : Int) + 1))) bt370.1).bind fun t374 => ((ulog_Join.f kj6 t374 (Int.tmod (wrap64 (a2)) (wrap64 ((bt363.1.length : Int) + 1))) bt370.1).bind fun t377 => (if (wrap64 ((bt370.1.length : Int) + 1)) = 0 then (none) else (if 0 ≤ (Int.tmod (wrap64 (a3)) (wrap64 ((bt370.1.length : Int) + 1))) then (if (Int.tmod (wrap64 (a3)) (wrap64 ((bt370.1.length : Int) + 1))) ≤ (bt370.1.length : Int) then ((ulog_Join.f kj6 t374 (Int.tmod (wrap64 (a2)) (wrap64 ((bt363.1.length : Int) + 1))) (bt370.1.take ((Int.tmod (wrap64 (a3)) (wrap64 ((bt370.1.length : Int) + 1))) : Int).toNat)).bind fun t385 => ((ulog_Same.f kj6 t374 t377).bind fun t388 => (if t388 = true then ((ulog_Same.f kj6 t374 t385).bind fun t389 => (if t389 = true then (if (t374.length : Int) < (wrap64 ((Int.tmod (wrap64 (a2)) (wrap64 ((bt363.1.length : Int) + 1))) + (bt370.1.length : Int))) then (diwanlaw9_UlogJoin.j1 kj6 bt363.1 bt370.1 (Int.tmod (wrap64 (a2)) (wrap64 ((bt363.1.length : Int) + 1))) t374 true) else (if 0 ≤ (Int.tmod (wrap64 (a2)) (wrap64 ((bt363.1.length : Int) + 1))) then (if (Int.tmod (wrap64 (a2)) (wrap64 ((bt363.1.length : Int) + 1))) ≤ (t374.length : Int) then (if (Int.tmod (wrap64 (a2)) (wrap64 ((bt363.1.length : Int) + 1))) ≤ (bt363.1.length : Int) then ((diwanref1_SameEntries.f kj6 (t374.take ((Int.tmod (wrap64 (a2)) (wrap64 ((bt363.1.length : Int) + 1))) : Int).toNat) (bt363.1.take ((Int.tmod (wrap64 (a2)) (wrap64 ((bt363.1.length : Int) + 1))) : Int).toNat)).bind fun t400 => (diwanlaw9_UlogJoin.j1 kj6 bt363.1 bt370.1 (Int.tmod (wrap64 (a2)) (wrap64 ((bt363.1.length : Int) + 1))) t374 (!t400))) else (none)) else (none)) else (none))) else (diwanlaw9_UlogJoin.j1 kj6 bt363.1 bt370.1 (Int.tmod (wrap64 (a2)) (wrap64 ((bt363.1.length : Int) + 1))) t374 true))) else (diwanlaw9_UlogJoin.j1 kj6 bt363.1 bt370.1 (Int.tmod (wrap64 (a2)) (wrap64 ((bt363.1.length : Int) + 1))) t374 true)))) else (none)) else (none)))))))))) = some r := by rw [if_neg (show ¬ (false = true) by decide)] at H; exact H
          clear H
          have H := H1
          clear H1
          replace H := Option.bind_eq_some_iff.mp H
          obtain ⟨⟨t360, t361⟩, A110, H⟩ := H
          replace H : ((diwanplay_Picks_Log.f kj6 t360 t361 8).bind fun bt363 => ((diwanplay_Made.f l1).bind fun bt367 => ((diwanplay_Picks_Log.f kj6 bt367.1 bt367.2 4).bind fun bt370 => (if (wrap64 ((bt363.1.length : Int) + 1)) = 0 then (none) else ((ulog_Join.f kj6 bt363.1 (Int.tmod (wrap64 (a2)) (wrap64 ((bt363.1.length : Int) + 1))) bt370.1).bind fun t374 => ((ulog_Join.f kj6 t374 (Int.tmod (wrap64 (a2)) (wrap64 ((bt363.1.length : Int) + 1))) bt370.1).bind fun t377 => (if (wrap64 ((bt370.1.length : Int) + 1)) = 0 then (none) else (if 0 ≤ (Int.tmod (wrap64 (a3)) (wrap64 ((bt370.1.length : Int) + 1))) then (if (Int.tmod (wrap64 (a3)) (wrap64 ((bt370.1.length : Int) + 1))) ≤ (bt370.1.length : Int) then ((ulog_Join.f kj6 t374 (Int.tmod (wrap64 (a2)) (wrap64 ((bt363.1.length : Int) + 1))) (bt370.1.take ((Int.tmod (wrap64 (a3)) (wrap64 ((bt370.1.length : Int) + 1))) : Int).toNat)).bind fun t385 => ((ulog_Same.f kj6 t374 t377).bind fun t388 => (if t388 = true then ((ulog_Same.f kj6 t374 t385).bind fun t389 => (if t389 = true then (if (t374.length : Int) < (wrap64 ((Int.tmod (wrap64 (a2)) (wrap64 ((bt363.1.length : Int) + 1))) + (bt370.1.length : Int))) then (diwanlaw9_UlogJoin.j1 kj6 bt363.1 bt370.1 (Int.tmod (wrap64 (a2)) (wrap64 ((bt363.1.length : Int) + 1))) t374 true) else (if 0 ≤ (Int.tmod (wrap64 (a2)) (wrap64 ((bt363.1.length : Int) + 1))) then (if (Int.tmod (wrap64 (a2)) (wrap64 ((bt363.1.length : Int) + 1))) ≤ (t374.length : Int) then (if (Int.tmod (wrap64 (a2)) (wrap64 ((bt363.1.length : Int) + 1))) ≤ (bt363.1.length : Int) then ((diwanref1_SameEntries.f kj6 (t374.take ((Int.tmod (wrap64 (a2)) (wrap64 ((bt363.1.length : Int) + 1))) : Int).toNat) (bt363.1.take ((Int.tmod (wrap64 (a2)) (wrap64 ((bt363.1.length : Int) + 1))) : Int).toNat)).bind fun t400 => (diwanlaw9_UlogJoin.j1 kj6 bt363.1 bt370.1 (Int.tmod (wrap64 (a2)) (wrap64 ((bt363.1.length : Int) + 1))) t374 (!t400))) else (none)) else (none)) else (none))) else (diwanlaw9_UlogJoin.j1 kj6 bt363.1 bt370.1 (Int.tmod (wrap64 (a2)) (wrap64 ((bt363.1.length : Int) + 1))) t374 true))) else (diwanlaw9_UlogJoin.j1 kj6 bt363.1 bt370.1 (Int.tmod (wrap64 (a2)) (wrap64 ((bt363.1.length : Int) + 1))) t374 true)))) else (none)) else (none))))))))) = some r := H
          have A11 := Aside0.mk A110
          clear A110
          replace H := Option.bind_eq_some_iff.mp H
          obtain ⟨⟨t363, t366⟩, A120, H⟩ := H
          replace H : ((diwanplay_Made.f l1).bind fun bt367 => ((diwanplay_Picks_Log.f kj6 bt367.1 bt367.2 4).bind fun bt370 => (if (wrap64 ((t363.length : Int) + 1)) = 0 then (none) else ((ulog_Join.f kj6 t363 (Int.tmod (wrap64 (a2)) (wrap64 ((t363.length : Int) + 1))) bt370.1).bind fun t374 => ((ulog_Join.f kj6 t374 (Int.tmod (wrap64 (a2)) (wrap64 ((t363.length : Int) + 1))) bt370.1).bind fun t377 => (if (wrap64 ((bt370.1.length : Int) + 1)) = 0 then (none) else (if 0 ≤ (Int.tmod (wrap64 (a3)) (wrap64 ((bt370.1.length : Int) + 1))) then (if (Int.tmod (wrap64 (a3)) (wrap64 ((bt370.1.length : Int) + 1))) ≤ (bt370.1.length : Int) then ((ulog_Join.f kj6 t374 (Int.tmod (wrap64 (a2)) (wrap64 ((t363.length : Int) + 1))) (bt370.1.take ((Int.tmod (wrap64 (a3)) (wrap64 ((bt370.1.length : Int) + 1))) : Int).toNat)).bind fun t385 => ((ulog_Same.f kj6 t374 t377).bind fun t388 => (if t388 = true then ((ulog_Same.f kj6 t374 t385).bind fun t389 => (if t389 = true then (if (t374.length : Int) < (wrap64 ((Int.tmod (wrap64 (a2)) (wrap64 ((t363.length : Int) + 1))) + (bt370.1.length : Int))) then (diwanlaw9_UlogJoin.j1 kj6 t363 bt370.1 (Int.tmod (wrap64 (a2)) (wrap64 ((t363.length : Int) + 1))) t374 true) else (if 0 ≤ (Int.tmod (wrap64 (a2)) (wrap64 ((t363.length : Int) + 1))) then (if (Int.tmod (wrap64 (a2)) (wrap64 ((t363.length : Int) + 1))) ≤ (t374.length : Int) then (if (Int.tmod (wrap64 (a2)) (wrap64 ((t363.length : Int) + 1))) ≤ (t363.length : Int) then ((diwanref1_SameEntries.f kj6 (t374.take ((Int.tmod (wrap64 (a2)) (wrap64 ((t363.length : Int) + 1))) : Int).toNat) (t363.take ((Int.tmod (wrap64 (a2)) (wrap64 ((t363.length : Int) + 1))) : Int).toNat)).bind fun t400 => (diwanlaw9_UlogJoin.j1 kj6 t363 bt370.1 (Int.tmod (wrap64 (a2)) (wrap64 ((t363.length : Int) + 1))) t374 (!t400))) else (none)) else (none)) else (none))) else (diwanlaw9_UlogJoin.j1 kj6 t363 bt370.1 (Int.tmod (wrap64 (a2)) (wrap64 ((t363.length : Int) + 1))) t374 true))) else (diwanlaw9_UlogJoin.j1 kj6 t363 bt370.1 (Int.tmod (wrap64 (a2)) (wrap64 ((t363.length : Int) + 1))) t374 true)))) else (none)) else (none)))))))) = some r := H
          have A12 := Aside0.mk A120
          clear A120
          replace H := Option.bind_eq_some_iff.mp H
          obtain ⟨⟨t367, t368⟩, A130, H⟩ := H
          replace H : ((diwanplay_Picks_Log.f kj6 t367 t368 4).bind fun bt370 => (if (wrap64 ((t363.length : Int) + 1)) = 0 then (none) else ((ulog_Join.f kj6 t363 (Int.tmod (wrap64 (a2)) (wrap64 ((t363.length : Int) + 1))) bt370.1).bind fun t374 => ((ulog_Join.f kj6 t374 (Int.tmod (wrap64 (a2)) (wrap64 ((t363.length : Int) + 1))) bt370.1).bind fun t377 => (if (wrap64 ((bt370.1.length : Int) + 1)) = 0 then (none) else (if 0 ≤ (Int.tmod (wrap64 (a3)) (wrap64 ((bt370.1.length : Int) + 1))) then (if (Int.tmod (wrap64 (a3)) (wrap64 ((bt370.1.length : Int) + 1))) ≤ (bt370.1.length : Int) then ((ulog_Join.f kj6 t374 (Int.tmod (wrap64 (a2)) (wrap64 ((t363.length : Int) + 1))) (bt370.1.take ((Int.tmod (wrap64 (a3)) (wrap64 ((bt370.1.length : Int) + 1))) : Int).toNat)).bind fun t385 => ((ulog_Same.f kj6 t374 t377).bind fun t388 => (if t388 = true then ((ulog_Same.f kj6 t374 t385).bind fun t389 => (if t389 = true then (if (t374.length : Int) < (wrap64 ((Int.tmod (wrap64 (a2)) (wrap64 ((t363.length : Int) + 1))) + (bt370.1.length : Int))) then (diwanlaw9_UlogJoin.j1 kj6 t363 bt370.1 (Int.tmod (wrap64 (a2)) (wrap64 ((t363.length : Int) + 1))) t374 true) else (if 0 ≤ (Int.tmod (wrap64 (a2)) (wrap64 ((t363.length : Int) + 1))) then (if (Int.tmod (wrap64 (a2)) (wrap64 ((t363.length : Int) + 1))) ≤ (t374.length : Int) then (if (Int.tmod (wrap64 (a2)) (wrap64 ((t363.length : Int) + 1))) ≤ (t363.length : Int) then ((diwanref1_SameEntries.f kj6 (t374.take ((Int.tmod (wrap64 (a2)) (wrap64 ((t363.length : Int) + 1))) : Int).toNat) (t363.take ((Int.tmod (wrap64 (a2)) (wrap64 ((t363.length : Int) + 1))) : Int).toNat)).bind fun t400 => (diwanlaw9_UlogJoin.j1 kj6 t363 bt370.1 (Int.tmod (wrap64 (a2)) (wrap64 ((t363.length : Int) + 1))) t374 (!t400))) else (none)) else (none)) else (none))) else (diwanlaw9_UlogJoin.j1 kj6 t363 bt370.1 (Int.tmod (wrap64 (a2)) (wrap64 ((t363.length : Int) + 1))) t374 true))) else (diwanlaw9_UlogJoin.j1 kj6 t363 bt370.1 (Int.tmod (wrap64 (a2)) (wrap64 ((t363.length : Int) + 1))) t374 true)))) else (none)) else (none))))))) = some r := H
          have A13 := Aside0.mk A130
          clear A130
          replace H := Option.bind_eq_some_iff.mp H
          obtain ⟨⟨t370, t373⟩, A140, H⟩ := H
          replace H : (if (wrap64 ((t363.length : Int) + 1)) = 0 then (none) else ((ulog_Join.f kj6 t363 (Int.tmod (wrap64 (a2)) (wrap64 ((t363.length : Int) + 1))) t370).bind fun t374 => ((ulog_Join.f kj6 t374 (Int.tmod (wrap64 (a2)) (wrap64 ((t363.length : Int) + 1))) t370).bind fun t377 => (if (wrap64 ((t370.length : Int) + 1)) = 0 then (none) else (if 0 ≤ (Int.tmod (wrap64 (a3)) (wrap64 ((t370.length : Int) + 1))) then (if (Int.tmod (wrap64 (a3)) (wrap64 ((t370.length : Int) + 1))) ≤ (t370.length : Int) then ((ulog_Join.f kj6 t374 (Int.tmod (wrap64 (a2)) (wrap64 ((t363.length : Int) + 1))) (t370.take ((Int.tmod (wrap64 (a3)) (wrap64 ((t370.length : Int) + 1))) : Int).toNat)).bind fun t385 => ((ulog_Same.f kj6 t374 t377).bind fun t388 => (if t388 = true then ((ulog_Same.f kj6 t374 t385).bind fun t389 => (if t389 = true then (if (t374.length : Int) < (wrap64 ((Int.tmod (wrap64 (a2)) (wrap64 ((t363.length : Int) + 1))) + (t370.length : Int))) then (diwanlaw9_UlogJoin.j1 kj6 t363 t370 (Int.tmod (wrap64 (a2)) (wrap64 ((t363.length : Int) + 1))) t374 true) else (if 0 ≤ (Int.tmod (wrap64 (a2)) (wrap64 ((t363.length : Int) + 1))) then (if (Int.tmod (wrap64 (a2)) (wrap64 ((t363.length : Int) + 1))) ≤ (t374.length : Int) then (if (Int.tmod (wrap64 (a2)) (wrap64 ((t363.length : Int) + 1))) ≤ (t363.length : Int) then ((diwanref1_SameEntries.f kj6 (t374.take ((Int.tmod (wrap64 (a2)) (wrap64 ((t363.length : Int) + 1))) : Int).toNat) (t363.take ((Int.tmod (wrap64 (a2)) (wrap64 ((t363.length : Int) + 1))) : Int).toNat)).bind fun t400 => (diwanlaw9_UlogJoin.j1 kj6 t363 t370 (Int.tmod (wrap64 (a2)) (wrap64 ((t363.length : Int) + 1))) t374 (!t400))) else (none)) else (none)) else (none))) else (diwanlaw9_UlogJoin.j1 kj6 t363 t370 (Int.tmod (wrap64 (a2)) (wrap64 ((t363.length : Int) + 1))) t374 true))) else (diwanlaw9_UlogJoin.j1 kj6 t363 t370 (Int.tmod (wrap64 (a2)) (wrap64 ((t363.length : Int) + 1))) t374 true)))) else (none)) else (none)))))) = some r := H
          have A14 := Aside0.mk A140
          clear A140
          by_cases c15 : (wrap64 ((t363.length : Int) + 1)) = 0
          · rw [if_pos c15] at H
            exact absurd H (by simp)
          · rw [if_neg c15] at H
            have c15b0 : ((wrap64 ((t363.length : Int) + 1)) == 0) = false := beq_eq_false_iff_ne.mpr c15
            have c15b1 : ((wrap64 ((t363.length : Int) + 1)) != 0) = true := bne_iff_ne.mpr c15
            replace H := Option.bind_eq_some_iff.mp H
            obtain ⟨t374, A160, H⟩ := H
            replace H : ((ulog_Join.f kj6 t374 (Int.tmod (wrap64 (a2)) (wrap64 ((t363.length : Int) + 1))) t370).bind fun t377 => (if (wrap64 ((t370.length : Int) + 1)) = 0 then (none) else (if 0 ≤ (Int.tmod (wrap64 (a3)) (wrap64 ((t370.length : Int) + 1))) then (if (Int.tmod (wrap64 (a3)) (wrap64 ((t370.length : Int) + 1))) ≤ (t370.length : Int) then ((ulog_Join.f kj6 t374 (Int.tmod (wrap64 (a2)) (wrap64 ((t363.length : Int) + 1))) (t370.take ((Int.tmod (wrap64 (a3)) (wrap64 ((t370.length : Int) + 1))) : Int).toNat)).bind fun t385 => ((ulog_Same.f kj6 t374 t377).bind fun t388 => (if t388 = true then ((ulog_Same.f kj6 t374 t385).bind fun t389 => (if t389 = true then (if (t374.length : Int) < (wrap64 ((Int.tmod (wrap64 (a2)) (wrap64 ((t363.length : Int) + 1))) + (t370.length : Int))) then (diwanlaw9_UlogJoin.j1 kj6 t363 t370 (Int.tmod (wrap64 (a2)) (wrap64 ((t363.length : Int) + 1))) t374 true) else (if 0 ≤ (Int.tmod (wrap64 (a2)) (wrap64 ((t363.length : Int) + 1))) then (if (Int.tmod (wrap64 (a2)) (wrap64 ((t363.length : Int) + 1))) ≤ (t374.length : Int) then (if (Int.tmod (wrap64 (a2)) (wrap64 ((t363.length : Int) + 1))) ≤ (t363.length : Int) then ((diwanref1_SameEntries.f kj6 (t374.take ((Int.tmod (wrap64 (a2)) (wrap64 ((t363.length : Int) + 1))) : Int).toNat) (t363.take ((Int.tmod (wrap64 (a2)) (wrap64 ((t363.length : Int) + 1))) : Int).toNat)).bind fun t400 => (diwanlaw9_UlogJoin.j1 kj6 t363 t370 (Int.tmod (wrap64 (a2)) (wrap64 ((t363.length : Int) + 1))) t374 (!t400))) else (none)) else (none)) else (none))) else (diwanlaw9_UlogJoin.j1 kj6 t363 t370 (Int.tmod (wrap64 (a2)) (wrap64 ((t363.length : Int) + 1))) t374 true))) else (diwanlaw9_UlogJoin.j1 kj6 t363 t370 (Int.tmod (wrap64 (a2)) (wrap64 ((t363.length : Int) + 1))) t374 true)))) else (none)) else (none)))) = some r := H
            have A16 := Aside0.mk A160
            clear A160
            replace H := Option.bind_eq_some_iff.mp H
            obtain ⟨t377, A170, H⟩ := H
            replace H : (if (wrap64 ((t370.length : Int) + 1)) = 0 then (none) else (if 0 ≤ (Int.tmod (wrap64 (a3)) (wrap64 ((t370.length : Int) + 1))) then (if (Int.tmod (wrap64 (a3)) (wrap64 ((t370.length : Int) + 1))) ≤ (t370.length : Int) then ((ulog_Join.f kj6 t374 (Int.tmod (wrap64 (a2)) (wrap64 ((t363.length : Int) + 1))) (t370.take ((Int.tmod (wrap64 (a3)) (wrap64 ((t370.length : Int) + 1))) : Int).toNat)).bind fun t385 => ((ulog_Same.f kj6 t374 t377).bind fun t388 => (if t388 = true then ((ulog_Same.f kj6 t374 t385).bind fun t389 => (if t389 = true then (if (t374.length : Int) < (wrap64 ((Int.tmod (wrap64 (a2)) (wrap64 ((t363.length : Int) + 1))) + (t370.length : Int))) then (diwanlaw9_UlogJoin.j1 kj6 t363 t370 (Int.tmod (wrap64 (a2)) (wrap64 ((t363.length : Int) + 1))) t374 true) else (if 0 ≤ (Int.tmod (wrap64 (a2)) (wrap64 ((t363.length : Int) + 1))) then (if (Int.tmod (wrap64 (a2)) (wrap64 ((t363.length : Int) + 1))) ≤ (t374.length : Int) then (if (Int.tmod (wrap64 (a2)) (wrap64 ((t363.length : Int) + 1))) ≤ (t363.length : Int) then ((diwanref1_SameEntries.f kj6 (t374.take ((Int.tmod (wrap64 (a2)) (wrap64 ((t363.length : Int) + 1))) : Int).toNat) (t363.take ((Int.tmod (wrap64 (a2)) (wrap64 ((t363.length : Int) + 1))) : Int).toNat)).bind fun t400 => (diwanlaw9_UlogJoin.j1 kj6 t363 t370 (Int.tmod (wrap64 (a2)) (wrap64 ((t363.length : Int) + 1))) t374 (!t400))) else (none)) else (none)) else (none))) else (diwanlaw9_UlogJoin.j1 kj6 t363 t370 (Int.tmod (wrap64 (a2)) (wrap64 ((t363.length : Int) + 1))) t374 true))) else (diwanlaw9_UlogJoin.j1 kj6 t363 t370 (Int.tmod (wrap64 (a2)) (wrap64 ((t363.length : Int) + 1))) t374 true)))) else (none)) else (none))) = some r := H
            have A17 := Aside0.mk A170
            clear A170
            by_cases c18 : (wrap64 ((t370.length : Int) + 1)) = 0
            · rw [if_pos c18] at H
              exact absurd H (by simp)
            · rw [if_neg c18] at H
              have c18b0 : ((wrap64 ((t370.length : Int) + 1)) == 0) = false := beq_eq_false_iff_ne.mpr c18
              have c18b1 : ((wrap64 ((t370.length : Int) + 1)) != 0) = true := bne_iff_ne.mpr c18
              obtain ⟨ji19, hji19⟩ : ∃ j_ : Int, (Int.tmod (wrap64 (a3)) (wrap64 ((t370.length : Int) + 1))) = j_ := ⟨_, rfl⟩
              replace H : (if 0 ≤ (ji19) then (if (ji19) ≤ (t370.length : Int) then ((ulog_Join.f kj6 t374 (Int.tmod (wrap64 (a2)) (wrap64 ((t363.length : Int) + 1))) (t370.take ((ji19) : Int).toNat)).bind fun t385 => ((ulog_Same.f kj6 t374 t377).bind fun t388 => (if t388 = true then ((ulog_Same.f kj6 t374 t385).bind fun t389 => (if t389 = true then (if (t374.length : Int) < (wrap64 ((Int.tmod (wrap64 (a2)) (wrap64 ((t363.length : Int) + 1))) + (t370.length : Int))) then (diwanlaw9_UlogJoin.j1 kj6 t363 t370 (Int.tmod (wrap64 (a2)) (wrap64 ((t363.length : Int) + 1))) t374 true) else (if 0 ≤ (Int.tmod (wrap64 (a2)) (wrap64 ((t363.length : Int) + 1))) then (if (Int.tmod (wrap64 (a2)) (wrap64 ((t363.length : Int) + 1))) ≤ (t374.length : Int) then (if (Int.tmod (wrap64 (a2)) (wrap64 ((t363.length : Int) + 1))) ≤ (t363.length : Int) then ((diwanref1_SameEntries.f kj6 (t374.take ((Int.tmod (wrap64 (a2)) (wrap64 ((t363.length : Int) + 1))) : Int).toNat) (t363.take ((Int.tmod (wrap64 (a2)) (wrap64 ((t363.length : Int) + 1))) : Int).toNat)).bind fun t400 => (diwanlaw9_UlogJoin.j1 kj6 t363 t370 (Int.tmod (wrap64 (a2)) (wrap64 ((t363.length : Int) + 1))) t374 (!t400))) else (none)) else (none)) else (none))) else (diwanlaw9_UlogJoin.j1 kj6 t363 t370 (Int.tmod (wrap64 (a2)) (wrap64 ((t363.length : Int) + 1))) t374 true))) else (diwanlaw9_UlogJoin.j1 kj6 t363 t370 (Int.tmod (wrap64 (a2)) (wrap64 ((t363.length : Int) + 1))) t374 true)))) else (none)) else (none)) = some r := by first | (rw [hji19] at H; exact H) | (simp only [hji19] at H ⊢; exact H)
              (try rw [hji19] at A11)
              (try rw [hji19] at A12)
              (try rw [hji19] at A13)
              (try rw [hji19] at A14)
              (try rw [hji19] at A16)
              (try rw [hji19] at A17)
              by_cases c20 : 0 ≤ (ji19)
              · rw [if_pos c20] at H
                have c20b0 := eq_true c20
                have c20b1 : decide (0 ≤ (ji19)) = true := decide_eq_true c20
                clear c20
                by_cases c21 : (ji19) ≤ (t370.length : Int)
                · rw [if_pos c21] at H
                  have c21b0 := eq_true c21
                  have c21b1 : decide ((ji19) ≤ (t370.length : Int)) = true := decide_eq_true c21
                  clear c21
                  obtain ⟨y380, hy380⟩ : ∃ y_ : List (S39), y_ = (t370.take ((ji19) : Int).toNat) := ⟨_, rfl⟩
                  replace H : ((ulog_Join.f kj6 t374 (Int.tmod (wrap64 (a2)) (wrap64 ((t363.length : Int) + 1))) y380).bind fun t385 => ((ulog_Same.f kj6 t374 t377).bind fun t388 => (if t388 = true then ((ulog_Same.f kj6 t374 t385).bind fun t389 => (if t389 = true then (if (t374.length : Int) < (wrap64 ((Int.tmod (wrap64 (a2)) (wrap64 ((t363.length : Int) + 1))) + (t370.length : Int))) then (diwanlaw9_UlogJoin.j1 kj6 t363 t370 (Int.tmod (wrap64 (a2)) (wrap64 ((t363.length : Int) + 1))) t374 true) else (if 0 ≤ (Int.tmod (wrap64 (a2)) (wrap64 ((t363.length : Int) + 1))) then (if (Int.tmod (wrap64 (a2)) (wrap64 ((t363.length : Int) + 1))) ≤ (t374.length : Int) then (if (Int.tmod (wrap64 (a2)) (wrap64 ((t363.length : Int) + 1))) ≤ (t363.length : Int) then ((diwanref1_SameEntries.f kj6 (t374.take ((Int.tmod (wrap64 (a2)) (wrap64 ((t363.length : Int) + 1))) : Int).toNat) (t363.take ((Int.tmod (wrap64 (a2)) (wrap64 ((t363.length : Int) + 1))) : Int).toNat)).bind fun t400 => (diwanlaw9_UlogJoin.j1 kj6 t363 t370 (Int.tmod (wrap64 (a2)) (wrap64 ((t363.length : Int) + 1))) t374 (!t400))) else (none)) else (none)) else (none))) else (diwanlaw9_UlogJoin.j1 kj6 t363 t370 (Int.tmod (wrap64 (a2)) (wrap64 ((t363.length : Int) + 1))) t374 true))) else (diwanlaw9_UlogJoin.j1 kj6 t363 t370 (Int.tmod (wrap64 (a2)) (wrap64 ((t363.length : Int) + 1))) t374 true)))) = some r := by first | (rw [hy380]; with_reducible exact H) | (have H2_ := (Option.bind_some _ _).symm.trans H; rw [hy380]; with_reducible exact H2_) | (have H2_ := (Option.bind_some _ _).symm.trans H; with_reducible exact H2_) | with_reducible exact H | (rw [hy380]; exact H) | exact H
                  have Ny380 := Aside0.mk hy380
                  clear hy380
                  replace H := Option.bind_eq_some_iff.mp H
                  obtain ⟨t385, A220, H⟩ := H
                  replace H : ((ulog_Same.f kj6 t374 t377).bind fun t388 => (if t388 = true then ((ulog_Same.f kj6 t374 t385).bind fun t389 => (if t389 = true then (if (t374.length : Int) < (wrap64 ((Int.tmod (wrap64 (a2)) (wrap64 ((t363.length : Int) + 1))) + (t370.length : Int))) then (diwanlaw9_UlogJoin.j1 kj6 t363 t370 (Int.tmod (wrap64 (a2)) (wrap64 ((t363.length : Int) + 1))) t374 true) else (if 0 ≤ (Int.tmod (wrap64 (a2)) (wrap64 ((t363.length : Int) + 1))) then (if (Int.tmod (wrap64 (a2)) (wrap64 ((t363.length : Int) + 1))) ≤ (t374.length : Int) then (if (Int.tmod (wrap64 (a2)) (wrap64 ((t363.length : Int) + 1))) ≤ (t363.length : Int) then ((diwanref1_SameEntries.f kj6 (t374.take ((Int.tmod (wrap64 (a2)) (wrap64 ((t363.length : Int) + 1))) : Int).toNat) (t363.take ((Int.tmod (wrap64 (a2)) (wrap64 ((t363.length : Int) + 1))) : Int).toNat)).bind fun t400 => (diwanlaw9_UlogJoin.j1 kj6 t363 t370 (Int.tmod (wrap64 (a2)) (wrap64 ((t363.length : Int) + 1))) t374 (!t400))) else (none)) else (none)) else (none))) else (diwanlaw9_UlogJoin.j1 kj6 t363 t370 (Int.tmod (wrap64 (a2)) (wrap64 ((t363.length : Int) + 1))) t374 true))) else (diwanlaw9_UlogJoin.j1 kj6 t363 t370 (Int.tmod (wrap64 (a2)) (wrap64 ((t363.length : Int) + 1))) t374 true))) = some r := H
                  have A22 := Aside0.mk A220
                  clear A220
                  have HC23 := Aside0.mk H
                  clear H
                  go_upto_region 10 with (first | ((with_reducible refine gate_callee (f := 9) rfl ?_); refine goesL_ (some 27) rfl rfl Try.func9 (by kernel_rfl) rfl #[.slice A0 l0.length c0] rfl (by (try simp only [List.map_toArray, List.map_cons, List.map_nil]); first | done | rfl | (simp only [List.length_drop, List.length_take]; rfl)) ?_; (with_reducible refine (diwanplay_Made.calls _ _ l0 t360 t361 w _ ?side1 ?side2 ?side3 A11.out).mono ?_); (case side1 => repeat (first | (with_reducible first | exact HB.out | apply below_alloc | apply pw_below_drewN | apply below_drew1) | exact HB.out)); (case side2 => exact HR0.out); (case side3 => exact HC0.out); rintro e w24 ⟨g362, rfl, hi, hb, hb2, hgn_⟩; refine ⟨_, rfl, ?_⟩; have n0_ := Aside0.mk (hb); have n1_ := Aside0.mk (hi); clear HB; have HB := n0_; have HI362 := n1_; clear n0_ n1_; (try clear hb); (try clear hb2); (try clear hk); (try clear hi); (try clear hgn_)) | ((with_reducible refine gate_callee (f := 10) rfl ?_); refine goesL_ (some 28) rfl rfl Try.func10 (by kernel_rfl) rfl #[.pointer (some ⟨g362, 0, none⟩), .int .i64 8] rfl (by (try simp only [List.map_toArray, List.map_cons, List.map_nil]); first | done | rfl | (simp only [List.length_drop, List.length_take]; rfl)) ?_; (with_reducible refine (diwanplay_Picks_Log.calls kj6 g362 t360 t361 8 t363 t366 w _ ?side1 ?side2 A12.out).mono ?_); (case side1 => repeat (first | (with_reducible first | exact HI362.out | apply IsS43.alloc | apply IsS43.drewN | apply IsS43.drew | apply IsS43.set_1) | exact HI362.out)); (case side2 => repeat (first | (with_reducible first | exact HB.out | apply below_alloc | apply pw_below_drewN | apply below_drew1 | refine below_set ?_ (IsS43.ge HI362.out)) | exact HB.out)); rintro e w25 ⟨v364, rfl, ho0, hi, hb, hk⟩; refine ⟨_, rfl, ?_⟩; have n0_ := Aside0.mk (Kd.N_lower (Kd.N_mono (ok' := fun k_ => k_ ≠ g362) (Kd.S_N (Kd.S_bound ho0)) (fun k_ hk_ => (IsS43.fresh (by repeat (first | (with_reducible first | exact HI362.out | apply IsS43.alloc | apply IsS43.drewN | apply IsS43.drew | apply IsS43.set_1) | exact HI362.out)) k_ hk_.2.1))) (below_size (by repeat (first | (with_reducible first | exact HB.out | apply below_alloc | apply pw_below_drewN | apply below_drew1 | refine below_set ?_ (IsS43.ge HI362.out)) | exact HB.out)))); have n1_ := Aside0.mk (hb); have n2_ := Aside0.mk (hi); clear HB; clear HI362; have HO365 := n0_; have HB := n1_; have HI362 := n2_; clear n0_ n1_ n2_; (try clear hb); (try clear hb2); (try clear hk); (try clear hi); (try clear hgn_); (try clear ho0)) | ((with_reducible refine gate_callee (f := 9) rfl ?_); refine goesL_ (some 30) rfl rfl Try.func9 (by kernel_rfl) rfl #[.slice A1 l1.length c1] rfl (by (try simp only [List.map_toArray, List.map_cons, List.map_nil]); first | done | rfl | (simp only [List.length_drop, List.length_take]; rfl)) ?_; (with_reducible refine (diwanplay_Made.calls _ _ l1 t367 t368 w _ ?side1 ?side2 ?side3 A13.out).mono ?_); (case side1 => repeat (first | (with_reducible first | exact HB.out | apply below_alloc | apply pw_below_drewN | apply below_drew1 | refine below_set ?_ (IsS43.ge HI362.out)) | exact HB.out)); (case side2 => exact HR1.out); (case side3 => exact HC1.out); rintro e w26 ⟨g369, rfl, hi, hb, hb2, hgn_⟩; refine ⟨_, rfl, ?_⟩; have n0_ := Aside0.mk (Kd.N_below (Kd.N_elderB (by (with_reducible repeat (first | apply Kd.N_alloc | apply Kd.N_drewN | apply Kd.N_drew)); exact HO365.out) g369 hgn_) hb2); have n1_ := Aside0.mk (hb); have n2_ := Aside0.mk (hi); clear HO365; clear HB; have HO365 := n0_; have HB := n1_; have HI369 := n2_; clear n0_ n1_ n2_; (try clear hb); (try clear hb2); (try clear hk); (try clear hi); (try clear hgn_)) | ((with_reducible refine gate_callee (f := 10) rfl ?_); refine goesL_ (some 31) rfl rfl Try.func10 (by kernel_rfl) rfl #[.pointer (some ⟨g369, 0, none⟩), .int .i64 4] rfl (by (try simp only [List.map_toArray, List.map_cons, List.map_nil]); first | done | rfl | (simp only [List.length_drop, List.length_take]; rfl)) ?_; (with_reducible refine (diwanplay_Picks_Log.calls kj6 g369 t367 t368 4 t370 t373 w _ ?side1 ?side2 A14.out).mono ?_); (case side1 => repeat (first | (with_reducible first | exact HI369.out | apply IsS43.alloc | apply IsS43.drewN | apply IsS43.drew | apply IsS43.set_1) | exact HI369.out)); (case side2 => repeat (first | (with_reducible first | exact HB.out | apply below_alloc | apply pw_below_drewN | apply below_drew1 | refine below_set ?_ (IsS43.ge HI369.out)) | exact HB.out)); rintro e w27 ⟨v371, rfl, ho0, hi, hb, hk⟩; refine ⟨_, rfl, ?_⟩; have n0_ := Aside0.mk (Kd.N_mono (Kd.N_told (Kd.N_oldK (Kd.N_mono (ok := fun k_ => (k_ ≠ g362 ∧ k_ ≠ g369)) (by (with_reducible repeat (first | apply Kd.N_alloc | apply Kd.N_drewN | apply Kd.N_drew)); exact HO365.out) (fun k_ hk_ => (⟨hk_, hk_.2⟩ : _ ∧ k_ ≠ g369))) hk) (Kd.S_base ho0)) (fun _ h_ => h_.1)); have n1_ := Aside0.mk (Kd.N_lower (Kd.N_mono (ok' := fun k_ => some k_ ≠ (v364 : Value).ownBlock ∧ k_ ≠ g369) (Kd.S_N (Kd.S_bound ho0)) (fun k_ hk_ => ⟨(Kd.fresh' (Kd.N_lt (by (with_reducible repeat (first | apply Kd.N_alloc | apply Kd.N_drewN | apply Kd.N_drew)); exact HO365.out)) k_ hk_.2.1), (IsS43.fresh (by repeat (first | (with_reducible first | exact HI369.out | apply IsS43.alloc | apply IsS43.drewN | apply IsS43.drew | apply IsS43.set_1) | exact HI369.out)) k_ hk_.2.1)⟩)) (below_size (by repeat (first | (with_reducible first | exact HB.out | apply below_alloc | apply pw_below_drewN | apply below_drew1 | refine below_set ?_ (IsS43.ge HI369.out)) | exact HB.out)))); have n2_ := Aside0.mk (hb); have n3_ := Aside0.mk (hi); clear HO365; clear HB; clear HI369; have HO365 := n0_; have HO372 := n1_; have HB := n2_; have HI369 := n3_; clear n0_ n1_ n2_ n3_; (try clear hb); (try clear hb2); (try clear hk); (try clear hi); (try clear hgn_); (try clear ho0); obtain ⟨Ao28, co28, eo28⟩ := Kd.N_slice HO365.out; subst eo28; obtain ⟨Ao29, co29, eo29⟩ := Kd.N_slice HO372.out; subst eo29) | ((with_reducible refine gate_callee (f := 16) rfl ?_); refine goesL_ (some 41) rfl rfl Try.func16 (by kernel_rfl) rfl #[.slice Ao28 t363.length co28, .int .i64 (Int.tmod (wrap64 (a2)) (wrap64 ((t363.length : Int) + 1))), .slice Ao29 t370.length co29] rfl (by (try simp only [List.map_toArray, List.map_cons, List.map_nil]); first | done | rfl | (simp only [List.length_drop, List.length_take]; rfl)) ?_; (with_reducible refine (ulog_Join.calls kj6 (fun k_ => ((k_ ≠ g362 ∧ k_ ≠ g369) ∧ some k_ ≠ (.slice Ao29 t370.length co29 : Value).ownBlock)) _ _ t363 (Int.tmod (wrap64 (a2)) (wrap64 ((t363.length : Int) + 1))) (fun k_ => (some k_ ≠ (.slice Ao28 t363.length co28 : Value).ownBlock ∧ k_ ≠ g369)) _ _ t370 t374 _ ?side1 ?side2 A16.out).mono ?_); (case side1 => exact Kd.N_V (HO365.out)); (case side2 => exact Kd.N_V (HO372.out)); rintro e w30 ⟨v375, rfl, ho0, hb⟩; refine ⟨_, rfl, ?_⟩; have n0_ := Aside0.mk (Kd.N_elder' (by (with_reducible repeat (first | apply Kd.N_alloc | apply Kd.N_drewN | apply Kd.N_drew)); exact HO365.out) (Kd.N_base ho0) hb); have n1_ := Aside0.mk (Kd.N_elder' (by (with_reducible repeat (first | apply Kd.N_alloc | apply Kd.N_drewN | apply Kd.N_drew)); exact HO372.out) (Kd.N_base ho0) hb); have n2_ := Aside0.mk (Kd.N_lower (Kd.N_mono (ok' := fun k_ => k_ ≠ g369) ho0 (fun k_ hk_ => Or.elim hk_ (fun hs_ => Or.elim hs_ (fun hs_ => hs_.1.2) (fun hs_ => hs_.2)) (fun hn_ => (IsS43.fresh (by repeat (first | (with_reducible first | exact HI369.out | apply IsS43.alloc | apply IsS43.drewN | apply IsS43.drew | apply IsS43.set_1) | exact HI369.out)) k_ hn_)))) (below_size (by repeat (first | (with_reducible first | exact HB.out | apply below_alloc | apply pw_below_drewN | apply below_drew1 | refine below_set ?_ (IsS43.ge HI369.out)) | exact HB.out)))); have n3_ := Aside0.mk (IsS43.below (by repeat (first | (with_reducible first | exact HI369.out | apply IsS43.alloc | apply IsS43.drewN | apply IsS43.drew | apply IsS43.set_1) | exact HI369.out)) hb); have n4_ := Aside0.mk (below_step (by repeat (first | (with_reducible first | exact HB.out | apply below_alloc | apply pw_below_drewN | apply below_drew1 | refine below_set ?_ (IsS43.ge HI369.out)) | exact HB.out)) hb); clear HO365; clear HO372; clear HI369; clear HB; have HO365 := n0_; have HO372 := n1_; have HO376 := n2_; have HI369 := n3_; have HB := n4_; clear n0_ n1_ n2_ n3_ n4_; (try clear hb); (try clear hb2); (try clear hk); (try clear hi); (try clear hgn_); (try clear ho0); obtain ⟨Ao31, co31, eo31⟩ := Kd.N_slice HO376.out; subst eo31) | ((with_reducible refine gate_callee (f := 16) rfl ?_); refine goesL_ (some 45) rfl rfl Try.func16 (by kernel_rfl) rfl #[.slice Ao31 t374.length co31, .int .i64 (Int.tmod (wrap64 (a2)) (wrap64 ((t363.length : Int) + 1))), .slice Ao29 t370.length co29] rfl (by (try simp only [List.map_toArray, List.map_cons, List.map_nil]); first | done | rfl | (simp only [List.length_drop, List.length_take]; rfl)) ?_; (with_reducible refine (ulog_Join.calls kj6 (fun k_ => k_ ≠ g369) _ _ t374 (Int.tmod (wrap64 (a2)) (wrap64 ((t363.length : Int) + 1))) (fun k_ => ((some k_ ≠ (.slice Ao28 t363.length co28 : Value).ownBlock ∧ k_ ≠ g369) ∧ some k_ ≠ (.slice Ao31 t374.length co31 : Value).ownBlock)) _ _ t370 t377 _ ?side1 ?side2 A17.out).mono ?_); (case side1 => exact Kd.N_V (HO376.out)); (case side2 => exact Kd.N_V (HO372.out)); rintro e w32 ⟨v378, rfl, ho0, hb⟩; refine ⟨_, rfl, ?_⟩; have n0_ := Aside0.mk (Kd.N_elder' (by (with_reducible repeat (first | apply Kd.N_alloc | apply Kd.N_drewN | apply Kd.N_drew)); exact HO365.out) (Kd.N_base ho0) hb); have n1_ := Aside0.mk (Kd.N_elder' (by (with_reducible repeat (first | apply Kd.N_alloc | apply Kd.N_drewN | apply Kd.N_drew)); exact HO372.out) (Kd.N_base ho0) hb); have n2_ := Aside0.mk (Kd.N_elder' (by (with_reducible repeat (first | apply Kd.N_alloc | apply Kd.N_drewN | apply Kd.N_drew)); exact HO376.out) (Kd.N_base ho0) hb); have n3_ := Aside0.mk (Kd.N_lower (Kd.N_mono (ok' := fun k_ => k_ ≠ g369) ho0 (fun k_ hk_ => Or.elim hk_ (fun hs_ => Or.elim hs_ (fun hs_ => hs_) (fun hs_ => hs_.1.2)) (fun hn_ => (IsS43.fresh (by repeat (first | (with_reducible first | exact HI369.out | apply IsS43.alloc | apply IsS43.drewN | apply IsS43.drew | apply IsS43.set_1) | exact HI369.out)) k_ hn_)))) (below_size (by repeat (first | (with_reducible first | exact HB.out | apply below_alloc | apply pw_below_drewN | apply below_drew1 | refine below_set ?_ (IsS43.ge HI369.out)) | exact HB.out)))); have n4_ := Aside0.mk (IsS43.below (by repeat (first | (with_reducible first | exact HI369.out | apply IsS43.alloc | apply IsS43.drewN | apply IsS43.drew | apply IsS43.set_1) | exact HI369.out)) hb); have n5_ := Aside0.mk (below_step (by repeat (first | (with_reducible first | exact HB.out | apply below_alloc | apply pw_below_drewN | apply below_drew1 | refine below_set ?_ (IsS43.ge HI369.out)) | exact HB.out)) hb); clear HO365; clear HO372; clear HO376; clear HI369; clear HB; have HO365 := n0_; have HO372 := n1_; have HO376 := n2_; have HO379 := n3_; have HI369 := n4_; have HB := n5_; clear n0_ n1_ n2_ n3_ n4_ n5_; (try clear hb); (try clear hb2); (try clear hk); (try clear hi); (try clear hgn_); (try clear ho0); have q33 : ((ji19) : Int) ≤ ((t370.length : Int) : Int) := of_decide_eq_true (by first | (with_reducible assumption) | assumption); obtain ⟨i033, hi033, _, hsz33, _⟩ := info_parts info39; have hroom33 : t370.length ≤ co29 := (Kd.N_reads' HO372.out).2.1; have hC33 : Kd.F k39 _ _ Ao29 t370.length t370 := (Kd.V_at (base := w.heap.size) (Kd.N_V HO372.out)).2.2; have hcut33 := cut_to (P := Try.prog) 24 39 .i64 Try.underlying24 hi033 Ao29 t370.length co29 (ji19) (of_decide_eq_true (by first | (with_reducible assumption) | assumption)) q33 hroom33; have hr33 := Kd.F_take (m := ((ji19) : Int).toNat) hC33 (by omega); have hy33 : y380.length = ((ji19) : Int).toNat := (by rw [Ny380.out, List.length_take]; omega); rw [← Ny380.out] at hr33; rw [← hy33] at hcut33; have HO384 := Aside0.mk (show Kd.V k39 39 _ w.heap.size _ (.slice Ao29 y380.length co29) y380 from Kd.V_mk (by omega) hr33); have HC384 := Aside0.mk (show y380.length ≤ co29 from by omega); clear hr33 hC33 hroom33 hi033 hsz33; have KY33 := Aside0.mk hy33; clear hy33; replace q33 := eq_true q33) | ((with_reducible refine gate_callee (f := 16) rfl ?_); refine goesL_ (some 56) rfl rfl Try.func16 (by kernel_rfl) rfl #[.slice Ao31 t374.length co31, .int .i64 (Int.tmod (wrap64 (a2)) (wrap64 ((t363.length : Int) + 1))), .slice Ao29 y380.length co29] rfl (by (try simp only [List.map_toArray, List.map_cons, List.map_nil]); first | done | rfl | (simp only [List.length_drop, List.length_take]; rfl)) ?_; (with_reducible refine (ulog_Join.calls kj6 (fun k_ => (k_ ≠ g369 ∧ some k_ ≠ (v378 : Value).ownBlock)) _ _ t374 (Int.tmod (wrap64 (a2)) (wrap64 ((t363.length : Int) + 1))) (fun k_ => (((some k_ ≠ (.slice Ao28 t363.length co28 : Value).ownBlock ∧ k_ ≠ g369) ∧ some k_ ≠ (.slice Ao31 t374.length co31 : Value).ownBlock) ∧ some k_ ≠ (v378 : Value).ownBlock)) _ _ y380 t385 _ ?side1 ?side2 A22.out).mono ?_); (case side1 => exact Kd.N_V (HO376.out)); (case side2 => exact HO384.out); rintro e w34 ⟨v386, rfl, ho0, hb⟩; refine ⟨_, rfl, ?_⟩; have n0_ := Aside0.mk (Kd.N_elder' (by (with_reducible repeat (first | apply Kd.N_alloc | apply Kd.N_drewN | apply Kd.N_drew)); exact HO365.out) (Kd.N_base ho0) hb); have n1_ := Aside0.mk (Kd.N_elder' (by (with_reducible repeat (first | apply Kd.N_alloc | apply Kd.N_drewN | apply Kd.N_drew)); exact HO372.out) (Kd.N_base ho0) hb); have n2_ := Aside0.mk (Kd.N_elder' (by (with_reducible repeat (first | apply Kd.N_alloc | apply Kd.N_drewN | apply Kd.N_drew)); exact HO376.out) (Kd.N_base ho0) hb); have n3_ := Aside0.mk (Kd.N_elder' (by (with_reducible repeat (first | apply Kd.N_alloc | apply Kd.N_drewN | apply Kd.N_drew)); exact HO379.out) (Kd.N_base ho0) hb); have n4_ := Aside0.mk (Kd.V_elder' (by (with_reducible repeat (first | apply Kd.V_alloc | apply Kd.V_drewN | apply Kd.V_drew)); exact HO384.out) (Kd.N_base ho0) hb); have n5_ := Aside0.mk (Kd.N_lower (Kd.N_mono (ok' := fun k_ => some k_ ≠ (v378 : Value).ownBlock ∧ k_ ≠ g369) ho0 (fun k_ hk_ => ⟨Or.elim hk_ (fun hs_ => Or.elim hs_ (fun hs_ => hs_.2) (fun hs_ => hs_.2)) (fun hn_ => (Kd.fresh' (Kd.N_lt (by (with_reducible repeat (first | apply Kd.N_alloc | apply Kd.N_drewN | apply Kd.N_drew)); exact HO379.out)) k_ hn_)), Or.elim hk_ (fun hs_ => Or.elim hs_ (fun hs_ => hs_.1) (fun hs_ => hs_.1.1.2)) (fun hn_ => (IsS43.fresh (by repeat (first | (with_reducible first | exact HI369.out | apply IsS43.alloc | apply IsS43.drewN | apply IsS43.drew | apply IsS43.set_1) | exact HI369.out)) k_ hn_))⟩)) (below_size (by repeat (first | (with_reducible first | exact HB.out | apply below_alloc | apply pw_below_drewN | apply below_drew1 | refine below_set ?_ (IsS43.ge HI369.out)) | exact HB.out)))); have n6_ := Aside0.mk (IsS43.below (by repeat (first | (with_reducible first | exact HI369.out | apply IsS43.alloc | apply IsS43.drewN | apply IsS43.drew | apply IsS43.set_1) | exact HI369.out)) hb); have n7_ := Aside0.mk (below_step (by repeat (first | (with_reducible first | exact HB.out | apply below_alloc | apply pw_below_drewN | apply below_drew1 | refine below_set ?_ (IsS43.ge HI369.out)) | exact HB.out)) hb); clear HO365; clear HO372; clear HO376; clear HO379; clear HO384; clear HI369; clear HB; have HO365 := n0_; have HO372 := n1_; have HO376 := n2_; have HO379 := n3_; have HO384 := n4_; have HO387 := n5_; have HI369 := n6_; have HB := n7_; clear n0_ n1_ n2_ n3_ n4_ n5_ n6_ n7_; (try clear hb); (try clear hb2); (try clear hk); (try clear hi); (try clear hgn_); (try clear ho0)))
                  (try simp only [Act.put, List.setIfInBounds_toArray, List.set_cons_zero, List.set_cons_succ])
                  go_cut [85] (fun v85 wc => ∃ (kq : Nat) (x85_22 : Bool), v85 = .bool x85_22 ∧ Aside0 (diwanlaw9_UlogJoin.j1 kq t363 t370 (Int.tmod (wrap64 (a2)) (wrap64 ((t363.length : Int) + 1))) t374 x85_22 = some r) ∧ Aside0 (kq ≤ kj6) ∧ Aside0 (Kd.N k39 39 wc w.heap.size (fun k_ => some k_ ≠ ((.slice Ao29 t370.length co29) : Value).ownBlock ∧ some k_ ≠ ((.slice Ao31 t374.length co31) : Value).ownBlock) (.slice Ao28 t363.length co28) t363) ∧ Aside0 (Kd.N k39 39 wc w.heap.size (fun k_ => some k_ ≠ ((.slice Ao28 t363.length co28) : Value).ownBlock ∧ some k_ ≠ ((.slice Ao31 t374.length co31) : Value).ownBlock) (.slice Ao29 t370.length co29) t370) ∧ Aside0 (Kd.N k39 39 wc w.heap.size (fun _ => True) (.slice Ao31 t374.length co31) t374) ∧ Aside0 (Below w.heap.size w wc))
                  case first =>
                    have H := HC23.out
                    clear HC23
                    replace H := Option.bind_eq_some_iff.mp H
                    obtain ⟨t388, A350, H⟩ := H
                    replace H : (if t388 = true then ((ulog_Same.f kj6 t374 t385).bind fun t389 => (if t389 = true then (if (t374.length : Int) < (wrap64 ((Int.tmod (wrap64 (a2)) (wrap64 ((t363.length : Int) + 1))) + (t370.length : Int))) then (diwanlaw9_UlogJoin.j1 kj6 t363 t370 (Int.tmod (wrap64 (a2)) (wrap64 ((t363.length : Int) + 1))) t374 true) else (if 0 ≤ (Int.tmod (wrap64 (a2)) (wrap64 ((t363.length : Int) + 1))) then (if (Int.tmod (wrap64 (a2)) (wrap64 ((t363.length : Int) + 1))) ≤ (t374.length : Int) then (if (Int.tmod (wrap64 (a2)) (wrap64 ((t363.length : Int) + 1))) ≤ (t363.length : Int) then ((diwanref1_SameEntries.f kj6 (t374.take ((Int.tmod (wrap64 (a2)) (wrap64 ((t363.length : Int) + 1))) : Int).toNat) (t363.take ((Int.tmod (wrap64 (a2)) (wrap64 ((t363.length : Int) + 1))) : Int).toNat)).bind fun t400 => (diwanlaw9_UlogJoin.j1 kj6 t363 t370 (Int.tmod (wrap64 (a2)) (wrap64 ((t363.length : Int) + 1))) t374 (!t400))) else (none)) else (none)) else (none))) else (diwanlaw9_UlogJoin.j1 kj6 t363 t370 (Int.tmod (wrap64 (a2)) (wrap64 ((t363.length : Int) + 1))) t374 true))) else (diwanlaw9_UlogJoin.j1 kj6 t363 t370 (Int.tmod (wrap64 (a2)) (wrap64 ((t363.length : Int) + 1))) t374 true)) = some r := H
                    have A35 := Aside0.mk A350
                    clear A350
                    by_cases c36 : t388 = true
                    · subst c36
                      have H1 : ((ulog_Same.f kj6 t374 t385).bind fun t389 => (if t389 = true then (if (t374.length : Int) < (wrap64 ((Int.tmod (wrap64 (a2)) (wrap64 ((t363.length : Int) + 1))) + (t370.length : Int))) then (diwanlaw9_UlogJoin.j1 kj6 t363 t370 (Int.tmod (wrap64 (a2)) (wrap64 ((t363.length : Int) + 1))) t374 true) else (if 0 ≤ (Int.tmod (wrap64 (a2)) (wrap64 ((t363.length : Int) + 1))) then (if (Int.tmod (wrap64 (a2)) (wrap64 ((t363.length : Int) + 1))) ≤ (t374.length : Int) then (if (Int.tmod (wrap64 (a2)) (wrap64 ((t363.length : Int) + 1))) ≤ (t363.length : Int) then ((diwanref1_SameEntries.f kj6 (t374.take ((Int.tmod (wrap64 (a2)) (wrap64 ((t363.length : Int) + 1))) : Int).toNat) (t363.take ((Int.tmod (wrap64 (a2)) (wrap64 ((t363.length : Int) + 1))) : Int).toNat)).bind fun t400 => (diwanlaw9_UlogJoin.j1 kj6 t363 t370 (Int.tmod (wrap64 (a2)) (wrap64 ((t363.length : Int) + 1))) t374 (!t400))) else (none)) else (none)) else (none))) else (diwanlaw9_UlogJoin.j1 kj6 t363 t370 (Int.tmod (wrap64 (a2)) (wrap64 ((t363.length : Int) + 1))) t374 true))) = some r := by rw [if_pos rfl] at H; exact H
                      clear H
                      have H := H1
                      clear H1
                      replace H := Option.bind_eq_some_iff.mp H
                      obtain ⟨t389, A370, H⟩ := H
                      replace H : (if t389 = true then (if (t374.length : Int) < (wrap64 ((Int.tmod (wrap64 (a2)) (wrap64 ((t363.length : Int) + 1))) + (t370.length : Int))) then (diwanlaw9_UlogJoin.j1 kj6 t363 t370 (Int.tmod (wrap64 (a2)) (wrap64 ((t363.length : Int) + 1))) t374 true) else (if 0 ≤ (Int.tmod (wrap64 (a2)) (wrap64 ((t363.length : Int) + 1))) then (if (Int.tmod (wrap64 (a2)) (wrap64 ((t363.length : Int) + 1))) ≤ (t374.length : Int) then (if (Int.tmod (wrap64 (a2)) (wrap64 ((t363.length : Int) + 1))) ≤ (t363.length : Int) then ((diwanref1_SameEntries.f kj6 (t374.take ((Int.tmod (wrap64 (a2)) (wrap64 ((t363.length : Int) + 1))) : Int).toNat) (t363.take ((Int.tmod (wrap64 (a2)) (wrap64 ((t363.length : Int) + 1))) : Int).toNat)).bind fun t400 => (diwanlaw9_UlogJoin.j1 kj6 t363 t370 (Int.tmod (wrap64 (a2)) (wrap64 ((t363.length : Int) + 1))) t374 (!t400))) else (none)) else (none)) else (none))) else (diwanlaw9_UlogJoin.j1 kj6 t363 t370 (Int.tmod (wrap64 (a2)) (wrap64 ((t363.length : Int) + 1))) t374 true)) = some r := H
                      have A37 := Aside0.mk A370
                      clear A370
                      by_cases c38 : t389 = true
                      · subst c38
                        have H1 : (if (t374.length : Int) < (wrap64 ((Int.tmod (wrap64 (a2)) (wrap64 ((t363.length : Int) + 1))) + (t370.length : Int))) then (diwanlaw9_UlogJoin.j1 kj6 t363 t370 (Int.tmod (wrap64 (a2)) (wrap64 ((t363.length : Int) + 1))) t374 true) else (if 0 ≤ (Int.tmod (wrap64 (a2)) (wrap64 ((t363.length : Int) + 1))) then (if (Int.tmod (wrap64 (a2)) (wrap64 ((t363.length : Int) + 1))) ≤ (t374.length : Int) then (if (Int.tmod (wrap64 (a2)) (wrap64 ((t363.length : Int) + 1))) ≤ (t363.length : Int) then ((diwanref1_SameEntries.f kj6 (t374.take ((Int.tmod (wrap64 (a2)) (wrap64 ((t363.length : Int) + 1))) : Int).toNat) (t363.take ((Int.tmod (wrap64 (a2)) (wrap64 ((t363.length : Int) + 1))) : Int).toNat)).bind fun t400 => (diwanlaw9_UlogJoin.j1 kj6 t363 t370 (Int.tmod (wrap64 (a2)) (wrap64 ((t363.length : Int) + 1))) t374 (!t400))) else (none)) else (none)) else (none))) = some r := by rw [if_pos rfl] at H; exact H
                        clear H
                        have H := H1
                        clear H1
                        by_cases c39 : (t374.length : Int) < (wrap64 ((Int.tmod (wrap64 (a2)) (wrap64 ((t363.length : Int) + 1))) + (t370.length : Int)))
                        · rw [if_pos c39] at H
                          have c39b0 : decide ((t374.length : Int) < (wrap64 ((Int.tmod (wrap64 (a2)) (wrap64 ((t363.length : Int) + 1))) + (t370.length : Int)))) = true := decide_eq_true c39
                          clear c39
                          (first | rw [c39b0] | (simp only [i64_w, i32_w]; rw [c39b0]) | skip)
                          have H' := Aside0.mk H
                          clear H
                          try go_wp2
                          have n0_ := Aside0.mk (Kd.N_drew HO365.out)
                          have n1_ := Aside0.mk (Kd.N_drew HO372.out)
                          have n2_ := Aside0.mk (Kd.N_drew HO376.out)
                          have n3_ := Aside0.mk (Kd.N_drew HO379.out)
                          have n4_ := Aside0.mk (Kd.V_drew HO384.out)
                          have n5_ := Aside0.mk (Kd.N_drew HO387.out)
                          have n6_ := Aside0.mk (IsS43.drew HI369.out)
                          have n7_ := Aside0.mk (below_drew1 HB.out)
                          clear HO365
                          clear HO372
                          clear HO376
                          clear HO379
                          clear HO384
                          clear HO387
                          clear HI369
                          clear HB
                          have HO365 := n0_
                          have HO372 := n1_
                          have HO376 := n2_
                          have HO379 := n3_
                          have HO384 := n4_
                          have HO387 := n5_
                          have HI369 := n6_
                          have HB := n7_
                          clear n0_ n1_ n2_ n3_ n4_ n5_ n6_ n7_
                          obtain ⟨Ao41, co41, eo41⟩ := Kd.N_slice HO379.out
                          (first | subst eo41 | (injection eo41 with f1_ f2_ f3_; have f4_ := f1_.symm; have f5_ := f3_.symm; clear f1_ f2_ f3_; subst f4_; subst f5_))
                          refine start_ (n := 29) (S := fun w' => True) (ds := []) #[false, false, false, false, false, false, false, false, false, false, false, false, false, false, false, false, false, false, false, false, false, false, false, false, false, false, false, false, false] (by kernel_rfl) rfl rfl trivial (fun hHeld => ?_); refine with_tabW diwanlaw9_UlogJoin.tab10 diwanlaw9_UlogJoin.bits10 (fun HT_ HW_ => ?_)
                          generalize w34.drew = w40 at HO365 HO372 HO376 HO379 HO384 HO387 HI369 HB hHeld ⊢
                          refine pure_ (i := 0) (N := some 57) (v := ?_) (a' := ?_) #[true, false, false, false, false, false, false, false, false, false, false, false, false, false, false, false, false, false, false, false, false, false, false, false, false, false, false, false, false] rfl rfl (any_of HT_.out (by kernel_rfl)) (fun _ _ _ h => h) (Or.inl ⟨by rfl, ?_⟩) ?_ ?_
                          rotate_left
                          · intro w'
                            go_simp
                            with_reducible rfl
                          rotate_left
                          · simp only [Act.put, List.setIfInBounds_toArray, List.set_cons_zero, List.set_cons_succ, i64_w, i32_w]
                            rfl
                          refine pure_ (i := 1) (N := some 58) (v := ?_) (a' := ?_) #[true, true, false, false, false, false, false, false, false, false, false, false, false, false, false, false, false, false, false, false, false, false, false, false, false, false, false, false, false] rfl rfl (any_of HT_.out (by kernel_rfl)) (fun _ _ _ h => h) (Or.inl ⟨by rfl, ?_⟩) ?_ ?_
                          rotate_left
                          · intro w'
                            go_simp
                            with_reducible rfl
                          rotate_left
                          · simp only [Act.put, List.setIfInBounds_toArray, List.set_cons_zero, List.set_cons_succ, i64_w, i32_w]
                            rfl
                          refine one_ (i := 2) (N := some 59) #[true, true, true, false, false, false, false, false, false, false, false, false, false, false, false, false, false, false, false, false, false, false, false, false, false, false, false, false, false] rfl rfl (one_of HT_.out (by kernel_rfl)) (by decide) (fun K hK => ?_)
                          refine goes_ Try.func20 (by kernel_rfl) rfl #[.slice Ao31 t374.length co31, .slice Ao41 t377.length co41] (by rfl) rfl rfl (by (try simp only [List.map_toArray, List.map_cons, List.map_nil]); first | done | rfl | (simp only [List.length_drop, List.length_take]; rfl)) ?_
                          with_reducible refine (ulog_Same.calls kj6 _ _ t374 _ _ t377 true _ ?side1 ?side2 ?side3 ?side4 A35.out).mono ?_
                          (case side1 => repeat (first | exact (Kd.N_reads' HO376.out).2.2 | (with_reducible refine Kd.C_alloc ?_ _) | (with_reducible refine Kd.C_drewN ?_ _) | (with_reducible refine Kd.C_drew ?_)))
                          (case side2 => exact (Kd.N_reads' HO376.out).2.1)
                          (case side3 => repeat (first | exact (Kd.N_reads' HO379.out).2.2 | (with_reducible refine Kd.C_alloc ?_ _) | (with_reducible refine Kd.C_drewN ?_ _) | (with_reducible refine Kd.C_drew ?_)))
                          (case side4 => exact (Kd.N_reads' HO379.out).2.1)
                          rintro e w42 ⟨rfl, hb⟩
                          refine ⟨_, rfl, ?_⟩
                          have n0_ := Aside0.mk (Kd.N_below (by (with_reducible repeat (first | apply Kd.N_alloc | apply Kd.N_drewN | apply Kd.N_drew)); exact HO365.out) hb)
                          have n1_ := Aside0.mk (Kd.N_below (by (with_reducible repeat (first | apply Kd.N_alloc | apply Kd.N_drewN | apply Kd.N_drew)); exact HO372.out) hb)
                          have n2_ := Aside0.mk (Kd.N_below (by (with_reducible repeat (first | apply Kd.N_alloc | apply Kd.N_drewN | apply Kd.N_drew)); exact HO376.out) hb)
                          have n3_ := Aside0.mk (Kd.N_below (by (with_reducible repeat (first | apply Kd.N_alloc | apply Kd.N_drewN | apply Kd.N_drew)); exact HO379.out) hb)
                          have n4_ := Aside0.mk (Kd.V_below (by (with_reducible repeat (first | apply Kd.V_alloc | apply Kd.V_drewN | apply Kd.V_drew)); exact HO384.out) hb)
                          have n5_ := Aside0.mk (Kd.N_below (by (with_reducible repeat (first | apply Kd.N_alloc | apply Kd.N_drewN | apply Kd.N_drew)); exact HO387.out) hb)
                          have n6_ := Aside0.mk (IsS43.below (by repeat (first | (with_reducible first | exact HI369.out | apply IsS43.alloc | apply IsS43.drewN | apply IsS43.drew | apply IsS43.set_1) | exact HI369.out)) hb)
                          have n7_ := Aside0.mk (below_step (by repeat (first | (with_reducible first | exact HB.out | apply below_alloc | apply pw_below_drewN | apply below_drew1 | refine below_set ?_ (IsS43.ge HI369.out)) | exact HB.out)) hb)
                          clear HO365
                          clear HO372
                          clear HO376
                          clear HO379
                          clear HO384
                          clear HO387
                          clear HI369
                          clear HB
                          have HO365 := n0_
                          have HO372 := n1_
                          have HO376 := n2_
                          have HO379 := n3_
                          have HO384 := n4_
                          have HO387 := n5_
                          have HI369 := n6_
                          have HB := n7_
                          clear n0_ n1_ n2_ n3_ n4_ n5_ n6_ n7_
                          (try clear hb)
                          (try clear hb2)
                          (try clear hk)
                          (try clear hi)
                          (try clear hgn_)
                          obtain ⟨Ao43, co43, eo43⟩ := Kd.N_slice HO387.out
                          (first | subst eo43 | (injection eo43 with f1_ f2_ f3_; have f4_ := f1_.symm; have f5_ := f3_.symm; clear f1_ f2_ f3_; subst f4_; subst f5_))
                          refine hK.out _ _ trivial (fun hHeld => ?_)
                          clear hK K
                          refine norm_ (a' := ?_) ?_ ?_
                          rotate_left
                          · show Act.put _ (some 59) _ = _
                            simp only [Act.put, List.setIfInBounds_toArray, List.set_cons_zero, List.set_cons_succ, i64_w, i32_w]
                            rfl
                          refine pure_ (i := 3) (N := some 60) (v := ?_) (a' := ?_) #[true, true, true, true, false, false, false, false, false, false, false, false, false, false, false, false, false, false, false, false, false, false, false, false, false, false, false, false, false] rfl rfl (any_of HT_.out (by kernel_rfl)) (fun _ _ _ h => h) (Or.inl ⟨by rfl, ?_⟩) ?_ ?_
                          rotate_left
                          · intro w'
                            go_simp
                            with_reducible rfl
                          rotate_left
                          · simp only [Act.put, List.setIfInBounds_toArray, List.set_cons_zero, List.set_cons_succ, i64_w, i32_w]
                            rfl
                          refine pure_ (i := 4) (N := some 61) (v := ?_) (a' := ?_) #[true, true, true, true, true, false, false, false, false, false, false, false, false, false, false, false, false, false, false, false, false, false, false, false, false, false, false, false, false] rfl rfl (any_of HT_.out (by kernel_rfl)) (fun _ _ _ h => h) (Or.inl ⟨by rfl, ?_⟩) ?_ ?_
                          rotate_left
                          · intro w'
                            go_simp
                            with_reducible rfl
                          rotate_left
                          · simp only [Act.put, List.setIfInBounds_toArray, List.set_cons_zero, List.set_cons_succ, i64_w, i32_w]
                            rfl
                          refine pure_ (i := 5) (N := some 62) (v := ?_) (a' := ?_) #[true, true, true, true, true, true, false, false, false, false, false, false, false, false, false, false, false, false, false, false, false, false, false, false, false, false, false, false, false] rfl rfl (any_of HT_.out (by kernel_rfl)) (fun _ _ _ h => h) (Or.inl ⟨by rfl, ?_⟩) ?_ ?_
                          rotate_left
                          · intro w'
                            go_simp
                            with_reducible rfl
                          rotate_left
                          · simp only [Act.put, List.setIfInBounds_toArray, List.set_cons_zero, List.set_cons_succ, i64_w, i32_w]
                            rfl
                          refine pure_ (i := 6) (N := some 63) (v := ?_) (a' := ?_) #[true, true, true, true, true, true, true, false, false, false, false, false, false, false, false, false, false, false, false, false, false, false, false, false, false, false, false, false, false] rfl rfl (any_of HT_.out (by kernel_rfl)) (fun _ _ _ h => h) (Or.inl ⟨by rfl, ?_⟩) ?_ ?_
                          rotate_left
                          · intro w'
                            go_simp
                            with_reducible rfl
                          rotate_left
                          · simp only [Act.put, List.setIfInBounds_toArray, List.set_cons_zero, List.set_cons_succ, i64_w, i32_w]
                            rfl
                          refine one_ (i := 7) (N := some 64) #[true, true, true, true, true, true, true, true, false, false, false, false, false, false, false, false, false, false, false, false, false, false, false, false, false, false, false, false, false] rfl rfl (one_of HT_.out (by kernel_rfl)) (by decide) (fun K hK => ?_)
                          refine goes_ Try.func20 (by kernel_rfl) rfl #[.slice Ao31 t374.length co31, .slice Ao43 t385.length co43] (by rfl) rfl rfl (by (try simp only [List.map_toArray, List.map_cons, List.map_nil]); first | done | rfl | (simp only [List.length_drop, List.length_take]; rfl)) ?_
                          with_reducible refine (ulog_Same.calls kj6 _ _ t374 _ _ t385 true _ ?side1 ?side2 ?side3 ?side4 A37.out).mono ?_
                          (case side1 => repeat (first | exact (Kd.N_reads' HO376.out).2.2 | (with_reducible refine Kd.C_alloc ?_ _) | (with_reducible refine Kd.C_drewN ?_ _) | (with_reducible refine Kd.C_drew ?_)))
                          (case side2 => exact (Kd.N_reads' HO376.out).2.1)
                          (case side3 => repeat (first | exact (Kd.N_reads' HO387.out).2.2 | (with_reducible refine Kd.C_alloc ?_ _) | (with_reducible refine Kd.C_drewN ?_ _) | (with_reducible refine Kd.C_drew ?_)))
                          (case side4 => exact (Kd.N_reads' HO387.out).2.1)
                          rintro e w44 ⟨rfl, hb⟩
                          refine ⟨_, rfl, ?_⟩
                          have n0_ := Aside0.mk (Kd.N_below (by (with_reducible repeat (first | apply Kd.N_alloc | apply Kd.N_drewN | apply Kd.N_drew)); exact HO365.out) hb)
                          have n1_ := Aside0.mk (Kd.N_below (by (with_reducible repeat (first | apply Kd.N_alloc | apply Kd.N_drewN | apply Kd.N_drew)); exact HO372.out) hb)
                          have n2_ := Aside0.mk (Kd.N_below (by (with_reducible repeat (first | apply Kd.N_alloc | apply Kd.N_drewN | apply Kd.N_drew)); exact HO376.out) hb)
                          have n3_ := Aside0.mk (Kd.N_below (by (with_reducible repeat (first | apply Kd.N_alloc | apply Kd.N_drewN | apply Kd.N_drew)); exact HO379.out) hb)
                          have n4_ := Aside0.mk (Kd.V_below (by (with_reducible repeat (first | apply Kd.V_alloc | apply Kd.V_drewN | apply Kd.V_drew)); exact HO384.out) hb)
                          have n5_ := Aside0.mk (Kd.N_below (by (with_reducible repeat (first | apply Kd.N_alloc | apply Kd.N_drewN | apply Kd.N_drew)); exact HO387.out) hb)
                          have n6_ := Aside0.mk (IsS43.below (by repeat (first | (with_reducible first | exact HI369.out | apply IsS43.alloc | apply IsS43.drewN | apply IsS43.drew | apply IsS43.set_1) | exact HI369.out)) hb)
                          have n7_ := Aside0.mk (below_step (by repeat (first | (with_reducible first | exact HB.out | apply below_alloc | apply pw_below_drewN | apply below_drew1 | refine below_set ?_ (IsS43.ge HI369.out)) | exact HB.out)) hb)
                          clear HO365
                          clear HO372
                          clear HO376
                          clear HO379
                          clear HO384
                          clear HO387
                          clear HI369
                          clear HB
                          have HO365 := n0_
                          have HO372 := n1_
                          have HO376 := n2_
                          have HO379 := n3_
                          have HO384 := n4_
                          have HO387 := n5_
                          have HI369 := n6_
                          have HB := n7_
                          clear n0_ n1_ n2_ n3_ n4_ n5_ n6_ n7_
                          (try clear hb)
                          (try clear hb2)
                          (try clear hk)
                          (try clear hi)
                          (try clear hgn_)
                          refine hK.out _ _ trivial (fun hHeld => ?_)
                          clear hK K
                          refine norm_ (a' := ?_) ?_ ?_
                          rotate_left
                          · show Act.put _ (some 64) _ = _
                            simp only [Act.put, List.setIfInBounds_toArray, List.set_cons_zero, List.set_cons_succ, i64_w, i32_w]
                            rfl
                          refine pure_ (i := 8) (N := some 65) (v := ?_) (a' := ?_) #[true, true, true, true, true, true, true, true, true, false, false, false, false, false, false, false, false, false, false, false, false, false, false, false, false, false, false, false, false] rfl rfl (any_of HT_.out (by kernel_rfl)) (fun _ _ _ h => h) (Or.inl ⟨by rfl, ?_⟩) ?_ ?_
                          rotate_left
                          · intro w'
                            go_simp
                            with_reducible rfl
                          rotate_left
                          · simp only [Act.put, List.setIfInBounds_toArray, List.set_cons_zero, List.set_cons_succ, i64_w, i32_w]
                            rfl
                          refine pure_ (i := 9) (N := some 66) (v := ?_) (a' := ?_) #[true, true, true, true, true, true, true, true, true, true, false, false, false, false, false, false, false, false, false, false, false, false, false, false, false, false, false, false, false] rfl rfl (any_of HT_.out (by kernel_rfl)) (fun _ _ _ h => h) (Or.inl ⟨by rfl, ?_⟩) ?_ ?_
                          rotate_left
                          · intro w'
                            go_simp
                            with_reducible rfl
                          rotate_left
                          · simp only [Act.put, List.setIfInBounds_toArray, List.set_cons_zero, List.set_cons_succ, i64_w, i32_w]
                            rfl
                          refine pure_ (i := 10) (N := some 67) (v := ?_) (a' := ?_) #[true, true, true, true, true, true, true, true, true, true, true, false, false, false, false, false, false, false, false, false, false, false, false, false, false, false, false, false, false] rfl rfl (any_of HT_.out (by kernel_rfl)) (fun _ _ _ h => h) (Or.inl ⟨by rfl, ?_⟩) ?_ ?_
                          rotate_left
                          · intro w'
                            go_simp
                            with_reducible rfl
                          rotate_left
                          · simp only [Act.put, List.setIfInBounds_toArray, List.set_cons_zero, List.set_cons_succ, i64_w, i32_w]
                            rfl
                          refine pure_ (i := 11) (N := some 68) (v := ?_) (a' := ?_) #[true, true, true, true, true, true, true, true, true, true, true, true, false, false, false, false, false, false, false, false, false, false, false, false, false, false, false, false, false] rfl rfl (any_of HT_.out (by kernel_rfl)) (fun _ _ _ h => h) (Or.inl ⟨by rfl, ?_⟩) ?_ ?_
                          rotate_left
                          · intro w'
                            go_simp
                            with_reducible rfl
                          rotate_left
                          · simp only [Act.put, List.setIfInBounds_toArray, List.set_cons_zero, List.set_cons_succ, i64_w, i32_w]
                            rfl
                          refine pure_ (i := 12) (N := some 69) (v := ?_) (a' := ?_) #[true, true, true, true, true, true, true, true, true, true, true, true, true, false, false, false, false, false, false, false, false, false, false, false, false, false, false, false, false] rfl rfl (any_of HT_.out (by kernel_rfl)) (fun _ _ _ h => h) (Or.inl ⟨by rfl, ?_⟩) ?_ ?_
                          rotate_left
                          · intro w'
                            go_simp
                            with_reducible rfl
                          rotate_left
                          · simp only [Act.put, List.setIfInBounds_toArray, List.set_cons_zero, List.set_cons_succ, i64_w, i32_w]
                            rfl
                          refine pure_ (i := 13) (N := some 70) (v := ?_) (a' := ?_) #[true, true, true, true, true, true, true, true, true, true, true, true, true, true, false, false, false, false, false, false, false, false, false, false, false, false, false, false, false] rfl rfl (any_of HT_.out (by kernel_rfl)) (fun _ _ _ h => h) (Or.inl ⟨by rfl, ?_⟩) ?_ ?_
                          rotate_left
                          · intro w'
                            go_simp
                            with_reducible rfl
                          rotate_left
                          · simp only [Act.put, List.setIfInBounds_toArray, List.set_cons_zero, List.set_cons_succ, i64_w, i32_w]
                            rfl
                          refine pure_ (i := 14) (N := some 71) (v := ?_) (a' := ?_) #[true, true, true, true, true, true, true, true, true, true, true, true, true, true, true, false, false, false, false, false, false, false, false, false, false, false, false, false, false] rfl rfl (any_of HT_.out (by kernel_rfl)) (fun _ _ _ h => h) (Or.inl ⟨by rfl, ?_⟩) ?_ ?_
                          rotate_left
                          · intro w'
                            go_simp
                            with_reducible rfl
                          rotate_left
                          · simp only [Act.put, List.setIfInBounds_toArray, List.set_cons_zero, List.set_cons_succ, i64_w, i32_w]
                            rfl
                          refine pure_ (i := 15) (N := some 72) (v := ?_) (a' := ?_) #[true, true, true, true, true, true, true, true, true, true, true, true, true, true, true, true, false, false, false, false, false, false, false, false, false, false, false, false, false] rfl rfl (any_of HT_.out (by kernel_rfl)) (fun _ _ _ h => h) (Or.inl ⟨by rfl, ?_⟩) ?_ ?_
                          rotate_left
                          · intro w'
                            go_simp
                            with_reducible rfl
                          rotate_left
                          · simp only [Act.put, List.setIfInBounds_toArray, List.set_cons_zero, List.set_cons_succ, i64_w, i32_w]
                            rfl
                          refine pure_ (i := 16) (N := some 73) (v := ?_) (a' := ?_) #[true, true, true, true, true, true, true, true, true, true, true, true, true, true, true, true, true, false, false, false, false, false, false, false, false, false, false, false, false] rfl rfl (any_of HT_.out (by kernel_rfl)) (fun _ _ _ h => h) (Or.inl ⟨by rfl, ?_⟩) ?_ ?_
                          rotate_left
                          · intro w'
                            go_simp
                            with_reducible rfl
                          rotate_left
                          · simp only [Act.put, List.setIfInBounds_toArray, List.set_cons_zero, List.set_cons_succ, i64_w, i32_w]
                            rfl
                          refine pure_ (i := 17) (N := some 74) (v := ?_) (a' := ?_) #[true, true, true, true, true, true, true, true, true, true, true, true, true, true, true, true, true, true, false, false, false, false, false, false, false, false, false, false, false] rfl rfl (any_of HT_.out (by kernel_rfl)) (fun _ _ _ h => h) (Or.inl ⟨by rfl, ?_⟩) ?_ ?_
                          rotate_left
                          · intro w'
                            go_simp
                            with_reducible rfl
                          rotate_left
                          · simp only [Act.put, List.setIfInBounds_toArray, List.set_cons_zero, List.set_cons_succ, i64_w, i32_w]
                            rfl
                          refine pure_ (i := 18) (N := some 75) (v := ?_) (a' := ?_) #[true, true, true, true, true, true, true, true, true, true, true, true, true, true, true, true, true, true, true, false, false, false, false, false, false, false, false, false, false] rfl rfl (any_of HT_.out (by kernel_rfl)) (fun _ _ _ h => h) (Or.inl ⟨by rfl, ?_⟩) ?_ ?_
                          rotate_left
                          · intro w'
                            go_simp
                            with_reducible rfl
                          rotate_left
                          · simp only [Act.put, List.setIfInBounds_toArray, List.set_cons_zero, List.set_cons_succ, i64_w, i32_w]
                            rfl
                          refine pure_ (i := 19) (N := some 76) (v := ?_) (a' := ?_) #[true, true, true, true, true, true, true, true, true, true, true, true, true, true, true, true, true, true, true, true, false, false, false, false, false, false, false, false, false] rfl rfl (any_of HT_.out (by kernel_rfl)) (fun _ _ _ h => h) (Or.inl ⟨by rfl, ?_⟩) ?_ ?_
                          rotate_left
                          · intro w'
                            go_simp
                            with_reducible rfl
                          rotate_left
                          · simp only [Act.put, List.setIfInBounds_toArray, List.set_cons_zero, List.set_cons_succ, i64_w, i32_w]
                            rfl
                          refine pure_ (i := 20) (N := some 77) (v := undef) (a' := ?_) #[true, true, true, true, true, true, true, true, true, true, true, true, true, true, true, true, true, true, true, true, true, false, false, false, false, false, false, false, false] rfl rfl (any_of HT_.out (by kernel_rfl)) (fun _ _ _ h => h) (Or.inr ⟨by rfl, rfl⟩) ?_ ?_
                          rotate_left
                          · simp only [Act.put, List.setIfInBounds_toArray, List.set_cons_zero, List.set_cons_succ, i64_w, i32_w]
                            rfl
                          refine pure_ (i := 21) (N := some 78) (v := undef) (a' := ?_) #[true, true, true, true, true, true, true, true, true, true, true, true, true, true, true, true, true, true, true, true, true, true, false, false, false, false, false, false, false] rfl rfl (any_of HT_.out (by kernel_rfl)) (fun _ _ _ h => h) (Or.inr ⟨by rfl, rfl⟩) ?_ ?_
                          rotate_left
                          · simp only [Act.put, List.setIfInBounds_toArray, List.set_cons_zero, List.set_cons_succ, i64_w, i32_w]
                            rfl
                          refine pure_ (i := 22) (N := some 79) (v := undef) (a' := ?_) #[true, true, true, true, true, true, true, true, true, true, true, true, true, true, true, true, true, true, true, true, true, true, true, false, false, false, false, false, false] rfl rfl (any_of HT_.out (by kernel_rfl)) (fun _ _ _ h => h) (Or.inr ⟨by rfl, rfl⟩) ?_ ?_
                          rotate_left
                          · simp only [Act.put, List.setIfInBounds_toArray, List.set_cons_zero, List.set_cons_succ, i64_w, i32_w]
                            rfl
                          refine pure_ (i := 23) (N := some 80) (v := undef) (a' := ?_) #[true, true, true, true, true, true, true, true, true, true, true, true, true, true, true, true, true, true, true, true, true, true, true, true, false, false, false, false, false] rfl rfl (any_of HT_.out (by kernel_rfl)) (fun _ _ _ h => h) (Or.inr ⟨by rfl, rfl⟩) ?_ ?_
                          rotate_left
                          · simp only [Act.put, List.setIfInBounds_toArray, List.set_cons_zero, List.set_cons_succ, i64_w, i32_w]
                            rfl
                          refine pure_ (i := 24) (N := some 81) (v := undef) (a' := ?_) #[true, true, true, true, true, true, true, true, true, true, true, true, true, true, true, true, true, true, true, true, true, true, true, true, true, false, false, false, false] rfl rfl (any_of HT_.out (by kernel_rfl)) (fun _ _ _ h => h) (Or.inr ⟨by rfl, rfl⟩) ?_ ?_
                          rotate_left
                          · simp only [Act.put, List.setIfInBounds_toArray, List.set_cons_zero, List.set_cons_succ, i64_w, i32_w]
                            rfl
                          refine pure_ (i := 25) (N := some 82) (v := undef) (a' := ?_) #[true, true, true, true, true, true, true, true, true, true, true, true, true, true, true, true, true, true, true, true, true, true, true, true, true, true, false, false, false] rfl rfl (any_of HT_.out (by kernel_rfl)) (fun _ _ _ h => h) (Or.inr ⟨by rfl, rfl⟩) ?_ ?_
                          rotate_left
                          · simp only [Act.put, List.setIfInBounds_toArray, List.set_cons_zero, List.set_cons_succ, i64_w, i32_w]
                            rfl
                          refine pure_ (i := 26) (N := some 83) (v := undef) (a' := ?_) #[true, true, true, true, true, true, true, true, true, true, true, true, true, true, true, true, true, true, true, true, true, true, true, true, true, true, true, false, false] rfl rfl (any_of HT_.out (by kernel_rfl)) (fun _ _ _ h => h) (Or.inr ⟨by rfl, rfl⟩) ?_ ?_
                          rotate_left
                          · simp only [Act.put, List.setIfInBounds_toArray, List.set_cons_zero, List.set_cons_succ, i64_w, i32_w]
                            rfl
                          refine pure_ (i := 27) (N := some 84) (v := undef) (a' := ?_) #[true, true, true, true, true, true, true, true, true, true, true, true, true, true, true, true, true, true, true, true, true, true, true, true, true, true, true, true, false] rfl rfl (any_of HT_.out (by kernel_rfl)) (fun _ _ _ h => h) (Or.inr ⟨by rfl, rfl⟩) ?_ ?_
                          rotate_left
                          · simp only [Act.put, List.setIfInBounds_toArray, List.set_cons_zero, List.set_cons_succ, i64_w, i32_w]
                            rfl
                          refine pure_ (i := 28) (N := some 85) (v := ?_) (a' := ?_) #[true, true, true, true, true, true, true, true, true, true, true, true, true, true, true, true, true, true, true, true, true, true, true, true, true, true, true, true, true] rfl rfl (any_of HT_.out (by kernel_rfl)) (fun _ _ _ h => h) (Or.inl ⟨by rfl, ?_⟩) ?_ ?_
                          rotate_left
                          · intro w'
                            go_simp
                            with_reducible rfl
                          rotate_left
                          · simp only [Act.put, List.setIfInBounds_toArray, List.set_cons_zero, List.set_cons_succ, i64_w, i32_w]
                            rfl
                          refine done_ (done_of HT_.out (by kernel_rfl)) ?_
                          try go_wp2
                          go_meet
                          case rel => exact ⟨_, (true), (by first | rfl | (simp; done) | (simp [*]; done)), (by first | exact H' | (rw [hji19]; exact H') | (simp only [hji19]; exact H')), ⟨by have := HJ6.out; first | omega | exact Nat.le_refl _⟩, ⟨by (with_reducible repeat (first | apply Kd.N_alloc | apply Kd.N_drewN | apply Kd.N_drew)); exact Kd.N_mono HO365.out (fun _ hk => ⟨hk.1.1.1.2, hk.1.1.2⟩)⟩, ⟨by (with_reducible repeat (first | apply Kd.N_alloc | apply Kd.N_drewN | apply Kd.N_drew)); exact Kd.N_mono HO372.out (fun _ hk => ⟨hk.1.1.1.1, hk.1.1.2⟩)⟩, ⟨by (with_reducible repeat (first | apply Kd.N_alloc | apply Kd.N_drewN | apply Kd.N_drew)); exact Kd.N_mono HO376.out (fun _ hk => trivial)⟩, ⟨by repeat (first | (with_reducible first | exact HB.out | apply below_alloc | apply pw_below_drewN | apply below_drew1 | refine below_set ?_ (IsS43.ge HI369.out)) | exact HB.out)⟩⟩
                        · rw [if_neg c39] at H
                          have c39b0 : decide ((t374.length : Int) < (wrap64 ((Int.tmod (wrap64 (a2)) (wrap64 ((t363.length : Int) + 1))) + (t370.length : Int)))) = false := decide_eq_false c39
                          clear c39
                          (first | rw [c39b0] | (simp only [i64_w, i32_w]; rw [c39b0]) | skip)
                          obtain ⟨ji45, hji45⟩ : ∃ j_ : Int, (Int.tmod (wrap64 (a2)) (wrap64 ((t363.length : Int) + 1))) = j_ := ⟨_, rfl⟩
                          replace H : (if 0 ≤ (ji45) then (if (ji45) ≤ (t374.length : Int) then (if (ji45) ≤ (t363.length : Int) then ((diwanref1_SameEntries.f kj6 (t374.take ((ji45) : Int).toNat) (t363.take ((ji45) : Int).toNat)).bind fun t400 => (diwanlaw9_UlogJoin.j1 kj6 t363 t370 ji45 t374 (!t400))) else (none)) else (none)) else (none)) = some r := by first | (rw [hji45] at H; exact H) | (simp only [hji45] at H ⊢; exact H)
                          (try rw [hji45] at c39b0)
                          (try rw [hji45] at A35)
                          (try rw [hji45] at A37)
                          by_cases c46 : 0 ≤ (ji45)
                          · rw [if_pos c46] at H
                            have c46b0 := eq_true c46
                            have c46b1 : decide (0 ≤ (ji45)) = true := decide_eq_true c46
                            clear c46
                            by_cases c47 : (ji45) ≤ (t374.length : Int)
                            · rw [if_pos c47] at H
                              have c47b0 := eq_true c47
                              have c47b1 : decide ((ji45) ≤ (t374.length : Int)) = true := decide_eq_true c47
                              clear c47
                              obtain ⟨y390, hy390⟩ : ∃ y_ : List (S39), y_ = (t374.take ((ji45) : Int).toNat) := ⟨_, rfl⟩
                              replace H : (if (ji45) ≤ (t363.length : Int) then ((diwanref1_SameEntries.f kj6 y390 (t363.take ((ji45) : Int).toNat)).bind fun t400 => (diwanlaw9_UlogJoin.j1 kj6 t363 t370 ji45 t374 (!t400))) else (none)) = some r := by first | (rw [hy390]; with_reducible exact H) | (have H2_ := (Option.bind_some _ _).symm.trans H; rw [hy390]; with_reducible exact H2_) | (have H2_ := (Option.bind_some _ _).symm.trans H; with_reducible exact H2_) | with_reducible exact H | (rw [hy390]; exact H) | exact H
                              have Ny390 := Aside0.mk hy390
                              clear hy390
                              have c48b0 := eq_true (of_decide_eq_true (by first | (with_reducible assumption) | assumption) : 0 ≤ (ji45))
                              by_cases c49 : (ji45) ≤ (t363.length : Int)
                              · rw [if_pos c49] at H
                                have c49b0 := eq_true c49
                                have c49b1 : decide ((ji45) ≤ (t363.length : Int)) = true := decide_eq_true c49
                                clear c49
                                obtain ⟨y395, hy395⟩ : ∃ y_ : List (S39), y_ = (t363.take ((ji45) : Int).toNat) := ⟨_, rfl⟩
                                replace H : ((diwanref1_SameEntries.f kj6 y390 y395).bind fun t400 => (diwanlaw9_UlogJoin.j1 kj6 t363 t370 ji45 t374 (!t400))) = some r := by first | (rw [hy395]; with_reducible exact H) | (have H2_ := (Option.bind_some _ _).symm.trans H; rw [hy395]; with_reducible exact H2_) | (have H2_ := (Option.bind_some _ _).symm.trans H; with_reducible exact H2_) | with_reducible exact H | (rw [hy395]; exact H) | exact H
                                have Ny395 := Aside0.mk hy395
                                clear hy395
                                replace H := Option.bind_eq_some_iff.mp H
                                obtain ⟨t400, A500, H⟩ := H
                                replace H : (diwanlaw9_UlogJoin.j1 kj6 t363 t370 ji45 t374 (!t400)) = some r := H
                                have A50 := Aside0.mk A500
                                clear A500
                                have H' := Aside0.mk H
                                clear H
                                try go_wp2
                                have n0_ := Aside0.mk (Kd.N_drew HO365.out)
                                have n1_ := Aside0.mk (Kd.N_drew HO372.out)
                                have n2_ := Aside0.mk (Kd.N_drew HO376.out)
                                have n3_ := Aside0.mk (Kd.N_drew HO379.out)
                                have n4_ := Aside0.mk (Kd.V_drew HO384.out)
                                have n5_ := Aside0.mk (Kd.N_drew HO387.out)
                                have n6_ := Aside0.mk (IsS43.drew HI369.out)
                                have n7_ := Aside0.mk (below_drew1 HB.out)
                                clear HO365
                                clear HO372
                                clear HO376
                                clear HO379
                                clear HO384
                                clear HO387
                                clear HI369
                                clear HB
                                have HO365 := n0_
                                have HO372 := n1_
                                have HO376 := n2_
                                have HO379 := n3_
                                have HO384 := n4_
                                have HO387 := n5_
                                have HI369 := n6_
                                have HB := n7_
                                clear n0_ n1_ n2_ n3_ n4_ n5_ n6_ n7_
                                obtain ⟨Ao52, co52, eo52⟩ := Kd.N_slice HO379.out
                                (first | subst eo52 | (injection eo52 with f1_ f2_ f3_; have f4_ := f1_.symm; have f5_ := f3_.symm; clear f1_ f2_ f3_; subst f4_; subst f5_))
                                refine start_ (n := 29) (S := fun w' => True) (ds := []) #[false, false, false, false, false, false, false, false, false, false, false, false, false, false, false, false, false, false, false, false, false, false, false, false, false, false, false, false, false] (by kernel_rfl) rfl rfl trivial (fun hHeld => ?_); refine with_tabW diwanlaw9_UlogJoin.tab10 diwanlaw9_UlogJoin.bits10 (fun HT_ HW_ => ?_)
                                generalize w34.drew = w51 at HO365 HO372 HO376 HO379 HO384 HO387 HI369 HB hHeld ⊢
                                refine pure_ (i := 0) (N := some 57) (v := ?_) (a' := ?_) #[true, false, false, false, false, false, false, false, false, false, false, false, false, false, false, false, false, false, false, false, false, false, false, false, false, false, false, false, false] rfl rfl (any_of HT_.out (by kernel_rfl)) (fun _ _ _ h => h) (Or.inl ⟨by rfl, ?_⟩) ?_ ?_
                                rotate_left
                                · intro w'
                                  go_simp
                                  with_reducible rfl
                                rotate_left
                                · simp only [Act.put, List.setIfInBounds_toArray, List.set_cons_zero, List.set_cons_succ, i64_w, i32_w]
                                  rfl
                                refine pure_ (i := 1) (N := some 58) (v := ?_) (a' := ?_) #[true, true, false, false, false, false, false, false, false, false, false, false, false, false, false, false, false, false, false, false, false, false, false, false, false, false, false, false, false] rfl rfl (any_of HT_.out (by kernel_rfl)) (fun _ _ _ h => h) (Or.inl ⟨by rfl, ?_⟩) ?_ ?_
                                rotate_left
                                · intro w'
                                  go_simp
                                  with_reducible rfl
                                rotate_left
                                · simp only [Act.put, List.setIfInBounds_toArray, List.set_cons_zero, List.set_cons_succ, i64_w, i32_w]
                                  rfl
                                refine one_ (i := 2) (N := some 59) #[true, true, true, false, false, false, false, false, false, false, false, false, false, false, false, false, false, false, false, false, false, false, false, false, false, false, false, false, false] rfl rfl (one_of HT_.out (by kernel_rfl)) (by decide) (fun K hK => ?_)
                                refine goes_ Try.func20 (by kernel_rfl) rfl #[.slice Ao31 t374.length co31, .slice Ao52 t377.length co52] (by rfl) rfl rfl (by (try simp only [List.map_toArray, List.map_cons, List.map_nil]); first | done | rfl | (simp only [List.length_drop, List.length_take]; rfl)) ?_
                                with_reducible refine (ulog_Same.calls kj6 _ _ t374 _ _ t377 true _ ?side1 ?side2 ?side3 ?side4 A35.out).mono ?_
                                (case side1 => repeat (first | exact (Kd.N_reads' HO376.out).2.2 | (with_reducible refine Kd.C_alloc ?_ _) | (with_reducible refine Kd.C_drewN ?_ _) | (with_reducible refine Kd.C_drew ?_)))
                                (case side2 => exact (Kd.N_reads' HO376.out).2.1)
                                (case side3 => repeat (first | exact (Kd.N_reads' HO379.out).2.2 | (with_reducible refine Kd.C_alloc ?_ _) | (with_reducible refine Kd.C_drewN ?_ _) | (with_reducible refine Kd.C_drew ?_)))
                                (case side4 => exact (Kd.N_reads' HO379.out).2.1)
                                rintro e w53 ⟨rfl, hb⟩
                                refine ⟨_, rfl, ?_⟩
                                have n0_ := Aside0.mk (Kd.N_below (by (with_reducible repeat (first | apply Kd.N_alloc | apply Kd.N_drewN | apply Kd.N_drew)); exact HO365.out) hb)
                                have n1_ := Aside0.mk (Kd.N_below (by (with_reducible repeat (first | apply Kd.N_alloc | apply Kd.N_drewN | apply Kd.N_drew)); exact HO372.out) hb)
                                have n2_ := Aside0.mk (Kd.N_below (by (with_reducible repeat (first | apply Kd.N_alloc | apply Kd.N_drewN | apply Kd.N_drew)); exact HO376.out) hb)
                                have n3_ := Aside0.mk (Kd.N_below (by (with_reducible repeat (first | apply Kd.N_alloc | apply Kd.N_drewN | apply Kd.N_drew)); exact HO379.out) hb)
                                have n4_ := Aside0.mk (Kd.V_below (by (with_reducible repeat (first | apply Kd.V_alloc | apply Kd.V_drewN | apply Kd.V_drew)); exact HO384.out) hb)
                                have n5_ := Aside0.mk (Kd.N_below (by (with_reducible repeat (first | apply Kd.N_alloc | apply Kd.N_drewN | apply Kd.N_drew)); exact HO387.out) hb)
                                have n6_ := Aside0.mk (IsS43.below (by repeat (first | (with_reducible first | exact HI369.out | apply IsS43.alloc | apply IsS43.drewN | apply IsS43.drew | apply IsS43.set_1) | exact HI369.out)) hb)
                                have n7_ := Aside0.mk (below_step (by repeat (first | (with_reducible first | exact HB.out | apply below_alloc | apply pw_below_drewN | apply below_drew1 | refine below_set ?_ (IsS43.ge HI369.out)) | exact HB.out)) hb)
                                clear HO365
                                clear HO372
                                clear HO376
                                clear HO379
                                clear HO384
                                clear HO387
                                clear HI369
                                clear HB
                                have HO365 := n0_
                                have HO372 := n1_
                                have HO376 := n2_
                                have HO379 := n3_
                                have HO384 := n4_
                                have HO387 := n5_
                                have HI369 := n6_
                                have HB := n7_
                                clear n0_ n1_ n2_ n3_ n4_ n5_ n6_ n7_
                                (try clear hb)
                                (try clear hb2)
                                (try clear hk)
                                (try clear hi)
                                (try clear hgn_)
                                obtain ⟨Ao54, co54, eo54⟩ := Kd.N_slice HO387.out
                                (first | subst eo54 | (injection eo54 with f1_ f2_ f3_; have f4_ := f1_.symm; have f5_ := f3_.symm; clear f1_ f2_ f3_; subst f4_; subst f5_))
                                refine hK.out _ _ trivial (fun hHeld => ?_)
                                clear hK K
                                refine norm_ (a' := ?_) ?_ ?_
                                rotate_left
                                · show Act.put _ (some 59) _ = _
                                  simp only [Act.put, List.setIfInBounds_toArray, List.set_cons_zero, List.set_cons_succ, i64_w, i32_w]
                                  rfl
                                refine pure_ (i := 3) (N := some 60) (v := ?_) (a' := ?_) #[true, true, true, true, false, false, false, false, false, false, false, false, false, false, false, false, false, false, false, false, false, false, false, false, false, false, false, false, false] rfl rfl (any_of HT_.out (by kernel_rfl)) (fun _ _ _ h => h) (Or.inl ⟨by rfl, ?_⟩) ?_ ?_
                                rotate_left
                                · intro w'
                                  go_simp
                                  with_reducible rfl
                                rotate_left
                                · simp only [Act.put, List.setIfInBounds_toArray, List.set_cons_zero, List.set_cons_succ, i64_w, i32_w]
                                  rfl
                                refine pure_ (i := 4) (N := some 61) (v := ?_) (a' := ?_) #[true, true, true, true, true, false, false, false, false, false, false, false, false, false, false, false, false, false, false, false, false, false, false, false, false, false, false, false, false] rfl rfl (any_of HT_.out (by kernel_rfl)) (fun _ _ _ h => h) (Or.inl ⟨by rfl, ?_⟩) ?_ ?_
                                rotate_left
                                · intro w'
                                  go_simp
                                  with_reducible rfl
                                rotate_left
                                · simp only [Act.put, List.setIfInBounds_toArray, List.set_cons_zero, List.set_cons_succ, i64_w, i32_w]
                                  rfl
                                refine pure_ (i := 5) (N := some 62) (v := ?_) (a' := ?_) #[true, true, true, true, true, true, false, false, false, false, false, false, false, false, false, false, false, false, false, false, false, false, false, false, false, false, false, false, false] rfl rfl (any_of HT_.out (by kernel_rfl)) (fun _ _ _ h => h) (Or.inl ⟨by rfl, ?_⟩) ?_ ?_
                                rotate_left
                                · intro w'
                                  go_simp
                                  with_reducible rfl
                                rotate_left
                                · simp only [Act.put, List.setIfInBounds_toArray, List.set_cons_zero, List.set_cons_succ, i64_w, i32_w]
                                  rfl
                                refine pure_ (i := 6) (N := some 63) (v := ?_) (a' := ?_) #[true, true, true, true, true, true, true, false, false, false, false, false, false, false, false, false, false, false, false, false, false, false, false, false, false, false, false, false, false] rfl rfl (any_of HT_.out (by kernel_rfl)) (fun _ _ _ h => h) (Or.inl ⟨by rfl, ?_⟩) ?_ ?_
                                rotate_left
                                · intro w'
                                  go_simp
                                  with_reducible rfl
                                rotate_left
                                · simp only [Act.put, List.setIfInBounds_toArray, List.set_cons_zero, List.set_cons_succ, i64_w, i32_w]
                                  rfl
                                refine one_ (i := 7) (N := some 64) #[true, true, true, true, true, true, true, true, false, false, false, false, false, false, false, false, false, false, false, false, false, false, false, false, false, false, false, false, false] rfl rfl (one_of HT_.out (by kernel_rfl)) (by decide) (fun K hK => ?_)
                                refine goes_ Try.func20 (by kernel_rfl) rfl #[.slice Ao31 t374.length co31, .slice Ao54 t385.length co54] (by rfl) rfl rfl (by (try simp only [List.map_toArray, List.map_cons, List.map_nil]); first | done | rfl | (simp only [List.length_drop, List.length_take]; rfl)) ?_
                                with_reducible refine (ulog_Same.calls kj6 _ _ t374 _ _ t385 true _ ?side1 ?side2 ?side3 ?side4 A37.out).mono ?_
                                (case side1 => repeat (first | exact (Kd.N_reads' HO376.out).2.2 | (with_reducible refine Kd.C_alloc ?_ _) | (with_reducible refine Kd.C_drewN ?_ _) | (with_reducible refine Kd.C_drew ?_)))
                                (case side2 => exact (Kd.N_reads' HO376.out).2.1)
                                (case side3 => repeat (first | exact (Kd.N_reads' HO387.out).2.2 | (with_reducible refine Kd.C_alloc ?_ _) | (with_reducible refine Kd.C_drewN ?_ _) | (with_reducible refine Kd.C_drew ?_)))
                                (case side4 => exact (Kd.N_reads' HO387.out).2.1)
                                rintro e w55 ⟨rfl, hb⟩
                                refine ⟨_, rfl, ?_⟩
                                have n0_ := Aside0.mk (Kd.N_below (by (with_reducible repeat (first | apply Kd.N_alloc | apply Kd.N_drewN | apply Kd.N_drew)); exact HO365.out) hb)
                                have n1_ := Aside0.mk (Kd.N_below (by (with_reducible repeat (first | apply Kd.N_alloc | apply Kd.N_drewN | apply Kd.N_drew)); exact HO372.out) hb)
                                have n2_ := Aside0.mk (Kd.N_below (by (with_reducible repeat (first | apply Kd.N_alloc | apply Kd.N_drewN | apply Kd.N_drew)); exact HO376.out) hb)
                                have n3_ := Aside0.mk (Kd.N_below (by (with_reducible repeat (first | apply Kd.N_alloc | apply Kd.N_drewN | apply Kd.N_drew)); exact HO379.out) hb)
                                have n4_ := Aside0.mk (Kd.V_below (by (with_reducible repeat (first | apply Kd.V_alloc | apply Kd.V_drewN | apply Kd.V_drew)); exact HO384.out) hb)
                                have n5_ := Aside0.mk (Kd.N_below (by (with_reducible repeat (first | apply Kd.N_alloc | apply Kd.N_drewN | apply Kd.N_drew)); exact HO387.out) hb)
                                have n6_ := Aside0.mk (IsS43.below (by repeat (first | (with_reducible first | exact HI369.out | apply IsS43.alloc | apply IsS43.drewN | apply IsS43.drew | apply IsS43.set_1) | exact HI369.out)) hb)
                                have n7_ := Aside0.mk (below_step (by repeat (first | (with_reducible first | exact HB.out | apply below_alloc | apply pw_below_drewN | apply below_drew1 | refine below_set ?_ (IsS43.ge HI369.out)) | exact HB.out)) hb)
                                clear HO365
                                clear HO372
                                clear HO376
                                clear HO379
                                clear HO384
                                clear HO387
                                clear HI369
                                clear HB
                                have HO365 := n0_
                                have HO372 := n1_
                                have HO376 := n2_
                                have HO379 := n3_
                                have HO384 := n4_
                                have HO387 := n5_
                                have HI369 := n6_
                                have HB := n7_
                                clear n0_ n1_ n2_ n3_ n4_ n5_ n6_ n7_
                                (try clear hb)
                                (try clear hb2)
                                (try clear hk)
                                (try clear hi)
                                (try clear hgn_)
                                have q56 : ((ji45) : Int) ≤ ((t374.length : Int) : Int) := of_decide_eq_true (by first | (with_reducible assumption) | assumption)
                                obtain ⟨i056, hi056, _, hsz56, _⟩ := info_parts info39
                                have hroom56 : t374.length ≤ co31 := (Kd.N_reads' HO376.out).2.1
                                have hC56 : Kd.F k39 _ _ Ao31 t374.length t374 := (Kd.V_at (base := w.heap.size) (Kd.N_V HO376.out)).2.2
                                have hcut56 := cut_to (P := Try.prog) 24 39 .i64 Try.underlying24 hi056 Ao31 t374.length co31 (ji45) (of_decide_eq_true (by first | (with_reducible assumption) | assumption)) q56 hroom56
                                have hr56 := Kd.F_take (m := ((ji45) : Int).toNat) hC56 (by omega)
                                have hy56 : y390.length = ((ji45) : Int).toNat := (by rw [Ny390.out, List.length_take]; omega)
                                rw [← Ny390.out] at hr56
                                rw [← hy56] at hcut56
                                have HO394 := Aside0.mk (show Kd.V k39 39 _ w.heap.size _ (.slice Ao31 y390.length co31) y390 from Kd.V_mk (by omega) hr56)
                                have HC394 := Aside0.mk (show y390.length ≤ co31 from by omega)
                                clear hr56 hC56 hroom56 hi056 hsz56
                                have KY56 := Aside0.mk hy56
                                clear hy56
                                replace q56 := eq_true q56
                                have q57 : ((ji45) : Int) ≤ ((t363.length : Int) : Int) := of_decide_eq_true (by first | (with_reducible assumption) | assumption)
                                obtain ⟨i057, hi057, _, hsz57, _⟩ := info_parts info39
                                have hroom57 : t363.length ≤ co28 := (Kd.N_reads' HO365.out).2.1
                                have hC57 : Kd.F k39 _ _ Ao28 t363.length t363 := (Kd.V_at (base := w.heap.size) (Kd.N_V HO365.out)).2.2
                                have hcut57 := cut_to (P := Try.prog) 24 39 .i64 Try.underlying24 hi057 Ao28 t363.length co28 (ji45) (of_decide_eq_true (by first | (with_reducible assumption) | assumption)) q57 hroom57
                                have hr57 := Kd.F_take (m := ((ji45) : Int).toNat) hC57 (by omega)
                                have hy57 : y395.length = ((ji45) : Int).toNat := (by rw [Ny395.out, List.length_take]; omega)
                                rw [← Ny395.out] at hr57
                                rw [← hy57] at hcut57
                                have HO399 := Aside0.mk (show Kd.V k39 39 _ w.heap.size _ (.slice Ao28 y395.length co28) y395 from Kd.V_mk (by omega) hr57)
                                have HC399 := Aside0.mk (show y395.length ≤ co28 from by omega)
                                clear hr57 hC57 hroom57 hi057 hsz57
                                have KY57 := Aside0.mk hy57
                                clear hy57
                                replace q57 := eq_true q57
                                refine hK.out _ _ trivial (fun hHeld => ?_)
                                clear hK K
                                refine norm_ (a' := ?_) ?_ ?_
                                rotate_left
                                · show Act.put _ (some 64) _ = _
                                  simp only [Act.put, List.setIfInBounds_toArray, List.set_cons_zero, List.set_cons_succ, i64_w, i32_w]
                                  rfl
                                refine pure_ (i := 8) (N := some 65) (v := ?_) (a' := ?_) #[true, true, true, true, true, true, true, true, true, false, false, false, false, false, false, false, false, false, false, false, false, false, false, false, false, false, false, false, false] rfl rfl (any_of HT_.out (by kernel_rfl)) (fun _ _ _ h => h) (Or.inl ⟨by rfl, ?_⟩) ?_ ?_
                                rotate_left
                                · intro w'
                                  go_simp
                                  with_reducible rfl
                                rotate_left
                                · simp only [Act.put, List.setIfInBounds_toArray, List.set_cons_zero, List.set_cons_succ, i64_w, i32_w]
                                  rfl
                                refine pure_ (i := 9) (N := some 66) (v := ?_) (a' := ?_) #[true, true, true, true, true, true, true, true, true, true, false, false, false, false, false, false, false, false, false, false, false, false, false, false, false, false, false, false, false] rfl rfl (any_of HT_.out (by kernel_rfl)) (fun _ _ _ h => h) (Or.inl ⟨by rfl, ?_⟩) ?_ ?_
                                rotate_left
                                · intro w'
                                  go_simp
                                  with_reducible rfl
                                rotate_left
                                · simp only [Act.put, List.setIfInBounds_toArray, List.set_cons_zero, List.set_cons_succ, i64_w, i32_w]
                                  rfl
                                refine pure_ (i := 10) (N := some 67) (v := ?_) (a' := ?_) #[true, true, true, true, true, true, true, true, true, true, true, false, false, false, false, false, false, false, false, false, false, false, false, false, false, false, false, false, false] rfl rfl (any_of HT_.out (by kernel_rfl)) (fun _ _ _ h => h) (Or.inl ⟨by rfl, ?_⟩) ?_ ?_
                                rotate_left
                                · intro w'
                                  go_simp
                                  with_reducible rfl
                                rotate_left
                                · simp only [Act.put, List.setIfInBounds_toArray, List.set_cons_zero, List.set_cons_succ, i64_w, i32_w]
                                  rfl
                                refine pure_ (i := 11) (N := some 68) (v := ?_) (a' := ?_) #[true, true, true, true, true, true, true, true, true, true, true, true, false, false, false, false, false, false, false, false, false, false, false, false, false, false, false, false, false] rfl rfl (any_of HT_.out (by kernel_rfl)) (fun _ _ _ h => h) (Or.inl ⟨by rfl, ?_⟩) ?_ ?_
                                rotate_left
                                · intro w'
                                  go_simp
                                  with_reducible rfl
                                rotate_left
                                · simp only [Act.put, List.setIfInBounds_toArray, List.set_cons_zero, List.set_cons_succ, i64_w, i32_w]
                                  rfl
                                refine pure_ (i := 12) (N := some 69) (v := ?_) (a' := ?_) #[true, true, true, true, true, true, true, true, true, true, true, true, true, false, false, false, false, false, false, false, false, false, false, false, false, false, false, false, false] rfl rfl (any_of HT_.out (by kernel_rfl)) (fun _ _ _ h => h) (Or.inl ⟨by rfl, ?_⟩) ?_ ?_
                                rotate_left
                                · intro w'
                                  go_simp
                                  with_reducible rfl
                                rotate_left
                                · simp only [Act.put, List.setIfInBounds_toArray, List.set_cons_zero, List.set_cons_succ, i64_w, i32_w]
                                  rfl
                                refine pure_ (i := 13) (N := some 70) (v := ?_) (a' := ?_) #[true, true, true, true, true, true, true, true, true, true, true, true, true, true, false, false, false, false, false, false, false, false, false, false, false, false, false, false, false] rfl rfl (any_of HT_.out (by kernel_rfl)) (fun _ _ _ h => h) (Or.inl ⟨by rfl, ?_⟩) ?_ ?_
                                rotate_left
                                · intro w'
                                  go_simp
                                  with_reducible rfl
                                rotate_left
                                · simp only [Act.put, List.setIfInBounds_toArray, List.set_cons_zero, List.set_cons_succ, i64_w, i32_w]
                                  rfl
                                refine pure_ (i := 14) (N := some 71) (v := ?_) (a' := ?_) #[true, true, true, true, true, true, true, true, true, true, true, true, true, true, true, false, false, false, false, false, false, false, false, false, false, false, false, false, false] rfl rfl (any_of HT_.out (by kernel_rfl)) (fun _ _ _ h => h) (Or.inl ⟨by rfl, ?_⟩) ?_ ?_
                                rotate_left
                                · intro w'
                                  go_simp
                                  with_reducible rfl
                                rotate_left
                                · simp only [Act.put, List.setIfInBounds_toArray, List.set_cons_zero, List.set_cons_succ, i64_w, i32_w]
                                  rfl
                                refine pure_ (i := 15) (N := some 72) (v := ?_) (a' := ?_) #[true, true, true, true, true, true, true, true, true, true, true, true, true, true, true, true, false, false, false, false, false, false, false, false, false, false, false, false, false] rfl rfl (any_of HT_.out (by kernel_rfl)) (fun _ _ _ h => h) (Or.inl ⟨by rfl, ?_⟩) ?_ ?_
                                rotate_left
                                · intro w'
                                  go_simp
                                  with_reducible rfl
                                rotate_left
                                · simp only [Act.put, List.setIfInBounds_toArray, List.set_cons_zero, List.set_cons_succ, i64_w, i32_w]
                                  rfl
                                refine pure_ (i := 16) (N := some 73) (v := ?_) (a' := ?_) #[true, true, true, true, true, true, true, true, true, true, true, true, true, true, true, true, true, false, false, false, false, false, false, false, false, false, false, false, false] rfl rfl (any_of HT_.out (by kernel_rfl)) (fun _ _ _ h => h) (Or.inl ⟨by rfl, ?_⟩) ?_ ?_
                                rotate_left
                                · intro w'
                                  go_simp
                                  with_reducible rfl
                                rotate_left
                                · simp only [Act.put, List.setIfInBounds_toArray, List.set_cons_zero, List.set_cons_succ, i64_w, i32_w]
                                  rfl
                                refine pure_ (i := 17) (N := some 74) (v := ?_) (a' := ?_) #[true, true, true, true, true, true, true, true, true, true, true, true, true, true, true, true, true, true, false, false, false, false, false, false, false, false, false, false, false] rfl rfl (any_of HT_.out (by kernel_rfl)) (fun _ _ _ h => h) (Or.inl ⟨by rfl, ?_⟩) ?_ ?_
                                rotate_left
                                · intro w'
                                  go_simp
                                  with_reducible rfl
                                rotate_left
                                · simp only [Act.put, List.setIfInBounds_toArray, List.set_cons_zero, List.set_cons_succ, i64_w, i32_w]
                                  rfl
                                refine pure_ (i := 18) (N := some 75) (v := ?_) (a' := ?_) #[true, true, true, true, true, true, true, true, true, true, true, true, true, true, true, true, true, true, true, false, false, false, false, false, false, false, false, false, false] rfl rfl (any_of HT_.out (by kernel_rfl)) (fun _ _ _ h => h) (Or.inl ⟨by rfl, ?_⟩) ?_ ?_
                                rotate_left
                                · intro w'
                                  go_simp
                                  with_reducible rfl
                                rotate_left
                                · simp only [Act.put, List.setIfInBounds_toArray, List.set_cons_zero, List.set_cons_succ, i64_w, i32_w]
                                  rfl
                                refine pure_ (i := 19) (N := some 76) (v := ?_) (a' := ?_) #[true, true, true, true, true, true, true, true, true, true, true, true, true, true, true, true, true, true, true, true, false, false, false, false, false, false, false, false, false] rfl rfl (any_of HT_.out (by kernel_rfl)) (fun _ _ _ h => h) (Or.inl ⟨by rfl, ?_⟩) ?_ ?_
                                rotate_left
                                · intro w'
                                  go_simp
                                  with_reducible rfl
                                rotate_left
                                · simp only [Act.put, List.setIfInBounds_toArray, List.set_cons_zero, List.set_cons_succ, i64_w, i32_w]
                                  rfl
                                refine pure_ (i := 20) (N := some 77) (v := ?_) (a' := ?_) #[true, true, true, true, true, true, true, true, true, true, true, true, true, true, true, true, true, true, true, true, true, false, false, false, false, false, false, false, false] rfl rfl (any_of HT_.out (by kernel_rfl)) (fun _ _ _ h => h) (Or.inl ⟨by rfl, ?_⟩) ?_ ?_
                                rotate_left
                                · intro w'
                                  go_simp
                                  with_reducible rfl
                                rotate_left
                                · simp only [Act.put, List.setIfInBounds_toArray, List.set_cons_zero, List.set_cons_succ, i64_w, i32_w]
                                  rfl
                                refine pure_ (i := 21) (N := some 78) (v := ?_) (a' := ?_) #[true, true, true, true, true, true, true, true, true, true, true, true, true, true, true, true, true, true, true, true, true, true, false, false, false, false, false, false, false] rfl rfl (any_of HT_.out (by kernel_rfl)) (fun _ _ _ h => h) (Or.inl ⟨by rfl, ?_⟩) ?_ ?_
                                rotate_left
                                · intro w'
                                  go_simp
                                  with_reducible rfl
                                rotate_left
                                · simp only [Act.put, List.setIfInBounds_toArray, List.set_cons_zero, List.set_cons_succ, i64_w, i32_w]
                                  rfl
                                refine pure_ (i := 22) (N := some 79) (v := ?_) (a' := ?_) #[true, true, true, true, true, true, true, true, true, true, true, true, true, true, true, true, true, true, true, true, true, true, true, false, false, false, false, false, false] rfl rfl (any_of HT_.out (by kernel_rfl)) (fun _ _ _ h => h) (Or.inl ⟨by rfl, ?_⟩) ?_ ?_
                                rotate_left
                                · intro w'
                                  go_simp
                                  with_reducible rfl
                                rotate_left
                                · simp only [Act.put, List.setIfInBounds_toArray, List.set_cons_zero, List.set_cons_succ, i64_w, i32_w]
                                  rfl
                                refine pure_ (i := 23) (N := some 80) (v := ?_) (a' := ?_) #[true, true, true, true, true, true, true, true, true, true, true, true, true, true, true, true, true, true, true, true, true, true, true, true, false, false, false, false, false] rfl rfl (any_of HT_.out (by kernel_rfl)) (fun _ _ _ h => h) (Or.inl ⟨by rfl, ?_⟩) ?_ ?_
                                rotate_left
                                · intro w'
                                  go_simp
                                  with_reducible rfl
                                rotate_left
                                · simp only [Act.put, List.setIfInBounds_toArray, List.set_cons_zero, List.set_cons_succ, i64_w, i32_w]
                                  rfl
                                refine pure_ (i := 24) (N := some 81) (v := ?_) (a' := ?_) #[true, true, true, true, true, true, true, true, true, true, true, true, true, true, true, true, true, true, true, true, true, true, true, true, true, false, false, false, false] rfl rfl (any_of HT_.out (by kernel_rfl)) (fun _ _ _ h => h) (Or.inl ⟨by rfl, ?_⟩) ?_ ?_
                                rotate_left
                                · intro w'
                                  go_simp
                                  with_reducible rfl
                                rotate_left
                                · simp only [Act.put, List.setIfInBounds_toArray, List.set_cons_zero, List.set_cons_succ, i64_w, i32_w]
                                  rfl
                                refine pure_ (i := 25) (N := some 82) (v := ?_) (a' := ?_) #[true, true, true, true, true, true, true, true, true, true, true, true, true, true, true, true, true, true, true, true, true, true, true, true, true, true, false, false, false] rfl rfl (any_of HT_.out (by kernel_rfl)) (fun _ _ _ h => h) (Or.inl ⟨by rfl, ?_⟩) ?_ ?_
                                rotate_left
                                · intro w'
                                  go_simp
                                  with_reducible rfl
                                rotate_left
                                · simp only [Act.put, List.setIfInBounds_toArray, List.set_cons_zero, List.set_cons_succ, i64_w, i32_w]
                                  rfl
                                refine one_ (i := 26) (N := some 83) #[true, true, true, true, true, true, true, true, true, true, true, true, true, true, true, true, true, true, true, true, true, true, true, true, true, true, true, false, false] rfl rfl (one_of HT_.out (by kernel_rfl)) (by decide) (fun K hK => ?_)
                                refine goes_ Try.func15 (by kernel_rfl) rfl #[.slice Ao31 y390.length co31, .slice Ao28 y395.length co28] (by rfl) rfl rfl (by (try simp only [List.map_toArray, List.map_cons, List.map_nil]); first | done | rfl | (simp only [List.length_drop, List.length_take]; rfl)) ?_
                                with_reducible refine (diwanref1_SameEntries.calls kj6 _ _ y390 _ _ y395 t400 _ ?side1 ?side2 ?side3 ?side4 A50.out).mono ?_
                                (case side1 => repeat (first | exact (Kd.V_reads' HO394.out).2.2 | (with_reducible refine Kd.C_alloc ?_ _) | (with_reducible refine Kd.C_drewN ?_ _) | (with_reducible refine Kd.C_drew ?_)))
                                (case side2 => exact (Kd.V_reads' HO394.out).2.1)
                                (case side3 => repeat (first | exact (Kd.V_reads' HO399.out).2.2 | (with_reducible refine Kd.C_alloc ?_ _) | (with_reducible refine Kd.C_drewN ?_ _) | (with_reducible refine Kd.C_drew ?_)))
                                (case side4 => exact (Kd.V_reads' HO399.out).2.1)
                                rintro e w58 ⟨rfl, hb⟩
                                refine ⟨_, rfl, ?_⟩
                                have n0_ := Aside0.mk (Kd.N_below (by (with_reducible repeat (first | apply Kd.N_alloc | apply Kd.N_drewN | apply Kd.N_drew)); exact HO365.out) hb)
                                have n1_ := Aside0.mk (Kd.N_below (by (with_reducible repeat (first | apply Kd.N_alloc | apply Kd.N_drewN | apply Kd.N_drew)); exact HO372.out) hb)
                                have n2_ := Aside0.mk (Kd.N_below (by (with_reducible repeat (first | apply Kd.N_alloc | apply Kd.N_drewN | apply Kd.N_drew)); exact HO376.out) hb)
                                have n3_ := Aside0.mk (Kd.N_below (by (with_reducible repeat (first | apply Kd.N_alloc | apply Kd.N_drewN | apply Kd.N_drew)); exact HO379.out) hb)
                                have n4_ := Aside0.mk (Kd.V_below (by (with_reducible repeat (first | apply Kd.V_alloc | apply Kd.V_drewN | apply Kd.V_drew)); exact HO384.out) hb)
                                have n5_ := Aside0.mk (Kd.N_below (by (with_reducible repeat (first | apply Kd.N_alloc | apply Kd.N_drewN | apply Kd.N_drew)); exact HO387.out) hb)
                                have n6_ := Aside0.mk (Kd.V_below (by (with_reducible repeat (first | apply Kd.V_alloc | apply Kd.V_drewN | apply Kd.V_drew)); exact HO394.out) hb)
                                have n7_ := Aside0.mk (Kd.V_below (by (with_reducible repeat (first | apply Kd.V_alloc | apply Kd.V_drewN | apply Kd.V_drew)); exact HO399.out) hb)
                                have n8_ := Aside0.mk (IsS43.below (by repeat (first | (with_reducible first | exact HI369.out | apply IsS43.alloc | apply IsS43.drewN | apply IsS43.drew | apply IsS43.set_1) | exact HI369.out)) hb)
                                have n9_ := Aside0.mk (below_step (by repeat (first | (with_reducible first | exact HB.out | apply below_alloc | apply pw_below_drewN | apply below_drew1 | refine below_set ?_ (IsS43.ge HI369.out)) | exact HB.out)) hb)
                                clear HO365
                                clear HO372
                                clear HO376
                                clear HO379
                                clear HO384
                                clear HO387
                                clear HO394
                                clear HO399
                                clear HI369
                                clear HB
                                have HO365 := n0_
                                have HO372 := n1_
                                have HO376 := n2_
                                have HO379 := n3_
                                have HO384 := n4_
                                have HO387 := n5_
                                have HO394 := n6_
                                have HO399 := n7_
                                have HI369 := n8_
                                have HB := n9_
                                clear n0_ n1_ n2_ n3_ n4_ n5_ n6_ n7_ n8_ n9_
                                (try clear hb)
                                (try clear hb2)
                                (try clear hk)
                                (try clear hi)
                                (try clear hgn_)
                                refine hK.out _ _ trivial (fun hHeld => ?_)
                                clear hK K
                                refine norm_ (a' := ?_) ?_ ?_
                                rotate_left
                                · show Act.put _ (some 83) _ = _
                                  simp only [Act.put, List.setIfInBounds_toArray, List.set_cons_zero, List.set_cons_succ, i64_w, i32_w]
                                  rfl
                                refine pure_ (i := 27) (N := some 84) (v := ?_) (a' := ?_) #[true, true, true, true, true, true, true, true, true, true, true, true, true, true, true, true, true, true, true, true, true, true, true, true, true, true, true, true, false] rfl rfl (any_of HT_.out (by kernel_rfl)) (fun _ _ _ h => h) (Or.inl ⟨by rfl, ?_⟩) ?_ ?_
                                rotate_left
                                · intro w'
                                  go_simp
                                  with_reducible rfl
                                rotate_left
                                · simp only [Act.put, List.setIfInBounds_toArray, List.set_cons_zero, List.set_cons_succ, i64_w, i32_w]
                                  rfl
                                refine pure_ (i := 28) (N := some 85) (v := ?_) (a' := ?_) #[true, true, true, true, true, true, true, true, true, true, true, true, true, true, true, true, true, true, true, true, true, true, true, true, true, true, true, true, true] rfl rfl (any_of HT_.out (by kernel_rfl)) (fun _ _ _ h => h) (Or.inl ⟨by rfl, ?_⟩) ?_ ?_
                                rotate_left
                                · intro w'
                                  go_simp
                                  with_reducible rfl
                                rotate_left
                                · simp only [Act.put, List.setIfInBounds_toArray, List.set_cons_zero, List.set_cons_succ, i64_w, i32_w]
                                  rfl
                                refine done_ (done_of HT_.out (by kernel_rfl)) ?_
                                try go_wp2
                                go_meet
                                case rel => exact ⟨_, (!t400), (by first | rfl | (simp; done) | (simp [*]; done)), (by first | exact H' | (rw [hji45]; exact H') | (simp only [hji45]; exact H')), ⟨by have := HJ6.out; first | omega | exact Nat.le_refl _⟩, ⟨by (with_reducible repeat (first | apply Kd.N_alloc | apply Kd.N_drewN | apply Kd.N_drew)); exact Kd.N_mono HO365.out (fun _ hk => ⟨hk.1.1.1.2, hk.1.1.2⟩)⟩, ⟨by (with_reducible repeat (first | apply Kd.N_alloc | apply Kd.N_drewN | apply Kd.N_drew)); exact Kd.N_mono HO372.out (fun _ hk => ⟨hk.1.1.1.1, hk.1.1.2⟩)⟩, ⟨by (with_reducible repeat (first | apply Kd.N_alloc | apply Kd.N_drewN | apply Kd.N_drew)); exact Kd.N_mono HO376.out (fun _ hk => trivial)⟩, ⟨by repeat (first | (with_reducible first | exact HB.out | apply below_alloc | apply pw_below_drewN | apply below_drew1 | refine below_set ?_ (IsS43.ge HI369.out)) | exact HB.out)⟩⟩
                              · rw [if_neg c49] at H
                                exact absurd H (by simp)
                            · rw [if_neg c47] at H
                              exact absurd H (by simp)
                          · rw [if_neg c46] at H
                            exact absurd H (by simp)
                      · replace c38 := Bool.eq_false_iff.mpr c38
                        subst c38
                        have H1 : (diwanlaw9_UlogJoin.j1 kj6 t363 t370 (Int.tmod (wrap64 (a2)) (wrap64 ((t363.length : Int) + 1))) t374 true) = some r := by rw [if_neg (show ¬ (false = true) by decide)] at H; exact H
                        clear H
                        have H := H1
                        clear H1
                        have H' := Aside0.mk H
                        clear H
                        try go_wp2
                        have n0_ := Aside0.mk (Kd.N_drew HO365.out)
                        have n1_ := Aside0.mk (Kd.N_drew HO372.out)
                        have n2_ := Aside0.mk (Kd.N_drew HO376.out)
                        have n3_ := Aside0.mk (Kd.N_drew HO379.out)
                        have n4_ := Aside0.mk (Kd.V_drew HO384.out)
                        have n5_ := Aside0.mk (Kd.N_drew HO387.out)
                        have n6_ := Aside0.mk (IsS43.drew HI369.out)
                        have n7_ := Aside0.mk (below_drew1 HB.out)
                        clear HO365
                        clear HO372
                        clear HO376
                        clear HO379
                        clear HO384
                        clear HO387
                        clear HI369
                        clear HB
                        have HO365 := n0_
                        have HO372 := n1_
                        have HO376 := n2_
                        have HO379 := n3_
                        have HO384 := n4_
                        have HO387 := n5_
                        have HI369 := n6_
                        have HB := n7_
                        clear n0_ n1_ n2_ n3_ n4_ n5_ n6_ n7_
                        obtain ⟨Ao60, co60, eo60⟩ := Kd.N_slice HO379.out
                        (first | subst eo60 | (injection eo60 with f1_ f2_ f3_; have f4_ := f1_.symm; have f5_ := f3_.symm; clear f1_ f2_ f3_; subst f4_; subst f5_))
                        refine start_ (n := 29) (S := fun w' => True) (ds := []) #[false, false, false, false, false, false, false, false, false, false, false, false, false, false, false, false, false, false, false, false, false, false, false, false, false, false, false, false, false] (by kernel_rfl) rfl rfl trivial (fun hHeld => ?_); refine with_tabW diwanlaw9_UlogJoin.tab10 diwanlaw9_UlogJoin.bits10 (fun HT_ HW_ => ?_)
                        generalize w34.drew = w59 at HO365 HO372 HO376 HO379 HO384 HO387 HI369 HB hHeld ⊢
                        refine pure_ (i := 0) (N := some 57) (v := ?_) (a' := ?_) #[true, false, false, false, false, false, false, false, false, false, false, false, false, false, false, false, false, false, false, false, false, false, false, false, false, false, false, false, false] rfl rfl (any_of HT_.out (by kernel_rfl)) (fun _ _ _ h => h) (Or.inl ⟨by rfl, ?_⟩) ?_ ?_
                        rotate_left
                        · intro w'
                          go_simp
                          with_reducible rfl
                        rotate_left
                        · simp only [Act.put, List.setIfInBounds_toArray, List.set_cons_zero, List.set_cons_succ, i64_w, i32_w]
                          rfl
                        refine pure_ (i := 1) (N := some 58) (v := ?_) (a' := ?_) #[true, true, false, false, false, false, false, false, false, false, false, false, false, false, false, false, false, false, false, false, false, false, false, false, false, false, false, false, false] rfl rfl (any_of HT_.out (by kernel_rfl)) (fun _ _ _ h => h) (Or.inl ⟨by rfl, ?_⟩) ?_ ?_
                        rotate_left
                        · intro w'
                          go_simp
                          with_reducible rfl
                        rotate_left
                        · simp only [Act.put, List.setIfInBounds_toArray, List.set_cons_zero, List.set_cons_succ, i64_w, i32_w]
                          rfl
                        refine one_ (i := 2) (N := some 59) #[true, true, true, false, false, false, false, false, false, false, false, false, false, false, false, false, false, false, false, false, false, false, false, false, false, false, false, false, false] rfl rfl (one_of HT_.out (by kernel_rfl)) (by decide) (fun K hK => ?_)
                        refine goes_ Try.func20 (by kernel_rfl) rfl #[.slice Ao31 t374.length co31, .slice Ao60 t377.length co60] (by rfl) rfl rfl (by (try simp only [List.map_toArray, List.map_cons, List.map_nil]); first | done | rfl | (simp only [List.length_drop, List.length_take]; rfl)) ?_
                        with_reducible refine (ulog_Same.calls kj6 _ _ t374 _ _ t377 true _ ?side1 ?side2 ?side3 ?side4 A35.out).mono ?_
                        (case side1 => repeat (first | exact (Kd.N_reads' HO376.out).2.2 | (with_reducible refine Kd.C_alloc ?_ _) | (with_reducible refine Kd.C_drewN ?_ _) | (with_reducible refine Kd.C_drew ?_)))
                        (case side2 => exact (Kd.N_reads' HO376.out).2.1)
                        (case side3 => repeat (first | exact (Kd.N_reads' HO379.out).2.2 | (with_reducible refine Kd.C_alloc ?_ _) | (with_reducible refine Kd.C_drewN ?_ _) | (with_reducible refine Kd.C_drew ?_)))
                        (case side4 => exact (Kd.N_reads' HO379.out).2.1)
                        rintro e w61 ⟨rfl, hb⟩
                        refine ⟨_, rfl, ?_⟩
                        have n0_ := Aside0.mk (Kd.N_below (by (with_reducible repeat (first | apply Kd.N_alloc | apply Kd.N_drewN | apply Kd.N_drew)); exact HO365.out) hb)
                        have n1_ := Aside0.mk (Kd.N_below (by (with_reducible repeat (first | apply Kd.N_alloc | apply Kd.N_drewN | apply Kd.N_drew)); exact HO372.out) hb)
                        have n2_ := Aside0.mk (Kd.N_below (by (with_reducible repeat (first | apply Kd.N_alloc | apply Kd.N_drewN | apply Kd.N_drew)); exact HO376.out) hb)
                        have n3_ := Aside0.mk (Kd.N_below (by (with_reducible repeat (first | apply Kd.N_alloc | apply Kd.N_drewN | apply Kd.N_drew)); exact HO379.out) hb)
                        have n4_ := Aside0.mk (Kd.V_below (by (with_reducible repeat (first | apply Kd.V_alloc | apply Kd.V_drewN | apply Kd.V_drew)); exact HO384.out) hb)
                        have n5_ := Aside0.mk (Kd.N_below (by (with_reducible repeat (first | apply Kd.N_alloc | apply Kd.N_drewN | apply Kd.N_drew)); exact HO387.out) hb)
                        have n6_ := Aside0.mk (IsS43.below (by repeat (first | (with_reducible first | exact HI369.out | apply IsS43.alloc | apply IsS43.drewN | apply IsS43.drew | apply IsS43.set_1) | exact HI369.out)) hb)
                        have n7_ := Aside0.mk (below_step (by repeat (first | (with_reducible first | exact HB.out | apply below_alloc | apply pw_below_drewN | apply below_drew1 | refine below_set ?_ (IsS43.ge HI369.out)) | exact HB.out)) hb)
                        clear HO365
                        clear HO372
                        clear HO376
                        clear HO379
                        clear HO384
                        clear HO387
                        clear HI369
                        clear HB
                        have HO365 := n0_
                        have HO372 := n1_
                        have HO376 := n2_
                        have HO379 := n3_
                        have HO384 := n4_
                        have HO387 := n5_
                        have HI369 := n6_
                        have HB := n7_
                        clear n0_ n1_ n2_ n3_ n4_ n5_ n6_ n7_
                        (try clear hb)
                        (try clear hb2)
                        (try clear hk)
                        (try clear hi)
                        (try clear hgn_)
                        obtain ⟨Ao62, co62, eo62⟩ := Kd.N_slice HO387.out
                        (first | subst eo62 | (injection eo62 with f1_ f2_ f3_; have f4_ := f1_.symm; have f5_ := f3_.symm; clear f1_ f2_ f3_; subst f4_; subst f5_))
                        refine hK.out _ _ trivial (fun hHeld => ?_)
                        clear hK K
                        refine norm_ (a' := ?_) ?_ ?_
                        rotate_left
                        · show Act.put _ (some 59) _ = _
                          simp only [Act.put, List.setIfInBounds_toArray, List.set_cons_zero, List.set_cons_succ, i64_w, i32_w]
                          rfl
                        refine pure_ (i := 3) (N := some 60) (v := ?_) (a' := ?_) #[true, true, true, true, false, false, false, false, false, false, false, false, false, false, false, false, false, false, false, false, false, false, false, false, false, false, false, false, false] rfl rfl (any_of HT_.out (by kernel_rfl)) (fun _ _ _ h => h) (Or.inl ⟨by rfl, ?_⟩) ?_ ?_
                        rotate_left
                        · intro w'
                          go_simp
                          with_reducible rfl
                        rotate_left
                        · simp only [Act.put, List.setIfInBounds_toArray, List.set_cons_zero, List.set_cons_succ, i64_w, i32_w]
                          rfl
                        refine pure_ (i := 4) (N := some 61) (v := ?_) (a' := ?_) #[true, true, true, true, true, false, false, false, false, false, false, false, false, false, false, false, false, false, false, false, false, false, false, false, false, false, false, false, false] rfl rfl (any_of HT_.out (by kernel_rfl)) (fun _ _ _ h => h) (Or.inl ⟨by rfl, ?_⟩) ?_ ?_
                        rotate_left
                        · intro w'
                          go_simp
                          with_reducible rfl
                        rotate_left
                        · simp only [Act.put, List.setIfInBounds_toArray, List.set_cons_zero, List.set_cons_succ, i64_w, i32_w]
                          rfl
                        refine pure_ (i := 5) (N := some 62) (v := ?_) (a' := ?_) #[true, true, true, true, true, true, false, false, false, false, false, false, false, false, false, false, false, false, false, false, false, false, false, false, false, false, false, false, false] rfl rfl (any_of HT_.out (by kernel_rfl)) (fun _ _ _ h => h) (Or.inl ⟨by rfl, ?_⟩) ?_ ?_
                        rotate_left
                        · intro w'
                          go_simp
                          with_reducible rfl
                        rotate_left
                        · simp only [Act.put, List.setIfInBounds_toArray, List.set_cons_zero, List.set_cons_succ, i64_w, i32_w]
                          rfl
                        refine pure_ (i := 6) (N := some 63) (v := ?_) (a' := ?_) #[true, true, true, true, true, true, true, false, false, false, false, false, false, false, false, false, false, false, false, false, false, false, false, false, false, false, false, false, false] rfl rfl (any_of HT_.out (by kernel_rfl)) (fun _ _ _ h => h) (Or.inl ⟨by rfl, ?_⟩) ?_ ?_
                        rotate_left
                        · intro w'
                          go_simp
                          with_reducible rfl
                        rotate_left
                        · simp only [Act.put, List.setIfInBounds_toArray, List.set_cons_zero, List.set_cons_succ, i64_w, i32_w]
                          rfl
                        refine one_ (i := 7) (N := some 64) #[true, true, true, true, true, true, true, true, false, false, false, false, false, false, false, false, false, false, false, false, false, false, false, false, false, false, false, false, false] rfl rfl (one_of HT_.out (by kernel_rfl)) (by decide) (fun K hK => ?_)
                        refine goes_ Try.func20 (by kernel_rfl) rfl #[.slice Ao31 t374.length co31, .slice Ao62 t385.length co62] (by rfl) rfl rfl (by (try simp only [List.map_toArray, List.map_cons, List.map_nil]); first | done | rfl | (simp only [List.length_drop, List.length_take]; rfl)) ?_
                        with_reducible refine (ulog_Same.calls kj6 _ _ t374 _ _ t385 false _ ?side1 ?side2 ?side3 ?side4 A37.out).mono ?_
                        (case side1 => repeat (first | exact (Kd.N_reads' HO376.out).2.2 | (with_reducible refine Kd.C_alloc ?_ _) | (with_reducible refine Kd.C_drewN ?_ _) | (with_reducible refine Kd.C_drew ?_)))
                        (case side2 => exact (Kd.N_reads' HO376.out).2.1)
                        (case side3 => repeat (first | exact (Kd.N_reads' HO387.out).2.2 | (with_reducible refine Kd.C_alloc ?_ _) | (with_reducible refine Kd.C_drewN ?_ _) | (with_reducible refine Kd.C_drew ?_)))
                        (case side4 => exact (Kd.N_reads' HO387.out).2.1)
                        rintro e w63 ⟨rfl, hb⟩
                        refine ⟨_, rfl, ?_⟩
                        have n0_ := Aside0.mk (Kd.N_below (by (with_reducible repeat (first | apply Kd.N_alloc | apply Kd.N_drewN | apply Kd.N_drew)); exact HO365.out) hb)
                        have n1_ := Aside0.mk (Kd.N_below (by (with_reducible repeat (first | apply Kd.N_alloc | apply Kd.N_drewN | apply Kd.N_drew)); exact HO372.out) hb)
                        have n2_ := Aside0.mk (Kd.N_below (by (with_reducible repeat (first | apply Kd.N_alloc | apply Kd.N_drewN | apply Kd.N_drew)); exact HO376.out) hb)
                        have n3_ := Aside0.mk (Kd.N_below (by (with_reducible repeat (first | apply Kd.N_alloc | apply Kd.N_drewN | apply Kd.N_drew)); exact HO379.out) hb)
                        have n4_ := Aside0.mk (Kd.V_below (by (with_reducible repeat (first | apply Kd.V_alloc | apply Kd.V_drewN | apply Kd.V_drew)); exact HO384.out) hb)
                        have n5_ := Aside0.mk (Kd.N_below (by (with_reducible repeat (first | apply Kd.N_alloc | apply Kd.N_drewN | apply Kd.N_drew)); exact HO387.out) hb)
                        have n6_ := Aside0.mk (IsS43.below (by repeat (first | (with_reducible first | exact HI369.out | apply IsS43.alloc | apply IsS43.drewN | apply IsS43.drew | apply IsS43.set_1) | exact HI369.out)) hb)
                        have n7_ := Aside0.mk (below_step (by repeat (first | (with_reducible first | exact HB.out | apply below_alloc | apply pw_below_drewN | apply below_drew1 | refine below_set ?_ (IsS43.ge HI369.out)) | exact HB.out)) hb)
                        clear HO365
                        clear HO372
                        clear HO376
                        clear HO379
                        clear HO384
                        clear HO387
                        clear HI369
                        clear HB
                        have HO365 := n0_
                        have HO372 := n1_
                        have HO376 := n2_
                        have HO379 := n3_
                        have HO384 := n4_
                        have HO387 := n5_
                        have HI369 := n6_
                        have HB := n7_
                        clear n0_ n1_ n2_ n3_ n4_ n5_ n6_ n7_
                        (try clear hb)
                        (try clear hb2)
                        (try clear hk)
                        (try clear hi)
                        (try clear hgn_)
                        refine hK.out _ _ trivial (fun hHeld => ?_)
                        clear hK K
                        refine norm_ (a' := ?_) ?_ ?_
                        rotate_left
                        · show Act.put _ (some 64) _ = _
                          simp only [Act.put, List.setIfInBounds_toArray, List.set_cons_zero, List.set_cons_succ, i64_w, i32_w]
                          rfl
                        refine pure_ (i := 8) (N := some 65) (v := ?_) (a' := ?_) #[true, true, true, true, true, true, true, true, true, false, false, false, false, false, false, false, false, false, false, false, false, false, false, false, false, false, false, false, false] rfl rfl (any_of HT_.out (by kernel_rfl)) (fun _ _ _ h => h) (Or.inl ⟨by rfl, ?_⟩) ?_ ?_
                        rotate_left
                        · intro w'
                          go_simp
                          with_reducible rfl
                        rotate_left
                        · simp only [Act.put, List.setIfInBounds_toArray, List.set_cons_zero, List.set_cons_succ, i64_w, i32_w]
                          rfl
                        refine pure_ (i := 9) (N := some 66) (v := ?_) (a' := ?_) #[true, true, true, true, true, true, true, true, true, true, false, false, false, false, false, false, false, false, false, false, false, false, false, false, false, false, false, false, false] rfl rfl (any_of HT_.out (by kernel_rfl)) (fun _ _ _ h => h) (Or.inl ⟨by rfl, ?_⟩) ?_ ?_
                        rotate_left
                        · intro w'
                          go_simp
                          with_reducible rfl
                        rotate_left
                        · simp only [Act.put, List.setIfInBounds_toArray, List.set_cons_zero, List.set_cons_succ, i64_w, i32_w]
                          rfl
                        refine pure_ (i := 10) (N := some 67) (v := ?_) (a' := ?_) #[true, true, true, true, true, true, true, true, true, true, true, false, false, false, false, false, false, false, false, false, false, false, false, false, false, false, false, false, false] rfl rfl (any_of HT_.out (by kernel_rfl)) (fun _ _ _ h => h) (Or.inl ⟨by rfl, ?_⟩) ?_ ?_
                        rotate_left
                        · intro w'
                          go_simp
                          with_reducible rfl
                        rotate_left
                        · simp only [Act.put, List.setIfInBounds_toArray, List.set_cons_zero, List.set_cons_succ, i64_w, i32_w]
                          rfl
                        refine pure_ (i := 11) (N := some 68) (v := undef) (a' := ?_) #[true, true, true, true, true, true, true, true, true, true, true, true, false, false, false, false, false, false, false, false, false, false, false, false, false, false, false, false, false] rfl rfl (any_of HT_.out (by kernel_rfl)) (fun _ _ _ h => h) (Or.inr ⟨by rfl, rfl⟩) ?_ ?_
                        rotate_left
                        · simp only [Act.put, List.setIfInBounds_toArray, List.set_cons_zero, List.set_cons_succ, i64_w, i32_w]
                          rfl
                        refine pure_ (i := 12) (N := some 69) (v := undef) (a' := ?_) #[true, true, true, true, true, true, true, true, true, true, true, true, true, false, false, false, false, false, false, false, false, false, false, false, false, false, false, false, false] rfl rfl (any_of HT_.out (by kernel_rfl)) (fun _ _ _ h => h) (Or.inr ⟨by rfl, rfl⟩) ?_ ?_
                        rotate_left
                        · simp only [Act.put, List.setIfInBounds_toArray, List.set_cons_zero, List.set_cons_succ, i64_w, i32_w]
                          rfl
                        refine pure_ (i := 13) (N := some 70) (v := undef) (a' := ?_) #[true, true, true, true, true, true, true, true, true, true, true, true, true, true, false, false, false, false, false, false, false, false, false, false, false, false, false, false, false] rfl rfl (any_of HT_.out (by kernel_rfl)) (fun _ _ _ h => h) (Or.inr ⟨by rfl, rfl⟩) ?_ ?_
                        rotate_left
                        · simp only [Act.put, List.setIfInBounds_toArray, List.set_cons_zero, List.set_cons_succ, i64_w, i32_w]
                          rfl
                        refine pure_ (i := 14) (N := some 71) (v := undef) (a' := ?_) #[true, true, true, true, true, true, true, true, true, true, true, true, true, true, true, false, false, false, false, false, false, false, false, false, false, false, false, false, false] rfl rfl (any_of HT_.out (by kernel_rfl)) (fun _ _ _ h => h) (Or.inr ⟨by rfl, rfl⟩) ?_ ?_
                        rotate_left
                        · simp only [Act.put, List.setIfInBounds_toArray, List.set_cons_zero, List.set_cons_succ, i64_w, i32_w]
                          rfl
                        refine pure_ (i := 15) (N := some 72) (v := undef) (a' := ?_) #[true, true, true, true, true, true, true, true, true, true, true, true, true, true, true, true, false, false, false, false, false, false, false, false, false, false, false, false, false] rfl rfl (any_of HT_.out (by kernel_rfl)) (fun _ _ _ h => h) (Or.inr ⟨by rfl, rfl⟩) ?_ ?_
                        rotate_left
                        · simp only [Act.put, List.setIfInBounds_toArray, List.set_cons_zero, List.set_cons_succ, i64_w, i32_w]
                          rfl
                        refine pure_ (i := 16) (N := some 73) (v := undef) (a' := ?_) #[true, true, true, true, true, true, true, true, true, true, true, true, true, true, true, true, true, false, false, false, false, false, false, false, false, false, false, false, false] rfl rfl (any_of HT_.out (by kernel_rfl)) (fun _ _ _ h => h) (Or.inr ⟨by rfl, rfl⟩) ?_ ?_
                        rotate_left
                        · simp only [Act.put, List.setIfInBounds_toArray, List.set_cons_zero, List.set_cons_succ, i64_w, i32_w]
                          rfl
                        refine pure_ (i := 17) (N := some 74) (v := undef) (a' := ?_) #[true, true, true, true, true, true, true, true, true, true, true, true, true, true, true, true, true, true, false, false, false, false, false, false, false, false, false, false, false] rfl rfl (any_of HT_.out (by kernel_rfl)) (fun _ _ _ h => h) (Or.inr ⟨by rfl, rfl⟩) ?_ ?_
                        rotate_left
                        · simp only [Act.put, List.setIfInBounds_toArray, List.set_cons_zero, List.set_cons_succ, i64_w, i32_w]
                          rfl
                        refine pure_ (i := 18) (N := some 75) (v := ?_) (a' := ?_) #[true, true, true, true, true, true, true, true, true, true, true, true, true, true, true, true, true, true, true, false, false, false, false, false, false, false, false, false, false] rfl rfl (any_of HT_.out (by kernel_rfl)) (fun _ _ _ h => h) (Or.inl ⟨by rfl, ?_⟩) ?_ ?_
                        rotate_left
                        · intro w'
                          go_simp
                          with_reducible rfl
                        rotate_left
                        · simp only [Act.put, List.setIfInBounds_toArray, List.set_cons_zero, List.set_cons_succ, i64_w, i32_w]
                          rfl
                        refine pure_ (i := 19) (N := some 76) (v := ?_) (a' := ?_) #[true, true, true, true, true, true, true, true, true, true, true, true, true, true, true, true, true, true, true, true, false, false, false, false, false, false, false, false, false] rfl rfl (any_of HT_.out (by kernel_rfl)) (fun _ _ _ h => h) (Or.inl ⟨by rfl, ?_⟩) ?_ ?_
                        rotate_left
                        · intro w'
                          go_simp
                          with_reducible rfl
                        rotate_left
                        · simp only [Act.put, List.setIfInBounds_toArray, List.set_cons_zero, List.set_cons_succ, i64_w, i32_w]
                          rfl
                        refine pure_ (i := 20) (N := some 77) (v := undef) (a' := ?_) #[true, true, true, true, true, true, true, true, true, true, true, true, true, true, true, true, true, true, true, true, true, false, false, false, false, false, false, false, false] rfl rfl (any_of HT_.out (by kernel_rfl)) (fun _ _ _ h => h) (Or.inr ⟨by rfl, rfl⟩) ?_ ?_
                        rotate_left
                        · simp only [Act.put, List.setIfInBounds_toArray, List.set_cons_zero, List.set_cons_succ, i64_w, i32_w]
                          rfl
                        refine pure_ (i := 21) (N := some 78) (v := undef) (a' := ?_) #[true, true, true, true, true, true, true, true, true, true, true, true, true, true, true, true, true, true, true, true, true, true, false, false, false, false, false, false, false] rfl rfl (any_of HT_.out (by kernel_rfl)) (fun _ _ _ h => h) (Or.inr ⟨by rfl, rfl⟩) ?_ ?_
                        rotate_left
                        · simp only [Act.put, List.setIfInBounds_toArray, List.set_cons_zero, List.set_cons_succ, i64_w, i32_w]
                          rfl
                        refine pure_ (i := 22) (N := some 79) (v := undef) (a' := ?_) #[true, true, true, true, true, true, true, true, true, true, true, true, true, true, true, true, true, true, true, true, true, true, true, false, false, false, false, false, false] rfl rfl (any_of HT_.out (by kernel_rfl)) (fun _ _ _ h => h) (Or.inr ⟨by rfl, rfl⟩) ?_ ?_
                        rotate_left
                        · simp only [Act.put, List.setIfInBounds_toArray, List.set_cons_zero, List.set_cons_succ, i64_w, i32_w]
                          rfl
                        refine pure_ (i := 23) (N := some 80) (v := undef) (a' := ?_) #[true, true, true, true, true, true, true, true, true, true, true, true, true, true, true, true, true, true, true, true, true, true, true, true, false, false, false, false, false] rfl rfl (any_of HT_.out (by kernel_rfl)) (fun _ _ _ h => h) (Or.inr ⟨by rfl, rfl⟩) ?_ ?_
                        rotate_left
                        · simp only [Act.put, List.setIfInBounds_toArray, List.set_cons_zero, List.set_cons_succ, i64_w, i32_w]
                          rfl
                        refine pure_ (i := 24) (N := some 81) (v := undef) (a' := ?_) #[true, true, true, true, true, true, true, true, true, true, true, true, true, true, true, true, true, true, true, true, true, true, true, true, true, false, false, false, false] rfl rfl (any_of HT_.out (by kernel_rfl)) (fun _ _ _ h => h) (Or.inr ⟨by rfl, rfl⟩) ?_ ?_
                        rotate_left
                        · simp only [Act.put, List.setIfInBounds_toArray, List.set_cons_zero, List.set_cons_succ, i64_w, i32_w]
                          rfl
                        refine pure_ (i := 25) (N := some 82) (v := undef) (a' := ?_) #[true, true, true, true, true, true, true, true, true, true, true, true, true, true, true, true, true, true, true, true, true, true, true, true, true, true, false, false, false] rfl rfl (any_of HT_.out (by kernel_rfl)) (fun _ _ _ h => h) (Or.inr ⟨by rfl, rfl⟩) ?_ ?_
                        rotate_left
                        · simp only [Act.put, List.setIfInBounds_toArray, List.set_cons_zero, List.set_cons_succ, i64_w, i32_w]
                          rfl
                        refine pure_ (i := 26) (N := some 83) (v := undef) (a' := ?_) #[true, true, true, true, true, true, true, true, true, true, true, true, true, true, true, true, true, true, true, true, true, true, true, true, true, true, true, false, false] rfl rfl (any_of HT_.out (by kernel_rfl)) (fun _ _ _ h => h) (Or.inr ⟨by rfl, rfl⟩) ?_ ?_
                        rotate_left
                        · simp only [Act.put, List.setIfInBounds_toArray, List.set_cons_zero, List.set_cons_succ, i64_w, i32_w]
                          rfl
                        refine pure_ (i := 27) (N := some 84) (v := undef) (a' := ?_) #[true, true, true, true, true, true, true, true, true, true, true, true, true, true, true, true, true, true, true, true, true, true, true, true, true, true, true, true, false] rfl rfl (any_of HT_.out (by kernel_rfl)) (fun _ _ _ h => h) (Or.inr ⟨by rfl, rfl⟩) ?_ ?_
                        rotate_left
                        · simp only [Act.put, List.setIfInBounds_toArray, List.set_cons_zero, List.set_cons_succ, i64_w, i32_w]
                          rfl
                        refine pure_ (i := 28) (N := some 85) (v := ?_) (a' := ?_) #[true, true, true, true, true, true, true, true, true, true, true, true, true, true, true, true, true, true, true, true, true, true, true, true, true, true, true, true, true] rfl rfl (any_of HT_.out (by kernel_rfl)) (fun _ _ _ h => h) (Or.inl ⟨by rfl, ?_⟩) ?_ ?_
                        rotate_left
                        · intro w'
                          go_simp
                          with_reducible rfl
                        rotate_left
                        · simp only [Act.put, List.setIfInBounds_toArray, List.set_cons_zero, List.set_cons_succ, i64_w, i32_w]
                          rfl
                        refine done_ (done_of HT_.out (by kernel_rfl)) ?_
                        try go_wp2
                        go_meet
                        case rel => exact ⟨_, (true), (by first | rfl | (simp; done) | (simp [*]; done)), (by first | exact H' | (rw [hji19]; exact H') | (simp only [hji19]; exact H')), ⟨by have := HJ6.out; first | omega | exact Nat.le_refl _⟩, ⟨by (with_reducible repeat (first | apply Kd.N_alloc | apply Kd.N_drewN | apply Kd.N_drew)); exact Kd.N_mono HO365.out (fun _ hk => ⟨hk.1.1.1.2, hk.1.1.2⟩)⟩, ⟨by (with_reducible repeat (first | apply Kd.N_alloc | apply Kd.N_drewN | apply Kd.N_drew)); exact Kd.N_mono HO372.out (fun _ hk => ⟨hk.1.1.1.1, hk.1.1.2⟩)⟩, ⟨by (with_reducible repeat (first | apply Kd.N_alloc | apply Kd.N_drewN | apply Kd.N_drew)); exact Kd.N_mono HO376.out (fun _ hk => trivial)⟩, ⟨by repeat (first | (with_reducible first | exact HB.out | apply below_alloc | apply pw_below_drewN | apply below_drew1 | refine below_set ?_ (IsS43.ge HI369.out)) | exact HB.out)⟩⟩
                    · replace c36 := Bool.eq_false_iff.mpr c36
                      subst c36
                      have H1 : (diwanlaw9_UlogJoin.j1 kj6 t363 t370 (Int.tmod (wrap64 (a2)) (wrap64 ((t363.length : Int) + 1))) t374 true) = some r := by rw [if_neg (show ¬ (false = true) by decide)] at H; exact H
                      clear H
                      have H := H1
                      clear H1
                      have H' := Aside0.mk H
                      clear H
                      try go_wp2
                      have n0_ := Aside0.mk (Kd.N_drew HO365.out)
                      have n1_ := Aside0.mk (Kd.N_drew HO372.out)
                      have n2_ := Aside0.mk (Kd.N_drew HO376.out)
                      have n3_ := Aside0.mk (Kd.N_drew HO379.out)
                      have n4_ := Aside0.mk (Kd.V_drew HO384.out)
                      have n5_ := Aside0.mk (Kd.N_drew HO387.out)
                      have n6_ := Aside0.mk (IsS43.drew HI369.out)
                      have n7_ := Aside0.mk (below_drew1 HB.out)
                      clear HO365
                      clear HO372
                      clear HO376
                      clear HO379
                      clear HO384
                      clear HO387
                      clear HI369
                      clear HB
                      have HO365 := n0_
                      have HO372 := n1_
                      have HO376 := n2_
                      have HO379 := n3_
                      have HO384 := n4_
                      have HO387 := n5_
                      have HI369 := n6_
                      have HB := n7_
                      clear n0_ n1_ n2_ n3_ n4_ n5_ n6_ n7_
                      obtain ⟨Ao65, co65, eo65⟩ := Kd.N_slice HO379.out
                      (first | subst eo65 | (injection eo65 with f1_ f2_ f3_; have f4_ := f1_.symm; have f5_ := f3_.symm; clear f1_ f2_ f3_; subst f4_; subst f5_))
                      refine start_ (n := 29) (S := fun w' => True) (ds := []) #[false, false, false, false, false, false, false, false, false, false, false, false, false, false, false, false, false, false, false, false, false, false, false, false, false, false, false, false, false] (by kernel_rfl) rfl rfl trivial (fun hHeld => ?_); refine with_tabW diwanlaw9_UlogJoin.tab10 diwanlaw9_UlogJoin.bits10 (fun HT_ HW_ => ?_)
                      generalize w34.drew = w64 at HO365 HO372 HO376 HO379 HO384 HO387 HI369 HB hHeld ⊢
                      refine pure_ (i := 0) (N := some 57) (v := ?_) (a' := ?_) #[true, false, false, false, false, false, false, false, false, false, false, false, false, false, false, false, false, false, false, false, false, false, false, false, false, false, false, false, false] rfl rfl (any_of HT_.out (by kernel_rfl)) (fun _ _ _ h => h) (Or.inl ⟨by rfl, ?_⟩) ?_ ?_
                      rotate_left
                      · intro w'
                        go_simp
                        with_reducible rfl
                      rotate_left
                      · simp only [Act.put, List.setIfInBounds_toArray, List.set_cons_zero, List.set_cons_succ, i64_w, i32_w]
                        rfl
                      refine pure_ (i := 1) (N := some 58) (v := ?_) (a' := ?_) #[true, true, false, false, false, false, false, false, false, false, false, false, false, false, false, false, false, false, false, false, false, false, false, false, false, false, false, false, false] rfl rfl (any_of HT_.out (by kernel_rfl)) (fun _ _ _ h => h) (Or.inl ⟨by rfl, ?_⟩) ?_ ?_
                      rotate_left
                      · intro w'
                        go_simp
                        with_reducible rfl
                      rotate_left
                      · simp only [Act.put, List.setIfInBounds_toArray, List.set_cons_zero, List.set_cons_succ, i64_w, i32_w]
                        rfl
                      refine one_ (i := 2) (N := some 59) #[true, true, true, false, false, false, false, false, false, false, false, false, false, false, false, false, false, false, false, false, false, false, false, false, false, false, false, false, false] rfl rfl (one_of HT_.out (by kernel_rfl)) (by decide) (fun K hK => ?_)
                      refine goes_ Try.func20 (by kernel_rfl) rfl #[.slice Ao31 t374.length co31, .slice Ao65 t377.length co65] (by rfl) rfl rfl (by (try simp only [List.map_toArray, List.map_cons, List.map_nil]); first | done | rfl | (simp only [List.length_drop, List.length_take]; rfl)) ?_
                      with_reducible refine (ulog_Same.calls kj6 _ _ t374 _ _ t377 false _ ?side1 ?side2 ?side3 ?side4 A35.out).mono ?_
                      (case side1 => repeat (first | exact (Kd.N_reads' HO376.out).2.2 | (with_reducible refine Kd.C_alloc ?_ _) | (with_reducible refine Kd.C_drewN ?_ _) | (with_reducible refine Kd.C_drew ?_)))
                      (case side2 => exact (Kd.N_reads' HO376.out).2.1)
                      (case side3 => repeat (first | exact (Kd.N_reads' HO379.out).2.2 | (with_reducible refine Kd.C_alloc ?_ _) | (with_reducible refine Kd.C_drewN ?_ _) | (with_reducible refine Kd.C_drew ?_)))
                      (case side4 => exact (Kd.N_reads' HO379.out).2.1)
                      rintro e w66 ⟨rfl, hb⟩
                      refine ⟨_, rfl, ?_⟩
                      have n0_ := Aside0.mk (Kd.N_below (by (with_reducible repeat (first | apply Kd.N_alloc | apply Kd.N_drewN | apply Kd.N_drew)); exact HO365.out) hb)
                      have n1_ := Aside0.mk (Kd.N_below (by (with_reducible repeat (first | apply Kd.N_alloc | apply Kd.N_drewN | apply Kd.N_drew)); exact HO372.out) hb)
                      have n2_ := Aside0.mk (Kd.N_below (by (with_reducible repeat (first | apply Kd.N_alloc | apply Kd.N_drewN | apply Kd.N_drew)); exact HO376.out) hb)
                      have n3_ := Aside0.mk (Kd.N_below (by (with_reducible repeat (first | apply Kd.N_alloc | apply Kd.N_drewN | apply Kd.N_drew)); exact HO379.out) hb)
                      have n4_ := Aside0.mk (Kd.V_below (by (with_reducible repeat (first | apply Kd.V_alloc | apply Kd.V_drewN | apply Kd.V_drew)); exact HO384.out) hb)
                      have n5_ := Aside0.mk (Kd.N_below (by (with_reducible repeat (first | apply Kd.N_alloc | apply Kd.N_drewN | apply Kd.N_drew)); exact HO387.out) hb)
                      have n6_ := Aside0.mk (IsS43.below (by repeat (first | (with_reducible first | exact HI369.out | apply IsS43.alloc | apply IsS43.drewN | apply IsS43.drew | apply IsS43.set_1) | exact HI369.out)) hb)
                      have n7_ := Aside0.mk (below_step (by repeat (first | (with_reducible first | exact HB.out | apply below_alloc | apply pw_below_drewN | apply below_drew1 | refine below_set ?_ (IsS43.ge HI369.out)) | exact HB.out)) hb)
                      clear HO365
                      clear HO372
                      clear HO376
                      clear HO379
                      clear HO384
                      clear HO387
                      clear HI369
                      clear HB
                      have HO365 := n0_
                      have HO372 := n1_
                      have HO376 := n2_
                      have HO379 := n3_
                      have HO384 := n4_
                      have HO387 := n5_
                      have HI369 := n6_
                      have HB := n7_
                      clear n0_ n1_ n2_ n3_ n4_ n5_ n6_ n7_
                      (try clear hb)
                      (try clear hb2)
                      (try clear hk)
                      (try clear hi)
                      (try clear hgn_)
                      refine hK.out _ _ trivial (fun hHeld => ?_)
                      clear hK K
                      refine norm_ (a' := ?_) ?_ ?_
                      rotate_left
                      · show Act.put _ (some 59) _ = _
                        simp only [Act.put, List.setIfInBounds_toArray, List.set_cons_zero, List.set_cons_succ, i64_w, i32_w]
                        rfl
                      refine pure_ (i := 3) (N := some 60) (v := ?_) (a' := ?_) #[true, true, true, true, false, false, false, false, false, false, false, false, false, false, false, false, false, false, false, false, false, false, false, false, false, false, false, false, false] rfl rfl (any_of HT_.out (by kernel_rfl)) (fun _ _ _ h => h) (Or.inl ⟨by rfl, ?_⟩) ?_ ?_
                      rotate_left
                      · intro w'
                        go_simp
                        with_reducible rfl
                      rotate_left
                      · simp only [Act.put, List.setIfInBounds_toArray, List.set_cons_zero, List.set_cons_succ, i64_w, i32_w]
                        rfl
                      refine pure_ (i := 4) (N := some 61) (v := ?_) (a' := ?_) #[true, true, true, true, true, false, false, false, false, false, false, false, false, false, false, false, false, false, false, false, false, false, false, false, false, false, false, false, false] rfl rfl (any_of HT_.out (by kernel_rfl)) (fun _ _ _ h => h) (Or.inl ⟨by rfl, ?_⟩) ?_ ?_
                      rotate_left
                      · intro w'
                        go_simp
                        with_reducible rfl
                      rotate_left
                      · simp only [Act.put, List.setIfInBounds_toArray, List.set_cons_zero, List.set_cons_succ, i64_w, i32_w]
                        rfl
                      refine pure_ (i := 5) (N := some 62) (v := undef) (a' := ?_) #[true, true, true, true, true, true, false, false, false, false, false, false, false, false, false, false, false, false, false, false, false, false, false, false, false, false, false, false, false] rfl rfl (any_of HT_.out (by kernel_rfl)) (fun _ _ _ h => h) (Or.inr ⟨by rfl, rfl⟩) ?_ ?_
                      rotate_left
                      · simp only [Act.put, List.setIfInBounds_toArray, List.set_cons_zero, List.set_cons_succ, i64_w, i32_w]
                        rfl
                      refine pure_ (i := 6) (N := some 63) (v := undef) (a' := ?_) #[true, true, true, true, true, true, true, false, false, false, false, false, false, false, false, false, false, false, false, false, false, false, false, false, false, false, false, false, false] rfl rfl (any_of HT_.out (by kernel_rfl)) (fun _ _ _ h => h) (Or.inr ⟨by rfl, rfl⟩) ?_ ?_
                      rotate_left
                      · simp only [Act.put, List.setIfInBounds_toArray, List.set_cons_zero, List.set_cons_succ, i64_w, i32_w]
                        rfl
                      refine pure_ (i := 7) (N := some 64) (v := undef) (a' := ?_) #[true, true, true, true, true, true, true, true, false, false, false, false, false, false, false, false, false, false, false, false, false, false, false, false, false, false, false, false, false] rfl rfl (any_of HT_.out (by kernel_rfl)) (fun _ _ _ h => h) (Or.inr ⟨by rfl, rfl⟩) ?_ ?_
                      rotate_left
                      · simp only [Act.put, List.setIfInBounds_toArray, List.set_cons_zero, List.set_cons_succ, i64_w, i32_w]
                        rfl
                      refine pure_ (i := 8) (N := some 65) (v := undef) (a' := ?_) #[true, true, true, true, true, true, true, true, true, false, false, false, false, false, false, false, false, false, false, false, false, false, false, false, false, false, false, false, false] rfl rfl (any_of HT_.out (by kernel_rfl)) (fun _ _ _ h => h) (Or.inr ⟨by rfl, rfl⟩) ?_ ?_
                      rotate_left
                      · simp only [Act.put, List.setIfInBounds_toArray, List.set_cons_zero, List.set_cons_succ, i64_w, i32_w]
                        rfl
                      refine pure_ (i := 9) (N := some 66) (v := ?_) (a' := ?_) #[true, true, true, true, true, true, true, true, true, true, false, false, false, false, false, false, false, false, false, false, false, false, false, false, false, false, false, false, false] rfl rfl (any_of HT_.out (by kernel_rfl)) (fun _ _ _ h => h) (Or.inl ⟨by rfl, ?_⟩) ?_ ?_
                      rotate_left
                      · intro w'
                        go_simp
                        with_reducible rfl
                      rotate_left
                      · simp only [Act.put, List.setIfInBounds_toArray, List.set_cons_zero, List.set_cons_succ, i64_w, i32_w]
                        rfl
                      refine pure_ (i := 10) (N := some 67) (v := ?_) (a' := ?_) #[true, true, true, true, true, true, true, true, true, true, true, false, false, false, false, false, false, false, false, false, false, false, false, false, false, false, false, false, false] rfl rfl (any_of HT_.out (by kernel_rfl)) (fun _ _ _ h => h) (Or.inl ⟨by rfl, ?_⟩) ?_ ?_
                      rotate_left
                      · intro w'
                        go_simp
                        with_reducible rfl
                      rotate_left
                      · simp only [Act.put, List.setIfInBounds_toArray, List.set_cons_zero, List.set_cons_succ, i64_w, i32_w]
                        rfl
                      refine pure_ (i := 11) (N := some 68) (v := undef) (a' := ?_) #[true, true, true, true, true, true, true, true, true, true, true, true, false, false, false, false, false, false, false, false, false, false, false, false, false, false, false, false, false] rfl rfl (any_of HT_.out (by kernel_rfl)) (fun _ _ _ h => h) (Or.inr ⟨by rfl, rfl⟩) ?_ ?_
                      rotate_left
                      · simp only [Act.put, List.setIfInBounds_toArray, List.set_cons_zero, List.set_cons_succ, i64_w, i32_w]
                        rfl
                      refine pure_ (i := 12) (N := some 69) (v := undef) (a' := ?_) #[true, true, true, true, true, true, true, true, true, true, true, true, true, false, false, false, false, false, false, false, false, false, false, false, false, false, false, false, false] rfl rfl (any_of HT_.out (by kernel_rfl)) (fun _ _ _ h => h) (Or.inr ⟨by rfl, rfl⟩) ?_ ?_
                      rotate_left
                      · simp only [Act.put, List.setIfInBounds_toArray, List.set_cons_zero, List.set_cons_succ, i64_w, i32_w]
                        rfl
                      refine pure_ (i := 13) (N := some 70) (v := undef) (a' := ?_) #[true, true, true, true, true, true, true, true, true, true, true, true, true, true, false, false, false, false, false, false, false, false, false, false, false, false, false, false, false] rfl rfl (any_of HT_.out (by kernel_rfl)) (fun _ _ _ h => h) (Or.inr ⟨by rfl, rfl⟩) ?_ ?_
                      rotate_left
                      · simp only [Act.put, List.setIfInBounds_toArray, List.set_cons_zero, List.set_cons_succ, i64_w, i32_w]
                        rfl
                      refine pure_ (i := 14) (N := some 71) (v := undef) (a' := ?_) #[true, true, true, true, true, true, true, true, true, true, true, true, true, true, true, false, false, false, false, false, false, false, false, false, false, false, false, false, false] rfl rfl (any_of HT_.out (by kernel_rfl)) (fun _ _ _ h => h) (Or.inr ⟨by rfl, rfl⟩) ?_ ?_
                      rotate_left
                      · simp only [Act.put, List.setIfInBounds_toArray, List.set_cons_zero, List.set_cons_succ, i64_w, i32_w]
                        rfl
                      refine pure_ (i := 15) (N := some 72) (v := undef) (a' := ?_) #[true, true, true, true, true, true, true, true, true, true, true, true, true, true, true, true, false, false, false, false, false, false, false, false, false, false, false, false, false] rfl rfl (any_of HT_.out (by kernel_rfl)) (fun _ _ _ h => h) (Or.inr ⟨by rfl, rfl⟩) ?_ ?_
                      rotate_left
                      · simp only [Act.put, List.setIfInBounds_toArray, List.set_cons_zero, List.set_cons_succ, i64_w, i32_w]
                        rfl
                      refine pure_ (i := 16) (N := some 73) (v := undef) (a' := ?_) #[true, true, true, true, true, true, true, true, true, true, true, true, true, true, true, true, true, false, false, false, false, false, false, false, false, false, false, false, false] rfl rfl (any_of HT_.out (by kernel_rfl)) (fun _ _ _ h => h) (Or.inr ⟨by rfl, rfl⟩) ?_ ?_
                      rotate_left
                      · simp only [Act.put, List.setIfInBounds_toArray, List.set_cons_zero, List.set_cons_succ, i64_w, i32_w]
                        rfl
                      refine pure_ (i := 17) (N := some 74) (v := undef) (a' := ?_) #[true, true, true, true, true, true, true, true, true, true, true, true, true, true, true, true, true, true, false, false, false, false, false, false, false, false, false, false, false] rfl rfl (any_of HT_.out (by kernel_rfl)) (fun _ _ _ h => h) (Or.inr ⟨by rfl, rfl⟩) ?_ ?_
                      rotate_left
                      · simp only [Act.put, List.setIfInBounds_toArray, List.set_cons_zero, List.set_cons_succ, i64_w, i32_w]
                        rfl
                      refine pure_ (i := 18) (N := some 75) (v := ?_) (a' := ?_) #[true, true, true, true, true, true, true, true, true, true, true, true, true, true, true, true, true, true, true, false, false, false, false, false, false, false, false, false, false] rfl rfl (any_of HT_.out (by kernel_rfl)) (fun _ _ _ h => h) (Or.inl ⟨by rfl, ?_⟩) ?_ ?_
                      rotate_left
                      · intro w'
                        go_simp
                        with_reducible rfl
                      rotate_left
                      · simp only [Act.put, List.setIfInBounds_toArray, List.set_cons_zero, List.set_cons_succ, i64_w, i32_w]
                        rfl
                      refine pure_ (i := 19) (N := some 76) (v := ?_) (a' := ?_) #[true, true, true, true, true, true, true, true, true, true, true, true, true, true, true, true, true, true, true, true, false, false, false, false, false, false, false, false, false] rfl rfl (any_of HT_.out (by kernel_rfl)) (fun _ _ _ h => h) (Or.inl ⟨by rfl, ?_⟩) ?_ ?_
                      rotate_left
                      · intro w'
                        go_simp
                        with_reducible rfl
                      rotate_left
                      · simp only [Act.put, List.setIfInBounds_toArray, List.set_cons_zero, List.set_cons_succ, i64_w, i32_w]
                        rfl
                      refine pure_ (i := 20) (N := some 77) (v := undef) (a' := ?_) #[true, true, true, true, true, true, true, true, true, true, true, true, true, true, true, true, true, true, true, true, true, false, false, false, false, false, false, false, false] rfl rfl (any_of HT_.out (by kernel_rfl)) (fun _ _ _ h => h) (Or.inr ⟨by rfl, rfl⟩) ?_ ?_
                      rotate_left
                      · simp only [Act.put, List.setIfInBounds_toArray, List.set_cons_zero, List.set_cons_succ, i64_w, i32_w]
                        rfl
                      refine pure_ (i := 21) (N := some 78) (v := undef) (a' := ?_) #[true, true, true, true, true, true, true, true, true, true, true, true, true, true, true, true, true, true, true, true, true, true, false, false, false, false, false, false, false] rfl rfl (any_of HT_.out (by kernel_rfl)) (fun _ _ _ h => h) (Or.inr ⟨by rfl, rfl⟩) ?_ ?_
                      rotate_left
                      · simp only [Act.put, List.setIfInBounds_toArray, List.set_cons_zero, List.set_cons_succ, i64_w, i32_w]
                        rfl
                      refine pure_ (i := 22) (N := some 79) (v := undef) (a' := ?_) #[true, true, true, true, true, true, true, true, true, true, true, true, true, true, true, true, true, true, true, true, true, true, true, false, false, false, false, false, false] rfl rfl (any_of HT_.out (by kernel_rfl)) (fun _ _ _ h => h) (Or.inr ⟨by rfl, rfl⟩) ?_ ?_
                      rotate_left
                      · simp only [Act.put, List.setIfInBounds_toArray, List.set_cons_zero, List.set_cons_succ, i64_w, i32_w]
                        rfl
                      refine pure_ (i := 23) (N := some 80) (v := undef) (a' := ?_) #[true, true, true, true, true, true, true, true, true, true, true, true, true, true, true, true, true, true, true, true, true, true, true, true, false, false, false, false, false] rfl rfl (any_of HT_.out (by kernel_rfl)) (fun _ _ _ h => h) (Or.inr ⟨by rfl, rfl⟩) ?_ ?_
                      rotate_left
                      · simp only [Act.put, List.setIfInBounds_toArray, List.set_cons_zero, List.set_cons_succ, i64_w, i32_w]
                        rfl
                      refine pure_ (i := 24) (N := some 81) (v := undef) (a' := ?_) #[true, true, true, true, true, true, true, true, true, true, true, true, true, true, true, true, true, true, true, true, true, true, true, true, true, false, false, false, false] rfl rfl (any_of HT_.out (by kernel_rfl)) (fun _ _ _ h => h) (Or.inr ⟨by rfl, rfl⟩) ?_ ?_
                      rotate_left
                      · simp only [Act.put, List.setIfInBounds_toArray, List.set_cons_zero, List.set_cons_succ, i64_w, i32_w]
                        rfl
                      refine pure_ (i := 25) (N := some 82) (v := undef) (a' := ?_) #[true, true, true, true, true, true, true, true, true, true, true, true, true, true, true, true, true, true, true, true, true, true, true, true, true, true, false, false, false] rfl rfl (any_of HT_.out (by kernel_rfl)) (fun _ _ _ h => h) (Or.inr ⟨by rfl, rfl⟩) ?_ ?_
                      rotate_left
                      · simp only [Act.put, List.setIfInBounds_toArray, List.set_cons_zero, List.set_cons_succ, i64_w, i32_w]
                        rfl
                      refine pure_ (i := 26) (N := some 83) (v := undef) (a' := ?_) #[true, true, true, true, true, true, true, true, true, true, true, true, true, true, true, true, true, true, true, true, true, true, true, true, true, true, true, false, false] rfl rfl (any_of HT_.out (by kernel_rfl)) (fun _ _ _ h => h) (Or.inr ⟨by rfl, rfl⟩) ?_ ?_
                      rotate_left
                      · simp only [Act.put, List.setIfInBounds_toArray, List.set_cons_zero, List.set_cons_succ, i64_w, i32_w]
                        rfl
                      refine pure_ (i := 27) (N := some 84) (v := undef) (a' := ?_) #[true, true, true, true, true, true, true, true, true, true, true, true, true, true, true, true, true, true, true, true, true, true, true, true, true, true, true, true, false] rfl rfl (any_of HT_.out (by kernel_rfl)) (fun _ _ _ h => h) (Or.inr ⟨by rfl, rfl⟩) ?_ ?_
                      rotate_left
                      · simp only [Act.put, List.setIfInBounds_toArray, List.set_cons_zero, List.set_cons_succ, i64_w, i32_w]
                        rfl
                      refine pure_ (i := 28) (N := some 85) (v := ?_) (a' := ?_) #[true, true, true, true, true, true, true, true, true, true, true, true, true, true, true, true, true, true, true, true, true, true, true, true, true, true, true, true, true] rfl rfl (any_of HT_.out (by kernel_rfl)) (fun _ _ _ h => h) (Or.inl ⟨by rfl, ?_⟩) ?_ ?_
                      rotate_left
                      · intro w'
                        go_simp
                        with_reducible rfl
                      rotate_left
                      · simp only [Act.put, List.setIfInBounds_toArray, List.set_cons_zero, List.set_cons_succ, i64_w, i32_w]
                        rfl
                      refine done_ (done_of HT_.out (by kernel_rfl)) ?_
                      try go_wp2
                      go_meet
                      case rel => exact ⟨_, (true), (by first | rfl | (simp; done) | (simp [*]; done)), (by first | exact H' | (rw [hji19]; exact H') | (simp only [hji19]; exact H')), ⟨by have := HJ6.out; first | omega | exact Nat.le_refl _⟩, ⟨by (with_reducible repeat (first | apply Kd.N_alloc | apply Kd.N_drewN | apply Kd.N_drew)); exact Kd.N_mono HO365.out (fun _ hk => ⟨hk.1.1.1.2, hk.1.1.2⟩)⟩, ⟨by (with_reducible repeat (first | apply Kd.N_alloc | apply Kd.N_drewN | apply Kd.N_drew)); exact Kd.N_mono HO372.out (fun _ hk => ⟨hk.1.1.1.1, hk.1.1.2⟩)⟩, ⟨by (with_reducible repeat (first | apply Kd.N_alloc | apply Kd.N_drewN | apply Kd.N_drew)); exact Kd.N_mono HO376.out (fun _ hk => trivial)⟩, ⟨by repeat (first | (with_reducible first | exact HB.out | apply below_alloc | apply pw_below_drewN | apply below_drew1 | refine below_set ?_ (IsS43.ge HI369.out)) | exact HB.out)⟩⟩
                  case rest =>
                    clear HC23
                    try clear c2
                    try clear p2
                    try clear c3
                    try clear c4
                    try clear p6
                    try clear c20
                    try clear c36
                    try clear c38
                    try clear c46
                    try clear c47
                    try clear c49
                    try clear p64
                    obtain ⟨kq, x85_22, rfl, HA, HJ22, HO_9, HO_10, HO_12, HB⟩ := hcut
                    cases kq with
                    | zero => exact absurd HA.out (by simp [diwanlaw9_UlogJoin.j1])
                    | succ kj22 =>
                      have H := HA.out
                      clear HA
                      simp only [diwanlaw9_UlogJoin.j1] at H
                      by_cases c67 : x85_22 = true
                      · subst c67
                        have H1 : (some false) = some r := by rw [if_pos rfl] at H; exact H
                        clear H
                        have H := H1
                        clear H1
                        exact absurd (Option.some.inj H) (by rw [hT.out]; decide)
                      · replace c67 := Bool.eq_false_iff.mpr c67
                        subst c67
                        have H1 : (diwanlaw9_UlogJoin.l0 kj22 t363 t370 (Int.tmod (wrap64 (a2)) (wrap64 ((t363.length : Int) + 1))) t374 0) = some r := by rw [if_neg (show ¬ (false = true) by decide)] at H; exact H
                        clear H
                        have H := H1
                        clear H1
                        have H' := Aside0.mk H
                        clear H
                        go_wp2
                        go_loopg [15] kj22 (fun kq v15 w' => ∃ (x15_3 : Int), v15 = .int .i64 x15_3 ∧ Aside0 (diwanlaw9_UlogJoin.l0 kq t363 t370 (Int.tmod (wrap64 (a2)) (wrap64 ((t363.length : Int) + 1))) t374 x15_3 = some r) ∧ Aside0 (kq ≤ kj22) ∧ Aside0 (Kd.N k39 39 w' w.heap.size (fun k_ => some k_ ≠ ((.slice Ao29 t370.length co29) : Value).ownBlock ∧ some k_ ≠ ((.slice Ao31 t374.length co31) : Value).ownBlock) (.slice Ao28 t363.length co28) t363) ∧ Aside0 (Kd.N k39 39 w' w.heap.size (fun k_ => some k_ ≠ ((.slice Ao28 t363.length co28) : Value).ownBlock ∧ some k_ ≠ ((.slice Ao31 t374.length co31) : Value).ownBlock) (.slice Ao29 t370.length co29) t370) ∧ Aside0 (Kd.N k39 39 w' w.heap.size (fun _ => True) (.slice Ao31 t374.length co31) t374) ∧ Aside0 (Below w.heap.size w w'))
                        case atStart => exact ⟨(0), (by first | rfl | (simp; done) | (simp [*]; done)), (by first | exact H' | (rw [hji19]; exact H') | (simp only [hji19]; exact H')), ⟨Nat.le_refl _⟩, ⟨by (with_reducible repeat (first | apply Kd.N_alloc | apply Kd.N_drewN | apply Kd.N_drew)); exact HO_9.out⟩, ⟨by (with_reducible repeat (first | apply Kd.N_alloc | apply Kd.N_drewN | apply Kd.N_drew)); exact HO_10.out⟩, ⟨by (with_reducible repeat (first | apply Kd.N_alloc | apply Kd.N_drewN | apply Kd.N_drew)); exact HO_12.out⟩, ⟨by repeat (first | (with_reducible first | exact HB.out | apply below_alloc | apply pw_below_drewN | apply below_drew1) | exact HB.out)⟩⟩
                        case round =>
                          clear H'
                          try clear c2
                          try clear p2
                          try clear c3
                          try clear c4
                          try clear c6
                          try clear p6
                          try clear c20
                          try clear c36
                          try clear c38
                          try clear c46
                          try clear c47
                          try clear c49
                          try clear p64
                          try clear c67
                          try clear p2
                          try clear p6
                          try clear p64
                          obtain ⟨x15_3, rfl, HA, HK3, HO_9, HO_10, HO_12, HB⟩ := hrel
                          cases gk with
                          | zero => exact absurd HA.out (by simp [diwanlaw9_UlogJoin.l0])
                          | succ k3 =>
                            have H := HA.out
                            clear HA
                            simp only [diwanlaw9_UlogJoin.l0] at H
                            by_cases c68 : x15_3 < (t370.length : Int)
                            · rw [if_pos c68] at H
                              have c68b0 : decide (x15_3 < (t370.length : Int)) = true := decide_eq_true c68
                              clear c68
                              obtain ⟨ji69, hji69⟩ : ∃ j_ : Int, (wrap64 ((Int.tmod (wrap64 (a2)) (wrap64 ((t363.length : Int) + 1))) + x15_3)) = j_ := ⟨_, rfl⟩
                              replace H : (if 0 ≤ (ji69) then (if (ji69) < (t374.length : Int) then (if 0 ≤ x15_3 then (if ((rd_T39 t374 (ji69)).f0) = ((rd_T39 t370 x15_3).f0) then (diwanlaw9_UlogJoin.l0 k3 t363 t370 (Int.tmod (wrap64 (a2)) (wrap64 ((t363.length : Int) + 1))) t374 (wrap64 (x15_3 + 1))) else (some false)) else (none)) else (none)) else (none)) = some r := by first | (rw [hji69] at H; exact H) | (simp only [hji69] at H ⊢; exact H)
                              have hji69w : (IntKind.i64.wrap ((Int.tmod (wrap64 (a2)) (wrap64 ((t363.length : Int) + 1))) + x15_3)) = ji69 := (i64_w _).trans hji69
                              by_cases c70 : 0 ≤ (ji69)
                              · rw [if_pos c70] at H
                                have c70b0 : decide (0 ≤ (ji69)) = true := decide_eq_true c70
                                clear c70
                                by_cases c71 : (ji69) < (t374.length : Int)
                                · rw [if_pos c71] at H
                                  have c71b0 : decide ((ji69) < (t374.length : Int)) = true := decide_eq_true c71
                                  clear c71
                                  by_cases c72 : 0 ≤ x15_3
                                  · rw [if_pos c72] at H
                                    have c72b0 : decide (0 ≤ x15_3) = true := decide_eq_true c72
                                    clear c72
                                    by_cases c73 : ((rd_T39 t374 (ji69)).f0) = ((rd_T39 t370 x15_3).f0)
                                    · rw [if_pos c73] at H
                                      have c73b0 : (((rd_T39 t374 (ji69)).f0) == ((rd_T39 t370 x15_3).f0)) = true := beq_iff_eq.mpr c73
                                      have c73b1 : (((rd_T39 t374 (ji69)).f0) != ((rd_T39 t370 x15_3).f0)) = false := bne_eq_false_iff_eq.mpr c73
                                      clear c73
                                      have H' := Aside0.mk H
                                      clear H
                                      try go_wp2
                                      have n0_ := Aside0.mk (Kd.N_drew HO_9.out)
                                      have n1_ := Aside0.mk (Kd.N_drew HO_10.out)
                                      have n2_ := Aside0.mk (Kd.N_drew HO_12.out)
                                      have n3_ := Aside0.mk (below_drew1 HB.out)
                                      clear HO_9
                                      clear HO_10
                                      clear HO_12
                                      clear HB
                                      have HO_9 := n0_
                                      have HO_10 := n1_
                                      have HO_12 := n2_
                                      have HB := n3_
                                      clear n0_ n1_ n2_ n3_
                                      have p401 : 0 ≤ ((ji69) : Int) := of_decide_eq_true (by first | (with_reducible assumption) | assumption)
                                      have q401 : (ji69) < (t374.length : Int) := of_decide_eq_true (by first | (with_reducible assumption) | assumption)
                                      obtain ⟨ad401, A401_4, c401_4, A401_5, c401_5, e401, hx401_0, hx401_1, hx401_2, hx401_3, hx401_4, hx401_5, hl401_4, hi401_4, hl401_5, hi401_5⟩ := at_T39 (Kd.N_reads' HO_12.out).2.2 (ji69) p401 q401
                                      cases e401
                                      obtain ⟨ce401, hce401, hMe401, hcc401⟩ := Kd.N_get HO_12.out z39 (ji69) p401 (by first | exact q401 | exact of_decide_eq_true (by first | (with_reducible assumption) | assumption) | (have e_ := (Kd.N_reads' HO_12.out).1; omega))
                                      obtain ⟨ua401_4, uc401_4, ua401_5, uc401_5, rfl, ul401_4, ge401_4, ul401_5, ge401_5⟩ := k39_openF hMe401
                                      have hv401_4 := hcc401 4 _ rfl
                                      rw [add_field _ _ 4 (by omega)] at hv401_4
                                      replace hv401_4 := Option.some.inj (hv401_4.symm.trans hx401_4)
                                      injection hv401_4 with hva_ hvn_ hvc_
                                      rw [hva_] at ge401_4
                                      rw [hvc_] at ul401_4
                                      have HL401_4 := Aside0.mk (show Kd.V k55 55 _ w.heap.size _ _ ((rd_T39 t374 (ji69)).f2.f2) from Kd.V_mk ul401_4 ge401_4)
                                      clear hva_ hvn_ hvc_ ge401_4 ul401_4
                                      have hv401_5 := hcc401 5 _ rfl
                                      rw [add_field _ _ 5 (by omega)] at hv401_5
                                      replace hv401_5 := Option.some.inj (hv401_5.symm.trans hx401_5)
                                      injection hv401_5 with hva_ hvn_ hvc_
                                      rw [hva_] at ge401_5
                                      rw [hvc_] at ul401_5
                                      have HL401_5 := Aside0.mk (show Kd.V k58 58 _ w.heap.size _ _ ((rd_T39 t374 (ji69)).f2.f3) from Kd.V_mk ul401_5 ge401_5)
                                      clear hva_ hvn_ hvc_ ge401_5 ul401_5
                                      clear hcc401 hce401
                                      have HR401_4 := Aside0.mk hi401_4
                                      have HC401_4 := Aside0.mk hl401_4
                                      clear hi401_4 hl401_4
                                      have HR401_5 := Aside0.mk hi401_5
                                      have HC401_5 := Aside0.mk hl401_5
                                      clear hi401_5 hl401_5
                                      replace p401 := eq_true p401
                                      replace q401 := eq_true q401
                                      have p402 : 0 ≤ (x15_3 : Int) := of_decide_eq_true (by first | (with_reducible assumption) | assumption)
                                      have q402 : x15_3 < (t370.length : Int) := of_decide_eq_true (by first | (with_reducible assumption) | assumption)
                                      obtain ⟨ad402, A402_4, c402_4, A402_5, c402_5, e402, hx402_0, hx402_1, hx402_2, hx402_3, hx402_4, hx402_5, hl402_4, hi402_4, hl402_5, hi402_5⟩ := at_T39 (Kd.N_reads' HO_10.out).2.2 x15_3 p402 q402
                                      cases e402
                                      obtain ⟨ce402, hce402, hMe402, hcc402⟩ := Kd.N_get HO_10.out z39 x15_3 p402 (by first | exact q402 | exact of_decide_eq_true (by first | (with_reducible assumption) | assumption) | (have e_ := (Kd.N_reads' HO_10.out).1; omega))
                                      obtain ⟨ua402_4, uc402_4, ua402_5, uc402_5, rfl, ul402_4, ge402_4, ul402_5, ge402_5⟩ := k39_openF hMe402
                                      have hv402_4 := hcc402 4 _ rfl
                                      rw [add_field _ _ 4 (by omega)] at hv402_4
                                      replace hv402_4 := Option.some.inj (hv402_4.symm.trans hx402_4)
                                      injection hv402_4 with hva_ hvn_ hvc_
                                      rw [hva_] at ge402_4
                                      rw [hvc_] at ul402_4
                                      have HL402_4 := Aside0.mk (show Kd.V k55 55 _ w.heap.size _ _ ((rd_T39 t370 x15_3).f2.f2) from Kd.V_mk ul402_4 ge402_4)
                                      clear hva_ hvn_ hvc_ ge402_4 ul402_4
                                      have hv402_5 := hcc402 5 _ rfl
                                      rw [add_field _ _ 5 (by omega)] at hv402_5
                                      replace hv402_5 := Option.some.inj (hv402_5.symm.trans hx402_5)
                                      injection hv402_5 with hva_ hvn_ hvc_
                                      rw [hva_] at ge402_5
                                      rw [hvc_] at ul402_5
                                      have HL402_5 := Aside0.mk (show Kd.V k58 58 _ w.heap.size _ _ ((rd_T39 t370 x15_3).f2.f3) from Kd.V_mk ul402_5 ge402_5)
                                      clear hva_ hvn_ hvc_ ge402_5 ul402_5
                                      clear hcc402 hce402
                                      have HR402_4 := Aside0.mk hi402_4
                                      have HC402_4 := Aside0.mk hl402_4
                                      clear hi402_4 hl402_4
                                      have HR402_5 := Aside0.mk hi402_5
                                      have HC402_5 := Aside0.mk hl402_5
                                      clear hi402_5 hl402_5
                                      replace p402 := eq_true p402
                                      replace q402 := eq_true q402
                                      refine start_ (n := 13) (S := fun w' => w'.cell? (ad401.add (((ji69)).toNat * 6)) = some (.int .i64 ((rd_T39 t374 (ji69)).f0)) ∧ w'.cell? ⟨(ad401.add (((ji69)).toNat * 6)).block, (ad401.add (((ji69)).toNat * 6)).off + 1, none⟩ = some (.bool ((rd_T39 t374 (ji69)).f1)) ∧ w'.cell? ⟨(ad401.add (((ji69)).toNat * 6)).block, (ad401.add (((ji69)).toNat * 6)).off + 2, none⟩ = some (.int .i64 ((rd_T39 t374 (ji69)).f2.f0)) ∧ w'.cell? ⟨(ad401.add (((ji69)).toNat * 6)).block, (ad401.add (((ji69)).toNat * 6)).off + 3, none⟩ = some (.int .i64 ((rd_T39 t374 (ji69)).f2.f1)) ∧ w'.cell? ⟨(ad401.add (((ji69)).toNat * 6)).block, (ad401.add (((ji69)).toNat * 6)).off + 4, none⟩ = some (.slice A401_4 ((rd_T39 t374 (ji69)).f2.f2).length c401_4) ∧ w'.cell? ⟨(ad401.add (((ji69)).toNat * 6)).block, (ad401.add (((ji69)).toNat * 6)).off + 5, none⟩ = some (.slice A401_5 ((rd_T39 t374 (ji69)).f2.f3).length c401_5) ∧ w'.cell? (ad402.add ((x15_3).toNat * 6)) = some (.int .i64 ((rd_T39 t370 x15_3).f0)) ∧ w'.cell? ⟨(ad402.add ((x15_3).toNat * 6)).block, (ad402.add ((x15_3).toNat * 6)).off + 1, none⟩ = some (.bool ((rd_T39 t370 x15_3).f1)) ∧ w'.cell? ⟨(ad402.add ((x15_3).toNat * 6)).block, (ad402.add ((x15_3).toNat * 6)).off + 2, none⟩ = some (.int .i64 ((rd_T39 t370 x15_3).f2.f0)) ∧ w'.cell? ⟨(ad402.add ((x15_3).toNat * 6)).block, (ad402.add ((x15_3).toNat * 6)).off + 3, none⟩ = some (.int .i64 ((rd_T39 t370 x15_3).f2.f1)) ∧ w'.cell? ⟨(ad402.add ((x15_3).toNat * 6)).block, (ad402.add ((x15_3).toNat * 6)).off + 4, none⟩ = some (.slice A402_4 ((rd_T39 t370 x15_3).f2.f2).length c402_4) ∧ w'.cell? ⟨(ad402.add ((x15_3).toNat * 6)).block, (ad402.add ((x15_3).toNat * 6)).off + 5, none⟩ = some (.slice A402_5 ((rd_T39 t370 x15_3).f2.f3).length c402_5)) (ds := []) #[false, false, false, false, false, false, false, false, false, false, false, false, false] (by kernel_rfl) rfl rfl ⟨hx401_0, hx401_1, hx401_2, hx401_3, hx401_4, hx401_5, hx402_0, hx402_1, hx402_2, hx402_3, hx402_4, hx402_5⟩ (fun hHeld => ?_); refine with_tabW diwanlaw9_UlogJoin.tab15 diwanlaw9_UlogJoin.bits15 (fun HT_ HW_ => ?_)
                                      generalize wr.drew = w74 at HO_9 HO_10 HO_12 HB HL401_4 HL401_5 HL402_4 HL402_5 HR401_4 HR401_5 HR402_4 HR402_5 hx401_0 hx401_1 hx401_2 hx401_3 hx401_4 hx401_5 hx402_0 hx402_1 hx402_2 hx402_3 hx402_4 hx402_5 hHeld ⊢
                                      refine pure_ (i := 0) (N := some 92) (v := ?_) (a' := ?_) #[true, false, false, false, false, false, false, false, false, false, false, false, false] rfl rfl (any_of HT_.out (by kernel_rfl)) (fun _ _ _ h => h) (Or.inl ⟨by rfl, ?_⟩) ?_ ?_
                                      rotate_left
                                      · intro w'
                                        go_simp
                                        with_reducible rfl
                                      rotate_left
                                      · simp only [Act.put, List.setIfInBounds_toArray, List.set_cons_zero, List.set_cons_succ, i64_w, i32_w]
                                        rfl
                                      refine pure_ (i := 1) (N := some 93) (v := ?_) (a' := ?_) #[true, true, false, false, false, false, false, false, false, false, false, false, false] rfl rfl (any_of HT_.out (by kernel_rfl)) (fun _ _ _ h => h) (Or.inl ⟨by rfl, ?_⟩) ?_ ?_
                                      rotate_left
                                      · intro w'
                                        go_simp
                                        with_reducible rfl
                                      rotate_left
                                      · simp only [Act.put, List.setIfInBounds_toArray, List.set_cons_zero, List.set_cons_succ, i64_w, i32_w]
                                        rfl
                                      refine pure_ (i := 2) (N := some 94) (v := ?_) (a' := ?_) #[true, true, true, false, false, false, false, false, false, false, false, false, false] rfl rfl (any_of HT_.out (by kernel_rfl)) (fun _ _ _ h => h) (Or.inl ⟨by rfl, ?_⟩) ?_ ?_
                                      rotate_left
                                      · intro w'
                                        go_simp
                                        with_reducible rfl
                                      rotate_left
                                      · simp only [Act.put, List.setIfInBounds_toArray, List.set_cons_zero, List.set_cons_succ, i64_w, i32_w]
                                        rfl
                                      refine pure_ (i := 3) (N := some 95) (v := ?_) (a' := ?_) #[true, true, true, true, false, false, false, false, false, false, false, false, false] rfl rfl (any_of HT_.out (by kernel_rfl)) (fun _ _ _ h => h) (Or.inl ⟨by rfl, ?_⟩) ?_ ?_
                                      rotate_left
                                      · intro w'
                                        go_simp
                                        with_reducible rfl
                                      rotate_left
                                      · simp only [Act.put, List.setIfInBounds_toArray, List.set_cons_zero, List.set_cons_succ, i64_w, i32_w]
                                        rfl
                                      refine pure_ (i := 4) (N := some 96) (v := ?_) (a' := ?_) #[true, true, true, true, true, false, false, false, false, false, false, false, false] rfl rfl (any_of HT_.out (by kernel_rfl)) (fun _ _ _ h => h) (Or.inl ⟨by rfl, ?_⟩) ?_ ?_
                                      rotate_left
                                      · intro w'
                                        go_simp
                                        with_reducible rfl
                                      rotate_left
                                      · simp only [Act.put, List.setIfInBounds_toArray, List.set_cons_zero, List.set_cons_succ, i64_w, i32_w]
                                        rfl
                                      refine pure_ (i := 5) (N := some 97) (v := ?_) (a' := ?_) #[true, true, true, true, true, true, false, false, false, false, false, false, false] rfl rfl (any_of HT_.out (by kernel_rfl)) (fun _ _ _ h => h) (Or.inl ⟨by rfl, ?_⟩) ?_ ?_
                                      rotate_left
                                      · intro w'
                                        go_simp
                                        with_reducible rfl
                                      rotate_left
                                      · simp only [Act.put, List.setIfInBounds_toArray, List.set_cons_zero, List.set_cons_succ, i64_w, i32_w]
                                        rfl
                                      refine pure_ (i := 7) (N := some 99) (v := ?_) (a' := ?_) #[true, true, true, true, true, true, false, true, false, false, false, false, false] rfl rfl (any_of HT_.out (by kernel_rfl)) (fun _ _ _ h => h) (Or.inl ⟨by rfl, ?_⟩) ?_ ?_
                                      rotate_left
                                      · intro w'
                                        go_simp
                                        with_reducible rfl
                                      rotate_left
                                      · simp only [Act.put, List.setIfInBounds_toArray, List.set_cons_zero, List.set_cons_succ, i64_w, i32_w]
                                        rfl
                                      refine pure_ (i := 8) (N := some 100) (v := ?_) (a' := ?_) #[true, true, true, true, true, true, false, true, true, false, false, false, false] rfl rfl (any_of HT_.out (by kernel_rfl)) (fun _ _ _ h => h) (Or.inl ⟨by rfl, ?_⟩) ?_ ?_
                                      rotate_left
                                      · intro w'
                                        go_simp
                                        with_reducible rfl
                                      rotate_left
                                      · simp only [Act.put, List.setIfInBounds_toArray, List.set_cons_zero, List.set_cons_succ, i64_w, i32_w]
                                        rfl
                                      refine pure_ (i := 9) (N := some 101) (v := ?_) (a' := ?_) #[true, true, true, true, true, true, false, true, true, true, false, false, false] rfl rfl (any_of HT_.out (by kernel_rfl)) (fun _ _ _ h => h) (Or.inl ⟨by rfl, ?_⟩) ?_ ?_
                                      rotate_left
                                      · intro w'
                                        go_simp
                                        with_reducible rfl
                                      rotate_left
                                      · simp only [Act.put, List.setIfInBounds_toArray, List.set_cons_zero, List.set_cons_succ, i64_w, i32_w]
                                        rfl
                                      refine pure_ (i := 10) (N := some 102) (v := ?_) (a' := ?_) #[true, true, true, true, true, true, false, true, true, true, true, false, false] rfl rfl (any_of HT_.out (by kernel_rfl)) (fun _ _ _ h => h) (Or.inl ⟨by rfl, ?_⟩) ?_ ?_
                                      rotate_left
                                      · intro w'
                                        go_simp
                                        with_reducible rfl
                                      rotate_left
                                      · simp only [Act.put, List.setIfInBounds_toArray, List.set_cons_zero, List.set_cons_succ, i64_w, i32_w]
                                        rfl
                                      refine take_ (i := 6) (N := some 98) (v := ?_) (a' := ?_) #[true, true, true, true, true, true, true, true, true, true, true, false, false] rfl rfl (take_ofW HT_.out HW_.out (by kernel_rfl)) (fun _ _ _ h => h) (Or.inl ⟨by rfl, ?_⟩) hHeld ?_ ?_
                                      rotate_left
                                      · rintro w' ⟨s0, s1, s2, s3, s4, s5, s6, s7, s8, s9, s10, s11⟩
                                        go_simp
                                        with_reducible rfl
                                      rotate_left
                                      · simp only [Act.put, List.setIfInBounds_toArray, List.set_cons_zero, List.set_cons_succ, i64_w, i32_w]
                                        rfl
                                      refine take_ (i := 11) (N := some 103) (v := ?_) (a' := ?_) #[true, true, true, true, true, true, true, true, true, true, true, true, false] rfl rfl (take_ofW HT_.out HW_.out (by kernel_rfl)) (fun _ _ _ h => h) (Or.inl ⟨by rfl, ?_⟩) hHeld ?_ ?_
                                      rotate_left
                                      · rintro w' ⟨s0, s1, s2, s3, s4, s5, s6, s7, s8, s9, s10, s11⟩
                                        go_simp
                                        with_reducible rfl
                                      rotate_left
                                      · simp only [Act.put, List.setIfInBounds_toArray, List.set_cons_zero, List.set_cons_succ, i64_w, i32_w]
                                        rfl
                                      refine pure_ (i := 12) (N := some 104) (v := ?_) (a' := ?_) #[true, true, true, true, true, true, true, true, true, true, true, true, true] rfl rfl (any_of HT_.out (by kernel_rfl)) (fun _ _ _ h => h) (Or.inl ⟨by rfl, ?_⟩) ?_ ?_
                                      rotate_left
                                      · intro w'
                                        go_simp
                                        with_reducible rfl
                                      rotate_left
                                      · simp only [Act.put, List.setIfInBounds_toArray, List.set_cons_zero, List.set_cons_succ, i64_w, i32_w]
                                        rfl
                                      refine done_ (done_of HT_.out (by kernel_rfl)) ?_
                                      try go_wp2
                                      go_roundg k3
                                      case measure => have := HJ6.out; have := HJ22.out; have := HK3.out; omega
                                      case rel => exact ⟨(wrap64 (x15_3 + 1)), (by first | rfl | (simp; done) | (simp [*]; done)), (by first | exact H' | (rw [hji69]; exact H') | (simp only [hji69]; exact H')), ⟨by have := HJ6.out; have := HJ22.out; have := HK3.out; omega⟩, ⟨by (with_reducible repeat (first | apply Kd.N_alloc | apply Kd.N_drewN | apply Kd.N_drew)); exact HO_9.out⟩, ⟨by (with_reducible repeat (first | apply Kd.N_alloc | apply Kd.N_drewN | apply Kd.N_drew)); exact HO_10.out⟩, ⟨by (with_reducible repeat (first | apply Kd.N_alloc | apply Kd.N_drewN | apply Kd.N_drew)); exact HO_12.out⟩, ⟨by repeat (first | (with_reducible first | exact HB.out | apply below_alloc | apply pw_below_drewN | apply below_drew1) | exact HB.out)⟩⟩
                                    · rw [if_neg c73] at H
                                      have c73b0 : (((rd_T39 t374 (ji69)).f0) == ((rd_T39 t370 x15_3).f0)) = false := beq_eq_false_iff_ne.mpr c73
                                      have c73b1 : (((rd_T39 t374 (ji69)).f0) != ((rd_T39 t370 x15_3).f0)) = true := bne_iff_ne.mpr c73
                                      exact absurd (Option.some.inj H) (by rw [hT.out]; decide)
                                  · rw [if_neg c72] at H
                                    exact absurd H (by simp)
                                · rw [if_neg c71] at H
                                  exact absurd H (by simp)
                              · rw [if_neg c70] at H
                                exact absurd H (by simp)
                            · rw [if_neg c68] at H
                              have c68b0 : decide (x15_3 < (t370.length : Int)) = false := decide_eq_false c68
                              clear c68
                              replace H := Option.bind_eq_some_iff.mp H
                              obtain ⟨t403, A750, H⟩ := H
                              replace H : ((ulog_Same.f k3 t403 t363).bind fun t406 => (some t406)) = some r := H
                              have A75 := Aside0.mk A750
                              clear A750
                              replace H := Option.bind_eq_some_iff.mp H
                              obtain ⟨t406, A760, H⟩ := H
                              replace H : (some t406) = some r := H
                              have A76 := Aside0.mk A760
                              clear A760
                              obtain rfl := Option.some.inj H
                              go_wp2_with (first | ((with_reducible refine gate_callee (f := 16) rfl ?_); refine goesL_ (some 107) rfl rfl Try.func16 (by kernel_rfl) rfl #[.slice Ao28 t363.length co28, .int .i64 (Int.tmod (wrap64 (a2)) (wrap64 ((t363.length : Int) + 1))), .slice none 0 0] rfl (by (try simp only [List.map_toArray, List.map_cons, List.map_nil]); first | done | rfl | (simp only [List.length_drop, List.length_take]; rfl)) ?_; (refine (ulog_Join.calls k3 (fun k_ => (some k_ ≠ (.slice Ao29 t370.length co29 : Value).ownBlock ∧ some k_ ≠ (.slice Ao31 t374.length co31 : Value).ownBlock)) _ _ t363 (Int.tmod (wrap64 (a2)) (wrap64 ((t363.length : Int) + 1))) (fun k_ => False) _ _ ([] : List (S39)) t403 _ ?side1 ?side2 A75.out).mono ?_); (case side1 => exact Kd.N_V (HO_9.out)); (case side2 => exact Kd.V_nil _ _ _ _ _); rintro e w77 ⟨v404, rfl, ho0, hb⟩; refine ⟨_, rfl, ?_⟩; have n0_ := Aside0.mk (Kd.N_elder' (by (with_reducible repeat (first | apply Kd.N_alloc | apply Kd.N_drewN | apply Kd.N_drew)); exact HO_9.out) (Kd.N_base ho0) hb); have n1_ := Aside0.mk (Kd.N_elder' (by (with_reducible repeat (first | apply Kd.N_alloc | apply Kd.N_drewN | apply Kd.N_drew)); exact HO_10.out) (Kd.N_base ho0) hb); have n2_ := Aside0.mk (Kd.N_elder' (by (with_reducible repeat (first | apply Kd.N_alloc | apply Kd.N_drewN | apply Kd.N_drew)); exact HO_12.out) (Kd.N_base ho0) hb); have n3_ := Aside0.mk (Kd.N_lower (Kd.N_mono (ok' := fun k_ => some k_ ≠ (.slice Ao29 t370.length co29 : Value).ownBlock ∧ some k_ ≠ (.slice Ao31 t374.length co31 : Value).ownBlock) ho0 (fun k_ hk_ => ⟨Or.elim hk_ (fun hs_ => Or.elim hs_ (fun hs_ => hs_.1) (fun hs_ => (hs_).elim)) (fun hn_ => (Kd.fresh' (Kd.N_lt (by (with_reducible repeat (first | apply Kd.N_alloc | apply Kd.N_drewN | apply Kd.N_drew)); exact HO_10.out)) k_ hn_)), Or.elim hk_ (fun hs_ => Or.elim hs_ (fun hs_ => hs_.2) (fun hs_ => (hs_).elim)) (fun hn_ => (Kd.fresh' (Kd.N_lt (by (with_reducible repeat (first | apply Kd.N_alloc | apply Kd.N_drewN | apply Kd.N_drew)); exact HO_12.out)) k_ hn_))⟩)) (below_size (by repeat (first | (with_reducible first | exact HB.out | apply below_alloc | apply pw_below_drewN | apply below_drew1) | exact HB.out)))); have n4_ := Aside0.mk (below_step (by repeat (first | (with_reducible first | exact HB.out | apply below_alloc | apply pw_below_drewN | apply below_drew1) | exact HB.out)) hb); clear HO_9; clear HO_10; clear HO_12; clear HB; have HO_9 := n0_; have HO_10 := n1_; have HO_12 := n2_; have HO405 := n3_; have HB := n4_; clear n0_ n1_ n2_ n3_ n4_; (try clear hb); (try clear hb2); (try clear hk); (try clear hi); (try clear hgn_); (try clear ho0); obtain ⟨Ao78, co78, eo78⟩ := Kd.N_slice HO405.out; subst eo78) | ((with_reducible refine gate_callee (f := 20) rfl ?_); refine goesL_ (some 109) rfl rfl Try.func20 (by kernel_rfl) rfl #[.slice Ao78 t403.length co78, .slice Ao28 t363.length co28] rfl (by (try simp only [List.map_toArray, List.map_cons, List.map_nil]); first | done | rfl | (simp only [List.length_drop, List.length_take]; rfl)) ?_; (with_reducible refine (ulog_Same.calls k3 _ _ t403 _ _ t363 t406 _ ?side1 ?side2 ?side3 ?side4 A76.out).mono ?_); (case side1 => repeat (first | exact (Kd.N_reads' HO405.out).2.2 | (with_reducible refine Kd.C_alloc ?_ _) | (with_reducible refine Kd.C_drewN ?_ _) | (with_reducible refine Kd.C_drew ?_))); (case side2 => exact (Kd.N_reads' HO405.out).2.1); (case side3 => repeat (first | exact (Kd.N_reads' HO_9.out).2.2 | (with_reducible refine Kd.C_alloc ?_ _) | (with_reducible refine Kd.C_drewN ?_ _) | (with_reducible refine Kd.C_drew ?_))); (case side4 => exact (Kd.N_reads' HO_9.out).2.1); rintro e w79 ⟨rfl, hb⟩; refine ⟨_, rfl, ?_⟩; have n0_ := Aside0.mk (Kd.N_below (by (with_reducible repeat (first | apply Kd.N_alloc | apply Kd.N_drewN | apply Kd.N_drew)); exact HO_9.out) hb); have n1_ := Aside0.mk (Kd.N_below (by (with_reducible repeat (first | apply Kd.N_alloc | apply Kd.N_drewN | apply Kd.N_drew)); exact HO_10.out) hb); have n2_ := Aside0.mk (Kd.N_below (by (with_reducible repeat (first | apply Kd.N_alloc | apply Kd.N_drewN | apply Kd.N_drew)); exact HO_12.out) hb); have n3_ := Aside0.mk (Kd.N_below (by (with_reducible repeat (first | apply Kd.N_alloc | apply Kd.N_drewN | apply Kd.N_drew)); exact HO405.out) hb); have n4_ := Aside0.mk (below_step (by repeat (first | (with_reducible first | exact HB.out | apply below_alloc | apply pw_below_drewN | apply below_drew1) | exact HB.out)) hb); clear HO_9; clear HO_10; clear HO_12; clear HO405; clear HB; have HO_9 := n0_; have HO_10 := n1_; have HO_12 := n2_; have HO405 := n3_; have HB := n4_; clear n0_ n1_ n2_ n3_ n4_; (try clear hb); (try clear hb2); (try clear hk); (try clear hi); (try clear hgn_)))
                              go_ret
                              exact ⟨by first | rfl | (simp [errW_none, errW_some] <;> rfl) | (simp only [← hji19]; first | rfl | (simp [errW_none, errW_some] <;> rfl)) | (simp [*, errW_none, errW_some] <;> rfl), by repeat (first | (with_reducible first | exact HB.out | apply below_alloc | apply pw_below_drewN | apply below_drew1) | exact HB.out)⟩
                · rw [if_neg c21] at H
                  exact absurd H (by simp)
              · rw [if_neg c20] at H
                exact absurd H (by simp)
  · replace c6 := Bool.eq_false_iff.mpr c6
    subst c6
    have H1 : (some false) = some r := by rw [if_neg (show ¬ (false = true) by decide)] at H; exact H
    clear H
    have H := H1
    clear H1
    exact absurd (Option.some.inj H) (by rw [hT.out]; decide)

/-- THE ONE PURE STATEMENT of diwanlaw9_UlogJoin: yours. -/
def diwanlaw9_UlogJoin.Pure : Prop := ∀ (l0 : List Int) (l1 : List Int) (a2 : Int) (a3 : Int), l0.length ≤ maxLen → l0.length * 1 ≤ 140737488351232 → (∀ x ∈ l0, (Lit.int .u8 x).wf = true) → l1.length ≤ maxLen → l1.length * 1 ≤ 140737488351232 → (∀ x ∈ l1, (Lit.int .u8 x).wf = true) → (Lit.int .u8 a2).wf = true → (Lit.int .u8 a3).wf = true → ∃ k, diwanlaw9_UlogJoin.f k l0 l1 a2 a3 = some true
theorem diwanlaw9_UlogJoin.walk (P : diwanlaw9_UlogJoin.Pure) (a0 : Option Addr) (len0 cap0 : Nat) (z0 : List Int) (a1 : Option Addr) (len1 cap1 : Nat) (z1 : List Int) (a2 : Int) (a3 : Int) (w : World) (w0 : (a0 = none ∧ len0 = 0 ∧ cap0 = 0 ∧ z0 = []) ∨ ∃ x, a0 = some x ∧ len0 ≤ cap0 ∧ cap0 ≤ maxLen ∧ z0.length = cap0 ∧ (∀ i, i < z0.length → w.cell? (x.add i) = some (.int .u8 (z0.getD i 0))) ∧ ∀ n ∈ z0, (Lit.int .u8 n).wf = true) (y0 : len0 * 1 ≤ 140737488351232) (w1 : (a1 = none ∧ len1 = 0 ∧ cap1 = 0 ∧ z1 = []) ∨ ∃ x, a1 = some x ∧ len1 ≤ cap1 ∧ cap1 ≤ maxLen ∧ z1.length = cap1 ∧ (∀ i, i < z1.length → w.cell? (x.add i) = some (.int .u8 (z1.getD i 0))) ∧ ∀ n ∈ z1, (Lit.int .u8 n).wf = true) (y1 : len1 * 1 ≤ 140737488351232) (w2 : (Lit.int .u8 a2).wf = true) (w3 : (Lit.int .u8 a3).wf = true) :
    Calls Try.prog 4 #[.slice a0 len0 cap0, .slice a1 len1 cap1, .int .u8 a2, .int .u8 a3] w fun e w' => e = .returned (.bool true) ∧ Below w.heap.size w w' := by
  obtain ⟨l0, rfl, hr0, hm0, hw0, hc0⟩ := ReadsInt.ofRowC w0
  obtain ⟨l1, rfl, hr1, hm1, hw1, hc1⟩ := ReadsInt.ofRowC w1
  obtain ⟨k, h⟩ := P l0 l1 a2 a3 hm0 y0 hw0 hm1 y1 hw1 w2 w3
  refine (diwanlaw9_UlogJoin.calls k _ _ l0 _ _ l1 a2 a3 true w (Kd.C_of_reads (d := (0 : Int)) (h1 := fun _ => rfl) hr0) hc0 (Kd.C_of_reads (d := (0 : Int)) (h1 := fun _ => rfl) hr1) hc1 h ⟨rfl⟩).mono ?_
  rintro e w' ⟨rfl, hd⟩
  exact ⟨rfl, hd⟩

end Go.Proofs.Ytipeiombaempoaa.Q
