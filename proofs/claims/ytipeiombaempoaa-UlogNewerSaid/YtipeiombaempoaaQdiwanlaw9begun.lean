/- One Go function told as a Lean function, and that the Go code comes to its answers: out of the print of the program, by the kit and by programs of this session. -/
import Derived.Test.YtipeiombaempoaaQ0
import Derived.Test.YtipeiombaempoaaQulogA
import Derived.Test.YtipeiombaempoaaQulogJoin
import Derived.Test.YtipeiombaempoaaQulogSame
namespace Go.Proofs.Ytipeiombaempoaa.Q
open Go.RowKit Go.Proofs.YtipeiombaempoaaW.PrintWords Go.Proofs.YtipeiombaempoaaW.PrintLast Go.Proofs.YtipeiombaempoaaW.PrintMore
attribute [local go_sem] max2_int min2_int max_two min_two max_three min_three max_four min_four   -- for this text's walks alone
set_option linter.unusedVariables false
set_option linter.unusedSimpArgs false

/-! ### diwanlaw9_begun: function 8 -/
def diwanlaw9_begun.f (k : Nat)  : Option (Bool) := (some (([(⟨1, true, (⟨0, 0, ([] : List (S55)), ([] : List (S58))⟩ : S37)⟩ : S39), (⟨2, true, (⟨0, 0, ([] : List (S55)), ([] : List (S58))⟩ : S37)⟩ : S39)] : List (S39)) : List (S39))).bind fun y178 => ((ulog_Join.f k y178 1 (([(⟨3, true, (⟨0, 0, ([] : List (S55)), ([] : List (S58))⟩ : S37)⟩ : S39)] : List (S39)))).bind fun t184 => ((ulog_Term.f k y178 2).bind fun t187 => (if t187 = 2 then ((ulog_Term.f k y178 3).bind fun t188 => (if t188 = 0 then ((ulog_Has.f k y178 1 1).bind fun t189 => (if t189 = true then ((ulog_Has.f k y178 0 9).bind fun t190 => (if t190 = true then ((ulog_Has.f k y178 2 1).bind fun t191 => (if t191 = true then (some false) else (if (t184.length : Int) = 2 then (if 1 < (t184.length : Int) then (if ((rd_T39 t184 1).f0) = 3 then ((ulog_Newer.f k y178 2 2).bind fun t193 => (if t193 = true then ((ulog_Newer.f k y178 1 2).bind fun t194 => (if t194 = true then (some false) else ((ulog_Same.f k y178 y178).bind fun t195 => (if t195 = true then ((ulog_Same.f k y178 t184).bind fun t196 => (some (!t196))) else (some false))))) else (some false))) else (some false)) else (none)) else (some false)))) else (some false))) else (some false))) else (some false))) else (some false))))
set_option maxHeartbeats 8000000 in
set_option maxRecDepth 100000 in
theorem diwanlaw9_begun.calls (k : Nat)  (r : Bool) (w : World) (h : diwanlaw9_begun.f k  = some r) (hT : Aside0 (r = true)) :
    Calls Try.prog 8 #[] w fun e w' => e = .returned (.bool r) ∧ Below w.heap.size w w' := by
  have hu39 := Try.underlying39
  have HB := Aside0.mk (Below.refl w.heap.size w)
  have H : ((some (([(⟨1, true, (⟨0, 0, ([] : List (S55)), ([] : List (S58))⟩ : S37)⟩ : S39), (⟨2, true, (⟨0, 0, ([] : List (S55)), ([] : List (S58))⟩ : S37)⟩ : S39)] : List (S39)) : List (S39))).bind fun y178 => ((ulog_Join.f k y178 1 (([(⟨3, true, (⟨0, 0, ([] : List (S55)), ([] : List (S58))⟩ : S37)⟩ : S39)] : List (S39)))).bind fun t184 => ((ulog_Term.f k y178 2).bind fun t187 => (if t187 = 2 then ((ulog_Term.f k y178 3).bind fun t188 => (if t188 = 0 then ((ulog_Has.f k y178 1 1).bind fun t189 => (if t189 = true then ((ulog_Has.f k y178 0 9).bind fun t190 => (if t190 = true then ((ulog_Has.f k y178 2 1).bind fun t191 => (if t191 = true then (some false) else (if (t184.length : Int) = 2 then (if 1 < (t184.length : Int) then (if ((rd_T39 t184 1).f0) = 3 then ((ulog_Newer.f k y178 2 2).bind fun t193 => (if t193 = true then ((ulog_Newer.f k y178 1 2).bind fun t194 => (if t194 = true then (some false) else ((ulog_Same.f k y178 y178).bind fun t195 => (if t195 = true then ((ulog_Same.f k y178 t184).bind fun t196 => (some (!t196))) else (some false))))) else (some false))) else (some false)) else (none)) else (some false)))) else (some false))) else (some false))) else (some false))) else (some false))))) = some r := h
  clear h
  obtain ⟨y178, hy178⟩ : ∃ y_ : List (S39), y_ = (([(⟨1, true, (⟨0, 0, ([] : List (S55)), ([] : List (S58))⟩ : S37)⟩ : S39), (⟨2, true, (⟨0, 0, ([] : List (S55)), ([] : List (S58))⟩ : S37)⟩ : S39)] : List (S39))) := ⟨_, rfl⟩
  replace H : ((ulog_Join.f k y178 1 (([(⟨3, true, (⟨0, 0, ([] : List (S55)), ([] : List (S58))⟩ : S37)⟩ : S39)] : List (S39)))).bind fun t184 => ((ulog_Term.f k y178 2).bind fun t187 => (if t187 = 2 then ((ulog_Term.f k y178 3).bind fun t188 => (if t188 = 0 then ((ulog_Has.f k y178 1 1).bind fun t189 => (if t189 = true then ((ulog_Has.f k y178 0 9).bind fun t190 => (if t190 = true then ((ulog_Has.f k y178 2 1).bind fun t191 => (if t191 = true then (some false) else (if (t184.length : Int) = 2 then (if 1 < (t184.length : Int) then (if ((rd_T39 t184 1).f0) = 3 then ((ulog_Newer.f k y178 2 2).bind fun t193 => (if t193 = true then ((ulog_Newer.f k y178 1 2).bind fun t194 => (if t194 = true then (some false) else ((ulog_Same.f k y178 y178).bind fun t195 => (if t195 = true then ((ulog_Same.f k y178 t184).bind fun t196 => (some (!t196))) else (some false))))) else (some false))) else (some false)) else (none)) else (some false)))) else (some false))) else (some false))) else (some false))) else (some false)))) = some r := by first | (rw [hy178]; with_reducible exact H) | (have H2_ := (Option.bind_some _ _).symm.trans H; rw [hy178]; with_reducible exact H2_) | (have H2_ := (Option.bind_some _ _).symm.trans H; with_reducible exact H2_) | with_reducible exact H | (rw [hy178]; exact H) | exact H
  have Ny178 := Aside0.mk hy178
  clear hy178
  obtain ⟨y181, hy181⟩ : ∃ y_ : List (S39), y_ = (([(⟨3, true, (⟨0, 0, ([] : List (S55)), ([] : List (S58))⟩ : S37)⟩ : S39)] : List (S39))) := ⟨_, rfl⟩
  replace H : ((ulog_Join.f k y178 1 y181).bind fun t184 => ((ulog_Term.f k y178 2).bind fun t187 => (if t187 = 2 then ((ulog_Term.f k y178 3).bind fun t188 => (if t188 = 0 then ((ulog_Has.f k y178 1 1).bind fun t189 => (if t189 = true then ((ulog_Has.f k y178 0 9).bind fun t190 => (if t190 = true then ((ulog_Has.f k y178 2 1).bind fun t191 => (if t191 = true then (some false) else (if (t184.length : Int) = 2 then (if 1 < (t184.length : Int) then (if ((rd_T39 t184 1).f0) = 3 then ((ulog_Newer.f k y178 2 2).bind fun t193 => (if t193 = true then ((ulog_Newer.f k y178 1 2).bind fun t194 => (if t194 = true then (some false) else ((ulog_Same.f k y178 y178).bind fun t195 => (if t195 = true then ((ulog_Same.f k y178 t184).bind fun t196 => (some (!t196))) else (some false))))) else (some false))) else (some false)) else (none)) else (some false)))) else (some false))) else (some false))) else (some false))) else (some false)))) = some r := by first | (rw [hy181]; with_reducible exact H) | (have H2_ := (Option.bind_some _ _).symm.trans H; rw [hy181]; with_reducible exact H2_) | (have H2_ := (Option.bind_some _ _).symm.trans H; with_reducible exact H2_) | with_reducible exact H | (rw [hy181]; exact H) | exact H
  have Ny181 := Aside0.mk hy181
  clear hy181
  replace H := Option.bind_eq_some_iff.mp H
  obtain ⟨t184, A10, H⟩ := H
  replace H : ((ulog_Term.f k y178 2).bind fun t187 => (if t187 = 2 then ((ulog_Term.f k y178 3).bind fun t188 => (if t188 = 0 then ((ulog_Has.f k y178 1 1).bind fun t189 => (if t189 = true then ((ulog_Has.f k y178 0 9).bind fun t190 => (if t190 = true then ((ulog_Has.f k y178 2 1).bind fun t191 => (if t191 = true then (some false) else (if (t184.length : Int) = 2 then (if 1 < (t184.length : Int) then (if ((rd_T39 t184 1).f0) = 3 then ((ulog_Newer.f k y178 2 2).bind fun t193 => (if t193 = true then ((ulog_Newer.f k y178 1 2).bind fun t194 => (if t194 = true then (some false) else ((ulog_Same.f k y178 y178).bind fun t195 => (if t195 = true then ((ulog_Same.f k y178 t184).bind fun t196 => (some (!t196))) else (some false))))) else (some false))) else (some false)) else (none)) else (some false)))) else (some false))) else (some false))) else (some false))) else (some false))) = some r := H
  have A1 := Aside0.mk A10
  clear A10
  replace H := Option.bind_eq_some_iff.mp H
  obtain ⟨t187, A20, H⟩ := H
  replace H : (if t187 = 2 then ((ulog_Term.f k y178 3).bind fun t188 => (if t188 = 0 then ((ulog_Has.f k y178 1 1).bind fun t189 => (if t189 = true then ((ulog_Has.f k y178 0 9).bind fun t190 => (if t190 = true then ((ulog_Has.f k y178 2 1).bind fun t191 => (if t191 = true then (some false) else (if (t184.length : Int) = 2 then (if 1 < (t184.length : Int) then (if ((rd_T39 t184 1).f0) = 3 then ((ulog_Newer.f k y178 2 2).bind fun t193 => (if t193 = true then ((ulog_Newer.f k y178 1 2).bind fun t194 => (if t194 = true then (some false) else ((ulog_Same.f k y178 y178).bind fun t195 => (if t195 = true then ((ulog_Same.f k y178 t184).bind fun t196 => (some (!t196))) else (some false))))) else (some false))) else (some false)) else (none)) else (some false)))) else (some false))) else (some false))) else (some false))) else (some false)) = some r := H
  have A2 := Aside0.mk A20
  clear A20
  by_cases c3 : t187 = 2
  · rw [if_pos c3] at H
    have c3b0 : (t187 == 2) = true := beq_iff_eq.mpr c3
    have c3b1 : (t187 != 2) = false := bne_eq_false_iff_eq.mpr c3
    clear c3
    replace H := Option.bind_eq_some_iff.mp H
    obtain ⟨t188, A40, H⟩ := H
    replace H : (if t188 = 0 then ((ulog_Has.f k y178 1 1).bind fun t189 => (if t189 = true then ((ulog_Has.f k y178 0 9).bind fun t190 => (if t190 = true then ((ulog_Has.f k y178 2 1).bind fun t191 => (if t191 = true then (some false) else (if (t184.length : Int) = 2 then (if 1 < (t184.length : Int) then (if ((rd_T39 t184 1).f0) = 3 then ((ulog_Newer.f k y178 2 2).bind fun t193 => (if t193 = true then ((ulog_Newer.f k y178 1 2).bind fun t194 => (if t194 = true then (some false) else ((ulog_Same.f k y178 y178).bind fun t195 => (if t195 = true then ((ulog_Same.f k y178 t184).bind fun t196 => (some (!t196))) else (some false))))) else (some false))) else (some false)) else (none)) else (some false)))) else (some false))) else (some false))) else (some false)) = some r := H
    have A4 := Aside0.mk A40
    clear A40
    by_cases c5 : t188 = 0
    · rw [if_pos c5] at H
      have c5b0 : (t188 == 0) = true := beq_iff_eq.mpr c5
      have c5b1 : (t188 != 0) = false := bne_eq_false_iff_eq.mpr c5
      clear c5
      replace H := Option.bind_eq_some_iff.mp H
      obtain ⟨t189, A60, H⟩ := H
      replace H : (if t189 = true then ((ulog_Has.f k y178 0 9).bind fun t190 => (if t190 = true then ((ulog_Has.f k y178 2 1).bind fun t191 => (if t191 = true then (some false) else (if (t184.length : Int) = 2 then (if 1 < (t184.length : Int) then (if ((rd_T39 t184 1).f0) = 3 then ((ulog_Newer.f k y178 2 2).bind fun t193 => (if t193 = true then ((ulog_Newer.f k y178 1 2).bind fun t194 => (if t194 = true then (some false) else ((ulog_Same.f k y178 y178).bind fun t195 => (if t195 = true then ((ulog_Same.f k y178 t184).bind fun t196 => (some (!t196))) else (some false))))) else (some false))) else (some false)) else (none)) else (some false)))) else (some false))) else (some false)) = some r := H
      have A6 := Aside0.mk A60
      clear A60
      by_cases c7 : t189 = true
      · subst c7
        have H1 : ((ulog_Has.f k y178 0 9).bind fun t190 => (if t190 = true then ((ulog_Has.f k y178 2 1).bind fun t191 => (if t191 = true then (some false) else (if (t184.length : Int) = 2 then (if 1 < (t184.length : Int) then (if ((rd_T39 t184 1).f0) = 3 then ((ulog_Newer.f k y178 2 2).bind fun t193 => (if t193 = true then ((ulog_Newer.f k y178 1 2).bind fun t194 => (if t194 = true then (some false) else ((ulog_Same.f k y178 y178).bind fun t195 => (if t195 = true then ((ulog_Same.f k y178 t184).bind fun t196 => (some (!t196))) else (some false))))) else (some false))) else (some false)) else (none)) else (some false)))) else (some false))) = some r := by rw [if_pos rfl] at H; exact H
        clear H
        have H := H1
        clear H1
        replace H := Option.bind_eq_some_iff.mp H
        obtain ⟨t190, A80, H⟩ := H
        replace H : (if t190 = true then ((ulog_Has.f k y178 2 1).bind fun t191 => (if t191 = true then (some false) else (if (t184.length : Int) = 2 then (if 1 < (t184.length : Int) then (if ((rd_T39 t184 1).f0) = 3 then ((ulog_Newer.f k y178 2 2).bind fun t193 => (if t193 = true then ((ulog_Newer.f k y178 1 2).bind fun t194 => (if t194 = true then (some false) else ((ulog_Same.f k y178 y178).bind fun t195 => (if t195 = true then ((ulog_Same.f k y178 t184).bind fun t196 => (some (!t196))) else (some false))))) else (some false))) else (some false)) else (none)) else (some false)))) else (some false)) = some r := H
        have A8 := Aside0.mk A80
        clear A80
        by_cases c9 : t190 = true
        · subst c9
          have H1 : ((ulog_Has.f k y178 2 1).bind fun t191 => (if t191 = true then (some false) else (if (t184.length : Int) = 2 then (if 1 < (t184.length : Int) then (if ((rd_T39 t184 1).f0) = 3 then ((ulog_Newer.f k y178 2 2).bind fun t193 => (if t193 = true then ((ulog_Newer.f k y178 1 2).bind fun t194 => (if t194 = true then (some false) else ((ulog_Same.f k y178 y178).bind fun t195 => (if t195 = true then ((ulog_Same.f k y178 t184).bind fun t196 => (some (!t196))) else (some false))))) else (some false))) else (some false)) else (none)) else (some false)))) = some r := by rw [if_pos rfl] at H; exact H
          clear H
          have H := H1
          clear H1
          replace H := Option.bind_eq_some_iff.mp H
          obtain ⟨t191, A100, H⟩ := H
          replace H : (if t191 = true then (some false) else (if (t184.length : Int) = 2 then (if 1 < (t184.length : Int) then (if ((rd_T39 t184 1).f0) = 3 then ((ulog_Newer.f k y178 2 2).bind fun t193 => (if t193 = true then ((ulog_Newer.f k y178 1 2).bind fun t194 => (if t194 = true then (some false) else ((ulog_Same.f k y178 y178).bind fun t195 => (if t195 = true then ((ulog_Same.f k y178 t184).bind fun t196 => (some (!t196))) else (some false))))) else (some false))) else (some false)) else (none)) else (some false))) = some r := H
          have A10 := Aside0.mk A100
          clear A100
          by_cases c11 : t191 = true
          · subst c11
            have H1 : (some false) = some r := by rw [if_pos rfl] at H; exact H
            clear H
            have H := H1
            clear H1
            exact absurd (Option.some.inj H) (by rw [hT.out]; decide)
          · replace c11 := Bool.eq_false_iff.mpr c11
            subst c11
            have H1 : (if (t184.length : Int) = 2 then (if 1 < (t184.length : Int) then (if ((rd_T39 t184 1).f0) = 3 then ((ulog_Newer.f k y178 2 2).bind fun t193 => (if t193 = true then ((ulog_Newer.f k y178 1 2).bind fun t194 => (if t194 = true then (some false) else ((ulog_Same.f k y178 y178).bind fun t195 => (if t195 = true then ((ulog_Same.f k y178 t184).bind fun t196 => (some (!t196))) else (some false))))) else (some false))) else (some false)) else (none)) else (some false)) = some r := by rw [if_neg (show ¬ (false = true) by decide)] at H; exact H
            clear H
            have H := H1
            clear H1
            by_cases c12 : (t184.length : Int) = 2
            · rw [if_pos c12] at H
              have c12b0 : ((t184.length : Int) == 2) = true := beq_iff_eq.mpr c12
              have c12b1 : ((t184.length : Int) != 2) = false := bne_eq_false_iff_eq.mpr c12
              clear c12
              by_cases c13 : 1 < (t184.length : Int)
              · rw [if_pos c13] at H
                have c13b0 : decide (1 < (t184.length : Int)) = true := decide_eq_true c13
                have c13b1 : decide (1 < t184.length) = true := decide_eq_true (by omega)
                clear c13
                by_cases c14 : ((rd_T39 t184 1).f0) = 3
                · rw [if_pos c14] at H
                  have c14b0 : (((rd_T39 t184 1).f0) == 3) = true := beq_iff_eq.mpr c14
                  have c14b1 : (((rd_T39 t184 1).f0) != 3) = false := bne_eq_false_iff_eq.mpr c14
                  clear c14
                  replace H := Option.bind_eq_some_iff.mp H
                  obtain ⟨t193, A150, H⟩ := H
                  replace H : (if t193 = true then ((ulog_Newer.f k y178 1 2).bind fun t194 => (if t194 = true then (some false) else ((ulog_Same.f k y178 y178).bind fun t195 => (if t195 = true then ((ulog_Same.f k y178 t184).bind fun t196 => (some (!t196))) else (some false))))) else (some false)) = some r := H
                  have A15 := Aside0.mk A150
                  clear A150
                  by_cases c16 : t193 = true
                  · subst c16
                    have H1 : ((ulog_Newer.f k y178 1 2).bind fun t194 => (if t194 = true then (some false) else ((ulog_Same.f k y178 y178).bind fun t195 => (if t195 = true then ((ulog_Same.f k y178 t184).bind fun t196 => (some (!t196))) else (some false))))) = some r := by rw [if_pos rfl] at H; exact H
                    clear H
                    have H := H1
                    clear H1
                    replace H := Option.bind_eq_some_iff.mp H
                    obtain ⟨t194, A170, H⟩ := H
                    replace H : (if t194 = true then (some false) else ((ulog_Same.f k y178 y178).bind fun t195 => (if t195 = true then ((ulog_Same.f k y178 t184).bind fun t196 => (some (!t196))) else (some false)))) = some r := H
                    have A17 := Aside0.mk A170
                    clear A170
                    by_cases c18 : t194 = true
                    · subst c18
                      have H1 : (some false) = some r := by rw [if_pos rfl] at H; exact H
                      clear H
                      have H := H1
                      clear H1
                      exact absurd (Option.some.inj H) (by rw [hT.out]; decide)
                    · replace c18 := Bool.eq_false_iff.mpr c18
                      subst c18
                      have H1 : ((ulog_Same.f k y178 y178).bind fun t195 => (if t195 = true then ((ulog_Same.f k y178 t184).bind fun t196 => (some (!t196))) else (some false))) = some r := by rw [if_neg (show ¬ (false = true) by decide)] at H; exact H
                      clear H
                      have H := H1
                      clear H1
                      replace H := Option.bind_eq_some_iff.mp H
                      obtain ⟨t195, A190, H⟩ := H
                      replace H : (if t195 = true then ((ulog_Same.f k y178 t184).bind fun t196 => (some (!t196))) else (some false)) = some r := H
                      have A19 := Aside0.mk A190
                      clear A190
                      by_cases c20 : t195 = true
                      · subst c20
                        have H1 : ((ulog_Same.f k y178 t184).bind fun t196 => (some (!t196))) = some r := by rw [if_pos rfl] at H; exact H
                        clear H
                        have H := H1
                        clear H1
                        replace H := Option.bind_eq_some_iff.mp H
                        obtain ⟨t196, A210, H⟩ := H
                        replace H : (some (!t196)) = some r := H
                        have A21 := Aside0.mk A210
                        clear A210
                        obtain rfl := Option.some.inj H
                        go_enter Try.func8, Try.ntmps8
                        go_wp2_with (first | ((with_reducible refine gate_dst (N := 5) rfl ?_); (try (refine gate_guard (by rfl) ?_; dsimp only)); refine Kd.N_lit k39 _ 39 ?hg (N' := 5) ?hd (xs := ([(⟨1, true, (⟨0, 0, ([] : List (S55)), ([] : List (S58))⟩ : S37)⟩ : S39), (⟨2, true, (⟨0, 0, ([] : List (S55)), ([] : List (S58))⟩ : S37)⟩ : S39)] : List (S39))) (inner := [.int .i64 1, .bool true, .int .i64 0, .int .i64 0, .slice none 0 0, .slice none 0 0, .int .i64 2, .bool true, .int .i64 0, .int .i64 0, .slice none 0 0, .slice none 0 0]) (ok := (fun _ => True)) (okp := (fun _ => True)) ?hr ?hp (fun _ hk => hk) ((show ∀ k_, w.heap.size ≤ k_ → (fun _ => True) k_ from fun k_ hk => trivial) _ (Nat.le_refl _)) (Below.refl _ _) (Nat.le_refl _) (by simp) ?_; (case hd => rfl); (case hg => rfl); (case hr => first | (go_simp; done) | (go_simp; rfl)); (case hp => exact (Reps.c6 (show Kd.FK k39 _ _ (⟨1, true, (⟨0, 0, ([] : List (S55)), ([] : List (S58))⟩ : S37)⟩ : S39) [.int .i64 1, .bool true, .int .i64 0, .int .i64 0, .slice none 0 0, .slice none 0 0] from (k39_mkF _ _ (⟨1, true, (⟨0, 0, ([] : List (S55)), ([] : List (S58))⟩ : S37)⟩ : S39) (Nat.le_refl _) (Kd.F_nil _ _ _) (Nat.le_refl _) (Kd.F_nil _ _ _))) (Reps.c6 (show Kd.FK k39 _ _ (⟨2, true, (⟨0, 0, ([] : List (S55)), ([] : List (S58))⟩ : S37)⟩ : S39) [.int .i64 2, .bool true, .int .i64 0, .int .i64 0, .slice none 0 0, .slice none 0 0] from (k39_mkF _ _ (⟨2, true, (⟨0, 0, ([] : List (S55)), ([] : List (S58))⟩ : S37)⟩ : S39) (Nat.le_refl _) (Kd.F_nil _ _ _) (Nat.le_refl _) (Kd.F_nil _ _ _))) (Reps.none _ _)))); intro v179 w22 ho23 hb hg_ hnew_; clear hg_ hnew_; (first | rw [← Ny178.out] at ho23 | (simp only [Int.reduceToNat] at ho23; rw [← Ny178.out] at ho23)); have n0_ := Aside0.mk (Kd.N_lower ho23 (below_size (by repeat (first | (with_reducible first | exact HB.out | apply below_alloc | apply pw_below_drewN | apply below_drew1) | exact HB.out)))); have n1_ := Aside0.mk (below_step (by repeat (first | (with_reducible first | exact HB.out | apply below_alloc | apply pw_below_drewN | apply below_drew1) | exact HB.out)) hb); clear HB; have HO180 := n0_; have HB := n1_; clear n0_ n1_; clear hb ho23) | ((with_reducible refine gate_dst (N := 8) rfl ?_); (try (refine gate_guard (by rfl) ?_; dsimp only)); refine Kd.N_lit k39 _ 39 ?hg (N' := 8) ?hd (xs := ([(⟨3, true, (⟨0, 0, ([] : List (S55)), ([] : List (S58))⟩ : S37)⟩ : S39)] : List (S39))) (inner := [.int .i64 3, .bool true, .int .i64 0, .int .i64 0, .slice none 0 0, .slice none 0 0]) (ok := (fun k_ => some k_ ≠ (v179 : Value).ownBlock)) (okp := (fun k_ => some k_ ≠ (v179 : Value).ownBlock)) ?hr ?hp (fun _ hk => hk) ((show ∀ k_, w22.heap.size ≤ k_ → (fun k_ => some k_ ≠ (v179 : Value).ownBlock) k_ from fun k_ hk => Kd.fresh' (Kd.N_lt (by (with_reducible repeat (first | apply Kd.N_alloc | apply Kd.N_drewN | apply Kd.N_drew)); exact HO180.out)) k_ hk) _ (Nat.le_refl _)) (Below.refl _ _) (Nat.le_refl _) (by simp) ?_; (case hd => rfl); (case hg => rfl); (case hr => first | (go_simp; done) | (go_simp; rfl)); (case hp => exact (Reps.c6 (show Kd.FK k39 _ _ (⟨3, true, (⟨0, 0, ([] : List (S55)), ([] : List (S58))⟩ : S37)⟩ : S39) [.int .i64 3, .bool true, .int .i64 0, .int .i64 0, .slice none 0 0, .slice none 0 0] from (k39_mkF _ _ (⟨3, true, (⟨0, 0, ([] : List (S55)), ([] : List (S58))⟩ : S37)⟩ : S39) (Nat.le_refl _) (Kd.F_nil _ _ _) (Nat.le_refl _) (Kd.F_nil _ _ _))) (Reps.none _ _))); intro v182 w24 ho25 hb hg_ hnew_; clear hg_ hnew_; (first | rw [← Ny181.out] at ho25 | (simp only [Int.reduceToNat] at ho25; rw [← Ny181.out] at ho25)); have n0_ := Aside0.mk (Kd.N_elder' (by (with_reducible repeat (first | apply Kd.N_alloc | apply Kd.N_drewN | apply Kd.N_drew)); exact HO180.out) (Kd.N_base ho25) hb); have n1_ := Aside0.mk (Kd.N_lower ho25 (below_size (by repeat (first | (with_reducible first | exact HB.out | apply below_alloc | apply pw_below_drewN | apply below_drew1) | exact HB.out)))); have n2_ := Aside0.mk (below_step (by repeat (first | (with_reducible first | exact HB.out | apply below_alloc | apply pw_below_drewN | apply below_drew1) | exact HB.out)) hb); clear HO180; clear HB; have HO180 := n0_; have HO183 := n1_; have HB := n2_; clear n0_ n1_ n2_; clear hb ho25; obtain ⟨Ao26, co26, eo26⟩ := Kd.N_slice HO180.out; subst eo26; obtain ⟨Ao27, co27, eo27⟩ := Kd.N_slice HO183.out; subst eo27) | ((with_reducible refine gate_callee (f := 16) rfl ?_); refine goesL_ (some 9) rfl rfl Try.func16 (by kernel_rfl) rfl #[.slice Ao26 y178.length co26, .int .i64 1, .slice Ao27 y181.length co27] rfl (by (try simp only [List.map_toArray, List.map_cons, List.map_nil]); first | done | rfl | (simp only [List.length_drop, List.length_take]; rfl)) ?_; (with_reducible refine (ulog_Join.calls k (fun k_ => (True ∧ some k_ ≠ (.slice Ao27 y181.length co27 : Value).ownBlock)) _ _ y178 1 (fun k_ => some k_ ≠ (.slice Ao26 y178.length co26 : Value).ownBlock) _ _ y181 t184 _ ?side1 ?side2 A1.out).mono ?_); (case side1 => exact Kd.N_V (HO180.out)); (case side2 => exact Kd.N_V (HO183.out)); rintro e w28 ⟨v185, rfl, ho0, hb⟩; refine ⟨_, rfl, ?_⟩; have n0_ := Aside0.mk (Kd.N_elder' (by (with_reducible repeat (first | apply Kd.N_alloc | apply Kd.N_drewN | apply Kd.N_drew)); exact HO180.out) (Kd.N_base ho0) hb); have n1_ := Aside0.mk (Kd.N_elder' (by (with_reducible repeat (first | apply Kd.N_alloc | apply Kd.N_drewN | apply Kd.N_drew)); exact HO183.out) (Kd.N_base ho0) hb); have n2_ := Aside0.mk (Kd.N_lower (Kd.N_mono (ok' := fun k_ => True) ho0 (fun k_ hk_ => trivial)) (below_size (by repeat (first | (with_reducible first | exact HB.out | apply below_alloc | apply pw_below_drewN | apply below_drew1) | exact HB.out)))); have n3_ := Aside0.mk (below_step (by repeat (first | (with_reducible first | exact HB.out | apply below_alloc | apply pw_below_drewN | apply below_drew1) | exact HB.out)) hb); clear HO180; clear HO183; clear HB; have HO180 := n0_; have HO183 := n1_; have HO186 := n2_; have HB := n3_; clear n0_ n1_ n2_ n3_; (try clear hb); (try clear hb2); (try clear hk); (try clear hi); (try clear hgn_); (try clear ho0)) | ((with_reducible refine gate_callee (f := 11) rfl ?_); refine goesL_ (some 11) rfl rfl Try.func11 (by kernel_rfl) rfl #[.slice Ao26 y178.length co26, .int .i64 2] rfl (by (try simp only [List.map_toArray, List.map_cons, List.map_nil]); first | done | rfl | (simp only [List.length_drop, List.length_take]; rfl)) ?_; (with_reducible refine (ulog_Term.calls k _ _ y178 2 t187 _ ?side1 ?side2 A2.out).mono ?_); (case side1 => repeat (first | exact (Kd.N_reads' HO180.out).2.2 | (with_reducible refine Kd.C_alloc ?_ _) | (with_reducible refine Kd.C_drewN ?_ _) | (with_reducible refine Kd.C_drew ?_))); (case side2 => exact (Kd.N_reads' HO180.out).2.1); rintro e w' ⟨rfl, ⟨nd, rfl⟩⟩; refine ⟨_, rfl, ?_⟩) | (go_at_call 11; (with_reducible refine (ulog_Term.calls k _ _ y178 3 t188 _ ?side1 ?side2 A4.out).mono ?_); (case side1 => repeat (first | exact (Kd.N_reads' HO180.out).2.2 | (with_reducible refine Kd.C_alloc ?_ _) | (with_reducible refine Kd.C_drewN ?_ _) | (with_reducible refine Kd.C_drew ?_))); (case side2 => exact (Kd.N_reads' HO180.out).2.1); rintro e w' ⟨rfl, ⟨nd, rfl⟩⟩) | (go_at_call 13; (with_reducible refine (ulog_Has.calls k _ _ y178 1 1 true _ ?side1 ?side2 A6.out).mono ?_); (case side1 => repeat (first | exact (Kd.N_reads' HO180.out).2.2 | (with_reducible refine Kd.C_alloc ?_ _) | (with_reducible refine Kd.C_drewN ?_ _) | (with_reducible refine Kd.C_drew ?_))); (case side2 => exact (Kd.N_reads' HO180.out).2.1); rintro e w' ⟨rfl, ⟨nd, rfl⟩⟩) | (go_at_call 13; (with_reducible refine (ulog_Has.calls k _ _ y178 0 9 true _ ?side1 ?side2 A8.out).mono ?_); (case side1 => repeat (first | exact (Kd.N_reads' HO180.out).2.2 | (with_reducible refine Kd.C_alloc ?_ _) | (with_reducible refine Kd.C_drewN ?_ _) | (with_reducible refine Kd.C_drew ?_))); (case side2 => exact (Kd.N_reads' HO180.out).2.1); rintro e w' ⟨rfl, ⟨nd, rfl⟩⟩) | (go_at_call 13; (with_reducible refine (ulog_Has.calls k _ _ y178 2 1 false _ ?side1 ?side2 A10.out).mono ?_); (case side1 => repeat (first | exact (Kd.N_reads' HO180.out).2.2 | (with_reducible refine Kd.C_alloc ?_ _) | (with_reducible refine Kd.C_drewN ?_ _) | (with_reducible refine Kd.C_drew ?_))); (case side2 => exact (Kd.N_reads' HO180.out).2.1); rintro e w' ⟨rfl, ⟨nd, rfl⟩⟩; obtain ⟨Ao29, co29, eo29⟩ := Kd.N_slice HO186.out; subst eo29; have p192 : 0 ≤ (1 : Int) := (by omega); have q192 : 1 < (t184.length : Int) := of_decide_eq_true (by first | (with_reducible assumption) | assumption); obtain ⟨ad192, A192_4, c192_4, A192_5, c192_5, e192, hx192_0, hx192_1, hx192_2, hx192_3, hx192_4, hx192_5, hl192_4, hi192_4, hl192_5, hi192_5⟩ := at_T39 (Kd.N_reads' HO186.out).2.2 1 p192 q192; cases e192; obtain ⟨ce192, hce192, hMe192, hcc192⟩ := Kd.N_get HO186.out z39 1 p192 (by first | exact q192 | exact of_decide_eq_true (by first | (with_reducible assumption) | assumption) | (have e_ := (Kd.N_reads' HO186.out).1; omega)); obtain ⟨ua192_4, uc192_4, ua192_5, uc192_5, rfl, ul192_4, ge192_4, ul192_5, ge192_5⟩ := k39_openF hMe192; have hv192_4 := hcc192 4 _ rfl; rw [add_field _ _ 4 (by omega)] at hv192_4; replace hv192_4 := Option.some.inj (hv192_4.symm.trans hx192_4); injection hv192_4 with hva_ hvn_ hvc_; rw [hva_] at ge192_4; rw [hvc_] at ul192_4; have HL192_4 := Aside0.mk (show Kd.V k55 55 _ w.heap.size _ _ ((rd_T39 t184 1).f2.f2) from Kd.V_mk ul192_4 ge192_4); clear hva_ hvn_ hvc_ ge192_4 ul192_4; have hv192_5 := hcc192 5 _ rfl; rw [add_field _ _ 5 (by omega)] at hv192_5; replace hv192_5 := Option.some.inj (hv192_5.symm.trans hx192_5); injection hv192_5 with hva_ hvn_ hvc_; rw [hva_] at ge192_5; rw [hvc_] at ul192_5; have HL192_5 := Aside0.mk (show Kd.V k58 58 _ w.heap.size _ _ ((rd_T39 t184 1).f2.f3) from Kd.V_mk ul192_5 ge192_5); clear hva_ hvn_ hvc_ ge192_5 ul192_5; clear hcc192 hce192; (try simp only [show (1 : Int).toNat = 1 from rfl, Nat.reduceMul, Nat.reduceEqDiff, Go.Addr.add, ↓reduceIte] at hx192_0); (try simp only [show (1 : Int).toNat = 1 from rfl, Nat.reduceMul, Nat.reduceEqDiff, Go.Addr.add, ↓reduceIte] at hx192_1); (try simp only [show (1 : Int).toNat = 1 from rfl, Nat.reduceMul, Nat.reduceEqDiff, Go.Addr.add, ↓reduceIte] at hx192_2); (try simp only [show (1 : Int).toNat = 1 from rfl, Nat.reduceMul, Nat.reduceEqDiff, Go.Addr.add, ↓reduceIte] at hx192_3); (try simp only [show (1 : Int).toNat = 1 from rfl, Nat.reduceMul, Nat.reduceEqDiff, Go.Addr.add, ↓reduceIte] at hx192_4); (try simp only [show (1 : Int).toNat = 1 from rfl, Nat.reduceMul, Nat.reduceEqDiff, Go.Addr.add, ↓reduceIte] at hx192_5); have qi192 : (1 < t184.length) = True := eq_true (by omega); (try rw [show ((1 : Int)).toNat = 1 from rfl] at hx192_0); (try rw [show 1 * 6 = 6 from rfl] at hx192_0); (try rw [show ((1 : Int)).toNat = 1 from rfl] at hx192_1); (try rw [show 1 * 6 = 6 from rfl] at hx192_1); (try rw [show ((1 : Int)).toNat = 1 from rfl] at hx192_2); (try rw [show 1 * 6 = 6 from rfl] at hx192_2); (try rw [show ((1 : Int)).toNat = 1 from rfl] at hx192_3); (try rw [show 1 * 6 = 6 from rfl] at hx192_3); (try rw [show ((1 : Int)).toNat = 1 from rfl] at hx192_4); (try rw [show 1 * 6 = 6 from rfl] at hx192_4); (try rw [show ((1 : Int)).toNat = 1 from rfl] at hx192_5); (try rw [show 1 * 6 = 6 from rfl] at hx192_5); have HR192_4 := Aside0.mk hi192_4; have HC192_4 := Aside0.mk hl192_4; clear hi192_4 hl192_4; have HR192_5 := Aside0.mk hi192_5; have HC192_5 := Aside0.mk hl192_5; clear hi192_5 hl192_5; replace p192 := eq_true p192; replace q192 := eq_true q192) | (go_at_call 18; (with_reducible refine (ulog_Newer.calls k _ _ y178 2 2 true _ ?side1 ?side2 A15.out).mono ?_); (case side1 => repeat (first | exact (Kd.N_reads' HO180.out).2.2 | (with_reducible refine Kd.C_alloc ?_ _) | (with_reducible refine Kd.C_drewN ?_ _) | (with_reducible refine Kd.C_drew ?_))); (case side2 => exact (Kd.N_reads' HO180.out).2.1); rintro e w' ⟨rfl, ⟨nd, rfl⟩⟩) | (go_at_call 18; (with_reducible refine (ulog_Newer.calls k _ _ y178 1 2 false _ ?side1 ?side2 A17.out).mono ?_); (case side1 => repeat (first | exact (Kd.N_reads' HO180.out).2.2 | (with_reducible refine Kd.C_alloc ?_ _) | (with_reducible refine Kd.C_drewN ?_ _) | (with_reducible refine Kd.C_drew ?_))); (case side2 => exact (Kd.N_reads' HO180.out).2.1); rintro e w' ⟨rfl, ⟨nd, rfl⟩⟩) | (go_at_call 20; (with_reducible refine (ulog_Same.calls k _ _ y178 _ _ y178 true _ ?side1 ?side2 ?side3 ?side4 A19.out).mono ?_); (case side1 => repeat (first | exact (Kd.N_reads' HO180.out).2.2 | (with_reducible refine Kd.C_alloc ?_ _) | (with_reducible refine Kd.C_drewN ?_ _) | (with_reducible refine Kd.C_drew ?_))); (case side2 => exact (Kd.N_reads' HO180.out).2.1); (case side3 => repeat (first | exact (Kd.N_reads' HO180.out).2.2 | (with_reducible refine Kd.C_alloc ?_ _) | (with_reducible refine Kd.C_drewN ?_ _) | (with_reducible refine Kd.C_drew ?_))); (case side4 => exact (Kd.N_reads' HO180.out).2.1); rintro e w30 ⟨rfl, hb⟩; have n0_ := Aside0.mk (Kd.N_below (by (with_reducible repeat (first | apply Kd.N_alloc | apply Kd.N_drewN | apply Kd.N_drew)); exact HO180.out) hb); have n1_ := Aside0.mk (Kd.N_below (by (with_reducible repeat (first | apply Kd.N_alloc | apply Kd.N_drewN | apply Kd.N_drew)); exact HO183.out) hb); have n2_ := Aside0.mk (Kd.N_below (by (with_reducible repeat (first | apply Kd.N_alloc | apply Kd.N_drewN | apply Kd.N_drew)); exact HO186.out) hb); have n3_ := Aside0.mk (Kd.V_below (by (with_reducible repeat (first | apply Kd.V_alloc | apply Kd.V_drewN | apply Kd.V_drew)); exact HL192_4.out) hb); have n4_ := Aside0.mk (Kd.V_below (by (with_reducible repeat (first | apply Kd.V_alloc | apply Kd.V_drewN | apply Kd.V_drew)); exact HL192_5.out) hb); have n5_ := Aside0.mk (Kd.C_below (by repeat (first | (with_reducible exact HR192_4.out) | (with_reducible refine Kd.C_alloc ?_ _) | (with_reducible refine Kd.C_drewN ?_ _) | (with_reducible refine Kd.C_drew ?_) | exact HR192_4.out)) hb); have n6_ := Aside0.mk (Kd.C_below (by repeat (first | (with_reducible exact HR192_5.out) | (with_reducible refine Kd.C_alloc ?_ _) | (with_reducible refine Kd.C_drewN ?_ _) | (with_reducible refine Kd.C_drew ?_) | exact HR192_5.out)) hb); have n7_ := Aside0.mk (below_step (by repeat (first | (with_reducible first | exact HB.out | apply below_alloc | apply pw_below_drewN | apply below_drew1) | exact HB.out)) hb); clear HO180; clear HO183; clear HO186; clear HL192_4; clear HL192_5; clear HR192_4; clear HR192_5; clear HB; have HO180 := n0_; have HO183 := n1_; have HO186 := n2_; have HL192_4 := n3_; have HL192_5 := n4_; have HR192_4 := n5_; have HR192_5 := n6_; have HB := n7_; clear n0_ n1_ n2_ n3_ n4_ n5_ n6_ n7_; (try clear hb); (try clear hb2); (try clear hk); (try clear hi); (try clear hgn_)) | (go_at_call 20; (with_reducible refine (ulog_Same.calls k _ _ y178 _ _ t184 t196 _ ?side1 ?side2 ?side3 ?side4 A21.out).mono ?_); (case side1 => repeat (first | exact (Kd.N_reads' HO180.out).2.2 | (with_reducible refine Kd.C_alloc ?_ _) | (with_reducible refine Kd.C_drewN ?_ _) | (with_reducible refine Kd.C_drew ?_))); (case side2 => exact (Kd.N_reads' HO180.out).2.1); (case side3 => repeat (first | exact (Kd.N_reads' HO186.out).2.2 | (with_reducible refine Kd.C_alloc ?_ _) | (with_reducible refine Kd.C_drewN ?_ _) | (with_reducible refine Kd.C_drew ?_))); (case side4 => exact (Kd.N_reads' HO186.out).2.1); rintro e w31 ⟨rfl, hb⟩; have n0_ := Aside0.mk (Kd.N_below (by (with_reducible repeat (first | apply Kd.N_alloc | apply Kd.N_drewN | apply Kd.N_drew)); exact HO180.out) hb); have n1_ := Aside0.mk (Kd.N_below (by (with_reducible repeat (first | apply Kd.N_alloc | apply Kd.N_drewN | apply Kd.N_drew)); exact HO183.out) hb); have n2_ := Aside0.mk (Kd.N_below (by (with_reducible repeat (first | apply Kd.N_alloc | apply Kd.N_drewN | apply Kd.N_drew)); exact HO186.out) hb); have n3_ := Aside0.mk (Kd.V_below (by (with_reducible repeat (first | apply Kd.V_alloc | apply Kd.V_drewN | apply Kd.V_drew)); exact HL192_4.out) hb); have n4_ := Aside0.mk (Kd.V_below (by (with_reducible repeat (first | apply Kd.V_alloc | apply Kd.V_drewN | apply Kd.V_drew)); exact HL192_5.out) hb); have n5_ := Aside0.mk (Kd.C_below (by repeat (first | (with_reducible exact HR192_4.out) | (with_reducible refine Kd.C_alloc ?_ _) | (with_reducible refine Kd.C_drewN ?_ _) | (with_reducible refine Kd.C_drew ?_) | exact HR192_4.out)) hb); have n6_ := Aside0.mk (Kd.C_below (by repeat (first | (with_reducible exact HR192_5.out) | (with_reducible refine Kd.C_alloc ?_ _) | (with_reducible refine Kd.C_drewN ?_ _) | (with_reducible refine Kd.C_drew ?_) | exact HR192_5.out)) hb); have n7_ := Aside0.mk (below_step (by repeat (first | (with_reducible first | exact HB.out | apply below_alloc | apply pw_below_drewN | apply below_drew1) | exact HB.out)) hb); clear HO180; clear HO183; clear HO186; clear HL192_4; clear HL192_5; clear HR192_4; clear HR192_5; clear HB; have HO180 := n0_; have HO183 := n1_; have HO186 := n2_; have HL192_4 := n3_; have HL192_5 := n4_; have HR192_4 := n5_; have HR192_5 := n6_; have HB := n7_; clear n0_ n1_ n2_ n3_ n4_ n5_ n6_ n7_; (try clear hb); (try clear hb2); (try clear hk); (try clear hi); (try clear hgn_)))
                        go_ret
                        exact ⟨by first | rfl | (simp [errW_none, errW_some] <;> rfl) | (simp [*, errW_none, errW_some] <;> rfl), by repeat (first | (with_reducible first | exact HB.out | apply below_alloc | apply pw_below_drewN | apply below_drew1) | exact HB.out)⟩
                      · replace c20 := Bool.eq_false_iff.mpr c20
                        subst c20
                        have H1 : (some false) = some r := by rw [if_neg (show ¬ (false = true) by decide)] at H; exact H
                        clear H
                        have H := H1
                        clear H1
                        exact absurd (Option.some.inj H) (by rw [hT.out]; decide)
                  · replace c16 := Bool.eq_false_iff.mpr c16
                    subst c16
                    have H1 : (some false) = some r := by rw [if_neg (show ¬ (false = true) by decide)] at H; exact H
                    clear H
                    have H := H1
                    clear H1
                    exact absurd (Option.some.inj H) (by rw [hT.out]; decide)
                · rw [if_neg c14] at H
                  have c14b0 : (((rd_T39 t184 1).f0) == 3) = false := beq_eq_false_iff_ne.mpr c14
                  have c14b1 : (((rd_T39 t184 1).f0) != 3) = true := bne_iff_ne.mpr c14
                  exact absurd (Option.some.inj H) (by rw [hT.out]; decide)
              · rw [if_neg c13] at H
                exact absurd H (by simp)
            · rw [if_neg c12] at H
              have c12b0 : ((t184.length : Int) == 2) = false := beq_eq_false_iff_ne.mpr c12
              have c12b1 : ((t184.length : Int) != 2) = true := bne_iff_ne.mpr c12
              exact absurd (Option.some.inj H) (by rw [hT.out]; decide)
        · replace c9 := Bool.eq_false_iff.mpr c9
          subst c9
          have H1 : (some false) = some r := by rw [if_neg (show ¬ (false = true) by decide)] at H; exact H
          clear H
          have H := H1
          clear H1
          exact absurd (Option.some.inj H) (by rw [hT.out]; decide)
      · replace c7 := Bool.eq_false_iff.mpr c7
        subst c7
        have H1 : (some false) = some r := by rw [if_neg (show ¬ (false = true) by decide)] at H; exact H
        clear H
        have H := H1
        clear H1
        exact absurd (Option.some.inj H) (by rw [hT.out]; decide)
    · rw [if_neg c5] at H
      have c5b0 : (t188 == 0) = false := beq_eq_false_iff_ne.mpr c5
      have c5b1 : (t188 != 0) = true := bne_iff_ne.mpr c5
      exact absurd (Option.some.inj H) (by rw [hT.out]; decide)
  · rw [if_neg c3] at H
    have c3b0 : (t187 == 2) = false := beq_eq_false_iff_ne.mpr c3
    have c3b1 : (t187 != 2) = true := bne_iff_ne.mpr c3
    exact absurd (Option.some.inj H) (by rw [hT.out]; decide)

end Go.Proofs.Ytipeiombaempoaa.Q
