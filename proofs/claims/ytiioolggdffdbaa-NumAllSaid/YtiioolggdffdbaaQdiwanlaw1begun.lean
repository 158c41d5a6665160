/- One Go function told as a Lean function, and that the Go code comes to its answers: out of the print of the program, by the kit and by programs of this session. -/
import Derived.Test.YtiioolggdffdbaaQ0
import Derived.Test.YtiioolggdffdbaaQnumTake
import Derived.Test.YtiioolggdffdbaaQnumTakeText
import Derived.Test.YtiioolggdffdbaaQnumPut
import Derived.Test.YtiioolggdffdbaaQnumPutText
namespace Go.Proofs.Ytiioolggdffdbaa.Q
open Go.RowKit Go.Proofs.YtiioolggdffdbaaW.PrintWords Go.Proofs.YtiioolggdffdbaaW.PrintLast Go.Proofs.YtiioolggdffdbaaW.PrintMore
attribute [local go_sem] max2_int min2_int max_two min_two max_three min_three max_four min_four   -- for this text's walks alone
set_option linter.unusedVariables false
set_option linter.unusedSimpArgs false

/-! ### diwanlaw1_begun: function 8 -/
def diwanlaw1_begun.f (k : Nat)  : Option (Bool) := (num_Put.f k 300).bind fun t125 => ((num_Take.f k t125).bind fun bt128 => ((num_Take.f k (([128] : List Int))).bind fun bt134 => ((num_PutText.f k (⟨#[97, 98]⟩ : ByteArray)).bind fun t137 => ((num_TakeText.f k t137).bind fun bt140 => (if (strOfNums t125).toList = ([172, 2] : List UInt8) then (if bt128.2.2 = true then (if bt128.1 = 300 then (if bt128.2.1 = 2 then (if bt134.2.2 = true then (some false) else ((num_Put.f k (-1)).bind fun t143 => (if (t143.length : Int) = 0 then (if bt140.2.2 = true then (if bt140.1.toList = ([97, 98] : List UInt8) then (some (bt140.2.1 == 3)) else (some false)) else (some false)) else (some false)))) else (some false)) else (some false)) else (some false)) else (some false))))))
theorem diwanlaw1_begun.mono : ∀ k, LeO (diwanlaw1_begun.f k ) (diwanlaw1_begun.f (k + 1) ) := by
  intro  k
  unfold diwanlaw1_begun.f
  repeat' first
      | (with_reducible exact num_Put.mono _ _)
      | (with_reducible exact num_PutText.mono _ _)
      | (with_reducible exact num_Take.mono _ _)
      | (with_reducible exact num_TakeText.mono _ _)
      | (with_reducible exact LeO.refl _)
      | (with_reducible exact LeO.none _)
      | (with_reducible refine LeO.ite ?_ ?_)
      | (with_reducible refine LeO.bind ?_ (fun _ => ?_))
      | exact num_Put.mono _ _
      | exact num_PutText.mono _ _
      | exact num_Take.mono _ _
      | exact num_TakeText.mono _ _
      | exact LeO.none _
      | refine LeO.ite ?_ ?_
      | refine LeO.bind ?_ (fun _ => ?_)
set_option maxHeartbeats 8000000 in
set_option maxRecDepth 100000 in
theorem diwanlaw1_begun.calls (k : Nat)  (r : Bool) (w : World) (h : diwanlaw1_begun.f k  = some r) (hT : Aside0 (r = true)) :
    Calls Try.prog 8 #[] w fun e w' => e = .returned (.bool r) ∧ Below w.heap.size w w' := by
  have HB := Aside0.mk (Below.refl w.heap.size w)
  have H : ((num_Put.f k 300).bind fun t125 => ((num_Take.f k t125).bind fun bt128 => ((num_Take.f k (([128] : List Int))).bind fun bt134 => ((num_PutText.f k (⟨#[97, 98]⟩ : ByteArray)).bind fun t137 => ((num_TakeText.f k t137).bind fun bt140 => (if (strOfNums t125).toList = ([172, 2] : List UInt8) then (if bt128.2.2 = true then (if bt128.1 = 300 then (if bt128.2.1 = 2 then (if bt134.2.2 = true then (some false) else ((num_Put.f k (-1)).bind fun t143 => (if (t143.length : Int) = 0 then (if bt140.2.2 = true then (if bt140.1.toList = ([97, 98] : List UInt8) then (some (bt140.2.1 == 3)) else (some false)) else (some false)) else (some false)))) else (some false)) else (some false)) else (some false)) else (some false))))))) = some r := h
  clear h
  replace H := Option.bind_eq_some_iff.mp H
  obtain ⟨t125, A10, H⟩ := H
  replace H : ((num_Take.f k t125).bind fun bt128 => ((num_Take.f k (([128] : List Int))).bind fun bt134 => ((num_PutText.f k (⟨#[97, 98]⟩ : ByteArray)).bind fun t137 => ((num_TakeText.f k t137).bind fun bt140 => (if (strOfNums t125).toList = ([172, 2] : List UInt8) then (if bt128.2.2 = true then (if bt128.1 = 300 then (if bt128.2.1 = 2 then (if bt134.2.2 = true then (some false) else ((num_Put.f k (-1)).bind fun t143 => (if (t143.length : Int) = 0 then (if bt140.2.2 = true then (if bt140.1.toList = ([97, 98] : List UInt8) then (some (bt140.2.1 == 3)) else (some false)) else (some false)) else (some false)))) else (some false)) else (some false)) else (some false)) else (some false)))))) = some r := H
  have A1 := Aside0.mk A10
  clear A10
  replace H := Option.bind_eq_some_iff.mp H
  obtain ⟨⟨t128, t129, t130⟩, A20, H⟩ := H
  replace H : ((num_Take.f k (([128] : List Int))).bind fun bt134 => ((num_PutText.f k (⟨#[97, 98]⟩ : ByteArray)).bind fun t137 => ((num_TakeText.f k t137).bind fun bt140 => (if (strOfNums t125).toList = ([172, 2] : List UInt8) then (if t130 = true then (if t128 = 300 then (if t129 = 2 then (if bt134.2.2 = true then (some false) else ((num_Put.f k (-1)).bind fun t143 => (if (t143.length : Int) = 0 then (if bt140.2.2 = true then (if bt140.1.toList = ([97, 98] : List UInt8) then (some (bt140.2.1 == 3)) else (some false)) else (some false)) else (some false)))) else (some false)) else (some false)) else (some false)) else (some false))))) = some r := H
  have A2 := Aside0.mk A20
  clear A20
  obtain ⟨y131, hy131⟩ : ∃ y_ : List Int, y_ = (([128] : List Int)) := ⟨_, rfl⟩
  replace H : ((num_Take.f k y131).bind fun bt134 => ((num_PutText.f k (⟨#[97, 98]⟩ : ByteArray)).bind fun t137 => ((num_TakeText.f k t137).bind fun bt140 => (if (strOfNums t125).toList = ([172, 2] : List UInt8) then (if t130 = true then (if t128 = 300 then (if t129 = 2 then (if bt134.2.2 = true then (some false) else ((num_Put.f k (-1)).bind fun t143 => (if (t143.length : Int) = 0 then (if bt140.2.2 = true then (if bt140.1.toList = ([97, 98] : List UInt8) then (some (bt140.2.1 == 3)) else (some false)) else (some false)) else (some false)))) else (some false)) else (some false)) else (some false)) else (some false))))) = some r := by first | (rw [hy131]; with_reducible exact H) | (have H2_ := (Option.bind_some _ _).symm.trans H; rw [hy131]; with_reducible exact H2_) | (have H2_ := (Option.bind_some _ _).symm.trans H; with_reducible exact H2_) | with_reducible exact H | (rw [hy131]; exact H) | exact H
  have Ny131 := Aside0.mk hy131
  clear hy131
  replace H := Option.bind_eq_some_iff.mp H
  obtain ⟨⟨t134, t135, t136⟩, A30, H⟩ := H
  replace H : ((num_PutText.f k (⟨#[97, 98]⟩ : ByteArray)).bind fun t137 => ((num_TakeText.f k t137).bind fun bt140 => (if (strOfNums t125).toList = ([172, 2] : List UInt8) then (if t130 = true then (if t128 = 300 then (if t129 = 2 then (if t136 = true then (some false) else ((num_Put.f k (-1)).bind fun t143 => (if (t143.length : Int) = 0 then (if bt140.2.2 = true then (if bt140.1.toList = ([97, 98] : List UInt8) then (some (bt140.2.1 == 3)) else (some false)) else (some false)) else (some false)))) else (some false)) else (some false)) else (some false)) else (some false)))) = some r := H
  have A3 := Aside0.mk A30
  clear A30
  replace H := Option.bind_eq_some_iff.mp H
  obtain ⟨t137, A40, H⟩ := H
  replace H : ((num_TakeText.f k t137).bind fun bt140 => (if (strOfNums t125).toList = ([172, 2] : List UInt8) then (if t130 = true then (if t128 = 300 then (if t129 = 2 then (if t136 = true then (some false) else ((num_Put.f k (-1)).bind fun t143 => (if (t143.length : Int) = 0 then (if bt140.2.2 = true then (if bt140.1.toList = ([97, 98] : List UInt8) then (some (bt140.2.1 == 3)) else (some false)) else (some false)) else (some false)))) else (some false)) else (some false)) else (some false)) else (some false))) = some r := H
  have A4 := Aside0.mk A40
  clear A40
  replace H := Option.bind_eq_some_iff.mp H
  obtain ⟨⟨t140, t141, t142⟩, A50, H⟩ := H
  replace H : (if (strOfNums t125).toList = ([172, 2] : List UInt8) then (if t130 = true then (if t128 = 300 then (if t129 = 2 then (if t136 = true then (some false) else ((num_Put.f k (-1)).bind fun t143 => (if (t143.length : Int) = 0 then (if t142 = true then (if t140.toList = ([97, 98] : List UInt8) then (some (t141 == 3)) else (some false)) else (some false)) else (some false)))) else (some false)) else (some false)) else (some false)) else (some false)) = some r := H
  have A5 := Aside0.mk A50
  clear A50
  by_cases c6 : (strOfNums t125).toList = ([172, 2] : List UInt8)
  · rw [if_pos c6] at H
    have c6b0 : ((strOfNums t125).toList == ([172, 2] : List UInt8)) = true := beq_iff_eq.mpr c6
    have c6b1 : ((strOfNums t125).toList != ([172, 2] : List UInt8)) = false := bne_eq_false_iff_eq.mpr c6
    clear c6
    by_cases c7 : t130 = true
    · subst c7
      have H1 : (if t128 = 300 then (if t129 = 2 then (if t136 = true then (some false) else ((num_Put.f k (-1)).bind fun t143 => (if (t143.length : Int) = 0 then (if t142 = true then (if t140.toList = ([97, 98] : List UInt8) then (some (t141 == 3)) else (some false)) else (some false)) else (some false)))) else (some false)) else (some false)) = some r := by rw [if_pos rfl] at H; exact H
      clear H
      have H := H1
      clear H1
      by_cases c8 : t128 = 300
      · rw [if_pos c8] at H
        have c8b0 : (t128 == 300) = true := beq_iff_eq.mpr c8
        have c8b1 : (t128 != 300) = false := bne_eq_false_iff_eq.mpr c8
        clear c8
        by_cases c9 : t129 = 2
        · rw [if_pos c9] at H
          have c9b0 : (t129 == 2) = true := beq_iff_eq.mpr c9
          have c9b1 : (t129 != 2) = false := bne_eq_false_iff_eq.mpr c9
          clear c9
          by_cases c10 : t136 = true
          · subst c10
            have H1 : (some false) = some r := by rw [if_pos rfl] at H; exact H
            clear H
            have H := H1
            clear H1
            exact absurd (Option.some.inj H) (by rw [hT.out]; decide)
          · replace c10 := Bool.eq_false_iff.mpr c10
            subst c10
            have H1 : ((num_Put.f k (-1)).bind fun t143 => (if (t143.length : Int) = 0 then (if t142 = true then (if t140.toList = ([97, 98] : List UInt8) then (some (t141 == 3)) else (some false)) else (some false)) else (some false))) = some r := by rw [if_neg (show ¬ (false = true) by decide)] at H; exact H
            clear H
            have H := H1
            clear H1
            replace H := Option.bind_eq_some_iff.mp H
            obtain ⟨t143, A110, H⟩ := H
            replace H : (if (t143.length : Int) = 0 then (if t142 = true then (if t140.toList = ([97, 98] : List UInt8) then (some (t141 == 3)) else (some false)) else (some false)) else (some false)) = some r := H
            have A11 := Aside0.mk A110
            clear A110
            by_cases c12 : (t143.length : Int) = 0
            · rw [if_pos c12] at H
              have c12b0 : ((t143.length : Int) == 0) = true := beq_iff_eq.mpr c12
              have c12b1 : ((t143.length : Int) != 0) = false := bne_eq_false_iff_eq.mpr c12
              clear c12
              by_cases c13 : t142 = true
              · subst c13
                have H1 : (if t140.toList = ([97, 98] : List UInt8) then (some (t141 == 3)) else (some false)) = some r := by rw [if_pos rfl] at H; exact H
                clear H
                have H := H1
                clear H1
                by_cases c14 : t140.toList = ([97, 98] : List UInt8)
                · rw [if_pos c14] at H
                  have c14b0 : (t140.toList == ([97, 98] : List UInt8)) = true := beq_iff_eq.mpr c14
                  have c14b1 : (t140.toList != ([97, 98] : List UInt8)) = false := bne_eq_false_iff_eq.mpr c14
                  clear c14
                  obtain rfl := Option.some.inj H
                  go_enter Try.func8, Try.ntmps8
                  go_wp2_with (first | ((with_reducible refine gate_callee (f := 14) rfl ?_); refine goesL_ (some 11) rfl rfl Try.func14 (by kernel_rfl) rfl #[.int .i64 300] rfl (by (try simp only [List.map_toArray, List.map_cons, List.map_nil]); first | done | rfl | (simp only [List.length_drop, List.length_take]; rfl)) ?_; (with_reducible refine (num_Put.calls k 300 t125 _ A1.out).mono ?_); rintro e w15 ⟨v126, rfl, ho0, hb⟩; refine ⟨_, rfl, ?_⟩; have n0_ := Aside0.mk (Kd.R_lower ho0 (below_size (by repeat (first | (with_reducible first | exact HB.out | apply below_alloc | apply pw_below_drewN | apply below_drew1) | exact HB.out)))); have n1_ := Aside0.mk (below_step (by repeat (first | (with_reducible first | exact HB.out | apply below_alloc | apply pw_below_drewN | apply below_drew1) | exact HB.out)) hb); clear HB; have HO127 := n0_; have HB := n1_; clear n0_ n1_; (try clear hb); (try clear hb2); (try clear hk); (try clear hi); (try clear hgn_); (try clear ho0); obtain ⟨Ao16, co16, eo16⟩ := Kd.R_slice HO127.out; subst eo16) | ((with_reducible refine gate_callee (f := 10) rfl ?_); refine goesL_ (some 14) rfl rfl Try.func10 (by kernel_rfl) rfl #[.slice Ao16 t125.length co16] rfl (by (try simp only [List.map_toArray, List.map_cons, List.map_nil]); first | done | rfl | (simp only [List.length_drop, List.length_take]; rfl)) ?_; (with_reducible refine (num_Take.calls k _ _ t125 t128 t129 true _ ?side1 ?side2 A2.out).mono ?_); (case side1 => repeat (first | exact (Kd.R_reads' HO127.out).2.2 | (with_reducible refine Kd.C_alloc ?_ _) | (with_reducible refine Kd.C_drewN ?_ _) | (with_reducible refine Kd.C_drew ?_))); (case side2 => exact (Kd.R_reads' HO127.out).2.1); rintro e w17 ⟨rfl, hb⟩; refine ⟨_, rfl, ?_⟩; have n0_ := Aside0.mk (Kd.R_below (by (with_reducible repeat (first | apply Kd.R_alloc | apply Kd.R_drewN | apply Kd.R_drew)); exact HO127.out) hb); have n1_ := Aside0.mk (below_step (by repeat (first | (with_reducible first | exact HB.out | apply below_alloc | apply pw_below_drewN | apply below_drew1) | exact HB.out)) hb); clear HO127; clear HB; have HO127 := n0_; have HB := n1_; clear n0_ n1_; (try clear hb); (try clear hb2); (try clear hk); (try clear hi); (try clear hgn_)) | ((with_reducible refine gate_dst (N := 19) rfl ?_); (try (refine gate_guard (by rfl) ?_; dsimp only)); refine Kd.R_lit (Kd.int .u8) _ 5 ?hg (N := 19) ?hd (xs := ([128] : List Int)) (inner := [.int .u8 128]) (ok := fun _ => True) (okp := fun _ => True) ?hr ?hp (fun _ hk => hk) trivial (Below.refl _ _) (Nat.le_refl _) (by simp) ?_; (case hd => rfl); (case hg => rfl); (case hr => first | (go_simp; done) | (go_simp; rfl)); (case hp => exact (Reps.one (show Kd.M (Kd.int .u8) _ _ _ 128 [.int .u8 128] from rfl) (Reps.none _ _))); intro v132 w18 ho19 hb hg_ hnew_; clear hg_ hnew_; (first | rw [← Ny131.out] at ho19 | (simp only [Int.reduceToNat] at ho19; rw [← Ny131.out] at ho19)); have n0_ := Aside0.mk (Kd.R_elder' (by (with_reducible repeat (first | apply Kd.R_alloc | apply Kd.R_drewN | apply Kd.R_drew)); exact HO127.out) (Kd.R_base ho19) hb); have n1_ := Aside0.mk (Kd.R_lower (Kd.R_new' ho19 (Kd.R_lt (by (with_reducible repeat (first | apply Kd.R_alloc | apply Kd.R_drewN | apply Kd.R_drew)); exact HO127.out))) (below_size (by repeat (first | (with_reducible first | exact HB.out | apply below_alloc | apply pw_below_drewN | apply below_drew1) | exact HB.out)))); have n2_ := Aside0.mk (below_step (by repeat (first | (with_reducible first | exact HB.out | apply below_alloc | apply pw_below_drewN | apply below_drew1) | exact HB.out)) hb); clear HO127; clear HB; have HO127 := n0_; have HO133 := n1_; have HB := n2_; clear n0_ n1_ n2_; clear hb ho19; obtain ⟨Ao20, co20, eo20⟩ := Kd.R_slice HO133.out; subst eo20) | ((with_reducible refine gate_callee (f := 10) rfl ?_); refine goesL_ (some 20) rfl rfl Try.func10 (by kernel_rfl) rfl #[.slice Ao20 y131.length co20] rfl (by (try simp only [List.map_toArray, List.map_cons, List.map_nil]); first | done | rfl | (simp only [List.length_drop, List.length_take]; rfl)) ?_; (with_reducible refine (num_Take.calls k _ _ y131 t134 t135 false _ ?side1 ?side2 A3.out).mono ?_); (case side1 => repeat (first | exact (Kd.R_reads' HO133.out).2.2 | (with_reducible refine Kd.C_alloc ?_ _) | (with_reducible refine Kd.C_drewN ?_ _) | (with_reducible refine Kd.C_drew ?_))); (case side2 => exact (Kd.R_reads' HO133.out).2.1); rintro e w21 ⟨rfl, hb⟩; refine ⟨_, rfl, ?_⟩; have n0_ := Aside0.mk (Kd.R_below (by (with_reducible repeat (first | apply Kd.R_alloc | apply Kd.R_drewN | apply Kd.R_drew)); exact HO127.out) hb); have n1_ := Aside0.mk (Kd.R_below (by (with_reducible repeat (first | apply Kd.R_alloc | apply Kd.R_drewN | apply Kd.R_drew)); exact HO133.out) hb); have n2_ := Aside0.mk (below_step (by repeat (first | (with_reducible first | exact HB.out | apply below_alloc | apply pw_below_drewN | apply below_drew1) | exact HB.out)) hb); clear HO127; clear HO133; clear HB; have HO127 := n0_; have HO133 := n1_; have HB := n2_; clear n0_ n1_ n2_; (try clear hb); (try clear hb2); (try clear hk); (try clear hi); (try clear hgn_)) | ((with_reducible refine gate_callee (f := 16) rfl ?_); refine goesL_ (some 25) rfl rfl Try.func16 (by kernel_rfl) rfl #[.string (⟨#[97, 98]⟩ : ByteArray)] rfl (by (try simp only [List.map_toArray, List.map_cons, List.map_nil]); first | done | rfl | (simp only [List.length_drop, List.length_take]; rfl)) ?_; (with_reducible refine (num_PutText.calls k (⟨#[97, 98]⟩ : ByteArray) t137 _ A4.out).mono ?_); rintro e w22 ⟨v138, rfl, ho0, hb⟩; refine ⟨_, rfl, ?_⟩; have n0_ := Aside0.mk (Kd.R_elder' (by (with_reducible repeat (first | apply Kd.R_alloc | apply Kd.R_drewN | apply Kd.R_drew)); exact HO127.out) (Kd.R_base ho0) hb); have n1_ := Aside0.mk (Kd.R_elder' (by (with_reducible repeat (first | apply Kd.R_alloc | apply Kd.R_drewN | apply Kd.R_drew)); exact HO133.out) (Kd.R_base ho0) hb); have n2_ := Aside0.mk (Kd.R_lower (Kd.R_new' (Kd.R_new' ho0 (Kd.R_lt (by (with_reducible repeat (first | apply Kd.R_alloc | apply Kd.R_drewN | apply Kd.R_drew)); exact HO127.out))) (Kd.R_lt (by (with_reducible repeat (first | apply Kd.R_alloc | apply Kd.R_drewN | apply Kd.R_drew)); exact HO133.out))) (below_size (by repeat (first | (with_reducible first | exact HB.out | apply below_alloc | apply pw_below_drewN | apply below_drew1) | exact HB.out)))); have n3_ := Aside0.mk (below_step (by repeat (first | (with_reducible first | exact HB.out | apply below_alloc | apply pw_below_drewN | apply below_drew1) | exact HB.out)) hb); clear HO127; clear HO133; clear HB; have HO127 := n0_; have HO133 := n1_; have HO139 := n2_; have HB := n3_; clear n0_ n1_ n2_ n3_; (try clear hb); (try clear hb2); (try clear hk); (try clear hi); (try clear hgn_); (try clear ho0); obtain ⟨Ao23, co23, eo23⟩ := Kd.R_slice HO139.out; subst eo23) | ((with_reducible refine gate_callee (f := 12) rfl ?_); refine goesL_ (some 26) rfl rfl Try.func12 (by kernel_rfl) rfl #[.slice Ao23 t137.length co23] rfl (by (try simp only [List.map_toArray, List.map_cons, List.map_nil]); first | done | rfl | (simp only [List.length_drop, List.length_take]; rfl)) ?_; (with_reducible refine (num_TakeText.calls k _ _ t137 t140 t141 true _ ?side1 ?side2 A5.out).mono ?_); (case side1 => repeat (first | exact (Kd.R_reads' HO139.out).2.2 | (with_reducible refine Kd.C_alloc ?_ _) | (with_reducible refine Kd.C_drewN ?_ _) | (with_reducible refine Kd.C_drew ?_))); (case side2 => exact (Kd.R_reads' HO139.out).2.1); rintro e w24 ⟨rfl, hb⟩; refine ⟨_, rfl, ?_⟩; have n0_ := Aside0.mk (Kd.R_below (by (with_reducible repeat (first | apply Kd.R_alloc | apply Kd.R_drewN | apply Kd.R_drew)); exact HO127.out) hb); have n1_ := Aside0.mk (Kd.R_below (by (with_reducible repeat (first | apply Kd.R_alloc | apply Kd.R_drewN | apply Kd.R_drew)); exact HO133.out) hb); have n2_ := Aside0.mk (Kd.R_below (by (with_reducible repeat (first | apply Kd.R_alloc | apply Kd.R_drewN | apply Kd.R_drew)); exact HO139.out) hb); have n3_ := Aside0.mk (below_step (by repeat (first | (with_reducible first | exact HB.out | apply below_alloc | apply pw_below_drewN | apply below_drew1) | exact HB.out)) hb); clear HO127; clear HO133; clear HO139; clear HB; have HO127 := n0_; have HO133 := n1_; have HO139 := n2_; have HB := n3_; clear n0_ n1_ n2_ n3_; (try clear hb); (try clear hb2); (try clear hk); (try clear hi); (try clear hgn_); have hcv25 := own_string (P := Try.prog) Try.underlying22 Try.underlying5 Try.underlying9 (Kd.own_of_R HO127.out)) | (go_at_call 14; (with_reducible refine (num_Put.calls k (-1) t143 _ A11.out).mono ?_); rintro e w26 ⟨v144, rfl, ho0, hb⟩; have n0_ := Aside0.mk (Kd.R_elder' (by (with_reducible repeat (first | apply Kd.R_alloc | apply Kd.R_drewN | apply Kd.R_drew)); exact HO127.out) (Kd.R_base ho0) hb); have n1_ := Aside0.mk (Kd.R_elder' (by (with_reducible repeat (first | apply Kd.R_alloc | apply Kd.R_drewN | apply Kd.R_drew)); exact HO133.out) (Kd.R_base ho0) hb); have n2_ := Aside0.mk (Kd.R_elder' (by (with_reducible repeat (first | apply Kd.R_alloc | apply Kd.R_drewN | apply Kd.R_drew)); exact HO139.out) (Kd.R_base ho0) hb); have n3_ := Aside0.mk (Kd.R_lower (Kd.R_new' (Kd.R_new' (Kd.R_new' ho0 (Kd.R_lt (by (with_reducible repeat (first | apply Kd.R_alloc | apply Kd.R_drewN | apply Kd.R_drew)); exact HO127.out))) (Kd.R_lt (by (with_reducible repeat (first | apply Kd.R_alloc | apply Kd.R_drewN | apply Kd.R_drew)); exact HO133.out))) (Kd.R_lt (by (with_reducible repeat (first | apply Kd.R_alloc | apply Kd.R_drewN | apply Kd.R_drew)); exact HO139.out))) (below_size (by repeat (first | (with_reducible first | exact HB.out | apply below_alloc | apply pw_below_drewN | apply below_drew1) | exact HB.out)))); have n4_ := Aside0.mk (below_step (by repeat (first | (with_reducible first | exact HB.out | apply below_alloc | apply pw_below_drewN | apply below_drew1) | exact HB.out)) hb); clear HO127; clear HO133; clear HO139; clear HB; have HO127 := n0_; have HO133 := n1_; have HO139 := n2_; have HO145 := n3_; have HB := n4_; clear n0_ n1_ n2_ n3_ n4_; (try clear hb); (try clear hb2); (try clear hk); (try clear hi); (try clear hgn_); (try clear ho0); obtain ⟨Ao27, co27, eo27⟩ := Kd.R_slice HO145.out; subst eo27))
                  go_ret
                  exact ⟨by first | rfl | (simp [errW_none, errW_some] <;> rfl) | (simp [*, errW_none, errW_some] <;> rfl), by repeat (first | (with_reducible first | exact HB.out | apply below_alloc | apply pw_below_drewN | apply below_drew1) | exact HB.out)⟩
                · rw [if_neg c14] at H
                  have c14b0 : (t140.toList == ([97, 98] : List UInt8)) = false := beq_eq_false_iff_ne.mpr c14
                  have c14b1 : (t140.toList != ([97, 98] : List UInt8)) = true := bne_iff_ne.mpr c14
                  exact absurd (Option.some.inj H) (by rw [hT.out]; decide)
              · replace c13 := Bool.eq_false_iff.mpr c13
                subst c13
                have H1 : (some false) = some r := by rw [if_neg (show ¬ (false = true) by decide)] at H; exact H
                clear H
                have H := H1
                clear H1
                exact absurd (Option.some.inj H) (by rw [hT.out]; decide)
            · rw [if_neg c12] at H
              have c12b0 : ((t143.length : Int) == 0) = false := beq_eq_false_iff_ne.mpr c12
              have c12b1 : ((t143.length : Int) != 0) = true := bne_iff_ne.mpr c12
              have c12b2 : ¬ (t143 = []) := fun h_ => c12 (by rw [h_]; rfl)
              exact absurd (Option.some.inj H) (by rw [hT.out]; decide)
        · rw [if_neg c9] at H
          have c9b0 : (t129 == 2) = false := beq_eq_false_iff_ne.mpr c9
          have c9b1 : (t129 != 2) = true := bne_iff_ne.mpr c9
          exact absurd (Option.some.inj H) (by rw [hT.out]; decide)
      · rw [if_neg c8] at H
        have c8b0 : (t128 == 300) = false := beq_eq_false_iff_ne.mpr c8
        have c8b1 : (t128 != 300) = true := bne_iff_ne.mpr c8
        exact absurd (Option.some.inj H) (by rw [hT.out]; decide)
    · replace c7 := Bool.eq_false_iff.mpr c7
      subst c7
      have H1 : (some false) = some r := by rw [if_neg (show ¬ (false = true) by decide)] at H; exact H
      clear H
      have H := H1
      clear H1
      exact absurd (Option.some.inj H) (by rw [hT.out]; decide)
  · rw [if_neg c6] at H
    have c6b0 : ((strOfNums t125).toList == ([172, 2] : List UInt8)) = false := beq_eq_false_iff_ne.mpr c6
    have c6b1 : ((strOfNums t125).toList != ([172, 2] : List UInt8)) = true := bne_iff_ne.mpr c6
    exact absurd (Option.some.inj H) (by rw [hT.out]; decide)

end Go.Proofs.Ytiioolggdffdbaa.Q
