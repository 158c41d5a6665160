/- One Go function told as a Lean function, and that the Go code comes to its answers: out of the print of the program, by the kit and by programs of this session. -/
import Derived.Test.YtipeiombaempoaaQ0
import Derived.Test.YtipeiombaempoaaQslicesCloneEntry
import Derived.Test.YtipeiombaempoaaQslicesConcatEntry
namespace Go.Proofs.Ytipeiombaempoaa.Q
open Go.RowKit Go.Proofs.YtipeiombaempoaaW.PrintWords Go.Proofs.YtipeiombaempoaaW.PrintLast Go.Proofs.YtipeiombaempoaaW.PrintMore
attribute [local go_sem] max2_int min2_int max_two min_two max_three min_three max_four min_four   -- for this text's walks alone
set_option linter.unusedVariables false
set_option linter.unusedSimpArgs false

/-! ### ulog_Join: function 16 -/
mutual
def ulog_Join.j0 : Nat → List (S39) → Int → List (S39) → Bool → Option ((List (S39)))
  | 0, _, _, _, _ => none
  | k + 1, x0, x1, x2, x17 => if x17 = true then ((slices_Clone_Entry.f x0).bind fun t138 => (some t138)) else (ulog_Join.l0 k x0 x1 x2 x2 (x2.length : Int) 0)
def ulog_Join.l0 : Nat → List (S39) → Int → List (S39) → List (S39) → Int → Int → Option ((List (S39)))
  | 0, _, _, _, _, _, _ => none
  | k + 1, x0, x1, x2, x20, x21, x22 => if x22 < x21 then (if 0 ≤ x22 then (if x22 < (x20.length : Int) then (if (wrap64 (x1 + x22)) ≥ (x0.length : Int) then (ulog_Join.j2 k x0 x1 x2 x22 (wrap64 (x1 + x22)) x20 x21 x22 true) else (if 0 ≤ (wrap64 (x1 + x22)) then (if (wrap64 (x1 + x22)) < (x0.length : Int) then (ulog_Join.j2 k x0 x1 x2 x22 (wrap64 (x1 + x22)) x20 x21 x22 (((rd_T39 x0 (wrap64 (x1 + x22))).f0) != ((rd_T39 x20 x22).f0))) else (none)) else (none))) else (none)) else (none)) else ((slices_Clone_Entry.f x0).bind fun t141 => (some t141))
def ulog_Join.j2 : Nat → List (S39) → Int → List (S39) → Int → Int → List (S39) → Int → Int → Bool → Option ((List (S39)))
  | 0, _, _, _, _, _, _, _, _, _ => none
  | k + 1, x0, x1, x2, x7, x9, x20, x21, x22, x43 => if x43 = true then (if 0 ≤ x9 then (if x9 ≤ (x0.length : Int) then (if 0 ≤ x7 then (if x7 ≤ (x2.length : Int) then ((slices_Concat_Entry.f k (([(x0.take (x9 : Int).toNat), (x2.drop (x7 : Int).toNat)] : List (List (S39))))).bind fun t160 => (some t160)) else (none)) else (none)) else (none)) else (none)) else (ulog_Join.l0 k x0 x1 x2 x20 x21 (wrap64 (x22 + 1)))
end
def ulog_Join.f (k : Nat) (l0 : List (S39)) (a1 : Int) (l2 : List (S39)) : Option ((List (S39))) := if a1 < 0 then (ulog_Join.j0 k l0 a1 l2 true) else (ulog_Join.j0 k l0 a1 l2 (decide (a1 > (l0.length : Int))))
def ulog_Join.T7 : Bool × List (List Nat × List Nat) := (true, [([], []), ([], []), ([1], [1]), ([0, 2], [0, 2]), ([3], [3]), ([4], [4]), ([4], [4]), ([5, 6, 4], [4, 5, 6]), ([7, 4], [4, 7]), ([8, 4], [4, 8]), ([4], [4]), ([10, 4], [4, 10]), ([9, 11, 4], [4, 9, 11]), ([4, 12], [4, 12])])
def ulog_Join.B7 : List Nat := [0, 0, 2, 7, 15, 31, 31, 127, 255, 511, 31, 1055, 4095, 8191]
theorem ulog_Join.tab7 : rtab .any (opsOf Try.f16 7) = ulog_Join.T7 := by kernel_rfl
theorem ulog_Join.bits7 : waitsOk ulog_Join.T7.2 ulog_Join.B7 = true := by kernel_rfl
def ulog_Join.T8 : Bool × List (List Nat × List Nat) := (true, [([], []), ([], []), ([0, 1], [0, 1]), ([], []), ([], []), ([3, 4], [3, 4]), ([2, 5], [2, 5]), ([6], [6]), ([7, 7, 0, 1, 2, 3, 4, 5, 6, 7], [7])])
def ulog_Join.B8 : List Nat := [0, 0, 3, 0, 0, 24, 63, 127, 255]
theorem ulog_Join.tab8 : rtab .any (opsOf Try.f16 8) = ulog_Join.T8 := by kernel_rfl
theorem ulog_Join.bits8 : waitsOk ulog_Join.T8.2 ulog_Join.B8 = true := by kernel_rfl
set_option maxHeartbeats 8000000 in
set_option maxRecDepth 100000 in
theorem ulog_Join.calls (k : Nat) (P0_ : Nat → Prop) (A0 : Option Addr) (c0 : Nat) (l0 : List (S39)) (a1 : Int) (P2_ : Nat → Prop) (A2 : Option Addr) (c2 : Nat) (l2 : List (S39)) (r : List (S39)) (w : World) (hs0 : Kd.V k39 39 w w.heap.size (fun k_ => P0_ k_) (.slice A0 l0.length c0) l0) (hs2 : Kd.V k39 39 w w.heap.size (fun k_ => P2_ k_) (.slice A2 l2.length c2) l2) (h : ulog_Join.f k l0 a1 l2 = some r) :
    Calls Try.prog 16 #[.slice A0 l0.length c0, .int .i64 a1, .slice A2 l2.length c2] w fun e w' => ∃ v0_ : Value, e = .returned (v0_) ∧ Kd.N k39 39 w' w.heap.size (fun k_ => ((P0_ k_ ∨ P2_ k_) ∨ w.heap.size ≤ k_)) v0_ r ∧ Below w.heap.size w w' := by
  have hu39 := Try.underlying39
  have HO0 := Aside0.mk (show Kd.V k39 39 w w.heap.size (fun k_ => ((P0_ k_ ∨ P2_ k_) ∨ w.heap.size ≤ k_)) (.slice A0 l0.length c0) l0 from Kd.V_mono hs0 (fun k_ hk => .inl (.inl hk)))
  have HO2 := Aside0.mk (show Kd.V k39 39 w w.heap.size (fun k_ => ((P0_ k_ ∨ P2_ k_) ∨ w.heap.size ≤ k_)) (.slice A2 l2.length c2) l2 from Kd.V_mono hs2 (fun k_ hk => .inl (.inr hk)))
  have HB := Aside0.mk (Below.refl w.heap.size w)
  have H : (if a1 < 0 then (ulog_Join.j0 k l0 a1 l2 true) else (ulog_Join.j0 k l0 a1 l2 (decide (a1 > (l0.length : Int))))) = some r := h
  clear h
  have HC4 := Aside0.mk H
  clear H
  go_enter Try.func16, Try.ntmps16
  go_upto_region 1 with (fail)
  go_cut [17] (fun v17 wc => ∃ (kq : Nat) (x17_3 : Bool), v17 = .bool x17_3 ∧ Aside0 (ulog_Join.j0 kq l0 a1 l2 x17_3 = some r) ∧ Aside0 (kq ≤ k) ∧ Aside0 (Kd.V k39 39 wc w.heap.size (fun k_ => ((P0_ k_ ∨ P2_ k_) ∨ w.heap.size ≤ k_)) (.slice A0 l0.length c0) l0) ∧ Aside0 (Kd.V k39 39 wc w.heap.size (fun k_ => ((P0_ k_ ∨ P2_ k_) ∨ w.heap.size ≤ k_)) (.slice A2 l2.length c2) l2) ∧ Aside0 (Below w.heap.size w wc))
  case first =>
    have H := HC4.out
    clear HC4
    by_cases c5 : a1 < 0
    · rw [if_pos c5] at H
      have c5b0 : decide (a1 < 0) = true := decide_eq_true c5
      clear c5
      (first | rw [c5b0] | (simp only [i64_w, i32_w]; rw [c5b0]) | skip)
      have H' := Aside0.mk H
      clear H
      go_wp2
      go_meet
      case rel => exact ⟨_, (true), (by first | rfl | (simp; done) | (simp [*]; done)), H', ⟨by first | omega | exact Nat.le_refl _⟩, ⟨by (with_reducible repeat (first | apply Kd.V_alloc | apply Kd.V_drewN | apply Kd.V_drew)); exact HO0.out⟩, ⟨by (with_reducible repeat (first | apply Kd.V_alloc | apply Kd.V_drewN | apply Kd.V_drew)); exact HO2.out⟩, ⟨by repeat (first | (with_reducible first | exact HB.out | apply below_alloc | apply pw_below_drewN | apply below_drew1) | exact HB.out)⟩⟩
    · rw [if_neg c5] at H
      have c5b0 : decide (a1 < 0) = false := decide_eq_false c5
      clear c5
      (first | rw [c5b0] | (simp only [i64_w, i32_w]; rw [c5b0]) | skip)
      have H' := Aside0.mk H
      clear H
      go_wp2
      go_meet
      case rel => exact ⟨_, (decide (a1 > (l0.length : Int))), (by first | rfl | (simp; done) | (simp [*]; done)), H', ⟨by first | omega | exact Nat.le_refl _⟩, ⟨by (with_reducible repeat (first | apply Kd.V_alloc | apply Kd.V_drewN | apply Kd.V_drew)); exact HO0.out⟩, ⟨by (with_reducible repeat (first | apply Kd.V_alloc | apply Kd.V_drewN | apply Kd.V_drew)); exact HO2.out⟩, ⟨by repeat (first | (with_reducible first | exact HB.out | apply below_alloc | apply pw_below_drewN | apply below_drew1) | exact HB.out)⟩⟩
  case rest =>
    clear HC4
    try clear c1
    try clear c2
    try clear p2
    try clear c5
    try clear c5b0
    obtain ⟨kq, x17_3, rfl, HA, HJ3, HO_0, HO_2, HB⟩ := hcut
    cases kq with
    | zero => exact absurd HA.out (by simp [ulog_Join.j0])
    | succ kj3 =>
      have H := HA.out
      clear HA
      simp only [ulog_Join.j0] at H
      by_cases c6 : x17_3 = true
      · subst c6
        have H1 : ((slices_Clone_Entry.f l0).bind fun t138 => (some t138)) = some r := by rw [if_pos rfl] at H; exact H
        clear H
        have H := H1
        clear H1
        replace H := Option.bind_eq_some_iff.mp H
        obtain ⟨t138, A70, H⟩ := H
        replace H : (some t138) = some r := H
        have A7 := Aside0.mk A70
        clear A70
        obtain rfl := Option.some.inj H
        go_wp2_with (first | ((with_reducible refine gate_callee (f := 25) rfl ?_); refine goesL_ (some 19) rfl rfl Try.func25 (by kernel_rfl) rfl #[.slice A0 l0.length c0] rfl (by (try simp only [List.map_toArray, List.map_cons, List.map_nil]); first | done | rfl | (simp only [List.length_drop, List.length_take]; rfl)) ?_; (with_reducible refine (slices_Clone_Entry.calls (fun k_ => ((P0_ k_ ∨ P2_ k_) ∨ w.heap.size ≤ k_)) _ _ l0 t138 _ ?side1 A7.out).mono ?_); (case side1 => exact HO_0.out); rintro e w8 ⟨v139, rfl, ho0, hb⟩; refine ⟨_, rfl, ?_⟩; have n0_ := Aside0.mk (Kd.V_elder' (by (with_reducible repeat (first | apply Kd.V_alloc | apply Kd.V_drewN | apply Kd.V_drew)); exact HO_0.out) (Kd.N_base ho0) hb); have n1_ := Aside0.mk (Kd.V_elder' (by (with_reducible repeat (first | apply Kd.V_alloc | apply Kd.V_drewN | apply Kd.V_drew)); exact HO_2.out) (Kd.N_base ho0) hb); have n2_ := Aside0.mk (Kd.N_lower (Kd.N_mono (ok' := fun k_ => ((P0_ k_ ∨ P2_ k_) ∨ w.heap.size ≤ k_)) ho0 (fun k_ hk_ => Or.elim hk_ (fun hs_ => hs_) (fun hn_ => (.inr (Nat.le_trans (below_size (by repeat (first | (with_reducible first | exact HB.out | apply below_alloc | apply pw_below_drewN | apply below_drew1) | exact HB.out))) hn_))))) (below_size (by repeat (first | (with_reducible first | exact HB.out | apply below_alloc | apply pw_below_drewN | apply below_drew1) | exact HB.out)))); have n3_ := Aside0.mk (below_step (by repeat (first | (with_reducible first | exact HB.out | apply below_alloc | apply pw_below_drewN | apply below_drew1) | exact HB.out)) hb); clear HO_0; clear HO_2; clear HB; have HO_0 := n0_; have HO_2 := n1_; have HO140 := n2_; have HB := n3_; clear n0_ n1_ n2_ n3_; (try clear hb); (try clear hb2); (try clear hk); (try clear hi); (try clear hgn_); (try clear ho0)))
        go_ret
        exact ⟨_, by first | rfl | (simp [errW_none, errW_some] <;> rfl) | (simp [*, errW_none, errW_some] <;> rfl), by (with_reducible repeat (first | apply Kd.N_alloc | apply Kd.N_drewN | apply Kd.N_drew)); exact HO140.out, by repeat (first | (with_reducible first | exact HB.out | apply below_alloc | apply pw_below_drewN | apply below_drew1) | exact HB.out)⟩
      · replace c6 := Bool.eq_false_iff.mpr c6
        subst c6
        have H1 : (ulog_Join.l0 kj3 l0 a1 l2 l2 (l2.length : Int) 0) = some r := by rw [if_neg (show ¬ (false = true) by decide)] at H; exact H
        clear H
        have H := H1
        clear H1
        have H' := Aside0.mk H
        clear H
        go_wp2
        go_loopg [22] kj3 (fun kq v22 w' => ∃ (x22_2 : Int), v22 = .int .i64 x22_2 ∧ Aside0 (ulog_Join.l0 kq l0 a1 l2 l2 (l2.length : Int) x22_2 = some r) ∧ Aside0 (kq ≤ kj3) ∧ Aside0 (Kd.V k39 39 w' w.heap.size (fun k_ => ((P0_ k_ ∨ P2_ k_) ∨ w.heap.size ≤ k_)) (.slice A0 l0.length c0) l0) ∧ Aside0 (Kd.V k39 39 w' w.heap.size (fun k_ => ((P0_ k_ ∨ P2_ k_) ∨ w.heap.size ≤ k_)) (.slice A2 l2.length c2) l2) ∧ Aside0 (Kd.V k39 39 w' w.heap.size (fun k_ => ((P0_ k_ ∨ P2_ k_) ∨ w.heap.size ≤ k_)) (.slice A2 l2.length c2) l2) ∧ Aside0 (Below w.heap.size w w'))
        case atStart => exact ⟨(0), (by first | rfl | (simp; done) | (simp [*]; done)), H', ⟨Nat.le_refl _⟩, ⟨by (with_reducible repeat (first | apply Kd.V_alloc | apply Kd.V_drewN | apply Kd.V_drew)); exact HO_0.out⟩, ⟨by (with_reducible repeat (first | apply Kd.V_alloc | apply Kd.V_drewN | apply Kd.V_drew)); exact HO_2.out⟩, ⟨by (with_reducible repeat (first | apply Kd.V_alloc | apply Kd.V_drewN | apply Kd.V_drew)); exact HO_2.out⟩, ⟨by repeat (first | (with_reducible first | exact HB.out | apply below_alloc | apply pw_below_drewN | apply below_drew1) | exact HB.out)⟩⟩
        case round =>
          clear H'
          try clear c1
          try clear c2
          try clear p2
          try clear c5
          try clear c5b0
          try clear c6
          try clear p2
          obtain ⟨x22_2, rfl, HA, HK2, HO_0, HO_2, HO_20, HB⟩ := hrel
          cases gk with
          | zero => exact absurd HA.out (by simp [ulog_Join.l0])
          | succ k2 =>
            have H := HA.out
            clear HA
            simp only [ulog_Join.l0] at H
            by_cases c9 : x22_2 < (l2.length : Int)
            · rw [if_pos c9] at H
              have c9b0 : decide (x22_2 < (l2.length : Int)) = true := decide_eq_true c9
              clear c9
              by_cases c10 : 0 ≤ x22_2
              · rw [if_pos c10] at H
                have c10b0 : decide (0 ≤ x22_2) = true := decide_eq_true c10
                clear c10
                by_cases c11 : x22_2 < (l2.length : Int)
                · rw [if_pos c11] at H
                  have c11b0 : decide (x22_2 < (l2.length : Int)) = true := decide_eq_true c11
                  clear c11
                  have HC12 := Aside0.mk H
                  clear H
                  have p144 : 0 ≤ (x22_2 : Int) := of_decide_eq_true (by first | (with_reducible assumption) | assumption)
                  have q144 : x22_2 < (l2.length : Int) := of_decide_eq_true (by first | (with_reducible assumption) | assumption)
                  obtain ⟨ad144, A144_4, c144_4, A144_5, c144_5, e144, hx144_0, hx144_1, hx144_2, hx144_3, hx144_4, hx144_5, hl144_4, hi144_4, hl144_5, hi144_5⟩ := at_T39 (Kd.V_reads' HO_20.out).2.2 x22_2 p144 q144
                  cases e144
                  obtain ⟨ce144, hce144, hMe144, hcc144⟩ := Kd.V_get HO_20.out z39 x22_2 p144 (by first | exact q144 | exact of_decide_eq_true (by first | (with_reducible assumption) | assumption) | (have e_ := (Kd.V_reads' HO_20.out).1; omega))
                  obtain ⟨ua144_4, uc144_4, ua144_5, uc144_5, rfl, ul144_4, ge144_4, ul144_5, ge144_5⟩ := k39_openF hMe144
                  have hv144_4 := hcc144 4 _ rfl
                  rw [add_field _ _ 4 (by omega)] at hv144_4
                  replace hv144_4 := Option.some.inj (hv144_4.symm.trans hx144_4)
                  injection hv144_4 with hva_ hvn_ hvc_
                  rw [hva_] at ge144_4
                  rw [hvc_] at ul144_4
                  have HL144_4 := Aside0.mk (show Kd.V k55 55 _ w.heap.size _ _ ((rd_T39 l2 x22_2).f2.f2) from Kd.V_mk ul144_4 ge144_4)
                  clear hva_ hvn_ hvc_ ge144_4 ul144_4
                  have hv144_5 := hcc144 5 _ rfl
                  rw [add_field _ _ 5 (by omega)] at hv144_5
                  replace hv144_5 := Option.some.inj (hv144_5.symm.trans hx144_5)
                  injection hv144_5 with hva_ hvn_ hvc_
                  rw [hva_] at ge144_5
                  rw [hvc_] at ul144_5
                  have HL144_5 := Aside0.mk (show Kd.V k58 58 _ w.heap.size _ _ ((rd_T39 l2 x22_2).f2.f3) from Kd.V_mk ul144_5 ge144_5)
                  clear hva_ hvn_ hvc_ ge144_5 ul144_5
                  clear hcc144 hce144
                  have HR144_4 := Aside0.mk hi144_4
                  have HC144_4 := Aside0.mk hl144_4
                  clear hi144_4 hl144_4
                  have HR144_5 := Aside0.mk hi144_5
                  have HC144_5 := Aside0.mk hl144_5
                  clear hi144_5 hl144_5
                  replace p144 := eq_true p144
                  replace q144 := eq_true q144
                  go_upto_region 7 with (first | ((with_reducible refine gate_dst (N := 8) rfl ?_); (try (refine gate_guard (by rfl) ?_; dsimp only)); refine box_event ?hg (N := 8) ?hd (cs := #[.int .i64 0, .bool false, .int .i64 0, .int .i64 0, .slice none 0 0, .slice none 0 0]) (t := 39) ?hr ?_; (case hd => rfl); (case hg => rfl); (case hr => first | (go_simp; done) | (go_simp; rfl)); intro gb145 hg w13 hbox hb; have n0_ := Aside0.mk (Kd.V_below (Kd.V_elderB (by (with_reducible repeat (first | apply Kd.V_alloc | apply Kd.V_drewN | apply Kd.V_drew)); exact HO_0.out) gb145 (Nat.le_of_eq hg.symm)) hb); have n1_ := Aside0.mk (Kd.V_below (Kd.V_elderB (by (with_reducible repeat (first | apply Kd.V_alloc | apply Kd.V_drewN | apply Kd.V_drew)); exact HO_2.out) gb145 (Nat.le_of_eq hg.symm)) hb); have n2_ := Aside0.mk (Kd.V_below (Kd.V_elderB (by (with_reducible repeat (first | apply Kd.V_alloc | apply Kd.V_drewN | apply Kd.V_drew)); exact HO_20.out) gb145 (Nat.le_of_eq hg.symm)) hb); have n3_ := Aside0.mk (Kd.V_below (Kd.V_elderB (by (with_reducible repeat (first | apply Kd.V_alloc | apply Kd.V_drewN | apply Kd.V_drew)); exact HL144_4.out) gb145 (Nat.le_of_eq hg.symm)) hb); have n4_ := Aside0.mk (Kd.V_below (Kd.V_elderB (by (with_reducible repeat (first | apply Kd.V_alloc | apply Kd.V_drewN | apply Kd.V_drew)); exact HL144_5.out) gb145 (Nat.le_of_eq hg.symm)) hb); have n5_ := Aside0.mk (Kd.C_below (by repeat (first | (with_reducible exact HR144_4.out) | (with_reducible refine Kd.C_alloc ?_ _) | (with_reducible refine Kd.C_drewN ?_ _) | (with_reducible refine Kd.C_drew ?_) | exact HR144_4.out)) hb); have n6_ := Aside0.mk (Kd.C_below (by repeat (first | (with_reducible exact HR144_5.out) | (with_reducible refine Kd.C_alloc ?_ _) | (with_reducible refine Kd.C_drewN ?_ _) | (with_reducible refine Kd.C_drew ?_) | exact HR144_5.out)) hb); have n7_ := Aside0.mk (below_step (by repeat (first | (with_reducible first | exact HB.out | apply below_alloc | apply pw_below_drewN | apply below_drew1) | exact HB.out)) hb); have n8_ := Aside0.mk (hbox); have n9_ := Aside0.mk ((by rw [hg]; exact (below_size (by repeat (first | (with_reducible first | exact HB.out | apply below_alloc | apply pw_below_drewN | apply below_drew1) | exact HB.out))) : w.heap.size ≤ gb145)); have n10_ := Aside0.mk ((by rw [hg]; exact (below_size (by repeat (first | (with_reducible first | exact HB.out | apply below_alloc | apply pw_below_drewN | apply below_drew1) | exact HB.out))) : w.heap.size ≤ gb145)); clear HO_0; clear HO_2; clear HO_20; clear HL144_4; clear HL144_5; clear HR144_4; clear HR144_5; clear HB; have HO_0 := n0_; have HO_2 := n1_; have HO_20 := n2_; have HL144_4 := n3_; have HL144_5 := n4_; have HR144_4 := n5_; have HR144_5 := n6_; have HB := n7_; have BK145 := n8_; have GW145 := n9_; have GE145 := n10_; clear n0_ n1_ n2_ n3_ n4_ n5_ n6_ n7_ n8_ n9_ n10_; clear hb hbox hg; have hcz14_0 : w13.cell? ⟨gb145, 0, none⟩ = some (.int .i64 0) := (blk_cell BK145.out 0).trans rfl; have hcz14_1 : w13.cell? ⟨gb145, 1, none⟩ = some (.bool false) := (blk_cell BK145.out 1).trans rfl; have hcz14_2 : w13.cell? ⟨gb145, 2, none⟩ = some (.int .i64 0) := (blk_cell BK145.out 2).trans rfl; have hcz14_3 : w13.cell? ⟨gb145, 3, none⟩ = some (.int .i64 0) := (blk_cell BK145.out 3).trans rfl; have hcz14_4 : w13.cell? ⟨gb145, 4, none⟩ = some (.slice none 0 0) := (blk_cell BK145.out 4).trans rfl; have hcz14_5 : w13.cell? ⟨gb145, 5, none⟩ = some (.slice none 0 0) := (blk_cell BK145.out 5).trans rfl; have hfz14_0 := blk_frozen BK145.out 0; have hfz14_1 := blk_frozen BK145.out 1; have hfz14_2 := blk_frozen BK145.out 2; have hfz14_3 := blk_frozen BK145.out 3; have hfz14_4 := blk_frozen BK145.out 4; have hfz14_5 := blk_frozen BK145.out 5))
                  (try simp only [Act.put, List.setIfInBounds_toArray, List.set_cons_zero, List.set_cons_succ])
                  go_cut [43] (fun v43 wc => ∃ (kq : Nat) (x43_11 : Bool), v43 = .bool x43_11 ∧ Aside0 (ulog_Join.j2 kq l0 a1 l2 x22_2 (wrap64 (a1 + x22_2)) l2 (l2.length : Int) x22_2 x43_11 = some r) ∧ Aside0 (kq ≤ k2) ∧ Aside0 (Kd.V k39 39 wc w.heap.size (fun k_ => ((P0_ k_ ∨ P2_ k_) ∨ w.heap.size ≤ k_)) (.slice A0 l0.length c0) l0) ∧ Aside0 (Kd.V k39 39 wc w.heap.size (fun k_ => ((P0_ k_ ∨ P2_ k_) ∨ w.heap.size ≤ k_)) (.slice (some ad144) l2.length c2) l2) ∧ Aside0 (Kd.V k39 39 wc w.heap.size (fun k_ => ((P0_ k_ ∨ P2_ k_) ∨ w.heap.size ≤ k_)) (.slice (some ad144) l2.length c2) l2) ∧ Aside0 (Below w.heap.size w wc))
                  case first =>
                    have H := HC12.out
                    clear HC12
                    by_cases c15 : (wrap64 (a1 + x22_2)) ≥ (l0.length : Int)
                    · rw [if_pos c15] at H
                      have c15b0 : decide ((l0.length : Int) ≤ (wrap64 (a1 + x22_2))) = true := decide_eq_true c15
                      clear c15
                      (first | rw [c15b0] | (simp only [i64_w, i32_w]; rw [c15b0]) | skip)
                      have H' := Aside0.mk H
                      clear H
                      try go_wp2
                      have n0_ : Aside0 (Kd.V k39 39 ((((((w13.setCell ⟨gb145, 0, none⟩ (.int .i64 ((rd_T39 l2 x22_2).f0))).setCell ⟨gb145, 1, none⟩ (.bool ((rd_T39 l2 x22_2).f1))).setCell ⟨gb145, 2, none⟩ (.int .i64 ((rd_T39 l2 x22_2).f2.f0))).setCell ⟨gb145, 3, none⟩ (.int .i64 ((rd_T39 l2 x22_2).f2.f1))).setCell ⟨gb145, 4, none⟩ (.slice A144_4 ((rd_T39 l2 x22_2).f2.f2).length c144_4)).setCell ⟨gb145, 5, none⟩ (.slice A144_5 ((rd_T39 l2 x22_2).f2.f3).length c144_5)) w.heap.size (fun k_ => ((P0_ k_ ∨ P2_ k_) ∨ w.heap.size ≤ k_) ∧ k_ ≠ gb145) (.slice A0 l0.length c0) l0) := ⟨by (with_reducible repeat (first | apply Kd.V_alloc | apply Kd.V_drewN | apply Kd.V_drew)); exact Kd.V_mono (Kd.V_far (p := ⟨gb145, 5, none⟩) (Kd.V_far (p := ⟨gb145, 4, none⟩) (Kd.V_far (p := ⟨gb145, 3, none⟩) (Kd.V_far (p := ⟨gb145, 2, none⟩) (Kd.V_far (p := ⟨gb145, 1, none⟩) (Kd.V_far (p := ⟨gb145, 0, none⟩) (Kd.V_mono HO_0.out (fun k_ hk => (⟨hk, hk.2⟩ : _ ∧ k_ ≠ gb145))) (fun _ hk => hk.2) (.int .i64 ((rd_T39 l2 x22_2).f0))) (fun _ hk => hk.2) (.bool ((rd_T39 l2 x22_2).f1))) (fun _ hk => hk.2) (.int .i64 ((rd_T39 l2 x22_2).f2.f0))) (fun _ hk => hk.2) (.int .i64 ((rd_T39 l2 x22_2).f2.f1))) (fun _ hk => hk.2) (.slice A144_4 ((rd_T39 l2 x22_2).f2.f2).length c144_4)) (fun _ hk => hk.2) (.slice A144_5 ((rd_T39 l2 x22_2).f2.f3).length c144_5)) (fun _ hk => ⟨hk.1.1, hk.1.2⟩)⟩
                      have n1_ : Aside0 (Kd.V k39 39 ((((((w13.setCell ⟨gb145, 0, none⟩ (.int .i64 ((rd_T39 l2 x22_2).f0))).setCell ⟨gb145, 1, none⟩ (.bool ((rd_T39 l2 x22_2).f1))).setCell ⟨gb145, 2, none⟩ (.int .i64 ((rd_T39 l2 x22_2).f2.f0))).setCell ⟨gb145, 3, none⟩ (.int .i64 ((rd_T39 l2 x22_2).f2.f1))).setCell ⟨gb145, 4, none⟩ (.slice A144_4 ((rd_T39 l2 x22_2).f2.f2).length c144_4)).setCell ⟨gb145, 5, none⟩ (.slice A144_5 ((rd_T39 l2 x22_2).f2.f3).length c144_5)) w.heap.size (fun k_ => ((P0_ k_ ∨ P2_ k_) ∨ w.heap.size ≤ k_) ∧ k_ ≠ gb145) (.slice (some ad144) l2.length c2) l2) := ⟨by (with_reducible repeat (first | apply Kd.V_alloc | apply Kd.V_drewN | apply Kd.V_drew)); exact Kd.V_mono (Kd.V_far (p := ⟨gb145, 5, none⟩) (Kd.V_far (p := ⟨gb145, 4, none⟩) (Kd.V_far (p := ⟨gb145, 3, none⟩) (Kd.V_far (p := ⟨gb145, 2, none⟩) (Kd.V_far (p := ⟨gb145, 1, none⟩) (Kd.V_far (p := ⟨gb145, 0, none⟩) (Kd.V_mono HO_2.out (fun k_ hk => (⟨hk, hk.2⟩ : _ ∧ k_ ≠ gb145))) (fun _ hk => hk.2) (.int .i64 ((rd_T39 l2 x22_2).f0))) (fun _ hk => hk.2) (.bool ((rd_T39 l2 x22_2).f1))) (fun _ hk => hk.2) (.int .i64 ((rd_T39 l2 x22_2).f2.f0))) (fun _ hk => hk.2) (.int .i64 ((rd_T39 l2 x22_2).f2.f1))) (fun _ hk => hk.2) (.slice A144_4 ((rd_T39 l2 x22_2).f2.f2).length c144_4)) (fun _ hk => hk.2) (.slice A144_5 ((rd_T39 l2 x22_2).f2.f3).length c144_5)) (fun _ hk => ⟨hk.1.1, hk.1.2⟩)⟩
                      have n2_ : Aside0 (Kd.V k39 39 ((((((w13.setCell ⟨gb145, 0, none⟩ (.int .i64 ((rd_T39 l2 x22_2).f0))).setCell ⟨gb145, 1, none⟩ (.bool ((rd_T39 l2 x22_2).f1))).setCell ⟨gb145, 2, none⟩ (.int .i64 ((rd_T39 l2 x22_2).f2.f0))).setCell ⟨gb145, 3, none⟩ (.int .i64 ((rd_T39 l2 x22_2).f2.f1))).setCell ⟨gb145, 4, none⟩ (.slice A144_4 ((rd_T39 l2 x22_2).f2.f2).length c144_4)).setCell ⟨gb145, 5, none⟩ (.slice A144_5 ((rd_T39 l2 x22_2).f2.f3).length c144_5)) w.heap.size (fun k_ => ((P0_ k_ ∨ P2_ k_) ∨ w.heap.size ≤ k_) ∧ k_ ≠ gb145) (.slice (some ad144) l2.length c2) l2) := ⟨by (with_reducible repeat (first | apply Kd.V_alloc | apply Kd.V_drewN | apply Kd.V_drew)); exact Kd.V_mono (Kd.V_far (p := ⟨gb145, 5, none⟩) (Kd.V_far (p := ⟨gb145, 4, none⟩) (Kd.V_far (p := ⟨gb145, 3, none⟩) (Kd.V_far (p := ⟨gb145, 2, none⟩) (Kd.V_far (p := ⟨gb145, 1, none⟩) (Kd.V_far (p := ⟨gb145, 0, none⟩) (Kd.V_mono HO_20.out (fun k_ hk => (⟨hk, hk.2⟩ : _ ∧ k_ ≠ gb145))) (fun _ hk => hk.2) (.int .i64 ((rd_T39 l2 x22_2).f0))) (fun _ hk => hk.2) (.bool ((rd_T39 l2 x22_2).f1))) (fun _ hk => hk.2) (.int .i64 ((rd_T39 l2 x22_2).f2.f0))) (fun _ hk => hk.2) (.int .i64 ((rd_T39 l2 x22_2).f2.f1))) (fun _ hk => hk.2) (.slice A144_4 ((rd_T39 l2 x22_2).f2.f2).length c144_4)) (fun _ hk => hk.2) (.slice A144_5 ((rd_T39 l2 x22_2).f2.f3).length c144_5)) (fun _ hk => ⟨hk.1.1, hk.1.2⟩)⟩
                      have n3_ : Aside0 (Kd.V k55 55 ((((((w13.setCell ⟨gb145, 0, none⟩ (.int .i64 ((rd_T39 l2 x22_2).f0))).setCell ⟨gb145, 1, none⟩ (.bool ((rd_T39 l2 x22_2).f1))).setCell ⟨gb145, 2, none⟩ (.int .i64 ((rd_T39 l2 x22_2).f2.f0))).setCell ⟨gb145, 3, none⟩ (.int .i64 ((rd_T39 l2 x22_2).f2.f1))).setCell ⟨gb145, 4, none⟩ (.slice A144_4 ((rd_T39 l2 x22_2).f2.f2).length c144_4)).setCell ⟨gb145, 5, none⟩ (.slice A144_5 ((rd_T39 l2 x22_2).f2.f3).length c144_5)) w.heap.size (fun k_ => ((P0_ k_ ∨ P2_ k_) ∨ w.heap.size ≤ k_) ∧ k_ ≠ gb145) (.slice A144_4 ((rd_T39 l2 x22_2).f2.f2).length c144_4) ((rd_T39 l2 x22_2).f2.f2)) := ⟨by (with_reducible repeat (first | apply Kd.V_alloc | apply Kd.V_drewN | apply Kd.V_drew)); exact Kd.V_mono (Kd.V_far (p := ⟨gb145, 5, none⟩) (Kd.V_far (p := ⟨gb145, 4, none⟩) (Kd.V_far (p := ⟨gb145, 3, none⟩) (Kd.V_far (p := ⟨gb145, 2, none⟩) (Kd.V_far (p := ⟨gb145, 1, none⟩) (Kd.V_far (p := ⟨gb145, 0, none⟩) (Kd.V_mono HL144_4.out (fun k_ hk => (⟨hk, hk.2⟩ : _ ∧ k_ ≠ gb145))) (fun _ hk => hk.2) (.int .i64 ((rd_T39 l2 x22_2).f0))) (fun _ hk => hk.2) (.bool ((rd_T39 l2 x22_2).f1))) (fun _ hk => hk.2) (.int .i64 ((rd_T39 l2 x22_2).f2.f0))) (fun _ hk => hk.2) (.int .i64 ((rd_T39 l2 x22_2).f2.f1))) (fun _ hk => hk.2) (.slice A144_4 ((rd_T39 l2 x22_2).f2.f2).length c144_4)) (fun _ hk => hk.2) (.slice A144_5 ((rd_T39 l2 x22_2).f2.f3).length c144_5)) (fun _ hk => ⟨hk.1.1, hk.1.2⟩)⟩
                      have n4_ : Aside0 (Kd.V k58 58 ((((((w13.setCell ⟨gb145, 0, none⟩ (.int .i64 ((rd_T39 l2 x22_2).f0))).setCell ⟨gb145, 1, none⟩ (.bool ((rd_T39 l2 x22_2).f1))).setCell ⟨gb145, 2, none⟩ (.int .i64 ((rd_T39 l2 x22_2).f2.f0))).setCell ⟨gb145, 3, none⟩ (.int .i64 ((rd_T39 l2 x22_2).f2.f1))).setCell ⟨gb145, 4, none⟩ (.slice A144_4 ((rd_T39 l2 x22_2).f2.f2).length c144_4)).setCell ⟨gb145, 5, none⟩ (.slice A144_5 ((rd_T39 l2 x22_2).f2.f3).length c144_5)) w.heap.size (fun k_ => ((P0_ k_ ∨ P2_ k_) ∨ w.heap.size ≤ k_) ∧ k_ ≠ gb145) (.slice A144_5 ((rd_T39 l2 x22_2).f2.f3).length c144_5) ((rd_T39 l2 x22_2).f2.f3)) := ⟨by (with_reducible repeat (first | apply Kd.V_alloc | apply Kd.V_drewN | apply Kd.V_drew)); exact Kd.V_mono (Kd.V_far (p := ⟨gb145, 5, none⟩) (Kd.V_far (p := ⟨gb145, 4, none⟩) (Kd.V_far (p := ⟨gb145, 3, none⟩) (Kd.V_far (p := ⟨gb145, 2, none⟩) (Kd.V_far (p := ⟨gb145, 1, none⟩) (Kd.V_far (p := ⟨gb145, 0, none⟩) (Kd.V_mono HL144_5.out (fun k_ hk => (⟨hk, hk.2⟩ : _ ∧ k_ ≠ gb145))) (fun _ hk => hk.2) (.int .i64 ((rd_T39 l2 x22_2).f0))) (fun _ hk => hk.2) (.bool ((rd_T39 l2 x22_2).f1))) (fun _ hk => hk.2) (.int .i64 ((rd_T39 l2 x22_2).f2.f0))) (fun _ hk => hk.2) (.int .i64 ((rd_T39 l2 x22_2).f2.f1))) (fun _ hk => hk.2) (.slice A144_4 ((rd_T39 l2 x22_2).f2.f2).length c144_4)) (fun _ hk => hk.2) (.slice A144_5 ((rd_T39 l2 x22_2).f2.f3).length c144_5)) (fun _ hk => ⟨hk.1.1, hk.1.2⟩)⟩
                      have n5_ : Aside0 (((((((w13.setCell ⟨gb145, 0, none⟩ (.int .i64 ((rd_T39 l2 x22_2).f0))).setCell ⟨gb145, 1, none⟩ (.bool ((rd_T39 l2 x22_2).f1))).setCell ⟨gb145, 2, none⟩ (.int .i64 ((rd_T39 l2 x22_2).f2.f0))).setCell ⟨gb145, 3, none⟩ (.int .i64 ((rd_T39 l2 x22_2).f2.f1))).setCell ⟨gb145, 4, none⟩ (.slice A144_4 ((rd_T39 l2 x22_2).f2.f2).length c144_4)).setCell ⟨gb145, 5, none⟩ (.slice A144_5 ((rd_T39 l2 x22_2).f2.f3).length c144_5)).heap[gb145]? = some (.cells #[.int .i64 ((rd_T39 l2 x22_2).f0), .bool ((rd_T39 l2 x22_2).f1), .int .i64 ((rd_T39 l2 x22_2).f2.f0), .int .i64 ((rd_T39 l2 x22_2).f2.f1), .slice A144_4 ((rd_T39 l2 x22_2).f2.f2).length c144_4, .slice A144_5 ((rd_T39 l2 x22_2).f2.f3).length c144_5] 39 (0, 0))) := ⟨by (with_reducible repeat (first | refine blk_drewN ?_ _ | refine blk_drew ?_ | refine blk_alloc ?_ _)); refine blk_put (cs := #[.int .i64 ((rd_T39 l2 x22_2).f0), .bool ((rd_T39 l2 x22_2).f1), .int .i64 ((rd_T39 l2 x22_2).f2.f0), .int .i64 ((rd_T39 l2 x22_2).f2.f1), .slice A144_4 ((rd_T39 l2 x22_2).f2.f2).length c144_4, .slice none 0 0]) ?_ 5 _ rfl; (with_reducible repeat (first | refine blk_drewN ?_ _ | refine blk_drew ?_ | refine blk_alloc ?_ _)); refine blk_put (cs := #[.int .i64 ((rd_T39 l2 x22_2).f0), .bool ((rd_T39 l2 x22_2).f1), .int .i64 ((rd_T39 l2 x22_2).f2.f0), .int .i64 ((rd_T39 l2 x22_2).f2.f1), .slice none 0 0, .slice none 0 0]) ?_ 4 _ rfl; (with_reducible repeat (first | refine blk_drewN ?_ _ | refine blk_drew ?_ | refine blk_alloc ?_ _)); refine blk_put (cs := #[.int .i64 ((rd_T39 l2 x22_2).f0), .bool ((rd_T39 l2 x22_2).f1), .int .i64 ((rd_T39 l2 x22_2).f2.f0), .int .i64 0, .slice none 0 0, .slice none 0 0]) ?_ 3 _ rfl; (with_reducible repeat (first | refine blk_drewN ?_ _ | refine blk_drew ?_ | refine blk_alloc ?_ _)); refine blk_put (cs := #[.int .i64 ((rd_T39 l2 x22_2).f0), .bool ((rd_T39 l2 x22_2).f1), .int .i64 0, .int .i64 0, .slice none 0 0, .slice none 0 0]) ?_ 2 _ rfl; (with_reducible repeat (first | refine blk_drewN ?_ _ | refine blk_drew ?_ | refine blk_alloc ?_ _)); refine blk_put (cs := #[.int .i64 ((rd_T39 l2 x22_2).f0), .bool false, .int .i64 0, .int .i64 0, .slice none 0 0, .slice none 0 0]) ?_ 1 _ rfl; (with_reducible repeat (first | refine blk_drewN ?_ _ | refine blk_drew ?_ | refine blk_alloc ?_ _)); refine blk_put (cs := #[.int .i64 0, .bool false, .int .i64 0, .int .i64 0, .slice none 0 0, .slice none 0 0]) ?_ 0 _ rfl; (with_reducible repeat (first | refine blk_drewN ?_ _ | refine blk_drew ?_ | refine blk_alloc ?_ _)); exact BK145.out⟩
                      have n6_ : Aside0 (Below w.heap.size w ((((((w13.setCell ⟨gb145, 0, none⟩ (.int .i64 ((rd_T39 l2 x22_2).f0))).setCell ⟨gb145, 1, none⟩ (.bool ((rd_T39 l2 x22_2).f1))).setCell ⟨gb145, 2, none⟩ (.int .i64 ((rd_T39 l2 x22_2).f2.f0))).setCell ⟨gb145, 3, none⟩ (.int .i64 ((rd_T39 l2 x22_2).f2.f1))).setCell ⟨gb145, 4, none⟩ (.slice A144_4 ((rd_T39 l2 x22_2).f2.f2).length c144_4)).setCell ⟨gb145, 5, none⟩ (.slice A144_5 ((rd_T39 l2 x22_2).f2.f3).length c144_5))) := ⟨by repeat (first | (with_reducible first | exact HB.out | apply below_alloc | apply pw_below_drewN | apply below_drew1 | refine below_set ?_ GE145.out) | exact HB.out)⟩
                      (try clear HO_0)
                      (try clear HO_2)
                      (try clear HO_20)
                      (try clear HL144_4)
                      (try clear HL144_5)
                      (try clear BK145)
                      (try clear HB)
                      generalize ((((((w13.setCell ⟨gb145, 0, none⟩ (.int .i64 ((rd_T39 l2 x22_2).f0))).setCell ⟨gb145, 1, none⟩ (.bool ((rd_T39 l2 x22_2).f1))).setCell ⟨gb145, 2, none⟩ (.int .i64 ((rd_T39 l2 x22_2).f2.f0))).setCell ⟨gb145, 3, none⟩ (.int .i64 ((rd_T39 l2 x22_2).f2.f1))).setCell ⟨gb145, 4, none⟩ (.slice A144_4 ((rd_T39 l2 x22_2).f2.f2).length c144_4)).setCell ⟨gb145, 5, none⟩ (.slice A144_5 ((rd_T39 l2 x22_2).f2.f3).length c144_5)) = w16 at n0_ n1_ n2_ n3_ n4_ n5_ n6_ ⊢
                      have HO_0 := n0_
                      have HO_2 := n1_
                      have HO_20 := n2_
                      have HL144_4 := n3_
                      have HL144_5 := n4_
                      have BK145 := n5_
                      have HB := n6_
                      clear n0_ n1_ n2_ n3_ n4_ n5_ n6_
                      have n0_ := Aside0.mk (Kd.V_drew HO_0.out)
                      have n1_ := Aside0.mk (Kd.V_drew HO_2.out)
                      have n2_ := Aside0.mk (Kd.V_drew HO_20.out)
                      have n3_ := Aside0.mk (Kd.V_drew HL144_4.out)
                      have n4_ := Aside0.mk (Kd.V_drew HL144_5.out)
                      have n5_ := Aside0.mk (blk_drew BK145.out)
                      have n6_ := Aside0.mk (below_drew1 HB.out)
                      clear HO_0
                      clear HO_2
                      clear HO_20
                      clear HL144_4
                      clear HL144_5
                      clear BK145
                      clear HB
                      have HO_0 := n0_
                      have HO_2 := n1_
                      have HO_20 := n2_
                      have HL144_4 := n3_
                      have HL144_5 := n4_
                      have BK145 := n5_
                      have HB := n6_
                      clear n0_ n1_ n2_ n3_ n4_ n5_ n6_
                      refine start_ (n := 14) (S := fun w' => True) (ds := []) #[false, false, false, false, false, false, false, false, false, false, false, false, false, false] (by kernel_rfl) rfl rfl trivial (fun hHeld => ?_); refine with_tabW ulog_Join.tab7 ulog_Join.bits7 (fun HT_ HW_ => ?_)
                      generalize w16.drew = w17 at HO_0 HO_2 HO_20 HL144_4 HL144_5 BK145 HB hHeld ⊢
                      refine pure_ (i := 0) (N := some 30) (v := ?_) (a' := ?_) #[true, false, false, false, false, false, false, false, false, false, false, false, false, false] rfl rfl (any_of HT_.out (by kernel_rfl)) (fun _ _ _ h => h) (Or.inl ⟨by rfl, ?_⟩) ?_ ?_
                      rotate_left
                      · intro w'
                        go_simp
                        with_reducible rfl
                      rotate_left
                      · simp only [Act.put, List.setIfInBounds_toArray, List.set_cons_zero, List.set_cons_succ, i64_w, i32_w]
                        rfl
                      refine pure_ (i := 1) (N := some 31) (v := ?_) (a' := ?_) #[true, true, false, false, false, false, false, false, false, false, false, false, false, false] rfl rfl (any_of HT_.out (by kernel_rfl)) (fun _ _ _ h => h) (Or.inl ⟨by rfl, ?_⟩) ?_ ?_
                      rotate_left
                      · intro w'
                        go_simp
                        with_reducible rfl
                      rotate_left
                      · simp only [Act.put, List.setIfInBounds_toArray, List.set_cons_zero, List.set_cons_succ, i64_w, i32_w]
                        rfl
                      refine pure_ (i := 2) (N := some 32) (v := ?_) (a' := ?_) #[true, true, true, false, false, false, false, false, false, false, false, false, false, false] rfl rfl (any_of HT_.out (by kernel_rfl)) (fun _ _ _ h => h) (Or.inl ⟨by rfl, ?_⟩) ?_ ?_
                      rotate_left
                      · intro w'
                        go_simp
                        with_reducible rfl
                      rotate_left
                      · simp only [Act.put, List.setIfInBounds_toArray, List.set_cons_zero, List.set_cons_succ, i64_w, i32_w]
                        rfl
                      refine pure_ (i := 3) (N := some 33) (v := ?_) (a' := ?_) #[true, true, true, true, false, false, false, false, false, false, false, false, false, false] rfl rfl (any_of HT_.out (by kernel_rfl)) (fun _ _ _ h => h) (Or.inl ⟨by rfl, ?_⟩) ?_ ?_
                      rotate_left
                      · intro w'
                        go_simp
                        with_reducible rfl
                      rotate_left
                      · simp only [Act.put, List.setIfInBounds_toArray, List.set_cons_zero, List.set_cons_succ, i64_w, i32_w]
                        rfl
                      refine pure_ (i := 4) (N := some 34) (v := ?_) (a' := ?_) #[true, true, true, true, true, false, false, false, false, false, false, false, false, false] rfl rfl (any_of HT_.out (by kernel_rfl)) (fun _ _ _ h => h) (Or.inl ⟨by rfl, ?_⟩) ?_ ?_
                      rotate_left
                      · intro w'
                        go_simp
                        with_reducible rfl
                      rotate_left
                      · simp only [Act.put, List.setIfInBounds_toArray, List.set_cons_zero, List.set_cons_succ, i64_w, i32_w]
                        rfl
                      refine pure_ (i := 5) (N := some 35) (v := undef) (a' := ?_) #[true, true, true, true, true, true, false, false, false, false, false, false, false, false] rfl rfl (any_of HT_.out (by kernel_rfl)) (fun _ _ _ h => h) (Or.inr ⟨by rfl, rfl⟩) ?_ ?_
                      rotate_left
                      · simp only [Act.put, List.setIfInBounds_toArray, List.set_cons_zero, List.set_cons_succ, i64_w, i32_w]
                        rfl
                      refine pure_ (i := 6) (N := some 36) (v := undef) (a' := ?_) #[true, true, true, true, true, true, true, false, false, false, false, false, false, false] rfl rfl (any_of HT_.out (by kernel_rfl)) (fun _ _ _ h => h) (Or.inr ⟨by rfl, rfl⟩) ?_ ?_
                      rotate_left
                      · simp only [Act.put, List.setIfInBounds_toArray, List.set_cons_zero, List.set_cons_succ, i64_w, i32_w]
                        rfl
                      refine pure_ (i := 7) (N := some 37) (v := undef) (a' := ?_) #[true, true, true, true, true, true, true, true, false, false, false, false, false, false] rfl rfl (any_of HT_.out (by kernel_rfl)) (fun _ _ _ h => h) (Or.inr ⟨by rfl, rfl⟩) ?_ ?_
                      rotate_left
                      · simp only [Act.put, List.setIfInBounds_toArray, List.set_cons_zero, List.set_cons_succ, i64_w, i32_w]
                        rfl
                      refine pure_ (i := 8) (N := some 38) (v := undef) (a' := ?_) #[true, true, true, true, true, true, true, true, true, false, false, false, false, false] rfl rfl (any_of HT_.out (by kernel_rfl)) (fun _ _ _ h => h) (Or.inr ⟨by rfl, rfl⟩) ?_ ?_
                      rotate_left
                      · simp only [Act.put, List.setIfInBounds_toArray, List.set_cons_zero, List.set_cons_succ, i64_w, i32_w]
                        rfl
                      refine pure_ (i := 9) (N := some 39) (v := undef) (a' := ?_) #[true, true, true, true, true, true, true, true, true, true, false, false, false, false] rfl rfl (any_of HT_.out (by kernel_rfl)) (fun _ _ _ h => h) (Or.inr ⟨by rfl, rfl⟩) ?_ ?_
                      rotate_left
                      · simp only [Act.put, List.setIfInBounds_toArray, List.set_cons_zero, List.set_cons_succ, i64_w, i32_w]
                        rfl
                      refine pure_ (i := 10) (N := some 40) (v := undef) (a' := ?_) #[true, true, true, true, true, true, true, true, true, true, true, false, false, false] rfl rfl (any_of HT_.out (by kernel_rfl)) (fun _ _ _ h => h) (Or.inr ⟨by rfl, rfl⟩) ?_ ?_
                      rotate_left
                      · simp only [Act.put, List.setIfInBounds_toArray, List.set_cons_zero, List.set_cons_succ, i64_w, i32_w]
                        rfl
                      refine pure_ (i := 11) (N := some 41) (v := undef) (a' := ?_) #[true, true, true, true, true, true, true, true, true, true, true, true, false, false] rfl rfl (any_of HT_.out (by kernel_rfl)) (fun _ _ _ h => h) (Or.inr ⟨by rfl, rfl⟩) ?_ ?_
                      rotate_left
                      · simp only [Act.put, List.setIfInBounds_toArray, List.set_cons_zero, List.set_cons_succ, i64_w, i32_w]
                        rfl
                      refine pure_ (i := 12) (N := some 42) (v := undef) (a' := ?_) #[true, true, true, true, true, true, true, true, true, true, true, true, true, false] rfl rfl (any_of HT_.out (by kernel_rfl)) (fun _ _ _ h => h) (Or.inr ⟨by rfl, rfl⟩) ?_ ?_
                      rotate_left
                      · simp only [Act.put, List.setIfInBounds_toArray, List.set_cons_zero, List.set_cons_succ, i64_w, i32_w]
                        rfl
                      refine pure_ (i := 13) (N := some 43) (v := ?_) (a' := ?_) #[true, true, true, true, true, true, true, true, true, true, true, true, true, true] rfl rfl (any_of HT_.out (by kernel_rfl)) (fun _ _ _ h => h) (Or.inl ⟨by rfl, ?_⟩) ?_ ?_
                      rotate_left
                      · intro w'
                        go_simp
                        with_reducible rfl
                      rotate_left
                      · simp only [Act.put, List.setIfInBounds_toArray, List.set_cons_zero, List.set_cons_succ, i64_w, i32_w]
                        rfl
                      refine done_ (done_of HT_.out (by kernel_rfl)) ?_
                      try go_wp2
                      go_meet
                      case rel => exact ⟨_, (true), (by first | rfl | (simp; done) | (simp [*]; done)), H', ⟨by have := HJ3.out; have := HK2.out; first | omega | exact Nat.le_refl _⟩, ⟨by (with_reducible repeat (first | apply Kd.V_alloc | apply Kd.V_drewN | apply Kd.V_drew)); exact Kd.V_mono HO_0.out (fun _ hk => hk.1)⟩, ⟨by (with_reducible repeat (first | apply Kd.V_alloc | apply Kd.V_drewN | apply Kd.V_drew)); exact Kd.V_mono HO_2.out (fun _ hk => hk.1)⟩, ⟨by (with_reducible repeat (first | apply Kd.V_alloc | apply Kd.V_drewN | apply Kd.V_drew)); exact Kd.V_mono HO_20.out (fun _ hk => hk.1)⟩, ⟨by repeat (first | (with_reducible first | exact HB.out | apply below_alloc | apply pw_below_drewN | apply below_drew1 | refine below_set ?_ GE145.out) | exact HB.out)⟩⟩
                    · rw [if_neg c15] at H
                      have c15b0 : decide ((l0.length : Int) ≤ (wrap64 (a1 + x22_2))) = false := decide_eq_false c15
                      clear c15
                      (first | rw [c15b0] | (simp only [i64_w, i32_w]; rw [c15b0]) | skip)
                      obtain ⟨ji18, hji18⟩ : ∃ j_ : Int, (wrap64 (a1 + x22_2)) = j_ := ⟨_, rfl⟩
                      replace H : (if 0 ≤ (ji18) then (if (ji18) < (l0.length : Int) then (ulog_Join.j2 k2 l0 a1 l2 x22_2 ji18 l2 (l2.length : Int) x22_2 (((rd_T39 l0 (ji18)).f0) != ((rd_T39 l2 x22_2).f0))) else (none)) else (none)) = some r := by first | (rw [hji18] at H; exact H) | (simp only [hji18] at H ⊢; exact H)
                      (try rw [hji18] at c15b0)
                      have hji18w : (IntKind.i64.wrap (a1 + x22_2)) = ji18 := (i64_w _).trans hji18
                      by_cases c19 : 0 ≤ (ji18)
                      · rw [if_pos c19] at H
                        have c19b0 : decide (0 ≤ (ji18)) = true := decide_eq_true c19
                        clear c19
                        by_cases c20 : (ji18) < (l0.length : Int)
                        · rw [if_pos c20] at H
                          have c20b0 : decide ((ji18) < (l0.length : Int)) = true := decide_eq_true c20
                          clear c20
                          have H' := Aside0.mk H
                          clear H
                          try go_wp2
                          have n0_ : Aside0 (Kd.V k39 39 ((((((w13.setCell ⟨gb145, 0, none⟩ (.int .i64 ((rd_T39 l2 x22_2).f0))).setCell ⟨gb145, 1, none⟩ (.bool ((rd_T39 l2 x22_2).f1))).setCell ⟨gb145, 2, none⟩ (.int .i64 ((rd_T39 l2 x22_2).f2.f0))).setCell ⟨gb145, 3, none⟩ (.int .i64 ((rd_T39 l2 x22_2).f2.f1))).setCell ⟨gb145, 4, none⟩ (.slice A144_4 ((rd_T39 l2 x22_2).f2.f2).length c144_4)).setCell ⟨gb145, 5, none⟩ (.slice A144_5 ((rd_T39 l2 x22_2).f2.f3).length c144_5)) w.heap.size (fun k_ => ((P0_ k_ ∨ P2_ k_) ∨ w.heap.size ≤ k_) ∧ k_ ≠ gb145) (.slice A0 l0.length c0) l0) := ⟨by (with_reducible repeat (first | apply Kd.V_alloc | apply Kd.V_drewN | apply Kd.V_drew)); exact Kd.V_mono (Kd.V_far (p := ⟨gb145, 5, none⟩) (Kd.V_far (p := ⟨gb145, 4, none⟩) (Kd.V_far (p := ⟨gb145, 3, none⟩) (Kd.V_far (p := ⟨gb145, 2, none⟩) (Kd.V_far (p := ⟨gb145, 1, none⟩) (Kd.V_far (p := ⟨gb145, 0, none⟩) (Kd.V_mono HO_0.out (fun k_ hk => (⟨hk, hk.2⟩ : _ ∧ k_ ≠ gb145))) (fun _ hk => hk.2) (.int .i64 ((rd_T39 l2 x22_2).f0))) (fun _ hk => hk.2) (.bool ((rd_T39 l2 x22_2).f1))) (fun _ hk => hk.2) (.int .i64 ((rd_T39 l2 x22_2).f2.f0))) (fun _ hk => hk.2) (.int .i64 ((rd_T39 l2 x22_2).f2.f1))) (fun _ hk => hk.2) (.slice A144_4 ((rd_T39 l2 x22_2).f2.f2).length c144_4)) (fun _ hk => hk.2) (.slice A144_5 ((rd_T39 l2 x22_2).f2.f3).length c144_5)) (fun _ hk => ⟨hk.1.1, hk.1.2⟩)⟩
                          have n1_ : Aside0 (Kd.V k39 39 ((((((w13.setCell ⟨gb145, 0, none⟩ (.int .i64 ((rd_T39 l2 x22_2).f0))).setCell ⟨gb145, 1, none⟩ (.bool ((rd_T39 l2 x22_2).f1))).setCell ⟨gb145, 2, none⟩ (.int .i64 ((rd_T39 l2 x22_2).f2.f0))).setCell ⟨gb145, 3, none⟩ (.int .i64 ((rd_T39 l2 x22_2).f2.f1))).setCell ⟨gb145, 4, none⟩ (.slice A144_4 ((rd_T39 l2 x22_2).f2.f2).length c144_4)).setCell ⟨gb145, 5, none⟩ (.slice A144_5 ((rd_T39 l2 x22_2).f2.f3).length c144_5)) w.heap.size (fun k_ => ((P0_ k_ ∨ P2_ k_) ∨ w.heap.size ≤ k_) ∧ k_ ≠ gb145) (.slice (some ad144) l2.length c2) l2) := ⟨by (with_reducible repeat (first | apply Kd.V_alloc | apply Kd.V_drewN | apply Kd.V_drew)); exact Kd.V_mono (Kd.V_far (p := ⟨gb145, 5, none⟩) (Kd.V_far (p := ⟨gb145, 4, none⟩) (Kd.V_far (p := ⟨gb145, 3, none⟩) (Kd.V_far (p := ⟨gb145, 2, none⟩) (Kd.V_far (p := ⟨gb145, 1, none⟩) (Kd.V_far (p := ⟨gb145, 0, none⟩) (Kd.V_mono HO_2.out (fun k_ hk => (⟨hk, hk.2⟩ : _ ∧ k_ ≠ gb145))) (fun _ hk => hk.2) (.int .i64 ((rd_T39 l2 x22_2).f0))) (fun _ hk => hk.2) (.bool ((rd_T39 l2 x22_2).f1))) (fun _ hk => hk.2) (.int .i64 ((rd_T39 l2 x22_2).f2.f0))) (fun _ hk => hk.2) (.int .i64 ((rd_T39 l2 x22_2).f2.f1))) (fun _ hk => hk.2) (.slice A144_4 ((rd_T39 l2 x22_2).f2.f2).length c144_4)) (fun _ hk => hk.2) (.slice A144_5 ((rd_T39 l2 x22_2).f2.f3).length c144_5)) (fun _ hk => ⟨hk.1.1, hk.1.2⟩)⟩
                          have n2_ : Aside0 (Kd.V k39 39 ((((((w13.setCell ⟨gb145, 0, none⟩ (.int .i64 ((rd_T39 l2 x22_2).f0))).setCell ⟨gb145, 1, none⟩ (.bool ((rd_T39 l2 x22_2).f1))).setCell ⟨gb145, 2, none⟩ (.int .i64 ((rd_T39 l2 x22_2).f2.f0))).setCell ⟨gb145, 3, none⟩ (.int .i64 ((rd_T39 l2 x22_2).f2.f1))).setCell ⟨gb145, 4, none⟩ (.slice A144_4 ((rd_T39 l2 x22_2).f2.f2).length c144_4)).setCell ⟨gb145, 5, none⟩ (.slice A144_5 ((rd_T39 l2 x22_2).f2.f3).length c144_5)) w.heap.size (fun k_ => ((P0_ k_ ∨ P2_ k_) ∨ w.heap.size ≤ k_) ∧ k_ ≠ gb145) (.slice (some ad144) l2.length c2) l2) := ⟨by (with_reducible repeat (first | apply Kd.V_alloc | apply Kd.V_drewN | apply Kd.V_drew)); exact Kd.V_mono (Kd.V_far (p := ⟨gb145, 5, none⟩) (Kd.V_far (p := ⟨gb145, 4, none⟩) (Kd.V_far (p := ⟨gb145, 3, none⟩) (Kd.V_far (p := ⟨gb145, 2, none⟩) (Kd.V_far (p := ⟨gb145, 1, none⟩) (Kd.V_far (p := ⟨gb145, 0, none⟩) (Kd.V_mono HO_20.out (fun k_ hk => (⟨hk, hk.2⟩ : _ ∧ k_ ≠ gb145))) (fun _ hk => hk.2) (.int .i64 ((rd_T39 l2 x22_2).f0))) (fun _ hk => hk.2) (.bool ((rd_T39 l2 x22_2).f1))) (fun _ hk => hk.2) (.int .i64 ((rd_T39 l2 x22_2).f2.f0))) (fun _ hk => hk.2) (.int .i64 ((rd_T39 l2 x22_2).f2.f1))) (fun _ hk => hk.2) (.slice A144_4 ((rd_T39 l2 x22_2).f2.f2).length c144_4)) (fun _ hk => hk.2) (.slice A144_5 ((rd_T39 l2 x22_2).f2.f3).length c144_5)) (fun _ hk => ⟨hk.1.1, hk.1.2⟩)⟩
                          have n3_ : Aside0 (Kd.V k55 55 ((((((w13.setCell ⟨gb145, 0, none⟩ (.int .i64 ((rd_T39 l2 x22_2).f0))).setCell ⟨gb145, 1, none⟩ (.bool ((rd_T39 l2 x22_2).f1))).setCell ⟨gb145, 2, none⟩ (.int .i64 ((rd_T39 l2 x22_2).f2.f0))).setCell ⟨gb145, 3, none⟩ (.int .i64 ((rd_T39 l2 x22_2).f2.f1))).setCell ⟨gb145, 4, none⟩ (.slice A144_4 ((rd_T39 l2 x22_2).f2.f2).length c144_4)).setCell ⟨gb145, 5, none⟩ (.slice A144_5 ((rd_T39 l2 x22_2).f2.f3).length c144_5)) w.heap.size (fun k_ => ((P0_ k_ ∨ P2_ k_) ∨ w.heap.size ≤ k_) ∧ k_ ≠ gb145) (.slice A144_4 ((rd_T39 l2 x22_2).f2.f2).length c144_4) ((rd_T39 l2 x22_2).f2.f2)) := ⟨by (with_reducible repeat (first | apply Kd.V_alloc | apply Kd.V_drewN | apply Kd.V_drew)); exact Kd.V_mono (Kd.V_far (p := ⟨gb145, 5, none⟩) (Kd.V_far (p := ⟨gb145, 4, none⟩) (Kd.V_far (p := ⟨gb145, 3, none⟩) (Kd.V_far (p := ⟨gb145, 2, none⟩) (Kd.V_far (p := ⟨gb145, 1, none⟩) (Kd.V_far (p := ⟨gb145, 0, none⟩) (Kd.V_mono HL144_4.out (fun k_ hk => (⟨hk, hk.2⟩ : _ ∧ k_ ≠ gb145))) (fun _ hk => hk.2) (.int .i64 ((rd_T39 l2 x22_2).f0))) (fun _ hk => hk.2) (.bool ((rd_T39 l2 x22_2).f1))) (fun _ hk => hk.2) (.int .i64 ((rd_T39 l2 x22_2).f2.f0))) (fun _ hk => hk.2) (.int .i64 ((rd_T39 l2 x22_2).f2.f1))) (fun _ hk => hk.2) (.slice A144_4 ((rd_T39 l2 x22_2).f2.f2).length c144_4)) (fun _ hk => hk.2) (.slice A144_5 ((rd_T39 l2 x22_2).f2.f3).length c144_5)) (fun _ hk => ⟨hk.1.1, hk.1.2⟩)⟩
                          have n4_ : Aside0 (Kd.V k58 58 ((((((w13.setCell ⟨gb145, 0, none⟩ (.int .i64 ((rd_T39 l2 x22_2).f0))).setCell ⟨gb145, 1, none⟩ (.bool ((rd_T39 l2 x22_2).f1))).setCell ⟨gb145, 2, none⟩ (.int .i64 ((rd_T39 l2 x22_2).f2.f0))).setCell ⟨gb145, 3, none⟩ (.int .i64 ((rd_T39 l2 x22_2).f2.f1))).setCell ⟨gb145, 4, none⟩ (.slice A144_4 ((rd_T39 l2 x22_2).f2.f2).length c144_4)).setCell ⟨gb145, 5, none⟩ (.slice A144_5 ((rd_T39 l2 x22_2).f2.f3).length c144_5)) w.heap.size (fun k_ => ((P0_ k_ ∨ P2_ k_) ∨ w.heap.size ≤ k_) ∧ k_ ≠ gb145) (.slice A144_5 ((rd_T39 l2 x22_2).f2.f3).length c144_5) ((rd_T39 l2 x22_2).f2.f3)) := ⟨by (with_reducible repeat (first | apply Kd.V_alloc | apply Kd.V_drewN | apply Kd.V_drew)); exact Kd.V_mono (Kd.V_far (p := ⟨gb145, 5, none⟩) (Kd.V_far (p := ⟨gb145, 4, none⟩) (Kd.V_far (p := ⟨gb145, 3, none⟩) (Kd.V_far (p := ⟨gb145, 2, none⟩) (Kd.V_far (p := ⟨gb145, 1, none⟩) (Kd.V_far (p := ⟨gb145, 0, none⟩) (Kd.V_mono HL144_5.out (fun k_ hk => (⟨hk, hk.2⟩ : _ ∧ k_ ≠ gb145))) (fun _ hk => hk.2) (.int .i64 ((rd_T39 l2 x22_2).f0))) (fun _ hk => hk.2) (.bool ((rd_T39 l2 x22_2).f1))) (fun _ hk => hk.2) (.int .i64 ((rd_T39 l2 x22_2).f2.f0))) (fun _ hk => hk.2) (.int .i64 ((rd_T39 l2 x22_2).f2.f1))) (fun _ hk => hk.2) (.slice A144_4 ((rd_T39 l2 x22_2).f2.f2).length c144_4)) (fun _ hk => hk.2) (.slice A144_5 ((rd_T39 l2 x22_2).f2.f3).length c144_5)) (fun _ hk => ⟨hk.1.1, hk.1.2⟩)⟩
                          have n5_ : Aside0 (((((((w13.setCell ⟨gb145, 0, none⟩ (.int .i64 ((rd_T39 l2 x22_2).f0))).setCell ⟨gb145, 1, none⟩ (.bool ((rd_T39 l2 x22_2).f1))).setCell ⟨gb145, 2, none⟩ (.int .i64 ((rd_T39 l2 x22_2).f2.f0))).setCell ⟨gb145, 3, none⟩ (.int .i64 ((rd_T39 l2 x22_2).f2.f1))).setCell ⟨gb145, 4, none⟩ (.slice A144_4 ((rd_T39 l2 x22_2).f2.f2).length c144_4)).setCell ⟨gb145, 5, none⟩ (.slice A144_5 ((rd_T39 l2 x22_2).f2.f3).length c144_5)).heap[gb145]? = some (.cells #[.int .i64 ((rd_T39 l2 x22_2).f0), .bool ((rd_T39 l2 x22_2).f1), .int .i64 ((rd_T39 l2 x22_2).f2.f0), .int .i64 ((rd_T39 l2 x22_2).f2.f1), .slice A144_4 ((rd_T39 l2 x22_2).f2.f2).length c144_4, .slice A144_5 ((rd_T39 l2 x22_2).f2.f3).length c144_5] 39 (0, 0))) := ⟨by (with_reducible repeat (first | refine blk_drewN ?_ _ | refine blk_drew ?_ | refine blk_alloc ?_ _)); refine blk_put (cs := #[.int .i64 ((rd_T39 l2 x22_2).f0), .bool ((rd_T39 l2 x22_2).f1), .int .i64 ((rd_T39 l2 x22_2).f2.f0), .int .i64 ((rd_T39 l2 x22_2).f2.f1), .slice A144_4 ((rd_T39 l2 x22_2).f2.f2).length c144_4, .slice none 0 0]) ?_ 5 _ rfl; (with_reducible repeat (first | refine blk_drewN ?_ _ | refine blk_drew ?_ | refine blk_alloc ?_ _)); refine blk_put (cs := #[.int .i64 ((rd_T39 l2 x22_2).f0), .bool ((rd_T39 l2 x22_2).f1), .int .i64 ((rd_T39 l2 x22_2).f2.f0), .int .i64 ((rd_T39 l2 x22_2).f2.f1), .slice none 0 0, .slice none 0 0]) ?_ 4 _ rfl; (with_reducible repeat (first | refine blk_drewN ?_ _ | refine blk_drew ?_ | refine blk_alloc ?_ _)); refine blk_put (cs := #[.int .i64 ((rd_T39 l2 x22_2).f0), .bool ((rd_T39 l2 x22_2).f1), .int .i64 ((rd_T39 l2 x22_2).f2.f0), .int .i64 0, .slice none 0 0, .slice none 0 0]) ?_ 3 _ rfl; (with_reducible repeat (first | refine blk_drewN ?_ _ | refine blk_drew ?_ | refine blk_alloc ?_ _)); refine blk_put (cs := #[.int .i64 ((rd_T39 l2 x22_2).f0), .bool ((rd_T39 l2 x22_2).f1), .int .i64 0, .int .i64 0, .slice none 0 0, .slice none 0 0]) ?_ 2 _ rfl; (with_reducible repeat (first | refine blk_drewN ?_ _ | refine blk_drew ?_ | refine blk_alloc ?_ _)); refine blk_put (cs := #[.int .i64 ((rd_T39 l2 x22_2).f0), .bool false, .int .i64 0, .int .i64 0, .slice none 0 0, .slice none 0 0]) ?_ 1 _ rfl; (with_reducible repeat (first | refine blk_drewN ?_ _ | refine blk_drew ?_ | refine blk_alloc ?_ _)); refine blk_put (cs := #[.int .i64 0, .bool false, .int .i64 0, .int .i64 0, .slice none 0 0, .slice none 0 0]) ?_ 0 _ rfl; (with_reducible repeat (first | refine blk_drewN ?_ _ | refine blk_drew ?_ | refine blk_alloc ?_ _)); exact BK145.out⟩
                          have n6_ : Aside0 (Below w.heap.size w ((((((w13.setCell ⟨gb145, 0, none⟩ (.int .i64 ((rd_T39 l2 x22_2).f0))).setCell ⟨gb145, 1, none⟩ (.bool ((rd_T39 l2 x22_2).f1))).setCell ⟨gb145, 2, none⟩ (.int .i64 ((rd_T39 l2 x22_2).f2.f0))).setCell ⟨gb145, 3, none⟩ (.int .i64 ((rd_T39 l2 x22_2).f2.f1))).setCell ⟨gb145, 4, none⟩ (.slice A144_4 ((rd_T39 l2 x22_2).f2.f2).length c144_4)).setCell ⟨gb145, 5, none⟩ (.slice A144_5 ((rd_T39 l2 x22_2).f2.f3).length c144_5))) := ⟨by repeat (first | (with_reducible first | exact HB.out | apply below_alloc | apply pw_below_drewN | apply below_drew1 | refine below_set ?_ GE145.out) | exact HB.out)⟩
                          (try clear HO_0)
                          (try clear HO_2)
                          (try clear HO_20)
                          (try clear HL144_4)
                          (try clear HL144_5)
                          (try clear BK145)
                          (try clear HB)
                          generalize ((((((w13.setCell ⟨gb145, 0, none⟩ (.int .i64 ((rd_T39 l2 x22_2).f0))).setCell ⟨gb145, 1, none⟩ (.bool ((rd_T39 l2 x22_2).f1))).setCell ⟨gb145, 2, none⟩ (.int .i64 ((rd_T39 l2 x22_2).f2.f0))).setCell ⟨gb145, 3, none⟩ (.int .i64 ((rd_T39 l2 x22_2).f2.f1))).setCell ⟨gb145, 4, none⟩ (.slice A144_4 ((rd_T39 l2 x22_2).f2.f2).length c144_4)).setCell ⟨gb145, 5, none⟩ (.slice A144_5 ((rd_T39 l2 x22_2).f2.f3).length c144_5)) = w21 at n0_ n1_ n2_ n3_ n4_ n5_ n6_ ⊢
                          have HO_0 := n0_
                          have HO_2 := n1_
                          have HO_20 := n2_
                          have HL144_4 := n3_
                          have HL144_5 := n4_
                          have BK145 := n5_
                          have HB := n6_
                          clear n0_ n1_ n2_ n3_ n4_ n5_ n6_
                          have n0_ := Aside0.mk (Kd.V_drew HO_0.out)
                          have n1_ := Aside0.mk (Kd.V_drew HO_2.out)
                          have n2_ := Aside0.mk (Kd.V_drew HO_20.out)
                          have n3_ := Aside0.mk (Kd.V_drew HL144_4.out)
                          have n4_ := Aside0.mk (Kd.V_drew HL144_5.out)
                          have n5_ := Aside0.mk (blk_drew BK145.out)
                          have n6_ := Aside0.mk (below_drew1 HB.out)
                          clear HO_0
                          clear HO_2
                          clear HO_20
                          clear HL144_4
                          clear HL144_5
                          clear BK145
                          clear HB
                          have HO_0 := n0_
                          have HO_2 := n1_
                          have HO_20 := n2_
                          have HL144_4 := n3_
                          have HL144_5 := n4_
                          have BK145 := n5_
                          have HB := n6_
                          clear n0_ n1_ n2_ n3_ n4_ n5_ n6_
                          have p146 : 0 ≤ ((ji18) : Int) := of_decide_eq_true (by first | (with_reducible assumption) | assumption)
                          have q146 : (ji18) < (l0.length : Int) := of_decide_eq_true (by first | (with_reducible assumption) | assumption)
                          obtain ⟨ad146, A146_4, c146_4, A146_5, c146_5, e146, hx146_0, hx146_1, hx146_2, hx146_3, hx146_4, hx146_5, hl146_4, hi146_4, hl146_5, hi146_5⟩ := at_T39 (Kd.V_reads' HO_0.out).2.2 (ji18) p146 q146
                          cases e146
                          obtain ⟨ce146, hce146, hMe146, hcc146⟩ := Kd.V_get HO_0.out z39 (ji18) p146 (by first | exact q146 | exact of_decide_eq_true (by first | (with_reducible assumption) | assumption) | (have e_ := (Kd.V_reads' HO_0.out).1; omega))
                          obtain ⟨ua146_4, uc146_4, ua146_5, uc146_5, rfl, ul146_4, ge146_4, ul146_5, ge146_5⟩ := k39_openF hMe146
                          have hv146_4 := hcc146 4 _ rfl
                          rw [add_field _ _ 4 (by omega)] at hv146_4
                          replace hv146_4 := Option.some.inj (hv146_4.symm.trans hx146_4)
                          injection hv146_4 with hva_ hvn_ hvc_
                          rw [hva_] at ge146_4
                          rw [hvc_] at ul146_4
                          have HL146_4 := Aside0.mk (show Kd.V k55 55 _ w.heap.size _ _ ((rd_T39 l0 (ji18)).f2.f2) from Kd.V_mk ul146_4 ge146_4)
                          clear hva_ hvn_ hvc_ ge146_4 ul146_4
                          have hv146_5 := hcc146 5 _ rfl
                          rw [add_field _ _ 5 (by omega)] at hv146_5
                          replace hv146_5 := Option.some.inj (hv146_5.symm.trans hx146_5)
                          injection hv146_5 with hva_ hvn_ hvc_
                          rw [hva_] at ge146_5
                          rw [hvc_] at ul146_5
                          have HL146_5 := Aside0.mk (show Kd.V k58 58 _ w.heap.size _ _ ((rd_T39 l0 (ji18)).f2.f3) from Kd.V_mk ul146_5 ge146_5)
                          clear hva_ hvn_ hvc_ ge146_5 ul146_5
                          clear hcc146 hce146
                          have HR146_4 := Aside0.mk hi146_4
                          have HC146_4 := Aside0.mk hl146_4
                          clear hi146_4 hl146_4
                          have HR146_5 := Aside0.mk hi146_5
                          have HC146_5 := Aside0.mk hl146_5
                          clear hi146_5 hl146_5
                          replace p146 := eq_true p146
                          replace q146 := eq_true q146
                          refine start_ (n := 14) (S := fun w' => w'.cell? ⟨gb145, 0, none⟩ = some (.int .i64 ((rd_T39 l2 x22_2).f0)) ∧ w'.cell? ⟨gb145, 1, none⟩ = some (.bool ((rd_T39 l2 x22_2).f1)) ∧ w'.cell? ⟨gb145, 2, none⟩ = some (.int .i64 ((rd_T39 l2 x22_2).f2.f0)) ∧ w'.cell? ⟨gb145, 3, none⟩ = some (.int .i64 ((rd_T39 l2 x22_2).f2.f1)) ∧ w'.cell? ⟨gb145, 4, none⟩ = some (.slice A144_4 ((rd_T39 l2 x22_2).f2.f2).length c144_4) ∧ w'.cell? ⟨gb145, 5, none⟩ = some (.slice A144_5 ((rd_T39 l2 x22_2).f2.f3).length c144_5) ∧ w'.cell? (ad146.add (((ji18)).toNat * 6)) = some (.int .i64 ((rd_T39 l0 (ji18)).f0)) ∧ w'.cell? ⟨(ad146.add (((ji18)).toNat * 6)).block, (ad146.add (((ji18)).toNat * 6)).off + 1, none⟩ = some (.bool ((rd_T39 l0 (ji18)).f1)) ∧ w'.cell? ⟨(ad146.add (((ji18)).toNat * 6)).block, (ad146.add (((ji18)).toNat * 6)).off + 2, none⟩ = some (.int .i64 ((rd_T39 l0 (ji18)).f2.f0)) ∧ w'.cell? ⟨(ad146.add (((ji18)).toNat * 6)).block, (ad146.add (((ji18)).toNat * 6)).off + 3, none⟩ = some (.int .i64 ((rd_T39 l0 (ji18)).f2.f1)) ∧ w'.cell? ⟨(ad146.add (((ji18)).toNat * 6)).block, (ad146.add (((ji18)).toNat * 6)).off + 4, none⟩ = some (.slice A146_4 ((rd_T39 l0 (ji18)).f2.f2).length c146_4) ∧ w'.cell? ⟨(ad146.add (((ji18)).toNat * 6)).block, (ad146.add (((ji18)).toNat * 6)).off + 5, none⟩ = some (.slice A146_5 ((rd_T39 l0 (ji18)).f2.f3).length c146_5)) (ds := []) #[false, false, false, false, false, false, false, false, false, false, false, false, false, false] (by kernel_rfl) rfl rfl ⟨(blk_cell BK145.out 0).trans rfl, (blk_cell BK145.out 1).trans rfl, (blk_cell BK145.out 2).trans rfl, (blk_cell BK145.out 3).trans rfl, (blk_cell BK145.out 4).trans rfl, (blk_cell BK145.out 5).trans rfl, hx146_0, hx146_1, hx146_2, hx146_3, hx146_4, hx146_5⟩ (fun hHeld => ?_); refine with_tabW ulog_Join.tab7 ulog_Join.bits7 (fun HT_ HW_ => ?_)
                          generalize w21.drew = w22 at HO_0 HO_2 HO_20 HL144_4 HL144_5 BK145 HB HL146_4 HL146_5 HR146_4 HR146_5 hx146_0 hx146_1 hx146_2 hx146_3 hx146_4 hx146_5 hHeld ⊢
                          refine pure_ (i := 0) (N := some 30) (v := ?_) (a' := ?_) #[true, false, false, false, false, false, false, false, false, false, false, false, false, false] rfl rfl (any_of HT_.out (by kernel_rfl)) (fun _ _ _ h => h) (Or.inl ⟨by rfl, ?_⟩) ?_ ?_
                          rotate_left
                          · intro w'
                            go_simp
                            with_reducible rfl
                          rotate_left
                          · simp only [Act.put, List.setIfInBounds_toArray, List.set_cons_zero, List.set_cons_succ, i64_w, i32_w]
                            rfl
                          refine pure_ (i := 1) (N := some 31) (v := ?_) (a' := ?_) #[true, true, false, false, false, false, false, false, false, false, false, false, false, false] rfl rfl (any_of HT_.out (by kernel_rfl)) (fun _ _ _ h => h) (Or.inl ⟨by rfl, ?_⟩) ?_ ?_
                          rotate_left
                          · intro w'
                            go_simp
                            with_reducible rfl
                          rotate_left
                          · simp only [Act.put, List.setIfInBounds_toArray, List.set_cons_zero, List.set_cons_succ, i64_w, i32_w]
                            rfl
                          refine pure_ (i := 2) (N := some 32) (v := ?_) (a' := ?_) #[true, true, true, false, false, false, false, false, false, false, false, false, false, false] rfl rfl (any_of HT_.out (by kernel_rfl)) (fun _ _ _ h => h) (Or.inl ⟨by rfl, ?_⟩) ?_ ?_
                          rotate_left
                          · intro w'
                            go_simp
                            with_reducible rfl
                          rotate_left
                          · simp only [Act.put, List.setIfInBounds_toArray, List.set_cons_zero, List.set_cons_succ, i64_w, i32_w]
                            rfl
                          refine pure_ (i := 3) (N := some 33) (v := ?_) (a' := ?_) #[true, true, true, true, false, false, false, false, false, false, false, false, false, false] rfl rfl (any_of HT_.out (by kernel_rfl)) (fun _ _ _ h => h) (Or.inl ⟨by rfl, ?_⟩) ?_ ?_
                          rotate_left
                          · intro w'
                            go_simp
                            with_reducible rfl
                          rotate_left
                          · simp only [Act.put, List.setIfInBounds_toArray, List.set_cons_zero, List.set_cons_succ, i64_w, i32_w]
                            rfl
                          refine pure_ (i := 4) (N := some 34) (v := ?_) (a' := ?_) #[true, true, true, true, true, false, false, false, false, false, false, false, false, false] rfl rfl (any_of HT_.out (by kernel_rfl)) (fun _ _ _ h => h) (Or.inl ⟨by rfl, ?_⟩) ?_ ?_
                          rotate_left
                          · intro w'
                            go_simp
                            with_reducible rfl
                          rotate_left
                          · simp only [Act.put, List.setIfInBounds_toArray, List.set_cons_zero, List.set_cons_succ, i64_w, i32_w]
                            rfl
                          refine pure_ (i := 5) (N := some 35) (v := ?_) (a' := ?_) #[true, true, true, true, true, true, false, false, false, false, false, false, false, false] rfl rfl (any_of HT_.out (by kernel_rfl)) (fun _ _ _ h => h) (Or.inl ⟨by rfl, ?_⟩) ?_ ?_
                          rotate_left
                          · intro w'
                            go_simp
                            with_reducible rfl
                          rotate_left
                          · simp only [Act.put, List.setIfInBounds_toArray, List.set_cons_zero, List.set_cons_succ, i64_w, i32_w]
                            rfl
                          refine pure_ (i := 6) (N := some 36) (v := ?_) (a' := ?_) #[true, true, true, true, true, true, true, false, false, false, false, false, false, false] rfl rfl (any_of HT_.out (by kernel_rfl)) (fun _ _ _ h => h) (Or.inl ⟨by rfl, ?_⟩) ?_ ?_
                          rotate_left
                          · intro w'
                            go_simp
                            with_reducible rfl
                          rotate_left
                          · simp only [Act.put, List.setIfInBounds_toArray, List.set_cons_zero, List.set_cons_succ, i64_w, i32_w]
                            rfl
                          refine pure_ (i := 7) (N := some 37) (v := ?_) (a' := ?_) #[true, true, true, true, true, true, true, true, false, false, false, false, false, false] rfl rfl (any_of HT_.out (by kernel_rfl)) (fun _ _ _ h => h) (Or.inl ⟨by rfl, ?_⟩) ?_ ?_
                          rotate_left
                          · intro w'
                            go_simp
                            with_reducible rfl
                          rotate_left
                          · simp only [Act.put, List.setIfInBounds_toArray, List.set_cons_zero, List.set_cons_succ, i64_w, i32_w]
                            rfl
                          refine pure_ (i := 8) (N := some 38) (v := ?_) (a' := ?_) #[true, true, true, true, true, true, true, true, true, false, false, false, false, false] rfl rfl (any_of HT_.out (by kernel_rfl)) (fun _ _ _ h => h) (Or.inl ⟨by rfl, ?_⟩) ?_ ?_
                          rotate_left
                          · intro w'
                            go_simp
                            with_reducible rfl
                          rotate_left
                          · simp only [Act.put, List.setIfInBounds_toArray, List.set_cons_zero, List.set_cons_succ, i64_w, i32_w]
                            rfl
                          refine pure_ (i := 10) (N := some 40) (v := ?_) (a' := ?_) #[true, true, true, true, true, true, true, true, true, false, true, false, false, false] rfl rfl (any_of HT_.out (by kernel_rfl)) (fun _ _ _ h => h) (Or.inl ⟨by rfl, ?_⟩) ?_ ?_
                          rotate_left
                          · intro w'
                            go_simp
                            with_reducible rfl
                          rotate_left
                          · simp only [Act.put, List.setIfInBounds_toArray, List.set_cons_zero, List.set_cons_succ, i64_w, i32_w]
                            rfl
                          refine take_ (i := 9) (N := some 39) (v := ?_) (a' := ?_) #[true, true, true, true, true, true, true, true, true, true, true, false, false, false] rfl rfl (take_ofW HT_.out HW_.out (by kernel_rfl)) (fun _ _ _ h => h) (Or.inl ⟨by rfl, ?_⟩) hHeld ?_ ?_
                          rotate_left
                          · rintro w' ⟨s0, s1, s2, s3, s4, s5, s6, s7, s8, s9, s10, s11⟩
                            go_simp
                            with_reducible rfl
                          rotate_left
                          · simp only [Act.put, List.setIfInBounds_toArray, List.set_cons_zero, List.set_cons_succ, i64_w, i32_w]
                            rfl
                          refine take_ (i := 11) (N := some 41) (v := ?_) (a' := ?_) #[true, true, true, true, true, true, true, true, true, true, true, true, false, false] rfl rfl (take_ofW HT_.out HW_.out (by kernel_rfl)) (fun _ _ _ h => h) (Or.inl ⟨by rfl, ?_⟩) hHeld ?_ ?_
                          rotate_left
                          · rintro w' ⟨s0, s1, s2, s3, s4, s5, s6, s7, s8, s9, s10, s11⟩
                            go_simp
                            with_reducible rfl
                          rotate_left
                          · simp only [Act.put, List.setIfInBounds_toArray, List.set_cons_zero, List.set_cons_succ, i64_w, i32_w]
                            rfl
                          refine pure_ (i := 12) (N := some 42) (v := ?_) (a' := ?_) #[true, true, true, true, true, true, true, true, true, true, true, true, true, false] rfl rfl (any_of HT_.out (by kernel_rfl)) (fun _ _ _ h => h) (Or.inl ⟨by rfl, ?_⟩) ?_ ?_
                          rotate_left
                          · intro w'
                            go_simp
                            with_reducible rfl
                          rotate_left
                          · simp only [Act.put, List.setIfInBounds_toArray, List.set_cons_zero, List.set_cons_succ, i64_w, i32_w]
                            rfl
                          refine pure_ (i := 13) (N := some 43) (v := ?_) (a' := ?_) #[true, true, true, true, true, true, true, true, true, true, true, true, true, true] rfl rfl (any_of HT_.out (by kernel_rfl)) (fun _ _ _ h => h) (Or.inl ⟨by rfl, ?_⟩) ?_ ?_
                          rotate_left
                          · intro w'
                            go_simp
                            with_reducible rfl
                          rotate_left
                          · simp only [Act.put, List.setIfInBounds_toArray, List.set_cons_zero, List.set_cons_succ, i64_w, i32_w]
                            rfl
                          refine done_ (done_of HT_.out (by kernel_rfl)) ?_
                          try go_wp2
                          go_meet
                          case rel => exact ⟨_, ((((rd_T39 l0 (ji18)).f0) != ((rd_T39 l2 x22_2).f0))), (by first | rfl | (simp; done) | (simp only [← hji18] <;> (first | rfl | simp)) | (simp [*]; done)), (by first | exact H' | (rw [hji18]; exact H') | (simp only [hji18]; exact H')), ⟨by have := HJ3.out; have := HK2.out; first | omega | exact Nat.le_refl _⟩, ⟨by (with_reducible repeat (first | apply Kd.V_alloc | apply Kd.V_drewN | apply Kd.V_drew)); exact Kd.V_mono HO_0.out (fun _ hk => hk.1)⟩, ⟨by (with_reducible repeat (first | apply Kd.V_alloc | apply Kd.V_drewN | apply Kd.V_drew)); exact Kd.V_mono HO_2.out (fun _ hk => hk.1)⟩, ⟨by (with_reducible repeat (first | apply Kd.V_alloc | apply Kd.V_drewN | apply Kd.V_drew)); exact Kd.V_mono HO_20.out (fun _ hk => hk.1)⟩, ⟨by repeat (first | (with_reducible first | exact HB.out | apply below_alloc | apply pw_below_drewN | apply below_drew1 | refine below_set ?_ GE145.out) | exact HB.out)⟩⟩
                        · rw [if_neg c20] at H
                          exact absurd H (by simp)
                      · rw [if_neg c19] at H
                        exact absurd H (by simp)
                  case rest =>
                    clear HC12
                    try clear c1
                    try clear p1
                    try clear q1
                    try clear hx1
                    try clear c2
                    try clear p2
                    try clear c5
                    try clear c5b0
                    try clear c6
                    try clear p6
                    try clear c9
                    try clear c9b0
                    try clear c10
                    try clear c10b0
                    try clear c11
                    try clear c11b0
                    try clear c14
                    try clear p14
                    try clear q14
                    try clear hx14
                    try clear c15
                    try clear c15b0
                    try clear c16
                    try clear c19
                    try clear c19b0
                    try clear c20
                    try clear c20b0
                    try clear hcz14_0
                    try clear hcz14_1
                    try clear hcz14_2
                    try clear hcz14_3
                    try clear hcz14_4
                    try clear hcz14_5
                    try clear hfz14_0
                    try clear hfz14_1
                    try clear hfz14_2
                    try clear hfz14_3
                    try clear hfz14_4
                    try clear hfz14_5
                    try clear hx144_0
                    try clear hx144_1
                    try clear hx144_2
                    try clear hx144_3
                    try clear hx144_4
                    try clear hx144_5
                    try clear hx146_0
                    try clear hx146_1
                    try clear hx146_2
                    try clear hx146_3
                    try clear hx146_4
                    try clear hx146_5
                    try clear p144
                    try clear p146
                    try clear p2
                    try clear q144
                    try clear q146
                    obtain ⟨kq, x43_11, rfl, HA, HJ11, HO_0, HO_2, HO_20, HB⟩ := hcut
                    cases kq with
                    | zero => exact absurd HA.out (by simp [ulog_Join.j2])
                    | succ kj11 =>
                      have H := HA.out
                      clear HA
                      simp only [ulog_Join.j2] at H
                      by_cases c23 : x43_11 = true
                      · subst c23
                        have H1 : (if 0 ≤ (wrap64 (a1 + x22_2)) then (if (wrap64 (a1 + x22_2)) ≤ (l0.length : Int) then (if 0 ≤ x22_2 then (if x22_2 ≤ (l2.length : Int) then ((slices_Concat_Entry.f kj11 (([(l0.take ((wrap64 (a1 + x22_2)) : Int).toNat), (l2.drop (x22_2 : Int).toNat)] : List (List (S39))))).bind fun t160 => (some t160)) else (none)) else (none)) else (none)) else (none)) = some r := by rw [if_pos rfl] at H; exact H
                        clear H
                        have H := H1
                        clear H1
                        obtain ⟨ji24, hji24⟩ : ∃ j_ : Int, (wrap64 (a1 + x22_2)) = j_ := ⟨_, rfl⟩
                        replace H : (if 0 ≤ (ji24) then (if (ji24) ≤ (l0.length : Int) then (if 0 ≤ x22_2 then (if x22_2 ≤ (l2.length : Int) then ((slices_Concat_Entry.f kj11 (([(l0.take ((ji24) : Int).toNat), (l2.drop (x22_2 : Int).toNat)] : List (List (S39))))).bind fun t160 => (some t160)) else (none)) else (none)) else (none)) else (none)) = some r := by first | (rw [hji24] at H; exact H) | (simp only [hji24] at H ⊢; exact H)
                        have hji24w : (IntKind.i64.wrap (a1 + x22_2)) = ji24 := (i64_w _).trans hji24
                        by_cases c25 : 0 ≤ (ji24)
                        · rw [if_pos c25] at H
                          have c25b0 := eq_true c25
                          have c25b1 : decide (0 ≤ (ji24)) = true := decide_eq_true c25
                          clear c25
                          by_cases c26 : (ji24) ≤ (l0.length : Int)
                          · rw [if_pos c26] at H
                            have c26b0 := eq_true c26
                            have c26b1 : decide ((ji24) ≤ (l0.length : Int)) = true := decide_eq_true c26
                            clear c26
                            obtain ⟨y147, hy147⟩ : ∃ y_ : List (S39), y_ = (l0.take ((ji24) : Int).toNat) := ⟨_, rfl⟩
                            replace H : (if 0 ≤ x22_2 then (if x22_2 ≤ (l2.length : Int) then ((slices_Concat_Entry.f kj11 (([y147, (l2.drop (x22_2 : Int).toNat)] : List (List (S39))))).bind fun t160 => (some t160)) else (none)) else (none)) = some r := by first | (rw [hy147]; with_reducible exact H) | (have H2_ := (Option.bind_some _ _).symm.trans H; rw [hy147]; with_reducible exact H2_) | (have H2_ := (Option.bind_some _ _).symm.trans H; with_reducible exact H2_) | with_reducible exact H | (rw [hy147]; exact H) | exact H
                            have Ny147 := Aside0.mk hy147
                            clear hy147
                            by_cases c27 : 0 ≤ x22_2
                            · rw [if_pos c27] at H
                              have c27b0 := eq_true c27
                              have c27b1 : decide (0 ≤ x22_2) = true := decide_eq_true c27
                              clear c27
                              by_cases c28 : x22_2 ≤ (l2.length : Int)
                              · rw [if_pos c28] at H
                                have c28b0 := eq_true c28
                                have c28b1 : decide (x22_2 ≤ (l2.length : Int)) = true := decide_eq_true c28
                                clear c28
                                obtain ⟨y152, hy152⟩ : ∃ y_ : List (S39), y_ = (l2.drop (x22_2 : Int).toNat) := ⟨_, rfl⟩
                                replace H : ((slices_Concat_Entry.f kj11 (([y147, y152] : List (List (S39))))).bind fun t160 => (some t160)) = some r := by first | (rw [hy152]; with_reducible exact H) | (have H2_ := (Option.bind_some _ _).symm.trans H; rw [hy152]; with_reducible exact H2_) | (have H2_ := (Option.bind_some _ _).symm.trans H; with_reducible exact H2_) | with_reducible exact H | (rw [hy152]; exact H) | exact H
                                have Ny152 := Aside0.mk hy152
                                clear hy152
                                obtain ⟨y157, hy157⟩ : ∃ y_ : List (List (S39)), y_ = (([y147, y152] : List (List (S39)))) := ⟨_, rfl⟩
                                replace H : ((slices_Concat_Entry.f kj11 y157).bind fun t160 => (some t160)) = some r := by first | (rw [hy157]; with_reducible exact H) | (have H2_ := (Option.bind_some _ _).symm.trans H; rw [hy157]; with_reducible exact H2_) | (have H2_ := (Option.bind_some _ _).symm.trans H; with_reducible exact H2_) | with_reducible exact H | (rw [hy157]; exact H) | exact H
                                have Ny157 := Aside0.mk hy157
                                clear hy157
                                replace H := Option.bind_eq_some_iff.mp H
                                obtain ⟨t160, A290, H⟩ := H
                                replace H : (some t160) = some r := H
                                have A29 := Aside0.mk A290
                                clear A290
                                obtain rfl := Option.some.inj H
                                try go_wp2
                                have n0_ := Aside0.mk (Kd.V_drew HO_0.out)
                                have n1_ := Aside0.mk (Kd.V_drew HO_2.out)
                                have n2_ := Aside0.mk (Kd.V_drew HO_20.out)
                                have n3_ := Aside0.mk (below_drew1 HB.out)
                                clear HO_0
                                clear HO_2
                                clear HO_20
                                clear HB
                                have HO_0 := n0_
                                have HO_2 := n1_
                                have HO_20 := n2_
                                have HB := n3_
                                clear n0_ n1_ n2_ n3_
                                have q31 : ((ji24) : Int) ≤ ((l0.length : Int) : Int) := of_decide_eq_true (by first | (with_reducible assumption) | assumption)
                                obtain ⟨i031, hi031, _, hsz31, _⟩ := info_parts info39
                                have hroom31 : l0.length ≤ c0 := (Kd.V_reads' HO_0.out).2.1
                                have hC31 : Kd.F k39 _ _ A0 l0.length l0 := (Kd.V_at (base := w.heap.size) HO_0.out).2.2
                                have hcut31 := cut_to (P := Try.prog) 24 39 .i64 Try.underlying24 hi031 A0 l0.length c0 (ji24) (of_decide_eq_true (by first | (with_reducible assumption) | assumption)) q31 hroom31
                                have hr31 := Kd.F_take (m := ((ji24) : Int).toNat) hC31 (by omega)
                                have hy31 : y147.length = ((ji24) : Int).toNat := (by rw [Ny147.out, List.length_take]; omega)
                                rw [← Ny147.out] at hr31
                                rw [← hy31] at hcut31
                                have HO151 := Aside0.mk (show Kd.V k39 39 _ w.heap.size _ (.slice A0 y147.length c0) y147 from Kd.V_mk (by omega) hr31)
                                have HC151 := Aside0.mk (show y147.length ≤ c0 from by omega)
                                clear hr31 hC31 hroom31 hi031 hsz31
                                have KY31 := Aside0.mk hy31
                                clear hy31
                                replace q31 := eq_true q31
                                have q32 : (x22_2 : Int) ≤ ((l2.length : Int) : Int) := of_decide_eq_true (by first | (with_reducible assumption) | assumption)
                                obtain ⟨i032, hi032, _, hsz32, _⟩ := info_parts info39
                                have hroom32 : l2.length ≤ c2 := (Kd.V_reads' HO_2.out).2.1
                                have hC32 : Kd.F k39 _ _ (some ad144) l2.length l2 := (Kd.V_at (base := w.heap.size) HO_2.out).2.2
                                have q032 : (0 : Int) ≤ (x22_2 : Int) := of_decide_eq_true (by first | (with_reducible assumption) | assumption)
                                have hcut32 := cut_from (P := Try.prog) 24 39 .i64 Try.underlying24 hi032 6 hsz32 (some ad144) l2.length c2 x22_2 q032 q32
                                have hr32 := Kd.F_cut (m := (x22_2 : Int).toNat) (c := c2) hC32 (by omega) hroom32
                                obtain ⟨A32, hA32⟩ : ∃ A1, A1 = (if c2 = (x22_2 : Int).toNat then (some ad144) else ((some ad144) : Option Addr).map (·.add ((x22_2 : Int).toNat * 6))) := ⟨_, rfl⟩
                                obtain ⟨c32, hc32⟩ : ∃ c1, c1 = c2 - (x22_2 : Int).toNat := ⟨_, rfl⟩
                                have hy32 : y152.length = l2.length - (x22_2 : Int).toNat := (by rw [Ny152.out, List.length_drop] <;> omega)
                                rw [show (l2).drop (x22_2 : Int).toNat = y152 from Ny152.out.symm] at hr32
                                replace hr32 : Kd.F k39 _ _ A32 y152.length y152 := (by rw [hA32]; exact hr32)
                                rw [← hy32, ← hA32, ← hc32] at hcut32
                                have HO156 := Aside0.mk (show Kd.V k39 39 _ w.heap.size _ (.slice A32 y152.length c32) y152 from Kd.V_mk (by rw [hy32, hc32]; exact Nat.sub_le_sub_right hroom32 _) hr32)
                                have HC156 := Aside0.mk (show y152.length ≤ c32 from by rw [hy32, hc32]; exact Nat.sub_le_sub_right hroom32 _)
                                clear hr32 hC32 hroom32 hi032 hsz32 hc32
                                have KY32 := Aside0.mk hy32
                                have KA32 := Aside0.mk hA32
                                clear hy32 hA32
                                replace q32 := eq_true q32
                                refine start_ (n := 9) (S := fun w' => True) (ds := []) #[false, false, false, false, false, false, false, false, false] (by kernel_rfl) rfl rfl trivial (fun hHeld => ?_); refine with_tabW ulog_Join.tab8 ulog_Join.bits8 (fun HT_ HW_ => ?_)
                                generalize wc.drew = w30 at HO_0 HO_2 HO_20 HB HO151 HO156 hHeld ⊢
                                refine pure_ (i := 0) (N := some 44) (v := ?_) (a' := ?_) #[true, false, false, false, false, false, false, false, false] rfl rfl (any_of HT_.out (by kernel_rfl)) (fun _ _ _ h => h) (Or.inl ⟨by rfl, ?_⟩) ?_ ?_
                                rotate_left
                                · intro w'
                                  go_simp
                                  with_reducible rfl
                                rotate_left
                                · simp only [Act.put, List.setIfInBounds_toArray, List.set_cons_zero, List.set_cons_succ, i64_w, i32_w]
                                  rfl
                                refine pure_ (i := 1) (N := some 45) (v := ?_) (a' := ?_) #[true, true, false, false, false, false, false, false, false] rfl rfl (any_of HT_.out (by kernel_rfl)) (fun _ _ _ h => h) (Or.inl ⟨by rfl, ?_⟩) ?_ ?_
                                rotate_left
                                · intro w'
                                  go_simp
                                  with_reducible rfl
                                rotate_left
                                · simp only [Act.put, List.setIfInBounds_toArray, List.set_cons_zero, List.set_cons_succ, i64_w, i32_w]
                                  rfl
                                refine pure_ (i := 2) (N := some 46) (v := ?_) (a' := ?_) #[true, true, true, false, false, false, false, false, false] rfl rfl (any_of HT_.out (by kernel_rfl)) (fun _ _ _ h => h) (Or.inl ⟨by rfl, ?_⟩) ?_ ?_
                                rotate_left
                                · intro w'
                                  go_simp
                                  with_reducible rfl
                                rotate_left
                                · simp only [Act.put, List.setIfInBounds_toArray, List.set_cons_zero, List.set_cons_succ, i64_w, i32_w]
                                  rfl
                                refine pure_ (i := 3) (N := some 47) (v := ?_) (a' := ?_) #[true, true, true, true, false, false, false, false, false] rfl rfl (any_of HT_.out (by kernel_rfl)) (fun _ _ _ h => h) (Or.inl ⟨by rfl, ?_⟩) ?_ ?_
                                rotate_left
                                · intro w'
                                  go_simp
                                  with_reducible rfl
                                rotate_left
                                · simp only [Act.put, List.setIfInBounds_toArray, List.set_cons_zero, List.set_cons_succ, i64_w, i32_w]
                                  rfl
                                refine pure_ (i := 4) (N := some 48) (v := ?_) (a' := ?_) #[true, true, true, true, true, false, false, false, false] rfl rfl (any_of HT_.out (by kernel_rfl)) (fun _ _ _ h => h) (Or.inl ⟨by rfl, ?_⟩) ?_ ?_
                                rotate_left
                                · intro w'
                                  go_simp
                                  with_reducible rfl
                                rotate_left
                                · simp only [Act.put, List.setIfInBounds_toArray, List.set_cons_zero, List.set_cons_succ, i64_w, i32_w]
                                  rfl
                                refine pure_ (i := 5) (N := some 49) (v := ?_) (a' := ?_) #[true, true, true, true, true, true, false, false, false] rfl rfl (any_of HT_.out (by kernel_rfl)) (fun _ _ _ h => h) (Or.inl ⟨by rfl, ?_⟩) ?_ ?_
                                rotate_left
                                · intro w'
                                  go_simp
                                  with_reducible rfl
                                rotate_left
                                · simp only [Act.put, List.setIfInBounds_toArray, List.set_cons_zero, List.set_cons_succ, i64_w, i32_w]
                                  rfl
                                refine one_ (i := 6) (N := some 50) #[true, true, true, true, true, true, true, false, false] rfl rfl (one_of HT_.out (by kernel_rfl)) (by decide) (fun K hK => ?_)
                                refine Kd.N_lit_step (Kd.slice 39 k39) _ 24 ?hg (N' := 50) ?hd (xs := ([y147, y152] : List (List (S39)))) (inner := [.slice A0 y147.length c0, .slice A32 y152.length c32]) (ok := (fun k_ => ((P0_ k_ ∨ P2_ k_) ∨ w.heap.size ≤ k_))) (okp := (fun k_ => ((P0_ k_ ∨ P2_ k_) ∨ w.heap.size ≤ k_))) ?hr ?hp (fun _ hk => hk) ((show ∀ k_, w30.heap.size ≤ k_ → (fun k_ => ((P0_ k_ ∨ P2_ k_) ∨ w.heap.size ≤ k_)) k_ from fun k_ hk => (.inr (Nat.le_trans (below_size (by repeat (first | (with_reducible first | exact HB.out | apply below_alloc | apply pw_below_drewN | apply below_drew1) | exact HB.out))) hk))) _ (Nat.le_refl _)) (Below.refl _ _) (Nat.le_refl _) (by simp) ?_; (case hd => rfl); (case hg => rfl); (case hr => first | (go_simp; done) | (go_simp; rfl)); (case hp => exact (Reps.one (show Kd.FK (Kd.slice 39 k39) _ _ y147 [.slice A0 y147.length c0] from (Kd.FK_slice_mk (Kd.V_reads' (Kd.V_mono (ok' := (fun k_ => ((P0_ k_ ∨ P2_ k_) ∨ w.heap.size ≤ k_))) (HO151.out) (fun k_ hk => hk))).2.1 (Kd.V_F (Kd.V_mono (ok' := (fun k_ => ((P0_ k_ ∨ P2_ k_) ∨ w.heap.size ≤ k_))) (HO151.out) (fun k_ hk => hk))))) (Reps.one (show Kd.FK (Kd.slice 39 k39) _ _ y152 [.slice A32 y152.length c32] from (Kd.FK_slice_mk (Kd.V_reads' (Kd.V_mono (ok' := (fun k_ => ((P0_ k_ ∨ P2_ k_) ∨ w.heap.size ≤ k_))) (HO156.out) (fun k_ hk => hk))).2.1 (Kd.V_F (Kd.V_mono (ok' := (fun k_ => ((P0_ k_ ∨ P2_ k_) ∨ w.heap.size ≤ k_))) (HO156.out) (fun k_ hk => hk))))) (Reps.none _ _))))
                                intro v158 w33 ho34 hb hg_ hnew_
                                clear hg_ hnew_
                                (first | rw [← Ny157.out] at ho34 | (simp only [Int.reduceToNat] at ho34; rw [← Ny157.out] at ho34))
                                have n0_ := Aside0.mk (Kd.V_elder' (by (with_reducible repeat (first | apply Kd.V_alloc | apply Kd.V_drewN | apply Kd.V_drew)); exact HO_0.out) (Kd.N_base ho34) hb)
                                have n1_ := Aside0.mk (Kd.V_elder' (by (with_reducible repeat (first | apply Kd.V_alloc | apply Kd.V_drewN | apply Kd.V_drew)); exact HO_2.out) (Kd.N_base ho34) hb)
                                have n2_ := Aside0.mk (Kd.V_elder' (by (with_reducible repeat (first | apply Kd.V_alloc | apply Kd.V_drewN | apply Kd.V_drew)); exact HO_20.out) (Kd.N_base ho34) hb)
                                have n3_ := Aside0.mk (Kd.V_elder' (by (with_reducible repeat (first | apply Kd.V_alloc | apply Kd.V_drewN | apply Kd.V_drew)); exact HO151.out) (Kd.N_base ho34) hb)
                                have n4_ := Aside0.mk (Kd.V_elder' (by (with_reducible repeat (first | apply Kd.V_alloc | apply Kd.V_drewN | apply Kd.V_drew)); exact HO156.out) (Kd.N_base ho34) hb)
                                have n5_ := Aside0.mk (Kd.N_lower ho34 (below_size (by repeat (first | (with_reducible first | exact HB.out | apply below_alloc | apply pw_below_drewN | apply below_drew1) | exact HB.out))))
                                have n6_ := Aside0.mk (below_step (by repeat (first | (with_reducible first | exact HB.out | apply below_alloc | apply pw_below_drewN | apply below_drew1) | exact HB.out)) hb)
                                clear HO_0
                                clear HO_2
                                clear HO_20
                                clear HO151
                                clear HO156
                                clear HB
                                have HO_0 := n0_
                                have HO_2 := n1_
                                have HO_20 := n2_
                                have HO151 := n3_
                                have HO156 := n4_
                                have HO159 := n5_
                                have HB := n6_
                                clear n0_ n1_ n2_ n3_ n4_ n5_ n6_
                                clear hb ho34
                                obtain ⟨Ao35, co35, eo35⟩ := Kd.N_slice HO159.out
                                (first | subst eo35 | (injection eo35 with f1_ f2_ f3_; have f4_ := f1_.symm; have f5_ := f3_.symm; clear f1_ f2_ f3_; subst f4_; subst f5_))
                                refine hK.out _ _ trivial (fun hHeld => ?_)
                                clear hK K
                                refine norm_ (a' := ?_) ?_ ?_
                                rotate_left
                                · show Act.put _ (some 50) _ = _
                                  simp only [Act.put, List.setIfInBounds_toArray, List.set_cons_zero, List.set_cons_succ, i64_w, i32_w]
                                  rfl
                                refine one_ (i := 7) (N := some 51) #[true, true, true, true, true, true, true, true, false] rfl rfl (one_of HT_.out (by kernel_rfl)) (by decide) (fun K hK => ?_)
                                refine goes_ Try.func26 (by kernel_rfl) rfl #[.slice Ao35 y157.length co35] (by rfl) rfl rfl (by (try simp only [List.map_toArray, List.map_cons, List.map_nil]); first | done | rfl | (simp only [List.length_drop, List.length_take]; rfl)) ?_
                                with_reducible refine (slices_Concat_Entry.calls kj11 (fun k_ => ((P0_ k_ ∨ P2_ k_) ∨ w.heap.size ≤ k_)) _ _ y157 t160 _ ?side1 A29.out).mono ?_
                                (case side1 => exact Kd.N_V (HO159.out))
                                rintro e w36 ⟨v161, rfl, ho0, hb⟩
                                refine ⟨_, rfl, ?_⟩
                                have n0_ := Aside0.mk (Kd.V_elder' (by (with_reducible repeat (first | apply Kd.V_alloc | apply Kd.V_drewN | apply Kd.V_drew)); exact HO_0.out) (Kd.N_base ho0) hb)
                                have n1_ := Aside0.mk (Kd.V_elder' (by (with_reducible repeat (first | apply Kd.V_alloc | apply Kd.V_drewN | apply Kd.V_drew)); exact HO_2.out) (Kd.N_base ho0) hb)
                                have n2_ := Aside0.mk (Kd.V_elder' (by (with_reducible repeat (first | apply Kd.V_alloc | apply Kd.V_drewN | apply Kd.V_drew)); exact HO_20.out) (Kd.N_base ho0) hb)
                                have n3_ := Aside0.mk (Kd.V_elder' (by (with_reducible repeat (first | apply Kd.V_alloc | apply Kd.V_drewN | apply Kd.V_drew)); exact HO151.out) (Kd.N_base ho0) hb)
                                have n4_ := Aside0.mk (Kd.V_elder' (by (with_reducible repeat (first | apply Kd.V_alloc | apply Kd.V_drewN | apply Kd.V_drew)); exact HO156.out) (Kd.N_base ho0) hb)
                                have n5_ := Aside0.mk (Kd.N_elder' (by (with_reducible repeat (first | apply Kd.N_alloc | apply Kd.N_drewN | apply Kd.N_drew)); exact HO159.out) (Kd.N_base ho0) hb)
                                have n6_ := Aside0.mk (Kd.N_lower (Kd.N_mono (ok' := fun k_ => ((P0_ k_ ∨ P2_ k_) ∨ w.heap.size ≤ k_)) ho0 (fun k_ hk_ => Or.elim hk_ (fun hs_ => hs_) (fun hn_ => (.inr (Nat.le_trans (below_size (by repeat (first | (with_reducible first | exact HB.out | apply below_alloc | apply pw_below_drewN | apply below_drew1) | exact HB.out))) hn_))))) (below_size (by repeat (first | (with_reducible first | exact HB.out | apply below_alloc | apply pw_below_drewN | apply below_drew1) | exact HB.out))))
                                have n7_ := Aside0.mk (below_step (by repeat (first | (with_reducible first | exact HB.out | apply below_alloc | apply pw_below_drewN | apply below_drew1) | exact HB.out)) hb)
                                clear HO_0
                                clear HO_2
                                clear HO_20
                                clear HO151
                                clear HO156
                                clear HO159
                                clear HB
                                have HO_0 := n0_
                                have HO_2 := n1_
                                have HO_20 := n2_
                                have HO151 := n3_
                                have HO156 := n4_
                                have HO159 := n5_
                                have HO162 := n6_
                                have HB := n7_
                                clear n0_ n1_ n2_ n3_ n4_ n5_ n6_ n7_
                                (try clear hb)
                                (try clear hb2)
                                (try clear hk)
                                (try clear hi)
                                (try clear hgn_)
                                (try clear ho0)
                                refine hK.out _ _ trivial (fun hHeld => ?_)
                                clear hK K
                                refine norm_ (a' := ?_) ?_ ?_
                                rotate_left
                                · show Act.put _ (some 51) _ = _
                                  simp only [Act.put, List.setIfInBounds_toArray, List.set_cons_zero, List.set_cons_succ, i64_w, i32_w]
                                  rfl
                                refine pure_ (i := 8) (N := some 6) (v := ?_) (a' := ?_) #[true, true, true, true, true, true, true, true, true] rfl rfl (any_of HT_.out (by kernel_rfl)) (fun _ _ _ h => h) (Or.inl ⟨by rfl, ?_⟩) ?_ ?_
                                rotate_left
                                · intro w'
                                  go_simp
                                  with_reducible rfl
                                rotate_left
                                · simp only [Act.put, List.setIfInBounds_toArray, List.set_cons_zero, List.set_cons_succ, i64_w, i32_w]
                                  rfl
                                refine done_ (done_of HT_.out (by kernel_rfl)) ?_
                                try go_wp2
                                go_ret
                                exact ⟨_, by first | rfl | (simp [errW_none, errW_some] <;> rfl) | (simp only [← hji24]; first | rfl | (simp [errW_none, errW_some] <;> rfl)) | (simp [*, errW_none, errW_some] <;> rfl), by (with_reducible repeat (first | apply Kd.N_alloc | apply Kd.N_drewN | apply Kd.N_drew)); exact HO162.out, by repeat (first | (with_reducible first | exact HB.out | apply below_alloc | apply pw_below_drewN | apply below_drew1) | exact HB.out)⟩
                              · rw [if_neg c28] at H
                                exact absurd H (by simp)
                            · rw [if_neg c27] at H
                              exact absurd H (by simp)
                          · rw [if_neg c26] at H
                            exact absurd H (by simp)
                        · rw [if_neg c25] at H
                          exact absurd H (by simp)
                      · replace c23 := Bool.eq_false_iff.mpr c23
                        subst c23
                        have H1 : (ulog_Join.l0 kj11 l0 a1 l2 l2 (l2.length : Int) (wrap64 (x22_2 + 1))) = some r := by rw [if_neg (show ¬ (false = true) by decide)] at H; exact H
                        clear H
                        have H := H1
                        clear H1
                        have H' := Aside0.mk H
                        clear H
                        go_wp2
                        go_roundg kj11
                        case measure => have := HJ3.out; have := HK2.out; have := HJ11.out; omega
                        case rel => exact ⟨(wrap64 (x22_2 + 1)), (by first | rfl | (simp; done) | (simp [*]; done)), H', ⟨by have := HJ3.out; have := HK2.out; have := HJ11.out; omega⟩, ⟨by (with_reducible repeat (first | apply Kd.V_alloc | apply Kd.V_drewN | apply Kd.V_drew)); exact HO_0.out⟩, ⟨by (with_reducible repeat (first | apply Kd.V_alloc | apply Kd.V_drewN | apply Kd.V_drew)); exact HO_2.out⟩, ⟨by (with_reducible repeat (first | apply Kd.V_alloc | apply Kd.V_drewN | apply Kd.V_drew)); exact HO_20.out⟩, ⟨by repeat (first | (with_reducible first | exact HB.out | apply below_alloc | apply pw_below_drewN | apply below_drew1) | exact HB.out)⟩⟩
                · rw [if_neg c11] at H
                  exact absurd H (by simp)
              · rw [if_neg c10] at H
                exact absurd H (by simp)
            · rw [if_neg c9] at H
              have c9b0 : decide (x22_2 < (l2.length : Int)) = false := decide_eq_false c9
              clear c9
              replace H := Option.bind_eq_some_iff.mp H
              obtain ⟨t141, A370, H⟩ := H
              replace H : (some t141) = some r := H
              have A37 := Aside0.mk A370
              clear A370
              obtain rfl := Option.some.inj H
              go_wp2_with (first | ((with_reducible refine gate_callee (f := 25) rfl ?_); refine goesL_ (some 54) rfl rfl Try.func25 (by kernel_rfl) rfl #[.slice A0 l0.length c0] rfl (by (try simp only [List.map_toArray, List.map_cons, List.map_nil]); first | done | rfl | (simp only [List.length_drop, List.length_take]; rfl)) ?_; (with_reducible refine (slices_Clone_Entry.calls (fun k_ => ((P0_ k_ ∨ P2_ k_) ∨ w.heap.size ≤ k_)) _ _ l0 t141 _ ?side1 A37.out).mono ?_); (case side1 => exact HO_0.out); rintro e w38 ⟨v142, rfl, ho0, hb⟩; refine ⟨_, rfl, ?_⟩; have n0_ := Aside0.mk (Kd.V_elder' (by (with_reducible repeat (first | apply Kd.V_alloc | apply Kd.V_drewN | apply Kd.V_drew)); exact HO_0.out) (Kd.N_base ho0) hb); have n1_ := Aside0.mk (Kd.V_elder' (by (with_reducible repeat (first | apply Kd.V_alloc | apply Kd.V_drewN | apply Kd.V_drew)); exact HO_2.out) (Kd.N_base ho0) hb); have n2_ := Aside0.mk (Kd.V_elder' (by (with_reducible repeat (first | apply Kd.V_alloc | apply Kd.V_drewN | apply Kd.V_drew)); exact HO_20.out) (Kd.N_base ho0) hb); have n3_ := Aside0.mk (Kd.N_lower (Kd.N_mono (ok' := fun k_ => ((P0_ k_ ∨ P2_ k_) ∨ w.heap.size ≤ k_)) ho0 (fun k_ hk_ => Or.elim hk_ (fun hs_ => hs_) (fun hn_ => (.inr (Nat.le_trans (below_size (by repeat (first | (with_reducible first | exact HB.out | apply below_alloc | apply pw_below_drewN | apply below_drew1) | exact HB.out))) hn_))))) (below_size (by repeat (first | (with_reducible first | exact HB.out | apply below_alloc | apply pw_below_drewN | apply below_drew1) | exact HB.out)))); have n4_ := Aside0.mk (below_step (by repeat (first | (with_reducible first | exact HB.out | apply below_alloc | apply pw_below_drewN | apply below_drew1) | exact HB.out)) hb); clear HO_0; clear HO_2; clear HO_20; clear HB; have HO_0 := n0_; have HO_2 := n1_; have HO_20 := n2_; have HO143 := n3_; have HB := n4_; clear n0_ n1_ n2_ n3_ n4_; (try clear hb); (try clear hb2); (try clear hk); (try clear hi); (try clear hgn_); (try clear ho0)))
              go_ret
              exact ⟨_, by first | rfl | (simp [errW_none, errW_some] <;> rfl) | (simp [*, errW_none, errW_some] <;> rfl), by (with_reducible repeat (first | apply Kd.N_alloc | apply Kd.N_drewN | apply Kd.N_drew)); exact HO143.out, by repeat (first | (with_reducible first | exact HB.out | apply below_alloc | apply pw_below_drewN | apply below_drew1) | exact HB.out)⟩

end Go.Proofs.Ytipeiombaempoaa.Q
