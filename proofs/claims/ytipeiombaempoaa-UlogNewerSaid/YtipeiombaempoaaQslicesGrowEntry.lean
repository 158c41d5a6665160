/- One Go function told as a Lean function, and that the Go code comes to its answers: out of the print of the program, by the kit and by programs of this session. -/
import Derived.Test.YtipeiombaempoaaQ0
import Derived.Test.YtipeiombaempoaaFn
namespace Go.Proofs.Ytipeiombaempoaa.Q
open Go.Proofs.Ytipeiombaempoaa Go.RowKit Go.Proofs.YtipeiombaempoaaW.PrintWords Go.Proofs.YtipeiombaempoaaW.PrintLast Go.Proofs.YtipeiombaempoaaW.PrintMore
attribute [local go_sem] max2_int min2_int max_two min_two max_three min_three max_four min_four   -- for this text's walks alone
set_option linter.unusedVariables false
set_option linter.unusedSimpArgs false

/-! ### slices_Grow_Entry: function 32 -/
def slices_Grow_Entry.f (a0 : Bool) (a1 : Int) : Option ((List (S39))) := if a1 < 0 then (if 0 ≤ (-1) then (if (-1) < (([] : List (S39)).length : Int) then ((some (([] : List (S39)) : List (S39))).bind fun y111 => (if 0 ≤ a1 then (if y111.length + (a1 : Int).toNat < 1759218604441 then ((some (y111 ++ List.replicate (a1 : Int).toNat z39 : List (S39))).bind fun y114 => (if 0 ≤ (y114.length : Int) then (some (y114.take (0 : Int).toNat)) else (none))) else (none)) else (none))) else (none)) else (none)) else ((some (([] : List (S39)) : List (S39))).bind fun y120 => (if 0 ≤ a1 then (if y120.length + (a1 : Int).toNat < 1759218604441 then ((some (y120 ++ List.replicate (a1 : Int).toNat z39 : List (S39))).bind fun y123 => (if 0 ≤ (y123.length : Int) then (some (y123.take (0 : Int).toNat)) else (none))) else (none)) else (none)))
set_option maxHeartbeats 8000000 in
set_option maxRecDepth 100000 in
theorem slices_Grow_Entry.calls (a0 : Bool) (a1 : Int) (r : List (S39)) (w : World) (h : slices_Grow_Entry.f a0 a1 = some r) :
    Calls Try.prog 32 #[.slice none 0 0, .int .i64 a1] w fun e w' => ∃ v0_ : Value, e = .returned (v0_) ∧ Kd.S k39 39 w' w.heap.size (fun _ => True) v0_ r ∧ Below w.heap.size w w' := by
  have h0 : 0 ≤ a1 ∧ a1.toNat < 1759218604441 ∧ r = [] := by
    unfold slices_Grow_Entry.f at h
    by_cases h1 : a1 < 0
    · simp [h1] at h
    · have h2 : 0 ≤ a1 := by omega
      rw [if_neg h1] at h
      simp only [Option.bind_some] at h
      rw [if_pos h2] at h
      by_cases h3 : ([] : List (S39)).length + a1.toNat < 1759218604441
      · rw [if_pos h3, if_pos (Int.natCast_nonneg _)] at h
        refine ⟨h2, by simpa using h3, ?_⟩
        simpa using h.symm
      · rw [if_neg h3] at h; cases h
  clear h
  obtain ⟨h0, hl, rfl⟩ := h0
  by_cases hz : a1 = 0
  · subst hz
    go_enter Try.func32, Try.ntmps32
    go_wp2
    go_ret
    exact ⟨_, rfl, Kd.S_nil _ _ _ _ _, by repeat (first | exact Below.refl _ _ | apply below_alloc | apply pw_below_drewN | apply below_drew1)⟩
  · have hp : 0 < a1 := by omega
    have hn : ¬ a1 < 0 := by omega
    have h9 : a1 ≤ 9223372036854775807 := by omega
    clear hz
    have HL := Aside0.mk hl
    clear hl
    go_enter Try.func32, Try.ntmps32
    go_wp2_with (at_builtin; refine Kd.S_append_zeros k39 (w0 := w) w.heap.size rfl (.tmp 20) (.tmp 21) 24 3 39 (.agg #[(.int .i64 0), (.bool false), (.int .i64 0), (.int .i64 0), (.slice none 0 0), (.slice none 0 0)]) 80 rfl Try.underlying24 Try.underlying3 info39 rfl (by decide) (by omega) (.slice none 0 0) [] z39 a1 (fun _ => True) rfl rfl (k39_mkM _ _ _ z39 (Kd.R_nil _ _ _ _ _) (Kd.R_nil _ _ _ _ _)) (fun _ _ => trivial) (Kd.S_nil _ _ _ _ _) h0 (Below.refl _ _) (Nat.le_refl _) (by have := HL.out; simp; omega) ?_; intro v1 w1 ho hb hg hat; clear hg hat; have HO := Aside0.mk ho; clear ho; obtain ⟨A1, c1, e1⟩ := Kd.S_slice HO.out; subst e1; have HB := Aside0.mk hb; clear hb; obtain ⟨i1, hi1, _, hsz1, _⟩ := info_parts info39; have hcut := cut_to (P := Try.prog) 24 39 .i64 Try.underlying24 hi1 A1 (([] ++ List.replicate a1.toNat z39 : List (S39))).length c1 0 (by omega) (Int.natCast_nonneg _) (Kd.S_reads' HO.out).2.1; have HT := Aside0.mk (Kd.S_take (m := (0 : Int).toNat) HO.out (by omega)); clear hi1 hsz1 HO)
    go_ret
    exact ⟨_, rfl, HT.out, HB.out⟩

end Go.Proofs.Ytipeiombaempoaa.Q
