/- epoch.Cut: what it leaves in memory. -/
import Derived.Test.YtepaajbkmkclnaaEpTakes
import Derived.Test.YtepaajbkmkclnaaFn
namespace Go.Proofs.Ytepaajbkmkclnaa.Ep
open Go Go.RowKit Go.Proofs.YtepaajbkmkclnaaW.PrintWords Go.Proofs.YtepaajbkmkclnaaW.PrintLast Go.Proofs.YtepaajbkmkclnaaW.PrintMore
set_option linter.unusedVariables false
set_option linter.unusedSimpArgs false
def stepR (rows : List (List Int)) (pos : Int) (sl : Bool) : List (List Int) := bif sl then rows ++ [[]] else rows.set (rows.length - 1) (rd_L9 rows ((rows.length : Int) - 1) ++ [pos])
def runR : Nat → List Bool → List (List Int) → List (List Int)
  | _, [], r => r
  | i, b :: xs, r => runR (i + 1) xs (stepR r ((i : Int) + 1) b)
theorem stepR_len (rows : List (List Int)) (pos : Int) (sl : Bool) : rows.length ≤ (stepR rows pos sl).length ∧ (stepR rows pos sl).length ≤ rows.length + 1 := by
  cases sl <;> simp [stepR]
theorem stepR_row {rows : List (List Int)} {pos : Int} {sl : Bool} {m : Nat} (h : ∀ r ∈ rows, r.length ≤ m) : ∀ r ∈ stepR rows pos sl, r.length ≤ m + 1 := by
  intro r hr
  cases sl
  · simp only [stepR, cond_false] at hr
    rcases List.mem_or_eq_of_mem_set hr with g | g
    · have := h r g; omega
    · subst g
      rw [List.length_append, List.length_singleton]
      unfold rd_L9
      rw [List.getD_eq_getElem?_getD]
      cases hx : rows[((rows.length : Int) - 1).toNat]? with
      | none => simp
      | some q => have := h q (List.mem_of_getElem? hx); simpa using this
  · simp only [stepR, cond_true] at hr
    rcases List.mem_append.1 hr with g | g
    · have := h r g; omega
    · rw [List.mem_singleton.1 g]; simp
theorem runR_len : ∀ (xs : List Bool) (i m : Nat) (rows : List (List Int)), (∀ r ∈ rows, r.length ≤ m) → rows.length ≤ (runR i xs rows).length ∧ (runR i xs rows).length ≤ rows.length + xs.length ∧ ∀ r ∈ runR i xs rows, r.length ≤ m + xs.length
  | [], i, m, rows, h => ⟨Nat.le_refl _, by simp [runR], by simpa [runR] using h⟩
  | b :: xs, i, m, rows, h => by
    obtain ⟨g1, g2⟩ := stepR_len rows ((i : Int) + 1) b
    obtain ⟨k1, k2, k3⟩ := runR_len xs (i + 1) (m + 1) (stepR rows ((i : Int) + 1) b) (stepR_row h)
    simp only [runR, List.length_cons]
    exact ⟨by omega, by omega, fun r hr => by have := k3 r hr; omega⟩
theorem runR_snoc : ∀ (xs : List Bool) (i : Nat) (rows : List (List Int)) (b : Bool), runR i (xs ++ [b]) rows = stepR (runR i xs rows) (((i + xs.length : Nat) : Int) + 1) b
  | [], i, rows, b => by simp [runR]
  | x :: xs, i, rows, b => by
    simp only [List.cons_append, runR, List.length_cons]
    rw [runR_snoc xs (i + 1)]
    congr 2
    omega
theorem takes_calls (o base : Nat) (w0 w : World) (v e0 e2 e3 e4 e5 : Value) (rows : List (List Int)) (pos : Int) (sl : Bool) (hob : w.heap[o]? = some (.cells #[v] 80 (0, 0))) (hS : Rows w base (fun k => k ≠ o) v rows) (hbase : base ≤ o) (HB : Below base w0 w) (hne : 0 < rows.length) (hl : rows.length < 5864062014805) (hr : ∀ r ∈ rows, r.length < 1000000) :
    Calls Try.prog 34 #[.pointer (some ⟨o, 0, none⟩), .int .i64 pos, .agg #[e0, .bool sl, e2, e3, e4, e5]] w fun e w' => (∃ u, e = .returned u) ∧ ∃ v', w'.heap[o]? = some (.cells #[v'] 80 (0, 0)) ∧ Rows w' base (fun k => k ≠ o) v' (stepR rows pos sl) ∧ Below base w0 w' := by
  cases sl
  · exact takes_add o base w0 w v e0 e2 e3 e4 e5 rows pos hob hS hbase HB hne hl hr
  · exact takes_seal o base w0 w v e0 e2 e3 e4 e5 rows pos hob hS hbase HB hne hl
set_option maxHeartbeats 8000000 in
set_option maxRecDepth 100000 in
theorem cut_calls (A0 : Option Addr) (c0 : Nat) (xs : List Bool) (w : World) (hr0 : Ent w A0 xs) (hc0 : xs.length ≤ c0) (hn : xs.length ≤ 100000) :
    Calls Try.prog 26 #[.slice A0 xs.length c0] w fun e w' => ∃ v, e = .returned v ∧ Rows w' w.heap.size (fun _ => True) v (runR 0 xs [[]]) ∧ Below w.heap.size w w' := by
  go_enter Try.func26, Try.ntmps26
  go_wp2_with ((with_reducible refine gate_dst (N := 7) rfl ?_); refine Kd.S_make (Kd.slice 3 (Kd.int .i64)) (w0 := w) w.heap.size 44 rfl (N := 7) rfl 41 (.const (.int .i64 1)) (.const (.int .i64 1)) rfl 1 rfl rfl Try.underlying41 (.slice none 0 0) 24 info32 rfl (by decide) (by decide) [] (ok := fun _ => True) (okp := fun _ => True) ⟨_, rfl, Kd.R_nil _ _ _ _ _⟩ (fun _ h => h) trivial (by decide) (by decide) (Below.refl _ _) (Nat.le_refl _) ?_; intro v1 w1 ho hb hg hnew; clear hnew hg; rw [show List.replicate (Int.toNat 1) ([] : List Int) = [[]] from rfl] at ho; obtain ⟨A1, c1, rfl⟩ := Kd.S_slice ho)
  have hob : (w1.alloc (Obj.cells #[Value.slice A1 1 c1] 80)).heap[w1.heap.size]? = some (.cells #[Value.slice A1 1 c1] 80 (0, 0)) := heap_alloc_new _ _
  have hS0 : Rows (w1.alloc (Obj.cells #[Value.slice A1 1 c1] 80)) w.heap.size (fun k => k ≠ w1.heap.size) (Value.slice A1 1 c1) [[]] := Kd.S_alloc (Kd.S_mono (Kd.S_bound ho) (fun k hk => by have := hk.2.2.1; omega)) _
  have HB0 : Below w.heap.size w (w1.alloc (Obj.cells #[Value.slice A1 1 c1] 80)) := below_alloc hb _
  have hbo : w.heap.size ≤ w1.heap.size := below_size hb
  clear ho hb
  generalize w1.alloc (Obj.cells #[Value.slice A1 1 c1] 80) = W0 at hob hS0 HB0 ⊢
  generalize w1.heap.size = o at hob hS0 hbo ⊢
  have HR0 := Aside0.mk hr0
  clear hr0
  go_loopg [14] (xs.length + 1) (fun kq v14 w' => ∃ (n : Nat) (rows : List (List Int)) (v : Value), v14 = .int .i64 (n : Int) ∧ Aside0 (kq + n = xs.length + 1) ∧ Aside0 (n ≤ xs.length) ∧ Aside0 (rows = runR 0 (xs.take n) [[]]) ∧ Aside0 (w'.heap[o]? = some (.cells #[v] 80 (0, 0))) ∧ Aside0 (Rows w' w.heap.size (fun k => k ≠ o) v rows) ∧ Aside0 (Below w.heap.size w w'))
  case atStart => exact ⟨0, [[]], _, rfl, ⟨by omega⟩, ⟨Nat.zero_le _⟩, ⟨rfl⟩, ⟨hob⟩, ⟨hS0⟩, ⟨HB0⟩⟩
  case round =>
    clear hob hS0 HB0
    obtain ⟨n, rows, v, rfl, HK, HN, HR, HO, HS, HB⟩ := hrel
    cases gk with
    | zero => exact absurd HK.out (by have := HN.out; omega)
    | succ k1 =>
      by_cases c : (n : Int) < (xs.length : Int)
      · have hn1 : n < xs.length := by omega
        obtain ⟨b, off, t0, t2, t3, A4, n4, c4, A5, n5, c5, e, q0, q1, q2, q3, q4, q5⟩ := HR0.out n hn1
        cases e
        replace q0 := (HB.out.cell (World.block_lt_of_cell? w _ q0)).trans q0
        replace q1 := (HB.out.cell (World.block_lt_of_cell? w _ q1)).trans q1
        replace q2 := (HB.out.cell (World.block_lt_of_cell? w _ q2)).trans q2
        replace q3 := (HB.out.cell (World.block_lt_of_cell? w _ q3)).trans q3
        replace q4 := (HB.out.cell (World.block_lt_of_cell? w _ q4)).trans q4
        replace q5 := (HB.out.cell (World.block_lt_of_cell? w _ q5)).trans q5
        have c1 : decide ((n : Int) < (xs.length : Int)) = true := decide_eq_true c
        have hw1 : IntKind.i64.wrap ((n : Int) + 1) = (n : Int) + 1 := by rw [IntKind.wrap_i64]; omega
        generalize hsl : xs.getD n false = sl at q1
        have hlt : o < wr.heap.size := by
          rcases Nat.lt_or_ge o wr.heap.size with h | h
          · exact h
          · have := HO.out; rw [Array.getElem?_eq_none h] at this; cases this
        obtain ⟨l1, l2, l3⟩ := runR_len (xs.take n) 0 0 [[]] (fun r hr => by simp at hr; simp [hr])
        rw [← HR.out] at l1 l2 l3
        have hne : 0 < rows.length := by simp at l1; omega
        have hl1 : rows.length < 5864062014805 := by simp at l2; omega
        have hr1 : ∀ r ∈ rows, r.length < 1000000 := fun r hr => by have := l3 r hr; simp at this; omega
        have hnx : runR 0 (xs.take (n + 1)) [[]] = stepR rows ((n : Int) + 1) sl := by
          have e1 : xs.take (n + 1) = xs.take n ++ [sl] := by
            rw [List.take_add_one, ← hsl, List.getD_eq_getElem?_getD, List.getElem?_eq_getElem hn1]; rfl
          have e2 : (xs.take n).length = n := by rw [List.length_take]; omega
          rw [e1, runR_snoc, ← HR.out, e2, Nat.zero_add]
        clear l1 l2 l3
        go_wp2_with ((with_reducible refine Fn.gate_value (some 23) rfl rfl ?_); refine Fn.goesV_ (some 23) rfl rfl Try.func34 (by kernel_rfl) rfl #[.pointer (some ⟨o, 0, none⟩), .int .i64 ((n : Int) + 1), .agg #[.int .i64 t0, .bool sl, .int .i64 t2, .int .i64 t3, .slice A4 n4 c4, .slice A5 n5 c5]] rfl rfl rfl ?_)
        refine (takes_calls o w.heap.size w _ v (.int .i64 t0) (.int .i64 t2) (.int .i64 t3) (.slice A4 n4 c4) (.slice A5 n5 c5) rows ((n : Int) + 1) sl ((heap_alloc_old wr _ hlt).trans HO.out) (Kd.S_alloc HS.out _) hbo (below_alloc HB.out _) hne hl1 hr1).mono ?_
        rintro e w2 ⟨⟨u, rfl⟩, v2, hv2, hS2, hB2⟩
        apply_assumption
        go_wp2
        go_roundg k1
        case measure => have := HK.out; omega
        case rel => exact ⟨n + 1, stepR rows ((n : Int) + 1) sl, v2, by simp, ⟨by have := HK.out; omega⟩, ⟨hn1⟩, ⟨hnx.symm⟩, ⟨hv2⟩, ⟨hS2⟩, ⟨hB2⟩⟩
      · have c1 : decide ((n : Int) < (xs.length : Int)) = false := decide_eq_false c
        have hc1 : wr.cell? ⟨o, 0, none⟩ = some v := by simp [World.cell?, HO.out]
        go_wp2
        go_ret
        have hxs : xs.take n = xs := List.take_of_length_le (by omega)
        have hr := HR.out
        rw [hxs] at hr
        exact ⟨_, rfl, Kd.S_mono (by rw [← hr]; exact HS.out) (fun _ _ => trivial), HB.out⟩
end Go.Proofs.Ytepaajbkmkclnaa.Ep
