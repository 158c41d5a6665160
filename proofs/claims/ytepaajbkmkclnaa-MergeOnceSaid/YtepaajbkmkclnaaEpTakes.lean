/- (*batches).takes: what it leaves in memory. -/
import Derived.Test.YtepaajbkmkclnaaEpRaw0
import Derived.OneCell
import Derived.Deep.RegionLaw
import Derived.Shelf.RegionOpenPlain
namespace Go.Proofs.Ytepaajbkmkclnaa.Ep
open Go Go.RowKit Go.Proofs.YtepaajbkmkclnaaW.PrintWords Go.Proofs.YtepaajbkmkclnaaW.PrintLast Go.Proofs.YtepaajbkmkclnaaW.PrintMore
set_option linter.unusedVariables false
set_option linter.unusedSimpArgs false
abbrev Rows (w : World) (base : Nat) (ok : Nat → Prop) (v : Value) (rows : List (List Int)) : Prop := Kd.S (Kd.slice 3 (Kd.int .i64)) 44 w base ok v rows
theorem heap_set1 {w : World} {o t : Nat} {v : Value} (u : Value) (h : w.heap[o]? = some (.cells #[v] t (0, 0))) : (w.setCell ⟨o, 0, none⟩ u).heap[o]? = some (.cells #[u] t (0, 0)) := one_setCell h
set_option maxHeartbeats 8000000 in
set_option maxRecDepth 100000 in
theorem takes_seal (o base : Nat) (w0 w : World) (v e0 e2 e3 e4 e5 : Value) (rows : List (List Int)) (pos : Int) (hob : w.heap[o]? = some (.cells #[v] 80 (0, 0))) (hS : Rows w base (fun k => k ≠ o) v rows) (hbase : base ≤ o) (HB : Below base w0 w) (hne : 0 < rows.length) (hl : rows.length < 5864062014805) :
    Calls Try.prog 34 #[.pointer (some ⟨o, 0, none⟩), .int .i64 pos, .agg #[e0, .bool true, e2, e3, e4, e5]] w fun e w' => (∃ u, e = .returned u) ∧ ∃ v', w'.heap[o]? = some (.cells #[v'] 80 (0, 0)) ∧ Rows w' base (fun k => k ≠ o) v' (rows ++ [[]]) ∧ Below base w0 w' := by
  have hlt : o < w.heap.size := by
    rcases Nat.lt_or_ge o w.heap.size with h | h
    · exact h
    · rw [Array.getElem?_eq_none h] at hob; cases hob
  have hc : w.cell? ⟨o, 0, none⟩ = some v := by simp [World.cell?, hob]
  have hf : w.frozen? ⟨o, 0, none⟩ = false := by simp [World.frozen?, hob]
  obtain ⟨g, cap, rfl, hg1, hg2, gc, hg3⟩ := Kd.S_form hS hne
  go_enter Try.func34, Try.ntmps34
  have hgo : g ≠ o := (Kd.S_R hS).1 g rfl
  go_wp2_with ((with_reducible refine gate_builtin (b := .append) (xs := #[.tmp 13, .tmp 14]) rfl ?_); at_builtin; refine Kd.S_append (Kd.slice 3 (Kd.int .i64)) (w0 := w0) base rfl (.tmp 13) (.tmp 14) 41 44 (.slice none 0 0) 24 rfl Try.underlying41 info32 rfl (by decide) (by omega) (.slice (some ⟨g, 0, none⟩) rows.length cap) rows [] [.slice none 0 0] (fun k => k ≠ o) (fun _ => False) rfl ?aX ?aP (fun _ hk => hk.elim) ?aF ?aO ?aB ?aS ?aL ?_; (case aX => simp [Act.eval]); (case aP => exact ⟨_, rfl, Kd.R_nil _ _ _ _ _⟩); (case aB => exact HB.alloc (by omega) _); (case aF => intro k hk; simp at hk; omega); (case aO => exact Kd.S_mono (Kd.S_alloc hS _) (fun k hk => ⟨hk, fun e => e⟩)); (case aS => simp; omega); (case aL => omega); intro v1 w1 ho hb hg hat; obtain ⟨A1, c1, rfl⟩ := Kd.S_slice ho; have hob1 : w1.heap[o]? = some (.cells #[.slice (some ⟨g, 0, none⟩) rows.length cap] 80 (0, 0)) := (hg.block o (by simp; omega) (fun e => hgo (Option.some.inj e).symm)).trans ((heap_alloc_old w _ hlt).trans hob); have hc1 : w1.cell? ⟨o, 0, none⟩ = some (.slice (some ⟨g, 0, none⟩) rows.length cap) := (by simp [World.cell?, hob1]); have hf1 : w1.frozen? ⟨o, 0, none⟩ = false := (by simp [World.frozen?, hob1]))
  refine bodyPost_ret (results_none rfl _ _ _) rfl ?_
  have hl2 : (rows ++ [[]]).length = rows.length + 1 := by rw [List.length_append]; rfl
  rw [hl2] at ho
  refine ⟨⟨_, rfl⟩, _, heap_set1 _ hob1, Kd.S_far ho (fun k hk => hk) _, hb.setCell hbase _⟩
/-- append to the last row, wherever the region's draws stand. -/
theorem app_full {P : Program} {ops : Array Oper} {oi : Oper} {a : Act} {K : Act → World → Prop} {Q : Exit → Act → World → Prop} {E : Prop} {W0 W' w0 : World} {base o g cap : Nat} {rows : List (List Int)} {row : List Int} {pos : Int} {Ai : Option Addr} {ci : Nat} {obj : Obj} {oki : Nat → Prop}
    (hi3 : (P.info? 3).map (fun i => (i.zero, i.size, i.bytes)) = some (some (.int .i64 0), 1, 8)) (hu : P.underlying 44 = some (.slice 3)) (hg : oi.guard = none) (x y : Operand) (hop : oi.op = .call { callee := .builtin .append, args := #[x, y], argTypes := #[44, 44] })
    (hh : W'.heap = W0.heap.push (.cells #[.int .i64 pos] 3 (0, 0))) (h1 : W'.os = W0.os) (h2 : W'.tape = W0.tape) (h3 : W'.output = W0.output)
    (hB : Below base w0 W0) (hbs : base ≤ W0.heap.size) (ho : W0.heap[o]? = some obj) (hne : 0 < rows.length)
    (hH : Kd.H (Kd.slice 3 (Kd.int .i64)) 44 W0 base (fun k => k ≠ o) (.slice (some ⟨g, 0, none⟩) rows.length cap) rows ((rows.length : Int) - 1) oki [.slice Ai row.length ci])
    (UU : Kd.R (Kd.int .i64) 3 W0 base oki (.slice Ai row.length ci) row) (hl : row.length < 1000000) (hx : a.eval x = .slice Ai row.length ci) (hy : a.eval y = .slice (some ⟨W0.heap.size, 0, none⟩) 1 1)
    (h : ∀ A1 c1 w1, w1.cell? ⟨g, rows.length - 1, none⟩ = some (.slice Ai row.length ci) → w1.frozen? ⟨g, rows.length - 1, none⟩ = false →
      Rows (w1.setCell ⟨g, rows.length - 1, none⟩ (.slice A1 (row.length + 1) c1)) base (fun k => k ≠ o) (.slice (some ⟨g, 0, none⟩) rows.length cap) (rows.set (rows.length - 1) (row ++ [pos])) → Below base w0 w1 → w1.heap[o]? = some obj →
      K (a.put oi.dst (.slice A1 (row.length + 1) c1)) w1) :
    if Region.wanted oi (yielded ops a.tmps) = true then Oper.wp P oi a W' K Q else E := by
  have hw : Region.wanted oi (yielded ops a.tmps) = true := by simp [Region.wanted, hg]
  have hlt : o < W0.heap.size := by
    rcases Nat.lt_or_ge o W0.heap.size with h | h
    · exact h
    · rw [Array.getElem?_eq_none h] at ho; cases ho
  have i0 : (0 : Int) ≤ (rows.length : Int) - 1 := by omega
  have i1 : (rows.length : Int) - 1 < (rows.length : Int) := by omega
  have it : ((rows.length : Int) - 1).toNat = rows.length - 1 := by omega
  obtain ⟨W, hW, hW2, hW3, hW4, hW5⟩ : ∃ W : World, W' = W.alloc (.cells [.int .i64 pos].toArray 3 (0, 0)) ∧ W.heap = W0.heap ∧ W.os = W0.os ∧ W.tape = W0.tape ∧ W.output = W0.output :=
    ⟨{ W' with heap := W0.heap }, by cases W'; simp only at hh; subst hh; rfl, rfl, h1, h2, h3⟩
  have HB' : Below base w0 W := hB.trans ⟨hW3, hW4, hW5, by rw [hW2]; exact Nat.le_refl _, fun k _ => by rw [hW2]⟩
  have HO : Kd.R (Kd.int .i64) 3 W base (fun k => oki k ∨ (k ≠ o ∧ W.heap.size ≤ k)) (.slice Ai row.length ci) row := Kd.R_mono (Kd.R_move UU (fun k _ => by rw [hW2])) (fun k hk => .inl hk)
  have hHW : Kd.H (Kd.slice 3 (Kd.int .i64)) 44 W base (fun k => k ≠ o) (.slice (some ⟨g, 0, none⟩) rows.length cap) rows ((rows.length : Int) - 1) oki [.slice Ai row.length ci] := Kd.H_step hH (fun k _ _ _ => by rw [hW2])
  subst hW
  rw [if_pos hw]
  have key := Kd.R_append_step (P := P) (ops := ops) (o := oi) (a := a) (Kc := K) (Q := Q) (Kd.int .i64) (w0 := w0) (W := W) base hw x y 44 3 (.int .i64 0) 8 hop hu hi3 rfl (by decide) (by omega) (.slice Ai row.length ci) row pos [.int .i64 pos] (fun k => oki k ∨ (k ≠ o ∧ W.heap.size ≤ k)) (fun _ => False) hx (by rw [hy, hW2]) rfl (fun _ hk => hk.elim) (fun k hk => .inr ⟨by rw [hW2] at hk; omega, hk⟩) HO HB' (by rw [hW2]; exact hbs) (by omega) ?_
  · rw [if_pos hw] at key; exact key
  intro v1 w1 hr hb hgr hat
  obtain ⟨A1, c1, rfl⟩ := Kd.R_slice hr
  have hH1 := Kd.H_grown (Kd.H_widen hHW) hgr (fun k e => .inl (UU.1 k e))
  obtain ⟨hc1, hf1⟩ := Kd.H_at hH1 i0 i1
  have hq1 := hc1 0 _ rfl
  have hq2 := hf1 0
  simp only [Nat.add_zero, show ((Kd.slice 3 (Kd.int .i64))).sz = 1 from rfl, Nat.mul_one, it] at hq1 hq2
  have HP := Kd.S_seg0 hH1 i0 i1 (seg := [.slice A1 (row ++ [pos]).length c1]) (j := 0) (show 1 ≤ 1 from by decide) (x' := row ++ [pos]) (Kd.M_row hr) (fun _ hk => hk)
  have hs := HP.1
  simp only [show ((Kd.slice 3 (Kd.int .i64))).sz = 1 from rfl, Nat.mul_one, Nat.add_zero, it] at hs
  have hln : (row ++ [pos]).length = row.length + 1 := by rw [List.length_append]; rfl
  rw [hln] at hs ⊢
  refine h A1 c1 w1 hq1 hq2 hs hb ?_
  rw [hgr.block o (by rw [hW2]; exact hlt) (fun e => ?_), hW2]
  · exact ho
  · exact (hH.1 o (UU.1 o e.symm)) rfl
set_option maxHeartbeats 8000000 in
set_option maxRecDepth 100000 in
theorem takes_add (o base : Nat) (w0 w : World) (v e0 e2 e3 e4 e5 : Value) (rows : List (List Int)) (pos : Int) (hob : w.heap[o]? = some (.cells #[v] 80 (0, 0))) (hS : Rows w base (fun k => k ≠ o) v rows) (hbase : base ≤ o) (HB : Below base w0 w) (hne : 0 < rows.length) (hl : rows.length < 5864062014805) (hr : ∀ r ∈ rows, r.length < 1000000) :
    Calls Try.prog 34 #[.pointer (some ⟨o, 0, none⟩), .int .i64 pos, .agg #[e0, .bool false, e2, e3, e4, e5]] w fun e w' => (∃ u, e = .returned u) ∧ ∃ v', w'.heap[o]? = some (.cells #[v'] 80 (0, 0)) ∧ Rows w' base (fun k => k ≠ o) v' (rows.set (rows.length - 1) (rd_L9 rows ((rows.length : Int) - 1) ++ [pos])) ∧ Below base w0 w' := by
  have hlt : o < w.heap.size := by
    rcases Nat.lt_or_ge o w.heap.size with h | h
    · exact h
    · rw [Array.getElem?_eq_none h] at hob; cases hob
  have hc : w.cell? ⟨o, 0, none⟩ = some v := by simp [World.cell?, hob]
  have hf : w.frozen? ⟨o, 0, none⟩ = false := by simp [World.frozen?, hob]
  obtain ⟨g, cap, rfl, hg1, hg2, gc, hg3⟩ := Kd.S_form hS hne
  have mixed : Try.prog.follows .mixedOrders = true := by kernel_rfl
  have hgo : g ≠ o := (Kd.S_R hS).1 g rfl
  have hw1 : IntKind.i64.wrap ((rows.length : Int) - 1) = (rows.length : Int) - 1 := by rw [IntKind.wrap_i64]; omega
  go_enter Try.func34, Try.ntmps34
  go_wp2
  generalize hW : w.alloc (Obj.cells #[e0, Value.bool false, e2, e3, e4, e5] 37) = W0
  have hsz : W0.heap.size = w.heap.size + 1 := by rw [← hW]; simp
  have hobW : W0.heap[o]? = some (.cells #[.slice (some ⟨g, 0, none⟩) rows.length cap] 80 (0, 0)) := by rw [← hW]; exact (heap_alloc_old w _ hlt).trans hob
  have hcW : W0.cell? ⟨o, 0, none⟩ = some (.slice (some ⟨g, 0, none⟩) rows.length cap) := by simp [World.cell?, hobW]
  have hfW : W0.frozen? ⟨o, 0, none⟩ = false := by simp [World.frozen?, hobW]
  have hSW : Rows W0 base (fun k => k ≠ o) (.slice (some ⟨g, 0, none⟩) rows.length cap) rows := by rw [← hW]; exact Kd.S_alloc hS _
  have HBW : Below base w0 W0 := by rw [← hW]; exact HB.alloc (by omega) _
  clear hW hc hf
  have i0 : (0 : Int) ≤ (rows.length : Int) - 1 := by omega
  have i1 : (rows.length : Int) - 1 < (rows.length : Int) := by omega
  have it : ((rows.length : Int) - 1).toNat = rows.length - 1 := by omega
  obtain ⟨oki, ce, hcl, hM, hcc, hfc, hoki, hH⟩ := Kd.S_elem hSW [] ((rows.length : Int) - 1) i0 i1
  obtain ⟨ve, rfl, ge⟩ := hM
  have hcx := hcc 0 _ rfl
  have hfx := hfc 0
  simp only [Nat.add_zero, show ((Kd.slice 3 (Kd.int .i64))).sz = 1 from rfl, Nat.mul_one] at hcx hfx
  have UU : Kd.R (Kd.int .i64) 3 W0 base oki ve (rd_L9 rows ((rows.length : Int) - 1)) := ge
  have hrow : (rd_L9 rows ((rows.length : Int) - 1)).length < 1000000 := by
    unfold rd_L9
    rw [List.getD_eq_getElem?_getD]
    cases hx : rows[((rows.length : Int) - 1).toNat]? with
    | none => simp
    | some r => exact hr r (List.mem_of_getElem? hx)
  generalize hrw : rd_L9 rows ((rows.length : Int) - 1) = row at UU hrow ⊢
  obtain ⟨Ai, ci, rfl⟩ := Kd.R_slice UU
  rw [it] at hcx hfx
  have hfx2 : W0.frozen? ⟨g, rows.length - 1, none⟩ = false := hfx
  have i2 : (1 : Int) ≤ (rows.length : Int) := by omega
  go_region_law (refine app_full (W0 := W0) (w0 := w0) (base := base) (o := o) (g := g) (cap := cap) (rows := rows) (row := row) (pos := pos) (Ai := Ai) (ci := ci) (oki := oki) info3 Try.underlying44 rfl (.tmp 35) (.tmp 37) rfl rfl rfl rfl rfl HBW (by omega) hobW hne hH UU hrow rfl (by rw [hsz]; rfl) ?_; intro A1 c1 w1 hq1 hq2 hq3 hq4 hq5; have hq6 : w1.cell? ⟨o, 0, none⟩ = some (.slice (some ⟨g, 0, none⟩) rows.length cap) := (by simp [World.cell?, hq5]); have hq7 : w1.frozen? ⟨o, 0, none⟩ = false := (by simp [World.frozen?, hq5]))
  all_goals (
    refine bodyPost_end (results_none rfl _ _ _) rfl ?_
    refine ⟨⟨_, rfl⟩, .slice (some ⟨g, 0, none⟩) rows.length cap, (Below.heap_setCell _ _ _ _ (fun e => hgo e.symm)).trans hq5, by rw [hrw]; exact hq3, hq4.setCell hg1 _⟩)
end Go.Proofs.Ytepaajbkmkclnaa.Ep
