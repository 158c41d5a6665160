/- diwanlaw14.begun, in memory: what it calls is told of by contracts. -/
import Derived.Test.YtepaajbkmkclnaaEpRaw0
import Derived.Test.YtepaajbkmkclnaaVamRaw
import Derived.OneCell
import Derived.Deep.RegionLaw
namespace Go.Proofs.Ytepaajbkmkclnaa.Mg
open Go Go.RowKit Go.Proofs.YtepaajbkmkclnaaW.PrintWords Go.Proofs.YtepaajbkmkclnaaW.PrintLast Go.Proofs.YtepaajbkmkclnaaW.PrintMore
set_option linter.unusedVariables false
set_option linter.unusedSimpArgs false
/-- An entry: term, Seal, session, number; no reads, no writes. -/
def EntC (w : World) (b off : Nat) (e : Int × Bool × Int × Int) : Prop :=
  w.cell? ⟨b, off, none⟩ = some (.int .i64 e.1) ∧ w.cell? ⟨b, off + 1, none⟩ = some (.bool e.2.1) ∧ w.cell? ⟨b, off + 2, none⟩ = some (.int .i64 e.2.2.1) ∧ w.cell? ⟨b, off + 3, none⟩ = some (.int .i64 e.2.2.2) ∧ w.cell? ⟨b, off + 4, none⟩ = some (.slice none 0 0) ∧ w.cell? ⟨b, off + 5, none⟩ = some (.slice none 0 0)
def LogAt (w : World) (u : Value) (es : List (Int × Bool × Int × Int)) : Prop :=
  ∃ b c, u = .slice (some ⟨b, 0, none⟩) es.length c ∧ es.length ≤ c ∧ ∀ i e, es[i]? = some e → EntC w b (i * 6) e
def LogsAt (w : World) (v : Value) (ls : List (List (Int × Bool × Int × Int))) : Prop :=
  ∃ b c, v = .slice (some ⟨b, 0, none⟩) ls.length c ∧ ls.length ≤ c ∧ ∀ i es, ls[i]? = some es → ∃ u, w.cell? ⟨b, i, none⟩ = some u ∧ LogAt w u es
def PlsAt (w : World) (v : Value) (ps : List (Int × Int)) : Prop :=
  ∃ b off c, v = .slice (some ⟨b, off, none⟩) ps.length c ∧ ps.length ≤ c ∧ ∀ i p, ps[i]? = some p → w.cell? ⟨b, off + i * 2, none⟩ = some (.int .i64 p.1) ∧ w.cell? ⟨b, off + i * 2 + 1, none⟩ = some (.int .i64 p.2)
theorem EntC.mono {w w' : World} {b off : Nat} {e : Int × Bool × Int × Int} (h : EntC w b off e) (hb : Below w.heap.size w w') : EntC w' b off e := by
  obtain ⟨h1, h2, h3, h4, h5, h6⟩ := h
  exact ⟨(hb.cell (World.block_lt_of_cell? w _ h1)).trans h1, (hb.cell (World.block_lt_of_cell? w _ h2)).trans h2, (hb.cell (World.block_lt_of_cell? w _ h3)).trans h3, (hb.cell (World.block_lt_of_cell? w _ h4)).trans h4, (hb.cell (World.block_lt_of_cell? w _ h5)).trans h5, (hb.cell (World.block_lt_of_cell? w _ h6)).trans h6⟩
theorem LogAt.mono {w w' : World} {u : Value} {es : List (Int × Bool × Int × Int)} (h : LogAt w u es) (hb : Below w.heap.size w w') : LogAt w' u es := by
  obtain ⟨b, c, h1, h2, h3⟩ := h
  exact ⟨b, c, h1, h2, fun i e hi => (h3 i e hi).mono hb⟩
theorem LogsAt.mono {w w' : World} {v : Value} {ls : List (List (Int × Bool × Int × Int))} (h : LogsAt w v ls) (hb : Below w.heap.size w w') : LogsAt w' v ls := by
  obtain ⟨b, c, h1, h2, h3⟩ := h
  refine ⟨b, c, h1, h2, fun i es hi => ?_⟩
  obtain ⟨u, k1, k2⟩ := h3 i es hi
  exact ⟨u, (hb.cell (World.block_lt_of_cell? w _ k1)).trans k1, k2.mono hb⟩
def L1 : List (List (Int × Bool × Int × Int)) := [[(1, false, 1, 1)], [(1, false, 2, 1), (1, true, 0, 0)]]
def L2 : List (List (Int × Bool × Int × Int)) := [[(1, false, 1, 1), (1, true, 0, 0)], [(1, false, 2, 1), (1, true, 0, 0)]]
def e1 : Array Value := #[.int .i64 1, .bool false, .int .i64 1, .int .i64 1, .slice none 0 0, .slice none 0 0]
def e2 : Array Value := #[.int .i64 1, .bool false, .int .i64 2, .int .i64 1, .slice none 0 0, .slice none 0 0, .int .i64 1, .bool true, .int .i64 0, .int .i64 0, .slice none 0 0, .slice none 0 0]
def W1of (w : World) : World := ((((w.alloc (.cells #[.int .i64 1, .int .i64 1, .slice none 0 0, .slice none 0 0] 32)).alloc (.cells #[.int .i64 2, .int .i64 1, .slice none 0 0, .slice none 0 0] 32)).alloc (.cells e1 37)).alloc (.cells e2 37)).alloc
  (.cells #[.slice (some ⟨w.heap.size + 1 + 1, 0, none⟩) 1 1, .slice (some ⟨w.heap.size + 1 + 1 + 1, 0, none⟩) 2 2] 35)
theorem W1_size (w : World) : (W1of w).heap.size = w.heap.size + 1 + 1 + 1 + 1 + 1 := by simp [W1of]
theorem W1_o (w : World) : (W1of w).heap[w.heap.size + 1 + 1 + 1 + 1]? = some (.cells #[.slice (some ⟨w.heap.size + 1 + 1, 0, none⟩) 1 1, .slice (some ⟨w.heap.size + 1 + 1 + 1, 0, none⟩) 2 2] 35 (0, 0)) := by
  unfold W1of
  have h := heap_alloc_new ((((w.alloc (.cells #[.int .i64 1, .int .i64 1, .slice none 0 0, .slice none 0 0] 32)).alloc (.cells #[.int .i64 2, .int .i64 1, .slice none 0 0, .slice none 0 0] 32)).alloc (.cells e1 37)).alloc (.cells e2 37)) (.cells #[.slice (some ⟨w.heap.size + 1 + 1, 0, none⟩) 1 1, .slice (some ⟨w.heap.size + 1 + 1 + 1, 0, none⟩) 2 2] 35)
  simpa using h
theorem W1_2 (w : World) : (W1of w).heap[w.heap.size + 1 + 1 + 1]? = some (.cells e2 37 (0, 0)) := by
  unfold W1of
  rw [heap_alloc_old _ _ (by simp)]
  have h := heap_alloc_new (((w.alloc (.cells #[.int .i64 1, .int .i64 1, .slice none 0 0, .slice none 0 0] 32)).alloc (.cells #[.int .i64 2, .int .i64 1, .slice none 0 0, .slice none 0 0] 32)).alloc (.cells e1 37)) (.cells e2 37)
  simpa using h
theorem W1_1 (w : World) : (W1of w).heap[w.heap.size + 1 + 1]? = some (.cells e1 37 (0, 0)) := by
  unfold W1of
  rw [heap_alloc_old _ _ (by simp), heap_alloc_old _ _ (by simp)]
  have h := heap_alloc_new ((w.alloc (.cells #[.int .i64 1, .int .i64 1, .slice none 0 0, .slice none 0 0] 32)).alloc (.cells #[.int .i64 2, .int .i64 1, .slice none 0 0, .slice none 0 0] 32)) (.cells e1 37)
  simpa using h
theorem log_1 {w : World} {b : Nat} (h : w.heap[b]? = some (.cells e1 37 (0, 0))) : LogAt w (.slice (some ⟨b, 0, none⟩) 1 1) [(1, false, 1, 1)] := by
  refine ⟨b, 1, rfl, by decide, fun i e hi => ?_⟩
  match i, hi with
  | 0, hi => cases hi; simp [EntC, World.cell?, h, e1]
theorem log_2 {w : World} {b : Nat} (h : w.heap[b]? = some (.cells e2 37 (0, 0))) : LogAt w (.slice (some ⟨b, 0, none⟩) 2 2) [(1, false, 2, 1), (1, true, 0, 0)] := by
  refine ⟨b, 2, rfl, by decide, fun i e hi => ?_⟩
  match i, hi with
  | 0, hi => cases hi; simp [EntC, World.cell?, h, e2]
  | 1, hi => cases hi; simp [EntC, World.cell?, h, e2]
theorem logs_1 {w : World} {b b1 b2 : Nat} (h : w.heap[b]? = some (.cells #[.slice (some ⟨b1, 0, none⟩) 1 1, .slice (some ⟨b2, 0, none⟩) 2 2] 35 (0, 0))) (h1 : w.heap[b1]? = some (.cells e1 37 (0, 0))) (h2 : w.heap[b2]? = some (.cells e2 37 (0, 0))) : LogsAt w (.slice (some ⟨b, 0, none⟩) 2 2) L1 := by
  refine ⟨b, 2, rfl, by decide, fun i es hi => ?_⟩
  match i, hi with
  | 0, hi => cases hi; exact ⟨_, by simp [World.cell?, h], log_1 h1⟩
  | 1, hi => cases hi; exact ⟨_, by simp [World.cell?, h], log_2 h2⟩
theorem wpList_app_run {P : Program} (w : World) {ops : Array Oper} {rest : List Oper} {o : Oper} {a : Act} {Q : Exit → Act → World → Prop} (hgd : o.guard = none) (d s : Operand) (t t' : TypeId)
    (ho : o.op = .call { callee := .builtin .append, args := #[d, s], argTypes := #[t, t'] }) (v u : Value) (hd : a.eval d = v) (hs : a.eval s = u) {v' : Value} {w' : World}
    (hr : (Builtin.append_ #[t, t'] o.type #[v, u]).run P w = .ok v' w') (h : wpList P ops Q rest (a.put o.dst v') w') : wpList P ops Q (o :: rest) a w :=
  wpList_plain hgd fun _ hK => by
    unfold Oper.wp execOp
    simp only [ho, resolve, invoke, builtin, Sem.run_bind, Sem.run_pure, Result.andThen_ok, List.map_toArray, List.map_cons, List.map_nil, hd, hs, hr]
    exact hK _ _ h
def sl : List Value := [.int .i64 1, .bool true, .int .i64 0, .int .i64 0, .slice none 0 0, .slice none 0 0]
theorem cells_of {w w1 : World} {b n : Nat} {cs : List Value} {el : TypeId} (hb : w.heap[b]? = some (.cells cs.toArray el (0, 0))) (hn : cs.length = n * 6) (hh : w1.heap = w.heap) : (Builtin.firstCells 6 n (.slice (some ⟨b, 0, none⟩) n n)).run Try.prog w1 = .ok cs.toArray w1 := by
  have hl := run_loadCells_list (P := Try.prog) w1 ⟨b, 0, none⟩ cs (fun j v hj => by
    rw [Addr.add_lit]
    simp only [World.cell?, hh, hb, Nat.zero_add]
    simpa using hj)
  rw [hn] at hl
  simpa [Builtin.firstCells] using hl
theorem zero37 (w : World) : (zeroValue 37).run Try.prog w = .ok (.agg #[.int .i64 0, .bool false, .int .i64 0, .int .i64 0, .slice none 0 0, .slice none 0 0]) w := by
  have hi : (Try.prog.info? 37).map (fun i => i.zero) = some (some (.agg #[.int .i64 0, .bool false, .int .i64 0, .int .i64 0, .slice none 0 0, .slice none 0 0])) := by kernel_rfl
  cases hq : Try.prog.info? 37 with
  | none => rw [hq] at hi; cases hi
  | some i =>
    rw [hq] at hi
    have hz : i.zero = some (.agg #[.int .i64 0, .bool false, .int .i64 0, .int .i64 0, .slice none 0 0, .slice none 0 0]) := Option.some.inj hi
    simp [zeroValue, typeInfo, hq, hz]
/-- The append to logs[0]: there is no room. -/
theorem app_seal {w : World} {b1 : Nat} (h1 : w.heap[b1]? = some (.cells e1 37 (0, 0))) : ∃ (c : Nat) (rest : List Value) (w' : World), 2 ≤ c ∧ (Builtin.append_ #[35, 35] 35 #[.slice (some ⟨b1, 0, none⟩) 1 1, .slice (some ⟨w.heap.size, 0, none⟩) 1 1]).run Try.prog (w.alloc (.cells sl.toArray 37)) = .ok (.slice (some ⟨w.heap.size + 1, 0, none⟩) 2 c) w' ∧
    w'.heap = (w.alloc (.cells sl.toArray 37)).heap.push (.cells (e1.toList ++ sl ++ rest).toArray 37 (0, 0)) ∧ Vam.WSame (w.alloc (.cells sl.toArray 37)) w' := by
  have hlt : b1 < w.heap.size := by
    rcases Nat.lt_or_ge b1 w.heap.size with h | h
    · exact h
    · rw [Array.getElem?_eq_none h] at h1; cases h1
  obtain ⟨c, rest, w', g1, g2, g3, g4, g5⟩ := Vam.append_grow (P := Try.prog) (w := w.alloc (.cells sl.toArray 37)) (t := 35) (ty := 35) (e := 37) (s := 6) (b := 80) (A := some ⟨b1, 0, none⟩) (len := 1) (cap := 1) (n := 1) (x := .slice (some ⟨w.heap.size, 0, none⟩) 1 1) (z := .agg #[.int .i64 0, .bool false, .int .i64 0, .int .i64 0, .slice none 0 0, .slice none 0 0]) (nv := sl) (ov := e1.toList) (by kernel_rfl) (by kernel_rfl) (by kernel_rfl) zero37 (by kernel_rfl) (fun w => rfl) (fun w1 hw => cells_of (el := 37) (heap_alloc_new w _) rfl hw) (fun w1 hw => cells_of (el := 37) ((heap_alloc_old w _ hlt).trans h1) rfl hw) (by decide) (by decide) (by decide) (by decide)
  exact ⟨c, rest, w', g1, by simpa using g3, g4, g5⟩
theorem log_3 {w : World} {b c : Nat} {rest : List Value} (hc : 2 ≤ c) (h : w.heap[b]? = some (.cells (e1.toList ++ sl ++ rest).toArray 37 (0, 0))) : LogAt w (.slice (some ⟨b, 0, none⟩) 2 c) [(1, false, 1, 1), (1, true, 0, 0)] := by
  refine ⟨b, c, rfl, hc, fun i e hi => ?_⟩
  match i, hi with
  | 0, hi => cases hi; simp [EntC, World.cell?, h, e1, sl]
  | 1, hi => cases hi; simp [EntC, World.cell?, h, e1, sl]
theorem logs_2 {w : World} {b b1 b2 c : Nat} {rest : List Value} (hc : 2 ≤ c) (h : w.heap[b]? = some (.cells #[.slice (some ⟨b1, 0, none⟩) 2 c, .slice (some ⟨b2, 0, none⟩) 2 2] 35 (0, 0))) (h1 : w.heap[b1]? = some (.cells (e1.toList ++ sl ++ rest).toArray 37 (0, 0))) (h2 : w.heap[b2]? = some (.cells e2 37 (0, 0))) : LogsAt w (.slice (some ⟨b, 0, none⟩) 2 2) L2 := by
  refine ⟨b, 2, rfl, by decide, fun i es hi => ?_⟩
  match i, hi with
  | 0, hi => cases hi; exact ⟨_, by simp [World.cell?, h], log_3 hc h1⟩
  | 1, hi => cases hi; exact ⟨_, by simp [World.cell?, h], log_2 h2⟩
theorem set_first {w : World} {b t : Nat} {x y : Value} (u : Value) (h : w.heap[b]? = some (.cells #[x, y] t (0, 0))) : (w.setCell ⟨b, 0, none⟩ u).heap[b]? = some (.cells #[u, y] t (0, 0)) := by
  simp [World.setCell, Array.getElem?_modify, h]
/-- What stands behind the store into logs[0]. -/
theorem after {w2 w3 : World} {b b1 b2 c : Nat} {rest : List Value} (hc : 2 ≤ c) (ho : w2.heap[b]? = some (.cells #[.slice (some ⟨b1, 0, none⟩) 1 1, .slice (some ⟨b2, 0, none⟩) 2 2] 35 (0, 0))) (h2 : w2.heap[b2]? = some (.cells e2 37 (0, 0))) (hne : b2 ≠ b)
    (hh : w3.heap = (w2.alloc (.cells sl.toArray 37)).heap.push (.cells (e1.toList ++ sl ++ rest).toArray 37 (0, 0))) (hw : Vam.WSame (w2.alloc (.cells sl.toArray 37)) w3) :
    w3.cell? ⟨b, 0, none⟩ = some (.slice (some ⟨b1, 0, none⟩) 1 1) ∧ w3.frozen? ⟨b, 0, none⟩ = false ∧ LogsAt (w3.setCell ⟨b, 0, none⟩ (.slice (some ⟨w2.heap.size + 1, 0, none⟩) 2 c)) (.slice (some ⟨b, 0, none⟩) 2 2) L2 ∧ (∀ B, B ≤ b → B ≤ w2.heap.size → Below B w2 (w3.setCell ⟨b, 0, none⟩ (.slice (some ⟨w2.heap.size + 1, 0, none⟩) 2 c))) ∧ ∀ k, k < w2.heap.size → k ≠ b → (w3.setCell ⟨b, 0, none⟩ (.slice (some ⟨w2.heap.size + 1, 0, none⟩) 2 c)).heap[k]? = w2.heap[k]? := by
  have lt : ∀ {k : Nat} {x : Obj}, w2.heap[k]? = some x → k < w2.heap.size := fun {k x} h => by
    rcases Nat.lt_or_ge k w2.heap.size with g | g
    · exact g
    · rw [Array.getElem?_eq_none g] at h; cases h
  have old : ∀ k, k < w2.heap.size → w3.heap[k]? = w2.heap[k]? := fun k hk => by
    rw [hh, Array.getElem?_push, if_neg (by simp; omega)]
    exact heap_alloc_old w2 _ hk
  have ho3 := (old b (lt ho)).trans ho
  have h23 := (old b2 (lt h2)).trans h2
  have hn : w3.heap[w2.heap.size + 1]? = some (.cells (e1.toList ++ sl ++ rest).toArray 37 (0, 0)) := by
    rw [hh, Array.getElem?_push, if_pos (by simp)]
  have hbn : w2.heap.size + 1 ≠ b := by have := lt ho; omega
  refine ⟨by simp [World.cell?, ho3], by simp [World.frozen?, ho3], logs_2 hc (set_first _ ho3) ((Below.heap_setCell _ _ _ _ hbn).trans hn) ((Below.heap_setCell _ _ _ _ hne).trans h23), fun B hB hB2 => ?_, fun k hk hkb => (Below.heap_setCell _ _ _ _ hkb).trans (old k hk)⟩
  have hb3 : Below B w2 w3 := ⟨hw.os, hw.tape, hw.output, Nat.le_trans (by simp) hw.size, fun k hk => old k (by omega)⟩
  exact hb3.setCell hB _
set_option maxHeartbeats 8000000 in
set_option maxRecDepth 100000 in
theorem begun_calls (PR : World → Value → Prop) (hPR : ∀ (w w' : World) (v : Value), PR w v → Below w.heap.size w w' → PR w' v)
    (hAll1 : ∀ (w : World) (v : Value), LogsAt w v L1 → Calls Try.prog 9 #[v] w fun e w' => ∃ b off c, e = .returned (.slice (some ⟨b, off, none⟩) 1 c) ∧ w'.cell? ⟨b, off + 1, none⟩ = some (.int .i64 1) ∧ Below w.heap.size w w')
    (hAll2 : ∀ (w : World) (v : Value), LogsAt w v L2 → Calls Try.prog 9 #[v] w fun e w' => ∃ b off c, e = .returned (.slice (some ⟨b, off, none⟩) 2 c) ∧ w'.cell? ⟨b, off + 6, none⟩ = some (.int .i64 1) ∧ PR w' (.slice (some ⟨b, off, none⟩) 2 c) ∧ Below w.heap.size w w')
    (hHead : ∀ (w : World) (v : Value), LogsAt w v L2 → Calls Try.prog 13 #[v] w fun e w' => e = .returned (.int .i64 0) ∧ Below w.heap.size w w')
    (hNil : ∀ (w : World), Calls Try.prog 13 #[.slice none 0 0] w fun e w' => e = .returned (.int .i64 (-1)) ∧ Below w.heap.size w w')
    (hF1 : ∀ (w : World) (v : Value), PR w v → Calls Try.prog 11 #[v, .int .i64 2, .int .i64 1] w fun e w' => e = .returned (.int .i64 2) ∧ Below w.heap.size w w')
    (hF2 : ∀ (w : World) (v : Value), PR w v → Calls Try.prog 11 #[v, .int .i64 2, .int .i64 2] w fun e w' => e = .returned (.int .i64 0) ∧ Below w.heap.size w w')
    (w : World) : Calls Try.prog 7 #[] w fun e w' => e = .returned (.bool true) ∧ Below w.heap.size w w' := by
  go_enter Try.func7, Try.ntmps7
  have hL := logs_1 (W1_o w) (W1_1 w) (W1_2 w)
  have hB1 : Below w.heap.size w (W1of w) := below_alloc (below_alloc (below_alloc (below_alloc (below_alloc (Below.refl _ _) _) _) _) _) _
  go_wp2_with (first | ((with_reducible refine gate_builtin (b := .append) (xs := #[.tmp 21, .tmp 23]) rfl ?_); at_builtin; refine wpList_app_run _ rfl (.tmp 21) (.tmp 23) 35 35 rfl _ _ rfl rfl k2 ?_) | ((with_reducible refine gate_callee (f := 9) rfl ?_); refine goesL_ (some 17) rfl rfl Try.func9 (by kernel_rfl) rfl #[.slice (some { block := w.heap.size + 1 + 1 + 1 + 1, off := 0 }) 2 2] rfl (by (try simp only [List.map_toArray, List.map_cons, List.map_nil]); first | done | rfl) ?_; refine (hAll1 (W1of w) _ hL).mono ?_; rintro e w2 ⟨pb, poff, pc, rfl, hp, hb⟩; refine ⟨_, rfl, ?_⟩; have ho := (hb.block _ (by rw [W1_size]; omega)).trans (W1_o w); have h1 := (hb.block _ (by rw [W1_size]; omega)).trans (W1_1 w); have h2 := (hb.block _ (by rw [W1_size]; omega)).trans (W1_2 w); have hB2 := hB1.trans (hb.mono hB1.size); have hs2 : w.heap.size + 1 + 1 + 1 + 1 + 1 ≤ w2.heap.size := (by rw [← W1_size]; exact hb.size); clear hb hL; have q0 : w2.cell? ⟨w.heap.size + 1 + 1 + 1 + 1, 0, none⟩ = some (.slice (some ⟨w.heap.size + 1 + 1, 0, none⟩) 1 1) := (by simp [World.cell?, ho]); have q1 : w2.frozen? ⟨w.heap.size + 1 + 1 + 1 + 1, 0, none⟩ = false := (by simp [World.frozen?, ho]); obtain ⟨c3, rest3, w3, k1, k2, k3, k4⟩ := app_seal h1; obtain ⟨q2, q3, hL2, hB3, hold⟩ := after k1 ho h2 (by omega) k3 k4))
  have hpl : pb < w2.heap.size := World.block_lt_of_cell? w2 _ hp
  refine (hAll2 _ _ hL2).mono ?_
  have hBa := hB3 w.heap.size (by omega) (by omega)
  have hp3 : (w3.setCell ⟨w.heap.size + 1 + 1 + 1 + 1, 0, none⟩ (.slice (some ⟨w2.heap.size + 1, 0, none⟩) 2 c3)).cell? ⟨pb, poff + 1, none⟩ = some (.int .i64 1) := by
    have hk := hold pb hpl (fun e => by
      subst e
      simp only [World.cell?, ho] at hp
      cases poff with
      | zero => simp at hp
      | succ q => simp at hp)
    unfold World.cell? at hp ⊢
    simp only [hk]
    exact hp
  generalize w3.setCell ⟨w.heap.size + 1 + 1 + 1 + 1, 0, none⟩ (.slice (some ⟨w2.heap.size + 1, 0, none⟩) 2 c3) = W4 at hp3 hBa hL2 ⊢
  rintro e w5 ⟨b5, off5, c5, rfl, hq5, hr5, hb5⟩
  have hp5 := (hb5.cell (World.block_lt_of_cell? W4 _ hp3)).trans hp3
  have hBb := hB2.trans (hBa.trans (hb5.mono (Nat.le_trans hB2.size hBa.size)))
  have hL5 : LogsAt w5 (.slice (some ⟨w.heap.size + 1 + 1 + 1 + 1, 0, none⟩) 2 2) L2 := hL2.mono hb5
  apply_assumption
  go_wp2_with (first | (go_at_call 13; refine (hHead _ _ hL5).mono ?_; rintro e w6 ⟨rfl, hb6⟩; have hc6 : Below w5.heap.size w5 w6 := hb6) | (go_at_call 13; refine (hNil _).mono ?_; rintro e w7 ⟨rfl, hb7⟩; have hc7 : Below w5.heap.size w5 w7 := hc6.trans (hb7.mono hc6.size)) | (go_at_call 11; refine (hF1 _ _ (hPR w5 _ _ hr5 hc7)).mono ?_; rintro e w8 ⟨rfl, hb8⟩; have hc8 : Below w5.heap.size w5 w8 := hc7.trans (hb8.mono hc7.size)) | (go_at_call 11; refine (hF2 _ _ (hPR w5 _ _ hr5 hc8)).mono ?_; rintro e w9 ⟨rfl, hb9⟩; have hc9 : Below w5.heap.size w5 w9 := hc8.trans (hb9.mono hc8.size)))
  go_ret
  exact ⟨rfl, hBb.trans (hc9.mono hBb.size)⟩
end Go.Proofs.Ytepaajbkmkclnaa.Mg
