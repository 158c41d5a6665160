/- Rows of logs, places: from memory to data and back. -/
import Derived.Test.YtepaajbkmkclnaaMgBegun
import Derived.Test.YtepaajbkmkclnaaVamCut
namespace Go.Proofs.Ytepaajbkmkclnaa.Mg
open Go Go.RowKit Vam
set_option linter.unusedVariables false
set_option linter.unusedSimpArgs false
def dE (e : Int × Bool × Int × Int) : List DV := [.val (.int .i64 e.1), .val (.bool e.2.1), .val (.int .i64 e.2.2.1), .val (.int .i64 e.2.2.2), .slc false none 4 [], .slc false none 3 []]
theorem kall_of {w : World} {b o : Nat} {u : Value} (h : w.cell? ⟨b, o, none⟩ = some u) : Kall w b o = some u := by
  obtain ⟨cs, el, fr, h1, h2⟩ := of_cellC h
  simp [Kall, h1, h2]
theorem of_kall {w : World} {b o : Nat} {u : Value} (h : Kall w b o = some u) : w.cell? ⟨b, o, none⟩ = some u := by
  unfold Kall at h
  cases hb : w.heap[b]? with
  | none => rw [hb] at h; cases h
  | some x =>
    rw [hb] at h
    cases x with
    | cells cs el fr => exact cell_ofC ⟨cs, el, fr, hb, h⟩
    | _ => cases h
theorem kall_le {w w' : World} (hb : Below w.heap.size w w') : (Kall w).le (Kall w') := fun b o u h => kall_of ((hb.cell (World.block_lt_of_cell? w _ (of_kall h))).trans (of_kall h))
theorem log_rep {w : World} {u : Value} {es : List (Int × Bool × Int × Int)} (h : LogAt w u es) : CRep (Kall w) u (.slc false none 6 (es.map dE)) := by
  obtain ⟨b, c, rfl, hc, hE⟩ := h
  have hl : es.length = (es.map dE).length := by simp
  have cell : ∀ i e j d, es[i]? = some e → (dE e)[j]? = some d → ∃ u, w.cell? ⟨b, i * 6 + j, none⟩ = some u ∧ CRep (Kall w) u d := fun i e j d hi hj => by
    obtain ⟨h1, h2, h3, h4, h5, h6⟩ := hE i e hi
    match j, hj with
    | 0, hj => cases hj; exact ⟨_, h1, .val rfl⟩
    | 1, hj => cases hj; exact ⟨_, h2, .val rfl⟩
    | 2, hj => cases hj; exact ⟨_, h3, .val rfl⟩
    | 3, hj => cases hj; exact ⟨_, h4, .val rfl⟩
    | 4, hj => cases hj; exact ⟨_, h5, .nil (by simp)⟩
    | 5, hj => cases hj; exact ⟨_, h6, .nil (by simp)⟩
    | j + 6, hj => simp [dE] at hj
  rw [hl] at hc ⊢
  refine .slc (b := b) (off := 0) (fun i j => (w.cell? ⟨b, i * 6 + j, none⟩).getD .nilIface) (by simp) hc (fun ch hm => ?_) (fun i j ch d hi hj => ?_) (fun i j ch d hi hj => ?_)
  · obtain ⟨y, _, rfl⟩ := List.mem_map.1 hm; rfl
  · rw [List.getElem?_map] at hi
    cases hx : es[i]? with
    | none => rw [hx] at hi; cases hi
    | some e =>
      rw [hx] at hi
      cases hi
      obtain ⟨u, h1, h2⟩ := cell i e j d hx hj
      rw [h1]
      exact kall_of (by simpa using h1)
  · rw [List.getElem?_map] at hi
    cases hx : es[i]? with
    | none => rw [hx] at hi; cases hi
    | some e =>
      rw [hx] at hi
      cases hi
      obtain ⟨u, h1, h2⟩ := cell i e j d hx hj
      rw [h1]
      exact h2
theorem logs_rep {w : World} {v : Value} {ls : List (List (Int × Bool × Int × Int))} (h : LogsAt w v ls) : CRep (Kall w) v (.slc false none 1 (ls.map fun es => [.slc false none 6 (es.map dE)])) := by
  obtain ⟨b, c, rfl, hc, hE⟩ := h
  have hl : ls.length = (ls.map fun es => [DV.slc false none 6 (es.map dE)]).length := by simp
  rw [hl] at hc ⊢
  refine .slc (b := b) (off := 0) (fun i j => (w.cell? ⟨b, i, none⟩).getD .nilIface) (by simp) hc (fun ch hm => ?_) (fun i j ch d hi hj => ?_) (fun i j ch d hi hj => ?_)
  · obtain ⟨y, _, rfl⟩ := List.mem_map.1 hm; rfl
  · rw [List.getElem?_map] at hi
    cases hx : ls[i]? with
    | none => rw [hx] at hi; cases hi
    | some es =>
      rw [hx] at hi
      cases hi
      have hj0 : j = 0 := by
        cases j with
        | zero => rfl
        | succ j => simp at hj
      subst hj0
      obtain ⟨u, h1, h2⟩ := hE i es hx
      rw [h1]
      exact kall_of (by simpa using h1)
  · rw [List.getElem?_map] at hi
    cases hx : ls[i]? with
    | none => rw [hx] at hi; cases hi
    | some es =>
      rw [hx] at hi
      cases hi
      have hj0 : j = 0 := by
        cases j with
        | zero => rfl
        | succ j => simp at hj
      subst hj0
      obtain ⟨u, h1, h2⟩ := hE i es hx
      rw [h1]
      simp at hj
      subst hj
      exact log_rep h2
/-- The cells of a row that is not empty. -/
theorem row_cells {K : Kn} {w : World} (hK : ∀ b o u, K b o = some u → w.cell? ⟨b, o, none⟩ = some u) {v : Value} {sz : Nat} {es : List (List DV)} (hne : es ≠ []) (h : CRep K v (.slc false none sz es)) : ∃ b off c, v = .slice (some ⟨b, off, none⟩) es.length c ∧ ∀ i j ch d, es[i]? = some ch → ch[j]? = some d → ∃ u, w.cell? ⟨b, off + i * sz + j, none⟩ = some u ∧ CRep K u d := by
  cases h with
  | nil => exact absurd rfl hne
  | empty => exact absurd rfl hne
  | @slc _ _ _ b off c us g1 g2 g3 g4 g5 => exact ⟨b, off, c, rfl, fun i j ch d hi hj => ⟨us i j, hK _ _ _ (g4 i j ch d hi hj), g5 i j ch d hi hj⟩⟩
end Go.Proofs.Ytepaajbkmkclnaa.Mg
