/- zeros: over a map that holds no nought it counts none, in whatever order it goes through it. -/
import Derived.Test.YtknkeabmjleoiaaProg
import Derived.Tactics
import Derived.Tactics2
import Derived.StillTactics
import Derived.Below
import Derived.Scope
import Derived.FnLit
import Derived.LoopTactic
import Derived.LoopN
import Derived.Laws.IdiomRangeMap
import Derived.Maps.RangeRun
import Derived.Test.YtknkeabmjleoiaaVamCut
namespace Go.Proofs.Ytknkeabmjleoiaa.Mg
open Go Go.RowKit
set_option linter.unusedVariables false
set_option linter.unusedSimpArgs false
theorem find_some (b : Nat) : ∀ (l : List MapEntry) (e : MapEntry), e ∈ l → e.born = b → ∃ e', l.find? (·.born == b) = some e' ∧ e' ∈ l
  | [], e, he, _ => by cases he
  | x :: l, e, he, hb => by
    by_cases c : x.born = b
    · exact ⟨x, by rw [List.find?_cons, beq_iff_eq.2 c], by simp⟩
    · have he' : e ∈ l := by
        rcases List.mem_cons.1 he with g | g
        · subst g; exact absurd hb c
        · exact g
      obtain ⟨e', h1, h2⟩ := find_some b l e he' hb
      exact ⟨e', by rw [List.find?_cons, beq_eq_false_iff_ne.2 c]; exact h1, by simp [h2]⟩
theorem run_entry_some {P : Program} (w : World) (bm since : Nat) (seen : Array Nat) (es : Array MapEntry) (clock : Nat) (e : MapEntry) (hb : w.heap[bm]? = some (.map es clock)) (he : e ∈ es.toList) :
    ∃ e' ∈ es.toList, (Instr.entry (.pointer (some ⟨w.heap.size, 0, none⟩))).run P (w.alloc (.mapIter (some bm) since (seen.push e.born) clock)) = .ok (.tuple #[e'.key, e'.val]) (w.alloc (.mapIter (some bm) since (seen.push e.born) clock)) := by
  have hlt : bm < w.heap.size := by
    rcases Nat.lt_or_ge bm w.heap.size with h | h
    · exact h
    · simp [Array.getElem?_eq_none h] at hb
  have hb' : (w.alloc (.mapIter (some bm) since (seen.push e.born) clock)).heap[bm]? = some (.map es clock) := by rw [heap_alloc_old w _ hlt, hb]
  obtain ⟨e', h1, h2⟩ := find_some e.born es.toList e he rfl
  have hf : es.find? (·.born == e.born) = some e' := by rw [← Array.find?_toList]; exact h1
  refine ⟨e', h2, ?_⟩
  simp only [Instr.entry, getObj, Sem.run_bind, Sem.run, heap_alloc_new, hb', Result.andThen, Array.back?_push, bne_self_eq_false, Bool.false_eq_true, if_false, hf]
  rfl
def Alk (w' w : World) : Prop := w'.heap = w.heap ∧ w'.os = w.os ∧ w'.output = w.output ∧ w'.tape = w.tape
theorem next_alk {P : Program} (w : World) (ty : TypeId) (bm since c0 : Nat) (seen : Array Nat) (es : Array MapEntry) (clock : Nat) (hb : w.heap[bm]? = some (.map es clock)) (hold : ∀ x ∈ es.toList, x.born < since) (hsc : since ≤ c0) :
    ((leftOf es seen).size = 0 ∧ (Instr.next (.pointer (some ⟨w.heap.size, 0, none⟩)) false ty).run P (w.alloc (.mapIter (some bm) since seen c0)) = .ok (.tuple #[.bool false]) (w.alloc (.mapIter (some bm) since seen c0))) ∨
    ∃ e ∈ (leftOf es seen).toList, ∃ w1 : World, Alk w1 w ∧ (Instr.next (.pointer (some ⟨w.heap.size, 0, none⟩)) false ty).run P (w.alloc (.mapIter (some bm) since seen c0)) = .ok (.tuple #[.bool true, e.key, e.val]) (w1.alloc (.mapIter (some bm) since (seen.push e.born) clock)) := by
  have hlt : bm < w.heap.size := by
    rcases Nat.lt_or_ge bm w.heap.size with h | h
    · exact h
    · simp [Array.getElem?_eq_none h] at hb
  rcases run_next_at (P := P) (w.alloc (.mapIter (some bm) since seen c0)) ty w.heap.size bm since c0 seen es clock (heap_alloc_new _ _) (by rw [heap_alloc_old w _ hlt, hb]) hold hsc with h | ⟨e, he, w1, hw, hrun⟩
  · exact .inl h
  · right
    have hp : ∀ (h : Array Obj) (x y : Obj), (h.push x).setIfInBounds h.size y = h.push y := by
      intro h x y
      apply Array.toList_inj.1
      simp
    rcases hw with rfl | rfl
    · refine ⟨e, he, w, ⟨rfl, rfl, rfl, rfl⟩, ?_⟩
      rw [hrun]
      congr 1
      show ({ w.alloc (.mapIter (some bm) since seen c0) with heap := (w.heap.push (.mapIter (some bm) since seen c0)).setIfInBounds w.heap.size (.mapIter (some bm) since (seen.push e.born) clock) } : World) = _
      rw [hp]; rfl
    · refine ⟨e, he, w.drew, ⟨rfl, rfl, rfl, rfl⟩, ?_⟩
      rw [hrun]
      congr 1
      show ({ (w.alloc (.mapIter (some bm) since seen c0)).drew with heap := (w.heap.push (.mapIter (some bm) since seen c0)).setIfInBounds w.heap.size (.mapIter (some bm) since (seen.push e.born) clock) } : World) = _
      rw [hp]; rfl
set_option maxRecDepth 1000000 in
theorem zeros_calls (bm : Nat) (es : Array MapEntry) (clock : Nat) (w : World) (hb : w.heap[bm]? = some (.map es clock)) (hst : ∀ x ∈ es.toList, x.born < clock) (hv : ∀ x ∈ es.toList, ∃ v, x.val = .int .i64 v ∧ v ≠ 0) :
    Calls Try.prog 18 #[.map (some bm)] w fun e w' => e = .returned (.int .i64 0) ∧ ∃ (w1 : World) (seen : Array Nat), Alk w1 w ∧ w' = w1.alloc (.mapIter (some bm) clock seen clock) := by
  have hrg := run_range_map (P := Try.prog) w 40 9 3 bm es clock Try.underlying40 hb
  go_enter Try.func18, Try.ntmps18
  go_wp2
  go_loopw [3] (fun s w' => ∃ (w1 : World) (seen : Array Nat), Alk w1 w ∧ w' = w1.alloc (.mapIter (some bm) clock seen clock) ∧ s = .int .i64 0) (fun _ w' => (leftOf es (w'.iterSeen w.heap.size)).size)
  case atStart => exact ⟨w, #[], ⟨rfl, rfl, rfl, rfl⟩, rfl, rfl⟩
  case round =>
    obtain ⟨w1, seen, hal, rfl, rfl⟩ := hrel
    have hsz : w1.heap.size = w.heap.size := by rw [hal.1]
    have hb1 : w1.heap[bm]? = some (.map es clock) := by rw [hal.1]; exact hb
    have law := next_alk (P := Try.prog) w1 0 bm clock clock seen es clock hb1 hst (Nat.le_refl _)
    rw [hsz] at law
    rcases law with ⟨h0, hrun⟩ | ⟨e, he, w2, hal2, hrun⟩
    · have hnx : ∀ ty, (Instr.next (.pointer (some ⟨w.heap.size, 0, none⟩)) false ty).run Try.prog (w1.alloc (.mapIter (some bm) clock seen clock)) = _ := fun _ => hrun
      go_wp2
      go_ret
      exact ⟨rfl, w1, seen, hal, rfl⟩
    · have hnx : ∀ ty, (Instr.next (.pointer (some ⟨w.heap.size, 0, none⟩)) false ty).run Try.prog (w1.alloc (.mapIter (some bm) clock seen clock)) = _ := fun _ => hrun
      have hsz2 : w2.heap.size = w.heap.size := by rw [hal2.1, hal.1]
      have hb2 : w2.heap[bm]? = some (.map es clock) := by rw [hal2.1]; exact hb1
      obtain ⟨e', he', hen⟩ := run_entry_some (P := Try.prog) w2 bm clock seen es clock e hb2 (mem_left he).1
      obtain ⟨v, hval, hv0⟩ := hv e' he'
      rw [hsz2, hval] at hen
      have hc : (v == 0) = false := beq_eq_false_iff_ne.2 hv0
      go_wp2
      go_roundw
      case rel => exact ⟨w2, seen.push e.born, ⟨hal2.1.trans hal.1, hal2.2.1.trans hal.2.1, hal2.2.2.1.trans hal.2.2.1, hal2.2.2.2.trans hal.2.2.2⟩, rfl, rfl⟩
      case measure =>
        rw [← hsz2, World.iterSeen_alloc, hsz2, ← hsz, World.iterSeen_alloc]
        exact left_shrinks es seen e he
/-- As the machine by value asks for it. -/
theorem zeros_reads (es : List (Value × Value)) (hv : ∀ x ∈ es, ∃ v, x.2 = .int .i64 v ∧ v ≠ 0) (w : World) (b clk : Nat) (me : Array MapEntry) (hb : w.heap[b]? = some (.map me clk)) (he : me.toList.map (fun e => (e.key, e.val)) = es) (hst : ∀ e ∈ me.toList, e.born < clk) :
    Calls Try.prog 18 #[.map (some b)] w fun e w' => e = .returned (.int .i64 0) ∧ Vam.WSame w w' ∧ ∀ b, b < w.heap.size → w'.heap[b]? = w.heap[b]? := by
  refine (zeros_calls b me clk w hb hst fun x hx => ?_).mono fun e w' h => ?_
  · exact hv (x.key, x.val) (by rw [← he]; exact List.mem_map.2 ⟨x, hx, rfl⟩)
  · obtain ⟨rfl, w1, seen, ⟨a1, a2, a3, a4⟩, rfl⟩ := h
    refine ⟨rfl, ⟨a2, a4, a3, ?_⟩, fun k hk => ?_⟩
    · show w.heap.size ≤ (w1.heap.push _).size
      rw [a1, Array.size_push]; omega
    · rw [heap_alloc_old w1 _ (by rw [a1]; exact hk), a1]
end Go.Proofs.Ytknkeabmjleoiaa.Mg
