/- The machine by value and the model: a told function, called out of a walk in memory. -/
import Derived.Test.YtepaajbkmkclnaaVam2
namespace Go.Proofs.Ytepaajbkmkclnaa.Vam
open Go Go.RowKit
set_option linter.unusedVariables false
set_option linter.unusedSimpArgs false
theorem raw_calls {P : Program} {w : World} {f : FuncId} {ds : List DV} {r : DV} {vs : List Value} (hM : Meets P ⟨f, ds.map AV.data, []⟩ ⟨.data r, []⟩) (hn : ∀ fn, P.funcs[f]? = some fn → ds.length ≤ fn.ntmps) (hv : All2 (URep (Kall w)) vs ds) (hr : r.owned = false) :
    Calls P f vs.toArray w fun e w' => ∃ v K', e = .returned v ∧ URep K' v r ∧ (∀ b o u, K' b o = some u → w'.cell? ⟨b, o, none⟩ = some u) ∧ Below w.heap.size w w' := by
  obtain ⟨fn, hf, _, _, hM⟩ := hM
  have hv' : All2 (ARep1 (fun _ => none) (Kall w)) vs (ds.map AV.data) := hv.map_right AV.data fun a b h => h
  have hp : (ds.map AV.data).all AV.plain1 = true := by
    rw [List.all_map, List.all_eq_true]
    intro d hd
    obtain ⟨i, hi⟩ := List.getElem?_of_mem hd
    obtain ⟨v, _, hr⟩ := hv.get hi
    show (!d.owned) = true
    rw [urep_owned hr]; rfl
  have hent := (top0 w).enterQ (n := fn.ntmps) hv' hp (fun x hx i hi => by
    obtain ⟨d, _, rfl⟩ := List.mem_map.1 hx
    cases hi) (by simpa using hn fn hf)
  have hmap : (ds.map AV.data).map (AV.ren (idx [])) = ds.map AV.data := by rw [List.map_map]; rfl
  rw [hmap] at hent
  refine Calls.mono (hM _ _ _ _ _ vs w (by simpa using hv.length) hent) fun e w' he => ?_
  obtain ⟨v, m', K', who', rfl, g1, g2, g3⟩ := he
  obtain ⟨x, hx1, hx2⟩ := g1.tm 0
  simp only [entry, List.getD_cons_zero, List.cons.injEq, and_true] at hx1
  subst hx1
  refine ⟨v, K', rfl, DRep.unowned hx2 hr, fun b o u hu => ?_, ⟨g1.ws.os, g1.ws.tape, g1.ws.output, g1.ws.size, fun k hk => ?_⟩⟩
  · obtain ⟨_, cs, el, fr, h1, h2⟩ := g1.kv _ _ _ hu
    simp [World.cell?, h1, h2]
  · have := (g1.fr k hk).1
    have h1 : 2 * k % 2 = 0 := by omega
    simpa [h1] using this
theorem orep_kall {w : World} {K : Kn} {who : Who} {p : Pl} {c : Nat} {v : Value} {sz : Nat} {es : List (List DV)} (hK : K.le (Kall w)) (h : ORep w K who p c v (.slc true none sz es)) : CRep (Kall w) v (.slc false none sz es) := by
  cases h with
  | nil _ => exact .nil (by simp)
  | empty _ => exact .empty (by simp)
  | @slc _ _ _ b off cap h1 h2 h3 h4 h5 h6 =>
    obtain ⟨cs, el, fr, q1, q2, q3, q4⟩ := h6
    refine .slc (b := b) (off := off) (fun i j => (cs[off + i * sz + j]?).getD .nilIface) (by simp) h3 h4 (fun i j ch d hi hj => ?_) (fun i j ch d hi hj => ?_)
    · obtain ⟨u, hu, hr⟩ := q4 i j ch d hi hj
      simp [Kall, q1, hu]
    · obtain ⟨u, hu, hr⟩ := q4 i j ch d hi hj
      rw [hu]
      exact hr.mono hK
/-- The same, for a row that the callee hands out as its own. -/
theorem raw_callsO {P : Program} {w : World} {f : FuncId} {ds : List DV} {sz : Nat} {es : List (List DV)} {vs : List Value} (hM : Meets P ⟨f, ds.map AV.data, []⟩ ⟨.data (.slc true none sz es), []⟩) (hn : ∀ fn, P.funcs[f]? = some fn → ds.length ≤ fn.ntmps) (hv : All2 (URep (Kall w)) vs ds) :
    Calls P f vs.toArray w fun e w' => ∃ v, e = .returned v ∧ CRep (Kall w') v (.slc false none sz es) ∧ Below w.heap.size w w' := by
  obtain ⟨fn, hf, _, _, hM⟩ := hM
  have hv' : All2 (ARep1 (fun _ => none) (Kall w)) vs (ds.map AV.data) := hv.map_right AV.data fun a b h => h
  have hp : (ds.map AV.data).all AV.plain1 = true := by
    rw [List.all_map, List.all_eq_true]
    intro d hd
    obtain ⟨i, hi⟩ := List.getElem?_of_mem hd
    obtain ⟨v, _, hr⟩ := hv.get hi
    show (!d.owned) = true
    rw [urep_owned hr]; rfl
  have hent := (top0 w).enterQ (n := fn.ntmps) hv' hp (fun x hx i hi => by
    obtain ⟨d, _, rfl⟩ := List.mem_map.1 hx
    cases hi) (by simpa using hn fn hf)
  have hmap : (ds.map AV.data).map (AV.ren (idx [])) = ds.map AV.data := by rw [List.map_map]; rfl
  rw [hmap] at hent
  refine Calls.mono (hM _ _ _ _ _ vs w (by simpa using hv.length) hent) fun e w' he => ?_
  obtain ⟨v, m', K', who', rfl, g1, g2, g3⟩ := he
  obtain ⟨x, hx1, hx2⟩ := g1.tm 0
  simp only [entry, List.getD_cons_zero, List.cons.injEq, and_true] at hx1
  subst hx1
  refine ⟨v, rfl, orep_kall g1.kall (hx2.2 rfl), ⟨g1.ws.os, g1.ws.tape, g1.ws.output, g1.ws.size, fun k hk => ?_⟩⟩
  have := (g1.fr k hk).1
  have h1 : 2 * k % 2 = 0 := by omega
  simpa [h1] using this
/-- A function of no arguments that answers one thing. -/
theorem closed_meets {P : Program} {f : FuncId} {fn : Func} {b : Bool} (hfn : P.funcs[f]? = some fn) (hbody : fn.body.isNone = false) (hname : (fn.name == "runtime.NumGoroutine") = false) (hc : ∀ w : World, Calls P f #[] w fun e w' => e = .returned (.bool b) ∧ Below w.heap.size w w') :
    Meets P ⟨f, [], []⟩ ⟨.data (.val (.bool b)), []⟩ := by
  refine ⟨fn, hfn, hbody, hname, fun Fr H0 m K who vs w hl h => ?_⟩
  match vs, hl with
  | [], _ =>
  refine Calls.mono (hc w) fun e w' he => ?_
  obtain ⟨rfl, hB⟩ := he
  have hws : WSame w w' := ⟨hB.os, hB.tape, hB.output, hB.size⟩
  have hold : ∀ k, k < w.heap.size → w'.heap[k]? = w.heap[k]? := fun k hk => hB.block k hk
  refine ⟨_, fun _ => none, K, who, rfl, ?_, Kn.le.refl K, fun i b _ _ hm => by cases hm⟩
  refine ⟨rfl, rfl, fun t => ?_, fun t p k c n he => ?_, fun t p k c i j he => ?_, fun i hi => ?_, (fun i b hm => by cases hm), fun b o u hu => ?_, fun b x hb => Nat.lt_of_lt_of_le (h.wh b x hb) hws.size, fun b hb => ?_, h.ws.trans hws⟩
  · cases t with
    | zero => exact ⟨_, rfl, ⟨fun _ => .val rfl, fun e => by simp [DV.owned1] at e⟩⟩
    | succ t => exact ⟨.dead, by simp [entry], trivial⟩
  · cases t with
    | zero => simp [entry] at he
    | succ t => simp [entry] at he
  · cases t with
    | zero => simp [entry] at he
    | succ t => simp [entry] at he
  · simp only [entry] at hi
    split at hi
    · cases hi
    · simp at hi
  · obtain ⟨h1, cs, el, fr, h2, h3⟩ := h.kv _ _ _ hu
    refine ⟨h1, cs, el, fr, ?_, h3⟩
    rw [hold b ?_]
    · exact h2
    · rcases Nat.lt_or_ge b w.heap.size with g | g
      · exact g
      · rw [Array.getElem?_eq_none g] at h2; cases h2
  · obtain ⟨h1, h2, h3⟩ := h.fr b hb
    refine ⟨?_, h2, h3⟩
    rw [hold b ?_]
    · exact h1
    · rcases Nat.lt_or_ge b w.heap.size with g | g
      · exact g
      · rw [Array.getElem?_eq_none g] at h1; rw [← h1] at h2; cases h2
end Go.Proofs.Ytepaajbkmkclnaa.Vam
