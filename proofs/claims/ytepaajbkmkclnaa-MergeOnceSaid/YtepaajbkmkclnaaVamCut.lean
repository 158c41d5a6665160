/- The machine by value and the model: a function that makes rows in rows out of entries (epoch.Cut): what its code does in memory, and what that is by value. -/
import Derived.Test.YtepaajbkmkclnaaVam2
namespace Go.Proofs.Ytepaajbkmkclnaa.Vam
open Go
set_option linter.unusedVariables false
set_option linter.unusedSimpArgs false
def EntR (w : World) (A : Option Addr) (xs : List Bool) : Prop :=
  ∀ i : Nat, i < xs.length → ∃ b off t0 t2 t3 A4 n4 c4 A5 n5 c5, A = some ⟨b, off, none⟩ ∧ w.cell? ⟨b, off + i * 6, none⟩ = some (.int .i64 t0) ∧ w.cell? ⟨b, off + i * 6 + 1, none⟩ = some (.bool (xs.getD i false)) ∧ w.cell? ⟨b, off + i * 6 + 2, none⟩ = some (.int .i64 t2) ∧
    w.cell? ⟨b, off + i * 6 + 3, none⟩ = some (.int .i64 t3) ∧ w.cell? ⟨b, off + i * 6 + 4, none⟩ = some (.slice A4 n4 c4) ∧ w.cell? ⟨b, off + i * 6 + 5, none⟩ = some (.slice A5 n5 c5)
/-- A row of numbers in new blocks. -/
def NRow (w : World) (base : Nat) (u : Value) (r : List Int) : Prop :=
  (r = [] ∧ u = .slice none 0 0) ∨ ∃ g c, u = .slice (some ⟨g, 0, none⟩) r.length c ∧ r.length ≤ c ∧ base ≤ g ∧ ∀ j x, r[j]? = some x → w.cell? ⟨g, j, none⟩ = some (.int .i64 x)
def NRows (w : World) (base : Nat) (v : Value) (rows : List (List Int)) : Prop :=
  ∃ g c, v = .slice (some ⟨g, 0, none⟩) rows.length c ∧ rows.length ≤ c ∧ base ≤ g ∧ ∀ i r, rows[i]? = some r → ∃ u, w.cell? ⟨g, i, none⟩ = some u ∧ NRow w base u r
def CutWalk (P : Program) (f : FuncId) (F : List Bool → List (List Int)) : Prop :=
  ∀ (w : World) (A : Option Addr) (c : Nat) (xs : List Bool), EntR w A xs → xs.length ≤ c → xs.length ≤ 100000 → Calls P f #[.slice A xs.length c] w fun e w' =>
    ∃ v, e = .returned v ∧ NRows w' w.heap.size v (F xs) ∧ (∀ k, k < w.heap.size → w'.heap[k]? = w.heap[k]?) ∧ WSame w w'
/-- What is known, and all cells of new blocks. -/
def Knew (K : Kn) (N : Nat) (w : World) : Kn := fun b o => match K b o with
  | some v => some v
  | none => bif decide (N ≤ b) then w.cell? ⟨b, o, none⟩ else none
theorem Knew.le (K : Kn) (N : Nat) (w : World) : K.le (Knew K N w) := fun b o v h => by simp [Knew, h]
theorem Knew.new {K : Kn} {N : Nat} {w : World} {b o : Nat} {v : Value} (hK : K b o = none) (hb : N ≤ b) (h : w.cell? ⟨b, o, none⟩ = some v) : Knew K N w b o = some v := by simp [Knew, hK, hb, h]
/-- Entries as cells: the second of six is whether it is a Seal. -/
def EntD (ch : List DV) (s : Bool) : Prop := ∃ t0 t2 t3 z4 e4 z5 e5, ch = [.val (.int .i64 t0), .val (.bool s), .val (.int .i64 t2), .val (.int .i64 t3), .slc false none z4 e4, .slc false none z5 e5]
theorem crep_slc {K : Kn} {u : Value} {nl : Option Bool} {z : Nat} {e : List (List DV)} (h : CRep K u (.slc false nl z e)) : ∃ A n c, u = .slice A n c := by
  cases h with
  | nil => exact ⟨_, _, _, rfl⟩
  | slc => exact ⟨_, _, _, rfl⟩
  | empty => exact ⟨_, _, _, rfl⟩
theorem crep_val {K : Kn} {u x : Value} (h : CRep K u (.val x)) : u = x := by
  cases h with
  | val => rfl
theorem cell_ofC {w : World} {b o : Nat} {v : Value} (h : ∃ cs el fr, w.heap[b]? = some (.cells cs el fr) ∧ cs[o]? = some v) : w.cell? ⟨b, o, none⟩ = some v := by
  obtain ⟨cs, el, fr, h1, h2⟩ := h
  simp [World.cell?, h1, h2]
theorem of_cellC {w : World} {b o : Nat} {v : Value} (h : w.cell? ⟨b, o, none⟩ = some v) : ∃ cs el fr, w.heap[b]? = some (.cells cs el fr) ∧ cs[o]? = some v := by
  unfold World.cell? at h
  cases hb : w.heap[b]? with
  | none => simp [hb] at h
  | some x =>
    cases x with
    | cells cs el fr => exact ⟨cs, el, fr, rfl, by simpa [hb] using h⟩
    | _ => simp [hb] at h
theorem nrow_rep {K : Kn} {N : Nat} {w : World} (hK : ∀ b o, N ≤ b → K b o = none) {u : Value} {r : List Int} (h : NRow w N u r) : CRep (Knew K N w) u (.slc false none 1 (r.map e_i64)) := by
  rcases h with ⟨rfl, rfl⟩ | ⟨g, c, rfl, hc, hg, hcell⟩
  · exact .nil (by simp)
  · cases r with
    | nil => exact .empty (by simp)
    | cons x r =>
      have hl : (x :: r).length = ((x :: r).map e_i64).length := by simp
      rw [hl] at hc ⊢
      refine .slc (b := g) (off := 0) (fun j _ => .int .i64 ((x :: r).getD j 0)) (by simp) hc (fun ch hm => ?_) (fun i j ch d hi hj => ?_) (fun i j ch d hi hj => ?_)
      · obtain ⟨y, _, rfl⟩ := List.mem_map.1 hm; rfl
      · rw [List.getElem?_map] at hi
        cases hx : (x :: r)[i]? with
        | none => rw [hx] at hi; cases hi
        | some y =>
          rw [hx] at hi
          cases hi
          have hj0 : j = 0 := by
            cases j with
            | zero => rfl
            | succ j => simp [e_i64] at hj
          subst hj0
          have := hcell i y hx
          rw [List.getD_eq_getElem?_getD, hx]
          exact Knew.new (hK _ _ hg) hg (by simpa using this)
      · rw [List.getElem?_map] at hi
        cases hx : (x :: r)[i]? with
        | none => rw [hx] at hi; cases hi
        | some y =>
          rw [hx] at hi
          cases hi
          have hj0 : j = 0 := by
            cases j with
            | zero => rfl
            | succ j => simp [e_i64] at hj
          subst hj0
          rw [List.getD_eq_getElem?_getD, hx]
          simp [e_i64] at hj
          subst hj
          exact .val rfl
theorem nrows_rep {K : Kn} {N : Nat} {w : World} (hK : ∀ b o, N ≤ b → K b o = none) {v : Value} {rows : List (List Int)} (hne : rows ≠ []) (h : NRows w N v rows) : CRep (Knew K N w) v (.slc false none 1 (rows.map (e_l 1 e_i64))) := by
  obtain ⟨g, c, rfl, hc, hg, hrow⟩ := h
  have hl : rows.length = (rows.map (e_l 1 e_i64)).length := by simp
  rw [hl] at hc ⊢
  have hcell : ∀ i r, rows[i]? = some r → ∃ u, w.cell? ⟨g, i, none⟩ = some u ∧ NRow w N u r := hrow
  refine .slc (b := g) (off := 0) (fun j _ => (w.cell? ⟨g, j, none⟩).getD .nilIface) (by simp) hc (fun ch hm => ?_) (fun i j ch d hi hj => ?_) (fun i j ch d hi hj => ?_)
  · obtain ⟨y, _, rfl⟩ := List.mem_map.1 hm; rfl
  · rw [List.getElem?_map] at hi
    cases hx : rows[i]? with
    | none => rw [hx] at hi; cases hi
    | some r =>
      rw [hx] at hi
      cases hi
      have hj0 : j = 0 := by
        cases j with
        | zero => rfl
        | succ j => simp [e_l] at hj
      subst hj0
      obtain ⟨u, h1, h2⟩ := hrow i r hx
      rw [h1]
      exact Knew.new (hK _ _ hg) hg (by simpa using h1)
  · rw [List.getElem?_map] at hi
    cases hx : rows[i]? with
    | none => rw [hx] at hi; cases hi
    | some r =>
      rw [hx] at hi
      cases hi
      have hj0 : j = 0 := by
        cases j with
        | zero => rfl
        | succ j => simp [e_l] at hj
      subst hj0
      obtain ⟨u, h1, h2⟩ := hrow i r hx
      rw [h1]
      simp [e_l] at hj
      subst hj
      exact nrow_rep hK h2
theorem cut_meets {P : Program} {f : FuncId} {fn : Func} {F : List Bool → List (List Int)} (hfn : P.funcs[f]? = some fn) (hbody : fn.body.isNone = false) (hname : (fn.name == "runtime.NumGoroutine") = false) (hwalk : CutWalk P f F) {es : List (List DV)} {xs : List Bool} (hx : xs.length = es.length) (hes : ∀ (i : Nat) ch, es[i]? = some ch → EntD ch (xs.getD i false)) (hne : F xs ≠ []) (hlim : xs.length ≤ 100000) :
    Meets P ⟨f, [.data (.slc false none 6 es)], []⟩ ⟨.data (.slc false none 1 ((F xs).map (e_l 1 e_i64))), []⟩ := by
  refine ⟨fn, hfn, hbody, hname, fun Fr H0 m K who vs w hl h => ?_⟩
  match vs, hl with
  | [x0], _ =>
  obtain ⟨y0, e0, a0⟩ := h.tm 0
  have f0 : (enterAct fn.ntmps [x0]).tmps.getD 0 undef = x0 := enter_tmp 0
  rw [f0] at a0
  obtain rfl : y0 = .data (.slc false none 6 es) := by simpa [entry] using e0.symm
  have b0 : CRep K x0 (.slc false none 6 es) := a0.1 rfl
  have hEnt : ∃ A c, x0 = .slice A xs.length c ∧ xs.length ≤ c ∧ EntR w A xs := by
    cases b0 with
    | nil => exact ⟨none, 0, by simp at hx; simp [hx], by simp at hx; simp [hx], fun i hi => by simp at hx; simp [hx] at hi⟩
    | @empty _ _ a c => exact ⟨some a, c, by simp at hx; simp [hx], by simp at hx; simp [hx], fun i hi => by simp at hx; simp [hx] at hi⟩
    | @slc _ _ _ b off c us g1 g2 g3 g4 g5 =>
      refine ⟨some ⟨b, off, none⟩, c, by rw [hx], by omega, fun i hi => ?_⟩
      have hie : es[i]? = some es[i] := List.getElem?_eq_getElem (by omega)
      obtain ⟨t0, t2, t3, z4, e4, z5, e5, hch⟩ := hes i _ hie
      have cellj : ∀ j d, es[i][j]? = some d → ∃ u, w.cell? ⟨b, off + i * 6 + j, none⟩ = some u ∧ CRep K u d := fun j d hj => ⟨us i j, cell_ofC (h.kv _ _ _ (g4 i j _ d hie hj)).2, g5 i j _ d hie hj⟩
      rw [hch] at cellj
      obtain ⟨u0, p0, r0⟩ := cellj 0 _ rfl
      obtain ⟨u1, p1, r1⟩ := cellj 1 _ rfl
      obtain ⟨u2, p2, r2⟩ := cellj 2 _ rfl
      obtain ⟨u3, p3, r3⟩ := cellj 3 _ rfl
      obtain ⟨u4, p4, r4⟩ := cellj 4 _ rfl
      obtain ⟨u5, p5, r5⟩ := cellj 5 _ rfl
      cases crep_val r0
      cases crep_val r1
      cases crep_val r2
      cases crep_val r3
      obtain ⟨A4, n4, c4, rfl⟩ := crep_slc r4
      obtain ⟨A5, n5, c5, rfl⟩ := crep_slc r5
      exact ⟨b, off, t0, t2, t3, A4, n4, c4, A5, n5, c5, rfl, p0, p1, p2, p3, p4, p5⟩
  obtain ⟨A, c, rfl, hc, hE⟩ := hEnt
  have hKn : ∀ b o, w.heap.size ≤ b → K b o = none := fun b o hb => by
    cases hk : K b o with
    | none => rfl
    | some v =>
      obtain ⟨_, cs, el, fr, h1, _⟩ := h.kv _ _ _ hk
      rw [Array.getElem?_eq_none hb] at h1
      cases h1
  refine Calls.mono (hwalk w A c xs hE hc hlim) fun e w' he => ?_
  obtain ⟨v, rfl, hN, hold, hws⟩ := he
  refine ⟨v, fun _ => none, Knew K w.heap.size w', who, rfl, ?_, Knew.le _ _ _, fun i b _ _ hm => by cases hm⟩
  have hrep := nrows_rep (K := K) hKn hne hN
  refine ⟨rfl, rfl, fun t => ?_, fun t p k c n he => ?_, fun t p k c i j he => ?_, fun i hi => ?_, (fun i b hm => by cases hm), fun b o u hu => ?_, fun b x hb => Nat.lt_of_lt_of_le (h.wh b x hb) hws.size, fun b hb => ?_, h.ws.trans hws⟩
  · cases t with
    | zero => exact ⟨_, rfl, ⟨fun _ => hrep, fun e => by simp [DV.owned1] at e⟩⟩
    | succ t => exact ⟨.dead, by simp [entry], trivial⟩
  · cases t with
    | zero => simp [entry] at he
    | succ t => simp [entry] at he
  · cases t with
    | zero => simp [entry] at he
    | succ t => simp [entry] at he
  · simp only [entry] at hi
    split at hi
    · cases hi
    · simp at hi
  · unfold Knew at hu
    cases hk : K b o with
    | some u' =>
      rw [hk] at hu
      cases hu
      obtain ⟨h1, cs, el, fr, h2, h3⟩ := h.kv _ _ _ hk
      refine ⟨h1, cs, el, fr, ?_, h3⟩
      rw [hold b ?_]
      · exact h2
      · rcases Nat.lt_or_ge b w.heap.size with g | g
        · exact g
        · rw [Array.getElem?_eq_none g] at h2; cases h2
    | none =>
      rw [hk] at hu
      cases hd : decide (w.heap.size ≤ b) with
      | false => simp [hd] at hu
      | true =>
        simp only [hd, cond_true] at hu
        have hb := of_decide_eq_true hd
        refine ⟨?_, of_cellC hu⟩
        cases hw : who b with
        | none => rfl
        | some x => have := h.wh b x hw; omega
  · obtain ⟨h1, h2, h3⟩ := h.fr b hb
    refine ⟨?_, h2, h3⟩
    rw [hold b ?_]
    · exact h1
    · rcases Nat.lt_or_ge b w.heap.size with g | g
      · exact g
      · rw [Array.getElem?_eq_none g] at h1; rw [← h1] at h2; cases h2
end Go.Proofs.Ytepaajbkmkclnaa.Vam
