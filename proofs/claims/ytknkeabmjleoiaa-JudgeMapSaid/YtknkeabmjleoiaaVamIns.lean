/- The machine by value and the model: slices.Insert into a row that is owned: what its code does in memory, and what that is by value. -/
import Derived.Test.YtknkeabmjleoiaaVam2
import Derived.Lib.AppendZerosOnto
import Derived.Lib.Overlaps
import Derived.Laws.IdiomCopy
namespace Go.Proofs.Ytknkeabmjleoiaa.Vam
open Go Go.RowKit
set_option linter.unusedVariables false
set_option linter.unusedSimpArgs false
/-- 'copy' of elements of several cells. -/
theorem run_copy_s {P : Program} (w : World) (dT sT ty elem : TypeId) (s b o dLen dCap : Nat) (a : Addr) (sLen sCap : Nat) (cs : List Value)
    (hu : P.underlying dT = some (.slice elem)) (hs : (P.info? elem).map (·.size) = some s) (hn : cs.length = Nat.min sLen dLen * s)
    (hsrc : ∀ j v, cs[j]? = some v → w.cell? (a.add j) = some v) (hc : ∀ j, j < cs.length → (w.cell? ⟨b, o + j, none⟩).isSome = true) (hf : ∀ j, j < cs.length → w.frozen? ⟨b, o + j, none⟩ = false) (h1 : ∀ v ∈ cs, v.oneCell' = true) :
    (Builtin.copy_ #[dT, sT] ty #[.slice (some ⟨b, o, none⟩) dLen dCap, .slice (some a) sLen sCap]).run P w = .ok (goInt (Nat.min sLen dLen)) (w.setCells b o cs) := by
  have hl := run_loadCells_list (P := P) w a cs hsrc
  have hst := run_storeCells_cells (P := P) b o cs 0 w (by simpa using hc) (by simpa using hf) h1
  cases hq : P.info? elem with
  | none => simp [hq] at hs
  | some i =>
    have hi : i.size = s := by simpa [hq] using hs
    simp [Builtin.copy_, run_underlying hu, Builtin.lenOf, Builtin.firstCells, sizeOf, typeInfo, hq, hi, ← hn, hl, hst]
/-- What slices.Insert leaves. -/
def InsPost (s b off n c i m : Nat) (cs vs : List Value) (arr : Array Value) (el : TypeId) (fr : Nat × Nat) (w : World) (e : Ending) (w' : World) : Prop :=
  (n + m ≤ c ∧ e = .returned (.slice (some ⟨b, off, none⟩) (n + m) c) ∧ (∀ b', b' ≠ b → w'.heap[b']? = w.heap[b']?) ∧ w'.heap.size = w.heap.size ∧ WSame w w' ∧
    ∃ arr' : Array Value, w'.heap[b]? = some (.cells arr' el fr) ∧ arr'.size = arr.size ∧ ∀ (k : Nat) (v : Value), (cs.take (i * s) ++ vs ++ cs.drop (i * s))[k]? = some v → arr'[off + k]? = some v) ∨
  (∃ (G : Nat) (row : Array Value) (el' : TypeId), e = .returned (.slice (some ⟨w.heap.size, 0, none⟩) (n + m) G) ∧ n + m ≤ G ∧ w'.heap = w.heap.push (.cells row el' (0, 0)) ∧ WSame w w' ∧ G * s ≤ row.size ∧
    ∀ (k : Nat) (v : Value), (cs.take (i * s) ++ vs ++ cs.drop (i * s))[k]? = some v → row[k]? = some v)
def InsWalk (P : Program) (f : FuncId) (s : Nat) : Prop :=
  ∀ (w : World) (b off n c i vb voff m vc : Nat) (cs vs : List Value) (arr : Array Value) (el : TypeId) (fr : Nat × Nat) (varr : Array Value) (vel : TypeId) (vfr : Nat × Nat),
    w.heap[b]? = some (.cells arr el fr) → (∀ j, j < arr.size + (s - 1) → (decide (fr.1 ≤ j) && decide (j < fr.2)) = false) → off + c * s ≤ arr.size → w.heap[vb]? = some (.cells varr vel vfr) → vb ≠ b →
    i < n → 0 < m → n ≤ c → n + m ≤ 4294967296 → cs.length = n * s → vs.length = m * s → (∀ k v, cs[k]? = some v → arr[off + k]? = some v) → (∀ k v, vs[k]? = some v → varr[voff + k]? = some v) →
    (∀ v ∈ cs, oneC v = true) → (∀ v ∈ vs, oneC v = true) →
    Calls P f #[.slice (some ⟨b, off, none⟩) n c, .int .i64 (i : Int), .slice (some ⟨vb, voff, none⟩) m vc] w (InsPost s b off n c i m cs vs arr el fr w)
def FlatR (K : Kn) (s : Nat) (nv : List Value) (es : List (List DV)) : Prop :=
  nv.length = es.length * s ∧ (∀ ch, ch ∈ es → ch.length = s) ∧ ∀ i j ch d, es[i]? = some ch → ch[j]? = some d → ∃ u, nv[i * s + j]? = some u ∧ CRep K u d
section
variable {K : Kn} {s : Nat}
theorem FlatR.lt {nv : List Value} {es : List (List DV)} (h : FlatR K s nv es) {i j : Nat} {ch : List DV} {d : DV} (hi : es[i]? = some ch) (hj : ch[j]? = some d) : i * s + j < nv.length ∧ j < s := by
  have h1 := (List.getElem?_eq_some_iff.1 hi).1
  have h2 := (List.getElem?_eq_some_iff.1 hj).1
  rw [h.2.1 ch (List.mem_of_getElem? hi)] at h2
  have h3 : (i + 1) * s ≤ es.length * s := Nat.mul_le_mul_right s (by omega)
  rw [Nat.add_mul, Nat.one_mul] at h3
  have := h.1
  exact ⟨by omega, h2⟩
theorem FlatR.append {a b : List Value} {x y : List (List DV)} (h : FlatR K s a x) (h' : FlatR K s b y) : FlatR K s (a ++ b) (x ++ y) := by
  refine ⟨by rw [List.length_append, List.length_append, h.1, h'.1, Nat.add_mul], fun ch hc => ?_, fun i j ch d hi hj => ?_⟩
  · rcases List.mem_append.1 hc with g | g
    · exact h.2.1 ch g
    · exact h'.2.1 ch g
  · rcases Nat.lt_or_ge i x.length with g | g
    · rw [List.getElem?_append_left g] at hi
      obtain ⟨u, hu, hr⟩ := h.2.2 i j ch d hi hj
      exact ⟨u, by rw [List.getElem?_append_left (h.lt hi hj).1]; exact hu, hr⟩
    · rw [List.getElem?_append_right g] at hi
      obtain ⟨u, hu, hr⟩ := h'.2.2 _ j ch d hi hj
      have e : i * s + j - a.length = (i - x.length) * s + j := by
        have : i * s = x.length * s + (i - x.length) * s := by rw [← Nat.add_mul]; congr 1; omega
        rw [h.1]; omega
      have hle : a.length ≤ i * s + j := by
        rw [h.1]
        have : x.length * s ≤ i * s := Nat.mul_le_mul_right s g
        omega
      exact ⟨u, by rw [List.getElem?_append_right hle, e]; exact hu, hr⟩
theorem FlatR.take {a : List Value} {x : List (List DV)} (h : FlatR K s a x) {n : Nat} (hn : n ≤ x.length) : FlatR K s (a.take (n * s)) (x.take n) := by
  have hl : n * s ≤ x.length * s := Nat.mul_le_mul_right s hn
  refine ⟨by rw [List.length_take, List.length_take, h.1, Nat.min_eq_left hl, Nat.min_eq_left hn], fun ch hc => h.2.1 ch (List.mem_of_mem_take hc), fun i j ch d hi hj => ?_⟩
  have hin : i < n := by
    have := (List.getElem?_eq_some_iff.1 hi).1
    simp at this; omega
  rw [List.getElem?_take, if_pos hin] at hi
  obtain ⟨u, hu, hr⟩ := h.2.2 i j ch d hi hj
  have h3 : (i + 1) * s ≤ n * s := Nat.mul_le_mul_right s (by omega)
  rw [Nat.add_mul, Nat.one_mul] at h3
  have := (h.lt hi hj).2
  exact ⟨u, by rw [List.getElem?_take, if_pos (by omega)]; exact hu, hr⟩
theorem FlatR.drop {a : List Value} {x : List (List DV)} (h : FlatR K s a x) {n : Nat} (hn : n ≤ x.length) : FlatR K s (a.drop (n * s)) (x.drop n) := by
  refine ⟨by rw [List.length_drop, List.length_drop, h.1, Nat.sub_mul], fun ch hc => h.2.1 ch (List.mem_of_mem_drop hc), fun i j ch d hi hj => ?_⟩
  rw [List.getElem?_drop] at hi
  obtain ⟨u, hu, hr⟩ := h.2.2 _ j ch d hi hj
  exact ⟨u, by rw [List.getElem?_drop, ← Nat.add_assoc, ← Nat.add_mul]; exact hu, hr⟩
/-- Elements in a row, as the list of their cells. -/
theorem flatR_of (hs : 0 < s) {es : List (List DV)} (hlen : ∀ ch, ch ∈ es → ch.length = s) {f : Nat → Option Value} (hf : ∀ i j ch d, es[i]? = some ch → ch[j]? = some d → ∃ u, f (i * s + j) = some u ∧ CRep K u d) :
    ∃ nv : List Value, FlatR K s nv es ∧ (∀ k v, nv[k]? = some v → f k = some v) ∧ ∀ v ∈ nv, oneC v = true := by
  obtain ⟨nv, h1, h2, h3⟩ := flat_cells hs hlen hf
  refine ⟨nv, ⟨h1, hlen, h3⟩, h2, fun v hv => ?_⟩
  obtain ⟨k, hk⟩ := List.getElem?_of_mem hv
  have hkl := (List.getElem?_eq_some_iff.1 hk).1
  have g1 : k / s < es.length := by rw [Nat.div_lt_iff_lt_mul hs]; omega
  have g2 : k % s < s := Nat.mod_lt _ hs
  have g3 := hlen es[k / s] (List.getElem_mem g1)
  obtain ⟨u, hu, hr⟩ := h3 (k / s) (k % s) es[k / s] (es[k / s][k % s]'(by omega)) (List.getElem?_eq_getElem g1) (List.getElem?_eq_getElem (by omega))
  rw [Nat.mul_comm, Nat.div_add_mod, hk] at hu
  cases hu
  exact hr.one.1
end
def insFn : Func := { name := "", origin := "", params := #[], resultTypes := #[], nfree := 0, ntmps := 0, results := #[.tmp 0], body := none, norace := false, tmpNames := #[] }
theorem ins_fin {P : Program} (s : Nat) (es : List (List DV)) (σ : St) : ∃ σ', Does (fun _ _ => False) (finPr P (fun _ => 1) insFn 0) (σ.put (.t 0) ⟨[.data (.slc true none s es)], true, 1⟩) ⟨.data (.slc true none s es), []⟩ σ' := by
  obtain ⟨a, σ', g', R, W, h1, h2⟩ := Pr.w_sound (C := fun _ _ => False) (finPr P (fun _ => 1) insFn 0) (σ := σ.put (.t 0) ⟨[.data (.slc true none s es)], true, 1⟩) (g := []) (R := []) (W := []) (k := fun a _ _ _ _ => a = ⟨.data (.slc true none s es), []⟩)
    (cast (show ((⟨.data (.slc true none s es), []⟩ : Answer) = ⟨.data (.slc true none s es), []⟩) = _ by kernel_rfl) rfl)
  subst h2
  exact ⟨σ', R, W, h1⟩
section
variable {P : Program} {f : FuncId} {fn : Func} {s : Nat}
/-- slices.Insert by value, but at the end. -/
theorem ins_meets (hfn : P.funcs[f]? = some fn) (hbody : fn.body.isNone = false) (hname : (fn.name == "runtime.NumGoroutine") = false) (hnt : 3 ≤ fn.ntmps) (hs : 0 < s) (hwalk : InsWalk P f s) {i : Int} {es vs : List (List DV)} (h0 : 0 ≤ i) (hi : i < es.length) (hv : vs ≠ []) (hlim : es.length + vs.length ≤ 4294967296) :
    Meets P ⟨f, [.data (.slc true none s es), iv i, .data (.slc false none s vs)], []⟩ ⟨.data (.slc true none s (es.take i.toNat ++ vs ++ es.drop i.toNat)), []⟩ := by
  obtain ⟨q, rfl⟩ : ∃ q : Nat, i = (q : Int) := ⟨i.toNat, by omega⟩
  rw [Int.toNat_natCast]
  refine ⟨fn, hfn, hbody, hname, fun Fr H0 m K who xs w hl h => ?_⟩
  match xs, hl with
  | [x0, x1, x2], _ =>
  obtain ⟨y0, e0, a0⟩ := h.tm 0
  obtain ⟨y1, e1, a1⟩ := h.tm 1
  obtain ⟨y2, e2, a2⟩ := h.tm 2
  have f0 : (enterAct fn.ntmps [x0, x1, x2]).tmps.getD 0 undef = x0 := enter_tmp 0
  have f1 : (enterAct fn.ntmps [x0, x1, x2]).tmps.getD 1 undef = x1 := enter_tmp 1
  have f2 : (enterAct fn.ntmps [x0, x1, x2]).tmps.getD 2 undef = x2 := enter_tmp 2
  rw [f0] at a0
  rw [f1] at a1
  rw [f2] at a2
  obtain rfl : y0 = .data (.slc true none s es) := by simpa [entry] using e0.symm
  obtain rfl : y1 = iv (q : Int) := by simpa [entry] using e1.symm
  obtain rfl : y2 = .data (.slc false none s vs) := by simpa [entry] using e2.symm
  have b0 : ORep w K who (.t 0) 0 x0 (.slc true none s es) := a0.2 rfl
  have b1 : CRep K x1 (.val (.int .i64 (q : Int))) := a1.1 rfl
  have b2 : CRep K x2 (.slc false none s vs) := a2.1 rfl
  have hes : es ≠ [] := fun e => by subst e; simp at hi; omega
  cases b1 with
  | val z1 =>
  cases b0 with
  | nil z2 => exact absurd rfl hes
  | empty z3 => exact absurd rfl hes
  | @slc _ _ _ b off c g1 g2 g3 g4 g5 g6 =>
  cases b2 with
  | nil z4 => exact absurd rfl hv
  | empty z5 => exact absurd rfl hv
  | @slc _ _ _ vb voff vc us k1 k2 k3 k4 k5 =>
  obtain ⟨arr, el, fr, p1, p2, p3, p4⟩ := g6
  obtain ⟨cs, q1, q2, q3⟩ := flatR_of (K := K) hs g4 (f := fun k => arr[off + k]?) fun i j ch d hi hj => by
    obtain ⟨u, hu, hr⟩ := p4 i j ch d hi hj
    exact ⟨u, by rw [← Nat.add_assoc]; exact hu, hr⟩
  have hvpos : 0 < vs.length := List.length_pos_iff.2 hv
  have hvk : ∃ v, K vb voff = some v := by
    have h1 := k3 vs[0] (List.getElem_mem hvpos)
    have := k4 0 0 vs[0] (vs[0][0]'(by omega)) (List.getElem?_eq_getElem hvpos) (List.getElem?_eq_getElem (by omega))
    exact ⟨_, by simpa using this⟩
  obtain ⟨v0, hv0⟩ := hvk
  obtain ⟨hvw, varr, vel, vfr, r1, r0⟩ := h.kv _ _ _ hv0
  have hne : vb ≠ b := fun e => by rw [e, g5] at hvw; cases hvw
  obtain ⟨vl, t1, t2, t3⟩ := flatR_of (K := K) hs k3 (f := fun k => varr[voff + k]?) fun i j ch d hi hj => by
    have hk := k4 i j ch d hi hj
    obtain ⟨_, varr', vel', vfr', r1', r2'⟩ := h.kv _ _ _ hk
    rw [r1] at r1'
    cases r1'
    exact ⟨_, by rw [← Nat.add_assoc]; exact r2', k5 i j ch d hi hj⟩
  have hq : q < es.length := by omega
  have hnew : FlatR K s (cs.take (q * s) ++ vl ++ cs.drop (q * s)) (es.take q ++ vs ++ es.drop q) := ((q1.take (by omega)).append t1).append (q1.drop (by omega))
  have hlen : (es.take q ++ vs ++ es.drop q).length = es.length + vs.length := by simp; omega
  refine Calls.mono (hwalk w b off es.length c q vb voff vs.length vc cs vl arr el fr varr vel vfr p1 p3 p2.1 r1 hne hq hvpos g3 hlim q1.1 t1.1 q2 t2 q3 t3) fun e w' he => ?_
  have done : ∀ (v : Value) (who' : Who), SRel fn.ntmps Fr H0 m K who' ((entry [.data (.slc true none s es), iv (q : Int), .data (.slc false none s vs)] []).put (.t 0) ⟨[.data (.slc true none s (es.take q ++ vs ++ es.drop q))], true, 1⟩)
      ((enterAct fn.ntmps [.slice (some ⟨b, off, none⟩) es.length c, .int .i64 (q : Int), .slice (some ⟨vb, voff, none⟩) vs.length vc]).put (some 0) v) w' →
      ∃ v' m' K' who'', Ending.returned v = .returned v' ∧ SRel 1 Fr H0 m' K' who'' (entry [.data (.slc true none s (es.take q ++ vs ++ es.drop q))] []) ⟨#[v'], []⟩ w' ∧ K.le K' ∧ ∀ i b, 1000 ≤ i → i < 1000 + ([] : List (List AV)).length → m' i = some b → m i = some b := by
    intro v who' g
    obtain ⟨σ', hd⟩ := ins_fin (P := P) s (es.take q ++ vs ++ es.drop q) (entry [.data (.slc true none s es), iv (q : Int), .data (.slc false none s vs)] [])
    obtain ⟨v', m', K', who'', z1, z2, z3, z4⟩ := fin_ok g hd
    have hv' : v' = v := by
      have hsz : (enterAct fn.ntmps [.slice (some ⟨b, off, none⟩) es.length c, .int .i64 (q : Int), .slice (some ⟨vb, voff, none⟩) vs.length vc]).tmps.size = fn.ntmps := h.nt
      have hsz0 : 0 < fn.ntmps := by omega
      have hg : (((enterAct fn.ntmps [.slice (some ⟨b, off, none⟩) es.length c, .int .i64 (q : Int), .slice (some ⟨vb, voff, none⟩) vs.length vc]).put (some 0) v).tmps.getD 0 undef) = v := by
        simp only [Act.put, Array.getD_eq_getD_getElem?]
        rw [Array.getElem?_setIfInBounds_self, if_pos (by omega)]; rfl
      have hr : ∀ (T : Array Value), (results insFn T).run P w' = .ok (T.getD 0 undef) w' := fun T => by
        exact results_run (P := P) (fn := insFn) (ts := [0]) rfl T w'
      rw [hr, hg] at z1
      cases z1; rfl
    subst hv'
    exact ⟨_, m', K', who'', rfl, z2, z3, z4⟩
  have hnt0 : 0 < fn.ntmps := by omega
  rcases he with ⟨hc, rfl, j1, j2, j3, arr', j4, j5, j6⟩ | ⟨G, row, el', rfl, hc, j1, j2, j3, j4⟩
  · refine done _ who (h.putMix hnt0 (fun x => x = b) (fun x hx => .inl ⟨0, by rw [hx]; exact g5⟩) (fun x hx _ => j1 x hx) (fun _ _ => rfl) (fun x y hx => by rw [j2]; exact h.wh x y hx) j3 ⟨fun e => by simp [DV.owned1] at e, fun _ => ?_⟩)
    have hrow : RowAt w' K b off c s (es.take q ++ vs ++ es.drop q) := ⟨arr', el, fr, j4, by omega, fun j hj => p3 j (by omega), fun i j ch d hi hj => by
      obtain ⟨u, hu, hr⟩ := hnew.2.2 i j ch d hi hj
      exact ⟨u, by rw [Nat.add_assoc]; exact j6 _ _ hu, hr⟩⟩
    have := ORep.slc (w := w') (K := K) (who := who) (p := .t 0) (c := 0) (nl := none) (by simp) hs (by omega) hnew.2.1 g5 hrow
    rw [hlen] at this
    exact this
  · refine done _ (fun x => if x = w.heap.size then some (.t 0, some 0) else who x) (h.putMix hnt0 (fun x => x = w.heap.size) (fun x hx => .inr (by omega)) (fun x hx hlt => by rw [j1, Array.getElem?_push, if_neg (by omega)]) (fun x hx => if_neg hx) (fun x y hx => by
      rw [j1, Array.size_push]
      split at hx
      · omega
      · have := h.wh x y hx; omega) j2 ⟨fun e => by simp [DV.owned1] at e, fun _ => ?_⟩)
    have hrow : RowAt w' K w.heap.size 0 G s (es.take q ++ vs ++ es.drop q) := ⟨row, el', (0, 0), by rw [j1]; simp, by omega, fun j hj => by simp, fun i j ch d hi hj => by
      obtain ⟨u, hu, hr⟩ := hnew.2.2 i j ch d hi hj
      exact ⟨u, by rw [Nat.zero_add]; exact j4 _ _ hu, hr⟩⟩
    have := ORep.slc (w := w') (K := K) (who := fun x => if x = w.heap.size then some (.t 0, some 0) else who x) (p := .t 0) (c := 0) (nl := none) (by simp) hs (by omega) hnew.2.1 (by simp) hrow
    rw [hlen] at this
    exact this
end
/-- slices.overlaps at two blocks, the second of which is a row of wide elements, without marks. -/
theorem run_overlaps_own {P : Program} (w : World) (tS tR e : TypeId) (ht : P.underlying tS = some (.slice e)) (size : Nat) (hz : ∀ w, (Go.sizeOf e).run P w = .ok size w)
    (a b : Addr) (la ca lb cb : Nat) (hne : a.block ≠ b.block) (tA tB : TypeId) (kA kB : Nat)
    (hsa : w.shape? a.block = some (tA, kA)) (hsb : w.shape? b.block = some (tB, kB)) (hkA : kA ≠ 0)
    (hfa : w.frozen? b = false) (hfe : w.frozen? { block := b.block, off := kB } = false) :
    (Extern.SlicesOverlaps.overlaps #[tS, tS] #[tR] #[.slice (some a) la ca, .slice (some b) lb cb]).run P w = .ok (.bool false) w := by
  have hnb : (a.block != b.block) = true := by simpa using hne
  have hnb' : (a.block == b.block) = false := by simpa using hne
  change Sem.run P (α := Value) (do
    let some t := (#[tS, tS] : Array TypeId)[0]? | stuck "slices.overlaps: no parameter types"
    let .slice elem ← underlying t | stuck "slices.overlaps: slice type expected"
    let size ← sizeOf elem
    match (some a : Option Addr), (some b : Option Addr) with
    | some a, some b =>
      if la = 0 ∨ lb = 0 ∨ size = 0 then pure (Value.bool false)
      else if a.block != b.block && (← frozen a) && (← frozen b) then unsupported .addressObserved
      else do
        if a.block != b.block then do
          noView a; noView b
          if ← mayBeOne a b then return Value.bool ((← choose (.extern "sameAddr.stringBytes" 2)) == 1)
        pure (Value.bool (a.block == b.block && a.off < b.off + lb * size && b.off < a.off + la * size))
    | _, _ => pure (Value.bool false)) w = _
  by_cases h0 : la = 0 ∨ lb = 0 ∨ size = 0
  · simp [run_underlying ht, hz, h0]
  · cases kA with
    | zero => exact absurd rfl hkA
    | succ kA =>
      cases hfq : w.frozen? a with
      | true => simp [run_underlying ht, hz, h0, hnb, hnb', frozen, noView, viewAt, mayBeOne, stringish, shape, Sem.run, hsa, hsb, hfa, hfe, hfq]
      | false =>
        cases hfz : w.frozen? { block := a.block, off := kA + 1 } <;> simp [run_underlying ht, hz, h0, hnb, hnb', frozen, noView, viewAt, mayBeOne, stringish, shape, Sem.run, hsa, hsb, hfa, hfe, hfq, hfz]
theorem setCells_heap (b : Nat) {el : TypeId} {fr : Nat × Nat} : ∀ (vs : List Value) (o : Nat) (w : World) (arr : Array Value), w.heap[b]? = some (.cells arr el fr) → o + vs.length ≤ arr.size →
    ∃ arr' : Array Value, (w.setCells b o vs).heap[b]? = some (.cells arr' el fr) ∧ arr'.size = arr.size ∧ (∀ k, k < o ∨ o + vs.length ≤ k → arr'[k]? = arr[k]?) ∧ (∀ (j : Nat) (v : Value), vs[j]? = some v → arr'[o + j]? = some v) ∧
      (∀ b', b' ≠ b → (w.setCells b o vs).heap[b']? = w.heap[b']?) ∧ (w.setCells b o vs).heap.size = w.heap.size ∧ WSame w (w.setCells b o vs)
  | [], o, w, arr, h, _ => ⟨arr, h, rfl, fun _ _ => rfl, fun j v hv => by simp at hv, fun _ _ => rfl, rfl, WSame.refl w⟩
  | v :: r, o, w, arr, h, hl => by
    have hb : b < w.heap.size := by
      rcases Nat.lt_or_ge b w.heap.size with g | g
      · exact g
      · rw [Array.getElem?_eq_none g] at h; cases h
    simp only [List.length_cons] at hl
    have h1 : (w.setCell ⟨b, o, none⟩ v).heap[b]? = some (.cells (arr.setIfInBounds o v) el fr) := by
      simp only [World.setCell, Array.getElem?_modify, if_true, h, Option.map_some]
      rfl
    obtain ⟨arr', q1, q2, q3, q4, q5, q6, q7⟩ := setCells_heap b r (o + 1) (w.setCell ⟨b, o, none⟩ v) _ h1 (by simp; omega)
    rw [World.setCells]
    refine ⟨arr', q1, by rw [q2]; simp, fun k hk => ?_, fun j u hu => ?_, fun b' hb' => ?_, by rw [q6]; simp [World.setCell], ?_⟩
    · simp only [List.length_cons] at hk
      rw [q3 k (by omega), Array.getElem?_setIfInBounds_ne (by omega)]
    · cases j with
      | zero =>
        simp at hu
        subst hu
        rw [Nat.add_zero, q3 o (.inl (by omega)), Array.getElem?_setIfInBounds_self, if_pos (by omega)]
      | succ j =>
        have := q4 j u (by simpa using hu)
        rw [← this]; congr 1; omega
    · rw [q5 b' hb']
      simp only [World.setCell, Array.getElem?_modify]
      rw [if_neg (by simpa using fun e => hb' e.symm)]
    · exact ⟨q7.os, q7.tape, q7.output, Nat.le_of_eq q6.symm |> fun h => by simpa [World.setCell] using h⟩
theorem drew_same (w : World) : WSame w w.drew := ⟨rfl, rfl, rfl, Nat.le_refl _⟩
theorem one_of {l : List Value} (h : ∀ v ∈ l, oneC v = true) : ∀ v ∈ l, v.oneCell' = true := fun v hv => by
  have := h v hv
  cases v <;> simp_all [oneC, Value.oneCell']
section
variable {P : Program} {f : FuncId} {s : Nat}
/-- Both roads of slices.Insert. -/
theorem ins_walk (hs : 2 ≤ s)
    (hshift : ∀ (b off n c i vb voff m vc : Nat) (cs vs : List Value) (w : World), i < n → 0 < m → n + m ≤ c → n + m ≤ 4294967296 → vb ≠ b → cs.length = n * s → vs.length = m * s →
      (∀ j v, cs[j]? = some v → w.cell? ⟨b, off + j, none⟩ = some v) → (∀ j, j < (n + m) * s → (w.cell? ⟨b, off + j, none⟩).isSome = true) → (∀ j, j < (n + m) * s → w.frozen? ⟨b, off + j, none⟩ = false) →
      (∀ j v, vs[j]? = some v → w.cell? ⟨vb, voff + j, none⟩ = some v) → (∀ v ∈ cs, v.oneCell' = true) → (∀ v ∈ vs, v.oneCell' = true) →
      ∀ (tA tB : TypeId) (kA kB : Nat), w.shape? vb = some (tA, kA) → w.shape? b = some (tB, kB) → kA ≠ 0 → w.frozen? ⟨b, kB, none⟩ = false →
      Calls P f #[.slice (some ⟨b, off, none⟩) n c, .int .i64 i, .slice (some ⟨vb, voff, none⟩) m vc] w fun e w' =>
        e = .returned (.slice (some ⟨b, off, none⟩) (n + m) c) ∧ w' = (w.drew.setCells b (off + (i + m) * s) (cs.drop (i * s))).setCells b (off + i * s) vs)
    (hgrow : ∀ (b off n c i vb voff m vc : Nat) (cs vs : List Value) (w : World), i < n → 0 < m → n ≤ c → c < n + m → n + m ≤ 4294967296 → cs.length = n * s → vs.length = m * s →
      (∀ j v, cs[j]? = some v → w.cell? ⟨b, off + j, none⟩ = some v) → (∀ j v, vs[j]? = some v → w.cell? ⟨vb, voff + j, none⟩ = some v) → (∀ v ∈ cs, v.oneCell' = true) → (∀ v ∈ vs, v.oneCell' = true) →
      Calls P f #[.slice (some ⟨b, off, none⟩) n c, .int .i64 i, .slice (some ⟨vb, voff, none⟩) m vc] w fun e w' =>
        ∃ (G : Nat) (ROW : Array Value) , n + m ≤ G ∧ ROW.size = G * s ∧ (∀ (k : Nat) (v : Value), (cs.take (i * s))[k]? = some v → ROW[k]? = some v) ∧ e = .returned (.slice (some ⟨w.heap.size, 0, none⟩) (n + m) G) ∧
          ∃ el, w' = ((((w.alloc (.cells ROW el)).drew.setCells w.heap.size (i * s) vs).drew).setCells w.heap.size ((i + m) * s) (cs.drop (i * s)))) : InsWalk P f s := by
  intro w b off n c i vb voff m vc cs vs arr el fr varr vel vfr p1 p3 p2 r1 hne hi hm hc hlim hcl hvl q2 t2 q3 t3
  have hcell : ∀ k, w.cell? ⟨b, k, none⟩ = arr[k]? := fun k => by simp [World.cell?, p1]
  have hvcell : ∀ k, w.cell? ⟨vb, k, none⟩ = varr[k]? := fun k => by simp [World.cell?, r1]
  have hfro : ∀ k, k < arr.size + (s - 1) → w.frozen? ⟨b, k, none⟩ = false := fun k hk => by simpa [World.frozen?, p1] using p3 k hk
  have hms : s ≤ m * s := Nat.le_mul_of_pos_left s hm
  have hcs : n * s ≤ c * s := Nat.mul_le_mul_right s hc
  have his : i * s ≤ n * s := Nat.mul_le_mul_right s (by omega)
  have htl : (cs.take (i * s)).length = i * s := by rw [List.length_take]; omega
  have hdl : (cs.drop (i * s)).length = n * s - i * s := by rw [List.length_drop, hcl]
  have eim : (i + m) * s = i * s + m * s := Nat.add_mul _ _ _
  have enm : (n + m) * s = n * s + m * s := Nat.add_mul _ _ _
  have hnewget : ∀ (k : Nat) (v : Value), (cs.take (i * s) ++ vs ++ cs.drop (i * s))[k]? = some v → (k < i * s ∧ (cs.take (i * s))[k]? = some v) ∨ (∃ j, k = i * s + j ∧ vs[j]? = some v) ∨ (∃ j, k = (i + m) * s + j ∧ (cs.drop (i * s))[j]? = some v) := by
    intro k v hk
    rcases Nat.lt_or_ge k (i * s) with g | g
    · rw [List.append_assoc, List.getElem?_append_left (by omega)] at hk
      exact .inl ⟨g, hk⟩
    · rcases Nat.lt_or_ge k ((i + m) * s) with g2 | g2
      · rw [List.append_assoc, List.getElem?_append_right (by omega), List.getElem?_append_left (by omega), htl] at hk
        exact .inr (.inl ⟨k - i * s, by omega, hk⟩)
      · rw [List.getElem?_append_right (by simp only [List.length_append]; omega)] at hk
        refine .inr (.inr ⟨k - (i + m) * s, by omega, ?_⟩)
        rw [← hk]; congr 1; simp only [List.length_append]; omega
  by_cases hroom : n + m ≤ c
  · have hroom' : (n + m) * s ≤ c * s := Nat.mul_le_mul_right s hroom
    have hvar : 0 < varr.size := by
      have hv0 : vs[0]? = some vs[0] := List.getElem?_eq_getElem (by omega)
      have := (Array.getElem?_eq_some_iff.1 (t2 0 _ hv0)).1
      omega
    refine Calls.mono (hshift b off n c i vb voff m vc cs vs w hi hm hroom hlim hne hcl hvl (fun j v h => by rw [hcell]; exact q2 j v h) (fun j hj => by rw [hcell, Array.getElem?_eq_getElem (by omega)]; rfl)
      (fun j hj => hfro _ (by omega)) (fun j v h => by rw [hvcell]; exact t2 j v h) (one_of q3) (one_of t3) vel el varr.size arr.size (by simp [World.shape?, r1]) (by simp [World.shape?, p1]) (by omega) (hfro _ (by omega))) fun e w' he => ?_
    obtain ⟨rfl, rfl⟩ := he
    obtain ⟨a1, x1, x2, x3, x4, x5, x6, x7⟩ := setCells_heap b (cs.drop (i * s)) (off + (i + m) * s) w.drew arr p1 (by omega)
    obtain ⟨a2, y1, y2, y3, y4, y5, y6, y7⟩ := setCells_heap b vs (off + i * s) (w.drew.setCells b (off + (i + m) * s) (cs.drop (i * s))) a1 x1 (by omega)
    refine .inl ⟨hroom, rfl, fun b' hb' => by rw [y5 b' hb', x5 b' hb']; rfl, by rw [y6, x6]; rfl, (drew_same w).trans (x7.trans y7), a2, y1, by rw [y2, x2], fun k v hk => ?_⟩
    rcases hnewget k v hk with ⟨g1, g2⟩ | ⟨j, rfl, g2⟩ | ⟨j, rfl, g2⟩
    · rw [y3 _ (by omega), x3 _ (by omega)]
      rw [List.getElem?_take, if_pos g1] at g2
      exact q2 k v g2
    · rw [← Nat.add_assoc]; exact y4 j v g2
    · rw [← Nat.add_assoc, y3 _ (by omega)]; exact x4 j v g2
  · refine Calls.mono (hgrow b off n c i vb voff m vc cs vs w hi hm hc (by omega) hlim hcl hvl (fun j v h => by rw [hcell]; exact q2 j v h) (fun j v h => by rw [hvcell]; exact t2 j v h) (one_of q3) (one_of t3)) fun e w' he => ?_
    obtain ⟨G, ROW, g1, g2, g3, rfl, el', rfl⟩ := he
    have hG : (n + m) * s ≤ G * s := Nat.mul_le_mul_right s g1
    have h0 : ((w.alloc (.cells ROW el')).drew).heap[w.heap.size]? = some (.cells ROW el' (0, 0)) := by
      show (w.heap.push _)[w.heap.size]? = _
      simp
    obtain ⟨a1, x1, x2, x3, x4, x5, x6, x7⟩ := setCells_heap w.heap.size vs (i * s) (w.alloc (.cells ROW el')).drew ROW h0 (by omega)
    obtain ⟨a2, y1, y2, y3, y4, y5, y6, y7⟩ := setCells_heap w.heap.size (cs.drop (i * s)) ((i + m) * s) (((w.alloc (.cells ROW el')).drew.setCells w.heap.size (i * s) vs).drew) a1 x1 (by omega)
    refine .inr ⟨G, a2, el', rfl, g1, ?_, ?_, by omega, fun k v hk => ?_⟩
    · apply Array.ext_getElem?
      intro k
      by_cases hk : k = w.heap.size
      · subst hk
        rw [y1]; simp
      · rw [y5 k hk]
        show ((w.alloc (.cells ROW el')).drew.setCells w.heap.size (i * s) vs).heap[k]? = _
        rw [x5 k hk]
        show (w.heap.push _)[k]? = _
        rw [Array.getElem?_push, Array.getElem?_push, if_neg hk, if_neg hk]
    · have z0 : WSame w (w.alloc (.cells ROW el')).drew := ⟨rfl, rfl, rfl, by show w.heap.size ≤ (w.heap.push _).size; simp⟩
      exact (z0.trans x7).trans ((drew_same _).trans y7)
    · rcases hnewget k v hk with ⟨k1, k2⟩ | ⟨j, rfl, k2⟩ | ⟨j, rfl, k2⟩
      · rw [y3 _ (by omega), x3 _ (by omega)]
        exact g3 k v k2
      · have hj := (List.getElem?_eq_some_iff.1 k2).1
        rw [y3 _ (by omega)]; exact x4 j v k2
      · exact y4 j v k2
end
theorem ins_meetsT {P : Program} {f : FuncId} {fn : Func} {sz : Nat} {α : Type} {e : α → List DV} (hfn : P.funcs[f]? = some fn) (hbody : fn.body.isNone = false) (hname : (fn.name == "runtime.NumGoroutine") = false) (hnt : decide (3 ≤ fn.ntmps) = true) (hs : decide (0 < sz) = true) (hwalk : InsWalk P f sz) {i : Int} {s v : List α}
    (h : decide (0 ≤ i ∧ i < (s.length : Int) ∧ 0 < v.length ∧ s.length + v.length ≤ 4294967296) = true) :
    Meets P ⟨f, [.data (.slc true none sz (s.map e)), iv i, .data (.slc false none sz (v.map e))], []⟩ ⟨.data (.slc true none sz ((s.take i.toNat ++ v ++ s.drop i.toNat).map e)), []⟩ := by
  obtain ⟨h1, h2, h3, h4⟩ := of_decide_eq_true h
  have := ins_meets hfn hbody hname (of_decide_eq_true hnt) (of_decide_eq_true hs) hwalk (es := s.map e) (vs := v.map e) h1 (by simpa using h2) (by intro h; rw [List.map_eq_nil_iff] at h; subst h; simp at h3) (by simpa using h4)
  simpa [List.map_append, List.map_take, List.map_drop] using this
end Go.Proofs.Ytknkeabmjleoiaa.Vam
