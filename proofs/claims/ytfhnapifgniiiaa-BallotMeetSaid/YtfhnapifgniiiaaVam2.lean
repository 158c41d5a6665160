/- A machine by value for the program's code, and that it is true of the model: part 3 of 3. -/
import Derived.Test.YtfhnapifgniiiaaVam11
import Derived.ChangeArms
import Derived.OpenShut
import Derived.WideShapes
/- The machine by value and the model: what an argument reads as, as data. -/
namespace Go.Proofs.Ytfhnapifgniiiaa.Vam
open Go Go.RowKit Go.WideShapes
set_option linter.unusedVariables false
set_option linter.unusedSimpArgs false
/-- The shape of a cell. -/
inductive Sh where
  | ti (k : IntKind) | tb | ts | tl (es : List Sh)
/-- The shapes of a type's cells. -/
def shF (T : TypeId → Option (List Sh)) (P : Program) : Nat → List Field → Option (List Sh)
  | _, [] => some []
  | off, f :: fs => match T f.type with
    | some a => if f.offset = off ∧ P.cellsOf f.type = a.length then (shF T P (off + a.length) fs).map (a ++ ·) else none
    | none => none
def shT (P : Program) : Nat → TypeId → Option (List Sh)
  | 0, _ => none
  | n + 1, t => match P.underlying t with
    | some .bool => some [.tb]
    | some (.int k) => some [.ti k]
    | some .string => some [.ts]
    | some (.slice e) => match shT P n e with
      | some es => if P.cellsOf e = es.length ∧ 0 < es.length then some [.tl es] else none
      | none => none
    | some (.struct fs) => match shF (shT P n) P 0 fs.toList with
      | some es => if P.cellsOf t = es.length then some es else none
      | none => none
    | some (.array m e) => match shT P n e with
      | some es => if P.cellsOf e = es.length ∧ P.cellsOf t = m * es.length then some (List.replicate m es).flatten else none
      | none => none
    | _ => none
/-- Data of a shape. -/
inductive Fit : DV → Sh → Prop where
  | i {k : IntKind} {n : Int} : (Lit.int k n).wf = true → Fit (.val (.int k n)) (.ti k)
  | b {b : Bool} : Fit (.val (.bool b)) .tb
  | s {s : ByteArray} : s.size ≤ maxLen → Fit (.val (.string s)) .ts
  | l {es : List (List DV)} {shs : List Sh} : es.length ≤ maxLen → (∀ ch : List DV, ch ∈ es → ch.length = shs.length) → (∀ ch : List DV, ch ∈ es → ∀ (j : Nat) (d : DV) (q : Sh), ch[j]? = some d → shs[j]? = some q → Fit d q) → Fit (.slc false none shs.length es) (.tl shs)
abbrev FitL (ch : List DV) (shs : List Sh) : Prop := ch.length = shs.length ∧ ∀ (j : Nat) (d : DV) (q : Sh), ch[j]? = some d → shs[j]? = some q → Fit d q
/-- Cells that read as data of a shape. -/
def Opn (K : Kn) (cs : List Value) (shs : List Sh) : Prop := ∃ ds, All2 (CRep K) cs ds ∧ FitL ds shs
theorem FitL.append {a b : List DV} {s t : List Sh} (h : FitL a s) (h' : FitL b t) : FitL (a ++ b) (s ++ t) := by
  refine ⟨by simp [h.1, h'.1], fun j d x hd hx => ?_⟩
  rcases Nat.lt_or_ge j a.length with g | g
  · rw [List.getElem?_append_left g] at hd
    rw [List.getElem?_append_left (h.1 ▸ g)] at hx
    exact h.2 j d x hd hx
  · rw [List.getElem?_append_right g] at hd
    rw [List.getElem?_append_right (h.1 ▸ g), ← h.1] at hx
    exact h'.2 _ d x hd hx
theorem Opn.append {K : Kn} {a b : List Value} {s t : List Sh} (h : Opn K a s) (h' : Opn K b t) : Opn K (a ++ b) (s ++ t) := by
  obtain ⟨x, h1, h2⟩ := h
  obtain ⟨y, h3, h4⟩ := h'
  exact ⟨x ++ y, h1.append h3, h2.append h4⟩
theorem Opn.nil {K : Kn} : Opn K [] [] := ⟨[], .nil, rfl, fun j d s h _ => by simp at h⟩
theorem Opn.one {K : Kn} {v : Value} {d : DV} {q : Sh} (h : CRep K v d) (h' : Fit d q) : Opn K [v] [q] := by
  refine ⟨[d], .cons h .nil, rfl, fun j e x he hx => ?_⟩
  cases j with
  | zero => simp at he hx; subst he; subst hx; exact h'
  | succ j => simp at he
theorem exists_list {β : Type} (n : Nat) (Q : Nat → β → Prop) (h : ∀ i, i < n → ∃ b, Q i b) : ∃ l : List β, l.length = n ∧ ∀ i b, l[i]? = some b → Q i b := by
  induction n with
  | zero => exact ⟨[], rfl, fun i b hb => by simp at hb⟩
  | succ n ih =>
    obtain ⟨l, h1, h2⟩ := ih fun i hi => h i (by omega)
    obtain ⟨b, hb⟩ := h n (by omega)
    refine ⟨l ++ [b], by simp [h1], fun i c hc => ?_⟩
    rcases Nat.lt_or_ge i l.length with g | g
    · rw [List.getElem?_append_left g] at hc
      exact h2 i c hc
    · rw [List.getElem?_append_right g] at hc
      have : i = n := by
        have := (List.getElem?_eq_some_iff.1 hc).1
        simp at this
        omega
      subst this
      rw [show i - l.length = 0 by omega] at hc
      simp at hc
      exact hc ▸ hb
theorem cells_at {w : World} {base : Nat} {a : Addr} {n : Nat} {cs : List Value} (h : w.cells? base a n = some cs) : cs.length = n ∧ ∀ j v, cs[j]? = some v → w.cell? (a.add j) = some v := by
  unfold World.cells? at h
  split at h
  · have hl := mapM_some_length h
    refine ⟨by simpa using hl, fun j v hv => ?_⟩
    have hj := (List.getElem?_eq_some_iff.1 hv).1
    have := mapM_some_get h j j (by rw [List.getElem?_range (by simpa [hl] using hj)])
    rw [this, hv]
  · cases h
theorem add_add (a : Addr) (i j : Nat) : ((a.add i).add j).block = a.block ∧ ((a.add i).add j).off = a.off + i + j := by
  unfold Addr.add
  split <;> split <;> refine ⟨rfl, ?_⟩ <;> (try dsimp only) <;> omega
theorem kall_of_cell {w : World} {a : Addr} {v : Value} (h : w.cell? a = some v) : a.spot = none ∧ Kall w a.block a.off = some v := by
  unfold World.cell? at h
  unfold Kall
  split at h
  · split at h
    · cases h
    · rename_i h2
      refine ⟨by simpa using h2, ?_⟩
      rename_i c x y h1
      rw [h1]; exact h
  · cases h
section
variable {H : Type} {enc : TypeId × Value → H} {P : Program} {w : World} {base : Nat} {spare : Nat → Bool} {held : Bool}
theorem shF_ok {T : TypeId → Option (List Sh)} {n : Nat} {cs : List Value}
    (ih : ∀ t shs cs x, T t = some shs → DataW.trod enc P w base spare held n t cs = some x → Opn (Kall w) cs shs) :
    ∀ (fs : List Field) (off : Nat) (shs : List Sh), shF T P off fs = some shs → (∀ (f : Field), f ∈ fs → ∃ x, DataW.trod enc P w base spare held n f.type ((cs.drop f.offset).take (P.cellsOf f.type)) = some x) →
      Opn (Kall w) ((cs.drop off).take shs.length) shs
  | [], off, shs, h, _ => by
    simp only [shF, Option.some.injEq] at h
    subst h
    exact Opn.nil
  | f :: fs, off, shs, h, hf => by
    simp only [shF] at h
    cases ha : T f.type with
    | none => simp [ha] at h
    | some a =>
      simp only [ha] at h
      split at h
      · rename_i hc
        obtain ⟨r, hr, rfl⟩ := Option.map_eq_some_iff.1 h
        obtain ⟨x, hx⟩ := hf f (by simp)
        rw [hc.1, hc.2] at hx
        have h1 := ih _ _ _ _ ha hx
        have h2 := shF_ok ih fs (off + a.length) r hr fun g hg => hf g (by simp [hg])
        have e : (cs.drop off).take (a ++ r).length = (cs.drop off).take a.length ++ (cs.drop (off + a.length)).take r.length := by
          rw [List.length_append, List.take_add, List.drop_drop]
        rw [e]
        exact h1.append h2
      · cases h
theorem shA_ok {n m : Nat} {e : TypeId} {es : List Sh} (ih : ∀ cs x, DataW.trod enc P w base spare held n e cs = some x → Opn (Kall w) cs es) : ∀ (cs : List Value),
      (∀ i, i < m → ∃ x, DataW.trod enc P w base spare held n e ((cs.drop (i * es.length)).take es.length) = some x) → Opn (Kall w) (cs.take (m * es.length)) (List.replicate m es).flatten := by
  induction m with
  | zero => intro cs _; simpa using Opn.nil
  | succ m ihm =>
    intro cs h
    obtain ⟨x, hx⟩ := h 0 (by omega)
    have h1 := ih _ _ hx
    simp only [Nat.zero_mul, List.drop_zero] at h1
    have h2 := ihm (cs.drop es.length) fun i hi => by
      obtain ⟨y, hy⟩ := h (i + 1) (by omega)
      refine ⟨y, ?_⟩
      rw [List.drop_drop, show es.length + i * es.length = (i + 1) * es.length by rw [Nat.add_mul]; omega]
      exact hy
    have e1 : cs.take ((m + 1) * es.length) = cs.take es.length ++ (cs.drop es.length).take (m * es.length) := by
      rw [Nat.add_mul, Nat.one_mul, Nat.add_comm, List.take_add]
    rw [e1, List.replicate_succ, List.flatten_cons]
    exact h1.append h2
theorem trod_opn : ∀ (m : Nat) (t : TypeId) (shs : List Sh) (n : Nat) (cs : List Value) (x : DataW H × List MemPlace), shT P m t = some shs → DataW.trod enc P w base spare held n t cs = some x → Opn (Kall w) cs shs
  | 0, _, _, _, _, _, hs, _ => by simp [shT] at hs
  | m + 1, t, shs, n, cs, x, hs, h => by
    cases ht : P.underlying t with
    | none => simp [shT, ht] at hs
    | some d =>
      cases d with
      | bool =>
        simp only [shT, ht, Option.some.injEq] at hs
        subst hs
        obtain ⟨b, rfl, _⟩ := DataW.trod_bool ht h
        exact .one (.val rfl) .b
      | int k =>
        simp only [shT, ht, Option.some.injEq] at hs
        subst hs
        obtain ⟨b, rfl, _, hw⟩ := DataW.trod_int ht h
        exact .one (.val rfl) (.i hw)
      | string =>
        simp only [shT, ht, Option.some.injEq] at hs
        subst hs
        obtain ⟨b, rfl, _, hw⟩ := DataW.trod_string ht h
        exact .one (.val rfl) (.s hw)
      | slice e =>
        simp only [shT, ht] at hs
        cases he : shT P m e with
        | none => simp [he] at hs
        | some es =>
          simp only [he] at hs
          split at hs
          · rename_i hc
            simp only [Option.some.injEq] at hs
            subst hs
            rcases DataW.trod_slice ht h with ⟨rfl, _⟩ | ⟨a, len, cap, elems, rest, n', _, rfl, _, _, hl, hm, hlen, hel, _, _⟩
            · exact .one (d := .slc false none es.length []) (.nil (by simp)) (.l (by simp) (fun ch hch => by simp at hch) fun ch hch => by simp at hch)
            · have hE : ∀ i, i < len → ∃ c1, w.cells? base (a.add (i * es.length)) es.length = some c1 ∧ ∃ x, DataW.trod enc P w base spare held n' e c1 = some x := fun i hi => by
                have := hel i hi
                rw [hc.1] at this
                obtain ⟨y, hy⟩ : ∃ y, elems[i]? = some y := ⟨_, List.getElem?_eq_getElem (by omega)⟩
                rw [hy, Option.bind_eq_some_iff] at this
                obtain ⟨c1, h1, h2⟩ := this
                exact ⟨c1, h1, y, h2⟩
              obtain ⟨dss, hdl, hds⟩ := exists_list len (fun i ds => ∃ c1, w.cells? base (a.add (i * es.length)) es.length = some c1 ∧ All2 (CRep (Kall w)) c1 ds ∧ FitL ds es) fun i hi => by
                obtain ⟨c1, h1, y, h2⟩ := hE i hi
                obtain ⟨ds, h3, h4⟩ := trod_opn m e es n' c1 y he h2
                exact ⟨ds, c1, h1, h3, h4⟩
              have hfit : Fit (.slc false none es.length dss) (.tl es) := .l (by omega) (fun ch hch => by
                obtain ⟨i, hi⟩ := List.getElem?_of_mem hch
                obtain ⟨_, _, _, h4⟩ := hds i ch hi
                exact h4.1) fun ch hch => by
                obtain ⟨i, hi⟩ := List.getElem?_of_mem hch
                obtain ⟨_, _, _, h4⟩ := hds i ch hi
                exact h4.2
              refine .one ?_ hfit
              rcases Nat.eq_zero_or_pos len with h0 | h0
              · subst h0
                obtain rfl : dss = [] := List.length_eq_zero_iff.1 hdl
                exact .empty (by simp)
              · have hsp : a.spot = none := by
                  obtain ⟨c1, h1, _⟩ := hE 0 h0
                  obtain ⟨hcl, hcv⟩ := cells_at h1
                  obtain ⟨v, hv⟩ : ∃ v, c1[0]? = some v := ⟨_, List.getElem?_eq_getElem (by omega)⟩
                  have := (kall_of_cell (hcv 0 v hv)).1
                  simpa [Addr.add] using this
                have ea : a = ⟨a.block, a.off, none⟩ := by cases a; simp_all
                rw [ea, ← hdl]
                have key : ∀ i j ch d, dss[i]? = some ch → ch[j]? = some d → ∃ v, Kall w a.block (a.off + i * es.length + j) = some v ∧ CRep (Kall w) v d := fun i j ch d hi hj => by
                  obtain ⟨c1, h1, h3, h4⟩ := hds i ch hi
                  obtain ⟨hcl, hcv⟩ := cells_at h1
                  obtain ⟨v, hv, hr⟩ := h3.get hj
                  have := (kall_of_cell (hcv j v hv)).2
                  refine ⟨v, ?_, hr⟩
                  have eo := add_add a (i * es.length) j
                  rw [eo.1, eo.2] at this
                  exact this
                refine .slc (fun i j => (Kall w a.block (a.off + i * es.length + j)).getD undef) (by simp) (by omega) (fun ch hch => ?_) (fun i j ch d hi hj => ?_) (fun i j ch d hi hj => ?_)
                · obtain ⟨i, hi⟩ := List.getElem?_of_mem hch
                  obtain ⟨_, _, _, h4⟩ := hds i ch hi
                  exact h4.1
                · obtain ⟨v, hv, _⟩ := key i j ch d hi hj
                  rw [hv]; rfl
                · obtain ⟨v, hv, hr⟩ := key i j ch d hi hj
                  rw [hv]; exact hr
          · cases hs
      | struct fs =>
        simp only [shT, ht] at hs
        cases he : shF (shT P m) P 0 fs.toList with
        | none => simp [he] at hs
        | some es =>
          simp only [he] at hs
          split at hs
          · rename_i hc
            simp only [Option.some.injEq] at hs
            subst hs
            obtain ⟨xs, n', _, _, hl, hxs, hf⟩ := DataW.trod_struct ht h
            have := shF_ok (enc := enc) (P := P) (w := w) (base := base) (spare := spare) (held := held) (T := shT P m) (n := n') (cs := cs)
              (fun t shs cs x hs h => trod_opn m t shs n' cs x hs h) fs.toList 0 es he fun f hf' => by
                obtain ⟨i, hi⟩ := List.getElem?_of_mem hf'
                have hi' : fs[i]? = some f := by simpa using hi
                have := hf i f hi'
                have hb := (List.getElem?_eq_some_iff.1 hi).1
                have hb' : i < fs.size := by rw [← Array.length_toList]; exact hb
                obtain ⟨y, hy⟩ : ∃ y, xs[i]? = some y := ⟨_, List.getElem?_eq_getElem (by omega)⟩
                exact ⟨y, by rw [this, hy]⟩
            rw [List.drop_zero, ← hc, ← hl, List.take_length] at this
            exact this
          · cases hs
      | array k e =>
        simp only [shT, ht] at hs
        cases he : shT P m e with
        | none => simp [he] at hs
        | some es =>
          simp only [he] at hs
          split at hs
          · rename_i hc
            simp only [Option.some.injEq] at hs
            subst hs
            obtain ⟨xs, n', _, _, hl, hxs, hf⟩ := DataW.trod_array ht h
            have := shA_ok (enc := enc) (P := P) (w := w) (base := base) (spare := spare) (held := held) (m := k) (n := n') (e := e) (es := es) (fun cs x h => trod_opn m e es n' cs x he h) cs fun i hi => by
              have := hf i hi
              rw [hc.1] at this
              obtain ⟨y, hy⟩ : ∃ y, xs[i]? = some y := ⟨_, List.getElem?_eq_getElem (by omega)⟩
              exact ⟨y, by rw [this, hy]⟩
            rw [← hc.2, ← hl, List.take_length] at this
            exact this
          · cases hs
      | _ => simp [shT, ht] at hs
/-- An argument of one cell. -/
theorem open_cell {r : Reach} {b0 : Nat} {t : TypeId} {v : Value} {d : DataW H} {ps : List MemPlace} {m : Nat} {q : Sh} (ht : (match P.underlying t with | some (.int _) | some .bool | some .string | some (.slice _) => true | _ => false) = true)
    (hs : shT P m t = some [q]) (hval : Value.okWide P w r b0 t v) (hd : DataW.Trod enc P w base spare held t v d ps) : ∃ x, URep (Kall w) v x ∧ Fit x q := by
  obtain ⟨n, hd⟩ := hd
  have hv : v.cells = #[v] := by
    cases hu : P.underlying t with
    | none => simp [hu] at ht
    | some D =>
      cases D with
      | bool => obtain ⟨b, rfl⟩ := okWide_bool hu hval; rfl
      | int k => obtain ⟨b, rfl⟩ := okWide_int hu hval; rfl
      | string => obtain ⟨b, rfl⟩ := okWide_string hu hval; rfl
      | slice e => obtain ⟨a, b, c, rfl⟩ := okWide_slice hu hval; rfl
      | _ => simp [hu] at ht
  rw [hv] at hd
  obtain ⟨ds, h1, h2⟩ := trod_opn m t [q] n _ _ hs hd
  cases h1 with
  | cons h1 h1' =>
    cases h1'
    rename_i d1
    have h3 : Fit d1 q := h2.2 0 _ q rfl rfl
    refine ⟨d1, ?_, h3⟩
    cases h3 <;> exact h1
/-- An argument of several cells. -/
theorem open_agg {r : Reach} {b0 : Nat} {t : TypeId} {v : Value} {d : DataW H} {ps : List MemPlace} {m : Nat} {shs : List Sh} (ht : (match P.underlying t with | some (.struct _) | some (.array _ _) => true | _ => false) = true)
    (hs : shT P m t = some shs) (hval : Value.okWide P w r b0 t v) (hd : DataW.Trod enc P w base spare held t v d ps) : ∃ ds, URep (Kall w) v (.agg ds) ∧ FitL ds shs := by
  obtain ⟨n, hd⟩ := hd
  obtain ⟨cs, rfl⟩ : ∃ cs, v = .agg cs := by
    unfold Value.okWide at hval
    cases hu : P.underlying t with
    | none => simp [hu] at ht
    | some D =>
      cases D with
      | struct fs => rw [hu] at hval; obtain ⟨cs, rfl, _⟩ := hval; exact ⟨cs, rfl⟩
      | array k e => rw [hu] at hval; obtain ⟨cs, rfl, _⟩ := hval; exact ⟨cs, rfl⟩
      | _ => simp [hu] at ht
  obtain ⟨ds, h1, h2⟩ := trod_opn m t shs n _ _ hs hd
  exact ⟨ds, ⟨cs.toList, by simp, h1⟩, h2⟩
end
/-! Data of a shape, as plain data. -/
def okI (k : IntKind) (n : Int) : Prop := (Lit.int k n).wf = true
def okB (_ : Bool) : Prop := True
def okS (s : ByteArray) : Prop := s.size ≤ maxLen
def okL {α : Type} (ok : α → Prop) (l : List α) : Prop := l.length ≤ maxLen ∧ ∀ x ∈ l, ok x
theorem fit_i {k : IntKind} {d : DV} (h : Fit d (.ti k)) : ∃ n, d = .val (.int k n) ∧ okI k n := by cases h with | i h => exact ⟨_, rfl, h⟩
theorem fit_b {d : DV} (h : Fit d .tb) : ∃ b, d = .val (.bool b) ∧ okB b := by cases h with | b => exact ⟨_, rfl, trivial⟩
theorem fit_s {d : DV} (h : Fit d .ts) : ∃ s, d = .val (.string s) ∧ okS s := by cases h with | s h => exact ⟨_, rfl, h⟩
theorem fit_l {α : Type} {e : α → List DV} {ok : α → Prop} {shs : List Sh} {sz : Nat} (hsz : shs.length = sz) (he : ∀ ch, FitL ch shs → ∃ x, ch = e x ∧ ok x) {d : DV} (h : Fit d (.tl shs)) :
    ∃ l : List α, d = .slc false none sz (l.map e) ∧ okL ok l := by
  subst hsz
  cases h with
  | l h1 h2' h2'' =>
    have h2 : ∀ ch : List DV, ch ∈ _ → FitL ch shs := fun ch hc => ⟨h2' ch hc, h2'' ch hc⟩
    rename_i es
    obtain ⟨l, hl, hx⟩ := exists_list es.length (fun i (x : α) => es[i]? = some (e x) ∧ ok x) fun i hi => by
      obtain ⟨x, h3, h4⟩ := he _ (h2 es[i] (List.getElem_mem hi))
      exact ⟨x, by rw [List.getElem?_eq_getElem hi, h3], h4⟩
    refine ⟨l, ?_, by omega, fun x hm => ?_⟩
    · congr 1
      apply List.ext_getElem?
      intro i
      rw [List.getElem?_map]
      cases hli : l[i]? with
      | none => simp at hli ⊢; omega
      | some x => exact (hx i x hli).1
    · obtain ⟨i, hi⟩ := List.getElem?_of_mem hm
      exact (hx i x hi).2
theorem fitL_nil {ch : List DV} (h : FitL ch []) : ch = [] := List.length_eq_zero_iff.1 h.1
theorem fitL_cons {ch : List DV} {q : Sh} {shs : List Sh} (h : FitL ch (q :: shs)) : ∃ d r, ch = d :: r ∧ Fit d q ∧ FitL r shs := by
  cases ch with
  | nil => have := h.1; simp at this
  | cons d r => exact ⟨d, r, rfl, h.2 0 d q rfl rfl, by have := h.1; simpa using this, fun j d s hd hs => h.2 (j + 1) d s (by simpa using hd) (by simpa using hs)⟩
theorem fitL_one {α : Type} {q : Sh} {f : α → DV} {ok : α → Prop} (he : ∀ d, Fit d q → ∃ x, d = f x ∧ ok x) {ch : List DV} (h : FitL ch [q]) : ∃ x, ch = [f x] ∧ ok x := by
  obtain ⟨d, r, rfl, h1, h2⟩ := fitL_cons h
  obtain ⟨x, rfl, hx⟩ := he d h1
  rw [fitL_nil h2]
  exact ⟨x, rfl, hx⟩
end Go.Proofs.Ytfhnapifgniiiaa.Vam
