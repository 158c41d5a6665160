/- A machine by value for the program's code, and that it is true of the model: part 2 of 3. -/
import Derived.Test.YtknkeabmjleoiaaVam1
import Derived.Laws.Tables
import Derived.Laws.IdiomStrings
import Derived.Laws.BytesArg
import Derived.MapKept
/- The machine by value and the model: what is stored. -/
namespace Go.Proofs.Ytknkeabmjleoiaa.Vam
open Go
set_option linter.unusedVariables false
set_option linter.unusedSimpArgs false
section
variable {P : Program} {O : Nat → Nat} {C : Query → Answer → Prop} {nt : Nat} {Fr : Nat → Prop} {H0 : Hd} {σ σ' : St} {a : Act} {w : World}

theorem oneC' (v : Value) : v.oneCell' = oneC v := by cases v <;> rfl
theorem setCell_at {b o : Nat} {cs : Array Value} {el : TypeId} {fr : Nat × Nat} {v : Value} (h : w.heap[b]? = some (.cells cs el fr)) : (w.setCell ⟨b, o, none⟩ v).heap[b]? = some (.cells (cs.setIfInBounds o v) el fr) := by
 simp only [World.setCell]
 rw [Array.getElem?_modify, if_pos rfl, h]
 rfl
theorem setCell_ne {b b' o : Nat} {v : Value} (h : b' ≠ b) : (w.setCell ⟨b, o, none⟩ v).heap[b']? = w.heap[b']? := by
 simp only [World.setCell]
 rw [Array.getElem?_modify, if_neg (fun e => h e.symm)]
theorem setCell_size {b o : Nat} {v : Value} : (w.setCell ⟨b, o, none⟩ v).heap.size = w.heap.size := by simp [World.setCell]
theorem storeCells_run {b o : Nat} {el : TypeId} {fr : Nat × Nat} : ∀ (vs : List Value) (i : Nat) (cs : Array Value) (w : World), w.heap[b]? = some (.cells cs el fr) → o + i + vs.length ≤ cs.size → (∀ j, j < cs.size → (decide (fr.1 ≤ j) && decide (j < fr.2)) = false) → (∀ v, v ∈ vs → oneC v = true) →
  ∃ (w' : World) (cs' : Array Value), (storeCells ⟨b, o, none⟩ vs i).run P w = .ok () w' ∧ w'.heap[b]? = some (.cells cs' el fr) ∧ cs'.toList = setRange cs.toList (o + i) vs ∧ (∀ b', b' ≠ b → w'.heap[b']? = w.heap[b']?) ∧ w'.heap.size = w.heap.size ∧ WSame w w'
 | [], i, cs, w, h, _, _, _ => ⟨w, cs, rfl, h, by simp [setRange], fun _ _ => rfl, rfl, WSame.refl _⟩
 | v :: vs, i, cs, w, h, hl, hf, ho => by
  have hl' : o + i + (vs.length + 1) ≤ cs.size := by simpa using hl
  have hlt : o + i < cs.size := by omega
  have hs : (store ⟨b, o + i, none⟩ v).run P w = .ok () (w.setCell ⟨b, o + i, none⟩ v) := by
   rw [run_store P w _ v _ (by rw [oneC']; exact ho v List.mem_cons_self)]
   have hc : w.cell? ⟨b, o + i, none⟩ = some cs[o + i] := cell_of h (Array.getElem?_eq_getElem hlt)
   have hz : w.frozen? ⟨b, o + i, none⟩ = false := by
    simp only [World.frozen?, h]
    exact hf _ hlt
   simp [hc, hz]
  obtain ⟨w', cs', h1, h2, h3, h4, h5, h6⟩ := storeCells_run (b := b) (o := o) (el := el) (fr := fr) vs (i + 1) (cs.setIfInBounds (o + i) v) (w.setCell ⟨b, o + i, none⟩ v) (setCell_at h) (by simp; omega) (fun j hj => hf j (by simpa using hj)) (fun u hu => ho u (List.mem_cons_of_mem _ hu))
  refine ⟨w', cs', ?_, h2, ?_, fun b' hb => (h4 b' hb).trans (setCell_ne hb), h5.trans setCell_size, WSame.trans (b := w.setCell ⟨b, o + i, none⟩ v) ⟨rfl, rfl, rfl, Nat.le_of_eq setCell_size.symm⟩ h6⟩
  ·unfold storeCells
   rw [addr_add, run_bind hs]; exact h1
  ·rw [h3, Array.toList_setIfInBounds]
   unfold setRange
   have e1 : (cs.toList.set (o + i) v).take (o + (i + 1)) = cs.toList.take (o + i) ++ [v] := by
    rw [← Nat.add_assoc, List.take_add_one, List.getElem?_set_self (by simpa using hlt)]
    simp [List.take_set_of_le]
   have e2 : (cs.toList.set (o + i) v).drop (o + (i + 1) + vs.length) = cs.toList.drop (o + i + (v :: vs).length) := by
    rw [List.drop_set_of_lt (by omega)]
    congr 1
    simp; omega
   rw [e1, e2]; simp

theorem SRel.recell {m : Om} {K K' : Kn} {who who' : Who} {w' : World} (h : SRel nt Fr H0 m K who σ a w) {p : Pl} {c : Nat} {d d' : DV} {v : Value} (hc : cellAt p (σ p) c = some d) (hv : rcell m a w p c = some v) (hco : CO w' K' who' p c v d')
  (hsh : ∀ own nl sz es, d' = .slc own nl sz es → ∃ own' nl' es', d = .slc own' nl' sz es') (Lo : Nat → Prop) (hlo : ∀ b, Lo b → who b = some (p, some c) ∨ Loose Fr m K who σ b)
  (hK : K.le K') (hkv : ∀ b o v, K' b o = some v → who' b = none ∧ ∃ cs el fr, w'.heap[b]? = some (.cells cs el fr) ∧ cs[o]? = some v)
  (hw : ∀ b, ¬ Lo b → b < w.heap.size → w'.heap[b]? = w.heap[b]?) (hwho : ∀ b, ¬ Lo b → who' b = who b) (hwh : ∀ b x, who' b = some x → b < w'.heap.size) (hws : WSame w w') :
  SRel nt Fr H0 m K' who' (σ.put p (setCells p (σ p) c [d'])) a w' := by
 have hlb : ∀ b, Lo b → LooseBut p Fr m K who σ b := fun b hb => (hlo b hb).elim (fun g => h.but g) (fun g => g.but p)
 have hkeep : ∀ {j : Nat}, j ≠ c → ∀ b, who b = some (p, some j) → ownedAt (σ p).vs p j = true → who' b = some (p, some j) ∧ w'.heap[b]? = w.heap[b]? := fun hj b hb ho => by
  have hn : ¬ Lo b := fun g => by
   rcases hlo b g with g | g
   ·rw [hb] at g; cases g; exact hj rfl
   ·have := g.use _ _ hb; rw [ho] at this; cases this
  exact ⟨(hwho b hn).trans hb, hw b hn (h.wh b _ hb)⟩
 have hcell := hco.one.2
 cases p with
 | t t =>
  have hdat : ∃ e, (σ (.t t)).vs = [.data e] := by
   obtain ⟨xx, hxx, _⟩ := h.tm t
   cases xx with
   | data e => exact ⟨e, hxx⟩
   | _ => simp [cellAt, hxx] at hc
  obtain ⟨e, he⟩ := hdat
  obtain ⟨us, g1, g2, g3⟩ := h.tcells he
  simp only [cellAt, he] at hc
  have hlt := (List.getElem?_eq_some_iff.1 hc).1
  have hle : c + [d'].length ≤ e.cells.length := by simp; omega
  obtain ⟨s1, s2⟩ := setR_cells hle (fun x hx => by simp at hx; subst hx; exact hcell)
  have hset : setCells (.t t) (σ (.t t)) c [d'] = ⟨[.data (e.setR c [d'])], true, (σ (.t t)).k⟩ := by simp [setCells, he]
  rw [hset]
  refine h.mixT (.inr ⟨rfl, fun cc own nl sz es hc' => ?_⟩) (g3 _ _ _ _ s2 ?_) ⟨(fun _ _ _ _ => by simp), (fun _ _ _ _ _ => by simp)⟩ Lo hlb hK hkv hw hwho hwh hws
  ·simp only [cellAt] at hc'
   rw [s1, setRange_get hle] at hc'
   rw [he]
   simp only [cellAt]
   split at hc'
   ·rename_i hin
    have : cc = c := by simp at hin; omega
    subst this
    simp at hc'
    obtain ⟨own', nl', es', rfl⟩ := hsh own nl sz es hc'
    exact ⟨own', nl', es', hc⟩
   ·exact ⟨own, nl, es, hc'⟩
  ·rw [s1]
   refine COs.of_get (by rw [setRange_length hle]; exact g1.length) fun j u e' hu he' => ?_
   rw [setRange_get hle] at he'
   split at he'
   ·rename_i hin
    have : j = c := by simp at hin; omega
    subst this
    simp at he'
    subst he'
    rw [g2, hu] at hv; cases hv
    simpa using hco
   ·rename_i hin
    have hjc : j ≠ c := fun g => hin (by simp; omega)
    have := g1.get2 hu he'
    rw [Nat.zero_add] at this ⊢
    refine ⟨fun g => (this.1 g).mono hK, fun g => (this.2 g).mono hK fun b hb => hkeep hjc b hb ?_⟩
    simp [ownedAt, cellAt, he, he', g]
 | o i =>
  have hlive : (σ (.o i)).live = true := rcell_live h hv i rfl
  obtain ⟨b, cs, el, q1, q2, q3⟩ := h.ob i hlive
  simp only [cellAt] at hc
  split at hc
  ·rename_i d0 hd0
   cases hc
   have hlt := (List.getElem?_eq_some_iff.1 hd0).1
   have hle : c + [AV.data d'].length ≤ (σ (.o i)).vs.length := by simp; omega
   have hset : setCells (.o i) (σ (.o i)) c [d'] = ⟨setRange (σ (.o i)).vs c [.data d'], true, (σ (.o i)).k⟩ := rfl
   rw [hset]
   refine h.mixO hlive q1 q2 (.inr ⟨rfl, fun cc own nl sz es hc' => ?_⟩) ?_ Lo hlb hK hkv hw hwho hwh hws
   ·simp only [cellAt] at hc' ⊢
    rw [setRange_get hle] at hc'
    split at hc'
    ·rename_i d1 hdd
     cases hc'
     split at hdd
     ·rename_i hin
      have : cc = c := by simp at hin; omega
      subst this
      simp at hdd
      obtain ⟨own', nl', es', rfl⟩ := hsh own nl sz es hdd
      exact ⟨own', nl', es', by rw [hd0]⟩
     ·rw [hdd]; exact ⟨own, nl, es, rfl⟩
    ·cases hc'
   ·refine BReps.of_get (by rw [setRange_length hle]; exact q3.length) fun j u e' hu he' => ?_
    rw [setRange_get hle] at he'
    split at he'
    ·rename_i hin
     have : j = c := by simp at hin; omega
     subst this
     simp at he'
     subst he'
     have hv' : cs[j]? = some v := by simpa [rcell, q1, q2] using hv
     rw [Array.getElem?_toList, hv'] at hu
     cases hu
     exact ⟨hco.one.1, by simpa using hco⟩
    ·rename_i hin
     have hjc : j ≠ c := fun g => hin (by simp; omega)
     have := q3.get2 hu he'
     rw [Nat.zero_add] at this ⊢
     refine ⟨this.1, ?_⟩
     have h2 := this.2
     cases e' with
     | data e => exact ⟨fun g => (h2.1 g).mono hK, fun g => (h2.2 g).mono hK fun b hb => hkeep hjc b hb (by simp [ownedAt, cellAt, he', g])⟩
     | dead => trivial
     | fn f a b => exact ARep1.mono (x := .fn f a b) (fun _ _ h => h) hK h2
     | ifc t x => exact ARep1.mono (x := .ifc t x) (fun _ _ h => h) hK h2
     | ptr i off => exact ARep1.mono (x := .ptr i off) (fun _ _ h => h) hK h2
     | _ => exact h2.elim
  ·cases hc
end
end Go.Proofs.Ytknkeabmjleoiaa.Vam
/- The machine by value and the model: a store. -/
namespace Go.Proofs.Ytknkeabmjleoiaa.Vam
open Go
set_option linter.unusedVariables false
set_option linter.unusedSimpArgs false
section
variable {P : Program} {O : Nat → Nat} {C : Query → Answer → Prop} {nt : Nat} {Fr : Nat → Prop} {H0 : Hd} {σ σ' : St} {a : Act} {w : World}

theorem storeAt_run {t : TypeId} {n b o : Nat} {v : Value} {el : TypeId} {fr : Nat × Nat} {cs : Array Value} (hs : szT P t = some n) (hn : v.cells.toList.length = n) (h : w.heap[b]? = some (.cells cs el fr)) (hl : o + n ≤ cs.size)
  (hf : ∀ j, j < cs.size → (decide (fr.1 ≤ j) && decide (j < fr.2)) = false) (ho : ∀ u, u ∈ v.cells.toList → oneC u = true) :
  ∃ (w' : World) (cs' : Array Value), (Instr.storeAt t (.pointer (some ⟨b, o, none⟩)) v).run P w = .ok () w' ∧ w'.heap[b]? = some (.cells cs' el fr) ∧ cs'.toList = setRange cs.toList o v.cells.toList ∧ (∀ b', b' ≠ b → w'.heap[b']? = w.heap[b']?) ∧ w'.heap.size = w.heap.size ∧ WSame w w' := by
 obtain ⟨w', cs', h1, h2, h3, h4, h5, h6⟩ := storeCells_run (P := P) (o := o) v.cells.toList 0 cs w h (by simp at hn ⊢; omega) hf ho
 refine ⟨w', cs', ?_, h2, by simpa using h3, h4, h5, h6⟩
 unfold Instr.storeAt Instr.sureAddr storeVar
 rw [run_bind (x := (⟨b, o, none⟩ : Addr)) (w' := w) rfl, run_bind (szT_run hs w)]
 have : ¬ v.cells.size ≠ n := by simp at hn; omega
 rw [if_neg this]
 exact h1
theorem op_store {o : Oper} {t : TypeId} {ad x : Operand} (ho : o.op = .store t ad x) : OpOk P O C nt Fr H0 o := by
 intro m K who σ σ' a w u Q Kk h hdst hd hk
 simp only [opPr, ho] at hd
 obtain ⟨_, σd, hd0, hd1⟩ := Does.bind hd
 obtain ⟨hdn0, hd0'⟩ := Does.must hd0
 rw [hd0'] at hd1
 have hdn : o.dst = none := by simpa using hdn0
 replace hd := hd1
 clear hd1
 obtain ⟨y, σ0, h1, h2⟩ := Does.bind hd
 obtain ⟨e0, hv0⟩ := h.opd h1
 rw [e0] at h2
 obtain ⟨v, σ1, h3, h4⟩ := Does.bind h2
 obtain ⟨ya, σ2, h5, h6⟩ := Does.bind h4
 have hfin : ∀ {w' : World}, (Instr.storeAt t (a.eval ad) (a.eval x)).run P w = .ok () w' → Kk a w' → o.wp P a w Kk Q := fun {w'} hr hk' => by
  refine wp_skp (w' := w') ?_ ?_
  ·simp only [execOp, ho]
   rw [run_bind hr]; rfl
  ·rw [hdn]; exact hk'
 obtain ⟨n, σ3, h7, h8⟩ := Does.bind h6
 obtain ⟨hs, h7'⟩ := Does.of h7
 rw [h7'] at h8
 cases ya with
 | ptr i off =>
  -- what is taken goes into the object
  have main : ∀ (K' : Kn) (who' : Who), SRel nt Fr H0 m K' who' σ1 a w → K.le K' → FRep w m K' who' σ1 a (.o i) off (a.eval x) v → o.wp P a w Kk Q := by
   intro K' who' g1 g2 g3
   obtain ⟨e5, hva⟩ := g1.opd h5
   rw [e5] at h8
   obtain ⟨b, hb, hx⟩ := hva
   obtain ⟨_, σ4, h9, h10⟩ := Does.bind h8
   obtain ⟨q1, h9'⟩ := Does.must h9
   rw [h9'] at h10
   obtain ⟨_, σ5, h11, h12⟩ := Does.bind h10
   obtain ⟨q2, h11'⟩ := Does.must h11
   rw [h11'] at h12
   obtain ⟨z, σ6, h13, h14⟩ := Does.bind h12
   obtain ⟨h13', h13''⟩ := Does.gt h13
   rw [h13', h13''] at h14
   obtain ⟨_, σ7, h15, h16⟩ := Does.bind h14
   obtain ⟨q3, h15'⟩ := Does.must h15
   rw [h15'] at h16
   obtain ⟨_, σ8, h17, h18⟩ := Does.bind h16
   obtain ⟨q4, h17'⟩ := Does.must h17
   rw [h17'] at h18
   obtain ⟨_, σ9, h19, h20⟩ := Does.bind h18
   have hσ := Does.st h19
   have g4 := FRep.norm (P := P) t g3
   have g5 := still_cells g4 q2
   have hlen := g5.length
   have hn : (a.eval x).cells.toList.length = n := by rw [hlen]; exact Nat.eq_of_beq_eq_true q1
   obtain ⟨b', cs, el, r1, r2, r3⟩ := g1.ob i q3
   rw [hb] at r1; cases r1
   have hsz : off + n ≤ (σ1 (.o i)).vs.length := of_decide_eq_true q4
   have hcl : cs.size = (σ1 (.o i)).vs.length := by simpa using r3.length
   have hone : ∀ u, u ∈ (a.eval x).cells.toList → oneC u = true := by
    intro u hu
    obtain ⟨j, hj⟩ := List.getElem?_of_mem hu
    have hjl := (List.getElem?_eq_some_iff.1 hj).1
    obtain ⟨y', hy'⟩ : ∃ y', (norm P t v).parts[j]? = some y' := ⟨_, List.getElem?_eq_getElem (by omega)⟩
    exact (g5.get2 hj hy').1
   obtain ⟨w', cs', s1, s2, s3, s4, s5, sws⟩ := storeAt_run (P := P) (o := off) hs hn r2 (by omega) (fun j _ => by simp) hone
   have hwho : who' b = some (.o i, none) := (g1.om i b hb).2
   have hk2 : ∀ {b'' : Nat} {q : Pl} {cc : Nat}, who' b'' = some (q, some cc) → w'.heap[b'']? = w.heap[b'']? := fun {b'' q cc} g => s4 b'' (fun e => by subst e; rw [hwho] at g; cases g)
   have hle : off + (norm P t v).parts.length ≤ (σ1 (.o i)).vs.length := by omega
   have hle2 : off + (a.eval x).cells.toList.length ≤ cs.toList.length := by simp at hn ⊢; omega
   have hB : BReps w' m K' who' (.o i) 0 cs'.toList (setRange (σ1 (.o i)).vs off (norm P t v).parts) := by
    rw [s3]
    refine BReps.of_get (by rw [setRange_length hle, setRange_length hle2]; exact r3.length) fun j u' y' hu' hy' => ?_
    rw [setRange_get hle] at hy'
    rw [setRange_get hle2, hlen] at hu'
    split at hy'
    ·rename_i hin
     rw [if_pos hin] at hu'
     have := (g5.keep (w' := w') (fun _ _ h => h) (Kn.le.refl K') fun b'' j' d' _ _ hb'' => ⟨hb'', hk2 hb''⟩).get2 hu' hy'
     rw [show off + (j - off) = j by omega] at this
     rw [Nat.zero_add]; exact this
    ·rename_i hin
     rw [if_neg hin] at hu'
     exact (r3.keep (w' := w') (fun _ _ h => h) (Kn.le.refl K') fun b'' j' d' _ _ hb'' => ⟨hb'', hk2 hb''⟩).get2 hu' hy'
   have g6 := g1.repO q3 hb s2 s4 sws (.inl (Nat.lt_succ_self _)) hB
   rw [← hσ] at g6
   refine hfin (by rw [hx]; exact s1) (hk m K' who' a w' ?_ g2 (Mp.refl m))
   unfold restamp at h20
   split at h20
   ·obtain ⟨_, e⟩ := Does.pure h20
    rw [e]; exact g6
   ·rename_i T hTe
    obtain ⟨y, σ10, h21, h22⟩ := Does.bind h20
    obtain ⟨h21', h21''⟩ := Does.gt h21
    rw [h21', h21''] at h22
    split at h22
    ·rename_i i' k' c' hy
     obtain ⟨_, σ11, h23, h24⟩ := Does.bind h22
     obtain ⟨q5, h23'⟩ := Does.must h23
     rw [h23'] at h24
     simp only [Bool.and_eq_true, Bool.or_eq_true, decide_eq_true_eq] at q5
     obtain ⟨e1, e2, e3⟩ := q5
     have e1 := Nat.eq_of_beq_eq_true e1
     have e2 := Nat.eq_of_beq_eq_true e2
     subst e1
     rw [Does.st h24]
     have hT : σ9 (.t T) = σ1 (.t T) := by rw [hσ, St.put_ne _ _ (by intro g; cases g)]
     have hold := g1.rf T (.o i') k' c' none (by rw [← hT]; exact hy)
     have hok := hold.2 e2
     refine g6.repRef (by intro g; cases g) (Nat.lt_succ_self _) ⟨by rw [hσ, St.put_same]; exact Nat.le_refl _, fun _ => ?_⟩
     simp only [RefOk, rcell, hb, r2] at hok
     simp only [RefOk, rcell, hb, s2]
     have hget : cs'[c']? = (setRange cs.toList off (a.eval x).cells.toList)[c']? := by rw [← s3]; simp
     rw [hget, setRange_get hle2, if_neg (by rw [hn]; omega)]
     simpa using hok
    ·rename_i i' k' c' ii jj hy
     obtain ⟨_, σ11, h23, h24⟩ := Does.bind h22
     obtain ⟨q5, h23'⟩ := Does.must h23
     rw [h23'] at h24
     simp only [Bool.and_eq_true, Bool.or_eq_true, decide_eq_true_eq] at q5
     obtain ⟨e1, e2, e3⟩ := q5
     have e1 := Nat.eq_of_beq_eq_true e1
     have e2 := Nat.eq_of_beq_eq_true e2
     subst e1
     rw [Does.st h24]
     have hT : σ9 (.t T) = σ1 (.t T) := by rw [hσ, St.put_ne _ _ (by intro g; cases g)]
     have hold := g1.ef T (.o i') k' c' ii jj (by rw [← hT]; exact hy)
     have hok := hold.2 e2
     refine g6.repEp (by intro g; cases g) (Nat.lt_succ_self _) ⟨by rw [hσ, St.put_same]; exact Nat.le_refl _, fun _ => ?_⟩
     have hcell : cellAt (.o i') (σ9 (.o i')) c' = cellAt (.o i') (σ1 (.o i')) c' := by
      rw [hσ, St.put_same]
      show (match (setRange (σ1 (.o i')).vs off (norm P t v).parts)[c']? with | some (.data d) => some d | _ => none) = (match (σ1 (.o i')).vs[c']? with | some (.data d) => some d | _ => none)
      rw [setRange_get hle, if_neg (by omega)]
     intro own nl sz es hc
     rw [hcell] at hc
     obtain ⟨bb, off', N, cap, w1, w2⟩ := hok own nl sz es hc
     refine ⟨bb, off', N, cap, ?_, w2⟩
     simp only [rcell, hb, r2] at w1
     simp only [rcell, hb, s2]
     have hget : cs'[c']? = (setRange cs.toList off (a.eval x).cells.toList)[c']? := by rw [← s3]; simp
     rw [hget, setRange_get hle2, if_neg (by rw [hn]; omega)]
     simpa using w1
    ·exact (Does.fail h22).elim
  cases hmo : ownTmp O x with
  | false =>
   rw [hmo] at h3
   obtain ⟨K', who', g1, g2, g3, g4, g5⟩ := h.take0 hv0 h3
   refine main K' who' g1 g2 ?_
   cases v with
   | data d => exact FRep.of_urep g4.2
   | _ => exact g4
  | true =>
   rw [hmo] at h3
   obtain ⟨who', g1, g3, g4, g5⟩ := h.take1 hv0 h3 (.o i) off
   exact main K who' g1 (Kn.le.refl K) g4
 | eptr p k c i j =>
  have main : ∀ (K' : Kn) (who' : Who), SRel nt Fr H0 m K' who' σ1 a w → K.le K' → FRep w m K' who' σ1 a p c (a.eval x) v → o.wp P a w Kk Q := by
   intro K' who' g1 g2 g3
   obtain ⟨e5, hva⟩ := g1.opd h5
   rw [e5] at h8
   have g4 := FRep.norm (P := P) t g3
   generalize norm P t v = nv at h8 g4
   cases nv with
   | data d =>
    obtain ⟨_, σ4, h9, h10⟩ := Does.bind h8
    obtain ⟨q1, h9'⟩ := Does.must h9
    rw [h9'] at h10
    obtain ⟨_, σ5, h11, h12⟩ := Does.bind h10
    obtain ⟨q2, h11'⟩ := Does.must h11
    rw [h11'] at h12
    obtain ⟨z, σ6, h13, h14⟩ := Does.bind h12
    obtain ⟨h13', h13''⟩ := Does.gt h13
    rw [h13', h13''] at h14
    obtain ⟨_, σ7, h15, h16⟩ := Does.bind h14
    obtain ⟨q3, h15'⟩ := Does.must h15
    rw [h15'] at h16
    split at h16
    ·rename_i nl s es hcc
     obtain ⟨ch, hch, h17⟩ := Does.askC h16
     obtain ⟨_, σ8, h18, h19⟩ := Does.bind h17
     obtain ⟨q4, h18'⟩ := Does.must h18
     rw [h18'] at h19
     have hσ := Does.st h19
     have hkk : k = (σ1 p).k := (Nat.eq_of_beq_eq_true q3).symm
     have hun : d.owned = false := by simpa using q1
     have hjn : j + n ≤ ch.length := of_decide_eq_true q4
     have hdl : d.cells.length = n := Nat.eq_of_beq_eq_true q2
     -- the value's cells
     obtain ⟨vs, f1, f2, f3⟩ := g4
     have hvc : (a.eval x).cells.toList = vs := by
      cases hf : d.form with
      | true => rw [hf] at f2; simpa using f2.symm
      | false =>
       rw [hf] at f2
       simp only [Bool.false_eq_true, if_false] at f2
       subst f2
       rw [form_cells hf] at f1
       cases f1 with
       | cons g _ => exact cells_one g.one.1
     have hcr : All2 (CRep K') vs d.cells := by
      refine f1.unowned ?_
      cases d with
      | agg _ => exact hun
      | val _ => rfl
      | hole => rfl
      | rm _ _ _ => rfl
      | capv _ => rfl
      | mp _ _ => cases hun
      | slc o2 nl2 sz2 es2 =>
       cases o2 with
       | true => cases hun
       | false => rfl
     -- the row
     have hcc' : cellAt p (σ1 p) c = some (.slc true nl s es) := hcc
     obtain ⟨b, off, N, cap, r1, r2⟩ := hva.2 hkk true nl s es hcc'
     have hco := (g1.refd (n := none) (v := .slice (some ⟨b, off, none⟩) N cap) r1 hcc').1
     have hO := hco.2 rfl
     generalize hvv : Value.slice (some ⟨b, off, none⟩) N cap = vv at hO
     cases hO with
     | nil _ => cases hvv
     | empty _ => simp at hch
     | slc o1 o2 o3 o4 o5 o6 =>
      cases hvv
      obtain ⟨cs, el, fr, p1, p2, p3, p4⟩ := o6
      have hil := (List.getElem?_eq_some_iff.1 hch).1
      have hchs : ch.length = s := o4 ch (List.mem_of_getElem? hch)
      have hmul : (i + 1) * s ≤ cap * s := Nat.mul_le_mul_right s (by omega)
      rw [Nat.add_mul, Nat.one_mul] at hmul
      have hone : ∀ u, u ∈ (a.eval x).cells.toList → oneC u = true := by
       intro u hu
       rw [hvc] at hu
       obtain ⟨jj, hj⟩ := List.getElem?_of_mem hu
       have hjl := (List.getElem?_eq_some_iff.1 hj).1
       obtain ⟨y', hy'⟩ : ∃ y', d.cells[jj]? = some y' := ⟨_, List.getElem?_eq_getElem (by rw [← hcr.length]; exact hjl)⟩
       exact (hcr.get2 hj hy').one.1
      have hn : (a.eval x).cells.toList.length = n := by rw [hvc, hcr.length]; exact hdl
      obtain ⟨w', cs', s1, s2, s3, s4, s5, sws⟩ := storeAt_run (P := P) (o := off + i * s + j) hs hn p1 (by omega) (fun j hj => p3 j (by omega)) hone
      have hle2 : off + i * s + j + (a.eval x).cells.toList.length ≤ cs.toList.length := by simp at hn ⊢; omega
      have hsz' : (ch.take j ++ d.cells ++ ch.drop (j + n)).length = s := by simp [hdl]; omega
      have hel : (es.set i (ch.take j ++ d.cells ++ ch.drop (j + n))).length = es.length := by simp
      have hco' : CO w' K' who' p c (.slice (some ⟨b, off, none⟩) es.length cap) (.slc true nl s (es.set i (ch.take j ++ d.cells ++ ch.drop (j + n)))) := by
       refine ⟨fun e => by simp [DV.owned1] at e, fun _ => ?_⟩
       have key : ORep w' K' who' p c (.slice (some ⟨b, off, none⟩) (es.set i (ch.take j ++ d.cells ++ ch.drop (j + n))).length cap) (.slc true nl s (es.set i (ch.take j ++ d.cells ++ ch.drop (j + n)))) := by
        have hcsz : cs'.size = cs.size := by
         have := congrArg List.length s3
         rw [setRange_length hle2] at this; simpa using this
        refine .slc o1 o2 (by rw [hel]; exact o3) (fun c' hc' => ?_) o5 ⟨cs', el, fr, s2, by omega, fun j' hj' => p3 j' (by omega), fun i' j' ch' d' hi' hj' => ?_⟩
        ·rcases List.mem_or_eq_of_mem_set hc' with g | g
         ·exact o4 c' g
         ·rw [g]; exact hsz'
        ·have hget : cs'[off + i' * s + j']? = (setRange cs.toList (off + i * s + j) (a.eval x).cells.toList)[off + i' * s + j']? := by rw [← s3]; simp
         have hi'l : i' < es.length := by have := (List.getElem?_eq_some_iff.1 hi').1; simpa using this
         rw [hget, setRange_get hle2, hn]
         by_cases hii : i' = i
         ·subst hii
          rw [List.getElem?_set_self hil] at hi'
          cases hi'
          have hj's : j' < s := by have := (List.getElem?_eq_some_iff.1 hj').1; omega
          by_cases hin : j ≤ j' ∧ j' < j + n
          ·rw [if_pos (by omega), show off + i' * s + j' - (off + i' * s + j) = j' - j by omega, hvc]
           have hd' : d.cells[j' - j]? = some d' := by
            rw [List.append_assoc, List.getElem?_append_right (by simp; omega), List.getElem?_append_left (by simp; omega)] at hj'
            simpa [List.length_take, Nat.min_eq_left (show j ≤ ch.length by omega)] using hj'
           obtain ⟨u', hu', hr'⟩ := hcr.get hd'
           exact ⟨u', hu', hr'⟩
          ·rw [if_neg (by omega)]
           have hd' : ch[j']? = some d' := by
            by_cases hlt : j' < j
            ·rw [List.append_assoc, List.getElem?_append_left (by simp; omega), List.getElem?_take_of_lt hlt] at hj'; exact hj'
            ·rw [List.getElem?_append_right (by simp; omega), List.getElem?_drop] at hj'
             rw [← hj']; congr 1; simp; omega
           obtain ⟨u', hu', hr'⟩ := p4 i' j' ch d' hch hd'
           exact ⟨u', by simpa using hu', hr'⟩
         ·rw [List.getElem?_set_ne (fun g => hii g.symm)] at hi'
          have hj's : j' < s := by have := (List.getElem?_eq_some_iff.1 hj').1; rw [o4 ch' (List.mem_of_getElem? hi')] at this; exact this
          have hout : ¬ (off + i * s + j ≤ off + i' * s + j' ∧ off + i' * s + j' < off + i * s + j + n) := by
           rcases Nat.lt_or_gt_of_ne hii with g | g
           ·have := Nat.mul_le_mul_right s (show i' + 1 ≤ i by omega)
            rw [Nat.add_mul, Nat.one_mul] at this; omega
           ·have := Nat.mul_le_mul_right s (show i + 1 ≤ i' by omega)
            rw [Nat.add_mul, Nat.one_mul] at this; omega
          rw [if_neg hout]
          obtain ⟨u', hu', hr'⟩ := p4 i' j' ch' d' hi' hj'
          exact ⟨u', by simpa using hu', hr'⟩
       rw [hel] at key; exact key
      have g6 := g1.recell hcc' r1 hco' (fun own' nl' sz' es' e => by cases e; exact ⟨true, nl, es, rfl⟩) (fun b' => b' = b) (fun b' hb' => .inl (by rw [hb']; exact o5)) (Kn.le.refl K') (fun b' o' u' hu' => by
        obtain ⟨k1, k2⟩ := g1.kv b' o' u' hu'
        refine ⟨k1, ?_⟩
        rw [s4 b' (fun e => by subst e; rw [o5] at k1; cases k1)]; exact k2) (fun b' hb' _ => s4 b' hb') (fun _ _ => rfl) (fun b' x' hx' => by rw [s5]; exact g1.wh b' x' hx') sws
      rw [← hσ] at g6
      exact hfin (by rw [r2]; exact s1) (hk _ _ _ _ _ g6 g2 (Mp.refl m))
    ·exact (Does.fail h16).elim
   | _ => exact (Does.fail h8).elim
  cases hmo : ownTmp O x with
  | false =>
   rw [hmo] at h3
   obtain ⟨K', who', g1, g2, g3, g4, g5⟩ := h.take0 hv0 h3
   refine main K' who' g1 g2 ?_
   cases v with
   | data d => exact FRep.of_urep g4.2
   | _ => exact g4
  | true =>
   rw [hmo] at h3
   obtain ⟨who', g1, g3, g4, g5⟩ := h.take1 hv0 h3 p c
   exact main K who' g1 (Kn.le.refl K) g4
 | _ => exact (Does.fail h8).elim
end
end Go.Proofs.Ytknkeabmjleoiaa.Vam
/- The machine by value and the model: append, as the model runs it. -/
namespace Go.Proofs.Ytknkeabmjleoiaa.Vam
open Go
set_option linter.unusedVariables false
set_option linter.unusedSimpArgs false
section
variable {P : Program} {w : World}

theorem growBy_le (n : Nat) : ∀ (r c : Nat), Builtin.growBy n r c ≤ max c (n + (n + 768) / 4) := by
 intro r
 induction r with
 | zero => intro c; simp [Builtin.growBy]; omega
 | succ r ih =>
  intro c
  simp only [Builtin.growBy]
  split
  ·omega
  ·have := ih (c + (c + 768) / 4)
   omega
theorem nextcap_le (n c : Nat) (h : c ≤ n) : Builtin.nextslicecap n c ≤ 2 * n + 1000 := by
 unfold Builtin.nextslicecap
 split
 ·omega
 ·split
  ·omega
  ·have := growBy_le n 4 c
   omega
theorem tyInt {ty : TypeId} (hty : (match P.underlying ty with | some (.int _) => false | some _ => true | none => false) = true) : ∃ D, P.underlying ty = some D ∧ (D matches .int _) = false := by
 cases hP : P.underlying ty with
 | none => rw [hP] at hty; cases hty
 | some D =>
  refine ⟨D, rfl, ?_⟩
  rw [hP] at hty
  cases D <;> first | rfl | cases hty
theorem append_room {t ty e : TypeId} {s : Nat} {A : Option Addr} {len cap n : Nat} {x : Value} {nv : List Value} (he : elemT P t = some e) (hs : szT P e = some s) (hty : (match P.underlying ty with | some (.int _) => false | some _ => true | none => false) = true)
  (hn : ∀ w : World, (Builtin.lenOf x).run P w = .ok n w) (hx : (Builtin.firstCells s n x).run P w = .ok nv.toArray w) (hc : len + n ≤ cap) {w' : World} (hw : (match A with | some a => (storeCells (a.add (len * s)) nv).run P w = .ok () w' | none => w' = w)) :
  (Builtin.append_ #[t, ty] t #[.slice A len cap, x]).run P w = .ok (.slice A (len + n) cap) w' := by
 obtain ⟨D, hD, hDi⟩ := tyInt hty
 unfold Builtin.append_
 simp only [List.getElem?_toArray, List.getElem?_cons_zero, List.getElem?_cons_succ]
 rw [run_bind (run_underlying (elemT_run he) w)]
 simp only
 rw [run_bind (szT_run hs w)]

 rw [run_bind (run_underlying hD w)]
 rw [run_bind (x := false) (w' := w) (by cases D <;> first | rfl | cases hDi)]
 simp only [Bool.false_eq_true, if_false]
 rw [run_bind (hn w)]
 rw [if_pos hc]
 simp only [Bool.not_false, if_true]
 rw [run_bind hx]
 cases A with
 | none => simp only at hw; subst hw; rfl
 | some a => simp only at hw ⊢; rw [run_bind hw]; rfl
theorem choose_cap (q : Question) (w : World) : ∃ (c : Nat) (w1 : World), (choose q).run P w = .ok c w1 ∧ w1.heap = w.heap ∧ WSame w w1 ∧ (q.forced = false → c = q.cut (w.tape w.drawn q)) := by
 rw [run_choose]
 cases hf : q.forced with
 | true => exact ⟨0, w, rfl, rfl, WSame.refl _, fun h => by cases h⟩
 | false => exact ⟨_, _, rfl, rfl, ⟨rfl, rfl, rfl, Nat.le_refl _⟩, fun _ => rfl⟩
theorem append_grow {t ty e : TypeId} {s b : Nat} {A : Option Addr} {len cap n : Nat} {x z : Value} {nv ov : List Value} (he : elemT P t = some e) (hs : szT P e = some s) (hb : bytT P e = some b) (hz0 : ∀ w : World, (zeroValue e).run P w = .ok z w) (hty : (match P.underlying ty with | some (.int _) => false | some _ => true | none => false) = true)
  (hn : ∀ w : World, (Builtin.lenOf x).run P w = .ok n w) (hx : ∀ w1 : World, w1.heap = w.heap → (Builtin.firstCells s n x).run P w1 = .ok nv.toArray w1) (ho : ∀ w1 : World, w1.heap = w.heap → (Builtin.firstCells s len (.slice A len cap)).run P w1 = .ok ov.toArray w1)
  (hc : ¬ len + n ≤ cap) (hsb : 0 < s ∧ b ≤ 4096) (hl : len + n ≤ 4294967296) (hle : len ≤ cap) :
  ∃ (ncap : Nat) (rest : List Value) (w' : World), len + n ≤ ncap ∧ (rest.length = (ncap - (len + n)) * z.cells.size) ∧ (Builtin.append_ #[t, ty] t #[.slice A len cap, x]).run P w = .ok (.slice (some ⟨w.heap.size, 0, none⟩) (len + n) ncap) w' ∧
   w'.heap = w.heap.push (.cells (ov ++ nv ++ rest).toArray e) ∧ WSame w w' := by
 obtain ⟨D, hD, hDi⟩ := tyInt hty
 have hbr : ∀ w : World, ∃ i : TypeInfo, (typeInfo e).run P w = .ok i w ∧ i.bytes = b := by
  intro w
  unfold bytT at hb
  rw [Option.map_eq_some_iff] at hb
  obtain ⟨i, hi, rfl⟩ := hb
  exact ⟨i, by simp [typeInfo, hi], rfl⟩
 obtain ⟨ti, hti, hib⟩ := hbr w
 obtain ⟨nc, w1, hch, hw1, hw2, hnc⟩ := choose_cap (P := P) (.appendCap (len + n) cap e) w
 obtain ⟨ti2, hti2, hib2⟩ := hbr w1
 have hncap : len + n ≤ nc := by
  rw [hnc rfl]; simp only [Question.cut]; omega
 refine ⟨nc, (Builtin.zeroCells z.cells (nc - (len + n))).toList, World.grow w1 (.cells (ov ++ nv ++ (Builtin.zeroCells z.cells (nc - (len + n))).toList).toArray e), hncap, by simp [Builtin.zeroCells], ?_, by simp [World.grow, hw1], hw2.trans ⟨rfl, rfl, rfl, by rw [grow_size]; omega⟩⟩
 unfold Builtin.append_
 simp only [List.getElem?_toArray, List.getElem?_cons_zero, List.getElem?_cons_succ]
 rw [run_bind (run_underlying (elemT_run he) w)]
 simp only
 rw [run_bind (szT_run hs w)]

 rw [run_bind (run_underlying hD w)]
 rw [run_bind (x := false) (w' := w) (by cases D <;> first | rfl | cases hDi)]
 simp only [Bool.false_eq_true, if_false]
 rw [run_bind (hn w)]
 rw [if_neg hc]
 simp only [Bool.not_false, if_true, false_or]
 rw [run_bind hti]
 have hmax : ¬ (((len + n : Nat) : Int) > IntKind.i64.max ∧ ti.bytes = 0) := by
  have : IntKind.i64.max = 9223372036854775807 := by decide
  rw [this]; omega
 rw [if_neg hmax]
 rw [run_bind hti]
 have hlim : ¬ Builtin.nextslicecap (len + n) cap * ti.bytes > 2 ^ 48 := by
  have h1 := nextcap_le (len + n) cap (by omega)
  have h2 : Builtin.nextslicecap (len + n) cap * ti.bytes ≤ (2 * (len + n) + 1000) * 4096 := Nat.mul_le_mul h1 (by omega)
  have h3 : (2 : Nat) ^ 48 = 281474976710656 := by decide
  rw [h3]; omega
 rw [if_neg hlim]
 rw [run_bind hch, run_bind hti2, run_bind (run_askRoom P w1 _), run_bind (ho w1 hw1), run_bind (hx w1 hw1), run_bind (hz0 w1)]
 rw [show ov.toArray ++ nv.toArray ++ Builtin.zeroCells z.cells (nc - (len + n)) = (ov ++ nv ++ (Builtin.zeroCells z.cells (nc - (len + n))).toList).toArray by simp]
 rw [← hw1]
 rfl
theorem zero_run {e : TypeId} {z : Value} {s n : Nat} (hz : ∀ w : World, (zeroValue e).run P w = .ok z w) (hzs : z.cells.size = s) (w : World) :
  (if (!true) = true then Builtin.firstCells s n (.int .i64 0) else if n * s = 0 then pure #[] else do pure (Builtin.zeroCells (← zeroValue e).cells n) : Sem (Array Value)).run P w = .ok (Builtin.zeroCells z.cells n) w := by
 simp only [Bool.not_true, Bool.false_eq_true, if_false]
 split
 ·rename_i h0
  have : Builtin.zeroCells z.cells n = #[] := by
   apply Array.eq_empty_of_size_eq_zero
   simp [Builtin.zeroCells, hzs, h0]
  rw [this]; rfl
 ·rw [run_bind (hz w)]; rfl
theorem append_roomZ {t ty e : TypeId} {s b : Nat} {A : Option Addr} {len cap : Nat} {k kk : IntKind} {n : Int} {z : Value} (he : elemT P t = some e) (hs : szT P e = some s) (hb : bytT P e = some b) (hty : P.underlying ty = some (.int kk)) (hz : ∀ w : World, (zeroValue e).run P w = .ok z w) (hzs : z.cells.size = s)
  (hsb : 0 < s ∧ b ≤ 4096) (hn : 0 ≤ n ∧ n ≤ 4294967296) (hc : len + n.toNat ≤ cap) {w' : World} (hw : (match A with | some a => (storeCells (a.add (len * s)) (Builtin.zeroCells z.cells n.toNat).toList).run P w = .ok () w' | none => w' = w)) :
  (Builtin.append_ #[t, ty] t #[.slice A len cap, .int k n]).run P w = .ok (.slice A (len + n.toNat) cap) w' := by
 have hbr : ∀ w : World, ∃ i : TypeInfo, (typeInfo e).run P w = .ok i w ∧ i.bytes = b := by
  intro w
  unfold bytT at hb
  rw [Option.map_eq_some_iff] at hb
  obtain ⟨i, hi, rfl⟩ := hb
  exact ⟨i, by simp [typeInfo, hi], rfl⟩
 obtain ⟨ti, hti, hib⟩ := hbr w
 have hl0 : ¬ n < 0 := by omega
 have hl1 : ¬ n * (ti.bytes : Int) > 2 ^ 48 := by
  have h1 : n * (ti.bytes : Int) ≤ 4294967296 * 4096 := Int.mul_le_mul hn.2 (by omega) (by omega) (by omega)
  have h2 : (2 : Int) ^ 48 = 281474976710656 := by decide
  rw [h2]; omega
 unfold Builtin.append_
 simp only [List.getElem?_toArray, List.getElem?_cons_zero, List.getElem?_cons_succ]
 rw [run_bind (run_underlying (elemT_run he) w)]
 simp only
 rw [run_bind (szT_run hs w)]
 rw [run_bind (run_underlying hty w)]
 rw [run_bind (x := true) (w' := w) rfl]
 simp only [if_true, asInt, asIntOf]
 rw [run_bind (x := n) (w' := w) rfl]
 simp only [wrap_small hn.1 hn.2]
 rw [if_neg hl0, run_bind hti, if_neg hl1]
 simp only [pure_bind]
 rw [if_pos hc]
 have hzr := zero_run (P := P) (n := n.toNat) hz hzs w
 simp only [Bool.not_true, Bool.false_eq_true, if_false] at hzr ⊢
 rw [run_bind hzr]
 cases A with
 | none => simp only at hw; subst hw; rfl
 | some a => simp only at hw ⊢; rw [run_bind hw]; rfl
theorem append_growZ {t ty e : TypeId} {s b : Nat} {A : Option Addr} {len cap : Nat} {k kk : IntKind} {n : Int} {z : Value} {ov : List Value} (he : elemT P t = some e) (hs : szT P e = some s) (hb : bytT P e = some b) (hty : P.underlying ty = some (.int kk)) (hz : ∀ w : World, (zeroValue e).run P w = .ok z w) (hzs : z.cells.size = s)
  (ho : ∀ w1 : World, w1.heap = w.heap → (Builtin.firstCells s len (.slice A len cap)).run P w1 = .ok ov.toArray w1)
  (hc : ¬ len + n.toNat ≤ cap) (hsb : 0 < s ∧ b ≤ 4096) (hn : 0 ≤ n ∧ n ≤ 4294967296) (hl : len + n.toNat ≤ 4294967296) (hle : len ≤ cap) :
  ∃ (ncap : Nat) (rest : List Value) (w' : World), len + n.toNat ≤ ncap ∧ (rest.length = (ncap - (len + n.toNat)) * z.cells.size) ∧ (Builtin.append_ #[t, ty] t #[.slice A len cap, .int k n]).run P w = .ok (.slice (some ⟨w.heap.size, 0, none⟩) (len + n.toNat) ncap) w' ∧
   w'.heap = w.heap.push (.cells (ov ++ (Builtin.zeroCells z.cells n.toNat).toList ++ rest).toArray e) ∧ WSame w w' := by
 have hbr : ∀ w : World, ∃ i : TypeInfo, (typeInfo e).run P w = .ok i w ∧ i.bytes = b := by
  intro w
  unfold bytT at hb
  rw [Option.map_eq_some_iff] at hb
  obtain ⟨i, hi, rfl⟩ := hb
  exact ⟨i, by simp [typeInfo, hi], rfl⟩
 obtain ⟨ti, hti, hib⟩ := hbr w
 obtain ⟨nc, w1, hch, hw1, hw2, hnc⟩ := choose_cap (P := P) (.appendCap (len + n.toNat) cap e) w
 obtain ⟨ti2, hti2, hib2⟩ := hbr w1
 have hncap : len + n.toNat ≤ nc := by
  rw [hnc rfl]; simp only [Question.cut]; omega
 have hl0 : ¬ n < 0 := by omega
 have hl1 : ¬ n * (ti.bytes : Int) > 2 ^ 48 := by
  have h1 : n * (ti.bytes : Int) ≤ 4294967296 * 4096 := Int.mul_le_mul hn.2 (by omega) (by omega) (by omega)
  have h2 : (2 : Int) ^ 48 = 281474976710656 := by decide
  rw [h2]; omega
 refine ⟨nc, (Builtin.zeroCells z.cells (nc - (len + n.toNat))).toList, World.grow w1 (.cells (ov ++ (Builtin.zeroCells z.cells n.toNat).toList ++ (Builtin.zeroCells z.cells (nc - (len + n.toNat))).toList).toArray e), hncap, by simp [Builtin.zeroCells], ?_, by simp [World.grow, hw1], hw2.trans ⟨rfl, rfl, rfl, by rw [grow_size]; omega⟩⟩
 unfold Builtin.append_
 simp only [List.getElem?_toArray, List.getElem?_cons_zero, List.getElem?_cons_succ]
 rw [run_bind (run_underlying (elemT_run he) w)]
 simp only
 rw [run_bind (szT_run hs w)]
 rw [run_bind (run_underlying hty w)]
 rw [run_bind (x := true) (w' := w) rfl]
 simp only [if_true, asInt, asIntOf]
 rw [run_bind (x := n) (w' := w) rfl]
 simp only [wrap_small hn.1 hn.2]
 rw [if_neg hl0, run_bind hti, if_neg hl1]
 simp only [pure_bind]
 rw [if_neg hc]
 have hmax : ¬ (((len + n.toNat : Nat) : Int) > IntKind.i64.max ∧ (True ∨ ti.bytes = 0)) := by
  have : IntKind.i64.max = 9223372036854775807 := by decide
  rw [this]; omega
 rw [run_bind hti, if_neg hmax, run_bind hti]
 have hlim : ¬ Builtin.nextslicecap (len + n.toNat) cap * ti.bytes > 2 ^ 48 := by
  have h1 := nextcap_le (len + n.toNat) cap (by omega)
  have h2 : Builtin.nextslicecap (len + n.toNat) cap * ti.bytes ≤ (2 * (len + n.toNat) + 1000) * 4096 := Nat.mul_le_mul h1 (by omega)
  have h3 : (2 : Nat) ^ 48 = 281474976710656 := by decide
  rw [h3]; omega
 rw [if_neg hlim]
 have hzr := zero_run (P := P) (n := n.toNat) hz hzs w1
 simp only [Bool.not_true, Bool.false_eq_true, if_false] at hzr ⊢
 rw [run_bind hch, run_bind hti2, run_bind (run_askRoom P w1 _), run_bind (ho w1 hw1), run_bind hzr, run_bind (hz w1)]
 rw [show ov.toArray ++ Builtin.zeroCells z.cells n.toNat ++ Builtin.zeroCells z.cells (nc - (len + n.toNat)) = (ov ++ (Builtin.zeroCells z.cells n.toNat).toList ++ (Builtin.zeroCells z.cells (nc - (len + n.toNat))).toList).toArray by simp]
 rw [← hw1]
 rfl
end
end Go.Proofs.Ytknkeabmjleoiaa.Vam
/- The machine by value and the model: append. -/
namespace Go.Proofs.Ytknkeabmjleoiaa.Vam
open Go
set_option linter.unusedVariables false
set_option linter.unusedSimpArgs false
section
variable {P : Program} {O : Nat → Nat} {C : Query → Answer → Prop} {nt : Nat} {Fr : Nat → Prop} {H0 : Hd} {m : Om} {K : Kn} {who : Who} {σ σ' : St} {a : Act} {w : World}

theorem St.put_put (σ : St) (p : Pl) (c c' : Cell) : (σ.put p c).put p c' = σ.put p c' := by
 funext q
 by_cases h : q = p
 ·subst h; simp [St.put_same]
 ·simp [St.put_ne _ _ h]
theorem SRel.putMix (h : SRel nt Fr H0 m K who σ a w) {t : Nat} (ht : t < nt) {d : DV} {v : Value} {w' : World} {who' : Who} (Lo : Nat → Prop) (hlo : ∀ b, Lo b → (∃ c, who b = some (.t t, some c)) ∨ w.heap.size ≤ b)
  (hw : ∀ b, ¬ Lo b → b < w.heap.size → w'.heap[b]? = w.heap[b]?) (hwho : ∀ b, ¬ Lo b → who' b = who b) (hwh : ∀ b x, who' b = some x → b < w'.heap.size) (hws : WSame w w') (hd : DRep w' K who' (.t t) v d) :
  SRel nt Fr H0 m K who' (σ.put (.t t) ⟨[.data d], true, (σ (.t t)).k + 1⟩) (a.put (some t) v) w' := by
 have g1 := h.repT (t := t) (y := .dead) (l := true) (k := (σ (.t t)).k) (.inr ⟨rfl, fun c own nl sz es e => by simp [cellAt] at e⟩) trivial ⟨(fun _ _ _ _ => by simp), (fun _ _ _ _ _ => by simp)⟩
 have hkn : ∀ b o u, K b o = some u → ¬ Lo b ∧ b < w.heap.size := fun b o u hu => by
  obtain ⟨k1, cs, el, fr, k2, k3⟩ := h.kv b o u hu
  have hlt : b < w.heap.size := by
   rcases Nat.lt_or_ge b w.heap.size with g | g
   ·exact g
   ·rw [Array.getElem?_eq_none g] at k2; cases k2
  exact ⟨fun g => by
   rcases hlo b g with ⟨c, hc⟩ | g
   ·rw [k1] at hc; cases hc
   ·omega, hlt⟩
 have g2 := g1.turn (w' := w') (K' := K) (who' := who') Lo (fun b hb => by
   rcases hlo b hb with ⟨c, hc⟩ | g
   ·have q := h.but hc
    refine ⟨q.fr, q.m, q.K, fun p c' hp => ?_⟩
    rw [hc] at hp; cases hp
    rw [St.put_same]; rfl
   ·exact g1.loose_new g) (Kn.le.refl K) (fun b o u hu => by
   obtain ⟨k1, cs, el, fr, k2, k3⟩ := h.kv b o u hu
   obtain ⟨q1, q2⟩ := hkn b o u hu
   exact ⟨(hwho b q1).trans k1, cs, el, fr, (hw b q1 q2).trans k2, k3⟩) hw hwho hwh hws
 have g3 := g2.put ht (x := .data d) (v := v) (k := (σ (.t t)).k + 1) (by rw [St.put_same]; exact Nat.lt_succ_self _) hd (fun _ _ _ _ e => by cases e) (fun _ _ _ _ _ e => by cases e)
 rw [St.put_put] at g3
 exact g3

theorem flat_cells {R : Value → DV → Prop} {s : Nat} {es : List (List DV)} (hs : 0 < s) (hlen : ∀ ch, ch ∈ es → ch.length = s) {f : Nat → Option Value} (hf : ∀ i j ch d, es[i]? = some ch → ch[j]? = some d → ∃ u, f (i * s + j) = some u ∧ R u d) :
  ∃ nv : List Value, nv.length = es.length * s ∧ (∀ k v, nv[k]? = some v → f k = some v) ∧ ∀ i j ch d, es[i]? = some ch → ch[j]? = some d → ∃ u, nv[i * s + j]? = some u ∧ R u d := by
 have hall : ∀ k, k < es.length * s → ∃ u, f k = some u := fun k hk => by
  have h1 : k / s < es.length := by rw [Nat.div_lt_iff_lt_mul hs]; exact hk
  have h2 : k % s < s := Nat.mod_lt _ hs
  have h3 := hlen es[k / s] (List.getElem_mem h1)
  obtain ⟨u, hu, _⟩ := hf (k / s) (k % s) es[k / s] (es[k / s][k % s]'(by omega)) (List.getElem?_eq_getElem h1) (List.getElem?_eq_getElem (by omega))
  rw [Nat.mul_comm, Nat.div_add_mod] at hu
  exact ⟨u, hu⟩
 refine ⟨(List.range (es.length * s)).map fun k => (f k).getD undef, by simp, fun k v hk => ?_, fun i j ch d hi hj => ?_⟩
 ·rw [List.getElem?_map, Option.map_eq_some_iff] at hk
  obtain ⟨k', h1, h2⟩ := hk
  have hlt := (List.getElem?_eq_some_iff.1 h1).1
  rw [List.getElem?_range (by simpa using hlt)] at h1
  cases h1
  obtain ⟨u, hu⟩ := hall k (by simpa using hlt)
  rw [hu] at h2 ⊢; simpa using h2
 ·obtain ⟨u, hu, hr⟩ := hf i j ch d hi hj
  have h1 := (List.getElem?_eq_some_iff.1 hi).1
  have h2 := (List.getElem?_eq_some_iff.1 hj).1
  rw [hlen ch (List.mem_of_getElem? hi)] at h2
  have h3 : (i + 1) * s ≤ es.length * s := Nat.mul_le_mul_right s (by omega)
  rw [Nat.add_mul, Nat.one_mul] at h3
  refine ⟨u, ?_, hr⟩
  rw [List.getElem?_map, List.getElem?_range (by omega)]
  simp [hu]

def Src (w : World) (K : Kn) (v : Value) (s : Nat) (es : List (List DV)) : Prop :=
 ∃ (A : Option Addr) (cap : Nat), v = .slice A es.length cap ∧ es.length ≤ cap ∧ (es ≠ [] → ∃ b off, A = some ⟨b, off, none⟩ ∧ (∀ ch, ch ∈ es → ch.length = s) ∧ ∀ i j ch d, es[i]? = some ch → ch[j]? = some d → ∃ u, Kall w b (off + i * s + j) = some u ∧ CRep K u d)
theorem CRep.src {K : Kn} (hK : K.le (Kall w)) {v : Value} {own : Bool} {nl : Option Bool} {s : Nat} {es : List (List DV)} (h : CRep K v (.slc own nl s es)) : Src w K v s es := by
 cases h with
 | nil _ => exact ⟨none, 0, rfl, by simp, fun g => absurd rfl g⟩
 | empty _ => exact ⟨_, _, rfl, by simp, fun g => absurd rfl g⟩
 | slc us h1 h2 h3 h4 h5 => exact ⟨_, _, rfl, h2, fun _ => ⟨_, _, rfl, h3, fun i j ch d hi hj => ⟨us i j, hK _ _ _ (h4 i j ch d hi hj), h5 i j ch d hi hj⟩⟩⟩
theorem ORep.src {K : Kn} {who : Who} {p : Pl} {c : Nat} {v : Value} {own : Bool} {nl : Option Bool} {s : Nat} {es : List (List DV)} (h : ORep w K who p c v (.slc own nl s es)) : Src w K v s es := by
 cases h with
 | nil _ => exact ⟨none, 0, rfl, by simp, fun g => absurd rfl g⟩
 | empty _ => exact ⟨_, _, rfl, by simp, fun g => absurd rfl g⟩
 | slc h1 h2 h3 h4 h5 h6 =>
  obtain ⟨cs, el, fr, p1, p2, p3, p4⟩ := h6
  exact ⟨_, _, rfl, h3, fun _ => ⟨_, _, rfl, h4, fun i j ch d hi hj => by
   obtain ⟨u, hu, hr⟩ := p4 i j ch d hi hj
   exact ⟨u, by simp [Kall, p1, hu], hr⟩⟩⟩
theorem SRel.viewSrc (h : SRel nt Fr H0 m K who σ a w) {y : AV} {v : Value} {own : Bool} {nl : Option Bool} {s : Nat} {es : List (List DV)} (hv : VRep σ a w m K v y) (hd : Does C (Vam.view y) σ (DV.slc own nl s es) σ') : Src w K v s es := by
 cases y with
 | data d =>
  obtain ⟨e, _⟩ := Does.pure hd
  subst e
  exact CRep.src h.kall hv.2
 | ref p k c n =>
  obtain ⟨x, σ1, h1, hd1⟩ := Does.bind hd
  obtain ⟨rfl, rfl⟩ := Does.gt h1
  obtain ⟨_, σ2, h2, hd2⟩ := Does.bind hd1
  obtain ⟨hk, h2'⟩ := Does.must h2
  rw [h2'] at hd2
  obtain ⟨d, σ3, h3, hd3⟩ := Does.bind hd2
  obtain ⟨hd', h3'⟩ := Does.of h3
  obtain ⟨e, _⟩ := Does.pure hd3
  have hr := hv.2 (by have := Nat.eq_of_beq_eq_true hk; omega)
  have hcells := h.refd hr hd'
  cases n with
  | none =>
   obtain ⟨g1, g2, g3⟩ := hcells
   cases d with
   | slc o' nl' s' es' =>
    simp only [DV.strip] at e
    cases e
    cases o' with
    | true => exact (g1.2 rfl).src
    | false => exact (g1.1 rfl).src h.kall
   | val x => cases e
   | hole => cases e
   | rm _ _ _ => cases e
   | capv _ => cases e
   | mp _ _ => cases e
   | agg ds => cases e
  | some n =>
   obtain ⟨vs, ds, rfl, rfl, _⟩ := hcells
   cases e
 | _ => exact (Does.fail hd).elim
theorem Src.cells {v : Value} {s : Nat} {es : List (List DV)} (h : Src w K v s es) (hs : 0 < s) : ∃ nv : List Value, nv.length = es.length * s ∧ (∀ w : World, (Builtin.lenOf v).run P w = .ok es.length w) ∧ (∀ w1 : World, w1.heap = w.heap → (Builtin.firstCells s es.length v).run P w1 = .ok nv.toArray w1) ∧
  ∀ i j ch d, es[i]? = some ch → ch[j]? = some d → ∃ u, nv[i * s + j]? = some u ∧ CRep K u d := by
 obtain ⟨A, cap, rfl, hle, h1⟩ := h
 by_cases hes : es = []
 ·subst hes
  refine ⟨[], by simp, fun _ => rfl, fun w1 _ => ?_, fun i j ch d hi _ => by simp at hi⟩
  cases A with
  | none => rfl
  | some A => simp [Builtin.firstCells]; rfl
 ·obtain ⟨b, off, rfl, h2, h3⟩ := h1 hes
  obtain ⟨nv, q1, q2, q3⟩ := flat_cells (R := CRep K) (f := fun k => Kall w b (off + k)) hs h2 (fun i j ch d hi hj => by
   obtain ⟨u, hu, hr⟩ := h3 i j ch d hi hj
   exact ⟨u, by rw [← Nat.add_assoc]; exact hu, hr⟩)
  refine ⟨nv, q1, fun _ => rfl, fun w1 hw1 => ?_, q3⟩
  simp only [Builtin.firstCells]
  rw [← q1]
  refine run_loadCells_list w1 ⟨b, off, none⟩ nv fun j v hj => ?_
  rw [addr_add]
  have := q2 j v hj
  have hk : Kall w1 b (off + j) = some v := by unfold Kall at this ⊢; rw [hw1]; exact this
  exact kall_cell hk
theorem Pr.bind_pure' {α : Type} (m : Pr α) : m.bind Pr.pure = m := by
 induction m with
 | pure a => rfl
 | fail => rfl
 | get p k ih => simp only [Pr.bind]; congr 1; funext c; exact ih c
 | set p c k ih => simp only [Pr.bind]; rw [ih]
 | askB b k ih => simp only [Pr.bind]; congr 1; funext c; exact ih c
 | askT b k ih => simp only [Pr.bind]; rw [ih]
 | askC es i k ih => simp only [Pr.bind]; congr 1; funext c; exact ih c
 | askI i k ih => simp only [Pr.bind]; congr 1; funext c; exact ih c
 | askF q k ih => simp only [Pr.bind]; congr 1; funext c; exact ih c
theorem Pr.bind_assoc' {α β γ : Type} (m : Pr α) (f : α → Pr β) (g : β → Pr γ) : (m.bind f).bind g = m.bind fun x => (f x).bind g := by
 induction m with
 | pure a => rfl
 | fail => rfl
 | get p k ih => simp only [Pr.bind]; congr 1; funext c; exact ih c
 | set p c k ih => simp only [Pr.bind]; rw [ih]
 | askB b k ih => simp only [Pr.bind]; congr 1; funext c; exact ih c
 | askT b k ih => simp only [Pr.bind]; rw [ih]
 | askC es i k ih => simp only [Pr.bind]; congr 1; funext c; exact ih c
 | askI i k ih => simp only [Pr.bind]; congr 1; funext c; exact ih c
 | askF q k ih => simp only [Pr.bind]; congr 1; funext c; exact ih c
instance : LawfulMonad Pr := LawfulMonad.mk' Pr (id_map := fun x => Pr.bind_pure' x) (pure_bind := fun _ _ => rfl) (bind_assoc := fun x f g => Pr.bind_assoc' x f g)
theorem Does.mapM_nil {α β : Type} {f : α → Pr β} {ys : List β} (h : Does C (List.mapM f []) σ ys σ') : ys = [] ∧ σ' = σ := by
 rw [List.mapM_nil] at h; exact Does.pure h
theorem Does.mapM_cons {α β : Type} {f : α → Pr β} {x : α} {l : List α} {ys : List β} (h : Does C (List.mapM f (x :: l)) σ ys σ') : ∃ y σ1 r, Does C (f x) σ y σ1 ∧ Does C (List.mapM f l) σ1 r σ' ∧ ys = y :: r := by
 rw [List.mapM_cons] at h
 obtain ⟨y, σ1, h1, h2⟩ := Does.bind h
 obtain ⟨r, σ2, h3, h4⟩ := Does.bind h2
 obtain ⟨e1, e2⟩ := Does.pure h4
 subst e2
 exact ⟨y, σ1, r, h1, h3, e1⟩
theorem SRel.opds (h : SRel nt Fr H0 m K who σ a w) : ∀ {l : List Operand} {ys : List AV}, Does C (l.mapM Vam.opd) σ ys σ' → σ' = σ ∧ All2 (fun x y => VRep σ a w m K (a.eval x) y) l ys
 | [], ys, hd => by
  obtain ⟨rfl, e⟩ := Does.mapM_nil hd
  exact ⟨e, .nil⟩
 | x :: l, ys, hd => by
  obtain ⟨y, σ1, r, h1, h2, e⟩ := Does.mapM_cons hd
  obtain ⟨e1, hv⟩ := h.opd h1
  rw [e1] at h2
  obtain ⟨e2, hvs⟩ := h.opds h2
  exact ⟨e2, by rw [e]; exact .cons hv hvs⟩

theorem bytes_extract (u : ByteArray) : u.extract 0 u.size = u := by simp
theorem bytesC_src {u : ByteArray} : ∃ nv : List Value, nv.length = (bytesC u).length * 1 ∧ (∀ w : World, (Builtin.lenOf (.string u)).run P w = .ok (bytesC u).length w) ∧ (∀ w1 : World, (Builtin.firstCells 1 (bytesC u).length (.string u)).run P w1 = .ok nv.toArray w1) ∧
  (∀ ch, ch ∈ bytesC u → ch.length = 1) ∧ ∀ i j ch d, (bytesC u)[i]? = some ch → ch[j]? = some d → ∃ v, nv[i * 1 + j]? = some v ∧ CRep K v d := by
 have hl : (bytesC u).length = u.size := by simp only [bytesC, List.length_map, Array.length_toList]; rfl
 refine ⟨u.data.toList.map fun b => .int .u8 b.toNat, by simp only [bytesC, List.length_map, Nat.mul_one], fun w => by rw [hl]; rfl, fun w1 => ?_, fun ch hch => ?_, fun i j ch d hi hj => ?_⟩
 ·rw [hl]
  simp only [Builtin.firstCells]
  rw [bytes_extract, ← Array.toList_map, Array.toArray_toList]
  rfl
 ·simp [bytesC] at hch; obtain ⟨b, _, rfl⟩ := hch; rfl
 ·unfold bytesC at hi
  rw [List.getElem?_map, Option.map_eq_some_iff] at hi
  obtain ⟨b, hb, rfl⟩ := hi
  have hj0 : j = 0 := by have := (List.getElem?_eq_some_iff.1 hj).1; simp at this; exact this
  subst hj0
  simp at hj
  subst hj
  refine ⟨.int .u8 b.toNat, ?_, .val rfl⟩
  rw [Nat.mul_one, Nat.add_zero, List.getElem?_map, hb]; rfl
def srcPr (s : Nat) (y : AV) : Pr (List (List DV)) := do
  match ← Vam.view y with
  | .slc _ _ s' es => do
   must (Nat.beq s s' || es.isEmpty)
   pure es
  | .val (.string u) => do
   must (Nat.beq s 1)
   pure (bytesC u)
  | _ => .fail
theorem srcPr_ok {s : Nat} (hs : 0 < s) (h : SRel nt Fr H0 m K who σ a w) {y : AV} {v : Value} {es : List (List DV)} (hv : VRep σ a w m K v y) (hd : Does C (srcPr s y) σ es σ') : σ' = σ ∧
  ∃ nv : List Value, nv.length = es.length * s ∧ (∀ w : World, (Builtin.lenOf v).run P w = .ok es.length w) ∧ (∀ w1 : World, w1.heap = w.heap → (Builtin.firstCells s es.length v).run P w1 = .ok nv.toArray w1) ∧
  (∀ ch, ch ∈ es → ch.length = s) ∧ (∀ u, u ∈ nv → oneC u = true) ∧ ∀ i j ch d, es[i]? = some ch → ch[j]? = some d → ∃ u, nv[i * s + j]? = some u ∧ CRep K u d := by
 have hone : ∀ {nv : List Value} {es : List (List DV)}, nv.length = es.length * s → (∀ ch, ch ∈ es → ch.length = s) → (∀ i j ch d, es[i]? = some ch → ch[j]? = some d → ∃ u, nv[i * s + j]? = some u ∧ CRep K u d) → ∀ u, u ∈ nv → oneC u = true := by
  intro nv es hl hc hr u hu
  obtain ⟨k, hk⟩ := List.getElem?_of_mem hu
  have hkl := (List.getElem?_eq_some_iff.1 hk).1
  have h1 : k / s < es.length := by rw [Nat.div_lt_iff_lt_mul hs]; omega
  have h2 : k % s < s := Nat.mod_lt _ hs
  have h3 := hc es[k / s] (List.getElem_mem h1)
  obtain ⟨u', hu', hr'⟩ := hr (k / s) (k % s) es[k / s] (es[k / s][k % s]'(by omega)) (List.getElem?_eq_getElem h1) (List.getElem?_eq_getElem (by omega))
  rw [Nat.mul_comm, Nat.div_add_mod, hk] at hu'
  cases hu'
  exact hr'.one.1
 obtain ⟨d, σ1, h1, h2⟩ := Does.bind hd
 have hσ := (h.view hv h1).1
 cases d with
 | slc own nl s' es0 =>
  have hsrc := h.viewSrc hv h1
  obtain ⟨_, σ2, h3, h4⟩ := Does.bind h2
  obtain ⟨e1, h3'⟩ := Does.must h3
  obtain ⟨rfl, h4'⟩ := Does.pure h4
  have hs' : Src w K v s es ∧ ∀ ch, ch ∈ es → ch.length = s := by
   rw [Bool.or_eq_true] at e1
   rcases e1 with g | g
   ·have := Nat.eq_of_beq_eq_true g
    subst this
    refine ⟨hsrc, fun ch hch => ?_⟩
    obtain ⟨A, cap, _, _, q⟩ := hsrc
    obtain ⟨_, _, _, q1, _⟩ := q (fun e => by subst e; simp at hch)
    exact q1 ch hch
   ·have : es = [] := by simpa using g
    subst this
    obtain ⟨A, cap, q1, q2, q3⟩ := hsrc
    exact ⟨⟨A, cap, q1, q2, fun e => absurd rfl e⟩, fun ch hch => by simp at hch⟩
  obtain ⟨nv, q1, q2, q3, q4⟩ := hs'.1.cells (P := P) hs
  exact ⟨by rw [h4', h3', hσ], nv, q1, q2, q3, hs'.2, hone q1 hs'.2 q4, q4⟩
 | val x =>
  cases x with
  | string u =>
   obtain ⟨_, σ2, h3, h4⟩ := Does.bind h2
   obtain ⟨e1, h3'⟩ := Does.must h3
   obtain ⟨rfl, h4'⟩ := Does.pure h4
   have hs1 : s = 1 := Nat.eq_of_beq_eq_true e1
   have hv' : v = .string u := urep_val (h.view hv h1).2
   subst hs1; subst hv'
   obtain ⟨nv, q1, q2, q3, q4, q5⟩ := bytesC_src (P := P) (K := K) (u := u)
   exact ⟨by rw [h4', h3', hσ], nv, q1, q2, fun w1 _ => q3 w1, q4, hone q1 q4 q5, q5⟩
  | _ => exact (Does.fail h2).elim
 | _ => exact (Does.fail h2).elim
theorem storeRow {b off s cap : Nat} {es es' : List (List DV)} {nv : List Value} (hs : 0 < s) (hlen : ∀ ch, ch ∈ es → ch.length = s) (hlen' : ∀ ch, ch ∈ es' → ch.length = s) (hrow : RowAt w K b off cap s es) (hnl : nv.length = es'.length * s) (hone : ∀ u, u ∈ nv → oneC u = true)
  (hnv : ∀ i j ch d, es'[i]? = some ch → ch[j]? = some d → ∃ u, nv[i * s + j]? = some u ∧ CRep K u d) (hc : es.length + es'.length ≤ cap) :
  ∃ w' : World, (storeCells ⟨b, off + es.length * s, none⟩ nv).run P w = .ok () w' ∧ RowAt w' K b off cap s (es ++ es') ∧ (∀ b', b' ≠ b → w'.heap[b']? = w.heap[b']?) ∧ w'.heap.size = w.heap.size ∧ WSame w w' := by
 obtain ⟨cs, el, fr, p1, p2, p3, p4⟩ := hrow
 have hcap : (es.length + es'.length) * s ≤ cap * s := Nat.mul_le_mul_right s hc
 rw [Nat.add_mul] at hcap
 obtain ⟨w', cs', s1, s2, s3, s4, s5, s6⟩ := storeCells_run (P := P) (b := b) (o := off + es.length * s) nv 0 cs w p1 (by omega) (fun j hj => p3 j (by omega)) hone
 have hle : off + es.length * s + 0 + nv.length ≤ cs.toList.length := by simp; omega
 have hsz : cs'.size = cs.size := by
  have := congrArg List.length s3
  rw [setRange_length hle] at this; simpa using this
 refine ⟨w', s1, ⟨cs', el, fr, s2, by omega, fun j hj => p3 j (by omega), fun i j ch d hi hj => ?_⟩, s4, s5, s6⟩
 have hget : cs'[off + i * s + j]? = (setRange cs.toList (off + es.length * s + 0) nv)[off + i * s + j]? := by rw [← s3]; simp
 rw [hget, setRange_get hle, hnl]
 have hjl := (List.getElem?_eq_some_iff.1 hj).1
 by_cases hin : i < es.length
 ·rw [List.getElem?_append_left hin] at hi
  have hjs : j < s := by rw [← hlen ch (List.mem_of_getElem? hi)]; exact hjl
  have h3 : (i + 1) * s ≤ es.length * s := Nat.mul_le_mul_right s (by omega)
  rw [Nat.add_mul, Nat.one_mul] at h3
  rw [if_neg (by omega)]
  obtain ⟨u, hu, hr⟩ := p4 i j ch d hi hj
  exact ⟨u, by simpa using hu, hr⟩
 ·rw [List.getElem?_append_right (by omega)] at hi
  have hjs : j < s := by rw [← hlen' ch (List.mem_of_getElem? hi)]; exact hjl
  have hil := (List.getElem?_eq_some_iff.1 hi).1
  have h3 : (i - es.length + 1) * s ≤ es'.length * s := Nat.mul_le_mul_right s (by omega)
  rw [Nat.add_mul, Nat.one_mul] at h3
  have h4 : i * s = es.length * s + (i - es.length) * s := by rw [← Nat.add_mul]; congr 1; omega
  rw [if_pos (by omega)]
  obtain ⟨u, hu, hr⟩ := hnv (i - es.length) j ch d hi hj
  refine ⟨u, ?_, hr⟩
  rw [← hu]; congr 1; omega
theorem newRow_at {h0 : Array Obj} {w' : World} {e : TypeId} {s ncap : Nat} {es es' : List (List DV)} {ov nv rest : List Value} (hs : 0 < s) (hlen : ∀ ch, ch ∈ es → ch.length = s) (hlen' : ∀ ch, ch ∈ es' → ch.length = s) (hh : w'.heap = h0.push (.cells (ov ++ nv ++ rest).toArray e)) (hol : ov.length = es.length * s) (hnl : nv.length = es'.length * s)
  (hov : ∀ i j ch d, es[i]? = some ch → ch[j]? = some d → ∃ u, ov[i * s + j]? = some u ∧ CRep K u d) (hnv : ∀ i j ch d, es'[i]? = some ch → ch[j]? = some d → ∃ u, nv[i * s + j]? = some u ∧ CRep K u d)
  (hc : es.length + es'.length ≤ ncap) (hr : rest.length = (ncap - (es.length + es'.length)) * s) : RowAt w' K h0.size 0 ncap s (es ++ es') := by
 refine ⟨(ov ++ nv ++ rest).toArray, e, (0, 0), by rw [hh]; simp, ?_, fun j _ => by simp, fun i j ch d hi hj => ?_⟩
 ·simp only [List.size_toArray, List.length_append, hol, hnl, hr, Nat.zero_add]
  rw [← Nat.add_mul, ← Nat.add_mul]
  exact ⟨Nat.mul_le_mul_right s (by omega), Nat.le_refl _⟩
 ·simp only [List.getElem?_toArray, Nat.zero_add]
  have hjl := (List.getElem?_eq_some_iff.1 hj).1
  by_cases hin : i < es.length
  ·rw [List.getElem?_append_left hin] at hi
   have hjs : j < s := by rw [← hlen ch (List.mem_of_getElem? hi)]; exact hjl
   have h3 : (i + 1) * s ≤ es.length * s := Nat.mul_le_mul_right s (by omega)
   rw [Nat.add_mul, Nat.one_mul] at h3
   obtain ⟨u, hu, hr⟩ := hov i j ch d hi hj
   exact ⟨u, by rw [List.append_assoc, List.getElem?_append_left (by omega)]; exact hu, hr⟩
  ·rw [List.getElem?_append_right (by omega)] at hi
   have hjs : j < s := by rw [← hlen' ch (List.mem_of_getElem? hi)]; exact hjl
   have hil := (List.getElem?_eq_some_iff.1 hi).1
   have h3 : (i - es.length + 1) * s ≤ es'.length * s := Nat.mul_le_mul_right s (by omega)
   rw [Nat.add_mul, Nat.one_mul] at h3
   have h4 : i * s = es.length * s + (i - es.length) * s := by rw [← Nat.add_mul]; congr 1; omega
   obtain ⟨u, hu, hr⟩ := hnv (i - es.length) j ch d hi hj
   refine ⟨u, ?_, hr⟩
   rw [List.append_assoc, List.getElem?_append_right (by omega), List.getElem?_append_left (by omega), ← hu]
   congr 1; omega

theorem basePr_ok {s dt : Nat} {x : AV} {v1 : Value} {es : List (List DV)} (h : SRel nt Fr H0 m K who σ a w) (hx : VRep σ a w m K v1 x) (hd : Does C (basePr s x) σ es σ') :
  ∃ who', SRel nt Fr H0 m K who' σ' a w ∧ (∀ ch, ch ∈ es → ch.length = s) ∧ ∃ A cap, v1 = .slice A es.length cap ∧ es.length ≤ cap ∧ ((A = none ∧ cap = 0 ∧ es = []) ∨ (∃ A', A = some A' ∧ cap = 0 ∧ es = []) ∨ ∃ bb off, A = some ⟨bb, off, none⟩ ∧ who' bb = some (.t dt, some 0) ∧ RowAt w K bb off cap s es) := by
 obtain ⟨x1, σ10, h19, h20⟩ := Does.bind hd
 obtain ⟨who', g1, g3, g4, g5⟩ := h.take1 hx h19 (.t dt) 0
 have hbase : σ' = σ10 ∧ (∀ ch, ch ∈ es → ch.length = s) ∧ ∃ A cap, v1 = .slice A es.length cap ∧ es.length ≤ cap ∧ ((A = none ∧ cap = 0 ∧ es = []) ∨ (∃ A', A = some A' ∧ cap = 0 ∧ es = []) ∨ ∃ bb off, A = some ⟨bb, off, none⟩ ∧ who' bb = some (.t dt, some 0) ∧ RowAt w K bb off cap s es) := by
  cases x1 with
  | data d1 =>
   obtain ⟨vs, f1, f2, f3⟩ := g4
   cases d1 with
   | slc own nl s' es1 =>
    simp only [DV.form, Bool.false_eq_true, if_false] at f2
    subst f2
    cases f1 with
    | cons g _ =>
     cases own with
     | true =>
      obtain ⟨_, σ11, h21, h22⟩ := Does.bind h20
      obtain ⟨q3, h21'⟩ := Does.must h21
      obtain ⟨rfl, h22'⟩ := Does.pure h22
      refine ⟨by rw [h22', h21'], ?_⟩
      have hO := g.2 rfl
      cases hO with
      | nil _ => exact ⟨fun ch hch => by simp at hch, none, 0, rfl, by simp, .inl ⟨rfl, rfl, rfl⟩⟩
      | empty _ => exact ⟨fun ch hch => by simp at hch, _, 0, rfl, by simp, .inr (.inl ⟨_, rfl, rfl, rfl⟩)⟩
      | slc o1 o2 o3 o4 o5 o6 =>
       have := Nat.eq_of_beq_eq_true q3
       subst this
       exact ⟨o4, _, _, rfl, o3, .inr (.inr ⟨_, _, rfl, o5, o6⟩)⟩
     | false =>
      cases nl with
      | none => exact (Does.fail h20).elim
      | some nl =>
       cases nl with
       | false => exact (Does.fail h20).elim
       | true =>
        cases es1 with
        | cons _ _ => exact (Does.fail h20).elim
        | nil =>
         obtain ⟨rfl, h22'⟩ := Does.pure h20
         refine ⟨h22', fun ch hch => by simp at hch, ?_⟩
         have hC := g.1 rfl
         cases hC with
         | nil _ => exact ⟨none, 0, rfl, by simp, .inl ⟨rfl, rfl, rfl⟩⟩
         | empty hh => exact absurd rfl hh
         | slc _ hh _ _ _ _ => exact absurd rfl hh
   | _ => exact (Does.fail h20).elim
  | _ => exact (Does.fail h20).elim
 obtain ⟨e9, r⟩ := hbase
 exact ⟨who', by rw [e9]; exact g1, r⟩
theorem app_core {dt : Nat} {e : TypeId} {s cap : Nat} {A : Option Addr} {es es' : List (List DV)} {nv : List Value} {z : Value} {R : Sem Value} {k : Nat} (g1 : SRel nt Fr H0 m K who σ a w) (hdlt : dt < nt) (hs0 : 0 < s) (hzs : z.cells.size = s) (hk : (σ (.t dt)).k + 1 = k)
  (hlen : ∀ ch, ch ∈ es → ch.length = s) (n4 : ∀ ch, ch ∈ es' → ch.length = s) (n1 : nv.length = es'.length * s) (n5 : ∀ u, u ∈ nv → oneC u = true) (n6 : ∀ i j ch d, es'[i]? = some ch → ch[j]? = some d → ∃ u, nv[i * s + j]? = some u ∧ CRep K u d) (hcap : es.length ≤ cap)
  (hA : (A = none ∧ cap = 0 ∧ es = []) ∨ (∃ A', A = some A' ∧ cap = 0 ∧ es = []) ∨ ∃ bb off, A = some ⟨bb, off, none⟩ ∧ who bb = some (.t dt, some 0) ∧ RowAt w K bb off cap s es)
  (hroom : ∀ w' : World, es.length + es'.length ≤ cap → (match (generalizing := false) A with | some a => (storeCells (a.add (es.length * s)) nv).run P w = .ok () w' | none => w' = w) → R.run P w = .ok (.slice A (es.length + es'.length) cap) w')
  (hgrow : ∀ ov : List Value, (∀ w1 : World, w1.heap = w.heap → (Builtin.firstCells s es.length (.slice A es.length cap)).run P w1 = .ok ov.toArray w1) → ¬ es.length + es'.length ≤ cap → ∃ (ncap : Nat) (rest : List Value) (w' : World), es.length + es'.length ≤ ncap ∧ (rest.length = (ncap - (es.length + es'.length)) * z.cells.size) ∧ R.run P w = .ok (.slice (some ⟨w.heap.size, 0, none⟩) (es.length + es'.length) ncap) w' ∧
   w'.heap = w.heap.push (.cells (ov ++ nv ++ rest).toArray e) ∧ WSame w w') :
  ∃ v w' who', R.run P w = .ok v w' ∧ SRel nt Fr H0 m K who' (σ.put (.t dt) ⟨[.data (.slc true none s (es ++ es'))], true, k⟩) (a.put (some dt) v) w' := by
 subst hk
 have hlenAll : ∀ ch, ch ∈ es ++ es' → ch.length = s := fun ch hch => by
  rcases List.mem_append.1 hch with g | g
  ·exact hlen ch g
  ·exact n4 ch g
 by_cases hc : es.length + es'.length ≤ cap
 ·-- in place
  rcases hA with ⟨rfl, rfl, rfl⟩ | ⟨A', rfl, rfl, rfl⟩ | ⟨bb, off, rfl, hwb, hrow⟩
  ·have : es' = [] := List.length_eq_zero_iff.1 (by simp at hc; simpa using hc)
   subst this
   refine ⟨_, w, who, hroom w hc rfl, ?_⟩
   exact g1.putMix hdlt (fun _ => False) (fun b hb => hb.elim) (fun b _ _ => rfl) (fun b _ => rfl) (fun b x hx => g1.wh b x hx) (WSame.refl _) ⟨fun e => by simp [DV.owned1] at e, fun _ => .nil (by simp)⟩
  ·have : es' = [] := List.length_eq_zero_iff.1 (by simp at hc; simpa using hc)
   subst this
   have hnv : nv = [] := List.length_eq_zero_iff.1 (by simpa using n1)
   subst hnv
   refine ⟨_, w, who, hroom w hc rfl, ?_⟩
   exact g1.putMix hdlt (fun _ => False) (fun b hb => hb.elim) (fun b _ _ => rfl) (fun b _ => rfl) (fun b x hx => g1.wh b x hx) (WSame.refl _) ⟨fun e => by simp [DV.owned1] at e, fun _ => .empty (by simp)⟩
  ·obtain ⟨w', r1, r2, r3, r4, r5⟩ := storeRow (P := P) hs0 hlen n4 hrow n1 n5 n6 hc
   refine ⟨_, w', who, hroom w' hc (by simp only [addr_add]; exact r1), ?_⟩
   refine g1.putMix hdlt (fun b => b = bb) (fun b hb => .inl ⟨0, by rw [hb]; exact hwb⟩) (fun b hb _ => r3 b hb) (fun b _ => rfl) (fun b x hx => by rw [r4]; exact g1.wh b x hx) r5 ⟨fun e => by simp [DV.owned1] at e, fun _ => ?_⟩
   have := ORep.slc (w := w') (K := K) (who := who) (p := .t dt) (c := 0) (nl := none) (es := es ++ es') (sz := s) (cap := cap) (by simp) hs0 (by simpa using hc) hlenAll hwb r2
   simpa using this
 ·-- a new row
  have hov : ∃ ov : List Value, ov.length = es.length * s ∧ (∀ w1 : World, w1.heap = w.heap → (Builtin.firstCells s es.length (.slice A es.length cap)).run P w1 = .ok ov.toArray w1) ∧ ∀ i j ch d, es[i]? = some ch → ch[j]? = some d → ∃ u, ov[i * s + j]? = some u ∧ CRep K u d := by
   have hsrc : Src w K (.slice A es.length cap) s es := by
    refine ⟨A, cap, rfl, hcap, fun hne => ?_⟩
    rcases hA with ⟨_, _, e⟩ | ⟨_, _, _, e⟩ | ⟨bb, off, rfl, hwb, cs, el, fr, p1, p2, p3, p4⟩
    ·exact absurd e hne
    ·exact absurd e hne
    ·exact ⟨bb, off, rfl, hlen, fun i j ch d hi hj => by
      obtain ⟨u, hu, hr⟩ := p4 i j ch d hi hj
      exact ⟨u, by simp [Kall, p1, hu], hr⟩⟩
   obtain ⟨ov, o1, _, o3, o4⟩ := hsrc.cells (P := P) hs0
   exact ⟨ov, o1, o3, o4⟩
  obtain ⟨ov, o1, o2, o3⟩ := hov
  obtain ⟨ncap, rest, w', r1, r2, r3, r4, r5⟩ := hgrow ov o2 hc
  rw [hzs] at r2
  have hrow := newRow_at (K := K) hs0 hlen n4 r4 o1 n1 o3 n6 r1 r2
  refine ⟨_, w', fun b => if b = w.heap.size then some (.t dt, some 0) else who b, r3, ?_⟩
  refine g1.putMix hdlt (fun b => b = w.heap.size) (fun b hb => .inr (by omega)) (fun b hb hlt => by rw [r4, Array.getElem?_push, if_neg (by omega)]) (fun b hb => if_neg hb) (fun b x hx => by
   rw [r4, Array.size_push]
   split at hx
   ·omega
   ·have := g1.wh b x hx; omega) r5 ⟨fun e => by simp [DV.owned1] at e, fun _ => ?_⟩
  have := ORep.slc (w := w') (K := K) (who := fun b => if b = w.heap.size then some (.t dt, some 0) else who b) (p := .t dt) (c := 0) (nl := none) (es := es ++ es') (sz := s) (cap := ncap) (by simp) hs0 (by simpa using r1) hlenAll (by simp) hrow
  simpa using this
theorem appendPr_ok {t ty : TypeId} {d : Option Tmp} {x y : AV} {v1 v2 : Value} {u : Unit} (h : SRel nt Fr H0 m K who σ a w) (hdst : ∀ t, d = some t → t < nt) (hx : VRep σ a w m K v1 x) (hy : VRep σ a w m K v2 y)
  (hty : (match P.underlying ty with | some (.int _) => false | some _ => true | none => false) = true) (hd : Does C (appendPr P d t x y) σ u σ') :
  ∃ v w' K' who', (Builtin.append_ #[t, ty] t #[v1, v2]).run P w = .ok v w' ∧ SRel nt Fr H0 m K' who' σ' (a.put d v) w' ∧ K.le K' := by
 obtain ⟨dt, σ1, h1, h2⟩ := Does.bind hd
 obtain ⟨hdt, h1'⟩ := Does.of h1
 rw [h1'] at h2
 obtain ⟨e, σ2, h3, h4⟩ := Does.bind h2
 obtain ⟨he, h3'⟩ := Does.of h3
 rw [h3'] at h4
 obtain ⟨s, σ3, h5, h6⟩ := Does.bind h4
 obtain ⟨hs, h5'⟩ := Does.of h5
 rw [h5'] at h6
 obtain ⟨b, σ4, h7, h8⟩ := Does.bind h6
 obtain ⟨hb, h7'⟩ := Does.of h7
 rw [h7'] at h8
 obtain ⟨zc, σ5, h9, h10⟩ := Does.bind h8
 obtain ⟨hzc, h9'⟩ := Does.of h9
 rw [h9'] at h10
 obtain ⟨_, σ6, h11, h12⟩ := Does.bind h10
 obtain ⟨q1, h11'⟩ := Does.must h11
 rw [h11'] at h12
 obtain ⟨_, σ7, h13, h14⟩ := Does.bind h12
 obtain ⟨q2, h13'⟩ := Does.must h13
 rw [h13'] at h14
 obtain ⟨es', σ8, h15, h16⟩ := Does.bind h14
 have hsb : 0 < s ∧ b ≤ 4096 := of_decide_eq_true q2
 have hzl : zc.length = s := Nat.eq_of_beq_eq_true q1
 obtain ⟨z, hz, hl, hr⟩ := zeroC_run hzc
 obtain ⟨e8, nv, n1, n2, n3, n4, n5, n6⟩ := srcPr_ok (P := P) (s := s) hsb.1 h hy h15
 rw [e8] at h16
 obtain ⟨es, σ9, h17, h18⟩ := Does.bind h16
 have hdlt := hdst dt hdt
 have hzs : z.cells.size = s := by have : z.cells.size = z.cells.toList.length := by simp
                                   omega
 obtain ⟨who', g1, hlen, A, cap, rfl, hcap, hA⟩ := basePr_ok (dt := dt) h hx h17
 obtain ⟨_, σ12, h23, h24⟩ := Does.bind h18
 obtain ⟨q4, h23'⟩ := Does.need h23
 rw [h23'] at h24
 have hlim : es.length + es'.length ≤ 4294967296 := of_decide_eq_true q4
 rw [hdt] at h24 ⊢
 rcases Does.putT h24 with ⟨e, _⟩ | ⟨t', e, hσ⟩
 ·cases e
 cases e
 rw [hσ]
 obtain ⟨v, w', who'', r1, r2⟩ := app_core (P := P) (R := Builtin.append_ #[t, ty] t #[.slice A es.length cap, v2]) g1 hdlt hsb.1 hzs rfl hlen n4 n1 n5 n6 hcap hA (fun w' hc hw => append_room (nv := nv) (w' := w') he hs hty n2 (n3 w rfl) hc hw) (fun ov o2 hc => append_grow (nv := nv) (ov := ov) he hs hb hz hty n2 n3 o2 hc hsb hlim hcap)
 exact ⟨v, w', K, who'', r1, r2, Kn.le.refl K⟩
theorem appendZ_ok {t ty : TypeId} {d : Option Tmp} {x : AV} {v1 : Value} {k kk : IntKind} {n : Int} {u : Unit} (h : SRel nt Fr H0 m K who σ a w) (hdst : ∀ t, d = some t → t < nt) (hx : VRep σ a w m K v1 x)
  (hty : P.underlying ty = some (.int kk)) (hd : Does C (appendZPr P d t x n) σ u σ') :
  ∃ v w' K' who', (Builtin.append_ #[t, ty] t #[v1, .int k n]).run P w = .ok v w' ∧ SRel nt Fr H0 m K' who' σ' (a.put d v) w' ∧ K.le K' := by
 obtain ⟨dt, σ1, h1, h2⟩ := Does.bind hd
 obtain ⟨hdt, h1'⟩ := Does.of h1
 rw [h1'] at h2
 obtain ⟨e, σ2, h3, h4⟩ := Does.bind h2
 obtain ⟨he, h3'⟩ := Does.of h3
 rw [h3'] at h4
 obtain ⟨s, σ3, h5, h6⟩ := Does.bind h4
 obtain ⟨hs, h5'⟩ := Does.of h5
 rw [h5'] at h6
 obtain ⟨b, σ4, h7, h8⟩ := Does.bind h6
 obtain ⟨hb, h7'⟩ := Does.of h7
 rw [h7'] at h8
 obtain ⟨zc, σ5, h9, h10⟩ := Does.bind h8
 obtain ⟨hzc, h9'⟩ := Does.of h9
 rw [h9'] at h10
 obtain ⟨_, σ6, h11, h12⟩ := Does.bind h10
 obtain ⟨q1, h11'⟩ := Does.must h11
 rw [h11'] at h12
 obtain ⟨_, σ7, h13, h14⟩ := Does.bind h12
 obtain ⟨q2, h13'⟩ := Does.must h13
 rw [h13'] at h14
 obtain ⟨_, σ8, h15, h16⟩ := Does.bind h14
 obtain ⟨q3, h15'⟩ := Does.need h15
 rw [h15'] at h16
 have hsb : 0 < s ∧ b ≤ 4096 := of_decide_eq_true q2
 have hn : 0 ≤ n ∧ n ≤ 4294967296 := of_decide_eq_true q3
 have hzl : zc.length = s := Nat.eq_of_beq_eq_true q1
 obtain ⟨z, hz, hl, hr⟩ := zeroC_run hzc
 obtain ⟨es, σ9, h17, h18⟩ := Does.bind h16
 have hdlt := hdst dt hdt
 have hzs : z.cells.size = s := by have : z.cells.size = z.cells.toList.length := by simp
                                   omega
 obtain ⟨who', g1, hlen, A, cap, rfl, hcap, hA⟩ := basePr_ok (dt := dt) h hx h17
 obtain ⟨_, σ12, h23, h24⟩ := Does.bind h18
 obtain ⟨q4, h23'⟩ := Does.need h23
 rw [h23'] at h24
 have hlim : es.length + n.toNat ≤ 4294967296 := of_decide_eq_true q4
 rw [hdt] at h24 ⊢
 rcases Does.putT h24 with ⟨e, _⟩ | ⟨t', e, hσ⟩
 ·cases e
 cases e
 rw [hσ]
 have hzc' : Builtin.zeroCells z.cells n.toNat = zeroRow z.cells (n.toNat * s) := by simp [Builtin.zeroCells, zeroRow, hzs]
 have hrl : (List.replicate n.toNat zc).length = n.toNat := by simp
 have n4 : ∀ ch, ch ∈ List.replicate n.toNat zc → ch.length = s := fun ch hch => by
  rw [List.mem_replicate] at hch; rw [hch.2]; exact hzl
 have n6 : ∀ i j ch d, (List.replicate n.toNat zc)[i]? = some ch → ch[j]? = some d → ∃ u, (Builtin.zeroCells z.cells n.toNat).toList[i * s + j]? = some u ∧ CRep K u d := fun i j ch d hi hj => by
  rw [List.getElem?_replicate] at hi
  split at hi
  ·rename_i hin
   cases hi
   have hjl := (List.getElem?_eq_some_iff.1 hj).1
   obtain ⟨v, hv⟩ : ∃ v, z.cells.toList[j]? = some v := ⟨_, List.getElem?_eq_getElem (by omega)⟩
   have hco := hr w K who' (.t 0) j v d hv hj 0
   refine ⟨v, ?_, hco.1 (zeroC_own hzc d (List.mem_of_getElem? hj))⟩
   rw [Array.getElem?_toList, hzc']
   refine zeroRow_get hzs hv ?_
   have : i + 1 ≤ n.toNat := by omega
   have := Nat.mul_le_mul_right s this
   rw [Nat.add_mul, Nat.one_mul] at this
   omega
  ·cases hi
 have n1 : (Builtin.zeroCells z.cells n.toNat).toList.length = (List.replicate n.toNat zc).length * s := by
  rw [hrl, hzc', Array.length_toList, zeroRow_size]
 have n5 : ∀ u, u ∈ (Builtin.zeroCells z.cells n.toNat).toList → oneC u = true := fun u hu => by
  obtain ⟨k, hk⟩ := List.getElem?_of_mem hu
  have hkl := (List.getElem?_eq_some_iff.1 hk).1
  rw [n1, hrl] at hkl
  have h1 : k / s < n.toNat := by rw [Nat.div_lt_iff_lt_mul hsb.1]; omega
  have h2 : k % s < s := Nat.mod_lt _ hsb.1
  obtain ⟨u', hu', hr'⟩ := n6 (k / s) (k % s) zc (zc[k % s]'(by omega)) (by rw [List.getElem?_replicate, if_pos h1]) (List.getElem?_eq_getElem (by omega))
  rw [Nat.mul_comm, Nat.div_add_mod, hk] at hu'
  cases hu'
  exact hr'.one.1
 obtain ⟨v, w', who'', r1, r2⟩ := app_core (P := P) (z := z) (e := e) (R := Builtin.append_ #[t, ty] t #[.slice A es.length cap, .int k n]) g1 hdlt hsb.1 hzs rfl hlen n4 n1 n5 n6 hcap hA
  (fun w' hc hw => by rw [hrl] at hc ⊢; exact append_roomZ (w' := w') he hs hb hty hz hzs hsb hn hc hw)
  (fun ov o2 hc => by rw [hrl] at hc ⊢; exact append_growZ (ov := ov) he hs hb hty hz hzs o2 hc hsb hn hlim hcap)
 exact ⟨v, w', K, who'', r1, r2, Kn.le.refl K⟩
end
end Go.Proofs.Ytknkeabmjleoiaa.Vam
/- The machine by value and the model: a row is cleared. -/
namespace Go.Proofs.Ytknkeabmjleoiaa.Vam
open Go
set_option linter.unusedVariables false
set_option linter.unusedSimpArgs false
section
variable {P : Program} {C : Query → Answer → Prop} {nt : Nat} {Fr : Nat → Prop} {H0 : Hd} {m : Om} {K : Kn} {who : Who} {σ σ' : St} {a : Act} {w : World}
theorem clear_ok {d : Option Tmp} {t ty : TypeId} {x : AV} {v : Value} {u : Unit} (h : SRel nt Fr H0 m K who σ a w) (hdst : ∀ t, d = some t → t < nt) (hv : VRep σ a w m K v x) (hd : Does C (clrPr P d t x) σ u σ') :
  ∃ w', (Builtin.clear_ #[t] ty #[v]).run P w = .ok (.tuple #[]) w' ∧ SRel nt Fr H0 m K who σ' (a.put d (.tuple #[])) w' := by
 unfold clrPr at hd
 split at hd
 ·rename_i p k c
  obtain ⟨e, σ1, h1, h2⟩ := Does.bind hd
  obtain ⟨he, rfl⟩ := Does.of h1
  obtain ⟨s, σ2, h3, h4⟩ := Does.bind h2
  obtain ⟨hs, rfl⟩ := Does.of h3
  obtain ⟨zc, σ3, h5, h6⟩ := Does.bind h4
  obtain ⟨hzc, rfl⟩ := Does.of h5
  obtain ⟨_, σ4, h7, h8⟩ := Does.bind h6
  obtain ⟨q1, rfl⟩ := Does.must h7
  simp only [Bool.and_eq_true, decide_eq_true_eq] at q1
  have hzl : zc.length = s := Nat.eq_of_beq_eq_true q1.1
  obtain ⟨y, σ5, h9, h10⟩ := Does.bind h8
  obtain ⟨rfl, rfl⟩ := Does.gt h9
  obtain ⟨_, σ6, h11, h12⟩ := Does.bind h10
  obtain ⟨q2, rfl⟩ := Does.must h11
  have hk : k = (σ6 p).k := (Nat.eq_of_beq_eq_true q2).symm
  split at h12
  ·rename_i nl s' es hc
   obtain ⟨_, σ7, h13, h14⟩ := Does.bind h12
   obtain ⟨q3, rfl⟩ := Does.must h13
   have hss : s' = s := Nat.eq_of_beq_eq_true q3
   subst hss
   obtain ⟨_, σ8, h15, h16⟩ := Does.bind h14
   have hσ := Does.st h15
   obtain ⟨g1, g2, g3⟩ := h.refd (hv.2 hk) hc
   have ht := elemT_run he
   obtain ⟨z, hz, hl, hr⟩ := zeroC_run hzc
   have hzs : z.cells.size = s' := by have : z.cells.size = z.cells.toList.length := by simp
                                      omega
   have done : ∀ {w' : World}, (Builtin.clear_ #[t] ty #[v]).run P w = .ok (.tuple #[]) w' → SRel nt Fr H0 m K who σ8 a w' → ∃ w', (Builtin.clear_ #[t] ty #[v]).run P w = .ok (.tuple #[]) w' ∧ SRel nt Fr H0 m K who σ' (a.put d (.tuple #[])) w' := fun {w'} r1 r2 =>
    ⟨w', r1, r2.endV hdst (x := .tup []) ⟨[], rfl, .nil⟩ h16⟩
   have same : es = [] → CO w K who p c v (.slc true nl s' (es.map fun _ => zc)) := fun e => by subst e; exact g1
   have still : ∀ (hco : CO w K who p c v (.slc true nl s' (es.map fun _ => zc))), SRel nt Fr H0 m K who σ8 a w := fun hco => by
    have g6 := h.recell (w' := w) hc g3 hco (fun own' nl' sz' es' e => by cases e; exact ⟨true, nl, es, rfl⟩) (fun _ => False) (fun b' hb' => hb'.elim) (Kn.le.refl K) (fun b' o' u' hu' => h.kv b' o' u' hu') (fun b' _ _ => rfl) (fun _ _ => rfl) (fun b' x' hx' => h.wh b' x' hx') (WSame.refl w)
    rw [hσ]; exact g6
   have hO := g1.2 rfl
   have nilrun : ∀ {A : Option Addr} {n cap : Nat}, v = .slice A n cap → (A = none ∨ n = 0) → (Builtin.clear_ #[t] ty #[v]).run P w = .ok (.tuple #[]) w := by
    intro A n cap hv0 hA
    subst hv0
    simp only [Builtin.clear_, List.getElem?_toArray, List.getElem?_cons_zero]
    rw [run_bind (run_underlying ht w)]
    rcases hA with rfl | rfl
    ·rfl
    ·cases A <;> rfl
   cases hO with
   | nil _ => exact done (nilrun rfl (.inl rfl)) (still (same rfl))
   | empty _ => exact done (nilrun rfl (.inr rfl)) (still (same rfl))
   | @slc _ _ _ b off cap o1 o2 o3 o4 o5 o6 =>
    cases hes : es with
    | nil => subst hes; exact done (nilrun rfl (.inr rfl)) (still (same rfl))
    | cons e0 er =>
     rw [← hes]
     have hpos : 0 < es.length := by rw [hes]; simp
     have hzc' : Builtin.zeroCells z.cells es.length = zeroRow z.cells (es.length * s') := by simp [Builtin.zeroCells, zeroRow, hzs]
     have hrl : (es.map fun _ => zc).length = es.length := by simp
     have n4 : ∀ ch, ch ∈ es.map (fun _ => zc) → ch.length = s' := fun ch hch => by
      obtain ⟨_, _, rfl⟩ := List.mem_map.1 hch; exact hzl
     have n6 : ∀ i j ch d, (es.map fun _ => zc)[i]? = some ch → ch[j]? = some d → ∃ u, (Builtin.zeroCells z.cells es.length).toList[i * s' + j]? = some u ∧ CRep K u d := fun i j ch d hi hj => by
      have hil := (List.getElem?_eq_some_iff.1 hi).1
      rw [hrl] at hil
      rw [List.getElem?_map, Option.map_eq_some_iff] at hi
      obtain ⟨_, _, rfl⟩ := hi
      have hjl := (List.getElem?_eq_some_iff.1 hj).1
      obtain ⟨v', hv'⟩ : ∃ v', z.cells.toList[j]? = some v' := ⟨_, List.getElem?_eq_getElem (by omega)⟩
      have hco := hr w K who (.t 0) j v' d hv' hj 0
      refine ⟨v', ?_, hco.1 (zeroC_own hzc d (List.mem_of_getElem? hj))⟩
      rw [Array.getElem?_toList, hzc']
      refine zeroRow_get hzs hv' ?_
      have : i + 1 ≤ es.length := by omega
      have := Nat.mul_le_mul_right s' this
      rw [Nat.add_mul, Nat.one_mul] at this
      omega
     have n1 : (Builtin.zeroCells z.cells es.length).toList.length = (es.map fun _ => zc).length * s' := by
      rw [hrl, hzc', Array.length_toList, zeroRow_size]
     have n5 : ∀ u, u ∈ (Builtin.zeroCells z.cells es.length).toList → oneC u = true := fun u hu => by
      obtain ⟨k, hk⟩ := List.getElem?_of_mem hu
      have hkl := (List.getElem?_eq_some_iff.1 hk).1
      rw [n1, hrl] at hkl
      have h1 : k / s' < es.length := by rw [Nat.div_lt_iff_lt_mul o2]; omega
      have h2 : k % s' < s' := Nat.mod_lt _ o2
      obtain ⟨u', hu', hr'⟩ := n6 (k / s') (k % s') zc (zc[k % s']'(by omega)) (by rw [List.getElem?_map, List.getElem?_eq_getElem h1]; rfl) (List.getElem?_eq_getElem (by omega))
      rw [Nat.mul_comm, Nat.div_add_mod, hk] at hu'
      cases hu'
      exact hr'.one.1
     have hrow0 : RowAt w K b off cap s' [] := by
      obtain ⟨cs, el, fr, p1, p2, p3, p4⟩ := o6
      exact ⟨cs, el, fr, p1, p2, p3, fun i j ch d hi _ => by simp at hi⟩
     obtain ⟨w', s1, s2, s3, s4, s5⟩ := storeRow (P := P) (es' := es.map fun _ => zc) o2 (fun ch hch => by simp at hch) n4 hrow0 n1 n5 n6 (by rw [hrl]; simpa using o3)
     simp only [List.length_nil, Nat.zero_mul, Nat.add_zero, List.nil_append] at s1 s2
     have hco : CO w' K who p c (.slice (some ⟨b, off, none⟩) es.length cap) (.slc true nl s' (es.map fun _ => zc)) := by
      refine ⟨fun e => by simp [DV.owned1] at e, fun _ => ?_⟩
      have := ORep.slc (w := w') (K := K) (who := who) (p := p) (c := c) (nl := nl) (es := es.map fun _ => zc) o1 o2 (by rw [hrl]; exact o3) n4 o5 s2
      rw [hrl] at this; exact this
     have g6 := h.recell hc g3 hco (fun own' nl' sz' es' e => by cases e; exact ⟨true, nl, es, rfl⟩) (fun b' => b' = b) (fun b' hb' => .inl (by rw [hb']; exact o5)) (Kn.le.refl K) (fun b' o' u' hu' => by
       obtain ⟨k1, k2⟩ := h.kv b' o' u' hu'
       refine ⟨k1, ?_⟩
       rw [s3 b' (fun e => by subst e; rw [o5] at k1; cases k1)]; exact k2) (fun b' hb' _ => s3 b' hb') (fun _ _ => rfl) (fun b' x' hx' => by rw [s4]; exact h.wh b' x' hx') s5
     rw [← hσ] at g6
     refine done ?_ g6
     simp only [Builtin.clear_, List.getElem?_toArray, List.getElem?_cons_zero]
     rw [run_bind (run_underlying ht w)]
     have hne : es.length ≠ 0 := by omega
     obtain ⟨n, hn⟩ : ∃ n, es.length = n + 1 := ⟨es.length - 1, by omega⟩
     rw [hn] at s1 ⊢
     simp only
     rw [run_bind (hz w), run_bind s1]
     rfl
  ·exact (Does.fail h12).elim
 ·exact (Does.fail hd).elim
end
end Go.Proofs.Ytknkeabmjleoiaa.Vam
/- The machine by value and the model: the builtins, functions as values. -/
namespace Go.Proofs.Ytknkeabmjleoiaa.Vam
open Go
set_option linter.unusedVariables false
set_option linter.unusedSimpArgs false
section
variable {P : Program} {O : Nat → Nat} {C : Query → Answer → Prop} {nt : Nat} {Fr : Nat → Prop} {H0 : Hd} {m : Om} {K : Kn} {who : Who} {σ σ' : St} {a : Act} {w : World}

theorem b_len {ats : Array TypeId} {ty : TypeId} {cs : Array Bool} {args : Array Value} : builtin .len ats ty cs args = (do pure (.value (← Builtin.len_ ats ty args))) := rfl
theorem b_append {ats : Array TypeId} {ty : TypeId} {cs : Array Bool} {args : Array Value} : builtin .append ats ty cs args = (do pure (.value (← Builtin.append_ ats ty args))) := rfl
theorem b_cap {ats : Array TypeId} {ty : TypeId} {cs : Array Bool} {args : Array Value} : builtin .cap ats ty cs args = (do pure (.value (← Builtin.cap_ ats ty args))) := rfl
theorem b_min {ats : Array TypeId} {ty : TypeId} {cs : Array Bool} {args : Array Value} : builtin .min ats ty cs args = (do pure (.value (← Builtin.min_ ats ty args))) := rfl
theorem b_max {ats : Array TypeId} {ty : TypeId} {cs : Array Bool} {args : Array Value} : builtin .max ats ty cs args = (do pure (.value (← Builtin.max_ ats ty args))) := rfl
theorem crep_len {K : Kn} {v : Value} {own : Bool} {nl : Option Bool} {s : Nat} {es : List (List DV)} (h : CRep K v (.slc own nl s es)) : ∃ A cap, v = .slice A es.length cap := by
 cases h with
 | nil _ => exact ⟨_, _, rfl⟩
 | empty _ => exact ⟨_, _, rfl⟩
 | slc us h1 h2 h3 h4 h5 => exact ⟨_, _, rfl⟩
theorem asIK_ok (h : SRel nt Fr H0 m K who σ a w) {y : AV} {v : Value} {n : IntKind × Int} {d : DV} {σ1 : St} (hv : VRep σ a w m K v y) (h3 : Does C (Vam.view y) σ d σ1) (h4 : Does C (asIK d) σ1 n σ') : σ' = σ ∧ v = .int n.1 n.2 := by
 obtain ⟨e2, hv2⟩ := h.view hv h3
 rw [e2] at h4
 cases d with
 | val v =>
  cases v with
  | int k q =>
   obtain ⟨e, e3⟩ := Does.pure h4
   rw [e]
   exact ⟨e3, urep_val hv2⟩
  | _ => exact (Does.fail h4).elim
 | _ => exact (Does.fail h4).elim
theorem asIKs_ok (h : SRel nt Fr H0 m K who σ a w) : ∀ {ys : List AV} {vs : List Value} {ns : List Int}, All2 (VRep σ a w m K) vs ys → Does C (ys.mapM fun y => do pure (← asIK (← Vam.view y)).2) σ ns σ' → σ' = σ ∧ All2 (fun v n => ∃ k, v = .int k n) vs ns
 | [], vs, ns, hv, hd => by
  obtain ⟨rfl, e⟩ := Does.mapM_nil hd
  cases hv
  exact ⟨e, .nil⟩
 | y :: ys, vs, ns, hv, hd => by
  obtain ⟨n, σ1, r, h1, h2, e⟩ := Does.mapM_cons hd
  cases hv with
  | cons g1 g2 =>
   obtain ⟨dd, σ2, h3, h4⟩ := Does.bind h1
   obtain ⟨n', σ3, h5, h6⟩ := Does.bind h4
   obtain ⟨e1, e2⟩ := asIK_ok h g1 h3 h5
   obtain ⟨e3, e4⟩ := Does.pure h6
   rw [e4, e1] at h2
   obtain ⟨e5, hvs⟩ := asIKs_ok h g2 h2
   exact ⟨e5, by rw [e]; exact .cons ⟨n'.1, by rw [e3]; exact e2⟩ hvs⟩
theorem minmax_run (mx : Bool) {f : Value → Value → Sem Value} (hf : ∀ k x k' y, f (.int k x) (.int k' y) = pure (.int k (if mx then (if x < y then y else x) else (if y < x then y else x)))) (k : IntKind) :
  ∀ {vs : List Value} {ns : List Int} {x : Int} {w : World}, All2 (fun v n => ∃ k, v = .int k n) vs ns → (vs.foldlM f (.int k x)).run P w = .ok (.int k (minmax mx x ns)) w
 | [], ns, x, w, h => by cases h; rfl
 | v :: vs, ns, x, w, h => by
  cases h with
  | cons g1 g2 =>
   obtain ⟨k', rfl⟩ := g1
   rw [List.foldlM_cons, hf, pure_bind]
   exact minmax_run mx hf k g2
theorem mapAny_does {x : AV} {v : Value} {e : Nat × List (Value × Value)} (h : SRel nt Fr H0 m K who σ a w) (hv : VRep σ a w m K v x) (hd : Does C (mapAny x) σ e σ') :
  σ' = σ ∧ ∃ p c b clk me, x = .ref p (σ p).k c none ∧ cellAt p (σ p) c = some (.mp e.1 e.2) ∧ rcell m a w p c = some v ∧ v = .map (some b) ∧ who b = some (p, some c) ∧ w.heap[b]? = some (.map me clk) ∧ me.toList.map (fun e => (e.key, e.val)) = e.2 ∧ MapOk e.1 e.2 ∧ ∀ e ∈ me.toList, e.born < clk := by
 unfold mapAny at hd
 split at hd
 ·rename_i p k c
  obtain ⟨z, σ1, h1, h2⟩ := Does.bind hd
  obtain ⟨rfl, rfl⟩ := Does.gt h1
  obtain ⟨_, σ2, h3, h4⟩ := Does.bind h2
  obtain ⟨e1, rfl⟩ := Does.must h3
  have hk : k = (σ2 p).k := (Nat.eq_of_beq_eq_true e1).symm
  split at h4
  ·rename_i kd es' hc
   obtain ⟨rfl, e3⟩ := Does.pure h4
   obtain ⟨g1, g2, g3⟩ := h.refd (hv.2 hk) hc
   have hO := g1.2 rfl
   refine ⟨e3, p, c, ?_⟩
   cases hO with
   | mp q1 q2 q3 q4 q5 => exact ⟨_, _, _, by rw [hk], hc, g3, rfl, q1, q2, q3, q4, q5⟩
  ·exact (Does.fail h4).elim
 ·exact (Does.fail hd).elim
theorem builtinPr_ok {d : Option Tmp} {b : Builtin} {ts : List TypeId} {ats : Array TypeId} {ty : TypeId} {cs : Array Bool} {xs : List AV} {vs : Array Value} {u : Unit} (h : SRel nt Fr H0 m K who σ a w) (hdst : ∀ t, d = some t → t < nt) (hts : ats.toList = ts) (hx : All2 (VRep σ a w m K) vs.toList xs) (hd : Does C (builtinPr P d b ts xs) σ u σ') :
  ∃ v w' K' who', (builtin b ats ty cs vs).run P w = .ok (.value v) w' ∧ SRel nt Fr H0 m K' who' σ' (a.put d v) w' ∧ K.le K' := by
 unfold builtinPr at hd
 split at hd
 ·-- len
  rename_i t x
  cases hx' : vs.toList with
  | nil => rw [hx'] at hx; cases hx
  | cons v1 vr =>
  rw [hx'] at hx
  cases hx with
  | cons hv hr =>
  cases hr
  have hvs : vs = #[v1] := by apply Array.ext'; simpa using hx'
  have hat : ats = #[t] := by apply Array.ext'; simpa using hts
  subst hvs; subst hat
  rw [b_len]
  unfold lenPr at hd
  cases hmt : isMapT P t with
  | true =>
   rw [hmt] at hd
   obtain ⟨e, σ1, h1, h2⟩ := Does.bind hd
   obtain ⟨e1, p, c, b, clk, me, rfl, q1, q2, q3, q4, q5, q6, q7, q8⟩ := mapAny_does h hv h1
   rw [e1] at h2
   refine ⟨.int .i64 e.2.length, w, K, who, ?_, h.endV hdst (x := .data (.val (.int .i64 e.2.length))) ⟨rfl, .val rfl⟩ h2, Kn.le.refl K⟩
   unfold isMapT at hmt
   rw [q3, run_bind (x := Value.int .i64 e.2.length) (w' := w)]
   ·rfl
   ·unfold Builtin.len_
    simp only [List.getElem?_toArray, List.getElem?_cons_zero]
    have hlen : me.size = e.2.length := by rw [← q6, List.length_map]; simp
    cases ht : P.underlying t with
    | none => rw [ht] at hmt; cases hmt
    | some D =>
     rw [ht] at hmt
     cases D <;> first | (cases hmt; done) | (rw [run_bind (run_underlying ht w)]; simp [getObj, Sem.run_bind, Sem.run, q5, Result.andThen, hlen]; rfl)
  | false =>
  rw [hmt] at hd
  simp only [cond_false] at hd
  unfold lenPr0 at hd
  split at hd
  ·rename_i i n
   obtain ⟨_, σ1, h1, h2⟩ := Does.bind hd
   obtain ⟨q1, rfl⟩ := Does.must h1
   obtain ⟨bb, _, rfl⟩ := hv
   refine ⟨.int .i64 n, w, K, who, ?_, h.endV hdst (x := .data (.val (.int .i64 n))) ⟨rfl, .val rfl⟩ h2, Kn.le.refl K⟩
   rw [run_bind (x := Value.int .i64 n) (w' := w)]
   ·rfl
   ·unfold Builtin.len_
    simp only [List.getElem?_toArray, List.getElem?_cons_zero]
    cases ht : P.underlying t with
    | none => rw [ht] at q1; cases q1
    | some D =>
     rw [ht] at q1
     cases D <;> first | (cases q1; done) | (rw [run_bind (run_underlying ht w)]; rfl)
  obtain ⟨dd, σ1, h1, h2⟩ := Does.bind hd
  obtain ⟨e1, hv1⟩ := h.view hv h1
  rw [e1] at h2
  split at h2
  ·rename_i e own nl s es ht
   obtain ⟨A, cap, rfl⟩ := crep_len hv1
   refine ⟨.int .i64 es.length, w, K, who, ?_, h.endV hdst (x := .data (.val (.int .i64 es.length))) ⟨rfl, .val rfl⟩ h2, Kn.le.refl K⟩
   rw [run_bind (x := Value.int .i64 es.length) (w' := w)]
   ·rfl
   ·unfold Builtin.len_
    simp only [List.getElem?_toArray, List.getElem?_cons_zero]
    rw [run_bind (run_underlying ht w)]; rfl
  ·rename_i s ht
   have := urep_val hv1
   subst this
   refine ⟨.int .i64 s.size, w, K, who, ?_, h.endV hdst (x := .data (.val (.int .i64 s.size))) ⟨rfl, .val rfl⟩ h2, Kn.le.refl K⟩
   rw [run_bind (x := Value.int .i64 s.size) (w' := w)]
   ·rfl
   ·unfold Builtin.len_
    simp only [List.getElem?_toArray, List.getElem?_cons_zero]
    rw [run_bind (run_underlying ht w)]; rfl
  ·rename_i e n s es ht
   obtain ⟨A, c, rfl, _⟩ := CRep.rm_full hv1
   refine ⟨.int .i64 n, w, K, who, ?_, h.endV hdst (x := .data (.val (.int .i64 n))) ⟨rfl, .val rfl⟩ h2, Kn.le.refl K⟩
   rw [run_bind (x := Value.int .i64 n) (w' := w)]
   ·rfl
   ·unfold Builtin.len_
    simp only [List.getElem?_toArray, List.getElem?_cons_zero]
    rw [run_bind (run_underlying ht w)]; rfl
  ·exact (Does.fail h2).elim
 ·-- append
  rename_i t ty' x y
  cases hx' : vs.toList with
  | nil => rw [hx'] at hx; cases hx
  | cons v1 vr =>
  rw [hx'] at hx
  cases hx with
  | cons hv hr =>
  cases hr with
  | cons hv' hr =>
  rename_i v2 _
  cases hr
  have hone : ∃ v w' K' who', (Builtin.append_ #[t, ty'] t #[v1, v2]).run P w = .ok v w' ∧ SRel nt Fr H0 m K' who' σ' (a.put d v) w' ∧ K.le K' := by
   split at hd
   ·rename_i kk hty
    obtain ⟨dd, σ1, h1, h2⟩ := Does.bind hd
    obtain ⟨e1, hv1⟩ := h.view hv' h1
    rw [e1] at h2
    obtain ⟨n, σ2, h3, h4⟩ := Does.bind h2
    cases dd with
    | val v =>
     cases v with
     | int k q =>
      obtain ⟨hnq, e3⟩ := Does.pure h3
      rw [e3] at h4
      rw [urep_val hv1, ← hnq]
      exact appendZ_ok h hdst hv hty h4
     | _ => exact (Does.fail h3).elim
    | _ => exact (Does.fail h3).elim
   ·rename_i D hni hD
    refine appendPr_ok h hdst hv hv' ?_ hd
    rw [hD]
    cases D <;> first | rfl | exact absurd rfl (hni _)
   ·exact (Does.fail hd).elim
  obtain ⟨v, w', K', who', g1, g2, g3⟩ := hone
  have hvs : vs = #[v1, v2] := by apply Array.ext'; simpa using hx'
  have hat : ats = #[t, ty'] := by apply Array.ext'; simpa using hts
  subst hvs; subst hat
  refine ⟨v, w', K', who', ?_, g2, g3⟩
  rw [b_append, run_bind (x := v) (w' := w')]
  ·rfl
  ·rw [← g1]; rfl
 ·-- cap
  rename_i t x
  cases hx' : vs.toList with
  | nil => rw [hx'] at hx; cases hx
  | cons v1 vr =>
  rw [hx'] at hx
  cases hx with
  | cons hv hr =>
  cases hr
  obtain ⟨dd, σ1, h1, h2⟩ := Does.bind hd
  obtain ⟨e1, hv1⟩ := h.view hv h1
  rw [e1] at h2
  have hvs : vs = #[v1] := by apply Array.ext'; simpa using hx'
  have hat : ats = #[t] := by apply Array.ext'; simpa using hts
  subst hvs; subst hat
  rw [b_cap]
  split at h2
  ·rename_i e own s ht
   have hv2 : v1 = .slice none 0 0 := by
    cases hv1 with
    | nil _ => rfl
    | empty g => exact absurd rfl g
    | slc us g _ _ _ _ => exact absurd rfl g
   subst hv2
   refine ⟨.int .i64 0, w, K, who, ?_, h.endV hdst (x := .data (.val (.int .i64 0))) ⟨rfl, .val rfl⟩ h2, Kn.le.refl K⟩
   rw [run_bind (x := Value.int .i64 0) (w' := w)]
   ·rfl
   ·unfold Builtin.cap_
    simp only [List.getElem?_toArray, List.getElem?_cons_zero]
    rw [run_bind (run_underlying ht w)]; rfl
  ·rename_i e n s es ht
   obtain ⟨A, c, rfl, _, hc, _⟩ := CRep.rm_full hv1
   refine ⟨.int .i64 c, w, K, who, ?_, h.endV hdst (x := .data (.capv es.length)) ⟨rfl, CRep.capv hc⟩ h2, Kn.le.refl K⟩
   rw [run_bind (x := Value.int .i64 c) (w' := w)]
   ·rfl
   ·unfold Builtin.cap_
    simp only [List.getElem?_toArray, List.getElem?_cons_zero]
    rw [run_bind (run_underlying ht w)]; rfl
  ·exact (Does.fail h2).elim
 ·-- clear
  rename_i t x
  cases hx' : vs.toList with
  | nil => rw [hx'] at hx; cases hx
  | cons v1 vr =>
  rw [hx'] at hx
  cases hx with
  | cons hv hr =>
  cases hr
  have hvs : vs = #[v1] := by apply Array.ext'; simpa using hx'
  have hat : ats = #[t] := by apply Array.ext'; simpa using hts
  subst hvs; subst hat
  obtain ⟨w', r1, r2⟩ := clear_ok (ty := ty) h hdst hv hd
  refine ⟨.tuple #[], w', K, who, ?_, r2, Kn.le.refl K⟩
  rw [show (builtin .clear #[t] ty cs #[v1] : Sem Next) = (do pure (.value (← Builtin.clear_ #[t] ty #[v1]))) from rfl, run_bind r1]; rfl
 ·-- min
  rename_i x r
  obtain ⟨dd, σ1, h1, h2⟩ := Does.bind hd
  obtain ⟨ka, σ2, h3, h4⟩ := Does.bind h2
  cases hx' : vs.toList with
  | nil => rw [hx'] at hx; cases hx
  | cons v1 vr =>
  rw [hx'] at hx
  cases hx with
  | cons hv hr =>
  obtain ⟨e1, rfl⟩ := asIK_ok h hv h1 h3
  rw [e1] at h4
  obtain ⟨ns, σ3, h5, h6⟩ := Does.bind h4
  obtain ⟨e2, hns⟩ := asIKs_ok h hr h5
  rw [e2] at h6
  refine ⟨.int ka.1 (minmax false ka.2 ns), w, K, who, ?_, h.endV hdst (x := .data (.val (.int ka.1 (minmax false ka.2 ns)))) ⟨rfl, .val rfl⟩ h6, Kn.le.refl K⟩
  rw [b_min, run_bind (x := Value.int ka.1 (minmax false ka.2 ns)) (w' := w)]
  ·rfl
  ·unfold Builtin.min_
   rw [hx']
   exact minmax_run false (fun k x k' y => by simp [Builtin.min2]) ka.1 hns
 ·-- max
  rename_i x r
  obtain ⟨dd, σ1, h1, h2⟩ := Does.bind hd
  obtain ⟨ka, σ2, h3, h4⟩ := Does.bind h2
  cases hx' : vs.toList with
  | nil => rw [hx'] at hx; cases hx
  | cons v1 vr =>
  rw [hx'] at hx
  cases hx with
  | cons hv hr =>
  obtain ⟨e1, rfl⟩ := asIK_ok h hv h1 h3
  rw [e1] at h4
  obtain ⟨ns, σ3, h5, h6⟩ := Does.bind h4
  obtain ⟨e2, hns⟩ := asIKs_ok h hr h5
  rw [e2] at h6
  refine ⟨.int ka.1 (minmax true ka.2 ns), w, K, who, ?_, h.endV hdst (x := .data (.val (.int ka.1 (minmax true ka.2 ns)))) ⟨rfl, .val rfl⟩ h6, Kn.le.refl K⟩
  rw [b_max, run_bind (x := Value.int ka.1 (minmax true ka.2 ns)) (w' := w)]
  ·rfl
  ·unfold Builtin.max_
   rw [hx']
   exact minmax_run true (fun k x k' y => by simp [Builtin.max2]) ka.1 hns
 ·exact (Does.fail hd).elim
end
end Go.Proofs.Ytknkeabmjleoiaa.Vam
/- The machine by value and the model: a call's begin and end. -/
namespace Go.Proofs.Ytknkeabmjleoiaa.Vam
open Go
set_option linter.unusedVariables false
set_option linter.unusedSimpArgs false
section
variable {P : Program} {O : Nat → Nat} {C : Query → Answer → Prop} {nt : Nat} {Fr : Nat → Prop} {H0 : Hd} {m : Om} {K : Kn} {who : Who} {σ σ' : St} {a : Act} {w : World}

theorem ORep.tag {w w' : World} {K K' : Kn} {who who' : Who} {p p' : Pl} {c : Nat} {v : Value} {d : DV} (hK : K.le K') (hw : ∀ b, who b = some (p, some c) → who' b = some (p', some c) ∧ w'.heap[b]? = w.heap[b]?)
  (h : ORep w K who p c v d) : ORep w' K' who' p' c v d := by
 cases h with
 | nil h => exact .nil h
 | empty h => exact .empty h
 | slc h1 h2 h3 h4 h5 h6 => exact .slc h1 h2 h3 h4 (hw _ h5).1 (h6.mono (hw _ h5).2 hK)
 | mp h1 h2 h3 h4 h5 => exact .mp (hw _ h1).1 ((hw _ h1).2.trans h2) h3 h4 h5
theorem CO.tag {w w' : World} {K K' : Kn} {who who' : Who} {p p' : Pl} {c : Nat} {v : Value} {d : DV} (hK : K.le K') (hw : ∀ b, who b = some (p, some c) → who' b = some (p', some c) ∧ w'.heap[b]? = w.heap[b]?)
  (h : CO w K who p c v d) : CO w' K' who' p' c v d := ⟨fun e => (h.1 e).mono hK, fun e => (h.2 e).tag hK hw⟩
theorem COs.tag {w w' : World} {K K' : Kn} {who who' : Who} {p p' : Pl} (hK : K.le K') (hw : ∀ b c, who b = some (p, some c) → who' b = some (p', some c) ∧ w'.heap[b]? = w.heap[b]?) {c : Nat} {vs : List Value} {ds : List DV}
  (h : COs w K who p c vs ds) : COs w' K' who' p' c vs ds := by
 induction h with
 | nil => exact .nil
 | cons h _ ih => exact .cons (h.tag hK (fun b => hw b _)) ih
theorem DRep.tag {w w' : World} {K K' : Kn} {who who' : Who} {p p' : Pl} (hK : K.le K') (hw : ∀ b c, who b = some (p, some c) → who' b = some (p', some c) ∧ w'.heap[b]? = w.heap[b]?) {v : Value} {d : DV}
  (h : DRep w K who p v d) : DRep w' K' who' p' v d := by
 cases d with
 | agg ds => obtain ⟨vs, e, h⟩ := h; exact ⟨vs, e, h.tag hK hw⟩
 | _ => exact CO.tag hK (fun b => hw b 0) h

theorem All2.map_right_mem {α β γ : Type} {R : α → β → Prop} {T : α → γ → Prop} {as : List α} {bs : List β} (f : β → γ) (h : All2 R as bs) (hm : ∀ a b, b ∈ bs → R a b → T a (f b)) : All2 T as (bs.map f) := by
 induction h with
 | nil => exact .nil
 | cons h _ ih => exact .cons (hm _ _ List.mem_cons_self h) (ih fun a b hb => hm a b (List.mem_cons_of_mem _ hb))
theorem ARep0.ren {m m2 : Om} {K K' : Kn} {ρ : Nat → Nat} {v : Value} {x : AV} (hK : K.le K') (hm : ∀ i b, i ∈ x.men0 → m i = some b → m2 (ρ i) = some b) (h : ARep0 m K v x) : ARep0 m2 K' v (x.ren0 ρ) := by
 cases x with
 | ptr i o => obtain ⟨b, hb, e⟩ := h; exact ⟨b, hm i b (by simp [AV.men0]) hb, e⟩
 | data d => exact URep.mono hK h
 | _ => exact h.elim
theorem ARep1.ren {m m2 : Om} {K K' : Kn} {ρ : Nat → Nat} {v : Value} {x : AV} (hK : K.le K') (hm : ∀ i b, i ∈ x.men1 → m i = some b → m2 (ρ i) = some b) (h : ARep1 m K v x) : ARep1 m2 K' v (x.ren1 ρ) := by
 cases x with
 | fn f a b =>
  obtain ⟨fv, cv, e, h1, h2⟩ := h
  refine ⟨fv, cv, e, h1.map_right_mem _ fun v y hy hr => hr.ren hK fun i b' hi => hm i b' ?_, h2.map_right_mem _ fun v y hy hr => hr.ren hK fun i b' hi => hm i b' ?_⟩
  ·simp only [AV.men1, List.mem_flatMap]; exact ⟨y, List.mem_append_left _ hy, hi⟩
  ·simp only [AV.men1, List.mem_flatMap]; exact ⟨y, List.mem_append_right _ hy, hi⟩
 | ifc t x =>
  obtain ⟨u, e, h1⟩ := h
  exact ⟨u, e, h1.ren hK hm⟩
 | ptr i o => exact ARep0.ren (x := .ptr i o) hK hm h
 | data d => exact URep.mono hK h
 | _ => exact h.elim
theorem ren_eq1 {ρ : Nat → Nat} {x : AV} (h : x.plain1 = true) : x.ren ρ = x.ren1 ρ := by cases x <;> first | rfl | (simp [AV.plain1, AV.plain0] at h)
theorem BReps.ren {w w' : World} {m m2 : Om} {K K' : Kn} {who who' : Who} {p p' : Pl} {ρ : Nat → Nat} (hK : K.le K') (hw : ∀ b c, who b = some (p, some c) → who' b = some (p', some c) ∧ w'.heap[b]? = w.heap[b]?) {c : Nat} {vs : List Value} {xs : List AV}
  (hm : ∀ x, x ∈ xs → ∀ i b, i ∈ x.men1 → m i = some b → m2 (ρ i) = some b) (h : BReps w m K who p c vs xs) : BReps w' m2 K' who' p' c vs (xs.map (AV.ren ρ)) := by
 induction h with
 | nil => exact .nil
 | @cons c v x vs xs h _ ih =>
  refine .cons ⟨h.1, ?_⟩ (ih fun x hx => hm x (List.mem_cons_of_mem _ hx))
  have h2 := h.2
  have hm' := hm x List.mem_cons_self
  cases x with
  | dead => trivial
  | data d => exact CO.tag hK (fun b => hw b c) h2
  | fn f a b => exact ARep1.ren (x := .fn f a b) hK hm' h2
  | ifc t x => exact ARep1.ren (x := .ifc t x) hK hm' h2
  | ptr i o => exact ARep1.ren (x := .ptr i o) hK hm' h2
  | _ => exact h2.elim

def enterAct (n : Nat) (vs : List Value) : Act := { tmps := vs.toArray ++ Array.replicate (n - vs.length) undef, defers := [] }
def Meets (P : Program) (q : Query) (r : Answer) : Prop :=
 ∃ fn, P.funcs[q.f]? = some fn ∧ fn.body.isNone = false ∧ (fn.name == "runtime.NumGoroutine") = false ∧ ∀ (Fr : Nat → Prop) (H0 : Hd) (m : Om) (K : Kn) (who : Who) (vs : List Value) (w : World), vs.length = q.args.length → SRel fn.ntmps Fr H0 m K who (entry q.args q.objs) (enterAct fn.ntmps vs) w →
  Calls P q.f vs.toArray w fun e w' => ∃ v m' K' who', e = .returned v ∧ SRel 1 Fr H0 m' K' who' (entry [r.r] r.objs) ⟨#[v], []⟩ w' ∧ K.le K' ∧ ∀ i b, 1000 ≤ i → i < 1000 + q.objs.length → m' i = some b → m i = some b

def MeetsZ (P : Program) (q : Query) (r : Answer) : Prop :=
 ∃ kd es v fn, q.args = [.data (.mp kd es)] ∧ r = ⟨.data (.val v), []⟩ ∧ scV v = true ∧ P.funcs[q.f]? = some fn ∧ fn.body.isNone = false ∧ (fn.name == "runtime.NumGoroutine") = false ∧ ∀ (w : World) (b clk : Nat) (me : Array MapEntry), w.heap[b]? = some (.map me clk) → me.toList.map (fun e => (e.key, e.val)) = es → (∀ e ∈ me.toList, e.born < clk) →
  Calls P q.f #[.map (some b)] w fun e w' => e = .returned v ∧ WSame w w' ∧ ∀ b, b < w.heap.size → w'.heap[b]? = w.heap[b]?
def Okay (P : Program) (q : Query) (r : Answer) : Prop := match mapQ q.args with
 | true => MeetsZ P q r
 | false => Meets P q r
theorem okay_m {P : Program} {q : Query} {r : Answer} (h : mapQ q.args = false) : Okay P q r ↔ Meets P q r := by
 unfold Okay; rw [h]
theorem mapQ_ren {ρ : Nat → Nat} {l : List AV} (h : l.all AV.plain1 = true) : mapQ (l.map (AV.ren ρ)) = false := by
 cases hm : mapQ (l.map (AV.ren ρ)) with
 | false => rfl
 | true =>
  unfold mapQ at hm
  split at hm
  ·rename_i kd es he
   cases l with
   | nil => cases he
   | cons x l =>
    simp only [List.map_cons, List.cons.injEq] at he
    have hx : x.plain1 = true := by simp only [List.all_cons, Bool.and_eq_true] at h; exact h.1
    rw [ren_eq1 hx] at he
    cases x <;> simp [AV.ren1, AV.ren0] at he
    obtain ⟨rfl, _⟩ := he
    simp [AV.plain1, AV.plain0, DV.owned] at hx
  ·cases hm
theorem mapQ_mid {args1 args2 : List AV} {d : DV} (h : ∀ kd es, d ≠ .mp kd es) : mapQ (args1 ++ .data d :: args2) = false := by
 unfold mapQ
 split
 ·rename_i kd es he
  exfalso
  cases args1 with
  | nil => simp at he; exact h _ _ he.1
  | cons x xs => simp at he
 ·rfl

theorem enter_tmp {n : Nat} {vs : List Value} (t : Nat) : (enterAct n vs).tmps.getD t undef = vs.getD t undef := by
 simp only [enterAct, Array.getD_eq_getD_getElem?, List.getD_eq_getElem?_getD]
 rw [Array.getElem?_append]
 split
 ·simp
 ·rename_i h
  simp at h
  rw [List.getElem?_eq_none h]
  rw [Array.getElem?_replicate]
  split <;> rfl

structure Hands (σ : St) (ls : List Nat) (os : List (List AV)) : Prop where
 len : os.length = ls.length
 at' : ∀ (k i : Nat), ls[k]? = some i → (σ (.o i)).live = true ∧ os[k]? = some (σ (.o i)).vs
 nd : ls.Nodup
 cl : ∀ i, i ∈ ls → ∀ x, x ∈ (σ (.o i)).vs → ∀ j, j ∈ x.men1 → j ∈ ls
def m2 (m : Om) (ls : List Nat) : Om := fun i => if 1000 ≤ i ∧ i - 1000 < ls.length then (ls[i - 1000]?).bind m else none
def who2 (who : Who) (ls : List Nat) : Who := fun b => match who b with
 | some (.o i, x) => if i ∈ ls then some (.o (idx ls i), x) else some (.t 0, none)
 | some (.t _, _) => some (.t 0, none)
 | none => none
def Fr2 (Fr : Nat → Prop) (who : Who) (ls : List Nat) (b : Nat) : Prop := Fr b ∨ who2 who ls b = some (.t 0, none)
def H2 (w : World) (who : Who) (ls : List Nat) : Hd := ⟨fun b => if b % 2 = 0 then w.heap[b / 2]? else (if who2 who ls (b / 2) = some (.t 0, none) then some default else none), w⟩
theorem H2_even (w : World) (who : Who) (ls : List Nat) (b : Nat) : H2 w who ls (2 * b) = w.heap[b]? := by
 simp [H2]
theorem H2_hid (w : World) (who : Who) (ls : List Nat) (b : Nat) : hidW (H2 w who ls) b = if who2 who ls b = some (.t 0, none) then some (.t 0, none) else none := by
 have h1 : (2 * b + 1) % 2 = 1 := by omega
 have h2 : (2 * b + 1) / 2 = b := by omega
 unfold hidW H2
 simp only
 rw [h1, h2]
 simp only [Nat.one_ne_zero, if_false]
 split <;> rfl
theorem idx_get {ls : List Nat} {i : Nat} (h : i ∈ ls) : 1000 ≤ idx ls i ∧ idx ls i - 1000 < ls.length ∧ ls[idx ls i - 1000]? = some i := by
 have h1 := List.idxOf_lt_length_of_mem h
 refine ⟨by simp [idx], by simpa [idx] using h1, ?_⟩
 simp only [idx, Nat.add_sub_cancel_left]
 rw [List.getElem?_eq_getElem h1, List.getElem_idxOf]
theorem m2_idx {ls : List Nat} {i : Nat} (h : i ∈ ls) : m2 m ls (idx ls i) = m i := by
 obtain ⟨h1, h2, h3⟩ := idx_get h
 unfold m2
 rw [if_pos ⟨h1, h2⟩, h3]; rfl
theorem idx_of {ls : List Nat} (hn : ls.Nodup) {k i : Nat} (h : ls[k]? = some i) : idx ls i = 1000 + k := by
 have hk := (List.getElem?_eq_some_iff.1 h).1
 have he := (List.getElem?_eq_some_iff.1 h).2
 simp only [idx]
 rw [← he, hn.idxOf_getElem]
theorem who2_obj {ls : List Nat} {i : Nat} {x : Option Nat} {b : Nat} (h : who b = some (.o i, x)) (hi : i ∈ ls) : who2 who ls b = some (.o (idx ls i), x) := by simp [who2, h, hi]

theorem SRel.enter (h : SRel nt Fr H0 m K who σ a w) {ls : List Nat} {os : List (List AV)} (hh : Hands σ ls os) {n : Nat} {vs : List Value} {xs : List AV} (hv : All2 (ARep1 m K) vs xs) (hp : xs.all AV.plain1 = true) (hx : ∀ x, x ∈ xs → ∀ i, i ∈ x.men1 → i ∈ ls) (hn : xs.length ≤ n) :
  SRel n (Fr2 Fr who ls) (H2 w who ls) (m2 m ls) K (who2 who ls) (entry (xs.map (AV.ren (idx ls))) (os.map fun vs => vs.map (AV.ren (idx ls)))) (enterAct n vs) w := by
 have hlen := hv.length
 have hlive : ∀ i, (entry (xs.map (AV.ren (idx ls))) (os.map fun vs => vs.map (AV.ren (idx ls))) (.o i)).live = true → ∃ i', 1000 ≤ i ∧ ls[i - 1000]? = some i' ∧ i = idx ls i' ∧ (σ (.o i')).live = true ∧ (entry (xs.map (AV.ren (idx ls))) (os.map fun vs => vs.map (AV.ren (idx ls))) (.o i)).vs = (σ (.o i')).vs.map (AV.ren (idx ls)) := by
  intro i hl
  simp only [entry] at hl ⊢
  by_cases h1 : i < 1000
  ·rw [if_pos h1] at hl; cases hl
  ·rw [if_neg h1] at hl ⊢
   rw [List.getElem?_map] at hl ⊢
   cases ho : os[i - 1000]? with
   | none => rw [ho] at hl; cases hl
   | some o =>
    have hlt : i - 1000 < ls.length := by rw [← hh.len]; exact (List.getElem?_eq_some_iff.1 ho).1
    obtain ⟨g1, g2⟩ := hh.at' (i - 1000) ls[i - 1000] (List.getElem?_eq_getElem hlt)
    rw [ho] at g2
    cases g2
    refine ⟨ls[i - 1000], by omega, List.getElem?_eq_getElem hlt, ?_, g1, by simp⟩
    rw [idx_of hh.nd (List.getElem?_eq_getElem hlt)]; omega
 have hex : ∀ t, ∃ x, (entry (xs.map (AV.ren (idx ls))) (os.map fun vs => vs.map (AV.ren (idx ls))) (.t t)).vs = [x] ∧ (x = .dead ∨ ∃ y, y ∈ xs ∧ x = y.ren1 (idx ls) ∧ y.plain1 = true ∧ ARep1 m K (vs.getD t undef) y) := by
  intro t
  refine ⟨_, rfl, ?_⟩
  rw [List.getD_eq_getElem?_getD, List.getElem?_map]
  cases hy : xs[t]? with
  | none => left; rfl
  | some y =>
   right
   have hyp : y.plain1 = true := List.all_eq_true.1 hp y (List.mem_of_getElem? hy)
   obtain ⟨v, hv1, hv2⟩ := hv.get hy
   refine ⟨y, List.mem_of_getElem? hy, by simp [ren_eq1 hyp], hyp, ?_⟩
   rw [List.getD_eq_getElem?_getD, hv1]; exact hv2
 refine ⟨by simp [enterAct]; omega, rfl, fun t => ?_, fun t p k c nn ht => ?_, fun t p k c i j ht => ?_, fun i hl => ?_, fun i b hi => ?_, fun b o v hv => ?_, fun b x hb => ?_, fun b hb => ?_, WSame.refl _⟩
 ·obtain ⟨x, h1, h2⟩ := hex t
  refine ⟨x, h1, ?_⟩
  rw [enter_tmp]
  rcases h2 with rfl | ⟨y, hy, rfl, hp1, hr⟩
  ·trivial
  ·have hr' := hr.ren (m2 := m2 m ls) (ρ := idx ls) (Kn.le.refl K) fun i b hi hb => by rw [m2_idx (hx y hy i hi)]; exact hb
   cases y with
   | data d => exact DRep.of_urep hr'
   | ptr _ _ => exact hr'
   | fn _ _ _ => exact hr'
   | ifc _ _ => exact hr'
   | _ => simp [AV.plain1, AV.plain0] at hp1
 ·obtain ⟨x, h1, h2⟩ := hex t
  rw [h1] at ht
  cases ht
  rcases h2 with g | ⟨y, hy, g, hp1, hr⟩
  ·cases g
  ·cases y <;> first | (simp [AV.plain1, AV.plain0] at hp1; done) | cases g
 ·obtain ⟨x, h1, h2⟩ := hex t
  rw [h1] at ht
  cases ht
  rcases h2 with g | ⟨y, hy, g, hp1, hr⟩
  ·cases g
  ·cases y <;> first | (simp [AV.plain1, AV.plain0] at hp1; done) | cases g
 ·obtain ⟨i', h1, h2, h3, h4, h5⟩ := hlive i hl
  obtain ⟨b, cs, el, g1, g2, g3⟩ := h.ob i' h4
  have hmem := List.mem_of_getElem? h2
  refine ⟨b, cs, el, by rw [h3, m2_idx hmem]; exact g1, g2, ?_⟩
  rw [h5]
  refine BReps.ren (Kn.le.refl K) (fun b' c hb' => ⟨?_, rfl⟩) (fun x hx' j b' hj hb' => ?_) g3
  ·rw [who2_obj hb' hmem, ← h3]
  ·rw [m2_idx (hh.cl i' hmem x hx' j hj)]; exact hb'
 ·unfold m2 at hi
  split at hi
  ·rename_i hc
   rw [List.getElem?_eq_getElem hc.2] at hi
   have hg := List.getElem?_eq_getElem hc.2
   obtain ⟨g1, g2⟩ := h.om _ b hi
   have hix := idx_of hh.nd hg
   refine ⟨?_, ?_⟩
   ·simp only [entry]
    rw [if_neg (by omega), List.getElem?_map, (hh.at' _ _ hg).2]; rfl
   ·rw [who2_obj g2 (List.mem_of_getElem? hg), hix]
    have : 1000 + (i - 1000) = i := by omega
    rw [this]
  ·cases hi
 ·obtain ⟨g1, g2⟩ := h.kv b o v hv
  exact ⟨by simp [who2, g1], g2⟩
 ·unfold who2 at hb
  cases hw : who b with
  | none => rw [hw] at hb; cases hb
  | some y => exact h.wh b y hw
 ·refine ⟨(H2_even _ _ _ _).symm, ?_, ?_⟩
  ·rw [H2_even]
   rcases hb with g | g
   ·obtain ⟨g1, g2, _⟩ := h.fr b g
    rw [g1]; exact g2
   ·have : b < w.heap.size := by
     unfold who2 at g
     cases hw : who b with
     | none => rw [hw] at g; cases g
     | some y => exact h.wh b y hw
    simp [this]
  ·rw [H2_hid]
   split
   ·assumption
   ·rename_i hne
    rcases hb with g | g
    ·obtain ⟨_, _, g3⟩ := h.fr b g
     cases hw : who b with
     | none => simp [who2, hw]
     | some y =>
      rw [hw] at g3
      have := hidW_t g3.symm
      subst this
      exact absurd (by simp [who2, hw]) hne
    ·exact absurd g hne
end
end Go.Proofs.Ytknkeabmjleoiaa.Vam
/- The machine by value and the model: a call's end. -/
namespace Go.Proofs.Ytknkeabmjleoiaa.Vam
open Go
set_option linter.unusedVariables false
set_option linter.unusedSimpArgs false
section
variable {P : Program} {O : Nat → Nat} {C : Query → Answer → Prop} {nt : Nat} {Fr : Nat → Prop} {H0 : Hd} {m m3 : Om} {K K3 : Kn} {who who3 : Who} {σ σ' σ5 : St} {a : Act} {w w' : World}

def m4 (m m3 : Om) (n r D : Nat) : Om := fun i => if 2000 + D * 8 ≤ i ∧ n + (i - 2000 - D * 8) < r then m3 (1000 + n + (i - 2000 - D * 8)) else m i
def who4 (who who3 : Who) (ls : List Nat) (D : Nat) : Who := fun b => match who3 b with
 | some (.o i, x) => some (.o (back ls D i), x)
 | some (.t _, some c) => some (.t D, some c)
 | some (.t _, none) => who b
 | none => none
structure Comes' (σ σ5 : St) (ls : List Nat) (ros : List (List AV)) (D : Nat) : Prop where
 t : ∀ t, σ5 (.t t) = σ (.t t)
 l : ∀ (k i : Nat), ls[k]? = some i → ∃ vs kk, ros[k]? = some vs ∧ σ5 (.o i) = ⟨vs.map (AV.ren (back ls D)), true, kk⟩ ∧ (σ (.o i)).k < kk
 a : ∀ j, ls.length + j < ros.length → ∃ vs kk, ros[ls.length + j]? = some vs ∧ σ5 (.o (2000 + D * 8 + j)) = ⟨vs.map (AV.ren (back ls D)), true, kk⟩ ∧ (σ (.o (2000 + D * 8 + j))).k < kk ∧ (σ (.o (2000 + D * 8 + j))).live = false
 o : ∀ i, i ∉ ls → (∀ j, ls.length + j < ros.length → i ≠ 2000 + D * 8 + j) → σ5 (.o i) = σ (.o i)

theorem entry_live {xs : List AV} {ros : List (List AV)} {i : Nat} (h : (entry xs ros (.o i)).live = true) : 1000 ≤ i ∧ i - 1000 < ros.length := by
 simp only [entry] at h
 by_cases h1 : i < 1000
 ·rw [if_pos h1] at h; cases h
 ·rw [if_neg h1] at h
  cases ho : ros[i - 1000]? with
  | none => rw [ho] at h; cases h
  | some o => exact ⟨by omega, (List.getElem?_eq_some_iff.1 ho).1⟩
theorem entry_at {xs : List AV} {ros : List (List AV)} {k : Nat} {vs : List AV} (h : ros[k]? = some vs) : entry xs ros (.o (1000 + k)) = ⟨vs, true, 0⟩ := by
 simp only [entry]
 rw [if_neg (by omega), Nat.add_sub_cancel_left, h]

theorem SRel.leave (h : SRel nt Fr H0 m K who σ a w) {ls : List Nat} {os : List (List AV)} (hh : Hands σ ls os) {r : AV} {ros : List (List AV)} {v : Value} (g : SRel 1 (Fr2 Fr who ls) (H2 w who ls) m3 K3 who3 (entry [r] ros) ⟨#[v], []⟩ w')
  (hK : K.le K3) (hM : ∀ i b, 1000 ≤ i → i < 1000 + ls.length → m3 i = some b → m2 m ls i = some b) (hn : ls.length ≤ ros.length) (hsm : ls.length ≤ 1000) {D : Nat} (hc : Comes' σ σ5 ls ros D) :
  SRel nt Fr H0 (m4 m m3 ls.length ros.length D) K3 (who4 who who3 ls D) σ5 a w' ∧ Mp m (m4 m m3 ls.length ros.length D) ∧ ∀ i b, m3 i = some b → m4 m m3 ls.length ros.length D (back ls D i) = some b := by
 have hnad : ∀ i, (σ (.o i)).live = true → ¬ (2000 + D * 8 ≤ i ∧ ls.length + (i - 2000 - D * 8) < ros.length) := fun i hl hg => by
  obtain ⟨vs, kk, _, _, _, q⟩ := hc.a (i - 2000 - D * 8) hg.2
  have : 2000 + D * 8 + (i - 2000 - D * 8) = i := by omega
  rw [this] at q
  rw [q] at hl; cases hl
 have hmle : m.le (m4 m m3 ls.length ros.length D) := fun i b hi => by
  unfold m4
  rw [if_neg (hnad i (h.om i b hi).1)]; exact hi
 have hback : ∀ k i, ls[k]? = some i → back ls D (1000 + k) = i := fun k i hk => by
  have := (List.getElem?_eq_some_iff.1 hk).1
  unfold back
  rw [Nat.add_sub_cancel_left, if_pos this, List.getD_eq_getElem?_getD, hk]; rfl
 have hbacka : ∀ j, back ls D (1000 + ls.length + j) = 2000 + D * 8 + j := fun j => by
  unfold back
  rw [if_neg (by omega)]; omega
 have hm3 : ∀ k i b, ls[k]? = some i → m3 (1000 + k) = some b → m i = some b := fun k i b hk hb => by
  have hlt := (List.getElem?_eq_some_iff.1 hk).1
  have := hM (1000 + k) b (by omega) (by omega) hb
  unfold m2 at this
  rw [if_pos ⟨by omega, by omega⟩, Nat.add_sub_cancel_left, hk] at this
  exact this
 have hmk : ∀ k i, ls[k]? = some i → ∃ b cs el vs, ros[k]? = some vs ∧ m3 (1000 + k) = some b ∧ m i = some b ∧ w'.heap[b]? = some (.cells cs el (0, 0)) ∧ BReps w' m3 K3 who3 (.o (1000 + k)) 0 cs.toList vs ∧ who3 b = some (.o (1000 + k), none) := fun k i hk => by
  have hlt := (List.getElem?_eq_some_iff.1 hk).1
  have hr : ros[k]? = some ros[k] := List.getElem?_eq_getElem (by omega)
  have he := entry_at (xs := [r]) hr
  obtain ⟨b, cs, el, q1, q2, q3⟩ := g.ob (1000 + k) (by rw [he])
  rw [he] at q3
  exact ⟨b, cs, el, ros[k], hr, q1, hm3 k i b hk q1, q2, q3, (g.om _ b q1).2⟩
 have hA : ∀ b y, who b = some y → (∀ i x, y = (.o i, x) → i ∉ ls) → w'.heap[b]? = w.heap[b]? ∧ who4 who who3 ls D b = who b := fun b y hb hy => by
  have hw2 : who2 who ls b = some (.t 0, none) := by
   unfold who2
   rw [hb]
   obtain ⟨p, x⟩ := y
   cases p with
   | t t => rfl
   | o i => simp [hy i x rfl]
  obtain ⟨q1, q2, q3⟩ := g.fr b (.inr hw2)
  rw [H2_even] at q1
  rw [H2_hid, if_pos hw2] at q3
  exact ⟨q1, by simp [who4, q3]⟩
 have hm4 : ∀ i b, m3 i = some b → m4 m m3 ls.length ros.length D (back ls D i) = some b := fun i b hi => by
  obtain ⟨hl, _⟩ := g.om i b hi
  obtain ⟨l1, l2⟩ := entry_live hl
  by_cases hlt : i - 1000 < ls.length
  ·have hk := List.getElem?_eq_getElem hlt
   have e : 1000 + (i - 1000) = i := by omega
   have := hm3 (i - 1000) _ b hk (by rw [e]; exact hi)
   have hb := hback _ _ hk
   rw [e] at hb
   rw [hb]
   exact hmle _ _ this
  ·have e : 1000 + ls.length + (i - 1000 - ls.length) = i := by omega
   have hb := hbacka (i - 1000 - ls.length)
   rw [e] at hb
   rw [hb]
   unfold m4
   rw [if_pos ⟨by omega, by omega⟩]
   have e2 : ∀ j : Nat, 2000 + D * 8 + j - 2000 - D * 8 = j := fun j => by omega
   rw [e2, e]
   exact hi
 have hobj : ∀ i b, i ∉ ls → m i = some b → m4 m m3 ls.length ros.length D i = some b ∧ w'.heap[b]? = w.heap[b]? := fun i b hi hb =>
  ⟨hmle i b hb, (hA b _ (h.om i b hb).2 (fun j x e => by cases e; exact hi)).1⟩
 have hpl : ∀ (p : Pl) (k : Nat), k ≤ (σ p).k → k ≤ (σ5 p).k ∧ (k = (σ5 p).k → σ5 p = σ p ∧ ∀ i, p = .o i → i ∉ ls) := fun p k hk => by
  cases p with
  | t t => rw [hc.t]; exact ⟨hk, fun _ => ⟨rfl, fun i e => by cases e⟩⟩
  | o i =>
   by_cases hi : i ∈ ls
   ·obtain ⟨k', hk'⟩ := List.getElem?_of_mem hi
    obtain ⟨vs, kk, q1, q2, q3⟩ := hc.l k' i hk'
    rw [q2]
    exact ⟨Nat.le_of_lt (Nat.lt_of_le_of_lt hk q3), fun e => absurd e (Nat.ne_of_lt (Nat.lt_of_le_of_lt hk q3))⟩
   ·by_cases ha : ∃ j, ls.length + j < ros.length ∧ i = 2000 + D * 8 + j
    ·obtain ⟨j, hj, rfl⟩ := ha
     obtain ⟨vs, kk, q1, q2, q3, q4⟩ := hc.a j hj
     rw [q2]
     exact ⟨Nat.le_of_lt (Nat.lt_of_le_of_lt hk q3), fun e => absurd e (Nat.ne_of_lt (Nat.lt_of_le_of_lt hk q3))⟩
    ·rw [hc.o i hi (fun j hj e => ha ⟨j, hj, e⟩)]
     exact ⟨hk, fun _ => ⟨rfl, fun i' e => by cases e; exact hi⟩⟩
 refine ⟨⟨h.nt, h.df, fun t => ?_, fun t p k c n ht => ?_, fun t p k c i j ht => ?_, fun i hl => ?_, fun i b hi => ?_, fun b o u hu => ?_, fun b x hx => ?_, fun b hb => ?_, h.ws.trans g.ws⟩, fun i b h1 h2 h3 => ?_, hm4⟩
 ·obtain ⟨x, hx, hr⟩ := h.tm t
  refine ⟨x, by rw [hc.t]; exact hx, hr.keep hmle hK fun b c _ hb => ?_⟩
  obtain ⟨q1, q2⟩ := hA b _ hb (fun i x e => by cases e)
  exact ⟨q2.trans hb, q1⟩
 ·rw [hc.t] at ht
  obtain ⟨h1, h2⟩ := h.rf t p k c n ht
  obtain ⟨q1, q2⟩ := hpl p k h1
  refine ⟨q1, fun e => ?_⟩
  obtain ⟨e1, e2⟩ := q2 e
  rw [e1] at e
  exact (h2 e).keep fun i b hp hb => hobj i b (e2 i hp) hb
 ·rw [hc.t] at ht
  obtain ⟨h1, h2⟩ := h.ef t p k c i j ht
  obtain ⟨q1, q2⟩ := hpl p k h1
  refine ⟨q1, fun e => ?_⟩
  obtain ⟨e1, e2⟩ := q2 e
  rw [e1] at e ⊢
  exact (h2 e).keep fun i b hp hb => hobj i b (e2 i hp) hb
 ·have hBR : ∀ (k i : Nat) (cs : Array Value) (vs : List AV), back ls D (1000 + k) = i → BReps w' m3 K3 who3 (.o (1000 + k)) 0 cs.toList vs → BReps w' (m4 m m3 ls.length ros.length D) K3 (who4 who who3 ls D) (.o i) 0 cs.toList (vs.map (AV.ren (back ls D))) := fun k i cs vs hb hB =>
   hB.ren (Kn.le.refl K3) (fun b c hw => ⟨by simp [who4, hw, hb], rfl⟩) fun x _ j b _ hj => hm4 j b hj
  by_cases hi : i ∈ ls
  ·obtain ⟨k, hk⟩ := List.getElem?_of_mem hi
   obtain ⟨vs, kk, q1, q2, q3⟩ := hc.l k i hk
   obtain ⟨b, cs, el, vs', r1, r2, r3, r4, r5, r6⟩ := hmk k i hk
   rw [q1] at r1; cases r1
   refine ⟨b, cs, el, hmle i b r3, r4, ?_⟩
   rw [q2]
   exact hBR k i cs vs (hback k i hk) r5
  ·by_cases ha : ∃ j, ls.length + j < ros.length ∧ i = 2000 + D * 8 + j
   ·obtain ⟨j, hj, rfl⟩ := ha
    obtain ⟨vs, kk, q1, q2, q3, q4⟩ := hc.a j hj
    have he := entry_at (xs := [r]) q1
    obtain ⟨b, cs, el, r1, r2, r3⟩ := g.ob (1000 + (ls.length + j)) (by rw [he])
    rw [he] at r3
    have hb : back ls D (1000 + (ls.length + j)) = 2000 + D * 8 + j := by rw [← Nat.add_assoc]; exact hbacka j
    refine ⟨b, cs, el, by rw [← hb]; exact hm4 _ _ r1, r2, ?_⟩
    rw [q2]
    exact hBR _ _ cs vs hb r3
   ·have e := hc.o i hi (fun j hj e => ha ⟨j, hj, e⟩)
    rw [e] at hl ⊢
    obtain ⟨b, cs, el, r1, r2, r3⟩ := h.ob i hl
    obtain ⟨r4, r5⟩ := hobj i b hi r1
    refine ⟨b, cs, el, r4, r5.trans r2, r3.keep hmle hK fun b' j d _ _ hb' => ?_⟩
    obtain ⟨s1, s2⟩ := hA b' _ hb' (fun i' x e => by cases e; exact hi)
    exact ⟨s2.trans hb', s1⟩
 ·by_cases ha : 2000 + D * 8 ≤ i ∧ ls.length + (i - 2000 - D * 8) < ros.length
  ·have hi' := hi
   unfold m4 at hi'
   rw [if_pos ha] at hi'
   obtain ⟨vs, kk, q1, q2, q3, q4⟩ := hc.a _ ha.2
   have e : 2000 + D * 8 + (i - 2000 - D * 8) = i := by omega
   rw [e] at q2
   refine ⟨by rw [q2], ?_⟩
   have hw := (g.om _ b hi').2
   have hb := hbacka (i - 2000 - D * 8)
   rw [e] at hb
   simp [who4, hw, hb]
  ·have hi' := hi
   unfold m4 at hi'
   rw [if_neg ha] at hi'
   obtain ⟨h1, h2⟩ := h.om i b hi'
   by_cases hil : i ∈ ls
   ·obtain ⟨k, hk⟩ := List.getElem?_of_mem hil
    obtain ⟨vs, kk, q1, q2, q3⟩ := hc.l k i hk
    obtain ⟨b', cs, el, vs', r1, r2, r3, r4, r5, r6⟩ := hmk k i hk
    rw [hi'] at r3; cases r3
    exact ⟨by rw [q2], by simp [who4, r6, hback k i hk]⟩
   ·have e := hc.o i hil (fun j hj e => ha ⟨by omega, by rw [show i - 2000 - D * 8 = j by omega]; exact hj⟩)
    rw [e]
    exact ⟨h1, ((hA b _ h2 (fun j x e => by cases e; exact hil)).2).trans h2⟩
 ·obtain ⟨q1, q2⟩ := g.kv b o u hu
  exact ⟨by simp [who4, q1], q2⟩
 ·unfold who4 at hx
  cases hw : who3 b with
  | none => rw [hw] at hx; cases hx
  | some y => exact g.wh b y hw
 ·obtain ⟨q1, q2, q3⟩ := g.fr b (.inl hb)
  obtain ⟨p1, p2, p3⟩ := h.fr b hb
  rw [H2_even] at q1
  refine ⟨q1.trans p1, p2, ?_⟩
  rw [H2_hid] at q3
  cases hw : who b with
  | none =>
   rw [if_neg (by simp [who2, hw])] at q3
   rw [← p3, hw]; simp [who4, q3]
  | some y =>
   have hy : y = (.t 0, none) := hidW_t (by rw [← p3]; exact hw)
   subst hy
   rw [if_pos (by simp [who2, hw])] at q3
   rw [← p3, hw]
   simp [who4, q3, hw]
 ·have h4 : (if 2000 + D * 8 ≤ i ∧ ls.length + (i - 2000 - D * 8) < ros.length then m3 (1000 + ls.length + (i - 2000 - D * 8)) else m i) = some b := h3
  rw [if_neg (by omega)] at h4
  exact h4
end
end Go.Proofs.Ytknkeabmjleoiaa.Vam
/- The machine by value and the model: a call of a function of the program. -/
namespace Go.Proofs.Ytknkeabmjleoiaa.Vam
open Go
set_option linter.unusedVariables false
set_option linter.unusedSimpArgs false
section
variable {P : Program} {O : Nat → Nat} {C : Query → Answer → Prop} {nt : Nat} {Fr : Nat → Prop} {H0 : Hd} {m : Om} {K : Kn} {who : Who} {σ σ' : St} {a : Act} {w : World}

structure Gath (σ : St) (objs : List (Nat × Cell)) (todo : List Nat) : Prop where
 at' : ∀ x : Nat × Cell, x ∈ objs → x.2 = σ (.o x.1) ∧ x.2.live = true
 nd : (objs.map (·.1)).Nodup
 cl : ∀ x : Nat × Cell, x ∈ objs → ∀ y, y ∈ x.2.vs → ∀ j, j ∈ y.men1 → j ∈ objs.map (·.1) ∨ j ∈ todo
theorem gather_ok : ∀ {n : Nat} {todo : List Nat} {acc objs : List (Nat × Cell)}, Gath σ acc todo → Does C (gatherGo n todo acc) σ objs σ' → σ' = σ ∧ Gath σ objs [] ∧ (∀ i, i ∈ todo → i ∈ objs.map (·.1)) ∧ ∀ i, i ∈ acc.map (·.1) → i ∈ objs.map (·.1)
 | n, [], acc, objs, hg, hd => by
  have hd' : Does C (pure acc.reverse : Pr _) σ objs σ' := by cases n <;> exact hd
  obtain ⟨rfl, e⟩ := Does.pure hd'
  refine ⟨e, ⟨fun x hx => hg.at' x (List.mem_reverse.1 hx), ?_, fun x hx y hy j hj => ?_⟩, fun i hi => by simp at hi, fun i hi => by rw [List.map_reverse]; exact List.mem_reverse.2 hi⟩
  ·rw [List.map_reverse]; exact (List.reverse_perm _).nodup_iff.2 hg.nd
  ·rcases hg.cl x (List.mem_reverse.1 hx) y hy j hj with g | g
   ·left; rw [List.map_reverse]; exact List.mem_reverse.2 g
   ·simp at g
 | 0, i :: r, acc, objs, hg, hd => (Does.fail hd).elim
 | n + 1, i :: r, acc, objs, hg, hd => by
  unfold gatherGo at hd
  split at hd
  ·rename_i hin
   have hi : i ∈ acc.map (·.1) := by
    rw [List.any_eq_true] at hin
    obtain ⟨x, hx, e⟩ := hin
    have := Nat.eq_of_beq_eq_true e
    exact List.mem_map.2 ⟨x, hx, this⟩
   obtain ⟨h1, h2, h3, h4⟩ := gather_ok (todo := r) ⟨hg.at', hg.nd, fun x hx y hy j hj => by
    rcases hg.cl x hx y hy j hj with g | g
    ·exact .inl g
    ·rcases List.mem_cons.1 g with g | g
     ·subst g; exact .inl hi
     ·exact .inr g⟩ hd
   refine ⟨h1, h2, fun j hj => ?_, h4⟩
   rcases List.mem_cons.1 hj with g | g
   ·subst g; exact h4 _ hi
   ·exact h3 j g
  ·rename_i hin
   obtain ⟨c, σ1, h1, h2⟩ := Does.bind hd
   obtain ⟨hc, h1'⟩ := Does.gt h1
   rw [h1'] at h2
   obtain ⟨_, σ2, h3, h4⟩ := Does.bind h2
   obtain ⟨hl, h3'⟩ := Does.must h3
   rw [h3'] at h4
   obtain ⟨_, σ3, h5, h6⟩ := Does.bind h4
   obtain ⟨_, h5'⟩ := Does.must h5
   rw [h5'] at h6
   have hi : i ∉ acc.map (·.1) := fun g => hin (by
    obtain ⟨x, hx, e⟩ := List.mem_map.1 g
    rw [List.any_eq_true]
    exact ⟨x, hx, by rw [e]; exact Nat.beq_refl i⟩)
   obtain ⟨g1, g2, g3, g4⟩ := gather_ok (todo := r ++ c.vs.flatMap AV.men1) (acc := (i, c) :: acc) ⟨fun x hx => by
     rcases List.mem_cons.1 hx with g | g
     ·subst g; exact ⟨hc, hl⟩
     ·exact hg.at' x g, by simp only [List.map_cons]; exact List.nodup_cons.2 ⟨hi, hg.nd⟩, fun x hx y hy j hj => by
     rcases List.mem_cons.1 hx with g | g
     ·subst g
      exact .inr (List.mem_append_right _ (List.mem_flatMap.2 ⟨y, hy, hj⟩))
     ·rcases hg.cl x g y hy j hj with g | g
      ·exact .inl (List.mem_cons_of_mem _ g)
      ·rcases List.mem_cons.1 g with g | g
       ·subst g; exact .inl List.mem_cons_self
       ·exact .inr (List.mem_append_left _ g)⟩ h6
   refine ⟨g1, g2, fun j hj => ?_, fun j hj => g4 j (List.mem_cons_of_mem _ hj)⟩
   rcases List.mem_cons.1 hj with g | g
   ·subst g; exact g4 _ List.mem_cons_self
   ·exact g3 j (List.mem_append_left _ g)

theorem handBack_ok {ρ : Nat → Nat} : ∀ {objs : List (Nat × Cell)} {ros : List (List AV)} {σ : St} {u : Unit}, Does C (handBack ρ objs ros) σ u σ' → (objs.map (·.1)).Nodup → objs.length ≤ ros.length →
  (∀ (k : Nat) (x : Nat × Cell), objs[k]? = some x → ∃ vs, ros[k]? = some vs ∧ σ' (.o x.1) = ⟨vs.map (AV.ren ρ), true, x.2.k + 1⟩) ∧ ∀ p, (∀ i, i ∈ objs.map (·.1) → p ≠ .o i) → σ' p = σ p
 | [], ros, σ, u, hd, _, _ => by
  have hd' : Does C (pure () : Pr Unit) σ u σ' := by cases ros <;> exact hd
  obtain ⟨_, e⟩ := Does.pure hd'
  exact ⟨fun k x h => by simp at h, fun p _ => by rw [e]⟩
 | x :: xs, [], σ, u, hd, _, hl => by simp at hl
 | x :: xs, vs :: r, σ, u, hd, hn, hl => by
  obtain ⟨_, σ1, h1, h2⟩ := Does.bind hd
  have hσ := Does.st h1
  subst hσ
  simp only [List.map_cons, List.nodup_cons] at hn
  obtain ⟨q1, q2⟩ := handBack_ok h2 hn.2 (by simpa using hl)
  refine ⟨fun k y hk => ?_, fun p hp => ?_⟩
  ·cases k with
   | zero =>
    simp at hk; subst hk
    exact ⟨vs, rfl, by rw [q2 _ (fun i hi e => hn.1 (by cases e; exact hi)), St.put_same]⟩
   | succ k => simpa using q1 k y (by simpa using hk)
  ·rw [q2 p (fun i hi => hp i (List.mem_cons_of_mem _ hi)), St.put_ne _ _ (hp _ List.mem_cons_self)]
theorem adoptGo_ok {ρ : Nat → Nat} : ∀ {rs : List (List AV)} {i : Nat} {σ : St} {u : Unit}, Does C (adoptGo ρ i rs) σ u σ' →
  (∀ (j : Nat) (vs : List AV), rs[j]? = some vs → (σ (.o (i + j))).live = false ∧ σ' (.o (i + j)) = ⟨vs.map (AV.ren ρ), true, (σ (.o (i + j))).k + 1⟩) ∧ ∀ p, (∀ j, j < rs.length → p ≠ .o (i + j)) → σ' p = σ p
 | [], i, σ, u, hd => by
  obtain ⟨_, e⟩ := Does.pure hd
  exact ⟨fun k x h => by simp at h, fun p _ => by rw [e]⟩
 | vs :: r, i, σ, u, hd => by
  obtain ⟨c, σ1, h1, h2⟩ := Does.bind hd
  obtain ⟨hc, h1'⟩ := Does.gt h1
  subst hc
  rw [h1'] at h2
  obtain ⟨_, σ2, h3, h4⟩ := Does.bind h2
  obtain ⟨hl, h3'⟩ := Does.must h3
  rw [h3'] at h4
  obtain ⟨_, σ3, h5, h6⟩ := Does.bind h4
  have hσ := Does.st h5
  subst hσ
  obtain ⟨q1, q2⟩ := adoptGo_ok h6
  refine ⟨fun j vs' hj => ?_, fun p hp => ?_⟩
  ·cases j with
   | zero =>
    simp at hj; subst hj
    exact ⟨by simpa using hl, by
     rw [Nat.add_zero, q2 _ (fun j _ e => by
      have : i = i + 1 + j := by injection e
      omega), St.put_same]⟩
   | succ j =>
    have := q1 j vs' (by simpa using hj)
    rw [show i + 1 + j = i + (j + 1) by omega] at this
    rw [St.put_ne _ _ (fun e => by
     have : i + (j + 1) = i := by injection e
     omega)] at this
    exact this
  ·rw [q2 p (fun j hj e => hp (j + 1) (by simpa using hj) (by rw [e]; congr 1; omega)), St.put_ne _ _ (by have := hp 0 (by simp); simpa using this)]

theorem take0_k {y z : AV} (hd : Does C (take false y) σ z σ') : ∀ p, (σ' p).k = (σ p).k := by
 intro q
 by_cases href : ∃ p k c n, y = .ref p k c n
 ·obtain ⟨p, k, c, n, rfl⟩ := href
  obtain ⟨x, σ1, h1, hd1⟩ := Does.bind hd
  obtain ⟨rfl, h1'⟩ := Does.gt h1
  rw [h1'] at hd1
  obtain ⟨_, σ2, h2, hd2⟩ := Does.bind hd1
  obtain ⟨hk, h2'⟩ := Does.must h2
  rw [h2'] at hd2
  obtain ⟨d, σ3, h3, hd3⟩ := Does.bind hd2
  obtain ⟨hd', h3'⟩ := Does.of h3
  rw [h3'] at hd3
  simp only [Bool.false_eq_true, if_false] at hd3
  obtain ⟨_, σ4, h4, hd4⟩ := Does.bind hd3
  have hσ := Does.st h4
  obtain ⟨_, h5⟩ := Does.pure hd4
  rw [h5, hσ]
  by_cases e : q = p
  ·subst e
   rw [St.put_same]
   cases q with
   | t t => simp only [setCells]; split <;> rfl
   | o i => rfl
  ·rw [St.put_ne _ _ e]
 ·have hp : σ' = σ := by
   cases y <;> first | exact (Does.pure hd).2 | exact absurd ⟨_, _, _, _, rfl⟩ href
  rw [hp]
theorem VRep.step {m : Om} {K K' : Kn} {v : Value} {x : AV} (hK : K.le K') (ha : x.okArg = true) (hs : ∀ p, (σ' p).k = (σ p).k) (h : VRep σ a w m K v x) : VRep σ' a w m K' v x := by
 cases x with
 | ref p k c n => exact ⟨by rw [hs]; exact h.1, fun e => h.2 (by rw [hs] at e; exact e)⟩
 | data d => exact ⟨h.1, h.2.mono hK⟩
 | fn f a b => exact ARep1.mono (x := .fn f a b) (fun _ _ h => h) hK h
 | ifc t x => exact ARep1.mono (x := .ifc t x) (fun _ _ h => h) hK h
 | ptr i off => exact ARep1.mono (x := .ptr i off) (fun _ _ h => h) hK h
 | _ => simp [AV.okArg, AV.plain1, AV.plain0] at ha
theorem VRep.plain {m : Om} {K : Kn} {v : Value} {x : AV} (hp : x.plain1 = true) (h : VRep σ a w m K v x) : ARep1 m K v x := by
 cases x with
 | data d => exact h.2
 | fn f a b => exact h
 | ifc t x => exact h
 | ptr i off => exact h
 | _ => simp [AV.plain1, AV.plain0] at hp
theorem takes_ok : ∀ {ys : List AV} {vs : List Value} {zs : List AV} {σ : St} {K : Kn} {who : Who}, SRel nt Fr H0 m K who σ a w → All2 (VRep σ a w m K) vs ys → ys.all AV.okArg = true → Does C (ys.mapM (take false)) σ zs σ' → zs.all AV.plain1 = true →
  ∃ K' who', SRel nt Fr H0 m K' who' σ' a w ∧ K.le K' ∧ All2 (ARep1 m K') vs zs
 | [], vs, zs, σ, K, who, h, hv, _, hd, _ => by
  obtain ⟨rfl, e⟩ := Does.mapM_nil hd
  cases hv
  exact ⟨K, who, by rw [e]; exact h, Kn.le.refl K, .nil⟩
 | y :: ys, vs, zs, σ, K, who, h, hv, ha, hd, hp => by
  obtain ⟨z, σ1, r, h1, h2, rfl⟩ := Does.mapM_cons hd
  simp only [List.all_cons, Bool.and_eq_true] at ha hp
  cases hv with
  | cons g1 g2 =>
   obtain ⟨K1, who1, q1, q2, q3, q4, q5⟩ := h.take0 g1 h1
   have hk := take0_k h1
   have g2' : All2 (VRep σ1 a w m K1) _ ys := g2.mono_mem fun v y hy hr => hr.step q2 (List.all_eq_true.1 ha.2 y hy) hk
   obtain ⟨K2, who2, r1, r2, r3⟩ := takes_ok q1 g2' ha.2 h2 hp.2
   exact ⟨K2, who2, r1, q2.trans r2, .cons ((q4.plain hp.1).mono (fun _ _ h => h) r2) r3⟩
theorem views_ok (h : SRel nt Fr H0 m K who σ a w) : ∀ {ys : List AV} {vs : List Value} {zs : List AV}, All2 (VRep σ a w m K) vs ys → Does C (ys.mapM viewArg) σ zs σ' → zs.all AV.plain1 = true → σ' = σ ∧ All2 (ARep1 m (Kall w)) vs zs
 | [], vs, zs, hv, hd, _ => by
  obtain ⟨rfl, e⟩ := Does.mapM_nil hd
  cases hv
  exact ⟨e, .nil⟩
 | y :: ys, vs, zs, hv, hd, hp => by
  obtain ⟨z, σ1, r, h1, h2, rfl⟩ := Does.mapM_cons hd
  simp only [List.all_cons, Bool.and_eq_true] at hp
  cases hv with
  | cons g1 g2 =>
   rename_i v0 _
   have hz : σ1 = σ ∧ ARep1 m (Kall w) v0 z := by
    by_cases href : ∃ p k c n, y = .ref p k c n
    ·obtain ⟨p, k, c, n, rfl⟩ := href
     obtain ⟨d, σ2, h3, h4⟩ := Does.bind h1
     obtain ⟨e1, hv1⟩ := h.view g1 h3
     obtain ⟨rfl, e2⟩ := Does.pure h4
     exact ⟨by rw [e2, e1], hv1⟩
    ·have hp' : z = y ∧ σ1 = σ := by
      cases y <;> first | exact Does.pure h1 | exact absurd ⟨_, _, _, _, rfl⟩ href
     obtain ⟨rfl, e⟩ := hp'
     exact ⟨e, (g1.plain hp.1).mono (fun _ _ h => h) h.kall⟩
   obtain ⟨e, hz⟩ := hz
   rw [e] at h2
   obtain ⟨e2, hzs⟩ := views_ok h g2 h2 hp.2
   exact ⟨e2, .cons hz hzs⟩
theorem ARep1.normS {m : Om} {K : Kn} {v : Value} {x : AV} (t : TypeId) (h : ARep1 m K v x) : ARep1 m K v (normS P t x) := by
 rcases normS_data (P := P) t x with ⟨own, nl, sz, es, rfl, sz', h1, h2⟩ | h1
 ·rw [h1]; exact CRep.normS h h2
 ·rw [h1]; exact h
theorem normS_plain (t : TypeId) (x : AV) : (normS P t x).plain1 = x.plain1 ∧ (normS P t x).men1 = x.men1 := by
 rcases normS_data (P := P) t x with ⟨own, nl, sz, es, rfl, sz', h1, h2⟩ | h1
 ·rw [h1]; exact ⟨by cases own <;> rfl, rfl⟩
 ·rw [h1]; exact ⟨rfl, rfl⟩
theorem ARep1.norm {m : Om} {K : Kn} {v : Value} {x : AV} (t : TypeId) (h : ARep1 m K v x) : ARep1 m K v (norm P t x) := by
 rcases norm_data (P := P) t x with ⟨own, nl, sz, es, rfl, sz', h1, h2⟩ | h1
 ·rw [h1]; exact CRep.norm h h2
 ·rw [h1]; exact h
theorem normArgs_ok {m : Om} {K : Kn} : ∀ {ts : List TypeId} {vs : List Value} {xs : List AV}, All2 (ARep1 m K) vs xs → xs.all AV.plain1 = true → All2 (ARep1 m K) vs (normArgs P ts xs) ∧ (normArgs P ts xs).all AV.plain1 = true ∧ (normArgs P ts xs).length = xs.length
 | [], vs, xs, h, hp => by cases xs <;> exact ⟨h, hp, rfl⟩
 | t :: ts, vs, [], h, hp => ⟨h, hp, rfl⟩
 | t :: ts, vs, x :: xs, h, hp => by
  cases h with
  | cons g1 g2 =>
   simp only [List.all_cons, Bool.and_eq_true] at hp
   obtain ⟨q1, q2, q3⟩ := normArgs_ok (ts := ts) g2 hp.2
   exact ⟨.cons (g1.normS t) q1, by simp only [normArgs, List.all_cons, Bool.and_eq_true]; exact ⟨by rw [(normS_plain t x).1]; exact hp.1, q2⟩, by simp [normArgs, q3]⟩
end
end Go.Proofs.Ytknkeabmjleoiaa.Vam
/- The machine by value and the model: a call, whole. -/
namespace Go.Proofs.Ytknkeabmjleoiaa.Vam
open Go
set_option linter.unusedVariables false
set_option linter.unusedSimpArgs false
section
variable {P : Program} {O : Nat → Nat} {C : Query → Answer → Prop} {nt : Nat} {Fr : Nat → Prop} {H0 : Hd} {m : Om} {K : Kn} {who : Who} {σ σ' : St} {a : Act} {w : World}

theorem Does.askF {α : Type} {q : Query} {f : Answer → Pr α} {x : α} (h : Does C (Pr.askF q f) σ x σ') : ∃ r, C q r ∧ Does C (f r) σ x σ' := by
 obtain ⟨R, W, h⟩ := h
 cases h with
 | askF h1 h2 => exact ⟨_, h1, _, _, h2⟩
theorem backs_ok {ρ : Nat → Nat} {objs : List (Nat × Cell)} {ros : List (List AV)} {D : Nat} {σ1 σ2 : St} {u u' : Unit} (hg : Gath σ objs []) (hρ : ρ = back (objs.map (·.1)) D) (h1 : Does C (handBack ρ objs ros) σ u σ1) (hl : objs.length ≤ ros.length)
  (h2 : Does C (adoptGo ρ (2000 + D * 8) (ros.drop objs.length)) σ1 u' σ2) : Comes' σ σ2 (objs.map (·.1)) ros D := by
 obtain ⟨p1, p2⟩ := handBack_ok h1 hg.nd hl
 obtain ⟨q1, q2⟩ := adoptGo_ok h2
 have hroom : ∀ j, j < (ros.drop objs.length).length ↔ objs.length + j < ros.length := fun j => by simp; omega
 have hat : ∀ j, objs.length + j < ros.length → ∃ vs, (ros.drop objs.length)[j]? = some vs ∧ ros[objs.length + j]? = some vs := fun j hj => ⟨ros[objs.length + j], by rw [List.getElem?_drop]; exact List.getElem?_eq_getElem hj, List.getElem?_eq_getElem hj⟩
 have hne : ∀ i, i ∈ objs.map (·.1) → ∀ j, objs.length + j < ros.length → i ≠ 2000 + D * 8 + j := fun i hi j hj e => by
  obtain ⟨vs, v1, _⟩ := hat j hj
  have := (q1 j vs v1).1
  rw [← e] at this
  obtain ⟨x, hx, rfl⟩ := List.mem_map.1 hi
  obtain ⟨k, hk⟩ := List.getElem?_of_mem hx
  obtain ⟨vs', _, e'⟩ := p1 k x hk
  rw [e'] at this; cases this
 have hlen : (objs.map (·.1)).length = objs.length := by simp
 refine ⟨fun t => ?_, fun k i hk => ?_, fun j hj => ?_, fun i hi hj => ?_⟩
 ·rw [q2 _ (fun j _ => by simp), p2 _ (fun i _ => by simp)]
 ·rw [List.getElem?_map, Option.map_eq_some_iff] at hk
  obtain ⟨x, hk, rfl⟩ := hk
  obtain ⟨vs, v1, v2⟩ := p1 k x hk
  have hm := List.mem_of_getElem? hk
  refine ⟨vs, x.2.k + 1, v1, ?_, ?_⟩
  ·rw [q2 _ (fun j hj e => hne x.1 (List.mem_map.2 ⟨x, hm, rfl⟩) j ((hroom j).1 hj) (by injection e)), v2, hρ]
  ·rw [← (hg.at' x hm).1]; exact Nat.lt_succ_self _
 ·rw [hlen] at hj ⊢
  obtain ⟨vs, v1, v2⟩ := hat j hj
  obtain ⟨l1, l2⟩ := q1 j vs v1
  have hne' : ∀ i, i ∈ objs.map (·.1) → (Pl.o (2000 + D * 8 + j)) ≠ .o i := fun i hi e => hne i hi j hj (by injection e with e; exact e.symm)
  rw [p2 _ hne'] at l1 l2
  exact ⟨vs, _, v2, by rw [l2, hρ], Nat.lt_succ_self _, l1⟩
 ·rw [hlen] at hj
  rw [q2 _ (fun j hj' e => hj j ((hroom j).1 hj') (by injection e)), p2 _ (fun i' hi' e => hi (by injection e with e; rw [e]; exact hi'))]
theorem Comes'.kill {σ5 : St} {ls : List Nat} {ros : List (List AV)} {D : Nat} (h : Comes' σ σ5 ls ros D) (t : Nat) (c : Cell) : Comes' (σ.put (.t t) c) (σ5.put (.t t) c) ls ros D := by
 refine ⟨fun t' => ?_, fun k i hk => ?_, fun j hj => ?_, fun i hi hj => ?_⟩
 ·by_cases e : (Pl.t t') = .t t
  ·rw [e, St.put_same, St.put_same]
  ·rw [St.put_ne _ _ e, St.put_ne _ _ e, h.t]
 ·rw [St.put_ne _ _ (by simp), St.put_ne _ _ (by simp)]; exact h.l k i hk
 ·rw [St.put_ne _ _ (by simp), St.put_ne _ _ (by simp)]; exact h.a j hj
 ·rw [St.put_ne _ _ (by simp), St.put_ne _ _ (by simp)]; exact h.o i hi hj
theorem Gath.hands {objs : List (Nat × Cell)} (hg : Gath σ objs []) : Hands σ (objs.map (·.1)) (objs.map (·.2.vs)) := by
 refine ⟨by simp, fun k i hk => ?_, hg.nd, fun i hi x hx j hj => ?_⟩
 ·rw [List.getElem?_map, Option.map_eq_some_iff] at hk
  obtain ⟨x, hk, rfl⟩ := hk
  obtain ⟨e1, e2⟩ := hg.at' x (List.mem_of_getElem? hk)
  rw [← e1]
  exact ⟨e2, by rw [List.getElem?_map, hk]; rfl⟩
 ·obtain ⟨y, hy, rfl⟩ := List.mem_map.1 hi
  rw [← (hg.at' y hy).1] at hx
  rcases hg.cl y hy x hx j hj with g | g
  ·exact g
  ·simp at g
theorem Hands.kill {ls : List Nat} {os : List (List AV)} (h : Hands σ ls os) (t : Nat) (c : Cell) : Hands (σ.put (.t t) c) ls os := by
 refine ⟨h.len, fun k i hk => ?_, h.nd, fun i hi => ?_⟩
 ·rw [St.put_ne _ _ (by simp)]; exact h.at' k i hk
 ·rw [St.put_ne _ _ (by simp)]; exact h.cl i hi

theorem ans_rep {m3 m5 : Om} {K3 : Kn} {who3 : Who} {w' : World} {who5 : Who} {D : Nat} {ρ : Nat → Nat} {v : Value} {r : AV} (hok : r.okAns = true) (hm : ∀ i b, m3 i = some b → m5 (ρ i) = some b) (hw : ∀ b c, who3 b = some (.t 0, some c) → who5 b = some (.t D, some c))
  (h : ARep w' m3 K3 who3 (.t 0) v r) : ARep w' m5 K3 who5 (.t D) v (r.ren ρ) ∧ (∀ p k c n, r.ren ρ ≠ .ref p k c n) ∧ ∀ p k c i j, r.ren ρ ≠ .eptr p k c i j := by
 cases r with
 | data d => exact ⟨DRep.tag (Kn.le.refl K3) (fun b c hb => ⟨hw b c hb, rfl⟩) h, (fun _ _ _ _ e => by cases e), (fun _ _ _ _ _ e => by cases e)⟩
 | ptr i o => exact ⟨ARep1.ren (x := .ptr i o) (Kn.le.refl K3) (fun i b _ => hm i b) h, (fun _ _ _ _ e => by cases e), (fun _ _ _ _ _ e => by cases e)⟩
 | fn f a b => exact ⟨ARep1.ren (x := .fn f a b) (Kn.le.refl K3) (fun i b _ => hm i b) h, (fun _ _ _ _ e => by cases e), (fun _ _ _ _ _ e => by cases e)⟩
 | ifc t x => exact ⟨ARep1.ren (x := .ifc t x) (Kn.le.refl K3) (fun i b _ => hm i b) h, (fun _ _ _ _ e => by cases e), (fun _ _ _ _ _ e => by cases e)⟩
 | tup xs =>
  obtain ⟨vs, e, h⟩ := h
  exact ⟨⟨vs, e, h.map_right_mem _ fun v x _ hr => hr.ren (Kn.le.refl K3) fun i b _ => hm i b⟩, (fun _ _ _ _ e => by cases e), (fun _ _ _ _ _ e => by cases e)⟩
 | _ => cases hok

theorem scalar1_rep {m m' : Om} {K K' : Kn} {v : Value} {x : AV} (hs : x.scalar1 = true) (h : ARep1 m K v x) : ARep1 m' K' v x ∧ ∃ d, x = .data d ∧ d.owned = false := by
 cases x with
 | data d =>
  cases d with
  | val y => cases h with
   | val h => exact ⟨.val h, _, rfl, rfl⟩
  | agg cs =>
   obtain ⟨vs, e, h⟩ := h
   simp only [AV.scalar1, List.all_eq_true] at hs
   refine ⟨⟨vs, e, h.mono_mem fun v d hd hr => ?_⟩, _, rfl, ?_⟩
   ·have := hs d hd
    cases d with
    | val y => cases hr with
     | val h => exact .val h
    | _ => cases this
   ·simp only [DV.owned, List.any_eq_false]
    intro d hd
    have := hs d hd
    cases d with
    | val y => simp [DV.owned1]
    | _ => cases this
  | _ => cases hs
 | _ => cases hs
theorem scalar_rep {w' : World} {m m' : Om} {K K' : Kn} {who : Who} {v : Value} {x : AV} (hs : x.scalar = true) (h : ARep w' m K who (.t 0) v x) : VRep σ a w m' K' v x := by
 have one : ∀ {x : AV}, x.scalar1 = true → ARep w' m K who (.t 0) v x → VRep σ a w m' K' v x := by
  intro x hs h
  have h1 : ARep1 m K v x := by
   cases x with
   | data d =>
    have ho : d.owned = false := by
     cases d with
     | val _ => rfl
     | agg cs =>
      simp only [AV.scalar1, List.all_eq_true] at hs
      simp only [DV.owned, List.any_eq_false]
      intro d hd
      have := hs d hd
      cases d with
      | val y => simp [DV.owned1]
      | _ => cases this
     | _ => cases hs
    exact DRep.unowned h ho
   | _ => cases hs
  obtain ⟨q1, d, rfl, q2⟩ := scalar1_rep (m' := m') (K' := K') hs h1
  exact ⟨q2, q1⟩
 cases x with
 | tup xs =>
  obtain ⟨vs, e, h⟩ := h
  simp only [AV.scalar, List.all_eq_true] at hs
  exact ⟨vs, e, h.mono_mem fun v x hx hr => (scalar1_rep (hs x hx) hr).1⟩
 | _ => exact one hs h
end
end Go.Proofs.Ytknkeabmjleoiaa.Vam
/- The machine by value and the model: a call, whole. -/
namespace Go.Proofs.Ytknkeabmjleoiaa.Vam
open Go
set_option linter.unusedVariables false
set_option linter.unusedSimpArgs false
section
variable {P : Program} {O : Nat → Nat} {C : Query → Answer → Prop} {nt : Nat} {Fr : Nat → Prop} {H0 : Hd} {m : Om} {K : Kn} {who : Who} {σ σ' : St} {a : Act} {w : World}

theorem SRel.enterQ (h : SRel nt Fr H0 m K who σ a w) {n : Nat} {vs : List Value} {xs : List AV} (hv : All2 (ARep1 m (Kall w)) vs xs) (hp : xs.all AV.plain1 = true) (hx : ∀ x, x ∈ xs → ∀ i, i ∈ x.men1 → False) (hn : xs.length ≤ n) :
  SRel n (fun b => b < w.heap.size) ⟨fun b => if b % 2 = 0 then w.heap[b / 2]? else none, w⟩ (fun _ => none) (Kall w) (fun _ => none) (entry (xs.map (AV.ren (idx []))) []) (enterAct n vs) w := by
 have hlen := hv.length
 have hex : ∀ t, ∃ x, (entry (xs.map (AV.ren (idx []))) [] (.t t)).vs = [x] ∧ (x = .dead ∨ ∃ y, y ∈ xs ∧ x = y.ren1 (idx []) ∧ y.plain1 = true ∧ ARep1 m (Kall w) (vs.getD t undef) y) := by
  intro t
  refine ⟨_, rfl, ?_⟩
  rw [List.getD_eq_getElem?_getD, List.getElem?_map]
  cases hy : xs[t]? with
  | none => left; rfl
  | some y =>
   right
   have hyp : y.plain1 = true := List.all_eq_true.1 hp y (List.mem_of_getElem? hy)
   obtain ⟨v, hv1, hv2⟩ := hv.get hy
   refine ⟨y, List.mem_of_getElem? hy, by simp [ren_eq1 hyp], hyp, ?_⟩
   rw [List.getD_eq_getElem?_getD, hv1]; exact hv2
 refine ⟨by simp [enterAct]; omega, rfl, fun t => ?_, fun t p k c nn ht => ?_, fun t p k c i j ht => ?_, fun i hl => ?_, fun i b hi => (by cases hi), fun b o v hv => ⟨rfl, ?_⟩, fun b x hb => (by cases hb), fun b hb => ⟨?_, ?_, ?_⟩, WSame.refl _⟩
 ·obtain ⟨x, h1, h2⟩ := hex t
  refine ⟨x, h1, ?_⟩
  rw [enter_tmp]
  rcases h2 with rfl | ⟨y, hy, rfl, hp1, hr⟩
  ·trivial
  ·have hr' := hr.ren (m2 := fun _ => none) (ρ := idx []) (Kn.le.refl _) fun i b hi hb => (hx y hy i hi).elim
   cases y with
   | data d => exact DRep.of_urep hr'
   | ptr _ _ => exact hr'
   | fn _ _ _ => exact hr'
   | ifc _ _ => exact hr'
   | _ => simp [AV.plain1, AV.plain0] at hp1
 ·obtain ⟨x, h1, h2⟩ := hex t
  rw [h1] at ht
  cases ht
  rcases h2 with g | ⟨y, hy, g, hp1, hr⟩
  ·cases g
  ·cases y <;> first | (simp [AV.plain1, AV.plain0] at hp1; done) | cases g
 ·obtain ⟨x, h1, h2⟩ := hex t
  rw [h1] at ht
  cases ht
  rcases h2 with g | ⟨y, hy, g, hp1, hr⟩
  ·cases g
  ·cases y <;> first | (simp [AV.plain1, AV.plain0] at hp1; done) | cases g
 ·have := (entry_live hl).2
  simp at this
 ·unfold Kall at hv
  split at hv
  ·rename_i cs el fr hh; exact ⟨cs, el, fr, hh, hv⟩
  ·cases hv
 ·have : 2 * b % 2 = 0 := by omega
  simp [this]
 ·have h1 : 2 * b % 2 = 0 := by omega
  have h2 : 2 * b / 2 = b := by omega
  simp only [h1, if_true, h2]
  rw [Array.getElem?_eq_getElem hb]; rfl
 ·have h1 : (2 * b + 1) % 2 = 1 := by omega
  simp [hidW, h1]
theorem SRel.leaveQ (h : SRel nt Fr H0 m K who σ a w) {m3 : Om} {K3 : Kn} {who3 : Who} {r : AV} {v : Value} {w' : World} (g : SRel 1 (fun b => b < w.heap.size) ⟨fun b => if b % 2 = 0 then w.heap[b / 2]? else none, w⟩ m3 K3 who3 (entry [r] []) ⟨#[v], []⟩ w') :
  SRel nt Fr H0 m K who σ a w' := by
 have hs : ∀ b, b < w.heap.size → w'.heap[b]? = w.heap[b]? := fun b hb => by
  have := (g.fr b hb).1
  have h1 : 2 * b % 2 = 0 := by omega
  simpa [h1] using this
 refine h.turn (fun b => w.heap.size ≤ b) (fun b hb => h.loose_new hb) (Kn.le.refl K) (fun b o u hu => ?_) (fun b _ hb => hs b hb) (fun _ _ => rfl) (fun b x hx => ?_) g.ws
 ·obtain ⟨k1, cs, el, fr, k2, k3⟩ := h.kv b o u hu
  have hlt : b < w.heap.size := by
   rcases Nat.lt_or_ge b w.heap.size with g | g
   ·exact g
   ·rw [Array.getElem?_eq_none g] at k2; cases k2
  exact ⟨k1, cs, el, fr, (hs b hlt).trans k2, k3⟩
 ·have hb := h.wh b x hx
  have := hs b hb
  rw [Array.getElem?_eq_getElem hb] at this
  exact (Array.getElem?_eq_some_iff.1 this).1

theorem normArgs_plain : ∀ {ts : List TypeId} {xs : List AV}, xs.all AV.plain1 = true → (normArgs P ts xs).all AV.plain1 = true
 | [], _, h => by unfold normArgs; exact h
 | _ :: _, [], h => by unfold normArgs; exact h
 | t :: ts, x :: xs, h => by
  rw [List.all_cons, Bool.and_eq_true] at h
  unfold normArgs
  rw [List.all_cons, (normS_plain (P := P) t x).1, h.1, normArgs_plain h.2]; rfl
theorem callPr_ok {d : Option Tmp} {f : FuncId} {args : List AV} {vs : List Value} {u : Unit} (hC : ∀ q r, C q r → Okay P q r) (h : SRel nt Fr H0 m K who σ a w) (hdst : ∀ t, d = some t → t < nt) (hx : All2 (VRep σ a w m K) vs args) (hd : Does C (callPr P d f args) σ u σ') {Next : Act → World → Prop}
  (hk : ∀ m' K' who' v w', SRel nt Fr H0 m' K' who' σ' (a.put d v) w' → K.le K' → Mp m m' → Next (a.put d v) w') :
  ∃ fn, P.funcs[f]? = some fn ∧ fn.body.isNone = false ∧ (fn.name == "runtime.NumGoroutine") = false ∧ Calls P f vs.toArray w fun e w' => ∃ v, e = .returned v ∧ Next (a.put d v) w' := by
 obtain ⟨fn, σ1, h1, h2⟩ := Does.bind hd
 obtain ⟨hf, h1'⟩ := Does.of h1
 rw [h1'] at h2
 obtain ⟨_, σ2, h3, h4⟩ := Does.bind h2
 obtain ⟨hnt, h3'⟩ := Does.must h3
 rw [h3'] at h4
 obtain ⟨_, σ3, h5, h6⟩ := Does.bind h4
 obtain ⟨hok, h5'⟩ := Does.must h5
 rw [h5'] at h6
 have hnt : args.length ≤ fn.ntmps := of_decide_eq_true hnt
 generalize hq : ((args.flatMap AV.men).isEmpty && fn.resultTypes.all (isScalarT P)) = quiet at h6
 obtain ⟨args1, σ4, h7, h8⟩ := Does.bind h6
 obtain ⟨_, σ5, h9, h10⟩ := Does.bind h8
 obtain ⟨hpl, h9'⟩ := Does.must h9
 rw [h9'] at h10
 obtain ⟨objs, σ6, h11, h12⟩ := Does.bind h10
 obtain ⟨ans, σ6', h12a, h13⟩ := Does.bind h12
 obtain ⟨ans0, hans, h12b⟩ := Does.askF h12a
 obtain ⟨e12, e12'⟩ := Does.pure h12b
 rw [e12'] at h13
 rw [← e12] at hans
 obtain ⟨_, σ7, h14, h15⟩ := Does.bind h13
 obtain ⟨hao, h14'⟩ := Does.must h14
 rw [h14'] at h15
 obtain ⟨hσ6, hg, hin, _⟩ := gather_ok (C := C) (acc := []) ⟨fun x hx => by simp at hx, by simp, fun x hx => by simp at hx⟩ h11
 rw [hσ6] at h15
 obtain ⟨fn', hf', hb1, hb2, hM⟩ := (okay_m (mapQ_ren (normArgs_plain (P := P) (ts := fn.params.toList) hpl))).1 (hC _ _ hans)
 rw [hf] at hf'
 cases hf'
 refine ⟨fn, hf, hb1, hb2, ?_⟩
 have hlenv := hx.length
 cases quiet with
 | true =>
  simp only [if_true] at h7 h15
  obtain ⟨hσ4, hargs⟩ := views_ok h hx h7 hpl
  obtain ⟨_, σ8, h16, h17⟩ := Does.bind h15
  obtain ⟨hsc, h16'⟩ := Does.must h16
  rw [h16', hσ4] at h17
  simp only [Bool.and_eq_true] at hsc
  have ho : objs = [] := by simpa using hsc.1.1
  have hro : ans.objs = [] := by simpa using hsc.2
  subst ho
  obtain ⟨q1, q2, q3⟩ := normArgs_ok (P := P) (ts := fn.params.toList) hargs hpl
  have hl2 := hargs.length
  have hent := h.enterQ (n := fn.ntmps) q1 q2 (fun x hx i hi => by
   have := hin i (List.mem_flatMap.2 ⟨x, hx, hi⟩)
   simp at this) (by rw [q3]; omega)
  refine Calls.mono (hM _ _ _ _ _ vs w (by simp [q3, hl2]) hent) fun e w' he => ?_
  obtain ⟨v, m', K', who', rfl, g1, g2, g3⟩ := he
  rw [hro] at g1
  have hl := h.leaveQ g1
  obtain ⟨x, hx1, hx2⟩ := g1.tm 0
  simp only [entry, List.getD_cons_zero, List.cons.injEq, and_true] at hx1
  subst hx1
  have hx2' : ARep w' m' K' who' (.t 0) v ans.r := hx2
  exact ⟨v, rfl, hk _ _ _ _ _ (hl.endV hdst (scalar_rep (K' := K) (m' := m) hsc.1.2 hx2') h17) (Kn.le.refl K) (Mp.refl m)⟩
 | false =>
  simp only [Bool.false_eq_true, if_false] at h7 h15
  obtain ⟨K1, who1, s1, s2, s3⟩ := takes_ok h hx hok h7 hpl
  obtain ⟨q1, q2, q3⟩ := normArgs_ok (P := P) (ts := fn.params.toList) s3 hpl
  have hl2 := s3.length
  obtain ⟨_, σ8, h16, h17⟩ := Does.bind h15
  obtain ⟨hln, h16'⟩ := Does.must h16
  rw [h16'] at h17
  have hln := of_decide_eq_true hln
  obtain ⟨_, σ9, h18, h19⟩ := Does.bind h17
  obtain ⟨_, σ10, h20, h21⟩ := Does.bind h19
  obtain ⟨hmore, h20'⟩ := Does.must h20
  rw [h20'] at h21
  obtain ⟨_, σ11, h22, h23⟩ := Does.bind h21
  have hll : (objs.map (·.1)).length = objs.length := by simp
  rw [hll] at hln
  have hcm := backs_ok hg rfl h18 hln.1 (by rw [hll] at h22; exact h22)
  have hobjs : (objs.map fun x => x.2.vs.map (AV.ren (idx (objs.map (·.1))))) = (objs.map (·.2.vs)).map (fun vs => vs.map (AV.ren (idx (objs.map (·.1))))) := by rw [List.map_map]; rfl
  have hmem : ∀ x, x ∈ normArgs P fn.params.toList args1 → ∀ i, i ∈ x.men1 → i ∈ objs.map (·.1) := fun x hx i hi => hin i (List.mem_flatMap.2 ⟨x, hx, hi⟩)
  rw [hobjs] at hM
  rcases Does.putT h23 with ⟨hdn, rfl⟩ | ⟨dt, hdt, rfl⟩
  ·subst hdn
   have hent := s1.enter (n := fn.ntmps) hg.hands q1 q2 hmem (by rw [q3]; omega)
   refine Calls.mono (hM _ _ _ _ _ vs w (by simp [q3, hl2]) hent) fun e w' he => ?_
   obtain ⟨v, m', K', who', rfl, g1, g2, g3⟩ := he
   obtain ⟨r1, r2, r3⟩ := s1.leave hg.hands g1 g2 (by simpa using g3) (by rw [hll]; exact hln.1) (by rw [hll]; exact hln.2) hcm
   exact ⟨v, rfl, hk _ _ _ _ _ r1 (s2.trans g2) r2⟩
  ·subst hdt
   have hdl := hdst dt rfl
   have s1' := s1.repT (t := dt) (y := .dead) (l := true) (k := (σ4 (.t dt)).k) (.inr ⟨rfl, fun c own nl sz es e => by simp [cellAt] at e⟩) trivial ⟨(fun _ _ _ _ => by simp), (fun _ _ _ _ _ => by simp)⟩
   have hent := s1'.enter (n := fn.ntmps) (hg.hands.kill dt _) q1 q2 hmem (by rw [q3]; omega)
   refine Calls.mono (hM _ _ _ _ _ vs w (by simp [q3, hl2]) hent) fun e w' he => ?_
   obtain ⟨v, m', K', who', rfl, g1, g2, g3⟩ := he
   obtain ⟨r1, r2, r3⟩ := s1'.leave (hg.hands.kill dt _) g1 g2 (by simpa using g3) (by rw [hll]; exact hln.1) (by rw [hll]; exact hln.2) (hcm.kill dt _)
   obtain ⟨x, hx1, hx2⟩ := g1.tm 0
   simp only [entry, List.getD_cons_zero, List.cons.injEq, and_true] at hx1
   subst hx1
   have hx2' : ARep w' m' K' who' (.t 0) v ans.r := hx2
   obtain ⟨t1, t2, t3⟩ := ans_rep (D := dt) (who5 := who4 who1 who' (objs.map (·.1)) dt) hao r3 (fun b c hb => by simp [who4, hb]) hx2'
   have hput := r1.put hdl (x := ans.r.ren (back (objs.map (·.1)) dt)) (v := v) (k := (σ11 (.t dt)).k + 1) (by rw [St.put_same, ← hcm.t dt]; exact Nat.lt_succ_self _) t1 (fun p k c n e => absurd e (t2 p k c n)) (fun p k c i j e => absurd e (t3 p k c i j))
   rw [St.put_put] at hput
   exact ⟨v, rfl, hk _ _ _ _ _ hput (s2.trans g2) r2⟩
end
end Go.Proofs.Ytknkeabmjleoiaa.Vam
/- The machine by value and the model: a call that takes its first argument over, or writes on it. -/
namespace Go.Proofs.Ytknkeabmjleoiaa.Vam
open Go
set_option linter.unusedVariables false
set_option linter.unusedSimpArgs false
section
variable {P : Program} {O : Nat → Nat} {C : Query → Answer → Prop} {nt : Nat} {Fr : Nat → Prop} {H0 : Hd} {m : Om} {K : Kn} {who : Who} {σ σ' : St} {a : Act} {w : World}

theorem SRel.enter2 (h : SRel nt Fr H0 m K who σ a w) {ls : List Nat} {os : List (List AV)} (hh : Hands σ ls os) {n : Nat} {v0 : Value} {vs : List Value} {x0 : AV} {xs : List AV} {whoM : Who} (h1 : ∀ b, who b ≠ none → whoM b = who2 who ls b)
  (h2 : ∀ b y, whoM b = some y → who b ≠ none ∨ (b < w.heap.size ∧ ¬ Fr b ∧ ∀ o, K b o = none))
  (hhead : (∃ i k c, x0 = .ref (.o i) k c none ∧ i ∈ ls ∧ RefOk m a w (.o i) c none v0) ∨ (∃ nl s es, x0 = .data (.slc true nl s es) ∧ ORep w K whoM (.t 0) 0 v0 (.slc true nl s es)))
  (hv : All2 (ARep1 m K) vs xs) (hp : xs.all AV.plain1 = true) (hx : ∀ x, x ∈ xs → ∀ i, i ∈ x.men1 → i ∈ ls) (hn : xs.length + 1 ≤ n) :
  SRel n (Fr2 Fr who ls) (H2 w who ls) (m2 m ls) K whoM (entry (renH (idx ls) x0 :: xs.map (AV.ren (idx ls))) (os.map fun vs => vs.map (AV.ren (idx ls)))) (enterAct n (v0 :: vs)) w := by
 have hlen := hv.length
 generalize hE : entry (renH (idx ls) x0 :: xs.map (AV.ren (idx ls))) (os.map fun vs => vs.map (AV.ren (idx ls))) = E
 have hE0 : (E (.t 0)).vs = [renH (idx ls) x0] := by rw [← hE]; rfl
 have hEs : ∀ t, (E (.t (t + 1))).vs = [(xs.map (AV.ren (idx ls))).getD t .dead] := fun t => by rw [← hE]; rfl
 have hlive : ∀ i, (E (.o i)).live = true → ∃ i', 1000 ≤ i ∧ ls[i - 1000]? = some i' ∧ i = idx ls i' ∧ (σ (.o i')).live = true ∧ (E (.o i)).vs = (σ (.o i')).vs.map (AV.ren (idx ls)) := by
  intro i hl
  rw [← hE] at hl ⊢
  simp only [entry] at hl ⊢
  by_cases h1 : i < 1000
  ·rw [if_pos h1] at hl; cases hl
  ·rw [if_neg h1] at hl ⊢
   rw [List.getElem?_map] at hl ⊢
   cases ho : os[i - 1000]? with
   | none => rw [ho] at hl; cases hl
   | some o =>
    have hlt : i - 1000 < ls.length := by rw [← hh.len]; exact (List.getElem?_eq_some_iff.1 ho).1
    obtain ⟨g1, g2⟩ := hh.at' (i - 1000) ls[i - 1000] (List.getElem?_eq_getElem hlt)
    rw [ho] at g2
    cases g2
    refine ⟨ls[i - 1000], by omega, List.getElem?_eq_getElem hlt, ?_, g1, by simp⟩
    rw [idx_of hh.nd (List.getElem?_eq_getElem hlt)]; omega
 have hEk : ∀ i, (E (.o i)).k = 0 := fun i => by
  rw [← hE]
  simp only [entry]
  split
  ·rfl
  ·split <;> rfl
 have hex : ∀ t, ∃ x, (E (.t (t + 1))).vs = [x] ∧ (x = .dead ∨ ∃ y, y ∈ xs ∧ x = y.ren1 (idx ls) ∧ y.plain1 = true ∧ ARep1 m K (vs.getD t undef) y) := by
  intro t
  refine ⟨_, hEs t, ?_⟩
  rw [List.getD_eq_getElem?_getD, List.getElem?_map]
  cases hy : xs[t]? with
  | none => left; rfl
  | some y =>
   right
   have hyp : y.plain1 = true := List.all_eq_true.1 hp y (List.mem_of_getElem? hy)
   obtain ⟨v, hv1, hv2⟩ := hv.get hy
   refine ⟨y, List.mem_of_getElem? hy, by simp [ren_eq1 hyp], hyp, ?_⟩
   rw [List.getD_eq_getElem?_getD, hv1]; exact hv2
 refine ⟨by simp [enterAct]; omega, rfl, fun t => ?_, fun t p k c nn ht => ?_, fun t p k c i j ht => ?_, fun i hl => ?_, fun i b hi => ?_, fun b o v hv => ?_, fun b x hb => ?_, fun b hb => ?_, WSame.refl _⟩
 ·rw [enter_tmp]
  cases t with
  | zero =>
   refine ⟨_, hE0, ?_⟩
   rcases hhead with ⟨i, k, c, rfl, _, _⟩ | ⟨nl, s, es, rfl, hr⟩
   ·trivial
   ·exact ⟨fun e => by simp [DV.owned1] at e, fun _ => hr⟩
  | succ t =>
   obtain ⟨x, g1, g2⟩ := hex t
   refine ⟨x, g1, ?_⟩
   show ARep w (m2 m ls) K whoM (.t (t + 1)) (vs.getD t undef) x
   rcases g2 with rfl | ⟨y, hy, rfl, hp1, hr⟩
   ·trivial
   ·have hr' := hr.ren (m2 := m2 m ls) (ρ := idx ls) (Kn.le.refl K) fun i b hi hb => by rw [m2_idx (hx y hy i hi)]; exact hb
    cases y with
    | data d => exact DRep.of_urep hr'
    | ptr _ _ => exact hr'
    | fn _ _ _ => exact hr'
    | ifc _ _ => exact hr'
    | _ => simp [AV.plain1, AV.plain0] at hp1
 ·cases t with
  | zero =>
   rw [hE0] at ht
   rw [enter_tmp]
   rcases hhead with ⟨i, k', c', rfl, hi, hr⟩ | ⟨nl, s, es, rfl, hr⟩
   ·simp only [renH] at ht
    cases ht
    refine ⟨Nat.zero_le _, fun _ => ?_⟩
    simp only [RefOk, rcell, m2_idx hi] at hr ⊢
    exact hr
   ·cases ht
  | succ t =>
   obtain ⟨x, g1, g2⟩ := hex t
   rw [g1] at ht
   cases ht
   rcases g2 with g | ⟨y, hy, g, hp1, hr⟩
   ·cases g
   ·cases y <;> first | (simp [AV.plain1, AV.plain0] at hp1; done) | cases g
 ·cases t with
  | zero =>
   rw [hE0] at ht
   rcases hhead with ⟨i', k', c', rfl, hi, hr⟩ | ⟨nl, s, es, rfl, hr⟩ <;> cases ht
  | succ t =>
   obtain ⟨x, g1, g2⟩ := hex t
   rw [g1] at ht
   cases ht
   rcases g2 with g | ⟨y, hy, g, hp1, hr⟩
   ·cases g
   ·cases y <;> first | (simp [AV.plain1, AV.plain0] at hp1; done) | cases g
 ·obtain ⟨i', q1, q2, q3, q4, q5⟩ := hlive i hl
  obtain ⟨b, cs, el, g1, g2, g3⟩ := h.ob i' q4
  have hmem := List.mem_of_getElem? q2
  refine ⟨b, cs, el, by rw [q3, m2_idx hmem]; exact g1, g2, ?_⟩
  rw [q5]
  refine BReps.ren (Kn.le.refl K) (fun b' c hb' => ⟨?_, rfl⟩) (fun x hx' j b' hj hb' => ?_) g3
  ·rw [h1 b' (by rw [hb']; simp), who2_obj hb' hmem, ← q3]
  ·rw [m2_idx (hh.cl i' hmem x hx' j hj)]; exact hb'
 ·unfold m2 at hi
  split at hi
  ·rename_i hc
   rw [List.getElem?_eq_getElem hc.2] at hi
   have hg := List.getElem?_eq_getElem hc.2
   obtain ⟨g1, g2⟩ := h.om _ b hi
   have hix := idx_of hh.nd hg
   refine ⟨?_, ?_⟩
   ·rw [← hE]
    simp only [entry]
    rw [if_neg (by omega), List.getElem?_map, (hh.at' _ _ hg).2]; rfl
   ·rw [h1 b (by rw [g2]; simp), who2_obj g2 (List.mem_of_getElem? hg), hix]
    have : 1000 + (i - 1000) = i := by omega
    rw [this]
  ·cases hi
 ·obtain ⟨g1, g2⟩ := h.kv b o v hv
  refine ⟨?_, g2⟩
  cases hw : whoM b with
  | none => rfl
  | some y =>
   rcases h2 b y hw with g | ⟨_, _, g⟩
   ·exact absurd g1 g
   ·rw [g o] at hv; cases hv
 ·rcases h2 b x hb with g | ⟨g, _⟩
  ·cases hw : who b with
   | none => exact absurd hw g
   | some y => exact h.wh b y hw
  ·exact g
 ·refine ⟨(H2_even _ _ _ _).symm, ?_, ?_⟩
  ·rw [H2_even]
   rcases hb with g | g
   ·obtain ⟨g1, g2, _⟩ := h.fr b g
    rw [g1]; exact g2
   ·have : b < w.heap.size := by
     unfold who2 at g
     cases hw : who b with
     | none => rw [hw] at g; cases g
     | some y => exact h.wh b y hw
    simp [this]
  ·rw [H2_hid]
   split
   ·rename_i g
    rw [h1 b (fun e => by simp [who2, e] at g)]
    exact g
   ·rename_i hne
    rcases hb with g | g
    ·obtain ⟨_, _, g3⟩ := h.fr b g
     cases hw : who b with
     | none =>
      cases hM : whoM b with
      | none => rfl
      | some y =>
       rcases h2 b y hM with q | ⟨_, q, _⟩
       ·exact absurd hw q
       ·exact absurd g q
     | some y =>
      rw [hw] at g3
      have := hidW_t g3.symm
      subst this
      exact absurd (by simp [who2, hw]) hne
    ·exact absurd g hne

theorem mapM_k : ∀ {ys zs : List AV} {σ : St}, Does C (ys.mapM (take false)) σ zs σ' → ∀ p, (σ' p).k = (σ p).k
 | [], zs, σ, hd => fun p => by obtain ⟨_, e⟩ := Does.mapM_nil hd; rw [e]
 | y :: ys, zs, σ, hd => fun p => by
  obtain ⟨z, σ1, r, h1, h2, _⟩ := Does.mapM_cons hd
  rw [mapM_k h2 p, take0_k h1 p]
theorem mapQ_head {ρ : Nat → Nat} {x : AV} {l : List AV} (h : okHead x = true) : mapQ (renH ρ x :: l) = false := by
 unfold mapQ
 split
 ·rename_i kd es he
  simp only [List.cons.injEq] at he
  cases x with
  | data d =>
   have : d = .mp kd es := by simpa [renH] using he.1
   subst this; cases h
  | ref p k c n => cases p <;> simp [renH] at he
  | _ => cases h
 ·rfl
theorem callPr2_ok {mode : Nat} {d : Option Tmp} {f : FuncId} {args : List AV} {vs : List Value} {u : Unit} (hC : ∀ q r, C q r → Okay P q r) (h : SRel nt Fr H0 m K who σ a w) (hdst : ∀ t, d = some t → t < nt) (hx : All2 (VRep σ a w m K) vs args) (hd : Does C (callPr2 P mode d f args) σ u σ') {Next : Act → World → Prop}
  (hk : ∀ m' K' who' v w', SRel nt Fr H0 m' K' who' σ' (a.put d v) w' → K.le K' → Mp m m' → Next (a.put d v) w') :
  ∃ fn, P.funcs[f]? = some fn ∧ fn.body.isNone = false ∧ (fn.name == "runtime.NumGoroutine") = false ∧ Calls P f vs.toArray w fun e w' => ∃ v, e = .returned v ∧ Next (a.put d v) w' := by
 cases args with
 | nil => exact (Does.fail hd).elim
 | cons x rest =>
 cases hx with
 | @cons v0 _ vs _ hx0 hxr =>
 simp only [callPr2] at hd
 obtain ⟨dt, σ0, h0, hd⟩ := Does.bind hd
 obtain ⟨hdt, h0'⟩ := Does.of h0
 rw [h0'] at hd
 subst hdt
 obtain ⟨fn, σ1, h1, h2⟩ := Does.bind hd
 obtain ⟨hf, h1'⟩ := Does.of h1
 rw [h1'] at h2
 obtain ⟨_, σ2, h3, h4⟩ := Does.bind h2
 obtain ⟨hnt, h3'⟩ := Does.must h3
 rw [h3'] at h4
 obtain ⟨_, σ3, h5, h6⟩ := Does.bind h4
 obtain ⟨hok, h5'⟩ := Does.must h5
 rw [h5'] at h6
 have hnt : rest.length + 1 ≤ fn.ntmps := of_decide_eq_true hnt
 obtain ⟨rest1, σ4, h7, h8⟩ := Does.bind h6
 obtain ⟨_, σ5, h9, h10⟩ := Does.bind h8
 obtain ⟨hpl, h9'⟩ := Does.must h9
 rw [h9'] at h10
 obtain ⟨K1, who1, s1, s2, s3⟩ := takes_ok h hxr hok h7 hpl
 obtain ⟨q1, q2, q3⟩ := normArgs_ok (P := P) (ts := fn.params.toList.drop 1) s3 hpl
 obtain ⟨x1, σ6, h11, h12⟩ := Does.bind h10
 -- the head
 have hk4 : ∀ p, (σ4 p).k = (σ p).k := mapM_k h7
 have hhd : ∃ who5, SRel nt Fr H0 m K1 who5 σ6 a w ∧ ((∃ i k c, x1 = .ref (.o i) k c none ∧ RefOk m a w (.o i) c none v0) ∨ (FRep w m K1 who5 σ6 a (.t dt) 0 v0 x1 ∧ x1.isRef = false)) := by
  by_cases href : ∃ p k c n, x = .ref p k c n
  ·obtain ⟨p, k, c, n, rfl⟩ := href
   simp only [headPr] at h11
   have hx0' : VRep σ4 a w m K1 v0 (.ref p k c n) := hx0.step s2 rfl hk4
   cases hm3 : Nat.beq mode 3 with
   | true =>
    rw [hm3] at h11
    simp only [cond_true] at h11
    cases p with
    | t tt => exact (Does.fail h11).elim
    | o i =>
    cases n with
    | some n => exact (Does.fail h11).elim
    | none =>
    obtain ⟨z, σ7, h13, h14⟩ := Does.bind h11
    obtain ⟨rfl, h13'⟩ := Does.gt h13
    rw [h13'] at h14
    obtain ⟨_, σ8, h15, h16⟩ := Does.bind h14
    obtain ⟨hkk, h15'⟩ := Does.must h15
    rw [h15'] at h16
    obtain ⟨_, σ9, h17, h18⟩ := Does.bind h16
    obtain ⟨_, h17'⟩ := Does.must h17
    rw [h17'] at h18
    obtain ⟨rfl, h18'⟩ := Does.pure h18
    rw [h18']
    exact ⟨who1, s1, .inl ⟨i, k, c, rfl, hx0'.2 (Nat.eq_of_beq_eq_true hkk).symm⟩⟩
   | false =>
    rw [hm3] at h11
    simp only [cond_false] at h11
    obtain ⟨who5, g1, g3, g4, g5⟩ := s1.take1 hx0' h11 (.t dt) 0
    exact ⟨who5, g1, .inr ⟨g4, g5⟩⟩
  ·cases x with
   | data d =>
    obtain ⟨rfl, e6⟩ := Does.pure h11
    rw [e6]
    refine ⟨who1, s1, .inr ⟨FRep.ownN (FRep.of_urep (hx0.2.mono s2)), ?_⟩⟩
    unfold ownN
    split <;> rfl
   | ref p k c n => exact absurd ⟨_, _, _, _, rfl⟩ href
   | _ => exact (Does.fail h11).elim
 obtain ⟨who5, t1, thead⟩ := hhd
 generalize hx2 : headN P fn.params.toList x1 = x2 at h12
 have hx2c : ((∃ i k c, x2 = .ref (.o i) k c none ∧ RefOk m a w (.o i) c none v0) ∨ (FRep w m K1 who5 σ6 a (.t dt) 0 v0 x2 ∧ x2.isRef = false)) := by
  have key : ∀ t, ((∃ i k c, normS P t x1 = .ref (.o i) k c none ∧ RefOk m a w (.o i) c none v0) ∨ (FRep w m K1 who5 σ6 a (.t dt) 0 v0 (normS P t x1) ∧ (normS P t x1).isRef = false)) := fun t => by
   rcases thead with ⟨i, k, c, rfl, hr⟩ | ⟨g, g'⟩
   ·exact .inl ⟨i, k, c, rfl, hr⟩
   ·refine .inr ⟨g.normS t, ?_⟩
    rcases normS_data (P := P) t x1 with ⟨own, nl, sz, es, rfl, sz', h1, h2⟩ | h1
    ·rw [h1]; rfl
    ·rw [h1]; exact g'
  rw [← hx2]
  cases fn.params.toList with
  | nil =>
   rcases thead with ⟨i, k, c, rfl, hr⟩ | g
   ·exact .inl ⟨i, k, c, rfl, hr⟩
   ·exact .inr g
  | cons t ts => exact key t
 clear thead hx2
 obtain ⟨_, σ7, h13, h14⟩ := Does.bind h12
 obtain ⟨hoh, h13'⟩ := Does.must h13
 rw [h13'] at h14
 obtain ⟨objs, σ8, h15, h16⟩ := Does.bind h14
 obtain ⟨hσ8, hg, hin, _⟩ := gather_ok (C := C) (acc := []) ⟨fun x hx => by simp at hx, by simp, fun x hx => by simp at hx⟩ h15
 rw [hσ8] at h16
 obtain ⟨ans, σ9, h17, h18⟩ := Does.bind h16
 obtain ⟨ans0, hans, h17b⟩ := Does.askF h17
 obtain ⟨e17, e17'⟩ := Does.pure h17b
 rw [e17'] at h18
 rw [← e17] at hans
 obtain ⟨_, σ10, h19, h20⟩ := Does.bind h18
 obtain ⟨hao, h19'⟩ := Does.must h19
 rw [h19'] at h20
 obtain ⟨fn', hf', hb1, hb2, hM⟩ := (okay_m (mapQ_head hoh)).1 (hC _ _ hans)
 rw [hf] at hf'
 cases hf'
 refine ⟨fn, hf, hb1, hb2, ?_⟩
 have hl2 := s3.length
 obtain ⟨_, σ11, h21, h22⟩ := Does.bind h20
 obtain ⟨hln, h21'⟩ := Does.must h21
 rw [h21'] at h22
 have hln := of_decide_eq_true hln
 obtain ⟨_, σ12, h23, h24⟩ := Does.bind h22
 obtain ⟨_, σ13, h25, h26⟩ := Does.bind h24
 have hll : (objs.map (·.1)).length = objs.length := by simp
 rw [hll] at hln
 have hcm := backs_ok hg rfl h23 hln.1 (by rw [hll] at h25; exact h25)
 have hobjs : (objs.map fun x => x.2.vs.map (AV.ren (idx (objs.map (·.1))))) = (objs.map (·.2.vs)).map (fun vs => vs.map (AV.ren (idx (objs.map (·.1))))) := by rw [List.map_map]; rfl
 rw [hobjs] at hM
 have hmem : ∀ x, x ∈ normArgs P (fn.params.toList.drop 1) rest1 → ∀ i, i ∈ x.men1 → i ∈ objs.map (·.1) := fun x hx i hi => hin i (List.mem_append_right _ (List.mem_flatMap.2 ⟨x, hx, hi⟩))
 rcases Does.putT h26 with ⟨hdn, _⟩ | ⟨dt', hdt', hσ'⟩
 ·cases hdn
 cases hdt'
 have hdl := hdst dt rfl
 have s1' := t1.repT (t := dt) (y := .dead) (l := true) (k := (σ6 (.t dt)).k) (.inr ⟨rfl, fun c own nl sz es e => by simp [cellAt] at e⟩) trivial ⟨(fun _ _ _ _ => by simp), (fun _ _ _ _ _ => by simp)⟩
 -- what is handed over is nobody's now
 have hmv : ∃ who6 whoM, SRel nt Fr H0 m K1 who6 (σ6.put (.t dt) ⟨[.dead], true, (σ6 (.t dt)).k⟩) a w ∧ (∀ b, who6 b ≠ none → whoM b = who2 who6 (objs.map (·.1)) b) ∧ (∀ b y, whoM b = some y → who6 b ≠ none ∨ (b < w.heap.size ∧ ¬ Fr b ∧ ∀ o, K1 b o = none)) ∧
   ((∃ i k c, x2 = .ref (.o i) k c none ∧ i ∈ objs.map (·.1) ∧ RefOk m a w (.o i) c none v0) ∨ (∃ nl s es, x2 = .data (.slc true nl s es) ∧ ORep w K1 whoM (.t 0) 0 v0 (.slc true nl s es))) := by
  have plainM : (∀ b, who5 b ≠ none → who2 who5 (objs.map (·.1)) b = who2 who5 (objs.map (·.1)) b) ∧ (∀ b y, who2 who5 (objs.map (·.1)) b = some y → who5 b ≠ none ∨ (b < w.heap.size ∧ ¬ Fr b ∧ ∀ o, K1 b o = none)) :=
   ⟨fun _ _ => rfl, fun b y hb => .inl fun e => by simp [who2, e] at hb⟩
  rcases hx2c with ⟨i, k, c, rfl, hr⟩ | ⟨hF, hnr⟩
  ·exact ⟨who5, _, s1', plainM.1, plainM.2, .inl ⟨i, k, c, rfl, hin i (List.mem_append_left _ (by simp [headMen])), hr⟩⟩
  ·cases x2 with
   | data d =>
    cases d with
    | slc own nl s es =>
     cases own with
     | false => simp [okHead] at hoh
     | true =>
      obtain ⟨us, f1, f2, f3⟩ := hF
      simp only [DV.form, Bool.false_eq_true, if_false] at f2
      subst f2
      cases f1 with
      | cons g _ =>
       have hO := g.2 rfl
       cases hO with
       | nil hn => exact ⟨who5, _, s1', plainM.1, plainM.2, .inr ⟨nl, s, [], rfl, .nil hn⟩⟩
       | empty hn => exact ⟨who5, _, s1', plainM.1, plainM.2, .inr ⟨nl, s, [], rfl, .empty hn⟩⟩
       | @slc _ _ _ b off cap o1 o2 o3 o4 o5 o6 =>
        have hlo := s1'.but o5
        have hloose : Loose Fr m K1 who5 (σ6.put (.t dt) ⟨[.dead], true, (σ6 (.t dt)).k⟩) b := ⟨hlo.fr, hlo.m, hlo.K, fun p c hp => by
         by_cases e : p = .t dt
         ·subst e; rw [St.put_same]; rfl
         ·exact hlo.use p c e hp⟩
        have hlt := s1'.wh b _ o5
        have g6 := s1'.turn (w' := w) (K' := K1) (who' := fun b' => if b' = b then none else who5 b') (fun b' => b' = b) (fun b' hb' => by rw [hb']; exact hloose) (Kn.le.refl K1) (fun b' o u hu => by
          obtain ⟨k1, k2⟩ := s1'.kv b' o u hu
          refine ⟨?_, k2⟩
          split
          ·rfl
          ·exact k1) (fun _ _ _ => rfl) (fun b' hb' => if_neg hb') (fun b' x hx => by
          split at hx
          ·cases hx
          ·exact s1'.wh b' x hx) (WSame.refl w)
        refine ⟨_, fun b' => if b' = b then some (.t 0, some 0) else who2 (fun b' => if b' = b then none else who5 b') (objs.map (·.1)) b', g6, fun b' hb' => ?_, fun b' y hb' => ?_, .inr ⟨nl, s, es, rfl, ?_⟩⟩
        ·by_cases e : b' = b
         ·subst e; simp at hb'
         ·simp only [if_neg e]
        ·by_cases e : b' = b
         ·subst e; exact .inr ⟨hlt, hlo.fr, hlo.K⟩
         ·simp only [if_neg e] at hb' ⊢
          exact .inl fun e' => by simp [who2, if_neg e, e'] at hb'
        ·exact .slc o1 o2 o3 o4 (by simp) o6
    | _ => simp [okHead] at hoh
   | ref p k c n => cases hnr
   | _ => cases hoh
 obtain ⟨who6, whoM, u1, u2, u3, u4⟩ := hmv
 have hl3 := hxr.length
 have hent := u1.enter2 (n := fn.ntmps) (v0 := v0) (hg.hands.kill dt _) u2 u3 u4 q1 q2 hmem (by rw [q3]; omega)
 refine Calls.mono (hM _ _ _ _ _ (v0 :: vs) w (by show vs.length + 1 = (List.map _ _).length + 1; rw [List.length_map, q3, hl2]) hent) fun e w' he => ?_
 obtain ⟨v, m', K', who', rfl, g1, g2, g3⟩ := he
 obtain ⟨r1, r2, r3⟩ := u1.leave (hg.hands.kill dt _) g1 g2 (by simpa using g3) (by rw [hll]; exact hln.1) (by rw [hll]; exact hln.2) (hcm.kill dt _)
 obtain ⟨x, hx1, hx2⟩ := g1.tm 0
 simp only [entry, List.getD_cons_zero, List.cons.injEq, and_true] at hx1
 subst hx1
 have hx2' : ARep w' m' K' who' (.t 0) v ans.r := hx2
 obtain ⟨t1, t2, t3⟩ := ans_rep (D := dt) (who5 := who4 who6 who' (objs.map (·.1)) dt) hao r3 (fun b c hb => by simp [who4, hb]) hx2'
 have hput := r1.put hdl (x := ans.r.ren (back (objs.map (·.1)) dt)) (v := v) (k := (σ13 (.t dt)).k + 1) (by rw [St.put_same, ← hcm.t dt]; exact Nat.lt_succ_self _) t1 (fun p k c n e => absurd e (t2 p k c n)) (fun p k c i j e => absurd e (t3 p k c i j))
 rw [St.put_put] at hput
 rw [hσ'] at hk
 exact ⟨v, rfl, hk _ _ _ _ _ hput (s2.trans g2) r2⟩
theorem SRel.beyond (h : SRel nt Fr H0 m K who σ a w) {w' : World} (hs : ∀ b, b < w.heap.size → w'.heap[b]? = w.heap[b]?) (hws : WSame w w') : SRel nt Fr H0 m K who σ a w' := by
 refine h.turn (fun b => w.heap.size ≤ b) (fun b hb => h.loose_new hb) (Kn.le.refl K) (fun b o u hu => ?_) (fun b _ hb => hs b hb) (fun _ _ => rfl) (fun b x hx => ?_) hws
 ·obtain ⟨k1, cs, el, fr, k2, k3⟩ := h.kv b o u hu
  have hlt : b < w.heap.size := by
   rcases Nat.lt_or_ge b w.heap.size with g | g
   ·exact g
   ·rw [Array.getElem?_eq_none g] at k2; cases k2
  exact ⟨k1, cs, el, fr, (hs b hlt).trans k2, k3⟩
 ·have hb := h.wh b x hx
  have := hs b hb
  rw [Array.getElem?_eq_getElem hb] at this
  exact (Array.getElem?_eq_some_iff.1 this).1
theorem mapCallPr_ok {d : Option Tmp} {f : FuncId} {args : List AV} {vs : List Value} {u : Unit} (hC : ∀ q r, C q r → Okay P q r) (h : SRel nt Fr H0 m K who σ a w) (hdst : ∀ t, d = some t → t < nt) (hx : All2 (VRep σ a w m K) vs args) (hd : Does C (mapCallPr d f args) σ u σ') {Next : Act → World → Prop}
  (hk : ∀ m' K' who' v w', SRel nt Fr H0 m' K' who' σ' (a.put d v) w' → K.le K' → Mp m m' → Next (a.put d v) w') :
  ∃ fn, P.funcs[f]? = some fn ∧ fn.body.isNone = false ∧ (fn.name == "runtime.NumGoroutine") = false ∧ Calls P f vs.toArray w fun e w' => ∃ v, e = .returned v ∧ Next (a.put d v) w' := by
 unfold mapCallPr at hd
 split at hd
 ·rename_i x
  cases hx with
  | @cons v0 _ vs _ hx0 hxr =>
  cases hxr
  obtain ⟨e, σ1, h1, h2⟩ := Does.bind hd
  obtain ⟨e1, p, c, b, clk, me, rfl, q1, q2, q3, q4, q5, q6, q7, q8⟩ := mapAny_does h hx0 h1
  rw [e1] at h2
  obtain ⟨ans, σ2, h3, h4⟩ := Does.bind h2
  obtain ⟨ans0, hans, h5⟩ := Does.askF h3
  obtain ⟨e2, e3⟩ := Does.pure h5
  rw [e3] at h4
  rw [← e2] at hans
  obtain ⟨_, σ3, h6, h7⟩ := Does.bind h4
  obtain ⟨hsc, h6'⟩ := Does.must h6
  rw [h6'] at h7
  obtain ⟨kd, es, v, fn, r1, r2, rs, r3, r4, r5, r6⟩ : MeetsZ P _ ans := hC _ _ hans
  refine ⟨fn, r3, r4, r5, ?_⟩
  simp only [List.cons.injEq, AV.data.injEq, DV.mp.injEq, and_true] at r1
  rw [q3]
  refine Calls.mono (r6 w b clk me q5 (q6.trans r1.2) q8) fun e w' he => ?_
  obtain ⟨rfl, g1, g2⟩ := he
  rw [r2] at h7
  exact ⟨v, rfl, hk _ _ _ _ _ ((h.beyond g2 g1).endV hdst (x := .data (.val v)) ⟨rfl, .val rs⟩ h7) (Kn.le.refl K) (Mp.refl m)⟩
 ·exact (Does.fail hd).elim
theorem callPrM_ok {mode : Nat} {d : Option Tmp} {f : FuncId} {args : List AV} {vs : List Value} {u : Unit} (hC : ∀ q r, C q r → Okay P q r) (h : SRel nt Fr H0 m K who σ a w) (hdst : ∀ t, d = some t → t < nt) (hx : All2 (VRep σ a w m K) vs args) (hd : Does C (callPrM P mode d f args) σ u σ') {Next : Act → World → Prop}
  (hk : ∀ m' K' who' v w', SRel nt Fr H0 m' K' who' σ' (a.put d v) w' → K.le K' → Mp m m' → Next (a.put d v) w') :
  ∃ fn, P.funcs[f]? = some fn ∧ fn.body.isNone = false ∧ (fn.name == "runtime.NumGoroutine") = false ∧ Calls P f vs.toArray w fun e w' => ∃ v, e = .returned v ∧ Next (a.put d v) w' := by
 unfold callPrM at hd
 cases h9 : Nat.beq mode 9 with
 | true => rw [h9] at hd; exact mapCallPr_ok hC h hdst hx hd hk
 | false =>
 rw [h9] at hd
 simp only [cond_false] at hd
 cases hb : (Nat.beq mode 3 || Nat.beq mode 4) with
 | true => rw [hb] at hd; exact callPr2_ok hC h hdst hx hd hk
 | false => rw [hb] at hd; exact callPr_ok hC h hdst hx hd hk
end
end Go.Proofs.Ytknkeabmjleoiaa.Vam
/- The machine by value and the model: calls, functions as values. -/
namespace Go.Proofs.Ytknkeabmjleoiaa.Vam
open Go
set_option linter.unusedVariables false
set_option linter.unusedSimpArgs false
section
variable {P : Program} {O : Nat → Nat} {C : Query → Answer → Prop} {nt : Nat} {Fr : Nat → Prop} {H0 : Hd} {m : Om} {K : Kn} {who : Who} {σ σ' : St} {a : Act} {w : World}

theorem VRep.of0 {m : Om} {K : Kn} {v : Value} {x : AV} (h : ARep0 m K v x) : VRep σ a w m K v x := by
 cases x with
 | data d => exact ⟨urep_owned h, h⟩
 | ptr i o => exact h
 | _ => exact h.elim
theorem All2.map_left {α β γ : Type} {R : α → β → Prop} {f : γ → α} : ∀ {as : List γ} {bs : List β}, All2 (fun x y => R (f x) y) as bs → All2 R (as.map f) bs
 | _, _, .nil => .nil
 | _, _, .cons h t => .cons h t.map_left
theorem callFunc_run {g : FuncId} {fn : Func} (hf : P.funcs[g]? = some fn) (hb : fn.body.isNone = false) (hn : (fn.name == "runtime.NumGoroutine") = false) (args : Array Value) (w : World) : (callFunc g args).run P w = .ok (.enter g args) w := by
 unfold callFunc
 rw [run_bind (x := P) (w' := w) rfl]
 simp only [hf, hn, hb, Bool.false_eq_true, if_false]
 rfl
theorem typeInfo_run {t : TypeId} {i : TypeInfo} (hi : P.info? t = some i) (w : World) : (typeInfo t).run P w = .ok i w := by simp [typeInfo, hi]
theorem method_run {t : TypeId} {name : String} {g : FuncId} {ld : Option TypeId} (hm : methodT P t name = some (g, ld)) (n : Nat) (v : Value) (w : World) :
  (ld = none → (method (n + 1) t v name).run P w = .ok (g, v) w) ∧ ∀ e b off x, ld = some e → v = .pointer (some ⟨b, off, none⟩) → (Instr.loadAt e v).run P w = .ok x w → (method (n + 1) t v name).run P w = .ok (g, x) w := by
 unfold methodT at hm
 rw [Option.bind_eq_some_iff] at hm
 obtain ⟨i, hi, hm⟩ := hm
 rw [Option.bind_eq_some_iff] at hm
 obtain ⟨md, hmd, hm⟩ := hm
 cases hp : md.path.isEmpty with
 | false => rw [hp] at hm; cases hm
 | true =>
  rw [hp] at hm
  simp only [cond_true] at hm
  rw [Option.bind_eq_some_iff] at hm
  obtain ⟨⟨f, pr⟩, hf, hm⟩ := hm
  have hpl : md.path.toList = [] := by
   have : md.path = #[] := by simpa using hp
   rw [this]
  have hstart : ∀ (k : FuncId × Value → Sem (FuncId × Value)), (method (n + 1) t v name).run P w = (do
    let y ← receiverAt t (.val v) pr (if md.path.isEmpty then some ((name.splitOn ".").getLastD name) else none)
    pure (f, y) : Sem (FuncId × Value)).run P w := fun _ => by
   unfold method
   rw [run_bind (typeInfo_run hi w)]
   simp only [hmd]
   rw [hpl]
   rw [run_bind (x := (t, Place.val v)) (w' := w) rfl]
   simp only [hf]
  rw [hstart pure]
  cases hu : P.underlying t with
  | none => rw [hu] at hm; cases hm
  | some D =>
   rw [hu] at hm
   have hrun := run_underlying (P := P) hu w
   constructor
   ·intro hl
    subst hl
    have hrec : (receiverAt t (.val v) pr (if md.path.isEmpty then some ((name.splitOn ".").getLastD name) else none)).run P w = .ok v w ∧ f = g := by
     unfold receiverAt
     rw [run_bind hrun]
     cases pr with
     | true => cases D <;> first | (cases hm; exact ⟨rfl, rfl⟩) | cases hm
     | false => cases D <;> first | (cases hm; exact ⟨rfl, rfl⟩) | cases hm
    rw [run_bind hrec.1, hrec.2]
    rfl
   ·intro e b off x hl hv hx
    subst hl
    subst hv
    have hD : D = .pointer e ∧ pr = false ∧ f = g := by
     cases pr with
     | true => cases D <;> cases hm
     | false => cases D <;> first | (cases hm; exact ⟨rfl, rfl, rfl⟩) | cases hm
    obtain ⟨rfl, rfl, rfl⟩ := hD
    have hrec : (receiverAt t (.val (.pointer (some ⟨b, off, none⟩))) false (if md.path.isEmpty then some ((name.splitOn ".").getLastD name) else none)).run P w = .ok x w := by
     unfold receiverAt
     rw [run_bind hrun]
     simp only [hp, if_true]
     rw [run_bind (x := Value.pointer (some ⟨b, off, none⟩)) (w' := w) rfl]
     rw [run_bind (x := Value.pointer (some ⟨b, off, none⟩)) (w' := w) rfl]
     exact hx
    rw [run_bind hrec]
    rfl
theorem op_call {o : Oper} {c : Call} (hC : ∀ q r, C q r → Okay P q r) (ho : o.op = .call c) : OpOk P O C nt Fr H0 o := by
 intro m K who σ σ' a w u Q Kk h hdst hd hk
 simp only [opPr, ho] at hd
 obtain ⟨args, σ1, h1, h2⟩ := Does.bind hd
 obtain ⟨e1, hargs⟩ := h.opds h1
 rw [e1] at h2
 have hmap : (c.args.map a.eval).toList = c.args.toList.map a.eval := by simp
 cases hcal : c.callee with
 | builtin b =>
  rw [hcal] at h2
  have hx : All2 (VRep σ a w m K) (c.args.map a.eval).toList args := by rw [hmap]; exact hargs.map_left
  obtain ⟨v, w', K', who', g1, g2, g3⟩ := builtinPr_ok (ats := c.argTypes) (ty := o.type) (cs := c.args.map fun | .const _ => true | _ => false) h hdst rfl hx h2
  refine wp_val (v := v) (w' := w') ?_ (hk _ _ _ _ _ g2 g3 (Mp.refl m))
  simp only [execOp, ho, resolve, hcal]
  rw [run_bind (w' := w) rfl]
  exact g1
 | value f =>
  rw [hcal] at h2
  obtain ⟨y, σ2, h3, h4⟩ := Does.bind h2
  obtain ⟨e2, hy⟩ := h.opd h3
  rw [e2] at h4
  cases y with
  | fn F b c' =>
   cases F with
   | func g =>
    obtain ⟨fv, cv, ef, q1, q2⟩ := hy
    have hx : All2 (VRep σ a w m K) (fv ++ (c.args.map a.eval).toList ++ cv) (b ++ args ++ c') := by
     rw [hmap]
     exact ((q1.mono fun _ _ h => VRep.of0 h).append hargs.map_left).append (q2.mono fun _ _ h => VRep.of0 h)
    obtain ⟨fn, hf, hb, hn, hcalls⟩ := callPrM_ok (Next := Kk) hC h hdst hx h4 (fun m' K' who' v w' => hk m' K' who' _ w')
    have hrun : (execOp a.eval o).run P w = .ok (.enter g (fv ++ (c.args.map a.eval).toList ++ cv).toArray) w := by
     simp only [execOp, ho, resolve, hcal]
     have h1 : (Deferred.ofValue (a.eval f) (c.args.map a.eval)).run P w = .ok { target := .fn (.func g) cv.toArray, args := fv.toArray ++ c.args.map a.eval } w := by rw [ef]; rfl
     rw [run_bind h1]
     simp only [invoke]
     rw [callFunc_run hf hb hn]
     congr 2
     apply Array.ext'
     simp
    unfold Oper.wp
    rw [hrun, Oper.upon_enter]
    refine Calls.mono hcalls fun e w' he => ?_
    obtain ⟨v, rfl, hnx⟩ := he
    exact hnx
   | _ => exact (Does.fail h4).elim
  | _ => exact (Does.fail h4).elim
 | invoke r name =>
  rw [hcal] at h2
  obtain ⟨y, σ2, h3, h4⟩ := Does.bind h2
  obtain ⟨e2, hy⟩ := h.opd h3
  rw [e2] at h4
  cases y with
  | ifc t x =>
   obtain ⟨⟨g, ld⟩, σ3, h5, h6⟩ := Does.bind h4
   obtain ⟨hmt, h5'⟩ := Does.of h5
   rw [h5'] at h6
   obtain ⟨u0, hu, hr0⟩ := hy
   obtain ⟨z, σ4, h7, h8⟩ := Does.bind h6
   have hpos : ∃ n, P.types.size + Made.depth = n + 1 := by
    have h0 : 0 < Made.depth := by decide
    exact ⟨P.types.size + Made.depth - 1, by omega⟩
   obtain ⟨n, hn⟩ := hpos
   obtain ⟨m1, m2⟩ := method_run hmt n u0 w
   have hz : σ4 = σ ∧ ∃ v, (method (P.types.size + Made.depth) t u0 name).run P w = .ok (g, v) w ∧ VRep σ a w m K v z := by
    rw [hn]
    cases ld with
    | none =>
     obtain ⟨rfl, e⟩ := Does.pure h7
     exact ⟨e, u0, m1 rfl, VRep.of0 hr0⟩
    | some e =>
     obtain ⟨e3, v, hl, hv⟩ := loadPr_ok (xv := u0) h (VRep.of0 hr0) h7
     cases x with
     | ptr i off =>
      obtain ⟨b, hb, rfl⟩ := hr0
      exact ⟨e3, v, m2 e b off v rfl rfl hl, hv⟩
     | data d => exact (Does.fail h7).elim
     | _ => exact hr0.elim
   obtain ⟨e4, v, hmr, hvz⟩ := hz
   rw [e4] at h8
   have hx : All2 (VRep σ a w m K) (v :: (c.args.map a.eval).toList) (z :: args) := by
    rw [hmap]
    exact .cons hvz hargs.map_left
   obtain ⟨fn, hf, hb, hn', hcalls⟩ := callPrM_ok (Next := Kk) hC h hdst hx h8 (fun m' K' who' v w' => hk m' K' who' _ w')
   have hrun : (execOp a.eval o).run P w = .ok (.enter g (v :: (c.args.map a.eval).toList).toArray) w := by
    simp only [execOp, ho, resolve, hcal]
    rw [run_bind (x := ({ target := .fn (.method name) #[], args := #[a.eval r] ++ c.args.map a.eval } : Deferred)) (w' := w) rfl]
    show (invoke (.fn (.method name) #[]) (#[a.eval r] ++ c.args.map a.eval)).run P w = _
    unfold invoke
    have h0 : (#[a.eval r] ++ c.args.map a.eval)[0]? = some (a.eval r) := by rw [Array.getElem?_append_left (by simp)]; rfl
    rw [h0]
    simp only
    have h1 : (#[a.eval r] ++ c.args.map a.eval).extract 1 (#[a.eval r] ++ c.args.map a.eval).size = c.args.map a.eval := by
     apply Array.ext'
     simp only [Array.toList_extract, Array.toList_append, Array.size_append]
     simp only [List.extract, Array.toList_map, List.drop_append, List.length_cons, List.length_nil]
     simp
     exact List.take_of_length_le (by simp)
    rw [h1]
    unfold callMethod
    rw [hu]
    simp only
    rw [run_bind (x := P) (w' := w) rfl, run_bind hmr]
    simp only
    rw [callFunc_run hf hb hn']
    congr 2
    apply Array.ext'
    simp
   unfold Oper.wp
   rw [hrun, Oper.upon_enter]
   refine Calls.mono hcalls fun e w' he => ?_
   obtain ⟨v, rfl, hnx⟩ := he
   exact hnx
  | _ => exact (Does.fail h4).elim
end
end Go.Proofs.Ytknkeabmjleoiaa.Vam
/- The machine by value and the model: what is built. -/
namespace Go.Proofs.Ytknkeabmjleoiaa.Vam
open Go
set_option linter.unusedVariables false
set_option linter.unusedSimpArgs false
section
variable {P : Program} {O : Nat → Nat} {C : Query → Answer → Prop} {nt : Nat} {Fr : Nat → Prop} {H0 : Hd} {m : Om} {K : Kn} {who : Who} {σ σ' : St} {a : Act} {w : World}

theorem op_makeFunc {o : Oper} {f : FuncId} {first captured : Array Operand} (ho : o.op = .makeFunc (.func f) first captured) : OpOk P O C nt Fr H0 o := by
 intro m K who σ σ' a w u Q Kk h hdst hd hk
 simp only [opPr, ho] at hd
 obtain ⟨xs, σ1, h1, h2⟩ := Does.bind hd
 obtain ⟨e1, hxs⟩ := h.opds h1
 rw [e1] at h2
 obtain ⟨ys, σ2, h3, h4⟩ := Does.bind h2
 obtain ⟨e2, hys⟩ := h.opds h3
 rw [e2] at h4
 obtain ⟨_, σ3, h5, h6⟩ := Does.bind h4
 obtain ⟨hp, h5'⟩ := Does.must h5
 rw [h5'] at h6
 rw [List.all_append, Bool.and_eq_true] at hp
 have conv : ∀ {l : List Operand} {zs : List AV}, All2 (fun x y => VRep σ a w m K (a.eval x) y) l zs → zs.all AV.plain0 = true → All2 (ARep0 m K) (l.map a.eval) zs := by
  intro l zs h hp
  induction h with
  | nil => exact .nil
  | cons h _ ih =>
   simp only [List.all_cons, Bool.and_eq_true] at hp
   refine .cons ?_ (ih hp.2)
   rename_i y _ _ _
   cases y with
   | data d => exact h.2
   | ptr i o => exact h
   | _ => simp [AV.plain0] at hp
 refine wp_val (v := .func (.func f) (first.toList.map a.eval).toArray (captured.toList.map a.eval).toArray) (w' := w) ?_ (hk _ _ _ _ _ (h.endV hdst (x := .fn (.func f) xs ys) ⟨_, _, rfl, conv hxs hp.1, conv hys hp.2⟩ h6) (Kn.le.refl K) (Mp.refl m))
 simp only [execOp, ho, Instr.makeFunc]
 rw [run_bind (x := Value.func (.func f) (first.toList.map a.eval).toArray (captured.toList.map a.eval).toArray) (w' := w)]
 ·rfl
 ·have e1 : (first.toList.map a.eval).toArray = first.map a.eval := by apply Array.ext'; simp
  have e2 : (captured.toList.map a.eval).toArray = captured.map a.eval := by apply Array.ext'; simp
  rw [e1, e2]; rfl

theorem foldl_set (off : Nat) : ∀ (l : List Value) (k : Nat) (arr : Array Value), off + k + l.length ≤ arr.size → ((l.zipIdx k).foldl (fun cs x => cs.setIfInBounds (off + x.2) x.1) arr).toList = setRange arr.toList (off + k) l
 | [], k, arr, _ => by simp [setRange]
 | v :: l, k, arr, h => by
  have h' : off + k + (l.length + 1) ≤ arr.size := by simpa using h
  simp only [List.zipIdx_cons, List.foldl_cons]
  rw [foldl_set off l (k + 1) _ (by simp; omega), Array.toList_setIfInBounds]
  unfold setRange
  have e1 : (arr.toList.set (off + k) v).take (off + (k + 1)) = arr.toList.take (off + k) ++ [v] := by
   rw [← Nat.add_assoc, List.take_add_one, List.getElem?_set_self (by simpa using (by omega : off + k < arr.size))]
   simp [List.take_set_of_le]
  have e2 : (arr.toList.set (off + k) v).drop (off + (k + 1) + l.length) = arr.toList.drop (off + k + (v :: l).length) := by
   rw [List.drop_set_of_lt (by omega)]
   congr 1
   simp; omega
  rw [e1, e2]; simp
theorem fill_step {place : Nat → Option (Nat × Nat)} {i off n : Nat} {v : Value} {us : List Value} {r : List (Nat × Value)} (hp : place i = some (off, n)) (hn : v.cells.toList.length = n) (hl : off + n ≤ us.length) :
  Instr.fill place us.toArray ((i, v) :: r) = Instr.fill place (setRange us off v.cells.toList).toArray r := by
 have hn' : v.cells.size = n := by simpa using hn
 conv => lhs; unfold Instr.fill
 simp only [hp]
 rw [if_neg (by
  simp only [hn', ne_eq, not_true, decide_false, Bool.false_or, decide_eq_true_eq]
  simp; omega)]
 congr 1
 apply Array.ext'
 rw [← Array.foldl_toList, Array.toList_zipIdx]
 have := foldl_set off v.cells.toList 0 us.toArray (by simp at hn ⊢; omega)
 simpa using this

theorem fill_ok {place : Nat → Option (Nat × Nat × TypeId)} {place' : Nat → Option (Nat × Nat)} (hpl : ∀ i x, place i = some x → place' i = some (x.1, x.2.1)) {keep : Bool} {D : Nat} : ∀ {ps : List (Nat × Operand)} {cs cs' : List DV} {σ : St} {K : Kn} {who : Who} {us : List Value},
  SRel nt Fr H0 m K who σ a w → COs w K who (.t D) 0 us cs → Does C (fillC P place keep D cs ps) σ cs' σ' →
  ∃ K' who' us', SRel nt Fr H0 m K' who' σ' a w ∧ K.le K' ∧ COs w K' who' (.t D) 0 us' cs' ∧ Instr.fill place' us.toArray (ps.map fun x => (x.1, a.eval x.2)) = some us'.toArray ∧ (keep = false → (∀ d, d ∈ cs → d.owned1 = false) → ∀ d, d ∈ cs' → d.owned1 = false) ∧ cs'.length = cs.length
 | [], cs, cs', σ, K, who, us, h, hc, hd => by
  obtain ⟨rfl, e⟩ := Does.pure hd
  exact ⟨K, who, us, by rw [e]; exact h, Kn.le.refl K, hc, rfl, fun _ h => h, rfl⟩
 | (i, x) :: r, cs, cs', σ, K, who, us, h, hc, hd => by
  obtain ⟨⟨off, n, t⟩, σ1, h1, h2⟩ := Does.bind hd
  obtain ⟨hp, h1'⟩ := Does.of h1
  rw [h1'] at h2
  obtain ⟨y, σ2, h3, h4⟩ := Does.bind h2
  obtain ⟨e3, hy⟩ := h.opd h3
  rw [e3] at h4
  obtain ⟨_, σ3, h5, h6⟩ := Does.bind h4
  obtain ⟨hna, h5'⟩ := Does.must h5
  rw [h5'] at h6
  obtain ⟨z, σ4, h7, h8⟩ := Does.bind h6
  have hnr : ∀ k c n, y ≠ .ref (.t D) k c n := fun k c n e => by subst e; simp [notAt, Pl.same_refl] at hna
  have main : ∀ (K1 : Kn) (who1 : Who), SRel nt Fr H0 m K1 who1 σ4 a w → K.le K1 → (∀ b c, who b = some (.t D, some c) → who1 b = some (.t D, some c)) → FRep w m K1 who1 σ4 a (.t D) off (a.eval x) z → (keep = false → ∀ d, z = .data d → d.owned = false) →
    ∃ K' who' us', SRel nt Fr H0 m K' who' σ' a w ∧ K.le K' ∧ COs w K' who' (.t D) 0 us' cs' ∧ Instr.fill place' us.toArray (((i, x) :: r).map fun x => (x.1, a.eval x.2)) = some us'.toArray ∧ (keep = false → (∀ d, d ∈ cs → d.owned1 = false) → ∀ d, d ∈ cs' → d.owned1 = false) ∧ cs'.length = cs.length := by
   intro K1 who1 g1 g2 g3 g4 g5
   have g6 := FRep.norm (P := P) t g4
   have hno : keep = false → ∀ d, norm P t z = .data d → d.owned = false := fun hk d e => by
    rcases norm_data (P := P) t z with ⟨own, nl, sz, es, rfl, sz', h1, h2⟩ | h1
    ·rw [h1] at e; cases e
     have := g5 hk _ rfl
     cases own with
     | true => cases this
     | false => rfl
    ·rw [h1] at e; exact g5 hk d e
   generalize norm P t z = nz at h8 g6 hno
   cases nz with
   | data d =>
    obtain ⟨_, σ5, h9, h10⟩ := Does.bind h8
    obtain ⟨q1, h9'⟩ := Does.must h9
    rw [h9'] at h10
    obtain ⟨_, σ6, h11, h12⟩ := Does.bind h10
    obtain ⟨q2, h11'⟩ := Does.must h11
    rw [h11'] at h12
    have hdl : d.cells.length = n := Nat.eq_of_beq_eq_true q1
    have hoff : off + n ≤ cs.length := of_decide_eq_true q2
    obtain ⟨vs, f1, f2, f3⟩ := g6
    have hvc : (a.eval x).cells.toList = vs := by
     cases hf : d.form with
     | true => rw [hf] at f2; simpa using f2.symm
     | false =>
      rw [hf] at f2
      simp only [Bool.false_eq_true, if_false] at f2
      subst f2
      rw [form_cells hf] at f1
      cases f1 with
      | cons g _ => exact cells_one g.one.1
    have hvl := f1.length
    have hul := hc.length
    have hle : off + d.cells.length ≤ cs.length := by omega
    have hle' : off + vs.length ≤ us.length := by omega
    have hc1 : COs w K1 who1 (.t D) 0 us cs := hc.keep g2 fun b j d' _ _ hb => ⟨g3 _ _ hb, rfl⟩
    have hc2 : COs w K1 who1 (.t D) 0 (setRange us off vs) (setRange cs off d.cells) := by
     refine COs.of_get (by rw [setRange_length hle, setRange_length hle', hul]) fun j v' d' hv' hd' => ?_
     rw [setRange_get hle] at hd'
     rw [setRange_get hle', hvl] at hv'
     split at hd'
     ·rename_i hin
      rw [if_pos hin] at hv'
      have := f1.get2 hv' hd'
      rw [show off + (j - off) = 0 + j by omega] at this
      exact this
     ·rename_i hin
      rw [if_neg hin] at hv'
      exact hc1.get2 hv' hd'
    obtain ⟨K2, who2, us2, s1, s2, s3, s4, s5, s6⟩ := fill_ok hpl (ps := r) g1 hc2 h12
    refine ⟨K2, who2, us2, s1, g2.trans s2, s3, ?_, fun hk hcs => s5 hk fun d' hd' => ?_, by rw [s6, setRange_length hle]⟩
    ·rw [List.map_cons, fill_step (hpl i _ hp : place' i = some (off, n)) (by rw [hvc, hvl, hdl]) (by show off + n ≤ us.length; omega), hvc]
     exact s4
    ·unfold setRange at hd'
     rcases List.mem_append.1 hd' with g | g
     ·rcases List.mem_append.1 g with g | g
      ·exact hcs d' (List.mem_of_mem_take g)
      ·have ho := hno hk d rfl
       cases d with
       | val v => simp [DV.cells] at g; subst g; rfl
       | hole => simp [DV.cells] at g; subst g; rfl
       | rm _ _ _ => simp [DV.cells] at g; subst g; rfl
       | capv _ => simp [DV.cells] at g; subst g; rfl
       | mp _ _ => cases ho
       | slc o nl s es => simp [DV.cells] at g; subst g; cases o <;> first | rfl | cases ho
       | agg ds =>
        simp only [DV.owned, List.any_eq_false] at ho
        have := ho d' g
        simpa using this
     ·exact hcs d' (List.mem_of_mem_drop g)
   | _ => exact (Does.fail h8).elim
  cases keep with
  | false =>
   obtain ⟨K', who', g1, g2, g3, g4, g5⟩ := h.take0 hy h7
   refine main K' who' g1 g2 (g3 (.t D) hnr) ?_ (fun _ d e => by subst e; exact g4.1)
   cases z with
   | data d => exact FRep.of_urep g4.2
   | _ => exact g4
  | true =>
   obtain ⟨who', g1, g3, g4, g5⟩ := h.take1 hy h7 (.t D) off
   exact main K who' g1 (Kn.le.refl K) (g3 (.t D) hnr) g4 (fun e => by cases e)

theorem placeT_ok {t : TypeId} {z : Value} {pl : Nat → Option (Nat × Nat × TypeId)} (hz : (P.info? t).bind (·.zero) = some z) (h : placeT P t = some pl) : ∃ place' : Nat → Option (Nat × Nat), (∀ i x, pl i = some x → place' i = some (x.1, x.2.1)) ∧ ∀ parts, P.built t parts = Instr.fill place' z.cells parts := by
 rw [Option.bind_eq_some_iff] at hz
 obtain ⟨it, hit, hz⟩ := hz
 unfold placeT at h
 split at h
 ·rename_i fs hu
  rw [Option.map_eq_some_iff] at h
  obtain ⟨l, hl, rfl⟩ := h
  refine ⟨fun i => l.toArray[i]?, fun i x hx => ?_, fun parts => ?_⟩
  ·simp only at hx
   rw [Option.bind_eq_some_iff] at hx
   obtain ⟨y, h1, h2⟩ := hx
   rw [Option.map_eq_some_iff] at h2
   obtain ⟨f, _, rfl⟩ := h2
   exact h1
  ·simp only [Program.built, hit, hu, hz, hl]
 ·rename_i n e hu
  rw [Option.map_eq_some_iff] at h
  obtain ⟨ie, hie, rfl⟩ := h
  refine ⟨fun i => some (i * ie.size, ie.size), fun i x hx => ?_, fun parts => ?_⟩
  ·simp only [Option.some.injEq] at hx
   subst hx; rfl
  ·simp only [Program.built, hit, hu, hz, hie]
 ·cases h
theorem zeroC_z {own : Bool} {t : TypeId} {cs : List DV} (h : zeroC P own t = some cs) : ∃ z : Value, (P.info? t).bind (·.zero) = some z ∧ (∀ w : World, (zeroValue t).run P w = .ok z w) ∧ z.cells.toList.length = cs.length ∧
  ∀ (w : World) (K : Kn) (who : Who) (p : Pl) (j : Nat) (v : Value) (d : DV), z.cells.toList[j]? = some v → cs[j]? = some d → ∀ c, CO w K who p c v d := by
 unfold zeroC at h
 split at h
 ·rename_i z ss hz hss
  obtain ⟨h1, h2⟩ := zeroD_rep h
  refine ⟨z, hz, fun w => ?_, h1, h2⟩
  rw [Option.bind_eq_some_iff] at hz
  obtain ⟨i, hi, hz⟩ := hz
  simp [zeroValue, typeInfo, hi, hz]
 ·cases h
theorem op_build {o : Oper} {t : TypeId} {parts : Array (Nat × Operand)} (ho : o.op = .build t parts) : OpOk P O C nt Fr H0 o := by
 intro m K who σ σ' a w u Q Kk h hdst hd hk
 simp only [opPr, ho] at hd
 obtain ⟨zc, σ1, h1, h2⟩ := Does.bind hd
 obtain ⟨hzc, h1'⟩ := Does.of h1
 rw [h1'] at h2
 obtain ⟨pl, σ2, h3, h4⟩ := Does.bind h2
 obtain ⟨hpl, h3'⟩ := Does.of h3
 rw [h3'] at h4
 obtain ⟨cs, σ3, h5, h6⟩ := Does.bind h4
 obtain ⟨z, hz0, hz, hzl, hzr⟩ := zeroC_z hzc
 obtain ⟨place', hp1, hp2⟩ := placeT_ok hz0 hpl
 have hc0 : COs w K who (.t (o.dst.getD 0)) 0 z.cells.toList zc := COs.of_get hzl fun j v d hv hd => hzr w K who _ j v d hv hd _
 obtain ⟨K', who', us', g1, g2, g3, g4, _, _⟩ := fill_ok hp1 h hc0 h5
 refine wp_val (v := .agg us'.toArray) (w' := w) ?_ (hk _ _ _ _ _ (g1.endF hdst (x := .data (.agg cs)) (fun t' ht' => ?_) h6) g2 (Mp.refl m))
 ·simp only [execOp, ho]
  rw [run_bind (x := Value.agg us'.toArray) (w' := w)]
  ·rfl
  ·refine run_build w t _ _ ?_
   rw [hp2, ← g4]
   simp
 ·rw [ht'] at g3
  exact ⟨us', g3, by simp [DV.form, Value.cells], fun _ => rfl⟩

theorem zeroRow_list {z : Array Value} {n : Nat} {j : Nat} {v : Value} (hs : 0 < z.size) (h : (zeroRow z n).toList[j]? = some v) : z.toList[j % z.size]? = some v := by
 rw [Array.getElem?_toList] at h
 unfold zeroRow at h
 rw [Array.getElem?_map, Array.getElem?_range] at h
 split at h
 ·simp only [Option.map_some, Option.some.injEq] at h
  rw [getElem!_pos z (j % z.size) (Nat.mod_lt _ hs)] at h
  rw [Array.getElem?_toList, Array.getElem?_eq_getElem (Nat.mod_lt _ hs), h]
 ·cases h
theorem fill_row (f : Operand → Value) : ∀ (ps : List (Nat × Operand)) (k : Nat) (pre post : List Value), pre.length = k → post.length = ps.length → ps.map (·.1) = List.range' k ps.length → (∀ x ∈ ps, (f x.2).cells = #[f x.2]) →
  Instr.fill (fun i => some (i * 1, 1)) (pre ++ post).toArray (ps.map fun x => (x.1, f x.2)) = some (pre ++ ps.map fun x => f x.2).toArray
 | [], k, pre, post, hk, hp, hi, hc => by
  have : post = [] := List.length_eq_zero_iff.1 (by simpa using hp)
  subst this
  simp [Instr.fill]
 | (i, x) :: ps, k, pre, post, hk, hp, hi, hc => by
  obtain ⟨y, post, rfl⟩ : ∃ y q, post = y :: q := by cases post with
   | nil => simp at hp
   | cons y q => exact ⟨y, q, rfl⟩
  simp only [List.map_cons, List.length_cons, List.range'_succ, List.cons.injEq] at hi
  have hi0 : i = k := hi.1
  have h1 : (f x).cells = #[f x] := hc (i, x) (by simp)
  have ih := fill_row f ps (k + 1) (pre ++ [f x]) post (by simp [hk]) (by simpa using hp) hi.2 (fun y hy => hc y (by simp [hy]))
  simp only [List.map_cons, Instr.fill, h1]
  have hz : (#[f x] : Array Value).zipIdx = #[(f x, 0)] := rfl
  rw [if_neg (by simp; omega), hz]
  have hs : (#[(f x, 0)] : Array (Value × Nat)).foldl (fun cs x => cs.setIfInBounds (i * 1 + x.2) x.1) (pre ++ y :: post).toArray = (pre ++ [f x] ++ post).toArray := by
   simp only [List.foldl_toArray', Array.foldl, Array.size, List.length_singleton]
   apply Array.ext'
   simp only [hi0, Nat.mul_one, Nat.add_zero]
   simp [← hk]
  rw [hs, ih]
  simp
theorem op_buildRow {o : Oper} {t e : TypeId} {len : Nat} {parts : Array (Nat × Operand)} (ho : o.op = .buildSlice t len parts) (he : elemT P t = some e) (hnt : nt ≤ 1000)
  {m : Om} {K : Kn} {who : Who} {σ σ' : St} {a : Act} {w : World} {u : Unit} {Q : Exit → Act → World → Prop} {Kk : Act → World → Prop} (h : SRel nt Fr H0 m K who σ a w) (hdst : ∀ t, o.dst = some t → t < nt)
  (hd : Does C (rowPr P o.dst e len parts.toList) σ u σ') (hk : ∀ m' K' who' a' w', SRel nt Fr H0 m' K' who' σ' a' w' → K.le K' → Mp m m' → Kk a' w') : o.wp P a w Kk Q := by
 unfold rowPr at hd
 obtain ⟨i, σ1, h1, h2⟩ := Does.bind hd
 obtain ⟨hi, rfl⟩ := Does.of h1
 obtain ⟨n, σ2, h3, h4⟩ := Does.bind h2
 obtain ⟨hs, rfl⟩ := Does.of h3
 obtain ⟨zc, σ3, h5, h6⟩ := Does.bind h4
 obtain ⟨hzc, rfl⟩ := Does.of h5
 obtain ⟨_, σ4, h7, h8⟩ := Does.bind h6
 obtain ⟨q1, rfl⟩ := Does.must h7
 simp only [Bool.and_eq_true, decide_eq_true_eq] at q1
 have hzn : zc.length = n := Nat.eq_of_beq_eq_true q1.1
 have hn1 : n = 1 := Nat.eq_of_beq_eq_true q1.2.1
 subst hn1
 have hlen := q1.2.2
 obtain ⟨_, σ5, h9, h10⟩ := Does.bind h8
 obtain ⟨q2, rfl⟩ := Does.must h9
 have hidx : parts.toList.map (·.1) = List.range len := by simpa using q2
 obtain ⟨ps, σ6, h11, h12⟩ := Does.bind h10
 obtain ⟨rfl, hps⟩ := h.opds h11
 obtain ⟨_, σ7, h13, h14⟩ := Does.bind h12
 obtain ⟨q3, rfl⟩ := Does.must h13
 obtain ⟨y, σ8, h15, h16⟩ := Does.bind h14
 obtain ⟨rfl, rfl⟩ := Does.gt h15
 obtain ⟨_, σ9, h17, h18⟩ := Does.bind h16
 obtain ⟨q4, rfl⟩ := Does.must h17
 obtain ⟨_, σ10, h19, h20⟩ := Does.bind h18
 have hσ := Does.st h19
 subst hσ
 have hlt : i < 1000 := Nat.lt_of_lt_of_le (hdst i hi) hnt
 have hl : (σ9 (.o i)).live = false := by simpa using q4
 have hpl : parts.toList.length = len := by
  have := congrArg List.length hidx; simpa using this
 have vals : ∀ j x (v : AV), (parts.toList.map (·.2))[j]? = some x → ps[j]? = some v → ∃ i' off b, v = .ptr i' off ∧ m i' = some b ∧ a.eval x = .pointer (some ⟨b, off, none⟩) := fun j x v hx hv => by
  have hr := hps.get2 hx hv
  have hp := List.all_eq_true.1 q3 v (List.mem_of_getElem? hv)
  cases v with
  | ptr i' off => obtain ⟨b, h1, h2⟩ := hr; exact ⟨i', off, b, rfl, h1, h2⟩
  | _ => cases hp
 have hpsl : ps.length = len := by rw [← hps.length]; simpa using hpl
 have hcell : ∀ x ∈ parts.toList, (a.eval x.2).cells = #[a.eval x.2] := fun x hx => by
  obtain ⟨j, hj⟩ := List.getElem?_of_mem hx
  have hjl := (List.getElem?_eq_some_iff.1 hj).1
  have hjp : j < ps.length := by rw [hpsl, ← hpl]; exact hjl
  obtain ⟨_, _, b, _, _, e⟩ := vals j x.2 (ps[j]'hjp) (by rw [List.getElem?_map, hj]; rfl) (List.getElem?_eq_getElem hjp)
  rw [e]; rfl
 obtain ⟨vs, hvs⟩ : ∃ vs, vs = parts.toList.map fun x => a.eval x.2 := ⟨_, rfl⟩
 obtain ⟨zv, hz, hzl, hzr⟩ := zeroC_run hzc
 have hzs : zv.cells.size = 1 := by have : zv.cells.size = zv.cells.toList.length := by simp
                                    omega
 have g1 := h.grow (.cells vs.toArray e) (some (.o i, none))
 have hB : BReps (World.grow w (.cells vs.toArray e)) (fun j => if j = i then some w.heap.size else m j) K (fun b => if b = w.heap.size then some (.o i, none) else who b) (.o i) 0 vs.toArray.toList ps := by
  refine BReps.of_get (by rw [hvs, hpsl]; simpa using hpl) fun j v x hv hx => ?_
  have hv' : vs[j]? = some v := by simpa using hv
  rw [hvs, List.getElem?_map, Option.map_eq_some_iff] at hv'
  obtain ⟨pq, h1, h2⟩ := hv'
  obtain ⟨i', off, b, rfl, k1, k2⟩ := vals j pq.2 x (by rw [List.getElem?_map, h1]; rfl) hx
  rw [← h2, k2]
  have hne : i' ≠ i := fun e => by
   subst e
   have := (h.om i' b k1).1
   rw [hl] at this; cases this
  exact ⟨rfl, b, by show (if i' = i then _ else _) = _; rw [if_neg hne]; exact k1, rfl⟩
 have g2 := g1.newO hl (b := w.heap.size) (by simp) (cs := vs.toArray) (el := e) grow_new (Nat.lt_succ_self _) hB
 have hvl : vs.length = len := by rw [hvs]; simpa using hpl
 refine wp_val (v := .slice (some ⟨w.heap.size, 0, none⟩) len len) (w' := World.grow w (.cells vs.toArray e)) ?_ (hk _ _ _ _ _ (g2.endV (x := .orow i len) hdst ⟨w.heap.size, by simp, rfl⟩ h20) (Kn.le.refl K) (Mp.newO (.inl hlt)))
 simp only [execOp, ho, Instr.buildSlice]
 rw [run_bind (x := Value.slice (some ⟨w.heap.size, 0, none⟩) len len) (w' := World.grow w (.cells vs.toArray e))]
 ·rfl
 ·rw [run_bind (run_underlying (elemT_run he) w)]
  simp only
  rw [run_bind (szT_run hs w)]
  rw [if_neg (by have : (2 : Nat) ^ 24 = 16777216 := by decide
                 rw [this]; omega)]
  rw [if_neg (by omega)]
  rw [run_bind (hz w), run_bind (x := zv.cells) (w' := w) rfl]
  have e1 : (Array.range (len * 1)).map (zv.cells[· % zv.cells.size]!) = ([] ++ List.replicate len (zv.cells[0]!)).toArray := by
   rw [hzs]
   apply Array.ext'
   simp [Nat.mod_one]
   apply List.ext_getElem <;> simp
  have e2 : Instr.fill (fun i => some (i * 1, 1)) ((Array.range (len * 1)).map (zv.cells[· % zv.cells.size]!)) ((parts.map fun (i, x) => (i, a.eval x)).toList) = some vs.toArray := by
   rw [e1]
   have := fill_row a.eval parts.toList 0 [] (List.replicate len (zv.cells[0]!)) rfl (by simpa using hpl.symm) (by rw [hidx, hpl]; exact List.range_eq_range') hcell
   rw [hvs]
   simpa using this
  simp only [e2]
  rfl
theorem op_buildSlice {o : Oper} {t : TypeId} {len : Nat} {parts : Array (Nat × Operand)} (ho : o.op = .buildSlice t len parts) (hnt : nt ≤ 1000) : OpOk P O C nt Fr H0 o := by
 intro m K who σ σ' a w u Q Kk h hdst hd hk
 simp only [opPr, ho] at hd
 obtain ⟨e, σ1, h1, h2⟩ := Does.bind hd
 obtain ⟨he, h1'⟩ := Does.of h1
 rw [h1'] at h2
 cases hpt : isPtrT P e with
 | true => rw [hpt] at h2; exact op_buildRow ho he hnt h hdst h2 hk
 | false =>
 rw [hpt] at h2
 obtain ⟨n, σ2, h3, h4⟩ := Does.bind h2
 obtain ⟨hs, h3'⟩ := Does.of h3
 rw [h3'] at h4
 obtain ⟨zc, σ3, h5, h6⟩ := Does.bind h4
 obtain ⟨hzc, h5'⟩ := Does.of h5
 rw [h5'] at h6
 obtain ⟨_, σ4, h7, h8⟩ := Does.bind h6
 obtain ⟨q1, h7'⟩ := Does.must h7
 rw [h7'] at h8
 obtain ⟨_, σ5, h9, h10⟩ := Does.bind h8
 obtain ⟨q2, h9'⟩ := Does.must h9
 rw [h9'] at h10
 obtain ⟨cs, σ6, h11, h12⟩ := Does.bind h10
 have hlim : 0 < n ∧ len * n ≤ 16777216 := of_decide_eq_true q2
 have hzn : zc.length = n := Nat.eq_of_beq_eq_true q1
 obtain ⟨z, hz, hzl, hzr⟩ := zeroC_run hzc
 have hzs : z.cells.size = n := by have : z.cells.size = z.cells.toList.length := by simp
                                   omega
 generalize hz0 : (List.range (len * n)).map (fun i => zc.getD (i % n) default) = zs at h11
 have hzsl : zs.length = len * n := by rw [← hz0]; simp
 have hzat : ∀ j d, zs[j]? = some d → zc[j % n]? = some d := fun j d hj => by
  rw [← hz0, List.getElem?_map, Option.map_eq_some_iff] at hj
  obtain ⟨j', h1, h2⟩ := hj
  have hlt := (List.getElem?_eq_some_iff.1 h1).1
  rw [List.getElem?_range (by simpa using hlt)] at h1
  cases h1
  have hm : j % n < zc.length := by rw [hzn]; exact Nat.mod_lt _ hlim.1
  rw [List.getD_eq_getElem?_getD, List.getElem?_eq_getElem hm] at h2
  rw [List.getElem?_eq_getElem hm]; simpa using h2
 have hc0 : COs w K who (.t (o.dst.getD 0)) 0 (zeroRow z.cells (len * n)).toList zs := by
  refine COs.of_get (by simp [zeroRow_size, hzsl]) fun j v d hv hd => ?_
  have h1 := zeroRow_list (by omega) hv
  rw [hzs] at h1
  exact hzr w K who _ (j % n) v d h1 (hzat j d hd) _
 obtain ⟨K', who', us', g1, g2, g3, g4, g5, g6⟩ := fill_ok (place' := fun i => some (i * n, n)) (fun i x hx => by simp only [Option.some.injEq] at hx; subst hx; rfl) h hc0 h11
 have hun : ∀ d, d ∈ cs → d.owned1 = false := g5 rfl fun d hd => by
  obtain ⟨j, hj⟩ := List.getElem?_of_mem hd
  exact zeroC_own hzc d (List.mem_of_getElem? (hzat j d hj))
 have hcl : cs.length = len * n := by rw [g6, hzsl]
 have hul : us'.length = len * n := by rw [g3.length, hcl]
 have g7 := g1.grow (.cells us'.toArray e) (some (.t (o.dst.getD 0), some 0))
 refine wp_val (v := .slice (some ⟨w.heap.size, 0, none⟩) len len) (w' := World.grow w (.cells us'.toArray e)) ?_ (hk _ _ _ _ _ (g7.endF hdst (x := .data (.slc true (some false) n ((List.range len).map fun i => (cs.drop (i * n)).take n))) (fun t' ht' => FRep.one rfl ⟨fun e => by simp [DV.owned1] at e, fun _ => ?_⟩) h12) g2 (Mp.refl m))
 ·simp only [execOp, ho, Instr.buildSlice]
  rw [run_bind (x := Value.slice (some ⟨w.heap.size, 0, none⟩) len len) (w' := World.grow w (.cells us'.toArray e))]
  ·rfl
  ·rw [run_bind (run_underlying (elemT_run he) w)]
   simp only
   rw [run_bind (szT_run hs w)]
   rw [if_neg (by have : (2 : Nat) ^ 24 = 16777216 := by decide
                  rw [this]; omega)]
   have hfill : ∀ z0 : Array Value, (len * n ≠ 0 → z0 = z.cells) → Instr.fill (fun i => some (i * n, n)) ((Array.range (len * n)).map (z0[· % z0.size]!)) (parts.map fun (i, x) => (i, a.eval x)).toList = some us'.toArray := by
    intro z0 h0
    have e1 : (Array.range (len * n)).map (z0[· % z0.size]!) = (zeroRow z.cells (len * n)).toList.toArray := by
     by_cases hz' : len * n = 0
     ·rw [hz']; unfold zeroRow; simp
     ·rw [h0 hz']; unfold zeroRow; rw [Array.toArray_toList]
    rw [e1, ← g4]
    simp
   by_cases h0 : len * n = 0
   ·rw [if_pos h0]
    rw [run_bind (x := (#[] : Array Value)) (w' := w) rfl]
    rw [hfill #[] (fun h => absurd h0 h)]
    rfl
   ·rw [if_neg h0]
    rw [run_bind (hz w), run_bind (x := z.cells) (w' := w) rfl]
    rw [hfill z.cells (fun _ => rfl)]
    rfl
 ·by_cases hl0 : len = 0
  ·subst hl0
   exact .empty (by simp)
  ·have hE := ORep.slc (w := World.grow w (.cells us'.toArray e)) (K := K') (who := fun b => if b = w.heap.size then some (.t (o.dst.getD 0), some 0) else who' b) (p := .t t') (c := 0) (nl := some false) (sz := n) (es := (List.range len).map fun i => (cs.drop (i * n)).take n) (b := w.heap.size) (off := 0) (cap := len)
    (by simp) hlim.1 (by simp) (fun ch hch => by
     obtain ⟨i, hi, rfl⟩ := List.mem_map.1 hch
     have hi := List.mem_range.1 hi
     have h3 : (i + 1) * n ≤ len * n := Nat.mul_le_mul_right n (by omega)
     rw [Nat.add_mul, Nat.one_mul] at h3
     simp [hcl]; omega) (by simp [ht']) ⟨us'.toArray, e, (0, 0), grow_new, by simp [hul], fun j _ => by simp, fun i j ch d hi hj => by
     rw [List.getElem?_map, Option.map_eq_some_iff] at hi
     obtain ⟨i', h1, rfl⟩ := hi
     have hlt := (List.getElem?_eq_some_iff.1 h1).1
     rw [List.getElem?_range (by simpa using hlt)] at h1
     cases h1
     have hjn : j < n := by
      have := (List.getElem?_eq_some_iff.1 hj).1
      simp at this; omega
     rw [List.getElem?_take_of_lt hjn, List.getElem?_drop] at hj
     obtain ⟨v, hv, hr⟩ := g3.get hj
     exact ⟨v, by simpa using hv, hr.1 (hun d (List.mem_of_getElem? hj))⟩⟩
   simpa using hE
end
end Go.Proofs.Ytknkeabmjleoiaa.Vam
/- The machine by value and the model: what is converted. -/
namespace Go.Proofs.Ytknkeabmjleoiaa.Vam
open Go
set_option linter.unusedVariables false
set_option linter.unusedSimpArgs false
section
variable {P : Program} {O : Nat → Nat} {C : Query → Answer → Prop} {nt : Nat} {Fr : Nat → Prop} {H0 : Hd} {m : Om} {K : Kn} {who : Who} {σ σ' : St} {a : Act} {w : World}

theorem SRel.heap (h : SRel nt Fr H0 m K who σ a w) {w' : World} (hw : w'.heap = w.heap) (hws : WSame w w') : SRel nt Fr H0 m K who σ a w' :=
 h.turn (fun _ => False) (fun b hb => hb.elim) (Kn.le.refl K) (fun b o u hu => by rw [hw]; exact h.kv b o u hu) (fun b _ _ => by rw [hw]) (fun _ _ => rfl) (fun b x hx => by rw [hw]; exact h.wh b x hx) hws
theorem isU8_ok {e : TypeId} (h : isU8 P e = true) : P.underlying e = some (.int .u8) := by
 unfold isU8 at h
 split at h
 ·assumption
 ·cases h
def numsOf : List (List DV) → List Int
 | [.val (.int _ n)] :: r => n :: numsOf r
 | _ :: r => 0 :: numsOf r
 | [] => []
theorem nums_ok : ∀ {es : List (List DV)}, allBytes es = true → (numsOf es).length = es.length ∧ strOfNums (numsOf es) = strOf es ∧ ∀ (i : Nat) (ch : List DV), es[i]? = some ch → ch = [.val (.int .u8 ((numsOf es).getD i 0))]
 | [], _ => ⟨rfl, rfl, fun i ch h => by simp at h⟩
 | ch :: r, h => by
  unfold allBytes at h
  split at h
  ·rename_i e; cases e
  ·rename_i n r' e
   cases e
   obtain ⟨h1, h2, h3⟩ := nums_ok h
   refine ⟨by simp [numsOf, h1], ?_, fun i ch hi => ?_⟩
   ·have h4 : (numsOf r).map (fun n => UInt8.ofNat n.toNat) = r.map (fun | [.val (.int .u8 n)] => UInt8.ofNat n.toNat | _ => 0) := by
     have := congrArg (fun x : ByteArray => x.data.toList) h2
     exact this
    unfold strOfNums strOf
    simp only [numsOf, List.map_cons]
    rw [h4]; rfl
   ·cases i with
    | zero => simp at hi; subst hi; simp [numsOf]
    | succ i => simpa [numsOf] using h3 i ch (by simpa using hi)
  ·cases h
theorem op_mark {o : Oper} {src dst : TypeId} {x : Operand} (ho : o.op = .convert src dst x) {y : AV}
  {m : Om} {K : Kn} {who : Who} {σ σ' : St} {a : Act} {w : World} {u : Unit} {Q : Exit → Act → World → Prop} {Kk : Act → World → Prop} (h : SRel nt Fr H0 m K who σ a w) (hdst : ∀ t, o.dst = some t → t < nt)
  (hy : VRep σ a w m K (a.eval x) y) (hd : Does C (markPr P o.dst src dst y) σ u σ') (hk : ∀ m' K' who' a' w', SRel nt Fr H0 m' K' who' σ' a' w' → K.le K' → Mp m m' → Kk a' w') : o.wp P a w Kk Q := by
 unfold markPr at hd
 split at hd
 ·rename_i t k
  obtain ⟨e, σ1, h1, h2⟩ := Does.bind hd
  obtain ⟨he, rfl⟩ := Does.of h1
  obtain ⟨e0, σ2, h3, h4⟩ := Does.bind h2
  obtain ⟨he0, rfl⟩ := Does.of h3
  obtain ⟨_, σ3, h5, h6⟩ := Does.bind h4
  obtain ⟨q1, rfl⟩ := Does.must h5
  simp only [Bool.and_eq_true] at q1
  have hsd : src = dst := Nat.eq_of_beq_eq_true q1.1
  have hu8 := isU8_ok q1.2
  obtain ⟨y', σ4, h7, h8⟩ := Does.bind h6
  obtain ⟨rfl, rfl⟩ := Does.gt h7
  obtain ⟨_, σ5, h9, h10⟩ := Does.bind h8
  obtain ⟨q2, rfl⟩ := Does.must h9
  have hkk : k = (σ5 (.t t)).k := (Nat.eq_of_beq_eq_true q2).symm
  split at h10
  ·rename_i nl es hc
   obtain ⟨_, σ6, h11, h12⟩ := Does.bind h10
   obtain ⟨q3, rfl⟩ := Does.must h11
   obtain ⟨_, σ7, h13, h14⟩ := Does.bind h12
   have hσ := Does.st h13
   obtain ⟨g1, g2, g3⟩ := h.refd (hy.2 hkk) hc
   have hO := g1.2 rfl
   have hne : es ≠ [] := fun e => by subst e; simp at q3
   generalize hx : a.eval x = v at g1 g2 g3 hO hy
   cases hO with
   | nil _ => exact absurd rfl hne
   | empty _ => exact absurd rfl hne
   | @slc _ _ _ b off cap o1 o2 o3 o4 o5 o6 =>
    obtain ⟨cs, el, fr, p1, p2, p3, p4⟩ := o6
    have hlt : b < w.heap.size := h.wh b _ o5
    obtain ⟨w', hw'⟩ : ∃ w', w' = w.freeze ⟨b, cs.size, none⟩ 1 := ⟨_, rfl⟩
    obtain ⟨fr', hfr, r1⟩ : ∃ fr' : Nat × Nat, (fr'.1 ≤ fr'.2 ∧ ∀ j, j < cs.size + (1 - 1) → (decide (fr'.1 ≤ j) && decide (j < fr'.2)) = false) ∧ w'.heap[b]? = some (.cells cs el fr') := by
     refine ⟨if fr.1 == fr.2 then (cs.size, cs.size + 1) else (min fr.1 cs.size, max fr.2 (cs.size + 1)), ?_, ?_⟩
     ·by_cases hq : fr.1 = fr.2
      ·rw [if_pos (by simpa using hq)]
       exact ⟨Nat.le_succ _, fun j hj => by simp; omega⟩
      ·rw [if_neg (by simpa using hq)]
       have hle := p2.2
       have hge : cs.size ≤ fr.1 := by
        by_cases hh : cs.size ≤ fr.1
        ·exact hh
        ·have := p3 fr.1 (by omega)
         simp at this
         omega
       refine ⟨by show min _ _ ≤ max _ _; omega, fun j hj => ?_⟩
       have : ¬ min fr.1 cs.size ≤ j := by omega
       simp [this]
     ·rw [hw']
      unfold World.freeze
      rw [if_neg (by decide)]
      show (w.heap.modify b _)[b]? = _
      rw [Array.getElem?_modify, p1]
      obtain ⟨lo, hi⟩ := fr
      simp
    have r2 : ∀ b', b' ≠ b → w'.heap[b']? = w.heap[b']? := fun b' hb' => by
     rw [hw']
     unfold World.freeze
     rw [if_neg (by decide)]
     show (w.heap.modify b _)[b']? = _
     rw [Array.getElem?_modify, if_neg (Ne.symm hb')]
    have r3 : w'.heap.size = w.heap.size := by
     rw [hw']
     unfold World.freeze
     rw [if_neg (by decide)]
     show (w.heap.modify b _).size = _
     simp
    have r4 : WSame w w' := by
     rw [hw']
     unfold World.freeze
     rw [if_neg (by decide)]
     exact ⟨rfl, rfl, rfl, by show _ ≤ (w.heap.modify b _).size; simp⟩
    have hrun : (convert src dst (.slice (some ⟨b, off, none⟩) es.length cap)).run P w = .ok (.slice (some ⟨b, off, none⟩) es.length cap) w' := by
     have hsh : w.shape? b = some (el, cs.size) := by unfold World.shape?; rw [p1]
     have hbe : (dst == dst) = true := beq_self_eq_true dst
     unfold convert
     rw [hsd, run_bind (run_underlying (elemT_run he) w), run_bind (run_underlying (elemT_run he) w)]
     simp only [hbe]
     rw [run_bind (run_underlying hu8 w)]
     simp [markStringish, hsh, hw']
    have hco : CO w' K who (.t t) 0 (.slice (some ⟨b, off, none⟩) es.length cap) (.slc true nl 1 es) :=
     ⟨fun e => by simp [DV.owned1] at e, fun _ => .slc o1 o2 o3 o4 o5 ⟨cs, el, fr', r1, ⟨p2.1, hfr.1⟩, hfr.2, p4⟩⟩
    have g6 := h.recell hc g3 hco (fun own' nl' sz' es' e => by cases e; exact ⟨true, nl, es, rfl⟩) (fun b' => b' = b) (fun b' hb' => .inl (by rw [hb']; exact o5)) (Kn.le.refl K) (fun b' o' u' hu' => by
     obtain ⟨k1, k2⟩ := h.kv b' o' u' hu'
     refine ⟨k1, ?_⟩
     rw [r2 b' (fun e => by subst e; rw [o5] at k1; cases k1)]; exact k2) (fun b' hb' _ => r2 b' hb') (fun _ _ => rfl) (fun b' x' hx' => by rw [r3]; exact h.wh b' x' hx') r4
    rw [← hσ] at g6
    have hk2 : k ≤ (σ7 (.t t)).k ∧ (k = (σ7 (.t t)).k → RefOk m a w' (.t t) 0 none (.slice (some ⟨b, off, none⟩) es.length cap)) := by
     have hkeq : (σ7 (.t t)).k = (σ6 (.t t)).k := by
      rw [hσ, St.put_same]
      unfold setCells
      split
      ·split <;> rfl
      ·rfl
     rw [hkeq]
     exact ⟨hy.1, fun _ => g3⟩
    refine wp_val (v := .slice (some ⟨b, off, none⟩) es.length cap) (w' := w') ?_ (hk _ _ _ _ _ (g6.endV hdst (x := .ref (.t t) k 0 none) hk2 h14) (Kn.le.refl K) (Mp.refl m))
    simp only [execOp, ho, hx]
    rw [run_bind hrun]; rfl
  ·exact (Does.fail h10).elim
 ·exact (Does.fail hd).elim
theorem op_convert {o : Oper} {src dst : TypeId} {x : Operand} (ho : o.op = .convert src dst x) : OpOk P O C nt Fr H0 o := by
 intro m K who σ σ' a w u Q Kk h hdst hd hk
 simp only [opPr, ho] at hd
 obtain ⟨y, σ1, h1, h2⟩ := Does.bind hd
 obtain ⟨e1, hy⟩ := h.opd h1
 rw [e1] at h2
 cases hbs : bothSl P src dst with
 | true => rw [hbs] at h2; exact op_mark ho h hdst hy h2 hk
 | false =>
 rw [hbs] at h2
 obtain ⟨d, σ2, h3, h4⟩ := Does.bind h2
 obtain ⟨e2, hv⟩ := h.view hy h3
 rw [e2] at h4
 have done : ∀ {v : Value} {w' : World}, (convert src dst (a.eval x)).run P w = .ok v w' → Kk (a.put o.dst v) w' → o.wp P a w Kk Q := fun {v w'} hr hk' => by
  refine wp_val (v := v) (w' := w') ?_ hk'
  simp only [execOp, ho]
  rw [run_bind hr]; rfl
 split at h4
 ·rename_i D k k' n hs hd'
  have hx := urep_val hv
  refine done (v := .int k (k.wrap n)) (w' := w) ?_ (hk _ _ _ _ _ (h.endV hdst (x := .data (.val (.int k (k.wrap n)))) ⟨rfl, .val rfl⟩ h4) (Kn.le.refl K) (Mp.refl m))
  rw [hx]
  unfold convert
  rw [run_bind (run_underlying hs w), run_bind (run_underlying hd' w)]
  rfl
 ·rename_i D s hs hd'
  have hx := urep_val hv
  refine done (v := .string s) (w' := w) ?_ (hk _ _ _ _ _ (h.endV hdst (x := .data (.val (.string s))) ⟨rfl, .val rfl⟩ h4) (Kn.le.refl K) (Mp.refl m))
  rw [hx]
  unfold convert
  rw [run_bind (run_underlying hs w), run_bind (run_underlying hd' w)]
  rfl
 ·rename_i e s hs hd'
  have hx := urep_val hv
  obtain ⟨_, σ3, h5, h6⟩ := Does.bind h4
  obtain ⟨q1, h5'⟩ := Does.must h5
  rw [h5'] at h6
  have he := isU8_ok q1
  have hr := run_bytes_of_string w src dst e s hs hd' he
  have hcap : s.size ≤ grownCap w s.size 0 e := by simp only [grownCap, Question.cut]; omega
  have g1 := (h.heap (w' := w.drew) rfl ⟨rfl, rfl, rfl, Nat.le_refl _⟩).grow (.cells (bytesRow s (grownCap w s.size 0 e)) e ((bytesRow s (grownCap w s.size 0 e)).size, (bytesRow s (grownCap w s.size 0 e)).size + 1)) (some (.t (o.dst.getD 0), some 0))
  refine done (by rw [hx]; exact hr) (hk _ _ _ _ _ (g1.endF hdst (x := .data (.slc true none 1 (bytesC s))) (fun t' ht' => FRep.one rfl ⟨fun e => by simp [DV.owned1] at e, fun _ => ?_⟩) h6) (Kn.le.refl K) (Mp.refl m))
  have hbl : (bytesC s).length = s.size := by simp only [bytesC, List.length_map, Array.length_toList]; rfl
  have hrs : (bytesRow s (grownCap w s.size 0 e)).size = grownCap w s.size 0 e := by
   unfold bytesRow
   rw [Array.size_append, Array.size_map, Array.size_replicate]
   show s.size + _ = _
   omega
  have hE := ORep.slc (w := World.grow w.drew (.cells (bytesRow s (grownCap w s.size 0 e)) e ((bytesRow s (grownCap w s.size 0 e)).size, (bytesRow s (grownCap w s.size 0 e)).size + 1))) (K := K) (who := fun b => if b = w.drew.heap.size then some (.t (o.dst.getD 0), some 0) else who b) (p := .t t') (c := 0) (nl := none) (sz := 1) (es := bytesC s) (b := w.heap.size) (off := 0) (cap := grownCap w s.size 0 e)
   (by simp) Nat.one_pos (by rw [hbl]; exact hcap) (fun ch hch => by
    obtain ⟨b, _, rfl⟩ := List.mem_map.1 hch
    rfl) (by
     show (if w.heap.size = w.heap.size then some (Pl.t (o.dst.getD 0), some 0) else who w.heap.size) = _
     rw [if_pos rfl, ht']; rfl) ⟨_, e, _, grow_new, by rw [hrs]; omega, fun j hj => by simp; omega, fun i j ch d hi hj => by
    unfold bytesC at hi
    rw [List.getElem?_map, Option.map_eq_some_iff] at hi
    obtain ⟨b, hb, rfl⟩ := hi
    have hj0 : j = 0 := by have := (List.getElem?_eq_some_iff.1 hj).1; simp at this; exact this
    subst hj0
    simp at hj
    subst hj
    refine ⟨.int .u8 b.toNat, ?_, .val rfl⟩
    have hil := (List.getElem?_eq_some_iff.1 hb).1
    rw [show 0 + i * 1 + 0 = i by omega]
    unfold bytesRow
    rw [Array.getElem?_append_left (by simpa using hil), Array.getElem?_map]
    rw [Array.getElem?_toList] at hb
    rw [hb]; rfl⟩
  rw [hbl] at hE
  exact hE
 ·rename_i e own nl s es hs hd'
  obtain ⟨_, σ3, h5, h6⟩ := Does.bind h4
  obtain ⟨q1, h5'⟩ := Does.must h5
  rw [h5'] at h6
  obtain ⟨_, σ4, h7, h8⟩ := Does.bind h6
  obtain ⟨q2, h7'⟩ := Does.must h7
  rw [h7'] at h8
  obtain ⟨_, σ5, h9, h10⟩ := Does.bind h8
  obtain ⟨q3, h9'⟩ := Does.need h9
  rw [h9'] at h10
  have he := isU8_ok q1
  have hs1 : s = 1 := Nat.eq_of_beq_eq_true q2
  subst hs1
  obtain ⟨n1, n2, n3⟩ := nums_ok q3
  obtain ⟨A, cap, hx, hle, hA⟩ := h.viewSrc hy h3
  refine done (v := .string (strOf es)) (w' := w) ?_ (hk _ _ _ _ _ (h.endV hdst (x := .data (.val (.string (strOf es)))) ⟨rfl, .val rfl⟩ h10) (Kn.le.refl K) (Mp.refl m))
  rw [hx]
  by_cases hes : es = []
  ·subst hes
   cases A with
   | none => exact run_convert_bytes_nil w src e hs he _ _ dst hd'
   | some A =>
    rw [run_convert_bytes_string w src dst e (some A) _ _ hs he hd']
    rfl
  ·obtain ⟨b, off, rfl, c1, c2⟩ := hA hes
   rw [← n2]
   refine run_convert_bytes_arg w src e hs he b off es.length cap (numsOf es) n1 (fun i hi => ?_) dst hd'
   have hch := List.getElem?_eq_getElem hi
   have hc := n3 i _ hch
   obtain ⟨u', hu, hr⟩ := c2 i 0 es[i] (.val (.int .u8 ((numsOf es).getD i 0))) hch (by rw [hc]; rfl)
   rw [Nat.mul_one, Nat.add_zero] at hu
   cases hr with
   | val _ => exact kall_cell hu
 ·rename_i e n s es0 hs hd'
  obtain ⟨_, _, _, _, _, _, hcut⟩ := CRep.rm_full hv
  generalize hes0 : es0.take n = es at h4 hcut
  obtain ⟨_, σ3, h5, h6⟩ := Does.bind h4
  obtain ⟨q1, h5'⟩ := Does.must h5
  rw [h5'] at h6
  obtain ⟨_, σ4, h7, h8⟩ := Does.bind h6
  obtain ⟨q2, h7'⟩ := Does.must h7
  rw [h7'] at h8
  obtain ⟨_, σ5, h9, h10⟩ := Does.bind h8
  obtain ⟨q3, h9'⟩ := Does.need h9
  rw [h9'] at h10
  have he := isU8_ok q1
  have hs1 : s = 1 := Nat.eq_of_beq_eq_true q2
  subst hs1
  obtain ⟨n1, n2, n3⟩ := nums_ok q3
  obtain ⟨A, cap, hx, hle, hA⟩ := CRep.src (w := w) (Kn.le.refl _) hcut
  refine done (v := .string (strOf es)) (w' := w) ?_ (hk _ _ _ _ _ (h.endV hdst (x := .data (.val (.string (strOf es)))) ⟨rfl, .val rfl⟩ h10) (Kn.le.refl K) (Mp.refl m))
  rw [hx]
  by_cases hes : es = []
  ·subst hes
   cases A with
   | none => exact run_convert_bytes_nil w src e hs he _ _ dst hd'
   | some A =>
    rw [run_convert_bytes_string w src dst e (some A) _ _ hs he hd']
    rfl
  ·obtain ⟨b, off, rfl, c1, c2⟩ := hA hes
   rw [← n2]
   refine run_convert_bytes_arg w src e hs he b off es.length cap (numsOf es) n1 (fun i hi => ?_) dst hd'
   have hch := List.getElem?_eq_getElem hi
   have hc := n3 i _ hch
   obtain ⟨u', hu, hr⟩ := c2 i 0 es[i] (.val (.int .u8 ((numsOf es).getD i 0))) hch (by rw [hc]; rfl)
   rw [Nat.mul_one, Nat.add_zero] at hu
   cases hr with
   | val _ => exact kall_cell hu
 ·exact (Does.fail h4).elim
end
end Go.Proofs.Ytknkeabmjleoiaa.Vam
/- The machine by value and the model: maps. -/
namespace Go.Proofs.Ytknkeabmjleoiaa.Vam
open Go Go.MapKept
set_option linter.unusedVariables false
set_option linter.unusedSimpArgs false
section
variable {P : Program} {O : Nat → Nat} {C : Query → Answer → Prop} {nt : Nat} {Fr : Nat → Prop} {H0 : Hd} {m : Om} {K : Kn} {who : Who} {σ σ' : St} {a : Act} {w : World}

theorem ba_eq {x y : ByteArray} : (x.toList == y.toList) = true ↔ x = y := by
 rw [beq_iff_eq]
 constructor
 ·intro h
  rw [ByteArray.toList_eq, ByteArray.toList_eq] at h
  cases x with | mk x =>
  cases y with | mk y =>
  congr
  exact Array.ext' h
 ·intro h; rw [h]
def kdD : Nat → TypeDesc
 | 1 => .string
 | 2 => .int .i64
 | _ => .bool
theorem isKey_of {kd : Nat} {k : Value} (h0 : kd ≠ 0) (h : keyK k = kd) : IsKey (kdD kd) k := by
 subst h
 unfold keyK at h0 ⊢
 split <;> simp_all [kdD, IsKey]
theorem eqV_iff {kd : Nat} {k k' : Value} (h0 : kd ≠ 0) (h : keyK k = kd) (h' : keyK k' = kd) : eqV k k' = true ↔ k = k' := by
 subst h
 unfold keyK at h0 h'
 split at h0
 ·split at h' <;> simp_all [keyK]
  simp only [eqV]; rw [ba_eq]
 ·split at h' <;> simp_all [keyK, eqV]
 ·split at h' <;> simp_all [keyK, eqV]
 ·exact absurd rfl h0
theorem mapT_run {t : TypeId} {M : Nat × TypeId × TypeId} (h : mapT P t = some M) : P.underlying t = some (.map M.2.1 M.2.2) ∧ P.underlying M.2.1 = some (kdD M.1) ∧ M.1 ≠ 0 := by
 unfold mapT at h
 split at h
 ·rename_i k e ht
  split at h <;> first | (rename_i hk; cases h; exact ⟨ht, hk, by simp⟩) | cases h
 ·cases h
def prs (l : List MapEntry) : List (Value × Value) := l.map fun e => (e.key, e.val)
theorem find_mget {kd : Nat} {k : Value} (h0 : kd ≠ 0) (hk : keyK k = kd) : ∀ (l : List MapEntry) (i : Nat), (∀ x ∈ l, keyK x.key = kd) →
  (Instr.findNow (kdD kd) k l i = some none ∧ mget (prs l) k = none ∧ ∀ v, mput (prs l) k v = prs l ++ [(k, v)]) ∨
  ∃ j e, Instr.findNow (kdD kd) k l i = some (some (i + j, e.val)) ∧ l[j]? = some e ∧ e.key = k ∧ mget (prs l) k = some e.val ∧ ∀ v, mput (prs l) k v = prs (l.modify j fun e => { e with key := k, val := v })
 | [], _, _ => .inl ⟨rfl, rfl, fun _ => rfl⟩
 | e :: es, i, h => by
  obtain ⟨r, hr, hiff⟩ := sameNow_of_keys (isKey_of h0 hk) (isKey_of h0 (h e (.head _)))
  have he := eqV_iff h0 hk (h e (.head _))
  cases r with
  | true =>
   have hke := hiff.1 rfl
   have hb : eqV k e.key = true := he.2 hke
   refine .inr ⟨0, e, by simp [Instr.findNow, hr], rfl, hke.symm, ?_, fun v => ?_⟩
   ·simp only [prs, List.map_cons, mget, hb, cond_true]
   ·simp only [prs, List.map_cons, mput, hb, cond_true, List.modify_zero_cons]
  | false =>
   have hb : eqV k e.key = false := by
    cases hx : eqV k e.key with
    | false => rfl
    | true => have := hiff.2 (he.1 hx); cases this
   rcases find_mget h0 hk es (i + 1) (fun x hx => h x (.tail _ hx)) with ⟨h1, h2, h3⟩ | ⟨j, e', h1, h2, h3, h4, h5⟩
   ·refine .inl ⟨by simp [Instr.findNow, hr, h1], ?_, fun v => ?_⟩
    ·simp only [prs, List.map_cons, mget, hb, cond_false]; exact h2
    ·have := h3 v
     simp only [prs, List.map_cons, mput, hb, cond_false] at this ⊢
     rw [this]; rfl
   ·refine .inr ⟨j + 1, e', by simp [Instr.findNow, hr, h1]; omega, by simpa using h2, h3, ?_, fun v => ?_⟩
    ·simp only [prs, List.map_cons, mget, hb, cond_false]; exact h4
    ·have := h5 v
     simp only [prs, List.map_cons, mput, hb, cond_false, List.modify_succ_cons] at this ⊢
     rw [this]
theorem mscan_does {es : List (Value × Value)} {k : Value} {r : Option Value} (h : Does C (mscan es k) σ r σ') : r = mget es k ∧ σ' = σ := by
 induction es with
 | nil => obtain ⟨rfl, h2⟩ := Does.pure h; exact ⟨rfl, h2⟩
 | cons e es ih =>
  unfold mscan at h
  have h' := Does.askB h
  unfold mget
  cases hb : eqV k e.1 with
  | true =>
   rw [hb] at h'
   simp only [if_true] at h'
   obtain ⟨rfl, h2⟩ := Does.pure h'
   exact ⟨rfl, h2⟩
  | false =>
   rw [hb] at h'
   simp only [Bool.false_eq_true, if_false] at h'
   exact ih h'
theorem absV_rep {v : Value} (h : absOk v = true) : ARep1 m K v (absV v) ∧ VRep σ a w m K v (absV v) := by
 have hs : ∀ {u : Value}, scV u = true → absC u = some (.data (.val u)) → ARep1 m K u (absV u) ∧ VRep σ a w m K u (absV u) := fun {u} h1 h2 => by
  unfold absV; rw [h2]
  exact ⟨CRep.val h1, vrep_val h1⟩
 unfold absOk at h
 split at h
 ·rename_i f x y
  rw [Bool.and_eq_true] at h
  have hx : x = #[] := by simpa using h.1
  have hy : y = #[] := by simpa using h.2
  subst hx; subst hy
  exact ⟨⟨[], [], rfl, .nil, .nil⟩, ⟨[], [], rfl, .nil, .nil⟩⟩
 ·cases h
 ·rename_i h1 h2
  refine hs h ?_
  unfold absC
  split
  ·simp [scV] at h
  ·simp [scV] at h
  ·rw [if_pos h]
theorem keyPr_does {kd : Nat} {x : AV} {kv v : Value} (h : SRel nt Fr H0 m K who σ a w) (hv : VRep σ a w m K v x) (hd : Does C (keyPr kd x) σ kv σ') : σ' = σ ∧ v = kv ∧ keyK kv = kd := by
 obtain ⟨d, σ1, h1, h2⟩ := Does.bind hd
 obtain ⟨e1, hv1⟩ := h.view hv h1
 rw [e1] at h2
 cases d with
 | val v' =>
  obtain ⟨_, σ2, h3, h4⟩ := Does.bind h2
  obtain ⟨e2, rfl⟩ := Does.must h3
  obtain ⟨rfl, e3⟩ := Does.pure h4
  exact ⟨e3, urep_val hv1, Nat.eq_of_beq_eq_true e2⟩
 | _ => exact (Does.fail h2).elim
theorem mapAt_does {kd : Nat} {x : AV} {v : Value} {es : List (Value × Value)} (h : SRel nt Fr H0 m K who σ a w) (hv : VRep σ a w m K v x) (hd : Does C (mapAt kd x) σ es σ') :
  σ' = σ ∧ ∃ p c b clk me, x = .ref p (σ p).k c none ∧ cellAt p (σ p) c = some (.mp kd es) ∧ rcell m a w p c = some v ∧ v = .map (some b) ∧ who b = some (p, some c) ∧ w.heap[b]? = some (.map me clk) ∧ prs me.toList = es ∧ MapOk kd es ∧ ∀ e ∈ me.toList, e.born < clk := by
 unfold mapAt at hd
 split at hd
 ·rename_i p k c
  obtain ⟨z, σ1, h1, h2⟩ := Does.bind hd
  obtain ⟨rfl, rfl⟩ := Does.gt h1
  obtain ⟨_, σ2, h3, h4⟩ := Does.bind h2
  obtain ⟨e1, rfl⟩ := Does.must h3
  have hk : k = (σ2 p).k := (Nat.eq_of_beq_eq_true e1).symm
  split at h4
  ·rename_i kd' es' hc
   obtain ⟨_, σ3, h5, h6⟩ := Does.bind h4
   obtain ⟨e2, rfl⟩ := Does.must h5
   have e2 := Nat.eq_of_beq_eq_true e2
   subst e2
   obtain ⟨rfl, e3⟩ := Does.pure h6
   obtain ⟨g1, g2, g3⟩ := h.refd (hv.2 hk) hc
   have hO := g1.2 rfl
   refine ⟨e3, p, c, ?_⟩
   cases hO with
   | mp q1 q2 q3 q4 q5 => exact ⟨_, _, _, by rw [hk], hc, g3, rfl, q1, q2, q3, q4, q5⟩
  ·exact (Does.fail h4).elim
 ·exact (Does.fail hd).elim
theorem zeroV_run {t : TypeId} {z : Value} (h : (P.info? t).bind (·.zero) = some z) (w : World) : (zeroValue t).run P w = .ok z w := by
 rw [Option.bind_eq_some_iff] at h
 obtain ⟨i, hi, hz⟩ := h
 simp [zeroValue, typeInfo, hi, hz]
theorem op_makeMap {o : Oper} {t : TypeId} (ho : o.op = .makeMap t none) : OpOk P O C nt Fr H0 o := by
 intro m K who σ σ' a w u Q Kk h hdst hd hk
 simp only [opPr, ho] at hd
 obtain ⟨t0, σ1, h1, h2⟩ := Does.bind hd
 obtain ⟨hdd, rfl⟩ := Does.of h1
 obtain ⟨M, σ2, h3, h4⟩ := Does.bind h2
 obtain ⟨hM, rfl⟩ := Does.of h3
 obtain ⟨m1, m2, m3⟩ := mapT_run hM
 have g1 := h.grow (.map #[] 0) (some (.t (o.dst.getD 0), some 0))
 refine wp_val (v := .map (some w.heap.size)) (w' := World.grow w (.map #[] 0)) ?_ (hk _ _ _ _ _ (g1.endF hdst (fun t' ht' => FRep.one rfl ⟨fun e => by simp [DV.owned1] at e, fun _ => ?_⟩) h4) (Kn.le.refl K) (Mp.refl m))
 ·simp only [execOp, ho, Option.map_none, Instr.makeMap]
  rfl
 ·exact .mp (by simp [ht']) grow_new rfl ⟨m3, fun e he => by simp at he⟩ (fun e he => by simp at he)
theorem op_lookup {o : Oper} {t : TypeId} {x ix : Operand} {ok : Bool} (ho : o.op = .lookup t x ix ok) : OpOk P O C nt Fr H0 o := by
 intro m K who σ σ' a w u Q Kk h hdst hd hk
 simp only [opPr, ho, lookPr] at hd
 obtain ⟨y1, σ1, h1, h2⟩ := Does.bind hd
 obtain ⟨e1, hv1⟩ := h.opd h1
 rw [e1] at h2
 obtain ⟨y2, σ2, h3, h4⟩ := Does.bind h2
 obtain ⟨e2, hv2⟩ := h.opd h3
 rw [e2] at h4
 obtain ⟨M, σ3, h5, h6⟩ := Does.bind h4
 obtain ⟨hM, rfl⟩ := Does.of h5
 obtain ⟨kv, σ4, h7, h8⟩ := Does.bind h6
 obtain ⟨e3, hkv, hkk⟩ := keyPr_does h hv2 h7
 rw [e3] at h8
 obtain ⟨zv, σ5, h9, h10⟩ := Does.bind h8
 obtain ⟨hz, rfl⟩ := Does.of h9
 obtain ⟨_, σ6, h11, h12⟩ := Does.bind h10
 obtain ⟨hzo, rfl⟩ := Does.must h11
 obtain ⟨es, σ7, h13, h14⟩ := Does.bind h12
 obtain ⟨e4, p, c, b, clk, me, rfl, q1, q2, q3, q4, q5, q6, q7, q8⟩ := mapAt_does h hv1 h13
 rw [e4] at h14
 obtain ⟨r, σ8, h15, h16⟩ := Does.bind h14
 obtain ⟨hr, e5⟩ : r = mget es kv ∧ σ8 = σ6 := by
  cases hb : Nat.beq (modeOf O o.dst) 6 with
  | true => rw [hb] at h15; exact mscan_does h15
  | false => rw [hb] at h15; obtain ⟨rfl, g⟩ := Does.pure h15; exact ⟨rfl, g⟩
 rw [e5] at h16
 obtain ⟨m1, m2, m3⟩ := mapT_run hM
 have hks : ∀ x ∈ me.toList, keyK x.key = M.1 := fun x hx => (q7.2 (x.key, x.val) (by rw [← q6]; exact List.mem_map.2 ⟨x, hx, rfl⟩)).1
 have hrun : (Instr.lookup t (.map (some b)) kv ok).run P w = .ok (if ok then .tuple #[r.getD zv, .bool r.isSome] else r.getD zv) w := by
  rcases find_mget m3 hkk me.toList 0 hks with ⟨f1, f2, _⟩ | ⟨j, e, f1, f2, f3, f4, _⟩
  ·rw [q6] at f2
   rw [hr, f2]
   cases ok <;> simp [Instr.lookup, run_underlying m1, MapKept.run_getObj_map q5, run_checkKey m2 (isKey_of m3 hkk), run_findKey m2 f1, zeroV_run hz, Result.andThen]
  ·rw [q6] at f4
   rw [hr, f4]
   cases ok <;> simp [Instr.lookup, run_underlying m1, MapKept.run_getObj_map q5, run_checkKey m2 (isKey_of m3 hkk), run_findKey m2 f1, Result.andThen]
 have hok : absOk (r.getD zv) = true := by
  cases r with
  | none => exact hzo
  | some v =>
   rcases find_mget m3 hkk me.toList 0 hks with ⟨_, f2, _⟩ | ⟨j, e, _, f2, _, f4, _⟩
   ·rw [q6, ← hr] at f2; cases f2
   ·rw [q6, ← hr] at f4; cases f4
    exact (q7.2 (e.key, e.val) (by rw [← q6]; exact List.mem_map.2 ⟨e, List.mem_of_getElem? f2, rfl⟩)).2
 cases ok with
 | true =>
  refine wp_val (v := .tuple #[r.getD zv, .bool r.isSome]) (w' := w) ?_ (hk _ _ _ _ _ (h.endV hdst (x := .tup [absV (r.getD zv), .data (.val (.bool r.isSome))]) ⟨[r.getD zv, .bool r.isSome], rfl, .cons (absV_rep (σ := σ6) (a := a) (w := w) hok).1 (.cons (CRep.val rfl) .nil)⟩ h16) (Kn.le.refl K) (Mp.refl m))
  simp only [execOp, ho, q3, hkv]
  rw [run_bind hrun]; rfl
 | false =>
  refine wp_val (v := r.getD zv) (w' := w) ?_ (hk _ _ _ _ _ (h.endV hdst (x := absV (r.getD zv)) (absV_rep hok).2 h16) (Kn.le.refl K) (Mp.refl m))
  simp only [execOp, ho, q3, hkv]
  rw [run_bind hrun]; rfl
theorem toV_rep {v u : Value} {x : AV} (h : VRep σ a w m K v x) (hx : toV x = some u) : v = u := by
 unfold toV at hx
 split at hx
 ·cases hx; exact urep_val h.2
 ·cases hx
  obtain ⟨fv, cv, rfl, h1, h2⟩ := h
  cases h1; cases h2; rfl
 ·cases hx
theorem op_mapPut {o : Oper} {t : TypeId} {x ix y : Operand} (hp : opPr P O o = mapOpPr P o.dst t x ix y) (hx : ∀ ρ : Operand → Value, execOp ρ o = (do Instr.mapUpdate t (ρ x) (ρ ix) (ρ y); pure .skip)) : OpOk P O C nt Fr H0 o := by
 intro m K who σ σ' a w u Q Kk h hdst hd hk
 simp only [hp, mapOpPr, mapPut] at hd
 obtain ⟨_, σ0, h0, hd0⟩ := Does.bind hd
 obtain ⟨hdn, rfl⟩ := Does.must h0
 obtain ⟨y1, σ1, h1, h2⟩ := Does.bind hd0
 obtain ⟨e1, hv1⟩ := h.opd h1
 rw [e1] at h2
 obtain ⟨y2, σ2, h3, h4⟩ := Does.bind h2
 obtain ⟨e2, hv2⟩ := h.opd h3
 rw [e2] at h4
 obtain ⟨y3, σ3, h5, h6⟩ := Does.bind h4
 obtain ⟨e3, hv3⟩ := h.opd h5
 rw [e3] at h6
 obtain ⟨M, σ4, h7, h8⟩ := Does.bind h6
 obtain ⟨hM, rfl⟩ := Does.of h7
 obtain ⟨kv, σ5, h9, h10⟩ := Does.bind h8
 obtain ⟨e4, hkv, hkk⟩ := keyPr_does h hv2 h9
 rw [e4] at h10
 obtain ⟨yv, σ6, h11, h12⟩ := Does.bind h10
 obtain ⟨hyv, rfl⟩ := Does.of h11
 obtain ⟨_, σ7, h13, h14⟩ := Does.bind h12
 obtain ⟨hyo, rfl⟩ := Does.must h13
 obtain ⟨es, σ8, h15, h16⟩ := Does.bind h14
 obtain ⟨e5, p, c, b, clk, me, rfl, q1, q2, q3, q4, q5, q6, q7, q8⟩ := mapAt_does h hv1 h15
 rw [e5] at h16
 obtain ⟨z, σ9, h17, h18⟩ := Does.bind h16
 obtain ⟨rfl, rfl⟩ := Does.gt h17
 have hσ := Does.st h18
 obtain ⟨m1, m2, m3⟩ := mapT_run hM
 have hy := toV_rep hv3 hyv
 have hks : ∀ x ∈ me.toList, keyK x.key = M.1 := fun x hx => (q7.2 (x.key, x.val) (by rw [← q6]; exact List.mem_map.2 ⟨x, hx, rfl⟩)).1
 obtain ⟨me', clk', hrun, hpr, hbn⟩ : ∃ me' clk', (Instr.mapUpdate t (.map (some b)) kv yv).run P w = .ok () { w with heap := w.heap.setIfInBounds b (.map me' clk') } ∧ prs me'.toList = mput es kv yv ∧ ∀ e ∈ me'.toList, e.born < clk' := by
  rcases find_mget m3 hkk me.toList 0 hks with ⟨f1, _, f3⟩ | ⟨j, e, f1, f2, f3, _, f5⟩
  ·refine ⟨me.push ⟨kv, yv, clk⟩, clk + 1, ?_, ?_, fun e he => ?_⟩
   ·simp [Instr.mapUpdate, run_underlying m1, MapKept.run_getObj_map q5, run_checkKey m2 (isKey_of m3 hkk), run_findKey m2 f1, run_setObj_map _ q5, Result.andThen]
   ·rw [← q6, f3]; simp [prs]
   ·rw [Array.toList_push] at he
    rcases List.mem_append.1 he with g | g
    ·have := q8 e g; omega
    ·rw [List.mem_singleton.1 g]; exact Nat.lt_succ_self _
  ·have hj : me[j]? = some e := by simpa using f2
   refine ⟨me.modify j fun e => { e with key := kv, val := yv }, clk, ?_, ?_, fun e' he => ?_⟩
   ·simp [Instr.mapUpdate, run_underlying m1, MapKept.run_getObj_map q5, run_checkKey m2 (isKey_of m3 hkk), run_findKey m2 f1, hj, f3, run_keyThatStays (isKey_of m3 hkk), run_setObj_map _ q5, Result.andThen]
   ·rw [← q6, f5]; simp [prs]
   ·rw [Array.toList_modify] at he
    obtain ⟨k, hk⟩ := List.getElem?_of_mem he
    rw [List.getElem?_modify] at hk
    cases hx : me.toList[k]? with
    | none => rw [hx] at hk; cases hk
    | some y =>
     rw [hx] at hk
     have hy := q8 y (List.mem_of_getElem? hx)
     cases hk
     split <;> exact hy
 have hok' : MapOk M.1 (mput es kv yv) := by
  refine ⟨m3, ?_⟩
  have : ∀ {l : List (Value × Value)}, (∀ e, e ∈ l → keyK e.1 = M.1 ∧ absOk e.2 = true) → ∀ e, e ∈ mput l kv yv → keyK e.1 = M.1 ∧ absOk e.2 = true := by
   intro l
   induction l with
   | nil => intro _ e he; simp [mput] at he; subst he; exact ⟨hkk, hyo⟩
   | cons e' r ih =>
    intro hl e he
    unfold mput at he
    cases hb : eqV kv e'.1 with
    | true =>
     rw [hb] at he
     rcases List.mem_cons.1 he with g | g
     ·subst g; exact ⟨hkk, hyo⟩
     ·exact hl e (List.mem_cons_of_mem _ g)
    | false =>
     rw [hb] at he
     rcases List.mem_cons.1 he with g | g
     ·subst g; exact hl _ List.mem_cons_self
     ·exact ih (fun e he => hl e (List.mem_cons_of_mem _ he)) e g
  exact this q7.2
 obtain ⟨s1, s2⟩ := heap_set (o' := .map me' clk') q5
 have hKb : ∀ o, K b o = none := fun o => by
  cases hk' : K b o with
  | none => rfl
  | some v => have := (h.kv b o v hk').1; rw [q4] at this; cases this
 have g6 := h.recell (w' := { w with heap := w.heap.setIfInBounds b (.map me' clk') }) (K' := K) (who' := who) (d' := .mp M.1 (mput es kv yv)) q1 q2 ⟨fun e => by simp [DV.owned1] at e, fun _ => by rw [q3]; exact .mp q4 s1 hpr hok' hbn⟩ (fun _ _ _ _ e => by cases e) (fun b' => b' = b) (fun b' hb' => .inl (by rw [hb']; exact q4)) (Kn.le.refl K) (fun b' o' u' hu' => by
   obtain ⟨k1, k2⟩ := h.kv b' o' u' hu'
   refine ⟨k1, ?_⟩
   rw [s2 b' (fun e => by subst e; rw [q4] at k1; cases k1)]; exact k2) (fun b' hb' _ => s2 b' hb') (fun _ _ => rfl) (fun b' x' hx' => by
    show b' < (w.heap.setIfInBounds b (.map me' clk')).size
    rw [Array.size_setIfInBounds]; exact h.wh b' x' hx') ⟨rfl, rfl, rfl, by simp⟩
 rw [← hσ] at g6
 refine wp_skp (w' := { w with heap := w.heap.setIfInBounds b (.map me' clk') }) ?_ ?_
 ·rw [hx, q3, hkv, hy, run_bind hrun]; rfl
 ·cases hd' : o.dst with
  | none => exact hk _ _ _ _ _ g6 (Kn.le.refl K) (Mp.refl m)
  | some _ => rw [hd'] at hdn; cases hdn
theorem op_mapUpdate {o : Oper} {t : TypeId} {x ix y : Operand} (ho : o.op = .mapUpdate t x ix y) : OpOk P O C nt Fr H0 o :=
 op_mapPut (t := t) (x := x) (ix := ix) (y := y) (by simp only [opPr, ho]) (fun ρ => by simp only [execOp, ho])
theorem op_insert {o : Oper} {t : TypeId} {x ix y : Operand} (ho : o.op = .insert t x ix y) : OpOk P O C nt Fr H0 o :=
 op_mapPut (t := t) (x := x) (ix := ix) (y := y) (by simp only [opPr, ho]) (fun ρ => by simp only [execOp, ho])
end
end Go.Proofs.Ytknkeabmjleoiaa.Vam
/- The machine by value and the model: an operation of a region; regions. -/
namespace Go.Proofs.Ytknkeabmjleoiaa.Vam
open Go
set_option linter.unusedVariables false
set_option linter.unusedSimpArgs false
section
variable {P : Program} {O : Nat → Nat} {C : Query → Answer → Prop} {nt : Nat} {Fr : Nat → Prop} {H0 : Hd} {m : Om} {K : Kn} {who : Who} {σ σ' : St} {a : Act} {w : World}

theorem op_ok (hC : ∀ q r, C q r → Okay P q r) (hnt : nt ≤ 1000) (o : Oper) : OpOk P O C nt Fr H0 o := by
 cases ho : o.op with
 | move x => exact op_move ho
 | assign x => exact op_assign ho
 | pick c x y => exact op_pick ho
 | alloc t => exact op_alloc ho hnt
 | box t x => exact op_box ho hnt
 | build t p => exact op_build ho
 | buildSlice t l p => exact op_buildSlice ho hnt
 | load t x => exact op_load ho
 | store t x y => exact op_store ho
 | nilCheck x => exact op_nilCheck ho
 | binOp op t x y yt => exact op_binOp ho
 | unOp op t x => exact op_unOp ho
 | convert s d x => exact op_convert ho
 | makeInterface t x => exact op_makeInterface ho
 | makeFunc f x y =>
  cases f with
  | func f => exact op_makeFunc ho
  | _ => intro m K who σ σ' a w u Q Kk h hdst hd hk; simp only [opPr, ho] at hd; exact (Does.fail hd).elim
 | makeSlice t l c => exact op_makeSlice ho
 | slice t x lo hi mx => exact op_slice ho
 | fieldAddr t x f => exact op_fieldAddr ho
 | field t x f => exact op_field ho
 | indexAddr t x i => exact op_indexAddr ho
 | index t x i => exact op_index ho
 | typeAssert x xt t ok => exact op_typeAssert ho
 | extract x i => exact op_extract ho
 | call c => exact op_call hC ho
 | makeMap t r =>
  cases r with
  | none => exact op_makeMap ho
  | some r => intro m K who σ σ' a w u Q Kk h hdst hd hk; simp only [opPr, ho] at hd; exact (Does.fail hd).elim
 | lookup t x i ok => exact op_lookup ho
 | mapUpdate t x i y => exact op_mapUpdate ho
 | insert t x i y => exact op_insert ho
 | _ => intro m K who σ σ' a w u Q Kk h hdst hd hk; simp only [opPr, ho] at hd; exact (Does.fail hd).elim

theorem getD_bool {t : Nat} {b : Bool} (h : a.tmps.getD t undef = .bool b) : a.tmps[t]? = some (.bool b) := by
 rw [Array.getD_eq_getD_getElem?] at h
 cases ht : a.tmps[t]? with
 | none => rw [ht] at h; cases h
 | some v => rw [ht] at h; exact congrArg some h
theorem step_ok (hC : ∀ q r, C q r → Okay P q r) (hnt : nt ≤ 1000) {ops : Array Oper} {i : Nat} {u : Unit} {Q : Exit → Act → World → Prop} {Kk : Act → World → Prop} (h : SRel nt Fr H0 m K who σ a w) (hdst : ∀ o, ops[i]? = some o → ∀ t, o.dst = some t → t < nt)
  (hd : Does C (stepAt P O ops i) σ u σ') (hk : ∀ m' K' who' a' w', SRel nt Fr H0 m' K' who' σ' a' w' → K.le K' → Mp m m' → Kk a' w') : wpOp P ops Q i Kk a w := by
 unfold stepAt at hd
 unfold wpOp
 cases hi : ops[i]? with
 | none =>
  rw [hi] at hd
  obtain ⟨_, e⟩ := Does.pure hd
  rw [e] at hk
  exact hk _ _ _ _ _ h (Kn.le.refl K) (Mp.refl m)
 | some o =>
  rw [hi] at hd
  simp only at hd ⊢
  have hdo := hdst o hi
  unfold stepPr at hd
  cases hg : o.guard with
  | none =>
   rw [hg] at hd
   have : Region.wanted o (yielded ops a.tmps) = true := by simp [Region.wanted, hg]
   rw [if_pos this]
   exact .inl (op_ok hC hnt o m K who σ σ' a w u Q Kk h hdo hd hk)
  | some g =>
   obtain ⟨j, want⟩ := g
   rw [hg] at hd
   simp only at hd
   split at hd
   ·rename_i t ht
    obtain ⟨c, σ1, h1, h2⟩ := Does.bind hd
    obtain ⟨rfl, h1'⟩ := Does.gt h1
    rw [h1'] at h2
    split at h2
    ·rename_i b hb
     have h3 := Does.askB h2
     obtain ⟨x, hx, hr⟩ := h.tm t
     rw [hb] at hx
     cases hx
     have hv : a.tmps.getD t undef = .bool b := urep_val (DRep.unowned hr rfl)
     have hy : yielded ops a.tmps j = some b := by
      unfold yielded
      rw [ht]
      simp only [Option.bind_some, getD_bool hv]
     have hw : Region.wanted o (yielded ops a.tmps) = (b == want) := by
      simp only [Region.wanted, hg, hy]
      cases b <;> cases want <;> rfl
     rw [hw]
     cases hbw : (b == want) with
     | true =>
      rw [hbw] at h3
      exact .inl (op_ok hC hnt o m K who σ σ' a w u Q Kk h hdo h3 hk)
     | false =>
      rw [hbw] at h3
      simp only [Bool.false_eq_true, if_false] at h3 ⊢
      exact hk _ _ _ _ _ (h.endV hdo (x := .tup []) ⟨[], rfl, .nil⟩ h3) (Kn.le.refl K) (Mp.refl m)
    ·rename_i hb
     obtain ⟨x, hx, hr⟩ := h.tm t
     rw [hb] at hx
     cases hx
     obtain ⟨vs, hv, hvs⟩ := hr
     cases hvs
     have hy : yielded ops a.tmps j = none := by
      unfold yielded
      rw [ht]
      simp only [Option.bind_some]
      have : a.tmps[t]? = none ∨ a.tmps[t]? = some (.tuple #[]) := by
       rw [Array.getD_eq_getD_getElem?] at hv
       cases ha : a.tmps[t]? with
       | none => exact .inl rfl
       | some v => rw [ha] at hv; exact .inr (congrArg some hv)
      rcases this with e | e <;> rw [e]
     have hw : Region.wanted o (yielded ops a.tmps) = false := by
      simp only [Region.wanted, hg, hy]
      rfl
     rw [hw]
     simp only [Bool.false_eq_true, if_false]
     exact hk _ _ _ _ _ (h.endV hdo (x := .tup []) ⟨[], rfl, .nil⟩ h2) (Kn.le.refl K) (Mp.refl m)
    ·exact (Does.fail h2).elim
   ·exact (Does.fail hd).elim

theorem Mp.trans {m m' m'' : Om} (h : Mp m m') (h' : Mp m' m'') : Mp m m'' := fun i b h1 h2 h3 => h i b h1 h2 (h' i b h1 h2 h3)
theorem dstOk_at {ops : Array Oper} (h : dstOk nt ops = true) (i : Nat) (o : Oper) (ho : ops[i]? = some o) (t : Tmp) (ht : o.dst = some t) : t < nt := by
 unfold dstOk at h
 rw [Array.all_eq_true] at h
 obtain ⟨hi, e⟩ := Array.getElem?_eq_some_iff.1 ho
 have := h i hi
 rw [e, ht] at this
 exact of_decide_eq_true this

theorem seq_ok (hC : ∀ q r, C q r → Okay P q r) (hnt : nt ≤ 1000) {ops : Array Oper} {Q : Exit → Act → World → Prop} (hdst : dstOk nt ops = true) : ∀ {is : List Nat} {σ : St} {fps : List Fp} {m : Om} {K : Kn} {who : Who} {a : Act} {w : World}, SRel nt Fr H0 m K who σ a w → RSeq C (stepAt P O ops) is σ fps σ' →
  (∀ m' K' who' a' w', SRel nt Fr H0 m' K' who' σ' a' w' → K.le K' → Mp m m' → Q .normal a' w') → wpOps P ops Q is a w
 | [], σ, fps, m, K, who, a, w, h, hr, hk => by
  cases hr
  exact hk _ _ _ _ _ h (Kn.le.refl K) (Mp.refl m)
 | i :: is, σ, fps, m, K, who, a, w, h, hr, hk => by
  cases hr with
  | cons h1 h2 =>
   rw [wpOps_cons]
   exact step_ok hC hnt h (dstOk_at hdst i) ⟨_, _, h1⟩ fun m' K' who' a' w' g1 g2 g3 => seq_ok hC hnt hdst g1 h2 fun m'' K'' who'' a'' w'' q1 q2 q3 => hk _ _ _ _ _ q1 (g2.trans q2) (g3.trans q3)
end
end Go.Proofs.Ytknkeabmjleoiaa.Vam
/- The machine by value and the model: a region whose order is drawn. -/
namespace Go.Proofs.Ytknkeabmjleoiaa.Vam
open Go
set_option linter.unusedVariables false
set_option linter.unusedSimpArgs false
section
variable {P : Program} {O : Nat → Nat} {C : Query → Answer → Prop} {nt : Nat} {Fr : Nat → Prop} {H0 : Hd} {σ σ' : St}

theorem RSeq.states {step : Nat → Pr Unit} : ∀ {is : List Nat} {σ : St} {fps : List Fp}, RSeq C step is σ fps σ' → ∃ S : Nat → St, S 0 = σ ∧ S is.length = σ' ∧ fps.length = is.length ∧ ∀ (k i : Nat), is[k]? = some i → ∃ R W, fps[k]? = some (R, W) ∧ Ex C (step i) (S k) R W () (S (k + 1))
 | [], σ, fps, h => by cases h; exact ⟨fun _ => σ', rfl, rfl, rfl, fun k i h => by simp at h⟩
 | i :: is, σ0, fps, h => by
  cases h with
  | cons h1 h2 =>
   obtain ⟨S, s1, s2, s3, s4⟩ := RSeq.states h2
   refine ⟨fun k => match k with | 0 => σ0 | k + 1 => S k, rfl, s2, by simp [s3], fun k j hk => ?_⟩
   cases k with
   | zero => simp at hk; subst hk; exact ⟨_, _, rfl, by simp only [s1]; exact h1⟩
   | succ k => simpa using s4 k j (by simpa using hk)
theorem pairs_at {mm : List Nat} : ∀ {fps : List Fp} {b : Nat}, pairsOk mm b fps = true → ∀ (i j : Nat) (x y : Fp), i < j → fps[i]? = some x → fps[j]? = some y → (mm.getD (b + j) 0).testBit (b + i) = true ∨ apartFp x y = true
 | [], b, h, i, j, x, y, _, hx, _ => by simp at hx
 | f :: r, b, h, i, j, x, y, hij, hx, hy => by
  simp only [pairsOk, Bool.and_eq_true] at h
  cases i with
  | zero =>
   simp at hx; subst hx
   cases j with
   | zero => omega
   | succ j =>
    have hy' : r[j]? = some y := by simpa using hy
    have := List.all_eq_true.1 h.1 (y, j) (by
     rw [List.mem_zipIdx_iff_getElem?]; exact hy')
    simp only [Bool.or_eq_true] at this
    rw [show b + (j + 1) = b + 1 + j by omega, Nat.add_zero]
    exact this
  | succ i =>
   cases j with
   | zero => omega
   | succ j =>
    have := pairs_at h.2 i j x y (by omega) (by simpa using hx) (by simpa using hy)
    rw [show b + (j + 1) = b + 1 + j by omega, show b + (i + 1) = b + 1 + i by omega]
    exact this
theorem touches_of {a b : List Pl} {p : Pl} (h1 : p ∈ a) (h2 : p ∈ b) : touches a b = true := by
 unfold touches
 rw [List.any_eq_true]
 exact ⟨p, h1, by rw [List.any_eq_true]; exact ⟨p, h2, Pl.same_refl p⟩⟩
theorem apart_no {x y : Fp} (h : apartFp x y = true) (p : Pl) : (p ∈ x.2 → p ∉ y.1) ∧ (p ∈ x.2 → p ∉ y.2) ∧ (p ∈ y.2 → p ∉ x.1) := by
 unfold apartFp at h
 rw [Bool.not_eq_true', Bool.or_eq_false_iff, Bool.or_eq_false_iff] at h
 obtain ⟨⟨h1, h2⟩, h3⟩ := h
 exact ⟨fun a b => (by rw [touches_of a b] at h1; cases h1), fun a b => (by rw [touches_of a b] at h2; cases h2), fun a b => (by rw [touches_of a b] at h3; cases h3)⟩

def Closed (ops : Array Oper) (L : Nat → Prop) : Prop := ∀ j, L j → ∀ o, ops[j]? = some o → ∀ e, e ∈ o.after.toList → Region.binds .any e = true → L e.on
theorem deps_bits {mm : List Nat} {L : Nat → Prop} : ∀ (es : List Edge) (s : Nat), (∀ i, s.testBit i = true → L i) → (∀ e, e ∈ es → Region.binds .any e = true → L e.on ∧ ∀ i, (mm.getD e.on 0).testBit i = true → L i) →
  ∀ i, (es.foldl (fun s e => if Region.binds .any e then s ||| 2 ^ e.on ||| mm.getD e.on 0 else s) s).testBit i = true → L i
 | [], s, hs, _, i, hi => hs i hi
 | e :: es, s, hs, he, i, hi => by
  refine deps_bits es _ (fun i hi => ?_) (fun e' he' => he e' (List.mem_cons_of_mem _ he')) i hi
  simp only at hi
  split at hi
  ·rename_i hb
   obtain ⟨h1, h2⟩ := he e List.mem_cons_self hb
   rw [Nat.testBit_or, Nat.testBit_or, Bool.or_eq_true, Bool.or_eq_true] at hi
   rcases hi with (g | g) | g
   ·exact hs i g
   ·rw [Nat.testBit_two_pow] at g
    have := of_decide_eq_true g
    rw [← this]; exact h1
   ·exact h2 i g
  ·exact hs i hi
theorem bef_at {ops : Array Oper} {mm : List Nat} (h : befOk ops mm = true) (j : Nat) (o : Oper) (ho : ops[j]? = some o) : mm.getD j 0 = depsOr ops mm o := by
 simp only [befOk, Bool.and_eq_true] at h
 have := List.all_eq_true.1 h.2 (o, j) (by rw [List.mem_zipIdx_iff_getElem?]; simpa using ho)
 exact Nat.eq_of_beq_eq_true this
theorem back_at {ops : Array Oper} (h : backOk ops = true) (j : Nat) (o : Oper) (ho : ops[j]? = some o) (e : Edge) (he : e ∈ o.after.toList) (hb : Region.binds .any e = true) : e.on < j := by
 have := List.all_eq_true.1 h (o, j) (by rw [List.mem_zipIdx_iff_getElem?]; simpa using ho)
 rw [Array.all_eq_true_iff_forall_mem] at this
 have := this e (by simpa using he)
 rw [hb] at this
 simpa using this
theorem closed_bits {ops : Array Oper} {mm : List Nat} {L : Nat → Prop} (hb : befOk ops mm = true) (hk : backOk ops = true) (hL : Closed ops L) : ∀ (n j : Nat) (o : Oper), j < n → ops[j]? = some o → (∀ e, e ∈ o.after.toList → Region.binds .any e = true → L e.on) → (∀ i, L i → ∃ o, ops[i]? = some o) →
  ∀ i, (mm.getD j 0).testBit i = true → L i := by
 intro n
 induction n with
 | zero => intro j o hj; omega
 | succ n ih =>
  intro j o hj ho he hd i hi
  rw [bef_at hb j o ho] at hi
  refine deps_bits o.after.toList 0 (fun i hi => by simp at hi) (fun e hem hbe => ?_) i hi
  have hon := he e hem hbe
  obtain ⟨o', ho'⟩ := hd _ hon
  have hlt := back_at hk j o ho e hem hbe
  exact ⟨hon, fun i hi => ih e.on o' (by omega) ho' (fun e' he' hb' => hL _ hon o' ho' e' he' hb') hd i hi⟩

def Inv (n : Nat) (S : Nat → St) (W : Nat → List Pl) (L : Nat → Prop) (σ : St) : Prop :=
 ∀ p, ∃ k, k ≤ n ∧ σ p = S k p ∧ (∀ j, L j → k ≤ j → p ∉ W j) ∧ (k = 0 ∨ (L (k - 1) ∧ p ∈ W (k - 1)))
theorem frame_to {n : Nat} {S : Nat → St} {W : Nat → List Pl} (hf : ∀ k, k < n → ∀ p, p ∉ W k → S (k + 1) p = S k p) {p : Pl} : ∀ {d k : Nat}, k + d ≤ n → (∀ j, k ≤ j → j < k + d → p ∉ W j) → S (k + d) p = S k p
 | 0, k, _, _ => rfl
 | d + 1, k, hn, hw => by
  rw [show k + (d + 1) = (k + d) + 1 by omega, hf (k + d) (by omega) p (hw _ (by omega) (by omega))]
  exact frame_to hf (by omega) fun j h1 h2 => hw j h1 (by omega)
theorem inv_step {n : Nat} {S : Nat → St} {R W : Nat → List Pl} {L : Nat → Prop} {step : Nat → Pr Unit} {σ : St} {mm : List Nat} (hex : ∀ k, k < n → Ex C (step k) (S k) (R k) (W k) () (S (k + 1))) (hpr : ∀ i j, i < j → j < n → (mm.getD j 0).testBit i = true ∨ apartFp (R i, W i) (R j, W j) = true)
  (hbits : ∀ j, L j → ∀ i, (mm.getD j 0).testBit i = true → L i) (hLn : ∀ j, L j → j < n) {i : Nat} (hi : i < n) (hnl : ¬ L i) (hready : ∀ k, (mm.getD i 0).testBit k = true → L k) (hinv : Inv n S W L σ) :
  ∃ σ1 R' W', Ex C (step i) σ R' W' () σ1 ∧ Inv n S W (fun j => L j ∨ j = i) σ1 := by
 have hf : ∀ k, k < n → ∀ p, p ∉ W k → S (k + 1) p = S k p := fun k hk p hp => (hex k hk).local.1 p hp
 have hlo : ∀ j p, j < i → p ∈ W j → (p ∈ R i ∨ p ∈ W i) → L j := fun j p hj hp h => by
  rcases hpr j i hj hi with g | g
  ·exact hready j g
  ·have q := apart_no g p
   rcases h with h | h
   ·exact absurd h (q.1 hp)
   ·exact absurd h (q.2.1 hp)
 have hhi : ∀ j p, i < j → L j → p ∈ W j → (p ∈ R i ∨ p ∈ W i) → False := fun j p hj hl hp h => by
  rcases hpr i j hj (hLn j hl) with g | g
  ·exact hnl (hbits j hl i g)
  ·have q := apart_no g p
   rcases h with h | h
   ·exact absurd h (q.2.2 hp)
   ·exact absurd hp (q.2.1 h)
 have hread : ∀ p, p ∈ R i → σ p = S i p := fun p hp => by
  obtain ⟨k, k1, k2, k3, k4⟩ := hinv p
  rw [k2]
  by_cases hki : k ≤ i
  ·obtain ⟨d, rfl⟩ := Nat.exists_eq_add_of_le hki
   exact (frame_to hf (by omega) fun j h1 h2 hw => k3 j (hlo j p h2 hw (.inl hp)) h1 hw).symm
  ·rcases k4 with g | ⟨g1, g2⟩
   ·omega
   ·have : k - 1 ≠ i := fun e => hnl (e ▸ g1)
    exact (hhi (k - 1) p (by omega) g1 g2 (.inl hp)).elim
 obtain ⟨_, hloc⟩ := (hex i hi).local
 obtain ⟨σ1, e1, e2, e3⟩ := hloc σ hread
 refine ⟨σ1, _, _, e1, fun p => ?_⟩
 by_cases hp : p ∈ W i
 ·refine ⟨i + 1, by omega, e2 p hp, fun j hj hij hw => ?_, .inr ⟨.inr (by omega), hp⟩⟩
  rcases hj with g | g
  ·exact hhi j p (by omega) g hw (.inr hp)
  ·omega
 ·obtain ⟨k, k1, k2, k3, k4⟩ := hinv p
  refine ⟨k, k1, (e3 p hp).trans k2, fun j hj hkj hw => ?_, k4.imp id fun g => ⟨.inl g.1, g.2⟩⟩
  rcases hj with g | g
  ·exact k3 j g hkj hw
  ·subst g; exact hp hw
theorem inv_end {n : Nat} {S : Nat → St} {R W : Nat → List Pl} {L : Nat → Prop} {step : Nat → Pr Unit} {σ : St} (hex : ∀ k, k < n → Ex C (step k) (S k) (R k) (W k) () (S (k + 1))) (hall : ∀ j, j < n → L j) (hinv : Inv n S W L σ) : σ = S n := by
 have hf : ∀ k, k < n → ∀ p, p ∉ W k → S (k + 1) p = S k p := fun k hk p hp => (hex k hk).local.1 p hp
 funext p
 obtain ⟨k, k1, k2, k3, _⟩ := hinv p
 rw [k2]
 obtain ⟨d, rfl⟩ := Nat.exists_eq_add_of_le k1
 exact (frame_to hf (Nat.le_refl _) fun j h1 h2 => k3 j (hall j h2) h1).symm

def isL (listed : Array Bool) (j : Nat) : Prop := listed[j]? = some true
theorem any_ok (hC : ∀ q r, C q r → Okay P q r) (hnt : nt ≤ 1000) {ops : Array Oper} {Q : Exit → Act → World → Prop} (hdst : dstOk nt ops = true) {S : Nat → St} {R W : Nat → List Pl} {mm : List Nat} (hbf : befOk ops mm = true) (hbk : backOk ops = true)
  (hex : ∀ k, k < ops.size → Ex C (stepAt P O ops k) (S k) (R k) (W k) () (S (k + 1))) (hpr : ∀ i j, i < j → j < ops.size → (mm.getD j 0).testBit i = true ∨ apartFp (R i, W i) (R j, W j) = true) :
  ∀ {fuel : Nat} {listed : Array Bool} {σ : St} {m : Om} {K : Kn} {who : Who} {a : Act} {w : World}, listed.size = ops.size → listed.toList.count false = fuel → Closed ops (isL listed) → Inv ops.size S W (isL listed) σ → SRel nt Fr H0 m K who σ a w →
  (∀ m' K' who' a' w', SRel nt Fr H0 m' K' who' (S ops.size) a' w' → K.le K' → Mp m m' → Q .normal a' w') → wpAny P .any ops Q fuel listed a w := by
 intro fuel
 have hLn : ∀ {listed : Array Bool}, listed.size = ops.size → ∀ j, isL listed j → j < ops.size := fun hs j hj => by
  obtain ⟨h, _⟩ := Array.getElem?_eq_some_iff.1 hj
  omega
 have hrd : ∀ {listed : Array Bool}, listed.size = ops.size → ∀ i, i ∈ Region.ready .any ops listed ↔ i < ops.size ∧ ¬ isL listed i ∧ ∃ o, ops[i]? = some o ∧ ∀ e, e ∈ o.after.toList → Region.binds .any e = true → isL listed e.on := by
  intro listed hs i
  have hgd : ∀ k, listed.getD k false = true ↔ isL listed k := fun k => by
   unfold isL
   rw [Array.getD_eq_getD_getElem?]
   cases listed[k]? with
   | none => simp
   | some b => simp
  unfold Region.ready
  rw [List.mem_filter, List.mem_range]
  constructor
  ·rintro ⟨h1, h2⟩
   rw [Bool.and_eq_true] at h2
   obtain ⟨h2, h3⟩ := h2
   refine ⟨h1, fun hl => ?_, ?_⟩
   ·unfold isL at hl
    rw [Array.getD_eq_getD_getElem?, hl] at h2
    cases h2
   ·have ho : ops[i]? = some ops[i] := Array.getElem?_eq_getElem h1
    refine ⟨_, ho, fun e he hb => ?_⟩
    rw [ho] at h3
    simp only [Option.map_some, Option.getD_some] at h3
    rw [Array.all_eq_true_iff_forall_mem] at h3
    have := h3 e (by simpa using he)
    rw [hb] at this
    exact (hgd _).1 (by simpa using this)
  ·rintro ⟨h1, h2, o, ho, h3⟩
   refine ⟨h1, ?_⟩
   rw [Bool.and_eq_true]
   refine ⟨?_, ?_⟩
   ·rw [Array.getD_eq_getD_getElem?, Array.getElem?_eq_getElem (by omega)]
    unfold isL at h2
    rw [Array.getElem?_eq_getElem (by omega)] at h2
    simpa using h2
   ·rw [ho]
    simp only [Option.map_some, Option.getD_some]
    rw [Array.all_eq_true_iff_forall_mem]
    intro e he
    cases hb : Region.binds .any e with
    | false => rfl
    | true =>
     have := (hgd _).2 (h3 e (by simpa using he) hb)
     simpa using this
 have hend : ∀ {listed : Array Bool}, listed.size = ops.size → Region.ready .any ops listed = [] → ∀ j, j < ops.size → isL listed j := by
  intro listed hs hr j
  induction j using Nat.strongRecOn with
  | _ j ih =>
   intro hj
   apply Classical.byContradiction
   intro hn
   have ho : ops[j]? = some ops[j] := Array.getElem?_eq_getElem hj
   have : j ∈ Region.ready .any ops listed := (hrd hs j).2 ⟨hj, hn, _, ho, fun e he hb => by
    have hlt := back_at hbk j _ ho e he hb
    exact ih e.on hlt (by omega)⟩
   rw [hr] at this
   cases this
 induction fuel with
 | zero =>
  intro listed σ m K who a w hs hc hcl hinv h hk
  have hall : ∀ j, j < ops.size → isL listed j := fun j hj => by
   unfold isL
   rw [Array.getElem?_eq_getElem (by omega)]
   have : false ∉ listed.toList := List.count_eq_zero.1 hc
   cases hb : listed[j]'(by omega) with
   | true => rfl
   | false => exact absurd (by rw [← hb]; simp) this
  have he := inv_end hex hall hinv
  refine ⟨?_, by subst he; exact hk _ _ _ _ _ h (Kn.le.refl K) (Mp.refl m)⟩
  cases hr : Region.ready .any ops listed with
  | nil => rfl
  | cons i r =>
   have := (hrd hs i).1 (by rw [hr]; exact List.mem_cons_self)
   exact absurd (hall i this.1) this.2.1
 | succ fuel ih =>
  intro listed σ m K who a w hs hc hcl hinv h hk
  refine ⟨fun hr => ?_, fun i hi => ?_⟩
  ·have he := inv_end hex (hend hs hr) hinv
   subst he; exact hk _ _ _ _ _ h (Kn.le.refl K) (Mp.refl m)
  ·obtain ⟨h1, h2, o, ho, h3⟩ := (hrd hs i).1 hi
   have hsome : ∀ j, isL listed j → ∃ o, ops[j]? = some o := fun j hj => ⟨_, Array.getElem?_eq_getElem (hLn hs j hj)⟩
   obtain ⟨σ1, R', W', e1, e2⟩ := inv_step hex hpr (fun j hj => by
     obtain ⟨oj, hoj⟩ := hsome j hj
     exact closed_bits hbf hbk hcl (j + 1) j oj (by omega) hoj (hcl j hj oj hoj) hsome) (hLn hs) h1 h2 (closed_bits hbf hbk hcl (i + 1) i o (by omega) ho h3 hsome) hinv
   have hsz : (listed.setIfInBounds i true).size = ops.size := by simp [hs]
   have hset : ∀ j, isL (listed.setIfInBounds i true) j ↔ isL listed j ∨ j = i := fun j => by
    unfold isL
    rw [Array.getElem?_setIfInBounds]
    by_cases e : i = j
    ·subst e
     simp [hs, h1]
    ·rw [if_neg e]
     constructor
     ·exact .inl
     ·rintro (g | g)
      ·exact g
      ·exact absurd g.symm e
   refine step_ok hC hnt h (dstOk_at hdst i) ⟨_, _, e1⟩ fun m' K' who' a' w' g1 g2 g3 => ih hsz ?_ ?_ ?_ g1 fun m'' K'' who'' a'' w'' q1 q2 q3 => hk _ _ _ _ _ q1 (g2.trans q2) (g3.trans q3)
   ·rw [Array.toList_setIfInBounds, List.count_set (by simp [hs, h1])]
    have hf : listed.toList[i]'(by simp [hs, h1]) = false := by
     unfold isL at h2
     rw [Array.getElem?_eq_getElem (by omega)] at h2
     simpa using h2
    rw [hf, hc]
    simp
   ·intro j hj oj hoj e he hb
    rw [hset] at hj ⊢
    rcases hj with g | g
    ·exact .inl (hcl j g oj hoj e he hb)
    ·subst g
     rw [ho] at hoj; cases hoj
     exact .inl (h3 e he hb)
   ·intro p
    obtain ⟨k, k1, k2, k3, k4⟩ := e2 p
    exact ⟨k, k1, k2, fun j hj => k3 j ((hset j).1 hj), k4.imp id fun g => ⟨(hset _).2 g.1, g.2⟩⟩
end
end Go.Proofs.Ytknkeabmjleoiaa.Vam
/- The machine by value and the model: code. -/
namespace Go.Proofs.Ytknkeabmjleoiaa.Vam
open Go
set_option linter.unusedVariables false
set_option linter.unusedSimpArgs false
section
variable {P : Program} {O : Nat → Nat} {C : Query → Answer → Prop} {nt : Nat} {Fr : Nat → Prop} {H0 : Hd} {m : Om} {K : Kn} {who : Who} {σ σ' : St} {a : Act} {w : World}

theorem reg_ok (hm : P.follows .mixedOrders = true) (hC : ∀ q r, C q r → Okay P q r) (hnt : nt ≤ 1000) {id : Nat} {ops : Array Oper} {draw : Bool} {Q : Exit → Act → World → Prop} (hdst : dstOk nt ops = true) (h : SRel nt Fr H0 m K who σ a w) (hr : Reg P O C ops draw σ σ')
  (hk : ∀ m' K' who' a' w', SRel nt Fr H0 m' K' who' σ' a' w' → K.le K' → Mp m m' → Q .normal a' w') : (Code.region id ops draw).wp P Q a w := by
 obtain ⟨fps, h1, h2⟩ := hr
 cases draw with
 | false => exact wp_region (seq_ok hC hnt hdst h h1 hk)
 | true =>
  have hd := h2 rfl
  simp only [drawOk, Bool.and_eq_true] at hd
  obtain ⟨d1, d2, d3⟩ := hd
  obtain ⟨S, s1, s2, s3, s4⟩ := h1.states
  rw [List.length_range] at s2 s3
  have hex : ∀ k, k < ops.size → Ex C (stepAt P O ops k) (S k) ((fps[k]?).getD ([], [])).1 ((fps[k]?).getD ([], [])).2 () (S (k + 1)) := fun k hk => by
   obtain ⟨R, W, e1, e2⟩ := s4 k k (by rw [List.getElem?_range hk])
   rw [e1]; exact e2
  refine wp_region_any hm (any_ok hC hnt hdst d1 d2 hex (fun i j hij hj => ?_) (by simp) (by simp) ?_ ?_ ((h.heap (w' := { w with drawn := w.drawn + 1 }) rfl ⟨rfl, rfl, rfl, Nat.le_refl _⟩)) (by rw [s2]; exact hk))
  ·have hi : fps[i]? = some fps[i] := List.getElem?_eq_getElem (by omega)
   have hj' : fps[j]? = some fps[j] := List.getElem?_eq_getElem (by omega)
   have := pairs_at d3 i j _ _ hij hi hj'
   rw [hi, hj']
   simpa using this
  ·intro j hj
   unfold isL at hj
   rw [Array.getElem?_replicate] at hj
   split at hj <;> cases hj
  ·intro p
   refine ⟨0, Nat.zero_le _, by rw [s1], fun j hj => ?_, .inl rfl⟩
   unfold isL at hj
   rw [Array.getElem?_replicate] at hj
   split at hj <;> cases hj

theorem ARep0.res {m m' : Om} {K : Kn} {v : Value} {x : AV} (hm : ∀ i b, i ∈ x.men0 → m i = some b → m' i = some b) (h : ARep0 m K v x) : ARep0 m' K v x := by
 cases x with
 | ptr i o => obtain ⟨b, hb, e⟩ := h; exact ⟨b, hm i b (by simp [AV.men0]) hb, e⟩
 | data d => exact h
 | _ => exact h.elim
theorem ARep1.res {m m' : Om} {K : Kn} {v : Value} {x : AV} (hm : ∀ i b, i ∈ x.men1 → m i = some b → m' i = some b) (h : ARep1 m K v x) : ARep1 m' K v x := by
 cases x with
 | fn f a b =>
  obtain ⟨fv, cv, e, h1, h2⟩ := h
  refine ⟨fv, cv, e, h1.mono_mem fun v y hy hr => hr.res fun i b' hi => hm i b' ?_, h2.mono_mem fun v y hy hr => hr.res fun i b' hi => hm i b' ?_⟩
  ·simp only [AV.men1, List.mem_flatMap]; exact ⟨y, List.mem_append_left _ hy, hi⟩
  ·simp only [AV.men1, List.mem_flatMap]; exact ⟨y, List.mem_append_right _ hy, hi⟩
 | ifc t x =>
  obtain ⟨u, e, h1⟩ := h
  exact ⟨u, e, h1.res hm⟩
 | ptr i o => exact ARep0.res (K := K) (x := .ptr i o) hm h
 | data d => exact h
 | _ => exact h.elim
theorem ARep.res {m m' : Om} {K : Kn} {who : Who} {p : Pl} {v : Value} {x : AV} (hm : ∀ i b, i ∈ x.men → m i = some b → m' i = some b) (h : ARep w m K who p v x) : ARep w m' K who p v x := by
 cases x with
 | tup xs =>
  obtain ⟨vs, e, h⟩ := h
  refine ⟨vs, e, h.mono_mem fun v y hy hr => hr.res fun i b hi => hm i b ?_⟩
  simp only [AV.men, List.mem_flatMap]; exact ⟨y, hy, hi⟩
 | fn f a b => exact ARep1.res (x := .fn f a b) hm h
 | ifc t x => exact ARep1.res (x := .ifc t x) hm h
 | ptr i o => exact ARep1.res (K := K) (x := .ptr i o) hm h
 | orow i n => obtain ⟨b, h0, h1⟩ := h; exact ⟨b, hm i b (by simp [AV.men]) h0, h1⟩
 | _ => exact h
theorem BReps.res {m m' : Om} {K : Kn} {who : Who} {p : Pl} {c : Nat} {vs : List Value} {xs : List AV} (h : BReps w m K who p c vs xs) (hm : ∀ x, x ∈ xs → ∀ i b, i ∈ x.men → m i = some b → m' i = some b) : BReps w m' K who p c vs xs := by
 induction h with
 | nil => exact .nil
 | @cons c v x vs xs h _ ih =>
  refine .cons ⟨h.1, ?_⟩ (ih fun x hx => hm x (List.mem_cons_of_mem _ hx))
  have h2 := h.2
  have hm' := hm x List.mem_cons_self
  cases x with
  | dead => trivial
  | data d => exact h2
  | fn f a b => exact ARep1.res (x := .fn f a b) hm' h2
  | ifc t x => exact ARep1.res (x := .ifc t x) hm' h2
  | ptr i o => exact ARep1.res (x := .ptr i o) hm' h2
  | _ => exact h2.elim

theorem ofL_cases (l : List (Pl × List AV)) (p : Pl) : (∃ e, e ∈ l ∧ e.1 = p ∧ ofL l p = ⟨e.2, true, 0⟩) ∨ (ofL l p = (match p with | .t _ => ⟨[.dead], true, 0⟩ | .o _ => ⟨[], false, 0⟩) ∧ ∀ e, e ∈ l → e.1 ≠ p) := by
 unfold ofL
 cases hf : l.find? (fun e => Pl.same e.1 p) with
 | none =>
  right
  refine ⟨rfl, fun e he h => ?_⟩
  have := List.find?_eq_none.1 hf e he
  exact this (Pl.same_iff.2 h)
 | some e =>
  left
  exact ⟨e, List.mem_of_find?_eq_some hf, Pl.same_iff.1 (List.find?_some (p := fun e : Pl × List AV => Pl.same e.1 p) hf), rfl⟩
theorem hasO_iff {l : List (Pl × List AV)} {i : Nat} : hasO l i = true ↔ ∃ e, e ∈ l ∧ e.1 = .o i := by
 unfold hasO
 rw [List.any_eq_true]
 exact ⟨fun ⟨e, h1, h2⟩ => ⟨e, h1, Pl.same_iff.1 h2⟩, fun ⟨e, h1, h2⟩ => ⟨e, h1, Pl.same_iff.2 h2⟩⟩
theorem fgTo_cases {p : Pl} {tgt vs : List AV} (h : fgTo p tgt vs = tgt) : vs = tgt ∨ ∃ t own nl sz es, p = .t t ∧ vs = [.data (.slc own nl sz es)] ∧ tgt = [.data (.slc own none sz es)] := by
 unfold fgTo at h
 split at h
 ·exact .inr ⟨_, _, _, _, _, rfl, rfl, h.symm⟩
 ·exact .inl h
theorem ARep.forget {K : Kn} {who : Who} {t : Nat} {v : Value} {own : Bool} {nl : Option Bool} {sz : Nat} {es : List (List DV)} (h : ARep w m K who (.t t) v (.data (.slc own nl sz es))) : ARep w m K who (.t t) v (.data (.slc own none sz es)) :=
 ⟨fun e => by
  have e' : own = false := by cases own <;> simp_all [DV.owned1]
  subst e'
  exact CRep.norm (h.1 rfl) (.inl rfl), fun e => by
  have e' : own = true := by cases own <;> simp_all [DV.owned1]
  subst e'
  exact ORep.norm (h.2 rfl) (.inl rfl)⟩
theorem nrm_cases (σ : St) (vs : List AV) : nrm σ vs = vs ∨ (∃ p k c n, vs = [.ref p k c n] ∧ ((k = (σ p).k ∧ nrm σ vs = [.ref p 0 c n]) ∨ nrm σ vs = [.dead])) ∨
  ∃ p k c i j, vs = [.eptr p k c i j] ∧ ((k = (σ p).k ∧ nrm σ vs = [.eptr p 0 c i j]) ∨ nrm σ vs = [.dead]) := by
 unfold nrm
 split
 ·rename_i p k c n
  right; left
  refine ⟨p, k, c, n, rfl, ?_⟩
  cases hb : Nat.beq k (σ p).k with
  | true => exact .inl ⟨Nat.eq_of_beq_eq_true hb, rfl⟩
  | false => exact .inr rfl
 ·rename_i p k c i j
  right; right
  refine ⟨p, k, c, i, j, rfl, ?_⟩
  cases hb : Nat.beq k (σ p).k with
  | true => exact .inl ⟨Nat.eq_of_beq_eq_true hb, rfl⟩
  | false => exact .inr rfl
 ·exact .inl rfl
theorem nrm_data {σ : St} {vs : List AV} {d : DV} (h : nrm σ vs = [.data d]) : vs = [.data d] := by
 rcases nrm_cases σ vs with q | ⟨_, _, _, _, _, ⟨_, q⟩ | q⟩ | ⟨_, _, _, _, _, _, ⟨_, q⟩ | q⟩
 ·rw [q] at h; exact h
 all_goals (rw [q] at h; cases h)
theorem nrm_shapes {σ : St} {p : Pl} {vs : List AV} : Shapes p vs (nrm σ vs) := by
 intro c own nl sz es hc
 have no : ∀ {x : AV}, (∀ d, x ≠ .data d) → cellAt p ⟨[x], true, 0⟩ c ≠ some (.slc own nl sz es) := fun {x} hx hc => by
  unfold cellAt at hc
  cases p with
  | t t =>
   cases x with
   | data d => exact hx d rfl
   | _ => cases hc
  | o i =>
   cases c with
   | zero =>
    cases x with
    | data d => exact hx d rfl
    | _ => cases hc
   | succ c => cases hc
 rcases nrm_cases σ vs with q | ⟨_, _, _, _, _, ⟨_, q⟩ | q⟩ | ⟨_, _, _, _, _, _, ⟨_, q⟩ | q⟩
 ·rw [q] at hc; exact ⟨_, _, _, hc⟩
 all_goals (rw [q] at hc; exact absurd hc (no fun d g => by cases g))
theorem fg_shapes {σ : St} {p : Pl} {tgt vs : List AV} (h : fgTo p tgt (nrm σ vs) = tgt) : Shapes p vs tgt := by
 rcases fgTo_cases h with g | ⟨t, own, nl, sz, es, rfl, g2, g3⟩
 ·rw [← g]; exact nrm_shapes
 ·rw [nrm_data g2, g3]
  intro c own' nl' sz' es' hc
  cases c with
  | zero =>
   have hc' : some (DV.slc own none sz es) = some (.slc own' nl' sz' es') := hc
   cases hc'
   exact ⟨_, _, _, rfl⟩
  | succ c => cases hc
theorem hasP_o {l : List (Pl × List AV)} {i : Nat} (h : hasP l (.o i) = true) : hasO l i = true := h
theorem SRel.weak (h : SRel nt Fr H0 m K who σ a w) {l : List (Pl × List AV)} (hw : Weak σ l) : SRel nt Fr H0 (fun i => if hasO l i then m i else none) K who (ofL l) a w := by
 have hsame : ∀ e, e ∈ l → fgTo e.1 e.2 (nrm σ (σ e.1).vs) = e.2 := by
  have := hw.same
  intro e he
  rw [List.map_inj_left] at this
  exact this e he
 have hlive : ∀ e, e ∈ l → (σ e.1).live = true := fun e he => List.all_eq_true.1 hw.live e he
 have hwf : ∀ e, e ∈ l → (match e.1 with | .t _ => Nat.beq e.2.length 1 | .o _ => true) = true ∧ ∀ v, v ∈ e.2 → okW l e.1 v = true ∧ ∀ i, i ∈ v.men → hasO l i = true := fun e he => by
  have := List.all_eq_true.1 hw.wf e he
  rw [Bool.and_eq_true] at this
  refine ⟨this.1, fun v hv => ?_⟩
  have := List.all_eq_true.1 this.2 v hv
  rw [Bool.and_eq_true] at this
  exact ⟨this.1, fun i hi => List.all_eq_true.1 this.2 i hi⟩
 have hmen : ∀ e, e ∈ l → ∀ v, v ∈ e.2 → ∀ i b, i ∈ v.men → m i = some b → (if hasO l i then m i else none) = some b := fun e he v hv i b hi hb => by
  rw [if_pos (((hwf e he).2 v hv).2 i hi)]; exact hb
 -- what a temporary holds
 have htt : ∀ t e, e ∈ l → e.1 = .t t → ∀ x, (σ (.t t)).vs = [x] → ARep w m K who (.t t) (a.tmps.getD t undef) x →
   (∃ x', e.2 = [x'] ∧ ARep w m K who (.t t) (a.tmps.getD t undef) x' ∧ (∀ p k c i j, x' = .eptr p k c i j → k = 0 ∧ hasP l p = true ∧ ∃ k', x = .eptr p k' c i j ∧ k' = (σ p).k) ∧ ∀ p k c n, x' = .ref p k c n → k = 0 ∧ hasP l p = true ∧ ∃ k', x = .ref p k' c n ∧ k' = (σ p).k) := by
  intro t e he h1 x hx hr
  have h3 := hsame e he
  rw [h1, hx] at h3
  have hok : ∀ x', e.2 = [x'] → (∀ p k c i j, x' = .eptr p k c i j → k = 0 ∧ hasP l p = true) ∧ ∀ p k c n, x' = .ref p k c n → k = 0 ∧ hasP l p = true := fun x' hx' => by
   have := ((hwf e he).2 x' (by rw [hx']; exact List.mem_singleton.2 rfl)).1
   rw [h1] at this
   refine ⟨fun p k c i j g => ?_, fun p k c n g => ?_⟩ <;>
   ·subst g
    simp only [okW, Bool.and_eq_true] at this
    exact ⟨Nat.eq_of_beq_eq_true this.1, this.2⟩
  rcases fgTo_cases h3 with g | ⟨t', own, nl, sz, es, g1, g2, g3⟩
  ·rcases nrm_cases σ [x] with q | ⟨p, k, c, n, q1, q2⟩ | ⟨p, k, c, i, j, q1, q2⟩
   ·rw [q] at g
    refine ⟨x, g.symm, hr, fun p k c i j e' => ?_, fun p k c n e' => ?_⟩
    ·subst e'
     have h5 := (hok _ g.symm).1 p k c i j rfl
     refine ⟨h5.1, h5.2, k, rfl, ?_⟩
     unfold nrm at q
     simp only at q
     cases hb : Nat.beq k (σ p).k with
     | true => exact Nat.eq_of_beq_eq_true hb
     | false => rw [hb] at q; cases q
    ·subst e'
     have h5 := (hok _ g.symm).2 p k c n rfl
     refine ⟨h5.1, h5.2, k, rfl, ?_⟩
     unfold nrm at q
     simp only at q
     cases hb : Nat.beq k (σ p).k with
     | true => exact Nat.eq_of_beq_eq_true hb
     | false => rw [hb] at q; cases q
   ·cases q1
    rcases q2 with ⟨q3, q4⟩ | q4
    ·rw [q4] at g
     have h5 := (hok _ g.symm).2 p 0 c n rfl
     refine ⟨.ref p 0 c n, g.symm, trivial, (fun _ _ _ _ _ g => by cases g), fun p' k' c' n' e' => ?_⟩
     cases e'
     exact ⟨rfl, h5.2, k, rfl, q3⟩
    ·rw [q4] at g
     exact ⟨.dead, g.symm, trivial, (fun _ _ _ _ _ g => by cases g), (fun _ _ _ _ g => by cases g)⟩
   ·cases q1
    rcases q2 with ⟨q3, q4⟩ | q4
    ·rw [q4] at g
     have h5 := (hok _ g.symm).1 p 0 c i j rfl
     refine ⟨.eptr p 0 c i j, g.symm, trivial, fun p' k' c' i' j' e' => ?_, (fun _ _ _ _ g => by cases g)⟩
     cases e'
     exact ⟨rfl, h5.2, k, rfl, q3⟩
    ·rw [q4] at g
     exact ⟨.dead, g.symm, trivial, (fun _ _ _ _ _ g => by cases g), (fun _ _ _ _ g => by cases g)⟩
  ·have g2' := nrm_data g2
   cases g2'
   exact ⟨_, g3, ARep.forget hr, (fun _ _ _ _ _ g => by cases g), (fun _ _ _ _ g => by cases g)⟩
 refine ⟨h.nt, h.df, fun t => ?_, fun t p k c n ht => ?_, fun t p k c i j ht => ?_, fun i hl => ?_, fun i b hi => ?_, h.kv, h.wh, h.fr, h.ws⟩
 ·rcases ofL_cases l (.t t) with ⟨e, he, h1, h2⟩ | ⟨h1, _⟩
  ·obtain ⟨x, hx, hr⟩ := h.tm t
   obtain ⟨x', g1, g2, _⟩ := htt t e he h1 x hx hr
   exact ⟨x', by rw [h2, ← g1], g2.res (hmen e he x' (by rw [g1]; exact List.mem_singleton.2 rfl))⟩
  ·exact ⟨.dead, by rw [h1], trivial⟩
 ·rcases ofL_cases l (.t t) with ⟨e, he, h1, h2⟩ | ⟨h1, _⟩
  ·obtain ⟨x, hx, hr⟩ := h.tm t
   obtain ⟨x', g1, _, _, g3⟩ := htt t e he h1 x hx hr
   rw [h2] at ht
   have ht' : x' = .ref p k c n := by
    have : e.2 = [.ref p k c n] := ht
    rw [g1] at this; cases this; rfl
   obtain ⟨k0, hp, k', hxr, hkk⟩ := g3 p k c n ht'
   subst k0
   obtain ⟨_, r2⟩ := h.rf t p k' c n (by rw [hx, hxr])
   refine ⟨Nat.zero_le _, fun _ => ?_⟩
   refine RefOk.keep (fun i b hpi hi => ⟨?_, rfl⟩) (r2 hkk)
   subst hpi
   rw [if_pos (hasP_o hp)]; exact hi
  ·rw [h1] at ht; cases ht
 ·rcases ofL_cases l (.t t) with ⟨e, he, h1, h2⟩ | ⟨h1, _⟩
  ·obtain ⟨x, hx, hr⟩ := h.tm t
   obtain ⟨x', g1, _, g2, _⟩ := htt t e he h1 x hx hr
   rw [h2] at ht
   have ht' : x' = .eptr p k c i j := by
    have : e.2 = [.eptr p k c i j] := ht
    rw [g1] at this; cases this; rfl
   obtain ⟨k0, hp, k', hxr, hkk⟩ := g2 p k c i j ht'
   subst k0
   obtain ⟨_, r2⟩ := h.ef t p k' c i j (by rw [hx, hxr])
   refine ⟨Nat.zero_le _, fun _ => ?_⟩
   have hE : EpOk (fun i => if hasO l i then m i else none) a w (σ p) p c i j (a.tmps.getD t undef) := fun own nl sz es hc => by
    obtain ⟨b, off, n, cap, s1, s2⟩ := r2 hkk own nl sz es hc
    refine ⟨b, off, n, cap, rcell_keep a p c (fun i b hpi hi => ⟨?_, rfl⟩) s1, s2⟩
    subst hpi
    rw [if_pos (hasP_o hp)]; exact hi
   refine EpOk.shapes ?_ hE
   rcases ofL_cases l p with ⟨e', he', h1', h2'⟩ | ⟨_, hno⟩
   ·rw [h2']
    have h3' := hsame e' he'
    rw [h1'] at h3'
    exact fg_shapes h3'
   ·unfold hasP at hp
    obtain ⟨e', he', h1'⟩ := List.any_eq_true.1 hp
    exact absurd (Pl.same_iff.1 h1') (hno e' he')
  ·rw [h1] at ht; cases ht
 ·rcases ofL_cases l (.o i) with ⟨e, he, h1, h2⟩ | ⟨h1, _⟩
  ·have h3 : (σ e.1).vs = e.2 := by
    have g := hsame e he
    have hn : ∀ x, True → (∀ v, ¬ BRep w m K who e.1 0 v x) → (σ e.1).vs ≠ [x] := fun x _ hx q => by
     obtain ⟨b, cs, el, r1, r2, r3⟩ := h.ob i (by have := hlive e he; rw [h1] at this; exact this)
     rw [h1] at q
     rw [q] at r3
     generalize cs.toList = us at r3
     cases r3 with
     | cons hb _ => exact hx _ (by rw [h1]; exact hb)
    have hn' : nrm σ (σ e.1).vs = (σ e.1).vs := by
     rcases nrm_cases σ (σ e.1).vs with q | ⟨p, k, c, n, q1, _⟩ | ⟨p, k, c, i', j', q1, _⟩
     ·exact q
     ·exact absurd q1 (hn _ trivial fun v hb => hb.2.elim)
     ·exact absurd q1 (hn _ trivial fun v hb => hb.2.elim)
    rw [hn'] at g
    exact (fgTo_cases g).resolve_right fun ⟨t', _, _, _, _, g1, _⟩ => by rw [h1] at g1; cases g1
   have h4 := hlive e he
   rw [h1] at h3 h4
   obtain ⟨b, cs, el, r1, r2, r3⟩ := h.ob i h4
   refine ⟨b, cs, el, by rw [if_pos (hasO_iff.2 ⟨e, he, h1⟩)]; exact r1, r2, ?_⟩
   rw [h2, ← h3]
   exact r3.res fun x hx => hmen e he x (by rw [← h3]; exact hx)
  ·rw [h1] at hl; cases hl
 ·by_cases ho : hasO l i = true
  ·rw [if_pos ho] at hi
   obtain ⟨e, he, h1⟩ := hasO_iff.1 ho
   refine ⟨?_, (h.om i b hi).2⟩
   rcases ofL_cases l (.o i) with ⟨e', he', h1', h2⟩ | ⟨_, h2⟩
   ·rw [h2]
   ·exact absurd h1 (h2 e he)
  ·rw [if_neg ho] at hi; cases hi
end
end Go.Proofs.Ytknkeabmjleoiaa.Vam
/- The machine by value and the model: an object that nobody writes any more: its cells are known, a pointer to it is a pointer to known cells. -/
namespace Go.Proofs.Ytknkeabmjleoiaa.Vam
open Go
set_option linter.unusedVariables false
set_option linter.unusedSimpArgs false
section
variable {nt : Nat} {Fr : Nat → Prop} {H0 : Hd} {m : Om} {K : Kn} {who : Who} {σ : St} {a : Act} {w : World}
theorem BReps.datas {p : Pl} : ∀ {ds : List DV} {c : Nat} {vs : List Value}, BReps w m K who p c vs (ds.map AV.data) → ds.all (fun d => !d.owned1 && d.cell) = true → All2 (CRep K) vs ds
 | [], c, vs, h, _ => by cases h; exact .nil
 | d :: ds, c, vs, h, hd => by
  simp only [List.all_cons, Bool.and_eq_true] at hd
  cases h with
  | cons h1 h2 => exact .cons (h1.2.1 (by simpa using hd.1.1)) (BReps.datas h2 hd.2)
theorem SRel.freeze (h : SRel nt Fr H0 m K who σ a w) {t i : Nat} {ds : List DV} (ht : (σ (.t t)).vs = [.ptr i 0]) (ho : (σ (.o i)).vs = ds.map AV.data) (hl : (σ (.o i)).live = true) (hd : ds.all (fun d => !d.owned1 && d.cell) = true)
  {l : List (Pl × List AV)} (hw : Weak σ l) (hno : hasO l i = false) : ∃ m' K' who', SRel nt Fr H0 m' K' who' ((ofL l).put (.t t) ⟨[.cptr ds], true, 1⟩) a w ∧ K.le K' ∧ ∀ j b, m' j = some b → m j = some b := by
 obtain ⟨b, cs, el, hm, hb, hr⟩ := h.ob i hl
 rw [ho] at hr
 have hcs := BReps.datas hr hd
 obtain ⟨hlv, hwb⟩ := h.om i b hm
 obtain ⟨x, hx, hax⟩ := h.tm t
 rw [ht] at hx
 cases hx
 obtain ⟨b', hb', hval⟩ := hax
 rw [hm] at hb'
 cases hb'
 have g := h.weak hw
 have hmm : ∀ j, (fun i => if hasO l i then m i else none) j ≠ some b := fun j hj => by
  simp only at hj
  split at hj
  ·rename_i hj'
   have := (h.om j b hj).2
   rw [hwb] at this
   cases this
   rw [hno] at hj'; cases hj'
  ·cases hj
 have hK0 : ∀ o, K b o = none := fun o => by
  cases hk : K b o with
  | none => rfl
  | some v => have := (h.kv b o v hk).1; rw [hwb] at this; cases this
 have hle : K.le (fun x o => if x = b then cs[o]? else K x o) := fun x o v hv => by
  by_cases e : x = b
  ·subst e; rw [hK0] at hv; cases hv
  ·simp only [if_neg e]; exact hv
 have g2 := g.turn (w' := w) (K' := fun x o => if x = b then cs[o]? else K x o) (who' := fun x => if x = b then none else who x) (fun x => x = b) (fun x hx => by
   subst hx
   refine ⟨fun hF => ?_, hmm, hK0, fun p c hp => by rw [hwb] at hp; cases hp⟩
   have := (h.fr x hF).2.2
   rw [hwb] at this
   unfold hidW at this
   cases hq : (H0 (2 * x + 1)).isSome <;> rw [hq] at this <;> cases this) hle (fun x o v hv => by
   by_cases e : x = b
   ·subst e
    simp only [if_true] at hv ⊢
    exact ⟨trivial, cs, el, _, hb, hv⟩
   ·simp only [if_neg e] at hv ⊢
    exact h.kv x o v hv) (fun _ _ _ => rfl) (fun x hx => if_neg hx) (fun x y hy => by
   by_cases e : x = b
   ·simp only [if_pos e] at hy; cases hy
   ·simp only [if_neg e] at hy; exact h.wh x y hy) (WSame.refl w)
 have g3 := g2.repT (t := t) (y := .cptr ds) (l := true) (k := 1) (.inl (by
   show (ofL l (.t t)).k < 1
   unfold ofL
   split <;> exact Nat.lt_succ_self 0)) ⟨b, 0, hval, fun j d hj => by
   obtain ⟨u, hu, hc⟩ := hcs.get hj
   refine ⟨u, ?_, hc.mono hle⟩
   simp only [if_true, Nat.zero_add]
   simpa using hu⟩ ⟨(fun _ _ _ _ => by simp), (fun _ _ _ _ _ => by simp)⟩
 refine ⟨_, _, _, g3, hle, fun j x hj => ?_⟩
 have hj' : (if hasO l j then m j else none) = some x := hj
 split at hj'
 ·exact hj'
 ·cases hj'
end
end Go.Proofs.Ytknkeabmjleoiaa.Vam
