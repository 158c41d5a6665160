/- A machine by value for the program's code, and that it is true of the model: part 3 of 3. -/
import Derived.Test.YtknkeabmjleoiaaVam11
import Derived.LoopN
import Derived.Below
import Derived.KernelRfl
import Derived.ChangeArms
import Derived.OpenShut
import Derived.WideShapes
/- The machine by value and the model: code is run. -/
namespace Go.Proofs.Ytknkeabmjleoiaa.Vam
open Go
set_option linter.unusedVariables false
set_option linter.unusedSimpArgs false
section
variable {P : Program} {O : Nat → Nat} {C : Query → Answer → Prop} {nt : Nat} {Fr : Nat → Prop} {H0 : Hd} {m : Om} {K : Kn} {who : Who} {σ σ' : St} {a : Act} {w : World}

def LoopAt (P : Program) (c : Code) (Q : Exit → Act → World → Prop) (a : Act) (w : World) : Prop :=
 ∀ (b : Frame) (k : List Item) (cs : List Frame), ∃ e a' w', Q e a' w' ∧ Arrives P (lone (b.at a (.code c :: .inLoop c :: k)) cs w) b k cs e a' w'
theorem LoopAt.wp {c : Code} {Q : Exit → Act → World → Prop} (h : LoopAt P c Q a w) : (Code.loop c).wp P Q a w :=
 fun b k cs => let ⟨e, a', w', hq, harr⟩ := h b k cs; ⟨e, a', w', hq, .of_steps (.one step_loop) harr⟩
theorem LoopAt.step {c : Code} {Q : Exit → Act → World → Prop} (h : c.wp P (Exit.then (LoopAt P c Q) Q) a w) : LoopAt P c Q a w := by
 intro b k cs
 obtain ⟨e, a₁, w₁, hq, harr⟩ := h b (.inLoop c :: k) cs
 cases e with
 | normal =>
  obtain ⟨e₂, a₂, w₂, hq₂, harr₂⟩ := hq b k cs
  exact ⟨e₂, a₂, w₂, hq₂, .of_steps (Steps.trans harr (.one step_inLoop)) harr₂⟩
 | exit id => exact ⟨_, a₁, w₁, hq, .pass (x := .inLoop c) rfl (fun _ _ => .inl (by simp)) harr⟩
 | goto l => exact ⟨_, a₁, w₁, hq, .pass (x := .inLoop c) rfl (fun _ _ => .inl (by simp)) harr⟩
 | ret => exact ⟨_, a₁, w₁, hq, .pass (x := .inLoop c) rfl (fun _ _ => .inl (by simp)) harr⟩
 | panic ch => exact ⟨_, a₁, w₁, hq, .pass (x := .inLoop c) rfl (fun _ _ => .inl (by simp)) harr⟩
 | outgrown => exact ⟨_, a₁, w₁, hq, .pass (x := .inLoop c) rfl (fun _ _ => .inl (by simp)) harr⟩
def cwp (P : Program) (Q : Exit → Act → World → Prop) (a : Act) (w : World) : Code → Prop
 | .loop c => LoopAt P c Q a w
 | c => c.wp P Q a w
theorem cwp_wp {c : Code} {Q : Exit → Act → World → Prop} (h : cwp P Q a w c) : c.wp P Q a w := by
 cases c with
 | loop c => exact LoopAt.wp h
 | _ => exact h
def Way.exit' : Way → Exit
 | .normal => .normal
 | .exit n => .exit n
 | .ret => .ret
theorem opB_ok (h : SRel nt Fr H0 m K who σ a w) {c : Operand} {b : Bool} (hb : opB σ c = some b) : a.eval c = .bool b := by
 cases c with
 | const v =>
  cases v <;> simp [opB] at hb
  subst hb; rfl
 | tmp t =>
  simp only [opB] at hb
  split at hb
  ·rename_i b' hv
   cases hb
   obtain ⟨x, hx, hr⟩ := h.tm t
   rw [hv] at hx
   cases hx
   exact urep_val (DRep.unowned hr rfl)
  ·cases hb
 | _ => cases hb
theorem run_ok (hm : P.follows .mixedOrders = true) (hC : ∀ q r, C q r → Okay P q r) (hnt : nt ≤ 1000) {c : Code} {σ σ' : St} {e : Way} (hr : Run P O C c σ e σ') : ∀ {m : Om} {K : Kn} {who : Who} {a : Act} {w : World} {Q : Exit → Act → World → Prop}, codeOk nt c = true → SRel nt Fr H0 m K who σ a w →
  (∀ m' K' who' a' w', SRel nt Fr H0 m' K' who' σ' a' w' → K.le K' → Mp m m' → Q e.exit' a' w') → cwp P Q a w c := by
 induction hr with
 | skip => exact fun _ h hk => wp_skip (hk _ _ _ _ _ h (Kn.le.refl _) (Mp.refl _))
 | label => exact fun _ h hk => wp_label (hk _ _ _ _ _ h (Kn.le.refl _) (Mp.refl _))
 | ret => exact fun _ h hk => wp_ret (hk _ _ _ _ _ h (Kn.le.refl _) (Mp.refl _))
 | exit => exact fun _ h hk => wp_exit (hk _ _ _ _ _ h (Kn.le.refl _) (Mp.refl _))
 | region hr => exact fun hc h hk => reg_ok hm hC hnt hc h hr hk
 | @seqN x y σ τ υ e h1 h2 ih1 ih2 =>
  intro m K who a w Q hc h hk
  simp only [codeOk, Bool.and_eq_true] at hc
  exact wp_seq (cwp_wp (ih1 hc.1 h fun m' K' who' a' w' g1 g2 g3 => cwp_wp (ih2 hc.2 g1 fun m'' K'' who'' a'' w'' q1 q2 q3 => hk _ _ _ _ _ q1 (g2.trans q2) (g3.trans q3))))
 | @seqX x y σ τ e h1 h2 ih =>
  intro m K who a w Q hc h hk
  simp only [codeOk, Bool.and_eq_true] at hc
  refine wp_seq (cwp_wp (ih hc.1 h fun m' K' who' a' w' g1 g2 g3 => ?_))
  cases e with
  | normal => exact absurd rfl h2
  | exit n => exact hk _ _ _ _ _ g1 g2 g3
  | ret => exact hk _ _ _ _ _ g1 g2 g3
 | @cond c x y b σ τ e h1 h2 ih =>
  intro m K who a w Q hc h hk
  simp only [codeOk, Bool.and_eq_true] at hc
  refine wp_cond (opB_ok h h1) ?_
  cases b with
  | true => exact cwp_wp (ih hc.1 h hk)
  | false => exact cwp_wp (ih hc.2 h hk)
 | @blockN n x σ τ h1 ih =>
  intro m K who a w Q hc h hk
  exact wp_block (cwp_wp (ih hc h fun m' K' who' a' w' g1 g2 g3 => hk _ _ _ _ _ g1 g2 g3))
 | @blockE n x σ τ h1 ih =>
  intro m K who a w Q hc h hk
  refine wp_block (cwp_wp (ih hc h fun m' K' who' a' w' g1 g2 g3 => ?_))
  simp only [Way.exit', Exit.inBlock, if_true]
  exact hk _ _ _ _ _ g1 g2 g3
 | @blockX n x σ τ e h1 h2 h3 ih =>
  intro m K who a w Q hc h hk
  refine wp_block (cwp_wp (ih hc h fun m' K' who' a' w' g1 g2 g3 => ?_))
  cases e with
  | normal => exact absurd rfl h2
  | exit k =>
   have hne : k ≠ n := fun e => h3 (by rw [e])
   simp only [Way.exit', Exit.inBlock, if_neg hne]
   exact hk _ _ _ _ _ g1 g2 g3
  | ret => exact hk _ _ _ _ _ g1 g2 g3
 | @loopX x σ τ e h1 h2 ih =>
  intro m K who a w Q hc h hk
  refine LoopAt.step (cwp_wp (ih hc h fun m' K' who' a' w' g1 g2 g3 => ?_))
  cases e with
  | normal => exact absurd rfl h2
  | exit k => exact hk _ _ _ _ _ g1 g2 g3
  | ret => exact hk _ _ _ _ _ g1 g2 g3
 | @loopS x σ τ υ e h1 h2 ih1 ih2 =>
  intro m K who a w Q hc h hk
  exact LoopAt.step (cwp_wp (ih1 hc h fun m' K' who' a' w' g1 g2 g3 => ih2 hc g1 fun m'' K'' who'' a'' w'' q1 q2 q3 => hk _ _ _ _ _ q1 (g2.trans q2) (g3.trans q3)))
 | @freeze c σ τ e t i ds l h1 h2 h3 h4 h5 h6 h7 ih =>
  intro m K who a w Q hc h hk
  obtain ⟨m1, K1, who1, g1, g2, g3⟩ := h.freeze h1 h2 h3 h4 h5 h6
  exact ih hc g1 fun m' K' who' a' w' q1 q2 q3 => hk _ _ _ _ _ q1 (g2.trans q2) fun j b q4 q5 q6 => g3 j b (q3 j b q4 q5 q6)
 | @swap c σ σ1 τ e t u k d R W h0 h1 h2 h3 h4 h5 ih =>
  intro m K who a w Q hc h hk
  have htu : t ≠ u := Nat.ne_of_beq_eq_false h4
  have hv := h.rf u (.t t) k 0 none h1
  have hkk : k = (σ (.t t)).k := by
   obtain ⟨x, σ2, g1, g2⟩ := Does.bind ⟨_, _, h0⟩
   obtain ⟨rfl, rfl⟩ := Does.gt g1
   obtain ⟨_, σ3, g3, _⟩ := Does.bind g2
   exact (Nat.eq_of_beq_eq_true (Does.must g3).1).symm
  obtain ⟨who', g1, _, g4, _⟩ := h.take1 (y := .ref (.t t) k 0 none) hv ⟨_, _, h0⟩ (.t u) 0
  have hf : d.form = false := by cases d <;> first | rfl | cases h3
  have hco := FRep.co hf g4
  have hdr : ∀ {who : Who} {q : Nat} {v : Value}, CO w K who (.t q) 0 v d → DRep w K who (.t q) v d := fun h => by cases d <;> first | exact h | cases h3
  have hrd : ∀ {who : Who} {q : Nat} {v : Value}, DRep w K who (.t q) v d → CO w K who (.t q) 0 v d := fun h => by cases d <;> first | exact h | cases h3
  have g5 := g1.repT (t := u) (y := .data d) (l := true) (k := (σ1 (.t u)).k + 1) (.inl (Nat.lt_succ_self _)) (hdr hco) ⟨(fun _ _ _ _ => by simp), (fun _ _ _ _ _ => by simp)⟩
  have hval : a.tmps.getD t undef = a.tmps.getD u undef := by
   obtain ⟨x, hx, hr⟩ := h.tm t
   rw [h2] at hx
   cases hx
   have e1 := rcell_t (m := m) (a := a) (w := w) (t := t) (c := 0) rfl (hrd hr).one.1
   have e2 : rcell m a w (.t t) 0 = some (a.tmps.getD u undef) := hv.2 hkk
   rw [e1] at e2
   exact Option.some.inj e2
  have g6 := g5.repRef (t := t) (p0 := .t u) (k0 := (σ1 (.t u)).k + 1) (c0 := 0) (k := (σ1 (.t t)).k + 1) (by intro g; cases g; exact htu rfl) (by
    rw [St.put_ne _ _ (by intro g; cases g; exact htu rfl)]; exact Nat.lt_succ_self _) ⟨by rw [St.put_same]; exact Nat.le_refl _, fun _ => by
    rw [hval]
    exact rcell_t (m := m) (a := a) (w := w) (t := u) (c := 0) rfl hco.one.1⟩
  exact ih hc g6 hk
 | @nilk c σ τ e t sz own b es h0 h1 h2 h3 ih =>
  intro m K who a w Q hc h hk
  obtain ⟨x, hx, hr⟩ := h.tm t
  rw [h0] at hx
  cases hx
  have hne : es ≠ [] := fun g => by subst g; cases h2
  subst h1
  have hr' : DRep w K who (.t t) (a.tmps.getD t undef) (.slc own (some false) sz es) := by
   refine ⟨fun e => ?_, fun e => ?_⟩
   ·have := hr.1 (by cases own <;> simp_all [DV.owned1])
    cases own with
    | true => simp [DV.owned1] at e
    | false =>
     generalize a.tmps.getD t undef = v at this
     cases this with
     | nil _ => exact absurd rfl hne
     | empty _ => exact absurd rfl hne
     | slc us g1 g2 g3 g4 g5 => exact .slc us (by simp) g2 g3 g4 g5
   ·have := hr.2 (by cases own <;> simp_all [DV.owned1])
    cases own with
    | false => simp [DV.owned1] at e
    | true =>
     generalize a.tmps.getD t undef = v at this
     cases this with
     | nil _ => exact absurd rfl hne
     | empty _ => exact absurd rfl hne
     | slc g1 g2 g3 g4 g5 g6 => exact .slc (by simp) g2 g3 g4 g5 g6
  exact ih hc (h.repT (t := t) (y := .data (.slc own (some false) sz es)) (l := true) (k := (σ (.t t)).k + 1) (.inl (Nat.lt_succ_self _)) hr' ⟨(fun _ _ _ _ => by simp), (fun _ _ _ _ _ => by simp)⟩) hk
 | @shareO c σ σ' τ e i k cc z R W h0 h1 h2 h3 ih =>
  intro m K who a w Q hc h hk
  obtain ⟨b, cs, el, hm, hb, hr⟩ := h.ob i h0
  obtain ⟨v, hv⟩ : ∃ v, rcell m a w (.o i) cc = some v := by
   have hl := hr.length
   refine ⟨cs[cc]'(by simp at hl; omega), ?_⟩
   simp only [rcell, hm, hb]
   exact Array.getElem?_eq_getElem _
  have hkk : k = (σ (.o i)).k := by
   obtain ⟨x, σ1, g1, g2⟩ := Does.bind ⟨_, _, h2⟩
   obtain ⟨rfl, rfl⟩ := Does.gt g1
   obtain ⟨_, σ2, g3, _⟩ := Does.bind g2
   exact (Nat.eq_of_beq_eq_true (Does.must g3).1).symm
  obtain ⟨K', who', g1, g2, _⟩ := h.take0 (v := v) (y := .ref (.o i) k cc none) ⟨by omega, fun _ => hv⟩ ⟨_, _, h2⟩
  exact ih hc g1 fun m' K'' who'' a' w' q1 q2 q3 => hk _ _ _ _ _ q1 (g2.trans q2) q3
 | @share c σ σ' τ e x z R W h1 h2 ih =>
  intro m K who a w Q hc h hk
  obtain ⟨y, σ1, h3, h4⟩ := Does.bind ⟨_, _, h1⟩
  obtain ⟨e1, hv⟩ := h.opd h3
  rw [e1] at h4
  obtain ⟨K', who', g1, g2, _⟩ := h.take0 hv h4
  exact ih hc g1 fun m' K'' who'' a' w' q1 q2 q3 => hk _ _ _ _ _ q1 (g2.trans q2) q3
 | @weak c σ τ e l h1 h2 ih =>
  intro m K who a w Q hc h hk
  exact ih hc (h.weak h1) fun m' K' who' a' w' g1 g2 g3 => hk _ _ _ _ _ g1 g2 fun i b q1 q2 q3 => by
   have := g3 i b q1 q2 q3
   simp only at this
   split at this
   ·exact this
   ·cases this
end
end Go.Proofs.Ytknkeabmjleoiaa.Vam
/- The machine by value and the model: what a function hands back. -/
namespace Go.Proofs.Ytknkeabmjleoiaa.Vam
open Go
set_option linter.unusedVariables false
set_option linter.unusedSimpArgs false
section
variable {P : Program} {O : Nat → Nat} {C : Query → Answer → Prop} {nt : Nat} {Fr : Nat → Prop} {H0 : Hd} {m : Om} {K : Kn} {who : Who} {σ σ' : St} {a : Act} {w : World}

def resF (tmps : Array Value) : ResultVar → Sem Value
 | .tmp t => pure (tmps.getD t undef)
 | .cell a t => do loadVar t (← asAddr (tmps.getD a undef))
theorem resM_run (tmps : Array Value) : ∀ (ts : List Nat) (w : World), (List.mapM (resF tmps) (ts.map ResultVar.tmp)).run P w = .ok (ts.map fun t => tmps.getD t undef) w
 | [], w => rfl
 | t :: ts, w => by
  rw [List.map_cons, List.mapM_cons]
  rw [run_bind (x := tmps.getD t undef) (w' := w) rfl, run_bind (resM_run tmps ts w)]
  rfl
theorem results_run {fn : Func} {ts : List Nat} (h : fn.results.toList = ts.map ResultVar.tmp) (tmps : Array Value) (w : World) : (results fn tmps).run P w = .ok (match ts.map (fun t => tmps.getD t undef) with | [v] => v | vs => .tuple vs.toArray) w := by
 have h1 : (fn.results.mapM (resF tmps)).run P w = .ok (ts.map fun t => tmps.getD t undef).toArray w := by
  rw [Array.mapM_eq_mapM_toList, h, ← bind_pure_comp, run_bind (resM_run tmps ts w)]
  rfl
 show (do let vs ← fn.results.mapM (resF tmps); pure (if h : vs.size = 1 then vs[0] else .tuple vs) : Sem Value).run P w = _
 rw [run_bind h1]
 cases ts with
 | nil => rfl
 | cons t ts =>
  cases ts with
  | nil => rfl
  | cons t' ts =>
   show Result.ok _ w = Result.ok _ w
   congr 1
theorem res_cell {fn : Func} {a0 : Nat} {t : TypeId} (hr : fn.results.toList = [.cell a0 t]) (tmps : Array Value) (w : World) {v : Value} {b off : Nat} (hx : tmps.getD a0 undef = .pointer (some ⟨b, off, none⟩)) (hl : (Instr.loadAt t (.pointer (some ⟨b, off, none⟩))).run P w = .ok v w) :
  (results fn tmps).run P w = .ok v w := by
 have h0 : (resF tmps (.cell a0 t)).run P w = .ok v w := by
  show (do let a ← asAddr (tmps.getD a0 undef); loadVar t a : Sem Value).run P w = _
  rw [hx]
  exact hl
 have h1 : (fn.results.mapM (resF tmps)).run P w = .ok #[v] w := by
  rw [Array.mapM_eq_mapM_toList, hr, ← bind_pure_comp, List.mapM_cons, List.mapM_nil]
  rw [run_bind (x := [v]) (w' := w) (by rw [run_bind h0]; rfl)]
  rfl
 show (do let vs ← fn.results.mapM (resF tmps); pure (if h : vs.size = 1 then vs[0] else .tuple vs) : Sem Value).run P w = _
 rw [run_bind h1]
 rfl
theorem resY_ok (h : SRel nt Fr H0 m K who σ a w) {x : ResultVar} {y : AV} (hd : Does C (resY P x) σ y σ') : σ' = σ ∧ ∃ v, (resF a.tmps x).run P w = .ok v w ∧ VRep σ a w m K v y := by
 cases x with
 | tmp t =>
  obtain ⟨e1, hy⟩ := h.opd (x := .tmp t) hd
  exact ⟨e1, _, rfl, hy⟩
 | cell a0 t =>
  obtain ⟨y0, σ1, h1, h2⟩ := Does.bind hd
  obtain ⟨e1, hy⟩ := h.opd h1
  rw [e1] at h2
  cases y0 with
  | ptr i off =>
   obtain ⟨e3, v, hl, hv⟩ := loadPr_ok h hy h2
   obtain ⟨b, hb, hx⟩ := hy
   have hx' : a.tmps.getD a0 undef = .pointer (some ⟨b, off, none⟩) := hx
   rw [show a.eval (.tmp a0) = .pointer (some ⟨b, off, none⟩) from hx] at hl
   refine ⟨e3, v, ?_, hv⟩
   show (do let a ← asAddr (a.tmps.getD a0 undef); loadVar t a : Sem Value).run P w = _
   rw [hx']
   exact hl
  | _ => exact (Does.fail h2).elim
theorem Does.mapM_len {α β : Type} {f : α → Pr β} : ∀ {l : List α} {r : List β} {σ σ' : St}, Does C (l.mapM f) σ r σ' → r.length = l.length
 | [], r, σ, σ', hd => by obtain ⟨rfl, _⟩ := Does.mapM_nil hd; rfl
 | x :: l, r, σ, σ', hd => by
  obtain ⟨y, σ1, r', h1, h2, e⟩ := Does.mapM_cons hd
  rw [e, List.length_cons, List.length_cons, Does.mapM_len h2]
theorem resYs_ok (h : SRel nt Fr H0 m K who σ a w) : ∀ {rs : List ResultVar} {ys : List AV} {σ' : St}, Does C (rs.mapM (resY P)) σ ys σ' → σ' = σ ∧ ∃ vs, (List.mapM (resF a.tmps) rs).run P w = .ok vs w ∧ All2 (VRep σ a w m K) vs ys
 | [], ys, σ', hd => by
  obtain ⟨rfl, e⟩ := Does.mapM_nil hd
  exact ⟨e, [], rfl, .nil⟩
 | x :: rs, ys, σ', hd => by
  obtain ⟨y, σ1, r, h1, h2, e⟩ := Does.mapM_cons hd
  obtain ⟨e1, v, hv, hr⟩ := resY_ok h h1
  rw [e1] at h2
  obtain ⟨e2, vs, hvs, hrs⟩ := resYs_ok h h2
  refine ⟨e2, v :: vs, ?_, by rw [e]; exact .cons hr hrs⟩
  rw [List.mapM_cons, run_bind hv, run_bind hvs]
  rfl
theorem results_all {fn : Func} {tmps : Array Value} {vs : List Value} (h : (List.mapM (resF tmps) fn.results.toList).run P w = .ok vs w) (hl : vs.length ≠ 1) : (results fn tmps).run P w = .ok (.tuple vs.toArray) w := by
 have h1 : (fn.results.mapM (resF tmps)).run P w = .ok vs.toArray w := by
  rw [Array.mapM_eq_mapM_toList, ← bind_pure_comp, run_bind h]
  rfl
 show (do let vs ← fn.results.mapM (resF tmps); pure (if h : vs.size = 1 then vs[0] else .tuple vs) : Sem Value).run P w = _
 rw [run_bind h1]
 cases vs with
 | nil => rfl
 | cons t ts =>
  cases ts with
  | nil => exact absurd rfl hl
  | cons t' ts =>
   show Result.ok _ w = Result.ok _ w
   congr 1
theorem resPr_ok {fn : Func} {r : AV} (h : SRel nt Fr H0 m K who σ a w) (hd : Does C (resPr P O fn) σ r σ') :
  ∃ v K' who', (results fn a.tmps).run P w = .ok v w ∧ SRel nt Fr H0 m K' who' σ' a w ∧ K.le K' ∧ ARep w m K' who' (.t 0) v r ∧ r.okAns = true := by
 have fin : ∀ {K' : Kn} {who' : Who} {σ2 : St} {xv : Value}, (r.plain1 || isData r) = true → (results fn a.tmps).run P w = .ok xv w → σ' = σ2 → SRel nt Fr H0 m K' who' σ2 a w → K.le K' → FRep w m K' who' σ2 a (.t 0) 0 xv r →
   ∃ v K' who', (results fn a.tmps).run P w = .ok v w ∧ SRel nt Fr H0 m K' who' σ' a w ∧ K.le K' ∧ ARep w m K' who' (.t 0) v r ∧ r.okAns = true := by
  intro K' who' σ2 xv hp hres he g1 g2 g3
  have hstill : r.okAns = true := by
   cases r with
   | data d => rfl
   | ptr i o => rfl
   | fn f b c => rfl
   | ifc t x => rfl
   | _ => simp [AV.plain1, AV.plain0, isData] at hp
  refine ⟨_, K', who', hres, by rw [he]; exact g1, g2, ?_, hstill⟩
  cases r with
  | data d =>
   obtain ⟨vs, f1, f2, f3⟩ := g3
   cases d with
   | agg ds => exact ⟨vs, f3 rfl, f1⟩
   | val x =>
    simp only [DV.form, Bool.false_eq_true, if_false] at f2
    subst f2
    cases f1 with
    | cons g _ => exact g
   | hole =>
    simp only [DV.form, Bool.false_eq_true, if_false] at f2
    subst f2
    cases f1 with
    | cons g _ => exact g
   | rm _ _ _ =>
    simp only [DV.form, Bool.false_eq_true, if_false] at f2
    subst f2
    cases f1 with
    | cons g _ => exact g
   | capv _ =>
    simp only [DV.form, Bool.false_eq_true, if_false] at f2
    subst f2
    cases f1 with
    | cons g _ => exact g
   | mp kd es =>
    simp only [DV.form, Bool.false_eq_true, if_false] at f2
    subst f2
    cases f1 with
    | cons g _ => exact g
   | slc o nl s es =>
    simp only [DV.form, Bool.false_eq_true, if_false] at f2
    subst f2
    cases f1 with
    | cons g _ => exact g
  | ptr i o => exact g3
  | fn f b c => exact g3
  | ifc t x => exact g3
  | _ => simp [AV.plain1, AV.plain0, isData] at hp
 have taken : ∀ {keep : Bool} {y : AV} {xv : Value} {σ2 : St}, (r.plain1 || isData r) = true → (results fn a.tmps).run P w = .ok xv w → σ' = σ2 → VRep σ a w m K xv y → Does C (take keep y) σ r σ2 →
   ∃ v K' who', (results fn a.tmps).run P w = .ok v w ∧ SRel nt Fr H0 m K' who' σ' a w ∧ K.le K' ∧ ARep w m K' who' (.t 0) v r ∧ r.okAns = true := by
  intro keep y xv σ2 hp hres he hy h3
  cases keep with
  | false =>
   obtain ⟨K', who', g1, g2, g3, g4, g5⟩ := h.take0 hy h3
   refine fin hp hres he g1 g2 ?_
   cases r with
   | data d => exact FRep.of_urep g4.2
   | _ => exact g4
  | true =>
   obtain ⟨who', g1, g3, g4, g5⟩ := h.take1 hy h3 (.t 0) 0
   exact fin hp hres he g1 (Kn.le.refl K) g4
 unfold resPr at hd
 split at hd
 ·rename_i t hr
  obtain ⟨y, σ1, h1, h2⟩ := Does.bind hd
  obtain ⟨e1, hy⟩ := h.opd h1
  rw [e1] at h2
  obtain ⟨z, σ2, h3, h4⟩ := Does.bind h2
  obtain ⟨_, σ3, h5, h6⟩ := Does.bind h4
  obtain ⟨hp, h5'⟩ := Does.must h5
  obtain ⟨rfl, h6'⟩ := Does.pure h6
  have hres := results_run (P := P) (fn := fn) (ts := [t]) (by rw [hr]; rfl) a.tmps w
  exact taken hp hres (by rw [h6', h5']) hy h3
 ·rename_i a0 t hr
  obtain ⟨y, σ1, h1, h2⟩ := Does.bind hd
  obtain ⟨e1, hy⟩ := h.opd h1
  rw [e1] at h2
  cases y with
  | ptr i off =>
   obtain ⟨l, σ2, h3, h4⟩ := Does.bind h2
   obtain ⟨e3, v, hl, hv⟩ := loadPr_ok h hy h3
   rw [e3] at h4
   obtain ⟨z, σ4, h5, h6⟩ := Does.bind h4
   obtain ⟨_, σ5, h7, h8⟩ := Does.bind h6
   obtain ⟨hp, h7'⟩ := Does.must h7
   obtain ⟨rfl, h8'⟩ := Does.pure h8
   obtain ⟨b, hb, hx⟩ := hy
   have hx' : a.tmps.getD a0 undef = .pointer (some ⟨b, off, none⟩) := hx
   rw [show a.eval (.tmp a0) = .pointer (some ⟨b, off, none⟩) from hx] at hl
   exact taken hp (res_cell hr a.tmps w hx' hl) (by rw [h8', h7']) hv h5
  | _ => exact (Does.fail h2).elim
 ·rename_i rs hne hne2
  obtain ⟨_, σ1, h1, h2⟩ := Does.bind hd
  obtain ⟨q1, h1'⟩ := Does.must h1
  rw [h1'] at h2
  obtain ⟨ys, σ3, h5, h6⟩ := Does.bind h2
  obtain ⟨e5, ws, hws, hys⟩ := resYs_ok h h5
  rw [e5] at h6
  obtain ⟨_, σ4, h7, h8⟩ := Does.bind h6
  obtain ⟨q2, h7'⟩ := Does.must h7
  rw [h7'] at h8
  obtain ⟨vs, σ5, h9, h10⟩ := Does.bind h8
  obtain ⟨_, σ6, h11, h12⟩ := Does.bind h10
  obtain ⟨q3, h11'⟩ := Does.must h11
  obtain ⟨rfl, h12'⟩ := Does.pure h12
  obtain ⟨K', who', g1, g2, g3⟩ := takes_ok h hys q2 h9 q3
  have hlen : ws.length ≠ 1 := fun e => by
   have e1 := hys.length
   have e2 : ys.length = fn.results.toList.length := Does.mapM_len h5
   have : fn.results.toList.length = 1 := by omega
   rw [this] at q1
   cases q1
  exact ⟨.tuple ws.toArray, K', who', results_all hws hlen, by rw [h12', h11']; exact g1, g2, ⟨_, rfl, g3⟩, rfl⟩

theorem paramCells_ok : ∀ {n i : Nat} {ps : List (List AV)} {σ' : St}, Does C (paramCells i n) σ ps σ' → σ' = σ ∧ ps.length = n ∧ ∀ k, k < n → (σ (.o (i + k))).live = true ∧ ps[k]? = some (σ (.o (i + k))).vs
 | 0, i, ps, σ', hd => by
  obtain ⟨rfl, e⟩ := Does.pure hd
  exact ⟨e, rfl, fun k hk => absurd hk (Nat.not_lt_zero k)⟩
 | n + 1, i, ps, σ', hd => by
  obtain ⟨c, σ1, h1, h2⟩ := Does.bind hd
  obtain ⟨hc, h1'⟩ := Does.gt h1
  rw [h1'] at h2
  obtain ⟨_, σ2, h3, h4⟩ := Does.bind h2
  obtain ⟨hl, h3'⟩ := Does.must h3
  rw [h3'] at h4
  obtain ⟨_, σ3, h5, h6⟩ := Does.bind h4
  obtain ⟨_, h5'⟩ := Does.must h5
  rw [h5'] at h6
  obtain ⟨r, σ4, h7, h8⟩ := Does.bind h6
  obtain ⟨q1, q2, q3⟩ := paramCells_ok h7
  obtain ⟨rfl, h8'⟩ := Does.pure h8
  refine ⟨by rw [h8', q1], by simp [q2], fun k hk => ?_⟩
  cases k with
  | zero => rw [Nat.add_zero, ← hc]; exact ⟨hl, rfl⟩
  | succ k =>
   have := q3 k (by omega)
   rw [show i + 1 + k = i + (k + 1) by omega] at this
   exact ⟨this.1, by simpa using this.2⟩

theorem ans_rep2 {m5 : Om} {K : Kn} {who5 : Who} {D : Nat} {ρ : Nat → Nat} {v : Value} {r : AV} (hok : r.okAns = true) (hm : ∀ i b, i ∈ r.men → m i = some b → m5 (ρ i) = some b) (hw : ∀ b c, who b = some (.t 0, some c) → who5 b = some (.t D, some c))
  (h : ARep w m K who (.t 0) v r) : ARep w m5 K who5 (.t D) v (r.ren ρ) ∧ (∀ p k c n, r.ren ρ ≠ .ref p k c n) ∧ ∀ p k c i j, r.ren ρ ≠ .eptr p k c i j := by
 cases r with
 | data d => exact ⟨DRep.tag (Kn.le.refl K) (fun b c hb => ⟨hw b c hb, rfl⟩) h, (fun _ _ _ _ e => by cases e), (fun _ _ _ _ _ e => by cases e)⟩
 | ptr i o => exact ⟨ARep1.ren (x := .ptr i o) (Kn.le.refl K) hm h, (fun _ _ _ _ e => by cases e), (fun _ _ _ _ _ e => by cases e)⟩
 | fn f a b => exact ⟨ARep1.ren (x := .fn f a b) (Kn.le.refl K) hm h, (fun _ _ _ _ e => by cases e), (fun _ _ _ _ _ e => by cases e)⟩
 | ifc t x => exact ⟨ARep1.ren (x := .ifc t x) (Kn.le.refl K) hm h, (fun _ _ _ _ e => by cases e), (fun _ _ _ _ _ e => by cases e)⟩
 | tup xs =>
  obtain ⟨vs, e, h⟩ := h
  exact ⟨⟨vs, e, h.map_right_mem _ fun v x hx hr => hr.ren (Kn.le.refl K) fun i b hi => hm i b (by simp only [AV.men, List.mem_flatMap]; exact ⟨x, hx, hi⟩)⟩, (fun _ _ _ _ e => by cases e), (fun _ _ _ _ _ e => by cases e)⟩
 | _ => cases hok

def whoF (who : Who) (ls : List Nat) : Who := fun b => match who b with
 | some (.o i, x) => if i ∈ ls then some (.o (idx ls i), x) else none
 | some (.t 0, x) => some (.t 0, x)
 | some (.t (_ + 1), _) => none
 | none => none
theorem whoF_obj {ls : List Nat} {i : Nat} {x : Option Nat} {b : Nat} (h : who b = some (.o i, x)) (hi : i ∈ ls) : whoF who ls b = some (.o (idx ls i), x) := by simp [whoF, h, hi]
theorem SRel.finish (h : SRel nt Fr H0 m K who σ a w) {ls : List Nat} {os : List (List AV)} (hh : Hands σ ls os) {r : AV} {v : Value} (hr : ARep w m K who (.t 0) v r) (hok : r.okAns = true) (hx : ∀ i, i ∈ r.men → i ∈ ls) :
  SRel 1 Fr H0 (m2 m ls) K (whoF who ls) (entry [r.ren (idx ls)] (os.map fun vs => vs.map (AV.ren (idx ls)))) ⟨#[v], []⟩ w := by
 obtain ⟨a1, a2, a3⟩ := ans_rep2 (m5 := m2 m ls) (who5 := whoF who ls) (D := 0) (ρ := idx ls) hok (fun i b hi hb => by rw [m2_idx (hx i hi)]; exact hb) (fun b c hb => by simp [whoF, hb]) hr
 refine ⟨rfl, rfl, fun t => ?_, fun t p k c nn ht => ?_, fun t p k c i j ht => ?_, fun i hl => ?_, fun i b hi => ?_, fun b o v hv => ?_, fun b x hb => ?_, fun b hb => ?_, h.ws⟩
 ·cases t with
  | zero => exact ⟨_, rfl, a1⟩
  | succ t => exact ⟨.dead, by simp [entry], trivial⟩
 ·cases t with
  | zero => simp [entry] at ht; exact absurd ht (a2 p k c nn)
  | succ t => simp [entry] at ht
 ·cases t with
  | zero => simp [entry] at ht; exact absurd ht (a3 p k c i j)
  | succ t => simp [entry] at ht
 ·obtain ⟨l1, l2⟩ := entry_live hl
  rw [List.length_map, hh.len] at l2
  have hk := List.getElem?_eq_getElem l2
  obtain ⟨q1, q2⟩ := hh.at' _ _ hk
  obtain ⟨b, cs, el, g1, g2, g3⟩ := h.ob _ q1
  have hmem := List.mem_of_getElem? hk
  have hix : idx ls ls[i - 1000] = i := by rw [idx_of hh.nd hk]; omega
  refine ⟨b, cs, el, by rw [← hix, m2_idx hmem]; exact g1, g2, ?_⟩
  have he : entry [r.ren (idx ls)] (os.map fun vs => vs.map (AV.ren (idx ls))) (.o (1000 + (i - 1000))) = ⟨(σ (.o ls[i - 1000])).vs.map (AV.ren (idx ls)), true, 0⟩ := entry_at (by rw [List.getElem?_map, q2]; rfl)
  rw [show 1000 + (i - 1000) = i by omega] at he
  rw [he]
  refine BReps.ren (Kn.le.refl K) (fun b' c hb' => ⟨?_, rfl⟩) (fun x hx' j b' hj hb' => ?_) g3
  ·rw [whoF_obj hb' hmem, hix]
  ·rw [m2_idx (hh.cl _ hmem x hx' j hj)]; exact hb'
 ·unfold m2 at hi
  split at hi
  ·rename_i hc
   rw [List.getElem?_eq_getElem hc.2] at hi
   have hg := List.getElem?_eq_getElem hc.2
   obtain ⟨g1, g2⟩ := h.om _ b hi
   have hix := idx_of hh.nd hg
   refine ⟨?_, ?_⟩
   ·simp only [entry]
    rw [if_neg (by omega), List.getElem?_map, (hh.at' _ _ hg).2]; rfl
   ·rw [whoF_obj g2 (List.mem_of_getElem? hg), hix]
    have : 1000 + (i - 1000) = i := by omega
    rw [this]
  ·cases hi
 ·obtain ⟨g1, g2⟩ := h.kv b o v hv
  exact ⟨by simp [whoF, g1], g2⟩
 ·unfold whoF at hb
  cases hw : who b with
  | none => rw [hw] at hb; cases hb
  | some y => exact h.wh b y hw
 ·obtain ⟨g1, g2, g3⟩ := h.fr b hb
  refine ⟨g1, g2, ?_⟩
  rw [← g3]
  cases hw : who b with
  | none => simp [whoF, hw]
  | some y =>
   rw [hw] at g3
   have := hidW_t g3.symm
   subst this
   simp [whoF, hw]

theorem fin_ok {fn : Func} {n : Nat} {ans : Answer} (h : SRel nt Fr H0 m K who σ a w) (hd : Does C (finPr P O fn n) σ ans σ') :
  ∃ v m' K' who', (results fn a.tmps).run P w = .ok v w ∧ SRel 1 Fr H0 m' K' who' (entry [ans.r] ans.objs) ⟨#[v], []⟩ w ∧ K.le K' ∧ ∀ i b, 1000 ≤ i → i < 1000 + n → m' i = some b → m i = some b := by
 obtain ⟨r, σ1, h1, h2⟩ := Does.bind hd
 obtain ⟨v, K', who', g1, g2, g3, g4, g5⟩ := resPr_ok (P := P) h h1
 obtain ⟨ps, σ2, h3, h4⟩ := Does.bind h2
 obtain ⟨e3, p1, p2⟩ := paramCells_ok h3
 rw [e3] at h4
 obtain ⟨g, σ3, h5, h6⟩ := Does.bind h4
 obtain ⟨_, hg, hin, _⟩ := gather_ok (C := C) (acc := []) ⟨fun x hx => by simp at hx, by simp, fun x hx => by simp at hx⟩ h5
 obtain ⟨rfl, _⟩ := Does.pure h6
 have hmemg : ∀ i, i ∈ g.map (·.1) → i ∈ (List.range n).map (1000 + ·) ++ (g.filter fun x => notParam n x.1).map (·.1) := fun i hi => by
  rw [List.mem_append]
  cases hp : notParam n i with
  | true =>
   right
   obtain ⟨x, hx, rfl⟩ := List.mem_map.1 hi
   exact List.mem_map.2 ⟨x, List.mem_filter.2 ⟨hx, hp⟩, rfl⟩
  | false =>
   left
   simp only [notParam, Bool.not_eq_false', Bool.and_eq_true, decide_eq_true_eq] at hp
   exact List.mem_map.2 ⟨i - 1000, List.mem_range.2 hp.2, by omega⟩
 have hlenR : ((List.range n).map (1000 + ·)).length = n := by simp
 have hrange : ∀ k i, ((List.range n).map (1000 + ·))[k]? = some i → i = 1000 + k ∧ k < n := fun k i hk => by
  rw [List.getElem?_map, Option.map_eq_some_iff] at hk
  obtain ⟨j, hj, rfl⟩ := hk
  have hlt := (List.getElem?_eq_some_iff.1 hj).1
  rw [List.getElem?_range (by simpa using hlt)] at hj
  cases hj
  exact ⟨rfl, by simpa using hlt⟩
 have hh : Hands σ1 ((List.range n).map (1000 + ·) ++ (g.filter fun x => notParam n x.1).map (·.1)) (ps ++ (g.filter fun x => notParam n x.1).map (·.2.vs)) := by
  refine ⟨by simp [p1], fun k i hk => ?_, ?_, fun i hi x hx j hj => ?_⟩
  ·by_cases hkn : k < n
   ·rw [List.getElem?_append_left (by simpa using hkn)] at hk
    obtain ⟨rfl, _⟩ := hrange k i hk
    rw [List.getElem?_append_left (by omega)]
    exact p2 k hkn
   ·rw [List.getElem?_append_right (by simp; omega), hlenR] at hk
    rw [List.getElem?_append_right (by omega), p1]
    rw [List.getElem?_map, Option.map_eq_some_iff] at hk
    obtain ⟨x, hx, rfl⟩ := hk
    obtain ⟨e1, e2⟩ := hg.at' x (List.mem_filter.1 (List.mem_of_getElem? hx)).1
    rw [← e1]
    exact ⟨e2, by rw [List.getElem?_map, hx]; rfl⟩
  ·rw [List.nodup_append]
   refine ⟨?_, ?_, fun i hi j hj e => ?_⟩
   ·unfold List.Nodup
    rw [List.pairwise_map]
    exact List.nodup_range.imp fun hne e => hne (by omega)
   ·exact hg.nd.sublist (List.Sublist.map _ List.filter_sublist)
   ·subst e
    obtain ⟨k, hk, rfl⟩ := List.mem_map.1 hi
    obtain ⟨x, hx, e⟩ := List.mem_map.1 hj
    have := (List.mem_filter.1 hx).2
    rw [e] at this
    have hk := List.mem_range.1 hk
    simp [notParam] at this
    omega
  ·rcases List.mem_append.1 hi with hi | hi
   ·obtain ⟨k, hk, rfl⟩ := List.mem_map.1 hi
    have hk := List.mem_range.1 hk
    refine hmemg j (hin j (List.mem_append_right _ ?_))
    exact List.mem_flatMap.2 ⟨x, List.mem_flatten.2 ⟨_, List.mem_of_getElem? (p2 k hk).2, hx⟩, hj⟩
   ·obtain ⟨y, hy, rfl⟩ := List.mem_map.1 hi
    have hy := (List.mem_filter.1 hy).1
    rw [← (hg.at' y hy).1] at hx
    rcases hg.cl y hy x hx j hj with q | q
    ·exact hmemg j q
    ·simp at q
 have hf := g2.finish hh g4 g5 (fun i hi => hmemg i (hin i (List.mem_append_left _ hi)))
 refine ⟨v, _, K', _, g1, hf, g3, fun i b i1 i2 hi => ?_⟩
 unfold m2 at hi
 split at hi
 ·rename_i hc
  rw [List.getElem?_append_left (by simp; omega)] at hi
  rw [List.getElem?_map, List.getElem?_range (by omega)] at hi
  simp at hi
  rw [show 1000 + (i - 1000) = i by omega] at hi
  exact hi
 ·cases hi
end
end Go.Proofs.Ytknkeabmjleoiaa.Vam
/- The machine by value and the model: functions. -/
namespace Go.Proofs.Ytknkeabmjleoiaa.Vam
open Go
set_option linter.unusedVariables false
set_option linter.unusedSimpArgs false
section
variable {P : Program} {C : Query → Answer → Prop} {nt : Nat} {Fr : Nat → Prop} {H0 : Hd} {m : Om} {K : Kn} {who : Who} {σ σ' : St} {a : Act} {w : World}

theorem entry_put {args1 args2 : List AV} {x y : AV} {objs : List (List AV)} : entry (args1 ++ y :: args2) objs = (entry (args1 ++ x :: args2) objs).put (.t args1.length) ⟨[y], true, 0⟩ := by
 funext p
 by_cases h : p = .t args1.length
 ·subst h
  rw [St.put_same]
  simp [entry]
 ·rw [St.put_ne _ _ h]
  cases p with
  | o i => rfl
  | t i =>
   have hi : i ≠ args1.length := fun e => h (by rw [e])
   simp only [entry, List.getD_eq_getElem?_getD]
   congr 3
   rcases Nat.lt_or_gt_of_ne hi with g | g
   ·rw [List.getElem?_append_left g, List.getElem?_append_left g]
   ·rw [List.getElem?_append_right (by omega), List.getElem?_append_right (by omega)]
    obtain ⟨d, hd⟩ : ∃ d, i - args1.length = d + 1 := ⟨i - args1.length - 1, by omega⟩
    rw [hd]; rfl
theorem asks_ok (hC : ∀ q r, C q r → Okay P q r) {q : Query} {r : Answer} (h : Asks C q r) : Okay P q r := by
 induction h with
 | of h => exact hC _ _ h
 | @nil f args1 args2 objs sz es r h1 h2 ih1 ih2 =>
  obtain ⟨fn, hf, hb, hn, hM⟩ := (okay_m (mapQ_mid (by intro _ _ e; cases e))).1 ih2
  refine (okay_m (mapQ_mid (by intro _ _ e; cases e))).2 ⟨fn, hf, hb, hn, fun Fr H0 m K who vs w hl h => ?_⟩
  obtain ⟨x, hx, hr⟩ := h.tm args1.length
  have hx' : x = .data (.slc false none sz es) := by
   simp [entry] at hx
   exact hx.symm
  subst hx'
  have hcr : CRep K ((enterAct fn.ntmps vs).tmps.getD args1.length undef) (.slc false none sz es) := hr.1 rfl
  have mk : ∀ nl, CRep K ((enterAct fn.ntmps vs).tmps.getD args1.length undef) (.slc false nl sz es) → SRel fn.ntmps Fr H0 m K who (entry (args1 ++ .data (.slc false nl sz es) :: args2) objs) (enterAct fn.ntmps vs) w := fun nl hc => by
   rw [entry_put (x := .data (.slc false none sz es))]
   refine h.repT (.inr ⟨rfl, fun c own nl' sz' es' e => ?_⟩) (CO.ofC hc) ⟨(fun _ _ _ _ => by simp), (fun _ _ _ _ _ => by simp)⟩
   rw [hx]
   cases c with
   | zero => simp [cellAt, DV.cells] at e ⊢; obtain ⟨_, _, e3, _⟩ := e; exact e3
   | succ c => simp [cellAt, DV.cells] at e
  generalize hv : (enterAct fn.ntmps vs).tmps.getD args1.length undef = v at hcr mk
  have two : CRep K v (.slc false (some false) sz es) ∨ (es = [] ∧ CRep K v (.slc false (some true) sz [])) := by
   cases hcr with
   | nil _ => exact .inr ⟨rfl, .nil (by simp)⟩
   | slc us g1 g2 g3 g4 g5 => exact .inl (.slc us (by simp) g2 g3 g4 g5)
   | empty _ => exact .inl (.empty (by simp))
  rcases two with g | ⟨rfl, g⟩
  ·exact hM Fr H0 m K who vs w (by simpa using hl) (mk _ g)
  ·obtain ⟨fn', hf', _, _, hM'⟩ := (okay_m (mapQ_mid (by intro _ _ e; cases e))).1 (ih1 rfl)
   have : fn' = fn := by
    have : some fn' = some fn := hf'.symm.trans hf
    cases this; rfl
   subst this
   exact hM' Fr H0 m K who vs w (by simpa using hl) (mk _ g)

 | @fg f args1 args2 objs nl sz es r h1 ih =>
  obtain ⟨fn, hf, hb, hn, hM⟩ := (okay_m (mapQ_mid (by intro _ _ e; cases e))).1 ih
  refine (okay_m (mapQ_mid (by intro _ _ e; cases e))).2 ⟨fn, hf, hb, hn, fun Fr H0 m K who vs w hl h => hM Fr H0 m K who vs w (by simpa using hl) ?_⟩
  obtain ⟨x, hx, hr⟩ := h.tm args1.length
  have hx' : x = .data (.slc false nl sz es) := by
   simp [entry] at hx
   exact hx.symm
  subst hx'
  have hcr : CRep K ((enterAct fn.ntmps vs).tmps.getD args1.length undef) (.slc false none sz es) := CRep.norm (hr.1 rfl) (.inl rfl)
  rw [entry_put (x := .data (.slc false nl sz es))]
  refine h.repT (.inr ⟨rfl, fun c own nl' sz' es' e => ?_⟩) (CO.ofC hcr) ⟨(fun _ _ _ _ => by simp), (fun _ _ _ _ _ => by simp)⟩
  rw [hx]
  cases c with
  | zero => simp [cellAt, DV.cells] at e ⊢; obtain ⟨_, _, e3, _⟩ := e; exact e3
  | succ c => simp [cellAt, DV.cells] at e
 | @rm f args1 args2 objs n sz es es' r hp he h1 ih =>
  subst he
  obtain ⟨fn, hf, hb, hn, hM⟩ := (okay_m (mapQ_mid (by intro _ _ e; cases e))).1 ih
  refine (okay_m (mapQ_mid (by intro _ _ e; cases e))).2 ⟨fn, hf, hb, hn, fun Fr H0 m K who vs w hl h => hM Fr H0 m K who vs w (by simpa using hl) ?_⟩
  obtain ⟨x, hx, hr⟩ := h.tm args1.length
  have hx' : x = .data (.rm n sz es) := by
   simp [entry] at hx
   exact hx.symm
  subst hx'
  obtain ⟨_, _, _, _, _, _, hcr⟩ := CRep.rm_full (hr.1 rfl)
  rw [entry_put (x := .data (.rm n sz es))]
  refine h.repE rfl (CO.ofC hcr) ⟨(fun _ _ _ _ => by simp), (fun _ _ _ _ _ => by simp)⟩ fun t' k' c i j e => ?_
  simp only [entry, List.cons.injEq, and_true] at e
  have hmem : AV.eptr (.t args1.length) k' c i j ∈ args1 ++ .data (.rm n sz es) :: args2 := by
   rw [List.getD_eq_getElem?_getD] at e
   cases hq : (args1 ++ .data (.rm n sz es) :: args2)[t']? with
   | none => rw [hq] at e; cases e
   | some y => rw [hq] at e; exact e ▸ List.mem_of_getElem? hq
  have hpl : ∀ y ∈ args1 ++ args2, y.plain1 = true := List.all_eq_true.1 hp
  rcases List.mem_append.1 hmem with g | g
  ·have := hpl _ (List.mem_append_left _ g); cases this
  ·rcases List.mem_cons.1 g with g | g
   ·cases g
   ·have := hpl _ (List.mem_append_right _ g); cases this
theorem runF_ok (hm : P.follows .mixedOrders = true) {os : FuncId → Nat → Nat} {E : Query → Answer → Prop} (hE : ∀ q r, E q r → Okay P q r) : ∀ {n : Nat} {q : Query} {r : Answer}, RunF P os E n q r → Okay P q r
 | 0, q, r, h => hE q r h
 | n + 1, q, r, h => by
  rcases h with h | ⟨fn, code, σ, e, R, W, σ', hf, hb, hn, hc, ho, hr, he, hx, hmq⟩
  ·exact hE q r h
  ·refine (okay_m hmq).2 ⟨fn, hf, by rw [hb]; rfl, hn, fun Fr H0 m K who vs w hl h => ?_⟩
   rw [Bool.and_eq_true] at hc
   have hnt := of_decide_eq_true hc.1
   have ho := of_decide_eq_true ho
   have hsz : (vs.toArray ++ Array.replicate (fn.ntmps - vs.toArray.size) undef) = (enterAct fn.ntmps vs).tmps := by simp [enterAct]
   refine calls_of_wp hf hb ?_
   rw [hsz]
   refine cwp_wp (run_ok hm (fun q r h => asks_ok (fun q r h => runF_ok hm hE h) h) hnt hr hc.2 h fun m' K' who' a' w' g1 g2 g3 => ?_)
   obtain ⟨v, m'', K'', who'', r1, r2, r3, r4⟩ := fin_ok (P := P) g1 ⟨R, W, hx⟩
   have hres : bodyPost P fn (fun e w' => ∃ v m' K' who', e = .returned v ∧ SRel 1 Fr H0 m' K' who' (entry [r.r] r.objs) ⟨#[v], []⟩ w' ∧ K.le K' ∧ ∀ i b, 1000 ≤ i → i < 1000 + q.objs.length → m' i = some b → m i = some b) .ret a' w' :=
    ⟨g1.df, v, r1, v, m'', K'', who'', rfl, r2, g2.trans r3, fun i b i1 i2 hi => g3 i b i1 (by omega) (r4 i b i1 i2 hi)⟩
   rcases he with rfl | rfl
   ·exact hres
   ·exact hres
end
end Go.Proofs.Ytknkeabmjleoiaa.Vam
/- The machine by value and the model: a law is called. -/
namespace Go.Proofs.Ytknkeabmjleoiaa.Vam
open Go Go.RowKit
set_option linter.unusedVariables false
set_option linter.unusedSimpArgs false
section
variable {P : Program} {w : World}

theorem top0 (w : World) : SRel 0 (fun _ => False) ⟨fun _ => none, w⟩ (fun _ => none) (fun _ _ => none) (fun _ => none) (entry [] []) ⟨#[], []⟩ w := by
 refine ⟨rfl, rfl, fun t => ⟨.dead, by simp [entry], trivial⟩, fun t p k c n ht => by simp [entry] at ht, fun t p k c i j ht => by simp [entry] at ht, fun i hl => ?_, fun i b hi => (by cases hi), fun b o v hv => (by cases hv), fun b x hx => (by cases hx), fun b hb => hb.elim, WSame.refl w⟩
 have := (entry_live hl).2
 simp at this
theorem law_calls {f : FuncId} {ds : List DV} {b : Bool} {vs : List Value} (hM : Meets P ⟨f, ds.map AV.data, []⟩ ⟨.data (.val (.bool b)), []⟩) (hn : ∀ fn, P.funcs[f]? = some fn → ds.length ≤ fn.ntmps) (hv : All2 (URep (Kall w)) vs ds) :
  Calls P f vs.toArray w fun e w' => e = .returned (.bool b) ∧ Below w.heap.size w w' := by
 obtain ⟨fn, hf, _, _, hM⟩ := hM
 have hv' : All2 (ARep1 (fun _ => none) (Kall w)) vs (ds.map AV.data) := hv.map_right AV.data fun a b h => h
 have hp : (ds.map AV.data).all AV.plain1 = true := by
  rw [List.all_map, List.all_eq_true]
  intro d hd
  obtain ⟨i, hi⟩ := List.getElem?_of_mem hd
  obtain ⟨v, _, hr⟩ := hv.get hi
  show (!d.owned) = true
  rw [urep_owned hr]; rfl
 have hent := (top0 w).enterQ (n := fn.ntmps) hv' hp (fun x hx i hi => by
  obtain ⟨d, _, rfl⟩ := List.mem_map.1 hx
  cases hi) (by simpa using hn fn hf)
 have hmap : (ds.map AV.data).map (AV.ren (idx [])) = ds.map AV.data := by rw [List.map_map]; rfl
 rw [hmap] at hent
 refine Calls.mono (hM _ _ _ _ _ vs w (by simpa using hv.length) hent) fun e w' he => ?_
 obtain ⟨v, m', K', who', rfl, g1, g2, g3⟩ := he
 obtain ⟨x, hx1, hx2⟩ := g1.tm 0
 simp only [entry, List.getD_cons_zero, List.cons.injEq, and_true] at hx1
 subst hx1
 have hv : v = .bool b := urep_val (DRep.unowned hx2 rfl)
 refine ⟨by rw [hv], ⟨g1.ws.os, g1.ws.tape, g1.ws.output, g1.ws.size, fun k hk => ?_⟩⟩
 have := (g1.fr k hk).1
 have h1 : 2 * k % 2 = 0 := by omega
 simpa [h1] using this
end
end Go.Proofs.Ytknkeabmjleoiaa.Vam
/- The machine by value: how the walk of a told function is put together, piece by piece. -/
namespace Go.Proofs.Ytknkeabmjleoiaa.Vam
open Go
set_option linter.unusedVariables false

inductive Hs : List Prop → Prop where
 | nil : Hs []
 | cons {p : Prop} {ps : List Prop} : p → Hs ps → Hs (p :: ps)
def conjL : List Prop → Prop → Prop
 | [], q => q
 | p :: ps, q => p ∧ conjL ps q
theorem Hs.conj {ps : List Prop} {q : Prop} (h : Hs ps) (hq : q) : conjL ps q := by
 induction h with
 | nil => exact hq
 | cons h _ ih => exact ⟨h, ih⟩
def vsL (l : List (Pl × List AV)) : List (List AV) := l.map fun e => e.2
def WkC (σ : St) (l : List (Pl × List AV)) : Prop := (l.map fun e => fgTo e.1 e.2 (nrm σ (σ e.1).vs)) = vsL l ∧ (l.all fun e => (σ e.1).live) = true ∧ wfL l = true
def tailC (l : List (Pl × List AV)) : Prop := vsL l = vsL l ∧ true = true ∧ true = true
theorem tailC_ok (l : List (Pl × List AV)) : tailC l := ⟨rfl, rfl, rfl⟩
theorem WkC.weak {σ : St} {l : List (Pl × List AV)} (h : WkC σ l) : Weak σ l := ⟨h.1, h.2.1, h.2.2⟩
theorem wk_of {σ : St} {l : List (Pl × List AV)} (h : tailC l = WkC σ l) : Weak σ l := (cast h (tailC_ok l)).weak

def cL : Code → Code
 | .seq x _ => x
 | _ => .skip
def cR : Code → Code
 | .seq _ y => y
 | _ => .skip
def cT : Code → Code
 | .cond _ x _ => x
 | _ => .skip
def cE : Code → Code
 | .cond _ _ y => y
 | _ => .skip
def cB : Code → Code
 | .block _ x => x
 | .loop x => x
 | _ => .skip
def isSeq : Code → Bool
 | .seq _ _ => true
 | _ => false
def isSkip : Code → Bool
 | .skip => true
 | .label _ => true
 | _ => false
def isRet : Code → Bool
 | .ret => true
 | _ => false
def isExit (n : Nat) : Code → Bool
 | .exit m => Nat.beq m n
 | _ => false
def isBlock (n : Nat) : Code → Bool
 | .block m _ => Nat.beq m n
 | _ => false
def isLoop : Code → Bool
 | .loop _ => true
 | _ => false
inductive Kt where
 | seq (c : Code)
 | blk (n : Nat)
 | lp (c : Code)
inductive Tg where
 | code (c : Code) (ks : List Kt)
 | fin (e : Way)
def pop : List Kt → Way → Tg
 | [], e => .fin e
 | .seq y :: ks, .normal => .code y ks
 | .seq _ :: ks, .exit m => pop ks (.exit m)
 | .seq _ :: ks, .ret => pop ks .ret
 | .blk n :: ks, .exit m => bif Nat.beq m n then pop ks .normal else pop ks (.exit m)
 | .blk _ :: ks, .normal => pop ks .normal
 | .blk _ :: ks, .ret => pop ks .ret
 | .lp y :: ks, .normal => .code y ks
 | .lp _ :: ks, .exit m => pop ks (.exit m)
 | .lp _ :: ks, .ret => pop ks .ret
section
variable (P : Program) (O : Nat → Nat) (C : Query → Answer → Prop)
def WKe : List Kt → Way → St → (Way → St → Prop) → Prop
 | [], e, σ, F => F e σ
 | .seq y :: ks, .normal, σ, F => ∃ e τ, Run P O C y σ e τ ∧ WKe ks e τ F
 | .seq _ :: ks, .exit m, σ, F => WKe ks (.exit m) σ F
 | .seq _ :: ks, .ret, σ, F => WKe ks .ret σ F
 | .blk n :: ks, .exit m, σ, F => bif Nat.beq m n then WKe ks .normal σ F else WKe ks (.exit m) σ F
 | .blk _ :: ks, .normal, σ, F => WKe ks .normal σ F
 | .blk _ :: ks, .ret, σ, F => WKe ks .ret σ F
 | .lp y :: ks, .normal, σ, F => ∃ e τ, Run P O C y σ e τ ∧ WKe ks e τ F
 | .lp _ :: ks, .exit m, σ, F => WKe ks (.exit m) σ F
 | .lp _ :: ks, .ret, σ, F => WKe ks .ret σ F
def WK (c : Code) (ks : List Kt) (σ : St) (F : Way → St → Prop) : Prop := ∃ e τ, Run P O C c σ e τ ∧ WKe P O C ks e τ F
def regS (c : Code) (l : List (Pl × List AV)) (g : List Gv) (l' : List (Pl × List AV)) : Prop := match c with
 | .region _ ops d => regW P O C ops d (ofL l) g fun τ => WkC τ l'
 | _ => False
end
section
variable {P : Program} {O : Nat → Nat} {C : Query → Answer → Prop} {c y : Code} {ks ks' : List Kt} {σ : St} {F : Way → St → Prop} {l l' : List (Pl × List AV)}
theorem WKe.code : ∀ {ks : List Kt} {e : Way}, pop ks e = .code y ks' → WK P O C y ks' σ F → WKe P O C ks e σ F
 | [], e, h, _ => by cases h
 | .seq z :: ks, .normal, h, hk => by cases h; exact hk
 | .seq z :: ks, .exit m, h, hk => WKe.code (ks := ks) h hk
 | .seq z :: ks, .ret, h, hk => WKe.code (ks := ks) h hk
 | .blk n :: ks, .exit m, h, hk => by
  simp only [pop] at h
  simp only [WKe]
  cases hb : Nat.beq m n with
  | true => rw [hb] at h; exact WKe.code (ks := ks) h hk
  | false => rw [hb] at h; exact WKe.code (ks := ks) h hk
 | .blk n :: ks, .normal, h, hk => WKe.code (ks := ks) h hk
 | .blk n :: ks, .ret, h, hk => WKe.code (ks := ks) h hk
 | .lp z :: ks, .normal, h, hk => by cases h; exact hk
 | .lp z :: ks, .exit m, h, hk => WKe.code (ks := ks) h hk
 | .lp z :: ks, .ret, h, hk => WKe.code (ks := ks) h hk
theorem WKe.fin : ∀ {ks : List Kt} {e e' : Way}, pop ks e = .fin e' → F e' σ → WKe P O C ks e σ F
 | [], e, e', h, hk => by cases h; exact hk
 | .seq z :: ks, .normal, e', h, hk => by cases h
 | .seq z :: ks, .exit m, e', h, hk => WKe.fin (ks := ks) h hk
 | .seq z :: ks, .ret, e', h, hk => WKe.fin (ks := ks) h hk
 | .blk n :: ks, .exit m, e', h, hk => by
  simp only [pop] at h
  simp only [WKe]
  cases hb : Nat.beq m n with
  | true => rw [hb] at h; exact WKe.fin (ks := ks) h hk
  | false => rw [hb] at h; exact WKe.fin (ks := ks) h hk
 | .blk n :: ks, .normal, e', h, hk => WKe.fin (ks := ks) h hk
 | .blk n :: ks, .ret, e', h, hk => WKe.fin (ks := ks) h hk
 | .lp z :: ks, .normal, e', h, hk => by cases h
 | .lp z :: ks, .exit m, e', h, hk => WKe.fin (ks := ks) h hk
 | .lp z :: ks, .ret, e', h, hk => WKe.fin (ks := ks) h hk
theorem WK.seq (hs : isSeq c = true) (h : WK P O C (cL c) (.seq (cR c) :: ks) σ F) : WK P O C c ks σ F := by
 cases c with
 | seq x z =>
  obtain ⟨e, τ, h1, h2⟩ := h
  cases e with
  | normal => obtain ⟨e', τ', h3, h4⟩ := h2; exact ⟨e', τ', .seqN h1 h3, h4⟩
  | exit m => exact ⟨_, _, .seqX h1 (by intro g; cases g), h2⟩
  | ret => exact ⟨_, _, .seqX h1 (by intro g; cases g), h2⟩
 | _ => cases hs
theorem regS_run {As : List Prop} {g : List Gv} (hH : Hs As) (hr : conjL As (tailC l') = regS P O C c l g l') : ∃ τ, Run P O C c (ofL l) .normal τ ∧ Weak τ l' := by
 have h := cast hr (hH.conj (tailC_ok l'))
 cases c with
 | region n ops d =>
  obtain ⟨τ, h1, h2⟩ := regW_sound P O C h
  exact ⟨τ, .region h1, h2.weak⟩
 | _ => exact h.elim
theorem WK.weak (hw : Weak σ l) (h : WK P O C c ks (ofL l) F) : WK P O C c ks σ F := by
 obtain ⟨e, τ, h1, h2⟩ := h
 exact ⟨e, τ, .weak l hw h1, h2⟩
def shrS (C : Query → Answer → Prop) (x : Operand) (l l' : List (Pl × List AV)) : Prop := (do take false (← opd x) : Pr AV).w C (ofL l) [] [] [] fun _ τ _ _ _ => WkC τ l'
theorem WK.share {x : Operand} (hr : tailC l' = shrS C x l l') (hk : WK P O C c ks (ofL l') F) : WK P O C c ks (ofL l) F := by
 have hs : shrS C x l l' := cast hr (tailC_ok l')
 obtain ⟨a, σ', g', R, W, h1, h2⟩ := Pr.w_sound C _ hs
 obtain ⟨e, τ, h3, h4⟩ := WK.weak h2.weak hk
 exact ⟨e, τ, .share h1 h3, h4⟩
def swpS (C : Query → Answer → Prop) (t u : Nat) (d : DV) (l l' : List (Pl × List AV)) : Prop := (take true (.ref (.t t) 0 0 none)).w C (ofL l) [] [] [] fun z σ1 _ _ _ => z = .data d ∧ WkC ((σ1.put (.t u) ⟨[.data d], true, (σ1 (.t u)).k + 1⟩).put (.t t) ⟨[.ref (.t u) ((σ1 (.t u)).k + 1) 0 none], true, (σ1 (.t t)).k + 1⟩) l'
theorem WK.swap {t u : Nat} {d : DV} (h1 : (ofL l (.t u)).vs = [.ref (.t t) 0 0 none]) (h2 : (ofL l (.t t)).vs = [.data d]) (h3 : d.cell = true) (h4 : Nat.beq t u = false) (hr : (AV.data d = .data d ∧ tailC l') = swpS C t u d l l') (hk : WK P O C c ks (ofL l') F) : WK P O C c ks (ofL l) F := by
 have hs : swpS C t u d l l' := cast hr ⟨rfl, tailC_ok l'⟩
 obtain ⟨a, σ', g', R, W, h5, h6, h7⟩ := Pr.w_sound C _ hs
 obtain ⟨e, τ, h8, h9⟩ := WK.weak h7.weak hk
 subst h6
 exact ⟨e, τ, .swap h5 h1 h2 h3 h4 h8, h9⟩
theorem WK.nilk {α : Type} {t sz : Nat} {own : Bool} {en : α → List DV} {L : List α} (h0 : (ofL l (.t t)).vs = [.data (.slc own none sz (List.map en L))]) (h1 : (!L.isEmpty) = true)
  (h7 : Weak ((ofL l).put (.t t) ⟨[.data (.slc own (some L.isEmpty) sz (List.map en L))], true, (ofL l (.t t)).k + 1⟩) l') (hk : WK P O C c ks (ofL l') F) : WK P O C c ks (ofL l) F := by
 obtain ⟨e, τ, h8, h9⟩ := WK.weak h7 hk
 exact ⟨e, τ, .nilk h0 (by simpa using h1) (by cases L <;> simp_all) h8, h9⟩
def shrO (C : Query → Answer → Prop) (i cc : Nat) (l l' : List (Pl × List AV)) : Prop := (take false (.ref (.o i) 0 cc none)).w C (ofL l) [] [] [] fun _ τ _ _ _ => WkC τ l'
theorem WK.shareO {i cc : Nat} (h0 : (ofL l (.o i)).live = true) (h1 : Nat.blt cc (ofL l (.o i)).vs.length = true) (hr : tailC l' = shrO C i cc l l') (hk : WK P O C c ks (ofL l') F) : WK P O C c ks (ofL l) F := by
 have hs : shrO C i cc l l' := cast hr (tailC_ok l')
 obtain ⟨a, σ', g', R, W, h1', h2⟩ := Pr.w_sound C _ hs
 obtain ⟨e, τ, h3, h4⟩ := WK.weak h2.weak hk
 exact ⟨e, τ, .shareO h0 (by rw [Nat.blt_eq] at h1; exact h1) h1' h3, h4⟩
theorem WK.freeze {t i : Nat} {ds : List DV} {l1 : List (Pl × List AV)} (h1 : ((ofL l) (.t t)).vs = [.ptr i 0]) (h2 : ((ofL l) (.o i)).vs = ds.map AV.data) (h3 : ((ofL l) (.o i)).live = true) (h4 : ds.all (fun d => !d.owned1 && d.cell) = true)
  (h5 : Weak (ofL l) l1) (h6 : hasO l1 i = false) (h7 : Weak ((ofL l1).put (.t t) ⟨[.cptr ds], true, 1⟩) l') (hk : WK P O C c ks (ofL l') F) : WK P O C c ks (ofL l) F := by
 obtain ⟨e, τ, h8, h9⟩ := WK.weak h7 hk
 exact ⟨e, τ, .freeze l1 h1 h2 h3 h4 h5 h6 h8, h9⟩
theorem WK.rs {As : List Prop} {g : List Gv} (hs : isSeq c = true) (hH : Hs As) (hr : conjL As (tailC l') = regS P O C (cL c) l g l') (hk : WK P O C (cR c) ks (ofL l') F) : WK P O C c ks (ofL l) F := by
 obtain ⟨τ, h1, h2⟩ := regS_run hH hr
 refine WK.seq hs ⟨_, τ, h1, ?_⟩
 exact WK.weak h2 hk
theorem WK.r {As : List Prop} {g : List Gv} (hH : Hs As) (hr : conjL As (tailC l') = regS P O C c l g l') (hk : ∀ τ, Weak τ l' → WKe P O C ks .normal τ F) : WK P O C c ks (ofL l) F := by
 obtain ⟨τ, h1, h2⟩ := regS_run hH hr
 exact ⟨_, τ, h1, hk τ h2⟩
theorem WK.rc {As : List Prop} {g : List Gv} (hH : Hs As) (hr : conjL As (tailC l') = regS P O C c l g l') (hp : pop ks .normal = .code y ks') (hk : WK P O C y ks' (ofL l') F) : WK P O C c ks (ofL l) F := by
 obtain ⟨τ, h1, h2⟩ := regS_run hH hr
 exact ⟨_, τ, h1, WKe.code hp (WK.weak h2 hk)⟩
theorem WK.skip (hs : isSkip c = true) (h : WKe P O C ks .normal σ F) : WK P O C c ks σ F := by
 cases c with
 | skip => exact ⟨_, _, .skip, h⟩
 | label n => exact ⟨_, _, .label, h⟩
 | _ => cases hs
theorem WK.ret (hs : isRet c = true) (h : WKe P O C ks .ret σ F) : WK P O C c ks σ F := by
 cases c with
 | ret => exact ⟨_, _, .ret, h⟩
 | _ => cases hs
theorem WK.exit {n : Nat} (hs : isExit n c = true) (h : WKe P O C ks (.exit n) σ F) : WK P O C c ks σ F := by
 cases c with
 | exit m =>
  have := Nat.eq_of_beq_eq_true hs
  subst this
  exact ⟨_, _, .exit, h⟩
 | _ => cases hs
def cnd (σ : St) : Code → Option Bool
 | .cond o _ _ => opB σ o
 | _ => none
theorem WK.ct {b : Bool} (hs : cnd σ c = some b) (hb : b = true) (h : WK P O C (cT c) ks σ F) : WK P O C c ks σ F := by
 cases c with
 | cond o x z =>
  subst hb
  obtain ⟨e, τ, h1, h2⟩ := h
  exact ⟨e, τ, .cond hs h1, h2⟩
 | _ => cases hs
theorem WK.ce {b : Bool} (hs : cnd σ c = some b) (hb : b = false) (h : WK P O C (cE c) ks σ F) : WK P O C c ks σ F := by
 cases c with
 | cond o x z =>
  subst hb
  obtain ⟨e, τ, h1, h2⟩ := h
  exact ⟨e, τ, .cond hs h1, h2⟩
 | _ => cases hs
theorem WK.block {n : Nat} (hs : isBlock n c = true) (h : WK P O C (cB c) (.blk n :: ks) σ F) : WK P O C c ks σ F := by
 cases c with
 | block m x =>
  have := Nat.eq_of_beq_eq_true hs
  subst this
  obtain ⟨e, τ, h1, h2⟩ := h
  cases e with
  | normal => exact ⟨_, _, .blockN h1, h2⟩
  | ret => exact ⟨_, _, .blockX h1 (by intro g; cases g) (by intro g; cases g), h2⟩
  | exit j =>
   simp only [WKe] at h2
   cases hb : Nat.beq j m with
   | true =>
    rw [hb] at h2
    have := Nat.eq_of_beq_eq_true hb
    subst this
    exact ⟨_, _, .blockE h1, h2⟩
   | false =>
    rw [hb] at h2
    refine ⟨_, _, .blockX h1 (by intro g; cases g) (fun g => ?_), h2⟩
    cases g
    exact absurd rfl (Nat.ne_of_beq_eq_false hb)
 | _ => cases hs
theorem WK.loop (hs : isLoop c = true) (h : WK P O C (cB c) (.lp c :: ks) σ F) : WK P O C c ks σ F := by
 cases c with
 | loop x =>
  obtain ⟨e, τ, h1, h2⟩ := h
  cases e with
  | normal => obtain ⟨e', τ', h3, h4⟩ := h2; exact ⟨e', τ', .loopS h1 h3, h4⟩
  | exit m => exact ⟨_, _, .loopX h1 (by intro g; cases g), h2⟩
  | ret => exact ⟨_, _, .loopX h1 (by intro g; cases g), h2⟩
 | _ => cases hs
theorem WK.use {F' : Way → St → Prop} (h : WK P O C c [] σ F') (hk : ∀ e τ, F' e τ → WKe P O C ks e τ F) : WK P O C c ks σ F := by
 obtain ⟨e, τ, h1, h2⟩ := h
 exact ⟨e, τ, h1, hk e τ h2⟩
end
section
variable (P : Program)
abbrev Ck : Query → Answer → Prop := Asks (Okay P)
def Fin (O : Nat → Nat) (fn : Func) (n : Nat) (r : Answer) : Way → St → Prop := fun e σ => (e = .normal ∨ e = .ret) ∧ ∃ R W σ', Ex (fun _ _ => False) (finPr P O fn n) σ R W r σ'
end
section
variable {P : Program} {O : Nat → Nat} {l : List (Pl × List AV)}
theorem fin_of {fn : Func} {n : Nat} {r : Answer} {As : List Prop} {g : List Gv} {e : Way} (he : e = .normal ∨ e = .ret) (hH : Hs As) (h : conjL As (r = r) = (finPr P O fn n).w (fun _ _ => False) (ofL l) g [] [] fun a _ _ _ _ => a = r) : Fin P O fn n r e (ofL l) := by
 refine ⟨he, ?_⟩
 obtain ⟨a, σ', g', R, W, h1, h2⟩ := Pr.w_sound (fun _ _ => False) _ (cast h (hH.conj rfl))
 subst h2
 exact ⟨R, W, σ', h1⟩
def regF (P : Program) (O : Nat → Nat) (fn : Func) (n : Nat) (c : Code) (l : List (Pl × List AV)) (g : List Gv) (r : Answer) : Prop := match c with
 | .region _ ops d => regW P O (Ck P) ops d (ofL l) g fun τ => (finPr P O fn n).w (fun _ _ => False) τ [] [] [] fun a _ _ _ _ => a = r
 | _ => False
theorem WK.rf {fn : Func} {n : Nat} {r : Answer} {c : Code} {ks : List Kt} {As : List Prop} {g : List Gv} (hH : Hs As) (hr : conjL As (r = r) = regF P O fn n c l g r) (hp : pop ks .normal = .fin .normal) : WK P O (Ck P) c ks (ofL l) (Fin P O fn n r) := by
 have h := cast hr (hH.conj rfl)
 cases c with
 | region m ops d =>
  obtain ⟨τ, h1, h2⟩ := regW_sound P O (Ck P) h
  obtain ⟨a, σ', g', R, W, h3, h4⟩ := Pr.w_sound (fun _ _ => False) _ h2
  subst h4
  exact ⟨_, τ, .region h1, WKe.fin hp ⟨.inl rfl, R, W, σ', h3⟩⟩
 | _ => exact h.elim
def fnChk (P : Program) (f : FuncId) (n : Nat) : Option (Func × Code) := match P.funcs[f]? with
 | some fn => match fn.body with
  | some code => bif !(fn.name == "runtime.NumGoroutine") && (decide (fn.ntmps ≤ 1000) && codeOk fn.ntmps code) && decide (n ≤ 1000) then some (fn, code) else none
  | none => none
 | none => none
theorem meets_of (hm : P.follows .mixedOrders = true) {f : FuncId} {fn : Func} {code : Code} {args : List AV} {objs : List (List AV)} {r : Answer} (hf : fnChk P f objs.length = some (fn, code))
  (h : WK P O (Ck P) code [] (entry args objs) (Fin P O fn objs.length r)) (hz : mapQ args = false) : Meets P ⟨f, args, objs⟩ r := by
 unfold fnChk at hf
 split at hf
 ·rename_i fn' hfn
  split at hf
  ·rename_i code' hcode
   cases hb : (!(fn'.name == "runtime.NumGoroutine") && (decide (fn'.ntmps ≤ 1000) && codeOk fn'.ntmps code') && decide (objs.length ≤ 1000)) with
   | false => rw [hb] at hf; cases hf
   | true =>
    rw [hb] at hf
    cases hf
    simp only [Bool.and_eq_true] at hb
    obtain ⟨e, σ, h1, h2, R, W, σ', h3⟩ := h
    refine (okay_m hz).1 (runF_ok hm (os := fun _ => O) (E := Okay P) (fun _ _ h => h) (n := 1) (.inr ⟨fn, code, σ, e, R, W, σ', hfn, hcode, by simpa using hb.1.1, by rw [Bool.and_eq_true]; exact hb.1.2, hb.2, h1, h2, h3, hz⟩))
  ·cases hf
 ·cases hf
end
theorem aoM {P : Program} {q : Query} {r : Answer} (h : Meets P q r) (hz : mapQ q.args = false := by rfl) : Asks (Okay P) q r := .of ((okay_m hz).2 h)
abbrev Wy := Way
abbrev iv (n : Int) : AV := .data (.val (.int .i64 n))
abbrev bv (b : Bool) : AV := .data (.val (.bool b))
abbrev sv (s : ByteArray) : AV := .data (.val (.string s))
abbrev w64 (n : Int) : Int := IntKind.i64.wrap n
abbrev w8 (n : Int) : Int := IntKind.u8.wrap n
def vshl (k : IntKind) (a b : Int) : Int := k.wrap (a * 2 ^ (min b.toNat k.bits))
def vshr (k : IntKind) (a b : Int) : Int := a.fdiv (2 ^ (min b.toNat k.bits))
def vand (k : IntKind) (a b : Int) : Int := k.wrap ((BitVec.ofInt k.bits a &&& BitVec.ofInt k.bits b).toNat)
def vor (k : IntKind) (a b : Int) : Int := k.wrap ((BitVec.ofInt k.bits a ||| BitVec.ofInt k.bits b).toNat)
def vxor (k : IntKind) (a b : Int) : Int := k.wrap ((BitVec.ofInt k.bits a ^^^ BitVec.ofInt k.bits b).toNat)
def vandNot (k : IntKind) (a b : Int) : Int := k.wrap ((BitVec.ofInt k.bits a &&& ~~~BitVec.ofInt k.bits b).toNat)
def byteAt (s : ByteArray) (i : Int) : Int := (s.data.toList.getD i.toNat 0).toNat
def e_i64 (n : Int) : List DV := [.val (.int .i64 n)]
def e_i32 (n : Int) : List DV := [.val (.int .i32 n)]
def e_u8 (n : Int) : List DV := [.val (.int .u8 n)]
def e_u16 (n : Int) : List DV := [.val (.int .u16 n)]
def e_u32 (n : Int) : List DV := [.val (.int .u32 n)]
def e_u64 (n : Int) : List DV := [.val (.int .u64 n)]
def e_b (b : Bool) : List DV := [.val (.bool b)]
def e_s (s : ByteArray) : List DV := [.val (.string s)]
def e_l {α : Type} (sz : Nat) (e : α → List DV) (l : List α) : List DV := [.slc false none sz (l.map e)]
def bytesL (u : ByteArray) : List Int := u.data.toList.map fun b => (b.toNat : Int)
def strB (l : List Int) : ByteArray := strOf (l.map e_u8)
def gd {α : Type} (b : Bool) (k : Option α) : Option α := bif b then k else none
def br {α : Type} (b : Bool) (x y : Option α) : Option α := bif b then x else y
def ix {α β : Type} (l : List α) (i : Int) (k : α → Option β) : Option β := bif decide (0 ≤ i) then (match l[i.toNat]? with
 | some x => k x
 | none => none) else none
def bd {α β : Type} (o : Option α) (k : α → Option β) : Option β := match o with
 | some x => k x
 | none => none
def jn {α β : Type} (k : α) (m : α → β) : β := m k
section
variable {α β : Type}
theorem gd_inv {b : Bool} {k : Option α} {r : α} (h : gd b k = some r) : b = true ∧ k = some r := by
 cases b with
 | true => exact ⟨rfl, h⟩
 | false => cases h
theorem br_inv {b : Bool} {x y : Option α} {r : α} (h : br b x y = some r) : (b = true ∧ x = some r) ∨ (b = false ∧ y = some r) := by
 cases b with
 | true => exact .inl ⟨rfl, h⟩
 | false => exact .inr ⟨rfl, h⟩
theorem ix_inv {l : List α} {i : Int} {k : α → Option β} {r : β} (h : ix l i k = some r) : ∃ x, 0 ≤ i ∧ l[i.toNat]? = some x ∧ k x = some r := by
 unfold ix at h
 by_cases h0 : 0 ≤ i
 ·rw [decide_eq_true h0] at h
  simp only [cond_true] at h
  split at h
  ·rename_i x hx; exact ⟨x, h0, hx, h⟩
  ·cases h
 ·rw [decide_eq_false h0] at h; cases h
theorem bd_inv {o : Option α} {k : α → Option β} {r : β} (h : bd o k = some r) : ∃ x, o = some x ∧ k x = some r := by
 cases o with
 | some x => exact ⟨x, rfl, h⟩
 | none => cases h
theorem jn_inv {k : α} {m : α → Option β} {r : β} (h : jn k m = some r) : ∃ k', k' = k ∧ m k' = some r := ⟨k, rfl, h⟩
theorem some_inj {a b : α} (h : some a = some b) : a = b := Option.some.inj h
theorem no_none {a : α} {p : Prop} (h : none = some a) : p := by cases h
theorem c_ix {e : α → List DV} {l : List α} {i : Int} {x : α} (h0 : 0 ≤ i) (h : l[i.toNat]? = some x) : decide (0 ≤ i ∧ i < ((List.map e l).length : Int)) = true := by
 have := (List.getElem?_eq_some_iff.1 h).1
 rw [List.length_map]
 exact decide_eq_true ⟨h0, by omega⟩
theorem c_el {e : α → List DV} {l : List α} {i : Nat} {x : α} (h : l[i]? = some x) : (List.map e l)[i]? = some (e x) := by
 rw [List.getElem?_map, h]; rfl
theorem c_len {e : α → List DV} {l : List α} : [AV.data (.val (.int .i64 ((List.map e l).length : Int)))] = [iv (l.length : Int)] := by rw [List.length_map]
theorem c_al {e : α → List DV} {f : β → List DV} {l : List α} {m : List β} (h : decide (l.length + m.length ≤ 4294967296) = true) : decide ((List.map e l).length + (List.map f m).length ≤ 4294967296) = true := by
 rw [List.length_map, List.length_map]; exact h
theorem c_app {e : α → List DV} {s : Nat} {l m : List α} : DV.slc true none s (List.map e l ++ List.map e m) = .slc true none s (List.map e (l ++ m)) := by rw [List.map_append]
theorem c_set {e : α → List DV} {s : Nat} {nl : Option Bool} {l : List α} {i : Nat} {x : α} : DV.slc true nl s ((List.map e l).set i (e x)) = .slc true nl s (List.map e (l.set i x)) := by rw [List.map_set]
section
variable {own : Bool} {nl : Option Bool} {s : Nat} {e : α → List DV} {l : List α}
theorem c_cutL {lo : Nat} : DV.slc own nl s (((List.map e l).take ((List.map e l).length : Int).toNat).drop lo) = .slc own nl s (List.map e (List.drop lo l)) := by rw [Int.toNat_natCast, List.take_of_length_le (Nat.le_refl _), List.map_drop]
theorem c_cutH {h : Nat} : DV.slc own nl s (((List.map e l).take h).drop (0 : Int).toNat) = .slc own nl s (List.map e (List.take h l)) := by simp [List.map_take]
theorem c_cbL {lo : Int} (h : decide (0 ≤ lo ∧ lo ≤ (l.length : Int)) = true) : decide (0 ≤ lo ∧ lo ≤ ((List.map e l).length : Int) ∧ ((List.map e l).length : Int) ≤ ((List.map e l).length : Int)) = true := by
 have := of_decide_eq_true h
 rw [List.length_map]
 exact decide_eq_true ⟨this.1, this.2, by omega⟩
theorem c_cbH {hi : Int} (h : decide (0 ≤ hi ∧ hi ≤ (l.length : Int)) = true) : decide ((0 : Int) ≤ 0 ∧ 0 ≤ hi ∧ hi ≤ ((List.map e l).length : Int)) = true := by
 have := of_decide_eq_true h
 rw [List.length_map]
 exact decide_eq_true ⟨by omega, this.1, this.2⟩
end
end
section
variable {α : Type} {e : α → List DV} {l : List α}
end
def kvS (s : ByteArray) : Value := .string s
def kvI (n : Int) : Value := .int .i64 n
def kvB (b : Bool) : Value := .bool b
def eqS (a b : ByteArray) : Bool := a.toList == b.toList
def eqI (a b : Int) : Bool := a == b
def mpe {α β : Type} (f : α → Value) (g : β → Value) (l : List (α × β)) : List (Value × Value) := l.map fun p => (f p.1, g p.2)
def alook {α β : Type} (eq : α → α → Bool) : List (α × β) → α → Option β
 | [], _ => none
 | e :: r, k => bif eq k e.1 then some e.2 else alook eq r k
def aput {α β : Type} (eq : α → α → Bool) : List (α × β) → α → β → List (α × β)
 | [], k, v => [(k, v)]
 | e :: r, k, v => bif eq k e.1 then (k, v) :: r else e :: aput eq r k v
section
variable {α β : Type} {f : α → Value} {g : β → Value} {eq : α → α → Bool}
theorem mget_e (he : ∀ a b, eqV (f a) (f b) = eq a b) (l : List (α × β)) (k : α) : mget (mpe f g l) (f k) = (alook eq l k).map g := by
 induction l with
 | nil => rfl
 | cons e r ih =>
  unfold mpe at ih ⊢
  simp only [List.map_cons, mget, alook, he]
  cases eq k e.1 with
  | true => rfl
  | false => exact ih
theorem mput_e (he : ∀ a b, eqV (f a) (f b) = eq a b) (l : List (α × β)) (k : α) (v : β) : mput (mpe f g l) (f k) (g v) = mpe f g (aput eq l k v) := by
 induction l with
 | nil => rfl
 | cons e r ih =>
  unfold mpe at ih ⊢
  simp only [List.map_cons, mput, aput, he]
  cases eq k e.1 with
  | true => rfl
  | false => simp only [cond_false, List.map_cons, ih]
theorem c_mget (he : ∀ a b, eqV (f a) (f b) = eq a b) {l : List (α × β)} {k : α} {z : β} : [absV ((mget (mpe f g l) (f k)).getD (g z))] = [absV (g ((alook eq l k).getD z))] := by
 rw [mget_e he]
 cases alook eq l k <;> rfl
theorem c_mlen {l : List (α × β)} : [AV.data (.val (.int .i64 ((mpe f g l).length : Int)))] = [iv (l.length : Int)] := by unfold mpe; rw [List.length_map]
theorem c_mput (he : ∀ a b, eqV (f a) (f b) = eq a b) {kd : Nat} {l : List (α × β)} {k : α} {v : β} : DV.mp kd (mput (mpe f g l) (f k) (g v)) = .mp kd (mpe f g (aput eq l k v)) := by rw [mput_e he]
end
theorem c_ib {i : Int} {j n : Nat} (h : (i == (j : Int)) = true) (hj : decide (j < n) = true) : decide (0 ≤ i ∧ i < (n : Int)) = true := by
 have := of_decide_eq_true hj
 rw [beq_iff_eq] at h
 exact decide_eq_true (by omega)
theorem c_ii {i : Int} {j : Nat} (h : (i == (j : Int)) = true) : i.toNat = j := by
 rw [beq_iff_eq] at h; omega
end Go.Proofs.Ytknkeabmjleoiaa.Vam
/- Short words for the walks of told functions. -/
namespace Go.Proofs.Ytknkeabmjleoiaa.Vam
open Go
set_option linter.unusedVariables false
def keepL {α : Type} : Nat → List α → List α
 | _, [] => []
 | m, x :: r => bif Nat.beq (m % 2) 1 then x :: keepL (m / 2) r else keepL (m / 2) r
def up {α : Type} (m : Nat) (d l : List α) : List α := d ++ keepL m l
def rp {α : Type} : Nat → α → List α → List α
 | 0, _, r => r
 | n + 1, a, r => a :: rp n a r
abbrev Tm (i : Nat) (x : AV) : Pl × List AV := (.t i, [x])
abbrev Ob (i : Nat) (xs : List AV) : Pl × List AV := (.o i, xs)
theorem rT : true = true := rfl
theorem rF : false = false := rfl
theorem Hs.n : Hs [] := .nil
theorem Hs.c {p : Prop} {ps : List Prop} (h : p) (t : Hs ps) : Hs (p :: ps) := .cons h t
theorem Hs.r {p : Prop} {ps : List Prop} : ∀ (n : Nat), p → Hs ps → Hs (rp n p ps)
 | 0, _, t => t
 | n + 1, h, t => .cons h (Hs.r n h t)
def argL : Nat → List AV → List (Pl × List AV)
 | _, [] => []
 | i, x :: r => Tm i x :: argL (i + 1) r
def objL : Nat → List (List AV) → List (Pl × List AV)
 | _, [] => []
 | i, x :: r => Ob i x :: objL (i + 1) r
abbrev sO {α : Type} (s : Nat) (e : α → List DV) (l : List α) : AV := .data (.slc true none s (l.map e))
abbrev sS {α : Type} (s : Nat) (e : α → List DV) (l : List α) : AV := .data (.slc false none s (l.map e))
def mn (a b : Int) : Int := if b < a then b else a
def mx (a b : Int) : Int := if a < b then b else a
section
variable {P : Program} {O : Nat → Nat} {C : Query → Answer → Prop} {c : Code} {ks : List Kt} {σ : St} {F F' : Way → St → Prop} {l l' : List (Pl × List AV)} {e : Way}
theorem kRs {As : List Prop} (m : Nat) (d : List (Pl × List AV)) (g : List Gv) (hH : Hs As) (hk : WK P O C (cR c) ks (ofL (up m d l)) F) (hs : isSeq c = true := by kernel_rfl) (hr : conjL As (tailC (up m d l)) = regS P O C (cL c) l g (up m d l) := by kernel_rfl) : WK P O C c ks (ofL l) F := WK.rs hs hH hr hk
theorem kRc {As : List Prop} (m : Nat) (d : List (Pl × List AV)) (g : List Gv) (hH : Hs As) (y : Code) (ks' : List Kt) (hk : WK P O C y ks' (ofL (up m d l)) F) (hp : pop ks .normal = .code y ks' := by kernel_rfl) (hr : conjL As (tailC (up m d l)) = regS P O C c l g (up m d l) := by kernel_rfl) : WK P O C c ks (ofL l) F := WK.rc hH hr hp hk
theorem kCd (y : Code) (ks' : List Kt) (hk : WK P O C y ks' σ F) (hp : pop ks e = .code y ks' := by kernel_rfl) : WKe P O C ks e σ F := .code hp hk
theorem kCt {b : Bool} (hb : b = true) (hk : WK P O C (cT c) ks σ F) (hs : cnd σ c = some b := by kernel_rfl) : WK P O C c ks σ F := .ct hs hb hk
theorem kCe {b : Bool} (hb : b = false) (hk : WK P O C (cE c) ks σ F) (hs : cnd σ c = some b := by kernel_rfl) : WK P O C c ks σ F := .ce hs hb hk
theorem kSk (hk : WKe P O C ks .normal σ F) (hs : isSkip c = true := by kernel_rfl) : WK P O C c ks σ F := .skip hs hk
theorem kRt (hk : WKe P O C ks .ret σ F) (hs : isRet c = true := by kernel_rfl) : WK P O C c ks σ F := .ret hs hk
theorem kXt (n : Nat) (hk : WKe P O C ks (.exit n) σ F) (hs : isExit n c = true := by kernel_rfl) : WK P O C c ks σ F := .exit hs hk
theorem kBk (n : Nat) (hk : WK P O C (cB c) (.blk n :: ks) σ F) (hs : isBlock n c = true := by kernel_rfl) : WK P O C c ks σ F := .block hs hk
theorem kSq (hk : WK P O C (cL c) (.seq (cR c) :: ks) σ F) (hs : isSeq c = true := by kernel_rfl) : WK P O C c ks σ F := .seq hs hk
theorem kLp (hk : WK P O C (cB c) (.lp c :: ks) σ F) (hs : isLoop c = true := by kernel_rfl) : WK P O C c ks σ F := .loop hs hk
theorem kWk (hk : WK P O C c ks (ofL l') F) (hw : tailC l' = WkC σ l' := by kernel_rfl) : WK P O C c ks σ F := .weak (wk_of hw) hk
theorem kUs (h : WK P O C c [] (ofL l') F') (hk : ∀ e τ, F' e τ → WKe P O C ks e τ F) (hw : tailC l' = WkC σ l' := by kernel_rfl) : WK P O C c ks σ F := .weak (wk_of hw) (.use h hk)
theorem kWd (m : Nat) (d : List (Pl × List AV)) (hk : WK P O C c ks (ofL (up m d l)) F) (hw : tailC (up m d l) = WkC (ofL l) (up m d l) := by kernel_rfl) : WK P O C c ks (ofL l) F := .weak (wk_of hw) hk
theorem kSo (i cc m : Nat) (d : List (Pl × List AV)) (hk : WK P O C c ks (ofL (up m d l)) F) (h0 : (ofL l (.o i)).live = true := by kernel_rfl) (h1 : Nat.blt cc (ofL l (.o i)).vs.length = true := by kernel_rfl) (hr : tailC (up m d l) = shrO C i cc l (up m d l) := by kernel_rfl) : WK P O C c ks (ofL l) F := .shareO h0 h1 hr hk
theorem kWo {e' : Way} (hk : WK P O C c ks (ofL l') F) (hF : F = fun e τ => e = e' ∧ τ = ofL l' := by rfl) (hw : tailC l' = WkC σ l' := by kernel_rfl) : WK P O C c ks σ F := .weak (wk_of hw) hk
theorem kOut {e' : Way} (hp : pop ks e = .fin e' := by kernel_rfl) (hF : F e' σ := by exact ⟨rfl, rfl⟩) : WKe P O C ks e σ F := .fin hp hF
end
section
variable {P : Program} {O : Nat → Nat} {c : Code} {ks : List Kt} {l : List (Pl × List AV)} {fn : Func} {n : Nat} {r : Answer}
theorem kRf {As : List Prop} (g : List Gv) (hH : Hs As) (hr : conjL As (r = r) = regF P O fn n c l g r := by kernel_rfl) (hp : pop ks .normal = .fin .normal := by kernel_rfl) : WK P O (Ck P) c ks (ofL l) (Fin P O fn n r) := .rf hH hr hp
theorem kFr {e : Way} (hp : pop ks e = .fin .ret := by kernel_rfl) (h : (r = r) = (finPr P O fn n).w (fun _ _ => False) (ofL l) [] [] [] (fun a _ _ _ _ => a = r) := by kernel_rfl) : WKe P O (Ck P) ks e (ofL l) (Fin P O fn n r) := .fin hp (fin_of (.inr rfl) .nil h)
theorem kMt {f : FuncId} {args : List AV} {objs : List (List AV)} (hm : P.follows .mixedOrders = true) (O : Nat → Nat) (fn : Func) (code : Code) (m : Nat) (hk : WK P O (Ck P) code [] (ofL (keepL m (argL 0 args ++ objL 1000 objs))) (Fin P O fn objs.length r)) (hf : fnChk P f objs.length = some (fn, code) := by kernel_rfl) (hw : tailC (keepL m (argL 0 args ++ objL 1000 objs)) = WkC (entry args objs) (keepL m (argL 0 args ++ objL 1000 objs)) := by kernel_rfl) (hz : mapQ args = false := by rfl) : Meets P ⟨f, args, objs⟩ r := meets_of hm hf (.weak (wk_of hw) hk) hz
end
end Go.Proofs.Ytknkeabmjleoiaa.Vam
/- The machine by value and the model: what an argument reads as, as data. -/
namespace Go.Proofs.Ytknkeabmjleoiaa.Vam
open Go Go.RowKit Go.WideShapes
set_option linter.unusedVariables false
set_option linter.unusedSimpArgs false
inductive Sh where
 | ti (k : IntKind) | tb | ts | tl (es : List Sh)
def shF (T : TypeId → Option (List Sh)) (P : Program) : Nat → List Field → Option (List Sh)
 | _, [] => some []
 | off, f :: fs => match T f.type with
  | some a => if f.offset = off ∧ P.cellsOf f.type = a.length then (shF T P (off + a.length) fs).map (a ++ ·) else none
  | none => none
def shT (P : Program) : Nat → TypeId → Option (List Sh)
 | 0, _ => none
 | n + 1, t => match P.underlying t with
  | some .bool => some [.tb]
  | some (.int k) => some [.ti k]
  | some .string => some [.ts]
  | some (.slice e) => match shT P n e with
   | some es => if P.cellsOf e = es.length ∧ 0 < es.length then some [.tl es] else none
   | none => none
  | some (.struct fs) => match shF (shT P n) P 0 fs.toList with
   | some es => if P.cellsOf t = es.length then some es else none
   | none => none
  | some (.array m e) => match shT P n e with
   | some es => if P.cellsOf e = es.length ∧ P.cellsOf t = m * es.length then some (List.replicate m es).flatten else none
   | none => none
  | _ => none
inductive FitN (N : Nat) : DV → Sh → Prop where
 | i {k : IntKind} {n : Int} : (Lit.int k n).wf = true → FitN N (.val (.int k n)) (.ti k)
 | b {b : Bool} : FitN N (.val (.bool b)) .tb
 | s {s : ByteArray} : s.size ≤ N → FitN N (.val (.string s)) .ts
 | l {es : List (List DV)} {shs : List Sh} : es.length ≤ N → (∀ ch : List DV, ch ∈ es → ch.length = shs.length) → (∀ ch : List DV, ch ∈ es → ∀ (j : Nat) (d : DV) (q : Sh), ch[j]? = some d → shs[j]? = some q → FitN N d q) → FitN N (.slc false none shs.length es) (.tl shs)
abbrev FitLN (N : Nat) (ch : List DV) (shs : List Sh) : Prop := ch.length = shs.length ∧ ∀ (j : Nat) (d : DV) (q : Sh), ch[j]? = some d → shs[j]? = some q → FitN N d q
structure Blk {H : Type} (B : DataW H → Nat) (A : List (DataW H) → Nat) : Prop where
 str : ∀ u, u.length ≤ B (.lit (.string u))
 slc : ∀ e s, A e ≤ B (.slice e s)
 agg : ∀ e, A e ≤ B (.agg e)
 mem : ∀ d l, d ∈ l → B d ≤ A l
 len : ∀ l, l.length ≤ A l
def SzN {H : Type} (N : Nat) (d : DataW H) : Prop := maxLen ≤ N ∨ ∃ (B : DataW H → Nat) (A : List (DataW H) → Nat), Blk B A ∧ B d ≤ N
section
variable {H : Type} {N : Nat}
theorem SzN.agg {e : List (DataW H)} {y : DataW H} (h : SzN N (.agg e)) (hy : y ∈ e) : SzN N y := by
 rcases h with h | ⟨B, A, b, h⟩
 ·exact .inl h
 ·exact .inr ⟨B, A, b, by have := b.agg e; have := b.mem y e hy; omega⟩
theorem SzN.slc {e s : List (DataW H)} {y : DataW H} (h : SzN N (.slice e s)) (hy : y ∈ e) : SzN N y := by
 rcases h with h | ⟨B, A, b, h⟩
 ·exact .inl h
 ·exact .inr ⟨B, A, b, by have := b.slc e s; have := b.mem y e hy; omega⟩
theorem SzN.len {e s : List (DataW H)} (h : SzN N (.slice e s)) (hl : e.length ≤ maxLen) : e.length ≤ N := by
 rcases h with h | ⟨B, A, b, h⟩
 ·omega
 ·have := b.slc e s; have := b.len e; omega
theorem SzN.str {u : List UInt8} (h : SzN N (.lit (.string u) : DataW H)) (hl : u.length ≤ maxLen) : u.length ≤ N := by
 rcases h with h | ⟨B, A, b, h⟩
 ·omega
 ·have := b.str u; omega
end
def Opn (N : Nat) (K : Kn) (cs : List Value) (shs : List Sh) : Prop := ∃ ds, All2 (CRep K) cs ds ∧ FitLN N ds shs
theorem FitLN.append {N : Nat} {a b : List DV} {s t : List Sh} (h : FitLN N a s) (h' : FitLN N b t) : FitLN N (a ++ b) (s ++ t) := by
 refine ⟨by simp [h.1, h'.1], fun j d x hd hx => ?_⟩
 rcases Nat.lt_or_ge j a.length with g | g
 ·rw [List.getElem?_append_left g] at hd
  rw [List.getElem?_append_left (h.1 ▸ g)] at hx
  exact h.2 j d x hd hx
 ·rw [List.getElem?_append_right g] at hd
  rw [List.getElem?_append_right (h.1 ▸ g), ← h.1] at hx
  exact h'.2 _ d x hd hx
theorem Opn.append {N : Nat} {K : Kn} {a b : List Value} {s t : List Sh} (h : Opn N K a s) (h' : Opn N K b t) : Opn N K (a ++ b) (s ++ t) := by
 obtain ⟨x, h1, h2⟩ := h
 obtain ⟨y, h3, h4⟩ := h'
 exact ⟨x ++ y, h1.append h3, h2.append h4⟩
theorem Opn.nil {N : Nat} {K : Kn} : Opn N K [] [] := ⟨[], .nil, rfl, fun j d s h _ => by simp at h⟩
theorem Opn.one {N : Nat} {K : Kn} {v : Value} {d : DV} {q : Sh} (h : CRep K v d) (h' : FitN N d q) : Opn N K [v] [q] := by
 refine ⟨[d], .cons h .nil, rfl, fun j e x he hx => ?_⟩
 cases j with
 | zero => simp at he hx; subst he; subst hx; exact h'
 | succ j => simp at he
theorem exists_list {β : Type} (n : Nat) (Q : Nat → β → Prop) (h : ∀ i, i < n → ∃ b, Q i b) : ∃ l : List β, l.length = n ∧ ∀ i b, l[i]? = some b → Q i b := by
 induction n with
 | zero => exact ⟨[], rfl, fun i b hb => by simp at hb⟩
 | succ n ih =>
  obtain ⟨l, h1, h2⟩ := ih fun i hi => h i (by omega)
  obtain ⟨b, hb⟩ := h n (by omega)
  refine ⟨l ++ [b], by simp [h1], fun i c hc => ?_⟩
  rcases Nat.lt_or_ge i l.length with g | g
  ·rw [List.getElem?_append_left g] at hc
   exact h2 i c hc
  ·rw [List.getElem?_append_right g] at hc
   have : i = n := by
    have := (List.getElem?_eq_some_iff.1 hc).1
    simp at this
    omega
   subst this
   rw [show i - l.length = 0 by omega] at hc
   simp at hc
   exact hc ▸ hb
theorem cells_at {w : World} {base : Nat} {a : Addr} {n : Nat} {cs : List Value} (h : w.cells? base a n = some cs) : cs.length = n ∧ ∀ j v, cs[j]? = some v → w.cell? (a.add j) = some v := by
 unfold World.cells? at h
 split at h
 ·have hl := mapM_some_length h
  refine ⟨by simpa using hl, fun j v hv => ?_⟩
  have hj := (List.getElem?_eq_some_iff.1 hv).1
  have := mapM_some_get h j j (by rw [List.getElem?_range (by simpa [hl] using hj)])
  rw [this, hv]
 ·cases h
theorem add_add (a : Addr) (i j : Nat) : ((a.add i).add j).block = a.block ∧ ((a.add i).add j).off = a.off + i + j := by
 unfold Addr.add
 split <;> split <;> refine ⟨rfl, ?_⟩ <;> (try dsimp only) <;> omega
theorem kall_of_cell {w : World} {a : Addr} {v : Value} (h : w.cell? a = some v) : a.spot = none ∧ Kall w a.block a.off = some v := by
 unfold World.cell? at h
 unfold Kall
 split at h
 ·split at h
  ·cases h
  ·rename_i h2
   refine ⟨by simpa using h2, ?_⟩
   rename_i c x y h1
   rw [h1]; exact h
 ·cases h
section
variable {H : Type} {enc : TypeId × Value → H} {P : Program} {w : World} {base : Nat} {spare : Nat → Bool} {held : Bool} {N : Nat}
theorem shF_ok {T : TypeId → Option (List Sh)} {n : Nat} {cs : List Value}
  (ih : ∀ t shs cs x, T t = some shs → DataW.trod enc P w base spare held n t cs = some x → SzN N x.1 → Opn N (Kall w) cs shs) :
  ∀ (fs : List Field) (off : Nat) (shs : List Sh), shF T P off fs = some shs → (∀ (f : Field), f ∈ fs → ∃ x, DataW.trod enc P w base spare held n f.type ((cs.drop f.offset).take (P.cellsOf f.type)) = some x ∧ SzN N x.1) →
   Opn N (Kall w) ((cs.drop off).take shs.length) shs
 | [], off, shs, h, _ => by
  simp only [shF, Option.some.injEq] at h
  subst h
  exact Opn.nil
 | f :: fs, off, shs, h, hf => by
  simp only [shF] at h
  cases ha : T f.type with
  | none => simp [ha] at h
  | some a =>
   simp only [ha] at h
   split at h
   ·rename_i hc
    obtain ⟨r, hr, rfl⟩ := Option.map_eq_some_iff.1 h
    obtain ⟨x, hx, hz⟩ := hf f (by simp)
    rw [hc.1, hc.2] at hx
    have h1 := ih _ _ _ _ ha hx hz
    have h2 := shF_ok ih fs (off + a.length) r hr fun g hg => hf g (by simp [hg])
    have e : (cs.drop off).take (a ++ r).length = (cs.drop off).take a.length ++ (cs.drop (off + a.length)).take r.length := by
     rw [List.length_append, List.take_add, List.drop_drop]
    rw [e]
    exact h1.append h2
   ·cases h
theorem shA_ok {n m : Nat} {e : TypeId} {es : List Sh} (ih : ∀ cs x, DataW.trod enc P w base spare held n e cs = some x → SzN N x.1 → Opn N (Kall w) cs es) : ∀ (cs : List Value),
      (∀ i, i < m → ∃ x, DataW.trod enc P w base spare held n e ((cs.drop (i * es.length)).take es.length) = some x ∧ SzN N x.1) → Opn N (Kall w) (cs.take (m * es.length)) (List.replicate m es).flatten := by
 induction m with
 | zero => intro cs _; simpa using Opn.nil
 | succ m ihm =>
  intro cs h
  obtain ⟨x, hx, hz⟩ := h 0 (by omega)
  have h1 := ih _ _ hx hz
  simp only [Nat.zero_mul, List.drop_zero] at h1
  have h2 := ihm (cs.drop es.length) fun i hi => by
   obtain ⟨y, hy, hz⟩ := h (i + 1) (by omega)
   refine ⟨y, ?_, hz⟩
   rw [List.drop_drop, show es.length + i * es.length = (i + 1) * es.length by rw [Nat.add_mul]; omega]
   exact hy
  have e1 : cs.take ((m + 1) * es.length) = cs.take es.length ++ (cs.drop es.length).take (m * es.length) := by
   rw [Nat.add_mul, Nat.one_mul, Nat.add_comm, List.take_add]
  rw [e1, List.replicate_succ, List.flatten_cons]
  exact h1.append h2
theorem trod_opn : ∀ (m : Nat) (t : TypeId) (shs : List Sh) (n : Nat) (cs : List Value) (x : DataW H × List MemPlace), shT P m t = some shs → DataW.trod enc P w base spare held n t cs = some x → SzN N x.1 → Opn N (Kall w) cs shs
 | 0, _, _, _, _, _, hs, _, _ => by simp [shT] at hs
 | m + 1, t, shs, n, cs, x, hs, h, hz => by
  cases ht : P.underlying t with
  | none => simp [shT, ht] at hs
  | some d =>
   cases d with
   | bool =>
    simp only [shT, ht, Option.some.injEq] at hs
    subst hs
    obtain ⟨b, rfl, _⟩ := DataW.trod_bool ht h
    exact .one (.val rfl) .b
   | int k =>
    simp only [shT, ht, Option.some.injEq] at hs
    subst hs
    obtain ⟨b, rfl, _, hw⟩ := DataW.trod_int ht h
    exact .one (.val rfl) (.i hw)
   | string =>
    simp only [shT, ht, Option.some.injEq] at hs
    subst hs
    obtain ⟨b, rfl, rfl, hw⟩ := DataW.trod_string ht h
    have e : b.data.toList.length = b.size := by rw [Array.length_toList]; rfl
    exact .one (.val rfl) (.s (by have := hz.str (by rw [e]; exact hw); rw [e] at this; exact this))
   | slice e =>
    simp only [shT, ht] at hs
    cases he : shT P m e with
    | none => simp [he] at hs
    | some es =>
     simp only [he] at hs
     split at hs
     ·rename_i hc
      simp only [Option.some.injEq] at hs
      subst hs
      rcases DataW.trod_slice ht h with ⟨rfl, _⟩ | ⟨a, len, cap, elems, rest, n', _, rfl, rfl, _, hl, hm, hlen, hel, _, _⟩
      ·exact .one (d := .slc false none es.length []) (.nil (by simp)) (.l (by simp) (fun ch hch => by simp at hch) fun ch hch => by simp at hch)
      ·have hE : ∀ i, i < len → ∃ c1, w.cells? base (a.add (i * es.length)) es.length = some c1 ∧ ∃ x, DataW.trod enc P w base spare held n' e c1 = some x ∧ SzN N x.1 := fun i hi => by
        have := hel i hi
        rw [hc.1] at this
        obtain ⟨y, hy⟩ : ∃ y, elems[i]? = some y := ⟨_, List.getElem?_eq_getElem (by omega)⟩
        rw [hy, Option.bind_eq_some_iff] at this
        obtain ⟨c1, h1, h2⟩ := this
        exact ⟨c1, h1, y, h2, hz.slc (List.mem_map.2 ⟨y, List.mem_of_getElem? hy, rfl⟩)⟩
       obtain ⟨dss, hdl, hds⟩ := exists_list len (fun i ds => ∃ c1, w.cells? base (a.add (i * es.length)) es.length = some c1 ∧ All2 (CRep (Kall w)) c1 ds ∧ FitLN N ds es) fun i hi => by
        obtain ⟨c1, h1, y, h2, hz'⟩ := hE i hi
        obtain ⟨ds, h3, h4⟩ := trod_opn m e es n' c1 y he h2 hz'
        exact ⟨ds, c1, h1, h3, h4⟩
       have hfit : FitN N (.slc false none es.length dss) (.tl es) := .l (by have := hz.len (by rw [List.length_map]; omega); rw [List.length_map] at this; omega) (fun ch hch => by
        obtain ⟨i, hi⟩ := List.getElem?_of_mem hch
        obtain ⟨_, _, _, h4⟩ := hds i ch hi
        exact h4.1) fun ch hch => by
        obtain ⟨i, hi⟩ := List.getElem?_of_mem hch
        obtain ⟨_, _, _, h4⟩ := hds i ch hi
        exact h4.2
       refine .one ?_ hfit
       rcases Nat.eq_zero_or_pos len with h0 | h0
       ·subst h0
        obtain rfl : dss = [] := List.length_eq_zero_iff.1 hdl
        exact .empty (by simp)
       ·have hsp : a.spot = none := by
         obtain ⟨c1, h1, _⟩ := hE 0 h0
         obtain ⟨hcl, hcv⟩ := cells_at h1
         obtain ⟨v, hv⟩ : ∃ v, c1[0]? = some v := ⟨_, List.getElem?_eq_getElem (by omega)⟩
         have := (kall_of_cell (hcv 0 v hv)).1
         simpa [Addr.add] using this
        have ea : a = ⟨a.block, a.off, none⟩ := by cases a; simp_all
        rw [ea, ← hdl]
        have key : ∀ i j ch d, dss[i]? = some ch → ch[j]? = some d → ∃ v, Kall w a.block (a.off + i * es.length + j) = some v ∧ CRep (Kall w) v d := fun i j ch d hi hj => by
         obtain ⟨c1, h1, h3, h4⟩ := hds i ch hi
         obtain ⟨hcl, hcv⟩ := cells_at h1
         obtain ⟨v, hv, hr⟩ := h3.get hj
         have := (kall_of_cell (hcv j v hv)).2
         refine ⟨v, ?_, hr⟩
         have eo := add_add a (i * es.length) j
         rw [eo.1, eo.2] at this
         exact this
        refine .slc (fun i j => (Kall w a.block (a.off + i * es.length + j)).getD undef) (by simp) (by omega) (fun ch hch => ?_) (fun i j ch d hi hj => ?_) (fun i j ch d hi hj => ?_)
        ·obtain ⟨i, hi⟩ := List.getElem?_of_mem hch
         obtain ⟨_, _, _, h4⟩ := hds i ch hi
         exact h4.1
        ·obtain ⟨v, hv, _⟩ := key i j ch d hi hj
         rw [hv]; rfl
        ·obtain ⟨v, hv, hr⟩ := key i j ch d hi hj
         rw [hv]; exact hr
     ·cases hs
   | struct fs =>
    simp only [shT, ht] at hs
    cases he : shF (shT P m) P 0 fs.toList with
    | none => simp [he] at hs
    | some es =>
     simp only [he] at hs
     split at hs
     ·rename_i hc
      simp only [Option.some.injEq] at hs
      subst hs
      obtain ⟨xs, n', _, rfl, hl, hxs, hf⟩ := DataW.trod_struct ht h
      have := shF_ok (enc := enc) (P := P) (w := w) (base := base) (spare := spare) (held := held) (T := shT P m) (n := n') (cs := cs)
       (fun t shs cs x hs h hz => trod_opn m t shs n' cs x hs h hz) fs.toList 0 es he fun f hf' => by
        obtain ⟨i, hi⟩ := List.getElem?_of_mem hf'
        have hi' : fs[i]? = some f := by simpa using hi
        have := hf i f hi'
        have hb := (List.getElem?_eq_some_iff.1 hi).1
        have hb' : i < fs.size := by rw [← Array.length_toList]; exact hb
        obtain ⟨y, hy⟩ : ∃ y, xs[i]? = some y := ⟨_, List.getElem?_eq_getElem (by omega)⟩
        exact ⟨y, by rw [this, hy], hz.agg (List.mem_map.2 ⟨y, List.mem_of_getElem? hy, rfl⟩)⟩
      rw [List.drop_zero, ← hc, ← hl, List.take_length] at this
      exact this
     ·cases hs
   | array k e =>
    simp only [shT, ht] at hs
    cases he : shT P m e with
    | none => simp [he] at hs
    | some es =>
     simp only [he] at hs
     split at hs
     ·rename_i hc
      simp only [Option.some.injEq] at hs
      subst hs
      obtain ⟨xs, n', _, rfl, hl, hxs, hf⟩ := DataW.trod_array ht h
      have := shA_ok (enc := enc) (P := P) (w := w) (base := base) (spare := spare) (held := held) (m := k) (n := n') (e := e) (es := es) (fun cs x h hz => trod_opn m e es n' cs x he h hz) cs fun i hi => by
       have := hf i hi
       rw [hc.1] at this
       obtain ⟨y, hy⟩ : ∃ y, xs[i]? = some y := ⟨_, List.getElem?_eq_getElem (by omega)⟩
       exact ⟨y, by rw [this, hy], hz.agg (List.mem_map.2 ⟨y, List.mem_of_getElem? hy, rfl⟩)⟩
      rw [← hc.2, ← hl, List.take_length] at this
      exact this
     ·cases hs
   | _ => simp [shT, ht] at hs
theorem open_cellN {r : Reach} {b0 : Nat} {t : TypeId} {v : Value} {d : DataW H} {ps : List MemPlace} {m : Nat} {q : Sh} (ht : (match P.underlying t with | some (.int _) | some .bool | some .string | some (.slice _) => true | _ => false) = true)
  (hs : shT P m t = some [q]) (hval : Value.okWide P w r b0 t v) (hd : DataW.Trod enc P w base spare held t v d ps) (hz : SzN N d) : ∃ x, URep (Kall w) v x ∧ FitN N x q := by
 obtain ⟨n, hd⟩ := hd
 have hv : v.cells = #[v] := by
  cases hu : P.underlying t with
  | none => simp [hu] at ht
  | some D =>
   cases D with
   | bool => obtain ⟨b, rfl⟩ := okWide_bool hu hval; rfl
   | int k => obtain ⟨b, rfl⟩ := okWide_int hu hval; rfl
   | string => obtain ⟨b, rfl⟩ := okWide_string hu hval; rfl
   | slice e => obtain ⟨a, b, c, rfl⟩ := okWide_slice hu hval; rfl
   | _ => simp [hu] at ht
 rw [hv] at hd
 obtain ⟨ds, h1, h2⟩ := trod_opn m t [q] n _ _ hs hd hz
 cases h1 with
 | cons h1 h1' =>
  cases h1'
  rename_i d1
  have h3 : FitN N d1 q := h2.2 0 _ q rfl rfl
  refine ⟨d1, ?_, h3⟩
  cases h3 <;> exact h1
end
abbrev Fit := FitN maxLen
abbrev FitL := FitLN maxLen
section
variable {H : Type} {enc : TypeId × Value → H} {P : Program} {w : World} {base : Nat} {spare : Nat → Bool} {held : Bool}
theorem open_cell {r : Reach} {b0 : Nat} {t : TypeId} {v : Value} {d : DataW H} {ps : List MemPlace} {m : Nat} {q : Sh} (ht : (match P.underlying t with | some (.int _) | some .bool | some .string | some (.slice _) => true | _ => false) = true)
  (hs : shT P m t = some [q]) (hval : Value.okWide P w r b0 t v) (hd : DataW.Trod enc P w base spare held t v d ps) : ∃ x, URep (Kall w) v x ∧ Fit x q := open_cellN ht hs hval hd (.inl (Nat.le_refl _))
end
/-! Data of a shape, as plain data. -/
def okI (k : IntKind) (n : Int) : Prop := (Lit.int k n).wf = true
def okB (_ : Bool) : Prop := True
def okSN (N : Nat) (s : ByteArray) : Prop := s.size ≤ N
def okLN (N : Nat) {α : Type} (ok : α → Prop) (l : List α) : Prop := l.length ≤ N ∧ ∀ x ∈ l, ok x
abbrev okS := okSN maxLen
abbrev okL {α : Type} (ok : α → Prop) (l : List α) : Prop := okLN maxLen ok l
section
variable {N : Nat}
theorem fit_i {k : IntKind} {d : DV} (h : FitN N d (.ti k)) : ∃ n, d = .val (.int k n) ∧ okI k n := by cases h with | i h => exact ⟨_, rfl, h⟩
theorem fit_l {α : Type} {e : α → List DV} {ok : α → Prop} {shs : List Sh} {sz : Nat} (hsz : shs.length = sz) (he : ∀ ch, FitLN N ch shs → ∃ x, ch = e x ∧ ok x) {d : DV} (h : FitN N d (.tl shs)) :
  ∃ l : List α, d = .slc false none sz (l.map e) ∧ okLN N ok l := by
 subst hsz
 cases h with
 | l h1 h2' h2'' =>
  have h2 : ∀ ch : List DV, ch ∈ _ → FitLN N ch shs := fun ch hc => ⟨h2' ch hc, h2'' ch hc⟩
  rename_i es
  obtain ⟨l, hl, hx⟩ := exists_list es.length (fun i (x : α) => es[i]? = some (e x) ∧ ok x) fun i hi => by
   obtain ⟨x, h3, h4⟩ := he _ (h2 es[i] (List.getElem_mem hi))
   exact ⟨x, by rw [List.getElem?_eq_getElem hi, h3], h4⟩
  refine ⟨l, ?_, by omega, fun x hm => ?_⟩
  ·congr 1
   apply List.ext_getElem?
   intro i
   rw [List.getElem?_map]
   cases hli : l[i]? with
   | none => simp at hli ⊢; omega
   | some x => exact (hx i x hli).1
  ·obtain ⟨i, hi⟩ := List.getElem?_of_mem hm
   exact (hx i x hi).2
theorem fitL_nil {ch : List DV} (h : FitLN N ch []) : ch = [] := List.length_eq_zero_iff.1 h.1
theorem fitL_cons {ch : List DV} {q : Sh} {shs : List Sh} (h : FitLN N ch (q :: shs)) : ∃ d r, ch = d :: r ∧ FitN N d q ∧ FitLN N r shs := by
 cases ch with
 | nil => have := h.1; simp at this
 | cons d r => exact ⟨d, r, rfl, h.2 0 d q rfl rfl, by have := h.1; simpa using this, fun j d s hd hs => h.2 (j + 1) d s (by simpa using hd) (by simpa using hs)⟩
theorem fitL_one {α : Type} {q : Sh} {f : α → DV} {ok : α → Prop} (he : ∀ d, FitN N d q → ∃ x, d = f x ∧ ok x) {ch : List DV} (h : FitLN N ch [q]) : ∃ x, ch = [f x] ∧ ok x := by
 obtain ⟨d, r, rfl, h1, h2⟩ := fitL_cons h
 obtain ⟨x, rfl, hx⟩ := he d h1
 rw [fitL_nil h2]
 exact ⟨x, rfl, hx⟩
end
end Go.Proofs.Ytknkeabmjleoiaa.Vam
