/- A machine by value for the program's code, and that it is true of the model: part 3 of 3. -/
import Derived.Test.YtknkeabmjleoiaaVam11
import Derived.KernelRfl
import Derived.ChangeArms
import Derived.OpenShut
import Derived.WideShapes
/- The machine by value: how the walk of a told function is put together, piece by piece. -/
namespace Go.Proofs.Ytknkeabmjleoiaa.Vam
open Go
set_option linter.unusedVariables false

/-- What is given ahead, one by one. -/
inductive Hs : List Prop → Prop where
  | nil : Hs []
  | cons {p : Prop} {ps : List Prop} : p → Hs ps → Hs (p :: ps)
def conjL : List Prop → Prop → Prop
  | [], q => q
  | p :: ps, q => p ∧ conjL ps q
theorem Hs.conj {ps : List Prop} {q : Prop} (h : Hs ps) (hq : q) : conjL ps q := by
  induction h with
  | nil => exact hq
  | cons h _ ih => exact ⟨h, ih⟩
def vsL (l : List (Pl × List AV)) : List (List AV) := l.map fun e => e.2
def WkC (σ : St) (l : List (Pl × List AV)) : Prop := (l.map fun e => fgTo e.1 e.2 (nrm σ (σ e.1).vs)) = vsL l ∧ (l.all fun e => (σ e.1).live) = true ∧ wfL l = true
def tailC (l : List (Pl × List AV)) : Prop := vsL l = vsL l ∧ true = true ∧ true = true
theorem tailC_ok (l : List (Pl × List AV)) : tailC l := ⟨rfl, rfl, rfl⟩
theorem WkC.weak {σ : St} {l : List (Pl × List AV)} (h : WkC σ l) : Weak σ l := ⟨h.1, h.2.1, h.2.2⟩
theorem wk_of {σ : St} {l : List (Pl × List AV)} (h : tailC l = WkC σ l) : Weak σ l := (cast h (tailC_ok l)).weak

/-- Where a piece of code lies. -/
def cL : Code → Code
  | .seq x _ => x
  | _ => .skip
def cR : Code → Code
  | .seq _ y => y
  | _ => .skip
def cT : Code → Code
  | .cond _ x _ => x
  | _ => .skip
def cE : Code → Code
  | .cond _ _ y => y
  | _ => .skip
def cB : Code → Code
  | .block _ x => x
  | .loop x => x
  | _ => .skip
def isSeq : Code → Bool
  | .seq _ _ => true
  | _ => false
def isSkip : Code → Bool
  | .skip => true
  | .label _ => true
  | _ => false
def isRet : Code → Bool
  | .ret => true
  | _ => false
def isExit (n : Nat) : Code → Bool
  | .exit m => Nat.beq m n
  | _ => false
def isBlock (n : Nat) : Code → Bool
  | .block m _ => Nat.beq m n
  | _ => false
def isLoop : Code → Bool
  | .loop _ => true
  | _ => false
/-- What is left to be done behind a piece. -/
inductive Kt where
  | seq (c : Code)
  | blk (n : Nat)
  | lp (c : Code)
inductive Tg where
  | code (c : Code) (ks : List Kt)
  | fin (e : Way)
def pop : List Kt → Way → Tg
  | [], e => .fin e
  | .seq y :: ks, .normal => .code y ks
  | .seq _ :: ks, .exit m => pop ks (.exit m)
  | .seq _ :: ks, .ret => pop ks .ret
  | .blk n :: ks, .exit m => bif Nat.beq m n then pop ks .normal else pop ks (.exit m)
  | .blk _ :: ks, .normal => pop ks .normal
  | .blk _ :: ks, .ret => pop ks .ret
  | .lp y :: ks, .normal => .code y ks
  | .lp _ :: ks, .exit m => pop ks (.exit m)
  | .lp _ :: ks, .ret => pop ks .ret
section
variable (P : Program) (O : Nat → Nat) (C : Query → Answer → Prop)
def WKe : List Kt → Way → St → (Way → St → Prop) → Prop
  | [], e, σ, F => F e σ
  | .seq y :: ks, .normal, σ, F => ∃ e τ, Run P O C y σ e τ ∧ WKe ks e τ F
  | .seq _ :: ks, .exit m, σ, F => WKe ks (.exit m) σ F
  | .seq _ :: ks, .ret, σ, F => WKe ks .ret σ F
  | .blk n :: ks, .exit m, σ, F => bif Nat.beq m n then WKe ks .normal σ F else WKe ks (.exit m) σ F
  | .blk _ :: ks, .normal, σ, F => WKe ks .normal σ F
  | .blk _ :: ks, .ret, σ, F => WKe ks .ret σ F
  | .lp y :: ks, .normal, σ, F => ∃ e τ, Run P O C y σ e τ ∧ WKe ks e τ F
  | .lp _ :: ks, .exit m, σ, F => WKe ks (.exit m) σ F
  | .lp _ :: ks, .ret, σ, F => WKe ks .ret σ F
def WK (c : Code) (ks : List Kt) (σ : St) (F : Way → St → Prop) : Prop := ∃ e τ, Run P O C c σ e τ ∧ WKe P O C ks e τ F
def regS (c : Code) (l : List (Pl × List AV)) (g : List Gv) (l' : List (Pl × List AV)) : Prop := match c with
  | .region _ ops d => regW P O C ops d (ofL l) g fun τ => WkC τ l'
  | _ => False
end
section
variable {P : Program} {O : Nat → Nat} {C : Query → Answer → Prop} {c y : Code} {ks ks' : List Kt} {σ : St} {F : Way → St → Prop} {l l' : List (Pl × List AV)}
theorem WKe.code : ∀ {ks : List Kt} {e : Way}, pop ks e = .code y ks' → WK P O C y ks' σ F → WKe P O C ks e σ F
  | [], e, h, _ => by cases h
  | .seq z :: ks, .normal, h, hk => by cases h; exact hk
  | .seq z :: ks, .exit m, h, hk => WKe.code (ks := ks) h hk
  | .seq z :: ks, .ret, h, hk => WKe.code (ks := ks) h hk
  | .blk n :: ks, .exit m, h, hk => by
    simp only [pop] at h
    simp only [WKe]
    cases hb : Nat.beq m n with
    | true => rw [hb] at h; exact WKe.code (ks := ks) h hk
    | false => rw [hb] at h; exact WKe.code (ks := ks) h hk
  | .blk n :: ks, .normal, h, hk => WKe.code (ks := ks) h hk
  | .blk n :: ks, .ret, h, hk => WKe.code (ks := ks) h hk
  | .lp z :: ks, .normal, h, hk => by cases h; exact hk
  | .lp z :: ks, .exit m, h, hk => WKe.code (ks := ks) h hk
  | .lp z :: ks, .ret, h, hk => WKe.code (ks := ks) h hk
theorem WKe.fin : ∀ {ks : List Kt} {e e' : Way}, pop ks e = .fin e' → F e' σ → WKe P O C ks e σ F
  | [], e, e', h, hk => by cases h; exact hk
  | .seq z :: ks, .normal, e', h, hk => by cases h
  | .seq z :: ks, .exit m, e', h, hk => WKe.fin (ks := ks) h hk
  | .seq z :: ks, .ret, e', h, hk => WKe.fin (ks := ks) h hk
  | .blk n :: ks, .exit m, e', h, hk => by
    simp only [pop] at h
    simp only [WKe]
    cases hb : Nat.beq m n with
    | true => rw [hb] at h; exact WKe.fin (ks := ks) h hk
    | false => rw [hb] at h; exact WKe.fin (ks := ks) h hk
  | .blk n :: ks, .normal, e', h, hk => WKe.fin (ks := ks) h hk
  | .blk n :: ks, .ret, e', h, hk => WKe.fin (ks := ks) h hk
  | .lp z :: ks, .normal, e', h, hk => by cases h
  | .lp z :: ks, .exit m, e', h, hk => WKe.fin (ks := ks) h hk
  | .lp z :: ks, .ret, e', h, hk => WKe.fin (ks := ks) h hk
theorem WK.seq (hs : isSeq c = true) (h : WK P O C (cL c) (.seq (cR c) :: ks) σ F) : WK P O C c ks σ F := by
  cases c with
  | seq x z =>
    obtain ⟨e, τ, h1, h2⟩ := h
    cases e with
    | normal => obtain ⟨e', τ', h3, h4⟩ := h2; exact ⟨e', τ', .seqN h1 h3, h4⟩
    | exit m => exact ⟨_, _, .seqX h1 (by intro g; cases g), h2⟩
    | ret => exact ⟨_, _, .seqX h1 (by intro g; cases g), h2⟩
  | _ => cases hs
theorem regS_run {As : List Prop} {g : List Gv} (hH : Hs As) (hr : conjL As (tailC l') = regS P O C c l g l') : ∃ τ, Run P O C c (ofL l) .normal τ ∧ Weak τ l' := by
  have h := cast hr (hH.conj (tailC_ok l'))
  cases c with
  | region n ops d =>
    obtain ⟨τ, h1, h2⟩ := regW_sound P O C h
    exact ⟨τ, .region h1, h2.weak⟩
  | _ => exact h.elim
theorem WK.weak (hw : Weak σ l) (h : WK P O C c ks (ofL l) F) : WK P O C c ks σ F := by
  obtain ⟨e, τ, h1, h2⟩ := h
  exact ⟨e, τ, .weak l hw h1, h2⟩
def shrS (C : Query → Answer → Prop) (x : Operand) (l l' : List (Pl × List AV)) : Prop := (do take false (← opd x) : Pr AV).w C (ofL l) [] [] [] fun _ τ _ _ _ => WkC τ l'
/-- From here on nobody writes what a temporary holds. -/
theorem WK.share {x : Operand} (hr : tailC l' = shrS C x l l') (hk : WK P O C c ks (ofL l') F) : WK P O C c ks (ofL l) F := by
  have hs : shrS C x l l' := cast hr (tailC_ok l')
  obtain ⟨a, σ', g', R, W, h1, h2⟩ := Pr.w_sound C _ hs
  obtain ⟨e, τ, h3, h4⟩ := WK.weak h2.weak hk
  exact ⟨e, τ, .share h1 h3, h4⟩
def shrO (C : Query → Answer → Prop) (i cc : Nat) (l l' : List (Pl × List AV)) : Prop := (take false (.ref (.o i) 0 cc none)).w C (ofL l) [] [] [] fun _ τ _ _ _ => WkC τ l'
/-- From here on nobody writes what lies in an object's cell. -/
theorem WK.shareO {i cc : Nat} (h0 : (ofL l (.o i)).live = true) (h1 : Nat.blt cc (ofL l (.o i)).vs.length = true) (hr : tailC l' = shrO C i cc l l') (hk : WK P O C c ks (ofL l') F) : WK P O C c ks (ofL l) F := by
  have hs : shrO C i cc l l' := cast hr (tailC_ok l')
  obtain ⟨a, σ', g', R, W, h1', h2⟩ := Pr.w_sound C _ hs
  obtain ⟨e, τ, h3, h4⟩ := WK.weak h2.weak hk
  exact ⟨e, τ, .shareO h0 (by rw [Nat.blt_eq] at h1; exact h1) h1' h3, h4⟩
/-- From here on an object is known memory. -/
theorem WK.freeze {t i : Nat} {ds : List DV} {l1 : List (Pl × List AV)} (h1 : ((ofL l) (.t t)).vs = [.ptr i 0]) (h2 : ((ofL l) (.o i)).vs = ds.map AV.data) (h3 : ((ofL l) (.o i)).live = true) (h4 : ds.all (fun d => !d.owned1 && d.cell) = true)
    (h5 : Weak (ofL l) l1) (h6 : hasO l1 i = false) (h7 : Weak ((ofL l1).put (.t t) ⟨[.cptr ds], true, 1⟩) l') (hk : WK P O C c ks (ofL l') F) : WK P O C c ks (ofL l) F := by
  obtain ⟨e, τ, h8, h9⟩ := WK.weak h7 hk
  exact ⟨e, τ, .freeze l1 h1 h2 h3 h4 h5 h6 h8, h9⟩
/-- A region, with what stands behind it. -/
theorem WK.rs {As : List Prop} {g : List Gv} (hs : isSeq c = true) (hH : Hs As) (hr : conjL As (tailC l') = regS P O C (cL c) l g l') (hk : WK P O C (cR c) ks (ofL l') F) : WK P O C c ks (ofL l) F := by
  obtain ⟨τ, h1, h2⟩ := regS_run hH hr
  refine WK.seq hs ⟨_, τ, h1, ?_⟩
  exact WK.weak h2 hk
theorem WK.r {As : List Prop} {g : List Gv} (hH : Hs As) (hr : conjL As (tailC l') = regS P O C c l g l') (hk : ∀ τ, Weak τ l' → WKe P O C ks .normal τ F) : WK P O C c ks (ofL l) F := by
  obtain ⟨τ, h1, h2⟩ := regS_run hH hr
  exact ⟨_, τ, h1, hk τ h2⟩
theorem WK.rc {As : List Prop} {g : List Gv} (hH : Hs As) (hr : conjL As (tailC l') = regS P O C c l g l') (hp : pop ks .normal = .code y ks') (hk : WK P O C y ks' (ofL l') F) : WK P O C c ks (ofL l) F := by
  obtain ⟨τ, h1, h2⟩ := regS_run hH hr
  exact ⟨_, τ, h1, WKe.code hp (WK.weak h2 hk)⟩
theorem WK.skip (hs : isSkip c = true) (h : WKe P O C ks .normal σ F) : WK P O C c ks σ F := by
  cases c with
  | skip => exact ⟨_, _, .skip, h⟩
  | label n => exact ⟨_, _, .label, h⟩
  | _ => cases hs
theorem WK.ret (hs : isRet c = true) (h : WKe P O C ks .ret σ F) : WK P O C c ks σ F := by
  cases c with
  | ret => exact ⟨_, _, .ret, h⟩
  | _ => cases hs
theorem WK.exit {n : Nat} (hs : isExit n c = true) (h : WKe P O C ks (.exit n) σ F) : WK P O C c ks σ F := by
  cases c with
  | exit m =>
    have := Nat.eq_of_beq_eq_true hs
    subst this
    exact ⟨_, _, .exit, h⟩
  | _ => cases hs
/-- What a branch is taken by. -/
def cnd (σ : St) : Code → Option Bool
  | .cond o _ _ => opB σ o
  | _ => none
theorem WK.ct {b : Bool} (hs : cnd σ c = some b) (hb : b = true) (h : WK P O C (cT c) ks σ F) : WK P O C c ks σ F := by
  cases c with
  | cond o x z =>
    subst hb
    obtain ⟨e, τ, h1, h2⟩ := h
    exact ⟨e, τ, .cond hs h1, h2⟩
  | _ => cases hs
theorem WK.ce {b : Bool} (hs : cnd σ c = some b) (hb : b = false) (h : WK P O C (cE c) ks σ F) : WK P O C c ks σ F := by
  cases c with
  | cond o x z =>
    subst hb
    obtain ⟨e, τ, h1, h2⟩ := h
    exact ⟨e, τ, .cond hs h1, h2⟩
  | _ => cases hs
theorem WK.block {n : Nat} (hs : isBlock n c = true) (h : WK P O C (cB c) (.blk n :: ks) σ F) : WK P O C c ks σ F := by
  cases c with
  | block m x =>
    have := Nat.eq_of_beq_eq_true hs
    subst this
    obtain ⟨e, τ, h1, h2⟩ := h
    cases e with
    | normal => exact ⟨_, _, .blockN h1, h2⟩
    | ret => exact ⟨_, _, .blockX h1 (by intro g; cases g) (by intro g; cases g), h2⟩
    | exit j =>
      simp only [WKe] at h2
      cases hb : Nat.beq j m with
      | true =>
        rw [hb] at h2
        have := Nat.eq_of_beq_eq_true hb
        subst this
        exact ⟨_, _, .blockE h1, h2⟩
      | false =>
        rw [hb] at h2
        refine ⟨_, _, .blockX h1 (by intro g; cases g) (fun g => ?_), h2⟩
        cases g
        exact absurd rfl (Nat.ne_of_beq_eq_false hb)
  | _ => cases hs
theorem WK.loop (hs : isLoop c = true) (h : WK P O C (cB c) (.lp c :: ks) σ F) : WK P O C c ks σ F := by
  cases c with
  | loop x =>
    obtain ⟨e, τ, h1, h2⟩ := h
    cases e with
    | normal => obtain ⟨e', τ', h3, h4⟩ := h2; exact ⟨e', τ', .loopS h1 h3, h4⟩
    | exit m => exact ⟨_, _, .loopX h1 (by intro g; cases g), h2⟩
    | ret => exact ⟨_, _, .loopX h1 (by intro g; cases g), h2⟩
  | _ => cases hs
theorem WK.use {F' : Way → St → Prop} (h : WK P O C c [] σ F') (hk : ∀ e τ, F' e τ → WKe P O C ks e τ F) : WK P O C c ks σ F := by
  obtain ⟨e, τ, h1, h2⟩ := h
  exact ⟨e, τ, h1, hk e τ h2⟩
end
section
variable (P : Program)
abbrev Ck : Query → Answer → Prop := Asks (Meets P)
def Fin (O : Nat → Nat) (fn : Func) (n : Nat) (r : Answer) : Way → St → Prop := fun e σ => (e = .normal ∨ e = .ret) ∧ ∃ R W σ', Ex (fun _ _ => False) (finPr P O fn n) σ R W r σ'
end
section
variable {P : Program} {O : Nat → Nat} {l : List (Pl × List AV)}
theorem fin_of {fn : Func} {n : Nat} {r : Answer} {As : List Prop} {g : List Gv} {e : Way} (he : e = .normal ∨ e = .ret) (hH : Hs As) (h : conjL As (r = r) = (finPr P O fn n).w (fun _ _ => False) (ofL l) g [] [] fun a _ _ _ _ => a = r) : Fin P O fn n r e (ofL l) := by
  refine ⟨he, ?_⟩
  obtain ⟨a, σ', g', R, W, h1, h2⟩ := Pr.w_sound (fun _ _ => False) _ (cast h (hH.conj rfl))
  subst h2
  exact ⟨R, W, σ', h1⟩
def regF (P : Program) (O : Nat → Nat) (fn : Func) (n : Nat) (c : Code) (l : List (Pl × List AV)) (g : List Gv) (r : Answer) : Prop := match c with
  | .region _ ops d => regW P O (Ck P) ops d (ofL l) g fun τ => (finPr P O fn n).w (fun _ _ => False) τ [] [] [] fun a _ _ _ _ => a = r
  | _ => False
/-- A region at a function's end. -/
theorem WK.rf {fn : Func} {n : Nat} {r : Answer} {c : Code} {ks : List Kt} {As : List Prop} {g : List Gv} (hH : Hs As) (hr : conjL As (r = r) = regF P O fn n c l g r) (hp : pop ks .normal = .fin .normal) : WK P O (Ck P) c ks (ofL l) (Fin P O fn n r) := by
  have h := cast hr (hH.conj rfl)
  cases c with
  | region m ops d =>
    obtain ⟨τ, h1, h2⟩ := regW_sound P O (Ck P) h
    obtain ⟨a, σ', g', R, W, h3, h4⟩ := Pr.w_sound (fun _ _ => False) _ h2
    subst h4
    exact ⟨_, τ, .region h1, WKe.fin hp ⟨.inl rfl, R, W, σ', h3⟩⟩
  | _ => exact h.elim
def fnChk (P : Program) (f : FuncId) (n : Nat) : Option (Func × Code) := match P.funcs[f]? with
  | some fn => match fn.body with
    | some code => bif !(fn.name == "runtime.NumGoroutine") && (decide (fn.ntmps ≤ 1000) && codeOk fn.ntmps code) && decide (n ≤ 1000) then some (fn, code) else none
    | none => none
  | none => none
/-- A function meets what its walk shows. -/
theorem meets_of (hm : P.follows .mixedOrders = true) {f : FuncId} {fn : Func} {code : Code} {args : List AV} {objs : List (List AV)} {r : Answer} (hf : fnChk P f objs.length = some (fn, code))
    (h : WK P O (Ck P) code [] (entry args objs) (Fin P O fn objs.length r)) : Meets P ⟨f, args, objs⟩ r := by
  unfold fnChk at hf
  split at hf
  · rename_i fn' hfn
    split at hf
    · rename_i code' hcode
      cases hb : (!(fn'.name == "runtime.NumGoroutine") && (decide (fn'.ntmps ≤ 1000) && codeOk fn'.ntmps code') && decide (objs.length ≤ 1000)) with
      | false => rw [hb] at hf; cases hf
      | true =>
        rw [hb] at hf
        cases hf
        simp only [Bool.and_eq_true] at hb
        obtain ⟨e, σ, h1, h2, R, W, σ', h3⟩ := h
        refine runF_ok hm (os := fun _ => O) (E := Meets P) (fun _ _ h => h) (n := 1) (.inr ⟨fn, code, σ, e, R, W, σ', hfn, hcode, by simpa using hb.1.1, by rw [Bool.and_eq_true]; exact hb.1.2, hb.2, h1, h2, h3⟩)
    · cases hf
  · cases hf
end
/-- Short words for values. -/
abbrev Wy := Way
abbrev iv (n : Int) : AV := .data (.val (.int .i64 n))
abbrev bv (b : Bool) : AV := .data (.val (.bool b))
abbrev sv (s : ByteArray) : AV := .data (.val (.string s))
abbrev w64 (n : Int) : Int := IntKind.i64.wrap n
abbrev w8 (n : Int) : Int := IntKind.u8.wrap n
def vshl (k : IntKind) (a b : Int) : Int := k.wrap (a * 2 ^ (min b.toNat k.bits))
def vshr (k : IntKind) (a b : Int) : Int := a.fdiv (2 ^ (min b.toNat k.bits))
def vand (k : IntKind) (a b : Int) : Int := k.wrap ((BitVec.ofInt k.bits a &&& BitVec.ofInt k.bits b).toNat)
def vor (k : IntKind) (a b : Int) : Int := k.wrap ((BitVec.ofInt k.bits a ||| BitVec.ofInt k.bits b).toNat)
def vxor (k : IntKind) (a b : Int) : Int := k.wrap ((BitVec.ofInt k.bits a ^^^ BitVec.ofInt k.bits b).toNat)
def vandNot (k : IntKind) (a b : Int) : Int := k.wrap ((BitVec.ofInt k.bits a &&& ~~~BitVec.ofInt k.bits b).toNat)
def byteAt (s : ByteArray) (i : Int) : Int := (s.data.toList.getD i.toNat 0).toNat
/-- Elements as cells. -/
def e_i64 (n : Int) : List DV := [.val (.int .i64 n)]
def e_i32 (n : Int) : List DV := [.val (.int .i32 n)]
def e_u8 (n : Int) : List DV := [.val (.int .u8 n)]
def e_u16 (n : Int) : List DV := [.val (.int .u16 n)]
def e_u32 (n : Int) : List DV := [.val (.int .u32 n)]
def e_u64 (n : Int) : List DV := [.val (.int .u64 n)]
def e_b (b : Bool) : List DV := [.val (.bool b)]
def e_s (s : ByteArray) : List DV := [.val (.string s)]
def e_l {α : Type} (sz : Nat) (e : α → List DV) (l : List α) : List DV := [.slc false none sz (l.map e)]
def bytesL (u : ByteArray) : List Int := u.data.toList.map fun b => (b.toNat : Int)
def strB (l : List Int) : ByteArray := strOf (l.map e_u8)
/-- What told functions are made of. -/
def gd {α : Type} (b : Bool) (k : Option α) : Option α := bif b then k else none
def br {α : Type} (b : Bool) (x y : Option α) : Option α := bif b then x else y
def ix {α β : Type} (l : List α) (i : Int) (k : α → Option β) : Option β := bif decide (0 ≤ i) then (match l[i.toNat]? with
  | some x => k x
  | none => none) else none
def bd {α β : Type} (o : Option α) (k : α → Option β) : Option β := match o with
  | some x => k x
  | none => none
def jn {α β : Type} (k : α) (m : α → β) : β := m k
section
variable {α β : Type}
theorem gd_inv {b : Bool} {k : Option α} {r : α} (h : gd b k = some r) : b = true ∧ k = some r := by
  cases b with
  | true => exact ⟨rfl, h⟩
  | false => cases h
theorem br_inv {b : Bool} {x y : Option α} {r : α} (h : br b x y = some r) : (b = true ∧ x = some r) ∨ (b = false ∧ y = some r) := by
  cases b with
  | true => exact .inl ⟨rfl, h⟩
  | false => exact .inr ⟨rfl, h⟩
theorem ix_inv {l : List α} {i : Int} {k : α → Option β} {r : β} (h : ix l i k = some r) : ∃ x, 0 ≤ i ∧ l[i.toNat]? = some x ∧ k x = some r := by
  unfold ix at h
  by_cases h0 : 0 ≤ i
  · rw [decide_eq_true h0] at h
    simp only [cond_true] at h
    split at h
    · rename_i x hx; exact ⟨x, h0, hx, h⟩
    · cases h
  · rw [decide_eq_false h0] at h; cases h
theorem bd_inv {o : Option α} {k : α → Option β} {r : β} (h : bd o k = some r) : ∃ x, o = some x ∧ k x = some r := by
  cases o with
  | some x => exact ⟨x, rfl, h⟩
  | none => cases h
theorem jn_inv {k : α} {m : α → Option β} {r : β} (h : jn k m = some r) : ∃ k', k' = k ∧ m k' = some r := ⟨k, rfl, h⟩
theorem some_inj {a b : α} (h : some a = some b) : a = b := Option.some.inj h
theorem no_none {a : α} {p : Prop} (h : none = some a) : p := by cases h
theorem c_ix {e : α → List DV} {l : List α} {i : Int} {x : α} (h0 : 0 ≤ i) (h : l[i.toNat]? = some x) : decide (0 ≤ i ∧ i < ((List.map e l).length : Int)) = true := by
  have := (List.getElem?_eq_some_iff.1 h).1
  rw [List.length_map]
  exact decide_eq_true ⟨h0, by omega⟩
theorem c_el {e : α → List DV} {l : List α} {i : Nat} {x : α} (h : l[i]? = some x) : (List.map e l)[i]? = some (e x) := by
  rw [List.getElem?_map, h]; rfl
theorem c_len {e : α → List DV} {l : List α} : [AV.data (.val (.int .i64 ((List.map e l).length : Int)))] = [iv (l.length : Int)] := by rw [List.length_map]
theorem c_al {e : α → List DV} {f : β → List DV} {l : List α} {m : List β} (h : decide (l.length + m.length ≤ 4294967296) = true) : decide ((List.map e l).length + (List.map f m).length ≤ 4294967296) = true := by
  rw [List.length_map, List.length_map]; exact h
theorem c_app {e : α → List DV} {s : Nat} {l m : List α} : DV.slc true none s (List.map e l ++ List.map e m) = .slc true none s (List.map e (l ++ m)) := by rw [List.map_append]
theorem bytesC_eq (u : ByteArray) : bytesC u = List.map e_u8 (bytesL u) := by
  unfold bytesC bytesL
  rw [List.map_map]; rfl
theorem c_als {e : α → List DV} {l : List α} {u : ByteArray} (h : decide (l.length + u.size ≤ 4294967296) = true) : decide ((List.map e l).length + (bytesC u).length ≤ 4294967296) = true := by
  rw [List.length_map, bytesC_len]; exact h
theorem c_apps {l : List Int} {u : ByteArray} : DV.slc true none 1 (List.map e_u8 l ++ bytesC u) = .slc true none 1 (List.map e_u8 (l ++ bytesL u)) := by rw [bytesC_eq, List.map_append]
theorem c_apps0 {u : ByteArray} : DV.slc true none 1 (bytesC u) = .slc true none 1 (List.map e_u8 (bytesL u)) := by rw [bytesC_eq]
theorem c_bytes {u : ByteArray} : DV.slc true none 1 (bytesC u) = .slc true none 1 (List.map e_u8 (bytesL u)) := by rw [bytesC_eq]
theorem c_ab (l : List Int) : allBytes (List.map e_u8 l) = true := by
  induction l with
  | nil => rfl
  | cons n r ih => exact ih
theorem c_rep {e : α → List DV} {s n : Nat} {x : α} : DV.slc true (some false) s (List.replicate n (e x)) = .slc true (some false) s (List.map e (List.replicate n x)) := by rw [List.map_replicate]
theorem c_alz {e : α → List DV} {l : List α} {n : Nat} (h : decide (l.length + n ≤ 4294967296) = true) : decide ((List.map e l).length + n ≤ 4294967296) = true := by rw [List.length_map]; exact h
theorem c_appz {e : α → List DV} {s n : Nat} {l : List α} {x : α} : DV.slc true none s (List.map e l ++ List.replicate n (e x)) = .slc true none s (List.map e (l ++ List.replicate n x)) := by rw [List.map_append, List.map_replicate]
theorem c_set {e : α → List DV} {s : Nat} {nl : Option Bool} {l : List α} {i : Nat} {x : α} : DV.slc true nl s ((List.map e l).set i (e x)) = .slc true nl s (List.map e (l.set i x)) := by rw [List.map_set]
section
variable {own : Bool} {nl : Option Bool} {s : Nat} {e : α → List DV} {l : List α}
theorem c_cutA : DV.slc own nl s (((List.map e l).take ((List.map e l).length : Int).toNat).drop (0 : Int).toNat) = .slc own nl s (List.map e l) := by rw [Int.toNat_natCast, List.take_of_length_le (Nat.le_refl _)]; rfl
theorem c_cutL {lo : Nat} : DV.slc own nl s (((List.map e l).take ((List.map e l).length : Int).toNat).drop lo) = .slc own nl s (List.map e (List.drop lo l)) := by rw [Int.toNat_natCast, List.take_of_length_le (Nat.le_refl _), List.map_drop]
theorem c_cutH {h : Nat} : DV.slc own nl s (((List.map e l).take h).drop (0 : Int).toNat) = .slc own nl s (List.map e (List.take h l)) := by simp [List.map_take]
theorem c_cut {lo h : Nat} : DV.slc own nl s (((List.map e l).take h).drop lo) = .slc own nl s (List.map e (List.drop lo (List.take h l))) := by simp [List.map_take, List.map_drop]
theorem c_cbA : decide ((0 : Int) ≤ 0 ∧ (0 : Int) ≤ ((List.map e l).length : Int) ∧ ((List.map e l).length : Int) ≤ ((List.map e l).length : Int)) = true := decide_eq_true ⟨by omega, by omega, by omega⟩
theorem c_cbL {lo : Int} (h : decide (0 ≤ lo ∧ lo ≤ (l.length : Int)) = true) : decide (0 ≤ lo ∧ lo ≤ ((List.map e l).length : Int) ∧ ((List.map e l).length : Int) ≤ ((List.map e l).length : Int)) = true := by
  have := of_decide_eq_true h
  rw [List.length_map]
  exact decide_eq_true ⟨this.1, this.2, by omega⟩
theorem c_cbH {hi : Int} (h : decide (0 ≤ hi ∧ hi ≤ (l.length : Int)) = true) : decide ((0 : Int) ≤ 0 ∧ 0 ≤ hi ∧ hi ≤ ((List.map e l).length : Int)) = true := by
  have := of_decide_eq_true h
  rw [List.length_map]
  exact decide_eq_true ⟨by omega, this.1, this.2⟩
theorem c_cb {lo hi : Int} (h : decide (0 ≤ lo ∧ lo ≤ hi ∧ hi ≤ (l.length : Int)) = true) : decide (0 ≤ lo ∧ lo ≤ hi ∧ hi ≤ ((List.map e l).length : Int)) = true := by
  rw [List.length_map]; exact h
end
end
theorem c_ib {i : Int} {j n : Nat} (h : (i == (j : Int)) = true) (hj : decide (j < n) = true) : decide (0 ≤ i ∧ i < (n : Int)) = true := by
  have := of_decide_eq_true hj
  rw [beq_iff_eq] at h
  exact decide_eq_true (by omega)
theorem c_ii {i : Int} {j : Nat} (h : (i == (j : Int)) = true) : i.toNat = j := by
  rw [beq_iff_eq] at h; omega
end Go.Proofs.Ytknkeabmjleoiaa.Vam
/- The machine by value and the model: what an argument reads as, as data. -/
namespace Go.Proofs.Ytknkeabmjleoiaa.Vam
open Go Go.RowKit Go.WideShapes
set_option linter.unusedVariables false
set_option linter.unusedSimpArgs false
/-- The shape of a cell. -/
inductive Sh where
  | ti (k : IntKind) | tb | ts | tl (es : List Sh)
/-- The shapes of a type's cells. -/
def shF (T : TypeId → Option (List Sh)) (P : Program) : Nat → List Field → Option (List Sh)
  | _, [] => some []
  | off, f :: fs => match T f.type with
    | some a => if f.offset = off ∧ P.cellsOf f.type = a.length then (shF T P (off + a.length) fs).map (a ++ ·) else none
    | none => none
def shT (P : Program) : Nat → TypeId → Option (List Sh)
  | 0, _ => none
  | n + 1, t => match P.underlying t with
    | some .bool => some [.tb]
    | some (.int k) => some [.ti k]
    | some .string => some [.ts]
    | some (.slice e) => match shT P n e with
      | some es => if P.cellsOf e = es.length ∧ 0 < es.length then some [.tl es] else none
      | none => none
    | some (.struct fs) => match shF (shT P n) P 0 fs.toList with
      | some es => if P.cellsOf t = es.length then some es else none
      | none => none
    | some (.array m e) => match shT P n e with
      | some es => if P.cellsOf e = es.length ∧ P.cellsOf t = m * es.length then some (List.replicate m es).flatten else none
      | none => none
    | _ => none
/-- Data of a shape. -/
inductive Fit : DV → Sh → Prop where
  | i {k : IntKind} {n : Int} : (Lit.int k n).wf = true → Fit (.val (.int k n)) (.ti k)
  | b {b : Bool} : Fit (.val (.bool b)) .tb
  | s {s : ByteArray} : s.size ≤ maxLen → Fit (.val (.string s)) .ts
  | l {es : List (List DV)} {shs : List Sh} : es.length ≤ maxLen → (∀ ch : List DV, ch ∈ es → ch.length = shs.length) → (∀ ch : List DV, ch ∈ es → ∀ (j : Nat) (d : DV) (q : Sh), ch[j]? = some d → shs[j]? = some q → Fit d q) → Fit (.slc false none shs.length es) (.tl shs)
abbrev FitL (ch : List DV) (shs : List Sh) : Prop := ch.length = shs.length ∧ ∀ (j : Nat) (d : DV) (q : Sh), ch[j]? = some d → shs[j]? = some q → Fit d q
/-- Cells that read as data of a shape. -/
def Opn (K : Kn) (cs : List Value) (shs : List Sh) : Prop := ∃ ds, All2 (CRep K) cs ds ∧ FitL ds shs
theorem FitL.append {a b : List DV} {s t : List Sh} (h : FitL a s) (h' : FitL b t) : FitL (a ++ b) (s ++ t) := by
  refine ⟨by simp [h.1, h'.1], fun j d x hd hx => ?_⟩
  rcases Nat.lt_or_ge j a.length with g | g
  · rw [List.getElem?_append_left g] at hd
    rw [List.getElem?_append_left (h.1 ▸ g)] at hx
    exact h.2 j d x hd hx
  · rw [List.getElem?_append_right g] at hd
    rw [List.getElem?_append_right (h.1 ▸ g), ← h.1] at hx
    exact h'.2 _ d x hd hx
theorem Opn.append {K : Kn} {a b : List Value} {s t : List Sh} (h : Opn K a s) (h' : Opn K b t) : Opn K (a ++ b) (s ++ t) := by
  obtain ⟨x, h1, h2⟩ := h
  obtain ⟨y, h3, h4⟩ := h'
  exact ⟨x ++ y, h1.append h3, h2.append h4⟩
theorem Opn.nil {K : Kn} : Opn K [] [] := ⟨[], .nil, rfl, fun j d s h _ => by simp at h⟩
theorem Opn.one {K : Kn} {v : Value} {d : DV} {q : Sh} (h : CRep K v d) (h' : Fit d q) : Opn K [v] [q] := by
  refine ⟨[d], .cons h .nil, rfl, fun j e x he hx => ?_⟩
  cases j with
  | zero => simp at he hx; subst he; subst hx; exact h'
  | succ j => simp at he
theorem exists_list {β : Type} (n : Nat) (Q : Nat → β → Prop) (h : ∀ i, i < n → ∃ b, Q i b) : ∃ l : List β, l.length = n ∧ ∀ i b, l[i]? = some b → Q i b := by
  induction n with
  | zero => exact ⟨[], rfl, fun i b hb => by simp at hb⟩
  | succ n ih =>
    obtain ⟨l, h1, h2⟩ := ih fun i hi => h i (by omega)
    obtain ⟨b, hb⟩ := h n (by omega)
    refine ⟨l ++ [b], by simp [h1], fun i c hc => ?_⟩
    rcases Nat.lt_or_ge i l.length with g | g
    · rw [List.getElem?_append_left g] at hc
      exact h2 i c hc
    · rw [List.getElem?_append_right g] at hc
      have : i = n := by
        have := (List.getElem?_eq_some_iff.1 hc).1
        simp at this
        omega
      subst this
      rw [show i - l.length = 0 by omega] at hc
      simp at hc
      exact hc ▸ hb
theorem cells_at {w : World} {base : Nat} {a : Addr} {n : Nat} {cs : List Value} (h : w.cells? base a n = some cs) : cs.length = n ∧ ∀ j v, cs[j]? = some v → w.cell? (a.add j) = some v := by
  unfold World.cells? at h
  split at h
  · have hl := mapM_some_length h
    refine ⟨by simpa using hl, fun j v hv => ?_⟩
    have hj := (List.getElem?_eq_some_iff.1 hv).1
    have := mapM_some_get h j j (by rw [List.getElem?_range (by simpa [hl] using hj)])
    rw [this, hv]
  · cases h
theorem add_add (a : Addr) (i j : Nat) : ((a.add i).add j).block = a.block ∧ ((a.add i).add j).off = a.off + i + j := by
  unfold Addr.add
  split <;> split <;> refine ⟨rfl, ?_⟩ <;> (try dsimp only) <;> omega
theorem kall_of_cell {w : World} {a : Addr} {v : Value} (h : w.cell? a = some v) : a.spot = none ∧ Kall w a.block a.off = some v := by
  unfold World.cell? at h
  unfold Kall
  split at h
  · split at h
    · cases h
    · rename_i h2
      refine ⟨by simpa using h2, ?_⟩
      rename_i c x y h1
      rw [h1]; exact h
  · cases h
section
variable {H : Type} {enc : TypeId × Value → H} {P : Program} {w : World} {base : Nat} {spare : Nat → Bool} {held : Bool}
theorem shF_ok {T : TypeId → Option (List Sh)} {n : Nat} {cs : List Value}
    (ih : ∀ t shs cs x, T t = some shs → DataW.trod enc P w base spare held n t cs = some x → Opn (Kall w) cs shs) :
    ∀ (fs : List Field) (off : Nat) (shs : List Sh), shF T P off fs = some shs → (∀ (f : Field), f ∈ fs → ∃ x, DataW.trod enc P w base spare held n f.type ((cs.drop f.offset).take (P.cellsOf f.type)) = some x) →
      Opn (Kall w) ((cs.drop off).take shs.length) shs
  | [], off, shs, h, _ => by
    simp only [shF, Option.some.injEq] at h
    subst h
    exact Opn.nil
  | f :: fs, off, shs, h, hf => by
    simp only [shF] at h
    cases ha : T f.type with
    | none => simp [ha] at h
    | some a =>
      simp only [ha] at h
      split at h
      · rename_i hc
        obtain ⟨r, hr, rfl⟩ := Option.map_eq_some_iff.1 h
        obtain ⟨x, hx⟩ := hf f (by simp)
        rw [hc.1, hc.2] at hx
        have h1 := ih _ _ _ _ ha hx
        have h2 := shF_ok ih fs (off + a.length) r hr fun g hg => hf g (by simp [hg])
        have e : (cs.drop off).take (a ++ r).length = (cs.drop off).take a.length ++ (cs.drop (off + a.length)).take r.length := by
          rw [List.length_append, List.take_add, List.drop_drop]
        rw [e]
        exact h1.append h2
      · cases h
theorem shA_ok {n m : Nat} {e : TypeId} {es : List Sh} (ih : ∀ cs x, DataW.trod enc P w base spare held n e cs = some x → Opn (Kall w) cs es) : ∀ (cs : List Value),
      (∀ i, i < m → ∃ x, DataW.trod enc P w base spare held n e ((cs.drop (i * es.length)).take es.length) = some x) → Opn (Kall w) (cs.take (m * es.length)) (List.replicate m es).flatten := by
  induction m with
  | zero => intro cs _; simpa using Opn.nil
  | succ m ihm =>
    intro cs h
    obtain ⟨x, hx⟩ := h 0 (by omega)
    have h1 := ih _ _ hx
    simp only [Nat.zero_mul, List.drop_zero] at h1
    have h2 := ihm (cs.drop es.length) fun i hi => by
      obtain ⟨y, hy⟩ := h (i + 1) (by omega)
      refine ⟨y, ?_⟩
      rw [List.drop_drop, show es.length + i * es.length = (i + 1) * es.length by rw [Nat.add_mul]; omega]
      exact hy
    have e1 : cs.take ((m + 1) * es.length) = cs.take es.length ++ (cs.drop es.length).take (m * es.length) := by
      rw [Nat.add_mul, Nat.one_mul, Nat.add_comm, List.take_add]
    rw [e1, List.replicate_succ, List.flatten_cons]
    exact h1.append h2
theorem trod_opn : ∀ (m : Nat) (t : TypeId) (shs : List Sh) (n : Nat) (cs : List Value) (x : DataW H × List MemPlace), shT P m t = some shs → DataW.trod enc P w base spare held n t cs = some x → Opn (Kall w) cs shs
  | 0, _, _, _, _, _, hs, _ => by simp [shT] at hs
  | m + 1, t, shs, n, cs, x, hs, h => by
    cases ht : P.underlying t with
    | none => simp [shT, ht] at hs
    | some d =>
      cases d with
      | bool =>
        simp only [shT, ht, Option.some.injEq] at hs
        subst hs
        obtain ⟨b, rfl, _⟩ := DataW.trod_bool ht h
        exact .one (.val rfl) .b
      | int k =>
        simp only [shT, ht, Option.some.injEq] at hs
        subst hs
        obtain ⟨b, rfl, _, hw⟩ := DataW.trod_int ht h
        exact .one (.val rfl) (.i hw)
      | string =>
        simp only [shT, ht, Option.some.injEq] at hs
        subst hs
        obtain ⟨b, rfl, _, hw⟩ := DataW.trod_string ht h
        exact .one (.val rfl) (.s hw)
      | slice e =>
        simp only [shT, ht] at hs
        cases he : shT P m e with
        | none => simp [he] at hs
        | some es =>
          simp only [he] at hs
          split at hs
          · rename_i hc
            simp only [Option.some.injEq] at hs
            subst hs
            rcases DataW.trod_slice ht h with ⟨rfl, _⟩ | ⟨a, len, cap, elems, rest, n', _, rfl, _, _, hl, hm, hlen, hel, _, _⟩
            · exact .one (d := .slc false none es.length []) (.nil (by simp)) (.l (by simp) (fun ch hch => by simp at hch) fun ch hch => by simp at hch)
            · have hE : ∀ i, i < len → ∃ c1, w.cells? base (a.add (i * es.length)) es.length = some c1 ∧ ∃ x, DataW.trod enc P w base spare held n' e c1 = some x := fun i hi => by
                have := hel i hi
                rw [hc.1] at this
                obtain ⟨y, hy⟩ : ∃ y, elems[i]? = some y := ⟨_, List.getElem?_eq_getElem (by omega)⟩
                rw [hy, Option.bind_eq_some_iff] at this
                obtain ⟨c1, h1, h2⟩ := this
                exact ⟨c1, h1, y, h2⟩
              obtain ⟨dss, hdl, hds⟩ := exists_list len (fun i ds => ∃ c1, w.cells? base (a.add (i * es.length)) es.length = some c1 ∧ All2 (CRep (Kall w)) c1 ds ∧ FitL ds es) fun i hi => by
                obtain ⟨c1, h1, y, h2⟩ := hE i hi
                obtain ⟨ds, h3, h4⟩ := trod_opn m e es n' c1 y he h2
                exact ⟨ds, c1, h1, h3, h4⟩
              have hfit : Fit (.slc false none es.length dss) (.tl es) := .l (by omega) (fun ch hch => by
                obtain ⟨i, hi⟩ := List.getElem?_of_mem hch
                obtain ⟨_, _, _, h4⟩ := hds i ch hi
                exact h4.1) fun ch hch => by
                obtain ⟨i, hi⟩ := List.getElem?_of_mem hch
                obtain ⟨_, _, _, h4⟩ := hds i ch hi
                exact h4.2
              refine .one ?_ hfit
              rcases Nat.eq_zero_or_pos len with h0 | h0
              · subst h0
                obtain rfl : dss = [] := List.length_eq_zero_iff.1 hdl
                exact .empty (by simp)
              · have hsp : a.spot = none := by
                  obtain ⟨c1, h1, _⟩ := hE 0 h0
                  obtain ⟨hcl, hcv⟩ := cells_at h1
                  obtain ⟨v, hv⟩ : ∃ v, c1[0]? = some v := ⟨_, List.getElem?_eq_getElem (by omega)⟩
                  have := (kall_of_cell (hcv 0 v hv)).1
                  simpa [Addr.add] using this
                have ea : a = ⟨a.block, a.off, none⟩ := by cases a; simp_all
                rw [ea, ← hdl]
                have key : ∀ i j ch d, dss[i]? = some ch → ch[j]? = some d → ∃ v, Kall w a.block (a.off + i * es.length + j) = some v ∧ CRep (Kall w) v d := fun i j ch d hi hj => by
                  obtain ⟨c1, h1, h3, h4⟩ := hds i ch hi
                  obtain ⟨hcl, hcv⟩ := cells_at h1
                  obtain ⟨v, hv, hr⟩ := h3.get hj
                  have := (kall_of_cell (hcv j v hv)).2
                  refine ⟨v, ?_, hr⟩
                  have eo := add_add a (i * es.length) j
                  rw [eo.1, eo.2] at this
                  exact this
                refine .slc (fun i j => (Kall w a.block (a.off + i * es.length + j)).getD undef) (by simp) (by omega) (fun ch hch => ?_) (fun i j ch d hi hj => ?_) (fun i j ch d hi hj => ?_)
                · obtain ⟨i, hi⟩ := List.getElem?_of_mem hch
                  obtain ⟨_, _, _, h4⟩ := hds i ch hi
                  exact h4.1
                · obtain ⟨v, hv, _⟩ := key i j ch d hi hj
                  rw [hv]; rfl
                · obtain ⟨v, hv, hr⟩ := key i j ch d hi hj
                  rw [hv]; exact hr
          · cases hs
      | struct fs =>
        simp only [shT, ht] at hs
        cases he : shF (shT P m) P 0 fs.toList with
        | none => simp [he] at hs
        | some es =>
          simp only [he] at hs
          split at hs
          · rename_i hc
            simp only [Option.some.injEq] at hs
            subst hs
            obtain ⟨xs, n', _, _, hl, hxs, hf⟩ := DataW.trod_struct ht h
            have := shF_ok (enc := enc) (P := P) (w := w) (base := base) (spare := spare) (held := held) (T := shT P m) (n := n') (cs := cs)
              (fun t shs cs x hs h => trod_opn m t shs n' cs x hs h) fs.toList 0 es he fun f hf' => by
                obtain ⟨i, hi⟩ := List.getElem?_of_mem hf'
                have hi' : fs[i]? = some f := by simpa using hi
                have := hf i f hi'
                have hb := (List.getElem?_eq_some_iff.1 hi).1
                have hb' : i < fs.size := by rw [← Array.length_toList]; exact hb
                obtain ⟨y, hy⟩ : ∃ y, xs[i]? = some y := ⟨_, List.getElem?_eq_getElem (by omega)⟩
                exact ⟨y, by rw [this, hy]⟩
            rw [List.drop_zero, ← hc, ← hl, List.take_length] at this
            exact this
          · cases hs
      | array k e =>
        simp only [shT, ht] at hs
        cases he : shT P m e with
        | none => simp [he] at hs
        | some es =>
          simp only [he] at hs
          split at hs
          · rename_i hc
            simp only [Option.some.injEq] at hs
            subst hs
            obtain ⟨xs, n', _, _, hl, hxs, hf⟩ := DataW.trod_array ht h
            have := shA_ok (enc := enc) (P := P) (w := w) (base := base) (spare := spare) (held := held) (m := k) (n := n') (e := e) (es := es) (fun cs x h => trod_opn m e es n' cs x he h) cs fun i hi => by
              have := hf i hi
              rw [hc.1] at this
              obtain ⟨y, hy⟩ : ∃ y, xs[i]? = some y := ⟨_, List.getElem?_eq_getElem (by omega)⟩
              exact ⟨y, by rw [this, hy]⟩
            rw [← hc.2, ← hl, List.take_length] at this
            exact this
          · cases hs
      | _ => simp [shT, ht] at hs
/-- An argument of one cell. -/
theorem open_cell {r : Reach} {b0 : Nat} {t : TypeId} {v : Value} {d : DataW H} {ps : List MemPlace} {m : Nat} {q : Sh} (ht : (match P.underlying t with | some (.int _) | some .bool | some .string | some (.slice _) => true | _ => false) = true)
    (hs : shT P m t = some [q]) (hval : Value.okWide P w r b0 t v) (hd : DataW.Trod enc P w base spare held t v d ps) : ∃ x, URep (Kall w) v x ∧ Fit x q := by
  obtain ⟨n, hd⟩ := hd
  have hv : v.cells = #[v] := by
    cases hu : P.underlying t with
    | none => simp [hu] at ht
    | some D =>
      cases D with
      | bool => obtain ⟨b, rfl⟩ := okWide_bool hu hval; rfl
      | int k => obtain ⟨b, rfl⟩ := okWide_int hu hval; rfl
      | string => obtain ⟨b, rfl⟩ := okWide_string hu hval; rfl
      | slice e => obtain ⟨a, b, c, rfl⟩ := okWide_slice hu hval; rfl
      | _ => simp [hu] at ht
  rw [hv] at hd
  obtain ⟨ds, h1, h2⟩ := trod_opn m t [q] n _ _ hs hd
  cases h1 with
  | cons h1 h1' =>
    cases h1'
    rename_i d1
    have h3 : Fit d1 q := h2.2 0 _ q rfl rfl
    refine ⟨d1, ?_, h3⟩
    cases h3 <;> exact h1
/-- An argument of several cells. -/
theorem open_agg {r : Reach} {b0 : Nat} {t : TypeId} {v : Value} {d : DataW H} {ps : List MemPlace} {m : Nat} {shs : List Sh} (ht : (match P.underlying t with | some (.struct _) | some (.array _ _) => true | _ => false) = true)
    (hs : shT P m t = some shs) (hval : Value.okWide P w r b0 t v) (hd : DataW.Trod enc P w base spare held t v d ps) : ∃ ds, URep (Kall w) v (.agg ds) ∧ FitL ds shs := by
  obtain ⟨n, hd⟩ := hd
  obtain ⟨cs, rfl⟩ : ∃ cs, v = .agg cs := by
    unfold Value.okWide at hval
    cases hu : P.underlying t with
    | none => simp [hu] at ht
    | some D =>
      cases D with
      | struct fs => rw [hu] at hval; obtain ⟨cs, rfl, _⟩ := hval; exact ⟨cs, rfl⟩
      | array k e => rw [hu] at hval; obtain ⟨cs, rfl, _⟩ := hval; exact ⟨cs, rfl⟩
      | _ => simp [hu] at ht
  obtain ⟨ds, h1, h2⟩ := trod_opn m t shs n _ _ hs hd
  exact ⟨ds, ⟨cs.toList, by simp, h1⟩, h2⟩
end
/-! Data of a shape, as plain data. -/
def okI (k : IntKind) (n : Int) : Prop := (Lit.int k n).wf = true
def okB (_ : Bool) : Prop := True
def okS (s : ByteArray) : Prop := s.size ≤ maxLen
def okL {α : Type} (ok : α → Prop) (l : List α) : Prop := l.length ≤ maxLen ∧ ∀ x ∈ l, ok x
theorem fit_i {k : IntKind} {d : DV} (h : Fit d (.ti k)) : ∃ n, d = .val (.int k n) ∧ okI k n := by cases h with | i h => exact ⟨_, rfl, h⟩
theorem fit_b {d : DV} (h : Fit d .tb) : ∃ b, d = .val (.bool b) ∧ okB b := by cases h with | b => exact ⟨_, rfl, trivial⟩
theorem fit_s {d : DV} (h : Fit d .ts) : ∃ s, d = .val (.string s) ∧ okS s := by cases h with | s h => exact ⟨_, rfl, h⟩
theorem fit_l {α : Type} {e : α → List DV} {ok : α → Prop} {shs : List Sh} {sz : Nat} (hsz : shs.length = sz) (he : ∀ ch, FitL ch shs → ∃ x, ch = e x ∧ ok x) {d : DV} (h : Fit d (.tl shs)) :
    ∃ l : List α, d = .slc false none sz (l.map e) ∧ okL ok l := by
  subst hsz
  cases h with
  | l h1 h2' h2'' =>
    have h2 : ∀ ch : List DV, ch ∈ _ → FitL ch shs := fun ch hc => ⟨h2' ch hc, h2'' ch hc⟩
    rename_i es
    obtain ⟨l, hl, hx⟩ := exists_list es.length (fun i (x : α) => es[i]? = some (e x) ∧ ok x) fun i hi => by
      obtain ⟨x, h3, h4⟩ := he _ (h2 es[i] (List.getElem_mem hi))
      exact ⟨x, by rw [List.getElem?_eq_getElem hi, h3], h4⟩
    refine ⟨l, ?_, by omega, fun x hm => ?_⟩
    · congr 1
      apply List.ext_getElem?
      intro i
      rw [List.getElem?_map]
      cases hli : l[i]? with
      | none => simp at hli ⊢; omega
      | some x => exact (hx i x hli).1
    · obtain ⟨i, hi⟩ := List.getElem?_of_mem hm
      exact (hx i x hi).2
theorem fitL_nil {ch : List DV} (h : FitL ch []) : ch = [] := List.length_eq_zero_iff.1 h.1
theorem fitL_cons {ch : List DV} {q : Sh} {shs : List Sh} (h : FitL ch (q :: shs)) : ∃ d r, ch = d :: r ∧ Fit d q ∧ FitL r shs := by
  cases ch with
  | nil => have := h.1; simp at this
  | cons d r => exact ⟨d, r, rfl, h.2 0 d q rfl rfl, by have := h.1; simpa using this, fun j d s hd hs => h.2 (j + 1) d s (by simpa using hd) (by simpa using hs)⟩
theorem fitL_one {α : Type} {q : Sh} {f : α → DV} {ok : α → Prop} (he : ∀ d, Fit d q → ∃ x, d = f x ∧ ok x) {ch : List DV} (h : FitL ch [q]) : ∃ x, ch = [f x] ∧ ok x := by
  obtain ⟨d, r, rfl, h1, h2⟩ := fitL_cons h
  obtain ⟨x, rfl, hx⟩ := he d h1
  rw [fitL_nil h2]
  exact ⟨x, rfl, hx⟩
end Go.Proofs.Ytknkeabmjleoiaa.Vam
