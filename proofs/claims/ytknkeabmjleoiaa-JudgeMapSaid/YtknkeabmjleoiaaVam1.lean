/- A machine by value for the program's code, and that it is true of the model: part 1 of 3. -/
import Derived.Orders
import Derived.Defers
import Derived.Laws.StructEq
import Derived.Laws.Slices
import Derived.Lib.SliceRun
import Derived.Laws.BytesArg
import Derived.Laws.Cells
/- A machine by value for the program's code: what its operations come to on values that are trees, with the few that are written in place told by their place. -/
namespace Go.Proofs.Ytknkeabmjleoiaa.Vam
open Go
set_option linter.unusedVariables false

inductive DV where
 | val (v : Value)
 | slc (own : Bool) (nl : Option Bool) (sz : Nat) (es : List (List DV))
 | agg (cells : List DV)
 | hole
 | mp (kd : Nat) (es : List (Value × Value))
 | rm (n sz : Nat) (es : List (List DV))
 | capv (lo : Nat)
 deriving Inhabited

inductive Pl where
 | t (i : Nat)
 | o (i : Nat)
 deriving DecidableEq, Inhabited

inductive AV where
 | dead
 | data (d : DV)
 | ptr (i off : Nat)
 | cptr (ch : List DV)
 | ref (p : Pl) (k c : Nat) (n : Option Nat)
 | eptr (p : Pl) (k c i j : Nat)
 | fn (f : Fn) (first captured : List AV)
 | tup (vs : List AV)
 | ifc (t : TypeId) (v : AV)
 | orow (i n : Nat)
 deriving Inhabited

structure Cell where
 vs : List AV
 live : Bool
 k : Nat
 deriving Inhabited

def Cell.none : Cell := ⟨[], false, 0⟩
abbrev St := Pl → Cell

def Pl.same : Pl → Pl → Bool
 | .t i, .t j => Nat.beq i j
 | .o i, .o j => Nat.beq i j
 | _, _ => false
theorem Pl.same_iff {p q : Pl} : p.same q = true ↔ p = q := by
 cases p <;> cases q <;> simp [Pl.same]
theorem Pl.same_refl (p : Pl) : p.same p = true := Pl.same_iff.2 rfl
theorem Pl.same_ne {p q : Pl} (h : p ≠ q) : p.same q = false := by
 cases hs : p.same q
 ·rfl
 ·exact absurd (Pl.same_iff.1 hs) h

def St.put (σ : St) (p : Pl) (c : Cell) : St := fun q => bif Pl.same q p then c else σ q
theorem St.put_same (σ : St) (p : Pl) (c : Cell) : σ.put p c p = c := by simp [St.put, Pl.same_refl]
theorem St.put_ne (σ : St) {p q : Pl} (c : Cell) (h : q ≠ p) : σ.put p c q = σ q := by simp [St.put, Pl.same_ne h]

structure Query where
 f : FuncId
 args : List AV
 objs : List (List AV)
structure Answer where
 r : AV
 objs : List (List AV)
 deriving Inhabited

inductive Pr : Type → Type 1 where
 | pure {α : Type} (a : α) : Pr α
 | fail {α : Type} : Pr α
 | get {α : Type} (p : Pl) (k : Cell → Pr α) : Pr α
 | set {α : Type} (p : Pl) (c : Cell) (k : Pr α) : Pr α
 | askB {α : Type} (b : Bool) (k : Bool → Pr α) : Pr α
 | askT {α : Type} (b : Bool) (k : Pr α) : Pr α
 | askC {α : Type} (es : List (List DV)) (i : Nat) (k : List DV → Pr α) : Pr α
 | askI {α : Type} (i : Nat) (k : Nat → Pr α) : Pr α
 | askF {α : Type} (q : Query) (k : Answer → Pr α) : Pr α

def Pr.bind {α β : Type} : Pr α → (α → Pr β) → Pr β
 | .pure a, f => f a
 | .fail, _ => .fail
 | .get p k, f => .get p fun c => (k c).bind f
 | .set p c k, f => .set p c (k.bind f)
 | .askB b k, f => .askB b fun g => (k g).bind f
 | .askT b k, f => .askT b (k.bind f)
 | .askC es i k, f => .askC es i fun ch => (k ch).bind f
 | .askI i k, f => .askI i fun n => (k n).bind f
 | .askF q k, f => .askF q fun r => (k r).bind f
instance : Monad Pr where
 pure := Pr.pure
 bind := Pr.bind

def gt (p : Pl) : Pr Cell := .get p .pure
def st (p : Pl) (c : Cell) : Pr Unit := .set p c (.pure ())
def must (b : Bool) : Pr Unit := bif b then .pure () else .fail
def need (b : Bool) : Pr Unit := .askT b (.pure ())

inductive Ex (C : Query → Answer → Prop) : {α : Type} → Pr α → St → List Pl → List Pl → α → St → Prop where
 | pure {α : Type} {a : α} {σ : St} : Ex C (.pure a) σ [] [] a σ
 | get {α : Type} {p : Pl} {k : Cell → Pr α} {σ σ' : St} {R W : List Pl} {a : α} : Ex C (k (σ p)) σ R W a σ' → Ex C (.get p k) σ (p :: R) W a σ'
 | set {α : Type} {p : Pl} {c : Cell} {k : Pr α} {σ σ' : St} {R W : List Pl} {a : α} : Ex C k (σ.put p c) R W a σ' → Ex C (.set p c k) σ R (p :: W) a σ'
 | askB {α : Type} {b : Bool} {k : Bool → Pr α} {σ σ' : St} {R W : List Pl} {a : α} : Ex C (k b) σ R W a σ' → Ex C (.askB b k) σ R W a σ'
 | askT {α : Type} {b : Bool} {k : Pr α} {σ σ' : St} {R W : List Pl} {a : α} : b = true → Ex C k σ R W a σ' → Ex C (.askT b k) σ R W a σ'
 | askC {α : Type} {es : List (List DV)} {i : Nat} {ch : List DV} {k : List DV → Pr α} {σ σ' : St} {R W : List Pl} {a : α} : es[i]? = some ch → Ex C (k ch) σ R W a σ' → Ex C (.askC es i k) σ R W a σ'
 | askI {α : Type} {i : Nat} {k : Nat → Pr α} {σ σ' : St} {R W : List Pl} {a : α} : Ex C (k i) σ R W a σ' → Ex C (.askI i k) σ R W a σ'
 | askF {α : Type} {q : Query} {r : Answer} {k : Answer → Pr α} {σ σ' : St} {R W : List Pl} {a : α} : C q r → Ex C (k r) σ R W a σ' → Ex C (.askF q k) σ R W a σ'

theorem Ex.bind_inv {C : Query → Answer → Prop} {α β : Type} {m : Pr α} {f : α → Pr β} {σ σ' : St} {R W : List Pl} {b : β} (h : Ex C (m.bind f) σ R W b σ') :
  ∃ a σ1 R1 W1 R2 W2, Ex C m σ R1 W1 a σ1 ∧ Ex C (f a) σ1 R2 W2 b σ' ∧ R = R1 ++ R2 ∧ W = W1 ++ W2 := by
 induction m generalizing σ R W with
 | pure a => exact ⟨a, σ, [], [], R, W, .pure, h, rfl, rfl⟩
 | fail => cases h
 | get p k ih =>
  cases h with
  | get h => obtain ⟨a, σ1, R1, W1, R2, W2, h1, h2, rfl, rfl⟩ := ih _ h; exact ⟨a, σ1, p :: R1, W1, R2, W2, .get h1, h2, rfl, rfl⟩
 | set p c k ih =>
  cases h with
  | set h => obtain ⟨a, σ1, R1, W1, R2, W2, h1, h2, rfl, rfl⟩ := ih h; exact ⟨a, σ1, R1, p :: W1, R2, W2, .set h1, h2, rfl, rfl⟩
 | askB b k ih =>
  cases h with
  | askB h => obtain ⟨a, σ1, R1, W1, R2, W2, h1, h2, rfl, rfl⟩ := ih _ h; exact ⟨a, σ1, R1, W1, R2, W2, .askB h1, h2, rfl, rfl⟩
 | askT b k ih =>
  cases h with
  | askT e h => obtain ⟨a, σ1, R1, W1, R2, W2, h1, h2, rfl, rfl⟩ := ih h; exact ⟨a, σ1, R1, W1, R2, W2, .askT e h1, h2, rfl, rfl⟩
 | askC es i k ih =>
  cases h with
  | askC e h => obtain ⟨a, σ1, R1, W1, R2, W2, h1, h2, rfl, rfl⟩ := ih _ h; exact ⟨a, σ1, R1, W1, R2, W2, .askC e h1, h2, rfl, rfl⟩
 | askI i k ih =>
  cases h with
  | askI h => obtain ⟨a, σ1, R1, W1, R2, W2, h1, h2, rfl, rfl⟩ := ih _ h; exact ⟨a, σ1, R1, W1, R2, W2, .askI h1, h2, rfl, rfl⟩
 | askF q k ih =>
  cases h with
  | askF e h => obtain ⟨a, σ1, R1, W1, R2, W2, h1, h2, rfl, rfl⟩ := ih _ h; exact ⟨a, σ1, R1, W1, R2, W2, .askF e h1, h2, rfl, rfl⟩

theorem Ex.local {C : Query → Answer → Prop} {α : Type} {m : Pr α} {σ σ' : St} {R W : List Pl} {a : α} (h : Ex C m σ R W a σ') :
  (∀ p, p ∉ W → σ' p = σ p) ∧ ∀ τ : St, (∀ p, p ∈ R → τ p = σ p) → ∃ τ', Ex C m τ R W a τ' ∧ (∀ p, p ∈ W → τ' p = σ' p) ∧ ∀ p, p ∉ W → τ' p = τ p := by
 induction h with
 | pure => exact ⟨fun _ _ => rfl, fun τ _ => ⟨τ, .pure, fun _ h => by simp at h, fun _ _ => rfl⟩⟩
 | @get p k σ σ' R W a h ih =>
  refine ⟨ih.1, fun τ hτ => ?_⟩
  obtain ⟨τ', h1, h2, h3⟩ := ih.2 τ (fun q hq => hτ q (List.mem_cons_of_mem _ hq))
  have e := hτ p List.mem_cons_self
  exact ⟨τ', .get (by rw [e]; exact h1), h2, h3⟩
 | @set p c k σ σ' R W a h ih =>
  refine ⟨fun q hq => ?_, fun τ hτ => ?_⟩
  ·rw [ih.1 q (fun g => hq (List.mem_cons_of_mem _ g)), St.put_ne]
   intro e; exact hq (e ▸ List.mem_cons_self)
  ·obtain ⟨τ', h1, h2, h3⟩ := ih.2 (τ.put p c) (fun q hq => by
    by_cases e : q = p
    ·subst e; rw [St.put_same, St.put_same]
    ·rw [St.put_ne _ _ e, St.put_ne _ _ e]; exact hτ q hq)
   refine ⟨τ', .set h1, fun q hq => ?_, fun q hq => ?_⟩
   ·by_cases e : q ∈ W
    ·exact h2 q e
    ·have : q = p := by rcases List.mem_cons.1 hq with g | g
                        · exact g
                        · exact absurd g e
     subst this
     rw [h3 q e, ih.1 q e, St.put_same, St.put_same]
   ·rw [h3 q (fun g => hq (List.mem_cons_of_mem _ g)), St.put_ne]
    intro e; exact hq (e ▸ List.mem_cons_self)
 | askB h ih => exact ⟨ih.1, fun τ hτ => let ⟨τ', h1, h2, h3⟩ := ih.2 τ hτ; ⟨τ', .askB h1, h2, h3⟩⟩
 | askT e h ih => exact ⟨ih.1, fun τ hτ => let ⟨τ', h1, h2, h3⟩ := ih.2 τ hτ; ⟨τ', .askT e h1, h2, h3⟩⟩
 | askC e h ih => exact ⟨ih.1, fun τ hτ => let ⟨τ', h1, h2, h3⟩ := ih.2 τ hτ; ⟨τ', .askC e h1, h2, h3⟩⟩
 | askI h ih => exact ⟨ih.1, fun τ hτ => let ⟨τ', h1, h2, h3⟩ := ih.2 τ hτ; ⟨τ', .askI h1, h2, h3⟩⟩
 | askF e h ih => exact ⟨ih.1, fun τ hτ => let ⟨τ', h1, h2, h3⟩ := ih.2 τ hτ; ⟨τ', .askF e h1, h2, h3⟩⟩

end Go.Proofs.Ytknkeabmjleoiaa.Vam
/- The machine by value: what each operation of the program's code does. -/
namespace Go.Proofs.Ytknkeabmjleoiaa.Vam
open Go
set_option linter.unusedVariables false

def DV.owned1 : DV → Bool
 | .slc true _ _ _ => true
 | .mp _ _ => true
 | _ => false
def DV.owned : DV → Bool
 | .slc true _ _ _ => true
 | .mp _ _ => true
 | .agg cs => cs.any DV.owned1
 | _ => false
def DV.strip1 : DV → DV
 | .slc _ nl sz es => .slc false nl sz es
 | .mp _ _ => .hole
 | d => d
def DV.strip : DV → DV
 | .slc _ nl sz es => .slc false nl sz es
 | .mp _ _ => .hole
 | .agg cs => .agg (cs.map DV.strip1)
 | d => d
def DV.cell : DV → Bool
 | .agg _ => false
 | _ => true
def DV.cells : DV → List DV
 | .agg cs => cs
 | d => [d]
def scV : Value → Bool
 | .bool _ | .int _ _ | .float _ _ | .complex _ _ _ | .string _ | .pointer none | .map none | .chan none | .nilFunc | .nilIface => true
 | _ => false
def absC : Value → Option AV
 | .slice none 0 0 => some (.data (.slc false (some true) 0 []))
 | .func f a b => if a.size = 0 ∧ b.size = 0 then some (.fn f [] []) else none
 | v => if scV v then some (.data (.val v)) else none

def keyK : Value → Nat
 | .string _ => 1
 | .int .i64 _ => 2
 | .bool _ => 3
 | _ => 0
def eqV : Value → Value → Bool
 | .string a, .string b => a.toList == b.toList
 | .int _ a, .int _ b => a == b
 | .bool a, .bool b => a == b
 | _, _ => false
def mget : List (Value × Value) → Value → Option Value
 | [], _ => none
 | e :: r, k => bif eqV k e.1 then some e.2 else mget r k
def mput : List (Value × Value) → Value → Value → List (Value × Value)
 | [], k, v => [(k, v)]
 | e :: r, k, v => bif eqV k e.1 then (k, v) :: r else e :: mput r k v
def absV (v : Value) : AV := (absC v).getD .dead
def absOk : Value → Bool
 | .func (.func _) a b => a.isEmpty && b.isEmpty
 | .slice .. => false
 | v => scV v
def Pr.of {α : Type} : Option α → Pr α
 | some a => .pure a
 | none => .fail

def getT (t : Nat) : Pr AV := do
 let c ← gt (.t t)
 pure (c.vs.headD .dead)
def opd : Operand → Pr AV
 | .const v => Pr.of (absC v)
 | .tmp t => do
  let c ← gt (.t t)
  match c.vs with
  | [.data d] => if d.owned then pure (.ref (.t t) c.k 0 (match d with | .agg cs => some cs.length | _ => none)) else pure (.data d)
  | [v] => pure v
  | _ => .fail
 | .func f => pure (.fn (.func f) [] [])
 | .global _ => .fail
def putT : Option Tmp → AV → Pr Unit
 | some d, v => do
  let c ← gt (.t d)
  st (.t d) ⟨[v], true, c.k + 1⟩
 | none, _ => pure ()

def cellAt : Pl → Cell → Nat → Option DV
 | .t _, x, c => match x.vs with
  | [.data d] => d.cells[c]?
  | _ => none
 | .o _, x, c => match x.vs[c]? with
  | some (.data d) => some d
  | _ => none
def cellsAt : Pl → Cell → Nat → Nat → Option (List DV)
 | _, _, _, 0 => some []
 | p, x, c, n + 1 => do
  let d ← cellAt p x c
  let r ← cellsAt p x (c + 1) n
  pure (d :: r)
def refAt (p : Pl) (x : Cell) (c : Nat) : Option Nat → Option DV
 | none => cellAt p x c
 | some n => bif Nat.beq n 0 then none else (cellsAt p x c n).map .agg

def view : AV → Pr DV
 | .data d => pure d
 | .ref p k c n => do
  let x ← gt p
  must (Nat.beq x.k k)
  let d ← Pr.of (refAt p x c n)
  pure d.strip
 | _ => .fail
def setRange {α : Type} (l : List α) (o : Nat) (vs : List α) : List α := l.take o ++ vs ++ l.drop (o + vs.length)
def DV.setR (d : DV) (c : Nat) (es : List DV) : DV :=
 match d with
 | .agg cs => .agg (setRange cs c es)
 | d => es.headD d
def setCells (p : Pl) (x : Cell) (c : Nat) (es : List DV) : Cell :=
 match p with
 | .t _ => match x.vs with
  | [.data d] => ⟨[.data (d.setR c es)], true, x.k⟩
  | _ => x
 | .o _ => ⟨setRange x.vs c (es.map AV.data), true, x.k⟩
def leaveD (p : Pl) (x : Cell) (c n : Nat) : Cell :=
 match p with
 | .t _ => ⟨[.dead], true, x.k + 1⟩
 | .o _ => ⟨setRange x.vs c (List.replicate n .dead), true, x.k + 1⟩
def take (keep : Bool) : AV → Pr AV
 | .ref p k c n => do
  let x ← gt p
  must (Nat.beq x.k k)
  let d ← Pr.of (refAt p x c n)
  if keep then do
   st p (leaveD p x c d.cells.length)
   pure (.data d)
  else do
   st p (setCells p x c d.strip.cells)
   pure (.data d.strip)
 | v => pure v
def takeD (keep : Bool) (a : AV) : Pr DV := do
 match ← take keep a with
 | .data d => pure d
 | _ => .fail

section types
variable (P : Program)
def szT (t : TypeId) : Option Nat := (P.info? t).map (·.size)
def bytT (t : TypeId) : Option Nat := (P.info? t).map (·.bytes)
def aggT (t : TypeId) : Option Bool := (P.underlying t).map fun
 | .struct _ | .array _ _ => true
 | _ => false
def elemT (t : TypeId) : Option TypeId := (P.underlying t).bind fun
 | .slice e => some e
 | _ => none
def sameSz (e : TypeId) (sz : Nat) : Bool := match szT P e with
 | some s => Nat.beq s sz
 | none => false
def norm (t : TypeId) : AV → AV
 | .data (.slc own nl sz es) => match elemT P t with
  | some e => bif sameSz P e sz then .data (.slc own none sz es) else match nl, szT P e with
   | some true, some s => .data (.slc own none s es)
   | _, _ => .data (.slc own none sz es)
  | none => .data (.slc own none sz es)
 | a => a
def normS (t : TypeId) : AV → AV
 | .data (.slc own nl sz es) => match elemT P t with
  | some e => bif sameSz P e sz then .data (.slc own nl sz es) else match nl, szT P e with
   | some true, some s => .data (.slc own nl s es)
   | _, _ => .data (.slc own nl sz es)
  | none => .data (.slc own nl sz es)
 | a => a
def szsC : Nat → TypeId → Option (List Nat)
 | 0, _ => none
 | n + 1, t => match P.underlying t with
  | some (.struct fs) => fs.toList.foldlM (fun l f => do pure (l ++ (← szsC n f.type))) []
  | some (.array m e) => do
   let z ← szsC n e
   pure (List.replicate m z).flatten
  | some (.slice e) => do pure [← szT P e]
  | _ => some [0]
def zeroD (own : Bool) : List Value → List Nat → Option (List DV)
 | [], [] => some []
 | .slice none 0 0 :: vs, s :: ss => (zeroD own vs ss).map (.slc own none s [] :: ·)
 | v :: vs, _ :: ss => if scV v then (zeroD own vs ss).map (.val v :: ·) else none
 | _, _ => none
def zeroC (own : Bool) (t : TypeId) : Option (List DV) :=
 match (P.info? t).bind (·.zero), szsC P 50 t with
 | some z, some ss => zeroD own z.cells.toList ss
 | _, _ => none
end types

def toVal : DV → Option Value
 | .val v => some v
 | _ => none
def asI : DV → Pr Int
 | .val (.int _ n) => pure n
 | _ => .fail
def vI (a : AV) : Pr Int := do asI (← view a)

def binV (op : BinOp) (x y : Value) : Pr Value :=
 match op, x, y with
 | .shl, .int k a, .int _ b => do
  need (decide (0 ≤ b))
  pure (.int k (k.wrap (a * 2 ^ (min b.toNat k.bits))))
 | .shr, .int k a, .int _ b => do
  need (decide (0 ≤ b))
  pure (.int k (a.fdiv (2 ^ (min b.toNat k.bits))))
 | op, .int k a, .int k' b => do
  must (decide (k = k'))
  match op with
  | .add => pure (.int k (k.wrap (a + b)))
  | .sub => pure (.int k (k.wrap (a - b)))
  | .mul => pure (.int k (k.wrap (a * b)))
  | .quo => do
   need (!decide (b = 0))
   pure (.int k (k.wrap (a.tdiv b)))
  | .rem => do
   need (!decide (b = 0))
   pure (.int k (a.tmod b))
  | .and => pure (.int k (k.wrap ((BitVec.ofInt k.bits a &&& BitVec.ofInt k.bits b).toNat)))
  | .or => pure (.int k (k.wrap ((BitVec.ofInt k.bits a ||| BitVec.ofInt k.bits b).toNat)))
  | .xor => pure (.int k (k.wrap ((BitVec.ofInt k.bits a ^^^ BitVec.ofInt k.bits b).toNat)))
  | .andNot => pure (.int k (k.wrap ((BitVec.ofInt k.bits a &&& ~~~BitVec.ofInt k.bits b).toNat)))
  | .eql => pure (.bool (a == b))
  | .neq => pure (.bool (a != b))
  | .lss => pure (.bool (a < b))
  | .leq => pure (.bool (a ≤ b))
  | .gtr => pure (.bool (a > b))
  | .geq => pure (.bool (a ≥ b))
  | _ => .fail
 | op, .string a, .string b =>
  match op with
  | .add => do
   need (decide (a.size + b.size ≤ 9223372036854775807))
   pure (.string (a ++ b))
  | .eql => pure (.bool (a.toList == b.toList))
  | .neq => pure (.bool (!(a.toList == b.toList)))
  | .lss => pure (.bool (Op.bytesLess a.toList b.toList))
  | .leq => pure (.bool (Op.bytesLess a.toList b.toList || a.toList == b.toList))
  | .gtr => pure (.bool (!(Op.bytesLess a.toList b.toList || a.toList == b.toList)))
  | .geq => pure (.bool (!Op.bytesLess a.toList b.toList))
  | _ => .fail
 | _, _, _ => .fail
def eqC : TypeDesc → DV → DV → Option Bool
 | .bool, .val (.bool a), .val (.bool b) => some (a == b)
 | .int _, .val (.int k a), .val (.int k' b) => if k = k' then some (a == b) else none
 | .string, .val (.string a), .val (.string b) => some (a.toList == b.toList)
 | _, _, _ => none
def eqCs (P : Program) : List Field → List DV → List DV → Option Bool
 | [], [], [] => some true
 | f :: fs, x :: xs, y :: ys => do
  let D ← P.underlying f.type
  let a ← eqC D x y
  let b ← eqCs P fs xs ys
  pure (a && b)
 | _, _, _ => none
section
variable (P : Program)
def eqFs : Nat → List Field → Bool
 | _, [] => true
 | n, f :: fs => (f.name != "_") && Nat.beq f.offset n && eqFs (n + 1) fs
def fieldsT (t : TypeId) : List Field := match P.underlying t with
 | some (.struct fs) => fs.toList
 | _ => []
def eqT (t : TypeId) (n : Nat) : Bool := match P.underlying t with
 | some (.struct fs) => Nat.beq fs.size n && eqFs 0 fs.toList && !P.stoodInHeld t && !P.eqGuardType P.depth t
 | _ => false
def binD (op : BinOp) (t : TypeId) (x y : DV) : Pr DV :=
 match op, x, y with
 | .eql, .val (.bool a), .val (.bool b) => do
  must (match P.underlying t with
   | some .bool => true
   | _ => false)
  pure (.val (.bool (a == b)))
 | .neq, .val (.bool a), .val (.bool b) => do
  must (match P.underlying t with
   | some .bool => true
   | _ => false)
  pure (.val (.bool (!(a == b))))
 | op, .val a, .val b => do pure (.val (← binV op a b))
 | .eql, .agg a, .agg b => do
  must (eqT P t a.length)
  pure (.val (.bool (← Pr.of (eqCs P (fieldsT P t) a b))))
 | .neq, .agg a, .agg b => do
  must (eqT P t a.length)
  pure (.val (.bool (!(← Pr.of (eqCs P (fieldsT P t) a b)))))
 | .eql, .slc _ (some n) _ _, .slc _ (some true) _ _ => do
  must (match P.underlying t with
   | some (.slice _) => true
   | _ => false)
  pure (.val (.bool n))
 | .lss, .capv lo, .val (.int .i64 n) => do
  need (decide (n ≤ lo))
  pure (.val (.bool false))
 | .neq, .slc _ (some n) _ _, .slc _ (some true) _ _ => do
  must (match P.underlying t with
   | some (.slice _) => true
   | _ => false)
  pure (.val (.bool (!n)))
 | _, _, _ => .fail
end
def unV (op : UnOp) (x : Value) : Pr Value :=
 match op, x with
 | .not, .bool b => pure (.bool !b)
 | .neg, .int k n => pure (.int k (k.wrap (0 - n)))
 | _, _ => .fail

def strOf (es : List (List DV)) : ByteArray :=
 ⟨(es.map fun
  | [.val (.int .u8 n)] => UInt8.ofNat n.toNat
  | _ => 0).toArray⟩
def allBytes : List (List DV) → Bool
 | [] => true
 | [.val (.int .u8 _)] :: r => allBytes r
 | _ => false

def litN (n : Int) : Option Nat := if 0 ≤ n then some n.toNat else none

end Go.Proofs.Ytknkeabmjleoiaa.Vam
/- The machine by value: one operation of a region, a region, code, a function. -/
namespace Go.Proofs.Ytknkeabmjleoiaa.Vam
open Go
set_option linter.unusedVariables false

def AV.scalar1 : AV → Bool
 | .data (.val _) => true
 | .data (.agg cs) => cs.all fun
  | .val _ => true
  | _ => false
 | _ => false
def AV.scalar : AV → Bool
 | .tup vs => vs.all AV.scalar1
 | v => v.scalar1
def AV.men0 : AV → List Nat
 | .ptr i _ => [i]
 | _ => []
def AV.men1 : AV → List Nat
 | .fn _ a b => (a ++ b).flatMap AV.men0
 | .ifc _ v => v.men0
 | v => v.men0
def AV.men : AV → List Nat
 | .tup vs => vs.flatMap AV.men1
 | .orow i _ => [i]
 | v => v.men1
def AV.ren0 (ρ : Nat → Nat) : AV → AV
 | .ptr i o => .ptr (ρ i) o
 | v => v
def AV.ren1 (ρ : Nat → Nat) : AV → AV
 | .fn f a b => .fn f (a.map (AV.ren0 ρ)) (b.map (AV.ren0 ρ))
 | .ifc t v => .ifc t (v.ren0 ρ)
 | v => v.ren0 ρ
def AV.ren (ρ : Nat → Nat) : AV → AV
 | .tup vs => .tup (vs.map (AV.ren1 ρ))
 | v => v.ren1 ρ
def AV.plain0 : AV → Bool
 | .data d => !d.owned
 | .ptr _ _ => true
 | _ => false
def AV.plain1 : AV → Bool
 | .fn (.func _) a b => (a ++ b).all AV.plain0
 | .ifc _ v => v.plain0
 | v => v.plain0
def AV.plainC : AV → Bool
 | .data d => d.cell
 | v => v.plain1

def AV.parts : AV → List AV
 | .data d => d.cells.map AV.data
 | v => [v]
def AV.okCell : AV → Bool
 | .data _ => true
 | v => v.plain1
def AV.okAns : AV → Bool
 | .ref .. | .eptr .. | .cptr _ | .orow .. | .dead => false
 | _ => true
def idx (l : List Nat) (i : Nat) : Nat := 1000 + l.idxOf i
def back (l : List Nat) (d : Nat) (i : Nat) : Nat := if i - 1000 < l.length then l.getD (i - 1000) 0 else 2000 + d * 8 + (i - 1000 - l.length)

def gatherGo : Nat → List Nat → List (Nat × Cell) → Pr (List (Nat × Cell))
 | _, [], acc => pure acc.reverse
 | 0, _ :: _, _ => .fail
 | n + 1, i :: r, acc =>
  if acc.any (fun x => Nat.beq x.1 i) then gatherGo n r acc
  else do
   let c ← gt (.o i)
   must c.live
   must (c.vs.all AV.plainC)
   gatherGo n (r ++ c.vs.flatMap AV.men1) ((i, c) :: acc)
def handBack (ρ : Nat → Nat) : List (Nat × Cell) → List (List AV) → Pr Unit
 | x :: xs, vs :: r => do
  st (.o x.1) ⟨vs.map (AV.ren ρ), true, x.2.k + 1⟩
  handBack ρ xs r
 | _, _ => pure ()
def adoptGo (ρ : Nat → Nat) : Nat → List (List AV) → Pr Unit
 | _, [] => pure ()
 | i, vs :: r => do
  let c ← gt (.o i)
  must (!c.live)
  st (.o i) ⟨vs.map (AV.ren ρ), true, c.k + 1⟩
  adoptGo ρ (i + 1) r
def AV.okArg : AV → Bool
 | .ref .. => true
 | v => v.plain1

section
variable (P : Program) (O : Nat → Nat)

def isScalarT (t : TypeId) : Bool := match P.underlying t with
 | some .bool | some (.int _) | some .string => true
 | _ => false
def normArgs : List TypeId → List AV → List AV
 | t :: ts, a :: as => normS P t a :: normArgs ts as
 | _, as => as
def viewArg : AV → Pr AV
 | .ref p k c n => do pure (.data (← view (.ref p k c n)))
 | a => pure a
def callPr (d : Option Tmp) (f : FuncId) (args : List AV) : Pr Unit := do
 let fn ← Pr.of (P.funcs[f]?)
 must (decide (args.length ≤ fn.ntmps))
 must (args.all AV.okArg)
 let quiet := (args.flatMap AV.men).isEmpty && fn.resultTypes.all (isScalarT P)
 let args1 ← (if quiet then args.mapM viewArg else args.mapM (take false))
 must (args1.all AV.plain1)
 let args2 := normArgs P fn.params.toList args1
 let objs ← gatherGo 200 (args2.flatMap AV.men1) []
 let l := objs.map (·.1)
 let ans ← Pr.askF ⟨f, args2.map (AV.ren (idx l)), objs.map fun x => x.2.vs.map (AV.ren (idx l))⟩ .pure
 must ans.r.okAns
 if quiet then do
  must (objs.isEmpty && ans.r.scalar && ans.objs.isEmpty)
  putT d ans.r
 else do
  must (decide (l.length ≤ ans.objs.length ∧ l.length ≤ 1000))
  handBack (back l (d.getD 0)) objs ans.objs
  must ((ans.objs.drop l.length).isEmpty || d.isSome)
  adoptGo (back l (d.getD 0)) (2000 + d.getD 0 * 8) (ans.objs.drop l.length)
  putT d (ans.r.ren (back l (d.getD 0)))

def ownN (keep : Bool) : AV → AV
 | .data (.slc false (some true) sz []) => .data (.slc keep (some true) sz [])
 | v => v
def headPr (mode : Nat) : AV → Pr AV
 | .ref p k c n => bif Nat.beq mode 3 then (match p, n with
  | .o i, none => do
   let x ← gt (.o i)
   must (Nat.beq x.k k)
   must x.live
   pure (.ref (.o i) k c none)
  | _, _ => .fail) else take true (.ref p k c n)
 | .data d => pure (ownN true (.data d))
 | _ => .fail
def headMen : AV → List Nat
 | .ref (.o i) _ _ _ => [i]
 | _ => []
def renH (ρ : Nat → Nat) : AV → AV
 | .ref (.o i) _ c n => .ref (.o (ρ i)) 0 c n
 | v => v
def headN : List TypeId → AV → AV
 | t :: _, x => normS P t x
 | [], x => x
def okHead : AV → Bool
 | .ref (.o _) _ _ none => true
 | .data (.slc true _ _ _) => true
 | _ => false
def callPr2 (mode : Nat) (d : Option Tmp) (f : FuncId) : List AV → Pr Unit
 | [] => .fail
 | x :: rest => do
  let D ← Pr.of d
  let fn ← Pr.of (P.funcs[f]?)
  must (decide (rest.length + 1 ≤ fn.ntmps))
  must (rest.all AV.okArg)
  let rest1 ← rest.mapM (take false)
  must (rest1.all AV.plain1)
  let rest2 := normArgs P (fn.params.toList.drop 1) rest1
  let x1 ← headPr mode x
  let x2 := headN P fn.params.toList x1
  must (okHead x2)
  let objs ← gatherGo 200 (headMen x2 ++ rest2.flatMap AV.men1) []
  let l := objs.map (·.1)
  let ans ← Pr.askF ⟨f, renH (idx l) x2 :: rest2.map (AV.ren (idx l)), objs.map fun x => x.2.vs.map (AV.ren (idx l))⟩ .pure
  must ans.r.okAns
  must (decide (l.length ≤ ans.objs.length ∧ l.length ≤ 1000))
  handBack (back l D) objs ans.objs
  adoptGo (back l D) (2000 + D * 8) (ans.objs.drop l.length)
  putT d (ans.r.ren (back l D))
def mapAny : AV → Pr (Nat × List (Value × Value))
 | .ref p k c none => do
  let z ← gt p
  must (Nat.beq z.k k)
  match cellAt p z c with
  | some (.mp kd es) => pure (kd, es)
  | _ => .fail
 | _ => .fail
def mapCallPr (d : Option Tmp) (f : FuncId) : List AV → Pr Unit
 | [x] => do
  let e ← mapAny x
  let ans ← Pr.askF ⟨f, [.data (.mp e.1 e.2)], []⟩ .pure
  must (ans.r.scalar && ans.objs.isEmpty)
  putT d ans.r
 | _ => .fail
def callPrM (mode : Nat) (d : Option Tmp) (f : FuncId) (args : List AV) : Pr Unit :=
 bif Nat.beq mode 9 then mapCallPr d f args else
 bif Nat.beq mode 3 || Nat.beq mode 4 then callPr2 P mode d f args else callPr P d f args
def methodT (t : TypeId) (name : String) : Option (FuncId × Option TypeId) :=
 (P.info? t).bind fun i => (i.methods.find? (·.name == name)).bind fun m =>
  bif m.path.isEmpty then m.func.bind fun x => match P.underlying t, x with
   | some (.pointer _), (f, true) => some (f, none)
   | some (.pointer e), (f, false) => some (f, some e)
   | some _, (f, false) => some (f, none)
   | _, _ => none
  else none

def bytesC (s : ByteArray) : List (List DV) := s.data.toList.map fun b => [.val (.int .u8 b.toNat)]

def basePr (s : Nat) (x : AV) : Pr (List (List DV)) := do
 match ← take true x with
 | .data (.slc true _ s' es) => do
  must (Nat.beq s s')
  pure es
 | .data (.slc false (some true) _ []) => pure []
 | _ => .fail
def appendPr (d : Option Tmp) (t : TypeId) (x y : AV) : Pr Unit := do
 let _ ← Pr.of d
 let e ← Pr.of (elemT P t)
 let s ← Pr.of (szT P e)
 let b ← Pr.of (bytT P e)
 let z ← Pr.of (zeroC P false e)
 must (Nat.beq z.length s)
 must (decide (0 < s ∧ b ≤ 4096))
 let es' ← (do
  match ← view y with
  | .slc _ _ s' es => do
   must (Nat.beq s s' || es.isEmpty)
   pure es
  | .val (.string u) => do
   must (Nat.beq s 1)
   pure (bytesC u)
  | _ => .fail)
 let es ← basePr s x
 need (decide (es.length + es'.length ≤ 4294967296))
 putT d (.data (.slc true none s (es ++ es')))

def appendZPr (d : Option Tmp) (t : TypeId) (x : AV) (n : Int) : Pr Unit := do
 let _ ← Pr.of d
 let e ← Pr.of (elemT P t)
 let s ← Pr.of (szT P e)
 let b ← Pr.of (bytT P e)
 let z ← Pr.of (zeroC P false e)
 must (Nat.beq z.length s)
 must (decide (0 < s ∧ b ≤ 4096))
 need (decide (0 ≤ n ∧ n ≤ 4294967296))
 let es ← basePr s x
 need (decide (es.length + n.toNat ≤ 4294967296))
 putT d (.data (.slc true none s (es ++ List.replicate n.toNat z)))

def minmax (mx : Bool) : Int → List Int → Int
 | x, [] => x
 | x, y :: r => minmax mx (if mx then (if x < y then y else x) else (if y < x then y else x)) r
def asIK : DV → Pr (IntKind × Int)
 | .val (.int k n) => pure (k, n)
 | _ => .fail

def clrPr (d : Option Tmp) (t : TypeId) : AV → Pr Unit
 | .ref p k c none => do
  let e ← Pr.of (elemT P t)
  let s ← Pr.of (szT P e)
  let z ← Pr.of (zeroC P false e)
  must (Nat.beq z.length s && decide (0 < s))
  let x ← gt p
  must (Nat.beq x.k k)
  match cellAt p x c with
  | some (.slc true nl s' es) => do
   must (Nat.beq s' s)
   st p (setCells p x c [.slc true nl s (es.map fun _ => z)])
   putT d (.tup [])
  | _ => .fail
 | _ => .fail
def lenPr0 (d : Option Tmp) (t : TypeId) : AV → Pr Unit
 | .orow _ n => do
  must (match P.underlying t with
   | some (.slice _) => true
   | _ => false)
  putT d (.data (.val (.int .i64 n)))
 | x => do
  match P.underlying t, ← view x with
  | some (.slice _), .slc _ _ _ es => putT d (.data (.val (.int .i64 es.length)))
  | some .string, .val (.string s) => putT d (.data (.val (.int .i64 s.size)))
  | some (.slice _), .rm n _ _ => putT d (.data (.val (.int .i64 n)))
  | _, _ => .fail
def isMapT (t : TypeId) : Bool := match P.underlying t with
 | some (.map _ _) => true
 | _ => false
def lenPr (d : Option Tmp) (t : TypeId) (x : AV) : Pr Unit :=
 bif isMapT P t then (do
  let e ← mapAny x
  putT d (.data (.val (.int .i64 e.2.length)))) else lenPr0 P d t x
def builtinPr (d : Option Tmp) (b : Builtin) (ts : List TypeId) (args : List AV) : Pr Unit :=
 match b, ts, args with
 | .len, [t], [x] => lenPr P d t x
 | .append, [t, ty], [x, y] => do
  match P.underlying ty with
  | some (.int _) => do
   let n ← asI (← view y)
   appendZPr P d t x n
  | some _ => appendPr P d t x y
  | none => .fail
 | .cap, [t], [x] => do
  match P.underlying t, ← view x with
  | some (.slice _), .slc _ (some true) _ [] => putT d (.data (.val (.int .i64 0)))
  | some (.slice _), .rm _ _ es => putT d (.data (.capv es.length))
  | _, _ => .fail
 | .clear, [t], [x] => clrPr P d t x
 | .min, _, x :: r => do
  let (k, a) ← asIK (← view x)
  let bs ← r.mapM fun y => do pure (← asIK (← view y)).2
  putT d (.data (.val (.int k (minmax false a bs))))
 | .max, _, x :: r => do
  let (k, a) ← asIK (← view x)
  let bs ← r.mapM fun y => do pure (← asIK (← view y)).2
  putT d (.data (.val (.int k (minmax true a bs))))
 | _, _, _ => .fail

def partC (t : TypeId) (ch : List DV) : Pr DV := do
 let n ← Pr.of (szT P t)
 match ← Pr.of (aggT P t) with
 | true => do
  must (decide (n ≤ ch.length))
  pure (.agg (ch.take n))
 | false => Pr.of ch[0]?
def seen (p : Pl) (k c : Nat) (n : Option Nat) (d : DV) : AV := if d.owned then .ref p k c n else .data d
def allData : List AV → Option (List DV)
 | [] => some []
 | .data d :: r => (allData r).map (d :: ·)
 | _ => none

def loadPr (t : TypeId) (a : AV) : Pr AV :=
 match a with
 | .cptr ch => do pure (.data (← partC P t ch))
 | .eptr p k c i j => do
  let z ← gt p
  must (Nat.beq z.k k)
  match refAt p z c none with
  | some (.slc _ _ _ es) => Pr.askC es i fun ch => do pure (.data (← partC P t (ch.drop j)))
  | _ => .fail
 | .ptr i off => do
  let z ← gt (.o i)
  must z.live
  let n ← Pr.of (szT P t)
  match ← Pr.of (aggT P t) with
  | true => do
   let ds ← Pr.of (cellsAt (.o i) z off n)
   pure (seen (.o i) z.k off (some n) (.agg ds))
  | false => do
   match z.vs[off]? with
   | some (.data d) => pure (seen (.o i) z.k off none d)
   | some v => pure v
   | none => .fail
 | _ => .fail
def restamp (T : Option Nat) (i k off n : Nat) : Pr Unit := match T with
 | none => pure ()
 | some t => do
  let y ← gt (.t t)
  match y.vs with
  | [.ref (.o i') k' c none] => do
   must (Nat.beq i' i && (Nat.beq k' k && (decide (c < off) || decide (off + n ≤ c))))
   st (.t t) ⟨[.ref (.o i) (k + 1) c none], true, y.k + 1⟩
  | [.eptr (.o i') k' c ii j] => do
   must (Nat.beq i' i && (Nat.beq k' k && (decide (c < off) || decide (off + n ≤ c))))
   st (.t t) ⟨[.eptr (.o i) (k + 1) c ii j], true, y.k + 1⟩
  | _ => .fail
def storePr (T : Option Nat) (t : TypeId) (a v : AV) : Pr Unit := do
 let n ← Pr.of (szT P t)
 match a with
 | .ptr i off => do
  must (Nat.beq v.parts.length n)
  must (v.parts.all AV.okCell)
  let z ← gt (.o i)
  must z.live
  must (decide (off + n ≤ z.vs.length))
  st (.o i) ⟨setRange z.vs off v.parts, true, z.k + 1⟩
  restamp T i z.k off n
 | .eptr p k c i j => do
  match v with
  | .data d => do
   must (!d.owned)
   must (Nat.beq d.cells.length n)
   let z ← gt p
   must (Nat.beq z.k k)
   match refAt p z c none with
   | some (.slc true nl s es) => Pr.askC es i fun ch => do
    must (decide (j + n ≤ ch.length))
    st p (setCells p z c [.slc true nl s (es.set i (ch.take j ++ d.cells ++ ch.drop (j + n)))])
   | _ => .fail
  | _ => .fail
 | _ => .fail

def fieldOf (t : TypeId) (f : Nat) : Option Field := match P.underlying t with
 | some (.struct fs) => fs[f]?
 | _ => none
def ownTmp : Operand → Bool
 | .tmp t => Nat.beq (O t) 1 || Nat.beq (O t) 4
 | _ => false
def placeT (t : TypeId) : Option (Nat → Option (Nat × Nat × TypeId)) := match P.underlying t with
 | some (.struct fs) => (fs.toList.mapM fun f => (P.info? f.type).map fun i => (f.offset, i.size)).map fun l i => (l.toArray[i]?).bind fun x => (fs[i]?).map fun f => (x.1, x.2, f.type)
 | some (.array _ e) => (P.info? e).map fun ie i => some (i * ie.size, ie.size, e)
 | _ => none
def notAt (p : Pl) : AV → Bool
 | .ref q _ _ _ => !(Pl.same q p)
 | .eptr .. => false
 | _ => true
def fillC (place : Nat → Option (Nat × Nat × TypeId)) (keep : Bool) (D : Nat) : List DV → List (Nat × Operand) → Pr (List DV)
 | cs, [] => pure cs
 | cs, (i, x) :: r => do
  let (off, n, t) ← Pr.of (place i)
  let y ← opd x
  must (notAt (.t D) y)
  let z ← take keep y
  match norm P t z with
  | .data d => do
   must (Nat.beq d.cells.length n)
   must (decide (off + n ≤ cs.length))
   fillC place keep D (setRange cs off d.cells) r
  | _ => .fail

def isU8 (e : TypeId) : Bool := match P.underlying e with
 | some (.int .u8) => true
 | _ => false
def stampT : Operand → Option Nat
 | .tmp t => bif Nat.ble 100 (O t) then some (O t - 100) else none
 | _ => none
def modeOf (d : Option Tmp) : Nat := match d with
 | some t => O t
 | none => 0
def liveEp (p : Pl) (k c : Nat) : Pr Unit := do
 let z ← gt p
 must (Nat.beq z.k k)
 match cellAt p z c with
 | some (.slc ..) => pure ()
 | _ => .fail
def arrT (t : TypeId) : Option (Nat × TypeId) := (P.underlying t).bind fun
 | .array n e => some (n, e)
 | _ => none
def chunks (s : Nat) (ch : List DV) (n : Nat) : List (List DV) := (List.range n).map fun i => (ch.drop (i * s)).take s
def mapT (t : TypeId) : Option (Nat × TypeId × TypeId) := match P.underlying t with
 | some (.map k e) => match P.underlying k with
  | some .string => some (1, k, e)
  | some (.int .i64) => some (2, k, e)
  | some .bool => some (3, k, e)
  | _ => none
 | _ => none
def toV : AV → Option Value
 | .data (.val v) => some v
 | .fn (.func g) [] [] => some (.func (.func g) #[] #[])
 | _ => none
def keyPr (kd : Nat) (x : AV) : Pr Value := do
 match ← view x with
 | .val v => do
  must (Nat.beq (keyK v) kd)
  pure v
 | _ => .fail
def mscan : List (Value × Value) → Value → Pr (Option Value)
 | [], _ => pure none
 | e :: r, k => Pr.askB (eqV k e.1) fun g => if g then pure (some e.2) else mscan r k
def mapAt (kd : Nat) (x : AV) : Pr (List (Value × Value)) := do
 match x with
 | .ref p k c none => do
  let z ← gt p
  must (Nat.beq z.k k)
  match cellAt p z c with
  | some (.mp kd' es) => do
   must (Nat.beq kd' kd)
   pure es
  | _ => .fail
 | _ => .fail
def mapSet (kd : Nat) (es : List (Value × Value)) : AV → Pr Unit
 | .ref p _ c none => do
  let z ← gt p
  st p (setCells p z c [.mp kd es])
 | _ => .fail
def lookPr (mode : Nat) (d : Option Tmp) (t : TypeId) (x ix : AV) (ok : Bool) : Pr Unit := do
 let M ← Pr.of (mapT P t)
 let kv ← keyPr M.1 ix
 let zv ← Pr.of ((P.info? M.2.2).bind (·.zero))
 must (absOk zv)
 let es ← mapAt M.1 x
 let r ← (bif Nat.beq mode 6 then mscan es kv else pure (mget es kv))
 putT d (bif ok then .tup [absV (r.getD zv), .data (.val (.bool r.isSome))] else absV (r.getD zv))
def mapPut (t : TypeId) (x ix y : AV) : Pr Unit := do
 let M ← Pr.of (mapT P t)
 let kv ← keyPr M.1 ix
 let yv ← Pr.of (toV y)
 must (absOk yv)
 let es ← mapAt M.1 x
 mapSet M.1 (mput es kv yv) x
def mapOpPr (d : Option Tmp) (t : TypeId) (x ix y : Operand) : Pr Unit := do
 must d.isNone
 let a ← opd x
 let b ← opd ix
 let v ← opd y
 mapPut P t a b v
def arrPr (d : Option Tmp) (t : TypeId) (ch : List DV) (lo : Int) (hi : Option Int) : Pr Unit := do
 let ne ← Pr.of (arrT P t)
 let s ← Pr.of (szT P ne.2)
 must (decide (ne.1 * s ≤ ch.length))
 let h := hi.getD ne.1
 need (decide (0 ≤ lo ∧ lo ≤ h ∧ h ≤ ne.1))
 putT d (.data (.slc false (some false) s (((chunks s ch ne.1).take h.toNat).drop lo.toNat)))
def isPtrT (t : TypeId) : Bool := match P.underlying t with
 | some (.pointer _) => true
 | _ => false
def AV.isPtr : AV → Bool
 | .ptr _ _ => true
 | _ => false
def rowPr (d : Option Tmp) (e : TypeId) (len : Nat) (parts : List (Nat × Operand)) : Pr Unit := do
 let i ← Pr.of d
 let n ← Pr.of (szT P e)
 let z ← Pr.of (zeroC P false e)
 must (Nat.beq z.length n && (Nat.beq n 1 && decide (0 < len ∧ len ≤ 1000)))
 must (parts.map (·.1) == List.range len)
 let ps ← (parts.map (·.2)).mapM opd
 must (ps.all AV.isPtr)
 let y ← gt (.o i)
 must (!y.live)
 st (.o i) ⟨ps, true, y.k + 1⟩
 putT d (.orow i len)
def bothSl (src dst : TypeId) : Bool := match P.underlying src, P.underlying dst with
 | some (.slice _), some (.slice _) => true
 | _, _ => false
def markPr (d : Option Tmp) (src dst : TypeId) : AV → Pr Unit
 | .ref (.t t) k 0 none => do
  let e ← Pr.of (elemT P dst)
  let _ ← Pr.of (elemT P src)
  must (Nat.beq src dst && isU8 P e)
  let x ← gt (.t t)
  must (Nat.beq x.k k)
  match cellAt (.t t) x 0 with
  | some (.slc true nl 1 es) => do
   must (!es.isEmpty)
   st (.t t) (setCells (.t t) x 0 [.slc true nl 1 es])
   putT d (.ref (.t t) k 0 none)
  | _ => .fail
 | _ => .fail
def opPr (o : Oper) : Pr Unit :=
 let d := o.dst
 let mode := modeOf O d
 let keep := Nat.beq mode 1
 match o.op with
 | .move x => do
  let a ← opd x
  if Nat.beq mode 0 then putT d a else putT d (normS P o.type (← take keep a))
 | .assign x => do putT d (normS P o.type (ownN keep (← take keep (← opd x))))
 | .pick c a b => do
  match ← view (← opd c) with
  | .val (.bool t) => Pr.askB t fun g => do
   if g then putT d (← opd a) else putT d (← opd b)
  | _ => .fail
 | .alloc t => do
  let i ← Pr.of d
  let z ← gt (.o i)
  must (!z.live)
  let cs ← Pr.of (zeroC P keep t)
  st (.o i) ⟨cs.map AV.data, true, z.k + 1⟩
  putT d (.ptr i 0)
 | .box t x => do
  let i ← Pr.of d
  let v ← take keep (← opd x)
  let z ← gt (.o i)
  must (!z.live)
  must ((norm P t v).parts.all AV.okCell)
  st (.o i) ⟨(norm P t v).parts, true, z.k + 1⟩
  putT d (.ptr i 0)
 | .build t parts => do
  let z ← Pr.of (zeroC P keep t)
  let pl ← Pr.of (placeT P t)
  let cs ← fillC P pl keep (d.getD 0) z parts.toList
  putT d (.data (.agg cs))
 | .buildSlice t len parts => do
  let e ← Pr.of (elemT P t)
  bif isPtrT P e then rowPr P d e len parts.toList else do
  let n ← Pr.of (szT P e)
  let z ← Pr.of (zeroC P false e)
  must (Nat.beq z.length n)
  must (decide (0 < n ∧ len * n ≤ 16777216))
  let cs ← fillC P (fun i => some (i * n, n, e)) false (d.getD 0) ((List.range (len * n)).map fun i => z.getD (i % n) default) parts.toList
  putT d (.data (.slc true (some false) n ((List.range len).map fun i => (cs.drop (i * n)).take n)))
 | .load t a => do putT d (← loadPr P t (← opd a))
 | .store t a x => do
  must d.isNone
  let v ← take (ownTmp O x) (← opd x)
  storePr P (stampT O a) t (← opd a) (norm P t v)
 | .nilCheck x => do
  match ← opd x with
  | .ptr i j => putT d (.ptr i j)
  | .cptr ch => putT d (.cptr ch)
  | .eptr p k c i j => do
   liveEp p k c
   putT d (.eptr p k c i j)
  | .fn (.func f) a b => putT d (.fn (.func f) a b)
  | .ifc t v => putT d (.ifc t v)
  | _ => .fail
 | .binOp op t x y _ => do
  let a ← view (← opd x)
  let b ← view (← opd y)
  putT d (.data (← binD P op t a b))
 | .unOp op _ x => do
  match ← view (← opd x) with
  | .val v => do putT d (.data (.val (← unV op v)))
  | _ => .fail
 | .convert src dst x => do
  let a ← opd x
  bif bothSl P src dst then markPr P d src dst a else do
  match P.underlying src, P.underlying dst, ← view a with
  | some _, some (.int k), .val (.int _ n) => putT d (.data (.val (.int k (k.wrap n))))
  | some _, some .string, .val (.string s) => putT d (.data (.val (.string s)))
  | some .string, some (.slice e), .val (.string s) => do
   must (isU8 P e)
   putT d (.data (.slc true none 1 (bytesC s)))
  | some (.slice e), some .string, .slc _ _ s es => do
   must (isU8 P e)
   must (Nat.beq s 1)
   need (allBytes es)
   putT d (.data (.val (.string (strOf es))))
  | some (.slice e), some .string, .rm n s es => do
   must (isU8 P e)
   must (Nat.beq s 1)
   need (allBytes (es.take n))
   putT d (.data (.val (.string (strOf (es.take n)))))
  | _, _, _ => .fail
 | .makeInterface t x => do
  let v ← take false (← opd x)
  must v.plain0
  must (match P.underlying t with
   | some (.interface _) => false
   | some _ => true
   | none => false)
  putT d (.ifc t v)
 | .makeFunc (.func f) first captured => do
  let a ← first.toList.mapM opd
  let b ← captured.toList.mapM opd
  must ((a ++ b).all AV.plain0)
  putT d (.fn (.func f) a b)
 | .makeSlice t l c => do
  let e ← Pr.of (elemT P t)
  let s ← Pr.of (szT P e)
  let b ← Pr.of (bytT P e)
  let z ← Pr.of (zeroC P false e)
  let n ← vI (← opd l)
  let m ← vI (← opd c)
  must (Nat.beq z.length s)
  must (decide (0 < s ∧ b ≤ 4096))
  need (decide (0 ≤ n ∧ n ≤ m ∧ m ≤ 4294967296))
  putT d (.data (.slc true (some false) s (List.replicate n.toNat z)))
 | .slice t x lo hi mx => do
  let _ ← Pr.of d
  let a0 ← opd x
  let lo ← (match lo with
   | some v => do vI (← opd v)
   | none => pure 0)
  let hi ← (match hi with
   | some v => do pure (some (← vI (← opd v)))
   | none => pure none)
  match mx with
  | some v => do
   let m ← vI (← opd v)
   must (decide (m = 0 ∧ lo = 0 ∧ hi = some 0))
   let e ← Pr.of (elemT P t)
   let _ ← Pr.of (szT P e)
   match ← view a0 with
   | .slc _ _ s _ => putT d (.data (.slc true none s []))
   | _ => .fail
  | none => bif Nat.beq mode 5 then do
   match ← view a0 with
   | .slc _ _ _ es => do
    let e ← Pr.of (elemT P t)
    let _ ← Pr.of (szT P e)
    let h := hi.getD es.length
    need (decide (0 ≤ lo ∧ lo ≤ h ∧ h ≤ es.length))
    putT d .dead
   | _ => .fail
  else (match a0 with
  | .cptr ch => arrPr P d t ch lo hi
  | a0 => do
   match ← take keep a0 with
   | .data (.slc own nl s es) => do
    let e ← Pr.of (elemT P t)
    let s' ← Pr.of (szT P e)
    must (Nat.beq s' s || nl == some true)
    let h := hi.getD es.length
    need (decide (0 ≤ lo ∧ lo ≤ h ∧ h ≤ es.length))
    must true
    bif Nat.beq mode 7 && (!own && decide (lo = 0)) then do
     need (!es.isEmpty)
     putT d (.data (.rm h.toNat s es))
    else putT d (.data (.slc own nl s ((es.take h.toNat).drop lo.toNat)))
   | .data (.rm n s es) => do
    let e ← Pr.of (elemT P t)
    let s' ← Pr.of (szT P e)
    must (Nat.beq s' s)
    let h := hi.getD n
    need (decide (0 ≤ lo ∧ lo ≤ h ∧ h ≤ es.length))
    putT d (.data (.slc false none s ((es.take h.toNat).drop lo.toNat)))
   | .data (.val (.string u)) => do
    must (match P.underlying t with
     | some .string => true
     | _ => false)
    let h := hi.getD u.size
    need (decide (0 ≤ lo ∧ lo ≤ h ∧ h ≤ u.size))
    putT d (.data (.val (.string (u.extract lo.toNat h.toNat))))
   | _ => .fail)
 | .fieldAddr t x f => do
  let fd ← Pr.of (fieldOf P t f)
  let n ← Pr.of (szT P fd.type)
  must (decide (0 < n))
  match ← opd x with
  | .ptr i j => putT d (.ptr i (j + fd.offset))
  | .cptr ch => putT d (.cptr (ch.drop fd.offset))
  | .eptr p k c i j => do
   liveEp p k c
   putT d (.eptr p k c i (j + fd.offset))
  | _ => .fail
 | .field t x f => do
  let fd ← Pr.of (fieldOf P t f)
  let n ← Pr.of (szT P fd.type)
  match ← Pr.of (aggT P fd.type), ← opd x with
  | true, .data (.agg cs) => do
   must (decide (fd.offset + n ≤ cs.length))
   putT d (.data (.agg ((cs.drop fd.offset).take n)))
  | false, .data (.agg cs) => do
   let e ← Pr.of cs[fd.offset]?
   putT d (.data e)
  | ag, .ref p k c (some l) => do
   let z ← gt p
   must (Nat.beq z.k k)
   must (decide (fd.offset + n ≤ l) && decide (fd.offset < l))
   let n' := if ag then some n else none
   let e ← Pr.of (refAt p z (c + fd.offset) n')
   putT d (seen p k (c + fd.offset) n' e)
  | _, _ => .fail
 | .indexAddr t x ix => do
  let i ← vI (← opd ix)
  match P.underlying t, ← opd x with
  | some (.slice e), .data (.slc false _ sz es) => do
   let s ← Pr.of (szT P e)
   must (Nat.beq s sz && decide (0 < s))
   need (decide (0 ≤ i ∧ i < es.length))
   Pr.askC es i.toNat fun ch => putT d (.cptr ch)
  | some (.slice e), .ref p k c none => do
   let s ← Pr.of (szT P e)
   let z ← gt p
   must (Nat.beq z.k k)
   match refAt p z c none with
   | some (.slc _ _ sz es) => do
    must (Nat.beq s sz && decide (0 < s))
    need (decide (0 ≤ i ∧ i < es.length))
    putT d (.eptr p k c i.toNat 0)
   | _ => .fail
  | some (.slice e), .orow o n => do
   let s ← Pr.of (szT P e)
   must (Nat.beq s 1)
   need (decide (0 ≤ i ∧ i < n))
   Pr.askI i.toNat fun j => putT d (.ptr o (0 + j * s))
  | some (.array n e), .ptr o off => do
   let s ← Pr.of (szT P e)
   must (decide (0 < s))
   need (decide (0 ≤ i ∧ i < n))
   Pr.askI i.toNat fun j => putT d (.ptr o (off + j * s))
  | some (.array n e), .cptr ch => do
   let s ← Pr.of (szT P e)
   must (decide (0 < s))
   need (decide (0 ≤ i ∧ i < n))
   Pr.askI i.toNat fun j => putT d (.cptr (ch.drop (j * s)))
  | _, _ => .fail
 | .index t x ix => do
  let i ← vI (← opd ix)
  match ← view (← opd x) with
  | .val (.string s) => do
   must (match P.underlying t with
    | some .string => true
    | _ => false)
   need (decide (0 ≤ i ∧ i < s.size))
   putT d (.data (.val (.int .u8 (s.data.toList.getD i.toNat 0).toNat)))
  | _ => .fail
 | .typeAssert x _ t ok => do
  match P.underlying t, ← opd x with
  | some (.interface _), _ => .fail
  | some _, .ifc u v => do
   must (Nat.beq u t)
   putT d (if ok then .tup [v, .data (.val (.bool true))] else v)
  | _, _ => .fail
 | .makeMap t none => do
  let _ ← Pr.of d
  let M ← Pr.of (mapT P t)
  putT d (.data (.mp M.1 []))
 | .lookup t x ix ok => do
  let a ← opd x
  let b ← opd ix
  lookPr P mode d t a b ok
 | .mapUpdate t x ix y => mapOpPr P d t x ix y
 | .insert t x ix y => mapOpPr P d t x ix y
 | .extract x i => do
  match ← opd x with
  | .tup vs => do
   let v ← Pr.of vs[i]?
   putT d v
  | _ => .fail
 | .call c => do
  let args ← c.args.toList.mapM opd
  match c.callee with
  | .builtin b => builtinPr P d b c.argTypes.toList args
  | .value f => do
   match ← opd f with
   | .fn (.func g) a b => callPrM P mode d g (a ++ args ++ b)
   | _ => .fail
  | .invoke r name => do
   match ← opd r with
   | .ifc t v => do
    let (g, ld) ← Pr.of (methodT P t name)
    let x ← (match ld with
     | none => pure v
     | some e => loadPr P e v)
    callPrM P mode d g (x :: args)
   | _ => .fail
 | _ => .fail

def stepPr (ops : Array Oper) (o : Oper) : Pr Unit :=
 match o.guard with
 | none => opPr P O o
 | some (j, want) => match (ops[j]?).bind (·.dst) with
  | some t => do
   let c ← gt (.t t)
   match c.vs with
   | [.data (.val (.bool b))] => Pr.askB b fun g => if g == want then opPr P O o else putT o.dst (.tup [])
   | [.tup []] => putT o.dst (.tup [])
   | _ => .fail
  | none => .fail
end
end Go.Proofs.Ytknkeabmjleoiaa.Vam
/- The machine by value: regions, code, functions. -/
namespace Go.Proofs.Ytknkeabmjleoiaa.Vam
open Go
set_option linter.unusedVariables false

abbrev Fp := List Pl × List Pl
def touches (a b : List Pl) : Bool := a.any fun p => b.any fun q => Pl.same p q
def apartFp (a b : Fp) : Bool := !(touches a.2 b.1 || touches a.2 b.2 || touches b.2 a.1)
inductive RSeq (C : Query → Answer → Prop) (step : Nat → Pr Unit) : List Nat → St → List Fp → St → Prop where
 | nil {σ : St} : RSeq C step [] σ [] σ
 | cons {i : Nat} {is : List Nat} {σ σ1 σ' : St} {R W : List Pl} {fps : List Fp} : Ex C (step i) σ R W () σ1 → RSeq C step is σ1 fps σ' → RSeq C step (i :: is) σ ((R, W) :: fps) σ'

def befs (ops : Array Oper) : List Nat := (Region.before ops).toList
def depsOr (ops : Array Oper) (m : List Nat) (o : Oper) : Nat :=
 o.after.toList.foldl (fun s e => if Region.binds .any e then s ||| 2 ^ e.on ||| m.getD e.on 0 else s) 0
def befOk (ops : Array Oper) (m : List Nat) : Bool :=
 Nat.beq m.length ops.size && ops.toList.zipIdx.all fun (o, j) => Nat.beq (m.getD j 0) (depsOr ops m o)
def pairsOk (m : List Nat) : Nat → List Fp → Bool
 | _, [] => true
 | i, a :: r => (r.zipIdx.all fun (b, j) => (m.getD (i + 1 + j) 0).testBit i || apartFp a b) && pairsOk m (i + 1) r
def backOk (ops : Array Oper) : Bool := ops.toList.zipIdx.all fun x => x.1.after.all fun e => !Region.binds .any e || decide (e.on < x.2)
def drawOk (ops : Array Oper) (fps : List Fp) : Bool := let m := befs ops; befOk ops m && (backOk ops && pairsOk m 0 fps)

section
variable (P : Program) (O : Nat → Nat)
def stepAt (ops : Array Oper) (i : Nat) : Pr Unit := match ops[i]? with
 | some o => stepPr P O ops o
 | none => .pure ()
def Reg (C : Query → Answer → Prop) (ops : Array Oper) (draw : Bool) (σ σ' : St) : Prop :=
 ∃ fps, RSeq C (stepAt P O ops) (List.range ops.size) σ fps σ' ∧ (draw = true → drawOk ops fps = true)

inductive Way where
 | normal
 | exit (id : Nat)
 | ret
 deriving DecidableEq

def opB (σ : St) : Operand → Option Bool
 | .const (.bool b) => some b
 | .tmp t => match (σ (.t t)).vs with
  | [.data (.val (.bool b))] => some b
  | _ => none
 | _ => none

def AV.still0 : AV → Bool
 | .ref .. => false
 | .eptr .. => false
 | .data d => !d.owned || true
 | .fn _ a b => (a ++ b).all AV.plain0
 | .ifc _ v => v.plain0
 | .tup vs => vs.all AV.plain1
 | _ => true
def ofL (l : List (Pl × List AV)) : St := fun p => match l.find? (fun e => Pl.same e.1 p) with
 | some e => ⟨e.2, true, 0⟩
 | none => match p with
  | .t _ => ⟨[.dead], true, 0⟩
  | .o _ => ⟨[], false, 0⟩
def hasO (l : List (Pl × List AV)) (i : Nat) : Bool := l.any fun e => Pl.same e.1 (.o i)
def hasP (l : List (Pl × List AV)) (p : Pl) : Bool := l.any fun e => Pl.same e.1 p
def okW (l : List (Pl × List AV)) : Pl → AV → Bool
 | .t _, .ref p k _ _ => Nat.beq k 0 && hasP l p
 | .t _, .eptr p k _ _ _ => Nat.beq k 0 && hasP l p
 | _, v => v.still0
def wfL (l : List (Pl × List AV)) : Bool := l.all fun e => (match e.1 with
 | .t _ => Nat.beq e.2.length 1
 | .o _ => true) && e.2.all fun v => okW l e.1 v && v.men.all (hasO l)
def nrm (σ : St) : List AV → List AV
 | [.ref p k c n] => bif Nat.beq k (σ p).k then [.ref p 0 c n] else [.dead]
 | [.eptr p k c i j] => bif Nat.beq k (σ p).k then [.eptr p 0 c i j] else [.dead]
 | vs => vs
def fgTo : Pl → List AV → List AV → List AV
 | .t _, [.data (.slc _ none _ _)], [.data (.slc own _ sz es)] => [.data (.slc own none sz es)]
 | _, _, vs => vs
structure Weak (σ : St) (l : List (Pl × List AV)) : Prop where
 same : l.map (fun e => fgTo e.1 e.2 (nrm σ (σ e.1).vs)) = l.map (fun e => e.2)
 live : (l.all fun e => (σ e.1).live) = true
 wf : wfL l = true

inductive Run (C : Query → Answer → Prop) : Code → St → Way → St → Prop where
 | skip {σ : St} : Run C .skip σ .normal σ
 | label {n : Nat} {σ : St} : Run C (.label n) σ .normal σ
 | ret {σ : St} : Run C .ret σ .ret σ
 | exit {n : Nat} {σ : St} : Run C (.exit n) σ (.exit n) σ
 | region {n : Nat} {ops : Array Oper} {draw : Bool} {σ σ' : St} : Reg P O C ops draw σ σ' → Run C (.region n ops draw) σ .normal σ'
 | seqN {x y : Code} {σ τ υ : St} {e : Way} : Run C x σ .normal τ → Run C y τ e υ → Run C (.seq x y) σ e υ
 | seqX {x y : Code} {σ τ : St} {e : Way} : Run C x σ e τ → e ≠ .normal → Run C (.seq x y) σ e τ
 | cond {c : Operand} {x y : Code} {b : Bool} {σ τ : St} {e : Way} : opB σ c = some b → Run C (bif b then x else y) σ e τ → Run C (.cond c x y) σ e τ
 | blockN {n : Nat} {x : Code} {σ τ : St} : Run C x σ .normal τ → Run C (.block n x) σ .normal τ
 | blockE {n : Nat} {x : Code} {σ τ : St} : Run C x σ (.exit n) τ → Run C (.block n x) σ .normal τ
 | blockX {n : Nat} {x : Code} {σ τ : St} {e : Way} : Run C x σ e τ → e ≠ .normal → e ≠ .exit n → Run C (.block n x) σ e τ
 | loopX {x : Code} {σ τ : St} {e : Way} : Run C x σ e τ → e ≠ .normal → Run C (.loop x) σ e τ
 | loopS {x : Code} {σ τ υ : St} {e : Way} : Run C x σ .normal τ → Run C (.loop x) τ e υ → Run C (.loop x) σ e υ
 | weak {c : Code} {σ τ : St} {e : Way} (l : List (Pl × List AV)) : Weak σ l → Run C c (ofL l) e τ → Run C c σ e τ
 | freeze {c : Code} {σ τ : St} {e : Way} {t i : Nat} {ds : List DV} (l : List (Pl × List AV)) : (σ (.t t)).vs = [.ptr i 0] → (σ (.o i)).vs = ds.map AV.data → (σ (.o i)).live = true → ds.all (fun d => !d.owned1 && d.cell) = true →
   Weak σ l → hasO l i = false → Run C c ((ofL l).put (.t t) ⟨[.cptr ds], true, 1⟩) e τ → Run C c σ e τ
 | swap {c : Code} {σ σ1 τ : St} {e : Way} {t u k : Nat} {d : DV} {R W : List Pl} : Ex C (take true (.ref (.t t) k 0 none)) σ R W (.data d) σ1 → (σ (.t u)).vs = [.ref (.t t) k 0 none] → (σ (.t t)).vs = [.data d] → d.cell = true → Nat.beq t u = false →
   Run C c ((σ1.put (.t u) ⟨[.data d], true, (σ1 (.t u)).k + 1⟩).put (.t t) ⟨[.ref (.t u) ((σ1 (.t u)).k + 1) 0 none], true, (σ1 (.t t)).k + 1⟩) e τ → Run C c σ e τ
 | nilk {c : Code} {σ τ : St} {e : Way} {t sz : Nat} {own b : Bool} {es : List (List DV)} : (σ (.t t)).vs = [.data (.slc own none sz es)] → b = false → es.isEmpty = false → Run C c (σ.put (.t t) ⟨[.data (.slc own (some b) sz es)], true, (σ (.t t)).k + 1⟩) e τ → Run C c σ e τ
 | shareO {c : Code} {σ σ' τ : St} {e : Way} {i k cc : Nat} {z : AV} {R W : List Pl} : (σ (.o i)).live = true → cc < (σ (.o i)).vs.length → Ex C (take false (.ref (.o i) k cc none)) σ R W z σ' → Run C c σ' e τ → Run C c σ e τ
 | share {c : Code} {σ σ' τ : St} {e : Way} {x : Operand} {z : AV} {R W : List Pl} : Ex C (do take false (← opd x)) σ R W z σ' → Run C c σ' e τ → Run C c σ e τ

def entry (args : List AV) (objs : List (List AV)) : St
 | .t i => ⟨[args.getD i .dead], true, 0⟩
 | .o i => if i < 1000 then ⟨[], false, 0⟩ else match objs[i - 1000]? with
  | some vs => ⟨vs, true, 0⟩
  | none => ⟨[], false, 0⟩
def tmpsOf : List ResultVar → Option (List Nat)
 | [] => some []
 | .tmp t :: r => (tmpsOf r).map (t :: ·)
 | _ => none
def isData : AV → Bool
 | .data _ => true
 | _ => false
def resY : ResultVar → Pr AV
 | .tmp t => opd (.tmp t)
 | .cell a t => do
  match ← opd (.tmp a) with
  | .ptr i off => loadPr P t (.ptr i off)
  | _ => .fail
def resPr (fn : Func) : Pr AV :=
 match fn.results.toList with
 | [.tmp t] => do
  let v ← take (Nat.beq (O t) 1) (← opd (.tmp t))
  must (v.plain1 || isData v)
  pure v
 | [.cell a t] => do
  match ← opd (.tmp a) with
  | .ptr i off => do
   let v ← take (Nat.beq (O a) 1) (← loadPr P t (.ptr i off))
   must (v.plain1 || isData v)
   pure v
  | _ => .fail
 | rs => do
  must (!Nat.beq rs.length 1)
  let ys ← rs.mapM (resY P)
  must (ys.all AV.okArg)
  let vs ← ys.mapM (take false)
  must (vs.all AV.plain1)
  pure (.tup vs)
def notParam (n i : Nat) : Bool := !(decide (1000 ≤ i) && decide (i - 1000 < n))
def paramCells : Nat → Nat → Pr (List (List AV))
 | _, 0 => pure []
 | i, n + 1 => do
  let c ← gt (.o i)
  must c.live
  must (c.vs.all AV.plainC)
  let r ← paramCells (i + 1) n
  pure (c.vs :: r)
def finPr (fn : Func) (n : Nat) : Pr Answer := do
 let r ← resPr P O fn
 let ps ← paramCells 1000 n
 let g ← gatherGo 200 (r.men ++ ps.flatten.flatMap AV.men1) []
 let esc := g.filter fun x => notParam n x.1
 let ls := (List.range n).map (1000 + ·) ++ esc.map (·.1)
 pure ⟨r.ren (idx ls), (ps ++ esc.map (·.2.vs)).map fun vs => vs.map (AV.ren (idx ls))⟩
end

inductive Asks (C : Query → Answer → Prop) : Query → Answer → Prop where
 | of {q : Query} {a : Answer} : C q a → Asks C q a
 | nil {f : FuncId} {args1 args2 : List AV} {objs : List (List AV)} {sz : Nat} {es : List (List DV)} {a : Answer} :
   (es = [] → Asks C ⟨f, args1 ++ .data (.slc false (some true) sz []) :: args2, objs⟩ a) → Asks C ⟨f, args1 ++ .data (.slc false (some false) sz es) :: args2, objs⟩ a →
   Asks C ⟨f, args1 ++ .data (.slc false none sz es) :: args2, objs⟩ a
 | fg {f : FuncId} {args1 args2 : List AV} {objs : List (List AV)} {nl : Option Bool} {sz : Nat} {es : List (List DV)} {a : Answer} :
   Asks C ⟨f, args1 ++ .data (.slc false none sz es) :: args2, objs⟩ a → Asks C ⟨f, args1 ++ .data (.slc false nl sz es) :: args2, objs⟩ a
 | rm {f : FuncId} {args1 args2 : List AV} {objs : List (List AV)} {n sz : Nat} {es es' : List (List DV)} {a : Answer} : (args1 ++ args2).all AV.plain1 = true → es.take n = es' →
   Asks C ⟨f, args1 ++ .data (.slc false none sz es') :: args2, objs⟩ a → Asks C ⟨f, args1 ++ .data (.rm n sz es) :: args2, objs⟩ a

def dstOk (nt : Nat) (ops : Array Oper) : Bool := ops.all fun o => match o.dst with
 | some t => decide (t < nt)
 | none => true
def codeOk (nt : Nat) : Code → Bool
 | .region _ ops _ => dstOk nt ops
 | .seq x y => codeOk nt x && codeOk nt y
 | .cond _ x y => codeOk nt x && codeOk nt y
 | .block _ x => codeOk nt x
 | .loop x => codeOk nt x
 | _ => true
def mapQ : List AV → Bool
 | [.data (.mp _ _)] => true
 | _ => false
def RunF (P : Program) (os : FuncId → Nat → Nat) (E : Query → Answer → Prop) : Nat → Query → Answer → Prop
 | 0, q, a => E q a
 | n + 1, q, a => E q a ∨ ∃ fn code σ e R W σ', P.funcs[q.f]? = some fn ∧ fn.body = some code ∧ (fn.name == "runtime.NumGoroutine") = false ∧ (decide (fn.ntmps ≤ 1000) && codeOk fn.ntmps code) = true ∧ decide (q.objs.length ≤ 1000) = true ∧
   Run P (os q.f) (Asks (RunF P os E n)) code (entry q.args q.objs) e σ ∧ (e = .normal ∨ e = .ret) ∧ Ex (fun _ _ => False) (finPr P (os q.f) fn q.objs.length) σ R W a σ' ∧ mapQ q.args = false
end Go.Proofs.Ytknkeabmjleoiaa.Vam
/- The machine by value, reckoned: what is left to be shown of a region. -/
namespace Go.Proofs.Ytknkeabmjleoiaa.Vam
open Go
set_option linter.unusedVariables false

inductive Gv where
 | b (x : Bool)
 | c (ch : List DV)
 | i (n : Nat)
 | a (r : Answer)
 | s (p : Pl) (vs : List AV)
section
variable (C : Query → Answer → Prop)
def Pr.w {α : Type} : Pr α → St → List Gv → List Pl → List Pl → (α → St → List Gv → List Pl → List Pl → Prop) → Prop
 | .pure a, σ, g, R, W, k => k a σ g R W
 | .fail, _, _, _, _, _ => False
 | .get p m, σ, g, R, W, k => (m (σ p)).w σ g (p :: R) W k
 | .set p c m, σ, g, R, W, k => match g with
  | .s q vs :: g' => bif Pl.same q p then c.vs = vs ∧ m.w (σ.put p ⟨vs, c.live, c.k⟩) g' R (p :: W) k else m.w (σ.put p c) g R (p :: W) k
  | _ => m.w (σ.put p c) g R (p :: W) k
 | .askB b m, σ, g, R, W, k => match g with
  | .b x :: g => b = x ∧ (m x).w σ g R W k
  | _ => False
 | .askT b m, σ, g, R, W, k => b = true ∧ m.w σ g R W k
 | .askC es i m, σ, g, R, W, k => match g with
  | .c ch :: g => es[i]? = some ch ∧ (m ch).w σ g R W k
  | _ => False
 | .askI i m, σ, g, R, W, k => match g with
  | .i n :: g => i = n ∧ (m n).w σ g R W k
  | _ => False
 | .askF q m, σ, g, R, W, k => match g with
  | .a r :: g => C q r ∧ (m r).w σ g R W k
  | _ => False
theorem Pr.w_sound {α : Type} (m : Pr α) : ∀ {σ : St} {g : List Gv} {R W : List Pl} {k : α → St → List Gv → List Pl → List Pl → Prop}, m.w C σ g R W k →
  ∃ a σ' g' R' W', Ex C m σ R' W' a σ' ∧ k a σ' g' (R'.reverse ++ R) (W'.reverse ++ W) := by
 induction m with
 | pure a => exact fun h => ⟨a, _, _, [], [], .pure, h⟩
 | fail => exact fun h => h.elim
 | get p m ih => exact fun h => let ⟨a, σ', g', R', W', h1, h2⟩ := ih _ h; ⟨a, σ', g', p :: R', W', .get h1, by simpa using h2⟩
 | set p c m ih =>
  intro σ g R W k h
  have go : ∀ {g : List Gv}, m.w C (σ.put p c) g R (p :: W) k → ∃ a σ' g' R' W', Ex C (.set p c m) σ R' W' a σ' ∧ k a σ' g' (R'.reverse ++ R) (W'.reverse ++ W) := fun h => let ⟨a, σ', g', R', W', h1, h2⟩ := ih h; ⟨a, σ', g', R', p :: W', .set h1, by simpa using h2⟩
  unfold Pr.w at h
  split at h
  ·rename_i q vs g'
   cases hq : Pl.same q p with
   | true =>
    rw [hq] at h
    obtain ⟨h1, h2⟩ := h
    subst h1
    exact go h2
   | false => rw [hq] at h; exact go h
  ·exact go h
 | askB b m ih =>
  intro σ g R W k h
  unfold Pr.w at h
  split at h
  ·obtain ⟨rfl, h⟩ := h
   obtain ⟨a, σ', g', R', W', h1, h2⟩ := ih _ h
   exact ⟨a, σ', g', R', W', .askB h1, h2⟩
  ·exact h.elim
 | askT b m ih => exact fun h => let ⟨a, σ', g', R', W', h1, h2⟩ := ih h.2; ⟨a, σ', g', R', W', .askT h.1 h1, h2⟩
 | askC es i m ih =>
  intro σ g R W k h
  unfold Pr.w at h
  split at h
  ·obtain ⟨e, h⟩ := h
   obtain ⟨a, σ', g', R', W', h1, h2⟩ := ih _ h
   exact ⟨a, σ', g', R', W', .askC e h1, h2⟩
  ·exact h.elim
 | askI i m ih =>
  intro σ g R W k h
  unfold Pr.w at h
  split at h
  ·obtain ⟨rfl, h⟩ := h
   obtain ⟨a, σ', g', R', W', h1, h2⟩ := ih _ h
   exact ⟨a, σ', g', R', W', .askI h1, h2⟩
  ·exact h.elim
 | askF q m ih =>
  intro σ g R W k h
  unfold Pr.w at h
  split at h
  ·obtain ⟨e, h⟩ := h
   obtain ⟨a, σ', g', R', W', h1, h2⟩ := ih _ h
   exact ⟨a, σ', g', R', W', .askF e h1, h2⟩
  ·exact h.elim

def seqW (step : Nat → Pr Unit) : List Nat → St → List Gv → List Fp → (St → List Fp → Prop) → Prop
 | [], σ, _, fps, k => k σ fps
 | i :: is, σ, g, fps, k => (step i).w C σ g [] [] fun _ σ g R W => seqW step is σ g ((R.reverse, W.reverse) :: fps) k
theorem seqW_sound (step : Nat → Pr Unit) : ∀ (is : List Nat) {σ : St} {g : List Gv} {fps : List Fp} {k : St → List Fp → Prop}, seqW C step is σ g fps k →
  ∃ σ' fps', RSeq C step is σ fps' σ' ∧ k σ' (fps'.reverse ++ fps)
 | [], σ, g, fps, k, h => ⟨σ, [], .nil, h⟩
 | i :: is, σ, g, fps, k, h => by
  obtain ⟨_, σ1, g', R, W, h1, h2⟩ := Pr.w_sound C (step i) h
  obtain ⟨σ', fps', h3, h4⟩ := seqW_sound step is h2
  simp only [List.append_nil, List.reverse_reverse] at h4
  exact ⟨σ', (R, W) :: fps', .cons h1 h3, by simpa using h4⟩
end
section
variable (P : Program) (O : Nat → Nat) (C : Query → Answer → Prop)
def regW (ops : Array Oper) (draw : Bool) (σ : St) (g : List Gv) (k : St → Prop) : Prop :=
 seqW C (stepAt P O ops) (List.range ops.size) σ g [] fun σ' fps => (bif draw then (drawOk ops fps.reverse = true ∧ k σ') else k σ')
theorem regW_sound {ops : Array Oper} {draw : Bool} {σ : St} {g : List Gv} {k : St → Prop} (h : regW P O C ops draw σ g k) : ∃ σ', Reg P O C ops draw σ σ' ∧ k σ' := by
 obtain ⟨σ', fps, h1, h2⟩ := seqW_sound C _ _ h
 cases draw with
 | true => exact ⟨σ', ⟨fps, h1, fun _ => by simpa using h2.1⟩, h2.2⟩
 | false => exact ⟨σ', ⟨fps, h1, fun h => by cases h⟩, h2⟩
end
end Go.Proofs.Ytknkeabmjleoiaa.Vam
/- The machine by value and the model: when a state of the one is a state of the other. -/
namespace Go.Proofs.Ytknkeabmjleoiaa.Vam
open Go
set_option linter.unusedVariables false

inductive All2 {α β : Type} (R : α → β → Prop) : List α → List β → Prop where
 | nil : All2 R [] []
 | cons {a : α} {b : β} {as : List α} {bs : List β} : R a b → All2 R as bs → All2 R (a :: as) (b :: bs)
namespace All2
variable {α β : Type} {R S : α → β → Prop}
theorem length {as : List α} {bs : List β} (h : All2 R as bs) : as.length = bs.length := by
 induction h with
 | nil => rfl
 | cons _ _ ih => simp [ih]
theorem mono {as : List α} {bs : List β} (h : All2 R as bs) (hm : ∀ a b, R a b → S a b) : All2 S as bs := by
 induction h with
 | nil => exact .nil
 | cons h _ ih => exact .cons (hm _ _ h) ih
theorem mono_mem {as : List α} {bs : List β} (h : All2 R as bs) (hm : ∀ a b, b ∈ bs → R a b → S a b) : All2 S as bs := by
 induction h with
 | nil => exact .nil
 | cons h _ ih => exact .cons (hm _ _ List.mem_cons_self h) (ih fun a b hb => hm a b (List.mem_cons_of_mem _ hb))
theorem get {as : List α} {bs : List β} (h : All2 R as bs) : ∀ {i : Nat} {b : β}, bs[i]? = some b → ∃ a, as[i]? = some a ∧ R a b := by
 induction h with
 | nil => intro i b h; simp at h
 | cons h _ ih =>
  intro i b hb
  cases i with
  | zero => simp at hb; subst hb; exact ⟨_, rfl, h⟩
  | succ i => simpa using ih (by simpa using hb)
theorem get2 {as : List α} {bs : List β} (h : All2 R as bs) {i : Nat} {a : α} {b : β} (ha : as[i]? = some a) (hb : bs[i]? = some b) : R a b := by
 obtain ⟨a', h1, h2⟩ := h.get hb
 rw [ha] at h1; cases h1; exact h2
theorem of_get {as : List α} {bs : List β} (hl : as.length = bs.length) (h : ∀ (i : Nat) (a : α) (b : β), as[i]? = some a → bs[i]? = some b → R a b) : All2 R as bs := by
 induction as generalizing bs with
 | nil => cases bs with
  | nil => exact .nil
  | cons b bs => simp at hl
 | cons a as ih => cases bs with
  | nil => simp at hl
  | cons b bs => exact .cons (h 0 a b rfl rfl) (ih (by simpa using hl) fun i a b ha hb => h (i + 1) a b (by simpa using ha) (by simpa using hb))
theorem append {as as' : List α} {bs bs' : List β} (h : All2 R as bs) (h' : All2 R as' bs') : All2 R (as ++ as') (bs ++ bs') := by
 induction h with
 | nil => exact h'
 | cons h _ ih => exact .cons h ih
theorem take {as : List α} {bs : List β} (h : All2 R as bs) (n : Nat) : All2 R (as.take n) (bs.take n) := by
 induction h generalizing n with
 | nil => simp; exact .nil
 | cons h _ ih => cases n with
  | zero => simp; exact .nil
  | succ n => simp; exact .cons h (ih n)
theorem drop {as : List α} {bs : List β} (h : All2 R as bs) (n : Nat) : All2 R (as.drop n) (bs.drop n) := by
 induction h generalizing n with
 | nil => simp; exact .nil
 | cons h t ih => cases n with
  | zero => simp; exact .cons h t
  | succ n => simp; exact ih n
theorem set {as : List α} {bs : List β} (h : All2 R as bs) (n : Nat) {a : α} {b : β} (hr : R a b) : All2 R (as.set n a) (bs.set n b) := by
 induction h generalizing n with
 | nil => simp; exact .nil
 | cons h t ih => cases n with
  | zero => simp; exact .cons hr t
  | succ n => simp; exact .cons h (ih n)
theorem map_right {γ : Type} {T : α → γ → Prop} {as : List α} {bs : List β} (f : β → γ) (h : All2 R as bs) (hm : ∀ a b, R a b → T a (f b)) : All2 T as (bs.map f) := by
 induction h with
 | nil => exact .nil
 | cons h _ ih => exact .cons (hm _ _ h) ih
end All2

def oneC : Value → Bool
 | .agg _ | .tuple _ => false
 | _ => true

abbrev Kn := Nat → Nat → Option Value
def Kn.le (K K' : Kn) : Prop := ∀ b o v, K b o = some v → K' b o = some v
theorem Kn.le.refl (K : Kn) : K.le K := fun _ _ _ h => h
theorem Kn.le.trans {K K' K'' : Kn} (h : K.le K') (h' : K'.le K'') : K.le K'' := fun _ _ _ e => h' _ _ _ (h _ _ _ e)

inductive CRep (K : Kn) : Value → DV → Prop where
 | val {v : Value} : scV v = true → CRep K v (.val v)
 | nil {nl : Option Bool} {sz : Nat} : nl ≠ some false → CRep K (.slice none 0 0) (.slc false nl sz [])
 | slc {nl : Option Bool} {sz : Nat} {es : List (List DV)} {b off c : Nat} (us : Nat → Nat → Value) : nl ≠ some true → es.length ≤ c → (∀ ch, ch ∈ es → ch.length = sz) →
   (∀ i j ch d, es[i]? = some ch → ch[j]? = some d → K b (off + i * sz + j) = some (us i j)) → (∀ i j ch d, es[i]? = some ch → ch[j]? = some d → CRep K (us i j) d) →
   CRep K (.slice (some ⟨b, off, none⟩) es.length c) (.slc false nl sz es)
 | empty {nl : Option Bool} {sz : Nat} {a : Addr} {c : Nat} : nl ≠ some true → CRep K (.slice (some a) 0 c) (.slc false nl sz [])
 | hole {v : Value} : oneC v = true → CRep K v .hole
 | rm {n sz : Nat} {es : List (List DV)} {b off c : Nat} (us : Nat → Nat → Value) : n ≤ es.length → es.length ≤ c → (∀ ch, ch ∈ es → ch.length = sz) →
   (∀ i j ch d, es[i]? = some ch → ch[j]? = some d → K b (off + i * sz + j) = some (us i j)) → (∀ i j ch d, es[i]? = some ch → ch[j]? = some d → CRep K (us i j) d) →
   CRep K (.slice (some ⟨b, off, none⟩) n c) (.rm n sz es)
 | capv {lo : Nat} {c : Nat} : lo ≤ c → CRep K (.int .i64 c) (.capv lo)
theorem CRep.mono {K K' : Kn} (hK : K.le K') {v : Value} {d : DV} (h : CRep K v d) : CRep K' v d := by
 induction h with
 | val h => exact .val h
 | nil h => exact .nil h
 | slc us h1 h2 h3 h4 _ ih => exact .slc us h1 h2 h3 (fun i j ch d a b => hK _ _ _ (h4 i j ch d a b)) ih
 | empty h => exact .empty h
 | hole h => exact .hole h
 | rm us h1 h2 h3 h4 _ ih => exact .rm us h1 h2 h3 (fun i j ch d a b => hK _ _ _ (h4 i j ch d a b)) ih
 | capv h => exact .capv h
theorem CRep.one {K : Kn} {v : Value} {d : DV} (h : CRep K v d) : oneC v = true ∧ d.cell = true ∧ d.owned1 = false := by
 cases h with
 | val h => cases v <;> simp_all [scV, oneC, DV.cell, DV.owned1]
 | nil _ => simp [oneC, DV.cell, DV.owned1]
 | slc _ _ _ _ _ _ => simp [oneC, DV.cell, DV.owned1]
 | empty _ => simp [oneC, DV.cell, DV.owned1]
 | hole h => simp [h, DV.cell, DV.owned1]
 | rm _ _ _ _ _ _ => simp [oneC, DV.cell, DV.owned1]
 | capv _ => simp [oneC, DV.cell, DV.owned1]

abbrev Who := Nat → Option (Pl × Option Nat)

def RowAt (w : World) (K : Kn) (b off c sz : Nat) (es : List (List DV)) : Prop :=
 ∃ cs el fr, w.heap[b]? = some (.cells cs el fr) ∧ (off + c * sz ≤ cs.size ∧ fr.1 ≤ fr.2) ∧ (∀ j, j < cs.size + (sz - 1) → (decide (fr.1 ≤ j) && decide (j < fr.2)) = false) ∧
  ∀ i j ch d, es[i]? = some ch → ch[j]? = some d → ∃ u, cs[off + i * sz + j]? = some u ∧ CRep K u d
def MapOk (kd : Nat) (es : List (Value × Value)) : Prop := kd ≠ 0 ∧ ∀ e, e ∈ es → keyK e.1 = kd ∧ absOk e.2 = true
inductive ORep (w : World) (K : Kn) (who : Who) (p : Pl) (c : Nat) : Value → DV → Prop where
 | nil {nl : Option Bool} {sz : Nat} : nl ≠ some false → ORep w K who p c (.slice none 0 0) (.slc true nl sz [])
 | empty {nl : Option Bool} {sz : Nat} {a : Addr} : nl ≠ some true → ORep w K who p c (.slice (some a) 0 0) (.slc true nl sz [])
 | slc {nl : Option Bool} {sz : Nat} {es : List (List DV)} {b off cap : Nat} : nl ≠ some true → 0 < sz → es.length ≤ cap → (∀ ch, ch ∈ es → ch.length = sz) → who b = some (p, some c) →
   RowAt w K b off cap sz es → ORep w K who p c (.slice (some ⟨b, off, none⟩) es.length cap) (.slc true nl sz es)
 | mp {kd b clk : Nat} {me : Array MapEntry} {es : List (Value × Value)} : who b = some (p, some c) → w.heap[b]? = some (.map me clk) → me.toList.map (fun e => (e.key, e.val)) = es → MapOk kd es → (∀ e ∈ me.toList, e.born < clk) → ORep w K who p c (.map (some b)) (.mp kd es)
def CO (w : World) (K : Kn) (who : Who) (p : Pl) (c : Nat) (v : Value) (d : DV) : Prop :=
 (d.owned1 = false → CRep K v d) ∧ (d.owned1 = true → ORep w K who p c v d)
theorem RowAt.mono {w w' : World} {K K' : Kn} {b off c sz : Nat} {es : List (List DV)} (hw : w'.heap[b]? = w.heap[b]?) (hK : K.le K') (h : RowAt w K b off c sz es) : RowAt w' K' b off c sz es := by
 obtain ⟨cs, el, fr, h1, h2, h3, h4⟩ := h
 exact ⟨cs, el, fr, hw.trans h1, h2, h3, fun i j ch d a b => let ⟨u, hu, hc⟩ := h4 i j ch d a b; ⟨u, hu, hc.mono hK⟩⟩
theorem ORep.mono {w w' : World} {K K' : Kn} {who who' : Who} {p : Pl} {c : Nat} {v : Value} {d : DV} (hK : K.le K') (hw : ∀ b, who b = some (p, some c) → who' b = some (p, some c) ∧ w'.heap[b]? = w.heap[b]?)
  (h : ORep w K who p c v d) : ORep w' K' who' p c v d := by
 cases h with
 | nil h => exact .nil h
 | empty h => exact .empty h
 | slc h1 h2 h3 h4 h5 h6 => exact .slc h1 h2 h3 h4 (hw _ h5).1 (h6.mono (hw _ h5).2 hK)
 | mp h1 h2 h3 h4 h5 => exact .mp (hw _ h1).1 ((hw _ h1).2.trans h2) h3 h4 h5
theorem CO.mono {w w' : World} {K K' : Kn} {who who' : Who} {p : Pl} {c : Nat} {v : Value} {d : DV} (hK : K.le K') (hw : ∀ b, who b = some (p, some c) → who' b = some (p, some c) ∧ w'.heap[b]? = w.heap[b]?)
  (h : CO w K who p c v d) : CO w' K' who' p c v d := ⟨fun e => (h.1 e).mono hK, fun e => (h.2 e).mono hK hw⟩
theorem ORep.one {w : World} {K : Kn} {who : Who} {p : Pl} {c : Nat} {v : Value} {d : DV} (h : ORep w K who p c v d) : oneC v = true ∧ d.cell = true := by
 cases h <;> simp [oneC, DV.cell]
theorem CO.one {w : World} {K : Kn} {who : Who} {p : Pl} {c : Nat} {v : Value} {d : DV} (h : CO w K who p c v d) : oneC v = true ∧ d.cell = true := by
 cases e : d.owned1 with
 | false => exact ⟨(h.1 e).one.1, (h.1 e).one.2.1⟩
 | true => exact (h.2 e).one

inductive COs (w : World) (K : Kn) (who : Who) (p : Pl) : Nat → List Value → List DV → Prop where
 | nil {c : Nat} : COs w K who p c [] []
 | cons {c : Nat} {v : Value} {d : DV} {vs : List Value} {ds : List DV} : CO w K who p c v d → COs w K who p (c + 1) vs ds → COs w K who p c (v :: vs) (d :: ds)
def DRep (w : World) (K : Kn) (who : Who) (p : Pl) (v : Value) : DV → Prop
 | .agg ds => ∃ vs : List Value, v = .agg vs.toArray ∧ COs w K who p 0 vs ds
 | d => CO w K who p 0 v d
def URep (K : Kn) (v : Value) : DV → Prop
 | .agg ds => ∃ vs : List Value, v = .agg vs.toArray ∧ All2 (CRep K) vs ds
 | d => CRep K v d

abbrev Om := Nat → Option Nat
def Om.le (m m' : Om) : Prop := ∀ i b, m i = some b → m' i = some b
def ARep0 (m : Om) (K : Kn) (v : Value) : AV → Prop
 | .data d => URep K v d
 | .ptr i off => ∃ b, m i = some b ∧ v = .pointer (some ⟨b, off, none⟩)
 | _ => False
def ARep1 (m : Om) (K : Kn) (v : Value) : AV → Prop
 | .fn f a b => ∃ fv cv : List Value, v = .func f fv.toArray cv.toArray ∧ All2 (ARep0 m K) fv a ∧ All2 (ARep0 m K) cv b
 | .ifc t x => ∃ u, v = .iface t u ∧ ARep0 m K u x
 | x => ARep0 m K v x
def ARep (w : World) (m : Om) (K : Kn) (who : Who) (p : Pl) (v : Value) : AV → Prop
 | .dead => True
 | .ref .. => True
 | .eptr .. => True
 | .data d => DRep w K who p v d
 | .cptr ch => ∃ b off, v = .pointer (some ⟨b, off, none⟩) ∧ ∀ j d, ch[j]? = some d → ∃ u, K b (off + j) = some u ∧ CRep K u d
 | .tup xs => ∃ vs : List Value, v = .tuple vs.toArray ∧ All2 (ARep1 m K) vs xs
 | .orow i n => ∃ b, m i = some b ∧ v = .slice (some ⟨b, 0, none⟩) n n
 | x => ARep1 m K v x
def BRep (w : World) (m : Om) (K : Kn) (who : Who) (p : Pl) (c : Nat) (v : Value) (x : AV) : Prop :=
 oneC v = true ∧ match x with
 | .dead => True
 | .data d => CO w K who p c v d
 | x => ARep1 m K v x
inductive BReps (w : World) (m : Om) (K : Kn) (who : Who) (p : Pl) : Nat → List Value → List AV → Prop where
 | nil {c : Nat} : BReps w m K who p c [] []
 | cons {c : Nat} {v : Value} {x : AV} {vs : List Value} {xs : List AV} : BRep w m K who p c v x → BReps w m K who p (c + 1) vs xs → BReps w m K who p c (v :: vs) (x :: xs)

def rcell (m : Om) (a : Act) (w : World) : Pl → Nat → Option Value
 | .t t, c => match a.tmps.getD t undef with
  | .agg cs => cs[c]?
  | v => if c = 0 then some v else none
 | .o i, c => match m i with
  | some b => match w.heap[b]? with
   | some (.cells cs _ _) => cs[c]?
   | _ => none
  | none => none
def RefOk (m : Om) (a : Act) (w : World) (p : Pl) (c : Nat) (n : Option Nat) (v : Value) : Prop :=
 match n with
 | none => rcell m a w p c = some v
 | some n => ∃ vs : List Value, v = .agg vs.toArray ∧ vs.length = n ∧ ∀ j, j < n → rcell m a w p (c + j) = vs[j]?
def EpOk (m : Om) (a : Act) (w : World) (x : Cell) (p : Pl) (c i j : Nat) (v : Value) : Prop :=
 ∀ own nl sz es, cellAt p x c = some (.slc own nl sz es) → ∃ b off n cap, rcell m a w p c = some (.slice (some ⟨b, off, none⟩) n cap) ∧ v = .pointer (some ⟨b, off + i * sz + j, none⟩)

structure Hd where
 h : Nat → Option Obj
 w : World
instance : CoeFun Hd (fun _ => Nat → Option Obj) := ⟨Hd.h⟩
structure WSame (w w' : World) : Prop where
 os : w'.os = w.os
 tape : w'.tape = w.tape
 output : w'.output = w.output
 size : w.heap.size ≤ w'.heap.size
theorem WSame.refl (w : World) : WSame w w := ⟨rfl, rfl, rfl, Nat.le_refl _⟩
theorem WSame.trans {a b c : World} (h : WSame a b) (k : WSame b c) : WSame a c := ⟨k.os.trans h.os, k.tape.trans h.tape, k.output.trans h.output, Nat.le_trans h.size k.size⟩
def hidW (H0 : Hd) (b : Nat) : Option (Pl × Option Nat) := bif (H0 (2 * b + 1)).isSome then some (.t 0, none) else none
theorem hidW_t {H0 : Hd} {b : Nat} {x : Pl × Option Nat} (h : hidW H0 b = some x) : x = (.t 0, none) := by
 unfold hidW at h
 cases hh : (H0 (2 * b + 1)).isSome <;> rw [hh] at h
 ·cases h
 ·cases h; rfl
structure SRel (nt : Nat) (Fr : Nat → Prop) (H0 : Hd) (m : Om) (K : Kn) (who : Who) (σ : St) (a : Act) (w : World) : Prop where
 nt : a.tmps.size = nt
 df : a.defers = []
 tm : ∀ t, ∃ x, (σ (.t t)).vs = [x] ∧ ARep w m K who (.t t) (a.tmps.getD t undef) x
 rf : ∀ t p k c n, (σ (.t t)).vs = [.ref p k c n] → k ≤ (σ p).k ∧ (k = (σ p).k → RefOk m a w p c n (a.tmps.getD t undef))
 ef : ∀ t p k c i j, (σ (.t t)).vs = [.eptr p k c i j] → k ≤ (σ p).k ∧ (k = (σ p).k → EpOk m a w (σ p) p c i j (a.tmps.getD t undef))
 ob : ∀ i, (σ (.o i)).live = true → ∃ b cs el, m i = some b ∧ w.heap[b]? = some (.cells cs el (0, 0)) ∧ BReps w m K who (.o i) 0 cs.toList (σ (.o i)).vs
 om : ∀ i b, m i = some b → (σ (.o i)).live = true ∧ who b = some (.o i, none)
 kv : ∀ b o v, K b o = some v → who b = none ∧ ∃ cs el fr, w.heap[b]? = some (.cells cs el fr) ∧ cs[o]? = some v
 wh : ∀ b x, who b = some x → b < w.heap.size
 fr : ∀ b, Fr b → w.heap[b]? = H0 (2 * b) ∧ (H0 (2 * b)).isSome = true ∧ who b = hidW H0 b
 ws : WSame H0.w w
end Go.Proofs.Ytknkeabmjleoiaa.Vam
/- The machine by value and the model: what may turn and leave a state a state. -/
namespace Go.Proofs.Ytknkeabmjleoiaa.Vam
open Go
set_option linter.unusedVariables false

def ownedAt (vs : List AV) (p : Pl) (c : Nat) : Bool := match cellAt p ⟨vs, true, 0⟩ c with
 | some d => d.owned1
 | none => false
theorem cellAt_vs (p : Pl) (x : Cell) (c : Nat) : cellAt p x c = cellAt p ⟨x.vs, true, 0⟩ c := by cases p <;> rfl

theorem COs.keep {w w' : World} {K K' : Kn} {who who' : Who} {p : Pl} (hK : K.le K') {c : Nat} {vs : List Value} {ds : List DV} (h : COs w K who p c vs ds)
  (hu : ∀ b j d, ds[j]? = some d → d.owned1 = true → who b = some (p, some (c + j)) → who' b = some (p, some (c + j)) ∧ w'.heap[b]? = w.heap[b]?) : COs w' K' who' p c vs ds := by
 induction h with
 | nil => exact .nil
 | @cons c v d vs ds h _ ih =>
  refine .cons ⟨fun e => (h.1 e).mono hK, fun e => (h.2 e).mono hK fun b hb => hu b 0 d rfl e hb⟩ (ih fun b j d' hd ho hb => ?_)
  have := hu b (j + 1) d' (by simpa using hd) ho (by rw [show c + (j + 1) = c + 1 + j by omega]; exact hb)
  rw [show c + (j + 1) = c + 1 + j by omega] at this
  exact this
theorem DRep.keep {w w' : World} {K K' : Kn} {who who' : Who} {p : Pl} (hK : K.le K') {v : Value} {d : DV} (h : DRep w K who p v d)
  (hu : ∀ b c e, d.cells[c]? = some e → e.owned1 = true → who b = some (p, some c) → who' b = some (p, some c) ∧ w'.heap[b]? = w.heap[b]?) : DRep w' K' who' p v d := by
 cases d with
 | agg ds =>
  obtain ⟨vs, rfl, h⟩ := h
  refine ⟨vs, rfl, h.keep hK fun b j d hd ho hb => ?_⟩
  rw [Nat.zero_add] at hb ⊢
  exact hu b j d hd ho hb
 | val v' => exact ⟨fun e => (h.1 e).mono hK, fun e => by simp [DV.owned1] at e⟩
 | _ => exact ⟨fun e => (h.1 e).mono hK, fun e => (h.2 e).mono hK fun b hb => hu b 0 _ rfl e hb⟩
theorem URep.mono {K K' : Kn} (hK : K.le K') {v : Value} {d : DV} (h : URep K v d) : URep K' v d := by
 cases d with
 | agg ds => obtain ⟨vs, rfl, h⟩ := h; exact ⟨vs, rfl, h.mono fun _ _ h => h.mono hK⟩
 | val v' => exact CRep.mono hK h
 | _ => exact CRep.mono hK h
theorem ARep0.mono {m m' : Om} {K K' : Kn} (hm : m.le m') (hK : K.le K') {v : Value} {x : AV} (h : ARep0 m K v x) : ARep0 m' K' v x := by
 cases x with
 | data d => exact URep.mono hK h
 | ptr i off => obtain ⟨b, h1, h2⟩ := h; exact ⟨b, hm _ _ h1, h2⟩
 | _ => exact h.elim
theorem ARep1.mono {m m' : Om} {K K' : Kn} (hm : m.le m') (hK : K.le K') {v : Value} {x : AV} (h : ARep1 m K v x) : ARep1 m' K' v x := by
 cases x with
 | fn f a b =>
  obtain ⟨fv, cv, h0, h1, h2⟩ := h
  exact ⟨fv, cv, h0, h1.mono fun _ _ h => h.mono hm hK, h2.mono fun _ _ h => h.mono hm hK⟩
 | ifc t x => obtain ⟨u, h0, h1⟩ := h; exact ⟨u, h0, h1.mono hm hK⟩
 | data d => exact ARep0.mono (x := .data d) hm hK h
 | ptr i off => exact ARep0.mono (x := .ptr i off) hm hK h
 | _ => exact h.elim
theorem ARep.keep {w w' : World} {m m' : Om} {K K' : Kn} {who who' : Who} {t : Nat} (hm : m.le m') (hK : K.le K') {v : Value} {x : AV} (h : ARep w m K who (.t t) v x)
  (hu : ∀ b c, ownedAt [x] (.t t) c = true → who b = some (.t t, some c) → who' b = some (.t t, some c) ∧ w'.heap[b]? = w.heap[b]?) : ARep w' m' K' who' (.t t) v x := by
 cases x with
 | data d =>
  refine DRep.keep hK h fun b c e he ho hb => hu b c ?_ hb
  simp [ownedAt, cellAt, he, ho]
 | cptr ch =>
  obtain ⟨b, off, h0, h1⟩ := h
  exact ⟨b, off, h0, fun j d hj => let ⟨u, hu, hc⟩ := h1 j d hj; ⟨u, hK _ _ _ hu, hc.mono hK⟩⟩
 | tup xs => obtain ⟨vs, h0, h1⟩ := h; exact ⟨vs, h0, h1.mono fun _ _ h => h.mono hm hK⟩
 | fn f a b => exact ARep1.mono (x := .fn f a b) hm hK h
 | ifc t x => exact ARep1.mono (x := .ifc t x) hm hK h
 | ptr i off => exact ARep1.mono (x := .ptr i off) hm hK h
 | orow i n => obtain ⟨b, h0, h1⟩ := h; exact ⟨b, hm _ _ h0, h1⟩
 | dead => trivial
 | ref _ _ _ _ => trivial
 | eptr _ _ _ _ _ => trivial
theorem BReps.keep {w w' : World} {m m' : Om} {K K' : Kn} {who who' : Who} {p : Pl} (hm : m.le m') (hK : K.le K') {c : Nat} {vs : List Value} {xs : List AV} (h : BReps w m K who p c vs xs)
  (hu : ∀ b j d, xs[j]? = some (.data d) → d.owned1 = true → who b = some (p, some (c + j)) → who' b = some (p, some (c + j)) ∧ w'.heap[b]? = w.heap[b]?) : BReps w' m' K' who' p c vs xs := by
 induction h with
 | nil => exact .nil
 | @cons c v x vs xs h _ ih =>
  refine .cons ⟨h.1, ?_⟩ (ih fun b j d' hd ho hb => ?_)
  ·have h2 := h.2
   cases x with
   | data d => exact ⟨fun e => (h2.1 e).mono hK, fun e => (h2.2 e).mono hK fun b hb => hu b 0 d rfl e hb⟩
   | dead => trivial
   | fn f a b => exact ARep1.mono (x := .fn f a b) hm hK h2
   | ifc t x => exact ARep1.mono (x := .ifc t x) hm hK h2
   | ptr i off => exact ARep1.mono (x := .ptr i off) hm hK h2
   | _ => exact h2.elim
  ·have := hu b (j + 1) d' (by simpa using hd) ho (by rw [show c + (j + 1) = c + 1 + j by omega]; exact hb)
   rw [show c + (j + 1) = c + 1 + j by omega] at this
   exact this

section
variable {nt : Nat} {Fr : Nat → Prop} {H0 : Hd} {m : Om} {K : Kn} {who : Who} {σ : St} {a : Act} {w : World}
structure Loose (Fr : Nat → Prop) (m : Om) (K : Kn) (who : Who) (σ : St) (b : Nat) : Prop where
 fr : ¬ Fr b
 m : ∀ i, m i ≠ some b
 K : ∀ o, K b o = none
 use : ∀ p c, who b = some (p, some c) → ownedAt (σ p).vs p c = false

theorem rcell_keep {m m' : Om} {w w' : World} (a : Act) (p : Pl) (c : Nat) (h : ∀ i b, p = .o i → m i = some b → m' i = some b ∧ w'.heap[b]? = w.heap[b]?) {v : Value} (hv : rcell m a w p c = some v) :
  rcell m' a w' p c = some v := by
 cases p with
 | t t => exact hv
 | o i =>
  simp only [rcell] at hv ⊢
  cases hm : m i with
  | none => rw [hm] at hv; cases hv
  | some b =>
   obtain ⟨h1, h2⟩ := h i b rfl hm
   rw [hm] at hv
   simp only [h1, h2]
   exact hv
theorem RefOk.keep {m m' : Om} {w w' : World} {a : Act} {p : Pl} {c : Nat} {n : Option Nat} {v : Value} (h : ∀ i b, p = .o i → m i = some b → m' i = some b ∧ w'.heap[b]? = w.heap[b]?) (hr : RefOk m a w p c n v) :
  RefOk m' a w' p c n v := by
 cases n with
 | none => exact rcell_keep a p c h hr
 | some n =>
  obtain ⟨vs, h1, h2, h3⟩ := hr
  refine ⟨vs, h1, h2, fun j hj => ?_⟩
  have h4 := h3 j hj
  rw [List.getElem?_eq_getElem (by omega)] at h4 ⊢
  exact rcell_keep a p (c + j) h h4
theorem EpOk.keep {m m' : Om} {w w' : World} {a : Act} {x : Cell} {p : Pl} {c i j : Nat} {v : Value} (h : ∀ i b, p = .o i → m i = some b → m' i = some b ∧ w'.heap[b]? = w.heap[b]?) (hr : EpOk m a w x p c i j v) :
  EpOk m' a w' x p c i j v := fun own nl sz es he => let ⟨b, off, n, cap, h1, h2⟩ := hr own nl sz es he; ⟨b, off, n, cap, rcell_keep a p c h h1, h2⟩

theorem SRel.turn {w' : World} {K' : Kn} {who' : Who} (h : SRel nt Fr H0 m K who σ a w) (Lo : Nat → Prop) (hlo : ∀ b, Lo b → Loose Fr m K who σ b)
  (hK : K.le K') (hk : ∀ b o v, K' b o = some v → who' b = none ∧ ∃ cs el fr, w'.heap[b]? = some (.cells cs el fr) ∧ cs[o]? = some v)
  (hw : ∀ b, ¬ Lo b → b < w.heap.size → w'.heap[b]? = w.heap[b]?) (hwho : ∀ b, ¬ Lo b → who' b = who b) (hwh : ∀ b x, who' b = some x → b < w'.heap.size) (hws : WSame w w') :
  SRel nt Fr H0 m K' who' σ a w' := by
 have hm : m.le m := fun _ _ h => h
 have hobj : ∀ (p : Pl) (i b : Nat), p = .o i → m i = some b → m i = some b ∧ w'.heap[b]? = w.heap[b]? := fun p i b _ hi => by
  refine ⟨hi, hw b (fun hl => (hlo b hl).m i hi) ?_⟩
  exact h.wh b _ (h.om i b hi).2
 refine ⟨h.nt, h.df, fun t => ?_, fun t p k c n ht => ?_, fun t p k c i j ht => ?_, fun i hl => ?_, fun i b hi => ?_, hk, hwh, fun b hb => ?_, h.ws.trans hws⟩
 ·obtain ⟨x, hx, hr⟩ := h.tm t
  refine ⟨x, hx, hr.keep hm hK fun b c ho hb => ?_⟩
  have hn : ¬ Lo b := fun hl => by
   have := (hlo b hl).use _ _ hb
   rw [hx, ho] at this; cases this
  exact ⟨(hwho b hn).trans hb, hw b hn (h.wh b _ hb)⟩
 ·obtain ⟨h1, h2⟩ := h.rf t p k c n ht
  exact ⟨h1, fun e => (h2 e).keep (hobj p)⟩
 ·obtain ⟨h1, h2⟩ := h.ef t p k c i j ht
  exact ⟨h1, fun e => (h2 e).keep (hobj p)⟩
 ·obtain ⟨b, cs, el, h1, h2, h3⟩ := h.ob i hl
  refine ⟨b, cs, el, h1, ((hobj (.o i) i b rfl h1).2).trans h2, h3.keep hm hK fun b' j d hd ho hb => ?_⟩
  rw [Nat.zero_add] at hb ⊢
  have hn : ¬ Lo b' := fun hl' => by
   have := (hlo b' hl').use _ _ hb
   simp [ownedAt, cellAt, hd, ho] at this
  exact ⟨(hwho b' hn).trans hb, hw b' hn (h.wh b' _ hb)⟩
 ·obtain ⟨h1, h2⟩ := h.om i b hi
  exact ⟨h1, (hwho b fun hl => (hlo b hl).m i hi).trans h2⟩
 ·obtain ⟨h1, h2, h3⟩ := h.fr b hb
  have hn : ¬ Lo b := fun hl => (hlo b hl).fr hb
  have hlt : b < w.heap.size := by
   rw [← h1] at h2
   rcases Nat.lt_or_ge b w.heap.size with g | g
   ·exact g
   ·rw [Array.getElem?_eq_none g] at h2; cases h2
  exact ⟨(hw b hn hlt).trans h1, h2, (hwho b hn).trans h3⟩

theorem SRel.loose_new (h : SRel nt Fr H0 m K who σ a w) {b : Nat} (hb : w.heap.size ≤ b) : Loose Fr m K who σ b := by
 refine ⟨fun hf => ?_, fun i hi => ?_, fun o => ?_, fun p c hw => ?_⟩
 ·obtain ⟨h1, h2, _⟩ := h.fr b hf
  rw [← h1, Array.getElem?_eq_none hb] at h2; cases h2
 ·have := h.wh b _ (h.om i b hi).2; omega
 ·cases hk : K b o with
  | none => rfl
  | some v =>
   obtain ⟨_, cs, el, fr, h1, _⟩ := h.kv b o v hk
   rw [Array.getElem?_eq_none hb] at h1; cases h1
 ·have := h.wh b _ hw; omega

theorem Act.put_getD (a : Act) (t : Nat) (v : Value) (t' : Nat) (ht : t < a.tmps.size) : (a.put (some t) v).tmps.getD t' undef = if t' = t then v else a.tmps.getD t' undef := by
 simp only [Act.put]
 by_cases e : t' = t
 ·subst e; simp [ht]
 ·rw [if_neg e]
  simp only [Array.getD_eq_getD_getElem?]
  rw [Array.getElem?_setIfInBounds_ne (fun g => e g.symm)]
theorem rcell_put {m : Om} (a : Act) {t : Nat} (v : Value) (w : World) {p : Pl} (hp : p ≠ .t t) (ht : t < a.tmps.size) (c : Nat) : rcell m (a.put (some t) v) w p c = rcell m a w p c := by
 cases p with
 | o i => rfl
 | t t' =>
  have e : t' ≠ t := fun g => hp (by rw [g])
  simp only [rcell, Act.put_getD a t v t' ht, if_neg e]

theorem SRel.put (h : SRel nt Fr H0 m K who σ a w) {t : Nat} (ht : t < nt) {x : AV} {v : Value} {k : Nat} (hk : (σ (.t t)).k < k) (hx : ARep w m K who (.t t) v x)
  (hr : ∀ p k' c n, x = .ref p k' c n → k' ≤ (σ p).k ∧ (k' = (σ p).k → p ≠ .t t → RefOk m a w p c n v))
  (he : ∀ p k' c i j, x = .eptr p k' c i j → k' ≤ (σ p).k ∧ (k' = (σ p).k → p ≠ .t t → EpOk m a w (σ p) p c i j v)) :
  SRel nt Fr H0 m K who (σ.put (.t t) ⟨[x], true, k⟩) (a.put (some t) v) w := by
 have hsz : t < a.tmps.size := by rw [h.nt]; exact ht
 have rk : ∀ (p : Pl) (k' c : Nat) (n : Option Nat) (u : Value), k' ≤ (σ p).k → (k' = (σ p).k → p ≠ .t t → RefOk m a w p c n u) →
   k' ≤ ((σ.put (.t t) ⟨[x], true, k⟩) p).k ∧ (k' = ((σ.put (.t t) ⟨[x], true, k⟩) p).k → RefOk m (a.put (some t) v) w p c n u) := by
  intro p k' c n u h1 h2
  by_cases e : p = .t t
  ·subst e; rw [St.put_same]; exact ⟨by simp only; omega, fun g => by simp only at g; omega⟩
  ·rw [St.put_ne _ _ e]
   refine ⟨h1, fun g => ?_⟩
   have := h2 g e
   cases n with
   | none => simp only [RefOk] at this ⊢; rw [rcell_put a v w e hsz]; exact this
   | some n =>
    obtain ⟨vs, g1, g2, g3⟩ := this
    exact ⟨vs, g1, g2, fun j hj => by rw [rcell_put a v w e hsz]; exact g3 j hj⟩
 have ek : ∀ (p : Pl) (k' c i j : Nat) (u : Value), k' ≤ (σ p).k → (k' = (σ p).k → p ≠ .t t → EpOk m a w (σ p) p c i j u) →
   k' ≤ ((σ.put (.t t) ⟨[x], true, k⟩) p).k ∧ (k' = ((σ.put (.t t) ⟨[x], true, k⟩) p).k → EpOk m (a.put (some t) v) w ((σ.put (.t t) ⟨[x], true, k⟩) p) p c i j u) := by
  intro p k' c i j u h1 h2
  by_cases e : p = .t t
  ·subst e; rw [St.put_same]; exact ⟨by simp only; omega, fun g => by simp only at g; omega⟩
  ·rw [St.put_ne _ _ e]
   refine ⟨h1, fun g own nl sz es hc => ?_⟩
   obtain ⟨b, off, n, cap, g1, g2⟩ := h2 g e own nl sz es hc
   exact ⟨b, off, n, cap, by rw [rcell_put a v w e hsz]; exact g1, g2⟩
 refine ⟨by simp [Act.put, h.nt], h.df, fun t' => ?_, fun t' p k' c n hx' => ?_, fun t' p k' c i j hx' => ?_, fun i hl => ?_, fun i b hi => ?_, h.kv, h.wh, h.fr, h.ws⟩
 ·by_cases e : t' = t
  ·subst e; exact ⟨x, by rw [St.put_same], by rw [Act.put_getD a t' v t' hsz, if_pos rfl]; exact hx⟩
  ·obtain ⟨y, hy, hr⟩ := h.tm t'
   refine ⟨y, by rw [St.put_ne _ _ (fun g => e (by cases g; rfl))]; exact hy, ?_⟩
   rw [Act.put_getD a t v t' hsz, if_neg e]; exact hr
 ·by_cases e : t' = t
  ·subst e
   rw [St.put_same] at hx'
   simp only [List.cons.injEq, and_true] at hx'
   rw [Act.put_getD a t' v t' hsz, if_pos rfl]
   obtain ⟨h1, h2⟩ := hr p k' c n hx'
   exact rk p k' c n v h1 h2
  ·rw [St.put_ne _ _ (fun g => e (by cases g; rfl))] at hx'
   rw [Act.put_getD a t v t' hsz, if_neg e]
   obtain ⟨h1, h2⟩ := h.rf t' p k' c n hx'
   exact rk p k' c n _ h1 fun g _ => h2 g
 ·by_cases e : t' = t
  ·subst e
   rw [St.put_same] at hx'
   simp only [List.cons.injEq, and_true] at hx'
   rw [Act.put_getD a t' v t' hsz, if_pos rfl]
   obtain ⟨h1, h2⟩ := he p k' c i j hx'
   exact ek p k' c i j v h1 h2
  ·rw [St.put_ne _ _ (fun g => e (by cases g; rfl))] at hx'
   rw [Act.put_getD a t v t' hsz, if_neg e]
   obtain ⟨h1, h2⟩ := h.ef t' p k' c i j hx'
   exact ek p k' c i j _ h1 fun g _ => h2 g
 ·rw [St.put_ne _ _ (by intro g; cases g)] at hl ⊢; exact h.ob i hl
 ·rw [St.put_ne _ _ (by intro g; cases g)]; exact h.om i b hi
end
end Go.Proofs.Ytknkeabmjleoiaa.Vam
/- The machine by value and the model: places told anew, objects written and made. -/
namespace Go.Proofs.Ytknkeabmjleoiaa.Vam
open Go
set_option linter.unusedVariables false

section
variable {nt : Nat} {Fr : Nat → Prop} {H0 : Hd} {m : Om} {K : Kn} {who : Who} {σ : St} {a : Act} {w : World}
def Shapes (p : Pl) (old new : List AV) : Prop := ∀ c own nl sz es, cellAt p ⟨new, true, 0⟩ c = some (.slc own nl sz es) → ∃ own' nl' es', cellAt p ⟨old, true, 0⟩ c = some (.slc own' nl' sz es')
theorem EpOk.shapes {p : Pl} {x y : Cell} {c i j : Nat} {v : Value} (hs : Shapes p x.vs y.vs) (h : EpOk m a w x p c i j v) : EpOk m a w y p c i j v := fun own nl sz es he => by
 rw [cellAt_vs] at he
 obtain ⟨own', nl', es', h'⟩ := hs c own nl sz es he
 exact h own' nl' sz es' (by rw [cellAt_vs]; exact h')

theorem SRel.repT (h : SRel nt Fr H0 m K who σ a w) {t : Nat} {y : AV} {l : Bool} {k : Nat} (hk : (σ (.t t)).k < k ∨ k = (σ (.t t)).k ∧ Shapes (.t t) (σ (.t t)).vs [y])
  (hy : ARep w m K who (.t t) (a.tmps.getD t undef) y) (hn : (∀ p k' c n, y ≠ .ref p k' c n) ∧ ∀ p k' c i j, y ≠ .eptr p k' c i j) :
  SRel nt Fr H0 m K who (σ.put (.t t) ⟨[y], l, k⟩) a w := by
 have rk : ∀ (p : Pl) (k' c : Nat) (n : Option Nat) (u : Value), k' ≤ (σ p).k ∧ (k' = (σ p).k → RefOk m a w p c n u) →
   k' ≤ ((σ.put (.t t) ⟨[y], l, k⟩) p).k ∧ (k' = ((σ.put (.t t) ⟨[y], l, k⟩) p).k → RefOk m a w p c n u) := by
  intro p k' c n u ⟨h1, h2⟩
  by_cases e : p = .t t
  ·subst e
   rw [St.put_same]
   rcases hk with g | ⟨g, _⟩
   ·exact ⟨by simp only; omega, fun g' => by simp only at g'; omega⟩
   ·exact ⟨by simp only; omega, fun g' => h2 (by simp only at g'; omega)⟩
  ·rw [St.put_ne _ _ e]; exact ⟨h1, h2⟩
 have ek : ∀ (p : Pl) (k' c i j : Nat) (u : Value), k' ≤ (σ p).k ∧ (k' = (σ p).k → EpOk m a w (σ p) p c i j u) →
   k' ≤ ((σ.put (.t t) ⟨[y], l, k⟩) p).k ∧ (k' = ((σ.put (.t t) ⟨[y], l, k⟩) p).k → EpOk m a w ((σ.put (.t t) ⟨[y], l, k⟩) p) p c i j u) := by
  intro p k' c i j u ⟨h1, h2⟩
  by_cases e : p = .t t
  ·subst e
   rw [St.put_same]
   rcases hk with g | ⟨g, hs⟩
   ·exact ⟨by simp only; omega, fun g' => by simp only at g'; omega⟩
   ·exact ⟨by simp only; omega, fun g' => (h2 (by simp only at g'; omega)).shapes hs⟩
  ·rw [St.put_ne _ _ e]; exact ⟨h1, h2⟩
 refine ⟨h.nt, h.df, fun t' => ?_, fun t' p k' c n hx' => ?_, fun t' p k' c i j hx' => ?_, fun i hl => ?_, fun i b hi => ?_, h.kv, h.wh, h.fr, h.ws⟩
 ·by_cases e : t' = t
  ·subst e; exact ⟨y, by rw [St.put_same], hy⟩
  ·rw [St.put_ne _ _ (fun g => e (by cases g; rfl))]; exact h.tm t'
 ·by_cases e : t' = t
  ·subst e; rw [St.put_same] at hx'
   simp only [List.cons.injEq, and_true] at hx'
   exact absurd hx' (hn.1 _ _ _ _)
  ·rw [St.put_ne _ _ (fun g => e (by cases g; rfl))] at hx'
   exact rk p k' c n _ (h.rf t' p k' c n hx')
 ·by_cases e : t' = t
  ·subst e; rw [St.put_same] at hx'
   simp only [List.cons.injEq, and_true] at hx'
   exact absurd hx' (hn.2 _ _ _ _ _)
  ·rw [St.put_ne _ _ (fun g => e (by cases g; rfl))] at hx'
   exact ek p k' c i j _ (h.ef t' p k' c i j hx')
 ·rw [St.put_ne _ _ (by intro g; cases g)] at hl ⊢; exact h.ob i hl
 ·rw [St.put_ne _ _ (by intro g; cases g)]; exact h.om i b hi

theorem SRel.repE (h : SRel nt Fr H0 m K who σ a w) {t : Nat} {y : AV} {l : Bool} {k : Nat} (hk : k = (σ (.t t)).k) (hy : ARep w m K who (.t t) (a.tmps.getD t undef) y) (hn : (∀ p k' c n, y ≠ .ref p k' c n) ∧ ∀ p k' c i j, y ≠ .eptr p k' c i j)
  (hne : ∀ t' k' c i j, (σ (.t t')).vs ≠ [.eptr (.t t) k' c i j]) : SRel nt Fr H0 m K who (σ.put (.t t) ⟨[y], l, k⟩) a w := by
 refine ⟨h.nt, h.df, fun t' => ?_, fun t' p k' c n hx' => ?_, fun t' p k' c i j hx' => ?_, fun i hl => ?_, fun i b hi => ?_, h.kv, h.wh, h.fr, h.ws⟩
 ·by_cases e : t' = t
  ·subst e; exact ⟨y, by rw [St.put_same], hy⟩
  ·rw [St.put_ne _ _ (fun g => e (by cases g; rfl))]; exact h.tm t'
 ·by_cases e : t' = t
  ·subst e; rw [St.put_same] at hx'
   simp only [List.cons.injEq, and_true] at hx'
   exact absurd hx' (hn.1 _ _ _ _)
  ·rw [St.put_ne _ _ (fun g => e (by cases g; rfl))] at hx'
   obtain ⟨h1, h2⟩ := h.rf t' p k' c n hx'
   by_cases ep : p = .t t
   ·subst ep; rw [St.put_same]; exact ⟨by simp only; omega, fun g' => h2 (by simp only at g'; omega)⟩
   ·rw [St.put_ne _ _ ep]; exact ⟨h1, h2⟩
 ·by_cases e : t' = t
  ·subst e; rw [St.put_same] at hx'
   simp only [List.cons.injEq, and_true] at hx'
   exact absurd hx' (hn.2 _ _ _ _ _)
  ·rw [St.put_ne _ _ (fun g => e (by cases g; rfl))] at hx'
   have ep : p ≠ .t t := fun e => by subst e; exact hne _ _ _ _ _ hx'
   rw [St.put_ne _ _ ep]; exact h.ef t' p k' c i j hx'
 ·rw [St.put_ne _ _ (by intro g; cases g)] at hl ⊢; exact h.ob i hl
 ·rw [St.put_ne _ _ (by intro g; cases g)]; exact h.om i b hi

theorem SRel.repRef (h : SRel nt Fr H0 m K who σ a w) {t : Nat} {p0 : Pl} {k0 c0 k : Nat} (hp : p0 ≠ .t t) (hk : (σ (.t t)).k < k) (hr : k0 ≤ (σ p0).k ∧ (k0 = (σ p0).k → RefOk m a w p0 c0 none (a.tmps.getD t undef))) :
  SRel nt Fr H0 m K who (σ.put (.t t) ⟨[.ref p0 k0 c0 none], true, k⟩) a w := by
 have rk : ∀ (p : Pl) (k' c : Nat) (n : Option Nat) (u : Value), k' ≤ (σ p).k ∧ (k' = (σ p).k → RefOk m a w p c n u) →
   k' ≤ ((σ.put (.t t) ⟨[.ref p0 k0 c0 none], true, k⟩) p).k ∧ (k' = ((σ.put (.t t) ⟨[.ref p0 k0 c0 none], true, k⟩) p).k → RefOk m a w p c n u) := by
  intro p k' c n u ⟨h1, h2⟩
  by_cases e : p = .t t
  ·subst e
   rw [St.put_same]
   exact ⟨by simp only; omega, fun g' => by simp only at g'; omega⟩
  ·rw [St.put_ne _ _ e]; exact ⟨h1, h2⟩
 have ek : ∀ (p : Pl) (k' c i j : Nat) (u : Value), k' ≤ (σ p).k ∧ (k' = (σ p).k → EpOk m a w (σ p) p c i j u) →
   k' ≤ ((σ.put (.t t) ⟨[.ref p0 k0 c0 none], true, k⟩) p).k ∧ (k' = ((σ.put (.t t) ⟨[.ref p0 k0 c0 none], true, k⟩) p).k → EpOk m a w ((σ.put (.t t) ⟨[.ref p0 k0 c0 none], true, k⟩) p) p c i j u) := by
  intro p k' c i j u ⟨h1, h2⟩
  by_cases e : p = .t t
  ·subst e
   rw [St.put_same]
   exact ⟨by simp only; omega, fun g' => by simp only at g'; omega⟩
  ·rw [St.put_ne _ _ e]; exact ⟨h1, h2⟩
 refine ⟨h.nt, h.df, fun t' => ?_, fun t' p k' c n hx' => ?_, fun t' p k' c i j hx' => ?_, fun i hl => ?_, fun i b hi => ?_, h.kv, h.wh, h.fr, h.ws⟩
 ·by_cases e : t' = t
  ·subst e; exact ⟨.ref p0 k0 c0 none, by rw [St.put_same], trivial⟩
  ·rw [St.put_ne _ _ (fun g => e (by cases g; rfl))]; exact h.tm t'
 ·by_cases e : t' = t
  ·subst e; rw [St.put_same] at hx'
   simp only [List.cons.injEq, and_true] at hx'
   cases hx'
   exact rk _ _ _ _ _ hr
  ·rw [St.put_ne _ _ (fun g => e (by cases g; rfl))] at hx'
   exact rk p k' c n _ (h.rf t' p k' c n hx')
 ·by_cases e : t' = t
  ·subst e; rw [St.put_same] at hx'
   simp only [List.cons.injEq, and_true] at hx'
   cases hx'
  ·rw [St.put_ne _ _ (fun g => e (by cases g; rfl))] at hx'
   exact ek p k' c i j _ (h.ef t' p k' c i j hx')
 ·rw [St.put_ne _ _ (by intro g; cases g)] at hl ⊢; exact h.ob i hl
 ·rw [St.put_ne _ _ (by intro g; cases g)]; exact h.om i b hi

theorem SRel.repEp (h : SRel nt Fr H0 m K who σ a w) {t : Nat} {p0 : Pl} {k0 c0 i0 j0 k : Nat} (hp : p0 ≠ .t t) (hk : (σ (.t t)).k < k) (hr : k0 ≤ (σ p0).k ∧ (k0 = (σ p0).k → EpOk m a w (σ p0) p0 c0 i0 j0 (a.tmps.getD t undef))) :
  SRel nt Fr H0 m K who (σ.put (.t t) ⟨[.eptr p0 k0 c0 i0 j0], true, k⟩) a w := by
 have rk : ∀ (p : Pl) (k' c : Nat) (n : Option Nat) (u : Value), k' ≤ (σ p).k ∧ (k' = (σ p).k → RefOk m a w p c n u) →
   k' ≤ ((σ.put (.t t) ⟨[.eptr p0 k0 c0 i0 j0], true, k⟩) p).k ∧ (k' = ((σ.put (.t t) ⟨[.eptr p0 k0 c0 i0 j0], true, k⟩) p).k → RefOk m a w p c n u) := by
  intro p k' c n u ⟨h1, h2⟩
  by_cases e : p = .t t
  ·subst e
   rw [St.put_same]
   exact ⟨by simp only; omega, fun g' => by simp only at g'; omega⟩
  ·rw [St.put_ne _ _ e]; exact ⟨h1, h2⟩
 have ek : ∀ (p : Pl) (k' c i j : Nat) (u : Value), k' ≤ (σ p).k ∧ (k' = (σ p).k → EpOk m a w (σ p) p c i j u) →
   k' ≤ ((σ.put (.t t) ⟨[.eptr p0 k0 c0 i0 j0], true, k⟩) p).k ∧ (k' = ((σ.put (.t t) ⟨[.eptr p0 k0 c0 i0 j0], true, k⟩) p).k → EpOk m a w ((σ.put (.t t) ⟨[.eptr p0 k0 c0 i0 j0], true, k⟩) p) p c i j u) := by
  intro p k' c i j u ⟨h1, h2⟩
  by_cases e : p = .t t
  ·subst e
   rw [St.put_same]
   exact ⟨by simp only; omega, fun g' => by simp only at g'; omega⟩
  ·rw [St.put_ne _ _ e]; exact ⟨h1, h2⟩
 refine ⟨h.nt, h.df, fun t' => ?_, fun t' p k' c n hx' => ?_, fun t' p k' c i j hx' => ?_, fun i hl => ?_, fun i b hi => ?_, h.kv, h.wh, h.fr, h.ws⟩
 ·by_cases e : t' = t
  ·subst e; exact ⟨.eptr p0 k0 c0 i0 j0, by rw [St.put_same], trivial⟩
  ·rw [St.put_ne _ _ (fun g => e (by cases g; rfl))]; exact h.tm t'
 ·by_cases e : t' = t
  ·subst e; rw [St.put_same] at hx'
   simp only [List.cons.injEq, and_true] at hx'
   cases hx'
  ·rw [St.put_ne _ _ (fun g => e (by cases g; rfl))] at hx'
   exact rk p k' c n _ (h.rf t' p k' c n hx')
 ·by_cases e : t' = t
  ·subst e; rw [St.put_same] at hx'
   simp only [List.cons.injEq, and_true] at hx'
   cases hx'
   exact ek _ _ _ _ _ _ hr
  ·rw [St.put_ne _ _ (fun g => e (by cases g; rfl))] at hx'
   exact ek p k' c i j _ (h.ef t' p k' c i j hx')
 ·rw [St.put_ne _ _ (by intro g; cases g)] at hl ⊢; exact h.ob i hl
 ·rw [St.put_ne _ _ (by intro g; cases g)]; exact h.om i b hi

theorem SRel.repO (h : SRel nt Fr H0 m K who σ a w) {i : Nat} (hl : (σ (.o i)).live = true) {b : Nat} (hb : m i = some b) {w' : World} {cs : Array Value} {el : TypeId}
  (h1 : w'.heap[b]? = some (.cells cs el (0, 0))) (h2 : ∀ b', b' ≠ b → w'.heap[b']? = w.heap[b']?) (hws : WSame w w') {ys : List AV} {k : Nat}
  (hk : (σ (.o i)).k < k ∨ k = (σ (.o i)).k ∧ Shapes (.o i) (σ (.o i)).vs ys ∧ w'.heap[b]? = w.heap[b]?) (hy : BReps w' m K who (.o i) 0 cs.toList ys) :
  SRel nt Fr H0 m K who (σ.put (.o i) ⟨ys, true, k⟩) a w' := by
 have hm : m.le m := fun _ _ h => h
 have hwho : who b = some (.o i, none) := (h.om i b hb).2
 have hobj : ∀ (p : Pl), p ≠ .o i → ∀ (i' b' : Nat), p = .o i' → m i' = some b' → m i' = some b' ∧ w'.heap[b']? = w.heap[b']? := fun p hp i' b' e hi => by
  refine ⟨hi, h2 b' fun g => ?_⟩
  subst g
  have := (h.om i' b' hi).2
  rw [hwho] at this; cases this
  exact hp e
 have hobj' : w'.heap[b]? = w.heap[b]? → ∀ (p : Pl) (i' b' : Nat), p = .o i' → m i' = some b' → m i' = some b' ∧ w'.heap[b']? = w.heap[b']? := fun g p i' b' e hi => by
  refine ⟨hi, ?_⟩
  by_cases e' : b' = b
  ·rw [e']; exact g
  ·exact h2 b' e'
 have rk : ∀ (p : Pl) (k' c : Nat) (n : Option Nat) (u : Value), k' ≤ (σ p).k ∧ (k' = (σ p).k → RefOk m a w p c n u) →
   k' ≤ ((σ.put (.o i) ⟨ys, true, k⟩) p).k ∧ (k' = ((σ.put (.o i) ⟨ys, true, k⟩) p).k → RefOk m a w' p c n u) := by
  intro p k' c n u ⟨g1, g2⟩
  by_cases e : p = .o i
  ·subst e
   rw [St.put_same]
   rcases hk with g | ⟨g, _, g3⟩
   ·exact ⟨by simp only; omega, fun g' => by simp only at g'; omega⟩
   ·exact ⟨by simp only; omega, fun g' => (g2 (by simp only at g'; omega)).keep (hobj' g3 _)⟩
  ·rw [St.put_ne _ _ e]; exact ⟨g1, fun g => (g2 g).keep (hobj p e)⟩
 have ek : ∀ (p : Pl) (k' c i' j : Nat) (u : Value), k' ≤ (σ p).k ∧ (k' = (σ p).k → EpOk m a w (σ p) p c i' j u) →
   k' ≤ ((σ.put (.o i) ⟨ys, true, k⟩) p).k ∧ (k' = ((σ.put (.o i) ⟨ys, true, k⟩) p).k → EpOk m a w' ((σ.put (.o i) ⟨ys, true, k⟩) p) p c i' j u) := by
  intro p k' c i' j u ⟨g1, g2⟩
  by_cases e : p = .o i
  ·subst e
   rw [St.put_same]
   rcases hk with g | ⟨g, hs, g3⟩
   ·exact ⟨by simp only; omega, fun g' => by simp only at g'; omega⟩
   ·exact ⟨by simp only; omega, fun g' => ((g2 (by simp only at g'; omega)).shapes hs).keep (hobj' g3 _)⟩
  ·rw [St.put_ne _ _ e]; exact ⟨g1, fun g => (g2 g).keep (hobj p e)⟩
 have hne : ∀ {b' : Nat} {p : Pl} {c : Nat}, who b' = some (p, some c) → b' ≠ b := fun g e => by
  subst e; rw [hwho] at g; cases g
 refine ⟨h.nt, h.df, fun t => ?_, fun t p k' c n hx => ?_, fun t p k' c i' j hx => ?_, fun i' hl' => ?_, fun i' b' hi => ?_, fun b' o v hv => ?_, fun b' x hx => Nat.lt_of_lt_of_le (h.wh b' x hx) hws.size, fun b' hf => ?_, h.ws.trans hws⟩
 ·rw [St.put_ne _ _ (by intro g; cases g)]
  obtain ⟨x, hx, hr⟩ := h.tm t
  exact ⟨x, hx, hr.keep hm (Kn.le.refl K) fun b' c _ g => ⟨g, h2 b' (hne g)⟩⟩
 ·rw [St.put_ne _ _ (by intro g; cases g)] at hx; exact rk p k' c n _ (h.rf t p k' c n hx)
 ·rw [St.put_ne _ _ (by intro g; cases g)] at hx; exact ek p k' c i' j _ (h.ef t p k' c i' j hx)
 ·by_cases e : i' = i
  ·subst e; rw [St.put_same]; exact ⟨b, cs, el, hb, h1, hy⟩
  ·have e' : (Pl.o i') ≠ .o i := fun g => e (by cases g; rfl)
   rw [St.put_ne _ _ e'] at hl' ⊢
   obtain ⟨b', cs', el', g1, g2, g3⟩ := h.ob i' hl'
   exact ⟨b', cs', el', g1, ((hobj (.o i') e' i' b' rfl g1).2).trans g2, g3.keep hm (Kn.le.refl K) fun b'' j d _ _ g => ⟨g, h2 b'' (hne g)⟩⟩
 ·obtain ⟨g1, g2⟩ := h.om i' b' hi
  by_cases e : i' = i
  ·subst e; rw [St.put_same]; exact ⟨rfl, g2⟩
  ·rw [St.put_ne _ _ (fun g => e (by cases g; rfl))]; exact ⟨g1, g2⟩
 ·obtain ⟨g1, cs', el', fr, g2, g3⟩ := h.kv b' o v hv
  refine ⟨g1, cs', el', fr, (h2 b' fun e => ?_).trans g2, g3⟩
  subst e; rw [hwho] at g1; cases g1
 ·obtain ⟨g1, g2, g3⟩ := h.fr b' hf
  refine ⟨(h2 b' fun e => ?_).trans g1, g2, g3⟩
  subst e; rw [hwho] at g3; have := hidW_t g3.symm; cases this

theorem SRel.newO (h : SRel nt Fr H0 m K who σ a w) {i : Nat} (hl : (σ (.o i)).live = false) {b : Nat} (hwb : who b = some (.o i, none)) {cs : Array Value} {el : TypeId}
  (h1 : w.heap[b]? = some (.cells cs el (0, 0))) {ys : List AV} {k : Nat} (hk : (σ (.o i)).k < k) (hy : BReps w (fun j => if j = i then some b else m j) K who (.o i) 0 cs.toList ys) :
  SRel nt Fr H0 (fun j => if j = i then some b else m j) K who (σ.put (.o i) ⟨ys, true, k⟩) a w := by
 have hmi : m i = none := by
  cases e : m i with
  | none => rfl
  | some b' => have := (h.om i b' e).1; rw [hl] at this; cases this
 have hm : m.le (fun j => if j = i then some b else m j) := fun j b' g => by
  by_cases e : j = i
  ·subst e; rw [hmi] at g; cases g
  ·simp only [if_neg e]; exact g
 have hobj : ∀ (p : Pl) (i' b' : Nat), p = .o i' → m i' = some b' → (fun j => if j = i then some b else m j) i' = some b' ∧ w.heap[b']? = w.heap[b']? := fun p i' b' _ g => ⟨hm _ _ g, rfl⟩
 refine ⟨h.nt, h.df, fun t => ?_, fun t p k' c n hx => ?_, fun t p k' c i' j hx => ?_, fun i' hl' => ?_, fun i' b' hi => ?_, h.kv, h.wh, h.fr, h.ws⟩
 ·rw [St.put_ne _ _ (by intro g; cases g)]
  obtain ⟨x, hx, hr⟩ := h.tm t
  exact ⟨x, hx, hr.keep hm (Kn.le.refl K) fun b' c _ g => ⟨g, rfl⟩⟩
 ·rw [St.put_ne _ _ (by intro g; cases g)] at hx
  obtain ⟨g1, g2⟩ := h.rf t p k' c n hx
  by_cases e : p = .o i
  ·subst e; rw [St.put_same]; exact ⟨by simp only; omega, fun g => by simp only at g; omega⟩
  ·rw [St.put_ne _ _ e]; exact ⟨g1, fun g => (g2 g).keep (hobj p)⟩
 ·rw [St.put_ne _ _ (by intro g; cases g)] at hx
  obtain ⟨g1, g2⟩ := h.ef t p k' c i' j hx
  by_cases e : p = .o i
  ·subst e; rw [St.put_same]; exact ⟨by simp only; omega, fun g => by simp only at g; omega⟩
  ·rw [St.put_ne _ _ e]; exact ⟨g1, fun g => (g2 g).keep (hobj p)⟩
 ·by_cases e : i' = i
  ·subst e; rw [St.put_same]; exact ⟨b, cs, el, by simp, h1, hy⟩
  ·rw [St.put_ne _ _ (fun g => e (by cases g; rfl))] at hl' ⊢
   obtain ⟨b', cs', el', g1, g2, g3⟩ := h.ob i' hl'
   exact ⟨b', cs', el', hm _ _ g1, g2, g3.keep hm (Kn.le.refl K) fun b'' j d _ _ g => ⟨g, rfl⟩⟩
 ·by_cases e : i' = i
  ·subst e; rw [St.put_same]; simp only [if_true, Option.some.injEq] at hi; subst hi; exact ⟨rfl, hwb⟩
  ·simp only [if_neg e] at hi
   rw [St.put_ne _ _ (fun g => e (by cases g; rfl))]; exact h.om i' b' hi
end
end Go.Proofs.Ytknkeabmjleoiaa.Vam
/- The machine by value and the model: operands as they are seen, read, taken. -/
namespace Go.Proofs.Ytknkeabmjleoiaa.Vam
open Go
set_option linter.unusedVariables false

def Kall (w : World) : Kn := fun b o => match w.heap[b]? with
 | some (.cells cs _ _) => cs[o]?
 | _ => none
section
variable {nt : Nat} {Fr : Nat → Prop} {H0 : Hd} {m : Om} {K : Kn} {who : Who} {σ : St} {a : Act} {w : World}
theorem SRel.kall (h : SRel nt Fr H0 m K who σ a w) : K.le (Kall w) := fun b o v hv => by
 obtain ⟨_, cs, el, fr, h1, h2⟩ := h.kv b o v hv
 simp [Kall, h1, h2]
theorem RowAt.kall {b off c sz : Nat} {es : List (List DV)} (h : RowAt w K b off c sz es) (hK : K.le (Kall w)) :
  ∀ i j ch d, es[i]? = some ch → ch[j]? = some d → ∃ u, Kall w b (off + i * sz + j) = some u ∧ CRep (Kall w) u d := by
 obtain ⟨cs, el, fr, h1, _, _, h4⟩ := h
 intro i j ch d hi hj
 obtain ⟨u, hu, hc⟩ := h4 i j ch d hi hj
 exact ⟨u, by simp [Kall, h1, hu], hc.mono hK⟩
theorem ORep.strip {p : Pl} {c : Nat} {v : Value} {d : DV} (h : ORep w K who p c v d) {K' : Kn} (hK : K.le K')
  (hr : ∀ b off cap sz es, who b = some (p, some c) → RowAt w K b off cap sz es → (∀ i j ch d, es[i]? = some ch → ch[j]? = some d → ∃ u, K' b (off + i * sz + j) = some u ∧ CRep K' u d)) : CRep K' v d.strip := by
 cases h with
 | nil h => exact .nil h
 | empty h => exact .empty h
 | mp _ _ _ _ => exact .hole rfl
 | @slc nl sz es b off cap h1 h2 h3 h4 h5 h6 =>
  have h7 := hr b off cap sz es h5 h6
  refine .slc (fun i j => ((K' b (off + i * sz + j)).getD undef)) h1 h3 h4 (fun i j ch d hi hj => ?_) (fun i j ch d hi hj => ?_)
  ·obtain ⟨u, hu, _⟩ := h7 i j ch d hi hj; simp [hu]
  ·obtain ⟨u, hu, hc⟩ := h7 i j ch d hi hj; simpa [hu] using hc
theorem strip_of_cell {d : DV} (h : d.cell = true) : d.strip = d.strip1 := by cases d <;> first | rfl | simp [DV.cell] at h
theorem strip1_id {d : DV} (h : d.owned1 = false) : d.strip1 = d := by
 cases d with
 | slc o nl sz es => cases o <;> simp_all [DV.owned1, DV.strip1]
 | mp kd es => simp [DV.owned1] at h
 | _ => rfl
theorem CO.strip {p : Pl} {c : Nat} {v : Value} {d : DV} (h : CO w K who p c v d) {K' : Kn} (hK : K.le K')
  (hr : ∀ b off cap sz es, who b = some (p, some c) → RowAt w K b off cap sz es → (∀ i j ch d, es[i]? = some ch → ch[j]? = some d → ∃ u, K' b (off + i * sz + j) = some u ∧ CRep K' u d)) : CRep K' v d.strip1 := by
 cases e : d.owned1 with
 | false => rw [strip1_id e]; exact (h.1 e).mono hK
 | true => rw [← strip_of_cell (h.2 e).one.2]; exact (h.2 e).strip hK hr
theorem COs.strip {p : Pl} {c : Nat} {vs : List Value} {ds : List DV} (h : COs w K who p c vs ds) {K' : Kn} (hK : K.le K')
  (hr : ∀ b c' off cap sz es, who b = some (p, some c') → RowAt w K b off cap sz es → (∀ i j ch d, es[i]? = some ch → ch[j]? = some d → ∃ u, K' b (off + i * sz + j) = some u ∧ CRep K' u d)) : All2 (CRep K') vs (ds.map DV.strip1) := by
 induction h with
 | nil => exact .nil
 | cons h _ ih => exact .cons (h.strip hK fun b off cap sz es => hr b _ off cap sz es) ih
theorem hr_all (hK : K.le (Kall w)) {p : Pl} : ∀ b (c' : Nat) off cap sz es, who b = some (p, some c') → RowAt w K b off cap sz es → (∀ i j ch d, es[i]? = some ch → ch[j]? = some d → ∃ u, Kall w b (off + i * sz + j) = some u ∧ CRep (Kall w) u d) :=
 fun b c' off cap sz es _ h => h.kall hK

def VRep (σ : St) (a : Act) (w : World) (m : Om) (K : Kn) (v : Value) : AV → Prop
 | .ref p k c n => k ≤ (σ p).k ∧ (k = (σ p).k → RefOk m a w p c n v)
 | .eptr p k c i j => k ≤ (σ p).k ∧ (k = (σ p).k → EpOk m a w (σ p) p c i j v)
 | .data d => d.owned = false ∧ URep K v d
 | .dead => True
 | .cptr ch => ∃ b off, v = .pointer (some ⟨b, off, none⟩) ∧ ∀ j d, ch[j]? = some d → ∃ u, K b (off + j) = some u ∧ CRep K u d
 | .tup xs => ∃ vs : List Value, v = .tuple vs.toArray ∧ All2 (ARep1 m K) vs xs
 | .orow i n => ∃ b, m i = some b ∧ v = .slice (some ⟨b, 0, none⟩) n n
 | x => ARep1 m K v x
theorem COs.get {p : Pl} {c : Nat} {vs : List Value} {ds : List DV} (h : COs w K who p c vs ds) : ∀ {j : Nat} {d : DV}, ds[j]? = some d → ∃ v, vs[j]? = some v ∧ CO w K who p (c + j) v d := by
 induction h with
 | nil => intro j d h; simp at h
 | cons h _ ih =>
  intro j d hd
  cases j with
  | zero => simp at hd; subst hd; exact ⟨_, rfl, h⟩
  | succ j =>
   obtain ⟨v, h1, h2⟩ := ih (by simpa using hd)
   exact ⟨v, by simpa using h1, by rw [Nat.add_comm j 1, ← Nat.add_assoc]; exact h2⟩
theorem COs.length {p : Pl} {c : Nat} {vs : List Value} {ds : List DV} (h : COs w K who p c vs ds) : vs.length = ds.length := by
 induction h with
 | nil => rfl
 | cons _ _ ih => simp [ih]
theorem COs.unowned {p : Pl} {c : Nat} {vs : List Value} {ds : List DV} (h : COs w K who p c vs ds) (ho : ds.any DV.owned1 = false) : All2 (CRep K) vs ds := by
 induction h with
 | nil => exact .nil
 | cons h _ ih =>
  simp only [List.any_cons, Bool.or_eq_false_iff] at ho
  exact .cons (h.1 ho.1) (ih ho.2)
theorem DRep.unowned {p : Pl} {v : Value} {d : DV} (h : DRep w K who p v d) (ho : d.owned = false) : URep K v d := by
 cases d with
 | agg ds => obtain ⟨vs, rfl, h⟩ := h; exact ⟨vs, rfl, h.unowned ho⟩
 | val x => exact h.1 rfl
 | hole => exact h.1 rfl
 | rm n sz es => exact h.1 rfl
 | capv n => exact h.1 rfl
 | mp kd es => simp [DV.owned] at ho
 | slc o nl sz es => exact h.1 (by cases o <;> simp_all [DV.owned, DV.owned1])
theorem rcell_t {t : Nat} {c : Nat} {v : Value} (h : a.tmps.getD t undef = v) (ho : oneC v = true) : rcell m a w (.t t) 0 = some v := by
 simp only [rcell, h]
 cases v <;> simp_all [oneC]
theorem rcell_agg {t : Nat} {c : Nat} {vs : List Value} (h : a.tmps.getD t undef = .agg vs.toArray) : rcell m a w (.t t) c = vs[c]? := by
 simp only [rcell, h]
 simp

theorem absC_rep {v : Value} {x : AV} (h : absC v = some x) : VRep σ a w m K v x := by
 unfold absC at h
 split at h
 ·cases h; exact ⟨rfl, .nil (by simp)⟩
 ·split at h
  ·rename_i f a b hs
   cases h
   obtain ⟨rfl⟩ : a = #[] := Array.eq_empty_of_size_eq_zero hs.1
   obtain ⟨rfl⟩ : b = #[] := Array.eq_empty_of_size_eq_zero hs.2
   exact ⟨[], [], rfl, .nil, .nil⟩
  ·cases h
 ·split at h
  ·rename_i hs
   cases h; exact ⟨rfl, CRep.val hs⟩
  ·cases h

def Does (C : Query → Answer → Prop) {α : Type} (m : Pr α) (σ : St) (x : α) (σ' : St) : Prop := ∃ R W, Ex C m σ R W x σ'
section does
variable {C : Query → Answer → Prop} {α β : Type} {σ' : St}
theorem Does.bind {m : Pr α} {f : α → Pr β} {y : β} (h : Does C (m >>= f) σ y σ') : ∃ x σ1, Does C m σ x σ1 ∧ Does C (f x) σ1 y σ' := by
 obtain ⟨R, W, h⟩ := h
 obtain ⟨x, σ1, R1, W1, R2, W2, h1, h2, _, _⟩ := Ex.bind_inv h
 exact ⟨x, σ1, ⟨_, _, h1⟩, ⟨_, _, h2⟩⟩
theorem Does.pure {x y : α} (h : Does C (pure x : Pr α) σ y σ') : y = x ∧ σ' = σ := by
 obtain ⟨R, W, h⟩ := h; cases h; exact ⟨rfl, rfl⟩
theorem Does.fail {y : α} (h : Does C (Pr.fail : Pr α) σ y σ') : False := by
 obtain ⟨R, W, h⟩ := h; cases h
theorem Does.gt {p : Pl} {c : Cell} (h : Does C (gt p) σ c σ') : c = σ p ∧ σ' = σ := by
 obtain ⟨R, W, h⟩ := h; cases h with
 | get h => cases h; exact ⟨rfl, rfl⟩
theorem Does.st {p : Pl} {c : Cell} {u : Unit} (h : Does C (st p c) σ u σ') : σ' = σ.put p c := by
 obtain ⟨R, W, h⟩ := h; cases h with
 | set h => cases h; rfl
theorem Does.must {b : Bool} {u : Unit} (h : Does C (must b) σ u σ') : b = true ∧ σ' = σ := by
 obtain ⟨R, W, h⟩ := h
 cases b with
 | true => cases h; exact ⟨rfl, rfl⟩
 | false => cases h
theorem Does.need {b : Bool} {u : Unit} (h : Does C (need b) σ u σ') : b = true ∧ σ' = σ := by
 obtain ⟨R, W, h⟩ := h; cases h with
 | askT e h => cases h; exact ⟨e, rfl⟩
theorem Does.of {o : Option α} {x : α} (h : Does C (Pr.of o) σ x σ') : o = some x ∧ σ' = σ := by
 cases o with
 | none => exact (Does.fail h).elim
 | some y => obtain ⟨h1, h2⟩ := Does.pure h; exact ⟨by rw [h1], h2⟩
theorem Does.askC {es : List (List DV)} {i : Nat} {f : List DV → Pr α} {x : α} (h : Does C (Pr.askC es i f) σ x σ') : ∃ ch, es[i]? = some ch ∧ Does C (f ch) σ x σ' := by
 obtain ⟨R, W, h⟩ := h; cases h with
 | askC e h => exact ⟨_, e, _, _, h⟩
theorem Does.askI {i : Nat} {f : Nat → Pr α} {x : α} (h : Does C (Pr.askI i f) σ x σ') : Does C (f i) σ x σ' := by
 obtain ⟨R, W, h⟩ := h; cases h with
 | askI h => exact ⟨_, _, h⟩
theorem Does.askB {b : Bool} {f : Bool → Pr α} {x : α} (h : Does C (Pr.askB b f) σ x σ') : Does C (f b) σ x σ' := by
 obtain ⟨R, W, h⟩ := h; cases h with
 | askB h => exact ⟨_, _, h⟩
end does

theorem SRel.opd (h : SRel nt Fr H0 m K who σ a w) {C : Query → Answer → Prop} {x : Operand} {y : AV} {σ' : St} (hd : Does C (opd x) σ y σ') : σ' = σ ∧ VRep σ a w m K (a.eval x) y := by
 cases x with
 | const v => obtain ⟨h1, h2⟩ := Does.of hd; exact ⟨h2, absC_rep h1⟩
 | global g => exact (Does.fail hd).elim
 | func f => obtain ⟨rfl, h2⟩ := Does.pure hd; exact ⟨h2, [], [], rfl, .nil, .nil⟩
 | tmp t =>
  obtain ⟨c, σ1, h1, h2⟩ := Does.bind hd
  obtain ⟨rfl, rfl⟩ := Does.gt h1
  obtain ⟨z, hz, hr⟩ := h.tm t
  rw [hz] at h2
  simp only [Act.eval]
  cases z with
  | data d =>
   simp only at h2
   split at h2
   ·rename_i ho
    obtain ⟨rfl, h3⟩ := Does.pure h2
    refine ⟨h3, Nat.le_refl _, fun _ => ?_⟩
    cases d with
    | agg ds =>
     obtain ⟨vs, hv, hc⟩ := hr
     exact ⟨vs, hv, hc.length, fun j _ => by rw [rcell_agg hv, Nat.zero_add]⟩
    | val v' => simp [DV.owned] at ho
    | hole => simp [DV.owned] at ho
    | rm n sz es => simp [DV.owned] at ho
    | capv n => simp [DV.owned] at ho
    | mp kd es => exact rcell_t (c := 0) rfl (CO.one hr).1
    | slc o nl sz es => exact rcell_t (c := 0) rfl (CO.one hr).1
   ·rename_i ho
    obtain ⟨rfl, h3⟩ := Does.pure h2
    have ho' : d.owned = false := by simpa using ho
    exact ⟨h3, ho', hr.unowned ho'⟩
  | ref p k c n => obtain ⟨rfl, h3⟩ := Does.pure h2; exact ⟨h3, h.rf t p k c n hz⟩
  | eptr p k c i j => obtain ⟨rfl, h3⟩ := Does.pure h2; exact ⟨h3, h.ef t p k c i j hz⟩
  | dead => obtain ⟨rfl, h3⟩ := Does.pure h2; exact ⟨h3, trivial⟩
  | cptr ch => obtain ⟨rfl, h3⟩ := Does.pure h2; exact ⟨h3, hr⟩
  | tup xs => obtain ⟨rfl, h3⟩ := Does.pure h2; exact ⟨h3, hr⟩
  | fn f b c => obtain ⟨rfl, h3⟩ := Does.pure h2; exact ⟨h3, hr⟩
  | ifc t' x => obtain ⟨rfl, h3⟩ := Does.pure h2; exact ⟨h3, hr⟩
  | ptr i off => obtain ⟨rfl, h3⟩ := Does.pure h2; exact ⟨h3, hr⟩
  | orow i n => obtain ⟨rfl, h3⟩ := Does.pure h2; exact ⟨h3, hr⟩
theorem cellAt_of (h : SRel nt Fr H0 m K who σ a w) {p : Pl} {c : Nat} {d : DV} (hc : cellAt p (σ p) c = some d) (hl : ∀ i, p = .o i → (σ p).live = true) :
  ∃ v, rcell m a w p c = some v ∧ CO w K who p c v d := by
 cases p with
 | t t =>
  obtain ⟨x, hx, hr⟩ := h.tm t
  simp only [cellAt, hx] at hc
  cases x with
  | data e =>
   simp only at hc
   cases e with
   | agg ds =>
    obtain ⟨vs, hv, hr⟩ := hr
    obtain ⟨v, h1, h2⟩ := hr.get (j := c) (by simpa [DV.cells] using hc)
    exact ⟨v, by rw [rcell_agg hv]; exact h1, by simpa using h2⟩
   | val v' =>
    have hc0 : c = 0 ∧ DV.val v' = d := by
     cases c <;> simp [DV.cells] at hc; exact ⟨rfl, hc⟩
    obtain ⟨rfl, rfl⟩ := hc0
    exact ⟨_, rcell_t (c := 0) rfl (CO.one hr).1, hr⟩
   | rm n sz es =>
    have hc0 : c = 0 ∧ DV.rm n sz es = d := by
     cases c <;> simp [DV.cells] at hc; exact ⟨rfl, hc⟩
    obtain ⟨rfl, rfl⟩ := hc0
    exact ⟨_, rcell_t (c := 0) rfl (CO.one hr).1, hr⟩
   | capv n =>
    have hc0 : c = 0 ∧ DV.capv n = d := by
     cases c <;> simp [DV.cells] at hc; exact ⟨rfl, hc⟩
    obtain ⟨rfl, rfl⟩ := hc0
    exact ⟨_, rcell_t (c := 0) rfl (CO.one hr).1, hr⟩
   | slc o nl sz es =>
    have hc0 : c = 0 ∧ DV.slc o nl sz es = d := by
     cases c <;> simp [DV.cells] at hc; exact ⟨rfl, hc⟩
    obtain ⟨rfl, rfl⟩ := hc0
    exact ⟨_, rcell_t (c := 0) rfl (CO.one hr).1, hr⟩
   | hole =>
    have hc0 : c = 0 ∧ DV.hole = d := by
     cases c <;> simp [DV.cells] at hc; exact ⟨rfl, hc⟩
    obtain ⟨rfl, rfl⟩ := hc0
    exact ⟨_, rcell_t (c := 0) rfl (CO.one hr).1, hr⟩
   | mp kd es =>
    have hc0 : c = 0 ∧ DV.mp kd es = d := by
     cases c <;> simp [DV.cells] at hc; exact ⟨rfl, hc⟩
    obtain ⟨rfl, rfl⟩ := hc0
    exact ⟨_, rcell_t (c := 0) rfl (CO.one hr).1, hr⟩
  | _ => simp at hc
 | o i =>
  obtain ⟨b, cs, el, h1, h2, h3⟩ := h.ob i (hl i rfl)
  simp only [cellAt] at hc
  have key : ∀ {c0 c : Nat} {vs : List Value} {xs : List AV} (_ : BReps w m K who (.o i) c0 vs xs) {d : DV}, xs[c]? = some (.data d) → ∃ v, vs[c]? = some v ∧ CO w K who (.o i) (c0 + c) v d := by
   intro c0 c vs xs hb
   induction hb generalizing c with
   | nil => intro d h; simp at h
   | cons h _ ih =>
    intro d hd
    cases c with
    | zero => simp at hd; subst hd; exact ⟨_, rfl, h.2⟩
    | succ c =>
     obtain ⟨v, g1, g2⟩ := ih (by simpa using hd)
     exact ⟨v, by simpa using g1, by rw [Nat.add_comm c 1, ← Nat.add_assoc]; exact g2⟩
  split at hc
  ·rename_i d' hd'
   cases hc
   obtain ⟨v, g1, g2⟩ := key h3 hd'
   refine ⟨v, ?_, by simpa using g2⟩
   simp only [rcell, h1, h2]
   simpa using g1
  ·cases hc
theorem cellsAt_get {p : Pl} {x : Cell} : ∀ {n c : Nat} {ds : List DV}, cellsAt p x c n = some ds → ds.length = n ∧ ∀ j, j < n → cellAt p x (c + j) = ds[j]?
 | 0, c, ds, h => by simp [cellsAt] at h; subst h; exact ⟨rfl, fun j hj => by omega⟩
 | n + 1, c, ds, h => by
  simp only [cellsAt, Option.bind_eq_bind, Option.bind_eq_some_iff] at h
  obtain ⟨d, hd, r, hr, e⟩ := h
  cases e
  obtain ⟨h1, h2⟩ := cellsAt_get hr
  refine ⟨by simp [h1], fun j hj => ?_⟩
  cases j with
  | zero => simpa using hd
  | succ j => rw [show c + (j + 1) = c + 1 + j by omega, h2 j (by omega)]; simp
theorem rcell_live (h : SRel nt Fr H0 m K who σ a w) {p : Pl} {c : Nat} {v : Value} (hr : rcell m a w p c = some v) : ∀ i, p = .o i → (σ p).live = true := by
 rintro i rfl
 simp only [rcell] at hr
 cases hm : m i with
 | none => rw [hm] at hr; cases hr
 | some b => exact (h.om i b hm).1
theorem SRel.refd (h : SRel nt Fr H0 m K who σ a w) {p : Pl} {c : Nat} {n : Option Nat} {v : Value} {d : DV} (hr : RefOk m a w p c n v) (hd : refAt p (σ p) c n = some d) :
  match n with
  | none => CO w K who p c v d ∧ cellAt p (σ p) c = some d ∧ rcell m a w p c = some v
  | some n => ∃ vs ds, v = .agg (List.toArray vs) ∧ d = .agg ds ∧ (ds.length = n ∧ 0 < n) ∧ COs w K who p c vs ds ∧ (∀ j, j < n → cellAt p (σ p) (c + j) = ds[j]?) ∧ ∀ j, j < n → rcell m a w p (c + j) = vs[j]? := by
 cases n with
 | none =>
  simp only [RefOk] at hr
  obtain ⟨v', h1, h2⟩ := cellAt_of h hd (rcell_live h hr)
  rw [hr] at h1; cases h1
  exact ⟨h2, hd, hr⟩
 | some n =>
  obtain ⟨vs, rfl, hl, hv⟩ := hr
  have hn : 0 < n := by
   rcases Nat.eq_zero_or_pos n with g | g
   ·subst g; simp [refAt] at hd
   ·exact g
  have hn' : Nat.beq n 0 = false := by
   cases n with
   | zero => omega
   | succ n => rfl
  simp only [refAt, hn', cond_false, Option.map_eq_some_iff] at hd
  obtain ⟨ds, hds, rfl⟩ := hd
  obtain ⟨hl', hc⟩ := cellsAt_get hds
  refine ⟨vs, ds, rfl, rfl, ⟨hl', hn⟩, ?_, hc, hv⟩
  have key : ∀ (ds : List DV) (vs : List Value) (c : Nat), vs.length = ds.length → (∀ j, j < ds.length → cellAt p (σ p) (c + j) = ds[j]?) → (∀ j, j < ds.length → rcell m a w p (c + j) = vs[j]?) → COs w K who p c vs ds := by
   intro ds
   induction ds with
   | nil => intro vs c hl _ _; rw [List.eq_nil_of_length_eq_zero hl]; exact .nil
   | cons d ds ih =>
    intro vs c hl hc hv
    cases vs with
    | nil => simp at hl
    | cons v vs =>
     have h0 := hc 0 (by simp)
     have h1 := hv 0 (by simp)
     simp only [Nat.add_zero, List.getElem?_cons_zero] at h0 h1
     obtain ⟨v', g1, g2⟩ := cellAt_of h h0 (rcell_live h h1)
     rw [h1] at g1; cases g1
     refine .cons g2 (ih vs (c + 1) (by simpa using hl) (fun j hj => ?_) (fun j hj => ?_))
     ·have := hc (j + 1) (by simpa using hj)
      rw [show c + 1 + j = c + (j + 1) by omega, this]; simp
     ·have := hv (j + 1) (by simpa using hj)
      rw [show c + 1 + j = c + (j + 1) by omega, this]; simp
  exact key ds vs c (by omega) (fun j hj => hc j (by omega)) (fun j hj => hv j (by omega))
theorem SRel.view (h : SRel nt Fr H0 m K who σ a w) {C : Query → Answer → Prop} {y : AV} {v : Value} {d : DV} {σ' : St} (hv : VRep σ a w m K v y) (hd : Does C (view y) σ d σ') : σ' = σ ∧ URep (Kall w) v d := by
 cases y with
 | data d' => obtain ⟨rfl, h1⟩ := Does.pure hd; exact ⟨h1, hv.2.mono h.kall⟩
 | ref p k c n =>
  obtain ⟨x, σ1, h1, hd1⟩ := Does.bind hd
  obtain ⟨rfl, rfl⟩ := Does.gt h1
  obtain ⟨_, σ2, h2, hd2⟩ := Does.bind hd1
  obtain ⟨hk, rfl⟩ := Does.must h2
  obtain ⟨d', σ3, h3, hd3⟩ := Does.bind hd2
  obtain ⟨hd', rfl⟩ := Does.of h3
  obtain ⟨rfl, h4⟩ := Does.pure hd3
  refine ⟨h4, ?_⟩
  have hr := hv.2 (by have := Nat.eq_of_beq_eq_true hk; omega)
  have := h.refd hr hd'
  cases n with
  | none =>
   have hs := CO.strip this.1 h.kall fun b off cap sz es => hr_all h.kall b c off cap sz es
   have hc := this.1.one.2
   rw [← strip_of_cell hc] at hs
   cases d' with
   | agg _ => simp [DV.cell] at hc
   | _ => exact hs
  | some n =>
   obtain ⟨vs, ds, rfl, rfl, _, hc, _⟩ := this
   exact ⟨vs, rfl, hc.strip h.kall (hr_all h.kall)⟩
 | _ => exact (Does.fail hd).elim
end
end Go.Proofs.Ytknkeabmjleoiaa.Vam
/- The machine by value and the model: a place told anew while the world turns. -/
namespace Go.Proofs.Ytknkeabmjleoiaa.Vam
open Go
set_option linter.unusedVariables false
section
variable {nt : Nat} {Fr : Nat → Prop} {H0 : Hd} {m : Om} {K : Kn} {who : Who} {σ : St} {a : Act} {w : World}
structure LooseBut (p0 : Pl) (Fr : Nat → Prop) (m : Om) (K : Kn) (who : Who) (σ : St) (b : Nat) : Prop where
 fr : ¬ Fr b
 m : ∀ i, m i ≠ some b
 K : ∀ o, K b o = none
 use : ∀ p c, p ≠ p0 → who b = some (p, some c) → ownedAt (σ p).vs p c = false
theorem Loose.but {b : Nat} (h : Loose Fr m K who σ b) (p0 : Pl) : LooseBut p0 Fr m K who σ b := ⟨h.fr, h.m, h.K, fun p c _ => h.use p c⟩
theorem SRel.but (h : SRel nt Fr H0 m K who σ a w) {b : Nat} {p : Pl} {c : Nat} (hb : who b = some (p, some c)) : LooseBut p Fr m K who σ b := by
 refine ⟨fun hf => ?_, fun i hi => ?_, fun o => ?_, fun q c' hq hb' => ?_⟩
 ·rw [(h.fr b hf).2.2] at hb; have := hidW_t hb; cases this
 ·rw [(h.om i b hi).2] at hb; cases hb
 ·cases hk : K b o with
  | none => rfl
  | some v => rw [(h.kv b o v hk).1] at hb; cases hb
 ·rw [hb] at hb'; cases hb'; exact absurd rfl hq

theorem SRel.mixT {w' : World} {K' : Kn} {who' : Who} (h : SRel nt Fr H0 m K who σ a w) {t : Nat} {y : AV} {l : Bool} {k : Nat} (hk : (σ (.t t)).k < k ∨ k = (σ (.t t)).k ∧ Shapes (.t t) (σ (.t t)).vs [y])
  (hy : ARep w' m K' who' (.t t) (a.tmps.getD t undef) y) (hn : (∀ p k' c n, y ≠ .ref p k' c n) ∧ ∀ p k' c i j, y ≠ .eptr p k' c i j)
  (Lo : Nat → Prop) (hlo : ∀ b, Lo b → LooseBut (.t t) Fr m K who σ b)
  (hK : K.le K') (hkv : ∀ b o v, K' b o = some v → who' b = none ∧ ∃ cs el fr, w'.heap[b]? = some (.cells cs el fr) ∧ cs[o]? = some v)
  (hw : ∀ b, ¬ Lo b → b < w.heap.size → w'.heap[b]? = w.heap[b]?) (hwho : ∀ b, ¬ Lo b → who' b = who b) (hwh : ∀ b x, who' b = some x → b < w'.heap.size) (hws : WSame w w') :
  SRel nt Fr H0 m K' who' (σ.put (.t t) ⟨[y], l, k⟩) a w' := by
 have h' : SRel nt Fr H0 m K who (σ.put (.t t) ⟨[.dead], l, k⟩) a w := by
  refine h.repT ?_ trivial ⟨(fun _ _ _ _ => by simp), (fun _ _ _ _ _ => by simp)⟩
  rcases hk with g | ⟨g, _⟩
  ·exact .inl g
  ·exact .inr ⟨g, fun c own nl sz es e => by simp [cellAt] at e⟩
 have h2 : SRel nt Fr H0 m K' who' (σ.put (.t t) ⟨[.dead], l, k⟩) a w' := by
  refine h'.turn Lo (fun b hb => ⟨(hlo b hb).fr, (hlo b hb).m, (hlo b hb).K, fun p c hp => ?_⟩) hK hkv hw hwho hwh hws
  by_cases e : p = .t t
  ·subst e; rw [St.put_same]; rfl
  ·rw [St.put_ne _ _ e]; exact (hlo b hb).use p c e hp
 -- the place is told
 have hσ : (σ.put (.t t) ⟨[.dead], l, k⟩).put (.t t) ⟨[y], l, k⟩ = σ.put (.t t) ⟨[y], l, k⟩ := by
  funext q
  by_cases e : q = .t t
  ·subst e; rw [St.put_same, St.put_same]
  ·rw [St.put_ne _ _ e, St.put_ne _ _ e, St.put_ne _ _ e]
 -- the references to it
 refine ⟨h2.nt, h2.df, fun t' => ?_, fun t' p k' c n hx => ?_, fun t' p k' c i j hx => ?_, fun i hl => ?_, fun i b hi => ?_, h2.kv, h2.wh, h2.fr, h2.ws⟩
 ·by_cases e : t' = t
  ·subst e; exact ⟨y, by rw [St.put_same], hy⟩
  ·have := h2.tm t'
   rw [St.put_ne _ _ (fun g => e (by cases g; rfl))] at this ⊢; exact this
 ·by_cases e : t' = t
  ·subst e; rw [St.put_same] at hx
   simp only [List.cons.injEq, and_true] at hx
   exact absurd hx (hn.1 _ _ _ _)
  ·rw [St.put_ne _ _ (fun g => e (by cases g; rfl))] at hx
   have := h2.rf t' p k' c n (by rw [St.put_ne _ _ (fun g => e (by cases g; rfl))]; exact hx)
   by_cases e' : p = .t t
   ·subst e'; rw [St.put_same] at this ⊢; exact this
   ·rw [St.put_ne _ _ e'] at this ⊢; exact this
 ·by_cases e : t' = t
  ·subst e; rw [St.put_same] at hx
   simp only [List.cons.injEq, and_true] at hx
   exact absurd hx (hn.2 _ _ _ _ _)
  ·rw [St.put_ne _ _ (fun g => e (by cases g; rfl))] at hx
   by_cases e' : p = .t t
   ·subst e'
    rw [St.put_same]
    obtain ⟨g1, g2⟩ := h.ef t' (.t t) k' c i j hx
    rcases hk with g | ⟨g, hs⟩
    ·exact ⟨by simp only; omega, fun g' => by simp only at g'; omega⟩
    ·refine ⟨by simp only; omega, fun g' => ?_⟩
     exact ((g2 (by simp only at g'; omega)).shapes hs).keep fun i' b' e _ => by cases e
   ·have := h2.ef t' p k' c i j (by rw [St.put_ne _ _ (fun g => e (by cases g; rfl))]; exact hx)
    rw [St.put_ne _ _ e'] at this ⊢; exact this
 ·have := h2.ob i
  rw [St.put_ne _ _ (by intro g; cases g)] at this hl ⊢; exact this hl
 ·have := h2.om i b hi
  rw [St.put_ne _ _ (by intro g; cases g)] at this ⊢; exact this

theorem SRel.mixO {w' : World} {K' : Kn} {who' : Who} (h : SRel nt Fr H0 m K who σ a w) {i : Nat} (hl : (σ (.o i)).live = true) {b0 : Nat} (hb0 : m i = some b0) {cs : Array Value} {el : TypeId}
  (h1 : w.heap[b0]? = some (.cells cs el (0, 0))) {ys : List AV} {k : Nat} (hk : (σ (.o i)).k < k ∨ k = (σ (.o i)).k ∧ Shapes (.o i) (σ (.o i)).vs ys)
  (hy : BReps w' m K' who' (.o i) 0 cs.toList ys)
  (Lo : Nat → Prop) (hlo : ∀ b, Lo b → LooseBut (.o i) Fr m K who σ b)
  (hK : K.le K') (hkv : ∀ b o v, K' b o = some v → who' b = none ∧ ∃ cs el fr, w'.heap[b]? = some (.cells cs el fr) ∧ cs[o]? = some v)
  (hw : ∀ b, ¬ Lo b → b < w.heap.size → w'.heap[b]? = w.heap[b]?) (hwho : ∀ b, ¬ Lo b → who' b = who b) (hwh : ∀ b x, who' b = some x → b < w'.heap.size) (hws : WSame w w') :
  SRel nt Fr H0 m K' who' (σ.put (.o i) ⟨ys, true, k⟩) a w' := by
 have dead : ∀ (n c : Nat) (vs : List Value), (∀ v ∈ vs, oneC v = true) → vs.length = n → BReps w m K who (.o i) c vs (List.replicate n .dead) := by
  intro n
  induction n with
  | zero => intro c vs _ hv; rw [List.eq_nil_of_length_eq_zero hv]; exact .nil
  | succ n ih =>
   intro c vs ho hv
   cases vs with
   | nil => simp at hv
   | cons v vs => exact .cons ⟨ho v List.mem_cons_self, trivial⟩ (ih _ vs (fun u hu => ho u (List.mem_cons_of_mem _ hu)) (by simpa using hv))
 have hone : ∀ v ∈ cs.toList, oneC v = true := by
  have key : ∀ {c : Nat} {vs : List Value} {xs : List AV}, BReps w' m K' who' (.o i) c vs xs → ∀ v ∈ vs, oneC v = true := by
   intro c vs xs hb
   induction hb with
   | nil => intro v hv; simp at hv
   | cons h _ ih => intro v hv; rcases List.mem_cons.1 hv with g | g; · subst g; exact h.1
                    · exact ih v g
  exact key hy
 have hne : b0 < w.heap.size := h.wh b0 _ (h.om i b0 hb0).2
 have h' : SRel nt Fr H0 m K who (σ.put (.o i) ⟨List.replicate cs.toList.length .dead, true, k⟩) a w := by
  refine h.repO hl hb0 h1 (fun _ _ => rfl) (WSame.refl _) ?_ (dead _ _ _ hone rfl)
  rcases hk with g | ⟨g, _⟩
  ·exact .inl g
  ·refine .inr ⟨g, fun c own nl sz es e => ?_, rfl⟩
   simp only [cellAt] at e
   split at e
   ·rename_i d hd
    have := List.mem_of_getElem? hd
    rw [List.mem_replicate] at this
    cases this.2
   ·cases e
 have hnl : ¬ Lo b0 := fun g => (hlo b0 g).m i hb0
 have h2 : SRel nt Fr H0 m K' who' (σ.put (.o i) ⟨List.replicate cs.toList.length .dead, true, k⟩) a w' := by
  refine h'.turn Lo (fun b hb => ⟨(hlo b hb).fr, (hlo b hb).m, (hlo b hb).K, fun p c hp => ?_⟩) hK hkv hw hwho hwh hws
  by_cases e : p = .o i
  ·subst e; rw [St.put_same]
   simp only [ownedAt, cellAt]
   cases hr : (List.replicate cs.toList.length AV.dead)[c]? with
   | none => rfl
   | some x =>
    have := List.mem_of_getElem? hr
    rw [List.mem_replicate] at this
    rw [this.2]
  ·rw [St.put_ne _ _ e]; exact (hlo b hb).use p c e hp
 refine ⟨h2.nt, h2.df, fun t => ?_, fun t p k' c n hx => ?_, fun t p k' c i' j hx => ?_, fun i' hl' => ?_, fun i' b hi => ?_, h2.kv, h2.wh, h2.fr, h2.ws⟩
 ·have := h2.tm t
  rw [St.put_ne _ _ (by intro g; cases g)] at this ⊢; exact this
 ·rw [St.put_ne _ _ (by intro g; cases g)] at hx
  have := h2.rf t p k' c n (by rw [St.put_ne _ _ (by intro g; cases g)]; exact hx)
  by_cases e' : p = .o i
  ·subst e'; rw [St.put_same] at this ⊢; exact this
  ·rw [St.put_ne _ _ e'] at this ⊢; exact this
 ·rw [St.put_ne _ _ (by intro g; cases g)] at hx
  by_cases e' : p = .o i
  ·subst e'
   rw [St.put_same]
   obtain ⟨g1, g2⟩ := h.ef t (.o i) k' c i' j hx
   rcases hk with g | ⟨g, hs⟩
   ·exact ⟨by simp only; omega, fun g' => by simp only at g'; omega⟩
   ·refine ⟨by simp only; omega, fun g' => ?_⟩
    refine ((g2 (by simp only at g'; omega)).shapes hs).keep fun i'' b' e g3 => ?_
    cases e
    rw [hb0] at g3; cases g3
    exact ⟨hb0, hw b0 hnl hne⟩
  ·have := h2.ef t p k' c i' j (by rw [St.put_ne _ _ (by intro g; cases g)]; exact hx)
   rw [St.put_ne _ _ e'] at this ⊢; exact this
 ·by_cases e : i' = i
  ·subst e; rw [St.put_same]
   exact ⟨b0, cs, el, hb0, (hw b0 hnl hne).trans h1, hy⟩
  ·have := h2.ob i'
   rw [St.put_ne _ _ (fun g => e (by cases g; rfl))] at this hl' ⊢; exact this hl'
 ·have := h2.om i' b hi
  by_cases e : i' = i
  ·subst e; rw [St.put_same] at this ⊢; exact this
  ·rw [St.put_ne _ _ (fun g => e (by cases g; rfl))] at this ⊢; exact this
end
end Go.Proofs.Ytknkeabmjleoiaa.Vam
/- The machine by value and the model: what is taken out of a place. -/
namespace Go.Proofs.Ytknkeabmjleoiaa.Vam
open Go
set_option linter.unusedVariables false

theorem setRange_length {α : Type} {l es : List α} {o : Nat} (h : o + es.length ≤ l.length) : (setRange l o es).length = l.length := by
 simp [setRange]; omega
theorem setRange_get {α : Type} {l es : List α} {o : Nat} (h : o + es.length ≤ l.length) (j : Nat) : (setRange l o es)[j]? = if o ≤ j ∧ j < o + es.length then es[j - o]? else l[j]? := by
 unfold setRange
 have hl : (l.take o).length = o := by simp; omega
 by_cases h1 : j < o
 ·rw [if_neg (by omega), List.append_assoc, List.getElem?_append_left (by omega), List.getElem?_take_of_lt h1]
 ·by_cases h2 : j < o + es.length
  ·rw [if_pos (by omega), List.append_assoc, List.getElem?_append_right (by omega), hl, List.getElem?_append_left (by omega)]
  ·rw [if_neg (by omega), List.getElem?_append_right (by simp; omega), List.getElem?_drop]
   congr 1
   simp; omega
section
variable {nt : Nat} {Fr : Nat → Prop} {H0 : Hd} {m : Om} {K : Kn} {who : Who} {σ : St} {a : Act} {w : World}
theorem COs.of_get {p : Pl} : ∀ {c : Nat} {vs : List Value} {ds : List DV}, vs.length = ds.length → (∀ (j : Nat) (v : Value) (d : DV), vs[j]? = some v → ds[j]? = some d → CO w K who p (c + j) v d) → COs w K who p c vs ds
 | c, [], [], _, _ => .nil
 | c, [], d :: ds, h, _ => by simp at h
 | c, v :: vs, [], h, _ => by simp at h
 | c, v :: vs, d :: ds, hl, h => .cons (h 0 v d rfl rfl) (COs.of_get (by simpa using hl) fun j v d hv hd => by
   have := h (j + 1) v d (by simpa using hv) (by simpa using hd)
   rw [show c + (j + 1) = c + 1 + j by omega] at this; exact this)
theorem BReps.of_get {p : Pl} : ∀ {c : Nat} {vs : List Value} {ds : List AV}, vs.length = ds.length → (∀ (j : Nat) (v : Value) (d : AV), vs[j]? = some v → ds[j]? = some d → BRep w m K who p (c + j) v d) → BReps w m K who p c vs ds
 | c, [], [], _, _ => .nil
 | c, [], d :: ds, h, _ => by simp at h
 | c, v :: vs, [], h, _ => by simp at h
 | c, v :: vs, d :: ds, hl, h => .cons (h 0 v d rfl rfl) (BReps.of_get (by simpa using hl) fun j v d hv hd => by
   have := h (j + 1) v d (by simpa using hv) (by simpa using hd)
   rw [show c + (j + 1) = c + 1 + j by omega] at this; exact this)
theorem BReps.length {p : Pl} {c : Nat} {vs : List Value} {ds : List AV} (h : BReps w m K who p c vs ds) : vs.length = ds.length := by
 induction h with
 | nil => rfl
 | cons _ _ ih => simp [ih]
theorem BReps.get {p : Pl} {c : Nat} {vs : List Value} {ds : List AV} (h : BReps w m K who p c vs ds) : ∀ {j : Nat} {d : AV}, ds[j]? = some d → ∃ v, vs[j]? = some v ∧ BRep w m K who p (c + j) v d := by
 induction h with
 | nil => intro j d h; simp at h
 | cons h _ ih =>
  intro j d hd
  cases j with
  | zero => simp at hd; subst hd; exact ⟨_, rfl, h⟩
  | succ j =>
   obtain ⟨v, h1, h2⟩ := ih (by simpa using hd)
   exact ⟨v, by simpa using h1, by rw [Nat.add_comm j 1, ← Nat.add_assoc]; exact h2⟩
theorem COs.get2 {p : Pl} {c : Nat} {vs : List Value} {ds : List DV} (h : COs w K who p c vs ds) {j : Nat} {v : Value} {d : DV} (hv : vs[j]? = some v) (hd : ds[j]? = some d) : CO w K who p (c + j) v d := by
 obtain ⟨v', h1, h2⟩ := h.get hd
 rw [hv] at h1; cases h1; exact h2
theorem BReps.get2 {p : Pl} {c : Nat} {vs : List Value} {ds : List AV} (h : BReps w m K who p c vs ds) {j : Nat} {v : Value} {d : AV} (hv : vs[j]? = some v) (hd : ds[j]? = some d) : BRep w m K who p (c + j) v d := by
 obtain ⟨v', h1, h2⟩ := h.get hd
 rw [hv] at h1; cases h1; exact h2

def Of (who : Who) (p : Pl) (c n : Nat) (b : Nat) : Prop := ∃ cc, who b = some (p, some cc) ∧ c ≤ cc ∧ cc < c + n
open Classical in
noncomputable def Kshare (K : Kn) (w : World) (L : Nat → Prop) : Kn := fun b o => match K b o with
 | some v => some v
 | none => if L b then Kall w b o else none
open Classical in
noncomputable def whoShare (who : Who) (L : Nat → Prop) : Who := fun b => if L b then none else who b
theorem Kshare.le (K : Kn) (w : World) (L : Nat → Prop) : K.le (Kshare K w L) := fun b o v h => by simp [Kshare, h]
theorem SRel.kshare (h : SRel nt Fr H0 m K who σ a w) (p : Pl) (c n : Nat) : ∀ b o v, Kshare K w (Of who p c n) b o = some v → whoShare who (Of who p c n) b = none ∧ ∃ cs el fr, w.heap[b]? = some (.cells cs el fr) ∧ cs[o]? = some v := by
 intro b o v hv
 unfold Kshare at hv
 unfold whoShare
 split at hv
 ·rename_i u hu
  cases hv
  obtain ⟨h1, h2⟩ := h.kv b o _ hu
  exact ⟨by split <;> first | rfl | exact h1, h2⟩
 ·split at hv
  ·rename_i hl
   rw [if_pos hl]
   refine ⟨rfl, ?_⟩
   unfold Kall at hv
   split at hv
   ·rename_i cs el fr hh; exact ⟨cs, el, fr, hh, hv⟩
   ·cases hv
  ·cases hv
theorem SRel.share (h : SRel nt Fr H0 m K who σ a w) {p : Pl} {c n j : Nat} (hj : c ≤ j ∧ j < c + n) {v : Value} {d : DV} (hc : CO w K who p j v d) : CRep (Kshare K w (Of who p c n)) v d.strip1 :=
 hc.strip (Kshare.le _ _ _) fun b off cap sz es hb hr i j' ch d' hi hj' => by
  obtain ⟨cs, el, fr, h1, h2, h3, h4⟩ := hr
  obtain ⟨u, hu, hcr⟩ := h4 i j' ch d' hi hj'
  refine ⟨u, ?_, hcr.mono (Kshare.le _ _ _)⟩
  have hk : K b (off + i * sz + j') = none := (h.but hb).K _
  have hl : Of who p c n b := ⟨j, hb, hj⟩
  simp [Kshare, hk, hl, Kall, h1, hu]
theorem CO.apart {p : Pl} {c n j : Nat} (hj : ¬ (c ≤ j ∧ j < c + n)) {v : Value} {d : DV} (hc : CO w K who p j v d) : CO w (Kshare K w (Of who p c n)) (whoShare who (Of who p c n)) p j v d :=
 hc.mono (Kshare.le _ _ _) fun b hb => by
  refine ⟨?_, rfl⟩
  have : ¬ Of who p c n b := fun ⟨cc, h1, h2⟩ => by rw [hb] at h1; cases h1; exact hj h2
  simp [whoShare, this, hb]
theorem CO.ofC {p : Pl} {c : Nat} {v : Value} {d : DV} (h : CRep K v d) : CO w K who p c v d := ⟨fun _ => h, fun e => by rw [h.one.2.2] at e; cases e⟩
theorem cells_strip (d : DV) : d.strip.cells = d.cells.map DV.strip1 := by cases d <;> simp [DV.strip, DV.cells, DV.strip1]
theorem strip_owned (d : DV) : d.strip.owned = false := by
 cases d with
 | agg cs =>
  simp only [DV.strip, DV.owned, List.any_map, List.any_eq_false]
  intro x _
  cases x <;> simp [DV.strip1, DV.owned1]
 | _ => simp [DV.strip, DV.owned]
theorem strip1_slc {d : DV} {own : Bool} {nl : Option Bool} {sz : Nat} {es : List (List DV)} (h : d.strip1 = .slc own nl sz es) : ∃ own', d = .slc own' nl sz es := by
 cases d <;> simp [DV.strip1] at h
 obtain ⟨_, rfl, rfl, rfl⟩ := h; exact ⟨_, rfl⟩

def AV.isRef : AV → Bool
 | .ref .. => true
 | _ => false

def DV.form : DV → Bool
 | .agg _ => true
 | _ => false
theorem form_cells {d : DV} (h : d.form = false) : d.cells = [d] := by cases d <;> first | rfl | simp [DV.form] at h
theorem form_cell {d : DV} (h : d.cell = true) : d.form = false := by cases d <;> first | rfl | simp [DV.cell] at h
theorem setR_cells {d : DV} {c : Nat} {es : List DV} (h : c + es.length ≤ d.cells.length) (hes : ∀ x, x ∈ es → x.cell = true) : (d.setR c es).cells = setRange d.cells c es ∧ (d.setR c es).form = d.form := by
 have key : ∀ d : DV, d.form = false → c + es.length ≤ 1 → (es.headD d).cells = setRange [d] c es ∧ (es.headD d).form = false := by
  intro d hf h
  match es, hes, h with
  | [], _, h =>
   refine ⟨?_, hf⟩
   simp only [List.headD_nil, form_cells hf, setRange, List.append_nil, List.length_nil, Nat.add_zero]
   rw [List.take_append_drop]
  | [x], hes, h =>
   have hx := form_cell (hes x (by simp))
   have : c = 0 := by simpa using h
   subst this
   exact ⟨by simp [form_cells hx, setRange], hx⟩
  | _ :: _ :: _, _, h => simp at h; omega
 cases d with
 | agg cs => exact ⟨rfl, rfl⟩
 | val v => exact key (.val v) rfl (by simpa [DV.cells] using h)
 | slc o nl sz es' => exact key (.slc o nl sz es') rfl (by simpa [DV.cells] using h)
 | hole => exact key .hole rfl (by simpa [DV.cells] using h)
 | rm n sz es' => exact key (.rm n sz es') rfl (by simpa [DV.cells] using h)
 | capv n => exact key (.capv n) rfl (by simpa [DV.cells] using h)
 | mp kd es' => exact key (.mp kd es') rfl (by simpa [DV.cells] using h)
theorem SRel.tcells (h : SRel nt Fr H0 m K who σ a w) {t : Nat} {e : DV} (he : (σ (.t t)).vs = [.data e]) : ∃ us : List Value, COs w K who (.t t) 0 us e.cells ∧ (∀ c, rcell m a w (.t t) c = us[c]?) ∧
  ∀ (w' : World) (K' : Kn) (who' : Who) (e' : DV), e'.form = e.form → COs w' K' who' (.t t) 0 us e'.cells → DRep w' K' who' (.t t) (a.tmps.getD t undef) e' := by
 obtain ⟨x, hx, hr⟩ := h.tm t
 rw [he] at hx
 simp only [List.cons.injEq, and_true] at hx
 subst hx
 cases hf : e.form with
 | true =>
  cases e with
  | agg cs =>
   obtain ⟨us, hus, hc⟩ := hr
   refine ⟨us, hc, fun c => rcell_agg hus, fun w' K' who' e' hf' hc' => ?_⟩
   cases e' with
   | agg cs' => exact ⟨us, hus, hc'⟩
   | _ => simp [DV.form] at hf'
  | _ => simp [DV.form] at hf
 | false =>
  have hr' : CO w K who (.t t) 0 (a.tmps.getD t undef) e := by cases e <;> first | exact hr | simp [DV.form] at hf
  refine ⟨[a.tmps.getD t undef], by rw [form_cells hf]; exact .cons hr' .nil, fun c => ?_, fun w' K' who' e' hf' hc' => ?_⟩
  ·have h0 := rcell_t (m := m) (a := a) (w := w) (t := t) (c := 0) rfl hr'.one.1
   cases c with
   | zero => simpa using h0
   | succ c =>
    have := hr'.one.1
    simp only [rcell]
    cases hv : a.tmps.getD t undef <;> simp_all [oneC]
  ·rw [form_cells hf'] at hc'
   cases hc' with
   | cons g _ => cases e' <;> first | exact g | simp [DV.form] at hf'

theorem SRel.take0 (h : SRel nt Fr H0 m K who σ a w) {C : Query → Answer → Prop} {y z : AV} {v : Value} {σ' : St} (hv : VRep σ a w m K v y) (hd : Does C (take false y) σ z σ') :
  ∃ K' who', SRel nt Fr H0 m K' who' σ' a w ∧ K.le K' ∧ (∀ q, (∀ k c n, y ≠ .ref q k c n) → ∀ b c, who b = some (q, some c) → who' b = some (q, some c)) ∧ VRep σ' a w m K' v z ∧ z.isRef = false := by
 by_cases href : ∃ p k c n, y = .ref p k c n
 ·obtain ⟨p, k, c, n, rfl⟩ := href
  obtain ⟨x, σ1, h1, hd1⟩ := Does.bind hd
  obtain ⟨rfl, rfl⟩ := Does.gt h1
  obtain ⟨_, σ2, h2, hd2⟩ := Does.bind hd1
  obtain ⟨hk, h2'⟩ := Does.must h2
  rw [h2'] at hd2
  obtain ⟨d, σ3, h3, hd3⟩ := Does.bind hd2
  obtain ⟨hd', h3'⟩ := Does.of h3
  rw [h3'] at hd3
  simp only [Bool.false_eq_true, if_false] at hd3
  obtain ⟨_, σ4, h4, hd4⟩ := Does.bind hd3
  have hσ := Does.st h4
  obtain ⟨rfl, h5⟩ := Does.pure hd4
  rw [h5, hσ]
  clear hd1 hd2 hd3 hd4 h1 h2 h3 h4 h5 hd hσ
  have hr := hv.2 (by have := Nat.eq_of_beq_eq_true hk; omega)
  have hcells := h.refd hr hd'
  -- the cells taken
  have hall : ∃ vs : List Value, COs w K who p c vs d.cells ∧ (∀ j, j < d.cells.length → cellAt p (σ1 p) (c + j) = d.cells[j]?) ∧ (∀ j, j < d.cells.length → rcell m a w p (c + j) = vs[j]?) ∧ 0 < d.cells.length ∧
    ∀ K' : Kn, (∀ (j : Nat) (v : Value) (e : DV), vs[j]? = some v → d.cells[j]? = some e → CRep K' v e.strip1) → URep K' v d.strip := by
   cases n with
   | none =>
    obtain ⟨g1, g2, g3⟩ := hcells
    have hc := g1.one.2
    have e1 : d.cells = [d] := form_cells (form_cell hc)
    refine ⟨[v], by rw [e1]; exact .cons g1 .nil, ?_, ?_, by rw [e1]; simp, fun K' hK' => ?_⟩
    ·rw [e1]; intro j hj; have : j = 0 := by simpa using hj
     subst this; simpa using g2
    ·rw [e1]; intro j hj; have : j = 0 := by simpa using hj
     subst this; simpa using g3
    ·have := hK' 0 v d rfl (by rw [e1]; rfl)
     rw [← strip_of_cell hc] at this
     cases d with
     | agg _ => simp [DV.cell] at hc
     | _ => exact this
   | some n =>
    obtain ⟨vs, ds, rfl, rfl, hl, g1, g2, g3⟩ := hcells
    refine ⟨vs, g1, fun j hj => g2 j (by simp [DV.cells] at hj; omega), fun j hj => g3 j (by simp [DV.cells] at hj; omega), by simp [DV.cells]; omega, fun K' hK' => ⟨vs, rfl, ?_⟩⟩
    refine All2.of_get (by simp [g1.length]) fun j v e hv he => ?_
    rw [List.getElem?_map, Option.map_eq_some_iff] at he
    obtain ⟨e', he', rfl⟩ := he
    exact hK' j v e' hv he'
  obtain ⟨vs, hcs, hca, hrc, hpos, hfin⟩ := hall
  clear hcells
  have hlen := hcs.length
  have hstr : ∀ (j : Nat) (v : Value) (e : DV), vs[j]? = some v → d.cells[j]? = some e → CRep (Kshare K w (Of who p c d.cells.length)) v e.strip1 := fun j v e hv he =>
   h.share ⟨by omega, by have := (List.getElem?_eq_some_iff.1 he).1; omega⟩ (hcs.get2 hv he)
  have hcell : ∀ x, x ∈ d.strip.cells → x.cell = true := by
   intro x hx
   rw [cells_strip, List.mem_map] at hx
   obtain ⟨e, he, rfl⟩ := hx
   obtain ⟨j, hj⟩ := List.getElem?_of_mem he
   obtain ⟨u, _, hu⟩ := hcs.get hj
   have := hu.one.2
   cases e <;> simp_all [DV.strip1, DV.cell]
  have hls : d.strip.cells.length = d.cells.length := by rw [cells_strip, List.length_map]
  refine ⟨Kshare K w (Of who p c d.cells.length), whoShare who (Of who p c d.cells.length), ?_, Kshare.le _ _ _, fun q hq b c' hb => ?_, ⟨strip_owned d, hfin _ hstr⟩, rfl⟩
  ·have hLo : ∀ b, Of who p c d.cells.length b → LooseBut p Fr m K who σ1 b := fun b ⟨cc, hb, _⟩ => h.but hb
   have hwho : ∀ b, ¬ Of who p c d.cells.length b → whoShare who (Of who p c d.cells.length) b = who b := fun b hb => by simp [whoShare, hb]
   have hwh : ∀ b x, whoShare who (Of who p c d.cells.length) b = some x → b < w.heap.size := fun b x hb => by
    unfold whoShare at hb
    split at hb
    ·cases hb
    ·exact h.wh b x hb
   cases p with
   | t t =>
    -- the content is data
    have hdat : ∃ e, (σ1 (.t t)).vs = [.data e] := by
     obtain ⟨xx, hxx, _⟩ := h.tm t
     have h0 := hca 0 hpos
     rw [List.getElem?_eq_getElem hpos] at h0
     cases xx with
     | data e => exact ⟨e, hxx⟩
     | _ => simp [cellAt, hxx] at h0
    obtain ⟨e, he⟩ := hdat
    obtain ⟨us, g1, g2, g3⟩ := h.tcells he
    have hget : ∀ j, j < d.cells.length → e.cells[c + j]? = d.cells[j]? := fun j hj => by
     have := hca j hj
     simp only [cellAt, he] at this; exact this
    have hle : c + d.strip.cells.length ≤ e.cells.length := by
     rw [hls]
     have g1 := hget (d.cells.length - 1) (by omega)
     rw [List.getElem?_eq_getElem (l := d.cells) (by omega)] at g1
     have := (List.getElem?_eq_some_iff.1 g1).1; omega
    obtain ⟨s1, s2⟩ := setR_cells hle hcell
    have hset : setCells (.t t) (σ1 (.t t)) c d.strip.cells = ⟨[.data (e.setR c d.strip.cells)], true, (σ1 (.t t)).k⟩ := by simp [setCells, he]
    rw [hset]
    refine h.mixT (.inr ⟨rfl, fun cc own nl sz es hc' => ?_⟩) (g3 _ _ _ _ s2 ?_) ⟨(fun _ _ _ _ => by simp), (fun _ _ _ _ _ => by simp)⟩ _ hLo (Kshare.le _ _ _) (h.kshare _ _ _) (fun _ _ _ => rfl) hwho hwh (WSame.refl _)
    ·simp only [cellAt] at hc'
     rw [s1, setRange_get hle, hls] at hc'
     rw [he]
     simp only [cellAt]
     split at hc'
     ·rename_i hin
      rw [cells_strip, List.getElem?_map, Option.map_eq_some_iff] at hc'
      obtain ⟨e', he', he''⟩ := hc'
      obtain ⟨own', rfl⟩ := strip1_slc he''
      have := hget (cc - c) (by omega)
      rw [show c + (cc - c) = cc by omega, he'] at this
      exact ⟨own', nl, es, this⟩
     ·exact ⟨own, nl, es, hc'⟩
    ·rw [s1]
     refine COs.of_get (by rw [setRange_length hle]; exact g1.length) fun j u e' hu he' => ?_
     rw [setRange_get hle, hls] at he'
     split at he'
     ·rename_i hin
      rw [cells_strip, List.getElem?_map, Option.map_eq_some_iff] at he'
      obtain ⟨e2, he2, rfl⟩ := he'
      refine CO.ofC (hstr (j - c) u e2 ?_ he2)
      have := hrc (j - c) (by omega)
      rw [show c + (j - c) = j by omega, g2] at this
      rw [← this]; exact hu
     ·rename_i hin
      have := g1.get2 hu he'
      rw [Nat.zero_add] at this ⊢
      exact this.apart hin
   | o i =>
    have hlive : (σ1 (.o i)).live = true := by
     have h0 := hrc 0 hpos
     rw [List.getElem?_eq_getElem (by omega)] at h0
     exact rcell_live h h0 i rfl
    obtain ⟨b, cs, el, q1, q2, q3⟩ := h.ob i hlive
    have hget : ∀ j, j < d.cells.length → ∃ e, d.cells[j]? = some e ∧ (σ1 (.o i)).vs[c + j]? = some (.data e) := fun j hj => by
     have := hca j hj
     rw [List.getElem?_eq_getElem hj] at this ⊢
     simp only [cellAt] at this
     split at this
     ·rename_i d' hd'; cases this; exact ⟨_, rfl, hd'⟩
     ·cases this
    have hle : c + (d.strip.cells.map AV.data).length ≤ (σ1 (.o i)).vs.length := by
     rw [List.length_map, hls]
     obtain ⟨e, _, g1⟩ := hget (d.cells.length - 1) (by omega)
     have := (List.getElem?_eq_some_iff.1 g1).1; omega
    have hls' : (d.strip.cells.map AV.data).length = d.cells.length := by rw [List.length_map, hls]
    have hgetr : ∀ j, (d.strip.cells.map AV.data)[j]? = (d.cells[j]?).map fun (e : DV) => AV.data e.strip1 := fun j => by
     rw [cells_strip, List.map_map, List.getElem?_map]; rfl
    refine h.mixO hlive q1 q2 (.inr ⟨rfl, fun cc own nl sz es hc' => ?_⟩) ?_ _ hLo (Kshare.le _ _ _) (h.kshare _ _ _) (fun _ _ _ => rfl) hwho hwh (WSame.refl _)
    ·simp only [cellAt] at hc' ⊢
     rw [setRange_get hle, hls'] at hc'
     split at hc'
     ·rename_i d' hdd
      cases hc'
      split at hdd
      ·rename_i hin
       rw [hgetr, Option.map_eq_some_iff] at hdd
       obtain ⟨e', he', he''⟩ := hdd
       simp only [AV.data.injEq] at he''
       obtain ⟨own', rfl⟩ := strip1_slc he''
       obtain ⟨e3, g4, g5⟩ := hget (cc - c) (by omega)
       rw [he'] at g4; cases g4
       rw [show c + (cc - c) = cc by omega] at g5
       exact ⟨own', nl, es, by rw [g5]⟩
      ·rw [hdd]; exact ⟨own, nl, es, rfl⟩
     ·cases hc'
    ·refine BReps.of_get (by rw [setRange_length hle]; exact q3.length) fun j u e' hu he' => ?_
     rw [setRange_get hle, hls'] at he'
     split at he'
     ·rename_i hin
      rw [hgetr, Option.map_eq_some_iff] at he'
      obtain ⟨e2, he2, rfl⟩ := he'
      have hc2 := hstr (j - c) u e2 (by
       have := hrc (j - c) (by omega)
       rw [show c + (j - c) = j by omega] at this
       simp only [rcell, q1, q2] at this
       rw [← this]; simpa using hu) he2
      exact ⟨hc2.one.1, CO.ofC hc2⟩
     ·rename_i hin
      have := q3.get2 hu he'
      rw [Nat.zero_add] at this ⊢
      refine ⟨this.1, ?_⟩
      have h2 := this.2
      cases e' with
      | data e => exact CO.apart hin h2
      | dead => trivial
      | fn f a b => exact ARep1.mono (x := .fn f a b) (fun _ _ h => h) (Kshare.le _ _ _) h2
      | ifc t x => exact ARep1.mono (x := .ifc t x) (fun _ _ h => h) (Kshare.le _ _ _) h2
      | ptr i off => exact ARep1.mono (x := .ptr i off) (fun _ _ h => h) (Kshare.le _ _ _) h2
      | _ => exact h2.elim
  ·have : ¬ Of who p c d.cells.length b := fun ⟨cc, g1, _⟩ => by rw [hb] at g1; cases g1; exact hq k c n rfl
   simp [whoShare, this, hb]
 ·have hp : z = y ∧ σ' = σ := by
   cases y <;> first | exact Does.pure hd | exact absurd ⟨_, _, _, _, rfl⟩ href
  obtain ⟨rfl, rfl⟩ := hp
  refine ⟨K, who, h, Kn.le.refl K, fun _ _ _ _ hb => hb, hv, ?_⟩
  cases z <;> first | rfl | exact absurd ⟨_, _, _, _, rfl⟩ href
end
end Go.Proofs.Ytknkeabmjleoiaa.Vam
/- The machine by value and the model: what is taken with all that it owns. -/
namespace Go.Proofs.Ytknkeabmjleoiaa.Vam
open Go
set_option linter.unusedVariables false
section
variable {nt : Nat} {Fr : Nat → Prop} {H0 : Hd} {m : Om} {K : Kn} {who : Who} {σ : St} {a : Act} {w : World}
open Classical in
noncomputable def whoMove (who : Who) (p : Pl) (c n : Nat) (q : Pl) (c' : Nat) : Who := fun b => match who b with
 | some (p', some cc) => if p' = p ∧ c ≤ cc ∧ cc < c + n then some (q, some (cc - c + c')) else some (p', some cc)
 | x => x
theorem whoMove_in {who : Who} {p : Pl} {c n : Nat} {q : Pl} {c' b cc : Nat} (hb : who b = some (p, some cc)) (h1 : c ≤ cc) (h2 : cc < c + n) : whoMove who p c n q c' b = some (q, some (cc - c + c')) := by
 simp [whoMove, hb, h1, h2]
theorem whoMove_out {who : Who} {p : Pl} {c n : Nat} {q : Pl} {c' b : Nat} (hb : ¬ Of who p c n b) : whoMove who p c n q c' b = who b := by
 unfold whoMove
 split
 ·rename_i p' cc hw
  rw [if_neg, hw]
  rintro ⟨rfl, h1, h2⟩
  exact hb ⟨cc, hw, h1, h2⟩
 ·rfl
def FRep (w : World) (m : Om) (K : Kn) (who : Who) (σ : St) (a : Act) (q : Pl) (c : Nat) (v : Value) : AV → Prop
 | .data d => ∃ vs : List Value, COs w K who q c vs d.cells ∧ vs = (if d.form then v.cells.toList else [v]) ∧ (d.form = true → v = .agg vs.toArray)
 | x => VRep σ a w m K v x
theorem COs.move {p : Pl} {c n : Nat} {q : Pl} {c' : Nat} {vs : List Value} {ds : List DV} (h : COs w K who p c vs ds) (hn : ds.length ≤ n) : COs w K (whoMove who p c n q c') q c' vs ds := by
 refine COs.of_get h.length fun j v d hv hd => ?_
 have hc := h.get2 hv hd
 have hj := (List.getElem?_eq_some_iff.1 hd).1
 refine ⟨hc.1, fun e => ?_⟩
 cases hc.2 e with
 | nil h => exact .nil h
 | empty h => exact .empty h
 | slc h1 h2 h3 h4 h5 h6 =>
  refine .slc h1 h2 h3 h4 ?_ h6
  rw [whoMove_in h5 (by omega) (by omega)]
  congr 3
  omega
 | mp h5 h6 h7 h8 h9 =>
  refine .mp ?_ h6 h7 h8 h9
  rw [whoMove_in h5 (by omega) (by omega)]
  congr 3
  omega
theorem FRep.of_urep {q : Pl} {c : Nat} {v : Value} {d : DV} (h : URep K v d) : FRep w m K who σ a q c v (.data d) := by
 cases d with
 | agg ds =>
  obtain ⟨vs, rfl, h⟩ := h
  exact ⟨vs, COs.of_get h.length fun j v d hv hd => CO.ofC (h.get2 hv hd), by simp [DV.form, Value.cells], fun _ => rfl⟩
 | val x => exact ⟨[v], .cons (CO.ofC h) .nil, by simp [DV.form], fun e => by cases e⟩
 | hole => exact ⟨[v], .cons (CO.ofC h) .nil, by simp [DV.form], fun e => by cases e⟩
 | rm _ _ _ => exact ⟨[v], .cons (CO.ofC h) .nil, by simp [DV.form], fun e => by cases e⟩
 | capv _ => exact ⟨[v], .cons (CO.ofC h) .nil, by simp [DV.form], fun e => by cases e⟩
 | mp kd es => exact ⟨[v], .cons (CO.ofC h) .nil, by simp [DV.form], fun e => by cases e⟩
 | slc o nl sz es => exact ⟨[v], .cons (CO.ofC h) .nil, by simp [DV.form], fun e => by cases e⟩
theorem leave_owned {xs : List AV} {p : Pl} {c n cc : Nat} (i : Nat) (hp : p = .o i) (h : c + n ≤ xs.length) (h1 : c ≤ cc) (h2 : cc < c + n) : ownedAt (setRange xs c (List.replicate n .dead)) p cc = false := by
 subst hp
 simp only [ownedAt, cellAt]
 rw [setRange_get (by simpa using h), if_pos (by simpa using ⟨h1, h2⟩)]
 rw [List.getElem?_replicate, if_pos (by omega)]
theorem SRel.take1 (h : SRel nt Fr H0 m K who σ a w) {C : Query → Answer → Prop} {y z : AV} {v : Value} {σ' : St} (hv : VRep σ a w m K v y) (hd : Does C (take true y) σ z σ') (q : Pl) (c' : Nat) :
  ∃ who', SRel nt Fr H0 m K who' σ' a w ∧ (∀ q', (∀ k c n, y ≠ .ref q' k c n) → ∀ b c, who b = some (q', some c) → who' b = some (q', some c)) ∧ FRep w m K who' σ' a q c' v z ∧ z.isRef = false := by
 by_cases href : ∃ p k c n, y = .ref p k c n
 ·obtain ⟨p, k, c, n, rfl⟩ := href
  obtain ⟨x, σ1, h1, hd1⟩ := Does.bind hd
  obtain ⟨rfl, rfl⟩ := Does.gt h1
  obtain ⟨_, σ2, h2, hd2⟩ := Does.bind hd1
  obtain ⟨hk, h2'⟩ := Does.must h2
  rw [h2'] at hd2
  obtain ⟨d, σ3, h3, hd3⟩ := Does.bind hd2
  obtain ⟨hd', h3'⟩ := Does.of h3
  rw [h3'] at hd3
  simp only [if_true] at hd3
  obtain ⟨_, σ4, h4, hd4⟩ := Does.bind hd3
  have hσ := Does.st h4
  obtain ⟨rfl, h5⟩ := Does.pure hd4
  rw [h5, hσ]
  clear hd1 hd2 hd3 hd4 h1 h2 h3 h4 h5 hd hσ
  have hr := hv.2 (by have := Nat.eq_of_beq_eq_true hk; omega)
  have hcells := h.refd hr hd'
  have hall : ∃ vs : List Value, COs w K who p c vs d.cells ∧ (∀ j, j < d.cells.length → cellAt p (σ1 p) (c + j) = d.cells[j]?) ∧ (∀ j, j < d.cells.length → rcell m a w p (c + j) = vs[j]?) ∧ 0 < d.cells.length ∧
    vs = (if d.form then v.cells.toList else [v]) ∧ (d.form = true → v = .agg vs.toArray) := by
   cases n with
   | none =>
    obtain ⟨g1, g2, g3⟩ := hcells
    have hf := form_cell g1.one.2
    have e1 : d.cells = [d] := form_cells hf
    refine ⟨[v], by rw [e1]; exact .cons g1 .nil, ?_, ?_, by rw [e1]; simp, by simp [hf], fun e => by rw [hf] at e; cases e⟩
    ·rw [e1]; intro j hj; have : j = 0 := by simpa using hj
     subst this; simpa using g2
    ·rw [e1]; intro j hj; have : j = 0 := by simpa using hj
     subst this; simpa using g3
   | some n =>
    obtain ⟨vs, ds, rfl, rfl, hl, g1, g2, g3⟩ := hcells
    exact ⟨vs, g1, fun j hj => g2 j (by simp [DV.cells] at hj; omega), fun j hj => g3 j (by simp [DV.cells] at hj; omega), by simp [DV.cells]; omega, by simp [DV.form, Value.cells], fun _ => rfl⟩
  obtain ⟨vs, hcs, hca, hrc, hpos, hv1, hv2⟩ := hall
  clear hcells
  have hlen := hcs.length
  have hA : SRel nt Fr H0 m K who (σ1.put p (leaveD p (σ1 p) c d.cells.length)) a w ∧ ∀ cc, c ≤ cc → cc < c + d.cells.length → ownedAt (leaveD p (σ1 p) c d.cells.length).vs p cc = false := by
   cases p with
   | t t => exact ⟨h.repT (.inl (Nat.lt_succ_self _)) trivial ⟨(fun _ _ _ _ => by simp), (fun _ _ _ _ _ => by simp)⟩, fun cc _ _ => rfl⟩
   | o i =>
    have hlive : (σ1 (.o i)).live = true := by
     have h0 := hrc 0 hpos
     rw [List.getElem?_eq_getElem (by omega)] at h0
     exact rcell_live h h0 i rfl
    obtain ⟨b, cs, el, q1, q2, q3⟩ := h.ob i hlive
    have hle : c + d.cells.length ≤ (σ1 (.o i)).vs.length := by
     have g1 := hca (d.cells.length - 1) (by omega)
     rw [List.getElem?_eq_getElem (l := d.cells) (by omega)] at g1
     simp only [cellAt] at g1
     split at g1
     ·rename_i d' hd''
      have := (List.getElem?_eq_some_iff.1 hd'').1; omega
     ·cases g1
    have hle' : c + (List.replicate d.cells.length AV.dead).length ≤ (σ1 (.o i)).vs.length := by simpa using hle
    have e1 : (leaveD (.o i) (σ1 (.o i)) c d.cells.length) = ⟨setRange (σ1 (.o i)).vs c (List.replicate d.cells.length .dead), true, (σ1 (.o i)).k + 1⟩ := by simp [leaveD]
    rw [e1]
    refine ⟨h.repO hlive q1 q2 (fun _ _ => rfl) (WSame.refl _) (.inl (Nat.lt_succ_self _)) ?_, fun cc g1 g2 => leave_owned i rfl hle g1 g2⟩
    refine BReps.of_get (by rw [setRange_length hle']; exact q3.length) fun j u e' hu he' => ?_
    rw [setRange_get hle'] at he'
    split at he'
    ·rename_i hin
     rw [List.getElem?_replicate] at he'
     split at he'
     ·cases he'
      obtain ⟨e0, he0⟩ : ∃ e0, (σ1 (.o i)).vs[j]? = some e0 := ⟨_, List.getElem?_eq_getElem (by simp at hin; omega)⟩
      exact ⟨(q3.get2 hu he0).1, trivial⟩
     ·cases he'
    ·exact q3.get2 hu he'
  refine ⟨whoMove who p c d.cells.length q c', ?_, fun q' hq b c'' hb => ?_, ⟨vs, hcs.move (Nat.le_refl _), hv1, hv2⟩, rfl⟩
  ·refine hA.1.turn (Of who p c d.cells.length) (fun b ⟨cc, hb, hc1, hc2⟩ => ⟨(h.but hb).fr, (h.but hb).m, (h.but hb).K, fun p' cc' hb' => ?_⟩) (Kn.le.refl K) (fun b o u hu => ?_) (fun _ _ _ => rfl) (fun b hb => whoMove_out hb) (fun b x hb => ?_) (WSame.refl _)
   ·rw [hb] at hb'; cases hb'
    rw [St.put_same]; exact hA.2 cc hc1 hc2
   ·obtain ⟨g1, g2⟩ := h.kv b o u hu
    exact ⟨by rw [whoMove_out (fun ⟨cc, g, _⟩ => by rw [g1] at g; cases g)]; exact g1, g2⟩
   ·cases hw : who b with
    | none => rw [whoMove_out (fun ⟨cc, g, _⟩ => by rw [hw] at g; cases g), hw] at hb; cases hb
    | some y => exact h.wh b y hw
  ·rw [whoMove_out (fun ⟨cc, g, _⟩ => by rw [hb] at g; cases g; exact hq k c n rfl)]; exact hb
 ·have hp : z = y ∧ σ' = σ := by
   cases y <;> first | exact Does.pure hd | exact absurd ⟨_, _, _, _, rfl⟩ href
  obtain ⟨rfl, rfl⟩ := hp
  refine ⟨who, h, fun _ _ _ _ hb => hb, ?_, ?_⟩
  ·cases z with
   | data d => exact FRep.of_urep hv.2
   | _ => exact hv
  ·cases z <;> first | rfl | exact absurd ⟨_, _, _, _, rfl⟩ href
end
end Go.Proofs.Ytknkeabmjleoiaa.Vam
/- The machine by value and the model: the plain operations. -/
namespace Go.Proofs.Ytknkeabmjleoiaa.Vam
open Go
set_option linter.unusedVariables false
section
variable {P : Program} {O : Nat → Nat} {C : Query → Answer → Prop} {nt : Nat} {Fr : Nat → Prop} {H0 : Hd} {m0 : Om} {K0 : Kn} {σ σ' : St} {a : Act} {w : World}

def Ok (nt : Nat) (Fr : Nat → Prop) (H0 : Hd) (m0 : Om) (K0 : Kn) (σ : St) (a : Act) (w : World) : Prop :=
 ∃ m K who, SRel nt Fr H0 m K who σ a w ∧ K0.le K ∧ ∀ i b, 1000 ≤ i → i < 2000 → m i = some b → m0 i = some b

theorem wp_val {o : Oper} {v : Value} {w' : World} {Kk : Act → World → Prop} {Q : Exit → Act → World → Prop} (hr : (execOp a.eval o).run P w = .ok (.value v) w') (hk : Kk (a.put o.dst v) w') : o.wp P a w Kk Q := by
 unfold Oper.wp; rw [hr]; exact hk
theorem wp_skp {o : Oper} {w' : World} {Kk : Act → World → Prop} {Q : Exit → Act → World → Prop} (hr : (execOp a.eval o).run P w = .ok .skip w') (hk : Kk (a.put o.dst undef) w') : o.wp P a w Kk Q := by
 unfold Oper.wp; rw [hr]; exact hk

theorem Does.putT {d : Option Tmp} {x : AV} {u : Unit} (h : Does C (putT d x) σ u σ') : (d = none ∧ σ' = σ) ∨ ∃ t, d = some t ∧ σ' = σ.put (.t t) ⟨[x], true, (σ (.t t)).k + 1⟩ := by
 cases d with
 | none => obtain ⟨_, h2⟩ := Does.pure h; exact .inl ⟨rfl, h2⟩
 | some t =>
  obtain ⟨c, σ1, h1, h2⟩ := Does.bind h
  obtain ⟨rfl, rfl⟩ := Does.gt h1
  exact .inr ⟨t, rfl, Does.st h2⟩
section
variable {m : Om} {K : Kn} {who : Who}
theorem DRep.of_urep {t : Nat} {v : Value} {d : DV} (h : URep K v d) : DRep w K who (.t t) v d := by
 cases d with
 | agg ds => obtain ⟨vs, rfl, h⟩ := h; exact ⟨vs, rfl, COs.of_get h.length fun j v d hv hd => CO.ofC (h.get2 hv hd)⟩
 | _ => exact CO.ofC h
theorem VRep.arep {t : Nat} {v : Value} {x : AV} (h : VRep σ a w m K v x) : ARep w m K who (.t t) v x := by
 cases x with
 | data d => exact DRep.of_urep h.2
 | dead => trivial
 | ref _ _ _ _ => trivial
 | eptr _ _ _ _ _ => trivial
 | cptr _ => exact h
 | tup _ => exact h
 | fn _ _ _ => exact h
 | ifc _ _ => exact h
 | ptr _ _ => exact h
 | orow _ _ => exact h
theorem SRel.putV (h : SRel nt Fr H0 m K who σ a w) {t : Nat} (ht : t < nt) {x : AV} {v : Value} (hx : VRep σ a w m K v x) :
  SRel nt Fr H0 m K who (σ.put (.t t) ⟨[x], true, (σ (.t t)).k + 1⟩) (a.put (some t) v) w :=
 h.put ht (Nat.lt_succ_self _) hx.arep (fun p k' c n e => by subst e; exact ⟨hx.1, fun g _ => hx.2 g⟩) (fun p k' c i j e => by subst e; exact ⟨hx.1, fun g _ => hx.2 g⟩)
theorem SRel.putF (h : SRel nt Fr H0 m K who σ a w) {t : Nat} (ht : t < nt) {x : AV} {v : Value} (hx : FRep w m K who σ a (.t t) 0 v x) :
  SRel nt Fr H0 m K who (σ.put (.t t) ⟨[x], true, (σ (.t t)).k + 1⟩) (a.put (some t) v) w := by
 cases x with
 | data d =>
  refine h.put ht (Nat.lt_succ_self _) ?_ (fun _ _ _ _ e => by cases e) (fun _ _ _ _ _ e => by cases e)
  obtain ⟨vs, h1, h2, h3⟩ := hx
  cases d with
  | agg ds => exact ⟨vs, h3 rfl, h1⟩
  | hole =>
   simp only [DV.form, Bool.false_eq_true, if_false] at h2
   subst h2
   cases h1 with
   | cons g _ => exact g
  | rm _ _ _ =>
   simp only [DV.form, Bool.false_eq_true, if_false] at h2
   subst h2
   cases h1 with
   | cons g _ => exact g
  | capv _ =>
   simp only [DV.form, Bool.false_eq_true, if_false] at h2
   subst h2
   cases h1 with
   | cons g _ => exact g
  | mp kd es =>
   simp only [DV.form, Bool.false_eq_true, if_false] at h2
   subst h2
   cases h1 with
   | cons g _ => exact g
  | val x =>
   simp only [DV.form, Bool.false_eq_true, if_false] at h2
   subst h2
   cases h1 with
   | cons g _ => exact g
  | slc o nl sz es =>
   simp only [DV.form, Bool.false_eq_true, if_false] at h2
   subst h2
   cases h1 with
   | cons g _ => exact g
 | _ => exact h.putV ht hx
end
theorem SRel.endV {m : Om} {K : Kn} {who : Who} (h : SRel nt Fr H0 m K who σ a w) {d : Option Tmp} (hd : ∀ t, d = some t → t < nt) {x : AV} {v : Value} {u : Unit} (hx : VRep σ a w m K v x) (hp : Does C (putT d x) σ u σ') :
  SRel nt Fr H0 m K who σ' (a.put d v) w := by
 rcases Does.putT hp with ⟨rfl, rfl⟩ | ⟨t, rfl, rfl⟩
 ·exact h
 ·exact h.putV (hd t rfl) hx

theorem norm_data (t : TypeId) (x : AV) : (∃ own nl sz es, x = .data (.slc own nl sz es) ∧ ∃ sz', norm P t x = .data (.slc own none sz' es) ∧ (sz' = sz ∨ nl = some true)) ∨ norm P t x = x := by
 cases x with
 | data d =>
  cases d with
  | slc own nl sz es =>
   left
   refine ⟨own, nl, sz, es, rfl, ?_⟩
   cases hE : elemT P t with
   | none => exact ⟨sz, by simp [norm, hE], .inl rfl⟩
   | some e =>
    cases hZ : sameSz P e sz with
    | true => exact ⟨sz, by simp [norm, hE, hZ], .inl rfl⟩
    | false =>
    cases hS : szT P e with
    | none => exact ⟨sz, by cases nl with
      | none => simp [norm, hE, hZ]
      | some b => cases b <;> simp [norm, hE, hS, hZ], .inl rfl⟩
    | some s =>
     cases nl with
     | none => exact ⟨sz, by simp [norm, hE, hZ], .inl rfl⟩
     | some b =>
      cases b with
      | true => exact ⟨s, by simp [norm, hE, hS, hZ], .inr rfl⟩
      | false => exact ⟨sz, by simp [norm, hE, hZ], .inl rfl⟩
  | _ => right; rfl
 | _ => right; rfl
theorem CRep.norm {K : Kn} {v : Value} {own : Bool} {nl : Option Bool} {sz sz' : Nat} {es : List (List DV)} (h : CRep K v (.slc own nl sz es)) (hs : sz' = sz ∨ nl = some true) : CRep K v (.slc own none sz' es) := by
 cases h with
 | nil _ => exact .nil (by simp)
 | empty _ => exact .empty (by simp)
 | slc us h1 h2 h3 h4 h5 =>
  rcases hs with rfl | g
  ·exact .slc us (by simp) h2 h3 h4 h5
  ·exact absurd g h1
theorem ORep.norm {K : Kn} {who : Who} {p : Pl} {c : Nat} {v : Value} {own : Bool} {nl : Option Bool} {sz sz' : Nat} {es : List (List DV)} (h : ORep w K who p c v (.slc own nl sz es)) (hs : sz' = sz ∨ nl = some true) : ORep w K who p c v (.slc own none sz' es) := by
 cases h with
 | nil _ => exact .nil (by simp)
 | empty _ => exact .empty (by simp)
 | slc h1 h2 h3 h4 h5 h6 =>
  rcases hs with rfl | g
  ·exact .slc (by simp) h2 h3 h4 h5 h6
  ·exact absurd g h1
theorem VRep.norm {m : Om} {K : Kn} {v : Value} {x : AV} (t : TypeId) (h : VRep σ a w m K v x) : VRep σ a w m K v (norm P t x) := by
 rcases norm_data (P := P) t x with ⟨own, nl, sz, es, rfl, sz', h1, h2⟩ | h1
 ·rw [h1]
  refine ⟨?_, CRep.norm h.2 h2⟩
  have := h.1
  cases own <;> simp_all [DV.owned]
 ·rw [h1]; exact h
theorem FRep.norm {m : Om} {K : Kn} {who : Who} {q : Pl} {c : Nat} {v : Value} {x : AV} (t : TypeId) (h : FRep w m K who σ a q c v x) : FRep w m K who σ a q c v (norm P t x) := by
 rcases norm_data (P := P) t x with ⟨own, nl, sz, es, rfl, sz', h1, h2⟩ | h1
 ·rw [h1]
  obtain ⟨vs, g1, g2, g3⟩ := h
  refine ⟨vs, ?_, g2, fun e => by cases e⟩
  simp only [DV.form, Bool.false_eq_true, if_false] at g2
  subst g2
  cases g1 with
  | cons g _ =>
   cases own with
   | true => exact .cons ⟨fun e => by simp [DV.owned1] at e, fun e => ORep.norm (g.2 rfl) h2⟩ .nil
   | false => exact .cons ⟨fun e => CRep.norm (g.1 rfl) h2, fun e => by simp [DV.owned1] at e⟩ .nil
 ·rw [h1]; exact h

theorem normS_data (t : TypeId) (x : AV) : (∃ own nl sz es, x = .data (.slc own nl sz es) ∧ ∃ sz', normS P t x = .data (.slc own nl sz' es) ∧ (sz' = sz ∨ nl = some true)) ∨ normS P t x = x := by
 cases x with
 | data d =>
  cases d with
  | slc own nl sz es =>
   left
   refine ⟨own, nl, sz, es, rfl, ?_⟩
   cases hE : elemT P t with
   | none => exact ⟨sz, by simp [normS, hE], .inl rfl⟩
   | some e =>
    cases hZ : sameSz P e sz with
    | true => exact ⟨sz, by simp [normS, hE, hZ], .inl rfl⟩
    | false =>
    cases hS : szT P e with
    | none => exact ⟨sz, by cases nl with
      | none => simp [normS, hE, hZ]
      | some b => cases b <;> simp [normS, hE, hS, hZ], .inl rfl⟩
    | some s =>
     cases nl with
     | none => exact ⟨sz, by simp [normS, hE, hZ], .inl rfl⟩
     | some b =>
      cases b with
      | true => exact ⟨s, by simp [normS, hE, hS, hZ], .inr rfl⟩
      | false => exact ⟨sz, by simp [normS, hE, hZ], .inl rfl⟩
  | _ => right; rfl
 | _ => right; rfl
theorem CRep.normS {K : Kn} {v : Value} {own : Bool} {nl : Option Bool} {sz sz' : Nat} {es : List (List DV)} (h : CRep K v (.slc own nl sz es)) (hs : sz' = sz ∨ nl = some true) : CRep K v (.slc own nl sz' es) := by
 rcases hs with rfl | rfl
 ·exact h
 ·cases h with
  | nil _ => exact .nil (by simp)
  | empty g => exact absurd rfl g
  | slc us h1 h2 h3 h4 h5 => exact absurd rfl h1
theorem ORep.normS {K : Kn} {who : Who} {p : Pl} {c : Nat} {v : Value} {own : Bool} {nl : Option Bool} {sz sz' : Nat} {es : List (List DV)} (h : ORep w K who p c v (.slc own nl sz es)) (hs : sz' = sz ∨ nl = some true) : ORep w K who p c v (.slc own nl sz' es) := by
 rcases hs with rfl | rfl
 ·exact h
 ·cases h with
  | nil _ => exact .nil (by simp)
  | empty g => exact absurd rfl g
  | slc h1 h2 h3 h4 h5 h6 => exact absurd rfl h1
theorem VRep.normS {m : Om} {K : Kn} {v : Value} {x : AV} (t : TypeId) (h : VRep σ a w m K v x) : VRep σ a w m K v (normS P t x) := by
 rcases normS_data (P := P) t x with ⟨own, nl, sz, es, rfl, sz', h1, h2⟩ | h1
 ·rw [h1]
  refine ⟨?_, CRep.normS h.2 h2⟩
  have := h.1
  cases own <;> simp_all [DV.owned]
 ·rw [h1]; exact h
theorem FRep.normS {m : Om} {K : Kn} {who : Who} {q : Pl} {c : Nat} {v : Value} {x : AV} (t : TypeId) (h : FRep w m K who σ a q c v x) : FRep w m K who σ a q c v (normS P t x) := by
 rcases normS_data (P := P) t x with ⟨own, nl, sz, es, rfl, sz', h1, h2⟩ | h1
 ·rw [h1]
  obtain ⟨vs, g1, g2, g3⟩ := h
  refine ⟨vs, ?_, g2, fun e => by cases e⟩
  simp only [DV.form, Bool.false_eq_true, if_false] at g2
  subst g2
  cases g1 with
  | cons g _ =>
   cases own with
   | true => exact .cons ⟨fun e => by simp [DV.owned1] at e, fun e => ORep.normS (g.2 rfl) h2⟩ .nil
   | false => exact .cons ⟨fun e => CRep.normS (g.1 rfl) h2, fun e => by simp [DV.owned1] at e⟩ .nil
 ·rw [h1]; exact h

theorem VRep.mono {m m' : Om} {K K' : Kn} (hm : m.le m') (hK : K.le K') {v : Value} {x : AV} (hr : x.isRef = false) (he : ∀ p k c i j, x ≠ .eptr p k c i j) (h : VRep σ a w m K v x) {σ1 : St} {a1 : Act} {w1 : World} : VRep σ1 a1 w1 m' K' v x := by
 cases x with
 | data d => exact ⟨h.1, h.2.mono hK⟩
 | dead => trivial
 | ref _ _ _ _ => cases hr
 | eptr _ _ _ _ _ => exact absurd rfl (he _ _ _ _ _)
 | cptr ch => obtain ⟨b, off, h0, h1⟩ := h; exact ⟨b, off, h0, fun j d hj => let ⟨u, hu, hc⟩ := h1 j d hj; ⟨u, hK _ _ _ hu, hc.mono hK⟩⟩
 | tup xs => obtain ⟨vs, h0, h1⟩ := h; exact ⟨vs, h0, h1.mono fun _ _ h => h.mono hm hK⟩
 | fn f a b => exact ARep1.mono (x := .fn f a b) hm hK h
 | ifc t x => exact ARep1.mono (x := .ifc t x) hm hK h
 | ptr i off => exact ARep1.mono (x := .ptr i off) hm hK h
 | orow i n => obtain ⟨b, h0, h1⟩ := h; exact ⟨b, hm _ _ h0, h1⟩

theorem FRep.ownN {m : Om} {K : Kn} {who : Who} {q : Pl} {c : Nat} {v : Value} {x : AV} (h : FRep w m K who σ a q c v x) : FRep w m K who σ a q c v (ownN true x) := by
 unfold Vam.ownN
 split
 ·rename_i sz
  obtain ⟨vs, g1, g2, g3⟩ := h
  refine ⟨vs, ?_, g2, fun e => by cases e⟩
  cases g1 with
  | cons g g' =>
   cases g' with
   | nil =>
    refine .cons ⟨fun e => by simp [DV.owned1] at e, fun _ => ?_⟩ .nil
    cases g.1 rfl with
    | nil _ => exact .nil (by simp)
    | empty hn => exact absurd rfl hn
    | slc _ hn _ _ _ _ => exact absurd rfl hn
 ·exact h
theorem ownN_false (x : AV) : ownN false x = x := by
 unfold ownN
 split <;> rfl
theorem SRel.takePut {m : Om} {K : Kn} {who : Who} (h : SRel nt Fr H0 m K who σ a w) {d : Option Tmp} (hd : ∀ t, d = some t → t < nt) {y : AV} {v : Value} {u : Unit} {keep : Bool} {t : TypeId} (hv : VRep σ a w m K v y)
  (hp : Does C (do putT d (normS P t (← take keep y))) σ u σ') : ∃ K' who', SRel nt Fr H0 m K' who' σ' (a.put d v) w ∧ K.le K' := by
 obtain ⟨z, σ1, h1, h2⟩ := Does.bind hp
 cases keep with
 | false =>
  obtain ⟨K', who', g1, g2, g3, g4, g5⟩ := h.take0 hv h1
  exact ⟨K', who', g1.endV hd (g4.normS t) h2, g2⟩
 | true =>
  obtain ⟨who', g1, g3, g4, g5⟩ := h.take1 hv h1 (.t (d.getD 0)) 0
  refine ⟨K, who', ?_, Kn.le.refl K⟩
  rcases Does.putT h2 with ⟨rfl, rfl⟩ | ⟨t', rfl, rfl⟩
  ·exact g1
  ·exact g1.putF (hd t' rfl) (g4.normS t)
theorem SRel.takePutN {m : Om} {K : Kn} {who : Who} (h : SRel nt Fr H0 m K who σ a w) {d : Option Tmp} (hd : ∀ t, d = some t → t < nt) {y : AV} {v : Value} {u : Unit} {keep : Bool} {t : TypeId} (hv : VRep σ a w m K v y)
  (hp : Does C (do putT d (normS P t (ownN keep (← take keep y)))) σ u σ') : ∃ K' who', SRel nt Fr H0 m K' who' σ' (a.put d v) w ∧ K.le K' := by
 cases keep with
 | false => simp only [ownN_false] at hp; exact h.takePut hd hv hp
 | true =>
  obtain ⟨z, σ1, h1, h2⟩ := Does.bind hp
  obtain ⟨who', g1, g3, g4, g5⟩ := h.take1 hv h1 (.t (d.getD 0)) 0
  refine ⟨K, who', ?_, Kn.le.refl K⟩
  rcases Does.putT h2 with ⟨rfl, rfl⟩ | ⟨t', rfl, rfl⟩
  ·exact g1
  ·exact g1.putF (hd t' rfl) (g4.ownN.normS t)
end
end Go.Proofs.Ytknkeabmjleoiaa.Vam
/- The machine by value and the model: numbers, tests, texts. -/
namespace Go.Proofs.Ytknkeabmjleoiaa.Vam
open Go
set_option linter.unusedVariables false
set_option linter.unusedSimpArgs false
section
variable {P : Program} {O : Nat → Nat} {C : Query → Answer → Prop} {nt : Nat} {Fr : Nat → Prop} {H0 : Hd} {σ σ' : St} {a : Act} {w : World}

def Mp (m m' : Om) : Prop := ∀ i b, 1000 ≤ i → i < 2000 → m' i = some b → m i = some b
theorem Mp.refl (m : Om) : Mp m m := fun _ _ _ _ h => h
def OpOk (P : Program) (O : Nat → Nat) (C : Query → Answer → Prop) (nt : Nat) (Fr : Nat → Prop) (H0 : Hd) (o : Oper) : Prop :=
 ∀ (m : Om) (K : Kn) (who : Who) (σ σ' : St) (a : Act) (w : World) (u : Unit) (Q : Exit → Act → World → Prop) (Kk : Act → World → Prop), SRel nt Fr H0 m K who σ a w → (∀ t, o.dst = some t → t < nt) →
  Does C (opPr P O o) σ u σ' → (∀ m' K' who' a' w', SRel nt Fr H0 m' K' who' σ' a' w' → K.le K' → Mp m m' → Kk a' w') → o.wp P a w Kk Q

theorem run_bind {α β : Type} {s : Sem α} {f : α → Sem β} {x : α} {w' : World} (h : s.run P w = .ok x w') : (s >>= f).run P w = (f x).run P w' := by
 rw [Sem.run_bind, h]; rfl

theorem urep_val {K : Kn} {v x : Value} (h : URep K v (.val x)) : v = x := by cases h with
 | val _ => rfl

theorem op_move {o : Oper} {x : Operand} (ho : o.op = .move x) : OpOk P O C nt Fr H0 o := by
 intro m K who σ σ' a w u Q Kk h hdst hd hk
 simp only [opPr, ho] at hd
 obtain ⟨y, σ1, h1, h2⟩ := Does.bind hd
 obtain ⟨rfl, hv⟩ := h.opd h1
 have hr : (execOp a.eval o).run P w = .ok (.value (a.eval x)) w := by simp [execOp, ho]
 refine wp_val hr ?_
 split at h2
 ·exact hk _ _ _ _ _ (h.endV hdst hv h2) (Kn.le.refl K) (Mp.refl m)
 ·obtain ⟨K', who', g1, g2⟩ := h.takePut hdst hv h2
  exact hk _ _ _ _ _ g1 g2 (Mp.refl m)
theorem op_assign {o : Oper} {x : Operand} (ho : o.op = .assign x) : OpOk P O C nt Fr H0 o := by
 intro m K who σ σ' a w u Q Kk h hdst hd hk
 simp only [opPr, ho] at hd
 obtain ⟨y, σ1, h1, h2⟩ := Does.bind hd
 obtain ⟨rfl, hv⟩ := h.opd h1
 have hr : (execOp a.eval o).run P w = .ok (.value (a.eval x)) w := by simp [execOp, ho]
 refine wp_val hr ?_
 obtain ⟨K', who', g1, g2⟩ := h.takePutN hdst hv h2
 exact hk _ _ _ _ _ g1 g2 (Mp.refl m)
theorem op_pick {o : Oper} {c x y : Operand} (ho : o.op = .pick c x y) : OpOk P O C nt Fr H0 o := by
 intro m K who σ σ' a w u Q Kk h hdst hd hk
 simp only [opPr, ho] at hd
 obtain ⟨z, σ1, h1, h2⟩ := Does.bind hd
 obtain ⟨e1, hv1⟩ := h.opd h1
 rw [e1] at h2
 obtain ⟨d, σ2, h3, h4⟩ := Does.bind h2
 obtain ⟨e2, hv2⟩ := h.view hv1 h3
 rw [e2] at h4
 cases d with
 | val v =>
  cases v with
  | bool t =>
   have h5 := Does.askB h4
   have ht := urep_val hv2
   have hr : (execOp a.eval o).run P w = .ok (.value (if t then a.eval x else a.eval y)) w := by
    simp only [execOp, ho, ht]
    rfl
   refine wp_val hr ?_
   cases t with
   | true =>
    simp only [if_true] at h5 ⊢
    obtain ⟨z2, σ3, h6, h7⟩ := Does.bind h5
    obtain ⟨e3, hv3⟩ := h.opd h6
    rw [e3] at h7
    exact hk _ _ _ _ _ (h.endV hdst hv3 h7) (Kn.le.refl K) (Mp.refl m)
   | false =>
    simp only [Bool.false_eq_true, if_false] at h5 ⊢
    obtain ⟨z2, σ3, h6, h7⟩ := Does.bind h5
    obtain ⟨e3, hv3⟩ := h.opd h6
    rw [e3] at h7
    exact hk _ _ _ _ _ (h.endV hdst hv3 h7) (Kn.le.refl K) (Mp.refl m)
  | _ => exact (Does.fail h4).elim
 | _ => exact (Does.fail h4).elim

theorem vrep_val {m : Om} {K : Kn} {v : Value} (h : scV v = true) : VRep σ a w m K v (.data (.val v)) := ⟨rfl, CRep.val h⟩

theorem gd_int (op : BinOp) (t : TypeId) (X Y : Operand) (k k' : IntKind) (p q : Int) (w : World) : (eqGuard op t X Y (.int k p) (.int k' q)).run P w = .ok () w := by cases op <;> rfl
theorem gd_str (op : BinOp) (t : TypeId) (X Y : Operand) (p q : ByteArray) (w : World) : (eqGuard op t X Y (.string p) (.string q)).run P w = .ok () w := by cases op <;> rfl
theorem gd_bool (op : BinOp) (t : TypeId) (X Y : Operand) (p q : Bool) (w : World) : (eqGuard op t X Y (.bool p) (.bool q)).run P w = .ok () w := by cases op <;> rfl
theorem gd_slc (op : BinOp) (t : TypeId) (X Y : Operand) (p q : Option Addr) (n c n' c' : Nat) (w : World) : (eqGuard op t X Y (.slice p n c) (.slice q n' c')).run P w = .ok () w := by cases op <;> rfl
theorem binV_run {op : BinOp} {x y v : Value} (h : Does C (binV op x y) σ v σ') : σ' = σ ∧ scV v = true ∧ ∀ (t : TypeId) (X Y : Operand) (w : World), (do eqGuard op t X Y x y; binOp op t x y : Sem Value).run P w = .ok v w := by
 cases x with
 | int k p =>
  cases y with
  | int k' q =>
   have key : ∀ {v : Value}, (∀ (t : TypeId) (w : World), (binOp op t (.int k p) (.int k' q)).run P w = .ok v w) → ∀ (t : TypeId) (X Y : Operand) (w : World), (do eqGuard op t X Y (.int k p) (.int k' q); binOp op t (.int k p) (.int k' q) : Sem Value).run P w = .ok v w := fun hb t X Y w => by
    rw [run_bind (gd_int op t X Y k k' p q w)]; exact hb t w
   cases op
   case shl | shr =>
    simp only [binV] at h
    obtain ⟨_, σ1, h1, h2⟩ := Does.bind h
    obtain ⟨e1, rfl⟩ := Does.need h1
    obtain ⟨rfl, rfl⟩ := Does.pure h2
    refine ⟨rfl, rfl, key fun t w => ?_⟩
    have : ¬ q < 0 := by have := of_decide_eq_true e1; omega
    simp only [binOp, Op.shift, if_neg this]; rfl
   all_goals
    simp only [binV] at h
    obtain ⟨_, σ1, h1, h2⟩ := Does.bind h
    obtain ⟨e1, e2⟩ := Does.must h1
    have e3 : k = k' := of_decide_eq_true e1
    subst e3
    subst e2
   case quo | rem =>
    obtain ⟨_, σ2, h3, h4⟩ := Does.bind h2
    obtain ⟨e4, e5⟩ := Does.need h3
    subst e5
    obtain ⟨rfl, rfl⟩ := Does.pure h4
    refine ⟨rfl, rfl, key fun t w => ?_⟩
    have : ¬ q = 0 := by simpa using e4
    simp only [binOp, Op.intDiv, ne_eq, not_true_eq_false, if_false, if_neg this]; rfl
   all_goals
    first
    | exact (Does.fail h2).elim
    | (obtain ⟨rfl, rfl⟩ := Does.pure h2
       refine ⟨rfl, rfl, key fun t w => ?_⟩
       simp only [binOp, Op.intArith, Op.intBits, Op.intCmp, ne_eq, not_true_eq_false, if_false]; rfl)
  | _ => cases op <;> exact (Does.fail h).elim
 | string s =>
  cases y with
  | string u =>
   have key : ∀ {v : Value}, (∀ (t : TypeId) (w : World), (binOp op t (.string s) (.string u)).run P w = .ok v w) → ∀ (t : TypeId) (X Y : Operand) (w : World), (do eqGuard op t X Y (.string s) (.string u); binOp op t (.string s) (.string u) : Sem Value).run P w = .ok v w := fun hb t X Y w => by
    rw [run_bind (gd_str op t X Y s u w)]; exact hb t w
   cases op
   case add =>
    simp only [binV] at h
    obtain ⟨_, σ1, h1, h2⟩ := Does.bind h
    obtain ⟨e1, rfl⟩ := Does.need h1
    obtain ⟨rfl, rfl⟩ := Does.pure h2
    refine ⟨rfl, rfl, key fun t w => ?_⟩
    have e2 : s.size + u.size ≤ 9223372036854775807 := of_decide_eq_true e1
    have : ¬ ((s.size + u.size : Nat) : Int) > IntKind.i64.max := by
     have : IntKind.i64.max = 9223372036854775807 := by decide
     rw [this]; omega
    simp only [binOp, Op.stringOp, if_neg this]; rfl
   all_goals
    simp only [binV] at h
    first
    | exact (Does.fail h).elim
    | (obtain ⟨rfl, rfl⟩ := Does.pure h
       refine ⟨rfl, rfl, key fun t w => ?_⟩
       simp only [binOp, Op.stringOp]; rfl)
  | _ => cases op <;> exact (Does.fail h).elim
 | _ => cases op <;> first | exact (Does.fail h).elim | (cases y <;> exact (Does.fail h).elim)

def flatD : TypeDesc → Bool
 | .struct _ | .array _ _ => false
 | _ => true
theorem eqC_run {K K' : Kn} {x y : DV} {u v : Value} {b : Bool} {D : TypeDesc} (hx : CRep K u x) (hy : CRep K' v y) (h : eqC D x y = some b) {t : TypeId} (ht : P.underlying t = some D) {d : Nat} (w : World) :
  (Op.equalIn (d + 1) t u v).run P w = .ok b w ∧ oneC u = true ∧ flatD D = true := by
 refine ⟨?_, hx.one.1, ?_⟩
 ·cases x with
  | val x =>
   cases y with
   | val y =>
    have hu := urep_val (K := K) hx
    have hv := urep_val (K := K') hy
    subst hu; subst hv
    unfold eqC at h
    split at h
    ·rename_i e1 e2; cases e1; cases e2; cases h; exact run_equalIn_bool w d t _ _ ht
    ·rename_i e1 e2; cases e1; cases e2
     split at h
     ·rename_i hk; subst hk; cases h; exact run_equalIn_int w d t _ _ _ _ ht
     ·cases h
    ·rename_i e1 e2; cases e1; cases e2; cases h; exact run_equalIn_string w d t _ _ ht
    ·cases h
   | _ => cases D <;> simp [eqC] at h
  | _ => cases D <;> simp [eqC] at h
 ·unfold eqC at h
  split at h <;> first | rfl | cases h
theorem part_run {t : TypeId} {D : TypeDesc} (ht : P.underlying t = some D) (hD : flatD D = true) {vs : List Value} {n : Nat} {v : Value} (hv : vs[n]? = some v) (w : World) :
  (part t vs.toArray n).run P w = .ok v w := by
 unfold part isAgg
 rw [run_bind (x := false) (w' := w) (by rw [run_bind (run_underlying ht w)]; cases D <;> first | rfl | cases hD)]
 simp [hv]
theorem eqCs_run {K K' : Kn} {vs us : List Value} {d : Nat} (w : World) : ∀ (fs : List Field) (n : Nat) (xs ys : List DV) (b : Bool), eqFs n fs = true → All2 (CRep K) (vs.drop n) xs → All2 (CRep K') (us.drop n) ys → eqCs P fs xs ys = some b →
  (Op.eqFields (d + 1) vs.toArray us.toArray fs).run P w = .ok b w
 | [], n, xs, ys, b, _, _, _, h => by
  cases xs <;> cases ys <;> simp [eqCs] at h
  subst h; rfl
 | f :: fs, n, xs, ys, b, hf, hx, hy, h => by
  cases xs with
  | nil => simp [eqCs] at h
  | cons x xs =>
   cases ys with
   | nil => simp [eqCs] at h
   | cons y ys =>
    simp only [eqFs, Bool.and_eq_true] at hf
    obtain ⟨⟨hn, ho⟩, hf⟩ := hf
    have ho : f.offset = n := Nat.eq_of_beq_eq_true ho
    simp only [eqCs, Option.bind_eq_bind, Option.bind_eq_some_iff] at h
    obtain ⟨D, hD, c, hc, r, hr, e⟩ := h
    cases e
    obtain ⟨u, hu, hux⟩ := hx.get (i := 0) rfl
    obtain ⟨v, hv, hvy⟩ := hy.get (i := 0) rfl
    rw [List.getElem?_drop, Nat.add_zero] at hu hv
    obtain ⟨g1, g2, g3⟩ := eqC_run (d := d) hux hvy hc hD w
    have hx' : All2 (CRep K) (vs.drop (n + 1)) xs := by
     have := hx.drop 1; simpa using this
    have hy' : All2 (CRep K') (us.drop (n + 1)) ys := by
     have := hy.drop 1; simpa using this
    have ih := eqCs_run (d := d) w fs (n + 1) xs ys r hf hx' hy' hr
    have hne : f.name ≠ "_" := by simpa using hn
    simp only [Op.eqFields, if_pos hne, ho]
    rw [run_bind (part_run hD g3 hu w), run_bind (part_run hD g3 hv w), run_bind g1]
    cases c with
    | true => simpa using ih
    | false => simp
theorem fieldsT_run {t : TypeId} {n : Nat} (h : eqT P t n = true) : P.underlying t = some (.struct (P.fieldsOf t)) ∧ fieldsT P t = (P.fieldsOf t).toList ∧ eqFs 0 (fieldsT P t) = true ∧ P.stoodInHeld t = false ∧ P.eqGuardType P.depth t = false := by
 unfold eqT at h
 split at h
 ·rename_i fs hfs
  simp only [Bool.and_eq_true, Bool.not_eq_true'] at h
  have e : P.fieldsOf t = fs := by simp [Program.fieldsOf, hfs]
  have e2 : fieldsT P t = fs.toList := by simp [fieldsT, hfs]
  exact ⟨by rw [e]; exact hfs, by rw [e, e2], by rw [e2]; exact h.1.1.2, h.1.2, h.2⟩
 ·cases h
theorem nil_known {K : Kn} {v : Value} {o n : Bool} {sz : Nat} {es : List (List DV)} (h : URep K v (.slc o (some n) sz es)) : ∃ (A : Option Addr) (N c : Nat), v = .slice A N c ∧ n = A.isNone := by
 cases h with
 | nil g => exact ⟨none, 0, 0, rfl, by cases n <;> simp_all⟩
 | slc _ g _ _ _ _ => exact ⟨_, _, _, rfl, by cases n <;> simp_all⟩
 | empty g => exact ⟨_, _, _, rfl, by cases n <;> simp_all⟩
theorem binD_run {K K' : Kn} {op : BinOp} {t : TypeId} {x y z : DV} {u v : Value} (hx : URep K u x) (hy : URep K' v y) (h : Does C (binD P op t x y) σ z σ') : σ' = σ ∧ ∃ r, z = .val r ∧ scV r = true ∧ ∀ (X Y : Operand) (w : World), (do eqGuard op t X Y u v; binOp op t u v : Sem Value).run P w = .ok r w := by
 unfold binD at h
 split at h
 ·rename_i a b
  obtain ⟨_, σ1, h1, h2⟩ := Does.bind h
  obtain ⟨e1, rfl⟩ := Does.must h1
  obtain ⟨rfl, rfl⟩ := Does.pure h2
  have hu := urep_val hx; have hv := urep_val hy
  subst hu; subst hv
  refine ⟨rfl, _, rfl, rfl, fun X Y w => ?_⟩
  rw [run_bind (gd_bool _ t X Y _ _ w)]
  split at e1
  ·rename_i ht; exact run_eql_bool w t _ _ ht
  ·cases e1
 ·rename_i a b
  obtain ⟨_, σ1, h1, h2⟩ := Does.bind h
  obtain ⟨e1, rfl⟩ := Does.must h1
  obtain ⟨rfl, rfl⟩ := Does.pure h2
  have hu := urep_val hx; have hv := urep_val hy
  subst hu; subst hv
  refine ⟨rfl, _, rfl, rfl, fun X Y w => ?_⟩
  rw [run_bind (gd_bool _ t X Y _ _ w)]
  split at e1
  ·rename_i ht; exact run_neq_bool w t _ _ ht
  ·cases e1
 ·obtain ⟨r, σ1, h1, h2⟩ := Does.bind h
  obtain ⟨rfl, rfl⟩ := Does.pure h2
  have hu := urep_val hx; have hv := urep_val hy
  subst hu; subst hv
  obtain ⟨rfl, g1, g2⟩ := binV_run (P := P) h1
  exact ⟨rfl, r, rfl, g1, fun X Y w => g2 t X Y w⟩
 ·obtain ⟨_, σ1, h1, h2⟩ := Does.bind h
  obtain ⟨e1, rfl⟩ := Does.must h1
  obtain ⟨b, σ2, h3, h4⟩ := Does.bind h2
  obtain ⟨e2, rfl⟩ := Does.of h3
  obtain ⟨rfl, rfl⟩ := Does.pure h4
  obtain ⟨us, rfl, hus⟩ := hx
  obtain ⟨vs, rfl, hvs⟩ := hy
  obtain ⟨f1, f2, f3, f4, f5⟩ := fieldsT_run e1
  refine ⟨rfl, _, rfl, rfl, fun X Y w => ?_⟩
  rw [run_bind (run_eqGuard_agg w _ t X Y _ _ f5), run_eql_struct, run_equalIn_agg w 9999 t _ _ f1 f4, ← f2, eqCs_run (d := 9998) w _ 0 _ _ b f3 (by simpa using hus) (by simpa using hvs) e2]
  rfl
 ·obtain ⟨_, σ1, h1, h2⟩ := Does.bind h
  obtain ⟨e1, rfl⟩ := Does.must h1
  obtain ⟨b, σ2, h3, h4⟩ := Does.bind h2
  obtain ⟨e2, rfl⟩ := Does.of h3
  obtain ⟨rfl, rfl⟩ := Does.pure h4
  obtain ⟨us, rfl, hus⟩ := hx
  obtain ⟨vs, rfl, hvs⟩ := hy
  obtain ⟨f1, f2, f3, f4, f5⟩ := fieldsT_run e1
  refine ⟨rfl, _, rfl, rfl, fun X Y w => ?_⟩
  rw [run_bind (run_eqGuard_agg w _ t X Y _ _ f5), run_neq_struct, run_equalIn_agg w 9999 t _ _ f1 f4, ← f2, eqCs_run (d := 9998) w _ 0 _ _ b f3 (by simpa using hus) (by simpa using hvs) e2]
  rfl
 ·obtain ⟨_, σ1, h1, h2⟩ := Does.bind h
  obtain ⟨e1, rfl⟩ := Does.must h1
  obtain ⟨rfl, rfl⟩ := Does.pure h2
  split at e1
  ·rename_i e ht
   obtain ⟨A, N, c, rfl, hA⟩ := nil_known hx
   obtain ⟨A', N', c', rfl, hA'⟩ := nil_known hy
   refine ⟨rfl, _, rfl, rfl, fun X Y w => ?_⟩
   rw [run_bind (gd_slc _ t X Y _ _ _ _ _ _ w)]
   have : A' = none := by simpa using hA'
   subst this
   subst hA
   exact Lib.run_eql_slice_nil w t e A N c N' c' ht
  ·cases e1
 ·rename_i lo n
  obtain ⟨_, σ1, h1, h2⟩ := Does.bind h
  obtain ⟨e1, rfl⟩ := Does.need h1
  obtain ⟨rfl, rfl⟩ := Does.pure h2
  have hle : n ≤ (lo : Int) := of_decide_eq_true e1
  have hv := urep_val hy
  have hx2 : CRep K u (.capv lo) := hx
  cases hx2 with
  | @capv _ c hc =>
   subst hv
   have hd : ∀ τ : St, Does C (binV .lss (.int .i64 (c : Int)) (.int .i64 n)) τ (.bool (decide ((c : Int) < n))) τ := fun τ => ⟨[], [], .pure⟩
   obtain ⟨_, _, g2⟩ := binV_run (P := P) (hd default)
   refine ⟨rfl, _, rfl, rfl, fun X Y w => ?_⟩
   have := g2 t X Y w
   rw [decide_eq_false (by omega)] at this
   exact this
 ·obtain ⟨_, σ1, h1, h2⟩ := Does.bind h
  obtain ⟨e1, rfl⟩ := Does.must h1
  obtain ⟨rfl, rfl⟩ := Does.pure h2
  split at e1
  ·rename_i e ht
   obtain ⟨A, N, c, rfl, hA⟩ := nil_known hx
   obtain ⟨A', N', c', rfl, hA'⟩ := nil_known hy
   refine ⟨rfl, _, rfl, rfl, fun X Y w => ?_⟩
   rw [run_bind (gd_slc _ t X Y _ _ _ _ _ _ w)]
   have : A' = none := by simpa using hA'
   subst this
   subst hA
   simp only [binOp]
   simp [Op.equal, Op.maxDepth, Lib.run_equalIn_slice_nil w 9999 t e A N c N' c' ht]
  ·cases e1
 ·exact (Does.fail h).elim
theorem op_binOp {o : Oper} {op : BinOp} {t yt : TypeId} {x y : Operand} (ho : o.op = .binOp op t x y yt) : OpOk P O C nt Fr H0 o := by
 intro m K who σ σ' a w u Q Kk h hdst hd hk
 simp only [opPr, ho] at hd
 obtain ⟨y1, σ1, h1, h2⟩ := Does.bind hd
 obtain ⟨e1, hv1⟩ := h.opd h1
 rw [e1] at h2
 obtain ⟨d1, σ2, h3, h4⟩ := Does.bind h2
 obtain ⟨e2, hv2⟩ := h.view hv1 h3
 rw [e2] at h4
 obtain ⟨y2, σ3, h5, h6⟩ := Does.bind h4
 obtain ⟨e3, hv3⟩ := h.opd h5
 rw [e3] at h6
 obtain ⟨d2, σ4, h7, h8⟩ := Does.bind h6
 obtain ⟨e4, hv4⟩ := h.view hv3 h7
 rw [e4] at h8
 obtain ⟨z, σ5, h9, h10⟩ := Does.bind h8
 obtain ⟨e5, r, rfl, g1, g2⟩ := binD_run (P := P) hv2 hv4 h9
 rw [e5] at h10
 have hr : (execOp a.eval o).run P w = .ok (.value r) w := by
  simp only [execOp, ho]
  rw [run_bind (g2 x y w)]; rfl
 exact wp_val hr (hk _ _ _ _ _ (h.endV hdst (vrep_val g1) h10) (Kn.le.refl K) (Mp.refl m))
end
end Go.Proofs.Ytknkeabmjleoiaa.Vam/- The machine by value and the model: addresses, parts, values handed on. -/
namespace Go.Proofs.Ytknkeabmjleoiaa.Vam
open Go
set_option linter.unusedVariables false
set_option linter.unusedSimpArgs false
section
variable {P : Program} {O : Nat → Nat} {C : Query → Answer → Prop} {nt : Nat} {Fr : Nat → Prop} {H0 : Hd} {σ σ' : St} {a : Act} {w : World}

theorem addr_add (b o n : Nat) : (⟨b, o, none⟩ : Addr).add n = ⟨b, o + n, none⟩ := by
 unfold Addr.add
 split
 ·rename_i h; subst h; rfl
 ·rfl
theorem szT_run {t : TypeId} {n : Nat} (h : szT P t = some n) (w : World) : (sizeOf t).run P w = .ok n w := by
 unfold szT at h
 rw [Option.map_eq_some_iff] at h
 obtain ⟨i, hi, rfl⟩ := h
 simp [sizeOf, typeInfo, hi]
theorem aggT_run {t : TypeId} {b : Bool} (h : aggT P t = some b) (w : World) : (isAgg t).run P w = .ok b w := by
 unfold aggT at h
 rw [Option.map_eq_some_iff] at h
 obtain ⟨D, hD, rfl⟩ := h
 unfold isAgg
 rw [run_bind (run_underlying hD w)]
 cases D <;> rfl
theorem urep_owned {K : Kn} {v : Value} {d : DV} (h : URep K v d) : d.owned = false := by
 cases d with
 | agg ds =>
  obtain ⟨vs, _, h⟩ := h
  simp only [DV.owned, List.any_eq_false]
  intro x hx
  obtain ⟨j, hj⟩ := List.getElem?_of_mem hx
  obtain ⟨_, _, hr⟩ := h.get hj
  simp [hr.one.2.2]
 | val _ => rfl
 | hole => rfl
 | rm _ _ _ => rfl
 | capv _ => rfl
 | mp kd es => cases h
 | slc o nl sz es => have := (CRep.one h).2.2; cases o <;> simp_all [DV.owned, DV.owned1]
theorem ARep0.vrep {m : Om} {K : Kn} {v : Value} {x : AV} (h : ARep0 m K v x) : VRep σ a w m K v x := by
 cases x with
 | data d => exact ⟨urep_owned h, h⟩
 | ptr i o => exact h
 | _ => exact h.elim
theorem ARep1.vrep {m : Om} {K : Kn} {v : Value} {x : AV} (h : ARep1 m K v x) : VRep σ a w m K v x := by
 cases x with
 | data d => exact ⟨urep_owned h, h⟩
 | ptr i o => exact h
 | fn f b c => exact h
 | ifc t x => exact h
 | _ => exact h.elim

theorem op_unOp {o : Oper} {op : UnOp} {t : TypeId} {x : Operand} (ho : o.op = .unOp op t x) : OpOk P O C nt Fr H0 o := by
 intro m K who σ σ' a w u Q Kk h hdst hd hk
 simp only [opPr, ho] at hd
 obtain ⟨y1, σ1, h1, h2⟩ := Does.bind hd
 obtain ⟨e1, hv1⟩ := h.opd h1
 rw [e1] at h2
 obtain ⟨d1, σ2, h3, h4⟩ := Does.bind h2
 obtain ⟨e2, hv2⟩ := h.view hv1 h3
 rw [e2] at h4
 cases d1 with
 | val v =>
  have hx := urep_val hv2
  obtain ⟨r, σ3, h5, h6⟩ := Does.bind h4
  have key : σ3 = σ ∧ scV r = true ∧ (Op.unary op v).run P w = .ok r w := by
   cases op <;> cases v <;> first
    | exact (Does.fail h5).elim
    | (obtain ⟨rfl, e⟩ := Does.pure h5; exact ⟨e, rfl, rfl⟩)
  obtain ⟨e3, g1, g2⟩ := key
  rw [e3] at h6
  have hr : (execOp a.eval o).run P w = .ok (.value r) w := by
   simp only [execOp, ho, hx]
   rw [run_bind g2]; rfl
  exact wp_val hr (hk _ _ _ _ _ (h.endV hdst (vrep_val g1) h6) (Kn.le.refl K) (Mp.refl m))
 | _ => exact (Does.fail h4).elim

theorem epLive {m : Om} {K : Kn} {p : Pl} {k c i j : Nat} {v : Value} {u : Unit} (hv : VRep σ a w m K v (.eptr p k c i j)) (hd : Does C (liveEp p k c) σ u σ') :
  σ' = σ ∧ k = (σ p).k ∧ EpOk m a w (σ p) p c i j v ∧ ∃ b off n cap own nl sz es, cellAt p (σ p) c = some (.slc own nl sz es) ∧ rcell m a w p c = some (.slice (some ⟨b, off, none⟩) n cap) ∧ v = .pointer (some ⟨b, off + i * sz + j, none⟩) := by
 obtain ⟨z, σ1, h1, h2⟩ := Does.bind hd
 obtain ⟨rfl, rfl⟩ := Does.gt h1
 obtain ⟨_, σ2, h3, h4⟩ := Does.bind h2
 obtain ⟨e1, rfl⟩ := Does.must h3
 have hk : k = (σ2 p).k := (Nat.eq_of_beq_eq_true e1).symm
 split at h4
 ·rename_i own nl sz es hc
  obtain ⟨_, rfl⟩ := Does.pure h4
  have he := hv.2 hk
  obtain ⟨b, off, n, cap, g1, g2⟩ := he own nl sz es hc
  exact ⟨rfl, hk, he, b, off, n, cap, own, nl, sz, es, hc, g1, g2⟩
 ·exact (Does.fail h4).elim
theorem op_nilCheck {o : Oper} {x : Operand} (ho : o.op = .nilCheck x) : OpOk P O C nt Fr H0 o := by
 intro m K who σ σ' a w u Q Kk h hdst hd hk
 simp only [opPr, ho] at hd
 obtain ⟨y1, σ1, h1, h2⟩ := Does.bind hd
 obtain ⟨e1, hv1⟩ := h.opd h1
 rw [e1] at h2
 have done : ∀ {y : AV}, VRep σ a w m K (a.eval x) y → Does C (putT o.dst y) σ u σ' → (execOp a.eval o).run P w = .ok (.value (a.eval x)) w → o.wp P a w Kk Q := fun hv hp hr =>
  wp_val hr (hk _ _ _ _ _ (h.endV hdst hv hp) (Kn.le.refl K) (Mp.refl m))
 cases y1 with
 | ptr i j =>
  refine done hv1 h2 ?_
  obtain ⟨b, _, hb⟩ := hv1
  simp only [execOp, ho, hb]; rfl
 | cptr ch =>
  refine done hv1 h2 ?_
  obtain ⟨b, off, hb, _⟩ := hv1
  simp only [execOp, ho, hb]; rfl
 | eptr p k c i j =>
  obtain ⟨_, σ2, h3, h4⟩ := Does.bind h2
  obtain ⟨e2, _, _, b, off, n, cap, own, nl, sz, es, _, _, hb⟩ := epLive hv1 h3
  rw [e2] at h4
  refine done hv1 h4 ?_
  simp only [execOp, ho, hb]; rfl
 | fn f b c =>
  cases f with
  | func f =>
   refine done hv1 h2 ?_
   obtain ⟨fv, cv, hb, _⟩ := hv1
   simp only [execOp, ho, hb]; rfl
  | _ => exact (Does.fail h2).elim
 | ifc t v =>
  refine done hv1 h2 ?_
  obtain ⟨u', hb, _⟩ := hv1
  simp only [execOp, ho, hb]; rfl
 | _ => exact (Does.fail h2).elim

theorem fieldOf_run {t : TypeId} {f : Nat} {fd : Field} (h : fieldOf P t f = some fd) : ∃ fs, P.underlying t = some (.struct fs) ∧ fs[f]? = some fd := by
 unfold fieldOf at h
 split at h
 ·rename_i fs hfs; exact ⟨fs, hfs, h⟩
 ·cases h
theorem fieldAt_run {t : TypeId} {f n : Nat} {fd : Field} (h : fieldOf P t f = some fd) (hs : szT P fd.type = some n) (hn : 0 < n) (b o : Nat) (w : World) :
  (Instr.fieldAt t (.pointer (some ⟨b, o, none⟩)) f).run P w = .ok (.pointer (some ⟨b, o + fd.offset, none⟩)) w := by
 obtain ⟨fs, h1, h2⟩ := fieldOf_run h
 have hz := szT_run hs w
 have hn' : ¬ n = 0 := by omega
 simp [Instr.fieldAt, run_underlying h1, h2, Instr.sureAddr, fieldPlace, hz, hn', addr_add]
theorem op_fieldAddr {o : Oper} {t : TypeId} {f : Nat} {x : Operand} (ho : o.op = .fieldAddr t x f) : OpOk P O C nt Fr H0 o := by
 intro m K who σ σ' a w u Q Kk h hdst hd hk
 simp only [opPr, ho] at hd
 obtain ⟨fd, σ1, h1, h2⟩ := Does.bind hd
 obtain ⟨e1, rfl⟩ := Does.of h1
 obtain ⟨n, σ2, h3, h4⟩ := Does.bind h2
 obtain ⟨e2, rfl⟩ := Does.of h3
 obtain ⟨_, σ3, h5, h6⟩ := Does.bind h4
 obtain ⟨e3, rfl⟩ := Does.must h5
 have hn : 0 < n := of_decide_eq_true e3
 obtain ⟨y1, σ4, h7, h8⟩ := Does.bind h6
 obtain ⟨e4, hv1⟩ := h.opd h7
 rw [e4] at h8
 have done : ∀ {y : AV} {b o' : Nat}, a.eval x = .pointer (some ⟨b, o', none⟩) → Does C (putT o.dst y) σ3 u σ' → VRep σ3 a w m K (.pointer (some ⟨b, o' + fd.offset, none⟩)) y → o.wp P a w Kk Q := fun hx hp hv => by
  refine wp_val (v := .pointer (some ⟨_, _ + fd.offset, none⟩)) ?_ (hk _ _ _ _ _ (h.endV hdst hv hp) (Kn.le.refl K) (Mp.refl m))
  simp only [execOp, ho, hx]
  rw [run_bind (fieldAt_run e1 e2 hn _ _ w)]; rfl
 cases y1 with
 | ptr i j =>
  obtain ⟨b, hb, hx⟩ := hv1
  exact done hx h8 ⟨b, hb, rfl⟩
 | cptr ch =>
  obtain ⟨b, off, hx, hc⟩ := hv1
  refine done hx h8 ⟨b, off + fd.offset, rfl, fun j d hj => ?_⟩
  rw [List.getElem?_drop] at hj
  have := hc _ d hj
  rw [← Nat.add_assoc] at this; exact this
 | eptr p k c i j =>
  obtain ⟨_, σ5, h9, h10⟩ := Does.bind h8
  obtain ⟨e5, hk', hE, b, off, n', cap, own, nl, sz, es, hc, hrc, hx⟩ := epLive hv1 h9
  rw [e5] at h10
  refine done hx h10 ⟨by omega, fun _ own' nl' sz' es' hc' => ?_⟩
  rw [hc] at hc'; cases hc'
  exact ⟨b, off, n', cap, hrc, by rw [Nat.add_assoc (off + i * sz)]⟩
 | _ => exact (Does.fail h8).elim

theorem iV {m : Om} {K : Kn} {who : Who} (h : SRel nt Fr H0 m K who σ a w) {x : Operand} {n : Int} (hd : Does C (do vI (← opd x)) σ n σ') : σ' = σ ∧ ∃ k, a.eval x = .int k n := by
 obtain ⟨y1, σ1, h1, h2⟩ := Does.bind hd
 obtain ⟨e1, hv1⟩ := h.opd h1
 rw [e1] at h2
 obtain ⟨d, σ2, h3, h4⟩ := Does.bind h2
 obtain ⟨e2, hv2⟩ := h.view hv1 h3
 rw [e2] at h4
 cases d with
 | val v =>
  cases v with
  | int k q =>
   obtain ⟨rfl, e3⟩ := Does.pure h4
   exact ⟨e3, k, urep_val hv2⟩
  | _ => exact (Does.fail h4).elim
 | _ => exact (Does.fail h4).elim
theorem indexAt_run {t e : TypeId} {s : Nat} (ht : P.underlying t = some (.slice e)) (hs : szT P e = some s) {b o len cap : Nat} {k : IntKind} {i : Int} (h : 0 ≤ i ∧ i < len) (w : World) :
  (Instr.indexAt t (.slice (some ⟨b, o, none⟩) len cap) (.int k i)).run P w = .ok (.pointer (some ⟨b, o + i.toNat * s, none⟩)) w := by
 have he : P.elem t = e := by simp [Program.elem, ht]
 rw [run_indexAt_slice w t _ len cap k i (by rw [he]; exact ht), if_pos h, he, szT_run hs w]
 simp [addr_add]
theorem op_indexAddr {o : Oper} {t : TypeId} {x ix : Operand} (ho : o.op = .indexAddr t x ix) : OpOk P O C nt Fr H0 o := by
 intro m K who σ σ' a w u Q Kk h hdst hd hk
 simp only [opPr, ho] at hd
 obtain ⟨y0, σ0, h1, h2⟩ := Does.bind hd
 obtain ⟨e0, hv0⟩ := h.opd h1
 rw [e0] at h2
 obtain ⟨i, σ1, h3, h4⟩ := Does.bind h2
 obtain ⟨e1, k, hi⟩ : σ1 = σ ∧ ∃ k, a.eval ix = .int k i := by
  obtain ⟨R1, W1, g1⟩ := h1
  obtain ⟨d, σ2, h5, h6⟩ := Does.bind h3
  obtain ⟨e2, hv2⟩ := h.view hv0 h5
  rw [e2] at h6
  cases d with
  | val v =>
   cases v with
   | int k q => obtain ⟨rfl, e3⟩ := Does.pure h6; exact ⟨e3, k, urep_val hv2⟩
   | _ => exact (Does.fail h6).elim
  | _ => exact (Does.fail h6).elim
 rw [e1] at h4
 obtain ⟨y1, σ2, h5, h6⟩ := Does.bind h4
 obtain ⟨e2, hv1⟩ := h.opd h5
 rw [e2] at h6
 split at h6
 ·rename_i D e nl sz es ht
  obtain ⟨s, σ3, h7, h8⟩ := Does.bind h6
  obtain ⟨hs, rfl⟩ := Does.of h7
  obtain ⟨_, σ4, h9, h10⟩ := Does.bind h8
  obtain ⟨e3, rfl⟩ := Does.must h9
  obtain ⟨_, σ5, h11, h12⟩ := Does.bind h10
  obtain ⟨e4, rfl⟩ := Does.need h11
  obtain ⟨ch, hch, h13⟩ := Does.askC h12
  have hb : 0 ≤ i ∧ i < (es.length : Int) := of_decide_eq_true e4
  simp only [Bool.and_eq_true, decide_eq_true_eq] at e3
  have hsz : s = sz := Nat.eq_of_beq_eq_true e3.1
  have hv1' := hv1.2
  generalize hx : a.eval x = vx at hv1'
  cases hv1' with
  | nil _ => simp at hb; omega
  | empty _ => simp at hb; omega
  | @slc _ _ _ b off c us g1 g2 g3 g4 g5 =>
   refine wp_val (v := .pointer (some ⟨b, off + i.toNat * s, none⟩)) ?_ (hk _ _ _ _ _ (h.endV (x := .cptr ch) hdst ⟨b, off + i.toNat * s, rfl, fun j d hj => ?_⟩ h13) (Kn.le.refl K) (Mp.refl m))
   ·simp only [execOp, ho, hx, hi]
    rw [run_bind (indexAt_run ht hs hb w)]; rfl
   ·rw [hsz]
    exact ⟨_, g4 _ _ _ _ hch hj, g5 _ _ _ _ hch hj⟩
 ·rename_i D e p kk c ht
  obtain ⟨s, σ3, h7, h8⟩ := Does.bind h6
  obtain ⟨hs, rfl⟩ := Does.of h7
  obtain ⟨z, σ4, h9, h10⟩ := Does.bind h8
  obtain ⟨rfl, rfl⟩ := Does.gt h9
  obtain ⟨_, σ5, h11, h12⟩ := Does.bind h10
  obtain ⟨e3, rfl⟩ := Does.must h11
  have hkk : kk = (σ5 p).k := (Nat.eq_of_beq_eq_true e3).symm
  split at h12
  ·rename_i own nl sz es hc
   obtain ⟨_, σ6, h13, h14⟩ := Does.bind h12
   obtain ⟨e4, rfl⟩ := Does.must h13
   obtain ⟨_, σ7, h15, h16⟩ := Does.bind h14
   obtain ⟨e5, rfl⟩ := Does.need h15
   have hb : 0 ≤ i ∧ i < (es.length : Int) := of_decide_eq_true e5
   simp only [Bool.and_eq_true, decide_eq_true_eq] at e4
   have hsz : s = sz := Nat.eq_of_beq_eq_true e4.1
   obtain ⟨g1, g2, g3⟩ := h.refd (hv1.2 hkk) hc
   generalize hx : a.eval x = vx at g1 g3
   have key : ∃ b off cap, vx = .slice (some ⟨b, off, none⟩) es.length cap := by
    cases own with
    | true =>
     cases g1.2 rfl with
     | nil _ => simp at hb; omega
     | empty _ => simp at hb; omega
     | slc _ _ _ _ _ _ => exact ⟨_, _, _, rfl⟩
    | false =>
     cases g1.1 rfl with
     | nil _ => simp at hb; omega
     | empty _ => simp at hb; omega
     | slc _ _ _ _ _ _ => exact ⟨_, _, _, rfl⟩
   obtain ⟨b, off, cap, rfl⟩ := key
   refine wp_val (v := .pointer (some ⟨b, off + i.toNat * s, none⟩)) ?_ (hk _ _ _ _ _ (h.endV (x := .eptr p kk c i.toNat 0) hdst ⟨by omega, fun _ own' nl' sz' es' hc' => ?_⟩ h16) (Kn.le.refl K) (Mp.refl m))
   ·simp only [execOp, ho, hx, hi]
    rw [run_bind (indexAt_run ht hs hb w)]; rfl
   ·rw [g2] at hc'; cases hc'
    exact ⟨b, off, es.length, cap, g3, by rw [hsz]; rfl⟩
  ·exact (Does.fail h12).elim
 ·rename_i D e oo n ht
  obtain ⟨s, σ3, h7, h8⟩ := Does.bind h6
  obtain ⟨hs, rfl⟩ := Does.of h7
  obtain ⟨_, σ4, h9, h10⟩ := Does.bind h8
  obtain ⟨e3, rfl⟩ := Does.must h9
  obtain ⟨_, σ5, h11, h12⟩ := Does.bind h10
  obtain ⟨e4, rfl⟩ := Does.need h11
  have hb : 0 ≤ i ∧ i < (n : Int) := of_decide_eq_true e4
  have h13 := Does.askI h12
  obtain ⟨b, hb', hx⟩ := hv1
  refine wp_val (v := .pointer (some ⟨b, 0 + i.toNat * s, none⟩)) ?_ (hk _ _ _ _ _ (h.endV (x := .ptr oo (0 + i.toNat * s)) hdst ⟨b, hb', rfl⟩ h13) (Kn.le.refl K) (Mp.refl m))
  simp only [execOp, ho, hx, hi]
  rw [run_bind (indexAt_run ht hs hb w)]; rfl
 ·rename_i D n e oo off ht
  obtain ⟨s, σ3, h7, h8⟩ := Does.bind h6
  obtain ⟨hs, rfl⟩ := Does.of h7
  obtain ⟨_, σ4, h9, h10⟩ := Does.bind h8
  obtain ⟨e3, rfl⟩ := Does.must h9
  obtain ⟨_, σ5, h11, h12⟩ := Does.bind h10
  obtain ⟨e4, rfl⟩ := Does.need h11
  have hb : 0 ≤ i ∧ i < (n : Int) := of_decide_eq_true e4
  have h13 := Does.askI h12
  obtain ⟨b, hb', hx⟩ := hv1
  refine wp_val (v := .pointer (some ⟨b, off + i.toNat * s, none⟩)) ?_ (hk _ _ _ _ _ (h.endV (x := .ptr oo (off + i.toNat * s)) hdst ⟨b, hb', rfl⟩ h13) (Kn.le.refl K) (Mp.refl m))
  simp only [execOp, ho, hx, hi]
  have hE : P.elem t = e := by simp [Program.elem, ht]
  have hN : P.arrayLen t = n := by simp [Program.arrayLen, ht]
  rw [Sem.run_bind, run_indexAt_array w t _ k i (by rw [hE, hN]; exact ht), hN, if_pos hb, hE, szT_run hs w]
  simp [addr_add]
 ·rename_i D n e ch ht
  obtain ⟨s, σ3, h7, h8⟩ := Does.bind h6
  obtain ⟨hs, rfl⟩ := Does.of h7
  obtain ⟨_, σ4, h9, h10⟩ := Does.bind h8
  obtain ⟨e3, rfl⟩ := Does.must h9
  obtain ⟨_, σ5, h11, h12⟩ := Does.bind h10
  obtain ⟨e4, rfl⟩ := Does.need h11
  have hb : 0 ≤ i ∧ i < (n : Int) := of_decide_eq_true e4
  have h13 := Does.askI h12
  obtain ⟨b, off, hx, hc⟩ := hv1
  refine wp_val (v := .pointer (some ⟨b, off + i.toNat * s, none⟩)) ?_ (hk _ _ _ _ _ (h.endV (x := .cptr (ch.drop (i.toNat * s))) hdst ⟨b, off + i.toNat * s, rfl, fun j d hj => by
   rw [List.getElem?_drop] at hj
   have := hc _ d hj
   rw [← Nat.add_assoc] at this; exact this⟩ h13) (Kn.le.refl K) (Mp.refl m))
  simp only [execOp, ho, hx, hi]
  have hE : P.elem t = e := by simp [Program.elem, ht]
  have hN : P.arrayLen t = n := by simp [Program.arrayLen, ht]
  rw [Sem.run_bind, run_indexAt_array w t _ k i (by rw [hE, hN]; exact ht), hN, if_pos hb, hE, szT_run hs w]
  simp [addr_add]
 ·exact (Does.fail h6).elim
end
end Go.Proofs.Ytknkeabmjleoiaa.Vam
/- The machine by value and the model: parts of values, values handed on, lengths. -/
namespace Go.Proofs.Ytknkeabmjleoiaa.Vam
open Go
set_option linter.unusedVariables false
set_option linter.unusedSimpArgs false
section
variable {P : Program} {O : Nat → Nat} {C : Query → Answer → Prop} {nt : Nat} {Fr : Nat → Prop} {H0 : Hd} {σ σ' : St} {a : Act} {w : World}

theorem part_agg_run {t : TypeId} {n : Nat} (hs : szT P t = some n) (ha : aggT P t = some true) (vs : List Value) (o : Nat) (w : World) : (part t vs.toArray o).run P w = .ok (.agg ((vs.drop o).take n).toArray) w := by
 unfold part
 rw [run_bind (aggT_run ha w)]
 simp only [if_true]
 rw [run_bind (szT_run hs w)]
 simp
theorem part_one_run {t : TypeId} (ha : aggT P t = some false) {vs : List Value} {o : Nat} {v : Value} (hv : vs[o]? = some v) (w : World) : (part t vs.toArray o).run P w = .ok v w := by
 unfold part
 rw [run_bind (aggT_run ha w)]
 simp [hv]
theorem seen_rep {m : Om} {K : Kn} {who : Who} (h : SRel nt Fr H0 m K who σ a w) {p : Pl} {k c : Nat} {n : Option Nat} {v : Value} {e : DV} (hk : k = (σ p).k) (hr : RefOk m a w p c n v) (he : refAt p (σ p) c n = some e) :
  VRep σ a w m K v (seen p k c n e) := by
 unfold seen
 split
 ·exact ⟨by omega, fun _ => hr⟩
 ·rename_i ho
  have ho : e.owned = false := by simpa using ho
  have := h.refd hr he
  cases n with
  | none =>
   obtain ⟨g1, _, _⟩ := this
   have hc := g1.one.2
   cases e with
   | agg _ => simp [DV.cell] at hc
   | val _ => exact ⟨rfl, g1.1 rfl⟩
   | hole => exact ⟨rfl, g1.1 rfl⟩
   | rm _ _ _ => exact ⟨rfl, g1.1 rfl⟩
   | capv _ => exact ⟨rfl, g1.1 rfl⟩
   | mp _ _ => cases ho
   | slc o nl sz es => exact ⟨ho, g1.1 (by cases o <;> simp_all [DV.owned, DV.owned1])⟩
  | some n =>
   obtain ⟨vs, ds, rfl, rfl, _, g1, _⟩ := this
   exact ⟨ho, vs, rfl, g1.unowned ho⟩
theorem field_run {t : TypeId} {f : Nat} {fd : Field} (h : fieldOf P t f = some fd) {vs : List Value} {v : Value} (hv : (part fd.type vs.toArray fd.offset).run P w = .ok v w) : (Instr.field t (.agg vs.toArray) f).run P w = .ok v w := by
 obtain ⟨fs, h1, h2⟩ := fieldOf_run h
 simp only [Instr.field]
 rw [run_bind (run_underlying h1 w)]
 simp only [h2]
 rw [run_bind (x := vs.toArray) (w' := w) rfl]
 exact hv
theorem op_field {o : Oper} {t : TypeId} {f : Nat} {x : Operand} (ho : o.op = .field t x f) : OpOk P O C nt Fr H0 o := by
 intro m K who σ σ' a w u Q Kk h hdst hd hk
 simp only [opPr, ho] at hd
 obtain ⟨fd, σ1, h1, h2⟩ := Does.bind hd
 obtain ⟨e1, rfl⟩ := Does.of h1
 obtain ⟨n, σ2, h3, h4⟩ := Does.bind h2
 obtain ⟨e2, rfl⟩ := Does.of h3
 obtain ⟨ag, σ3, h5, h6⟩ := Does.bind h4
 obtain ⟨e3, rfl⟩ := Does.of h5
 obtain ⟨y1, σ4, h7, h8⟩ := Does.bind h6
 obtain ⟨e4, hv1⟩ := h.opd h7
 rw [e4] at h8
 have done : ∀ {y : AV} {vs : List Value} {v : Value}, a.eval x = .agg vs.toArray → Does C (putT o.dst y) σ3 u σ' → (part fd.type vs.toArray fd.offset).run P w = .ok v w → VRep σ3 a w m K v y → o.wp P a w Kk Q := fun hx hp hr hv => by
  refine wp_val ?_ (hk _ _ _ _ _ (h.endV hdst hv hp) (Kn.le.refl K) (Mp.refl m))
  simp only [execOp, ho, hx]
  rw [run_bind (field_run e1 hr)]; rfl
 split at h8
 ·rename_i cs
  obtain ⟨_, σ5, h9, h10⟩ := Does.bind h8
  obtain ⟨e5, rfl⟩ := Does.must h9
  obtain ⟨vs, hx, hr⟩ := hv1.2
  refine done hx h10 (part_agg_run e2 e3 vs fd.offset w) ?_
  have hu : URep K (.agg ((vs.drop fd.offset).take n).toArray) (.agg ((cs.drop fd.offset).take n)) := ⟨_, rfl, (hr.drop _).take _⟩
  exact ⟨urep_owned hu, hu⟩
 ·rename_i cs
  obtain ⟨e, σ5, h9, h10⟩ := Does.bind h8
  obtain ⟨e5, rfl⟩ := Does.of h9
  obtain ⟨vs, hx, hr⟩ := hv1.2
  obtain ⟨v, hv, hc⟩ := hr.get e5
  have hu : URep K v e := by
   have := hc.one.2.1
   cases e with
   | agg _ => simp [DV.cell] at this
   | _ => exact hc
  exact done hx h10 (part_one_run e3 hv w) ⟨urep_owned hu, hu⟩
 ·skip
  rename_i p k c n0
  obtain ⟨z, σ5, h9, h10⟩ := Does.bind h8
  obtain ⟨rfl, rfl⟩ := Does.gt h9
  obtain ⟨_, σ6, h11, h12⟩ := Does.bind h10
  obtain ⟨e5, rfl⟩ := Does.must h11
  have hkk : k = (σ6 p).k := (Nat.eq_of_beq_eq_true e5).symm
  obtain ⟨_, σ7, h13, h14⟩ := Does.bind h12
  obtain ⟨e6, rfl⟩ := Does.must h13
  simp only [Bool.and_eq_true, decide_eq_true_eq] at e6
  obtain ⟨e, σ8, h15, h16⟩ := Does.bind h14
  obtain ⟨e7, rfl⟩ := Does.of h15
  have hR := hv1.2 hkk
  obtain ⟨vs, hx, hl, hvs⟩ := hR
  cases ag with
  | true =>
   refine done hx h16 (part_agg_run e2 e3 vs fd.offset w) (seen_rep h hkk ⟨_, rfl, by simp; omega, fun j hj => ?_⟩ e7)
   rw [Nat.add_assoc, hvs _ (by omega), List.getElem?_take_of_lt hj, List.getElem?_drop]
  | false =>
   have hv := hvs fd.offset (by omega)
   rw [List.getElem?_eq_getElem (by omega)] at hv
   exact done hx h16 (part_one_run e3 (List.getElem?_eq_getElem (by omega)) w) (seen_rep h hkk hv e7)
 ·exact (Does.fail h8).elim

theorem op_extract {o : Oper} {x : Operand} {i : Nat} (ho : o.op = .extract x i) : OpOk P O C nt Fr H0 o := by
 intro m K who σ σ' a w u Q Kk h hdst hd hk
 simp only [opPr, ho] at hd
 obtain ⟨y1, σ1, h1, h2⟩ := Does.bind hd
 obtain ⟨e1, hv1⟩ := h.opd h1
 rw [e1] at h2
 cases y1 with
 | tup xs =>
  obtain ⟨v, σ2, h3, h4⟩ := Does.bind h2
  obtain ⟨e2, rfl⟩ := Does.of h3
  obtain ⟨vs, hx, hr⟩ := hv1
  obtain ⟨r, hr1, hr2⟩ := hr.get e2
  refine wp_val (v := r) ?_ (hk _ _ _ _ _ (h.endV hdst hr2.vrep h4) (Kn.le.refl K) (Mp.refl m))
  simp only [execOp, ho, hx, Instr.extract, List.getElem?_toArray, hr1]
  rfl
 | _ => exact (Does.fail h2).elim

theorem op_typeAssert {o : Oper} {x : Operand} {xt t : TypeId} {ok : Bool} (ho : o.op = .typeAssert x xt t ok) : OpOk P O C nt Fr H0 o := by
 intro m K who σ σ' a w u Q Kk h hdst hd hk
 simp only [opPr, ho] at hd
 obtain ⟨y1, σ1, h1, h2⟩ := Does.bind hd
 obtain ⟨e1, hv1⟩ := h.opd h1
 rw [e1] at h2
 split at h2
 ·exact (Does.fail h2).elim
 ·rename_i D D' t' v hni ht
  obtain ⟨_, σ2, h3, h4⟩ := Does.bind h2
  obtain ⟨e2, rfl⟩ := Does.must h3
  have et : t' = t := Nat.eq_of_beq_eq_true e2
  subst et
  obtain ⟨r, hx, hr⟩ := hv1
  have hrun : (Instr.typeAssert (.iface t' r) xt t' ok).run P w = .ok (if ok then .tuple #[r, .bool true] else r) w := by
   unfold Instr.typeAssert
   rw [run_bind (run_underlying ht w)]
   cases D' <;> first
    | (exfalso; exact hni _ rfl)
    | simp
  refine wp_val (v := if ok then .tuple #[r, .bool true] else r) ?_ (hk _ _ _ _ _ (h.endV hdst ?_ h4) (Kn.le.refl K) (Mp.refl m))
  ·simp only [execOp, ho, hx]
   rw [run_bind hrun]; rfl
  ·cases ok with
   | true =>
    refine ⟨[r, .bool true], rfl, .cons ?_ (.cons (CRep.val rfl) .nil)⟩
    cases v with
    | data d => exact hr
    | ptr i o => exact hr
    | _ => exact hr.elim
   | false => exact hr.vrep
 ·exact (Does.fail h2).elim

theorem op_makeInterface {o : Oper} {t : TypeId} {x : Operand} (ho : o.op = .makeInterface t x) : OpOk P O C nt Fr H0 o := by
 intro m K who σ σ' a w u Q Kk h hdst hd hk
 simp only [opPr, ho] at hd
 obtain ⟨y1, σ1, h1, h2⟩ := Does.bind hd
 obtain ⟨e1, hv1⟩ := h.opd h1
 rw [e1] at h2
 obtain ⟨v, σ2, h3, h4⟩ := Does.bind h2
 obtain ⟨K', who', g1, g2, g3, g4, g5⟩ := h.take0 hv1 h3
 obtain ⟨_, σ3, h5, h6⟩ := Does.bind h4
 obtain ⟨e2, rfl⟩ := Does.must h5
 obtain ⟨_, σ4, h7, h8⟩ := Does.bind h6
 obtain ⟨e3, rfl⟩ := Does.must h7
 have hrun : (Instr.makeInterface t (a.eval x)).run P w = .ok (.iface t (a.eval x)) w := by
  unfold Instr.makeInterface
  split at e3
  ·cases e3
  ·rename_i D hni hD
   rw [run_bind (run_underlying hD w)]
   cases D <;> first
    | (exfalso; exact hni _ rfl)
    | rfl
  ·cases e3
 refine wp_val (v := .iface t (a.eval x)) ?_ (hk _ _ _ _ _ (g1.endV (x := .ifc t v) hdst ⟨a.eval x, rfl, ?_⟩ h8) g2 (Mp.refl m))
 ·simp only [execOp, ho]
  rw [run_bind hrun]; rfl
 ·cases v with
  | data d => exact g4.2
  | ptr i o => exact g4
  | _ => simp [AV.plain0] at e2
end
end Go.Proofs.Ytknkeabmjleoiaa.Vam
/- The machine by value and the model: cuts, lengths, texts and bytes, functions as values. -/
namespace Go.Proofs.Ytknkeabmjleoiaa.Vam
open Go
set_option linter.unusedVariables false
set_option linter.unusedSimpArgs false
section
variable {P : Program} {O : Nat → Nat} {C : Query → Answer → Prop} {nt : Nat} {Fr : Nat → Prop} {H0 : Hd} {σ σ' : St} {a : Act} {w : World}

theorem op_index {o : Oper} {t : TypeId} {x ix : Operand} (ho : o.op = .index t x ix) : OpOk P O C nt Fr H0 o := by
 intro m K who σ σ' a w u Q Kk h hdst hd hk
 simp only [opPr, ho] at hd
 obtain ⟨y0, σ0, h1, h2⟩ := Does.bind hd
 obtain ⟨e0, hv0⟩ := h.opd h1
 rw [e0] at h2
 obtain ⟨i, σ1, h3, h4⟩ := Does.bind h2
 obtain ⟨e1, k, hi⟩ : σ1 = σ ∧ ∃ k, a.eval ix = .int k i := by
  obtain ⟨d, σ2, h5, h6⟩ := Does.bind h3
  obtain ⟨e2, hv2⟩ := h.view hv0 h5
  rw [e2] at h6
  cases d with
  | val v =>
   cases v with
   | int k q => obtain ⟨rfl, e3⟩ := Does.pure h6; exact ⟨e3, k, urep_val hv2⟩
   | _ => exact (Does.fail h6).elim
  | _ => exact (Does.fail h6).elim
 rw [e1] at h4
 obtain ⟨y1, σ2, h5, h6⟩ := Does.bind h4
 obtain ⟨e2, hv1⟩ := h.opd h5
 rw [e2] at h6
 obtain ⟨d, σ3, h7, h8⟩ := Does.bind h6
 obtain ⟨e3, hv2⟩ := h.view hv1 h7
 rw [e3] at h8
 cases d with
 | val v =>
  cases v with
  | string s =>
   obtain ⟨_, σ4, h9, h10⟩ := Does.bind h8
   obtain ⟨e4, rfl⟩ := Does.must h9
   obtain ⟨_, σ5, h11, h12⟩ := Does.bind h10
   obtain ⟨e5, rfl⟩ := Does.need h11
   have hb : 0 ≤ i ∧ i < (s.size : Int) := of_decide_eq_true e5
   have hx := urep_val hv2
   split at e4
   ·rename_i ht
    refine wp_val (v := .int .u8 (s.data.toList.getD i.toNat 0).toNat) ?_ (hk _ _ _ _ _ (h.endV hdst (vrep_val rfl) h12) (Kn.le.refl K) (Mp.refl m))
    simp only [execOp, ho, hx, hi]
    have hlt : i.toNat < s.data.size := by have : s.size = s.data.size := rfl
                                           omega
    rw [Sem.run_bind, run_index_string w t s k i ht, dif_pos hb]
    have : s[i.toNat] = s.data.toList.getD i.toNat 0 := by
     rw [List.getD_eq_getElem?_getD, List.getElem?_eq_getElem (by simpa using hlt)]
     rfl
    simp [this]
   ·cases e4
  | _ => exact (Does.fail h8).elim
 | _ => exact (Does.fail h8).elim

theorem elemT_run {t e : TypeId} (h : elemT P t = some e) : P.underlying t = some (.slice e) := by
 unfold elemT at h
 rw [Option.bind_eq_some_iff] at h
 obtain ⟨D, hD, h⟩ := h
 cases D <;> simp at h
 subst h; exact hD
def Bnd (o : Option Value) (d n : Int) : Prop := (o = none ∧ n = d) ∨ ∃ k, o = some (.int k n)
theorem bounds_run {b : Bool} {len cap : Nat} {lo hi : Option Value} {L H : Int} (hl : Bnd lo 0 L) (hh : Bnd hi len H) (h0 : 0 ≤ L) (h1 : L ≤ H) (h2 : H ≤ len) (h3 : len ≤ cap) (w : World) :
  (Instr.sliceBounds b len cap lo hi none).run P w = .ok (L.toNat, H.toNat, cap) w := by
 rcases hl with ⟨rfl, rfl⟩ | ⟨k, rfl⟩
 ·rcases hh with ⟨rfl, rfl⟩ | ⟨k', rfl⟩
  ·simp [Instr.sliceBounds]
  ·simp [Instr.sliceBounds, run_sliceBound w k' H cap _ (by omega) (by omega)]
 ·rcases hh with ⟨rfl, rfl⟩ | ⟨k', rfl⟩
  ·simp [Instr.sliceBounds, run_sliceBound w k L len _ h0 h1]
  ·simp [Instr.sliceBounds, run_sliceBound w k' H cap _ (by omega) (by omega), run_sliceBound w k L H.toNat _ h0 (by omega)]
theorem bounds_run2 {b : Bool} {len cap : Nat} {lo hi : Option Value} {L H : Int} (hl : Bnd lo 0 L) (hh : Bnd hi len H) (h0 : 0 ≤ L) (h1 : L ≤ H) (h2 : H ≤ cap) (h3 : len ≤ cap) (w : World) :
  (Instr.sliceBounds b len cap lo hi none).run P w = .ok (L.toNat, H.toNat, cap) w := by
 rcases hl with ⟨rfl, rfl⟩ | ⟨k, rfl⟩
 ·rcases hh with ⟨rfl, rfl⟩ | ⟨k', rfl⟩
  ·simp [Instr.sliceBounds]
  ·simp [Instr.sliceBounds, run_sliceBound w k' H cap _ (by omega) (by omega)]
 ·rcases hh with ⟨rfl, rfl⟩ | ⟨k', rfl⟩
  ·simp [Instr.sliceBounds, run_sliceBound w k L len _ h0 h1]
  ·simp [Instr.sliceBounds, run_sliceBound w k' H cap _ (by omega) (by omega), run_sliceBound w k L H.toNat _ h0 (by omega)]
theorem slice_run2 {t e : TypeId} {s : Nat} (he : elemT P t = some e) (hs : szT P e = some s) {A : Option Addr} {len cap : Nat} {lo hi : Option Value} {L H : Int} (hl : Bnd lo 0 L) (hh : Bnd hi len H) (h0 : 0 ≤ L) (h1 : L ≤ H) (h2 : H ≤ cap) (h3 : len ≤ cap) (w : World) :
  (Instr.sliceAt t (.slice A len cap) lo hi none).run P w = .ok (sliced A L.toNat H.toNat cap s) w := by
 have ht := elemT_run he
 have hE : P.elem t = e := by simp [Program.elem, ht]
 have ht' : P.underlying t = some (.slice (P.elem t)) := by rw [hE]; exact ht
 rw [run_sliceAt_slice w t _ _ _ _ ht', run_slice_any w t A len cap ht', bounds_run2 hl hh h0 h1 h2 h3 w]
 simp only [Result.andThen_ok, hE, szT_run hs w]
theorem CRep.rm_full {K : Kn} {v : Value} {n sz : Nat} {es : List (List DV)} (h : CRep K v (.rm n sz es)) : ∃ A c, v = .slice A n c ∧ n ≤ es.length ∧ es.length ≤ c ∧ CRep K (.slice A es.length c) (.slc false none sz es) ∧ CRep K v (.slc false none sz (es.take n)) := by
 cases h with
 | @rm _ _ _ b off c us h1 h2 h3 h4 h5 =>
  refine ⟨_, c, rfl, h1, h2, .slc us (by simp) h2 h3 h4 h5, ?_⟩
  have hl : (es.take n).length = n := by rw [List.length_take]; omega
  have key : ∀ i ch, (es.take n)[i]? = some ch → es[i]? = some ch := fun i ch hi => by
   rw [List.getElem?_take] at hi
   split at hi
   ·exact hi
   ·cases hi
  have := CRep.slc (K := K) (nl := none) (sz := sz) (es := es.take n) (b := b) (off := off) (c := c) us (by simp) (by omega) (fun ch hch => h3 ch (List.mem_of_mem_take hch)) (fun i j ch d hi hj => h4 i j ch d (key i ch hi) hj) (fun i j ch d hi hj => h5 i j ch d (key i ch hi) hj)
  rw [hl] at this; exact this
theorem CRep.to_rm {K : Kn} {v : Value} {nl : Option Bool} {sz s H : Nat} {es : List (List DV)} (h : CRep K v (.slc false nl sz es)) (hne : es ≠ []) (hH : H ≤ es.length) : ∃ A cap, v = .slice A es.length cap ∧ es.length ≤ cap ∧ CRep K (sliced A 0 H cap s) (.rm H sz es) := by
 cases h with
 | nil _ => exact absurd rfl hne
 | empty _ => exact absurd rfl hne
 | @slc _ _ _ b off c us g1 g2 g3 g4 g5 =>
  refine ⟨_, c, rfl, g2, ?_⟩
  have hp : 0 < es.length := List.length_pos_iff.2 hne
  have hc0 : ¬ c = 0 := by omega
  have e : sliced (some ⟨b, off, none⟩) 0 H c s = .slice (some ⟨b, off, none⟩) H c := by
   simp only [sliced, if_neg hc0, Option.map_some, addr_add]; simp
  rw [e]
  exact .rm us hH g2 g3 g4 g5
theorem slice_run {t e : TypeId} {s : Nat} (he : elemT P t = some e) (hs : szT P e = some s) {A : Option Addr} {len cap : Nat} {lo hi : Option Value} {L H : Int} (hl : Bnd lo 0 L) (hh : Bnd hi len H) (h0 : 0 ≤ L) (h1 : L ≤ H) (h2 : H ≤ len) (h3 : len ≤ cap) (w : World) :
  (Instr.sliceAt t (.slice A len cap) lo hi none).run P w = .ok (sliced A L.toNat H.toNat cap s) w := by
 have ht := elemT_run he
 have hE : P.elem t = e := by simp [Program.elem, ht]
 have ht' : P.underlying t = some (.slice (P.elem t)) := by rw [hE]; exact ht
 rw [run_sliceAt_slice w t _ _ _ _ ht', run_slice_any w t A len cap ht', bounds_run hl hh h0 h1 h2 h3 w]
 simp only [Result.andThen_ok, hE, szT_run hs w]
theorem take_drop_get {α : Type} {l : List α} {h n i : Nat} {x : α} (hx : ((l.take h).drop n)[i]? = some x) : l[i + n]? = some x ∧ i + n < h := by
 rw [List.getElem?_drop] at hx
 have hlt : n + i < h := by
  have := (List.getElem?_eq_some_iff.1 hx).1
  simp at this; omega
 rw [List.getElem?_take_of_lt hlt] at hx
 exact ⟨by rw [Nat.add_comm]; exact hx, by omega⟩
theorem CRep.cut {K : Kn} {v : Value} {nl : Option Bool} {sz s : Nat} {es : List (List DV)} (h : CRep K v (.slc false nl sz es)) (hs : s = sz ∨ nl = some true) {L H : Nat} (h1 : L ≤ H) (h2 : H ≤ es.length) :
  ∃ A cap, v = .slice A es.length cap ∧ es.length ≤ cap ∧ CRep K (sliced A L H cap s) (.slc false nl sz ((es.take H).drop L)) := by
 cases h with
 | nil g =>
  have : L = 0 := by simp at h2; omega
  subst this
  have : H = 0 := by simpa using h2
  subst this
  exact ⟨none, 0, rfl, Nat.le_refl _, by simp [sliced]; exact .nil g⟩
 | @empty _ _ A c g =>
  have : L = 0 := by simp at h2; omega
  subst this
  have : H = 0 := by simpa using h2
  subst this
  refine ⟨some A, c, rfl, Nat.zero_le _, ?_⟩
  simp only [sliced, List.take_nil, List.drop_nil]
  split
  ·exact .empty g
  ·exact .empty g
 | @slc _ _ _ b off c us g1 g2 g3 g4 g5 =>
  have hs' : s = sz := by rcases hs with e | e
                          · exact e
                          · exact absurd e g1
  subst hs'
  refine ⟨_, c, rfl, g2, ?_⟩
  have hlen : ((es.take H).drop L).length = H - L := by simp; omega
  by_cases hz : H - L = 0
  ·have he : (es.take H).drop L = [] := List.eq_nil_of_length_eq_zero (by omega)
   rw [he]
   simp only [sliced, hz]
   split
   ·exact .empty g1
   ·exact .empty g1
  ·have hcl : ¬ c = L := by omega
   simp only [sliced, if_neg hcl, Option.map_some, addr_add]
   rw [← hlen]
   refine .slc (fun i j => us (i + L) j) g1 (by rw [hlen]; omega) (fun ch hch => g3 ch (List.mem_of_mem_take (List.mem_of_mem_drop hch))) (fun i j ch d hi hj => ?_) (fun i j ch d hi hj => ?_)
   ·have := g4 (i + L) j ch d (take_drop_get hi).1 hj
    rw [Nat.add_mul] at this
    rw [show off + L * s + i * s + j = off + (i * s + L * s) + j by omega]; exact this
   ·exact g5 (i + L) j ch d (take_drop_get hi).1 hj
theorem ORep.cut {K : Kn} {who : Who} {p : Pl} {c : Nat} {v : Value} {nl : Option Bool} {sz s : Nat} {es : List (List DV)} (h : ORep w K who p c v (.slc true nl sz es)) {H : Nat} (h2 : H ≤ es.length) :
  ∃ A cap, v = .slice A es.length cap ∧ es.length ≤ cap ∧ ORep w K who p c (sliced A 0 H cap s) (.slc true nl sz (es.take H)) := by
 cases h with
 | nil g =>
  have : H = 0 := by simpa using h2
  subst this
  exact ⟨none, 0, rfl, Nat.le_refl _, by simp [sliced]; exact .nil g⟩
 | @empty _ _ A g =>
  have : H = 0 := by simpa using h2
  subst this
  exact ⟨some A, 0, rfl, Nat.le_refl _, by simp [sliced]; exact .empty g⟩
 | @slc _ _ _ b off cap g1 g2 g3 g4 g5 g6 =>
  refine ⟨_, cap, rfl, g3, ?_⟩
  have e1 : sliced (some ⟨b, off, none⟩) 0 H cap s = .slice (some ⟨b, off, none⟩) H cap := by
   simp only [sliced, Option.map_some, Nat.zero_mul, addr_add, Nat.add_zero, Nat.sub_zero]
   split <;> rfl
  rw [e1]
  have hl : (es.take H).length = H := by simp; omega
  have key : ORep w K who p c (.slice (some ⟨b, off, none⟩) (es.take H).length cap) (.slc true nl sz (es.take H)) := by
   refine .slc g1 g2 (by rw [hl]; omega) (fun ch hch => g4 ch (List.mem_of_mem_take hch)) g5 ?_
   obtain ⟨cs, el, fr, q1, q2, q3, q4⟩ := g6
   refine ⟨cs, el, fr, q1, q2, q3, fun i j ch d hi hj => q4 i j ch d ?_ hj⟩
   have hlt : i < H := by have := (List.getElem?_eq_some_iff.1 hi).1; omega
   rw [List.getElem?_take_of_lt hlt] at hi; exact hi
  rw [hl] at key; exact key
theorem ORep.cutL {K : Kn} {who : Who} {p : Pl} {c : Nat} {v : Value} {nl : Option Bool} {sz s : Nat} {es : List (List DV)} (h : ORep w K who p c v (.slc true nl sz es)) (hs : s = sz ∨ nl = some true) {L H : Nat} (h1 : L ≤ H) (h2 : H ≤ es.length) :
  ∃ A cap, v = .slice A es.length cap ∧ es.length ≤ cap ∧ ORep w K who p c (sliced A L H cap s) (.slc true nl sz ((es.take H).drop L)) := by
 cases h with
 | nil g =>
  have : H = 0 := by simpa using h2
  subst this
  have : L = 0 := by omega
  subst this
  exact ⟨none, 0, rfl, Nat.le_refl _, by simp [sliced]; exact .nil g⟩
 | @empty _ _ A g =>
  have : H = 0 := by simpa using h2
  subst this
  have : L = 0 := by omega
  subst this
  exact ⟨some A, 0, rfl, Nat.le_refl _, by simp [sliced]; exact .empty g⟩
 | @slc _ _ _ b off cap g1 g2 g3 g4 g5 g6 =>
  have hs' : s = sz := by rcases hs with e | e
                          · exact e
                          · exact absurd e g1
  subst hs'
  refine ⟨_, cap, rfl, g3, ?_⟩
  have hl : ((es.take H).drop L).length = H - L := by simp; omega
  by_cases hc : cap = L
  ·have he : (es.take H).drop L = [] := List.eq_nil_of_length_eq_zero (by omega)
   have e1 : sliced (some ⟨b, off, none⟩) L H cap s = .slice (some ⟨b, off, none⟩) 0 0 := by
    simp only [sliced, if_pos hc]
    congr 1 <;> omega
   rw [e1, he]
   exact .empty g1
  ·have e1 : sliced (some ⟨b, off, none⟩) L H cap s = .slice (some ⟨b, off + L * s, none⟩) ((es.take H).drop L).length (cap - L) := by
    rw [hl]
    simp only [sliced, if_neg hc, Option.map_some, addr_add]
   rw [e1]
   refine .slc g1 g2 (by rw [hl]; omega) (fun ch hch => g4 ch (List.mem_of_mem_take (List.mem_of_mem_drop hch))) g5 ?_
   obtain ⟨cs, el, fr, q1, q2, q3, q4⟩ := g6
   refine ⟨cs, el, fr, q1, ?_, q3, fun i j ch d hi hj => ?_⟩
   ·have : (cap - L) * s + L * s = cap * s := by rw [← Nat.add_mul]; congr 1; omega
    omega
   ·obtain ⟨u, hu, hr⟩ := q4 (i + L) j ch d (take_drop_get hi).1 hj
    refine ⟨u, ?_, hr⟩
    rw [Nat.add_mul] at hu
    rw [show off + L * s + i * s + j = off + (i * s + L * s) + j by omega]; exact hu
end
end Go.Proofs.Ytknkeabmjleoiaa.Vam
/- The machine by value and the model: cuts, lengths, the least and the greatest. -/
namespace Go.Proofs.Ytknkeabmjleoiaa.Vam
open Go
set_option linter.unusedVariables false
set_option linter.unusedSimpArgs false
section
variable {P : Program} {O : Nat → Nat} {C : Query → Answer → Prop} {nt : Nat} {Fr : Nat → Prop} {H0 : Hd} {σ σ' : St} {a : Act} {w : World}

theorem SRel.endF {m : Om} {K : Kn} {who : Who} (h : SRel nt Fr H0 m K who σ a w) {d : Option Tmp} (hd : ∀ t, d = some t → t < nt) {x : AV} {v : Value} {u : Unit} (hx : ∀ t, d = some t → FRep w m K who σ a (.t t) 0 v x) (hp : Does C (putT d x) σ u σ') :
  SRel nt Fr H0 m K who σ' (a.put d v) w := by
 rcases Does.putT hp with ⟨rfl, rfl⟩ | ⟨t, rfl, rfl⟩
 ·exact h
 ·exact h.putF (hd t rfl) (hx t rfl)
theorem FRep.one {m : Om} {K : Kn} {who : Who} {q : Pl} {c : Nat} {v : Value} {d : DV} (hd : d.form = false) (h : CO w K who q c v d) : FRep w m K who σ a q c v (.data d) :=
 ⟨[v], by rw [form_cells hd]; exact .cons h .nil, by simp [hd], fun e => by rw [hd] at e; cases e⟩
theorem FRep.co {m : Om} {K : Kn} {who : Who} {q : Pl} {c : Nat} {v : Value} {d : DV} (hd : d.form = false) (h : FRep w m K who σ a q c v (.data d)) : CO w K who q c v d := by
 obtain ⟨vs, h1, h2, _⟩ := h
 simp only [hd, Bool.false_eq_true, if_false] at h2
 subst h2
 rw [form_cells hd] at h1
 cases h1 with
 | cons g _ => exact g
theorem bnd_of {m : Om} {K : Kn} {who : Who} (h : SRel nt Fr H0 m K who σ a w) {o : Option Operand} {n d : Int} (hd : Does C (match o with | some v => (do vI (← opd v)) | none => pure d) σ n σ') : σ' = σ ∧ Bnd (o.map a.eval) d n := by
 cases o with
 | none => obtain ⟨rfl, e⟩ := Does.pure hd; exact ⟨e, .inl ⟨rfl, rfl⟩⟩
 | some v => obtain ⟨e, k, hk⟩ := iV h hd; exact ⟨e, .inr ⟨k, by simp [hk]⟩⟩
theorem bnd_of2 {m : Om} {K : Kn} {who : Who} (h : SRel nt Fr H0 m K who σ a w) {o : Option Operand} {n : Option Int} (hd : Does C (match o with | some v => (do pure (some (← vI (← opd v)))) | none => pure none) σ n σ') : σ' = σ ∧ ∀ d : Int, Bnd (o.map a.eval) d (n.getD d) ∧ (n = none → o = none) ∧ ∀ x, n = some x → ∃ k, o.map a.eval = some (.int k x) := by
 cases o with
 | none => obtain ⟨rfl, e⟩ := Does.pure hd; exact ⟨e, fun d => ⟨.inl ⟨rfl, rfl⟩, fun _ => rfl, fun x hx => by cases hx⟩⟩
 | some v =>
  obtain ⟨y, σ1, h1, h2⟩ := Does.bind hd
  obtain ⟨n', σ2, h3, h4⟩ := Does.bind h2
  obtain ⟨rfl, e4⟩ := Does.pure h4
  obtain ⟨e1, hv⟩ := h.opd h1
  rw [e1] at h3
  obtain ⟨d', σ3, h5, h6⟩ := Does.bind h3
  obtain ⟨e2, hv2⟩ := h.view hv h5
  rw [e2] at h6
  cases d' with
  | val v' =>
   cases v' with
   | int k q =>
    obtain ⟨rfl, e3⟩ := Does.pure h6
    have hx := urep_val hv2
    exact ⟨by rw [e4, e3], fun d => ⟨.inr ⟨k, by simp [hx]⟩, fun e => by (cases e), fun x hx' => by cases hx'; exact ⟨k, by simp [hx]⟩⟩⟩
   | _ => exact (Does.fail h6).elim
  | _ => exact (Does.fail h6).elim
theorem slice_max_run {t e : TypeId} {s : Nat} (he : elemT P t = some e) (hs : szT P e = some s) {A : Option Addr} {len cap : Nat} {lo : Option Value} {k k' : IntKind} (hl : Bnd lo 0 0) (w : World) :
  (Instr.sliceAt t (.slice A len cap) lo (some (.int k 0)) (some (.int k' 0))).run P w = .ok (.slice A 0 0) w := by
 have ht := elemT_run he
 have hE : P.elem t = e := by simp [Program.elem, ht]
 have ht' : P.underlying t = some (.slice (P.elem t)) := by rw [hE]; exact ht
 have hb : (Instr.sliceBounds true len cap lo (some (.int k 0)) (some (.int k' 0))).run P w = .ok (0, 0, 0) w := by
  rcases hl with ⟨rfl, _⟩ | ⟨k2, rfl⟩
  ·simp [Instr.sliceBounds, run_sliceBound w k' 0 cap _ (by omega) (by omega), run_sliceBound w k 0 0 _ (by omega) (by omega)]
  ·simp [Instr.sliceBounds, run_sliceBound w k' 0 cap _ (by omega) (by omega), run_sliceBound w k 0 0 _ (by omega) (by omega), run_sliceBound w k2 0 0 _ (by omega) (by omega)]
 rw [run_sliceAt_slice w t _ _ _ _ ht', run_slice_any w t A len cap ht', hb]
 simp only [Result.andThen_ok, hE, szT_run hs w, sliced, if_true]
theorem iV1 {m : Om} {K : Kn} {who : Who} (h : SRel nt Fr H0 m K who σ a w) {y : AV} {v : Value} {n : Int} (hv : VRep σ a w m K v y) (hd : Does C (vI y) σ n σ') : σ' = σ ∧ ∃ k, v = .int k n := by
 obtain ⟨d, σ3, h3, h4⟩ := Does.bind hd
 obtain ⟨e2, hv2⟩ := h.view hv h3
 rw [e2] at h4
 cases d with
 | val v =>
  cases v with
  | int k q =>
   obtain ⟨rfl, e3⟩ := Does.pure h4
   exact ⟨e3, k, urep_val hv2⟩
  | _ => exact (Does.fail h4).elim
 | _ => exact (Does.fail h4).elim
theorem urep_slc {K : Kn} {v : Value} {own : Bool} {nl : Option Bool} {sz : Nat} {es : List (List DV)} (h : URep K v (.slc own nl sz es)) : own = false ∧ ∃ A cap, v = .slice A es.length cap ∧ es.length ≤ cap := by
 cases h with
 | nil _ => exact ⟨rfl, none, 0, rfl, Nat.le_refl _⟩
 | empty _ => exact ⟨rfl, _, _, rfl, Nat.zero_le _⟩
 | slc _ _ g _ _ _ => exact ⟨rfl, _, _, rfl, g⟩
theorem slice_str_run {t : TypeId} (ht : P.underlying t = some .string) {u : ByteArray} {lo hi : Option Value} {L H : Int} (hl : Bnd lo 0 L) (hh : Bnd hi u.size H) (h0 : 0 ≤ L) (h1 : L ≤ H) (h2 : H ≤ u.size) (w : World) :
  (Instr.sliceAt t (.string u) lo hi none).run P w = .ok (.string (u.extract L.toNat H.toNat)) w := by
 rw [run_sliceAt_string w t _ _ _ _ ht]
 simp only [Instr.slice]
 rw [run_bind (run_underlying ht w)]
 simp only [Option.isSome_none, Bool.false_eq_true, if_false]
 rw [run_bind (bounds_run (b := false) (len := u.size) (cap := u.size) hl hh h0 h1 h2 (Nat.le_refl _) w)]
 rfl
theorem arrT_run {t : TypeId} {ne : Nat × TypeId} (h : arrT P t = some ne) : P.underlying t = some (.array ne.1 ne.2) := by
 unfold arrT at h
 rw [Option.bind_eq_some_iff] at h
 obtain ⟨D, hD, h⟩ := h
 cases D <;> simp at h
 subst h; exact hD
theorem sliceArr_run {t : TypeId} {ne : Nat × TypeId} {s : Nat} (ha : arrT P t = some ne) (hs : szT P ne.2 = some s) {A : Addr} {lo hi : Option Value} {L H : Int} (hl : Bnd lo 0 L) (hh : Bnd hi ne.1 H) (h0 : 0 ≤ L) (h1 : L ≤ H) (h2 : H ≤ ne.1) (w : World) :
  (Instr.sliceAt t (.pointer (some A)) lo hi none).run P w = .ok (.slice (some (if ne.1 = L.toNat then A else A.add (L.toNat * s))) (H.toNat - L.toNat) (ne.1 - L.toNat)) w := by
 unfold Instr.sliceAt
 rw [run_bind (run_underlying (arrT_run ha) w)]
 simp only [Instr.sureAddr]
 rw [run_bind (show (pure A : Sem Addr).run P w = .ok A w from rfl), run_bind (bounds_run (b := false) (len := ne.1) (cap := ne.1) hl hh h0 h1 h2 (Nat.le_refl _) w), run_bind (szT_run hs w)]
 rfl
theorem chunks_get {s n i j : Nat} {ch c : List DV} {d : DV} (hi : (chunks s ch n)[i]? = some c) (hj : c[j]? = some d) : ch[i * s + j]? = some d := by
 unfold chunks at hi
 rw [List.getElem?_map, Option.map_eq_some_iff] at hi
 obtain ⟨k, hk, rfl⟩ := hi
 have : k = i := by
  have := List.getElem?_eq_some_iff.1 hk
  obtain ⟨_, g⟩ := this
  simpa using g.symm
 subst this
 rw [List.getElem?_take] at hj
 split at hj
 ·rw [List.getElem?_drop] at hj; exact hj
 ·cases hj
theorem chunks_len {s n : Nat} {ch : List DV} (h : n * s ≤ ch.length) : ∀ c, c ∈ chunks s ch n → c.length = s := by
 intro c hc
 unfold chunks at hc
 obtain ⟨i, hi, rfl⟩ := List.mem_map.1 hc
 have hi := List.mem_range.1 hi
 rw [List.length_take, List.length_drop]
 have : i * s + s ≤ n * s := by
  have := Nat.mul_le_mul_right s hi
  rw [Nat.succ_mul] at this; exact this
 omega
theorem op_slice {o : Oper} {t : TypeId} {x : Operand} {lo hi mx : Option Operand} (ho : o.op = .slice t x lo hi mx) : OpOk P O C nt Fr H0 o := by
 intro m K who σ σ' a w u Q Kk h hdst hd hk
 simp only [opPr, ho] at hd
 obtain ⟨t0, σ00, h00, h01⟩ := Does.bind hd
 obtain ⟨hdd, rfl⟩ := Does.of h00
 obtain ⟨a0, σ0, h1, h2⟩ := Does.bind h01
 obtain ⟨e0, hv0⟩ := h.opd h1
 rw [e0] at h2
 obtain ⟨L, σ1, h3, h4⟩ := Does.bind h2
 obtain ⟨e1, hL⟩ := bnd_of h h3
 rw [e1] at h4
 obtain ⟨H, σ2, h5, h6⟩ := Does.bind h4
 obtain ⟨e2, hH⟩ := bnd_of2 h h5
 rw [e2] at h6
 cases mx with
 | some mv =>
  simp only at h6
  obtain ⟨y, σ3, h7, h8⟩ := Does.bind h6
  obtain ⟨e3, hvm⟩ := h.opd h7
  rw [e3] at h8
  obtain ⟨M, σ4, h9, h10⟩ := Does.bind h8
  obtain ⟨e4, km, hM⟩ := iV1 h hvm h9
  rw [e4] at h10
  obtain ⟨_, σ5, h11, h12⟩ := Does.bind h10
  obtain ⟨e5, rfl⟩ := Does.must h11
  obtain ⟨rfl, rfl, rfl⟩ : M = 0 ∧ L = 0 ∧ H = some 0 := of_decide_eq_true e5
  obtain ⟨e, σ6, h13, h14⟩ := Does.bind h12
  obtain ⟨he, rfl⟩ := Does.of h13
  obtain ⟨s, σ7, h15, h16⟩ := Does.bind h14
  obtain ⟨hs, rfl⟩ := Does.of h15
  obtain ⟨d, σ8, h17, h18⟩ := Does.bind h16
  obtain ⟨e6, hv1⟩ := h.view hv0 h17
  rw [e6] at h18
  cases d with
  | slc own nl sz es =>
   obtain ⟨_, A, cap, hx, _⟩ := urep_slc hv1
   obtain ⟨kh, hh⟩ := (hH 0).2.2 0 rfl
   refine wp_val (v := .slice A 0 0) ?_ (hk _ _ _ _ _ (h.endF hdst (fun t' _ => FRep.one rfl ⟨fun e => by simp [DV.owned1] at e, fun _ => ?_⟩) h18) (Kn.le.refl K) (Mp.refl m))
   ·simp only [execOp, ho, hx, hh, Option.map_some, hM]
    rw [run_bind (slice_max_run he hs hL w)]; rfl
   ·cases A with
    | none => exact .nil (by simp)
    | some A => exact .empty (by simp)
  | _ => exact (Does.fail h18).elim
 | none =>
  simp only at h6
  cases h5m : Nat.beq (modeOf O o.dst) 5 with
  | true =>
   rw [h5m] at h6
   simp only [cond_true] at h6
   obtain ⟨d, σ3, h7, h8⟩ := Does.bind h6
   cases d with
   | slc own nl sz es =>
    obtain ⟨e3, hv1⟩ := h.view hv0 h7
    obtain ⟨A, cap, hx, hcap⟩ : ∃ A cap, a.eval x = .slice A es.length cap ∧ es.length ≤ cap := by
     have hv2 : CRep (Kall w) (a.eval x) (.slc own nl sz es) := hv1
     generalize a.eval x = vx at hv2
     cases hv2 with
     | nil _ => exact ⟨_, _, rfl, Nat.le_refl _⟩
     | slc us g1 g2 g3 g4 g5 => exact ⟨_, _, rfl, g2⟩
     | empty _ => exact ⟨_, _, rfl, Nat.zero_le _⟩
    rw [e3] at h8
    obtain ⟨e, σ4, h9, h10⟩ := Does.bind h8
    obtain ⟨he, rfl⟩ := Does.of h9
    obtain ⟨s, σ5, h11, h12⟩ := Does.bind h10
    obtain ⟨hs, rfl⟩ := Does.of h11
    obtain ⟨_, σ6, h13, h14⟩ := Does.bind h12
    obtain ⟨e4, rfl⟩ := Does.need h13
    have hb := of_decide_eq_true e4
    refine wp_val (v := sliced A L.toNat (H.getD es.length).toNat cap s) ?_ (hk _ _ _ _ _ (h.endV (x := .dead) hdst trivial h14) (Kn.le.refl K) (Mp.refl m))
    simp only [execOp, ho, hx, Option.map_none]
    rw [run_bind (slice_run he hs hL ((hH es.length).1) hb.1 hb.2.1 hb.2.2 hcap w)]; rfl
   | _ => exact (Does.fail h8).elim
  | false =>
  rw [h5m] at h6
  simp only [cond_false] at h6
  split at h6
  ·rename_i ch
   obtain ⟨ne, σ3, h7, h8⟩ := Does.bind h6
   obtain ⟨ha, rfl⟩ := Does.of h7
   obtain ⟨s, σ4, h9, h10⟩ := Does.bind h8
   obtain ⟨hs, rfl⟩ := Does.of h9
   obtain ⟨_, σ5, h11, h12⟩ := Does.bind h10
   obtain ⟨e3, rfl⟩ := Does.must h11
   have hn : ne.1 * s ≤ ch.length := of_decide_eq_true e3
   obtain ⟨_, σ6, h13, h14⟩ := Does.bind h12
   obtain ⟨e4, rfl⟩ := Does.need h13
   have hb := of_decide_eq_true e4
   obtain ⟨b, off, hx, hc⟩ := hv0
   refine wp_val (v := .slice (some (if ne.1 = L.toNat then ⟨b, off, none⟩ else (⟨b, off, none⟩ : Addr).add (L.toNat * s))) ((H.getD ne.1).toNat - L.toNat) (ne.1 - L.toNat)) ?_ (hk _ _ _ _ _ (h.endV (x := .data (.slc false (some false) s (((chunks s ch ne.1).take (H.getD ne.1).toNat).drop L.toNat))) hdst ⟨rfl, ?_⟩ h14) (Kn.le.refl K) (Mp.refl m))
   ·simp only [execOp, ho, hx, Option.map_none]
    rw [run_bind (sliceArr_run ha hs hL ((hH ne.1).1) hb.1 hb.2.1 hb.2.2 w)]; rfl
   ·have hlen : (((chunks s ch ne.1).take (H.getD ne.1).toNat).drop L.toNat).length = (H.getD ne.1).toNat - L.toNat := by
     simp only [List.length_drop, List.length_take, chunks, List.length_map, List.length_range]; omega
    by_cases hz : (H.getD ne.1).toNat - L.toNat = 0
    ·rw [hz] at hlen ⊢
     rw [List.eq_nil_of_length_eq_zero hlen]
     exact .empty (by simp)
    ·have hne : ¬ ne.1 = L.toNat := by omega
     rw [if_neg hne, addr_add, ← hlen]
     refine .slc (fun i j => (K b (off + L.toNat * s + i * s + j)).getD undef) (by simp) (by rw [hlen]; omega) (fun c hcm => chunks_len hn c (List.mem_of_mem_take (List.mem_of_mem_drop hcm))) (fun i j c d hi hj => ?_) (fun i j c d hi hj => ?_) <;>
     ·obtain ⟨g1, _⟩ := take_drop_get hi
      obtain ⟨u', q1, q2⟩ := hc _ d (chunks_get g1 hj)
      rw [Nat.add_mul] at q1
      have : off + (i * s + L.toNat * s + j) = off + L.toNat * s + i * s + j := by omega
      rw [this] at q1
      rw [q1]
      first | rfl | exact q2
  obtain ⟨z, σ3, h7, h8⟩ := Does.bind h6
  have hHi := fun d => (hH d).1
  have hrunS : ∀ {A : Option Addr} {len cap s : Nat} {e : TypeId}, a.eval x = .slice A len cap → elemT P t = some e → szT P e = some s → 0 ≤ L → L ≤ H.getD len → H.getD len ≤ len → len ≤ cap → (execOp a.eval o).run P w = .ok (.value (sliced A L.toNat (H.getD len).toNat cap s)) w := by
   intro A len cap s e hx he hs g1 g2 g3 g4
   simp only [execOp, ho, hx, Option.map_none]
   rw [run_bind (slice_run he hs hL (hHi len) g1 g2 g3 g4 w)]; rfl
  have hrunT : ∀ {u : ByteArray}, a.eval x = .string u → P.underlying t = some .string → 0 ≤ L → L ≤ H.getD u.size → H.getD u.size ≤ u.size → (execOp a.eval o).run P w = .ok (.value (.string (u.extract L.toNat (H.getD u.size).toNat))) w := by
   intro u hx ht g1 g2 g3
   simp only [execOp, ho, hx, Option.map_none]
   rw [run_bind (slice_str_run ht hL (hHi u.size) g1 g2 g3 w)]; rfl
  -- what was taken
  have main : ∀ (K' : Kn) (who' : Who), SRel nt Fr H0 m K' who' σ3 a w → K.le K' → (∀ t', o.dst = some t' → FRep w m K' who' σ3 a (.t t') 0 (a.eval x) z) → o.wp P a w Kk Q := by
   intro K' who' g1 g2 g3
   split at h8
   ·rename_i own nl sz es
    obtain ⟨e, σ4, h9, h10⟩ := Does.bind h8
    obtain ⟨he, rfl⟩ := Does.of h9
    obtain ⟨s, σ5, h11, h12⟩ := Does.bind h10
    obtain ⟨hs, rfl⟩ := Does.of h11
    obtain ⟨_, σ6, h13, h14⟩ := Does.bind h12
    obtain ⟨e3, rfl⟩ := Does.must h13
    obtain ⟨_, σ7, h15, h16⟩ := Does.bind h14
    obtain ⟨e4, rfl⟩ := Does.need h15
    obtain ⟨_, σ8, h17, h18⟩ := Does.bind h16
    obtain ⟨e5, rfl⟩ := Does.must h17
    have hb := of_decide_eq_true e4
    have hsz : s = sz ∨ nl = some true := by
     simp only [Bool.or_eq_true, beq_iff_eq] at e3
     exact e3.imp (fun g => Nat.eq_of_beq_eq_true g) id
    cases hd' : o.dst with
    | none => rw [hd'] at hdd; cases hdd
    | some t' =>
     have hco := FRep.co rfl (g3 t' hd')
     cases own with
     | false =>
      cases h7m : (Nat.beq (modeOf O o.dst) 7 && (!false && decide (L = 0))) with
      | true =>
       rw [h7m] at h18
       simp only [cond_true] at h18
       obtain ⟨_, σ9, h19, h20⟩ := Does.bind h18
       obtain ⟨e6, rfl⟩ := Does.need h19
       have hne : es ≠ [] := fun e => by subst e; cases e6
       simp only [Bool.and_eq_true, decide_eq_true_eq] at h7m
       obtain ⟨A, cap, hx, hcap, hc⟩ := (hco.1 rfl).to_rm (s := s) hne (H := (H.getD es.length).toNat) (by omega)
       have hL0 : L.toNat = 0 := by omega
       have hrr := hrunS hx he hs hb.1 hb.2.1 hb.2.2 hcap
       rw [hL0] at hrr
       exact wp_val hrr (hk _ _ _ _ _ (g1.endV hdst (x := .data (.rm (H.getD es.length).toNat sz es)) ⟨rfl, hc⟩ h20) g2 (Mp.refl m))
      | false =>
      rw [h7m] at h18
      simp only [cond_false] at h18
      obtain ⟨A, cap, hx, hcap, hc⟩ := (hco.1 rfl).cut hsz (L := L.toNat) (H := (H.getD es.length).toNat) (by omega) (by omega)
      exact wp_val (hrunS hx he hs hb.1 hb.2.1 hb.2.2 hcap) (hk _ _ _ _ _ (g1.endV hdst (x := .data (.slc false nl sz ((es.take (H.getD es.length).toNat).drop L.toNat))) ⟨rfl, hc⟩ h18) g2 (Mp.refl m))
     | true =>
      obtain ⟨A, cap, hx, hcap, hc⟩ := (hco.2 rfl).cutL hsz (L := L.toNat) (H := (H.getD es.length).toNat) (by omega) (by omega)
      simp only [Bool.not_true, Bool.false_and, Bool.and_false, cond_false] at h18
      refine wp_val (hrunS hx he hs hb.1 hb.2.1 hb.2.2 hcap) (hk _ _ _ _ _ (g1.endF hdst (fun t'' ht'' => ?_) h18) g2 (Mp.refl m))
      rw [hd'] at ht''; cases ht''
      exact FRep.one rfl ⟨fun e => by simp [DV.owned1] at e, fun _ => hc⟩
   ·rename_i n sz es
    obtain ⟨e, σ4, h9, h10⟩ := Does.bind h8
    obtain ⟨he, rfl⟩ := Does.of h9
    obtain ⟨s, σ5, h11, h12⟩ := Does.bind h10
    obtain ⟨hs, rfl⟩ := Does.of h11
    obtain ⟨_, σ6, h13, h14⟩ := Does.bind h12
    obtain ⟨e3, rfl⟩ := Does.must h13
    obtain ⟨_, σ7, h15, h16⟩ := Does.bind h14
    obtain ⟨e4, rfl⟩ := Does.need h15
    have hb := of_decide_eq_true e4
    have hsz : s = sz := Nat.eq_of_beq_eq_true e3
    cases hd' : o.dst with
    | none => rw [hd'] at hdd; cases hdd
    | some t' =>
     have hco := FRep.co rfl (g3 t' hd')
     obtain ⟨A, cap, hx, hn, hcap, hfull, _⟩ := (hco.1 rfl).rm_full
     obtain ⟨A', cap', hx', hcap', hc⟩ := hfull.cut (.inl hsz) (L := L.toNat) (H := (H.getD n).toNat) (by omega) (by omega)
     cases hx'
     have hrr : (execOp a.eval o).run P w = .ok (.value (sliced A L.toNat (H.getD n).toNat cap s)) w := by
      simp only [execOp, ho, hx, Option.map_none]
      rw [run_bind (slice_run2 he hs hL (hHi n) hb.1 hb.2.1 (by omega) (by omega) w)]; rfl
     exact wp_val hrr (hk _ _ _ _ _ (g1.endV hdst (x := .data (.slc false none sz ((es.take (H.getD n).toNat).drop L.toNat))) ⟨rfl, hc⟩ h16) g2 (Mp.refl m))
   ·rename_i u'
    obtain ⟨_, σ4, h9, h10⟩ := Does.bind h8
    obtain ⟨e3, rfl⟩ := Does.must h9
    obtain ⟨_, σ5, h11, h12⟩ := Does.bind h10
    obtain ⟨e4, rfl⟩ := Does.need h11
    have hb := of_decide_eq_true e4
    have hx : a.eval x = .string u' := by
     cases hd' : o.dst with
     | none => rw [hd'] at hdd; cases hdd
     | some t' => exact urep_val ((FRep.co rfl (g3 t' hd')).1 rfl)
    split at e3
    ·rename_i ht
     exact wp_val (hrunT hx ht hb.1 hb.2.1 hb.2.2) (hk _ _ _ _ _ (g1.endV hdst (vrep_val rfl) h12) g2 (Mp.refl m))
    ·cases e3
   ·exact (Does.fail h8).elim
  cases hm : Nat.beq (modeOf O o.dst) 1 with
  | false =>
   rw [hm] at h7
   obtain ⟨K', who', g1, g2, g3, g4, g5⟩ := h.take0 hv0 h7
   refine main K' who' g1 g2 fun t' _ => ?_
   cases z with
   | data d => exact FRep.of_urep g4.2
   | _ => exact g4
  | true =>
   rw [hm] at h7
   obtain ⟨who', g1, g3, g4, g5⟩ := h.take1 hv0 h7 (.t (o.dst.getD 0)) 0
   refine main K who' g1 (Kn.le.refl K) fun t' ht' => ?_
   rw [ht'] at g4; exact g4
end
end Go.Proofs.Ytknkeabmjleoiaa.Vam
/- The machine by value and the model: what is loaded. -/
namespace Go.Proofs.Ytknkeabmjleoiaa.Vam
open Go
set_option linter.unusedVariables false
set_option linter.unusedSimpArgs false
section
variable {P : Program} {O : Nat → Nat} {C : Query → Answer → Prop} {nt : Nat} {Fr : Nat → Prop} {H0 : Hd} {σ σ' : St} {a : Act} {w : World}

theorem cell_of {b o : Nat} {cs : Array Value} {el : TypeId} {fr : Nat × Nat} {v : Value} (h : w.heap[b]? = some (.cells cs el fr)) (hv : cs[o]? = some v) : w.cell? ⟨b, o, none⟩ = some v := by
 simp [World.cell?, h, hv]
theorem SRel.kcell {m : Om} {K : Kn} {who : Who} (h : SRel nt Fr H0 m K who σ a w) {b o : Nat} {v : Value} (hv : K b o = some v) : w.cell? ⟨b, o, none⟩ = some v := by
 obtain ⟨_, cs, el, fr, h1, h2⟩ := h.kv b o v hv
 exact cell_of h1 h2
theorem kall_cell {b o : Nat} {v : Value} (h : Kall w b o = some v) : w.cell? ⟨b, o, none⟩ = some v := by
 unfold Kall at h
 split at h
 ·rename_i cs el fr hh; exact cell_of hh h
 ·cases h
theorem loadVar_agg {t : TypeId} {n : Nat} (hs : szT P t = some n) (ha : aggT P t = some true) {b o : Nat} {us : List Value} (hl : us.length = n) (hc : ∀ j v, us[j]? = some v → w.cell? ⟨b, o + j, none⟩ = some v) :
  (Instr.loadAt t (.pointer (some ⟨b, o, none⟩))).run P w = .ok (.agg us.toArray) w := by
 have h1 : (loadCells ⟨b, o, none⟩ n).run P w = .ok us.toArray w := by
  rw [← hl]
  exact run_loadCells_list w ⟨b, o, none⟩ us fun j v hj => by rw [addr_add]; exact hc j v hj
 simp only [Instr.loadAt, Instr.sureAddr, loadVar]
 rw [run_bind (x := (⟨b, o, none⟩ : Addr)) (w' := w) rfl, run_bind (aggT_run ha w)]
 simp only [if_true]
 rw [run_bind (szT_run hs w), run_bind h1]; rfl
theorem loadVar_one {t : TypeId} (ha : aggT P t = some false) {b o : Nat} {v : Value} (hc : w.cell? ⟨b, o, none⟩ = some v) :
  (Instr.loadAt t (.pointer (some ⟨b, o, none⟩))).run P w = .ok v w := by
 simp only [Instr.loadAt, Instr.sureAddr, loadVar]
 rw [run_bind (x := (⟨b, o, none⟩ : Addr)) (w' := w) rfl, run_bind (aggT_run ha w)]
 simp [hc]
theorem partC_load {t : TypeId} {K : Kn} {ch : List DV} {d : DV} {b o : Nat} (hcell : ∀ j e, ch[j]? = some e → ∃ u, w.cell? ⟨b, o + j, none⟩ = some u ∧ CRep K u e) (hd : Does C (partC P t ch) σ d σ') :
  σ' = σ ∧ ∃ v, (Instr.loadAt t (.pointer (some ⟨b, o, none⟩))).run P w = .ok v w ∧ URep K v d := by
 obtain ⟨n, σ1, h1, h2⟩ := Does.bind hd
 obtain ⟨hs, rfl⟩ := Does.of h1
 obtain ⟨ag, σ2, h3, h4⟩ := Does.bind h2
 obtain ⟨ha, rfl⟩ := Does.of h3
 cases ag with
 | true =>
  obtain ⟨_, σ3, h5, h6⟩ := Does.bind h4
  obtain ⟨e1, rfl⟩ := Does.must h5
  obtain ⟨rfl, rfl⟩ := Does.pure h6
  have hn : n ≤ ch.length := of_decide_eq_true e1
  refine ⟨rfl, ?_⟩
  have hus : ∀ (l : List DV) (o : Nat), (∀ j e, l[j]? = some e → ∃ u, w.cell? ⟨b, o + j, none⟩ = some u ∧ CRep K u e) → ∃ us : List Value, All2 (CRep K) us l ∧ ∀ j v, us[j]? = some v → w.cell? ⟨b, o + j, none⟩ = some v := by
   intro l
   induction l with
   | nil => intro o _; exact ⟨[], .nil, fun j v h => by simp at h⟩
   | cons e l ih =>
    intro o hc
    obtain ⟨u, hu, hr⟩ := hc 0 e rfl
    obtain ⟨us, h1, h2⟩ := ih (o + 1) (fun j e' hj => by
     have := hc (j + 1) e' (by simpa using hj)
     rw [show o + 1 + j = o + (j + 1) by omega]; exact this)
    refine ⟨u :: us, .cons hr h1, fun j v hj => ?_⟩
    cases j with
    | zero => simp at hj; subst hj; simpa using hu
    | succ j => rw [show o + (j + 1) = o + 1 + j by omega]; exact h2 j v (by simpa using hj)
  obtain ⟨us, h7, h8⟩ := hus (ch.take n) o (fun j e hj => hcell j e (by
   have hlt : j < n := by have := (List.getElem?_eq_some_iff.1 hj).1; simp at this; omega
   rw [List.getElem?_take_of_lt hlt] at hj; exact hj))
  exact ⟨.agg us.toArray, loadVar_agg hs ha (by rw [h7.length]; simp; omega) h8, us, rfl, h7⟩
 | false =>
  obtain ⟨e1, rfl⟩ := Does.of h4
  obtain ⟨u, hu, hr⟩ := hcell 0 d e1
  refine ⟨rfl, u, loadVar_one ha hu, ?_⟩
  have := hr.one.2.1
  cases d with
  | agg _ => simp [DV.cell] at this
  | _ => exact hr

theorem BRep.vrep {m : Om} {K : Kn} {who : Who} {p : Pl} {c : Nat} {v : Value} {x : AV} (h : BRep w m K who p c v x) (hn : ∀ d, x ≠ .data d) : VRep σ a w m K v x := by
 have g := h.2
 cases x with
 | dead => trivial
 | data d => exact absurd rfl (hn d)
 | fn f b c => exact g
 | ifc t x => exact g
 | ptr i' o' => exact g
 | _ => exact g.elim
theorem loadPr_ok {m : Om} {K : Kn} {who : Who} {t : TypeId} {y0 z : AV} {xv : Value} {σ1 : St} (h : SRel nt Fr H0 m K who σ a w) (hv0 : VRep σ a w m K xv y0) (h3 : Does C (loadPr P t y0) σ z σ1) :
  σ1 = σ ∧ ∃ v, (Instr.loadAt t xv).run P w = .ok v w ∧ VRep σ a w m K v z := by
 have done : ∀ {v : Value}, σ1 = σ → (Instr.loadAt t xv).run P w = .ok v w → VRep σ a w m K v z → σ1 = σ ∧ ∃ v, (Instr.loadAt t xv).run P w = .ok v w ∧ VRep σ a w m K v z := fun e hr hv => ⟨e, _, hr, hv⟩
 cases y0 with
 | cptr ch =>
  obtain ⟨b, off, hx, hc⟩ := hv0
  obtain ⟨d, σ2, h5, h6⟩ := Does.bind h3
  obtain ⟨rfl, e6⟩ := Does.pure h6
  obtain ⟨e5, v, hr, hv⟩ := partC_load (P := P) (w := w) (b := b) (o := off) (K := K) (fun j e hj => let ⟨u, h1, h2⟩ := hc j e hj; ⟨u, h.kcell h1, h2⟩) h5
  exact done (by rw [e6, e5]) (by rw [hx]; exact hr) ⟨urep_owned hv, hv⟩
 | eptr p k c i j =>
  obtain ⟨zc, σ2, h5, h6⟩ := Does.bind h3
  obtain ⟨rfl, rfl⟩ := Does.gt h5
  obtain ⟨_, σ3, h7, h8⟩ := Does.bind h6
  obtain ⟨e1, rfl⟩ := Does.must h7
  have hkk : k = (σ3 p).k := (Nat.eq_of_beq_eq_true e1).symm
  split at h8
  ·rename_i own nl sz es hcc
   obtain ⟨ch, hch, h9⟩ := Does.askC h8
   obtain ⟨d, σ4, h10, h11⟩ := Does.bind h9
   obtain ⟨rfl, e11⟩ := Does.pure h11
   have hcc' : cellAt p (σ3 p) c = some (.slc own nl sz es) := hcc
   obtain ⟨b, off, n, cap, g1, g2⟩ := hv0.2 hkk own nl sz es hcc'
   have hco := (h.refd (n := none) (v := .slice (some ⟨b, off, none⟩) n cap) g1 hcc').1
   -- the row's cells
   have hrow : ∀ j' e, ch[j']? = some e → ∃ u, w.cell? ⟨b, off + i * sz + j', none⟩ = some u ∧ CRep K u e := by
    intro j' e hj'
    cases own with
    | true =>
     have hO := hco.2 rfl
     generalize hvv : Value.slice (some ⟨b, off, none⟩) n cap = vv at hO
     cases hO with
     | nil _ => cases hvv
     | empty _ => simp at hch
     | slc _ _ _ _ _ g6 =>
      cases hvv
      obtain ⟨cs, el, fr, q1, q2, q3, q4⟩ := g6
      obtain ⟨u, hu, hr⟩ := q4 i j' ch e hch hj'
      exact ⟨u, cell_of q1 hu, hr⟩
    | false =>
     have hO := hco.1 rfl
     generalize hvv : Value.slice (some ⟨b, off, none⟩) n cap = vv at hO
     cases hO with
     | nil _ => cases hvv
     | empty _ => simp at hch
     | slc us _ _ _ g4 g5 =>
      cases hvv
      exact ⟨_, h.kcell (g4 i j' ch e hch hj'), g5 i j' ch e hch hj'⟩
   obtain ⟨e10, v, hr, hv⟩ := partC_load (P := P) (w := w) (b := b) (o := off + i * sz + j) (K := K) (fun j' e hj' => by
    rw [List.getElem?_drop] at hj'
    obtain ⟨u, h1, h2⟩ := hrow _ e hj'
    exact ⟨u, by rw [Nat.add_assoc (off + i * sz)]; exact h1, h2⟩) h10
   exact done (by rw [e11, e10]) (by rw [g2]; exact hr) ⟨urep_owned hv, hv⟩
  ·exact (Does.fail h8).elim
 | ptr i off =>
  obtain ⟨b, hb, hx⟩ := hv0
  obtain ⟨zc, σ2, h5, h6⟩ := Does.bind h3
  obtain ⟨rfl, rfl⟩ := Does.gt h5
  obtain ⟨_, σ3, h7, h8⟩ := Does.bind h6
  obtain ⟨e1, rfl⟩ := Does.must h7
  obtain ⟨n, σ4, h9, h10⟩ := Does.bind h8
  obtain ⟨hs, rfl⟩ := Does.of h9
  obtain ⟨ag, σ5, h11, h12⟩ := Does.bind h10
  obtain ⟨ha, rfl⟩ := Does.of h11
  obtain ⟨b', cs, el, q1, q2, q3⟩ := h.ob i e1
  rw [hb] at q1; cases q1
  have hrc : ∀ c, rcell m a w (.o i) c = cs[c]? := fun c => by simp [rcell, hb, q2]
  cases ag with
  | true =>
   obtain ⟨ds, σ6, h13, h14⟩ := Does.bind h12
   obtain ⟨hds, rfl⟩ := Does.of h13
   obtain ⟨rfl, e14⟩ := Does.pure h14
   obtain ⟨hl, hca⟩ := cellsAt_get hds
   -- the values
   have hle : off + n ≤ cs.size ∨ n = 0 := by
    rcases Nat.eq_zero_or_pos n with g | g
    ·exact .inr g
    ·left
     have h0 := hca (n - 1) (by omega)
     rw [List.getElem?_eq_getElem (by omega)] at h0
     obtain ⟨v', g1, _⟩ := cellAt_of h h0 (fun i' e' => by cases e'; exact e1)
     rw [hrc] at g1
     have := (Array.getElem?_eq_some_iff.1 g1).1; omega
   have hlen : ((cs.toList.drop off).take n).length = n := by simp; omega
   have hR : RefOk m a w (.o i) off (some n) (.agg ((cs.toList.drop off).take n).toArray) := by
    refine ⟨_, rfl, hlen, fun j hj => ?_⟩
    rw [hrc, List.getElem?_take_of_lt hj, List.getElem?_drop]
    simp
   have hrun := loadVar_agg (w := w) (b := b) (o := off) hs ha hlen (fun j v hj => by
    have hlt : j < n := by have := (List.getElem?_eq_some_iff.1 hj).1; omega
    rw [List.getElem?_take_of_lt hlt, List.getElem?_drop] at hj
    exact cell_of q2 (by simpa using hj))
   refine done e14 (by rw [hx]; exact hrun) ?_
   rcases Nat.eq_zero_or_pos n with g | g
   ·subst g
    have : ds = [] := List.eq_nil_of_length_eq_zero hl
    subst this
    have : (seen (.o i) (σ6 (.o i)).k off (some 0) (.agg [])) = .data (.agg []) := rfl
    rw [this]
    exact ⟨rfl, [], by simp, .nil⟩
   ·have hr : refAt (.o i) (σ6 (.o i)) off (some n) = some (.agg ds) := by
     have : Nat.beq n 0 = false := by cases n with
      | zero => omega
      | succ n => rfl
     simp [refAt, this, hds]
    exact seen_rep h rfl hR hr
  | false =>
   simp only at h12
   split at h12
   ·rename_i d hd'
    obtain ⟨rfl, e14⟩ := Does.pure h12
    have hc : cellAt (.o i) (σ5 (.o i)) off = some d := by simp [cellAt, hd']
    obtain ⟨v, g1, g2⟩ := cellAt_of h hc (fun i' e' => by cases e'; exact e1)
    have g1' := g1
    rw [hrc] at g1'
    exact done e14 (by rw [hx]; exact loadVar_one ha (cell_of q2 g1')) (seen_rep h (n := none) rfl g1 hc)
   ·rename_i v hnd hd'
    obtain ⟨rfl, e14⟩ := Does.pure h12
    obtain ⟨r, g1, g2⟩ := q3.get hd'
    exact done e14 (by rw [hx]; exact loadVar_one ha (cell_of q2 (by simpa using g1))) (g2.vrep fun d e => hnd d (by rw [e]))
   ·exact (Does.fail h12).elim
 | _ => exact (Does.fail h3).elim
theorem op_load {o : Oper} {t : TypeId} {x : Operand} (ho : o.op = .load t x) : OpOk P O C nt Fr H0 o := by
 intro m K who σ σ' a w u Q Kk h hdst hd hk
 simp only [opPr, ho] at hd
 obtain ⟨y0, σ0, h1, h2⟩ := Does.bind hd
 obtain ⟨e0, hv0⟩ := h.opd h1
 rw [e0] at h2
 obtain ⟨z, σ1, h3, h4⟩ := Does.bind h2
 obtain ⟨e, v, hr, hv⟩ := loadPr_ok h hv0 h3
 rw [e] at h4
 refine wp_val (v := _) ?_ (hk _ _ _ _ _ (h.endV hdst hv h4) (Kn.le.refl K) (Mp.refl m))
 simp only [execOp, ho]
 rw [run_bind hr]; rfl
end
end Go.Proofs.Ytknkeabmjleoiaa.Vam
/- The machine by value and the model: what is made. -/
namespace Go.Proofs.Ytknkeabmjleoiaa.Vam
open Go
set_option linter.unusedVariables false
set_option linter.unusedSimpArgs false
section
variable {P : Program} {O : Nat → Nat} {C : Query → Answer → Prop} {nt : Nat} {Fr : Nat → Prop} {H0 : Hd} {σ σ' : St} {a : Act} {w : World}

def World.grow (w : World) (o : Obj) : World := { w with heap := w.heap.push o }
theorem grow_get {o : Obj} {b : Nat} (h : b < w.heap.size) : (World.grow w o).heap[b]? = w.heap[b]? := by
 show (w.heap.push o)[b]? = _
 rw [Array.getElem?_push, if_neg (Nat.ne_of_lt h)]
theorem grow_new {o : Obj} : (World.grow w o).heap[w.heap.size]? = some o := by
 show (w.heap.push o)[w.heap.size]? = _
 rw [Array.getElem?_push, if_pos rfl]
theorem grow_size {o : Obj} : (World.grow w o).heap.size = w.heap.size + 1 := by
 show (w.heap.push o).size = _
 rw [Array.size_push]
theorem newVar_run (t : TypeId) (v : Value) (w : World) : (newVar t v).run P w = .ok ⟨w.heap.size, 0, none⟩ (World.grow w (.cells v.cells t)) := rfl
theorem zeroD_rep {own : Bool} : ∀ {vs : List Value} {ss : List Nat} {ds : List DV}, zeroD own vs ss = some ds → vs.length = ds.length ∧ ∀ (w : World) (K : Kn) (who : Who) (p : Pl) (j : Nat) (v : Value) (d : DV), vs[j]? = some v → ds[j]? = some d → ∀ c, CO w K who p c v d
 | [], [], ds, h => by simp [zeroD] at h; subst h; exact ⟨rfl, fun _ _ _ _ j v d hv _ => by simp at hv⟩
 | [], _ :: _, ds, h => by simp [zeroD] at h
 | v :: vs, [], ds, h => by unfold zeroD at h; split at h <;> simp_all
 | v :: vs, s :: ss, ds, h => by
  have key : ∀ {d : DV} {r : List DV}, zeroD own vs ss = some r → d :: r = ds → (∀ (w : World) (K : Kn) (who : Who) (p : Pl) c, CO w K who p c v d) → (v :: vs).length = ds.length ∧ ∀ (w : World) (K : Kn) (who : Who) (p : Pl) (j : Nat) (v' : Value) (d' : DV), (v :: vs)[j]? = some v' → ds[j]? = some d' → ∀ c, CO w K who p c v' d' := by
   intro d r hr e hc
   subst e
   obtain ⟨h1, h2⟩ := zeroD_rep hr
   refine ⟨by simp [h1], fun w K who p j v' d' hv hd c => ?_⟩
   cases j with
   | zero => simp at hv hd; subst hv; subst hd; exact hc w K who p c
   | succ j => exact h2 w K who p j v' d' (by simpa using hv) (by simpa using hd) c
  unfold zeroD at h
  split at h
  ·rename_i e; cases e
  ·rename_i vs' s' ss' e1 e2
   cases e1; cases e2
   rw [Option.map_eq_some_iff] at h
   obtain ⟨r, hr, e⟩ := h
   refine key hr e fun w K who p c => ?_
   cases own with
   | true => exact ⟨fun g => by simp [DV.owned1] at g, fun _ => .nil (by simp)⟩
   | false => exact CO.ofC (.nil (by simp))
  ·rename_i v' vs' s' ss' hn e1 e2
   cases e1; cases e2
   split at h
   ·rename_i hs
    rw [Option.map_eq_some_iff] at h
    obtain ⟨r, hr, e⟩ := h
    exact key hr e fun w K who p c => CO.ofC (.val hs)
   ·cases h
  ·cases h
theorem zeroD_own : ∀ {vs : List Value} {ss : List Nat} {ds : List DV}, zeroD false vs ss = some ds → ∀ d, d ∈ ds → d.owned1 = false
 | [], [], ds, h, d, hd => by simp [zeroD] at h; subst h; simp at hd
 | [], _ :: _, ds, h, _, _ => by simp [zeroD] at h
 | v :: vs, [], ds, h, _, _ => by unfold zeroD at h; split at h <;> simp_all
 | v :: vs, s :: ss, ds, h, d, hd => by
  unfold zeroD at h
  split at h
  ·rename_i e; cases e
  ·rename_i vs' s' ss' e1 e2
   cases e1; cases e2
   rw [Option.map_eq_some_iff] at h
   obtain ⟨r, hr, e⟩ := h
   subst e
   rcases List.mem_cons.1 hd with g | g
   ·subst g; rfl
   ·exact zeroD_own hr d g
  ·rename_i v' vs' s' ss' hn e1 e2
   cases e1; cases e2
   split at h
   ·rw [Option.map_eq_some_iff] at h
    obtain ⟨r, hr, e⟩ := h
    subst e
    rcases List.mem_cons.1 hd with g | g
    ·subst g; rfl
    ·exact zeroD_own hr d g
   ·cases h
  ·cases h
theorem zeroC_own {t : TypeId} {cs : List DV} (h : zeroC P false t = some cs) : ∀ d, d ∈ cs → d.owned1 = false := by
 unfold zeroC at h
 split at h
 ·exact zeroD_own h
 ·cases h
theorem zeroC_run {own : Bool} {t : TypeId} {cs : List DV} (h : zeroC P own t = some cs) : ∃ z : Value, (∀ w : World, (zeroValue t).run P w = .ok z w) ∧ z.cells.toList.length = cs.length ∧
  ∀ (w : World) (K : Kn) (who : Who) (p : Pl) (j : Nat) (v : Value) (d : DV), z.cells.toList[j]? = some v → cs[j]? = some d → ∀ c, CO w K who p c v d := by
 unfold zeroC at h
 split at h
 ·rename_i z ss hz hss
  obtain ⟨h1, h2⟩ := zeroD_rep h
  refine ⟨z, fun w => ?_, h1, h2⟩
  rw [Option.bind_eq_some_iff] at hz
  obtain ⟨i, hi, hz⟩ := hz
  simp [zeroValue, typeInfo, hi, hz]
 ·cases h

theorem SRel.grow {m : Om} {K : Kn} {who : Who} (h : SRel nt Fr H0 m K who σ a w) (o : Obj) (x : Option (Pl × Option Nat)) : SRel nt Fr H0 m K (fun b => if b = w.heap.size then x else who b) σ a (World.grow w o) := by
 refine h.turn (fun b => b = w.heap.size) (fun b hb => h.loose_new (by omega)) (Kn.le.refl K) (fun b o' v hv => ?_) (fun b hb hlt => grow_get hlt) (fun b hb => if_neg hb) (fun b y hb => ?_) ⟨rfl, rfl, rfl, by rw [grow_size]; omega⟩
 ·obtain ⟨h1, cs, el, fr, h2, h3⟩ := h.kv b o' v hv
  have hlt : b < w.heap.size := by
   rcases Nat.lt_or_ge b w.heap.size with g | g
   ·exact g
   ·rw [Array.getElem?_eq_none g] at h2; cases h2
  exact ⟨by rw [if_neg (by omega)]; exact h1, cs, el, fr, (grow_get hlt).trans h2, h3⟩
 ·split at hb
  ·rw [grow_size]; omega
  ·have := h.wh b y hb; rw [grow_size]; omega
theorem Mp.newO {m : Om} {i b : Nat} (hi : i < 1000 ∨ 2000 ≤ i) : Mp m (fun j => if j = i then some b else m j) := fun j b' h1 h2 h3 => by
 have h4 : (if j = i then some b else m j) = some b' := h3
 rw [if_neg (by omega)] at h4; exact h4

theorem op_alloc {o : Oper} {t : TypeId} (ho : o.op = .alloc t) (hnt : nt ≤ 1000) : OpOk P O C nt Fr H0 o := by
 intro m K who σ σ' a w u Q Kk h hdst hd hk
 simp only [opPr, ho] at hd
 obtain ⟨i, σ1, h1, h2⟩ := Does.bind hd
 obtain ⟨hi, rfl⟩ := Does.of h1
 obtain ⟨z, σ2, h3, h4⟩ := Does.bind h2
 obtain ⟨rfl, rfl⟩ := Does.gt h3
 obtain ⟨_, σ3, h5, h6⟩ := Does.bind h4
 obtain ⟨e1, rfl⟩ := Does.must h5
 obtain ⟨cs, σ4, h7, h8⟩ := Does.bind h6
 obtain ⟨hcs, rfl⟩ := Does.of h7
 obtain ⟨_, σ5, h9, h10⟩ := Does.bind h8
 have hσ := Does.st h9
 subst hσ
 have hlt : i < 1000 := Nat.lt_of_lt_of_le (hdst i hi) hnt
 obtain ⟨zv, hz, hzl, hzr⟩ := zeroC_run hcs
 have g1 := h.grow (.cells zv.cells t) (some (.o i, none))
 have hl : (σ4 (.o i)).live = false := by simpa using e1
 have hB : BReps (World.grow w (.cells zv.cells t)) (fun j => if j = i then some w.heap.size else m j) K (fun b => if b = w.heap.size then some (.o i, none) else who b) (.o i) 0 zv.cells.toList (cs.map AV.data) := by
  refine BReps.of_get (by simp [hzl]) fun j v x hv hx => ?_
  rw [List.getElem?_map, Option.map_eq_some_iff] at hx
  obtain ⟨d, hd', rfl⟩ := hx
  have := hzr (World.grow w (.cells zv.cells t)) K (fun b => if b = w.heap.size then some (.o i, none) else who b) (.o i) j v d hv hd' (0 + j)
  exact ⟨this.one.1, this⟩
 have g2 := g1.newO hl (b := w.heap.size) (by simp) (cs := zv.cells) (el := t) grow_new (Nat.lt_succ_self _) hB
 refine wp_val (v := .pointer (some ⟨w.heap.size, 0, none⟩)) (w' := World.grow w (.cells zv.cells t)) ?_ (hk _ _ _ _ _ (g2.endV (x := .ptr i 0) hdst ⟨w.heap.size, by simp, rfl⟩ h10) (Kn.le.refl K) (Mp.newO (.inl hlt)))
 simp only [execOp, ho, Instr.alloc]
 rw [run_bind (x := Value.pointer (some ⟨w.heap.size, 0, none⟩)) (w' := World.grow w (.cells zv.cells t)) ?_]
 ·rfl
 ·rw [run_bind (hz w), run_bind (newVar_run t zv w)]; rfl

theorem cells_one {v : Value} (h : oneC v = true) : v.cells.toList = [v] := by cases v <;> first | rfl | cases h
theorem still_cells {m : Om} {K : Kn} {who : Who} {q : Pl} {c : Nat} {v : Value} {x : AV} (hx : FRep w m K who σ a q c v x) (hs : x.parts.all AV.okCell = true) :
  BReps w m K who q c v.cells.toList x.parts := by
 have one : ∀ {y : AV}, y = x → (∀ d, y ≠ .data d) → y.plain1 = true → ARep1 m K v y → BReps w m K who q c v.cells.toList [y] := by
  intro y _ hnd hp hr
  have ho : oneC v = true ∧ v.cells.toList = [v] := by
   cases y with
   | ptr i o => obtain ⟨b, _, rfl⟩ := hr; exact ⟨rfl, rfl⟩
   | fn f b c => obtain ⟨fv, cv, rfl, _⟩ := hr; exact ⟨rfl, rfl⟩
   | ifc t x => obtain ⟨u, rfl, _⟩ := hr; exact ⟨rfl, rfl⟩
   | data d => exact absurd rfl (hnd d)
   | _ => exact hr.elim
  rw [ho.2]
  refine .cons ⟨ho.1, ?_⟩ .nil
  cases y with
  | data d => exact absurd rfl (hnd d)
  | ptr i o => exact hr
  | fn f b c => exact hr
  | ifc t x => exact hr
  | _ => exact hr.elim
 cases x with
 | data d =>
  obtain ⟨vs, h1, h2, h3⟩ := hx
  have hv : v.cells.toList = vs := by
   cases hf : d.form with
   | true => rw [hf] at h2; simpa using h2.symm
   | false =>
    rw [hf] at h2
    simp only [Bool.false_eq_true, if_false] at h2
    subst h2
    rw [form_cells hf] at h1
    cases h1 with
    | cons g _ =>
     exact cells_one g.one.1
  rw [hv]
  refine BReps.of_get (by simp [AV.parts, h1.length]) fun j u y hu hy => ?_
  simp only [AV.parts] at hy
  rw [List.getElem?_map, Option.map_eq_some_iff] at hy
  obtain ⟨e, he, rfl⟩ := hy
  have := h1.get2 hu he
  exact ⟨this.one.1, this⟩
 | dead => simp [AV.parts, AV.okCell, AV.plain1, AV.plain0] at hs
 | ref _ _ _ _ => simp [AV.parts, AV.okCell, AV.plain1, AV.plain0] at hs
 | eptr _ _ _ _ _ => simp [AV.parts, AV.okCell, AV.plain1, AV.plain0] at hs
 | cptr _ => simp [AV.parts, AV.okCell, AV.plain1, AV.plain0] at hs
 | tup _ => simp [AV.parts, AV.okCell, AV.plain1, AV.plain0] at hs
 | orow _ _ => simp [AV.parts, AV.okCell, AV.plain1, AV.plain0] at hs
 | ptr i o => exact one rfl (by simp) rfl hx
 | fn f b c => exact one rfl (by simp) (by simpa [AV.parts, AV.okCell] using hs) hx
 | ifc t x => exact one rfl (by simp) (by simpa [AV.parts, AV.okCell] using hs) hx

theorem op_box {o : Oper} {t : TypeId} {x : Operand} (ho : o.op = .box t x) (hnt : nt ≤ 1000) : OpOk P O C nt Fr H0 o := by
 intro m K who σ σ' a w u Q Kk h hdst hd hk
 simp only [opPr, ho] at hd
 obtain ⟨i, σ1, h1, h2⟩ := Does.bind hd
 obtain ⟨hi, rfl⟩ := Does.of h1
 obtain ⟨y, σ2, h3, h4⟩ := Does.bind h2
 obtain ⟨e0, hv0⟩ := h.opd h3
 rw [e0] at h4
 obtain ⟨v, σ3, h5, h6⟩ := Does.bind h4
 have hlt : i < 1000 := Nat.lt_of_lt_of_le (hdst i hi) hnt
 have main : ∀ (K' : Kn) (who' : Who), SRel nt Fr H0 m K' who' σ3 a w → K.le K' → FRep w m K' who' σ3 a (.o i) 0 (a.eval x) v → o.wp P a w Kk Q := by
  intro K' who' g1 g2 g3
  obtain ⟨z, σ4, h7, h8⟩ := Does.bind h6
  obtain ⟨rfl, rfl⟩ := Does.gt h7
  obtain ⟨_, σ5, h9, h10⟩ := Does.bind h8
  obtain ⟨e1, rfl⟩ := Does.must h9
  obtain ⟨_, σ6, h11, h12⟩ := Does.bind h10
  obtain ⟨e2, rfl⟩ := Does.must h11
  obtain ⟨_, σ7, h13, h14⟩ := Does.bind h12
  have hσ := Does.st h13
  subst hσ
  have hl : (σ6 (.o i)).live = false := by simpa using e1
  have g4 := (FRep.norm (P := P) t g3)
  have g5 := still_cells g4 e2
  have g6 := g1.grow (.cells (a.eval x).cells t) (some (.o i, none))
  have hm : m.le (fun j => if j = i then some w.heap.size else m j) := fun j b' g => by
   by_cases e : j = i
   ·subst e
    have := (g1.om j b' g).1; rw [hl] at this; cases this
   ·simp only [if_neg e]; exact g
  have g7 := g6.newO hl (b := w.heap.size) (by simp) (cs := (a.eval x).cells) (el := t) grow_new (Nat.lt_succ_self _)
   (g5.keep hm (Kn.le.refl K') fun b j d _ _ hb => by
    have hlt' := g1.wh b _ hb
    exact ⟨by rw [if_neg (by omega)]; exact hb, grow_get hlt'⟩)
  refine wp_val (v := .pointer (some ⟨w.heap.size, 0, none⟩)) (w' := World.grow w (.cells (a.eval x).cells t)) ?_ (hk _ _ _ _ _ (g7.endV (x := .ptr i 0) hdst ⟨w.heap.size, by simp, rfl⟩ h14) g2 (Mp.newO (.inl hlt)))
  simp only [execOp, ho, Instr.box]
  rw [run_bind (x := Value.pointer (some ⟨w.heap.size, 0, none⟩)) (w' := World.grow w (.cells (a.eval x).cells t)) ?_]
  ·rfl
  ·rw [run_bind (newVar_run t _ w)]; rfl
 cases hmo : Nat.beq (modeOf O o.dst) 1 with
 | false =>
  rw [hmo] at h5
  obtain ⟨K', who', g1, g2, g3, g4, g5⟩ := h.take0 hv0 h5
  refine main K' who' g1 g2 ?_
  cases v with
  | data d => exact FRep.of_urep g4.2
  | _ => exact g4
 | true =>
  rw [hmo] at h5
  obtain ⟨who', g1, g3, g4, g5⟩ := h.take1 hv0 h5 (.o i) 0
  exact main K who' g1 (Kn.le.refl K) g4
end
end Go.Proofs.Ytknkeabmjleoiaa.Vam
/- The machine by value and the model: rows that are made. -/
namespace Go.Proofs.Ytknkeabmjleoiaa.Vam
open Go
set_option linter.unusedVariables false
set_option linter.unusedSimpArgs false
section
variable {P : Program} {O : Nat → Nat} {C : Query → Answer → Prop} {nt : Nat} {Fr : Nat → Prop} {H0 : Hd} {σ σ' : St} {a : Act} {w : World}

theorem wrap_small {n : Int} (h0 : 0 ≤ n) (h1 : n ≤ 4294967296) : IntKind.i64.wrap n = n := by rw [IntKind.wrap_i64]; omega
def zeroRow (z : Array Value) (n : Nat) : Array Value := (Array.range n).map (z[· % z.size]!)
theorem zeroRow_size (z : Array Value) (n : Nat) : (zeroRow z n).size = n := by simp [zeroRow]
theorem zeroRow_get {z : Array Value} {n s i j : Nat} {v : Value} (hs : z.size = s) (hj : z.toList[j]? = some v) (hlt : i * s + j < n) : (zeroRow z n)[i * s + j]? = some v := by
 have hjs : j < s := by
  have := (List.getElem?_eq_some_iff.1 hj).1; simpa [hs] using this
 unfold zeroRow
 rw [Array.getElem?_map, Array.getElem?_range]
 rw [if_pos hlt]
 simp only [Option.map_some, hs]
 have : (i * s + j) % s = j := by rw [Nat.add_comm, Nat.add_mul_mod_self_right, Nat.mod_eq_of_lt hjs]
 rw [this]
 have hv : z[j]? = some v := by simpa using hj
 rw [getElem!_pos z j (by omega)]
 rw [Array.getElem?_eq_getElem (by omega)] at hv
 exact hv
theorem makeSlice_run {t e : TypeId} {s b : Nat} {z : Value} (he : elemT P t = some e) (hs : szT P e = some s) (hb : bytT P e = some b) (hz : ∀ w : World, (zeroValue e).run P w = .ok z w) {k k' : IntKind} {n m : Int} (hsb : 0 < s ∧ b ≤ 4096) (hn : 0 ≤ n ∧ n ≤ m ∧ m ≤ 4294967296) (w : World) :
  ∃ row : Array Value, (row.size = m.toNat * s) ∧ (0 < m → row = zeroRow z.cells (m.toNat * s)) ∧ (Instr.makeSlice t (.int k n) (.int k' m)).run P w = .ok (.slice (some ⟨w.heap.size, 0, none⟩) n.toNat m.toNat) (World.grow w (.cells row e)) := by
 have hbr : ∀ w : World, ∃ i : TypeInfo, (typeInfo e).run P w = .ok i w ∧ i.bytes = b := by
  intro w
  unfold bytT at hb
  rw [Option.map_eq_some_iff] at hb
  obtain ⟨i, hi, rfl⟩ := hb
  exact ⟨i, by simp [typeInfo, hi], rfl⟩
 obtain ⟨i, hi, hib⟩ := hbr w
 have w1 := wrap_small (n := n) hn.1 (by omega)
 have w2 := wrap_small (n := m) (by omega) hn.2.2
 have hlim : ¬ ((b : Int) * m > 2 ^ 48) := by
  have h1 : (b : Int) * m ≤ 4096 * 4294967296 := Int.mul_le_mul (by omega) hn.2.2 (by omega) (by omega)
  have h2 : (2 : Int) ^ 48 = 281474976710656 := by decide
  rw [h2]; omega
 have hlim' : (decide (m < 0) || decide ((b : Int) * m > 2 ^ 48)) = false := by
  simp only [Bool.or_eq_false_iff, decide_eq_false_iff_not]
  exact ⟨by omega, hlim⟩
 refine ⟨if m.toNat * s = 0 then (Array.range (m.toNat * s)).map ((#[] : Array Value)[· % (#[] : Array Value).size]!) else zeroRow z.cells (m.toNat * s), ?_, fun h0 => ?_, ?_⟩
 ·split
  ·simp
  ·exact zeroRow_size _ _
 ·rw [if_neg]
  have : 0 < m.toNat := by omega
  exact Nat.ne_of_gt (Nat.mul_pos this hsb.1)
 ·unfold Instr.makeSlice
  rw [run_bind (run_underlying (elemT_run he) w)]
  simp only [asInt, asIntOf]
  rw [run_bind (x := n) (w' := w) rfl, run_bind (x := m) (w' := w) rfl, run_bind hi]
  simp only [w1, w2, hib]
  rw [if_neg]
  ·rw [run_bind (run_askRoom P w _), run_bind (szT_run hs w)]
   by_cases h0 : m.toNat * s = 0
   ·rw [if_pos h0, if_pos h0]
    rw [run_bind (x := (#[] : Array Value)) (w' := w) rfl]
    rfl
   ·rw [if_neg h0, if_neg h0]
    rw [run_bind (hz w)]
    rfl
  ·rw [hlim']
   simp only [Bool.false_or, Bool.or_eq_true, decide_eq_true_eq]
   omega
theorem op_makeSlice {o : Oper} {t : TypeId} {l c : Operand} (ho : o.op = .makeSlice t l c) : OpOk P O C nt Fr H0 o := by
 intro m K who σ σ' a w u Q Kk h hdst hd hk
 simp only [opPr, ho] at hd
 obtain ⟨e, σ1, h1, h2⟩ := Does.bind hd
 obtain ⟨he, rfl⟩ := Does.of h1
 obtain ⟨s, σ2, h3, h4⟩ := Does.bind h2
 obtain ⟨hs, rfl⟩ := Does.of h3
 obtain ⟨b, σ3, h5, h6⟩ := Does.bind h4
 obtain ⟨hb, rfl⟩ := Does.of h5
 obtain ⟨zc, σ4, h7, h8⟩ := Does.bind h6
 obtain ⟨hzc, rfl⟩ := Does.of h7
 obtain ⟨y1, σ5, h9, h10⟩ := Does.bind h8
 obtain ⟨e1, hv1⟩ := h.opd h9
 rw [e1] at h10
 obtain ⟨n, σ6, h11, h12⟩ := Does.bind h10
 obtain ⟨e2, k1, hn⟩ := iV1 h hv1 h11
 rw [e2] at h12
 obtain ⟨y2, σ7, h13, h14⟩ := Does.bind h12
 obtain ⟨e3, hv2⟩ := h.opd h13
 rw [e3] at h14
 obtain ⟨cc, σ8, h15, h16⟩ := Does.bind h14
 obtain ⟨e4, k2, hc⟩ := iV1 h hv2 h15
 rw [e4] at h16
 obtain ⟨_, σ9, h17, h18⟩ := Does.bind h16
 obtain ⟨q1, rfl⟩ := Does.must h17
 obtain ⟨_, σ10, h19, h20⟩ := Does.bind h18
 obtain ⟨q2, rfl⟩ := Does.must h19
 obtain ⟨_, σ11, h21, h22⟩ := Does.bind h20
 obtain ⟨q3, rfl⟩ := Does.need h21
 have hsb : 0 < s ∧ b ≤ 4096 := of_decide_eq_true q2
 have hnm : 0 ≤ n ∧ n ≤ cc ∧ cc ≤ 4294967296 := of_decide_eq_true q3
 have hzl : zc.length = s := Nat.eq_of_beq_eq_true q1
 obtain ⟨z, hz, hl, hr⟩ := zeroC_run hzc
 obtain ⟨row, r1, r2, r3⟩ := makeSlice_run (k := k1) (k' := k2) he hs hb hz hsb hnm w
 have g1 := h.grow (.cells row e) (some (.t (o.dst.getD 0), some 0))
 refine wp_val (v := .slice (some ⟨w.heap.size, 0, none⟩) n.toNat cc.toNat) (w' := World.grow w (.cells row e)) ?_ (hk _ _ _ _ _ (g1.endF hdst (fun t' ht' => FRep.one rfl ⟨fun e => by simp [DV.owned1] at e, fun _ => ?_⟩) h22) (Kn.le.refl K) (Mp.refl m))
 ·simp only [execOp, ho, hn, hc]
  rw [run_bind r3]; rfl
 ·by_cases h0 : cc = 0
  ·subst h0
   have : n = 0 := by omega
   subst this
   exact .empty (by simp)
  ·have hE : ORep (World.grow w (.cells row e)) K (fun b => if b = w.heap.size then some (.t (o.dst.getD 0), some 0) else who b) (.t t') 0 (.slice (some ⟨w.heap.size, 0, none⟩) (List.replicate n.toNat zc).length cc.toNat) (.slc true (some false) s (List.replicate n.toNat zc)) := by
    refine .slc (by simp) hsb.1 (by simp; omega) (fun ch hch => by rw [List.mem_replicate] at hch; rw [hch.2]; exact hzl) (by simp [ht']) ⟨row, e, (0, 0), grow_new, by rw [r1]; omega, fun j _ => by simp, fun i j ch d hi hj => ?_⟩
    rw [List.getElem?_replicate] at hi
    split at hi
    ·rename_i hin
     cases hi
     have hjl := (List.getElem?_eq_some_iff.1 hj).1
     obtain ⟨v, hv⟩ : ∃ v, z.cells.toList[j]? = some v := ⟨_, List.getElem?_eq_getElem (by omega)⟩
     have hco := hr w K who (.t 0) j v d hv hj 0
     refine ⟨v, ?_, hco.1 (zeroC_own hzc d (List.mem_of_getElem? hj))⟩
     rw [r2 (by omega), Nat.zero_add]
     refine zeroRow_get (by have : z.cells.size = z.cells.toList.length := by simp
                            omega) hv ?_
     have : i + 1 ≤ cc.toNat := by omega
     have := Nat.mul_le_mul_right s this
     rw [Nat.add_mul, Nat.one_mul] at this
     omega
    ·cases hi
   rw [List.length_replicate] at hE
   exact hE
end
end Go.Proofs.Ytknkeabmjleoiaa.Vam
