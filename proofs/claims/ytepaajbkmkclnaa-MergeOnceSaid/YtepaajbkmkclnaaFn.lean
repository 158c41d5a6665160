/- Words of this session: a call of a function that comes out of a slot (a method value, a function as a value), and what a nil slice reads as. -/
import Derived.Test.YtepaajbkmkclnaaWMore
import Derived.Test.YtepaajbkmkclnaaWLast
import Derived.Test.YtepaajbkmkclnaaWApart
import Derived.Lib.SliceRun
namespace Go.Proofs.Ytepaajbkmkclnaa.Fn
open Go Go.RowKit Go.Proofs.YtepaajbkmkclnaaW.PrintWords Go.Proofs.YtepaajbkmkclnaaW.PrintLast Go.Proofs.YtepaajbkmkclnaaW.PrintMore
section
variable {P : Program} {ops : Array Oper} {Q : Exit → Act → World → Prop}
theorem gate_value {rest : List Oper} {o : Oper} {a : Act} {W : World} {x : Operand} {as : Array Operand} {ts : Array TypeId} (N : Option Tmp) (_hd : o.dst = N) (_ho : o.op = .call { callee := .value x, args := as, argTypes := ts }) (h : wpList P ops Q (o :: rest) a W) : wpList P ops Q (o :: rest) a W := h
theorem enters_value {f : FuncId} {fn : Func} (hf : P.funcs[f]? = some fn) (hname : (fn.name == "runtime.NumGoroutine") = false) (hb : fn.body.isSome = true) {oi : Oper} {a : Act} (w : World) {x : Operand} {as : Array Operand} {ts : Array TypeId} {first captured args : Array Value}
    (hop : oi.op = .call { callee := .value x, args := as, argTypes := ts }) (hx : a.eval x = .func (.func f) first captured) (hargs : first ++ as.map a.eval ++ captured = args) : (execOp a.eval oi).run P w = .ok (.enter f args) w := by
  have he := enters_ hf hname hb args w
  unfold execOp
  simp only [hop, resolve, hx, Deferred.ofValue]
  subst hargs
  simpa [invoke] using he
theorem goesV_ {rest : List Oper} {oi : Oper} {a : Act} {w : World} (N : Option Tmp) (hd : oi.dst = N) (hg : oi.guard = none) {f : FuncId} {fn : Func} {x : Operand} {as : Array Operand} {ts : Array TypeId} (hf : P.funcs[f]? = some fn) (hname : (fn.name == "runtime.NumGoroutine") = false) (hb : fn.body.isSome = true) (args : Array Value)
    (hop : oi.op = .call { callee := .value x, args := as, argTypes := ts }) {first captured : Array Value} (hx : a.eval x = .func (.func f) first captured) (hargs : first ++ as.map a.eval ++ captured = args)
    (h : Calls P f args w fun e w' => ∃ v, e = .returned v ∧ wpList P ops Q rest (a.put N v) w') : wpList P ops Q (oi :: rest) a w := by
  refine wpList_plain hg fun K hK => ?_
  have hrun := enters_value hf hname hb w hop hx hargs
  unfold Oper.wp
  rw [hrun, Oper.upon_enter]
  refine h.mono fun e w'' hh => ?_
  obtain ⟨v, rfl, hk⟩ := hh
  subst hd
  exact hK _ _ hk
theorem goesV1_ {oi : Oper} {N : Option Tmp} {a : Act} {w : World} {K : Act → World → Prop} {f : FuncId} {fn : Func} {x : Operand} {as : Array Operand} {ts : Array TypeId} (hf : P.funcs[f]? = some fn) (hname : (fn.name == "runtime.NumGoroutine") = false) (hb : fn.body.isSome = true) (args : Array Value)
    (hw : Region.wanted oi (yielded ops a.tmps) = true) (hN : oi.dst = N) (hop : oi.op = .call { callee := .value x, args := as, argTypes := ts }) {first captured : Array Value} (hx : a.eval x = .func (.func f) first captured) (hargs : first ++ as.map a.eval ++ captured = args)
    (h : Calls P f args w fun e w' => ∃ v, e = .returned v ∧ K (a.put N v) w') : if Region.wanted oi (yielded ops a.tmps) = true then Oper.wp P oi a w K Q else K (a.put N undef) w :=
  call_ f args hw hN (enters_value hf hname hb w hop hx hargs) h
end
/-- A nil slice reads as no elements. -/
theorem C_none {α : Type} {d : Kd α} {w : World} {n : Nat} {xs : List α} (h : d.C w none n xs) : xs = [] := by
  cases xs with
  | nil => rfl
  | cons x xs =>
    have hn : n = (x :: xs).length := by
      have := h.1
      simpa using this.symm
    obtain ⟨ad, _, e, _⟩ := Kd.C_get h x 0 (by decide) (by rw [hn]; simp)
    cases e
/-- A cut to within the room. -/
theorem cut_room {P : Program} (t e : TypeId) (kh : IntKind) {i : TypeInfo} (ht : P.underlying t = some (.slice e)) (hi : P.info? e = some i) (A : Option Addr) (n c : Nat) (j : Int) (h0 : 0 ≤ j) (hm : j ≤ c) :
    ∀ W : World, (Instr.slice t (.slice A n c) none (some (.int kh j)) none).run P W = .ok (.slice A j.toNat c) W := by
  intro W
  have hel : P.elem t = e := by simp [Program.elem, ht]
  have hu : P.underlying t = some (.slice (P.elem t)) := by rw [hel]; exact ht
  have ha : (A.map fun x => x.add 0) = A := by cases A <;> simp [Addr.add]
  rw [run_slice_h W t A n c hu kh j h0 hm, hel]
  simp [sizeOf, typeInfo, hi, sliced, Result.andThen, ha]
theorem V_none {α : Type} {d : Kd α} {e n c : Nat} {W : World} {base : Nat} {ok : Nat → Prop} {xs : List α} (h : Kd.V d e W base ok (.slice none n c) xs) : xs = [] := C_none (Kd.V_reads' h).2.2
end Go.Proofs.Ytepaajbkmkclnaa.Fn
