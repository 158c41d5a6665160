/- Words of this session: a call of a function that comes out of a slot (a method value, a function as a value), and what a nil slice reads as. -/
import Derived.Test.YthaaadjgjpjjpaaWMore
import Derived.Test.YthaaadjgjpjjpaaWLast
import Derived.Test.YthaaadjgjpjjpaaWApart
import Derived.Lib.SliceRun
namespace Go.Proofs.Ythaaadjgjpjjpaa.Fn
open Go Go.RowKit Go.Proofs.YthaaadjgjpjjpaaW.PrintWords Go.Proofs.YthaaadjgjpjjpaaW.PrintLast Go.Proofs.YthaaadjgjpjjpaaW.PrintMore
section
variable {P : Program} {ops : Array Oper} {Q : Exit → Act → World → Prop}
theorem gate_value {rest : List Oper} {o : Oper} {a : Act} {W : World} {x : Operand} {as : Array Operand} {ts : Array TypeId} (N : Option Tmp) (_hd : o.dst = N) (_ho : o.op = .call { callee := .value x, args := as, argTypes := ts }) (h : wpList P ops Q (o :: rest) a W) : wpList P ops Q (o :: rest) a W := h
theorem enters_value {f : FuncId} {fn : Func} (hf : P.funcs[f]? = some fn) (hname : (fn.name == "runtime.NumGoroutine") = false) (hb : fn.body.isSome = true) {oi : Oper} {a : Act} (w : World) {x : Operand} {as : Array Operand} {ts : Array TypeId} {first captured args : Array Value}
    (hop : oi.op = .call { callee := .value x, args := as, argTypes := ts }) (hx : a.eval x = .func (.func f) first captured) (hargs : first ++ as.map a.eval ++ captured = args) : (execOp a.eval oi).run P w = .ok (.enter f args) w := by
  have he := enters_ hf hname hb args w
  unfold execOp
  simp only [hop, resolve, hx, Deferred.ofValue]
  subst hargs
  simpa [invoke] using he
theorem goesV_ {rest : List Oper} {oi : Oper} {a : Act} {w : World} (N : Option Tmp) (hd : oi.dst = N) (hg : oi.guard = none) {f : FuncId} {fn : Func} {x : Operand} {as : Array Operand} {ts : Array TypeId} (hf : P.funcs[f]? = some fn) (hname : (fn.name == "runtime.NumGoroutine") = false) (hb : fn.body.isSome = true) (args : Array Value)
    (hop : oi.op = .call { callee := .value x, args := as, argTypes := ts }) {first captured : Array Value} (hx : a.eval x = .func (.func f) first captured) (hargs : first ++ as.map a.eval ++ captured = args)
    (h : Calls P f args w fun e w' => ∃ v, e = .returned v ∧ wpList P ops Q rest (a.put N v) w') : wpList P ops Q (oi :: rest) a w := by
  refine wpList_plain hg fun K hK => ?_
  have hrun := enters_value hf hname hb w hop hx hargs
  unfold Oper.wp
  rw [hrun, Oper.upon_enter]
  refine h.mono fun e w'' hh => ?_
  obtain ⟨v, rfl, hk⟩ := hh
  subst hd
  exact hK _ _ hk
theorem goesV1_ {oi : Oper} {N : Option Tmp} {a : Act} {w : World} {K : Act → World → Prop} {f : FuncId} {fn : Func} {x : Operand} {as : Array Operand} {ts : Array TypeId} (hf : P.funcs[f]? = some fn) (hname : (fn.name == "runtime.NumGoroutine") = false) (hb : fn.body.isSome = true) (args : Array Value)
    (hw : Region.wanted oi (yielded ops a.tmps) = true) (hN : oi.dst = N) (hop : oi.op = .call { callee := .value x, args := as, argTypes := ts }) {first captured : Array Value} (hx : a.eval x = .func (.func f) first captured) (hargs : first ++ as.map a.eval ++ captured = args)
    (h : Calls P f args w fun e w' => ∃ v, e = .returned v ∧ K (a.put N v) w') : if Region.wanted oi (yielded ops a.tmps) = true then Oper.wp P oi a w K Q else K (a.put N undef) w :=
  call_ f args hw hN (enters_value hf hname hb w hop hx hargs) h
end
/-- A nil slice reads as no elements. -/
theorem C_none {α : Type} {d : Kd α} {w : World} {n : Nat} {xs : List α} (h : d.C w none n xs) : xs = [] := by
  cases xs with
  | nil => rfl
  | cons x xs =>
    have hn : n = (x :: xs).length := by
      have := h.1
      simpa using this.symm
    obtain ⟨ad, _, e, _⟩ := Kd.C_get h x 0 (by decide) (by rw [hn]; simp)
    cases e
end Go.Proofs.Ythaaadjgjpjjpaa.Fn
