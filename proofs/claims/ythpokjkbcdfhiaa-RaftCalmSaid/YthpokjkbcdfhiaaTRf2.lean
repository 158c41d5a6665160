/- When two states of a member are the same: what the program and the document's answer say. -/
import Derived.Test.YthpokjkbcdfhiaaTRf1
namespace Go.Proofs.Ythpokjkbcdfhiaa.Told.RA
open Go Go.Proofs.Ythpokjkbcdfhiaa.Vam Go.Proofs.Ythpokjkbcdfhiaa.Told
set_option linter.unusedSimpArgs false
set_option linter.unusedVariables false
theorem ba_ext {x y : ByteArray} (h : x.toList = y.toList) : x = y := by
 rw [ByteArray.toList_eq, ByteArray.toList_eq] at h
 cases x; cases y
 simp only [Array.toList_inj] at h
 rw [h]
theorem ba_inj {x y : ByteArray} : x.toList = y.toList ↔ x = y := ⟨ba_ext, fun h => by rw [h]⟩
def bqB (x y : Bool) : Bool := x == y
def bqI (x y : Int) : Bool := x == y
def inlB (b : Bool) : Unit ⊕ Unit := bif b then .inl () else .inr ()
def eqL {α : Type} (f : α → α → Bool) : List α → List α → Bool
 | [], [] => true
 | x :: a, y :: b => f x y && eqL f a b
 | _, _ => false
theorem eqL_iff {α : Type} {f : α → α → Bool} (hf : ∀ x y, f x y = true ↔ x = y) : ∀ {a b : List α}, eqL f a b = true ↔ a = b
 | [], [] => by simp [eqL]
 | [], _ :: _ => by simp [eqL]
 | _ :: _, [] => by simp [eqL]
 | x :: a, y :: b => by simp [eqL, hf, eqL_iff hf (a := a)]
theorem eqL_len {α : Type} {f : α → α → Bool} : ∀ {a b : List α}, a.length ≠ b.length → eqL f a b = false
 | [], [], h => absurd rfl h
 | [], _ :: _, _ => rfl
 | _ :: _, [], _ => rfl
 | x :: a, y :: b, h => by simp only [eqL, eqL_len (a := a) (b := b) (by simpa using h), Bool.and_false]
def rdB (x y : TRead) : Bool := (x.Key.toList == y.Key.toList) && ((x.Version == y.Version) && ((x.Val.toList == y.Val.toList) && ((x.There == y.There) && true)))
theorem rdB_iff (x y : TRead) : rdB x y = true ↔ x = y := by
 cases x; cases y; simp only [rdB, Bool.and_eq_true, beq_iff_eq, ba_inj, TRead.mk.injEq, and_true]
def wrB (x y : TWrite) : Bool := (x.Key.toList == y.Key.toList) && ((x.Val.toList == y.Val.toList) && ((x.Gone == y.Gone) && true))
theorem wrB_iff (x y : TWrite) : wrB x y = true ↔ x = y := by
 cases x; cases y; simp only [wrB, Bool.and_eq_true, beq_iff_eq, ba_inj, TWrite.mk.injEq, and_true]
def txB (x y : TTxn) : Bool := (x.Session == y.Session) && ((x.Seq == y.Seq) && (eqL rdB x.Reads y.Reads && eqL wrB x.Writes y.Writes))
theorem txB_iff (x y : TTxn) : txB x y = true ↔ x = y := by
 cases x; cases y; simp only [txB, Bool.and_eq_true, beq_iff_eq, TTxn.mk.injEq, eqL_iff rdB_iff, eqL_iff wrB_iff]
def enB (x y : TEntry) : Bool := (x.Term == y.Term) && ((x.Seal == y.Seal) && txB x.T y.T)
theorem enB_iff (x y : TEntry) : enB x y = true ↔ x = y := by
 cases x; cases y; simp only [enB, Bool.and_eq_true, beq_iff_eq, TEntry.mk.injEq, txB_iff]
def SmE (N : Nat) (l : List TEntry) : Prop := l.length ≤ N ∧ ∀ e ∈ l, e.T.Reads.length ≤ N ∧ e.T.Writes.length ≤ N
def sameB (a b : TRaft) : Bool := (a.Me == b.Me) && ((a.Nodes == b.Nodes) && ((a.Wait == b.Wait) && ((a.Term == b.Term) && ((a.Vote == b.Vote) && (eqL enB a.Log b.Log && ((a.Commit == b.Commit) && ((a.Role == b.Role) && ((a.Leader == b.Leader) && (eqL bqB a.Votes b.Votes && (eqL bqI a.Next b.Next && (eqL bqI a.Match b.Match && (a.Clock == b.Clock))))))))))))
structure SmR (N : Nat) (r : TRaft) : Prop where
 log : SmE N r.Log
 v : r.Votes.length ≤ N
 n : r.Next.length ≤ N
 m : r.Match.length ≤ N
end Go.Proofs.Ythpokjkbcdfhiaa.Told.RA
