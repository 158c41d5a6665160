/- The machine by value and the model: a function that makes rows in rows out of entries (epoch.Cut): what its code does in memory, and what that is by value. -/
import Derived.Test.YtknkeabmjleoiaaVam2
namespace Go.Proofs.Ytknkeabmjleoiaa.Vam
open Go
set_option linter.unusedVariables false
set_option linter.unusedSimpArgs false
def EntR (w : World) (A : Option Addr) (xs : List Bool) : Prop :=
  ∀ i : Nat, i < xs.length → ∃ b off t0 t2 t3 A4 n4 c4 A5 n5 c5, A = some ⟨b, off, none⟩ ∧ w.cell? ⟨b, off + i * 6, none⟩ = some (.int .i64 t0) ∧ w.cell? ⟨b, off + i * 6 + 1, none⟩ = some (.bool (xs.getD i false)) ∧ w.cell? ⟨b, off + i * 6 + 2, none⟩ = some (.int .i64 t2) ∧
    w.cell? ⟨b, off + i * 6 + 3, none⟩ = some (.int .i64 t3) ∧ w.cell? ⟨b, off + i * 6 + 4, none⟩ = some (.slice A4 n4 c4) ∧ w.cell? ⟨b, off + i * 6 + 5, none⟩ = some (.slice A5 n5 c5)
/-- A row of numbers in new blocks. -/
def NRow (w : World) (base : Nat) (u : Value) (r : List Int) : Prop :=
  (r = [] ∧ u = .slice none 0 0) ∨ ∃ g c, u = .slice (some ⟨g, 0, none⟩) r.length c ∧ r.length ≤ c ∧ base ≤ g ∧ ∀ j x, r[j]? = some x → w.cell? ⟨g, j, none⟩ = some (.int .i64 x)
def NRows (w : World) (base : Nat) (v : Value) (rows : List (List Int)) : Prop :=
  ∃ g c, v = .slice (some ⟨g, 0, none⟩) rows.length c ∧ rows.length ≤ c ∧ base ≤ g ∧ ∀ i r, rows[i]? = some r → ∃ u, w.cell? ⟨g, i, none⟩ = some u ∧ NRow w base u r
def CutWalk (P : Program) (f : FuncId) (F : List Bool → List (List Int)) : Prop :=
  ∀ (w : World) (A : Option Addr) (c : Nat) (xs : List Bool), EntR w A xs → xs.length ≤ c → xs.length ≤ 100000 → Calls P f #[.slice A xs.length c] w fun e w' =>
    ∃ v, e = .returned v ∧ NRows w' w.heap.size v (F xs) ∧ (∀ k, k < w.heap.size → w'.heap[k]? = w.heap[k]?) ∧ WSame w w'
/-- What is known, and all cells of new blocks. -/
def Knew (K : Kn) (N : Nat) (w : World) : Kn := fun b o => match K b o with
  | some v => some v
  | none => bif decide (N ≤ b) then w.cell? ⟨b, o, none⟩ else none
theorem Knew.le (K : Kn) (N : Nat) (w : World) : K.le (Knew K N w) := fun b o v h => by simp [Knew, h]
theorem Knew.new {K : Kn} {N : Nat} {w : World} {b o : Nat} {v : Value} (hK : K b o = none) (hb : N ≤ b) (h : w.cell? ⟨b, o, none⟩ = some v) : Knew K N w b o = some v := by simp [Knew, hK, hb, h]
/-- Entries as cells: the second of six is whether it is a Seal. -/
def EntD (ch : List DV) (s : Bool) : Prop := ∃ t0 t2 t3 z4 e4 z5 e5, ch = [.val (.int .i64 t0), .val (.bool s), .val (.int .i64 t2), .val (.int .i64 t3), .slc false none z4 e4, .slc false none z5 e5]
end Go.Proofs.Ytknkeabmjleoiaa.Vam
