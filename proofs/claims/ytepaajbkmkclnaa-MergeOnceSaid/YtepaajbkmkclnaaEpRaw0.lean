/- Words for walks over rows in rows: entries of which the cells are told. -/
import Derived.Test.YtepaajbkmkclnaaProg
import Derived.Below
import Derived.Deep.Draws
import Derived.Deep.AppendLies
import Derived.Maps.AppendAt
import Derived.OwnWalk
import Derived.Laws.BytesArg
import Derived.Laws.MakeOwn
import Derived.Laws.OwnMore
import Derived.Deep.OwnRows
import Derived.Tactics
import Derived.Lib.ConvBytes
import Derived.Laws.Slices
import Derived.WalkKit
import Derived.KernelRfl
import Derived.RowKit3
import Derived.Deep.LoopGhost
import Derived.Deep.QuietTactic
import Derived.BigQuiet
import Derived.WideLaws
import Derived.Deep.DeepCutAuto
import Derived.Deep.CutBlock
import Derived.Deep.RegionHeld3
import Derived.Laws.Rows
import Derived.Lib.AppendStr
import Derived.ArgAppend
import Derived.Laws.IdiomCopy
import Derived.OrdersHeld
import Derived.Laws.BitsLemmas
import Derived.RowKit
import Derived.Test.YtepaajbkmkclnaaWWords
import Derived.Test.YtepaajbkmkclnaaWLast
import Derived.Test.YtepaajbkmkclnaaWTab
import Derived.Test.YtepaajbkmkclnaaWFour
import Derived.Test.YtepaajbkmkclnaaWQPut
import Derived.Test.YtepaajbkmkclnaaWApart
import Derived.Test.YtepaajbkmkclnaaWArr
import Derived.Test.YtepaajbkmkclnaaWZeros
import Derived.Test.YtepaajbkmkclnaaWFoot
import Derived.Test.YtepaajbkmkclnaaWKept
import Derived.Test.YtepaajbkmkclnaaWShare
import Derived.Test.YtepaajbkmkclnaaWN
import Derived.Test.YtepaajbkmkclnaaWFootNe
import Derived.Test.YtepaajbkmkclnaaWAt
import Derived.Test.YtepaajbkmkclnaaWEqStruct
import Derived.Test.YtepaajbkmkclnaaWRepsOne
import Derived.Test.YtepaajbkmkclnaaWInv
import Derived.Test.YtepaajbkmkclnaaWInvWords
import Derived.Test.YtepaajbkmkclnaaWGuard
import Derived.Test.YtepaajbkmkclnaaWNEv
import Derived.Test.YtepaajbkmkclnaaWMore
namespace Go.Proofs.Ytepaajbkmkclnaa.Ep
open Go Go.RowKit Go.Proofs.YtepaajbkmkclnaaW.PrintWords Go.Proofs.YtepaajbkmkclnaaW.PrintLast Go.Proofs.YtepaajbkmkclnaaW.PrintMore
set_option linter.unusedVariables false
set_option linter.unusedSimpArgs false
theorem info3 : (Try.prog.info? 3).map (fun i => (i.zero, i.size, i.bytes)) = some (some (.int .i64 0), 1, 8) := by kernel_rfl
theorem info32 : (Try.prog.info? 44).map (fun i => (i.zero, i.size, i.bytes)) = some (some (.slice none 0 0), 1, 24) := by kernel_rfl
theorem errW_none : True := trivial
theorem errW_some : True := trivial
def rd_L9 (xs : List (List Int)) (i : Int) : (List Int) := xs.getD i.toNat ([] : List Int)
theorem at_L9 {w : World} {A : Option Addr} {n : Nat} {xs : List (List Int)} (h : Kd.C (Kd.slice 3 (Kd.int .i64)) w A n xs) (i : Int) (h0 : 0 ≤ i) (h1 : i < n) : ∃ ad A0 c0, A = some ad ∧ w.cell? (ad.add i.toNat) = some (.slice A0 (rd_L9 xs i).length c0) ∧ (rd_L9 xs i).length ≤ c0 ∧ (Kd.int .i64).C w A0 (rd_L9 xs i).length (rd_L9 xs i) := by
  obtain ⟨ad, c, e, _, hK, hc0⟩ := Kd.C_get h ([] : List Int) i h0 h1
  have hc : ∀ j u, c[j]? = some u → w.cell? (ad.add (i.toNat * 1 + j)) = some u := hc0
  obtain ⟨A0, c0, rfl, l0, g0⟩ := hK
  exact ⟨ad, A0, c0, e, by have hq := hc 0 _ rfl; rwa [Nat.mul_one, Nat.add_zero] at hq, l0, g0⟩
def rd_B (xs : List Bool) (i : Int) : Bool := xs.getD i.toNat false
/-- Entries: six cells each, the second of them whether it is a Seal. -/
def Ent (w : World) (A : Option Addr) (xs : List Bool) : Prop :=
  ∀ i : Nat, i < xs.length → ∃ b off t0 t2 t3 A4 n4 c4 A5 n5 c5, A = some ⟨b, off, none⟩ ∧ w.cell? ⟨b, off + i * 6, none⟩ = some (.int .i64 t0) ∧ w.cell? ⟨b, off + i * 6 + 1, none⟩ = some (.bool (xs.getD i false)) ∧ w.cell? ⟨b, off + i * 6 + 2, none⟩ = some (.int .i64 t2) ∧
    w.cell? ⟨b, off + i * 6 + 3, none⟩ = some (.int .i64 t3) ∧ w.cell? ⟨b, off + i * 6 + 4, none⟩ = some (.slice A4 n4 c4) ∧ w.cell? ⟨b, off + i * 6 + 5, none⟩ = some (.slice A5 n5 c5)
theorem Ent.at {w : World} {A : Option Addr} {xs : List Bool} (h : Ent w A xs) (i : Int) (h0 : 0 ≤ i) (h1 : i < (xs.length : Int)) : ∃ ad, A = some ad ∧ w.cell? ⟨(ad.add (i.toNat * 6)).block, (ad.add (i.toNat * 6)).off + 1, none⟩ = some (.bool (rd_B xs i)) := by
  obtain ⟨b, off, t0, t2, t3, A4, n4, c4, A5, n5, c5, e, _, hb, _⟩ := h i.toNat (by omega)
  refine ⟨_, e, ?_⟩
  simp only [Addr.add_lit]
  exact hb
end Go.Proofs.Ytepaajbkmkclnaa.Ep
