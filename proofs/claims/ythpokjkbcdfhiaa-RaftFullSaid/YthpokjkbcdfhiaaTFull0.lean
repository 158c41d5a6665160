/- RaftFull's states, each step by evaluation. (Printed by gen_full.py.) -/
import Derived.Test.YthpokjkbcdfhiaaFitRaftFull
import Derived.Test.YthpokjkbcdfhiaaTMath
namespace Go.Proofs.Ythpokjkbcdfhiaa.Told.RF
open Go Go.Proofs.Ythpokjkbcdfhiaa.Vam Go.Proofs.Ythpokjkbcdfhiaa.Told
def E : TEntry := TEntry.mk 1 true (TTxn.mk 0 0 [] [])
abbrev P : TEntry := TEntry.mk 0 true (TTxn.mk 0 0 [] [])
def R (k : Nat) : TRaft := TRaft.mk 1 1 3 1 1 (List.replicate k E) (k : Int) 2 1 [true] [1] [(k : Int)] 0
def S (k : Nat) : Prop := raft_Propose 300 (R (k + 1)) P = some (R (k + 2), [], true) ∧ diwanref11_May 300 (R (k + 2)) = some true
def T (k : Nat) : Prop := raft_Tick 300 (R (k + 1)) = some (R (k + 1), []) ∧ raft_Same 300 (R (k + 1)) (R (k + 1)) = some true
def R0 : TRaft := TRaft.mk 1 1 3 0 0 [] 0 0 0 [false] [0] [0] 0
theorem sFull : raft_Propose 300 (R 200) P = some (R 200, [], false) ∧ diwanref11_May 300 (R 200) = some true := ⟨by kernel_rfl, by kernel_rfl⟩
theorem new_e : raft_New 1 1 3 = some R0 := by kernel_rfl
theorem start_e : diwanlaw11_RaftFull.lp7 300 0 300 0 R0 = some (R 1) := by kernel_rfl
theorem start_n (n : Int) : ∀ (m : Nat) (i : Int) (r : TRaft), diwanlaw11_RaftFull.lp7 300 n m i r = diwanlaw11_RaftFull.lp7 300 0 m i r
  | 0, _, _ => rfl
  | m + 1, i, r => by
    rw [diwanlaw11_RaftFull.lp7, diwanlaw11_RaftFull.lp7]
    simp only [start_n n m]
end Go.Proofs.Ythpokjkbcdfhiaa.Told.RF
