/- Functions of the program told as Lean functions, with the walks of their code in the machine by value. -/
import Derived.Test.YthpokjkbcdfhiaaProg
import Derived.Test.YthpokjkbcdfhiaaVam2
noncomputable section
namespace Go.Proofs.Ythpokjkbcdfhiaa.Told
open Go Go.Proofs Go.Proofs.Ythpokjkbcdfhiaa Go.Proofs.Ythpokjkbcdfhiaa.Vam
set_option linter.unusedVariables false
set_option maxRecDepth 100000
theorem hmix : Try.prog.follows .mixedOrders = true := by kernel_rfl
structure TRead where
  Key : ByteArray
  Version : Int
  Val : ByteArray
  There : Bool
def TRead.en (x : TRead) : List DV := [.val (.string x.Key), .val (.int .i64 x.Version), .val (.string x.Val), .val (.bool x.There)]
structure TWrite where
  Key : ByteArray
  Val : ByteArray
  Gone : Bool
def TWrite.en (x : TWrite) : List DV := [.val (.string x.Key), .val (.string x.Val), .val (.bool x.Gone)]
structure TTxn where
  Session : Int
  Seq : Int
  Reads : (List TRead)
  Writes : (List TWrite)
def TTxn.en (x : TTxn) : List DV := [.val (.int .i64 x.Session), .val (.int .i64 x.Seq), .slc false none 4 (List.map TRead.en x.Reads), .slc false none 3 (List.map TWrite.en x.Writes)]
structure TEntry where
  Term : Int
  Seal : Bool
  T : TTxn
def TEntry.en (x : TEntry) : List DV := [.val (.int .i64 x.Term), .val (.bool x.Seal), .val (.int .i64 x.T.Session), .val (.int .i64 x.T.Seq), .slc false none 4 (List.map TRead.en x.T.Reads), .slc false none 3 (List.map TWrite.en x.T.Writes)]
structure TRaft where
  Me : Int
  Nodes : Int
  Wait : Int
  Term : Int
  Vote : Int
  Log : (List TEntry)
  Commit : Int
  Role : Int
  Leader : Int
  Votes : (List Bool)
  Next : (List Int)
  Match : (List Int)
  Clock : Int
def TRaft.en (x : TRaft) : List DV := [.val (.int .i64 x.Me), .val (.int .i64 x.Nodes), .val (.int .i64 x.Wait), .val (.int .i64 x.Term), .val (.int .i64 x.Vote), .slc false none 6 (List.map TEntry.en x.Log), .val (.int .i64 x.Commit), .val (.int .i64 x.Role), .val (.int .i64 x.Leader), .slc false none 1 (List.map e_b x.Votes), .slc false none 1 (List.map e_i64 x.Next), .slc false none 1 (List.map e_i64 x.Match), .val (.int .i64 x.Clock)]
structure TMsg where
  Kind : Int
  From : Int
  To : Int
  Part : Int
  Term : Int
  Index : Int
  LogTerm : Int
  Commit : Int
  OK : Bool
  Entries : (List TEntry)
  T : TTxn
  Session : Int
  Seq : Int
  Pos : Int
  Shard : Int
  Span : Bool
  FromKey : ByteArray
  ToKey : ByteArray
  Keys : (List ByteArray)
  Got : (List TRead)
  Err : Int
def TMsg.en (x : TMsg) : List DV := [.val (.int .i64 x.Kind), .val (.int .i64 x.From), .val (.int .i64 x.To), .val (.int .i64 x.Part), .val (.int .i64 x.Term), .val (.int .i64 x.Index), .val (.int .i64 x.LogTerm), .val (.int .i64 x.Commit), .val (.bool x.OK), .slc false none 6 (List.map TEntry.en x.Entries), .val (.int .i64 x.T.Session), .val (.int .i64 x.T.Seq), .slc false none 4 (List.map TRead.en x.T.Reads), .slc false none 3 (List.map TWrite.en x.T.Writes), .val (.int .i64 x.Session), .val (.int .i64 x.Seq), .val (.int .i64 x.Pos), .val (.int .i64 x.Shard), .val (.bool x.Span), .val (.string x.FromKey), .val (.string x.ToKey), .slc false none 1 (List.map e_s x.Keys), .slc false none 4 (List.map TRead.en x.Got), .val (.int .i64 x.Err)]
structure TMember where
  Raft : TRaft
  out : (List TMsg)
def TMember.en (x : TMember) : List DV := [.val (.int .i64 x.Raft.Me), .val (.int .i64 x.Raft.Nodes), .val (.int .i64 x.Raft.Wait), .val (.int .i64 x.Raft.Term), .val (.int .i64 x.Raft.Vote), .slc false none 6 (List.map TEntry.en x.Raft.Log), .val (.int .i64 x.Raft.Commit), .val (.int .i64 x.Raft.Role), .val (.int .i64 x.Raft.Leader), .slc false none 1 (List.map e_b x.Raft.Votes), .slc false none 1 (List.map e_i64 x.Raft.Next), .slc false none 1 (List.map e_i64 x.Raft.Match), .val (.int .i64 x.Raft.Clock), .slc false none 24 (List.map TMsg.en x.out)]
structure TGroup where
  M : (List TRaft)
  Mail : (List TMsg)
def TGroup.en (x : TGroup) : List DV := [.slc false none 13 (List.map TRaft.en x.M), .slc false none 24 (List.map TMsg.en x.Mail)]
structure TPicks where
  l : (List Int)
  n : Int
def TPicks.en (x : TPicks) : List DV := [.slc false none 1 (List.map e_u8 x.l), .val (.int .i64 x.n)]
def TRaft.ag (x : TRaft) : DV := .agg [.val (.int .i64 x.Me), .val (.int .i64 x.Nodes), .val (.int .i64 x.Wait), .val (.int .i64 x.Term), .val (.int .i64 x.Vote), .slc false none 6 (List.map TEntry.en x.Log), .val (.int .i64 x.Commit), .val (.int .i64 x.Role), .val (.int .i64 x.Leader), .slc false none 1 (List.map e_b x.Votes), .slc false none 1 (List.map e_i64 x.Next), .slc false none 1 (List.map e_i64 x.Match), .val (.int .i64 x.Clock)]
def TRaft.ag_000001000111 (x : TRaft) : DV := .agg [.val (.int .i64 x.Me), .val (.int .i64 x.Nodes), .val (.int .i64 x.Wait), .val (.int .i64 x.Term), .val (.int .i64 x.Vote), .slc true none 6 (List.map TEntry.en x.Log), .val (.int .i64 x.Commit), .val (.int .i64 x.Role), .val (.int .i64 x.Leader), .slc true none 1 (List.map e_b x.Votes), .slc true none 1 (List.map e_i64 x.Next), .slc true none 1 (List.map e_i64 x.Match), .val (.int .i64 x.Clock)]
def TRaft.ob (x : TRaft) : List AV := [.data (.val (.int .i64 x.Me)), .data (.val (.int .i64 x.Nodes)), .data (.val (.int .i64 x.Wait)), .data (.val (.int .i64 x.Term)), .data (.val (.int .i64 x.Vote)), .data (.slc false none 6 (List.map TEntry.en x.Log)), .data (.val (.int .i64 x.Commit)), .data (.val (.int .i64 x.Role)), .data (.val (.int .i64 x.Leader)), .data (.slc false none 1 (List.map e_b x.Votes)), .data (.slc false none 1 (List.map e_i64 x.Next)), .data (.slc false none 1 (List.map e_i64 x.Match)), .data (.val (.int .i64 x.Clock))]
def TRaft.ob_000001 (x : TRaft) : List AV := [.data (.val (.int .i64 x.Me)), .data (.val (.int .i64 x.Nodes)), .data (.val (.int .i64 x.Wait)), .data (.val (.int .i64 x.Term)), .data (.val (.int .i64 x.Vote)), .data (.slc true none 6 (List.map TEntry.en x.Log)), .data (.val (.int .i64 x.Commit)), .data (.val (.int .i64 x.Role)), .data (.val (.int .i64 x.Leader)), .data (.slc false none 1 (List.map e_b x.Votes)), .data (.slc false none 1 (List.map e_i64 x.Next)), .data (.slc false none 1 (List.map e_i64 x.Match)), .data (.val (.int .i64 x.Clock))]
def TRaft.ob_000001000111 (x : TRaft) : List AV := [.data (.val (.int .i64 x.Me)), .data (.val (.int .i64 x.Nodes)), .data (.val (.int .i64 x.Wait)), .data (.val (.int .i64 x.Term)), .data (.val (.int .i64 x.Vote)), .data (.slc true none 6 (List.map TEntry.en x.Log)), .data (.val (.int .i64 x.Commit)), .data (.val (.int .i64 x.Role)), .data (.val (.int .i64 x.Leader)), .data (.slc true none 1 (List.map e_b x.Votes)), .data (.slc true none 1 (List.map e_i64 x.Next)), .data (.slc true none 1 (List.map e_i64 x.Match)), .data (.val (.int .i64 x.Clock))]
def TTxn.ag (x : TTxn) : DV := .agg [.val (.int .i64 x.Session), .val (.int .i64 x.Seq), .slc false none 4 (List.map TRead.en x.Reads), .slc false none 3 (List.map TWrite.en x.Writes)]
def TTxn.ag_0011 (x : TTxn) : DV := .agg [.val (.int .i64 x.Session), .val (.int .i64 x.Seq), .slc true none 4 (List.map TRead.en x.Reads), .slc true none 3 (List.map TWrite.en x.Writes)]
def TTxn.ob (x : TTxn) : List AV := [.data (.val (.int .i64 x.Session)), .data (.val (.int .i64 x.Seq)), .data (.slc false none 4 (List.map TRead.en x.Reads)), .data (.slc false none 3 (List.map TWrite.en x.Writes))]
def TTxn.ob_0011 (x : TTxn) : List AV := [.data (.val (.int .i64 x.Session)), .data (.val (.int .i64 x.Seq)), .data (.slc true none 4 (List.map TRead.en x.Reads)), .data (.slc true none 3 (List.map TWrite.en x.Writes))]
def TEntry.ag (x : TEntry) : DV := .agg [.val (.int .i64 x.Term), .val (.bool x.Seal), .val (.int .i64 x.T.Session), .val (.int .i64 x.T.Seq), .slc false none 4 (List.map TRead.en x.T.Reads), .slc false none 3 (List.map TWrite.en x.T.Writes)]
def TEntry.ob (x : TEntry) : List AV := [.data (.val (.int .i64 x.Term)), .data (.val (.bool x.Seal)), .data (.val (.int .i64 x.T.Session)), .data (.val (.int .i64 x.T.Seq)), .data (.slc false none 4 (List.map TRead.en x.T.Reads)), .data (.slc false none 3 (List.map TWrite.en x.T.Writes))]
def TMsg.ag (x : TMsg) : DV := .agg [.val (.int .i64 x.Kind), .val (.int .i64 x.From), .val (.int .i64 x.To), .val (.int .i64 x.Part), .val (.int .i64 x.Term), .val (.int .i64 x.Index), .val (.int .i64 x.LogTerm), .val (.int .i64 x.Commit), .val (.bool x.OK), .slc false none 6 (List.map TEntry.en x.Entries), .val (.int .i64 x.T.Session), .val (.int .i64 x.T.Seq), .slc false none 4 (List.map TRead.en x.T.Reads), .slc false none 3 (List.map TWrite.en x.T.Writes), .val (.int .i64 x.Session), .val (.int .i64 x.Seq), .val (.int .i64 x.Pos), .val (.int .i64 x.Shard), .val (.bool x.Span), .val (.string x.FromKey), .val (.string x.ToKey), .slc false none 1 (List.map e_s x.Keys), .slc false none 4 (List.map TRead.en x.Got), .val (.int .i64 x.Err)]
def TMsg.ob (x : TMsg) : List AV := [.data (.val (.int .i64 x.Kind)), .data (.val (.int .i64 x.From)), .data (.val (.int .i64 x.To)), .data (.val (.int .i64 x.Part)), .data (.val (.int .i64 x.Term)), .data (.val (.int .i64 x.Index)), .data (.val (.int .i64 x.LogTerm)), .data (.val (.int .i64 x.Commit)), .data (.val (.bool x.OK)), .data (.slc false none 6 (List.map TEntry.en x.Entries)), .data (.val (.int .i64 x.T.Session)), .data (.val (.int .i64 x.T.Seq)), .data (.slc false none 4 (List.map TRead.en x.T.Reads)), .data (.slc false none 3 (List.map TWrite.en x.T.Writes)), .data (.val (.int .i64 x.Session)), .data (.val (.int .i64 x.Seq)), .data (.val (.int .i64 x.Pos)), .data (.val (.int .i64 x.Shard)), .data (.val (.bool x.Span)), .data (.val (.string x.FromKey)), .data (.val (.string x.ToKey)), .data (.slc false none 1 (List.map e_s x.Keys)), .data (.slc false none 4 (List.map TRead.en x.Got)), .data (.val (.int .i64 x.Err))]
def TMember.ob (x : TMember) : List AV := [.data (.val (.int .i64 x.Raft.Me)), .data (.val (.int .i64 x.Raft.Nodes)), .data (.val (.int .i64 x.Raft.Wait)), .data (.val (.int .i64 x.Raft.Term)), .data (.val (.int .i64 x.Raft.Vote)), .data (.slc false none 6 (List.map TEntry.en x.Raft.Log)), .data (.val (.int .i64 x.Raft.Commit)), .data (.val (.int .i64 x.Raft.Role)), .data (.val (.int .i64 x.Raft.Leader)), .data (.slc false none 1 (List.map e_b x.Raft.Votes)), .data (.slc false none 1 (List.map e_i64 x.Raft.Next)), .data (.slc false none 1 (List.map e_i64 x.Raft.Match)), .data (.val (.int .i64 x.Raft.Clock)), .data (.slc false none 24 (List.map TMsg.en x.out))]
def TMember.ob_0000000001 (x : TMember) : List AV := [.data (.val (.int .i64 x.Raft.Me)), .data (.val (.int .i64 x.Raft.Nodes)), .data (.val (.int .i64 x.Raft.Wait)), .data (.val (.int .i64 x.Raft.Term)), .data (.val (.int .i64 x.Raft.Vote)), .data (.slc false none 6 (List.map TEntry.en x.Raft.Log)), .data (.val (.int .i64 x.Raft.Commit)), .data (.val (.int .i64 x.Raft.Role)), .data (.val (.int .i64 x.Raft.Leader)), .data (.slc true none 1 (List.map e_b x.Raft.Votes)), .data (.slc false none 1 (List.map e_i64 x.Raft.Next)), .data (.slc false none 1 (List.map e_i64 x.Raft.Match)), .data (.val (.int .i64 x.Raft.Clock)), .data (.slc false none 24 (List.map TMsg.en x.out))]
def TMember.ob_00000000010001 (x : TMember) : List AV := [.data (.val (.int .i64 x.Raft.Me)), .data (.val (.int .i64 x.Raft.Nodes)), .data (.val (.int .i64 x.Raft.Wait)), .data (.val (.int .i64 x.Raft.Term)), .data (.val (.int .i64 x.Raft.Vote)), .data (.slc false none 6 (List.map TEntry.en x.Raft.Log)), .data (.val (.int .i64 x.Raft.Commit)), .data (.val (.int .i64 x.Raft.Role)), .data (.val (.int .i64 x.Raft.Leader)), .data (.slc true none 1 (List.map e_b x.Raft.Votes)), .data (.slc false none 1 (List.map e_i64 x.Raft.Next)), .data (.slc false none 1 (List.map e_i64 x.Raft.Match)), .data (.val (.int .i64 x.Raft.Clock)), .data (.slc true none 24 (List.map TMsg.en x.out))]
def TMember.ob_00000000010101 (x : TMember) : List AV := [.data (.val (.int .i64 x.Raft.Me)), .data (.val (.int .i64 x.Raft.Nodes)), .data (.val (.int .i64 x.Raft.Wait)), .data (.val (.int .i64 x.Raft.Term)), .data (.val (.int .i64 x.Raft.Vote)), .data (.slc false none 6 (List.map TEntry.en x.Raft.Log)), .data (.val (.int .i64 x.Raft.Commit)), .data (.val (.int .i64 x.Raft.Role)), .data (.val (.int .i64 x.Raft.Leader)), .data (.slc true none 1 (List.map e_b x.Raft.Votes)), .data (.slc false none 1 (List.map e_i64 x.Raft.Next)), .data (.slc true none 1 (List.map e_i64 x.Raft.Match)), .data (.val (.int .i64 x.Raft.Clock)), .data (.slc true none 24 (List.map TMsg.en x.out))]
def TMember.ob_00000000011101 (x : TMember) : List AV := [.data (.val (.int .i64 x.Raft.Me)), .data (.val (.int .i64 x.Raft.Nodes)), .data (.val (.int .i64 x.Raft.Wait)), .data (.val (.int .i64 x.Raft.Term)), .data (.val (.int .i64 x.Raft.Vote)), .data (.slc false none 6 (List.map TEntry.en x.Raft.Log)), .data (.val (.int .i64 x.Raft.Commit)), .data (.val (.int .i64 x.Raft.Role)), .data (.val (.int .i64 x.Raft.Leader)), .data (.slc true none 1 (List.map e_b x.Raft.Votes)), .data (.slc true none 1 (List.map e_i64 x.Raft.Next)), .data (.slc true none 1 (List.map e_i64 x.Raft.Match)), .data (.val (.int .i64 x.Raft.Clock)), .data (.slc true none 24 (List.map TMsg.en x.out))]
def TMember.ob_0000010001 (x : TMember) : List AV := [.data (.val (.int .i64 x.Raft.Me)), .data (.val (.int .i64 x.Raft.Nodes)), .data (.val (.int .i64 x.Raft.Wait)), .data (.val (.int .i64 x.Raft.Term)), .data (.val (.int .i64 x.Raft.Vote)), .data (.slc true none 6 (List.map TEntry.en x.Raft.Log)), .data (.val (.int .i64 x.Raft.Commit)), .data (.val (.int .i64 x.Raft.Role)), .data (.val (.int .i64 x.Raft.Leader)), .data (.slc true none 1 (List.map e_b x.Raft.Votes)), .data (.slc false none 1 (List.map e_i64 x.Raft.Next)), .data (.slc false none 1 (List.map e_i64 x.Raft.Match)), .data (.val (.int .i64 x.Raft.Clock)), .data (.slc false none 24 (List.map TMsg.en x.out))]
def TMember.ob_00000100010001 (x : TMember) : List AV := [.data (.val (.int .i64 x.Raft.Me)), .data (.val (.int .i64 x.Raft.Nodes)), .data (.val (.int .i64 x.Raft.Wait)), .data (.val (.int .i64 x.Raft.Term)), .data (.val (.int .i64 x.Raft.Vote)), .data (.slc true none 6 (List.map TEntry.en x.Raft.Log)), .data (.val (.int .i64 x.Raft.Commit)), .data (.val (.int .i64 x.Raft.Role)), .data (.val (.int .i64 x.Raft.Leader)), .data (.slc true none 1 (List.map e_b x.Raft.Votes)), .data (.slc false none 1 (List.map e_i64 x.Raft.Next)), .data (.slc false none 1 (List.map e_i64 x.Raft.Match)), .data (.val (.int .i64 x.Raft.Clock)), .data (.slc true none 24 (List.map TMsg.en x.out))]
def TMember.ob_00000100010101 (x : TMember) : List AV := [.data (.val (.int .i64 x.Raft.Me)), .data (.val (.int .i64 x.Raft.Nodes)), .data (.val (.int .i64 x.Raft.Wait)), .data (.val (.int .i64 x.Raft.Term)), .data (.val (.int .i64 x.Raft.Vote)), .data (.slc true none 6 (List.map TEntry.en x.Raft.Log)), .data (.val (.int .i64 x.Raft.Commit)), .data (.val (.int .i64 x.Raft.Role)), .data (.val (.int .i64 x.Raft.Leader)), .data (.slc true none 1 (List.map e_b x.Raft.Votes)), .data (.slc false none 1 (List.map e_i64 x.Raft.Next)), .data (.slc true none 1 (List.map e_i64 x.Raft.Match)), .data (.val (.int .i64 x.Raft.Clock)), .data (.slc true none 24 (List.map TMsg.en x.out))]
def TMember.ob_00000100011101 (x : TMember) : List AV := [.data (.val (.int .i64 x.Raft.Me)), .data (.val (.int .i64 x.Raft.Nodes)), .data (.val (.int .i64 x.Raft.Wait)), .data (.val (.int .i64 x.Raft.Term)), .data (.val (.int .i64 x.Raft.Vote)), .data (.slc true none 6 (List.map TEntry.en x.Raft.Log)), .data (.val (.int .i64 x.Raft.Commit)), .data (.val (.int .i64 x.Raft.Role)), .data (.val (.int .i64 x.Raft.Leader)), .data (.slc true none 1 (List.map e_b x.Raft.Votes)), .data (.slc true none 1 (List.map e_i64 x.Raft.Next)), .data (.slc true none 1 (List.map e_i64 x.Raft.Match)), .data (.val (.int .i64 x.Raft.Clock)), .data (.slc true none 24 (List.map TMsg.en x.out))]
def TRead.ob (x : TRead) : List AV := [.data (.val (.string x.Key)), .data (.val (.int .i64 x.Version)), .data (.val (.string x.Val)), .data (.val (.bool x.There))]
def TWrite.ob (x : TWrite) : List AV := [.data (.val (.string x.Key)), .data (.val (.string x.Val)), .data (.val (.bool x.Gone))]
def bd20 : Code := (Try.f20.body).getD .skip
def raft_New.O : Nat → Nat := fun t => bif ([6, 7, 15, 17, 19, 20] : List Nat).any (Nat.beq t) then 1 else 0
def raft_New (me : Int) (nodes : Int) (wait : Int) : Option TRaft :=
 gd (decide ((0 : Int) ≤ (if (4096 : Int) < (if nodes < 0 then 0 else nodes) then 4096 else (if nodes < 0 then 0 else nodes)) ∧ (if (4096 : Int) < (if nodes < 0 then 0 else nodes) then 4096 else (if nodes < 0 then 0 else nodes)) ≤ (if (4096 : Int) < (if nodes < 0 then 0 else nodes) then 4096 else (if nodes < 0 then 0 else nodes)) ∧ (if (4096 : Int) < (if nodes < 0 then 0 else nodes) then 4096 else (if nodes < 0 then 0 else nodes)) ≤ 4294967296)) <|
 gd (decide ((0 : Int) ≤ (if (4096 : Int) < (if nodes < 0 then 0 else nodes) then 4096 else (if nodes < 0 then 0 else nodes)) ∧ (if (4096 : Int) < (if nodes < 0 then 0 else nodes) then 4096 else (if nodes < 0 then 0 else nodes)) ≤ (if (4096 : Int) < (if nodes < 0 then 0 else nodes) then 4096 else (if nodes < 0 then 0 else nodes)) ∧ (if (4096 : Int) < (if nodes < 0 then 0 else nodes) then 4096 else (if nodes < 0 then 0 else nodes)) ≤ 4294967296)) <|
 gd (decide ((0 : Int) ≤ (if (4096 : Int) < (if nodes < 0 then 0 else nodes) then 4096 else (if nodes < 0 then 0 else nodes)) ∧ (if (4096 : Int) < (if nodes < 0 then 0 else nodes) then 4096 else (if nodes < 0 then 0 else nodes)) ≤ (if (4096 : Int) < (if nodes < 0 then 0 else nodes) then 4096 else (if nodes < 0 then 0 else nodes)) ∧ (if (4096 : Int) < (if nodes < 0 then 0 else nodes) then 4096 else (if nodes < 0 then 0 else nodes)) ≤ 4294967296)) <|
 some (TRaft.mk me nodes wait 0 0 [] 0 0 0 (List.replicate (if (4096 : Int) < (if nodes < 0 then 0 else nodes) then 4096 else (if nodes < 0 then 0 else nodes)).toNat (false : Bool)) (List.replicate (if (4096 : Int) < (if nodes < 0 then 0 else nodes) then 4096 else (if nodes < 0 then 0 else nodes)).toNat (0 : Int)) (List.replicate (if (4096 : Int) < (if nodes < 0 then 0 else nodes) then 4096 else (if nodes < 0 then 0 else nodes)).toNat (0 : Int)) 0)
theorem raft_New.meets (me : Int) (nodes : Int) (wait : Int) (z0 : TRaft) (h : raft_New me nodes wait = some z0) : Meets Try.prog ⟨20, [iv me, iv nodes, iv wait], []⟩ ⟨.data (TRaft.ag_000001000111 z0), []⟩ := by
 refine kMt hmix raft_New.O Try.f20 bd20 7 ?_
 unfold raft_New at h
 refine kRs 7 [Tm 6 (.ptr 6 0), Ob 6 (TRaft.ob_000001000111 (TRaft.mk 0 0 0 0 0 [] 0 0 0 [] [] [] 0))] [] .n ?_
 refine kRs 31 [Tm 7 (iv (if (4096 : Int) < (if nodes < 0 then 0 else nodes) then 4096 else (if nodes < 0 then 0 else nodes)))] [] .n ?_
 obtain ⟨c3_1, h⟩ := gd_inv h
 obtain ⟨c3_2, h⟩ := gd_inv h
 obtain ⟨c3_3, h⟩ := gd_inv h
 refine kRs 2 [Ob 6 (TRaft.ob_000001000111 (TRaft.mk me nodes wait 0 0 [] 0 0 0 (List.replicate (if (4096 : Int) < (if nodes < 0 then 0 else nodes) then 4096 else (if nodes < 0 then 0 else nodes)).toNat (false : Bool)) (List.replicate (if (4096 : Int) < (if nodes < 0 then 0 else nodes) then 4096 else (if nodes < 0 then 0 else nodes)).toNat (0 : Int)) (List.replicate (if (4096 : Int) < (if nodes < 0 then 0 else nodes) then 4096 else (if nodes < 0 then 0 else nodes)).toNat (0 : Int)) 0))] [.s (.t 15) [.data (.slc true (some false) 1 (List.map e_b (List.replicate (if (4096 : Int) < (if nodes < 0 then 0 else nodes) then 4096 else (if nodes < 0 then 0 else nodes)).toNat (false : Bool))))], .s (.t 17) [.data (.slc true (some false) 1 (List.map e_i64 (List.replicate (if (4096 : Int) < (if nodes < 0 then 0 else nodes) then 4096 else (if nodes < 0 then 0 else nodes)).toNat (0 : Int))))], .s (.t 19) [.data (.slc true (some false) 1 (List.map e_i64 (List.replicate (if (4096 : Int) < (if nodes < 0 then 0 else nodes) then 4096 else (if nodes < 0 then 0 else nodes)).toNat (0 : Int))))]] (.c c3_1 (.c (congrArg (fun d : DV => [AV.data d]) (c_rep (e := e_b) (s := 1) (n := (if (4096 : Int) < (if nodes < 0 then 0 else nodes) then 4096 else (if nodes < 0 then 0 else nodes)).toNat) (x := false))) (.c c3_2 (.c (congrArg (fun d : DV => [AV.data d]) (c_rep (e := e_i64) (s := 1) (n := (if (4096 : Int) < (if nodes < 0 then 0 else nodes) then 4096 else (if nodes < 0 then 0 else nodes)).toNat) (x := 0))) (.c c3_3 (.c (congrArg (fun d : DV => [AV.data d]) (c_rep (e := e_i64) (s := 1) (n := (if (4096 : Int) < (if nodes < 0 then 0 else nodes) then 4096 else (if nodes < 0 then 0 else nodes)).toNat) (x := 0))) (.c rT .n))))))) ?_
 refine kRt ?_
 have h_ := some_inj h
 subst h_
 exact kFr
def bd41 : Code := (Try.f41.body).getD .skip
def raft_May_1.O : Nat → Nat := fun t => bif ([6] : List Nat).any (Nat.beq t) then 1 else 0
def raft_May_1 (v : Int) (from_v : Int) (to : Int) : Option Bool :=
 br (decide (v ≥ from_v))
  (some (decide (v ≤ to)))
  (some false)
theorem raft_May_1.meets (v : Int) (from_v : Int) (to : Int) (z0 : Bool) (h : raft_May_1 v from_v to = some z0) : Meets Try.prog ⟨41, [iv v, iv from_v, iv to], []⟩ ⟨bv z0, []⟩ := by
 refine kMt hmix raft_May_1.O Try.f41 bd41 7 ?_
 unfold raft_May_1 at h
 refine kRs 7 [] [] .n ?_
 rcases br_inv h with ⟨b2_1, h⟩ | ⟨b2_1, h⟩
 ·refine kRs 0 [Tm 6 (bv (decide (v ≤ to)))] (rp 4 (.b true) []) (.r 4 b2_1 .n) ?_
  refine kRt ?_
  have h_ := some_inj h
  subst h_
  exact kFr
 ·refine kRs 0 [Tm 6 (bv false)] (rp 4 (.b false) []) (.r 4 b2_1 .n) ?_
  refine kRt ?_
  have h_ := some_inj h
  subst h_
  exact kFr
def bd16 : Code := (Try.f16.body).getD .skip
def raft_May.O : Nat → Nat := fun t => bif ([1, 2, 3, 4, 6] : List Nat).any (Nat.beq t) then 1 else 0
def raft_May.lp5 (fu : Nat) (l5_1 : List TEntry) (l5_2 : Int) (l5_4 : TRaft) : Nat → Int → Int → Option (Unit ⊕ Unit)
  | 0, _, _ => none
  | n_ + 1, l5_0, l5_3 =>
  br (decide (l5_3 < l5_2))
   (ix l5_1 l5_3 fun x8_1 =>
   bd (raft_May_1 x8_1.Term l5_0 l5_4.Term) fun r9_1 =>
   br (!r9_1)
    (some (.inr ()))
    (raft_May.lp5 fu l5_1 l5_2 l5_4 n_ x8_1.Term (w64 (l5_3 + 1))))
   (some (.inl ()))
def raft_May.lp5_post (l5_1 : List TEntry) (l5_2 : Int) (l5_4 : TRaft) (r_ : (Unit ⊕ Unit)) : Wy → St → Prop := fun e τ => match r_ with
  | .inl _ => e = .exit 0 ∧ τ = ofL [Tm 1 (.ptr 1 0), Tm 3 (.fn (.func 41) [] []), Ob 1 (TRaft.ob l5_4)]
  | .inr _ => e = .ret ∧ τ = ofL [Tm 2 (bv false)]
theorem raft_May.lp5_ok (fu : Nat) (l5_1 : List TEntry) (l5_2 : Int) (l5_4 : TRaft) : ∀ (n_ : Nat) (l5_0 : Int) (l5_3 : Int) (r_ : (Unit ⊕ Unit)), raft_May.lp5 fu l5_1 l5_2 l5_4 n_ l5_0 l5_3 = some r_ → WK Try.prog raft_May.O (Ck Try.prog) (cB (cR (cL (cR (cR (cR bd16)))))) [] (ofL [Tm 1 (.ptr 1 0), Tm 3 (.fn (.func 41) [] []), Tm 4 (iv l5_0), Tm 8 (sS 6 TEntry.en l5_1), Tm 9 (iv l5_2), Tm 10 (iv l5_3), Ob 1 (TRaft.ob l5_4)]) (raft_May.lp5_post l5_1 l5_2 l5_4 r_) := by
 intro n_
 induction n_ with
 | zero => intro l5_0 l5_3 r_ h; exact no_none h
 | succ n_ ih =>
  intro l5_0 l5_3 r_ h
  refine kLp ?_
  refine kRs 127 [Tm 11 (bv (decide (l5_3 < l5_2)))] [] .n ?_
  refine kSq ?_
  rcases br_inv h with ⟨b7_0, h⟩ | ⟨b7_0, h⟩
  ·refine kCt b7_0 ?_
   refine kSk ?_
   refine kCd (cR (cR (cB (cB (cR (cL (cR (cR (cR bd16))))))))) [.lp (cB (cR (cL (cR (cR (cR bd16))))))] ?_
   refine kSq ?_
   refine kBk 1 ?_
   obtain ⟨x8_1, a8_2, e8_3, h⟩ := ix_inv h
   refine kRs 254 [Tm 6 (.ptr 6 0), Ob 6 (TEntry.ob x8_1)] [.c (TEntry.en x8_1)] (.c (c_ix (e := TEntry.en) a8_2 e8_3) (.c (c_el (e := TEntry.en) e8_3) .n)) ?_
   refine kSq ?_
   obtain ⟨r9_1, h9_2, h⟩ := bd_inv h
   refine kRs 495 [Tm 21 (bv (!r9_1))] [.a ⟨bv r9_1, []⟩] (.c (Asks.of (C := Meets Try.prog) (raft_May_1.meets x8_1.Term l5_0 l5_4.Term _ h9_2)) .n) ?_
   rcases br_inv h with ⟨b10_0, h⟩ | ⟨b10_0, h⟩
   ·refine kCt b10_0 ?_
    refine kRs 0 [Tm 2 (bv false)] [] .n ?_
    cases some_inj h
    refine kWo ?_
    refine kRt ?_
    exact kOut
   ·refine kCe b10_0 ?_
    refine kSk ?_
    refine kCd (cR (cR (cB (cL (cR (cR (cB (cB (cR (cL (cR (cR (cR bd16))))))))))))) [.blk 1, .seq (cR (cR (cR (cB (cB (cR (cL (cR (cR (cR bd16)))))))))), .lp (cB (cR (cL (cR (cR (cR bd16))))))] ?_
    refine kRc 504 [Tm 4 (iv x8_1.Term)] [] .n (cR (cR (cR (cB (cB (cR (cL (cR (cR (cR bd16)))))))))) [.lp (cB (cR (cL (cR (cR (cR bd16))))))] ?_
    refine kRc 95 [Tm 10 (iv (w64 (l5_3 + 1)))] [] .n (cB (cR (cL (cR (cR (cR bd16)))))) [] ?_
    exact kWk (ih x8_1.Term (w64 (l5_3 + 1)) _ h)
  ·refine kCe b7_0 ?_
   cases some_inj h
   refine kWo ?_
   refine kXt 0 ?_
   exact kOut
def raft_May (fu : Nat) (r_v : TRaft) : Option Bool :=
 bd (raft_May.lp5 fu r_v.Log (r_v.Log.length : Int) r_v fu 1 0) fun o_ => (match o_ with
 | .inl _ =>
  bd (raft_May_1 r_v.Nodes 1 5) fun r15_1 =>
  br r15_1
   (bd (raft_May_1 r_v.Me 1 r_v.Nodes) fun r15_4 =>
   br r15_4
    (bd (raft_May_1 r_v.Wait 1 60) fun r15_7 =>
    br r15_7
     (br (decide (r_v.Term ≥ 0))
      (bd (raft_May_1 r_v.Vote 0 r_v.Nodes) fun r15_11 =>
      br r15_11
       (bd (raft_May_1 r_v.Leader 0 r_v.Nodes) fun r15_14 =>
       br r15_14
        (br (decide ((r_v.Log.length : Int) ≤ 200))
         (bd (raft_May_1 r_v.Commit 0 (r_v.Log.length : Int)) fun r15_18 =>
         br r15_18
          (bd (raft_May_1 r_v.Role 0 2) fun r15_21 =>
          br r15_21
           (br (decide (r_v.Clock ≥ 0))
            (br ((r_v.Votes.length : Int) == r_v.Nodes)
             (br ((r_v.Next.length : Int) == r_v.Nodes)
              (some ((r_v.Match.length : Int) == r_v.Nodes))
              (some false))
             (some false))
            (some false))
           (some false))
          (some false))
         (some false))
        (some false))
       (some false))
      (some false))
     (some false))
    (some false))
   (some false)
 | .inr _ =>
  some false)
theorem raft_May.meets (fu : Nat) (r_v : TRaft) (z0 : Bool) (h : raft_May fu r_v = some z0) : Meets Try.prog ⟨16, [.data (TRaft.ag r_v)], []⟩ ⟨bv z0, []⟩ := by
 refine kMt hmix raft_May.O Try.f16 bd16 1 ?_
 unfold raft_May at h
 refine kRs 0 [Tm 1 (.ptr 1 0), Ob 1 (TRaft.ob r_v)] [] .n ?_
 refine kRs 3 [Tm 3 (.fn (.func 41) [] [])] [] .n ?_
 refine kRs 7 [Tm 4 (iv 1)] [] .n ?_
 refine kSq ?_
 refine kRs 15 [Tm 8 (sS 6 TEntry.en r_v.Log), Tm 9 (iv (r_v.Log.length : Int)), Tm 10 (iv 0)] [.s (.t 9) [iv (r_v.Log.length : Int)]] (.c (c_len (e := TEntry.en) (l := r_v.Log)) .n) ?_
 refine kBk 0 ?_
 obtain ⟨o14, ho14, h⟩ := bd_inv h
 refine kUs (raft_May.lp5_ok fu r_v.Log (r_v.Log.length : Int) r_v _ 1 0 _ ho14) ?_
 intro e_ τ_ hp_
 rcases o14 with o14 | o14
 ·obtain ⟨⟩ := o14
  obtain ⟨rfl, rfl⟩ := hp_
  refine kCd (cR (cR (cR (cR bd16)))) [] ?_
  obtain ⟨r15_1, h15_2, h⟩ := bd_inv h
  rcases br_inv h with ⟨b15_3, h⟩ | ⟨b15_3, h⟩
  ·obtain ⟨r15_4, h15_5, h⟩ := bd_inv h
   rcases br_inv h with ⟨b15_6, h⟩ | ⟨b15_6, h⟩
   ·obtain ⟨r15_7, h15_8, h⟩ := bd_inv h
    rcases br_inv h with ⟨b15_9, h⟩ | ⟨b15_9, h⟩
    ·rcases br_inv h with ⟨b15_10, h⟩ | ⟨b15_10, h⟩
     ·obtain ⟨r15_11, h15_12, h⟩ := bd_inv h
      rcases br_inv h with ⟨b15_13, h⟩ | ⟨b15_13, h⟩
      ·obtain ⟨r15_14, h15_15, h⟩ := bd_inv h
       rcases br_inv h with ⟨b15_16, h⟩ | ⟨b15_16, h⟩
       ·rcases br_inv h with ⟨b15_17, h⟩ | ⟨b15_17, h⟩
        ·obtain ⟨r15_18, h15_19, h⟩ := bd_inv h
         rcases br_inv h with ⟨b15_20, h⟩ | ⟨b15_20, h⟩
         ·obtain ⟨r15_21, h15_22, h⟩ := bd_inv h
          rcases br_inv h with ⟨b15_23, h⟩ | ⟨b15_23, h⟩
          ·rcases br_inv h with ⟨b15_24, h⟩ | ⟨b15_24, h⟩
           ·rcases br_inv h with ⟨b15_25, h⟩ | ⟨b15_25, h⟩
            ·rcases br_inv h with ⟨b15_26, h⟩ | ⟨b15_26, h⟩
             ·refine kRs 0 [Tm 2 (bv ((r_v.Match.length : Int) == r_v.Nodes))] (.a ⟨bv r15_1, []⟩ :: (rp 6 (.b true) (.a ⟨bv r15_4, []⟩ :: (rp 5 (.b true) (.a ⟨bv r15_7, []⟩ :: (rp 11 (.b true) (.a ⟨bv r15_11, []⟩ :: (rp 7 (.b true) (.a ⟨bv r15_14, []⟩ :: (rp 4 (.b true) (.s (.t 67) [iv (r_v.Log.length : Int)] :: (rp 8 (.b true) (.s (.t 76) [iv (r_v.Log.length : Int)] :: (.b true :: (.a ⟨bv r15_18, []⟩ :: (rp 5 (.b true) (.a ⟨bv r15_21, []⟩ :: (rp 8 (.b true) (.s (.t 93) [iv (r_v.Votes.length : Int)] :: (rp 7 (.b true) (.s (.t 101) [iv (r_v.Next.length : Int)] :: (rp 7 (.b true) (.s (.t 109) [iv (r_v.Match.length : Int)] :: (rp 4 (.b true) [])))))))))))))))))))))))) (.c (Asks.of (C := Meets Try.prog) (raft_May_1.meets r_v.Nodes 1 5 _ h15_2)) (.r 6 b15_3 (.c (Asks.of (C := Meets Try.prog) (raft_May_1.meets r_v.Me 1 r_v.Nodes _ h15_5)) (.c b15_3 (.r 4 b15_6 (.c (Asks.of (C := Meets Try.prog) (raft_May_1.meets r_v.Wait 1 60 _ h15_8)) (.c b15_6 (.r 4 b15_9 (.r 6 b15_10 (.c (Asks.of (C := Meets Try.prog) (raft_May_1.meets r_v.Vote 0 r_v.Nodes _ h15_12)) (.c b15_10 (.r 6 b15_13 (.c (Asks.of (C := Meets Try.prog) (raft_May_1.meets r_v.Leader 0 r_v.Nodes _ h15_15)) (.c b15_13 (.r 3 b15_16 (.c (c_len (e := TEntry.en) (l := r_v.Log)) (.r 2 b15_16 (.r 6 b15_17 (.c (c_len (e := TEntry.en) (l := r_v.Log)) (.c b15_17 (.c (Asks.of (C := Meets Try.prog) (raft_May_1.meets r_v.Commit 0 (r_v.Log.length : Int) _ h15_19)) (.c b15_17 (.r 4 b15_20 (.c (Asks.of (C := Meets Try.prog) (raft_May_1.meets r_v.Role 0 2 _ h15_22)) (.c b15_20 (.r 4 b15_23 (.r 3 b15_24 (.c (c_len (e := e_b) (l := r_v.Votes)) (.r 4 b15_24 (.r 3 b15_25 (.c (c_len (e := e_i64) (l := r_v.Next)) (.r 4 b15_25 (.r 3 b15_26 (.c (c_len (e := e_i64) (l := r_v.Match)) (.r 4 b15_26 .n))))))))))))))))))))))))))))))))))) ?_
              refine kRt ?_
              have h_ := some_inj h
              subst h_
              exact kFr
             ·refine kRs 0 [Tm 2 (bv false)] (.a ⟨bv r15_1, []⟩ :: (rp 6 (.b true) (.a ⟨bv r15_4, []⟩ :: (rp 5 (.b true) (.a ⟨bv r15_7, []⟩ :: (rp 11 (.b true) (.a ⟨bv r15_11, []⟩ :: (rp 7 (.b true) (.a ⟨bv r15_14, []⟩ :: (rp 4 (.b true) (.s (.t 67) [iv (r_v.Log.length : Int)] :: (rp 8 (.b true) (.s (.t 76) [iv (r_v.Log.length : Int)] :: (.b true :: (.a ⟨bv r15_18, []⟩ :: (rp 5 (.b true) (.a ⟨bv r15_21, []⟩ :: (rp 8 (.b true) (.s (.t 93) [iv (r_v.Votes.length : Int)] :: (rp 7 (.b true) (.s (.t 101) [iv (r_v.Next.length : Int)] :: (rp 4 (.b true) (rp 7 (.b false) []))))))))))))))))))))))) (.c (Asks.of (C := Meets Try.prog) (raft_May_1.meets r_v.Nodes 1 5 _ h15_2)) (.r 6 b15_3 (.c (Asks.of (C := Meets Try.prog) (raft_May_1.meets r_v.Me 1 r_v.Nodes _ h15_5)) (.c b15_3 (.r 4 b15_6 (.c (Asks.of (C := Meets Try.prog) (raft_May_1.meets r_v.Wait 1 60 _ h15_8)) (.c b15_6 (.r 4 b15_9 (.r 6 b15_10 (.c (Asks.of (C := Meets Try.prog) (raft_May_1.meets r_v.Vote 0 r_v.Nodes _ h15_12)) (.c b15_10 (.r 6 b15_13 (.c (Asks.of (C := Meets Try.prog) (raft_May_1.meets r_v.Leader 0 r_v.Nodes _ h15_15)) (.c b15_13 (.r 3 b15_16 (.c (c_len (e := TEntry.en) (l := r_v.Log)) (.r 2 b15_16 (.r 6 b15_17 (.c (c_len (e := TEntry.en) (l := r_v.Log)) (.c b15_17 (.c (Asks.of (C := Meets Try.prog) (raft_May_1.meets r_v.Commit 0 (r_v.Log.length : Int) _ h15_19)) (.c b15_17 (.r 4 b15_20 (.c (Asks.of (C := Meets Try.prog) (raft_May_1.meets r_v.Role 0 2 _ h15_22)) (.c b15_20 (.r 4 b15_23 (.r 3 b15_24 (.c (c_len (e := e_b) (l := r_v.Votes)) (.r 4 b15_24 (.r 3 b15_25 (.c (c_len (e := e_i64) (l := r_v.Next)) (.r 4 b15_25 (.r 7 b15_26 .n))))))))))))))))))))))))))))))))) ?_
              refine kRt ?_
              have h_ := some_inj h
              subst h_
              exact kFr
            ·refine kRs 0 [Tm 2 (bv false)] (.a ⟨bv r15_1, []⟩ :: (rp 6 (.b true) (.a ⟨bv r15_4, []⟩ :: (rp 5 (.b true) (.a ⟨bv r15_7, []⟩ :: (rp 11 (.b true) (.a ⟨bv r15_11, []⟩ :: (rp 7 (.b true) (.a ⟨bv r15_14, []⟩ :: (rp 4 (.b true) (.s (.t 67) [iv (r_v.Log.length : Int)] :: (rp 8 (.b true) (.s (.t 76) [iv (r_v.Log.length : Int)] :: (.b true :: (.a ⟨bv r15_18, []⟩ :: (rp 5 (.b true) (.a ⟨bv r15_21, []⟩ :: (rp 8 (.b true) (.s (.t 93) [iv (r_v.Votes.length : Int)] :: (rp 4 (.b true) (rp 14 (.b false) []))))))))))))))))))))) (.c (Asks.of (C := Meets Try.prog) (raft_May_1.meets r_v.Nodes 1 5 _ h15_2)) (.r 6 b15_3 (.c (Asks.of (C := Meets Try.prog) (raft_May_1.meets r_v.Me 1 r_v.Nodes _ h15_5)) (.c b15_3 (.r 4 b15_6 (.c (Asks.of (C := Meets Try.prog) (raft_May_1.meets r_v.Wait 1 60 _ h15_8)) (.c b15_6 (.r 4 b15_9 (.r 6 b15_10 (.c (Asks.of (C := Meets Try.prog) (raft_May_1.meets r_v.Vote 0 r_v.Nodes _ h15_12)) (.c b15_10 (.r 6 b15_13 (.c (Asks.of (C := Meets Try.prog) (raft_May_1.meets r_v.Leader 0 r_v.Nodes _ h15_15)) (.c b15_13 (.r 3 b15_16 (.c (c_len (e := TEntry.en) (l := r_v.Log)) (.r 2 b15_16 (.r 6 b15_17 (.c (c_len (e := TEntry.en) (l := r_v.Log)) (.c b15_17 (.c (Asks.of (C := Meets Try.prog) (raft_May_1.meets r_v.Commit 0 (r_v.Log.length : Int) _ h15_19)) (.c b15_17 (.r 4 b15_20 (.c (Asks.of (C := Meets Try.prog) (raft_May_1.meets r_v.Role 0 2 _ h15_22)) (.c b15_20 (.r 4 b15_23 (.r 3 b15_24 (.c (c_len (e := e_b) (l := r_v.Votes)) (.r 4 b15_24 (.r 7 b15_25 (.r 7 rF .n))))))))))))))))))))))))))))))) ?_
             refine kRt ?_
             have h_ := some_inj h
             subst h_
             exact kFr
           ·refine kRs 0 [Tm 2 (bv false)] (.a ⟨bv r15_1, []⟩ :: (rp 6 (.b true) (.a ⟨bv r15_4, []⟩ :: (rp 5 (.b true) (.a ⟨bv r15_7, []⟩ :: (rp 11 (.b true) (.a ⟨bv r15_11, []⟩ :: (rp 7 (.b true) (.a ⟨bv r15_14, []⟩ :: (rp 4 (.b true) (.s (.t 67) [iv (r_v.Log.length : Int)] :: (rp 8 (.b true) (.s (.t 76) [iv (r_v.Log.length : Int)] :: (.b true :: (.a ⟨bv r15_18, []⟩ :: (rp 5 (.b true) (.a ⟨bv r15_21, []⟩ :: (rp 5 (.b true) (rp 21 (.b false) []))))))))))))))))))) (.c (Asks.of (C := Meets Try.prog) (raft_May_1.meets r_v.Nodes 1 5 _ h15_2)) (.r 6 b15_3 (.c (Asks.of (C := Meets Try.prog) (raft_May_1.meets r_v.Me 1 r_v.Nodes _ h15_5)) (.c b15_3 (.r 4 b15_6 (.c (Asks.of (C := Meets Try.prog) (raft_May_1.meets r_v.Wait 1 60 _ h15_8)) (.c b15_6 (.r 4 b15_9 (.r 6 b15_10 (.c (Asks.of (C := Meets Try.prog) (raft_May_1.meets r_v.Vote 0 r_v.Nodes _ h15_12)) (.c b15_10 (.r 6 b15_13 (.c (Asks.of (C := Meets Try.prog) (raft_May_1.meets r_v.Leader 0 r_v.Nodes _ h15_15)) (.c b15_13 (.r 3 b15_16 (.c (c_len (e := TEntry.en) (l := r_v.Log)) (.r 2 b15_16 (.r 6 b15_17 (.c (c_len (e := TEntry.en) (l := r_v.Log)) (.c b15_17 (.c (Asks.of (C := Meets Try.prog) (raft_May_1.meets r_v.Commit 0 (r_v.Log.length : Int) _ h15_19)) (.c b15_17 (.r 4 b15_20 (.c (Asks.of (C := Meets Try.prog) (raft_May_1.meets r_v.Role 0 2 _ h15_22)) (.c b15_20 (.r 4 b15_23 (.r 7 b15_24 (.r 14 rF .n)))))))))))))))))))))))))))) ?_
            refine kRt ?_
            have h_ := some_inj h
            subst h_
            exact kFr
          ·refine kRs 0 [Tm 2 (bv false)] (.a ⟨bv r15_1, []⟩ :: (rp 6 (.b true) (.a ⟨bv r15_4, []⟩ :: (rp 5 (.b true) (.a ⟨bv r15_7, []⟩ :: (rp 11 (.b true) (.a ⟨bv r15_11, []⟩ :: (rp 7 (.b true) (.a ⟨bv r15_14, []⟩ :: (rp 4 (.b true) (.s (.t 67) [iv (r_v.Log.length : Int)] :: (rp 8 (.b true) (.s (.t 76) [iv (r_v.Log.length : Int)] :: (.b true :: (.a ⟨bv r15_18, []⟩ :: (rp 5 (.b true) (.a ⟨bv r15_21, []⟩ :: (.b true :: (rp 25 (.b false) []))))))))))))))))))) (.c (Asks.of (C := Meets Try.prog) (raft_May_1.meets r_v.Nodes 1 5 _ h15_2)) (.r 6 b15_3 (.c (Asks.of (C := Meets Try.prog) (raft_May_1.meets r_v.Me 1 r_v.Nodes _ h15_5)) (.c b15_3 (.r 4 b15_6 (.c (Asks.of (C := Meets Try.prog) (raft_May_1.meets r_v.Wait 1 60 _ h15_8)) (.c b15_6 (.r 4 b15_9 (.r 6 b15_10 (.c (Asks.of (C := Meets Try.prog) (raft_May_1.meets r_v.Vote 0 r_v.Nodes _ h15_12)) (.c b15_10 (.r 6 b15_13 (.c (Asks.of (C := Meets Try.prog) (raft_May_1.meets r_v.Leader 0 r_v.Nodes _ h15_15)) (.c b15_13 (.r 3 b15_16 (.c (c_len (e := TEntry.en) (l := r_v.Log)) (.r 2 b15_16 (.r 6 b15_17 (.c (c_len (e := TEntry.en) (l := r_v.Log)) (.c b15_17 (.c (Asks.of (C := Meets Try.prog) (raft_May_1.meets r_v.Commit 0 (r_v.Log.length : Int) _ h15_19)) (.c b15_17 (.r 4 b15_20 (.c (Asks.of (C := Meets Try.prog) (raft_May_1.meets r_v.Role 0 2 _ h15_22)) (.c b15_20 (.r 4 b15_23 (.r 21 rF .n))))))))))))))))))))))))))) ?_
           refine kRt ?_
           have h_ := some_inj h
           subst h_
           exact kFr
         ·refine kRs 0 [Tm 2 (bv false)] (.a ⟨bv r15_1, []⟩ :: (rp 6 (.b true) (.a ⟨bv r15_4, []⟩ :: (rp 5 (.b true) (.a ⟨bv r15_7, []⟩ :: (rp 11 (.b true) (.a ⟨bv r15_11, []⟩ :: (rp 7 (.b true) (.a ⟨bv r15_14, []⟩ :: (rp 4 (.b true) (.s (.t 67) [iv (r_v.Log.length : Int)] :: (rp 8 (.b true) (.s (.t 76) [iv (r_v.Log.length : Int)] :: (.b true :: (.a ⟨bv r15_18, []⟩ :: (.b true :: (rp 30 (.b false) []))))))))))))))))) (.c (Asks.of (C := Meets Try.prog) (raft_May_1.meets r_v.Nodes 1 5 _ h15_2)) (.r 6 b15_3 (.c (Asks.of (C := Meets Try.prog) (raft_May_1.meets r_v.Me 1 r_v.Nodes _ h15_5)) (.c b15_3 (.r 4 b15_6 (.c (Asks.of (C := Meets Try.prog) (raft_May_1.meets r_v.Wait 1 60 _ h15_8)) (.c b15_6 (.r 4 b15_9 (.r 6 b15_10 (.c (Asks.of (C := Meets Try.prog) (raft_May_1.meets r_v.Vote 0 r_v.Nodes _ h15_12)) (.c b15_10 (.r 6 b15_13 (.c (Asks.of (C := Meets Try.prog) (raft_May_1.meets r_v.Leader 0 r_v.Nodes _ h15_15)) (.c b15_13 (.r 3 b15_16 (.c (c_len (e := TEntry.en) (l := r_v.Log)) (.r 2 b15_16 (.r 6 b15_17 (.c (c_len (e := TEntry.en) (l := r_v.Log)) (.c b15_17 (.c (Asks.of (C := Meets Try.prog) (raft_May_1.meets r_v.Commit 0 (r_v.Log.length : Int) _ h15_19)) (.c b15_17 (.r 5 b15_20 (.r 25 rF .n)))))))))))))))))))))))) ?_
          refine kRt ?_
          have h_ := some_inj h
          subst h_
          exact kFr
        ·refine kRs 0 [Tm 2 (bv false)] (.a ⟨bv r15_1, []⟩ :: (rp 6 (.b true) (.a ⟨bv r15_4, []⟩ :: (rp 5 (.b true) (.a ⟨bv r15_7, []⟩ :: (rp 11 (.b true) (.a ⟨bv r15_11, []⟩ :: (rp 7 (.b true) (.a ⟨bv r15_14, []⟩ :: (rp 4 (.b true) (.s (.t 67) [iv (r_v.Log.length : Int)] :: (.b true :: (.b true :: (rp 38 (.b false) [])))))))))))))) (.c (Asks.of (C := Meets Try.prog) (raft_May_1.meets r_v.Nodes 1 5 _ h15_2)) (.r 6 b15_3 (.c (Asks.of (C := Meets Try.prog) (raft_May_1.meets r_v.Me 1 r_v.Nodes _ h15_5)) (.c b15_3 (.r 4 b15_6 (.c (Asks.of (C := Meets Try.prog) (raft_May_1.meets r_v.Wait 1 60 _ h15_8)) (.c b15_6 (.r 4 b15_9 (.r 6 b15_10 (.c (Asks.of (C := Meets Try.prog) (raft_May_1.meets r_v.Vote 0 r_v.Nodes _ h15_12)) (.c b15_10 (.r 6 b15_13 (.c (Asks.of (C := Meets Try.prog) (raft_May_1.meets r_v.Leader 0 r_v.Nodes _ h15_15)) (.c b15_13 (.r 3 b15_16 (.c (c_len (e := TEntry.en) (l := r_v.Log)) (.r 2 b15_16 (.r 8 b15_17 (.r 30 rF .n))))))))))))))))))) ?_
         refine kRt ?_
         have h_ := some_inj h
         subst h_
         exact kFr
       ·refine kRs 0 [Tm 2 (bv false)] (.a ⟨bv r15_1, []⟩ :: (rp 6 (.b true) (.a ⟨bv r15_4, []⟩ :: (rp 5 (.b true) (.a ⟨bv r15_7, []⟩ :: (rp 11 (.b true) (.a ⟨bv r15_11, []⟩ :: (rp 7 (.b true) (.a ⟨bv r15_14, []⟩ :: (.b true :: (rp 43 (.b false) []))))))))))) (.c (Asks.of (C := Meets Try.prog) (raft_May_1.meets r_v.Nodes 1 5 _ h15_2)) (.r 6 b15_3 (.c (Asks.of (C := Meets Try.prog) (raft_May_1.meets r_v.Me 1 r_v.Nodes _ h15_5)) (.c b15_3 (.r 4 b15_6 (.c (Asks.of (C := Meets Try.prog) (raft_May_1.meets r_v.Wait 1 60 _ h15_8)) (.c b15_6 (.r 4 b15_9 (.r 6 b15_10 (.c (Asks.of (C := Meets Try.prog) (raft_May_1.meets r_v.Vote 0 r_v.Nodes _ h15_12)) (.c b15_10 (.r 6 b15_13 (.c (Asks.of (C := Meets Try.prog) (raft_May_1.meets r_v.Leader 0 r_v.Nodes _ h15_15)) (.c b15_13 (.r 5 b15_16 (.r 38 rF .n)))))))))))))))) ?_
        refine kRt ?_
        have h_ := some_inj h
        subst h_
        exact kFr
      ·refine kRs 0 [Tm 2 (bv false)] (.a ⟨bv r15_1, []⟩ :: (rp 6 (.b true) (.a ⟨bv r15_4, []⟩ :: (rp 5 (.b true) (.a ⟨bv r15_7, []⟩ :: (rp 11 (.b true) (.a ⟨bv r15_11, []⟩ :: (.b true :: (rp 50 (.b false) []))))))))) (.c (Asks.of (C := Meets Try.prog) (raft_May_1.meets r_v.Nodes 1 5 _ h15_2)) (.r 6 b15_3 (.c (Asks.of (C := Meets Try.prog) (raft_May_1.meets r_v.Me 1 r_v.Nodes _ h15_5)) (.c b15_3 (.r 4 b15_6 (.c (Asks.of (C := Meets Try.prog) (raft_May_1.meets r_v.Wait 1 60 _ h15_8)) (.c b15_6 (.r 4 b15_9 (.r 6 b15_10 (.c (Asks.of (C := Meets Try.prog) (raft_May_1.meets r_v.Vote 0 r_v.Nodes _ h15_12)) (.c b15_10 (.r 7 b15_13 (.r 43 rF .n))))))))))))) ?_
       refine kRt ?_
       have h_ := some_inj h
       subst h_
       exact kFr
     ·refine kRs 0 [Tm 2 (bv false)] (.a ⟨bv r15_1, []⟩ :: (rp 6 (.b true) (.a ⟨bv r15_4, []⟩ :: (rp 5 (.b true) (.a ⟨bv r15_7, []⟩ :: (rp 5 (.b true) (rp 57 (.b false) []))))))) (.c (Asks.of (C := Meets Try.prog) (raft_May_1.meets r_v.Nodes 1 5 _ h15_2)) (.r 6 b15_3 (.c (Asks.of (C := Meets Try.prog) (raft_May_1.meets r_v.Me 1 r_v.Nodes _ h15_5)) (.c b15_3 (.r 4 b15_6 (.c (Asks.of (C := Meets Try.prog) (raft_May_1.meets r_v.Wait 1 60 _ h15_8)) (.c b15_6 (.r 4 b15_9 (.r 7 b15_10 (.r 50 rF .n)))))))))) ?_
      refine kRt ?_
      have h_ := some_inj h
      subst h_
      exact kFr
    ·refine kRs 0 [Tm 2 (bv false)] (.a ⟨bv r15_1, []⟩ :: (rp 6 (.b true) (.a ⟨bv r15_4, []⟩ :: (rp 5 (.b true) (.a ⟨bv r15_7, []⟩ :: (.b true :: (rp 61 (.b false) []))))))) (.c (Asks.of (C := Meets Try.prog) (raft_May_1.meets r_v.Nodes 1 5 _ h15_2)) (.r 6 b15_3 (.c (Asks.of (C := Meets Try.prog) (raft_May_1.meets r_v.Me 1 r_v.Nodes _ h15_5)) (.c b15_3 (.r 4 b15_6 (.c (Asks.of (C := Meets Try.prog) (raft_May_1.meets r_v.Wait 1 60 _ h15_8)) (.c b15_6 (.r 4 b15_9 (.r 57 rF .n))))))))) ?_
     refine kRt ?_
     have h_ := some_inj h
     subst h_
     exact kFr
   ·refine kRs 0 [Tm 2 (bv false)] (.a ⟨bv r15_1, []⟩ :: (rp 6 (.b true) (.a ⟨bv r15_4, []⟩ :: (.b true :: (rp 66 (.b false) []))))) (.c (Asks.of (C := Meets Try.prog) (raft_May_1.meets r_v.Nodes 1 5 _ h15_2)) (.r 6 b15_3 (.c (Asks.of (C := Meets Try.prog) (raft_May_1.meets r_v.Me 1 r_v.Nodes _ h15_5)) (.c b15_3 (.r 5 b15_6 (.r 61 rF .n)))))) ?_
    refine kRt ?_
    have h_ := some_inj h
    subst h_
    exact kFr
  ·refine kRs 0 [Tm 2 (bv false)] (.a ⟨bv r15_1, []⟩ :: (rp 73 (.b false) [])) (.c (Asks.of (C := Meets Try.prog) (raft_May_1.meets r_v.Nodes 1 5 _ h15_2)) (.r 7 b15_3 (.r 66 rF .n))) ?_
   refine kRt ?_
   have h_ := some_inj h
   subst h_
   exact kFr
 ·obtain ⟨⟩ := o14
  obtain ⟨rfl, rfl⟩ := hp_
  have h_ := some_inj h
  subst h_
  exact kFr
def bd82 : Code := (Try.f82.body).getD .skip
def slices_Clone_api_Entry.O : Nat → Nat := fun t => bif ([2, 5] : List Nat).any (Nat.beq t) then 1 else 0
def slices_Clone_api_Entry (s : List TEntry) : Option (List TEntry) :=
 gd (decide (([] : List TEntry).length + s.length ≤ 4294967296)) <|
 some s
theorem slices_Clone_api_Entry.meets1 (s : List TEntry) (z0 : List TEntry) (h : slices_Clone_api_Entry s = some z0) : Meets Try.prog ⟨82, [.data (.slc false (some false) 6 (List.map TEntry.en s))], []⟩ ⟨sO 6 TEntry.en z0, []⟩ := by
 refine kMt hmix slices_Clone_api_Entry.O Try.f82 bd82 1 ?_
 unfold slices_Clone_api_Entry at h
 refine kRs 1 [] [] .n ?_
 refine kSq ?_
 refine kRs 1 [Tm 4 (bv false)] [] .n ?_
 refine kCe rF ?_
 refine kSk ?_
 refine kCd (cR (cR bd82)) [] ?_
 obtain ⟨c5_1, h⟩ := gd_inv h
 refine kRs 0 [Tm 2 (sO 6 TEntry.en s)] [] (.c (c_al (e := TEntry.en) (f := TEntry.en) c5_1) .n) ?_
 refine kRt ?_
 have h_ := some_inj h
 subst h_
 exact kFr
def slices_Clone_api_Entry_nil : Option (List TEntry) :=
 some []
theorem slices_Clone_api_Entry.meets0 (z0 : List TEntry) (h : slices_Clone_api_Entry_nil = some z0) : Meets Try.prog ⟨82, [.data (.slc false (some true) 6 (List.map TEntry.en []))], []⟩ ⟨sO 6 TEntry.en z0, []⟩ := by
 refine kMt hmix slices_Clone_api_Entry.O Try.f82 bd82 1 ?_
 unfold slices_Clone_api_Entry_nil at h
 refine kRs 1 [] [] .n ?_
 refine kSq ?_
 refine kRs 1 [Tm 4 (bv true)] [] .n ?_
 refine kCt rT ?_
 refine kRs 0 [Tm 2 (.data (.slc true (some true) 6 (List.map TEntry.en [])))] [] .n ?_
 refine kWd 0 [Tm 2 (.data (.slc true none 6 (List.map TEntry.en [])))] ?_
 refine kRt ?_
 have h_ := some_inj h
 subst h_
 exact kFr
theorem slices_Clone_api_Entry.nil_eq : slices_Clone_api_Entry [] = slices_Clone_api_Entry_nil := by kernel_rfl
theorem slices_Clone_api_Entry.meets (s : List TEntry) (z0 : List TEntry) (h : slices_Clone_api_Entry s = some z0) : Meets Try.prog ⟨82, [sS 6 TEntry.en s], []⟩ ⟨sO 6 TEntry.en z0, []⟩ := by
  refine asks_ok (C := Meets Try.prog) (fun _ _ h => h) (Asks.nil (args1 := []) (args2 := []) (sz := 6) (es := List.map TEntry.en s) (fun e => .of ?_) (.of (slices_Clone_api_Entry.meets1 s z0 h)))
  obtain rfl : s = [] := List.map_eq_nil_iff.1 e
  exact slices_Clone_api_Entry.meets0 z0 (slices_Clone_api_Entry.nil_eq  ▸ h)
def bd83 : Code := (Try.f83.body).getD .skip
def slices_Clone_api_Read.O : Nat → Nat := fun t => bif ([2, 5] : List Nat).any (Nat.beq t) then 1 else 0
def slices_Clone_api_Read (s : List TRead) : Option (List TRead) :=
 gd (decide (([] : List TRead).length + s.length ≤ 4294967296)) <|
 some s
theorem slices_Clone_api_Read.meets1 (s : List TRead) (z0 : List TRead) (h : slices_Clone_api_Read s = some z0) : Meets Try.prog ⟨83, [.data (.slc false (some false) 4 (List.map TRead.en s))], []⟩ ⟨sO 4 TRead.en z0, []⟩ := by
 refine kMt hmix slices_Clone_api_Read.O Try.f83 bd83 1 ?_
 unfold slices_Clone_api_Read at h
 refine kRs 1 [] [] .n ?_
 refine kSq ?_
 refine kRs 1 [Tm 4 (bv false)] [] .n ?_
 refine kCe rF ?_
 refine kSk ?_
 refine kCd (cR (cR bd83)) [] ?_
 obtain ⟨c5_1, h⟩ := gd_inv h
 refine kRs 0 [Tm 2 (sO 4 TRead.en s)] [] (.c (c_al (e := TRead.en) (f := TRead.en) c5_1) .n) ?_
 refine kRt ?_
 have h_ := some_inj h
 subst h_
 exact kFr
def slices_Clone_api_Read_nil : Option (List TRead) :=
 some []
theorem slices_Clone_api_Read.meets0 (z0 : List TRead) (h : slices_Clone_api_Read_nil = some z0) : Meets Try.prog ⟨83, [.data (.slc false (some true) 4 (List.map TRead.en []))], []⟩ ⟨sO 4 TRead.en z0, []⟩ := by
 refine kMt hmix slices_Clone_api_Read.O Try.f83 bd83 1 ?_
 unfold slices_Clone_api_Read_nil at h
 refine kRs 1 [] [] .n ?_
 refine kSq ?_
 refine kRs 1 [Tm 4 (bv true)] [] .n ?_
 refine kCt rT ?_
 refine kRs 0 [Tm 2 (.data (.slc true (some true) 4 (List.map TRead.en [])))] [] .n ?_
 refine kWd 0 [Tm 2 (.data (.slc true none 4 (List.map TRead.en [])))] ?_
 refine kRt ?_
 have h_ := some_inj h
 subst h_
 exact kFr
theorem slices_Clone_api_Read.nil_eq : slices_Clone_api_Read [] = slices_Clone_api_Read_nil := by kernel_rfl
theorem slices_Clone_api_Read.meets (s : List TRead) (z0 : List TRead) (h : slices_Clone_api_Read s = some z0) : Meets Try.prog ⟨83, [sS 4 TRead.en s], []⟩ ⟨sO 4 TRead.en z0, []⟩ := by
  refine asks_ok (C := Meets Try.prog) (fun _ _ h => h) (Asks.nil (args1 := []) (args2 := []) (sz := 4) (es := List.map TRead.en s) (fun e => .of ?_) (.of (slices_Clone_api_Read.meets1 s z0 h)))
  obtain rfl : s = [] := List.map_eq_nil_iff.1 e
  exact slices_Clone_api_Read.meets0 z0 (slices_Clone_api_Read.nil_eq  ▸ h)
def bd84 : Code := (Try.f84.body).getD .skip
def slices_Clone_api_Write.O : Nat → Nat := fun t => bif ([2, 5] : List Nat).any (Nat.beq t) then 1 else 0
def slices_Clone_api_Write (s : List TWrite) : Option (List TWrite) :=
 gd (decide (([] : List TWrite).length + s.length ≤ 4294967296)) <|
 some s
theorem slices_Clone_api_Write.meets1 (s : List TWrite) (z0 : List TWrite) (h : slices_Clone_api_Write s = some z0) : Meets Try.prog ⟨84, [.data (.slc false (some false) 3 (List.map TWrite.en s))], []⟩ ⟨sO 3 TWrite.en z0, []⟩ := by
 refine kMt hmix slices_Clone_api_Write.O Try.f84 bd84 1 ?_
 unfold slices_Clone_api_Write at h
 refine kRs 1 [] [] .n ?_
 refine kSq ?_
 refine kRs 1 [Tm 4 (bv false)] [] .n ?_
 refine kCe rF ?_
 refine kSk ?_
 refine kCd (cR (cR bd84)) [] ?_
 obtain ⟨c5_1, h⟩ := gd_inv h
 refine kRs 0 [Tm 2 (sO 3 TWrite.en s)] [] (.c (c_al (e := TWrite.en) (f := TWrite.en) c5_1) .n) ?_
 refine kRt ?_
 have h_ := some_inj h
 subst h_
 exact kFr
def slices_Clone_api_Write_nil : Option (List TWrite) :=
 some []
theorem slices_Clone_api_Write.meets0 (z0 : List TWrite) (h : slices_Clone_api_Write_nil = some z0) : Meets Try.prog ⟨84, [.data (.slc false (some true) 3 (List.map TWrite.en []))], []⟩ ⟨sO 3 TWrite.en z0, []⟩ := by
 refine kMt hmix slices_Clone_api_Write.O Try.f84 bd84 1 ?_
 unfold slices_Clone_api_Write_nil at h
 refine kRs 1 [] [] .n ?_
 refine kSq ?_
 refine kRs 1 [Tm 4 (bv true)] [] .n ?_
 refine kCt rT ?_
 refine kRs 0 [Tm 2 (.data (.slc true (some true) 3 (List.map TWrite.en [])))] [] .n ?_
 refine kWd 0 [Tm 2 (.data (.slc true none 3 (List.map TWrite.en [])))] ?_
 refine kRt ?_
 have h_ := some_inj h
 subst h_
 exact kFr
theorem slices_Clone_api_Write.nil_eq : slices_Clone_api_Write [] = slices_Clone_api_Write_nil := by kernel_rfl
theorem slices_Clone_api_Write.meets (s : List TWrite) (z0 : List TWrite) (h : slices_Clone_api_Write s = some z0) : Meets Try.prog ⟨84, [sS 3 TWrite.en s], []⟩ ⟨sO 3 TWrite.en z0, []⟩ := by
  refine asks_ok (C := Meets Try.prog) (fun _ _ h => h) (Asks.nil (args1 := []) (args2 := []) (sz := 3) (es := List.map TWrite.en s) (fun e => .of ?_) (.of (slices_Clone_api_Write.meets1 s z0 h)))
  obtain rfl : s = [] := List.map_eq_nil_iff.1 e
  exact slices_Clone_api_Write.meets0 z0 (slices_Clone_api_Write.nil_eq  ▸ h)
def bd55 : Code := (Try.f55.body).getD .skip
def raft_entries.O : Nat → Nat := fun t => bif ([2, 3, 4, 5] : List Nat).any (Nat.beq t) then 1 else bif ([22, 26] : List Nat).any (Nat.beq t) then 2 else 0
def raft_entries.lp4 (fu : Nat) (l4_1 : Int) : Nat → (List TEntry) → Int → Option (List TEntry)
  | 0, _, _ => none
  | n_ + 1, l4_0, l4_2 =>
  br (decide (l4_2 < l4_1))
   (ix l4_0 l4_2 fun x7_1 =>
   bd (slices_Clone_api_Read x7_1.T.Reads) fun r8_1 =>
   bd (slices_Clone_api_Write x7_1.T.Writes) fun r8_3 =>
   ix l4_0 l4_2 fun x8_5 =>
   ix (l4_0.set l4_2.toNat (TEntry.mk x8_5.Term x8_5.Seal (TTxn.mk x8_5.T.Session x8_5.T.Seq r8_1 x8_5.T.Writes))) l4_2 fun x8_8 =>
   raft_entries.lp4 fu l4_1 n_ ((l4_0.set l4_2.toNat (TEntry.mk x8_5.Term x8_5.Seal (TTxn.mk x8_5.T.Session x8_5.T.Seq r8_1 x8_5.T.Writes))).set l4_2.toNat (TEntry.mk x8_8.Term x8_8.Seal (TTxn.mk x8_8.T.Session x8_8.T.Seq x8_8.T.Reads r8_3))) (w64 (l4_2 + 1)))
   (some l4_0)
def raft_entries.lp4_post (l4_1 : Int) (r_ : (List TEntry)) : Wy → St → Prop := fun e τ => match r_ with
  | y0 => e = .exit 0 ∧ τ = ofL [Tm 3 (.ref (.t 8) 0 0 none), Tm 8 (sO 6 TEntry.en y0)]
theorem raft_entries.lp4_ok (fu : Nat) (l4_1 : Int) : ∀ (n_ : Nat) (l4_0 : List TEntry) (l4_2 : Int) (r_ : (List TEntry)), raft_entries.lp4 fu l4_1 n_ l4_0 l4_2 = some r_ → WK Try.prog raft_entries.O (Ck Try.prog) (cB (cR (cL (cR (cR bd55))))) [] (ofL [Tm 3 (.ref (.t 8) 0 0 none), Tm 8 (sO 6 TEntry.en l4_0), Tm 9 (iv l4_1), Tm 10 (iv l4_2)]) (raft_entries.lp4_post l4_1 r_) := by
 intro n_
 induction n_ with
 | zero => intro l4_0 l4_2 r_ h; exact no_none h
 | succ n_ ih =>
  intro l4_0 l4_2 r_ h
  refine kLp ?_
  refine kRs 15 [Tm 11 (bv (decide (l4_2 < l4_1)))] [] .n ?_
  refine kSq ?_
  rcases br_inv h with ⟨b6_0, h⟩ | ⟨b6_0, h⟩
  ·refine kCt b6_0 ?_
   refine kSk ?_
   refine kCd (cR (cR (cB (cB (cR (cL (cR (cR bd55)))))))) [.lp (cB (cR (cL (cR (cR bd55)))))] ?_
   refine kSq ?_
   refine kBk 1 ?_
   obtain ⟨x7_1, a7_2, e7_3, h⟩ := ix_inv h
   refine kRs 30 [Tm 4 (iv l4_2), Tm 5 (.ptr 5 0), Ob 5 (TEntry.ob x7_1)] [.c (TEntry.en x7_1)] (.c (c_ix (e := TEntry.en) a7_2 e7_3) (.c (c_el (e := TEntry.en) e7_3) .n)) ?_
   obtain ⟨r8_1, h8_2, h⟩ := bd_inv h
   obtain ⟨r8_3, h8_4, h⟩ := bd_inv h
   obtain ⟨x8_5, a8_6, e8_7, h⟩ := ix_inv h
   obtain ⟨x8_8, a8_9, e8_10, h⟩ := ix_inv h
   refine kRc 104 [Tm 8 (sO 6 TEntry.en ((l4_0.set l4_2.toNat (TEntry.mk x8_5.Term x8_5.Seal (TTxn.mk x8_5.T.Session x8_5.T.Seq r8_1 x8_5.T.Writes))).set l4_2.toNat (TEntry.mk x8_8.Term x8_8.Seal (TTxn.mk x8_8.T.Session x8_8.T.Seq x8_8.T.Reads r8_3))))] [.a ⟨sO 4 TRead.en r8_1, []⟩, .a ⟨sO 3 TWrite.en r8_3, []⟩, .c (TEntry.en x8_5), .s (.t 8) [sO 6 TEntry.en (l4_0.set l4_2.toNat (TEntry.mk x8_5.Term x8_5.Seal (TTxn.mk x8_5.T.Session x8_5.T.Seq r8_1 x8_5.T.Writes)))], .c (TEntry.en x8_8), .s (.t 8) [sO 6 TEntry.en ((l4_0.set l4_2.toNat (TEntry.mk x8_5.Term x8_5.Seal (TTxn.mk x8_5.T.Session x8_5.T.Seq r8_1 x8_5.T.Writes))).set l4_2.toNat (TEntry.mk x8_8.Term x8_8.Seal (TTxn.mk x8_8.T.Session x8_8.T.Seq x8_8.T.Reads r8_3)))]] (.c (Asks.of (C := Meets Try.prog) (slices_Clone_api_Read.meets x7_1.T.Reads _ h8_2)) (.c (Asks.of (C := Meets Try.prog) (slices_Clone_api_Write.meets x7_1.T.Writes _ h8_4)) (.c (c_ix (e := TEntry.en) a8_6 e8_7) (.c (c_el (e := TEntry.en) e8_7) (.c (congrArg (fun d : DV => [AV.data d]) (c_set (e := TEntry.en) (s := 6) (nl := none) (l := l4_0) (i := l4_2.toNat) (x := (TEntry.mk x8_5.Term x8_5.Seal (TTxn.mk x8_5.T.Session x8_5.T.Seq r8_1 x8_5.T.Writes))))) (.c (c_ix (e := TEntry.en) a8_9 e8_10) (.c (c_el (e := TEntry.en) e8_10) (.c (congrArg (fun d : DV => [AV.data d]) (c_set (e := TEntry.en) (s := 6) (nl := none) (l := (l4_0.set l4_2.toNat (TEntry.mk x8_5.Term x8_5.Seal (TTxn.mk x8_5.T.Session x8_5.T.Seq r8_1 x8_5.T.Writes)))) (i := l4_2.toNat) (x := (TEntry.mk x8_8.Term x8_8.Seal (TTxn.mk x8_8.T.Session x8_8.T.Seq x8_8.T.Reads r8_3))))) (.c rT .n))))))))) (cR (cR (cR (cB (cB (cR (cL (cR (cR bd55))))))))) [.lp (cB (cR (cL (cR (cR bd55)))))] ?_
   refine kRc 7 [Tm 10 (iv (w64 (l4_2 + 1)))] [] .n (cB (cR (cL (cR (cR bd55))))) [] ?_
   exact kWk (ih ((l4_0.set l4_2.toNat (TEntry.mk x8_5.Term x8_5.Seal (TTxn.mk x8_5.T.Session x8_5.T.Seq r8_1 x8_5.T.Writes))).set l4_2.toNat (TEntry.mk x8_8.Term x8_8.Seal (TTxn.mk x8_8.T.Session x8_8.T.Seq x8_8.T.Reads r8_3))) (w64 (l4_2 + 1)) _ h)
  ·refine kCe b6_0 ?_
   cases some_inj h
   refine kWo ?_
   refine kXt 0 ?_
   exact kOut
def raft_entries (fu : Nat) (l : List TEntry) : Option (List TEntry) :=
 bd (slices_Clone_api_Entry l) fun r2_1 =>
 bd (raft_entries.lp4 fu (r2_1.length : Int) fu r2_1 0) fun y10_0 =>
 some y10_0
theorem raft_entries.meets (fu : Nat) (l : List TEntry) (z0 : List TEntry) (h : raft_entries fu l = some z0) : Meets Try.prog ⟨55, [sS 6 TEntry.en l], []⟩ ⟨sO 6 TEntry.en z0, []⟩ := by
 refine kMt hmix raft_entries.O Try.f55 bd55 1 ?_
 unfold raft_entries at h
 refine kRs 1 [] [] .n ?_
 obtain ⟨r2_1, h2_2, h⟩ := bd_inv h
 refine kRs 0 [Tm 3 (sO 6 TEntry.en r2_1)] [.a ⟨sO 6 TEntry.en r2_1, []⟩] (.c (Asks.of (C := Meets Try.prog) (slices_Clone_api_Entry.meets l _ h2_2)) .n) ?_
 refine kSq ?_
 refine kRs 1 [Tm 8 (.ref (.t 3) 0 0 none), Tm 9 (iv (r2_1.length : Int)), Tm 10 (iv 0)] [.s (.t 9) [iv (r2_1.length : Int)]] (.c (c_len (e := TEntry.en) (l := r2_1)) .n) ?_
 refine kBk 0 ?_
 refine WK.swap (t := 3) (u := 8) (d := .slc true none 6 (List.map TEntry.en r2_1)) (l' := [Tm 3 (.ref (.t 8) 0 0 none), Tm 8 (sO 6 TEntry.en r2_1), Tm 9 (iv (r2_1.length : Int)), Tm 10 (iv 0)]) (by kernel_rfl) (by kernel_rfl) (by kernel_rfl) (by kernel_rfl) (by kernel_rfl) ?_
 obtain ⟨o10, ho10, h⟩ := bd_inv h
 refine kUs (raft_entries.lp4_ok fu (r2_1.length : Int) _ r2_1 0 _ ho10) ?_
 intro e_ τ_ hp_
 obtain ⟨y10_0, rfl⟩ : ∃ y, y = o10 := ⟨_, rfl⟩
 obtain ⟨rfl, rfl⟩ := hp_
 refine kCd (cR (cR (cR bd55))) [] ?_
 refine kRs 0 [Tm 2 (sO 6 TEntry.en y10_0)] [] .n ?_
 refine kRt ?_
 have h_ := some_inj h
 subst h_
 exact kFr
def bd71 : Code := (Try.f71.body).getD .skip
def slices_Clone_bool_bool.O : Nat → Nat := fun t => bif ([2, 5] : List Nat).any (Nat.beq t) then 1 else 0
def slices_Clone_bool_bool (s : List Bool) : Option (List Bool) :=
 gd (decide (([] : List Bool).length + s.length ≤ 4294967296)) <|
 some s
theorem slices_Clone_bool_bool.meets1 (s : List Bool) (z0 : List Bool) (h : slices_Clone_bool_bool s = some z0) : Meets Try.prog ⟨71, [.data (.slc false (some false) 1 (List.map e_b s))], []⟩ ⟨sO 1 e_b z0, []⟩ := by
 refine kMt hmix slices_Clone_bool_bool.O Try.f71 bd71 1 ?_
 unfold slices_Clone_bool_bool at h
 refine kRs 1 [] [] .n ?_
 refine kSq ?_
 refine kRs 1 [Tm 4 (bv false)] [] .n ?_
 refine kCe rF ?_
 refine kSk ?_
 refine kCd (cR (cR bd71)) [] ?_
 obtain ⟨c5_1, h⟩ := gd_inv h
 refine kRs 0 [Tm 2 (sO 1 e_b s)] [] (.c (c_al (e := e_b) (f := e_b) c5_1) .n) ?_
 refine kRt ?_
 have h_ := some_inj h
 subst h_
 exact kFr
def slices_Clone_bool_bool_nil : Option (List Bool) :=
 some []
theorem slices_Clone_bool_bool.meets0 (z0 : List Bool) (h : slices_Clone_bool_bool_nil = some z0) : Meets Try.prog ⟨71, [.data (.slc false (some true) 1 (List.map e_b []))], []⟩ ⟨sO 1 e_b z0, []⟩ := by
 refine kMt hmix slices_Clone_bool_bool.O Try.f71 bd71 1 ?_
 unfold slices_Clone_bool_bool_nil at h
 refine kRs 1 [] [] .n ?_
 refine kSq ?_
 refine kRs 1 [Tm 4 (bv true)] [] .n ?_
 refine kCt rT ?_
 refine kRs 0 [Tm 2 (.data (.slc true (some true) 1 (List.map e_b [])))] [] .n ?_
 refine kWd 0 [Tm 2 (.data (.slc true none 1 (List.map e_b [])))] ?_
 refine kRt ?_
 have h_ := some_inj h
 subst h_
 exact kFr
theorem slices_Clone_bool_bool.nil_eq : slices_Clone_bool_bool [] = slices_Clone_bool_bool_nil := by kernel_rfl
theorem slices_Clone_bool_bool.meets (s : List Bool) (z0 : List Bool) (h : slices_Clone_bool_bool s = some z0) : Meets Try.prog ⟨71, [sS 1 e_b s], []⟩ ⟨sO 1 e_b z0, []⟩ := by
  refine asks_ok (C := Meets Try.prog) (fun _ _ h => h) (Asks.nil (args1 := []) (args2 := []) (sz := 1) (es := List.map e_b s) (fun e => .of ?_) (.of (slices_Clone_bool_bool.meets1 s z0 h)))
  obtain rfl : s = [] := List.map_eq_nil_iff.1 e
  exact slices_Clone_bool_bool.meets0 z0 (slices_Clone_bool_bool.nil_eq  ▸ h)
def bd72 : Code := (Try.f72.body).getD .skip
def slices_Clone_int_int.O : Nat → Nat := fun t => bif ([2, 5] : List Nat).any (Nat.beq t) then 1 else 0
def slices_Clone_int_int (s : List Int) : Option (List Int) :=
 gd (decide (([] : List Int).length + s.length ≤ 4294967296)) <|
 some s
theorem slices_Clone_int_int.meets1 (s : List Int) (z0 : List Int) (h : slices_Clone_int_int s = some z0) : Meets Try.prog ⟨72, [.data (.slc false (some false) 1 (List.map e_i64 s))], []⟩ ⟨sO 1 e_i64 z0, []⟩ := by
 refine kMt hmix slices_Clone_int_int.O Try.f72 bd72 1 ?_
 unfold slices_Clone_int_int at h
 refine kRs 1 [] [] .n ?_
 refine kSq ?_
 refine kRs 1 [Tm 4 (bv false)] [] .n ?_
 refine kCe rF ?_
 refine kSk ?_
 refine kCd (cR (cR bd72)) [] ?_
 obtain ⟨c5_1, h⟩ := gd_inv h
 refine kRs 0 [Tm 2 (sO 1 e_i64 s)] [] (.c (c_al (e := e_i64) (f := e_i64) c5_1) .n) ?_
 refine kRt ?_
 have h_ := some_inj h
 subst h_
 exact kFr
def slices_Clone_int_int_nil : Option (List Int) :=
 some []
theorem slices_Clone_int_int.meets0 (z0 : List Int) (h : slices_Clone_int_int_nil = some z0) : Meets Try.prog ⟨72, [.data (.slc false (some true) 1 (List.map e_i64 []))], []⟩ ⟨sO 1 e_i64 z0, []⟩ := by
 refine kMt hmix slices_Clone_int_int.O Try.f72 bd72 1 ?_
 unfold slices_Clone_int_int_nil at h
 refine kRs 1 [] [] .n ?_
 refine kSq ?_
 refine kRs 1 [Tm 4 (bv true)] [] .n ?_
 refine kCt rT ?_
 refine kRs 0 [Tm 2 (.data (.slc true (some true) 1 (List.map e_i64 [])))] [] .n ?_
 refine kWd 0 [Tm 2 (.data (.slc true none 1 (List.map e_i64 [])))] ?_
 refine kRt ?_
 have h_ := some_inj h
 subst h_
 exact kFr
theorem slices_Clone_int_int.nil_eq : slices_Clone_int_int [] = slices_Clone_int_int_nil := by kernel_rfl
theorem slices_Clone_int_int.meets (s : List Int) (z0 : List Int) (h : slices_Clone_int_int s = some z0) : Meets Try.prog ⟨72, [sS 1 e_i64 s], []⟩ ⟨sO 1 e_i64 z0, []⟩ := by
  refine asks_ok (C := Meets Try.prog) (fun _ _ h => h) (Asks.nil (args1 := []) (args2 := []) (sz := 1) (es := List.map e_i64 s) (fun e => .of ?_) (.of (slices_Clone_int_int.meets1 s z0 h)))
  obtain rfl : s = [] := List.map_eq_nil_iff.1 e
  exact slices_Clone_int_int.meets0 z0 (slices_Clone_int_int.nil_eq  ▸ h)
def bd45 : Code := (Try.f45.body).getD .skip
def raft_twin.O : Nat → Nat := fun t => bif ([1, 2, 5, 9, 12, 15, 19] : List Nat).any (Nat.beq t) then 1 else 0
def raft_twin (fu : Nat) (r_v : TRaft) : Option TRaft :=
 bd (raft_entries fu r_v.Log) fun r2_1 =>
 bd (slices_Clone_bool_bool r_v.Votes) fun r3_1 =>
 bd (slices_Clone_int_int r_v.Next) fun r3_3 =>
 bd (slices_Clone_int_int r_v.Match) fun r3_5 =>
 some (TRaft.mk r_v.Me r_v.Nodes r_v.Wait r_v.Term r_v.Vote r2_1 r_v.Commit r_v.Role r_v.Leader r3_1 r3_3 r3_5 r_v.Clock)
theorem raft_twin.meets (fu : Nat) (r_v : TRaft) (z0 : TRaft) (h : raft_twin fu r_v = some z0) : Meets Try.prog ⟨45, [.data (TRaft.ag r_v)], []⟩ ⟨.data (TRaft.ag_000001000111 z0), []⟩ := by
 refine kMt hmix raft_twin.O Try.f45 bd45 1 ?_
 unfold raft_twin at h
 refine kRs 0 [Tm 1 (.ptr 1 0), Tm 2 (.ptr 2 0), Ob 1 (TRaft.ob r_v), Ob 2 (TRaft.ob_000001000111 (TRaft.mk 0 0 0 0 0 [] 0 0 0 [] [] [] 0))] [] .n ?_
 obtain ⟨r2_1, h2_2, h⟩ := bd_inv h
 refine kRs 11 [Ob 1 (TRaft.ob_000001 (TRaft.mk r_v.Me r_v.Nodes r_v.Wait r_v.Term r_v.Vote r2_1 r_v.Commit r_v.Role r_v.Leader r_v.Votes r_v.Next r_v.Match r_v.Clock))] [.a ⟨sO 6 TEntry.en r2_1, []⟩] (.c (Asks.of (C := Meets Try.prog) (raft_entries.meets fu r_v.Log _ h2_2)) .n) ?_
 obtain ⟨r3_1, h3_2, h⟩ := bd_inv h
 obtain ⟨r3_3, h3_4, h⟩ := bd_inv h
 obtain ⟨r3_5, h3_6, h⟩ := bd_inv h
 refine kRs 14 [Ob 1 (TRaft.ob_000001000111 (TRaft.mk r_v.Me r_v.Nodes r_v.Wait r_v.Term r_v.Vote r2_1 r_v.Commit r_v.Role r_v.Leader r3_1 r3_3 r3_5 r_v.Clock))] [.a ⟨sO 1 e_b r3_1, []⟩, .a ⟨sO 1 e_i64 r3_3, []⟩, .a ⟨sO 1 e_i64 r3_5, []⟩] (.c (Asks.of (C := Meets Try.prog) (slices_Clone_bool_bool.meets r_v.Votes _ h3_2)) (.c (Asks.of (C := Meets Try.prog) (slices_Clone_int_int.meets r_v.Next _ h3_4)) (.c (Asks.of (C := Meets Try.prog) (slices_Clone_int_int.meets r_v.Match _ h3_6)) (.c rT .n)))) ?_
 refine kRs 4 [Ob 2 (TRaft.ob_000001000111 (TRaft.mk r_v.Me r_v.Nodes r_v.Wait r_v.Term r_v.Vote r2_1 r_v.Commit r_v.Role r_v.Leader r3_1 r3_3 r3_5 r_v.Clock))] [] .n ?_
 refine kRt ?_
 have h_ := some_inj h
 subst h_
 exact kFr
def bd102 : Code := (Try.f102.body).getD .skip
def ulog_entries_term.O : Nat → Nat := fun t => bif ([4] : List Nat).any (Nat.beq t) then 1 else 0
def ulog_entries_term (l : List TEntry) (i : Int) : Option Int :=
 br (decide (i < 1))
  (some 0)
  (br (decide (i > (l.length : Int)))
   (some 0)
   (ix l (w64 (i - 1)) fun x6_1 =>
   some x6_1.Term))
theorem ulog_entries_term.meets (l : List TEntry) (i : Int) (z0 : Int) (h : ulog_entries_term l i = some z0) : Meets Try.prog ⟨102, [sS 6 TEntry.en l, iv i], []⟩ ⟨iv z0, []⟩ := by
 refine kMt hmix ulog_entries_term.O Try.f102 bd102 3 ?_
 unfold ulog_entries_term at h
 refine kRs 3 [] [] .n ?_
 refine kSq ?_
 rcases br_inv h with ⟨b2_1, h⟩ | ⟨b2_1, h⟩
 ·refine kRs 3 [Tm 12 (bv true)] (rp 5 (.b true) []) (.r 5 b2_1 .n) ?_
  refine kCt rT ?_
  refine kRs 0 [Tm 4 (iv 0)] [] .n ?_
  refine kRt ?_
  have h_ := some_inj h
  subst h_
  exact kFr
 ·refine kRs 3 [Tm 12 (bv (decide (i > (l.length : Int))))] [.b false, .b false, .b false, .s (.t 10) [iv (l.length : Int)], .b false, .b false] (.r 3 b2_1 (.c (c_len (e := TEntry.en) (l := l)) (.r 2 b2_1 .n))) ?_
  rcases br_inv h with ⟨b4_0, h⟩ | ⟨b4_0, h⟩
  ·refine kCt b4_0 ?_
   refine kRs 0 [Tm 4 (iv 0)] [] .n ?_
   refine kRt ?_
   have h_ := some_inj h
   subst h_
   exact kFr
  ·refine kCe b4_0 ?_
   refine kSk ?_
   refine kCd (cR (cR bd102)) [] ?_
   obtain ⟨x6_1, a6_2, e6_3, h⟩ := ix_inv h
   refine kRs 0 [Tm 4 (iv x6_1.Term)] [.c (TEntry.en x6_1)] (.c (c_ix (e := TEntry.en) a6_2 e6_3) (.c (c_el (e := TEntry.en) e6_3) .n)) ?_
   refine kRt ?_
   have h_ := some_inj h
   subst h_
   exact kFr
def bd96 : Code := (Try.f96.body).getD .skip
def ulog_Term.O : Nat → Nat := fun t => bif ([4, 5] : List Nat).any (Nat.beq t) then 1 else 0
def ulog_Term (l : List TEntry) (i : Int) : Option Int :=
 bd (ulog_entries_term l i) fun r3_1 =>
 some r3_1
theorem ulog_Term.meets (l : List TEntry) (i : Int) (z0 : Int) (h : ulog_Term l i = some z0) : Meets Try.prog ⟨96, [sS 6 TEntry.en l, iv i], []⟩ ⟨iv z0, []⟩ := by
 refine kMt hmix ulog_Term.O Try.f96 bd96 3 ?_
 unfold ulog_Term at h
 refine kRs 3 [] [] .n ?_
 refine kRs 3 [Tm 5 (.fn (.func 102) [] [])] [] .n ?_
 obtain ⟨r3_1, h3_2, h⟩ := bd_inv h
 refine kRs 0 [Tm 4 (iv r3_1)] [.a ⟨iv r3_1, []⟩] (.c (Asks.of (C := Meets Try.prog) (ulog_entries_term.meets l i _ h3_2)) .n) ?_
 refine kRt ?_
 have h_ := some_inj h
 subst h_
 exact kFr
def bd78 : Code := (Try.f78.body).getD .skip
def raft_member_sends.O : Nat → Nat := fun t => bif ([5, 11, 26, 27] : List Nat).any (Nat.beq t) then 1 else 0
def raft_member_sends (to : Int) (m : TMsg) (o0_v : TMember) : Option TMember :=
 gd (decide (o0_v.out.length + ([(TMsg.mk m.Kind o0_v.Raft.Me to m.Part o0_v.Raft.Term m.Index m.LogTerm m.Commit m.OK m.Entries m.T m.Session m.Seq m.Pos m.Shard m.Span m.FromKey m.ToKey m.Keys m.Got m.Err)] : List TMsg).length ≤ 4294967296)) <|
 some (TMember.mk o0_v.Raft (o0_v.out ++ ([(TMsg.mk m.Kind o0_v.Raft.Me to m.Part o0_v.Raft.Term m.Index m.LogTerm m.Commit m.OK m.Entries m.T m.Session m.Seq m.Pos m.Shard m.Span m.FromKey m.ToKey m.Keys m.Got m.Err)] : List TMsg)))
theorem raft_member_sends.meets (to : Int) (m : TMsg) (o0_v : TMember) (z0 : TMember) (h : raft_member_sends to m o0_v = some z0) : Meets Try.prog ⟨78, [.ptr 1000 0, iv to, .data (TMsg.ag m)], [(TMember.ob_00000000011101 o0_v)]⟩ ⟨.tup [], [(TMember.ob_00000000011101 z0)]⟩ := by
 refine kMt hmix raft_member_sends.O Try.f78 bd78 15 ?_
 unfold raft_member_sends at h
 refine kRs 11 [Tm 5 (.ptr 5 0), Ob 5 (TMsg.ob m)] [] .n ?_
 refine kRs 21 [Ob 5 (TMsg.ob (TMsg.mk m.Kind o0_v.Raft.Me to m.Part o0_v.Raft.Term m.Index m.LogTerm m.Commit m.OK m.Entries m.T m.Session m.Seq m.Pos m.Shard m.Span m.FromKey m.ToKey m.Keys m.Got m.Err))] [] (.c rT .n) ?_
 obtain ⟨c3_1, h⟩ := gd_inv h
 have h_ := some_inj h
 subst h_
 exact kRf [.s (.t 27) [sO 24 TMsg.en (o0_v.out ++ ([(TMsg.mk m.Kind o0_v.Raft.Me to m.Part o0_v.Raft.Term m.Index m.LogTerm m.Commit m.OK m.Entries m.T m.Session m.Seq m.Pos m.Shard m.Span m.FromKey m.ToKey m.Keys m.Got m.Err)] : List TMsg))]] (.c (c_al (e := TMsg.en) (f := TMsg.en) c3_1) (.c (congrArg (fun d : DV => [AV.data d]) (c_app (e := TMsg.en) (s := 24) (l := o0_v.out) (m := ([(TMsg.mk m.Kind o0_v.Raft.Me to m.Part o0_v.Raft.Term m.Index m.LogTerm m.Commit m.OK m.Entries m.T m.Session m.Seq m.Pos m.Shard m.Span m.FromKey m.ToKey m.Keys m.Got m.Err)] : List TMsg)))) (.c rT .n)))
def bd75 : Code := (Try.f75.body).getD .skip
def raft_member_more.O : Nat → Nat := fun t => bif ([4, 5, 57] : List Nat).any (Nat.beq t) then 1 else 0
def raft_member_more (fu : Nat) (to : Int) (o0_v : TMember) : Option TMember :=
 ix o0_v.Raft.Next (w64 (to - 1)) fun x1_1 =>
 gd (decide ((0 : Int) ≤ (if (o0_v.Raft.Log.length : Int) < (if (w64 (x1_1 - 1)) < 0 then 0 else (w64 (x1_1 - 1))) then (o0_v.Raft.Log.length : Int) else (if (w64 (x1_1 - 1)) < 0 then 0 else (w64 (x1_1 - 1)))) ∧ (if (o0_v.Raft.Log.length : Int) < (if (w64 (x1_1 - 1)) < 0 then 0 else (w64 (x1_1 - 1))) then (o0_v.Raft.Log.length : Int) else (if (w64 (x1_1 - 1)) < 0 then 0 else (w64 (x1_1 - 1)))) ≤ (if (o0_v.Raft.Log.length : Int) < (w64 ((if (o0_v.Raft.Log.length : Int) < (if (w64 (x1_1 - 1)) < 0 then 0 else (w64 (x1_1 - 1))) then (o0_v.Raft.Log.length : Int) else (if (w64 (x1_1 - 1)) < 0 then 0 else (w64 (x1_1 - 1)))) + 4)) then (o0_v.Raft.Log.length : Int) else (w64 ((if (o0_v.Raft.Log.length : Int) < (if (w64 (x1_1 - 1)) < 0 then 0 else (w64 (x1_1 - 1))) then (o0_v.Raft.Log.length : Int) else (if (w64 (x1_1 - 1)) < 0 then 0 else (w64 (x1_1 - 1)))) + 4))) ∧ (if (o0_v.Raft.Log.length : Int) < (w64 ((if (o0_v.Raft.Log.length : Int) < (if (w64 (x1_1 - 1)) < 0 then 0 else (w64 (x1_1 - 1))) then (o0_v.Raft.Log.length : Int) else (if (w64 (x1_1 - 1)) < 0 then 0 else (w64 (x1_1 - 1)))) + 4)) then (o0_v.Raft.Log.length : Int) else (w64 ((if (o0_v.Raft.Log.length : Int) < (if (w64 (x1_1 - 1)) < 0 then 0 else (w64 (x1_1 - 1))) then (o0_v.Raft.Log.length : Int) else (if (w64 (x1_1 - 1)) < 0 then 0 else (w64 (x1_1 - 1)))) + 4))) ≤ (o0_v.Raft.Log.length : Int))) <|
 bd (ulog_Term o0_v.Raft.Log (if (o0_v.Raft.Log.length : Int) < (if (w64 (x1_1 - 1)) < 0 then 0 else (w64 (x1_1 - 1))) then (o0_v.Raft.Log.length : Int) else (if (w64 (x1_1 - 1)) < 0 then 0 else (w64 (x1_1 - 1))))) fun r3_1 =>
 bd (raft_entries fu (List.drop (if (o0_v.Raft.Log.length : Int) < (if (w64 (x1_1 - 1)) < 0 then 0 else (w64 (x1_1 - 1))) then (o0_v.Raft.Log.length : Int) else (if (w64 (x1_1 - 1)) < 0 then 0 else (w64 (x1_1 - 1)))).toNat (List.take (if (o0_v.Raft.Log.length : Int) < (w64 ((if (o0_v.Raft.Log.length : Int) < (if (w64 (x1_1 - 1)) < 0 then 0 else (w64 (x1_1 - 1))) then (o0_v.Raft.Log.length : Int) else (if (w64 (x1_1 - 1)) < 0 then 0 else (w64 (x1_1 - 1)))) + 4)) then (o0_v.Raft.Log.length : Int) else (w64 ((if (o0_v.Raft.Log.length : Int) < (if (w64 (x1_1 - 1)) < 0 then 0 else (w64 (x1_1 - 1))) then (o0_v.Raft.Log.length : Int) else (if (w64 (x1_1 - 1)) < 0 then 0 else (w64 (x1_1 - 1)))) + 4))).toNat o0_v.Raft.Log))) fun r3_3 =>
 bd (raft_member_sends to (TMsg.mk 3 0 0 0 0 (if (o0_v.Raft.Log.length : Int) < (if (w64 (x1_1 - 1)) < 0 then 0 else (w64 (x1_1 - 1))) then (o0_v.Raft.Log.length : Int) else (if (w64 (x1_1 - 1)) < 0 then 0 else (w64 (x1_1 - 1)))) r3_1 o0_v.Raft.Commit false r3_3 (TTxn.mk 0 0 [] []) 0 0 0 0 false ByteArray.empty ByteArray.empty [] [] 0) o0_v) fun r3_5 =>
 some r3_5
theorem raft_member_more.meets (fu : Nat) (to : Int) (o0_v : TMember) (z0 : TMember) (h : raft_member_more fu to o0_v = some z0) : Meets Try.prog ⟨75, [.ptr 1000 0, iv to], [(TMember.ob_00000100011101 o0_v)]⟩ ⟨.tup [], [(TMember.ob_00000000011101 z0)]⟩ := by
 refine kMt hmix raft_member_more.O Try.f75 bd75 7 ?_
 unfold raft_member_more at h
 obtain ⟨x1_1, a1_2, e1_3, h⟩ := ix_inv h
 refine kRs 7 [Tm 4 (iv (if (o0_v.Raft.Log.length : Int) < (if (w64 (x1_1 - 1)) < 0 then 0 else (w64 (x1_1 - 1))) then (o0_v.Raft.Log.length : Int) else (if (w64 (x1_1 - 1)) < 0 then 0 else (w64 (x1_1 - 1)))))] [.c (e_i64 x1_1), .s (.t 22) [iv (o0_v.Raft.Log.length : Int)]] (.c (c_ix (e := e_i64) a1_2 e1_3) (.c (c_el (e := e_i64) e1_3) (.c (c_len (e := TEntry.en) (l := o0_v.Raft.Log)) (.c rT .n)))) ?_
 refine kSo 1000 5 7 [Ob 1000 (TMember.ob_00000000011101 o0_v)] ?_
 obtain ⟨c2_1, h⟩ := gd_inv h
 refine kRs 15 [Tm 5 (sS 6 TEntry.en (List.drop (if (o0_v.Raft.Log.length : Int) < (if (w64 (x1_1 - 1)) < 0 then 0 else (w64 (x1_1 - 1))) then (o0_v.Raft.Log.length : Int) else (if (w64 (x1_1 - 1)) < 0 then 0 else (w64 (x1_1 - 1)))).toNat (List.take (if (o0_v.Raft.Log.length : Int) < (w64 ((if (o0_v.Raft.Log.length : Int) < (if (w64 (x1_1 - 1)) < 0 then 0 else (w64 (x1_1 - 1))) then (o0_v.Raft.Log.length : Int) else (if (w64 (x1_1 - 1)) < 0 then 0 else (w64 (x1_1 - 1)))) + 4)) then (o0_v.Raft.Log.length : Int) else (w64 ((if (o0_v.Raft.Log.length : Int) < (if (w64 (x1_1 - 1)) < 0 then 0 else (w64 (x1_1 - 1))) then (o0_v.Raft.Log.length : Int) else (if (w64 (x1_1 - 1)) < 0 then 0 else (w64 (x1_1 - 1)))) + 4))).toNat o0_v.Raft.Log)))] [.s (.t 37) [iv (o0_v.Raft.Log.length : Int)], .s (.t 39) [sS 6 TEntry.en (List.drop (if (o0_v.Raft.Log.length : Int) < (if (w64 (x1_1 - 1)) < 0 then 0 else (w64 (x1_1 - 1))) then (o0_v.Raft.Log.length : Int) else (if (w64 (x1_1 - 1)) < 0 then 0 else (w64 (x1_1 - 1)))).toNat (List.take (if (o0_v.Raft.Log.length : Int) < (w64 ((if (o0_v.Raft.Log.length : Int) < (if (w64 (x1_1 - 1)) < 0 then 0 else (w64 (x1_1 - 1))) then (o0_v.Raft.Log.length : Int) else (if (w64 (x1_1 - 1)) < 0 then 0 else (w64 (x1_1 - 1)))) + 4)) then (o0_v.Raft.Log.length : Int) else (w64 ((if (o0_v.Raft.Log.length : Int) < (if (w64 (x1_1 - 1)) < 0 then 0 else (w64 (x1_1 - 1))) then (o0_v.Raft.Log.length : Int) else (if (w64 (x1_1 - 1)) < 0 then 0 else (w64 (x1_1 - 1)))) + 4))).toNat o0_v.Raft.Log))]] (.c (c_len (e := TEntry.en) (l := o0_v.Raft.Log)) (.c (c_cb (e := TEntry.en) c2_1) (.c (congrArg (fun d : DV => [AV.data d]) (c_cut (own := false) (nl := none) (s := 6) (e := TEntry.en) (l := o0_v.Raft.Log) (lo := (if (o0_v.Raft.Log.length : Int) < (if (w64 (x1_1 - 1)) < 0 then 0 else (w64 (x1_1 - 1))) then (o0_v.Raft.Log.length : Int) else (if (w64 (x1_1 - 1)) < 0 then 0 else (w64 (x1_1 - 1)))).toNat) (h := (if (o0_v.Raft.Log.length : Int) < (w64 ((if (o0_v.Raft.Log.length : Int) < (if (w64 (x1_1 - 1)) < 0 then 0 else (w64 (x1_1 - 1))) then (o0_v.Raft.Log.length : Int) else (if (w64 (x1_1 - 1)) < 0 then 0 else (w64 (x1_1 - 1)))) + 4)) then (o0_v.Raft.Log.length : Int) else (w64 ((if (o0_v.Raft.Log.length : Int) < (if (w64 (x1_1 - 1)) < 0 then 0 else (w64 (x1_1 - 1))) then (o0_v.Raft.Log.length : Int) else (if (w64 (x1_1 - 1)) < 0 then 0 else (w64 (x1_1 - 1)))) + 4))).toNat))) (.c rT .n)))) ?_
 obtain ⟨r3_1, h3_2, h⟩ := bd_inv h
 obtain ⟨r3_3, h3_4, h⟩ := bd_inv h
 obtain ⟨r3_5, h3_6, h⟩ := bd_inv h
 have h_ := some_inj h
 subst h_
 exact kRf [.a ⟨iv r3_1, []⟩, .a ⟨sO 6 TEntry.en r3_3, []⟩, .a ⟨.tup [], [(TMember.ob_00000000011101 r3_5)]⟩] (.c (Asks.of (C := Meets Try.prog) (ulog_Term.meets o0_v.Raft.Log (if (o0_v.Raft.Log.length : Int) < (if (w64 (x1_1 - 1)) < 0 then 0 else (w64 (x1_1 - 1))) then (o0_v.Raft.Log.length : Int) else (if (w64 (x1_1 - 1)) < 0 then 0 else (w64 (x1_1 - 1)))) _ h3_2)) (.c (Asks.of (C := Meets Try.prog) (raft_entries.meets fu (List.drop (if (o0_v.Raft.Log.length : Int) < (if (w64 (x1_1 - 1)) < 0 then 0 else (w64 (x1_1 - 1))) then (o0_v.Raft.Log.length : Int) else (if (w64 (x1_1 - 1)) < 0 then 0 else (w64 (x1_1 - 1)))).toNat (List.take (if (o0_v.Raft.Log.length : Int) < (w64 ((if (o0_v.Raft.Log.length : Int) < (if (w64 (x1_1 - 1)) < 0 then 0 else (w64 (x1_1 - 1))) then (o0_v.Raft.Log.length : Int) else (if (w64 (x1_1 - 1)) < 0 then 0 else (w64 (x1_1 - 1)))) + 4)) then (o0_v.Raft.Log.length : Int) else (w64 ((if (o0_v.Raft.Log.length : Int) < (if (w64 (x1_1 - 1)) < 0 then 0 else (w64 (x1_1 - 1))) then (o0_v.Raft.Log.length : Int) else (if (w64 (x1_1 - 1)) < 0 then 0 else (w64 (x1_1 - 1)))) + 4))).toNat o0_v.Raft.Log)) _ h3_4)) (.c (Asks.of (C := Meets Try.prog) (raft_member_sends.meets to (TMsg.mk 3 0 0 0 0 (if (o0_v.Raft.Log.length : Int) < (if (w64 (x1_1 - 1)) < 0 then 0 else (w64 (x1_1 - 1))) then (o0_v.Raft.Log.length : Int) else (if (w64 (x1_1 - 1)) < 0 then 0 else (w64 (x1_1 - 1)))) r3_1 o0_v.Raft.Commit false r3_3 (TTxn.mk 0 0 [] []) 0 0 0 0 false ByteArray.empty ByteArray.empty [] [] 0) o0_v _ h3_6)) (.c rT .n))))
def raft_member_more_2.O : Nat → Nat := fun t => bif ([4, 5, 57] : List Nat).any (Nat.beq t) then 1 else 0
def raft_member_more_2 (fu : Nat) (to : Int) (o0_v : TMember) : Option TMember :=
 ix o0_v.Raft.Next (w64 (to - 1)) fun x1_1 =>
 gd (decide ((0 : Int) ≤ (if (o0_v.Raft.Log.length : Int) < (if (w64 (x1_1 - 1)) < 0 then 0 else (w64 (x1_1 - 1))) then (o0_v.Raft.Log.length : Int) else (if (w64 (x1_1 - 1)) < 0 then 0 else (w64 (x1_1 - 1)))) ∧ (if (o0_v.Raft.Log.length : Int) < (if (w64 (x1_1 - 1)) < 0 then 0 else (w64 (x1_1 - 1))) then (o0_v.Raft.Log.length : Int) else (if (w64 (x1_1 - 1)) < 0 then 0 else (w64 (x1_1 - 1)))) ≤ (if (o0_v.Raft.Log.length : Int) < (w64 ((if (o0_v.Raft.Log.length : Int) < (if (w64 (x1_1 - 1)) < 0 then 0 else (w64 (x1_1 - 1))) then (o0_v.Raft.Log.length : Int) else (if (w64 (x1_1 - 1)) < 0 then 0 else (w64 (x1_1 - 1)))) + 4)) then (o0_v.Raft.Log.length : Int) else (w64 ((if (o0_v.Raft.Log.length : Int) < (if (w64 (x1_1 - 1)) < 0 then 0 else (w64 (x1_1 - 1))) then (o0_v.Raft.Log.length : Int) else (if (w64 (x1_1 - 1)) < 0 then 0 else (w64 (x1_1 - 1)))) + 4))) ∧ (if (o0_v.Raft.Log.length : Int) < (w64 ((if (o0_v.Raft.Log.length : Int) < (if (w64 (x1_1 - 1)) < 0 then 0 else (w64 (x1_1 - 1))) then (o0_v.Raft.Log.length : Int) else (if (w64 (x1_1 - 1)) < 0 then 0 else (w64 (x1_1 - 1)))) + 4)) then (o0_v.Raft.Log.length : Int) else (w64 ((if (o0_v.Raft.Log.length : Int) < (if (w64 (x1_1 - 1)) < 0 then 0 else (w64 (x1_1 - 1))) then (o0_v.Raft.Log.length : Int) else (if (w64 (x1_1 - 1)) < 0 then 0 else (w64 (x1_1 - 1)))) + 4))) ≤ (o0_v.Raft.Log.length : Int))) <|
 bd (ulog_Term o0_v.Raft.Log (if (o0_v.Raft.Log.length : Int) < (if (w64 (x1_1 - 1)) < 0 then 0 else (w64 (x1_1 - 1))) then (o0_v.Raft.Log.length : Int) else (if (w64 (x1_1 - 1)) < 0 then 0 else (w64 (x1_1 - 1))))) fun r3_1 =>
 bd (raft_entries fu (List.drop (if (o0_v.Raft.Log.length : Int) < (if (w64 (x1_1 - 1)) < 0 then 0 else (w64 (x1_1 - 1))) then (o0_v.Raft.Log.length : Int) else (if (w64 (x1_1 - 1)) < 0 then 0 else (w64 (x1_1 - 1)))).toNat (List.take (if (o0_v.Raft.Log.length : Int) < (w64 ((if (o0_v.Raft.Log.length : Int) < (if (w64 (x1_1 - 1)) < 0 then 0 else (w64 (x1_1 - 1))) then (o0_v.Raft.Log.length : Int) else (if (w64 (x1_1 - 1)) < 0 then 0 else (w64 (x1_1 - 1)))) + 4)) then (o0_v.Raft.Log.length : Int) else (w64 ((if (o0_v.Raft.Log.length : Int) < (if (w64 (x1_1 - 1)) < 0 then 0 else (w64 (x1_1 - 1))) then (o0_v.Raft.Log.length : Int) else (if (w64 (x1_1 - 1)) < 0 then 0 else (w64 (x1_1 - 1)))) + 4))).toNat o0_v.Raft.Log))) fun r3_3 =>
 bd (raft_member_sends to (TMsg.mk 3 0 0 0 0 (if (o0_v.Raft.Log.length : Int) < (if (w64 (x1_1 - 1)) < 0 then 0 else (w64 (x1_1 - 1))) then (o0_v.Raft.Log.length : Int) else (if (w64 (x1_1 - 1)) < 0 then 0 else (w64 (x1_1 - 1)))) r3_1 o0_v.Raft.Commit false r3_3 (TTxn.mk 0 0 [] []) 0 0 0 0 false ByteArray.empty ByteArray.empty [] [] 0) o0_v) fun r3_5 =>
 some r3_5
theorem raft_member_more_2.meets (fu : Nat) (to : Int) (o0_v : TMember) (z0 : TMember) (h : raft_member_more_2 fu to o0_v = some z0) : Meets Try.prog ⟨75, [.ptr 1000 0, iv to], [(TMember.ob_00000000011101 o0_v)]⟩ ⟨.tup [], [(TMember.ob_00000000011101 z0)]⟩ := by
 refine kMt hmix raft_member_more_2.O Try.f75 bd75 7 ?_
 unfold raft_member_more_2 at h
 obtain ⟨x1_1, a1_2, e1_3, h⟩ := ix_inv h
 refine kRs 7 [Tm 4 (iv (if (o0_v.Raft.Log.length : Int) < (if (w64 (x1_1 - 1)) < 0 then 0 else (w64 (x1_1 - 1))) then (o0_v.Raft.Log.length : Int) else (if (w64 (x1_1 - 1)) < 0 then 0 else (w64 (x1_1 - 1)))))] [.c (e_i64 x1_1), .s (.t 22) [iv (o0_v.Raft.Log.length : Int)]] (.c (c_ix (e := e_i64) a1_2 e1_3) (.c (c_el (e := e_i64) e1_3) (.c (c_len (e := TEntry.en) (l := o0_v.Raft.Log)) (.c rT .n)))) ?_
 obtain ⟨c2_1, h⟩ := gd_inv h
 refine kRs 15 [Tm 5 (sS 6 TEntry.en (List.drop (if (o0_v.Raft.Log.length : Int) < (if (w64 (x1_1 - 1)) < 0 then 0 else (w64 (x1_1 - 1))) then (o0_v.Raft.Log.length : Int) else (if (w64 (x1_1 - 1)) < 0 then 0 else (w64 (x1_1 - 1)))).toNat (List.take (if (o0_v.Raft.Log.length : Int) < (w64 ((if (o0_v.Raft.Log.length : Int) < (if (w64 (x1_1 - 1)) < 0 then 0 else (w64 (x1_1 - 1))) then (o0_v.Raft.Log.length : Int) else (if (w64 (x1_1 - 1)) < 0 then 0 else (w64 (x1_1 - 1)))) + 4)) then (o0_v.Raft.Log.length : Int) else (w64 ((if (o0_v.Raft.Log.length : Int) < (if (w64 (x1_1 - 1)) < 0 then 0 else (w64 (x1_1 - 1))) then (o0_v.Raft.Log.length : Int) else (if (w64 (x1_1 - 1)) < 0 then 0 else (w64 (x1_1 - 1)))) + 4))).toNat o0_v.Raft.Log)))] [.s (.t 37) [iv (o0_v.Raft.Log.length : Int)], .s (.t 39) [sS 6 TEntry.en (List.drop (if (o0_v.Raft.Log.length : Int) < (if (w64 (x1_1 - 1)) < 0 then 0 else (w64 (x1_1 - 1))) then (o0_v.Raft.Log.length : Int) else (if (w64 (x1_1 - 1)) < 0 then 0 else (w64 (x1_1 - 1)))).toNat (List.take (if (o0_v.Raft.Log.length : Int) < (w64 ((if (o0_v.Raft.Log.length : Int) < (if (w64 (x1_1 - 1)) < 0 then 0 else (w64 (x1_1 - 1))) then (o0_v.Raft.Log.length : Int) else (if (w64 (x1_1 - 1)) < 0 then 0 else (w64 (x1_1 - 1)))) + 4)) then (o0_v.Raft.Log.length : Int) else (w64 ((if (o0_v.Raft.Log.length : Int) < (if (w64 (x1_1 - 1)) < 0 then 0 else (w64 (x1_1 - 1))) then (o0_v.Raft.Log.length : Int) else (if (w64 (x1_1 - 1)) < 0 then 0 else (w64 (x1_1 - 1)))) + 4))).toNat o0_v.Raft.Log))]] (.c (c_len (e := TEntry.en) (l := o0_v.Raft.Log)) (.c (c_cb (e := TEntry.en) c2_1) (.c (congrArg (fun d : DV => [AV.data d]) (c_cut (own := false) (nl := none) (s := 6) (e := TEntry.en) (l := o0_v.Raft.Log) (lo := (if (o0_v.Raft.Log.length : Int) < (if (w64 (x1_1 - 1)) < 0 then 0 else (w64 (x1_1 - 1))) then (o0_v.Raft.Log.length : Int) else (if (w64 (x1_1 - 1)) < 0 then 0 else (w64 (x1_1 - 1)))).toNat) (h := (if (o0_v.Raft.Log.length : Int) < (w64 ((if (o0_v.Raft.Log.length : Int) < (if (w64 (x1_1 - 1)) < 0 then 0 else (w64 (x1_1 - 1))) then (o0_v.Raft.Log.length : Int) else (if (w64 (x1_1 - 1)) < 0 then 0 else (w64 (x1_1 - 1)))) + 4)) then (o0_v.Raft.Log.length : Int) else (w64 ((if (o0_v.Raft.Log.length : Int) < (if (w64 (x1_1 - 1)) < 0 then 0 else (w64 (x1_1 - 1))) then (o0_v.Raft.Log.length : Int) else (if (w64 (x1_1 - 1)) < 0 then 0 else (w64 (x1_1 - 1)))) + 4))).toNat))) (.c rT .n)))) ?_
 obtain ⟨r3_1, h3_2, h⟩ := bd_inv h
 obtain ⟨r3_3, h3_4, h⟩ := bd_inv h
 obtain ⟨r3_5, h3_6, h⟩ := bd_inv h
 have h_ := some_inj h
 subst h_
 exact kRf [.a ⟨iv r3_1, []⟩, .a ⟨sO 6 TEntry.en r3_3, []⟩, .a ⟨.tup [], [(TMember.ob_00000000011101 r3_5)]⟩] (.c (Asks.of (C := Meets Try.prog) (ulog_Term.meets o0_v.Raft.Log (if (o0_v.Raft.Log.length : Int) < (if (w64 (x1_1 - 1)) < 0 then 0 else (w64 (x1_1 - 1))) then (o0_v.Raft.Log.length : Int) else (if (w64 (x1_1 - 1)) < 0 then 0 else (w64 (x1_1 - 1)))) _ h3_2)) (.c (Asks.of (C := Meets Try.prog) (raft_entries.meets fu (List.drop (if (o0_v.Raft.Log.length : Int) < (if (w64 (x1_1 - 1)) < 0 then 0 else (w64 (x1_1 - 1))) then (o0_v.Raft.Log.length : Int) else (if (w64 (x1_1 - 1)) < 0 then 0 else (w64 (x1_1 - 1)))).toNat (List.take (if (o0_v.Raft.Log.length : Int) < (w64 ((if (o0_v.Raft.Log.length : Int) < (if (w64 (x1_1 - 1)) < 0 then 0 else (w64 (x1_1 - 1))) then (o0_v.Raft.Log.length : Int) else (if (w64 (x1_1 - 1)) < 0 then 0 else (w64 (x1_1 - 1)))) + 4)) then (o0_v.Raft.Log.length : Int) else (w64 ((if (o0_v.Raft.Log.length : Int) < (if (w64 (x1_1 - 1)) < 0 then 0 else (w64 (x1_1 - 1))) then (o0_v.Raft.Log.length : Int) else (if (w64 (x1_1 - 1)) < 0 then 0 else (w64 (x1_1 - 1)))) + 4))).toNat o0_v.Raft.Log)) _ h3_4)) (.c (Asks.of (C := Meets Try.prog) (raft_member_sends.meets to (TMsg.mk 3 0 0 0 0 (if (o0_v.Raft.Log.length : Int) < (if (w64 (x1_1 - 1)) < 0 then 0 else (w64 (x1_1 - 1))) then (o0_v.Raft.Log.length : Int) else (if (w64 (x1_1 - 1)) < 0 then 0 else (w64 (x1_1 - 1)))) r3_1 o0_v.Raft.Commit false r3_3 (TTxn.mk 0 0 [] []) 0 0 0 0 false ByteArray.empty ByteArray.empty [] [] 0) o0_v _ h3_6)) (.c rT .n))))
def bd74 : Code := (Try.f74.body).getD .skip
def raft_member_all.O : Nat → Nat := fun t => bif ([4] : List Nat).any (Nat.beq t) then 1 else 0
def raft_member_all.lp2 (fu : Nat) : Nat → Int → TMember → Option TMember
  | 0, _, _ => none
  | n_ + 1, l2_0, l2_1 =>
  br (decide (l2_0 ≤ l2_1.Raft.Nodes))
   (br (l2_0 != l2_1.Raft.Me)
    (bd (raft_member_more_2 fu l2_0 l2_1) fun r7_1 =>
    raft_member_all.lp2 fu n_ (w64 (l2_0 + 1)) r7_1)
    (raft_member_all.lp2 fu n_ (w64 (l2_0 + 1)) l2_1))
   (some l2_1)
def raft_member_all.lp2_post (r_ : TMember) : Wy → St → Prop := fun e τ => match r_ with
  | y0 => e = .exit 0 ∧ τ = ofL [Ob 1000 (TMember.ob_00000000011101 y0)]
theorem raft_member_all.lp2_ok (fu : Nat) : ∀ (n_ : Nat) (l2_0 : Int) (l2_1 : TMember) (r_ : TMember), raft_member_all.lp2 fu n_ l2_0 l2_1 = some r_ → WK Try.prog raft_member_all.O (Ck Try.prog) (cB (cR bd74)) [] (ofL [Tm 0 (.ptr 1000 0), Tm 1 (.fn (.func 75) [.ptr 1000 0] []), Tm 4 (iv l2_0), Ob 1000 (TMember.ob_00000000011101 l2_1)]) (raft_member_all.lp2_post r_) := by
 intro n_
 induction n_ with
 | zero => intro l2_0 l2_1 r_ h; exact no_none h
 | succ n_ ih =>
  intro l2_0 l2_1 r_ h
  refine kLp ?_
  refine kSq ?_
  refine kRs 15 [Tm 11 (bv (decide (l2_0 ≤ l2_1.Raft.Nodes)))] [] .n ?_
  rcases br_inv h with ⟨b4_0, h⟩ | ⟨b4_0, h⟩
  ·refine kCt b4_0 ?_
   refine kSk ?_
   refine kCd (cR (cB (cB (cR bd74)))) [.lp (cB (cR bd74))] ?_
   refine kSq ?_
   refine kBk 1 ?_
   refine kRs 30 [Tm 20 (bv (l2_0 != l2_1.Raft.Me))] [] .n ?_
   rcases br_inv h with ⟨b6_0, h⟩ | ⟨b6_0, h⟩
   ·refine kCt b6_0 ?_
    obtain ⟨r7_1, h7_2, h⟩ := bd_inv h
    refine kRc 14 [Ob 1000 (TMember.ob_00000000011101 r7_1)] [.a ⟨.tup [], [(TMember.ob_00000000011101 r7_1)]⟩] (.c (Asks.of (C := Meets Try.prog) (raft_member_more_2.meets fu l2_0 l2_1 _ h7_2)) .n) (cR (cR (cB (cB (cR bd74))))) [.lp (cB (cR bd74))] ?_
    refine kRc 7 [Tm 4 (iv (w64 (l2_0 + 1)))] [] .n (cB (cR bd74)) [] ?_
    exact kWk (ih (w64 (l2_0 + 1)) r7_1 _ h)
   ·refine kCe b6_0 ?_
    refine kSk ?_
    refine kCd (cR (cR (cB (cB (cR bd74))))) [.lp (cB (cR bd74))] ?_
    refine kRc 22 [Tm 4 (iv (w64 (l2_0 + 1)))] [] .n (cB (cR bd74)) [] ?_
    exact kWk (ih (w64 (l2_0 + 1)) l2_1 _ h)
  ·refine kCe b4_0 ?_
   cases some_inj h
   refine kWo ?_
   refine kXt 0 ?_
   exact kOut
def raft_member_all (fu : Nat) (o0_v : TMember) : Option TMember :=
 bd (raft_member_all.lp2 fu fu 1 o0_v) fun y10_0 =>
 some y10_0
theorem raft_member_all.meets (fu : Nat) (o0_v : TMember) (z0 : TMember) (h : raft_member_all fu o0_v = some z0) : Meets Try.prog ⟨74, [.ptr 1000 0, .fn (.func 75) [.ptr 1000 0] []], [(TMember.ob_00000100011101 o0_v)]⟩ ⟨.tup [], [(TMember.ob_00000000011101 z0)]⟩ := by
 refine kMt hmix raft_member_all.O Try.f74 bd74 7 ?_
 unfold raft_member_all at h
 refine kRs 7 [Tm 4 (iv 1)] [] .n ?_
 refine kBk 0 ?_
 obtain ⟨o10, ho10, h⟩ := bd_inv h
 refine kSo 1000 5 7 [Ob 1000 (TMember.ob_00000000011101 o0_v)] ?_
 refine kUs (raft_member_all.lp2_ok fu _ 1 o0_v _ ho10) ?_
 intro e_ τ_ hp_
 obtain ⟨y10_0, rfl⟩ : ∃ y, y = o10 := ⟨_, rfl⟩
 obtain ⟨rfl, rfl⟩ := hp_
 have h_ := some_inj h
 subst h_
 exact kFn
def bd47 : Code := (Try.f47.body).getD .skip
def raft_member_told.O : Nat → Nat := fun t => bif ([] : List Nat).any (Nat.beq t) then 1 else 0
def raft_member_told (fu : Nat) (o0_v : TMember) : Option TMember :=
 bd (raft_member_all fu o0_v) fun r1_1 =>
 some r1_1
theorem raft_member_told.meets (fu : Nat) (o0_v : TMember) (z0 : TMember) (h : raft_member_told fu o0_v = some z0) : Meets Try.prog ⟨47, [.ptr 1000 0], [(TMember.ob_00000100011101 o0_v)]⟩ ⟨.tup [], [(TMember.ob_00000000011101 z0)]⟩ := by
 refine kMt hmix raft_member_told.O Try.f47 bd47 3 ?_
 unfold raft_member_told at h
 obtain ⟨r1_1, h1_2, h⟩ := bd_inv h
 have h_ := some_inj h
 subst h_
 exact kRf [.a ⟨.tup [], [(TMember.ob_00000000011101 r1_1)]⟩] (.c (Asks.of (C := Meets Try.prog) (raft_member_all.meets fu o0_v _ h1_2)) .n)
def bd98 : Code := (Try.f98.body).getD .skip
def ballot_Many.O : Nat → Nat := fun t => bif ([2, 4] : List Nat).any (Nat.beq t) then 1 else 0
def ballot_Many.lp3 (fu : Nat) (l3_1 : List Bool) (l3_2 : Int) : Nat → Int → Int → Option Int
  | 0, _, _ => none
  | n_ + 1, l3_0, l3_3 =>
  br (decide (l3_3 < l3_2))
   (ix l3_1 l3_3 fun x6_1 =>
   br x6_1
    (ballot_Many.lp3 fu l3_1 l3_2 n_ (w64 (l3_0 + 1)) (w64 (l3_3 + 1)))
    (ballot_Many.lp3 fu l3_1 l3_2 n_ l3_0 (w64 (l3_3 + 1))))
   (some l3_0)
def ballot_Many.lp3_post (l3_1 : List Bool) (l3_2 : Int) (r_ : Int) : Wy → St → Prop := fun e τ => match r_ with
  | y0 => e = .exit 0 ∧ τ = ofL [Tm 2 (iv y0)]
theorem ballot_Many.lp3_ok (fu : Nat) (l3_1 : List Bool) (l3_2 : Int) : ∀ (n_ : Nat) (l3_0 : Int) (l3_3 : Int) (r_ : Int), ballot_Many.lp3 fu l3_1 l3_2 n_ l3_0 l3_3 = some r_ → WK Try.prog ballot_Many.O (Ck Try.prog) (cB (cR (cL (cR bd98)))) [] (ofL [Tm 2 (iv l3_0), Tm 5 (sS 1 e_b l3_1), Tm 6 (iv l3_2), Tm 7 (iv l3_3)]) (ballot_Many.lp3_post l3_1 l3_2 r_) := by
 intro n_
 induction n_ with
 | zero => intro l3_0 l3_3 r_ h; exact no_none h
 | succ n_ ih =>
  intro l3_0 l3_3 r_ h
  refine kLp ?_
  refine kRs 15 [Tm 8 (bv (decide (l3_3 < l3_2)))] [] .n ?_
  refine kSq ?_
  rcases br_inv h with ⟨b5_0, h⟩ | ⟨b5_0, h⟩
  ·refine kCt b5_0 ?_
   refine kSk ?_
   refine kCd (cR (cR (cB (cB (cR (cL (cR bd98))))))) [.lp (cB (cR (cL (cR bd98))))] ?_
   refine kSq ?_
   refine kBk 1 ?_
   obtain ⟨x6_1, a6_2, e6_3, h⟩ := ix_inv h
   refine kRs 30 [Tm 4 (bv x6_1)] [.c (e_b x6_1)] (.c (c_ix (e := e_b) a6_2 e6_3) (.c (c_el (e := e_b) e6_3) .n)) ?_
   refine kRs 30 [Tm 11 (bv x6_1)] [] .n ?_
   rcases br_inv h with ⟨b8_0, h⟩ | ⟨b8_0, h⟩
   ·refine kCt b8_0 ?_
    refine kRc 28 [Tm 2 (iv (w64 (l3_0 + 1)))] [] .n (cR (cR (cR (cB (cB (cR (cL (cR bd98)))))))) [.lp (cB (cR (cL (cR bd98))))] ?_
    refine kRc 7 [Tm 7 (iv (w64 (l3_3 + 1)))] [] .n (cB (cR (cL (cR bd98)))) [] ?_
    exact kWk (ih (w64 (l3_0 + 1)) (w64 (l3_3 + 1)) _ h)
   ·refine kCe b8_0 ?_
    refine kSk ?_
    refine kCd (cR (cR (cR (cB (cB (cR (cL (cR bd98)))))))) [.lp (cB (cR (cL (cR bd98))))] ?_
    refine kRc 14 [Tm 7 (iv (w64 (l3_3 + 1)))] [] .n (cB (cR (cL (cR bd98)))) [] ?_
    exact kWk (ih l3_0 (w64 (l3_3 + 1)) _ h)
  ·refine kCe b5_0 ?_
   cases some_inj h
   refine kWo ?_
   refine kXt 0 ?_
   exact kOut
def ballot_Many (fu : Nat) (votes : List Bool) : Option Int :=
 bd (ballot_Many.lp3 fu votes (votes.length : Int) fu 0 0) fun y12_0 =>
 some y12_0
theorem ballot_Many.meets (fu : Nat) (votes : List Bool) (z0 : Int) (h : ballot_Many fu votes = some z0) : Meets Try.prog ⟨98, [sS 1 e_b votes], []⟩ ⟨iv z0, []⟩ := by
 refine kMt hmix ballot_Many.O Try.f98 bd98 1 ?_
 unfold ballot_Many at h
 refine kRs 1 [Tm 2 (iv 0)] [] .n ?_
 refine kSq ?_
 refine kRs 1 [Tm 5 (sS 1 e_b votes), Tm 6 (iv (votes.length : Int)), Tm 7 (iv 0)] [.s (.t 6) [iv (votes.length : Int)]] (.c (c_len (e := e_b) (l := votes)) .n) ?_
 refine kBk 0 ?_
 obtain ⟨o12, ho12, h⟩ := bd_inv h
 refine kUs (ballot_Many.lp3_ok fu votes (votes.length : Int) _ 0 0 _ ho12) ?_
 intro e_ τ_ hp_
 obtain ⟨y12_0, rfl⟩ : ∃ y, y = o12 := ⟨_, rfl⟩
 obtain ⟨rfl, rfl⟩ := hp_
 refine kCd (cR (cR bd98)) [] ?_
 refine kRs 1 [] [] .n ?_
 refine kRt ?_
 have h_ := some_inj h
 subst h_
 exact kFr
def bd39 : Code := (Try.f39.body).getD .skip
def ballot_Majority.O : Nat → Nat := fun t => bif ([2] : List Nat).any (Nat.beq t) then 1 else 0
def ballot_Majority (n_v : Int) : Option Int :=
 some (w64 ((w64 (Int.tdiv n_v 2)) + 1))
theorem ballot_Majority.meets (n_v : Int) (z0 : Int) (h : ballot_Majority n_v = some z0) : Meets Try.prog ⟨39, [iv n_v], []⟩ ⟨iv z0, []⟩ := by
 refine kMt hmix ballot_Majority.O Try.f39 bd39 1 ?_
 unfold ballot_Majority at h
 refine kRs 1 [] [] .n ?_
 refine kRs 0 [Tm 2 (iv (w64 ((w64 (Int.tdiv n_v 2)) + 1)))] [] (.c rT .n) ?_
 refine kRt ?_
 have h_ := some_inj h
 subst h_
 exact kFr
def bd104 : Code := (Try.f104.body).getD .skip
def ballot_heads_Len.O : Nat → Nat := fun t => bif ([2] : List Nat).any (Nat.beq t) then 1 else 0
def ballot_heads_Len (h_v : List Int) : Option Int :=
 some (h_v.length : Int)
theorem ballot_heads_Len.meets (h_v : List Int) (z0 : Int) (h : ballot_heads_Len h_v = some z0) : Meets Try.prog ⟨104, [sS 1 e_i64 h_v], []⟩ ⟨iv z0, []⟩ := by
 refine kMt hmix ballot_heads_Len.O Try.f104 bd104 1 ?_
 unfold ballot_heads_Len at h
 refine kRs 1 [] [] .n ?_
 refine kRs 0 [Tm 2 (iv (h_v.length : Int))] [.s (.t 4) [iv (h_v.length : Int)]] (.c (c_len (e := e_i64) (l := h_v)) .n) ?_
 refine kRt ?_
 have h_ := some_inj h
 subst h_
 exact kFr
def bd124 : Code := (Try.f124.body).getD .skip
def ballot_heads_Less.O : Nat → Nat := fun t => bif ([6] : List Nat).any (Nat.beq t) then 1 else 0
def ballot_heads_Less (h_v : List Int) (i : Int) (k_v : Int) : Option Bool :=
 ix h_v i fun x2_1 =>
 ix h_v k_v fun x2_4 =>
 some (decide (x2_1 > x2_4))
theorem ballot_heads_Less.meets (h_v : List Int) (i : Int) (k_v : Int) (z0 : Bool) (h : ballot_heads_Less h_v i k_v = some z0) : Meets Try.prog ⟨124, [sS 1 e_i64 h_v, iv i, iv k_v], []⟩ ⟨bv z0, []⟩ := by
 refine kMt hmix ballot_heads_Less.O Try.f124 bd124 7 ?_
 unfold ballot_heads_Less at h
 refine kRs 7 [] [] .n ?_
 obtain ⟨x2_1, a2_2, e2_3, h⟩ := ix_inv h
 obtain ⟨x2_4, a2_5, e2_6, h⟩ := ix_inv h
 refine kRs 0 [Tm 6 (bv (decide (x2_1 > x2_4)))] [.c (e_i64 x2_1), .c (e_i64 x2_4)] (.c (c_ix (e := e_i64) a2_2 e2_3) (.c (c_el (e := e_i64) e2_3) (.c (c_ix (e := e_i64) a2_5 e2_6) (.c (c_el (e := e_i64) e2_6) (.c rT .n))))) ?_
 refine kRt ?_
 have h_ := some_inj h
 subst h_
 exact kFr
def bd125 : Code := (Try.f125.body).getD .skip
def ballot_heads_Swap.O : Nat → Nat := fun t => bif ([] : List Nat).any (Nat.beq t) then 1 else 0
def ballot_heads_Swap (i : Int) (k_v : Int) (o0_v : List Int) : Option (List Int) :=
 ix o0_v k_v fun x1_1 =>
 ix o0_v i fun x1_4 =>
 ix o0_v i fun x1_7 =>
 ix (o0_v.set i.toNat x1_1) k_v fun x1_10 =>
 some ((o0_v.set i.toNat x1_1).set k_v.toNat x1_4)
theorem ballot_heads_Swap.meets (i : Int) (k_v : Int) (o0_v : List Int) (z0 : List Int) (h : ballot_heads_Swap i k_v o0_v = some z0) : Meets Try.prog ⟨125, [.ref (.o 1000) 0 0 none, iv i, iv k_v], [[sO 1 e_i64 o0_v]]⟩ ⟨.tup [], [[sO 1 e_i64 z0]]⟩ := by
 refine kMt hmix ballot_heads_Swap.O Try.f125 bd125 15 ?_
 unfold ballot_heads_Swap at h
 obtain ⟨x1_1, a1_2, e1_3, h⟩ := ix_inv h
 obtain ⟨x1_4, a1_5, e1_6, h⟩ := ix_inv h
 obtain ⟨x1_7, a1_8, e1_9, h⟩ := ix_inv h
 obtain ⟨x1_10, a1_11, e1_12, h⟩ := ix_inv h
 have h_ := some_inj h
 subst h_
 exact kRf [.c (e_i64 x1_1), .c (e_i64 x1_4), .c (e_i64 x1_7), .s (.o 1000) [sO 1 e_i64 (o0_v.set i.toNat x1_1)], .c (e_i64 x1_10), .s (.o 1000) [sO 1 e_i64 ((o0_v.set i.toNat x1_1).set k_v.toNat x1_4)]] (.c (c_ix (e := e_i64) a1_2 e1_3) (.c (c_el (e := e_i64) e1_3) (.c (c_ix (e := e_i64) a1_5 e1_6) (.c (c_el (e := e_i64) e1_6) (.c (c_ix (e := e_i64) a1_8 e1_9) (.c (c_el (e := e_i64) e1_9) (.c (congrArg (fun d : DV => [AV.data d]) (c_set (e := e_i64) (s := 1) (nl := none) (l := o0_v) (i := i.toNat) (x := x1_1))) (.c (c_ix (e := e_i64) a1_11 e1_12) (.c (c_el (e := e_i64) e1_12) (.c (congrArg (fun d : DV => [AV.data d]) (c_set (e := e_i64) (s := 1) (nl := none) (l := (o0_v.set i.toNat x1_1)) (i := k_v.toNat) (x := x1_4))) (.c rT .n)))))))))))
def bd107 : Code := (Try.f107.body).getD .skip
def heap_down.O : Nat → Nat := fun t => bif ([6, 7, 8, 9, 10] : List Nat).any (Nat.beq t) then 1 else bif ([43] : List Nat).any (Nat.beq t) then 3 else 0
def heap_down.lp3 (fu : Nat) (l3_0 : Int) (l3_1 : Int) : Nat → Int → (List Int) → Option (Int × List Int)
  | 0, _, _ => none
  | n_ + 1, l3_2, l3_3 =>
  br (decide ((w64 ((w64 (2 * l3_2)) + 1)) ≥ l3_1))
   (some (l3_2, l3_3))
   (br (decide ((w64 ((w64 (2 * l3_2)) + 1)) < 0))
    (some (l3_2, l3_3))
    (jn (fun (j12_3 : Int) =>
     bd (ballot_heads_Less l3_3 j12_3 l3_2) fun r13_1 =>
     br (!r13_1)
      (some (l3_2, l3_3))
      (bd (ballot_heads_Swap l3_2 j12_3 l3_3) fun r15_1 =>
      heap_down.lp3 fu l3_0 l3_1 n_ j12_3 r15_1)) fun k12 =>
    br (decide ((w64 ((w64 ((w64 (2 * l3_2)) + 1)) + 1)) < l3_1))
     (bd (ballot_heads_Less l3_3 (w64 ((w64 ((w64 (2 * l3_2)) + 1)) + 1)) (w64 ((w64 (2 * l3_2)) + 1))) fun r9_2 =>
     br r9_2
      (k12 (w64 ((w64 ((w64 (2 * l3_2)) + 1)) + 1)))
      (k12 (w64 ((w64 (2 * l3_2)) + 1))))
     (k12 (w64 ((w64 (2 * l3_2)) + 1)))))
def heap_down.lp3_post (l3_0 : Int) (l3_1 : Int) (r_ : (Int × List Int)) : Wy → St → Prop := fun e τ => match r_ with
  | (y0, y1) => e = .exit 0 ∧ τ = ofL [Tm 1 (iv l3_0), Tm 7 (iv y0), Ob 1000 [sO 1 e_i64 y1]]
theorem heap_down.lp3_ok (fu : Nat) (l3_0 : Int) (l3_1 : Int) : ∀ (n_ : Nat) (l3_2 : Int) (l3_3 : List Int) (r_ : (Int × List Int)), heap_down.lp3 fu l3_0 l3_1 n_ l3_2 l3_3 = some r_ → WK Try.prog heap_down.O (Ck Try.prog) (cB (cL (cR (cR bd107)))) [] (ofL [Tm 0 (.ifc 122 (.ptr 1000 0)), Tm 1 (iv l3_0), Tm 2 (iv l3_1), Tm 7 (iv l3_2), Ob 1000 [sO 1 e_i64 l3_3]]) (heap_down.lp3_post l3_0 l3_1 r_) := by
 intro n_
 induction n_ with
 | zero => intro l3_2 l3_3 r_ h; exact no_none h
 | succ n_ ih =>
  intro l3_2 l3_3 r_ h
  refine kLp ?_
  refine kBk 1 ?_
  refine kRs 31 [Tm 8 (iv (w64 ((w64 (2 * l3_2)) + 1)))] [] .n ?_
  refine kSq ?_
  rcases br_inv h with ⟨b5_1, h⟩ | ⟨b5_1, h⟩
  ·refine kRs 63 [Tm 21 (bv true)] [.b true, .b true, .b true] (.r 3 b5_1 .n) ?_
   refine kCt rT ?_
   cases some_inj h
   refine kWo ?_
   refine kXt 0 ?_
   exact kOut
  ·refine kRs 63 [Tm 21 (bv (decide ((w64 ((w64 (2 * l3_2)) + 1)) < 0)))] [.b false, .b false, .b false] (.r 3 b5_1 .n) ?_
   rcases br_inv h with ⟨b6_0, h⟩ | ⟨b6_0, h⟩
   ·refine kCt b6_0 ?_
    cases some_inj h
    refine kWo ?_
    refine kXt 0 ?_
    exact kOut
   ·refine kCe b6_0 ?_
    refine kSk ?_
    refine kCd (cR (cR (cB (cB (cB (cL (cR (cR bd107)))))))) [.blk 1, .lp (cB (cL (cR (cR bd107))))] ?_
    refine kRs 126 [Tm 9 (iv (w64 ((w64 (2 * l3_2)) + 1)))] [] .n ?_
    obtain ⟨k12, hk12, h⟩ := jn_inv h
    have Jk12 : ∀ (j12_3 : Int), k12 j12_3 = some r_ → WK Try.prog heap_down.O (Ck Try.prog) (cR (cR (cR (cR (cB (cB (cB (cL (cR (cR bd107)))))))))) [.blk 1, .lp (cB (cL (cR (cR bd107))))] (ofL [Tm 0 (.ifc 122 (.ptr 1000 0)), Tm 1 (iv l3_0), Tm 2 (iv l3_1), Tm 7 (iv l3_2), Tm 9 (iv j12_3), Ob 1000 [sO 1 e_i64 l3_3]]) (heap_down.lp3_post l3_0 l3_1 r_) := by
     intro j12_3 h
     rw [hk12] at h
     refine kSq ?_
     obtain ⟨r13_1, h13_2, h⟩ := bd_inv h
     refine kRs 63 [Tm 39 (bv (!r13_1))] [.a ⟨bv r13_1, []⟩] (.c (Asks.of (C := Meets Try.prog) (ballot_heads_Less.meets l3_3 j12_3 l3_2 _ h13_2)) .n) ?_
     rcases br_inv h with ⟨b14_0, h⟩ | ⟨b14_0, h⟩
     ·refine kCt b14_0 ?_
      cases some_inj h
      refine kWo ?_
      refine kXt 0 ?_
      exact kOut
     ·refine kCe b14_0 ?_
      refine kSk ?_
      refine kCd (cR (cR (cR (cR (cR (cB (cB (cB (cL (cR (cR bd107))))))))))) [.blk 1, .lp (cB (cL (cR (cR bd107))))] ?_
      obtain ⟨r15_1, h15_2, h⟩ := bd_inv h
      refine kRs 46 [Ob 1000 [sO 1 e_i64 r15_1]] [.a ⟨.tup [], [[sO 1 e_i64 r15_1]]⟩] (.c (Asks.of (C := Meets Try.prog) (ballot_heads_Swap.meets l3_2 j12_3 l3_3 _ h15_2)) .n) ?_
      refine kRc 15 [Tm 7 (iv j12_3)] [] .n (cB (cL (cR (cR bd107)))) [] ?_
      exact kWk (ih j12_3 r15_1 _ h)
    clear hk12
    refine kSq ?_
    refine kRs 127 [Tm 10 (iv (w64 ((w64 ((w64 (2 * l3_2)) + 1)) + 1)))] [] .n ?_
    rcases br_inv h with ⟨b9_1, h⟩ | ⟨b9_1, h⟩
    ·obtain ⟨r9_2, h9_3, h⟩ := bd_inv h
     refine kRs 251 [Tm 33 (bv r9_2)] (rp 4 (.b true) [.a ⟨bv r9_2, []⟩, .b true]) (.r 4 b9_1 (.c (Asks.of (C := Meets Try.prog) (ballot_heads_Less.meets l3_3 (w64 ((w64 ((w64 (2 * l3_2)) + 1)) + 1)) (w64 ((w64 (2 * l3_2)) + 1)) _ h9_3)) (.c b9_1 .n))) ?_
     rcases br_inv h with ⟨b10_0, h⟩ | ⟨b10_0, h⟩
     ·refine kCt b10_0 ?_
      refine kRc 248 [Tm 9 (iv (w64 ((w64 ((w64 (2 * l3_2)) + 1)) + 1)))] [] .n (cR (cR (cR (cR (cB (cB (cB (cL (cR (cR bd107)))))))))) [.blk 1, .lp (cB (cL (cR (cR bd107))))] ?_
      exact kWk (Jk12 (w64 ((w64 ((w64 (2 * l3_2)) + 1)) + 1)) h)
     ·refine kCe b10_0 ?_
      refine kSk ?_
      refine kCd (cR (cR (cR (cR (cB (cB (cB (cL (cR (cR bd107)))))))))) [.blk 1, .lp (cB (cL (cR (cR bd107))))] ?_
      exact kWk (Jk12 (w64 ((w64 (2 * l3_2)) + 1)) h)
    ·refine kRs 251 [Tm 33 (bv false)] (rp 5 (.b false) []) (.r 5 b9_1 .n) ?_
     refine kCe rF ?_
     refine kSk ?_
     refine kCd (cR (cR (cR (cR (cB (cB (cB (cL (cR (cR bd107)))))))))) [.blk 1, .lp (cB (cL (cR (cR bd107))))] ?_
     exact kWk (Jk12 (w64 ((w64 (2 * l3_2)) + 1)) h)
def heap_down (fu : Nat) (i0 : Int) (n_v : Int) (o0_v : List Int) : Option (Bool × List Int) :=
 bd (heap_down.lp3 fu i0 n_v fu i0 o0_v) fun (y17_0, y17_1) =>
 some ((decide (y17_0 > i0)), y17_1)
theorem heap_down.meets (fu : Nat) (i0 : Int) (n_v : Int) (o0_v : List Int) (z0 : Bool) (z1 : List Int) (h : heap_down fu i0 n_v o0_v = some (z0, z1)) : Meets Try.prog ⟨107, [.ifc 122 (.ptr 1000 0), iv i0, iv n_v], [[sO 1 e_i64 o0_v]]⟩ ⟨bv z0, [[sO 1 e_i64 z1]]⟩ := by
 refine kMt hmix heap_down.O Try.f107 bd107 15 ?_
 unfold heap_down at h
 refine kRs 15 [] [] .n ?_
 refine kRs 15 [Tm 7 (iv i0)] [] .n ?_
 refine kSq ?_
 refine kBk 0 ?_
 obtain ⟨o17, ho17, h⟩ := bd_inv h
 refine kUs (heap_down.lp3_ok fu i0 n_v _ i0 o0_v _ ho17) ?_
 intro e_ τ_ hp_
 obtain ⟨y17_0, y17_1⟩ := o17
 obtain ⟨rfl, rfl⟩ := hp_
 refine kCd (cR (cR (cR bd107))) [] ?_
 refine kRs 4 [Tm 6 (bv (decide (y17_0 > i0)))] [] .n ?_
 refine kRt ?_
 have h_0 := some_inj h
 obtain ⟨g_1, h_1⟩ := Prod.mk.inj h_0
 subst g_1
 subst h_1
 exact kFr
def bd103 : Code := (Try.f103.body).getD .skip
def heap_Init.O : Nat → Nat := fun t => bif ([2, 3] : List Nat).any (Nat.beq t) then 1 else 0
def heap_Init.lp3 (fu : Nat) (l3_0 : Int) : Nat → Int → (List Int) → Option (List Int)
  | 0, _, _ => none
  | n_ + 1, l3_1, l3_2 =>
  br (decide (l3_1 ≥ 0))
   (bd (heap_down fu l3_1 l3_0 l3_2) fun (r6_1, r6_2) =>
   heap_Init.lp3 fu l3_0 n_ (w64 (l3_1 - 1)) r6_2)
   (some l3_2)
def heap_Init.lp3_post (l3_0 : Int) (r_ : (List Int)) : Wy → St → Prop := fun e τ => match r_ with
  | y0 => e = .exit 0 ∧ τ = ofL [Ob 1000 [sO 1 e_i64 y0]]
theorem heap_Init.lp3_ok (fu : Nat) (l3_0 : Int) : ∀ (n_ : Nat) (l3_1 : Int) (l3_2 : List Int) (r_ : (List Int)), heap_Init.lp3 fu l3_0 n_ l3_1 l3_2 = some r_ → WK Try.prog heap_Init.O (Ck Try.prog) (cB (cR (cR bd103))) [] (ofL [Tm 0 (.ifc 122 (.ptr 1000 0)), Tm 2 (iv l3_0), Tm 3 (iv l3_1), Ob 1000 [sO 1 e_i64 l3_2]]) (heap_Init.lp3_post l3_0 r_) := by
 intro n_
 induction n_ with
 | zero => intro l3_1 l3_2 r_ h; exact no_none h
 | succ n_ ih =>
  intro l3_1 l3_2 r_ h
  refine kLp ?_
  refine kSq ?_
  refine kRs 15 [Tm 10 (bv (decide (l3_1 ≥ 0)))] [] .n ?_
  rcases br_inv h with ⟨b5_0, h⟩ | ⟨b5_0, h⟩
  ·refine kCt b5_0 ?_
   refine kSk ?_
   refine kCd (cR (cB (cB (cR (cR bd103))))) [.lp (cB (cR (cR bd103)))] ?_
   refine kSq ?_
   refine kBk 1 ?_
   obtain ⟨⟨r6_1, r6_2⟩, h6_3, h⟩ := bd_inv h
   refine kRc 14 [Ob 1000 [sO 1 e_i64 r6_2]] [.a ⟨bv r6_1, [[sO 1 e_i64 r6_2]]⟩] (.c (Asks.of (C := Meets Try.prog) (heap_down.meets fu l3_1 l3_0 l3_2 _ _ h6_3)) .n) (cR (cR (cB (cB (cR (cR bd103)))))) [.lp (cB (cR (cR bd103)))] ?_
   refine kRc 7 [Tm 3 (iv (w64 (l3_1 - 1)))] [] .n (cB (cR (cR bd103))) [] ?_
   exact kWk (ih (w64 (l3_1 - 1)) r6_2 _ h)
  ·refine kCe b5_0 ?_
   cases some_inj h
   refine kWo ?_
   refine kXt 0 ?_
   exact kOut
def heap_Init (fu : Nat) (o0_v : List Int) : Option (List Int) :=
 bd (ballot_heads_Len o0_v) fun r1_1 =>
 bd (heap_Init.lp3 fu r1_1 fu (w64 ((w64 (Int.tdiv r1_1 2)) - 1)) o0_v) fun y8_0 =>
 some y8_0
theorem heap_Init.meets (fu : Nat) (o0_v : List Int) (z0 : List Int) (h : heap_Init fu o0_v = some z0) : Meets Try.prog ⟨103, [.ifc 122 (.ptr 1000 0)], [[sO 1 e_i64 o0_v]]⟩ ⟨.tup [], [[sO 1 e_i64 z0]]⟩ := by
 refine kMt hmix heap_Init.O Try.f103 bd103 3 ?_
 unfold heap_Init at h
 obtain ⟨r1_1, h1_2, h⟩ := bd_inv h
 refine kRs 3 [Tm 2 (iv r1_1)] [.a ⟨iv r1_1, []⟩] (.c (Asks.of (C := Meets Try.prog) (ballot_heads_Len.meets o0_v _ h1_2)) .n) ?_
 refine kRs 7 [Tm 3 (iv (w64 ((w64 (Int.tdiv r1_1 2)) - 1)))] [] (.c rT .n) ?_
 refine kBk 0 ?_
 obtain ⟨o8, ho8, h⟩ := bd_inv h
 refine kUs (heap_Init.lp3_ok fu r1_1 _ (w64 ((w64 (Int.tdiv r1_1 2)) - 1)) o0_v _ ho8) ?_
 intro e_ τ_ hp_
 obtain ⟨y8_0, rfl⟩ : ∃ y, y = o8 := ⟨_, rfl⟩
 obtain ⟨rfl, rfl⟩ := hp_
 have h_ := some_inj h
 subst h_
 exact kFn
def bd126 : Code := (Try.f126.body).getD .skip
def ballot_heads_Pop.O : Nat → Nat := fun t => bif ([2, 3, 4, 19] : List Nat).any (Nat.beq t) then 1 else 0
def ballot_heads_Pop (o0_v : List Int) : Option (Int × List Int) :=
 ix o0_v (w64 ((o0_v.length : Int) - 1)) fun x3_1 =>
 gd (decide ((0 : Int) ≤ (w64 ((o0_v.length : Int) - 1)) ∧ (w64 ((o0_v.length : Int) - 1)) ≤ (o0_v.length : Int))) <|
 some (x3_1, (List.take (w64 ((o0_v.length : Int) - 1)).toNat o0_v))
theorem ballot_heads_Pop.meets (o0_v : List Int) (z0 : Int) (z1 : List Int) (h : ballot_heads_Pop o0_v = some (z0, z1)) : Meets Try.prog ⟨126, [.ptr 1000 0], [[sO 1 e_i64 o0_v]]⟩ ⟨.ifc 3 (iv z0), [[sO 1 e_i64 z1]]⟩ := by
 refine kMt hmix ballot_heads_Pop.O Try.f126 bd126 3 ?_
 unfold ballot_heads_Pop at h
 refine kRs 3 [] [] .n ?_
 refine kRs 1 [Tm 3 (sO 1 e_i64 o0_v), Ob 1000 [.dead]] [] .n ?_
 obtain ⟨x3_1, a3_2, e3_3, h⟩ := ix_inv h
 refine kRs 7 [Tm 4 (iv x3_1)] [.s (.t 10) [iv (o0_v.length : Int)], .c (e_i64 x3_1)] (.c (c_len (e := e_i64) (l := o0_v)) (.c (c_ix (e := e_i64) a3_2 e3_3) (.c (c_el (e := e_i64) e3_3) .n))) ?_
 obtain ⟨c4_1, h⟩ := gd_inv h
 refine kRs 1 [Ob 1000 [sO 1 e_i64 (List.take (w64 ((o0_v.length : Int) - 1)).toNat o0_v)]] [.s (.t 17) [iv (o0_v.length : Int)], .s (.t 19) [sO 1 e_i64 (List.take (w64 ((o0_v.length : Int) - 1)).toNat o0_v)]] (.c (c_len (e := e_i64) (l := o0_v)) (.c (c_cbH (e := e_i64) c4_1) (.c (congrArg (fun d : DV => [AV.data d]) (c_cutH (own := true) (nl := none) (s := 1) (e := e_i64) (l := o0_v) (h := (w64 ((o0_v.length : Int) - 1)).toNat))) .n))) ?_
 refine kRs 1 [Tm 2 (.ifc 3 (iv x3_1))] [] .n ?_
 refine kRt ?_
 have h_0 := some_inj h
 obtain ⟨g_1, h_1⟩ := Prod.mk.inj h_0
 subst g_1
 subst h_1
 exact kFr
def bd105 : Code := (Try.f105.body).getD .skip
def heap_Pop.O : Nat → Nat := fun t => bif ([2, 3] : List Nat).any (Nat.beq t) then 1 else bif ([9] : List Nat).any (Nat.beq t) then 3 else 0
def heap_Pop (fu : Nat) (o0_v : List Int) : Option (Int × List Int) :=
 bd (ballot_heads_Len o0_v) fun r2_1 =>
 bd (ballot_heads_Swap 0 (w64 (r2_1 - 1)) o0_v) fun r3_1 =>
 bd (heap_down fu 0 (w64 (r2_1 - 1)) r3_1) fun (r4_1, r4_2) =>
 bd (ballot_heads_Pop r4_2) fun (r5_1, r5_2) =>
 some (r5_1, r5_2)
theorem heap_Pop.meets (fu : Nat) (o0_v : List Int) (z0 : Int) (z1 : List Int) (h : heap_Pop fu o0_v = some (z0, z1)) : Meets Try.prog ⟨105, [.ifc 122 (.ptr 1000 0)], [[sO 1 e_i64 o0_v]]⟩ ⟨.ifc 3 (iv z0), [[sO 1 e_i64 z1]]⟩ := by
 refine kMt hmix heap_Pop.O Try.f105 bd105 3 ?_
 unfold heap_Pop at h
 refine kRs 3 [] [] .n ?_
 obtain ⟨r2_1, h2_2, h⟩ := bd_inv h
 refine kRs 3 [Tm 3 (iv (w64 (r2_1 - 1)))] [.a ⟨iv r2_1, []⟩] (.c (Asks.of (C := Meets Try.prog) (ballot_heads_Len.meets o0_v _ h2_2)) .n) ?_
 obtain ⟨r3_1, h3_2, h⟩ := bd_inv h
 refine kRs 3 [Ob 1000 [sO 1 e_i64 r3_1]] [.a ⟨.tup [], [[sO 1 e_i64 r3_1]]⟩] (.c (Asks.of (C := Meets Try.prog) (ballot_heads_Swap.meets 0 (w64 (r2_1 - 1)) o0_v _ h3_2)) .n) ?_
 obtain ⟨⟨r4_1, r4_2⟩, h4_3, h⟩ := bd_inv h
 refine kRs 4 [Ob 1000 [sO 1 e_i64 r4_2]] [.a ⟨bv r4_1, [[sO 1 e_i64 r4_2]]⟩] (.c (Asks.of (C := Meets Try.prog) (heap_down.meets fu 0 (w64 (r2_1 - 1)) r3_1 _ _ h4_3)) .n) ?_
 obtain ⟨⟨r5_1, r5_2⟩, h5_3, h⟩ := bd_inv h
 refine kRs 0 [Tm 2 (.ifc 3 (iv r5_1)), Ob 1000 [sO 1 e_i64 r5_2]] [.a ⟨.ifc 3 (iv r5_1), [[sO 1 e_i64 r5_2]]⟩] (.c (Asks.of (C := Meets Try.prog) (ballot_heads_Pop.meets r4_2 _ _ h5_3)) .n) ?_
 refine kRt ?_
 have h_0 := some_inj h
 obtain ⟨g_1, h_1⟩ := Prod.mk.inj h_0
 subst g_1
 subst h_1
 exact kFr
def bd97 : Code := (Try.f97.body).getD .skip
def ballot_Most.O : Nat → Nat := fun t => bif ([2, 3, 4, 6] : List Nat).any (Nat.beq t) then 1 else 0
def ballot_Most.lp5 (fu : Nat) (l5_0 : List Int) : Nat → Int → Int → (List Int) → Option Int
  | 0, _, _, _ => none
  | n_ + 1, l5_1, l5_2, l5_3 =>
  bd (ballot_Majority (l5_0.length : Int)) fun r6_1 =>
  br (decide (l5_2 < r6_1))
   (bd (ballot_heads_Len l5_3) fun r6_4 =>
   br (decide (r6_4 > 0))
    (bd (heap_Pop fu l5_3) fun (r8_1, r8_2) =>
    ballot_Most.lp5 fu l5_0 n_ (if r8_1 < 0 then 0 else r8_1) (w64 (l5_2 + 1)) r8_2)
    (some l5_1))
   (some l5_1)
def ballot_Most.lp5_post (l5_0 : List Int) (r_ : Int) : Wy → St → Prop := fun e τ => match r_ with
  | y0 => e = .exit 0 ∧ τ = ofL [Tm 2 (iv y0)]
theorem ballot_Most.lp5_ok (fu : Nat) (l5_0 : List Int) : ∀ (n_ : Nat) (l5_1 : Int) (l5_2 : Int) (l5_3 : List Int) (r_ : Int), ballot_Most.lp5 fu l5_0 n_ l5_1 l5_2 l5_3 = some r_ → WK Try.prog ballot_Most.O (Ck Try.prog) (cB (cR (cL (cR (cR (cR bd97)))))) [] (ofL [Tm 0 (sS 1 e_i64 l5_0), Tm 2 (iv l5_1), Tm 3 (.ptr 3 0), Tm 4 (iv l5_2), Ob 3 [sO 1 e_i64 l5_3]]) (ballot_Most.lp5_post l5_0 r_) := by
 intro n_
 induction n_ with
 | zero => intro l5_1 l5_2 l5_3 r_ h; exact no_none h
 | succ n_ ih =>
  intro l5_1 l5_2 l5_3 r_ h
  refine kLp ?_
  refine kSq ?_
  obtain ⟨r6_1, h6_2, h⟩ := bd_inv h
  rcases br_inv h with ⟨b6_3, h⟩ | ⟨b6_3, h⟩
  ·obtain ⟨r6_4, h6_5, h⟩ := bd_inv h
   refine kRs 31 [Tm 18 (bv (decide (r6_4 > 0)))] [.s (.t 11) [iv (l5_0.length : Int)], .a ⟨iv r6_1, []⟩, .b true, .b true, .a ⟨iv r6_4, []⟩, .b true, .b true] (.c (c_len (e := e_i64) (l := l5_0)) (.c (Asks.of (C := Meets Try.prog) (ballot_Majority.meets (l5_0.length : Int) _ h6_2)) (.r 2 b6_3 (.c (Asks.of (C := Meets Try.prog) (ballot_heads_Len.meets l5_3 _ h6_5)) (.r 2 b6_3 .n))))) ?_
   rcases br_inv h with ⟨b7_0, h⟩ | ⟨b7_0, h⟩
   ·refine kCt b7_0 ?_
    refine kSk ?_
    refine kCd (cR (cB (cB (cR (cL (cR (cR (cR bd97)))))))) [.lp (cB (cR (cL (cR (cR (cR bd97))))))] ?_
    refine kSq ?_
    refine kBk 1 ?_
    obtain ⟨⟨r8_1, r8_2⟩, h8_3, h⟩ := bd_inv h
    refine kRc 26 [Tm 2 (iv (if r8_1 < 0 then 0 else r8_1)), Ob 3 [sO 1 e_i64 r8_2]] [.a ⟨.ifc 3 (iv r8_1), [[sO 1 e_i64 r8_2]]⟩] (.c (Asks.of (C := Meets Try.prog) (heap_Pop.meets fu l5_3 _ _ h8_3)) .n) (cR (cR (cB (cB (cR (cL (cR (cR (cR bd97))))))))) [.lp (cB (cR (cL (cR (cR (cR bd97))))))] ?_
    refine kRc 15 [Tm 4 (iv (w64 (l5_2 + 1)))] [] .n (cB (cR (cL (cR (cR (cR bd97)))))) [] ?_
    exact kWk (ih (if r8_1 < 0 then 0 else r8_1) (w64 (l5_2 + 1)) r8_2 _ h)
   ·refine kCe b7_0 ?_
    cases some_inj h
    refine kWo ?_
    refine kXt 0 ?_
    exact kOut
  ·refine kRs 31 [Tm 18 (bv false)] (.s (.t 11) [iv (l5_0.length : Int)] :: (.a ⟨iv r6_1, []⟩ :: (rp 4 (.b false) []))) (.c (c_len (e := e_i64) (l := l5_0)) (.c (Asks.of (C := Meets Try.prog) (ballot_Majority.meets (l5_0.length : Int) _ h6_2)) (.r 4 b6_3 .n))) ?_
   refine kCe rF ?_
   cases some_inj h
   refine kWo ?_
   refine kXt 0 ?_
   exact kOut
def ballot_Most (fu : Nat) (match_v : List Int) : Option Int :=
 bd (slices_Clone_int_int match_v) fun r2_1 =>
 bd (heap_Init fu r2_1) fun r3_1 =>
 bd (ballot_Most.lp5 fu match_v fu 0 0 r3_1) fun y10_0 =>
 some y10_0
theorem ballot_Most.meets (fu : Nat) (match_v : List Int) (z0 : Int) (h : ballot_Most fu match_v = some z0) : Meets Try.prog ⟨97, [sS 1 e_i64 match_v], []⟩ ⟨iv z0, []⟩ := by
 refine kMt hmix ballot_Most.O Try.f97 bd97 1 ?_
 unfold ballot_Most at h
 refine kRs 1 [Tm 2 (iv 0)] [] .n ?_
 obtain ⟨r2_1, h2_2, h⟩ := bd_inv h
 refine kRs 3 [Tm 3 (.ptr 3 0), Ob 3 [sO 1 e_i64 r2_1]] [.a ⟨sO 1 e_i64 r2_1, []⟩] (.c (Asks.of (C := Meets Try.prog) (slices_Clone_int_int.meets match_v _ h2_2)) .n) ?_
 obtain ⟨r3_1, h3_2, h⟩ := bd_inv h
 refine kRs 13 [Ob 3 [sO 1 e_i64 r3_1]] [.a ⟨.tup [], [[sO 1 e_i64 r3_1]]⟩] (.c (Asks.of (C := Meets Try.prog) (heap_Init.meets fu r2_1 _ h3_2)) .n) ?_
 refine kSq ?_
 refine kRs 15 [Tm 4 (iv 0)] [] .n ?_
 refine kBk 0 ?_
 obtain ⟨o10, ho10, h⟩ := bd_inv h
 refine kUs (ballot_Most.lp5_ok fu match_v _ 0 0 r3_1 _ ho10) ?_
 intro e_ τ_ hp_
 obtain ⟨y10_0, rfl⟩ : ∃ y, y = o10 := ⟨_, rfl⟩
 obtain ⟨rfl, rfl⟩ := hp_
 refine kCd (cR (cR (cR (cR bd97)))) [] ?_
 refine kRs 1 [] [] .n ?_
 refine kRt ?_
 have h_ := some_inj h
 subst h_
 exact kFr
def bd76 : Code := (Try.f76.body).getD .skip
def ballot_Next.O : Nat → Nat := fun t => bif ([8, 9] : List Nat).any (Nat.beq t) then 1 else 0
def ballot_Next (fu : Nat) (match_v : List Int) (l : List TEntry) (term : Int) (commit : Int) : Option Int :=
 bd (ballot_Most fu match_v) fun r2_1 =>
 br (decide (r2_1 > commit))
  (br (decide (r2_1 ≤ (l.length : Int)))
   (bd (ulog_Term l r2_1) fun r3_3 =>
   br (r3_3 == term)
    (some r2_1)
    (some commit))
   (some commit))
  (some commit)
theorem ballot_Next.meets (fu : Nat) (match_v : List Int) (l : List TEntry) (term : Int) (commit : Int) (z0 : Int) (h : ballot_Next fu match_v l term commit = some z0) : Meets Try.prog ⟨76, [sS 1 e_i64 match_v, sS 6 TEntry.en l, iv term, iv commit], []⟩ ⟨iv z0, []⟩ := by
 refine kMt hmix ballot_Next.O Try.f76 bd76 15 ?_
 unfold ballot_Next at h
 refine kRs 15 [] [] .n ?_
 refine kSq ?_
 obtain ⟨r2_1, h2_2, h⟩ := bd_inv h
 refine kRs 14 [Tm 9 (iv r2_1)] [.a ⟨iv r2_1, []⟩] (.c (Asks.of (C := Meets Try.prog) (ballot_Most.meets fu match_v _ h2_2)) .n) ?_
 rcases br_inv h with ⟨b3_1, h⟩ | ⟨b3_1, h⟩
 ·rcases br_inv h with ⟨b3_2, h⟩ | ⟨b3_2, h⟩
  ·obtain ⟨r3_3, h3_4, h⟩ := bd_inv h
   refine kRs 9 [Tm 27 (bv (r3_3 == term))] (.b true :: (.b true :: (.b true :: (.s (.t 18) [iv (l.length : Int)] :: (rp 5 (.b true) [.a ⟨iv r3_3, []⟩, .b true, .b true, .b true]))))) (.r 3 b3_1 (.c (c_len (e := TEntry.en) (l := l)) (.r 2 b3_1 (.r 3 b3_2 (.c (Asks.of (C := Meets Try.prog) (ulog_Term.meets l r2_1 _ h3_4)) (.r 3 b3_2 .n)))))) ?_
   rcases br_inv h with ⟨b4_0, h⟩ | ⟨b4_0, h⟩
   ·refine kCt b4_0 ?_
    refine kRs 0 [Tm 8 (iv r2_1)] [] .n ?_
    refine kRt ?_
    have h_ := some_inj h
    subst h_
    exact kFr
   ·refine kCe b4_0 ?_
    refine kSk ?_
    refine kCd (cR (cR bd76)) [] ?_
    refine kRs 0 [Tm 8 (iv commit)] [] .n ?_
    refine kRt ?_
    have h_ := some_inj h
    subst h_
    exact kFr
  ·refine kRs 9 [Tm 27 (bv false)] (.b true :: (.b true :: (.b true :: (.s (.t 18) [iv (l.length : Int)] :: (.b true :: (.b true :: (rp 6 (.b false) []))))))) (.r 3 b3_1 (.c (c_len (e := TEntry.en) (l := l)) (.r 2 b3_1 (.r 6 b3_2 .n)))) ?_
   refine kCe rF ?_
   refine kSk ?_
   refine kCd (cR (cR bd76)) [] ?_
   refine kRs 0 [Tm 8 (iv commit)] [] .n ?_
   refine kRt ?_
   have h_ := some_inj h
   subst h_
   exact kFr
 ·refine kRs 9 [Tm 27 (bv false)] (rp 11 (.b false) []) (.r 5 b3_1 (.r 6 rF .n)) ?_
  refine kCe rF ?_
  refine kSk ?_
  refine kCd (cR (cR bd76)) [] ?_
  refine kRs 0 [Tm 8 (iv commit)] [] .n ?_
  refine kRt ?_
  have h_ := some_inj h
  subst h_
  exact kFr
def bd48 : Code := (Try.f48.body).getD .skip
def raft_member_proposes.O : Nat → Nat := fun t => bif ([3, 4, 33, 35, 55, 78] : List Nat).any (Nat.beq t) then 1 else 0
def raft_member_proposes (fu : Nat) (e_v : TEntry) (o0_v : TMember) : Option (Bool × TMember) :=
 br (o0_v.Raft.Role != 2)
  (some (false, o0_v))
  (br (decide ((o0_v.Raft.Log.length : Int) ≥ 200))
   (some (false, o0_v))
   (bd (raft_entries fu ([(TEntry.mk o0_v.Raft.Term e_v.Seal e_v.T)] : List TEntry)) fun r7_1 =>
   gd (decide (o0_v.Raft.Log.length + r7_1.length ≤ 4294967296)) <|
   ix o0_v.Raft.Match (w64 (o0_v.Raft.Me - 1)) fun x8_1 =>
   bd (ballot_Next fu (o0_v.Raft.Match.set (w64 (o0_v.Raft.Me - 1)).toNat ((o0_v.Raft.Log ++ r7_1).length : Int)) (o0_v.Raft.Log ++ r7_1) o0_v.Raft.Term o0_v.Raft.Commit) fun r9_1 =>
   bd (raft_member_all fu (TMember.mk (TRaft.mk o0_v.Raft.Me o0_v.Raft.Nodes o0_v.Raft.Wait o0_v.Raft.Term o0_v.Raft.Vote (o0_v.Raft.Log ++ r7_1) r9_1 o0_v.Raft.Role o0_v.Raft.Leader o0_v.Raft.Votes o0_v.Raft.Next (o0_v.Raft.Match.set (w64 (o0_v.Raft.Me - 1)).toNat ((o0_v.Raft.Log ++ r7_1).length : Int)) o0_v.Raft.Clock) o0_v.out)) fun r10_1 =>
   some (true, r10_1)))
theorem raft_member_proposes.meets (fu : Nat) (e_v : TEntry) (o0_v : TMember) (z0 : Bool) (z1 : TMember) (h : raft_member_proposes fu e_v o0_v = some (z0, z1)) : Meets Try.prog ⟨48, [.ptr 1000 0, .data (TEntry.ag e_v)], [(TMember.ob_00000100011101 o0_v)]⟩ ⟨bv z0, [(TMember.ob_00000000011101 z1)]⟩ := by
 refine kMt hmix raft_member_proposes.O Try.f48 bd48 7 ?_
 unfold raft_member_proposes at h
 refine kRs 5 [Tm 3 (.ptr 3 0), Ob 3 (TEntry.ob e_v)] [] .n ?_
 refine kSq ?_
 rcases br_inv h with ⟨b2_1, h⟩ | ⟨b2_1, h⟩
 ·refine kRs 15 [Tm 19 (bv true)] (rp 8 (.b true) []) (.r 8 b2_1 .n) ?_
  refine kCt rT ?_
  refine kRs 16 [Tm 4 (bv false)] [] .n ?_
  refine kSo 1000 5 1 [Ob 1000 (TMember.ob_00000000011101 o0_v)] ?_
  refine kRt ?_
  have h_0 := some_inj h
  obtain ⟨g_1, h_1⟩ := Prod.mk.inj h_0
  subst g_1
  subst h_1
  exact kFr
 ·refine kRs 15 [Tm 19 (bv (decide ((o0_v.Raft.Log.length : Int) ≥ 200)))] (rp 6 (.b false) [.s (.t 17) [iv (o0_v.Raft.Log.length : Int)], .b false, .b false]) (.r 6 b2_1 (.c (c_len (e := TEntry.en) (l := o0_v.Raft.Log)) (.r 2 b2_1 .n))) ?_
  rcases br_inv h with ⟨b4_0, h⟩ | ⟨b4_0, h⟩
  ·refine kCt b4_0 ?_
   refine kRs 16 [Tm 4 (bv false)] [] .n ?_
   refine kSo 1000 5 1 [Ob 1000 (TMember.ob_00000000011101 o0_v)] ?_
   refine kRt ?_
   have h_0 := some_inj h
   obtain ⟨g_1, h_1⟩ := Prod.mk.inj h_0
   subst g_1
   subst h_1
   exact kFr
  ·refine kCe b4_0 ?_
   refine kSk ?_
   refine kCd (cR (cR bd48)) [] ?_
   refine kRs 26 [Ob 3 (TEntry.ob (TEntry.mk o0_v.Raft.Term e_v.Seal e_v.T))] [] .n ?_
   obtain ⟨r7_1, h7_2, h⟩ := bd_inv h
   obtain ⟨c7_3, h⟩ := gd_inv h
   refine kRs 4 [Ob 1000 (TMember.ob_00000100011101 (TMember.mk (TRaft.mk o0_v.Raft.Me o0_v.Raft.Nodes o0_v.Raft.Wait o0_v.Raft.Term o0_v.Raft.Vote (o0_v.Raft.Log ++ r7_1) o0_v.Raft.Commit o0_v.Raft.Role o0_v.Raft.Leader o0_v.Raft.Votes o0_v.Raft.Next o0_v.Raft.Match o0_v.Raft.Clock) o0_v.out))] [.a ⟨sO 6 TEntry.en r7_1, []⟩, .s (.t 35) [sO 6 TEntry.en (o0_v.Raft.Log ++ r7_1)]] (.c (Asks.fg (args1 := []) (args2 := []) (nl := some false) (sz := 6) (es := List.map TEntry.en ([(TEntry.mk o0_v.Raft.Term e_v.Seal e_v.T)] : List TEntry)) (Asks.of (C := Meets Try.prog) (raft_entries.meets fu ([(TEntry.mk o0_v.Raft.Term e_v.Seal e_v.T)] : List TEntry) _ h7_2))) (.c (c_al (e := TEntry.en) (f := TEntry.en) c7_3) (.c (congrArg (fun d : DV => [AV.data d]) (c_app (e := TEntry.en) (s := 6) (l := o0_v.Raft.Log) (m := r7_1))) (.c rT .n)))) ?_
   obtain ⟨x8_1, a8_2, e8_3, h⟩ := ix_inv h
   refine kRs 2 [Ob 1000 (TMember.ob_00000100011101 (TMember.mk (TRaft.mk o0_v.Raft.Me o0_v.Raft.Nodes o0_v.Raft.Wait o0_v.Raft.Term o0_v.Raft.Vote (o0_v.Raft.Log ++ r7_1) o0_v.Raft.Commit o0_v.Raft.Role o0_v.Raft.Leader o0_v.Raft.Votes o0_v.Raft.Next (o0_v.Raft.Match.set (w64 (o0_v.Raft.Me - 1)).toNat ((o0_v.Raft.Log ++ r7_1).length : Int)) o0_v.Raft.Clock) o0_v.out))] [.s (.t 55) [iv ((o0_v.Raft.Log ++ r7_1).length : Int)], .c (e_i64 x8_1), .s (.o 1000) (TMember.ob_00000100011101 (TMember.mk (TRaft.mk o0_v.Raft.Me o0_v.Raft.Nodes o0_v.Raft.Wait o0_v.Raft.Term o0_v.Raft.Vote (o0_v.Raft.Log ++ r7_1) o0_v.Raft.Commit o0_v.Raft.Role o0_v.Raft.Leader o0_v.Raft.Votes o0_v.Raft.Next (o0_v.Raft.Match.set (w64 (o0_v.Raft.Me - 1)).toNat ((o0_v.Raft.Log ++ r7_1).length : Int)) o0_v.Raft.Clock) o0_v.out))] (.c (c_len (e := TEntry.en) (l := (o0_v.Raft.Log ++ r7_1))) (.c (c_ix (e := e_i64) a8_2 e8_3) (.c (c_el (e := e_i64) e8_3) (.c (congrArg (fun d : DV => (TMember.ob_00000100011101 (TMember.mk (TRaft.mk o0_v.Raft.Me o0_v.Raft.Nodes o0_v.Raft.Wait o0_v.Raft.Term o0_v.Raft.Vote (o0_v.Raft.Log ++ r7_1) o0_v.Raft.Commit o0_v.Raft.Role o0_v.Raft.Leader o0_v.Raft.Votes o0_v.Raft.Next (o0_v.Raft.Match.set (w64 (o0_v.Raft.Me - 1)).toNat ((o0_v.Raft.Log ++ r7_1).length : Int)) o0_v.Raft.Clock) o0_v.out)).set 11 (AV.data d)) (c_set (e := e_i64) (s := 1) (nl := none) (l := o0_v.Raft.Match) (i := (w64 (o0_v.Raft.Me - 1)).toNat) (x := ((o0_v.Raft.Log ++ r7_1).length : Int)))) (.c rT .n))))) ?_
   obtain ⟨r9_1, h9_2, h⟩ := bd_inv h
   refine kRs 2 [Ob 1000 (TMember.ob_00000100011101 (TMember.mk (TRaft.mk o0_v.Raft.Me o0_v.Raft.Nodes o0_v.Raft.Wait o0_v.Raft.Term o0_v.Raft.Vote (o0_v.Raft.Log ++ r7_1) r9_1 o0_v.Raft.Role o0_v.Raft.Leader o0_v.Raft.Votes o0_v.Raft.Next (o0_v.Raft.Match.set (w64 (o0_v.Raft.Me - 1)).toNat ((o0_v.Raft.Log ++ r7_1).length : Int)) o0_v.Raft.Clock) o0_v.out))] [.a ⟨iv r9_1, []⟩] (.c (Asks.of (C := Meets Try.prog) (ballot_Next.meets fu (o0_v.Raft.Match.set (w64 (o0_v.Raft.Me - 1)).toNat ((o0_v.Raft.Log ++ r7_1).length : Int)) (o0_v.Raft.Log ++ r7_1) o0_v.Raft.Term o0_v.Raft.Commit _ h9_2)) (.c rT .n)) ?_
   obtain ⟨r10_1, h10_2, h⟩ := bd_inv h
   refine kRs 0 [Ob 1000 (TMember.ob_00000000011101 r10_1)] [.a ⟨.tup [], [(TMember.ob_00000000011101 r10_1)]⟩] (.c (Asks.of (C := Meets Try.prog) (raft_member_all.meets fu (TMember.mk (TRaft.mk o0_v.Raft.Me o0_v.Raft.Nodes o0_v.Raft.Wait o0_v.Raft.Term o0_v.Raft.Vote (o0_v.Raft.Log ++ r7_1) r9_1 o0_v.Raft.Role o0_v.Raft.Leader o0_v.Raft.Votes o0_v.Raft.Next (o0_v.Raft.Match.set (w64 (o0_v.Raft.Me - 1)).toNat ((o0_v.Raft.Log ++ r7_1).length : Int)) o0_v.Raft.Clock) o0_v.out) _ h10_2)) .n) ?_
   refine kRs 1 [Tm 4 (bv true)] [] .n ?_
   refine kRt ?_
   have h_0 := some_inj h
   obtain ⟨g_1, h_1⟩ := Prod.mk.inj h_0
   subst g_1
   subst h_1
   exact kFr
def raft_member_all_2.O : Nat → Nat := fun t => bif ([4] : List Nat).any (Nat.beq t) then 1 else 0
def raft_member_all_2.lp2 (fu : Nat) : Nat → Int → TMember → Option TMember
  | 0, _, _ => none
  | n_ + 1, l2_0, l2_1 =>
  br (decide (l2_0 ≤ l2_1.Raft.Nodes))
   (br (l2_0 != l2_1.Raft.Me)
    (bd (raft_member_more_2 fu l2_0 l2_1) fun r7_1 =>
    raft_member_all_2.lp2 fu n_ (w64 (l2_0 + 1)) r7_1)
    (raft_member_all_2.lp2 fu n_ (w64 (l2_0 + 1)) l2_1))
   (some l2_1)
def raft_member_all_2.lp2_post (r_ : TMember) : Wy → St → Prop := fun e τ => match r_ with
  | y0 => e = .exit 0 ∧ τ = ofL [Ob 1000 (TMember.ob_00000000011101 y0)]
theorem raft_member_all_2.lp2_ok (fu : Nat) : ∀ (n_ : Nat) (l2_0 : Int) (l2_1 : TMember) (r_ : TMember), raft_member_all_2.lp2 fu n_ l2_0 l2_1 = some r_ → WK Try.prog raft_member_all_2.O (Ck Try.prog) (cB (cR bd74)) [] (ofL [Tm 0 (.ptr 1000 0), Tm 1 (.fn (.func 75) [.ptr 1000 0] []), Tm 4 (iv l2_0), Ob 1000 (TMember.ob_00000000011101 l2_1)]) (raft_member_all_2.lp2_post r_) := by
 intro n_
 induction n_ with
 | zero => intro l2_0 l2_1 r_ h; exact no_none h
 | succ n_ ih =>
  intro l2_0 l2_1 r_ h
  refine kLp ?_
  refine kSq ?_
  refine kRs 15 [Tm 11 (bv (decide (l2_0 ≤ l2_1.Raft.Nodes)))] [] .n ?_
  rcases br_inv h with ⟨b4_0, h⟩ | ⟨b4_0, h⟩
  ·refine kCt b4_0 ?_
   refine kSk ?_
   refine kCd (cR (cB (cB (cR bd74)))) [.lp (cB (cR bd74))] ?_
   refine kSq ?_
   refine kBk 1 ?_
   refine kRs 30 [Tm 20 (bv (l2_0 != l2_1.Raft.Me))] [] .n ?_
   rcases br_inv h with ⟨b6_0, h⟩ | ⟨b6_0, h⟩
   ·refine kCt b6_0 ?_
    obtain ⟨r7_1, h7_2, h⟩ := bd_inv h
    refine kRc 14 [Ob 1000 (TMember.ob_00000000011101 r7_1)] [.a ⟨.tup [], [(TMember.ob_00000000011101 r7_1)]⟩] (.c (Asks.of (C := Meets Try.prog) (raft_member_more_2.meets fu l2_0 l2_1 _ h7_2)) .n) (cR (cR (cB (cB (cR bd74))))) [.lp (cB (cR bd74))] ?_
    refine kRc 7 [Tm 4 (iv (w64 (l2_0 + 1)))] [] .n (cB (cR bd74)) [] ?_
    exact kWk (ih (w64 (l2_0 + 1)) r7_1 _ h)
   ·refine kCe b6_0 ?_
    refine kSk ?_
    refine kCd (cR (cR (cB (cB (cR bd74))))) [.lp (cB (cR bd74))] ?_
    refine kRc 22 [Tm 4 (iv (w64 (l2_0 + 1)))] [] .n (cB (cR bd74)) [] ?_
    exact kWk (ih (w64 (l2_0 + 1)) l2_1 _ h)
  ·refine kCe b4_0 ?_
   cases some_inj h
   refine kWo ?_
   refine kXt 0 ?_
   exact kOut
def raft_member_all_2 (fu : Nat) (o0_v : TMember) : Option TMember :=
 bd (raft_member_all_2.lp2 fu fu 1 o0_v) fun y10_0 =>
 some y10_0
theorem raft_member_all_2.meets (fu : Nat) (o0_v : TMember) (z0 : TMember) (h : raft_member_all_2 fu o0_v = some z0) : Meets Try.prog ⟨74, [.ptr 1000 0, .fn (.func 75) [.ptr 1000 0] []], [(TMember.ob_00000000011101 o0_v)]⟩ ⟨.tup [], [(TMember.ob_00000000011101 z0)]⟩ := by
 refine kMt hmix raft_member_all_2.O Try.f74 bd74 7 ?_
 unfold raft_member_all_2 at h
 refine kRs 7 [Tm 4 (iv 1)] [] .n ?_
 refine kBk 0 ?_
 obtain ⟨o10, ho10, h⟩ := bd_inv h
 refine kUs (raft_member_all_2.lp2_ok fu _ 1 o0_v _ ho10) ?_
 intro e_ τ_ hp_
 obtain ⟨y10_0, rfl⟩ : ∃ y, y = o10 := ⟨_, rfl⟩
 obtain ⟨rfl, rfl⟩ := hp_
 have h_ := some_inj h
 subst h_
 exact kFn
def bd99 : Code := (Try.f99.body).getD .skip
def raft_member_leads.O : Nat → Nat := fun t => bif ([2, 46, 66, 69] : List Nat).any (Nat.beq t) then 1 else 0
def raft_member_leads.lp3 (fu : Nat) (l3_0 : Int) : Nat → Int → TMember → Option TMember
  | 0, _, _ => none
  | n_ + 1, l3_1, l3_2 =>
  br (decide (l3_1 < l3_0))
   (ix l3_2.Raft.Next l3_1 fun x7_1 =>
   ix l3_2.Raft.Match l3_1 fun x7_4 =>
   raft_member_leads.lp3 fu l3_0 n_ (w64 (l3_1 + 1)) (TMember.mk (TRaft.mk l3_2.Raft.Me l3_2.Raft.Nodes l3_2.Raft.Wait l3_2.Raft.Term l3_2.Raft.Vote l3_2.Raft.Log l3_2.Raft.Commit l3_2.Raft.Role l3_2.Raft.Leader l3_2.Raft.Votes (l3_2.Raft.Next.set l3_1.toNat (w64 ((l3_2.Raft.Log.length : Int) + 1))) (l3_2.Raft.Match.set l3_1.toNat 0) l3_2.Raft.Clock) l3_2.out))
   (some l3_2)
def raft_member_leads.lp3_post (l3_0 : Int) (r_ : TMember) : Wy → St → Prop := fun e τ => match r_ with
  | y0 => e = .exit 0 ∧ τ = ofL [Tm 0 (.ptr 1000 0), Ob 1000 (TMember.ob_00000100011101 y0)]
theorem raft_member_leads.lp3_ok (fu : Nat) (l3_0 : Int) : ∀ (n_ : Nat) (l3_1 : Int) (l3_2 : TMember) (r_ : TMember), raft_member_leads.lp3 fu l3_0 n_ l3_1 l3_2 = some r_ → WK Try.prog raft_member_leads.O (Ck Try.prog) (cB (cR (cL (cR bd99)))) [] (ofL [Tm 0 (.ptr 1000 0), Tm 24 (iv l3_0), Tm 25 (iv l3_1), Ob 1000 (TMember.ob_00000100011101 l3_2)]) (raft_member_leads.lp3_post l3_0 r_) := by
 intro n_
 induction n_ with
 | zero => intro l3_1 l3_2 r_ h; exact no_none h
 | succ n_ ih =>
  intro l3_1 l3_2 r_ h
  refine kLp ?_
  refine kRs 15 [Tm 26 (bv (decide (l3_1 < l3_0)))] [] .n ?_
  refine kSq ?_
  rcases br_inv h with ⟨b5_0, h⟩ | ⟨b5_0, h⟩
  ·refine kCt b5_0 ?_
   refine kSk ?_
   refine kCd (cR (cR (cB (cB (cR (cL (cR bd99))))))) [.lp (cB (cR (cL (cR bd99))))] ?_
   refine kSq ?_
   refine kBk 1 ?_
   refine kRs 30 [Tm 2 (iv l3_1)] [] .n ?_
   obtain ⟨x7_1, a7_2, e7_3, h⟩ := ix_inv h
   obtain ⟨x7_4, a7_5, e7_6, h⟩ := ix_inv h
   refine kRc 14 [Ob 1000 (TMember.ob_00000100011101 (TMember.mk (TRaft.mk l3_2.Raft.Me l3_2.Raft.Nodes l3_2.Raft.Wait l3_2.Raft.Term l3_2.Raft.Vote l3_2.Raft.Log l3_2.Raft.Commit l3_2.Raft.Role l3_2.Raft.Leader l3_2.Raft.Votes (l3_2.Raft.Next.set l3_1.toNat (w64 ((l3_2.Raft.Log.length : Int) + 1))) (l3_2.Raft.Match.set l3_1.toNat 0) l3_2.Raft.Clock) l3_2.out))] [.s (.t 45) [iv (l3_2.Raft.Log.length : Int)], .c (e_i64 x7_1), .s (.o 1000) (TMember.ob_00000100011101 (TMember.mk (TRaft.mk l3_2.Raft.Me l3_2.Raft.Nodes l3_2.Raft.Wait l3_2.Raft.Term l3_2.Raft.Vote l3_2.Raft.Log l3_2.Raft.Commit l3_2.Raft.Role l3_2.Raft.Leader l3_2.Raft.Votes (l3_2.Raft.Next.set l3_1.toNat (w64 ((l3_2.Raft.Log.length : Int) + 1))) l3_2.Raft.Match l3_2.Raft.Clock) l3_2.out)), .c (e_i64 x7_4), .s (.o 1000) (TMember.ob_00000100011101 (TMember.mk (TRaft.mk l3_2.Raft.Me l3_2.Raft.Nodes l3_2.Raft.Wait l3_2.Raft.Term l3_2.Raft.Vote l3_2.Raft.Log l3_2.Raft.Commit l3_2.Raft.Role l3_2.Raft.Leader l3_2.Raft.Votes (l3_2.Raft.Next.set l3_1.toNat (w64 ((l3_2.Raft.Log.length : Int) + 1))) (l3_2.Raft.Match.set l3_1.toNat 0) l3_2.Raft.Clock) l3_2.out))] (.c (c_len (e := TEntry.en) (l := l3_2.Raft.Log)) (.c (c_ix (e := e_i64) a7_2 e7_3) (.c (c_el (e := e_i64) e7_3) (.c (congrArg (fun d : DV => (TMember.ob_00000100011101 (TMember.mk (TRaft.mk l3_2.Raft.Me l3_2.Raft.Nodes l3_2.Raft.Wait l3_2.Raft.Term l3_2.Raft.Vote l3_2.Raft.Log l3_2.Raft.Commit l3_2.Raft.Role l3_2.Raft.Leader l3_2.Raft.Votes (l3_2.Raft.Next.set l3_1.toNat (w64 ((l3_2.Raft.Log.length : Int) + 1))) l3_2.Raft.Match l3_2.Raft.Clock) l3_2.out)).set 10 (AV.data d)) (c_set (e := e_i64) (s := 1) (nl := none) (l := l3_2.Raft.Next) (i := l3_1.toNat) (x := (w64 ((l3_2.Raft.Log.length : Int) + 1))))) (.c (c_ix (e := e_i64) a7_5 e7_6) (.c (c_el (e := e_i64) e7_6) (.c (congrArg (fun d : DV => (TMember.ob_00000100011101 (TMember.mk (TRaft.mk l3_2.Raft.Me l3_2.Raft.Nodes l3_2.Raft.Wait l3_2.Raft.Term l3_2.Raft.Vote l3_2.Raft.Log l3_2.Raft.Commit l3_2.Raft.Role l3_2.Raft.Leader l3_2.Raft.Votes (l3_2.Raft.Next.set l3_1.toNat (w64 ((l3_2.Raft.Log.length : Int) + 1))) (l3_2.Raft.Match.set l3_1.toNat 0) l3_2.Raft.Clock) l3_2.out)).set 11 (AV.data d)) (c_set (e := e_i64) (s := 1) (nl := none) (l := l3_2.Raft.Match) (i := l3_1.toNat) (x := 0))) (.c rT .n)))))))) (cR (cR (cR (cB (cB (cR (cL (cR bd99)))))))) [.lp (cB (cR (cL (cR bd99))))] ?_
   refine kRc 7 [Tm 25 (iv (w64 (l3_1 + 1)))] [] .n (cB (cR (cL (cR bd99)))) [] ?_
   exact kWk (ih (w64 (l3_1 + 1)) (TMember.mk (TRaft.mk l3_2.Raft.Me l3_2.Raft.Nodes l3_2.Raft.Wait l3_2.Raft.Term l3_2.Raft.Vote l3_2.Raft.Log l3_2.Raft.Commit l3_2.Raft.Role l3_2.Raft.Leader l3_2.Raft.Votes (l3_2.Raft.Next.set l3_1.toNat (w64 ((l3_2.Raft.Log.length : Int) + 1))) (l3_2.Raft.Match.set l3_1.toNat 0) l3_2.Raft.Clock) l3_2.out) _ h)
  ·refine kCe b5_0 ?_
   cases some_inj h
   refine kWo ?_
   refine kXt 0 ?_
   exact kOut
def raft_member_leads (fu : Nat) (o0_v : TMember) : Option TMember :=
 bd (raft_member_leads.lp3 fu o0_v.Raft.Nodes fu 0 (TMember.mk (TRaft.mk o0_v.Raft.Me o0_v.Raft.Nodes o0_v.Raft.Wait o0_v.Raft.Term o0_v.Raft.Vote o0_v.Raft.Log o0_v.Raft.Commit 2 o0_v.Raft.Me o0_v.Raft.Votes o0_v.Raft.Next o0_v.Raft.Match 0) o0_v.out)) fun y9_0 =>
 ix y9_0.Raft.Match (w64 (y9_0.Raft.Me - 1)) fun x10_1 =>
 bd (raft_member_proposes fu (TEntry.mk 0 true (TTxn.mk 0 0 [] [])) (TMember.mk (TRaft.mk y9_0.Raft.Me y9_0.Raft.Nodes y9_0.Raft.Wait y9_0.Raft.Term y9_0.Raft.Vote y9_0.Raft.Log y9_0.Raft.Commit y9_0.Raft.Role y9_0.Raft.Leader y9_0.Raft.Votes y9_0.Raft.Next (y9_0.Raft.Match.set (w64 (y9_0.Raft.Me - 1)).toNat (y9_0.Raft.Log.length : Int)) y9_0.Raft.Clock) y9_0.out)) fun (r11_1, r11_2) =>
 br (!r11_1)
  (bd (raft_member_all_2 fu r11_2) fun r13_1 =>
  some r13_1)
  (some r11_2)
theorem raft_member_leads.meets (fu : Nat) (o0_v : TMember) (z0 : TMember) (h : raft_member_leads fu o0_v = some z0) : Meets Try.prog ⟨99, [.ptr 1000 0], [(TMember.ob_00000100011101 o0_v)]⟩ ⟨.tup [], [(TMember.ob_00000000011101 z0)]⟩ := by
 refine kMt hmix raft_member_leads.O Try.f99 bd99 3 ?_
 unfold raft_member_leads at h
 refine kRs 1 [Ob 1000 (TMember.ob_00000100011101 (TMember.mk (TRaft.mk o0_v.Raft.Me o0_v.Raft.Nodes o0_v.Raft.Wait o0_v.Raft.Term o0_v.Raft.Vote o0_v.Raft.Log o0_v.Raft.Commit 2 o0_v.Raft.Me o0_v.Raft.Votes o0_v.Raft.Next o0_v.Raft.Match 0) o0_v.out))] [] .n ?_
 refine kSq ?_
 refine kRs 3 [Tm 24 (iv o0_v.Raft.Nodes), Tm 25 (iv 0)] [] .n ?_
 refine kBk 0 ?_
 obtain ⟨o9, ho9, h⟩ := bd_inv h
 refine kUs (raft_member_leads.lp3_ok fu o0_v.Raft.Nodes _ 0 (TMember.mk (TRaft.mk o0_v.Raft.Me o0_v.Raft.Nodes o0_v.Raft.Wait o0_v.Raft.Term o0_v.Raft.Vote o0_v.Raft.Log o0_v.Raft.Commit 2 o0_v.Raft.Me o0_v.Raft.Votes o0_v.Raft.Next o0_v.Raft.Match 0) o0_v.out) _ ho9) ?_
 intro e_ τ_ hp_
 obtain ⟨y9_0, rfl⟩ : ∃ y, y = o9 := ⟨_, rfl⟩
 obtain ⟨rfl, rfl⟩ := hp_
 refine kCd (cR (cR bd99)) [] ?_
 obtain ⟨x10_1, a10_2, e10_3, h⟩ := ix_inv h
 refine kRs 1 [Ob 1000 (TMember.ob_00000100011101 (TMember.mk (TRaft.mk y9_0.Raft.Me y9_0.Raft.Nodes y9_0.Raft.Wait y9_0.Raft.Term y9_0.Raft.Vote y9_0.Raft.Log y9_0.Raft.Commit y9_0.Raft.Role y9_0.Raft.Leader y9_0.Raft.Votes y9_0.Raft.Next (y9_0.Raft.Match.set (w64 (y9_0.Raft.Me - 1)).toNat (y9_0.Raft.Log.length : Int)) y9_0.Raft.Clock) y9_0.out))] [.s (.t 66) [iv (y9_0.Raft.Log.length : Int)], .c (e_i64 x10_1), .s (.o 1000) (TMember.ob_00000100011101 (TMember.mk (TRaft.mk y9_0.Raft.Me y9_0.Raft.Nodes y9_0.Raft.Wait y9_0.Raft.Term y9_0.Raft.Vote y9_0.Raft.Log y9_0.Raft.Commit y9_0.Raft.Role y9_0.Raft.Leader y9_0.Raft.Votes y9_0.Raft.Next (y9_0.Raft.Match.set (w64 (y9_0.Raft.Me - 1)).toNat (y9_0.Raft.Log.length : Int)) y9_0.Raft.Clock) y9_0.out))] (.c (c_len (e := TEntry.en) (l := y9_0.Raft.Log)) (.c (c_ix (e := e_i64) a10_2 e10_3) (.c (c_el (e := e_i64) e10_3) (.c (congrArg (fun d : DV => (TMember.ob_00000100011101 (TMember.mk (TRaft.mk y9_0.Raft.Me y9_0.Raft.Nodes y9_0.Raft.Wait y9_0.Raft.Term y9_0.Raft.Vote y9_0.Raft.Log y9_0.Raft.Commit y9_0.Raft.Role y9_0.Raft.Leader y9_0.Raft.Votes y9_0.Raft.Next (y9_0.Raft.Match.set (w64 (y9_0.Raft.Me - 1)).toNat (y9_0.Raft.Log.length : Int)) y9_0.Raft.Clock) y9_0.out)).set 11 (AV.data d)) (c_set (e := e_i64) (s := 1) (nl := none) (l := y9_0.Raft.Match) (i := (w64 (y9_0.Raft.Me - 1)).toNat) (x := (y9_0.Raft.Log.length : Int)))) (.c rT .n))))) ?_
 obtain ⟨⟨r11_1, r11_2⟩, h11_3, h⟩ := bd_inv h
 refine kRs 2 [Tm 71 (bv (!r11_1)), Ob 1000 (TMember.ob_00000000011101 r11_2)] [.a ⟨bv r11_1, [(TMember.ob_00000000011101 r11_2)]⟩] (.c (Asks.of (C := Meets Try.prog) (raft_member_proposes.meets fu (TEntry.mk 0 true (TTxn.mk 0 0 [] [])) (TMember.mk (TRaft.mk y9_0.Raft.Me y9_0.Raft.Nodes y9_0.Raft.Wait y9_0.Raft.Term y9_0.Raft.Vote y9_0.Raft.Log y9_0.Raft.Commit y9_0.Raft.Role y9_0.Raft.Leader y9_0.Raft.Votes y9_0.Raft.Next (y9_0.Raft.Match.set (w64 (y9_0.Raft.Me - 1)).toNat (y9_0.Raft.Log.length : Int)) y9_0.Raft.Clock) y9_0.out) _ _ h11_3)) .n) ?_
 rcases br_inv h with ⟨b12_0, h⟩ | ⟨b12_0, h⟩
 ·refine kCt b12_0 ?_
  obtain ⟨r13_1, h13_2, h⟩ := bd_inv h
  have h_ := some_inj h
  subst h_
  exact kRf [.a ⟨.tup [], [(TMember.ob_00000000011101 r13_1)]⟩] (.c (Asks.of (C := Meets Try.prog) (raft_member_all_2.meets fu r11_2 _ h13_2)) .n)
 ·refine kCe b12_0 ?_
  refine kSk ?_
  have h_ := some_inj h
  subst h_
  exact kFn
def bd79 : Code := (Try.f79.body).getD .skip
def raft_member_elected.O : Nat → Nat := fun t => bif ([2, 3] : List Nat).any (Nat.beq t) then 1 else 0
def raft_member_elected (fu : Nat) (o0_v : TMember) : Option (Bool × TMember) :=
 bd (ballot_Many fu o0_v.Raft.Votes) fun r2_1 =>
 bd (ballot_Majority o0_v.Raft.Nodes) fun r2_3 =>
 br (decide (r2_1 ≥ r2_3))
  (bd (raft_member_leads fu o0_v) fun r5_1 =>
  some ((decide (r2_1 ≥ r2_3)), r5_1))
  (some ((decide (r2_1 ≥ r2_3)), o0_v))
theorem raft_member_elected.meets (fu : Nat) (o0_v : TMember) (z0 : Bool) (z1 : TMember) (h : raft_member_elected fu o0_v = some (z0, z1)) : Meets Try.prog ⟨79, [.ptr 1000 0], [(TMember.ob_00000100011101 o0_v)]⟩ ⟨bv z0, [(TMember.ob_00000000011101 z1)]⟩ := by
 refine kMt hmix raft_member_elected.O Try.f79 bd79 3 ?_
 unfold raft_member_elected at h
 refine kRs 3 [] [] .n ?_
 obtain ⟨r2_1, h2_2, h⟩ := bd_inv h
 obtain ⟨r2_3, h2_4, h⟩ := bd_inv h
 refine kRs 3 [Tm 3 (bv (decide (r2_1 ≥ r2_3)))] [.a ⟨iv r2_1, []⟩, .a ⟨iv r2_3, []⟩] (.c (Asks.of (C := Meets Try.prog) (ballot_Many.meets fu o0_v.Raft.Votes _ h2_2)) (.c (Asks.of (C := Meets Try.prog) (ballot_Majority.meets o0_v.Raft.Nodes _ h2_4)) (.c rT .n))) ?_
 refine kSq ?_
 refine kRs 7 [Tm 17 (bv (decide (r2_1 ≥ r2_3)))] [] .n ?_
 rcases br_inv h with ⟨b4_0, h⟩ | ⟨b4_0, h⟩
 ·refine kCt b4_0 ?_
  obtain ⟨r5_1, h5_2, h⟩ := bd_inv h
  refine kRc 2 [Ob 1000 (TMember.ob_00000000011101 r5_1)] [.a ⟨.tup [], [(TMember.ob_00000000011101 r5_1)]⟩] (.c (Asks.of (C := Meets Try.prog) (raft_member_leads.meets fu o0_v _ h5_2)) .n) (cR (cR (cR bd79))) [] ?_
  refine kRs 1 [Tm 2 (bv (decide (r2_1 ≥ r2_3)))] [] .n ?_
  refine kRt ?_
  have h_0 := some_inj h
  obtain ⟨g_1, h_1⟩ := Prod.mk.inj h_0
  subst g_1
  subst h_1
  exact kFr
 ·refine kCe b4_0 ?_
  refine kSk ?_
  refine kCd (cR (cR (cR bd79))) [] ?_
  refine kRs 8 [Tm 2 (bv (decide (r2_1 ≥ r2_3)))] [] .n ?_
  refine kSo 1000 5 1 [Ob 1000 (TMember.ob_00000000011101 o0_v)] ?_
  refine kRt ?_
  have h_0 := some_inj h
  obtain ⟨g_1, h_1⟩ := Prod.mk.inj h_0
  subst g_1
  subst h_1
  exact kFr
def bd95 : Code := (Try.f95.body).getD .skip
def raft_member_stands_1.O : Nat → Nat := fun t => bif ([23] : List Nat).any (Nat.beq t) then 1 else 0
def raft_member_stands_1 (to : Int) (o1_v : TMember) : Option TMember :=
 bd (ulog_Term o1_v.Raft.Log (o1_v.Raft.Log.length : Int)) fun r1_1 =>
 bd (raft_member_sends to (TMsg.mk 1 0 0 0 0 (o1_v.Raft.Log.length : Int) r1_1 0 false [] (TTxn.mk 0 0 [] []) 0 0 0 0 false ByteArray.empty ByteArray.empty [] [] 0) o1_v) fun r1_3 =>
 some r1_3
theorem raft_member_stands_1.meets (to : Int) (o1_v : TMember) (z0 : TMember) (h : raft_member_stands_1 to o1_v = some z0) : Meets Try.prog ⟨95, [iv to, .ptr 1000 0], [[.ptr 1001 0], (TMember.ob_00000000011101 o1_v)]⟩ ⟨.tup [], [[.ptr 1001 0], (TMember.ob_00000000011101 z0)]⟩ := by
 refine kMt hmix raft_member_stands_1.O Try.f95 bd95 15 ?_
 unfold raft_member_stands_1 at h
 obtain ⟨r1_1, h1_2, h⟩ := bd_inv h
 obtain ⟨r1_3, h1_4, h⟩ := bd_inv h
 have h_ := some_inj h
 subst h_
 exact kRf [.s (.t 10) [iv (o1_v.Raft.Log.length : Int)], .s (.t 21) [iv (o1_v.Raft.Log.length : Int)], .a ⟨iv r1_1, []⟩, .a ⟨.tup [], [(TMember.ob_00000000011101 r1_3)]⟩] (.r 2 (c_len (e := TEntry.en) (l := o1_v.Raft.Log)) (.c (Asks.of (C := Meets Try.prog) (ulog_Term.meets o1_v.Raft.Log (o1_v.Raft.Log.length : Int) _ h1_2)) (.c (Asks.of (C := Meets Try.prog) (raft_member_sends.meets to (TMsg.mk 1 0 0 0 0 (o1_v.Raft.Log.length : Int) r1_1 0 false [] (TTxn.mk 0 0 [] []) 0 0 0 0 false ByteArray.empty ByteArray.empty [] [] 0) o1_v _ h1_4)) (.c rT .n))))
def raft_member_all_3.O : Nat → Nat := fun t => bif ([4] : List Nat).any (Nat.beq t) then 1 else 0
def raft_member_all_3.lp2 (fu : Nat) : Nat → Int → TMember → Option TMember
  | 0, _, _ => none
  | n_ + 1, l2_0, l2_1 =>
  br (decide (l2_0 ≤ l2_1.Raft.Nodes))
   (br (l2_0 != l2_1.Raft.Me)
    (bd (raft_member_stands_1 l2_0 l2_1) fun r7_1 =>
    raft_member_all_3.lp2 fu n_ (w64 (l2_0 + 1)) r7_1)
    (raft_member_all_3.lp2 fu n_ (w64 (l2_0 + 1)) l2_1))
   (some l2_1)
def raft_member_all_3.lp2_post (r_ : TMember) : Wy → St → Prop := fun e τ => match r_ with
  | y0 => e = .exit 0 ∧ τ = ofL [Ob 1000 (TMember.ob_00000000011101 y0), Ob 1001 [.ptr 1000 0]]
theorem raft_member_all_3.lp2_ok (fu : Nat) : ∀ (n_ : Nat) (l2_0 : Int) (l2_1 : TMember) (r_ : TMember), raft_member_all_3.lp2 fu n_ l2_0 l2_1 = some r_ → WK Try.prog raft_member_all_3.O (Ck Try.prog) (cB (cR bd74)) [] (ofL [Tm 0 (.ptr 1000 0), Tm 1 (.fn (.func 95) [] [.ptr 1001 0]), Tm 4 (iv l2_0), Ob 1000 (TMember.ob_00000000011101 l2_1), Ob 1001 [.ptr 1000 0]]) (raft_member_all_3.lp2_post r_) := by
 intro n_
 induction n_ with
 | zero => intro l2_0 l2_1 r_ h; exact no_none h
 | succ n_ ih =>
  intro l2_0 l2_1 r_ h
  refine kLp ?_
  refine kSq ?_
  refine kRs 31 [Tm 11 (bv (decide (l2_0 ≤ l2_1.Raft.Nodes)))] [] .n ?_
  rcases br_inv h with ⟨b4_0, h⟩ | ⟨b4_0, h⟩
  ·refine kCt b4_0 ?_
   refine kSk ?_
   refine kCd (cR (cB (cB (cR bd74)))) [.lp (cB (cR bd74))] ?_
   refine kSq ?_
   refine kBk 1 ?_
   refine kRs 62 [Tm 20 (bv (l2_0 != l2_1.Raft.Me))] [] .n ?_
   rcases br_inv h with ⟨b6_0, h⟩ | ⟨b6_0, h⟩
   ·refine kCt b6_0 ?_
    obtain ⟨r7_1, h7_2, h⟩ := bd_inv h
    refine kRc 46 [Ob 1000 (TMember.ob_00000000011101 r7_1)] [.a ⟨.tup [], [[.ptr 1001 0], (TMember.ob_00000000011101 r7_1)]⟩] (.c (Asks.of (C := Meets Try.prog) (raft_member_stands_1.meets l2_0 l2_1 _ h7_2)) .n) (cR (cR (cB (cB (cR bd74))))) [.lp (cB (cR bd74))] ?_
    refine kRc 23 [Tm 4 (iv (w64 (l2_0 + 1)))] [] .n (cB (cR bd74)) [] ?_
    exact kWk (ih (w64 (l2_0 + 1)) r7_1 _ h)
   ·refine kCe b6_0 ?_
    refine kSk ?_
    refine kCd (cR (cR (cB (cB (cR bd74))))) [.lp (cB (cR bd74))] ?_
    refine kRc 54 [Tm 4 (iv (w64 (l2_0 + 1)))] [] .n (cB (cR bd74)) [] ?_
    exact kWk (ih (w64 (l2_0 + 1)) l2_1 _ h)
  ·refine kCe b4_0 ?_
   cases some_inj h
   refine kWo ?_
   refine kXt 0 ?_
   exact kOut
def raft_member_all_3 (fu : Nat) (o0_v : TMember) : Option TMember :=
 bd (raft_member_all_3.lp2 fu fu 1 o0_v) fun y10_0 =>
 some y10_0
theorem raft_member_all_3.meets (fu : Nat) (o0_v : TMember) (z0 : TMember) (h : raft_member_all_3 fu o0_v = some z0) : Meets Try.prog ⟨74, [.ptr 1000 0, .fn (.func 95) [] [.ptr 1001 0]], [(TMember.ob_00000000011101 o0_v), [.ptr 1000 0]]⟩ ⟨.tup [], [(TMember.ob_00000000011101 z0), [.ptr 1000 0]]⟩ := by
 refine kMt hmix raft_member_all_3.O Try.f74 bd74 15 ?_
 unfold raft_member_all_3 at h
 refine kRs 15 [Tm 4 (iv 1)] [] .n ?_
 refine kBk 0 ?_
 obtain ⟨o10, ho10, h⟩ := bd_inv h
 refine kUs (raft_member_all_3.lp2_ok fu _ 1 o0_v _ ho10) ?_
 intro e_ τ_ hp_
 obtain ⟨y10_0, rfl⟩ : ∃ y, y = o10 := ⟨_, rfl⟩
 obtain ⟨rfl, rfl⟩ := hp_
 have h_ := some_inj h
 subst h_
 exact kFn
def bd73 : Code := (Try.f73.body).getD .skip
def raft_member_stands.O : Nat → Nat := fun t => bif ([1, 7] : List Nat).any (Nat.beq t) then 1 else 0
def raft_member_stands (fu : Nat) (o0_v : TMember) : Option TMember :=
 ix (List.replicate o0_v.Raft.Votes.length (false : Bool)) (w64 (o0_v.Raft.Me - 1)) fun x5_1 =>
 bd (raft_member_elected fu (TMember.mk (TRaft.mk o0_v.Raft.Me o0_v.Raft.Nodes o0_v.Raft.Wait (w64 (o0_v.Raft.Term + 1)) o0_v.Raft.Me o0_v.Raft.Log o0_v.Raft.Commit 1 0 ((List.replicate o0_v.Raft.Votes.length (false : Bool)).set (w64 (o0_v.Raft.Me - 1)).toNat true) o0_v.Raft.Next o0_v.Raft.Match 0) o0_v.out)) fun (r6_1, r6_2) =>
 br (!r6_1)
  (bd (raft_member_all_3 fu r6_2) fun r8_1 =>
  some r8_1)
  (some r6_2)
theorem raft_member_stands.meets (fu : Nat) (o0_v : TMember) (z0 : TMember) (h : raft_member_stands fu o0_v = some z0) : Meets Try.prog ⟨73, [.ptr 1000 0], [(TMember.ob_00000100011101 o0_v)]⟩ ⟨.tup [], [(TMember.ob_00000000011101 z0)]⟩ := by
 refine kMt hmix raft_member_stands.O Try.f73 bd73 3 ?_
 unfold raft_member_stands at h
 refine kRs 2 [Tm 1 (.ptr 1 0), Ob 1 [.ptr 1000 0]] [] .n ?_
 refine kRs 3 [Ob 1000 (TMember.ob_00000100011101 (TMember.mk (TRaft.mk o0_v.Raft.Me o0_v.Raft.Nodes o0_v.Raft.Wait (w64 (o0_v.Raft.Term + 1)) o0_v.Raft.Vote o0_v.Raft.Log o0_v.Raft.Commit o0_v.Raft.Role o0_v.Raft.Leader o0_v.Raft.Votes o0_v.Raft.Next o0_v.Raft.Match o0_v.Raft.Clock) o0_v.out))] [] .n ?_
 refine kRs 6 [Ob 1000 (TMember.ob_00000100011101 (TMember.mk (TRaft.mk o0_v.Raft.Me o0_v.Raft.Nodes o0_v.Raft.Wait (w64 (o0_v.Raft.Term + 1)) o0_v.Raft.Me o0_v.Raft.Log o0_v.Raft.Commit 1 0 o0_v.Raft.Votes o0_v.Raft.Next o0_v.Raft.Match 0) o0_v.out))] [] (.c rT .n) ?_
 refine kRs 6 [Ob 1000 (TMember.ob_00000100011101 (TMember.mk (TRaft.mk o0_v.Raft.Me o0_v.Raft.Nodes o0_v.Raft.Wait (w64 (o0_v.Raft.Term + 1)) o0_v.Raft.Me o0_v.Raft.Log o0_v.Raft.Commit 1 0 (List.replicate o0_v.Raft.Votes.length (false : Bool)) o0_v.Raft.Next o0_v.Raft.Match 0) o0_v.out))] [.s (.o 1000) (TMember.ob_00000100011101 (TMember.mk (TRaft.mk o0_v.Raft.Me o0_v.Raft.Nodes o0_v.Raft.Wait (w64 (o0_v.Raft.Term + 1)) o0_v.Raft.Me o0_v.Raft.Log o0_v.Raft.Commit 1 0 (List.replicate o0_v.Raft.Votes.length (false : Bool)) o0_v.Raft.Next o0_v.Raft.Match 0) o0_v.out))] (.c (congrArg (fun d : DV => (TMember.ob_00000100011101 (TMember.mk (TRaft.mk o0_v.Raft.Me o0_v.Raft.Nodes o0_v.Raft.Wait (w64 (o0_v.Raft.Term + 1)) o0_v.Raft.Me o0_v.Raft.Log o0_v.Raft.Commit 1 0 (List.replicate o0_v.Raft.Votes.length (false : Bool)) o0_v.Raft.Next o0_v.Raft.Match 0) o0_v.out)).set 9 (AV.data d)) (c_clr (e := e_b) (s := 1) (nl := none) (l := o0_v.Raft.Votes) (x := (false : Bool)))) .n) ?_
 obtain ⟨x5_1, a5_2, e5_3, h⟩ := ix_inv h
 refine kRs 6 [Ob 1000 (TMember.ob_00000100011101 (TMember.mk (TRaft.mk o0_v.Raft.Me o0_v.Raft.Nodes o0_v.Raft.Wait (w64 (o0_v.Raft.Term + 1)) o0_v.Raft.Me o0_v.Raft.Log o0_v.Raft.Commit 1 0 ((List.replicate o0_v.Raft.Votes.length (false : Bool)).set (w64 (o0_v.Raft.Me - 1)).toNat true) o0_v.Raft.Next o0_v.Raft.Match 0) o0_v.out))] [.c (e_b x5_1), .s (.o 1000) (TMember.ob_00000100011101 (TMember.mk (TRaft.mk o0_v.Raft.Me o0_v.Raft.Nodes o0_v.Raft.Wait (w64 (o0_v.Raft.Term + 1)) o0_v.Raft.Me o0_v.Raft.Log o0_v.Raft.Commit 1 0 ((List.replicate o0_v.Raft.Votes.length (false : Bool)).set (w64 (o0_v.Raft.Me - 1)).toNat true) o0_v.Raft.Next o0_v.Raft.Match 0) o0_v.out))] (.c (c_ix (e := e_b) a5_2 e5_3) (.c (c_el (e := e_b) e5_3) (.c (congrArg (fun d : DV => (TMember.ob_00000100011101 (TMember.mk (TRaft.mk o0_v.Raft.Me o0_v.Raft.Nodes o0_v.Raft.Wait (w64 (o0_v.Raft.Term + 1)) o0_v.Raft.Me o0_v.Raft.Log o0_v.Raft.Commit 1 0 ((List.replicate o0_v.Raft.Votes.length (false : Bool)).set (w64 (o0_v.Raft.Me - 1)).toNat true) o0_v.Raft.Next o0_v.Raft.Match 0) o0_v.out)).set 9 (AV.data d)) (c_set (e := e_b) (s := 1) (nl := none) (l := (List.replicate o0_v.Raft.Votes.length (false : Bool))) (i := (w64 (o0_v.Raft.Me - 1)).toNat) (x := true))) (.c rT .n)))) ?_
 obtain ⟨⟨r6_1, r6_2⟩, h6_3, h⟩ := bd_inv h
 refine kRs 6 [Tm 51 (bv (!r6_1)), Ob 1000 (TMember.ob_00000000011101 r6_2)] [.a ⟨bv r6_1, [(TMember.ob_00000000011101 r6_2)]⟩] (.c (Asks.of (C := Meets Try.prog) (raft_member_elected.meets fu (TMember.mk (TRaft.mk o0_v.Raft.Me o0_v.Raft.Nodes o0_v.Raft.Wait (w64 (o0_v.Raft.Term + 1)) o0_v.Raft.Me o0_v.Raft.Log o0_v.Raft.Commit 1 0 ((List.replicate o0_v.Raft.Votes.length (false : Bool)).set (w64 (o0_v.Raft.Me - 1)).toNat true) o0_v.Raft.Next o0_v.Raft.Match 0) o0_v.out) _ _ h6_3)) .n) ?_
 rcases br_inv h with ⟨b7_0, h⟩ | ⟨b7_0, h⟩
 ·refine kCt b7_0 ?_
  obtain ⟨r8_1, h8_2, h⟩ := bd_inv h
  have h_ := some_inj h
  subst h_
  exact kRf [.a ⟨.tup [], [(TMember.ob_00000000011101 r8_1), [.ptr 1000 0]]⟩] (.c (Asks.of (C := Meets Try.prog) (raft_member_all_3.meets fu r6_2 _ h8_2)) .n)
 ·refine kCe b7_0 ?_
  refine kSk ?_
  have h_ := some_inj h
  subst h_
  exact kFn
def bd46 : Code := (Try.f46.body).getD .skip
def raft_member_waits.O : Nat → Nat := fun t => bif ([7] : List Nat).any (Nat.beq t) then 1 else 0
def raft_member_waits (fu : Nat) (o0_v : TMember) : Option TMember :=
 br (decide ((w64 (o0_v.Raft.Clock + 1)) ≥ o0_v.Raft.Wait))
  (bd (raft_member_stands fu (TMember.mk (TRaft.mk o0_v.Raft.Me o0_v.Raft.Nodes o0_v.Raft.Wait o0_v.Raft.Term o0_v.Raft.Vote o0_v.Raft.Log o0_v.Raft.Commit o0_v.Raft.Role o0_v.Raft.Leader o0_v.Raft.Votes o0_v.Raft.Next o0_v.Raft.Match (w64 (o0_v.Raft.Clock + 1))) o0_v.out)) fun r4_1 =>
  some r4_1)
  (some (TMember.mk (TRaft.mk o0_v.Raft.Me o0_v.Raft.Nodes o0_v.Raft.Wait o0_v.Raft.Term o0_v.Raft.Vote o0_v.Raft.Log o0_v.Raft.Commit o0_v.Raft.Role o0_v.Raft.Leader o0_v.Raft.Votes o0_v.Raft.Next o0_v.Raft.Match (w64 (o0_v.Raft.Clock + 1))) o0_v.out))
theorem raft_member_waits.meets (fu : Nat) (o0_v : TMember) (z0 : TMember) (h : raft_member_waits fu o0_v = some z0) : Meets Try.prog ⟨46, [.ptr 1000 0], [(TMember.ob_00000100011101 o0_v)]⟩ ⟨.tup [], [(TMember.ob_00000000011101 z0)]⟩ := by
 refine kMt hmix raft_member_waits.O Try.f46 bd46 3 ?_
 unfold raft_member_waits at h
 refine kRs 1 [Ob 1000 (TMember.ob_00000100011101 (TMember.mk (TRaft.mk o0_v.Raft.Me o0_v.Raft.Nodes o0_v.Raft.Wait o0_v.Raft.Term o0_v.Raft.Vote o0_v.Raft.Log o0_v.Raft.Commit o0_v.Raft.Role o0_v.Raft.Leader o0_v.Raft.Votes o0_v.Raft.Next o0_v.Raft.Match (w64 (o0_v.Raft.Clock + 1))) o0_v.out))] [] .n ?_
 refine kRs 3 [Tm 21 (bv (decide ((w64 (o0_v.Raft.Clock + 1)) ≥ o0_v.Raft.Wait)))] [] (.c rT .n) ?_
 rcases br_inv h with ⟨b3_0, h⟩ | ⟨b3_0, h⟩
 ·refine kCt b3_0 ?_
  obtain ⟨r4_1, h4_2, h⟩ := bd_inv h
  have h_ := some_inj h
  subst h_
  exact kRf [.a ⟨.tup [], [(TMember.ob_00000000011101 r4_1)]⟩] (.c (Asks.of (C := Meets Try.prog) (raft_member_stands.meets fu (TMember.mk (TRaft.mk o0_v.Raft.Me o0_v.Raft.Nodes o0_v.Raft.Wait o0_v.Raft.Term o0_v.Raft.Vote o0_v.Raft.Log o0_v.Raft.Commit o0_v.Raft.Role o0_v.Raft.Leader o0_v.Raft.Votes o0_v.Raft.Next o0_v.Raft.Match (w64 (o0_v.Raft.Clock + 1))) o0_v.out) _ h4_2)) .n)
 ·refine kCe b3_0 ?_
  refine kSo 1000 5 0 [Ob 1000 (TMember.ob_00000000011101 (TMember.mk (TRaft.mk o0_v.Raft.Me o0_v.Raft.Nodes o0_v.Raft.Wait o0_v.Raft.Term o0_v.Raft.Vote o0_v.Raft.Log o0_v.Raft.Commit o0_v.Raft.Role o0_v.Raft.Leader o0_v.Raft.Votes o0_v.Raft.Next o0_v.Raft.Match (w64 (o0_v.Raft.Clock + 1))) o0_v.out))] ?_
  refine kSk ?_
  have h_ := some_inj h
  subst h_
  exact kFn
def bd22 : Code := (Try.f22.body).getD .skip
def raft_Tick.O : Nat → Nat := fun t => bif ([1, 2, 4, 5, 10, 13, 14] : List Nat).any (Nat.beq t) then 1 else 0
def raft_Tick (fu : Nat) (r_v : TRaft) : Option (TRaft × List TMsg) :=
 bd (raft_May fu r_v) fun r2_1 =>
 br (!r2_1)
  (bd (raft_twin fu r_v) fun r4_1 =>
  some (r4_1, []))
  (bd (raft_twin fu r_v) fun r5_1 =>
  br (r5_1.Role == 2)
   (bd (raft_member_told fu (TMember.mk r5_1 [])) fun r10_1 =>
   some (r10_1.Raft, r10_1.out))
   (bd (raft_member_waits fu (TMember.mk r5_1 [])) fun r12_1 =>
   some (r12_1.Raft, r12_1.out)))
theorem raft_Tick.meets (fu : Nat) (r_v : TRaft) (z0 : TRaft) (z1 : List TMsg) (h : raft_Tick fu r_v = some (z0, z1)) : Meets Try.prog ⟨22, [.data (TRaft.ag r_v)], []⟩ ⟨.tup [.data (TRaft.ag z0), sS 24 TMsg.en z1], []⟩ := by
 refine kMt hmix raft_Tick.O Try.f22 bd22 1 ?_
 unfold raft_Tick at h
 refine kRs 0 [Tm 1 (.ptr 1 0), Tm 2 (.ptr 2 0), Ob 1 (TRaft.ob r_v), Ob 2 (TRaft.ob_000001000111 (TRaft.mk 0 0 0 0 0 [] 0 0 0 [] [] [] 0))] [] .n ?_
 refine kSq ?_
 obtain ⟨r2_1, h2_2, h⟩ := bd_inv h
 refine kRs 15 [Tm 8 (bv (!r2_1))] [.a ⟨bv r2_1, []⟩] (.c (Asks.of (C := Meets Try.prog) (raft_May.meets fu r_v _ h2_2)) .n) ?_
 rcases br_inv h with ⟨b3_0, h⟩ | ⟨b3_0, h⟩
 ·refine kCt b3_0 ?_
  obtain ⟨r4_1, h4_2, h⟩ := bd_inv h
  refine kRs 4 [Tm 3 (.data (.slc false (some true) 24 (List.map TMsg.en []))), Ob 2 (TRaft.ob_000001000111 r4_1)] [.a ⟨.data (TRaft.ag_000001000111 r4_1), []⟩] (.c (Asks.of (C := Meets Try.prog) (raft_twin.meets fu r_v _ h4_2)) .n) ?_
  refine kWd 6 [Tm 3 (.data (.slc false none 24 (List.map TMsg.en [])))] ?_
  refine kRt ?_
  have h_0 := some_inj h
  obtain ⟨g_1, h_1⟩ := Prod.mk.inj h_0
  subst g_1
  subst h_1
  exact kFr
 ·refine kCe b3_0 ?_
  refine kSk ?_
  refine kCd (cR (cR bd22)) [] ?_
  obtain ⟨r5_1, h5_2, h⟩ := bd_inv h
  refine kRs 20 [Tm 4 (.ptr 14 0), Ob 14 (TMember.ob_00000100011101 (TMember.mk r5_1 []))] [.a ⟨.data (TRaft.ag_000001000111 r5_1), []⟩] (.c (Asks.of (C := Meets Try.prog) (raft_twin.meets fu r_v _ h5_2)) .n) ?_
  refine kRs 15 [Tm 5 (.fn (.func 46) [.ptr 14 0] [])] [] .n ?_
  refine kSq ?_
  refine kRs 31 [Tm 22 (bv (r5_1.Role == 2))] [] .n ?_
  rcases br_inv h with ⟨b8_0, h⟩ | ⟨b8_0, h⟩
  ·refine kCt b8_0 ?_
   refine kRc 60 [Tm 5 (.fn (.func 47) [.ptr 14 0] [])] [] .n (cR (cR (cR (cR (cR bd22))))) [] ?_
   obtain ⟨r10_1, h10_2, h⟩ := bd_inv h
   refine kRs 26 [Ob 14 (TMember.ob_00000000011101 r10_1)] [.a ⟨.tup [], [(TMember.ob_00000000011101 r10_1)]⟩] (.c (Asks.of (C := Meets Try.prog) (raft_member_told.meets fu (TMember.mk r5_1 []) _ h10_2)) .n) ?_
   refine kSo 14 10 14 [Ob 14 (TMember.ob_00000000010101 r10_1)] ?_
   refine kSo 14 11 14 [Ob 14 (TMember.ob_00000000010001 r10_1)] ?_
   refine kSo 14 13 14 [Ob 14 (TMember.ob_0000000001 r10_1)] ?_
   refine kSo 14 9 14 [Ob 14 (TMember.ob r10_1)] ?_
   refine kRs 4 [Tm 3 (sS 24 TMsg.en r10_1.out), Ob 2 (TRaft.ob r10_1.Raft)] [] (.c rT .n) ?_
   refine kRt ?_
   have h_0 := some_inj h
   obtain ⟨g_1, h_1⟩ := Prod.mk.inj h_0
   subst g_1
   subst h_1
   exact kFr
  ·refine kCe b8_0 ?_
   refine kSk ?_
   refine kCd (cR (cR (cR (cR (cR bd22))))) [] ?_
   obtain ⟨r12_1, h12_2, h⟩ := bd_inv h
   refine kRs 52 [Ob 14 (TMember.ob_00000000011101 r12_1)] [.a ⟨.tup [], [(TMember.ob_00000000011101 r12_1)]⟩] (.c (Asks.of (C := Meets Try.prog) (raft_member_waits.meets fu (TMember.mk r5_1 []) _ h12_2)) .n) ?_
   refine kSo 14 10 14 [Ob 14 (TMember.ob_00000000010101 r12_1)] ?_
   refine kSo 14 11 14 [Ob 14 (TMember.ob_00000000010001 r12_1)] ?_
   refine kSo 14 13 14 [Ob 14 (TMember.ob_0000000001 r12_1)] ?_
   refine kSo 14 9 14 [Ob 14 (TMember.ob r12_1)] ?_
   refine kRs 4 [Tm 3 (sS 24 TMsg.en r12_1.out), Ob 2 (TRaft.ob r12_1.Raft)] [] (.c rT .n) ?_
   refine kRt ?_
   have h_0 := some_inj h
   obtain ⟨g_1, h_1⟩ := Prod.mk.inj h_0
   subst g_1
   subst h_1
   exact kFr
def bd23 : Code := (Try.f23.body).getD .skip
def raft_Propose.O : Nat → Nat := fun t => bif ([2, 3, 4, 6, 7, 10, 11] : List Nat).any (Nat.beq t) then 1 else 0
def raft_Propose (fu : Nat) (r_v : TRaft) (e_v : TEntry) : Option (TRaft × List TMsg × Bool) :=
 bd (raft_twin fu r_v) fun r2_1 =>
 bd (raft_May fu r_v) fun r3_1 =>
 br (!r3_1)
  (some (r2_1, [], false))
  (bd (raft_member_proposes fu e_v (TMember.mk r2_1 [])) fun (r3_4, r3_5) =>
  br (!r3_4)
   (some (r3_5.Raft, [], false))
   (some (r3_5.Raft, r3_5.out, true)))
theorem raft_Propose.meets (fu : Nat) (r_v : TRaft) (e_v : TEntry) (z0 : TRaft) (z1 : List TMsg) (z2 : Bool) (h : raft_Propose fu r_v e_v = some (z0, z1, z2)) : Meets Try.prog ⟨23, [.data (TRaft.ag r_v), .data (TEntry.ag e_v)], []⟩ ⟨.tup [.data (TRaft.ag z0), sS 24 TMsg.en z1, bv z2], []⟩ := by
 refine kMt hmix raft_Propose.O Try.f23 bd23 3 ?_
 unfold raft_Propose at h
 refine kRs 0 [Tm 2 (.ptr 2 0), Tm 3 (.ptr 3 0), Tm 4 (.ptr 4 0), Ob 2 (TRaft.ob r_v), Ob 3 (TEntry.ob e_v), Ob 4 (TRaft.ob_000001000111 (TRaft.mk 0 0 0 0 0 [] 0 0 0 [] [] [] 0))] [] .n ?_
 obtain ⟨r2_1, h2_2, h⟩ := bd_inv h
 refine kRs 63 [Tm 7 (.ptr 11 0), Ob 11 (TMember.ob_00000100011101 (TMember.mk r2_1 []))] [.a ⟨.data (TRaft.ag_000001000111 r2_1), []⟩] (.c (Asks.of (C := Meets Try.prog) (raft_twin.meets fu r_v _ h2_2)) .n) ?_
 refine kSq ?_
 obtain ⟨r3_1, h3_2, h⟩ := bd_inv h
 rcases br_inv h with ⟨b3_3, h⟩ | ⟨b3_3, h⟩
 ·refine kRs 147 [Tm 20 (bv true)] (.a ⟨bv r3_1, []⟩ :: (rp 5 (.b true) [])) (.c (Asks.of (C := Meets Try.prog) (raft_May.meets fu r_v _ h3_2)) (.r 5 b3_3 .n)) ?_
  refine kCt rT ?_
  refine kRs 8 [Tm 5 (.data (.slc false (some true) 24 (List.map TMsg.en []))), Tm 6 (bv false), Ob 4 (TRaft.ob r2_1)] [] .n ?_
  refine kWd 14 [Tm 5 (.data (.slc false none 24 (List.map TMsg.en [])))] ?_
  refine kRt ?_
  have h_0 := some_inj h
  obtain ⟨g_1, h_1⟩ := Prod.mk.inj h_0
  obtain ⟨g_2, h_2⟩ := Prod.mk.inj h_1
  subst g_1
  subst g_2
  subst h_2
  exact kFr
 ·obtain ⟨⟨r3_4, r3_5⟩, h3_6, h⟩ := bd_inv h
  refine kRs 145 [Tm 20 (bv (!r3_4)), Ob 11 (TMember.ob_00000000011101 r3_5)] [.a ⟨bv r3_1, []⟩, .b false, .b false, .b false, .a ⟨bv r3_4, [(TMember.ob_00000000011101 r3_5)]⟩, .b false, .b false] (.c (Asks.of (C := Meets Try.prog) (raft_May.meets fu r_v _ h3_2)) (.r 3 b3_3 (.c (Asks.of (C := Meets Try.prog) (raft_member_proposes.meets fu e_v (TMember.mk r2_1 []) _ _ h3_6)) (.r 2 b3_3 .n)))) ?_
  rcases br_inv h with ⟨b5_0, h⟩ | ⟨b5_0, h⟩
  ·refine kCt b5_0 ?_
   refine kRs 8 [Tm 5 (.data (.slc false (some true) 24 (List.map TMsg.en []))), Tm 6 (bv false), Ob 4 (TRaft.ob r3_5.Raft)] [] .n ?_
   refine kWd 14 [Tm 5 (.data (.slc false none 24 (List.map TMsg.en [])))] ?_
   refine kRt ?_
   have h_0 := some_inj h
   obtain ⟨g_1, h_1⟩ := Prod.mk.inj h_0
   obtain ⟨g_2, h_2⟩ := Prod.mk.inj h_1
   subst g_1
   subst g_2
   subst h_2
   exact kFr
  ·refine kCe b5_0 ?_
   refine kSk ?_
   refine kCd (cR (cR (cR bd23))) [] ?_
   refine kSo 11 10 28 [Ob 11 (TMember.ob_00000000010101 r3_5)] ?_
   refine kSo 11 11 14 [Ob 11 (TMember.ob_00000000010001 r3_5)] ?_
   refine kSo 11 13 14 [Ob 11 (TMember.ob_0000000001 r3_5)] ?_
   refine kSo 11 9 14 [Ob 11 (TMember.ob r3_5)] ?_
   refine kRs 4 [Tm 5 (sS 24 TMsg.en r3_5.out), Tm 6 (bv true), Ob 4 (TRaft.ob r3_5.Raft)] [] (.c rT .n) ?_
   refine kRt ?_
   have h_0 := some_inj h
   obtain ⟨g_1, h_1⟩ := Prod.mk.inj h_0
   obtain ⟨g_2, h_2⟩ := Prod.mk.inj h_1
   subst g_1
   subst g_2
   subst h_2
   exact kFr
def bd93 : Code := (Try.f93.body).getD .skip
def slices_Equal_api_Read.O : Nat → Nat := fun t => bif ([4, 5] : List Nat).any (Nat.beq t) then 1 else 0
def slices_Equal_api_Read.lp6 (fu : Nat) (l6_0 : List TRead) (l6_1 : List TRead) (l6_2 : Int) : Nat → Int → Option (Unit ⊕ Unit)
  | 0, _ => none
  | n_ + 1, l6_3 =>
  br (decide (l6_3 < l6_2))
   (ix l6_0 l6_3 fun x10_1 =>
   ix l6_1 l6_3 fun x10_4 =>
   br (!((x10_1.Key.toList == x10_4.Key.toList) && ((x10_1.Version == x10_4.Version) && ((x10_1.Val.toList == x10_4.Val.toList) && ((x10_1.There == x10_4.There) && true)))))
    (some (.inr ()))
    (slices_Equal_api_Read.lp6 fu l6_0 l6_1 l6_2 n_ (w64 (l6_3 + 1))))
   (some (.inl ()))
def slices_Equal_api_Read.lp6_post (l6_0 : List TRead) (l6_1 : List TRead) (l6_2 : Int) (r_ : (Unit ⊕ Unit)) : Wy → St → Prop := fun e τ => match r_ with
  | .inl _ => e = .exit 0 ∧ τ = ofL []
  | .inr _ => e = .ret ∧ τ = ofL [Tm 4 (bv false)]
theorem slices_Equal_api_Read.lp6_ok (fu : Nat) (l6_0 : List TRead) (l6_1 : List TRead) (l6_2 : Int) : ∀ (n_ : Nat) (l6_3 : Int) (r_ : (Unit ⊕ Unit)), slices_Equal_api_Read.lp6 fu l6_0 l6_1 l6_2 n_ l6_3 = some r_ → WK Try.prog slices_Equal_api_Read.O (Ck Try.prog) (cB (cR (cL (cR (cR bd93))))) [] (ofL [Tm 0 (sS 4 TRead.en l6_0), Tm 1 (sS 4 TRead.en l6_1), Tm 12 (iv l6_2), Tm 13 (iv l6_3)]) (slices_Equal_api_Read.lp6_post l6_0 l6_1 l6_2 r_) := by
 intro n_
 induction n_ with
 | zero => intro l6_3 r_ h; exact no_none h
 | succ n_ ih =>
  intro l6_3 r_ h
  refine kLp ?_
  refine kRs 15 [Tm 14 (bv (decide (l6_3 < l6_2)))] [] .n ?_
  refine kSq ?_
  rcases br_inv h with ⟨b8_0, h⟩ | ⟨b8_0, h⟩
  ·refine kCt b8_0 ?_
   refine kSk ?_
   refine kCd (cR (cR (cB (cB (cR (cL (cR (cR bd93)))))))) [.lp (cB (cR (cL (cR (cR bd93)))))] ?_
   refine kSq ?_
   refine kBk 1 ?_
   refine kRs 30 [Tm 5 (iv l6_3)] [] .n ?_
   obtain ⟨x10_1, a10_2, e10_3, h⟩ := ix_inv h
   obtain ⟨x10_4, a10_5, e10_6, h⟩ := ix_inv h
   refine kRs 30 [Tm 24 (bv (!((x10_1.Key.toList == x10_4.Key.toList) && ((x10_1.Version == x10_4.Version) && ((x10_1.Val.toList == x10_4.Val.toList) && ((x10_1.There == x10_4.There) && true))))))] [.c (TRead.en x10_1), .c (TRead.en x10_4)] (.c (c_ix (e := TRead.en) a10_2 e10_3) (.c (c_el (e := TRead.en) e10_3) (.c (c_ix (e := TRead.en) a10_5 e10_6) (.c (c_el (e := TRead.en) e10_6) (.c rT .n))))) ?_
   rcases br_inv h with ⟨b11_0, h⟩ | ⟨b11_0, h⟩
   ·refine kCt b11_0 ?_
    refine kRs 0 [Tm 4 (bv false)] [] .n ?_
    cases some_inj h
    refine kWo ?_
    refine kRt ?_
    exact kOut
   ·refine kCe b11_0 ?_
    refine kSk ?_
    refine kCd (cR (cR (cR (cB (cB (cR (cL (cR (cR bd93))))))))) [.lp (cB (cR (cL (cR (cR bd93)))))] ?_
    refine kRc 14 [Tm 13 (iv (w64 (l6_3 + 1)))] [] .n (cB (cR (cL (cR (cR bd93))))) [] ?_
    exact kWk (ih (w64 (l6_3 + 1)) _ h)
  ·refine kCe b8_0 ?_
   cases some_inj h
   refine kWo ?_
   refine kXt 0 ?_
   exact kOut
def slices_Equal_api_Read (fu : Nat) (s1 : List TRead) (s2 : List TRead) : Option Bool :=
 br ((s1.length : Int) != (s2.length : Int))
  (some false)
  (bd (slices_Equal_api_Read.lp6 fu s1 s2 (s1.length : Int) fu 0) fun o_ => (match o_ with
  | .inl _ =>
   some true
  | .inr _ =>
   some false))
theorem slices_Equal_api_Read.meets (fu : Nat) (s1 : List TRead) (s2 : List TRead) (z0 : Bool) (h : slices_Equal_api_Read fu s1 s2 = some z0) : Meets Try.prog ⟨93, [sS 4 TRead.en s1, sS 4 TRead.en s2], []⟩ ⟨bv z0, []⟩ := by
 refine kMt hmix slices_Equal_api_Read.O Try.f93 bd93 3 ?_
 unfold slices_Equal_api_Read at h
 refine kRs 3 [] [] .n ?_
 refine kSq ?_
 refine kRs 3 [Tm 10 (bv ((s1.length : Int) != (s2.length : Int)))] [.s (.t 7) [iv (s1.length : Int)], .s (.t 9) [iv (s2.length : Int)]] (.c (c_len (e := TRead.en) (l := s1)) (.c (c_len (e := TRead.en) (l := s2)) .n)) ?_
 rcases br_inv h with ⟨b3_0, h⟩ | ⟨b3_0, h⟩
 ·refine kCt b3_0 ?_
  refine kRs 0 [Tm 4 (bv false)] [] .n ?_
  refine kRt ?_
  have h_ := some_inj h
  subst h_
  exact kFr
 ·refine kCe b3_0 ?_
  refine kSk ?_
  refine kCd (cR (cR bd93)) [] ?_
  refine kSq ?_
  refine kRs 6 [Tm 12 (iv (s1.length : Int)), Tm 13 (iv 0)] [.s (.t 12) [iv (s1.length : Int)]] (.c (c_len (e := TRead.en) (l := s1)) .n) ?_
  refine kBk 0 ?_
  obtain ⟨o14, ho14, h⟩ := bd_inv h
  refine kUs (slices_Equal_api_Read.lp6_ok fu s1 s2 (s1.length : Int) _ 0 _ ho14) ?_
  intro e_ τ_ hp_
  rcases o14 with o14 | o14
  ·obtain ⟨⟩ := o14
   obtain ⟨rfl, rfl⟩ := hp_
   refine kCd (cR (cR (cR bd93))) [] ?_
   refine kRs 0 [Tm 4 (bv true)] [] .n ?_
   refine kRt ?_
   have h_ := some_inj h
   subst h_
   exact kFr
  ·obtain ⟨⟩ := o14
   obtain ⟨rfl, rfl⟩ := hp_
   have h_ := some_inj h
   subst h_
   exact kFr
def bd94 : Code := (Try.f94.body).getD .skip
def slices_Equal_api_Write.O : Nat → Nat := fun t => bif ([4, 5] : List Nat).any (Nat.beq t) then 1 else 0
def slices_Equal_api_Write.lp6 (fu : Nat) (l6_0 : List TWrite) (l6_1 : List TWrite) (l6_2 : Int) : Nat → Int → Option (Unit ⊕ Unit)
  | 0, _ => none
  | n_ + 1, l6_3 =>
  br (decide (l6_3 < l6_2))
   (ix l6_0 l6_3 fun x10_1 =>
   ix l6_1 l6_3 fun x10_4 =>
   br (!((x10_1.Key.toList == x10_4.Key.toList) && ((x10_1.Val.toList == x10_4.Val.toList) && ((x10_1.Gone == x10_4.Gone) && true))))
    (some (.inr ()))
    (slices_Equal_api_Write.lp6 fu l6_0 l6_1 l6_2 n_ (w64 (l6_3 + 1))))
   (some (.inl ()))
def slices_Equal_api_Write.lp6_post (l6_0 : List TWrite) (l6_1 : List TWrite) (l6_2 : Int) (r_ : (Unit ⊕ Unit)) : Wy → St → Prop := fun e τ => match r_ with
  | .inl _ => e = .exit 0 ∧ τ = ofL []
  | .inr _ => e = .ret ∧ τ = ofL [Tm 4 (bv false)]
theorem slices_Equal_api_Write.lp6_ok (fu : Nat) (l6_0 : List TWrite) (l6_1 : List TWrite) (l6_2 : Int) : ∀ (n_ : Nat) (l6_3 : Int) (r_ : (Unit ⊕ Unit)), slices_Equal_api_Write.lp6 fu l6_0 l6_1 l6_2 n_ l6_3 = some r_ → WK Try.prog slices_Equal_api_Write.O (Ck Try.prog) (cB (cR (cL (cR (cR bd94))))) [] (ofL [Tm 0 (sS 3 TWrite.en l6_0), Tm 1 (sS 3 TWrite.en l6_1), Tm 12 (iv l6_2), Tm 13 (iv l6_3)]) (slices_Equal_api_Write.lp6_post l6_0 l6_1 l6_2 r_) := by
 intro n_
 induction n_ with
 | zero => intro l6_3 r_ h; exact no_none h
 | succ n_ ih =>
  intro l6_3 r_ h
  refine kLp ?_
  refine kRs 15 [Tm 14 (bv (decide (l6_3 < l6_2)))] [] .n ?_
  refine kSq ?_
  rcases br_inv h with ⟨b8_0, h⟩ | ⟨b8_0, h⟩
  ·refine kCt b8_0 ?_
   refine kSk ?_
   refine kCd (cR (cR (cB (cB (cR (cL (cR (cR bd94)))))))) [.lp (cB (cR (cL (cR (cR bd94)))))] ?_
   refine kSq ?_
   refine kBk 1 ?_
   refine kRs 30 [Tm 5 (iv l6_3)] [] .n ?_
   obtain ⟨x10_1, a10_2, e10_3, h⟩ := ix_inv h
   obtain ⟨x10_4, a10_5, e10_6, h⟩ := ix_inv h
   refine kRs 30 [Tm 24 (bv (!((x10_1.Key.toList == x10_4.Key.toList) && ((x10_1.Val.toList == x10_4.Val.toList) && ((x10_1.Gone == x10_4.Gone) && true)))))] [.c (TWrite.en x10_1), .c (TWrite.en x10_4)] (.c (c_ix (e := TWrite.en) a10_2 e10_3) (.c (c_el (e := TWrite.en) e10_3) (.c (c_ix (e := TWrite.en) a10_5 e10_6) (.c (c_el (e := TWrite.en) e10_6) (.c rT .n))))) ?_
   rcases br_inv h with ⟨b11_0, h⟩ | ⟨b11_0, h⟩
   ·refine kCt b11_0 ?_
    refine kRs 0 [Tm 4 (bv false)] [] .n ?_
    cases some_inj h
    refine kWo ?_
    refine kRt ?_
    exact kOut
   ·refine kCe b11_0 ?_
    refine kSk ?_
    refine kCd (cR (cR (cR (cB (cB (cR (cL (cR (cR bd94))))))))) [.lp (cB (cR (cL (cR (cR bd94)))))] ?_
    refine kRc 14 [Tm 13 (iv (w64 (l6_3 + 1)))] [] .n (cB (cR (cL (cR (cR bd94))))) [] ?_
    exact kWk (ih (w64 (l6_3 + 1)) _ h)
  ·refine kCe b8_0 ?_
   cases some_inj h
   refine kWo ?_
   refine kXt 0 ?_
   exact kOut
def slices_Equal_api_Write (fu : Nat) (s1 : List TWrite) (s2 : List TWrite) : Option Bool :=
 br ((s1.length : Int) != (s2.length : Int))
  (some false)
  (bd (slices_Equal_api_Write.lp6 fu s1 s2 (s1.length : Int) fu 0) fun o_ => (match o_ with
  | .inl _ =>
   some true
  | .inr _ =>
   some false))
theorem slices_Equal_api_Write.meets (fu : Nat) (s1 : List TWrite) (s2 : List TWrite) (z0 : Bool) (h : slices_Equal_api_Write fu s1 s2 = some z0) : Meets Try.prog ⟨94, [sS 3 TWrite.en s1, sS 3 TWrite.en s2], []⟩ ⟨bv z0, []⟩ := by
 refine kMt hmix slices_Equal_api_Write.O Try.f94 bd94 3 ?_
 unfold slices_Equal_api_Write at h
 refine kRs 3 [] [] .n ?_
 refine kSq ?_
 refine kRs 3 [Tm 10 (bv ((s1.length : Int) != (s2.length : Int)))] [.s (.t 7) [iv (s1.length : Int)], .s (.t 9) [iv (s2.length : Int)]] (.c (c_len (e := TWrite.en) (l := s1)) (.c (c_len (e := TWrite.en) (l := s2)) .n)) ?_
 rcases br_inv h with ⟨b3_0, h⟩ | ⟨b3_0, h⟩
 ·refine kCt b3_0 ?_
  refine kRs 0 [Tm 4 (bv false)] [] .n ?_
  refine kRt ?_
  have h_ := some_inj h
  subst h_
  exact kFr
 ·refine kCe b3_0 ?_
  refine kSk ?_
  refine kCd (cR (cR bd94)) [] ?_
  refine kSq ?_
  refine kRs 6 [Tm 12 (iv (s1.length : Int)), Tm 13 (iv 0)] [.s (.t 12) [iv (s1.length : Int)]] (.c (c_len (e := TWrite.en) (l := s1)) .n) ?_
  refine kBk 0 ?_
  obtain ⟨o14, ho14, h⟩ := bd_inv h
  refine kUs (slices_Equal_api_Write.lp6_ok fu s1 s2 (s1.length : Int) _ 0 _ ho14) ?_
  intro e_ τ_ hp_
  rcases o14 with o14 | o14
  ·obtain ⟨⟩ := o14
   obtain ⟨rfl, rfl⟩ := hp_
   refine kCd (cR (cR (cR bd94))) [] ?_
   refine kRs 0 [Tm 4 (bv true)] [] .n ?_
   refine kRt ?_
   have h_ := some_inj h
   subst h_
   exact kFr
  ·obtain ⟨⟩ := o14
   obtain ⟨rfl, rfl⟩ := hp_
   have h_ := some_inj h
   subst h_
   exact kFr
def bd70 : Code := (Try.f70.body).getD .skip
def ulog_same.O : Nat → Nat := fun t => bif ([2, 3, 4] : List Nat).any (Nat.beq t) then 1 else 0
def ulog_same (fu : Nat) (a : TEntry) (b : TEntry) : Option Bool :=
 br (a.Term == b.Term)
  (br (a.Seal == b.Seal)
   (br (a.T.Session == b.T.Session)
    (br (a.T.Seq == b.T.Seq)
     (bd (slices_Equal_api_Read fu a.T.Reads b.T.Reads) fun r2_5 =>
     br r2_5
      (bd (slices_Equal_api_Write fu a.T.Writes b.T.Writes) fun r2_8 =>
      some r2_8)
      (some false))
     (some false))
    (some false))
   (some false))
  (some false)
theorem ulog_same.meets (fu : Nat) (a : TEntry) (b : TEntry) (z0 : Bool) (h : ulog_same fu a b = some z0) : Meets Try.prog ⟨70, [.data (TEntry.ag a), .data (TEntry.ag b)], []⟩ ⟨bv z0, []⟩ := by
 refine kMt hmix ulog_same.O Try.f70 bd70 3 ?_
 unfold ulog_same at h
 refine kRs 0 [Tm 2 (.ptr 2 0), Tm 3 (.ptr 3 0), Ob 2 (TEntry.ob a), Ob 3 (TEntry.ob b)] [] .n ?_
 rcases br_inv h with ⟨b2_1, h⟩ | ⟨b2_1, h⟩
 ·rcases br_inv h with ⟨b2_2, h⟩ | ⟨b2_2, h⟩
  ·rcases br_inv h with ⟨b2_3, h⟩ | ⟨b2_3, h⟩
   ·rcases br_inv h with ⟨b2_4, h⟩ | ⟨b2_4, h⟩
    ·obtain ⟨r2_5, h2_6, h⟩ := bd_inv h
     rcases br_inv h with ⟨b2_7, h⟩ | ⟨b2_7, h⟩
     ·obtain ⟨r2_8, h2_9, h⟩ := bd_inv h
      refine kRs 0 [Tm 4 (bv r2_8)] (rp 29 (.b true) (.a ⟨bv r2_5, []⟩ :: (rp 8 (.b true) [.a ⟨bv r2_8, []⟩, .b true]))) (.r 6 b2_1 (.r 8 b2_2 (.r 8 b2_3 (.r 7 b2_4 (.c (Asks.of (C := Meets Try.prog) (slices_Equal_api_Read.meets fu a.T.Reads b.T.Reads _ h2_6)) (.c b2_4 (.r 7 b2_7 (.c (Asks.of (C := Meets Try.prog) (slices_Equal_api_Write.meets fu a.T.Writes b.T.Writes _ h2_9)) (.c b2_7 .n))))))))) ?_
      refine kRt ?_
      have h_ := some_inj h
      subst h_
      exact kFr
     ·refine kRs 0 [Tm 4 (bv false)] (rp 29 (.b true) (.a ⟨bv r2_5, []⟩ :: (.b true :: (rp 8 (.b false) [])))) (.r 6 b2_1 (.r 8 b2_2 (.r 8 b2_3 (.r 7 b2_4 (.c (Asks.of (C := Meets Try.prog) (slices_Equal_api_Read.meets fu a.T.Reads b.T.Reads _ h2_6)) (.c b2_4 (.r 8 b2_7 .n))))))) ?_
      refine kRt ?_
      have h_ := some_inj h
      subst h_
      exact kFr
    ·refine kRs 0 [Tm 4 (bv false)] (rp 22 (.b true) (rp 16 (.b false) [])) (.r 6 b2_1 (.r 8 b2_2 (.r 8 b2_3 (.r 8 b2_4 (.r 8 rF .n))))) ?_
     refine kRt ?_
     have h_ := some_inj h
     subst h_
     exact kFr
   ·refine kRs 0 [Tm 4 (bv false)] (rp 14 (.b true) (rp 24 (.b false) [])) (.r 6 b2_1 (.r 8 b2_2 (.r 8 b2_3 (.r 16 rF .n)))) ?_
    refine kRt ?_
    have h_ := some_inj h
    subst h_
    exact kFr
  ·refine kRs 0 [Tm 4 (bv false)] (rp 6 (.b true) (rp 32 (.b false) [])) (.r 6 b2_1 (.r 8 b2_2 (.r 24 rF .n))) ?_
   refine kRt ?_
   have h_ := some_inj h
   subst h_
   exact kFr
 ·refine kRs 0 [Tm 4 (bv false)] (rp 38 (.b false) []) (.r 6 b2_1 (.r 32 rF .n)) ?_
  refine kRt ?_
  have h_ := some_inj h
  subst h_
  exact kFr
def bd69 : Code := (Try.f69.body).getD .skip
def slices_EqualFunc_api_Entry.O : Nat → Nat := fun t => bif ([6, 7, 8, 9] : List Nat).any (Nat.beq t) then 1 else 0
def slices_EqualFunc_api_Entry.lp6 (fu : Nat) (l6_0 : List TEntry) (l6_1 : List TEntry) (l6_2 : Int) : Nat → Int → Option (Unit ⊕ Unit)
  | 0, _ => none
  | n_ + 1, l6_3 =>
  br (decide (l6_3 < l6_2))
   (ix l6_1 l6_3 fun x9_1 =>
   ix l6_0 l6_3 fun x10_1 =>
   bd (ulog_same fu x9_1 x10_1) fun r11_1 =>
   br (!r11_1)
    (some (.inr ()))
    (slices_EqualFunc_api_Entry.lp6 fu l6_0 l6_1 l6_2 n_ (w64 (l6_3 + 1))))
   (some (.inl ()))
def slices_EqualFunc_api_Entry.lp6_post (l6_0 : List TEntry) (l6_1 : List TEntry) (l6_2 : Int) (r_ : (Unit ⊕ Unit)) : Wy → St → Prop := fun e τ => match r_ with
  | .inl _ => e = .exit 0 ∧ τ = ofL []
  | .inr _ => e = .ret ∧ τ = ofL [Tm 6 (bv false)]
theorem slices_EqualFunc_api_Entry.lp6_ok (fu : Nat) (l6_0 : List TEntry) (l6_1 : List TEntry) (l6_2 : Int) : ∀ (n_ : Nat) (l6_3 : Int) (r_ : (Unit ⊕ Unit)), slices_EqualFunc_api_Entry.lp6 fu l6_0 l6_1 l6_2 n_ l6_3 = some r_ → WK Try.prog slices_EqualFunc_api_Entry.O (Ck Try.prog) (cB (cR (cL (cR (cR bd69))))) [] (ofL [Tm 1 (sS 6 TEntry.en l6_0), Tm 2 (.fn (.func 70) [] []), Tm 15 (sS 6 TEntry.en l6_1), Tm 16 (iv l6_2), Tm 17 (iv l6_3)]) (slices_EqualFunc_api_Entry.lp6_post l6_0 l6_1 l6_2 r_) := by
 intro n_
 induction n_ with
 | zero => intro l6_3 r_ h; exact no_none h
 | succ n_ ih =>
  intro l6_3 r_ h
  refine kLp ?_
  refine kRs 31 [Tm 18 (bv (decide (l6_3 < l6_2)))] [] .n ?_
  refine kSq ?_
  rcases br_inv h with ⟨b8_0, h⟩ | ⟨b8_0, h⟩
  ·refine kCt b8_0 ?_
   refine kSk ?_
   refine kCd (cR (cR (cB (cB (cR (cL (cR (cR bd69)))))))) [.lp (cB (cR (cL (cR (cR bd69)))))] ?_
   refine kSq ?_
   refine kBk 1 ?_
   obtain ⟨x9_1, a9_2, e9_3, h⟩ := ix_inv h
   refine kRs 62 [Tm 7 (iv l6_3), Tm 8 (.ptr 8 0), Ob 8 (TEntry.ob x9_1)] [.c (TEntry.en x9_1)] (.c (c_ix (e := TEntry.en) a9_2 e9_3) (.c (c_el (e := TEntry.en) e9_3) .n)) ?_
   obtain ⟨x10_1, a10_2, e10_3, h⟩ := ix_inv h
   refine kRs 254 [Tm 9 (.ptr 9 0), Ob 9 (TEntry.ob x10_1)] [.c (TEntry.en x10_1)] (.c (c_ix (e := TEntry.en) a10_2 e10_3) (.c (c_el (e := TEntry.en) e10_3) .n)) ?_
   obtain ⟨r11_1, h11_2, h⟩ := bd_inv h
   refine kRs 496 [Tm 30 (bv (!r11_1))] [.a ⟨bv r11_1, []⟩] (.c (Asks.of (C := Meets Try.prog) (ulog_same.meets fu x9_1 x10_1 _ h11_2)) .n) ?_
   rcases br_inv h with ⟨b12_0, h⟩ | ⟨b12_0, h⟩
   ·refine kCt b12_0 ?_
    refine kRs 0 [Tm 6 (bv false)] [] .n ?_
    cases some_inj h
    refine kWo ?_
    refine kRt ?_
    exact kOut
   ·refine kCe b12_0 ?_
    refine kSk ?_
    refine kCd (cR (cR (cR (cB (cB (cR (cL (cR (cR bd69))))))))) [.lp (cB (cR (cL (cR (cR bd69)))))] ?_
    refine kRc 30 [Tm 17 (iv (w64 (l6_3 + 1)))] [] .n (cB (cR (cL (cR (cR bd69))))) [] ?_
    exact kWk (ih (w64 (l6_3 + 1)) _ h)
  ·refine kCe b8_0 ?_
   cases some_inj h
   refine kWo ?_
   refine kXt 0 ?_
   exact kOut
def slices_EqualFunc_api_Entry (fu : Nat) (s1 : List TEntry) (s2 : List TEntry) : Option Bool :=
 br ((s1.length : Int) != (s2.length : Int))
  (some false)
  (bd (slices_EqualFunc_api_Entry.lp6 fu s2 s1 (s1.length : Int) fu 0) fun o_ => (match o_ with
  | .inl _ =>
   some true
  | .inr _ =>
   some false))
theorem slices_EqualFunc_api_Entry.meets (fu : Nat) (s1 : List TEntry) (s2 : List TEntry) (z0 : Bool) (h : slices_EqualFunc_api_Entry fu s1 s2 = some z0) : Meets Try.prog ⟨69, [sS 6 TEntry.en s1, sS 6 TEntry.en s2, .fn (.func 70) [] []], []⟩ ⟨bv z0, []⟩ := by
 refine kMt hmix slices_EqualFunc_api_Entry.O Try.f69 bd69 7 ?_
 unfold slices_EqualFunc_api_Entry at h
 refine kRs 7 [] [] .n ?_
 refine kSq ?_
 refine kRs 7 [Tm 14 (bv ((s1.length : Int) != (s2.length : Int)))] [.s (.t 11) [iv (s1.length : Int)], .s (.t 13) [iv (s2.length : Int)]] (.c (c_len (e := TEntry.en) (l := s1)) (.c (c_len (e := TEntry.en) (l := s2)) .n)) ?_
 rcases br_inv h with ⟨b3_0, h⟩ | ⟨b3_0, h⟩
 ·refine kCt b3_0 ?_
  refine kRs 0 [Tm 6 (bv false)] [] .n ?_
  refine kRt ?_
  have h_ := some_inj h
  subst h_
  exact kFr
 ·refine kCe b3_0 ?_
  refine kSk ?_
  refine kCd (cR (cR bd69)) [] ?_
  refine kSq ?_
  refine kRs 12 [Tm 15 (sS 6 TEntry.en s1), Tm 16 (iv (s1.length : Int)), Tm 17 (iv 0)] [.s (.t 16) [iv (s1.length : Int)]] (.c (c_len (e := TEntry.en) (l := s1)) .n) ?_
  refine kBk 0 ?_
  obtain ⟨o15, ho15, h⟩ := bd_inv h
  refine kUs (slices_EqualFunc_api_Entry.lp6_ok fu s2 s1 (s1.length : Int) _ 0 _ ho15) ?_
  intro e_ τ_ hp_
  rcases o15 with o15 | o15
  ·obtain ⟨⟩ := o15
   obtain ⟨rfl, rfl⟩ := hp_
   refine kCd (cR (cR (cR bd69))) [] ?_
   refine kRs 0 [Tm 6 (bv true)] [] .n ?_
   refine kRt ?_
   have h_ := some_inj h
   subst h_
   exact kFr
  ·obtain ⟨⟩ := o15
   obtain ⟨rfl, rfl⟩ := hp_
   have h_ := some_inj h
   subst h_
   exact kFr
def bd42 : Code := (Try.f42.body).getD .skip
def ulog_Same.O : Nat → Nat := fun t => bif ([4] : List Nat).any (Nat.beq t) then 1 else 0
def ulog_Same (fu : Nat) (a : List TEntry) (b : List TEntry) : Option Bool :=
 bd (slices_EqualFunc_api_Entry fu a b) fun r2_1 =>
 some r2_1
theorem ulog_Same.meets (fu : Nat) (a : List TEntry) (b : List TEntry) (z0 : Bool) (h : ulog_Same fu a b = some z0) : Meets Try.prog ⟨42, [sS 6 TEntry.en a, sS 6 TEntry.en b], []⟩ ⟨bv z0, []⟩ := by
 refine kMt hmix ulog_Same.O Try.f42 bd42 3 ?_
 unfold ulog_Same at h
 refine kRs 3 [] [] .n ?_
 obtain ⟨r2_1, h2_2, h⟩ := bd_inv h
 refine kRs 0 [Tm 4 (bv r2_1)] [.a ⟨bv r2_1, []⟩] (.c (Asks.of (C := Meets Try.prog) (slices_EqualFunc_api_Entry.meets fu a b _ h2_2)) .n) ?_
 refine kRt ?_
 have h_ := some_inj h
 subst h_
 exact kFr
def bd43 : Code := (Try.f43.body).getD .skip
def slices_Equal_bool_bool.O : Nat → Nat := fun t => bif ([4, 5] : List Nat).any (Nat.beq t) then 1 else 0
def slices_Equal_bool_bool.lp6 (fu : Nat) (l6_0 : List Bool) (l6_1 : List Bool) (l6_2 : Int) : Nat → Int → Option (Unit ⊕ Unit)
  | 0, _ => none
  | n_ + 1, l6_3 =>
  br (decide (l6_3 < l6_2))
   (ix l6_0 l6_3 fun x10_1 =>
   ix l6_1 l6_3 fun x10_4 =>
   br (!(x10_1 == x10_4))
    (some (.inr ()))
    (slices_Equal_bool_bool.lp6 fu l6_0 l6_1 l6_2 n_ (w64 (l6_3 + 1))))
   (some (.inl ()))
def slices_Equal_bool_bool.lp6_post (l6_0 : List Bool) (l6_1 : List Bool) (l6_2 : Int) (r_ : (Unit ⊕ Unit)) : Wy → St → Prop := fun e τ => match r_ with
  | .inl _ => e = .exit 0 ∧ τ = ofL []
  | .inr _ => e = .ret ∧ τ = ofL [Tm 4 (bv false)]
theorem slices_Equal_bool_bool.lp6_ok (fu : Nat) (l6_0 : List Bool) (l6_1 : List Bool) (l6_2 : Int) : ∀ (n_ : Nat) (l6_3 : Int) (r_ : (Unit ⊕ Unit)), slices_Equal_bool_bool.lp6 fu l6_0 l6_1 l6_2 n_ l6_3 = some r_ → WK Try.prog slices_Equal_bool_bool.O (Ck Try.prog) (cB (cR (cL (cR (cR bd43))))) [] (ofL [Tm 0 (sS 1 e_b l6_0), Tm 1 (sS 1 e_b l6_1), Tm 12 (iv l6_2), Tm 13 (iv l6_3)]) (slices_Equal_bool_bool.lp6_post l6_0 l6_1 l6_2 r_) := by
 intro n_
 induction n_ with
 | zero => intro l6_3 r_ h; exact no_none h
 | succ n_ ih =>
  intro l6_3 r_ h
  refine kLp ?_
  refine kRs 15 [Tm 14 (bv (decide (l6_3 < l6_2)))] [] .n ?_
  refine kSq ?_
  rcases br_inv h with ⟨b8_0, h⟩ | ⟨b8_0, h⟩
  ·refine kCt b8_0 ?_
   refine kSk ?_
   refine kCd (cR (cR (cB (cB (cR (cL (cR (cR bd43)))))))) [.lp (cB (cR (cL (cR (cR bd43)))))] ?_
   refine kSq ?_
   refine kBk 1 ?_
   refine kRs 30 [Tm 5 (iv l6_3)] [] .n ?_
   obtain ⟨x10_1, a10_2, e10_3, h⟩ := ix_inv h
   obtain ⟨x10_4, a10_5, e10_6, h⟩ := ix_inv h
   refine kRs 30 [Tm 24 (bv (!(x10_1 == x10_4)))] [.c (e_b x10_1), .c (e_b x10_4)] (.c (c_ix (e := e_b) a10_2 e10_3) (.c (c_el (e := e_b) e10_3) (.c (c_ix (e := e_b) a10_5 e10_6) (.c (c_el (e := e_b) e10_6) (.c rT .n))))) ?_
   rcases br_inv h with ⟨b11_0, h⟩ | ⟨b11_0, h⟩
   ·refine kCt b11_0 ?_
    refine kRs 0 [Tm 4 (bv false)] [] .n ?_
    cases some_inj h
    refine kWo ?_
    refine kRt ?_
    exact kOut
   ·refine kCe b11_0 ?_
    refine kSk ?_
    refine kCd (cR (cR (cR (cB (cB (cR (cL (cR (cR bd43))))))))) [.lp (cB (cR (cL (cR (cR bd43)))))] ?_
    refine kRc 14 [Tm 13 (iv (w64 (l6_3 + 1)))] [] .n (cB (cR (cL (cR (cR bd43))))) [] ?_
    exact kWk (ih (w64 (l6_3 + 1)) _ h)
  ·refine kCe b8_0 ?_
   cases some_inj h
   refine kWo ?_
   refine kXt 0 ?_
   exact kOut
def slices_Equal_bool_bool (fu : Nat) (s1 : List Bool) (s2 : List Bool) : Option Bool :=
 br ((s1.length : Int) != (s2.length : Int))
  (some false)
  (bd (slices_Equal_bool_bool.lp6 fu s1 s2 (s1.length : Int) fu 0) fun o_ => (match o_ with
  | .inl _ =>
   some true
  | .inr _ =>
   some false))
theorem slices_Equal_bool_bool.meets (fu : Nat) (s1 : List Bool) (s2 : List Bool) (z0 : Bool) (h : slices_Equal_bool_bool fu s1 s2 = some z0) : Meets Try.prog ⟨43, [sS 1 e_b s1, sS 1 e_b s2], []⟩ ⟨bv z0, []⟩ := by
 refine kMt hmix slices_Equal_bool_bool.O Try.f43 bd43 3 ?_
 unfold slices_Equal_bool_bool at h
 refine kRs 3 [] [] .n ?_
 refine kSq ?_
 refine kRs 3 [Tm 10 (bv ((s1.length : Int) != (s2.length : Int)))] [.s (.t 7) [iv (s1.length : Int)], .s (.t 9) [iv (s2.length : Int)]] (.c (c_len (e := e_b) (l := s1)) (.c (c_len (e := e_b) (l := s2)) .n)) ?_
 rcases br_inv h with ⟨b3_0, h⟩ | ⟨b3_0, h⟩
 ·refine kCt b3_0 ?_
  refine kRs 0 [Tm 4 (bv false)] [] .n ?_
  refine kRt ?_
  have h_ := some_inj h
  subst h_
  exact kFr
 ·refine kCe b3_0 ?_
  refine kSk ?_
  refine kCd (cR (cR bd43)) [] ?_
  refine kSq ?_
  refine kRs 6 [Tm 12 (iv (s1.length : Int)), Tm 13 (iv 0)] [.s (.t 12) [iv (s1.length : Int)]] (.c (c_len (e := e_b) (l := s1)) .n) ?_
  refine kBk 0 ?_
  obtain ⟨o14, ho14, h⟩ := bd_inv h
  refine kUs (slices_Equal_bool_bool.lp6_ok fu s1 s2 (s1.length : Int) _ 0 _ ho14) ?_
  intro e_ τ_ hp_
  rcases o14 with o14 | o14
  ·obtain ⟨⟩ := o14
   obtain ⟨rfl, rfl⟩ := hp_
   refine kCd (cR (cR (cR bd43))) [] ?_
   refine kRs 0 [Tm 4 (bv true)] [] .n ?_
   refine kRt ?_
   have h_ := some_inj h
   subst h_
   exact kFr
  ·obtain ⟨⟩ := o14
   obtain ⟨rfl, rfl⟩ := hp_
   have h_ := some_inj h
   subst h_
   exact kFr
def bd44 : Code := (Try.f44.body).getD .skip
def slices_Equal_int_int.O : Nat → Nat := fun t => bif ([4, 5] : List Nat).any (Nat.beq t) then 1 else 0
def slices_Equal_int_int.lp6 (fu : Nat) (l6_0 : List Int) (l6_1 : List Int) (l6_2 : Int) : Nat → Int → Option (Unit ⊕ Unit)
  | 0, _ => none
  | n_ + 1, l6_3 =>
  br (decide (l6_3 < l6_2))
   (ix l6_0 l6_3 fun x10_1 =>
   ix l6_1 l6_3 fun x10_4 =>
   br (x10_1 != x10_4)
    (some (.inr ()))
    (slices_Equal_int_int.lp6 fu l6_0 l6_1 l6_2 n_ (w64 (l6_3 + 1))))
   (some (.inl ()))
def slices_Equal_int_int.lp6_post (l6_0 : List Int) (l6_1 : List Int) (l6_2 : Int) (r_ : (Unit ⊕ Unit)) : Wy → St → Prop := fun e τ => match r_ with
  | .inl _ => e = .exit 0 ∧ τ = ofL []
  | .inr _ => e = .ret ∧ τ = ofL [Tm 4 (bv false)]
theorem slices_Equal_int_int.lp6_ok (fu : Nat) (l6_0 : List Int) (l6_1 : List Int) (l6_2 : Int) : ∀ (n_ : Nat) (l6_3 : Int) (r_ : (Unit ⊕ Unit)), slices_Equal_int_int.lp6 fu l6_0 l6_1 l6_2 n_ l6_3 = some r_ → WK Try.prog slices_Equal_int_int.O (Ck Try.prog) (cB (cR (cL (cR (cR bd44))))) [] (ofL [Tm 0 (sS 1 e_i64 l6_0), Tm 1 (sS 1 e_i64 l6_1), Tm 12 (iv l6_2), Tm 13 (iv l6_3)]) (slices_Equal_int_int.lp6_post l6_0 l6_1 l6_2 r_) := by
 intro n_
 induction n_ with
 | zero => intro l6_3 r_ h; exact no_none h
 | succ n_ ih =>
  intro l6_3 r_ h
  refine kLp ?_
  refine kRs 15 [Tm 14 (bv (decide (l6_3 < l6_2)))] [] .n ?_
  refine kSq ?_
  rcases br_inv h with ⟨b8_0, h⟩ | ⟨b8_0, h⟩
  ·refine kCt b8_0 ?_
   refine kSk ?_
   refine kCd (cR (cR (cB (cB (cR (cL (cR (cR bd44)))))))) [.lp (cB (cR (cL (cR (cR bd44)))))] ?_
   refine kSq ?_
   refine kBk 1 ?_
   refine kRs 30 [Tm 5 (iv l6_3)] [] .n ?_
   obtain ⟨x10_1, a10_2, e10_3, h⟩ := ix_inv h
   obtain ⟨x10_4, a10_5, e10_6, h⟩ := ix_inv h
   refine kRs 30 [Tm 24 (bv (x10_1 != x10_4))] [.c (e_i64 x10_1), .c (e_i64 x10_4)] (.c (c_ix (e := e_i64) a10_2 e10_3) (.c (c_el (e := e_i64) e10_3) (.c (c_ix (e := e_i64) a10_5 e10_6) (.c (c_el (e := e_i64) e10_6) (.c rT .n))))) ?_
   rcases br_inv h with ⟨b11_0, h⟩ | ⟨b11_0, h⟩
   ·refine kCt b11_0 ?_
    refine kRs 0 [Tm 4 (bv false)] [] .n ?_
    cases some_inj h
    refine kWo ?_
    refine kRt ?_
    exact kOut
   ·refine kCe b11_0 ?_
    refine kSk ?_
    refine kCd (cR (cR (cR (cB (cB (cR (cL (cR (cR bd44))))))))) [.lp (cB (cR (cL (cR (cR bd44)))))] ?_
    refine kRc 14 [Tm 13 (iv (w64 (l6_3 + 1)))] [] .n (cB (cR (cL (cR (cR bd44))))) [] ?_
    exact kWk (ih (w64 (l6_3 + 1)) _ h)
  ·refine kCe b8_0 ?_
   cases some_inj h
   refine kWo ?_
   refine kXt 0 ?_
   exact kOut
def slices_Equal_int_int (fu : Nat) (s1 : List Int) (s2 : List Int) : Option Bool :=
 br ((s1.length : Int) != (s2.length : Int))
  (some false)
  (bd (slices_Equal_int_int.lp6 fu s1 s2 (s1.length : Int) fu 0) fun o_ => (match o_ with
  | .inl _ =>
   some true
  | .inr _ =>
   some false))
theorem slices_Equal_int_int.meets (fu : Nat) (s1 : List Int) (s2 : List Int) (z0 : Bool) (h : slices_Equal_int_int fu s1 s2 = some z0) : Meets Try.prog ⟨44, [sS 1 e_i64 s1, sS 1 e_i64 s2], []⟩ ⟨bv z0, []⟩ := by
 refine kMt hmix slices_Equal_int_int.O Try.f44 bd44 3 ?_
 unfold slices_Equal_int_int at h
 refine kRs 3 [] [] .n ?_
 refine kSq ?_
 refine kRs 3 [Tm 10 (bv ((s1.length : Int) != (s2.length : Int)))] [.s (.t 7) [iv (s1.length : Int)], .s (.t 9) [iv (s2.length : Int)]] (.c (c_len (e := e_i64) (l := s1)) (.c (c_len (e := e_i64) (l := s2)) .n)) ?_
 rcases br_inv h with ⟨b3_0, h⟩ | ⟨b3_0, h⟩
 ·refine kCt b3_0 ?_
  refine kRs 0 [Tm 4 (bv false)] [] .n ?_
  refine kRt ?_
  have h_ := some_inj h
  subst h_
  exact kFr
 ·refine kCe b3_0 ?_
  refine kSk ?_
  refine kCd (cR (cR bd44)) [] ?_
  refine kSq ?_
  refine kRs 6 [Tm 12 (iv (s1.length : Int)), Tm 13 (iv 0)] [.s (.t 12) [iv (s1.length : Int)]] (.c (c_len (e := e_i64) (l := s1)) .n) ?_
  refine kBk 0 ?_
  obtain ⟨o14, ho14, h⟩ := bd_inv h
  refine kUs (slices_Equal_int_int.lp6_ok fu s1 s2 (s1.length : Int) _ 0 _ ho14) ?_
  intro e_ τ_ hp_
  rcases o14 with o14 | o14
  ·obtain ⟨⟩ := o14
   obtain ⟨rfl, rfl⟩ := hp_
   refine kCd (cR (cR (cR bd44))) [] ?_
   refine kRs 0 [Tm 4 (bv true)] [] .n ?_
   refine kRt ?_
   have h_ := some_inj h
   subst h_
   exact kFr
  ·obtain ⟨⟩ := o14
   obtain ⟨rfl, rfl⟩ := hp_
   have h_ := some_inj h
   subst h_
   exact kFr
def bd18 : Code := (Try.f18.body).getD .skip
def raft_Same.O : Nat → Nat := fun t => bif ([2, 3, 4] : List Nat).any (Nat.beq t) then 1 else 0
def raft_Same (fu : Nat) (a : TRaft) (b : TRaft) : Option Bool :=
 br (a.Me == b.Me)
  (br (a.Nodes == b.Nodes)
   (br (a.Wait == b.Wait)
    (br (a.Term == b.Term)
     (br (a.Vote == b.Vote)
      (bd (ulog_Same fu a.Log b.Log) fun r2_6 =>
      br r2_6
       (br (a.Commit == b.Commit)
        (br (a.Role == b.Role)
         (br (a.Leader == b.Leader)
          (bd (slices_Equal_bool_bool fu a.Votes b.Votes) fun r2_12 =>
          br r2_12
           (bd (slices_Equal_int_int fu a.Next b.Next) fun r2_15 =>
           br r2_15
            (bd (slices_Equal_int_int fu a.Match b.Match) fun r2_18 =>
            br r2_18
             (some (a.Clock == b.Clock))
             (some false))
            (some false))
           (some false))
          (some false))
         (some false))
        (some false))
       (some false))
      (some false))
     (some false))
    (some false))
   (some false))
  (some false)
theorem raft_Same.meets (fu : Nat) (a : TRaft) (b : TRaft) (z0 : Bool) (h : raft_Same fu a b = some z0) : Meets Try.prog ⟨18, [.data (TRaft.ag a), .data (TRaft.ag b)], []⟩ ⟨bv z0, []⟩ := by
 refine kMt hmix raft_Same.O Try.f18 bd18 3 ?_
 unfold raft_Same at h
 refine kRs 0 [Tm 2 (.ptr 2 0), Tm 3 (.ptr 3 0), Ob 2 (TRaft.ob a), Ob 3 (TRaft.ob b)] [] .n ?_
 rcases br_inv h with ⟨b2_1, h⟩ | ⟨b2_1, h⟩
 ·rcases br_inv h with ⟨b2_2, h⟩ | ⟨b2_2, h⟩
  ·rcases br_inv h with ⟨b2_3, h⟩ | ⟨b2_3, h⟩
   ·rcases br_inv h with ⟨b2_4, h⟩ | ⟨b2_4, h⟩
    ·rcases br_inv h with ⟨b2_5, h⟩ | ⟨b2_5, h⟩
     ·obtain ⟨r2_6, h2_7, h⟩ := bd_inv h
      rcases br_inv h with ⟨b2_8, h⟩ | ⟨b2_8, h⟩
      ·rcases br_inv h with ⟨b2_9, h⟩ | ⟨b2_9, h⟩
       ·rcases br_inv h with ⟨b2_10, h⟩ | ⟨b2_10, h⟩
        ·rcases br_inv h with ⟨b2_11, h⟩ | ⟨b2_11, h⟩
         ·obtain ⟨r2_12, h2_13, h⟩ := bd_inv h
          rcases br_inv h with ⟨b2_14, h⟩ | ⟨b2_14, h⟩
          ·obtain ⟨r2_15, h2_16, h⟩ := bd_inv h
           rcases br_inv h with ⟨b2_17, h⟩ | ⟨b2_17, h⟩
           ·obtain ⟨r2_18, h2_19, h⟩ := bd_inv h
            rcases br_inv h with ⟨b2_20, h⟩ | ⟨b2_20, h⟩
            ·refine kRs 0 [Tm 4 (bv (a.Clock == b.Clock))] (rp 29 (.b true) (.a ⟨bv r2_6, []⟩ :: (rp 24 (.b true) (.a ⟨bv r2_12, []⟩ :: (rp 6 (.b true) (.a ⟨bv r2_15, []⟩ :: (rp 6 (.b true) (.a ⟨bv r2_18, []⟩ :: (rp 7 (.b true) []))))))))) (.r 6 b2_1 (.r 6 b2_2 (.r 6 b2_3 (.r 6 b2_4 (.r 5 b2_5 (.c (Asks.of (C := Meets Try.prog) (ulog_Same.meets fu a.Log b.Log _ h2_7)) (.c b2_5 (.r 6 b2_8 (.r 6 b2_9 (.r 6 b2_10 (.r 5 b2_11 (.c (Asks.of (C := Meets Try.prog) (slices_Equal_bool_bool.meets fu a.Votes b.Votes _ h2_13)) (.c b2_11 (.r 5 b2_14 (.c (Asks.of (C := Meets Try.prog) (slices_Equal_int_int.meets fu a.Next b.Next _ h2_16)) (.c b2_14 (.r 5 b2_17 (.c (Asks.of (C := Meets Try.prog) (slices_Equal_int_int.meets fu a.Match b.Match _ h2_19)) (.c b2_17 (.r 6 b2_20 .n)))))))))))))))))))) ?_
             refine kRt ?_
             have h_ := some_inj h
             subst h_
             exact kFr
            ·refine kRs 0 [Tm 4 (bv false)] (rp 29 (.b true) (.a ⟨bv r2_6, []⟩ :: (rp 24 (.b true) (.a ⟨bv r2_12, []⟩ :: (rp 6 (.b true) (.a ⟨bv r2_15, []⟩ :: (rp 6 (.b true) (.a ⟨bv r2_18, []⟩ :: (.b true :: (rp 6 (.b false) [])))))))))) (.r 6 b2_1 (.r 6 b2_2 (.r 6 b2_3 (.r 6 b2_4 (.r 5 b2_5 (.c (Asks.of (C := Meets Try.prog) (ulog_Same.meets fu a.Log b.Log _ h2_7)) (.c b2_5 (.r 6 b2_8 (.r 6 b2_9 (.r 6 b2_10 (.r 5 b2_11 (.c (Asks.of (C := Meets Try.prog) (slices_Equal_bool_bool.meets fu a.Votes b.Votes _ h2_13)) (.c b2_11 (.r 5 b2_14 (.c (Asks.of (C := Meets Try.prog) (slices_Equal_int_int.meets fu a.Next b.Next _ h2_16)) (.c b2_14 (.r 5 b2_17 (.c (Asks.of (C := Meets Try.prog) (slices_Equal_int_int.meets fu a.Match b.Match _ h2_19)) (.c b2_17 (.r 6 b2_20 .n)))))))))))))))))))) ?_
             refine kRt ?_
             have h_ := some_inj h
             subst h_
             exact kFr
           ·refine kRs 0 [Tm 4 (bv false)] (rp 29 (.b true) (.a ⟨bv r2_6, []⟩ :: (rp 24 (.b true) (.a ⟨bv r2_12, []⟩ :: (rp 6 (.b true) (.a ⟨bv r2_15, []⟩ :: (.b true :: (rp 12 (.b false) [])))))))) (.r 6 b2_1 (.r 6 b2_2 (.r 6 b2_3 (.r 6 b2_4 (.r 5 b2_5 (.c (Asks.of (C := Meets Try.prog) (ulog_Same.meets fu a.Log b.Log _ h2_7)) (.c b2_5 (.r 6 b2_8 (.r 6 b2_9 (.r 6 b2_10 (.r 5 b2_11 (.c (Asks.of (C := Meets Try.prog) (slices_Equal_bool_bool.meets fu a.Votes b.Votes _ h2_13)) (.c b2_11 (.r 5 b2_14 (.c (Asks.of (C := Meets Try.prog) (slices_Equal_int_int.meets fu a.Next b.Next _ h2_16)) (.c b2_14 (.r 6 b2_17 (.r 6 rF .n)))))))))))))))))) ?_
            refine kRt ?_
            have h_ := some_inj h
            subst h_
            exact kFr
          ·refine kRs 0 [Tm 4 (bv false)] (rp 29 (.b true) (.a ⟨bv r2_6, []⟩ :: (rp 24 (.b true) (.a ⟨bv r2_12, []⟩ :: (.b true :: (rp 18 (.b false) [])))))) (.r 6 b2_1 (.r 6 b2_2 (.r 6 b2_3 (.r 6 b2_4 (.r 5 b2_5 (.c (Asks.of (C := Meets Try.prog) (ulog_Same.meets fu a.Log b.Log _ h2_7)) (.c b2_5 (.r 6 b2_8 (.r 6 b2_9 (.r 6 b2_10 (.r 5 b2_11 (.c (Asks.of (C := Meets Try.prog) (slices_Equal_bool_bool.meets fu a.Votes b.Votes _ h2_13)) (.c b2_11 (.r 6 b2_14 (.r 12 rF .n))))))))))))))) ?_
           refine kRt ?_
           have h_ := some_inj h
           subst h_
           exact kFr
         ·refine kRs 0 [Tm 4 (bv false)] (rp 29 (.b true) (.a ⟨bv r2_6, []⟩ :: (rp 19 (.b true) (rp 24 (.b false) [])))) (.r 6 b2_1 (.r 6 b2_2 (.r 6 b2_3 (.r 6 b2_4 (.r 5 b2_5 (.c (Asks.of (C := Meets Try.prog) (ulog_Same.meets fu a.Log b.Log _ h2_7)) (.c b2_5 (.r 6 b2_8 (.r 6 b2_9 (.r 6 b2_10 (.r 6 b2_11 (.r 18 rF .n)))))))))))) ?_
          refine kRt ?_
          have h_ := some_inj h
          subst h_
          exact kFr
        ·refine kRs 0 [Tm 4 (bv false)] (rp 29 (.b true) (.a ⟨bv r2_6, []⟩ :: (rp 13 (.b true) (rp 30 (.b false) [])))) (.r 6 b2_1 (.r 6 b2_2 (.r 6 b2_3 (.r 6 b2_4 (.r 5 b2_5 (.c (Asks.of (C := Meets Try.prog) (ulog_Same.meets fu a.Log b.Log _ h2_7)) (.c b2_5 (.r 6 b2_8 (.r 6 b2_9 (.r 6 b2_10 (.r 24 rF .n))))))))))) ?_
         refine kRt ?_
         have h_ := some_inj h
         subst h_
         exact kFr
       ·refine kRs 0 [Tm 4 (bv false)] (rp 29 (.b true) (.a ⟨bv r2_6, []⟩ :: (rp 7 (.b true) (rp 36 (.b false) [])))) (.r 6 b2_1 (.r 6 b2_2 (.r 6 b2_3 (.r 6 b2_4 (.r 5 b2_5 (.c (Asks.of (C := Meets Try.prog) (ulog_Same.meets fu a.Log b.Log _ h2_7)) (.c b2_5 (.r 6 b2_8 (.r 6 b2_9 (.r 30 rF .n)))))))))) ?_
        refine kRt ?_
        have h_ := some_inj h
        subst h_
        exact kFr
      ·refine kRs 0 [Tm 4 (bv false)] (rp 29 (.b true) (.a ⟨bv r2_6, []⟩ :: (.b true :: (rp 42 (.b false) [])))) (.r 6 b2_1 (.r 6 b2_2 (.r 6 b2_3 (.r 6 b2_4 (.r 5 b2_5 (.c (Asks.of (C := Meets Try.prog) (ulog_Same.meets fu a.Log b.Log _ h2_7)) (.c b2_5 (.r 6 b2_8 (.r 36 rF .n))))))))) ?_
       refine kRt ?_
       have h_ := some_inj h
       subst h_
       exact kFr
     ·refine kRs 0 [Tm 4 (bv false)] (rp 24 (.b true) (rp 48 (.b false) [])) (.r 6 b2_1 (.r 6 b2_2 (.r 6 b2_3 (.r 6 b2_4 (.r 6 b2_5 (.r 42 rF .n)))))) ?_
      refine kRt ?_
      have h_ := some_inj h
      subst h_
      exact kFr
    ·refine kRs 0 [Tm 4 (bv false)] (rp 18 (.b true) (rp 54 (.b false) [])) (.r 6 b2_1 (.r 6 b2_2 (.r 6 b2_3 (.r 6 b2_4 (.r 48 rF .n))))) ?_
     refine kRt ?_
     have h_ := some_inj h
     subst h_
     exact kFr
   ·refine kRs 0 [Tm 4 (bv false)] (rp 12 (.b true) (rp 60 (.b false) [])) (.r 6 b2_1 (.r 6 b2_2 (.r 6 b2_3 (.r 54 rF .n)))) ?_
    refine kRt ?_
    have h_ := some_inj h
    subst h_
    exact kFr
  ·refine kRs 0 [Tm 4 (bv false)] (rp 6 (.b true) (rp 66 (.b false) [])) (.r 6 b2_1 (.r 6 b2_2 (.r 60 rF .n))) ?_
   refine kRt ?_
   have h_ := some_inj h
   subst h_
   exact kFr
 ·refine kRs 0 [Tm 4 (bv false)] (rp 72 (.b false) []) (.r 6 b2_1 (.r 66 rF .n)) ?_
  refine kRt ?_
  have h_ := some_inj h
  subst h_
  exact kFr
def bd12 : Code := (Try.f12.body).getD .skip
def diwanlaw11_begun.O : Nat → Nat := fun t => bif ([0, 1, 2, 3, 4, 5, 6, 7, 8, 9, 10, 11, 12, 16, 21, 25, 27, 32, 34] : List Nat).any (Nat.beq t) then 1 else 0
def diwanlaw11_begun (fu : Nat) : Option Bool :=
 bd (raft_New 1 1 2) fun r2_1 =>
 bd (raft_Tick fu r2_1) fun (r3_1, r3_2) =>
 bd (raft_Tick fu r3_1) fun (r4_1, r4_2) =>
 bd (raft_Propose fu r4_1 (TEntry.mk 0 true (TTxn.mk 0 0 [] []))) fun (r5_1, r5_2, r5_3) =>
 bd (raft_Propose fu r3_1 (TEntry.mk 0 true (TTxn.mk 0 0 [] []))) fun (r6_1, r6_2, r6_3) =>
 bd (raft_May fu r2_1) fun r7_1 =>
 br r7_1
  (br ((r3_2.length : Int) == 0)
   (br (r3_1.Clock == 1)
    (br (r4_1.Role == 2)
     (br (r4_1.Term == 1)
      (br ((r4_1.Log.length : Int) == 1)
       (br (r4_1.Commit == 1)
        (br ((r4_2.length : Int) == 0)
         (br r5_3
          (br ((r5_1.Log.length : Int) == 2)
           (br (r5_1.Commit == 2)
            (br (!r6_3)
             (bd (raft_Same fu r3_1 r3_1) fun r7_15 =>
             br r7_15
              (bd (raft_Same fu r3_1 r4_1) fun r7_18 =>
              some (!r7_18))
              (some false))
             (some false))
            (some false))
           (some false))
          (some false))
         (some false))
        (some false))
       (some false))
      (some false))
     (some false))
    (some false))
   (some false))
  (some false)
theorem diwanlaw11_begun.meets (fu : Nat) (z0 : Bool) (h : diwanlaw11_begun fu = some z0) : Meets Try.prog ⟨12, [], []⟩ ⟨bv z0, []⟩ := by
 refine kMt hmix diwanlaw11_begun.O Try.f12 bd12 0 ?_
 unfold diwanlaw11_begun at h
 refine kRs 0 [] [] .n ?_
 obtain ⟨r2_1, h2_2, h⟩ := bd_inv h
 refine kRs 0 [Tm 1 (.ptr 1 0), Ob 1 (TRaft.ob_000001000111 r2_1)] [.a ⟨.data (TRaft.ag_000001000111 r2_1), []⟩] (.c (Asks.of (C := Meets Try.prog) (raft_New.meets 1 1 2 _ h2_2)) .n) ?_
 obtain ⟨⟨r3_1, r3_2⟩, h3_3, h⟩ := bd_inv h
 refine kRs 1 [Tm 2 (.ptr 2 0), Tm 3 (sS 24 TMsg.en r3_2), Ob 1 (TRaft.ob r2_1), Ob 2 (TRaft.ob r3_1)] [.a ⟨.tup [.data (TRaft.ag r3_1), sS 24 TMsg.en r3_2], []⟩] (.c (Asks.of (C := Meets Try.prog) (raft_Tick.meets fu r2_1 _ _ h3_3)) .n) ?_
 obtain ⟨⟨r4_1, r4_2⟩, h4_3, h⟩ := bd_inv h
 refine kRs 31 [Tm 4 (.ptr 4 0), Tm 5 (sS 24 TMsg.en r4_2), Ob 4 (TRaft.ob r4_1)] [.a ⟨.tup [.data (TRaft.ag r4_1), sS 24 TMsg.en r4_2], []⟩] (.c (Asks.of (C := Meets Try.prog) (raft_Tick.meets fu r3_1 _ _ h4_3)) .n) ?_
 obtain ⟨⟨r5_1, r5_2, r5_3⟩, h5_4, h⟩ := bd_inv h
 refine kRs 255 [Tm 6 (.ptr 6 0), Tm 8 (bv r5_3), Ob 6 (TRaft.ob r5_1)] [.a ⟨.tup [.data (TRaft.ag r5_1), sS 24 TMsg.en r5_2, bv r5_3], []⟩] (.c (Asks.of (C := Meets Try.prog) (raft_Propose.meets fu r4_1 (TEntry.mk 0 true (TTxn.mk 0 0 [] [])) _ _ _ h5_4)) .n) ?_
 obtain ⟨⟨r6_1, r6_2, r6_3⟩, h6_4, h⟩ := bd_inv h
 refine kRs 2047 [Tm 11 (bv r6_3)] [.a ⟨.tup [.data (TRaft.ag r6_1), sS 24 TMsg.en r6_2, bv r6_3], []⟩] (.c (Asks.of (C := Meets Try.prog) (raft_Propose.meets fu r3_1 (TEntry.mk 0 true (TTxn.mk 0 0 [] [])) _ _ _ h6_4)) .n) ?_
 obtain ⟨r7_1, h7_2, h⟩ := bd_inv h
 rcases br_inv h with ⟨b7_3, h⟩ | ⟨b7_3, h⟩
 ·rcases br_inv h with ⟨b7_4, h⟩ | ⟨b7_4, h⟩
  ·rcases br_inv h with ⟨b7_5, h⟩ | ⟨b7_5, h⟩
   ·rcases br_inv h with ⟨b7_6, h⟩ | ⟨b7_6, h⟩
    ·rcases br_inv h with ⟨b7_7, h⟩ | ⟨b7_7, h⟩
     ·rcases br_inv h with ⟨b7_8, h⟩ | ⟨b7_8, h⟩
      ·rcases br_inv h with ⟨b7_9, h⟩ | ⟨b7_9, h⟩
       ·rcases br_inv h with ⟨b7_10, h⟩ | ⟨b7_10, h⟩
        ·rcases br_inv h with ⟨b7_11, h⟩ | ⟨b7_11, h⟩
         ·rcases br_inv h with ⟨b7_12, h⟩ | ⟨b7_12, h⟩
          ·rcases br_inv h with ⟨b7_13, h⟩ | ⟨b7_13, h⟩
           ·rcases br_inv h with ⟨b7_14, h⟩ | ⟨b7_14, h⟩
            ·obtain ⟨r7_15, h7_16, h⟩ := bd_inv h
             rcases br_inv h with ⟨b7_17, h⟩ | ⟨b7_17, h⟩
             ·obtain ⟨r7_18, h7_19, h⟩ := bd_inv h
              refine kRs 0 [Tm 0 (bv (!r7_18))] (.a ⟨bv r7_1, []⟩ :: (.b true :: (.b true :: (.s (.t 41) [iv (r3_2.length : Int)] :: (rp 17 (.b true) (.s (.t 62) [iv (r4_1.Log.length : Int)] :: (rp 8 (.b true) (.s (.t 72) [iv (r4_2.length : Int)] :: (rp 7 (.b true) (.s (.t 81) [iv (r5_1.Log.length : Int)] :: (rp 12 (.b true) (.a ⟨bv r7_15, []⟩ :: (rp 4 (.b true) [.a ⟨bv r7_18, []⟩, .b true, .b true]))))))))))))) (.c (Asks.of (C := Meets Try.prog) (raft_May.meets fu r2_1 _ h7_2)) (.r 2 b7_3 (.c (c_len (e := TMsg.en) (l := r3_2)) (.r 2 b7_3 (.r 4 b7_4 (.r 4 b7_5 (.r 4 b7_6 (.r 3 b7_7 (.c (c_len (e := TEntry.en) (l := r4_1.Log)) (.r 2 b7_7 (.r 4 b7_8 (.r 2 b7_9 (.c (c_len (e := TMsg.en) (l := r4_2)) (.r 2 b7_9 (.r 2 b7_10 (.r 3 b7_11 (.c (c_len (e := TEntry.en) (l := r5_1.Log)) (.r 2 b7_11 (.r 4 b7_12 (.r 3 b7_13 (.r 3 b7_14 (.c (Asks.of (C := Meets Try.prog) (raft_Same.meets fu r3_1 r3_1 _ h7_16)) (.c b7_14 (.r 3 b7_17 (.c (Asks.of (C := Meets Try.prog) (raft_Same.meets fu r3_1 r4_1 _ h7_19)) (.r 2 b7_17 .n)))))))))))))))))))))))))) ?_
              refine kRt ?_
              have h_ := some_inj h
              subst h_
              exact kFr
             ·refine kRs 0 [Tm 0 (bv false)] (.a ⟨bv r7_1, []⟩ :: (.b true :: (.b true :: (.s (.t 41) [iv (r3_2.length : Int)] :: (rp 17 (.b true) (.s (.t 62) [iv (r4_1.Log.length : Int)] :: (rp 8 (.b true) (.s (.t 72) [iv (r4_2.length : Int)] :: (rp 7 (.b true) (.s (.t 81) [iv (r5_1.Log.length : Int)] :: (rp 12 (.b true) (.a ⟨bv r7_15, []⟩ :: (.b true :: (rp 5 (.b false) [])))))))))))))) (.c (Asks.of (C := Meets Try.prog) (raft_May.meets fu r2_1 _ h7_2)) (.r 2 b7_3 (.c (c_len (e := TMsg.en) (l := r3_2)) (.r 2 b7_3 (.r 4 b7_4 (.r 4 b7_5 (.r 4 b7_6 (.r 3 b7_7 (.c (c_len (e := TEntry.en) (l := r4_1.Log)) (.r 2 b7_7 (.r 4 b7_8 (.r 2 b7_9 (.c (c_len (e := TMsg.en) (l := r4_2)) (.r 2 b7_9 (.r 2 b7_10 (.r 3 b7_11 (.c (c_len (e := TEntry.en) (l := r5_1.Log)) (.r 2 b7_11 (.r 4 b7_12 (.r 3 b7_13 (.r 3 b7_14 (.c (Asks.of (C := Meets Try.prog) (raft_Same.meets fu r3_1 r3_1 _ h7_16)) (.c b7_14 (.r 5 b7_17 .n)))))))))))))))))))))))) ?_
              refine kRt ?_
              have h_ := some_inj h
              subst h_
              exact kFr
            ·refine kRs 0 [Tm 0 (bv false)] (.a ⟨bv r7_1, []⟩ :: (.b true :: (.b true :: (.s (.t 41) [iv (r3_2.length : Int)] :: (rp 17 (.b true) (.s (.t 62) [iv (r4_1.Log.length : Int)] :: (rp 8 (.b true) (.s (.t 72) [iv (r4_2.length : Int)] :: (rp 7 (.b true) (.s (.t 81) [iv (r5_1.Log.length : Int)] :: (rp 9 (.b true) (rp 9 (.b false) [])))))))))))) (.c (Asks.of (C := Meets Try.prog) (raft_May.meets fu r2_1 _ h7_2)) (.r 2 b7_3 (.c (c_len (e := TMsg.en) (l := r3_2)) (.r 2 b7_3 (.r 4 b7_4 (.r 4 b7_5 (.r 4 b7_6 (.r 3 b7_7 (.c (c_len (e := TEntry.en) (l := r4_1.Log)) (.r 2 b7_7 (.r 4 b7_8 (.r 2 b7_9 (.c (c_len (e := TMsg.en) (l := r4_2)) (.r 2 b7_9 (.r 2 b7_10 (.r 3 b7_11 (.c (c_len (e := TEntry.en) (l := r5_1.Log)) (.r 2 b7_11 (.r 4 b7_12 (.r 3 b7_13 (.r 4 b7_14 (.r 5 rF .n)))))))))))))))))))))) ?_
             refine kRt ?_
             have h_ := some_inj h
             subst h_
             exact kFr
           ·refine kRs 0 [Tm 0 (bv false)] (.a ⟨bv r7_1, []⟩ :: (.b true :: (.b true :: (.s (.t 41) [iv (r3_2.length : Int)] :: (rp 17 (.b true) (.s (.t 62) [iv (r4_1.Log.length : Int)] :: (rp 8 (.b true) (.s (.t 72) [iv (r4_2.length : Int)] :: (rp 7 (.b true) (.s (.t 81) [iv (r5_1.Log.length : Int)] :: (rp 6 (.b true) (rp 12 (.b false) [])))))))))))) (.c (Asks.of (C := Meets Try.prog) (raft_May.meets fu r2_1 _ h7_2)) (.r 2 b7_3 (.c (c_len (e := TMsg.en) (l := r3_2)) (.r 2 b7_3 (.r 4 b7_4 (.r 4 b7_5 (.r 4 b7_6 (.r 3 b7_7 (.c (c_len (e := TEntry.en) (l := r4_1.Log)) (.r 2 b7_7 (.r 4 b7_8 (.r 2 b7_9 (.c (c_len (e := TMsg.en) (l := r4_2)) (.r 2 b7_9 (.r 2 b7_10 (.r 3 b7_11 (.c (c_len (e := TEntry.en) (l := r5_1.Log)) (.r 2 b7_11 (.r 4 b7_12 (.r 3 b7_13 (.r 9 rF .n))))))))))))))))))))) ?_
            refine kRt ?_
            have h_ := some_inj h
            subst h_
            exact kFr
          ·refine kRs 0 [Tm 0 (bv false)] (.a ⟨bv r7_1, []⟩ :: (.b true :: (.b true :: (.s (.t 41) [iv (r3_2.length : Int)] :: (rp 17 (.b true) (.s (.t 62) [iv (r4_1.Log.length : Int)] :: (rp 8 (.b true) (.s (.t 72) [iv (r4_2.length : Int)] :: (rp 7 (.b true) (.s (.t 81) [iv (r5_1.Log.length : Int)] :: (.b true :: (.b true :: (rp 16 (.b false) []))))))))))))) (.c (Asks.of (C := Meets Try.prog) (raft_May.meets fu r2_1 _ h7_2)) (.r 2 b7_3 (.c (c_len (e := TMsg.en) (l := r3_2)) (.r 2 b7_3 (.r 4 b7_4 (.r 4 b7_5 (.r 4 b7_6 (.r 3 b7_7 (.c (c_len (e := TEntry.en) (l := r4_1.Log)) (.r 2 b7_7 (.r 4 b7_8 (.r 2 b7_9 (.c (c_len (e := TMsg.en) (l := r4_2)) (.r 2 b7_9 (.r 2 b7_10 (.r 3 b7_11 (.c (c_len (e := TEntry.en) (l := r5_1.Log)) (.r 2 b7_11 (.r 4 b7_12 (.r 12 rF .n)))))))))))))))))))) ?_
           refine kRt ?_
           have h_ := some_inj h
           subst h_
           exact kFr
         ·refine kRs 0 [Tm 0 (bv false)] (.a ⟨bv r7_1, []⟩ :: (.b true :: (.b true :: (.s (.t 41) [iv (r3_2.length : Int)] :: (rp 17 (.b true) (.s (.t 62) [iv (r4_1.Log.length : Int)] :: (rp 8 (.b true) (.s (.t 72) [iv (r4_2.length : Int)] :: (rp 4 (.b true) (rp 21 (.b false) [])))))))))) (.c (Asks.of (C := Meets Try.prog) (raft_May.meets fu r2_1 _ h7_2)) (.r 2 b7_3 (.c (c_len (e := TMsg.en) (l := r3_2)) (.r 2 b7_3 (.r 4 b7_4 (.r 4 b7_5 (.r 4 b7_6 (.r 3 b7_7 (.c (c_len (e := TEntry.en) (l := r4_1.Log)) (.r 2 b7_7 (.r 4 b7_8 (.r 2 b7_9 (.c (c_len (e := TMsg.en) (l := r4_2)) (.r 2 b7_9 (.r 2 b7_10 (.r 5 b7_11 (.r 16 rF .n))))))))))))))))) ?_
          refine kRt ?_
          have h_ := some_inj h
          subst h_
          exact kFr
        ·refine kRs 0 [Tm 0 (bv false)] (.a ⟨bv r7_1, []⟩ :: (.b true :: (.b true :: (.s (.t 41) [iv (r3_2.length : Int)] :: (rp 17 (.b true) (.s (.t 62) [iv (r4_1.Log.length : Int)] :: (rp 8 (.b true) (.s (.t 72) [iv (r4_2.length : Int)] :: (.b true :: (.b true :: (rp 23 (.b false) []))))))))))) (.c (Asks.of (C := Meets Try.prog) (raft_May.meets fu r2_1 _ h7_2)) (.r 2 b7_3 (.c (c_len (e := TMsg.en) (l := r3_2)) (.r 2 b7_3 (.r 4 b7_4 (.r 4 b7_5 (.r 4 b7_6 (.r 3 b7_7 (.c (c_len (e := TEntry.en) (l := r4_1.Log)) (.r 2 b7_7 (.r 4 b7_8 (.r 2 b7_9 (.c (c_len (e := TMsg.en) (l := r4_2)) (.r 2 b7_9 (.r 2 b7_10 (.r 21 rF .n)))))))))))))))) ?_
         refine kRt ?_
         have h_ := some_inj h
         subst h_
         exact kFr
       ·refine kRs 0 [Tm 0 (bv false)] (.a ⟨bv r7_1, []⟩ :: (.b true :: (.b true :: (.s (.t 41) [iv (r3_2.length : Int)] :: (rp 17 (.b true) (.s (.t 62) [iv (r4_1.Log.length : Int)] :: (rp 6 (.b true) (rp 27 (.b false) [])))))))) (.c (Asks.of (C := Meets Try.prog) (raft_May.meets fu r2_1 _ h7_2)) (.r 2 b7_3 (.c (c_len (e := TMsg.en) (l := r3_2)) (.r 2 b7_3 (.r 4 b7_4 (.r 4 b7_5 (.r 4 b7_6 (.r 3 b7_7 (.c (c_len (e := TEntry.en) (l := r4_1.Log)) (.r 2 b7_7 (.r 4 b7_8 (.r 4 b7_9 (.r 23 rF .n))))))))))))) ?_
        refine kRt ?_
        have h_ := some_inj h
        subst h_
        exact kFr
      ·refine kRs 0 [Tm 0 (bv false)] (.a ⟨bv r7_1, []⟩ :: (.b true :: (.b true :: (.s (.t 41) [iv (r3_2.length : Int)] :: (rp 17 (.b true) (.s (.t 62) [iv (r4_1.Log.length : Int)] :: (.b true :: (.b true :: (rp 31 (.b false) []))))))))) (.c (Asks.of (C := Meets Try.prog) (raft_May.meets fu r2_1 _ h7_2)) (.r 2 b7_3 (.c (c_len (e := TMsg.en) (l := r3_2)) (.r 2 b7_3 (.r 4 b7_4 (.r 4 b7_5 (.r 4 b7_6 (.r 3 b7_7 (.c (c_len (e := TEntry.en) (l := r4_1.Log)) (.r 2 b7_7 (.r 4 b7_8 (.r 27 rF .n)))))))))))) ?_
       refine kRt ?_
       have h_ := some_inj h
       subst h_
       exact kFr
     ·refine kRs 0 [Tm 0 (bv false)] (.a ⟨bv r7_1, []⟩ :: (.b true :: (.b true :: (.s (.t 41) [iv (r3_2.length : Int)] :: (rp 14 (.b true) (rp 36 (.b false) [])))))) (.c (Asks.of (C := Meets Try.prog) (raft_May.meets fu r2_1 _ h7_2)) (.r 2 b7_3 (.c (c_len (e := TMsg.en) (l := r3_2)) (.r 2 b7_3 (.r 4 b7_4 (.r 4 b7_5 (.r 4 b7_6 (.r 5 b7_7 (.r 31 rF .n))))))))) ?_
      refine kRt ?_
      have h_ := some_inj h
      subst h_
      exact kFr
    ·refine kRs 0 [Tm 0 (bv false)] (.a ⟨bv r7_1, []⟩ :: (.b true :: (.b true :: (.s (.t 41) [iv (r3_2.length : Int)] :: (rp 10 (.b true) (rp 40 (.b false) [])))))) (.c (Asks.of (C := Meets Try.prog) (raft_May.meets fu r2_1 _ h7_2)) (.r 2 b7_3 (.c (c_len (e := TMsg.en) (l := r3_2)) (.r 2 b7_3 (.r 4 b7_4 (.r 4 b7_5 (.r 4 b7_6 (.r 36 rF .n)))))))) ?_
     refine kRt ?_
     have h_ := some_inj h
     subst h_
     exact kFr
   ·refine kRs 0 [Tm 0 (bv false)] (.a ⟨bv r7_1, []⟩ :: (.b true :: (.b true :: (.s (.t 41) [iv (r3_2.length : Int)] :: (rp 6 (.b true) (rp 44 (.b false) [])))))) (.c (Asks.of (C := Meets Try.prog) (raft_May.meets fu r2_1 _ h7_2)) (.r 2 b7_3 (.c (c_len (e := TMsg.en) (l := r3_2)) (.r 2 b7_3 (.r 4 b7_4 (.r 4 b7_5 (.r 40 rF .n))))))) ?_
    refine kRt ?_
    have h_ := some_inj h
    subst h_
    exact kFr
  ·refine kRs 0 [Tm 0 (bv false)] (.a ⟨bv r7_1, []⟩ :: (.b true :: (.b true :: (.s (.t 41) [iv (r3_2.length : Int)] :: (.b true :: (.b true :: (rp 48 (.b false) []))))))) (.c (Asks.of (C := Meets Try.prog) (raft_May.meets fu r2_1 _ h7_2)) (.r 2 b7_3 (.c (c_len (e := TMsg.en) (l := r3_2)) (.r 2 b7_3 (.r 4 b7_4 (.r 44 rF .n)))))) ?_
   refine kRt ?_
   have h_ := some_inj h
   subst h_
   exact kFr
 ·refine kRs 0 [Tm 0 (bv false)] (.a ⟨bv r7_1, []⟩ :: (rp 52 (.b false) [])) (.c (Asks.of (C := Meets Try.prog) (raft_May.meets fu r2_1 _ h7_2)) (.r 4 b7_3 (.r 48 rF .n))) ?_
  refine kRt ?_
  have h_ := some_inj h
  subst h_
  exact kFr
def bd35 : Code := (Try.f35.body).getD .skip
def diwanlaw11_group.O : Nat → Nat := fun t => bif ([2, 3, 4, 5, 6, 24, 25] : List Nat).any (Nat.beq t) then 1 else 0
def diwanlaw11_group.lp4 (fu : Nat) (l4_0 : Int) : Nat → Int → TGroup → Option TGroup
  | 0, _, _ => none
  | n_ + 1, l4_1, l4_2 =>
  br (decide (l4_1 ≤ l4_0))
   (bd (raft_New l4_1 l4_0 (w64 (2 + (Int.tmod (w64 (l4_1 * 3)) 7)))) fun r7_1 =>
   gd (decide (l4_2.M.length + ([r7_1] : List TRaft).length ≤ 4294967296)) <|
   diwanlaw11_group.lp4 fu l4_0 n_ (w64 (l4_1 + 1)) (TGroup.mk (l4_2.M ++ ([r7_1] : List TRaft)) l4_2.Mail))
   (some l4_2)
def diwanlaw11_group.lp4_post (l4_0 : Int) (r_ : TGroup) : Wy → St → Prop := fun e τ => match r_ with
  | y0 => e = .exit 0 ∧ τ = ofL [Tm 3 (.ptr 6 0), Ob 6 [sO 13 TRaft.en y0.M, sO 24 TMsg.en y0.Mail]]
theorem diwanlaw11_group.lp4_ok (fu : Nat) (l4_0 : Int) : ∀ (n_ : Nat) (l4_1 : Int) (l4_2 : TGroup) (r_ : TGroup), diwanlaw11_group.lp4 fu l4_0 n_ l4_1 l4_2 = some r_ → WK Try.prog diwanlaw11_group.O (Ck Try.prog) (cB (cR (cL (cR (cR bd35))))) [] (ofL [Tm 0 (iv l4_0), Tm 3 (.ptr 6 0), Tm 4 (iv l4_1), Ob 6 [sO 13 TRaft.en l4_2.M, sO 24 TMsg.en l4_2.Mail]]) (diwanlaw11_group.lp4_post l4_0 r_) := by
 intro n_
 induction n_ with
 | zero => intro l4_1 l4_2 r_ h; exact no_none h
 | succ n_ ih =>
  intro l4_1 l4_2 r_ h
  refine kLp ?_
  refine kSq ?_
  refine kRs 15 [Tm 9 (bv (decide (l4_1 ≤ l4_0)))] [] .n ?_
  rcases br_inv h with ⟨b6_0, h⟩ | ⟨b6_0, h⟩
  ·refine kCt b6_0 ?_
   refine kSk ?_
   refine kCd (cR (cB (cB (cR (cL (cR (cR bd35))))))) [.lp (cB (cR (cL (cR (cR bd35)))))] ?_
   refine kSq ?_
   refine kBk 1 ?_
   obtain ⟨r7_1, h7_2, h⟩ := bd_inv h
   obtain ⟨c7_3, h⟩ := gd_inv h
   refine kRc 14 [Ob 6 [sO 13 TRaft.en (l4_2.M ++ ([r7_1] : List TRaft)), sO 24 TMsg.en l4_2.Mail]] [.a ⟨.data (TRaft.ag_000001000111 r7_1), []⟩, .s (.t 25) [sO 13 TRaft.en (l4_2.M ++ ([r7_1] : List TRaft))]] (.c rT (.c (Asks.of (C := Meets Try.prog) (raft_New.meets l4_1 l4_0 (w64 (2 + (Int.tmod (w64 (l4_1 * 3)) 7))) _ h7_2)) (.c (c_al (e := TRaft.en) (f := TRaft.en) c7_3) (.c (congrArg (fun d : DV => [AV.data d]) (c_app (e := TRaft.en) (s := 13) (l := l4_2.M) (m := ([r7_1] : List TRaft)))) (.c rT .n))))) (cR (cR (cB (cB (cR (cL (cR (cR bd35)))))))) [.lp (cB (cR (cL (cR (cR bd35)))))] ?_
   refine kRc 7 [Tm 4 (iv (w64 (l4_1 + 1)))] [] .n (cB (cR (cL (cR (cR bd35))))) [] ?_
   exact kWk (ih (w64 (l4_1 + 1)) (TGroup.mk (l4_2.M ++ ([r7_1] : List TRaft)) l4_2.Mail) _ h)
  ·refine kCe b6_0 ?_
   cases some_inj h
   refine kWo ?_
   refine kXt 0 ?_
   exact kOut
def diwanlaw11_group (fu : Nat) (n_v : Int) : Option TGroup :=
 bd (diwanlaw11_group.lp4 fu n_v fu 1 (TGroup.mk [] [])) fun y9_0 =>
 some y9_0
theorem diwanlaw11_group.meets (fu : Nat) (n_v : Int) (z0 : TGroup) (h : diwanlaw11_group fu n_v = some z0) : Meets Try.prog ⟨35, [iv n_v], []⟩ ⟨.ptr 1000 0, [[sO 13 TRaft.en z0.M, sO 24 TMsg.en z0.Mail]]⟩ := by
 refine kMt hmix diwanlaw11_group.O Try.f35 bd35 1 ?_
 unfold diwanlaw11_group at h
 refine kRs 1 [] [] .n ?_
 refine kRs 1 [Tm 3 (.ptr 6 0), Ob 6 [.data (.slc true none 13 (List.map TRaft.en [])), .data (.slc true none 24 (List.map TMsg.en []))]] [] .n ?_
 refine kSq ?_
 refine kRs 7 [Tm 4 (iv 1)] [] .n ?_
 refine kBk 0 ?_
 obtain ⟨o9, ho9, h⟩ := bd_inv h
 refine kUs (diwanlaw11_group.lp4_ok fu n_v _ 1 (TGroup.mk [] []) _ ho9) ?_
 intro e_ τ_ hp_
 obtain ⟨y9_0, rfl⟩ : ∃ y, y = o9 := ⟨_, rfl⟩
 obtain ⟨rfl, rfl⟩ := hp_
 refine kCd (cR (cR (cR bd35))) [] ?_
 refine kRs 2 [Tm 2 (.ptr 6 0)] [] .n ?_
 refine kRt ?_
 have h_ := some_inj h
 subst h_
 exact kFr
def bd13 : Code := (Try.f13.body).getD .skip
def diwanplay_Made.O : Nat → Nat := fun t => bif ([2, 4, 5] : List Nat).any (Nat.beq t) then 1 else 0
def diwanplay_Made (l : List Int) : Option TPicks :=
 some (TPicks.mk l 0)
theorem diwanplay_Made.meets (l : List Int) (z0 : TPicks) (h : diwanplay_Made l = some z0) : Meets Try.prog ⟨13, [sS 1 e_u8 l], []⟩ ⟨.ptr 1000 0, [[sS 1 e_u8 z0.l, iv z0.n]]⟩ := by
 refine kMt hmix diwanplay_Made.O Try.f13 bd13 1 ?_
 unfold diwanplay_Made at h
 refine kRs 1 [] [] .n ?_
 refine kRs 0 [Tm 2 (.ptr 5 0), Ob 5 [sS 1 e_u8 l, iv 0]] [] .n ?_
 refine kRt ?_
 have h_ := some_inj h
 subst h_
 exact kFr
def bd36 : Code := (Try.f36.body).getD .skip
def diwanplay_Picks_Over.O : Nat → Nat := fun t => bif ([2] : List Nat).any (Nat.beq t) then 1 else 0
def diwanplay_Picks_Over (o0_v : TPicks) : Option Bool :=
 some (decide (o0_v.n ≥ (o0_v.l.length : Int)))
theorem diwanplay_Picks_Over.meets (o0_v : TPicks) (z0 : Bool) (h : diwanplay_Picks_Over o0_v = some z0) : Meets Try.prog ⟨36, [.ptr 1000 0], [[sS 1 e_u8 o0_v.l, iv o0_v.n]]⟩ ⟨bv z0, [[sS 1 e_u8 o0_v.l, iv o0_v.n]]⟩ := by
 refine kMt hmix diwanplay_Picks_Over.O Try.f36 bd36 3 ?_
 unfold diwanplay_Picks_Over at h
 refine kRs 3 [] [] .n ?_
 refine kRs 2 [Tm 2 (bv (decide (o0_v.n ≥ (o0_v.l.length : Int))))] [.s (.t 11) [iv (o0_v.l.length : Int)]] (.c (c_len (e := e_u8) (l := o0_v.l)) (.c rT .n)) ?_
 refine kRt ?_
 have h_ := some_inj h
 subst h_
 exact kFr
def bd31 : Code := (Try.f31.body).getD .skip
def diwanplay_Picks_Num.O : Nat → Nat := fun t => bif ([4, 19] : List Nat).any (Nat.beq t) then 1 else 0
def diwanplay_Picks_Num (m : Int) (o0_v : TPicks) : Option (Int × TPicks) :=
 br (decide (o0_v.n ≥ (o0_v.l.length : Int)))
  (some (0, o0_v))
  (ix o0_v.l (w64 ((w64 (o0_v.n + 1)) - 1)) fun x6_1 =>
  gd (!decide (m = 0)) <|
  some ((Int.tmod (w64 x6_1) m), (TPicks.mk o0_v.l (w64 (o0_v.n + 1)))))
theorem diwanplay_Picks_Num.meets (m : Int) (o0_v : TPicks) (z0 : Int) (z1 : TPicks) (h : diwanplay_Picks_Num m o0_v = some (z0, z1)) : Meets Try.prog ⟨31, [.ptr 1000 0, iv m], [[sS 1 e_u8 o0_v.l, iv o0_v.n]]⟩ ⟨iv z0, [[sS 1 e_u8 z1.l, iv z1.n]]⟩ := by
 refine kMt hmix diwanplay_Picks_Num.O Try.f31 bd31 7 ?_
 unfold diwanplay_Picks_Num at h
 refine kRs 7 [] [] .n ?_
 refine kSq ?_
 refine kRs 7 [Tm 14 (bv (decide (o0_v.n ≥ (o0_v.l.length : Int))))] [.s (.t 13) [iv (o0_v.l.length : Int)]] (.c (c_len (e := e_u8) (l := o0_v.l)) (.c rT .n)) ?_
 rcases br_inv h with ⟨b3_0, h⟩ | ⟨b3_0, h⟩
 ·refine kCt b3_0 ?_
  refine kRs 8 [Tm 4 (iv 0)] [] .n ?_
  refine kRt ?_
  have h_0 := some_inj h
  obtain ⟨g_1, h_1⟩ := Prod.mk.inj h_0
  subst g_1
  subst h_1
  exact kFr
 ·refine kCe b3_0 ?_
  refine kSk ?_
  refine kCd (cR (cR bd31)) [] ?_
  refine kRs 6 [Ob 1000 [sS 1 e_u8 o0_v.l, iv (w64 (o0_v.n + 1))]] [] .n ?_
  obtain ⟨x6_1, a6_2, e6_3, h⟩ := ix_inv h
  obtain ⟨c6_4, h⟩ := gd_inv h
  refine kRs 1 [Tm 4 (iv (Int.tmod (w64 x6_1) m))] [.c (e_u8 x6_1)] (.c (c_ix (e := e_u8) a6_2 e6_3) (.c (c_el (e := e_u8) e6_3) (.c c6_4 (.c rT .n)))) ?_
  refine kRt ?_
  have h_0 := some_inj h
  obtain ⟨g_1, h_1⟩ := Prod.mk.inj h_0
  subst g_1
  subst h_1
  exact kFr
def bd90 : Code := (Try.f90.body).getD .skip
def diwanplay_keys.O : Nat → Nat := fun t => bif ([0, 1] : List Nat).any (Nat.beq t) then 1 else 0
def diwanplay_keys : Option Unit :=
 some ()
theorem diwanplay_keys.meets (h : diwanplay_keys = some ()) : Meets Try.prog ⟨90, [], []⟩ ⟨.data (.slc true (some false) 1 (List.map e_s ([(⟨#[97]⟩ : ByteArray), (⟨#[98]⟩ : ByteArray), (⟨#[99]⟩ : ByteArray), (⟨#[100]⟩ : ByteArray), (⟨#[101, 101]⟩ : ByteArray), (⟨#[102, 102]⟩ : ByteArray)] : List ByteArray))), []⟩ := by
 refine kMt hmix diwanplay_keys.O Try.f90 bd90 0 ?_
 unfold diwanplay_keys at h
 refine kRs 0 [] [] .n ?_
 refine kRs 0 [Tm 0 (.data (.slc true (some false) 1 (List.map e_s ([(⟨#[97]⟩ : ByteArray), (⟨#[98]⟩ : ByteArray), (⟨#[99]⟩ : ByteArray), (⟨#[100]⟩ : ByteArray), (⟨#[101, 101]⟩ : ByteArray), (⟨#[102, 102]⟩ : ByteArray)] : List ByteArray))))] [] .n ?_
 refine kRt ?_
 cases some_inj h
 exact kFr
def bd64 : Code := (Try.f64.body).getD .skip
def diwanplay_Picks_Keys.O : Nat → Nat := fun t => bif ([4, 5, 6, 7, 8, 32] : List Nat).any (Nat.beq t) then 1 else 0
def diwanplay_Picks_Keys.lp6 (fu : Nat) (l6_0 : Int) (l6_3 : List ByteArray) (l6_5 : TPicks) : Nat → (List ByteArray) → Int → Int → Option (List ByteArray)
  | 0, _, _, _ => none
  | n_ + 1, l6_1, l6_2, l6_4 =>
  br (decide (l6_4 < (l6_3.length : Int)))
   (br (decide ((l6_1.length : Int) < l6_0))
    (br ((Int.tmod l6_2 2) == 1)
     (ix l6_3 l6_4 fun x11_1 =>
     gd (decide (l6_1.length + ([x11_1] : List ByteArray).length ≤ 4294967296)) <|
     diwanplay_Picks_Keys.lp6 fu l6_0 l6_3 l6_5 n_ (l6_1 ++ ([x11_1] : List ByteArray)) (w64 (Int.tdiv l6_2 2)) (w64 (l6_4 + 1)))
     (diwanplay_Picks_Keys.lp6 fu l6_0 l6_3 l6_5 n_ l6_1 (w64 (Int.tdiv l6_2 2)) (w64 (l6_4 + 1))))
    (some l6_1))
   (some l6_1)
def diwanplay_Picks_Keys.lp6_post (l6_0 : Int) (l6_3 : List ByteArray) (l6_5 : TPicks) (r_ : (List ByteArray)) : Wy → St → Prop := fun e τ => match r_ with
  | y0 => e = .exit 0 ∧ τ = ofL [Tm 5 (sO 1 e_s y0), Ob 1000 [sS 1 e_u8 l6_5.l, iv l6_5.n]]
theorem diwanplay_Picks_Keys.lp6_ok (fu : Nat) (l6_0 : Int) (l6_3 : List ByteArray) (l6_5 : TPicks) : ∀ (n_ : Nat) (l6_1 : List ByteArray) (l6_2 : Int) (l6_4 : Int) (r_ : (List ByteArray)), diwanplay_Picks_Keys.lp6 fu l6_0 l6_3 l6_5 n_ l6_1 l6_2 l6_4 = some r_ → WK Try.prog diwanplay_Picks_Keys.O (Ck Try.prog) (cB (cR (cL (cR (cR (cR (cR bd64))))))) [] (ofL [Tm 1 (iv l6_0), Tm 5 (sO 1 e_s l6_1), Tm 6 (iv l6_2), Tm 7 (.data (.slc true (some false) 1 (List.map e_s l6_3))), Tm 8 (iv l6_4), Ob 1000 [sS 1 e_u8 l6_5.l, iv l6_5.n]]) (diwanplay_Picks_Keys.lp6_post l6_0 l6_3 l6_5 r_) := by
 intro n_
 induction n_ with
 | zero => intro l6_1 l6_2 l6_4 r_ h; exact no_none h
 | succ n_ ih =>
  intro l6_1 l6_2 l6_4 r_ h
  refine kLp ?_
  refine kSq ?_
  rcases br_inv h with ⟨b7_1, h⟩ | ⟨b7_1, h⟩
  ·refine kRs 63 [Tm 21 (bv (decide ((l6_1.length : Int) < l6_0)))] [.s (.t 14) [iv (l6_3.length : Int)], .b true, .b true, .s (.t 18) [iv (l6_1.length : Int)], .b true, .b true, .b true] (.c (c_len (e := e_s) (l := l6_3)) (.r 2 b7_1 (.c (c_len (e := e_s) (l := l6_1)) (.r 3 b7_1 .n)))) ?_
   rcases br_inv h with ⟨b8_0, h⟩ | ⟨b8_0, h⟩
   ·refine kCt b8_0 ?_
    refine kSk ?_
    refine kCd (cR (cB (cB (cR (cL (cR (cR (cR (cR bd64))))))))) [.lp (cB (cR (cL (cR (cR (cR (cR bd64)))))))] ?_
    refine kSq ?_
    refine kBk 1 ?_
    refine kSq ?_
    refine kRs 126 [Tm 26 (bv ((Int.tmod l6_2 2) == 1))] [] (.c rT .n) ?_
    rcases br_inv h with ⟨b10_0, h⟩ | ⟨b10_0, h⟩
    ·refine kCt b10_0 ?_
     obtain ⟨x11_1, a11_2, e11_3, h⟩ := ix_inv h
     obtain ⟨c11_4, h⟩ := gd_inv h
     refine kRc 122 [Tm 5 (sO 1 e_s (l6_1 ++ ([x11_1] : List ByteArray)))] [.c (e_s x11_1), .s (.t 33) [sO 1 e_s (l6_1 ++ ([x11_1] : List ByteArray))]] (.c (c_ix (e := e_s) a11_2 e11_3) (.c (c_el (e := e_s) e11_3) (.c (c_al (e := e_s) (f := e_s) c11_4) (.c (congrArg (fun d : DV => [AV.data d]) (c_app (e := e_s) (s := 1) (l := l6_1) (m := ([x11_1] : List ByteArray)))) .n)))) (cR (cB (cL (cR (cB (cB (cR (cL (cR (cR (cR (cR bd64)))))))))))) [.blk 1, .seq (cR (cR (cB (cB (cR (cL (cR (cR (cR (cR bd64)))))))))), .lp (cB (cR (cL (cR (cR (cR (cR bd64)))))))] ?_
     refine kRc 59 [Tm 6 (iv (w64 (Int.tdiv l6_2 2)))] [] (.c rT .n) (cR (cR (cB (cB (cR (cL (cR (cR (cR (cR bd64)))))))))) [.lp (cB (cR (cL (cR (cR (cR (cR bd64)))))))] ?_
     refine kRc 47 [Tm 8 (iv (w64 (l6_4 + 1)))] [] .n (cB (cR (cL (cR (cR (cR (cR bd64))))))) [] ?_
     exact kWk (ih (l6_1 ++ ([x11_1] : List ByteArray)) (w64 (Int.tdiv l6_2 2)) (w64 (l6_4 + 1)) _ h)
    ·refine kCe b10_0 ?_
     refine kSk ?_
     refine kCd (cR (cB (cL (cR (cB (cB (cR (cL (cR (cR (cR (cR bd64)))))))))))) [.blk 1, .seq (cR (cR (cB (cB (cR (cL (cR (cR (cR (cR bd64)))))))))), .lp (cB (cR (cL (cR (cR (cR (cR bd64)))))))] ?_
     refine kRc 118 [Tm 6 (iv (w64 (Int.tdiv l6_2 2)))] [] (.c rT .n) (cR (cR (cB (cB (cR (cL (cR (cR (cR (cR bd64)))))))))) [.lp (cB (cR (cL (cR (cR (cR (cR bd64)))))))] ?_
     refine kRc 47 [Tm 8 (iv (w64 (l6_4 + 1)))] [] .n (cB (cR (cL (cR (cR (cR (cR bd64))))))) [] ?_
     exact kWk (ih l6_1 (w64 (Int.tdiv l6_2 2)) (w64 (l6_4 + 1)) _ h)
   ·refine kCe b8_0 ?_
    cases some_inj h
    refine kWo ?_
    refine kXt 0 ?_
    exact kOut
  ·refine kRs 63 [Tm 21 (bv false)] (.s (.t 14) [iv (l6_3.length : Int)] :: (rp 5 (.b false) [])) (.c (c_len (e := e_s) (l := l6_3)) (.r 5 b7_1 .n)) ?_
   refine kCe rF ?_
   cases some_inj h
   refine kWo ?_
   refine kXt 0 ?_
   exact kOut
def diwanplay_Picks_Keys (fu : Nat) (most : Int) (o0_v : TPicks) : Option (List ByteArray × TPicks) :=
 bd (diwanplay_Picks_Num 64 o0_v) fun (r3_1, r3_2) =>
 bd (diwanplay_keys) fun _ =>
 bd (diwanplay_Picks_Keys.lp6 fu most ([(⟨#[97]⟩ : ByteArray), (⟨#[98]⟩ : ByteArray), (⟨#[99]⟩ : ByteArray), (⟨#[100]⟩ : ByteArray), (⟨#[101, 101]⟩ : ByteArray), (⟨#[102, 102]⟩ : ByteArray)] : List ByteArray) r3_2 fu [] r3_1 0) fun y16_0 =>
 some (y16_0, r3_2)
theorem diwanplay_Picks_Keys.meets (fu : Nat) (most : Int) (o0_v : TPicks) (z0 : List ByteArray) (z1 : TPicks) (h : diwanplay_Picks_Keys fu most o0_v = some (z0, z1)) : Meets Try.prog ⟨64, [.ptr 1000 0, iv most], [[sS 1 e_u8 o0_v.l, iv o0_v.n]]⟩ ⟨sO 1 e_s z0, [[sS 1 e_u8 z1.l, iv z1.n]]⟩ := by
 refine kMt hmix diwanplay_Picks_Keys.O Try.f64 bd64 7 ?_
 unfold diwanplay_Picks_Keys at h
 refine kRs 7 [] [] .n ?_
 refine kRs 7 [Tm 5 (.data (.slc true (some true) 1 (List.map e_s [])))] [] .n ?_
 obtain ⟨⟨r3_1, r3_2⟩, h3_3, h⟩ := bd_inv h
 refine kRs 5 [Tm 6 (iv r3_1), Ob 1000 [sS 1 e_u8 r3_2.l, iv r3_2.n]] [.a ⟨iv r3_1, [[sS 1 e_u8 r3_2.l, iv r3_2.n]]⟩] (.c (Asks.of (C := Meets Try.prog) (diwanplay_Picks_Num.meets 64 o0_v _ _ h3_3)) .n) ?_
 obtain ⟨_, h4_1, h⟩ := bd_inv h
 refine kRs 15 [Tm 7 (.data (.slc true (some false) 1 (List.map e_s ([(⟨#[97]⟩ : ByteArray), (⟨#[98]⟩ : ByteArray), (⟨#[99]⟩ : ByteArray), (⟨#[100]⟩ : ByteArray), (⟨#[101, 101]⟩ : ByteArray), (⟨#[102, 102]⟩ : ByteArray)] : List ByteArray))))] [.a ⟨.data (.slc true (some false) 1 (List.map e_s ([(⟨#[97]⟩ : ByteArray), (⟨#[98]⟩ : ByteArray), (⟨#[99]⟩ : ByteArray), (⟨#[100]⟩ : ByteArray), (⟨#[101, 101]⟩ : ByteArray), (⟨#[102, 102]⟩ : ByteArray)] : List ByteArray))), []⟩] (.c (Asks.of (C := Meets Try.prog) (diwanplay_keys.meets  h4_1)) .n) ?_
 refine kSq ?_
 refine kRs 31 [Tm 8 (iv 0)] [] .n ?_
 refine kBk 0 ?_
 obtain ⟨o16, ho16, h⟩ := bd_inv h
 refine kUs (diwanplay_Picks_Keys.lp6_ok fu most ([(⟨#[97]⟩ : ByteArray), (⟨#[98]⟩ : ByteArray), (⟨#[99]⟩ : ByteArray), (⟨#[100]⟩ : ByteArray), (⟨#[101, 101]⟩ : ByteArray), (⟨#[102, 102]⟩ : ByteArray)] : List ByteArray) r3_2 _ [] r3_1 0 _ ho16) ?_
 intro e_ τ_ hp_
 obtain ⟨y16_0, rfl⟩ : ∃ y, y = o16 := ⟨_, rfl⟩
 obtain ⟨rfl, rfl⟩ := hp_
 refine kCd (cR (cR (cR (cR (cR bd64))))) [] ?_
 refine kRs 2 [Tm 4 (sO 1 e_s y16_0)] [] .n ?_
 refine kRt ?_
 have h_0 := some_inj h
 obtain ⟨g_1, h_1⟩ := Prod.mk.inj h_0
 subst g_1
 subst h_1
 exact kFr
def bd65 : Code := (Try.f65.body).getD .skip
def diwanplay_Picks_Val.O : Nat → Nat := fun t => bif ([2, 3] : List Nat).any (Nat.beq t) then 1 else 0
def diwanplay_Picks_Val (o0_v : TPicks) : Option (ByteArray × TPicks) :=
 bd (diwanplay_Picks_Num 5 o0_v) fun (r2_1, r2_2) =>
 ix ([ByteArray.empty, (⟨#[118]⟩ : ByteArray), (⟨#[119]⟩ : ByteArray), (⟨#[120, 120]⟩ : ByteArray), (⟨#[115, 105, 120, 116, 101, 101, 110, 45, 98, 121, 116, 101, 115, 45, 111, 107]⟩ : ByteArray)] : List ByteArray) r2_1 fun x2_4 =>
 some (x2_4, r2_2)
theorem diwanplay_Picks_Val.meets (o0_v : TPicks) (z0 : ByteArray) (z1 : TPicks) (h : diwanplay_Picks_Val o0_v = some (z0, z1)) : Meets Try.prog ⟨65, [.ptr 1000 0], [[sS 1 e_u8 o0_v.l, iv o0_v.n]]⟩ ⟨sv z0, [[sS 1 e_u8 z1.l, iv z1.n]]⟩ := by
 refine kMt hmix diwanplay_Picks_Val.O Try.f65 bd65 3 ?_
 unfold diwanplay_Picks_Val at h
 refine kRs 3 [] [] .n ?_
 obtain ⟨⟨r2_1, r2_2⟩, h2_3, h⟩ := bd_inv h
 obtain ⟨x2_4, a2_5, e2_6, h⟩ := ix_inv h
 refine kRs 0 [Tm 2 (sv x2_4), Ob 1000 [sS 1 e_u8 r2_2.l, iv r2_2.n]] [.a ⟨iv r2_1, [[sS 1 e_u8 r2_2.l, iv r2_2.n]]⟩, .c (e_s x2_4)] (.c (Asks.of (C := Meets Try.prog) (diwanplay_Picks_Num.meets 5 o0_v _ _ h2_3)) (.c (c_ix (e := e_s) a2_5 e2_6) (.c (c_el (e := e_s) e2_6) .n))) ?_
 refine kRt ?_
 have h_0 := some_inj h
 obtain ⟨g_1, h_1⟩ := Prod.mk.inj h_0
 subst g_1
 subst h_1
 exact kFr
def bd32 : Code := (Try.f32.body).getD .skip
def diwanplay_Picks_Txn.O : Nat → Nat := fun t => bif ([4, 5, 6, 7, 8, 9, 10, 11, 18, 35, 45, 51, 52, 68, 77, 78, 80] : List Nat).any (Nat.beq t) then 1 else 0
def diwanplay_Picks_Txn.lp5 (fu : Nat) (l5_0 : Int) (l5_1 : List ByteArray) (l5_3 : TTxn) : Nat → Int → TTxn → TPicks → Option (TTxn × TPicks)
  | 0, _, _, _ => none
  | n_ + 1, l5_2, l5_4, l5_5 =>
  br (decide (l5_2 < (l5_1.length : Int)))
   (ix l5_1 l5_2 fun x8_1 =>
   bd (diwanplay_Picks_Num (if l5_0 < 1 then 1 else l5_0) l5_5) fun (r8_4, r8_5) =>
   jn (fun (j12_5 : TRead) (j12_6 : TPicks) =>
    gd (decide (l5_4.Reads.length + ([j12_5] : List TRead).length ≤ 4294967296)) <|
    diwanplay_Picks_Txn.lp5 fu l5_0 l5_1 l5_3 n_ (w64 (l5_2 + 1)) (TTxn.mk l5_4.Session l5_4.Seq (l5_4.Reads ++ ([j12_5] : List TRead)) l5_4.Writes) j12_6) fun k12 =>
   br (decide (r8_4 > 0))
    (bd (diwanplay_Picks_Num 4 r8_5) fun (r9_2, r9_3) =>
    br (decide (r9_2 > 0))
     (bd (diwanplay_Picks_Val r9_3) fun (r11_1, r11_2) =>
     k12 (TRead.mk x8_1 r8_4 r11_1 true) r11_2)
     (k12 (TRead.mk x8_1 r8_4 ByteArray.empty false) r9_3))
    (k12 (TRead.mk x8_1 r8_4 ByteArray.empty false) r8_5))
   (some (l5_4, l5_5))
def diwanplay_Picks_Txn.lp5_post (l5_0 : Int) (l5_1 : List ByteArray) (l5_3 : TTxn) (r_ : (TTxn × TPicks)) : Wy → St → Prop := fun e τ => match r_ with
  | (y0, y1) => e = .exit 0 ∧ τ = ofL [Tm 0 (.ptr 1000 0), Tm 4 (.ptr 4 0), Tm 5 (.ptr 5 0), Ob 4 (TTxn.ob_0011 l5_3), Ob 5 (TTxn.ob_0011 y0), Ob 1000 [sS 1 e_u8 y1.l, iv y1.n]]
theorem diwanplay_Picks_Txn.lp5_ok (fu : Nat) (l5_0 : Int) (l5_1 : List ByteArray) (l5_3 : TTxn) : ∀ (n_ : Nat) (l5_2 : Int) (l5_4 : TTxn) (l5_5 : TPicks) (r_ : (TTxn × TPicks)), diwanplay_Picks_Txn.lp5 fu l5_0 l5_1 l5_3 n_ l5_2 l5_4 l5_5 = some r_ → WK Try.prog diwanplay_Picks_Txn.O (Ck Try.prog) (cB (cR (cL (cR (cR (cR bd32)))))) [] (ofL [Tm 0 (.ptr 1000 0), Tm 1 (iv l5_0), Tm 4 (.ptr 4 0), Tm 5 (.ptr 5 0), Tm 6 (sO 1 e_s l5_1), Tm 7 (iv l5_2), Ob 4 (TTxn.ob_0011 l5_3), Ob 5 (TTxn.ob_0011 l5_4), Ob 1000 [sS 1 e_u8 l5_5.l, iv l5_5.n]]) (diwanplay_Picks_Txn.lp5_post l5_0 l5_1 l5_3 r_) := by
 intro n_
 induction n_ with
 | zero => intro l5_2 l5_4 l5_5 r_ h; exact no_none h
 | succ n_ ih =>
  intro l5_2 l5_4 l5_5 r_ h
  refine kLp ?_
  refine kSq ?_
  refine kRs 511 [Tm 24 (bv (decide (l5_2 < (l5_1.length : Int))))] [.s (.t 23) [iv (l5_1.length : Int)]] (.c (c_len (e := e_s) (l := l5_1)) .n) ?_
  rcases br_inv h with ⟨b7_0, h⟩ | ⟨b7_0, h⟩
  ·refine kCt b7_0 ?_
   refine kSk ?_
   refine kCd (cR (cB (cB (cR (cL (cR (cR (cR bd32)))))))) [.lp (cB (cR (cL (cR (cR (cR bd32))))))] ?_
   refine kSq ?_
   refine kBk 1 ?_
   obtain ⟨x8_1, a8_2, e8_3, h⟩ := ix_inv h
   obtain ⟨⟨r8_4, r8_5⟩, h8_6, h⟩ := bd_inv h
   refine kRs 510 [Tm 8 (.ptr 8 0), Ob 8 (TRead.ob (TRead.mk x8_1 r8_4 ByteArray.empty false)), Ob 1000 [sS 1 e_u8 r8_5.l, iv r8_5.n]] [.c (e_s x8_1), .a ⟨iv r8_4, [[sS 1 e_u8 r8_5.l, iv r8_5.n]]⟩] (.c (c_ix (e := e_s) a8_2 e8_3) (.c (c_el (e := e_s) e8_3) (.c (Asks.of (C := Meets Try.prog) (diwanplay_Picks_Num.meets (if l5_0 < 1 then 1 else l5_0) l5_5 _ _ h8_6)) (.c rT .n)))) ?_
   obtain ⟨k12, hk12, h⟩ := jn_inv h
   have Jk12 : ∀ (j12_5 : TRead) (j12_6 : TPicks), k12 j12_5 j12_6 = some r_ → WK Try.prog diwanplay_Picks_Txn.O (Ck Try.prog) (cR (cR (cB (cL (cR (cB (cB (cR (cL (cR (cR (cR bd32)))))))))))) [.blk 1, .seq (cR (cR (cB (cB (cR (cL (cR (cR (cR bd32))))))))), .lp (cB (cR (cL (cR (cR (cR bd32))))))] (ofL [Tm 0 (.ptr 1000 0), Tm 1 (iv l5_0), Tm 4 (.ptr 4 0), Tm 5 (.ptr 5 0), Tm 6 (sO 1 e_s l5_1), Tm 7 (iv l5_2), Tm 8 (.ptr 8 0), Ob 4 (TTxn.ob_0011 l5_3), Ob 5 (TTxn.ob_0011 l5_4), Ob 8 (TRead.ob j12_5), Ob 1000 [sS 1 e_u8 j12_6.l, iv j12_6.n]]) (diwanplay_Picks_Txn.lp5_post l5_0 l5_1 l5_3 r_) := by
    intro j12_5 j12_6 h
    rw [hk12] at h
    obtain ⟨c13_1, h⟩ := gd_inv h
    refine kRc 1215 [Ob 5 (TTxn.ob_0011 (TTxn.mk l5_4.Session l5_4.Seq (l5_4.Reads ++ ([j12_5] : List TRead)) l5_4.Writes))] [.s (.t 52) [sO 4 TRead.en (l5_4.Reads ++ ([j12_5] : List TRead))]] (.c (c_al (e := TRead.en) (f := TRead.en) c13_1) (.c (congrArg (fun d : DV => [AV.data d]) (c_app (e := TRead.en) (s := 4) (l := l5_4.Reads) (m := ([j12_5] : List TRead)))) .n)) (cR (cR (cB (cB (cR (cL (cR (cR (cR bd32))))))))) [.lp (cB (cR (cL (cR (cR (cR bd32))))))] ?_
    refine kRc 447 [Tm 7 (iv (w64 (l5_2 + 1)))] [] .n (cB (cR (cL (cR (cR (cR bd32)))))) [] ?_
    exact kWk (ih (w64 (l5_2 + 1)) (TTxn.mk l5_4.Session l5_4.Seq (l5_4.Reads ++ ([j12_5] : List TRead)) l5_4.Writes) j12_6 _ h)
   clear hk12
   refine kSq ?_
   rcases br_inv h with ⟨b9_1, h⟩ | ⟨b9_1, h⟩
   ·obtain ⟨⟨r9_2, r9_3⟩, h9_4, h⟩ := bd_inv h
    refine kRs 2043 [Tm 43 (bv (decide (r9_2 > 0))), Ob 1000 [sS 1 e_u8 r9_3.l, iv r9_3.n]] [.b true, .b true, .a ⟨iv r9_2, [[sS 1 e_u8 r9_3.l, iv r9_3.n]]⟩, .b true, .b true] (.r 2 b9_1 (.c (Asks.of (C := Meets Try.prog) (diwanplay_Picks_Num.meets 4 r8_5 _ _ h9_4)) (.r 2 b9_1 .n))) ?_
    rcases br_inv h with ⟨b10_0, h⟩ | ⟨b10_0, h⟩
    ·refine kCt b10_0 ?_
     obtain ⟨⟨r11_1, r11_2⟩, h11_3, h⟩ := bd_inv h
     refine kRc 4084 [Ob 8 (TRead.ob (TRead.mk x8_1 r8_4 r11_1 true)), Ob 1000 [sS 1 e_u8 r11_2.l, iv r11_2.n]] [.a ⟨sv r11_1, [[sS 1 e_u8 r11_2.l, iv r11_2.n]]⟩] (.c (Asks.of (C := Meets Try.prog) (diwanplay_Picks_Val.meets r9_3 _ _ h11_3)) .n) (cR (cR (cB (cL (cR (cB (cB (cR (cL (cR (cR (cR bd32)))))))))))) [.blk 1, .seq (cR (cR (cB (cB (cR (cL (cR (cR (cR bd32))))))))), .lp (cB (cR (cL (cR (cR (cR bd32))))))] ?_
     exact kWk (Jk12 (TRead.mk x8_1 r8_4 r11_1 true) r11_2 h)
    ·refine kCe b10_0 ?_
     refine kSk ?_
     refine kCd (cR (cR (cB (cL (cR (cB (cB (cR (cL (cR (cR (cR bd32)))))))))))) [.blk 1, .seq (cR (cR (cB (cB (cR (cL (cR (cR (cR bd32))))))))), .lp (cB (cR (cL (cR (cR (cR bd32))))))] ?_
     exact kWk (Jk12 (TRead.mk x8_1 r8_4 ByteArray.empty false) r9_3 h)
   ·refine kRs 2047 [Tm 43 (bv false)] (rp 4 (.b false) []) (.r 4 b9_1 .n) ?_
    refine kCe rF ?_
    refine kSk ?_
    refine kCd (cR (cR (cB (cL (cR (cB (cB (cR (cL (cR (cR (cR bd32)))))))))))) [.blk 1, .seq (cR (cR (cB (cB (cR (cL (cR (cR (cR bd32))))))))), .lp (cB (cR (cL (cR (cR (cR bd32))))))] ?_
    exact kWk (Jk12 (TRead.mk x8_1 r8_4 ByteArray.empty false) r8_5 h)
  ·refine kCe b7_0 ?_
   cases some_inj h
   refine kWo ?_
   refine kXt 0 ?_
   exact kOut
def diwanplay_Picks_Txn.lp18 (fu : Nat) (l18_0 : List ByteArray) (l18_2 : TTxn) : Nat → Int → TTxn → TPicks → Option (TTxn × TPicks)
  | 0, _, _, _ => none
  | n_ + 1, l18_1, l18_3, l18_4 =>
  br (decide (l18_1 < (l18_0.length : Int)))
   (ix l18_0 l18_1 fun x21_1 =>
   bd (diwanplay_Picks_Val l18_4) fun (r21_4, r21_5) =>
   jn (fun (j25_4 : TWrite) (j25_5 : TPicks) =>
    gd (decide (l18_3.Writes.length + ([j25_4] : List TWrite).length ≤ 4294967296)) <|
    diwanplay_Picks_Txn.lp18 fu l18_0 l18_2 n_ (w64 (l18_1 + 1)) (TTxn.mk l18_3.Session l18_3.Seq l18_3.Reads (l18_3.Writes ++ ([j25_4] : List TWrite))) j25_5) fun k25 =>
   bd (diwanplay_Picks_Num 4 r21_5) fun (r22_1, r22_2) =>
   br (r22_1 == 0)
    (k25 (TWrite.mk x21_1 ByteArray.empty true) r22_2)
    (k25 (TWrite.mk x21_1 r21_4 false) r22_2))
   (some (l18_3, l18_4))
def diwanplay_Picks_Txn.lp18_post (l18_0 : List ByteArray) (l18_2 : TTxn) (r_ : (TTxn × TPicks)) : Wy → St → Prop := fun e τ => match r_ with
  | (y0, y1) => e = .exit 2 ∧ τ = ofL [Tm 4 (.ptr 4 0), Tm 5 (.ptr 5 0), Ob 4 (TTxn.ob_0011 l18_2), Ob 5 (TTxn.ob_0011 y0), Ob 1000 [sS 1 e_u8 y1.l, iv y1.n]]
theorem diwanplay_Picks_Txn.lp18_ok (fu : Nat) (l18_0 : List ByteArray) (l18_2 : TTxn) : ∀ (n_ : Nat) (l18_1 : Int) (l18_3 : TTxn) (l18_4 : TPicks) (r_ : (TTxn × TPicks)), diwanplay_Picks_Txn.lp18 fu l18_0 l18_2 n_ l18_1 l18_3 l18_4 = some r_ → WK Try.prog diwanplay_Picks_Txn.O (Ck Try.prog) (cB (cR (cL (cR (cR (cR (cR (cR bd32)))))))) [] (ofL [Tm 0 (.ptr 1000 0), Tm 4 (.ptr 4 0), Tm 5 (.ptr 5 0), Tm 9 (sO 1 e_s l18_0), Tm 10 (iv l18_1), Ob 4 (TTxn.ob_0011 l18_2), Ob 5 (TTxn.ob_0011 l18_3), Ob 1000 [sS 1 e_u8 l18_4.l, iv l18_4.n]]) (diwanplay_Picks_Txn.lp18_post l18_0 l18_2 r_) := by
 intro n_
 induction n_ with
 | zero => intro l18_1 l18_3 l18_4 r_ h; exact no_none h
 | succ n_ ih =>
  intro l18_1 l18_3 l18_4 r_ h
  refine kLp ?_
  refine kSq ?_
  refine kRs 255 [Tm 59 (bv (decide (l18_1 < (l18_0.length : Int))))] [.s (.t 58) [iv (l18_0.length : Int)]] (.c (c_len (e := e_s) (l := l18_0)) .n) ?_
  rcases br_inv h with ⟨b20_0, h⟩ | ⟨b20_0, h⟩
  ·refine kCt b20_0 ?_
   refine kSk ?_
   refine kCd (cR (cB (cB (cR (cL (cR (cR (cR (cR (cR bd32)))))))))) [.lp (cB (cR (cL (cR (cR (cR (cR (cR bd32))))))))] ?_
   refine kSq ?_
   refine kBk 3 ?_
   obtain ⟨x21_1, a21_2, e21_3, h⟩ := ix_inv h
   obtain ⟨⟨r21_4, r21_5⟩, h21_6, h⟩ := bd_inv h
   refine kRs 254 [Tm 11 (.ptr 11 0), Ob 11 (TWrite.ob (TWrite.mk x21_1 r21_4 false)), Ob 1000 [sS 1 e_u8 r21_5.l, iv r21_5.n]] [.c (e_s x21_1), .a ⟨sv r21_4, [[sS 1 e_u8 r21_5.l, iv r21_5.n]]⟩] (.c (c_ix (e := e_s) a21_2 e21_3) (.c (c_el (e := e_s) e21_3) (.c (Asks.of (C := Meets Try.prog) (diwanplay_Picks_Val.meets l18_4 _ _ h21_6)) (.c rT .n)))) ?_
   obtain ⟨k25, hk25, h⟩ := jn_inv h
   have Jk25 : ∀ (j25_4 : TWrite) (j25_5 : TPicks), k25 j25_4 j25_5 = some r_ → WK Try.prog diwanplay_Picks_Txn.O (Ck Try.prog) (cR (cR (cB (cL (cR (cB (cB (cR (cL (cR (cR (cR (cR (cR bd32)))))))))))))) [.blk 3, .seq (cR (cR (cB (cB (cR (cL (cR (cR (cR (cR (cR bd32))))))))))), .lp (cB (cR (cL (cR (cR (cR (cR (cR bd32))))))))] (ofL [Tm 0 (.ptr 1000 0), Tm 4 (.ptr 4 0), Tm 5 (.ptr 5 0), Tm 9 (sO 1 e_s l18_0), Tm 10 (iv l18_1), Tm 11 (.ptr 11 0), Ob 4 (TTxn.ob_0011 l18_2), Ob 5 (TTxn.ob_0011 l18_3), Ob 11 (TWrite.ob j25_4), Ob 1000 [sS 1 e_u8 j25_5.l, iv j25_5.n]]) (diwanplay_Picks_Txn.lp18_post l18_0 l18_2 r_) := by
    intro j25_4 j25_5 h
    rw [hk25] at h
    obtain ⟨c26_1, h⟩ := gd_inv h
    refine kRc 607 [Ob 5 (TTxn.ob_0011 (TTxn.mk l18_3.Session l18_3.Seq l18_3.Reads (l18_3.Writes ++ ([j25_4] : List TWrite))))] [.s (.t 78) [sO 3 TWrite.en (l18_3.Writes ++ ([j25_4] : List TWrite))]] (.c (c_al (e := TWrite.en) (f := TWrite.en) c26_1) (.c (congrArg (fun d : DV => [AV.data d]) (c_app (e := TWrite.en) (s := 3) (l := l18_3.Writes) (m := ([j25_4] : List TWrite)))) .n)) (cR (cR (cB (cB (cR (cL (cR (cR (cR (cR (cR bd32))))))))))) [.lp (cB (cR (cL (cR (cR (cR (cR (cR bd32))))))))] ?_
    refine kRc 223 [Tm 10 (iv (w64 (l18_1 + 1)))] [] .n (cB (cR (cL (cR (cR (cR (cR (cR bd32)))))))) [] ?_
    exact kWk (ih (w64 (l18_1 + 1)) (TTxn.mk l18_3.Session l18_3.Seq l18_3.Reads (l18_3.Writes ++ ([j25_4] : List TWrite))) j25_5 _ h)
   clear hk25
   refine kSq ?_
   obtain ⟨⟨r22_1, r22_2⟩, h22_3, h⟩ := bd_inv h
   refine kRs 1019 [Tm 71 (bv (r22_1 == 0)), Ob 1000 [sS 1 e_u8 r22_2.l, iv r22_2.n]] [.a ⟨iv r22_1, [[sS 1 e_u8 r22_2.l, iv r22_2.n]]⟩] (.c (Asks.of (C := Meets Try.prog) (diwanplay_Picks_Num.meets 4 r21_5 _ _ h22_3)) .n) ?_
   rcases br_inv h with ⟨b23_0, h⟩ | ⟨b23_0, h⟩
   ·refine kCt b23_0 ?_
    refine kRc 2038 [Ob 11 (TWrite.ob (TWrite.mk x21_1 ByteArray.empty true))] [] .n (cR (cR (cB (cL (cR (cB (cB (cR (cL (cR (cR (cR (cR (cR bd32)))))))))))))) [.blk 3, .seq (cR (cR (cB (cB (cR (cL (cR (cR (cR (cR (cR bd32))))))))))), .lp (cB (cR (cL (cR (cR (cR (cR (cR bd32))))))))] ?_
    exact kWk (Jk25 (TWrite.mk x21_1 ByteArray.empty true) r22_2 h)
   ·refine kCe b23_0 ?_
    refine kSk ?_
    refine kCd (cR (cR (cB (cL (cR (cB (cB (cR (cL (cR (cR (cR (cR (cR bd32)))))))))))))) [.blk 3, .seq (cR (cR (cB (cB (cR (cL (cR (cR (cR (cR (cR bd32))))))))))), .lp (cB (cR (cL (cR (cR (cR (cR (cR bd32))))))))] ?_
    exact kWk (Jk25 (TWrite.mk x21_1 r21_4 false) r22_2 h)
  ·refine kCe b20_0 ?_
   cases some_inj h
   refine kWo ?_
   refine kXt 2 ?_
   exact kOut
def diwanplay_Picks_Txn (fu : Nat) (most : Int) (o0_v : TPicks) : Option (TTxn × TPicks) :=
 bd (diwanplay_Picks_Num 3 o0_v) fun (r2_1, r2_2) =>
 bd (diwanplay_Picks_Num 6 r2_2) fun (r2_4, r2_5) =>
 bd (diwanplay_Picks_Keys fu 3 r2_5) fun (r3_1, r3_2) =>
 bd (diwanplay_Picks_Txn.lp5 fu most r3_1 (TTxn.mk 0 0 [] []) fu 0 (TTxn.mk (w64 (1 + r2_1)) (w64 (1 + r2_4)) [] []) r3_2) fun (y15_0, y15_1) =>
 bd (diwanplay_Picks_Keys fu 3 y15_1) fun (r16_1, r16_2) =>
 bd (diwanplay_Picks_Txn.lp18 fu r16_1 (TTxn.mk 0 0 [] []) fu 0 y15_0 r16_2) fun (y28_0, y28_1) =>
 some (y28_0, y28_1)
theorem diwanplay_Picks_Txn.meets (fu : Nat) (most : Int) (o0_v : TPicks) (z0 : TTxn) (z1 : TPicks) (h : diwanplay_Picks_Txn fu most o0_v = some (z0, z1)) : Meets Try.prog ⟨32, [.ptr 1000 0, iv most], [[sS 1 e_u8 o0_v.l, iv o0_v.n]]⟩ ⟨.data (TTxn.ag_0011 z0), [[sS 1 e_u8 z1.l, iv z1.n]]⟩ := by
 refine kMt hmix diwanplay_Picks_Txn.O Try.f32 bd32 7 ?_
 unfold diwanplay_Picks_Txn at h
 refine kRs 7 [Tm 4 (.ptr 4 0), Ob 4 (TTxn.ob_0011 (TTxn.mk 0 0 [] []))] [] .n ?_
 obtain ⟨⟨r2_1, r2_2⟩, h2_3, h⟩ := bd_inv h
 obtain ⟨⟨r2_4, r2_5⟩, h2_6, h⟩ := bd_inv h
 refine kRs 15 [Tm 5 (.ptr 5 0), Ob 5 (TTxn.ob_0011 (TTxn.mk (w64 (1 + r2_1)) (w64 (1 + r2_4)) [] [])), Ob 1000 [sS 1 e_u8 r2_5.l, iv r2_5.n]] [.a ⟨iv r2_1, [[sS 1 e_u8 r2_2.l, iv r2_2.n]]⟩, .a ⟨iv r2_4, [[sS 1 e_u8 r2_5.l, iv r2_5.n]]⟩] (.c (Asks.of (C := Meets Try.prog) (diwanplay_Picks_Num.meets 3 o0_v _ _ h2_3)) (.c (Asks.of (C := Meets Try.prog) (diwanplay_Picks_Num.meets 6 r2_2 _ _ h2_6)) .n)) ?_
 obtain ⟨⟨r3_1, r3_2⟩, h3_3, h⟩ := bd_inv h
 refine kRs 123 [Tm 6 (sO 1 e_s r3_1), Ob 1000 [sS 1 e_u8 r3_2.l, iv r3_2.n]] [.a ⟨sO 1 e_s r3_1, [[sS 1 e_u8 r3_2.l, iv r3_2.n]]⟩] (.c (Asks.of (C := Meets Try.prog) (diwanplay_Picks_Keys.meets fu 3 r2_5 _ _ h3_3)) .n) ?_
 refine kSq ?_
 refine kRs 255 [Tm 7 (iv 0)] [] .n ?_
 refine kBk 0 ?_
 obtain ⟨o15, ho15, h⟩ := bd_inv h
 refine kUs (diwanplay_Picks_Txn.lp5_ok fu most r3_1 (TTxn.mk 0 0 [] []) _ 0 (TTxn.mk (w64 (1 + r2_1)) (w64 (1 + r2_4)) [] []) r3_2 _ ho15) ?_
 intro e_ τ_ hp_
 obtain ⟨y15_0, y15_1⟩ := o15
 obtain ⟨rfl, rfl⟩ := hp_
 refine kCd (cR (cR (cR (cR bd32)))) [] ?_
 obtain ⟨⟨r16_1, r16_2⟩, h16_3, h⟩ := bd_inv h
 refine kRs 31 [Tm 9 (sO 1 e_s r16_1), Ob 1000 [sS 1 e_u8 r16_2.l, iv r16_2.n]] [.a ⟨sO 1 e_s r16_1, [[sS 1 e_u8 r16_2.l, iv r16_2.n]]⟩] (.c (Asks.of (C := Meets Try.prog) (diwanplay_Picks_Keys.meets fu 3 y15_1 _ _ h16_3)) .n) ?_
 refine kSq ?_
 refine kRs 127 [Tm 10 (iv 0)] [] .n ?_
 refine kBk 2 ?_
 obtain ⟨o28, ho28, h⟩ := bd_inv h
 refine kUs (diwanplay_Picks_Txn.lp18_ok fu r16_1 (TTxn.mk 0 0 [] []) _ 0 y15_0 r16_2 _ ho28) ?_
 intro e_ τ_ hp_
 obtain ⟨y28_0, y28_1⟩ := o28
 obtain ⟨rfl, rfl⟩ := hp_
 refine kCd (cR (cR (cR (cR (cR (cR bd32)))))) [] ?_
 refine kRs 17 [Ob 4 (TTxn.ob_0011 y28_0)] [] .n ?_
 refine kRt ?_
 have h_0 := some_inj h
 obtain ⟨g_1, h_1⟩ := Prod.mk.inj h_0
 subst g_1
 subst h_1
 exact kFr
def bd27 : Code := (Try.f27.body).getD .skip
def raft_Again.O : Nat → Nat := fun t => bif ([1, 2, 3, 10, 14, 17, 21] : List Nat).any (Nat.beq t) then 1 else 0
def raft_Again (fu : Nat) (r_v : TRaft) : Option TRaft :=
 bd (raft_New r_v.Me r_v.Nodes r_v.Wait) fun r2_1 =>
 bd (raft_entries fu r_v.Log) fun r3_1 =>
 some (TRaft.mk r2_1.Me r2_1.Nodes r2_1.Wait r_v.Term r_v.Vote r3_1 r2_1.Commit r2_1.Role r2_1.Leader r2_1.Votes r2_1.Next r2_1.Match r2_1.Clock)
theorem raft_Again.meets (fu : Nat) (r_v : TRaft) (z0 : TRaft) (h : raft_Again fu r_v = some z0) : Meets Try.prog ⟨27, [.data (TRaft.ag r_v)], []⟩ ⟨.data (TRaft.ag_000001000111 z0), []⟩ := by
 refine kMt hmix raft_Again.O Try.f27 bd27 1 ?_
 unfold raft_Again at h
 refine kRs 0 [Tm 1 (.ptr 1 0), Tm 2 (.ptr 2 0), Ob 1 (TRaft.ob r_v), Ob 2 (TRaft.ob_000001000111 (TRaft.mk 0 0 0 0 0 [] 0 0 0 [] [] [] 0))] [] .n ?_
 obtain ⟨r2_1, h2_2, h⟩ := bd_inv h
 refine kRs 15 [Tm 3 (.ptr 3 0), Ob 3 (TRaft.ob_000001000111 r2_1)] [.a ⟨.data (TRaft.ag_000001000111 r2_1), []⟩] (.c (Asks.of (C := Meets Try.prog) (raft_New.meets r_v.Me r_v.Nodes r_v.Wait _ h2_2)) .n) ?_
 obtain ⟨r3_1, h3_2, h⟩ := bd_inv h
 refine kRs 41 [Ob 3 (TRaft.ob_000001000111 (TRaft.mk r2_1.Me r2_1.Nodes r2_1.Wait r_v.Term r_v.Vote r3_1 r2_1.Commit r2_1.Role r2_1.Leader r2_1.Votes r2_1.Next r2_1.Match r2_1.Clock))] [.a ⟨sO 6 TEntry.en r3_1, []⟩] (.c (Asks.of (C := Meets Try.prog) (raft_entries.meets fu r_v.Log _ h3_2)) (.c rT .n)) ?_
 refine kRs 4 [Ob 2 (TRaft.ob_000001000111 (TRaft.mk r2_1.Me r2_1.Nodes r2_1.Wait r_v.Term r_v.Vote r3_1 r2_1.Commit r2_1.Role r2_1.Leader r2_1.Votes r2_1.Next r2_1.Match r2_1.Clock))] [] .n ?_
 refine kRt ?_
 have h_ := some_inj h
 subst h_
 exact kFr
def bd54 : Code := (Try.f54.body).getD .skip
def raft_member_yields.O : Nat → Nat := fun t => bif ([8] : List Nat).any (Nat.beq t) then 1 else 0
def raft_member_yields (term : Int) (o0_v : TMember) : Option TMember :=
 some (TMember.mk (TRaft.mk o0_v.Raft.Me o0_v.Raft.Nodes o0_v.Raft.Wait term 0 o0_v.Raft.Log o0_v.Raft.Commit 0 0 (List.replicate o0_v.Raft.Votes.length (false : Bool)) o0_v.Raft.Next o0_v.Raft.Match o0_v.Raft.Clock) o0_v.out)
theorem raft_member_yields.meets (term : Int) (o0_v : TMember) (z0 : TMember) (h : raft_member_yields term o0_v = some z0) : Meets Try.prog ⟨54, [.ptr 1000 0, iv term], [(TMember.ob_00000100011101 o0_v)]⟩ ⟨.tup [], [(TMember.ob_00000100011101 z0)]⟩ := by
 refine kMt hmix raft_member_yields.O Try.f54 bd54 7 ?_
 unfold raft_member_yields at h
 refine kRs 1 [Ob 1000 (TMember.ob_00000100011101 (TMember.mk (TRaft.mk o0_v.Raft.Me o0_v.Raft.Nodes o0_v.Raft.Wait term 0 o0_v.Raft.Log o0_v.Raft.Commit 0 0 o0_v.Raft.Votes o0_v.Raft.Next o0_v.Raft.Match o0_v.Raft.Clock) o0_v.out))] [] .n ?_
 have h_ := some_inj h
 subst h_
 exact kRf [.s (.o 1000) (TMember.ob_00000100011101 (TMember.mk (TRaft.mk o0_v.Raft.Me o0_v.Raft.Nodes o0_v.Raft.Wait term 0 o0_v.Raft.Log o0_v.Raft.Commit 0 0 (List.replicate o0_v.Raft.Votes.length (false : Bool)) o0_v.Raft.Next o0_v.Raft.Match o0_v.Raft.Clock) o0_v.out))] (.c (congrArg (fun d : DV => (TMember.ob_00000100011101 (TMember.mk (TRaft.mk o0_v.Raft.Me o0_v.Raft.Nodes o0_v.Raft.Wait term 0 o0_v.Raft.Log o0_v.Raft.Commit 0 0 (List.replicate o0_v.Raft.Votes.length (false : Bool)) o0_v.Raft.Next o0_v.Raft.Match o0_v.Raft.Clock) o0_v.out)).set 9 (AV.data d)) (c_clr (e := e_b) (s := 1) (nl := none) (l := o0_v.Raft.Votes) (x := (false : Bool)))) .n)
def bd77 : Code := (Try.f77.body).getD .skip
def ulog_Newer.O : Nat → Nat := fun t => bif ([6, 7] : List Nat).any (Nat.beq t) then 1 else 0
def ulog_Newer (l : List TEntry) (i : Int) (term : Int) : Option Bool :=
 bd (ulog_Term l (l.length : Int)) fun r2_1 =>
 br (decide (term > r2_1))
  (some true)
  (br (term == r2_1)
   (some (decide (i ≥ (l.length : Int))))
   (some false))
theorem ulog_Newer.meets (l : List TEntry) (i : Int) (term : Int) (z0 : Bool) (h : ulog_Newer l i term = some z0) : Meets Try.prog ⟨77, [sS 6 TEntry.en l, iv i, iv term], []⟩ ⟨bv z0, []⟩ := by
 refine kMt hmix ulog_Newer.O Try.f77 bd77 7 ?_
 unfold ulog_Newer at h
 refine kRs 7 [] [] .n ?_
 obtain ⟨r2_1, h2_2, h⟩ := bd_inv h
 refine kRs 7 [Tm 7 (iv r2_1)] [.s (.t 10) [iv (l.length : Int)], .a ⟨iv r2_1, []⟩] (.c (c_len (e := TEntry.en) (l := l)) (.c (Asks.of (C := Meets Try.prog) (ulog_Term.meets l (l.length : Int) _ h2_2)) .n)) ?_
 rcases br_inv h with ⟨b3_1, h⟩ | ⟨b3_1, h⟩
 ·refine kRs 0 [Tm 6 (bv true)] (rp 6 (.b true) []) (.r 6 b3_1 .n) ?_
  refine kRt ?_
  have h_ := some_inj h
  subst h_
  exact kFr
 ·rcases br_inv h with ⟨b3_2, h⟩ | ⟨b3_2, h⟩
  ·refine kRs 0 [Tm 6 (bv (decide (i ≥ (l.length : Int))))] (rp 4 (.b false) [.b true, .b true, .b true, .s (.t 22) [iv (l.length : Int)], .b true, .b false, .b true, .b false]) (.r 4 b3_1 (.r 3 b3_2 (.c (c_len (e := TEntry.en) (l := l)) (.c b3_2 (.c b3_1 (.c b3_2 (.c b3_1 .n))))))) ?_
   refine kRt ?_
   have h_ := some_inj h
   subst h_
   exact kFr
  ·refine kRs 0 [Tm 6 (bv false)] (rp 11 (.b false) []) (.r 4 b3_1 (.r 4 b3_2 (.c b3_1 (.c b3_2 (.c b3_1 .n))))) ?_
   refine kRt ?_
   have h_ := some_inj h
   subst h_
   exact kFr
def raft_member_sends_2.O : Nat → Nat := fun t => bif ([5, 11, 26, 27] : List Nat).any (Nat.beq t) then 1 else 0
def raft_member_sends_2 (to : Int) (m : TMsg) (o0_v : TMember) : Option TMember :=
 gd (decide (o0_v.out.length + ([(TMsg.mk m.Kind o0_v.Raft.Me to m.Part o0_v.Raft.Term m.Index m.LogTerm m.Commit m.OK m.Entries m.T m.Session m.Seq m.Pos m.Shard m.Span m.FromKey m.ToKey m.Keys m.Got m.Err)] : List TMsg).length ≤ 4294967296)) <|
 some (TMember.mk o0_v.Raft (o0_v.out ++ ([(TMsg.mk m.Kind o0_v.Raft.Me to m.Part o0_v.Raft.Term m.Index m.LogTerm m.Commit m.OK m.Entries m.T m.Session m.Seq m.Pos m.Shard m.Span m.FromKey m.ToKey m.Keys m.Got m.Err)] : List TMsg)))
theorem raft_member_sends_2.meets (to : Int) (m : TMsg) (o0_v : TMember) (z0 : TMember) (h : raft_member_sends_2 to m o0_v = some z0) : Meets Try.prog ⟨78, [.ptr 1000 0, iv to, .data (TMsg.ag m)], [(TMember.ob_00000100011101 o0_v)]⟩ ⟨.tup [], [(TMember.ob_00000100011101 z0)]⟩ := by
 refine kMt hmix raft_member_sends_2.O Try.f78 bd78 15 ?_
 unfold raft_member_sends_2 at h
 refine kRs 11 [Tm 5 (.ptr 5 0), Ob 5 (TMsg.ob m)] [] .n ?_
 refine kRs 21 [Ob 5 (TMsg.ob (TMsg.mk m.Kind o0_v.Raft.Me to m.Part o0_v.Raft.Term m.Index m.LogTerm m.Commit m.OK m.Entries m.T m.Session m.Seq m.Pos m.Shard m.Span m.FromKey m.ToKey m.Keys m.Got m.Err))] [] (.c rT .n) ?_
 obtain ⟨c3_1, h⟩ := gd_inv h
 have h_ := some_inj h
 subst h_
 exact kRf [.s (.t 27) [sO 24 TMsg.en (o0_v.out ++ ([(TMsg.mk m.Kind o0_v.Raft.Me to m.Part o0_v.Raft.Term m.Index m.LogTerm m.Commit m.OK m.Entries m.T m.Session m.Seq m.Pos m.Shard m.Span m.FromKey m.ToKey m.Keys m.Got m.Err)] : List TMsg))]] (.c (c_al (e := TMsg.en) (f := TMsg.en) c3_1) (.c (congrArg (fun d : DV => [AV.data d]) (c_app (e := TMsg.en) (s := 24) (l := o0_v.out) (m := ([(TMsg.mk m.Kind o0_v.Raft.Me to m.Part o0_v.Raft.Term m.Index m.LogTerm m.Commit m.OK m.Entries m.T m.Session m.Seq m.Pos m.Shard m.Span m.FromKey m.ToKey m.Keys m.Got m.Err)] : List TMsg)))) (.c rT .n)))
def bd50 : Code := (Try.f50.body).getD .skip
def raft_member_askVote.O : Nat → Nat := fun t => bif ([3, 4, 58] : List Nat).any (Nat.beq t) then 1 else 0
def raft_member_askVote (m : TMsg) (o0_v : TMember) : Option TMember :=
 jn (fun (j3_0 : Bool) =>
  br j3_0
   (bd (raft_member_sends_2 m.From (TMsg.mk 2 0 0 0 0 0 0 0 j3_0 [] (TTxn.mk 0 0 [] []) 0 0 0 0 false ByteArray.empty ByteArray.empty [] [] 0) (TMember.mk (TRaft.mk o0_v.Raft.Me o0_v.Raft.Nodes o0_v.Raft.Wait o0_v.Raft.Term m.From o0_v.Raft.Log o0_v.Raft.Commit o0_v.Raft.Role o0_v.Raft.Leader o0_v.Raft.Votes o0_v.Raft.Next o0_v.Raft.Match 0) o0_v.out)) fun r7_1 =>
   some r7_1)
   (bd (raft_member_sends_2 m.From (TMsg.mk 2 0 0 0 0 0 0 0 j3_0 [] (TTxn.mk 0 0 [] []) 0 0 0 0 false ByteArray.empty ByteArray.empty [] [] 0) o0_v) fun r8_1 =>
   some r8_1)) fun k3 =>
 br (m.Term == o0_v.Raft.Term)
  (br (o0_v.Raft.Vote == 0)
   (bd (ulog_Newer o0_v.Raft.Log m.Index m.LogTerm) fun r2_3 =>
   k3 r2_3)
   (br (o0_v.Raft.Vote == m.From)
    (bd (ulog_Newer o0_v.Raft.Log m.Index m.LogTerm) fun r2_4 =>
    k3 r2_4)
    (k3 false)))
  (k3 false)
theorem raft_member_askVote.meets (m : TMsg) (o0_v : TMember) (z0 : TMember) (h : raft_member_askVote m o0_v = some z0) : Meets Try.prog ⟨50, [.ptr 1000 0, .data (TMsg.ag m)], [(TMember.ob_00000100011101 o0_v)]⟩ ⟨.tup [], [(TMember.ob_00000100011101 z0)]⟩ := by
 refine kMt hmix raft_member_askVote.O Try.f50 bd50 7 ?_
 unfold raft_member_askVote at h
 refine kRs 5 [Tm 3 (.ptr 3 0), Ob 3 (TMsg.ob m)] [] .n ?_
 obtain ⟨k3, hk3, h⟩ := jn_inv h
 have Jk3 : ∀ (j3_0 : Bool), k3 j3_0 = some z0 → WK Try.prog raft_member_askVote.O (Ck Try.prog) (cR (cR bd50)) [] (ofL [Tm 0 (.ptr 1000 0), Tm 3 (.ptr 3 0), Tm 4 (bv j3_0), Ob 3 (TMsg.ob m), Ob 1000 (TMember.ob_00000100011101 o0_v)]) (Fin Try.prog raft_member_askVote.O Try.f50 1 ⟨.tup [], [(TMember.ob_00000100011101 z0)]⟩) := by
  intro j3_0 h
  rw [hk3] at h
  refine kSq ?_
  refine kRs 31 [Tm 43 (bv j3_0)] [] .n ?_
  rcases br_inv h with ⟨b5_0, h⟩ | ⟨b5_0, h⟩
  ·refine kCt b5_0 ?_
   refine kRc 30 [Ob 1000 (TMember.ob_00000100011101 (TMember.mk (TRaft.mk o0_v.Raft.Me o0_v.Raft.Nodes o0_v.Raft.Wait o0_v.Raft.Term m.From o0_v.Raft.Log o0_v.Raft.Commit o0_v.Raft.Role o0_v.Raft.Leader o0_v.Raft.Votes o0_v.Raft.Next o0_v.Raft.Match 0) o0_v.out))] [] .n (cR (cR (cR bd50))) [] ?_
   obtain ⟨r7_1, h7_2, h⟩ := bd_inv h
   have h_ := some_inj h
   subst h_
   exact kRf [.a ⟨.tup [], [(TMember.ob_00000100011101 r7_1)]⟩] (.c (Asks.of (C := Meets Try.prog) (raft_member_sends_2.meets m.From (TMsg.mk 2 0 0 0 0 0 0 0 j3_0 [] (TTxn.mk 0 0 [] []) 0 0 0 0 false ByteArray.empty ByteArray.empty [] [] 0) (TMember.mk (TRaft.mk o0_v.Raft.Me o0_v.Raft.Nodes o0_v.Raft.Wait o0_v.Raft.Term m.From o0_v.Raft.Log o0_v.Raft.Commit o0_v.Raft.Role o0_v.Raft.Leader o0_v.Raft.Votes o0_v.Raft.Next o0_v.Raft.Match 0) o0_v.out) _ h7_2)) .n)
  ·refine kCe b5_0 ?_
   refine kSk ?_
   refine kCd (cR (cR (cR bd50))) [] ?_
   obtain ⟨r8_1, h8_2, h⟩ := bd_inv h
   have h_ := some_inj h
   subst h_
   exact kRf [.a ⟨.tup [], [(TMember.ob_00000100011101 r8_1)]⟩] (.c (Asks.of (C := Meets Try.prog) (raft_member_sends_2.meets m.From (TMsg.mk 2 0 0 0 0 0 0 0 j3_0 [] (TTxn.mk 0 0 [] []) 0 0 0 0 false ByteArray.empty ByteArray.empty [] [] 0) o0_v _ h8_2)) .n)
 clear hk3
 rcases br_inv h with ⟨b2_1, h⟩ | ⟨b2_1, h⟩
 ·rcases br_inv h with ⟨b2_2, h⟩ | ⟨b2_2, h⟩
  ·obtain ⟨r2_3, h2_4, h⟩ := bd_inv h
   refine kRs 15 [Tm 4 (bv r2_3)] (rp 28 (.b true) [.a ⟨bv r2_3, []⟩, .b true]) (.r 7 b2_1 (.r 8 b2_2 (.c b2_1 (.c b2_2 (.c b2_1 (.r 10 rT (.c (Asks.of (C := Meets Try.prog) (ulog_Newer.meets o0_v.Raft.Log m.Index m.LogTerm _ h2_4)) (.r 2 rT .n)))))))) ?_
   exact kWk (Jk3 r2_3 h)
  ·rcases br_inv h with ⟨b2_3, h⟩ | ⟨b2_3, h⟩
   ·obtain ⟨r2_4, h2_5, h⟩ := bd_inv h
    refine kRs 15 [Tm 4 (bv r2_4)] (rp 7 (.b true) (rp 8 (.b false) (.b true :: (.b false :: (rp 11 (.b true) [.a ⟨bv r2_4, []⟩, .b true]))))) (.r 7 b2_1 (.r 8 b2_2 (.c b2_1 (.c b2_2 (.c b2_1 (.r 10 b2_3 (.c (Asks.of (C := Meets Try.prog) (ulog_Newer.meets o0_v.Raft.Log m.Index m.LogTerm _ h2_5)) (.c b2_3 (.c rT .n))))))))) ?_
    exact kWk (Jk3 r2_4 h)
   ·refine kRs 15 [Tm 4 (bv false)] (rp 7 (.b true) (rp 8 (.b false) (.b true :: (.b false :: (.b true :: (rp 11 (.b false) [])))))) (.r 7 b2_1 (.r 8 b2_2 (.c b2_1 (.c b2_2 (.c b2_1 (.r 11 b2_3 (.c rT .n))))))) ?_
    exact kWk (Jk3 false h)
 ·refine kRs 15 [Tm 4 (bv false)] (rp 20 (.b false) []) (.r 9 b2_1 (.r 11 rF (.c rT .n))) ?_
  exact kWk (Jk3 false h)
def bd51 : Code := (Try.f51.body).getD .skip
def raft_member_vote.O : Nat → Nat := fun t => bif ([3] : List Nat).any (Nat.beq t) then 1 else 0
def raft_member_vote (fu : Nat) (m : TMsg) (o0_v : TMember) : Option TMember :=
 br (m.Term == o0_v.Raft.Term)
  (br (o0_v.Raft.Role == 1)
   (br m.OK
    (ix o0_v.Raft.Votes (w64 (m.From - 1)) fun x4_1 =>
    bd (raft_member_elected fu (TMember.mk (TRaft.mk o0_v.Raft.Me o0_v.Raft.Nodes o0_v.Raft.Wait o0_v.Raft.Term o0_v.Raft.Vote o0_v.Raft.Log o0_v.Raft.Commit o0_v.Raft.Role o0_v.Raft.Leader (o0_v.Raft.Votes.set (w64 (m.From - 1)).toNat true) o0_v.Raft.Next o0_v.Raft.Match o0_v.Raft.Clock) o0_v.out)) fun (r5_1, r5_2) =>
    some r5_2)
    (some o0_v))
   (some o0_v))
  (some o0_v)
theorem raft_member_vote.meets (fu : Nat) (m : TMsg) (o0_v : TMember) (z0 : TMember) (h : raft_member_vote fu m o0_v = some z0) : Meets Try.prog ⟨51, [.ptr 1000 0, .data (TMsg.ag m)], [(TMember.ob_00000100011101 o0_v)]⟩ ⟨.tup [], [(TMember.ob_00000000011101 z0)]⟩ := by
 refine kMt hmix raft_member_vote.O Try.f51 bd51 7 ?_
 unfold raft_member_vote at h
 refine kRs 5 [Tm 3 (.ptr 3 0), Ob 3 (TMsg.ob m)] [] .n ?_
 rcases br_inv h with ⟨b2_1, h⟩ | ⟨b2_1, h⟩
 ·rcases br_inv h with ⟨b2_2, h⟩ | ⟨b2_2, h⟩
  ·refine kRs 15 [Tm 23 (bv m.OK)] (rp 10 (.b true) []) (.r 7 b2_1 (.r 3 b2_2 (.c rT .n))) ?_
   rcases br_inv h with ⟨b3_0, h⟩ | ⟨b3_0, h⟩
   ·refine kCt b3_0 ?_
    obtain ⟨x4_1, a4_2, e4_3, h⟩ := ix_inv h
    refine kRs 8 [Ob 1000 (TMember.ob_00000100011101 (TMember.mk (TRaft.mk o0_v.Raft.Me o0_v.Raft.Nodes o0_v.Raft.Wait o0_v.Raft.Term o0_v.Raft.Vote o0_v.Raft.Log o0_v.Raft.Commit o0_v.Raft.Role o0_v.Raft.Leader (o0_v.Raft.Votes.set (w64 (m.From - 1)).toNat true) o0_v.Raft.Next o0_v.Raft.Match o0_v.Raft.Clock) o0_v.out))] [.c (e_b x4_1), .s (.o 1000) (TMember.ob_00000100011101 (TMember.mk (TRaft.mk o0_v.Raft.Me o0_v.Raft.Nodes o0_v.Raft.Wait o0_v.Raft.Term o0_v.Raft.Vote o0_v.Raft.Log o0_v.Raft.Commit o0_v.Raft.Role o0_v.Raft.Leader (o0_v.Raft.Votes.set (w64 (m.From - 1)).toNat true) o0_v.Raft.Next o0_v.Raft.Match o0_v.Raft.Clock) o0_v.out))] (.c (c_ix (e := e_b) a4_2 e4_3) (.c (c_el (e := e_b) e4_3) (.c (congrArg (fun d : DV => (TMember.ob_00000100011101 (TMember.mk (TRaft.mk o0_v.Raft.Me o0_v.Raft.Nodes o0_v.Raft.Wait o0_v.Raft.Term o0_v.Raft.Vote o0_v.Raft.Log o0_v.Raft.Commit o0_v.Raft.Role o0_v.Raft.Leader (o0_v.Raft.Votes.set (w64 (m.From - 1)).toNat true) o0_v.Raft.Next o0_v.Raft.Match o0_v.Raft.Clock) o0_v.out)).set 9 (AV.data d)) (c_set (e := e_b) (s := 1) (nl := none) (l := o0_v.Raft.Votes) (i := (w64 (m.From - 1)).toNat) (x := true))) (.c rT .n)))) ?_
    obtain ⟨⟨r5_1, r5_2⟩, h5_3, h⟩ := bd_inv h
    have h_ := some_inj h
    subst h_
    exact kRf [.a ⟨bv r5_1, [(TMember.ob_00000000011101 r5_2)]⟩] (.c (Asks.of (C := Meets Try.prog) (raft_member_elected.meets fu (TMember.mk (TRaft.mk o0_v.Raft.Me o0_v.Raft.Nodes o0_v.Raft.Wait o0_v.Raft.Term o0_v.Raft.Vote o0_v.Raft.Log o0_v.Raft.Commit o0_v.Raft.Role o0_v.Raft.Leader (o0_v.Raft.Votes.set (w64 (m.From - 1)).toNat true) o0_v.Raft.Next o0_v.Raft.Match o0_v.Raft.Clock) o0_v.out) _ _ h5_3)) .n)
   ·refine kCe b3_0 ?_
    refine kSo 1000 5 0 [Ob 1000 (TMember.ob_00000000011101 o0_v)] ?_
    refine kSk ?_
    have h_ := some_inj h
    subst h_
    exact kFn
  ·refine kRs 15 [Tm 23 (bv false)] (rp 7 (.b true) [.b false, .b false, .b false]) (.r 7 b2_1 (.r 3 b2_2 (.c rT .n))) ?_
   refine kCe rF ?_
   refine kSo 1000 5 0 [Ob 1000 (TMember.ob_00000000011101 o0_v)] ?_
   refine kSk ?_
   have h_ := some_inj h
   subst h_
   exact kFn
 ·refine kRs 15 [Tm 23 (bv false)] (rp 10 (.b false) []) (.r 7 b2_1 (.r 3 rF (.c rT .n))) ?_
  refine kCe rF ?_
  refine kSo 1000 5 0 [Ob 1000 (TMember.ob_00000000011101 o0_v)] ?_
  refine kSk ?_
  have h_ := some_inj h
  subst h_
  exact kFn
def bd80 : Code := (Try.f80.body).getD .skip
def ulog_Has.O : Nat → Nat := fun t => bif ([6] : List Nat).any (Nat.beq t) then 1 else 0
def ulog_Has (l : List TEntry) (i : Int) (term : Int) : Option Bool :=
 br (i == 0)
  (some true)
  (br (decide (i ≥ 1))
   (br (decide (i ≤ (l.length : Int)))
    (bd (ulog_Term l i) fun r2_4 =>
    some (r2_4 == term))
    (some false))
   (some false))
theorem ulog_Has.meets (l : List TEntry) (i : Int) (term : Int) (z0 : Bool) (h : ulog_Has l i term = some z0) : Meets Try.prog ⟨80, [sS 6 TEntry.en l, iv i, iv term], []⟩ ⟨bv z0, []⟩ := by
 refine kMt hmix ulog_Has.O Try.f80 bd80 7 ?_
 unfold ulog_Has at h
 refine kRs 7 [] [] .n ?_
 rcases br_inv h with ⟨b2_1, h⟩ | ⟨b2_1, h⟩
 ·refine kRs 0 [Tm 6 (bv true)] (rp 7 (.b true) []) (.r 7 b2_1 .n) ?_
  refine kRt ?_
  have h_ := some_inj h
  subst h_
  exact kFr
 ·rcases br_inv h with ⟨b2_2, h⟩ | ⟨b2_2, h⟩
  ·rcases br_inv h with ⟨b2_3, h⟩ | ⟨b2_3, h⟩
   ·obtain ⟨r2_4, h2_5, h⟩ := bd_inv h
    refine kRs 0 [Tm 6 (bv (r2_4 == term))] [.b false, .b false, .b false, .b true, .b true, .b true, .s (.t 15) [iv (l.length : Int)], .b true, .b false, .b true, .b false, .b true, .b true, .b true, .a ⟨iv r2_4, []⟩, .b true, .b true, .b false, .b true, .b false] (.r 3 b2_1 (.r 3 b2_2 (.c (c_len (e := TEntry.en) (l := l)) (.c b2_2 (.c b2_1 (.c b2_2 (.c b2_1 (.r 3 b2_3 (.c (Asks.of (C := Meets Try.prog) (ulog_Term.meets l i _ h2_5)) (.r 2 b2_3 (.c b2_1 (.c b2_3 (.c b2_1 .n))))))))))))) ?_
    refine kRt ?_
    have h_ := some_inj h
    subst h_
    exact kFr
   ·refine kRs 0 [Tm 6 (bv false)] (.b false :: (.b false :: (.b false :: (.b true :: (.b true :: (.b true :: (.s (.t 15) [iv (l.length : Int)] :: (.b true :: (.b false :: (.b true :: (rp 9 (.b false) []))))))))))) (.r 3 b2_1 (.r 3 b2_2 (.c (c_len (e := TEntry.en) (l := l)) (.c b2_2 (.c b2_1 (.c b2_2 (.c b2_1 (.r 5 b2_3 (.c b2_1 (.c b2_3 (.c b2_1 .n))))))))))) ?_
    refine kRt ?_
    have h_ := some_inj h
    subst h_
    exact kFr
  ·refine kRs 0 [Tm 6 (bv false)] (rp 18 (.b false) []) (.r 3 b2_1 (.r 4 b2_2 (.c b2_1 (.c b2_2 (.c b2_1 (.r 5 rF (.c b2_1 (.c rF (.c b2_1 .n))))))))) ?_
   refine kRt ?_
   have h_ := some_inj h
   subst h_
   exact kFr
def bd106 : Code := (Try.f106.body).getD .skip
def slices_Grow_api_Entry.O : Nat → Nat := fun t => bif ([0, 1, 4, 25] : List Nat).any (Nat.beq t) then 1 else 0
def slices_Grow_api_Entry (n_v : Int) : Option (List TEntry) :=
 br (decide (n_v < 0))
  (none)
  (br (decide ((w64 (n_v - (w64 (0 - 0)))) > 0))
   (gd (decide ((0 : Int) ≤ (0 : Int) ∧ (0 : Int) ≤ (([] : List TEntry).length : Int))) <|
   gd (decide ((0 : Int) ≤ (w64 (n_v - (w64 (0 - 0)))) ∧ (w64 (n_v - (w64 (0 - 0)))) ≤ 4294967296)) <|
   gd (decide ((List.take (0 : Int).toNat ([] : List TEntry)).length + (w64 (n_v - (w64 (0 - 0)))).toNat ≤ 4294967296)) <|
   gd (decide ((0 : Int) ≤ (0 : Int) ∧ (0 : Int) ≤ (((List.take (0 : Int).toNat ([] : List TEntry)) ++ List.replicate (w64 (n_v - (w64 (0 - 0)))).toNat ((TEntry.mk 0 false (TTxn.mk 0 0 [] [])) : TEntry)).length : Int))) <|
   some (List.take (0 : Int).toNat ((List.take (0 : Int).toNat ([] : List TEntry)) ++ List.replicate (w64 (n_v - (w64 (0 - 0)))).toNat ((TEntry.mk 0 false (TTxn.mk 0 0 [] [])) : TEntry))))
   (some []))
theorem slices_Grow_api_Entry.meets (n_v : Int) (z0 : List TEntry) (h : slices_Grow_api_Entry n_v = some z0) : Meets Try.prog ⟨106, [.data (.slc false (some true) 6 (List.map TEntry.en [])), iv n_v], []⟩ ⟨sO 6 TEntry.en z0, []⟩ := by
 refine kMt hmix slices_Grow_api_Entry.O Try.f106 bd106 3 ?_
 unfold slices_Grow_api_Entry at h
 refine kRs 3 [] [] .n ?_
 refine kSq ?_
 refine kRs 3 [Tm 6 (bv (decide (n_v < 0)))] [] .n ?_
 rcases br_inv h with ⟨b3_0, h⟩ | ⟨b3_0, h⟩
 ·refine kCt b3_0 ?_
  exact no_none h
 ·refine kCe b3_0 ?_
  refine kSk ?_
  refine kCd (cR (cR bd106)) [] ?_
  refine kSq ?_
  refine kRs 2 [Tm 1 (iv (w64 (n_v - (w64 (0 - 0)))))] [] .n ?_
  refine kRs 3 [Tm 16 (bv (decide ((w64 (n_v - (w64 (0 - 0)))) > 0)))] [] .n ?_
  rcases br_inv h with ⟨b7_0, h⟩ | ⟨b7_0, h⟩
  ·refine kCt b7_0 ?_
   obtain ⟨c8_1, h⟩ := gd_inv h
   obtain ⟨c8_2, h⟩ := gd_inv h
   obtain ⟨c8_3, h⟩ := gd_inv h
   obtain ⟨c8_4, h⟩ := gd_inv h
   refine kRc 0 [Tm 0 (sO 6 TEntry.en (List.take (0 : Int).toNat ((List.take (0 : Int).toNat ([] : List TEntry)) ++ List.replicate (w64 (n_v - (w64 (0 - 0)))).toNat ((TEntry.mk 0 false (TTxn.mk 0 0 [] [])) : TEntry))))] [.s (.t 20) [.data (.slc false (some true) 6 (List.map TEntry.en (List.take (0 : Int).toNat ([] : List TEntry))))], .s (.t 22) [sO 6 TEntry.en ((List.take (0 : Int).toNat ([] : List TEntry)) ++ List.replicate (w64 (n_v - (w64 (0 - 0)))).toNat ((TEntry.mk 0 false (TTxn.mk 0 0 [] [])) : TEntry))], .s (.t 25) [sO 6 TEntry.en (List.take (0 : Int).toNat ((List.take (0 : Int).toNat ([] : List TEntry)) ++ List.replicate (w64 (n_v - (w64 (0 - 0)))).toNat ((TEntry.mk 0 false (TTxn.mk 0 0 [] [])) : TEntry)))]] (.c (c_cbH (e := TEntry.en) c8_1) (.c (congrArg (fun d : DV => [AV.data d]) (c_cutH (own := false) (nl := (some true)) (s := 6) (e := TEntry.en) (l := ([] : List TEntry)) (h := (0 : Int).toNat))) (.c c8_2 (.c (c_alz (e := TEntry.en) c8_3) (.c (congrArg (fun d : DV => [AV.data d]) (c_appz (e := TEntry.en) (s := 6) (l := (List.take (0 : Int).toNat ([] : List TEntry))) (n := (w64 (n_v - (w64 (0 - 0)))).toNat) (x := ((TEntry.mk 0 false (TTxn.mk 0 0 [] [])) : TEntry)))) (.c (c_cbH (e := TEntry.en) c8_4) (.c (congrArg (fun d : DV => [AV.data d]) (c_cutH (own := true) (nl := none) (s := 6) (e := TEntry.en) (l := ((List.take (0 : Int).toNat ([] : List TEntry)) ++ List.replicate (w64 (n_v - (w64 (0 - 0)))).toNat ((TEntry.mk 0 false (TTxn.mk 0 0 [] [])) : TEntry))) (h := (0 : Int).toNat))) .n))))))) (cR (cR (cR bd106))) [] ?_
   refine kRs 0 [Tm 4 (sO 6 TEntry.en (List.take (0 : Int).toNat ((List.take (0 : Int).toNat ([] : List TEntry)) ++ List.replicate (w64 (n_v - (w64 (0 - 0)))).toNat ((TEntry.mk 0 false (TTxn.mk 0 0 [] [])) : TEntry))))] [] .n ?_
   refine kRt ?_
   have h_ := some_inj h
   subst h_
   exact kFr
  ·refine kCe b7_0 ?_
   refine kSk ?_
   refine kCd (cR (cR (cR bd106))) [] ?_
   refine kRs 0 [Tm 4 (.data (.slc true (some true) 6 (List.map TEntry.en [])))] [] .n ?_
   refine kWd 0 [Tm 4 (.data (.slc true none 6 (List.map TEntry.en [])))] ?_
   refine kRt ?_
   have h_ := some_inj h
   subst h_
   exact kFr
def bd100 : Code := (Try.f100.body).getD .skip
def slices_Concat_api_Entry.O : Nat → Nat := fun t => bif ([2, 3, 6] : List Nat).any (Nat.beq t) then 1 else 0
def slices_Concat_api_Entry.lp4 (fu : Nat) (l4_0 : List (List TEntry)) (l4_2 : List (List TEntry)) (l4_3 : Int) : Nat → Int → Int → Option Int
  | 0, _, _ => none
  | n_ + 1, l4_1, l4_4 =>
  br (decide (l4_4 < l4_3))
   (ix l4_2 l4_4 fun x7_1 =>
   br (decide ((w64 (l4_1 + (x7_1.length : Int))) < 0))
    (none)
    (slices_Concat_api_Entry.lp4 fu l4_0 l4_2 l4_3 n_ (w64 (l4_1 + (x7_1.length : Int))) (w64 (l4_4 + 1))))
   (some l4_1)
def slices_Concat_api_Entry.lp4_post (l4_0 : List (List TEntry)) (l4_2 : List (List TEntry)) (l4_3 : Int) (r_ : Int) : Wy → St → Prop := fun e τ => match r_ with
  | y0 => e = .exit 0 ∧ τ = ofL [Tm 0 (sS 1 (e_l 6 TEntry.en) l4_0), Tm 3 (iv y0)]
theorem slices_Concat_api_Entry.lp4_ok (fu : Nat) (l4_0 : List (List TEntry)) (l4_2 : List (List TEntry)) (l4_3 : Int) : ∀ (n_ : Nat) (l4_1 : Int) (l4_4 : Int) (r_ : Int), slices_Concat_api_Entry.lp4 fu l4_0 l4_2 l4_3 n_ l4_1 l4_4 = some r_ → WK Try.prog slices_Concat_api_Entry.O (Ck Try.prog) (cB (cR (cL (cR (cR bd100))))) [] (ofL [Tm 0 (sS 1 (e_l 6 TEntry.en) l4_0), Tm 3 (iv l4_1), Tm 9 (sS 1 (e_l 6 TEntry.en) l4_2), Tm 10 (iv l4_3), Tm 11 (iv l4_4)]) (slices_Concat_api_Entry.lp4_post l4_0 l4_2 l4_3 r_) := by
 intro n_
 induction n_ with
 | zero => intro l4_1 l4_4 r_ h; exact no_none h
 | succ n_ ih =>
  intro l4_1 l4_4 r_ h
  refine kLp ?_
  refine kRs 31 [Tm 12 (bv (decide (l4_4 < l4_3)))] [] .n ?_
  refine kSq ?_
  rcases br_inv h with ⟨b6_0, h⟩ | ⟨b6_0, h⟩
  ·refine kCt b6_0 ?_
   refine kSk ?_
   refine kCd (cR (cR (cB (cB (cR (cL (cR (cR bd100)))))))) [.lp (cB (cR (cL (cR (cR bd100)))))] ?_
   refine kSq ?_
   refine kBk 1 ?_
   obtain ⟨x7_1, a7_2, e7_3, h⟩ := ix_inv h
   refine kRs 62 [Tm 5 (sS 6 TEntry.en x7_1)] [.c ((e_l 6 TEntry.en) x7_1)] (.c (c_ix (e := (e_l 6 TEntry.en)) a7_2 e7_3) (.c (c_el (e := (e_l 6 TEntry.en)) e7_3) .n)) ?_
   refine kRs 58 [Tm 3 (iv (w64 (l4_1 + (x7_1.length : Int))))] [.s (.t 17) [iv (x7_1.length : Int)]] (.c (c_len (e := TEntry.en) (l := x7_1)) .n) ?_
   refine kRs 31 [Tm 20 (bv (decide ((w64 (l4_1 + (x7_1.length : Int))) < 0)))] [] .n ?_
   rcases br_inv h with ⟨b10_0, h⟩ | ⟨b10_0, h⟩
   ·refine kCt b10_0 ?_
    exact no_none h
   ·refine kCe b10_0 ?_
    refine kSk ?_
    refine kCd (cR (cR (cR (cB (cB (cR (cL (cR (cR bd100))))))))) [.lp (cB (cR (cL (cR (cR bd100)))))] ?_
    refine kRc 30 [Tm 11 (iv (w64 (l4_4 + 1)))] [] .n (cB (cR (cL (cR (cR bd100))))) [] ?_
    exact kWk (ih (w64 (l4_1 + (x7_1.length : Int))) (w64 (l4_4 + 1)) _ h)
  ·refine kCe b6_0 ?_
   cases some_inj h
   refine kWo ?_
   refine kXt 0 ?_
   exact kOut
def slices_Concat_api_Entry.lp16 (fu : Nat) (l16_1 : List (List TEntry)) (l16_2 : Int) : Nat → (List TEntry) → Int → Option (List TEntry)
  | 0, _, _ => none
  | n_ + 1, l16_0, l16_3 =>
  br (decide (l16_3 < l16_2))
   (ix l16_1 l16_3 fun x19_1 =>
   gd (decide (l16_0.length + x19_1.length ≤ 4294967296)) <|
   slices_Concat_api_Entry.lp16 fu l16_1 l16_2 n_ (l16_0 ++ x19_1) (w64 (l16_3 + 1)))
   (some l16_0)
def slices_Concat_api_Entry.lp16_post (l16_1 : List (List TEntry)) (l16_2 : Int) (r_ : (List TEntry)) : Wy → St → Prop := fun e τ => match r_ with
  | y0 => e = .exit 2 ∧ τ = ofL [Tm 6 (sO 6 TEntry.en y0)]
theorem slices_Concat_api_Entry.lp16_ok (fu : Nat) (l16_1 : List (List TEntry)) (l16_2 : Int) : ∀ (n_ : Nat) (l16_0 : List TEntry) (l16_3 : Int) (r_ : (List TEntry)), slices_Concat_api_Entry.lp16 fu l16_1 l16_2 n_ l16_0 l16_3 = some r_ → WK Try.prog slices_Concat_api_Entry.O (Ck Try.prog) (cB (cR (cL (cR (cR (cR (cR bd100))))))) [] (ofL [Tm 6 (sO 6 TEntry.en l16_0), Tm 25 (sS 1 (e_l 6 TEntry.en) l16_1), Tm 26 (iv l16_2), Tm 27 (iv l16_3)]) (slices_Concat_api_Entry.lp16_post l16_1 l16_2 r_) := by
 intro n_
 induction n_ with
 | zero => intro l16_0 l16_3 r_ h; exact no_none h
 | succ n_ ih =>
  intro l16_0 l16_3 r_ h
  refine kLp ?_
  refine kRs 15 [Tm 28 (bv (decide (l16_3 < l16_2)))] [] .n ?_
  refine kSq ?_
  rcases br_inv h with ⟨b18_0, h⟩ | ⟨b18_0, h⟩
  ·refine kCt b18_0 ?_
   refine kSk ?_
   refine kCd (cR (cR (cB (cB (cR (cL (cR (cR (cR (cR bd100)))))))))) [.lp (cB (cR (cL (cR (cR (cR (cR bd100)))))))] ?_
   refine kSq ?_
   refine kBk 3 ?_
   obtain ⟨x19_1, a19_2, e19_3, h⟩ := ix_inv h
   refine kRs 30 [Tm 8 (sS 6 TEntry.en x19_1)] [.c ((e_l 6 TEntry.en) x19_1)] (.c (c_ix (e := (e_l 6 TEntry.en)) a19_2 e19_3) (.c (c_el (e := (e_l 6 TEntry.en)) e19_3) .n)) ?_
   obtain ⟨c20_1, h⟩ := gd_inv h
   refine kRc 28 [Tm 6 (sO 6 TEntry.en (l16_0 ++ x19_1))] [.s (.t 33) [sO 6 TEntry.en (l16_0 ++ x19_1)]] (.c (c_al (e := TEntry.en) (f := TEntry.en) c20_1) (.c (congrArg (fun d : DV => [AV.data d]) (c_app (e := TEntry.en) (s := 6) (l := l16_0) (m := x19_1))) .n)) (cR (cR (cR (cB (cB (cR (cL (cR (cR (cR (cR bd100))))))))))) [.lp (cB (cR (cL (cR (cR (cR (cR bd100)))))))] ?_
   refine kRc 7 [Tm 27 (iv (w64 (l16_3 + 1)))] [] .n (cB (cR (cL (cR (cR (cR (cR bd100))))))) [] ?_
   exact kWk (ih (l16_0 ++ x19_1) (w64 (l16_3 + 1)) _ h)
  ·refine kCe b18_0 ?_
   cases some_inj h
   refine kWo ?_
   refine kXt 2 ?_
   exact kOut
def slices_Concat_api_Entry (fu : Nat) (slices : List (List TEntry)) : Option (List TEntry) :=
 bd (slices_Concat_api_Entry.lp4 fu slices slices (slices.length : Int) fu 0 0) fun y13_0 =>
 bd (slices_Grow_api_Entry y13_0) fun r14_1 =>
 bd (slices_Concat_api_Entry.lp16 fu slices (slices.length : Int) fu r14_1 0) fun y22_0 =>
 some y22_0
theorem slices_Concat_api_Entry.meets (fu : Nat) (slices : List (List TEntry)) (z0 : List TEntry) (h : slices_Concat_api_Entry fu slices = some z0) : Meets Try.prog ⟨100, [sS 1 (e_l 6 TEntry.en) slices], []⟩ ⟨sO 6 TEntry.en z0, []⟩ := by
 refine kMt hmix slices_Concat_api_Entry.O Try.f100 bd100 1 ?_
 unfold slices_Concat_api_Entry at h
 refine kRs 1 [] [] .n ?_
 refine kRs 1 [Tm 3 (iv 0)] [] .n ?_
 refine kSq ?_
 refine kRs 3 [Tm 9 (sS 1 (e_l 6 TEntry.en) slices), Tm 10 (iv (slices.length : Int)), Tm 11 (iv 0)] [.s (.t 10) [iv (slices.length : Int)]] (.c (c_len (e := (e_l 6 TEntry.en)) (l := slices)) .n) ?_
 refine kBk 0 ?_
 obtain ⟨o13, ho13, h⟩ := bd_inv h
 refine kUs (slices_Concat_api_Entry.lp4_ok fu slices slices (slices.length : Int) _ 0 0 _ ho13) ?_
 intro e_ τ_ hp_
 obtain ⟨y13_0, rfl⟩ : ∃ y, y = o13 := ⟨_, rfl⟩
 obtain ⟨rfl, rfl⟩ := hp_
 refine kCd (cR (cR (cR bd100))) [] ?_
 obtain ⟨r14_1, h14_2, h⟩ := bd_inv h
 refine kRs 1 [Tm 6 (sO 6 TEntry.en r14_1)] [.a ⟨sO 6 TEntry.en r14_1, []⟩] (.c (Asks.of (C := Meets Try.prog) (slices_Grow_api_Entry.meets y13_0 _ h14_2)) .n) ?_
 refine kSq ?_
 refine kRs 1 [Tm 25 (sS 1 (e_l 6 TEntry.en) slices), Tm 26 (iv (slices.length : Int)), Tm 27 (iv 0)] [.s (.t 26) [iv (slices.length : Int)]] (.c (c_len (e := (e_l 6 TEntry.en)) (l := slices)) .n) ?_
 refine kBk 2 ?_
 obtain ⟨o22, ho22, h⟩ := bd_inv h
 refine kUs (slices_Concat_api_Entry.lp16_ok fu slices (slices.length : Int) _ r14_1 0 _ ho22) ?_
 intro e_ τ_ hp_
 obtain ⟨y22_0, rfl⟩ : ∃ y, y = o22 := ⟨_, rfl⟩
 obtain ⟨rfl, rfl⟩ := hp_
 refine kCd (cR (cR (cR (cR (cR bd100))))) [] ?_
 refine kRs 0 [Tm 2 (sO 6 TEntry.en y22_0)] [] .n ?_
 refine kRt ?_
 have h_ := some_inj h
 subst h_
 exact kFr
end Go.Proofs.Ythpokjkbcdfhiaa.Told
