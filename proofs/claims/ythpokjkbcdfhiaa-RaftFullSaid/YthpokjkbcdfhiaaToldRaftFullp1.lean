/- Functions of the program told as Lean functions, with the walks of their code in the machine by value. -/
import Derived.Test.YthpokjkbcdfhiaaProg
import Derived.Test.YthpokjkbcdfhiaaVam2
namespace Go.Proofs.Ythpokjkbcdfhiaa.Told
open Go Go.Proofs Go.Proofs.Ythpokjkbcdfhiaa Go.Proofs.Ythpokjkbcdfhiaa.Vam
set_option linter.unusedVariables false
set_option maxRecDepth 100000
theorem hmix : Try.prog.follows .mixedOrders = true := by kernel_rfl
structure TRead where
  Key : ByteArray
  Version : Int
  Val : ByteArray
  There : Bool
def TRead.en (x : TRead) : List DV := [.val (.string x.Key), .val (.int .i64 x.Version), .val (.string x.Val), .val (.bool x.There)]
structure TWrite where
  Key : ByteArray
  Val : ByteArray
  Gone : Bool
def TWrite.en (x : TWrite) : List DV := [.val (.string x.Key), .val (.string x.Val), .val (.bool x.Gone)]
structure TTxn where
  Session : Int
  Seq : Int
  Reads : (List TRead)
  Writes : (List TWrite)
def TTxn.en (x : TTxn) : List DV := [.val (.int .i64 x.Session), .val (.int .i64 x.Seq), .slc false none 4 (List.map TRead.en x.Reads), .slc false none 3 (List.map TWrite.en x.Writes)]
structure TEntry where
  Term : Int
  Seal : Bool
  T : TTxn
def TEntry.en (x : TEntry) : List DV := [.val (.int .i64 x.Term), .val (.bool x.Seal), .val (.int .i64 x.T.Session), .val (.int .i64 x.T.Seq), .slc false none 4 (List.map TRead.en x.T.Reads), .slc false none 3 (List.map TWrite.en x.T.Writes)]
structure TRaft where
  Me : Int
  Nodes : Int
  Wait : Int
  Term : Int
  Vote : Int
  Log : (List TEntry)
  Commit : Int
  Role : Int
  Leader : Int
  Votes : (List Bool)
  Next : (List Int)
  Match : (List Int)
  Clock : Int
def TRaft.en (x : TRaft) : List DV := [.val (.int .i64 x.Me), .val (.int .i64 x.Nodes), .val (.int .i64 x.Wait), .val (.int .i64 x.Term), .val (.int .i64 x.Vote), .slc false none 6 (List.map TEntry.en x.Log), .val (.int .i64 x.Commit), .val (.int .i64 x.Role), .val (.int .i64 x.Leader), .slc false none 1 (List.map e_b x.Votes), .slc false none 1 (List.map e_i64 x.Next), .slc false none 1 (List.map e_i64 x.Match), .val (.int .i64 x.Clock)]
structure TMsg where
  Kind : Int
  From : Int
  To : Int
  Part : Int
  Term : Int
  Index : Int
  LogTerm : Int
  Commit : Int
  OK : Bool
  Entries : (List TEntry)
  T : TTxn
  Session : Int
  Seq : Int
  Pos : Int
  Shard : Int
  Span : Bool
  FromKey : ByteArray
  ToKey : ByteArray
  Keys : (List ByteArray)
  Got : (List TRead)
  Err : Int
def TMsg.en (x : TMsg) : List DV := [.val (.int .i64 x.Kind), .val (.int .i64 x.From), .val (.int .i64 x.To), .val (.int .i64 x.Part), .val (.int .i64 x.Term), .val (.int .i64 x.Index), .val (.int .i64 x.LogTerm), .val (.int .i64 x.Commit), .val (.bool x.OK), .slc false none 6 (List.map TEntry.en x.Entries), .val (.int .i64 x.T.Session), .val (.int .i64 x.T.Seq), .slc false none 4 (List.map TRead.en x.T.Reads), .slc false none 3 (List.map TWrite.en x.T.Writes), .val (.int .i64 x.Session), .val (.int .i64 x.Seq), .val (.int .i64 x.Pos), .val (.int .i64 x.Shard), .val (.bool x.Span), .val (.string x.FromKey), .val (.string x.ToKey), .slc false none 1 (List.map e_s x.Keys), .slc false none 4 (List.map TRead.en x.Got), .val (.int .i64 x.Err)]
structure TMember where
  Raft : TRaft
  out : (List TMsg)
def TMember.en (x : TMember) : List DV := [.val (.int .i64 x.Raft.Me), .val (.int .i64 x.Raft.Nodes), .val (.int .i64 x.Raft.Wait), .val (.int .i64 x.Raft.Term), .val (.int .i64 x.Raft.Vote), .slc false none 6 (List.map TEntry.en x.Raft.Log), .val (.int .i64 x.Raft.Commit), .val (.int .i64 x.Raft.Role), .val (.int .i64 x.Raft.Leader), .slc false none 1 (List.map e_b x.Raft.Votes), .slc false none 1 (List.map e_i64 x.Raft.Next), .slc false none 1 (List.map e_i64 x.Raft.Match), .val (.int .i64 x.Raft.Clock), .slc false none 24 (List.map TMsg.en x.out)]
def TRaft.ag (x : TRaft) : DV := .agg [.val (.int .i64 x.Me), .val (.int .i64 x.Nodes), .val (.int .i64 x.Wait), .val (.int .i64 x.Term), .val (.int .i64 x.Vote), .slc false none 6 (List.map TEntry.en x.Log), .val (.int .i64 x.Commit), .val (.int .i64 x.Role), .val (.int .i64 x.Leader), .slc false none 1 (List.map e_b x.Votes), .slc false none 1 (List.map e_i64 x.Next), .slc false none 1 (List.map e_i64 x.Match), .val (.int .i64 x.Clock)]
def TRaft.ag_000001000111 (x : TRaft) : DV := .agg [.val (.int .i64 x.Me), .val (.int .i64 x.Nodes), .val (.int .i64 x.Wait), .val (.int .i64 x.Term), .val (.int .i64 x.Vote), .slc true none 6 (List.map TEntry.en x.Log), .val (.int .i64 x.Commit), .val (.int .i64 x.Role), .val (.int .i64 x.Leader), .slc true none 1 (List.map e_b x.Votes), .slc true none 1 (List.map e_i64 x.Next), .slc true none 1 (List.map e_i64 x.Match), .val (.int .i64 x.Clock)]
def TRaft.ob (x : TRaft) : List AV := [.data (.val (.int .i64 x.Me)), .data (.val (.int .i64 x.Nodes)), .data (.val (.int .i64 x.Wait)), .data (.val (.int .i64 x.Term)), .data (.val (.int .i64 x.Vote)), .data (.slc false none 6 (List.map TEntry.en x.Log)), .data (.val (.int .i64 x.Commit)), .data (.val (.int .i64 x.Role)), .data (.val (.int .i64 x.Leader)), .data (.slc false none 1 (List.map e_b x.Votes)), .data (.slc false none 1 (List.map e_i64 x.Next)), .data (.slc false none 1 (List.map e_i64 x.Match)), .data (.val (.int .i64 x.Clock))]
def TRaft.ob_000000000001 (x : TRaft) : List AV := [.data (.val (.int .i64 x.Me)), .data (.val (.int .i64 x.Nodes)), .data (.val (.int .i64 x.Wait)), .data (.val (.int .i64 x.Term)), .data (.val (.int .i64 x.Vote)), .data (.slc false none 6 (List.map TEntry.en x.Log)), .data (.val (.int .i64 x.Commit)), .data (.val (.int .i64 x.Role)), .data (.val (.int .i64 x.Leader)), .data (.slc false none 1 (List.map e_b x.Votes)), .data (.slc false none 1 (List.map e_i64 x.Next)), .data (.slc true none 1 (List.map e_i64 x.Match)), .data (.val (.int .i64 x.Clock))]
def TRaft.ob_000000000011 (x : TRaft) : List AV := [.data (.val (.int .i64 x.Me)), .data (.val (.int .i64 x.Nodes)), .data (.val (.int .i64 x.Wait)), .data (.val (.int .i64 x.Term)), .data (.val (.int .i64 x.Vote)), .data (.slc false none 6 (List.map TEntry.en x.Log)), .data (.val (.int .i64 x.Commit)), .data (.val (.int .i64 x.Role)), .data (.val (.int .i64 x.Leader)), .data (.slc false none 1 (List.map e_b x.Votes)), .data (.slc true none 1 (List.map e_i64 x.Next)), .data (.slc true none 1 (List.map e_i64 x.Match)), .data (.val (.int .i64 x.Clock))]
def TRaft.ob_000000000111 (x : TRaft) : List AV := [.data (.val (.int .i64 x.Me)), .data (.val (.int .i64 x.Nodes)), .data (.val (.int .i64 x.Wait)), .data (.val (.int .i64 x.Term)), .data (.val (.int .i64 x.Vote)), .data (.slc false none 6 (List.map TEntry.en x.Log)), .data (.val (.int .i64 x.Commit)), .data (.val (.int .i64 x.Role)), .data (.val (.int .i64 x.Leader)), .data (.slc true none 1 (List.map e_b x.Votes)), .data (.slc true none 1 (List.map e_i64 x.Next)), .data (.slc true none 1 (List.map e_i64 x.Match)), .data (.val (.int .i64 x.Clock))]
def TRaft.ob_000001 (x : TRaft) : List AV := [.data (.val (.int .i64 x.Me)), .data (.val (.int .i64 x.Nodes)), .data (.val (.int .i64 x.Wait)), .data (.val (.int .i64 x.Term)), .data (.val (.int .i64 x.Vote)), .data (.slc true none 6 (List.map TEntry.en x.Log)), .data (.val (.int .i64 x.Commit)), .data (.val (.int .i64 x.Role)), .data (.val (.int .i64 x.Leader)), .data (.slc false none 1 (List.map e_b x.Votes)), .data (.slc false none 1 (List.map e_i64 x.Next)), .data (.slc false none 1 (List.map e_i64 x.Match)), .data (.val (.int .i64 x.Clock))]
def TRaft.ob_000001000111 (x : TRaft) : List AV := [.data (.val (.int .i64 x.Me)), .data (.val (.int .i64 x.Nodes)), .data (.val (.int .i64 x.Wait)), .data (.val (.int .i64 x.Term)), .data (.val (.int .i64 x.Vote)), .data (.slc true none 6 (List.map TEntry.en x.Log)), .data (.val (.int .i64 x.Commit)), .data (.val (.int .i64 x.Role)), .data (.val (.int .i64 x.Leader)), .data (.slc true none 1 (List.map e_b x.Votes)), .data (.slc true none 1 (List.map e_i64 x.Next)), .data (.slc true none 1 (List.map e_i64 x.Match)), .data (.val (.int .i64 x.Clock))]
def TEntry.ag (x : TEntry) : DV := .agg [.val (.int .i64 x.Term), .val (.bool x.Seal), .val (.int .i64 x.T.Session), .val (.int .i64 x.T.Seq), .slc false none 4 (List.map TRead.en x.T.Reads), .slc false none 3 (List.map TWrite.en x.T.Writes)]
def TEntry.ob (x : TEntry) : List AV := [.data (.val (.int .i64 x.Term)), .data (.val (.bool x.Seal)), .data (.val (.int .i64 x.T.Session)), .data (.val (.int .i64 x.T.Seq)), .data (.slc false none 4 (List.map TRead.en x.T.Reads)), .data (.slc false none 3 (List.map TWrite.en x.T.Writes))]
def TMsg.ag (x : TMsg) : DV := .agg [.val (.int .i64 x.Kind), .val (.int .i64 x.From), .val (.int .i64 x.To), .val (.int .i64 x.Part), .val (.int .i64 x.Term), .val (.int .i64 x.Index), .val (.int .i64 x.LogTerm), .val (.int .i64 x.Commit), .val (.bool x.OK), .slc false none 6 (List.map TEntry.en x.Entries), .val (.int .i64 x.T.Session), .val (.int .i64 x.T.Seq), .slc false none 4 (List.map TRead.en x.T.Reads), .slc false none 3 (List.map TWrite.en x.T.Writes), .val (.int .i64 x.Session), .val (.int .i64 x.Seq), .val (.int .i64 x.Pos), .val (.int .i64 x.Shard), .val (.bool x.Span), .val (.string x.FromKey), .val (.string x.ToKey), .slc false none 1 (List.map e_s x.Keys), .slc false none 4 (List.map TRead.en x.Got), .val (.int .i64 x.Err)]
def TMsg.ob (x : TMsg) : List AV := [.data (.val (.int .i64 x.Kind)), .data (.val (.int .i64 x.From)), .data (.val (.int .i64 x.To)), .data (.val (.int .i64 x.Part)), .data (.val (.int .i64 x.Term)), .data (.val (.int .i64 x.Index)), .data (.val (.int .i64 x.LogTerm)), .data (.val (.int .i64 x.Commit)), .data (.val (.bool x.OK)), .data (.slc false none 6 (List.map TEntry.en x.Entries)), .data (.val (.int .i64 x.T.Session)), .data (.val (.int .i64 x.T.Seq)), .data (.slc false none 4 (List.map TRead.en x.T.Reads)), .data (.slc false none 3 (List.map TWrite.en x.T.Writes)), .data (.val (.int .i64 x.Session)), .data (.val (.int .i64 x.Seq)), .data (.val (.int .i64 x.Pos)), .data (.val (.int .i64 x.Shard)), .data (.val (.bool x.Span)), .data (.val (.string x.FromKey)), .data (.val (.string x.ToKey)), .data (.slc false none 1 (List.map e_s x.Keys)), .data (.slc false none 4 (List.map TRead.en x.Got)), .data (.val (.int .i64 x.Err))]
def TMember.ob (x : TMember) : List AV := [.data (.val (.int .i64 x.Raft.Me)), .data (.val (.int .i64 x.Raft.Nodes)), .data (.val (.int .i64 x.Raft.Wait)), .data (.val (.int .i64 x.Raft.Term)), .data (.val (.int .i64 x.Raft.Vote)), .data (.slc false none 6 (List.map TEntry.en x.Raft.Log)), .data (.val (.int .i64 x.Raft.Commit)), .data (.val (.int .i64 x.Raft.Role)), .data (.val (.int .i64 x.Raft.Leader)), .data (.slc false none 1 (List.map e_b x.Raft.Votes)), .data (.slc false none 1 (List.map e_i64 x.Raft.Next)), .data (.slc false none 1 (List.map e_i64 x.Raft.Match)), .data (.val (.int .i64 x.Raft.Clock)), .data (.slc false none 24 (List.map TMsg.en x.out))]
def TMember.ob_0000000001 (x : TMember) : List AV := [.data (.val (.int .i64 x.Raft.Me)), .data (.val (.int .i64 x.Raft.Nodes)), .data (.val (.int .i64 x.Raft.Wait)), .data (.val (.int .i64 x.Raft.Term)), .data (.val (.int .i64 x.Raft.Vote)), .data (.slc false none 6 (List.map TEntry.en x.Raft.Log)), .data (.val (.int .i64 x.Raft.Commit)), .data (.val (.int .i64 x.Raft.Role)), .data (.val (.int .i64 x.Raft.Leader)), .data (.slc true none 1 (List.map e_b x.Raft.Votes)), .data (.slc false none 1 (List.map e_i64 x.Raft.Next)), .data (.slc false none 1 (List.map e_i64 x.Raft.Match)), .data (.val (.int .i64 x.Raft.Clock)), .data (.slc false none 24 (List.map TMsg.en x.out))]
def TMember.ob_00000000010001 (x : TMember) : List AV := [.data (.val (.int .i64 x.Raft.Me)), .data (.val (.int .i64 x.Raft.Nodes)), .data (.val (.int .i64 x.Raft.Wait)), .data (.val (.int .i64 x.Raft.Term)), .data (.val (.int .i64 x.Raft.Vote)), .data (.slc false none 6 (List.map TEntry.en x.Raft.Log)), .data (.val (.int .i64 x.Raft.Commit)), .data (.val (.int .i64 x.Raft.Role)), .data (.val (.int .i64 x.Raft.Leader)), .data (.slc true none 1 (List.map e_b x.Raft.Votes)), .data (.slc false none 1 (List.map e_i64 x.Raft.Next)), .data (.slc false none 1 (List.map e_i64 x.Raft.Match)), .data (.val (.int .i64 x.Raft.Clock)), .data (.slc true none 24 (List.map TMsg.en x.out))]
def TMember.ob_00000000010101 (x : TMember) : List AV := [.data (.val (.int .i64 x.Raft.Me)), .data (.val (.int .i64 x.Raft.Nodes)), .data (.val (.int .i64 x.Raft.Wait)), .data (.val (.int .i64 x.Raft.Term)), .data (.val (.int .i64 x.Raft.Vote)), .data (.slc false none 6 (List.map TEntry.en x.Raft.Log)), .data (.val (.int .i64 x.Raft.Commit)), .data (.val (.int .i64 x.Raft.Role)), .data (.val (.int .i64 x.Raft.Leader)), .data (.slc true none 1 (List.map e_b x.Raft.Votes)), .data (.slc false none 1 (List.map e_i64 x.Raft.Next)), .data (.slc true none 1 (List.map e_i64 x.Raft.Match)), .data (.val (.int .i64 x.Raft.Clock)), .data (.slc true none 24 (List.map TMsg.en x.out))]
def TMember.ob_00000000011101 (x : TMember) : List AV := [.data (.val (.int .i64 x.Raft.Me)), .data (.val (.int .i64 x.Raft.Nodes)), .data (.val (.int .i64 x.Raft.Wait)), .data (.val (.int .i64 x.Raft.Term)), .data (.val (.int .i64 x.Raft.Vote)), .data (.slc false none 6 (List.map TEntry.en x.Raft.Log)), .data (.val (.int .i64 x.Raft.Commit)), .data (.val (.int .i64 x.Raft.Role)), .data (.val (.int .i64 x.Raft.Leader)), .data (.slc true none 1 (List.map e_b x.Raft.Votes)), .data (.slc true none 1 (List.map e_i64 x.Raft.Next)), .data (.slc true none 1 (List.map e_i64 x.Raft.Match)), .data (.val (.int .i64 x.Raft.Clock)), .data (.slc true none 24 (List.map TMsg.en x.out))]
def TMember.ob_00000100011101 (x : TMember) : List AV := [.data (.val (.int .i64 x.Raft.Me)), .data (.val (.int .i64 x.Raft.Nodes)), .data (.val (.int .i64 x.Raft.Wait)), .data (.val (.int .i64 x.Raft.Term)), .data (.val (.int .i64 x.Raft.Vote)), .data (.slc true none 6 (List.map TEntry.en x.Raft.Log)), .data (.val (.int .i64 x.Raft.Commit)), .data (.val (.int .i64 x.Raft.Role)), .data (.val (.int .i64 x.Raft.Leader)), .data (.slc true none 1 (List.map e_b x.Raft.Votes)), .data (.slc true none 1 (List.map e_i64 x.Raft.Next)), .data (.slc true none 1 (List.map e_i64 x.Raft.Match)), .data (.val (.int .i64 x.Raft.Clock)), .data (.slc true none 24 (List.map TMsg.en x.out))]
/-- diwan/raft.New -/
noncomputable def bd20 : Code := (Try.f20.body).getD .skip
def raft_New.O : Nat → Nat := fun t => bif ([6, 7, 15, 17, 19, 20] : List Nat).any (Nat.beq t) then 1 else 0
noncomputable def raft_New (me : Int) (nodes : Int) (wait : Int) : Option TRaft :=
  gd (decide ((0 : Int) ≤ (if (4096 : Int) < (if nodes < 0 then 0 else nodes) then 4096 else (if nodes < 0 then 0 else nodes)) ∧ (if (4096 : Int) < (if nodes < 0 then 0 else nodes) then 4096 else (if nodes < 0 then 0 else nodes)) ≤ (if (4096 : Int) < (if nodes < 0 then 0 else nodes) then 4096 else (if nodes < 0 then 0 else nodes)) ∧ (if (4096 : Int) < (if nodes < 0 then 0 else nodes) then 4096 else (if nodes < 0 then 0 else nodes)) ≤ 4294967296)) <|
  gd (decide ((0 : Int) ≤ (if (4096 : Int) < (if nodes < 0 then 0 else nodes) then 4096 else (if nodes < 0 then 0 else nodes)) ∧ (if (4096 : Int) < (if nodes < 0 then 0 else nodes) then 4096 else (if nodes < 0 then 0 else nodes)) ≤ (if (4096 : Int) < (if nodes < 0 then 0 else nodes) then 4096 else (if nodes < 0 then 0 else nodes)) ∧ (if (4096 : Int) < (if nodes < 0 then 0 else nodes) then 4096 else (if nodes < 0 then 0 else nodes)) ≤ 4294967296)) <|
  gd (decide ((0 : Int) ≤ (if (4096 : Int) < (if nodes < 0 then 0 else nodes) then 4096 else (if nodes < 0 then 0 else nodes)) ∧ (if (4096 : Int) < (if nodes < 0 then 0 else nodes) then 4096 else (if nodes < 0 then 0 else nodes)) ≤ (if (4096 : Int) < (if nodes < 0 then 0 else nodes) then 4096 else (if nodes < 0 then 0 else nodes)) ∧ (if (4096 : Int) < (if nodes < 0 then 0 else nodes) then 4096 else (if nodes < 0 then 0 else nodes)) ≤ 4294967296)) <|
  some (TRaft.mk me nodes wait 0 0 [] 0 0 0 (List.replicate (if (4096 : Int) < (if nodes < 0 then 0 else nodes) then 4096 else (if nodes < 0 then 0 else nodes)).toNat (false : Bool)) (List.replicate (if (4096 : Int) < (if nodes < 0 then 0 else nodes) then 4096 else (if nodes < 0 then 0 else nodes)).toNat (0 : Int)) (List.replicate (if (4096 : Int) < (if nodes < 0 then 0 else nodes) then 4096 else (if nodes < 0 then 0 else nodes)).toNat (0 : Int)) 0)
theorem raft_New.meets (me : Int) (nodes : Int) (wait : Int) (z0 : TRaft) (h : raft_New me nodes wait = some z0) : Meets Try.prog ⟨20, [iv me, iv nodes, iv wait], []⟩ ⟨.data (TRaft.ag_000001000111 z0), []⟩ := by
  refine meets_of (O := raft_New.O) hmix (fn := Try.f20) (code := bd20) (by kernel_rfl) ?_
  refine WK.weak (l := [(.t 0, [iv me]), (.t 1, [iv nodes]), (.t 2, [iv wait])]) (wk_of (by kernel_rfl)) ?_
  unfold raft_New at h
  refine WK.rs (g := []) (l' := [(.t 0, [iv me]), (.t 1, [iv nodes]), (.t 2, [iv wait]), (.t 6, [.ptr 6 0]), (.o 6, (TRaft.ob_000001000111 (TRaft.mk 0 0 0 0 0 [] 0 0 0 [] [] [] 0)))]) (by kernel_rfl) .nil (by kernel_rfl) ?_
  refine WK.rs (g := []) (l' := [(.t 0, [iv me]), (.t 1, [iv nodes]), (.t 2, [iv wait]), (.t 6, [.ptr 6 0]), (.t 7, [iv (if (4096 : Int) < (if nodes < 0 then 0 else nodes) then 4096 else (if nodes < 0 then 0 else nodes))]), (.o 6, (TRaft.ob_000001000111 (TRaft.mk 0 0 0 0 0 [] 0 0 0 [] [] [] 0)))]) (by kernel_rfl) .nil (by kernel_rfl) ?_
  obtain ⟨c3_1, h⟩ := gd_inv h
  obtain ⟨c3_2, h⟩ := gd_inv h
  obtain ⟨c3_3, h⟩ := gd_inv h
  refine WK.rs (g := [.s (.t 15) [.data (.slc true (some false) 1 (List.map e_b (List.replicate (if (4096 : Int) < (if nodes < 0 then 0 else nodes) then 4096 else (if nodes < 0 then 0 else nodes)).toNat (false : Bool))))], .s (.t 17) [.data (.slc true (some false) 1 (List.map e_i64 (List.replicate (if (4096 : Int) < (if nodes < 0 then 0 else nodes) then 4096 else (if nodes < 0 then 0 else nodes)).toNat (0 : Int))))], .s (.t 19) [.data (.slc true (some false) 1 (List.map e_i64 (List.replicate (if (4096 : Int) < (if nodes < 0 then 0 else nodes) then 4096 else (if nodes < 0 then 0 else nodes)).toNat (0 : Int))))]]) (l' := [(.t 6, [.ptr 6 0]), (.o 6, (TRaft.ob_000001000111 (TRaft.mk me nodes wait 0 0 [] 0 0 0 (List.replicate (if (4096 : Int) < (if nodes < 0 then 0 else nodes) then 4096 else (if nodes < 0 then 0 else nodes)).toNat (false : Bool)) (List.replicate (if (4096 : Int) < (if nodes < 0 then 0 else nodes) then 4096 else (if nodes < 0 then 0 else nodes)).toNat (0 : Int)) (List.replicate (if (4096 : Int) < (if nodes < 0 then 0 else nodes) then 4096 else (if nodes < 0 then 0 else nodes)).toNat (0 : Int)) 0)))]) (by kernel_rfl) (.cons c3_1 (.cons (congrArg (fun d : DV => [AV.data d]) (c_rep (e := e_b) (s := 1) (n := (if (4096 : Int) < (if nodes < 0 then 0 else nodes) then 4096 else (if nodes < 0 then 0 else nodes)).toNat) (x := false))) (.cons c3_2 (.cons (congrArg (fun d : DV => [AV.data d]) (c_rep (e := e_i64) (s := 1) (n := (if (4096 : Int) < (if nodes < 0 then 0 else nodes) then 4096 else (if nodes < 0 then 0 else nodes)).toNat) (x := 0))) (.cons c3_3 (.cons (congrArg (fun d : DV => [AV.data d]) (c_rep (e := e_i64) (s := 1) (n := (if (4096 : Int) < (if nodes < 0 then 0 else nodes) then 4096 else (if nodes < 0 then 0 else nodes)).toNat) (x := 0))) (.cons (Eq.refl true) .nil))))))) (by kernel_rfl) ?_
  refine WK.weak (l := [(.t 6, [.ptr 6 0]), (.o 6, (TRaft.ob_000001000111 (TRaft.mk me nodes wait 0 0 [] 0 0 0 (List.replicate (if (4096 : Int) < (if nodes < 0 then 0 else nodes) then 4096 else (if nodes < 0 then 0 else nodes)).toNat (false : Bool)) (List.replicate (if (4096 : Int) < (if nodes < 0 then 0 else nodes) then 4096 else (if nodes < 0 then 0 else nodes)).toNat (0 : Int)) (List.replicate (if (4096 : Int) < (if nodes < 0 then 0 else nodes) then 4096 else (if nodes < 0 then 0 else nodes)).toNat (0 : Int)) 0)))]) (wk_of (by kernel_rfl)) ?_
  refine WK.ret (by kernel_rfl) ?_
  have h_ := some_inj h
  subst h_
  exact WKe.fin (e' := .ret) (by kernel_rfl) (fin_of (g := []) (by first | exact .inl rfl | exact .inr rfl) .nil (by kernel_rfl))
/-- diwan/raft.May$1 -/
noncomputable def bd41 : Code := (Try.f41.body).getD .skip
def raft_May_1.O : Nat → Nat := fun t => bif ([6] : List Nat).any (Nat.beq t) then 1 else 0
noncomputable def raft_May_1 (v : Int) (from_v : Int) (to : Int) : Option Bool :=
  br (decide (v ≥ from_v))
    (some (decide (v ≤ to)))
    (some false)
theorem raft_May_1.meets (v : Int) (from_v : Int) (to : Int) (z0 : Bool) (h : raft_May_1 v from_v to = some z0) : Meets Try.prog ⟨41, [iv v, iv from_v, iv to], []⟩ ⟨bv z0, []⟩ := by
  refine meets_of (O := raft_May_1.O) hmix (fn := Try.f41) (code := bd41) (by kernel_rfl) ?_
  refine WK.weak (l := [(.t 0, [iv v]), (.t 1, [iv from_v]), (.t 2, [iv to])]) (wk_of (by kernel_rfl)) ?_
  unfold raft_May_1 at h
  refine WK.rs (g := []) (l' := [(.t 0, [iv v]), (.t 1, [iv from_v]), (.t 2, [iv to])]) (by kernel_rfl) .nil (by kernel_rfl) ?_
  rcases br_inv h with ⟨b2_1, h⟩ | ⟨b2_1, h⟩
  · refine WK.rs (g := [.b true, .b true, .b true, .b true]) (l' := [(.t 6, [bv (decide (v ≤ to))])]) (by kernel_rfl) (.cons b2_1 (.cons b2_1 (.cons b2_1 (.cons b2_1 .nil)))) (by kernel_rfl) ?_
    refine WK.weak (l := [(.t 6, [bv (decide (v ≤ to))])]) (wk_of (by kernel_rfl)) ?_
    refine WK.ret (by kernel_rfl) ?_
    have h_ := some_inj h
    subst h_
    exact WKe.fin (e' := .ret) (by kernel_rfl) (fin_of (g := []) (by first | exact .inl rfl | exact .inr rfl) .nil (by kernel_rfl))
  · refine WK.rs (g := [.b false, .b false, .b false, .b false]) (l' := [(.t 6, [bv false])]) (by kernel_rfl) (.cons b2_1 (.cons b2_1 (.cons b2_1 (.cons b2_1 .nil)))) (by kernel_rfl) ?_
    refine WK.weak (l := [(.t 6, [bv false])]) (wk_of (by kernel_rfl)) ?_
    refine WK.ret (by kernel_rfl) ?_
    have h_ := some_inj h
    subst h_
    exact WKe.fin (e' := .ret) (by kernel_rfl) (fin_of (g := []) (by first | exact .inl rfl | exact .inr rfl) .nil (by kernel_rfl))
/-- diwan/raft.May -/
noncomputable def bd16 : Code := (Try.f16.body).getD .skip
def raft_May.O : Nat → Nat := fun t => bif ([1, 2, 3, 4, 6] : List Nat).any (Nat.beq t) then 1 else 0
noncomputable def raft_May.lp5 (fu : Nat) (l5_1 : List TEntry) (l5_2 : Int) (l5_4 : TRaft) : Nat → Int → Int → Option (Unit ⊕ Unit)
  | 0, _, _ => none
  | n_ + 1, l5_0, l5_3 =>
    br (decide (l5_3 < l5_2))
      (ix l5_1 l5_3 fun x8_1 =>
      bd (raft_May_1 x8_1.Term l5_0 l5_4.Term) fun r9_1 =>
      br (!r9_1)
        (some (.inr ()))
        (raft_May.lp5 fu l5_1 l5_2 l5_4 n_ x8_1.Term (w64 (l5_3 + 1))))
      (some (.inl ()))
noncomputable def raft_May.lp5_post (l5_1 : List TEntry) (l5_2 : Int) (l5_4 : TRaft) (r_ : (Unit ⊕ Unit)) : Wy → St → Prop := fun e τ => match r_ with
  | .inl _ => e = .exit 0 ∧ τ = ofL [(.t 1, [.ptr 1 0]), (.t 3, [.fn (.func 41) [] []]), (.o 1, (TRaft.ob l5_4))]
  | .inr _ => e = .ret ∧ τ = ofL [(.t 2, [bv false])]
theorem raft_May.lp5_ok (fu : Nat) (l5_1 : List TEntry) (l5_2 : Int) (l5_4 : TRaft) : ∀ (n_ : Nat) (l5_0 : Int) (l5_3 : Int) (r_ : (Unit ⊕ Unit)), raft_May.lp5 fu l5_1 l5_2 l5_4 n_ l5_0 l5_3 = some r_ → WK Try.prog raft_May.O (Ck Try.prog) (cB (cR (cL (cR (cR (cR bd16)))))) [] (ofL [(.t 1, [.ptr 1 0]), (.t 3, [.fn (.func 41) [] []]), (.t 4, [iv l5_0]), (.t 8, [.data (.slc false none 6 (List.map TEntry.en l5_1))]), (.t 9, [iv l5_2]), (.t 10, [iv l5_3]), (.o 1, (TRaft.ob l5_4))]) (raft_May.lp5_post l5_1 l5_2 l5_4 r_) := by
  intro n_
  induction n_ with
  | zero => intro l5_0 l5_3 r_ h; exact no_none h
  | succ n_ ih =>
    intro l5_0 l5_3 r_ h
    refine WK.loop (by kernel_rfl) ?_
    refine WK.rs (g := []) (l' := [(.t 1, [.ptr 1 0]), (.t 3, [.fn (.func 41) [] []]), (.t 4, [iv l5_0]), (.t 8, [.data (.slc false none 6 (List.map TEntry.en l5_1))]), (.t 9, [iv l5_2]), (.t 10, [iv l5_3]), (.t 11, [bv (decide (l5_3 < l5_2))]), (.o 1, (TRaft.ob l5_4))]) (by kernel_rfl) .nil (by kernel_rfl) ?_
    refine WK.seq (by kernel_rfl) ?_
    rcases br_inv h with ⟨b7_0, h⟩ | ⟨b7_0, h⟩
    · refine WK.ct (b := (decide (l5_3 < l5_2))) (by kernel_rfl) b7_0 ?_
      refine WK.skip (by kernel_rfl) ?_
      refine WKe.code (y := (cR (cR (cB (cB (cR (cL (cR (cR (cR bd16)))))))))) (ks' := [.lp (cB (cR (cL (cR (cR (cR bd16))))))]) (by kernel_rfl) ?_
      refine WK.seq (by kernel_rfl) ?_
      refine WK.block (n := 1) (by kernel_rfl) ?_
      obtain ⟨x8_1, a8_2, e8_3, h⟩ := ix_inv h
      refine WK.rs (g := [.c (TEntry.en x8_1)]) (l' := [(.t 1, [.ptr 1 0]), (.t 3, [.fn (.func 41) [] []]), (.t 4, [iv l5_0]), (.t 6, [.ptr 6 0]), (.t 8, [.data (.slc false none 6 (List.map TEntry.en l5_1))]), (.t 9, [iv l5_2]), (.t 10, [iv l5_3]), (.o 1, (TRaft.ob l5_4)), (.o 6, (TEntry.ob x8_1))]) (by kernel_rfl) (.cons (c_ix (e := TEntry.en) a8_2 e8_3) (.cons (c_el (e := TEntry.en) e8_3) .nil)) (by kernel_rfl) ?_
      refine WK.seq (by kernel_rfl) ?_
      obtain ⟨r9_1, h9_2, h⟩ := bd_inv h
      refine WK.rs (g := [.a ⟨bv r9_1, []⟩]) (l' := [(.t 1, [.ptr 1 0]), (.t 3, [.fn (.func 41) [] []]), (.t 6, [.ptr 6 0]), (.t 8, [.data (.slc false none 6 (List.map TEntry.en l5_1))]), (.t 9, [iv l5_2]), (.t 10, [iv l5_3]), (.t 21, [bv (!r9_1)]), (.o 1, (TRaft.ob l5_4)), (.o 6, (TEntry.ob x8_1))]) (by kernel_rfl) (.cons (Asks.of (C := Meets Try.prog) (raft_May_1.meets x8_1.Term l5_0 l5_4.Term _ h9_2)) .nil) (by kernel_rfl) ?_
      rcases br_inv h with ⟨b10_0, h⟩ | ⟨b10_0, h⟩
      · refine WK.ct (b := (!r9_1)) (by kernel_rfl) b10_0 ?_
        refine WK.rs (g := []) (l' := [(.t 2, [bv false])]) (by kernel_rfl) .nil (by kernel_rfl) ?_
        refine WK.weak (l := [(.t 2, [bv false])]) (wk_of (by kernel_rfl)) ?_
        refine WK.ret (by kernel_rfl) ?_
        cases some_inj h
        exact WKe.fin (e' := .ret) (by kernel_rfl) ⟨rfl, rfl⟩
      · refine WK.ce (b := (!r9_1)) (by kernel_rfl) b10_0 ?_
        refine WK.skip (by kernel_rfl) ?_
        refine WKe.code (y := (cR (cR (cB (cL (cR (cR (cB (cB (cR (cL (cR (cR (cR bd16)))))))))))))) (ks' := [.blk 1, .seq (cR (cR (cR (cB (cB (cR (cL (cR (cR (cR bd16)))))))))), .lp (cB (cR (cL (cR (cR (cR bd16))))))]) (by kernel_rfl) ?_
        refine WK.rc (g := []) (l' := [(.t 1, [.ptr 1 0]), (.t 3, [.fn (.func 41) [] []]), (.t 4, [iv x8_1.Term]), (.t 8, [.data (.slc false none 6 (List.map TEntry.en l5_1))]), (.t 9, [iv l5_2]), (.t 10, [iv l5_3]), (.o 1, (TRaft.ob l5_4))]) .nil (by kernel_rfl) (y := (cR (cR (cR (cB (cB (cR (cL (cR (cR (cR bd16))))))))))) (ks' := [.lp (cB (cR (cL (cR (cR (cR bd16))))))]) (by kernel_rfl) ?_
        refine WK.rc (g := []) (l' := [(.t 1, [.ptr 1 0]), (.t 3, [.fn (.func 41) [] []]), (.t 4, [iv x8_1.Term]), (.t 8, [.data (.slc false none 6 (List.map TEntry.en l5_1))]), (.t 9, [iv l5_2]), (.t 10, [iv (w64 (l5_3 + 1))]), (.o 1, (TRaft.ob l5_4))]) .nil (by kernel_rfl) (y := (cB (cR (cL (cR (cR (cR bd16))))))) (ks' := []) (by kernel_rfl) ?_
        exact WK.weak (l := [(.t 1, [.ptr 1 0]), (.t 3, [.fn (.func 41) [] []]), (.t 4, [iv x8_1.Term]), (.t 8, [.data (.slc false none 6 (List.map TEntry.en l5_1))]), (.t 9, [iv l5_2]), (.t 10, [iv (w64 (l5_3 + 1))]), (.o 1, (TRaft.ob l5_4))]) (wk_of (by kernel_rfl)) (ih x8_1.Term (w64 (l5_3 + 1)) _ h)
    · refine WK.ce (b := (decide (l5_3 < l5_2))) (by kernel_rfl) b7_0 ?_
      refine WK.weak (l := [(.t 1, [.ptr 1 0]), (.t 3, [.fn (.func 41) [] []]), (.o 1, (TRaft.ob l5_4))]) (wk_of (by kernel_rfl)) ?_
      refine WK.exit (n := 0) (by kernel_rfl) ?_
      cases some_inj h
      exact WKe.fin (e' := .exit 0) (by kernel_rfl) ⟨rfl, rfl⟩
noncomputable def raft_May (fu : Nat) (r_v : TRaft) : Option Bool :=
  bd (raft_May.lp5 fu r_v.Log (r_v.Log.length : Int) r_v fu 1 0) fun o_ => (match o_ with
  | .inl _ =>
    bd (raft_May_1 r_v.Nodes 1 5) fun r15_1 =>
    br r15_1
      (bd (raft_May_1 r_v.Me 1 r_v.Nodes) fun r15_4 =>
      br r15_4
        (bd (raft_May_1 r_v.Wait 1 60) fun r15_7 =>
        br r15_7
          (br (decide (r_v.Term ≥ 0))
            (bd (raft_May_1 r_v.Vote 0 r_v.Nodes) fun r15_11 =>
            br r15_11
              (bd (raft_May_1 r_v.Leader 0 r_v.Nodes) fun r15_14 =>
              br r15_14
                (br (decide ((r_v.Log.length : Int) ≤ 200))
                  (bd (raft_May_1 r_v.Commit 0 (r_v.Log.length : Int)) fun r15_18 =>
                  br r15_18
                    (bd (raft_May_1 r_v.Role 0 2) fun r15_21 =>
                    br r15_21
                      (br (decide (r_v.Clock ≥ 0))
                        (br ((r_v.Votes.length : Int) == r_v.Nodes)
                          (br ((r_v.Next.length : Int) == r_v.Nodes)
                            (some ((r_v.Match.length : Int) == r_v.Nodes))
                            (some false))
                          (some false))
                        (some false))
                      (some false))
                    (some false))
                  (some false))
                (some false))
              (some false))
            (some false))
          (some false))
        (some false))
      (some false)
  | .inr _ =>
    some false)
theorem raft_May.meets (fu : Nat) (r_v : TRaft) (z0 : Bool) (h : raft_May fu r_v = some z0) : Meets Try.prog ⟨16, [.data (TRaft.ag r_v)], []⟩ ⟨bv z0, []⟩ := by
  refine meets_of (O := raft_May.O) hmix (fn := Try.f16) (code := bd16) (by kernel_rfl) ?_
  refine WK.weak (l := [(.t 0, [.data (TRaft.ag r_v)])]) (wk_of (by kernel_rfl)) ?_
  unfold raft_May at h
  refine WK.rs (g := []) (l' := [(.t 1, [.ptr 1 0]), (.o 1, (TRaft.ob r_v))]) (by kernel_rfl) .nil (by kernel_rfl) ?_
  refine WK.rs (g := []) (l' := [(.t 1, [.ptr 1 0]), (.t 3, [.fn (.func 41) [] []]), (.o 1, (TRaft.ob r_v))]) (by kernel_rfl) .nil (by kernel_rfl) ?_
  refine WK.rs (g := []) (l' := [(.t 1, [.ptr 1 0]), (.t 3, [.fn (.func 41) [] []]), (.t 4, [iv 1]), (.o 1, (TRaft.ob r_v))]) (by kernel_rfl) .nil (by kernel_rfl) ?_
  refine WK.seq (by kernel_rfl) ?_
  refine WK.rs (g := [.s (.t 9) [iv (r_v.Log.length : Int)]]) (l' := [(.t 1, [.ptr 1 0]), (.t 3, [.fn (.func 41) [] []]), (.t 4, [iv 1]), (.t 8, [.data (.slc false none 6 (List.map TEntry.en r_v.Log))]), (.t 9, [iv (r_v.Log.length : Int)]), (.t 10, [iv 0]), (.o 1, (TRaft.ob r_v))]) (by kernel_rfl) (.cons (c_len (e := TEntry.en) (l := r_v.Log)) .nil) (by kernel_rfl) ?_
  refine WK.block (n := 0) (by kernel_rfl) ?_
  obtain ⟨o14, ho14, h⟩ := bd_inv h
  refine WK.weak (l := [(.t 1, [.ptr 1 0]), (.t 3, [.fn (.func 41) [] []]), (.t 4, [iv 1]), (.t 8, [.data (.slc false none 6 (List.map TEntry.en r_v.Log))]), (.t 9, [iv (r_v.Log.length : Int)]), (.t 10, [iv 0]), (.o 1, (TRaft.ob r_v))]) (wk_of (by kernel_rfl)) ?_
  refine WK.use (raft_May.lp5_ok fu r_v.Log (r_v.Log.length : Int) r_v _ 1 0 _ ho14) ?_
  intro e_ τ_ hp_
  rcases o14 with o14 | o14
  · obtain ⟨⟩ := o14
    obtain ⟨rfl, rfl⟩ := hp_
    refine WKe.code (y := (cR (cR (cR (cR bd16))))) (ks' := []) (by kernel_rfl) ?_
    obtain ⟨r15_1, h15_2, h⟩ := bd_inv h
    rcases br_inv h with ⟨b15_3, h⟩ | ⟨b15_3, h⟩
    · obtain ⟨r15_4, h15_5, h⟩ := bd_inv h
      rcases br_inv h with ⟨b15_6, h⟩ | ⟨b15_6, h⟩
      · obtain ⟨r15_7, h15_8, h⟩ := bd_inv h
        rcases br_inv h with ⟨b15_9, h⟩ | ⟨b15_9, h⟩
        · rcases br_inv h with ⟨b15_10, h⟩ | ⟨b15_10, h⟩
          · obtain ⟨r15_11, h15_12, h⟩ := bd_inv h
            rcases br_inv h with ⟨b15_13, h⟩ | ⟨b15_13, h⟩
            · obtain ⟨r15_14, h15_15, h⟩ := bd_inv h
              rcases br_inv h with ⟨b15_16, h⟩ | ⟨b15_16, h⟩
              · rcases br_inv h with ⟨b15_17, h⟩ | ⟨b15_17, h⟩
                · obtain ⟨r15_18, h15_19, h⟩ := bd_inv h
                  rcases br_inv h with ⟨b15_20, h⟩ | ⟨b15_20, h⟩
                  · obtain ⟨r15_21, h15_22, h⟩ := bd_inv h
                    rcases br_inv h with ⟨b15_23, h⟩ | ⟨b15_23, h⟩
                    · rcases br_inv h with ⟨b15_24, h⟩ | ⟨b15_24, h⟩
                      · rcases br_inv h with ⟨b15_25, h⟩ | ⟨b15_25, h⟩
                        · rcases br_inv h with ⟨b15_26, h⟩ | ⟨b15_26, h⟩
                          · refine WK.rs (g := [.a ⟨bv r15_1, []⟩, .b true, .b true, .b true, .b true, .b true, .b true, .a ⟨bv r15_4, []⟩, .b true, .b true, .b true, .b true, .b true, .a ⟨bv r15_7, []⟩, .b true, .b true, .b true, .b true, .b true, .b true, .b true, .b true, .b true, .b true, .b true, .a ⟨bv r15_11, []⟩, .b true, .b true, .b true, .b true, .b true, .b true, .b true, .a ⟨bv r15_14, []⟩, .b true, .b true, .b true, .b true, .s (.t 67) [iv (r_v.Log.length : Int)], .b true, .b true, .b true, .b true, .b true, .b true, .b true, .b true, .s (.t 76) [iv (r_v.Log.length : Int)], .b true, .a ⟨bv r15_18, []⟩, .b true, .b true, .b true, .b true, .b true, .a ⟨bv r15_21, []⟩, .b true, .b true, .b true, .b true, .b true, .b true, .b true, .b true, .s (.t 93) [iv (r_v.Votes.length : Int)], .b true, .b true, .b true, .b true, .b true, .b true, .b true, .s (.t 101) [iv (r_v.Next.length : Int)], .b true, .b true, .b true, .b true, .b true, .b true, .b true, .s (.t 109) [iv (r_v.Match.length : Int)], .b true, .b true, .b true, .b true]) (l' := [(.t 2, [bv ((r_v.Match.length : Int) == r_v.Nodes)])]) (by kernel_rfl) (.cons (Asks.of (C := Meets Try.prog) (raft_May_1.meets r_v.Nodes 1 5 _ h15_2)) (.cons b15_3 (.cons b15_3 (.cons b15_3 (.cons b15_3 (.cons b15_3 (.cons b15_3 (.cons (Asks.of (C := Meets Try.prog) (raft_May_1.meets r_v.Me 1 r_v.Nodes _ h15_5)) (.cons b15_3 (.cons b15_6 (.cons b15_6 (.cons b15_6 (.cons b15_6 (.cons (Asks.of (C := Meets Try.prog) (raft_May_1.meets r_v.Wait 1 60 _ h15_8)) (.cons b15_6 (.cons b15_9 (.cons b15_9 (.cons b15_9 (.cons b15_9 (.cons b15_10 (.cons b15_10 (.cons b15_10 (.cons b15_10 (.cons b15_10 (.cons b15_10 (.cons (Asks.of (C := Meets Try.prog) (raft_May_1.meets r_v.Vote 0 r_v.Nodes _ h15_12)) (.cons b15_10 (.cons b15_13 (.cons b15_13 (.cons b15_13 (.cons b15_13 (.cons b15_13 (.cons b15_13 (.cons (Asks.of (C := Meets Try.prog) (raft_May_1.meets r_v.Leader 0 r_v.Nodes _ h15_15)) (.cons b15_13 (.cons b15_16 (.cons b15_16 (.cons b15_16 (.cons (c_len (e := TEntry.en) (l := r_v.Log)) (.cons b15_16 (.cons b15_16 (.cons b15_17 (.cons b15_17 (.cons b15_17 (.cons b15_17 (.cons b15_17 (.cons b15_17 (.cons (c_len (e := TEntry.en) (l := r_v.Log)) (.cons b15_17 (.cons (Asks.of (C := Meets Try.prog) (raft_May_1.meets r_v.Commit 0 (r_v.Log.length : Int) _ h15_19)) (.cons b15_17 (.cons b15_20 (.cons b15_20 (.cons b15_20 (.cons b15_20 (.cons (Asks.of (C := Meets Try.prog) (raft_May_1.meets r_v.Role 0 2 _ h15_22)) (.cons b15_20 (.cons b15_23 (.cons b15_23 (.cons b15_23 (.cons b15_23 (.cons b15_24 (.cons b15_24 (.cons b15_24 (.cons (c_len (e := e_b) (l := r_v.Votes)) (.cons b15_24 (.cons b15_24 (.cons b15_24 (.cons b15_24 (.cons b15_25 (.cons b15_25 (.cons b15_25 (.cons (c_len (e := e_i64) (l := r_v.Next)) (.cons b15_25 (.cons b15_25 (.cons b15_25 (.cons b15_25 (.cons b15_26 (.cons b15_26 (.cons b15_26 (.cons (c_len (e := e_i64) (l := r_v.Match)) (.cons b15_26 (.cons b15_26 (.cons b15_26 (.cons b15_26 .nil))))))))))))))))))))))))))))))))))))))))))))))))))))))))))))))))))))))))))))))))))))) (by kernel_rfl) ?_
                            refine WK.weak (l := [(.t 2, [bv ((r_v.Match.length : Int) == r_v.Nodes)])]) (wk_of (by kernel_rfl)) ?_
                            refine WK.ret (by kernel_rfl) ?_
                            have h_ := some_inj h
                            subst h_
                            exact WKe.fin (e' := .ret) (by kernel_rfl) (fin_of (g := []) (by first | exact .inl rfl | exact .inr rfl) .nil (by kernel_rfl))
                          · refine WK.rs (g := [.a ⟨bv r15_1, []⟩, .b true, .b true, .b true, .b true, .b true, .b true, .a ⟨bv r15_4, []⟩, .b true, .b true, .b true, .b true, .b true, .a ⟨bv r15_7, []⟩, .b true, .b true, .b true, .b true, .b true, .b true, .b true, .b true, .b true, .b true, .b true, .a ⟨bv r15_11, []⟩, .b true, .b true, .b true, .b true, .b true, .b true, .b true, .a ⟨bv r15_14, []⟩, .b true, .b true, .b true, .b true, .s (.t 67) [iv (r_v.Log.length : Int)], .b true, .b true, .b true, .b true, .b true, .b true, .b true, .b true, .s (.t 76) [iv (r_v.Log.length : Int)], .b true, .a ⟨bv r15_18, []⟩, .b true, .b true, .b true, .b true, .b true, .a ⟨bv r15_21, []⟩, .b true, .b true, .b true, .b true, .b true, .b true, .b true, .b true, .s (.t 93) [iv (r_v.Votes.length : Int)], .b true, .b true, .b true, .b true, .b true, .b true, .b true, .s (.t 101) [iv (r_v.Next.length : Int)], .b true, .b true, .b true, .b true, .b false, .b false, .b false, .b false, .b false, .b false, .b false]) (l' := [(.t 2, [bv false])]) (by kernel_rfl) (.cons (Asks.of (C := Meets Try.prog) (raft_May_1.meets r_v.Nodes 1 5 _ h15_2)) (.cons b15_3 (.cons b15_3 (.cons b15_3 (.cons b15_3 (.cons b15_3 (.cons b15_3 (.cons (Asks.of (C := Meets Try.prog) (raft_May_1.meets r_v.Me 1 r_v.Nodes _ h15_5)) (.cons b15_3 (.cons b15_6 (.cons b15_6 (.cons b15_6 (.cons b15_6 (.cons (Asks.of (C := Meets Try.prog) (raft_May_1.meets r_v.Wait 1 60 _ h15_8)) (.cons b15_6 (.cons b15_9 (.cons b15_9 (.cons b15_9 (.cons b15_9 (.cons b15_10 (.cons b15_10 (.cons b15_10 (.cons b15_10 (.cons b15_10 (.cons b15_10 (.cons (Asks.of (C := Meets Try.prog) (raft_May_1.meets r_v.Vote 0 r_v.Nodes _ h15_12)) (.cons b15_10 (.cons b15_13 (.cons b15_13 (.cons b15_13 (.cons b15_13 (.cons b15_13 (.cons b15_13 (.cons (Asks.of (C := Meets Try.prog) (raft_May_1.meets r_v.Leader 0 r_v.Nodes _ h15_15)) (.cons b15_13 (.cons b15_16 (.cons b15_16 (.cons b15_16 (.cons (c_len (e := TEntry.en) (l := r_v.Log)) (.cons b15_16 (.cons b15_16 (.cons b15_17 (.cons b15_17 (.cons b15_17 (.cons b15_17 (.cons b15_17 (.cons b15_17 (.cons (c_len (e := TEntry.en) (l := r_v.Log)) (.cons b15_17 (.cons (Asks.of (C := Meets Try.prog) (raft_May_1.meets r_v.Commit 0 (r_v.Log.length : Int) _ h15_19)) (.cons b15_17 (.cons b15_20 (.cons b15_20 (.cons b15_20 (.cons b15_20 (.cons (Asks.of (C := Meets Try.prog) (raft_May_1.meets r_v.Role 0 2 _ h15_22)) (.cons b15_20 (.cons b15_23 (.cons b15_23 (.cons b15_23 (.cons b15_23 (.cons b15_24 (.cons b15_24 (.cons b15_24 (.cons (c_len (e := e_b) (l := r_v.Votes)) (.cons b15_24 (.cons b15_24 (.cons b15_24 (.cons b15_24 (.cons b15_25 (.cons b15_25 (.cons b15_25 (.cons (c_len (e := e_i64) (l := r_v.Next)) (.cons b15_25 (.cons b15_25 (.cons b15_25 (.cons b15_25 (.cons b15_26 (.cons b15_26 (.cons b15_26 (.cons b15_26 (.cons b15_26 (.cons b15_26 (.cons b15_26 .nil)))))))))))))))))))))))))))))))))))))))))))))))))))))))))))))))))))))))))))))))))))) (by kernel_rfl) ?_
                            refine WK.weak (l := [(.t 2, [bv false])]) (wk_of (by kernel_rfl)) ?_
                            refine WK.ret (by kernel_rfl) ?_
                            have h_ := some_inj h
                            subst h_
                            exact WKe.fin (e' := .ret) (by kernel_rfl) (fin_of (g := []) (by first | exact .inl rfl | exact .inr rfl) .nil (by kernel_rfl))
                        · refine WK.rs (g := [.a ⟨bv r15_1, []⟩, .b true, .b true, .b true, .b true, .b true, .b true, .a ⟨bv r15_4, []⟩, .b true, .b true, .b true, .b true, .b true, .a ⟨bv r15_7, []⟩, .b true, .b true, .b true, .b true, .b true, .b true, .b true, .b true, .b true, .b true, .b true, .a ⟨bv r15_11, []⟩, .b true, .b true, .b true, .b true, .b true, .b true, .b true, .a ⟨bv r15_14, []⟩, .b true, .b true, .b true, .b true, .s (.t 67) [iv (r_v.Log.length : Int)], .b true, .b true, .b true, .b true, .b true, .b true, .b true, .b true, .s (.t 76) [iv (r_v.Log.length : Int)], .b true, .a ⟨bv r15_18, []⟩, .b true, .b true, .b true, .b true, .b true, .a ⟨bv r15_21, []⟩, .b true, .b true, .b true, .b true, .b true, .b true, .b true, .b true, .s (.t 93) [iv (r_v.Votes.length : Int)], .b true, .b true, .b true, .b true, .b false, .b false, .b false, .b false, .b false, .b false, .b false, .b false, .b false, .b false, .b false, .b false, .b false, .b false]) (l' := [(.t 2, [bv false])]) (by kernel_rfl) (.cons (Asks.of (C := Meets Try.prog) (raft_May_1.meets r_v.Nodes 1 5 _ h15_2)) (.cons b15_3 (.cons b15_3 (.cons b15_3 (.cons b15_3 (.cons b15_3 (.cons b15_3 (.cons (Asks.of (C := Meets Try.prog) (raft_May_1.meets r_v.Me 1 r_v.Nodes _ h15_5)) (.cons b15_3 (.cons b15_6 (.cons b15_6 (.cons b15_6 (.cons b15_6 (.cons (Asks.of (C := Meets Try.prog) (raft_May_1.meets r_v.Wait 1 60 _ h15_8)) (.cons b15_6 (.cons b15_9 (.cons b15_9 (.cons b15_9 (.cons b15_9 (.cons b15_10 (.cons b15_10 (.cons b15_10 (.cons b15_10 (.cons b15_10 (.cons b15_10 (.cons (Asks.of (C := Meets Try.prog) (raft_May_1.meets r_v.Vote 0 r_v.Nodes _ h15_12)) (.cons b15_10 (.cons b15_13 (.cons b15_13 (.cons b15_13 (.cons b15_13 (.cons b15_13 (.cons b15_13 (.cons (Asks.of (C := Meets Try.prog) (raft_May_1.meets r_v.Leader 0 r_v.Nodes _ h15_15)) (.cons b15_13 (.cons b15_16 (.cons b15_16 (.cons b15_16 (.cons (c_len (e := TEntry.en) (l := r_v.Log)) (.cons b15_16 (.cons b15_16 (.cons b15_17 (.cons b15_17 (.cons b15_17 (.cons b15_17 (.cons b15_17 (.cons b15_17 (.cons (c_len (e := TEntry.en) (l := r_v.Log)) (.cons b15_17 (.cons (Asks.of (C := Meets Try.prog) (raft_May_1.meets r_v.Commit 0 (r_v.Log.length : Int) _ h15_19)) (.cons b15_17 (.cons b15_20 (.cons b15_20 (.cons b15_20 (.cons b15_20 (.cons (Asks.of (C := Meets Try.prog) (raft_May_1.meets r_v.Role 0 2 _ h15_22)) (.cons b15_20 (.cons b15_23 (.cons b15_23 (.cons b15_23 (.cons b15_23 (.cons b15_24 (.cons b15_24 (.cons b15_24 (.cons (c_len (e := e_b) (l := r_v.Votes)) (.cons b15_24 (.cons b15_24 (.cons b15_24 (.cons b15_24 (.cons b15_25 (.cons b15_25 (.cons b15_25 (.cons b15_25 (.cons b15_25 (.cons b15_25 (.cons b15_25 (.cons (Eq.refl false) (.cons (Eq.refl false) (.cons (Eq.refl false) (.cons (Eq.refl false) (.cons (Eq.refl false) (.cons (Eq.refl false) (.cons (Eq.refl false) .nil))))))))))))))))))))))))))))))))))))))))))))))))))))))))))))))))))))))))))))))))))) (by kernel_rfl) ?_
                          refine WK.weak (l := [(.t 2, [bv false])]) (wk_of (by kernel_rfl)) ?_
                          refine WK.ret (by kernel_rfl) ?_
                          have h_ := some_inj h
                          subst h_
                          exact WKe.fin (e' := .ret) (by kernel_rfl) (fin_of (g := []) (by first | exact .inl rfl | exact .inr rfl) .nil (by kernel_rfl))
                      · refine WK.rs (g := [.a ⟨bv r15_1, []⟩, .b true, .b true, .b true, .b true, .b true, .b true, .a ⟨bv r15_4, []⟩, .b true, .b true, .b true, .b true, .b true, .a ⟨bv r15_7, []⟩, .b true, .b true, .b true, .b true, .b true, .b true, .b true, .b true, .b true, .b true, .b true, .a ⟨bv r15_11, []⟩, .b true, .b true, .b true, .b true, .b true, .b true, .b true, .a ⟨bv r15_14, []⟩, .b true, .b true, .b true, .b true, .s (.t 67) [iv (r_v.Log.length : Int)], .b true, .b true, .b true, .b true, .b true, .b true, .b true, .b true, .s (.t 76) [iv (r_v.Log.length : Int)], .b true, .a ⟨bv r15_18, []⟩, .b true, .b true, .b true, .b true, .b true, .a ⟨bv r15_21, []⟩, .b true, .b true, .b true, .b true, .b true, .b false, .b false, .b false, .b false, .b false, .b false, .b false, .b false, .b false, .b false, .b false, .b false, .b false, .b false, .b false, .b false, .b false, .b false, .b false, .b false, .b false]) (l' := [(.t 2, [bv false])]) (by kernel_rfl) (.cons (Asks.of (C := Meets Try.prog) (raft_May_1.meets r_v.Nodes 1 5 _ h15_2)) (.cons b15_3 (.cons b15_3 (.cons b15_3 (.cons b15_3 (.cons b15_3 (.cons b15_3 (.cons (Asks.of (C := Meets Try.prog) (raft_May_1.meets r_v.Me 1 r_v.Nodes _ h15_5)) (.cons b15_3 (.cons b15_6 (.cons b15_6 (.cons b15_6 (.cons b15_6 (.cons (Asks.of (C := Meets Try.prog) (raft_May_1.meets r_v.Wait 1 60 _ h15_8)) (.cons b15_6 (.cons b15_9 (.cons b15_9 (.cons b15_9 (.cons b15_9 (.cons b15_10 (.cons b15_10 (.cons b15_10 (.cons b15_10 (.cons b15_10 (.cons b15_10 (.cons (Asks.of (C := Meets Try.prog) (raft_May_1.meets r_v.Vote 0 r_v.Nodes _ h15_12)) (.cons b15_10 (.cons b15_13 (.cons b15_13 (.cons b15_13 (.cons b15_13 (.cons b15_13 (.cons b15_13 (.cons (Asks.of (C := Meets Try.prog) (raft_May_1.meets r_v.Leader 0 r_v.Nodes _ h15_15)) (.cons b15_13 (.cons b15_16 (.cons b15_16 (.cons b15_16 (.cons (c_len (e := TEntry.en) (l := r_v.Log)) (.cons b15_16 (.cons b15_16 (.cons b15_17 (.cons b15_17 (.cons b15_17 (.cons b15_17 (.cons b15_17 (.cons b15_17 (.cons (c_len (e := TEntry.en) (l := r_v.Log)) (.cons b15_17 (.cons (Asks.of (C := Meets Try.prog) (raft_May_1.meets r_v.Commit 0 (r_v.Log.length : Int) _ h15_19)) (.cons b15_17 (.cons b15_20 (.cons b15_20 (.cons b15_20 (.cons b15_20 (.cons (Asks.of (C := Meets Try.prog) (raft_May_1.meets r_v.Role 0 2 _ h15_22)) (.cons b15_20 (.cons b15_23 (.cons b15_23 (.cons b15_23 (.cons b15_23 (.cons b15_24 (.cons b15_24 (.cons b15_24 (.cons b15_24 (.cons b15_24 (.cons b15_24 (.cons b15_24 (.cons (Eq.refl false) (.cons (Eq.refl false) (.cons (Eq.refl false) (.cons (Eq.refl false) (.cons (Eq.refl false) (.cons (Eq.refl false) (.cons (Eq.refl false) (.cons (Eq.refl false) (.cons (Eq.refl false) (.cons (Eq.refl false) (.cons (Eq.refl false) (.cons (Eq.refl false) (.cons (Eq.refl false) (.cons (Eq.refl false) .nil)))))))))))))))))))))))))))))))))))))))))))))))))))))))))))))))))))))))))))))))))) (by kernel_rfl) ?_
                        refine WK.weak (l := [(.t 2, [bv false])]) (wk_of (by kernel_rfl)) ?_
                        refine WK.ret (by kernel_rfl) ?_
                        have h_ := some_inj h
                        subst h_
                        exact WKe.fin (e' := .ret) (by kernel_rfl) (fin_of (g := []) (by first | exact .inl rfl | exact .inr rfl) .nil (by kernel_rfl))
                    · refine WK.rs (g := [.a ⟨bv r15_1, []⟩, .b true, .b true, .b true, .b true, .b true, .b true, .a ⟨bv r15_4, []⟩, .b true, .b true, .b true, .b true, .b true, .a ⟨bv r15_7, []⟩, .b true, .b true, .b true, .b true, .b true, .b true, .b true, .b true, .b true, .b true, .b true, .a ⟨bv r15_11, []⟩, .b true, .b true, .b true, .b true, .b true, .b true, .b true, .a ⟨bv r15_14, []⟩, .b true, .b true, .b true, .b true, .s (.t 67) [iv (r_v.Log.length : Int)], .b true, .b true, .b true, .b true, .b true, .b true, .b true, .b true, .s (.t 76) [iv (r_v.Log.length : Int)], .b true, .a ⟨bv r15_18, []⟩, .b true, .b true, .b true, .b true, .b true, .a ⟨bv r15_21, []⟩, .b true, .b false, .b false, .b false, .b false, .b false, .b false, .b false, .b false, .b false, .b false, .b false, .b false, .b false, .b false, .b false, .b false, .b false, .b false, .b false, .b false, .b false, .b false, .b false, .b false, .b false]) (l' := [(.t 2, [bv false])]) (by kernel_rfl) (.cons (Asks.of (C := Meets Try.prog) (raft_May_1.meets r_v.Nodes 1 5 _ h15_2)) (.cons b15_3 (.cons b15_3 (.cons b15_3 (.cons b15_3 (.cons b15_3 (.cons b15_3 (.cons (Asks.of (C := Meets Try.prog) (raft_May_1.meets r_v.Me 1 r_v.Nodes _ h15_5)) (.cons b15_3 (.cons b15_6 (.cons b15_6 (.cons b15_6 (.cons b15_6 (.cons (Asks.of (C := Meets Try.prog) (raft_May_1.meets r_v.Wait 1 60 _ h15_8)) (.cons b15_6 (.cons b15_9 (.cons b15_9 (.cons b15_9 (.cons b15_9 (.cons b15_10 (.cons b15_10 (.cons b15_10 (.cons b15_10 (.cons b15_10 (.cons b15_10 (.cons (Asks.of (C := Meets Try.prog) (raft_May_1.meets r_v.Vote 0 r_v.Nodes _ h15_12)) (.cons b15_10 (.cons b15_13 (.cons b15_13 (.cons b15_13 (.cons b15_13 (.cons b15_13 (.cons b15_13 (.cons (Asks.of (C := Meets Try.prog) (raft_May_1.meets r_v.Leader 0 r_v.Nodes _ h15_15)) (.cons b15_13 (.cons b15_16 (.cons b15_16 (.cons b15_16 (.cons (c_len (e := TEntry.en) (l := r_v.Log)) (.cons b15_16 (.cons b15_16 (.cons b15_17 (.cons b15_17 (.cons b15_17 (.cons b15_17 (.cons b15_17 (.cons b15_17 (.cons (c_len (e := TEntry.en) (l := r_v.Log)) (.cons b15_17 (.cons (Asks.of (C := Meets Try.prog) (raft_May_1.meets r_v.Commit 0 (r_v.Log.length : Int) _ h15_19)) (.cons b15_17 (.cons b15_20 (.cons b15_20 (.cons b15_20 (.cons b15_20 (.cons (Asks.of (C := Meets Try.prog) (raft_May_1.meets r_v.Role 0 2 _ h15_22)) (.cons b15_20 (.cons b15_23 (.cons b15_23 (.cons b15_23 (.cons b15_23 (.cons (Eq.refl false) (.cons (Eq.refl false) (.cons (Eq.refl false) (.cons (Eq.refl false) (.cons (Eq.refl false) (.cons (Eq.refl false) (.cons (Eq.refl false) (.cons (Eq.refl false) (.cons (Eq.refl false) (.cons (Eq.refl false) (.cons (Eq.refl false) (.cons (Eq.refl false) (.cons (Eq.refl false) (.cons (Eq.refl false) (.cons (Eq.refl false) (.cons (Eq.refl false) (.cons (Eq.refl false) (.cons (Eq.refl false) (.cons (Eq.refl false) (.cons (Eq.refl false) (.cons (Eq.refl false) .nil)))))))))))))))))))))))))))))))))))))))))))))))))))))))))))))))))))))))))))))))))) (by kernel_rfl) ?_
                      refine WK.weak (l := [(.t 2, [bv false])]) (wk_of (by kernel_rfl)) ?_
                      refine WK.ret (by kernel_rfl) ?_
                      have h_ := some_inj h
                      subst h_
                      exact WKe.fin (e' := .ret) (by kernel_rfl) (fin_of (g := []) (by first | exact .inl rfl | exact .inr rfl) .nil (by kernel_rfl))
                  · refine WK.rs (g := [.a ⟨bv r15_1, []⟩, .b true, .b true, .b true, .b true, .b true, .b true, .a ⟨bv r15_4, []⟩, .b true, .b true, .b true, .b true, .b true, .a ⟨bv r15_7, []⟩, .b true, .b true, .b true, .b true, .b true, .b true, .b true, .b true, .b true, .b true, .b true, .a ⟨bv r15_11, []⟩, .b true, .b true, .b true, .b true, .b true, .b true, .b true, .a ⟨bv r15_14, []⟩, .b true, .b true, .b true, .b true, .s (.t 67) [iv (r_v.Log.length : Int)], .b true, .b true, .b true, .b true, .b true, .b true, .b true, .b true, .s (.t 76) [iv (r_v.Log.length : Int)], .b true, .a ⟨bv r15_18, []⟩, .b true, .b false, .b false, .b false, .b false, .b false, .b false, .b false, .b false, .b false, .b false, .b false, .b false, .b false, .b false, .b false, .b false, .b false, .b false, .b false, .b false, .b false, .b false, .b false, .b false, .b false, .b false, .b false, .b false, .b false, .b false]) (l' := [(.t 2, [bv false])]) (by kernel_rfl) (.cons (Asks.of (C := Meets Try.prog) (raft_May_1.meets r_v.Nodes 1 5 _ h15_2)) (.cons b15_3 (.cons b15_3 (.cons b15_3 (.cons b15_3 (.cons b15_3 (.cons b15_3 (.cons (Asks.of (C := Meets Try.prog) (raft_May_1.meets r_v.Me 1 r_v.Nodes _ h15_5)) (.cons b15_3 (.cons b15_6 (.cons b15_6 (.cons b15_6 (.cons b15_6 (.cons (Asks.of (C := Meets Try.prog) (raft_May_1.meets r_v.Wait 1 60 _ h15_8)) (.cons b15_6 (.cons b15_9 (.cons b15_9 (.cons b15_9 (.cons b15_9 (.cons b15_10 (.cons b15_10 (.cons b15_10 (.cons b15_10 (.cons b15_10 (.cons b15_10 (.cons (Asks.of (C := Meets Try.prog) (raft_May_1.meets r_v.Vote 0 r_v.Nodes _ h15_12)) (.cons b15_10 (.cons b15_13 (.cons b15_13 (.cons b15_13 (.cons b15_13 (.cons b15_13 (.cons b15_13 (.cons (Asks.of (C := Meets Try.prog) (raft_May_1.meets r_v.Leader 0 r_v.Nodes _ h15_15)) (.cons b15_13 (.cons b15_16 (.cons b15_16 (.cons b15_16 (.cons (c_len (e := TEntry.en) (l := r_v.Log)) (.cons b15_16 (.cons b15_16 (.cons b15_17 (.cons b15_17 (.cons b15_17 (.cons b15_17 (.cons b15_17 (.cons b15_17 (.cons (c_len (e := TEntry.en) (l := r_v.Log)) (.cons b15_17 (.cons (Asks.of (C := Meets Try.prog) (raft_May_1.meets r_v.Commit 0 (r_v.Log.length : Int) _ h15_19)) (.cons b15_17 (.cons b15_20 (.cons b15_20 (.cons b15_20 (.cons b15_20 (.cons b15_20 (.cons (Eq.refl false) (.cons (Eq.refl false) (.cons (Eq.refl false) (.cons (Eq.refl false) (.cons (Eq.refl false) (.cons (Eq.refl false) (.cons (Eq.refl false) (.cons (Eq.refl false) (.cons (Eq.refl false) (.cons (Eq.refl false) (.cons (Eq.refl false) (.cons (Eq.refl false) (.cons (Eq.refl false) (.cons (Eq.refl false) (.cons (Eq.refl false) (.cons (Eq.refl false) (.cons (Eq.refl false) (.cons (Eq.refl false) (.cons (Eq.refl false) (.cons (Eq.refl false) (.cons (Eq.refl false) (.cons (Eq.refl false) (.cons (Eq.refl false) (.cons (Eq.refl false) (.cons (Eq.refl false) .nil))))))))))))))))))))))))))))))))))))))))))))))))))))))))))))))))))))))))))))))))) (by kernel_rfl) ?_
                    refine WK.weak (l := [(.t 2, [bv false])]) (wk_of (by kernel_rfl)) ?_
                    refine WK.ret (by kernel_rfl) ?_
                    have h_ := some_inj h
                    subst h_
                    exact WKe.fin (e' := .ret) (by kernel_rfl) (fin_of (g := []) (by first | exact .inl rfl | exact .inr rfl) .nil (by kernel_rfl))
                · refine WK.rs (g := [.a ⟨bv r15_1, []⟩, .b true, .b true, .b true, .b true, .b true, .b true, .a ⟨bv r15_4, []⟩, .b true, .b true, .b true, .b true, .b true, .a ⟨bv r15_7, []⟩, .b true, .b true, .b true, .b true, .b true, .b true, .b true, .b true, .b true, .b true, .b true, .a ⟨bv r15_11, []⟩, .b true, .b true, .b true, .b true, .b true, .b true, .b true, .a ⟨bv r15_14, []⟩, .b true, .b true, .b true, .b true, .s (.t 67) [iv (r_v.Log.length : Int)], .b true, .b true, .b false, .b false, .b false, .b false, .b false, .b false, .b false, .b false, .b false, .b false, .b false, .b false, .b false, .b false, .b false, .b false, .b false, .b false, .b false, .b false, .b false, .b false, .b false, .b false, .b false, .b false, .b false, .b false, .b false, .b false, .b false, .b false, .b false, .b false, .b false, .b false, .b false, .b false]) (l' := [(.t 2, [bv false])]) (by kernel_rfl) (.cons (Asks.of (C := Meets Try.prog) (raft_May_1.meets r_v.Nodes 1 5 _ h15_2)) (.cons b15_3 (.cons b15_3 (.cons b15_3 (.cons b15_3 (.cons b15_3 (.cons b15_3 (.cons (Asks.of (C := Meets Try.prog) (raft_May_1.meets r_v.Me 1 r_v.Nodes _ h15_5)) (.cons b15_3 (.cons b15_6 (.cons b15_6 (.cons b15_6 (.cons b15_6 (.cons (Asks.of (C := Meets Try.prog) (raft_May_1.meets r_v.Wait 1 60 _ h15_8)) (.cons b15_6 (.cons b15_9 (.cons b15_9 (.cons b15_9 (.cons b15_9 (.cons b15_10 (.cons b15_10 (.cons b15_10 (.cons b15_10 (.cons b15_10 (.cons b15_10 (.cons (Asks.of (C := Meets Try.prog) (raft_May_1.meets r_v.Vote 0 r_v.Nodes _ h15_12)) (.cons b15_10 (.cons b15_13 (.cons b15_13 (.cons b15_13 (.cons b15_13 (.cons b15_13 (.cons b15_13 (.cons (Asks.of (C := Meets Try.prog) (raft_May_1.meets r_v.Leader 0 r_v.Nodes _ h15_15)) (.cons b15_13 (.cons b15_16 (.cons b15_16 (.cons b15_16 (.cons (c_len (e := TEntry.en) (l := r_v.Log)) (.cons b15_16 (.cons b15_16 (.cons b15_17 (.cons b15_17 (.cons b15_17 (.cons b15_17 (.cons b15_17 (.cons b15_17 (.cons b15_17 (.cons b15_17 (.cons (Eq.refl false) (.cons (Eq.refl false) (.cons (Eq.refl false) (.cons (Eq.refl false) (.cons (Eq.refl false) (.cons (Eq.refl false) (.cons (Eq.refl false) (.cons (Eq.refl false) (.cons (Eq.refl false) (.cons (Eq.refl false) (.cons (Eq.refl false) (.cons (Eq.refl false) (.cons (Eq.refl false) (.cons (Eq.refl false) (.cons (Eq.refl false) (.cons (Eq.refl false) (.cons (Eq.refl false) (.cons (Eq.refl false) (.cons (Eq.refl false) (.cons (Eq.refl false) (.cons (Eq.refl false) (.cons (Eq.refl false) (.cons (Eq.refl false) (.cons (Eq.refl false) (.cons (Eq.refl false) (.cons (Eq.refl false) (.cons (Eq.refl false) (.cons (Eq.refl false) (.cons (Eq.refl false) (.cons (Eq.refl false) .nil))))))))))))))))))))))))))))))))))))))))))))))))))))))))))))))))))))))))))))))) (by kernel_rfl) ?_
                  refine WK.weak (l := [(.t 2, [bv false])]) (wk_of (by kernel_rfl)) ?_
                  refine WK.ret (by kernel_rfl) ?_
                  have h_ := some_inj h
                  subst h_
                  exact WKe.fin (e' := .ret) (by kernel_rfl) (fin_of (g := []) (by first | exact .inl rfl | exact .inr rfl) .nil (by kernel_rfl))
              · refine WK.rs (g := [.a ⟨bv r15_1, []⟩, .b true, .b true, .b true, .b true, .b true, .b true, .a ⟨bv r15_4, []⟩, .b true, .b true, .b true, .b true, .b true, .a ⟨bv r15_7, []⟩, .b true, .b true, .b true, .b true, .b true, .b true, .b true, .b true, .b true, .b true, .b true, .a ⟨bv r15_11, []⟩, .b true, .b true, .b true, .b true, .b true, .b true, .b true, .a ⟨bv r15_14, []⟩, .b true, .b false, .b false, .b false, .b false, .b false, .b false, .b false, .b false, .b false, .b false, .b false, .b false, .b false, .b false, .b false, .b false, .b false, .b false, .b false, .b false, .b false, .b false, .b false, .b false, .b false, .b false, .b false, .b false, .b false, .b false, .b false, .b false, .b false, .b false, .b false, .b false, .b false, .b false, .b false, .b false, .b false, .b false, .b false]) (l' := [(.t 2, [bv false])]) (by kernel_rfl) (.cons (Asks.of (C := Meets Try.prog) (raft_May_1.meets r_v.Nodes 1 5 _ h15_2)) (.cons b15_3 (.cons b15_3 (.cons b15_3 (.cons b15_3 (.cons b15_3 (.cons b15_3 (.cons (Asks.of (C := Meets Try.prog) (raft_May_1.meets r_v.Me 1 r_v.Nodes _ h15_5)) (.cons b15_3 (.cons b15_6 (.cons b15_6 (.cons b15_6 (.cons b15_6 (.cons (Asks.of (C := Meets Try.prog) (raft_May_1.meets r_v.Wait 1 60 _ h15_8)) (.cons b15_6 (.cons b15_9 (.cons b15_9 (.cons b15_9 (.cons b15_9 (.cons b15_10 (.cons b15_10 (.cons b15_10 (.cons b15_10 (.cons b15_10 (.cons b15_10 (.cons (Asks.of (C := Meets Try.prog) (raft_May_1.meets r_v.Vote 0 r_v.Nodes _ h15_12)) (.cons b15_10 (.cons b15_13 (.cons b15_13 (.cons b15_13 (.cons b15_13 (.cons b15_13 (.cons b15_13 (.cons (Asks.of (C := Meets Try.prog) (raft_May_1.meets r_v.Leader 0 r_v.Nodes _ h15_15)) (.cons b15_13 (.cons b15_16 (.cons b15_16 (.cons b15_16 (.cons b15_16 (.cons b15_16 (.cons (Eq.refl false) (.cons (Eq.refl false) (.cons (Eq.refl false) (.cons (Eq.refl false) (.cons (Eq.refl false) (.cons (Eq.refl false) (.cons (Eq.refl false) (.cons (Eq.refl false) (.cons (Eq.refl false) (.cons (Eq.refl false) (.cons (Eq.refl false) (.cons (Eq.refl false) (.cons (Eq.refl false) (.cons (Eq.refl false) (.cons (Eq.refl false) (.cons (Eq.refl false) (.cons (Eq.refl false) (.cons (Eq.refl false) (.cons (Eq.refl false) (.cons (Eq.refl false) (.cons (Eq.refl false) (.cons (Eq.refl false) (.cons (Eq.refl false) (.cons (Eq.refl false) (.cons (Eq.refl false) (.cons (Eq.refl false) (.cons (Eq.refl false) (.cons (Eq.refl false) (.cons (Eq.refl false) (.cons (Eq.refl false) (.cons (Eq.refl false) (.cons (Eq.refl false) (.cons (Eq.refl false) (.cons (Eq.refl false) (.cons (Eq.refl false) (.cons (Eq.refl false) (.cons (Eq.refl false) (.cons (Eq.refl false) .nil)))))))))))))))))))))))))))))))))))))))))))))))))))))))))))))))))))))))))))))) (by kernel_rfl) ?_
                refine WK.weak (l := [(.t 2, [bv false])]) (wk_of (by kernel_rfl)) ?_
                refine WK.ret (by kernel_rfl) ?_
                have h_ := some_inj h
                subst h_
                exact WKe.fin (e' := .ret) (by kernel_rfl) (fin_of (g := []) (by first | exact .inl rfl | exact .inr rfl) .nil (by kernel_rfl))
            · refine WK.rs (g := [.a ⟨bv r15_1, []⟩, .b true, .b true, .b true, .b true, .b true, .b true, .a ⟨bv r15_4, []⟩, .b true, .b true, .b true, .b true, .b true, .a ⟨bv r15_7, []⟩, .b true, .b true, .b true, .b true, .b true, .b true, .b true, .b true, .b true, .b true, .b true, .a ⟨bv r15_11, []⟩, .b true, .b false, .b false, .b false, .b false, .b false, .b false, .b false, .b false, .b false, .b false, .b false, .b false, .b false, .b false, .b false, .b false, .b false, .b false, .b false, .b false, .b false, .b false, .b false, .b false, .b false, .b false, .b false, .b false, .b false, .b false, .b false, .b false, .b false, .b false, .b false, .b false, .b false, .b false, .b false, .b false, .b false, .b false, .b false, .b false, .b false, .b false, .b false, .b false, .b false, .b false]) (l' := [(.t 2, [bv false])]) (by kernel_rfl) (.cons (Asks.of (C := Meets Try.prog) (raft_May_1.meets r_v.Nodes 1 5 _ h15_2)) (.cons b15_3 (.cons b15_3 (.cons b15_3 (.cons b15_3 (.cons b15_3 (.cons b15_3 (.cons (Asks.of (C := Meets Try.prog) (raft_May_1.meets r_v.Me 1 r_v.Nodes _ h15_5)) (.cons b15_3 (.cons b15_6 (.cons b15_6 (.cons b15_6 (.cons b15_6 (.cons (Asks.of (C := Meets Try.prog) (raft_May_1.meets r_v.Wait 1 60 _ h15_8)) (.cons b15_6 (.cons b15_9 (.cons b15_9 (.cons b15_9 (.cons b15_9 (.cons b15_10 (.cons b15_10 (.cons b15_10 (.cons b15_10 (.cons b15_10 (.cons b15_10 (.cons (Asks.of (C := Meets Try.prog) (raft_May_1.meets r_v.Vote 0 r_v.Nodes _ h15_12)) (.cons b15_10 (.cons b15_13 (.cons b15_13 (.cons b15_13 (.cons b15_13 (.cons b15_13 (.cons b15_13 (.cons b15_13 (.cons (Eq.refl false) (.cons (Eq.refl false) (.cons (Eq.refl false) (.cons (Eq.refl false) (.cons (Eq.refl false) (.cons (Eq.refl false) (.cons (Eq.refl false) (.cons (Eq.refl false) (.cons (Eq.refl false) (.cons (Eq.refl false) (.cons (Eq.refl false) (.cons (Eq.refl false) (.cons (Eq.refl false) (.cons (Eq.refl false) (.cons (Eq.refl false) (.cons (Eq.refl false) (.cons (Eq.refl false) (.cons (Eq.refl false) (.cons (Eq.refl false) (.cons (Eq.refl false) (.cons (Eq.refl false) (.cons (Eq.refl false) (.cons (Eq.refl false) (.cons (Eq.refl false) (.cons (Eq.refl false) (.cons (Eq.refl false) (.cons (Eq.refl false) (.cons (Eq.refl false) (.cons (Eq.refl false) (.cons (Eq.refl false) (.cons (Eq.refl false) (.cons (Eq.refl false) (.cons (Eq.refl false) (.cons (Eq.refl false) (.cons (Eq.refl false) (.cons (Eq.refl false) (.cons (Eq.refl false) (.cons (Eq.refl false) (.cons (Eq.refl false) (.cons (Eq.refl false) (.cons (Eq.refl false) (.cons (Eq.refl false) (.cons (Eq.refl false) .nil))))))))))))))))))))))))))))))))))))))))))))))))))))))))))))))))))))))))))))) (by kernel_rfl) ?_
              refine WK.weak (l := [(.t 2, [bv false])]) (wk_of (by kernel_rfl)) ?_
              refine WK.ret (by kernel_rfl) ?_
              have h_ := some_inj h
              subst h_
              exact WKe.fin (e' := .ret) (by kernel_rfl) (fin_of (g := []) (by first | exact .inl rfl | exact .inr rfl) .nil (by kernel_rfl))
          · refine WK.rs (g := [.a ⟨bv r15_1, []⟩, .b true, .b true, .b true, .b true, .b true, .b true, .a ⟨bv r15_4, []⟩, .b true, .b true, .b true, .b true, .b true, .a ⟨bv r15_7, []⟩, .b true, .b true, .b true, .b true, .b true, .b false, .b false, .b false, .b false, .b false, .b false, .b false, .b false, .b false, .b false, .b false, .b false, .b false, .b false, .b false, .b false, .b false, .b false, .b false, .b false, .b false, .b false, .b false, .b false, .b false, .b false, .b false, .b false, .b false, .b false, .b false, .b false, .b false, .b false, .b false, .b false, .b false, .b false, .b false, .b false, .b false, .b false, .b false, .b false, .b false, .b false, .b false, .b false, .b false, .b false, .b false, .b false, .b false, .b false, .b false, .b false, .b false]) (l' := [(.t 2, [bv false])]) (by kernel_rfl) (.cons (Asks.of (C := Meets Try.prog) (raft_May_1.meets r_v.Nodes 1 5 _ h15_2)) (.cons b15_3 (.cons b15_3 (.cons b15_3 (.cons b15_3 (.cons b15_3 (.cons b15_3 (.cons (Asks.of (C := Meets Try.prog) (raft_May_1.meets r_v.Me 1 r_v.Nodes _ h15_5)) (.cons b15_3 (.cons b15_6 (.cons b15_6 (.cons b15_6 (.cons b15_6 (.cons (Asks.of (C := Meets Try.prog) (raft_May_1.meets r_v.Wait 1 60 _ h15_8)) (.cons b15_6 (.cons b15_9 (.cons b15_9 (.cons b15_9 (.cons b15_9 (.cons b15_10 (.cons b15_10 (.cons b15_10 (.cons b15_10 (.cons b15_10 (.cons b15_10 (.cons b15_10 (.cons (Eq.refl false) (.cons (Eq.refl false) (.cons (Eq.refl false) (.cons (Eq.refl false) (.cons (Eq.refl false) (.cons (Eq.refl false) (.cons (Eq.refl false) (.cons (Eq.refl false) (.cons (Eq.refl false) (.cons (Eq.refl false) (.cons (Eq.refl false) (.cons (Eq.refl false) (.cons (Eq.refl false) (.cons (Eq.refl false) (.cons (Eq.refl false) (.cons (Eq.refl false) (.cons (Eq.refl false) (.cons (Eq.refl false) (.cons (Eq.refl false) (.cons (Eq.refl false) (.cons (Eq.refl false) (.cons (Eq.refl false) (.cons (Eq.refl false) (.cons (Eq.refl false) (.cons (Eq.refl false) (.cons (Eq.refl false) (.cons (Eq.refl false) (.cons (Eq.refl false) (.cons (Eq.refl false) (.cons (Eq.refl false) (.cons (Eq.refl false) (.cons (Eq.refl false) (.cons (Eq.refl false) (.cons (Eq.refl false) (.cons (Eq.refl false) (.cons (Eq.refl false) (.cons (Eq.refl false) (.cons (Eq.refl false) (.cons (Eq.refl false) (.cons (Eq.refl false) (.cons (Eq.refl false) (.cons (Eq.refl false) (.cons (Eq.refl false) (.cons (Eq.refl false) (.cons (Eq.refl false) (.cons (Eq.refl false) (.cons (Eq.refl false) (.cons (Eq.refl false) (.cons (Eq.refl false) (.cons (Eq.refl false) .nil)))))))))))))))))))))))))))))))))))))))))))))))))))))))))))))))))))))))))))) (by kernel_rfl) ?_
            refine WK.weak (l := [(.t 2, [bv false])]) (wk_of (by kernel_rfl)) ?_
            refine WK.ret (by kernel_rfl) ?_
            have h_ := some_inj h
            subst h_
            exact WKe.fin (e' := .ret) (by kernel_rfl) (fin_of (g := []) (by first | exact .inl rfl | exact .inr rfl) .nil (by kernel_rfl))
        · refine WK.rs (g := [.a ⟨bv r15_1, []⟩, .b true, .b true, .b true, .b true, .b true, .b true, .a ⟨bv r15_4, []⟩, .b true, .b true, .b true, .b true, .b true, .a ⟨bv r15_7, []⟩, .b true, .b false, .b false, .b false, .b false, .b false, .b false, .b false, .b false, .b false, .b false, .b false, .b false, .b false, .b false, .b false, .b false, .b false, .b false, .b false, .b false, .b false, .b false, .b false, .b false, .b false, .b false, .b false, .b false, .b false, .b false, .b false, .b false, .b false, .b false, .b false, .b false, .b false, .b false, .b false, .b false, .b false, .b false, .b false, .b false, .b false, .b false, .b false, .b false, .b false, .b false, .b false, .b false, .b false, .b false, .b false, .b false, .b false, .b false, .b false, .b false, .b false]) (l' := [(.t 2, [bv false])]) (by kernel_rfl) (.cons (Asks.of (C := Meets Try.prog) (raft_May_1.meets r_v.Nodes 1 5 _ h15_2)) (.cons b15_3 (.cons b15_3 (.cons b15_3 (.cons b15_3 (.cons b15_3 (.cons b15_3 (.cons (Asks.of (C := Meets Try.prog) (raft_May_1.meets r_v.Me 1 r_v.Nodes _ h15_5)) (.cons b15_3 (.cons b15_6 (.cons b15_6 (.cons b15_6 (.cons b15_6 (.cons (Asks.of (C := Meets Try.prog) (raft_May_1.meets r_v.Wait 1 60 _ h15_8)) (.cons b15_6 (.cons b15_9 (.cons b15_9 (.cons b15_9 (.cons b15_9 (.cons (Eq.refl false) (.cons (Eq.refl false) (.cons (Eq.refl false) (.cons (Eq.refl false) (.cons (Eq.refl false) (.cons (Eq.refl false) (.cons (Eq.refl false) (.cons (Eq.refl false) (.cons (Eq.refl false) (.cons (Eq.refl false) (.cons (Eq.refl false) (.cons (Eq.refl false) (.cons (Eq.refl false) (.cons (Eq.refl false) (.cons (Eq.refl false) (.cons (Eq.refl false) (.cons (Eq.refl false) (.cons (Eq.refl false) (.cons (Eq.refl false) (.cons (Eq.refl false) (.cons (Eq.refl false) (.cons (Eq.refl false) (.cons (Eq.refl false) (.cons (Eq.refl false) (.cons (Eq.refl false) (.cons (Eq.refl false) (.cons (Eq.refl false) (.cons (Eq.refl false) (.cons (Eq.refl false) (.cons (Eq.refl false) (.cons (Eq.refl false) (.cons (Eq.refl false) (.cons (Eq.refl false) (.cons (Eq.refl false) (.cons (Eq.refl false) (.cons (Eq.refl false) (.cons (Eq.refl false) (.cons (Eq.refl false) (.cons (Eq.refl false) (.cons (Eq.refl false) (.cons (Eq.refl false) (.cons (Eq.refl false) (.cons (Eq.refl false) (.cons (Eq.refl false) (.cons (Eq.refl false) (.cons (Eq.refl false) (.cons (Eq.refl false) (.cons (Eq.refl false) (.cons (Eq.refl false) (.cons (Eq.refl false) (.cons (Eq.refl false) (.cons (Eq.refl false) (.cons (Eq.refl false) (.cons (Eq.refl false) (.cons (Eq.refl false) (.cons (Eq.refl false) (.cons (Eq.refl false) .nil)))))))))))))))))))))))))))))))))))))))))))))))))))))))))))))))))))))))))))) (by kernel_rfl) ?_
          refine WK.weak (l := [(.t 2, [bv false])]) (wk_of (by kernel_rfl)) ?_
          refine WK.ret (by kernel_rfl) ?_
          have h_ := some_inj h
          subst h_
          exact WKe.fin (e' := .ret) (by kernel_rfl) (fin_of (g := []) (by first | exact .inl rfl | exact .inr rfl) .nil (by kernel_rfl))
      · refine WK.rs (g := [.a ⟨bv r15_1, []⟩, .b true, .b true, .b true, .b true, .b true, .b true, .a ⟨bv r15_4, []⟩, .b true, .b false, .b false, .b false, .b false, .b false, .b false, .b false, .b false, .b false, .b false, .b false, .b false, .b false, .b false, .b false, .b false, .b false, .b false, .b false, .b false, .b false, .b false, .b false, .b false, .b false, .b false, .b false, .b false, .b false, .b false, .b false, .b false, .b false, .b false, .b false, .b false, .b false, .b false, .b false, .b false, .b false, .b false, .b false, .b false, .b false, .b false, .b false, .b false, .b false, .b false, .b false, .b false, .b false, .b false, .b false, .b false, .b false, .b false, .b false, .b false, .b false, .b false, .b false, .b false, .b false, .b false]) (l' := [(.t 2, [bv false])]) (by kernel_rfl) (.cons (Asks.of (C := Meets Try.prog) (raft_May_1.meets r_v.Nodes 1 5 _ h15_2)) (.cons b15_3 (.cons b15_3 (.cons b15_3 (.cons b15_3 (.cons b15_3 (.cons b15_3 (.cons (Asks.of (C := Meets Try.prog) (raft_May_1.meets r_v.Me 1 r_v.Nodes _ h15_5)) (.cons b15_3 (.cons b15_6 (.cons b15_6 (.cons b15_6 (.cons b15_6 (.cons b15_6 (.cons (Eq.refl false) (.cons (Eq.refl false) (.cons (Eq.refl false) (.cons (Eq.refl false) (.cons (Eq.refl false) (.cons (Eq.refl false) (.cons (Eq.refl false) (.cons (Eq.refl false) (.cons (Eq.refl false) (.cons (Eq.refl false) (.cons (Eq.refl false) (.cons (Eq.refl false) (.cons (Eq.refl false) (.cons (Eq.refl false) (.cons (Eq.refl false) (.cons (Eq.refl false) (.cons (Eq.refl false) (.cons (Eq.refl false) (.cons (Eq.refl false) (.cons (Eq.refl false) (.cons (Eq.refl false) (.cons (Eq.refl false) (.cons (Eq.refl false) (.cons (Eq.refl false) (.cons (Eq.refl false) (.cons (Eq.refl false) (.cons (Eq.refl false) (.cons (Eq.refl false) (.cons (Eq.refl false) (.cons (Eq.refl false) (.cons (Eq.refl false) (.cons (Eq.refl false) (.cons (Eq.refl false) (.cons (Eq.refl false) (.cons (Eq.refl false) (.cons (Eq.refl false) (.cons (Eq.refl false) (.cons (Eq.refl false) (.cons (Eq.refl false) (.cons (Eq.refl false) (.cons (Eq.refl false) (.cons (Eq.refl false) (.cons (Eq.refl false) (.cons (Eq.refl false) (.cons (Eq.refl false) (.cons (Eq.refl false) (.cons (Eq.refl false) (.cons (Eq.refl false) (.cons (Eq.refl false) (.cons (Eq.refl false) (.cons (Eq.refl false) (.cons (Eq.refl false) (.cons (Eq.refl false) (.cons (Eq.refl false) (.cons (Eq.refl false) (.cons (Eq.refl false) (.cons (Eq.refl false) (.cons (Eq.refl false) (.cons (Eq.refl false) (.cons (Eq.refl false) (.cons (Eq.refl false) .nil))))))))))))))))))))))))))))))))))))))))))))))))))))))))))))))))))))))))))) (by kernel_rfl) ?_
        refine WK.weak (l := [(.t 2, [bv false])]) (wk_of (by kernel_rfl)) ?_
        refine WK.ret (by kernel_rfl) ?_
        have h_ := some_inj h
        subst h_
        exact WKe.fin (e' := .ret) (by kernel_rfl) (fin_of (g := []) (by first | exact .inl rfl | exact .inr rfl) .nil (by kernel_rfl))
    · refine WK.rs (g := [.a ⟨bv r15_1, []⟩, .b false, .b false, .b false, .b false, .b false, .b false, .b false, .b false, .b false, .b false, .b false, .b false, .b false, .b false, .b false, .b false, .b false, .b false, .b false, .b false, .b false, .b false, .b false, .b false, .b false, .b false, .b false, .b false, .b false, .b false, .b false, .b false, .b false, .b false, .b false, .b false, .b false, .b false, .b false, .b false, .b false, .b false, .b false, .b false, .b false, .b false, .b false, .b false, .b false, .b false, .b false, .b false, .b false, .b false, .b false, .b false, .b false, .b false, .b false, .b false, .b false, .b false, .b false, .b false, .b false, .b false, .b false, .b false, .b false, .b false, .b false, .b false, .b false]) (l' := [(.t 2, [bv false])]) (by kernel_rfl) (.cons (Asks.of (C := Meets Try.prog) (raft_May_1.meets r_v.Nodes 1 5 _ h15_2)) (.cons b15_3 (.cons b15_3 (.cons b15_3 (.cons b15_3 (.cons b15_3 (.cons b15_3 (.cons b15_3 (.cons (Eq.refl false) (.cons (Eq.refl false) (.cons (Eq.refl false) (.cons (Eq.refl false) (.cons (Eq.refl false) (.cons (Eq.refl false) (.cons (Eq.refl false) (.cons (Eq.refl false) (.cons (Eq.refl false) (.cons (Eq.refl false) (.cons (Eq.refl false) (.cons (Eq.refl false) (.cons (Eq.refl false) (.cons (Eq.refl false) (.cons (Eq.refl false) (.cons (Eq.refl false) (.cons (Eq.refl false) (.cons (Eq.refl false) (.cons (Eq.refl false) (.cons (Eq.refl false) (.cons (Eq.refl false) (.cons (Eq.refl false) (.cons (Eq.refl false) (.cons (Eq.refl false) (.cons (Eq.refl false) (.cons (Eq.refl false) (.cons (Eq.refl false) (.cons (Eq.refl false) (.cons (Eq.refl false) (.cons (Eq.refl false) (.cons (Eq.refl false) (.cons (Eq.refl false) (.cons (Eq.refl false) (.cons (Eq.refl false) (.cons (Eq.refl false) (.cons (Eq.refl false) (.cons (Eq.refl false) (.cons (Eq.refl false) (.cons (Eq.refl false) (.cons (Eq.refl false) (.cons (Eq.refl false) (.cons (Eq.refl false) (.cons (Eq.refl false) (.cons (Eq.refl false) (.cons (Eq.refl false) (.cons (Eq.refl false) (.cons (Eq.refl false) (.cons (Eq.refl false) (.cons (Eq.refl false) (.cons (Eq.refl false) (.cons (Eq.refl false) (.cons (Eq.refl false) (.cons (Eq.refl false) (.cons (Eq.refl false) (.cons (Eq.refl false) (.cons (Eq.refl false) (.cons (Eq.refl false) (.cons (Eq.refl false) (.cons (Eq.refl false) (.cons (Eq.refl false) (.cons (Eq.refl false) (.cons (Eq.refl false) (.cons (Eq.refl false) (.cons (Eq.refl false) (.cons (Eq.refl false) (.cons (Eq.refl false) .nil)))))))))))))))))))))))))))))))))))))))))))))))))))))))))))))))))))))))))) (by kernel_rfl) ?_
      refine WK.weak (l := [(.t 2, [bv false])]) (wk_of (by kernel_rfl)) ?_
      refine WK.ret (by kernel_rfl) ?_
      have h_ := some_inj h
      subst h_
      exact WKe.fin (e' := .ret) (by kernel_rfl) (fin_of (g := []) (by first | exact .inl rfl | exact .inr rfl) .nil (by kernel_rfl))
  · obtain ⟨⟩ := o14
    obtain ⟨rfl, rfl⟩ := hp_
    have h_ := some_inj h
    subst h_
    exact WKe.fin (e' := .ret) (by kernel_rfl) (fin_of (g := []) (by first | exact .inl rfl | exact .inr rfl) .nil (by kernel_rfl))
/-- slices.Clone[[]diwan/api.Entry,diwan/api.Entry] -/
noncomputable def bd82 : Code := (Try.f82.body).getD .skip
def slices_Clone_api_Entry.O : Nat → Nat := fun t => bif ([2, 5] : List Nat).any (Nat.beq t) then 1 else 0
noncomputable def slices_Clone_api_Entry (s : List TEntry) : Option (List TEntry) :=
  gd (decide (([] : List TEntry).length + s.length ≤ 4294967296)) <|
  some s
theorem slices_Clone_api_Entry.meets1 (s : List TEntry) (z0 : List TEntry) (h : slices_Clone_api_Entry s = some z0) : Meets Try.prog ⟨82, [.data (.slc false (some false) 6 (List.map TEntry.en s))], []⟩ ⟨.data (.slc true none 6 (List.map TEntry.en z0)), []⟩ := by
  refine meets_of (O := slices_Clone_api_Entry.O) hmix (fn := Try.f82) (code := bd82) (by kernel_rfl) ?_
  refine WK.weak (l := [(.t 0, [.data (.slc false (some false) 6 (List.map TEntry.en s))])]) (wk_of (by kernel_rfl)) ?_
  unfold slices_Clone_api_Entry at h
  refine WK.rs (g := []) (l' := [(.t 0, [.data (.slc false (some false) 6 (List.map TEntry.en s))])]) (by kernel_rfl) .nil (by kernel_rfl) ?_
  refine WK.seq (by kernel_rfl) ?_
  refine WK.rs (g := []) (l' := [(.t 0, [.data (.slc false (some false) 6 (List.map TEntry.en s))]), (.t 4, [bv false])]) (by kernel_rfl) .nil (by kernel_rfl) ?_
  refine WK.ce (b := false) (by kernel_rfl) rfl ?_
  refine WK.skip (by kernel_rfl) ?_
  refine WKe.code (y := (cR (cR bd82))) (ks' := []) (by kernel_rfl) ?_
  obtain ⟨c5_1, h⟩ := gd_inv h
  refine WK.rs (g := []) (l' := [(.t 2, [.data (.slc true none 6 (List.map TEntry.en s))])]) (by kernel_rfl) (.cons (c_al (e := TEntry.en) (f := TEntry.en) c5_1) .nil) (by kernel_rfl) ?_
  refine WK.weak (l := [(.t 2, [.data (.slc true none 6 (List.map TEntry.en s))])]) (wk_of (by kernel_rfl)) ?_
  refine WK.ret (by kernel_rfl) ?_
  have h_ := some_inj h
  subst h_
  exact WKe.fin (e' := .ret) (by kernel_rfl) (fin_of (g := []) (by first | exact .inl rfl | exact .inr rfl) .nil (by kernel_rfl))
noncomputable def slices_Clone_api_Entry_nil : Option (List TEntry) :=
  some []
theorem slices_Clone_api_Entry.meets0 (z0 : List TEntry) (h : slices_Clone_api_Entry_nil = some z0) : Meets Try.prog ⟨82, [.data (.slc false (some true) 6 (List.map TEntry.en []))], []⟩ ⟨.data (.slc true none 6 (List.map TEntry.en z0)), []⟩ := by
  refine meets_of (O := slices_Clone_api_Entry.O) hmix (fn := Try.f82) (code := bd82) (by kernel_rfl) ?_
  refine WK.weak (l := [(.t 0, [.data (.slc false (some true) 6 (List.map TEntry.en []))])]) (wk_of (by kernel_rfl)) ?_
  unfold slices_Clone_api_Entry_nil at h
  refine WK.rs (g := []) (l' := [(.t 0, [.data (.slc false (some true) 6 (List.map TEntry.en []))])]) (by kernel_rfl) .nil (by kernel_rfl) ?_
  refine WK.seq (by kernel_rfl) ?_
  refine WK.rs (g := []) (l' := [(.t 0, [.data (.slc false (some true) 6 (List.map TEntry.en []))]), (.t 4, [bv true])]) (by kernel_rfl) .nil (by kernel_rfl) ?_
  refine WK.ct (b := true) (by kernel_rfl) rfl ?_
  refine WK.rs (g := []) (l' := [(.t 2, [.data (.slc true (some true) 6 (List.map TEntry.en []))])]) (by kernel_rfl) .nil (by kernel_rfl) ?_
  refine WK.weak (l := [(.t 2, [.data (.slc true none 6 (List.map TEntry.en []))])]) (wk_of (by kernel_rfl)) ?_
  refine WK.ret (by kernel_rfl) ?_
  have h_ := some_inj h
  subst h_
  exact WKe.fin (e' := .ret) (by kernel_rfl) (fin_of (g := []) (by first | exact .inl rfl | exact .inr rfl) .nil (by kernel_rfl))
theorem slices_Clone_api_Entry.nil_eq : slices_Clone_api_Entry [] = slices_Clone_api_Entry_nil := by kernel_rfl
theorem slices_Clone_api_Entry.meets (s : List TEntry) (z0 : List TEntry) (h : slices_Clone_api_Entry s = some z0) : Meets Try.prog ⟨82, [.data (.slc false none 6 (List.map TEntry.en s))], []⟩ ⟨.data (.slc true none 6 (List.map TEntry.en z0)), []⟩ := by
  refine asks_ok (C := Meets Try.prog) (fun _ _ h => h) (Asks.nil (args1 := []) (args2 := []) (sz := 6) (es := List.map TEntry.en s) (fun e => .of ?_) (.of (slices_Clone_api_Entry.meets1 s z0 h)))
  obtain rfl : s = [] := List.map_eq_nil_iff.1 e
  exact slices_Clone_api_Entry.meets0 z0 (slices_Clone_api_Entry.nil_eq  ▸ h)
/-- slices.Clone[[]diwan/api.Read,diwan/api.Read] -/
noncomputable def bd83 : Code := (Try.f83.body).getD .skip
def slices_Clone_api_Read.O : Nat → Nat := fun t => bif ([2, 5] : List Nat).any (Nat.beq t) then 1 else 0
noncomputable def slices_Clone_api_Read (s : List TRead) : Option (List TRead) :=
  gd (decide (([] : List TRead).length + s.length ≤ 4294967296)) <|
  some s
theorem slices_Clone_api_Read.meets1 (s : List TRead) (z0 : List TRead) (h : slices_Clone_api_Read s = some z0) : Meets Try.prog ⟨83, [.data (.slc false (some false) 4 (List.map TRead.en s))], []⟩ ⟨.data (.slc true none 4 (List.map TRead.en z0)), []⟩ := by
  refine meets_of (O := slices_Clone_api_Read.O) hmix (fn := Try.f83) (code := bd83) (by kernel_rfl) ?_
  refine WK.weak (l := [(.t 0, [.data (.slc false (some false) 4 (List.map TRead.en s))])]) (wk_of (by kernel_rfl)) ?_
  unfold slices_Clone_api_Read at h
  refine WK.rs (g := []) (l' := [(.t 0, [.data (.slc false (some false) 4 (List.map TRead.en s))])]) (by kernel_rfl) .nil (by kernel_rfl) ?_
  refine WK.seq (by kernel_rfl) ?_
  refine WK.rs (g := []) (l' := [(.t 0, [.data (.slc false (some false) 4 (List.map TRead.en s))]), (.t 4, [bv false])]) (by kernel_rfl) .nil (by kernel_rfl) ?_
  refine WK.ce (b := false) (by kernel_rfl) rfl ?_
  refine WK.skip (by kernel_rfl) ?_
  refine WKe.code (y := (cR (cR bd83))) (ks' := []) (by kernel_rfl) ?_
  obtain ⟨c5_1, h⟩ := gd_inv h
  refine WK.rs (g := []) (l' := [(.t 2, [.data (.slc true none 4 (List.map TRead.en s))])]) (by kernel_rfl) (.cons (c_al (e := TRead.en) (f := TRead.en) c5_1) .nil) (by kernel_rfl) ?_
  refine WK.weak (l := [(.t 2, [.data (.slc true none 4 (List.map TRead.en s))])]) (wk_of (by kernel_rfl)) ?_
  refine WK.ret (by kernel_rfl) ?_
  have h_ := some_inj h
  subst h_
  exact WKe.fin (e' := .ret) (by kernel_rfl) (fin_of (g := []) (by first | exact .inl rfl | exact .inr rfl) .nil (by kernel_rfl))
noncomputable def slices_Clone_api_Read_nil : Option (List TRead) :=
  some []
theorem slices_Clone_api_Read.meets0 (z0 : List TRead) (h : slices_Clone_api_Read_nil = some z0) : Meets Try.prog ⟨83, [.data (.slc false (some true) 4 (List.map TRead.en []))], []⟩ ⟨.data (.slc true none 4 (List.map TRead.en z0)), []⟩ := by
  refine meets_of (O := slices_Clone_api_Read.O) hmix (fn := Try.f83) (code := bd83) (by kernel_rfl) ?_
  refine WK.weak (l := [(.t 0, [.data (.slc false (some true) 4 (List.map TRead.en []))])]) (wk_of (by kernel_rfl)) ?_
  unfold slices_Clone_api_Read_nil at h
  refine WK.rs (g := []) (l' := [(.t 0, [.data (.slc false (some true) 4 (List.map TRead.en []))])]) (by kernel_rfl) .nil (by kernel_rfl) ?_
  refine WK.seq (by kernel_rfl) ?_
  refine WK.rs (g := []) (l' := [(.t 0, [.data (.slc false (some true) 4 (List.map TRead.en []))]), (.t 4, [bv true])]) (by kernel_rfl) .nil (by kernel_rfl) ?_
  refine WK.ct (b := true) (by kernel_rfl) rfl ?_
  refine WK.rs (g := []) (l' := [(.t 2, [.data (.slc true (some true) 4 (List.map TRead.en []))])]) (by kernel_rfl) .nil (by kernel_rfl) ?_
  refine WK.weak (l := [(.t 2, [.data (.slc true none 4 (List.map TRead.en []))])]) (wk_of (by kernel_rfl)) ?_
  refine WK.ret (by kernel_rfl) ?_
  have h_ := some_inj h
  subst h_
  exact WKe.fin (e' := .ret) (by kernel_rfl) (fin_of (g := []) (by first | exact .inl rfl | exact .inr rfl) .nil (by kernel_rfl))
theorem slices_Clone_api_Read.nil_eq : slices_Clone_api_Read [] = slices_Clone_api_Read_nil := by kernel_rfl
theorem slices_Clone_api_Read.meets (s : List TRead) (z0 : List TRead) (h : slices_Clone_api_Read s = some z0) : Meets Try.prog ⟨83, [.data (.slc false none 4 (List.map TRead.en s))], []⟩ ⟨.data (.slc true none 4 (List.map TRead.en z0)), []⟩ := by
  refine asks_ok (C := Meets Try.prog) (fun _ _ h => h) (Asks.nil (args1 := []) (args2 := []) (sz := 4) (es := List.map TRead.en s) (fun e => .of ?_) (.of (slices_Clone_api_Read.meets1 s z0 h)))
  obtain rfl : s = [] := List.map_eq_nil_iff.1 e
  exact slices_Clone_api_Read.meets0 z0 (slices_Clone_api_Read.nil_eq  ▸ h)
/-- slices.Clone[[]diwan/api.Write,diwan/api.Write] -/
noncomputable def bd84 : Code := (Try.f84.body).getD .skip
def slices_Clone_api_Write.O : Nat → Nat := fun t => bif ([2, 5] : List Nat).any (Nat.beq t) then 1 else 0
noncomputable def slices_Clone_api_Write (s : List TWrite) : Option (List TWrite) :=
  gd (decide (([] : List TWrite).length + s.length ≤ 4294967296)) <|
  some s
theorem slices_Clone_api_Write.meets1 (s : List TWrite) (z0 : List TWrite) (h : slices_Clone_api_Write s = some z0) : Meets Try.prog ⟨84, [.data (.slc false (some false) 3 (List.map TWrite.en s))], []⟩ ⟨.data (.slc true none 3 (List.map TWrite.en z0)), []⟩ := by
  refine meets_of (O := slices_Clone_api_Write.O) hmix (fn := Try.f84) (code := bd84) (by kernel_rfl) ?_
  refine WK.weak (l := [(.t 0, [.data (.slc false (some false) 3 (List.map TWrite.en s))])]) (wk_of (by kernel_rfl)) ?_
  unfold slices_Clone_api_Write at h
  refine WK.rs (g := []) (l' := [(.t 0, [.data (.slc false (some false) 3 (List.map TWrite.en s))])]) (by kernel_rfl) .nil (by kernel_rfl) ?_
  refine WK.seq (by kernel_rfl) ?_
  refine WK.rs (g := []) (l' := [(.t 0, [.data (.slc false (some false) 3 (List.map TWrite.en s))]), (.t 4, [bv false])]) (by kernel_rfl) .nil (by kernel_rfl) ?_
  refine WK.ce (b := false) (by kernel_rfl) rfl ?_
  refine WK.skip (by kernel_rfl) ?_
  refine WKe.code (y := (cR (cR bd84))) (ks' := []) (by kernel_rfl) ?_
  obtain ⟨c5_1, h⟩ := gd_inv h
  refine WK.rs (g := []) (l' := [(.t 2, [.data (.slc true none 3 (List.map TWrite.en s))])]) (by kernel_rfl) (.cons (c_al (e := TWrite.en) (f := TWrite.en) c5_1) .nil) (by kernel_rfl) ?_
  refine WK.weak (l := [(.t 2, [.data (.slc true none 3 (List.map TWrite.en s))])]) (wk_of (by kernel_rfl)) ?_
  refine WK.ret (by kernel_rfl) ?_
  have h_ := some_inj h
  subst h_
  exact WKe.fin (e' := .ret) (by kernel_rfl) (fin_of (g := []) (by first | exact .inl rfl | exact .inr rfl) .nil (by kernel_rfl))
noncomputable def slices_Clone_api_Write_nil : Option (List TWrite) :=
  some []
theorem slices_Clone_api_Write.meets0 (z0 : List TWrite) (h : slices_Clone_api_Write_nil = some z0) : Meets Try.prog ⟨84, [.data (.slc false (some true) 3 (List.map TWrite.en []))], []⟩ ⟨.data (.slc true none 3 (List.map TWrite.en z0)), []⟩ := by
  refine meets_of (O := slices_Clone_api_Write.O) hmix (fn := Try.f84) (code := bd84) (by kernel_rfl) ?_
  refine WK.weak (l := [(.t 0, [.data (.slc false (some true) 3 (List.map TWrite.en []))])]) (wk_of (by kernel_rfl)) ?_
  unfold slices_Clone_api_Write_nil at h
  refine WK.rs (g := []) (l' := [(.t 0, [.data (.slc false (some true) 3 (List.map TWrite.en []))])]) (by kernel_rfl) .nil (by kernel_rfl) ?_
  refine WK.seq (by kernel_rfl) ?_
  refine WK.rs (g := []) (l' := [(.t 0, [.data (.slc false (some true) 3 (List.map TWrite.en []))]), (.t 4, [bv true])]) (by kernel_rfl) .nil (by kernel_rfl) ?_
  refine WK.ct (b := true) (by kernel_rfl) rfl ?_
  refine WK.rs (g := []) (l' := [(.t 2, [.data (.slc true (some true) 3 (List.map TWrite.en []))])]) (by kernel_rfl) .nil (by kernel_rfl) ?_
  refine WK.weak (l := [(.t 2, [.data (.slc true none 3 (List.map TWrite.en []))])]) (wk_of (by kernel_rfl)) ?_
  refine WK.ret (by kernel_rfl) ?_
  have h_ := some_inj h
  subst h_
  exact WKe.fin (e' := .ret) (by kernel_rfl) (fin_of (g := []) (by first | exact .inl rfl | exact .inr rfl) .nil (by kernel_rfl))
theorem slices_Clone_api_Write.nil_eq : slices_Clone_api_Write [] = slices_Clone_api_Write_nil := by kernel_rfl
theorem slices_Clone_api_Write.meets (s : List TWrite) (z0 : List TWrite) (h : slices_Clone_api_Write s = some z0) : Meets Try.prog ⟨84, [.data (.slc false none 3 (List.map TWrite.en s))], []⟩ ⟨.data (.slc true none 3 (List.map TWrite.en z0)), []⟩ := by
  refine asks_ok (C := Meets Try.prog) (fun _ _ h => h) (Asks.nil (args1 := []) (args2 := []) (sz := 3) (es := List.map TWrite.en s) (fun e => .of ?_) (.of (slices_Clone_api_Write.meets1 s z0 h)))
  obtain rfl : s = [] := List.map_eq_nil_iff.1 e
  exact slices_Clone_api_Write.meets0 z0 (slices_Clone_api_Write.nil_eq  ▸ h)
/-- diwan/raft.entries -/
noncomputable def bd55 : Code := (Try.f55.body).getD .skip
def raft_entries.O : Nat → Nat := fun t => bif ([2, 3, 4, 5] : List Nat).any (Nat.beq t) then 1 else bif ([22, 26] : List Nat).any (Nat.beq t) then 2 else 0
noncomputable def raft_entries.lp4 (fu : Nat) (l4_1 : Int) : Nat → (List TEntry) → Int → Option (List TEntry)
  | 0, _, _ => none
  | n_ + 1, l4_0, l4_2 =>
    br (decide (l4_2 < l4_1))
      (ix l4_0 l4_2 fun x7_1 =>
      bd (slices_Clone_api_Read x7_1.T.Reads) fun r8_1 =>
      bd (slices_Clone_api_Write x7_1.T.Writes) fun r8_3 =>
      ix l4_0 l4_2 fun x8_5 =>
      ix (l4_0.set l4_2.toNat (TEntry.mk x8_5.Term x8_5.Seal (TTxn.mk x8_5.T.Session x8_5.T.Seq r8_1 x8_5.T.Writes))) l4_2 fun x8_8 =>
      raft_entries.lp4 fu l4_1 n_ ((l4_0.set l4_2.toNat (TEntry.mk x8_5.Term x8_5.Seal (TTxn.mk x8_5.T.Session x8_5.T.Seq r8_1 x8_5.T.Writes))).set l4_2.toNat (TEntry.mk x8_8.Term x8_8.Seal (TTxn.mk x8_8.T.Session x8_8.T.Seq x8_8.T.Reads r8_3))) (w64 (l4_2 + 1)))
      (some l4_0)
noncomputable def raft_entries.lp4_post (l4_1 : Int) (r_ : (List TEntry)) : Wy → St → Prop := fun e τ => match r_ with
  | y0 => e = .exit 0 ∧ τ = ofL [(.t 3, [.ref (.t 8) 0 0 none]), (.t 8, [.data (.slc true none 6 (List.map TEntry.en y0))])]
theorem raft_entries.lp4_ok (fu : Nat) (l4_1 : Int) : ∀ (n_ : Nat) (l4_0 : List TEntry) (l4_2 : Int) (r_ : (List TEntry)), raft_entries.lp4 fu l4_1 n_ l4_0 l4_2 = some r_ → WK Try.prog raft_entries.O (Ck Try.prog) (cB (cR (cL (cR (cR bd55))))) [] (ofL [(.t 3, [.ref (.t 8) 0 0 none]), (.t 8, [.data (.slc true none 6 (List.map TEntry.en l4_0))]), (.t 9, [iv l4_1]), (.t 10, [iv l4_2])]) (raft_entries.lp4_post l4_1 r_) := by
  intro n_
  induction n_ with
  | zero => intro l4_0 l4_2 r_ h; exact no_none h
  | succ n_ ih =>
    intro l4_0 l4_2 r_ h
    refine WK.loop (by kernel_rfl) ?_
    refine WK.rs (g := []) (l' := [(.t 3, [.ref (.t 8) 0 0 none]), (.t 8, [.data (.slc true none 6 (List.map TEntry.en l4_0))]), (.t 9, [iv l4_1]), (.t 10, [iv l4_2]), (.t 11, [bv (decide (l4_2 < l4_1))])]) (by kernel_rfl) .nil (by kernel_rfl) ?_
    refine WK.seq (by kernel_rfl) ?_
    rcases br_inv h with ⟨b6_0, h⟩ | ⟨b6_0, h⟩
    · refine WK.ct (b := (decide (l4_2 < l4_1))) (by kernel_rfl) b6_0 ?_
      refine WK.skip (by kernel_rfl) ?_
      refine WKe.code (y := (cR (cR (cB (cB (cR (cL (cR (cR bd55))))))))) (ks' := [.lp (cB (cR (cL (cR (cR bd55)))))]) (by kernel_rfl) ?_
      refine WK.seq (by kernel_rfl) ?_
      refine WK.block (n := 1) (by kernel_rfl) ?_
      obtain ⟨x7_1, a7_2, e7_3, h⟩ := ix_inv h
      refine WK.rs (g := [.c (TEntry.en x7_1)]) (l' := [(.t 3, [.ref (.t 8) 0 0 none]), (.t 4, [iv l4_2]), (.t 5, [.ptr 5 0]), (.t 8, [.data (.slc true none 6 (List.map TEntry.en l4_0))]), (.t 9, [iv l4_1]), (.t 10, [iv l4_2]), (.o 5, (TEntry.ob x7_1))]) (by kernel_rfl) (.cons (c_ix (e := TEntry.en) a7_2 e7_3) (.cons (c_el (e := TEntry.en) e7_3) .nil)) (by kernel_rfl) ?_
      obtain ⟨r8_1, h8_2, h⟩ := bd_inv h
      obtain ⟨r8_3, h8_4, h⟩ := bd_inv h
      obtain ⟨x8_5, a8_6, e8_7, h⟩ := ix_inv h
      obtain ⟨x8_8, a8_9, e8_10, h⟩ := ix_inv h
      refine WK.rc (g := [.a ⟨.data (.slc true none 4 (List.map TRead.en r8_1)), []⟩, .a ⟨.data (.slc true none 3 (List.map TWrite.en r8_3)), []⟩, .c (TEntry.en x8_5), .s (.t 8) [.data (.slc true none 6 (List.map TEntry.en (l4_0.set l4_2.toNat (TEntry.mk x8_5.Term x8_5.Seal (TTxn.mk x8_5.T.Session x8_5.T.Seq r8_1 x8_5.T.Writes)))))], .c (TEntry.en x8_8), .s (.t 8) [.data (.slc true none 6 (List.map TEntry.en ((l4_0.set l4_2.toNat (TEntry.mk x8_5.Term x8_5.Seal (TTxn.mk x8_5.T.Session x8_5.T.Seq r8_1 x8_5.T.Writes))).set l4_2.toNat (TEntry.mk x8_8.Term x8_8.Seal (TTxn.mk x8_8.T.Session x8_8.T.Seq x8_8.T.Reads r8_3)))))]]) (l' := [(.t 3, [.ref (.t 8) 0 0 none]), (.t 8, [.data (.slc true none 6 (List.map TEntry.en ((l4_0.set l4_2.toNat (TEntry.mk x8_5.Term x8_5.Seal (TTxn.mk x8_5.T.Session x8_5.T.Seq r8_1 x8_5.T.Writes))).set l4_2.toNat (TEntry.mk x8_8.Term x8_8.Seal (TTxn.mk x8_8.T.Session x8_8.T.Seq x8_8.T.Reads r8_3)))))]), (.t 9, [iv l4_1]), (.t 10, [iv l4_2])]) (.cons (Asks.of (C := Meets Try.prog) (slices_Clone_api_Read.meets x7_1.T.Reads _ h8_2)) (.cons (Asks.of (C := Meets Try.prog) (slices_Clone_api_Write.meets x7_1.T.Writes _ h8_4)) (.cons (c_ix (e := TEntry.en) a8_6 e8_7) (.cons (c_el (e := TEntry.en) e8_7) (.cons (congrArg (fun d : DV => [AV.data d]) (c_set (e := TEntry.en) (s := 6) (nl := none) (l := l4_0) (i := l4_2.toNat) (x := (TEntry.mk x8_5.Term x8_5.Seal (TTxn.mk x8_5.T.Session x8_5.T.Seq r8_1 x8_5.T.Writes))))) (.cons (c_ix (e := TEntry.en) a8_9 e8_10) (.cons (c_el (e := TEntry.en) e8_10) (.cons (congrArg (fun d : DV => [AV.data d]) (c_set (e := TEntry.en) (s := 6) (nl := none) (l := (l4_0.set l4_2.toNat (TEntry.mk x8_5.Term x8_5.Seal (TTxn.mk x8_5.T.Session x8_5.T.Seq r8_1 x8_5.T.Writes)))) (i := l4_2.toNat) (x := (TEntry.mk x8_8.Term x8_8.Seal (TTxn.mk x8_8.T.Session x8_8.T.Seq x8_8.T.Reads r8_3))))) (.cons (Eq.refl true) .nil))))))))) (by kernel_rfl) (y := (cR (cR (cR (cB (cB (cR (cL (cR (cR bd55)))))))))) (ks' := [.lp (cB (cR (cL (cR (cR bd55)))))]) (by kernel_rfl) ?_
      refine WK.rc (g := []) (l' := [(.t 3, [.ref (.t 8) 0 0 none]), (.t 8, [.data (.slc true none 6 (List.map TEntry.en ((l4_0.set l4_2.toNat (TEntry.mk x8_5.Term x8_5.Seal (TTxn.mk x8_5.T.Session x8_5.T.Seq r8_1 x8_5.T.Writes))).set l4_2.toNat (TEntry.mk x8_8.Term x8_8.Seal (TTxn.mk x8_8.T.Session x8_8.T.Seq x8_8.T.Reads r8_3)))))]), (.t 9, [iv l4_1]), (.t 10, [iv (w64 (l4_2 + 1))])]) .nil (by kernel_rfl) (y := (cB (cR (cL (cR (cR bd55)))))) (ks' := []) (by kernel_rfl) ?_
      exact WK.weak (l := [(.t 3, [.ref (.t 8) 0 0 none]), (.t 8, [.data (.slc true none 6 (List.map TEntry.en ((l4_0.set l4_2.toNat (TEntry.mk x8_5.Term x8_5.Seal (TTxn.mk x8_5.T.Session x8_5.T.Seq r8_1 x8_5.T.Writes))).set l4_2.toNat (TEntry.mk x8_8.Term x8_8.Seal (TTxn.mk x8_8.T.Session x8_8.T.Seq x8_8.T.Reads r8_3)))))]), (.t 9, [iv l4_1]), (.t 10, [iv (w64 (l4_2 + 1))])]) (wk_of (by kernel_rfl)) (ih ((l4_0.set l4_2.toNat (TEntry.mk x8_5.Term x8_5.Seal (TTxn.mk x8_5.T.Session x8_5.T.Seq r8_1 x8_5.T.Writes))).set l4_2.toNat (TEntry.mk x8_8.Term x8_8.Seal (TTxn.mk x8_8.T.Session x8_8.T.Seq x8_8.T.Reads r8_3))) (w64 (l4_2 + 1)) _ h)
    · refine WK.ce (b := (decide (l4_2 < l4_1))) (by kernel_rfl) b6_0 ?_
      refine WK.weak (l := [(.t 3, [.ref (.t 8) 0 0 none]), (.t 8, [.data (.slc true none 6 (List.map TEntry.en l4_0))])]) (wk_of (by kernel_rfl)) ?_
      refine WK.exit (n := 0) (by kernel_rfl) ?_
      cases some_inj h
      exact WKe.fin (e' := .exit 0) (by kernel_rfl) ⟨rfl, rfl⟩
noncomputable def raft_entries (fu : Nat) (l : List TEntry) : Option (List TEntry) :=
  bd (slices_Clone_api_Entry l) fun r2_1 =>
  bd (raft_entries.lp4 fu (r2_1.length : Int) fu r2_1 0) fun y10_0 =>
  some y10_0
theorem raft_entries.meets (fu : Nat) (l : List TEntry) (z0 : List TEntry) (h : raft_entries fu l = some z0) : Meets Try.prog ⟨55, [.data (.slc false none 6 (List.map TEntry.en l))], []⟩ ⟨.data (.slc true none 6 (List.map TEntry.en z0)), []⟩ := by
  refine meets_of (O := raft_entries.O) hmix (fn := Try.f55) (code := bd55) (by kernel_rfl) ?_
  refine WK.weak (l := [(.t 0, [.data (.slc false none 6 (List.map TEntry.en l))])]) (wk_of (by kernel_rfl)) ?_
  unfold raft_entries at h
  refine WK.rs (g := []) (l' := [(.t 0, [.data (.slc false none 6 (List.map TEntry.en l))])]) (by kernel_rfl) .nil (by kernel_rfl) ?_
  obtain ⟨r2_1, h2_2, h⟩ := bd_inv h
  refine WK.rs (g := [.a ⟨.data (.slc true none 6 (List.map TEntry.en r2_1)), []⟩]) (l' := [(.t 3, [.data (.slc true none 6 (List.map TEntry.en r2_1))])]) (by kernel_rfl) (.cons (Asks.of (C := Meets Try.prog) (slices_Clone_api_Entry.meets l _ h2_2)) .nil) (by kernel_rfl) ?_
  refine WK.seq (by kernel_rfl) ?_
  refine WK.rs (g := [.s (.t 9) [iv (r2_1.length : Int)]]) (l' := [(.t 3, [.data (.slc true none 6 (List.map TEntry.en r2_1))]), (.t 8, [.ref (.t 3) 0 0 none]), (.t 9, [iv (r2_1.length : Int)]), (.t 10, [iv 0])]) (by kernel_rfl) (.cons (c_len (e := TEntry.en) (l := r2_1)) .nil) (by kernel_rfl) ?_
  refine WK.block (n := 0) (by kernel_rfl) ?_
  refine WK.swap (t := 3) (u := 8) (d := .slc true none 6 (List.map TEntry.en r2_1)) (l' := [(.t 3, [.ref (.t 8) 0 0 none]), (.t 8, [.data (.slc true none 6 (List.map TEntry.en r2_1))]), (.t 9, [iv (r2_1.length : Int)]), (.t 10, [iv 0])]) (by kernel_rfl) (by kernel_rfl) (by kernel_rfl) (by kernel_rfl) (by kernel_rfl) ?_
  obtain ⟨o10, ho10, h⟩ := bd_inv h
  refine WK.weak (l := [(.t 3, [.ref (.t 8) 0 0 none]), (.t 8, [.data (.slc true none 6 (List.map TEntry.en r2_1))]), (.t 9, [iv (r2_1.length : Int)]), (.t 10, [iv 0])]) (wk_of (by kernel_rfl)) ?_
  refine WK.use (raft_entries.lp4_ok fu (r2_1.length : Int) _ r2_1 0 _ ho10) ?_
  intro e_ τ_ hp_
  obtain ⟨y10_0, rfl⟩ : ∃ y, y = o10 := ⟨_, rfl⟩
  obtain ⟨rfl, rfl⟩ := hp_
  refine WKe.code (y := (cR (cR (cR bd55)))) (ks' := []) (by kernel_rfl) ?_
  refine WK.rs (g := []) (l' := [(.t 2, [.data (.slc true none 6 (List.map TEntry.en y10_0))])]) (by kernel_rfl) .nil (by kernel_rfl) ?_
  refine WK.weak (l := [(.t 2, [.data (.slc true none 6 (List.map TEntry.en y10_0))])]) (wk_of (by kernel_rfl)) ?_
  refine WK.ret (by kernel_rfl) ?_
  have h_ := some_inj h
  subst h_
  exact WKe.fin (e' := .ret) (by kernel_rfl) (fin_of (g := []) (by first | exact .inl rfl | exact .inr rfl) .nil (by kernel_rfl))
/-- slices.Clone[[]bool,bool] -/
noncomputable def bd71 : Code := (Try.f71.body).getD .skip
def slices_Clone_bool_bool.O : Nat → Nat := fun t => bif ([2, 5] : List Nat).any (Nat.beq t) then 1 else 0
noncomputable def slices_Clone_bool_bool (s : List Bool) : Option (List Bool) :=
  gd (decide (([] : List Bool).length + s.length ≤ 4294967296)) <|
  some s
theorem slices_Clone_bool_bool.meets1 (s : List Bool) (z0 : List Bool) (h : slices_Clone_bool_bool s = some z0) : Meets Try.prog ⟨71, [.data (.slc false (some false) 1 (List.map e_b s))], []⟩ ⟨.data (.slc true none 1 (List.map e_b z0)), []⟩ := by
  refine meets_of (O := slices_Clone_bool_bool.O) hmix (fn := Try.f71) (code := bd71) (by kernel_rfl) ?_
  refine WK.weak (l := [(.t 0, [.data (.slc false (some false) 1 (List.map e_b s))])]) (wk_of (by kernel_rfl)) ?_
  unfold slices_Clone_bool_bool at h
  refine WK.rs (g := []) (l' := [(.t 0, [.data (.slc false (some false) 1 (List.map e_b s))])]) (by kernel_rfl) .nil (by kernel_rfl) ?_
  refine WK.seq (by kernel_rfl) ?_
  refine WK.rs (g := []) (l' := [(.t 0, [.data (.slc false (some false) 1 (List.map e_b s))]), (.t 4, [bv false])]) (by kernel_rfl) .nil (by kernel_rfl) ?_
  refine WK.ce (b := false) (by kernel_rfl) rfl ?_
  refine WK.skip (by kernel_rfl) ?_
  refine WKe.code (y := (cR (cR bd71))) (ks' := []) (by kernel_rfl) ?_
  obtain ⟨c5_1, h⟩ := gd_inv h
  refine WK.rs (g := []) (l' := [(.t 2, [.data (.slc true none 1 (List.map e_b s))])]) (by kernel_rfl) (.cons (c_al (e := e_b) (f := e_b) c5_1) .nil) (by kernel_rfl) ?_
  refine WK.weak (l := [(.t 2, [.data (.slc true none 1 (List.map e_b s))])]) (wk_of (by kernel_rfl)) ?_
  refine WK.ret (by kernel_rfl) ?_
  have h_ := some_inj h
  subst h_
  exact WKe.fin (e' := .ret) (by kernel_rfl) (fin_of (g := []) (by first | exact .inl rfl | exact .inr rfl) .nil (by kernel_rfl))
noncomputable def slices_Clone_bool_bool_nil : Option (List Bool) :=
  some []
theorem slices_Clone_bool_bool.meets0 (z0 : List Bool) (h : slices_Clone_bool_bool_nil = some z0) : Meets Try.prog ⟨71, [.data (.slc false (some true) 1 (List.map e_b []))], []⟩ ⟨.data (.slc true none 1 (List.map e_b z0)), []⟩ := by
  refine meets_of (O := slices_Clone_bool_bool.O) hmix (fn := Try.f71) (code := bd71) (by kernel_rfl) ?_
  refine WK.weak (l := [(.t 0, [.data (.slc false (some true) 1 (List.map e_b []))])]) (wk_of (by kernel_rfl)) ?_
  unfold slices_Clone_bool_bool_nil at h
  refine WK.rs (g := []) (l' := [(.t 0, [.data (.slc false (some true) 1 (List.map e_b []))])]) (by kernel_rfl) .nil (by kernel_rfl) ?_
  refine WK.seq (by kernel_rfl) ?_
  refine WK.rs (g := []) (l' := [(.t 0, [.data (.slc false (some true) 1 (List.map e_b []))]), (.t 4, [bv true])]) (by kernel_rfl) .nil (by kernel_rfl) ?_
  refine WK.ct (b := true) (by kernel_rfl) rfl ?_
  refine WK.rs (g := []) (l' := [(.t 2, [.data (.slc true (some true) 1 (List.map e_b []))])]) (by kernel_rfl) .nil (by kernel_rfl) ?_
  refine WK.weak (l := [(.t 2, [.data (.slc true none 1 (List.map e_b []))])]) (wk_of (by kernel_rfl)) ?_
  refine WK.ret (by kernel_rfl) ?_
  have h_ := some_inj h
  subst h_
  exact WKe.fin (e' := .ret) (by kernel_rfl) (fin_of (g := []) (by first | exact .inl rfl | exact .inr rfl) .nil (by kernel_rfl))
theorem slices_Clone_bool_bool.nil_eq : slices_Clone_bool_bool [] = slices_Clone_bool_bool_nil := by kernel_rfl
theorem slices_Clone_bool_bool.meets (s : List Bool) (z0 : List Bool) (h : slices_Clone_bool_bool s = some z0) : Meets Try.prog ⟨71, [.data (.slc false none 1 (List.map e_b s))], []⟩ ⟨.data (.slc true none 1 (List.map e_b z0)), []⟩ := by
  refine asks_ok (C := Meets Try.prog) (fun _ _ h => h) (Asks.nil (args1 := []) (args2 := []) (sz := 1) (es := List.map e_b s) (fun e => .of ?_) (.of (slices_Clone_bool_bool.meets1 s z0 h)))
  obtain rfl : s = [] := List.map_eq_nil_iff.1 e
  exact slices_Clone_bool_bool.meets0 z0 (slices_Clone_bool_bool.nil_eq  ▸ h)
/-- slices.Clone[[]int,int] -/
noncomputable def bd72 : Code := (Try.f72.body).getD .skip
def slices_Clone_int_int.O : Nat → Nat := fun t => bif ([2, 5] : List Nat).any (Nat.beq t) then 1 else 0
noncomputable def slices_Clone_int_int (s : List Int) : Option (List Int) :=
  gd (decide (([] : List Int).length + s.length ≤ 4294967296)) <|
  some s
theorem slices_Clone_int_int.meets1 (s : List Int) (z0 : List Int) (h : slices_Clone_int_int s = some z0) : Meets Try.prog ⟨72, [.data (.slc false (some false) 1 (List.map e_i64 s))], []⟩ ⟨.data (.slc true none 1 (List.map e_i64 z0)), []⟩ := by
  refine meets_of (O := slices_Clone_int_int.O) hmix (fn := Try.f72) (code := bd72) (by kernel_rfl) ?_
  refine WK.weak (l := [(.t 0, [.data (.slc false (some false) 1 (List.map e_i64 s))])]) (wk_of (by kernel_rfl)) ?_
  unfold slices_Clone_int_int at h
  refine WK.rs (g := []) (l' := [(.t 0, [.data (.slc false (some false) 1 (List.map e_i64 s))])]) (by kernel_rfl) .nil (by kernel_rfl) ?_
  refine WK.seq (by kernel_rfl) ?_
  refine WK.rs (g := []) (l' := [(.t 0, [.data (.slc false (some false) 1 (List.map e_i64 s))]), (.t 4, [bv false])]) (by kernel_rfl) .nil (by kernel_rfl) ?_
  refine WK.ce (b := false) (by kernel_rfl) rfl ?_
  refine WK.skip (by kernel_rfl) ?_
  refine WKe.code (y := (cR (cR bd72))) (ks' := []) (by kernel_rfl) ?_
  obtain ⟨c5_1, h⟩ := gd_inv h
  refine WK.rs (g := []) (l' := [(.t 2, [.data (.slc true none 1 (List.map e_i64 s))])]) (by kernel_rfl) (.cons (c_al (e := e_i64) (f := e_i64) c5_1) .nil) (by kernel_rfl) ?_
  refine WK.weak (l := [(.t 2, [.data (.slc true none 1 (List.map e_i64 s))])]) (wk_of (by kernel_rfl)) ?_
  refine WK.ret (by kernel_rfl) ?_
  have h_ := some_inj h
  subst h_
  exact WKe.fin (e' := .ret) (by kernel_rfl) (fin_of (g := []) (by first | exact .inl rfl | exact .inr rfl) .nil (by kernel_rfl))
noncomputable def slices_Clone_int_int_nil : Option (List Int) :=
  some []
theorem slices_Clone_int_int.meets0 (z0 : List Int) (h : slices_Clone_int_int_nil = some z0) : Meets Try.prog ⟨72, [.data (.slc false (some true) 1 (List.map e_i64 []))], []⟩ ⟨.data (.slc true none 1 (List.map e_i64 z0)), []⟩ := by
  refine meets_of (O := slices_Clone_int_int.O) hmix (fn := Try.f72) (code := bd72) (by kernel_rfl) ?_
  refine WK.weak (l := [(.t 0, [.data (.slc false (some true) 1 (List.map e_i64 []))])]) (wk_of (by kernel_rfl)) ?_
  unfold slices_Clone_int_int_nil at h
  refine WK.rs (g := []) (l' := [(.t 0, [.data (.slc false (some true) 1 (List.map e_i64 []))])]) (by kernel_rfl) .nil (by kernel_rfl) ?_
  refine WK.seq (by kernel_rfl) ?_
  refine WK.rs (g := []) (l' := [(.t 0, [.data (.slc false (some true) 1 (List.map e_i64 []))]), (.t 4, [bv true])]) (by kernel_rfl) .nil (by kernel_rfl) ?_
  refine WK.ct (b := true) (by kernel_rfl) rfl ?_
  refine WK.rs (g := []) (l' := [(.t 2, [.data (.slc true (some true) 1 (List.map e_i64 []))])]) (by kernel_rfl) .nil (by kernel_rfl) ?_
  refine WK.weak (l := [(.t 2, [.data (.slc true none 1 (List.map e_i64 []))])]) (wk_of (by kernel_rfl)) ?_
  refine WK.ret (by kernel_rfl) ?_
  have h_ := some_inj h
  subst h_
  exact WKe.fin (e' := .ret) (by kernel_rfl) (fin_of (g := []) (by first | exact .inl rfl | exact .inr rfl) .nil (by kernel_rfl))
theorem slices_Clone_int_int.nil_eq : slices_Clone_int_int [] = slices_Clone_int_int_nil := by kernel_rfl
theorem slices_Clone_int_int.meets (s : List Int) (z0 : List Int) (h : slices_Clone_int_int s = some z0) : Meets Try.prog ⟨72, [.data (.slc false none 1 (List.map e_i64 s))], []⟩ ⟨.data (.slc true none 1 (List.map e_i64 z0)), []⟩ := by
  refine asks_ok (C := Meets Try.prog) (fun _ _ h => h) (Asks.nil (args1 := []) (args2 := []) (sz := 1) (es := List.map e_i64 s) (fun e => .of ?_) (.of (slices_Clone_int_int.meets1 s z0 h)))
  obtain rfl : s = [] := List.map_eq_nil_iff.1 e
  exact slices_Clone_int_int.meets0 z0 (slices_Clone_int_int.nil_eq  ▸ h)
/-- diwan/raft.twin -/
noncomputable def bd45 : Code := (Try.f45.body).getD .skip
def raft_twin.O : Nat → Nat := fun t => bif ([1, 2, 5, 9, 12, 15, 19] : List Nat).any (Nat.beq t) then 1 else 0
noncomputable def raft_twin (fu : Nat) (r_v : TRaft) : Option TRaft :=
  bd (raft_entries fu r_v.Log) fun r2_1 =>
  bd (slices_Clone_bool_bool r_v.Votes) fun r3_1 =>
  bd (slices_Clone_int_int r_v.Next) fun r3_3 =>
  bd (slices_Clone_int_int r_v.Match) fun r3_5 =>
  some (TRaft.mk r_v.Me r_v.Nodes r_v.Wait r_v.Term r_v.Vote r2_1 r_v.Commit r_v.Role r_v.Leader r3_1 r3_3 r3_5 r_v.Clock)
theorem raft_twin.meets (fu : Nat) (r_v : TRaft) (z0 : TRaft) (h : raft_twin fu r_v = some z0) : Meets Try.prog ⟨45, [.data (TRaft.ag r_v)], []⟩ ⟨.data (TRaft.ag_000001000111 z0), []⟩ := by
  refine meets_of (O := raft_twin.O) hmix (fn := Try.f45) (code := bd45) (by kernel_rfl) ?_
  refine WK.weak (l := [(.t 0, [.data (TRaft.ag r_v)])]) (wk_of (by kernel_rfl)) ?_
  unfold raft_twin at h
  refine WK.rs (g := []) (l' := [(.t 1, [.ptr 1 0]), (.t 2, [.ptr 2 0]), (.o 1, (TRaft.ob r_v)), (.o 2, (TRaft.ob_000001000111 (TRaft.mk 0 0 0 0 0 [] 0 0 0 [] [] [] 0)))]) (by kernel_rfl) .nil (by kernel_rfl) ?_
  obtain ⟨r2_1, h2_2, h⟩ := bd_inv h
  refine WK.rs (g := [.a ⟨.data (.slc true none 6 (List.map TEntry.en r2_1)), []⟩]) (l' := [(.t 1, [.ptr 1 0]), (.t 2, [.ptr 2 0]), (.o 1, (TRaft.ob_000001 (TRaft.mk r_v.Me r_v.Nodes r_v.Wait r_v.Term r_v.Vote r2_1 r_v.Commit r_v.Role r_v.Leader r_v.Votes r_v.Next r_v.Match r_v.Clock))), (.o 2, (TRaft.ob_000001000111 (TRaft.mk 0 0 0 0 0 [] 0 0 0 [] [] [] 0)))]) (by kernel_rfl) (.cons (Asks.of (C := Meets Try.prog) (raft_entries.meets fu r_v.Log _ h2_2)) .nil) (by kernel_rfl) ?_
  obtain ⟨r3_1, h3_2, h⟩ := bd_inv h
  obtain ⟨r3_3, h3_4, h⟩ := bd_inv h
  obtain ⟨r3_5, h3_6, h⟩ := bd_inv h
  refine WK.rs (g := [.a ⟨.data (.slc true none 1 (List.map e_b r3_1)), []⟩, .a ⟨.data (.slc true none 1 (List.map e_i64 r3_3)), []⟩, .a ⟨.data (.slc true none 1 (List.map e_i64 r3_5)), []⟩]) (l' := [(.t 1, [.ptr 1 0]), (.t 2, [.ptr 2 0]), (.o 1, (TRaft.ob_000001000111 (TRaft.mk r_v.Me r_v.Nodes r_v.Wait r_v.Term r_v.Vote r2_1 r_v.Commit r_v.Role r_v.Leader r3_1 r3_3 r3_5 r_v.Clock))), (.o 2, (TRaft.ob_000001000111 (TRaft.mk 0 0 0 0 0 [] 0 0 0 [] [] [] 0)))]) (by kernel_rfl) (.cons (Asks.of (C := Meets Try.prog) (slices_Clone_bool_bool.meets r_v.Votes _ h3_2)) (.cons (Asks.of (C := Meets Try.prog) (slices_Clone_int_int.meets r_v.Next _ h3_4)) (.cons (Asks.of (C := Meets Try.prog) (slices_Clone_int_int.meets r_v.Match _ h3_6)) (.cons (Eq.refl true) .nil)))) (by kernel_rfl) ?_
  refine WK.rs (g := []) (l' := [(.t 2, [.ptr 2 0]), (.o 2, (TRaft.ob_000001000111 (TRaft.mk r_v.Me r_v.Nodes r_v.Wait r_v.Term r_v.Vote r2_1 r_v.Commit r_v.Role r_v.Leader r3_1 r3_3 r3_5 r_v.Clock)))]) (by kernel_rfl) .nil (by kernel_rfl) ?_
  refine WK.weak (l := [(.t 2, [.ptr 2 0]), (.o 2, (TRaft.ob_000001000111 (TRaft.mk r_v.Me r_v.Nodes r_v.Wait r_v.Term r_v.Vote r2_1 r_v.Commit r_v.Role r_v.Leader r3_1 r3_3 r3_5 r_v.Clock)))]) (wk_of (by kernel_rfl)) ?_
  refine WK.ret (by kernel_rfl) ?_
  have h_ := some_inj h
  subst h_
  exact WKe.fin (e' := .ret) (by kernel_rfl) (fin_of (g := []) (by first | exact .inl rfl | exact .inr rfl) .nil (by kernel_rfl))
/-- (diwan/ulog.entries).term -/
noncomputable def bd102 : Code := (Try.f102.body).getD .skip
def ulog_entries_term.O : Nat → Nat := fun t => bif ([4] : List Nat).any (Nat.beq t) then 1 else 0
noncomputable def ulog_entries_term (l : List TEntry) (i : Int) : Option Int :=
  br (decide (i < 1))
    (some 0)
    (br (decide (i > (l.length : Int)))
      (some 0)
      (ix l (w64 (i - 1)) fun x6_1 =>
      some x6_1.Term))
theorem ulog_entries_term.meets (l : List TEntry) (i : Int) (z0 : Int) (h : ulog_entries_term l i = some z0) : Meets Try.prog ⟨102, [.data (.slc false none 6 (List.map TEntry.en l)), iv i], []⟩ ⟨iv z0, []⟩ := by
  refine meets_of (O := ulog_entries_term.O) hmix (fn := Try.f102) (code := bd102) (by kernel_rfl) ?_
  refine WK.weak (l := [(.t 0, [.data (.slc false none 6 (List.map TEntry.en l))]), (.t 1, [iv i])]) (wk_of (by kernel_rfl)) ?_
  unfold ulog_entries_term at h
  refine WK.rs (g := []) (l' := [(.t 0, [.data (.slc false none 6 (List.map TEntry.en l))]), (.t 1, [iv i])]) (by kernel_rfl) .nil (by kernel_rfl) ?_
  refine WK.seq (by kernel_rfl) ?_
  rcases br_inv h with ⟨b2_1, h⟩ | ⟨b2_1, h⟩
  · refine WK.rs (g := [.b true, .b true, .b true, .b true, .b true]) (l' := [(.t 0, [.data (.slc false none 6 (List.map TEntry.en l))]), (.t 1, [iv i]), (.t 12, [bv true])]) (by kernel_rfl) (.cons b2_1 (.cons b2_1 (.cons b2_1 (.cons b2_1 (.cons b2_1 .nil))))) (by kernel_rfl) ?_
    refine WK.ct (b := true) (by kernel_rfl) rfl ?_
    refine WK.rs (g := []) (l' := [(.t 4, [iv 0])]) (by kernel_rfl) .nil (by kernel_rfl) ?_
    refine WK.weak (l := [(.t 4, [iv 0])]) (wk_of (by kernel_rfl)) ?_
    refine WK.ret (by kernel_rfl) ?_
    have h_ := some_inj h
    subst h_
    exact WKe.fin (e' := .ret) (by kernel_rfl) (fin_of (g := []) (by first | exact .inl rfl | exact .inr rfl) .nil (by kernel_rfl))
  · refine WK.rs (g := [.b false, .b false, .b false, .s (.t 10) [iv (l.length : Int)], .b false, .b false]) (l' := [(.t 0, [.data (.slc false none 6 (List.map TEntry.en l))]), (.t 1, [iv i]), (.t 12, [bv (decide (i > (l.length : Int)))])]) (by kernel_rfl) (.cons b2_1 (.cons b2_1 (.cons b2_1 (.cons (c_len (e := TEntry.en) (l := l)) (.cons b2_1 (.cons b2_1 .nil)))))) (by kernel_rfl) ?_
    rcases br_inv h with ⟨b4_0, h⟩ | ⟨b4_0, h⟩
    · refine WK.ct (b := (decide (i > (l.length : Int)))) (by kernel_rfl) b4_0 ?_
      refine WK.rs (g := []) (l' := [(.t 4, [iv 0])]) (by kernel_rfl) .nil (by kernel_rfl) ?_
      refine WK.weak (l := [(.t 4, [iv 0])]) (wk_of (by kernel_rfl)) ?_
      refine WK.ret (by kernel_rfl) ?_
      have h_ := some_inj h
      subst h_
      exact WKe.fin (e' := .ret) (by kernel_rfl) (fin_of (g := []) (by first | exact .inl rfl | exact .inr rfl) .nil (by kernel_rfl))
    · refine WK.ce (b := (decide (i > (l.length : Int)))) (by kernel_rfl) b4_0 ?_
      refine WK.skip (by kernel_rfl) ?_
      refine WKe.code (y := (cR (cR bd102))) (ks' := []) (by kernel_rfl) ?_
      obtain ⟨x6_1, a6_2, e6_3, h⟩ := ix_inv h
      refine WK.rs (g := [.c (TEntry.en x6_1)]) (l' := [(.t 4, [iv x6_1.Term])]) (by kernel_rfl) (.cons (c_ix (e := TEntry.en) a6_2 e6_3) (.cons (c_el (e := TEntry.en) e6_3) .nil)) (by kernel_rfl) ?_
      refine WK.weak (l := [(.t 4, [iv x6_1.Term])]) (wk_of (by kernel_rfl)) ?_
      refine WK.ret (by kernel_rfl) ?_
      have h_ := some_inj h
      subst h_
      exact WKe.fin (e' := .ret) (by kernel_rfl) (fin_of (g := []) (by first | exact .inl rfl | exact .inr rfl) .nil (by kernel_rfl))
/-- diwan/ulog.Term -/
noncomputable def bd96 : Code := (Try.f96.body).getD .skip
def ulog_Term.O : Nat → Nat := fun t => bif ([4, 5] : List Nat).any (Nat.beq t) then 1 else 0
noncomputable def ulog_Term (l : List TEntry) (i : Int) : Option Int :=
  bd (ulog_entries_term l i) fun r3_1 =>
  some r3_1
theorem ulog_Term.meets (l : List TEntry) (i : Int) (z0 : Int) (h : ulog_Term l i = some z0) : Meets Try.prog ⟨96, [.data (.slc false none 6 (List.map TEntry.en l)), iv i], []⟩ ⟨iv z0, []⟩ := by
  refine meets_of (O := ulog_Term.O) hmix (fn := Try.f96) (code := bd96) (by kernel_rfl) ?_
  refine WK.weak (l := [(.t 0, [.data (.slc false none 6 (List.map TEntry.en l))]), (.t 1, [iv i])]) (wk_of (by kernel_rfl)) ?_
  unfold ulog_Term at h
  refine WK.rs (g := []) (l' := [(.t 0, [.data (.slc false none 6 (List.map TEntry.en l))]), (.t 1, [iv i])]) (by kernel_rfl) .nil (by kernel_rfl) ?_
  refine WK.rs (g := []) (l' := [(.t 0, [.data (.slc false none 6 (List.map TEntry.en l))]), (.t 1, [iv i]), (.t 5, [.fn (.func 102) [] []])]) (by kernel_rfl) .nil (by kernel_rfl) ?_
  obtain ⟨r3_1, h3_2, h⟩ := bd_inv h
  refine WK.rs (g := [.a ⟨iv r3_1, []⟩]) (l' := [(.t 4, [iv r3_1])]) (by kernel_rfl) (.cons (Asks.of (C := Meets Try.prog) (ulog_entries_term.meets l i _ h3_2)) .nil) (by kernel_rfl) ?_
  refine WK.weak (l := [(.t 4, [iv r3_1])]) (wk_of (by kernel_rfl)) ?_
  refine WK.ret (by kernel_rfl) ?_
  have h_ := some_inj h
  subst h_
  exact WKe.fin (e' := .ret) (by kernel_rfl) (fin_of (g := []) (by first | exact .inl rfl | exact .inr rfl) .nil (by kernel_rfl))
/-- (*diwan/raft.member).sends -/
noncomputable def bd78 : Code := (Try.f78.body).getD .skip
def raft_member_sends.O : Nat → Nat := fun t => bif ([5, 11, 26, 27] : List Nat).any (Nat.beq t) then 1 else 0
noncomputable def raft_member_sends (to : Int) (m : TMsg) (o0_v : TMember) : Option TMember :=
  gd (decide (o0_v.out.length + ([(TMsg.mk m.Kind o0_v.Raft.Me to m.Part o0_v.Raft.Term m.Index m.LogTerm m.Commit m.OK m.Entries m.T m.Session m.Seq m.Pos m.Shard m.Span m.FromKey m.ToKey m.Keys m.Got m.Err)] : List TMsg).length ≤ 4294967296)) <|
  some (TMember.mk o0_v.Raft (o0_v.out ++ ([(TMsg.mk m.Kind o0_v.Raft.Me to m.Part o0_v.Raft.Term m.Index m.LogTerm m.Commit m.OK m.Entries m.T m.Session m.Seq m.Pos m.Shard m.Span m.FromKey m.ToKey m.Keys m.Got m.Err)] : List TMsg)))
theorem raft_member_sends.meets (to : Int) (m : TMsg) (o0_v : TMember) (z0 : TMember) (h : raft_member_sends to m o0_v = some z0) : Meets Try.prog ⟨78, [.ptr 1000 0, iv to, .data (TMsg.ag m)], [(TMember.ob_00000000011101 o0_v)]⟩ ⟨.tup [], [(TMember.ob_00000000011101 z0)]⟩ := by
  refine meets_of (O := raft_member_sends.O) hmix (fn := Try.f78) (code := bd78) (by kernel_rfl) ?_
  refine WK.weak (l := [(.t 0, [.ptr 1000 0]), (.t 1, [iv to]), (.t 2, [.data (TMsg.ag m)]), (.o 1000, (TMember.ob_00000000011101 o0_v))]) (wk_of (by kernel_rfl)) ?_
  unfold raft_member_sends at h
  refine WK.rs (g := []) (l' := [(.t 0, [.ptr 1000 0]), (.t 1, [iv to]), (.t 5, [.ptr 5 0]), (.o 5, (TMsg.ob m)), (.o 1000, (TMember.ob_00000000011101 o0_v))]) (by kernel_rfl) .nil (by kernel_rfl) ?_
  refine WK.rs (g := []) (l' := [(.t 0, [.ptr 1000 0]), (.t 5, [.ptr 5 0]), (.o 5, (TMsg.ob (TMsg.mk m.Kind o0_v.Raft.Me to m.Part o0_v.Raft.Term m.Index m.LogTerm m.Commit m.OK m.Entries m.T m.Session m.Seq m.Pos m.Shard m.Span m.FromKey m.ToKey m.Keys m.Got m.Err))), (.o 1000, (TMember.ob_00000000011101 o0_v))]) (by kernel_rfl) (.cons (Eq.refl true) .nil) (by kernel_rfl) ?_
  obtain ⟨c3_1, h⟩ := gd_inv h
  have h_ := some_inj h
  subst h_
  exact WK.rf (g := [.s (.t 27) [.data (.slc true none 24 (List.map TMsg.en (o0_v.out ++ ([(TMsg.mk m.Kind o0_v.Raft.Me to m.Part o0_v.Raft.Term m.Index m.LogTerm m.Commit m.OK m.Entries m.T m.Session m.Seq m.Pos m.Shard m.Span m.FromKey m.ToKey m.Keys m.Got m.Err)] : List TMsg))))]]) (.cons (c_al (e := TMsg.en) (f := TMsg.en) c3_1) (.cons (congrArg (fun d : DV => [AV.data d]) (c_app (e := TMsg.en) (s := 24) (l := o0_v.out) (m := ([(TMsg.mk m.Kind o0_v.Raft.Me to m.Part o0_v.Raft.Term m.Index m.LogTerm m.Commit m.OK m.Entries m.T m.Session m.Seq m.Pos m.Shard m.Span m.FromKey m.ToKey m.Keys m.Got m.Err)] : List TMsg)))) (.cons (Eq.refl true) .nil))) (by kernel_rfl) (by kernel_rfl)
/-- (*diwan/raft.member).more -/
noncomputable def bd75 : Code := (Try.f75.body).getD .skip
def raft_member_more.O : Nat → Nat := fun t => bif ([4, 5, 57] : List Nat).any (Nat.beq t) then 1 else 0
noncomputable def raft_member_more (fu : Nat) (to : Int) (o0_v : TMember) : Option TMember :=
  ix o0_v.Raft.Next (w64 (to - 1)) fun x1_1 =>
  gd (decide ((0 : Int) ≤ (if (o0_v.Raft.Log.length : Int) < (if (w64 (x1_1 - 1)) < 0 then 0 else (w64 (x1_1 - 1))) then (o0_v.Raft.Log.length : Int) else (if (w64 (x1_1 - 1)) < 0 then 0 else (w64 (x1_1 - 1)))) ∧ (if (o0_v.Raft.Log.length : Int) < (if (w64 (x1_1 - 1)) < 0 then 0 else (w64 (x1_1 - 1))) then (o0_v.Raft.Log.length : Int) else (if (w64 (x1_1 - 1)) < 0 then 0 else (w64 (x1_1 - 1)))) ≤ (if (o0_v.Raft.Log.length : Int) < (w64 ((if (o0_v.Raft.Log.length : Int) < (if (w64 (x1_1 - 1)) < 0 then 0 else (w64 (x1_1 - 1))) then (o0_v.Raft.Log.length : Int) else (if (w64 (x1_1 - 1)) < 0 then 0 else (w64 (x1_1 - 1)))) + 4)) then (o0_v.Raft.Log.length : Int) else (w64 ((if (o0_v.Raft.Log.length : Int) < (if (w64 (x1_1 - 1)) < 0 then 0 else (w64 (x1_1 - 1))) then (o0_v.Raft.Log.length : Int) else (if (w64 (x1_1 - 1)) < 0 then 0 else (w64 (x1_1 - 1)))) + 4))) ∧ (if (o0_v.Raft.Log.length : Int) < (w64 ((if (o0_v.Raft.Log.length : Int) < (if (w64 (x1_1 - 1)) < 0 then 0 else (w64 (x1_1 - 1))) then (o0_v.Raft.Log.length : Int) else (if (w64 (x1_1 - 1)) < 0 then 0 else (w64 (x1_1 - 1)))) + 4)) then (o0_v.Raft.Log.length : Int) else (w64 ((if (o0_v.Raft.Log.length : Int) < (if (w64 (x1_1 - 1)) < 0 then 0 else (w64 (x1_1 - 1))) then (o0_v.Raft.Log.length : Int) else (if (w64 (x1_1 - 1)) < 0 then 0 else (w64 (x1_1 - 1)))) + 4))) ≤ (o0_v.Raft.Log.length : Int))) <|
  bd (ulog_Term o0_v.Raft.Log (if (o0_v.Raft.Log.length : Int) < (if (w64 (x1_1 - 1)) < 0 then 0 else (w64 (x1_1 - 1))) then (o0_v.Raft.Log.length : Int) else (if (w64 (x1_1 - 1)) < 0 then 0 else (w64 (x1_1 - 1))))) fun r3_1 =>
  bd (raft_entries fu (List.drop (if (o0_v.Raft.Log.length : Int) < (if (w64 (x1_1 - 1)) < 0 then 0 else (w64 (x1_1 - 1))) then (o0_v.Raft.Log.length : Int) else (if (w64 (x1_1 - 1)) < 0 then 0 else (w64 (x1_1 - 1)))).toNat (List.take (if (o0_v.Raft.Log.length : Int) < (w64 ((if (o0_v.Raft.Log.length : Int) < (if (w64 (x1_1 - 1)) < 0 then 0 else (w64 (x1_1 - 1))) then (o0_v.Raft.Log.length : Int) else (if (w64 (x1_1 - 1)) < 0 then 0 else (w64 (x1_1 - 1)))) + 4)) then (o0_v.Raft.Log.length : Int) else (w64 ((if (o0_v.Raft.Log.length : Int) < (if (w64 (x1_1 - 1)) < 0 then 0 else (w64 (x1_1 - 1))) then (o0_v.Raft.Log.length : Int) else (if (w64 (x1_1 - 1)) < 0 then 0 else (w64 (x1_1 - 1)))) + 4))).toNat o0_v.Raft.Log))) fun r3_3 =>
  bd (raft_member_sends to (TMsg.mk 3 0 0 0 0 (if (o0_v.Raft.Log.length : Int) < (if (w64 (x1_1 - 1)) < 0 then 0 else (w64 (x1_1 - 1))) then (o0_v.Raft.Log.length : Int) else (if (w64 (x1_1 - 1)) < 0 then 0 else (w64 (x1_1 - 1)))) r3_1 o0_v.Raft.Commit false r3_3 (TTxn.mk 0 0 [] []) 0 0 0 0 false ByteArray.empty ByteArray.empty [] [] 0) o0_v) fun r3_5 =>
  some r3_5
theorem raft_member_more.meets (fu : Nat) (to : Int) (o0_v : TMember) (z0 : TMember) (h : raft_member_more fu to o0_v = some z0) : Meets Try.prog ⟨75, [.ptr 1000 0, iv to], [(TMember.ob_00000100011101 o0_v)]⟩ ⟨.tup [], [(TMember.ob_00000000011101 z0)]⟩ := by
  refine meets_of (O := raft_member_more.O) hmix (fn := Try.f75) (code := bd75) (by kernel_rfl) ?_
  refine WK.weak (l := [(.t 0, [.ptr 1000 0]), (.t 1, [iv to]), (.o 1000, (TMember.ob_00000100011101 o0_v))]) (wk_of (by kernel_rfl)) ?_
  unfold raft_member_more at h
  obtain ⟨x1_1, a1_2, e1_3, h⟩ := ix_inv h
  refine WK.rs (g := [.c (e_i64 x1_1), .s (.t 22) [iv (o0_v.Raft.Log.length : Int)]]) (l' := [(.t 0, [.ptr 1000 0]), (.t 1, [iv to]), (.t 4, [iv (if (o0_v.Raft.Log.length : Int) < (if (w64 (x1_1 - 1)) < 0 then 0 else (w64 (x1_1 - 1))) then (o0_v.Raft.Log.length : Int) else (if (w64 (x1_1 - 1)) < 0 then 0 else (w64 (x1_1 - 1))))]), (.o 1000, (TMember.ob_00000100011101 o0_v))]) (by kernel_rfl) (.cons (c_ix (e := e_i64) a1_2 e1_3) (.cons (c_el (e := e_i64) e1_3) (.cons (c_len (e := TEntry.en) (l := o0_v.Raft.Log)) (.cons (Eq.refl true) .nil)))) (by kernel_rfl) ?_
  refine WK.shareO (i := 1000) (cc := 5) (l' := [(.t 0, [.ptr 1000 0]), (.t 1, [iv to]), (.t 4, [iv (if (o0_v.Raft.Log.length : Int) < (if (w64 (x1_1 - 1)) < 0 then 0 else (w64 (x1_1 - 1))) then (o0_v.Raft.Log.length : Int) else (if (w64 (x1_1 - 1)) < 0 then 0 else (w64 (x1_1 - 1))))]), (.o 1000, (TMember.ob_00000000011101 o0_v))]) (by kernel_rfl) (by kernel_rfl) (by kernel_rfl) ?_
  obtain ⟨c2_1, h⟩ := gd_inv h
  refine WK.rs (g := [.s (.t 37) [iv (o0_v.Raft.Log.length : Int)], .s (.t 39) [.data (.slc false none 6 (List.map TEntry.en (List.drop (if (o0_v.Raft.Log.length : Int) < (if (w64 (x1_1 - 1)) < 0 then 0 else (w64 (x1_1 - 1))) then (o0_v.Raft.Log.length : Int) else (if (w64 (x1_1 - 1)) < 0 then 0 else (w64 (x1_1 - 1)))).toNat (List.take (if (o0_v.Raft.Log.length : Int) < (w64 ((if (o0_v.Raft.Log.length : Int) < (if (w64 (x1_1 - 1)) < 0 then 0 else (w64 (x1_1 - 1))) then (o0_v.Raft.Log.length : Int) else (if (w64 (x1_1 - 1)) < 0 then 0 else (w64 (x1_1 - 1)))) + 4)) then (o0_v.Raft.Log.length : Int) else (w64 ((if (o0_v.Raft.Log.length : Int) < (if (w64 (x1_1 - 1)) < 0 then 0 else (w64 (x1_1 - 1))) then (o0_v.Raft.Log.length : Int) else (if (w64 (x1_1 - 1)) < 0 then 0 else (w64 (x1_1 - 1)))) + 4))).toNat o0_v.Raft.Log))))]]) (l' := [(.t 0, [.ptr 1000 0]), (.t 1, [iv to]), (.t 4, [iv (if (o0_v.Raft.Log.length : Int) < (if (w64 (x1_1 - 1)) < 0 then 0 else (w64 (x1_1 - 1))) then (o0_v.Raft.Log.length : Int) else (if (w64 (x1_1 - 1)) < 0 then 0 else (w64 (x1_1 - 1))))]), (.t 5, [.data (.slc false none 6 (List.map TEntry.en (List.drop (if (o0_v.Raft.Log.length : Int) < (if (w64 (x1_1 - 1)) < 0 then 0 else (w64 (x1_1 - 1))) then (o0_v.Raft.Log.length : Int) else (if (w64 (x1_1 - 1)) < 0 then 0 else (w64 (x1_1 - 1)))).toNat (List.take (if (o0_v.Raft.Log.length : Int) < (w64 ((if (o0_v.Raft.Log.length : Int) < (if (w64 (x1_1 - 1)) < 0 then 0 else (w64 (x1_1 - 1))) then (o0_v.Raft.Log.length : Int) else (if (w64 (x1_1 - 1)) < 0 then 0 else (w64 (x1_1 - 1)))) + 4)) then (o0_v.Raft.Log.length : Int) else (w64 ((if (o0_v.Raft.Log.length : Int) < (if (w64 (x1_1 - 1)) < 0 then 0 else (w64 (x1_1 - 1))) then (o0_v.Raft.Log.length : Int) else (if (w64 (x1_1 - 1)) < 0 then 0 else (w64 (x1_1 - 1)))) + 4))).toNat o0_v.Raft.Log))))]), (.o 1000, (TMember.ob_00000000011101 o0_v))]) (by kernel_rfl) (.cons (c_len (e := TEntry.en) (l := o0_v.Raft.Log)) (.cons (c_cb (e := TEntry.en) c2_1) (.cons (congrArg (fun d : DV => [AV.data d]) (c_cut (own := false) (nl := none) (s := 6) (e := TEntry.en) (l := o0_v.Raft.Log) (lo := (if (o0_v.Raft.Log.length : Int) < (if (w64 (x1_1 - 1)) < 0 then 0 else (w64 (x1_1 - 1))) then (o0_v.Raft.Log.length : Int) else (if (w64 (x1_1 - 1)) < 0 then 0 else (w64 (x1_1 - 1)))).toNat) (h := (if (o0_v.Raft.Log.length : Int) < (w64 ((if (o0_v.Raft.Log.length : Int) < (if (w64 (x1_1 - 1)) < 0 then 0 else (w64 (x1_1 - 1))) then (o0_v.Raft.Log.length : Int) else (if (w64 (x1_1 - 1)) < 0 then 0 else (w64 (x1_1 - 1)))) + 4)) then (o0_v.Raft.Log.length : Int) else (w64 ((if (o0_v.Raft.Log.length : Int) < (if (w64 (x1_1 - 1)) < 0 then 0 else (w64 (x1_1 - 1))) then (o0_v.Raft.Log.length : Int) else (if (w64 (x1_1 - 1)) < 0 then 0 else (w64 (x1_1 - 1)))) + 4))).toNat))) (.cons (Eq.refl true) .nil)))) (by kernel_rfl) ?_
  obtain ⟨r3_1, h3_2, h⟩ := bd_inv h
  obtain ⟨r3_3, h3_4, h⟩ := bd_inv h
  obtain ⟨r3_5, h3_6, h⟩ := bd_inv h
  have h_ := some_inj h
  subst h_
  exact WK.rf (g := [.a ⟨iv r3_1, []⟩, .a ⟨.data (.slc true none 6 (List.map TEntry.en r3_3)), []⟩, .a ⟨.tup [], [(TMember.ob_00000000011101 r3_5)]⟩]) (.cons (Asks.of (C := Meets Try.prog) (ulog_Term.meets o0_v.Raft.Log (if (o0_v.Raft.Log.length : Int) < (if (w64 (x1_1 - 1)) < 0 then 0 else (w64 (x1_1 - 1))) then (o0_v.Raft.Log.length : Int) else (if (w64 (x1_1 - 1)) < 0 then 0 else (w64 (x1_1 - 1)))) _ h3_2)) (.cons (Asks.of (C := Meets Try.prog) (raft_entries.meets fu (List.drop (if (o0_v.Raft.Log.length : Int) < (if (w64 (x1_1 - 1)) < 0 then 0 else (w64 (x1_1 - 1))) then (o0_v.Raft.Log.length : Int) else (if (w64 (x1_1 - 1)) < 0 then 0 else (w64 (x1_1 - 1)))).toNat (List.take (if (o0_v.Raft.Log.length : Int) < (w64 ((if (o0_v.Raft.Log.length : Int) < (if (w64 (x1_1 - 1)) < 0 then 0 else (w64 (x1_1 - 1))) then (o0_v.Raft.Log.length : Int) else (if (w64 (x1_1 - 1)) < 0 then 0 else (w64 (x1_1 - 1)))) + 4)) then (o0_v.Raft.Log.length : Int) else (w64 ((if (o0_v.Raft.Log.length : Int) < (if (w64 (x1_1 - 1)) < 0 then 0 else (w64 (x1_1 - 1))) then (o0_v.Raft.Log.length : Int) else (if (w64 (x1_1 - 1)) < 0 then 0 else (w64 (x1_1 - 1)))) + 4))).toNat o0_v.Raft.Log)) _ h3_4)) (.cons (Asks.of (C := Meets Try.prog) (raft_member_sends.meets to (TMsg.mk 3 0 0 0 0 (if (o0_v.Raft.Log.length : Int) < (if (w64 (x1_1 - 1)) < 0 then 0 else (w64 (x1_1 - 1))) then (o0_v.Raft.Log.length : Int) else (if (w64 (x1_1 - 1)) < 0 then 0 else (w64 (x1_1 - 1)))) r3_1 o0_v.Raft.Commit false r3_3 (TTxn.mk 0 0 [] []) 0 0 0 0 false ByteArray.empty ByteArray.empty [] [] 0) o0_v _ h3_6)) (.cons (Eq.refl true) .nil)))) (by kernel_rfl) (by kernel_rfl)
/-- (*diwan/raft.member).more -/
def raft_member_more_2.O : Nat → Nat := fun t => bif ([4, 5, 57] : List Nat).any (Nat.beq t) then 1 else 0
noncomputable def raft_member_more_2 (fu : Nat) (to : Int) (o0_v : TMember) : Option TMember :=
  ix o0_v.Raft.Next (w64 (to - 1)) fun x1_1 =>
  gd (decide ((0 : Int) ≤ (if (o0_v.Raft.Log.length : Int) < (if (w64 (x1_1 - 1)) < 0 then 0 else (w64 (x1_1 - 1))) then (o0_v.Raft.Log.length : Int) else (if (w64 (x1_1 - 1)) < 0 then 0 else (w64 (x1_1 - 1)))) ∧ (if (o0_v.Raft.Log.length : Int) < (if (w64 (x1_1 - 1)) < 0 then 0 else (w64 (x1_1 - 1))) then (o0_v.Raft.Log.length : Int) else (if (w64 (x1_1 - 1)) < 0 then 0 else (w64 (x1_1 - 1)))) ≤ (if (o0_v.Raft.Log.length : Int) < (w64 ((if (o0_v.Raft.Log.length : Int) < (if (w64 (x1_1 - 1)) < 0 then 0 else (w64 (x1_1 - 1))) then (o0_v.Raft.Log.length : Int) else (if (w64 (x1_1 - 1)) < 0 then 0 else (w64 (x1_1 - 1)))) + 4)) then (o0_v.Raft.Log.length : Int) else (w64 ((if (o0_v.Raft.Log.length : Int) < (if (w64 (x1_1 - 1)) < 0 then 0 else (w64 (x1_1 - 1))) then (o0_v.Raft.Log.length : Int) else (if (w64 (x1_1 - 1)) < 0 then 0 else (w64 (x1_1 - 1)))) + 4))) ∧ (if (o0_v.Raft.Log.length : Int) < (w64 ((if (o0_v.Raft.Log.length : Int) < (if (w64 (x1_1 - 1)) < 0 then 0 else (w64 (x1_1 - 1))) then (o0_v.Raft.Log.length : Int) else (if (w64 (x1_1 - 1)) < 0 then 0 else (w64 (x1_1 - 1)))) + 4)) then (o0_v.Raft.Log.length : Int) else (w64 ((if (o0_v.Raft.Log.length : Int) < (if (w64 (x1_1 - 1)) < 0 then 0 else (w64 (x1_1 - 1))) then (o0_v.Raft.Log.length : Int) else (if (w64 (x1_1 - 1)) < 0 then 0 else (w64 (x1_1 - 1)))) + 4))) ≤ (o0_v.Raft.Log.length : Int))) <|
  bd (ulog_Term o0_v.Raft.Log (if (o0_v.Raft.Log.length : Int) < (if (w64 (x1_1 - 1)) < 0 then 0 else (w64 (x1_1 - 1))) then (o0_v.Raft.Log.length : Int) else (if (w64 (x1_1 - 1)) < 0 then 0 else (w64 (x1_1 - 1))))) fun r3_1 =>
  bd (raft_entries fu (List.drop (if (o0_v.Raft.Log.length : Int) < (if (w64 (x1_1 - 1)) < 0 then 0 else (w64 (x1_1 - 1))) then (o0_v.Raft.Log.length : Int) else (if (w64 (x1_1 - 1)) < 0 then 0 else (w64 (x1_1 - 1)))).toNat (List.take (if (o0_v.Raft.Log.length : Int) < (w64 ((if (o0_v.Raft.Log.length : Int) < (if (w64 (x1_1 - 1)) < 0 then 0 else (w64 (x1_1 - 1))) then (o0_v.Raft.Log.length : Int) else (if (w64 (x1_1 - 1)) < 0 then 0 else (w64 (x1_1 - 1)))) + 4)) then (o0_v.Raft.Log.length : Int) else (w64 ((if (o0_v.Raft.Log.length : Int) < (if (w64 (x1_1 - 1)) < 0 then 0 else (w64 (x1_1 - 1))) then (o0_v.Raft.Log.length : Int) else (if (w64 (x1_1 - 1)) < 0 then 0 else (w64 (x1_1 - 1)))) + 4))).toNat o0_v.Raft.Log))) fun r3_3 =>
  bd (raft_member_sends to (TMsg.mk 3 0 0 0 0 (if (o0_v.Raft.Log.length : Int) < (if (w64 (x1_1 - 1)) < 0 then 0 else (w64 (x1_1 - 1))) then (o0_v.Raft.Log.length : Int) else (if (w64 (x1_1 - 1)) < 0 then 0 else (w64 (x1_1 - 1)))) r3_1 o0_v.Raft.Commit false r3_3 (TTxn.mk 0 0 [] []) 0 0 0 0 false ByteArray.empty ByteArray.empty [] [] 0) o0_v) fun r3_5 =>
  some r3_5
theorem raft_member_more_2.meets (fu : Nat) (to : Int) (o0_v : TMember) (z0 : TMember) (h : raft_member_more_2 fu to o0_v = some z0) : Meets Try.prog ⟨75, [.ptr 1000 0, iv to], [(TMember.ob_00000000011101 o0_v)]⟩ ⟨.tup [], [(TMember.ob_00000000011101 z0)]⟩ := by
  refine meets_of (O := raft_member_more_2.O) hmix (fn := Try.f75) (code := bd75) (by kernel_rfl) ?_
  refine WK.weak (l := [(.t 0, [.ptr 1000 0]), (.t 1, [iv to]), (.o 1000, (TMember.ob_00000000011101 o0_v))]) (wk_of (by kernel_rfl)) ?_
  unfold raft_member_more_2 at h
  obtain ⟨x1_1, a1_2, e1_3, h⟩ := ix_inv h
  refine WK.rs (g := [.c (e_i64 x1_1), .s (.t 22) [iv (o0_v.Raft.Log.length : Int)]]) (l' := [(.t 0, [.ptr 1000 0]), (.t 1, [iv to]), (.t 4, [iv (if (o0_v.Raft.Log.length : Int) < (if (w64 (x1_1 - 1)) < 0 then 0 else (w64 (x1_1 - 1))) then (o0_v.Raft.Log.length : Int) else (if (w64 (x1_1 - 1)) < 0 then 0 else (w64 (x1_1 - 1))))]), (.o 1000, (TMember.ob_00000000011101 o0_v))]) (by kernel_rfl) (.cons (c_ix (e := e_i64) a1_2 e1_3) (.cons (c_el (e := e_i64) e1_3) (.cons (c_len (e := TEntry.en) (l := o0_v.Raft.Log)) (.cons (Eq.refl true) .nil)))) (by kernel_rfl) ?_
  obtain ⟨c2_1, h⟩ := gd_inv h
  refine WK.rs (g := [.s (.t 37) [iv (o0_v.Raft.Log.length : Int)], .s (.t 39) [.data (.slc false none 6 (List.map TEntry.en (List.drop (if (o0_v.Raft.Log.length : Int) < (if (w64 (x1_1 - 1)) < 0 then 0 else (w64 (x1_1 - 1))) then (o0_v.Raft.Log.length : Int) else (if (w64 (x1_1 - 1)) < 0 then 0 else (w64 (x1_1 - 1)))).toNat (List.take (if (o0_v.Raft.Log.length : Int) < (w64 ((if (o0_v.Raft.Log.length : Int) < (if (w64 (x1_1 - 1)) < 0 then 0 else (w64 (x1_1 - 1))) then (o0_v.Raft.Log.length : Int) else (if (w64 (x1_1 - 1)) < 0 then 0 else (w64 (x1_1 - 1)))) + 4)) then (o0_v.Raft.Log.length : Int) else (w64 ((if (o0_v.Raft.Log.length : Int) < (if (w64 (x1_1 - 1)) < 0 then 0 else (w64 (x1_1 - 1))) then (o0_v.Raft.Log.length : Int) else (if (w64 (x1_1 - 1)) < 0 then 0 else (w64 (x1_1 - 1)))) + 4))).toNat o0_v.Raft.Log))))]]) (l' := [(.t 0, [.ptr 1000 0]), (.t 1, [iv to]), (.t 4, [iv (if (o0_v.Raft.Log.length : Int) < (if (w64 (x1_1 - 1)) < 0 then 0 else (w64 (x1_1 - 1))) then (o0_v.Raft.Log.length : Int) else (if (w64 (x1_1 - 1)) < 0 then 0 else (w64 (x1_1 - 1))))]), (.t 5, [.data (.slc false none 6 (List.map TEntry.en (List.drop (if (o0_v.Raft.Log.length : Int) < (if (w64 (x1_1 - 1)) < 0 then 0 else (w64 (x1_1 - 1))) then (o0_v.Raft.Log.length : Int) else (if (w64 (x1_1 - 1)) < 0 then 0 else (w64 (x1_1 - 1)))).toNat (List.take (if (o0_v.Raft.Log.length : Int) < (w64 ((if (o0_v.Raft.Log.length : Int) < (if (w64 (x1_1 - 1)) < 0 then 0 else (w64 (x1_1 - 1))) then (o0_v.Raft.Log.length : Int) else (if (w64 (x1_1 - 1)) < 0 then 0 else (w64 (x1_1 - 1)))) + 4)) then (o0_v.Raft.Log.length : Int) else (w64 ((if (o0_v.Raft.Log.length : Int) < (if (w64 (x1_1 - 1)) < 0 then 0 else (w64 (x1_1 - 1))) then (o0_v.Raft.Log.length : Int) else (if (w64 (x1_1 - 1)) < 0 then 0 else (w64 (x1_1 - 1)))) + 4))).toNat o0_v.Raft.Log))))]), (.o 1000, (TMember.ob_00000000011101 o0_v))]) (by kernel_rfl) (.cons (c_len (e := TEntry.en) (l := o0_v.Raft.Log)) (.cons (c_cb (e := TEntry.en) c2_1) (.cons (congrArg (fun d : DV => [AV.data d]) (c_cut (own := false) (nl := none) (s := 6) (e := TEntry.en) (l := o0_v.Raft.Log) (lo := (if (o0_v.Raft.Log.length : Int) < (if (w64 (x1_1 - 1)) < 0 then 0 else (w64 (x1_1 - 1))) then (o0_v.Raft.Log.length : Int) else (if (w64 (x1_1 - 1)) < 0 then 0 else (w64 (x1_1 - 1)))).toNat) (h := (if (o0_v.Raft.Log.length : Int) < (w64 ((if (o0_v.Raft.Log.length : Int) < (if (w64 (x1_1 - 1)) < 0 then 0 else (w64 (x1_1 - 1))) then (o0_v.Raft.Log.length : Int) else (if (w64 (x1_1 - 1)) < 0 then 0 else (w64 (x1_1 - 1)))) + 4)) then (o0_v.Raft.Log.length : Int) else (w64 ((if (o0_v.Raft.Log.length : Int) < (if (w64 (x1_1 - 1)) < 0 then 0 else (w64 (x1_1 - 1))) then (o0_v.Raft.Log.length : Int) else (if (w64 (x1_1 - 1)) < 0 then 0 else (w64 (x1_1 - 1)))) + 4))).toNat))) (.cons (Eq.refl true) .nil)))) (by kernel_rfl) ?_
  obtain ⟨r3_1, h3_2, h⟩ := bd_inv h
  obtain ⟨r3_3, h3_4, h⟩ := bd_inv h
  obtain ⟨r3_5, h3_6, h⟩ := bd_inv h
  have h_ := some_inj h
  subst h_
  exact WK.rf (g := [.a ⟨iv r3_1, []⟩, .a ⟨.data (.slc true none 6 (List.map TEntry.en r3_3)), []⟩, .a ⟨.tup [], [(TMember.ob_00000000011101 r3_5)]⟩]) (.cons (Asks.of (C := Meets Try.prog) (ulog_Term.meets o0_v.Raft.Log (if (o0_v.Raft.Log.length : Int) < (if (w64 (x1_1 - 1)) < 0 then 0 else (w64 (x1_1 - 1))) then (o0_v.Raft.Log.length : Int) else (if (w64 (x1_1 - 1)) < 0 then 0 else (w64 (x1_1 - 1)))) _ h3_2)) (.cons (Asks.of (C := Meets Try.prog) (raft_entries.meets fu (List.drop (if (o0_v.Raft.Log.length : Int) < (if (w64 (x1_1 - 1)) < 0 then 0 else (w64 (x1_1 - 1))) then (o0_v.Raft.Log.length : Int) else (if (w64 (x1_1 - 1)) < 0 then 0 else (w64 (x1_1 - 1)))).toNat (List.take (if (o0_v.Raft.Log.length : Int) < (w64 ((if (o0_v.Raft.Log.length : Int) < (if (w64 (x1_1 - 1)) < 0 then 0 else (w64 (x1_1 - 1))) then (o0_v.Raft.Log.length : Int) else (if (w64 (x1_1 - 1)) < 0 then 0 else (w64 (x1_1 - 1)))) + 4)) then (o0_v.Raft.Log.length : Int) else (w64 ((if (o0_v.Raft.Log.length : Int) < (if (w64 (x1_1 - 1)) < 0 then 0 else (w64 (x1_1 - 1))) then (o0_v.Raft.Log.length : Int) else (if (w64 (x1_1 - 1)) < 0 then 0 else (w64 (x1_1 - 1)))) + 4))).toNat o0_v.Raft.Log)) _ h3_4)) (.cons (Asks.of (C := Meets Try.prog) (raft_member_sends.meets to (TMsg.mk 3 0 0 0 0 (if (o0_v.Raft.Log.length : Int) < (if (w64 (x1_1 - 1)) < 0 then 0 else (w64 (x1_1 - 1))) then (o0_v.Raft.Log.length : Int) else (if (w64 (x1_1 - 1)) < 0 then 0 else (w64 (x1_1 - 1)))) r3_1 o0_v.Raft.Commit false r3_3 (TTxn.mk 0 0 [] []) 0 0 0 0 false ByteArray.empty ByteArray.empty [] [] 0) o0_v _ h3_6)) (.cons (Eq.refl true) .nil)))) (by kernel_rfl) (by kernel_rfl)
/-- (*diwan/raft.member).all -/
noncomputable def bd74 : Code := (Try.f74.body).getD .skip
def raft_member_all.O : Nat → Nat := fun t => bif ([4] : List Nat).any (Nat.beq t) then 1 else 0
noncomputable def raft_member_all.lp2 (fu : Nat) : Nat → Int → TMember → Option TMember
  | 0, _, _ => none
  | n_ + 1, l2_0, l2_1 =>
    br (decide (l2_0 ≤ l2_1.Raft.Nodes))
      (br (l2_0 != l2_1.Raft.Me)
        (bd (raft_member_more_2 fu l2_0 l2_1) fun r7_1 =>
        raft_member_all.lp2 fu n_ (w64 (l2_0 + 1)) r7_1)
        (raft_member_all.lp2 fu n_ (w64 (l2_0 + 1)) l2_1))
      (some l2_1)
noncomputable def raft_member_all.lp2_post (r_ : TMember) : Wy → St → Prop := fun e τ => match r_ with
  | y0 => e = .exit 0 ∧ τ = ofL [(.o 1000, (TMember.ob_00000000011101 y0))]
theorem raft_member_all.lp2_ok (fu : Nat) : ∀ (n_ : Nat) (l2_0 : Int) (l2_1 : TMember) (r_ : TMember), raft_member_all.lp2 fu n_ l2_0 l2_1 = some r_ → WK Try.prog raft_member_all.O (Ck Try.prog) (cB (cR bd74)) [] (ofL [(.t 0, [.ptr 1000 0]), (.t 1, [.fn (.func 75) [.ptr 1000 0] []]), (.t 4, [iv l2_0]), (.o 1000, (TMember.ob_00000000011101 l2_1))]) (raft_member_all.lp2_post r_) := by
  intro n_
  induction n_ with
  | zero => intro l2_0 l2_1 r_ h; exact no_none h
  | succ n_ ih =>
    intro l2_0 l2_1 r_ h
    refine WK.loop (by kernel_rfl) ?_
    refine WK.seq (by kernel_rfl) ?_
    refine WK.rs (g := []) (l' := [(.t 0, [.ptr 1000 0]), (.t 1, [.fn (.func 75) [.ptr 1000 0] []]), (.t 4, [iv l2_0]), (.t 11, [bv (decide (l2_0 ≤ l2_1.Raft.Nodes))]), (.o 1000, (TMember.ob_00000000011101 l2_1))]) (by kernel_rfl) .nil (by kernel_rfl) ?_
    rcases br_inv h with ⟨b4_0, h⟩ | ⟨b4_0, h⟩
    · refine WK.ct (b := (decide (l2_0 ≤ l2_1.Raft.Nodes))) (by kernel_rfl) b4_0 ?_
      refine WK.skip (by kernel_rfl) ?_
      refine WKe.code (y := (cR (cB (cB (cR bd74))))) (ks' := [.lp (cB (cR bd74))]) (by kernel_rfl) ?_
      refine WK.seq (by kernel_rfl) ?_
      refine WK.block (n := 1) (by kernel_rfl) ?_
      refine WK.rs (g := []) (l' := [(.t 0, [.ptr 1000 0]), (.t 1, [.fn (.func 75) [.ptr 1000 0] []]), (.t 4, [iv l2_0]), (.t 20, [bv (l2_0 != l2_1.Raft.Me)]), (.o 1000, (TMember.ob_00000000011101 l2_1))]) (by kernel_rfl) .nil (by kernel_rfl) ?_
      rcases br_inv h with ⟨b6_0, h⟩ | ⟨b6_0, h⟩
      · refine WK.ct (b := (l2_0 != l2_1.Raft.Me)) (by kernel_rfl) b6_0 ?_
        obtain ⟨r7_1, h7_2, h⟩ := bd_inv h
        refine WK.rc (g := [.a ⟨.tup [], [(TMember.ob_00000000011101 r7_1)]⟩]) (l' := [(.t 0, [.ptr 1000 0]), (.t 1, [.fn (.func 75) [.ptr 1000 0] []]), (.t 4, [iv l2_0]), (.o 1000, (TMember.ob_00000000011101 r7_1))]) (.cons (Asks.of (C := Meets Try.prog) (raft_member_more_2.meets fu l2_0 l2_1 _ h7_2)) .nil) (by kernel_rfl) (y := (cR (cR (cB (cB (cR bd74)))))) (ks' := [.lp (cB (cR bd74))]) (by kernel_rfl) ?_
        refine WK.rc (g := []) (l' := [(.t 0, [.ptr 1000 0]), (.t 1, [.fn (.func 75) [.ptr 1000 0] []]), (.t 4, [iv (w64 (l2_0 + 1))]), (.o 1000, (TMember.ob_00000000011101 r7_1))]) .nil (by kernel_rfl) (y := (cB (cR bd74))) (ks' := []) (by kernel_rfl) ?_
        exact WK.weak (l := [(.t 0, [.ptr 1000 0]), (.t 1, [.fn (.func 75) [.ptr 1000 0] []]), (.t 4, [iv (w64 (l2_0 + 1))]), (.o 1000, (TMember.ob_00000000011101 r7_1))]) (wk_of (by kernel_rfl)) (ih (w64 (l2_0 + 1)) r7_1 _ h)
      · refine WK.ce (b := (l2_0 != l2_1.Raft.Me)) (by kernel_rfl) b6_0 ?_
        refine WK.skip (by kernel_rfl) ?_
        refine WKe.code (y := (cR (cR (cB (cB (cR bd74)))))) (ks' := [.lp (cB (cR bd74))]) (by kernel_rfl) ?_
        refine WK.rc (g := []) (l' := [(.t 0, [.ptr 1000 0]), (.t 1, [.fn (.func 75) [.ptr 1000 0] []]), (.t 4, [iv (w64 (l2_0 + 1))]), (.o 1000, (TMember.ob_00000000011101 l2_1))]) .nil (by kernel_rfl) (y := (cB (cR bd74))) (ks' := []) (by kernel_rfl) ?_
        exact WK.weak (l := [(.t 0, [.ptr 1000 0]), (.t 1, [.fn (.func 75) [.ptr 1000 0] []]), (.t 4, [iv (w64 (l2_0 + 1))]), (.o 1000, (TMember.ob_00000000011101 l2_1))]) (wk_of (by kernel_rfl)) (ih (w64 (l2_0 + 1)) l2_1 _ h)
    · refine WK.ce (b := (decide (l2_0 ≤ l2_1.Raft.Nodes))) (by kernel_rfl) b4_0 ?_
      refine WK.weak (l := [(.o 1000, (TMember.ob_00000000011101 l2_1))]) (wk_of (by kernel_rfl)) ?_
      refine WK.exit (n := 0) (by kernel_rfl) ?_
      cases some_inj h
      exact WKe.fin (e' := .exit 0) (by kernel_rfl) ⟨rfl, rfl⟩
noncomputable def raft_member_all (fu : Nat) (o0_v : TMember) : Option TMember :=
  bd (raft_member_all.lp2 fu fu 1 o0_v) fun y10_0 =>
  some y10_0
theorem raft_member_all.meets (fu : Nat) (o0_v : TMember) (z0 : TMember) (h : raft_member_all fu o0_v = some z0) : Meets Try.prog ⟨74, [.ptr 1000 0, .fn (.func 75) [.ptr 1000 0] []], [(TMember.ob_00000100011101 o0_v)]⟩ ⟨.tup [], [(TMember.ob_00000000011101 z0)]⟩ := by
  refine meets_of (O := raft_member_all.O) hmix (fn := Try.f74) (code := bd74) (by kernel_rfl) ?_
  refine WK.weak (l := [(.t 0, [.ptr 1000 0]), (.t 1, [.fn (.func 75) [.ptr 1000 0] []]), (.o 1000, (TMember.ob_00000100011101 o0_v))]) (wk_of (by kernel_rfl)) ?_
  unfold raft_member_all at h
  refine WK.rs (g := []) (l' := [(.t 0, [.ptr 1000 0]), (.t 1, [.fn (.func 75) [.ptr 1000 0] []]), (.t 4, [iv 1]), (.o 1000, (TMember.ob_00000100011101 o0_v))]) (by kernel_rfl) .nil (by kernel_rfl) ?_
  refine WK.block (n := 0) (by kernel_rfl) ?_
  obtain ⟨o10, ho10, h⟩ := bd_inv h
  refine WK.shareO (i := 1000) (cc := 5) (l' := [(.t 0, [.ptr 1000 0]), (.t 1, [.fn (.func 75) [.ptr 1000 0] []]), (.t 4, [iv 1]), (.o 1000, (TMember.ob_00000000011101 o0_v))]) (by kernel_rfl) (by kernel_rfl) (by kernel_rfl) ?_
  refine WK.weak (l := [(.t 0, [.ptr 1000 0]), (.t 1, [.fn (.func 75) [.ptr 1000 0] []]), (.t 4, [iv 1]), (.o 1000, (TMember.ob_00000000011101 o0_v))]) (wk_of (by kernel_rfl)) ?_
  refine WK.use (raft_member_all.lp2_ok fu _ 1 o0_v _ ho10) ?_
  intro e_ τ_ hp_
  obtain ⟨y10_0, rfl⟩ : ∃ y, y = o10 := ⟨_, rfl⟩
  obtain ⟨rfl, rfl⟩ := hp_
  have h_ := some_inj h
  subst h_
  exact WKe.fin (e' := .normal) (by kernel_rfl) (fin_of (g := []) (by first | exact .inl rfl | exact .inr rfl) .nil (by kernel_rfl))
/-- (*diwan/raft.member).told -/
noncomputable def bd47 : Code := (Try.f47.body).getD .skip
def raft_member_told.O : Nat → Nat := fun t => bif ([] : List Nat).any (Nat.beq t) then 1 else 0
noncomputable def raft_member_told (fu : Nat) (o0_v : TMember) : Option TMember :=
  bd (raft_member_all fu o0_v) fun r1_1 =>
  some r1_1
theorem raft_member_told.meets (fu : Nat) (o0_v : TMember) (z0 : TMember) (h : raft_member_told fu o0_v = some z0) : Meets Try.prog ⟨47, [.ptr 1000 0], [(TMember.ob_00000100011101 o0_v)]⟩ ⟨.tup [], [(TMember.ob_00000000011101 z0)]⟩ := by
  refine meets_of (O := raft_member_told.O) hmix (fn := Try.f47) (code := bd47) (by kernel_rfl) ?_
  refine WK.weak (l := [(.t 0, [.ptr 1000 0]), (.o 1000, (TMember.ob_00000100011101 o0_v))]) (wk_of (by kernel_rfl)) ?_
  unfold raft_member_told at h
  obtain ⟨r1_1, h1_2, h⟩ := bd_inv h
  have h_ := some_inj h
  subst h_
  exact WK.rf (g := [.a ⟨.tup [], [(TMember.ob_00000000011101 r1_1)]⟩]) (.cons (Asks.of (C := Meets Try.prog) (raft_member_all.meets fu o0_v _ h1_2)) .nil) (by kernel_rfl) (by kernel_rfl)
/-- diwan/ballot.Many -/
noncomputable def bd98 : Code := (Try.f98.body).getD .skip
def ballot_Many.O : Nat → Nat := fun t => bif ([2, 4] : List Nat).any (Nat.beq t) then 1 else 0
noncomputable def ballot_Many.lp3 (fu : Nat) (l3_1 : List Bool) (l3_2 : Int) : Nat → Int → Int → Option Int
  | 0, _, _ => none
  | n_ + 1, l3_0, l3_3 =>
    br (decide (l3_3 < l3_2))
      (ix l3_1 l3_3 fun x6_1 =>
      br x6_1
        (ballot_Many.lp3 fu l3_1 l3_2 n_ (w64 (l3_0 + 1)) (w64 (l3_3 + 1)))
        (ballot_Many.lp3 fu l3_1 l3_2 n_ l3_0 (w64 (l3_3 + 1))))
      (some l3_0)
noncomputable def ballot_Many.lp3_post (l3_1 : List Bool) (l3_2 : Int) (r_ : Int) : Wy → St → Prop := fun e τ => match r_ with
  | y0 => e = .exit 0 ∧ τ = ofL [(.t 2, [iv y0])]
theorem ballot_Many.lp3_ok (fu : Nat) (l3_1 : List Bool) (l3_2 : Int) : ∀ (n_ : Nat) (l3_0 : Int) (l3_3 : Int) (r_ : Int), ballot_Many.lp3 fu l3_1 l3_2 n_ l3_0 l3_3 = some r_ → WK Try.prog ballot_Many.O (Ck Try.prog) (cB (cR (cL (cR bd98)))) [] (ofL [(.t 2, [iv l3_0]), (.t 5, [.data (.slc false none 1 (List.map e_b l3_1))]), (.t 6, [iv l3_2]), (.t 7, [iv l3_3])]) (ballot_Many.lp3_post l3_1 l3_2 r_) := by
  intro n_
  induction n_ with
  | zero => intro l3_0 l3_3 r_ h; exact no_none h
  | succ n_ ih =>
    intro l3_0 l3_3 r_ h
    refine WK.loop (by kernel_rfl) ?_
    refine WK.rs (g := []) (l' := [(.t 2, [iv l3_0]), (.t 5, [.data (.slc false none 1 (List.map e_b l3_1))]), (.t 6, [iv l3_2]), (.t 7, [iv l3_3]), (.t 8, [bv (decide (l3_3 < l3_2))])]) (by kernel_rfl) .nil (by kernel_rfl) ?_
    refine WK.seq (by kernel_rfl) ?_
    rcases br_inv h with ⟨b5_0, h⟩ | ⟨b5_0, h⟩
    · refine WK.ct (b := (decide (l3_3 < l3_2))) (by kernel_rfl) b5_0 ?_
      refine WK.skip (by kernel_rfl) ?_
      refine WKe.code (y := (cR (cR (cB (cB (cR (cL (cR bd98)))))))) (ks' := [.lp (cB (cR (cL (cR bd98))))]) (by kernel_rfl) ?_
      refine WK.seq (by kernel_rfl) ?_
      refine WK.block (n := 1) (by kernel_rfl) ?_
      obtain ⟨x6_1, a6_2, e6_3, h⟩ := ix_inv h
      refine WK.rs (g := [.c (e_b x6_1)]) (l' := [(.t 2, [iv l3_0]), (.t 4, [bv x6_1]), (.t 5, [.data (.slc false none 1 (List.map e_b l3_1))]), (.t 6, [iv l3_2]), (.t 7, [iv l3_3])]) (by kernel_rfl) (.cons (c_ix (e := e_b) a6_2 e6_3) (.cons (c_el (e := e_b) e6_3) .nil)) (by kernel_rfl) ?_
      refine WK.rs (g := []) (l' := [(.t 2, [iv l3_0]), (.t 5, [.data (.slc false none 1 (List.map e_b l3_1))]), (.t 6, [iv l3_2]), (.t 7, [iv l3_3]), (.t 11, [bv x6_1])]) (by kernel_rfl) .nil (by kernel_rfl) ?_
      rcases br_inv h with ⟨b8_0, h⟩ | ⟨b8_0, h⟩
      · refine WK.ct (b := x6_1) (by kernel_rfl) b8_0 ?_
        refine WK.rc (g := []) (l' := [(.t 2, [iv (w64 (l3_0 + 1))]), (.t 5, [.data (.slc false none 1 (List.map e_b l3_1))]), (.t 6, [iv l3_2]), (.t 7, [iv l3_3])]) .nil (by kernel_rfl) (y := (cR (cR (cR (cB (cB (cR (cL (cR bd98))))))))) (ks' := [.lp (cB (cR (cL (cR bd98))))]) (by kernel_rfl) ?_
        refine WK.rc (g := []) (l' := [(.t 2, [iv (w64 (l3_0 + 1))]), (.t 5, [.data (.slc false none 1 (List.map e_b l3_1))]), (.t 6, [iv l3_2]), (.t 7, [iv (w64 (l3_3 + 1))])]) .nil (by kernel_rfl) (y := (cB (cR (cL (cR bd98))))) (ks' := []) (by kernel_rfl) ?_
        exact WK.weak (l := [(.t 2, [iv (w64 (l3_0 + 1))]), (.t 5, [.data (.slc false none 1 (List.map e_b l3_1))]), (.t 6, [iv l3_2]), (.t 7, [iv (w64 (l3_3 + 1))])]) (wk_of (by kernel_rfl)) (ih (w64 (l3_0 + 1)) (w64 (l3_3 + 1)) _ h)
      · refine WK.ce (b := x6_1) (by kernel_rfl) b8_0 ?_
        refine WK.skip (by kernel_rfl) ?_
        refine WKe.code (y := (cR (cR (cR (cB (cB (cR (cL (cR bd98))))))))) (ks' := [.lp (cB (cR (cL (cR bd98))))]) (by kernel_rfl) ?_
        refine WK.rc (g := []) (l' := [(.t 2, [iv l3_0]), (.t 5, [.data (.slc false none 1 (List.map e_b l3_1))]), (.t 6, [iv l3_2]), (.t 7, [iv (w64 (l3_3 + 1))])]) .nil (by kernel_rfl) (y := (cB (cR (cL (cR bd98))))) (ks' := []) (by kernel_rfl) ?_
        exact WK.weak (l := [(.t 2, [iv l3_0]), (.t 5, [.data (.slc false none 1 (List.map e_b l3_1))]), (.t 6, [iv l3_2]), (.t 7, [iv (w64 (l3_3 + 1))])]) (wk_of (by kernel_rfl)) (ih l3_0 (w64 (l3_3 + 1)) _ h)
    · refine WK.ce (b := (decide (l3_3 < l3_2))) (by kernel_rfl) b5_0 ?_
      refine WK.weak (l := [(.t 2, [iv l3_0])]) (wk_of (by kernel_rfl)) ?_
      refine WK.exit (n := 0) (by kernel_rfl) ?_
      cases some_inj h
      exact WKe.fin (e' := .exit 0) (by kernel_rfl) ⟨rfl, rfl⟩
noncomputable def ballot_Many (fu : Nat) (votes : List Bool) : Option Int :=
  bd (ballot_Many.lp3 fu votes (votes.length : Int) fu 0 0) fun y12_0 =>
  some y12_0
theorem ballot_Many.meets (fu : Nat) (votes : List Bool) (z0 : Int) (h : ballot_Many fu votes = some z0) : Meets Try.prog ⟨98, [.data (.slc false none 1 (List.map e_b votes))], []⟩ ⟨iv z0, []⟩ := by
  refine meets_of (O := ballot_Many.O) hmix (fn := Try.f98) (code := bd98) (by kernel_rfl) ?_
  refine WK.weak (l := [(.t 0, [.data (.slc false none 1 (List.map e_b votes))])]) (wk_of (by kernel_rfl)) ?_
  unfold ballot_Many at h
  refine WK.rs (g := []) (l' := [(.t 0, [.data (.slc false none 1 (List.map e_b votes))]), (.t 2, [iv 0])]) (by kernel_rfl) .nil (by kernel_rfl) ?_
  refine WK.seq (by kernel_rfl) ?_
  refine WK.rs (g := [.s (.t 6) [iv (votes.length : Int)]]) (l' := [(.t 2, [iv 0]), (.t 5, [.data (.slc false none 1 (List.map e_b votes))]), (.t 6, [iv (votes.length : Int)]), (.t 7, [iv 0])]) (by kernel_rfl) (.cons (c_len (e := e_b) (l := votes)) .nil) (by kernel_rfl) ?_
  refine WK.block (n := 0) (by kernel_rfl) ?_
  obtain ⟨o12, ho12, h⟩ := bd_inv h
  refine WK.weak (l := [(.t 2, [iv 0]), (.t 5, [.data (.slc false none 1 (List.map e_b votes))]), (.t 6, [iv (votes.length : Int)]), (.t 7, [iv 0])]) (wk_of (by kernel_rfl)) ?_
  refine WK.use (ballot_Many.lp3_ok fu votes (votes.length : Int) _ 0 0 _ ho12) ?_
  intro e_ τ_ hp_
  obtain ⟨y12_0, rfl⟩ : ∃ y, y = o12 := ⟨_, rfl⟩
  obtain ⟨rfl, rfl⟩ := hp_
  refine WKe.code (y := (cR (cR bd98))) (ks' := []) (by kernel_rfl) ?_
  refine WK.rs (g := []) (l' := [(.t 2, [iv y12_0])]) (by kernel_rfl) .nil (by kernel_rfl) ?_
  refine WK.weak (l := [(.t 2, [iv y12_0])]) (wk_of (by kernel_rfl)) ?_
  refine WK.ret (by kernel_rfl) ?_
  have h_ := some_inj h
  subst h_
  exact WKe.fin (e' := .ret) (by kernel_rfl) (fin_of (g := []) (by first | exact .inl rfl | exact .inr rfl) .nil (by kernel_rfl))
/-- diwan/ballot.Majority -/
noncomputable def bd39 : Code := (Try.f39.body).getD .skip
def ballot_Majority.O : Nat → Nat := fun t => bif ([2] : List Nat).any (Nat.beq t) then 1 else 0
noncomputable def ballot_Majority (n_v : Int) : Option Int :=
  some (w64 ((w64 (Int.tdiv n_v 2)) + 1))
theorem ballot_Majority.meets (n_v : Int) (z0 : Int) (h : ballot_Majority n_v = some z0) : Meets Try.prog ⟨39, [iv n_v], []⟩ ⟨iv z0, []⟩ := by
  refine meets_of (O := ballot_Majority.O) hmix (fn := Try.f39) (code := bd39) (by kernel_rfl) ?_
  refine WK.weak (l := [(.t 0, [iv n_v])]) (wk_of (by kernel_rfl)) ?_
  unfold ballot_Majority at h
  refine WK.rs (g := []) (l' := [(.t 0, [iv n_v])]) (by kernel_rfl) .nil (by kernel_rfl) ?_
  refine WK.rs (g := []) (l' := [(.t 2, [iv (w64 ((w64 (Int.tdiv n_v 2)) + 1))])]) (by kernel_rfl) (.cons (Eq.refl true) .nil) (by kernel_rfl) ?_
  refine WK.weak (l := [(.t 2, [iv (w64 ((w64 (Int.tdiv n_v 2)) + 1))])]) (wk_of (by kernel_rfl)) ?_
  refine WK.ret (by kernel_rfl) ?_
  have h_ := some_inj h
  subst h_
  exact WKe.fin (e' := .ret) (by kernel_rfl) (fin_of (g := []) (by first | exact .inl rfl | exact .inr rfl) .nil (by kernel_rfl))
/-- (diwan/ballot.heads).Len -/
noncomputable def bd104 : Code := (Try.f104.body).getD .skip
def ballot_heads_Len.O : Nat → Nat := fun t => bif ([2] : List Nat).any (Nat.beq t) then 1 else 0
noncomputable def ballot_heads_Len (h_v : List Int) : Option Int :=
  some (h_v.length : Int)
theorem ballot_heads_Len.meets (h_v : List Int) (z0 : Int) (h : ballot_heads_Len h_v = some z0) : Meets Try.prog ⟨104, [.data (.slc false none 1 (List.map e_i64 h_v))], []⟩ ⟨iv z0, []⟩ := by
  refine meets_of (O := ballot_heads_Len.O) hmix (fn := Try.f104) (code := bd104) (by kernel_rfl) ?_
  refine WK.weak (l := [(.t 0, [.data (.slc false none 1 (List.map e_i64 h_v))])]) (wk_of (by kernel_rfl)) ?_
  unfold ballot_heads_Len at h
  refine WK.rs (g := []) (l' := [(.t 0, [.data (.slc false none 1 (List.map e_i64 h_v))])]) (by kernel_rfl) .nil (by kernel_rfl) ?_
  refine WK.rs (g := [.s (.t 4) [iv (h_v.length : Int)]]) (l' := [(.t 2, [iv (h_v.length : Int)])]) (by kernel_rfl) (.cons (c_len (e := e_i64) (l := h_v)) .nil) (by kernel_rfl) ?_
  refine WK.weak (l := [(.t 2, [iv (h_v.length : Int)])]) (wk_of (by kernel_rfl)) ?_
  refine WK.ret (by kernel_rfl) ?_
  have h_ := some_inj h
  subst h_
  exact WKe.fin (e' := .ret) (by kernel_rfl) (fin_of (g := []) (by first | exact .inl rfl | exact .inr rfl) .nil (by kernel_rfl))
/-- (diwan/ballot.heads).Less -/
noncomputable def bd124 : Code := (Try.f124.body).getD .skip
def ballot_heads_Less.O : Nat → Nat := fun t => bif ([6] : List Nat).any (Nat.beq t) then 1 else 0
noncomputable def ballot_heads_Less (h_v : List Int) (i : Int) (k_v : Int) : Option Bool :=
  ix h_v i fun x2_1 =>
  ix h_v k_v fun x2_4 =>
  some (decide (x2_1 > x2_4))
theorem ballot_heads_Less.meets (h_v : List Int) (i : Int) (k_v : Int) (z0 : Bool) (h : ballot_heads_Less h_v i k_v = some z0) : Meets Try.prog ⟨124, [.data (.slc false none 1 (List.map e_i64 h_v)), iv i, iv k_v], []⟩ ⟨bv z0, []⟩ := by
  refine meets_of (O := ballot_heads_Less.O) hmix (fn := Try.f124) (code := bd124) (by kernel_rfl) ?_
  refine WK.weak (l := [(.t 0, [.data (.slc false none 1 (List.map e_i64 h_v))]), (.t 1, [iv i]), (.t 2, [iv k_v])]) (wk_of (by kernel_rfl)) ?_
  unfold ballot_heads_Less at h
  refine WK.rs (g := []) (l' := [(.t 0, [.data (.slc false none 1 (List.map e_i64 h_v))]), (.t 1, [iv i]), (.t 2, [iv k_v])]) (by kernel_rfl) .nil (by kernel_rfl) ?_
  obtain ⟨x2_1, a2_2, e2_3, h⟩ := ix_inv h
  obtain ⟨x2_4, a2_5, e2_6, h⟩ := ix_inv h
  refine WK.rs (g := [.c (e_i64 x2_1), .c (e_i64 x2_4)]) (l' := [(.t 6, [bv (decide (x2_1 > x2_4))])]) (by kernel_rfl) (.cons (c_ix (e := e_i64) a2_2 e2_3) (.cons (c_el (e := e_i64) e2_3) (.cons (c_ix (e := e_i64) a2_5 e2_6) (.cons (c_el (e := e_i64) e2_6) (.cons (Eq.refl true) .nil))))) (by kernel_rfl) ?_
  refine WK.weak (l := [(.t 6, [bv (decide (x2_1 > x2_4))])]) (wk_of (by kernel_rfl)) ?_
  refine WK.ret (by kernel_rfl) ?_
  have h_ := some_inj h
  subst h_
  exact WKe.fin (e' := .ret) (by kernel_rfl) (fin_of (g := []) (by first | exact .inl rfl | exact .inr rfl) .nil (by kernel_rfl))
/-- (diwan/ballot.heads).Swap -/
noncomputable def bd125 : Code := (Try.f125.body).getD .skip
def ballot_heads_Swap.O : Nat → Nat := fun t => bif ([] : List Nat).any (Nat.beq t) then 1 else 0
noncomputable def ballot_heads_Swap (i : Int) (k_v : Int) (o0_v : List Int) : Option (List Int) :=
  ix o0_v k_v fun x1_1 =>
  ix o0_v i fun x1_4 =>
  ix o0_v i fun x1_7 =>
  ix (o0_v.set i.toNat x1_1) k_v fun x1_10 =>
  some ((o0_v.set i.toNat x1_1).set k_v.toNat x1_4)
theorem ballot_heads_Swap.meets (i : Int) (k_v : Int) (o0_v : List Int) (z0 : List Int) (h : ballot_heads_Swap i k_v o0_v = some z0) : Meets Try.prog ⟨125, [.ref (.o 1000) 0 0 none, iv i, iv k_v], [[.data (.slc true none 1 (List.map e_i64 o0_v))]]⟩ ⟨.tup [], [[.data (.slc true none 1 (List.map e_i64 z0))]]⟩ := by
  refine meets_of (O := ballot_heads_Swap.O) hmix (fn := Try.f125) (code := bd125) (by kernel_rfl) ?_
  refine WK.weak (l := [(.t 0, [.ref (.o 1000) 0 0 none]), (.t 1, [iv i]), (.t 2, [iv k_v]), (.o 1000, [.data (.slc true none 1 (List.map e_i64 o0_v))])]) (wk_of (by kernel_rfl)) ?_
  unfold ballot_heads_Swap at h
  obtain ⟨x1_1, a1_2, e1_3, h⟩ := ix_inv h
  obtain ⟨x1_4, a1_5, e1_6, h⟩ := ix_inv h
  obtain ⟨x1_7, a1_8, e1_9, h⟩ := ix_inv h
  obtain ⟨x1_10, a1_11, e1_12, h⟩ := ix_inv h
  have h_ := some_inj h
  subst h_
  exact WK.rf (g := [.c (e_i64 x1_1), .c (e_i64 x1_4), .c (e_i64 x1_7), .s (.o 1000) [.data (.slc true none 1 (List.map e_i64 (o0_v.set i.toNat x1_1)))], .c (e_i64 x1_10), .s (.o 1000) [.data (.slc true none 1 (List.map e_i64 ((o0_v.set i.toNat x1_1).set k_v.toNat x1_4)))]]) (.cons (c_ix (e := e_i64) a1_2 e1_3) (.cons (c_el (e := e_i64) e1_3) (.cons (c_ix (e := e_i64) a1_5 e1_6) (.cons (c_el (e := e_i64) e1_6) (.cons (c_ix (e := e_i64) a1_8 e1_9) (.cons (c_el (e := e_i64) e1_9) (.cons (congrArg (fun d : DV => [AV.data d]) (c_set (e := e_i64) (s := 1) (nl := none) (l := o0_v) (i := i.toNat) (x := x1_1))) (.cons (c_ix (e := e_i64) a1_11 e1_12) (.cons (c_el (e := e_i64) e1_12) (.cons (congrArg (fun d : DV => [AV.data d]) (c_set (e := e_i64) (s := 1) (nl := none) (l := (o0_v.set i.toNat x1_1)) (i := k_v.toNat) (x := x1_4))) (.cons (Eq.refl true) .nil))))))))))) (by kernel_rfl) (by kernel_rfl)
/-- container/heap.down -/
noncomputable def bd107 : Code := (Try.f107.body).getD .skip
def heap_down.O : Nat → Nat := fun t => bif ([6, 7, 8, 9, 10] : List Nat).any (Nat.beq t) then 1 else bif ([43] : List Nat).any (Nat.beq t) then 3 else 0
noncomputable def heap_down.lp3 (fu : Nat) (l3_0 : Int) (l3_1 : Int) : Nat → Int → (List Int) → Option (Int × List Int)
  | 0, _, _ => none
  | n_ + 1, l3_2, l3_3 =>
    br (decide ((w64 ((w64 (2 * l3_2)) + 1)) ≥ l3_1))
      (some (l3_2, l3_3))
      (br (decide ((w64 ((w64 (2 * l3_2)) + 1)) < 0))
        (some (l3_2, l3_3))
        (jn (fun (j12_3 : Int) =>
          bd (ballot_heads_Less l3_3 j12_3 l3_2) fun r13_1 =>
          br (!r13_1)
            (some (l3_2, l3_3))
            (bd (ballot_heads_Swap l3_2 j12_3 l3_3) fun r15_1 =>
            heap_down.lp3 fu l3_0 l3_1 n_ j12_3 r15_1)) fun k12 =>
        br (decide ((w64 ((w64 ((w64 (2 * l3_2)) + 1)) + 1)) < l3_1))
          (bd (ballot_heads_Less l3_3 (w64 ((w64 ((w64 (2 * l3_2)) + 1)) + 1)) (w64 ((w64 (2 * l3_2)) + 1))) fun r9_2 =>
          br r9_2
            (k12 (w64 ((w64 ((w64 (2 * l3_2)) + 1)) + 1)))
            (k12 (w64 ((w64 (2 * l3_2)) + 1))))
          (k12 (w64 ((w64 (2 * l3_2)) + 1)))))
noncomputable def heap_down.lp3_post (l3_0 : Int) (l3_1 : Int) (r_ : (Int × List Int)) : Wy → St → Prop := fun e τ => match r_ with
  | (y0, y1) => e = .exit 0 ∧ τ = ofL [(.t 1, [iv l3_0]), (.t 7, [iv y0]), (.o 1000, [.data (.slc true none 1 (List.map e_i64 y1))])]
theorem heap_down.lp3_ok (fu : Nat) (l3_0 : Int) (l3_1 : Int) : ∀ (n_ : Nat) (l3_2 : Int) (l3_3 : List Int) (r_ : (Int × List Int)), heap_down.lp3 fu l3_0 l3_1 n_ l3_2 l3_3 = some r_ → WK Try.prog heap_down.O (Ck Try.prog) (cB (cL (cR (cR bd107)))) [] (ofL [(.t 0, [.ifc 122 (.ptr 1000 0)]), (.t 1, [iv l3_0]), (.t 2, [iv l3_1]), (.t 7, [iv l3_2]), (.o 1000, [.data (.slc true none 1 (List.map e_i64 l3_3))])]) (heap_down.lp3_post l3_0 l3_1 r_) := by
  intro n_
  induction n_ with
  | zero => intro l3_2 l3_3 r_ h; exact no_none h
  | succ n_ ih =>
    intro l3_2 l3_3 r_ h
    refine WK.loop (by kernel_rfl) ?_
    refine WK.block (n := 1) (by kernel_rfl) ?_
    refine WK.rs (g := []) (l' := [(.t 0, [.ifc 122 (.ptr 1000 0)]), (.t 1, [iv l3_0]), (.t 2, [iv l3_1]), (.t 7, [iv l3_2]), (.t 8, [iv (w64 ((w64 (2 * l3_2)) + 1))]), (.o 1000, [.data (.slc true none 1 (List.map e_i64 l3_3))])]) (by kernel_rfl) .nil (by kernel_rfl) ?_
    refine WK.seq (by kernel_rfl) ?_
    rcases br_inv h with ⟨b5_1, h⟩ | ⟨b5_1, h⟩
    · refine WK.rs (g := [.b true, .b true, .b true]) (l' := [(.t 0, [.ifc 122 (.ptr 1000 0)]), (.t 1, [iv l3_0]), (.t 2, [iv l3_1]), (.t 7, [iv l3_2]), (.t 8, [iv (w64 ((w64 (2 * l3_2)) + 1))]), (.t 21, [bv true]), (.o 1000, [.data (.slc true none 1 (List.map e_i64 l3_3))])]) (by kernel_rfl) (.cons b5_1 (.cons b5_1 (.cons b5_1 .nil))) (by kernel_rfl) ?_
      refine WK.ct (b := true) (by kernel_rfl) rfl ?_
      refine WK.weak (l := [(.t 1, [iv l3_0]), (.t 7, [iv l3_2]), (.o 1000, [.data (.slc true none 1 (List.map e_i64 l3_3))])]) (wk_of (by kernel_rfl)) ?_
      refine WK.exit (n := 0) (by kernel_rfl) ?_
      cases some_inj h
      exact WKe.fin (e' := .exit 0) (by kernel_rfl) ⟨rfl, rfl⟩
    · refine WK.rs (g := [.b false, .b false, .b false]) (l' := [(.t 0, [.ifc 122 (.ptr 1000 0)]), (.t 1, [iv l3_0]), (.t 2, [iv l3_1]), (.t 7, [iv l3_2]), (.t 8, [iv (w64 ((w64 (2 * l3_2)) + 1))]), (.t 21, [bv (decide ((w64 ((w64 (2 * l3_2)) + 1)) < 0))]), (.o 1000, [.data (.slc true none 1 (List.map e_i64 l3_3))])]) (by kernel_rfl) (.cons b5_1 (.cons b5_1 (.cons b5_1 .nil))) (by kernel_rfl) ?_
      rcases br_inv h with ⟨b6_0, h⟩ | ⟨b6_0, h⟩
      · refine WK.ct (b := (decide ((w64 ((w64 (2 * l3_2)) + 1)) < 0))) (by kernel_rfl) b6_0 ?_
        refine WK.weak (l := [(.t 1, [iv l3_0]), (.t 7, [iv l3_2]), (.o 1000, [.data (.slc true none 1 (List.map e_i64 l3_3))])]) (wk_of (by kernel_rfl)) ?_
        refine WK.exit (n := 0) (by kernel_rfl) ?_
        cases some_inj h
        exact WKe.fin (e' := .exit 0) (by kernel_rfl) ⟨rfl, rfl⟩
      · refine WK.ce (b := (decide ((w64 ((w64 (2 * l3_2)) + 1)) < 0))) (by kernel_rfl) b6_0 ?_
        refine WK.skip (by kernel_rfl) ?_
        refine WKe.code (y := (cR (cR (cB (cB (cB (cL (cR (cR bd107))))))))) (ks' := [.blk 1, .lp (cB (cL (cR (cR bd107))))]) (by kernel_rfl) ?_
        refine WK.rs (g := []) (l' := [(.t 0, [.ifc 122 (.ptr 1000 0)]), (.t 1, [iv l3_0]), (.t 2, [iv l3_1]), (.t 7, [iv l3_2]), (.t 8, [iv (w64 ((w64 (2 * l3_2)) + 1))]), (.t 9, [iv (w64 ((w64 (2 * l3_2)) + 1))]), (.o 1000, [.data (.slc true none 1 (List.map e_i64 l3_3))])]) (by kernel_rfl) .nil (by kernel_rfl) ?_
        obtain ⟨k12, hk12, h⟩ := jn_inv h
        have Jk12 : ∀ (j12_3 : Int), k12 j12_3 = some r_ → WK Try.prog heap_down.O (Ck Try.prog) (cR (cR (cR (cR (cB (cB (cB (cL (cR (cR bd107)))))))))) [.blk 1, .lp (cB (cL (cR (cR bd107))))] (ofL [(.t 0, [.ifc 122 (.ptr 1000 0)]), (.t 1, [iv l3_0]), (.t 2, [iv l3_1]), (.t 7, [iv l3_2]), (.t 9, [iv j12_3]), (.o 1000, [.data (.slc true none 1 (List.map e_i64 l3_3))])]) (heap_down.lp3_post l3_0 l3_1 r_) := by
          intro j12_3 h
          rw [hk12] at h
          refine WK.seq (by kernel_rfl) ?_
          obtain ⟨r13_1, h13_2, h⟩ := bd_inv h
          refine WK.rs (g := [.a ⟨bv r13_1, []⟩]) (l' := [(.t 0, [.ifc 122 (.ptr 1000 0)]), (.t 1, [iv l3_0]), (.t 2, [iv l3_1]), (.t 7, [iv l3_2]), (.t 9, [iv j12_3]), (.t 39, [bv (!r13_1)]), (.o 1000, [.data (.slc true none 1 (List.map e_i64 l3_3))])]) (by kernel_rfl) (.cons (Asks.of (C := Meets Try.prog) (ballot_heads_Less.meets l3_3 j12_3 l3_2 _ h13_2)) .nil) (by kernel_rfl) ?_
          rcases br_inv h with ⟨b14_0, h⟩ | ⟨b14_0, h⟩
          · refine WK.ct (b := (!r13_1)) (by kernel_rfl) b14_0 ?_
            refine WK.weak (l := [(.t 1, [iv l3_0]), (.t 7, [iv l3_2]), (.o 1000, [.data (.slc true none 1 (List.map e_i64 l3_3))])]) (wk_of (by kernel_rfl)) ?_
            refine WK.exit (n := 0) (by kernel_rfl) ?_
            cases some_inj h
            exact WKe.fin (e' := .exit 0) (by kernel_rfl) ⟨rfl, rfl⟩
          · refine WK.ce (b := (!r13_1)) (by kernel_rfl) b14_0 ?_
            refine WK.skip (by kernel_rfl) ?_
            refine WKe.code (y := (cR (cR (cR (cR (cR (cB (cB (cB (cL (cR (cR bd107)))))))))))) (ks' := [.blk 1, .lp (cB (cL (cR (cR bd107))))]) (by kernel_rfl) ?_
            obtain ⟨r15_1, h15_2, h⟩ := bd_inv h
            refine WK.rs (g := [.a ⟨.tup [], [[.data (.slc true none 1 (List.map e_i64 r15_1))]]⟩]) (l' := [(.t 0, [.ifc 122 (.ptr 1000 0)]), (.t 1, [iv l3_0]), (.t 2, [iv l3_1]), (.t 9, [iv j12_3]), (.o 1000, [.data (.slc true none 1 (List.map e_i64 r15_1))])]) (by kernel_rfl) (.cons (Asks.of (C := Meets Try.prog) (ballot_heads_Swap.meets l3_2 j12_3 l3_3 _ h15_2)) .nil) (by kernel_rfl) ?_
            refine WK.rc (g := []) (l' := [(.t 0, [.ifc 122 (.ptr 1000 0)]), (.t 1, [iv l3_0]), (.t 2, [iv l3_1]), (.t 7, [iv j12_3]), (.o 1000, [.data (.slc true none 1 (List.map e_i64 r15_1))])]) .nil (by kernel_rfl) (y := (cB (cL (cR (cR bd107))))) (ks' := []) (by kernel_rfl) ?_
            exact WK.weak (l := [(.t 0, [.ifc 122 (.ptr 1000 0)]), (.t 1, [iv l3_0]), (.t 2, [iv l3_1]), (.t 7, [iv j12_3]), (.o 1000, [.data (.slc true none 1 (List.map e_i64 r15_1))])]) (wk_of (by kernel_rfl)) (ih j12_3 r15_1 _ h)
        clear hk12
        refine WK.seq (by kernel_rfl) ?_
        refine WK.rs (g := []) (l' := [(.t 0, [.ifc 122 (.ptr 1000 0)]), (.t 1, [iv l3_0]), (.t 2, [iv l3_1]), (.t 7, [iv l3_2]), (.t 8, [iv (w64 ((w64 (2 * l3_2)) + 1))]), (.t 9, [iv (w64 ((w64 (2 * l3_2)) + 1))]), (.t 10, [iv (w64 ((w64 ((w64 (2 * l3_2)) + 1)) + 1))]), (.o 1000, [.data (.slc true none 1 (List.map e_i64 l3_3))])]) (by kernel_rfl) .nil (by kernel_rfl) ?_
        rcases br_inv h with ⟨b9_1, h⟩ | ⟨b9_1, h⟩
        · obtain ⟨r9_2, h9_3, h⟩ := bd_inv h
          refine WK.rs (g := [.b true, .b true, .b true, .b true, .a ⟨bv r9_2, []⟩, .b true]) (l' := [(.t 0, [.ifc 122 (.ptr 1000 0)]), (.t 1, [iv l3_0]), (.t 2, [iv l3_1]), (.t 7, [iv l3_2]), (.t 9, [iv (w64 ((w64 (2 * l3_2)) + 1))]), (.t 10, [iv (w64 ((w64 ((w64 (2 * l3_2)) + 1)) + 1))]), (.t 33, [bv r9_2]), (.o 1000, [.data (.slc true none 1 (List.map e_i64 l3_3))])]) (by kernel_rfl) (.cons b9_1 (.cons b9_1 (.cons b9_1 (.cons b9_1 (.cons (Asks.of (C := Meets Try.prog) (ballot_heads_Less.meets l3_3 (w64 ((w64 ((w64 (2 * l3_2)) + 1)) + 1)) (w64 ((w64 (2 * l3_2)) + 1)) _ h9_3)) (.cons b9_1 .nil)))))) (by kernel_rfl) ?_
          rcases br_inv h with ⟨b10_0, h⟩ | ⟨b10_0, h⟩
          · refine WK.ct (b := r9_2) (by kernel_rfl) b10_0 ?_
            refine WK.rc (g := []) (l' := [(.t 0, [.ifc 122 (.ptr 1000 0)]), (.t 1, [iv l3_0]), (.t 2, [iv l3_1]), (.t 7, [iv l3_2]), (.t 9, [iv (w64 ((w64 ((w64 (2 * l3_2)) + 1)) + 1))]), (.o 1000, [.data (.slc true none 1 (List.map e_i64 l3_3))])]) .nil (by kernel_rfl) (y := (cR (cR (cR (cR (cB (cB (cB (cL (cR (cR bd107))))))))))) (ks' := [.blk 1, .lp (cB (cL (cR (cR bd107))))]) (by kernel_rfl) ?_
            exact WK.weak (l := [(.t 0, [.ifc 122 (.ptr 1000 0)]), (.t 1, [iv l3_0]), (.t 2, [iv l3_1]), (.t 7, [iv l3_2]), (.t 9, [iv (w64 ((w64 ((w64 (2 * l3_2)) + 1)) + 1))]), (.o 1000, [.data (.slc true none 1 (List.map e_i64 l3_3))])]) (wk_of (by kernel_rfl)) (Jk12 (w64 ((w64 ((w64 (2 * l3_2)) + 1)) + 1)) h)
          · refine WK.ce (b := r9_2) (by kernel_rfl) b10_0 ?_
            refine WK.skip (by kernel_rfl) ?_
            refine WKe.code (y := (cR (cR (cR (cR (cB (cB (cB (cL (cR (cR bd107))))))))))) (ks' := [.blk 1, .lp (cB (cL (cR (cR bd107))))]) (by kernel_rfl) ?_
            exact WK.weak (l := [(.t 0, [.ifc 122 (.ptr 1000 0)]), (.t 1, [iv l3_0]), (.t 2, [iv l3_1]), (.t 7, [iv l3_2]), (.t 9, [iv (w64 ((w64 (2 * l3_2)) + 1))]), (.o 1000, [.data (.slc true none 1 (List.map e_i64 l3_3))])]) (wk_of (by kernel_rfl)) (Jk12 (w64 ((w64 (2 * l3_2)) + 1)) h)
        · refine WK.rs (g := [.b false, .b false, .b false, .b false, .b false]) (l' := [(.t 0, [.ifc 122 (.ptr 1000 0)]), (.t 1, [iv l3_0]), (.t 2, [iv l3_1]), (.t 7, [iv l3_2]), (.t 9, [iv (w64 ((w64 (2 * l3_2)) + 1))]), (.t 10, [iv (w64 ((w64 ((w64 (2 * l3_2)) + 1)) + 1))]), (.t 33, [bv false]), (.o 1000, [.data (.slc true none 1 (List.map e_i64 l3_3))])]) (by kernel_rfl) (.cons b9_1 (.cons b9_1 (.cons b9_1 (.cons b9_1 (.cons b9_1 .nil))))) (by kernel_rfl) ?_
          refine WK.ce (b := false) (by kernel_rfl) rfl ?_
          refine WK.skip (by kernel_rfl) ?_
          refine WKe.code (y := (cR (cR (cR (cR (cB (cB (cB (cL (cR (cR bd107))))))))))) (ks' := [.blk 1, .lp (cB (cL (cR (cR bd107))))]) (by kernel_rfl) ?_
          exact WK.weak (l := [(.t 0, [.ifc 122 (.ptr 1000 0)]), (.t 1, [iv l3_0]), (.t 2, [iv l3_1]), (.t 7, [iv l3_2]), (.t 9, [iv (w64 ((w64 (2 * l3_2)) + 1))]), (.o 1000, [.data (.slc true none 1 (List.map e_i64 l3_3))])]) (wk_of (by kernel_rfl)) (Jk12 (w64 ((w64 (2 * l3_2)) + 1)) h)
noncomputable def heap_down (fu : Nat) (i0 : Int) (n_v : Int) (o0_v : List Int) : Option (Bool × List Int) :=
  bd (heap_down.lp3 fu i0 n_v fu i0 o0_v) fun (y17_0, y17_1) =>
  some ((decide (y17_0 > i0)), y17_1)
theorem heap_down.meets (fu : Nat) (i0 : Int) (n_v : Int) (o0_v : List Int) (z0 : Bool) (z1 : List Int) (h : heap_down fu i0 n_v o0_v = some (z0, z1)) : Meets Try.prog ⟨107, [.ifc 122 (.ptr 1000 0), iv i0, iv n_v], [[.data (.slc true none 1 (List.map e_i64 o0_v))]]⟩ ⟨bv z0, [[.data (.slc true none 1 (List.map e_i64 z1))]]⟩ := by
  refine meets_of (O := heap_down.O) hmix (fn := Try.f107) (code := bd107) (by kernel_rfl) ?_
  refine WK.weak (l := [(.t 0, [.ifc 122 (.ptr 1000 0)]), (.t 1, [iv i0]), (.t 2, [iv n_v]), (.o 1000, [.data (.slc true none 1 (List.map e_i64 o0_v))])]) (wk_of (by kernel_rfl)) ?_
  unfold heap_down at h
  refine WK.rs (g := []) (l' := [(.t 0, [.ifc 122 (.ptr 1000 0)]), (.t 1, [iv i0]), (.t 2, [iv n_v]), (.o 1000, [.data (.slc true none 1 (List.map e_i64 o0_v))])]) (by kernel_rfl) .nil (by kernel_rfl) ?_
  refine WK.rs (g := []) (l' := [(.t 0, [.ifc 122 (.ptr 1000 0)]), (.t 1, [iv i0]), (.t 2, [iv n_v]), (.t 7, [iv i0]), (.o 1000, [.data (.slc true none 1 (List.map e_i64 o0_v))])]) (by kernel_rfl) .nil (by kernel_rfl) ?_
  refine WK.seq (by kernel_rfl) ?_
  refine WK.block (n := 0) (by kernel_rfl) ?_
  obtain ⟨o17, ho17, h⟩ := bd_inv h
  refine WK.weak (l := [(.t 0, [.ifc 122 (.ptr 1000 0)]), (.t 1, [iv i0]), (.t 2, [iv n_v]), (.t 7, [iv i0]), (.o 1000, [.data (.slc true none 1 (List.map e_i64 o0_v))])]) (wk_of (by kernel_rfl)) ?_
  refine WK.use (heap_down.lp3_ok fu i0 n_v _ i0 o0_v _ ho17) ?_
  intro e_ τ_ hp_
  obtain ⟨y17_0, y17_1⟩ := o17
  obtain ⟨rfl, rfl⟩ := hp_
  refine WKe.code (y := (cR (cR (cR bd107)))) (ks' := []) (by kernel_rfl) ?_
  refine WK.rs (g := []) (l' := [(.t 6, [bv (decide (y17_0 > i0))]), (.o 1000, [.data (.slc true none 1 (List.map e_i64 y17_1))])]) (by kernel_rfl) .nil (by kernel_rfl) ?_
  refine WK.weak (l := [(.t 6, [bv (decide (y17_0 > i0))]), (.o 1000, [.data (.slc true none 1 (List.map e_i64 y17_1))])]) (wk_of (by kernel_rfl)) ?_
  refine WK.ret (by kernel_rfl) ?_
  have h_0 := some_inj h
  obtain ⟨g_1, h_1⟩ := Prod.mk.inj h_0
  subst g_1
  subst h_1
  exact WKe.fin (e' := .ret) (by kernel_rfl) (fin_of (g := []) (by first | exact .inl rfl | exact .inr rfl) .nil (by kernel_rfl))
/-- container/heap.Init -/
noncomputable def bd103 : Code := (Try.f103.body).getD .skip
def heap_Init.O : Nat → Nat := fun t => bif ([2, 3] : List Nat).any (Nat.beq t) then 1 else 0
noncomputable def heap_Init.lp3 (fu : Nat) (l3_0 : Int) : Nat → Int → (List Int) → Option (List Int)
  | 0, _, _ => none
  | n_ + 1, l3_1, l3_2 =>
    br (decide (l3_1 ≥ 0))
      (bd (heap_down fu l3_1 l3_0 l3_2) fun (r6_1, r6_2) =>
      heap_Init.lp3 fu l3_0 n_ (w64 (l3_1 - 1)) r6_2)
      (some l3_2)
noncomputable def heap_Init.lp3_post (l3_0 : Int) (r_ : (List Int)) : Wy → St → Prop := fun e τ => match r_ with
  | y0 => e = .exit 0 ∧ τ = ofL [(.o 1000, [.data (.slc true none 1 (List.map e_i64 y0))])]
theorem heap_Init.lp3_ok (fu : Nat) (l3_0 : Int) : ∀ (n_ : Nat) (l3_1 : Int) (l3_2 : List Int) (r_ : (List Int)), heap_Init.lp3 fu l3_0 n_ l3_1 l3_2 = some r_ → WK Try.prog heap_Init.O (Ck Try.prog) (cB (cR (cR bd103))) [] (ofL [(.t 0, [.ifc 122 (.ptr 1000 0)]), (.t 2, [iv l3_0]), (.t 3, [iv l3_1]), (.o 1000, [.data (.slc true none 1 (List.map e_i64 l3_2))])]) (heap_Init.lp3_post l3_0 r_) := by
  intro n_
  induction n_ with
  | zero => intro l3_1 l3_2 r_ h; exact no_none h
  | succ n_ ih =>
    intro l3_1 l3_2 r_ h
    refine WK.loop (by kernel_rfl) ?_
    refine WK.seq (by kernel_rfl) ?_
    refine WK.rs (g := []) (l' := [(.t 0, [.ifc 122 (.ptr 1000 0)]), (.t 2, [iv l3_0]), (.t 3, [iv l3_1]), (.t 10, [bv (decide (l3_1 ≥ 0))]), (.o 1000, [.data (.slc true none 1 (List.map e_i64 l3_2))])]) (by kernel_rfl) .nil (by kernel_rfl) ?_
    rcases br_inv h with ⟨b5_0, h⟩ | ⟨b5_0, h⟩
    · refine WK.ct (b := (decide (l3_1 ≥ 0))) (by kernel_rfl) b5_0 ?_
      refine WK.skip (by kernel_rfl) ?_
      refine WKe.code (y := (cR (cB (cB (cR (cR bd103)))))) (ks' := [.lp (cB (cR (cR bd103)))]) (by kernel_rfl) ?_
      refine WK.seq (by kernel_rfl) ?_
      refine WK.block (n := 1) (by kernel_rfl) ?_
      obtain ⟨⟨r6_1, r6_2⟩, h6_3, h⟩ := bd_inv h
      refine WK.rc (g := [.a ⟨bv r6_1, [[.data (.slc true none 1 (List.map e_i64 r6_2))]]⟩]) (l' := [(.t 0, [.ifc 122 (.ptr 1000 0)]), (.t 2, [iv l3_0]), (.t 3, [iv l3_1]), (.o 1000, [.data (.slc true none 1 (List.map e_i64 r6_2))])]) (.cons (Asks.of (C := Meets Try.prog) (heap_down.meets fu l3_1 l3_0 l3_2 _ _ h6_3)) .nil) (by kernel_rfl) (y := (cR (cR (cB (cB (cR (cR bd103))))))) (ks' := [.lp (cB (cR (cR bd103)))]) (by kernel_rfl) ?_
      refine WK.rc (g := []) (l' := [(.t 0, [.ifc 122 (.ptr 1000 0)]), (.t 2, [iv l3_0]), (.t 3, [iv (w64 (l3_1 - 1))]), (.o 1000, [.data (.slc true none 1 (List.map e_i64 r6_2))])]) .nil (by kernel_rfl) (y := (cB (cR (cR bd103)))) (ks' := []) (by kernel_rfl) ?_
      exact WK.weak (l := [(.t 0, [.ifc 122 (.ptr 1000 0)]), (.t 2, [iv l3_0]), (.t 3, [iv (w64 (l3_1 - 1))]), (.o 1000, [.data (.slc true none 1 (List.map e_i64 r6_2))])]) (wk_of (by kernel_rfl)) (ih (w64 (l3_1 - 1)) r6_2 _ h)
    · refine WK.ce (b := (decide (l3_1 ≥ 0))) (by kernel_rfl) b5_0 ?_
      refine WK.weak (l := [(.o 1000, [.data (.slc true none 1 (List.map e_i64 l3_2))])]) (wk_of (by kernel_rfl)) ?_
      refine WK.exit (n := 0) (by kernel_rfl) ?_
      cases some_inj h
      exact WKe.fin (e' := .exit 0) (by kernel_rfl) ⟨rfl, rfl⟩
noncomputable def heap_Init (fu : Nat) (o0_v : List Int) : Option (List Int) :=
  bd (ballot_heads_Len o0_v) fun r1_1 =>
  bd (heap_Init.lp3 fu r1_1 fu (w64 ((w64 (Int.tdiv r1_1 2)) - 1)) o0_v) fun y8_0 =>
  some y8_0
theorem heap_Init.meets (fu : Nat) (o0_v : List Int) (z0 : List Int) (h : heap_Init fu o0_v = some z0) : Meets Try.prog ⟨103, [.ifc 122 (.ptr 1000 0)], [[.data (.slc true none 1 (List.map e_i64 o0_v))]]⟩ ⟨.tup [], [[.data (.slc true none 1 (List.map e_i64 z0))]]⟩ := by
  refine meets_of (O := heap_Init.O) hmix (fn := Try.f103) (code := bd103) (by kernel_rfl) ?_
  refine WK.weak (l := [(.t 0, [.ifc 122 (.ptr 1000 0)]), (.o 1000, [.data (.slc true none 1 (List.map e_i64 o0_v))])]) (wk_of (by kernel_rfl)) ?_
  unfold heap_Init at h
  obtain ⟨r1_1, h1_2, h⟩ := bd_inv h
  refine WK.rs (g := [.a ⟨iv r1_1, []⟩]) (l' := [(.t 0, [.ifc 122 (.ptr 1000 0)]), (.t 2, [iv r1_1]), (.o 1000, [.data (.slc true none 1 (List.map e_i64 o0_v))])]) (by kernel_rfl) (.cons (Asks.of (C := Meets Try.prog) (ballot_heads_Len.meets o0_v _ h1_2)) .nil) (by kernel_rfl) ?_
  refine WK.rs (g := []) (l' := [(.t 0, [.ifc 122 (.ptr 1000 0)]), (.t 2, [iv r1_1]), (.t 3, [iv (w64 ((w64 (Int.tdiv r1_1 2)) - 1))]), (.o 1000, [.data (.slc true none 1 (List.map e_i64 o0_v))])]) (by kernel_rfl) (.cons (Eq.refl true) .nil) (by kernel_rfl) ?_
  refine WK.block (n := 0) (by kernel_rfl) ?_
  obtain ⟨o8, ho8, h⟩ := bd_inv h
  refine WK.weak (l := [(.t 0, [.ifc 122 (.ptr 1000 0)]), (.t 2, [iv r1_1]), (.t 3, [iv (w64 ((w64 (Int.tdiv r1_1 2)) - 1))]), (.o 1000, [.data (.slc true none 1 (List.map e_i64 o0_v))])]) (wk_of (by kernel_rfl)) ?_
  refine WK.use (heap_Init.lp3_ok fu r1_1 _ (w64 ((w64 (Int.tdiv r1_1 2)) - 1)) o0_v _ ho8) ?_
  intro e_ τ_ hp_
  obtain ⟨y8_0, rfl⟩ : ∃ y, y = o8 := ⟨_, rfl⟩
  obtain ⟨rfl, rfl⟩ := hp_
  have h_ := some_inj h
  subst h_
  exact WKe.fin (e' := .normal) (by kernel_rfl) (fin_of (g := []) (by first | exact .inl rfl | exact .inr rfl) .nil (by kernel_rfl))
/-- (*diwan/ballot.heads).Pop -/
noncomputable def bd126 : Code := (Try.f126.body).getD .skip
def ballot_heads_Pop.O : Nat → Nat := fun t => bif ([2, 3, 4, 19] : List Nat).any (Nat.beq t) then 1 else 0
noncomputable def ballot_heads_Pop (o0_v : List Int) : Option (Int × List Int) :=
  ix o0_v (w64 ((o0_v.length : Int) - 1)) fun x3_1 =>
  gd (decide ((0 : Int) ≤ (w64 ((o0_v.length : Int) - 1)) ∧ (w64 ((o0_v.length : Int) - 1)) ≤ (o0_v.length : Int))) <|
  some (x3_1, (List.take (w64 ((o0_v.length : Int) - 1)).toNat o0_v))
theorem ballot_heads_Pop.meets (o0_v : List Int) (z0 : Int) (z1 : List Int) (h : ballot_heads_Pop o0_v = some (z0, z1)) : Meets Try.prog ⟨126, [.ptr 1000 0], [[.data (.slc true none 1 (List.map e_i64 o0_v))]]⟩ ⟨.ifc 3 (iv z0), [[.data (.slc true none 1 (List.map e_i64 z1))]]⟩ := by
  refine meets_of (O := ballot_heads_Pop.O) hmix (fn := Try.f126) (code := bd126) (by kernel_rfl) ?_
  refine WK.weak (l := [(.t 0, [.ptr 1000 0]), (.o 1000, [.data (.slc true none 1 (List.map e_i64 o0_v))])]) (wk_of (by kernel_rfl)) ?_
  unfold ballot_heads_Pop at h
  refine WK.rs (g := []) (l' := [(.t 0, [.ptr 1000 0]), (.o 1000, [.data (.slc true none 1 (List.map e_i64 o0_v))])]) (by kernel_rfl) .nil (by kernel_rfl) ?_
  refine WK.rs (g := []) (l' := [(.t 0, [.ptr 1000 0]), (.t 3, [.data (.slc true none 1 (List.map e_i64 o0_v))]), (.o 1000, [.dead])]) (by kernel_rfl) .nil (by kernel_rfl) ?_
  obtain ⟨x3_1, a3_2, e3_3, h⟩ := ix_inv h
  refine WK.rs (g := [.s (.t 10) [iv (o0_v.length : Int)], .c (e_i64 x3_1)]) (l' := [(.t 0, [.ptr 1000 0]), (.t 3, [.data (.slc true none 1 (List.map e_i64 o0_v))]), (.t 4, [iv x3_1]), (.o 1000, [.dead])]) (by kernel_rfl) (.cons (c_len (e := e_i64) (l := o0_v)) (.cons (c_ix (e := e_i64) a3_2 e3_3) (.cons (c_el (e := e_i64) e3_3) .nil))) (by kernel_rfl) ?_
  obtain ⟨c4_1, h⟩ := gd_inv h
  refine WK.rs (g := [.s (.t 17) [iv (o0_v.length : Int)], .s (.t 19) [.data (.slc true none 1 (List.map e_i64 (List.take (w64 ((o0_v.length : Int) - 1)).toNat o0_v)))]]) (l' := [(.t 4, [iv x3_1]), (.o 1000, [.data (.slc true none 1 (List.map e_i64 (List.take (w64 ((o0_v.length : Int) - 1)).toNat o0_v)))])]) (by kernel_rfl) (.cons (c_len (e := e_i64) (l := o0_v)) (.cons (c_cbH (e := e_i64) c4_1) (.cons (congrArg (fun d : DV => [AV.data d]) (c_cutH (own := true) (nl := none) (s := 1) (e := e_i64) (l := o0_v) (h := (w64 ((o0_v.length : Int) - 1)).toNat))) .nil))) (by kernel_rfl) ?_
  refine WK.rs (g := []) (l' := [(.t 2, [.ifc 3 (iv x3_1)]), (.o 1000, [.data (.slc true none 1 (List.map e_i64 (List.take (w64 ((o0_v.length : Int) - 1)).toNat o0_v)))])]) (by kernel_rfl) .nil (by kernel_rfl) ?_
  refine WK.weak (l := [(.t 2, [.ifc 3 (iv x3_1)]), (.o 1000, [.data (.slc true none 1 (List.map e_i64 (List.take (w64 ((o0_v.length : Int) - 1)).toNat o0_v)))])]) (wk_of (by kernel_rfl)) ?_
  refine WK.ret (by kernel_rfl) ?_
  have h_0 := some_inj h
  obtain ⟨g_1, h_1⟩ := Prod.mk.inj h_0
  subst g_1
  subst h_1
  exact WKe.fin (e' := .ret) (by kernel_rfl) (fin_of (g := []) (by first | exact .inl rfl | exact .inr rfl) .nil (by kernel_rfl))
/-- container/heap.Pop -/
noncomputable def bd105 : Code := (Try.f105.body).getD .skip
def heap_Pop.O : Nat → Nat := fun t => bif ([2, 3] : List Nat).any (Nat.beq t) then 1 else bif ([9] : List Nat).any (Nat.beq t) then 3 else 0
noncomputable def heap_Pop (fu : Nat) (o0_v : List Int) : Option (Int × List Int) :=
  bd (ballot_heads_Len o0_v) fun r2_1 =>
  bd (ballot_heads_Swap 0 (w64 (r2_1 - 1)) o0_v) fun r3_1 =>
  bd (heap_down fu 0 (w64 (r2_1 - 1)) r3_1) fun (r4_1, r4_2) =>
  bd (ballot_heads_Pop r4_2) fun (r5_1, r5_2) =>
  some (r5_1, r5_2)
theorem heap_Pop.meets (fu : Nat) (o0_v : List Int) (z0 : Int) (z1 : List Int) (h : heap_Pop fu o0_v = some (z0, z1)) : Meets Try.prog ⟨105, [.ifc 122 (.ptr 1000 0)], [[.data (.slc true none 1 (List.map e_i64 o0_v))]]⟩ ⟨.ifc 3 (iv z0), [[.data (.slc true none 1 (List.map e_i64 z1))]]⟩ := by
  refine meets_of (O := heap_Pop.O) hmix (fn := Try.f105) (code := bd105) (by kernel_rfl) ?_
  refine WK.weak (l := [(.t 0, [.ifc 122 (.ptr 1000 0)]), (.o 1000, [.data (.slc true none 1 (List.map e_i64 o0_v))])]) (wk_of (by kernel_rfl)) ?_
  unfold heap_Pop at h
  refine WK.rs (g := []) (l' := [(.t 0, [.ifc 122 (.ptr 1000 0)]), (.o 1000, [.data (.slc true none 1 (List.map e_i64 o0_v))])]) (by kernel_rfl) .nil (by kernel_rfl) ?_
  obtain ⟨r2_1, h2_2, h⟩ := bd_inv h
  refine WK.rs (g := [.a ⟨iv r2_1, []⟩]) (l' := [(.t 0, [.ifc 122 (.ptr 1000 0)]), (.t 3, [iv (w64 (r2_1 - 1))]), (.o 1000, [.data (.slc true none 1 (List.map e_i64 o0_v))])]) (by kernel_rfl) (.cons (Asks.of (C := Meets Try.prog) (ballot_heads_Len.meets o0_v _ h2_2)) .nil) (by kernel_rfl) ?_
  obtain ⟨r3_1, h3_2, h⟩ := bd_inv h
  refine WK.rs (g := [.a ⟨.tup [], [[.data (.slc true none 1 (List.map e_i64 r3_1))]]⟩]) (l' := [(.t 0, [.ifc 122 (.ptr 1000 0)]), (.t 3, [iv (w64 (r2_1 - 1))]), (.o 1000, [.data (.slc true none 1 (List.map e_i64 r3_1))])]) (by kernel_rfl) (.cons (Asks.of (C := Meets Try.prog) (ballot_heads_Swap.meets 0 (w64 (r2_1 - 1)) o0_v _ h3_2)) .nil) (by kernel_rfl) ?_
  obtain ⟨⟨r4_1, r4_2⟩, h4_3, h⟩ := bd_inv h
  refine WK.rs (g := [.a ⟨bv r4_1, [[.data (.slc true none 1 (List.map e_i64 r4_2))]]⟩]) (l' := [(.t 0, [.ifc 122 (.ptr 1000 0)]), (.o 1000, [.data (.slc true none 1 (List.map e_i64 r4_2))])]) (by kernel_rfl) (.cons (Asks.of (C := Meets Try.prog) (heap_down.meets fu 0 (w64 (r2_1 - 1)) r3_1 _ _ h4_3)) .nil) (by kernel_rfl) ?_
  obtain ⟨⟨r5_1, r5_2⟩, h5_3, h⟩ := bd_inv h
  refine WK.rs (g := [.a ⟨.ifc 3 (iv r5_1), [[.data (.slc true none 1 (List.map e_i64 r5_2))]]⟩]) (l' := [(.t 2, [.ifc 3 (iv r5_1)]), (.o 1000, [.data (.slc true none 1 (List.map e_i64 r5_2))])]) (by kernel_rfl) (.cons (Asks.of (C := Meets Try.prog) (ballot_heads_Pop.meets r4_2 _ _ h5_3)) .nil) (by kernel_rfl) ?_
  refine WK.weak (l := [(.t 2, [.ifc 3 (iv r5_1)]), (.o 1000, [.data (.slc true none 1 (List.map e_i64 r5_2))])]) (wk_of (by kernel_rfl)) ?_
  refine WK.ret (by kernel_rfl) ?_
  have h_0 := some_inj h
  obtain ⟨g_1, h_1⟩ := Prod.mk.inj h_0
  subst g_1
  subst h_1
  exact WKe.fin (e' := .ret) (by kernel_rfl) (fin_of (g := []) (by first | exact .inl rfl | exact .inr rfl) .nil (by kernel_rfl))
/-- diwan/ballot.Most -/
noncomputable def bd97 : Code := (Try.f97.body).getD .skip
def ballot_Most.O : Nat → Nat := fun t => bif ([2, 3, 4, 6] : List Nat).any (Nat.beq t) then 1 else 0
noncomputable def ballot_Most.lp5 (fu : Nat) (l5_0 : List Int) : Nat → Int → Int → (List Int) → Option Int
  | 0, _, _, _ => none
  | n_ + 1, l5_1, l5_2, l5_3 =>
    bd (ballot_Majority (l5_0.length : Int)) fun r6_1 =>
    br (decide (l5_2 < r6_1))
      (bd (ballot_heads_Len l5_3) fun r6_4 =>
      br (decide (r6_4 > 0))
        (bd (heap_Pop fu l5_3) fun (r8_1, r8_2) =>
        ballot_Most.lp5 fu l5_0 n_ (if r8_1 < 0 then 0 else r8_1) (w64 (l5_2 + 1)) r8_2)
        (some l5_1))
      (some l5_1)
noncomputable def ballot_Most.lp5_post (l5_0 : List Int) (r_ : Int) : Wy → St → Prop := fun e τ => match r_ with
  | y0 => e = .exit 0 ∧ τ = ofL [(.t 2, [iv y0])]
theorem ballot_Most.lp5_ok (fu : Nat) (l5_0 : List Int) : ∀ (n_ : Nat) (l5_1 : Int) (l5_2 : Int) (l5_3 : List Int) (r_ : Int), ballot_Most.lp5 fu l5_0 n_ l5_1 l5_2 l5_3 = some r_ → WK Try.prog ballot_Most.O (Ck Try.prog) (cB (cR (cL (cR (cR (cR bd97)))))) [] (ofL [(.t 0, [.data (.slc false none 1 (List.map e_i64 l5_0))]), (.t 2, [iv l5_1]), (.t 3, [.ptr 3 0]), (.t 4, [iv l5_2]), (.o 3, [.data (.slc true none 1 (List.map e_i64 l5_3))])]) (ballot_Most.lp5_post l5_0 r_) := by
  intro n_
  induction n_ with
  | zero => intro l5_1 l5_2 l5_3 r_ h; exact no_none h
  | succ n_ ih =>
    intro l5_1 l5_2 l5_3 r_ h
    refine WK.loop (by kernel_rfl) ?_
    refine WK.seq (by kernel_rfl) ?_
    obtain ⟨r6_1, h6_2, h⟩ := bd_inv h
    rcases br_inv h with ⟨b6_3, h⟩ | ⟨b6_3, h⟩
    · obtain ⟨r6_4, h6_5, h⟩ := bd_inv h
      refine WK.rs (g := [.s (.t 11) [iv (l5_0.length : Int)], .a ⟨iv r6_1, []⟩, .b true, .b true, .a ⟨iv r6_4, []⟩, .b true, .b true]) (l' := [(.t 0, [.data (.slc false none 1 (List.map e_i64 l5_0))]), (.t 2, [iv l5_1]), (.t 3, [.ptr 3 0]), (.t 4, [iv l5_2]), (.t 18, [bv (decide (r6_4 > 0))]), (.o 3, [.data (.slc true none 1 (List.map e_i64 l5_3))])]) (by kernel_rfl) (.cons (c_len (e := e_i64) (l := l5_0)) (.cons (Asks.of (C := Meets Try.prog) (ballot_Majority.meets (l5_0.length : Int) _ h6_2)) (.cons b6_3 (.cons b6_3 (.cons (Asks.of (C := Meets Try.prog) (ballot_heads_Len.meets l5_3 _ h6_5)) (.cons b6_3 (.cons b6_3 .nil))))))) (by kernel_rfl) ?_
      rcases br_inv h with ⟨b7_0, h⟩ | ⟨b7_0, h⟩
      · refine WK.ct (b := (decide (r6_4 > 0))) (by kernel_rfl) b7_0 ?_
        refine WK.skip (by kernel_rfl) ?_
        refine WKe.code (y := (cR (cB (cB (cR (cL (cR (cR (cR bd97))))))))) (ks' := [.lp (cB (cR (cL (cR (cR (cR bd97))))))]) (by kernel_rfl) ?_
        refine WK.seq (by kernel_rfl) ?_
        refine WK.block (n := 1) (by kernel_rfl) ?_
        obtain ⟨⟨r8_1, r8_2⟩, h8_3, h⟩ := bd_inv h
        refine WK.rc (g := [.a ⟨.ifc 3 (iv r8_1), [[.data (.slc true none 1 (List.map e_i64 r8_2))]]⟩]) (l' := [(.t 0, [.data (.slc false none 1 (List.map e_i64 l5_0))]), (.t 2, [iv (if r8_1 < 0 then 0 else r8_1)]), (.t 3, [.ptr 3 0]), (.t 4, [iv l5_2]), (.o 3, [.data (.slc true none 1 (List.map e_i64 r8_2))])]) (.cons (Asks.of (C := Meets Try.prog) (heap_Pop.meets fu l5_3 _ _ h8_3)) .nil) (by kernel_rfl) (y := (cR (cR (cB (cB (cR (cL (cR (cR (cR bd97)))))))))) (ks' := [.lp (cB (cR (cL (cR (cR (cR bd97))))))]) (by kernel_rfl) ?_
        refine WK.rc (g := []) (l' := [(.t 0, [.data (.slc false none 1 (List.map e_i64 l5_0))]), (.t 2, [iv (if r8_1 < 0 then 0 else r8_1)]), (.t 3, [.ptr 3 0]), (.t 4, [iv (w64 (l5_2 + 1))]), (.o 3, [.data (.slc true none 1 (List.map e_i64 r8_2))])]) .nil (by kernel_rfl) (y := (cB (cR (cL (cR (cR (cR bd97))))))) (ks' := []) (by kernel_rfl) ?_
        exact WK.weak (l := [(.t 0, [.data (.slc false none 1 (List.map e_i64 l5_0))]), (.t 2, [iv (if r8_1 < 0 then 0 else r8_1)]), (.t 3, [.ptr 3 0]), (.t 4, [iv (w64 (l5_2 + 1))]), (.o 3, [.data (.slc true none 1 (List.map e_i64 r8_2))])]) (wk_of (by kernel_rfl)) (ih (if r8_1 < 0 then 0 else r8_1) (w64 (l5_2 + 1)) r8_2 _ h)
      · refine WK.ce (b := (decide (r6_4 > 0))) (by kernel_rfl) b7_0 ?_
        refine WK.weak (l := [(.t 2, [iv l5_1])]) (wk_of (by kernel_rfl)) ?_
        refine WK.exit (n := 0) (by kernel_rfl) ?_
        cases some_inj h
        exact WKe.fin (e' := .exit 0) (by kernel_rfl) ⟨rfl, rfl⟩
    · refine WK.rs (g := [.s (.t 11) [iv (l5_0.length : Int)], .a ⟨iv r6_1, []⟩, .b false, .b false, .b false, .b false]) (l' := [(.t 0, [.data (.slc false none 1 (List.map e_i64 l5_0))]), (.t 2, [iv l5_1]), (.t 3, [.ptr 3 0]), (.t 4, [iv l5_2]), (.t 18, [bv false]), (.o 3, [.data (.slc true none 1 (List.map e_i64 l5_3))])]) (by kernel_rfl) (.cons (c_len (e := e_i64) (l := l5_0)) (.cons (Asks.of (C := Meets Try.prog) (ballot_Majority.meets (l5_0.length : Int) _ h6_2)) (.cons b6_3 (.cons b6_3 (.cons b6_3 (.cons b6_3 .nil)))))) (by kernel_rfl) ?_
      refine WK.ce (b := false) (by kernel_rfl) rfl ?_
      refine WK.weak (l := [(.t 2, [iv l5_1])]) (wk_of (by kernel_rfl)) ?_
      refine WK.exit (n := 0) (by kernel_rfl) ?_
      cases some_inj h
      exact WKe.fin (e' := .exit 0) (by kernel_rfl) ⟨rfl, rfl⟩
noncomputable def ballot_Most (fu : Nat) (match_v : List Int) : Option Int :=
  bd (slices_Clone_int_int match_v) fun r2_1 =>
  bd (heap_Init fu r2_1) fun r3_1 =>
  bd (ballot_Most.lp5 fu match_v fu 0 0 r3_1) fun y10_0 =>
  some y10_0
theorem ballot_Most.meets (fu : Nat) (match_v : List Int) (z0 : Int) (h : ballot_Most fu match_v = some z0) : Meets Try.prog ⟨97, [.data (.slc false none 1 (List.map e_i64 match_v))], []⟩ ⟨iv z0, []⟩ := by
  refine meets_of (O := ballot_Most.O) hmix (fn := Try.f97) (code := bd97) (by kernel_rfl) ?_
  refine WK.weak (l := [(.t 0, [.data (.slc false none 1 (List.map e_i64 match_v))])]) (wk_of (by kernel_rfl)) ?_
  unfold ballot_Most at h
  refine WK.rs (g := []) (l' := [(.t 0, [.data (.slc false none 1 (List.map e_i64 match_v))]), (.t 2, [iv 0])]) (by kernel_rfl) .nil (by kernel_rfl) ?_
  obtain ⟨r2_1, h2_2, h⟩ := bd_inv h
  refine WK.rs (g := [.a ⟨.data (.slc true none 1 (List.map e_i64 r2_1)), []⟩]) (l' := [(.t 0, [.data (.slc false none 1 (List.map e_i64 match_v))]), (.t 2, [iv 0]), (.t 3, [.ptr 3 0]), (.o 3, [.data (.slc true none 1 (List.map e_i64 r2_1))])]) (by kernel_rfl) (.cons (Asks.of (C := Meets Try.prog) (slices_Clone_int_int.meets match_v _ h2_2)) .nil) (by kernel_rfl) ?_
  obtain ⟨r3_1, h3_2, h⟩ := bd_inv h
  refine WK.rs (g := [.a ⟨.tup [], [[.data (.slc true none 1 (List.map e_i64 r3_1))]]⟩]) (l' := [(.t 0, [.data (.slc false none 1 (List.map e_i64 match_v))]), (.t 2, [iv 0]), (.t 3, [.ptr 3 0]), (.o 3, [.data (.slc true none 1 (List.map e_i64 r3_1))])]) (by kernel_rfl) (.cons (Asks.of (C := Meets Try.prog) (heap_Init.meets fu r2_1 _ h3_2)) .nil) (by kernel_rfl) ?_
  refine WK.seq (by kernel_rfl) ?_
  refine WK.rs (g := []) (l' := [(.t 0, [.data (.slc false none 1 (List.map e_i64 match_v))]), (.t 2, [iv 0]), (.t 3, [.ptr 3 0]), (.t 4, [iv 0]), (.o 3, [.data (.slc true none 1 (List.map e_i64 r3_1))])]) (by kernel_rfl) .nil (by kernel_rfl) ?_
  refine WK.block (n := 0) (by kernel_rfl) ?_
  obtain ⟨o10, ho10, h⟩ := bd_inv h
  refine WK.weak (l := [(.t 0, [.data (.slc false none 1 (List.map e_i64 match_v))]), (.t 2, [iv 0]), (.t 3, [.ptr 3 0]), (.t 4, [iv 0]), (.o 3, [.data (.slc true none 1 (List.map e_i64 r3_1))])]) (wk_of (by kernel_rfl)) ?_
  refine WK.use (ballot_Most.lp5_ok fu match_v _ 0 0 r3_1 _ ho10) ?_
  intro e_ τ_ hp_
  obtain ⟨y10_0, rfl⟩ : ∃ y, y = o10 := ⟨_, rfl⟩
  obtain ⟨rfl, rfl⟩ := hp_
  refine WKe.code (y := (cR (cR (cR (cR bd97))))) (ks' := []) (by kernel_rfl) ?_
  refine WK.rs (g := []) (l' := [(.t 2, [iv y10_0])]) (by kernel_rfl) .nil (by kernel_rfl) ?_
  refine WK.weak (l := [(.t 2, [iv y10_0])]) (wk_of (by kernel_rfl)) ?_
  refine WK.ret (by kernel_rfl) ?_
  have h_ := some_inj h
  subst h_
  exact WKe.fin (e' := .ret) (by kernel_rfl) (fin_of (g := []) (by first | exact .inl rfl | exact .inr rfl) .nil (by kernel_rfl))
/-- diwan/ballot.Next -/
noncomputable def bd76 : Code := (Try.f76.body).getD .skip
def ballot_Next.O : Nat → Nat := fun t => bif ([8, 9] : List Nat).any (Nat.beq t) then 1 else 0
noncomputable def ballot_Next (fu : Nat) (match_v : List Int) (l : List TEntry) (term : Int) (commit : Int) : Option Int :=
  bd (ballot_Most fu match_v) fun r2_1 =>
  br (decide (r2_1 > commit))
    (br (decide (r2_1 ≤ (l.length : Int)))
      (bd (ulog_Term l r2_1) fun r3_3 =>
      br (r3_3 == term)
        (some r2_1)
        (some commit))
      (some commit))
    (some commit)
theorem ballot_Next.meets (fu : Nat) (match_v : List Int) (l : List TEntry) (term : Int) (commit : Int) (z0 : Int) (h : ballot_Next fu match_v l term commit = some z0) : Meets Try.prog ⟨76, [.data (.slc false none 1 (List.map e_i64 match_v)), .data (.slc false none 6 (List.map TEntry.en l)), iv term, iv commit], []⟩ ⟨iv z0, []⟩ := by
  refine meets_of (O := ballot_Next.O) hmix (fn := Try.f76) (code := bd76) (by kernel_rfl) ?_
  refine WK.weak (l := [(.t 0, [.data (.slc false none 1 (List.map e_i64 match_v))]), (.t 1, [.data (.slc false none 6 (List.map TEntry.en l))]), (.t 2, [iv term]), (.t 3, [iv commit])]) (wk_of (by kernel_rfl)) ?_
  unfold ballot_Next at h
  refine WK.rs (g := []) (l' := [(.t 0, [.data (.slc false none 1 (List.map e_i64 match_v))]), (.t 1, [.data (.slc false none 6 (List.map TEntry.en l))]), (.t 2, [iv term]), (.t 3, [iv commit])]) (by kernel_rfl) .nil (by kernel_rfl) ?_
  refine WK.seq (by kernel_rfl) ?_
  obtain ⟨r2_1, h2_2, h⟩ := bd_inv h
  refine WK.rs (g := [.a ⟨iv r2_1, []⟩]) (l' := [(.t 1, [.data (.slc false none 6 (List.map TEntry.en l))]), (.t 2, [iv term]), (.t 3, [iv commit]), (.t 9, [iv r2_1])]) (by kernel_rfl) (.cons (Asks.of (C := Meets Try.prog) (ballot_Most.meets fu match_v _ h2_2)) .nil) (by kernel_rfl) ?_
  rcases br_inv h with ⟨b3_1, h⟩ | ⟨b3_1, h⟩
  · rcases br_inv h with ⟨b3_2, h⟩ | ⟨b3_2, h⟩
    · obtain ⟨r3_3, h3_4, h⟩ := bd_inv h
      refine WK.rs (g := [.b true, .b true, .b true, .s (.t 18) [iv (l.length : Int)], .b true, .b true, .b true, .b true, .b true, .a ⟨iv r3_3, []⟩, .b true, .b true, .b true]) (l' := [(.t 3, [iv commit]), (.t 9, [iv r2_1]), (.t 27, [bv (r3_3 == term)])]) (by kernel_rfl) (.cons b3_1 (.cons b3_1 (.cons b3_1 (.cons (c_len (e := TEntry.en) (l := l)) (.cons b3_1 (.cons b3_1 (.cons b3_2 (.cons b3_2 (.cons b3_2 (.cons (Asks.of (C := Meets Try.prog) (ulog_Term.meets l r2_1 _ h3_4)) (.cons b3_2 (.cons b3_2 (.cons b3_2 .nil))))))))))))) (by kernel_rfl) ?_
      rcases br_inv h with ⟨b4_0, h⟩ | ⟨b4_0, h⟩
      · refine WK.ct (b := (r3_3 == term)) (by kernel_rfl) b4_0 ?_
        refine WK.rs (g := []) (l' := [(.t 8, [iv r2_1])]) (by kernel_rfl) .nil (by kernel_rfl) ?_
        refine WK.weak (l := [(.t 8, [iv r2_1])]) (wk_of (by kernel_rfl)) ?_
        refine WK.ret (by kernel_rfl) ?_
        have h_ := some_inj h
        subst h_
        exact WKe.fin (e' := .ret) (by kernel_rfl) (fin_of (g := []) (by first | exact .inl rfl | exact .inr rfl) .nil (by kernel_rfl))
      · refine WK.ce (b := (r3_3 == term)) (by kernel_rfl) b4_0 ?_
        refine WK.skip (by kernel_rfl) ?_
        refine WKe.code (y := (cR (cR bd76))) (ks' := []) (by kernel_rfl) ?_
        refine WK.rs (g := []) (l' := [(.t 8, [iv commit])]) (by kernel_rfl) .nil (by kernel_rfl) ?_
        refine WK.weak (l := [(.t 8, [iv commit])]) (wk_of (by kernel_rfl)) ?_
        refine WK.ret (by kernel_rfl) ?_
        have h_ := some_inj h
        subst h_
        exact WKe.fin (e' := .ret) (by kernel_rfl) (fin_of (g := []) (by first | exact .inl rfl | exact .inr rfl) .nil (by kernel_rfl))
    · refine WK.rs (g := [.b true, .b true, .b true, .s (.t 18) [iv (l.length : Int)], .b true, .b true, .b false, .b false, .b false, .b false, .b false, .b false]) (l' := [(.t 3, [iv commit]), (.t 9, [iv r2_1]), (.t 27, [bv false])]) (by kernel_rfl) (.cons b3_1 (.cons b3_1 (.cons b3_1 (.cons (c_len (e := TEntry.en) (l := l)) (.cons b3_1 (.cons b3_1 (.cons b3_2 (.cons b3_2 (.cons b3_2 (.cons b3_2 (.cons b3_2 (.cons b3_2 .nil)))))))))))) (by kernel_rfl) ?_
      refine WK.ce (b := false) (by kernel_rfl) rfl ?_
      refine WK.skip (by kernel_rfl) ?_
      refine WKe.code (y := (cR (cR bd76))) (ks' := []) (by kernel_rfl) ?_
      refine WK.rs (g := []) (l' := [(.t 8, [iv commit])]) (by kernel_rfl) .nil (by kernel_rfl) ?_
      refine WK.weak (l := [(.t 8, [iv commit])]) (wk_of (by kernel_rfl)) ?_
      refine WK.ret (by kernel_rfl) ?_
      have h_ := some_inj h
      subst h_
      exact WKe.fin (e' := .ret) (by kernel_rfl) (fin_of (g := []) (by first | exact .inl rfl | exact .inr rfl) .nil (by kernel_rfl))
  · refine WK.rs (g := [.b false, .b false, .b false, .b false, .b false, .b false, .b false, .b false, .b false, .b false, .b false]) (l' := [(.t 3, [iv commit]), (.t 9, [iv r2_1]), (.t 27, [bv false])]) (by kernel_rfl) (.cons b3_1 (.cons b3_1 (.cons b3_1 (.cons b3_1 (.cons b3_1 (.cons (Eq.refl false) (.cons (Eq.refl false) (.cons (Eq.refl false) (.cons (Eq.refl false) (.cons (Eq.refl false) (.cons (Eq.refl false) .nil))))))))))) (by kernel_rfl) ?_
    refine WK.ce (b := false) (by kernel_rfl) rfl ?_
    refine WK.skip (by kernel_rfl) ?_
    refine WKe.code (y := (cR (cR bd76))) (ks' := []) (by kernel_rfl) ?_
    refine WK.rs (g := []) (l' := [(.t 8, [iv commit])]) (by kernel_rfl) .nil (by kernel_rfl) ?_
    refine WK.weak (l := [(.t 8, [iv commit])]) (wk_of (by kernel_rfl)) ?_
    refine WK.ret (by kernel_rfl) ?_
    have h_ := some_inj h
    subst h_
    exact WKe.fin (e' := .ret) (by kernel_rfl) (fin_of (g := []) (by first | exact .inl rfl | exact .inr rfl) .nil (by kernel_rfl))
/-- (*diwan/raft.member).proposes -/
noncomputable def bd48 : Code := (Try.f48.body).getD .skip
def raft_member_proposes.O : Nat → Nat := fun t => bif ([3, 4, 33, 35, 55, 78] : List Nat).any (Nat.beq t) then 1 else 0
noncomputable def raft_member_proposes (fu : Nat) (e_v : TEntry) (o0_v : TMember) : Option (Bool × TMember) :=
  br (o0_v.Raft.Role != 2)
    (some (false, o0_v))
    (br (decide ((o0_v.Raft.Log.length : Int) ≥ 200))
      (some (false, o0_v))
      (bd (raft_entries fu ([(TEntry.mk o0_v.Raft.Term e_v.Seal e_v.T)] : List TEntry)) fun r7_1 =>
      gd (decide (o0_v.Raft.Log.length + r7_1.length ≤ 4294967296)) <|
      ix o0_v.Raft.Match (w64 (o0_v.Raft.Me - 1)) fun x8_1 =>
      bd (ballot_Next fu (o0_v.Raft.Match.set (w64 (o0_v.Raft.Me - 1)).toNat ((o0_v.Raft.Log ++ r7_1).length : Int)) (o0_v.Raft.Log ++ r7_1) o0_v.Raft.Term o0_v.Raft.Commit) fun r9_1 =>
      bd (raft_member_all fu (TMember.mk (TRaft.mk o0_v.Raft.Me o0_v.Raft.Nodes o0_v.Raft.Wait o0_v.Raft.Term o0_v.Raft.Vote (o0_v.Raft.Log ++ r7_1) r9_1 o0_v.Raft.Role o0_v.Raft.Leader o0_v.Raft.Votes o0_v.Raft.Next (o0_v.Raft.Match.set (w64 (o0_v.Raft.Me - 1)).toNat ((o0_v.Raft.Log ++ r7_1).length : Int)) o0_v.Raft.Clock) o0_v.out)) fun r10_1 =>
      some (true, r10_1)))
theorem raft_member_proposes.meets (fu : Nat) (e_v : TEntry) (o0_v : TMember) (z0 : Bool) (z1 : TMember) (h : raft_member_proposes fu e_v o0_v = some (z0, z1)) : Meets Try.prog ⟨48, [.ptr 1000 0, .data (TEntry.ag e_v)], [(TMember.ob_00000100011101 o0_v)]⟩ ⟨bv z0, [(TMember.ob_00000000011101 z1)]⟩ := by
  refine meets_of (O := raft_member_proposes.O) hmix (fn := Try.f48) (code := bd48) (by kernel_rfl) ?_
  refine WK.weak (l := [(.t 0, [.ptr 1000 0]), (.t 1, [.data (TEntry.ag e_v)]), (.o 1000, (TMember.ob_00000100011101 o0_v))]) (wk_of (by kernel_rfl)) ?_
  unfold raft_member_proposes at h
  refine WK.rs (g := []) (l' := [(.t 0, [.ptr 1000 0]), (.t 3, [.ptr 3 0]), (.o 3, (TEntry.ob e_v)), (.o 1000, (TMember.ob_00000100011101 o0_v))]) (by kernel_rfl) .nil (by kernel_rfl) ?_
  refine WK.seq (by kernel_rfl) ?_
  rcases br_inv h with ⟨b2_1, h⟩ | ⟨b2_1, h⟩
  · refine WK.rs (g := [.b true, .b true, .b true, .b true, .b true, .b true, .b true, .b true]) (l' := [(.t 0, [.ptr 1000 0]), (.t 3, [.ptr 3 0]), (.t 19, [bv true]), (.o 3, (TEntry.ob e_v)), (.o 1000, (TMember.ob_00000100011101 o0_v))]) (by kernel_rfl) (.cons b2_1 (.cons b2_1 (.cons b2_1 (.cons b2_1 (.cons b2_1 (.cons b2_1 (.cons b2_1 (.cons b2_1 .nil)))))))) (by kernel_rfl) ?_
    refine WK.ct (b := true) (by kernel_rfl) rfl ?_
    refine WK.rs (g := []) (l' := [(.t 4, [bv false]), (.o 1000, (TMember.ob_00000100011101 o0_v))]) (by kernel_rfl) .nil (by kernel_rfl) ?_
    refine WK.shareO (i := 1000) (cc := 5) (l' := [(.t 4, [bv false]), (.o 1000, (TMember.ob_00000000011101 o0_v))]) (by kernel_rfl) (by kernel_rfl) (by kernel_rfl) ?_
    refine WK.weak (l := [(.t 4, [bv false]), (.o 1000, (TMember.ob_00000000011101 o0_v))]) (wk_of (by kernel_rfl)) ?_
    refine WK.ret (by kernel_rfl) ?_
    have h_0 := some_inj h
    obtain ⟨g_1, h_1⟩ := Prod.mk.inj h_0
    subst g_1
    subst h_1
    exact WKe.fin (e' := .ret) (by kernel_rfl) (fin_of (g := []) (by first | exact .inl rfl | exact .inr rfl) .nil (by kernel_rfl))
  · refine WK.rs (g := [.b false, .b false, .b false, .b false, .b false, .b false, .s (.t 17) [iv (o0_v.Raft.Log.length : Int)], .b false, .b false]) (l' := [(.t 0, [.ptr 1000 0]), (.t 3, [.ptr 3 0]), (.t 19, [bv (decide ((o0_v.Raft.Log.length : Int) ≥ 200))]), (.o 3, (TEntry.ob e_v)), (.o 1000, (TMember.ob_00000100011101 o0_v))]) (by kernel_rfl) (.cons b2_1 (.cons b2_1 (.cons b2_1 (.cons b2_1 (.cons b2_1 (.cons b2_1 (.cons (c_len (e := TEntry.en) (l := o0_v.Raft.Log)) (.cons b2_1 (.cons b2_1 .nil))))))))) (by kernel_rfl) ?_
    rcases br_inv h with ⟨b4_0, h⟩ | ⟨b4_0, h⟩
    · refine WK.ct (b := (decide ((o0_v.Raft.Log.length : Int) ≥ 200))) (by kernel_rfl) b4_0 ?_
      refine WK.rs (g := []) (l' := [(.t 4, [bv false]), (.o 1000, (TMember.ob_00000100011101 o0_v))]) (by kernel_rfl) .nil (by kernel_rfl) ?_
      refine WK.shareO (i := 1000) (cc := 5) (l' := [(.t 4, [bv false]), (.o 1000, (TMember.ob_00000000011101 o0_v))]) (by kernel_rfl) (by kernel_rfl) (by kernel_rfl) ?_
      refine WK.weak (l := [(.t 4, [bv false]), (.o 1000, (TMember.ob_00000000011101 o0_v))]) (wk_of (by kernel_rfl)) ?_
      refine WK.ret (by kernel_rfl) ?_
      have h_0 := some_inj h
      obtain ⟨g_1, h_1⟩ := Prod.mk.inj h_0
      subst g_1
      subst h_1
      exact WKe.fin (e' := .ret) (by kernel_rfl) (fin_of (g := []) (by first | exact .inl rfl | exact .inr rfl) .nil (by kernel_rfl))
    · refine WK.ce (b := (decide ((o0_v.Raft.Log.length : Int) ≥ 200))) (by kernel_rfl) b4_0 ?_
      refine WK.skip (by kernel_rfl) ?_
      refine WKe.code (y := (cR (cR bd48))) (ks' := []) (by kernel_rfl) ?_
      refine WK.rs (g := []) (l' := [(.t 0, [.ptr 1000 0]), (.t 3, [.ptr 3 0]), (.o 3, (TEntry.ob (TEntry.mk o0_v.Raft.Term e_v.Seal e_v.T))), (.o 1000, (TMember.ob_00000100011101 o0_v))]) (by kernel_rfl) .nil (by kernel_rfl) ?_
      obtain ⟨r7_1, h7_2, h⟩ := bd_inv h
      obtain ⟨c7_3, h⟩ := gd_inv h
      refine WK.rs (g := [.a ⟨.data (.slc true none 6 (List.map TEntry.en r7_1)), []⟩, .s (.t 35) [.data (.slc true none 6 (List.map TEntry.en (o0_v.Raft.Log ++ r7_1)))]]) (l' := [(.t 0, [.ptr 1000 0]), (.o 1000, (TMember.ob_00000100011101 (TMember.mk (TRaft.mk o0_v.Raft.Me o0_v.Raft.Nodes o0_v.Raft.Wait o0_v.Raft.Term o0_v.Raft.Vote (o0_v.Raft.Log ++ r7_1) o0_v.Raft.Commit o0_v.Raft.Role o0_v.Raft.Leader o0_v.Raft.Votes o0_v.Raft.Next o0_v.Raft.Match o0_v.Raft.Clock) o0_v.out)))]) (by kernel_rfl) (.cons (Asks.fg (args1 := []) (args2 := []) (nl := some false) (sz := 6) (es := List.map TEntry.en ([(TEntry.mk o0_v.Raft.Term e_v.Seal e_v.T)] : List TEntry)) (Asks.of (C := Meets Try.prog) (raft_entries.meets fu ([(TEntry.mk o0_v.Raft.Term e_v.Seal e_v.T)] : List TEntry) _ h7_2))) (.cons (c_al (e := TEntry.en) (f := TEntry.en) c7_3) (.cons (congrArg (fun d : DV => [AV.data d]) (c_app (e := TEntry.en) (s := 6) (l := o0_v.Raft.Log) (m := r7_1))) (.cons (Eq.refl true) .nil)))) (by kernel_rfl) ?_
      obtain ⟨x8_1, a8_2, e8_3, h⟩ := ix_inv h
      refine WK.rs (g := [.s (.t 55) [iv ((o0_v.Raft.Log ++ r7_1).length : Int)], .c (e_i64 x8_1), .s (.o 1000) (TMember.ob_00000100011101 (TMember.mk (TRaft.mk o0_v.Raft.Me o0_v.Raft.Nodes o0_v.Raft.Wait o0_v.Raft.Term o0_v.Raft.Vote (o0_v.Raft.Log ++ r7_1) o0_v.Raft.Commit o0_v.Raft.Role o0_v.Raft.Leader o0_v.Raft.Votes o0_v.Raft.Next (o0_v.Raft.Match.set (w64 (o0_v.Raft.Me - 1)).toNat ((o0_v.Raft.Log ++ r7_1).length : Int)) o0_v.Raft.Clock) o0_v.out))]) (l' := [(.t 0, [.ptr 1000 0]), (.o 1000, (TMember.ob_00000100011101 (TMember.mk (TRaft.mk o0_v.Raft.Me o0_v.Raft.Nodes o0_v.Raft.Wait o0_v.Raft.Term o0_v.Raft.Vote (o0_v.Raft.Log ++ r7_1) o0_v.Raft.Commit o0_v.Raft.Role o0_v.Raft.Leader o0_v.Raft.Votes o0_v.Raft.Next (o0_v.Raft.Match.set (w64 (o0_v.Raft.Me - 1)).toNat ((o0_v.Raft.Log ++ r7_1).length : Int)) o0_v.Raft.Clock) o0_v.out)))]) (by kernel_rfl) (.cons (c_len (e := TEntry.en) (l := (o0_v.Raft.Log ++ r7_1))) (.cons (c_ix (e := e_i64) a8_2 e8_3) (.cons (c_el (e := e_i64) e8_3) (.cons (congrArg (fun d : DV => (TMember.ob_00000100011101 (TMember.mk (TRaft.mk o0_v.Raft.Me o0_v.Raft.Nodes o0_v.Raft.Wait o0_v.Raft.Term o0_v.Raft.Vote (o0_v.Raft.Log ++ r7_1) o0_v.Raft.Commit o0_v.Raft.Role o0_v.Raft.Leader o0_v.Raft.Votes o0_v.Raft.Next (o0_v.Raft.Match.set (w64 (o0_v.Raft.Me - 1)).toNat ((o0_v.Raft.Log ++ r7_1).length : Int)) o0_v.Raft.Clock) o0_v.out)).set 11 (AV.data d)) (c_set (e := e_i64) (s := 1) (nl := none) (l := o0_v.Raft.Match) (i := (w64 (o0_v.Raft.Me - 1)).toNat) (x := ((o0_v.Raft.Log ++ r7_1).length : Int)))) (.cons (Eq.refl true) .nil))))) (by kernel_rfl) ?_
      obtain ⟨r9_1, h9_2, h⟩ := bd_inv h
      refine WK.rs (g := [.a ⟨iv r9_1, []⟩]) (l' := [(.t 0, [.ptr 1000 0]), (.o 1000, (TMember.ob_00000100011101 (TMember.mk (TRaft.mk o0_v.Raft.Me o0_v.Raft.Nodes o0_v.Raft.Wait o0_v.Raft.Term o0_v.Raft.Vote (o0_v.Raft.Log ++ r7_1) r9_1 o0_v.Raft.Role o0_v.Raft.Leader o0_v.Raft.Votes o0_v.Raft.Next (o0_v.Raft.Match.set (w64 (o0_v.Raft.Me - 1)).toNat ((o0_v.Raft.Log ++ r7_1).length : Int)) o0_v.Raft.Clock) o0_v.out)))]) (by kernel_rfl) (.cons (Asks.of (C := Meets Try.prog) (ballot_Next.meets fu (o0_v.Raft.Match.set (w64 (o0_v.Raft.Me - 1)).toNat ((o0_v.Raft.Log ++ r7_1).length : Int)) (o0_v.Raft.Log ++ r7_1) o0_v.Raft.Term o0_v.Raft.Commit _ h9_2)) (.cons (Eq.refl true) .nil)) (by kernel_rfl) ?_
      obtain ⟨r10_1, h10_2, h⟩ := bd_inv h
      refine WK.rs (g := [.a ⟨.tup [], [(TMember.ob_00000000011101 r10_1)]⟩]) (l' := [(.o 1000, (TMember.ob_00000000011101 r10_1))]) (by kernel_rfl) (.cons (Asks.of (C := Meets Try.prog) (raft_member_all.meets fu (TMember.mk (TRaft.mk o0_v.Raft.Me o0_v.Raft.Nodes o0_v.Raft.Wait o0_v.Raft.Term o0_v.Raft.Vote (o0_v.Raft.Log ++ r7_1) r9_1 o0_v.Raft.Role o0_v.Raft.Leader o0_v.Raft.Votes o0_v.Raft.Next (o0_v.Raft.Match.set (w64 (o0_v.Raft.Me - 1)).toNat ((o0_v.Raft.Log ++ r7_1).length : Int)) o0_v.Raft.Clock) o0_v.out) _ h10_2)) .nil) (by kernel_rfl) ?_
      refine WK.rs (g := []) (l' := [(.t 4, [bv true]), (.o 1000, (TMember.ob_00000000011101 r10_1))]) (by kernel_rfl) .nil (by kernel_rfl) ?_
      refine WK.weak (l := [(.t 4, [bv true]), (.o 1000, (TMember.ob_00000000011101 r10_1))]) (wk_of (by kernel_rfl)) ?_
      refine WK.ret (by kernel_rfl) ?_
      have h_0 := some_inj h
      obtain ⟨g_1, h_1⟩ := Prod.mk.inj h_0
      subst g_1
      subst h_1
      exact WKe.fin (e' := .ret) (by kernel_rfl) (fin_of (g := []) (by first | exact .inl rfl | exact .inr rfl) .nil (by kernel_rfl))
/-- (*diwan/raft.member).all -/
def raft_member_all_2.O : Nat → Nat := fun t => bif ([4] : List Nat).any (Nat.beq t) then 1 else 0
noncomputable def raft_member_all_2.lp2 (fu : Nat) : Nat → Int → TMember → Option TMember
  | 0, _, _ => none
  | n_ + 1, l2_0, l2_1 =>
    br (decide (l2_0 ≤ l2_1.Raft.Nodes))
      (br (l2_0 != l2_1.Raft.Me)
        (bd (raft_member_more_2 fu l2_0 l2_1) fun r7_1 =>
        raft_member_all_2.lp2 fu n_ (w64 (l2_0 + 1)) r7_1)
        (raft_member_all_2.lp2 fu n_ (w64 (l2_0 + 1)) l2_1))
      (some l2_1)
noncomputable def raft_member_all_2.lp2_post (r_ : TMember) : Wy → St → Prop := fun e τ => match r_ with
  | y0 => e = .exit 0 ∧ τ = ofL [(.o 1000, (TMember.ob_00000000011101 y0))]
theorem raft_member_all_2.lp2_ok (fu : Nat) : ∀ (n_ : Nat) (l2_0 : Int) (l2_1 : TMember) (r_ : TMember), raft_member_all_2.lp2 fu n_ l2_0 l2_1 = some r_ → WK Try.prog raft_member_all_2.O (Ck Try.prog) (cB (cR bd74)) [] (ofL [(.t 0, [.ptr 1000 0]), (.t 1, [.fn (.func 75) [.ptr 1000 0] []]), (.t 4, [iv l2_0]), (.o 1000, (TMember.ob_00000000011101 l2_1))]) (raft_member_all_2.lp2_post r_) := by
  intro n_
  induction n_ with
  | zero => intro l2_0 l2_1 r_ h; exact no_none h
  | succ n_ ih =>
    intro l2_0 l2_1 r_ h
    refine WK.loop (by kernel_rfl) ?_
    refine WK.seq (by kernel_rfl) ?_
    refine WK.rs (g := []) (l' := [(.t 0, [.ptr 1000 0]), (.t 1, [.fn (.func 75) [.ptr 1000 0] []]), (.t 4, [iv l2_0]), (.t 11, [bv (decide (l2_0 ≤ l2_1.Raft.Nodes))]), (.o 1000, (TMember.ob_00000000011101 l2_1))]) (by kernel_rfl) .nil (by kernel_rfl) ?_
    rcases br_inv h with ⟨b4_0, h⟩ | ⟨b4_0, h⟩
    · refine WK.ct (b := (decide (l2_0 ≤ l2_1.Raft.Nodes))) (by kernel_rfl) b4_0 ?_
      refine WK.skip (by kernel_rfl) ?_
      refine WKe.code (y := (cR (cB (cB (cR bd74))))) (ks' := [.lp (cB (cR bd74))]) (by kernel_rfl) ?_
      refine WK.seq (by kernel_rfl) ?_
      refine WK.block (n := 1) (by kernel_rfl) ?_
      refine WK.rs (g := []) (l' := [(.t 0, [.ptr 1000 0]), (.t 1, [.fn (.func 75) [.ptr 1000 0] []]), (.t 4, [iv l2_0]), (.t 20, [bv (l2_0 != l2_1.Raft.Me)]), (.o 1000, (TMember.ob_00000000011101 l2_1))]) (by kernel_rfl) .nil (by kernel_rfl) ?_
      rcases br_inv h with ⟨b6_0, h⟩ | ⟨b6_0, h⟩
      · refine WK.ct (b := (l2_0 != l2_1.Raft.Me)) (by kernel_rfl) b6_0 ?_
        obtain ⟨r7_1, h7_2, h⟩ := bd_inv h
        refine WK.rc (g := [.a ⟨.tup [], [(TMember.ob_00000000011101 r7_1)]⟩]) (l' := [(.t 0, [.ptr 1000 0]), (.t 1, [.fn (.func 75) [.ptr 1000 0] []]), (.t 4, [iv l2_0]), (.o 1000, (TMember.ob_00000000011101 r7_1))]) (.cons (Asks.of (C := Meets Try.prog) (raft_member_more_2.meets fu l2_0 l2_1 _ h7_2)) .nil) (by kernel_rfl) (y := (cR (cR (cB (cB (cR bd74)))))) (ks' := [.lp (cB (cR bd74))]) (by kernel_rfl) ?_
        refine WK.rc (g := []) (l' := [(.t 0, [.ptr 1000 0]), (.t 1, [.fn (.func 75) [.ptr 1000 0] []]), (.t 4, [iv (w64 (l2_0 + 1))]), (.o 1000, (TMember.ob_00000000011101 r7_1))]) .nil (by kernel_rfl) (y := (cB (cR bd74))) (ks' := []) (by kernel_rfl) ?_
        exact WK.weak (l := [(.t 0, [.ptr 1000 0]), (.t 1, [.fn (.func 75) [.ptr 1000 0] []]), (.t 4, [iv (w64 (l2_0 + 1))]), (.o 1000, (TMember.ob_00000000011101 r7_1))]) (wk_of (by kernel_rfl)) (ih (w64 (l2_0 + 1)) r7_1 _ h)
      · refine WK.ce (b := (l2_0 != l2_1.Raft.Me)) (by kernel_rfl) b6_0 ?_
        refine WK.skip (by kernel_rfl) ?_
        refine WKe.code (y := (cR (cR (cB (cB (cR bd74)))))) (ks' := [.lp (cB (cR bd74))]) (by kernel_rfl) ?_
        refine WK.rc (g := []) (l' := [(.t 0, [.ptr 1000 0]), (.t 1, [.fn (.func 75) [.ptr 1000 0] []]), (.t 4, [iv (w64 (l2_0 + 1))]), (.o 1000, (TMember.ob_00000000011101 l2_1))]) .nil (by kernel_rfl) (y := (cB (cR bd74))) (ks' := []) (by kernel_rfl) ?_
        exact WK.weak (l := [(.t 0, [.ptr 1000 0]), (.t 1, [.fn (.func 75) [.ptr 1000 0] []]), (.t 4, [iv (w64 (l2_0 + 1))]), (.o 1000, (TMember.ob_00000000011101 l2_1))]) (wk_of (by kernel_rfl)) (ih (w64 (l2_0 + 1)) l2_1 _ h)
    · refine WK.ce (b := (decide (l2_0 ≤ l2_1.Raft.Nodes))) (by kernel_rfl) b4_0 ?_
      refine WK.weak (l := [(.o 1000, (TMember.ob_00000000011101 l2_1))]) (wk_of (by kernel_rfl)) ?_
      refine WK.exit (n := 0) (by kernel_rfl) ?_
      cases some_inj h
      exact WKe.fin (e' := .exit 0) (by kernel_rfl) ⟨rfl, rfl⟩
noncomputable def raft_member_all_2 (fu : Nat) (o0_v : TMember) : Option TMember :=
  bd (raft_member_all_2.lp2 fu fu 1 o0_v) fun y10_0 =>
  some y10_0
theorem raft_member_all_2.meets (fu : Nat) (o0_v : TMember) (z0 : TMember) (h : raft_member_all_2 fu o0_v = some z0) : Meets Try.prog ⟨74, [.ptr 1000 0, .fn (.func 75) [.ptr 1000 0] []], [(TMember.ob_00000000011101 o0_v)]⟩ ⟨.tup [], [(TMember.ob_00000000011101 z0)]⟩ := by
  refine meets_of (O := raft_member_all_2.O) hmix (fn := Try.f74) (code := bd74) (by kernel_rfl) ?_
  refine WK.weak (l := [(.t 0, [.ptr 1000 0]), (.t 1, [.fn (.func 75) [.ptr 1000 0] []]), (.o 1000, (TMember.ob_00000000011101 o0_v))]) (wk_of (by kernel_rfl)) ?_
  unfold raft_member_all_2 at h
  refine WK.rs (g := []) (l' := [(.t 0, [.ptr 1000 0]), (.t 1, [.fn (.func 75) [.ptr 1000 0] []]), (.t 4, [iv 1]), (.o 1000, (TMember.ob_00000000011101 o0_v))]) (by kernel_rfl) .nil (by kernel_rfl) ?_
  refine WK.block (n := 0) (by kernel_rfl) ?_
  obtain ⟨o10, ho10, h⟩ := bd_inv h
  refine WK.weak (l := [(.t 0, [.ptr 1000 0]), (.t 1, [.fn (.func 75) [.ptr 1000 0] []]), (.t 4, [iv 1]), (.o 1000, (TMember.ob_00000000011101 o0_v))]) (wk_of (by kernel_rfl)) ?_
  refine WK.use (raft_member_all_2.lp2_ok fu _ 1 o0_v _ ho10) ?_
  intro e_ τ_ hp_
  obtain ⟨y10_0, rfl⟩ : ∃ y, y = o10 := ⟨_, rfl⟩
  obtain ⟨rfl, rfl⟩ := hp_
  have h_ := some_inj h
  subst h_
  exact WKe.fin (e' := .normal) (by kernel_rfl) (fin_of (g := []) (by first | exact .inl rfl | exact .inr rfl) .nil (by kernel_rfl))
/-- (*diwan/raft.member).leads -/
noncomputable def bd99 : Code := (Try.f99.body).getD .skip
def raft_member_leads.O : Nat → Nat := fun t => bif ([2, 46, 66, 69] : List Nat).any (Nat.beq t) then 1 else 0
noncomputable def raft_member_leads.lp3 (fu : Nat) (l3_0 : Int) : Nat → Int → TMember → Option TMember
  | 0, _, _ => none
  | n_ + 1, l3_1, l3_2 =>
    br (decide (l3_1 < l3_0))
      (ix l3_2.Raft.Next l3_1 fun x7_1 =>
      ix l3_2.Raft.Match l3_1 fun x7_4 =>
      raft_member_leads.lp3 fu l3_0 n_ (w64 (l3_1 + 1)) (TMember.mk (TRaft.mk l3_2.Raft.Me l3_2.Raft.Nodes l3_2.Raft.Wait l3_2.Raft.Term l3_2.Raft.Vote l3_2.Raft.Log l3_2.Raft.Commit l3_2.Raft.Role l3_2.Raft.Leader l3_2.Raft.Votes (l3_2.Raft.Next.set l3_1.toNat (w64 ((l3_2.Raft.Log.length : Int) + 1))) (l3_2.Raft.Match.set l3_1.toNat 0) l3_2.Raft.Clock) l3_2.out))
      (some l3_2)
noncomputable def raft_member_leads.lp3_post (l3_0 : Int) (r_ : TMember) : Wy → St → Prop := fun e τ => match r_ with
  | y0 => e = .exit 0 ∧ τ = ofL [(.t 0, [.ptr 1000 0]), (.o 1000, (TMember.ob_00000100011101 y0))]
theorem raft_member_leads.lp3_ok (fu : Nat) (l3_0 : Int) : ∀ (n_ : Nat) (l3_1 : Int) (l3_2 : TMember) (r_ : TMember), raft_member_leads.lp3 fu l3_0 n_ l3_1 l3_2 = some r_ → WK Try.prog raft_member_leads.O (Ck Try.prog) (cB (cR (cL (cR bd99)))) [] (ofL [(.t 0, [.ptr 1000 0]), (.t 24, [iv l3_0]), (.t 25, [iv l3_1]), (.o 1000, (TMember.ob_00000100011101 l3_2))]) (raft_member_leads.lp3_post l3_0 r_) := by
  intro n_
  induction n_ with
  | zero => intro l3_1 l3_2 r_ h; exact no_none h
  | succ n_ ih =>
    intro l3_1 l3_2 r_ h
    refine WK.loop (by kernel_rfl) ?_
    refine WK.rs (g := []) (l' := [(.t 0, [.ptr 1000 0]), (.t 24, [iv l3_0]), (.t 25, [iv l3_1]), (.t 26, [bv (decide (l3_1 < l3_0))]), (.o 1000, (TMember.ob_00000100011101 l3_2))]) (by kernel_rfl) .nil (by kernel_rfl) ?_
    refine WK.seq (by kernel_rfl) ?_
    rcases br_inv h with ⟨b5_0, h⟩ | ⟨b5_0, h⟩
    · refine WK.ct (b := (decide (l3_1 < l3_0))) (by kernel_rfl) b5_0 ?_
      refine WK.skip (by kernel_rfl) ?_
      refine WKe.code (y := (cR (cR (cB (cB (cR (cL (cR bd99)))))))) (ks' := [.lp (cB (cR (cL (cR bd99))))]) (by kernel_rfl) ?_
      refine WK.seq (by kernel_rfl) ?_
      refine WK.block (n := 1) (by kernel_rfl) ?_
      refine WK.rs (g := []) (l' := [(.t 0, [.ptr 1000 0]), (.t 2, [iv l3_1]), (.t 24, [iv l3_0]), (.t 25, [iv l3_1]), (.o 1000, (TMember.ob_00000100011101 l3_2))]) (by kernel_rfl) .nil (by kernel_rfl) ?_
      obtain ⟨x7_1, a7_2, e7_3, h⟩ := ix_inv h
      obtain ⟨x7_4, a7_5, e7_6, h⟩ := ix_inv h
      refine WK.rc (g := [.s (.t 45) [iv (l3_2.Raft.Log.length : Int)], .c (e_i64 x7_1), .s (.o 1000) (TMember.ob_00000100011101 (TMember.mk (TRaft.mk l3_2.Raft.Me l3_2.Raft.Nodes l3_2.Raft.Wait l3_2.Raft.Term l3_2.Raft.Vote l3_2.Raft.Log l3_2.Raft.Commit l3_2.Raft.Role l3_2.Raft.Leader l3_2.Raft.Votes (l3_2.Raft.Next.set l3_1.toNat (w64 ((l3_2.Raft.Log.length : Int) + 1))) l3_2.Raft.Match l3_2.Raft.Clock) l3_2.out)), .c (e_i64 x7_4), .s (.o 1000) (TMember.ob_00000100011101 (TMember.mk (TRaft.mk l3_2.Raft.Me l3_2.Raft.Nodes l3_2.Raft.Wait l3_2.Raft.Term l3_2.Raft.Vote l3_2.Raft.Log l3_2.Raft.Commit l3_2.Raft.Role l3_2.Raft.Leader l3_2.Raft.Votes (l3_2.Raft.Next.set l3_1.toNat (w64 ((l3_2.Raft.Log.length : Int) + 1))) (l3_2.Raft.Match.set l3_1.toNat 0) l3_2.Raft.Clock) l3_2.out))]) (l' := [(.t 0, [.ptr 1000 0]), (.t 24, [iv l3_0]), (.t 25, [iv l3_1]), (.o 1000, (TMember.ob_00000100011101 (TMember.mk (TRaft.mk l3_2.Raft.Me l3_2.Raft.Nodes l3_2.Raft.Wait l3_2.Raft.Term l3_2.Raft.Vote l3_2.Raft.Log l3_2.Raft.Commit l3_2.Raft.Role l3_2.Raft.Leader l3_2.Raft.Votes (l3_2.Raft.Next.set l3_1.toNat (w64 ((l3_2.Raft.Log.length : Int) + 1))) (l3_2.Raft.Match.set l3_1.toNat 0) l3_2.Raft.Clock) l3_2.out)))]) (.cons (c_len (e := TEntry.en) (l := l3_2.Raft.Log)) (.cons (c_ix (e := e_i64) a7_2 e7_3) (.cons (c_el (e := e_i64) e7_3) (.cons (congrArg (fun d : DV => (TMember.ob_00000100011101 (TMember.mk (TRaft.mk l3_2.Raft.Me l3_2.Raft.Nodes l3_2.Raft.Wait l3_2.Raft.Term l3_2.Raft.Vote l3_2.Raft.Log l3_2.Raft.Commit l3_2.Raft.Role l3_2.Raft.Leader l3_2.Raft.Votes (l3_2.Raft.Next.set l3_1.toNat (w64 ((l3_2.Raft.Log.length : Int) + 1))) l3_2.Raft.Match l3_2.Raft.Clock) l3_2.out)).set 10 (AV.data d)) (c_set (e := e_i64) (s := 1) (nl := none) (l := l3_2.Raft.Next) (i := l3_1.toNat) (x := (w64 ((l3_2.Raft.Log.length : Int) + 1))))) (.cons (c_ix (e := e_i64) a7_5 e7_6) (.cons (c_el (e := e_i64) e7_6) (.cons (congrArg (fun d : DV => (TMember.ob_00000100011101 (TMember.mk (TRaft.mk l3_2.Raft.Me l3_2.Raft.Nodes l3_2.Raft.Wait l3_2.Raft.Term l3_2.Raft.Vote l3_2.Raft.Log l3_2.Raft.Commit l3_2.Raft.Role l3_2.Raft.Leader l3_2.Raft.Votes (l3_2.Raft.Next.set l3_1.toNat (w64 ((l3_2.Raft.Log.length : Int) + 1))) (l3_2.Raft.Match.set l3_1.toNat 0) l3_2.Raft.Clock) l3_2.out)).set 11 (AV.data d)) (c_set (e := e_i64) (s := 1) (nl := none) (l := l3_2.Raft.Match) (i := l3_1.toNat) (x := 0))) (.cons (Eq.refl true) .nil)))))))) (by kernel_rfl) (y := (cR (cR (cR (cB (cB (cR (cL (cR bd99))))))))) (ks' := [.lp (cB (cR (cL (cR bd99))))]) (by kernel_rfl) ?_
      refine WK.rc (g := []) (l' := [(.t 0, [.ptr 1000 0]), (.t 24, [iv l3_0]), (.t 25, [iv (w64 (l3_1 + 1))]), (.o 1000, (TMember.ob_00000100011101 (TMember.mk (TRaft.mk l3_2.Raft.Me l3_2.Raft.Nodes l3_2.Raft.Wait l3_2.Raft.Term l3_2.Raft.Vote l3_2.Raft.Log l3_2.Raft.Commit l3_2.Raft.Role l3_2.Raft.Leader l3_2.Raft.Votes (l3_2.Raft.Next.set l3_1.toNat (w64 ((l3_2.Raft.Log.length : Int) + 1))) (l3_2.Raft.Match.set l3_1.toNat 0) l3_2.Raft.Clock) l3_2.out)))]) .nil (by kernel_rfl) (y := (cB (cR (cL (cR bd99))))) (ks' := []) (by kernel_rfl) ?_
      exact WK.weak (l := [(.t 0, [.ptr 1000 0]), (.t 24, [iv l3_0]), (.t 25, [iv (w64 (l3_1 + 1))]), (.o 1000, (TMember.ob_00000100011101 (TMember.mk (TRaft.mk l3_2.Raft.Me l3_2.Raft.Nodes l3_2.Raft.Wait l3_2.Raft.Term l3_2.Raft.Vote l3_2.Raft.Log l3_2.Raft.Commit l3_2.Raft.Role l3_2.Raft.Leader l3_2.Raft.Votes (l3_2.Raft.Next.set l3_1.toNat (w64 ((l3_2.Raft.Log.length : Int) + 1))) (l3_2.Raft.Match.set l3_1.toNat 0) l3_2.Raft.Clock) l3_2.out)))]) (wk_of (by kernel_rfl)) (ih (w64 (l3_1 + 1)) (TMember.mk (TRaft.mk l3_2.Raft.Me l3_2.Raft.Nodes l3_2.Raft.Wait l3_2.Raft.Term l3_2.Raft.Vote l3_2.Raft.Log l3_2.Raft.Commit l3_2.Raft.Role l3_2.Raft.Leader l3_2.Raft.Votes (l3_2.Raft.Next.set l3_1.toNat (w64 ((l3_2.Raft.Log.length : Int) + 1))) (l3_2.Raft.Match.set l3_1.toNat 0) l3_2.Raft.Clock) l3_2.out) _ h)
    · refine WK.ce (b := (decide (l3_1 < l3_0))) (by kernel_rfl) b5_0 ?_
      refine WK.weak (l := [(.t 0, [.ptr 1000 0]), (.o 1000, (TMember.ob_00000100011101 l3_2))]) (wk_of (by kernel_rfl)) ?_
      refine WK.exit (n := 0) (by kernel_rfl) ?_
      cases some_inj h
      exact WKe.fin (e' := .exit 0) (by kernel_rfl) ⟨rfl, rfl⟩
noncomputable def raft_member_leads (fu : Nat) (o0_v : TMember) : Option TMember :=
  bd (raft_member_leads.lp3 fu o0_v.Raft.Nodes fu 0 (TMember.mk (TRaft.mk o0_v.Raft.Me o0_v.Raft.Nodes o0_v.Raft.Wait o0_v.Raft.Term o0_v.Raft.Vote o0_v.Raft.Log o0_v.Raft.Commit 2 o0_v.Raft.Me o0_v.Raft.Votes o0_v.Raft.Next o0_v.Raft.Match 0) o0_v.out)) fun y9_0 =>
  ix y9_0.Raft.Match (w64 (y9_0.Raft.Me - 1)) fun x10_1 =>
  bd (raft_member_proposes fu (TEntry.mk 0 true (TTxn.mk 0 0 [] [])) (TMember.mk (TRaft.mk y9_0.Raft.Me y9_0.Raft.Nodes y9_0.Raft.Wait y9_0.Raft.Term y9_0.Raft.Vote y9_0.Raft.Log y9_0.Raft.Commit y9_0.Raft.Role y9_0.Raft.Leader y9_0.Raft.Votes y9_0.Raft.Next (y9_0.Raft.Match.set (w64 (y9_0.Raft.Me - 1)).toNat (y9_0.Raft.Log.length : Int)) y9_0.Raft.Clock) y9_0.out)) fun (r11_1, r11_2) =>
  br (!r11_1)
    (bd (raft_member_all_2 fu r11_2) fun r13_1 =>
    some r13_1)
    (some r11_2)
theorem raft_member_leads.meets (fu : Nat) (o0_v : TMember) (z0 : TMember) (h : raft_member_leads fu o0_v = some z0) : Meets Try.prog ⟨99, [.ptr 1000 0], [(TMember.ob_00000100011101 o0_v)]⟩ ⟨.tup [], [(TMember.ob_00000000011101 z0)]⟩ := by
  refine meets_of (O := raft_member_leads.O) hmix (fn := Try.f99) (code := bd99) (by kernel_rfl) ?_
  refine WK.weak (l := [(.t 0, [.ptr 1000 0]), (.o 1000, (TMember.ob_00000100011101 o0_v))]) (wk_of (by kernel_rfl)) ?_
  unfold raft_member_leads at h
  refine WK.rs (g := []) (l' := [(.t 0, [.ptr 1000 0]), (.o 1000, (TMember.ob_00000100011101 (TMember.mk (TRaft.mk o0_v.Raft.Me o0_v.Raft.Nodes o0_v.Raft.Wait o0_v.Raft.Term o0_v.Raft.Vote o0_v.Raft.Log o0_v.Raft.Commit 2 o0_v.Raft.Me o0_v.Raft.Votes o0_v.Raft.Next o0_v.Raft.Match 0) o0_v.out)))]) (by kernel_rfl) .nil (by kernel_rfl) ?_
  refine WK.seq (by kernel_rfl) ?_
  refine WK.rs (g := []) (l' := [(.t 0, [.ptr 1000 0]), (.t 24, [iv o0_v.Raft.Nodes]), (.t 25, [iv 0]), (.o 1000, (TMember.ob_00000100011101 (TMember.mk (TRaft.mk o0_v.Raft.Me o0_v.Raft.Nodes o0_v.Raft.Wait o0_v.Raft.Term o0_v.Raft.Vote o0_v.Raft.Log o0_v.Raft.Commit 2 o0_v.Raft.Me o0_v.Raft.Votes o0_v.Raft.Next o0_v.Raft.Match 0) o0_v.out)))]) (by kernel_rfl) .nil (by kernel_rfl) ?_
  refine WK.block (n := 0) (by kernel_rfl) ?_
  obtain ⟨o9, ho9, h⟩ := bd_inv h
  refine WK.weak (l := [(.t 0, [.ptr 1000 0]), (.t 24, [iv o0_v.Raft.Nodes]), (.t 25, [iv 0]), (.o 1000, (TMember.ob_00000100011101 (TMember.mk (TRaft.mk o0_v.Raft.Me o0_v.Raft.Nodes o0_v.Raft.Wait o0_v.Raft.Term o0_v.Raft.Vote o0_v.Raft.Log o0_v.Raft.Commit 2 o0_v.Raft.Me o0_v.Raft.Votes o0_v.Raft.Next o0_v.Raft.Match 0) o0_v.out)))]) (wk_of (by kernel_rfl)) ?_
  refine WK.use (raft_member_leads.lp3_ok fu o0_v.Raft.Nodes _ 0 (TMember.mk (TRaft.mk o0_v.Raft.Me o0_v.Raft.Nodes o0_v.Raft.Wait o0_v.Raft.Term o0_v.Raft.Vote o0_v.Raft.Log o0_v.Raft.Commit 2 o0_v.Raft.Me o0_v.Raft.Votes o0_v.Raft.Next o0_v.Raft.Match 0) o0_v.out) _ ho9) ?_
  intro e_ τ_ hp_
  obtain ⟨y9_0, rfl⟩ : ∃ y, y = o9 := ⟨_, rfl⟩
  obtain ⟨rfl, rfl⟩ := hp_
  refine WKe.code (y := (cR (cR bd99))) (ks' := []) (by kernel_rfl) ?_
  obtain ⟨x10_1, a10_2, e10_3, h⟩ := ix_inv h
  refine WK.rs (g := [.s (.t 66) [iv (y9_0.Raft.Log.length : Int)], .c (e_i64 x10_1), .s (.o 1000) (TMember.ob_00000100011101 (TMember.mk (TRaft.mk y9_0.Raft.Me y9_0.Raft.Nodes y9_0.Raft.Wait y9_0.Raft.Term y9_0.Raft.Vote y9_0.Raft.Log y9_0.Raft.Commit y9_0.Raft.Role y9_0.Raft.Leader y9_0.Raft.Votes y9_0.Raft.Next (y9_0.Raft.Match.set (w64 (y9_0.Raft.Me - 1)).toNat (y9_0.Raft.Log.length : Int)) y9_0.Raft.Clock) y9_0.out))]) (l' := [(.t 0, [.ptr 1000 0]), (.o 1000, (TMember.ob_00000100011101 (TMember.mk (TRaft.mk y9_0.Raft.Me y9_0.Raft.Nodes y9_0.Raft.Wait y9_0.Raft.Term y9_0.Raft.Vote y9_0.Raft.Log y9_0.Raft.Commit y9_0.Raft.Role y9_0.Raft.Leader y9_0.Raft.Votes y9_0.Raft.Next (y9_0.Raft.Match.set (w64 (y9_0.Raft.Me - 1)).toNat (y9_0.Raft.Log.length : Int)) y9_0.Raft.Clock) y9_0.out)))]) (by kernel_rfl) (.cons (c_len (e := TEntry.en) (l := y9_0.Raft.Log)) (.cons (c_ix (e := e_i64) a10_2 e10_3) (.cons (c_el (e := e_i64) e10_3) (.cons (congrArg (fun d : DV => (TMember.ob_00000100011101 (TMember.mk (TRaft.mk y9_0.Raft.Me y9_0.Raft.Nodes y9_0.Raft.Wait y9_0.Raft.Term y9_0.Raft.Vote y9_0.Raft.Log y9_0.Raft.Commit y9_0.Raft.Role y9_0.Raft.Leader y9_0.Raft.Votes y9_0.Raft.Next (y9_0.Raft.Match.set (w64 (y9_0.Raft.Me - 1)).toNat (y9_0.Raft.Log.length : Int)) y9_0.Raft.Clock) y9_0.out)).set 11 (AV.data d)) (c_set (e := e_i64) (s := 1) (nl := none) (l := y9_0.Raft.Match) (i := (w64 (y9_0.Raft.Me - 1)).toNat) (x := (y9_0.Raft.Log.length : Int)))) (.cons (Eq.refl true) .nil))))) (by kernel_rfl) ?_
  obtain ⟨⟨r11_1, r11_2⟩, h11_3, h⟩ := bd_inv h
  refine WK.rs (g := [.a ⟨bv r11_1, [(TMember.ob_00000000011101 r11_2)]⟩]) (l' := [(.t 0, [.ptr 1000 0]), (.t 71, [bv (!r11_1)]), (.o 1000, (TMember.ob_00000000011101 r11_2))]) (by kernel_rfl) (.cons (Asks.of (C := Meets Try.prog) (raft_member_proposes.meets fu (TEntry.mk 0 true (TTxn.mk 0 0 [] [])) (TMember.mk (TRaft.mk y9_0.Raft.Me y9_0.Raft.Nodes y9_0.Raft.Wait y9_0.Raft.Term y9_0.Raft.Vote y9_0.Raft.Log y9_0.Raft.Commit y9_0.Raft.Role y9_0.Raft.Leader y9_0.Raft.Votes y9_0.Raft.Next (y9_0.Raft.Match.set (w64 (y9_0.Raft.Me - 1)).toNat (y9_0.Raft.Log.length : Int)) y9_0.Raft.Clock) y9_0.out) _ _ h11_3)) .nil) (by kernel_rfl) ?_
  rcases br_inv h with ⟨b12_0, h⟩ | ⟨b12_0, h⟩
  · refine WK.ct (b := (!r11_1)) (by kernel_rfl) b12_0 ?_
    obtain ⟨r13_1, h13_2, h⟩ := bd_inv h
    have h_ := some_inj h
    subst h_
    exact WK.rf (g := [.a ⟨.tup [], [(TMember.ob_00000000011101 r13_1)]⟩]) (.cons (Asks.of (C := Meets Try.prog) (raft_member_all_2.meets fu r11_2 _ h13_2)) .nil) (by kernel_rfl) (by kernel_rfl)
  · refine WK.ce (b := (!r11_1)) (by kernel_rfl) b12_0 ?_
    refine WK.weak (l := [(.o 1000, (TMember.ob_00000000011101 r11_2))]) (wk_of (by kernel_rfl)) ?_
    refine WK.skip (by kernel_rfl) ?_
    have h_ := some_inj h
    subst h_
    exact WKe.fin (e' := .normal) (by kernel_rfl) (fin_of (g := []) (by first | exact .inl rfl | exact .inr rfl) .nil (by kernel_rfl))
/-- (*diwan/raft.member).elected -/
noncomputable def bd79 : Code := (Try.f79.body).getD .skip
def raft_member_elected.O : Nat → Nat := fun t => bif ([2, 3] : List Nat).any (Nat.beq t) then 1 else 0
noncomputable def raft_member_elected (fu : Nat) (o0_v : TMember) : Option (Bool × TMember) :=
  bd (ballot_Many fu o0_v.Raft.Votes) fun r2_1 =>
  bd (ballot_Majority o0_v.Raft.Nodes) fun r2_3 =>
  br (decide (r2_1 ≥ r2_3))
    (bd (raft_member_leads fu o0_v) fun r5_1 =>
    some ((decide (r2_1 ≥ r2_3)), r5_1))
    (some ((decide (r2_1 ≥ r2_3)), o0_v))
theorem raft_member_elected.meets (fu : Nat) (o0_v : TMember) (z0 : Bool) (z1 : TMember) (h : raft_member_elected fu o0_v = some (z0, z1)) : Meets Try.prog ⟨79, [.ptr 1000 0], [(TMember.ob_00000100011101 o0_v)]⟩ ⟨bv z0, [(TMember.ob_00000000011101 z1)]⟩ := by
  refine meets_of (O := raft_member_elected.O) hmix (fn := Try.f79) (code := bd79) (by kernel_rfl) ?_
  refine WK.weak (l := [(.t 0, [.ptr 1000 0]), (.o 1000, (TMember.ob_00000100011101 o0_v))]) (wk_of (by kernel_rfl)) ?_
  unfold raft_member_elected at h
  refine WK.rs (g := []) (l' := [(.t 0, [.ptr 1000 0]), (.o 1000, (TMember.ob_00000100011101 o0_v))]) (by kernel_rfl) .nil (by kernel_rfl) ?_
  obtain ⟨r2_1, h2_2, h⟩ := bd_inv h
  obtain ⟨r2_3, h2_4, h⟩ := bd_inv h
  refine WK.rs (g := [.a ⟨iv r2_1, []⟩, .a ⟨iv r2_3, []⟩]) (l' := [(.t 0, [.ptr 1000 0]), (.t 3, [bv (decide (r2_1 ≥ r2_3))]), (.o 1000, (TMember.ob_00000100011101 o0_v))]) (by kernel_rfl) (.cons (Asks.of (C := Meets Try.prog) (ballot_Many.meets fu o0_v.Raft.Votes _ h2_2)) (.cons (Asks.of (C := Meets Try.prog) (ballot_Majority.meets o0_v.Raft.Nodes _ h2_4)) (.cons (Eq.refl true) .nil))) (by kernel_rfl) ?_
  refine WK.seq (by kernel_rfl) ?_
  refine WK.rs (g := []) (l' := [(.t 0, [.ptr 1000 0]), (.t 3, [bv (decide (r2_1 ≥ r2_3))]), (.t 17, [bv (decide (r2_1 ≥ r2_3))]), (.o 1000, (TMember.ob_00000100011101 o0_v))]) (by kernel_rfl) .nil (by kernel_rfl) ?_
  rcases br_inv h with ⟨b4_0, h⟩ | ⟨b4_0, h⟩
  · refine WK.ct (b := (decide (r2_1 ≥ r2_3))) (by kernel_rfl) b4_0 ?_
    obtain ⟨r5_1, h5_2, h⟩ := bd_inv h
    refine WK.rc (g := [.a ⟨.tup [], [(TMember.ob_00000000011101 r5_1)]⟩]) (l' := [(.t 3, [bv (decide (r2_1 ≥ r2_3))]), (.o 1000, (TMember.ob_00000000011101 r5_1))]) (.cons (Asks.of (C := Meets Try.prog) (raft_member_leads.meets fu o0_v _ h5_2)) .nil) (by kernel_rfl) (y := (cR (cR (cR bd79)))) (ks' := []) (by kernel_rfl) ?_
    refine WK.rs (g := []) (l' := [(.t 2, [bv (decide (r2_1 ≥ r2_3))]), (.o 1000, (TMember.ob_00000000011101 r5_1))]) (by kernel_rfl) .nil (by kernel_rfl) ?_
    refine WK.weak (l := [(.t 2, [bv (decide (r2_1 ≥ r2_3))]), (.o 1000, (TMember.ob_00000000011101 r5_1))]) (wk_of (by kernel_rfl)) ?_
    refine WK.ret (by kernel_rfl) ?_
    have h_0 := some_inj h
    obtain ⟨g_1, h_1⟩ := Prod.mk.inj h_0
    subst g_1
    subst h_1
    exact WKe.fin (e' := .ret) (by kernel_rfl) (fin_of (g := []) (by first | exact .inl rfl | exact .inr rfl) .nil (by kernel_rfl))
  · refine WK.ce (b := (decide (r2_1 ≥ r2_3))) (by kernel_rfl) b4_0 ?_
    refine WK.skip (by kernel_rfl) ?_
    refine WKe.code (y := (cR (cR (cR bd79)))) (ks' := []) (by kernel_rfl) ?_
    refine WK.rs (g := []) (l' := [(.t 2, [bv (decide (r2_1 ≥ r2_3))]), (.o 1000, (TMember.ob_00000100011101 o0_v))]) (by kernel_rfl) .nil (by kernel_rfl) ?_
    refine WK.shareO (i := 1000) (cc := 5) (l' := [(.t 2, [bv (decide (r2_1 ≥ r2_3))]), (.o 1000, (TMember.ob_00000000011101 o0_v))]) (by kernel_rfl) (by kernel_rfl) (by kernel_rfl) ?_
    refine WK.weak (l := [(.t 2, [bv (decide (r2_1 ≥ r2_3))]), (.o 1000, (TMember.ob_00000000011101 o0_v))]) (wk_of (by kernel_rfl)) ?_
    refine WK.ret (by kernel_rfl) ?_
    have h_0 := some_inj h
    obtain ⟨g_1, h_1⟩ := Prod.mk.inj h_0
    subst g_1
    subst h_1
    exact WKe.fin (e' := .ret) (by kernel_rfl) (fin_of (g := []) (by first | exact .inl rfl | exact .inr rfl) .nil (by kernel_rfl))
/-- (*diwan/raft.member).stands$1 -/
noncomputable def bd95 : Code := (Try.f95.body).getD .skip
def raft_member_stands_1.O : Nat → Nat := fun t => bif ([23] : List Nat).any (Nat.beq t) then 1 else 0
noncomputable def raft_member_stands_1 (to : Int) (o1_v : TMember) : Option TMember :=
  bd (ulog_Term o1_v.Raft.Log (o1_v.Raft.Log.length : Int)) fun r1_1 =>
  bd (raft_member_sends to (TMsg.mk 1 0 0 0 0 (o1_v.Raft.Log.length : Int) r1_1 0 false [] (TTxn.mk 0 0 [] []) 0 0 0 0 false ByteArray.empty ByteArray.empty [] [] 0) o1_v) fun r1_3 =>
  some r1_3
theorem raft_member_stands_1.meets (to : Int) (o1_v : TMember) (z0 : TMember) (h : raft_member_stands_1 to o1_v = some z0) : Meets Try.prog ⟨95, [iv to, .ptr 1000 0], [[.ptr 1001 0], (TMember.ob_00000000011101 o1_v)]⟩ ⟨.tup [], [[.ptr 1001 0], (TMember.ob_00000000011101 z0)]⟩ := by
  refine meets_of (O := raft_member_stands_1.O) hmix (fn := Try.f95) (code := bd95) (by kernel_rfl) ?_
  refine WK.weak (l := [(.t 0, [iv to]), (.t 1, [.ptr 1000 0]), (.o 1000, [.ptr 1001 0]), (.o 1001, (TMember.ob_00000000011101 o1_v))]) (wk_of (by kernel_rfl)) ?_
  unfold raft_member_stands_1 at h
  obtain ⟨r1_1, h1_2, h⟩ := bd_inv h
  obtain ⟨r1_3, h1_4, h⟩ := bd_inv h
  have h_ := some_inj h
  subst h_
  exact WK.rf (g := [.s (.t 10) [iv (o1_v.Raft.Log.length : Int)], .s (.t 21) [iv (o1_v.Raft.Log.length : Int)], .a ⟨iv r1_1, []⟩, .a ⟨.tup [], [(TMember.ob_00000000011101 r1_3)]⟩]) (.cons (c_len (e := TEntry.en) (l := o1_v.Raft.Log)) (.cons (c_len (e := TEntry.en) (l := o1_v.Raft.Log)) (.cons (Asks.of (C := Meets Try.prog) (ulog_Term.meets o1_v.Raft.Log (o1_v.Raft.Log.length : Int) _ h1_2)) (.cons (Asks.of (C := Meets Try.prog) (raft_member_sends.meets to (TMsg.mk 1 0 0 0 0 (o1_v.Raft.Log.length : Int) r1_1 0 false [] (TTxn.mk 0 0 [] []) 0 0 0 0 false ByteArray.empty ByteArray.empty [] [] 0) o1_v _ h1_4)) (.cons (Eq.refl true) .nil))))) (by kernel_rfl) (by kernel_rfl)
/-- (*diwan/raft.member).all -/
def raft_member_all_3.O : Nat → Nat := fun t => bif ([4] : List Nat).any (Nat.beq t) then 1 else 0
noncomputable def raft_member_all_3.lp2 (fu : Nat) : Nat → Int → TMember → Option TMember
  | 0, _, _ => none
  | n_ + 1, l2_0, l2_1 =>
    br (decide (l2_0 ≤ l2_1.Raft.Nodes))
      (br (l2_0 != l2_1.Raft.Me)
        (bd (raft_member_stands_1 l2_0 l2_1) fun r7_1 =>
        raft_member_all_3.lp2 fu n_ (w64 (l2_0 + 1)) r7_1)
        (raft_member_all_3.lp2 fu n_ (w64 (l2_0 + 1)) l2_1))
      (some l2_1)
noncomputable def raft_member_all_3.lp2_post (r_ : TMember) : Wy → St → Prop := fun e τ => match r_ with
  | y0 => e = .exit 0 ∧ τ = ofL [(.o 1000, (TMember.ob_00000000011101 y0)), (.o 1001, [.ptr 1000 0])]
theorem raft_member_all_3.lp2_ok (fu : Nat) : ∀ (n_ : Nat) (l2_0 : Int) (l2_1 : TMember) (r_ : TMember), raft_member_all_3.lp2 fu n_ l2_0 l2_1 = some r_ → WK Try.prog raft_member_all_3.O (Ck Try.prog) (cB (cR bd74)) [] (ofL [(.t 0, [.ptr 1000 0]), (.t 1, [.fn (.func 95) [] [.ptr 1001 0]]), (.t 4, [iv l2_0]), (.o 1000, (TMember.ob_00000000011101 l2_1)), (.o 1001, [.ptr 1000 0])]) (raft_member_all_3.lp2_post r_) := by
  intro n_
  induction n_ with
  | zero => intro l2_0 l2_1 r_ h; exact no_none h
  | succ n_ ih =>
    intro l2_0 l2_1 r_ h
    refine WK.loop (by kernel_rfl) ?_
    refine WK.seq (by kernel_rfl) ?_
    refine WK.rs (g := []) (l' := [(.t 0, [.ptr 1000 0]), (.t 1, [.fn (.func 95) [] [.ptr 1001 0]]), (.t 4, [iv l2_0]), (.t 11, [bv (decide (l2_0 ≤ l2_1.Raft.Nodes))]), (.o 1000, (TMember.ob_00000000011101 l2_1)), (.o 1001, [.ptr 1000 0])]) (by kernel_rfl) .nil (by kernel_rfl) ?_
    rcases br_inv h with ⟨b4_0, h⟩ | ⟨b4_0, h⟩
    · refine WK.ct (b := (decide (l2_0 ≤ l2_1.Raft.Nodes))) (by kernel_rfl) b4_0 ?_
      refine WK.skip (by kernel_rfl) ?_
      refine WKe.code (y := (cR (cB (cB (cR bd74))))) (ks' := [.lp (cB (cR bd74))]) (by kernel_rfl) ?_
      refine WK.seq (by kernel_rfl) ?_
      refine WK.block (n := 1) (by kernel_rfl) ?_
      refine WK.rs (g := []) (l' := [(.t 0, [.ptr 1000 0]), (.t 1, [.fn (.func 95) [] [.ptr 1001 0]]), (.t 4, [iv l2_0]), (.t 20, [bv (l2_0 != l2_1.Raft.Me)]), (.o 1000, (TMember.ob_00000000011101 l2_1)), (.o 1001, [.ptr 1000 0])]) (by kernel_rfl) .nil (by kernel_rfl) ?_
      rcases br_inv h with ⟨b6_0, h⟩ | ⟨b6_0, h⟩
      · refine WK.ct (b := (l2_0 != l2_1.Raft.Me)) (by kernel_rfl) b6_0 ?_
        obtain ⟨r7_1, h7_2, h⟩ := bd_inv h
        refine WK.rc (g := [.a ⟨.tup [], [[.ptr 1001 0], (TMember.ob_00000000011101 r7_1)]⟩]) (l' := [(.t 0, [.ptr 1000 0]), (.t 1, [.fn (.func 95) [] [.ptr 1001 0]]), (.t 4, [iv l2_0]), (.o 1000, (TMember.ob_00000000011101 r7_1)), (.o 1001, [.ptr 1000 0])]) (.cons (Asks.of (C := Meets Try.prog) (raft_member_stands_1.meets l2_0 l2_1 _ h7_2)) .nil) (by kernel_rfl) (y := (cR (cR (cB (cB (cR bd74)))))) (ks' := [.lp (cB (cR bd74))]) (by kernel_rfl) ?_
        refine WK.rc (g := []) (l' := [(.t 0, [.ptr 1000 0]), (.t 1, [.fn (.func 95) [] [.ptr 1001 0]]), (.t 4, [iv (w64 (l2_0 + 1))]), (.o 1000, (TMember.ob_00000000011101 r7_1)), (.o 1001, [.ptr 1000 0])]) .nil (by kernel_rfl) (y := (cB (cR bd74))) (ks' := []) (by kernel_rfl) ?_
        exact WK.weak (l := [(.t 0, [.ptr 1000 0]), (.t 1, [.fn (.func 95) [] [.ptr 1001 0]]), (.t 4, [iv (w64 (l2_0 + 1))]), (.o 1000, (TMember.ob_00000000011101 r7_1)), (.o 1001, [.ptr 1000 0])]) (wk_of (by kernel_rfl)) (ih (w64 (l2_0 + 1)) r7_1 _ h)
      · refine WK.ce (b := (l2_0 != l2_1.Raft.Me)) (by kernel_rfl) b6_0 ?_
        refine WK.skip (by kernel_rfl) ?_
        refine WKe.code (y := (cR (cR (cB (cB (cR bd74)))))) (ks' := [.lp (cB (cR bd74))]) (by kernel_rfl) ?_
        refine WK.rc (g := []) (l' := [(.t 0, [.ptr 1000 0]), (.t 1, [.fn (.func 95) [] [.ptr 1001 0]]), (.t 4, [iv (w64 (l2_0 + 1))]), (.o 1000, (TMember.ob_00000000011101 l2_1)), (.o 1001, [.ptr 1000 0])]) .nil (by kernel_rfl) (y := (cB (cR bd74))) (ks' := []) (by kernel_rfl) ?_
        exact WK.weak (l := [(.t 0, [.ptr 1000 0]), (.t 1, [.fn (.func 95) [] [.ptr 1001 0]]), (.t 4, [iv (w64 (l2_0 + 1))]), (.o 1000, (TMember.ob_00000000011101 l2_1)), (.o 1001, [.ptr 1000 0])]) (wk_of (by kernel_rfl)) (ih (w64 (l2_0 + 1)) l2_1 _ h)
    · refine WK.ce (b := (decide (l2_0 ≤ l2_1.Raft.Nodes))) (by kernel_rfl) b4_0 ?_
      refine WK.weak (l := [(.o 1000, (TMember.ob_00000000011101 l2_1)), (.o 1001, [.ptr 1000 0])]) (wk_of (by kernel_rfl)) ?_
      refine WK.exit (n := 0) (by kernel_rfl) ?_
      cases some_inj h
      exact WKe.fin (e' := .exit 0) (by kernel_rfl) ⟨rfl, rfl⟩
noncomputable def raft_member_all_3 (fu : Nat) (o0_v : TMember) : Option TMember :=
  bd (raft_member_all_3.lp2 fu fu 1 o0_v) fun y10_0 =>
  some y10_0
theorem raft_member_all_3.meets (fu : Nat) (o0_v : TMember) (z0 : TMember) (h : raft_member_all_3 fu o0_v = some z0) : Meets Try.prog ⟨74, [.ptr 1000 0, .fn (.func 95) [] [.ptr 1001 0]], [(TMember.ob_00000000011101 o0_v), [.ptr 1000 0]]⟩ ⟨.tup [], [(TMember.ob_00000000011101 z0), [.ptr 1000 0]]⟩ := by
  refine meets_of (O := raft_member_all_3.O) hmix (fn := Try.f74) (code := bd74) (by kernel_rfl) ?_
  refine WK.weak (l := [(.t 0, [.ptr 1000 0]), (.t 1, [.fn (.func 95) [] [.ptr 1001 0]]), (.o 1000, (TMember.ob_00000000011101 o0_v)), (.o 1001, [.ptr 1000 0])]) (wk_of (by kernel_rfl)) ?_
  unfold raft_member_all_3 at h
  refine WK.rs (g := []) (l' := [(.t 0, [.ptr 1000 0]), (.t 1, [.fn (.func 95) [] [.ptr 1001 0]]), (.t 4, [iv 1]), (.o 1000, (TMember.ob_00000000011101 o0_v)), (.o 1001, [.ptr 1000 0])]) (by kernel_rfl) .nil (by kernel_rfl) ?_
  refine WK.block (n := 0) (by kernel_rfl) ?_
  obtain ⟨o10, ho10, h⟩ := bd_inv h
  refine WK.weak (l := [(.t 0, [.ptr 1000 0]), (.t 1, [.fn (.func 95) [] [.ptr 1001 0]]), (.t 4, [iv 1]), (.o 1000, (TMember.ob_00000000011101 o0_v)), (.o 1001, [.ptr 1000 0])]) (wk_of (by kernel_rfl)) ?_
  refine WK.use (raft_member_all_3.lp2_ok fu _ 1 o0_v _ ho10) ?_
  intro e_ τ_ hp_
  obtain ⟨y10_0, rfl⟩ : ∃ y, y = o10 := ⟨_, rfl⟩
  obtain ⟨rfl, rfl⟩ := hp_
  have h_ := some_inj h
  subst h_
  exact WKe.fin (e' := .normal) (by kernel_rfl) (fin_of (g := []) (by first | exact .inl rfl | exact .inr rfl) .nil (by kernel_rfl))
/-- (*diwan/raft.member).stands -/
noncomputable def bd73 : Code := (Try.f73.body).getD .skip
def raft_member_stands.O : Nat → Nat := fun t => bif ([1, 7] : List Nat).any (Nat.beq t) then 1 else 0
noncomputable def raft_member_stands (fu : Nat) (o0_v : TMember) : Option TMember :=
  ix (List.replicate o0_v.Raft.Votes.length (false : Bool)) (w64 (o0_v.Raft.Me - 1)) fun x5_1 =>
  bd (raft_member_elected fu (TMember.mk (TRaft.mk o0_v.Raft.Me o0_v.Raft.Nodes o0_v.Raft.Wait (w64 (o0_v.Raft.Term + 1)) o0_v.Raft.Me o0_v.Raft.Log o0_v.Raft.Commit 1 0 ((List.replicate o0_v.Raft.Votes.length (false : Bool)).set (w64 (o0_v.Raft.Me - 1)).toNat true) o0_v.Raft.Next o0_v.Raft.Match 0) o0_v.out)) fun (r6_1, r6_2) =>
  br (!r6_1)
    (bd (raft_member_all_3 fu r6_2) fun r8_1 =>
    some r8_1)
    (some r6_2)
theorem raft_member_stands.meets (fu : Nat) (o0_v : TMember) (z0 : TMember) (h : raft_member_stands fu o0_v = some z0) : Meets Try.prog ⟨73, [.ptr 1000 0], [(TMember.ob_00000100011101 o0_v)]⟩ ⟨.tup [], [(TMember.ob_00000000011101 z0)]⟩ := by
  refine meets_of (O := raft_member_stands.O) hmix (fn := Try.f73) (code := bd73) (by kernel_rfl) ?_
  refine WK.weak (l := [(.t 0, [.ptr 1000 0]), (.o 1000, (TMember.ob_00000100011101 o0_v))]) (wk_of (by kernel_rfl)) ?_
  unfold raft_member_stands at h
  refine WK.rs (g := []) (l' := [(.t 1, [.ptr 1 0]), (.o 1, [.ptr 1000 0]), (.o 1000, (TMember.ob_00000100011101 o0_v))]) (by kernel_rfl) .nil (by kernel_rfl) ?_
  refine WK.rs (g := []) (l' := [(.t 1, [.ptr 1 0]), (.o 1, [.ptr 1000 0]), (.o 1000, (TMember.ob_00000100011101 (TMember.mk (TRaft.mk o0_v.Raft.Me o0_v.Raft.Nodes o0_v.Raft.Wait (w64 (o0_v.Raft.Term + 1)) o0_v.Raft.Vote o0_v.Raft.Log o0_v.Raft.Commit o0_v.Raft.Role o0_v.Raft.Leader o0_v.Raft.Votes o0_v.Raft.Next o0_v.Raft.Match o0_v.Raft.Clock) o0_v.out)))]) (by kernel_rfl) .nil (by kernel_rfl) ?_
  refine WK.rs (g := []) (l' := [(.t 1, [.ptr 1 0]), (.o 1, [.ptr 1000 0]), (.o 1000, (TMember.ob_00000100011101 (TMember.mk (TRaft.mk o0_v.Raft.Me o0_v.Raft.Nodes o0_v.Raft.Wait (w64 (o0_v.Raft.Term + 1)) o0_v.Raft.Me o0_v.Raft.Log o0_v.Raft.Commit 1 0 o0_v.Raft.Votes o0_v.Raft.Next o0_v.Raft.Match 0) o0_v.out)))]) (by kernel_rfl) (.cons (Eq.refl true) .nil) (by kernel_rfl) ?_
  refine WK.rs (g := [.s (.o 1000) (TMember.ob_00000100011101 (TMember.mk (TRaft.mk o0_v.Raft.Me o0_v.Raft.Nodes o0_v.Raft.Wait (w64 (o0_v.Raft.Term + 1)) o0_v.Raft.Me o0_v.Raft.Log o0_v.Raft.Commit 1 0 (List.replicate o0_v.Raft.Votes.length (false : Bool)) o0_v.Raft.Next o0_v.Raft.Match 0) o0_v.out))]) (l' := [(.t 1, [.ptr 1 0]), (.o 1, [.ptr 1000 0]), (.o 1000, (TMember.ob_00000100011101 (TMember.mk (TRaft.mk o0_v.Raft.Me o0_v.Raft.Nodes o0_v.Raft.Wait (w64 (o0_v.Raft.Term + 1)) o0_v.Raft.Me o0_v.Raft.Log o0_v.Raft.Commit 1 0 (List.replicate o0_v.Raft.Votes.length (false : Bool)) o0_v.Raft.Next o0_v.Raft.Match 0) o0_v.out)))]) (by kernel_rfl) (.cons (congrArg (fun d : DV => (TMember.ob_00000100011101 (TMember.mk (TRaft.mk o0_v.Raft.Me o0_v.Raft.Nodes o0_v.Raft.Wait (w64 (o0_v.Raft.Term + 1)) o0_v.Raft.Me o0_v.Raft.Log o0_v.Raft.Commit 1 0 (List.replicate o0_v.Raft.Votes.length (false : Bool)) o0_v.Raft.Next o0_v.Raft.Match 0) o0_v.out)).set 9 (AV.data d)) (c_clr (e := e_b) (s := 1) (nl := none) (l := o0_v.Raft.Votes) (x := (false : Bool)))) .nil) (by kernel_rfl) ?_
  obtain ⟨x5_1, a5_2, e5_3, h⟩ := ix_inv h
  refine WK.rs (g := [.c (e_b x5_1), .s (.o 1000) (TMember.ob_00000100011101 (TMember.mk (TRaft.mk o0_v.Raft.Me o0_v.Raft.Nodes o0_v.Raft.Wait (w64 (o0_v.Raft.Term + 1)) o0_v.Raft.Me o0_v.Raft.Log o0_v.Raft.Commit 1 0 ((List.replicate o0_v.Raft.Votes.length (false : Bool)).set (w64 (o0_v.Raft.Me - 1)).toNat true) o0_v.Raft.Next o0_v.Raft.Match 0) o0_v.out))]) (l' := [(.t 1, [.ptr 1 0]), (.o 1, [.ptr 1000 0]), (.o 1000, (TMember.ob_00000100011101 (TMember.mk (TRaft.mk o0_v.Raft.Me o0_v.Raft.Nodes o0_v.Raft.Wait (w64 (o0_v.Raft.Term + 1)) o0_v.Raft.Me o0_v.Raft.Log o0_v.Raft.Commit 1 0 ((List.replicate o0_v.Raft.Votes.length (false : Bool)).set (w64 (o0_v.Raft.Me - 1)).toNat true) o0_v.Raft.Next o0_v.Raft.Match 0) o0_v.out)))]) (by kernel_rfl) (.cons (c_ix (e := e_b) a5_2 e5_3) (.cons (c_el (e := e_b) e5_3) (.cons (congrArg (fun d : DV => (TMember.ob_00000100011101 (TMember.mk (TRaft.mk o0_v.Raft.Me o0_v.Raft.Nodes o0_v.Raft.Wait (w64 (o0_v.Raft.Term + 1)) o0_v.Raft.Me o0_v.Raft.Log o0_v.Raft.Commit 1 0 ((List.replicate o0_v.Raft.Votes.length (false : Bool)).set (w64 (o0_v.Raft.Me - 1)).toNat true) o0_v.Raft.Next o0_v.Raft.Match 0) o0_v.out)).set 9 (AV.data d)) (c_set (e := e_b) (s := 1) (nl := none) (l := (List.replicate o0_v.Raft.Votes.length (false : Bool))) (i := (w64 (o0_v.Raft.Me - 1)).toNat) (x := true))) (.cons (Eq.refl true) .nil)))) (by kernel_rfl) ?_
  obtain ⟨⟨r6_1, r6_2⟩, h6_3, h⟩ := bd_inv h
  refine WK.rs (g := [.a ⟨bv r6_1, [(TMember.ob_00000000011101 r6_2)]⟩]) (l' := [(.t 1, [.ptr 1 0]), (.t 51, [bv (!r6_1)]), (.o 1, [.ptr 1000 0]), (.o 1000, (TMember.ob_00000000011101 r6_2))]) (by kernel_rfl) (.cons (Asks.of (C := Meets Try.prog) (raft_member_elected.meets fu (TMember.mk (TRaft.mk o0_v.Raft.Me o0_v.Raft.Nodes o0_v.Raft.Wait (w64 (o0_v.Raft.Term + 1)) o0_v.Raft.Me o0_v.Raft.Log o0_v.Raft.Commit 1 0 ((List.replicate o0_v.Raft.Votes.length (false : Bool)).set (w64 (o0_v.Raft.Me - 1)).toNat true) o0_v.Raft.Next o0_v.Raft.Match 0) o0_v.out) _ _ h6_3)) .nil) (by kernel_rfl) ?_
  rcases br_inv h with ⟨b7_0, h⟩ | ⟨b7_0, h⟩
  · refine WK.ct (b := (!r6_1)) (by kernel_rfl) b7_0 ?_
    obtain ⟨r8_1, h8_2, h⟩ := bd_inv h
    have h_ := some_inj h
    subst h_
    exact WK.rf (g := [.a ⟨.tup [], [(TMember.ob_00000000011101 r8_1), [.ptr 1000 0]]⟩]) (.cons (Asks.of (C := Meets Try.prog) (raft_member_all_3.meets fu r6_2 _ h8_2)) .nil) (by kernel_rfl) (by kernel_rfl)
  · refine WK.ce (b := (!r6_1)) (by kernel_rfl) b7_0 ?_
    refine WK.weak (l := [(.o 1000, (TMember.ob_00000000011101 r6_2))]) (wk_of (by kernel_rfl)) ?_
    refine WK.skip (by kernel_rfl) ?_
    have h_ := some_inj h
    subst h_
    exact WKe.fin (e' := .normal) (by kernel_rfl) (fin_of (g := []) (by first | exact .inl rfl | exact .inr rfl) .nil (by kernel_rfl))
/-- (*diwan/raft.member).waits -/
noncomputable def bd46 : Code := (Try.f46.body).getD .skip
def raft_member_waits.O : Nat → Nat := fun t => bif ([7] : List Nat).any (Nat.beq t) then 1 else 0
noncomputable def raft_member_waits (fu : Nat) (o0_v : TMember) : Option TMember :=
  br (decide ((w64 (o0_v.Raft.Clock + 1)) ≥ o0_v.Raft.Wait))
    (bd (raft_member_stands fu (TMember.mk (TRaft.mk o0_v.Raft.Me o0_v.Raft.Nodes o0_v.Raft.Wait o0_v.Raft.Term o0_v.Raft.Vote o0_v.Raft.Log o0_v.Raft.Commit o0_v.Raft.Role o0_v.Raft.Leader o0_v.Raft.Votes o0_v.Raft.Next o0_v.Raft.Match (w64 (o0_v.Raft.Clock + 1))) o0_v.out)) fun r4_1 =>
    some r4_1)
    (some (TMember.mk (TRaft.mk o0_v.Raft.Me o0_v.Raft.Nodes o0_v.Raft.Wait o0_v.Raft.Term o0_v.Raft.Vote o0_v.Raft.Log o0_v.Raft.Commit o0_v.Raft.Role o0_v.Raft.Leader o0_v.Raft.Votes o0_v.Raft.Next o0_v.Raft.Match (w64 (o0_v.Raft.Clock + 1))) o0_v.out))
theorem raft_member_waits.meets (fu : Nat) (o0_v : TMember) (z0 : TMember) (h : raft_member_waits fu o0_v = some z0) : Meets Try.prog ⟨46, [.ptr 1000 0], [(TMember.ob_00000100011101 o0_v)]⟩ ⟨.tup [], [(TMember.ob_00000000011101 z0)]⟩ := by
  refine meets_of (O := raft_member_waits.O) hmix (fn := Try.f46) (code := bd46) (by kernel_rfl) ?_
  refine WK.weak (l := [(.t 0, [.ptr 1000 0]), (.o 1000, (TMember.ob_00000100011101 o0_v))]) (wk_of (by kernel_rfl)) ?_
  unfold raft_member_waits at h
  refine WK.rs (g := []) (l' := [(.t 0, [.ptr 1000 0]), (.o 1000, (TMember.ob_00000100011101 (TMember.mk (TRaft.mk o0_v.Raft.Me o0_v.Raft.Nodes o0_v.Raft.Wait o0_v.Raft.Term o0_v.Raft.Vote o0_v.Raft.Log o0_v.Raft.Commit o0_v.Raft.Role o0_v.Raft.Leader o0_v.Raft.Votes o0_v.Raft.Next o0_v.Raft.Match (w64 (o0_v.Raft.Clock + 1))) o0_v.out)))]) (by kernel_rfl) .nil (by kernel_rfl) ?_
  refine WK.rs (g := []) (l' := [(.t 0, [.ptr 1000 0]), (.t 21, [bv (decide ((w64 (o0_v.Raft.Clock + 1)) ≥ o0_v.Raft.Wait))]), (.o 1000, (TMember.ob_00000100011101 (TMember.mk (TRaft.mk o0_v.Raft.Me o0_v.Raft.Nodes o0_v.Raft.Wait o0_v.Raft.Term o0_v.Raft.Vote o0_v.Raft.Log o0_v.Raft.Commit o0_v.Raft.Role o0_v.Raft.Leader o0_v.Raft.Votes o0_v.Raft.Next o0_v.Raft.Match (w64 (o0_v.Raft.Clock + 1))) o0_v.out)))]) (by kernel_rfl) (.cons (Eq.refl true) .nil) (by kernel_rfl) ?_
  rcases br_inv h with ⟨b3_0, h⟩ | ⟨b3_0, h⟩
  · refine WK.ct (b := (decide ((w64 (o0_v.Raft.Clock + 1)) ≥ o0_v.Raft.Wait))) (by kernel_rfl) b3_0 ?_
    obtain ⟨r4_1, h4_2, h⟩ := bd_inv h
    have h_ := some_inj h
    subst h_
    exact WK.rf (g := [.a ⟨.tup [], [(TMember.ob_00000000011101 r4_1)]⟩]) (.cons (Asks.of (C := Meets Try.prog) (raft_member_stands.meets fu (TMember.mk (TRaft.mk o0_v.Raft.Me o0_v.Raft.Nodes o0_v.Raft.Wait o0_v.Raft.Term o0_v.Raft.Vote o0_v.Raft.Log o0_v.Raft.Commit o0_v.Raft.Role o0_v.Raft.Leader o0_v.Raft.Votes o0_v.Raft.Next o0_v.Raft.Match (w64 (o0_v.Raft.Clock + 1))) o0_v.out) _ h4_2)) .nil) (by kernel_rfl) (by kernel_rfl)
  · refine WK.ce (b := (decide ((w64 (o0_v.Raft.Clock + 1)) ≥ o0_v.Raft.Wait))) (by kernel_rfl) b3_0 ?_
    refine WK.shareO (i := 1000) (cc := 5) (l' := [(.o 1000, (TMember.ob_00000000011101 (TMember.mk (TRaft.mk o0_v.Raft.Me o0_v.Raft.Nodes o0_v.Raft.Wait o0_v.Raft.Term o0_v.Raft.Vote o0_v.Raft.Log o0_v.Raft.Commit o0_v.Raft.Role o0_v.Raft.Leader o0_v.Raft.Votes o0_v.Raft.Next o0_v.Raft.Match (w64 (o0_v.Raft.Clock + 1))) o0_v.out)))]) (by kernel_rfl) (by kernel_rfl) (by kernel_rfl) ?_
    refine WK.weak (l := [(.o 1000, (TMember.ob_00000000011101 (TMember.mk (TRaft.mk o0_v.Raft.Me o0_v.Raft.Nodes o0_v.Raft.Wait o0_v.Raft.Term o0_v.Raft.Vote o0_v.Raft.Log o0_v.Raft.Commit o0_v.Raft.Role o0_v.Raft.Leader o0_v.Raft.Votes o0_v.Raft.Next o0_v.Raft.Match (w64 (o0_v.Raft.Clock + 1))) o0_v.out)))]) (wk_of (by kernel_rfl)) ?_
    refine WK.skip (by kernel_rfl) ?_
    have h_ := some_inj h
    subst h_
    exact WKe.fin (e' := .normal) (by kernel_rfl) (fin_of (g := []) (by first | exact .inl rfl | exact .inr rfl) .nil (by kernel_rfl))
/-- diwan/raft.Tick -/
noncomputable def bd22 : Code := (Try.f22.body).getD .skip
def raft_Tick.O : Nat → Nat := fun t => bif ([1, 2, 4, 5, 10, 13, 14] : List Nat).any (Nat.beq t) then 1 else 0
noncomputable def raft_Tick (fu : Nat) (r_v : TRaft) : Option (TRaft × List TMsg) :=
  bd (raft_May fu r_v) fun r2_1 =>
  br (!r2_1)
    (bd (raft_twin fu r_v) fun r4_1 =>
    some (r4_1, []))
    (bd (raft_twin fu r_v) fun r5_1 =>
    br (r5_1.Role == 2)
      (bd (raft_member_told fu (TMember.mk r5_1 [])) fun r10_1 =>
      some (r10_1.Raft, r10_1.out))
      (bd (raft_member_waits fu (TMember.mk r5_1 [])) fun r12_1 =>
      some (r12_1.Raft, r12_1.out)))
theorem raft_Tick.meets (fu : Nat) (r_v : TRaft) (z0 : TRaft) (z1 : List TMsg) (h : raft_Tick fu r_v = some (z0, z1)) : Meets Try.prog ⟨22, [.data (TRaft.ag r_v)], []⟩ ⟨.tup [.data (TRaft.ag z0), .data (.slc false none 24 (List.map TMsg.en z1))], []⟩ := by
  refine meets_of (O := raft_Tick.O) hmix (fn := Try.f22) (code := bd22) (by kernel_rfl) ?_
  refine WK.weak (l := [(.t 0, [.data (TRaft.ag r_v)])]) (wk_of (by kernel_rfl)) ?_
  unfold raft_Tick at h
  refine WK.rs (g := []) (l' := [(.t 1, [.ptr 1 0]), (.t 2, [.ptr 2 0]), (.o 1, (TRaft.ob r_v)), (.o 2, (TRaft.ob_000001000111 (TRaft.mk 0 0 0 0 0 [] 0 0 0 [] [] [] 0)))]) (by kernel_rfl) .nil (by kernel_rfl) ?_
  refine WK.seq (by kernel_rfl) ?_
  obtain ⟨r2_1, h2_2, h⟩ := bd_inv h
  refine WK.rs (g := [.a ⟨bv r2_1, []⟩]) (l' := [(.t 1, [.ptr 1 0]), (.t 2, [.ptr 2 0]), (.t 8, [bv (!r2_1)]), (.o 1, (TRaft.ob r_v)), (.o 2, (TRaft.ob_000001000111 (TRaft.mk 0 0 0 0 0 [] 0 0 0 [] [] [] 0)))]) (by kernel_rfl) (.cons (Asks.of (C := Meets Try.prog) (raft_May.meets fu r_v _ h2_2)) .nil) (by kernel_rfl) ?_
  rcases br_inv h with ⟨b3_0, h⟩ | ⟨b3_0, h⟩
  · refine WK.ct (b := (!r2_1)) (by kernel_rfl) b3_0 ?_
    obtain ⟨r4_1, h4_2, h⟩ := bd_inv h
    refine WK.rs (g := [.a ⟨.data (TRaft.ag_000001000111 r4_1), []⟩]) (l' := [(.t 2, [.ptr 2 0]), (.t 3, [.data (.slc false (some true) 24 (List.map TMsg.en []))]), (.o 2, (TRaft.ob_000001000111 r4_1))]) (by kernel_rfl) (.cons (Asks.of (C := Meets Try.prog) (raft_twin.meets fu r_v _ h4_2)) .nil) (by kernel_rfl) ?_
    refine WK.weak (l := [(.t 2, [.ptr 2 0]), (.t 3, [.data (.slc false none 24 (List.map TMsg.en []))]), (.o 2, (TRaft.ob_000001000111 r4_1))]) (wk_of (by kernel_rfl)) ?_
    refine WK.ret (by kernel_rfl) ?_
    have h_0 := some_inj h
    obtain ⟨g_1, h_1⟩ := Prod.mk.inj h_0
    subst g_1
    subst h_1
    exact WKe.fin (e' := .ret) (by kernel_rfl) (fin_of (g := []) (by first | exact .inl rfl | exact .inr rfl) .nil (by kernel_rfl))
  · refine WK.ce (b := (!r2_1)) (by kernel_rfl) b3_0 ?_
    refine WK.skip (by kernel_rfl) ?_
    refine WKe.code (y := (cR (cR bd22))) (ks' := []) (by kernel_rfl) ?_
    obtain ⟨r5_1, h5_2, h⟩ := bd_inv h
    refine WK.rs (g := [.a ⟨.data (TRaft.ag_000001000111 r5_1), []⟩]) (l' := [(.t 2, [.ptr 2 0]), (.t 4, [.ptr 14 0]), (.o 2, (TRaft.ob_000001000111 (TRaft.mk 0 0 0 0 0 [] 0 0 0 [] [] [] 0))), (.o 14, (TMember.ob_00000100011101 (TMember.mk r5_1 [])))]) (by kernel_rfl) (.cons (Asks.of (C := Meets Try.prog) (raft_twin.meets fu r_v _ h5_2)) .nil) (by kernel_rfl) ?_
    refine WK.rs (g := []) (l' := [(.t 2, [.ptr 2 0]), (.t 4, [.ptr 14 0]), (.t 5, [.fn (.func 46) [.ptr 14 0] []]), (.o 2, (TRaft.ob_000001000111 (TRaft.mk 0 0 0 0 0 [] 0 0 0 [] [] [] 0))), (.o 14, (TMember.ob_00000100011101 (TMember.mk r5_1 [])))]) (by kernel_rfl) .nil (by kernel_rfl) ?_
    refine WK.seq (by kernel_rfl) ?_
    refine WK.rs (g := []) (l' := [(.t 2, [.ptr 2 0]), (.t 4, [.ptr 14 0]), (.t 5, [.fn (.func 46) [.ptr 14 0] []]), (.t 22, [bv (r5_1.Role == 2)]), (.o 2, (TRaft.ob_000001000111 (TRaft.mk 0 0 0 0 0 [] 0 0 0 [] [] [] 0))), (.o 14, (TMember.ob_00000100011101 (TMember.mk r5_1 [])))]) (by kernel_rfl) .nil (by kernel_rfl) ?_
    rcases br_inv h with ⟨b8_0, h⟩ | ⟨b8_0, h⟩
    · refine WK.ct (b := (r5_1.Role == 2)) (by kernel_rfl) b8_0 ?_
      refine WK.rc (g := []) (l' := [(.t 2, [.ptr 2 0]), (.t 4, [.ptr 14 0]), (.t 5, [.fn (.func 47) [.ptr 14 0] []]), (.o 2, (TRaft.ob_000001000111 (TRaft.mk 0 0 0 0 0 [] 0 0 0 [] [] [] 0))), (.o 14, (TMember.ob_00000100011101 (TMember.mk r5_1 [])))]) .nil (by kernel_rfl) (y := (cR (cR (cR (cR (cR bd22)))))) (ks' := []) (by kernel_rfl) ?_
      obtain ⟨r10_1, h10_2, h⟩ := bd_inv h
      refine WK.rs (g := [.a ⟨.tup [], [(TMember.ob_00000000011101 r10_1)]⟩]) (l' := [(.t 2, [.ptr 2 0]), (.t 4, [.ptr 14 0]), (.o 2, (TRaft.ob_000001000111 (TRaft.mk 0 0 0 0 0 [] 0 0 0 [] [] [] 0))), (.o 14, (TMember.ob_00000000011101 r10_1))]) (by kernel_rfl) (.cons (Asks.of (C := Meets Try.prog) (raft_member_told.meets fu (TMember.mk r5_1 []) _ h10_2)) .nil) (by kernel_rfl) ?_
      refine WK.shareO (i := 14) (cc := 10) (l' := [(.t 2, [.ptr 2 0]), (.t 4, [.ptr 14 0]), (.o 2, (TRaft.ob_000001000111 (TRaft.mk 0 0 0 0 0 [] 0 0 0 [] [] [] 0))), (.o 14, (TMember.ob_00000000010101 r10_1))]) (by kernel_rfl) (by kernel_rfl) (by kernel_rfl) ?_
      refine WK.shareO (i := 14) (cc := 11) (l' := [(.t 2, [.ptr 2 0]), (.t 4, [.ptr 14 0]), (.o 2, (TRaft.ob_000001000111 (TRaft.mk 0 0 0 0 0 [] 0 0 0 [] [] [] 0))), (.o 14, (TMember.ob_00000000010001 r10_1))]) (by kernel_rfl) (by kernel_rfl) (by kernel_rfl) ?_
      refine WK.shareO (i := 14) (cc := 13) (l' := [(.t 2, [.ptr 2 0]), (.t 4, [.ptr 14 0]), (.o 2, (TRaft.ob_000001000111 (TRaft.mk 0 0 0 0 0 [] 0 0 0 [] [] [] 0))), (.o 14, (TMember.ob_0000000001 r10_1))]) (by kernel_rfl) (by kernel_rfl) (by kernel_rfl) ?_
      refine WK.shareO (i := 14) (cc := 9) (l' := [(.t 2, [.ptr 2 0]), (.t 4, [.ptr 14 0]), (.o 2, (TRaft.ob_000001000111 (TRaft.mk 0 0 0 0 0 [] 0 0 0 [] [] [] 0))), (.o 14, (TMember.ob r10_1))]) (by kernel_rfl) (by kernel_rfl) (by kernel_rfl) ?_
      refine WK.rs (g := []) (l' := [(.t 2, [.ptr 2 0]), (.t 3, [.data (.slc false none 24 (List.map TMsg.en r10_1.out))]), (.o 2, (TRaft.ob r10_1.Raft))]) (by kernel_rfl) (.cons (Eq.refl true) .nil) (by kernel_rfl) ?_
      refine WK.weak (l := [(.t 2, [.ptr 2 0]), (.t 3, [.data (.slc false none 24 (List.map TMsg.en r10_1.out))]), (.o 2, (TRaft.ob r10_1.Raft))]) (wk_of (by kernel_rfl)) ?_
      refine WK.ret (by kernel_rfl) ?_
      have h_0 := some_inj h
      obtain ⟨g_1, h_1⟩ := Prod.mk.inj h_0
      subst g_1
      subst h_1
      exact WKe.fin (e' := .ret) (by kernel_rfl) (fin_of (g := []) (by first | exact .inl rfl | exact .inr rfl) .nil (by kernel_rfl))
    · refine WK.ce (b := (r5_1.Role == 2)) (by kernel_rfl) b8_0 ?_
      refine WK.skip (by kernel_rfl) ?_
      refine WKe.code (y := (cR (cR (cR (cR (cR bd22)))))) (ks' := []) (by kernel_rfl) ?_
      obtain ⟨r12_1, h12_2, h⟩ := bd_inv h
      refine WK.rs (g := [.a ⟨.tup [], [(TMember.ob_00000000011101 r12_1)]⟩]) (l' := [(.t 2, [.ptr 2 0]), (.t 4, [.ptr 14 0]), (.o 2, (TRaft.ob_000001000111 (TRaft.mk 0 0 0 0 0 [] 0 0 0 [] [] [] 0))), (.o 14, (TMember.ob_00000000011101 r12_1))]) (by kernel_rfl) (.cons (Asks.of (C := Meets Try.prog) (raft_member_waits.meets fu (TMember.mk r5_1 []) _ h12_2)) .nil) (by kernel_rfl) ?_
      refine WK.shareO (i := 14) (cc := 10) (l' := [(.t 2, [.ptr 2 0]), (.t 4, [.ptr 14 0]), (.o 2, (TRaft.ob_000001000111 (TRaft.mk 0 0 0 0 0 [] 0 0 0 [] [] [] 0))), (.o 14, (TMember.ob_00000000010101 r12_1))]) (by kernel_rfl) (by kernel_rfl) (by kernel_rfl) ?_
      refine WK.shareO (i := 14) (cc := 11) (l' := [(.t 2, [.ptr 2 0]), (.t 4, [.ptr 14 0]), (.o 2, (TRaft.ob_000001000111 (TRaft.mk 0 0 0 0 0 [] 0 0 0 [] [] [] 0))), (.o 14, (TMember.ob_00000000010001 r12_1))]) (by kernel_rfl) (by kernel_rfl) (by kernel_rfl) ?_
      refine WK.shareO (i := 14) (cc := 13) (l' := [(.t 2, [.ptr 2 0]), (.t 4, [.ptr 14 0]), (.o 2, (TRaft.ob_000001000111 (TRaft.mk 0 0 0 0 0 [] 0 0 0 [] [] [] 0))), (.o 14, (TMember.ob_0000000001 r12_1))]) (by kernel_rfl) (by kernel_rfl) (by kernel_rfl) ?_
      refine WK.shareO (i := 14) (cc := 9) (l' := [(.t 2, [.ptr 2 0]), (.t 4, [.ptr 14 0]), (.o 2, (TRaft.ob_000001000111 (TRaft.mk 0 0 0 0 0 [] 0 0 0 [] [] [] 0))), (.o 14, (TMember.ob r12_1))]) (by kernel_rfl) (by kernel_rfl) (by kernel_rfl) ?_
      refine WK.rs (g := []) (l' := [(.t 2, [.ptr 2 0]), (.t 3, [.data (.slc false none 24 (List.map TMsg.en r12_1.out))]), (.o 2, (TRaft.ob r12_1.Raft))]) (by kernel_rfl) (.cons (Eq.refl true) .nil) (by kernel_rfl) ?_
      refine WK.weak (l := [(.t 2, [.ptr 2 0]), (.t 3, [.data (.slc false none 24 (List.map TMsg.en r12_1.out))]), (.o 2, (TRaft.ob r12_1.Raft))]) (wk_of (by kernel_rfl)) ?_
      refine WK.ret (by kernel_rfl) ?_
      have h_0 := some_inj h
      obtain ⟨g_1, h_1⟩ := Prod.mk.inj h_0
      subst g_1
      subst h_1
      exact WKe.fin (e' := .ret) (by kernel_rfl) (fin_of (g := []) (by first | exact .inl rfl | exact .inr rfl) .nil (by kernel_rfl))
/-- diwan/raft.Propose -/
noncomputable def bd23 : Code := (Try.f23.body).getD .skip
def raft_Propose.O : Nat → Nat := fun t => bif ([2, 3, 4, 6, 7, 10, 11] : List Nat).any (Nat.beq t) then 1 else 0
noncomputable def raft_Propose (fu : Nat) (r_v : TRaft) (e_v : TEntry) : Option (TRaft × List TMsg × Bool) :=
  bd (raft_twin fu r_v) fun r2_1 =>
  bd (raft_May fu r_v) fun r3_1 =>
  br (!r3_1)
    (some (r2_1, [], false))
    (bd (raft_member_proposes fu e_v (TMember.mk r2_1 [])) fun (r3_4, r3_5) =>
    br (!r3_4)
      (some (r3_5.Raft, [], false))
      (some (r3_5.Raft, r3_5.out, true)))
theorem raft_Propose.meets (fu : Nat) (r_v : TRaft) (e_v : TEntry) (z0 : TRaft) (z1 : List TMsg) (z2 : Bool) (h : raft_Propose fu r_v e_v = some (z0, z1, z2)) : Meets Try.prog ⟨23, [.data (TRaft.ag r_v), .data (TEntry.ag e_v)], []⟩ ⟨.tup [.data (TRaft.ag z0), .data (.slc false none 24 (List.map TMsg.en z1)), bv z2], []⟩ := by
  refine meets_of (O := raft_Propose.O) hmix (fn := Try.f23) (code := bd23) (by kernel_rfl) ?_
  refine WK.weak (l := [(.t 0, [.data (TRaft.ag r_v)]), (.t 1, [.data (TEntry.ag e_v)])]) (wk_of (by kernel_rfl)) ?_
  unfold raft_Propose at h
  refine WK.rs (g := []) (l' := [(.t 2, [.ptr 2 0]), (.t 3, [.ptr 3 0]), (.t 4, [.ptr 4 0]), (.o 2, (TRaft.ob r_v)), (.o 3, (TEntry.ob e_v)), (.o 4, (TRaft.ob_000001000111 (TRaft.mk 0 0 0 0 0 [] 0 0 0 [] [] [] 0)))]) (by kernel_rfl) .nil (by kernel_rfl) ?_
  obtain ⟨r2_1, h2_2, h⟩ := bd_inv h
  refine WK.rs (g := [.a ⟨.data (TRaft.ag_000001000111 r2_1), []⟩]) (l' := [(.t 2, [.ptr 2 0]), (.t 3, [.ptr 3 0]), (.t 4, [.ptr 4 0]), (.t 7, [.ptr 11 0]), (.o 2, (TRaft.ob r_v)), (.o 3, (TEntry.ob e_v)), (.o 4, (TRaft.ob_000001000111 (TRaft.mk 0 0 0 0 0 [] 0 0 0 [] [] [] 0))), (.o 11, (TMember.ob_00000100011101 (TMember.mk r2_1 [])))]) (by kernel_rfl) (.cons (Asks.of (C := Meets Try.prog) (raft_twin.meets fu r_v _ h2_2)) .nil) (by kernel_rfl) ?_
  refine WK.seq (by kernel_rfl) ?_
  obtain ⟨r3_1, h3_2, h⟩ := bd_inv h
  rcases br_inv h with ⟨b3_3, h⟩ | ⟨b3_3, h⟩
  · refine WK.rs (g := [.a ⟨bv r3_1, []⟩, .b true, .b true, .b true, .b true, .b true]) (l' := [(.t 4, [.ptr 4 0]), (.t 7, [.ptr 11 0]), (.t 20, [bv true]), (.o 4, (TRaft.ob_000001000111 (TRaft.mk 0 0 0 0 0 [] 0 0 0 [] [] [] 0))), (.o 11, (TMember.ob_00000100011101 (TMember.mk r2_1 [])))]) (by kernel_rfl) (.cons (Asks.of (C := Meets Try.prog) (raft_May.meets fu r_v _ h3_2)) (.cons b3_3 (.cons b3_3 (.cons b3_3 (.cons b3_3 (.cons b3_3 .nil)))))) (by kernel_rfl) ?_
    refine WK.ct (b := true) (by kernel_rfl) rfl ?_
    refine WK.rs (g := []) (l' := [(.t 4, [.ptr 4 0]), (.t 5, [.data (.slc false (some true) 24 (List.map TMsg.en []))]), (.t 6, [bv false]), (.o 4, (TRaft.ob r2_1))]) (by kernel_rfl) .nil (by kernel_rfl) ?_
    refine WK.weak (l := [(.t 4, [.ptr 4 0]), (.t 5, [.data (.slc false none 24 (List.map TMsg.en []))]), (.t 6, [bv false]), (.o 4, (TRaft.ob r2_1))]) (wk_of (by kernel_rfl)) ?_
    refine WK.ret (by kernel_rfl) ?_
    have h_0 := some_inj h
    obtain ⟨g_1, h_1⟩ := Prod.mk.inj h_0
    obtain ⟨g_2, h_2⟩ := Prod.mk.inj h_1
    subst g_1
    subst g_2
    subst h_2
    exact WKe.fin (e' := .ret) (by kernel_rfl) (fin_of (g := []) (by first | exact .inl rfl | exact .inr rfl) .nil (by kernel_rfl))
  · obtain ⟨⟨r3_4, r3_5⟩, h3_6, h⟩ := bd_inv h
    refine WK.rs (g := [.a ⟨bv r3_1, []⟩, .b false, .b false, .b false, .a ⟨bv r3_4, [(TMember.ob_00000000011101 r3_5)]⟩, .b false, .b false]) (l' := [(.t 4, [.ptr 4 0]), (.t 7, [.ptr 11 0]), (.t 20, [bv (!r3_4)]), (.o 4, (TRaft.ob_000001000111 (TRaft.mk 0 0 0 0 0 [] 0 0 0 [] [] [] 0))), (.o 11, (TMember.ob_00000000011101 r3_5))]) (by kernel_rfl) (.cons (Asks.of (C := Meets Try.prog) (raft_May.meets fu r_v _ h3_2)) (.cons b3_3 (.cons b3_3 (.cons b3_3 (.cons (Asks.of (C := Meets Try.prog) (raft_member_proposes.meets fu e_v (TMember.mk r2_1 []) _ _ h3_6)) (.cons b3_3 (.cons b3_3 .nil))))))) (by kernel_rfl) ?_
    rcases br_inv h with ⟨b5_0, h⟩ | ⟨b5_0, h⟩
    · refine WK.ct (b := (!r3_4)) (by kernel_rfl) b5_0 ?_
      refine WK.rs (g := []) (l' := [(.t 4, [.ptr 4 0]), (.t 5, [.data (.slc false (some true) 24 (List.map TMsg.en []))]), (.t 6, [bv false]), (.o 4, (TRaft.ob r3_5.Raft))]) (by kernel_rfl) .nil (by kernel_rfl) ?_
      refine WK.weak (l := [(.t 4, [.ptr 4 0]), (.t 5, [.data (.slc false none 24 (List.map TMsg.en []))]), (.t 6, [bv false]), (.o 4, (TRaft.ob r3_5.Raft))]) (wk_of (by kernel_rfl)) ?_
      refine WK.ret (by kernel_rfl) ?_
      have h_0 := some_inj h
      obtain ⟨g_1, h_1⟩ := Prod.mk.inj h_0
      obtain ⟨g_2, h_2⟩ := Prod.mk.inj h_1
      subst g_1
      subst g_2
      subst h_2
      exact WKe.fin (e' := .ret) (by kernel_rfl) (fin_of (g := []) (by first | exact .inl rfl | exact .inr rfl) .nil (by kernel_rfl))
    · refine WK.ce (b := (!r3_4)) (by kernel_rfl) b5_0 ?_
      refine WK.skip (by kernel_rfl) ?_
      refine WKe.code (y := (cR (cR (cR bd23)))) (ks' := []) (by kernel_rfl) ?_
      refine WK.shareO (i := 11) (cc := 10) (l' := [(.t 4, [.ptr 4 0]), (.t 7, [.ptr 11 0]), (.o 4, (TRaft.ob_000001000111 (TRaft.mk 0 0 0 0 0 [] 0 0 0 [] [] [] 0))), (.o 11, (TMember.ob_00000000010101 r3_5))]) (by kernel_rfl) (by kernel_rfl) (by kernel_rfl) ?_
      refine WK.shareO (i := 11) (cc := 11) (l' := [(.t 4, [.ptr 4 0]), (.t 7, [.ptr 11 0]), (.o 4, (TRaft.ob_000001000111 (TRaft.mk 0 0 0 0 0 [] 0 0 0 [] [] [] 0))), (.o 11, (TMember.ob_00000000010001 r3_5))]) (by kernel_rfl) (by kernel_rfl) (by kernel_rfl) ?_
      refine WK.shareO (i := 11) (cc := 13) (l' := [(.t 4, [.ptr 4 0]), (.t 7, [.ptr 11 0]), (.o 4, (TRaft.ob_000001000111 (TRaft.mk 0 0 0 0 0 [] 0 0 0 [] [] [] 0))), (.o 11, (TMember.ob_0000000001 r3_5))]) (by kernel_rfl) (by kernel_rfl) (by kernel_rfl) ?_
      refine WK.shareO (i := 11) (cc := 9) (l' := [(.t 4, [.ptr 4 0]), (.t 7, [.ptr 11 0]), (.o 4, (TRaft.ob_000001000111 (TRaft.mk 0 0 0 0 0 [] 0 0 0 [] [] [] 0))), (.o 11, (TMember.ob r3_5))]) (by kernel_rfl) (by kernel_rfl) (by kernel_rfl) ?_
      refine WK.rs (g := []) (l' := [(.t 4, [.ptr 4 0]), (.t 5, [.data (.slc false none 24 (List.map TMsg.en r3_5.out))]), (.t 6, [bv true]), (.o 4, (TRaft.ob r3_5.Raft))]) (by kernel_rfl) (.cons (Eq.refl true) .nil) (by kernel_rfl) ?_
      refine WK.weak (l := [(.t 4, [.ptr 4 0]), (.t 5, [.data (.slc false none 24 (List.map TMsg.en r3_5.out))]), (.t 6, [bv true]), (.o 4, (TRaft.ob r3_5.Raft))]) (wk_of (by kernel_rfl)) ?_
      refine WK.ret (by kernel_rfl) ?_
      have h_0 := some_inj h
      obtain ⟨g_1, h_1⟩ := Prod.mk.inj h_0
      obtain ⟨g_2, h_2⟩ := Prod.mk.inj h_1
      subst g_1
      subst g_2
      subst h_2
      exact WKe.fin (e' := .ret) (by kernel_rfl) (fin_of (g := []) (by first | exact .inl rfl | exact .inr rfl) .nil (by kernel_rfl))
/-- slices.Equal[[]diwan/api.Read,diwan/api.Read] -/
noncomputable def bd93 : Code := (Try.f93.body).getD .skip
def slices_Equal_api_Read.O : Nat → Nat := fun t => bif ([4, 5] : List Nat).any (Nat.beq t) then 1 else 0
noncomputable def slices_Equal_api_Read.lp6 (fu : Nat) (l6_0 : List TRead) (l6_1 : List TRead) (l6_2 : Int) : Nat → Int → Option (Unit ⊕ Unit)
  | 0, _ => none
  | n_ + 1, l6_3 =>
    br (decide (l6_3 < l6_2))
      (ix l6_0 l6_3 fun x10_1 =>
      ix l6_1 l6_3 fun x10_4 =>
      br (!((x10_1.Key.toList == x10_4.Key.toList) && ((x10_1.Version == x10_4.Version) && ((x10_1.Val.toList == x10_4.Val.toList) && ((x10_1.There == x10_4.There) && true)))))
        (some (.inr ()))
        (slices_Equal_api_Read.lp6 fu l6_0 l6_1 l6_2 n_ (w64 (l6_3 + 1))))
      (some (.inl ()))
noncomputable def slices_Equal_api_Read.lp6_post (l6_0 : List TRead) (l6_1 : List TRead) (l6_2 : Int) (r_ : (Unit ⊕ Unit)) : Wy → St → Prop := fun e τ => match r_ with
  | .inl _ => e = .exit 0 ∧ τ = ofL []
  | .inr _ => e = .ret ∧ τ = ofL [(.t 4, [bv false])]
theorem slices_Equal_api_Read.lp6_ok (fu : Nat) (l6_0 : List TRead) (l6_1 : List TRead) (l6_2 : Int) : ∀ (n_ : Nat) (l6_3 : Int) (r_ : (Unit ⊕ Unit)), slices_Equal_api_Read.lp6 fu l6_0 l6_1 l6_2 n_ l6_3 = some r_ → WK Try.prog slices_Equal_api_Read.O (Ck Try.prog) (cB (cR (cL (cR (cR bd93))))) [] (ofL [(.t 0, [.data (.slc false none 4 (List.map TRead.en l6_0))]), (.t 1, [.data (.slc false none 4 (List.map TRead.en l6_1))]), (.t 12, [iv l6_2]), (.t 13, [iv l6_3])]) (slices_Equal_api_Read.lp6_post l6_0 l6_1 l6_2 r_) := by
  intro n_
  induction n_ with
  | zero => intro l6_3 r_ h; exact no_none h
  | succ n_ ih =>
    intro l6_3 r_ h
    refine WK.loop (by kernel_rfl) ?_
    refine WK.rs (g := []) (l' := [(.t 0, [.data (.slc false none 4 (List.map TRead.en l6_0))]), (.t 1, [.data (.slc false none 4 (List.map TRead.en l6_1))]), (.t 12, [iv l6_2]), (.t 13, [iv l6_3]), (.t 14, [bv (decide (l6_3 < l6_2))])]) (by kernel_rfl) .nil (by kernel_rfl) ?_
    refine WK.seq (by kernel_rfl) ?_
    rcases br_inv h with ⟨b8_0, h⟩ | ⟨b8_0, h⟩
    · refine WK.ct (b := (decide (l6_3 < l6_2))) (by kernel_rfl) b8_0 ?_
      refine WK.skip (by kernel_rfl) ?_
      refine WKe.code (y := (cR (cR (cB (cB (cR (cL (cR (cR bd93))))))))) (ks' := [.lp (cB (cR (cL (cR (cR bd93)))))]) (by kernel_rfl) ?_
      refine WK.seq (by kernel_rfl) ?_
      refine WK.block (n := 1) (by kernel_rfl) ?_
      refine WK.rs (g := []) (l' := [(.t 0, [.data (.slc false none 4 (List.map TRead.en l6_0))]), (.t 1, [.data (.slc false none 4 (List.map TRead.en l6_1))]), (.t 5, [iv l6_3]), (.t 12, [iv l6_2]), (.t 13, [iv l6_3])]) (by kernel_rfl) .nil (by kernel_rfl) ?_
      obtain ⟨x10_1, a10_2, e10_3, h⟩ := ix_inv h
      obtain ⟨x10_4, a10_5, e10_6, h⟩ := ix_inv h
      refine WK.rs (g := [.c (TRead.en x10_1), .c (TRead.en x10_4)]) (l' := [(.t 0, [.data (.slc false none 4 (List.map TRead.en l6_0))]), (.t 1, [.data (.slc false none 4 (List.map TRead.en l6_1))]), (.t 12, [iv l6_2]), (.t 13, [iv l6_3]), (.t 24, [bv (!((x10_1.Key.toList == x10_4.Key.toList) && ((x10_1.Version == x10_4.Version) && ((x10_1.Val.toList == x10_4.Val.toList) && ((x10_1.There == x10_4.There) && true)))))])]) (by kernel_rfl) (.cons (c_ix (e := TRead.en) a10_2 e10_3) (.cons (c_el (e := TRead.en) e10_3) (.cons (c_ix (e := TRead.en) a10_5 e10_6) (.cons (c_el (e := TRead.en) e10_6) (.cons (Eq.refl true) .nil))))) (by kernel_rfl) ?_
      rcases br_inv h with ⟨b11_0, h⟩ | ⟨b11_0, h⟩
      · refine WK.ct (b := (!((x10_1.Key.toList == x10_4.Key.toList) && ((x10_1.Version == x10_4.Version) && ((x10_1.Val.toList == x10_4.Val.toList) && ((x10_1.There == x10_4.There) && true)))))) (by kernel_rfl) b11_0 ?_
        refine WK.rs (g := []) (l' := [(.t 4, [bv false])]) (by kernel_rfl) .nil (by kernel_rfl) ?_
        refine WK.weak (l := [(.t 4, [bv false])]) (wk_of (by kernel_rfl)) ?_
        refine WK.ret (by kernel_rfl) ?_
        cases some_inj h
        exact WKe.fin (e' := .ret) (by kernel_rfl) ⟨rfl, rfl⟩
      · refine WK.ce (b := (!((x10_1.Key.toList == x10_4.Key.toList) && ((x10_1.Version == x10_4.Version) && ((x10_1.Val.toList == x10_4.Val.toList) && ((x10_1.There == x10_4.There) && true)))))) (by kernel_rfl) b11_0 ?_
        refine WK.skip (by kernel_rfl) ?_
        refine WKe.code (y := (cR (cR (cR (cB (cB (cR (cL (cR (cR bd93)))))))))) (ks' := [.lp (cB (cR (cL (cR (cR bd93)))))]) (by kernel_rfl) ?_
        refine WK.rc (g := []) (l' := [(.t 0, [.data (.slc false none 4 (List.map TRead.en l6_0))]), (.t 1, [.data (.slc false none 4 (List.map TRead.en l6_1))]), (.t 12, [iv l6_2]), (.t 13, [iv (w64 (l6_3 + 1))])]) .nil (by kernel_rfl) (y := (cB (cR (cL (cR (cR bd93)))))) (ks' := []) (by kernel_rfl) ?_
        exact WK.weak (l := [(.t 0, [.data (.slc false none 4 (List.map TRead.en l6_0))]), (.t 1, [.data (.slc false none 4 (List.map TRead.en l6_1))]), (.t 12, [iv l6_2]), (.t 13, [iv (w64 (l6_3 + 1))])]) (wk_of (by kernel_rfl)) (ih (w64 (l6_3 + 1)) _ h)
    · refine WK.ce (b := (decide (l6_3 < l6_2))) (by kernel_rfl) b8_0 ?_
      refine WK.weak (l := []) (wk_of (by kernel_rfl)) ?_
      refine WK.exit (n := 0) (by kernel_rfl) ?_
      cases some_inj h
      exact WKe.fin (e' := .exit 0) (by kernel_rfl) ⟨rfl, rfl⟩
noncomputable def slices_Equal_api_Read (fu : Nat) (s1 : List TRead) (s2 : List TRead) : Option Bool :=
  br ((s1.length : Int) != (s2.length : Int))
    (some false)
    (bd (slices_Equal_api_Read.lp6 fu s1 s2 (s1.length : Int) fu 0) fun o_ => (match o_ with
    | .inl _ =>
      some true
    | .inr _ =>
      some false))
theorem slices_Equal_api_Read.meets (fu : Nat) (s1 : List TRead) (s2 : List TRead) (z0 : Bool) (h : slices_Equal_api_Read fu s1 s2 = some z0) : Meets Try.prog ⟨93, [.data (.slc false none 4 (List.map TRead.en s1)), .data (.slc false none 4 (List.map TRead.en s2))], []⟩ ⟨bv z0, []⟩ := by
  refine meets_of (O := slices_Equal_api_Read.O) hmix (fn := Try.f93) (code := bd93) (by kernel_rfl) ?_
  refine WK.weak (l := [(.t 0, [.data (.slc false none 4 (List.map TRead.en s1))]), (.t 1, [.data (.slc false none 4 (List.map TRead.en s2))])]) (wk_of (by kernel_rfl)) ?_
  unfold slices_Equal_api_Read at h
  refine WK.rs (g := []) (l' := [(.t 0, [.data (.slc false none 4 (List.map TRead.en s1))]), (.t 1, [.data (.slc false none 4 (List.map TRead.en s2))])]) (by kernel_rfl) .nil (by kernel_rfl) ?_
  refine WK.seq (by kernel_rfl) ?_
  refine WK.rs (g := [.s (.t 7) [iv (s1.length : Int)], .s (.t 9) [iv (s2.length : Int)]]) (l' := [(.t 0, [.data (.slc false none 4 (List.map TRead.en s1))]), (.t 1, [.data (.slc false none 4 (List.map TRead.en s2))]), (.t 10, [bv ((s1.length : Int) != (s2.length : Int))])]) (by kernel_rfl) (.cons (c_len (e := TRead.en) (l := s1)) (.cons (c_len (e := TRead.en) (l := s2)) .nil)) (by kernel_rfl) ?_
  rcases br_inv h with ⟨b3_0, h⟩ | ⟨b3_0, h⟩
  · refine WK.ct (b := ((s1.length : Int) != (s2.length : Int))) (by kernel_rfl) b3_0 ?_
    refine WK.rs (g := []) (l' := [(.t 4, [bv false])]) (by kernel_rfl) .nil (by kernel_rfl) ?_
    refine WK.weak (l := [(.t 4, [bv false])]) (wk_of (by kernel_rfl)) ?_
    refine WK.ret (by kernel_rfl) ?_
    have h_ := some_inj h
    subst h_
    exact WKe.fin (e' := .ret) (by kernel_rfl) (fin_of (g := []) (by first | exact .inl rfl | exact .inr rfl) .nil (by kernel_rfl))
  · refine WK.ce (b := ((s1.length : Int) != (s2.length : Int))) (by kernel_rfl) b3_0 ?_
    refine WK.skip (by kernel_rfl) ?_
    refine WKe.code (y := (cR (cR bd93))) (ks' := []) (by kernel_rfl) ?_
    refine WK.seq (by kernel_rfl) ?_
    refine WK.rs (g := [.s (.t 12) [iv (s1.length : Int)]]) (l' := [(.t 0, [.data (.slc false none 4 (List.map TRead.en s1))]), (.t 1, [.data (.slc false none 4 (List.map TRead.en s2))]), (.t 12, [iv (s1.length : Int)]), (.t 13, [iv 0])]) (by kernel_rfl) (.cons (c_len (e := TRead.en) (l := s1)) .nil) (by kernel_rfl) ?_
    refine WK.block (n := 0) (by kernel_rfl) ?_
    obtain ⟨o14, ho14, h⟩ := bd_inv h
    refine WK.weak (l := [(.t 0, [.data (.slc false none 4 (List.map TRead.en s1))]), (.t 1, [.data (.slc false none 4 (List.map TRead.en s2))]), (.t 12, [iv (s1.length : Int)]), (.t 13, [iv 0])]) (wk_of (by kernel_rfl)) ?_
    refine WK.use (slices_Equal_api_Read.lp6_ok fu s1 s2 (s1.length : Int) _ 0 _ ho14) ?_
    intro e_ τ_ hp_
    rcases o14 with o14 | o14
    · obtain ⟨⟩ := o14
      obtain ⟨rfl, rfl⟩ := hp_
      refine WKe.code (y := (cR (cR (cR bd93)))) (ks' := []) (by kernel_rfl) ?_
      refine WK.rs (g := []) (l' := [(.t 4, [bv true])]) (by kernel_rfl) .nil (by kernel_rfl) ?_
      refine WK.weak (l := [(.t 4, [bv true])]) (wk_of (by kernel_rfl)) ?_
      refine WK.ret (by kernel_rfl) ?_
      have h_ := some_inj h
      subst h_
      exact WKe.fin (e' := .ret) (by kernel_rfl) (fin_of (g := []) (by first | exact .inl rfl | exact .inr rfl) .nil (by kernel_rfl))
    · obtain ⟨⟩ := o14
      obtain ⟨rfl, rfl⟩ := hp_
      have h_ := some_inj h
      subst h_
      exact WKe.fin (e' := .ret) (by kernel_rfl) (fin_of (g := []) (by first | exact .inl rfl | exact .inr rfl) .nil (by kernel_rfl))
end Go.Proofs.Ythpokjkbcdfhiaa.Told
