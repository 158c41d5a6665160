/- Functions of the program told as Lean functions, with the walks of their code in the machine by value. -/
import Derived.Test.YtbflggolnolaeaaProg
import Derived.Test.YtbflggolnolaeaaVam2
noncomputable section
namespace Go.Proofs.Ytbflggolnolaeaa.Told
open Go Go.Proofs Go.Proofs.Ytbflggolnolaeaa Go.Proofs.Ytbflggolnolaeaa.Vam
set_option linter.unusedVariables false
set_option maxRecDepth 100000
theorem hmix : Try.prog.follows .mixedOrders = true := by kernel_rfl
structure TRead where
  Key : ByteArray
  Version : Int
  Val : ByteArray
  There : Bool
def TRead.en (x : TRead) : List DV := [.val (.string x.Key), .val (.int .i64 x.Version), .val (.string x.Val), .val (.bool x.There)]
structure TWrite where
  Key : ByteArray
  Val : ByteArray
  Gone : Bool
def TWrite.en (x : TWrite) : List DV := [.val (.string x.Key), .val (.string x.Val), .val (.bool x.Gone)]
structure TTxn where
  Session : Int
  Seq : Int
  Reads : (List TRead)
  Writes : (List TWrite)
def TTxn.en (x : TTxn) : List DV := [.val (.int .i64 x.Session), .val (.int .i64 x.Seq), .slc false none 4 (List.map TRead.en x.Reads), .slc false none 3 (List.map TWrite.en x.Writes)]
structure TEntry where
  Term : Int
  Seal : Bool
  T : TTxn
def TEntry.en (x : TEntry) : List DV := [.val (.int .i64 x.Term), .val (.bool x.Seal), .val (.int .i64 x.T.Session), .val (.int .i64 x.T.Seq), .slc false none 4 (List.map TRead.en x.T.Reads), .slc false none 3 (List.map TWrite.en x.T.Writes)]
structure TMsg where
  Kind : Int
  From : Int
  To : Int
  Part : Int
  Term : Int
  Index : Int
  LogTerm : Int
  Commit : Int
  OK : Bool
  Entries : (List TEntry)
  T : TTxn
  Session : Int
  Seq : Int
  Pos : Int
  Shard : Int
  Span : Bool
  FromKey : ByteArray
  ToKey : ByteArray
  Keys : (List ByteArray)
  Got : (List TRead)
  Err : Int
def TMsg.en (x : TMsg) : List DV := [.val (.int .i64 x.Kind), .val (.int .i64 x.From), .val (.int .i64 x.To), .val (.int .i64 x.Part), .val (.int .i64 x.Term), .val (.int .i64 x.Index), .val (.int .i64 x.LogTerm), .val (.int .i64 x.Commit), .val (.bool x.OK), .slc false none 6 (List.map TEntry.en x.Entries), .val (.int .i64 x.T.Session), .val (.int .i64 x.T.Seq), .slc false none 4 (List.map TRead.en x.T.Reads), .slc false none 3 (List.map TWrite.en x.T.Writes), .val (.int .i64 x.Session), .val (.int .i64 x.Seq), .val (.int .i64 x.Pos), .val (.int .i64 x.Shard), .val (.bool x.Span), .val (.string x.FromKey), .val (.string x.ToKey), .slc false none 1 (List.map e_s x.Keys), .slc false none 4 (List.map TRead.en x.Got), .val (.int .i64 x.Err)]
structure TWriter where
  b : (List Int)
def TWriter.en (x : TWriter) : List DV := [.slc false none 1 (List.map e_u8 x.b)]
structure TReader where
  b : (List Int)
  bad : Bool
def TReader.en (x : TReader) : List DV := [.slc false none 1 (List.map e_u8 x.b), .val (.bool x.bad)]
structure TReader' where
  b : (List Int)
  n : Int
  bad : Bool
def TReader'.en (x : TReader') : List DV := [.slc false none 1 (List.map e_u8 x.b), .val (.int .i64 x.n), .val (.bool x.bad)]
def TTxn.ag (x : TTxn) : DV := .agg [.val (.int .i64 x.Session), .val (.int .i64 x.Seq), .slc false none 4 (List.map TRead.en x.Reads), .slc false none 3 (List.map TWrite.en x.Writes)]
def TTxn.ob (x : TTxn) : List AV := [.data (.val (.int .i64 x.Session)), .data (.val (.int .i64 x.Seq)), .data (.slc false none 4 (List.map TRead.en x.Reads)), .data (.slc false none 3 (List.map TWrite.en x.Writes))]
def TTxn.ob_0011 (x : TTxn) : List AV := [.data (.val (.int .i64 x.Session)), .data (.val (.int .i64 x.Seq)), .data (.slc true none 4 (List.map TRead.en x.Reads)), .data (.slc true none 3 (List.map TWrite.en x.Writes))]
def TMsg.ag (x : TMsg) : DV := .agg [.val (.int .i64 x.Kind), .val (.int .i64 x.From), .val (.int .i64 x.To), .val (.int .i64 x.Part), .val (.int .i64 x.Term), .val (.int .i64 x.Index), .val (.int .i64 x.LogTerm), .val (.int .i64 x.Commit), .val (.bool x.OK), .slc false none 6 (List.map TEntry.en x.Entries), .val (.int .i64 x.T.Session), .val (.int .i64 x.T.Seq), .slc false none 4 (List.map TRead.en x.T.Reads), .slc false none 3 (List.map TWrite.en x.T.Writes), .val (.int .i64 x.Session), .val (.int .i64 x.Seq), .val (.int .i64 x.Pos), .val (.int .i64 x.Shard), .val (.bool x.Span), .val (.string x.FromKey), .val (.string x.ToKey), .slc false none 1 (List.map e_s x.Keys), .slc false none 4 (List.map TRead.en x.Got), .val (.int .i64 x.Err)]
def TMsg.ag_00000000010011000000011 (x : TMsg) : DV := .agg [.val (.int .i64 x.Kind), .val (.int .i64 x.From), .val (.int .i64 x.To), .val (.int .i64 x.Part), .val (.int .i64 x.Term), .val (.int .i64 x.Index), .val (.int .i64 x.LogTerm), .val (.int .i64 x.Commit), .val (.bool x.OK), .slc true none 6 (List.map TEntry.en x.Entries), .val (.int .i64 x.T.Session), .val (.int .i64 x.T.Seq), .slc true none 4 (List.map TRead.en x.T.Reads), .slc true none 3 (List.map TWrite.en x.T.Writes), .val (.int .i64 x.Session), .val (.int .i64 x.Seq), .val (.int .i64 x.Pos), .val (.int .i64 x.Shard), .val (.bool x.Span), .val (.string x.FromKey), .val (.string x.ToKey), .slc true none 1 (List.map e_s x.Keys), .slc true none 4 (List.map TRead.en x.Got), .val (.int .i64 x.Err)]
def TMsg.ob (x : TMsg) : List AV := [.data (.val (.int .i64 x.Kind)), .data (.val (.int .i64 x.From)), .data (.val (.int .i64 x.To)), .data (.val (.int .i64 x.Part)), .data (.val (.int .i64 x.Term)), .data (.val (.int .i64 x.Index)), .data (.val (.int .i64 x.LogTerm)), .data (.val (.int .i64 x.Commit)), .data (.val (.bool x.OK)), .data (.slc false none 6 (List.map TEntry.en x.Entries)), .data (.val (.int .i64 x.T.Session)), .data (.val (.int .i64 x.T.Seq)), .data (.slc false none 4 (List.map TRead.en x.T.Reads)), .data (.slc false none 3 (List.map TWrite.en x.T.Writes)), .data (.val (.int .i64 x.Session)), .data (.val (.int .i64 x.Seq)), .data (.val (.int .i64 x.Pos)), .data (.val (.int .i64 x.Shard)), .data (.val (.bool x.Span)), .data (.val (.string x.FromKey)), .data (.val (.string x.ToKey)), .data (.slc false none 1 (List.map e_s x.Keys)), .data (.slc false none 4 (List.map TRead.en x.Got)), .data (.val (.int .i64 x.Err))]
def TMsg.ob_00000000000011000000011 (x : TMsg) : List AV := [.data (.val (.int .i64 x.Kind)), .data (.val (.int .i64 x.From)), .data (.val (.int .i64 x.To)), .data (.val (.int .i64 x.Part)), .data (.val (.int .i64 x.Term)), .data (.val (.int .i64 x.Index)), .data (.val (.int .i64 x.LogTerm)), .data (.val (.int .i64 x.Commit)), .data (.val (.bool x.OK)), .data (.slc false none 6 (List.map TEntry.en x.Entries)), .data (.val (.int .i64 x.T.Session)), .data (.val (.int .i64 x.T.Seq)), .data (.slc true none 4 (List.map TRead.en x.T.Reads)), .data (.slc true none 3 (List.map TWrite.en x.T.Writes)), .data (.val (.int .i64 x.Session)), .data (.val (.int .i64 x.Seq)), .data (.val (.int .i64 x.Pos)), .data (.val (.int .i64 x.Shard)), .data (.val (.bool x.Span)), .data (.val (.string x.FromKey)), .data (.val (.string x.ToKey)), .data (.slc true none 1 (List.map e_s x.Keys)), .data (.slc true none 4 (List.map TRead.en x.Got)), .data (.val (.int .i64 x.Err))]
def TMsg.ob_00000000010000000000011 (x : TMsg) : List AV := [.data (.val (.int .i64 x.Kind)), .data (.val (.int .i64 x.From)), .data (.val (.int .i64 x.To)), .data (.val (.int .i64 x.Part)), .data (.val (.int .i64 x.Term)), .data (.val (.int .i64 x.Index)), .data (.val (.int .i64 x.LogTerm)), .data (.val (.int .i64 x.Commit)), .data (.val (.bool x.OK)), .data (.slc true none 6 (List.map TEntry.en x.Entries)), .data (.val (.int .i64 x.T.Session)), .data (.val (.int .i64 x.T.Seq)), .data (.slc false none 4 (List.map TRead.en x.T.Reads)), .data (.slc false none 3 (List.map TWrite.en x.T.Writes)), .data (.val (.int .i64 x.Session)), .data (.val (.int .i64 x.Seq)), .data (.val (.int .i64 x.Pos)), .data (.val (.int .i64 x.Shard)), .data (.val (.bool x.Span)), .data (.val (.string x.FromKey)), .data (.val (.string x.ToKey)), .data (.slc true none 1 (List.map e_s x.Keys)), .data (.slc true none 4 (List.map TRead.en x.Got)), .data (.val (.int .i64 x.Err))]
def TMsg.ob_00000000010001000000011 (x : TMsg) : List AV := [.data (.val (.int .i64 x.Kind)), .data (.val (.int .i64 x.From)), .data (.val (.int .i64 x.To)), .data (.val (.int .i64 x.Part)), .data (.val (.int .i64 x.Term)), .data (.val (.int .i64 x.Index)), .data (.val (.int .i64 x.LogTerm)), .data (.val (.int .i64 x.Commit)), .data (.val (.bool x.OK)), .data (.slc true none 6 (List.map TEntry.en x.Entries)), .data (.val (.int .i64 x.T.Session)), .data (.val (.int .i64 x.T.Seq)), .data (.slc false none 4 (List.map TRead.en x.T.Reads)), .data (.slc true none 3 (List.map TWrite.en x.T.Writes)), .data (.val (.int .i64 x.Session)), .data (.val (.int .i64 x.Seq)), .data (.val (.int .i64 x.Pos)), .data (.val (.int .i64 x.Shard)), .data (.val (.bool x.Span)), .data (.val (.string x.FromKey)), .data (.val (.string x.ToKey)), .data (.slc true none 1 (List.map e_s x.Keys)), .data (.slc true none 4 (List.map TRead.en x.Got)), .data (.val (.int .i64 x.Err))]
def TMsg.ob_00000000010011 (x : TMsg) : List AV := [.data (.val (.int .i64 x.Kind)), .data (.val (.int .i64 x.From)), .data (.val (.int .i64 x.To)), .data (.val (.int .i64 x.Part)), .data (.val (.int .i64 x.Term)), .data (.val (.int .i64 x.Index)), .data (.val (.int .i64 x.LogTerm)), .data (.val (.int .i64 x.Commit)), .data (.val (.bool x.OK)), .data (.slc true none 6 (List.map TEntry.en x.Entries)), .data (.val (.int .i64 x.T.Session)), .data (.val (.int .i64 x.T.Seq)), .data (.slc true none 4 (List.map TRead.en x.T.Reads)), .data (.slc true none 3 (List.map TWrite.en x.T.Writes)), .data (.val (.int .i64 x.Session)), .data (.val (.int .i64 x.Seq)), .data (.val (.int .i64 x.Pos)), .data (.val (.int .i64 x.Shard)), .data (.val (.bool x.Span)), .data (.val (.string x.FromKey)), .data (.val (.string x.ToKey)), .data (.slc false none 1 (List.map e_s x.Keys)), .data (.slc false none 4 (List.map TRead.en x.Got)), .data (.val (.int .i64 x.Err))]
def TMsg.ob_00000000010011000000001 (x : TMsg) : List AV := [.data (.val (.int .i64 x.Kind)), .data (.val (.int .i64 x.From)), .data (.val (.int .i64 x.To)), .data (.val (.int .i64 x.Part)), .data (.val (.int .i64 x.Term)), .data (.val (.int .i64 x.Index)), .data (.val (.int .i64 x.LogTerm)), .data (.val (.int .i64 x.Commit)), .data (.val (.bool x.OK)), .data (.slc true none 6 (List.map TEntry.en x.Entries)), .data (.val (.int .i64 x.T.Session)), .data (.val (.int .i64 x.T.Seq)), .data (.slc true none 4 (List.map TRead.en x.T.Reads)), .data (.slc true none 3 (List.map TWrite.en x.T.Writes)), .data (.val (.int .i64 x.Session)), .data (.val (.int .i64 x.Seq)), .data (.val (.int .i64 x.Pos)), .data (.val (.int .i64 x.Shard)), .data (.val (.bool x.Span)), .data (.val (.string x.FromKey)), .data (.val (.string x.ToKey)), .data (.slc false none 1 (List.map e_s x.Keys)), .data (.slc true none 4 (List.map TRead.en x.Got)), .data (.val (.int .i64 x.Err))]
def TMsg.ob_00000000010011000000011 (x : TMsg) : List AV := [.data (.val (.int .i64 x.Kind)), .data (.val (.int .i64 x.From)), .data (.val (.int .i64 x.To)), .data (.val (.int .i64 x.Part)), .data (.val (.int .i64 x.Term)), .data (.val (.int .i64 x.Index)), .data (.val (.int .i64 x.LogTerm)), .data (.val (.int .i64 x.Commit)), .data (.val (.bool x.OK)), .data (.slc true none 6 (List.map TEntry.en x.Entries)), .data (.val (.int .i64 x.T.Session)), .data (.val (.int .i64 x.T.Seq)), .data (.slc true none 4 (List.map TRead.en x.T.Reads)), .data (.slc true none 3 (List.map TWrite.en x.T.Writes)), .data (.val (.int .i64 x.Session)), .data (.val (.int .i64 x.Seq)), .data (.val (.int .i64 x.Pos)), .data (.val (.int .i64 x.Shard)), .data (.val (.bool x.Span)), .data (.val (.string x.FromKey)), .data (.val (.string x.ToKey)), .data (.slc true none 1 (List.map e_s x.Keys)), .data (.slc true none 4 (List.map TRead.en x.Got)), .data (.val (.int .i64 x.Err))]
def TEntry.ag (x : TEntry) : DV := .agg [.val (.int .i64 x.Term), .val (.bool x.Seal), .val (.int .i64 x.T.Session), .val (.int .i64 x.T.Seq), .slc false none 4 (List.map TRead.en x.T.Reads), .slc false none 3 (List.map TWrite.en x.T.Writes)]
def TEntry.ob (x : TEntry) : List AV := [.data (.val (.int .i64 x.Term)), .data (.val (.bool x.Seal)), .data (.val (.int .i64 x.T.Session)), .data (.val (.int .i64 x.T.Seq)), .data (.slc false none 4 (List.map TRead.en x.T.Reads)), .data (.slc false none 3 (List.map TWrite.en x.T.Writes))]
def TEntry.ob_000011 (x : TEntry) : List AV := [.data (.val (.int .i64 x.Term)), .data (.val (.bool x.Seal)), .data (.val (.int .i64 x.T.Session)), .data (.val (.int .i64 x.T.Seq)), .data (.slc true none 4 (List.map TRead.en x.T.Reads)), .data (.slc true none 3 (List.map TWrite.en x.T.Writes))]
def TRead.ag (x : TRead) : DV := .agg [.val (.string x.Key), .val (.int .i64 x.Version), .val (.string x.Val), .val (.bool x.There)]
def TRead.ob (x : TRead) : List AV := [.data (.val (.string x.Key)), .data (.val (.int .i64 x.Version)), .data (.val (.string x.Val)), .data (.val (.bool x.There))]
def TWrite.ag (x : TWrite) : DV := .agg [.val (.string x.Key), .val (.string x.Val), .val (.bool x.Gone)]
def TWrite.ob (x : TWrite) : List AV := [.data (.val (.string x.Key)), .data (.val (.string x.Val)), .data (.val (.bool x.Gone))]
def TReader'.ob (x : TReader') : List AV := [.data (.slc false none 1 (List.map e_u8 x.b)), .data (.val (.int .i64 x.n)), .data (.val (.bool x.bad))]
def bd65 : Code := (Try.f65.body).getD .skip
def msg_letter_askVote.O : Nat → Nat := fun t => bif ([1, 2, 9] : List Nat).any (Nat.beq t) then 1 else 0
def msg_letter_askVote (m : TMsg) : Option TMsg :=
 some (TMsg.mk 0 0 0 0 m.Term m.Index m.LogTerm 0 false [] (TTxn.mk 0 0 [] []) 0 0 0 0 false ByteArray.empty ByteArray.empty [] [] 0)
theorem msg_letter_askVote.meets (m : TMsg) (z0 : TMsg) (h : msg_letter_askVote m = some z0) : Meets Try.prog ⟨65, [.data (TMsg.ag m)], []⟩ ⟨.data (TMsg.ag_00000000010011000000011 z0), []⟩ := by
 refine kMt hmix msg_letter_askVote.O Try.f65 bd65 1 ?_
 unfold msg_letter_askVote at h
 refine kRs 0 [Tm 1 (.ptr 1 0), Tm 2 (.ptr 2 0), Ob 1 (TMsg.ob m), Ob 2 (TMsg.ob_00000000010011000000011 (TMsg.mk 0 0 0 0 0 0 0 0 false [] (TTxn.mk 0 0 [] []) 0 0 0 0 false ByteArray.empty ByteArray.empty [] [] 0))] [] .n ?_
 refine kRs 2 [Ob 2 (TMsg.ob_00000000010011000000011 (TMsg.mk 0 0 0 0 m.Term m.Index m.LogTerm 0 false [] (TTxn.mk 0 0 [] []) 0 0 0 0 false ByteArray.empty ByteArray.empty [] [] 0))] [] .n ?_
 refine kRt ?_
 have h_ := some_inj h
 subst h_
 exact kFr
def bd66 : Code := (Try.f66.body).getD .skip
def msg_letter_vote.O : Nat → Nat := fun t => bif ([1, 2, 7] : List Nat).any (Nat.beq t) then 1 else 0
def msg_letter_vote (m : TMsg) : Option TMsg :=
 some (TMsg.mk 0 0 0 0 m.Term 0 0 0 m.OK [] (TTxn.mk 0 0 [] []) 0 0 0 0 false ByteArray.empty ByteArray.empty [] [] 0)
theorem msg_letter_vote.meets (m : TMsg) (z0 : TMsg) (h : msg_letter_vote m = some z0) : Meets Try.prog ⟨66, [.data (TMsg.ag m)], []⟩ ⟨.data (TMsg.ag_00000000010011000000011 z0), []⟩ := by
 refine kMt hmix msg_letter_vote.O Try.f66 bd66 1 ?_
 unfold msg_letter_vote at h
 refine kRs 0 [Tm 1 (.ptr 1 0), Tm 2 (.ptr 2 0), Ob 1 (TMsg.ob m), Ob 2 (TMsg.ob_00000000010011000000011 (TMsg.mk 0 0 0 0 0 0 0 0 false [] (TTxn.mk 0 0 [] []) 0 0 0 0 false ByteArray.empty ByteArray.empty [] [] 0))] [] .n ?_
 refine kRs 2 [Ob 2 (TMsg.ob_00000000010011000000011 (TMsg.mk 0 0 0 0 m.Term 0 0 0 m.OK [] (TTxn.mk 0 0 [] []) 0 0 0 0 false ByteArray.empty ByteArray.empty [] [] 0))] [] .n ?_
 refine kRt ?_
 have h_ := some_inj h
 subst h_
 exact kFr
def bd67 : Code := (Try.f67.body).getD .skip
def msg_letter_append.O : Nat → Nat := fun t => bif ([1, 2] : List Nat).any (Nat.beq t) then 1 else 0
def msg_letter_append (m : TMsg) : Option TMsg :=
 some (TMsg.mk 0 0 0 0 m.Term m.Index m.LogTerm m.Commit false m.Entries (TTxn.mk 0 0 [] []) 0 0 0 0 false ByteArray.empty ByteArray.empty [] [] 0)
theorem msg_letter_append.meets (m : TMsg) (z0 : TMsg) (h : msg_letter_append m = some z0) : Meets Try.prog ⟨67, [.data (TMsg.ag m)], []⟩ ⟨.data (TMsg.ag z0), []⟩ := by
 refine kMt hmix msg_letter_append.O Try.f67 bd67 1 ?_
 unfold msg_letter_append at h
 refine kRs 0 [Tm 1 (.ptr 1 0), Tm 2 (.ptr 2 0), Ob 1 (TMsg.ob m), Ob 2 (TMsg.ob_00000000010011000000011 (TMsg.mk 0 0 0 0 0 0 0 0 false [] (TTxn.mk 0 0 [] []) 0 0 0 0 false ByteArray.empty ByteArray.empty [] [] 0))] [] .n ?_
 refine kRs 2 [Ob 2 (TMsg.ob (TMsg.mk 0 0 0 0 m.Term m.Index m.LogTerm m.Commit false m.Entries (TTxn.mk 0 0 [] []) 0 0 0 0 false ByteArray.empty ByteArray.empty [] [] 0))] [] .n ?_
 refine kRt ?_
 have h_ := some_inj h
 subst h_
 exact kFr
def bd68 : Code := (Try.f68.body).getD .skip
def msg_letter_appended.O : Nat → Nat := fun t => bif ([1, 2, 9] : List Nat).any (Nat.beq t) then 1 else 0
def msg_letter_appended (m : TMsg) : Option TMsg :=
 some (TMsg.mk 0 0 0 0 m.Term m.Index 0 0 m.OK [] (TTxn.mk 0 0 [] []) 0 0 0 0 false ByteArray.empty ByteArray.empty [] [] 0)
theorem msg_letter_appended.meets (m : TMsg) (z0 : TMsg) (h : msg_letter_appended m = some z0) : Meets Try.prog ⟨68, [.data (TMsg.ag m)], []⟩ ⟨.data (TMsg.ag_00000000010011000000011 z0), []⟩ := by
 refine kMt hmix msg_letter_appended.O Try.f68 bd68 1 ?_
 unfold msg_letter_appended at h
 refine kRs 0 [Tm 1 (.ptr 1 0), Tm 2 (.ptr 2 0), Ob 1 (TMsg.ob m), Ob 2 (TMsg.ob_00000000010011000000011 (TMsg.mk 0 0 0 0 0 0 0 0 false [] (TTxn.mk 0 0 [] []) 0 0 0 0 false ByteArray.empty ByteArray.empty [] [] 0))] [] .n ?_
 refine kRs 2 [Ob 2 (TMsg.ob_00000000010011000000011 (TMsg.mk 0 0 0 0 m.Term m.Index 0 0 m.OK [] (TTxn.mk 0 0 [] []) 0 0 0 0 false ByteArray.empty ByteArray.empty [] [] 0))] [] .n ?_
 refine kRt ?_
 have h_ := some_inj h
 subst h_
 exact kFr
def bd69 : Code := (Try.f69.body).getD .skip
def msg_letter_submit.O : Nat → Nat := fun t => bif ([1, 2] : List Nat).any (Nat.beq t) then 1 else 0
def msg_letter_submit (m : TMsg) : Option TMsg :=
 some (TMsg.mk 0 0 0 0 0 0 0 0 false [] m.T 0 0 0 0 false ByteArray.empty ByteArray.empty [] [] 0)
theorem msg_letter_submit.meets (m : TMsg) (z0 : TMsg) (h : msg_letter_submit m = some z0) : Meets Try.prog ⟨69, [.data (TMsg.ag m)], []⟩ ⟨.data (TMsg.ag z0), []⟩ := by
 refine kMt hmix msg_letter_submit.O Try.f69 bd69 1 ?_
 unfold msg_letter_submit at h
 refine kRs 0 [Tm 1 (.ptr 1 0), Tm 2 (.ptr 2 0), Ob 1 (TMsg.ob m), Ob 2 (TMsg.ob_00000000010011000000011 (TMsg.mk 0 0 0 0 0 0 0 0 false [] (TTxn.mk 0 0 [] []) 0 0 0 0 false ByteArray.empty ByteArray.empty [] [] 0))] [] .n ?_
 refine kRs 2 [Ob 2 (TMsg.ob (TMsg.mk 0 0 0 0 0 0 0 0 false [] m.T 0 0 0 0 false ByteArray.empty ByteArray.empty [] [] 0))] [] .n ?_
 refine kRt ?_
 have h_ := some_inj h
 subst h_
 exact kFr
def bd70 : Code := (Try.f70.body).getD .skip
def msg_letter_askBit.O : Nat → Nat := fun t => bif ([1, 2, 7] : List Nat).any (Nat.beq t) then 1 else 0
def msg_letter_askBit (m : TMsg) : Option TMsg :=
 some (TMsg.mk 0 0 0 0 0 0 0 0 false [] (TTxn.mk 0 0 [] []) 0 0 m.Pos m.Shard false ByteArray.empty ByteArray.empty [] [] 0)
theorem msg_letter_askBit.meets (m : TMsg) (z0 : TMsg) (h : msg_letter_askBit m = some z0) : Meets Try.prog ⟨70, [.data (TMsg.ag m)], []⟩ ⟨.data (TMsg.ag_00000000010011000000011 z0), []⟩ := by
 refine kMt hmix msg_letter_askBit.O Try.f70 bd70 1 ?_
 unfold msg_letter_askBit at h
 refine kRs 0 [Tm 1 (.ptr 1 0), Tm 2 (.ptr 2 0), Ob 1 (TMsg.ob m), Ob 2 (TMsg.ob_00000000010011000000011 (TMsg.mk 0 0 0 0 0 0 0 0 false [] (TTxn.mk 0 0 [] []) 0 0 0 0 false ByteArray.empty ByteArray.empty [] [] 0))] [] .n ?_
 refine kRs 2 [Ob 2 (TMsg.ob_00000000010011000000011 (TMsg.mk 0 0 0 0 0 0 0 0 false [] (TTxn.mk 0 0 [] []) 0 0 m.Pos m.Shard false ByteArray.empty ByteArray.empty [] [] 0))] [] .n ?_
 refine kRt ?_
 have h_ := some_inj h
 subst h_
 exact kFr
def bd71 : Code := (Try.f71.body).getD .skip
def msg_letter_bit.O : Nat → Nat := fun t => bif ([1, 2, 9] : List Nat).any (Nat.beq t) then 1 else 0
def msg_letter_bit (m : TMsg) : Option TMsg :=
 some (TMsg.mk 0 0 0 0 0 0 0 0 m.OK [] (TTxn.mk 0 0 [] []) 0 0 m.Pos m.Shard false ByteArray.empty ByteArray.empty [] [] 0)
theorem msg_letter_bit.meets (m : TMsg) (z0 : TMsg) (h : msg_letter_bit m = some z0) : Meets Try.prog ⟨71, [.data (TMsg.ag m)], []⟩ ⟨.data (TMsg.ag_00000000010011000000011 z0), []⟩ := by
 refine kMt hmix msg_letter_bit.O Try.f71 bd71 1 ?_
 unfold msg_letter_bit at h
 refine kRs 0 [Tm 1 (.ptr 1 0), Tm 2 (.ptr 2 0), Ob 1 (TMsg.ob m), Ob 2 (TMsg.ob_00000000010011000000011 (TMsg.mk 0 0 0 0 0 0 0 0 false [] (TTxn.mk 0 0 [] []) 0 0 0 0 false ByteArray.empty ByteArray.empty [] [] 0))] [] .n ?_
 refine kRs 2 [Ob 2 (TMsg.ob_00000000010011000000011 (TMsg.mk 0 0 0 0 0 0 0 0 m.OK [] (TTxn.mk 0 0 [] []) 0 0 m.Pos m.Shard false ByteArray.empty ByteArray.empty [] [] 0))] [] .n ?_
 refine kRt ?_
 have h_ := some_inj h
 subst h_
 exact kFr
def bd72 : Code := (Try.f72.body).getD .skip
def msg_letter_askRead.O : Nat → Nat := fun t => bif ([1, 2] : List Nat).any (Nat.beq t) then 1 else 0
def msg_letter_askRead (m : TMsg) : Option TMsg :=
 some (TMsg.mk 0 0 0 0 0 0 0 0 false [] (TTxn.mk 0 0 [] []) m.Session m.Seq m.Pos m.Shard m.Span m.FromKey m.ToKey m.Keys [] 0)
theorem msg_letter_askRead.meets (m : TMsg) (z0 : TMsg) (h : msg_letter_askRead m = some z0) : Meets Try.prog ⟨72, [.data (TMsg.ag m)], []⟩ ⟨.data (TMsg.ag z0), []⟩ := by
 refine kMt hmix msg_letter_askRead.O Try.f72 bd72 1 ?_
 unfold msg_letter_askRead at h
 refine kRs 0 [Tm 1 (.ptr 1 0), Tm 2 (.ptr 2 0), Ob 1 (TMsg.ob m), Ob 2 (TMsg.ob_00000000010011000000011 (TMsg.mk 0 0 0 0 0 0 0 0 false [] (TTxn.mk 0 0 [] []) 0 0 0 0 false ByteArray.empty ByteArray.empty [] [] 0))] [] .n ?_
 refine kRs 2 [Ob 2 (TMsg.ob (TMsg.mk 0 0 0 0 0 0 0 0 false [] (TTxn.mk 0 0 [] []) m.Session m.Seq m.Pos m.Shard m.Span m.FromKey m.ToKey m.Keys [] 0))] [] .n ?_
 refine kRt ?_
 have h_ := some_inj h
 subst h_
 exact kFr
def bd73 : Code := (Try.f73.body).getD .skip
def msg_letter_reads.O : Nat → Nat := fun t => bif ([1, 2, 3, 5, 9, 12] : List Nat).any (Nat.beq t) then 1 else 0
def msg_letter_reads (m : TMsg) : Option TMsg :=
 bd (msg_letter_askRead m) fun r2_1 =>
 some (TMsg.mk r2_1.Kind r2_1.From r2_1.To r2_1.Part r2_1.Term r2_1.Index r2_1.LogTerm r2_1.Commit r2_1.OK r2_1.Entries r2_1.T r2_1.Session r2_1.Seq r2_1.Pos r2_1.Shard r2_1.Span r2_1.FromKey r2_1.ToKey r2_1.Keys m.Got m.Err)
theorem msg_letter_reads.meets (m : TMsg) (z0 : TMsg) (h : msg_letter_reads m = some z0) : Meets Try.prog ⟨73, [.data (TMsg.ag m)], []⟩ ⟨.data (TMsg.ag z0), []⟩ := by
 refine kMt hmix msg_letter_reads.O Try.f73 bd73 1 ?_
 unfold msg_letter_reads at h
 refine kRs 0 [Tm 1 (.ptr 1 0), Tm 2 (.ptr 2 0), Ob 1 (TMsg.ob m), Ob 2 (TMsg.ob_00000000010011000000011 (TMsg.mk 0 0 0 0 0 0 0 0 false [] (TTxn.mk 0 0 [] []) 0 0 0 0 false ByteArray.empty ByteArray.empty [] [] 0))] [] .n ?_
 obtain ⟨r2_1, h2_2, h⟩ := bd_inv h
 refine kRs 15 [Tm 3 (.ptr 3 0), Ob 3 (TMsg.ob r2_1)] [.a ⟨.data (TMsg.ag r2_1), []⟩] (.c (Asks.of (C := Meets Try.prog) (msg_letter_askRead.meets m _ h2_2)) .n) ?_
 refine kRs 41 [Ob 3 (TMsg.ob (TMsg.mk r2_1.Kind r2_1.From r2_1.To r2_1.Part r2_1.Term r2_1.Index r2_1.LogTerm r2_1.Commit r2_1.OK r2_1.Entries r2_1.T r2_1.Session r2_1.Seq r2_1.Pos r2_1.Shard r2_1.Span r2_1.FromKey r2_1.ToKey r2_1.Keys m.Got m.Err))] [] (.c rT .n) ?_
 refine kRs 4 [Ob 2 (TMsg.ob (TMsg.mk r2_1.Kind r2_1.From r2_1.To r2_1.Part r2_1.Term r2_1.Index r2_1.LogTerm r2_1.Commit r2_1.OK r2_1.Entries r2_1.T r2_1.Session r2_1.Seq r2_1.Pos r2_1.Shard r2_1.Span r2_1.FromKey r2_1.ToKey r2_1.Keys m.Got m.Err))] [] .n ?_
 refine kRt ?_
 have h_ := some_inj h
 subst h_
 exact kFr
def bd27 : Code := (Try.f27.body).getD .skip
def msg_named.O : Nat → Nat := fun t => bif ([1, 2, 3, 4, 5, 6, 7, 19, 22, 30, 35] : List Nat).any (Nat.beq t) then 1 else bif ([14] : List Nat).any (Nat.beq t) then 6 else 0
def msg_named (m : TMsg) : Option (TMsg × Bool) :=
 br (m.Kind == 1)
  (bd (msg_letter_askVote m) fun r5_1 =>
  some ((TMsg.mk m.Kind m.From m.To m.Part r5_1.Term r5_1.Index r5_1.LogTerm r5_1.Commit r5_1.OK r5_1.Entries r5_1.T r5_1.Session r5_1.Seq r5_1.Pos r5_1.Shard r5_1.Span r5_1.FromKey r5_1.ToKey r5_1.Keys r5_1.Got r5_1.Err), true))
  (br (m.Kind == 2)
   (bd (msg_letter_vote m) fun r9_1 =>
   some ((TMsg.mk m.Kind m.From m.To m.Part r9_1.Term r9_1.Index r9_1.LogTerm r9_1.Commit r9_1.OK r9_1.Entries r9_1.T r9_1.Session r9_1.Seq r9_1.Pos r9_1.Shard r9_1.Span r9_1.FromKey r9_1.ToKey r9_1.Keys r9_1.Got r9_1.Err), true))
   (br (m.Kind == 3)
    (bd (msg_letter_append m) fun r13_1 =>
    some ((TMsg.mk m.Kind m.From m.To m.Part r13_1.Term r13_1.Index r13_1.LogTerm r13_1.Commit r13_1.OK r13_1.Entries r13_1.T r13_1.Session r13_1.Seq r13_1.Pos r13_1.Shard r13_1.Span r13_1.FromKey r13_1.ToKey r13_1.Keys r13_1.Got r13_1.Err), true))
    (br (m.Kind == 4)
     (bd (msg_letter_appended m) fun r17_1 =>
     some ((TMsg.mk m.Kind m.From m.To m.Part r17_1.Term r17_1.Index r17_1.LogTerm r17_1.Commit r17_1.OK r17_1.Entries r17_1.T r17_1.Session r17_1.Seq r17_1.Pos r17_1.Shard r17_1.Span r17_1.FromKey r17_1.ToKey r17_1.Keys r17_1.Got r17_1.Err), true))
     (br (m.Kind == 5)
      (bd (msg_letter_submit m) fun r21_1 =>
      some ((TMsg.mk m.Kind m.From m.To m.Part r21_1.Term r21_1.Index r21_1.LogTerm r21_1.Commit r21_1.OK r21_1.Entries r21_1.T r21_1.Session r21_1.Seq r21_1.Pos r21_1.Shard r21_1.Span r21_1.FromKey r21_1.ToKey r21_1.Keys r21_1.Got r21_1.Err), true))
      (br (m.Kind == 6)
       (bd (msg_letter_askBit m) fun r25_1 =>
       some ((TMsg.mk m.Kind m.From m.To m.Part r25_1.Term r25_1.Index r25_1.LogTerm r25_1.Commit r25_1.OK r25_1.Entries r25_1.T r25_1.Session r25_1.Seq r25_1.Pos r25_1.Shard r25_1.Span r25_1.FromKey r25_1.ToKey r25_1.Keys r25_1.Got r25_1.Err), true))
       (br (m.Kind == 7)
        (bd (msg_letter_bit m) fun r29_1 =>
        some ((TMsg.mk m.Kind m.From m.To m.Part r29_1.Term r29_1.Index r29_1.LogTerm r29_1.Commit r29_1.OK r29_1.Entries r29_1.T r29_1.Session r29_1.Seq r29_1.Pos r29_1.Shard r29_1.Span r29_1.FromKey r29_1.ToKey r29_1.Keys r29_1.Got r29_1.Err), true))
        (br (m.Kind == 8)
         (bd (msg_letter_askRead m) fun r33_1 =>
         some ((TMsg.mk m.Kind m.From m.To m.Part r33_1.Term r33_1.Index r33_1.LogTerm r33_1.Commit r33_1.OK r33_1.Entries r33_1.T r33_1.Session r33_1.Seq r33_1.Pos r33_1.Shard r33_1.Span r33_1.FromKey r33_1.ToKey r33_1.Keys r33_1.Got r33_1.Err), true))
         (br (m.Kind == 9)
          (bd (msg_letter_reads m) fun r37_1 =>
          some ((TMsg.mk m.Kind m.From m.To m.Part r37_1.Term r37_1.Index r37_1.LogTerm r37_1.Commit r37_1.OK r37_1.Entries r37_1.T r37_1.Session r37_1.Seq r37_1.Pos r37_1.Shard r37_1.Span r37_1.FromKey r37_1.ToKey r37_1.Keys r37_1.Got r37_1.Err), true))
          (some ((TMsg.mk 0 0 0 0 0 0 0 0 false [] (TTxn.mk 0 0 [] []) 0 0 0 0 false ByteArray.empty ByteArray.empty [] [] 0), false))))))))))
theorem msg_named.meets (m : TMsg) (z0 : TMsg) (z1 : Bool) (h : msg_named m = some (z0, z1)) : Meets Try.prog ⟨27, [.data (TMsg.ag m)], []⟩ ⟨.tup [.data (TMsg.ag z0), bv z1], []⟩ := by
 refine kMt hmix msg_named.O Try.f27 bd27 1 ?_
 unfold msg_named at h
 refine kRs 0 [Tm 1 (.ptr 1 0), Tm 2 (.ptr 2 0), Ob 1 (TMsg.ob m), Ob 2 (TMsg.ob_00000000010011000000011 (TMsg.mk 0 0 0 0 0 0 0 0 false [] (TTxn.mk 0 0 [] []) 0 0 0 0 false ByteArray.empty ByteArray.empty [] [] 0))] [] .n ?_
 refine kRs 15 [Tm 4 (.data (.mp 2 [(.int .i64 1, .func (.func 65) #[] #[]), (.int .i64 2, .func (.func 66) #[] #[]), (.int .i64 3, .func (.func 67) #[] #[]), (.int .i64 4, .func (.func 68) #[] #[]), (.int .i64 5, .func (.func 69) #[] #[]), (.int .i64 6, .func (.func 70) #[] #[]), (.int .i64 7, .func (.func 71) #[] #[]), (.int .i64 8, .func (.func 72) #[] #[]), (.int .i64 9, .func (.func 73) #[] #[])]))] [] .n ?_
 rcases br_inv h with ⟨b3_1, h⟩ | ⟨b3_1, h⟩
 ·refine kRs 30 [Tm 5 (.fn (.func 65) [] []), Tm 6 (bv true)] [.b true] (.c b3_1 .n) ?_
  refine kSq ?_
  refine kRs 61 [Tm 18 (bv false)] [] .n ?_
  refine kCe rF ?_
  refine kSk ?_
  refine kCd (cR (cR (cR (cR bd27)))) [] ?_
  obtain ⟨r5_1, h5_2, h⟩ := bd_inv h
  refine kRs 60 [Tm 7 (.ptr 7 0), Ob 7 (TMsg.ob_00000000010011000000011 r5_1)] [.a ⟨.data (TMsg.ag_00000000010011000000011 r5_1), []⟩] (.c (Asks.of (C := Meets Try.prog) (msg_letter_askVote.meets m _ h5_2)) .n) ?_
  refine kRs 41 [Ob 7 (TMsg.ob_00000000010011000000011 (TMsg.mk m.Kind m.From m.To m.Part r5_1.Term r5_1.Index r5_1.LogTerm r5_1.Commit r5_1.OK r5_1.Entries r5_1.T r5_1.Session r5_1.Seq r5_1.Pos r5_1.Shard r5_1.Span r5_1.FromKey r5_1.ToKey r5_1.Keys r5_1.Got r5_1.Err))] [] (.c rT .n) ?_
  refine kRs 4 [Tm 3 (bv true), Ob 2 (TMsg.ob_00000000010011000000011 (TMsg.mk m.Kind m.From m.To m.Part r5_1.Term r5_1.Index r5_1.LogTerm r5_1.Commit r5_1.OK r5_1.Entries r5_1.T r5_1.Session r5_1.Seq r5_1.Pos r5_1.Shard r5_1.Span r5_1.FromKey r5_1.ToKey r5_1.Keys r5_1.Got r5_1.Err))] [] .n ?_
  refine kRt ?_
  have h_0 := some_inj h
  obtain ⟨g_1, h_1⟩ := Prod.mk.inj h_0
  subst g_1
  subst h_1
  exact kFr
 ·rcases br_inv h with ⟨b3_2, h⟩ | ⟨b3_2, h⟩
  ·refine kRs 30 [Tm 5 (.fn (.func 66) [] []), Tm 6 (bv true)] [.b false, .b true] (.c b3_1 (.c b3_2 .n)) ?_
   refine kSq ?_
   refine kRs 61 [Tm 18 (bv false)] [] .n ?_
   refine kCe rF ?_
   refine kSk ?_
   refine kCd (cR (cR (cR (cR bd27)))) [] ?_
   obtain ⟨r9_1, h9_2, h⟩ := bd_inv h
   refine kRs 60 [Tm 7 (.ptr 7 0), Ob 7 (TMsg.ob_00000000010011000000011 r9_1)] [.a ⟨.data (TMsg.ag_00000000010011000000011 r9_1), []⟩] (.c (Asks.of (C := Meets Try.prog) (msg_letter_vote.meets m _ h9_2)) .n) ?_
   refine kRs 41 [Ob 7 (TMsg.ob_00000000010011000000011 (TMsg.mk m.Kind m.From m.To m.Part r9_1.Term r9_1.Index r9_1.LogTerm r9_1.Commit r9_1.OK r9_1.Entries r9_1.T r9_1.Session r9_1.Seq r9_1.Pos r9_1.Shard r9_1.Span r9_1.FromKey r9_1.ToKey r9_1.Keys r9_1.Got r9_1.Err))] [] (.c rT .n) ?_
   refine kRs 4 [Tm 3 (bv true), Ob 2 (TMsg.ob_00000000010011000000011 (TMsg.mk m.Kind m.From m.To m.Part r9_1.Term r9_1.Index r9_1.LogTerm r9_1.Commit r9_1.OK r9_1.Entries r9_1.T r9_1.Session r9_1.Seq r9_1.Pos r9_1.Shard r9_1.Span r9_1.FromKey r9_1.ToKey r9_1.Keys r9_1.Got r9_1.Err))] [] .n ?_
   refine kRt ?_
   have h_0 := some_inj h
   obtain ⟨g_1, h_1⟩ := Prod.mk.inj h_0
   subst g_1
   subst h_1
   exact kFr
  ·rcases br_inv h with ⟨b3_3, h⟩ | ⟨b3_3, h⟩
   ·refine kRs 30 [Tm 5 (.fn (.func 67) [] []), Tm 6 (bv true)] [.b false, .b false, .b true] (.c b3_1 (.c b3_2 (.c b3_3 .n))) ?_
    refine kSq ?_
    refine kRs 61 [Tm 18 (bv false)] [] .n ?_
    refine kCe rF ?_
    refine kSk ?_
    refine kCd (cR (cR (cR (cR bd27)))) [] ?_
    obtain ⟨r13_1, h13_2, h⟩ := bd_inv h
    refine kRs 60 [Tm 7 (.ptr 7 0), Ob 7 (TMsg.ob r13_1)] [.a ⟨.data (TMsg.ag r13_1), []⟩] (.c (Asks.of (C := Meets Try.prog) (msg_letter_append.meets m _ h13_2)) .n) ?_
    refine kRs 41 [Ob 7 (TMsg.ob (TMsg.mk m.Kind m.From m.To m.Part r13_1.Term r13_1.Index r13_1.LogTerm r13_1.Commit r13_1.OK r13_1.Entries r13_1.T r13_1.Session r13_1.Seq r13_1.Pos r13_1.Shard r13_1.Span r13_1.FromKey r13_1.ToKey r13_1.Keys r13_1.Got r13_1.Err))] [] (.c rT .n) ?_
    refine kRs 4 [Tm 3 (bv true), Ob 2 (TMsg.ob (TMsg.mk m.Kind m.From m.To m.Part r13_1.Term r13_1.Index r13_1.LogTerm r13_1.Commit r13_1.OK r13_1.Entries r13_1.T r13_1.Session r13_1.Seq r13_1.Pos r13_1.Shard r13_1.Span r13_1.FromKey r13_1.ToKey r13_1.Keys r13_1.Got r13_1.Err))] [] .n ?_
    refine kRt ?_
    have h_0 := some_inj h
    obtain ⟨g_1, h_1⟩ := Prod.mk.inj h_0
    subst g_1
    subst h_1
    exact kFr
   ·rcases br_inv h with ⟨b3_4, h⟩ | ⟨b3_4, h⟩
    ·refine kRs 30 [Tm 5 (.fn (.func 68) [] []), Tm 6 (bv true)] [.b false, .b false, .b false, .b true] (.c b3_1 (.c b3_2 (.c b3_3 (.c b3_4 .n)))) ?_
     refine kSq ?_
     refine kRs 61 [Tm 18 (bv false)] [] .n ?_
     refine kCe rF ?_
     refine kSk ?_
     refine kCd (cR (cR (cR (cR bd27)))) [] ?_
     obtain ⟨r17_1, h17_2, h⟩ := bd_inv h
     refine kRs 60 [Tm 7 (.ptr 7 0), Ob 7 (TMsg.ob_00000000010011000000011 r17_1)] [.a ⟨.data (TMsg.ag_00000000010011000000011 r17_1), []⟩] (.c (Asks.of (C := Meets Try.prog) (msg_letter_appended.meets m _ h17_2)) .n) ?_
     refine kRs 41 [Ob 7 (TMsg.ob_00000000010011000000011 (TMsg.mk m.Kind m.From m.To m.Part r17_1.Term r17_1.Index r17_1.LogTerm r17_1.Commit r17_1.OK r17_1.Entries r17_1.T r17_1.Session r17_1.Seq r17_1.Pos r17_1.Shard r17_1.Span r17_1.FromKey r17_1.ToKey r17_1.Keys r17_1.Got r17_1.Err))] [] (.c rT .n) ?_
     refine kRs 4 [Tm 3 (bv true), Ob 2 (TMsg.ob_00000000010011000000011 (TMsg.mk m.Kind m.From m.To m.Part r17_1.Term r17_1.Index r17_1.LogTerm r17_1.Commit r17_1.OK r17_1.Entries r17_1.T r17_1.Session r17_1.Seq r17_1.Pos r17_1.Shard r17_1.Span r17_1.FromKey r17_1.ToKey r17_1.Keys r17_1.Got r17_1.Err))] [] .n ?_
     refine kRt ?_
     have h_0 := some_inj h
     obtain ⟨g_1, h_1⟩ := Prod.mk.inj h_0
     subst g_1
     subst h_1
     exact kFr
    ·rcases br_inv h with ⟨b3_5, h⟩ | ⟨b3_5, h⟩
     ·refine kRs 30 [Tm 5 (.fn (.func 69) [] []), Tm 6 (bv true)] (rp 4 (.b false) [.b true]) (.c b3_1 (.c b3_2 (.c b3_3 (.c b3_4 (.c b3_5 .n))))) ?_
      refine kSq ?_
      refine kRs 61 [Tm 18 (bv false)] [] .n ?_
      refine kCe rF ?_
      refine kSk ?_
      refine kCd (cR (cR (cR (cR bd27)))) [] ?_
      obtain ⟨r21_1, h21_2, h⟩ := bd_inv h
      refine kRs 60 [Tm 7 (.ptr 7 0), Ob 7 (TMsg.ob r21_1)] [.a ⟨.data (TMsg.ag r21_1), []⟩] (.c (Asks.of (C := Meets Try.prog) (msg_letter_submit.meets m _ h21_2)) .n) ?_
      refine kRs 41 [Ob 7 (TMsg.ob (TMsg.mk m.Kind m.From m.To m.Part r21_1.Term r21_1.Index r21_1.LogTerm r21_1.Commit r21_1.OK r21_1.Entries r21_1.T r21_1.Session r21_1.Seq r21_1.Pos r21_1.Shard r21_1.Span r21_1.FromKey r21_1.ToKey r21_1.Keys r21_1.Got r21_1.Err))] [] (.c rT .n) ?_
      refine kRs 4 [Tm 3 (bv true), Ob 2 (TMsg.ob (TMsg.mk m.Kind m.From m.To m.Part r21_1.Term r21_1.Index r21_1.LogTerm r21_1.Commit r21_1.OK r21_1.Entries r21_1.T r21_1.Session r21_1.Seq r21_1.Pos r21_1.Shard r21_1.Span r21_1.FromKey r21_1.ToKey r21_1.Keys r21_1.Got r21_1.Err))] [] .n ?_
      refine kRt ?_
      have h_0 := some_inj h
      obtain ⟨g_1, h_1⟩ := Prod.mk.inj h_0
      subst g_1
      subst h_1
      exact kFr
     ·rcases br_inv h with ⟨b3_6, h⟩ | ⟨b3_6, h⟩
      ·refine kRs 30 [Tm 5 (.fn (.func 70) [] []), Tm 6 (bv true)] (rp 5 (.b false) [.b true]) (.c b3_1 (.c b3_2 (.c b3_3 (.c b3_4 (.c b3_5 (.c b3_6 .n)))))) ?_
       refine kSq ?_
       refine kRs 61 [Tm 18 (bv false)] [] .n ?_
       refine kCe rF ?_
       refine kSk ?_
       refine kCd (cR (cR (cR (cR bd27)))) [] ?_
       obtain ⟨r25_1, h25_2, h⟩ := bd_inv h
       refine kRs 60 [Tm 7 (.ptr 7 0), Ob 7 (TMsg.ob_00000000010011000000011 r25_1)] [.a ⟨.data (TMsg.ag_00000000010011000000011 r25_1), []⟩] (.c (Asks.of (C := Meets Try.prog) (msg_letter_askBit.meets m _ h25_2)) .n) ?_
       refine kRs 41 [Ob 7 (TMsg.ob_00000000010011000000011 (TMsg.mk m.Kind m.From m.To m.Part r25_1.Term r25_1.Index r25_1.LogTerm r25_1.Commit r25_1.OK r25_1.Entries r25_1.T r25_1.Session r25_1.Seq r25_1.Pos r25_1.Shard r25_1.Span r25_1.FromKey r25_1.ToKey r25_1.Keys r25_1.Got r25_1.Err))] [] (.c rT .n) ?_
       refine kRs 4 [Tm 3 (bv true), Ob 2 (TMsg.ob_00000000010011000000011 (TMsg.mk m.Kind m.From m.To m.Part r25_1.Term r25_1.Index r25_1.LogTerm r25_1.Commit r25_1.OK r25_1.Entries r25_1.T r25_1.Session r25_1.Seq r25_1.Pos r25_1.Shard r25_1.Span r25_1.FromKey r25_1.ToKey r25_1.Keys r25_1.Got r25_1.Err))] [] .n ?_
       refine kRt ?_
       have h_0 := some_inj h
       obtain ⟨g_1, h_1⟩ := Prod.mk.inj h_0
       subst g_1
       subst h_1
       exact kFr
      ·rcases br_inv h with ⟨b3_7, h⟩ | ⟨b3_7, h⟩
       ·refine kRs 30 [Tm 5 (.fn (.func 71) [] []), Tm 6 (bv true)] (rp 6 (.b false) [.b true]) (.c b3_1 (.c b3_2 (.c b3_3 (.c b3_4 (.c b3_5 (.c b3_6 (.c b3_7 .n))))))) ?_
        refine kSq ?_
        refine kRs 61 [Tm 18 (bv false)] [] .n ?_
        refine kCe rF ?_
        refine kSk ?_
        refine kCd (cR (cR (cR (cR bd27)))) [] ?_
        obtain ⟨r29_1, h29_2, h⟩ := bd_inv h
        refine kRs 60 [Tm 7 (.ptr 7 0), Ob 7 (TMsg.ob_00000000010011000000011 r29_1)] [.a ⟨.data (TMsg.ag_00000000010011000000011 r29_1), []⟩] (.c (Asks.of (C := Meets Try.prog) (msg_letter_bit.meets m _ h29_2)) .n) ?_
        refine kRs 41 [Ob 7 (TMsg.ob_00000000010011000000011 (TMsg.mk m.Kind m.From m.To m.Part r29_1.Term r29_1.Index r29_1.LogTerm r29_1.Commit r29_1.OK r29_1.Entries r29_1.T r29_1.Session r29_1.Seq r29_1.Pos r29_1.Shard r29_1.Span r29_1.FromKey r29_1.ToKey r29_1.Keys r29_1.Got r29_1.Err))] [] (.c rT .n) ?_
        refine kRs 4 [Tm 3 (bv true), Ob 2 (TMsg.ob_00000000010011000000011 (TMsg.mk m.Kind m.From m.To m.Part r29_1.Term r29_1.Index r29_1.LogTerm r29_1.Commit r29_1.OK r29_1.Entries r29_1.T r29_1.Session r29_1.Seq r29_1.Pos r29_1.Shard r29_1.Span r29_1.FromKey r29_1.ToKey r29_1.Keys r29_1.Got r29_1.Err))] [] .n ?_
        refine kRt ?_
        have h_0 := some_inj h
        obtain ⟨g_1, h_1⟩ := Prod.mk.inj h_0
        subst g_1
        subst h_1
        exact kFr
       ·rcases br_inv h with ⟨b3_8, h⟩ | ⟨b3_8, h⟩
        ·refine kRs 30 [Tm 5 (.fn (.func 72) [] []), Tm 6 (bv true)] (rp 7 (.b false) [.b true]) (.c b3_1 (.c b3_2 (.c b3_3 (.c b3_4 (.c b3_5 (.c b3_6 (.c b3_7 (.c b3_8 .n)))))))) ?_
         refine kSq ?_
         refine kRs 61 [Tm 18 (bv false)] [] .n ?_
         refine kCe rF ?_
         refine kSk ?_
         refine kCd (cR (cR (cR (cR bd27)))) [] ?_
         obtain ⟨r33_1, h33_2, h⟩ := bd_inv h
         refine kRs 60 [Tm 7 (.ptr 7 0), Ob 7 (TMsg.ob r33_1)] [.a ⟨.data (TMsg.ag r33_1), []⟩] (.c (Asks.of (C := Meets Try.prog) (msg_letter_askRead.meets m _ h33_2)) .n) ?_
         refine kRs 41 [Ob 7 (TMsg.ob (TMsg.mk m.Kind m.From m.To m.Part r33_1.Term r33_1.Index r33_1.LogTerm r33_1.Commit r33_1.OK r33_1.Entries r33_1.T r33_1.Session r33_1.Seq r33_1.Pos r33_1.Shard r33_1.Span r33_1.FromKey r33_1.ToKey r33_1.Keys r33_1.Got r33_1.Err))] [] (.c rT .n) ?_
         refine kRs 4 [Tm 3 (bv true), Ob 2 (TMsg.ob (TMsg.mk m.Kind m.From m.To m.Part r33_1.Term r33_1.Index r33_1.LogTerm r33_1.Commit r33_1.OK r33_1.Entries r33_1.T r33_1.Session r33_1.Seq r33_1.Pos r33_1.Shard r33_1.Span r33_1.FromKey r33_1.ToKey r33_1.Keys r33_1.Got r33_1.Err))] [] .n ?_
         refine kRt ?_
         have h_0 := some_inj h
         obtain ⟨g_1, h_1⟩ := Prod.mk.inj h_0
         subst g_1
         subst h_1
         exact kFr
        ·rcases br_inv h with ⟨b3_9, h⟩ | ⟨b3_9, h⟩
         ·refine kRs 30 [Tm 5 (.fn (.func 73) [] []), Tm 6 (bv true)] (rp 8 (.b false) [.b true]) (.c b3_1 (.c b3_2 (.c b3_3 (.c b3_4 (.c b3_5 (.c b3_6 (.c b3_7 (.c b3_8 (.c b3_9 .n))))))))) ?_
          refine kSq ?_
          refine kRs 61 [Tm 18 (bv false)] [] .n ?_
          refine kCe rF ?_
          refine kSk ?_
          refine kCd (cR (cR (cR (cR bd27)))) [] ?_
          obtain ⟨r37_1, h37_2, h⟩ := bd_inv h
          refine kRs 60 [Tm 7 (.ptr 7 0), Ob 7 (TMsg.ob r37_1)] [.a ⟨.data (TMsg.ag r37_1), []⟩] (.c (Asks.of (C := Meets Try.prog) (msg_letter_reads.meets m _ h37_2)) .n) ?_
          refine kRs 41 [Ob 7 (TMsg.ob (TMsg.mk m.Kind m.From m.To m.Part r37_1.Term r37_1.Index r37_1.LogTerm r37_1.Commit r37_1.OK r37_1.Entries r37_1.T r37_1.Session r37_1.Seq r37_1.Pos r37_1.Shard r37_1.Span r37_1.FromKey r37_1.ToKey r37_1.Keys r37_1.Got r37_1.Err))] [] (.c rT .n) ?_
          refine kRs 4 [Tm 3 (bv true), Ob 2 (TMsg.ob (TMsg.mk m.Kind m.From m.To m.Part r37_1.Term r37_1.Index r37_1.LogTerm r37_1.Commit r37_1.OK r37_1.Entries r37_1.T r37_1.Session r37_1.Seq r37_1.Pos r37_1.Shard r37_1.Span r37_1.FromKey r37_1.ToKey r37_1.Keys r37_1.Got r37_1.Err))] [] .n ?_
          refine kRt ?_
          have h_0 := some_inj h
          obtain ⟨g_1, h_1⟩ := Prod.mk.inj h_0
          subst g_1
          subst h_1
          exact kFr
         ·refine kRs 30 [Tm 5 (.data (.val .nilFunc)), Tm 6 (bv false)] (rp 9 (.b false) []) (.c b3_1 (.c b3_2 (.c b3_3 (.c b3_4 (.c b3_5 (.c b3_6 (.c b3_7 (.c b3_8 (.c b3_9 .n))))))))) ?_
          refine kSq ?_
          refine kRs 61 [Tm 18 (bv true)] [] .n ?_
          refine kCt rT ?_
          refine kRs 40 [Tm 3 (bv false)] [] .n ?_
          refine kRt ?_
          have h_0 := some_inj h
          obtain ⟨g_1, h_1⟩ := Prod.mk.inj h_0
          subst g_1
          subst h_1
          exact kFr
def bd29 : Code := (Try.f29.body).getD .skip
def msg_numbers.O : Nat → Nat := fun t => bif ([1, 2, 19] : List Nat).any (Nat.beq t) then 1 else 0
def msg_numbers (m : TMsg) : Option (List Int) :=
 some ([m.Term, m.Index, m.LogTerm, m.Commit, m.Session, m.Seq, m.Pos, m.Shard] : List Int)
theorem msg_numbers.meets (m : TMsg) (z0 : List Int) (h : msg_numbers m = some z0) : Meets Try.prog ⟨29, [.data (TMsg.ag m)], []⟩ ⟨.data (.slc true (some false) 1 (List.map e_i64 z0)), []⟩ := by
 refine kMt hmix msg_numbers.O Try.f29 bd29 1 ?_
 unfold msg_numbers at h
 refine kRs 0 [Tm 1 (.ptr 1 0), Ob 1 (TMsg.ob m)] [] .n ?_
 refine kRs 0 [Tm 2 (.data (.slc true (some false) 1 (List.map e_i64 ([m.Term, m.Index, m.LogTerm, m.Commit, m.Session, m.Seq, m.Pos, m.Shard] : List Int))))] [] .n ?_
 refine kRt ?_
 have h_ := some_inj h
 subst h_
 exact kFr
def bd43 : Code := (Try.f43.body).getD .skip
def slices_Equal_int_int.O : Nat → Nat := fun t => bif ([4, 5] : List Nat).any (Nat.beq t) then 1 else 0
def slices_Equal_int_int.lp6 (fu : Nat) (l6_0 : List Int) (l6_1 : List Int) (l6_2 : Int) : Nat → Int → Option (Unit ⊕ Unit)
  | 0, _ => none
  | n_ + 1, l6_3 =>
  br (decide (l6_3 < l6_2))
   (ix l6_0 l6_3 fun x10_1 =>
   ix l6_1 l6_3 fun x10_4 =>
   br (x10_1 != x10_4)
    (some (.inr ()))
    (slices_Equal_int_int.lp6 fu l6_0 l6_1 l6_2 n_ (w64 (l6_3 + 1))))
   (some (.inl ()))
def slices_Equal_int_int.lp6_post (l6_0 : List Int) (l6_1 : List Int) (l6_2 : Int) (r_ : (Unit ⊕ Unit)) : Wy → St → Prop := fun e τ => match r_ with
  | .inl _ => e = .exit 0 ∧ τ = ofL []
  | .inr _ => e = .ret ∧ τ = ofL [Tm 4 (bv false)]
theorem slices_Equal_int_int.lp6_ok (fu : Nat) (l6_0 : List Int) (l6_1 : List Int) (l6_2 : Int) : ∀ (n_ : Nat) (l6_3 : Int) (r_ : (Unit ⊕ Unit)), slices_Equal_int_int.lp6 fu l6_0 l6_1 l6_2 n_ l6_3 = some r_ → WK Try.prog slices_Equal_int_int.O (Ck Try.prog) (cB (cR (cL (cR (cR bd43))))) [] (ofL [Tm 0 (sS 1 e_i64 l6_0), Tm 1 (sS 1 e_i64 l6_1), Tm 12 (iv l6_2), Tm 13 (iv l6_3)]) (slices_Equal_int_int.lp6_post l6_0 l6_1 l6_2 r_) := by
 intro n_
 induction n_ with
 | zero => intro l6_3 r_ h; exact no_none h
 | succ n_ ih =>
  intro l6_3 r_ h
  refine kLp ?_
  refine kRs 15 [Tm 14 (bv (decide (l6_3 < l6_2)))] [] .n ?_
  refine kSq ?_
  rcases br_inv h with ⟨b8_0, h⟩ | ⟨b8_0, h⟩
  ·refine kCt b8_0 ?_
   refine kSk ?_
   refine kCd (cR (cR (cB (cB (cR (cL (cR (cR bd43)))))))) [.lp (cB (cR (cL (cR (cR bd43)))))] ?_
   refine kSq ?_
   refine kBk 1 ?_
   refine kRs 30 [Tm 5 (iv l6_3)] [] .n ?_
   obtain ⟨x10_1, a10_2, e10_3, h⟩ := ix_inv h
   obtain ⟨x10_4, a10_5, e10_6, h⟩ := ix_inv h
   refine kRs 30 [Tm 24 (bv (x10_1 != x10_4))] [.c (e_i64 x10_1), .c (e_i64 x10_4)] (.c (c_ix (e := e_i64) a10_2 e10_3) (.c (c_el (e := e_i64) e10_3) (.c (c_ix (e := e_i64) a10_5 e10_6) (.c (c_el (e := e_i64) e10_6) (.c rT .n))))) ?_
   rcases br_inv h with ⟨b11_0, h⟩ | ⟨b11_0, h⟩
   ·refine kCt b11_0 ?_
    refine kRs 0 [Tm 4 (bv false)] [] .n ?_
    cases some_inj h
    refine kWo ?_
    refine kRt ?_
    exact kOut
   ·refine kCe b11_0 ?_
    refine kSk ?_
    refine kCd (cR (cR (cR (cB (cB (cR (cL (cR (cR bd43))))))))) [.lp (cB (cR (cL (cR (cR bd43)))))] ?_
    refine kRc 14 [Tm 13 (iv (w64 (l6_3 + 1)))] [] .n (cB (cR (cL (cR (cR bd43))))) [] ?_
    exact kWk (ih (w64 (l6_3 + 1)) _ h)
  ·refine kCe b8_0 ?_
   cases some_inj h
   refine kWo ?_
   refine kXt 0 ?_
   exact kOut
def slices_Equal_int_int (fu : Nat) (s1 : List Int) (s2 : List Int) : Option Bool :=
 br ((s1.length : Int) != (s2.length : Int))
  (some false)
  (bd (slices_Equal_int_int.lp6 fu s1 s2 (s1.length : Int) fu 0) fun o_ => (match o_ with
  | .inl _ =>
   some true
  | .inr _ =>
   some false))
theorem slices_Equal_int_int.meets (fu : Nat) (s1 : List Int) (s2 : List Int) (z0 : Bool) (h : slices_Equal_int_int fu s1 s2 = some z0) : Meets Try.prog ⟨43, [sS 1 e_i64 s1, sS 1 e_i64 s2], []⟩ ⟨bv z0, []⟩ := by
 refine kMt hmix slices_Equal_int_int.O Try.f43 bd43 3 ?_
 unfold slices_Equal_int_int at h
 refine kRs 3 [] [] .n ?_
 refine kSq ?_
 refine kRs 3 [Tm 10 (bv ((s1.length : Int) != (s2.length : Int)))] [.s (.t 7) [iv (s1.length : Int)], .s (.t 9) [iv (s2.length : Int)]] (.c (c_len (e := e_i64) (l := s1)) (.c (c_len (e := e_i64) (l := s2)) .n)) ?_
 rcases br_inv h with ⟨b3_0, h⟩ | ⟨b3_0, h⟩
 ·refine kCt b3_0 ?_
  refine kRs 0 [Tm 4 (bv false)] [] .n ?_
  refine kRt ?_
  have h_ := some_inj h
  subst h_
  exact kFr
 ·refine kCe b3_0 ?_
  refine kSk ?_
  refine kCd (cR (cR bd43)) [] ?_
  refine kSq ?_
  refine kRs 6 [Tm 12 (iv (s1.length : Int)), Tm 13 (iv 0)] [.s (.t 12) [iv (s1.length : Int)]] (.c (c_len (e := e_i64) (l := s1)) .n) ?_
  refine kBk 0 ?_
  obtain ⟨o14, ho14, h⟩ := bd_inv h
  refine kUs (slices_Equal_int_int.lp6_ok fu s1 s2 (s1.length : Int) _ 0 _ ho14) ?_
  intro e_ τ_ hp_
  rcases o14 with o14 | o14
  ·obtain ⟨⟩ := o14
   obtain ⟨rfl, rfl⟩ := hp_
   refine kCd (cR (cR (cR bd43))) [] ?_
   refine kRs 0 [Tm 4 (bv true)] [] .n ?_
   refine kRt ?_
   have h_ := some_inj h
   subst h_
   exact kFr
  ·obtain ⟨⟩ := o14
   obtain ⟨rfl, rfl⟩ := hp_
   have h_ := some_inj h
   subst h_
   exact kFr
def bd48 : Code := (Try.f48.body).getD .skip
def slices_Equal_api_Read.O : Nat → Nat := fun t => bif ([4, 5] : List Nat).any (Nat.beq t) then 1 else 0
def slices_Equal_api_Read.lp6 (fu : Nat) (l6_0 : List TRead) (l6_1 : List TRead) (l6_2 : Int) : Nat → Int → Option (Unit ⊕ Unit)
  | 0, _ => none
  | n_ + 1, l6_3 =>
  br (decide (l6_3 < l6_2))
   (ix l6_0 l6_3 fun x10_1 =>
   ix l6_1 l6_3 fun x10_4 =>
   br (!((x10_1.Key.toList == x10_4.Key.toList) && ((x10_1.Version == x10_4.Version) && ((x10_1.Val.toList == x10_4.Val.toList) && ((x10_1.There == x10_4.There) && true)))))
    (some (.inr ()))
    (slices_Equal_api_Read.lp6 fu l6_0 l6_1 l6_2 n_ (w64 (l6_3 + 1))))
   (some (.inl ()))
def slices_Equal_api_Read.lp6_post (l6_0 : List TRead) (l6_1 : List TRead) (l6_2 : Int) (r_ : (Unit ⊕ Unit)) : Wy → St → Prop := fun e τ => match r_ with
  | .inl _ => e = .exit 0 ∧ τ = ofL []
  | .inr _ => e = .ret ∧ τ = ofL [Tm 4 (bv false)]
theorem slices_Equal_api_Read.lp6_ok (fu : Nat) (l6_0 : List TRead) (l6_1 : List TRead) (l6_2 : Int) : ∀ (n_ : Nat) (l6_3 : Int) (r_ : (Unit ⊕ Unit)), slices_Equal_api_Read.lp6 fu l6_0 l6_1 l6_2 n_ l6_3 = some r_ → WK Try.prog slices_Equal_api_Read.O (Ck Try.prog) (cB (cR (cL (cR (cR bd48))))) [] (ofL [Tm 0 (sS 4 TRead.en l6_0), Tm 1 (sS 4 TRead.en l6_1), Tm 12 (iv l6_2), Tm 13 (iv l6_3)]) (slices_Equal_api_Read.lp6_post l6_0 l6_1 l6_2 r_) := by
 intro n_
 induction n_ with
 | zero => intro l6_3 r_ h; exact no_none h
 | succ n_ ih =>
  intro l6_3 r_ h
  refine kLp ?_
  refine kRs 15 [Tm 14 (bv (decide (l6_3 < l6_2)))] [] .n ?_
  refine kSq ?_
  rcases br_inv h with ⟨b8_0, h⟩ | ⟨b8_0, h⟩
  ·refine kCt b8_0 ?_
   refine kSk ?_
   refine kCd (cR (cR (cB (cB (cR (cL (cR (cR bd48)))))))) [.lp (cB (cR (cL (cR (cR bd48)))))] ?_
   refine kSq ?_
   refine kBk 1 ?_
   refine kRs 30 [Tm 5 (iv l6_3)] [] .n ?_
   obtain ⟨x10_1, a10_2, e10_3, h⟩ := ix_inv h
   obtain ⟨x10_4, a10_5, e10_6, h⟩ := ix_inv h
   refine kRs 30 [Tm 24 (bv (!((x10_1.Key.toList == x10_4.Key.toList) && ((x10_1.Version == x10_4.Version) && ((x10_1.Val.toList == x10_4.Val.toList) && ((x10_1.There == x10_4.There) && true))))))] [.c (TRead.en x10_1), .c (TRead.en x10_4)] (.c (c_ix (e := TRead.en) a10_2 e10_3) (.c (c_el (e := TRead.en) e10_3) (.c (c_ix (e := TRead.en) a10_5 e10_6) (.c (c_el (e := TRead.en) e10_6) (.c rT .n))))) ?_
   rcases br_inv h with ⟨b11_0, h⟩ | ⟨b11_0, h⟩
   ·refine kCt b11_0 ?_
    refine kRs 0 [Tm 4 (bv false)] [] .n ?_
    cases some_inj h
    refine kWo ?_
    refine kRt ?_
    exact kOut
   ·refine kCe b11_0 ?_
    refine kSk ?_
    refine kCd (cR (cR (cR (cB (cB (cR (cL (cR (cR bd48))))))))) [.lp (cB (cR (cL (cR (cR bd48)))))] ?_
    refine kRc 14 [Tm 13 (iv (w64 (l6_3 + 1)))] [] .n (cB (cR (cL (cR (cR bd48))))) [] ?_
    exact kWk (ih (w64 (l6_3 + 1)) _ h)
  ·refine kCe b8_0 ?_
   cases some_inj h
   refine kWo ?_
   refine kXt 0 ?_
   exact kOut
def slices_Equal_api_Read (fu : Nat) (s1 : List TRead) (s2 : List TRead) : Option Bool :=
 br ((s1.length : Int) != (s2.length : Int))
  (some false)
  (bd (slices_Equal_api_Read.lp6 fu s1 s2 (s1.length : Int) fu 0) fun o_ => (match o_ with
  | .inl _ =>
   some true
  | .inr _ =>
   some false))
theorem slices_Equal_api_Read.meets (fu : Nat) (s1 : List TRead) (s2 : List TRead) (z0 : Bool) (h : slices_Equal_api_Read fu s1 s2 = some z0) : Meets Try.prog ⟨48, [sS 4 TRead.en s1, sS 4 TRead.en s2], []⟩ ⟨bv z0, []⟩ := by
 refine kMt hmix slices_Equal_api_Read.O Try.f48 bd48 3 ?_
 unfold slices_Equal_api_Read at h
 refine kRs 3 [] [] .n ?_
 refine kSq ?_
 refine kRs 3 [Tm 10 (bv ((s1.length : Int) != (s2.length : Int)))] [.s (.t 7) [iv (s1.length : Int)], .s (.t 9) [iv (s2.length : Int)]] (.c (c_len (e := TRead.en) (l := s1)) (.c (c_len (e := TRead.en) (l := s2)) .n)) ?_
 rcases br_inv h with ⟨b3_0, h⟩ | ⟨b3_0, h⟩
 ·refine kCt b3_0 ?_
  refine kRs 0 [Tm 4 (bv false)] [] .n ?_
  refine kRt ?_
  have h_ := some_inj h
  subst h_
  exact kFr
 ·refine kCe b3_0 ?_
  refine kSk ?_
  refine kCd (cR (cR bd48)) [] ?_
  refine kSq ?_
  refine kRs 6 [Tm 12 (iv (s1.length : Int)), Tm 13 (iv 0)] [.s (.t 12) [iv (s1.length : Int)]] (.c (c_len (e := TRead.en) (l := s1)) .n) ?_
  refine kBk 0 ?_
  obtain ⟨o14, ho14, h⟩ := bd_inv h
  refine kUs (slices_Equal_api_Read.lp6_ok fu s1 s2 (s1.length : Int) _ 0 _ ho14) ?_
  intro e_ τ_ hp_
  rcases o14 with o14 | o14
  ·obtain ⟨⟩ := o14
   obtain ⟨rfl, rfl⟩ := hp_
   refine kCd (cR (cR (cR bd48))) [] ?_
   refine kRs 0 [Tm 4 (bv true)] [] .n ?_
   refine kRt ?_
   have h_ := some_inj h
   subst h_
   exact kFr
  ·obtain ⟨⟩ := o14
   obtain ⟨rfl, rfl⟩ := hp_
   have h_ := some_inj h
   subst h_
   exact kFr
def bd88 : Code := (Try.f88.body).getD .skip
def slices_Equal_api_Write.O : Nat → Nat := fun t => bif ([4, 5] : List Nat).any (Nat.beq t) then 1 else 0
def slices_Equal_api_Write.lp6 (fu : Nat) (l6_0 : List TWrite) (l6_1 : List TWrite) (l6_2 : Int) : Nat → Int → Option (Unit ⊕ Unit)
  | 0, _ => none
  | n_ + 1, l6_3 =>
  br (decide (l6_3 < l6_2))
   (ix l6_0 l6_3 fun x10_1 =>
   ix l6_1 l6_3 fun x10_4 =>
   br (!((x10_1.Key.toList == x10_4.Key.toList) && ((x10_1.Val.toList == x10_4.Val.toList) && ((x10_1.Gone == x10_4.Gone) && true))))
    (some (.inr ()))
    (slices_Equal_api_Write.lp6 fu l6_0 l6_1 l6_2 n_ (w64 (l6_3 + 1))))
   (some (.inl ()))
def slices_Equal_api_Write.lp6_post (l6_0 : List TWrite) (l6_1 : List TWrite) (l6_2 : Int) (r_ : (Unit ⊕ Unit)) : Wy → St → Prop := fun e τ => match r_ with
  | .inl _ => e = .exit 0 ∧ τ = ofL []
  | .inr _ => e = .ret ∧ τ = ofL [Tm 4 (bv false)]
theorem slices_Equal_api_Write.lp6_ok (fu : Nat) (l6_0 : List TWrite) (l6_1 : List TWrite) (l6_2 : Int) : ∀ (n_ : Nat) (l6_3 : Int) (r_ : (Unit ⊕ Unit)), slices_Equal_api_Write.lp6 fu l6_0 l6_1 l6_2 n_ l6_3 = some r_ → WK Try.prog slices_Equal_api_Write.O (Ck Try.prog) (cB (cR (cL (cR (cR bd88))))) [] (ofL [Tm 0 (sS 3 TWrite.en l6_0), Tm 1 (sS 3 TWrite.en l6_1), Tm 12 (iv l6_2), Tm 13 (iv l6_3)]) (slices_Equal_api_Write.lp6_post l6_0 l6_1 l6_2 r_) := by
 intro n_
 induction n_ with
 | zero => intro l6_3 r_ h; exact no_none h
 | succ n_ ih =>
  intro l6_3 r_ h
  refine kLp ?_
  refine kRs 15 [Tm 14 (bv (decide (l6_3 < l6_2)))] [] .n ?_
  refine kSq ?_
  rcases br_inv h with ⟨b8_0, h⟩ | ⟨b8_0, h⟩
  ·refine kCt b8_0 ?_
   refine kSk ?_
   refine kCd (cR (cR (cB (cB (cR (cL (cR (cR bd88)))))))) [.lp (cB (cR (cL (cR (cR bd88)))))] ?_
   refine kSq ?_
   refine kBk 1 ?_
   refine kRs 30 [Tm 5 (iv l6_3)] [] .n ?_
   obtain ⟨x10_1, a10_2, e10_3, h⟩ := ix_inv h
   obtain ⟨x10_4, a10_5, e10_6, h⟩ := ix_inv h
   refine kRs 30 [Tm 24 (bv (!((x10_1.Key.toList == x10_4.Key.toList) && ((x10_1.Val.toList == x10_4.Val.toList) && ((x10_1.Gone == x10_4.Gone) && true)))))] [.c (TWrite.en x10_1), .c (TWrite.en x10_4)] (.c (c_ix (e := TWrite.en) a10_2 e10_3) (.c (c_el (e := TWrite.en) e10_3) (.c (c_ix (e := TWrite.en) a10_5 e10_6) (.c (c_el (e := TWrite.en) e10_6) (.c rT .n))))) ?_
   rcases br_inv h with ⟨b11_0, h⟩ | ⟨b11_0, h⟩
   ·refine kCt b11_0 ?_
    refine kRs 0 [Tm 4 (bv false)] [] .n ?_
    cases some_inj h
    refine kWo ?_
    refine kRt ?_
    exact kOut
   ·refine kCe b11_0 ?_
    refine kSk ?_
    refine kCd (cR (cR (cR (cB (cB (cR (cL (cR (cR bd88))))))))) [.lp (cB (cR (cL (cR (cR bd88)))))] ?_
    refine kRc 14 [Tm 13 (iv (w64 (l6_3 + 1)))] [] .n (cB (cR (cL (cR (cR bd88))))) [] ?_
    exact kWk (ih (w64 (l6_3 + 1)) _ h)
  ·refine kCe b8_0 ?_
   cases some_inj h
   refine kWo ?_
   refine kXt 0 ?_
   exact kOut
def slices_Equal_api_Write (fu : Nat) (s1 : List TWrite) (s2 : List TWrite) : Option Bool :=
 br ((s1.length : Int) != (s2.length : Int))
  (some false)
  (bd (slices_Equal_api_Write.lp6 fu s1 s2 (s1.length : Int) fu 0) fun o_ => (match o_ with
  | .inl _ =>
   some true
  | .inr _ =>
   some false))
theorem slices_Equal_api_Write.meets (fu : Nat) (s1 : List TWrite) (s2 : List TWrite) (z0 : Bool) (h : slices_Equal_api_Write fu s1 s2 = some z0) : Meets Try.prog ⟨88, [sS 3 TWrite.en s1, sS 3 TWrite.en s2], []⟩ ⟨bv z0, []⟩ := by
 refine kMt hmix slices_Equal_api_Write.O Try.f88 bd88 3 ?_
 unfold slices_Equal_api_Write at h
 refine kRs 3 [] [] .n ?_
 refine kSq ?_
 refine kRs 3 [Tm 10 (bv ((s1.length : Int) != (s2.length : Int)))] [.s (.t 7) [iv (s1.length : Int)], .s (.t 9) [iv (s2.length : Int)]] (.c (c_len (e := TWrite.en) (l := s1)) (.c (c_len (e := TWrite.en) (l := s2)) .n)) ?_
 rcases br_inv h with ⟨b3_0, h⟩ | ⟨b3_0, h⟩
 ·refine kCt b3_0 ?_
  refine kRs 0 [Tm 4 (bv false)] [] .n ?_
  refine kRt ?_
  have h_ := some_inj h
  subst h_
  exact kFr
 ·refine kCe b3_0 ?_
  refine kSk ?_
  refine kCd (cR (cR bd88)) [] ?_
  refine kSq ?_
  refine kRs 6 [Tm 12 (iv (s1.length : Int)), Tm 13 (iv 0)] [.s (.t 12) [iv (s1.length : Int)]] (.c (c_len (e := TWrite.en) (l := s1)) .n) ?_
  refine kBk 0 ?_
  obtain ⟨o14, ho14, h⟩ := bd_inv h
  refine kUs (slices_Equal_api_Write.lp6_ok fu s1 s2 (s1.length : Int) _ 0 _ ho14) ?_
  intro e_ τ_ hp_
  rcases o14 with o14 | o14
  ·obtain ⟨⟩ := o14
   obtain ⟨rfl, rfl⟩ := hp_
   refine kCd (cR (cR (cR bd88))) [] ?_
   refine kRs 0 [Tm 4 (bv true)] [] .n ?_
   refine kRt ?_
   have h_ := some_inj h
   subst h_
   exact kFr
  ·obtain ⟨⟩ := o14
   obtain ⟨rfl, rfl⟩ := hp_
   have h_ := some_inj h
   subst h_
   exact kFr
def bd46 : Code := (Try.f46.body).getD .skip
def txn_Same.O : Nat → Nat := fun t => bif ([2, 3, 4] : List Nat).any (Nat.beq t) then 1 else 0
def txn_Same (fu : Nat) (a : TTxn) (b : TTxn) : Option Bool :=
 br (a.Session == b.Session)
  (br (a.Seq == b.Seq)
   (bd (slices_Equal_api_Read fu a.Reads b.Reads) fun r2_3 =>
   br r2_3
    (bd (slices_Equal_api_Write fu a.Writes b.Writes) fun r2_6 =>
    some r2_6)
    (some false))
   (some false))
  (some false)
theorem txn_Same.meets (fu : Nat) (a : TTxn) (b : TTxn) (z0 : Bool) (h : txn_Same fu a b = some z0) : Meets Try.prog ⟨46, [.data (TTxn.ag a), .data (TTxn.ag b)], []⟩ ⟨bv z0, []⟩ := by
 refine kMt hmix txn_Same.O Try.f46 bd46 3 ?_
 unfold txn_Same at h
 refine kRs 0 [Tm 2 (.ptr 2 0), Tm 3 (.ptr 3 0), Ob 2 (TTxn.ob a), Ob 3 (TTxn.ob b)] [] .n ?_
 rcases br_inv h with ⟨b2_1, h⟩ | ⟨b2_1, h⟩
 ·rcases br_inv h with ⟨b2_2, h⟩ | ⟨b2_2, h⟩
  ·obtain ⟨r2_3, h2_4, h⟩ := bd_inv h
   rcases br_inv h with ⟨b2_5, h⟩ | ⟨b2_5, h⟩
   ·obtain ⟨r2_6, h2_7, h⟩ := bd_inv h
    refine kRs 0 [Tm 4 (bv r2_6)] (rp 11 (.b true) (.a ⟨bv r2_3, []⟩ :: (rp 6 (.b true) [.a ⟨bv r2_6, []⟩, .b true]))) (.r 6 b2_1 (.r 5 b2_2 (.c (Asks.of (C := Meets Try.prog) (slices_Equal_api_Read.meets fu a.Reads b.Reads _ h2_4)) (.c b2_2 (.r 5 b2_5 (.c (Asks.of (C := Meets Try.prog) (slices_Equal_api_Write.meets fu a.Writes b.Writes _ h2_7)) (.c b2_5 .n))))))) ?_
    refine kRt ?_
    have h_ := some_inj h
    subst h_
    exact kFr
   ·refine kRs 0 [Tm 4 (bv false)] (rp 11 (.b true) (.a ⟨bv r2_3, []⟩ :: (.b true :: (rp 6 (.b false) [])))) (.r 6 b2_1 (.r 5 b2_2 (.c (Asks.of (C := Meets Try.prog) (slices_Equal_api_Read.meets fu a.Reads b.Reads _ h2_4)) (.c b2_2 (.r 6 b2_5 .n))))) ?_
    refine kRt ?_
    have h_ := some_inj h
    subst h_
    exact kFr
  ·refine kRs 0 [Tm 4 (bv false)] (rp 6 (.b true) (rp 12 (.b false) [])) (.r 6 b2_1 (.r 6 b2_2 (.r 6 rF .n))) ?_
   refine kRt ?_
   have h_ := some_inj h
   subst h_
   exact kFr
 ·refine kRs 0 [Tm 4 (bv false)] (rp 18 (.b false) []) (.r 6 b2_1 (.r 12 rF .n)) ?_
  refine kRt ?_
  have h_ := some_inj h
  subst h_
  exact kFr
def bd45 : Code := (Try.f45.body).getD .skip
def msg_same.O : Nat → Nat := fun t => bif ([2, 3, 4] : List Nat).any (Nat.beq t) then 1 else 0
def msg_same (fu : Nat) (a : TEntry) (b : TEntry) : Option Bool :=
 br (a.Term == b.Term)
  (br (a.Seal == b.Seal)
   (bd (txn_Same fu a.T b.T) fun r2_3 =>
   some r2_3)
   (some false))
  (some false)
theorem msg_same.meets (fu : Nat) (a : TEntry) (b : TEntry) (z0 : Bool) (h : msg_same fu a b = some z0) : Meets Try.prog ⟨45, [.data (TEntry.ag a), .data (TEntry.ag b)], []⟩ ⟨bv z0, []⟩ := by
 refine kMt hmix msg_same.O Try.f45 bd45 3 ?_
 unfold msg_same at h
 refine kRs 0 [Tm 2 (.ptr 2 0), Tm 3 (.ptr 3 0), Ob 2 (TEntry.ob a), Ob 3 (TEntry.ob b)] [] .n ?_
 rcases br_inv h with ⟨b2_1, h⟩ | ⟨b2_1, h⟩
 ·rcases br_inv h with ⟨b2_2, h⟩ | ⟨b2_2, h⟩
  ·obtain ⟨r2_3, h2_4, h⟩ := bd_inv h
   refine kRs 0 [Tm 4 (bv r2_3)] (rp 11 (.b true) [.a ⟨bv r2_3, []⟩, .b true]) (.r 6 b2_1 (.r 5 b2_2 (.c (Asks.of (C := Meets Try.prog) (txn_Same.meets fu a.T b.T _ h2_4)) (.c b2_2 .n)))) ?_
   refine kRt ?_
   have h_ := some_inj h
   subst h_
   exact kFr
  ·refine kRs 0 [Tm 4 (bv false)] (rp 6 (.b true) (rp 6 (.b false) [])) (.r 6 b2_1 (.r 6 b2_2 .n)) ?_
   refine kRt ?_
   have h_ := some_inj h
   subst h_
   exact kFr
 ·refine kRs 0 [Tm 4 (bv false)] (rp 12 (.b false) []) (.r 6 b2_1 (.r 6 rF .n)) ?_
  refine kRt ?_
  have h_ := some_inj h
  subst h_
  exact kFr
def bd44 : Code := (Try.f44.body).getD .skip
def slices_EqualFunc_api_Entry.O : Nat → Nat := fun t => bif ([6, 7, 8, 9] : List Nat).any (Nat.beq t) then 1 else 0
def slices_EqualFunc_api_Entry.lp6 (fu : Nat) (l6_0 : List TEntry) (l6_1 : List TEntry) (l6_2 : Int) : Nat → Int → Option (Unit ⊕ Unit)
  | 0, _ => none
  | n_ + 1, l6_3 =>
  br (decide (l6_3 < l6_2))
   (ix l6_1 l6_3 fun x9_1 =>
   ix l6_0 l6_3 fun x10_1 =>
   bd (msg_same fu x9_1 x10_1) fun r11_1 =>
   br (!r11_1)
    (some (.inr ()))
    (slices_EqualFunc_api_Entry.lp6 fu l6_0 l6_1 l6_2 n_ (w64 (l6_3 + 1))))
   (some (.inl ()))
def slices_EqualFunc_api_Entry.lp6_post (l6_0 : List TEntry) (l6_1 : List TEntry) (l6_2 : Int) (r_ : (Unit ⊕ Unit)) : Wy → St → Prop := fun e τ => match r_ with
  | .inl _ => e = .exit 0 ∧ τ = ofL []
  | .inr _ => e = .ret ∧ τ = ofL [Tm 6 (bv false)]
theorem slices_EqualFunc_api_Entry.lp6_ok (fu : Nat) (l6_0 : List TEntry) (l6_1 : List TEntry) (l6_2 : Int) : ∀ (n_ : Nat) (l6_3 : Int) (r_ : (Unit ⊕ Unit)), slices_EqualFunc_api_Entry.lp6 fu l6_0 l6_1 l6_2 n_ l6_3 = some r_ → WK Try.prog slices_EqualFunc_api_Entry.O (Ck Try.prog) (cB (cR (cL (cR (cR bd44))))) [] (ofL [Tm 1 (sS 6 TEntry.en l6_0), Tm 2 (.fn (.func 45) [] []), Tm 15 (sS 6 TEntry.en l6_1), Tm 16 (iv l6_2), Tm 17 (iv l6_3)]) (slices_EqualFunc_api_Entry.lp6_post l6_0 l6_1 l6_2 r_) := by
 intro n_
 induction n_ with
 | zero => intro l6_3 r_ h; exact no_none h
 | succ n_ ih =>
  intro l6_3 r_ h
  refine kLp ?_
  refine kRs 31 [Tm 18 (bv (decide (l6_3 < l6_2)))] [] .n ?_
  refine kSq ?_
  rcases br_inv h with ⟨b8_0, h⟩ | ⟨b8_0, h⟩
  ·refine kCt b8_0 ?_
   refine kSk ?_
   refine kCd (cR (cR (cB (cB (cR (cL (cR (cR bd44)))))))) [.lp (cB (cR (cL (cR (cR bd44)))))] ?_
   refine kSq ?_
   refine kBk 1 ?_
   obtain ⟨x9_1, a9_2, e9_3, h⟩ := ix_inv h
   refine kRs 62 [Tm 7 (iv l6_3), Tm 8 (.ptr 8 0), Ob 8 (TEntry.ob x9_1)] [.c (TEntry.en x9_1)] (.c (c_ix (e := TEntry.en) a9_2 e9_3) (.c (c_el (e := TEntry.en) e9_3) .n)) ?_
   obtain ⟨x10_1, a10_2, e10_3, h⟩ := ix_inv h
   refine kRs 254 [Tm 9 (.ptr 9 0), Ob 9 (TEntry.ob x10_1)] [.c (TEntry.en x10_1)] (.c (c_ix (e := TEntry.en) a10_2 e10_3) (.c (c_el (e := TEntry.en) e10_3) .n)) ?_
   obtain ⟨r11_1, h11_2, h⟩ := bd_inv h
   refine kRs 496 [Tm 30 (bv (!r11_1))] [.a ⟨bv r11_1, []⟩] (.c (Asks.of (C := Meets Try.prog) (msg_same.meets fu x9_1 x10_1 _ h11_2)) .n) ?_
   rcases br_inv h with ⟨b12_0, h⟩ | ⟨b12_0, h⟩
   ·refine kCt b12_0 ?_
    refine kRs 0 [Tm 6 (bv false)] [] .n ?_
    cases some_inj h
    refine kWo ?_
    refine kRt ?_
    exact kOut
   ·refine kCe b12_0 ?_
    refine kSk ?_
    refine kCd (cR (cR (cR (cB (cB (cR (cL (cR (cR bd44))))))))) [.lp (cB (cR (cL (cR (cR bd44)))))] ?_
    refine kRc 30 [Tm 17 (iv (w64 (l6_3 + 1)))] [] .n (cB (cR (cL (cR (cR bd44))))) [] ?_
    exact kWk (ih (w64 (l6_3 + 1)) _ h)
  ·refine kCe b8_0 ?_
   cases some_inj h
   refine kWo ?_
   refine kXt 0 ?_
   exact kOut
def slices_EqualFunc_api_Entry (fu : Nat) (s1 : List TEntry) (s2 : List TEntry) : Option Bool :=
 br ((s1.length : Int) != (s2.length : Int))
  (some false)
  (bd (slices_EqualFunc_api_Entry.lp6 fu s2 s1 (s1.length : Int) fu 0) fun o_ => (match o_ with
  | .inl _ =>
   some true
  | .inr _ =>
   some false))
theorem slices_EqualFunc_api_Entry.meets (fu : Nat) (s1 : List TEntry) (s2 : List TEntry) (z0 : Bool) (h : slices_EqualFunc_api_Entry fu s1 s2 = some z0) : Meets Try.prog ⟨44, [sS 6 TEntry.en s1, sS 6 TEntry.en s2, .fn (.func 45) [] []], []⟩ ⟨bv z0, []⟩ := by
 refine kMt hmix slices_EqualFunc_api_Entry.O Try.f44 bd44 7 ?_
 unfold slices_EqualFunc_api_Entry at h
 refine kRs 7 [] [] .n ?_
 refine kSq ?_
 refine kRs 7 [Tm 14 (bv ((s1.length : Int) != (s2.length : Int)))] [.s (.t 11) [iv (s1.length : Int)], .s (.t 13) [iv (s2.length : Int)]] (.c (c_len (e := TEntry.en) (l := s1)) (.c (c_len (e := TEntry.en) (l := s2)) .n)) ?_
 rcases br_inv h with ⟨b3_0, h⟩ | ⟨b3_0, h⟩
 ·refine kCt b3_0 ?_
  refine kRs 0 [Tm 6 (bv false)] [] .n ?_
  refine kRt ?_
  have h_ := some_inj h
  subst h_
  exact kFr
 ·refine kCe b3_0 ?_
  refine kSk ?_
  refine kCd (cR (cR bd44)) [] ?_
  refine kSq ?_
  refine kRs 12 [Tm 15 (sS 6 TEntry.en s1), Tm 16 (iv (s1.length : Int)), Tm 17 (iv 0)] [.s (.t 16) [iv (s1.length : Int)]] (.c (c_len (e := TEntry.en) (l := s1)) .n) ?_
  refine kBk 0 ?_
  obtain ⟨o15, ho15, h⟩ := bd_inv h
  refine kUs (slices_EqualFunc_api_Entry.lp6_ok fu s2 s1 (s1.length : Int) _ 0 _ ho15) ?_
  intro e_ τ_ hp_
  rcases o15 with o15 | o15
  ·obtain ⟨⟩ := o15
   obtain ⟨rfl, rfl⟩ := hp_
   refine kCd (cR (cR (cR bd44))) [] ?_
   refine kRs 0 [Tm 6 (bv true)] [] .n ?_
   refine kRt ?_
   have h_ := some_inj h
   subst h_
   exact kFr
  ·obtain ⟨⟩ := o15
   obtain ⟨rfl, rfl⟩ := hp_
   have h_ := some_inj h
   subst h_
   exact kFr
def bd47 : Code := (Try.f47.body).getD .skip
def slices_Equal_string_string.O : Nat → Nat := fun t => bif ([4, 5] : List Nat).any (Nat.beq t) then 1 else 0
def slices_Equal_string_string.lp6 (fu : Nat) (l6_0 : List ByteArray) (l6_1 : List ByteArray) (l6_2 : Int) : Nat → Int → Option (Unit ⊕ Unit)
  | 0, _ => none
  | n_ + 1, l6_3 =>
  br (decide (l6_3 < l6_2))
   (ix l6_0 l6_3 fun x10_1 =>
   ix l6_1 l6_3 fun x10_4 =>
   br (!(x10_1.toList == x10_4.toList))
    (some (.inr ()))
    (slices_Equal_string_string.lp6 fu l6_0 l6_1 l6_2 n_ (w64 (l6_3 + 1))))
   (some (.inl ()))
def slices_Equal_string_string.lp6_post (l6_0 : List ByteArray) (l6_1 : List ByteArray) (l6_2 : Int) (r_ : (Unit ⊕ Unit)) : Wy → St → Prop := fun e τ => match r_ with
  | .inl _ => e = .exit 0 ∧ τ = ofL []
  | .inr _ => e = .ret ∧ τ = ofL [Tm 4 (bv false)]
theorem slices_Equal_string_string.lp6_ok (fu : Nat) (l6_0 : List ByteArray) (l6_1 : List ByteArray) (l6_2 : Int) : ∀ (n_ : Nat) (l6_3 : Int) (r_ : (Unit ⊕ Unit)), slices_Equal_string_string.lp6 fu l6_0 l6_1 l6_2 n_ l6_3 = some r_ → WK Try.prog slices_Equal_string_string.O (Ck Try.prog) (cB (cR (cL (cR (cR bd47))))) [] (ofL [Tm 0 (sS 1 e_s l6_0), Tm 1 (sS 1 e_s l6_1), Tm 12 (iv l6_2), Tm 13 (iv l6_3)]) (slices_Equal_string_string.lp6_post l6_0 l6_1 l6_2 r_) := by
 intro n_
 induction n_ with
 | zero => intro l6_3 r_ h; exact no_none h
 | succ n_ ih =>
  intro l6_3 r_ h
  refine kLp ?_
  refine kRs 15 [Tm 14 (bv (decide (l6_3 < l6_2)))] [] .n ?_
  refine kSq ?_
  rcases br_inv h with ⟨b8_0, h⟩ | ⟨b8_0, h⟩
  ·refine kCt b8_0 ?_
   refine kSk ?_
   refine kCd (cR (cR (cB (cB (cR (cL (cR (cR bd47)))))))) [.lp (cB (cR (cL (cR (cR bd47)))))] ?_
   refine kSq ?_
   refine kBk 1 ?_
   refine kRs 30 [Tm 5 (iv l6_3)] [] .n ?_
   obtain ⟨x10_1, a10_2, e10_3, h⟩ := ix_inv h
   obtain ⟨x10_4, a10_5, e10_6, h⟩ := ix_inv h
   refine kRs 30 [Tm 24 (bv (!(x10_1.toList == x10_4.toList)))] [.c (e_s x10_1), .c (e_s x10_4)] (.c (c_ix (e := e_s) a10_2 e10_3) (.c (c_el (e := e_s) e10_3) (.c (c_ix (e := e_s) a10_5 e10_6) (.c (c_el (e := e_s) e10_6) (.c rT .n))))) ?_
   rcases br_inv h with ⟨b11_0, h⟩ | ⟨b11_0, h⟩
   ·refine kCt b11_0 ?_
    refine kRs 0 [Tm 4 (bv false)] [] .n ?_
    cases some_inj h
    refine kWo ?_
    refine kRt ?_
    exact kOut
   ·refine kCe b11_0 ?_
    refine kSk ?_
    refine kCd (cR (cR (cR (cB (cB (cR (cL (cR (cR bd47))))))))) [.lp (cB (cR (cL (cR (cR bd47)))))] ?_
    refine kRc 14 [Tm 13 (iv (w64 (l6_3 + 1)))] [] .n (cB (cR (cL (cR (cR bd47))))) [] ?_
    exact kWk (ih (w64 (l6_3 + 1)) _ h)
  ·refine kCe b8_0 ?_
   cases some_inj h
   refine kWo ?_
   refine kXt 0 ?_
   exact kOut
def slices_Equal_string_string (fu : Nat) (s1 : List ByteArray) (s2 : List ByteArray) : Option Bool :=
 br ((s1.length : Int) != (s2.length : Int))
  (some false)
  (bd (slices_Equal_string_string.lp6 fu s1 s2 (s1.length : Int) fu 0) fun o_ => (match o_ with
  | .inl _ =>
   some true
  | .inr _ =>
   some false))
theorem slices_Equal_string_string.meets (fu : Nat) (s1 : List ByteArray) (s2 : List ByteArray) (z0 : Bool) (h : slices_Equal_string_string fu s1 s2 = some z0) : Meets Try.prog ⟨47, [sS 1 e_s s1, sS 1 e_s s2], []⟩ ⟨bv z0, []⟩ := by
 refine kMt hmix slices_Equal_string_string.O Try.f47 bd47 3 ?_
 unfold slices_Equal_string_string at h
 refine kRs 3 [] [] .n ?_
 refine kSq ?_
 refine kRs 3 [Tm 10 (bv ((s1.length : Int) != (s2.length : Int)))] [.s (.t 7) [iv (s1.length : Int)], .s (.t 9) [iv (s2.length : Int)]] (.c (c_len (e := e_s) (l := s1)) (.c (c_len (e := e_s) (l := s2)) .n)) ?_
 rcases br_inv h with ⟨b3_0, h⟩ | ⟨b3_0, h⟩
 ·refine kCt b3_0 ?_
  refine kRs 0 [Tm 4 (bv false)] [] .n ?_
  refine kRt ?_
  have h_ := some_inj h
  subst h_
  exact kFr
 ·refine kCe b3_0 ?_
  refine kSk ?_
  refine kCd (cR (cR bd47)) [] ?_
  refine kSq ?_
  refine kRs 6 [Tm 12 (iv (s1.length : Int)), Tm 13 (iv 0)] [.s (.t 12) [iv (s1.length : Int)]] (.c (c_len (e := e_s) (l := s1)) .n) ?_
  refine kBk 0 ?_
  obtain ⟨o14, ho14, h⟩ := bd_inv h
  refine kUs (slices_Equal_string_string.lp6_ok fu s1 s2 (s1.length : Int) _ 0 _ ho14) ?_
  intro e_ τ_ hp_
  rcases o14 with o14 | o14
  ·obtain ⟨⟩ := o14
   obtain ⟨rfl, rfl⟩ := hp_
   refine kCd (cR (cR (cR bd47))) [] ?_
   refine kRs 0 [Tm 4 (bv true)] [] .n ?_
   refine kRt ?_
   have h_ := some_inj h
   subst h_
   exact kFr
  ·obtain ⟨⟩ := o14
   obtain ⟨rfl, rfl⟩ := hp_
   have h_ := some_inj h
   subst h_
   exact kFr
def bd13 : Code := (Try.f13.body).getD .skip
def msg_Same.O : Nat → Nat := fun t => bif ([2, 3, 4] : List Nat).any (Nat.beq t) then 1 else 0
def msg_Same (fu : Nat) (a : TMsg) (b : TMsg) : Option Bool :=
 br (a.Kind == b.Kind)
  (br (a.From == b.From)
   (br (a.To == b.To)
    (br (a.Part == b.Part)
     (bd (msg_numbers a) fun r2_5 =>
     bd (msg_numbers b) fun r2_7 =>
     bd (slices_Equal_int_int fu r2_5 r2_7) fun r2_9 =>
     br r2_9
      (br (a.OK == b.OK)
       (bd (slices_EqualFunc_api_Entry fu a.Entries b.Entries) fun r2_13 =>
       br r2_13
        (bd (txn_Same fu a.T b.T) fun r2_16 =>
        br r2_16
         (br (a.Span == b.Span)
          (br (a.FromKey.toList == b.FromKey.toList)
           (br (a.ToKey.toList == b.ToKey.toList)
            (bd (slices_Equal_string_string fu a.Keys b.Keys) fun r2_22 =>
            br r2_22
             (bd (slices_Equal_api_Read fu a.Got b.Got) fun r2_25 =>
             br r2_25
              (some (a.Err == b.Err))
              (some false))
             (some false))
            (some false))
           (some false))
          (some false))
         (some false))
        (some false))
       (some false))
      (some false))
     (some false))
    (some false))
   (some false))
  (some false)
theorem msg_Same.meets (fu : Nat) (a : TMsg) (b : TMsg) (z0 : Bool) (h : msg_Same fu a b = some z0) : Meets Try.prog ⟨13, [.data (TMsg.ag a), .data (TMsg.ag b)], []⟩ ⟨bv z0, []⟩ := by
 refine kMt hmix msg_Same.O Try.f13 bd13 3 ?_
 unfold msg_Same at h
 refine kRs 0 [Tm 2 (.ptr 2 0), Tm 3 (.ptr 3 0), Ob 2 (TMsg.ob a), Ob 3 (TMsg.ob b)] [] .n ?_
 rcases br_inv h with ⟨b2_1, h⟩ | ⟨b2_1, h⟩
 ·rcases br_inv h with ⟨b2_2, h⟩ | ⟨b2_2, h⟩
  ·rcases br_inv h with ⟨b2_3, h⟩ | ⟨b2_3, h⟩
   ·rcases br_inv h with ⟨b2_4, h⟩ | ⟨b2_4, h⟩
    ·obtain ⟨r2_5, h2_6, h⟩ := bd_inv h
     obtain ⟨r2_7, h2_8, h⟩ := bd_inv h
     obtain ⟨r2_9, h2_10, h⟩ := bd_inv h
     rcases br_inv h with ⟨b2_11, h⟩ | ⟨b2_11, h⟩
     ·rcases br_inv h with ⟨b2_12, h⟩ | ⟨b2_12, h⟩
      ·obtain ⟨r2_13, h2_14, h⟩ := bd_inv h
       rcases br_inv h with ⟨b2_15, h⟩ | ⟨b2_15, h⟩
       ·obtain ⟨r2_16, h2_17, h⟩ := bd_inv h
        rcases br_inv h with ⟨b2_18, h⟩ | ⟨b2_18, h⟩
        ·rcases br_inv h with ⟨b2_19, h⟩ | ⟨b2_19, h⟩
         ·rcases br_inv h with ⟨b2_20, h⟩ | ⟨b2_20, h⟩
          ·rcases br_inv h with ⟨b2_21, h⟩ | ⟨b2_21, h⟩
           ·obtain ⟨r2_22, h2_23, h⟩ := bd_inv h
            rcases br_inv h with ⟨b2_24, h⟩ | ⟨b2_24, h⟩
            ·obtain ⟨r2_25, h2_26, h⟩ := bd_inv h
             rcases br_inv h with ⟨b2_27, h⟩ | ⟨b2_27, h⟩
             ·refine kRs 0 [Tm 4 (bv (a.Err == b.Err))] (rp 20 (.b true) (.a ⟨.data (.slc true (some false) 1 (List.map e_i64 r2_5)), []⟩ :: (.b true :: (.b true :: (.a ⟨.data (.slc true (some false) 1 (List.map e_i64 r2_7)), []⟩ :: (.b true :: (.a ⟨bv r2_9, []⟩ :: (rp 12 (.b true) (.a ⟨bv r2_13, []⟩ :: (rp 6 (.b true) (.a ⟨bv r2_16, []⟩ :: (rp 24 (.b true) (.a ⟨bv r2_22, []⟩ :: (rp 6 (.b true) (.a ⟨bv r2_25, []⟩ :: (rp 7 (.b true) [])))))))))))))))) (.r 6 b2_1 (.r 6 b2_2 (.r 6 b2_3 (.r 2 b2_4 (.c (Asks.of (C := Meets Try.prog) (msg_numbers.meets a _ h2_6)) (.r 2 b2_4 (.c (Asks.of (C := Meets Try.prog) (msg_numbers.meets b _ h2_8)) (.c b2_4 (.c (Asks.fg (args1 := [.data (.slc false (some false) 1 (List.map e_i64 r2_5))]) (args2 := []) (nl := some false) (sz := 1) (es := List.map e_i64 r2_7) (Asks.fg (args1 := []) (args2 := [sS 1 e_i64 r2_7]) (nl := some false) (sz := 1) (es := List.map e_i64 r2_5) (Asks.of (C := Meets Try.prog) (slices_Equal_int_int.meets fu r2_5 r2_7 _ h2_10)))) (.c b2_4 (.r 6 b2_11 (.r 5 b2_12 (.c (Asks.of (C := Meets Try.prog) (slices_EqualFunc_api_Entry.meets fu a.Entries b.Entries _ h2_14)) (.c b2_12 (.r 5 b2_15 (.c (Asks.of (C := Meets Try.prog) (txn_Same.meets fu a.T b.T _ h2_17)) (.c b2_15 (.r 6 b2_18 (.r 6 b2_19 (.r 6 b2_20 (.r 5 b2_21 (.c (Asks.of (C := Meets Try.prog) (slices_Equal_string_string.meets fu a.Keys b.Keys _ h2_23)) (.c b2_21 (.r 5 b2_24 (.c (Asks.of (C := Meets Try.prog) (slices_Equal_api_Read.meets fu a.Got b.Got _ h2_26)) (.c b2_24 (.r 6 b2_27 (.c rT .n)))))))))))))))))))))))))))) ?_
              refine kRt ?_
              have h_ := some_inj h
              subst h_
              exact kFr
             ·refine kRs 0 [Tm 4 (bv false)] (rp 20 (.b true) (.a ⟨.data (.slc true (some false) 1 (List.map e_i64 r2_5)), []⟩ :: (.b true :: (.b true :: (.a ⟨.data (.slc true (some false) 1 (List.map e_i64 r2_7)), []⟩ :: (.b true :: (.a ⟨bv r2_9, []⟩ :: (rp 12 (.b true) (.a ⟨bv r2_13, []⟩ :: (rp 6 (.b true) (.a ⟨bv r2_16, []⟩ :: (rp 24 (.b true) (.a ⟨bv r2_22, []⟩ :: (rp 6 (.b true) (.a ⟨bv r2_25, []⟩ :: (.b true :: (rp 6 (.b false) []))))))))))))))))) (.r 6 b2_1 (.r 6 b2_2 (.r 6 b2_3 (.r 2 b2_4 (.c (Asks.of (C := Meets Try.prog) (msg_numbers.meets a _ h2_6)) (.r 2 b2_4 (.c (Asks.of (C := Meets Try.prog) (msg_numbers.meets b _ h2_8)) (.c b2_4 (.c (Asks.fg (args1 := [.data (.slc false (some false) 1 (List.map e_i64 r2_5))]) (args2 := []) (nl := some false) (sz := 1) (es := List.map e_i64 r2_7) (Asks.fg (args1 := []) (args2 := [sS 1 e_i64 r2_7]) (nl := some false) (sz := 1) (es := List.map e_i64 r2_5) (Asks.of (C := Meets Try.prog) (slices_Equal_int_int.meets fu r2_5 r2_7 _ h2_10)))) (.c b2_4 (.r 6 b2_11 (.r 5 b2_12 (.c (Asks.of (C := Meets Try.prog) (slices_EqualFunc_api_Entry.meets fu a.Entries b.Entries _ h2_14)) (.c b2_12 (.r 5 b2_15 (.c (Asks.of (C := Meets Try.prog) (txn_Same.meets fu a.T b.T _ h2_17)) (.c b2_15 (.r 6 b2_18 (.r 6 b2_19 (.r 6 b2_20 (.r 5 b2_21 (.c (Asks.of (C := Meets Try.prog) (slices_Equal_string_string.meets fu a.Keys b.Keys _ h2_23)) (.c b2_21 (.r 5 b2_24 (.c (Asks.of (C := Meets Try.prog) (slices_Equal_api_Read.meets fu a.Got b.Got _ h2_26)) (.c b2_24 (.r 6 b2_27 (.c rT .n)))))))))))))))))))))))))))) ?_
              refine kRt ?_
              have h_ := some_inj h
              subst h_
              exact kFr
            ·refine kRs 0 [Tm 4 (bv false)] (rp 20 (.b true) (.a ⟨.data (.slc true (some false) 1 (List.map e_i64 r2_5)), []⟩ :: (.b true :: (.b true :: (.a ⟨.data (.slc true (some false) 1 (List.map e_i64 r2_7)), []⟩ :: (.b true :: (.a ⟨bv r2_9, []⟩ :: (rp 12 (.b true) (.a ⟨bv r2_13, []⟩ :: (rp 6 (.b true) (.a ⟨bv r2_16, []⟩ :: (rp 24 (.b true) (.a ⟨bv r2_22, []⟩ :: (.b true :: (rp 12 (.b false) []))))))))))))))) (.r 6 b2_1 (.r 6 b2_2 (.r 6 b2_3 (.r 2 b2_4 (.c (Asks.of (C := Meets Try.prog) (msg_numbers.meets a _ h2_6)) (.r 2 b2_4 (.c (Asks.of (C := Meets Try.prog) (msg_numbers.meets b _ h2_8)) (.c b2_4 (.c (Asks.fg (args1 := [.data (.slc false (some false) 1 (List.map e_i64 r2_5))]) (args2 := []) (nl := some false) (sz := 1) (es := List.map e_i64 r2_7) (Asks.fg (args1 := []) (args2 := [sS 1 e_i64 r2_7]) (nl := some false) (sz := 1) (es := List.map e_i64 r2_5) (Asks.of (C := Meets Try.prog) (slices_Equal_int_int.meets fu r2_5 r2_7 _ h2_10)))) (.c b2_4 (.r 6 b2_11 (.r 5 b2_12 (.c (Asks.of (C := Meets Try.prog) (slices_EqualFunc_api_Entry.meets fu a.Entries b.Entries _ h2_14)) (.c b2_12 (.r 5 b2_15 (.c (Asks.of (C := Meets Try.prog) (txn_Same.meets fu a.T b.T _ h2_17)) (.c b2_15 (.r 6 b2_18 (.r 6 b2_19 (.r 6 b2_20 (.r 5 b2_21 (.c (Asks.of (C := Meets Try.prog) (slices_Equal_string_string.meets fu a.Keys b.Keys _ h2_23)) (.c b2_21 (.r 6 b2_24 (.r 6 rF (.c rT .n)))))))))))))))))))))))))) ?_
             refine kRt ?_
             have h_ := some_inj h
             subst h_
             exact kFr
           ·refine kRs 0 [Tm 4 (bv false)] (rp 20 (.b true) (.a ⟨.data (.slc true (some false) 1 (List.map e_i64 r2_5)), []⟩ :: (.b true :: (.b true :: (.a ⟨.data (.slc true (some false) 1 (List.map e_i64 r2_7)), []⟩ :: (.b true :: (.a ⟨bv r2_9, []⟩ :: (rp 12 (.b true) (.a ⟨bv r2_13, []⟩ :: (rp 6 (.b true) (.a ⟨bv r2_16, []⟩ :: (rp 19 (.b true) (rp 18 (.b false) []))))))))))))) (.r 6 b2_1 (.r 6 b2_2 (.r 6 b2_3 (.r 2 b2_4 (.c (Asks.of (C := Meets Try.prog) (msg_numbers.meets a _ h2_6)) (.r 2 b2_4 (.c (Asks.of (C := Meets Try.prog) (msg_numbers.meets b _ h2_8)) (.c b2_4 (.c (Asks.fg (args1 := [.data (.slc false (some false) 1 (List.map e_i64 r2_5))]) (args2 := []) (nl := some false) (sz := 1) (es := List.map e_i64 r2_7) (Asks.fg (args1 := []) (args2 := [sS 1 e_i64 r2_7]) (nl := some false) (sz := 1) (es := List.map e_i64 r2_5) (Asks.of (C := Meets Try.prog) (slices_Equal_int_int.meets fu r2_5 r2_7 _ h2_10)))) (.c b2_4 (.r 6 b2_11 (.r 5 b2_12 (.c (Asks.of (C := Meets Try.prog) (slices_EqualFunc_api_Entry.meets fu a.Entries b.Entries _ h2_14)) (.c b2_12 (.r 5 b2_15 (.c (Asks.of (C := Meets Try.prog) (txn_Same.meets fu a.T b.T _ h2_17)) (.c b2_15 (.r 6 b2_18 (.r 6 b2_19 (.r 6 b2_20 (.r 6 b2_21 (.r 12 rF (.c rT .n))))))))))))))))))))))) ?_
            refine kRt ?_
            have h_ := some_inj h
            subst h_
            exact kFr
          ·refine kRs 0 [Tm 4 (bv false)] (rp 20 (.b true) (.a ⟨.data (.slc true (some false) 1 (List.map e_i64 r2_5)), []⟩ :: (.b true :: (.b true :: (.a ⟨.data (.slc true (some false) 1 (List.map e_i64 r2_7)), []⟩ :: (.b true :: (.a ⟨bv r2_9, []⟩ :: (rp 12 (.b true) (.a ⟨bv r2_13, []⟩ :: (rp 6 (.b true) (.a ⟨bv r2_16, []⟩ :: (rp 13 (.b true) (rp 24 (.b false) []))))))))))))) (.r 6 b2_1 (.r 6 b2_2 (.r 6 b2_3 (.r 2 b2_4 (.c (Asks.of (C := Meets Try.prog) (msg_numbers.meets a _ h2_6)) (.r 2 b2_4 (.c (Asks.of (C := Meets Try.prog) (msg_numbers.meets b _ h2_8)) (.c b2_4 (.c (Asks.fg (args1 := [.data (.slc false (some false) 1 (List.map e_i64 r2_5))]) (args2 := []) (nl := some false) (sz := 1) (es := List.map e_i64 r2_7) (Asks.fg (args1 := []) (args2 := [sS 1 e_i64 r2_7]) (nl := some false) (sz := 1) (es := List.map e_i64 r2_5) (Asks.of (C := Meets Try.prog) (slices_Equal_int_int.meets fu r2_5 r2_7 _ h2_10)))) (.c b2_4 (.r 6 b2_11 (.r 5 b2_12 (.c (Asks.of (C := Meets Try.prog) (slices_EqualFunc_api_Entry.meets fu a.Entries b.Entries _ h2_14)) (.c b2_12 (.r 5 b2_15 (.c (Asks.of (C := Meets Try.prog) (txn_Same.meets fu a.T b.T _ h2_17)) (.c b2_15 (.r 6 b2_18 (.r 6 b2_19 (.r 6 b2_20 (.r 18 rF (.c rT .n)))))))))))))))))))))) ?_
           refine kRt ?_
           have h_ := some_inj h
           subst h_
           exact kFr
         ·refine kRs 0 [Tm 4 (bv false)] (rp 20 (.b true) (.a ⟨.data (.slc true (some false) 1 (List.map e_i64 r2_5)), []⟩ :: (.b true :: (.b true :: (.a ⟨.data (.slc true (some false) 1 (List.map e_i64 r2_7)), []⟩ :: (.b true :: (.a ⟨bv r2_9, []⟩ :: (rp 12 (.b true) (.a ⟨bv r2_13, []⟩ :: (rp 6 (.b true) (.a ⟨bv r2_16, []⟩ :: (rp 7 (.b true) (rp 30 (.b false) []))))))))))))) (.r 6 b2_1 (.r 6 b2_2 (.r 6 b2_3 (.r 2 b2_4 (.c (Asks.of (C := Meets Try.prog) (msg_numbers.meets a _ h2_6)) (.r 2 b2_4 (.c (Asks.of (C := Meets Try.prog) (msg_numbers.meets b _ h2_8)) (.c b2_4 (.c (Asks.fg (args1 := [.data (.slc false (some false) 1 (List.map e_i64 r2_5))]) (args2 := []) (nl := some false) (sz := 1) (es := List.map e_i64 r2_7) (Asks.fg (args1 := []) (args2 := [sS 1 e_i64 r2_7]) (nl := some false) (sz := 1) (es := List.map e_i64 r2_5) (Asks.of (C := Meets Try.prog) (slices_Equal_int_int.meets fu r2_5 r2_7 _ h2_10)))) (.c b2_4 (.r 6 b2_11 (.r 5 b2_12 (.c (Asks.of (C := Meets Try.prog) (slices_EqualFunc_api_Entry.meets fu a.Entries b.Entries _ h2_14)) (.c b2_12 (.r 5 b2_15 (.c (Asks.of (C := Meets Try.prog) (txn_Same.meets fu a.T b.T _ h2_17)) (.c b2_15 (.r 6 b2_18 (.r 6 b2_19 (.r 24 rF (.c rT .n))))))))))))))))))))) ?_
          refine kRt ?_
          have h_ := some_inj h
          subst h_
          exact kFr
        ·refine kRs 0 [Tm 4 (bv false)] (rp 20 (.b true) (.a ⟨.data (.slc true (some false) 1 (List.map e_i64 r2_5)), []⟩ :: (.b true :: (.b true :: (.a ⟨.data (.slc true (some false) 1 (List.map e_i64 r2_7)), []⟩ :: (.b true :: (.a ⟨bv r2_9, []⟩ :: (rp 12 (.b true) (.a ⟨bv r2_13, []⟩ :: (rp 6 (.b true) (.a ⟨bv r2_16, []⟩ :: (.b true :: (rp 36 (.b false) []))))))))))))) (.r 6 b2_1 (.r 6 b2_2 (.r 6 b2_3 (.r 2 b2_4 (.c (Asks.of (C := Meets Try.prog) (msg_numbers.meets a _ h2_6)) (.r 2 b2_4 (.c (Asks.of (C := Meets Try.prog) (msg_numbers.meets b _ h2_8)) (.c b2_4 (.c (Asks.fg (args1 := [.data (.slc false (some false) 1 (List.map e_i64 r2_5))]) (args2 := []) (nl := some false) (sz := 1) (es := List.map e_i64 r2_7) (Asks.fg (args1 := []) (args2 := [sS 1 e_i64 r2_7]) (nl := some false) (sz := 1) (es := List.map e_i64 r2_5) (Asks.of (C := Meets Try.prog) (slices_Equal_int_int.meets fu r2_5 r2_7 _ h2_10)))) (.c b2_4 (.r 6 b2_11 (.r 5 b2_12 (.c (Asks.of (C := Meets Try.prog) (slices_EqualFunc_api_Entry.meets fu a.Entries b.Entries _ h2_14)) (.c b2_12 (.r 5 b2_15 (.c (Asks.of (C := Meets Try.prog) (txn_Same.meets fu a.T b.T _ h2_17)) (.c b2_15 (.r 6 b2_18 (.r 30 rF (.c rT .n)))))))))))))))))))) ?_
         refine kRt ?_
         have h_ := some_inj h
         subst h_
         exact kFr
       ·refine kRs 0 [Tm 4 (bv false)] (rp 20 (.b true) (.a ⟨.data (.slc true (some false) 1 (List.map e_i64 r2_5)), []⟩ :: (.b true :: (.b true :: (.a ⟨.data (.slc true (some false) 1 (List.map e_i64 r2_7)), []⟩ :: (.b true :: (.a ⟨bv r2_9, []⟩ :: (rp 12 (.b true) (.a ⟨bv r2_13, []⟩ :: (.b true :: (rp 42 (.b false) []))))))))))) (.r 6 b2_1 (.r 6 b2_2 (.r 6 b2_3 (.r 2 b2_4 (.c (Asks.of (C := Meets Try.prog) (msg_numbers.meets a _ h2_6)) (.r 2 b2_4 (.c (Asks.of (C := Meets Try.prog) (msg_numbers.meets b _ h2_8)) (.c b2_4 (.c (Asks.fg (args1 := [.data (.slc false (some false) 1 (List.map e_i64 r2_5))]) (args2 := []) (nl := some false) (sz := 1) (es := List.map e_i64 r2_7) (Asks.fg (args1 := []) (args2 := [sS 1 e_i64 r2_7]) (nl := some false) (sz := 1) (es := List.map e_i64 r2_5) (Asks.of (C := Meets Try.prog) (slices_Equal_int_int.meets fu r2_5 r2_7 _ h2_10)))) (.c b2_4 (.r 6 b2_11 (.r 5 b2_12 (.c (Asks.of (C := Meets Try.prog) (slices_EqualFunc_api_Entry.meets fu a.Entries b.Entries _ h2_14)) (.c b2_12 (.r 6 b2_15 (.r 36 rF (.c rT .n))))))))))))))))) ?_
        refine kRt ?_
        have h_ := some_inj h
        subst h_
        exact kFr
      ·refine kRs 0 [Tm 4 (bv false)] (rp 20 (.b true) (.a ⟨.data (.slc true (some false) 1 (List.map e_i64 r2_5)), []⟩ :: (.b true :: (.b true :: (.a ⟨.data (.slc true (some false) 1 (List.map e_i64 r2_7)), []⟩ :: (.b true :: (.a ⟨bv r2_9, []⟩ :: (rp 7 (.b true) (rp 48 (.b false) []))))))))) (.r 6 b2_1 (.r 6 b2_2 (.r 6 b2_3 (.r 2 b2_4 (.c (Asks.of (C := Meets Try.prog) (msg_numbers.meets a _ h2_6)) (.r 2 b2_4 (.c (Asks.of (C := Meets Try.prog) (msg_numbers.meets b _ h2_8)) (.c b2_4 (.c (Asks.fg (args1 := [.data (.slc false (some false) 1 (List.map e_i64 r2_5))]) (args2 := []) (nl := some false) (sz := 1) (es := List.map e_i64 r2_7) (Asks.fg (args1 := []) (args2 := [sS 1 e_i64 r2_7]) (nl := some false) (sz := 1) (es := List.map e_i64 r2_5) (Asks.of (C := Meets Try.prog) (slices_Equal_int_int.meets fu r2_5 r2_7 _ h2_10)))) (.c b2_4 (.r 6 b2_11 (.r 6 b2_12 (.r 42 rF (.c rT .n)))))))))))))) ?_
       refine kRt ?_
       have h_ := some_inj h
       subst h_
       exact kFr
     ·refine kRs 0 [Tm 4 (bv false)] (rp 20 (.b true) (.a ⟨.data (.slc true (some false) 1 (List.map e_i64 r2_5)), []⟩ :: (.b true :: (.b true :: (.a ⟨.data (.slc true (some false) 1 (List.map e_i64 r2_7)), []⟩ :: (.b true :: (.a ⟨bv r2_9, []⟩ :: (.b true :: (rp 54 (.b false) []))))))))) (.r 6 b2_1 (.r 6 b2_2 (.r 6 b2_3 (.r 2 b2_4 (.c (Asks.of (C := Meets Try.prog) (msg_numbers.meets a _ h2_6)) (.r 2 b2_4 (.c (Asks.of (C := Meets Try.prog) (msg_numbers.meets b _ h2_8)) (.c b2_4 (.c (Asks.fg (args1 := [.data (.slc false (some false) 1 (List.map e_i64 r2_5))]) (args2 := []) (nl := some false) (sz := 1) (es := List.map e_i64 r2_7) (Asks.fg (args1 := []) (args2 := [sS 1 e_i64 r2_7]) (nl := some false) (sz := 1) (es := List.map e_i64 r2_5) (Asks.of (C := Meets Try.prog) (slices_Equal_int_int.meets fu r2_5 r2_7 _ h2_10)))) (.c b2_4 (.r 6 b2_11 (.r 48 rF (.c rT .n))))))))))))) ?_
      refine kRt ?_
      have h_ := some_inj h
      subst h_
      exact kFr
    ·refine kRs 0 [Tm 4 (bv false)] (rp 18 (.b true) (rp 60 (.b false) [])) (.r 6 b2_1 (.r 6 b2_2 (.r 6 b2_3 (.r 6 b2_4 (.r 54 rF (.c rT .n)))))) ?_
     refine kRt ?_
     have h_ := some_inj h
     subst h_
     exact kFr
   ·refine kRs 0 [Tm 4 (bv false)] (rp 12 (.b true) (rp 66 (.b false) [])) (.r 6 b2_1 (.r 6 b2_2 (.r 6 b2_3 (.r 60 rF (.c rT .n))))) ?_
    refine kRt ?_
    have h_ := some_inj h
    subst h_
    exact kFr
  ·refine kRs 0 [Tm 4 (bv false)] (rp 6 (.b true) (rp 72 (.b false) [])) (.r 6 b2_1 (.r 6 b2_2 (.r 66 rF (.c rT .n)))) ?_
   refine kRt ?_
   have h_ := some_inj h
   subst h_
   exact kFr
 ·refine kRs 0 [Tm 4 (bv false)] (rp 78 (.b false) []) (.r 6 b2_1 (.r 72 rF (.c rT .n))) ?_
  refine kRt ?_
  have h_ := some_inj h
  subst h_
  exact kFr
def bd30 : Code := (Try.f30.body).getD .skip
def msg_May_1.O : Nat → Nat := fun t => bif ([2] : List Nat).any (Nat.beq t) then 1 else 0
def msg_May_1 (n_v : Int) : Option Bool :=
 br (decide (n_v < 0))
  (some true)
  (some (decide (n_v > 1099511627776)))
theorem msg_May_1.meets (n_v : Int) (z0 : Bool) (h : msg_May_1 n_v = some z0) : Meets Try.prog ⟨30, [iv n_v], []⟩ ⟨bv z0, []⟩ := by
 refine kMt hmix msg_May_1.O Try.f30 bd30 1 ?_
 unfold msg_May_1 at h
 refine kRs 1 [] [] .n ?_
 rcases br_inv h with ⟨b2_1, h⟩ | ⟨b2_1, h⟩
 ·refine kRs 0 [Tm 2 (bv true)] [.b true, .b true, .b true] (.r 3 b2_1 .n) ?_
  refine kRt ?_
  have h_ := some_inj h
  subst h_
  exact kFr
 ·refine kRs 0 [Tm 2 (bv (decide (n_v > 1099511627776)))] [.b false, .b false, .b false] (.r 3 b2_1 .n) ?_
  refine kRt ?_
  have h_ := some_inj h
  subst h_
  exact kFr
def bd74 : Code := (Try.f74.body).getD .skip
def slices_IndexFunc_int_int.O : Nat → Nat := fun t => bif ([4, 5] : List Nat).any (Nat.beq t) then 1 else 0
def slices_IndexFunc_int_int.lp3 (fu : Nat) (l3_0 : List Int) (l3_1 : Int) : Nat → Int → Option (Unit ⊕ Int)
  | 0, _ => none
  | n_ + 1, l3_2 =>
  br (decide (l3_2 < l3_1))
   (ix l3_0 l3_2 fun x7_1 =>
   bd (msg_May_1 x7_1) fun r7_4 =>
   br r7_4
    (some (.inr l3_2))
    (slices_IndexFunc_int_int.lp3 fu l3_0 l3_1 n_ (w64 (l3_2 + 1))))
   (some (.inl ()))
def slices_IndexFunc_int_int.lp3_post (l3_0 : List Int) (l3_1 : Int) (r_ : (Unit ⊕ Int)) : Wy → St → Prop := fun e τ => match r_ with
  | .inl _ => e = .exit 0 ∧ τ = ofL []
  | .inr y0 => e = .ret ∧ τ = ofL [Tm 4 (iv y0)]
theorem slices_IndexFunc_int_int.lp3_ok (fu : Nat) (l3_0 : List Int) (l3_1 : Int) : ∀ (n_ : Nat) (l3_2 : Int) (r_ : (Unit ⊕ Int)), slices_IndexFunc_int_int.lp3 fu l3_0 l3_1 n_ l3_2 = some r_ → WK Try.prog slices_IndexFunc_int_int.O (Ck Try.prog) (cB (cR (cL (cR bd74)))) [] (ofL [Tm 0 (sS 1 e_i64 l3_0), Tm 1 (.fn (.func 30) [] []), Tm 7 (iv l3_1), Tm 8 (iv l3_2)]) (slices_IndexFunc_int_int.lp3_post l3_0 l3_1 r_) := by
 intro n_
 induction n_ with
 | zero => intro l3_2 r_ h; exact no_none h
 | succ n_ ih =>
  intro l3_2 r_ h
  refine kLp ?_
  refine kRs 15 [Tm 9 (bv (decide (l3_2 < l3_1)))] [] .n ?_
  refine kSq ?_
  rcases br_inv h with ⟨b5_0, h⟩ | ⟨b5_0, h⟩
  ·refine kCt b5_0 ?_
   refine kSk ?_
   refine kCd (cR (cR (cB (cB (cR (cL (cR bd74))))))) [.lp (cB (cR (cL (cR bd74))))] ?_
   refine kSq ?_
   refine kBk 1 ?_
   refine kRs 30 [Tm 5 (iv l3_2)] [] .n ?_
   obtain ⟨x7_1, a7_2, e7_3, h⟩ := ix_inv h
   obtain ⟨r7_4, h7_5, h⟩ := bd_inv h
   refine kRs 31 [Tm 16 (bv r7_4)] [.c (e_i64 x7_1), .a ⟨bv r7_4, []⟩] (.c (c_ix (e := e_i64) a7_2 e7_3) (.c (c_el (e := e_i64) e7_3) (.c (Asks.of (C := Meets Try.prog) (msg_May_1.meets x7_1 _ h7_5)) .n))) ?_
   rcases br_inv h with ⟨b8_0, h⟩ | ⟨b8_0, h⟩
   ·refine kCt b8_0 ?_
    refine kRs 0 [Tm 4 (iv l3_2)] [] .n ?_
    cases some_inj h
    refine kWo ?_
    refine kRt ?_
    exact kOut
   ·refine kCe b8_0 ?_
    refine kSk ?_
    refine kCd (cR (cR (cR (cB (cB (cR (cL (cR bd74)))))))) [.lp (cB (cR (cL (cR bd74))))] ?_
    refine kRc 28 [Tm 8 (iv (w64 (l3_2 + 1)))] [] .n (cB (cR (cL (cR bd74)))) [] ?_
    exact kWk (ih (w64 (l3_2 + 1)) _ h)
  ·refine kCe b5_0 ?_
   cases some_inj h
   refine kWo ?_
   refine kXt 0 ?_
   exact kOut
def slices_IndexFunc_int_int (fu : Nat) (s : List Int) : Option Int :=
 bd (slices_IndexFunc_int_int.lp3 fu s (s.length : Int) fu 0) fun o_ => (match o_ with
 | .inl _ =>
  some (-1)
 | .inr y11_0 =>
  some y11_0)
theorem slices_IndexFunc_int_int.meets (fu : Nat) (s : List Int) (z0 : Int) (h : slices_IndexFunc_int_int fu s = some z0) : Meets Try.prog ⟨74, [sS 1 e_i64 s, .fn (.func 30) [] []], []⟩ ⟨iv z0, []⟩ := by
 refine kMt hmix slices_IndexFunc_int_int.O Try.f74 bd74 3 ?_
 unfold slices_IndexFunc_int_int at h
 refine kRs 3 [] [] .n ?_
 refine kSq ?_
 refine kRs 3 [Tm 7 (iv (s.length : Int)), Tm 8 (iv 0)] [.s (.t 7) [iv (s.length : Int)]] (.c (c_len (e := e_i64) (l := s)) .n) ?_
 refine kBk 0 ?_
 obtain ⟨o11, ho11, h⟩ := bd_inv h
 refine kUs (slices_IndexFunc_int_int.lp3_ok fu s (s.length : Int) _ 0 _ ho11) ?_
 intro e_ τ_ hp_
 rcases o11 with o11 | o11
 ·obtain ⟨⟩ := o11
  obtain ⟨rfl, rfl⟩ := hp_
  refine kCd (cR (cR bd74)) [] ?_
  refine kRs 0 [Tm 4 (iv (-1))] [] .n ?_
  refine kRt ?_
  have h_ := some_inj h
  subst h_
  exact kFr
 ·obtain ⟨y11_0, rfl⟩ : ∃ y, y = o11 := ⟨_, rfl⟩
  obtain ⟨rfl, rfl⟩ := hp_
  have h_ := some_inj h
  subst h_
  exact kFr
def bd28 : Code := (Try.f28.body).getD .skip
def slices_ContainsFunc_int_int.O : Nat → Nat := fun t => bif ([4] : List Nat).any (Nat.beq t) then 1 else 0
def slices_ContainsFunc_int_int (fu : Nat) (s : List Int) : Option Bool :=
 bd (slices_IndexFunc_int_int fu s) fun r2_1 =>
 some (decide (r2_1 ≥ 0))
theorem slices_ContainsFunc_int_int.meets (fu : Nat) (s : List Int) (z0 : Bool) (h : slices_ContainsFunc_int_int fu s = some z0) : Meets Try.prog ⟨28, [sS 1 e_i64 s, .fn (.func 30) [] []], []⟩ ⟨bv z0, []⟩ := by
 refine kMt hmix slices_ContainsFunc_int_int.O Try.f28 bd28 3 ?_
 unfold slices_ContainsFunc_int_int at h
 refine kRs 3 [] [] .n ?_
 obtain ⟨r2_1, h2_2, h⟩ := bd_inv h
 refine kRs 0 [Tm 4 (bv (decide (r2_1 ≥ 0)))] [.a ⟨iv r2_1, []⟩] (.c (Asks.of (C := Meets Try.prog) (slices_IndexFunc_int_int.meets fu s _ h2_2)) .n) ?_
 refine kRt ?_
 have h_ := some_inj h
 subst h_
 exact kFr
def bd76 : Code := (Try.f76.body).getD .skip
def txn_keys.O : Nat → Nat := fun t => bif ([1, 2, 3, 5, 7, 18, 31] : List Nat).any (Nat.beq t) then 1 else 0
def txn_keys.lp3 (fu : Nat) (l3_1 : List TRead) (l3_2 : Int) (l3_4 : TTxn) : Nat → (List ByteArray) → Int → Option (List ByteArray)
  | 0, _, _ => none
  | n_ + 1, l3_0, l3_3 =>
  br (decide (l3_3 < l3_2))
   (ix l3_1 l3_3 fun x6_1 =>
   gd (decide (l3_0.length + ([x6_1.Key] : List ByteArray).length ≤ 4294967296)) <|
   txn_keys.lp3 fu l3_1 l3_2 l3_4 n_ (l3_0 ++ ([x6_1.Key] : List ByteArray)) (w64 (l3_3 + 1)))
   (some l3_0)
def txn_keys.lp3_post (l3_1 : List TRead) (l3_2 : Int) (l3_4 : TTxn) (r_ : (List ByteArray)) : Wy → St → Prop := fun e τ => match r_ with
  | y0 => e = .exit 0 ∧ τ = ofL [Tm 1 (.ptr 1 0), Tm 2 (sO 1 e_s y0), Tm 3 (.data (.slc true (some true) 1 (List.map e_s []))), Ob 1 (TTxn.ob l3_4)]
theorem txn_keys.lp3_ok (fu : Nat) (l3_1 : List TRead) (l3_2 : Int) (l3_4 : TTxn) : ∀ (n_ : Nat) (l3_0 : List ByteArray) (l3_3 : Int) (r_ : (List ByteArray)), txn_keys.lp3 fu l3_1 l3_2 l3_4 n_ l3_0 l3_3 = some r_ → WK Try.prog txn_keys.O (Ck Try.prog) (cB (cR (cL (cR bd76)))) [] (ofL [Tm 1 (.ptr 1 0), Tm 2 (sO 1 e_s l3_0), Tm 3 (.data (.slc true (some true) 1 (List.map e_s []))), Tm 9 (sS 4 TRead.en l3_1), Tm 10 (iv l3_2), Tm 11 (iv l3_3), Ob 1 (TTxn.ob l3_4)]) (txn_keys.lp3_post l3_1 l3_2 l3_4 r_) := by
 intro n_
 induction n_ with
 | zero => intro l3_0 l3_3 r_ h; exact no_none h
 | succ n_ ih =>
  intro l3_0 l3_3 r_ h
  refine kLp ?_
  refine kRs 127 [Tm 12 (bv (decide (l3_3 < l3_2)))] [] .n ?_
  refine kSq ?_
  rcases br_inv h with ⟨b5_0, h⟩ | ⟨b5_0, h⟩
  ·refine kCt b5_0 ?_
   refine kSk ?_
   refine kCd (cR (cR (cB (cB (cR (cL (cR bd76))))))) [.lp (cB (cR (cL (cR bd76))))] ?_
   refine kSq ?_
   refine kBk 1 ?_
   obtain ⟨x6_1, a6_2, e6_3, h⟩ := ix_inv h
   refine kRs 254 [Tm 5 (.ptr 5 0), Ob 5 (TRead.ob x6_1)] [.c (TRead.en x6_1)] (.c (c_ix (e := TRead.en) a6_2 e6_3) (.c (c_el (e := TRead.en) e6_3) .n)) ?_
   obtain ⟨c7_1, h⟩ := gd_inv h
   refine kRc 500 [Tm 2 (sO 1 e_s (l3_0 ++ ([x6_1.Key] : List ByteArray)))] [.s (.t 19) [sO 1 e_s (l3_0 ++ ([x6_1.Key] : List ByteArray))]] (.c (c_al (e := e_s) (f := e_s) c7_1) (.c (congrArg (fun d : DV => [AV.data d]) (c_app (e := e_s) (s := 1) (l := l3_0) (m := ([x6_1.Key] : List ByteArray)))) .n)) (cR (cR (cR (cB (cB (cR (cL (cR bd76)))))))) [.lp (cB (cR (cL (cR bd76))))] ?_
   refine kRc 95 [Tm 11 (iv (w64 (l3_3 + 1)))] [] .n (cB (cR (cL (cR bd76)))) [] ?_
   exact kWk (ih (l3_0 ++ ([x6_1.Key] : List ByteArray)) (w64 (l3_3 + 1)) _ h)
  ·refine kCe b5_0 ?_
   cases some_inj h
   refine kWo ?_
   refine kXt 0 ?_
   exact kOut
def txn_keys.lp11 (fu : Nat) (l11_0 : List ByteArray) (l11_2 : List TWrite) (l11_3 : Int) : Nat → (List ByteArray) → Int → Option (List ByteArray)
  | 0, _, _ => none
  | n_ + 1, l11_1, l11_4 =>
  br (decide (l11_4 < l11_3))
   (ix l11_2 l11_4 fun x14_1 =>
   gd (decide (l11_1.length + ([x14_1.Key] : List ByteArray).length ≤ 4294967296)) <|
   txn_keys.lp11 fu l11_0 l11_2 l11_3 n_ (l11_1 ++ ([x14_1.Key] : List ByteArray)) (w64 (l11_4 + 1)))
   (some l11_1)
def txn_keys.lp11_post (l11_0 : List ByteArray) (l11_2 : List TWrite) (l11_3 : Int) (r_ : (List ByteArray)) : Wy → St → Prop := fun e τ => match r_ with
  | y0 => e = .exit 2 ∧ τ = ofL [Tm 2 (sO 1 e_s l11_0), Tm 3 (sO 1 e_s y0)]
theorem txn_keys.lp11_ok (fu : Nat) (l11_0 : List ByteArray) (l11_2 : List TWrite) (l11_3 : Int) : ∀ (n_ : Nat) (l11_1 : List ByteArray) (l11_4 : Int) (r_ : (List ByteArray)), txn_keys.lp11 fu l11_0 l11_2 l11_3 n_ l11_1 l11_4 = some r_ → WK Try.prog txn_keys.O (Ck Try.prog) (cB (cR (cL (cR (cR bd76))))) [] (ofL [Tm 2 (sO 1 e_s l11_0), Tm 3 (sO 1 e_s l11_1), Tm 22 (sS 3 TWrite.en l11_2), Tm 23 (iv l11_3), Tm 24 (iv l11_4)]) (txn_keys.lp11_post l11_0 l11_2 l11_3 r_) := by
 intro n_
 induction n_ with
 | zero => intro l11_1 l11_4 r_ h; exact no_none h
 | succ n_ ih =>
  intro l11_1 l11_4 r_ h
  refine kLp ?_
  refine kRs 31 [Tm 25 (bv (decide (l11_4 < l11_3)))] [] .n ?_
  refine kSq ?_
  rcases br_inv h with ⟨b13_0, h⟩ | ⟨b13_0, h⟩
  ·refine kCt b13_0 ?_
   refine kSk ?_
   refine kCd (cR (cR (cB (cB (cR (cL (cR (cR bd76)))))))) [.lp (cB (cR (cL (cR (cR bd76)))))] ?_
   refine kSq ?_
   refine kBk 3 ?_
   obtain ⟨x14_1, a14_2, e14_3, h⟩ := ix_inv h
   refine kRs 62 [Tm 7 (.ptr 7 0), Ob 7 (TWrite.ob x14_1)] [.c (TWrite.en x14_1)] (.c (c_ix (e := TWrite.en) a14_2 e14_3) (.c (c_el (e := TWrite.en) e14_3) .n)) ?_
   obtain ⟨c15_1, h⟩ := gd_inv h
   refine kRc 116 [Tm 3 (sO 1 e_s (l11_1 ++ ([x14_1.Key] : List ByteArray)))] [.s (.t 32) [sO 1 e_s (l11_1 ++ ([x14_1.Key] : List ByteArray))]] (.c (c_al (e := e_s) (f := e_s) c15_1) (.c (congrArg (fun d : DV => [AV.data d]) (c_app (e := e_s) (s := 1) (l := l11_1) (m := ([x14_1.Key] : List ByteArray)))) .n)) (cR (cR (cR (cB (cB (cR (cL (cR (cR bd76))))))))) [.lp (cB (cR (cL (cR (cR bd76)))))] ?_
   refine kRc 15 [Tm 24 (iv (w64 (l11_4 + 1)))] [] .n (cB (cR (cL (cR (cR bd76))))) [] ?_
   exact kWk (ih (l11_1 ++ ([x14_1.Key] : List ByteArray)) (w64 (l11_4 + 1)) _ h)
  ·refine kCe b13_0 ?_
   cases some_inj h
   refine kWo ?_
   refine kXt 2 ?_
   exact kOut
def txn_keys (fu : Nat) (t : TTxn) : Option (List ByteArray × List ByteArray) :=
 bd (txn_keys.lp3 fu t.Reads (t.Reads.length : Int) t fu [] 0) fun y9_0 =>
 bd (txn_keys.lp11 fu y9_0 t.Writes (t.Writes.length : Int) fu [] 0) fun y17_0 =>
 some (y9_0, y17_0)
theorem txn_keys.meets (fu : Nat) (t : TTxn) (z0 : List ByteArray) (z1 : List ByteArray) (h : txn_keys fu t = some (z0, z1)) : Meets Try.prog ⟨76, [.data (TTxn.ag t)], []⟩ ⟨.tup [sS 1 e_s z0, sS 1 e_s z1], []⟩ := by
 refine kMt hmix txn_keys.O Try.f76 bd76 1 ?_
 unfold txn_keys at h
 refine kRs 0 [Tm 1 (.ptr 1 0), Tm 2 (.data (.slc true (some true) 1 (List.map e_s []))), Tm 3 (.data (.slc true (some true) 1 (List.map e_s []))), Ob 1 (TTxn.ob t)] [] .n ?_
 refine kSq ?_
 refine kRs 15 [Tm 9 (sS 4 TRead.en t.Reads), Tm 10 (iv (t.Reads.length : Int)), Tm 11 (iv 0)] [.s (.t 10) [iv (t.Reads.length : Int)]] (.c (c_len (e := TRead.en) (l := t.Reads)) .n) ?_
 refine kBk 0 ?_
 obtain ⟨o9, ho9, h⟩ := bd_inv h
 refine kUs (txn_keys.lp3_ok fu t.Reads (t.Reads.length : Int) t _ [] 0 _ ho9) ?_
 intro e_ τ_ hp_
 obtain ⟨y9_0, rfl⟩ : ∃ y, y = o9 := ⟨_, rfl⟩
 obtain ⟨rfl, rfl⟩ := hp_
 refine kCd (cR (cR bd76)) [] ?_
 refine kSq ?_
 refine kRs 6 [Tm 22 (sS 3 TWrite.en t.Writes), Tm 23 (iv (t.Writes.length : Int)), Tm 24 (iv 0)] [.s (.t 23) [iv (t.Writes.length : Int)]] (.c (c_len (e := TWrite.en) (l := t.Writes)) .n) ?_
 refine kBk 2 ?_
 obtain ⟨o17, ho17, h⟩ := bd_inv h
 refine kUs (txn_keys.lp11_ok fu y9_0 t.Writes (t.Writes.length : Int) _ [] 0 _ ho17) ?_
 intro e_ τ_ hp_
 obtain ⟨y17_0, rfl⟩ : ∃ y, y = o17 := ⟨_, rfl⟩
 obtain ⟨rfl, rfl⟩ := hp_
 refine kCd (cR (cR (cR bd76))) [] ?_
 refine kRs 3 [] [] .n ?_
 refine kRt ?_
 have h_0 := some_inj h
 obtain ⟨g_1, h_1⟩ := Prod.mk.inj h_0
 subst g_1
 subst h_1
 exact kFr
def bd95 : Code := (Try.f95.body).getD .skip
def key_sign.O : Nat → Nat := fun t => bif ([2] : List Nat).any (Nat.beq t) then 1 else 0
def key_sign (c : Int) : Option Bool :=
 br (decide (c ≥ 33))
  (some (decide (c ≤ 126)))
  (some false)
theorem key_sign.meets (c : Int) (z0 : Bool) (h : key_sign c = some z0) : Meets Try.prog ⟨95, [.data (.val (.int .u8 c))], []⟩ ⟨bv z0, []⟩ := by
 refine kMt hmix key_sign.O Try.f95 bd95 1 ?_
 unfold key_sign at h
 refine kRs 1 [] [] .n ?_
 rcases br_inv h with ⟨b2_1, h⟩ | ⟨b2_1, h⟩
 ·refine kRs 0 [Tm 2 (bv (decide (c ≤ 126)))] [.b true, .b true, .b true] (.r 3 b2_1 .n) ?_
  refine kRt ?_
  have h_ := some_inj h
  subst h_
  exact kFr
 ·refine kRs 0 [Tm 2 (bv false)] [.b false, .b false, .b false] (.r 3 b2_1 .n) ?_
  refine kRt ?_
  have h_ := some_inj h
  subst h_
  exact kFr
def bd82 : Code := (Try.f82.body).getD .skip
def key_name_may.O : Nat → Nat := fun t => bif ([2, 3] : List Nat).any (Nat.beq t) then 1 else 0
def key_name_may.lp3 (fu : Nat) (l3_0 : ByteArray) (l3_1 : Int) : Nat → Int → Option (Unit ⊕ Unit)
  | 0, _ => none
  | n_ + 1, l3_2 =>
  br (decide (l3_2 < l3_1))
   (gd (decide ((0 : Int) ≤ l3_2 ∧ l3_2 < (l3_0.size : Int))) <|
   bd (key_sign (byteAt l3_0 l3_2)) fun r7_2 =>
   br (!r7_2)
    (some (.inr ()))
    (key_name_may.lp3 fu l3_0 l3_1 n_ (w64 (l3_2 + 1))))
   (some (.inl ()))
def key_name_may.lp3_post (l3_0 : ByteArray) (l3_1 : Int) (r_ : (Unit ⊕ Unit)) : Wy → St → Prop := fun e τ => match r_ with
  | .inl _ => e = .exit 0 ∧ τ = ofL [Tm 0 (sv l3_0)]
  | .inr _ => e = .ret ∧ τ = ofL [Tm 2 (bv false)]
theorem key_name_may.lp3_ok (fu : Nat) (l3_0 : ByteArray) (l3_1 : Int) : ∀ (n_ : Nat) (l3_2 : Int) (r_ : (Unit ⊕ Unit)), key_name_may.lp3 fu l3_0 l3_1 n_ l3_2 = some r_ → WK Try.prog key_name_may.O (Ck Try.prog) (cB (cR (cL (cR bd82)))) [] (ofL [Tm 0 (sv l3_0), Tm 5 (iv l3_1), Tm 6 (iv l3_2)]) (key_name_may.lp3_post l3_0 l3_1 r_) := by
 intro n_
 induction n_ with
 | zero => intro l3_2 r_ h; exact no_none h
 | succ n_ ih =>
  intro l3_2 r_ h
  refine kLp ?_
  refine kRs 7 [Tm 7 (bv (decide (l3_2 < l3_1)))] [] .n ?_
  refine kSq ?_
  rcases br_inv h with ⟨b5_0, h⟩ | ⟨b5_0, h⟩
  ·refine kCt b5_0 ?_
   refine kSk ?_
   refine kCd (cR (cR (cB (cB (cR (cL (cR bd82))))))) [.lp (cB (cR (cL (cR bd82))))] ?_
   refine kSq ?_
   refine kBk 1 ?_
   refine kRs 14 [Tm 3 (iv l3_2)] [] .n ?_
   obtain ⟨c7_1, h⟩ := gd_inv h
   obtain ⟨r7_2, h7_3, h⟩ := bd_inv h
   refine kRs 14 [Tm 13 (bv (!r7_2))] [.a ⟨bv r7_2, []⟩] (.c c7_1 (.c (Asks.of (C := Meets Try.prog) (key_sign.meets (byteAt l3_0 l3_2) _ h7_3)) .n)) ?_
   rcases br_inv h with ⟨b8_0, h⟩ | ⟨b8_0, h⟩
   ·refine kCt b8_0 ?_
    refine kRs 0 [Tm 2 (bv false)] [] .n ?_
    cases some_inj h
    refine kWo ?_
    refine kRt ?_
    exact kOut
   ·refine kCe b8_0 ?_
    refine kSk ?_
    refine kCd (cR (cR (cR (cB (cB (cR (cL (cR bd82)))))))) [.lp (cB (cR (cL (cR bd82))))] ?_
    refine kRc 6 [Tm 6 (iv (w64 (l3_2 + 1)))] [] .n (cB (cR (cL (cR bd82)))) [] ?_
    exact kWk (ih (w64 (l3_2 + 1)) _ h)
  ·refine kCe b5_0 ?_
   cases some_inj h
   refine kWo ?_
   refine kXt 0 ?_
   exact kOut
def key_name_may (fu : Nat) (k_v : ByteArray) : Option Bool :=
 bd (key_name_may.lp3 fu k_v (k_v.size : Int) fu 0) fun o_ => (match o_ with
 | .inl _ =>
  br (decide ((k_v.size : Int) ≥ 1))
   (some (decide ((k_v.size : Int) ≤ 8)))
   (some false)
 | .inr _ =>
  some false)
theorem key_name_may.meets (fu : Nat) (k_v : ByteArray) (z0 : Bool) (h : key_name_may fu k_v = some z0) : Meets Try.prog ⟨82, [sv k_v], []⟩ ⟨bv z0, []⟩ := by
 refine kMt hmix key_name_may.O Try.f82 bd82 1 ?_
 unfold key_name_may at h
 refine kRs 1 [] [] .n ?_
 refine kSq ?_
 refine kRs 1 [Tm 5 (iv (k_v.size : Int)), Tm 6 (iv 0)] [] .n ?_
 refine kBk 0 ?_
 obtain ⟨o11, ho11, h⟩ := bd_inv h
 refine kUs (key_name_may.lp3_ok fu k_v (k_v.size : Int) _ 0 _ ho11) ?_
 intro e_ τ_ hp_
 rcases o11 with o11 | o11
 ·obtain ⟨⟩ := o11
  obtain ⟨rfl, rfl⟩ := hp_
  refine kCd (cR (cR bd82)) [] ?_
  rcases br_inv h with ⟨b12_1, h⟩ | ⟨b12_1, h⟩
  ·refine kRs 0 [Tm 2 (bv (decide ((k_v.size : Int) ≤ 8)))] (rp 4 (.b true) []) (.r 4 b12_1 .n) ?_
   refine kRt ?_
   have h_ := some_inj h
   subst h_
   exact kFr
  ·refine kRs 0 [Tm 2 (bv false)] (rp 4 (.b false) []) (.r 4 b12_1 .n) ?_
   refine kRt ?_
   have h_ := some_inj h
   subst h_
   exact kFr
 ·obtain ⟨⟩ := o11
  obtain ⟨rfl, rfl⟩ := hp_
  have h_ := some_inj h
  subst h_
  exact kFr
def bd35 : Code := (Try.f35.body).getD .skip
def key_Rising.O : Nat → Nat := fun t => bif ([2, 3, 4, 5] : List Nat).any (Nat.beq t) then 1 else 0
def key_Rising.lp4 (fu : Nat) (l4_0 : List ByteArray) (l4_1 : List ByteArray) (l4_2 : Int) : Nat → Int → Option (Unit ⊕ Unit)
  | 0, _ => none
  | n_ + 1, l4_3 =>
  br (decide (l4_3 < l4_2))
   (ix l4_1 l4_3 fun x7_1 =>
   bd (key_name_may fu x7_1) fun r8_1 =>
   br (!r8_1)
    (some (.inr ()))
    (br (decide (l4_3 > 0))
     (ix l4_0 (w64 (l4_3 - 1)) fun x8_5 =>
     br (!(Op.bytesLess x8_5.toList x7_1.toList))
      (some (.inr ()))
      (key_Rising.lp4 fu l4_0 l4_1 l4_2 n_ (w64 (l4_3 + 1))))
     (key_Rising.lp4 fu l4_0 l4_1 l4_2 n_ (w64 (l4_3 + 1)))))
   (some (.inl ()))
def key_Rising.lp4_post (l4_0 : List ByteArray) (l4_1 : List ByteArray) (l4_2 : Int) (r_ : (Unit ⊕ Unit)) : Wy → St → Prop := fun e τ => match r_ with
  | .inl _ => e = .exit 0 ∧ τ = ofL []
  | .inr _ => e = .ret ∧ τ = ofL [Tm 2 (bv false)]
theorem key_Rising.lp4_ok (fu : Nat) (l4_0 : List ByteArray) (l4_1 : List ByteArray) (l4_2 : Int) : ∀ (n_ : Nat) (l4_3 : Int) (r_ : (Unit ⊕ Unit)), key_Rising.lp4 fu l4_0 l4_1 l4_2 n_ l4_3 = some r_ → WK Try.prog key_Rising.O (Ck Try.prog) (cB (cR (cL (cR (cR bd35))))) [] (ofL [Tm 0 (sS 1 e_s l4_0), Tm 3 (.fn (.func 82) [] []), Tm 6 (sS 1 e_s l4_1), Tm 7 (iv l4_2), Tm 8 (iv l4_3)]) (key_Rising.lp4_post l4_0 l4_1 l4_2 r_) := by
 intro n_
 induction n_ with
 | zero => intro l4_3 r_ h; exact no_none h
 | succ n_ ih =>
  intro l4_3 r_ h
  refine kLp ?_
  refine kRs 31 [Tm 9 (bv (decide (l4_3 < l4_2)))] [] .n ?_
  refine kSq ?_
  rcases br_inv h with ⟨b6_0, h⟩ | ⟨b6_0, h⟩
  ·refine kCt b6_0 ?_
   refine kSk ?_
   refine kCd (cR (cR (cB (cB (cR (cL (cR (cR bd35)))))))) [.lp (cB (cR (cL (cR (cR bd35)))))] ?_
   refine kSq ?_
   refine kBk 1 ?_
   obtain ⟨x7_1, a7_2, e7_3, h⟩ := ix_inv h
   refine kRs 62 [Tm 4 (iv l4_3), Tm 5 (sv x7_1)] [.c (e_s x7_1)] (.c (c_ix (e := e_s) a7_2 e7_3) (.c (c_el (e := e_s) e7_3) .n)) ?_
   obtain ⟨r8_1, h8_2, h⟩ := bd_inv h
   rcases br_inv h with ⟨b8_3, h⟩ | ⟨b8_3, h⟩
   ·refine kRs 124 [Tm 29 (bv true)] (.a ⟨bv r8_1, []⟩ :: (rp 5 (.b true) [])) (.c (Asks.of (C := Meets Try.prog) (key_name_may.meets fu x7_1 _ h8_2)) (.r 5 b8_3 .n)) ?_
    refine kCt rT ?_
    refine kRs 0 [Tm 2 (bv false)] [] .n ?_
    cases some_inj h
    refine kWo ?_
    refine kRt ?_
    exact kOut
   ·rcases br_inv h with ⟨b8_4, h⟩ | ⟨b8_4, h⟩
    ·obtain ⟨x8_5, a8_6, e8_7, h⟩ := ix_inv h
     refine kRs 124 [Tm 29 (bv (!(Op.bytesLess x8_5.toList x7_1.toList)))] (.a ⟨bv r8_1, []⟩ :: (.b false :: (.b false :: (.b false :: (rp 4 (.b true) [.c (e_s x8_5), .b true, .b true, .b true, .b false, .b true, .b false]))))) (.c (Asks.of (C := Meets Try.prog) (key_name_may.meets fu x7_1 _ h8_2)) (.r 3 b8_3 (.r 4 b8_4 (.c (c_ix (e := e_s) a8_6 e8_7) (.c (c_el (e := e_s) e8_7) (.r 3 b8_4 (.c b8_3 (.c b8_4 (.c b8_3 .n))))))))) ?_
     rcases br_inv h with ⟨b10_0, h⟩ | ⟨b10_0, h⟩
     ·refine kCt b10_0 ?_
      refine kRs 0 [Tm 2 (bv false)] [] .n ?_
      cases some_inj h
      refine kWo ?_
      refine kRt ?_
      exact kOut
     ·refine kCe b10_0 ?_
      refine kSk ?_
      refine kCd (cR (cR (cR (cB (cB (cR (cL (cR (cR bd35))))))))) [.lp (cB (cR (cL (cR (cR bd35)))))] ?_
      refine kRc 30 [Tm 8 (iv (w64 (l4_3 + 1)))] [] .n (cB (cR (cL (cR (cR bd35))))) [] ?_
      exact kWk (ih (w64 (l4_3 + 1)) _ h)
    ·refine kRs 124 [Tm 29 (bv false)] (.a ⟨bv r8_1, []⟩ :: (rp 13 (.b false) [])) (.c (Asks.of (C := Meets Try.prog) (key_name_may.meets fu x7_1 _ h8_2)) (.r 3 b8_3 (.r 7 b8_4 (.c b8_3 (.c b8_4 (.c b8_3 .n)))))) ?_
     refine kCe rF ?_
     refine kSk ?_
     refine kCd (cR (cR (cR (cB (cB (cR (cL (cR (cR bd35))))))))) [.lp (cB (cR (cL (cR (cR bd35)))))] ?_
     refine kRc 30 [Tm 8 (iv (w64 (l4_3 + 1)))] [] .n (cB (cR (cL (cR (cR bd35))))) [] ?_
     exact kWk (ih (w64 (l4_3 + 1)) _ h)
  ·refine kCe b6_0 ?_
   cases some_inj h
   refine kWo ?_
   refine kXt 0 ?_
   exact kOut
def key_Rising (fu : Nat) (l : List ByteArray) : Option Bool :=
 bd (key_Rising.lp4 fu l l (l.length : Int) fu 0) fun o_ => (match o_ with
 | .inl _ =>
  some true
 | .inr _ =>
  some false)
theorem key_Rising.meets (fu : Nat) (l : List ByteArray) (z0 : Bool) (h : key_Rising fu l = some z0) : Meets Try.prog ⟨35, [sS 1 e_s l], []⟩ ⟨bv z0, []⟩ := by
 refine kMt hmix key_Rising.O Try.f35 bd35 1 ?_
 unfold key_Rising at h
 refine kRs 1 [] [] .n ?_
 refine kRs 1 [Tm 3 (.fn (.func 82) [] [])] [] .n ?_
 refine kSq ?_
 refine kRs 3 [Tm 6 (sS 1 e_s l), Tm 7 (iv (l.length : Int)), Tm 8 (iv 0)] [.s (.t 7) [iv (l.length : Int)]] (.c (c_len (e := e_s) (l := l)) .n) ?_
 refine kBk 0 ?_
 obtain ⟨o14, ho14, h⟩ := bd_inv h
 refine kUs (key_Rising.lp4_ok fu l l (l.length : Int) _ 0 _ ho14) ?_
 intro e_ τ_ hp_
 rcases o14 with o14 | o14
 ·obtain ⟨⟩ := o14
  obtain ⟨rfl, rfl⟩ := hp_
  refine kCd (cR (cR (cR bd35))) [] ?_
  refine kRs 0 [Tm 2 (bv true)] [] .n ?_
  refine kRt ?_
  have h_ := some_inj h
  subst h_
  exact kFr
 ·obtain ⟨⟩ := o14
  obtain ⟨rfl, rfl⟩ := hp_
  have h_ := some_inj h
  subst h_
  exact kFr
def bd78 : Code := (Try.f78.body).getD .skip
def txn_read.O : Nat → Nat := fun t => bif ([1, 2] : List Nat).any (Nat.beq t) then 1 else 0
def txn_read (r_v : TRead) : Option Bool :=
 br (!r_v.There)
  (br (!(r_v.Val.toList == ByteArray.empty.toList))
   (some false)
   (br r_v.There
    (br (r_v.Version == 0)
     (some false)
     (br (decide (r_v.Version ≥ 0))
      (some (decide ((r_v.Val.size : Int) ≤ 16)))
      (some false)))
    (br (decide (r_v.Version ≥ 0))
     (some (decide ((r_v.Val.size : Int) ≤ 16)))
     (some false))))
  (br r_v.There
   (br (r_v.Version == 0)
    (some false)
    (br (decide (r_v.Version ≥ 0))
     (some (decide ((r_v.Val.size : Int) ≤ 16)))
     (some false)))
   (br (decide (r_v.Version ≥ 0))
    (some (decide ((r_v.Val.size : Int) ≤ 16)))
    (some false)))
theorem txn_read.meets (r_v : TRead) (z0 : Bool) (h : txn_read r_v = some z0) : Meets Try.prog ⟨78, [.data (TRead.ag r_v)], []⟩ ⟨bv z0, []⟩ := by
 refine kMt hmix txn_read.O Try.f78 bd78 1 ?_
 unfold txn_read at h
 refine kRs 0 [Tm 1 (.ptr 1 0), Ob 1 (TRead.ob r_v)] [] .n ?_
 refine kSq ?_
 rcases br_inv h with ⟨b2_1, h⟩ | ⟨b2_1, h⟩
 ·rcases br_inv h with ⟨b2_2, h⟩ | ⟨b2_2, h⟩
  ·refine kRs 3 [Tm 19 (bv true)] (rp 9 (.b true) []) (.r 4 b2_1 (.r 5 b2_2 .n)) ?_
   refine kCt rT ?_
   refine kRs 0 [Tm 2 (bv false)] [] .n ?_
   refine kRt ?_
   have h_ := some_inj h
   subst h_
   exact kFr
  ·rcases br_inv h with ⟨b2_3, h⟩ | ⟨b2_3, h⟩
   ·refine kRs 3 [Tm 19 (bv (r_v.Version == 0))] (rp 4 (.b true) [.b false, .b false, .b false, .b true, .b true, .b true, .b false, .b true, .b false]) (.r 4 b2_1 (.r 3 b2_2 (.r 3 b2_3 (.c b2_2 (.c b2_3 (.c b2_2 .n)))))) ?_
    rcases br_inv h with ⟨b4_0, h⟩ | ⟨b4_0, h⟩
    ·refine kCt b4_0 ?_
     refine kRs 0 [Tm 2 (bv false)] [] .n ?_
     refine kRt ?_
     have h_ := some_inj h
     subst h_
     exact kFr
    ·refine kCe b4_0 ?_
     refine kSk ?_
     refine kCd (cR (cR bd78)) [] ?_
     rcases br_inv h with ⟨b6_1, h⟩ | ⟨b6_1, h⟩
     ·refine kRs 0 [Tm 2 (bv (decide ((r_v.Val.size : Int) ≤ 16)))] (rp 5 (.b true) []) (.r 5 b6_1 .n) ?_
      refine kRt ?_
      have h_ := some_inj h
      subst h_
      exact kFr
     ·refine kRs 0 [Tm 2 (bv false)] (rp 5 (.b false) []) (.r 5 b6_1 .n) ?_
      refine kRt ?_
      have h_ := some_inj h
      subst h_
      exact kFr
   ·refine kRs 3 [Tm 19 (bv false)] (rp 4 (.b true) (rp 9 (.b false) [])) (.r 4 b2_1 (.r 3 b2_2 (.r 3 b2_3 (.c b2_2 (.c b2_3 (.c b2_2 .n)))))) ?_
    refine kCe rF ?_
    refine kSk ?_
    refine kCd (cR (cR bd78)) [] ?_
    rcases br_inv h with ⟨b7_1, h⟩ | ⟨b7_1, h⟩
    ·refine kRs 0 [Tm 2 (bv (decide ((r_v.Val.size : Int) ≤ 16)))] (rp 5 (.b true) []) (.r 5 b7_1 .n) ?_
     refine kRt ?_
     have h_ := some_inj h
     subst h_
     exact kFr
    ·refine kRs 0 [Tm 2 (bv false)] (rp 5 (.b false) []) (.r 5 b7_1 .n) ?_
     refine kRt ?_
     have h_ := some_inj h
     subst h_
     exact kFr
 ·rcases br_inv h with ⟨b2_2, h⟩ | ⟨b2_2, h⟩
  ·refine kRs 3 [Tm 19 (bv (r_v.Version == 0))] (rp 7 (.b false) [.b true, .b true, .b true, .b false, .b true, .b false]) (.r 4 b2_1 (.r 3 rF (.r 3 b2_2 (.c rF (.c b2_2 (.c rF .n)))))) ?_
   rcases br_inv h with ⟨b8_0, h⟩ | ⟨b8_0, h⟩
   ·refine kCt b8_0 ?_
    refine kRs 0 [Tm 2 (bv false)] [] .n ?_
    refine kRt ?_
    have h_ := some_inj h
    subst h_
    exact kFr
   ·refine kCe b8_0 ?_
    refine kSk ?_
    refine kCd (cR (cR bd78)) [] ?_
    rcases br_inv h with ⟨b10_1, h⟩ | ⟨b10_1, h⟩
    ·refine kRs 0 [Tm 2 (bv (decide ((r_v.Val.size : Int) ≤ 16)))] (rp 5 (.b true) []) (.r 5 b10_1 .n) ?_
     refine kRt ?_
     have h_ := some_inj h
     subst h_
     exact kFr
    ·refine kRs 0 [Tm 2 (bv false)] (rp 5 (.b false) []) (.r 5 b10_1 .n) ?_
     refine kRt ?_
     have h_ := some_inj h
     subst h_
     exact kFr
  ·refine kRs 3 [Tm 19 (bv false)] (rp 13 (.b false) []) (.r 4 b2_1 (.r 3 rF (.r 3 b2_2 (.c rF (.c b2_2 (.c rF .n)))))) ?_
   refine kCe rF ?_
   refine kSk ?_
   refine kCd (cR (cR bd78)) [] ?_
   rcases br_inv h with ⟨b11_1, h⟩ | ⟨b11_1, h⟩
   ·refine kRs 0 [Tm 2 (bv (decide ((r_v.Val.size : Int) ≤ 16)))] (rp 5 (.b true) []) (.r 5 b11_1 .n) ?_
    refine kRt ?_
    have h_ := some_inj h
    subst h_
    exact kFr
   ·refine kRs 0 [Tm 2 (bv false)] (rp 5 (.b false) []) (.r 5 b11_1 .n) ?_
    refine kRt ?_
    have h_ := some_inj h
    subst h_
    exact kFr
def bd77 : Code := (Try.f77.body).getD .skip
def txn_May_1.O : Nat → Nat := fun t => bif ([1, 2] : List Nat).any (Nat.beq t) then 1 else 0
def txn_May_1 (r_v : TRead) : Option Bool :=
 bd (txn_read r_v) fun r2_1 =>
 some (!r2_1)
theorem txn_May_1.meets (r_v : TRead) (z0 : Bool) (h : txn_May_1 r_v = some z0) : Meets Try.prog ⟨77, [.data (TRead.ag r_v)], []⟩ ⟨bv z0, []⟩ := by
 refine kMt hmix txn_May_1.O Try.f77 bd77 1 ?_
 unfold txn_May_1 at h
 refine kRs 0 [Tm 1 (.ptr 1 0), Ob 1 (TRead.ob r_v)] [] .n ?_
 obtain ⟨r2_1, h2_2, h⟩ := bd_inv h
 refine kRs 0 [Tm 2 (bv (!r2_1))] [.a ⟨bv r2_1, []⟩] (.c (Asks.of (C := Meets Try.prog) (txn_read.meets r_v _ h2_2)) .n) ?_
 refine kRt ?_
 have h_ := some_inj h
 subst h_
 exact kFr
def bd83 : Code := (Try.f83.body).getD .skip
def slices_IndexFunc_api_Read.O : Nat → Nat := fun t => bif ([4, 5] : List Nat).any (Nat.beq t) then 1 else 0
def slices_IndexFunc_api_Read.lp3 (fu : Nat) (l3_0 : List TRead) (l3_1 : Int) : Nat → Int → Option (Unit ⊕ Int)
  | 0, _ => none
  | n_ + 1, l3_2 =>
  br (decide (l3_2 < l3_1))
   (ix l3_0 l3_2 fun x7_1 =>
   bd (txn_May_1 x7_1) fun r7_4 =>
   br r7_4
    (some (.inr l3_2))
    (slices_IndexFunc_api_Read.lp3 fu l3_0 l3_1 n_ (w64 (l3_2 + 1))))
   (some (.inl ()))
def slices_IndexFunc_api_Read.lp3_post (l3_0 : List TRead) (l3_1 : Int) (r_ : (Unit ⊕ Int)) : Wy → St → Prop := fun e τ => match r_ with
  | .inl _ => e = .exit 0 ∧ τ = ofL []
  | .inr y0 => e = .ret ∧ τ = ofL [Tm 4 (iv y0)]
theorem slices_IndexFunc_api_Read.lp3_ok (fu : Nat) (l3_0 : List TRead) (l3_1 : Int) : ∀ (n_ : Nat) (l3_2 : Int) (r_ : (Unit ⊕ Int)), slices_IndexFunc_api_Read.lp3 fu l3_0 l3_1 n_ l3_2 = some r_ → WK Try.prog slices_IndexFunc_api_Read.O (Ck Try.prog) (cB (cR (cL (cR bd83)))) [] (ofL [Tm 0 (sS 4 TRead.en l3_0), Tm 1 (.fn (.func 77) [] []), Tm 7 (iv l3_1), Tm 8 (iv l3_2)]) (slices_IndexFunc_api_Read.lp3_post l3_0 l3_1 r_) := by
 intro n_
 induction n_ with
 | zero => intro l3_2 r_ h; exact no_none h
 | succ n_ ih =>
  intro l3_2 r_ h
  refine kLp ?_
  refine kRs 15 [Tm 9 (bv (decide (l3_2 < l3_1)))] [] .n ?_
  refine kSq ?_
  rcases br_inv h with ⟨b5_0, h⟩ | ⟨b5_0, h⟩
  ·refine kCt b5_0 ?_
   refine kSk ?_
   refine kCd (cR (cR (cB (cB (cR (cL (cR bd83))))))) [.lp (cB (cR (cL (cR bd83))))] ?_
   refine kSq ?_
   refine kBk 1 ?_
   refine kRs 30 [Tm 5 (iv l3_2)] [] .n ?_
   obtain ⟨x7_1, a7_2, e7_3, h⟩ := ix_inv h
   obtain ⟨r7_4, h7_5, h⟩ := bd_inv h
   refine kRs 31 [Tm 16 (bv r7_4)] [.c (TRead.en x7_1), .a ⟨bv r7_4, []⟩] (.c (c_ix (e := TRead.en) a7_2 e7_3) (.c (c_el (e := TRead.en) e7_3) (.c (Asks.of (C := Meets Try.prog) (txn_May_1.meets x7_1 _ h7_5)) .n))) ?_
   rcases br_inv h with ⟨b8_0, h⟩ | ⟨b8_0, h⟩
   ·refine kCt b8_0 ?_
    refine kRs 0 [Tm 4 (iv l3_2)] [] .n ?_
    cases some_inj h
    refine kWo ?_
    refine kRt ?_
    exact kOut
   ·refine kCe b8_0 ?_
    refine kSk ?_
    refine kCd (cR (cR (cR (cB (cB (cR (cL (cR bd83)))))))) [.lp (cB (cR (cL (cR bd83))))] ?_
    refine kRc 28 [Tm 8 (iv (w64 (l3_2 + 1)))] [] .n (cB (cR (cL (cR bd83)))) [] ?_
    exact kWk (ih (w64 (l3_2 + 1)) _ h)
  ·refine kCe b5_0 ?_
   cases some_inj h
   refine kWo ?_
   refine kXt 0 ?_
   exact kOut
def slices_IndexFunc_api_Read (fu : Nat) (s : List TRead) : Option Int :=
 bd (slices_IndexFunc_api_Read.lp3 fu s (s.length : Int) fu 0) fun o_ => (match o_ with
 | .inl _ =>
  some (-1)
 | .inr y11_0 =>
  some y11_0)
theorem slices_IndexFunc_api_Read.meets (fu : Nat) (s : List TRead) (z0 : Int) (h : slices_IndexFunc_api_Read fu s = some z0) : Meets Try.prog ⟨83, [sS 4 TRead.en s, .fn (.func 77) [] []], []⟩ ⟨iv z0, []⟩ := by
 refine kMt hmix slices_IndexFunc_api_Read.O Try.f83 bd83 3 ?_
 unfold slices_IndexFunc_api_Read at h
 refine kRs 3 [] [] .n ?_
 refine kSq ?_
 refine kRs 3 [Tm 7 (iv (s.length : Int)), Tm 8 (iv 0)] [.s (.t 7) [iv (s.length : Int)]] (.c (c_len (e := TRead.en) (l := s)) .n) ?_
 refine kBk 0 ?_
 obtain ⟨o11, ho11, h⟩ := bd_inv h
 refine kUs (slices_IndexFunc_api_Read.lp3_ok fu s (s.length : Int) _ 0 _ ho11) ?_
 intro e_ τ_ hp_
 rcases o11 with o11 | o11
 ·obtain ⟨⟩ := o11
  obtain ⟨rfl, rfl⟩ := hp_
  refine kCd (cR (cR bd83)) [] ?_
  refine kRs 0 [Tm 4 (iv (-1))] [] .n ?_
  refine kRt ?_
  have h_ := some_inj h
  subst h_
  exact kFr
 ·obtain ⟨y11_0, rfl⟩ : ∃ y, y = o11 := ⟨_, rfl⟩
  obtain ⟨rfl, rfl⟩ := hp_
  have h_ := some_inj h
  subst h_
  exact kFr
def bd36 : Code := (Try.f36.body).getD .skip
def slices_ContainsFunc_api_Read.O : Nat → Nat := fun t => bif ([4] : List Nat).any (Nat.beq t) then 1 else 0
def slices_ContainsFunc_api_Read (fu : Nat) (s : List TRead) : Option Bool :=
 bd (slices_IndexFunc_api_Read fu s) fun r2_1 =>
 some (decide (r2_1 ≥ 0))
theorem slices_ContainsFunc_api_Read.meets (fu : Nat) (s : List TRead) (z0 : Bool) (h : slices_ContainsFunc_api_Read fu s = some z0) : Meets Try.prog ⟨36, [sS 4 TRead.en s, .fn (.func 77) [] []], []⟩ ⟨bv z0, []⟩ := by
 refine kMt hmix slices_ContainsFunc_api_Read.O Try.f36 bd36 3 ?_
 unfold slices_ContainsFunc_api_Read at h
 refine kRs 3 [] [] .n ?_
 obtain ⟨r2_1, h2_2, h⟩ := bd_inv h
 refine kRs 0 [Tm 4 (bv (decide (r2_1 ≥ 0)))] [.a ⟨iv r2_1, []⟩] (.c (Asks.of (C := Meets Try.prog) (slices_IndexFunc_api_Read.meets fu s _ h2_2)) .n) ?_
 refine kRt ?_
 have h_ := some_inj h
 subst h_
 exact kFr
def bd81 : Code := (Try.f81.body).getD .skip
def txn_write.O : Nat → Nat := fun t => bif ([1, 2] : List Nat).any (Nat.beq t) then 1 else 0
def txn_write (w : TWrite) : Option Bool :=
 br (decide ((w.Val.size : Int) ≤ 16))
  (br (!w.Gone)
   (some true)
   (some (w.Val.toList == ByteArray.empty.toList)))
  (some false)
theorem txn_write.meets (w : TWrite) (z0 : Bool) (h : txn_write w = some z0) : Meets Try.prog ⟨81, [.data (TWrite.ag w)], []⟩ ⟨bv z0, []⟩ := by
 refine kMt hmix txn_write.O Try.f81 bd81 1 ?_
 unfold txn_write at h
 refine kRs 0 [Tm 1 (.ptr 1 0), Ob 1 (TWrite.ob w)] [] .n ?_
 rcases br_inv h with ⟨b2_1, h⟩ | ⟨b2_1, h⟩
 ·rcases br_inv h with ⟨b2_2, h⟩ | ⟨b2_2, h⟩
  ·refine kRs 0 [Tm 2 (bv true)] (rp 10 (.b true) []) (.r 4 b2_1 (.r 3 b2_2 (.c b2_1 (.c b2_2 (.c b2_1 .n))))) ?_
   refine kRt ?_
   have h_ := some_inj h
   subst h_
   exact kFr
  ·refine kRs 0 [Tm 2 (bv (w.Val.toList == ByteArray.empty.toList))] (rp 4 (.b true) [.b false, .b false, .b false, .b true, .b false, .b true]) (.r 4 b2_1 (.r 3 b2_2 (.c b2_1 (.c b2_2 (.c b2_1 .n))))) ?_
   refine kRt ?_
   have h_ := some_inj h
   subst h_
   exact kFr
 ·refine kRs 0 [Tm 2 (bv false)] (rp 6 (.b false) []) (.r 6 b2_1 .n) ?_
  refine kRt ?_
  have h_ := some_inj h
  subst h_
  exact kFr
def bd80 : Code := (Try.f80.body).getD .skip
def txn_May_2.O : Nat → Nat := fun t => bif ([1, 2] : List Nat).any (Nat.beq t) then 1 else 0
def txn_May_2 (w : TWrite) : Option Bool :=
 bd (txn_write w) fun r2_1 =>
 some (!r2_1)
theorem txn_May_2.meets (w : TWrite) (z0 : Bool) (h : txn_May_2 w = some z0) : Meets Try.prog ⟨80, [.data (TWrite.ag w)], []⟩ ⟨bv z0, []⟩ := by
 refine kMt hmix txn_May_2.O Try.f80 bd80 1 ?_
 unfold txn_May_2 at h
 refine kRs 0 [Tm 1 (.ptr 1 0), Ob 1 (TWrite.ob w)] [] .n ?_
 obtain ⟨r2_1, h2_2, h⟩ := bd_inv h
 refine kRs 0 [Tm 2 (bv (!r2_1))] [.a ⟨bv r2_1, []⟩] (.c (Asks.of (C := Meets Try.prog) (txn_write.meets w _ h2_2)) .n) ?_
 refine kRt ?_
 have h_ := some_inj h
 subst h_
 exact kFr
def bd94 : Code := (Try.f94.body).getD .skip
def slices_IndexFunc_api_Write.O : Nat → Nat := fun t => bif ([4, 5] : List Nat).any (Nat.beq t) then 1 else 0
def slices_IndexFunc_api_Write.lp3 (fu : Nat) (l3_0 : List TWrite) (l3_1 : Int) : Nat → Int → Option (Unit ⊕ Int)
  | 0, _ => none
  | n_ + 1, l3_2 =>
  br (decide (l3_2 < l3_1))
   (ix l3_0 l3_2 fun x7_1 =>
   bd (txn_May_2 x7_1) fun r7_4 =>
   br r7_4
    (some (.inr l3_2))
    (slices_IndexFunc_api_Write.lp3 fu l3_0 l3_1 n_ (w64 (l3_2 + 1))))
   (some (.inl ()))
def slices_IndexFunc_api_Write.lp3_post (l3_0 : List TWrite) (l3_1 : Int) (r_ : (Unit ⊕ Int)) : Wy → St → Prop := fun e τ => match r_ with
  | .inl _ => e = .exit 0 ∧ τ = ofL []
  | .inr y0 => e = .ret ∧ τ = ofL [Tm 4 (iv y0)]
theorem slices_IndexFunc_api_Write.lp3_ok (fu : Nat) (l3_0 : List TWrite) (l3_1 : Int) : ∀ (n_ : Nat) (l3_2 : Int) (r_ : (Unit ⊕ Int)), slices_IndexFunc_api_Write.lp3 fu l3_0 l3_1 n_ l3_2 = some r_ → WK Try.prog slices_IndexFunc_api_Write.O (Ck Try.prog) (cB (cR (cL (cR bd94)))) [] (ofL [Tm 0 (sS 3 TWrite.en l3_0), Tm 1 (.fn (.func 80) [] []), Tm 7 (iv l3_1), Tm 8 (iv l3_2)]) (slices_IndexFunc_api_Write.lp3_post l3_0 l3_1 r_) := by
 intro n_
 induction n_ with
 | zero => intro l3_2 r_ h; exact no_none h
 | succ n_ ih =>
  intro l3_2 r_ h
  refine kLp ?_
  refine kRs 15 [Tm 9 (bv (decide (l3_2 < l3_1)))] [] .n ?_
  refine kSq ?_
  rcases br_inv h with ⟨b5_0, h⟩ | ⟨b5_0, h⟩
  ·refine kCt b5_0 ?_
   refine kSk ?_
   refine kCd (cR (cR (cB (cB (cR (cL (cR bd94))))))) [.lp (cB (cR (cL (cR bd94))))] ?_
   refine kSq ?_
   refine kBk 1 ?_
   refine kRs 30 [Tm 5 (iv l3_2)] [] .n ?_
   obtain ⟨x7_1, a7_2, e7_3, h⟩ := ix_inv h
   obtain ⟨r7_4, h7_5, h⟩ := bd_inv h
   refine kRs 31 [Tm 16 (bv r7_4)] [.c (TWrite.en x7_1), .a ⟨bv r7_4, []⟩] (.c (c_ix (e := TWrite.en) a7_2 e7_3) (.c (c_el (e := TWrite.en) e7_3) (.c (Asks.of (C := Meets Try.prog) (txn_May_2.meets x7_1 _ h7_5)) .n))) ?_
   rcases br_inv h with ⟨b8_0, h⟩ | ⟨b8_0, h⟩
   ·refine kCt b8_0 ?_
    refine kRs 0 [Tm 4 (iv l3_2)] [] .n ?_
    cases some_inj h
    refine kWo ?_
    refine kRt ?_
    exact kOut
   ·refine kCe b8_0 ?_
    refine kSk ?_
    refine kCd (cR (cR (cR (cB (cB (cR (cL (cR bd94)))))))) [.lp (cB (cR (cL (cR bd94))))] ?_
    refine kRc 28 [Tm 8 (iv (w64 (l3_2 + 1)))] [] .n (cB (cR (cL (cR bd94)))) [] ?_
    exact kWk (ih (w64 (l3_2 + 1)) _ h)
  ·refine kCe b5_0 ?_
   cases some_inj h
   refine kWo ?_
   refine kXt 0 ?_
   exact kOut
def slices_IndexFunc_api_Write (fu : Nat) (s : List TWrite) : Option Int :=
 bd (slices_IndexFunc_api_Write.lp3 fu s (s.length : Int) fu 0) fun o_ => (match o_ with
 | .inl _ =>
  some (-1)
 | .inr y11_0 =>
  some y11_0)
theorem slices_IndexFunc_api_Write.meets (fu : Nat) (s : List TWrite) (z0 : Int) (h : slices_IndexFunc_api_Write fu s = some z0) : Meets Try.prog ⟨94, [sS 3 TWrite.en s, .fn (.func 80) [] []], []⟩ ⟨iv z0, []⟩ := by
 refine kMt hmix slices_IndexFunc_api_Write.O Try.f94 bd94 3 ?_
 unfold slices_IndexFunc_api_Write at h
 refine kRs 3 [] [] .n ?_
 refine kSq ?_
 refine kRs 3 [Tm 7 (iv (s.length : Int)), Tm 8 (iv 0)] [.s (.t 7) [iv (s.length : Int)]] (.c (c_len (e := TWrite.en) (l := s)) .n) ?_
 refine kBk 0 ?_
 obtain ⟨o11, ho11, h⟩ := bd_inv h
 refine kUs (slices_IndexFunc_api_Write.lp3_ok fu s (s.length : Int) _ 0 _ ho11) ?_
 intro e_ τ_ hp_
 rcases o11 with o11 | o11
 ·obtain ⟨⟩ := o11
  obtain ⟨rfl, rfl⟩ := hp_
  refine kCd (cR (cR bd94)) [] ?_
  refine kRs 0 [Tm 4 (iv (-1))] [] .n ?_
  refine kRt ?_
  have h_ := some_inj h
  subst h_
  exact kFr
 ·obtain ⟨y11_0, rfl⟩ : ∃ y, y = o11 := ⟨_, rfl⟩
  obtain ⟨rfl, rfl⟩ := hp_
  have h_ := some_inj h
  subst h_
  exact kFr
def bd79 : Code := (Try.f79.body).getD .skip
def slices_ContainsFunc_api_Write.O : Nat → Nat := fun t => bif ([4] : List Nat).any (Nat.beq t) then 1 else 0
def slices_ContainsFunc_api_Write (fu : Nat) (s : List TWrite) : Option Bool :=
 bd (slices_IndexFunc_api_Write fu s) fun r2_1 =>
 some (decide (r2_1 ≥ 0))
theorem slices_ContainsFunc_api_Write.meets (fu : Nat) (s : List TWrite) (z0 : Bool) (h : slices_ContainsFunc_api_Write fu s = some z0) : Meets Try.prog ⟨79, [sS 3 TWrite.en s, .fn (.func 80) [] []], []⟩ ⟨bv z0, []⟩ := by
 refine kMt hmix slices_ContainsFunc_api_Write.O Try.f79 bd79 3 ?_
 unfold slices_ContainsFunc_api_Write at h
 refine kRs 3 [] [] .n ?_
 obtain ⟨r2_1, h2_2, h⟩ := bd_inv h
 refine kRs 0 [Tm 4 (bv (decide (r2_1 ≥ 0)))] [.a ⟨iv r2_1, []⟩] (.c (Asks.of (C := Meets Try.prog) (slices_IndexFunc_api_Write.meets fu s _ h2_2)) .n) ?_
 refine kRt ?_
 have h_ := some_inj h
 subst h_
 exact kFr
def bd34 : Code := (Try.f34.body).getD .skip
def txn_May.O : Nat → Nat := fun t => bif ([1, 2, 3, 4] : List Nat).any (Nat.beq t) then 1 else 0
def txn_May (fu : Nat) (t : TTxn) : Option Bool :=
 bd (txn_keys fu t) fun (r2_1, r2_2) =>
 br (decide (t.Session ≥ 1))
  (br (decide (t.Session ≤ 9))
   (br (decide (t.Seq ≥ 1))
    (br (decide (t.Seq ≤ 1000))
     (br (decide ((r2_1.length : Int) ≤ 6))
      (bd (key_Rising fu r2_1) fun r3_6 =>
      br r3_6
       (br (decide ((r2_2.length : Int) ≤ 4))
        (bd (key_Rising fu r2_2) fun r3_10 =>
        br r3_10
         (bd (slices_ContainsFunc_api_Read fu t.Reads) fun r3_13 =>
         br (!r3_13)
          (bd (slices_ContainsFunc_api_Write fu t.Writes) fun r3_16 =>
          some (!r3_16))
          (some false))
         (some false))
        (some false))
       (some false))
      (some false))
     (some false))
    (some false))
   (some false))
  (some false)
theorem txn_May.meets (fu : Nat) (t : TTxn) (z0 : Bool) (h : txn_May fu t = some z0) : Meets Try.prog ⟨34, [.data (TTxn.ag t)], []⟩ ⟨bv z0, []⟩ := by
 refine kMt hmix txn_May.O Try.f34 bd34 1 ?_
 unfold txn_May at h
 refine kRs 0 [Tm 1 (.ptr 1 0), Ob 1 (TTxn.ob t)] [] .n ?_
 obtain ⟨⟨r2_1, r2_2⟩, h2_3, h⟩ := bd_inv h
 refine kRs 3 [Tm 3 (sS 1 e_s r2_1), Tm 4 (sS 1 e_s r2_2)] [.a ⟨.tup [sS 1 e_s r2_1, sS 1 e_s r2_2], []⟩] (.c (Asks.of (C := Meets Try.prog) (txn_keys.meets fu t _ _ h2_3)) .n) ?_
 rcases br_inv h with ⟨b3_1, h⟩ | ⟨b3_1, h⟩
 ·rcases br_inv h with ⟨b3_2, h⟩ | ⟨b3_2, h⟩
  ·rcases br_inv h with ⟨b3_3, h⟩ | ⟨b3_3, h⟩
   ·rcases br_inv h with ⟨b3_4, h⟩ | ⟨b3_4, h⟩
    ·rcases br_inv h with ⟨b3_5, h⟩ | ⟨b3_5, h⟩
     ·obtain ⟨r3_6, h3_7, h⟩ := bd_inv h
      rcases br_inv h with ⟨b3_8, h⟩ | ⟨b3_8, h⟩
      ·rcases br_inv h with ⟨b3_9, h⟩ | ⟨b3_9, h⟩
       ·obtain ⟨r3_10, h3_11, h⟩ := bd_inv h
        rcases br_inv h with ⟨b3_12, h⟩ | ⟨b3_12, h⟩
        ·obtain ⟨r3_13, h3_14, h⟩ := bd_inv h
         rcases br_inv h with ⟨b3_15, h⟩ | ⟨b3_15, h⟩
         ·obtain ⟨r3_16, h3_17, h⟩ := bd_inv h
          refine kRs 0 [Tm 2 (bv (!r3_16))] (rp 14 (.b true) (.s (.t 30) [iv (r2_1.length : Int)] :: (rp 4 (.b true) (.a ⟨bv r3_6, []⟩ :: (.b true :: (.b true :: (.b true :: (.s (.t 39) [iv (r2_2.length : Int)] :: (rp 4 (.b true) (.a ⟨bv r3_10, []⟩ :: (rp 4 (.b true) (.a ⟨bv r3_13, []⟩ :: (rp 5 (.b true) [.a ⟨bv r3_16, []⟩, .b true, .b true]))))))))))))) (.r 4 b3_1 (.r 4 b3_2 (.r 4 b3_3 (.r 2 b3_4 (.c (c_len (e := e_s) (l := r2_1)) (.r 2 b3_4 (.r 2 b3_5 (.c (Asks.of (C := Meets Try.prog) (key_Rising.meets fu r2_1 _ h3_7)) (.c b3_5 (.r 2 b3_8 (.c (c_len (e := e_s) (l := r2_2)) (.r 2 b3_8 (.r 2 b3_9 (.c (Asks.of (C := Meets Try.prog) (key_Rising.meets fu r2_2 _ h3_11)) (.c b3_9 (.r 3 b3_12 (.c (Asks.of (C := Meets Try.prog) (slices_ContainsFunc_api_Read.meets fu t.Reads _ h3_14)) (.r 2 b3_12 (.r 3 b3_15 (.c (Asks.of (C := Meets Try.prog) (slices_ContainsFunc_api_Write.meets fu t.Writes _ h3_17)) (.r 2 b3_15 .n))))))))))))))))))))) ?_
          refine kRt ?_
          have h_ := some_inj h
          subst h_
          exact kFr
         ·refine kRs 0 [Tm 2 (bv false)] (rp 14 (.b true) (.s (.t 30) [iv (r2_1.length : Int)] :: (rp 4 (.b true) (.a ⟨bv r3_6, []⟩ :: (.b true :: (.b true :: (.b true :: (.s (.t 39) [iv (r2_2.length : Int)] :: (rp 4 (.b true) (.a ⟨bv r3_10, []⟩ :: (rp 4 (.b true) (.a ⟨bv r3_13, []⟩ :: (.b true :: (.b true :: (rp 5 (.b false) []))))))))))))))) (.r 4 b3_1 (.r 4 b3_2 (.r 4 b3_3 (.r 2 b3_4 (.c (c_len (e := e_s) (l := r2_1)) (.r 2 b3_4 (.r 2 b3_5 (.c (Asks.of (C := Meets Try.prog) (key_Rising.meets fu r2_1 _ h3_7)) (.c b3_5 (.r 2 b3_8 (.c (c_len (e := e_s) (l := r2_2)) (.r 2 b3_8 (.r 2 b3_9 (.c (Asks.of (C := Meets Try.prog) (key_Rising.meets fu r2_2 _ h3_11)) (.c b3_9 (.r 3 b3_12 (.c (Asks.of (C := Meets Try.prog) (slices_ContainsFunc_api_Read.meets fu t.Reads _ h3_14)) (.r 2 b3_12 (.r 5 b3_15 .n))))))))))))))))))) ?_
          refine kRt ?_
          have h_ := some_inj h
          subst h_
          exact kFr
        ·refine kRs 0 [Tm 2 (bv false)] (rp 14 (.b true) (.s (.t 30) [iv (r2_1.length : Int)] :: (rp 4 (.b true) (.a ⟨bv r3_6, []⟩ :: (.b true :: (.b true :: (.b true :: (.s (.t 39) [iv (r2_2.length : Int)] :: (rp 4 (.b true) (.a ⟨bv r3_10, []⟩ :: (.b true :: (rp 10 (.b false) [])))))))))))) (.r 4 b3_1 (.r 4 b3_2 (.r 4 b3_3 (.r 2 b3_4 (.c (c_len (e := e_s) (l := r2_1)) (.r 2 b3_4 (.r 2 b3_5 (.c (Asks.of (C := Meets Try.prog) (key_Rising.meets fu r2_1 _ h3_7)) (.c b3_5 (.r 2 b3_8 (.c (c_len (e := e_s) (l := r2_2)) (.r 2 b3_8 (.r 2 b3_9 (.c (Asks.of (C := Meets Try.prog) (key_Rising.meets fu r2_2 _ h3_11)) (.c b3_9 (.r 5 b3_12 (.r 5 rF .n))))))))))))))))) ?_
         refine kRt ?_
         have h_ := some_inj h
         subst h_
         exact kFr
       ·refine kRs 0 [Tm 2 (bv false)] (rp 14 (.b true) (.s (.t 30) [iv (r2_1.length : Int)] :: (rp 4 (.b true) (.a ⟨bv r3_6, []⟩ :: (.b true :: (.b true :: (.b true :: (.s (.t 39) [iv (r2_2.length : Int)] :: (.b true :: (.b true :: (rp 13 (.b false) []))))))))))) (.r 4 b3_1 (.r 4 b3_2 (.r 4 b3_3 (.r 2 b3_4 (.c (c_len (e := e_s) (l := r2_1)) (.r 2 b3_4 (.r 2 b3_5 (.c (Asks.of (C := Meets Try.prog) (key_Rising.meets fu r2_1 _ h3_7)) (.c b3_5 (.r 2 b3_8 (.c (c_len (e := e_s) (l := r2_2)) (.r 2 b3_8 (.r 3 b3_9 (.r 10 rF .n)))))))))))))) ?_
        refine kRt ?_
        have h_ := some_inj h
        subst h_
        exact kFr
      ·refine kRs 0 [Tm 2 (bv false)] (rp 14 (.b true) (.s (.t 30) [iv (r2_1.length : Int)] :: (rp 4 (.b true) (.a ⟨bv r3_6, []⟩ :: (.b true :: (rp 17 (.b false) [])))))) (.r 4 b3_1 (.r 4 b3_2 (.r 4 b3_3 (.r 2 b3_4 (.c (c_len (e := e_s) (l := r2_1)) (.r 2 b3_4 (.r 2 b3_5 (.c (Asks.of (C := Meets Try.prog) (key_Rising.meets fu r2_1 _ h3_7)) (.c b3_5 (.r 4 b3_8 (.r 13 rF .n))))))))))) ?_
       refine kRt ?_
       have h_ := some_inj h
       subst h_
       exact kFr
     ·refine kRs 0 [Tm 2 (bv false)] (rp 14 (.b true) (.s (.t 30) [iv (r2_1.length : Int)] :: (.b true :: (.b true :: (rp 20 (.b false) []))))) (.r 4 b3_1 (.r 4 b3_2 (.r 4 b3_3 (.r 2 b3_4 (.c (c_len (e := e_s) (l := r2_1)) (.r 2 b3_4 (.r 3 b3_5 (.r 17 rF .n)))))))) ?_
      refine kRt ?_
      have h_ := some_inj h
      subst h_
      exact kFr
    ·refine kRs 0 [Tm 2 (bv false)] (rp 12 (.b true) (rp 24 (.b false) [])) (.r 4 b3_1 (.r 4 b3_2 (.r 4 b3_3 (.r 4 b3_4 (.r 20 rF .n))))) ?_
     refine kRt ?_
     have h_ := some_inj h
     subst h_
     exact kFr
   ·refine kRs 0 [Tm 2 (bv false)] (rp 8 (.b true) (rp 28 (.b false) [])) (.r 4 b3_1 (.r 4 b3_2 (.r 4 b3_3 (.r 24 rF .n)))) ?_
    refine kRt ?_
    have h_ := some_inj h
    subst h_
    exact kFr
  ·refine kRs 0 [Tm 2 (bv false)] (rp 4 (.b true) (rp 32 (.b false) [])) (.r 4 b3_1 (.r 4 b3_2 (.r 28 rF .n))) ?_
   refine kRt ?_
   have h_ := some_inj h
   subst h_
   exact kFr
 ·refine kRs 0 [Tm 2 (bv false)] (rp 36 (.b false) []) (.r 4 b3_1 (.r 32 rF .n)) ?_
  refine kRt ?_
  have h_ := some_inj h
  subst h_
  exact kFr
def bd33 : Code := (Try.f33.body).getD .skip
def msg_entry.O : Nat → Nat := fun t => bif ([1, 2, 7] : List Nat).any (Nat.beq t) then 1 else 0
def msg_entry (fu : Nat) (e_v : TEntry) : Option Bool :=
 br e_v.Seal
  (jn (fun (j5_0 : Bool) =>
   some j5_0) fun k5 =>
  bd (txn_Same fu e_v.T (TTxn.mk 0 0 [] [])) fun r4_1 =>
  br r4_1
   (br (decide (e_v.Term ≥ 0))
    (k5 (decide (e_v.Term ≤ 1099511627776)))
    (k5 false))
   (k5 false))
  (bd (txn_May fu e_v.T) fun r6_1 =>
  br r6_1
   (br (decide (e_v.Term ≥ 0))
    (some (decide (e_v.Term ≤ 1099511627776)))
    (some false))
   (some false))
theorem msg_entry.meets (fu : Nat) (e_v : TEntry) (z0 : Bool) (h : msg_entry fu e_v = some z0) : Meets Try.prog ⟨33, [.data (TEntry.ag e_v)], []⟩ ⟨bv z0, []⟩ := by
 refine kMt hmix msg_entry.O Try.f33 bd33 1 ?_
 unfold msg_entry at h
 refine kRs 0 [Tm 1 (.ptr 1 0), Ob 1 (TEntry.ob e_v)] [] .n ?_
 refine kSq ?_
 refine kRs 3 [Tm 4 (bv e_v.Seal)] [] .n ?_
 rcases br_inv h with ⟨b3_0, h⟩ | ⟨b3_0, h⟩
 ·refine kCt b3_0 ?_
  obtain ⟨k5, hk5, h⟩ := jn_inv h
  have Jk5 : ∀ (j5_0 : Bool), k5 j5_0 = some z0 → WK Try.prog msg_entry.O (Ck Try.prog) (cR (cT (cR (cL (cR bd33))))) [.seq (cR (cR bd33))] (ofL [Tm 2 (bv j5_0)]) (Fin Try.prog msg_entry.O Try.f33 0 ⟨bv z0, []⟩) := by
   intro j5_0 h
   rw [hk5] at h
   refine kRt ?_
   have h_ := some_inj h
   subst h_
   exact kFr
  clear hk5
  obtain ⟨r4_1, h4_2, h⟩ := bd_inv h
  rcases br_inv h with ⟨b4_3, h⟩ | ⟨b4_3, h⟩
  ·rcases br_inv h with ⟨b4_4, h⟩ | ⟨b4_4, h⟩
   ·refine kRs 0 [Tm 2 (bv (decide (e_v.Term ≤ 1099511627776)))] (.a ⟨bv r4_1, []⟩ :: (rp 8 (.b true) [])) (.c (Asks.of (C := Meets Try.prog) (txn_Same.meets fu e_v.T (TTxn.mk 0 0 [] []) _ h4_2)) (.r 4 b4_3 (.r 4 b4_4 .n))) ?_
    exact kWk (Jk5 (decide (e_v.Term ≤ 1099511627776)) h)
   ·refine kRs 0 [Tm 2 (bv false)] (.a ⟨bv r4_1, []⟩ :: (rp 4 (.b true) (rp 4 (.b false) []))) (.c (Asks.of (C := Meets Try.prog) (txn_Same.meets fu e_v.T (TTxn.mk 0 0 [] []) _ h4_2)) (.r 4 b4_3 (.r 4 b4_4 .n))) ?_
    exact kWk (Jk5 false h)
  ·refine kRs 0 [Tm 2 (bv false)] (.a ⟨bv r4_1, []⟩ :: (rp 8 (.b false) [])) (.c (Asks.of (C := Meets Try.prog) (txn_Same.meets fu e_v.T (TTxn.mk 0 0 [] []) _ h4_2)) (.r 4 b4_3 (.r 4 rF .n))) ?_
   exact kWk (Jk5 false h)
 ·refine kCe b3_0 ?_
  refine kSk ?_
  refine kCd (cR (cR bd33)) [] ?_
  obtain ⟨r6_1, h6_2, h⟩ := bd_inv h
  rcases br_inv h with ⟨b6_3, h⟩ | ⟨b6_3, h⟩
  ·rcases br_inv h with ⟨b6_4, h⟩ | ⟨b6_4, h⟩
   ·refine kRs 0 [Tm 2 (bv (decide (e_v.Term ≤ 1099511627776)))] (.a ⟨bv r6_1, []⟩ :: (rp 8 (.b true) [])) (.c (Asks.of (C := Meets Try.prog) (txn_May.meets fu e_v.T _ h6_2)) (.r 4 b6_3 (.r 4 b6_4 .n))) ?_
    refine kRt ?_
    have h_ := some_inj h
    subst h_
    exact kFr
   ·refine kRs 0 [Tm 2 (bv false)] (.a ⟨bv r6_1, []⟩ :: (rp 4 (.b true) (rp 4 (.b false) []))) (.c (Asks.of (C := Meets Try.prog) (txn_May.meets fu e_v.T _ h6_2)) (.r 4 b6_3 (.r 4 b6_4 .n))) ?_
    refine kRt ?_
    have h_ := some_inj h
    subst h_
    exact kFr
  ·refine kRs 0 [Tm 2 (bv false)] (.a ⟨bv r6_1, []⟩ :: (rp 8 (.b false) [])) (.c (Asks.of (C := Meets Try.prog) (txn_May.meets fu e_v.T _ h6_2)) (.r 4 b6_3 (.r 4 rF .n))) ?_
   refine kRt ?_
   have h_ := some_inj h
   subst h_
   exact kFr
def bd32 : Code := (Try.f32.body).getD .skip
def msg_May_2.O : Nat → Nat := fun t => bif ([1, 2] : List Nat).any (Nat.beq t) then 1 else 0
def msg_May_2 (fu : Nat) (e_v : TEntry) : Option Bool :=
 bd (msg_entry fu e_v) fun r2_1 =>
 some (!r2_1)
theorem msg_May_2.meets (fu : Nat) (e_v : TEntry) (z0 : Bool) (h : msg_May_2 fu e_v = some z0) : Meets Try.prog ⟨32, [.data (TEntry.ag e_v)], []⟩ ⟨bv z0, []⟩ := by
 refine kMt hmix msg_May_2.O Try.f32 bd32 1 ?_
 unfold msg_May_2 at h
 refine kRs 0 [Tm 1 (.ptr 1 0), Ob 1 (TEntry.ob e_v)] [] .n ?_
 obtain ⟨r2_1, h2_2, h⟩ := bd_inv h
 refine kRs 0 [Tm 2 (bv (!r2_1))] [.a ⟨bv r2_1, []⟩] (.c (Asks.of (C := Meets Try.prog) (msg_entry.meets fu e_v _ h2_2)) .n) ?_
 refine kRt ?_
 have h_ := some_inj h
 subst h_
 exact kFr
def bd75 : Code := (Try.f75.body).getD .skip
def slices_IndexFunc_api_Entry.O : Nat → Nat := fun t => bif ([4, 5] : List Nat).any (Nat.beq t) then 1 else 0
def slices_IndexFunc_api_Entry.lp3 (fu : Nat) (l3_0 : List TEntry) (l3_1 : Int) : Nat → Int → Option (Unit ⊕ Int)
  | 0, _ => none
  | n_ + 1, l3_2 =>
  br (decide (l3_2 < l3_1))
   (ix l3_0 l3_2 fun x7_1 =>
   bd (msg_May_2 fu x7_1) fun r7_4 =>
   br r7_4
    (some (.inr l3_2))
    (slices_IndexFunc_api_Entry.lp3 fu l3_0 l3_1 n_ (w64 (l3_2 + 1))))
   (some (.inl ()))
def slices_IndexFunc_api_Entry.lp3_post (l3_0 : List TEntry) (l3_1 : Int) (r_ : (Unit ⊕ Int)) : Wy → St → Prop := fun e τ => match r_ with
  | .inl _ => e = .exit 0 ∧ τ = ofL []
  | .inr y0 => e = .ret ∧ τ = ofL [Tm 4 (iv y0)]
theorem slices_IndexFunc_api_Entry.lp3_ok (fu : Nat) (l3_0 : List TEntry) (l3_1 : Int) : ∀ (n_ : Nat) (l3_2 : Int) (r_ : (Unit ⊕ Int)), slices_IndexFunc_api_Entry.lp3 fu l3_0 l3_1 n_ l3_2 = some r_ → WK Try.prog slices_IndexFunc_api_Entry.O (Ck Try.prog) (cB (cR (cL (cR bd75)))) [] (ofL [Tm 0 (sS 6 TEntry.en l3_0), Tm 1 (.fn (.func 32) [] []), Tm 7 (iv l3_1), Tm 8 (iv l3_2)]) (slices_IndexFunc_api_Entry.lp3_post l3_0 l3_1 r_) := by
 intro n_
 induction n_ with
 | zero => intro l3_2 r_ h; exact no_none h
 | succ n_ ih =>
  intro l3_2 r_ h
  refine kLp ?_
  refine kRs 15 [Tm 9 (bv (decide (l3_2 < l3_1)))] [] .n ?_
  refine kSq ?_
  rcases br_inv h with ⟨b5_0, h⟩ | ⟨b5_0, h⟩
  ·refine kCt b5_0 ?_
   refine kSk ?_
   refine kCd (cR (cR (cB (cB (cR (cL (cR bd75))))))) [.lp (cB (cR (cL (cR bd75))))] ?_
   refine kSq ?_
   refine kBk 1 ?_
   refine kRs 30 [Tm 5 (iv l3_2)] [] .n ?_
   obtain ⟨x7_1, a7_2, e7_3, h⟩ := ix_inv h
   obtain ⟨r7_4, h7_5, h⟩ := bd_inv h
   refine kRs 31 [Tm 16 (bv r7_4)] [.c (TEntry.en x7_1), .a ⟨bv r7_4, []⟩] (.c (c_ix (e := TEntry.en) a7_2 e7_3) (.c (c_el (e := TEntry.en) e7_3) (.c (Asks.of (C := Meets Try.prog) (msg_May_2.meets fu x7_1 _ h7_5)) .n))) ?_
   rcases br_inv h with ⟨b8_0, h⟩ | ⟨b8_0, h⟩
   ·refine kCt b8_0 ?_
    refine kRs 0 [Tm 4 (iv l3_2)] [] .n ?_
    cases some_inj h
    refine kWo ?_
    refine kRt ?_
    exact kOut
   ·refine kCe b8_0 ?_
    refine kSk ?_
    refine kCd (cR (cR (cR (cB (cB (cR (cL (cR bd75)))))))) [.lp (cB (cR (cL (cR bd75))))] ?_
    refine kRc 28 [Tm 8 (iv (w64 (l3_2 + 1)))] [] .n (cB (cR (cL (cR bd75)))) [] ?_
    exact kWk (ih (w64 (l3_2 + 1)) _ h)
  ·refine kCe b5_0 ?_
   cases some_inj h
   refine kWo ?_
   refine kXt 0 ?_
   exact kOut
def slices_IndexFunc_api_Entry (fu : Nat) (s : List TEntry) : Option Int :=
 bd (slices_IndexFunc_api_Entry.lp3 fu s (s.length : Int) fu 0) fun o_ => (match o_ with
 | .inl _ =>
  some (-1)
 | .inr y11_0 =>
  some y11_0)
theorem slices_IndexFunc_api_Entry.meets (fu : Nat) (s : List TEntry) (z0 : Int) (h : slices_IndexFunc_api_Entry fu s = some z0) : Meets Try.prog ⟨75, [sS 6 TEntry.en s, .fn (.func 32) [] []], []⟩ ⟨iv z0, []⟩ := by
 refine kMt hmix slices_IndexFunc_api_Entry.O Try.f75 bd75 3 ?_
 unfold slices_IndexFunc_api_Entry at h
 refine kRs 3 [] [] .n ?_
 refine kSq ?_
 refine kRs 3 [Tm 7 (iv (s.length : Int)), Tm 8 (iv 0)] [.s (.t 7) [iv (s.length : Int)]] (.c (c_len (e := TEntry.en) (l := s)) .n) ?_
 refine kBk 0 ?_
 obtain ⟨o11, ho11, h⟩ := bd_inv h
 refine kUs (slices_IndexFunc_api_Entry.lp3_ok fu s (s.length : Int) _ 0 _ ho11) ?_
 intro e_ τ_ hp_
 rcases o11 with o11 | o11
 ·obtain ⟨⟩ := o11
  obtain ⟨rfl, rfl⟩ := hp_
  refine kCd (cR (cR bd75)) [] ?_
  refine kRs 0 [Tm 4 (iv (-1))] [] .n ?_
  refine kRt ?_
  have h_ := some_inj h
  subst h_
  exact kFr
 ·obtain ⟨y11_0, rfl⟩ : ∃ y, y = o11 := ⟨_, rfl⟩
  obtain ⟨rfl, rfl⟩ := hp_
  have h_ := some_inj h
  subst h_
  exact kFr
def bd31 : Code := (Try.f31.body).getD .skip
def slices_ContainsFunc_api_Entry.O : Nat → Nat := fun t => bif ([4] : List Nat).any (Nat.beq t) then 1 else 0
def slices_ContainsFunc_api_Entry (fu : Nat) (s : List TEntry) : Option Bool :=
 bd (slices_IndexFunc_api_Entry fu s) fun r2_1 =>
 some (decide (r2_1 ≥ 0))
theorem slices_ContainsFunc_api_Entry.meets (fu : Nat) (s : List TEntry) (z0 : Bool) (h : slices_ContainsFunc_api_Entry fu s = some z0) : Meets Try.prog ⟨31, [sS 6 TEntry.en s, .fn (.func 32) [] []], []⟩ ⟨bv z0, []⟩ := by
 refine kMt hmix slices_ContainsFunc_api_Entry.O Try.f31 bd31 3 ?_
 unfold slices_ContainsFunc_api_Entry at h
 refine kRs 3 [] [] .n ?_
 obtain ⟨r2_1, h2_2, h⟩ := bd_inv h
 refine kRs 0 [Tm 4 (bv (decide (r2_1 ≥ 0)))] [.a ⟨iv r2_1, []⟩] (.c (Asks.of (C := Meets Try.prog) (slices_IndexFunc_api_Entry.meets fu s _ h2_2)) .n) ?_
 refine kRt ?_
 have h_ := some_inj h
 subst h_
 exact kFr
def bd38 : Code := (Try.f38.body).getD .skip
def msg_read.O : Nat → Nat := fun t => bif ([1, 2] : List Nat).any (Nat.beq t) then 1 else 0
def msg_read (r_v : TRead) : Option Bool :=
 br (decide (r_v.Version ≥ 0))
  (br (decide (r_v.Version ≤ 1099511627776))
   (some (decide ((r_v.Val.size : Int) ≤ 16)))
   (some false))
  (some false)
theorem msg_read.meets (r_v : TRead) (z0 : Bool) (h : msg_read r_v = some z0) : Meets Try.prog ⟨38, [.data (TRead.ag r_v)], []⟩ ⟨bv z0, []⟩ := by
 refine kMt hmix msg_read.O Try.f38 bd38 1 ?_
 unfold msg_read at h
 refine kRs 0 [Tm 1 (.ptr 1 0), Ob 1 (TRead.ob r_v)] [] .n ?_
 rcases br_inv h with ⟨b2_1, h⟩ | ⟨b2_1, h⟩
 ·rcases br_inv h with ⟨b2_2, h⟩ | ⟨b2_2, h⟩
  ·refine kRs 0 [Tm 2 (bv (decide ((r_v.Val.size : Int) ≤ 16)))] (rp 9 (.b true) []) (.r 4 b2_1 (.r 5 b2_2 .n)) ?_
   refine kRt ?_
   have h_ := some_inj h
   subst h_
   exact kFr
  ·refine kRs 0 [Tm 2 (bv false)] (rp 4 (.b true) (rp 5 (.b false) [])) (.r 4 b2_1 (.r 5 b2_2 .n)) ?_
   refine kRt ?_
   have h_ := some_inj h
   subst h_
   exact kFr
 ·refine kRs 0 [Tm 2 (bv false)] (rp 9 (.b false) []) (.r 4 b2_1 (.r 5 rF .n)) ?_
  refine kRt ?_
  have h_ := some_inj h
  subst h_
  exact kFr
def bd37 : Code := (Try.f37.body).getD .skip
def msg_May_3.O : Nat → Nat := fun t => bif ([1, 2] : List Nat).any (Nat.beq t) then 1 else 0
def msg_May_3 (r_v : TRead) : Option Bool :=
 bd (msg_read r_v) fun r2_1 =>
 some (!r2_1)
theorem msg_May_3.meets (r_v : TRead) (z0 : Bool) (h : msg_May_3 r_v = some z0) : Meets Try.prog ⟨37, [.data (TRead.ag r_v)], []⟩ ⟨bv z0, []⟩ := by
 refine kMt hmix msg_May_3.O Try.f37 bd37 1 ?_
 unfold msg_May_3 at h
 refine kRs 0 [Tm 1 (.ptr 1 0), Ob 1 (TRead.ob r_v)] [] .n ?_
 obtain ⟨r2_1, h2_2, h⟩ := bd_inv h
 refine kRs 0 [Tm 2 (bv (!r2_1))] [.a ⟨bv r2_1, []⟩] (.c (Asks.of (C := Meets Try.prog) (msg_read.meets r_v _ h2_2)) .n) ?_
 refine kRt ?_
 have h_ := some_inj h
 subst h_
 exact kFr
def slices_IndexFunc_api_Read_2.O : Nat → Nat := fun t => bif ([4, 5] : List Nat).any (Nat.beq t) then 1 else 0
def slices_IndexFunc_api_Read_2.lp3 (fu : Nat) (l3_0 : List TRead) (l3_1 : Int) : Nat → Int → Option (Unit ⊕ Int)
  | 0, _ => none
  | n_ + 1, l3_2 =>
  br (decide (l3_2 < l3_1))
   (ix l3_0 l3_2 fun x7_1 =>
   bd (msg_May_3 x7_1) fun r7_4 =>
   br r7_4
    (some (.inr l3_2))
    (slices_IndexFunc_api_Read_2.lp3 fu l3_0 l3_1 n_ (w64 (l3_2 + 1))))
   (some (.inl ()))
def slices_IndexFunc_api_Read_2.lp3_post (l3_0 : List TRead) (l3_1 : Int) (r_ : (Unit ⊕ Int)) : Wy → St → Prop := fun e τ => match r_ with
  | .inl _ => e = .exit 0 ∧ τ = ofL []
  | .inr y0 => e = .ret ∧ τ = ofL [Tm 4 (iv y0)]
theorem slices_IndexFunc_api_Read_2.lp3_ok (fu : Nat) (l3_0 : List TRead) (l3_1 : Int) : ∀ (n_ : Nat) (l3_2 : Int) (r_ : (Unit ⊕ Int)), slices_IndexFunc_api_Read_2.lp3 fu l3_0 l3_1 n_ l3_2 = some r_ → WK Try.prog slices_IndexFunc_api_Read_2.O (Ck Try.prog) (cB (cR (cL (cR bd83)))) [] (ofL [Tm 0 (sS 4 TRead.en l3_0), Tm 1 (.fn (.func 37) [] []), Tm 7 (iv l3_1), Tm 8 (iv l3_2)]) (slices_IndexFunc_api_Read_2.lp3_post l3_0 l3_1 r_) := by
 intro n_
 induction n_ with
 | zero => intro l3_2 r_ h; exact no_none h
 | succ n_ ih =>
  intro l3_2 r_ h
  refine kLp ?_
  refine kRs 15 [Tm 9 (bv (decide (l3_2 < l3_1)))] [] .n ?_
  refine kSq ?_
  rcases br_inv h with ⟨b5_0, h⟩ | ⟨b5_0, h⟩
  ·refine kCt b5_0 ?_
   refine kSk ?_
   refine kCd (cR (cR (cB (cB (cR (cL (cR bd83))))))) [.lp (cB (cR (cL (cR bd83))))] ?_
   refine kSq ?_
   refine kBk 1 ?_
   refine kRs 30 [Tm 5 (iv l3_2)] [] .n ?_
   obtain ⟨x7_1, a7_2, e7_3, h⟩ := ix_inv h
   obtain ⟨r7_4, h7_5, h⟩ := bd_inv h
   refine kRs 31 [Tm 16 (bv r7_4)] [.c (TRead.en x7_1), .a ⟨bv r7_4, []⟩] (.c (c_ix (e := TRead.en) a7_2 e7_3) (.c (c_el (e := TRead.en) e7_3) (.c (Asks.of (C := Meets Try.prog) (msg_May_3.meets x7_1 _ h7_5)) .n))) ?_
   rcases br_inv h with ⟨b8_0, h⟩ | ⟨b8_0, h⟩
   ·refine kCt b8_0 ?_
    refine kRs 0 [Tm 4 (iv l3_2)] [] .n ?_
    cases some_inj h
    refine kWo ?_
    refine kRt ?_
    exact kOut
   ·refine kCe b8_0 ?_
    refine kSk ?_
    refine kCd (cR (cR (cR (cB (cB (cR (cL (cR bd83)))))))) [.lp (cB (cR (cL (cR bd83))))] ?_
    refine kRc 28 [Tm 8 (iv (w64 (l3_2 + 1)))] [] .n (cB (cR (cL (cR bd83)))) [] ?_
    exact kWk (ih (w64 (l3_2 + 1)) _ h)
  ·refine kCe b5_0 ?_
   cases some_inj h
   refine kWo ?_
   refine kXt 0 ?_
   exact kOut
def slices_IndexFunc_api_Read_2 (fu : Nat) (s : List TRead) : Option Int :=
 bd (slices_IndexFunc_api_Read_2.lp3 fu s (s.length : Int) fu 0) fun o_ => (match o_ with
 | .inl _ =>
  some (-1)
 | .inr y11_0 =>
  some y11_0)
theorem slices_IndexFunc_api_Read_2.meets (fu : Nat) (s : List TRead) (z0 : Int) (h : slices_IndexFunc_api_Read_2 fu s = some z0) : Meets Try.prog ⟨83, [sS 4 TRead.en s, .fn (.func 37) [] []], []⟩ ⟨iv z0, []⟩ := by
 refine kMt hmix slices_IndexFunc_api_Read_2.O Try.f83 bd83 3 ?_
 unfold slices_IndexFunc_api_Read_2 at h
 refine kRs 3 [] [] .n ?_
 refine kSq ?_
 refine kRs 3 [Tm 7 (iv (s.length : Int)), Tm 8 (iv 0)] [.s (.t 7) [iv (s.length : Int)]] (.c (c_len (e := TRead.en) (l := s)) .n) ?_
 refine kBk 0 ?_
 obtain ⟨o11, ho11, h⟩ := bd_inv h
 refine kUs (slices_IndexFunc_api_Read_2.lp3_ok fu s (s.length : Int) _ 0 _ ho11) ?_
 intro e_ τ_ hp_
 rcases o11 with o11 | o11
 ·obtain ⟨⟩ := o11
  obtain ⟨rfl, rfl⟩ := hp_
  refine kCd (cR (cR bd83)) [] ?_
  refine kRs 0 [Tm 4 (iv (-1))] [] .n ?_
  refine kRt ?_
  have h_ := some_inj h
  subst h_
  exact kFr
 ·obtain ⟨y11_0, rfl⟩ : ∃ y, y = o11 := ⟨_, rfl⟩
  obtain ⟨rfl, rfl⟩ := hp_
  have h_ := some_inj h
  subst h_
  exact kFr
def slices_ContainsFunc_api_Read_2.O : Nat → Nat := fun t => bif ([4] : List Nat).any (Nat.beq t) then 1 else 0
def slices_ContainsFunc_api_Read_2 (fu : Nat) (s : List TRead) : Option Bool :=
 bd (slices_IndexFunc_api_Read_2 fu s) fun r2_1 =>
 some (decide (r2_1 ≥ 0))
theorem slices_ContainsFunc_api_Read_2.meets (fu : Nat) (s : List TRead) (z0 : Bool) (h : slices_ContainsFunc_api_Read_2 fu s = some z0) : Meets Try.prog ⟨36, [sS 4 TRead.en s, .fn (.func 37) [] []], []⟩ ⟨bv z0, []⟩ := by
 refine kMt hmix slices_ContainsFunc_api_Read_2.O Try.f36 bd36 3 ?_
 unfold slices_ContainsFunc_api_Read_2 at h
 refine kRs 3 [] [] .n ?_
 obtain ⟨r2_1, h2_2, h⟩ := bd_inv h
 refine kRs 0 [Tm 4 (bv (decide (r2_1 ≥ 0)))] [.a ⟨iv r2_1, []⟩] (.c (Asks.of (C := Meets Try.prog) (slices_IndexFunc_api_Read_2.meets fu s _ h2_2)) .n) ?_
 refine kRt ?_
 have h_ := some_inj h
 subst h_
 exact kFr
def bd11 : Code := (Try.f11.body).getD .skip
def msg_May.O : Nat → Nat := fun t => bif ([1, 2, 3, 4, 5, 7, 11, 13, 24, 27, 36, 77, 81, 91, 101] : List Nat).any (Nat.beq t) then 1 else 0
def msg_May.lp5 (fu : Nat) (l5_0 : Bool) (l5_2 : List TRead) (l5_3 : Int) (l5_5 : TMsg) (l5_6 : TMsg) : Nat → (List ByteArray) → Int → Option (List ByteArray)
  | 0, _, _ => none
  | n_ + 1, l5_1, l5_4 =>
  br (decide (l5_4 < l5_3))
   (ix l5_2 l5_4 fun x8_1 =>
   gd (decide (l5_1.length + ([x8_1.Key] : List ByteArray).length ≤ 4294967296)) <|
   msg_May.lp5 fu l5_0 l5_2 l5_3 l5_5 l5_6 n_ (l5_1 ++ ([x8_1.Key] : List ByteArray)) (w64 (l5_4 + 1)))
   (some l5_1)
def msg_May.lp5_post (l5_0 : Bool) (l5_2 : List TRead) (l5_3 : Int) (l5_5 : TMsg) (l5_6 : TMsg) (r_ : (List ByteArray)) : Wy → St → Prop := fun e τ => match r_ with
  | y0 => e = .exit 0 ∧ τ = ofL [Tm 1 (.ptr 1 0), Tm 3 (.ptr 3 0), Tm 4 (bv l5_0), Tm 5 (sO 1 e_s y0), Ob 1 (TMsg.ob l5_5), Ob 3 (TMsg.ob l5_6)]
theorem msg_May.lp5_ok (fu : Nat) (l5_0 : Bool) (l5_2 : List TRead) (l5_3 : Int) (l5_5 : TMsg) (l5_6 : TMsg) : ∀ (n_ : Nat) (l5_1 : List ByteArray) (l5_4 : Int) (r_ : (List ByteArray)), msg_May.lp5 fu l5_0 l5_2 l5_3 l5_5 l5_6 n_ l5_1 l5_4 = some r_ → WK Try.prog msg_May.O (Ck Try.prog) (cB (cR (cL (cR (cR (cR bd11)))))) [] (ofL [Tm 1 (.ptr 1 0), Tm 3 (.ptr 3 0), Tm 4 (bv l5_0), Tm 5 (sO 1 e_s l5_1), Tm 15 (sS 4 TRead.en l5_2), Tm 16 (iv l5_3), Tm 17 (iv l5_4), Ob 1 (TMsg.ob l5_5), Ob 3 (TMsg.ob l5_6)]) (msg_May.lp5_post l5_0 l5_2 l5_3 l5_5 l5_6 r_) := by
 intro n_
 induction n_ with
 | zero => intro l5_1 l5_4 r_ h; exact no_none h
 | succ n_ ih =>
  intro l5_1 l5_4 r_ h
  refine kLp ?_
  refine kRs 511 [Tm 18 (bv (decide (l5_4 < l5_3)))] [] .n ?_
  refine kSq ?_
  rcases br_inv h with ⟨b7_0, h⟩ | ⟨b7_0, h⟩
  ·refine kCt b7_0 ?_
   refine kSk ?_
   refine kCd (cR (cR (cB (cB (cR (cL (cR (cR (cR bd11))))))))) [.lp (cB (cR (cL (cR (cR (cR bd11))))))] ?_
   refine kSq ?_
   refine kBk 1 ?_
   obtain ⟨x8_1, a8_2, e8_3, h⟩ := ix_inv h
   refine kRs 1022 [Tm 7 (.ptr 7 0), Ob 7 (TRead.ob x8_1)] [.c (TRead.en x8_1)] (.c (c_ix (e := TRead.en) a8_2 e8_3) (.c (c_el (e := TRead.en) e8_3) .n)) ?_
   obtain ⟨c9_1, h⟩ := gd_inv h
   refine kRc 2012 [Tm 5 (sO 1 e_s (l5_1 ++ ([x8_1.Key] : List ByteArray)))] [.s (.t 25) [sO 1 e_s (l5_1 ++ ([x8_1.Key] : List ByteArray))]] (.c (c_al (e := e_s) (f := e_s) c9_1) (.c (congrArg (fun d : DV => [AV.data d]) (c_app (e := e_s) (s := 1) (l := l5_1) (m := ([x8_1.Key] : List ByteArray)))) .n)) (cR (cR (cR (cB (cB (cR (cL (cR (cR (cR bd11)))))))))) [.lp (cB (cR (cL (cR (cR (cR bd11))))))] ?_
   refine kRc 447 [Tm 17 (iv (w64 (l5_4 + 1)))] [] .n (cB (cR (cL (cR (cR (cR bd11)))))) [] ?_
   exact kWk (ih (l5_1 ++ ([x8_1.Key] : List ByteArray)) (w64 (l5_4 + 1)) _ h)
  ·refine kCe b7_0 ?_
   cases some_inj h
   refine kWo ?_
   refine kXt 0 ?_
   exact kOut
def msg_May (fu : Nat) (m : TMsg) : Option Bool :=
 bd (msg_named m) fun (r2_1, r2_2) =>
 bd (msg_May.lp5 fu r2_2 m.Got (m.Got.length : Int) m r2_1 fu [] 0) fun y11_0 =>
 jn (
  br (decide ((m.Got.length : Int) ≤ 64))
   (bd (key_Rising fu y11_0) fun r49_2 =>
   br r49_2
    (bd (slices_ContainsFunc_api_Read_2 fu m.Got) fun r49_5 =>
    br (!r49_5)
     (br (decide (m.Err ≥ 0))
      (some (decide (m.Err ≤ 6)))
      (some false))
     (some false))
    (some false))
   (some false)) fun k48 =>
 br (!r2_2)
  (some false)
  (bd (msg_Same fu r2_1 m) fun r12_2 =>
  br (!r12_2)
   (some false)
   (br (decide (m.From < 1))
    (some false)
    (br (decide (m.From > 5))
     (some false)
     (br (decide (m.To < 1))
      (some false)
      (br (decide (m.To > 5))
       (some false)
       (br (m.From == m.To)
        (some false)
        (br (decide (m.Part < 0))
         (some false)
         (br (decide (m.Part ≥ 3))
          (some false)
          (br (decide (m.Shard ≥ 3))
           (some false)
           (bd (msg_numbers m) fun r26_1 =>
           bd (slices_ContainsFunc_int_int fu r26_1) fun r26_3 =>
           br r26_3
            (some false)
            (br (decide ((m.Entries.length : Int) > 4))
             (some false)
             (bd (slices_ContainsFunc_api_Entry fu m.Entries) fun r29_2 =>
             br r29_2
              (some false)
              (br (m.Kind == 5)
               (bd (txn_May fu m.T) fun r33_2 =>
               br (!r33_2)
                (some false)
                (br (decide ((m.Keys.length : Int) > 6))
                 (some false)
                 (bd (key_Rising fu m.Keys) fun r36_2 =>
                 br (!r36_2)
                  (some false)
                  (br (decide ((m.FromKey.size : Int) > 8))
                   (some false)
                   (br (decide ((m.ToKey.size : Int) > 8))
                    (some false)
                    (k48))))))
               (br (decide ((m.Keys.length : Int) > 6))
                (some false)
                (bd (key_Rising fu m.Keys) fun r42_2 =>
                br (!r42_2)
                 (some false)
                 (br (decide ((m.FromKey.size : Int) > 8))
                  (some false)
                  (br (decide ((m.ToKey.size : Int) > 8))
                   (some false)
                   (k48))))))))))))))))))
theorem msg_May.meets (fu : Nat) (m : TMsg) (z0 : Bool) (h : msg_May fu m = some z0) : Meets Try.prog ⟨11, [.data (TMsg.ag m)], []⟩ ⟨bv z0, []⟩ := by
 refine kMt hmix msg_May.O Try.f11 bd11 1 ?_
 unfold msg_May at h
 refine kRs 0 [Tm 1 (.ptr 1 0), Ob 1 (TMsg.ob m)] [] .n ?_
 obtain ⟨⟨r2_1, r2_2⟩, h2_3, h⟩ := bd_inv h
 refine kRs 3 [Tm 3 (.ptr 3 0), Tm 4 (bv r2_2), Ob 3 (TMsg.ob r2_1)] [.a ⟨.tup [.data (TMsg.ag r2_1), bv r2_2], []⟩] (.c (Asks.of (C := Meets Try.prog) (msg_named.meets m _ _ h2_3)) .n) ?_
 refine kRs 31 [Tm 5 (.data (.slc true (some false) 1 (List.map e_s [])))] [] .n ?_
 refine kSq ?_
 refine kRs 63 [Tm 15 (sS 4 TRead.en m.Got), Tm 16 (iv (m.Got.length : Int)), Tm 17 (iv 0)] [.s (.t 16) [iv (m.Got.length : Int)]] (.c (c_len (e := TRead.en) (l := m.Got)) .n) ?_
 refine kBk 0 ?_
 obtain ⟨o11, ho11, h⟩ := bd_inv h
 refine kUs (msg_May.lp5_ok fu r2_2 m.Got (m.Got.length : Int) m r2_1 _ [] 0 _ ho11) ?_
 intro e_ τ_ hp_
 obtain ⟨y11_0, rfl⟩ : ∃ y, y = o11 := ⟨_, rfl⟩
 obtain ⟨rfl, rfl⟩ := hp_
 refine kCd (cR (cR (cR (cR bd11)))) [] ?_
 obtain ⟨k48, hk48, h⟩ := jn_inv h
 have Jk48 : k48 = some z0 → WK Try.prog msg_May.O (Ck Try.prog) (cR (cR (cR (cR (cR bd11))))) [] (ofL [Tm 1 (.ptr 1 0), Tm 5 (sO 1 e_s y11_0), Ob 1 (TMsg.ob m)]) (Fin Try.prog msg_May.O Try.f11 0 ⟨bv z0, []⟩) := by
  intro h
  rw [hk48] at h
  rcases br_inv h with ⟨b49_1, h⟩ | ⟨b49_1, h⟩
  ·obtain ⟨r49_2, h49_3, h⟩ := bd_inv h
   rcases br_inv h with ⟨b49_4, h⟩ | ⟨b49_4, h⟩
   ·obtain ⟨r49_5, h49_6, h⟩ := bd_inv h
    rcases br_inv h with ⟨b49_7, h⟩ | ⟨b49_7, h⟩
    ·rcases br_inv h with ⟨b49_8, h⟩ | ⟨b49_8, h⟩
     ·refine kRs 0 [Tm 2 (bv (decide (m.Err ≤ 6)))] (.s (.t 126) [iv (m.Got.length : Int)] :: (.b true :: (.b true :: (.a ⟨bv r49_2, []⟩ :: (rp 4 (.b true) (.a ⟨bv r49_5, []⟩ :: (rp 10 (.b true) []))))))) (.c (c_len (e := TRead.en) (l := m.Got)) (.r 2 b49_1 (.c (Asks.of (C := Meets Try.prog) (key_Rising.meets fu y11_0 _ h49_3)) (.c b49_1 (.r 3 b49_4 (.c (Asks.of (C := Meets Try.prog) (slices_ContainsFunc_api_Read_2.meets fu m.Got _ h49_6)) (.r 2 b49_4 (.r 4 b49_7 (.r 4 b49_8 .n))))))))) ?_
      refine kRt ?_
      have h_ := some_inj h
      subst h_
      exact kFr
     ·refine kRs 0 [Tm 2 (bv false)] (.s (.t 126) [iv (m.Got.length : Int)] :: (.b true :: (.b true :: (.a ⟨bv r49_2, []⟩ :: (rp 4 (.b true) (.a ⟨bv r49_5, []⟩ :: (rp 6 (.b true) (rp 4 (.b false) [])))))))) (.c (c_len (e := TRead.en) (l := m.Got)) (.r 2 b49_1 (.c (Asks.of (C := Meets Try.prog) (key_Rising.meets fu y11_0 _ h49_3)) (.c b49_1 (.r 3 b49_4 (.c (Asks.of (C := Meets Try.prog) (slices_ContainsFunc_api_Read_2.meets fu m.Got _ h49_6)) (.r 2 b49_4 (.r 4 b49_7 (.r 4 b49_8 .n))))))))) ?_
      refine kRt ?_
      have h_ := some_inj h
      subst h_
      exact kFr
    ·refine kRs 0 [Tm 2 (bv false)] (.s (.t 126) [iv (m.Got.length : Int)] :: (.b true :: (.b true :: (.a ⟨bv r49_2, []⟩ :: (rp 4 (.b true) (.a ⟨bv r49_5, []⟩ :: (.b true :: (.b true :: (rp 8 (.b false) []))))))))) (.c (c_len (e := TRead.en) (l := m.Got)) (.r 2 b49_1 (.c (Asks.of (C := Meets Try.prog) (key_Rising.meets fu y11_0 _ h49_3)) (.c b49_1 (.r 3 b49_4 (.c (Asks.of (C := Meets Try.prog) (slices_ContainsFunc_api_Read_2.meets fu m.Got _ h49_6)) (.r 2 b49_4 (.r 4 b49_7 (.r 4 rF .n))))))))) ?_
     refine kRt ?_
     have h_ := some_inj h
     subst h_
     exact kFr
   ·refine kRs 0 [Tm 2 (bv false)] (.s (.t 126) [iv (m.Got.length : Int)] :: (.b true :: (.b true :: (.a ⟨bv r49_2, []⟩ :: (.b true :: (rp 13 (.b false) [])))))) (.c (c_len (e := TRead.en) (l := m.Got)) (.r 2 b49_1 (.c (Asks.of (C := Meets Try.prog) (key_Rising.meets fu y11_0 _ h49_3)) (.c b49_1 (.r 5 b49_4 (.r 8 rF .n)))))) ?_
    refine kRt ?_
    have h_ := some_inj h
    subst h_
    exact kFr
  ·refine kRs 0 [Tm 2 (bv false)] (.s (.t 126) [iv (m.Got.length : Int)] :: (rp 16 (.b false) [])) (.c (c_len (e := TRead.en) (l := m.Got)) (.r 3 b49_1 (.r 13 rF .n))) ?_
   refine kRt ?_
   have h_ := some_inj h
   subst h_
   exact kFr
 clear hk48
 refine kSq ?_
 refine kBk 2 ?_
 rcases br_inv h with ⟨b12_1, h⟩ | ⟨b12_1, h⟩
 ·refine kRs 25 [Tm 27 (bv true)] (rp 5 (.b true) []) (.r 5 b12_1 .n) ?_
  refine kCt rT ?_
  refine kRs 0 [Tm 2 (bv false)] [] .n ?_
  refine kRt ?_
  have h_ := some_inj h
  subst h_
  exact kFr
 ·obtain ⟨r12_2, h12_3, h⟩ := bd_inv h
  refine kRs 25 [Tm 27 (bv (!r12_2))] [.b false, .b false, .b false, .a ⟨bv r12_2, []⟩, .b false, .b false] (.r 3 b12_1 (.c (Asks.of (C := Meets Try.prog) (msg_Same.meets fu r2_1 m _ h12_3)) (.r 2 b12_1 .n))) ?_
  rcases br_inv h with ⟨b14_0, h⟩ | ⟨b14_0, h⟩
  ·refine kCt b14_0 ?_
   refine kRs 0 [Tm 2 (bv false)] [] .n ?_
   refine kRt ?_
   have h_ := some_inj h
   subst h_
   exact kFr
  ·refine kCe b14_0 ?_
   rcases br_inv h with ⟨b16_1, h⟩ | ⟨b16_1, h⟩
   ·refine kRs 14 [Tm 36 (bv true)] (rp 30 (.b true) []) (.r 4 b16_1 (.r 26 rT .n)) ?_
    refine kCt rT ?_
    refine kRs 0 [Tm 2 (bv false)] [] .n ?_
    refine kRt ?_
    have h_ := some_inj h
    subst h_
    exact kFr
   ·rcases br_inv h with ⟨b16_2, h⟩ | ⟨b16_2, h⟩
    ·refine kRs 14 [Tm 36 (bv true)] (rp 4 (.b false) (rp 26 (.b true) [])) (.r 4 b16_1 (.r 4 b16_2 (.r 22 rT .n))) ?_
     refine kCt rT ?_
     refine kRs 0 [Tm 2 (bv false)] [] .n ?_
     refine kRt ?_
     have h_ := some_inj h
     subst h_
     exact kFr
    ·rcases br_inv h with ⟨b16_3, h⟩ | ⟨b16_3, h⟩
     ·refine kRs 14 [Tm 36 (bv true)] (rp 8 (.b false) (rp 22 (.b true) [])) (.r 4 b16_1 (.r 4 b16_2 (.r 4 b16_3 (.r 18 rT .n)))) ?_
      refine kCt rT ?_
      refine kRs 0 [Tm 2 (bv false)] [] .n ?_
      refine kRt ?_
      have h_ := some_inj h
      subst h_
      exact kFr
     ·rcases br_inv h with ⟨b16_4, h⟩ | ⟨b16_4, h⟩
      ·refine kRs 14 [Tm 36 (bv true)] (rp 12 (.b false) (rp 18 (.b true) [])) (.r 4 b16_1 (.r 4 b16_2 (.r 4 b16_3 (.r 6 b16_4 (.r 12 rT .n))))) ?_
       refine kCt rT ?_
       refine kRs 0 [Tm 2 (bv false)] [] .n ?_
       refine kRt ?_
       have h_ := some_inj h
       subst h_
       exact kFr
      ·rcases br_inv h with ⟨b16_5, h⟩ | ⟨b16_5, h⟩
       ·refine kRs 14 [Tm 36 (bv true)] (rp 18 (.b false) (rp 12 (.b true) [])) (.r 4 b16_1 (.r 4 b16_2 (.r 4 b16_3 (.r 6 b16_4 (.r 4 b16_5 (.r 8 rT .n)))))) ?_
        refine kCt rT ?_
        refine kRs 0 [Tm 2 (bv false)] [] .n ?_
        refine kRt ?_
        have h_ := some_inj h
        subst h_
        exact kFr
       ·rcases br_inv h with ⟨b16_6, h⟩ | ⟨b16_6, h⟩
        ·refine kRs 14 [Tm 36 (bv true)] (rp 22 (.b false) (rp 8 (.b true) [])) (.r 4 b16_1 (.r 4 b16_2 (.r 4 b16_3 (.r 6 b16_4 (.r 4 b16_5 (.r 4 b16_6 (.r 4 rT .n))))))) ?_
         refine kCt rT ?_
         refine kRs 0 [Tm 2 (bv false)] [] .n ?_
         refine kRt ?_
         have h_ := some_inj h
         subst h_
         exact kFr
        ·rcases br_inv h with ⟨b16_7, h⟩ | ⟨b16_7, h⟩
         ·refine kRs 14 [Tm 36 (bv true)] (rp 26 (.b false) (rp 4 (.b true) [])) (.r 4 b16_1 (.r 4 b16_2 (.r 4 b16_3 (.r 6 b16_4 (.r 4 b16_5 (.r 4 b16_6 (.r 4 b16_7 .n))))))) ?_
          refine kCt rT ?_
          refine kRs 0 [Tm 2 (bv false)] [] .n ?_
          refine kRt ?_
          have h_ := some_inj h
          subst h_
          exact kFr
         ·refine kRs 14 [Tm 36 (bv (decide (m.Shard ≥ 3)))] (rp 30 (.b false) []) (.r 4 b16_1 (.r 4 b16_2 (.r 4 b16_3 (.r 6 b16_4 (.r 4 b16_5 (.r 4 b16_6 (.r 4 b16_7 .n))))))) ?_
          rcases br_inv h with ⟨b24_0, h⟩ | ⟨b24_0, h⟩
          ·refine kCt b24_0 ?_
           refine kRs 0 [Tm 2 (bv false)] [] .n ?_
           refine kRt ?_
           have h_ := some_inj h
           subst h_
           exact kFr
          ·refine kCe b24_0 ?_
           obtain ⟨r26_1, h26_2, h⟩ := bd_inv h
           obtain ⟨r26_3, h26_4, h⟩ := bd_inv h
           refine kRs 14 [Tm 77 (bv r26_3)] [.a ⟨.data (.slc true (some false) 1 (List.map e_i64 r26_1)), []⟩, .a ⟨bv r26_3, []⟩] (.c (Asks.of (C := Meets Try.prog) (msg_numbers.meets m _ h26_2)) (.c (Asks.fg (args1 := []) (args2 := [.fn (.func 30) [] []]) (nl := some false) (sz := 1) (es := List.map e_i64 r26_1) (Asks.of (C := Meets Try.prog) (slices_ContainsFunc_int_int.meets fu r26_1 _ h26_4))) .n)) ?_
           rcases br_inv h with ⟨b27_0, h⟩ | ⟨b27_0, h⟩
           ·refine kCt b27_0 ?_
            refine kRs 0 [Tm 2 (bv false)] [] .n ?_
            refine kRt ?_
            have h_ := some_inj h
            subst h_
            exact kFr
           ·refine kCe b27_0 ?_
            rcases br_inv h with ⟨b29_1, h⟩ | ⟨b29_1, h⟩
            ·refine kRs 14 [Tm 81 (bv true)] (.s (.t 84) [iv (m.Entries.length : Int)] :: (rp 4 (.b true) [])) (.c (c_len (e := TEntry.en) (l := m.Entries)) (.r 4 b29_1 .n)) ?_
             refine kCt rT ?_
             refine kRs 0 [Tm 2 (bv false)] [] .n ?_
             refine kRt ?_
             have h_ := some_inj h
             subst h_
             exact kFr
            ·obtain ⟨r29_2, h29_3, h⟩ := bd_inv h
             refine kRs 14 [Tm 81 (bv r29_2)] [.s (.t 84) [iv (m.Entries.length : Int)], .b false, .b false, .b false, .a ⟨bv r29_2, []⟩, .b false] (.c (c_len (e := TEntry.en) (l := m.Entries)) (.r 3 b29_1 (.c (Asks.of (C := Meets Try.prog) (slices_ContainsFunc_api_Entry.meets fu m.Entries _ h29_3)) (.c b29_1 .n)))) ?_
             rcases br_inv h with ⟨b31_0, h⟩ | ⟨b31_0, h⟩
             ·refine kCt b31_0 ?_
              refine kRs 0 [Tm 2 (bv false)] [] .n ?_
              refine kRt ?_
              have h_ := some_inj h
              subst h_
              exact kFr
             ·refine kCe b31_0 ?_
              rcases br_inv h with ⟨b33_1, h⟩ | ⟨b33_1, h⟩
              ·obtain ⟨r33_2, h33_3, h⟩ := bd_inv h
               refine kRs 14 [Tm 91 (bv (!r33_2))] [.b true, .b true, .b true, .a ⟨bv r33_2, []⟩, .b true, .b true] (.r 3 b33_1 (.c (Asks.of (C := Meets Try.prog) (txn_May.meets fu m.T _ h33_3)) (.r 2 b33_1 .n))) ?_
               rcases br_inv h with ⟨b34_0, h⟩ | ⟨b34_0, h⟩
               ·refine kCt b34_0 ?_
                refine kRs 0 [Tm 2 (bv false)] [] .n ?_
                refine kRt ?_
                have h_ := some_inj h
                subst h_
                exact kFr
               ·refine kCe b34_0 ?_
                rcases br_inv h with ⟨b36_1, h⟩ | ⟨b36_1, h⟩
                ·refine kRs 14 [Tm 101 (bv true)] (.s (.t 104) [iv (m.Keys.length : Int)] :: (rp 15 (.b true) [])) (.c (c_len (e := e_s) (l := m.Keys)) (.r 5 b36_1 (.r 10 rT .n))) ?_
                 refine kCt rT ?_
                 refine kRs 0 [Tm 2 (bv false)] [] .n ?_
                 refine kRt ?_
                 have h_ := some_inj h
                 subst h_
                 exact kFr
                ·obtain ⟨r36_2, h36_3, h⟩ := bd_inv h
                 rcases br_inv h with ⟨b36_4, h⟩ | ⟨b36_4, h⟩
                 ·refine kRs 14 [Tm 101 (bv true)] (.s (.t 104) [iv (m.Keys.length : Int)] :: (.b false :: (.b false :: (.b false :: (.a ⟨bv r36_2, []⟩ :: (.b false :: (.b false :: (rp 10 (.b true) [])))))))) (.c (c_len (e := e_s) (l := m.Keys)) (.r 3 b36_1 (.c (Asks.of (C := Meets Try.prog) (key_Rising.meets fu m.Keys _ h36_3)) (.r 2 b36_1 (.r 5 b36_4 (.r 5 rT .n)))))) ?_
                  refine kCt rT ?_
                  refine kRs 0 [Tm 2 (bv false)] [] .n ?_
                  refine kRt ?_
                  have h_ := some_inj h
                  subst h_
                  exact kFr
                 ·rcases br_inv h with ⟨b36_5, h⟩ | ⟨b36_5, h⟩
                  ·refine kRs 14 [Tm 101 (bv true)] (.s (.t 104) [iv (m.Keys.length : Int)] :: (.b false :: (.b false :: (.b false :: (.a ⟨bv r36_2, []⟩ :: (rp 7 (.b false) (rp 5 (.b true) []))))))) (.c (c_len (e := e_s) (l := m.Keys)) (.r 3 b36_1 (.c (Asks.of (C := Meets Try.prog) (key_Rising.meets fu m.Keys _ h36_3)) (.r 2 b36_1 (.r 5 b36_4 (.r 5 b36_5 .n)))))) ?_
                   refine kCt rT ?_
                   refine kRs 0 [Tm 2 (bv false)] [] .n ?_
                   refine kRt ?_
                   have h_ := some_inj h
                   subst h_
                   exact kFr
                  ·refine kRs 14 [Tm 101 (bv (decide ((m.ToKey.size : Int) > 8)))] (.s (.t 104) [iv (m.Keys.length : Int)] :: (.b false :: (.b false :: (.b false :: (.a ⟨bv r36_2, []⟩ :: (rp 12 (.b false) [])))))) (.c (c_len (e := e_s) (l := m.Keys)) (.r 3 b36_1 (.c (Asks.of (C := Meets Try.prog) (key_Rising.meets fu m.Keys _ h36_3)) (.r 2 b36_1 (.r 5 b36_4 (.r 5 b36_5 .n)))))) ?_
                   rcases br_inv h with ⟨b40_0, h⟩ | ⟨b40_0, h⟩
                   ·refine kCt b40_0 ?_
                    refine kRs 0 [Tm 2 (bv false)] [] .n ?_
                    refine kRt ?_
                    have h_ := some_inj h
                    subst h_
                    exact kFr
                   ·refine kCe b40_0 ?_
                    refine kSk ?_
                    refine kCd (cR (cR (cR (cR (cR bd11))))) [] ?_
                    exact kWk (Jk48 h)
              ·refine kRs 14 [Tm 91 (bv false)] (rp 5 (.b false) []) (.r 5 b33_1 .n) ?_
               refine kCe rF ?_
               rcases br_inv h with ⟨b42_1, h⟩ | ⟨b42_1, h⟩
               ·refine kRs 14 [Tm 101 (bv true)] (.s (.t 104) [iv (m.Keys.length : Int)] :: (rp 15 (.b true) [])) (.c (c_len (e := e_s) (l := m.Keys)) (.r 5 b42_1 (.r 10 rT .n))) ?_
                refine kCt rT ?_
                refine kRs 0 [Tm 2 (bv false)] [] .n ?_
                refine kRt ?_
                have h_ := some_inj h
                subst h_
                exact kFr
               ·obtain ⟨r42_2, h42_3, h⟩ := bd_inv h
                rcases br_inv h with ⟨b42_4, h⟩ | ⟨b42_4, h⟩
                ·refine kRs 14 [Tm 101 (bv true)] (.s (.t 104) [iv (m.Keys.length : Int)] :: (.b false :: (.b false :: (.b false :: (.a ⟨bv r42_2, []⟩ :: (.b false :: (.b false :: (rp 10 (.b true) [])))))))) (.c (c_len (e := e_s) (l := m.Keys)) (.r 3 b42_1 (.c (Asks.of (C := Meets Try.prog) (key_Rising.meets fu m.Keys _ h42_3)) (.r 2 b42_1 (.r 5 b42_4 (.r 5 rT .n)))))) ?_
                 refine kCt rT ?_
                 refine kRs 0 [Tm 2 (bv false)] [] .n ?_
                 refine kRt ?_
                 have h_ := some_inj h
                 subst h_
                 exact kFr
                ·rcases br_inv h with ⟨b42_5, h⟩ | ⟨b42_5, h⟩
                 ·refine kRs 14 [Tm 101 (bv true)] (.s (.t 104) [iv (m.Keys.length : Int)] :: (.b false :: (.b false :: (.b false :: (.a ⟨bv r42_2, []⟩ :: (rp 7 (.b false) (rp 5 (.b true) []))))))) (.c (c_len (e := e_s) (l := m.Keys)) (.r 3 b42_1 (.c (Asks.of (C := Meets Try.prog) (key_Rising.meets fu m.Keys _ h42_3)) (.r 2 b42_1 (.r 5 b42_4 (.r 5 b42_5 .n)))))) ?_
                  refine kCt rT ?_
                  refine kRs 0 [Tm 2 (bv false)] [] .n ?_
                  refine kRt ?_
                  have h_ := some_inj h
                  subst h_
                  exact kFr
                 ·refine kRs 14 [Tm 101 (bv (decide ((m.ToKey.size : Int) > 8)))] (.s (.t 104) [iv (m.Keys.length : Int)] :: (.b false :: (.b false :: (.b false :: (.a ⟨bv r42_2, []⟩ :: (rp 12 (.b false) [])))))) (.c (c_len (e := e_s) (l := m.Keys)) (.r 3 b42_1 (.c (Asks.of (C := Meets Try.prog) (key_Rising.meets fu m.Keys _ h42_3)) (.r 2 b42_1 (.r 5 b42_4 (.r 5 b42_5 .n)))))) ?_
                  rcases br_inv h with ⟨b46_0, h⟩ | ⟨b46_0, h⟩
                  ·refine kCt b46_0 ?_
                   refine kRs 0 [Tm 2 (bv false)] [] .n ?_
                   refine kRt ?_
                   have h_ := some_inj h
                   subst h_
                   exact kFr
                  ·refine kCe b46_0 ?_
                   refine kSk ?_
                   refine kCd (cR (cR (cR (cR (cR bd11))))) [] ?_
                   exact kWk (Jk48 h)
def bd84 : Code := (Try.f84.body).getD .skip
def num_Put.O : Nat → Nat := fun t => bif ([0, 2, 13, 18] : List Nat).any (Nat.beq t) then 1 else 0
def num_Put.lp5 (fu : Nat) : Nat → Int → (List Int) → Option (Int × List Int)
  | 0, _, _ => none
  | n_ + 1, l5_0, l5_1 =>
  br (decide (l5_0 > 127))
   (gd (decide (l5_1.length + ([(vor .u8 (w8 l5_0) 128)] : List Int).length ≤ 4294967296)) <|
   num_Put.lp5 fu n_ (vshr .i64 l5_0 7) (l5_1 ++ ([(vor .u8 (w8 l5_0) 128)] : List Int)))
   (some (l5_0, l5_1))
def num_Put.lp5_post (r_ : (Int × List Int)) : Wy → St → Prop := fun e τ => match r_ with
  | (y0, y1) => e = .exit 0 ∧ τ = ofL [Tm 0 (iv y0), Tm 2 (sO 1 e_u8 y1)]
theorem num_Put.lp5_ok (fu : Nat) : ∀ (n_ : Nat) (l5_0 : Int) (l5_1 : List Int) (r_ : (Int × List Int)), num_Put.lp5 fu n_ l5_0 l5_1 = some r_ → WK Try.prog num_Put.O (Ck Try.prog) (cB (cL (cR (cR bd84)))) [] (ofL [Tm 0 (iv l5_0), Tm 2 (sO 1 e_u8 l5_1)]) (num_Put.lp5_post r_) := by
 intro n_
 induction n_ with
 | zero => intro l5_0 l5_1 r_ h; exact no_none h
 | succ n_ ih =>
  intro l5_0 l5_1 r_ h
  refine kLp ?_
  refine kSq ?_
  refine kRs 3 [Tm 6 (bv (decide (l5_0 > 127)))] [] .n ?_
  rcases br_inv h with ⟨b7_0, h⟩ | ⟨b7_0, h⟩
  ·refine kCt b7_0 ?_
   refine kSk ?_
   refine kCd (cR (cB (cB (cL (cR (cR bd84)))))) [.lp (cB (cL (cR (cR bd84))))] ?_
   refine kSq ?_
   refine kBk 1 ?_
   obtain ⟨c8_1, h⟩ := gd_inv h
   refine kRc 2 [Tm 2 (sO 1 e_u8 (l5_1 ++ ([(vor .u8 (w8 l5_0) 128)] : List Int)))] [.s (.t 14) [sO 1 e_u8 (l5_1 ++ ([(vor .u8 (w8 l5_0) 128)] : List Int))]] (.c (c_al (e := e_u8) (f := e_u8) c8_1) (.c (congrArg (fun d : DV => [AV.data d]) (c_app (e := e_u8) (s := 1) (l := l5_1) (m := ([(vor .u8 (w8 l5_0) 128)] : List Int)))) .n)) (cR (cR (cB (cB (cL (cR (cR bd84))))))) [.lp (cB (cL (cR (cR bd84))))] ?_
   refine kRc 1 [Tm 0 (iv (vshr .i64 l5_0 7))] [] (.c rT .n) (cB (cL (cR (cR bd84)))) [] ?_
   exact kWk (ih (vshr .i64 l5_0 7) (l5_1 ++ ([(vor .u8 (w8 l5_0) 128)] : List Int)) _ h)
  ·refine kCe b7_0 ?_
   cases some_inj h
   refine kWo ?_
   refine kXt 0 ?_
   exact kOut
def num_Put (fu : Nat) (v : Int) : Option (List Int) :=
 br (decide (v < 0))
  (some [])
  (bd (num_Put.lp5 fu fu v []) fun (y10_0, y10_1) =>
  gd (decide (y10_1.length + ([(w8 y10_0)] : List Int).length ≤ 4294967296)) <|
  some (y10_1 ++ ([(w8 y10_0)] : List Int)))
theorem num_Put.meets (fu : Nat) (v : Int) (z0 : List Int) (h : num_Put fu v = some z0) : Meets Try.prog ⟨84, [iv v], []⟩ ⟨sO 1 e_u8 z0, []⟩ := by
 refine kMt hmix num_Put.O Try.f84 bd84 1 ?_
 unfold num_Put at h
 refine kRs 1 [Tm 2 (.data (.slc true (some true) 1 (List.map e_u8 [])))] [] .n ?_
 refine kSq ?_
 refine kRs 3 [Tm 4 (bv (decide (v < 0)))] [] .n ?_
 rcases br_inv h with ⟨b3_0, h⟩ | ⟨b3_0, h⟩
 ·refine kCt b3_0 ?_
  refine kRs 2 [] [] .n ?_
  refine kWd 0 [Tm 2 (.data (.slc true none 1 (List.map e_u8 [])))] ?_
  refine kRt ?_
  have h_ := some_inj h
  subst h_
  exact kFr
 ·refine kCe b3_0 ?_
  refine kSk ?_
  refine kCd (cR (cR bd84)) [] ?_
  refine kSq ?_
  refine kBk 0 ?_
  obtain ⟨o10, ho10, h⟩ := bd_inv h
  refine kUs (num_Put.lp5_ok fu _ v [] _ ho10) ?_
  intro e_ τ_ hp_
  obtain ⟨y10_0, y10_1⟩ := o10
  obtain ⟨rfl, rfl⟩ := hp_
  refine kCd (cR (cR (cR bd84))) [] ?_
  obtain ⟨c11_1, h⟩ := gd_inv h
  refine kRs 0 [Tm 2 (sO 1 e_u8 (y10_1 ++ ([(w8 y10_0)] : List Int)))] [.s (.t 19) [sO 1 e_u8 (y10_1 ++ ([(w8 y10_0)] : List Int))]] (.c (c_al (e := e_u8) (f := e_u8) c11_1) (.c (congrArg (fun d : DV => [AV.data d]) (c_app (e := e_u8) (s := 1) (l := y10_1) (m := ([(w8 y10_0)] : List Int)))) .n)) ?_
  refine kRt ?_
  have h_ := some_inj h
  subst h_
  exact kFr
def bd39 : Code := (Try.f39.body).getD .skip
def msg_writer_num.O : Nat → Nat := fun t => bif ([5, 19] : List Nat).any (Nat.beq t) then 1 else 0
def msg_writer_num.lp2 (fu : Nat) (l2_0 : List Int) (l2_1 : Int) : Nat → Int → TWriter → Option TWriter
  | 0, _, _ => none
  | n_ + 1, l2_2, l2_3 =>
  br (decide (l2_2 < l2_1))
   (ix l2_0 l2_2 fun x5_1 =>
   bd (num_Put fu x5_1) fun r6_1 =>
   gd (decide (l2_3.b.length + r6_1.length ≤ 4294967296)) <|
   msg_writer_num.lp2 fu l2_0 l2_1 n_ (w64 (l2_2 + 1)) (TWriter.mk (l2_3.b ++ r6_1)))
   (some l2_3)
def msg_writer_num.lp2_post (l2_0 : List Int) (l2_1 : Int) (r_ : TWriter) : Wy → St → Prop := fun e τ => match r_ with
  | y0 => e = .exit 0 ∧ τ = ofL [Ob 1000 [sO 1 e_u8 y0.b]]
theorem msg_writer_num.lp2_ok (fu : Nat) (l2_0 : List Int) (l2_1 : Int) : ∀ (n_ : Nat) (l2_2 : Int) (l2_3 : TWriter) (r_ : TWriter), msg_writer_num.lp2 fu l2_0 l2_1 n_ l2_2 l2_3 = some r_ → WK Try.prog msg_writer_num.O (Ck Try.prog) (cB (cR bd39)) [] (ofL [Tm 0 (.ptr 1000 0), Tm 6 (sS 1 e_i64 l2_0), Tm 7 (iv l2_1), Tm 8 (iv l2_2), Ob 1000 [sO 1 e_u8 l2_3.b]]) (msg_writer_num.lp2_post l2_0 l2_1 r_) := by
 intro n_
 induction n_ with
 | zero => intro l2_2 l2_3 r_ h; exact no_none h
 | succ n_ ih =>
  intro l2_2 l2_3 r_ h
  refine kLp ?_
  refine kRs 31 [Tm 9 (bv (decide (l2_2 < l2_1)))] [] .n ?_
  refine kSq ?_
  rcases br_inv h with ⟨b4_0, h⟩ | ⟨b4_0, h⟩
  ·refine kCt b4_0 ?_
   refine kSk ?_
   refine kCd (cR (cR (cB (cB (cR bd39))))) [.lp (cB (cR bd39))] ?_
   refine kSq ?_
   refine kBk 1 ?_
   obtain ⟨x5_1, a5_2, e5_3, h⟩ := ix_inv h
   refine kRs 62 [Tm 5 (iv x5_1)] [.c (e_i64 x5_1)] (.c (c_ix (e := e_i64) a5_2 e5_3) (.c (c_el (e := e_i64) e5_3) .n)) ?_
   obtain ⟨r6_1, h6_2, h⟩ := bd_inv h
   obtain ⟨c6_3, h⟩ := gd_inv h
   refine kRc 30 [Ob 1000 [sO 1 e_u8 (l2_3.b ++ r6_1)]] [.a ⟨sO 1 e_u8 r6_1, []⟩, .s (.t 19) [sO 1 e_u8 (l2_3.b ++ r6_1)]] (.c (Asks.of (C := Meets Try.prog) (num_Put.meets fu x5_1 _ h6_2)) (.c (c_al (e := e_u8) (f := e_u8) c6_3) (.c (congrArg (fun d : DV => [AV.data d]) (c_app (e := e_u8) (s := 1) (l := l2_3.b) (m := r6_1))) (.c rT .n)))) (cR (cR (cR (cB (cB (cR bd39)))))) [.lp (cB (cR bd39))] ?_
   refine kRc 15 [Tm 8 (iv (w64 (l2_2 + 1)))] [] .n (cB (cR bd39)) [] ?_
   exact kWk (ih (w64 (l2_2 + 1)) (TWriter.mk (l2_3.b ++ r6_1)) _ h)
  ·refine kCe b4_0 ?_
   cases some_inj h
   refine kWo ?_
   refine kXt 0 ?_
   exact kOut
def msg_writer_num (fu : Nat) (l : List Int) (o0_v : TWriter) : Option TWriter :=
 bd (msg_writer_num.lp2 fu l (l.length : Int) fu 0 o0_v) fun y8_0 =>
 some y8_0
theorem msg_writer_num.meets (fu : Nat) (l : List Int) (o0_v : TWriter) (z0 : TWriter) (h : msg_writer_num fu l o0_v = some z0) : Meets Try.prog ⟨39, [.ptr 1000 0, sS 1 e_i64 l], [[sO 1 e_u8 o0_v.b]]⟩ ⟨.tup [], [[sO 1 e_u8 z0.b]]⟩ := by
 refine kMt hmix msg_writer_num.O Try.f39 bd39 7 ?_
 unfold msg_writer_num at h
 refine kRs 5 [Tm 6 (sS 1 e_i64 l), Tm 7 (iv (l.length : Int)), Tm 8 (iv 0)] [.s (.t 7) [iv (l.length : Int)]] (.c (c_len (e := e_i64) (l := l)) .n) ?_
 refine kBk 0 ?_
 obtain ⟨o8, ho8, h⟩ := bd_inv h
 refine kUs (msg_writer_num.lp2_ok fu l (l.length : Int) _ 0 o0_v _ ho8) ?_
 intro e_ τ_ hp_
 obtain ⟨y8_0, rfl⟩ : ∃ y, y = o8 := ⟨_, rfl⟩
 obtain ⟨rfl, rfl⟩ := hp_
 have h_ := some_inj h
 subst h_
 exact kFn
def bd40 : Code := (Try.f40.body).getD .skip
def msg_writer_flag.O : Nat → Nat := fun t => bif ([6, 9] : List Nat).any (Nat.beq t) then 1 else 0
def msg_writer_flag (fu : Nat) (is : Bool) (o0_v : TWriter) : Option TWriter :=
 br is
  (bd (msg_writer_num fu ([1] : List Int) o0_v) fun r3_1 =>
  some r3_1)
  (bd (msg_writer_num fu ([0] : List Int) o0_v) fun r4_1 =>
  some r4_1)
theorem msg_writer_flag.meets (fu : Nat) (is : Bool) (o0_v : TWriter) (z0 : TWriter) (h : msg_writer_flag fu is o0_v = some z0) : Meets Try.prog ⟨40, [.ptr 1000 0, bv is], [[sO 1 e_u8 o0_v.b]]⟩ ⟨.tup [], [[sO 1 e_u8 z0.b]]⟩ := by
 refine kMt hmix msg_writer_flag.O Try.f40 bd40 7 ?_
 unfold msg_writer_flag at h
 refine kSq ?_
 refine kRs 5 [Tm 4 (bv is)] [] .n ?_
 rcases br_inv h with ⟨b2_0, h⟩ | ⟨b2_0, h⟩
 ·refine kCt b2_0 ?_
  obtain ⟨r3_1, h3_2, h⟩ := bd_inv h
  refine kRs 0 [Ob 1000 [sO 1 e_u8 r3_1.b]] [.a ⟨.tup [], [[sO 1 e_u8 r3_1.b]]⟩] (.c (Asks.fg (args1 := [.ptr 1000 0]) (args2 := []) (nl := some false) (sz := 1) (es := List.map e_i64 ([1] : List Int)) (Asks.of (C := Meets Try.prog) (msg_writer_num.meets fu ([1] : List Int) o0_v _ h3_2))) .n) ?_
  refine kRt ?_
  have h_ := some_inj h
  subst h_
  exact kFr
 ·refine kCe b2_0 ?_
  refine kSk ?_
  refine kCd (cR bd40) [] ?_
  obtain ⟨r4_1, h4_2, h⟩ := bd_inv h
  have h_ := some_inj h
  subst h_
  exact kRf [.a ⟨.tup [], [[sO 1 e_u8 r4_1.b]]⟩] (.c (Asks.fg (args1 := [.ptr 1000 0]) (args2 := []) (nl := some false) (sz := 1) (es := List.map e_i64 ([0] : List Int)) (Asks.of (C := Meets Try.prog) (msg_writer_num.meets fu ([0] : List Int) o0_v _ h4_2))) .n)
def bd96 : Code := (Try.f96.body).getD .skip
def slices_Grow_byte_byte.O : Nat → Nat := fun t => bif ([0, 1, 4, 25] : List Nat).any (Nat.beq t) then 1 else 0
def slices_Grow_byte_byte (n_v : Int) : Option (List Int) :=
 br (decide (n_v < 0))
  (none)
  (br (decide ((w64 (n_v - (w64 (0 - 0)))) > 0))
   (gd (decide ((0 : Int) ≤ (0 : Int) ∧ (0 : Int) ≤ (([] : List Int).length : Int))) <|
   gd (decide ((0 : Int) ≤ (w64 (n_v - (w64 (0 - 0)))) ∧ (w64 (n_v - (w64 (0 - 0)))) ≤ 4294967296)) <|
   gd (decide ((List.take (0 : Int).toNat ([] : List Int)).length + (w64 (n_v - (w64 (0 - 0)))).toNat ≤ 4294967296)) <|
   gd (decide ((0 : Int) ≤ (0 : Int) ∧ (0 : Int) ≤ (((List.take (0 : Int).toNat ([] : List Int)) ++ List.replicate (w64 (n_v - (w64 (0 - 0)))).toNat (0 : Int)).length : Int))) <|
   some (List.take (0 : Int).toNat ((List.take (0 : Int).toNat ([] : List Int)) ++ List.replicate (w64 (n_v - (w64 (0 - 0)))).toNat (0 : Int))))
   (some []))
theorem slices_Grow_byte_byte.meets (n_v : Int) (z0 : List Int) (h : slices_Grow_byte_byte n_v = some z0) : Meets Try.prog ⟨96, [.data (.slc false (some true) 1 (List.map e_u8 [])), iv n_v], []⟩ ⟨sO 1 e_u8 z0, []⟩ := by
 refine kMt hmix slices_Grow_byte_byte.O Try.f96 bd96 3 ?_
 unfold slices_Grow_byte_byte at h
 refine kRs 3 [] [] .n ?_
 refine kSq ?_
 refine kRs 3 [Tm 6 (bv (decide (n_v < 0)))] [] .n ?_
 rcases br_inv h with ⟨b3_0, h⟩ | ⟨b3_0, h⟩
 ·refine kCt b3_0 ?_
  exact no_none h
 ·refine kCe b3_0 ?_
  refine kSk ?_
  refine kCd (cR (cR bd96)) [] ?_
  refine kSq ?_
  refine kRs 2 [Tm 1 (iv (w64 (n_v - (w64 (0 - 0)))))] [] .n ?_
  refine kRs 3 [Tm 16 (bv (decide ((w64 (n_v - (w64 (0 - 0)))) > 0)))] [] .n ?_
  rcases br_inv h with ⟨b7_0, h⟩ | ⟨b7_0, h⟩
  ·refine kCt b7_0 ?_
   obtain ⟨c8_1, h⟩ := gd_inv h
   obtain ⟨c8_2, h⟩ := gd_inv h
   obtain ⟨c8_3, h⟩ := gd_inv h
   obtain ⟨c8_4, h⟩ := gd_inv h
   refine kRc 0 [Tm 0 (sO 1 e_u8 (List.take (0 : Int).toNat ((List.take (0 : Int).toNat ([] : List Int)) ++ List.replicate (w64 (n_v - (w64 (0 - 0)))).toNat (0 : Int))))] [.s (.t 20) [.data (.slc false (some true) 1 (List.map e_u8 (List.take (0 : Int).toNat ([] : List Int))))], .s (.t 22) [sO 1 e_u8 ((List.take (0 : Int).toNat ([] : List Int)) ++ List.replicate (w64 (n_v - (w64 (0 - 0)))).toNat (0 : Int))], .s (.t 25) [sO 1 e_u8 (List.take (0 : Int).toNat ((List.take (0 : Int).toNat ([] : List Int)) ++ List.replicate (w64 (n_v - (w64 (0 - 0)))).toNat (0 : Int)))]] (.c (c_cbH (e := e_u8) c8_1) (.c (congrArg (fun d : DV => [AV.data d]) (c_cutH (own := false) (nl := (some true)) (s := 1) (e := e_u8) (l := ([] : List Int)) (h := (0 : Int).toNat))) (.c c8_2 (.c (c_alz (e := e_u8) c8_3) (.c (congrArg (fun d : DV => [AV.data d]) (c_appz (e := e_u8) (s := 1) (l := (List.take (0 : Int).toNat ([] : List Int))) (n := (w64 (n_v - (w64 (0 - 0)))).toNat) (x := (0 : Int)))) (.c (c_cbH (e := e_u8) c8_4) (.c (congrArg (fun d : DV => [AV.data d]) (c_cutH (own := true) (nl := none) (s := 1) (e := e_u8) (l := ((List.take (0 : Int).toNat ([] : List Int)) ++ List.replicate (w64 (n_v - (w64 (0 - 0)))).toNat (0 : Int))) (h := (0 : Int).toNat))) .n))))))) (cR (cR (cR bd96))) [] ?_
   refine kRs 0 [Tm 4 (sO 1 e_u8 (List.take (0 : Int).toNat ((List.take (0 : Int).toNat ([] : List Int)) ++ List.replicate (w64 (n_v - (w64 (0 - 0)))).toNat (0 : Int))))] [] .n ?_
   refine kRt ?_
   have h_ := some_inj h
   subst h_
   exact kFr
  ·refine kCe b7_0 ?_
   refine kSk ?_
   refine kCd (cR (cR (cR bd96))) [] ?_
   refine kRs 0 [Tm 4 (.data (.slc true (some true) 1 (List.map e_u8 [])))] [] .n ?_
   refine kWd 0 [Tm 4 (.data (.slc true none 1 (List.map e_u8 [])))] ?_
   refine kRt ?_
   have h_ := some_inj h
   subst h_
   exact kFr
def bd85 : Code := (Try.f85.body).getD .skip
def slices_Concat_byte_byte.O : Nat → Nat := fun t => bif ([2, 3, 6] : List Nat).any (Nat.beq t) then 1 else 0
def slices_Concat_byte_byte.lp4 (fu : Nat) (l4_0 : List (List Int)) (l4_2 : List (List Int)) (l4_3 : Int) : Nat → Int → Int → Option Int
  | 0, _, _ => none
  | n_ + 1, l4_1, l4_4 =>
  br (decide (l4_4 < l4_3))
   (ix l4_2 l4_4 fun x7_1 =>
   br (decide ((w64 (l4_1 + (x7_1.length : Int))) < 0))
    (none)
    (slices_Concat_byte_byte.lp4 fu l4_0 l4_2 l4_3 n_ (w64 (l4_1 + (x7_1.length : Int))) (w64 (l4_4 + 1))))
   (some l4_1)
def slices_Concat_byte_byte.lp4_post (l4_0 : List (List Int)) (l4_2 : List (List Int)) (l4_3 : Int) (r_ : Int) : Wy → St → Prop := fun e τ => match r_ with
  | y0 => e = .exit 0 ∧ τ = ofL [Tm 0 (sS 1 (e_l 1 e_u8) l4_0), Tm 3 (iv y0)]
theorem slices_Concat_byte_byte.lp4_ok (fu : Nat) (l4_0 : List (List Int)) (l4_2 : List (List Int)) (l4_3 : Int) : ∀ (n_ : Nat) (l4_1 : Int) (l4_4 : Int) (r_ : Int), slices_Concat_byte_byte.lp4 fu l4_0 l4_2 l4_3 n_ l4_1 l4_4 = some r_ → WK Try.prog slices_Concat_byte_byte.O (Ck Try.prog) (cB (cR (cL (cR (cR bd85))))) [] (ofL [Tm 0 (sS 1 (e_l 1 e_u8) l4_0), Tm 3 (iv l4_1), Tm 9 (sS 1 (e_l 1 e_u8) l4_2), Tm 10 (iv l4_3), Tm 11 (iv l4_4)]) (slices_Concat_byte_byte.lp4_post l4_0 l4_2 l4_3 r_) := by
 intro n_
 induction n_ with
 | zero => intro l4_1 l4_4 r_ h; exact no_none h
 | succ n_ ih =>
  intro l4_1 l4_4 r_ h
  refine kLp ?_
  refine kRs 31 [Tm 12 (bv (decide (l4_4 < l4_3)))] [] .n ?_
  refine kSq ?_
  rcases br_inv h with ⟨b6_0, h⟩ | ⟨b6_0, h⟩
  ·refine kCt b6_0 ?_
   refine kSk ?_
   refine kCd (cR (cR (cB (cB (cR (cL (cR (cR bd85)))))))) [.lp (cB (cR (cL (cR (cR bd85)))))] ?_
   refine kSq ?_
   refine kBk 1 ?_
   obtain ⟨x7_1, a7_2, e7_3, h⟩ := ix_inv h
   refine kRs 62 [Tm 5 (sS 1 e_u8 x7_1)] [.c ((e_l 1 e_u8) x7_1)] (.c (c_ix (e := (e_l 1 e_u8)) a7_2 e7_3) (.c (c_el (e := (e_l 1 e_u8)) e7_3) .n)) ?_
   refine kRs 58 [Tm 3 (iv (w64 (l4_1 + (x7_1.length : Int))))] [.s (.t 17) [iv (x7_1.length : Int)]] (.c (c_len (e := e_u8) (l := x7_1)) .n) ?_
   refine kRs 31 [Tm 20 (bv (decide ((w64 (l4_1 + (x7_1.length : Int))) < 0)))] [] .n ?_
   rcases br_inv h with ⟨b10_0, h⟩ | ⟨b10_0, h⟩
   ·refine kCt b10_0 ?_
    exact no_none h
   ·refine kCe b10_0 ?_
    refine kSk ?_
    refine kCd (cR (cR (cR (cB (cB (cR (cL (cR (cR bd85))))))))) [.lp (cB (cR (cL (cR (cR bd85)))))] ?_
    refine kRc 30 [Tm 11 (iv (w64 (l4_4 + 1)))] [] .n (cB (cR (cL (cR (cR bd85))))) [] ?_
    exact kWk (ih (w64 (l4_1 + (x7_1.length : Int))) (w64 (l4_4 + 1)) _ h)
  ·refine kCe b6_0 ?_
   cases some_inj h
   refine kWo ?_
   refine kXt 0 ?_
   exact kOut
def slices_Concat_byte_byte.lp16 (fu : Nat) (l16_1 : List (List Int)) (l16_2 : Int) : Nat → (List Int) → Int → Option (List Int)
  | 0, _, _ => none
  | n_ + 1, l16_0, l16_3 =>
  br (decide (l16_3 < l16_2))
   (ix l16_1 l16_3 fun x19_1 =>
   gd (decide (l16_0.length + x19_1.length ≤ 4294967296)) <|
   slices_Concat_byte_byte.lp16 fu l16_1 l16_2 n_ (l16_0 ++ x19_1) (w64 (l16_3 + 1)))
   (some l16_0)
def slices_Concat_byte_byte.lp16_post (l16_1 : List (List Int)) (l16_2 : Int) (r_ : (List Int)) : Wy → St → Prop := fun e τ => match r_ with
  | y0 => e = .exit 2 ∧ τ = ofL [Tm 6 (sO 1 e_u8 y0)]
theorem slices_Concat_byte_byte.lp16_ok (fu : Nat) (l16_1 : List (List Int)) (l16_2 : Int) : ∀ (n_ : Nat) (l16_0 : List Int) (l16_3 : Int) (r_ : (List Int)), slices_Concat_byte_byte.lp16 fu l16_1 l16_2 n_ l16_0 l16_3 = some r_ → WK Try.prog slices_Concat_byte_byte.O (Ck Try.prog) (cB (cR (cL (cR (cR (cR (cR bd85))))))) [] (ofL [Tm 6 (sO 1 e_u8 l16_0), Tm 25 (sS 1 (e_l 1 e_u8) l16_1), Tm 26 (iv l16_2), Tm 27 (iv l16_3)]) (slices_Concat_byte_byte.lp16_post l16_1 l16_2 r_) := by
 intro n_
 induction n_ with
 | zero => intro l16_0 l16_3 r_ h; exact no_none h
 | succ n_ ih =>
  intro l16_0 l16_3 r_ h
  refine kLp ?_
  refine kRs 15 [Tm 28 (bv (decide (l16_3 < l16_2)))] [] .n ?_
  refine kSq ?_
  rcases br_inv h with ⟨b18_0, h⟩ | ⟨b18_0, h⟩
  ·refine kCt b18_0 ?_
   refine kSk ?_
   refine kCd (cR (cR (cB (cB (cR (cL (cR (cR (cR (cR bd85)))))))))) [.lp (cB (cR (cL (cR (cR (cR (cR bd85)))))))] ?_
   refine kSq ?_
   refine kBk 3 ?_
   obtain ⟨x19_1, a19_2, e19_3, h⟩ := ix_inv h
   refine kRs 30 [Tm 8 (sS 1 e_u8 x19_1)] [.c ((e_l 1 e_u8) x19_1)] (.c (c_ix (e := (e_l 1 e_u8)) a19_2 e19_3) (.c (c_el (e := (e_l 1 e_u8)) e19_3) .n)) ?_
   obtain ⟨c20_1, h⟩ := gd_inv h
   refine kRc 28 [Tm 6 (sO 1 e_u8 (l16_0 ++ x19_1))] [.s (.t 33) [sO 1 e_u8 (l16_0 ++ x19_1)]] (.c (c_al (e := e_u8) (f := e_u8) c20_1) (.c (congrArg (fun d : DV => [AV.data d]) (c_app (e := e_u8) (s := 1) (l := l16_0) (m := x19_1))) .n)) (cR (cR (cR (cB (cB (cR (cL (cR (cR (cR (cR bd85))))))))))) [.lp (cB (cR (cL (cR (cR (cR (cR bd85)))))))] ?_
   refine kRc 7 [Tm 27 (iv (w64 (l16_3 + 1)))] [] .n (cB (cR (cL (cR (cR (cR (cR bd85))))))) [] ?_
   exact kWk (ih (l16_0 ++ x19_1) (w64 (l16_3 + 1)) _ h)
  ·refine kCe b18_0 ?_
   cases some_inj h
   refine kWo ?_
   refine kXt 2 ?_
   exact kOut
def slices_Concat_byte_byte (fu : Nat) (slices : List (List Int)) : Option (List Int) :=
 bd (slices_Concat_byte_byte.lp4 fu slices slices (slices.length : Int) fu 0 0) fun y13_0 =>
 bd (slices_Grow_byte_byte y13_0) fun r14_1 =>
 bd (slices_Concat_byte_byte.lp16 fu slices (slices.length : Int) fu r14_1 0) fun y22_0 =>
 some y22_0
theorem slices_Concat_byte_byte.meets (fu : Nat) (slices : List (List Int)) (z0 : List Int) (h : slices_Concat_byte_byte fu slices = some z0) : Meets Try.prog ⟨85, [sS 1 (e_l 1 e_u8) slices], []⟩ ⟨sO 1 e_u8 z0, []⟩ := by
 refine kMt hmix slices_Concat_byte_byte.O Try.f85 bd85 1 ?_
 unfold slices_Concat_byte_byte at h
 refine kRs 1 [] [] .n ?_
 refine kRs 1 [Tm 3 (iv 0)] [] .n ?_
 refine kSq ?_
 refine kRs 3 [Tm 9 (sS 1 (e_l 1 e_u8) slices), Tm 10 (iv (slices.length : Int)), Tm 11 (iv 0)] [.s (.t 10) [iv (slices.length : Int)]] (.c (c_len (e := (e_l 1 e_u8)) (l := slices)) .n) ?_
 refine kBk 0 ?_
 obtain ⟨o13, ho13, h⟩ := bd_inv h
 refine kUs (slices_Concat_byte_byte.lp4_ok fu slices slices (slices.length : Int) _ 0 0 _ ho13) ?_
 intro e_ τ_ hp_
 obtain ⟨y13_0, rfl⟩ : ∃ y, y = o13 := ⟨_, rfl⟩
 obtain ⟨rfl, rfl⟩ := hp_
 refine kCd (cR (cR (cR bd85))) [] ?_
 obtain ⟨r14_1, h14_2, h⟩ := bd_inv h
 refine kRs 1 [Tm 6 (sO 1 e_u8 r14_1)] [.a ⟨sO 1 e_u8 r14_1, []⟩] (.c (Asks.of (C := Meets Try.prog) (slices_Grow_byte_byte.meets y13_0 _ h14_2)) .n) ?_
 refine kSq ?_
 refine kRs 1 [Tm 25 (sS 1 (e_l 1 e_u8) slices), Tm 26 (iv (slices.length : Int)), Tm 27 (iv 0)] [.s (.t 26) [iv (slices.length : Int)]] (.c (c_len (e := (e_l 1 e_u8)) (l := slices)) .n) ?_
 refine kBk 2 ?_
 obtain ⟨o22, ho22, h⟩ := bd_inv h
 refine kUs (slices_Concat_byte_byte.lp16_ok fu slices (slices.length : Int) _ r14_1 0 _ ho22) ?_
 intro e_ τ_ hp_
 obtain ⟨y22_0, rfl⟩ : ∃ y, y = o22 := ⟨_, rfl⟩
 obtain ⟨rfl, rfl⟩ := hp_
 refine kCd (cR (cR (cR (cR (cR bd85))))) [] ?_
 refine kRs 0 [Tm 2 (sO 1 e_u8 y22_0)] [] .n ?_
 refine kRt ?_
 have h_ := some_inj h
 subst h_
 exact kFr
def bd86 : Code := (Try.f86.body).getD .skip
def num_PutText.O : Nat → Nat := fun t => bif ([2] : List Nat).any (Nat.beq t) then 1 else 0
def num_PutText (fu : Nat) (s : ByteArray) : Option (List Int) :=
 br (decide ((s.size : Int) > 255))
  (some [])
  (bd (num_Put fu (s.size : Int)) fun r5_1 =>
  gd (decide (r5_1.length + s.size ≤ 4294967296)) <|
  some (r5_1 ++ (bytesL s)))
theorem num_PutText.meets (fu : Nat) (s : ByteArray) (z0 : List Int) (h : num_PutText fu s = some z0) : Meets Try.prog ⟨86, [sv s], []⟩ ⟨sO 1 e_u8 z0, []⟩ := by
 refine kMt hmix num_PutText.O Try.f86 bd86 1 ?_
 unfold num_PutText at h
 refine kRs 1 [] [] .n ?_
 refine kSq ?_
 refine kRs 1 [Tm 5 (bv (decide ((s.size : Int) > 255)))] [] .n ?_
 rcases br_inv h with ⟨b3_0, h⟩ | ⟨b3_0, h⟩
 ·refine kCt b3_0 ?_
  refine kRs 0 [Tm 2 (.data (.slc true (some true) 1 (List.map e_u8 [])))] [] .n ?_
  refine kWd 0 [Tm 2 (.data (.slc true none 1 (List.map e_u8 [])))] ?_
  refine kRt ?_
  have h_ := some_inj h
  subst h_
  exact kFr
 ·refine kCe b3_0 ?_
  refine kSk ?_
  refine kCd (cR (cR bd86)) [] ?_
  obtain ⟨r5_1, h5_2, h⟩ := bd_inv h
  obtain ⟨c5_3, h⟩ := gd_inv h
  refine kRs 0 [Tm 2 (sO 1 e_u8 (r5_1 ++ (bytesL s)))] [.a ⟨sO 1 e_u8 r5_1, []⟩, .s (.t 10) [sO 1 e_u8 (r5_1 ++ (bytesL s))]] (.c (Asks.of (C := Meets Try.prog) (num_Put.meets fu (s.size : Int) _ h5_2)) (.c (c_als (e := e_u8) c5_3) (.c (congrArg (fun d : DV => [AV.data d]) (c_apps (l := r5_1) (u := s))) .n))) ?_
  refine kRt ?_
  have h_ := some_inj h
  subst h_
  exact kFr
def bd87 : Code := (Try.f87.body).getD .skip
def txn_flag.O : Nat → Nat := fun t => bif ([2] : List Nat).any (Nat.beq t) then 1 else 0
def txn_flag (is : Bool) : Option Int :=
 br is
  (some 1)
  (some 0)
theorem txn_flag.meets (is : Bool) (z0 : Int) (h : txn_flag is = some z0) : Meets Try.prog ⟨87, [bv is], []⟩ ⟨.data (.val (.int .u8 z0)), []⟩ := by
 refine kMt hmix txn_flag.O Try.f87 bd87 1 ?_
 unfold txn_flag at h
 refine kRs 1 [] [] .n ?_
 refine kSq ?_
 refine kRs 0 [Tm 3 (bv is)] [] .n ?_
 rcases br_inv h with ⟨b3_0, h⟩ | ⟨b3_0, h⟩
 ·refine kCt b3_0 ?_
  refine kRs 0 [Tm 2 (.data (.val (.int .u8 1)))] [] .n ?_
  refine kRt ?_
  have h_ := some_inj h
  subst h_
  exact kFr
 ·refine kCe b3_0 ?_
  refine kSk ?_
  refine kCd (cR (cR bd87)) [] ?_
  refine kRs 0 [Tm 2 (.data (.val (.int .u8 0)))] [] .n ?_
  refine kRt ?_
  have h_ := some_inj h
  subst h_
  exact kFr
def bd41 : Code := (Try.f41.body).getD .skip
def txn_Put.O : Nat → Nat := fun t => bif ([1, 2, 3, 5, 7, 21, 40, 45, 68, 73] : List Nat).any (Nat.beq t) then 1 else 0
def txn_Put.lp7 (fu : Nat) (l7_1 : List TRead) (l7_2 : Int) (l7_4 : TTxn) : Nat → (List Int) → Int → Option (List Int)
  | 0, _, _ => none
  | n_ + 1, l7_0, l7_3 =>
  br (decide (l7_3 < l7_2))
   (ix l7_1 l7_3 fun x10_1 =>
   bd (num_PutText fu x10_1.Key) fun r11_1 =>
   bd (num_Put fu x10_1.Version) fun r11_3 =>
   bd (num_PutText fu x10_1.Val) fun r11_5 =>
   bd (slices_Concat_byte_byte fu ([l7_0, r11_1, r11_3, r11_5] : List (List Int))) fun r11_7 =>
   bd (txn_flag x10_1.There) fun r11_9 =>
   gd (decide (r11_7.length + ([r11_9] : List Int).length ≤ 4294967296)) <|
   txn_Put.lp7 fu l7_1 l7_2 l7_4 n_ (r11_7 ++ ([r11_9] : List Int)) (w64 (l7_3 + 1)))
   (some l7_0)
def txn_Put.lp7_post (l7_1 : List TRead) (l7_2 : Int) (l7_4 : TTxn) (r_ : (List Int)) : Wy → St → Prop := fun e τ => match r_ with
  | y0 => e = .exit 0 ∧ τ = ofL [Tm 1 (.ptr 1 0), Tm 3 (sO 1 e_u8 y0), Ob 1 (TTxn.ob l7_4)]
theorem txn_Put.lp7_ok (fu : Nat) (l7_1 : List TRead) (l7_2 : Int) (l7_4 : TTxn) : ∀ (n_ : Nat) (l7_0 : List Int) (l7_3 : Int) (r_ : (List Int)), txn_Put.lp7 fu l7_1 l7_2 l7_4 n_ l7_0 l7_3 = some r_ → WK Try.prog txn_Put.O (Ck Try.prog) (cB (cR (cL (cR (cR (cR bd41)))))) [] (ofL [Tm 1 (.ptr 1 0), Tm 3 (sO 1 e_u8 l7_0), Tm 24 (sS 4 TRead.en l7_1), Tm 25 (iv l7_2), Tm 26 (iv l7_3), Ob 1 (TTxn.ob l7_4)]) (txn_Put.lp7_post l7_1 l7_2 l7_4 r_) := by
 intro n_
 induction n_ with
 | zero => intro l7_0 l7_3 r_ h; exact no_none h
 | succ n_ ih =>
  intro l7_0 l7_3 r_ h
  refine kLp ?_
  refine kRs 63 [Tm 27 (bv (decide (l7_3 < l7_2)))] [] .n ?_
  refine kSq ?_
  rcases br_inv h with ⟨b9_0, h⟩ | ⟨b9_0, h⟩
  ·refine kCt b9_0 ?_
   refine kSk ?_
   refine kCd (cR (cR (cB (cB (cR (cL (cR (cR (cR bd41))))))))) [.lp (cB (cR (cL (cR (cR (cR bd41))))))] ?_
   refine kSq ?_
   refine kBk 1 ?_
   obtain ⟨x10_1, a10_2, e10_3, h⟩ := ix_inv h
   refine kRs 126 [Tm 5 (.ptr 5 0), Ob 5 (TRead.ob x10_1)] [.c (TRead.en x10_1)] (.c (c_ix (e := TRead.en) a10_2 e10_3) (.c (c_el (e := TRead.en) e10_3) .n)) ?_
   obtain ⟨r11_1, h11_2, h⟩ := bd_inv h
   obtain ⟨r11_3, h11_4, h⟩ := bd_inv h
   obtain ⟨r11_5, h11_6, h⟩ := bd_inv h
   obtain ⟨r11_7, h11_8, h⟩ := bd_inv h
   obtain ⟨r11_9, h11_10, h⟩ := bd_inv h
   obtain ⟨c11_11, h⟩ := gd_inv h
   refine kRc 244 [Tm 3 (sO 1 e_u8 (r11_7 ++ ([r11_9] : List Int)))] [.a ⟨sO 1 e_u8 r11_1, []⟩, .a ⟨sO 1 e_u8 r11_3, []⟩, .a ⟨sO 1 e_u8 r11_5, []⟩, .a ⟨sO 1 e_u8 r11_7, []⟩, .a ⟨.data (.val (.int .u8 r11_9)), []⟩, .s (.t 46) [sO 1 e_u8 (r11_7 ++ ([r11_9] : List Int))]] (.c (Asks.of (C := Meets Try.prog) (num_PutText.meets fu x10_1.Key _ h11_2)) (.c (Asks.of (C := Meets Try.prog) (num_Put.meets fu x10_1.Version _ h11_4)) (.c (Asks.of (C := Meets Try.prog) (num_PutText.meets fu x10_1.Val _ h11_6)) (.c (Asks.fg (args1 := []) (args2 := []) (nl := some false) (sz := 1) (es := List.map (e_l 1 e_u8) ([l7_0, r11_1, r11_3, r11_5] : List (List Int))) (Asks.of (C := Meets Try.prog) (slices_Concat_byte_byte.meets fu ([l7_0, r11_1, r11_3, r11_5] : List (List Int)) _ h11_8))) (.c (Asks.of (C := Meets Try.prog) (txn_flag.meets x10_1.There _ h11_10)) (.c (c_al (e := e_u8) (f := e_u8) c11_11) (.c (congrArg (fun d : DV => [AV.data d]) (c_app (e := e_u8) (s := 1) (l := r11_7) (m := ([r11_9] : List Int)))) (.c rT .n)))))))) (cR (cR (cR (cB (cB (cR (cL (cR (cR (cR bd41)))))))))) [.lp (cB (cR (cL (cR (cR (cR bd41))))))] ?_
   refine kRc 47 [Tm 26 (iv (w64 (l7_3 + 1)))] [] .n (cB (cR (cL (cR (cR (cR bd41)))))) [] ?_
   exact kWk (ih (r11_7 ++ ([r11_9] : List Int)) (w64 (l7_3 + 1)) _ h)
  ·refine kCe b9_0 ?_
   cases some_inj h
   refine kWo ?_
   refine kXt 0 ?_
   exact kOut
def txn_Put.lp16 (fu : Nat) (l16_1 : List TWrite) (l16_2 : Int) : Nat → (List Int) → Int → Option (List Int)
  | 0, _, _ => none
  | n_ + 1, l16_0, l16_3 =>
  br (decide (l16_3 < l16_2))
   (ix l16_1 l16_3 fun x19_1 =>
   bd (num_PutText fu x19_1.Key) fun r20_1 =>
   bd (num_PutText fu x19_1.Val) fun r20_3 =>
   bd (slices_Concat_byte_byte fu ([l16_0, r20_1, r20_3] : List (List Int))) fun r20_5 =>
   bd (txn_flag x19_1.Gone) fun r20_7 =>
   gd (decide (r20_5.length + ([r20_7] : List Int).length ≤ 4294967296)) <|
   txn_Put.lp16 fu l16_1 l16_2 n_ (r20_5 ++ ([r20_7] : List Int)) (w64 (l16_3 + 1)))
   (some l16_0)
def txn_Put.lp16_post (l16_1 : List TWrite) (l16_2 : Int) (r_ : (List Int)) : Wy → St → Prop := fun e τ => match r_ with
  | y0 => e = .exit 2 ∧ τ = ofL [Tm 3 (sO 1 e_u8 y0)]
theorem txn_Put.lp16_ok (fu : Nat) (l16_1 : List TWrite) (l16_2 : Int) : ∀ (n_ : Nat) (l16_0 : List Int) (l16_3 : Int) (r_ : (List Int)), txn_Put.lp16 fu l16_1 l16_2 n_ l16_0 l16_3 = some r_ → WK Try.prog txn_Put.O (Ck Try.prog) (cB (cR (cL (cR (cR (cR (cR (cR bd41)))))))) [] (ofL [Tm 3 (sO 1 e_u8 l16_0), Tm 55 (sS 3 TWrite.en l16_1), Tm 56 (iv l16_2), Tm 57 (iv l16_3)]) (txn_Put.lp16_post l16_1 l16_2 r_) := by
 intro n_
 induction n_ with
 | zero => intro l16_0 l16_3 r_ h; exact no_none h
 | succ n_ ih =>
  intro l16_0 l16_3 r_ h
  refine kLp ?_
  refine kRs 15 [Tm 58 (bv (decide (l16_3 < l16_2)))] [] .n ?_
  refine kSq ?_
  rcases br_inv h with ⟨b18_0, h⟩ | ⟨b18_0, h⟩
  ·refine kCt b18_0 ?_
   refine kSk ?_
   refine kCd (cR (cR (cB (cB (cR (cL (cR (cR (cR (cR (cR bd41))))))))))) [.lp (cB (cR (cL (cR (cR (cR (cR (cR bd41))))))))] ?_
   refine kSq ?_
   refine kBk 3 ?_
   obtain ⟨x19_1, a19_2, e19_3, h⟩ := ix_inv h
   refine kRs 30 [Tm 7 (.ptr 7 0), Ob 7 (TWrite.ob x19_1)] [.c (TWrite.en x19_1)] (.c (c_ix (e := TWrite.en) a19_2 e19_3) (.c (c_el (e := TWrite.en) e19_3) .n)) ?_
   obtain ⟨r20_1, h20_2, h⟩ := bd_inv h
   obtain ⟨r20_3, h20_4, h⟩ := bd_inv h
   obtain ⟨r20_5, h20_6, h⟩ := bd_inv h
   obtain ⟨r20_7, h20_8, h⟩ := bd_inv h
   obtain ⟨c20_9, h⟩ := gd_inv h
   refine kRc 56 [Tm 3 (sO 1 e_u8 (r20_5 ++ ([r20_7] : List Int)))] [.a ⟨sO 1 e_u8 r20_1, []⟩, .a ⟨sO 1 e_u8 r20_3, []⟩, .a ⟨sO 1 e_u8 r20_5, []⟩, .a ⟨.data (.val (.int .u8 r20_7)), []⟩, .s (.t 74) [sO 1 e_u8 (r20_5 ++ ([r20_7] : List Int))]] (.c (Asks.of (C := Meets Try.prog) (num_PutText.meets fu x19_1.Key _ h20_2)) (.c (Asks.of (C := Meets Try.prog) (num_PutText.meets fu x19_1.Val _ h20_4)) (.c (Asks.fg (args1 := []) (args2 := []) (nl := some false) (sz := 1) (es := List.map (e_l 1 e_u8) ([l16_0, r20_1, r20_3] : List (List Int))) (Asks.of (C := Meets Try.prog) (slices_Concat_byte_byte.meets fu ([l16_0, r20_1, r20_3] : List (List Int)) _ h20_6))) (.c (Asks.of (C := Meets Try.prog) (txn_flag.meets x19_1.Gone _ h20_8)) (.c (c_al (e := e_u8) (f := e_u8) c20_9) (.c (congrArg (fun d : DV => [AV.data d]) (c_app (e := e_u8) (s := 1) (l := r20_5) (m := ([r20_7] : List Int)))) (.c rT .n))))))) (cR (cR (cR (cB (cB (cR (cL (cR (cR (cR (cR (cR bd41)))))))))))) [.lp (cB (cR (cL (cR (cR (cR (cR (cR bd41))))))))] ?_
   refine kRc 7 [Tm 57 (iv (w64 (l16_3 + 1)))] [] .n (cB (cR (cL (cR (cR (cR (cR (cR bd41)))))))) [] ?_
   exact kWk (ih (r20_5 ++ ([r20_7] : List Int)) (w64 (l16_3 + 1)) _ h)
  ·refine kCe b18_0 ?_
   cases some_inj h
   refine kWo ?_
   refine kXt 2 ?_
   exact kOut
def txn_Put (fu : Nat) (t : TTxn) : Option (List Int) :=
 bd (txn_May fu t) fun r2_1 =>
 br (!r2_1)
  (some [])
  (bd (num_Put fu t.Session) fun r5_1 =>
  bd (num_Put fu t.Seq) fun r5_3 =>
  bd (num_Put fu (t.Reads.length : Int)) fun r5_5 =>
  bd (slices_Concat_byte_byte fu ([r5_1, r5_3, r5_5] : List (List Int))) fun r5_7 =>
  bd (txn_Put.lp7 fu t.Reads (t.Reads.length : Int) t fu r5_7 0) fun y13_0 =>
  bd (num_Put fu (t.Writes.length : Int)) fun r14_1 =>
  gd (decide (y13_0.length + r14_1.length ≤ 4294967296)) <|
  bd (txn_Put.lp16 fu t.Writes (t.Writes.length : Int) fu (y13_0 ++ r14_1) 0) fun y22_0 =>
  gd (!y22_0.isEmpty) <|
  some y22_0)
theorem txn_Put.meets (fu : Nat) (t : TTxn) (z0 : List Int) (h : txn_Put fu t = some z0) : Meets Try.prog ⟨41, [.data (TTxn.ag t)], []⟩ ⟨.data (.slc true (some z0.isEmpty) 1 (List.map e_u8 z0)), []⟩ := by
 refine kMt hmix txn_Put.O Try.f41 bd41 1 ?_
 unfold txn_Put at h
 refine kRs 0 [Tm 1 (.ptr 1 0), Ob 1 (TTxn.ob t)] [] .n ?_
 refine kSq ?_
 obtain ⟨r2_1, h2_2, h⟩ := bd_inv h
 refine kRs 3 [Tm 10 (bv (!r2_1))] [.a ⟨bv r2_1, []⟩] (.c (Asks.of (C := Meets Try.prog) (txn_May.meets fu t _ h2_2)) .n) ?_
 rcases br_inv h with ⟨b3_0, h⟩ | ⟨b3_0, h⟩
 ·refine kCt b3_0 ?_
  refine kRs 0 [Tm 2 (.data (.slc true (some true) 1 (List.map e_u8 [])))] [] .n ?_
  refine kRt ?_
  have h_ := some_inj h
  subst h_
  exact kFr
 ·refine kCe b3_0 ?_
  refine kSk ?_
  refine kCd (cR (cR bd41)) [] ?_
  obtain ⟨r5_1, h5_2, h⟩ := bd_inv h
  obtain ⟨r5_3, h5_4, h⟩ := bd_inv h
  obtain ⟨r5_5, h5_6, h⟩ := bd_inv h
  obtain ⟨r5_7, h5_8, h⟩ := bd_inv h
  refine kRs 6 [Tm 3 (sO 1 e_u8 r5_7)] [.a ⟨sO 1 e_u8 r5_1, []⟩, .a ⟨sO 1 e_u8 r5_3, []⟩, .s (.t 19) [iv (t.Reads.length : Int)], .a ⟨sO 1 e_u8 r5_5, []⟩, .a ⟨sO 1 e_u8 r5_7, []⟩] (.c (Asks.of (C := Meets Try.prog) (num_Put.meets fu t.Session _ h5_2)) (.c (Asks.of (C := Meets Try.prog) (num_Put.meets fu t.Seq _ h5_4)) (.c (c_len (e := TRead.en) (l := t.Reads)) (.c (Asks.of (C := Meets Try.prog) (num_Put.meets fu (t.Reads.length : Int) _ h5_6)) (.c (Asks.fg (args1 := []) (args2 := []) (nl := some false) (sz := 1) (es := List.map (e_l 1 e_u8) ([r5_1, r5_3, r5_5] : List (List Int))) (Asks.of (C := Meets Try.prog) (slices_Concat_byte_byte.meets fu ([r5_1, r5_3, r5_5] : List (List Int)) _ h5_8))) (.c rT .n)))))) ?_
  refine kSq ?_
  refine kRs 7 [Tm 24 (sS 4 TRead.en t.Reads), Tm 25 (iv (t.Reads.length : Int)), Tm 26 (iv 0)] [.s (.t 25) [iv (t.Reads.length : Int)]] (.c (c_len (e := TRead.en) (l := t.Reads)) .n) ?_
  refine kBk 0 ?_
  obtain ⟨o13, ho13, h⟩ := bd_inv h
  refine kUs (txn_Put.lp7_ok fu t.Reads (t.Reads.length : Int) t _ r5_7 0 _ ho13) ?_
  intro e_ τ_ hp_
  obtain ⟨y13_0, rfl⟩ : ∃ y, y = o13 := ⟨_, rfl⟩
  obtain ⟨rfl, rfl⟩ := hp_
  refine kCd (cR (cR (cR (cR bd41)))) [] ?_
  obtain ⟨r14_1, h14_2, h⟩ := bd_inv h
  obtain ⟨c14_3, h⟩ := gd_inv h
  refine kRs 5 [Tm 3 (sO 1 e_u8 (y13_0 ++ r14_1))] [.s (.t 51) [iv (t.Writes.length : Int)], .a ⟨sO 1 e_u8 r14_1, []⟩, .s (.t 53) [sO 1 e_u8 (y13_0 ++ r14_1)]] (.c (c_len (e := TWrite.en) (l := t.Writes)) (.c (Asks.of (C := Meets Try.prog) (num_Put.meets fu (t.Writes.length : Int) _ h14_2)) (.c (c_al (e := e_u8) (f := e_u8) c14_3) (.c (congrArg (fun d : DV => [AV.data d]) (c_app (e := e_u8) (s := 1) (l := y13_0) (m := r14_1))) .n)))) ?_
  refine kSq ?_
  refine kRs 1 [Tm 55 (sS 3 TWrite.en t.Writes), Tm 56 (iv (t.Writes.length : Int)), Tm 57 (iv 0)] [.s (.t 56) [iv (t.Writes.length : Int)]] (.c (c_len (e := TWrite.en) (l := t.Writes)) .n) ?_
  refine kBk 2 ?_
  obtain ⟨o22, ho22, h⟩ := bd_inv h
  refine kUs (txn_Put.lp16_ok fu t.Writes (t.Writes.length : Int) _ (y13_0 ++ r14_1) 0 _ ho22) ?_
  intro e_ τ_ hp_
  obtain ⟨y22_0, rfl⟩ : ∃ y, y = o22 := ⟨_, rfl⟩
  obtain ⟨rfl, rfl⟩ := hp_
  refine kCd (cR (cR (cR (cR (cR (cR bd41)))))) [] ?_
  refine kRs 0 [Tm 2 (sO 1 e_u8 y22_0)] [] .n ?_
  obtain ⟨c_nil1, h⟩ := gd_inv h
  refine WK.nilk (t := 2) (sz := 1) (own := true) (en := e_u8) (L := y22_0) (l' := [Tm 2 (.data (.slc true (some y22_0.isEmpty) 1 (List.map e_u8 y22_0)))]) (by kernel_rfl) c_nil1 (wk_of (by kernel_rfl)) ?_
  refine kRt ?_
  have h_ := some_inj h
  subst h_
  exact kFr
def bd42 : Code := (Try.f42.body).getD .skip
def msg_writer_text.O : Nat → Nat := fun t => bif ([11] : List Nat).any (Nat.beq t) then 1 else 0
def msg_writer_text (fu : Nat) (s : ByteArray) (o0_v : TWriter) : Option TWriter :=
 bd (num_PutText fu s) fun r1_1 =>
 gd (decide (o0_v.b.length + r1_1.length ≤ 4294967296)) <|
 some (TWriter.mk (o0_v.b ++ r1_1))
theorem msg_writer_text.meets (fu : Nat) (s : ByteArray) (o0_v : TWriter) (z0 : TWriter) (h : msg_writer_text fu s o0_v = some z0) : Meets Try.prog ⟨42, [.ptr 1000 0, sv s], [[sO 1 e_u8 o0_v.b]]⟩ ⟨.tup [], [[sO 1 e_u8 z0.b]]⟩ := by
 refine kMt hmix msg_writer_text.O Try.f42 bd42 7 ?_
 unfold msg_writer_text at h
 obtain ⟨r1_1, h1_2, h⟩ := bd_inv h
 obtain ⟨c1_3, h⟩ := gd_inv h
 have h_ := some_inj h
 subst h_
 exact kRf [.a ⟨sO 1 e_u8 r1_1, []⟩, .s (.t 11) [sO 1 e_u8 (o0_v.b ++ r1_1)]] (.c (Asks.of (C := Meets Try.prog) (num_PutText.meets fu s _ h1_2)) (.c (c_al (e := e_u8) (f := e_u8) c1_3) (.c (congrArg (fun d : DV => [AV.data d]) (c_app (e := e_u8) (s := 1) (l := o0_v.b) (m := r1_1))) (.c rT .n))))
def bd12 : Code := (Try.f12.body).getD .skip
def msg_Put.O : Nat → Nat := fun t => bif ([1, 2, 3, 5, 7, 9, 13, 14, 24, 38, 50, 67, 82, 101, 118, 134, 148] : List Nat).any (Nat.beq t) then 1 else 0
def msg_Put.lp11 (fu : Nat) (l11_0 : List TEntry) (l11_1 : Int) (l11_3 : TMsg) : Nat → Int → TWriter → Option TWriter
  | 0, _, _ => none
  | n_ + 1, l11_2, l11_4 =>
  br (decide (l11_2 < l11_1))
   (ix l11_0 l11_2 fun x14_1 =>
   bd (msg_writer_num fu ([x14_1.Term] : List Int) l11_4) fun r15_1 =>
   bd (msg_writer_flag fu x14_1.Seal r15_1) fun r16_1 =>
   br (!x14_1.Seal)
    (bd (txn_Put fu x14_1.T) fun r19_1 =>
    gd (decide (r16_1.b.length + r19_1.length ≤ 4294967296)) <|
    msg_Put.lp11 fu l11_0 l11_1 l11_3 n_ (w64 (l11_2 + 1)) (TWriter.mk (r16_1.b ++ r19_1)))
    (msg_Put.lp11 fu l11_0 l11_1 l11_3 n_ (w64 (l11_2 + 1)) r16_1))
   (some l11_4)
def msg_Put.lp11_post (l11_0 : List TEntry) (l11_1 : Int) (l11_3 : TMsg) (r_ : TWriter) : Wy → St → Prop := fun e τ => match r_ with
  | y0 => e = .exit 0 ∧ τ = ofL [Tm 1 (.ptr 1 0), Tm 3 (.ptr 14 0), Ob 1 (TMsg.ob l11_3), Ob 14 [sO 1 e_u8 y0.b]]
theorem msg_Put.lp11_ok (fu : Nat) (l11_0 : List TEntry) (l11_1 : Int) (l11_3 : TMsg) : ∀ (n_ : Nat) (l11_2 : Int) (l11_4 : TWriter) (r_ : TWriter), msg_Put.lp11 fu l11_0 l11_1 l11_3 n_ l11_2 l11_4 = some r_ → WK Try.prog msg_Put.O (Ck Try.prog) (cB (cR (cL (cR (cR (cR (cR (cR (cR (cR bd12)))))))))) [] (ofL [Tm 1 (.ptr 1 0), Tm 3 (.ptr 14 0), Tm 41 (sS 6 TEntry.en l11_0), Tm 42 (iv l11_1), Tm 43 (iv l11_2), Ob 1 (TMsg.ob l11_3), Ob 14 [sO 1 e_u8 l11_4.b]]) (msg_Put.lp11_post l11_0 l11_1 l11_3 r_) := by
 intro n_
 induction n_ with
 | zero => intro l11_2 l11_4 r_ h; exact no_none h
 | succ n_ ih =>
  intro l11_2 l11_4 r_ h
  refine kLp ?_
  refine kRs 127 [Tm 44 (bv (decide (l11_2 < l11_1)))] [] .n ?_
  refine kSq ?_
  rcases br_inv h with ⟨b13_0, h⟩ | ⟨b13_0, h⟩
  ·refine kCt b13_0 ?_
   refine kSk ?_
   refine kCd (cR (cR (cB (cB (cR (cL (cR (cR (cR (cR (cR (cR (cR bd12))))))))))))) [.lp (cB (cR (cL (cR (cR (cR (cR (cR (cR (cR bd12))))))))))] ?_
   refine kSq ?_
   refine kBk 1 ?_
   obtain ⟨x14_1, a14_2, e14_3, h⟩ := ix_inv h
   refine kRs 254 [Tm 5 (.ptr 5 0), Ob 5 (TEntry.ob x14_1)] [.c (TEntry.en x14_1)] (.c (c_ix (e := TEntry.en) a14_2 e14_3) (.c (c_el (e := TEntry.en) e14_3) .n)) ?_
   obtain ⟨r15_1, h15_2, h⟩ := bd_inv h
   refine kRs 255 [Ob 14 [sO 1 e_u8 r15_1.b]] [.a ⟨.tup [], [[sO 1 e_u8 r15_1.b]]⟩] (.c (Asks.fg (args1 := [.ptr 1000 0]) (args2 := []) (nl := some false) (sz := 1) (es := List.map e_i64 ([x14_1.Term] : List Int)) (Asks.of (C := Meets Try.prog) (msg_writer_num.meets fu ([x14_1.Term] : List Int) l11_4 _ h15_2))) .n) ?_
   obtain ⟨r16_1, h16_2, h⟩ := bd_inv h
   refine kRs 510 [Ob 14 [sO 1 e_u8 r16_1.b]] [.a ⟨.tup [], [[sO 1 e_u8 r16_1.b]]⟩] (.c (Asks.of (C := Meets Try.prog) (msg_writer_flag.meets fu x14_1.Seal r15_1 _ h16_2)) .n) ?_
   refine kRs 511 [Tm 58 (bv (!x14_1.Seal))] [] .n ?_
   rcases br_inv h with ⟨b18_0, h⟩ | ⟨b18_0, h⟩
   ·refine kCt b18_0 ?_
    obtain ⟨r19_1, h19_2, h⟩ := bd_inv h
    obtain ⟨c19_3, h⟩ := gd_inv h
    refine kRc 1008 [Ob 14 [sO 1 e_u8 (r16_1.b ++ r19_1)]] [.a ⟨.data (.slc true (some r19_1.isEmpty) 1 (List.map e_u8 r19_1)), []⟩, .s (.t 67) [sO 1 e_u8 (r16_1.b ++ r19_1)]] (.c (Asks.of (C := Meets Try.prog) (txn_Put.meets fu x14_1.T _ h19_2)) (.c (c_al (e := e_u8) (f := e_u8) c19_3) (.c (congrArg (fun d : DV => [AV.data d]) (c_app (e := e_u8) (s := 1) (l := r16_1.b) (m := r19_1))) (.c rT .n)))) (cR (cR (cR (cB (cB (cR (cL (cR (cR (cR (cR (cR (cR (cR bd12)))))))))))))) [.lp (cB (cR (cL (cR (cR (cR (cR (cR (cR (cR bd12))))))))))] ?_
    refine kRc 95 [Tm 43 (iv (w64 (l11_2 + 1)))] [] .n (cB (cR (cL (cR (cR (cR (cR (cR (cR (cR bd12)))))))))) [] ?_
    exact kWk (ih (w64 (l11_2 + 1)) (TWriter.mk (r16_1.b ++ r19_1)) _ h)
   ·refine kCe b18_0 ?_
    refine kSk ?_
    refine kCd (cR (cR (cR (cB (cB (cR (cL (cR (cR (cR (cR (cR (cR (cR bd12)))))))))))))) [.lp (cB (cR (cL (cR (cR (cR (cR (cR (cR (cR bd12))))))))))] ?_
    refine kRc 754 [Tm 43 (iv (w64 (l11_2 + 1)))] [] .n (cB (cR (cL (cR (cR (cR (cR (cR (cR (cR bd12)))))))))) [] ?_
    exact kWk (ih (w64 (l11_2 + 1)) r16_1 _ h)
  ·refine kCe b13_0 ?_
   cases some_inj h
   refine kWo ?_
   refine kXt 0 ?_
   exact kOut
def msg_Put.lp32 (fu : Nat) (l32_0 : List ByteArray) (l32_1 : Int) (l32_3 : TMsg) : Nat → Int → TWriter → Option TWriter
  | 0, _, _ => none
  | n_ + 1, l32_2, l32_4 =>
  br (decide (l32_2 < l32_1))
   (ix l32_0 l32_2 fun x35_1 =>
   bd (msg_writer_text fu x35_1 l32_4) fun r36_1 =>
   msg_Put.lp32 fu l32_0 l32_1 l32_3 n_ (w64 (l32_2 + 1)) r36_1)
   (some l32_4)
def msg_Put.lp32_post (l32_0 : List ByteArray) (l32_1 : Int) (l32_3 : TMsg) (r_ : TWriter) : Wy → St → Prop := fun e τ => match r_ with
  | y0 => e = .exit 2 ∧ τ = ofL [Tm 1 (.ptr 1 0), Tm 3 (.ptr 14 0), Ob 1 (TMsg.ob l32_3), Ob 14 [sO 1 e_u8 y0.b]]
theorem msg_Put.lp32_ok (fu : Nat) (l32_0 : List ByteArray) (l32_1 : Int) (l32_3 : TMsg) : ∀ (n_ : Nat) (l32_2 : Int) (l32_4 : TWriter) (r_ : TWriter), msg_Put.lp32 fu l32_0 l32_1 l32_3 n_ l32_2 l32_4 = some r_ → WK Try.prog msg_Put.O (Ck Try.prog) (cB (cR (cL (cR (cR (cR (cR (cR (cR (cR (cR (cR (cR (cR (cR (cR bd12)))))))))))))))) [] (ofL [Tm 1 (.ptr 1 0), Tm 3 (.ptr 14 0), Tm 104 (sS 1 e_s l32_0), Tm 105 (iv l32_1), Tm 106 (iv l32_2), Ob 1 (TMsg.ob l32_3), Ob 14 [sO 1 e_u8 l32_4.b]]) (msg_Put.lp32_post l32_0 l32_1 l32_3 r_) := by
 intro n_
 induction n_ with
 | zero => intro l32_2 l32_4 r_ h; exact no_none h
 | succ n_ ih =>
  intro l32_2 l32_4 r_ h
  refine kLp ?_
  refine kRs 127 [Tm 107 (bv (decide (l32_2 < l32_1)))] [] .n ?_
  refine kSq ?_
  rcases br_inv h with ⟨b34_0, h⟩ | ⟨b34_0, h⟩
  ·refine kCt b34_0 ?_
   refine kSk ?_
   refine kCd (cR (cR (cB (cB (cR (cL (cR (cR (cR (cR (cR (cR (cR (cR (cR (cR (cR (cR (cR bd12))))))))))))))))))) [.lp (cB (cR (cL (cR (cR (cR (cR (cR (cR (cR (cR (cR (cR (cR (cR (cR bd12))))))))))))))))] ?_
   refine kSq ?_
   refine kBk 3 ?_
   obtain ⟨x35_1, a35_2, e35_3, h⟩ := ix_inv h
   refine kRs 254 [Tm 7 (sv x35_1)] [.c (e_s x35_1)] (.c (c_ix (e := e_s) a35_2 e35_3) (.c (c_el (e := e_s) e35_3) .n)) ?_
   obtain ⟨r36_1, h36_2, h⟩ := bd_inv h
   refine kRc 126 [Ob 14 [sO 1 e_u8 r36_1.b]] [.a ⟨.tup [], [[sO 1 e_u8 r36_1.b]]⟩] (.c (Asks.of (C := Meets Try.prog) (msg_writer_text.meets fu x35_1 l32_4 _ h36_2)) .n) (cR (cR (cR (cB (cB (cR (cL (cR (cR (cR (cR (cR (cR (cR (cR (cR (cR (cR (cR (cR bd12)))))))))))))))))))) [.lp (cB (cR (cL (cR (cR (cR (cR (cR (cR (cR (cR (cR (cR (cR (cR (cR bd12))))))))))))))))] ?_
   refine kRc 95 [Tm 106 (iv (w64 (l32_2 + 1)))] [] .n (cB (cR (cL (cR (cR (cR (cR (cR (cR (cR (cR (cR (cR (cR (cR (cR bd12)))))))))))))))) [] ?_
   exact kWk (ih (w64 (l32_2 + 1)) r36_1 _ h)
  ·refine kCe b34_0 ?_
   cases some_inj h
   refine kWo ?_
   refine kXt 2 ?_
   exact kOut
def msg_Put.lp41 (fu : Nat) (l41_0 : List TRead) (l41_1 : Int) (l41_3 : TMsg) : Nat → Int → TWriter → Option TWriter
  | 0, _, _ => none
  | n_ + 1, l41_2, l41_4 =>
  br (decide (l41_2 < l41_1))
   (ix l41_0 l41_2 fun x44_1 =>
   bd (msg_writer_text fu x44_1.Key l41_4) fun r45_1 =>
   bd (msg_writer_num fu ([x44_1.Version] : List Int) r45_1) fun r46_1 =>
   bd (msg_writer_text fu x44_1.Val r46_1) fun r47_1 =>
   bd (msg_writer_flag fu x44_1.There r47_1) fun r48_1 =>
   msg_Put.lp41 fu l41_0 l41_1 l41_3 n_ (w64 (l41_2 + 1)) r48_1)
   (some l41_4)
def msg_Put.lp41_post (l41_0 : List TRead) (l41_1 : Int) (l41_3 : TMsg) (r_ : TWriter) : Wy → St → Prop := fun e τ => match r_ with
  | y0 => e = .exit 4 ∧ τ = ofL [Tm 1 (.ptr 1 0), Tm 3 (.ptr 14 0), Ob 1 (TMsg.ob l41_3), Ob 14 [sO 1 e_u8 y0.b]]
theorem msg_Put.lp41_ok (fu : Nat) (l41_0 : List TRead) (l41_1 : Int) (l41_3 : TMsg) : ∀ (n_ : Nat) (l41_2 : Int) (l41_4 : TWriter) (r_ : TWriter), msg_Put.lp41 fu l41_0 l41_1 l41_3 n_ l41_2 l41_4 = some r_ → WK Try.prog msg_Put.O (Ck Try.prog) (cB (cR (cL (cR (cR (cR (cR (cR (cR (cR (cR (cR (cR (cR (cR (cR (cR (cR bd12)))))))))))))))))) [] (ofL [Tm 1 (.ptr 1 0), Tm 3 (.ptr 14 0), Tm 121 (sS 4 TRead.en l41_0), Tm 122 (iv l41_1), Tm 123 (iv l41_2), Ob 1 (TMsg.ob l41_3), Ob 14 [sO 1 e_u8 l41_4.b]]) (msg_Put.lp41_post l41_0 l41_1 l41_3 r_) := by
 intro n_
 induction n_ with
 | zero => intro l41_2 l41_4 r_ h; exact no_none h
 | succ n_ ih =>
  intro l41_2 l41_4 r_ h
  refine kLp ?_
  refine kRs 127 [Tm 124 (bv (decide (l41_2 < l41_1)))] [] .n ?_
  refine kSq ?_
  rcases br_inv h with ⟨b43_0, h⟩ | ⟨b43_0, h⟩
  ·refine kCt b43_0 ?_
   refine kSk ?_
   refine kCd (cR (cR (cB (cB (cR (cL (cR (cR (cR (cR (cR (cR (cR (cR (cR (cR (cR (cR (cR (cR (cR bd12))))))))))))))))))))) [.lp (cB (cR (cL (cR (cR (cR (cR (cR (cR (cR (cR (cR (cR (cR (cR (cR (cR (cR bd12))))))))))))))))))] ?_
   refine kSq ?_
   refine kBk 5 ?_
   obtain ⟨x44_1, a44_2, e44_3, h⟩ := ix_inv h
   refine kRs 254 [Tm 9 (.ptr 9 0), Ob 9 (TRead.ob x44_1)] [.c (TRead.en x44_1)] (.c (c_ix (e := TRead.en) a44_2 e44_3) (.c (c_el (e := TRead.en) e44_3) .n)) ?_
   obtain ⟨r45_1, h45_2, h⟩ := bd_inv h
   refine kRs 255 [Ob 14 [sO 1 e_u8 r45_1.b]] [.a ⟨.tup [], [[sO 1 e_u8 r45_1.b]]⟩] (.c (Asks.of (C := Meets Try.prog) (msg_writer_text.meets fu x44_1.Key l41_4 _ h45_2)) .n) ?_
   obtain ⟨r46_1, h46_2, h⟩ := bd_inv h
   refine kRs 510 [Ob 14 [sO 1 e_u8 r46_1.b]] [.a ⟨.tup [], [[sO 1 e_u8 r46_1.b]]⟩] (.c (Asks.fg (args1 := [.ptr 1000 0]) (args2 := []) (nl := some false) (sz := 1) (es := List.map e_i64 ([x44_1.Version] : List Int)) (Asks.of (C := Meets Try.prog) (msg_writer_num.meets fu ([x44_1.Version] : List Int) r45_1 _ h46_2))) .n) ?_
   obtain ⟨r47_1, h47_2, h⟩ := bd_inv h
   refine kRs 510 [Ob 14 [sO 1 e_u8 r47_1.b]] [.a ⟨.tup [], [[sO 1 e_u8 r47_1.b]]⟩] (.c (Asks.of (C := Meets Try.prog) (msg_writer_text.meets fu x44_1.Val r46_1 _ h47_2)) .n) ?_
   obtain ⟨r48_1, h48_2, h⟩ := bd_inv h
   refine kRc 504 [Ob 14 [sO 1 e_u8 r48_1.b]] [.a ⟨.tup [], [[sO 1 e_u8 r48_1.b]]⟩] (.c (Asks.of (C := Meets Try.prog) (msg_writer_flag.meets fu x44_1.There r47_1 _ h48_2)) .n) (cR (cR (cR (cB (cB (cR (cL (cR (cR (cR (cR (cR (cR (cR (cR (cR (cR (cR (cR (cR (cR (cR bd12)))))))))))))))))))))) [.lp (cB (cR (cL (cR (cR (cR (cR (cR (cR (cR (cR (cR (cR (cR (cR (cR (cR (cR bd12))))))))))))))))))] ?_
   refine kRc 95 [Tm 123 (iv (w64 (l41_2 + 1)))] [] .n (cB (cR (cL (cR (cR (cR (cR (cR (cR (cR (cR (cR (cR (cR (cR (cR (cR (cR bd12)))))))))))))))))) [] ?_
   exact kWk (ih (w64 (l41_2 + 1)) r48_1 _ h)
  ·refine kCe b43_0 ?_
   cases some_inj h
   refine kWo ?_
   refine kXt 4 ?_
   exact kOut
def msg_Put (fu : Nat) (m : TMsg) : Option (List Int) :=
 bd (msg_May fu m) fun r2_1 =>
 br (!r2_1)
  (some [])
  (bd (msg_writer_num fu ([m.Kind, m.From, m.To, m.Part] : List Int) (TWriter.mk [])) fun r6_1 =>
  bd (msg_numbers m) fun r7_1 =>
  bd (msg_writer_num fu r7_1 r6_1) fun r7_3 =>
  bd (msg_writer_flag fu m.OK r7_3) fun r8_1 =>
  bd (msg_writer_num fu ([(m.Entries.length : Int)] : List Int) r8_1) fun r9_1 =>
  bd (msg_Put.lp11 fu m.Entries (m.Entries.length : Int) m fu 0 r9_1) fun y22_0 =>
  jn (fun (j26_1 : TWriter) =>
   bd (msg_writer_flag fu m.Span j26_1) fun r27_1 =>
   bd (msg_writer_text fu m.FromKey r27_1) fun r28_1 =>
   bd (msg_writer_text fu m.ToKey r28_1) fun r29_1 =>
   bd (msg_writer_num fu ([(m.Keys.length : Int)] : List Int) r29_1) fun r30_1 =>
   bd (msg_Put.lp32 fu m.Keys (m.Keys.length : Int) m fu 0 r30_1) fun y38_0 =>
   bd (msg_writer_num fu ([(m.Got.length : Int)] : List Int) y38_0) fun r39_1 =>
   bd (msg_Put.lp41 fu m.Got (m.Got.length : Int) m fu 0 r39_1) fun y50_0 =>
   bd (msg_writer_num fu ([m.Err] : List Int) y50_0) fun r51_1 =>
   gd (!r51_1.b.isEmpty) <|
   some r51_1.b) fun k26 =>
  br (m.Kind == 5)
   (bd (txn_Put fu m.T) fun r25_1 =>
   gd (decide (y22_0.b.length + r25_1.length ≤ 4294967296)) <|
   k26 (TWriter.mk (y22_0.b ++ r25_1)))
   (k26 y22_0))
theorem msg_Put.meets (fu : Nat) (m : TMsg) (z0 : List Int) (h : msg_Put fu m = some z0) : Meets Try.prog ⟨12, [.data (TMsg.ag m)], []⟩ ⟨.data (.slc true (some z0.isEmpty) 1 (List.map e_u8 z0)), []⟩ := by
 refine kMt hmix msg_Put.O Try.f12 bd12 1 ?_
 unfold msg_Put at h
 refine kRs 0 [Tm 1 (.ptr 1 0), Ob 1 (TMsg.ob m)] [] .n ?_
 refine kSq ?_
 obtain ⟨r2_1, h2_2, h⟩ := bd_inv h
 refine kRs 3 [Tm 12 (bv (!r2_1))] [.a ⟨bv r2_1, []⟩] (.c (Asks.of (C := Meets Try.prog) (msg_May.meets fu m _ h2_2)) .n) ?_
 rcases br_inv h with ⟨b3_0, h⟩ | ⟨b3_0, h⟩
 ·refine kCt b3_0 ?_
  refine kRs 0 [Tm 2 (.data (.slc true (some true) 1 (List.map e_u8 [])))] [] .n ?_
  refine kRt ?_
  have h_ := some_inj h
  subst h_
  exact kFr
 ·refine kCe b3_0 ?_
  refine kSk ?_
  refine kCd (cR (cR bd12)) [] ?_
  refine kRs 6 [Tm 3 (.ptr 14 0), Ob 14 [.data (.slc true none 1 (List.map e_u8 []))]] [] .n ?_
  obtain ⟨r6_1, h6_2, h⟩ := bd_inv h
  refine kRs 13 [Ob 14 [sO 1 e_u8 r6_1.b]] [.a ⟨.tup [], [[sO 1 e_u8 r6_1.b]]⟩] (.c (Asks.fg (args1 := [.ptr 1000 0]) (args2 := []) (nl := some false) (sz := 1) (es := List.map e_i64 ([m.Kind, m.From, m.To, m.Part] : List Int)) (Asks.of (C := Meets Try.prog) (msg_writer_num.meets fu ([m.Kind, m.From, m.To, m.Part] : List Int) (TWriter.mk []) _ h6_2))) .n) ?_
  obtain ⟨r7_1, h7_2, h⟩ := bd_inv h
  obtain ⟨r7_3, h7_4, h⟩ := bd_inv h
  refine kRs 14 [Ob 14 [sO 1 e_u8 r7_3.b]] [.a ⟨.data (.slc true (some false) 1 (List.map e_i64 r7_1)), []⟩, .a ⟨.tup [], [[sO 1 e_u8 r7_3.b]]⟩] (.c (Asks.of (C := Meets Try.prog) (msg_numbers.meets m _ h7_2)) (.c (Asks.fg (args1 := [.ptr 1000 0]) (args2 := []) (nl := some false) (sz := 1) (es := List.map e_i64 r7_1) (Asks.of (C := Meets Try.prog) (msg_writer_num.meets fu r7_1 r6_1 _ h7_4))) .n)) ?_
  obtain ⟨r8_1, h8_2, h⟩ := bd_inv h
  refine kRs 14 [Ob 14 [sO 1 e_u8 r8_1.b]] [.a ⟨.tup [], [[sO 1 e_u8 r8_1.b]]⟩] (.c (Asks.of (C := Meets Try.prog) (msg_writer_flag.meets fu m.OK r7_3 _ h8_2)) .n) ?_
  obtain ⟨r9_1, h9_2, h⟩ := bd_inv h
  refine kRs 14 [Ob 14 [sO 1 e_u8 r9_1.b]] [.s (.t 37) [iv (m.Entries.length : Int)], .a ⟨.tup [], [[sO 1 e_u8 r9_1.b]]⟩] (.c (c_len (e := TEntry.en) (l := m.Entries)) (.c (Asks.fg (args1 := [.ptr 1000 0]) (args2 := []) (nl := some false) (sz := 1) (es := List.map e_i64 ([(m.Entries.length : Int)] : List Int)) (Asks.of (C := Meets Try.prog) (msg_writer_num.meets fu ([(m.Entries.length : Int)] : List Int) r8_1 _ h9_2))) .n)) ?_
  refine kSq ?_
  refine kRs 15 [Tm 41 (sS 6 TEntry.en m.Entries), Tm 42 (iv (m.Entries.length : Int)), Tm 43 (iv 0)] [.s (.t 42) [iv (m.Entries.length : Int)]] (.c (c_len (e := TEntry.en) (l := m.Entries)) .n) ?_
  refine kBk 0 ?_
  obtain ⟨o22, ho22, h⟩ := bd_inv h
  refine kUs (msg_Put.lp11_ok fu m.Entries (m.Entries.length : Int) m _ 0 r9_1 _ ho22) ?_
  intro e_ τ_ hp_
  obtain ⟨y22_0, rfl⟩ : ∃ y, y = o22 := ⟨_, rfl⟩
  obtain ⟨rfl, rfl⟩ := hp_
  refine kCd (cR (cR (cR (cR (cR (cR (cR (cR bd12)))))))) [] ?_
  obtain ⟨k26, hk26, h⟩ := jn_inv h
  have Jk26 : ∀ (j26_1 : TWriter), k26 j26_1 = some z0 → WK Try.prog msg_Put.O (Ck Try.prog) (cR (cR (cR (cR (cR (cR (cR (cR (cR bd12))))))))) [] (ofL [Tm 1 (.ptr 1 0), Tm 3 (.ptr 14 0), Ob 1 (TMsg.ob m), Ob 14 [sO 1 e_u8 j26_1.b]]) (Fin Try.prog msg_Put.O Try.f12 0 ⟨.data (.slc true (some z0.isEmpty) 1 (List.map e_u8 z0)), []⟩) := by
   intro j26_1 h
   rw [hk26] at h
   obtain ⟨r27_1, h27_2, h⟩ := bd_inv h
   refine kRs 7 [Ob 14 [sO 1 e_u8 r27_1.b]] [.a ⟨.tup [], [[sO 1 e_u8 r27_1.b]]⟩] (.c (Asks.of (C := Meets Try.prog) (msg_writer_flag.meets fu m.Span j26_1 _ h27_2)) .n) ?_
   obtain ⟨r28_1, h28_2, h⟩ := bd_inv h
   refine kRs 14 [Ob 14 [sO 1 e_u8 r28_1.b]] [.a ⟨.tup [], [[sO 1 e_u8 r28_1.b]]⟩] (.c (Asks.of (C := Meets Try.prog) (msg_writer_text.meets fu m.FromKey r27_1 _ h28_2)) .n) ?_
   obtain ⟨r29_1, h29_2, h⟩ := bd_inv h
   refine kRs 14 [Ob 14 [sO 1 e_u8 r29_1.b]] [.a ⟨.tup [], [[sO 1 e_u8 r29_1.b]]⟩] (.c (Asks.of (C := Meets Try.prog) (msg_writer_text.meets fu m.ToKey r28_1 _ h29_2)) .n) ?_
   obtain ⟨r30_1, h30_2, h⟩ := bd_inv h
   refine kRs 14 [Ob 14 [sO 1 e_u8 r30_1.b]] [.s (.t 100) [iv (m.Keys.length : Int)], .a ⟨.tup [], [[sO 1 e_u8 r30_1.b]]⟩] (.c (c_len (e := e_s) (l := m.Keys)) (.c (Asks.fg (args1 := [.ptr 1000 0]) (args2 := []) (nl := some false) (sz := 1) (es := List.map e_i64 ([(m.Keys.length : Int)] : List Int)) (Asks.of (C := Meets Try.prog) (msg_writer_num.meets fu ([(m.Keys.length : Int)] : List Int) r29_1 _ h30_2))) .n)) ?_
   refine kSq ?_
   refine kRs 15 [Tm 104 (sS 1 e_s m.Keys), Tm 105 (iv (m.Keys.length : Int)), Tm 106 (iv 0)] [.s (.t 105) [iv (m.Keys.length : Int)]] (.c (c_len (e := e_s) (l := m.Keys)) .n) ?_
   refine kBk 2 ?_
   obtain ⟨o38, ho38, h⟩ := bd_inv h
   refine kUs (msg_Put.lp32_ok fu m.Keys (m.Keys.length : Int) m _ 0 r30_1 _ ho38) ?_
   intro e_ τ_ hp_
   obtain ⟨y38_0, rfl⟩ : ∃ y, y = o38 := ⟨_, rfl⟩
   obtain ⟨rfl, rfl⟩ := hp_
   refine kCd (cR (cR (cR (cR (cR (cR (cR (cR (cR (cR (cR (cR (cR (cR bd12)))))))))))))) [] ?_
   obtain ⟨r39_1, h39_2, h⟩ := bd_inv h
   refine kRs 7 [Ob 14 [sO 1 e_u8 r39_1.b]] [.s (.t 117) [iv (m.Got.length : Int)], .a ⟨.tup [], [[sO 1 e_u8 r39_1.b]]⟩] (.c (c_len (e := TRead.en) (l := m.Got)) (.c (Asks.fg (args1 := [.ptr 1000 0]) (args2 := []) (nl := some false) (sz := 1) (es := List.map e_i64 ([(m.Got.length : Int)] : List Int)) (Asks.of (C := Meets Try.prog) (msg_writer_num.meets fu ([(m.Got.length : Int)] : List Int) y38_0 _ h39_2))) .n)) ?_
   refine kSq ?_
   refine kRs 15 [Tm 121 (sS 4 TRead.en m.Got), Tm 122 (iv (m.Got.length : Int)), Tm 123 (iv 0)] [.s (.t 122) [iv (m.Got.length : Int)]] (.c (c_len (e := TRead.en) (l := m.Got)) .n) ?_
   refine kBk 4 ?_
   obtain ⟨o50, ho50, h⟩ := bd_inv h
   refine kUs (msg_Put.lp41_ok fu m.Got (m.Got.length : Int) m _ 0 r39_1 _ ho50) ?_
   intro e_ τ_ hp_
   obtain ⟨y50_0, rfl⟩ : ∃ y, y = o50 := ⟨_, rfl⟩
   obtain ⟨rfl, rfl⟩ := hp_
   refine kCd (cR (cR (cR (cR (cR (cR (cR (cR (cR (cR (cR (cR (cR (cR (cR (cR bd12)))))))))))))))) [] ?_
   obtain ⟨r51_1, h51_2, h⟩ := bd_inv h
   refine kRs 2 [Ob 14 [sO 1 e_u8 r51_1.b]] [.a ⟨.tup [], [[sO 1 e_u8 r51_1.b]]⟩] (.c (Asks.fg (args1 := [.ptr 1000 0]) (args2 := []) (nl := some false) (sz := 1) (es := List.map e_i64 ([m.Err] : List Int)) (Asks.of (C := Meets Try.prog) (msg_writer_num.meets fu ([m.Err] : List Int) y50_0 _ h51_2))) .n) ?_
   refine kRs 0 [Tm 2 (sO 1 e_u8 r51_1.b)] [] .n ?_
   obtain ⟨c_nil1, h⟩ := gd_inv h
   refine WK.nilk (t := 2) (sz := 1) (own := true) (en := e_u8) (L := r51_1.b) (l' := [Tm 2 (.data (.slc true (some r51_1.b.isEmpty) 1 (List.map e_u8 r51_1.b)))]) (by kernel_rfl) c_nil1 (wk_of (by kernel_rfl)) ?_
   refine kRt ?_
   have h_ := some_inj h
   subst h_
   exact kFr
  clear hk26
  refine kSq ?_
  refine kRs 15 [Tm 73 (bv (m.Kind == 5))] [] .n ?_
  rcases br_inv h with ⟨b24_0, h⟩ | ⟨b24_0, h⟩
  ·refine kCt b24_0 ?_
   obtain ⟨r25_1, h25_2, h⟩ := bd_inv h
   obtain ⟨c25_3, h⟩ := gd_inv h
   refine kRc 14 [Ob 14 [sO 1 e_u8 (y22_0.b ++ r25_1)]] [.a ⟨.data (.slc true (some r25_1.isEmpty) 1 (List.map e_u8 r25_1)), []⟩, .s (.t 82) [sO 1 e_u8 (y22_0.b ++ r25_1)]] (.c (Asks.of (C := Meets Try.prog) (txn_Put.meets fu m.T _ h25_2)) (.c (c_al (e := e_u8) (f := e_u8) c25_3) (.c (congrArg (fun d : DV => [AV.data d]) (c_app (e := e_u8) (s := 1) (l := y22_0.b) (m := r25_1))) (.c rT .n)))) (cR (cR (cR (cR (cR (cR (cR (cR (cR bd12))))))))) [] ?_
   exact kWk (Jk26 (TWriter.mk (y22_0.b ++ r25_1)) h)
  ·refine kCe b24_0 ?_
   refine kSk ?_
   refine kCd (cR (cR (cR (cR (cR (cR (cR (cR (cR bd12))))))))) [] ?_
   exact kWk (Jk26 y22_0 h)
def bd97 : Code := (Try.f97.body).getD .skip
def num_result.O : Nat → Nat := fun t => bif ([6, 7, 8] : List Nat).any (Nat.beq t) then 1 else 0
def num_result (v : Int) (n_v : Int) (ok : Bool) : Option (Int × Int × Bool) :=
 br (!ok)
  (some (0, 0, false))
  (some (v, n_v, true))
theorem num_result.meets (v : Int) (n_v : Int) (ok : Bool) (z0 : Int) (z1 : Int) (z2 : Bool) (h : num_result v n_v ok = some (z0, z1, z2)) : Meets Try.prog ⟨97, [iv v, iv n_v, bv ok], []⟩ ⟨.tup [iv z0, iv z1, bv z2], []⟩ := by
 refine kMt hmix num_result.O Try.f97 bd97 7 ?_
 unfold num_result at h
 refine kRs 7 [] [] .n ?_
 refine kSq ?_
 refine kRs 3 [Tm 10 (bv (!ok))] [] .n ?_
 rcases br_inv h with ⟨b3_0, h⟩ | ⟨b3_0, h⟩
 ·refine kCt b3_0 ?_
  refine kRs 0 [Tm 6 (iv 0), Tm 7 (iv 0), Tm 8 (bv false)] [] .n ?_
  refine kRt ?_
  have h_0 := some_inj h
  obtain ⟨g_1, h_1⟩ := Prod.mk.inj h_0
  obtain ⟨g_2, h_2⟩ := Prod.mk.inj h_1
  subst g_1
  subst g_2
  subst h_2
  exact kFr
 ·refine kCe b3_0 ?_
  refine kSk ?_
  refine kCd (cR (cR bd97)) [] ?_
  refine kRs 0 [Tm 6 (iv v), Tm 7 (iv n_v), Tm 8 (bv true)] [] .n ?_
  refine kRt ?_
  have h_0 := some_inj h
  obtain ⟨g_1, h_1⟩ := Prod.mk.inj h_0
  obtain ⟨g_2, h_2⟩ := Prod.mk.inj h_1
  subst g_1
  subst g_2
  subst h_2
  exact kFr
def bd90 : Code := (Try.f90.body).getD .skip
def num_Take.O : Nat → Nat := fun t => bif ([2, 3, 4, 5, 6, 11] : List Nat).any (Nat.beq t) then 1 else 0
def num_Take.lp3 (fu : Nat) (l3_1 : List Int) (l3_2 : Int) : Nat → Int → Int → Option (Unit ⊕ (Int × Int × Bool))
  | 0, _, _ => none
  | n_ + 1, l3_0, l3_3 =>
  br (decide (l3_3 < l3_2))
   (ix l3_1 l3_3 fun x6_1 =>
   gd (decide ((0 : Int) ≤ (w64 (7 * l3_3)))) <|
   br ((vand .u8 x6_1 128) == 0)
    (br (l3_3 == 0)
     (bd (num_result (vor .i64 l3_0 (vshl .i64 (w64 (vand .u8 x6_1 127)) (w64 (7 * l3_3)))) (w64 (l3_3 + 1)) true) fun (r10_2, r10_3, r10_4) =>
     some (.inr (r10_2, r10_3, r10_4)))
     (bd (num_result (vor .i64 l3_0 (vshl .i64 (w64 (vand .u8 x6_1 127)) (w64 (7 * l3_3)))) (w64 (l3_3 + 1)) (decide (x6_1 > 0))) fun (r10_2, r10_3, r10_4) =>
     some (.inr (r10_2, r10_3, r10_4))))
    (num_Take.lp3 fu l3_1 l3_2 n_ (vor .i64 l3_0 (vshl .i64 (w64 (vand .u8 x6_1 127)) (w64 (7 * l3_3)))) (w64 (l3_3 + 1))))
   (some (.inl ()))
def num_Take.lp3_post (l3_1 : List Int) (l3_2 : Int) (r_ : (Unit ⊕ (Int × Int × Bool))) : Wy → St → Prop := fun e τ => match r_ with
  | .inl _ => e = .exit 0 ∧ τ = ofL []
  | .inr (y0, y1, y2) => e = .ret ∧ τ = ofL [Tm 2 (iv y0), Tm 3 (iv y1), Tm 4 (bv y2)]
theorem num_Take.lp3_ok (fu : Nat) (l3_1 : List Int) (l3_2 : Int) : ∀ (n_ : Nat) (l3_0 : Int) (l3_3 : Int) (r_ : (Unit ⊕ (Int × Int × Bool))), num_Take.lp3 fu l3_1 l3_2 n_ l3_0 l3_3 = some r_ → WK Try.prog num_Take.O (Ck Try.prog) (cB (cR (cL (cR bd90)))) [] (ofL [Tm 2 (iv l3_0), Tm 11 (sS 1 e_u8 l3_1), Tm 12 (iv l3_2), Tm 13 (iv l3_3)]) (num_Take.lp3_post l3_1 l3_2 r_) := by
 intro n_
 induction n_ with
 | zero => intro l3_0 l3_3 r_ h; exact no_none h
 | succ n_ ih =>
  intro l3_0 l3_3 r_ h
  refine kLp ?_
  refine kRs 15 [Tm 14 (bv (decide (l3_3 < l3_2)))] [] .n ?_
  refine kSq ?_
  rcases br_inv h with ⟨b5_0, h⟩ | ⟨b5_0, h⟩
  ·refine kCt b5_0 ?_
   refine kSk ?_
   refine kCd (cR (cR (cB (cB (cR (cL (cR bd90))))))) [.lp (cB (cR (cL (cR bd90))))] ?_
   refine kSq ?_
   refine kBk 1 ?_
   obtain ⟨x6_1, a6_2, e6_3, h⟩ := ix_inv h
   refine kRs 30 [Tm 5 (iv l3_3), Tm 6 (.data (.val (.int .u8 x6_1)))] [.c (e_u8 x6_1)] (.c (c_ix (e := e_u8) a6_2 e6_3) (.c (c_el (e := e_u8) e6_3) .n)) ?_
   obtain ⟨c7_1, h⟩ := gd_inv h
   refine kRs 59 [Tm 2 (iv (vor .i64 l3_0 (vshl .i64 (w64 (vand .u8 x6_1 127)) (w64 (7 * l3_3)))))] [] (.c c7_1 .n) ?_
   refine kRs 63 [Tm 28 (bv ((vand .u8 x6_1 128) == 0))] [] .n ?_
   rcases br_inv h with ⟨b9_0, h⟩ | ⟨b9_0, h⟩
   ·refine kCt b9_0 ?_
    rcases br_inv h with ⟨b10_1, h⟩ | ⟨b10_1, h⟩
    ·obtain ⟨⟨r10_2, r10_3, r10_4⟩, h10_5, h⟩ := bd_inv h
     refine kRs 0 [Tm 2 (iv r10_2), Tm 3 (iv r10_3), Tm 4 (bv r10_4)] [.b true, .b true, .b true, .a ⟨.tup [iv r10_2, iv r10_3, bv r10_4], []⟩] (.r 3 b10_1 (.c (Asks.of (C := Meets Try.prog) (num_result.meets (vor .i64 l3_0 (vshl .i64 (w64 (vand .u8 x6_1 127)) (w64 (7 * l3_3)))) (w64 (l3_3 + 1)) true _ _ _ h10_5)) .n)) ?_
     cases some_inj h
     refine kWo ?_
     refine kRt ?_
     exact kOut
    ·obtain ⟨⟨r10_2, r10_3, r10_4⟩, h10_5, h⟩ := bd_inv h
     refine kRs 0 [Tm 2 (iv r10_2), Tm 3 (iv r10_3), Tm 4 (bv r10_4)] [.b false, .b false, .b false, .a ⟨.tup [iv r10_2, iv r10_3, bv r10_4], []⟩] (.r 3 b10_1 (.c (Asks.of (C := Meets Try.prog) (num_result.meets (vor .i64 l3_0 (vshl .i64 (w64 (vand .u8 x6_1 127)) (w64 (7 * l3_3)))) (w64 (l3_3 + 1)) (decide (x6_1 > 0)) _ _ _ h10_5)) .n)) ?_
     cases some_inj h
     refine kWo ?_
     refine kRt ?_
     exact kOut
   ·refine kCe b9_0 ?_
    refine kSk ?_
    refine kCd (cR (cR (cR (cB (cB (cR (cL (cR bd90)))))))) [.lp (cB (cR (cL (cR bd90))))] ?_
    refine kRc 50 [Tm 13 (iv (w64 (l3_3 + 1)))] [] .n (cB (cR (cL (cR bd90)))) [] ?_
    exact kWk (ih (vor .i64 l3_0 (vshl .i64 (w64 (vand .u8 x6_1 127)) (w64 (7 * l3_3)))) (w64 (l3_3 + 1)) _ h)
  ·refine kCe b5_0 ?_
   cases some_inj h
   refine kWo ?_
   refine kXt 0 ?_
   exact kOut
def num_Take (fu : Nat) (b : List Int) : Option (Int × Int × Bool) :=
 gd (decide ((0 : Int) ≤ (if (9 : Int) < (b.length : Int) then 9 else (b.length : Int)) ∧ (if (9 : Int) < (b.length : Int) then 9 else (b.length : Int)) ≤ (b.length : Int))) <|
 bd (num_Take.lp3 fu (List.take (if (9 : Int) < (b.length : Int) then 9 else (b.length : Int)).toNat b) ((List.take (if (9 : Int) < (b.length : Int) then 9 else (b.length : Int)).toNat b).length : Int) fu 0 0) fun o_ => (match o_ with
 | .inl _ =>
  some (0, 0, false)
 | .inr (y12_0, y12_1, y12_2) =>
  some (y12_0, y12_1, y12_2))
theorem num_Take.meets (fu : Nat) (b : List Int) (z0 : Int) (z1 : Int) (z2 : Bool) (h : num_Take fu b = some (z0, z1, z2)) : Meets Try.prog ⟨90, [sS 1 e_u8 b], []⟩ ⟨.tup [iv z0, iv z1, bv z2], []⟩ := by
 refine kMt hmix num_Take.O Try.f90 bd90 1 ?_
 unfold num_Take at h
 refine kRs 1 [Tm 2 (iv 0)] [] .n ?_
 refine kSq ?_
 obtain ⟨c2_1, h⟩ := gd_inv h
 refine kRs 1 [Tm 11 (sS 1 e_u8 (List.take (if (9 : Int) < (b.length : Int) then 9 else (b.length : Int)).toNat b)), Tm 12 (iv ((List.take (if (9 : Int) < (b.length : Int) then 9 else (b.length : Int)).toNat b).length : Int)), Tm 13 (iv 0)] [.s (.t 9) [iv (b.length : Int)], .s (.t 11) [sS 1 e_u8 (List.take (if (9 : Int) < (b.length : Int) then 9 else (b.length : Int)).toNat b)], .s (.t 12) [iv ((List.take (if (9 : Int) < (b.length : Int) then 9 else (b.length : Int)).toNat b).length : Int)]] (.c (c_len (e := e_u8) (l := b)) (.c (c_cbH (e := e_u8) c2_1) (.c (congrArg (fun d : DV => [AV.data d]) (c_cutH (own := false) (nl := none) (s := 1) (e := e_u8) (l := b) (h := (if (9 : Int) < (b.length : Int) then 9 else (b.length : Int)).toNat))) (.c (c_len (e := e_u8) (l := (List.take (if (9 : Int) < (b.length : Int) then 9 else (b.length : Int)).toNat b))) .n)))) ?_
 refine kBk 0 ?_
 obtain ⟨o12, ho12, h⟩ := bd_inv h
 refine kUs (num_Take.lp3_ok fu (List.take (if (9 : Int) < (b.length : Int) then 9 else (b.length : Int)).toNat b) ((List.take (if (9 : Int) < (b.length : Int) then 9 else (b.length : Int)).toNat b).length : Int) _ 0 0 _ ho12) ?_
 intro e_ τ_ hp_
 rcases o12 with o12 | o12
 ·obtain ⟨⟩ := o12
  obtain ⟨rfl, rfl⟩ := hp_
  refine kCd (cR (cR bd90)) [] ?_
  refine kRs 0 [Tm 2 (iv 0), Tm 3 (iv 0), Tm 4 (bv false)] [] .n ?_
  refine kRt ?_
  have h_0 := some_inj h
  obtain ⟨g_1, h_1⟩ := Prod.mk.inj h_0
  obtain ⟨g_2, h_2⟩ := Prod.mk.inj h_1
  subst g_1
  subst g_2
  subst h_2
  exact kFr
 ·obtain ⟨y12_0, y12_1, y12_2⟩ := o12
  obtain ⟨rfl, rfl⟩ := hp_
  have h_0 := some_inj h
  obtain ⟨g_1, h_1⟩ := Prod.mk.inj h_0
  obtain ⟨g_2, h_2⟩ := Prod.mk.inj h_1
  subst g_1
  subst g_2
  subst h_2
  exact kFr
def bd91 : Code := (Try.f91.body).getD .skip
def msg_reader_goes.O : Nat → Nat := fun t => bif ([14] : List Nat).any (Nat.beq t) then 1 else 0
def msg_reader_goes (n_v : Int) (ok : Bool) (o0_v : TReader) : Option TReader :=
 br o0_v.bad
  (gd (decide ((0 : Int) ≤ n_v ∧ n_v ≤ (o0_v.b.length : Int))) <|
  some (TReader.mk (List.drop n_v.toNat o0_v.b) true))
  (gd (decide ((0 : Int) ≤ n_v ∧ n_v ≤ (o0_v.b.length : Int))) <|
  some (TReader.mk (List.drop n_v.toNat o0_v.b) (!ok)))
theorem msg_reader_goes.meets (n_v : Int) (ok : Bool) (o0_v : TReader) (z0 : TReader) (h : msg_reader_goes n_v ok o0_v = some z0) : Meets Try.prog ⟨91, [.ptr 1000 0, iv n_v, bv ok], [[sS 1 e_u8 o0_v.b, bv o0_v.bad]]⟩ ⟨.tup [], [[sS 1 e_u8 z0.b, bv z0.bad]]⟩ := by
 refine kMt hmix msg_reader_goes.O Try.f91 bd91 15 ?_
 unfold msg_reader_goes at h
 rcases br_inv h with ⟨b1_1, h⟩ | ⟨b1_1, h⟩
 ·refine kRs 3 [Ob 1000 [sS 1 e_u8 o0_v.b, bv true]] [.b true, .b true, .b true] (.r 3 b1_1 .n) ?_
  obtain ⟨c2_1, h⟩ := gd_inv h
  have h_ := some_inj h
  subst h_
  exact kRf [.s (.t 23) [sS 1 e_u8 (List.drop n_v.toNat o0_v.b)]] (.c (c_cbL (e := e_u8) c2_1) (.c (congrArg (fun d : DV => [AV.data d]) (c_cutL (own := false) (nl := none) (s := 1) (e := e_u8) (l := o0_v.b) (lo := n_v.toNat))) .n))
 ·refine kRs 3 [Ob 1000 [sS 1 e_u8 o0_v.b, bv (!ok)]] [.b false, .b false, .b false] (.r 3 b1_1 .n) ?_
  obtain ⟨c3_1, h⟩ := gd_inv h
  have h_ := some_inj h
  subst h_
  exact kRf [.s (.t 23) [sS 1 e_u8 (List.drop n_v.toNat o0_v.b)]] (.c (c_cbL (e := e_u8) c3_1) (.c (congrArg (fun d : DV => [AV.data d]) (c_cutL (own := false) (nl := none) (s := 1) (e := e_u8) (l := o0_v.b) (lo := n_v.toNat))) .n))
def bd52 : Code := (Try.f52.body).getD .skip
def msg_reader_num.O : Nat → Nat := fun t => bif ([2, 3, 4, 5] : List Nat).any (Nat.beq t) then 1 else 0
def msg_reader_num (fu : Nat) (o0_v : TReader) : Option (Int × TReader) :=
 bd (num_Take fu o0_v.b) fun (r2_1, r2_2, r2_3) =>
 bd (msg_reader_goes r2_2 r2_3 o0_v) fun r3_1 =>
 some (r2_1, r3_1)
theorem msg_reader_num.meets (fu : Nat) (o0_v : TReader) (z0 : Int) (z1 : TReader) (h : msg_reader_num fu o0_v = some (z0, z1)) : Meets Try.prog ⟨52, [.ptr 1000 0], [[sS 1 e_u8 o0_v.b, bv o0_v.bad]]⟩ ⟨iv z0, [[sS 1 e_u8 z1.b, bv z1.bad]]⟩ := by
 refine kMt hmix msg_reader_num.O Try.f52 bd52 3 ?_
 unfold msg_reader_num at h
 refine kRs 3 [] [] .n ?_
 obtain ⟨⟨r2_1, r2_2, r2_3⟩, h2_4, h⟩ := bd_inv h
 refine kRs 3 [Tm 3 (iv r2_1), Tm 4 (iv r2_2), Tm 5 (bv r2_3)] [.a ⟨.tup [iv r2_1, iv r2_2, bv r2_3], []⟩] (.c (Asks.of (C := Meets Try.prog) (num_Take.meets fu o0_v.b _ _ _ h2_4)) .n) ?_
 obtain ⟨r3_1, h3_2, h⟩ := bd_inv h
 refine kRs 1 [Ob 1000 [sS 1 e_u8 r3_1.b, bv r3_1.bad]] [.a ⟨.tup [], [[sS 1 e_u8 r3_1.b, bv r3_1.bad]]⟩] (.c (Asks.of (C := Meets Try.prog) (msg_reader_goes.meets r2_2 r2_3 o0_v _ h3_2)) .n) ?_
 refine kRs 1 [Tm 2 (iv r2_1)] [] .n ?_
 refine kRt ?_
 have h_0 := some_inj h
 obtain ⟨g_1, h_1⟩ := Prod.mk.inj h_0
 subst g_1
 subst h_1
 exact kFr
def bd53 : Code := (Try.f53.body).getD .skip
def msg_reader_flag.O : Nat → Nat := fun t => bif ([2] : List Nat).any (Nat.beq t) then 1 else 0
def msg_reader_flag (fu : Nat) (o0_v : TReader) : Option (Bool × TReader) :=
 bd (msg_reader_num fu o0_v) fun (r2_1, r2_2) =>
 some ((r2_1 == 1), r2_2)
theorem msg_reader_flag.meets (fu : Nat) (o0_v : TReader) (z0 : Bool) (z1 : TReader) (h : msg_reader_flag fu o0_v = some (z0, z1)) : Meets Try.prog ⟨53, [.ptr 1000 0], [[sS 1 e_u8 o0_v.b, bv o0_v.bad]]⟩ ⟨bv z0, [[sS 1 e_u8 z1.b, bv z1.bad]]⟩ := by
 refine kMt hmix msg_reader_flag.O Try.f53 bd53 3 ?_
 unfold msg_reader_flag at h
 refine kRs 3 [] [] .n ?_
 obtain ⟨⟨r2_1, r2_2⟩, h2_3, h⟩ := bd_inv h
 refine kRs 0 [Tm 2 (bv (r2_1 == 1)), Ob 1000 [sS 1 e_u8 r2_2.b, bv r2_2.bad]] [.a ⟨iv r2_1, [[sS 1 e_u8 r2_2.b, bv r2_2.bad]]⟩] (.c (Asks.of (C := Meets Try.prog) (msg_reader_num.meets fu o0_v _ _ h2_3)) .n) ?_
 refine kRt ?_
 have h_0 := some_inj h
 obtain ⟨g_1, h_1⟩ := Prod.mk.inj h_0
 subst g_1
 subst h_1
 exact kFr
def bd101 : Code := (Try.f101.body).getD .skip
def txn_reader_goes.O : Nat → Nat := fun t => bif ([14, 22] : List Nat).any (Nat.beq t) then 1 else 0
def txn_reader_goes (n_v : Int) (ok : Bool) (o0_v : TReader') : Option TReader' :=
 br o0_v.bad
  (some (TReader'.mk o0_v.b (w64 (o0_v.n + n_v)) true))
  (some (TReader'.mk o0_v.b (w64 (o0_v.n + n_v)) (!ok)))
theorem txn_reader_goes.meets (n_v : Int) (ok : Bool) (o0_v : TReader') (z0 : TReader') (h : txn_reader_goes n_v ok o0_v = some z0) : Meets Try.prog ⟨101, [.ptr 1000 0, iv n_v, bv ok], [(TReader'.ob o0_v)]⟩ ⟨.tup [], [(TReader'.ob z0)]⟩ := by
 refine kMt hmix txn_reader_goes.O Try.f101 bd101 15 ?_
 unfold txn_reader_goes at h
 rcases br_inv h with ⟨b1_1, h⟩ | ⟨b1_1, h⟩
 ·refine kRs 3 [Ob 1000 (TReader'.ob (TReader'.mk o0_v.b o0_v.n true))] [.b true, .b true, .b true] (.r 3 b1_1 .n) ?_
  have h_ := some_inj h
  subst h_
  exact kRf [] .n
 ·refine kRs 3 [Ob 1000 (TReader'.ob (TReader'.mk o0_v.b o0_v.n (!ok)))] [.b false, .b false, .b false] (.r 3 b1_1 .n) ?_
  have h_ := some_inj h
  subst h_
  exact kRf [] .n
def bd98 : Code := (Try.f98.body).getD .skip
def txn_reader_num.O : Nat → Nat := fun t => bif ([2, 3, 4, 5] : List Nat).any (Nat.beq t) then 1 else 0
def txn_reader_num (fu : Nat) (o0_v : TReader') : Option (Int × TReader') :=
 gd (decide ((0 : Int) ≤ o0_v.n ∧ o0_v.n ≤ (o0_v.b.length : Int))) <|
 bd (num_Take fu (List.drop o0_v.n.toNat o0_v.b)) fun (r2_2, r2_3, r2_4) =>
 bd (txn_reader_goes r2_3 r2_4 o0_v) fun r3_1 =>
 some (r2_2, r3_1)
theorem txn_reader_num.meets (fu : Nat) (o0_v : TReader') (z0 : Int) (z1 : TReader') (h : txn_reader_num fu o0_v = some (z0, z1)) : Meets Try.prog ⟨98, [.ptr 1000 0], [(TReader'.ob o0_v)]⟩ ⟨iv z0, [(TReader'.ob z1)]⟩ := by
 refine kMt hmix txn_reader_num.O Try.f98 bd98 3 ?_
 unfold txn_reader_num at h
 refine kRs 3 [] [] .n ?_
 obtain ⟨c2_1, h⟩ := gd_inv h
 obtain ⟨⟨r2_2, r2_3, r2_4⟩, h2_5, h⟩ := bd_inv h
 refine kRs 3 [Tm 3 (iv r2_2), Tm 4 (iv r2_3), Tm 5 (bv r2_4)] [.s (.t 15) [sS 1 e_u8 (List.drop o0_v.n.toNat o0_v.b)], .a ⟨.tup [iv r2_2, iv r2_3, bv r2_4], []⟩] (.c (c_cbL (e := e_u8) c2_1) (.c (congrArg (fun d : DV => [AV.data d]) (c_cutL (own := false) (nl := none) (s := 1) (e := e_u8) (l := o0_v.b) (lo := o0_v.n.toNat))) (.c (Asks.of (C := Meets Try.prog) (num_Take.meets fu (List.drop o0_v.n.toNat o0_v.b) _ _ _ h2_5)) (.c rT .n)))) ?_
 obtain ⟨r3_1, h3_2, h⟩ := bd_inv h
 refine kRs 1 [Ob 1000 (TReader'.ob r3_1)] [.a ⟨.tup [], [(TReader'.ob r3_1)]⟩] (.c (Asks.of (C := Meets Try.prog) (txn_reader_goes.meets r2_3 r2_4 o0_v _ h3_2)) .n) ?_
 refine kRs 1 [Tm 2 (iv r2_2)] [] .n ?_
 refine kRt ?_
 have h_0 := some_inj h
 obtain ⟨g_1, h_1⟩ := Prod.mk.inj h_0
 subst g_1
 subst h_1
 exact kFr
def bd93 : Code := (Try.f93.body).getD .skip
def num_TakeText.O : Nat → Nat := fun t => bif ([2, 3, 4, 5, 31] : List Nat).any (Nat.beq t) then 1 else 0
def num_TakeText (fu : Nat) (b : List Int) : Option (ByteArray × Int × Bool) :=
 bd (num_Take fu b) fun (r2_1, r2_2, r2_3) =>
 br (!r2_3)
  (some (ByteArray.empty, 0, false))
  (br (decide (r2_1 > 255))
   (some (ByteArray.empty, 0, false))
   (br (decide (r2_1 > (w64 ((b.length : Int) - r2_2))))
    (some (ByteArray.empty, 0, false))
    (gd (decide ((0 : Int) ≤ r2_2 ∧ r2_2 ≤ (w64 (r2_2 + r2_1)) ∧ (w64 (r2_2 + r2_1)) ≤ (b.length : Int))) <|
    some ((strB (List.drop r2_2.toNat (List.take (w64 (r2_2 + r2_1)).toNat b))), (w64 (r2_2 + r2_1)), true))))
theorem num_TakeText.meets (fu : Nat) (b : List Int) (z0 : ByteArray) (z1 : Int) (z2 : Bool) (h : num_TakeText fu b = some (z0, z1, z2)) : Meets Try.prog ⟨93, [sS 1 e_u8 b], []⟩ ⟨.tup [sv z0, iv z1, bv z2], []⟩ := by
 refine kMt hmix num_TakeText.O Try.f93 bd93 1 ?_
 unfold num_TakeText at h
 refine kRs 1 [] [] .n ?_
 obtain ⟨⟨r2_1, r2_2, r2_3⟩, h2_4, h⟩ := bd_inv h
 refine kRs 1 [Tm 3 (iv r2_2), Tm 4 (bv r2_3), Tm 5 (iv r2_1)] [.a ⟨.tup [iv r2_1, iv r2_2, bv r2_3], []⟩] (.c (Asks.of (C := Meets Try.prog) (num_Take.meets fu b _ _ _ h2_4)) .n) ?_
 refine kSq ?_
 rcases br_inv h with ⟨b3_1, h⟩ | ⟨b3_1, h⟩
 ·refine kRs 13 [Tm 25 (bv true)] (rp 10 (.b true) []) (.r 3 b3_1 (.r 7 rT .n)) ?_
  refine kCt rT ?_
  refine kRs 0 [Tm 2 (sv ByteArray.empty), Tm 3 (iv 0), Tm 4 (bv false)] [] .n ?_
  refine kRt ?_
  have h_0 := some_inj h
  obtain ⟨g_1, h_1⟩ := Prod.mk.inj h_0
  obtain ⟨g_2, h_2⟩ := Prod.mk.inj h_1
  subst g_1
  subst g_2
  subst h_2
  exact kFr
 ·rcases br_inv h with ⟨b3_2, h⟩ | ⟨b3_2, h⟩
  ·refine kRs 13 [Tm 25 (bv true)] (.b false :: (.b false :: (.b false :: (rp 7 (.b true) [])))) (.r 3 b3_1 (.r 7 b3_2 .n)) ?_
   refine kCt rT ?_
   refine kRs 0 [Tm 2 (sv ByteArray.empty), Tm 3 (iv 0), Tm 4 (bv false)] [] .n ?_
   refine kRt ?_
   have h_0 := some_inj h
   obtain ⟨g_1, h_1⟩ := Prod.mk.inj h_0
   obtain ⟨g_2, h_2⟩ := Prod.mk.inj h_1
   subst g_1
   subst g_2
   subst h_2
   exact kFr
  ·refine kRs 13 [Tm 25 (bv (decide (r2_1 > (w64 ((b.length : Int) - r2_2)))))] (rp 6 (.b false) (.s (.t 21) [iv (b.length : Int)] :: (rp 4 (.b false) []))) (.r 3 b3_1 (.r 3 b3_2 (.c (c_len (e := e_u8) (l := b)) (.r 4 b3_2 .n)))) ?_
   rcases br_inv h with ⟨b6_0, h⟩ | ⟨b6_0, h⟩
   ·refine kCt b6_0 ?_
    refine kRs 0 [Tm 2 (sv ByteArray.empty), Tm 3 (iv 0), Tm 4 (bv false)] [] .n ?_
    refine kRt ?_
    have h_0 := some_inj h
    obtain ⟨g_1, h_1⟩ := Prod.mk.inj h_0
    obtain ⟨g_2, h_2⟩ := Prod.mk.inj h_1
    subst g_1
    subst g_2
    subst h_2
    exact kFr
   ·refine kCe b6_0 ?_
    refine kSk ?_
    refine kCd (cR (cR (cR bd93))) [] ?_
    obtain ⟨c8_1, h⟩ := gd_inv h
    refine kRs 0 [Tm 2 (sv (strB (List.drop r2_2.toNat (List.take (w64 (r2_2 + r2_1)).toNat b)))), Tm 3 (iv (w64 (r2_2 + r2_1))), Tm 4 (bv true)] [.s (.t 31) [sS 1 e_u8 (List.drop r2_2.toNat (List.take (w64 (r2_2 + r2_1)).toNat b))]] (.c (c_cb (e := e_u8) c8_1) (.c (congrArg (fun d : DV => [AV.data d]) (c_cut (own := false) (nl := none) (s := 1) (e := e_u8) (l := b) (lo := r2_2.toNat) (h := (w64 (r2_2 + r2_1)).toNat))) (.c (c_ab (List.drop r2_2.toNat (List.take (w64 (r2_2 + r2_1)).toNat b))) .n))) ?_
    refine kRt ?_
    have h_0 := some_inj h
    obtain ⟨g_1, h_1⟩ := Prod.mk.inj h_0
    obtain ⟨g_2, h_2⟩ := Prod.mk.inj h_1
    subst g_1
    subst g_2
    subst h_2
    exact kFr
def bd99 : Code := (Try.f99.body).getD .skip
def txn_reader_text.O : Nat → Nat := fun t => bif ([2, 3, 4, 5] : List Nat).any (Nat.beq t) then 1 else 0
def txn_reader_text (fu : Nat) (o0_v : TReader') : Option (ByteArray × TReader') :=
 gd (decide ((0 : Int) ≤ o0_v.n ∧ o0_v.n ≤ (o0_v.b.length : Int))) <|
 bd (num_TakeText fu (List.drop o0_v.n.toNat o0_v.b)) fun (r2_2, r2_3, r2_4) =>
 bd (txn_reader_goes r2_3 r2_4 o0_v) fun r3_1 =>
 some (r2_2, r3_1)
theorem txn_reader_text.meets (fu : Nat) (o0_v : TReader') (z0 : ByteArray) (z1 : TReader') (h : txn_reader_text fu o0_v = some (z0, z1)) : Meets Try.prog ⟨99, [.ptr 1000 0], [(TReader'.ob o0_v)]⟩ ⟨sv z0, [(TReader'.ob z1)]⟩ := by
 refine kMt hmix txn_reader_text.O Try.f99 bd99 3 ?_
 unfold txn_reader_text at h
 refine kRs 3 [] [] .n ?_
 obtain ⟨c2_1, h⟩ := gd_inv h
 obtain ⟨⟨r2_2, r2_3, r2_4⟩, h2_5, h⟩ := bd_inv h
 refine kRs 3 [Tm 3 (sv r2_2), Tm 4 (iv r2_3), Tm 5 (bv r2_4)] [.s (.t 15) [sS 1 e_u8 (List.drop o0_v.n.toNat o0_v.b)], .a ⟨.tup [sv r2_2, iv r2_3, bv r2_4], []⟩] (.c (c_cbL (e := e_u8) c2_1) (.c (congrArg (fun d : DV => [AV.data d]) (c_cutL (own := false) (nl := none) (s := 1) (e := e_u8) (l := o0_v.b) (lo := o0_v.n.toNat))) (.c (Asks.of (C := Meets Try.prog) (num_TakeText.meets fu (List.drop o0_v.n.toNat o0_v.b) _ _ _ h2_5)) (.c rT .n)))) ?_
 obtain ⟨r3_1, h3_2, h⟩ := bd_inv h
 refine kRs 1 [Ob 1000 (TReader'.ob r3_1)] [.a ⟨.tup [], [(TReader'.ob r3_1)]⟩] (.c (Asks.of (C := Meets Try.prog) (txn_reader_goes.meets r2_3 r2_4 o0_v _ h3_2)) .n) ?_
 refine kRs 1 [Tm 2 (sv r2_2)] [] .n ?_
 refine kRt ?_
 have h_0 := some_inj h
 obtain ⟨g_1, h_1⟩ := Prod.mk.inj h_0
 subst g_1
 subst h_1
 exact kFr
def bd60 : Code := (Try.f60.body).getD .skip
def bytes_Equal.O : Nat → Nat := fun t => bif ([4] : List Nat).any (Nat.beq t) then 1 else 0
def bytes_Equal (a : List Int) (b : List Int) : Option Bool :=
 some ((strB a).toList == (strB b).toList)
theorem bytes_Equal.meets (a : List Int) (b : List Int) (z0 : Bool) (h : bytes_Equal a b = some z0) : Meets Try.prog ⟨60, [sS 1 e_u8 a, sS 1 e_u8 b], []⟩ ⟨bv z0, []⟩ := by
 refine kMt hmix bytes_Equal.O Try.f60 bd60 3 ?_
 unfold bytes_Equal at h
 refine kRs 3 [] [] .n ?_
 refine kRs 0 [Tm 4 (bv ((strB a).toList == (strB b).toList))] [] (.c (c_ab a) (.c (c_ab b) .n)) ?_
 refine kRt ?_
 have h_ := some_inj h
 subst h_
 exact kFr
def bd100 : Code := (Try.f100.body).getD .skip
def bytes_HasPrefix.O : Nat → Nat := fun t => bif ([4, 14] : List Nat).any (Nat.beq t) then 1 else 0
def bytes_HasPrefix (s : List Int) (prefix_v : List Int) : Option Bool :=
 br (decide ((s.length : Int) ≥ (prefix_v.length : Int)))
  (gd (decide ((0 : Int) ≤ (prefix_v.length : Int) ∧ (prefix_v.length : Int) ≤ (s.length : Int))) <|
  bd (bytes_Equal (List.take (prefix_v.length : Int).toNat s) prefix_v) fun r2_3 =>
  some r2_3)
  (some false)
theorem bytes_HasPrefix.meets (s : List Int) (prefix_v : List Int) (z0 : Bool) (h : bytes_HasPrefix s prefix_v = some z0) : Meets Try.prog ⟨100, [sS 1 e_u8 s, sS 1 e_u8 prefix_v], []⟩ ⟨bv z0, []⟩ := by
 refine kMt hmix bytes_HasPrefix.O Try.f100 bd100 3 ?_
 unfold bytes_HasPrefix at h
 refine kRs 3 [] [] .n ?_
 rcases br_inv h with ⟨b2_1, h⟩ | ⟨b2_1, h⟩
 ·obtain ⟨c2_2, h⟩ := gd_inv h
  obtain ⟨r2_3, h2_4, h⟩ := bd_inv h
  refine kRs 0 [Tm 4 (bv r2_3)] [.s (.t 6) [iv (s.length : Int)], .s (.t 8) [iv (prefix_v.length : Int)], .b true, .b true, .b true, .s (.t 13) [iv (prefix_v.length : Int)], .b true, .s (.t 14) [sS 1 e_u8 (List.take (prefix_v.length : Int).toNat s)], .b true, .b true, .a ⟨bv r2_3, []⟩, .b true] (.c (c_len (e := e_u8) (l := s)) (.c (c_len (e := e_u8) (l := prefix_v)) (.r 3 b2_1 (.c (c_len (e := e_u8) (l := prefix_v)) (.c b2_1 (.c (c_cbH (e := e_u8) c2_2) (.c (congrArg (fun d : DV => [AV.data d]) (c_cutH (own := false) (nl := none) (s := 1) (e := e_u8) (l := s) (h := (prefix_v.length : Int).toNat))) (.r 2 b2_1 (.c (Asks.of (C := Meets Try.prog) (bytes_Equal.meets (List.take (prefix_v.length : Int).toNat s) prefix_v _ h2_4)) (.c b2_1 .n)))))))))) ?_
  refine kRt ?_
  have h_ := some_inj h
  subst h_
  exact kFr
 ·refine kRs 0 [Tm 4 (bv false)] (.s (.t 6) [iv (s.length : Int)] :: (.s (.t 8) [iv (prefix_v.length : Int)] :: (rp 7 (.b false) []))) (.c (c_len (e := e_u8) (l := s)) (.c (c_len (e := e_u8) (l := prefix_v)) (.r 7 b2_1 .n))) ?_
  refine kRt ?_
  have h_ := some_inj h
  subst h_
  exact kFr
def bd92 : Code := (Try.f92.body).getD .skip
def txn_Take.O : Nat → Nat := fun t => bif ([2, 3, 4, 5, 6, 7, 8, 9, 10, 11, 12, 15, 21, 23, 45, 48, 53, 54, 73, 76, 81, 82, 109, 110] : List Nat).any (Nat.beq t) then 1 else 0
def txn_Take.lp6 (fu : Nat) (l6_0 : List Int) : Nat → Int → TTxn → TReader' → Option (TTxn × TReader')
  | 0, _, _, _ => none
  | n_ + 1, l6_1, l6_2, l6_3 =>
  br (decide (l6_1 > 0))
   (br (!l6_3.bad)
    (bd (txn_reader_text fu l6_3) fun (r9_1, r9_2) =>
    bd (txn_reader_num fu r9_2) fun (r9_4, r9_5) =>
    bd (txn_reader_text fu r9_5) fun (r9_7, r9_8) =>
    bd (txn_reader_num fu r9_8) fun (r10_1, r10_2) =>
    gd (decide (l6_2.Reads.length + ([(TRead.mk r9_1 r9_4 r9_7 (r10_1 == 1))] : List TRead).length ≤ 4294967296)) <|
    txn_Take.lp6 fu l6_0 n_ (w64 (l6_1 - 1)) (TTxn.mk l6_2.Session l6_2.Seq (l6_2.Reads ++ ([(TRead.mk r9_1 r9_4 r9_7 (r10_1 == 1))] : List TRead)) l6_2.Writes) r10_2)
    (some (l6_2, l6_3)))
   (some (l6_2, l6_3))
def txn_Take.lp6_post (l6_0 : List Int) (r_ : (TTxn × TReader')) : Wy → St → Prop := fun e τ => match r_ with
  | (y0, y1) => e = .exit 0 ∧ τ = ofL [Tm 0 (sS 1 e_u8 l6_0), Tm 2 (.ptr 2 0), Tm 5 (.ptr 15 0), Tm 6 (.fn (.func 98) [.ptr 15 0] []), Tm 7 (.fn (.func 99) [.ptr 15 0] []), Ob 2 (TTxn.ob_0011 y0), Ob 15 (TReader'.ob y1)]
theorem txn_Take.lp6_ok (fu : Nat) (l6_0 : List Int) : ∀ (n_ : Nat) (l6_1 : Int) (l6_2 : TTxn) (l6_3 : TReader') (r_ : (TTxn × TReader')), txn_Take.lp6 fu l6_0 n_ l6_1 l6_2 l6_3 = some r_ → WK Try.prog txn_Take.O (Ck Try.prog) (cB (cR (cL (cR (cR (cR (cR bd92))))))) [] (ofL [Tm 0 (sS 1 e_u8 l6_0), Tm 2 (.ptr 2 0), Tm 5 (.ptr 15 0), Tm 6 (.fn (.func 98) [.ptr 15 0] []), Tm 7 (.fn (.func 99) [.ptr 15 0] []), Tm 8 (iv l6_1), Ob 2 (TTxn.ob_0011 l6_2), Ob 15 (TReader'.ob l6_3)]) (txn_Take.lp6_post l6_0 r_) := by
 intro n_
 induction n_ with
 | zero => intro l6_1 l6_2 l6_3 r_ h; exact no_none h
 | succ n_ ih =>
  intro l6_1 l6_2 l6_3 r_ h
  refine kLp ?_
  refine kSq ?_
  rcases br_inv h with ⟨b7_1, h⟩ | ⟨b7_1, h⟩
  ·refine kRs 255 [Tm 36 (bv (!l6_3.bad))] (rp 6 (.b true) []) (.r 6 b7_1 .n) ?_
   rcases br_inv h with ⟨b8_0, h⟩ | ⟨b8_0, h⟩
   ·refine kCt b8_0 ?_
    refine kSk ?_
    refine kCd (cR (cB (cB (cR (cL (cR (cR (cR (cR bd92))))))))) [.lp (cB (cR (cL (cR (cR (cR (cR bd92)))))))] ?_
    refine kSq ?_
    refine kBk 1 ?_
    obtain ⟨⟨r9_1, r9_2⟩, h9_3, h⟩ := bd_inv h
    obtain ⟨⟨r9_4, r9_5⟩, h9_6, h⟩ := bd_inv h
    obtain ⟨⟨r9_7, r9_8⟩, h9_9, h⟩ := bd_inv h
    refine kRs 254 [Tm 9 (.ptr 9 0), Ob 9 (TRead.ob (TRead.mk r9_1 r9_4 r9_7 false)), Ob 15 (TReader'.ob r9_8)] [.a ⟨sv r9_1, [(TReader'.ob r9_2)]⟩, .a ⟨iv r9_4, [(TReader'.ob r9_5)]⟩, .a ⟨sv r9_7, [(TReader'.ob r9_8)]⟩] (.c (Asks.of (C := Meets Try.prog) (txn_reader_text.meets fu l6_3 _ _ h9_3)) (.c (Asks.of (C := Meets Try.prog) (txn_reader_num.meets fu r9_2 _ _ h9_6)) (.c (Asks.of (C := Meets Try.prog) (txn_reader_text.meets fu r9_5 _ _ h9_9)) .n))) ?_
    obtain ⟨⟨r10_1, r10_2⟩, h10_3, h⟩ := bd_inv h
    refine kRs 1017 [Ob 9 (TRead.ob (TRead.mk r9_1 r9_4 r9_7 (r10_1 == 1))), Ob 15 (TReader'.ob r10_2)] [.a ⟨iv r10_1, [(TReader'.ob r10_2)]⟩] (.c (Asks.of (C := Meets Try.prog) (txn_reader_num.meets fu r9_8 _ _ h10_3)) .n) ?_
    obtain ⟨c11_1, h⟩ := gd_inv h
    refine kRc 506 [Ob 2 (TTxn.ob_0011 (TTxn.mk l6_2.Session l6_2.Seq (l6_2.Reads ++ ([(TRead.mk r9_1 r9_4 r9_7 (r10_1 == 1))] : List TRead)) l6_2.Writes))] [.s (.t 54) [sO 4 TRead.en (l6_2.Reads ++ ([(TRead.mk r9_1 r9_4 r9_7 (r10_1 == 1))] : List TRead))]] (.c (c_al (e := TRead.en) (f := TRead.en) c11_1) (.c (congrArg (fun d : DV => [AV.data d]) (c_app (e := TRead.en) (s := 4) (l := l6_2.Reads) (m := ([(TRead.mk r9_1 r9_4 r9_7 (r10_1 == 1))] : List TRead)))) .n)) (cR (cR (cB (cB (cR (cL (cR (cR (cR (cR bd92)))))))))) [.lp (cB (cR (cL (cR (cR (cR (cR bd92)))))))] ?_
    refine kRc 127 [Tm 8 (iv (w64 (l6_1 - 1)))] [] .n (cB (cR (cL (cR (cR (cR (cR bd92))))))) [] ?_
    exact kWk (ih (w64 (l6_1 - 1)) (TTxn.mk l6_2.Session l6_2.Seq (l6_2.Reads ++ ([(TRead.mk r9_1 r9_4 r9_7 (r10_1 == 1))] : List TRead)) l6_2.Writes) r10_2 _ h)
   ·refine kCe b8_0 ?_
    cases some_inj h
    refine kWo ?_
    refine kXt 0 ?_
    exact kOut
  ·refine kRs 255 [Tm 36 (bv false)] (rp 6 (.b false) []) (.r 6 b7_1 .n) ?_
   refine kCe rF ?_
   cases some_inj h
   refine kWo ?_
   refine kXt 0 ?_
   exact kOut
def txn_Take.lp15 (fu : Nat) (l15_0 : List Int) : Nat → Int → TTxn → TReader' → Option (TTxn × TReader')
  | 0, _, _, _ => none
  | n_ + 1, l15_1, l15_2, l15_3 =>
  br (decide (l15_1 > 0))
   (br (!l15_3.bad)
    (bd (txn_reader_text fu l15_3) fun (r18_1, r18_2) =>
    bd (txn_reader_text fu r18_2) fun (r18_4, r18_5) =>
    bd (txn_reader_num fu r18_5) fun (r19_1, r19_2) =>
    gd (decide (l15_2.Writes.length + ([(TWrite.mk r18_1 r18_4 (r19_1 == 1))] : List TWrite).length ≤ 4294967296)) <|
    txn_Take.lp15 fu l15_0 n_ (w64 (l15_1 - 1)) (TTxn.mk l15_2.Session l15_2.Seq l15_2.Reads (l15_2.Writes ++ ([(TWrite.mk r18_1 r18_4 (r19_1 == 1))] : List TWrite))) r19_2)
    (some (l15_2, l15_3)))
   (some (l15_2, l15_3))
def txn_Take.lp15_post (l15_0 : List Int) (r_ : (TTxn × TReader')) : Wy → St → Prop := fun e τ => match r_ with
  | (y0, y1) => e = .exit 2 ∧ τ = ofL [Tm 0 (sS 1 e_u8 l15_0), Tm 2 (.ptr 2 0), Tm 5 (.ptr 15 0), Ob 2 (TTxn.ob_0011 y0), Ob 15 (TReader'.ob y1)]
theorem txn_Take.lp15_ok (fu : Nat) (l15_0 : List Int) : ∀ (n_ : Nat) (l15_1 : Int) (l15_2 : TTxn) (l15_3 : TReader') (r_ : (TTxn × TReader')), txn_Take.lp15 fu l15_0 n_ l15_1 l15_2 l15_3 = some r_ → WK Try.prog txn_Take.O (Ck Try.prog) (cB (cR (cL (cR (cR (cR (cR (cR bd92)))))))) [] (ofL [Tm 0 (sS 1 e_u8 l15_0), Tm 2 (.ptr 2 0), Tm 5 (.ptr 15 0), Tm 6 (.fn (.func 98) [.ptr 15 0] []), Tm 7 (.fn (.func 99) [.ptr 15 0] []), Tm 10 (iv l15_1), Ob 2 (TTxn.ob_0011 l15_2), Ob 15 (TReader'.ob l15_3)]) (txn_Take.lp15_post l15_0 r_) := by
 intro n_
 induction n_ with
 | zero => intro l15_1 l15_2 l15_3 r_ h; exact no_none h
 | succ n_ ih =>
  intro l15_1 l15_2 l15_3 r_ h
  refine kLp ?_
  refine kSq ?_
  rcases br_inv h with ⟨b16_1, h⟩ | ⟨b16_1, h⟩
  ·refine kRs 255 [Tm 66 (bv (!l15_3.bad))] (rp 6 (.b true) []) (.r 6 b16_1 .n) ?_
   rcases br_inv h with ⟨b17_0, h⟩ | ⟨b17_0, h⟩
   ·refine kCt b17_0 ?_
    refine kSk ?_
    refine kCd (cR (cB (cB (cR (cL (cR (cR (cR (cR (cR bd92)))))))))) [.lp (cB (cR (cL (cR (cR (cR (cR (cR bd92))))))))] ?_
    refine kSq ?_
    refine kBk 3 ?_
    obtain ⟨⟨r18_1, r18_2⟩, h18_3, h⟩ := bd_inv h
    obtain ⟨⟨r18_4, r18_5⟩, h18_6, h⟩ := bd_inv h
    refine kRs 254 [Tm 11 (.ptr 11 0), Ob 11 (TWrite.ob (TWrite.mk r18_1 r18_4 false)), Ob 15 (TReader'.ob r18_5)] [.a ⟨sv r18_1, [(TReader'.ob r18_2)]⟩, .a ⟨sv r18_4, [(TReader'.ob r18_5)]⟩] (.c (Asks.of (C := Meets Try.prog) (txn_reader_text.meets fu l15_3 _ _ h18_3)) (.c (Asks.of (C := Meets Try.prog) (txn_reader_text.meets fu r18_2 _ _ h18_6)) .n)) ?_
    obtain ⟨⟨r19_1, r19_2⟩, h19_3, h⟩ := bd_inv h
    refine kRs 1017 [Ob 11 (TWrite.ob (TWrite.mk r18_1 r18_4 (r19_1 == 1))), Ob 15 (TReader'.ob r19_2)] [.a ⟨iv r19_1, [(TReader'.ob r19_2)]⟩] (.c (Asks.of (C := Meets Try.prog) (txn_reader_num.meets fu r18_5 _ _ h19_3)) .n) ?_
    obtain ⟨c20_1, h⟩ := gd_inv h
    refine kRc 506 [Ob 2 (TTxn.ob_0011 (TTxn.mk l15_2.Session l15_2.Seq l15_2.Reads (l15_2.Writes ++ ([(TWrite.mk r18_1 r18_4 (r19_1 == 1))] : List TWrite))))] [.s (.t 82) [sO 3 TWrite.en (l15_2.Writes ++ ([(TWrite.mk r18_1 r18_4 (r19_1 == 1))] : List TWrite))]] (.c (c_al (e := TWrite.en) (f := TWrite.en) c20_1) (.c (congrArg (fun d : DV => [AV.data d]) (c_app (e := TWrite.en) (s := 3) (l := l15_2.Writes) (m := ([(TWrite.mk r18_1 r18_4 (r19_1 == 1))] : List TWrite)))) .n)) (cR (cR (cB (cB (cR (cL (cR (cR (cR (cR (cR bd92))))))))))) [.lp (cB (cR (cL (cR (cR (cR (cR (cR bd92))))))))] ?_
    refine kRc 127 [Tm 10 (iv (w64 (l15_1 - 1)))] [] .n (cB (cR (cL (cR (cR (cR (cR (cR bd92)))))))) [] ?_
    exact kWk (ih (w64 (l15_1 - 1)) (TTxn.mk l15_2.Session l15_2.Seq l15_2.Reads (l15_2.Writes ++ ([(TWrite.mk r18_1 r18_4 (r19_1 == 1))] : List TWrite))) r19_2 _ h)
   ·refine kCe b17_0 ?_
    cases some_inj h
    refine kWo ?_
    refine kXt 2 ?_
    exact kOut
  ·refine kRs 255 [Tm 66 (bv false)] (rp 6 (.b false) []) (.r 6 b16_1 .n) ?_
   refine kCe rF ?_
   cases some_inj h
   refine kWo ?_
   refine kXt 2 ?_
   exact kOut
def txn_Take (fu : Nat) (b : List Int) : Option (TTxn × Int × Bool) :=
 bd (txn_reader_num fu (TReader'.mk b 0 false)) fun (r4_1, r4_2) =>
 bd (txn_reader_num fu r4_2) fun (r4_4, r4_5) =>
 bd (txn_reader_num fu r4_5) fun (r5_1, r5_2) =>
 bd (txn_Take.lp6 fu b fu r5_1 (TTxn.mk r4_1 r4_4 [] []) r5_2) fun (y13_0, y13_1) =>
 bd (txn_reader_num fu y13_1) fun (r14_1, r14_2) =>
 bd (txn_Take.lp15 fu b fu r14_1 y13_0 r14_2) fun (y22_0, y22_1) =>
 bd (txn_Put fu y22_0) fun r23_1 =>
 br y22_1.bad
  (some ((TTxn.mk 0 0 [] []), 0, false))
  (br r23_1.isEmpty
   (some ((TTxn.mk 0 0 [] []), 0, false))
   (bd (bytes_HasPrefix b r23_1) fun r24_3 =>
   br (!r24_3)
    (some ((TTxn.mk 0 0 [] []), 0, false))
    (br ((r23_1.length : Int) != y22_1.n)
     (some ((TTxn.mk 0 0 [] []), 0, false))
     (some (y22_0, y22_1.n, true)))))
theorem txn_Take.meets (fu : Nat) (b : List Int) (z0 : TTxn) (z1 : Int) (z2 : Bool) (h : txn_Take fu b = some (z0, z1, z2)) : Meets Try.prog ⟨92, [sS 1 e_u8 b], []⟩ ⟨.tup [.data (TTxn.ag z0), iv z1, bv z2], []⟩ := by
 refine kMt hmix txn_Take.O Try.f92 bd92 1 ?_
 unfold txn_Take at h
 refine kRs 1 [Tm 2 (.ptr 2 0), Ob 2 (TTxn.ob_0011 (TTxn.mk 0 0 [] []))] [] .n ?_
 refine kRs 7 [Tm 5 (.ptr 15 0), Ob 15 (TReader'.ob (TReader'.mk b 0 false))] [] .n ?_
 refine kRs 31 [Tm 6 (.fn (.func 98) [.ptr 15 0] []), Tm 7 (.fn (.func 99) [.ptr 15 0] [])] [] .n ?_
 obtain ⟨⟨r4_1, r4_2⟩, h4_3, h⟩ := bd_inv h
 obtain ⟨⟨r4_4, r4_5⟩, h4_6, h⟩ := bd_inv h
 refine kRs 87 [Ob 2 (TTxn.ob_0011 (TTxn.mk r4_1 r4_4 [] [])), Ob 15 (TReader'.ob r4_5)] [.a ⟨iv r4_1, [(TReader'.ob r4_2)]⟩, .a ⟨iv r4_4, [(TReader'.ob r4_5)]⟩] (.c (Asks.of (C := Meets Try.prog) (txn_reader_num.meets fu (TReader'.mk b 0 false) _ _ h4_3)) (.c (Asks.of (C := Meets Try.prog) (txn_reader_num.meets fu r4_2 _ _ h4_6)) .n)) ?_
 refine kSq ?_
 obtain ⟨⟨r5_1, r5_2⟩, h5_3, h⟩ := bd_inv h
 refine kRs 125 [Tm 8 (iv r5_1), Ob 15 (TReader'.ob r5_2)] [.a ⟨iv r5_1, [(TReader'.ob r5_2)]⟩] (.c (Asks.of (C := Meets Try.prog) (txn_reader_num.meets fu r4_5 _ _ h5_3)) .n) ?_
 refine kBk 0 ?_
 obtain ⟨o13, ho13, h⟩ := bd_inv h
 refine kUs (txn_Take.lp6_ok fu b _ r5_1 (TTxn.mk r4_1 r4_4 [] []) r5_2 _ ho13) ?_
 intro e_ τ_ hp_
 obtain ⟨y13_0, y13_1⟩ := o13
 obtain ⟨rfl, rfl⟩ := hp_
 refine kCd (cR (cR (cR (cR (cR bd92))))) [] ?_
 refine kSq ?_
 obtain ⟨⟨r14_1, r14_2⟩, h14_3, h⟩ := bd_inv h
 refine kRs 63 [Tm 10 (iv r14_1), Ob 15 (TReader'.ob r14_2)] [.a ⟨iv r14_1, [(TReader'.ob r14_2)]⟩] (.c (Asks.of (C := Meets Try.prog) (txn_reader_num.meets fu y13_1 _ _ h14_3)) .n) ?_
 refine kBk 2 ?_
 obtain ⟨o22, ho22, h⟩ := bd_inv h
 refine kUs (txn_Take.lp15_ok fu b _ r14_1 y13_0 r14_2 _ ho22) ?_
 intro e_ τ_ hp_
 obtain ⟨y22_0, y22_1⟩ := o22
 obtain ⟨rfl, rfl⟩ := hp_
 refine kCd (cR (cR (cR (cR (cR (cR bd92)))))) [] ?_
 refine kSq ?_
 obtain ⟨r23_1, h23_2, h⟩ := bd_inv h
 refine kRs 23 [Tm 12 (.data (.slc true (some r23_1.isEmpty) 1 (List.map e_u8 r23_1))), Ob 2 (TTxn.ob y22_0)] [.a ⟨.data (.slc true (some r23_1.isEmpty) 1 (List.map e_u8 r23_1)), []⟩] (.c (Asks.of (C := Meets Try.prog) (txn_Put.meets fu y22_0 _ h23_2)) .n) ?_
 rcases br_inv h with ⟨b24_1, h⟩ | ⟨b24_1, h⟩
 ·refine kRs 58 [Tm 108 (bv true)] (rp 16 (.b true) []) (.r 3 b24_1 (.r 13 rT .n)) ?_
  refine kCt rT ?_
  refine kRs 4 [Tm 3 (iv 0), Tm 4 (bv false), Ob 2 (TTxn.ob_0011 (TTxn.mk 0 0 [] []))] [] .n ?_
  refine kRt ?_
  have h_0 := some_inj h
  obtain ⟨g_1, h_1⟩ := Prod.mk.inj h_0
  obtain ⟨g_2, h_2⟩ := Prod.mk.inj h_1
  subst g_1
  subst g_2
  subst h_2
  exact kFr
 ·rcases br_inv h with ⟨b24_2, h⟩ | ⟨b24_2, h⟩
  ·refine kRs 58 [Tm 108 (bv true)] (.b false :: (.b false :: (.b false :: (rp 13 (.b true) [])))) (.r 3 b24_1 (.r 5 b24_2 (.r 8 rT .n))) ?_
   refine kCt rT ?_
   refine kRs 4 [Tm 3 (iv 0), Tm 4 (bv false), Ob 2 (TTxn.ob_0011 (TTxn.mk 0 0 [] []))] [] .n ?_
   refine kRt ?_
   have h_0 := some_inj h
   obtain ⟨g_1, h_1⟩ := Prod.mk.inj h_0
   obtain ⟨g_2, h_2⟩ := Prod.mk.inj h_1
   subst g_1
   subst g_2
   subst h_2
   exact kFr
  ·obtain ⟨r24_3, h24_4, h⟩ := bd_inv h
   rcases br_inv h with ⟨b24_5, h⟩ | ⟨b24_5, h⟩
   ·refine kRs 58 [Tm 108 (bv true)] (rp 6 (.b false) (.a ⟨bv r24_3, []⟩ :: (.b false :: (.b false :: (rp 8 (.b true) []))))) (.r 3 b24_1 (.r 3 b24_2 (.c (Asks.fg (args1 := [sS 1 e_u8 b]) (args2 := []) (nl := some r23_1.isEmpty) (sz := 1) (es := List.map e_u8 r23_1) (Asks.of (C := Meets Try.prog) (bytes_HasPrefix.meets b r23_1 _ h24_4))) (.r 2 b24_2 (.r 8 b24_5 .n))))) ?_
    refine kCt rT ?_
    refine kRs 4 [Tm 3 (iv 0), Tm 4 (bv false), Ob 2 (TTxn.ob_0011 (TTxn.mk 0 0 [] []))] [] .n ?_
    refine kRt ?_
    have h_0 := some_inj h
    obtain ⟨g_1, h_1⟩ := Prod.mk.inj h_0
    obtain ⟨g_2, h_2⟩ := Prod.mk.inj h_1
    subst g_1
    subst g_2
    subst h_2
    exact kFr
   ·refine kRs 58 [Tm 108 (bv ((r23_1.length : Int) != y22_1.n))] (rp 6 (.b false) (.a ⟨bv r24_3, []⟩ :: (rp 4 (.b false) (.s (.t 102) [iv (r23_1.length : Int)] :: (rp 6 (.b false) []))))) (.r 3 b24_1 (.r 3 b24_2 (.c (Asks.fg (args1 := [sS 1 e_u8 b]) (args2 := []) (nl := some r23_1.isEmpty) (sz := 1) (es := List.map e_u8 r23_1) (Asks.of (C := Meets Try.prog) (bytes_HasPrefix.meets b r23_1 _ h24_4))) (.r 2 b24_2 (.r 2 b24_5 (.c (c_len (e := e_u8) (l := r23_1)) (.r 6 b24_5 .n))))))) ?_
    rcases br_inv h with ⟨b28_0, h⟩ | ⟨b28_0, h⟩
    ·refine kCt b28_0 ?_
     refine kRs 4 [Tm 3 (iv 0), Tm 4 (bv false), Ob 2 (TTxn.ob_0011 (TTxn.mk 0 0 [] []))] [] .n ?_
     refine kRt ?_
     have h_0 := some_inj h
     obtain ⟨g_1, h_1⟩ := Prod.mk.inj h_0
     obtain ⟨g_2, h_2⟩ := Prod.mk.inj h_1
     subst g_1
     subst g_2
     subst h_2
     exact kFr
    ·refine kCe b28_0 ?_
     refine kSk ?_
     refine kCd (cR (cR (cR (cR (cR (cR (cR bd92))))))) [] ?_
     refine kRs 6 [Tm 3 (iv y22_1.n), Tm 4 (bv true)] [] (.c rT .n) ?_
     refine kRt ?_
     have h_0 := some_inj h
     obtain ⟨g_1, h_1⟩ := Prod.mk.inj h_0
     obtain ⟨g_2, h_2⟩ := Prod.mk.inj h_1
     subst g_1
     subst g_2
     subst h_2
     exact kFr
def bd56 : Code := (Try.f56.body).getD .skip
def msg_reader_txn.O : Nat → Nat := fun t => bif ([2, 3, 4, 5, 12, 19] : List Nat).any (Nat.beq t) then 1 else 0
def msg_reader_txn (fu : Nat) (o0_v : TReader) : Option (TTxn × TReader) :=
 bd (txn_Take fu o0_v.b) fun (r2_1, r2_2, r2_3) =>
 bd (msg_reader_goes r2_2 r2_3 o0_v) fun r3_1 =>
 some (r2_1, r3_1)
theorem msg_reader_txn.meets (fu : Nat) (o0_v : TReader) (z0 : TTxn) (z1 : TReader) (h : msg_reader_txn fu o0_v = some (z0, z1)) : Meets Try.prog ⟨56, [.ptr 1000 0], [[sS 1 e_u8 o0_v.b, bv o0_v.bad]]⟩ ⟨.data (TTxn.ag z0), [[sS 1 e_u8 z1.b, bv z1.bad]]⟩ := by
 refine kMt hmix msg_reader_txn.O Try.f56 bd56 3 ?_
 unfold msg_reader_txn at h
 refine kRs 3 [Tm 2 (.ptr 2 0), Ob 2 (TTxn.ob_0011 (TTxn.mk 0 0 [] []))] [] .n ?_
 obtain ⟨⟨r2_1, r2_2, r2_3⟩, h2_4, h⟩ := bd_inv h
 refine kRs 15 [Tm 3 (.ptr 3 0), Tm 4 (iv r2_2), Tm 5 (bv r2_3), Ob 3 (TTxn.ob r2_1)] [.a ⟨.tup [.data (TTxn.ag r2_1), iv r2_2, bv r2_3], []⟩] (.c (Asks.of (C := Meets Try.prog) (txn_Take.meets fu o0_v.b _ _ _ h2_4)) .n) ?_
 obtain ⟨r3_1, h3_2, h⟩ := bd_inv h
 refine kRs 57 [Ob 1000 [sS 1 e_u8 r3_1.b, bv r3_1.bad]] [.a ⟨.tup [], [[sS 1 e_u8 r3_1.b, bv r3_1.bad]]⟩] (.c (Asks.of (C := Meets Try.prog) (msg_reader_goes.meets r2_2 r2_3 o0_v _ h3_2)) .n) ?_
 refine kRs 9 [Ob 2 (TTxn.ob r2_1)] [] .n ?_
 refine kRt ?_
 have h_0 := some_inj h
 obtain ⟨g_1, h_1⟩ := Prod.mk.inj h_0
 subst g_1
 subst h_1
 exact kFr
def bd55 : Code := (Try.f55.body).getD .skip
def msg_Take_1.O : Nat → Nat := fun t => bif ([2, 7, 12, 17, 18] : List Nat).any (Nat.beq t) then 1 else 0
def msg_Take_1 (fu : Nat) (o1_v : TMsg) (o2_v : TReader) : Option (TMsg × TReader) :=
 bd (msg_reader_num fu o2_v) fun (r1_1, r1_2) =>
 bd (msg_reader_flag fu r1_2) fun (r1_4, r1_5) =>
 br (!r1_4)
  (bd (msg_reader_txn fu r1_5) fun (r4_1, r4_2) =>
  gd (decide (o1_v.Entries.length + ([(TEntry.mk r1_1 r1_4 r4_1)] : List TEntry).length ≤ 4294967296)) <|
  some ((TMsg.mk o1_v.Kind o1_v.From o1_v.To o1_v.Part o1_v.Term o1_v.Index o1_v.LogTerm o1_v.Commit o1_v.OK (o1_v.Entries ++ ([(TEntry.mk r1_1 r1_4 r4_1)] : List TEntry)) o1_v.T o1_v.Session o1_v.Seq o1_v.Pos o1_v.Shard o1_v.Span o1_v.FromKey o1_v.ToKey o1_v.Keys o1_v.Got o1_v.Err), r4_2))
  (gd (decide (o1_v.Entries.length + ([(TEntry.mk r1_1 r1_4 (TTxn.mk 0 0 [] []))] : List TEntry).length ≤ 4294967296)) <|
  some ((TMsg.mk o1_v.Kind o1_v.From o1_v.To o1_v.Part o1_v.Term o1_v.Index o1_v.LogTerm o1_v.Commit o1_v.OK (o1_v.Entries ++ ([(TEntry.mk r1_1 r1_4 (TTxn.mk 0 0 [] []))] : List TEntry)) o1_v.T o1_v.Session o1_v.Seq o1_v.Pos o1_v.Shard o1_v.Span o1_v.FromKey o1_v.ToKey o1_v.Keys o1_v.Got o1_v.Err), r1_5))
theorem msg_Take_1.meets (fu : Nat) (o1_v : TMsg) (o2_v : TReader) (z0 : TMsg) (z1 : TReader) (h : msg_Take_1 fu o1_v o2_v = some (z0, z1)) : Meets Try.prog ⟨55, [.ptr 1000 0, .ptr 1001 0], [[.ptr 1002 0], (TMsg.ob_00000000010011000000011 o1_v), [sS 1 e_u8 o2_v.b, bv o2_v.bad]]⟩ ⟨.tup [], [[.ptr 1002 0], (TMsg.ob_00000000010011000000011 z0), [sS 1 e_u8 z1.b, bv z1.bad]]⟩ := by
 refine kMt hmix msg_Take_1.O Try.f55 bd55 31 ?_
 unfold msg_Take_1 at h
 obtain ⟨⟨r1_1, r1_2⟩, h1_3, h⟩ := bd_inv h
 obtain ⟨⟨r1_4, r1_5⟩, h1_6, h⟩ := bd_inv h
 refine kRs 15 [Tm 2 (.ptr 2 0), Ob 2 (TEntry.ob_000011 (TEntry.mk r1_1 r1_4 (TTxn.mk 0 0 [] []))), Ob 1002 [sS 1 e_u8 r1_5.b, bv r1_5.bad]] [.a ⟨iv r1_1, [[sS 1 e_u8 r1_2.b, bv r1_2.bad]]⟩, .a ⟨bv r1_4, [[sS 1 e_u8 r1_5.b, bv r1_5.bad]]⟩] (.c (Asks.of (C := Meets Try.prog) (msg_reader_num.meets fu o2_v _ _ h1_3)) (.c (Asks.of (C := Meets Try.prog) (msg_reader_flag.meets fu r1_2 _ _ h1_6)) (.c rT .n))) ?_
 refine kSq ?_
 refine kRs 127 [Tm 10 (bv (!r1_4))] [] .n ?_
 rcases br_inv h with ⟨b3_0, h⟩ | ⟨b3_0, h⟩
 ·refine kCt b3_0 ?_
  obtain ⟨⟨r4_1, r4_2⟩, h4_3, h⟩ := bd_inv h
  refine kRc 226 [Ob 2 (TEntry.ob (TEntry.mk r1_1 r1_4 r4_1)), Ob 1002 [sS 1 e_u8 r4_2.b, bv r4_2.bad]] [.a ⟨.data (TTxn.ag r4_1), [[sS 1 e_u8 r4_2.b, bv r4_2.bad]]⟩] (.c (Asks.of (C := Meets Try.prog) (msg_reader_txn.meets fu r1_5 _ _ h4_3)) .n) (cR (cR bd55)) [] ?_
  obtain ⟨c5_1, h⟩ := gd_inv h
  have h_0 := some_inj h
  obtain ⟨g_1, h_1⟩ := Prod.mk.inj h_0
  subst g_1
  subst h_1
  exact kRf [.s (.t 18) [sO 6 TEntry.en (o1_v.Entries ++ ([(TEntry.mk r1_1 r1_4 r4_1)] : List TEntry))]] (.c (c_al (e := TEntry.en) (f := TEntry.en) c5_1) (.c (congrArg (fun d : DV => [AV.data d]) (c_app (e := TEntry.en) (s := 6) (l := o1_v.Entries) (m := ([(TEntry.mk r1_1 r1_4 r4_1)] : List TEntry)))) .n))
 ·refine kCe b3_0 ?_
  refine kSk ?_
  refine kCd (cR (cR bd55)) [] ?_
  obtain ⟨c6_1, h⟩ := gd_inv h
  have h_0 := some_inj h
  obtain ⟨g_1, h_1⟩ := Prod.mk.inj h_0
  subst g_1
  subst h_1
  exact kRf [.s (.t 18) [sO 6 TEntry.en (o1_v.Entries ++ ([(TEntry.mk r1_1 r1_4 (TTxn.mk 0 0 [] []))] : List TEntry))]] (.c (c_al (e := TEntry.en) (f := TEntry.en) c6_1) (.c (congrArg (fun d : DV => [AV.data d]) (c_app (e := TEntry.en) (s := 6) (l := o1_v.Entries) (m := ([(TEntry.mk r1_1 r1_4 (TTxn.mk 0 0 [] []))] : List TEntry)))) .n))
def bd54 : Code := (Try.f54.body).getD .skip
def msg_reader_many.O : Nat → Nat := fun t => bif ([4] : List Nat).any (Nat.beq t) then 1 else 0
def msg_reader_many.lp2 (fu : Nat) : Nat → Int → TReader → TMsg → Option (TReader × TMsg)
  | 0, _, _, _ => none
  | n_ + 1, l2_0, l2_1, l2_2 =>
  br (decide (l2_0 > 0))
   (br (!l2_1.bad)
    (bd (msg_Take_1 fu l2_2 l2_1) fun (r5_1, r5_2) =>
    msg_reader_many.lp2 fu n_ (w64 (l2_0 - 1)) r5_2 r5_1)
    (some (l2_1, l2_2)))
   (some (l2_1, l2_2))
def msg_reader_many.lp2_post (r_ : (TReader × TMsg)) : Wy → St → Prop := fun e τ => match r_ with
  | (y0, y1) => e = .exit 0 ∧ τ = ofL [Ob 1000 [sS 1 e_u8 y0.b, bv y0.bad], Ob 1001 [.ptr 1000 0], Ob 1002 (TMsg.ob_00000000010011000000011 y1)]
theorem msg_reader_many.lp2_ok (fu : Nat) : ∀ (n_ : Nat) (l2_0 : Int) (l2_1 : TReader) (l2_2 : TMsg) (r_ : (TReader × TMsg)), msg_reader_many.lp2 fu n_ l2_0 l2_1 l2_2 = some r_ → WK Try.prog msg_reader_many.O (Ck Try.prog) (cB (cR bd54)) [] (ofL [Tm 0 (.ptr 1000 0), Tm 1 (.fn (.func 55) [] [.ptr 1001 0, .ptr 1002 0]), Tm 4 (iv l2_0), Ob 1000 [sS 1 e_u8 l2_1.b, bv l2_1.bad], Ob 1001 [.ptr 1000 0], Ob 1002 (TMsg.ob_00000000010011000000011 l2_2)]) (msg_reader_many.lp2_post r_) := by
 intro n_
 induction n_ with
 | zero => intro l2_0 l2_1 l2_2 r_ h; exact no_none h
 | succ n_ ih =>
  intro l2_0 l2_1 l2_2 r_ h
  refine kLp ?_
  refine kSq ?_
  rcases br_inv h with ⟨b3_1, h⟩ | ⟨b3_1, h⟩
  ·refine kRs 63 [Tm 15 (bv (!l2_1.bad))] (rp 6 (.b true) []) (.r 6 b3_1 .n) ?_
   rcases br_inv h with ⟨b4_0, h⟩ | ⟨b4_0, h⟩
   ·refine kCt b4_0 ?_
    refine kSk ?_
    refine kCd (cR (cB (cB (cR bd54)))) [.lp (cB (cR bd54))] ?_
    refine kSq ?_
    refine kBk 1 ?_
    obtain ⟨⟨r5_1, r5_2⟩, h5_3, h⟩ := bd_inv h
    refine kRc 46 [Ob 1000 [sS 1 e_u8 r5_2.b, bv r5_2.bad], Ob 1002 (TMsg.ob_00000000010011000000011 r5_1)] [.a ⟨.tup [], [[.ptr 1002 0], (TMsg.ob_00000000010011000000011 r5_1), [sS 1 e_u8 r5_2.b, bv r5_2.bad]]⟩] (.c (Asks.of (C := Meets Try.prog) (msg_Take_1.meets fu l2_2 l2_1 _ _ h5_3)) .n) (cR (cR (cB (cB (cR bd54))))) [.lp (cB (cR bd54))] ?_
    refine kRc 47 [Tm 4 (iv (w64 (l2_0 - 1)))] [] .n (cB (cR bd54)) [] ?_
    exact kWk (ih (w64 (l2_0 - 1)) r5_2 r5_1 _ h)
   ·refine kCe b4_0 ?_
    cases some_inj h
    refine kWo ?_
    refine kXt 0 ?_
    exact kOut
  ·refine kRs 63 [Tm 15 (bv false)] (rp 6 (.b false) []) (.r 6 b3_1 .n) ?_
   refine kCe rF ?_
   cases some_inj h
   refine kWo ?_
   refine kXt 0 ?_
   exact kOut
def msg_reader_many (fu : Nat) (o0_v : TReader) (o2_v : TMsg) : Option (TReader × TMsg) :=
 bd (msg_reader_num fu o0_v) fun (r1_1, r1_2) =>
 bd (msg_reader_many.lp2 fu fu r1_1 r1_2 o2_v) fun (y7_0, y7_1) =>
 some (y7_0, y7_1)
theorem msg_reader_many.meets (fu : Nat) (o0_v : TReader) (o2_v : TMsg) (z0 : TReader) (z1 : TMsg) (h : msg_reader_many fu o0_v o2_v = some (z0, z1)) : Meets Try.prog ⟨54, [.ptr 1000 0, .fn (.func 55) [] [.ptr 1001 0, .ptr 1002 0]], [[sS 1 e_u8 o0_v.b, bv o0_v.bad], [.ptr 1000 0], (TMsg.ob_00000000010011000000011 o2_v)]⟩ ⟨.tup [], [[sS 1 e_u8 z0.b, bv z0.bad], [.ptr 1000 0], (TMsg.ob_00000000010011000000011 z1)]⟩ := by
 refine kMt hmix msg_reader_many.O Try.f54 bd54 31 ?_
 unfold msg_reader_many at h
 obtain ⟨⟨r1_1, r1_2⟩, h1_3, h⟩ := bd_inv h
 refine kRs 27 [Tm 4 (iv r1_1), Ob 1000 [sS 1 e_u8 r1_2.b, bv r1_2.bad]] [.a ⟨iv r1_1, [[sS 1 e_u8 r1_2.b, bv r1_2.bad]]⟩] (.c (Asks.of (C := Meets Try.prog) (msg_reader_num.meets fu o0_v _ _ h1_3)) .n) ?_
 refine kBk 0 ?_
 obtain ⟨o7, ho7, h⟩ := bd_inv h
 refine kUs (msg_reader_many.lp2_ok fu _ r1_1 r1_2 o2_v _ ho7) ?_
 intro e_ τ_ hp_
 obtain ⟨y7_0, y7_1⟩ := o7
 obtain ⟨rfl, rfl⟩ := hp_
 have h_0 := some_inj h
 obtain ⟨g_1, h_1⟩ := Prod.mk.inj h_0
 subst g_1
 subst h_1
 exact kFn
end Go.Proofs.Ytbflggolnolaeaa.Told
