/- Functions of the program told as Lean functions, with the walks of their code in the machine by value. -/
import Derived.Test.YthjpcfbfiaenaaaProg
import Derived.Test.YthjpcfbfiaenaaaVam2
noncomputable section
namespace Go.Proofs.Ythjpcfbfiaenaaa.Told
open Go Go.Proofs Go.Proofs.Ythjpcfbfiaenaaa Go.Proofs.Ythjpcfbfiaenaaa.Vam
set_option linter.unusedVariables false
set_option maxRecDepth 100000
theorem hmix : Try.prog.follows .mixedOrders = true := by kernel_rfl
structure TVersion where
  Pos : Int
  Val : ByteArray
  Gone : Bool
def TVersion.en (x : TVersion) : List DV := [.val (.int .i64 x.Pos), .val (.string x.Val), .val (.bool x.Gone)]
structure TChain where
  Key : ByteArray
  L : (List TVersion)
def TChain.en (x : TChain) : List DV := [.val (.string x.Key), .slc false none 3 (List.map TVersion.en x.L)]
structure TSeat where
  Session : Int
  Seq : Int
  Pos : Int
def TSeat.en (x : TSeat) : List DV := [.val (.int .i64 x.Session), .val (.int .i64 x.Seq), .val (.int .i64 x.Pos)]
structure TStore where
  Chains : (List TChain)
  Mark : Int
def TStore.en (x : TStore) : List DV := [.slc false none 2 (List.map TChain.en x.Chains), .val (.int .i64 x.Mark)]
structure TShard where
  ID : Int
  Shards : Int
  Done : Int
  S : TStore
  Seats : (List TSeat)
  Bits : (List Int)
  Said : (List Int)
def TShard.en (x : TShard) : List DV := [.val (.int .i64 x.ID), .val (.int .i64 x.Shards), .val (.int .i64 x.Done), .slc false none 2 (List.map TChain.en x.S.Chains), .val (.int .i64 x.S.Mark), .slc false none 3 (List.map TSeat.en x.Seats), .slc false none 1 (List.map e_i64 x.Bits), .slc false none 1 (List.map e_i64 x.Said)]
structure TWriter where
  b : (List Int)
def TWriter.en (x : TWriter) : List DV := [.slc false none 1 (List.map e_u8 x.b)]
structure TReader where
  b : (List Int)
  bad : Bool
def TReader.en (x : TReader) : List DV := [.slc false none 1 (List.map e_u8 x.b), .val (.bool x.bad)]
structure TPicks where
  l : (List Int)
  n : Int
def TPicks.en (x : TPicks) : List DV := [.slc false none 1 (List.map e_u8 x.l), .val (.int .i64 x.n)]
structure TRead where
  Key : ByteArray
  Version : Int
  Val : ByteArray
  There : Bool
def TRead.en (x : TRead) : List DV := [.val (.string x.Key), .val (.int .i64 x.Version), .val (.string x.Val), .val (.bool x.There)]
structure TWrite where
  Key : ByteArray
  Val : ByteArray
  Gone : Bool
def TWrite.en (x : TWrite) : List DV := [.val (.string x.Key), .val (.string x.Val), .val (.bool x.Gone)]
structure TTxn where
  Session : Int
  Seq : Int
  Reads : (List TRead)
  Writes : (List TWrite)
def TTxn.en (x : TTxn) : List DV := [.val (.int .i64 x.Session), .val (.int .i64 x.Seq), .slc false none 4 (List.map TRead.en x.Reads), .slc false none 3 (List.map TWrite.en x.Writes)]
def TShard.ag (x : TShard) : DV := .agg [.val (.int .i64 x.ID), .val (.int .i64 x.Shards), .val (.int .i64 x.Done), .slc false none 2 (List.map TChain.en x.S.Chains), .val (.int .i64 x.S.Mark), .slc false none 3 (List.map TSeat.en x.Seats), .slc false none 1 (List.map e_i64 x.Bits), .slc false none 1 (List.map e_i64 x.Said)]
def TShard.ag_00010111 (x : TShard) : DV := .agg [.val (.int .i64 x.ID), .val (.int .i64 x.Shards), .val (.int .i64 x.Done), .slc true none 2 (List.map TChain.en x.S.Chains), .val (.int .i64 x.S.Mark), .slc true none 3 (List.map TSeat.en x.Seats), .slc true none 1 (List.map e_i64 x.Bits), .slc true none 1 (List.map e_i64 x.Said)]
def TShard.ob (x : TShard) : List AV := [.data (.val (.int .i64 x.ID)), .data (.val (.int .i64 x.Shards)), .data (.val (.int .i64 x.Done)), .data (.slc false none 2 (List.map TChain.en x.S.Chains)), .data (.val (.int .i64 x.S.Mark)), .data (.slc false none 3 (List.map TSeat.en x.Seats)), .data (.slc false none 1 (List.map e_i64 x.Bits)), .data (.slc false none 1 (List.map e_i64 x.Said))]
def TShard.ob_00000001 (x : TShard) : List AV := [.data (.val (.int .i64 x.ID)), .data (.val (.int .i64 x.Shards)), .data (.val (.int .i64 x.Done)), .data (.slc false none 2 (List.map TChain.en x.S.Chains)), .data (.val (.int .i64 x.S.Mark)), .data (.slc false none 3 (List.map TSeat.en x.Seats)), .data (.slc false none 1 (List.map e_i64 x.Bits)), .data (.slc true none 1 (List.map e_i64 x.Said))]
def TShard.ob_0000001 (x : TShard) : List AV := [.data (.val (.int .i64 x.ID)), .data (.val (.int .i64 x.Shards)), .data (.val (.int .i64 x.Done)), .data (.slc false none 2 (List.map TChain.en x.S.Chains)), .data (.val (.int .i64 x.S.Mark)), .data (.slc false none 3 (List.map TSeat.en x.Seats)), .data (.slc true none 1 (List.map e_i64 x.Bits)), .data (.slc false none 1 (List.map e_i64 x.Said))]
def TShard.ob_00000011 (x : TShard) : List AV := [.data (.val (.int .i64 x.ID)), .data (.val (.int .i64 x.Shards)), .data (.val (.int .i64 x.Done)), .data (.slc false none 2 (List.map TChain.en x.S.Chains)), .data (.val (.int .i64 x.S.Mark)), .data (.slc false none 3 (List.map TSeat.en x.Seats)), .data (.slc true none 1 (List.map e_i64 x.Bits)), .data (.slc true none 1 (List.map e_i64 x.Said))]
def TShard.ob_00000111 (x : TShard) : List AV := [.data (.val (.int .i64 x.ID)), .data (.val (.int .i64 x.Shards)), .data (.val (.int .i64 x.Done)), .data (.slc false none 2 (List.map TChain.en x.S.Chains)), .data (.val (.int .i64 x.S.Mark)), .data (.slc true none 3 (List.map TSeat.en x.Seats)), .data (.slc true none 1 (List.map e_i64 x.Bits)), .data (.slc true none 1 (List.map e_i64 x.Said))]
def TShard.ob_00010011 (x : TShard) : List AV := [.data (.val (.int .i64 x.ID)), .data (.val (.int .i64 x.Shards)), .data (.val (.int .i64 x.Done)), .data (.slc true none 2 (List.map TChain.en x.S.Chains)), .data (.val (.int .i64 x.S.Mark)), .data (.slc false none 3 (List.map TSeat.en x.Seats)), .data (.slc true none 1 (List.map e_i64 x.Bits)), .data (.slc true none 1 (List.map e_i64 x.Said))]
def TShard.ob_00010111 (x : TShard) : List AV := [.data (.val (.int .i64 x.ID)), .data (.val (.int .i64 x.Shards)), .data (.val (.int .i64 x.Done)), .data (.slc true none 2 (List.map TChain.en x.S.Chains)), .data (.val (.int .i64 x.S.Mark)), .data (.slc true none 3 (List.map TSeat.en x.Seats)), .data (.slc true none 1 (List.map e_i64 x.Bits)), .data (.slc true none 1 (List.map e_i64 x.Said))]
def TSeat.ob (x : TSeat) : List AV := [.data (.val (.int .i64 x.Session)), .data (.val (.int .i64 x.Seq)), .data (.val (.int .i64 x.Pos))]
def TVersion.ag (x : TVersion) : DV := .agg [.val (.int .i64 x.Pos), .val (.string x.Val), .val (.bool x.Gone)]
def TVersion.ob (x : TVersion) : List AV := [.data (.val (.int .i64 x.Pos)), .data (.val (.string x.Val)), .data (.val (.bool x.Gone))]
def TTxn.ag (x : TTxn) : DV := .agg [.val (.int .i64 x.Session), .val (.int .i64 x.Seq), .slc false none 4 (List.map TRead.en x.Reads), .slc false none 3 (List.map TWrite.en x.Writes)]
def TTxn.ag_0011 (x : TTxn) : DV := .agg [.val (.int .i64 x.Session), .val (.int .i64 x.Seq), .slc true none 4 (List.map TRead.en x.Reads), .slc true none 3 (List.map TWrite.en x.Writes)]
def TTxn.ob (x : TTxn) : List AV := [.data (.val (.int .i64 x.Session)), .data (.val (.int .i64 x.Seq)), .data (.slc false none 4 (List.map TRead.en x.Reads)), .data (.slc false none 3 (List.map TWrite.en x.Writes))]
def TTxn.ob_0011 (x : TTxn) : List AV := [.data (.val (.int .i64 x.Session)), .data (.val (.int .i64 x.Seq)), .data (.slc true none 4 (List.map TRead.en x.Reads)), .data (.slc true none 3 (List.map TWrite.en x.Writes))]
def TRead.ob (x : TRead) : List AV := [.data (.val (.string x.Key)), .data (.val (.int .i64 x.Version)), .data (.val (.string x.Val)), .data (.val (.bool x.There))]
def TWrite.ob (x : TWrite) : List AV := [.data (.val (.string x.Key)), .data (.val (.string x.Val)), .data (.val (.bool x.Gone))]
def bd14 : Code := (Try.f14.body).getD .skip
def diwanref13_NewShard.O : Nat → Nat := fun t => bif ([4, 7] : List Nat).any (Nat.beq t) then 1 else 0
def diwanref13_NewShard (id : Int) (shards : Int) : Option TShard :=
 some (TShard.mk id shards 0 (TStore.mk [] 0) [] [] [])
theorem diwanref13_NewShard.meets (id : Int) (shards : Int) (z0 : TShard) (h : diwanref13_NewShard id shards = some z0) : Meets Try.prog ⟨14, [iv id, iv shards], []⟩ ⟨.data (TShard.ag_00010111 z0), []⟩ := by
 refine kMt hmix diwanref13_NewShard.O Try.f14 bd14 3 ?_
 unfold diwanref13_NewShard at h
 refine kRs 3 [Tm 4 (.ptr 4 0), Ob 4 (TShard.ob_00010111 (TShard.mk 0 0 0 (TStore.mk [] 0) [] [] []))] [] .n ?_
 refine kRs 1 [Ob 4 (TShard.ob_00010111 (TShard.mk id shards 0 (TStore.mk [] 0) [] [] []))] [] .n ?_
 refine kRt ?_
 have h_ := some_inj h
 subst h_
 exact kFr
def bd43 : Code := (Try.f43.body).getD .skip
def shard_May_1.O : Nat → Nat := fun t => bif ([2, 3, 4] : List Nat).any (Nat.beq t) then 1 else 0
def shard_May_1 (from_v : Int) (to : Int) : Option Unit :=
 some ()
theorem shard_May_1.meets (from_v : Int) (to : Int) (h : shard_May_1 from_v to = some ()) : Meets Try.prog ⟨43, [iv from_v, iv to], []⟩ ⟨.fn (.func 44) [] [.ptr 1000 0, .ptr 1001 0], [[iv from_v], [iv to]]⟩ := by
 refine kMt hmix shard_May_1.O Try.f43 bd43 3 ?_
 unfold shard_May_1 at h
 refine kRs 0 [Tm 2 (.ptr 2 0), Tm 3 (.ptr 3 0), Ob 2 [iv from_v], Ob 3 [iv to]] [] .n ?_
 refine kRs 12 [Tm 4 (.fn (.func 44) [] [.ptr 2 0, .ptr 3 0])] [] .n ?_
 refine kRt ?_
 cases some_inj h
 exact kFr
def bd44 : Code := (Try.f44.body).getD .skip
def shard_May_1_1.O : Nat → Nat := fun t => bif ([4] : List Nat).any (Nat.beq t) then 1 else 0
def shard_May_1_1 (v : Int) (o0_v : Int) (o1_v : Int) : Option Bool :=
 br (decide (v < o0_v))
  (some true)
  (some (decide (v > o1_v)))
theorem shard_May_1_1.meets (v : Int) (o0_v : Int) (o1_v : Int) (z0 : Bool) (h : shard_May_1_1 v o0_v o1_v = some z0) : Meets Try.prog ⟨44, [iv v, .ptr 1000 0, .ptr 1001 0], [[iv o0_v], [iv o1_v]]⟩ ⟨bv z0, [[iv o0_v], [iv o1_v]]⟩ := by
 refine kMt hmix shard_May_1_1.O Try.f44 bd44 31 ?_
 unfold shard_May_1_1 at h
 refine kRs 31 [] [] .n ?_
 rcases br_inv h with ⟨b2_1, h⟩ | ⟨b2_1, h⟩
 ·refine kRs 24 [Tm 4 (bv true)] (rp 4 (.b true) []) (.r 4 b2_1 .n) ?_
  refine kRt ?_
  have h_ := some_inj h
  subst h_
  exact kFr
 ·refine kRs 24 [Tm 4 (bv (decide (v > o1_v)))] (rp 4 (.b false) []) (.r 4 b2_1 .n) ?_
  refine kRt ?_
  have h_ := some_inj h
  subst h_
  exact kFr
def bd68 : Code := (Try.f68.body).getD .skip
def slices_IndexFunc_int_int.O : Nat → Nat := fun t => bif ([4, 5] : List Nat).any (Nat.beq t) then 1 else 0
def slices_IndexFunc_int_int.lp3 (fu : Nat) (l3_0 : List Int) (l3_1 : Int) (l3_3 : Int) (l3_4 : Int) : Nat → Int → Option (Unit ⊕ Int)
  | 0, _ => none
  | n_ + 1, l3_2 =>
  br (decide (l3_2 < l3_1))
   (ix l3_0 l3_2 fun x7_1 =>
   bd (shard_May_1_1 x7_1 l3_3 l3_4) fun r7_4 =>
   br r7_4
    (some (.inr l3_2))
    (slices_IndexFunc_int_int.lp3 fu l3_0 l3_1 l3_3 l3_4 n_ (w64 (l3_2 + 1))))
   (some (.inl ()))
def slices_IndexFunc_int_int.lp3_post (l3_0 : List Int) (l3_1 : Int) (l3_3 : Int) (l3_4 : Int) (r_ : (Unit ⊕ Int)) : Wy → St → Prop := fun e τ => match r_ with
  | .inl _ => e = .exit 0 ∧ τ = ofL [Ob 1000 [iv l3_3], Ob 1001 [iv l3_4]]
  | .inr y0 => e = .ret ∧ τ = ofL [Tm 4 (iv y0), Ob 1000 [iv l3_3], Ob 1001 [iv l3_4]]
theorem slices_IndexFunc_int_int.lp3_ok (fu : Nat) (l3_0 : List Int) (l3_1 : Int) (l3_3 : Int) (l3_4 : Int) : ∀ (n_ : Nat) (l3_2 : Int) (r_ : (Unit ⊕ Int)), slices_IndexFunc_int_int.lp3 fu l3_0 l3_1 l3_3 l3_4 n_ l3_2 = some r_ → WK Try.prog slices_IndexFunc_int_int.O (Ck Try.prog) (cB (cR (cL (cR bd68)))) [] (ofL [Tm 0 (sS 1 e_i64 l3_0), Tm 1 (.fn (.func 44) [] [.ptr 1000 0, .ptr 1001 0]), Tm 7 (iv l3_1), Tm 8 (iv l3_2), Ob 1000 [iv l3_3], Ob 1001 [iv l3_4]]) (slices_IndexFunc_int_int.lp3_post l3_0 l3_1 l3_3 l3_4 r_) := by
 intro n_
 induction n_ with
 | zero => intro l3_2 r_ h; exact no_none h
 | succ n_ ih =>
  intro l3_2 r_ h
  refine kLp ?_
  refine kRs 63 [Tm 9 (bv (decide (l3_2 < l3_1)))] [] .n ?_
  refine kSq ?_
  rcases br_inv h with ⟨b5_0, h⟩ | ⟨b5_0, h⟩
  ·refine kCt b5_0 ?_
   refine kSk ?_
   refine kCd (cR (cR (cB (cB (cR (cL (cR bd68))))))) [.lp (cB (cR (cL (cR bd68))))] ?_
   refine kSq ?_
   refine kBk 1 ?_
   refine kRs 126 [Tm 5 (iv l3_2)] [] .n ?_
   obtain ⟨x7_1, a7_2, e7_3, h⟩ := ix_inv h
   obtain ⟨r7_4, h7_5, h⟩ := bd_inv h
   refine kRs 127 [Tm 16 (bv r7_4)] [.c (e_i64 x7_1), .a ⟨bv r7_4, [[iv l3_3], [iv l3_4]]⟩] (.c (c_ix (e := e_i64) a7_2 e7_3) (.c (c_el (e := e_i64) e7_3) (.c (Asks.of (C := Meets Try.prog) (shard_May_1_1.meets x7_1 l3_3 l3_4 _ h7_5)) .n))) ?_
   rcases br_inv h with ⟨b8_0, h⟩ | ⟨b8_0, h⟩
   ·refine kCt b8_0 ?_
    refine kRs 192 [Tm 4 (iv l3_2)] [] .n ?_
    cases some_inj h
    refine kWo ?_
    refine kRt ?_
    exact kOut
   ·refine kCe b8_0 ?_
    refine kSk ?_
    refine kCd (cR (cR (cR (cB (cB (cR (cL (cR bd68)))))))) [.lp (cB (cR (cL (cR bd68))))] ?_
    refine kRc 220 [Tm 8 (iv (w64 (l3_2 + 1)))] [] .n (cB (cR (cL (cR bd68)))) [] ?_
    exact kWk (ih (w64 (l3_2 + 1)) _ h)
  ·refine kCe b5_0 ?_
   cases some_inj h
   refine kWo ?_
   refine kXt 0 ?_
   exact kOut
def slices_IndexFunc_int_int (fu : Nat) (s : List Int) (o0_v : Int) (o1_v : Int) : Option Int :=
 bd (slices_IndexFunc_int_int.lp3 fu s (s.length : Int) o0_v o1_v fu 0) fun o_ => (match o_ with
 | .inl _ =>
  some (-1)
 | .inr y11_0 =>
  some y11_0)
theorem slices_IndexFunc_int_int.meets (fu : Nat) (s : List Int) (o0_v : Int) (o1_v : Int) (z0 : Int) (h : slices_IndexFunc_int_int fu s o0_v o1_v = some z0) : Meets Try.prog ⟨68, [sS 1 e_i64 s, .fn (.func 44) [] [.ptr 1000 0, .ptr 1001 0]], [[iv o0_v], [iv o1_v]]⟩ ⟨iv z0, [[iv o0_v], [iv o1_v]]⟩ := by
 refine kMt hmix slices_IndexFunc_int_int.O Try.f68 bd68 15 ?_
 unfold slices_IndexFunc_int_int at h
 refine kRs 15 [] [] .n ?_
 refine kSq ?_
 refine kRs 15 [Tm 7 (iv (s.length : Int)), Tm 8 (iv 0)] [.s (.t 7) [iv (s.length : Int)]] (.c (c_len (e := e_i64) (l := s)) .n) ?_
 refine kBk 0 ?_
 obtain ⟨o11, ho11, h⟩ := bd_inv h
 refine kUs (slices_IndexFunc_int_int.lp3_ok fu s (s.length : Int) o0_v o1_v _ 0 _ ho11) ?_
 intro e_ τ_ hp_
 rcases o11 with o11 | o11
 ·obtain ⟨⟩ := o11
  obtain ⟨rfl, rfl⟩ := hp_
  refine kCd (cR (cR bd68)) [] ?_
  refine kRs 3 [Tm 4 (iv (-1))] [] .n ?_
  refine kRt ?_
  have h_ := some_inj h
  subst h_
  exact kFr
 ·obtain ⟨y11_0, rfl⟩ : ∃ y, y = o11 := ⟨_, rfl⟩
  obtain ⟨rfl, rfl⟩ := hp_
  have h_ := some_inj h
  subst h_
  exact kFr
def bd49 : Code := (Try.f49.body).getD .skip
def slices_ContainsFunc_int_int.O : Nat → Nat := fun t => bif ([4] : List Nat).any (Nat.beq t) then 1 else 0
def slices_ContainsFunc_int_int (fu : Nat) (s : List Int) (o0_v : Int) (o1_v : Int) : Option Bool :=
 bd (slices_IndexFunc_int_int fu s o0_v o1_v) fun r2_1 =>
 some (decide (r2_1 ≥ 0))
theorem slices_ContainsFunc_int_int.meets (fu : Nat) (s : List Int) (o0_v : Int) (o1_v : Int) (z0 : Bool) (h : slices_ContainsFunc_int_int fu s o0_v o1_v = some z0) : Meets Try.prog ⟨49, [sS 1 e_i64 s, .fn (.func 44) [] [.ptr 1000 0, .ptr 1001 0]], [[iv o0_v], [iv o1_v]]⟩ ⟨bv z0, [[iv o0_v], [iv o1_v]]⟩ := by
 refine kMt hmix slices_ContainsFunc_int_int.O Try.f49 bd49 15 ?_
 unfold slices_ContainsFunc_int_int at h
 refine kRs 15 [] [] .n ?_
 obtain ⟨r2_1, h2_2, h⟩ := bd_inv h
 refine kRs 12 [Tm 4 (bv (decide (r2_1 ≥ 0)))] [.a ⟨iv r2_1, [[iv o0_v], [iv o1_v]]⟩] (.c (Asks.of (C := Meets Try.prog) (slices_IndexFunc_int_int.meets fu s o0_v o1_v _ h2_2)) .n) ?_
 refine kRt ?_
 have h_ := some_inj h
 subst h_
 exact kFr
def bd69 : Code := (Try.f69.body).getD .skip
def chain_May.O : Nat → Nat := fun t => bif ([2, 3, 5] : List Nat).any (Nat.beq t) then 1 else 0
def chain_May.lp4 (fu : Nat) (l4_1 : List TVersion) (l4_2 : Int) : Nat → Int → Int → Option (Unit ⊕ Unit)
  | 0, _, _ => none
  | n_ + 1, l4_0, l4_3 =>
  br (decide (l4_3 < l4_2))
   (ix l4_1 l4_3 fun x7_1 =>
   br (decide (x7_1.Pos ≤ l4_0))
    (some (.inr ()))
    (br (decide ((x7_1.Val.size : Int) > 16))
     (some (.inr ()))
     (br x7_1.Gone
      (br (!(x7_1.Val.toList == ByteArray.empty.toList))
       (some (.inr ()))
       (chain_May.lp4 fu l4_1 l4_2 n_ x7_1.Pos (w64 (l4_3 + 1))))
      (chain_May.lp4 fu l4_1 l4_2 n_ x7_1.Pos (w64 (l4_3 + 1))))))
   (some (.inl ()))
def chain_May.lp4_post (l4_1 : List TVersion) (l4_2 : Int) (r_ : (Unit ⊕ Unit)) : Wy → St → Prop := fun e τ => match r_ with
  | .inl _ => e = .exit 0 ∧ τ = ofL []
  | .inr _ => e = .ret ∧ τ = ofL [Tm 2 (bv false)]
theorem chain_May.lp4_ok (fu : Nat) (l4_1 : List TVersion) (l4_2 : Int) : ∀ (n_ : Nat) (l4_0 : Int) (l4_3 : Int) (r_ : (Unit ⊕ Unit)), chain_May.lp4 fu l4_1 l4_2 n_ l4_0 l4_3 = some r_ → WK Try.prog chain_May.O (Ck Try.prog) (cB (cR (cL (cR (cR bd69))))) [] (ofL [Tm 3 (iv l4_0), Tm 6 (sS 3 TVersion.en l4_1), Tm 7 (iv l4_2), Tm 8 (iv l4_3)]) (chain_May.lp4_post l4_1 l4_2 r_) := by
 intro n_
 induction n_ with
 | zero => intro l4_0 l4_3 r_ h; exact no_none h
 | succ n_ ih =>
  intro l4_0 l4_3 r_ h
  refine kLp ?_
  refine kRs 15 [Tm 9 (bv (decide (l4_3 < l4_2)))] [] .n ?_
  refine kSq ?_
  rcases br_inv h with ⟨b6_0, h⟩ | ⟨b6_0, h⟩
  ·refine kCt b6_0 ?_
   refine kSk ?_
   refine kCd (cR (cR (cB (cB (cR (cL (cR (cR bd69)))))))) [.lp (cB (cR (cL (cR (cR bd69)))))] ?_
   refine kSq ?_
   refine kBk 1 ?_
   obtain ⟨x7_1, a7_2, e7_3, h⟩ := ix_inv h
   refine kRs 30 [Tm 5 (.ptr 5 0), Ob 5 (TVersion.ob x7_1)] [.c (TVersion.en x7_1)] (.c (c_ix (e := TVersion.en) a7_2 e7_3) (.c (c_el (e := TVersion.en) e7_3) .n)) ?_
   refine kSq ?_
   rcases br_inv h with ⟨b8_1, h⟩ | ⟨b8_1, h⟩
   ·refine kRs 59 [Tm 30 (bv true)] (rp 10 (.b true) []) (.r 5 b8_1 (.r 5 rT .n)) ?_
    refine kCt rT ?_
    refine kRs 0 [Tm 2 (bv false)] [] .n ?_
    cases some_inj h
    refine kWo ?_
    refine kRt ?_
    exact kOut
   ·rcases br_inv h with ⟨b8_2, h⟩ | ⟨b8_2, h⟩
    ·refine kRs 59 [Tm 30 (bv true)] (rp 5 (.b false) (rp 5 (.b true) [])) (.r 5 b8_1 (.r 5 b8_2 .n)) ?_
     refine kCt rT ?_
     refine kRs 0 [Tm 2 (bv false)] [] .n ?_
     cases some_inj h
     refine kWo ?_
     refine kRt ?_
     exact kOut
    ·rcases br_inv h with ⟨b8_3, h⟩ | ⟨b8_3, h⟩
     ·refine kRs 59 [Tm 30 (bv (!(x7_1.Val.toList == ByteArray.empty.toList)))] (rp 8 (.b false) [.b true, .b true, .b true, .b false, .b true, .b false]) (.r 5 b8_1 (.r 3 b8_2 (.r 3 b8_3 (.c b8_2 (.c b8_3 (.c b8_2 .n)))))) ?_
      rcases br_inv h with ⟨b11_0, h⟩ | ⟨b11_0, h⟩
      ·refine kCt b11_0 ?_
       refine kRs 0 [Tm 2 (bv false)] [] .n ?_
       cases some_inj h
       refine kWo ?_
       refine kRt ?_
       exact kOut
      ·refine kCe b11_0 ?_
       refine kSk ?_
       refine kCd (cR (cR (cB (cL (cR (cR (cB (cB (cR (cL (cR (cR bd69)))))))))))) [.blk 1, .seq (cR (cR (cR (cB (cB (cR (cL (cR (cR bd69))))))))), .lp (cB (cR (cL (cR (cR bd69)))))] ?_
       refine kRc 56 [Tm 3 (iv x7_1.Pos)] [] .n (cR (cR (cR (cB (cB (cR (cL (cR (cR bd69))))))))) [.lp (cB (cR (cL (cR (cR bd69)))))] ?_
       refine kRc 7 [Tm 8 (iv (w64 (l4_3 + 1)))] [] .n (cB (cR (cL (cR (cR bd69))))) [] ?_
       exact kWk (ih x7_1.Pos (w64 (l4_3 + 1)) _ h)
     ·refine kRs 59 [Tm 30 (bv false)] (rp 14 (.b false) []) (.r 5 b8_1 (.r 3 b8_2 (.r 3 b8_3 (.c b8_2 (.c b8_3 (.c b8_2 .n)))))) ?_
      refine kCe rF ?_
      refine kSk ?_
      refine kCd (cR (cR (cB (cL (cR (cR (cB (cB (cR (cL (cR (cR bd69)))))))))))) [.blk 1, .seq (cR (cR (cR (cB (cB (cR (cL (cR (cR bd69))))))))), .lp (cB (cR (cL (cR (cR bd69)))))] ?_
      refine kRc 56 [Tm 3 (iv x7_1.Pos)] [] .n (cR (cR (cR (cB (cB (cR (cL (cR (cR bd69))))))))) [.lp (cB (cR (cL (cR (cR bd69)))))] ?_
      refine kRc 7 [Tm 8 (iv (w64 (l4_3 + 1)))] [] .n (cB (cR (cL (cR (cR bd69))))) [] ?_
      exact kWk (ih x7_1.Pos (w64 (l4_3 + 1)) _ h)
  ·refine kCe b6_0 ?_
   cases some_inj h
   refine kWo ?_
   refine kXt 0 ?_
   exact kOut
def chain_May (fu : Nat) (l : List TVersion) : Option Bool :=
 bd (chain_May.lp4 fu l (l.length : Int) fu 0 0) fun o_ => (match o_ with
 | .inl _ =>
  some true
 | .inr _ =>
  some false)
theorem chain_May.meets (fu : Nat) (l : List TVersion) (z0 : Bool) (h : chain_May fu l = some z0) : Meets Try.prog ⟨69, [sS 3 TVersion.en l], []⟩ ⟨bv z0, []⟩ := by
 refine kMt hmix chain_May.O Try.f69 bd69 1 ?_
 unfold chain_May at h
 refine kRs 1 [] [] .n ?_
 refine kRs 1 [Tm 3 (iv 0)] [] .n ?_
 refine kSq ?_
 refine kRs 1 [Tm 6 (sS 3 TVersion.en l), Tm 7 (iv (l.length : Int)), Tm 8 (iv 0)] [.s (.t 7) [iv (l.length : Int)]] (.c (c_len (e := TVersion.en) (l := l)) .n) ?_
 refine kBk 0 ?_
 obtain ⟨o17, ho17, h⟩ := bd_inv h
 refine kUs (chain_May.lp4_ok fu l (l.length : Int) _ 0 0 _ ho17) ?_
 intro e_ τ_ hp_
 rcases o17 with o17 | o17
 ·obtain ⟨⟩ := o17
  obtain ⟨rfl, rfl⟩ := hp_
  refine kCd (cR (cR (cR bd69))) [] ?_
  refine kRs 0 [Tm 2 (bv true)] [] .n ?_
  refine kRt ?_
  have h_ := some_inj h
  subst h_
  exact kFr
 ·obtain ⟨⟩ := o17
  obtain ⟨rfl, rfl⟩ := hp_
  have h_ := some_inj h
  subst h_
  exact kFr
def bd80 : Code := (Try.f80.body).getD .skip
def key_sign.O : Nat → Nat := fun t => bif ([2] : List Nat).any (Nat.beq t) then 1 else 0
def key_sign (c : Int) : Option Bool :=
 br (decide (c ≥ 33))
  (some (decide (c ≤ 126)))
  (some false)
theorem key_sign.meets (c : Int) (z0 : Bool) (h : key_sign c = some z0) : Meets Try.prog ⟨80, [.data (.val (.int .u8 c))], []⟩ ⟨bv z0, []⟩ := by
 refine kMt hmix key_sign.O Try.f80 bd80 1 ?_
 unfold key_sign at h
 refine kRs 1 [] [] .n ?_
 rcases br_inv h with ⟨b2_1, h⟩ | ⟨b2_1, h⟩
 ·refine kRs 0 [Tm 2 (bv (decide (c ≤ 126)))] [.b true, .b true, .b true] (.r 3 b2_1 .n) ?_
  refine kRt ?_
  have h_ := some_inj h
  subst h_
  exact kFr
 ·refine kRs 0 [Tm 2 (bv false)] [.b false, .b false, .b false] (.r 3 b2_1 .n) ?_
  refine kRt ?_
  have h_ := some_inj h
  subst h_
  exact kFr
def bd77 : Code := (Try.f77.body).getD .skip
def key_name_may.O : Nat → Nat := fun t => bif ([2, 3] : List Nat).any (Nat.beq t) then 1 else 0
def key_name_may.lp3 (fu : Nat) (l3_0 : ByteArray) (l3_1 : Int) : Nat → Int → Option (Unit ⊕ Unit)
  | 0, _ => none
  | n_ + 1, l3_2 =>
  br (decide (l3_2 < l3_1))
   (gd (decide ((0 : Int) ≤ l3_2 ∧ l3_2 < (l3_0.size : Int))) <|
   bd (key_sign (byteAt l3_0 l3_2)) fun r7_2 =>
   br (!r7_2)
    (some (.inr ()))
    (key_name_may.lp3 fu l3_0 l3_1 n_ (w64 (l3_2 + 1))))
   (some (.inl ()))
def key_name_may.lp3_post (l3_0 : ByteArray) (l3_1 : Int) (r_ : (Unit ⊕ Unit)) : Wy → St → Prop := fun e τ => match r_ with
  | .inl _ => e = .exit 0 ∧ τ = ofL [Tm 0 (sv l3_0)]
  | .inr _ => e = .ret ∧ τ = ofL [Tm 2 (bv false)]
theorem key_name_may.lp3_ok (fu : Nat) (l3_0 : ByteArray) (l3_1 : Int) : ∀ (n_ : Nat) (l3_2 : Int) (r_ : (Unit ⊕ Unit)), key_name_may.lp3 fu l3_0 l3_1 n_ l3_2 = some r_ → WK Try.prog key_name_may.O (Ck Try.prog) (cB (cR (cL (cR bd77)))) [] (ofL [Tm 0 (sv l3_0), Tm 5 (iv l3_1), Tm 6 (iv l3_2)]) (key_name_may.lp3_post l3_0 l3_1 r_) := by
 intro n_
 induction n_ with
 | zero => intro l3_2 r_ h; exact no_none h
 | succ n_ ih =>
  intro l3_2 r_ h
  refine kLp ?_
  refine kRs 7 [Tm 7 (bv (decide (l3_2 < l3_1)))] [] .n ?_
  refine kSq ?_
  rcases br_inv h with ⟨b5_0, h⟩ | ⟨b5_0, h⟩
  ·refine kCt b5_0 ?_
   refine kSk ?_
   refine kCd (cR (cR (cB (cB (cR (cL (cR bd77))))))) [.lp (cB (cR (cL (cR bd77))))] ?_
   refine kSq ?_
   refine kBk 1 ?_
   refine kRs 14 [Tm 3 (iv l3_2)] [] .n ?_
   obtain ⟨c7_1, h⟩ := gd_inv h
   obtain ⟨r7_2, h7_3, h⟩ := bd_inv h
   refine kRs 14 [Tm 13 (bv (!r7_2))] [.a ⟨bv r7_2, []⟩] (.c c7_1 (.c (Asks.of (C := Meets Try.prog) (key_sign.meets (byteAt l3_0 l3_2) _ h7_3)) .n)) ?_
   rcases br_inv h with ⟨b8_0, h⟩ | ⟨b8_0, h⟩
   ·refine kCt b8_0 ?_
    refine kRs 0 [Tm 2 (bv false)] [] .n ?_
    cases some_inj h
    refine kWo ?_
    refine kRt ?_
    exact kOut
   ·refine kCe b8_0 ?_
    refine kSk ?_
    refine kCd (cR (cR (cR (cB (cB (cR (cL (cR bd77)))))))) [.lp (cB (cR (cL (cR bd77))))] ?_
    refine kRc 6 [Tm 6 (iv (w64 (l3_2 + 1)))] [] .n (cB (cR (cL (cR bd77)))) [] ?_
    exact kWk (ih (w64 (l3_2 + 1)) _ h)
  ·refine kCe b5_0 ?_
   cases some_inj h
   refine kWo ?_
   refine kXt 0 ?_
   exact kOut
def key_name_may (fu : Nat) (k_v : ByteArray) : Option Bool :=
 bd (key_name_may.lp3 fu k_v (k_v.size : Int) fu 0) fun o_ => (match o_ with
 | .inl _ =>
  br (decide ((k_v.size : Int) ≥ 1))
   (some (decide ((k_v.size : Int) ≤ 8)))
   (some false)
 | .inr _ =>
  some false)
theorem key_name_may.meets (fu : Nat) (k_v : ByteArray) (z0 : Bool) (h : key_name_may fu k_v = some z0) : Meets Try.prog ⟨77, [sv k_v], []⟩ ⟨bv z0, []⟩ := by
 refine kMt hmix key_name_may.O Try.f77 bd77 1 ?_
 unfold key_name_may at h
 refine kRs 1 [] [] .n ?_
 refine kSq ?_
 refine kRs 1 [Tm 5 (iv (k_v.size : Int)), Tm 6 (iv 0)] [] .n ?_
 refine kBk 0 ?_
 obtain ⟨o11, ho11, h⟩ := bd_inv h
 refine kUs (key_name_may.lp3_ok fu k_v (k_v.size : Int) _ 0 _ ho11) ?_
 intro e_ τ_ hp_
 rcases o11 with o11 | o11
 ·obtain ⟨⟩ := o11
  obtain ⟨rfl, rfl⟩ := hp_
  refine kCd (cR (cR bd77)) [] ?_
  rcases br_inv h with ⟨b12_1, h⟩ | ⟨b12_1, h⟩
  ·refine kRs 0 [Tm 2 (bv (decide ((k_v.size : Int) ≤ 8)))] (rp 4 (.b true) []) (.r 4 b12_1 .n) ?_
   refine kRt ?_
   have h_ := some_inj h
   subst h_
   exact kFr
  ·refine kRs 0 [Tm 2 (bv false)] (rp 4 (.b false) []) (.r 4 b12_1 .n) ?_
   refine kRt ?_
   have h_ := some_inj h
   subst h_
   exact kFr
 ·obtain ⟨⟩ := o11
  obtain ⟨rfl, rfl⟩ := hp_
  have h_ := some_inj h
  subst h_
  exact kFr
def bd70 : Code := (Try.f70.body).getD .skip
def key_Rising.O : Nat → Nat := fun t => bif ([2, 3, 4, 5] : List Nat).any (Nat.beq t) then 1 else 0
def key_Rising.lp4 (fu : Nat) (l4_0 : List ByteArray) (l4_1 : List ByteArray) (l4_2 : Int) : Nat → Int → Option (Unit ⊕ Unit)
  | 0, _ => none
  | n_ + 1, l4_3 =>
  br (decide (l4_3 < l4_2))
   (ix l4_1 l4_3 fun x7_1 =>
   bd (key_name_may fu x7_1) fun r8_1 =>
   br (!r8_1)
    (some (.inr ()))
    (br (decide (l4_3 > 0))
     (ix l4_0 (w64 (l4_3 - 1)) fun x8_5 =>
     br (!(Op.bytesLess x8_5.toList x7_1.toList))
      (some (.inr ()))
      (key_Rising.lp4 fu l4_0 l4_1 l4_2 n_ (w64 (l4_3 + 1))))
     (key_Rising.lp4 fu l4_0 l4_1 l4_2 n_ (w64 (l4_3 + 1)))))
   (some (.inl ()))
def key_Rising.lp4_post (l4_0 : List ByteArray) (l4_1 : List ByteArray) (l4_2 : Int) (r_ : (Unit ⊕ Unit)) : Wy → St → Prop := fun e τ => match r_ with
  | .inl _ => e = .exit 0 ∧ τ = ofL []
  | .inr _ => e = .ret ∧ τ = ofL [Tm 2 (bv false)]
theorem key_Rising.lp4_ok (fu : Nat) (l4_0 : List ByteArray) (l4_1 : List ByteArray) (l4_2 : Int) : ∀ (n_ : Nat) (l4_3 : Int) (r_ : (Unit ⊕ Unit)), key_Rising.lp4 fu l4_0 l4_1 l4_2 n_ l4_3 = some r_ → WK Try.prog key_Rising.O (Ck Try.prog) (cB (cR (cL (cR (cR bd70))))) [] (ofL [Tm 0 (sS 1 e_s l4_0), Tm 3 (.fn (.func 77) [] []), Tm 6 (sS 1 e_s l4_1), Tm 7 (iv l4_2), Tm 8 (iv l4_3)]) (key_Rising.lp4_post l4_0 l4_1 l4_2 r_) := by
 intro n_
 induction n_ with
 | zero => intro l4_3 r_ h; exact no_none h
 | succ n_ ih =>
  intro l4_3 r_ h
  refine kLp ?_
  refine kRs 31 [Tm 9 (bv (decide (l4_3 < l4_2)))] [] .n ?_
  refine kSq ?_
  rcases br_inv h with ⟨b6_0, h⟩ | ⟨b6_0, h⟩
  ·refine kCt b6_0 ?_
   refine kSk ?_
   refine kCd (cR (cR (cB (cB (cR (cL (cR (cR bd70)))))))) [.lp (cB (cR (cL (cR (cR bd70)))))] ?_
   refine kSq ?_
   refine kBk 1 ?_
   obtain ⟨x7_1, a7_2, e7_3, h⟩ := ix_inv h
   refine kRs 62 [Tm 4 (iv l4_3), Tm 5 (sv x7_1)] [.c (e_s x7_1)] (.c (c_ix (e := e_s) a7_2 e7_3) (.c (c_el (e := e_s) e7_3) .n)) ?_
   obtain ⟨r8_1, h8_2, h⟩ := bd_inv h
   rcases br_inv h with ⟨b8_3, h⟩ | ⟨b8_3, h⟩
   ·refine kRs 124 [Tm 29 (bv true)] (.a ⟨bv r8_1, []⟩ :: (rp 5 (.b true) [])) (.c (Asks.of (C := Meets Try.prog) (key_name_may.meets fu x7_1 _ h8_2)) (.r 5 b8_3 .n)) ?_
    refine kCt rT ?_
    refine kRs 0 [Tm 2 (bv false)] [] .n ?_
    cases some_inj h
    refine kWo ?_
    refine kRt ?_
    exact kOut
   ·rcases br_inv h with ⟨b8_4, h⟩ | ⟨b8_4, h⟩
    ·obtain ⟨x8_5, a8_6, e8_7, h⟩ := ix_inv h
     refine kRs 124 [Tm 29 (bv (!(Op.bytesLess x8_5.toList x7_1.toList)))] (.a ⟨bv r8_1, []⟩ :: (.b false :: (.b false :: (.b false :: (rp 4 (.b true) [.c (e_s x8_5), .b true, .b true, .b true, .b false, .b true, .b false]))))) (.c (Asks.of (C := Meets Try.prog) (key_name_may.meets fu x7_1 _ h8_2)) (.r 3 b8_3 (.r 4 b8_4 (.c (c_ix (e := e_s) a8_6 e8_7) (.c (c_el (e := e_s) e8_7) (.r 3 b8_4 (.c b8_3 (.c b8_4 (.c b8_3 .n))))))))) ?_
     rcases br_inv h with ⟨b10_0, h⟩ | ⟨b10_0, h⟩
     ·refine kCt b10_0 ?_
      refine kRs 0 [Tm 2 (bv false)] [] .n ?_
      cases some_inj h
      refine kWo ?_
      refine kRt ?_
      exact kOut
     ·refine kCe b10_0 ?_
      refine kSk ?_
      refine kCd (cR (cR (cR (cB (cB (cR (cL (cR (cR bd70))))))))) [.lp (cB (cR (cL (cR (cR bd70)))))] ?_
      refine kRc 30 [Tm 8 (iv (w64 (l4_3 + 1)))] [] .n (cB (cR (cL (cR (cR bd70))))) [] ?_
      exact kWk (ih (w64 (l4_3 + 1)) _ h)
    ·refine kRs 124 [Tm 29 (bv false)] (.a ⟨bv r8_1, []⟩ :: (rp 13 (.b false) [])) (.c (Asks.of (C := Meets Try.prog) (key_name_may.meets fu x7_1 _ h8_2)) (.r 3 b8_3 (.r 7 b8_4 (.c b8_3 (.c b8_4 (.c b8_3 .n)))))) ?_
     refine kCe rF ?_
     refine kSk ?_
     refine kCd (cR (cR (cR (cB (cB (cR (cL (cR (cR bd70))))))))) [.lp (cB (cR (cL (cR (cR bd70)))))] ?_
     refine kRc 30 [Tm 8 (iv (w64 (l4_3 + 1)))] [] .n (cB (cR (cL (cR (cR bd70))))) [] ?_
     exact kWk (ih (w64 (l4_3 + 1)) _ h)
  ·refine kCe b6_0 ?_
   cases some_inj h
   refine kWo ?_
   refine kXt 0 ?_
   exact kOut
def key_Rising (fu : Nat) (l : List ByteArray) : Option Bool :=
 bd (key_Rising.lp4 fu l l (l.length : Int) fu 0) fun o_ => (match o_ with
 | .inl _ =>
  some true
 | .inr _ =>
  some false)
theorem key_Rising.meets (fu : Nat) (l : List ByteArray) (z0 : Bool) (h : key_Rising fu l = some z0) : Meets Try.prog ⟨70, [sS 1 e_s l], []⟩ ⟨bv z0, []⟩ := by
 refine kMt hmix key_Rising.O Try.f70 bd70 1 ?_
 unfold key_Rising at h
 refine kRs 1 [] [] .n ?_
 refine kRs 1 [Tm 3 (.fn (.func 77) [] [])] [] .n ?_
 refine kSq ?_
 refine kRs 3 [Tm 6 (sS 1 e_s l), Tm 7 (iv (l.length : Int)), Tm 8 (iv 0)] [.s (.t 7) [iv (l.length : Int)]] (.c (c_len (e := e_s) (l := l)) .n) ?_
 refine kBk 0 ?_
 obtain ⟨o14, ho14, h⟩ := bd_inv h
 refine kUs (key_Rising.lp4_ok fu l l (l.length : Int) _ 0 _ ho14) ?_
 intro e_ τ_ hp_
 rcases o14 with o14 | o14
 ·obtain ⟨⟩ := o14
  obtain ⟨rfl, rfl⟩ := hp_
  refine kCd (cR (cR (cR bd70))) [] ?_
  refine kRs 0 [Tm 2 (bv true)] [] .n ?_
  refine kRt ?_
  have h_ := some_inj h
  subst h_
  exact kFr
 ·obtain ⟨⟩ := o14
  obtain ⟨rfl, rfl⟩ := hp_
  have h_ := some_inj h
  subst h_
  exact kFr
def bd50 : Code := (Try.f50.body).getD .skip
def store_May.O : Nat → Nat := fun t => bif ([1, 2, 3, 5, 6, 27] : List Nat).any (Nat.beq t) then 1 else 0
def store_May.lp4 (fu : Nat) (l4_1 : List TChain) (l4_2 : Int) (l4_4 : TStore) : Nat → (List ByteArray) → Int → Option ((List ByteArray) ⊕ Unit)
  | 0, _, _ => none
  | n_ + 1, l4_0, l4_3 =>
  br (decide (l4_3 < l4_2))
   (ix l4_1 l4_3 fun x7_1 =>
   br ((x7_1.L.length : Int) == 0)
    (some (.inr ()))
    (bd (chain_May fu x7_1.L) fun r8_2 =>
    br (!r8_2)
     (some (.inr ()))
     (gd (decide (l4_0.length + ([x7_1.Key] : List ByteArray).length ≤ 4294967296)) <|
     store_May.lp4 fu l4_1 l4_2 l4_4 n_ (l4_0 ++ ([x7_1.Key] : List ByteArray)) (w64 (l4_3 + 1)))))
   (some (.inl l4_0))
def store_May.lp4_post (l4_1 : List TChain) (l4_2 : Int) (l4_4 : TStore) (r_ : ((List ByteArray) ⊕ Unit)) : Wy → St → Prop := fun e τ => match r_ with
  | .inl y0 => e = .exit 0 ∧ τ = ofL [Tm 1 (.ptr 1 0), Tm 3 (sO 1 e_s y0), Ob 1 [sS 2 TChain.en l4_4.Chains, iv l4_4.Mark]]
  | .inr _ => e = .ret ∧ τ = ofL [Tm 2 (bv false)]
theorem store_May.lp4_ok (fu : Nat) (l4_1 : List TChain) (l4_2 : Int) (l4_4 : TStore) : ∀ (n_ : Nat) (l4_0 : List ByteArray) (l4_3 : Int) (r_ : ((List ByteArray) ⊕ Unit)), store_May.lp4 fu l4_1 l4_2 l4_4 n_ l4_0 l4_3 = some r_ → WK Try.prog store_May.O (Ck Try.prog) (cB (cR (cL (cR (cR bd50))))) [] (ofL [Tm 1 (.ptr 1 0), Tm 3 (sO 1 e_s l4_0), Tm 8 (sS 2 TChain.en l4_1), Tm 9 (iv l4_2), Tm 10 (iv l4_3), Ob 1 [sS 2 TChain.en l4_4.Chains, iv l4_4.Mark]]) (store_May.lp4_post l4_1 l4_2 l4_4 r_) := by
 intro n_
 induction n_ with
 | zero => intro l4_0 l4_3 r_ h; exact no_none h
 | succ n_ ih =>
  intro l4_0 l4_3 r_ h
  refine kLp ?_
  refine kRs 63 [Tm 11 (bv (decide (l4_3 < l4_2)))] [] .n ?_
  refine kSq ?_
  rcases br_inv h with ⟨b6_0, h⟩ | ⟨b6_0, h⟩
  ·refine kCt b6_0 ?_
   refine kSk ?_
   refine kCd (cR (cR (cB (cB (cR (cL (cR (cR bd50)))))))) [.lp (cB (cR (cL (cR (cR bd50)))))] ?_
   refine kSq ?_
   refine kBk 1 ?_
   obtain ⟨x7_1, a7_2, e7_3, h⟩ := ix_inv h
   refine kRs 126 [Tm 5 (.ptr 5 0), Ob 5 [sv x7_1.Key, sS 3 TVersion.en x7_1.L]] [.c (TChain.en x7_1)] (.c (c_ix (e := TChain.en) a7_2 e7_3) (.c (c_el (e := TChain.en) e7_3) .n)) ?_
   refine kSq ?_
   rcases br_inv h with ⟨b8_1, h⟩ | ⟨b8_1, h⟩
   ·refine kRs 255 [Tm 23 (bv true)] (.s (.t 16) [iv (x7_1.L.length : Int)] :: (rp 5 (.b true) [])) (.c (c_len (e := TVersion.en) (l := x7_1.L)) (.r 5 b8_1 .n)) ?_
    refine kCt rT ?_
    refine kRs 0 [Tm 2 (bv false)] [] .n ?_
    cases some_inj h
    refine kWo ?_
    refine kRt ?_
    exact kOut
   ·obtain ⟨r8_2, h8_3, h⟩ := bd_inv h
    refine kRs 255 [Tm 23 (bv (!r8_2))] [.s (.t 16) [iv (x7_1.L.length : Int)], .b false, .b false, .b false, .a ⟨bv r8_2, []⟩, .b false, .b false] (.c (c_len (e := TVersion.en) (l := x7_1.L)) (.r 3 b8_1 (.c (Asks.of (C := Meets Try.prog) (chain_May.meets fu x7_1.L _ h8_3)) (.r 2 b8_1 .n)))) ?_
    rcases br_inv h with ⟨b10_0, h⟩ | ⟨b10_0, h⟩
    ·refine kCt b10_0 ?_
     refine kRs 0 [Tm 2 (bv false)] [] .n ?_
     cases some_inj h
     refine kWo ?_
     refine kRt ?_
     exact kOut
    ·refine kCe b10_0 ?_
     refine kSk ?_
     refine kCd (cR (cR (cB (cL (cR (cR (cB (cB (cR (cL (cR (cR bd50)))))))))))) [.blk 1, .seq (cR (cR (cR (cB (cB (cR (cL (cR (cR bd50))))))))), .lp (cB (cR (cL (cR (cR bd50)))))] ?_
     obtain ⟨c12_1, h⟩ := gd_inv h
     refine kRc 488 [Tm 3 (sO 1 e_s (l4_0 ++ ([x7_1.Key] : List ByteArray)))] [.s (.t 28) [sO 1 e_s (l4_0 ++ ([x7_1.Key] : List ByteArray))]] (.c (c_al (e := e_s) (f := e_s) c12_1) (.c (congrArg (fun d : DV => [AV.data d]) (c_app (e := e_s) (s := 1) (l := l4_0) (m := ([x7_1.Key] : List ByteArray)))) .n)) (cR (cR (cR (cB (cB (cR (cL (cR (cR bd50))))))))) [.lp (cB (cR (cL (cR (cR bd50)))))] ?_
     refine kRc 47 [Tm 10 (iv (w64 (l4_3 + 1)))] [] .n (cB (cR (cL (cR (cR bd50))))) [] ?_
     exact kWk (ih (l4_0 ++ ([x7_1.Key] : List ByteArray)) (w64 (l4_3 + 1)) _ h)
  ·refine kCe b6_0 ?_
   cases some_inj h
   refine kWo ?_
   refine kXt 0 ?_
   exact kOut
def store_May (fu : Nat) (s : TStore) : Option Bool :=
 bd (store_May.lp4 fu s.Chains (s.Chains.length : Int) s fu [] 0) fun o_ => (match o_ with
 | .inl y14_0 =>
  bd (key_Rising fu y14_0) fun r15_1 =>
  br r15_1
   (some (decide (s.Mark ≥ 0)))
   (some false)
 | .inr _ =>
  some false)
theorem store_May.meets (fu : Nat) (s : TStore) (z0 : Bool) (h : store_May fu s = some z0) : Meets Try.prog ⟨50, [.data (.agg [.slc false none 2 (List.map TChain.en s.Chains), .val (.int .i64 s.Mark)])], []⟩ ⟨bv z0, []⟩ := by
 refine kMt hmix store_May.O Try.f50 bd50 1 ?_
 unfold store_May at h
 refine kRs 0 [Tm 1 (.ptr 1 0), Ob 1 [sS 2 TChain.en s.Chains, iv s.Mark]] [] .n ?_
 refine kRs 3 [Tm 3 (.data (.slc true (some false) 1 (List.map e_s [])))] [] .n ?_
 refine kSq ?_
 refine kRs 7 [Tm 8 (sS 2 TChain.en s.Chains), Tm 9 (iv (s.Chains.length : Int)), Tm 10 (iv 0)] [.s (.t 9) [iv (s.Chains.length : Int)]] (.c (c_len (e := TChain.en) (l := s.Chains)) .n) ?_
 refine kBk 0 ?_
 obtain ⟨o14, ho14, h⟩ := bd_inv h
 refine kUs (store_May.lp4_ok fu s.Chains (s.Chains.length : Int) s _ [] 0 _ ho14) ?_
 intro e_ τ_ hp_
 rcases o14 with o14 | o14
 ·obtain ⟨y14_0, rfl⟩ : ∃ y, y = o14 := ⟨_, rfl⟩
  obtain ⟨rfl, rfl⟩ := hp_
  refine kCd (cR (cR (cR bd50))) [] ?_
  obtain ⟨r15_1, h15_2, h⟩ := bd_inv h
  rcases br_inv h with ⟨b15_3, h⟩ | ⟨b15_3, h⟩
  ·refine kRs 0 [Tm 2 (bv (decide (s.Mark ≥ 0)))] (.a ⟨bv r15_1, []⟩ :: (rp 4 (.b true) [])) (.c (Asks.of (C := Meets Try.prog) (key_Rising.meets fu y14_0 _ h15_2)) (.r 4 b15_3 .n)) ?_
   refine kRt ?_
   have h_ := some_inj h
   subst h_
   exact kFr
  ·refine kRs 0 [Tm 2 (bv false)] (.a ⟨bv r15_1, []⟩ :: (rp 4 (.b false) [])) (.c (Asks.of (C := Meets Try.prog) (key_Rising.meets fu y14_0 _ h15_2)) (.r 4 b15_3 .n)) ?_
   refine kRt ?_
   have h_ := some_inj h
   subst h_
   exact kFr
 ·obtain ⟨⟩ := o14
  obtain ⟨rfl, rfl⟩ := hp_
  have h_ := some_inj h
  subst h_
  exact kFr
def bd66 : Code := (Try.f66.body).getD .skip
def key_Shard.O : Nat → Nat := fun t => bif ([4, 5, 6] : List Nat).any (Nat.beq t) then 1 else 0
def key_Shard.lp7 (fu : Nat) (l7_0 : ByteArray) (l7_1 : Int) (l7_3 : Int) : Nat → Int → Int → Option Int
  | 0, _, _ => none
  | n_ + 1, l7_2, l7_4 =>
  br (decide (l7_4 < l7_3))
   (gd (decide ((0 : Int) ≤ l7_4 ∧ l7_4 < (l7_0.size : Int))) <|
   gd (!decide (l7_1 = 0)) <|
   gd (!decide (l7_1 = 0)) <|
   key_Shard.lp7 fu l7_0 l7_1 l7_3 n_ (Int.tmod (w64 (l7_2 + (Int.tmod (w64 (byteAt l7_0 l7_4)) l7_1))) l7_1) (w64 (l7_4 + 1)))
   (some l7_2)
def key_Shard.lp7_post (l7_0 : ByteArray) (l7_1 : Int) (l7_3 : Int) (r_ : Int) : Wy → St → Prop := fun e τ => match r_ with
  | y0 => e = .exit 0 ∧ τ = ofL [Tm 5 (iv y0)]
theorem key_Shard.lp7_ok (fu : Nat) (l7_0 : ByteArray) (l7_1 : Int) (l7_3 : Int) : ∀ (n_ : Nat) (l7_2 : Int) (l7_4 : Int) (r_ : Int), key_Shard.lp7 fu l7_0 l7_1 l7_3 n_ l7_2 l7_4 = some r_ → WK Try.prog key_Shard.O (Ck Try.prog) (cB (cR (cL (cR (cR (cR bd66)))))) [] (ofL [Tm 0 (sv l7_0), Tm 1 (iv l7_1), Tm 5 (iv l7_2), Tm 10 (iv l7_3), Tm 11 (iv l7_4)]) (key_Shard.lp7_post l7_0 l7_1 l7_3 r_) := by
 intro n_
 induction n_ with
 | zero => intro l7_2 l7_4 r_ h; exact no_none h
 | succ n_ ih =>
  intro l7_2 l7_4 r_ h
  refine kLp ?_
  refine kRs 31 [Tm 12 (bv (decide (l7_4 < l7_3)))] [] .n ?_
  refine kSq ?_
  rcases br_inv h with ⟨b9_0, h⟩ | ⟨b9_0, h⟩
  ·refine kCt b9_0 ?_
   refine kSk ?_
   refine kCd (cR (cR (cB (cB (cR (cL (cR (cR (cR bd66))))))))) [.lp (cB (cR (cL (cR (cR (cR bd66))))))] ?_
   refine kSq ?_
   refine kBk 1 ?_
   refine kRs 62 [Tm 6 (iv l7_4)] [] .n ?_
   obtain ⟨c11_1, h⟩ := gd_inv h
   obtain ⟨c11_2, h⟩ := gd_inv h
   obtain ⟨c11_3, h⟩ := gd_inv h
   refine kRc 54 [Tm 5 (iv (Int.tmod (w64 (l7_2 + (Int.tmod (w64 (byteAt l7_0 l7_4)) l7_1))) l7_1))] [] (.c c11_1 (.c c11_2 (.c c11_3 .n))) (cR (cR (cR (cB (cB (cR (cL (cR (cR (cR bd66)))))))))) [.lp (cB (cR (cL (cR (cR (cR bd66))))))] ?_
   refine kRc 15 [Tm 11 (iv (w64 (l7_4 + 1)))] [] .n (cB (cR (cL (cR (cR (cR bd66)))))) [] ?_
   exact kWk (ih (Int.tmod (w64 (l7_2 + (Int.tmod (w64 (byteAt l7_0 l7_4)) l7_1))) l7_1) (w64 (l7_4 + 1)) _ h)
  ·refine kCe b9_0 ?_
   cases some_inj h
   refine kWo ?_
   refine kXt 0 ?_
   exact kOut
def key_Shard (fu : Nat) (k_v : ByteArray) (n_v : Int) : Option Int :=
 br (decide (n_v < 1))
  (some 0)
  (bd (key_Shard.lp7 fu k_v n_v (k_v.size : Int) fu 0 0) fun y13_0 =>
  some y13_0)
theorem key_Shard.meets (fu : Nat) (k_v : ByteArray) (n_v : Int) (z0 : Int) (h : key_Shard fu k_v n_v = some z0) : Meets Try.prog ⟨66, [sv k_v, iv n_v], []⟩ ⟨iv z0, []⟩ := by
 refine kMt hmix key_Shard.O Try.f66 bd66 3 ?_
 unfold key_Shard at h
 refine kRs 3 [] [] .n ?_
 refine kSq ?_
 refine kRs 3 [Tm 8 (bv (decide (n_v < 1)))] [] .n ?_
 rcases br_inv h with ⟨b3_0, h⟩ | ⟨b3_0, h⟩
 ·refine kCt b3_0 ?_
  refine kRs 0 [Tm 4 (iv 0)] [] .n ?_
  refine kRt ?_
  have h_ := some_inj h
  subst h_
  exact kFr
 ·refine kCe b3_0 ?_
  refine kSk ?_
  refine kCd (cR (cR bd66)) [] ?_
  refine kRs 6 [Tm 5 (iv 0)] [] .n ?_
  refine kSq ?_
  refine kRs 7 [Tm 10 (iv (k_v.size : Int)), Tm 11 (iv 0)] [] .n ?_
  refine kBk 0 ?_
  obtain ⟨o13, ho13, h⟩ := bd_inv h
  refine kUs (key_Shard.lp7_ok fu k_v n_v (k_v.size : Int) _ 0 0 _ ho13) ?_
  intro e_ τ_ hp_
  obtain ⟨y13_0, rfl⟩ : ∃ y, y = o13 := ⟨_, rfl⟩
  obtain ⟨rfl, rfl⟩ := hp_
  refine kCd (cR (cR (cR (cR bd66)))) [] ?_
  refine kRs 0 [Tm 4 (iv y13_0)] [] .n ?_
  refine kRt ?_
  have h_ := some_inj h
  subst h_
  exact kFr
def bd46 : Code := (Try.f46.body).getD .skip
def shard_part_own.O : Nat → Nat := fun t => bif ([2, 4] : List Nat).any (Nat.beq t) then 1 else 0
def shard_part_own (fu : Nat) (s : TShard) (k_v : ByteArray) : Option Bool :=
 bd (key_Shard fu k_v s.Shards) fun r2_1 =>
 some (r2_1 == s.ID)
theorem shard_part_own.meets (fu : Nat) (s : TShard) (k_v : ByteArray) (z0 : Bool) (h : shard_part_own fu s k_v = some z0) : Meets Try.prog ⟨46, [.data (TShard.ag s), sv k_v], []⟩ ⟨bv z0, []⟩ := by
 refine kMt hmix shard_part_own.O Try.f46 bd46 3 ?_
 unfold shard_part_own at h
 refine kRs 2 [Tm 2 (.ptr 2 0), Ob 2 (TShard.ob s)] [] .n ?_
 obtain ⟨r2_1, h2_2, h⟩ := bd_inv h
 refine kRs 0 [Tm 4 (bv (r2_1 == s.ID))] [.a ⟨iv r2_1, []⟩] (.c (Asks.of (C := Meets Try.prog) (key_Shard.meets fu k_v s.Shards _ h2_2)) (.c rT .n)) ?_
 refine kRt ?_
 have h_ := some_inj h
 subst h_
 exact kFr
def bd48 : Code := (Try.f48.body).getD .skip
def shard_May_2_1.O : Nat → Nat := fun t => bif ([2, 3] : List Nat).any (Nat.beq t) then 1 else 0
def shard_May_2_1 (v : TVersion) (o0_v : TShard) : Option Bool :=
 some (decide (v.Pos > o0_v.Done))
theorem shard_May_2_1.meets (v : TVersion) (o0_v : TShard) (z0 : Bool) (h : shard_May_2_1 v o0_v = some z0) : Meets Try.prog ⟨48, [.data (TVersion.ag v), .ptr 1000 0], [(TShard.ob o0_v)]⟩ ⟨bv z0, [(TShard.ob o0_v)]⟩ := by
 refine kMt hmix shard_May_2_1.O Try.f48 bd48 7 ?_
 unfold shard_May_2_1 at h
 refine kRs 6 [Tm 2 (.ptr 2 0), Ob 2 (TVersion.ob v)] [] .n ?_
 refine kRs 8 [Tm 3 (bv (decide (v.Pos > o0_v.Done)))] [] .n ?_
 refine kRt ?_
 have h_ := some_inj h
 subst h_
 exact kFr
def bd67 : Code := (Try.f67.body).getD .skip
def slices_IndexFunc_api_Version.O : Nat → Nat := fun t => bif ([4, 5] : List Nat).any (Nat.beq t) then 1 else 0
def slices_IndexFunc_api_Version.lp3 (fu : Nat) (l3_0 : List TVersion) (l3_1 : Int) (l3_3 : TShard) : Nat → Int → Option (Unit ⊕ Int)
  | 0, _ => none
  | n_ + 1, l3_2 =>
  br (decide (l3_2 < l3_1))
   (ix l3_0 l3_2 fun x7_1 =>
   bd (shard_May_2_1 x7_1 l3_3) fun r7_4 =>
   br r7_4
    (some (.inr l3_2))
    (slices_IndexFunc_api_Version.lp3 fu l3_0 l3_1 l3_3 n_ (w64 (l3_2 + 1))))
   (some (.inl ()))
def slices_IndexFunc_api_Version.lp3_post (l3_0 : List TVersion) (l3_1 : Int) (l3_3 : TShard) (r_ : (Unit ⊕ Int)) : Wy → St → Prop := fun e τ => match r_ with
  | .inl _ => e = .exit 0 ∧ τ = ofL [Ob 1000 (TShard.ob l3_3)]
  | .inr y0 => e = .ret ∧ τ = ofL [Tm 4 (iv y0), Ob 1000 (TShard.ob l3_3)]
theorem slices_IndexFunc_api_Version.lp3_ok (fu : Nat) (l3_0 : List TVersion) (l3_1 : Int) (l3_3 : TShard) : ∀ (n_ : Nat) (l3_2 : Int) (r_ : (Unit ⊕ Int)), slices_IndexFunc_api_Version.lp3 fu l3_0 l3_1 l3_3 n_ l3_2 = some r_ → WK Try.prog slices_IndexFunc_api_Version.O (Ck Try.prog) (cB (cR (cL (cR bd67)))) [] (ofL [Tm 0 (sS 3 TVersion.en l3_0), Tm 1 (.fn (.func 48) [] [.ptr 1000 0]), Tm 7 (iv l3_1), Tm 8 (iv l3_2), Ob 1000 (TShard.ob l3_3)]) (slices_IndexFunc_api_Version.lp3_post l3_0 l3_1 l3_3 r_) := by
 intro n_
 induction n_ with
 | zero => intro l3_2 r_ h; exact no_none h
 | succ n_ ih =>
  intro l3_2 r_ h
  refine kLp ?_
  refine kRs 31 [Tm 9 (bv (decide (l3_2 < l3_1)))] [] .n ?_
  refine kSq ?_
  rcases br_inv h with ⟨b5_0, h⟩ | ⟨b5_0, h⟩
  ·refine kCt b5_0 ?_
   refine kSk ?_
   refine kCd (cR (cR (cB (cB (cR (cL (cR bd67))))))) [.lp (cB (cR (cL (cR bd67))))] ?_
   refine kSq ?_
   refine kBk 1 ?_
   refine kRs 62 [Tm 5 (iv l3_2)] [] .n ?_
   obtain ⟨x7_1, a7_2, e7_3, h⟩ := ix_inv h
   obtain ⟨r7_4, h7_5, h⟩ := bd_inv h
   refine kRs 63 [Tm 16 (bv r7_4)] [.c (TVersion.en x7_1), .a ⟨bv r7_4, [(TShard.ob l3_3)]⟩] (.c (c_ix (e := TVersion.en) a7_2 e7_3) (.c (c_el (e := TVersion.en) e7_3) (.c (Asks.of (C := Meets Try.prog) (shard_May_2_1.meets x7_1 l3_3 _ h7_5)) .n))) ?_
   rcases br_inv h with ⟨b8_0, h⟩ | ⟨b8_0, h⟩
   ·refine kCt b8_0 ?_
    refine kRs 64 [Tm 4 (iv l3_2)] [] .n ?_
    cases some_inj h
    refine kWo ?_
    refine kRt ?_
    exact kOut
   ·refine kCe b8_0 ?_
    refine kSk ?_
    refine kCd (cR (cR (cR (cB (cB (cR (cL (cR bd67)))))))) [.lp (cB (cR (cL (cR bd67))))] ?_
    refine kRc 92 [Tm 8 (iv (w64 (l3_2 + 1)))] [] .n (cB (cR (cL (cR bd67)))) [] ?_
    exact kWk (ih (w64 (l3_2 + 1)) _ h)
  ·refine kCe b5_0 ?_
   cases some_inj h
   refine kWo ?_
   refine kXt 0 ?_
   exact kOut
def slices_IndexFunc_api_Version (fu : Nat) (s : List TVersion) (o0_v : TShard) : Option Int :=
 bd (slices_IndexFunc_api_Version.lp3 fu s (s.length : Int) o0_v fu 0) fun o_ => (match o_ with
 | .inl _ =>
  some (-1)
 | .inr y11_0 =>
  some y11_0)
theorem slices_IndexFunc_api_Version.meets (fu : Nat) (s : List TVersion) (o0_v : TShard) (z0 : Int) (h : slices_IndexFunc_api_Version fu s o0_v = some z0) : Meets Try.prog ⟨67, [sS 3 TVersion.en s, .fn (.func 48) [] [.ptr 1000 0]], [(TShard.ob o0_v)]⟩ ⟨iv z0, [(TShard.ob o0_v)]⟩ := by
 refine kMt hmix slices_IndexFunc_api_Version.O Try.f67 bd67 7 ?_
 unfold slices_IndexFunc_api_Version at h
 refine kRs 7 [] [] .n ?_
 refine kSq ?_
 refine kRs 7 [Tm 7 (iv (s.length : Int)), Tm 8 (iv 0)] [.s (.t 7) [iv (s.length : Int)]] (.c (c_len (e := TVersion.en) (l := s)) .n) ?_
 refine kBk 0 ?_
 obtain ⟨o11, ho11, h⟩ := bd_inv h
 refine kUs (slices_IndexFunc_api_Version.lp3_ok fu s (s.length : Int) o0_v _ 0 _ ho11) ?_
 intro e_ τ_ hp_
 rcases o11 with o11 | o11
 ·obtain ⟨⟩ := o11
  obtain ⟨rfl, rfl⟩ := hp_
  refine kCd (cR (cR bd67)) [] ?_
  refine kRs 1 [Tm 4 (iv (-1))] [] .n ?_
  refine kRt ?_
  have h_ := some_inj h
  subst h_
  exact kFr
 ·obtain ⟨y11_0, rfl⟩ : ∃ y, y = o11 := ⟨_, rfl⟩
  obtain ⟨rfl, rfl⟩ := hp_
  have h_ := some_inj h
  subst h_
  exact kFr
def bd47 : Code := (Try.f47.body).getD .skip
def slices_ContainsFunc_api_Version.O : Nat → Nat := fun t => bif ([4] : List Nat).any (Nat.beq t) then 1 else 0
def slices_ContainsFunc_api_Version (fu : Nat) (s : List TVersion) (o0_v : TShard) : Option Bool :=
 bd (slices_IndexFunc_api_Version fu s o0_v) fun r2_1 =>
 some (decide (r2_1 ≥ 0))
theorem slices_ContainsFunc_api_Version.meets (fu : Nat) (s : List TVersion) (o0_v : TShard) (z0 : Bool) (h : slices_ContainsFunc_api_Version fu s o0_v = some z0) : Meets Try.prog ⟨47, [sS 3 TVersion.en s, .fn (.func 48) [] [.ptr 1000 0]], [(TShard.ob o0_v)]⟩ ⟨bv z0, [(TShard.ob o0_v)]⟩ := by
 refine kMt hmix slices_ContainsFunc_api_Version.O Try.f47 bd47 7 ?_
 unfold slices_ContainsFunc_api_Version at h
 refine kRs 7 [] [] .n ?_
 obtain ⟨r2_1, h2_2, h⟩ := bd_inv h
 refine kRs 4 [Tm 4 (bv (decide (r2_1 ≥ 0)))] [.a ⟨iv r2_1, [(TShard.ob o0_v)]⟩] (.c (Asks.of (C := Meets Try.prog) (slices_IndexFunc_api_Version.meets fu s o0_v _ h2_2)) .n) ?_
 refine kRt ?_
 have h_ := some_inj h
 subst h_
 exact kFr
def bd45 : Code := (Try.f45.body).getD .skip
def shard_May_2.O : Nat → Nat := fun t => bif ([2, 3] : List Nat).any (Nat.beq t) then 1 else 0
def shard_May_2 (fu : Nat) (c : TChain) (o0_v : TShard) : Option Bool :=
 bd (shard_part_own fu o0_v c.Key) fun r2_1 =>
 br (!r2_1)
  (some true)
  (bd (slices_ContainsFunc_api_Version fu c.L o0_v) fun r2_4 =>
  some r2_4)
theorem shard_May_2.meets (fu : Nat) (c : TChain) (o0_v : TShard) (z0 : Bool) (h : shard_May_2 fu c o0_v = some z0) : Meets Try.prog ⟨45, [.data (.agg [.val (.string c.Key), .slc false none 3 (List.map TVersion.en c.L)]), .ptr 1000 0], [(TShard.ob o0_v)]⟩ ⟨bv z0, [(TShard.ob o0_v)]⟩ := by
 refine kMt hmix shard_May_2.O Try.f45 bd45 7 ?_
 unfold shard_May_2 at h
 refine kRs 6 [Tm 2 (.ptr 2 0), Ob 2 [sv c.Key, sS 3 TVersion.en c.L]] [] .n ?_
 obtain ⟨r2_1, h2_2, h⟩ := bd_inv h
 rcases br_inv h with ⟨b2_3, h⟩ | ⟨b2_3, h⟩
 ·refine kRs 8 [Tm 3 (bv true)] (.a ⟨bv r2_1, []⟩ :: (rp 5 (.b true) [])) (.c (Asks.of (C := Meets Try.prog) (shard_part_own.meets fu o0_v c.Key _ h2_2)) (.r 5 b2_3 .n)) ?_
  refine kRt ?_
  have h_ := some_inj h
  subst h_
  exact kFr
 ·obtain ⟨r2_4, h2_5, h⟩ := bd_inv h
  refine kRs 8 [Tm 3 (bv r2_4)] (.a ⟨bv r2_1, []⟩ :: (rp 4 (.b false) [.a ⟨bv r2_4, [(TShard.ob o0_v)]⟩, .b false])) (.c (Asks.of (C := Meets Try.prog) (shard_part_own.meets fu o0_v c.Key _ h2_2)) (.r 4 b2_3 (.c (Asks.of (C := Meets Try.prog) (slices_ContainsFunc_api_Version.meets fu c.L o0_v _ h2_5)) (.c b2_3 .n)))) ?_
  refine kRt ?_
  have h_ := some_inj h
  subst h_
  exact kFr
def bd71 : Code := (Try.f71.body).getD .skip
def slices_IndexFunc_api_Chain.O : Nat → Nat := fun t => bif ([4, 5] : List Nat).any (Nat.beq t) then 1 else 0
def slices_IndexFunc_api_Chain.lp3 (fu : Nat) (l3_0 : List TChain) (l3_1 : Int) (l3_3 : TShard) : Nat → Int → Option (Unit ⊕ Int)
  | 0, _ => none
  | n_ + 1, l3_2 =>
  br (decide (l3_2 < l3_1))
   (ix l3_0 l3_2 fun x7_1 =>
   bd (shard_May_2 fu x7_1 l3_3) fun r7_4 =>
   br r7_4
    (some (.inr l3_2))
    (slices_IndexFunc_api_Chain.lp3 fu l3_0 l3_1 l3_3 n_ (w64 (l3_2 + 1))))
   (some (.inl ()))
def slices_IndexFunc_api_Chain.lp3_post (l3_0 : List TChain) (l3_1 : Int) (l3_3 : TShard) (r_ : (Unit ⊕ Int)) : Wy → St → Prop := fun e τ => match r_ with
  | .inl _ => e = .exit 0 ∧ τ = ofL [Ob 1000 (TShard.ob l3_3)]
  | .inr y0 => e = .ret ∧ τ = ofL [Tm 4 (iv y0), Ob 1000 (TShard.ob l3_3)]
theorem slices_IndexFunc_api_Chain.lp3_ok (fu : Nat) (l3_0 : List TChain) (l3_1 : Int) (l3_3 : TShard) : ∀ (n_ : Nat) (l3_2 : Int) (r_ : (Unit ⊕ Int)), slices_IndexFunc_api_Chain.lp3 fu l3_0 l3_1 l3_3 n_ l3_2 = some r_ → WK Try.prog slices_IndexFunc_api_Chain.O (Ck Try.prog) (cB (cR (cL (cR bd71)))) [] (ofL [Tm 0 (sS 2 TChain.en l3_0), Tm 1 (.fn (.func 45) [] [.ptr 1000 0]), Tm 7 (iv l3_1), Tm 8 (iv l3_2), Ob 1000 (TShard.ob l3_3)]) (slices_IndexFunc_api_Chain.lp3_post l3_0 l3_1 l3_3 r_) := by
 intro n_
 induction n_ with
 | zero => intro l3_2 r_ h; exact no_none h
 | succ n_ ih =>
  intro l3_2 r_ h
  refine kLp ?_
  refine kRs 31 [Tm 9 (bv (decide (l3_2 < l3_1)))] [] .n ?_
  refine kSq ?_
  rcases br_inv h with ⟨b5_0, h⟩ | ⟨b5_0, h⟩
  ·refine kCt b5_0 ?_
   refine kSk ?_
   refine kCd (cR (cR (cB (cB (cR (cL (cR bd71))))))) [.lp (cB (cR (cL (cR bd71))))] ?_
   refine kSq ?_
   refine kBk 1 ?_
   refine kRs 62 [Tm 5 (iv l3_2)] [] .n ?_
   obtain ⟨x7_1, a7_2, e7_3, h⟩ := ix_inv h
   obtain ⟨r7_4, h7_5, h⟩ := bd_inv h
   refine kRs 63 [Tm 16 (bv r7_4)] [.c (TChain.en x7_1), .a ⟨bv r7_4, [(TShard.ob l3_3)]⟩] (.c (c_ix (e := TChain.en) a7_2 e7_3) (.c (c_el (e := TChain.en) e7_3) (.c (Asks.of (C := Meets Try.prog) (shard_May_2.meets fu x7_1 l3_3 _ h7_5)) .n))) ?_
   rcases br_inv h with ⟨b8_0, h⟩ | ⟨b8_0, h⟩
   ·refine kCt b8_0 ?_
    refine kRs 64 [Tm 4 (iv l3_2)] [] .n ?_
    cases some_inj h
    refine kWo ?_
    refine kRt ?_
    exact kOut
   ·refine kCe b8_0 ?_
    refine kSk ?_
    refine kCd (cR (cR (cR (cB (cB (cR (cL (cR bd71)))))))) [.lp (cB (cR (cL (cR bd71))))] ?_
    refine kRc 92 [Tm 8 (iv (w64 (l3_2 + 1)))] [] .n (cB (cR (cL (cR bd71)))) [] ?_
    exact kWk (ih (w64 (l3_2 + 1)) _ h)
  ·refine kCe b5_0 ?_
   cases some_inj h
   refine kWo ?_
   refine kXt 0 ?_
   exact kOut
def slices_IndexFunc_api_Chain (fu : Nat) (s : List TChain) (o0_v : TShard) : Option Int :=
 bd (slices_IndexFunc_api_Chain.lp3 fu s (s.length : Int) o0_v fu 0) fun o_ => (match o_ with
 | .inl _ =>
  some (-1)
 | .inr y11_0 =>
  some y11_0)
theorem slices_IndexFunc_api_Chain.meets (fu : Nat) (s : List TChain) (o0_v : TShard) (z0 : Int) (h : slices_IndexFunc_api_Chain fu s o0_v = some z0) : Meets Try.prog ⟨71, [sS 2 TChain.en s, .fn (.func 45) [] [.ptr 1000 0]], [(TShard.ob o0_v)]⟩ ⟨iv z0, [(TShard.ob o0_v)]⟩ := by
 refine kMt hmix slices_IndexFunc_api_Chain.O Try.f71 bd71 7 ?_
 unfold slices_IndexFunc_api_Chain at h
 refine kRs 7 [] [] .n ?_
 refine kSq ?_
 refine kRs 7 [Tm 7 (iv (s.length : Int)), Tm 8 (iv 0)] [.s (.t 7) [iv (s.length : Int)]] (.c (c_len (e := TChain.en) (l := s)) .n) ?_
 refine kBk 0 ?_
 obtain ⟨o11, ho11, h⟩ := bd_inv h
 refine kUs (slices_IndexFunc_api_Chain.lp3_ok fu s (s.length : Int) o0_v _ 0 _ ho11) ?_
 intro e_ τ_ hp_
 rcases o11 with o11 | o11
 ·obtain ⟨⟩ := o11
  obtain ⟨rfl, rfl⟩ := hp_
  refine kCd (cR (cR bd71)) [] ?_
  refine kRs 1 [Tm 4 (iv (-1))] [] .n ?_
  refine kRt ?_
  have h_ := some_inj h
  subst h_
  exact kFr
 ·obtain ⟨y11_0, rfl⟩ : ∃ y, y = o11 := ⟨_, rfl⟩
  obtain ⟨rfl, rfl⟩ := hp_
  have h_ := some_inj h
  subst h_
  exact kFr
def bd51 : Code := (Try.f51.body).getD .skip
def slices_ContainsFunc_api_Chain.O : Nat → Nat := fun t => bif ([4] : List Nat).any (Nat.beq t) then 1 else 0
def slices_ContainsFunc_api_Chain (fu : Nat) (s : List TChain) (o0_v : TShard) : Option Bool :=
 bd (slices_IndexFunc_api_Chain fu s o0_v) fun r2_1 =>
 some (decide (r2_1 ≥ 0))
theorem slices_ContainsFunc_api_Chain.meets (fu : Nat) (s : List TChain) (o0_v : TShard) (z0 : Bool) (h : slices_ContainsFunc_api_Chain fu s o0_v = some z0) : Meets Try.prog ⟨51, [sS 2 TChain.en s, .fn (.func 45) [] [.ptr 1000 0]], [(TShard.ob o0_v)]⟩ ⟨bv z0, [(TShard.ob o0_v)]⟩ := by
 refine kMt hmix slices_ContainsFunc_api_Chain.O Try.f51 bd51 7 ?_
 unfold slices_ContainsFunc_api_Chain at h
 refine kRs 7 [] [] .n ?_
 obtain ⟨r2_1, h2_2, h⟩ := bd_inv h
 refine kRs 4 [Tm 4 (bv (decide (r2_1 ≥ 0)))] [.a ⟨iv r2_1, [(TShard.ob o0_v)]⟩] (.c (Asks.of (C := Meets Try.prog) (slices_IndexFunc_api_Chain.meets fu s o0_v _ h2_2)) .n) ?_
 refine kRt ?_
 have h_ := some_inj h
 subst h_
 exact kFr
def bd52 : Code := (Try.f52.body).getD .skip
def shard_seats.O : Nat → Nat := fun t => bif ([1, 2, 3, 5] : List Nat).any (Nat.beq t) then 1 else 0
def shard_seats.lp4 (fu : Nat) (l4_1 : List TSeat) (l4_2 : Int) (l4_4 : TShard) : Nat → Int → Int → Option (Unit ⊕ Unit)
  | 0, _, _ => none
  | n_ + 1, l4_0, l4_3 =>
  br (decide (l4_3 < l4_2))
   (ix l4_1 l4_3 fun x7_1 =>
   br (decide (x7_1.Session ≤ l4_0))
    (some (.inr ()))
    (br (decide (x7_1.Session > 9))
     (some (.inr ()))
     (br (decide (x7_1.Seq < 1))
      (some (.inr ()))
      (br (decide (x7_1.Seq > 1000))
       (some (.inr ()))
       (br (decide (x7_1.Pos < 1))
        (some (.inr ()))
        (br (decide (x7_1.Pos > l4_4.Done))
         (some (.inr ()))
         (shard_seats.lp4 fu l4_1 l4_2 l4_4 n_ x7_1.Session (w64 (l4_3 + 1)))))))))
   (some (.inl ()))
def shard_seats.lp4_post (l4_1 : List TSeat) (l4_2 : Int) (l4_4 : TShard) (r_ : (Unit ⊕ Unit)) : Wy → St → Prop := fun e τ => match r_ with
  | .inl _ => e = .exit 0 ∧ τ = ofL []
  | .inr _ => e = .ret ∧ τ = ofL [Tm 2 (bv false)]
theorem shard_seats.lp4_ok (fu : Nat) (l4_1 : List TSeat) (l4_2 : Int) (l4_4 : TShard) : ∀ (n_ : Nat) (l4_0 : Int) (l4_3 : Int) (r_ : (Unit ⊕ Unit)), shard_seats.lp4 fu l4_1 l4_2 l4_4 n_ l4_0 l4_3 = some r_ → WK Try.prog shard_seats.O (Ck Try.prog) (cB (cR (cL (cR (cR bd52))))) [] (ofL [Tm 1 (.ptr 1 0), Tm 3 (iv l4_0), Tm 7 (sS 3 TSeat.en l4_1), Tm 8 (iv l4_2), Tm 9 (iv l4_3), Ob 1 (TShard.ob l4_4)]) (shard_seats.lp4_post l4_1 l4_2 l4_4 r_) := by
 intro n_
 induction n_ with
 | zero => intro l4_0 l4_3 r_ h; exact no_none h
 | succ n_ ih =>
  intro l4_0 l4_3 r_ h
  refine kLp ?_
  refine kRs 63 [Tm 10 (bv (decide (l4_3 < l4_2)))] [] .n ?_
  refine kSq ?_
  rcases br_inv h with ⟨b6_0, h⟩ | ⟨b6_0, h⟩
  ·refine kCt b6_0 ?_
   refine kSk ?_
   refine kCd (cR (cR (cB (cB (cR (cL (cR (cR bd52)))))))) [.lp (cB (cR (cL (cR (cR bd52)))))] ?_
   refine kSq ?_
   refine kBk 1 ?_
   obtain ⟨x7_1, a7_2, e7_3, h⟩ := ix_inv h
   refine kRs 126 [Tm 5 (.ptr 5 0), Ob 5 (TSeat.ob x7_1)] [.c (TSeat.en x7_1)] (.c (c_ix (e := TSeat.en) a7_2 e7_3) (.c (c_el (e := TSeat.en) e7_3) .n)) ?_
   refine kSq ?_
   rcases br_inv h with ⟨b8_1, h⟩ | ⟨b8_1, h⟩
   ·refine kRs 247 [Tm 43 (bv true)] (rp 22 (.b true) []) (.r 4 b8_1 (.r 18 rT .n)) ?_
    refine kCt rT ?_
    refine kRs 0 [Tm 2 (bv false)] [] .n ?_
    cases some_inj h
    refine kWo ?_
    refine kRt ?_
    exact kOut
   ·rcases br_inv h with ⟨b8_2, h⟩ | ⟨b8_2, h⟩
    ·refine kRs 247 [Tm 43 (bv true)] (rp 4 (.b false) (rp 18 (.b true) [])) (.r 4 b8_1 (.r 4 b8_2 (.r 14 rT .n))) ?_
     refine kCt rT ?_
     refine kRs 0 [Tm 2 (bv false)] [] .n ?_
     cases some_inj h
     refine kWo ?_
     refine kRt ?_
     exact kOut
    ·rcases br_inv h with ⟨b8_3, h⟩ | ⟨b8_3, h⟩
     ·refine kRs 247 [Tm 43 (bv true)] (rp 8 (.b false) (rp 14 (.b true) [])) (.r 4 b8_1 (.r 4 b8_2 (.r 4 b8_3 (.r 10 rT .n)))) ?_
      refine kCt rT ?_
      refine kRs 0 [Tm 2 (bv false)] [] .n ?_
      cases some_inj h
      refine kWo ?_
      refine kRt ?_
      exact kOut
     ·rcases br_inv h with ⟨b8_4, h⟩ | ⟨b8_4, h⟩
      ·refine kRs 247 [Tm 43 (bv true)] (rp 12 (.b false) (rp 10 (.b true) [])) (.r 4 b8_1 (.r 4 b8_2 (.r 4 b8_3 (.r 4 b8_4 (.r 6 rT .n))))) ?_
       refine kCt rT ?_
       refine kRs 0 [Tm 2 (bv false)] [] .n ?_
       cases some_inj h
       refine kWo ?_
       refine kRt ?_
       exact kOut
      ·rcases br_inv h with ⟨b8_5, h⟩ | ⟨b8_5, h⟩
       ·refine kRs 247 [Tm 43 (bv true)] (rp 16 (.b false) (rp 6 (.b true) [])) (.r 4 b8_1 (.r 4 b8_2 (.r 4 b8_3 (.r 4 b8_4 (.r 6 b8_5 .n))))) ?_
        refine kCt rT ?_
        refine kRs 0 [Tm 2 (bv false)] [] .n ?_
        cases some_inj h
        refine kWo ?_
        refine kRt ?_
        exact kOut
       ·refine kRs 247 [Tm 43 (bv (decide (x7_1.Pos > l4_4.Done)))] (rp 22 (.b false) []) (.r 4 b8_1 (.r 4 b8_2 (.r 4 b8_3 (.r 4 b8_4 (.r 6 b8_5 .n))))) ?_
        rcases br_inv h with ⟨b14_0, h⟩ | ⟨b14_0, h⟩
        ·refine kCt b14_0 ?_
         refine kRs 0 [Tm 2 (bv false)] [] .n ?_
         cases some_inj h
         refine kWo ?_
         refine kRt ?_
         exact kOut
        ·refine kCe b14_0 ?_
         refine kSk ?_
         refine kCd (cR (cR (cB (cL (cR (cR (cB (cB (cR (cL (cR (cR bd52)))))))))))) [.blk 1, .seq (cR (cR (cR (cB (cB (cR (cL (cR (cR bd52))))))))), .lp (cB (cR (cL (cR (cR bd52)))))] ?_
         refine kRc 248 [Tm 3 (iv x7_1.Session)] [] .n (cR (cR (cR (cB (cB (cR (cL (cR (cR bd52))))))))) [.lp (cB (cR (cL (cR (cR bd52)))))] ?_
         refine kRc 47 [Tm 9 (iv (w64 (l4_3 + 1)))] [] .n (cB (cR (cL (cR (cR bd52))))) [] ?_
         exact kWk (ih x7_1.Session (w64 (l4_3 + 1)) _ h)
  ·refine kCe b6_0 ?_
   cases some_inj h
   refine kWo ?_
   refine kXt 0 ?_
   exact kOut
def shard_seats (fu : Nat) (s : TShard) : Option Bool :=
 bd (shard_seats.lp4 fu s.Seats (s.Seats.length : Int) s fu 0 0) fun o_ => (match o_ with
 | .inl _ =>
  some true
 | .inr _ =>
  some false)
theorem shard_seats.meets (fu : Nat) (s : TShard) (z0 : Bool) (h : shard_seats fu s = some z0) : Meets Try.prog ⟨52, [.data (TShard.ag s)], []⟩ ⟨bv z0, []⟩ := by
 refine kMt hmix shard_seats.O Try.f52 bd52 1 ?_
 unfold shard_seats at h
 refine kRs 0 [Tm 1 (.ptr 1 0), Ob 1 (TShard.ob s)] [] .n ?_
 refine kRs 3 [Tm 3 (iv 0)] [] .n ?_
 refine kSq ?_
 refine kRs 7 [Tm 7 (sS 3 TSeat.en s.Seats), Tm 8 (iv (s.Seats.length : Int)), Tm 9 (iv 0)] [.s (.t 8) [iv (s.Seats.length : Int)]] (.c (c_len (e := TSeat.en) (l := s.Seats)) .n) ?_
 refine kBk 0 ?_
 obtain ⟨o18, ho18, h⟩ := bd_inv h
 refine kUs (shard_seats.lp4_ok fu s.Seats (s.Seats.length : Int) s _ 0 0 _ ho18) ?_
 intro e_ τ_ hp_
 rcases o18 with o18 | o18
 ·obtain ⟨⟩ := o18
  obtain ⟨rfl, rfl⟩ := hp_
  refine kCd (cR (cR (cR bd52))) [] ?_
  refine kRs 0 [Tm 2 (bv true)] [] .n ?_
  refine kRt ?_
  have h_ := some_inj h
  subst h_
  exact kFr
 ·obtain ⟨⟩ := o18
  obtain ⟨rfl, rfl⟩ := hp_
  have h_ := some_inj h
  subst h_
  exact kFr
def bd29 : Code := (Try.f29.body).getD .skip
def shard_May.O : Nat → Nat := fun t => bif ([1, 2, 3, 4] : List Nat).any (Nat.beq t) then 1 else 0
def shard_May (fu : Nat) (s : TShard) : Option Bool :=
 br (decide (s.Shards ≥ 1))
  (br (decide (s.Shards ≤ 3))
   (br (decide (s.ID ≥ 0))
    (br (decide (s.ID < s.Shards))
     (br (decide (s.Done ≥ 0))
      (br ((s.Bits.length : Int) == s.Done)
       (bd (shard_May_1 0 2) fun _ =>
       bd (slices_ContainsFunc_int_int fu s.Bits 0 2) fun r4_8 =>
       br (!r4_8)
        (br ((s.Said.length : Int) == s.Done)
         (bd (shard_May_1 1 4) fun _ =>
         bd (slices_ContainsFunc_int_int fu s.Said 1 4) fun r4_13 =>
         br (!r4_13)
          (bd (store_May fu s.S) fun r4_16 =>
          br r4_16
           (bd (slices_ContainsFunc_api_Chain fu s.S.Chains s) fun r4_19 =>
           br (!r4_19)
            (bd (shard_seats fu s) fun r4_22 =>
            some r4_22)
            (some false))
           (some false))
          (some false))
         (some false))
        (some false))
       (some false))
      (some false))
     (some false))
    (some false))
   (some false))
  (some false)
theorem shard_May.meets (fu : Nat) (s : TShard) (z0 : Bool) (h : shard_May fu s = some z0) : Meets Try.prog ⟨29, [.data (TShard.ag s)], []⟩ ⟨bv z0, []⟩ := by
 refine kMt hmix shard_May.O Try.f29 bd29 1 ?_
 unfold shard_May at h
 refine kRs 0 [Tm 1 (.ptr 1 0), Ob 1 (TShard.ob s)] [] .n ?_
 refine kRs 3 [Tm 3 (.fn (.func 43) [] [])] [] .n ?_
 refine kRs 7 [Tm 4 (.fn (.func 45) [] [.ptr 1 0])] [] .n ?_
 rcases br_inv h with ⟨b4_1, h⟩ | ⟨b4_1, h⟩
 ·rcases br_inv h with ⟨b4_2, h⟩ | ⟨b4_2, h⟩
  ·rcases br_inv h with ⟨b4_3, h⟩ | ⟨b4_3, h⟩
   ·rcases br_inv h with ⟨b4_4, h⟩ | ⟨b4_4, h⟩
    ·rcases br_inv h with ⟨b4_5, h⟩ | ⟨b4_5, h⟩
     ·rcases br_inv h with ⟨b4_6, h⟩ | ⟨b4_6, h⟩
      ·obtain ⟨_, h4_7, h⟩ := bd_inv h
       obtain ⟨r4_8, h4_9, h⟩ := bd_inv h
       rcases br_inv h with ⟨b4_10, h⟩ | ⟨b4_10, h⟩
       ·rcases br_inv h with ⟨b4_11, h⟩ | ⟨b4_11, h⟩
        ·obtain ⟨_, h4_12, h⟩ := bd_inv h
         obtain ⟨r4_13, h4_14, h⟩ := bd_inv h
         rcases br_inv h with ⟨b4_15, h⟩ | ⟨b4_15, h⟩
         ·obtain ⟨r4_16, h4_17, h⟩ := bd_inv h
          rcases br_inv h with ⟨b4_18, h⟩ | ⟨b4_18, h⟩
          ·obtain ⟨r4_19, h4_20, h⟩ := bd_inv h
           rcases br_inv h with ⟨b4_21, h⟩ | ⟨b4_21, h⟩
           ·obtain ⟨r4_22, h4_23, h⟩ := bd_inv h
            refine kRs 0 [Tm 2 (bv r4_22)] (rp 21 (.b true) (.s (.t 34) [iv (s.Bits.length : Int)] :: (rp 8 (.b true) (.a ⟨.fn (.func 44) [] [.ptr 1000 0, .ptr 1001 0], [[iv 0], [iv 2]]⟩ :: (.b true :: (.a ⟨bv r4_8, [[iv 0], [iv 2]]⟩ :: (rp 5 (.b true) (.s (.t 50) [iv (s.Said.length : Int)] :: (rp 8 (.b true) (.a ⟨.fn (.func 44) [] [.ptr 1000 0, .ptr 1001 0], [[iv 1], [iv 4]]⟩ :: (.b true :: (.a ⟨bv r4_13, [[iv 1], [iv 4]]⟩ :: (rp 5 (.b true) (.a ⟨bv r4_16, []⟩ :: (rp 6 (.b true) (.a ⟨bv r4_19, [(TShard.ob s)]⟩ :: (rp 4 (.b true) [.a ⟨bv r4_22, []⟩, .b true]))))))))))))))))) (.r 4 b4_1 (.r 4 b4_2 (.r 6 b4_3 (.r 4 b4_4 (.r 3 b4_5 (.c (c_len (e := e_i64) (l := s.Bits)) (.r 4 b4_5 (.r 4 b4_6 (.c (Asks.of (C := Meets Try.prog) (shard_May_1.meets 0 2 h4_7)) (.c b4_6 (.c (Asks.of (C := Meets Try.prog) (slices_ContainsFunc_int_int.meets fu s.Bits 0 2 _ h4_9)) (.r 2 b4_6 (.r 3 b4_10 (.c (c_len (e := e_i64) (l := s.Said)) (.r 4 b4_10 (.r 4 b4_11 (.c (Asks.of (C := Meets Try.prog) (shard_May_1.meets 1 4 h4_12)) (.c b4_11 (.c (Asks.of (C := Meets Try.prog) (slices_ContainsFunc_int_int.meets fu s.Said 1 4 _ h4_14)) (.r 2 b4_11 (.r 3 b4_15 (.c (Asks.of (C := Meets Try.prog) (store_May.meets fu s.S _ h4_17)) (.c b4_15 (.r 5 b4_18 (.c (Asks.of (C := Meets Try.prog) (slices_ContainsFunc_api_Chain.meets fu s.S.Chains s _ h4_20)) (.r 2 b4_18 (.r 2 b4_21 (.c (Asks.of (C := Meets Try.prog) (shard_seats.meets fu s _ h4_23)) (.c b4_21 (.c rT .n)))))))))))))))))))))))))))))) ?_
            refine kRt ?_
            have h_ := some_inj h
            subst h_
            exact kFr
           ·refine kRs 0 [Tm 2 (bv false)] (rp 21 (.b true) (.s (.t 34) [iv (s.Bits.length : Int)] :: (rp 8 (.b true) (.a ⟨.fn (.func 44) [] [.ptr 1000 0, .ptr 1001 0], [[iv 0], [iv 2]]⟩ :: (.b true :: (.a ⟨bv r4_8, [[iv 0], [iv 2]]⟩ :: (rp 5 (.b true) (.s (.t 50) [iv (s.Said.length : Int)] :: (rp 8 (.b true) (.a ⟨.fn (.func 44) [] [.ptr 1000 0, .ptr 1001 0], [[iv 1], [iv 4]]⟩ :: (.b true :: (.a ⟨bv r4_13, [[iv 1], [iv 4]]⟩ :: (rp 5 (.b true) (.a ⟨bv r4_16, []⟩ :: (rp 6 (.b true) [.a ⟨bv r4_19, [(TShard.ob s)]⟩, .b true, .b true, .b false, .b false, .b false]))))))))))))))) (.r 4 b4_1 (.r 4 b4_2 (.r 6 b4_3 (.r 4 b4_4 (.r 3 b4_5 (.c (c_len (e := e_i64) (l := s.Bits)) (.r 4 b4_5 (.r 4 b4_6 (.c (Asks.of (C := Meets Try.prog) (shard_May_1.meets 0 2 h4_7)) (.c b4_6 (.c (Asks.of (C := Meets Try.prog) (slices_ContainsFunc_int_int.meets fu s.Bits 0 2 _ h4_9)) (.r 2 b4_6 (.r 3 b4_10 (.c (c_len (e := e_i64) (l := s.Said)) (.r 4 b4_10 (.r 4 b4_11 (.c (Asks.of (C := Meets Try.prog) (shard_May_1.meets 1 4 h4_12)) (.c b4_11 (.c (Asks.of (C := Meets Try.prog) (slices_ContainsFunc_int_int.meets fu s.Said 1 4 _ h4_14)) (.r 2 b4_11 (.r 3 b4_15 (.c (Asks.of (C := Meets Try.prog) (store_May.meets fu s.S _ h4_17)) (.c b4_15 (.r 5 b4_18 (.c (Asks.of (C := Meets Try.prog) (slices_ContainsFunc_api_Chain.meets fu s.S.Chains s _ h4_20)) (.r 2 b4_18 (.r 3 b4_21 (.c rT .n)))))))))))))))))))))))))))) ?_
            refine kRt ?_
            have h_ := some_inj h
            subst h_
            exact kFr
          ·refine kRs 0 [Tm 2 (bv false)] (rp 21 (.b true) (.s (.t 34) [iv (s.Bits.length : Int)] :: (rp 8 (.b true) (.a ⟨.fn (.func 44) [] [.ptr 1000 0, .ptr 1001 0], [[iv 0], [iv 2]]⟩ :: (.b true :: (.a ⟨bv r4_8, [[iv 0], [iv 2]]⟩ :: (rp 5 (.b true) (.s (.t 50) [iv (s.Said.length : Int)] :: (rp 8 (.b true) (.a ⟨.fn (.func 44) [] [.ptr 1000 0, .ptr 1001 0], [[iv 1], [iv 4]]⟩ :: (.b true :: (.a ⟨bv r4_13, [[iv 1], [iv 4]]⟩ :: (rp 5 (.b true) (.a ⟨bv r4_16, []⟩ :: (.b true :: (rp 10 (.b false) [])))))))))))))))) (.r 4 b4_1 (.r 4 b4_2 (.r 6 b4_3 (.r 4 b4_4 (.r 3 b4_5 (.c (c_len (e := e_i64) (l := s.Bits)) (.r 4 b4_5 (.r 4 b4_6 (.c (Asks.of (C := Meets Try.prog) (shard_May_1.meets 0 2 h4_7)) (.c b4_6 (.c (Asks.of (C := Meets Try.prog) (slices_ContainsFunc_int_int.meets fu s.Bits 0 2 _ h4_9)) (.r 2 b4_6 (.r 3 b4_10 (.c (c_len (e := e_i64) (l := s.Said)) (.r 4 b4_10 (.r 4 b4_11 (.c (Asks.of (C := Meets Try.prog) (shard_May_1.meets 1 4 h4_12)) (.c b4_11 (.c (Asks.of (C := Meets Try.prog) (slices_ContainsFunc_int_int.meets fu s.Said 1 4 _ h4_14)) (.r 2 b4_11 (.r 3 b4_15 (.c (Asks.of (C := Meets Try.prog) (store_May.meets fu s.S _ h4_17)) (.c b4_15 (.r 7 b4_18 (.r 3 rF (.c rT .n)))))))))))))))))))))))))) ?_
           refine kRt ?_
           have h_ := some_inj h
           subst h_
           exact kFr
         ·refine kRs 0 [Tm 2 (bv false)] (rp 21 (.b true) (.s (.t 34) [iv (s.Bits.length : Int)] :: (rp 8 (.b true) (.a ⟨.fn (.func 44) [] [.ptr 1000 0, .ptr 1001 0], [[iv 0], [iv 2]]⟩ :: (.b true :: (.a ⟨bv r4_8, [[iv 0], [iv 2]]⟩ :: (rp 5 (.b true) (.s (.t 50) [iv (s.Said.length : Int)] :: (rp 8 (.b true) (.a ⟨.fn (.func 44) [] [.ptr 1000 0, .ptr 1001 0], [[iv 1], [iv 4]]⟩ :: (.b true :: (.a ⟨bv r4_13, [[iv 1], [iv 4]]⟩ :: (.b true :: (.b true :: (rp 14 (.b false) []))))))))))))))) (.r 4 b4_1 (.r 4 b4_2 (.r 6 b4_3 (.r 4 b4_4 (.r 3 b4_5 (.c (c_len (e := e_i64) (l := s.Bits)) (.r 4 b4_5 (.r 4 b4_6 (.c (Asks.of (C := Meets Try.prog) (shard_May_1.meets 0 2 h4_7)) (.c b4_6 (.c (Asks.of (C := Meets Try.prog) (slices_ContainsFunc_int_int.meets fu s.Bits 0 2 _ h4_9)) (.r 2 b4_6 (.r 3 b4_10 (.c (c_len (e := e_i64) (l := s.Said)) (.r 4 b4_10 (.r 4 b4_11 (.c (Asks.of (C := Meets Try.prog) (shard_May_1.meets 1 4 h4_12)) (.c b4_11 (.c (Asks.of (C := Meets Try.prog) (slices_ContainsFunc_int_int.meets fu s.Said 1 4 _ h4_14)) (.r 2 b4_11 (.r 4 b4_15 (.r 10 rF (.c rT .n))))))))))))))))))))))) ?_
          refine kRt ?_
          have h_ := some_inj h
          subst h_
          exact kFr
        ·refine kRs 0 [Tm 2 (bv false)] (rp 21 (.b true) (.s (.t 34) [iv (s.Bits.length : Int)] :: (rp 8 (.b true) (.a ⟨.fn (.func 44) [] [.ptr 1000 0, .ptr 1001 0], [[iv 0], [iv 2]]⟩ :: (.b true :: (.a ⟨bv r4_8, [[iv 0], [iv 2]]⟩ :: (rp 5 (.b true) (.s (.t 50) [iv (s.Said.length : Int)] :: (rp 4 (.b true) (rp 21 (.b false) [])))))))))) (.r 4 b4_1 (.r 4 b4_2 (.r 6 b4_3 (.r 4 b4_4 (.r 3 b4_5 (.c (c_len (e := e_i64) (l := s.Bits)) (.r 4 b4_5 (.r 4 b4_6 (.c (Asks.of (C := Meets Try.prog) (shard_May_1.meets 0 2 h4_7)) (.c b4_6 (.c (Asks.of (C := Meets Try.prog) (slices_ContainsFunc_int_int.meets fu s.Bits 0 2 _ h4_9)) (.r 2 b4_6 (.r 3 b4_10 (.c (c_len (e := e_i64) (l := s.Said)) (.r 4 b4_10 (.r 7 b4_11 (.r 14 rF (.c rT .n)))))))))))))))))) ?_
         refine kRt ?_
         have h_ := some_inj h
         subst h_
         exact kFr
       ·refine kRs 0 [Tm 2 (bv false)] (rp 21 (.b true) (.s (.t 34) [iv (s.Bits.length : Int)] :: (rp 8 (.b true) (.a ⟨.fn (.func 44) [] [.ptr 1000 0, .ptr 1001 0], [[iv 0], [iv 2]]⟩ :: (.b true :: (.a ⟨bv r4_8, [[iv 0], [iv 2]]⟩ :: (.b true :: (.b true :: (rp 28 (.b false) []))))))))) (.r 4 b4_1 (.r 4 b4_2 (.r 6 b4_3 (.r 4 b4_4 (.r 3 b4_5 (.c (c_len (e := e_i64) (l := s.Bits)) (.r 4 b4_5 (.r 4 b4_6 (.c (Asks.of (C := Meets Try.prog) (shard_May_1.meets 0 2 h4_7)) (.c b4_6 (.c (Asks.of (C := Meets Try.prog) (slices_ContainsFunc_int_int.meets fu s.Bits 0 2 _ h4_9)) (.r 2 b4_6 (.r 7 b4_10 (.r 21 rF (.c rT .n))))))))))))))) ?_
        refine kRt ?_
        have h_ := some_inj h
        subst h_
        exact kFr
      ·refine kRs 0 [Tm 2 (bv false)] (rp 21 (.b true) (.s (.t 34) [iv (s.Bits.length : Int)] :: (rp 4 (.b true) (rp 35 (.b false) [])))) (.r 4 b4_1 (.r 4 b4_2 (.r 6 b4_3 (.r 4 b4_4 (.r 3 b4_5 (.c (c_len (e := e_i64) (l := s.Bits)) (.r 4 b4_5 (.r 7 b4_6 (.r 28 rF (.c rT .n)))))))))) ?_
       refine kRt ?_
       have h_ := some_inj h
       subst h_
       exact kFr
     ·refine kRs 0 [Tm 2 (bv false)] (rp 18 (.b true) (rp 42 (.b false) [])) (.r 4 b4_1 (.r 4 b4_2 (.r 6 b4_3 (.r 4 b4_4 (.r 7 b4_5 (.r 35 rF (.c rT .n))))))) ?_
      refine kRt ?_
      have h_ := some_inj h
      subst h_
      exact kFr
    ·refine kRs 0 [Tm 2 (bv false)] (rp 14 (.b true) (rp 46 (.b false) [])) (.r 4 b4_1 (.r 4 b4_2 (.r 6 b4_3 (.r 4 b4_4 (.r 42 rF (.c rT .n)))))) ?_
     refine kRt ?_
     have h_ := some_inj h
     subst h_
     exact kFr
   ·refine kRs 0 [Tm 2 (bv false)] (rp 8 (.b true) (rp 52 (.b false) [])) (.r 4 b4_1 (.r 4 b4_2 (.r 6 b4_3 (.r 46 rF (.c rT .n))))) ?_
    refine kRt ?_
    have h_ := some_inj h
    subst h_
    exact kFr
  ·refine kRs 0 [Tm 2 (bv false)] (rp 4 (.b true) (rp 56 (.b false) [])) (.r 4 b4_1 (.r 4 b4_2 (.r 52 rF (.c rT .n)))) ?_
   refine kRt ?_
   have h_ := some_inj h
   subst h_
   exact kFr
 ·refine kRs 0 [Tm 2 (bv false)] (rp 60 (.b false) []) (.r 4 b4_1 (.r 56 rF (.c rT .n))) ?_
  refine kRt ?_
  have h_ := some_inj h
  subst h_
  exact kFr
def bd53 : Code := (Try.f53.body).getD .skip
def num_Put.O : Nat → Nat := fun t => bif ([0, 2, 13, 18] : List Nat).any (Nat.beq t) then 1 else 0
def num_Put.lp5 (fu : Nat) : Nat → Int → (List Int) → Option (Int × List Int)
  | 0, _, _ => none
  | n_ + 1, l5_0, l5_1 =>
  br (decide (l5_0 > 127))
   (gd (decide (l5_1.length + ([(vor .u8 (w8 l5_0) 128)] : List Int).length ≤ 4294967296)) <|
   num_Put.lp5 fu n_ (vshr .i64 l5_0 7) (l5_1 ++ ([(vor .u8 (w8 l5_0) 128)] : List Int)))
   (some (l5_0, l5_1))
def num_Put.lp5_post (r_ : (Int × List Int)) : Wy → St → Prop := fun e τ => match r_ with
  | (y0, y1) => e = .exit 0 ∧ τ = ofL [Tm 0 (iv y0), Tm 2 (sO 1 e_u8 y1)]
theorem num_Put.lp5_ok (fu : Nat) : ∀ (n_ : Nat) (l5_0 : Int) (l5_1 : List Int) (r_ : (Int × List Int)), num_Put.lp5 fu n_ l5_0 l5_1 = some r_ → WK Try.prog num_Put.O (Ck Try.prog) (cB (cL (cR (cR bd53)))) [] (ofL [Tm 0 (iv l5_0), Tm 2 (sO 1 e_u8 l5_1)]) (num_Put.lp5_post r_) := by
 intro n_
 induction n_ with
 | zero => intro l5_0 l5_1 r_ h; exact no_none h
 | succ n_ ih =>
  intro l5_0 l5_1 r_ h
  refine kLp ?_
  refine kSq ?_
  refine kRs 3 [Tm 6 (bv (decide (l5_0 > 127)))] [] .n ?_
  rcases br_inv h with ⟨b7_0, h⟩ | ⟨b7_0, h⟩
  ·refine kCt b7_0 ?_
   refine kSk ?_
   refine kCd (cR (cB (cB (cL (cR (cR bd53)))))) [.lp (cB (cL (cR (cR bd53))))] ?_
   refine kSq ?_
   refine kBk 1 ?_
   obtain ⟨c8_1, h⟩ := gd_inv h
   refine kRc 2 [Tm 2 (sO 1 e_u8 (l5_1 ++ ([(vor .u8 (w8 l5_0) 128)] : List Int)))] [.s (.t 14) [sO 1 e_u8 (l5_1 ++ ([(vor .u8 (w8 l5_0) 128)] : List Int))]] (.c (c_al (e := e_u8) (f := e_u8) c8_1) (.c (congrArg (fun d : DV => [AV.data d]) (c_app (e := e_u8) (s := 1) (l := l5_1) (m := ([(vor .u8 (w8 l5_0) 128)] : List Int)))) .n)) (cR (cR (cB (cB (cL (cR (cR bd53))))))) [.lp (cB (cL (cR (cR bd53))))] ?_
   refine kRc 1 [Tm 0 (iv (vshr .i64 l5_0 7))] [] (.c rT .n) (cB (cL (cR (cR bd53)))) [] ?_
   exact kWk (ih (vshr .i64 l5_0 7) (l5_1 ++ ([(vor .u8 (w8 l5_0) 128)] : List Int)) _ h)
  ·refine kCe b7_0 ?_
   cases some_inj h
   refine kWo ?_
   refine kXt 0 ?_
   exact kOut
def num_Put (fu : Nat) (v : Int) : Option (List Int) :=
 br (decide (v < 0))
  (some [])
  (bd (num_Put.lp5 fu fu v []) fun (y10_0, y10_1) =>
  gd (decide (y10_1.length + ([(w8 y10_0)] : List Int).length ≤ 4294967296)) <|
  some (y10_1 ++ ([(w8 y10_0)] : List Int)))
theorem num_Put.meets (fu : Nat) (v : Int) (z0 : List Int) (h : num_Put fu v = some z0) : Meets Try.prog ⟨53, [iv v], []⟩ ⟨sO 1 e_u8 z0, []⟩ := by
 refine kMt hmix num_Put.O Try.f53 bd53 1 ?_
 unfold num_Put at h
 refine kRs 1 [Tm 2 (.data (.slc true (some true) 1 (List.map e_u8 [])))] [] .n ?_
 refine kSq ?_
 refine kRs 3 [Tm 4 (bv (decide (v < 0)))] [] .n ?_
 rcases br_inv h with ⟨b3_0, h⟩ | ⟨b3_0, h⟩
 ·refine kCt b3_0 ?_
  refine kRs 2 [] [] .n ?_
  refine kWd 0 [Tm 2 (.data (.slc true none 1 (List.map e_u8 [])))] ?_
  refine kRt ?_
  have h_ := some_inj h
  subst h_
  exact kFr
 ·refine kCe b3_0 ?_
  refine kSk ?_
  refine kCd (cR (cR bd53)) [] ?_
  refine kSq ?_
  refine kBk 0 ?_
  obtain ⟨o10, ho10, h⟩ := bd_inv h
  refine kUs (num_Put.lp5_ok fu _ v [] _ ho10) ?_
  intro e_ τ_ hp_
  obtain ⟨y10_0, y10_1⟩ := o10
  obtain ⟨rfl, rfl⟩ := hp_
  refine kCd (cR (cR (cR bd53))) [] ?_
  obtain ⟨c11_1, h⟩ := gd_inv h
  refine kRs 0 [Tm 2 (sO 1 e_u8 (y10_1 ++ ([(w8 y10_0)] : List Int)))] [.s (.t 19) [sO 1 e_u8 (y10_1 ++ ([(w8 y10_0)] : List Int))]] (.c (c_al (e := e_u8) (f := e_u8) c11_1) (.c (congrArg (fun d : DV => [AV.data d]) (c_app (e := e_u8) (s := 1) (l := y10_1) (m := ([(w8 y10_0)] : List Int)))) .n)) ?_
  refine kRt ?_
  have h_ := some_inj h
  subst h_
  exact kFr
def bd30 : Code := (Try.f30.body).getD .skip
def save_writer_num.O : Nat → Nat := fun t => bif ([5, 19] : List Nat).any (Nat.beq t) then 1 else 0
def save_writer_num.lp2 (fu : Nat) (l2_0 : List Int) (l2_1 : Int) : Nat → Int → TWriter → Option TWriter
  | 0, _, _ => none
  | n_ + 1, l2_2, l2_3 =>
  br (decide (l2_2 < l2_1))
   (ix l2_0 l2_2 fun x5_1 =>
   bd (num_Put fu x5_1) fun r6_1 =>
   gd (decide (l2_3.b.length + r6_1.length ≤ 4294967296)) <|
   save_writer_num.lp2 fu l2_0 l2_1 n_ (w64 (l2_2 + 1)) (TWriter.mk (l2_3.b ++ r6_1)))
   (some l2_3)
def save_writer_num.lp2_post (l2_0 : List Int) (l2_1 : Int) (r_ : TWriter) : Wy → St → Prop := fun e τ => match r_ with
  | y0 => e = .exit 0 ∧ τ = ofL [Ob 1000 [sO 1 e_u8 y0.b]]
theorem save_writer_num.lp2_ok (fu : Nat) (l2_0 : List Int) (l2_1 : Int) : ∀ (n_ : Nat) (l2_2 : Int) (l2_3 : TWriter) (r_ : TWriter), save_writer_num.lp2 fu l2_0 l2_1 n_ l2_2 l2_3 = some r_ → WK Try.prog save_writer_num.O (Ck Try.prog) (cB (cR bd30)) [] (ofL [Tm 0 (.ptr 1000 0), Tm 6 (sS 1 e_i64 l2_0), Tm 7 (iv l2_1), Tm 8 (iv l2_2), Ob 1000 [sO 1 e_u8 l2_3.b]]) (save_writer_num.lp2_post l2_0 l2_1 r_) := by
 intro n_
 induction n_ with
 | zero => intro l2_2 l2_3 r_ h; exact no_none h
 | succ n_ ih =>
  intro l2_2 l2_3 r_ h
  refine kLp ?_
  refine kRs 31 [Tm 9 (bv (decide (l2_2 < l2_1)))] [] .n ?_
  refine kSq ?_
  rcases br_inv h with ⟨b4_0, h⟩ | ⟨b4_0, h⟩
  ·refine kCt b4_0 ?_
   refine kSk ?_
   refine kCd (cR (cR (cB (cB (cR bd30))))) [.lp (cB (cR bd30))] ?_
   refine kSq ?_
   refine kBk 1 ?_
   obtain ⟨x5_1, a5_2, e5_3, h⟩ := ix_inv h
   refine kRs 62 [Tm 5 (iv x5_1)] [.c (e_i64 x5_1)] (.c (c_ix (e := e_i64) a5_2 e5_3) (.c (c_el (e := e_i64) e5_3) .n)) ?_
   obtain ⟨r6_1, h6_2, h⟩ := bd_inv h
   obtain ⟨c6_3, h⟩ := gd_inv h
   refine kRc 30 [Ob 1000 [sO 1 e_u8 (l2_3.b ++ r6_1)]] [.a ⟨sO 1 e_u8 r6_1, []⟩, .s (.t 19) [sO 1 e_u8 (l2_3.b ++ r6_1)]] (.c (Asks.of (C := Meets Try.prog) (num_Put.meets fu x5_1 _ h6_2)) (.c (c_al (e := e_u8) (f := e_u8) c6_3) (.c (congrArg (fun d : DV => [AV.data d]) (c_app (e := e_u8) (s := 1) (l := l2_3.b) (m := r6_1))) (.c rT .n)))) (cR (cR (cR (cB (cB (cR bd30)))))) [.lp (cB (cR bd30))] ?_
   refine kRc 15 [Tm 8 (iv (w64 (l2_2 + 1)))] [] .n (cB (cR bd30)) [] ?_
   exact kWk (ih (w64 (l2_2 + 1)) (TWriter.mk (l2_3.b ++ r6_1)) _ h)
  ·refine kCe b4_0 ?_
   cases some_inj h
   refine kWo ?_
   refine kXt 0 ?_
   exact kOut
def save_writer_num (fu : Nat) (l : List Int) (o0_v : TWriter) : Option TWriter :=
 bd (save_writer_num.lp2 fu l (l.length : Int) fu 0 o0_v) fun y8_0 =>
 some y8_0
theorem save_writer_num.meets (fu : Nat) (l : List Int) (o0_v : TWriter) (z0 : TWriter) (h : save_writer_num fu l o0_v = some z0) : Meets Try.prog ⟨30, [.ptr 1000 0, sS 1 e_i64 l], [[sO 1 e_u8 o0_v.b]]⟩ ⟨.tup [], [[sO 1 e_u8 z0.b]]⟩ := by
 refine kMt hmix save_writer_num.O Try.f30 bd30 7 ?_
 unfold save_writer_num at h
 refine kRs 5 [Tm 6 (sS 1 e_i64 l), Tm 7 (iv (l.length : Int)), Tm 8 (iv 0)] [.s (.t 7) [iv (l.length : Int)]] (.c (c_len (e := e_i64) (l := l)) .n) ?_
 refine kBk 0 ?_
 obtain ⟨o8, ho8, h⟩ := bd_inv h
 refine kUs (save_writer_num.lp2_ok fu l (l.length : Int) _ 0 o0_v _ ho8) ?_
 intro e_ τ_ hp_
 obtain ⟨y8_0, rfl⟩ : ∃ y, y = o8 := ⟨_, rfl⟩
 obtain ⟨rfl, rfl⟩ := hp_
 have h_ := some_inj h
 subst h_
 exact kFn
def bd54 : Code := (Try.f54.body).getD .skip
def num_PutText.O : Nat → Nat := fun t => bif ([2] : List Nat).any (Nat.beq t) then 1 else 0
def num_PutText (fu : Nat) (s : ByteArray) : Option (List Int) :=
 br (decide ((s.size : Int) > 255))
  (some [])
  (bd (num_Put fu (s.size : Int)) fun r5_1 =>
  gd (decide (r5_1.length + s.size ≤ 4294967296)) <|
  some (r5_1 ++ (bytesL s)))
theorem num_PutText.meets (fu : Nat) (s : ByteArray) (z0 : List Int) (h : num_PutText fu s = some z0) : Meets Try.prog ⟨54, [sv s], []⟩ ⟨sO 1 e_u8 z0, []⟩ := by
 refine kMt hmix num_PutText.O Try.f54 bd54 1 ?_
 unfold num_PutText at h
 refine kRs 1 [] [] .n ?_
 refine kSq ?_
 refine kRs 1 [Tm 5 (bv (decide ((s.size : Int) > 255)))] [] .n ?_
 rcases br_inv h with ⟨b3_0, h⟩ | ⟨b3_0, h⟩
 ·refine kCt b3_0 ?_
  refine kRs 0 [Tm 2 (.data (.slc true (some true) 1 (List.map e_u8 [])))] [] .n ?_
  refine kWd 0 [Tm 2 (.data (.slc true none 1 (List.map e_u8 [])))] ?_
  refine kRt ?_
  have h_ := some_inj h
  subst h_
  exact kFr
 ·refine kCe b3_0 ?_
  refine kSk ?_
  refine kCd (cR (cR bd54)) [] ?_
  obtain ⟨r5_1, h5_2, h⟩ := bd_inv h
  obtain ⟨c5_3, h⟩ := gd_inv h
  refine kRs 0 [Tm 2 (sO 1 e_u8 (r5_1 ++ (bytesL s)))] [.a ⟨sO 1 e_u8 r5_1, []⟩, .s (.t 10) [sO 1 e_u8 (r5_1 ++ (bytesL s))]] (.c (Asks.of (C := Meets Try.prog) (num_Put.meets fu (s.size : Int) _ h5_2)) (.c (c_als (e := e_u8) c5_3) (.c (congrArg (fun d : DV => [AV.data d]) (c_apps (l := r5_1) (u := s))) .n))) ?_
  refine kRt ?_
  have h_ := some_inj h
  subst h_
  exact kFr
def bd31 : Code := (Try.f31.body).getD .skip
def save_writer_text.O : Nat → Nat := fun t => bif ([11] : List Nat).any (Nat.beq t) then 1 else 0
def save_writer_text (fu : Nat) (s : ByteArray) (o0_v : TWriter) : Option TWriter :=
 bd (num_PutText fu s) fun r1_1 =>
 gd (decide (o0_v.b.length + r1_1.length ≤ 4294967296)) <|
 some (TWriter.mk (o0_v.b ++ r1_1))
theorem save_writer_text.meets (fu : Nat) (s : ByteArray) (o0_v : TWriter) (z0 : TWriter) (h : save_writer_text fu s o0_v = some z0) : Meets Try.prog ⟨31, [.ptr 1000 0, sv s], [[sO 1 e_u8 o0_v.b]]⟩ ⟨.tup [], [[sO 1 e_u8 z0.b]]⟩ := by
 refine kMt hmix save_writer_text.O Try.f31 bd31 7 ?_
 unfold save_writer_text at h
 obtain ⟨r1_1, h1_2, h⟩ := bd_inv h
 obtain ⟨c1_3, h⟩ := gd_inv h
 have h_ := some_inj h
 subst h_
 exact kRf [.a ⟨sO 1 e_u8 r1_1, []⟩, .s (.t 11) [sO 1 e_u8 (o0_v.b ++ r1_1)]] (.c (Asks.of (C := Meets Try.prog) (num_PutText.meets fu s _ h1_2)) (.c (c_al (e := e_u8) (f := e_u8) c1_3) (.c (congrArg (fun d : DV => [AV.data d]) (c_app (e := e_u8) (s := 1) (l := o0_v.b) (m := r1_1))) (.c rT .n))))
def bd32 : Code := (Try.f32.body).getD .skip
def save_writer_version.O : Nat → Nat := fun t => bif ([3, 4, 11] : List Nat).any (Nat.beq t) then 1 else 0
def save_writer_version (fu : Nat) (v : TVersion) (o0_v : TWriter) : Option TWriter :=
 jn (fun (j6_0 : Int) =>
  bd (save_writer_num fu ([v.Pos, j6_0] : List Int) o0_v) fun r7_1 =>
  bd (save_writer_text fu v.Val r7_1) fun r8_1 =>
  some r8_1) fun k6 =>
 br v.Gone
  (k6 1)
  (k6 0)
theorem save_writer_version.meets (fu : Nat) (v : TVersion) (o0_v : TWriter) (z0 : TWriter) (h : save_writer_version fu v o0_v = some z0) : Meets Try.prog ⟨32, [.ptr 1000 0, .data (TVersion.ag v)], [[sO 1 e_u8 o0_v.b]]⟩ ⟨.tup [], [[sO 1 e_u8 z0.b]]⟩ := by
 refine kMt hmix save_writer_version.O Try.f32 bd32 7 ?_
 unfold save_writer_version at h
 refine kRs 5 [Tm 3 (.ptr 3 0), Ob 3 (TVersion.ob v)] [] .n ?_
 refine kRs 15 [Tm 4 (iv 0)] [] .n ?_
 obtain ⟨k6, hk6, h⟩ := jn_inv h
 have Jk6 : ∀ (j6_0 : Int), k6 j6_0 = some z0 → WK Try.prog save_writer_version.O (Ck Try.prog) (cR (cR (cR bd32))) [] (ofL [Tm 0 (.ptr 1000 0), Tm 3 (.ptr 3 0), Tm 4 (iv j6_0), Ob 3 (TVersion.ob v), Ob 1000 [sO 1 e_u8 o0_v.b]]) (Fin Try.prog save_writer_version.O Try.f32 1 ⟨.tup [], [[sO 1 e_u8 z0.b]]⟩) := by
  intro j6_0 h
  rw [hk6] at h
  obtain ⟨r7_1, h7_2, h⟩ := bd_inv h
  refine kRs 11 [Ob 1000 [sO 1 e_u8 r7_1.b]] [.a ⟨.tup [], [[sO 1 e_u8 r7_1.b]]⟩] (.c (Asks.fg (args1 := [.ptr 1000 0]) (args2 := []) (nl := some false) (sz := 1) (es := List.map e_i64 ([v.Pos, j6_0] : List Int)) (Asks.of (C := Meets Try.prog) (save_writer_num.meets fu ([v.Pos, j6_0] : List Int) o0_v _ h7_2))) .n) ?_
  obtain ⟨r8_1, h8_2, h⟩ := bd_inv h
  have h_ := some_inj h
  subst h_
  exact kRf [.a ⟨.tup [], [[sO 1 e_u8 r8_1.b]]⟩] (.c (Asks.of (C := Meets Try.prog) (save_writer_text.meets fu v.Val r7_1 _ h8_2)) .n)
 clear hk6
 refine kSq ?_
 refine kRs 31 [Tm 6 (bv v.Gone)] [] .n ?_
 rcases br_inv h with ⟨b4_0, h⟩ | ⟨b4_0, h⟩
 ·refine kCt b4_0 ?_
  refine kRc 60 [Tm 4 (iv 1)] [] .n (cR (cR (cR bd32))) [] ?_
  exact kWk (Jk6 1 h)
 ·refine kCe b4_0 ?_
  refine kSk ?_
  refine kCd (cR (cR (cR bd32))) [] ?_
  exact kWk (Jk6 0 h)
def bd12 : Code := (Try.f12.body).getD .skip
def save_Put.O : Nat → Nat := fun t => bif ([1, 2, 3, 5, 7, 9, 13, 14, 29, 47, 65, 81] : List Nat).any (Nat.beq t) then 1 else 0
def save_Put.lp15 (fu : Nat) (l15_0 : List TChain) (l15_1 : Int) (l15_2 : Int) (l15_3 : List TVersion) (l15_4 : Int) (l15_6 : TShard) : Nat → Int → TWriter → Option TWriter
  | 0, _, _ => none
  | n_ + 1, l15_5, l15_7 =>
  br (decide (l15_5 < l15_4))
   (ix l15_3 l15_5 fun x18_1 =>
   bd (save_writer_version fu x18_1 l15_7) fun r19_1 =>
   save_Put.lp15 fu l15_0 l15_1 l15_2 l15_3 l15_4 l15_6 n_ (w64 (l15_5 + 1)) r19_1)
   (some l15_7)
def save_Put.lp15_post (l15_0 : List TChain) (l15_1 : Int) (l15_2 : Int) (l15_3 : List TVersion) (l15_4 : Int) (l15_6 : TShard) (r_ : TWriter) : Wy → St → Prop := fun e τ => match r_ with
  | y0 => e = .exit 2 ∧ τ = ofL [Tm 1 (.ptr 1 0), Tm 3 (.ptr 14 0), Tm 33 (sS 2 TChain.en l15_0), Tm 34 (iv l15_1), Tm 35 (iv l15_2), Ob 1 (TShard.ob l15_6), Ob 14 [sO 1 e_u8 y0.b]]
theorem save_Put.lp15_ok (fu : Nat) (l15_0 : List TChain) (l15_1 : Int) (l15_2 : Int) (l15_3 : List TVersion) (l15_4 : Int) (l15_6 : TShard) : ∀ (n_ : Nat) (l15_5 : Int) (l15_7 : TWriter) (r_ : TWriter), save_Put.lp15 fu l15_0 l15_1 l15_2 l15_3 l15_4 l15_6 n_ l15_5 l15_7 = some r_ → WK Try.prog save_Put.O (Ck Try.prog) (cB (cR (cR (cR (cR (cB (cL (cR (cR (cB (cB (cR (cL (cR (cR (cR (cR bd12))))))))))))))))) [] (ofL [Tm 1 (.ptr 1 0), Tm 3 (.ptr 14 0), Tm 33 (sS 2 TChain.en l15_0), Tm 34 (iv l15_1), Tm 35 (iv l15_2), Tm 50 (sS 3 TVersion.en l15_3), Tm 51 (iv l15_4), Tm 52 (iv l15_5), Ob 1 (TShard.ob l15_6), Ob 14 [sO 1 e_u8 l15_7.b]]) (save_Put.lp15_post l15_0 l15_1 l15_2 l15_3 l15_4 l15_6 r_) := by
 intro n_
 induction n_ with
 | zero => intro l15_5 l15_7 r_ h; exact no_none h
 | succ n_ ih =>
  intro l15_5 l15_7 r_ h
  refine kLp ?_
  refine kRs 1023 [Tm 53 (bv (decide (l15_5 < l15_4)))] [] .n ?_
  refine kSq ?_
  rcases br_inv h with ⟨b17_0, h⟩ | ⟨b17_0, h⟩
  ·refine kCt b17_0 ?_
   refine kSk ?_
   refine kCd (cR (cR (cB (cB (cR (cR (cR (cR (cB (cL (cR (cR (cB (cB (cR (cL (cR (cR (cR (cR bd12)))))))))))))))))))) [.lp (cB (cR (cR (cR (cR (cB (cL (cR (cR (cB (cB (cR (cL (cR (cR (cR (cR bd12)))))))))))))))))] ?_
   refine kSq ?_
   refine kBk 3 ?_
   obtain ⟨x18_1, a18_2, e18_3, h⟩ := ix_inv h
   refine kRs 2046 [Tm 7 (.ptr 7 0), Ob 7 (TVersion.ob x18_1)] [.c (TVersion.en x18_1)] (.c (c_ix (e := TVersion.en) a18_2 e18_3) (.c (c_el (e := TVersion.en) e18_3) .n)) ?_
   obtain ⟨r19_1, h19_2, h⟩ := bd_inv h
   refine kRc 2044 [Ob 14 [sO 1 e_u8 r19_1.b]] [.a ⟨.tup [], [[sO 1 e_u8 r19_1.b]]⟩] (.c (Asks.of (C := Meets Try.prog) (save_writer_version.meets fu x18_1 l15_7 _ h19_2)) .n) (cR (cR (cR (cB (cB (cR (cR (cR (cR (cB (cL (cR (cR (cB (cB (cR (cL (cR (cR (cR (cR bd12))))))))))))))))))))) [.lp (cB (cR (cR (cR (cR (cB (cL (cR (cR (cB (cB (cR (cL (cR (cR (cR (cR bd12)))))))))))))))))] ?_
   refine kRc 767 [Tm 52 (iv (w64 (l15_5 + 1)))] [] .n (cB (cR (cR (cR (cR (cB (cL (cR (cR (cB (cB (cR (cL (cR (cR (cR (cR bd12))))))))))))))))) [] ?_
   exact kWk (ih (w64 (l15_5 + 1)) r19_1 _ h)
  ·refine kCe b17_0 ?_
   cases some_inj h
   refine kWo ?_
   refine kXt 2 ?_
   exact kOut
def save_Put.lp8 (fu : Nat) (l8_0 : List TChain) (l8_1 : Int) (l8_3 : TShard) : Nat → Int → TWriter → Option TWriter
  | 0, _, _ => none
  | n_ + 1, l8_2, l8_4 =>
  br (decide (l8_2 < l8_1))
   (ix l8_0 l8_2 fun x11_1 =>
   bd (save_writer_text fu x11_1.Key l8_4) fun r12_1 =>
   bd (save_writer_num fu ([(x11_1.L.length : Int)] : List Int) r12_1) fun r13_1 =>
   bd (save_Put.lp15 fu l8_0 l8_1 l8_2 x11_1.L (x11_1.L.length : Int) l8_3 fu 0 r13_1) fun y21_0 =>
   save_Put.lp8 fu l8_0 l8_1 l8_3 n_ (w64 (l8_2 + 1)) y21_0)
   (some l8_4)
def save_Put.lp8_post (l8_0 : List TChain) (l8_1 : Int) (l8_3 : TShard) (r_ : TWriter) : Wy → St → Prop := fun e τ => match r_ with
  | y0 => e = .exit 0 ∧ τ = ofL [Tm 1 (.ptr 1 0), Tm 3 (.ptr 14 0), Ob 1 (TShard.ob l8_3), Ob 14 [sO 1 e_u8 y0.b]]
theorem save_Put.lp8_ok (fu : Nat) (l8_0 : List TChain) (l8_1 : Int) (l8_3 : TShard) : ∀ (n_ : Nat) (l8_2 : Int) (l8_4 : TWriter) (r_ : TWriter), save_Put.lp8 fu l8_0 l8_1 l8_3 n_ l8_2 l8_4 = some r_ → WK Try.prog save_Put.O (Ck Try.prog) (cB (cR (cL (cR (cR (cR (cR bd12))))))) [] (ofL [Tm 1 (.ptr 1 0), Tm 3 (.ptr 14 0), Tm 33 (sS 2 TChain.en l8_0), Tm 34 (iv l8_1), Tm 35 (iv l8_2), Ob 1 (TShard.ob l8_3), Ob 14 [sO 1 e_u8 l8_4.b]]) (save_Put.lp8_post l8_0 l8_1 l8_3 r_) := by
 intro n_
 induction n_ with
 | zero => intro l8_2 l8_4 r_ h; exact no_none h
 | succ n_ ih =>
  intro l8_2 l8_4 r_ h
  refine kLp ?_
  refine kRs 127 [Tm 36 (bv (decide (l8_2 < l8_1)))] [] .n ?_
  refine kSq ?_
  rcases br_inv h with ⟨b10_0, h⟩ | ⟨b10_0, h⟩
  ·refine kCt b10_0 ?_
   refine kSk ?_
   refine kCd (cR (cR (cB (cB (cR (cL (cR (cR (cR (cR bd12)))))))))) [.lp (cB (cR (cL (cR (cR (cR (cR bd12)))))))] ?_
   refine kSq ?_
   refine kBk 1 ?_
   obtain ⟨x11_1, a11_2, e11_3, h⟩ := ix_inv h
   refine kRs 254 [Tm 5 (.ptr 5 0), Ob 5 [sv x11_1.Key, sS 3 TVersion.en x11_1.L]] [.c (TChain.en x11_1)] (.c (c_ix (e := TChain.en) a11_2 e11_3) (.c (c_el (e := TChain.en) e11_3) .n)) ?_
   obtain ⟨r12_1, h12_2, h⟩ := bd_inv h
   refine kRs 255 [Ob 14 [sO 1 e_u8 r12_1.b]] [.a ⟨.tup [], [[sO 1 e_u8 r12_1.b]]⟩] (.c (Asks.of (C := Meets Try.prog) (save_writer_text.meets fu x11_1.Key l8_4 _ h12_2)) .n) ?_
   obtain ⟨r13_1, h13_2, h⟩ := bd_inv h
   refine kRs 510 [Ob 14 [sO 1 e_u8 r13_1.b]] [.s (.t 46) [iv (x11_1.L.length : Int)], .a ⟨.tup [], [[sO 1 e_u8 r13_1.b]]⟩] (.c (c_len (e := TVersion.en) (l := x11_1.L)) (.c (Asks.fg (args1 := [.ptr 1000 0]) (args2 := []) (nl := some false) (sz := 1) (es := List.map e_i64 ([(x11_1.L.length : Int)] : List Int)) (Asks.of (C := Meets Try.prog) (save_writer_num.meets fu ([(x11_1.L.length : Int)] : List Int) r12_1 _ h13_2))) .n)) ?_
   refine kRs 505 [Tm 50 (sS 3 TVersion.en x11_1.L), Tm 51 (iv (x11_1.L.length : Int)), Tm 52 (iv 0)] [.s (.t 51) [iv (x11_1.L.length : Int)]] (.c (c_len (e := TVersion.en) (l := x11_1.L)) .n) ?_
   refine kBk 2 ?_
   obtain ⟨o21, ho21, h⟩ := bd_inv h
   refine kUs (save_Put.lp15_ok fu l8_0 l8_1 l8_2 x11_1.L (x11_1.L.length : Int) l8_3 _ 0 r13_1 _ ho21) ?_
   intro e_ τ_ hp_
   obtain ⟨y21_0, rfl⟩ : ∃ y, y = o21 := ⟨_, rfl⟩
   obtain ⟨rfl, rfl⟩ := hp_
   refine kCd (cR (cR (cR (cB (cB (cR (cL (cR (cR (cR (cR bd12))))))))))) [.lp (cB (cR (cL (cR (cR (cR (cR bd12)))))))] ?_
   refine kRc 111 [Tm 35 (iv (w64 (l8_2 + 1)))] [] .n (cB (cR (cL (cR (cR (cR (cR bd12))))))) [] ?_
   exact kWk (ih (w64 (l8_2 + 1)) y21_0 _ h)
  ·refine kCe b10_0 ?_
   cases some_inj h
   refine kWo ?_
   refine kXt 0 ?_
   exact kOut
def save_Put.lp26 (fu : Nat) (l26_0 : List TSeat) (l26_1 : Int) (l26_3 : TShard) : Nat → Int → TWriter → Option TWriter
  | 0, _, _ => none
  | n_ + 1, l26_2, l26_4 =>
  br (decide (l26_2 < l26_1))
   (ix l26_0 l26_2 fun x29_1 =>
   bd (save_writer_num fu ([x29_1.Session, x29_1.Seq, x29_1.Pos] : List Int) l26_4) fun r30_1 =>
   save_Put.lp26 fu l26_0 l26_1 l26_3 n_ (w64 (l26_2 + 1)) r30_1)
   (some l26_4)
def save_Put.lp26_post (l26_0 : List TSeat) (l26_1 : Int) (l26_3 : TShard) (r_ : TWriter) : Wy → St → Prop := fun e τ => match r_ with
  | y0 => e = .exit 4 ∧ τ = ofL [Tm 1 (.ptr 1 0), Tm 3 (.ptr 14 0), Ob 1 (TShard.ob l26_3), Ob 14 [sO 1 e_u8 y0.b]]
theorem save_Put.lp26_ok (fu : Nat) (l26_0 : List TSeat) (l26_1 : Int) (l26_3 : TShard) : ∀ (n_ : Nat) (l26_2 : Int) (l26_4 : TWriter) (r_ : TWriter), save_Put.lp26 fu l26_0 l26_1 l26_3 n_ l26_2 l26_4 = some r_ → WK Try.prog save_Put.O (Ck Try.prog) (cB (cR (cL (cR (cR (cR (cR (cR (cR bd12))))))))) [] (ofL [Tm 1 (.ptr 1 0), Tm 3 (.ptr 14 0), Tm 68 (sS 3 TSeat.en l26_0), Tm 69 (iv l26_1), Tm 70 (iv l26_2), Ob 1 (TShard.ob l26_3), Ob 14 [sO 1 e_u8 l26_4.b]]) (save_Put.lp26_post l26_0 l26_1 l26_3 r_) := by
 intro n_
 induction n_ with
 | zero => intro l26_2 l26_4 r_ h; exact no_none h
 | succ n_ ih =>
  intro l26_2 l26_4 r_ h
  refine kLp ?_
  refine kRs 127 [Tm 71 (bv (decide (l26_2 < l26_1)))] [] .n ?_
  refine kSq ?_
  rcases br_inv h with ⟨b28_0, h⟩ | ⟨b28_0, h⟩
  ·refine kCt b28_0 ?_
   refine kSk ?_
   refine kCd (cR (cR (cB (cB (cR (cL (cR (cR (cR (cR (cR (cR bd12)))))))))))) [.lp (cB (cR (cL (cR (cR (cR (cR (cR (cR bd12)))))))))] ?_
   refine kSq ?_
   refine kBk 5 ?_
   obtain ⟨x29_1, a29_2, e29_3, h⟩ := ix_inv h
   refine kRs 254 [Tm 9 (.ptr 9 0), Ob 9 (TSeat.ob x29_1)] [.c (TSeat.en x29_1)] (.c (c_ix (e := TSeat.en) a29_2 e29_3) (.c (c_el (e := TSeat.en) e29_3) .n)) ?_
   obtain ⟨r30_1, h30_2, h⟩ := bd_inv h
   refine kRc 252 [Ob 14 [sO 1 e_u8 r30_1.b]] [.a ⟨.tup [], [[sO 1 e_u8 r30_1.b]]⟩] (.c (Asks.fg (args1 := [.ptr 1000 0]) (args2 := []) (nl := some false) (sz := 1) (es := List.map e_i64 ([x29_1.Session, x29_1.Seq, x29_1.Pos] : List Int)) (Asks.of (C := Meets Try.prog) (save_writer_num.meets fu ([x29_1.Session, x29_1.Seq, x29_1.Pos] : List Int) l26_4 _ h30_2))) .n) (cR (cR (cR (cB (cB (cR (cL (cR (cR (cR (cR (cR (cR bd12))))))))))))) [.lp (cB (cR (cL (cR (cR (cR (cR (cR (cR bd12)))))))))] ?_
   refine kRc 95 [Tm 70 (iv (w64 (l26_2 + 1)))] [] .n (cB (cR (cL (cR (cR (cR (cR (cR (cR bd12))))))))) [] ?_
   exact kWk (ih (w64 (l26_2 + 1)) r30_1 _ h)
  ·refine kCe b28_0 ?_
   cases some_inj h
   refine kWo ?_
   refine kXt 4 ?_
   exact kOut
def save_Put (fu : Nat) (s : TShard) : Option (List Int) :=
 bd (shard_May fu s) fun r2_1 =>
 br (!r2_1)
  (some [])
  (bd (save_writer_num fu ([s.ID, s.Shards, s.Done, s.S.Mark, (s.S.Chains.length : Int)] : List Int) (TWriter.mk [])) fun r6_1 =>
  bd (save_Put.lp8 fu s.S.Chains (s.S.Chains.length : Int) s fu 0 r6_1) fun y23_0 =>
  bd (save_writer_num fu ([(s.Seats.length : Int)] : List Int) y23_0) fun r24_1 =>
  bd (save_Put.lp26 fu s.Seats (s.Seats.length : Int) s fu 0 r24_1) fun y32_0 =>
  bd (save_writer_num fu s.Bits y32_0) fun r33_1 =>
  bd (save_writer_num fu s.Said r33_1) fun r34_1 =>
  gd (!r34_1.b.isEmpty) <|
  some r34_1.b)
theorem save_Put.meets (fu : Nat) (s : TShard) (z0 : List Int) (h : save_Put fu s = some z0) : Meets Try.prog ⟨12, [.data (TShard.ag s)], []⟩ ⟨.data (.slc true (some z0.isEmpty) 1 (List.map e_u8 z0)), []⟩ := by
 refine kMt hmix save_Put.O Try.f12 bd12 1 ?_
 unfold save_Put at h
 refine kRs 0 [Tm 1 (.ptr 1 0), Ob 1 (TShard.ob s)] [] .n ?_
 refine kSq ?_
 obtain ⟨r2_1, h2_2, h⟩ := bd_inv h
 refine kRs 3 [Tm 12 (bv (!r2_1))] [.a ⟨bv r2_1, []⟩] (.c (Asks.of (C := Meets Try.prog) (shard_May.meets fu s _ h2_2)) .n) ?_
 rcases br_inv h with ⟨b3_0, h⟩ | ⟨b3_0, h⟩
 ·refine kCt b3_0 ?_
  refine kRs 0 [Tm 2 (.data (.slc true (some true) 1 (List.map e_u8 [])))] [] .n ?_
  refine kRt ?_
  have h_ := some_inj h
  subst h_
  exact kFr
 ·refine kCe b3_0 ?_
  refine kSk ?_
  refine kCd (cR (cR bd12)) [] ?_
  refine kRs 6 [Tm 3 (.ptr 14 0), Ob 14 [.data (.slc true none 1 (List.map e_u8 []))]] [] .n ?_
  obtain ⟨r6_1, h6_2, h⟩ := bd_inv h
  refine kRs 13 [Ob 14 [sO 1 e_u8 r6_1.b]] [.s (.t 28) [iv (s.S.Chains.length : Int)], .a ⟨.tup [], [[sO 1 e_u8 r6_1.b]]⟩] (.c (c_len (e := TChain.en) (l := s.S.Chains)) (.c (Asks.fg (args1 := [.ptr 1000 0]) (args2 := []) (nl := some false) (sz := 1) (es := List.map e_i64 ([s.ID, s.Shards, s.Done, s.S.Mark, (s.S.Chains.length : Int)] : List Int)) (Asks.of (C := Meets Try.prog) (save_writer_num.meets fu ([s.ID, s.Shards, s.Done, s.S.Mark, (s.S.Chains.length : Int)] : List Int) (TWriter.mk []) _ h6_2))) .n)) ?_
  refine kSq ?_
  refine kRs 15 [Tm 33 (sS 2 TChain.en s.S.Chains), Tm 34 (iv (s.S.Chains.length : Int)), Tm 35 (iv 0)] [.s (.t 34) [iv (s.S.Chains.length : Int)]] (.c (c_len (e := TChain.en) (l := s.S.Chains)) .n) ?_
  refine kBk 0 ?_
  obtain ⟨o23, ho23, h⟩ := bd_inv h
  refine kUs (save_Put.lp8_ok fu s.S.Chains (s.S.Chains.length : Int) s _ 0 r6_1 _ ho23) ?_
  intro e_ τ_ hp_
  obtain ⟨y23_0, rfl⟩ : ∃ y, y = o23 := ⟨_, rfl⟩
  obtain ⟨rfl, rfl⟩ := hp_
  refine kCd (cR (cR (cR (cR (cR bd12))))) [] ?_
  obtain ⟨r24_1, h24_2, h⟩ := bd_inv h
  refine kRs 7 [Ob 14 [sO 1 e_u8 r24_1.b]] [.s (.t 64) [iv (s.Seats.length : Int)], .a ⟨.tup [], [[sO 1 e_u8 r24_1.b]]⟩] (.c (c_len (e := TSeat.en) (l := s.Seats)) (.c (Asks.fg (args1 := [.ptr 1000 0]) (args2 := []) (nl := some false) (sz := 1) (es := List.map e_i64 ([(s.Seats.length : Int)] : List Int)) (Asks.of (C := Meets Try.prog) (save_writer_num.meets fu ([(s.Seats.length : Int)] : List Int) y23_0 _ h24_2))) .n)) ?_
  refine kSq ?_
  refine kRs 15 [Tm 68 (sS 3 TSeat.en s.Seats), Tm 69 (iv (s.Seats.length : Int)), Tm 70 (iv 0)] [.s (.t 69) [iv (s.Seats.length : Int)]] (.c (c_len (e := TSeat.en) (l := s.Seats)) .n) ?_
  refine kBk 4 ?_
  obtain ⟨o32, ho32, h⟩ := bd_inv h
  refine kUs (save_Put.lp26_ok fu s.Seats (s.Seats.length : Int) s _ 0 r24_1 _ ho32) ?_
  intro e_ τ_ hp_
  obtain ⟨y32_0, rfl⟩ : ∃ y, y = o32 := ⟨_, rfl⟩
  obtain ⟨rfl, rfl⟩ := hp_
  refine kCd (cR (cR (cR (cR (cR (cR (cR bd12))))))) [] ?_
  obtain ⟨r33_1, h33_2, h⟩ := bd_inv h
  refine kRs 7 [Ob 14 [sO 1 e_u8 r33_1.b]] [.a ⟨.tup [], [[sO 1 e_u8 r33_1.b]]⟩] (.c (Asks.of (C := Meets Try.prog) (save_writer_num.meets fu s.Bits y32_0 _ h33_2)) .n) ?_
  obtain ⟨r34_1, h34_2, h⟩ := bd_inv h
  refine kRs 4 [Ob 14 [sO 1 e_u8 r34_1.b]] [.a ⟨.tup [], [[sO 1 e_u8 r34_1.b]]⟩] (.c (Asks.of (C := Meets Try.prog) (save_writer_num.meets fu s.Said r33_1 _ h34_2)) .n) ?_
  refine kRs 0 [Tm 2 (sO 1 e_u8 r34_1.b)] [] .n ?_
  obtain ⟨c_nil1, h⟩ := gd_inv h
  refine WK.nilk (t := 2) (sz := 1) (own := true) (en := e_u8) (L := r34_1.b) (l' := [Tm 2 (.data (.slc true (some r34_1.b.isEmpty) 1 (List.map e_u8 r34_1.b)))]) (by kernel_rfl) c_nil1 (wk_of (by kernel_rfl)) ?_
  refine kRt ?_
  have h_ := some_inj h
  subst h_
  exact kFr
def bd63 : Code := (Try.f63.body).getD .skip
def num_result.O : Nat → Nat := fun t => bif ([6, 7, 8] : List Nat).any (Nat.beq t) then 1 else 0
def num_result (v : Int) (n_v : Int) (ok : Bool) : Option (Int × Int × Bool) :=
 br (!ok)
  (some (0, 0, false))
  (some (v, n_v, true))
theorem num_result.meets (v : Int) (n_v : Int) (ok : Bool) (z0 : Int) (z1 : Int) (z2 : Bool) (h : num_result v n_v ok = some (z0, z1, z2)) : Meets Try.prog ⟨63, [iv v, iv n_v, bv ok], []⟩ ⟨.tup [iv z0, iv z1, bv z2], []⟩ := by
 refine kMt hmix num_result.O Try.f63 bd63 7 ?_
 unfold num_result at h
 refine kRs 7 [] [] .n ?_
 refine kSq ?_
 refine kRs 3 [Tm 10 (bv (!ok))] [] .n ?_
 rcases br_inv h with ⟨b3_0, h⟩ | ⟨b3_0, h⟩
 ·refine kCt b3_0 ?_
  refine kRs 0 [Tm 6 (iv 0), Tm 7 (iv 0), Tm 8 (bv false)] [] .n ?_
  refine kRt ?_
  have h_0 := some_inj h
  obtain ⟨g_1, h_1⟩ := Prod.mk.inj h_0
  obtain ⟨g_2, h_2⟩ := Prod.mk.inj h_1
  subst g_1
  subst g_2
  subst h_2
  exact kFr
 ·refine kCe b3_0 ?_
  refine kSk ?_
  refine kCd (cR (cR bd63)) [] ?_
  refine kRs 0 [Tm 6 (iv v), Tm 7 (iv n_v), Tm 8 (bv true)] [] .n ?_
  refine kRt ?_
  have h_0 := some_inj h
  obtain ⟨g_1, h_1⟩ := Prod.mk.inj h_0
  obtain ⟨g_2, h_2⟩ := Prod.mk.inj h_1
  subst g_1
  subst g_2
  subst h_2
  exact kFr
def bd37 : Code := (Try.f37.body).getD .skip
def num_Take.O : Nat → Nat := fun t => bif ([2, 3, 4, 5, 6, 11] : List Nat).any (Nat.beq t) then 1 else 0
def num_Take.lp3 (fu : Nat) (l3_1 : List Int) (l3_2 : Int) : Nat → Int → Int → Option (Unit ⊕ (Int × Int × Bool))
  | 0, _, _ => none
  | n_ + 1, l3_0, l3_3 =>
  br (decide (l3_3 < l3_2))
   (ix l3_1 l3_3 fun x6_1 =>
   gd (decide ((0 : Int) ≤ (w64 (7 * l3_3)))) <|
   br ((vand .u8 x6_1 128) == 0)
    (br (l3_3 == 0)
     (bd (num_result (vor .i64 l3_0 (vshl .i64 (w64 (vand .u8 x6_1 127)) (w64 (7 * l3_3)))) (w64 (l3_3 + 1)) true) fun (r10_2, r10_3, r10_4) =>
     some (.inr (r10_2, r10_3, r10_4)))
     (bd (num_result (vor .i64 l3_0 (vshl .i64 (w64 (vand .u8 x6_1 127)) (w64 (7 * l3_3)))) (w64 (l3_3 + 1)) (decide (x6_1 > 0))) fun (r10_2, r10_3, r10_4) =>
     some (.inr (r10_2, r10_3, r10_4))))
    (num_Take.lp3 fu l3_1 l3_2 n_ (vor .i64 l3_0 (vshl .i64 (w64 (vand .u8 x6_1 127)) (w64 (7 * l3_3)))) (w64 (l3_3 + 1))))
   (some (.inl ()))
def num_Take.lp3_post (l3_1 : List Int) (l3_2 : Int) (r_ : (Unit ⊕ (Int × Int × Bool))) : Wy → St → Prop := fun e τ => match r_ with
  | .inl _ => e = .exit 0 ∧ τ = ofL []
  | .inr (y0, y1, y2) => e = .ret ∧ τ = ofL [Tm 2 (iv y0), Tm 3 (iv y1), Tm 4 (bv y2)]
theorem num_Take.lp3_ok (fu : Nat) (l3_1 : List Int) (l3_2 : Int) : ∀ (n_ : Nat) (l3_0 : Int) (l3_3 : Int) (r_ : (Unit ⊕ (Int × Int × Bool))), num_Take.lp3 fu l3_1 l3_2 n_ l3_0 l3_3 = some r_ → WK Try.prog num_Take.O (Ck Try.prog) (cB (cR (cL (cR bd37)))) [] (ofL [Tm 2 (iv l3_0), Tm 11 (sS 1 e_u8 l3_1), Tm 12 (iv l3_2), Tm 13 (iv l3_3)]) (num_Take.lp3_post l3_1 l3_2 r_) := by
 intro n_
 induction n_ with
 | zero => intro l3_0 l3_3 r_ h; exact no_none h
 | succ n_ ih =>
  intro l3_0 l3_3 r_ h
  refine kLp ?_
  refine kRs 15 [Tm 14 (bv (decide (l3_3 < l3_2)))] [] .n ?_
  refine kSq ?_
  rcases br_inv h with ⟨b5_0, h⟩ | ⟨b5_0, h⟩
  ·refine kCt b5_0 ?_
   refine kSk ?_
   refine kCd (cR (cR (cB (cB (cR (cL (cR bd37))))))) [.lp (cB (cR (cL (cR bd37))))] ?_
   refine kSq ?_
   refine kBk 1 ?_
   obtain ⟨x6_1, a6_2, e6_3, h⟩ := ix_inv h
   refine kRs 30 [Tm 5 (iv l3_3), Tm 6 (.data (.val (.int .u8 x6_1)))] [.c (e_u8 x6_1)] (.c (c_ix (e := e_u8) a6_2 e6_3) (.c (c_el (e := e_u8) e6_3) .n)) ?_
   obtain ⟨c7_1, h⟩ := gd_inv h
   refine kRs 59 [Tm 2 (iv (vor .i64 l3_0 (vshl .i64 (w64 (vand .u8 x6_1 127)) (w64 (7 * l3_3)))))] [] (.c c7_1 .n) ?_
   refine kRs 63 [Tm 28 (bv ((vand .u8 x6_1 128) == 0))] [] .n ?_
   rcases br_inv h with ⟨b9_0, h⟩ | ⟨b9_0, h⟩
   ·refine kCt b9_0 ?_
    rcases br_inv h with ⟨b10_1, h⟩ | ⟨b10_1, h⟩
    ·obtain ⟨⟨r10_2, r10_3, r10_4⟩, h10_5, h⟩ := bd_inv h
     refine kRs 0 [Tm 2 (iv r10_2), Tm 3 (iv r10_3), Tm 4 (bv r10_4)] [.b true, .b true, .b true, .a ⟨.tup [iv r10_2, iv r10_3, bv r10_4], []⟩] (.r 3 b10_1 (.c (Asks.of (C := Meets Try.prog) (num_result.meets (vor .i64 l3_0 (vshl .i64 (w64 (vand .u8 x6_1 127)) (w64 (7 * l3_3)))) (w64 (l3_3 + 1)) true _ _ _ h10_5)) .n)) ?_
     cases some_inj h
     refine kWo ?_
     refine kRt ?_
     exact kOut
    ·obtain ⟨⟨r10_2, r10_3, r10_4⟩, h10_5, h⟩ := bd_inv h
     refine kRs 0 [Tm 2 (iv r10_2), Tm 3 (iv r10_3), Tm 4 (bv r10_4)] [.b false, .b false, .b false, .a ⟨.tup [iv r10_2, iv r10_3, bv r10_4], []⟩] (.r 3 b10_1 (.c (Asks.of (C := Meets Try.prog) (num_result.meets (vor .i64 l3_0 (vshl .i64 (w64 (vand .u8 x6_1 127)) (w64 (7 * l3_3)))) (w64 (l3_3 + 1)) (decide (x6_1 > 0)) _ _ _ h10_5)) .n)) ?_
     cases some_inj h
     refine kWo ?_
     refine kRt ?_
     exact kOut
   ·refine kCe b9_0 ?_
    refine kSk ?_
    refine kCd (cR (cR (cR (cB (cB (cR (cL (cR bd37)))))))) [.lp (cB (cR (cL (cR bd37))))] ?_
    refine kRc 50 [Tm 13 (iv (w64 (l3_3 + 1)))] [] .n (cB (cR (cL (cR bd37)))) [] ?_
    exact kWk (ih (vor .i64 l3_0 (vshl .i64 (w64 (vand .u8 x6_1 127)) (w64 (7 * l3_3)))) (w64 (l3_3 + 1)) _ h)
  ·refine kCe b5_0 ?_
   cases some_inj h
   refine kWo ?_
   refine kXt 0 ?_
   exact kOut
def num_Take (fu : Nat) (b : List Int) : Option (Int × Int × Bool) :=
 gd (decide ((0 : Int) ≤ (if (9 : Int) < (b.length : Int) then 9 else (b.length : Int)) ∧ (if (9 : Int) < (b.length : Int) then 9 else (b.length : Int)) ≤ (b.length : Int))) <|
 bd (num_Take.lp3 fu (List.take (if (9 : Int) < (b.length : Int) then 9 else (b.length : Int)).toNat b) ((List.take (if (9 : Int) < (b.length : Int) then 9 else (b.length : Int)).toNat b).length : Int) fu 0 0) fun o_ => (match o_ with
 | .inl _ =>
  some (0, 0, false)
 | .inr (y12_0, y12_1, y12_2) =>
  some (y12_0, y12_1, y12_2))
theorem num_Take.meets (fu : Nat) (b : List Int) (z0 : Int) (z1 : Int) (z2 : Bool) (h : num_Take fu b = some (z0, z1, z2)) : Meets Try.prog ⟨37, [sS 1 e_u8 b], []⟩ ⟨.tup [iv z0, iv z1, bv z2], []⟩ := by
 refine kMt hmix num_Take.O Try.f37 bd37 1 ?_
 unfold num_Take at h
 refine kRs 1 [Tm 2 (iv 0)] [] .n ?_
 refine kSq ?_
 obtain ⟨c2_1, h⟩ := gd_inv h
 refine kRs 1 [Tm 11 (sS 1 e_u8 (List.take (if (9 : Int) < (b.length : Int) then 9 else (b.length : Int)).toNat b)), Tm 12 (iv ((List.take (if (9 : Int) < (b.length : Int) then 9 else (b.length : Int)).toNat b).length : Int)), Tm 13 (iv 0)] [.s (.t 9) [iv (b.length : Int)], .s (.t 11) [sS 1 e_u8 (List.take (if (9 : Int) < (b.length : Int) then 9 else (b.length : Int)).toNat b)], .s (.t 12) [iv ((List.take (if (9 : Int) < (b.length : Int) then 9 else (b.length : Int)).toNat b).length : Int)]] (.c (c_len (e := e_u8) (l := b)) (.c (c_cbH (e := e_u8) c2_1) (.c (congrArg (fun d : DV => [AV.data d]) (c_cutH (own := false) (nl := none) (s := 1) (e := e_u8) (l := b) (h := (if (9 : Int) < (b.length : Int) then 9 else (b.length : Int)).toNat))) (.c (c_len (e := e_u8) (l := (List.take (if (9 : Int) < (b.length : Int) then 9 else (b.length : Int)).toNat b))) .n)))) ?_
 refine kBk 0 ?_
 obtain ⟨o12, ho12, h⟩ := bd_inv h
 refine kUs (num_Take.lp3_ok fu (List.take (if (9 : Int) < (b.length : Int) then 9 else (b.length : Int)).toNat b) ((List.take (if (9 : Int) < (b.length : Int) then 9 else (b.length : Int)).toNat b).length : Int) _ 0 0 _ ho12) ?_
 intro e_ τ_ hp_
 rcases o12 with o12 | o12
 ·obtain ⟨⟩ := o12
  obtain ⟨rfl, rfl⟩ := hp_
  refine kCd (cR (cR bd37)) [] ?_
  refine kRs 0 [Tm 2 (iv 0), Tm 3 (iv 0), Tm 4 (bv false)] [] .n ?_
  refine kRt ?_
  have h_0 := some_inj h
  obtain ⟨g_1, h_1⟩ := Prod.mk.inj h_0
  obtain ⟨g_2, h_2⟩ := Prod.mk.inj h_1
  subst g_1
  subst g_2
  subst h_2
  exact kFr
 ·obtain ⟨y12_0, y12_1, y12_2⟩ := o12
  obtain ⟨rfl, rfl⟩ := hp_
  have h_0 := some_inj h
  obtain ⟨g_1, h_1⟩ := Prod.mk.inj h_0
  obtain ⟨g_2, h_2⟩ := Prod.mk.inj h_1
  subst g_1
  subst g_2
  subst h_2
  exact kFr
def bd15 : Code := (Try.f15.body).getD .skip
def save_reader_num.O : Nat → Nat := fun t => bif ([2, 3, 4, 5, 23] : List Nat).any (Nat.beq t) then 1 else 0
def save_reader_num (fu : Nat) (o0_v : TReader) : Option (Int × TReader) :=
 bd (num_Take fu o0_v.b) fun (r2_1, r2_2, r2_3) =>
 jn (fun (j4_2 : TReader) =>
  gd (decide ((0 : Int) ≤ r2_2 ∧ r2_2 ≤ (j4_2.b.length : Int))) <|
  some (r2_1, (TReader.mk (List.drop r2_2.toNat j4_2.b) j4_2.bad))) fun k4 =>
 br o0_v.bad
  (k4 (TReader.mk o0_v.b true))
  (k4 (TReader.mk o0_v.b (!r2_3)))
theorem save_reader_num.meets (fu : Nat) (o0_v : TReader) (z0 : Int) (z1 : TReader) (h : save_reader_num fu o0_v = some (z0, z1)) : Meets Try.prog ⟨15, [.ptr 1000 0], [[sS 1 e_u8 o0_v.b, bv o0_v.bad]]⟩ ⟨iv z0, [[sS 1 e_u8 z1.b, bv z1.bad]]⟩ := by
 refine kMt hmix save_reader_num.O Try.f15 bd15 3 ?_
 unfold save_reader_num at h
 refine kRs 3 [] [] .n ?_
 obtain ⟨⟨r2_1, r2_2, r2_3⟩, h2_4, h⟩ := bd_inv h
 refine kRs 3 [Tm 3 (iv r2_1), Tm 4 (iv r2_2), Tm 5 (bv r2_3)] [.a ⟨.tup [iv r2_1, iv r2_2, bv r2_3], []⟩] (.c (Asks.of (C := Meets Try.prog) (num_Take.meets fu o0_v.b _ _ _ h2_4)) .n) ?_
 obtain ⟨k4, hk4, h⟩ := jn_inv h
 have Jk4 : ∀ (j4_2 : TReader), k4 j4_2 = some (z0, z1) → WK Try.prog save_reader_num.O (Ck Try.prog) (cR (cR (cR bd15))) [] (ofL [Tm 0 (.ptr 1000 0), Tm 3 (iv r2_1), Tm 4 (iv r2_2), Ob 1000 [sS 1 e_u8 j4_2.b, bv j4_2.bad]]) (Fin Try.prog save_reader_num.O Try.f15 1 ⟨iv z0, [[sS 1 e_u8 z1.b, bv z1.bad]]⟩) := by
  intro j4_2 h
  rw [hk4] at h
  obtain ⟨c5_1, h⟩ := gd_inv h
  refine kRs 2 [Ob 1000 [sS 1 e_u8 (List.drop r2_2.toNat j4_2.b), bv j4_2.bad]] [.s (.t 32) [sS 1 e_u8 (List.drop r2_2.toNat j4_2.b)]] (.c (c_cbL (e := e_u8) c5_1) (.c (congrArg (fun d : DV => [AV.data d]) (c_cutL (own := false) (nl := none) (s := 1) (e := e_u8) (l := j4_2.b) (lo := r2_2.toNat))) .n)) ?_
  refine kRs 1 [Tm 2 (iv r2_1)] [] .n ?_
  refine kRt ?_
  have h_0 := some_inj h
  obtain ⟨g_1, h_1⟩ := Prod.mk.inj h_0
  subst g_1
  subst h_1
  exact kFr
 clear hk4
 rcases br_inv h with ⟨b3_1, h⟩ | ⟨b3_1, h⟩
 ·refine kRs 11 [Ob 1000 [sS 1 e_u8 o0_v.b, bv true]] [.b true, .b true, .b true] (.r 3 b3_1 .n) ?_
  exact kWk (Jk4 (TReader.mk o0_v.b true) h)
 ·refine kRs 11 [Ob 1000 [sS 1 e_u8 o0_v.b, bv (!r2_3)]] [.b false, .b false, .b false] (.r 3 b3_1 .n) ?_
  exact kWk (Jk4 (TReader.mk o0_v.b (!r2_3)) h)
def bd64 : Code := (Try.f64.body).getD .skip
def num_TakeText.O : Nat → Nat := fun t => bif ([2, 3, 4, 5, 31] : List Nat).any (Nat.beq t) then 1 else 0
def num_TakeText (fu : Nat) (b : List Int) : Option (ByteArray × Int × Bool) :=
 bd (num_Take fu b) fun (r2_1, r2_2, r2_3) =>
 br (!r2_3)
  (some (ByteArray.empty, 0, false))
  (br (decide (r2_1 > 255))
   (some (ByteArray.empty, 0, false))
   (br (decide (r2_1 > (w64 ((b.length : Int) - r2_2))))
    (some (ByteArray.empty, 0, false))
    (gd (decide ((0 : Int) ≤ r2_2 ∧ r2_2 ≤ (w64 (r2_2 + r2_1)) ∧ (w64 (r2_2 + r2_1)) ≤ (b.length : Int))) <|
    some ((strB (List.drop r2_2.toNat (List.take (w64 (r2_2 + r2_1)).toNat b))), (w64 (r2_2 + r2_1)), true))))
theorem num_TakeText.meets (fu : Nat) (b : List Int) (z0 : ByteArray) (z1 : Int) (z2 : Bool) (h : num_TakeText fu b = some (z0, z1, z2)) : Meets Try.prog ⟨64, [sS 1 e_u8 b], []⟩ ⟨.tup [sv z0, iv z1, bv z2], []⟩ := by
 refine kMt hmix num_TakeText.O Try.f64 bd64 1 ?_
 unfold num_TakeText at h
 refine kRs 1 [] [] .n ?_
 obtain ⟨⟨r2_1, r2_2, r2_3⟩, h2_4, h⟩ := bd_inv h
 refine kRs 1 [Tm 3 (iv r2_2), Tm 4 (bv r2_3), Tm 5 (iv r2_1)] [.a ⟨.tup [iv r2_1, iv r2_2, bv r2_3], []⟩] (.c (Asks.of (C := Meets Try.prog) (num_Take.meets fu b _ _ _ h2_4)) .n) ?_
 refine kSq ?_
 rcases br_inv h with ⟨b3_1, h⟩ | ⟨b3_1, h⟩
 ·refine kRs 13 [Tm 25 (bv true)] (rp 10 (.b true) []) (.r 3 b3_1 (.r 7 rT .n)) ?_
  refine kCt rT ?_
  refine kRs 0 [Tm 2 (sv ByteArray.empty), Tm 3 (iv 0), Tm 4 (bv false)] [] .n ?_
  refine kRt ?_
  have h_0 := some_inj h
  obtain ⟨g_1, h_1⟩ := Prod.mk.inj h_0
  obtain ⟨g_2, h_2⟩ := Prod.mk.inj h_1
  subst g_1
  subst g_2
  subst h_2
  exact kFr
 ·rcases br_inv h with ⟨b3_2, h⟩ | ⟨b3_2, h⟩
  ·refine kRs 13 [Tm 25 (bv true)] (.b false :: (.b false :: (.b false :: (rp 7 (.b true) [])))) (.r 3 b3_1 (.r 7 b3_2 .n)) ?_
   refine kCt rT ?_
   refine kRs 0 [Tm 2 (sv ByteArray.empty), Tm 3 (iv 0), Tm 4 (bv false)] [] .n ?_
   refine kRt ?_
   have h_0 := some_inj h
   obtain ⟨g_1, h_1⟩ := Prod.mk.inj h_0
   obtain ⟨g_2, h_2⟩ := Prod.mk.inj h_1
   subst g_1
   subst g_2
   subst h_2
   exact kFr
  ·refine kRs 13 [Tm 25 (bv (decide (r2_1 > (w64 ((b.length : Int) - r2_2)))))] (rp 6 (.b false) (.s (.t 21) [iv (b.length : Int)] :: (rp 4 (.b false) []))) (.r 3 b3_1 (.r 3 b3_2 (.c (c_len (e := e_u8) (l := b)) (.r 4 b3_2 .n)))) ?_
   rcases br_inv h with ⟨b6_0, h⟩ | ⟨b6_0, h⟩
   ·refine kCt b6_0 ?_
    refine kRs 0 [Tm 2 (sv ByteArray.empty), Tm 3 (iv 0), Tm 4 (bv false)] [] .n ?_
    refine kRt ?_
    have h_0 := some_inj h
    obtain ⟨g_1, h_1⟩ := Prod.mk.inj h_0
    obtain ⟨g_2, h_2⟩ := Prod.mk.inj h_1
    subst g_1
    subst g_2
    subst h_2
    exact kFr
   ·refine kCe b6_0 ?_
    refine kSk ?_
    refine kCd (cR (cR (cR bd64))) [] ?_
    obtain ⟨c8_1, h⟩ := gd_inv h
    refine kRs 0 [Tm 2 (sv (strB (List.drop r2_2.toNat (List.take (w64 (r2_2 + r2_1)).toNat b)))), Tm 3 (iv (w64 (r2_2 + r2_1))), Tm 4 (bv true)] [.s (.t 31) [sS 1 e_u8 (List.drop r2_2.toNat (List.take (w64 (r2_2 + r2_1)).toNat b))]] (.c (c_cb (e := e_u8) c8_1) (.c (congrArg (fun d : DV => [AV.data d]) (c_cut (own := false) (nl := none) (s := 1) (e := e_u8) (l := b) (lo := r2_2.toNat) (h := (w64 (r2_2 + r2_1)).toNat))) (.c (c_ab (List.drop r2_2.toNat (List.take (w64 (r2_2 + r2_1)).toNat b))) .n))) ?_
    refine kRt ?_
    have h_0 := some_inj h
    obtain ⟨g_1, h_1⟩ := Prod.mk.inj h_0
    obtain ⟨g_2, h_2⟩ := Prod.mk.inj h_1
    subst g_1
    subst g_2
    subst h_2
    exact kFr
def bd38 : Code := (Try.f38.body).getD .skip
def save_reader_text.O : Nat → Nat := fun t => bif ([2, 3, 4, 5, 23] : List Nat).any (Nat.beq t) then 1 else 0
def save_reader_text (fu : Nat) (o0_v : TReader) : Option (ByteArray × TReader) :=
 bd (num_TakeText fu o0_v.b) fun (r2_1, r2_2, r2_3) =>
 jn (fun (j4_2 : TReader) =>
  gd (decide ((0 : Int) ≤ r2_2 ∧ r2_2 ≤ (j4_2.b.length : Int))) <|
  some (r2_1, (TReader.mk (List.drop r2_2.toNat j4_2.b) j4_2.bad))) fun k4 =>
 br o0_v.bad
  (k4 (TReader.mk o0_v.b true))
  (k4 (TReader.mk o0_v.b (!r2_3)))
theorem save_reader_text.meets (fu : Nat) (o0_v : TReader) (z0 : ByteArray) (z1 : TReader) (h : save_reader_text fu o0_v = some (z0, z1)) : Meets Try.prog ⟨38, [.ptr 1000 0], [[sS 1 e_u8 o0_v.b, bv o0_v.bad]]⟩ ⟨sv z0, [[sS 1 e_u8 z1.b, bv z1.bad]]⟩ := by
 refine kMt hmix save_reader_text.O Try.f38 bd38 3 ?_
 unfold save_reader_text at h
 refine kRs 3 [] [] .n ?_
 obtain ⟨⟨r2_1, r2_2, r2_3⟩, h2_4, h⟩ := bd_inv h
 refine kRs 3 [Tm 3 (sv r2_1), Tm 4 (iv r2_2), Tm 5 (bv r2_3)] [.a ⟨.tup [sv r2_1, iv r2_2, bv r2_3], []⟩] (.c (Asks.of (C := Meets Try.prog) (num_TakeText.meets fu o0_v.b _ _ _ h2_4)) .n) ?_
 obtain ⟨k4, hk4, h⟩ := jn_inv h
 have Jk4 : ∀ (j4_2 : TReader), k4 j4_2 = some (z0, z1) → WK Try.prog save_reader_text.O (Ck Try.prog) (cR (cR (cR bd38))) [] (ofL [Tm 0 (.ptr 1000 0), Tm 3 (sv r2_1), Tm 4 (iv r2_2), Ob 1000 [sS 1 e_u8 j4_2.b, bv j4_2.bad]]) (Fin Try.prog save_reader_text.O Try.f38 1 ⟨sv z0, [[sS 1 e_u8 z1.b, bv z1.bad]]⟩) := by
  intro j4_2 h
  rw [hk4] at h
  obtain ⟨c5_1, h⟩ := gd_inv h
  refine kRs 2 [Ob 1000 [sS 1 e_u8 (List.drop r2_2.toNat j4_2.b), bv j4_2.bad]] [.s (.t 32) [sS 1 e_u8 (List.drop r2_2.toNat j4_2.b)]] (.c (c_cbL (e := e_u8) c5_1) (.c (congrArg (fun d : DV => [AV.data d]) (c_cutL (own := false) (nl := none) (s := 1) (e := e_u8) (l := j4_2.b) (lo := r2_2.toNat))) .n)) ?_
  refine kRs 1 [Tm 2 (sv r2_1)] [] .n ?_
  refine kRt ?_
  have h_0 := some_inj h
  obtain ⟨g_1, h_1⟩ := Prod.mk.inj h_0
  subst g_1
  subst h_1
  exact kFr
 clear hk4
 rcases br_inv h with ⟨b3_1, h⟩ | ⟨b3_1, h⟩
 ·refine kRs 11 [Ob 1000 [sS 1 e_u8 o0_v.b, bv true]] [.b true, .b true, .b true] (.r 3 b3_1 .n) ?_
  exact kWk (Jk4 (TReader.mk o0_v.b true) h)
 ·refine kRs 11 [Ob 1000 [sS 1 e_u8 o0_v.b, bv (!r2_3)]] [.b false, .b false, .b false] (.r 3 b3_1 .n) ?_
  exact kWk (Jk4 (TReader.mk o0_v.b (!r2_3)) h)
def bd39 : Code := (Try.f39.body).getD .skip
def save_reader_chain_1.O : Nat → Nat := fun t => bif ([3, 9, 11, 16, 17] : List Nat).any (Nat.beq t) then 1 else 0
def save_reader_chain_1 (fu : Nat) (o2_v : TChain) (o3_v : TReader) : Option (TChain × TReader) :=
 bd (save_reader_num fu o3_v) fun (r1_1, r1_2) =>
 bd (save_reader_num fu r1_2) fun (r1_4, r1_5) =>
 bd (save_reader_text fu r1_5) fun (r2_1, r2_2) =>
 gd (decide (o2_v.L.length + ([(TVersion.mk r1_1 r2_1 (r1_4 == 1))] : List TVersion).length ≤ 4294967296)) <|
 some ((TChain.mk o2_v.Key (o2_v.L ++ ([(TVersion.mk r1_1 r2_1 (r1_4 == 1))] : List TVersion))), r2_2)
theorem save_reader_chain_1.meets (fu : Nat) (o2_v : TChain) (o3_v : TReader) (z0 : TChain) (z1 : TReader) (h : save_reader_chain_1 fu o2_v o3_v = some (z0, z1)) : Meets Try.prog ⟨39, [.ptr 1000 0, .ptr 1001 0, .ptr 1002 0], [[.fn (.func 15) [.ptr 1003 0] []], [.fn (.func 38) [.ptr 1003 0] []], [sv o2_v.Key, sO 3 TVersion.en o2_v.L], [sS 1 e_u8 o3_v.b, bv o3_v.bad]]⟩ ⟨.tup [], [[.fn (.func 15) [.ptr 1003 0] []], [.fn (.func 38) [.ptr 1003 0] []], [sv z0.Key, sO 3 TVersion.en z0.L], [sS 1 e_u8 z1.b, bv z1.bad]]⟩ := by
 refine kMt hmix save_reader_chain_1.O Try.f39 bd39 127 ?_
 unfold save_reader_chain_1 at h
 obtain ⟨⟨r1_1, r1_2⟩, h1_3, h⟩ := bd_inv h
 obtain ⟨⟨r1_4, r1_5⟩, h1_6, h⟩ := bd_inv h
 refine kRs 62 [Tm 3 (.ptr 3 0), Ob 3 (TVersion.ob (TVersion.mk r1_1 ByteArray.empty (r1_4 == 1))), Ob 1003 [sS 1 e_u8 r1_5.b, bv r1_5.bad]] [.a ⟨iv r1_1, [[sS 1 e_u8 r1_2.b, bv r1_2.bad]]⟩, .a ⟨iv r1_4, [[sS 1 e_u8 r1_5.b, bv r1_5.bad]]⟩] (.c (Asks.of (C := Meets Try.prog) (save_reader_num.meets fu o3_v _ _ h1_3)) (.c (Asks.of (C := Meets Try.prog) (save_reader_num.meets fu r1_2 _ _ h1_6)) (.c rT .n))) ?_
 obtain ⟨⟨r2_1, r2_2⟩, h2_3, h⟩ := bd_inv h
 refine kRs 241 [Ob 3 (TVersion.ob (TVersion.mk r1_1 r2_1 (r1_4 == 1))), Ob 1003 [sS 1 e_u8 r2_2.b, bv r2_2.bad]] [.a ⟨sv r2_1, [[sS 1 e_u8 r2_2.b, bv r2_2.bad]]⟩] (.c (Asks.of (C := Meets Try.prog) (save_reader_text.meets fu r1_5 _ _ h2_3)) .n) ?_
 obtain ⟨c3_1, h⟩ := gd_inv h
 have h_0 := some_inj h
 obtain ⟨g_1, h_1⟩ := Prod.mk.inj h_0
 subst g_1
 subst h_1
 exact kRf [.s (.t 17) [sO 3 TVersion.en (o2_v.L ++ ([(TVersion.mk r1_1 r2_1 (r1_4 == 1))] : List TVersion))]] (.c (c_al (e := TVersion.en) (f := TVersion.en) c3_1) (.c (congrArg (fun d : DV => [AV.data d]) (c_app (e := TVersion.en) (s := 3) (l := o2_v.L) (m := ([(TVersion.mk r1_1 r2_1 (r1_4 == 1))] : List TVersion)))) .n))
def bd16 : Code := (Try.f16.body).getD .skip
def save_reader_many_2.O : Nat → Nat := fun t => bif ([1] : List Nat).any (Nat.beq t) then 1 else 0
def save_reader_many_2.lp1 (fu : Nat) : Nat → Int → TReader → TChain → Option (TReader × TChain)
  | 0, _, _, _ => none
  | n_ + 1, l1_0, l1_1, l1_2 =>
  br (decide (l1_0 > 0))
   (br (!l1_1.bad)
    (bd (save_reader_chain_1 fu l1_2 l1_1) fun (r4_1, r4_2) =>
    save_reader_many_2.lp1 fu n_ (w64 (l1_0 - 1)) r4_2 r4_1)
    (some (l1_1, l1_2)))
   (some (l1_1, l1_2))
def save_reader_many_2.lp1_post (r_ : (TReader × TChain)) : Wy → St → Prop := fun e τ => match r_ with
  | (y0, y1) => e = .exit 0 ∧ τ = ofL [Ob 1000 [sS 1 e_u8 y0.b, bv y0.bad], Ob 1001 [.fn (.func 15) [.ptr 1000 0] []], Ob 1002 [.fn (.func 38) [.ptr 1000 0] []], Ob 1003 [sv y1.Key, sO 3 TVersion.en y1.L]]
theorem save_reader_many_2.lp1_ok (fu : Nat) : ∀ (n_ : Nat) (l1_0 : Int) (l1_1 : TReader) (l1_2 : TChain) (r_ : (TReader × TChain)), save_reader_many_2.lp1 fu n_ l1_0 l1_1 l1_2 = some r_ → WK Try.prog save_reader_many_2.O (Ck Try.prog) (cB bd16) [] (ofL [Tm 0 (.ptr 1000 0), Tm 1 (iv l1_0), Tm 2 (.fn (.func 39) [] [.ptr 1001 0, .ptr 1002 0, .ptr 1003 0]), Ob 1000 [sS 1 e_u8 l1_1.b, bv l1_1.bad], Ob 1001 [.fn (.func 15) [.ptr 1000 0] []], Ob 1002 [.fn (.func 38) [.ptr 1000 0] []], Ob 1003 [sv l1_2.Key, sO 3 TVersion.en l1_2.L]]) (save_reader_many_2.lp1_post r_) := by
 intro n_
 induction n_ with
 | zero => intro l1_0 l1_1 l1_2 r_ h; exact no_none h
 | succ n_ ih =>
  intro l1_0 l1_1 l1_2 r_ h
  refine kLp ?_
  refine kSq ?_
  rcases br_inv h with ⟨b2_1, h⟩ | ⟨b2_1, h⟩
  ·refine kRs 127 [Tm 14 (bv (!l1_1.bad))] (rp 6 (.b true) []) (.r 6 b2_1 .n) ?_
   rcases br_inv h with ⟨b3_0, h⟩ | ⟨b3_0, h⟩
   ·refine kCt b3_0 ?_
    refine kSk ?_
    refine kCd (cR (cB (cB bd16))) [.lp (cB bd16)] ?_
    refine kSq ?_
    refine kBk 1 ?_
    obtain ⟨⟨r4_1, r4_2⟩, h4_3, h⟩ := bd_inv h
    refine kRc 110 [Ob 1000 [sS 1 e_u8 r4_2.b, bv r4_2.bad], Ob 1003 [sv r4_1.Key, sO 3 TVersion.en r4_1.L]] [.a ⟨.tup [], [[.fn (.func 15) [.ptr 1003 0] []], [.fn (.func 38) [.ptr 1003 0] []], [sv r4_1.Key, sO 3 TVersion.en r4_1.L], [sS 1 e_u8 r4_2.b, bv r4_2.bad]]⟩] (.c (Asks.of (C := Meets Try.prog) (save_reader_chain_1.meets fu l1_2 l1_1 _ _ h4_3)) .n) (cR (cR (cB (cB bd16)))) [.lp (cB bd16)] ?_
    refine kRc 119 [Tm 1 (iv (w64 (l1_0 - 1)))] [] .n (cB bd16) [] ?_
    exact kWk (ih (w64 (l1_0 - 1)) r4_2 r4_1 _ h)
   ·refine kCe b3_0 ?_
    cases some_inj h
    refine kWo ?_
    refine kXt 0 ?_
    exact kOut
  ·refine kRs 127 [Tm 14 (bv false)] (rp 6 (.b false) []) (.r 6 b2_1 .n) ?_
   refine kCe rF ?_
   cases some_inj h
   refine kWo ?_
   refine kXt 0 ?_
   exact kOut
def save_reader_many_2 (fu : Nat) (n_v : Int) (o0_v : TReader) (o3_v : TChain) : Option (TReader × TChain) :=
 bd (save_reader_many_2.lp1 fu fu n_v o0_v o3_v) fun (y6_0, y6_1) =>
 some (y6_0, y6_1)
theorem save_reader_many_2.meets (fu : Nat) (n_v : Int) (o0_v : TReader) (o3_v : TChain) (z0 : TReader) (z1 : TChain) (h : save_reader_many_2 fu n_v o0_v o3_v = some (z0, z1)) : Meets Try.prog ⟨16, [.ptr 1000 0, iv n_v, .fn (.func 39) [] [.ptr 1001 0, .ptr 1002 0, .ptr 1003 0]], [[sS 1 e_u8 o0_v.b, bv o0_v.bad], [.fn (.func 15) [.ptr 1000 0] []], [.fn (.func 38) [.ptr 1000 0] []], [sv o3_v.Key, sO 3 TVersion.en o3_v.L]]⟩ ⟨.tup [], [[sS 1 e_u8 z0.b, bv z0.bad], [.fn (.func 15) [.ptr 1000 0] []], [.fn (.func 38) [.ptr 1000 0] []], [sv z1.Key, sO 3 TVersion.en z1.L]]⟩ := by
 refine kMt hmix save_reader_many_2.O Try.f16 bd16 127 ?_
 unfold save_reader_many_2 at h
 refine kBk 0 ?_
 obtain ⟨o6, ho6, h⟩ := bd_inv h
 refine kUs (save_reader_many_2.lp1_ok fu _ n_v o0_v o3_v _ ho6) ?_
 intro e_ τ_ hp_
 obtain ⟨y6_0, y6_1⟩ := o6
 obtain ⟨rfl, rfl⟩ := hp_
 have h_0 := some_inj h
 obtain ⟨g_1, h_1⟩ := Prod.mk.inj h_0
 subst g_1
 subst h_1
 exact kFn
def bd18 : Code := (Try.f18.body).getD .skip
def save_reader_chain.O : Nat → Nat := fun t => bif ([2, 3, 4, 6, 8, 10, 17] : List Nat).any (Nat.beq t) then 1 else 0
def save_reader_chain (fu : Nat) (o0_v : TReader) : Option (TChain × TReader) :=
 bd (save_reader_text fu o0_v) fun (r3_1, r3_2) =>
 bd (save_reader_num fu r3_2) fun (r4_1, r4_2) =>
 bd (save_reader_many_2 fu r4_1 r4_2 (TChain.mk r3_1 [])) fun (r4_4, r4_5) =>
 some (r4_5, r4_4)
theorem save_reader_chain.meets (fu : Nat) (o0_v : TReader) (z0 : TChain) (z1 : TReader) (h : save_reader_chain fu o0_v = some (z0, z1)) : Meets Try.prog ⟨18, [.ptr 1000 0], [[sS 1 e_u8 o0_v.b, bv o0_v.bad]]⟩ ⟨.data (.agg [.val (.string z0.Key), .slc true none 3 (List.map TVersion.en z0.L)]), [[sS 1 e_u8 z1.b, bv z1.bad]]⟩ := by
 refine kMt hmix save_reader_chain.O Try.f18 bd18 3 ?_
 unfold save_reader_chain at h
 refine kRs 3 [Tm 2 (.ptr 2 0), Ob 2 [sv ByteArray.empty, .data (.slc true none 3 (List.map TVersion.en []))]] [] .n ?_
 refine kRs 15 [Tm 3 (.ptr 3 0), Tm 4 (.ptr 4 0), Ob 3 [.fn (.func 15) [.ptr 1000 0] []], Ob 4 [.fn (.func 38) [.ptr 1000 0] []]] [] .n ?_
 obtain ⟨⟨r3_1, r3_2⟩, h3_3, h⟩ := bd_inv h
 refine kRs 95 [Ob 2 [sv r3_1, .data (.slc true none 3 (List.map TVersion.en []))], Ob 1000 [sS 1 e_u8 r3_2.b, bv r3_2.bad]] [.a ⟨sv r3_1, [[sS 1 e_u8 r3_2.b, bv r3_2.bad]]⟩] (.c (Asks.of (C := Meets Try.prog) (save_reader_text.meets fu o0_v _ _ h3_3)) .n) ?_
 obtain ⟨⟨r4_1, r4_2⟩, h4_3, h⟩ := bd_inv h
 obtain ⟨⟨r4_4, r4_5⟩, h4_6, h⟩ := bd_inv h
 refine kRs 64 [Ob 2 [sv r4_5.Key, sO 3 TVersion.en r4_5.L], Ob 1000 [sS 1 e_u8 r4_4.b, bv r4_4.bad]] [.a ⟨iv r4_1, [[sS 1 e_u8 r4_2.b, bv r4_2.bad]]⟩, .a ⟨.tup [], [[sS 1 e_u8 r4_4.b, bv r4_4.bad], [.fn (.func 15) [.ptr 1000 0] []], [.fn (.func 38) [.ptr 1000 0] []], [sv r4_5.Key, sO 3 TVersion.en r4_5.L]]⟩] (.c (Asks.of (C := Meets Try.prog) (save_reader_num.meets fu r3_2 _ _ h4_3)) (.c (Asks.of (C := Meets Try.prog) (save_reader_many_2.meets fu r4_1 r4_2 (TChain.mk r3_1 []) _ _ h4_6)) .n)) ?_
 refine kRs 7 [] [] .n ?_
 refine kRt ?_
 have h_0 := some_inj h
 obtain ⟨g_1, h_1⟩ := Prod.mk.inj h_0
 subst g_1
 subst h_1
 exact kFr
def bd17 : Code := (Try.f17.body).getD .skip
def save_Take_1.O : Nat → Nat := fun t => bif ([7, 8] : List Nat).any (Nat.beq t) then 1 else 0
def save_Take_1 (fu : Nat) (o0_v : TShard) (o2_v : TReader) : Option (TShard × TReader) :=
 bd (save_reader_chain fu o2_v) fun (r1_1, r1_2) =>
 gd (decide (o0_v.S.Chains.length + ([r1_1] : List TChain).length ≤ 4294967296)) <|
 some ((TShard.mk o0_v.ID o0_v.Shards o0_v.Done (TStore.mk (o0_v.S.Chains ++ ([r1_1] : List TChain)) o0_v.S.Mark) o0_v.Seats o0_v.Bits o0_v.Said), r1_2)
theorem save_Take_1.meets (fu : Nat) (o0_v : TShard) (o2_v : TReader) (z0 : TShard) (z1 : TReader) (h : save_Take_1 fu o0_v o2_v = some (z0, z1)) : Meets Try.prog ⟨17, [.ptr 1000 0, .ptr 1001 0], [(TShard.ob_00010111 o0_v), [.ptr 1002 0], [sS 1 e_u8 o2_v.b, bv o2_v.bad]]⟩ ⟨.tup [], [(TShard.ob_00010111 z0), [.ptr 1002 0], [sS 1 e_u8 z1.b, bv z1.bad]]⟩ := by
 refine kMt hmix save_Take_1.O Try.f17 bd17 31 ?_
 unfold save_Take_1 at h
 obtain ⟨⟨r1_1, r1_2⟩, h1_3, h⟩ := bd_inv h
 obtain ⟨c1_4, h⟩ := gd_inv h
 have h_0 := some_inj h
 obtain ⟨g_1, h_1⟩ := Prod.mk.inj h_0
 subst g_1
 subst h_1
 exact kRf [.a ⟨.data (.agg [.val (.string r1_1.Key), .slc true none 3 (List.map TVersion.en r1_1.L)]), [[sS 1 e_u8 r1_2.b, bv r1_2.bad]]⟩, .s (.t 8) [sO 2 TChain.en (o0_v.S.Chains ++ ([r1_1] : List TChain))]] (.c (Asks.of (C := Meets Try.prog) (save_reader_chain.meets fu o2_v _ _ h1_3)) (.c (c_al (e := TChain.en) (f := TChain.en) c1_4) (.c (congrArg (fun d : DV => [AV.data d]) (c_app (e := TChain.en) (s := 2) (l := o0_v.S.Chains) (m := ([r1_1] : List TChain)))) (.c rT .n))))
def save_reader_many.O : Nat → Nat := fun t => bif ([1] : List Nat).any (Nat.beq t) then 1 else 0
def save_reader_many.lp1 (fu : Nat) : Nat → Int → TReader → TShard → Option (TReader × TShard)
  | 0, _, _, _ => none
  | n_ + 1, l1_0, l1_1, l1_2 =>
  br (decide (l1_0 > 0))
   (br (!l1_1.bad)
    (bd (save_Take_1 fu l1_2 l1_1) fun (r4_1, r4_2) =>
    save_reader_many.lp1 fu n_ (w64 (l1_0 - 1)) r4_2 r4_1)
    (some (l1_1, l1_2)))
   (some (l1_1, l1_2))
def save_reader_many.lp1_post (r_ : (TReader × TShard)) : Wy → St → Prop := fun e τ => match r_ with
  | (y0, y1) => e = .exit 0 ∧ τ = ofL [Ob 1000 [sS 1 e_u8 y0.b, bv y0.bad], Ob 1001 (TShard.ob_00010111 y1), Ob 1002 [.ptr 1000 0]]
theorem save_reader_many.lp1_ok (fu : Nat) : ∀ (n_ : Nat) (l1_0 : Int) (l1_1 : TReader) (l1_2 : TShard) (r_ : (TReader × TShard)), save_reader_many.lp1 fu n_ l1_0 l1_1 l1_2 = some r_ → WK Try.prog save_reader_many.O (Ck Try.prog) (cB bd16) [] (ofL [Tm 0 (.ptr 1000 0), Tm 1 (iv l1_0), Tm 2 (.fn (.func 17) [] [.ptr 1001 0, .ptr 1002 0]), Ob 1000 [sS 1 e_u8 l1_1.b, bv l1_1.bad], Ob 1001 (TShard.ob_00010111 l1_2), Ob 1002 [.ptr 1000 0]]) (save_reader_many.lp1_post r_) := by
 intro n_
 induction n_ with
 | zero => intro l1_0 l1_1 l1_2 r_ h; exact no_none h
 | succ n_ ih =>
  intro l1_0 l1_1 l1_2 r_ h
  refine kLp ?_
  refine kSq ?_
  rcases br_inv h with ⟨b2_1, h⟩ | ⟨b2_1, h⟩
  ·refine kRs 63 [Tm 14 (bv (!l1_1.bad))] (rp 6 (.b true) []) (.r 6 b2_1 .n) ?_
   rcases br_inv h with ⟨b3_0, h⟩ | ⟨b3_0, h⟩
   ·refine kCt b3_0 ?_
    refine kSk ?_
    refine kCd (cR (cB (cB bd16))) [.lp (cB bd16)] ?_
    refine kSq ?_
    refine kBk 1 ?_
    obtain ⟨⟨r4_1, r4_2⟩, h4_3, h⟩ := bd_inv h
    refine kRc 78 [Ob 1000 [sS 1 e_u8 r4_2.b, bv r4_2.bad], Ob 1001 (TShard.ob_00010111 r4_1)] [.a ⟨.tup [], [(TShard.ob_00010111 r4_1), [.ptr 1002 0], [sS 1 e_u8 r4_2.b, bv r4_2.bad]]⟩] (.c (Asks.of (C := Meets Try.prog) (save_Take_1.meets fu l1_2 l1_1 _ _ h4_3)) .n) (cR (cR (cB (cB bd16)))) [.lp (cB bd16)] ?_
    refine kRc 55 [Tm 1 (iv (w64 (l1_0 - 1)))] [] .n (cB bd16) [] ?_
    exact kWk (ih (w64 (l1_0 - 1)) r4_2 r4_1 _ h)
   ·refine kCe b3_0 ?_
    cases some_inj h
    refine kWo ?_
    refine kXt 0 ?_
    exact kOut
  ·refine kRs 63 [Tm 14 (bv false)] (rp 6 (.b false) []) (.r 6 b2_1 .n) ?_
   refine kCe rF ?_
   cases some_inj h
   refine kWo ?_
   refine kXt 0 ?_
   exact kOut
def save_reader_many (fu : Nat) (n_v : Int) (o0_v : TReader) (o1_v : TShard) : Option (TReader × TShard) :=
 bd (save_reader_many.lp1 fu fu n_v o0_v o1_v) fun (y6_0, y6_1) =>
 some (y6_0, y6_1)
theorem save_reader_many.meets (fu : Nat) (n_v : Int) (o0_v : TReader) (o1_v : TShard) (z0 : TReader) (z1 : TShard) (h : save_reader_many fu n_v o0_v o1_v = some (z0, z1)) : Meets Try.prog ⟨16, [.ptr 1000 0, iv n_v, .fn (.func 17) [] [.ptr 1001 0, .ptr 1002 0]], [[sS 1 e_u8 o0_v.b, bv o0_v.bad], (TShard.ob_00010111 o1_v), [.ptr 1000 0]]⟩ ⟨.tup [], [[sS 1 e_u8 z0.b, bv z0.bad], (TShard.ob_00010111 z1), [.ptr 1000 0]]⟩ := by
 refine kMt hmix save_reader_many.O Try.f16 bd16 63 ?_
 unfold save_reader_many at h
 refine kBk 0 ?_
 obtain ⟨o6, ho6, h⟩ := bd_inv h
 refine kUs (save_reader_many.lp1_ok fu _ n_v o0_v o1_v _ ho6) ?_
 intro e_ τ_ hp_
 obtain ⟨y6_0, y6_1⟩ := o6
 obtain ⟨rfl, rfl⟩ := hp_
 have h_0 := some_inj h
 obtain ⟨g_1, h_1⟩ := Prod.mk.inj h_0
 subst g_1
 subst h_1
 exact kFn
def bd19 : Code := (Try.f19.body).getD .skip
def save_Take_2.O : Nat → Nat := fun t => bif ([10, 11, 12] : List Nat).any (Nat.beq t) then 1 else 0
def save_Take_2 (fu : Nat) (o0_v : TShard) (o2_v : TReader) : Option (TShard × TReader) :=
 bd (save_reader_num fu o2_v) fun (r1_1, r1_2) =>
 bd (save_reader_num fu r1_2) fun (r1_4, r1_5) =>
 bd (save_reader_num fu r1_5) fun (r1_7, r1_8) =>
 gd (decide (o0_v.Seats.length + ([(TSeat.mk r1_1 r1_4 r1_7)] : List TSeat).length ≤ 4294967296)) <|
 some ((TShard.mk o0_v.ID o0_v.Shards o0_v.Done o0_v.S (o0_v.Seats ++ ([(TSeat.mk r1_1 r1_4 r1_7)] : List TSeat)) o0_v.Bits o0_v.Said), r1_8)
theorem save_Take_2.meets (fu : Nat) (o0_v : TShard) (o2_v : TReader) (z0 : TShard) (z1 : TReader) (h : save_Take_2 fu o0_v o2_v = some (z0, z1)) : Meets Try.prog ⟨19, [.ptr 1000 0, .ptr 1001 0], [(TShard.ob_00010111 o0_v), [.fn (.func 15) [.ptr 1002 0] []], [sS 1 e_u8 o2_v.b, bv o2_v.bad]]⟩ ⟨.tup [], [(TShard.ob_00010111 z0), [.fn (.func 15) [.ptr 1002 0] []], [sS 1 e_u8 z1.b, bv z1.bad]]⟩ := by
 refine kMt hmix save_Take_2.O Try.f19 bd19 31 ?_
 unfold save_Take_2 at h
 obtain ⟨⟨r1_1, r1_2⟩, h1_3, h⟩ := bd_inv h
 obtain ⟨⟨r1_4, r1_5⟩, h1_6, h⟩ := bd_inv h
 obtain ⟨⟨r1_7, r1_8⟩, h1_9, h⟩ := bd_inv h
 obtain ⟨c1_10, h⟩ := gd_inv h
 have h_0 := some_inj h
 obtain ⟨g_1, h_1⟩ := Prod.mk.inj h_0
 subst g_1
 subst h_1
 exact kRf [.a ⟨iv r1_1, [[sS 1 e_u8 r1_2.b, bv r1_2.bad]]⟩, .a ⟨iv r1_4, [[sS 1 e_u8 r1_5.b, bv r1_5.bad]]⟩, .a ⟨iv r1_7, [[sS 1 e_u8 r1_8.b, bv r1_8.bad]]⟩, .s (.t 12) [sO 3 TSeat.en (o0_v.Seats ++ ([(TSeat.mk r1_1 r1_4 r1_7)] : List TSeat))]] (.c (Asks.of (C := Meets Try.prog) (save_reader_num.meets fu o2_v _ _ h1_3)) (.c (Asks.of (C := Meets Try.prog) (save_reader_num.meets fu r1_2 _ _ h1_6)) (.c (Asks.of (C := Meets Try.prog) (save_reader_num.meets fu r1_5 _ _ h1_9)) (.c (c_al (e := TSeat.en) (f := TSeat.en) c1_10) (.c (congrArg (fun d : DV => [AV.data d]) (c_app (e := TSeat.en) (s := 3) (l := o0_v.Seats) (m := ([(TSeat.mk r1_1 r1_4 r1_7)] : List TSeat)))) (.c rT .n))))))
def save_reader_many_3.O : Nat → Nat := fun t => bif ([1] : List Nat).any (Nat.beq t) then 1 else 0
def save_reader_many_3.lp1 (fu : Nat) : Nat → Int → TReader → TShard → Option (TReader × TShard)
  | 0, _, _, _ => none
  | n_ + 1, l1_0, l1_1, l1_2 =>
  br (decide (l1_0 > 0))
   (br (!l1_1.bad)
    (bd (save_Take_2 fu l1_2 l1_1) fun (r4_1, r4_2) =>
    save_reader_many_3.lp1 fu n_ (w64 (l1_0 - 1)) r4_2 r4_1)
    (some (l1_1, l1_2)))
   (some (l1_1, l1_2))
def save_reader_many_3.lp1_post (r_ : (TReader × TShard)) : Wy → St → Prop := fun e τ => match r_ with
  | (y0, y1) => e = .exit 0 ∧ τ = ofL [Ob 1000 [sS 1 e_u8 y0.b, bv y0.bad], Ob 1001 (TShard.ob_00010111 y1), Ob 1002 [.fn (.func 15) [.ptr 1000 0] []]]
theorem save_reader_many_3.lp1_ok (fu : Nat) : ∀ (n_ : Nat) (l1_0 : Int) (l1_1 : TReader) (l1_2 : TShard) (r_ : (TReader × TShard)), save_reader_many_3.lp1 fu n_ l1_0 l1_1 l1_2 = some r_ → WK Try.prog save_reader_many_3.O (Ck Try.prog) (cB bd16) [] (ofL [Tm 0 (.ptr 1000 0), Tm 1 (iv l1_0), Tm 2 (.fn (.func 19) [] [.ptr 1001 0, .ptr 1002 0]), Ob 1000 [sS 1 e_u8 l1_1.b, bv l1_1.bad], Ob 1001 (TShard.ob_00010111 l1_2), Ob 1002 [.fn (.func 15) [.ptr 1000 0] []]]) (save_reader_many_3.lp1_post r_) := by
 intro n_
 induction n_ with
 | zero => intro l1_0 l1_1 l1_2 r_ h; exact no_none h
 | succ n_ ih =>
  intro l1_0 l1_1 l1_2 r_ h
  refine kLp ?_
  refine kSq ?_
  rcases br_inv h with ⟨b2_1, h⟩ | ⟨b2_1, h⟩
  ·refine kRs 63 [Tm 14 (bv (!l1_1.bad))] (rp 6 (.b true) []) (.r 6 b2_1 .n) ?_
   rcases br_inv h with ⟨b3_0, h⟩ | ⟨b3_0, h⟩
   ·refine kCt b3_0 ?_
    refine kSk ?_
    refine kCd (cR (cB (cB bd16))) [.lp (cB bd16)] ?_
    refine kSq ?_
    refine kBk 1 ?_
    obtain ⟨⟨r4_1, r4_2⟩, h4_3, h⟩ := bd_inv h
    refine kRc 78 [Ob 1000 [sS 1 e_u8 r4_2.b, bv r4_2.bad], Ob 1001 (TShard.ob_00010111 r4_1)] [.a ⟨.tup [], [(TShard.ob_00010111 r4_1), [.fn (.func 15) [.ptr 1002 0] []], [sS 1 e_u8 r4_2.b, bv r4_2.bad]]⟩] (.c (Asks.of (C := Meets Try.prog) (save_Take_2.meets fu l1_2 l1_1 _ _ h4_3)) .n) (cR (cR (cB (cB bd16)))) [.lp (cB bd16)] ?_
    refine kRc 55 [Tm 1 (iv (w64 (l1_0 - 1)))] [] .n (cB bd16) [] ?_
    exact kWk (ih (w64 (l1_0 - 1)) r4_2 r4_1 _ h)
   ·refine kCe b3_0 ?_
    cases some_inj h
    refine kWo ?_
    refine kXt 0 ?_
    exact kOut
  ·refine kRs 63 [Tm 14 (bv false)] (rp 6 (.b false) []) (.r 6 b2_1 .n) ?_
   refine kCe rF ?_
   cases some_inj h
   refine kWo ?_
   refine kXt 0 ?_
   exact kOut
def save_reader_many_3 (fu : Nat) (n_v : Int) (o0_v : TReader) (o1_v : TShard) : Option (TReader × TShard) :=
 bd (save_reader_many_3.lp1 fu fu n_v o0_v o1_v) fun (y6_0, y6_1) =>
 some (y6_0, y6_1)
theorem save_reader_many_3.meets (fu : Nat) (n_v : Int) (o0_v : TReader) (o1_v : TShard) (z0 : TReader) (z1 : TShard) (h : save_reader_many_3 fu n_v o0_v o1_v = some (z0, z1)) : Meets Try.prog ⟨16, [.ptr 1000 0, iv n_v, .fn (.func 19) [] [.ptr 1001 0, .ptr 1002 0]], [[sS 1 e_u8 o0_v.b, bv o0_v.bad], (TShard.ob_00010111 o1_v), [.fn (.func 15) [.ptr 1000 0] []]]⟩ ⟨.tup [], [[sS 1 e_u8 z0.b, bv z0.bad], (TShard.ob_00010111 z1), [.fn (.func 15) [.ptr 1000 0] []]]⟩ := by
 refine kMt hmix save_reader_many_3.O Try.f16 bd16 63 ?_
 unfold save_reader_many_3 at h
 refine kBk 0 ?_
 obtain ⟨o6, ho6, h⟩ := bd_inv h
 refine kUs (save_reader_many_3.lp1_ok fu _ n_v o0_v o1_v _ ho6) ?_
 intro e_ τ_ hp_
 obtain ⟨y6_0, y6_1⟩ := o6
 obtain ⟨rfl, rfl⟩ := hp_
 have h_0 := some_inj h
 obtain ⟨g_1, h_1⟩ := Prod.mk.inj h_0
 subst g_1
 subst h_1
 exact kFn
def bd20 : Code := (Try.f20.body).getD .skip
def save_Take_3.O : Nat → Nat := fun t => bif ([6, 7] : List Nat).any (Nat.beq t) then 1 else 0
def save_Take_3 (fu : Nat) (o0_v : TShard) (o2_v : TReader) : Option (TShard × TReader) :=
 bd (save_reader_num fu o2_v) fun (r1_1, r1_2) =>
 gd (decide (o0_v.Bits.length + ([r1_1] : List Int).length ≤ 4294967296)) <|
 some ((TShard.mk o0_v.ID o0_v.Shards o0_v.Done o0_v.S o0_v.Seats (o0_v.Bits ++ ([r1_1] : List Int)) o0_v.Said), r1_2)
theorem save_Take_3.meets (fu : Nat) (o0_v : TShard) (o2_v : TReader) (z0 : TShard) (z1 : TReader) (h : save_Take_3 fu o0_v o2_v = some (z0, z1)) : Meets Try.prog ⟨20, [.ptr 1000 0, .ptr 1001 0], [(TShard.ob_00010111 o0_v), [.fn (.func 15) [.ptr 1002 0] []], [sS 1 e_u8 o2_v.b, bv o2_v.bad]]⟩ ⟨.tup [], [(TShard.ob_00010111 z0), [.fn (.func 15) [.ptr 1002 0] []], [sS 1 e_u8 z1.b, bv z1.bad]]⟩ := by
 refine kMt hmix save_Take_3.O Try.f20 bd20 31 ?_
 unfold save_Take_3 at h
 obtain ⟨⟨r1_1, r1_2⟩, h1_3, h⟩ := bd_inv h
 obtain ⟨c1_4, h⟩ := gd_inv h
 have h_0 := some_inj h
 obtain ⟨g_1, h_1⟩ := Prod.mk.inj h_0
 subst g_1
 subst h_1
 exact kRf [.a ⟨iv r1_1, [[sS 1 e_u8 r1_2.b, bv r1_2.bad]]⟩, .s (.t 7) [sO 1 e_i64 (o0_v.Bits ++ ([r1_1] : List Int))]] (.c (Asks.of (C := Meets Try.prog) (save_reader_num.meets fu o2_v _ _ h1_3)) (.c (c_al (e := e_i64) (f := e_i64) c1_4) (.c (congrArg (fun d : DV => [AV.data d]) (c_app (e := e_i64) (s := 1) (l := o0_v.Bits) (m := ([r1_1] : List Int)))) (.c rT .n))))
def save_reader_many_4.O : Nat → Nat := fun t => bif ([1] : List Nat).any (Nat.beq t) then 1 else 0
def save_reader_many_4.lp1 (fu : Nat) : Nat → Int → TReader → TShard → Option (TReader × TShard)
  | 0, _, _, _ => none
  | n_ + 1, l1_0, l1_1, l1_2 =>
  br (decide (l1_0 > 0))
   (br (!l1_1.bad)
    (bd (save_Take_3 fu l1_2 l1_1) fun (r4_1, r4_2) =>
    save_reader_many_4.lp1 fu n_ (w64 (l1_0 - 1)) r4_2 r4_1)
    (some (l1_1, l1_2)))
   (some (l1_1, l1_2))
def save_reader_many_4.lp1_post (r_ : (TReader × TShard)) : Wy → St → Prop := fun e τ => match r_ with
  | (y0, y1) => e = .exit 0 ∧ τ = ofL [Ob 1000 [sS 1 e_u8 y0.b, bv y0.bad], Ob 1001 (TShard.ob_00010111 y1), Ob 1002 [.fn (.func 15) [.ptr 1000 0] []]]
theorem save_reader_many_4.lp1_ok (fu : Nat) : ∀ (n_ : Nat) (l1_0 : Int) (l1_1 : TReader) (l1_2 : TShard) (r_ : (TReader × TShard)), save_reader_many_4.lp1 fu n_ l1_0 l1_1 l1_2 = some r_ → WK Try.prog save_reader_many_4.O (Ck Try.prog) (cB bd16) [] (ofL [Tm 0 (.ptr 1000 0), Tm 1 (iv l1_0), Tm 2 (.fn (.func 20) [] [.ptr 1001 0, .ptr 1002 0]), Ob 1000 [sS 1 e_u8 l1_1.b, bv l1_1.bad], Ob 1001 (TShard.ob_00010111 l1_2), Ob 1002 [.fn (.func 15) [.ptr 1000 0] []]]) (save_reader_many_4.lp1_post r_) := by
 intro n_
 induction n_ with
 | zero => intro l1_0 l1_1 l1_2 r_ h; exact no_none h
 | succ n_ ih =>
  intro l1_0 l1_1 l1_2 r_ h
  refine kLp ?_
  refine kSq ?_
  rcases br_inv h with ⟨b2_1, h⟩ | ⟨b2_1, h⟩
  ·refine kRs 63 [Tm 14 (bv (!l1_1.bad))] (rp 6 (.b true) []) (.r 6 b2_1 .n) ?_
   rcases br_inv h with ⟨b3_0, h⟩ | ⟨b3_0, h⟩
   ·refine kCt b3_0 ?_
    refine kSk ?_
    refine kCd (cR (cB (cB bd16))) [.lp (cB bd16)] ?_
    refine kSq ?_
    refine kBk 1 ?_
    obtain ⟨⟨r4_1, r4_2⟩, h4_3, h⟩ := bd_inv h
    refine kRc 78 [Ob 1000 [sS 1 e_u8 r4_2.b, bv r4_2.bad], Ob 1001 (TShard.ob_00010111 r4_1)] [.a ⟨.tup [], [(TShard.ob_00010111 r4_1), [.fn (.func 15) [.ptr 1002 0] []], [sS 1 e_u8 r4_2.b, bv r4_2.bad]]⟩] (.c (Asks.of (C := Meets Try.prog) (save_Take_3.meets fu l1_2 l1_1 _ _ h4_3)) .n) (cR (cR (cB (cB bd16)))) [.lp (cB bd16)] ?_
    refine kRc 55 [Tm 1 (iv (w64 (l1_0 - 1)))] [] .n (cB bd16) [] ?_
    exact kWk (ih (w64 (l1_0 - 1)) r4_2 r4_1 _ h)
   ·refine kCe b3_0 ?_
    cases some_inj h
    refine kWo ?_
    refine kXt 0 ?_
    exact kOut
  ·refine kRs 63 [Tm 14 (bv false)] (rp 6 (.b false) []) (.r 6 b2_1 .n) ?_
   refine kCe rF ?_
   cases some_inj h
   refine kWo ?_
   refine kXt 0 ?_
   exact kOut
def save_reader_many_4 (fu : Nat) (n_v : Int) (o0_v : TReader) (o1_v : TShard) : Option (TReader × TShard) :=
 bd (save_reader_many_4.lp1 fu fu n_v o0_v o1_v) fun (y6_0, y6_1) =>
 some (y6_0, y6_1)
theorem save_reader_many_4.meets (fu : Nat) (n_v : Int) (o0_v : TReader) (o1_v : TShard) (z0 : TReader) (z1 : TShard) (h : save_reader_many_4 fu n_v o0_v o1_v = some (z0, z1)) : Meets Try.prog ⟨16, [.ptr 1000 0, iv n_v, .fn (.func 20) [] [.ptr 1001 0, .ptr 1002 0]], [[sS 1 e_u8 o0_v.b, bv o0_v.bad], (TShard.ob_00010111 o1_v), [.fn (.func 15) [.ptr 1000 0] []]]⟩ ⟨.tup [], [[sS 1 e_u8 z0.b, bv z0.bad], (TShard.ob_00010111 z1), [.fn (.func 15) [.ptr 1000 0] []]]⟩ := by
 refine kMt hmix save_reader_many_4.O Try.f16 bd16 63 ?_
 unfold save_reader_many_4 at h
 refine kBk 0 ?_
 obtain ⟨o6, ho6, h⟩ := bd_inv h
 refine kUs (save_reader_many_4.lp1_ok fu _ n_v o0_v o1_v _ ho6) ?_
 intro e_ τ_ hp_
 obtain ⟨y6_0, y6_1⟩ := o6
 obtain ⟨rfl, rfl⟩ := hp_
 have h_0 := some_inj h
 obtain ⟨g_1, h_1⟩ := Prod.mk.inj h_0
 subst g_1
 subst h_1
 exact kFn
def bd21 : Code := (Try.f21.body).getD .skip
def save_Take_4.O : Nat → Nat := fun t => bif ([6, 7] : List Nat).any (Nat.beq t) then 1 else 0
def save_Take_4 (fu : Nat) (o0_v : TShard) (o2_v : TReader) : Option (TShard × TReader) :=
 bd (save_reader_num fu o2_v) fun (r1_1, r1_2) =>
 gd (decide (o0_v.Said.length + ([r1_1] : List Int).length ≤ 4294967296)) <|
 some ((TShard.mk o0_v.ID o0_v.Shards o0_v.Done o0_v.S o0_v.Seats o0_v.Bits (o0_v.Said ++ ([r1_1] : List Int))), r1_2)
theorem save_Take_4.meets (fu : Nat) (o0_v : TShard) (o2_v : TReader) (z0 : TShard) (z1 : TReader) (h : save_Take_4 fu o0_v o2_v = some (z0, z1)) : Meets Try.prog ⟨21, [.ptr 1000 0, .ptr 1001 0], [(TShard.ob_00010111 o0_v), [.fn (.func 15) [.ptr 1002 0] []], [sS 1 e_u8 o2_v.b, bv o2_v.bad]]⟩ ⟨.tup [], [(TShard.ob_00010111 z0), [.fn (.func 15) [.ptr 1002 0] []], [sS 1 e_u8 z1.b, bv z1.bad]]⟩ := by
 refine kMt hmix save_Take_4.O Try.f21 bd21 31 ?_
 unfold save_Take_4 at h
 obtain ⟨⟨r1_1, r1_2⟩, h1_3, h⟩ := bd_inv h
 obtain ⟨c1_4, h⟩ := gd_inv h
 have h_0 := some_inj h
 obtain ⟨g_1, h_1⟩ := Prod.mk.inj h_0
 subst g_1
 subst h_1
 exact kRf [.a ⟨iv r1_1, [[sS 1 e_u8 r1_2.b, bv r1_2.bad]]⟩, .s (.t 7) [sO 1 e_i64 (o0_v.Said ++ ([r1_1] : List Int))]] (.c (Asks.of (C := Meets Try.prog) (save_reader_num.meets fu o2_v _ _ h1_3)) (.c (c_al (e := e_i64) (f := e_i64) c1_4) (.c (congrArg (fun d : DV => [AV.data d]) (c_app (e := e_i64) (s := 1) (l := o0_v.Said) (m := ([r1_1] : List Int)))) (.c rT .n))))
def save_reader_many_5.O : Nat → Nat := fun t => bif ([1] : List Nat).any (Nat.beq t) then 1 else 0
def save_reader_many_5.lp1 (fu : Nat) : Nat → Int → TReader → TShard → Option (TReader × TShard)
  | 0, _, _, _ => none
  | n_ + 1, l1_0, l1_1, l1_2 =>
  br (decide (l1_0 > 0))
   (br (!l1_1.bad)
    (bd (save_Take_4 fu l1_2 l1_1) fun (r4_1, r4_2) =>
    save_reader_many_5.lp1 fu n_ (w64 (l1_0 - 1)) r4_2 r4_1)
    (some (l1_1, l1_2)))
   (some (l1_1, l1_2))
def save_reader_many_5.lp1_post (r_ : (TReader × TShard)) : Wy → St → Prop := fun e τ => match r_ with
  | (y0, y1) => e = .exit 0 ∧ τ = ofL [Ob 1000 [sS 1 e_u8 y0.b, bv y0.bad], Ob 1001 (TShard.ob_00010111 y1), Ob 1002 [.fn (.func 15) [.ptr 1000 0] []]]
theorem save_reader_many_5.lp1_ok (fu : Nat) : ∀ (n_ : Nat) (l1_0 : Int) (l1_1 : TReader) (l1_2 : TShard) (r_ : (TReader × TShard)), save_reader_many_5.lp1 fu n_ l1_0 l1_1 l1_2 = some r_ → WK Try.prog save_reader_many_5.O (Ck Try.prog) (cB bd16) [] (ofL [Tm 0 (.ptr 1000 0), Tm 1 (iv l1_0), Tm 2 (.fn (.func 21) [] [.ptr 1001 0, .ptr 1002 0]), Ob 1000 [sS 1 e_u8 l1_1.b, bv l1_1.bad], Ob 1001 (TShard.ob_00010111 l1_2), Ob 1002 [.fn (.func 15) [.ptr 1000 0] []]]) (save_reader_many_5.lp1_post r_) := by
 intro n_
 induction n_ with
 | zero => intro l1_0 l1_1 l1_2 r_ h; exact no_none h
 | succ n_ ih =>
  intro l1_0 l1_1 l1_2 r_ h
  refine kLp ?_
  refine kSq ?_
  rcases br_inv h with ⟨b2_1, h⟩ | ⟨b2_1, h⟩
  ·refine kRs 63 [Tm 14 (bv (!l1_1.bad))] (rp 6 (.b true) []) (.r 6 b2_1 .n) ?_
   rcases br_inv h with ⟨b3_0, h⟩ | ⟨b3_0, h⟩
   ·refine kCt b3_0 ?_
    refine kSk ?_
    refine kCd (cR (cB (cB bd16))) [.lp (cB bd16)] ?_
    refine kSq ?_
    refine kBk 1 ?_
    obtain ⟨⟨r4_1, r4_2⟩, h4_3, h⟩ := bd_inv h
    refine kRc 78 [Ob 1000 [sS 1 e_u8 r4_2.b, bv r4_2.bad], Ob 1001 (TShard.ob_00010111 r4_1)] [.a ⟨.tup [], [(TShard.ob_00010111 r4_1), [.fn (.func 15) [.ptr 1002 0] []], [sS 1 e_u8 r4_2.b, bv r4_2.bad]]⟩] (.c (Asks.of (C := Meets Try.prog) (save_Take_4.meets fu l1_2 l1_1 _ _ h4_3)) .n) (cR (cR (cB (cB bd16)))) [.lp (cB bd16)] ?_
    refine kRc 55 [Tm 1 (iv (w64 (l1_0 - 1)))] [] .n (cB bd16) [] ?_
    exact kWk (ih (w64 (l1_0 - 1)) r4_2 r4_1 _ h)
   ·refine kCe b3_0 ?_
    cases some_inj h
    refine kWo ?_
    refine kXt 0 ?_
    exact kOut
  ·refine kRs 63 [Tm 14 (bv false)] (rp 6 (.b false) []) (.r 6 b2_1 .n) ?_
   refine kCe rF ?_
   cases some_inj h
   refine kWo ?_
   refine kXt 0 ?_
   exact kOut
def save_reader_many_5 (fu : Nat) (n_v : Int) (o0_v : TReader) (o1_v : TShard) : Option (TReader × TShard) :=
 bd (save_reader_many_5.lp1 fu fu n_v o0_v o1_v) fun (y6_0, y6_1) =>
 some (y6_0, y6_1)
theorem save_reader_many_5.meets (fu : Nat) (n_v : Int) (o0_v : TReader) (o1_v : TShard) (z0 : TReader) (z1 : TShard) (h : save_reader_many_5 fu n_v o0_v o1_v = some (z0, z1)) : Meets Try.prog ⟨16, [.ptr 1000 0, iv n_v, .fn (.func 21) [] [.ptr 1001 0, .ptr 1002 0]], [[sS 1 e_u8 o0_v.b, bv o0_v.bad], (TShard.ob_00010111 o1_v), [.fn (.func 15) [.ptr 1000 0] []]]⟩ ⟨.tup [], [[sS 1 e_u8 z0.b, bv z0.bad], (TShard.ob_00010111 z1), [.fn (.func 15) [.ptr 1000 0] []]]⟩ := by
 refine kMt hmix save_reader_many_5.O Try.f16 bd16 63 ?_
 unfold save_reader_many_5 at h
 refine kBk 0 ?_
 obtain ⟨o6, ho6, h⟩ := bd_inv h
 refine kUs (save_reader_many_5.lp1_ok fu _ n_v o0_v o1_v _ ho6) ?_
 intro e_ τ_ hp_
 obtain ⟨y6_0, y6_1⟩ := o6
 obtain ⟨rfl, rfl⟩ := hp_
 have h_0 := some_inj h
 obtain ⟨g_1, h_1⟩ := Prod.mk.inj h_0
 subst g_1
 subst h_1
 exact kFn
def bd22 : Code := (Try.f22.body).getD .skip
def bytes_Equal.O : Nat → Nat := fun t => bif ([4] : List Nat).any (Nat.beq t) then 1 else 0
def bytes_Equal (a : List Int) (b : List Int) : Option Bool :=
 some ((strB a).toList == (strB b).toList)
theorem bytes_Equal.meets (a : List Int) (b : List Int) (z0 : Bool) (h : bytes_Equal a b = some z0) : Meets Try.prog ⟨22, [sS 1 e_u8 a, sS 1 e_u8 b], []⟩ ⟨bv z0, []⟩ := by
 refine kMt hmix bytes_Equal.O Try.f22 bd22 3 ?_
 unfold bytes_Equal at h
 refine kRs 3 [] [] .n ?_
 refine kRs 0 [Tm 4 (bv ((strB a).toList == (strB b).toList))] [] (.c (c_ab a) (.c (c_ab b) .n)) ?_
 refine kRt ?_
 have h_ := some_inj h
 subst h_
 exact kFr
def bd8 : Code := (Try.f8.body).getD .skip
def save_Take.O : Nat → Nat := fun t => bif ([2, 3, 4, 5, 6, 7, 10, 12, 19, 21, 60, 61] : List Nat).any (Nat.beq t) then 1 else 0
def save_Take (fu : Nat) (b : List Int) : Option (TShard × Bool) :=
 bd (save_reader_num fu (TReader.mk b false)) fun (r4_1, r4_2) =>
 bd (save_reader_num fu r4_2) fun (r4_4, r4_5) =>
 bd (save_reader_num fu r4_5) fun (r4_7, r4_8) =>
 bd (save_reader_num fu r4_8) fun (r5_1, r5_2) =>
 bd (save_reader_num fu r5_2) fun (r6_1, r6_2) =>
 bd (save_reader_many fu r6_1 r6_2 (TShard.mk r4_1 r4_4 r4_7 (TStore.mk [] r5_1) [] [] [])) fun (r6_4, r6_5) =>
 bd (save_reader_num fu r6_4) fun (r7_1, r7_2) =>
 bd (save_reader_many_3 fu r7_1 r7_2 r6_5) fun (r7_4, r7_5) =>
 bd (save_reader_many_4 fu r7_5.Done r7_4 r7_5) fun (r8_1, r8_2) =>
 bd (save_reader_many_5 fu r8_2.Done r8_1 r8_2) fun (r9_1, r9_2) =>
 bd (save_Put fu r9_2) fun r10_1 =>
 br r9_1.bad
  (some ((TShard.mk 0 0 0 (TStore.mk [] 0) [] [] []), false))
  (br r10_1.isEmpty
   (some ((TShard.mk 0 0 0 (TStore.mk [] 0) [] [] []), false))
   (bd (bytes_Equal r10_1 b) fun r11_3 =>
   br (!r11_3)
    (some ((TShard.mk 0 0 0 (TStore.mk [] 0) [] [] []), false))
    (some (r9_2, true))))
theorem save_Take.meets (fu : Nat) (b : List Int) (z0 : TShard) (z1 : Bool) (h : save_Take fu b = some (z0, z1)) : Meets Try.prog ⟨8, [sS 1 e_u8 b], []⟩ ⟨.tup [.data (TShard.ag z0), bv z1], []⟩ := by
 refine kMt hmix save_Take.O Try.f8 bd8 1 ?_
 unfold save_Take at h
 refine kRs 1 [Tm 2 (.ptr 2 0), Ob 2 (TShard.ob_00010111 (TShard.mk 0 0 0 (TStore.mk [] 0) [] [] []))] [] .n ?_
 refine kRs 7 [Tm 4 (.ptr 4 0), Ob 4 [.ptr 10 0], Ob 10 [sS 1 e_u8 b, bv false]] [] .n ?_
 refine kRs 63 [Tm 5 (.ptr 5 0), Ob 5 [.fn (.func 15) [.ptr 10 0] []]] [] .n ?_
 obtain ⟨⟨r4_1, r4_2⟩, h4_3, h⟩ := bd_inv h
 obtain ⟨⟨r4_4, r4_5⟩, h4_6, h⟩ := bd_inv h
 obtain ⟨⟨r4_7, r4_8⟩, h4_9, h⟩ := bd_inv h
 refine kRs 239 [Tm 6 (.ptr 6 0), Ob 6 (TShard.ob_00010111 (TShard.mk r4_1 r4_4 r4_7 (TStore.mk [] 0) [] [] [])), Ob 10 [sS 1 e_u8 r4_8.b, bv r4_8.bad]] [.a ⟨iv r4_1, [[sS 1 e_u8 r4_2.b, bv r4_2.bad]]⟩, .a ⟨iv r4_4, [[sS 1 e_u8 r4_5.b, bv r4_5.bad]]⟩, .a ⟨iv r4_7, [[sS 1 e_u8 r4_8.b, bv r4_8.bad]]⟩] (.c (Asks.of (C := Meets Try.prog) (save_reader_num.meets fu (TReader.mk b false) _ _ h4_3)) (.c (Asks.of (C := Meets Try.prog) (save_reader_num.meets fu r4_2 _ _ h4_6)) (.c (Asks.of (C := Meets Try.prog) (save_reader_num.meets fu r4_5 _ _ h4_9)) (.c rT .n)))) ?_
 obtain ⟨⟨r5_1, r5_2⟩, h5_3, h⟩ := bd_inv h
 refine kRs 1017 [Ob 6 (TShard.ob_00010111 (TShard.mk r4_1 r4_4 r4_7 (TStore.mk [] r5_1) [] [] [])), Ob 10 [sS 1 e_u8 r5_2.b, bv r5_2.bad]] [.a ⟨iv r5_1, [[sS 1 e_u8 r5_2.b, bv r5_2.bad]]⟩] (.c (Asks.of (C := Meets Try.prog) (save_reader_num.meets fu r4_8 _ _ h5_3)) .n) ?_
 obtain ⟨⟨r6_1, r6_2⟩, h6_3, h⟩ := bd_inv h
 obtain ⟨⟨r6_4, r6_5⟩, h6_6, h⟩ := bd_inv h
 refine kRs 1020 [Ob 6 (TShard.ob_00010111 r6_5), Ob 10 [sS 1 e_u8 r6_4.b, bv r6_4.bad]] [.a ⟨iv r6_1, [[sS 1 e_u8 r6_2.b, bv r6_2.bad]]⟩, .a ⟨.tup [], [[sS 1 e_u8 r6_4.b, bv r6_4.bad], (TShard.ob_00010111 r6_5), [.ptr 1000 0]]⟩] (.c (Asks.of (C := Meets Try.prog) (save_reader_num.meets fu r5_2 _ _ h6_3)) (.c (Asks.of (C := Meets Try.prog) (save_reader_many.meets fu r6_1 r6_2 (TShard.mk r4_1 r4_4 r4_7 (TStore.mk [] r5_1) [] [] []) _ _ h6_6)) (.c rT .n))) ?_
 obtain ⟨⟨r7_1, r7_2⟩, h7_3, h⟩ := bd_inv h
 obtain ⟨⟨r7_4, r7_5⟩, h7_6, h⟩ := bd_inv h
 refine kRs 1020 [Ob 6 (TShard.ob_00010111 r7_5), Ob 10 [sS 1 e_u8 r7_4.b, bv r7_4.bad]] [.a ⟨iv r7_1, [[sS 1 e_u8 r7_2.b, bv r7_2.bad]]⟩, .a ⟨.tup [], [[sS 1 e_u8 r7_4.b, bv r7_4.bad], (TShard.ob_00010111 r7_5), [.fn (.func 15) [.ptr 1000 0] []]]⟩] (.c (Asks.of (C := Meets Try.prog) (save_reader_num.meets fu r6_4 _ _ h7_3)) (.c (Asks.of (C := Meets Try.prog) (save_reader_many_3.meets fu r7_1 r7_2 r6_5 _ _ h7_6)) (.c rT .n))) ?_
 obtain ⟨⟨r8_1, r8_2⟩, h8_3, h⟩ := bd_inv h
 refine kRs 1020 [Ob 6 (TShard.ob_00010111 r8_2), Ob 10 [sS 1 e_u8 r8_1.b, bv r8_1.bad]] [.a ⟨.tup [], [[sS 1 e_u8 r8_1.b, bv r8_1.bad], (TShard.ob_00010111 r8_2), [.fn (.func 15) [.ptr 1000 0] []]]⟩] (.c (Asks.of (C := Meets Try.prog) (save_reader_many_4.meets fu r7_5.Done r7_4 r7_5 _ _ h8_3)) .n) ?_
 obtain ⟨⟨r9_1, r9_2⟩, h9_3, h⟩ := bd_inv h
 refine kRs 996 [Ob 6 (TShard.ob_00010111 r9_2), Ob 10 [sS 1 e_u8 r9_1.b, bv r9_1.bad]] [.a ⟨.tup [], [[sS 1 e_u8 r9_1.b, bv r9_1.bad], (TShard.ob_00010111 r9_2), [.fn (.func 15) [.ptr 1000 0] []]]⟩] (.c (Asks.of (C := Meets Try.prog) (save_reader_many_5.meets fu r8_2.Done r8_1 r8_2 _ _ h9_3)) .n) ?_
 refine kSq ?_
 obtain ⟨r10_1, h10_2, h⟩ := bd_inv h
 refine kRs 254 [Tm 7 (.data (.slc true (some r10_1.isEmpty) 1 (List.map e_u8 r10_1))), Ob 6 (TShard.ob r9_2)] [.a ⟨.data (.slc true (some r10_1.isEmpty) 1 (List.map e_u8 r10_1)), []⟩] (.c (Asks.of (C := Meets Try.prog) (save_Put.meets fu r9_2 _ h10_2)) .n) ?_
 rcases br_inv h with ⟨b11_1, h⟩ | ⟨b11_1, h⟩
 ·refine kRs 202 [Tm 59 (bv true)] (rp 8 (.b true) []) (.r 3 b11_1 (.r 5 rT .n)) ?_
  refine kCt rT ?_
  refine kRs 24 [Tm 3 (bv false)] [] .n ?_
  refine kRt ?_
  have h_0 := some_inj h
  obtain ⟨g_1, h_1⟩ := Prod.mk.inj h_0
  subst g_1
  subst h_1
  exact kFr
 ·rcases br_inv h with ⟨b11_2, h⟩ | ⟨b11_2, h⟩
  ·refine kRs 202 [Tm 59 (bv true)] (.b false :: (.b false :: (.b false :: (rp 5 (.b true) [])))) (.r 3 b11_1 (.r 5 b11_2 .n)) ?_
   refine kCt rT ?_
   refine kRs 24 [Tm 3 (bv false)] [] .n ?_
   refine kRt ?_
   have h_0 := some_inj h
   obtain ⟨g_1, h_1⟩ := Prod.mk.inj h_0
   subst g_1
   subst h_1
   exact kFr
  ·obtain ⟨r11_3, h11_4, h⟩ := bd_inv h
   refine kRs 202 [Tm 59 (bv (!r11_3))] (rp 6 (.b false) [.a ⟨bv r11_3, []⟩, .b false, .b false]) (.r 3 b11_1 (.r 3 b11_2 (.c (Asks.fg (args1 := []) (args2 := [sS 1 e_u8 b]) (nl := some r10_1.isEmpty) (sz := 1) (es := List.map e_u8 r10_1) (Asks.of (C := Meets Try.prog) (bytes_Equal.meets r10_1 b _ h11_4))) (.r 2 b11_2 .n)))) ?_
   rcases br_inv h with ⟨b14_0, h⟩ | ⟨b14_0, h⟩
   ·refine kCt b14_0 ?_
    refine kRs 24 [Tm 3 (bv false)] [] .n ?_
    refine kRt ?_
    have h_0 := some_inj h
    obtain ⟨g_1, h_1⟩ := Prod.mk.inj h_0
    subst g_1
    subst h_1
    exact kFr
   ·refine kCe b14_0 ?_
    refine kSk ?_
    refine kCd (cR (cR (cR (cR (cR (cR (cR (cR (cR (cR bd8)))))))))) [] ?_
    refine kRs 8 [Tm 3 (bv true), Ob 2 (TShard.ob r9_2)] [] .n ?_
    refine kRt ?_
    have h_0 := some_inj h
    obtain ⟨g_1, h_1⟩ := Prod.mk.inj h_0
    subst g_1
    subst h_1
    exact kFr
def bd40 : Code := (Try.f40.body).getD .skip
def diwanref13_SameChain.O : Nat → Nat := fun t => bif ([4, 5] : List Nat).any (Nat.beq t) then 1 else 0
def diwanref13_SameChain.lp6 (fu : Nat) (l6_0 : List TVersion) (l6_1 : List TVersion) : Nat → Int → Option (Unit ⊕ Unit)
  | 0, _ => none
  | n_ + 1, l6_2 =>
  br (decide (l6_2 < (l6_0.length : Int)))
   (ix l6_0 l6_2 fun x9_1 =>
   ix l6_1 l6_2 fun x9_4 =>
   br (!((x9_1.Pos == x9_4.Pos) && ((x9_1.Val.toList == x9_4.Val.toList) && ((x9_1.Gone == x9_4.Gone) && true))))
    (some (.inr ()))
    (diwanref13_SameChain.lp6 fu l6_0 l6_1 n_ (w64 (l6_2 + 1))))
   (some (.inl ()))
def diwanref13_SameChain.lp6_post (l6_0 : List TVersion) (l6_1 : List TVersion) (r_ : (Unit ⊕ Unit)) : Wy → St → Prop := fun e τ => match r_ with
  | .inl _ => e = .exit 0 ∧ τ = ofL []
  | .inr _ => e = .ret ∧ τ = ofL [Tm 4 (bv false)]
theorem diwanref13_SameChain.lp6_ok (fu : Nat) (l6_0 : List TVersion) (l6_1 : List TVersion) : ∀ (n_ : Nat) (l6_2 : Int) (r_ : (Unit ⊕ Unit)), diwanref13_SameChain.lp6 fu l6_0 l6_1 n_ l6_2 = some r_ → WK Try.prog diwanref13_SameChain.O (Ck Try.prog) (cB (cR (cL (cR (cR bd40))))) [] (ofL [Tm 0 (sS 3 TVersion.en l6_0), Tm 1 (sS 3 TVersion.en l6_1), Tm 5 (iv l6_2)]) (diwanref13_SameChain.lp6_post l6_0 l6_1 r_) := by
 intro n_
 induction n_ with
 | zero => intro l6_2 r_ h; exact no_none h
 | succ n_ ih =>
  intro l6_2 r_ h
  refine kLp ?_
  refine kSq ?_
  refine kRs 7 [Tm 14 (bv (decide (l6_2 < (l6_0.length : Int))))] [.s (.t 13) [iv (l6_0.length : Int)]] (.c (c_len (e := TVersion.en) (l := l6_0)) .n) ?_
  rcases br_inv h with ⟨b8_0, h⟩ | ⟨b8_0, h⟩
  ·refine kCt b8_0 ?_
   refine kSk ?_
   refine kCd (cR (cB (cB (cR (cL (cR (cR bd40))))))) [.lp (cB (cR (cL (cR (cR bd40)))))] ?_
   refine kSq ?_
   refine kBk 1 ?_
   obtain ⟨x9_1, a9_2, e9_3, h⟩ := ix_inv h
   obtain ⟨x9_4, a9_5, e9_6, h⟩ := ix_inv h
   refine kRs 14 [Tm 25 (bv (!((x9_1.Pos == x9_4.Pos) && ((x9_1.Val.toList == x9_4.Val.toList) && ((x9_1.Gone == x9_4.Gone) && true)))))] [.c (TVersion.en x9_1), .c (TVersion.en x9_4)] (.c (c_ix (e := TVersion.en) a9_2 e9_3) (.c (c_el (e := TVersion.en) e9_3) (.c (c_ix (e := TVersion.en) a9_5 e9_6) (.c (c_el (e := TVersion.en) e9_6) (.c rT .n))))) ?_
   rcases br_inv h with ⟨b10_0, h⟩ | ⟨b10_0, h⟩
   ·refine kCt b10_0 ?_
    refine kRs 0 [Tm 4 (bv false)] [] .n ?_
    cases some_inj h
    refine kWo ?_
    refine kRt ?_
    exact kOut
   ·refine kCe b10_0 ?_
    refine kSk ?_
    refine kCd (cR (cR (cB (cB (cR (cL (cR (cR bd40)))))))) [.lp (cB (cR (cL (cR (cR bd40)))))] ?_
    refine kRc 6 [Tm 5 (iv (w64 (l6_2 + 1)))] [] .n (cB (cR (cL (cR (cR bd40))))) [] ?_
    exact kWk (ih (w64 (l6_2 + 1)) _ h)
  ·refine kCe b8_0 ?_
   cases some_inj h
   refine kWo ?_
   refine kXt 0 ?_
   exact kOut
def diwanref13_SameChain (fu : Nat) (a : List TVersion) (b : List TVersion) : Option Bool :=
 br ((a.length : Int) != (b.length : Int))
  (some false)
  (bd (diwanref13_SameChain.lp6 fu a b fu 0) fun o_ => (match o_ with
  | .inl _ =>
   some true
  | .inr _ =>
   some false))
theorem diwanref13_SameChain.meets (fu : Nat) (a : List TVersion) (b : List TVersion) (z0 : Bool) (h : diwanref13_SameChain fu a b = some z0) : Meets Try.prog ⟨40, [sS 3 TVersion.en a, sS 3 TVersion.en b], []⟩ ⟨bv z0, []⟩ := by
 refine kMt hmix diwanref13_SameChain.O Try.f40 bd40 3 ?_
 unfold diwanref13_SameChain at h
 refine kRs 3 [] [] .n ?_
 refine kSq ?_
 refine kRs 3 [Tm 10 (bv ((a.length : Int) != (b.length : Int)))] [.s (.t 7) [iv (a.length : Int)], .s (.t 9) [iv (b.length : Int)]] (.c (c_len (e := TVersion.en) (l := a)) (.c (c_len (e := TVersion.en) (l := b)) .n)) ?_
 rcases br_inv h with ⟨b3_0, h⟩ | ⟨b3_0, h⟩
 ·refine kCt b3_0 ?_
  refine kRs 0 [Tm 4 (bv false)] [] .n ?_
  refine kRt ?_
  have h_ := some_inj h
  subst h_
  exact kFr
 ·refine kCe b3_0 ?_
  refine kSk ?_
  refine kCd (cR (cR bd40)) [] ?_
  refine kSq ?_
  refine kRs 6 [Tm 5 (iv 0)] [] .n ?_
  refine kBk 0 ?_
  obtain ⟨o13, ho13, h⟩ := bd_inv h
  refine kUs (diwanref13_SameChain.lp6_ok fu a b _ 0 _ ho13) ?_
  intro e_ τ_ hp_
  rcases o13 with o13 | o13
  ·obtain ⟨⟩ := o13
   obtain ⟨rfl, rfl⟩ := hp_
   refine kCd (cR (cR (cR bd40))) [] ?_
   refine kRs 0 [Tm 4 (bv true)] [] .n ?_
   refine kRt ?_
   have h_ := some_inj h
   subst h_
   exact kFr
  ·obtain ⟨⟩ := o13
   obtain ⟨rfl, rfl⟩ := hp_
   have h_ := some_inj h
   subst h_
   exact kFr
def bd23 : Code := (Try.f23.body).getD .skip
def diwanref13_SameStore.O : Nat → Nat := fun t => bif ([2, 3, 4, 5] : List Nat).any (Nat.beq t) then 1 else 0
def diwanref13_SameStore.lp7 (fu : Nat) (l7_1 : TStore) (l7_2 : TStore) : Nat → Int → Option (Unit ⊕ Unit)
  | 0, _ => none
  | n_ + 1, l7_0 =>
  br (decide (l7_0 < (l7_1.Chains.length : Int)))
   (ix l7_1.Chains l7_0 fun x10_1 =>
   ix l7_2.Chains l7_0 fun x10_4 =>
   br (!(x10_1.Key.toList == x10_4.Key.toList))
    (some (.inr ()))
    (ix l7_1.Chains l7_0 fun x10_8 =>
    ix l7_2.Chains l7_0 fun x10_11 =>
    bd (diwanref13_SameChain fu x10_8.L x10_11.L) fun r10_14 =>
    br (!r10_14)
     (some (.inr ()))
     (diwanref13_SameStore.lp7 fu l7_1 l7_2 n_ (w64 (l7_0 + 1)))))
   (some (.inl ()))
def diwanref13_SameStore.lp7_post (l7_1 : TStore) (l7_2 : TStore) (r_ : (Unit ⊕ Unit)) : Wy → St → Prop := fun e τ => match r_ with
  | .inl _ => e = .exit 0 ∧ τ = ofL []
  | .inr _ => e = .ret ∧ τ = ofL [Tm 4 (bv false)]
theorem diwanref13_SameStore.lp7_ok (fu : Nat) (l7_1 : TStore) (l7_2 : TStore) : ∀ (n_ : Nat) (l7_0 : Int) (r_ : (Unit ⊕ Unit)), diwanref13_SameStore.lp7 fu l7_1 l7_2 n_ l7_0 = some r_ → WK Try.prog diwanref13_SameStore.O (Ck Try.prog) (cB (cR (cL (cR (cR bd23))))) [] (ofL [Tm 2 (.ptr 2 0), Tm 3 (.ptr 3 0), Tm 5 (iv l7_0), Ob 2 [sS 2 TChain.en l7_1.Chains, iv l7_1.Mark], Ob 3 [sS 2 TChain.en l7_2.Chains, iv l7_2.Mark]]) (diwanref13_SameStore.lp7_post l7_1 l7_2 r_) := by
 intro n_
 induction n_ with
 | zero => intro l7_0 r_ h; exact no_none h
 | succ n_ ih =>
  intro l7_0 r_ h
  refine kLp ?_
  refine kSq ?_
  refine kRs 31 [Tm 24 (bv (decide (l7_0 < (l7_1.Chains.length : Int))))] [.s (.t 23) [iv (l7_1.Chains.length : Int)]] (.c (c_len (e := TChain.en) (l := l7_1.Chains)) .n) ?_
  rcases br_inv h with ⟨b9_0, h⟩ | ⟨b9_0, h⟩
  ·refine kCt b9_0 ?_
   refine kSk ?_
   refine kCd (cR (cB (cB (cR (cL (cR (cR bd23))))))) [.lp (cB (cR (cL (cR (cR bd23)))))] ?_
   refine kSq ?_
   refine kBk 1 ?_
   obtain ⟨x10_1, a10_2, e10_3, h⟩ := ix_inv h
   obtain ⟨x10_4, a10_5, e10_6, h⟩ := ix_inv h
   rcases br_inv h with ⟨b10_7, h⟩ | ⟨b10_7, h⟩
   ·refine kRs 62 [Tm 55 (bv true)] (.c (TChain.en x10_1) :: (.c (TChain.en x10_4) :: (rp 15 (.b true) []))) (.c (c_ix (e := TChain.en) a10_2 e10_3) (.c (c_el (e := TChain.en) e10_3) (.c (c_ix (e := TChain.en) a10_5 e10_6) (.c (c_el (e := TChain.en) e10_6) (.r 15 b10_7 (.c rT .n)))))) ?_
    refine kCt rT ?_
    refine kRs 0 [Tm 4 (bv false)] [] .n ?_
    cases some_inj h
    refine kWo ?_
    refine kRt ?_
    exact kOut
   ·obtain ⟨x10_8, a10_9, e10_10, h⟩ := ix_inv h
    obtain ⟨x10_11, a10_12, e10_13, h⟩ := ix_inv h
    obtain ⟨r10_14, h10_15, h⟩ := bd_inv h
    refine kRs 62 [Tm 55 (bv (!r10_14))] (.c (TChain.en x10_1) :: (.c (TChain.en x10_4) :: (rp 4 (.b false) (.c (TChain.en x10_8) :: (rp 6 (.b false) [.c (TChain.en x10_11), .b false, .b false, .b false, .a ⟨bv r10_14, []⟩, .b false, .b false]))))) (.c (c_ix (e := TChain.en) a10_2 e10_3) (.c (c_el (e := TChain.en) e10_3) (.c (c_ix (e := TChain.en) a10_5 e10_6) (.c (c_el (e := TChain.en) e10_6) (.r 4 b10_7 (.c (c_ix (e := TChain.en) a10_9 e10_10) (.c (c_el (e := TChain.en) e10_10) (.r 6 b10_7 (.c (c_ix (e := TChain.en) a10_12 e10_13) (.c (c_el (e := TChain.en) e10_13) (.r 3 b10_7 (.c (Asks.of (C := Meets Try.prog) (diwanref13_SameChain.meets fu x10_8.L x10_11.L _ h10_15)) (.r 2 b10_7 (.c rT .n)))))))))))))) ?_
    rcases br_inv h with ⟨b12_0, h⟩ | ⟨b12_0, h⟩
    ·refine kCt b12_0 ?_
     refine kRs 0 [Tm 4 (bv false)] [] .n ?_
     cases some_inj h
     refine kWo ?_
     refine kRt ?_
     exact kOut
    ·refine kCe b12_0 ?_
     refine kSk ?_
     refine kCd (cR (cR (cB (cB (cR (cL (cR (cR bd23)))))))) [.lp (cB (cR (cL (cR (cR bd23)))))] ?_
     refine kRc 54 [Tm 5 (iv (w64 (l7_0 + 1)))] [] .n (cB (cR (cL (cR (cR bd23))))) [] ?_
     exact kWk (ih (w64 (l7_0 + 1)) _ h)
  ·refine kCe b9_0 ?_
   cases some_inj h
   refine kWo ?_
   refine kXt 0 ?_
   exact kOut
def diwanref13_SameStore (fu : Nat) (a : TStore) (b : TStore) : Option Bool :=
 br (a.Mark != b.Mark)
  (some false)
  (br ((a.Chains.length : Int) != (b.Chains.length : Int))
   (some false)
   (bd (diwanref13_SameStore.lp7 fu a b fu 0) fun o_ => (match o_ with
   | .inl _ =>
    some true
   | .inr _ =>
    some false)))
theorem diwanref13_SameStore.meets (fu : Nat) (a : TStore) (b : TStore) (z0 : Bool) (h : diwanref13_SameStore fu a b = some z0) : Meets Try.prog ⟨23, [.data (.agg [.slc false none 2 (List.map TChain.en a.Chains), .val (.int .i64 a.Mark)]), .data (.agg [.slc false none 2 (List.map TChain.en b.Chains), .val (.int .i64 b.Mark)])], []⟩ ⟨bv z0, []⟩ := by
 refine kMt hmix diwanref13_SameStore.O Try.f23 bd23 3 ?_
 unfold diwanref13_SameStore at h
 refine kRs 0 [Tm 2 (.ptr 2 0), Tm 3 (.ptr 3 0), Ob 2 [sS 2 TChain.en a.Chains, iv a.Mark], Ob 3 [sS 2 TChain.en b.Chains, iv b.Mark]] [] .n ?_
 refine kSq ?_
 rcases br_inv h with ⟨b2_1, h⟩ | ⟨b2_1, h⟩
 ·refine kRs 15 [Tm 19 (bv true)] (rp 8 (.b true) []) (.r 8 b2_1 .n) ?_
  refine kCt rT ?_
  refine kRs 0 [Tm 4 (bv false)] [] .n ?_
  refine kRt ?_
  have h_ := some_inj h
  subst h_
  exact kFr
 ·refine kRs 15 [Tm 19 (bv ((a.Chains.length : Int) != (b.Chains.length : Int)))] [.b false, .b false, .b false, .s (.t 14) [iv (a.Chains.length : Int)], .b false, .b false, .b false, .s (.t 17) [iv (b.Chains.length : Int)], .b false, .b false] (.r 3 b2_1 (.c (c_len (e := TChain.en) (l := a.Chains)) (.r 3 b2_1 (.c (c_len (e := TChain.en) (l := b.Chains)) (.r 2 b2_1 .n))))) ?_
  rcases br_inv h with ⟨b4_0, h⟩ | ⟨b4_0, h⟩
  ·refine kCt b4_0 ?_
   refine kRs 0 [Tm 4 (bv false)] [] .n ?_
   refine kRt ?_
   have h_ := some_inj h
   subst h_
   exact kFr
  ·refine kCe b4_0 ?_
   refine kSk ?_
   refine kCd (cR (cR bd23)) [] ?_
   refine kSq ?_
   refine kRs 30 [Tm 5 (iv 0)] [] .n ?_
   refine kBk 0 ?_
   obtain ⟨o15, ho15, h⟩ := bd_inv h
   refine kUs (diwanref13_SameStore.lp7_ok fu a b _ 0 _ ho15) ?_
   intro e_ τ_ hp_
   rcases o15 with o15 | o15
   ·obtain ⟨⟩ := o15
    obtain ⟨rfl, rfl⟩ := hp_
    refine kCd (cR (cR (cR bd23))) [] ?_
    refine kRs 0 [Tm 4 (bv true)] [] .n ?_
    refine kRt ?_
    have h_ := some_inj h
    subst h_
    exact kFr
   ·obtain ⟨⟩ := o15
    obtain ⟨rfl, rfl⟩ := hp_
    have h_ := some_inj h
    subst h_
    exact kFr
def bd24 : Code := (Try.f24.body).getD .skip
def diwanref13_SameSeats.O : Nat → Nat := fun t => bif ([4, 5] : List Nat).any (Nat.beq t) then 1 else 0
def diwanref13_SameSeats.lp6 (fu : Nat) (l6_0 : List TSeat) (l6_1 : List TSeat) : Nat → Int → Option (Unit ⊕ Unit)
  | 0, _ => none
  | n_ + 1, l6_2 =>
  br (decide (l6_2 < (l6_0.length : Int)))
   (ix l6_0 l6_2 fun x9_1 =>
   ix l6_1 l6_2 fun x9_4 =>
   br (!((x9_1.Session == x9_4.Session) && ((x9_1.Seq == x9_4.Seq) && ((x9_1.Pos == x9_4.Pos) && true))))
    (some (.inr ()))
    (diwanref13_SameSeats.lp6 fu l6_0 l6_1 n_ (w64 (l6_2 + 1))))
   (some (.inl ()))
def diwanref13_SameSeats.lp6_post (l6_0 : List TSeat) (l6_1 : List TSeat) (r_ : (Unit ⊕ Unit)) : Wy → St → Prop := fun e τ => match r_ with
  | .inl _ => e = .exit 0 ∧ τ = ofL []
  | .inr _ => e = .ret ∧ τ = ofL [Tm 4 (bv false)]
theorem diwanref13_SameSeats.lp6_ok (fu : Nat) (l6_0 : List TSeat) (l6_1 : List TSeat) : ∀ (n_ : Nat) (l6_2 : Int) (r_ : (Unit ⊕ Unit)), diwanref13_SameSeats.lp6 fu l6_0 l6_1 n_ l6_2 = some r_ → WK Try.prog diwanref13_SameSeats.O (Ck Try.prog) (cB (cR (cL (cR (cR bd24))))) [] (ofL [Tm 0 (sS 3 TSeat.en l6_0), Tm 1 (sS 3 TSeat.en l6_1), Tm 5 (iv l6_2)]) (diwanref13_SameSeats.lp6_post l6_0 l6_1 r_) := by
 intro n_
 induction n_ with
 | zero => intro l6_2 r_ h; exact no_none h
 | succ n_ ih =>
  intro l6_2 r_ h
  refine kLp ?_
  refine kSq ?_
  refine kRs 7 [Tm 14 (bv (decide (l6_2 < (l6_0.length : Int))))] [.s (.t 13) [iv (l6_0.length : Int)]] (.c (c_len (e := TSeat.en) (l := l6_0)) .n) ?_
  rcases br_inv h with ⟨b8_0, h⟩ | ⟨b8_0, h⟩
  ·refine kCt b8_0 ?_
   refine kSk ?_
   refine kCd (cR (cB (cB (cR (cL (cR (cR bd24))))))) [.lp (cB (cR (cL (cR (cR bd24)))))] ?_
   refine kSq ?_
   refine kBk 1 ?_
   obtain ⟨x9_1, a9_2, e9_3, h⟩ := ix_inv h
   obtain ⟨x9_4, a9_5, e9_6, h⟩ := ix_inv h
   refine kRs 14 [Tm 25 (bv (!((x9_1.Session == x9_4.Session) && ((x9_1.Seq == x9_4.Seq) && ((x9_1.Pos == x9_4.Pos) && true)))))] [.c (TSeat.en x9_1), .c (TSeat.en x9_4)] (.c (c_ix (e := TSeat.en) a9_2 e9_3) (.c (c_el (e := TSeat.en) e9_3) (.c (c_ix (e := TSeat.en) a9_5 e9_6) (.c (c_el (e := TSeat.en) e9_6) (.c rT .n))))) ?_
   rcases br_inv h with ⟨b10_0, h⟩ | ⟨b10_0, h⟩
   ·refine kCt b10_0 ?_
    refine kRs 0 [Tm 4 (bv false)] [] .n ?_
    cases some_inj h
    refine kWo ?_
    refine kRt ?_
    exact kOut
   ·refine kCe b10_0 ?_
    refine kSk ?_
    refine kCd (cR (cR (cB (cB (cR (cL (cR (cR bd24)))))))) [.lp (cB (cR (cL (cR (cR bd24)))))] ?_
    refine kRc 6 [Tm 5 (iv (w64 (l6_2 + 1)))] [] .n (cB (cR (cL (cR (cR bd24))))) [] ?_
    exact kWk (ih (w64 (l6_2 + 1)) _ h)
  ·refine kCe b8_0 ?_
   cases some_inj h
   refine kWo ?_
   refine kXt 0 ?_
   exact kOut
def diwanref13_SameSeats (fu : Nat) (a : List TSeat) (b : List TSeat) : Option Bool :=
 br ((a.length : Int) != (b.length : Int))
  (some false)
  (bd (diwanref13_SameSeats.lp6 fu a b fu 0) fun o_ => (match o_ with
  | .inl _ =>
   some true
  | .inr _ =>
   some false))
theorem diwanref13_SameSeats.meets (fu : Nat) (a : List TSeat) (b : List TSeat) (z0 : Bool) (h : diwanref13_SameSeats fu a b = some z0) : Meets Try.prog ⟨24, [sS 3 TSeat.en a, sS 3 TSeat.en b], []⟩ ⟨bv z0, []⟩ := by
 refine kMt hmix diwanref13_SameSeats.O Try.f24 bd24 3 ?_
 unfold diwanref13_SameSeats at h
 refine kRs 3 [] [] .n ?_
 refine kSq ?_
 refine kRs 3 [Tm 10 (bv ((a.length : Int) != (b.length : Int)))] [.s (.t 7) [iv (a.length : Int)], .s (.t 9) [iv (b.length : Int)]] (.c (c_len (e := TSeat.en) (l := a)) (.c (c_len (e := TSeat.en) (l := b)) .n)) ?_
 rcases br_inv h with ⟨b3_0, h⟩ | ⟨b3_0, h⟩
 ·refine kCt b3_0 ?_
  refine kRs 0 [Tm 4 (bv false)] [] .n ?_
  refine kRt ?_
  have h_ := some_inj h
  subst h_
  exact kFr
 ·refine kCe b3_0 ?_
  refine kSk ?_
  refine kCd (cR (cR bd24)) [] ?_
  refine kSq ?_
  refine kRs 6 [Tm 5 (iv 0)] [] .n ?_
  refine kBk 0 ?_
  obtain ⟨o13, ho13, h⟩ := bd_inv h
  refine kUs (diwanref13_SameSeats.lp6_ok fu a b _ 0 _ ho13) ?_
  intro e_ τ_ hp_
  rcases o13 with o13 | o13
  ·obtain ⟨⟩ := o13
   obtain ⟨rfl, rfl⟩ := hp_
   refine kCd (cR (cR (cR bd24))) [] ?_
   refine kRs 0 [Tm 4 (bv true)] [] .n ?_
   refine kRt ?_
   have h_ := some_inj h
   subst h_
   exact kFr
  ·obtain ⟨⟩ := o13
   obtain ⟨rfl, rfl⟩ := hp_
   have h_ := some_inj h
   subst h_
   exact kFr
def bd25 : Code := (Try.f25.body).getD .skip
def diwanref13_SameInts.O : Nat → Nat := fun t => bif ([4, 5] : List Nat).any (Nat.beq t) then 1 else 0
def diwanref13_SameInts.lp6 (fu : Nat) (l6_0 : List Int) (l6_1 : List Int) : Nat → Int → Option (Unit ⊕ Unit)
  | 0, _ => none
  | n_ + 1, l6_2 =>
  br (decide (l6_2 < (l6_0.length : Int)))
   (ix l6_0 l6_2 fun x9_1 =>
   ix l6_1 l6_2 fun x9_4 =>
   br (x9_1 != x9_4)
    (some (.inr ()))
    (diwanref13_SameInts.lp6 fu l6_0 l6_1 n_ (w64 (l6_2 + 1))))
   (some (.inl ()))
def diwanref13_SameInts.lp6_post (l6_0 : List Int) (l6_1 : List Int) (r_ : (Unit ⊕ Unit)) : Wy → St → Prop := fun e τ => match r_ with
  | .inl _ => e = .exit 0 ∧ τ = ofL []
  | .inr _ => e = .ret ∧ τ = ofL [Tm 4 (bv false)]
theorem diwanref13_SameInts.lp6_ok (fu : Nat) (l6_0 : List Int) (l6_1 : List Int) : ∀ (n_ : Nat) (l6_2 : Int) (r_ : (Unit ⊕ Unit)), diwanref13_SameInts.lp6 fu l6_0 l6_1 n_ l6_2 = some r_ → WK Try.prog diwanref13_SameInts.O (Ck Try.prog) (cB (cR (cL (cR (cR bd25))))) [] (ofL [Tm 0 (sS 1 e_i64 l6_0), Tm 1 (sS 1 e_i64 l6_1), Tm 5 (iv l6_2)]) (diwanref13_SameInts.lp6_post l6_0 l6_1 r_) := by
 intro n_
 induction n_ with
 | zero => intro l6_2 r_ h; exact no_none h
 | succ n_ ih =>
  intro l6_2 r_ h
  refine kLp ?_
  refine kSq ?_
  refine kRs 7 [Tm 14 (bv (decide (l6_2 < (l6_0.length : Int))))] [.s (.t 13) [iv (l6_0.length : Int)]] (.c (c_len (e := e_i64) (l := l6_0)) .n) ?_
  rcases br_inv h with ⟨b8_0, h⟩ | ⟨b8_0, h⟩
  ·refine kCt b8_0 ?_
   refine kSk ?_
   refine kCd (cR (cB (cB (cR (cL (cR (cR bd25))))))) [.lp (cB (cR (cL (cR (cR bd25)))))] ?_
   refine kSq ?_
   refine kBk 1 ?_
   obtain ⟨x9_1, a9_2, e9_3, h⟩ := ix_inv h
   obtain ⟨x9_4, a9_5, e9_6, h⟩ := ix_inv h
   refine kRs 14 [Tm 25 (bv (x9_1 != x9_4))] [.c (e_i64 x9_1), .c (e_i64 x9_4)] (.c (c_ix (e := e_i64) a9_2 e9_3) (.c (c_el (e := e_i64) e9_3) (.c (c_ix (e := e_i64) a9_5 e9_6) (.c (c_el (e := e_i64) e9_6) (.c rT .n))))) ?_
   rcases br_inv h with ⟨b10_0, h⟩ | ⟨b10_0, h⟩
   ·refine kCt b10_0 ?_
    refine kRs 0 [Tm 4 (bv false)] [] .n ?_
    cases some_inj h
    refine kWo ?_
    refine kRt ?_
    exact kOut
   ·refine kCe b10_0 ?_
    refine kSk ?_
    refine kCd (cR (cR (cB (cB (cR (cL (cR (cR bd25)))))))) [.lp (cB (cR (cL (cR (cR bd25)))))] ?_
    refine kRc 6 [Tm 5 (iv (w64 (l6_2 + 1)))] [] .n (cB (cR (cL (cR (cR bd25))))) [] ?_
    exact kWk (ih (w64 (l6_2 + 1)) _ h)
  ·refine kCe b8_0 ?_
   cases some_inj h
   refine kWo ?_
   refine kXt 0 ?_
   exact kOut
def diwanref13_SameInts (fu : Nat) (a : List Int) (b : List Int) : Option Bool :=
 br ((a.length : Int) != (b.length : Int))
  (some false)
  (bd (diwanref13_SameInts.lp6 fu a b fu 0) fun o_ => (match o_ with
  | .inl _ =>
   some true
  | .inr _ =>
   some false))
theorem diwanref13_SameInts.meets (fu : Nat) (a : List Int) (b : List Int) (z0 : Bool) (h : diwanref13_SameInts fu a b = some z0) : Meets Try.prog ⟨25, [sS 1 e_i64 a, sS 1 e_i64 b], []⟩ ⟨bv z0, []⟩ := by
 refine kMt hmix diwanref13_SameInts.O Try.f25 bd25 3 ?_
 unfold diwanref13_SameInts at h
 refine kRs 3 [] [] .n ?_
 refine kSq ?_
 refine kRs 3 [Tm 10 (bv ((a.length : Int) != (b.length : Int)))] [.s (.t 7) [iv (a.length : Int)], .s (.t 9) [iv (b.length : Int)]] (.c (c_len (e := e_i64) (l := a)) (.c (c_len (e := e_i64) (l := b)) .n)) ?_
 rcases br_inv h with ⟨b3_0, h⟩ | ⟨b3_0, h⟩
 ·refine kCt b3_0 ?_
  refine kRs 0 [Tm 4 (bv false)] [] .n ?_
  refine kRt ?_
  have h_ := some_inj h
  subst h_
  exact kFr
 ·refine kCe b3_0 ?_
  refine kSk ?_
  refine kCd (cR (cR bd25)) [] ?_
  refine kSq ?_
  refine kRs 6 [Tm 5 (iv 0)] [] .n ?_
  refine kBk 0 ?_
  obtain ⟨o13, ho13, h⟩ := bd_inv h
  refine kUs (diwanref13_SameInts.lp6_ok fu a b _ 0 _ ho13) ?_
  intro e_ τ_ hp_
  rcases o13 with o13 | o13
  ·obtain ⟨⟩ := o13
   obtain ⟨rfl, rfl⟩ := hp_
   refine kCd (cR (cR (cR bd25))) [] ?_
   refine kRs 0 [Tm 4 (bv true)] [] .n ?_
   refine kRt ?_
   have h_ := some_inj h
   subst h_
   exact kFr
  ·obtain ⟨⟩ := o13
   obtain ⟨rfl, rfl⟩ := hp_
   have h_ := some_inj h
   subst h_
   exact kFr
def bd9 : Code := (Try.f9.body).getD .skip
def diwanref13_SameShard.O : Nat → Nat := fun t => bif ([2, 3, 4] : List Nat).any (Nat.beq t) then 1 else 0
def diwanref13_SameShard (fu : Nat) (a : TShard) (b : TShard) : Option Bool :=
 br (a.ID == b.ID)
  (br (a.Shards == b.Shards)
   (br (a.Done == b.Done)
    (bd (diwanref13_SameStore fu a.S b.S) fun r2_4 =>
    br r2_4
     (bd (diwanref13_SameSeats fu a.Seats b.Seats) fun r2_7 =>
     br r2_7
      (bd (diwanref13_SameInts fu a.Bits b.Bits) fun r2_10 =>
      br r2_10
       (bd (diwanref13_SameInts fu a.Said b.Said) fun r2_13 =>
       some r2_13)
       (some false))
      (some false))
     (some false))
    (some false))
   (some false))
  (some false)
theorem diwanref13_SameShard.meets (fu : Nat) (a : TShard) (b : TShard) (z0 : Bool) (h : diwanref13_SameShard fu a b = some z0) : Meets Try.prog ⟨9, [.data (TShard.ag a), .data (TShard.ag b)], []⟩ ⟨bv z0, []⟩ := by
 refine kMt hmix diwanref13_SameShard.O Try.f9 bd9 3 ?_
 unfold diwanref13_SameShard at h
 refine kRs 0 [Tm 2 (.ptr 2 0), Tm 3 (.ptr 3 0), Ob 2 (TShard.ob a), Ob 3 (TShard.ob b)] [] .n ?_
 rcases br_inv h with ⟨b2_1, h⟩ | ⟨b2_1, h⟩
 ·rcases br_inv h with ⟨b2_2, h⟩ | ⟨b2_2, h⟩
  ·rcases br_inv h with ⟨b2_3, h⟩ | ⟨b2_3, h⟩
   ·obtain ⟨r2_4, h2_5, h⟩ := bd_inv h
    rcases br_inv h with ⟨b2_6, h⟩ | ⟨b2_6, h⟩
    ·obtain ⟨r2_7, h2_8, h⟩ := bd_inv h
     rcases br_inv h with ⟨b2_9, h⟩ | ⟨b2_9, h⟩
     ·obtain ⟨r2_10, h2_11, h⟩ := bd_inv h
      rcases br_inv h with ⟨b2_12, h⟩ | ⟨b2_12, h⟩
      ·obtain ⟨r2_13, h2_14, h⟩ := bd_inv h
       refine kRs 0 [Tm 4 (bv r2_13)] (rp 17 (.b true) (.a ⟨bv r2_4, []⟩ :: (rp 6 (.b true) (.a ⟨bv r2_7, []⟩ :: (rp 6 (.b true) (.a ⟨bv r2_10, []⟩ :: (rp 6 (.b true) [.a ⟨bv r2_13, []⟩, .b true]))))))) (.r 6 b2_1 (.r 6 b2_2 (.r 5 b2_3 (.c (Asks.of (C := Meets Try.prog) (diwanref13_SameStore.meets fu a.S b.S _ h2_5)) (.c b2_3 (.r 5 b2_6 (.c (Asks.of (C := Meets Try.prog) (diwanref13_SameSeats.meets fu a.Seats b.Seats _ h2_8)) (.c b2_6 (.r 5 b2_9 (.c (Asks.of (C := Meets Try.prog) (diwanref13_SameInts.meets fu a.Bits b.Bits _ h2_11)) (.c b2_9 (.r 5 b2_12 (.c (Asks.of (C := Meets Try.prog) (diwanref13_SameInts.meets fu a.Said b.Said _ h2_14)) (.c b2_12 .n)))))))))))))) ?_
       refine kRt ?_
       have h_ := some_inj h
       subst h_
       exact kFr
      ·refine kRs 0 [Tm 4 (bv false)] (rp 17 (.b true) (.a ⟨bv r2_4, []⟩ :: (rp 6 (.b true) (.a ⟨bv r2_7, []⟩ :: (rp 6 (.b true) (.a ⟨bv r2_10, []⟩ :: (.b true :: (rp 6 (.b false) [])))))))) (.r 6 b2_1 (.r 6 b2_2 (.r 5 b2_3 (.c (Asks.of (C := Meets Try.prog) (diwanref13_SameStore.meets fu a.S b.S _ h2_5)) (.c b2_3 (.r 5 b2_6 (.c (Asks.of (C := Meets Try.prog) (diwanref13_SameSeats.meets fu a.Seats b.Seats _ h2_8)) (.c b2_6 (.r 5 b2_9 (.c (Asks.of (C := Meets Try.prog) (diwanref13_SameInts.meets fu a.Bits b.Bits _ h2_11)) (.c b2_9 (.r 6 b2_12 .n)))))))))))) ?_
       refine kRt ?_
       have h_ := some_inj h
       subst h_
       exact kFr
     ·refine kRs 0 [Tm 4 (bv false)] (rp 17 (.b true) (.a ⟨bv r2_4, []⟩ :: (rp 6 (.b true) (.a ⟨bv r2_7, []⟩ :: (.b true :: (rp 12 (.b false) [])))))) (.r 6 b2_1 (.r 6 b2_2 (.r 5 b2_3 (.c (Asks.of (C := Meets Try.prog) (diwanref13_SameStore.meets fu a.S b.S _ h2_5)) (.c b2_3 (.r 5 b2_6 (.c (Asks.of (C := Meets Try.prog) (diwanref13_SameSeats.meets fu a.Seats b.Seats _ h2_8)) (.c b2_6 (.r 6 b2_9 (.r 6 rF .n)))))))))) ?_
      refine kRt ?_
      have h_ := some_inj h
      subst h_
      exact kFr
    ·refine kRs 0 [Tm 4 (bv false)] (rp 17 (.b true) (.a ⟨bv r2_4, []⟩ :: (.b true :: (rp 18 (.b false) [])))) (.r 6 b2_1 (.r 6 b2_2 (.r 5 b2_3 (.c (Asks.of (C := Meets Try.prog) (diwanref13_SameStore.meets fu a.S b.S _ h2_5)) (.c b2_3 (.r 6 b2_6 (.r 12 rF .n))))))) ?_
     refine kRt ?_
     have h_ := some_inj h
     subst h_
     exact kFr
   ·refine kRs 0 [Tm 4 (bv false)] (rp 12 (.b true) (rp 24 (.b false) [])) (.r 6 b2_1 (.r 6 b2_2 (.r 6 b2_3 (.r 18 rF .n)))) ?_
    refine kRt ?_
    have h_ := some_inj h
    subst h_
    exact kFr
  ·refine kRs 0 [Tm 4 (bv false)] (rp 6 (.b true) (rp 30 (.b false) [])) (.r 6 b2_1 (.r 6 b2_2 (.r 24 rF .n))) ?_
   refine kRt ?_
   have h_ := some_inj h
   subst h_
   exact kFr
 ·refine kRs 0 [Tm 4 (bv false)] (rp 36 (.b false) []) (.r 6 b2_1 (.r 30 rF .n)) ?_
  refine kRt ?_
  have h_ := some_inj h
  subst h_
  exact kFr
def bd6 : Code := (Try.f6.body).getD .skip
def diwanlaw20_begun.O : Nat → Nat := fun t => bif ([0, 1, 2, 3, 4, 5, 6, 7, 13, 17, 35] : List Nat).any (Nat.beq t) then 1 else 0
def diwanlaw20_begun (fu : Nat) : Option Bool :=
 bd (diwanref13_NewShard 1 2) fun r2_1 =>
 bd (save_Put fu r2_1) fun r3_1 =>
 bd (save_Take fu r3_1) fun (r4_1, r4_2) =>
 bd (save_Take fu []) fun (r5_1, r5_2) =>
 br (decide ((r3_1.length : Int) > 0))
  (br r4_2
   (bd (diwanref13_SameShard fu r4_1 r2_1) fun r6_3 =>
   br r6_3
    (br (!r5_2)
     (bd (save_Put fu (TShard.mk 0 0 0 (TStore.mk [] 0) [] [] [])) fun r6_7 =>
     some ((r6_7.length : Int) == 0))
     (some false))
    (some false))
   (some false))
  (some false)
theorem diwanlaw20_begun.meets (fu : Nat) (z0 : Bool) (h : diwanlaw20_begun fu = some z0) : Meets Try.prog ⟨6, [], []⟩ ⟨bv z0, []⟩ := by
 refine kMt hmix diwanlaw20_begun.O Try.f6 bd6 0 ?_
 unfold diwanlaw20_begun at h
 refine kRs 0 [] [] .n ?_
 obtain ⟨r2_1, h2_2, h⟩ := bd_inv h
 refine kRs 0 [Tm 1 (.ptr 1 0), Ob 1 (TShard.ob_00010111 r2_1)] [.a ⟨.data (TShard.ag_00010111 r2_1), []⟩] (.c (Asks.of (C := Meets Try.prog) (diwanref13_NewShard.meets 1 2 _ h2_2)) .n) ?_
 obtain ⟨r3_1, h3_2, h⟩ := bd_inv h
 refine kRs 1 [Tm 2 (.data (.slc true (some r3_1.isEmpty) 1 (List.map e_u8 r3_1))), Ob 1 (TShard.ob r2_1)] [.a ⟨.data (.slc true (some r3_1.isEmpty) 1 (List.map e_u8 r3_1)), []⟩] (.c (Asks.of (C := Meets Try.prog) (save_Put.meets fu r2_1 _ h3_2)) .n) ?_
 obtain ⟨⟨r4_1, r4_2⟩, h4_3, h⟩ := bd_inv h
 refine kRs 6 [Tm 2 (.data (.slc false (some r3_1.isEmpty) 1 (List.map e_u8 r3_1))), Tm 3 (.ptr 3 0), Tm 4 (bv r4_2), Ob 3 (TShard.ob r4_1)] [.a ⟨.tup [.data (TShard.ag r4_1), bv r4_2], []⟩] (.c (Asks.fg (args1 := []) (args2 := []) (nl := some r3_1.isEmpty) (sz := 1) (es := List.map e_u8 r3_1) (Asks.of (C := Meets Try.prog) (save_Take.meets fu r3_1 _ _ h4_3))) .n) ?_
 obtain ⟨⟨r5_1, r5_2⟩, h5_3, h⟩ := bd_inv h
 refine kRs 63 [Tm 6 (bv r5_2)] [.a ⟨.tup [.data (TShard.ag r5_1), bv r5_2], []⟩] (.c (Asks.fg (args1 := []) (args2 := []) (nl := some true) (sz := 1) (es := List.map e_u8 []) (Asks.of (C := Meets Try.prog) (save_Take.meets fu [] _ _ h5_3))) .n) ?_
 rcases br_inv h with ⟨b6_1, h⟩ | ⟨b6_1, h⟩
 ·rcases br_inv h with ⟨b6_2, h⟩ | ⟨b6_2, h⟩
  ·obtain ⟨r6_3, h6_4, h⟩ := bd_inv h
   rcases br_inv h with ⟨b6_5, h⟩ | ⟨b6_5, h⟩
   ·rcases br_inv h with ⟨b6_6, h⟩ | ⟨b6_6, h⟩
    ·obtain ⟨r6_7, h6_8, h⟩ := bd_inv h
     refine kRs 0 [Tm 0 (bv ((r6_7.length : Int) == 0))] (.s (.t 20) [iv (r3_1.length : Int)] :: (rp 5 (.b true) (.a ⟨bv r6_3, []⟩ :: (rp 6 (.b true) [.a ⟨.data (.slc true (some r6_7.isEmpty) 1 (List.map e_u8 r6_7)), []⟩, .b true, .s (.t 37) [iv (r6_7.length : Int)], .b true, .b true])))) (.c (c_len (e := e_u8) (l := r3_1)) (.r 2 b6_1 (.r 3 b6_2 (.c (Asks.of (C := Meets Try.prog) (diwanref13_SameShard.meets fu r4_1 r2_1 _ h6_4)) (.c b6_2 (.r 3 b6_5 (.r 2 b6_6 (.c (Asks.of (C := Meets Try.prog) (save_Put.meets fu (TShard.mk 0 0 0 (TStore.mk [] 0) [] [] []) _ h6_8)) (.c b6_6 (.c (c_len (e := e_u8) (l := r6_7)) (.r 2 b6_6 .n))))))))))) ?_
     refine kRt ?_
     have h_ := some_inj h
     subst h_
     exact kFr
    ·refine kRs 0 [Tm 0 (bv false)] (.s (.t 20) [iv (r3_1.length : Int)] :: (rp 5 (.b true) (.a ⟨bv r6_3, []⟩ :: (rp 4 (.b true) (rp 5 (.b false) []))))) (.c (c_len (e := e_u8) (l := r3_1)) (.r 2 b6_1 (.r 3 b6_2 (.c (Asks.of (C := Meets Try.prog) (diwanref13_SameShard.meets fu r4_1 r2_1 _ h6_4)) (.c b6_2 (.r 3 b6_5 (.r 5 b6_6 .n))))))) ?_
     refine kRt ?_
     have h_ := some_inj h
     subst h_
     exact kFr
   ·refine kRs 0 [Tm 0 (bv false)] (.s (.t 20) [iv (r3_1.length : Int)] :: (rp 5 (.b true) (.a ⟨bv r6_3, []⟩ :: (.b true :: (rp 8 (.b false) []))))) (.c (c_len (e := e_u8) (l := r3_1)) (.r 2 b6_1 (.r 3 b6_2 (.c (Asks.of (C := Meets Try.prog) (diwanref13_SameShard.meets fu r4_1 r2_1 _ h6_4)) (.c b6_2 (.r 3 b6_5 (.r 5 rF .n))))))) ?_
    refine kRt ?_
    have h_ := some_inj h
    subst h_
    exact kFr
  ·refine kRs 0 [Tm 0 (bv false)] (.s (.t 20) [iv (r3_1.length : Int)] :: (.b true :: (.b true :: (rp 12 (.b false) [])))) (.c (c_len (e := e_u8) (l := r3_1)) (.r 2 b6_1 (.r 4 b6_2 (.r 8 rF .n)))) ?_
   refine kRt ?_
   have h_ := some_inj h
   subst h_
   exact kFr
 ·refine kRs 0 [Tm 0 (bv false)] (.s (.t 20) [iv (r3_1.length : Int)] :: (rp 14 (.b false) [])) (.c (c_len (e := e_u8) (l := r3_1)) (.r 2 b6_1 (.r 12 rF .n))) ?_
  refine kRt ?_
  have h_ := some_inj h
  subst h_
  exact kFr
def bd7 : Code := (Try.f7.body).getD .skip
def diwanlaw0_Lent.O : Nat → Nat := fun t => bif ([2, 3, 4, 5, 9, 21] : List Nat).any (Nat.beq t) then 1 else bif ([39] : List Nat).any (Nat.beq t) then 7 else 0
def diwanlaw0_Lent.lp4 (fu : Nat) (l4_0 : List Int) : Nat → (List Int) → Int → Option (List Int)
  | 0, _, _ => none
  | n_ + 1, l4_1, l4_2 =>
  br (decide (l4_2 < (l4_1.length : Int)))
   (ix l4_1 l4_2 fun x7_1 =>
   diwanlaw0_Lent.lp4 fu l4_0 n_ (l4_1.set l4_2.toNat (w8 (w64 (85 + (Int.tmod l4_2 5))))) (w64 (l4_2 + 1)))
   (some l4_1)
def diwanlaw0_Lent.lp4_post (l4_0 : List Int) (r_ : (List Int)) : Wy → St → Prop := fun e τ => match r_ with
  | y0 => e = .exit 0 ∧ τ = ofL [Tm 0 (sS 1 e_u8 l4_0), Tm 3 (.data (.slc true (some false) 1 (List.map e_u8 y0)))]
theorem diwanlaw0_Lent.lp4_ok (fu : Nat) (l4_0 : List Int) : ∀ (n_ : Nat) (l4_1 : List Int) (l4_2 : Int) (r_ : (List Int)), diwanlaw0_Lent.lp4 fu l4_0 n_ l4_1 l4_2 = some r_ → WK Try.prog diwanlaw0_Lent.O (Ck Try.prog) (cB (cR (cL (cR (cR bd7))))) [] (ofL [Tm 0 (sS 1 e_u8 l4_0), Tm 3 (.data (.slc true (some false) 1 (List.map e_u8 l4_1))), Tm 4 (iv l4_2)]) (diwanlaw0_Lent.lp4_post l4_0 r_) := by
 intro n_
 induction n_ with
 | zero => intro l4_1 l4_2 r_ h; exact no_none h
 | succ n_ ih =>
  intro l4_1 l4_2 r_ h
  refine kLp ?_
  refine kSq ?_
  refine kRs 7 [Tm 13 (bv (decide (l4_2 < (l4_1.length : Int))))] [.s (.t 12) [iv (l4_1.length : Int)]] (.c (c_len (e := e_u8) (l := l4_1)) .n) ?_
  rcases br_inv h with ⟨b6_0, h⟩ | ⟨b6_0, h⟩
  ·refine kCt b6_0 ?_
   refine kSk ?_
   refine kCd (cR (cB (cB (cR (cL (cR (cR bd7))))))) [.lp (cB (cR (cL (cR (cR bd7)))))] ?_
   refine kSq ?_
   refine kBk 1 ?_
   obtain ⟨x7_1, a7_2, e7_3, h⟩ := ix_inv h
   refine kRc 10 [Tm 3 (.data (.slc true (some false) 1 (List.map e_u8 (l4_1.set l4_2.toNat (w8 (w64 (85 + (Int.tmod l4_2 5))))))))] [.c (e_u8 x7_1), .s (.t 3) [.data (.slc true (some false) 1 (List.map e_u8 (l4_1.set l4_2.toNat (w8 (w64 (85 + (Int.tmod l4_2 5)))))))]] (.c rT (.c (c_ix (e := e_u8) a7_2 e7_3) (.c (c_el (e := e_u8) e7_3) (.c (congrArg (fun d : DV => [AV.data d]) (c_set (e := e_u8) (s := 1) (nl := (some false)) (l := l4_1) (i := l4_2.toNat) (x := (w8 (w64 (85 + (Int.tmod l4_2 5))))))) .n)))) (cR (cR (cB (cB (cR (cL (cR (cR bd7)))))))) [.lp (cB (cR (cL (cR (cR bd7)))))] ?_
   refine kRc 3 [Tm 4 (iv (w64 (l4_2 + 1)))] [] .n (cB (cR (cL (cR (cR bd7))))) [] ?_
   exact kWk (ih (l4_1.set l4_2.toNat (w8 (w64 (85 + (Int.tmod l4_2 5))))) (w64 (l4_2 + 1)) _ h)
  ·refine kCe b6_0 ?_
   cases some_inj h
   refine kWo ?_
   refine kXt 0 ?_
   exact kOut
def diwanlaw0_Lent.lp11 (fu : Nat) (l11_0 : List Int) : Nat → (List Int) → Int → Option (List Int)
  | 0, _, _ => none
  | n_ + 1, l11_1, l11_2 =>
  br (decide (l11_2 < (l11_0.length : Int)))
   (ix l11_0 l11_2 fun x14_1 =>
   ix l11_1 l11_2 fun x14_4 =>
   diwanlaw0_Lent.lp11 fu l11_0 n_ (l11_1.set l11_2.toNat x14_1) (w64 (l11_2 + 1)))
   (some l11_1)
def diwanlaw0_Lent.lp11_post (l11_0 : List Int) (r_ : (List Int)) : Wy → St → Prop := fun e τ => match r_ with
  | y0 => e = .exit 2 ∧ τ = ofL [Tm 0 (sS 1 e_u8 l11_0), Tm 3 (.data (.slc true (some false) 1 (List.map e_u8 y0)))]
theorem diwanlaw0_Lent.lp11_ok (fu : Nat) (l11_0 : List Int) : ∀ (n_ : Nat) (l11_1 : List Int) (l11_2 : Int) (r_ : (List Int)), diwanlaw0_Lent.lp11 fu l11_0 n_ l11_1 l11_2 = some r_ → WK Try.prog diwanlaw0_Lent.O (Ck Try.prog) (cB (cR (cL (cR (cR (cR bd7)))))) [] (ofL [Tm 0 (sS 1 e_u8 l11_0), Tm 3 (.data (.slc true (some false) 1 (List.map e_u8 l11_1))), Tm 5 (iv l11_2)]) (diwanlaw0_Lent.lp11_post l11_0 r_) := by
 intro n_
 induction n_ with
 | zero => intro l11_1 l11_2 r_ h; exact no_none h
 | succ n_ ih =>
  intro l11_1 l11_2 r_ h
  refine kLp ?_
  refine kSq ?_
  refine kRs 7 [Tm 26 (bv (decide (l11_2 < (l11_0.length : Int))))] [.s (.t 25) [iv (l11_0.length : Int)]] (.c (c_len (e := e_u8) (l := l11_0)) .n) ?_
  rcases br_inv h with ⟨b13_0, h⟩ | ⟨b13_0, h⟩
  ·refine kCt b13_0 ?_
   refine kSk ?_
   refine kCd (cR (cB (cB (cR (cL (cR (cR (cR bd7)))))))) [.lp (cB (cR (cL (cR (cR (cR bd7))))))] ?_
   refine kSq ?_
   refine kBk 3 ?_
   obtain ⟨x14_1, a14_2, e14_3, h⟩ := ix_inv h
   obtain ⟨x14_4, a14_5, e14_6, h⟩ := ix_inv h
   refine kRc 10 [Tm 3 (.data (.slc true (some false) 1 (List.map e_u8 (l11_1.set l11_2.toNat x14_1))))] [.c (e_u8 x14_1), .c (e_u8 x14_4), .s (.t 3) [.data (.slc true (some false) 1 (List.map e_u8 (l11_1.set l11_2.toNat x14_1)))]] (.c (c_ix (e := e_u8) a14_2 e14_3) (.c (c_el (e := e_u8) e14_3) (.c (c_ix (e := e_u8) a14_5 e14_6) (.c (c_el (e := e_u8) e14_6) (.c (congrArg (fun d : DV => [AV.data d]) (c_set (e := e_u8) (s := 1) (nl := (some false)) (l := l11_1) (i := l11_2.toNat) (x := x14_1))) .n))))) (cR (cR (cB (cB (cR (cL (cR (cR (cR bd7))))))))) [.lp (cB (cR (cL (cR (cR (cR bd7))))))] ?_
   refine kRc 3 [Tm 5 (iv (w64 (l11_2 + 1)))] [] .n (cB (cR (cL (cR (cR (cR bd7)))))) [] ?_
   exact kWk (ih (l11_1.set l11_2.toNat x14_1) (w64 (l11_2 + 1)) _ h)
  ·refine kCe b13_0 ?_
   cases some_inj h
   refine kWo ?_
   refine kXt 2 ?_
   exact kOut
def diwanlaw0_Lent (fu : Nat) (b : List Int) : Option (Nat × List Int) :=
 gd (decide ((0 : Int) ≤ (w64 ((b.length : Int) + 6)) ∧ (w64 ((b.length : Int) + 6)) ≤ (w64 ((b.length : Int) + 6)) ∧ (w64 ((b.length : Int) + 6)) ≤ 4294967296)) <|
 bd (diwanlaw0_Lent.lp4 fu b fu (List.replicate (w64 ((b.length : Int) + 6)).toNat (0 : Int)) 0) fun y9_0 =>
 bd (diwanlaw0_Lent.lp11 fu b fu y9_0 0) fun y16_0 =>
 gd (decide ((0 : Int) ≤ (b.length : Int) ∧ (b.length : Int) ≤ (y16_0.length : Int))) <|
 gd (!y16_0.isEmpty) <|
 some ((b.length : Int).toNat, y16_0)
theorem diwanlaw0_Lent.meets (fu : Nat) (b : List Int) (z0 : Nat) (z1 : List Int) (h : diwanlaw0_Lent fu b = some (z0, z1)) : Meets Try.prog ⟨7, [sS 1 e_u8 b], []⟩ ⟨.data (.rm z0 1 (List.map e_u8 z1)), []⟩ := by
 refine kMt hmix diwanlaw0_Lent.O Try.f7 bd7 1 ?_
 unfold diwanlaw0_Lent at h
 refine kRs 1 [] [] .n ?_
 obtain ⟨c2_1, h⟩ := gd_inv h
 refine kRs 1 [Tm 3 (.data (.slc true (some false) 1 (List.map e_u8 (List.replicate (w64 ((b.length : Int) + 6)).toNat (0 : Int)))))] [.s (.t 7) [iv (b.length : Int)], .s (.t 9) [.data (.slc true (some false) 1 (List.map e_u8 (List.replicate (w64 ((b.length : Int) + 6)).toNat (0 : Int))))]] (.c (c_len (e := e_u8) (l := b)) (.c c2_1 (.c (congrArg (fun d : DV => [AV.data d]) (c_rep (e := e_u8) (s := 1) (n := (w64 ((b.length : Int) + 6)).toNat) (x := 0))) .n))) ?_
 refine kSq ?_
 refine kRs 3 [Tm 4 (iv 0)] [] .n ?_
 refine kBk 0 ?_
 obtain ⟨o9, ho9, h⟩ := bd_inv h
 refine kUs (diwanlaw0_Lent.lp4_ok fu b _ (List.replicate (w64 ((b.length : Int) + 6)).toNat (0 : Int)) 0 _ ho9) ?_
 intro e_ τ_ hp_
 obtain ⟨y9_0, rfl⟩ : ∃ y, y = o9 := ⟨_, rfl⟩
 obtain ⟨rfl, rfl⟩ := hp_
 refine kCd (cR (cR (cR bd7))) [] ?_
 refine kSq ?_
 refine kRs 3 [Tm 5 (iv 0)] [] .n ?_
 refine kBk 2 ?_
 obtain ⟨o16, ho16, h⟩ := bd_inv h
 refine kUs (diwanlaw0_Lent.lp11_ok fu b _ y9_0 0 _ ho16) ?_
 intro e_ τ_ hp_
 obtain ⟨y16_0, rfl⟩ : ∃ y, y = o16 := ⟨_, rfl⟩
 obtain ⟨rfl, rfl⟩ := hp_
 refine kCd (cR (cR (cR (cR bd7)))) [] ?_
 obtain ⟨c17_1, h⟩ := gd_inv h
 obtain ⟨c17_2, h⟩ := gd_inv h
 refine kRs 0 [Tm 2 (.data (.rm ((b.length : Int).toNat) 1 (List.map e_u8 y16_0)))] [.s (.t 38) [iv (b.length : Int)]] (.c (c_len (e := e_u8) (l := b)) (.c (c_cbH (e := e_u8) c17_1) (.c (c_ne (e := e_u8) c17_2) .n))) ?_
 refine kRt ?_
 have h_0 := some_inj h
 obtain ⟨g_1, h_1⟩ := Prod.mk.inj h_0
 subst g_1
 subst h_1
 exact kFr
def bd10 : Code := (Try.f10.body).getD .skip
def diwanlaw0_Back.O : Nat → Nat := fun t => bif ([4, 5] : List Nat).any (Nat.beq t) then 1 else 0
def diwanlaw0_Back.lp5 (fu : Nat) (l5_0 : Nat) (l5_1 : List Int) (l5_2 : List Int) : Nat → Int → Option (Unit ⊕ Unit)
  | 0, _ => none
  | n_ + 1, l5_3 =>
  br (decide (l5_3 < (w64 ((l5_2.length : Int) + 6))))
   (gd (decide ((0 : Int) ≤ (w64 ((l5_2.length : Int) + 6)) ∧ (w64 ((l5_2.length : Int) + 6)) ≤ (l5_1.length : Int))) <|
   ix (List.take (w64 ((l5_2.length : Int) + 6)).toNat l5_1) l5_3 fun x8_2 =>
   br (x8_2 != (w8 (w64 (85 + (Int.tmod l5_3 5)))))
    (some (.inr ()))
    (diwanlaw0_Back.lp5 fu l5_0 l5_1 l5_2 n_ (w64 (l5_3 + 1))))
   (some (.inl ()))
def diwanlaw0_Back.lp5_post (l5_0 : Nat) (l5_1 : List Int) (l5_2 : List Int) (r_ : (Unit ⊕ Unit)) : Wy → St → Prop := fun e τ => match r_ with
  | .inl _ => e = .exit 0 ∧ τ = ofL []
  | .inr _ => e = .ret ∧ τ = ofL [Tm 4 (bv false)]
theorem diwanlaw0_Back.lp5_ok (fu : Nat) (l5_0 : Nat) (l5_1 : List Int) (l5_2 : List Int) : ∀ (n_ : Nat) (l5_3 : Int) (r_ : (Unit ⊕ Unit)), diwanlaw0_Back.lp5 fu l5_0 l5_1 l5_2 n_ l5_3 = some r_ → WK Try.prog diwanlaw0_Back.O (Ck Try.prog) (cB (cR (cL (cR (cR bd10))))) [] (ofL [Tm 0 (.data (.rm l5_0 1 (List.map e_u8 l5_1))), Tm 1 (sS 1 e_u8 l5_2), Tm 5 (iv l5_3)]) (diwanlaw0_Back.lp5_post l5_0 l5_1 l5_2 r_) := by
 intro n_
 induction n_ with
 | zero => intro l5_3 r_ h; exact no_none h
 | succ n_ ih =>
  intro l5_3 r_ h
  refine kLp ?_
  refine kSq ?_
  refine kRs 7 [Tm 25 (bv (decide (l5_3 < (w64 ((l5_2.length : Int) + 6)))))] [.s (.t 23) [iv (l5_2.length : Int)]] (.c (c_len (e := e_u8) (l := l5_2)) .n) ?_
  rcases br_inv h with ⟨b7_0, h⟩ | ⟨b7_0, h⟩
  ·refine kCt b7_0 ?_
   refine kSk ?_
   refine kCd (cR (cB (cB (cR (cL (cR (cR bd10))))))) [.lp (cB (cR (cL (cR (cR bd10)))))] ?_
   refine kSq ?_
   refine kBk 1 ?_
   obtain ⟨c8_1, h⟩ := gd_inv h
   obtain ⟨x8_2, a8_3, e8_4, h⟩ := ix_inv h
   refine kRs 14 [Tm 40 (bv (x8_2 != (w8 (w64 (85 + (Int.tmod l5_3 5))))))] [.s (.t 30) [iv (l5_2.length : Int)], .s (.t 32) [sS 1 e_u8 (List.take (w64 ((l5_2.length : Int) + 6)).toNat l5_1)], .c (e_u8 x8_2)] (.c (c_len (e := e_u8) (l := l5_2)) (.c (c_cbH (e := e_u8) c8_1) (.c (congrArg (fun d : DV => [AV.data d]) (c_cutH (own := false) (nl := none) (s := 1) (e := e_u8) (l := l5_1) (h := (w64 ((l5_2.length : Int) + 6)).toNat))) (.c (c_ix (e := e_u8) a8_3 e8_4) (.c (c_el (e := e_u8) e8_4) (.c rT .n)))))) ?_
   rcases br_inv h with ⟨b9_0, h⟩ | ⟨b9_0, h⟩
   ·refine kCt b9_0 ?_
    refine kRs 0 [Tm 4 (bv false)] [] .n ?_
    cases some_inj h
    refine kWo ?_
    refine kRt ?_
    exact kOut
   ·refine kCe b9_0 ?_
    refine kSk ?_
    refine kCd (cR (cR (cB (cB (cR (cL (cR (cR bd10)))))))) [.lp (cB (cR (cL (cR (cR bd10)))))] ?_
    refine kRc 6 [Tm 5 (iv (w64 (l5_3 + 1)))] [] .n (cB (cR (cL (cR (cR bd10))))) [] ?_
    exact kWk (ih (w64 (l5_3 + 1)) _ h)
  ·refine kCe b7_0 ?_
   cases some_inj h
   refine kWo ?_
   refine kXt 0 ?_
   exact kOut
def diwanlaw0_Back (fu : Nat) (x_v : Nat) (x1_v : List Int) (b : List Int) : Option Bool :=
 br (!((strB (List.take x_v x1_v)).toList == (strB b).toList))
  (some false)
  (gd (decide ((w64 ((b.length : Int) + 6)) ≤ (x1_v.length : Int))) <|
  bd (diwanlaw0_Back.lp5 fu x_v x1_v b fu (b.length : Int)) fun o_ => (match o_ with
  | .inl _ =>
   some true
  | .inr _ =>
   some false))
theorem diwanlaw0_Back.meets (fu : Nat) (x_v : Nat) (x1_v : List Int) (b : List Int) (z0 : Bool) (h : diwanlaw0_Back fu x_v x1_v b = some z0) : Meets Try.prog ⟨10, [.data (.rm x_v 1 (List.map e_u8 x1_v)), sS 1 e_u8 b], []⟩ ⟨bv z0, []⟩ := by
 refine kMt hmix diwanlaw0_Back.O Try.f10 bd10 3 ?_
 unfold diwanlaw0_Back at h
 refine kRs 3 [] [] .n ?_
 refine kSq ?_
 rcases br_inv h with ⟨b2_1, h⟩ | ⟨b2_1, h⟩
 ·refine kRs 3 [Tm 18 (bv true)] (.s (.t 7) [sv (strB (List.take x_v x1_v))] :: (rp 7 (.b true) [])) (.c (c_abt (l := x1_v) (n := x_v)) (.c (congrArg (fun d : DV => [AV.data d]) (c_strt (l := x1_v) (n := x_v))) (.c (c_ab b) (.r 7 b2_1 .n)))) ?_
  refine kCt rT ?_
  refine kRs 0 [Tm 4 (bv false)] [] .n ?_
  refine kRt ?_
  have h_ := some_inj h
  subst h_
  exact kFr
 ·obtain ⟨c2_2, h⟩ := gd_inv h
  refine kRs 3 [Tm 18 (bv false)] (.s (.t 7) [sv (strB (List.take x_v x1_v))] :: (rp 4 (.b false) [.s (.t 15) [iv (b.length : Int)], .b false, .b false, .b false])) (.c (c_abt (l := x1_v) (n := x_v)) (.c (congrArg (fun d : DV => [AV.data d]) (c_strt (l := x1_v) (n := x_v))) (.c (c_ab b) (.r 4 b2_1 (.c (c_len (e := e_u8) (l := b)) (.r 2 b2_1 (.c (c_cl (e := e_u8) c2_2) (.c b2_1 .n)))))))) ?_
  refine kCe rF ?_
  refine kSk ?_
  refine kCd (cR (cR bd10)) [] ?_
  refine kSq ?_
  refine kRs 6 [Tm 5 (iv (b.length : Int))] [.s (.t 20) [iv (b.length : Int)]] (.c (c_len (e := e_u8) (l := b)) .n) ?_
  refine kBk 0 ?_
  obtain ⟨o12, ho12, h⟩ := bd_inv h
  refine kUs (diwanlaw0_Back.lp5_ok fu x_v x1_v b _ (b.length : Int) _ ho12) ?_
  intro e_ τ_ hp_
  rcases o12 with o12 | o12
  ·obtain ⟨⟩ := o12
   obtain ⟨rfl, rfl⟩ := hp_
   refine kCd (cR (cR (cR bd10))) [] ?_
   refine kRs 0 [Tm 4 (bv true)] [] .n ?_
   refine kRt ?_
   have h_ := some_inj h
   subst h_
   exact kFr
  ·obtain ⟨⟩ := o12
   obtain ⟨rfl, rfl⟩ := hp_
   have h_ := some_inj h
   subst h_
   exact kFr
def bd41 : Code := (Try.f41.body).getD .skip
def diwanref13_MayChain.O : Nat → Nat := fun t => bif ([2, 3] : List Nat).any (Nat.beq t) then 1 else 0
def diwanref13_MayChain.lp3 (fu : Nat) (l3_0 : List TVersion) : Nat → Int → Option (Unit ⊕ Unit)
  | 0, _ => none
  | n_ + 1, l3_1 =>
  br (decide (l3_1 < (l3_0.length : Int)))
   (ix l3_0 l3_1 fun x6_1 =>
   br (decide (x6_1.Pos < 1))
    (some (.inr ()))
    (br (decide (l3_1 > 0))
     (ix l3_0 l3_1 fun x6_6 =>
     ix l3_0 (w64 (l3_1 - 1)) fun x6_9 =>
     br (decide (x6_6.Pos ≤ x6_9.Pos))
      (some (.inr ()))
      (ix l3_0 l3_1 fun x6_13 =>
      br (decide ((x6_13.Val.size : Int) > 16))
       (some (.inr ()))
       (ix l3_0 l3_1 fun x6_17 =>
       br x6_17.Gone
        (ix l3_0 l3_1 fun x6_21 =>
        br (!(x6_21.Val.toList == ByteArray.empty.toList))
         (some (.inr ()))
         (diwanref13_MayChain.lp3 fu l3_0 n_ (w64 (l3_1 + 1))))
        (diwanref13_MayChain.lp3 fu l3_0 n_ (w64 (l3_1 + 1))))))
     (ix l3_0 l3_1 fun x6_6 =>
     br (decide ((x6_6.Val.size : Int) > 16))
      (some (.inr ()))
      (ix l3_0 l3_1 fun x6_10 =>
      br x6_10.Gone
       (ix l3_0 l3_1 fun x6_14 =>
       br (!(x6_14.Val.toList == ByteArray.empty.toList))
        (some (.inr ()))
        (diwanref13_MayChain.lp3 fu l3_0 n_ (w64 (l3_1 + 1))))
       (diwanref13_MayChain.lp3 fu l3_0 n_ (w64 (l3_1 + 1)))))))
   (some (.inl ()))
def diwanref13_MayChain.lp3_post (l3_0 : List TVersion) (r_ : (Unit ⊕ Unit)) : Wy → St → Prop := fun e τ => match r_ with
  | .inl _ => e = .exit 0 ∧ τ = ofL []
  | .inr _ => e = .ret ∧ τ = ofL [Tm 2 (bv false)]
theorem diwanref13_MayChain.lp3_ok (fu : Nat) (l3_0 : List TVersion) : ∀ (n_ : Nat) (l3_1 : Int) (r_ : (Unit ⊕ Unit)), diwanref13_MayChain.lp3 fu l3_0 n_ l3_1 = some r_ → WK Try.prog diwanref13_MayChain.O (Ck Try.prog) (cB (cR (cL (cR bd41)))) [] (ofL [Tm 0 (sS 3 TVersion.en l3_0), Tm 3 (iv l3_1)]) (diwanref13_MayChain.lp3_post l3_0 r_) := by
 intro n_
 induction n_ with
 | zero => intro l3_1 r_ h; exact no_none h
 | succ n_ ih =>
  intro l3_1 r_ h
  refine kLp ?_
  refine kSq ?_
  refine kRs 3 [Tm 7 (bv (decide (l3_1 < (l3_0.length : Int))))] [.s (.t 6) [iv (l3_0.length : Int)]] (.c (c_len (e := TVersion.en) (l := l3_0)) .n) ?_
  rcases br_inv h with ⟨b5_0, h⟩ | ⟨b5_0, h⟩
  ·refine kCt b5_0 ?_
   refine kSk ?_
   refine kCd (cR (cB (cB (cR (cL (cR bd41)))))) [.lp (cB (cR (cL (cR bd41))))] ?_
   refine kSq ?_
   refine kBk 1 ?_
   obtain ⟨x6_1, a6_2, e6_3, h⟩ := ix_inv h
   rcases br_inv h with ⟨b6_4, h⟩ | ⟨b6_4, h⟩
   ·refine kRs 6 [Tm 57 (bv true)] (.c (TVersion.en x6_1) :: (rp 21 (.b true) [])) (.c (c_ix (e := TVersion.en) a6_2 e6_3) (.c (c_el (e := TVersion.en) e6_3) (.r 5 b6_4 (.r 17 rT .n)))) ?_
    refine kCt rT ?_
    refine kRs 0 [Tm 2 (bv false)] [] .n ?_
    cases some_inj h
    refine kWo ?_
    refine kRt ?_
    exact kOut
   ·rcases br_inv h with ⟨b6_5, h⟩ | ⟨b6_5, h⟩
    ·obtain ⟨x6_6, a6_7, e6_8, h⟩ := ix_inv h
     obtain ⟨x6_9, a6_10, e6_11, h⟩ := ix_inv h
     rcases br_inv h with ⟨b6_12, h⟩ | ⟨b6_12, h⟩
     ·refine kRs 6 [Tm 57 (bv true)] (.c (TVersion.en x6_1) :: (.b false :: (.b false :: (.b false :: (.b true :: (.b true :: (.b true :: (.c (TVersion.en x6_6) :: (rp 6 (.b true) (.c (TVersion.en x6_9) :: (.b true :: (.b true :: (.b true :: (.b false :: (.b true :: (.b false :: (rp 16 (.b true) []))))))))))))))))) (.c (c_ix (e := TVersion.en) a6_2 e6_3) (.c (c_el (e := TVersion.en) e6_3) (.r 3 b6_4 (.r 3 b6_5 (.c (c_ix (e := TVersion.en) a6_7 e6_8) (.c (c_el (e := TVersion.en) e6_8) (.r 6 b6_5 (.c (c_ix (e := TVersion.en) a6_10 e6_11) (.c (c_el (e := TVersion.en) e6_11) (.r 3 b6_5 (.c b6_4 (.c b6_5 (.c b6_4 (.r 8 b6_12 (.r 9 rT .n))))))))))))))) ?_
      refine kCt rT ?_
      refine kRs 0 [Tm 2 (bv false)] [] .n ?_
      cases some_inj h
      refine kWo ?_
      refine kRt ?_
      exact kOut
     ·obtain ⟨x6_13, a6_14, e6_15, h⟩ := ix_inv h
      rcases br_inv h with ⟨b6_16, h⟩ | ⟨b6_16, h⟩
      ·refine kRs 6 [Tm 57 (bv true)] (.c (TVersion.en x6_1) :: (.b false :: (.b false :: (.b false :: (.b true :: (.b true :: (.b true :: (.c (TVersion.en x6_6) :: (rp 6 (.b true) (.c (TVersion.en x6_9) :: (.b true :: (.b true :: (.b true :: (.b false :: (.b true :: (rp 4 (.b false) (.c (TVersion.en x6_13) :: (rp 5 (.b false) (rp 8 (.b true) []))))))))))))))))))) (.c (c_ix (e := TVersion.en) a6_2 e6_3) (.c (c_el (e := TVersion.en) e6_3) (.r 3 b6_4 (.r 3 b6_5 (.c (c_ix (e := TVersion.en) a6_7 e6_8) (.c (c_el (e := TVersion.en) e6_8) (.r 6 b6_5 (.c (c_ix (e := TVersion.en) a6_10 e6_11) (.c (c_el (e := TVersion.en) e6_11) (.r 3 b6_5 (.c b6_4 (.c b6_5 (.c b6_4 (.r 3 b6_12 (.c (c_ix (e := TVersion.en) a6_14 e6_15) (.c (c_el (e := TVersion.en) e6_15) (.r 5 b6_12 (.r 8 b6_16 (.c rT .n))))))))))))))))))) ?_
       refine kCt rT ?_
       refine kRs 0 [Tm 2 (bv false)] [] .n ?_
       cases some_inj h
       refine kWo ?_
       refine kRt ?_
       exact kOut
      ·obtain ⟨x6_17, a6_18, e6_19, h⟩ := ix_inv h
       rcases br_inv h with ⟨b6_20, h⟩ | ⟨b6_20, h⟩
       ·obtain ⟨x6_21, a6_22, e6_23, h⟩ := ix_inv h
        refine kRs 6 [Tm 57 (bv (!(x6_21.Val.toList == ByteArray.empty.toList)))] (.c (TVersion.en x6_1) :: (.b false :: (.b false :: (.b false :: (.b true :: (.b true :: (.b true :: (.c (TVersion.en x6_6) :: (rp 6 (.b true) (.c (TVersion.en x6_9) :: (.b true :: (.b true :: (.b true :: (.b false :: (.b true :: (rp 4 (.b false) (.c (TVersion.en x6_13) :: (rp 8 (.b false) [.c (TVersion.en x6_17), .b false, .b false, .b false, .b true, .b true, .b true, .c (TVersion.en x6_21), .b true, .b true, .b true, .b false, .b true, .b false])))))))))))))))))) (.c (c_ix (e := TVersion.en) a6_2 e6_3) (.c (c_el (e := TVersion.en) e6_3) (.r 3 b6_4 (.r 3 b6_5 (.c (c_ix (e := TVersion.en) a6_7 e6_8) (.c (c_el (e := TVersion.en) e6_8) (.r 6 b6_5 (.c (c_ix (e := TVersion.en) a6_10 e6_11) (.c (c_el (e := TVersion.en) e6_11) (.r 3 b6_5 (.c b6_4 (.c b6_5 (.c b6_4 (.r 3 b6_12 (.c (c_ix (e := TVersion.en) a6_14 e6_15) (.c (c_el (e := TVersion.en) e6_15) (.r 5 b6_12 (.r 3 b6_16 (.c (c_ix (e := TVersion.en) a6_18 e6_19) (.c (c_el (e := TVersion.en) e6_19) (.r 3 b6_16 (.r 3 b6_20 (.c (c_ix (e := TVersion.en) a6_22 e6_23) (.c (c_el (e := TVersion.en) e6_23) (.r 3 b6_20 (.c b6_16 (.c b6_20 (.c b6_16 (.c rT .n))))))))))))))))))))))))))))) ?_
        rcases br_inv h with ⟨b10_0, h⟩ | ⟨b10_0, h⟩
        ·refine kCt b10_0 ?_
         refine kRs 0 [Tm 2 (bv false)] [] .n ?_
         cases some_inj h
         refine kWo ?_
         refine kRt ?_
         exact kOut
        ·refine kCe b10_0 ?_
         refine kSk ?_
         refine kCd (cR (cR (cB (cB (cR (cL (cR bd41))))))) [.lp (cB (cR (cL (cR bd41))))] ?_
         refine kRc 2 [Tm 3 (iv (w64 (l3_1 + 1)))] [] .n (cB (cR (cL (cR bd41)))) [] ?_
         exact kWk (ih (w64 (l3_1 + 1)) _ h)
       ·refine kRs 6 [Tm 57 (bv false)] (.c (TVersion.en x6_1) :: (.b false :: (.b false :: (.b false :: (.b true :: (.b true :: (.b true :: (.c (TVersion.en x6_6) :: (rp 6 (.b true) (.c (TVersion.en x6_9) :: (.b true :: (.b true :: (.b true :: (.b false :: (.b true :: (rp 4 (.b false) (.c (TVersion.en x6_13) :: (rp 8 (.b false) (.c (TVersion.en x6_17) :: (rp 12 (.b false) [])))))))))))))))))))) (.c (c_ix (e := TVersion.en) a6_2 e6_3) (.c (c_el (e := TVersion.en) e6_3) (.r 3 b6_4 (.r 3 b6_5 (.c (c_ix (e := TVersion.en) a6_7 e6_8) (.c (c_el (e := TVersion.en) e6_8) (.r 6 b6_5 (.c (c_ix (e := TVersion.en) a6_10 e6_11) (.c (c_el (e := TVersion.en) e6_11) (.r 3 b6_5 (.c b6_4 (.c b6_5 (.c b6_4 (.r 3 b6_12 (.c (c_ix (e := TVersion.en) a6_14 e6_15) (.c (c_el (e := TVersion.en) e6_15) (.r 5 b6_12 (.r 3 b6_16 (.c (c_ix (e := TVersion.en) a6_18 e6_19) (.c (c_el (e := TVersion.en) e6_19) (.r 3 b6_16 (.r 6 b6_20 (.c b6_16 (.c b6_20 (.c b6_16 (.c rT .n)))))))))))))))))))))))))) ?_
        refine kCe rF ?_
        refine kSk ?_
        refine kCd (cR (cR (cB (cB (cR (cL (cR bd41))))))) [.lp (cB (cR (cL (cR bd41))))] ?_
        refine kRc 2 [Tm 3 (iv (w64 (l3_1 + 1)))] [] .n (cB (cR (cL (cR bd41)))) [] ?_
        exact kWk (ih (w64 (l3_1 + 1)) _ h)
    ·obtain ⟨x6_6, a6_7, e6_8, h⟩ := ix_inv h
     rcases br_inv h with ⟨b6_9, h⟩ | ⟨b6_9, h⟩
     ·refine kRs 6 [Tm 57 (bv true)] (.c (TVersion.en x6_1) :: (rp 21 (.b false) (.c (TVersion.en x6_6) :: (rp 5 (.b false) (rp 8 (.b true) []))))) (.c (c_ix (e := TVersion.en) a6_2 e6_3) (.c (c_el (e := TVersion.en) e6_3) (.r 3 b6_4 (.r 12 b6_5 (.c b6_4 (.c b6_5 (.c b6_4 (.r 3 rF (.c (c_ix (e := TVersion.en) a6_7 e6_8) (.c (c_el (e := TVersion.en) e6_8) (.r 5 rF (.r 8 b6_9 (.c rT .n))))))))))))) ?_
      refine kCt rT ?_
      refine kRs 0 [Tm 2 (bv false)] [] .n ?_
      cases some_inj h
      refine kWo ?_
      refine kRt ?_
      exact kOut
     ·obtain ⟨x6_10, a6_11, e6_12, h⟩ := ix_inv h
      rcases br_inv h with ⟨b6_13, h⟩ | ⟨b6_13, h⟩
      ·obtain ⟨x6_14, a6_15, e6_16, h⟩ := ix_inv h
       refine kRs 6 [Tm 57 (bv (!(x6_14.Val.toList == ByteArray.empty.toList)))] (.c (TVersion.en x6_1) :: (rp 21 (.b false) (.c (TVersion.en x6_6) :: (rp 8 (.b false) [.c (TVersion.en x6_10), .b false, .b false, .b false, .b true, .b true, .b true, .c (TVersion.en x6_14), .b true, .b true, .b true, .b false, .b true, .b false])))) (.c (c_ix (e := TVersion.en) a6_2 e6_3) (.c (c_el (e := TVersion.en) e6_3) (.r 3 b6_4 (.r 12 b6_5 (.c b6_4 (.c b6_5 (.c b6_4 (.r 3 rF (.c (c_ix (e := TVersion.en) a6_7 e6_8) (.c (c_el (e := TVersion.en) e6_8) (.r 5 rF (.r 3 b6_9 (.c (c_ix (e := TVersion.en) a6_11 e6_12) (.c (c_el (e := TVersion.en) e6_12) (.r 3 b6_9 (.r 3 b6_13 (.c (c_ix (e := TVersion.en) a6_15 e6_16) (.c (c_el (e := TVersion.en) e6_16) (.r 3 b6_13 (.c b6_9 (.c b6_13 (.c b6_9 (.c rT .n))))))))))))))))))))))) ?_
       rcases br_inv h with ⟨b15_0, h⟩ | ⟨b15_0, h⟩
       ·refine kCt b15_0 ?_
        refine kRs 0 [Tm 2 (bv false)] [] .n ?_
        cases some_inj h
        refine kWo ?_
        refine kRt ?_
        exact kOut
       ·refine kCe b15_0 ?_
        refine kSk ?_
        refine kCd (cR (cR (cB (cB (cR (cL (cR bd41))))))) [.lp (cB (cR (cL (cR bd41))))] ?_
        refine kRc 2 [Tm 3 (iv (w64 (l3_1 + 1)))] [] .n (cB (cR (cL (cR bd41)))) [] ?_
        exact kWk (ih (w64 (l3_1 + 1)) _ h)
      ·refine kRs 6 [Tm 57 (bv false)] (.c (TVersion.en x6_1) :: (rp 21 (.b false) (.c (TVersion.en x6_6) :: (rp 8 (.b false) (.c (TVersion.en x6_10) :: (rp 12 (.b false) [])))))) (.c (c_ix (e := TVersion.en) a6_2 e6_3) (.c (c_el (e := TVersion.en) e6_3) (.r 3 b6_4 (.r 12 b6_5 (.c b6_4 (.c b6_5 (.c b6_4 (.r 3 rF (.c (c_ix (e := TVersion.en) a6_7 e6_8) (.c (c_el (e := TVersion.en) e6_8) (.r 5 rF (.r 3 b6_9 (.c (c_ix (e := TVersion.en) a6_11 e6_12) (.c (c_el (e := TVersion.en) e6_12) (.r 3 b6_9 (.r 6 b6_13 (.c b6_9 (.c b6_13 (.c b6_9 (.c rT .n)))))))))))))))))))) ?_
       refine kCe rF ?_
       refine kSk ?_
       refine kCd (cR (cR (cB (cB (cR (cL (cR bd41))))))) [.lp (cB (cR (cL (cR bd41))))] ?_
       refine kRc 2 [Tm 3 (iv (w64 (l3_1 + 1)))] [] .n (cB (cR (cL (cR bd41)))) [] ?_
       exact kWk (ih (w64 (l3_1 + 1)) _ h)
  ·refine kCe b5_0 ?_
   cases some_inj h
   refine kWo ?_
   refine kXt 0 ?_
   exact kOut
def diwanref13_MayChain (fu : Nat) (l : List TVersion) : Option Bool :=
 bd (diwanref13_MayChain.lp3 fu l fu 0) fun o_ => (match o_ with
 | .inl _ =>
  some true
 | .inr _ =>
  some false)
theorem diwanref13_MayChain.meets (fu : Nat) (l : List TVersion) (z0 : Bool) (h : diwanref13_MayChain fu l = some z0) : Meets Try.prog ⟨41, [sS 3 TVersion.en l], []⟩ ⟨bv z0, []⟩ := by
 refine kMt hmix diwanref13_MayChain.O Try.f41 bd41 1 ?_
 unfold diwanref13_MayChain at h
 refine kRs 1 [] [] .n ?_
 refine kSq ?_
 refine kRs 1 [Tm 3 (iv 0)] [] .n ?_
 refine kBk 0 ?_
 obtain ⟨o19, ho19, h⟩ := bd_inv h
 refine kUs (diwanref13_MayChain.lp3_ok fu l _ 0 _ ho19) ?_
 intro e_ τ_ hp_
 rcases o19 with o19 | o19
 ·obtain ⟨⟩ := o19
  obtain ⟨rfl, rfl⟩ := hp_
  refine kCd (cR (cR bd41)) [] ?_
  refine kRs 0 [Tm 2 (bv true)] [] .n ?_
  refine kRt ?_
  have h_ := some_inj h
  subst h_
  exact kFr
 ·obtain ⟨⟩ := o19
  obtain ⟨rfl, rfl⟩ := hp_
  have h_ := some_inj h
  subst h_
  exact kFr
def bd65 : Code := (Try.f65.body).getD .skip
def diwanref1_MayKey.O : Nat → Nat := fun t => bif ([2, 3] : List Nat).any (Nat.beq t) then 1 else 0
def diwanref1_MayKey.lp3 (fu : Nat) (l3_0 : ByteArray) : Nat → Int → Option (Unit ⊕ Unit)
  | 0, _ => none
  | n_ + 1, l3_1 =>
  br (decide (l3_1 < (l3_0.size : Int)))
   (gd (decide ((0 : Int) ≤ l3_1 ∧ l3_1 < (l3_0.size : Int))) <|
   br (decide ((byteAt l3_0 l3_1) < 33))
    (some (.inr ()))
    (gd (decide ((0 : Int) ≤ l3_1 ∧ l3_1 < (l3_0.size : Int))) <|
    br (decide ((byteAt l3_0 l3_1) > 126))
     (some (.inr ()))
     (diwanref1_MayKey.lp3 fu l3_0 n_ (w64 (l3_1 + 1)))))
   (some (.inl ()))
def diwanref1_MayKey.lp3_post (l3_0 : ByteArray) (r_ : (Unit ⊕ Unit)) : Wy → St → Prop := fun e τ => match r_ with
  | .inl _ => e = .exit 0 ∧ τ = ofL [Tm 0 (sv l3_0)]
  | .inr _ => e = .ret ∧ τ = ofL [Tm 2 (bv false)]
theorem diwanref1_MayKey.lp3_ok (fu : Nat) (l3_0 : ByteArray) : ∀ (n_ : Nat) (l3_1 : Int) (r_ : (Unit ⊕ Unit)), diwanref1_MayKey.lp3 fu l3_0 n_ l3_1 = some r_ → WK Try.prog diwanref1_MayKey.O (Ck Try.prog) (cB (cR (cL (cR bd65)))) [] (ofL [Tm 0 (sv l3_0), Tm 3 (iv l3_1)]) (diwanref1_MayKey.lp3_post l3_0 r_) := by
 intro n_
 induction n_ with
 | zero => intro l3_1 r_ h; exact no_none h
 | succ n_ ih =>
  intro l3_1 r_ h
  refine kLp ?_
  refine kSq ?_
  refine kRs 3 [Tm 7 (bv (decide (l3_1 < (l3_0.size : Int))))] [] .n ?_
  rcases br_inv h with ⟨b5_0, h⟩ | ⟨b5_0, h⟩
  ·refine kCt b5_0 ?_
   refine kSk ?_
   refine kCd (cR (cB (cB (cR (cL (cR bd65)))))) [.lp (cB (cR (cL (cR bd65))))] ?_
   refine kSq ?_
   refine kBk 1 ?_
   obtain ⟨c6_1, h⟩ := gd_inv h
   rcases br_inv h with ⟨b6_2, h⟩ | ⟨b6_2, h⟩
   ·refine kRs 6 [Tm 19 (bv true)] (rp 5 (.b true) []) (.c c6_1 (.r 5 b6_2 .n)) ?_
    refine kCt rT ?_
    refine kRs 0 [Tm 2 (bv false)] [] .n ?_
    cases some_inj h
    refine kWo ?_
    refine kRt ?_
    exact kOut
   ·obtain ⟨c6_3, h⟩ := gd_inv h
    refine kRs 6 [Tm 19 (bv (decide ((byteAt l3_0 l3_1) > 126)))] (rp 5 (.b false) []) (.c c6_1 (.r 3 b6_2 (.c c6_3 (.r 2 b6_2 .n)))) ?_
    rcases br_inv h with ⟨b8_0, h⟩ | ⟨b8_0, h⟩
    ·refine kCt b8_0 ?_
     refine kRs 0 [Tm 2 (bv false)] [] .n ?_
     cases some_inj h
     refine kWo ?_
     refine kRt ?_
     exact kOut
    ·refine kCe b8_0 ?_
     refine kSk ?_
     refine kCd (cR (cR (cB (cB (cR (cL (cR bd65))))))) [.lp (cB (cR (cL (cR bd65))))] ?_
     refine kRc 2 [Tm 3 (iv (w64 (l3_1 + 1)))] [] .n (cB (cR (cL (cR bd65)))) [] ?_
     exact kWk (ih (w64 (l3_1 + 1)) _ h)
  ·refine kCe b5_0 ?_
   cases some_inj h
   refine kWo ?_
   refine kXt 0 ?_
   exact kOut
def diwanref1_MayKey (fu : Nat) (k_v : ByteArray) : Option Bool :=
 bd (diwanref1_MayKey.lp3 fu k_v fu 0) fun o_ => (match o_ with
 | .inl _ =>
  br (decide ((k_v.size : Int) ≥ 1))
   (some (decide ((k_v.size : Int) ≤ 8)))
   (some false)
 | .inr _ =>
  some false)
theorem diwanref1_MayKey.meets (fu : Nat) (k_v : ByteArray) (z0 : Bool) (h : diwanref1_MayKey fu k_v = some z0) : Meets Try.prog ⟨65, [sv k_v], []⟩ ⟨bv z0, []⟩ := by
 refine kMt hmix diwanref1_MayKey.O Try.f65 bd65 1 ?_
 unfold diwanref1_MayKey at h
 refine kRs 1 [] [] .n ?_
 refine kSq ?_
 refine kRs 1 [Tm 3 (iv 0)] [] .n ?_
 refine kBk 0 ?_
 obtain ⟨o11, ho11, h⟩ := bd_inv h
 refine kUs (diwanref1_MayKey.lp3_ok fu k_v _ 0 _ ho11) ?_
 intro e_ τ_ hp_
 rcases o11 with o11 | o11
 ·obtain ⟨⟩ := o11
  obtain ⟨rfl, rfl⟩ := hp_
  refine kCd (cR (cR bd65)) [] ?_
  rcases br_inv h with ⟨b12_1, h⟩ | ⟨b12_1, h⟩
  ·refine kRs 0 [Tm 2 (bv (decide ((k_v.size : Int) ≤ 8)))] (rp 4 (.b true) []) (.r 4 b12_1 .n) ?_
   refine kRt ?_
   have h_ := some_inj h
   subst h_
   exact kFr
  ·refine kRs 0 [Tm 2 (bv false)] (rp 4 (.b false) []) (.r 4 b12_1 .n) ?_
   refine kRt ?_
   have h_ := some_inj h
   subst h_
   exact kFr
 ·obtain ⟨⟩ := o11
  obtain ⟨rfl, rfl⟩ := hp_
  have h_ := some_inj h
  subst h_
  exact kFr
def bd42 : Code := (Try.f42.body).getD .skip
def diwanref1_Rising.O : Nat → Nat := fun t => bif ([2, 3] : List Nat).any (Nat.beq t) then 1 else 0
def diwanref1_Rising.lp3 (fu : Nat) (l3_0 : List ByteArray) : Nat → Int → Option (Unit ⊕ Unit)
  | 0, _ => none
  | n_ + 1, l3_1 =>
  br (decide (l3_1 < (l3_0.length : Int)))
   (ix l3_0 l3_1 fun x6_1 =>
   bd (diwanref1_MayKey fu x6_1) fun r6_4 =>
   br (!r6_4)
    (some (.inr ()))
    (br (decide (l3_1 > 0))
     (ix l3_0 l3_1 fun x6_8 =>
     ix l3_0 (w64 (l3_1 - 1)) fun x6_11 =>
     br ((Op.bytesLess x6_8.toList x6_11.toList) || (x6_8.toList == x6_11.toList))
      (some (.inr ()))
      (diwanref1_Rising.lp3 fu l3_0 n_ (w64 (l3_1 + 1))))
     (diwanref1_Rising.lp3 fu l3_0 n_ (w64 (l3_1 + 1)))))
   (some (.inl ()))
def diwanref1_Rising.lp3_post (l3_0 : List ByteArray) (r_ : (Unit ⊕ Unit)) : Wy → St → Prop := fun e τ => match r_ with
  | .inl _ => e = .exit 0 ∧ τ = ofL []
  | .inr _ => e = .ret ∧ τ = ofL [Tm 2 (bv false)]
theorem diwanref1_Rising.lp3_ok (fu : Nat) (l3_0 : List ByteArray) : ∀ (n_ : Nat) (l3_1 : Int) (r_ : (Unit ⊕ Unit)), diwanref1_Rising.lp3 fu l3_0 n_ l3_1 = some r_ → WK Try.prog diwanref1_Rising.O (Ck Try.prog) (cB (cR (cL (cR bd42)))) [] (ofL [Tm 0 (sS 1 e_s l3_0), Tm 3 (iv l3_1)]) (diwanref1_Rising.lp3_post l3_0 r_) := by
 intro n_
 induction n_ with
 | zero => intro l3_1 r_ h; exact no_none h
 | succ n_ ih =>
  intro l3_1 r_ h
  refine kLp ?_
  refine kSq ?_
  refine kRs 3 [Tm 7 (bv (decide (l3_1 < (l3_0.length : Int))))] [.s (.t 6) [iv (l3_0.length : Int)]] (.c (c_len (e := e_s) (l := l3_0)) .n) ?_
  rcases br_inv h with ⟨b5_0, h⟩ | ⟨b5_0, h⟩
  ·refine kCt b5_0 ?_
   refine kSk ?_
   refine kCd (cR (cB (cB (cR (cL (cR bd42)))))) [.lp (cB (cR (cL (cR bd42))))] ?_
   refine kSq ?_
   refine kBk 1 ?_
   obtain ⟨x6_1, a6_2, e6_3, h⟩ := ix_inv h
   obtain ⟨r6_4, h6_5, h⟩ := bd_inv h
   rcases br_inv h with ⟨b6_6, h⟩ | ⟨b6_6, h⟩
   ·refine kRs 6 [Tm 31 (bv true)] (.c (e_s x6_1) :: (.a ⟨bv r6_4, []⟩ :: (rp 5 (.b true) []))) (.c (c_ix (e := e_s) a6_2 e6_3) (.c (c_el (e := e_s) e6_3) (.c (Asks.of (C := Meets Try.prog) (diwanref1_MayKey.meets fu x6_1 _ h6_5)) (.r 5 b6_6 (.c rT .n))))) ?_
    refine kCt rT ?_
    refine kRs 0 [Tm 2 (bv false)] [] .n ?_
    cases some_inj h
    refine kWo ?_
    refine kRt ?_
    exact kOut
   ·rcases br_inv h with ⟨b6_7, h⟩ | ⟨b6_7, h⟩
    ·obtain ⟨x6_8, a6_9, e6_10, h⟩ := ix_inv h
     obtain ⟨x6_11, a6_12, e6_13, h⟩ := ix_inv h
     refine kRs 6 [Tm 31 (bv ((Op.bytesLess x6_8.toList x6_11.toList) || (x6_8.toList == x6_11.toList)))] (.c (e_s x6_1) :: (.a ⟨bv r6_4, []⟩ :: (.b false :: (.b false :: (.b false :: (.b true :: (.b true :: (.b true :: (.c (e_s x6_8) :: (rp 5 (.b true) [.c (e_s x6_11), .b true, .b true, .b false, .b true, .b false])))))))))) (.c (c_ix (e := e_s) a6_2 e6_3) (.c (c_el (e := e_s) e6_3) (.c (Asks.of (C := Meets Try.prog) (diwanref1_MayKey.meets fu x6_1 _ h6_5)) (.r 3 b6_6 (.r 3 b6_7 (.c (c_ix (e := e_s) a6_9 e6_10) (.c (c_el (e := e_s) e6_10) (.r 5 b6_7 (.c (c_ix (e := e_s) a6_12 e6_13) (.c (c_el (e := e_s) e6_13) (.r 2 b6_7 (.c b6_6 (.c b6_7 (.c b6_6 (.c rT .n))))))))))))))) ?_
     rcases br_inv h with ⟨b8_0, h⟩ | ⟨b8_0, h⟩
     ·refine kCt b8_0 ?_
      refine kRs 0 [Tm 2 (bv false)] [] .n ?_
      cases some_inj h
      refine kWo ?_
      refine kRt ?_
      exact kOut
     ·refine kCe b8_0 ?_
      refine kSk ?_
      refine kCd (cR (cR (cB (cB (cR (cL (cR bd42))))))) [.lp (cB (cR (cL (cR bd42))))] ?_
      refine kRc 2 [Tm 3 (iv (w64 (l3_1 + 1)))] [] .n (cB (cR (cL (cR bd42)))) [] ?_
      exact kWk (ih (w64 (l3_1 + 1)) _ h)
    ·refine kRs 6 [Tm 31 (bv false)] (.c (e_s x6_1) :: (.a ⟨bv r6_4, []⟩ :: (rp 16 (.b false) []))) (.c (c_ix (e := e_s) a6_2 e6_3) (.c (c_el (e := e_s) e6_3) (.c (Asks.of (C := Meets Try.prog) (diwanref1_MayKey.meets fu x6_1 _ h6_5)) (.r 3 b6_6 (.r 10 b6_7 (.c b6_6 (.c b6_7 (.c b6_6 (.c rT .n))))))))) ?_
     refine kCe rF ?_
     refine kSk ?_
     refine kCd (cR (cR (cB (cB (cR (cL (cR bd42))))))) [.lp (cB (cR (cL (cR bd42))))] ?_
     refine kRc 2 [Tm 3 (iv (w64 (l3_1 + 1)))] [] .n (cB (cR (cL (cR bd42)))) [] ?_
     exact kWk (ih (w64 (l3_1 + 1)) _ h)
  ·refine kCe b5_0 ?_
   cases some_inj h
   refine kWo ?_
   refine kXt 0 ?_
   exact kOut
def diwanref1_Rising (fu : Nat) (l : List ByteArray) : Option Bool :=
 bd (diwanref1_Rising.lp3 fu l fu 0) fun o_ => (match o_ with
 | .inl _ =>
  some true
 | .inr _ =>
  some false)
theorem diwanref1_Rising.meets (fu : Nat) (l : List ByteArray) (z0 : Bool) (h : diwanref1_Rising fu l = some z0) : Meets Try.prog ⟨42, [sS 1 e_s l], []⟩ ⟨bv z0, []⟩ := by
 refine kMt hmix diwanref1_Rising.O Try.f42 bd42 1 ?_
 unfold diwanref1_Rising at h
 refine kRs 1 [] [] .n ?_
 refine kSq ?_
 refine kRs 1 [Tm 3 (iv 0)] [] .n ?_
 refine kBk 0 ?_
 obtain ⟨o12, ho12, h⟩ := bd_inv h
 refine kUs (diwanref1_Rising.lp3_ok fu l _ 0 _ ho12) ?_
 intro e_ τ_ hp_
 rcases o12 with o12 | o12
 ·obtain ⟨⟩ := o12
  obtain ⟨rfl, rfl⟩ := hp_
  refine kCd (cR (cR bd42)) [] ?_
  refine kRs 0 [Tm 2 (bv true)] [] .n ?_
  refine kRt ?_
  have h_ := some_inj h
  subst h_
  exact kFr
 ·obtain ⟨⟩ := o12
  obtain ⟨rfl, rfl⟩ := hp_
  have h_ := some_inj h
  subst h_
  exact kFr
def bd26 : Code := (Try.f26.body).getD .skip
def diwanref13_MayStore.O : Nat → Nat := fun t => bif ([1, 2, 3, 4, 19] : List Nat).any (Nat.beq t) then 1 else 0
def diwanref13_MayStore.lp4 (fu : Nat) (l4_2 : TStore) : Nat → (List ByteArray) → Int → Option ((List ByteArray) ⊕ Unit)
  | 0, _, _ => none
  | n_ + 1, l4_0, l4_1 =>
  br (decide (l4_1 < (l4_2.Chains.length : Int)))
   (ix l4_2.Chains l4_1 fun x7_1 =>
   gd (decide (l4_0.length + ([x7_1.Key] : List ByteArray).length ≤ 4294967296)) <|
   ix l4_2.Chains l4_1 fun x8_1 =>
   br ((x8_1.L.length : Int) == 0)
    (some (.inr ()))
    (ix l4_2.Chains l4_1 fun x8_5 =>
    bd (diwanref13_MayChain fu x8_5.L) fun r8_8 =>
    br (!r8_8)
     (some (.inr ()))
     (diwanref13_MayStore.lp4 fu l4_2 n_ (l4_0 ++ ([x7_1.Key] : List ByteArray)) (w64 (l4_1 + 1)))))
   (some (.inl l4_0))
def diwanref13_MayStore.lp4_post (l4_2 : TStore) (r_ : ((List ByteArray) ⊕ Unit)) : Wy → St → Prop := fun e τ => match r_ with
  | .inl y0 => e = .exit 0 ∧ τ = ofL [Tm 1 (.ptr 1 0), Tm 3 (sO 1 e_s y0), Ob 1 [sS 2 TChain.en l4_2.Chains, iv l4_2.Mark]]
  | .inr _ => e = .ret ∧ τ = ofL [Tm 2 (bv false)]
theorem diwanref13_MayStore.lp4_ok (fu : Nat) (l4_2 : TStore) : ∀ (n_ : Nat) (l4_0 : List ByteArray) (l4_1 : Int) (r_ : ((List ByteArray) ⊕ Unit)), diwanref13_MayStore.lp4 fu l4_2 n_ l4_0 l4_1 = some r_ → WK Try.prog diwanref13_MayStore.O (Ck Try.prog) (cB (cR (cL (cR (cR bd26))))) [] (ofL [Tm 1 (.ptr 1 0), Tm 3 (sO 1 e_s l4_0), Tm 4 (iv l4_1), Ob 1 [sS 2 TChain.en l4_2.Chains, iv l4_2.Mark]]) (diwanref13_MayStore.lp4_post l4_2 r_) := by
 intro n_
 induction n_ with
 | zero => intro l4_0 l4_1 r_ h; exact no_none h
 | succ n_ ih =>
  intro l4_0 l4_1 r_ h
  refine kLp ?_
  refine kSq ?_
  refine kRs 15 [Tm 9 (bv (decide (l4_1 < (l4_2.Chains.length : Int))))] [.s (.t 8) [iv (l4_2.Chains.length : Int)]] (.c (c_len (e := TChain.en) (l := l4_2.Chains)) .n) ?_
  rcases br_inv h with ⟨b6_0, h⟩ | ⟨b6_0, h⟩
  ·refine kCt b6_0 ?_
   refine kSk ?_
   refine kCd (cR (cB (cB (cR (cL (cR (cR bd26))))))) [.lp (cB (cR (cL (cR (cR bd26)))))] ?_
   refine kSq ?_
   refine kBk 1 ?_
   obtain ⟨x7_1, a7_2, e7_3, h⟩ := ix_inv h
   obtain ⟨c7_4, h⟩ := gd_inv h
   refine kRs 26 [Tm 3 (sO 1 e_s (l4_0 ++ ([x7_1.Key] : List ByteArray)))] [.c (TChain.en x7_1), .s (.t 20) [sO 1 e_s (l4_0 ++ ([x7_1.Key] : List ByteArray))]] (.c (c_ix (e := TChain.en) a7_2 e7_3) (.c (c_el (e := TChain.en) e7_3) (.c (c_al (e := e_s) (f := e_s) c7_4) (.c (congrArg (fun d : DV => [AV.data d]) (c_app (e := e_s) (s := 1) (l := l4_0) (m := ([x7_1.Key] : List ByteArray)))) .n)))) ?_
   obtain ⟨x8_1, a8_2, e8_3, h⟩ := ix_inv h
   rcases br_inv h with ⟨b8_4, h⟩ | ⟨b8_4, h⟩
   ·refine kRs 15 [Tm 38 (bv true)] (.c (TChain.en x8_1) :: (.s (.t 27) [iv (x8_1.L.length : Int)] :: (rp 9 (.b true) []))) (.c (c_ix (e := TChain.en) a8_2 e8_3) (.c (c_el (e := TChain.en) e8_3) (.c (c_len (e := TVersion.en) (l := x8_1.L)) (.r 9 b8_4 .n)))) ?_
    refine kCt rT ?_
    refine kRs 0 [Tm 2 (bv false)] [] .n ?_
    cases some_inj h
    refine kWo ?_
    refine kRt ?_
    exact kOut
   ·obtain ⟨x8_5, a8_6, e8_7, h⟩ := ix_inv h
    obtain ⟨r8_8, h8_9, h⟩ := bd_inv h
    refine kRs 15 [Tm 38 (bv (!r8_8))] (.c (TChain.en x8_1) :: (.s (.t 27) [iv (x8_1.L.length : Int)] :: (rp 4 (.b false) [.c (TChain.en x8_5), .b false, .b false, .b false, .a ⟨bv r8_8, []⟩, .b false, .b false]))) (.c (c_ix (e := TChain.en) a8_2 e8_3) (.c (c_el (e := TChain.en) e8_3) (.c (c_len (e := TVersion.en) (l := x8_1.L)) (.r 4 b8_4 (.c (c_ix (e := TChain.en) a8_6 e8_7) (.c (c_el (e := TChain.en) e8_7) (.r 3 b8_4 (.c (Asks.of (C := Meets Try.prog) (diwanref13_MayChain.meets fu x8_5.L _ h8_9)) (.r 2 b8_4 .n))))))))) ?_
    rcases br_inv h with ⟨b10_0, h⟩ | ⟨b10_0, h⟩
    ·refine kCt b10_0 ?_
     refine kRs 0 [Tm 2 (bv false)] [] .n ?_
     cases some_inj h
     refine kWo ?_
     refine kRt ?_
     exact kOut
    ·refine kCe b10_0 ?_
     refine kSk ?_
     refine kCd (cR (cR (cB (cB (cR (cL (cR (cR bd26)))))))) [.lp (cB (cR (cL (cR (cR bd26)))))] ?_
     refine kRc 22 [Tm 4 (iv (w64 (l4_1 + 1)))] [] .n (cB (cR (cL (cR (cR bd26))))) [] ?_
     exact kWk (ih (l4_0 ++ ([x7_1.Key] : List ByteArray)) (w64 (l4_1 + 1)) _ h)
  ·refine kCe b6_0 ?_
   cases some_inj h
   refine kWo ?_
   refine kXt 0 ?_
   exact kOut
def diwanref13_MayStore (fu : Nat) (s : TStore) : Option Bool :=
 bd (diwanref13_MayStore.lp4 fu s fu [] 0) fun o_ => (match o_ with
 | .inl y13_0 =>
  br (decide (s.Mark ≥ 0))
   (bd (diwanref1_Rising fu y13_0) fun r14_2 =>
   some r14_2)
   (some false)
 | .inr _ =>
  some false)
theorem diwanref13_MayStore.meets (fu : Nat) (s : TStore) (z0 : Bool) (h : diwanref13_MayStore fu s = some z0) : Meets Try.prog ⟨26, [.data (.agg [.slc false none 2 (List.map TChain.en s.Chains), .val (.int .i64 s.Mark)])], []⟩ ⟨bv z0, []⟩ := by
 refine kMt hmix diwanref13_MayStore.O Try.f26 bd26 1 ?_
 unfold diwanref13_MayStore at h
 refine kRs 0 [Tm 1 (.ptr 1 0), Ob 1 [sS 2 TChain.en s.Chains, iv s.Mark]] [] .n ?_
 refine kRs 3 [Tm 3 (.data (.slc true (some true) 1 (List.map e_s [])))] [] .n ?_
 refine kSq ?_
 refine kRs 7 [Tm 4 (iv 0)] [] .n ?_
 refine kBk 0 ?_
 obtain ⟨o13, ho13, h⟩ := bd_inv h
 refine kUs (diwanref13_MayStore.lp4_ok fu s _ [] 0 _ ho13) ?_
 intro e_ τ_ hp_
 rcases o13 with o13 | o13
 ·obtain ⟨y13_0, rfl⟩ : ∃ y, y = o13 := ⟨_, rfl⟩
  obtain ⟨rfl, rfl⟩ := hp_
  refine kCd (cR (cR (cR bd26))) [] ?_
  rcases br_inv h with ⟨b14_1, h⟩ | ⟨b14_1, h⟩
  ·obtain ⟨r14_2, h14_3, h⟩ := bd_inv h
   refine kRs 0 [Tm 2 (bv r14_2)] [.b true, .b true, .a ⟨bv r14_2, []⟩, .b true] (.r 2 b14_1 (.c (Asks.of (C := Meets Try.prog) (diwanref1_Rising.meets fu y13_0 _ h14_3)) (.c b14_1 .n))) ?_
   refine kRt ?_
   have h_ := some_inj h
   subst h_
   exact kFr
  ·refine kRs 0 [Tm 2 (bv false)] [.b false, .b false, .b false] (.r 3 b14_1 .n) ?_
   refine kRt ?_
   have h_ := some_inj h
   subst h_
   exact kFr
 ·obtain ⟨⟩ := o13
  obtain ⟨rfl, rfl⟩ := hp_
  have h_ := some_inj h
  subst h_
  exact kFr
def bd27 : Code := (Try.f27.body).getD .skip
def diwanref1_ShardOf.O : Nat → Nat := fun t => bif ([4, 5, 6] : List Nat).any (Nat.beq t) then 1 else 0
def diwanref1_ShardOf.lp7 (fu : Nat) (l7_0 : ByteArray) (l7_1 : Int) : Nat → Int → Int → Option Int
  | 0, _, _ => none
  | n_ + 1, l7_2, l7_3 =>
  br (decide (l7_3 < (l7_0.size : Int)))
   (gd (decide ((0 : Int) ≤ l7_3 ∧ l7_3 < (l7_0.size : Int))) <|
   gd (!decide (l7_1 = 0)) <|
   diwanref1_ShardOf.lp7 fu l7_0 l7_1 n_ (Int.tmod (w64 (l7_2 + (w64 (byteAt l7_0 l7_3)))) l7_1) (w64 (l7_3 + 1)))
   (some l7_2)
def diwanref1_ShardOf.lp7_post (l7_0 : ByteArray) (l7_1 : Int) (r_ : Int) : Wy → St → Prop := fun e τ => match r_ with
  | y0 => e = .exit 0 ∧ τ = ofL [Tm 5 (iv y0)]
theorem diwanref1_ShardOf.lp7_ok (fu : Nat) (l7_0 : ByteArray) (l7_1 : Int) : ∀ (n_ : Nat) (l7_2 : Int) (l7_3 : Int) (r_ : Int), diwanref1_ShardOf.lp7 fu l7_0 l7_1 n_ l7_2 l7_3 = some r_ → WK Try.prog diwanref1_ShardOf.O (Ck Try.prog) (cB (cR (cL (cR (cR (cR bd27)))))) [] (ofL [Tm 0 (sv l7_0), Tm 1 (iv l7_1), Tm 5 (iv l7_2), Tm 6 (iv l7_3)]) (diwanref1_ShardOf.lp7_post l7_0 l7_1 r_) := by
 intro n_
 induction n_ with
 | zero => intro l7_2 l7_3 r_ h; exact no_none h
 | succ n_ ih =>
  intro l7_2 l7_3 r_ h
  refine kLp ?_
  refine kSq ?_
  refine kRs 15 [Tm 12 (bv (decide (l7_3 < (l7_0.size : Int))))] [] .n ?_
  rcases br_inv h with ⟨b9_0, h⟩ | ⟨b9_0, h⟩
  ·refine kCt b9_0 ?_
   refine kSk ?_
   refine kCd (cR (cB (cB (cR (cL (cR (cR (cR bd27)))))))) [.lp (cB (cR (cL (cR (cR (cR bd27))))))] ?_
   refine kSq ?_
   refine kBk 1 ?_
   obtain ⟨c10_1, h⟩ := gd_inv h
   obtain ⟨c10_2, h⟩ := gd_inv h
   refine kRc 22 [Tm 5 (iv (Int.tmod (w64 (l7_2 + (w64 (byteAt l7_0 l7_3)))) l7_1))] [] (.c c10_1 (.c c10_2 .n)) (cR (cR (cB (cB (cR (cL (cR (cR (cR bd27))))))))) [.lp (cB (cR (cL (cR (cR (cR bd27))))))] ?_
   refine kRc 7 [Tm 6 (iv (w64 (l7_3 + 1)))] [] .n (cB (cR (cL (cR (cR (cR bd27)))))) [] ?_
   exact kWk (ih (Int.tmod (w64 (l7_2 + (w64 (byteAt l7_0 l7_3)))) l7_1) (w64 (l7_3 + 1)) _ h)
  ·refine kCe b9_0 ?_
   cases some_inj h
   refine kWo ?_
   refine kXt 0 ?_
   exact kOut
def diwanref1_ShardOf (fu : Nat) (k_v : ByteArray) (n_v : Int) : Option Int :=
 br (decide (n_v < 1))
  (some 0)
  (bd (diwanref1_ShardOf.lp7 fu k_v n_v fu 0 0) fun y12_0 =>
  some y12_0)
theorem diwanref1_ShardOf.meets (fu : Nat) (k_v : ByteArray) (n_v : Int) (z0 : Int) (h : diwanref1_ShardOf fu k_v n_v = some z0) : Meets Try.prog ⟨27, [sv k_v, iv n_v], []⟩ ⟨iv z0, []⟩ := by
 refine kMt hmix diwanref1_ShardOf.O Try.f27 bd27 3 ?_
 unfold diwanref1_ShardOf at h
 refine kRs 3 [] [] .n ?_
 refine kSq ?_
 refine kRs 3 [Tm 8 (bv (decide (n_v < 1)))] [] .n ?_
 rcases br_inv h with ⟨b3_0, h⟩ | ⟨b3_0, h⟩
 ·refine kCt b3_0 ?_
  refine kRs 0 [Tm 4 (iv 0)] [] .n ?_
  refine kRt ?_
  have h_ := some_inj h
  subst h_
  exact kFr
 ·refine kCe b3_0 ?_
  refine kSk ?_
  refine kCd (cR (cR bd27)) [] ?_
  refine kRs 6 [Tm 5 (iv 0)] [] .n ?_
  refine kSq ?_
  refine kRs 7 [Tm 6 (iv 0)] [] .n ?_
  refine kBk 0 ?_
  obtain ⟨o12, ho12, h⟩ := bd_inv h
  refine kUs (diwanref1_ShardOf.lp7_ok fu k_v n_v _ 0 0 _ ho12) ?_
  intro e_ τ_ hp_
  obtain ⟨y12_0, rfl⟩ : ∃ y, y = o12 := ⟨_, rfl⟩
  obtain ⟨rfl, rfl⟩ := hp_
  refine kCd (cR (cR (cR (cR bd27)))) [] ?_
  refine kRs 0 [Tm 4 (iv y12_0)] [] .n ?_
  refine kRt ?_
  have h_ := some_inj h
  subst h_
  exact kFr
def bd28 : Code := (Try.f28.body).getD .skip
def diwanref13_LastOf.O : Nat → Nat := fun t => bif ([2] : List Nat).any (Nat.beq t) then 1 else 0
def diwanref13_LastOf (l : List TVersion) : Option Int :=
 br ((l.length : Int) == 0)
  (some 0)
  (ix l (w64 ((l.length : Int) - 1)) fun x5_1 =>
  some x5_1.Pos)
theorem diwanref13_LastOf.meets (l : List TVersion) (z0 : Int) (h : diwanref13_LastOf l = some z0) : Meets Try.prog ⟨28, [sS 3 TVersion.en l], []⟩ ⟨iv z0, []⟩ := by
 refine kMt hmix diwanref13_LastOf.O Try.f28 bd28 1 ?_
 unfold diwanref13_LastOf at h
 refine kRs 1 [] [] .n ?_
 refine kSq ?_
 refine kRs 1 [Tm 5 (bv ((l.length : Int) == 0))] [.s (.t 4) [iv (l.length : Int)]] (.c (c_len (e := TVersion.en) (l := l)) .n) ?_
 rcases br_inv h with ⟨b3_0, h⟩ | ⟨b3_0, h⟩
 ·refine kCt b3_0 ?_
  refine kRs 0 [Tm 2 (iv 0)] [] .n ?_
  refine kRt ?_
  have h_ := some_inj h
  subst h_
  exact kFr
 ·refine kCe b3_0 ?_
  refine kSk ?_
  refine kCd (cR (cR bd28)) [] ?_
  obtain ⟨x5_1, a5_2, e5_3, h⟩ := ix_inv h
  refine kRs 0 [Tm 2 (iv x5_1.Pos)] [.s (.t 8) [iv (l.length : Int)], .c (TVersion.en x5_1)] (.c (c_len (e := TVersion.en) (l := l)) (.c (c_ix (e := TVersion.en) a5_2 e5_3) (.c (c_el (e := TVersion.en) e5_3) .n))) ?_
  refine kRt ?_
  have h_ := some_inj h
  subst h_
  exact kFr
def bd11 : Code := (Try.f11.body).getD .skip
def diwanref13_MayShard.O : Nat → Nat := fun t => bif ([1, 2, 3, 4, 5, 6, 7] : List Nat).any (Nat.beq t) then 1 else 0
def diwanref13_MayShard.lp13 (fu : Nat) (l13_1 : TShard) : Nat → Int → Option (Unit ⊕ Unit)
  | 0, _ => none
  | n_ + 1, l13_0 =>
  br (decide (l13_0 < l13_1.Done))
   (ix l13_1.Bits l13_0 fun x16_1 =>
   br (decide (x16_1 < 0))
    (some (.inr ()))
    (ix l13_1.Bits l13_0 fun x16_5 =>
    br (decide (x16_5 > 2))
     (some (.inr ()))
     (ix l13_1.Said l13_0 fun x16_9 =>
     br (decide (x16_9 < 1))
      (some (.inr ()))
      (ix l13_1.Said l13_0 fun x16_13 =>
      br (decide (x16_13 > 4))
       (some (.inr ()))
       (diwanref13_MayShard.lp13 fu l13_1 n_ (w64 (l13_0 + 1)))))))
   (some (.inl ()))
def diwanref13_MayShard.lp13_post (l13_1 : TShard) (r_ : (Unit ⊕ Unit)) : Wy → St → Prop := fun e τ => match r_ with
  | .inl _ => e = .exit 0 ∧ τ = ofL [Tm 1 (.ptr 1 0), Ob 1 (TShard.ob l13_1)]
  | .inr _ => e = .ret ∧ τ = ofL [Tm 2 (bv false)]
theorem diwanref13_MayShard.lp13_ok (fu : Nat) (l13_1 : TShard) : ∀ (n_ : Nat) (l13_0 : Int) (r_ : (Unit ⊕ Unit)), diwanref13_MayShard.lp13 fu l13_1 n_ l13_0 = some r_ → WK Try.prog diwanref13_MayShard.O (Ck Try.prog) (cB (cR (cL (cR (cR bd11))))) [] (ofL [Tm 1 (.ptr 1 0), Tm 3 (iv l13_0), Ob 1 (TShard.ob l13_1)]) (diwanref13_MayShard.lp13_post l13_1 r_) := by
 intro n_
 induction n_ with
 | zero => intro l13_0 r_ h; exact no_none h
 | succ n_ ih =>
  intro l13_0 r_ h
  refine kLp ?_
  refine kSq ?_
  refine kRs 7 [Tm 58 (bv (decide (l13_0 < l13_1.Done)))] [] .n ?_
  rcases br_inv h with ⟨b15_0, h⟩ | ⟨b15_0, h⟩
  ·refine kCt b15_0 ?_
   refine kSk ?_
   refine kCd (cR (cB (cB (cR (cL (cR (cR bd11))))))) [.lp (cB (cR (cL (cR (cR bd11)))))] ?_
   refine kSq ?_
   refine kBk 1 ?_
   obtain ⟨x16_1, a16_2, e16_3, h⟩ := ix_inv h
   rcases br_inv h with ⟨b16_4, h⟩ | ⟨b16_4, h⟩
   ·refine kRs 14 [Tm 90 (bv true)] (.c (e_i64 x16_1) :: (rp 21 (.b true) [])) (.c (c_ix (e := e_i64) a16_2 e16_3) (.c (c_el (e := e_i64) e16_3) (.r 7 b16_4 (.r 14 rT .n)))) ?_
    refine kCt rT ?_
    refine kRs 0 [Tm 2 (bv false)] [] .n ?_
    cases some_inj h
    refine kWo ?_
    refine kRt ?_
    exact kOut
   ·obtain ⟨x16_5, a16_6, e16_7, h⟩ := ix_inv h
    rcases br_inv h with ⟨b16_8, h⟩ | ⟨b16_8, h⟩
    ·refine kRs 14 [Tm 90 (bv true)] (.c (e_i64 x16_1) :: (rp 4 (.b false) (.c (e_i64 x16_5) :: (.b false :: (.b false :: (.b false :: (rp 14 (.b true) []))))))) (.c (c_ix (e := e_i64) a16_2 e16_3) (.c (c_el (e := e_i64) e16_3) (.r 4 b16_4 (.c (c_ix (e := e_i64) a16_6 e16_7) (.c (c_el (e := e_i64) e16_7) (.r 3 b16_4 (.r 7 b16_8 (.r 7 rT .n)))))))) ?_
     refine kCt rT ?_
     refine kRs 0 [Tm 2 (bv false)] [] .n ?_
     cases some_inj h
     refine kWo ?_
     refine kRt ?_
     exact kOut
    ·obtain ⟨x16_9, a16_10, e16_11, h⟩ := ix_inv h
     rcases br_inv h with ⟨b16_12, h⟩ | ⟨b16_12, h⟩
     ·refine kRs 14 [Tm 90 (bv true)] (.c (e_i64 x16_1) :: (rp 4 (.b false) (.c (e_i64 x16_5) :: (rp 7 (.b false) (.c (e_i64 x16_9) :: (.b false :: (.b false :: (.b false :: (rp 7 (.b true) []))))))))) (.c (c_ix (e := e_i64) a16_2 e16_3) (.c (c_el (e := e_i64) e16_3) (.r 4 b16_4 (.c (c_ix (e := e_i64) a16_6 e16_7) (.c (c_el (e := e_i64) e16_7) (.r 3 b16_4 (.r 4 b16_8 (.c (c_ix (e := e_i64) a16_10 e16_11) (.c (c_el (e := e_i64) e16_11) (.r 3 b16_8 (.r 7 b16_12 .n))))))))))) ?_
      refine kCt rT ?_
      refine kRs 0 [Tm 2 (bv false)] [] .n ?_
      cases some_inj h
      refine kWo ?_
      refine kRt ?_
      exact kOut
     ·obtain ⟨x16_13, a16_14, e16_15, h⟩ := ix_inv h
      refine kRs 14 [Tm 90 (bv (decide (x16_13 > 4)))] (.c (e_i64 x16_1) :: (rp 4 (.b false) (.c (e_i64 x16_5) :: (rp 7 (.b false) (.c (e_i64 x16_9) :: (rp 7 (.b false) [.c (e_i64 x16_13), .b false, .b false, .b false])))))) (.c (c_ix (e := e_i64) a16_2 e16_3) (.c (c_el (e := e_i64) e16_3) (.r 4 b16_4 (.c (c_ix (e := e_i64) a16_6 e16_7) (.c (c_el (e := e_i64) e16_7) (.r 3 b16_4 (.r 4 b16_8 (.c (c_ix (e := e_i64) a16_10 e16_11) (.c (c_el (e := e_i64) e16_11) (.r 3 b16_8 (.r 4 b16_12 (.c (c_ix (e := e_i64) a16_14 e16_15) (.c (c_el (e := e_i64) e16_15) (.r 3 b16_12 .n)))))))))))))) ?_
      rcases br_inv h with ⟨b20_0, h⟩ | ⟨b20_0, h⟩
      ·refine kCt b20_0 ?_
       refine kRs 0 [Tm 2 (bv false)] [] .n ?_
       cases some_inj h
       refine kWo ?_
       refine kRt ?_
       exact kOut
      ·refine kCe b20_0 ?_
       refine kSk ?_
       refine kCd (cR (cR (cB (cB (cR (cL (cR (cR bd11)))))))) [.lp (cB (cR (cL (cR (cR bd11)))))] ?_
       refine kRc 10 [Tm 3 (iv (w64 (l13_0 + 1)))] [] .n (cB (cR (cL (cR (cR bd11))))) [] ?_
       exact kWk (ih (w64 (l13_0 + 1)) _ h)
  ·refine kCe b15_0 ?_
   cases some_inj h
   refine kWo ?_
   refine kXt 0 ?_
   exact kOut
def diwanref13_MayShard.lp25 (fu : Nat) (l25_1 : TShard) : Nat → Int → Option (Unit ⊕ Unit)
  | 0, _ => none
  | n_ + 1, l25_0 =>
  br (decide (l25_0 < (l25_1.S.Chains.length : Int)))
   (ix l25_1.S.Chains l25_0 fun x28_1 =>
   bd (diwanref1_ShardOf fu x28_1.Key l25_1.Shards) fun r29_1 =>
   br (r29_1 != l25_1.ID)
    (some (.inr ()))
    (bd (diwanref13_LastOf x28_1.L) fun r29_4 =>
    br (decide (r29_4 > l25_1.Done))
     (some (.inr ()))
     (diwanref13_MayShard.lp25 fu l25_1 n_ (w64 (l25_0 + 1)))))
   (some (.inl ()))
def diwanref13_MayShard.lp25_post (l25_1 : TShard) (r_ : (Unit ⊕ Unit)) : Wy → St → Prop := fun e τ => match r_ with
  | .inl _ => e = .exit 2 ∧ τ = ofL [Tm 1 (.ptr 1 0), Ob 1 (TShard.ob l25_1)]
  | .inr _ => e = .ret ∧ τ = ofL [Tm 2 (bv false)]
theorem diwanref13_MayShard.lp25_ok (fu : Nat) (l25_1 : TShard) : ∀ (n_ : Nat) (l25_0 : Int) (r_ : (Unit ⊕ Unit)), diwanref13_MayShard.lp25 fu l25_1 n_ l25_0 = some r_ → WK Try.prog diwanref13_MayShard.O (Ck Try.prog) (cB (cR (cL (cR (cR (cR bd11)))))) [] (ofL [Tm 1 (.ptr 1 0), Tm 4 (iv l25_0), Ob 1 (TShard.ob l25_1)]) (diwanref13_MayShard.lp25_post l25_1 r_) := by
 intro n_
 induction n_ with
 | zero => intro l25_0 r_ h; exact no_none h
 | succ n_ ih =>
  intro l25_0 r_ h
  refine kLp ?_
  refine kSq ?_
  refine kRs 7 [Tm 96 (bv (decide (l25_0 < (l25_1.S.Chains.length : Int))))] [.s (.t 95) [iv (l25_1.S.Chains.length : Int)]] (.c (c_len (e := TChain.en) (l := l25_1.S.Chains)) .n) ?_
  rcases br_inv h with ⟨b27_0, h⟩ | ⟨b27_0, h⟩
  ·refine kCt b27_0 ?_
   refine kSk ?_
   refine kCd (cR (cB (cB (cR (cL (cR (cR (cR bd11)))))))) [.lp (cB (cR (cL (cR (cR (cR bd11))))))] ?_
   refine kSq ?_
   refine kBk 3 ?_
   obtain ⟨x28_1, a28_2, e28_3, h⟩ := ix_inv h
   refine kRs 14 [Tm 5 (.ptr 5 0), Ob 5 [sv x28_1.Key, sS 3 TVersion.en x28_1.L]] [.c (TChain.en x28_1)] (.c (c_ix (e := TChain.en) a28_2 e28_3) (.c (c_el (e := TChain.en) e28_3) .n)) ?_
   obtain ⟨r29_1, h29_2, h⟩ := bd_inv h
   rcases br_inv h with ⟨b29_3, h⟩ | ⟨b29_3, h⟩
   ·refine kRs 28 [Tm 120 (bv true)] (.a ⟨iv r29_1, []⟩ :: (rp 7 (.b true) [])) (.c (Asks.of (C := Meets Try.prog) (diwanref1_ShardOf.meets fu x28_1.Key l25_1.Shards _ h29_2)) (.r 7 b29_3 (.c rT .n))) ?_
    refine kCt rT ?_
    refine kRs 0 [Tm 2 (bv false)] [] .n ?_
    cases some_inj h
    refine kWo ?_
    refine kRt ?_
    exact kOut
   ·obtain ⟨r29_4, h29_5, h⟩ := bd_inv h
    refine kRs 28 [Tm 120 (bv (decide (r29_4 > l25_1.Done)))] (.a ⟨iv r29_1, []⟩ :: (.b false :: (.b false :: (.b false :: (.a ⟨iv r29_4, []⟩ :: (rp 4 (.b false) [])))))) (.c (Asks.of (C := Meets Try.prog) (diwanref1_ShardOf.meets fu x28_1.Key l25_1.Shards _ h29_2)) (.r 3 b29_3 (.c (Asks.of (C := Meets Try.prog) (diwanref13_LastOf.meets x28_1.L _ h29_5)) (.r 4 b29_3 (.c rT .n))))) ?_
    rcases br_inv h with ⟨b31_0, h⟩ | ⟨b31_0, h⟩
    ·refine kCt b31_0 ?_
     refine kRs 0 [Tm 2 (bv false)] [] .n ?_
     cases some_inj h
     refine kWo ?_
     refine kRt ?_
     exact kOut
    ·refine kCe b31_0 ?_
     refine kSk ?_
     refine kCd (cR (cR (cB (cB (cR (cL (cR (cR (cR bd11))))))))) [.lp (cB (cR (cL (cR (cR (cR bd11))))))] ?_
     refine kRc 10 [Tm 4 (iv (w64 (l25_0 + 1)))] [] .n (cB (cR (cL (cR (cR (cR bd11)))))) [] ?_
     exact kWk (ih (w64 (l25_0 + 1)) _ h)
  ·refine kCe b27_0 ?_
   cases some_inj h
   refine kWo ?_
   refine kXt 2 ?_
   exact kOut
def diwanref13_MayShard.lp36 (fu : Nat) (l36_1 : TShard) : Nat → Int → Option (Unit ⊕ Unit)
  | 0, _ => none
  | n_ + 1, l36_0 =>
  br (decide (l36_0 < (l36_1.Seats.length : Int)))
   (ix l36_1.Seats l36_0 fun x39_1 =>
   br (decide (x39_1.Session < 1))
    (some (.inr ()))
    (br (decide (x39_1.Session > 9))
     (some (.inr ()))
     (br (decide (l36_0 > 0))
      (ix l36_1.Seats (w64 (l36_0 - 1)) fun x40_4 =>
      br (decide (x39_1.Session ≤ x40_4.Session))
       (some (.inr ()))
       (br (decide (x39_1.Seq < 1))
        (some (.inr ()))
        (br (decide (x39_1.Seq > 1000))
         (some (.inr ()))
         (br (decide (x39_1.Pos < 1))
          (some (.inr ()))
          (br (decide (x39_1.Pos > l36_1.Done))
           (some (.inr ()))
           (diwanref13_MayShard.lp36 fu l36_1 n_ (w64 (l36_0 + 1))))))))
      (br (decide (x39_1.Seq < 1))
       (some (.inr ()))
       (br (decide (x39_1.Seq > 1000))
        (some (.inr ()))
        (br (decide (x39_1.Pos < 1))
         (some (.inr ()))
         (br (decide (x39_1.Pos > l36_1.Done))
          (some (.inr ()))
          (diwanref13_MayShard.lp36 fu l36_1 n_ (w64 (l36_0 + 1))))))))))
   (some (.inl ()))
def diwanref13_MayShard.lp36_post (l36_1 : TShard) (r_ : (Unit ⊕ Unit)) : Wy → St → Prop := fun e τ => match r_ with
  | .inl _ => e = .exit 4 ∧ τ = ofL []
  | .inr _ => e = .ret ∧ τ = ofL [Tm 2 (bv false)]
theorem diwanref13_MayShard.lp36_ok (fu : Nat) (l36_1 : TShard) : ∀ (n_ : Nat) (l36_0 : Int) (r_ : (Unit ⊕ Unit)), diwanref13_MayShard.lp36 fu l36_1 n_ l36_0 = some r_ → WK Try.prog diwanref13_MayShard.O (Ck Try.prog) (cB (cR (cL (cR (cR (cR (cR bd11))))))) [] (ofL [Tm 1 (.ptr 1 0), Tm 6 (iv l36_0), Ob 1 (TShard.ob l36_1)]) (diwanref13_MayShard.lp36_post l36_1 r_) := by
 intro n_
 induction n_ with
 | zero => intro l36_0 r_ h; exact no_none h
 | succ n_ ih =>
  intro l36_0 r_ h
  refine kLp ?_
  refine kSq ?_
  refine kRs 7 [Tm 125 (bv (decide (l36_0 < (l36_1.Seats.length : Int))))] [.s (.t 124) [iv (l36_1.Seats.length : Int)]] (.c (c_len (e := TSeat.en) (l := l36_1.Seats)) .n) ?_
  rcases br_inv h with ⟨b38_0, h⟩ | ⟨b38_0, h⟩
  ·refine kCt b38_0 ?_
   refine kSk ?_
   refine kCd (cR (cB (cB (cR (cL (cR (cR (cR (cR bd11))))))))) [.lp (cB (cR (cL (cR (cR (cR (cR bd11)))))))] ?_
   refine kSq ?_
   refine kBk 5 ?_
   obtain ⟨x39_1, a39_2, e39_3, h⟩ := ix_inv h
   refine kRs 14 [Tm 7 (.ptr 7 0), Ob 7 (TSeat.ob x39_1)] [.c (TSeat.en x39_1)] (.c (c_ix (e := TSeat.en) a39_2 e39_3) (.c (c_el (e := TSeat.en) e39_3) .n)) ?_
   rcases br_inv h with ⟨b40_1, h⟩ | ⟨b40_1, h⟩
   ·refine kRs 28 [Tm 178 (bv true)] (rp 27 (.b true) []) (.r 4 b40_1 (.r 24 rT .n)) ?_
    refine kCt rT ?_
    refine kRs 0 [Tm 2 (bv false)] [] .n ?_
    cases some_inj h
    refine kWo ?_
    refine kRt ?_
    exact kOut
   ·rcases br_inv h with ⟨b40_2, h⟩ | ⟨b40_2, h⟩
    ·refine kRs 28 [Tm 178 (bv true)] (rp 4 (.b false) (rp 23 (.b true) [])) (.r 4 b40_1 (.r 5 b40_2 (.r 19 rT .n))) ?_
     refine kCt rT ?_
     refine kRs 0 [Tm 2 (bv false)] [] .n ?_
     cases some_inj h
     refine kWo ?_
     refine kRt ?_
     exact kOut
    ·rcases br_inv h with ⟨b40_3, h⟩ | ⟨b40_3, h⟩
     ·obtain ⟨x40_4, a40_5, e40_6, h⟩ := ix_inv h
      rcases br_inv h with ⟨b40_7, h⟩ | ⟨b40_7, h⟩
      ·refine kRs 28 [Tm 178 (bv true)] (rp 7 (.b false) (rp 7 (.b true) (.c (TSeat.en x40_4) :: (.b true :: (.b true :: (.b true :: (.b false :: (.b true :: (.b false :: (rp 18 (.b true) [])))))))))) (.r 4 b40_1 (.r 3 b40_2 (.r 7 b40_3 (.c (c_ix (e := TSeat.en) a40_5 e40_6) (.c (c_el (e := TSeat.en) e40_6) (.r 3 b40_3 (.c b40_2 (.c b40_3 (.c b40_2 (.r 4 b40_7 (.r 15 rT .n))))))))))) ?_
       refine kCt rT ?_
       refine kRs 0 [Tm 2 (bv false)] [] .n ?_
       cases some_inj h
       refine kWo ?_
       refine kRt ?_
       exact kOut
      ·rcases br_inv h with ⟨b40_8, h⟩ | ⟨b40_8, h⟩
       ·refine kRs 28 [Tm 178 (bv true)] (rp 7 (.b false) (rp 7 (.b true) (.c (TSeat.en x40_4) :: (.b true :: (.b true :: (.b true :: (.b false :: (.b true :: (rp 5 (.b false) (rp 14 (.b true) [])))))))))) (.r 4 b40_1 (.r 3 b40_2 (.r 7 b40_3 (.c (c_ix (e := TSeat.en) a40_5 e40_6) (.c (c_el (e := TSeat.en) e40_6) (.r 3 b40_3 (.c b40_2 (.c b40_3 (.c b40_2 (.r 4 b40_7 (.r 4 b40_8 (.r 11 rT .n)))))))))))) ?_
        refine kCt rT ?_
        refine kRs 0 [Tm 2 (bv false)] [] .n ?_
        cases some_inj h
        refine kWo ?_
        refine kRt ?_
        exact kOut
       ·rcases br_inv h with ⟨b40_9, h⟩ | ⟨b40_9, h⟩
        ·refine kRs 28 [Tm 178 (bv true)] (rp 7 (.b false) (rp 7 (.b true) (.c (TSeat.en x40_4) :: (.b true :: (.b true :: (.b true :: (.b false :: (.b true :: (rp 9 (.b false) (rp 10 (.b true) [])))))))))) (.r 4 b40_1 (.r 3 b40_2 (.r 7 b40_3 (.c (c_ix (e := TSeat.en) a40_5 e40_6) (.c (c_el (e := TSeat.en) e40_6) (.r 3 b40_3 (.c b40_2 (.c b40_3 (.c b40_2 (.r 4 b40_7 (.r 4 b40_8 (.r 4 b40_9 (.r 7 rT .n))))))))))))) ?_
         refine kCt rT ?_
         refine kRs 0 [Tm 2 (bv false)] [] .n ?_
         cases some_inj h
         refine kWo ?_
         refine kRt ?_
         exact kOut
        ·rcases br_inv h with ⟨b40_10, h⟩ | ⟨b40_10, h⟩
         ·refine kRs 28 [Tm 178 (bv true)] (rp 7 (.b false) (rp 7 (.b true) (.c (TSeat.en x40_4) :: (.b true :: (.b true :: (.b true :: (.b false :: (.b true :: (rp 13 (.b false) (rp 6 (.b true) [])))))))))) (.r 4 b40_1 (.r 3 b40_2 (.r 7 b40_3 (.c (c_ix (e := TSeat.en) a40_5 e40_6) (.c (c_el (e := TSeat.en) e40_6) (.r 3 b40_3 (.c b40_2 (.c b40_3 (.c b40_2 (.r 4 b40_7 (.r 4 b40_8 (.r 4 b40_9 (.r 6 b40_10 (.c rT .n)))))))))))))) ?_
          refine kCt rT ?_
          refine kRs 0 [Tm 2 (bv false)] [] .n ?_
          cases some_inj h
          refine kWo ?_
          refine kRt ?_
          exact kOut
         ·refine kRs 28 [Tm 178 (bv (decide (x39_1.Pos > l36_1.Done)))] (rp 7 (.b false) (rp 7 (.b true) (.c (TSeat.en x40_4) :: (.b true :: (.b true :: (.b true :: (.b false :: (.b true :: (rp 19 (.b false) []))))))))) (.r 4 b40_1 (.r 3 b40_2 (.r 7 b40_3 (.c (c_ix (e := TSeat.en) a40_5 e40_6) (.c (c_el (e := TSeat.en) e40_6) (.r 3 b40_3 (.c b40_2 (.c b40_3 (.c b40_2 (.r 4 b40_7 (.r 4 b40_8 (.r 4 b40_9 (.r 6 b40_10 (.c rT .n)))))))))))))) ?_
          rcases br_inv h with ⟨b47_0, h⟩ | ⟨b47_0, h⟩
          ·refine kCt b47_0 ?_
           refine kRs 0 [Tm 2 (bv false)] [] .n ?_
           cases some_inj h
           refine kWo ?_
           refine kRt ?_
           exact kOut
          ·refine kCe b47_0 ?_
           refine kSk ?_
           refine kCd (cR (cR (cB (cB (cR (cL (cR (cR (cR (cR bd11)))))))))) [.lp (cB (cR (cL (cR (cR (cR (cR bd11)))))))] ?_
           refine kRc 10 [Tm 6 (iv (w64 (l36_0 + 1)))] [] .n (cB (cR (cL (cR (cR (cR (cR bd11))))))) [] ?_
           exact kWk (ih (w64 (l36_0 + 1)) _ h)
     ·rcases br_inv h with ⟨b40_4, h⟩ | ⟨b40_4, h⟩
      ·refine kRs 28 [Tm 178 (bv true)] (rp 24 (.b false) (rp 14 (.b true) [])) (.r 4 b40_1 (.r 3 b40_2 (.r 10 b40_3 (.c b40_2 (.c b40_3 (.c b40_2 (.r 4 rF (.r 4 b40_4 (.r 11 rT .n))))))))) ?_
       refine kCt rT ?_
       refine kRs 0 [Tm 2 (bv false)] [] .n ?_
       cases some_inj h
       refine kWo ?_
       refine kRt ?_
       exact kOut
      ·rcases br_inv h with ⟨b40_5, h⟩ | ⟨b40_5, h⟩
       ·refine kRs 28 [Tm 178 (bv true)] (rp 28 (.b false) (rp 10 (.b true) [])) (.r 4 b40_1 (.r 3 b40_2 (.r 10 b40_3 (.c b40_2 (.c b40_3 (.c b40_2 (.r 4 rF (.r 4 b40_4 (.r 4 b40_5 (.r 7 rT .n)))))))))) ?_
        refine kCt rT ?_
        refine kRs 0 [Tm 2 (bv false)] [] .n ?_
        cases some_inj h
        refine kWo ?_
        refine kRt ?_
        exact kOut
       ·rcases br_inv h with ⟨b40_6, h⟩ | ⟨b40_6, h⟩
        ·refine kRs 28 [Tm 178 (bv true)] (rp 32 (.b false) (rp 6 (.b true) [])) (.r 4 b40_1 (.r 3 b40_2 (.r 10 b40_3 (.c b40_2 (.c b40_3 (.c b40_2 (.r 4 rF (.r 4 b40_4 (.r 4 b40_5 (.r 6 b40_6 (.c rT .n))))))))))) ?_
         refine kCt rT ?_
         refine kRs 0 [Tm 2 (bv false)] [] .n ?_
         cases some_inj h
         refine kWo ?_
         refine kRt ?_
         exact kOut
        ·refine kRs 28 [Tm 178 (bv (decide (x39_1.Pos > l36_1.Done)))] (rp 38 (.b false) []) (.r 4 b40_1 (.r 3 b40_2 (.r 10 b40_3 (.c b40_2 (.c b40_3 (.c b40_2 (.r 4 rF (.r 4 b40_4 (.r 4 b40_5 (.r 6 b40_6 (.c rT .n))))))))))) ?_
         rcases br_inv h with ⟨b53_0, h⟩ | ⟨b53_0, h⟩
         ·refine kCt b53_0 ?_
          refine kRs 0 [Tm 2 (bv false)] [] .n ?_
          cases some_inj h
          refine kWo ?_
          refine kRt ?_
          exact kOut
         ·refine kCe b53_0 ?_
          refine kSk ?_
          refine kCd (cR (cR (cB (cB (cR (cL (cR (cR (cR (cR bd11)))))))))) [.lp (cB (cR (cL (cR (cR (cR (cR bd11)))))))] ?_
          refine kRc 10 [Tm 6 (iv (w64 (l36_0 + 1)))] [] .n (cB (cR (cL (cR (cR (cR (cR bd11))))))) [] ?_
          exact kWk (ih (w64 (l36_0 + 1)) _ h)
  ·refine kCe b38_0 ?_
   cases some_inj h
   refine kWo ?_
   refine kXt 4 ?_
   exact kOut
def diwanref13_MayShard (fu : Nat) (s : TShard) : Option Bool :=
 br (decide (s.Shards < 1))
  (some false)
  (br (decide (s.Shards > 3))
   (some false)
   (br (decide (s.ID < 0))
    (some false)
    (br (decide (s.ID ≥ s.Shards))
     (some false)
     (br (decide (s.Done < 0))
      (some false)
      (br ((s.Bits.length : Int) != s.Done)
       (some false)
       (br ((s.Said.length : Int) != s.Done)
        (some false)
        (bd (diwanref13_MayStore fu s.S) fun r2_8 =>
        br (!r2_8)
         (some false)
         (bd (diwanref13_MayShard.lp13 fu s fu 0) fun o_ => (match o_ with
         | .inl _ =>
          bd (diwanref13_MayShard.lp25 fu s fu 0) fun o_ => (match o_ with
          | .inl _ =>
           bd (diwanref13_MayShard.lp36 fu s fu 0) fun o_ => (match o_ with
           | .inl _ =>
            some true
           | .inr _ =>
            some false)
          | .inr _ =>
           some false)
         | .inr _ =>
          some false)))))))))
theorem diwanref13_MayShard.meets (fu : Nat) (s : TShard) (z0 : Bool) (h : diwanref13_MayShard fu s = some z0) : Meets Try.prog ⟨11, [.data (TShard.ag s)], []⟩ ⟨bv z0, []⟩ := by
 refine kMt hmix diwanref13_MayShard.O Try.f11 bd11 1 ?_
 unfold diwanref13_MayShard at h
 refine kRs 0 [Tm 1 (.ptr 1 0), Ob 1 (TShard.ob s)] [] .n ?_
 refine kSq ?_
 rcases br_inv h with ⟨b2_1, h⟩ | ⟨b2_1, h⟩
 ·refine kRs 3 [Tm 54 (bv true)] (rp 37 (.b true) []) (.r 4 b2_1 (.r 33 rT .n)) ?_
  refine kCt rT ?_
  refine kRs 0 [Tm 2 (bv false)] [] .n ?_
  refine kRt ?_
  have h_ := some_inj h
  subst h_
  exact kFr
 ·rcases br_inv h with ⟨b2_2, h⟩ | ⟨b2_2, h⟩
  ·refine kRs 3 [Tm 54 (bv true)] (rp 4 (.b false) (rp 33 (.b true) [])) (.r 4 b2_1 (.r 4 b2_2 (.r 29 rT .n))) ?_
   refine kCt rT ?_
   refine kRs 0 [Tm 2 (bv false)] [] .n ?_
   refine kRt ?_
   have h_ := some_inj h
   subst h_
   exact kFr
  ·rcases br_inv h with ⟨b2_3, h⟩ | ⟨b2_3, h⟩
   ·refine kRs 3 [Tm 54 (bv true)] (rp 8 (.b false) (rp 29 (.b true) [])) (.r 4 b2_1 (.r 4 b2_2 (.r 6 b2_3 (.r 23 rT .n)))) ?_
    refine kCt rT ?_
    refine kRs 0 [Tm 2 (bv false)] [] .n ?_
    refine kRt ?_
    have h_ := some_inj h
    subst h_
    exact kFr
   ·rcases br_inv h with ⟨b2_4, h⟩ | ⟨b2_4, h⟩
    ·refine kRs 3 [Tm 54 (bv true)] (rp 14 (.b false) (rp 23 (.b true) [])) (.r 4 b2_1 (.r 4 b2_2 (.r 6 b2_3 (.r 4 b2_4 (.r 19 rT .n))))) ?_
     refine kCt rT ?_
     refine kRs 0 [Tm 2 (bv false)] [] .n ?_
     refine kRt ?_
     have h_ := some_inj h
     subst h_
     exact kFr
    ·rcases br_inv h with ⟨b2_5, h⟩ | ⟨b2_5, h⟩
     ·refine kRs 3 [Tm 54 (bv true)] (rp 18 (.b false) (rp 19 (.b true) [])) (.r 4 b2_1 (.r 4 b2_2 (.r 6 b2_3 (.r 4 b2_4 (.r 7 b2_5 (.r 12 rT .n)))))) ?_
      refine kCt rT ?_
      refine kRs 0 [Tm 2 (bv false)] [] .n ?_
      refine kRt ?_
      have h_ := some_inj h
      subst h_
      exact kFr
     ·rcases br_inv h with ⟨b2_6, h⟩ | ⟨b2_6, h⟩
      ·refine kRs 3 [Tm 54 (bv true)] (rp 21 (.b false) (.s (.t 36) [iv (s.Bits.length : Int)] :: (rp 4 (.b false) (rp 12 (.b true) [])))) (.r 4 b2_1 (.r 4 b2_2 (.r 6 b2_3 (.r 4 b2_4 (.r 3 b2_5 (.c (c_len (e := e_i64) (l := s.Bits)) (.r 4 b2_5 (.r 7 b2_6 (.r 5 rT .n))))))))) ?_
       refine kCt rT ?_
       refine kRs 0 [Tm 2 (bv false)] [] .n ?_
       refine kRt ?_
       have h_ := some_inj h
       subst h_
       exact kFr
      ·rcases br_inv h with ⟨b2_7, h⟩ | ⟨b2_7, h⟩
       ·refine kRs 3 [Tm 54 (bv true)] (rp 21 (.b false) (.s (.t 36) [iv (s.Bits.length : Int)] :: (rp 7 (.b false) (.s (.t 44) [iv (s.Said.length : Int)] :: (rp 4 (.b false) (rp 5 (.b true) [])))))) (.r 4 b2_1 (.r 4 b2_2 (.r 6 b2_3 (.r 4 b2_4 (.r 3 b2_5 (.c (c_len (e := e_i64) (l := s.Bits)) (.r 4 b2_5 (.r 3 b2_6 (.c (c_len (e := e_i64) (l := s.Said)) (.r 4 b2_6 (.r 5 b2_7 .n))))))))))) ?_
        refine kCt rT ?_
        refine kRs 0 [Tm 2 (bv false)] [] .n ?_
        refine kRt ?_
        have h_ := some_inj h
        subst h_
        exact kFr
       ·obtain ⟨r2_8, h2_9, h⟩ := bd_inv h
        refine kRs 3 [Tm 54 (bv (!r2_8))] (rp 21 (.b false) (.s (.t 36) [iv (s.Bits.length : Int)] :: (rp 7 (.b false) (.s (.t 44) [iv (s.Said.length : Int)] :: (rp 7 (.b false) [.a ⟨bv r2_8, []⟩, .b false, .b false]))))) (.r 4 b2_1 (.r 4 b2_2 (.r 6 b2_3 (.r 4 b2_4 (.r 3 b2_5 (.c (c_len (e := e_i64) (l := s.Bits)) (.r 4 b2_5 (.r 3 b2_6 (.c (c_len (e := e_i64) (l := s.Said)) (.r 4 b2_6 (.r 3 b2_7 (.c (Asks.of (C := Meets Try.prog) (diwanref13_MayStore.meets fu s.S _ h2_9)) (.r 2 b2_7 .n))))))))))))) ?_
        rcases br_inv h with ⟨b10_0, h⟩ | ⟨b10_0, h⟩
        ·refine kCt b10_0 ?_
         refine kRs 0 [Tm 2 (bv false)] [] .n ?_
         refine kRt ?_
         have h_ := some_inj h
         subst h_
         exact kFr
        ·refine kCe b10_0 ?_
         refine kSk ?_
         refine kCd (cR (cR bd11)) [] ?_
         refine kSq ?_
         refine kRs 6 [Tm 3 (iv 0)] [] .n ?_
         refine kBk 0 ?_
         obtain ⟨o23, ho23, h⟩ := bd_inv h
         refine kUs (diwanref13_MayShard.lp13_ok fu s _ 0 _ ho23) ?_
         intro e_ τ_ hp_
         rcases o23 with o23 | o23
         ·obtain ⟨⟩ := o23
          obtain ⟨rfl, rfl⟩ := hp_
          refine kCd (cR (cR (cR bd11))) [] ?_
          refine kSq ?_
          refine kRs 3 [Tm 4 (iv 0)] [] .n ?_
          refine kBk 2 ?_
          obtain ⟨o34, ho34, h⟩ := bd_inv h
          refine kUs (diwanref13_MayShard.lp25_ok fu s _ 0 _ ho34) ?_
          intro e_ τ_ hp_
          rcases o34 with o34 | o34
          ·obtain ⟨⟩ := o34
           obtain ⟨rfl, rfl⟩ := hp_
           refine kCd (cR (cR (cR (cR bd11)))) [] ?_
           refine kSq ?_
           refine kRs 3 [Tm 6 (iv 0)] [] .n ?_
           refine kBk 4 ?_
           obtain ⟨o56, ho56, h⟩ := bd_inv h
           refine kUs (diwanref13_MayShard.lp36_ok fu s _ 0 _ ho56) ?_
           intro e_ τ_ hp_
           rcases o56 with o56 | o56
           ·obtain ⟨⟩ := o56
            obtain ⟨rfl, rfl⟩ := hp_
            refine kCd (cR (cR (cR (cR (cR bd11))))) [] ?_
            refine kRs 0 [Tm 2 (bv true)] [] .n ?_
            refine kRt ?_
            have h_ := some_inj h
            subst h_
            exact kFr
           ·obtain ⟨⟩ := o56
            obtain ⟨rfl, rfl⟩ := hp_
            have h_ := some_inj h
            subst h_
            exact kFr
          ·obtain ⟨⟩ := o34
           obtain ⟨rfl, rfl⟩ := hp_
           have h_ := some_inj h
           subst h_
           exact kFr
         ·obtain ⟨⟩ := o23
          obtain ⟨rfl, rfl⟩ := hp_
          have h_ := some_inj h
          subst h_
          exact kFr
def bd3 : Code := (Try.f3.body).getD .skip
def diwanlaw20_SaveTake.O : Nat → Nat := fun t => bif ([2, 3, 4, 5, 16, 21] : List Nat).any (Nat.beq t) then 1 else 0
def diwanlaw20_SaveTake (fu : Nat) (b : List Int) : Option Bool :=
 bd (diwanlaw20_begun fu) fun r2_1 =>
 br (!r2_1)
  (some false)
  (br (decide ((b.length : Int) > 200))
   (some true)
   (bd (diwanlaw0_Lent fu b) fun (r8_1, r8_2) =>
   bd (save_Take fu (List.take r8_1 r8_2)) fun (r9_1, r9_2) =>
   br (!r9_2)
    (jn (fun (j13_0 : Bool) =>
     some j13_0) fun k13 =>
    bd (diwanref13_SameShard fu r9_1 (TShard.mk 0 0 0 (TStore.mk [] 0) [] [] [])) fun r12_1 =>
    br r12_1
     (bd (diwanlaw0_Back fu r8_1 r8_2 b) fun r12_4 =>
     k13 r12_4)
     (k13 false))
    (bd (diwanref13_MayShard fu r9_1) fun r14_1 =>
    br r14_1
     (bd (save_Put fu r9_1) fun r14_4 =>
     br ((strB r14_4).toList == (strB b).toList)
      (bd (diwanlaw0_Back fu r8_1 r8_2 b) fun r14_7 =>
      some r14_7)
      (some false))
     (some false))))
theorem diwanlaw20_SaveTake.meets (fu : Nat) (b : List Int) (z0 : Bool) (h : diwanlaw20_SaveTake fu b = some z0) : Meets Try.prog ⟨3, [sS 1 e_u8 b], []⟩ ⟨bv z0, []⟩ := by
 refine kMt hmix diwanlaw20_SaveTake.O Try.f3 bd3 1 ?_
 unfold diwanlaw20_SaveTake at h
 refine kRs 1 [] [] .n ?_
 refine kSq ?_
 obtain ⟨r2_1, h2_2, h⟩ := bd_inv h
 refine kRs 1 [Tm 7 (bv (!r2_1))] [.a ⟨bv r2_1, []⟩] (.c (Asks.of (C := Meets Try.prog) (diwanlaw20_begun.meets fu _ h2_2)) .n) ?_
 rcases br_inv h with ⟨b3_0, h⟩ | ⟨b3_0, h⟩
 ·refine kCt b3_0 ?_
  refine kRs 0 [Tm 2 (bv false)] [] .n ?_
  refine kRt ?_
  have h_ := some_inj h
  subst h_
  exact kFr
 ·refine kCe b3_0 ?_
  refine kSk ?_
  refine kCd (cR (cR bd3)) [] ?_
  refine kSq ?_
  refine kRs 2 [Tm 10 (bv (decide ((b.length : Int) > 200)))] [.s (.t 9) [iv (b.length : Int)]] (.c (c_len (e := e_u8) (l := b)) .n) ?_
  rcases br_inv h with ⟨b6_0, h⟩ | ⟨b6_0, h⟩
  ·refine kCt b6_0 ?_
   refine kRs 0 [Tm 2 (bv true)] [] .n ?_
   refine kRt ?_
   have h_ := some_inj h
   subst h_
   exact kFr
  ·refine kCe b6_0 ?_
   refine kSk ?_
   refine kCd (cR (cR (cR bd3))) [] ?_
   obtain ⟨⟨r8_1, r8_2⟩, h8_3, h⟩ := bd_inv h
   refine kRs 2 [Tm 3 (.data (.rm r8_1 1 (List.map e_u8 r8_2)))] [.a ⟨.data (.rm r8_1 1 (List.map e_u8 r8_2)), []⟩] (.c (Asks.of (C := Meets Try.prog) (diwanlaw0_Lent.meets fu b _ _ h8_3)) .n) ?_
   obtain ⟨⟨r9_1, r9_2⟩, h9_3, h⟩ := bd_inv h
   refine kRs 3 [Tm 4 (.ptr 4 0), Tm 5 (bv r9_2), Ob 4 (TShard.ob r9_1)] [.a ⟨.tup [.data (TShard.ag r9_1), bv r9_2], []⟩] (.c (Asks.rm (C := Meets Try.prog) (args1 := []) (args2 := []) (n := r8_1) (sz := 1) (es := List.map e_u8 r8_2) (Eq.refl true) (c_tkm (e := e_u8)) (Asks.of (C := Meets Try.prog) (save_Take.meets fu (List.take r8_1 r8_2) _ _ h9_3))) .n) ?_
   refine kSq ?_
   refine kRs 29 [Tm 19 (bv (!r9_2))] [] .n ?_
   rcases br_inv h with ⟨b11_0, h⟩ | ⟨b11_0, h⟩
   ·refine kCt b11_0 ?_
    obtain ⟨k13, hk13, h⟩ := jn_inv h
    have Jk13 : ∀ (j13_0 : Bool), k13 j13_0 = some z0 → WK Try.prog diwanlaw20_SaveTake.O (Ck Try.prog) (cR (cT (cR (cL (cR (cR (cR (cR (cR bd3))))))))) [.seq (cR (cR (cR (cR (cR (cR bd3))))))] (ofL [Tm 2 (bv j13_0)]) (Fin Try.prog diwanlaw20_SaveTake.O Try.f3 0 ⟨bv z0, []⟩) := by
     intro j13_0 h
     rw [hk13] at h
     refine kRt ?_
     have h_ := some_inj h
     subst h_
     exact kFr
    clear hk13
    obtain ⟨r12_1, h12_2, h⟩ := bd_inv h
    rcases br_inv h with ⟨b12_3, h⟩ | ⟨b12_3, h⟩
    ·obtain ⟨r12_4, h12_5, h⟩ := bd_inv h
     refine kRs 0 [Tm 2 (bv r12_4)] [.a ⟨bv r12_1, []⟩, .b true, .b true, .b true, .a ⟨bv r12_4, []⟩, .b true] (.c (Asks.of (C := Meets Try.prog) (diwanref13_SameShard.meets fu r9_1 (TShard.mk 0 0 0 (TStore.mk [] 0) [] [] []) _ h12_2)) (.r 3 b12_3 (.c (Asks.of (C := Meets Try.prog) (diwanlaw0_Back.meets fu r8_1 r8_2 b _ h12_5)) (.c b12_3 .n)))) ?_
     exact kWk (Jk13 r12_4 h)
    ·refine kRs 0 [Tm 2 (bv false)] (.a ⟨bv r12_1, []⟩ :: (rp 4 (.b false) [])) (.c (Asks.of (C := Meets Try.prog) (diwanref13_SameShard.meets fu r9_1 (TShard.mk 0 0 0 (TStore.mk [] 0) [] [] []) _ h12_2)) (.r 4 b12_3 .n)) ?_
     exact kWk (Jk13 false h)
   ·refine kCe b11_0 ?_
    refine kSk ?_
    refine kCd (cR (cR (cR (cR (cR (cR bd3)))))) [] ?_
    obtain ⟨r14_1, h14_2, h⟩ := bd_inv h
    rcases br_inv h with ⟨b14_3, h⟩ | ⟨b14_3, h⟩
    ·obtain ⟨r14_4, h14_5, h⟩ := bd_inv h
     rcases br_inv h with ⟨b14_6, h⟩ | ⟨b14_6, h⟩
     ·obtain ⟨r14_7, h14_8, h⟩ := bd_inv h
      refine kRs 0 [Tm 2 (bv r14_7)] (.a ⟨bv r14_1, []⟩ :: (.b true :: (.b true :: (.a ⟨.data (.slc true (some r14_4.isEmpty) 1 (List.map e_u8 r14_4)), []⟩ :: (rp 8 (.b true) [.a ⟨bv r14_7, []⟩, .b true]))))) (.c (Asks.of (C := Meets Try.prog) (diwanref13_MayShard.meets fu r9_1 _ h14_2)) (.r 2 b14_3 (.c (Asks.of (C := Meets Try.prog) (save_Put.meets fu r9_1 _ h14_5)) (.c b14_3 (.c (c_ab r14_4) (.r 2 b14_3 (.c (c_ab b) (.r 2 b14_3 (.r 3 b14_6 (.c (Asks.of (C := Meets Try.prog) (diwanlaw0_Back.meets fu r8_1 r8_2 b _ h14_8)) (.c b14_6 (.c rT .n)))))))))))) ?_
      refine kRt ?_
      have h_ := some_inj h
      subst h_
      exact kFr
     ·refine kRs 0 [Tm 2 (bv false)] (.a ⟨bv r14_1, []⟩ :: (.b true :: (.b true :: (.a ⟨.data (.slc true (some r14_4.isEmpty) 1 (List.map e_u8 r14_4)), []⟩ :: (rp 5 (.b true) (rp 4 (.b false) [])))))) (.c (Asks.of (C := Meets Try.prog) (diwanref13_MayShard.meets fu r9_1 _ h14_2)) (.r 2 b14_3 (.c (Asks.of (C := Meets Try.prog) (save_Put.meets fu r9_1 _ h14_5)) (.c b14_3 (.c (c_ab r14_4) (.r 2 b14_3 (.c (c_ab b) (.r 2 b14_3 (.r 4 b14_6 (.c rT .n)))))))))) ?_
      refine kRt ?_
      have h_ := some_inj h
      subst h_
      exact kFr
    ·refine kRs 0 [Tm 2 (bv false)] (.a ⟨bv r14_1, []⟩ :: (rp 11 (.b false) [])) (.c (Asks.of (C := Meets Try.prog) (diwanref13_MayShard.meets fu r9_1 _ h14_2)) (.r 7 b14_3 (.r 4 rF (.c rT .n)))) ?_
     refine kRt ?_
     have h_ := some_inj h
     subst h_
     exact kFr
def bd33 : Code := (Try.f33.body).getD .skip
def diwanplay_Made.O : Nat → Nat := fun t => bif ([2, 4, 5] : List Nat).any (Nat.beq t) then 1 else 0
def diwanplay_Made (l : List Int) : Option TPicks :=
 some (TPicks.mk l 0)
theorem diwanplay_Made.meets (l : List Int) (z0 : TPicks) (h : diwanplay_Made l = some z0) : Meets Try.prog ⟨33, [sS 1 e_u8 l], []⟩ ⟨.ptr 1000 0, [[sS 1 e_u8 z0.l, iv z0.n]]⟩ := by
 refine kMt hmix diwanplay_Made.O Try.f33 bd33 1 ?_
 unfold diwanplay_Made at h
 refine kRs 1 [] [] .n ?_
 refine kRs 0 [Tm 2 (.ptr 5 0), Ob 5 [sS 1 e_u8 l, iv 0]] [] .n ?_
 refine kRt ?_
 have h_ := some_inj h
 subst h_
 exact kFr
def bd56 : Code := (Try.f56.body).getD .skip
def diwanplay_Picks_Num.O : Nat → Nat := fun t => bif ([4, 19] : List Nat).any (Nat.beq t) then 1 else 0
def diwanplay_Picks_Num (m : Int) (o0_v : TPicks) : Option (Int × TPicks) :=
 br (decide (o0_v.n ≥ (o0_v.l.length : Int)))
  (some (0, o0_v))
  (ix o0_v.l (w64 ((w64 (o0_v.n + 1)) - 1)) fun x6_1 =>
  gd (!decide (m = 0)) <|
  some ((Int.tmod (w64 x6_1) m), (TPicks.mk o0_v.l (w64 (o0_v.n + 1)))))
theorem diwanplay_Picks_Num.meets (m : Int) (o0_v : TPicks) (z0 : Int) (z1 : TPicks) (h : diwanplay_Picks_Num m o0_v = some (z0, z1)) : Meets Try.prog ⟨56, [.ptr 1000 0, iv m], [[sS 1 e_u8 o0_v.l, iv o0_v.n]]⟩ ⟨iv z0, [[sS 1 e_u8 z1.l, iv z1.n]]⟩ := by
 refine kMt hmix diwanplay_Picks_Num.O Try.f56 bd56 7 ?_
 unfold diwanplay_Picks_Num at h
 refine kRs 7 [] [] .n ?_
 refine kSq ?_
 refine kRs 7 [Tm 14 (bv (decide (o0_v.n ≥ (o0_v.l.length : Int))))] [.s (.t 13) [iv (o0_v.l.length : Int)]] (.c (c_len (e := e_u8) (l := o0_v.l)) (.c rT .n)) ?_
 rcases br_inv h with ⟨b3_0, h⟩ | ⟨b3_0, h⟩
 ·refine kCt b3_0 ?_
  refine kRs 8 [Tm 4 (iv 0)] [] .n ?_
  refine kRt ?_
  have h_0 := some_inj h
  obtain ⟨g_1, h_1⟩ := Prod.mk.inj h_0
  subst g_1
  subst h_1
  exact kFr
 ·refine kCe b3_0 ?_
  refine kSk ?_
  refine kCd (cR (cR bd56)) [] ?_
  refine kRs 6 [Ob 1000 [sS 1 e_u8 o0_v.l, iv (w64 (o0_v.n + 1))]] [] .n ?_
  obtain ⟨x6_1, a6_2, e6_3, h⟩ := ix_inv h
  obtain ⟨c6_4, h⟩ := gd_inv h
  refine kRs 1 [Tm 4 (iv (Int.tmod (w64 x6_1) m))] [.c (e_u8 x6_1)] (.c (c_ix (e := e_u8) a6_2 e6_3) (.c (c_el (e := e_u8) e6_3) (.c c6_4 (.c rT .n)))) ?_
  refine kRt ?_
  have h_0 := some_inj h
  obtain ⟨g_1, h_1⟩ := Prod.mk.inj h_0
  subst g_1
  subst h_1
  exact kFr
def bd78 : Code := (Try.f78.body).getD .skip
def diwanplay_keys.O : Nat → Nat := fun t => bif ([0, 1] : List Nat).any (Nat.beq t) then 1 else 0
def diwanplay_keys : Option Unit :=
 some ()
theorem diwanplay_keys.meets (h : diwanplay_keys = some ()) : Meets Try.prog ⟨78, [], []⟩ ⟨.data (.slc true (some false) 1 (List.map e_s ([(⟨#[97]⟩ : ByteArray), (⟨#[98]⟩ : ByteArray), (⟨#[99]⟩ : ByteArray), (⟨#[100]⟩ : ByteArray), (⟨#[101, 101]⟩ : ByteArray), (⟨#[102, 102]⟩ : ByteArray)] : List ByteArray))), []⟩ := by
 refine kMt hmix diwanplay_keys.O Try.f78 bd78 0 ?_
 unfold diwanplay_keys at h
 refine kRs 0 [] [] .n ?_
 refine kRs 0 [Tm 0 (.data (.slc true (some false) 1 (List.map e_s ([(⟨#[97]⟩ : ByteArray), (⟨#[98]⟩ : ByteArray), (⟨#[99]⟩ : ByteArray), (⟨#[100]⟩ : ByteArray), (⟨#[101, 101]⟩ : ByteArray), (⟨#[102, 102]⟩ : ByteArray)] : List ByteArray))))] [] .n ?_
 refine kRt ?_
 cases some_inj h
 exact kFr
def bd72 : Code := (Try.f72.body).getD .skip
def diwanplay_Picks_Keys.O : Nat → Nat := fun t => bif ([4, 5, 6, 7, 8, 32] : List Nat).any (Nat.beq t) then 1 else 0
def diwanplay_Picks_Keys.lp6 (fu : Nat) (l6_0 : Int) (l6_3 : List ByteArray) (l6_5 : TPicks) : Nat → (List ByteArray) → Int → Int → Option (List ByteArray)
  | 0, _, _, _ => none
  | n_ + 1, l6_1, l6_2, l6_4 =>
  br (decide (l6_4 < (l6_3.length : Int)))
   (br (decide ((l6_1.length : Int) < l6_0))
    (br ((Int.tmod l6_2 2) == 1)
     (ix l6_3 l6_4 fun x11_1 =>
     gd (decide (l6_1.length + ([x11_1] : List ByteArray).length ≤ 4294967296)) <|
     diwanplay_Picks_Keys.lp6 fu l6_0 l6_3 l6_5 n_ (l6_1 ++ ([x11_1] : List ByteArray)) (w64 (Int.tdiv l6_2 2)) (w64 (l6_4 + 1)))
     (diwanplay_Picks_Keys.lp6 fu l6_0 l6_3 l6_5 n_ l6_1 (w64 (Int.tdiv l6_2 2)) (w64 (l6_4 + 1))))
    (some l6_1))
   (some l6_1)
def diwanplay_Picks_Keys.lp6_post (l6_0 : Int) (l6_3 : List ByteArray) (l6_5 : TPicks) (r_ : (List ByteArray)) : Wy → St → Prop := fun e τ => match r_ with
  | y0 => e = .exit 0 ∧ τ = ofL [Tm 5 (sO 1 e_s y0), Ob 1000 [sS 1 e_u8 l6_5.l, iv l6_5.n]]
theorem diwanplay_Picks_Keys.lp6_ok (fu : Nat) (l6_0 : Int) (l6_3 : List ByteArray) (l6_5 : TPicks) : ∀ (n_ : Nat) (l6_1 : List ByteArray) (l6_2 : Int) (l6_4 : Int) (r_ : (List ByteArray)), diwanplay_Picks_Keys.lp6 fu l6_0 l6_3 l6_5 n_ l6_1 l6_2 l6_4 = some r_ → WK Try.prog diwanplay_Picks_Keys.O (Ck Try.prog) (cB (cR (cL (cR (cR (cR (cR bd72))))))) [] (ofL [Tm 1 (iv l6_0), Tm 5 (sO 1 e_s l6_1), Tm 6 (iv l6_2), Tm 7 (.data (.slc true (some false) 1 (List.map e_s l6_3))), Tm 8 (iv l6_4), Ob 1000 [sS 1 e_u8 l6_5.l, iv l6_5.n]]) (diwanplay_Picks_Keys.lp6_post l6_0 l6_3 l6_5 r_) := by
 intro n_
 induction n_ with
 | zero => intro l6_1 l6_2 l6_4 r_ h; exact no_none h
 | succ n_ ih =>
  intro l6_1 l6_2 l6_4 r_ h
  refine kLp ?_
  refine kSq ?_
  rcases br_inv h with ⟨b7_1, h⟩ | ⟨b7_1, h⟩
  ·refine kRs 63 [Tm 21 (bv (decide ((l6_1.length : Int) < l6_0)))] [.s (.t 14) [iv (l6_3.length : Int)], .b true, .b true, .s (.t 18) [iv (l6_1.length : Int)], .b true, .b true, .b true] (.c (c_len (e := e_s) (l := l6_3)) (.r 2 b7_1 (.c (c_len (e := e_s) (l := l6_1)) (.r 3 b7_1 .n)))) ?_
   rcases br_inv h with ⟨b8_0, h⟩ | ⟨b8_0, h⟩
   ·refine kCt b8_0 ?_
    refine kSk ?_
    refine kCd (cR (cB (cB (cR (cL (cR (cR (cR (cR bd72))))))))) [.lp (cB (cR (cL (cR (cR (cR (cR bd72)))))))] ?_
    refine kSq ?_
    refine kBk 1 ?_
    refine kSq ?_
    refine kRs 126 [Tm 26 (bv ((Int.tmod l6_2 2) == 1))] [] (.c rT .n) ?_
    rcases br_inv h with ⟨b10_0, h⟩ | ⟨b10_0, h⟩
    ·refine kCt b10_0 ?_
     obtain ⟨x11_1, a11_2, e11_3, h⟩ := ix_inv h
     obtain ⟨c11_4, h⟩ := gd_inv h
     refine kRc 122 [Tm 5 (sO 1 e_s (l6_1 ++ ([x11_1] : List ByteArray)))] [.c (e_s x11_1), .s (.t 33) [sO 1 e_s (l6_1 ++ ([x11_1] : List ByteArray))]] (.c (c_ix (e := e_s) a11_2 e11_3) (.c (c_el (e := e_s) e11_3) (.c (c_al (e := e_s) (f := e_s) c11_4) (.c (congrArg (fun d : DV => [AV.data d]) (c_app (e := e_s) (s := 1) (l := l6_1) (m := ([x11_1] : List ByteArray)))) .n)))) (cR (cB (cL (cR (cB (cB (cR (cL (cR (cR (cR (cR bd72)))))))))))) [.blk 1, .seq (cR (cR (cB (cB (cR (cL (cR (cR (cR (cR bd72)))))))))), .lp (cB (cR (cL (cR (cR (cR (cR bd72)))))))] ?_
     refine kRc 59 [Tm 6 (iv (w64 (Int.tdiv l6_2 2)))] [] (.c rT .n) (cR (cR (cB (cB (cR (cL (cR (cR (cR (cR bd72)))))))))) [.lp (cB (cR (cL (cR (cR (cR (cR bd72)))))))] ?_
     refine kRc 47 [Tm 8 (iv (w64 (l6_4 + 1)))] [] .n (cB (cR (cL (cR (cR (cR (cR bd72))))))) [] ?_
     exact kWk (ih (l6_1 ++ ([x11_1] : List ByteArray)) (w64 (Int.tdiv l6_2 2)) (w64 (l6_4 + 1)) _ h)
    ·refine kCe b10_0 ?_
     refine kSk ?_
     refine kCd (cR (cB (cL (cR (cB (cB (cR (cL (cR (cR (cR (cR bd72)))))))))))) [.blk 1, .seq (cR (cR (cB (cB (cR (cL (cR (cR (cR (cR bd72)))))))))), .lp (cB (cR (cL (cR (cR (cR (cR bd72)))))))] ?_
     refine kRc 118 [Tm 6 (iv (w64 (Int.tdiv l6_2 2)))] [] (.c rT .n) (cR (cR (cB (cB (cR (cL (cR (cR (cR (cR bd72)))))))))) [.lp (cB (cR (cL (cR (cR (cR (cR bd72)))))))] ?_
     refine kRc 47 [Tm 8 (iv (w64 (l6_4 + 1)))] [] .n (cB (cR (cL (cR (cR (cR (cR bd72))))))) [] ?_
     exact kWk (ih l6_1 (w64 (Int.tdiv l6_2 2)) (w64 (l6_4 + 1)) _ h)
   ·refine kCe b8_0 ?_
    cases some_inj h
    refine kWo ?_
    refine kXt 0 ?_
    exact kOut
  ·refine kRs 63 [Tm 21 (bv false)] (.s (.t 14) [iv (l6_3.length : Int)] :: (rp 5 (.b false) [])) (.c (c_len (e := e_s) (l := l6_3)) (.r 5 b7_1 .n)) ?_
   refine kCe rF ?_
   cases some_inj h
   refine kWo ?_
   refine kXt 0 ?_
   exact kOut
def diwanplay_Picks_Keys (fu : Nat) (most : Int) (o0_v : TPicks) : Option (List ByteArray × TPicks) :=
 bd (diwanplay_Picks_Num 64 o0_v) fun (r3_1, r3_2) =>
 bd (diwanplay_keys) fun _ =>
 bd (diwanplay_Picks_Keys.lp6 fu most ([(⟨#[97]⟩ : ByteArray), (⟨#[98]⟩ : ByteArray), (⟨#[99]⟩ : ByteArray), (⟨#[100]⟩ : ByteArray), (⟨#[101, 101]⟩ : ByteArray), (⟨#[102, 102]⟩ : ByteArray)] : List ByteArray) r3_2 fu [] r3_1 0) fun y16_0 =>
 some (y16_0, r3_2)
theorem diwanplay_Picks_Keys.meets (fu : Nat) (most : Int) (o0_v : TPicks) (z0 : List ByteArray) (z1 : TPicks) (h : diwanplay_Picks_Keys fu most o0_v = some (z0, z1)) : Meets Try.prog ⟨72, [.ptr 1000 0, iv most], [[sS 1 e_u8 o0_v.l, iv o0_v.n]]⟩ ⟨sO 1 e_s z0, [[sS 1 e_u8 z1.l, iv z1.n]]⟩ := by
 refine kMt hmix diwanplay_Picks_Keys.O Try.f72 bd72 7 ?_
 unfold diwanplay_Picks_Keys at h
 refine kRs 7 [] [] .n ?_
 refine kRs 7 [Tm 5 (.data (.slc true (some true) 1 (List.map e_s [])))] [] .n ?_
 obtain ⟨⟨r3_1, r3_2⟩, h3_3, h⟩ := bd_inv h
 refine kRs 5 [Tm 6 (iv r3_1), Ob 1000 [sS 1 e_u8 r3_2.l, iv r3_2.n]] [.a ⟨iv r3_1, [[sS 1 e_u8 r3_2.l, iv r3_2.n]]⟩] (.c (Asks.of (C := Meets Try.prog) (diwanplay_Picks_Num.meets 64 o0_v _ _ h3_3)) .n) ?_
 obtain ⟨_, h4_1, h⟩ := bd_inv h
 refine kRs 15 [Tm 7 (.data (.slc true (some false) 1 (List.map e_s ([(⟨#[97]⟩ : ByteArray), (⟨#[98]⟩ : ByteArray), (⟨#[99]⟩ : ByteArray), (⟨#[100]⟩ : ByteArray), (⟨#[101, 101]⟩ : ByteArray), (⟨#[102, 102]⟩ : ByteArray)] : List ByteArray))))] [.a ⟨.data (.slc true (some false) 1 (List.map e_s ([(⟨#[97]⟩ : ByteArray), (⟨#[98]⟩ : ByteArray), (⟨#[99]⟩ : ByteArray), (⟨#[100]⟩ : ByteArray), (⟨#[101, 101]⟩ : ByteArray), (⟨#[102, 102]⟩ : ByteArray)] : List ByteArray))), []⟩] (.c (Asks.of (C := Meets Try.prog) (diwanplay_keys.meets  h4_1)) .n) ?_
 refine kSq ?_
 refine kRs 31 [Tm 8 (iv 0)] [] .n ?_
 refine kBk 0 ?_
 obtain ⟨o16, ho16, h⟩ := bd_inv h
 refine kUs (diwanplay_Picks_Keys.lp6_ok fu most ([(⟨#[97]⟩ : ByteArray), (⟨#[98]⟩ : ByteArray), (⟨#[99]⟩ : ByteArray), (⟨#[100]⟩ : ByteArray), (⟨#[101, 101]⟩ : ByteArray), (⟨#[102, 102]⟩ : ByteArray)] : List ByteArray) r3_2 _ [] r3_1 0 _ ho16) ?_
 intro e_ τ_ hp_
 obtain ⟨y16_0, rfl⟩ : ∃ y, y = o16 := ⟨_, rfl⟩
 obtain ⟨rfl, rfl⟩ := hp_
 refine kCd (cR (cR (cR (cR (cR bd72))))) [] ?_
 refine kRs 2 [Tm 4 (sO 1 e_s y16_0)] [] .n ?_
 refine kRt ?_
 have h_0 := some_inj h
 obtain ⟨g_1, h_1⟩ := Prod.mk.inj h_0
 subst g_1
 subst h_1
 exact kFr
def bd73 : Code := (Try.f73.body).getD .skip
def diwanplay_Picks_Val.O : Nat → Nat := fun t => bif ([2, 3] : List Nat).any (Nat.beq t) then 1 else 0
def diwanplay_Picks_Val (o0_v : TPicks) : Option (ByteArray × TPicks) :=
 bd (diwanplay_Picks_Num 5 o0_v) fun (r2_1, r2_2) =>
 ix ([ByteArray.empty, (⟨#[118]⟩ : ByteArray), (⟨#[119]⟩ : ByteArray), (⟨#[120, 120]⟩ : ByteArray), (⟨#[115, 105, 120, 116, 101, 101, 110, 45, 98, 121, 116, 101, 115, 45, 111, 107]⟩ : ByteArray)] : List ByteArray) r2_1 fun x2_4 =>
 some (x2_4, r2_2)
theorem diwanplay_Picks_Val.meets (o0_v : TPicks) (z0 : ByteArray) (z1 : TPicks) (h : diwanplay_Picks_Val o0_v = some (z0, z1)) : Meets Try.prog ⟨73, [.ptr 1000 0], [[sS 1 e_u8 o0_v.l, iv o0_v.n]]⟩ ⟨sv z0, [[sS 1 e_u8 z1.l, iv z1.n]]⟩ := by
 refine kMt hmix diwanplay_Picks_Val.O Try.f73 bd73 3 ?_
 unfold diwanplay_Picks_Val at h
 refine kRs 3 [] [] .n ?_
 obtain ⟨⟨r2_1, r2_2⟩, h2_3, h⟩ := bd_inv h
 obtain ⟨x2_4, a2_5, e2_6, h⟩ := ix_inv h
 refine kRs 0 [Tm 2 (sv x2_4), Ob 1000 [sS 1 e_u8 r2_2.l, iv r2_2.n]] [.a ⟨iv r2_1, [[sS 1 e_u8 r2_2.l, iv r2_2.n]]⟩, .c (e_s x2_4)] (.c (Asks.of (C := Meets Try.prog) (diwanplay_Picks_Num.meets 5 o0_v _ _ h2_3)) (.c (c_ix (e := e_s) a2_5 e2_6) (.c (c_el (e := e_s) e2_6) .n))) ?_
 refine kRt ?_
 have h_0 := some_inj h
 obtain ⟨g_1, h_1⟩ := Prod.mk.inj h_0
 subst g_1
 subst h_1
 exact kFr
end Go.Proofs.Ythjpcfbfiaenaaa.Told
