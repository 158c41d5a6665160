/- Functions of the program told as Lean functions, with the walks of their code in the machine by value. -/
import Derived.Test.YthjpcfbfiaenaaaProg
import Derived.Test.YthjpcfbfiaenaaaVam2
noncomputable section
namespace Go.Proofs.Ythjpcfbfiaenaaa.Told
open Go Go.Proofs Go.Proofs.Ythjpcfbfiaenaaa Go.Proofs.Ythjpcfbfiaenaaa.Vam
set_option linter.unusedVariables false
set_option maxRecDepth 100000
theorem hmix : Try.prog.follows .mixedOrders = true := by kernel_rfl
structure TVersion where
  Pos : Int
  Val : ByteArray
  Gone : Bool
def TVersion.en (x : TVersion) : List DV := [.val (.int .i64 x.Pos), .val (.string x.Val), .val (.bool x.Gone)]
structure TChain where
  Key : ByteArray
  L : (List TVersion)
def TChain.en (x : TChain) : List DV := [.val (.string x.Key), .slc false none 3 (List.map TVersion.en x.L)]
structure TSeat where
  Session : Int
  Seq : Int
  Pos : Int
def TSeat.en (x : TSeat) : List DV := [.val (.int .i64 x.Session), .val (.int .i64 x.Seq), .val (.int .i64 x.Pos)]
structure TStore where
  Chains : (List TChain)
  Mark : Int
def TStore.en (x : TStore) : List DV := [.slc false none 2 (List.map TChain.en x.Chains), .val (.int .i64 x.Mark)]
structure TShard where
  ID : Int
  Shards : Int
  Done : Int
  S : TStore
  Seats : (List TSeat)
  Bits : (List Int)
  Said : (List Int)
def TShard.en (x : TShard) : List DV := [.val (.int .i64 x.ID), .val (.int .i64 x.Shards), .val (.int .i64 x.Done), .slc false none 2 (List.map TChain.en x.S.Chains), .val (.int .i64 x.S.Mark), .slc false none 3 (List.map TSeat.en x.Seats), .slc false none 1 (List.map e_i64 x.Bits), .slc false none 1 (List.map e_i64 x.Said)]
structure TWriter where
  b : (List Int)
def TWriter.en (x : TWriter) : List DV := [.slc false none 1 (List.map e_u8 x.b)]
structure TReader where
  b : (List Int)
  bad : Bool
def TReader.en (x : TReader) : List DV := [.slc false none 1 (List.map e_u8 x.b), .val (.bool x.bad)]
structure TPicks where
  l : (List Int)
  n : Int
def TPicks.en (x : TPicks) : List DV := [.slc false none 1 (List.map e_u8 x.l), .val (.int .i64 x.n)]
structure TRead where
  Key : ByteArray
  Version : Int
  Val : ByteArray
  There : Bool
def TRead.en (x : TRead) : List DV := [.val (.string x.Key), .val (.int .i64 x.Version), .val (.string x.Val), .val (.bool x.There)]
structure TWrite where
  Key : ByteArray
  Val : ByteArray
  Gone : Bool
def TWrite.en (x : TWrite) : List DV := [.val (.string x.Key), .val (.string x.Val), .val (.bool x.Gone)]
structure TTxn where
  Session : Int
  Seq : Int
  Reads : (List TRead)
  Writes : (List TWrite)
def TTxn.en (x : TTxn) : List DV := [.val (.int .i64 x.Session), .val (.int .i64 x.Seq), .slc false none 4 (List.map TRead.en x.Reads), .slc false none 3 (List.map TWrite.en x.Writes)]
def TShard.ag (x : TShard) : DV := .agg [.val (.int .i64 x.ID), .val (.int .i64 x.Shards), .val (.int .i64 x.Done), .slc false none 2 (List.map TChain.en x.S.Chains), .val (.int .i64 x.S.Mark), .slc false none 3 (List.map TSeat.en x.Seats), .slc false none 1 (List.map e_i64 x.Bits), .slc false none 1 (List.map e_i64 x.Said)]
def TShard.ag_00010111 (x : TShard) : DV := .agg [.val (.int .i64 x.ID), .val (.int .i64 x.Shards), .val (.int .i64 x.Done), .slc true none 2 (List.map TChain.en x.S.Chains), .val (.int .i64 x.S.Mark), .slc true none 3 (List.map TSeat.en x.Seats), .slc true none 1 (List.map e_i64 x.Bits), .slc true none 1 (List.map e_i64 x.Said)]
def TShard.ob (x : TShard) : List AV := [.data (.val (.int .i64 x.ID)), .data (.val (.int .i64 x.Shards)), .data (.val (.int .i64 x.Done)), .data (.slc false none 2 (List.map TChain.en x.S.Chains)), .data (.val (.int .i64 x.S.Mark)), .data (.slc false none 3 (List.map TSeat.en x.Seats)), .data (.slc false none 1 (List.map e_i64 x.Bits)), .data (.slc false none 1 (List.map e_i64 x.Said))]
def TShard.ob_00000001 (x : TShard) : List AV := [.data (.val (.int .i64 x.ID)), .data (.val (.int .i64 x.Shards)), .data (.val (.int .i64 x.Done)), .data (.slc false none 2 (List.map TChain.en x.S.Chains)), .data (.val (.int .i64 x.S.Mark)), .data (.slc false none 3 (List.map TSeat.en x.Seats)), .data (.slc false none 1 (List.map e_i64 x.Bits)), .data (.slc true none 1 (List.map e_i64 x.Said))]
def TShard.ob_0000001 (x : TShard) : List AV := [.data (.val (.int .i64 x.ID)), .data (.val (.int .i64 x.Shards)), .data (.val (.int .i64 x.Done)), .data (.slc false none 2 (List.map TChain.en x.S.Chains)), .data (.val (.int .i64 x.S.Mark)), .data (.slc false none 3 (List.map TSeat.en x.Seats)), .data (.slc true none 1 (List.map e_i64 x.Bits)), .data (.slc false none 1 (List.map e_i64 x.Said))]
def TShard.ob_00000011 (x : TShard) : List AV := [.data (.val (.int .i64 x.ID)), .data (.val (.int .i64 x.Shards)), .data (.val (.int .i64 x.Done)), .data (.slc false none 2 (List.map TChain.en x.S.Chains)), .data (.val (.int .i64 x.S.Mark)), .data (.slc false none 3 (List.map TSeat.en x.Seats)), .data (.slc true none 1 (List.map e_i64 x.Bits)), .data (.slc true none 1 (List.map e_i64 x.Said))]
def TShard.ob_00000111 (x : TShard) : List AV := [.data (.val (.int .i64 x.ID)), .data (.val (.int .i64 x.Shards)), .data (.val (.int .i64 x.Done)), .data (.slc false none 2 (List.map TChain.en x.S.Chains)), .data (.val (.int .i64 x.S.Mark)), .data (.slc true none 3 (List.map TSeat.en x.Seats)), .data (.slc true none 1 (List.map e_i64 x.Bits)), .data (.slc true none 1 (List.map e_i64 x.Said))]
def TShard.ob_00010011 (x : TShard) : List AV := [.data (.val (.int .i64 x.ID)), .data (.val (.int .i64 x.Shards)), .data (.val (.int .i64 x.Done)), .data (.slc true none 2 (List.map TChain.en x.S.Chains)), .data (.val (.int .i64 x.S.Mark)), .data (.slc false none 3 (List.map TSeat.en x.Seats)), .data (.slc true none 1 (List.map e_i64 x.Bits)), .data (.slc true none 1 (List.map e_i64 x.Said))]
def TShard.ob_00010111 (x : TShard) : List AV := [.data (.val (.int .i64 x.ID)), .data (.val (.int .i64 x.Shards)), .data (.val (.int .i64 x.Done)), .data (.slc true none 2 (List.map TChain.en x.S.Chains)), .data (.val (.int .i64 x.S.Mark)), .data (.slc true none 3 (List.map TSeat.en x.Seats)), .data (.slc true none 1 (List.map e_i64 x.Bits)), .data (.slc true none 1 (List.map e_i64 x.Said))]
def TSeat.ob (x : TSeat) : List AV := [.data (.val (.int .i64 x.Session)), .data (.val (.int .i64 x.Seq)), .data (.val (.int .i64 x.Pos))]
def TVersion.ag (x : TVersion) : DV := .agg [.val (.int .i64 x.Pos), .val (.string x.Val), .val (.bool x.Gone)]
def TVersion.ob (x : TVersion) : List AV := [.data (.val (.int .i64 x.Pos)), .data (.val (.string x.Val)), .data (.val (.bool x.Gone))]
def TTxn.ag (x : TTxn) : DV := .agg [.val (.int .i64 x.Session), .val (.int .i64 x.Seq), .slc false none 4 (List.map TRead.en x.Reads), .slc false none 3 (List.map TWrite.en x.Writes)]
def TTxn.ag_0011 (x : TTxn) : DV := .agg [.val (.int .i64 x.Session), .val (.int .i64 x.Seq), .slc true none 4 (List.map TRead.en x.Reads), .slc true none 3 (List.map TWrite.en x.Writes)]
def TTxn.ob (x : TTxn) : List AV := [.data (.val (.int .i64 x.Session)), .data (.val (.int .i64 x.Seq)), .data (.slc false none 4 (List.map TRead.en x.Reads)), .data (.slc false none 3 (List.map TWrite.en x.Writes))]
def TTxn.ob_0011 (x : TTxn) : List AV := [.data (.val (.int .i64 x.Session)), .data (.val (.int .i64 x.Seq)), .data (.slc true none 4 (List.map TRead.en x.Reads)), .data (.slc true none 3 (List.map TWrite.en x.Writes))]
def TRead.ob (x : TRead) : List AV := [.data (.val (.string x.Key)), .data (.val (.int .i64 x.Version)), .data (.val (.string x.Val)), .data (.val (.bool x.There))]
def TWrite.ob (x : TWrite) : List AV := [.data (.val (.string x.Key)), .data (.val (.string x.Val)), .data (.val (.bool x.Gone))]
def bd14 : Code := (Try.f14.body).getD .skip
def diwanref13_NewShard.O : Nat → Nat := fun t => bif ([4, 7] : List Nat).any (Nat.beq t) then 1 else 0
def diwanref13_NewShard (id : Int) (shards : Int) : Option TShard :=
 some (TShard.mk id shards 0 (TStore.mk [] 0) [] [] [])
theorem diwanref13_NewShard.meets (id : Int) (shards : Int) (z0 : TShard) (h : diwanref13_NewShard id shards = some z0) : Meets Try.prog ⟨14, [iv id, iv shards], []⟩ ⟨.data (TShard.ag_00010111 z0), []⟩ := by
 refine kMt hmix diwanref13_NewShard.O Try.f14 bd14 3 ?_
 unfold diwanref13_NewShard at h
 refine kRs 3 [Tm 4 (.ptr 4 0), Ob 4 (TShard.ob_00010111 (TShard.mk 0 0 0 (TStore.mk [] 0) [] [] []))] [] .n ?_
 refine kRs 1 [Ob 4 (TShard.ob_00010111 (TShard.mk id shards 0 (TStore.mk [] 0) [] [] []))] [] .n ?_
 refine kRt ?_
 have h_ := some_inj h
 subst h_
 exact kFr
def bd43 : Code := (Try.f43.body).getD .skip
def shard_May_1.O : Nat → Nat := fun t => bif ([2, 3, 4] : List Nat).any (Nat.beq t) then 1 else 0
def shard_May_1 (from_v : Int) (to : Int) : Option Unit :=
 some ()
theorem shard_May_1.meets (from_v : Int) (to : Int) (h : shard_May_1 from_v to = some ()) : Meets Try.prog ⟨43, [iv from_v, iv to], []⟩ ⟨.fn (.func 44) [] [.ptr 1000 0, .ptr 1001 0], [[iv from_v], [iv to]]⟩ := by
 refine kMt hmix shard_May_1.O Try.f43 bd43 3 ?_
 unfold shard_May_1 at h
 refine kRs 0 [Tm 2 (.ptr 2 0), Tm 3 (.ptr 3 0), Ob 2 [iv from_v], Ob 3 [iv to]] [] .n ?_
 refine kRs 12 [Tm 4 (.fn (.func 44) [] [.ptr 2 0, .ptr 3 0])] [] .n ?_
 refine kRt ?_
 cases some_inj h
 exact kFr
def bd44 : Code := (Try.f44.body).getD .skip
def shard_May_1_1.O : Nat → Nat := fun t => bif ([4] : List Nat).any (Nat.beq t) then 1 else 0
def shard_May_1_1 (v : Int) (o0_v : Int) (o1_v : Int) : Option Bool :=
 br (decide (v < o0_v))
  (some true)
  (some (decide (v > o1_v)))
theorem shard_May_1_1.meets (v : Int) (o0_v : Int) (o1_v : Int) (z0 : Bool) (h : shard_May_1_1 v o0_v o1_v = some z0) : Meets Try.prog ⟨44, [iv v, .ptr 1000 0, .ptr 1001 0], [[iv o0_v], [iv o1_v]]⟩ ⟨bv z0, [[iv o0_v], [iv o1_v]]⟩ := by
 refine kMt hmix shard_May_1_1.O Try.f44 bd44 31 ?_
 unfold shard_May_1_1 at h
 refine kRs 31 [] [] .n ?_
 rcases br_inv h with ⟨b2_1, h⟩ | ⟨b2_1, h⟩
 ·refine kRs 24 [Tm 4 (bv true)] (rp 4 (.b true) []) (.r 4 b2_1 .n) ?_
  refine kRt ?_
  have h_ := some_inj h
  subst h_
  exact kFr
 ·refine kRs 24 [Tm 4 (bv (decide (v > o1_v)))] (rp 4 (.b false) []) (.r 4 b2_1 .n) ?_
  refine kRt ?_
  have h_ := some_inj h
  subst h_
  exact kFr
def bd68 : Code := (Try.f68.body).getD .skip
def slices_IndexFunc_int_int.O : Nat → Nat := fun t => bif ([4, 5] : List Nat).any (Nat.beq t) then 1 else 0
def slices_IndexFunc_int_int.lp3 (fu : Nat) (l3_0 : List Int) (l3_1 : Int) (l3_3 : Int) (l3_4 : Int) : Nat → Int → Option (Unit ⊕ Int)
  | 0, _ => none
  | n_ + 1, l3_2 =>
  br (decide (l3_2 < l3_1))
   (ix l3_0 l3_2 fun x7_1 =>
   bd (shard_May_1_1 x7_1 l3_3 l3_4) fun r7_4 =>
   br r7_4
    (some (.inr l3_2))
    (slices_IndexFunc_int_int.lp3 fu l3_0 l3_1 l3_3 l3_4 n_ (w64 (l3_2 + 1))))
   (some (.inl ()))
def slices_IndexFunc_int_int.lp3_post (l3_0 : List Int) (l3_1 : Int) (l3_3 : Int) (l3_4 : Int) (r_ : (Unit ⊕ Int)) : Wy → St → Prop := fun e τ => match r_ with
  | .inl _ => e = .exit 0 ∧ τ = ofL [Ob 1000 [iv l3_3], Ob 1001 [iv l3_4]]
  | .inr y0 => e = .ret ∧ τ = ofL [Tm 4 (iv y0), Ob 1000 [iv l3_3], Ob 1001 [iv l3_4]]
theorem slices_IndexFunc_int_int.lp3_ok (fu : Nat) (l3_0 : List Int) (l3_1 : Int) (l3_3 : Int) (l3_4 : Int) : ∀ (n_ : Nat) (l3_2 : Int) (r_ : (Unit ⊕ Int)), slices_IndexFunc_int_int.lp3 fu l3_0 l3_1 l3_3 l3_4 n_ l3_2 = some r_ → WK Try.prog slices_IndexFunc_int_int.O (Ck Try.prog) (cB (cR (cL (cR bd68)))) [] (ofL [Tm 0 (sS 1 e_i64 l3_0), Tm 1 (.fn (.func 44) [] [.ptr 1000 0, .ptr 1001 0]), Tm 7 (iv l3_1), Tm 8 (iv l3_2), Ob 1000 [iv l3_3], Ob 1001 [iv l3_4]]) (slices_IndexFunc_int_int.lp3_post l3_0 l3_1 l3_3 l3_4 r_) := by
 intro n_
 induction n_ with
 | zero => intro l3_2 r_ h; exact no_none h
 | succ n_ ih =>
  intro l3_2 r_ h
  refine kLp ?_
  refine kRs 63 [Tm 9 (bv (decide (l3_2 < l3_1)))] [] .n ?_
  refine kSq ?_
  rcases br_inv h with ⟨b5_0, h⟩ | ⟨b5_0, h⟩
  ·refine kCt b5_0 ?_
   refine kSk ?_
   refine kCd (cR (cR (cB (cB (cR (cL (cR bd68))))))) [.lp (cB (cR (cL (cR bd68))))] ?_
   refine kSq ?_
   refine kBk 1 ?_
   refine kRs 126 [Tm 5 (iv l3_2)] [] .n ?_
   obtain ⟨x7_1, a7_2, e7_3, h⟩ := ix_inv h
   obtain ⟨r7_4, h7_5, h⟩ := bd_inv h
   refine kRs 127 [Tm 16 (bv r7_4)] [.c (e_i64 x7_1), .a ⟨bv r7_4, [[iv l3_3], [iv l3_4]]⟩] (.c (c_ix (e := e_i64) a7_2 e7_3) (.c (c_el (e := e_i64) e7_3) (.c (Asks.of (C := Meets Try.prog) (shard_May_1_1.meets x7_1 l3_3 l3_4 _ h7_5)) .n))) ?_
   rcases br_inv h with ⟨b8_0, h⟩ | ⟨b8_0, h⟩
   ·refine kCt b8_0 ?_
    refine kRs 192 [Tm 4 (iv l3_2)] [] .n ?_
    cases some_inj h
    refine kWo ?_
    refine kRt ?_
    exact kOut
   ·refine kCe b8_0 ?_
    refine kSk ?_
    refine kCd (cR (cR (cR (cB (cB (cR (cL (cR bd68)))))))) [.lp (cB (cR (cL (cR bd68))))] ?_
    refine kRc 220 [Tm 8 (iv (w64 (l3_2 + 1)))] [] .n (cB (cR (cL (cR bd68)))) [] ?_
    exact kWk (ih (w64 (l3_2 + 1)) _ h)
  ·refine kCe b5_0 ?_
   cases some_inj h
   refine kWo ?_
   refine kXt 0 ?_
   exact kOut
def slices_IndexFunc_int_int (fu : Nat) (s : List Int) (o0_v : Int) (o1_v : Int) : Option Int :=
 bd (slices_IndexFunc_int_int.lp3 fu s (s.length : Int) o0_v o1_v fu 0) fun o_ => (match o_ with
 | .inl _ =>
  some (-1)
 | .inr y11_0 =>
  some y11_0)
theorem slices_IndexFunc_int_int.meets (fu : Nat) (s : List Int) (o0_v : Int) (o1_v : Int) (z0 : Int) (h : slices_IndexFunc_int_int fu s o0_v o1_v = some z0) : Meets Try.prog ⟨68, [sS 1 e_i64 s, .fn (.func 44) [] [.ptr 1000 0, .ptr 1001 0]], [[iv o0_v], [iv o1_v]]⟩ ⟨iv z0, [[iv o0_v], [iv o1_v]]⟩ := by
 refine kMt hmix slices_IndexFunc_int_int.O Try.f68 bd68 15 ?_
 unfold slices_IndexFunc_int_int at h
 refine kRs 15 [] [] .n ?_
 refine kSq ?_
 refine kRs 15 [Tm 7 (iv (s.length : Int)), Tm 8 (iv 0)] [.s (.t 7) [iv (s.length : Int)]] (.c (c_len (e := e_i64) (l := s)) .n) ?_
 refine kBk 0 ?_
 obtain ⟨o11, ho11, h⟩ := bd_inv h
 refine kUs (slices_IndexFunc_int_int.lp3_ok fu s (s.length : Int) o0_v o1_v _ 0 _ ho11) ?_
 intro e_ τ_ hp_
 rcases o11 with o11 | o11
 ·obtain ⟨⟩ := o11
  obtain ⟨rfl, rfl⟩ := hp_
  refine kCd (cR (cR bd68)) [] ?_
  refine kRs 3 [Tm 4 (iv (-1))] [] .n ?_
  refine kRt ?_
  have h_ := some_inj h
  subst h_
  exact kFr
 ·obtain ⟨y11_0, rfl⟩ : ∃ y, y = o11 := ⟨_, rfl⟩
  obtain ⟨rfl, rfl⟩ := hp_
  have h_ := some_inj h
  subst h_
  exact kFr
def bd49 : Code := (Try.f49.body).getD .skip
def slices_ContainsFunc_int_int.O : Nat → Nat := fun t => bif ([4] : List Nat).any (Nat.beq t) then 1 else 0
def slices_ContainsFunc_int_int (fu : Nat) (s : List Int) (o0_v : Int) (o1_v : Int) : Option Bool :=
 bd (slices_IndexFunc_int_int fu s o0_v o1_v) fun r2_1 =>
 some (decide (r2_1 ≥ 0))
theorem slices_ContainsFunc_int_int.meets (fu : Nat) (s : List Int) (o0_v : Int) (o1_v : Int) (z0 : Bool) (h : slices_ContainsFunc_int_int fu s o0_v o1_v = some z0) : Meets Try.prog ⟨49, [sS 1 e_i64 s, .fn (.func 44) [] [.ptr 1000 0, .ptr 1001 0]], [[iv o0_v], [iv o1_v]]⟩ ⟨bv z0, [[iv o0_v], [iv o1_v]]⟩ := by
 refine kMt hmix slices_ContainsFunc_int_int.O Try.f49 bd49 15 ?_
 unfold slices_ContainsFunc_int_int at h
 refine kRs 15 [] [] .n ?_
 obtain ⟨r2_1, h2_2, h⟩ := bd_inv h
 refine kRs 12 [Tm 4 (bv (decide (r2_1 ≥ 0)))] [.a ⟨iv r2_1, [[iv o0_v], [iv o1_v]]⟩] (.c (Asks.of (C := Meets Try.prog) (slices_IndexFunc_int_int.meets fu s o0_v o1_v _ h2_2)) .n) ?_
 refine kRt ?_
 have h_ := some_inj h
 subst h_
 exact kFr
def bd69 : Code := (Try.f69.body).getD .skip
def chain_May.O : Nat → Nat := fun t => bif ([2, 3, 5] : List Nat).any (Nat.beq t) then 1 else 0
def chain_May.lp4 (fu : Nat) (l4_1 : List TVersion) (l4_2 : Int) : Nat → Int → Int → Option (Unit ⊕ Unit)
  | 0, _, _ => none
  | n_ + 1, l4_0, l4_3 =>
  br (decide (l4_3 < l4_2))
   (ix l4_1 l4_3 fun x7_1 =>
   br (decide (x7_1.Pos ≤ l4_0))
    (some (.inr ()))
    (br (decide ((x7_1.Val.size : Int) > 16))
     (some (.inr ()))
     (br x7_1.Gone
      (br (!(x7_1.Val.toList == ByteArray.empty.toList))
       (some (.inr ()))
       (chain_May.lp4 fu l4_1 l4_2 n_ x7_1.Pos (w64 (l4_3 + 1))))
      (chain_May.lp4 fu l4_1 l4_2 n_ x7_1.Pos (w64 (l4_3 + 1))))))
   (some (.inl ()))
def chain_May.lp4_post (l4_1 : List TVersion) (l4_2 : Int) (r_ : (Unit ⊕ Unit)) : Wy → St → Prop := fun e τ => match r_ with
  | .inl _ => e = .exit 0 ∧ τ = ofL []
  | .inr _ => e = .ret ∧ τ = ofL [Tm 2 (bv false)]
theorem chain_May.lp4_ok (fu : Nat) (l4_1 : List TVersion) (l4_2 : Int) : ∀ (n_ : Nat) (l4_0 : Int) (l4_3 : Int) (r_ : (Unit ⊕ Unit)), chain_May.lp4 fu l4_1 l4_2 n_ l4_0 l4_3 = some r_ → WK Try.prog chain_May.O (Ck Try.prog) (cB (cR (cL (cR (cR bd69))))) [] (ofL [Tm 3 (iv l4_0), Tm 6 (sS 3 TVersion.en l4_1), Tm 7 (iv l4_2), Tm 8 (iv l4_3)]) (chain_May.lp4_post l4_1 l4_2 r_) := by
 intro n_
 induction n_ with
 | zero => intro l4_0 l4_3 r_ h; exact no_none h
 | succ n_ ih =>
  intro l4_0 l4_3 r_ h
  refine kLp ?_
  refine kRs 15 [Tm 9 (bv (decide (l4_3 < l4_2)))] [] .n ?_
  refine kSq ?_
  rcases br_inv h with ⟨b6_0, h⟩ | ⟨b6_0, h⟩
  ·refine kCt b6_0 ?_
   refine kSk ?_
   refine kCd (cR (cR (cB (cB (cR (cL (cR (cR bd69)))))))) [.lp (cB (cR (cL (cR (cR bd69)))))] ?_
   refine kSq ?_
   refine kBk 1 ?_
   obtain ⟨x7_1, a7_2, e7_3, h⟩ := ix_inv h
   refine kRs 30 [Tm 5 (.ptr 5 0), Ob 5 (TVersion.ob x7_1)] [.c (TVersion.en x7_1)] (.c (c_ix (e := TVersion.en) a7_2 e7_3) (.c (c_el (e := TVersion.en) e7_3) .n)) ?_
   refine kSq ?_
   rcases br_inv h with ⟨b8_1, h⟩ | ⟨b8_1, h⟩
   ·refine kRs 59 [Tm 30 (bv true)] (rp 10 (.b true) []) (.r 5 b8_1 (.r 5 rT .n)) ?_
    refine kCt rT ?_
    refine kRs 0 [Tm 2 (bv false)] [] .n ?_
    cases some_inj h
    refine kWo ?_
    refine kRt ?_
    exact kOut
   ·rcases br_inv h with ⟨b8_2, h⟩ | ⟨b8_2, h⟩
    ·refine kRs 59 [Tm 30 (bv true)] (rp 5 (.b false) (rp 5 (.b true) [])) (.r 5 b8_1 (.r 5 b8_2 .n)) ?_
     refine kCt rT ?_
     refine kRs 0 [Tm 2 (bv false)] [] .n ?_
     cases some_inj h
     refine kWo ?_
     refine kRt ?_
     exact kOut
    ·rcases br_inv h with ⟨b8_3, h⟩ | ⟨b8_3, h⟩
     ·refine kRs 59 [Tm 30 (bv (!(x7_1.Val.toList == ByteArray.empty.toList)))] (rp 8 (.b false) [.b true, .b true, .b true, .b false, .b true, .b false]) (.r 5 b8_1 (.r 3 b8_2 (.r 3 b8_3 (.c b8_2 (.c b8_3 (.c b8_2 .n)))))) ?_
      rcases br_inv h with ⟨b11_0, h⟩ | ⟨b11_0, h⟩
      ·refine kCt b11_0 ?_
       refine kRs 0 [Tm 2 (bv false)] [] .n ?_
       cases some_inj h
       refine kWo ?_
       refine kRt ?_
       exact kOut
      ·refine kCe b11_0 ?_
       refine kSk ?_
       refine kCd (cR (cR (cB (cL (cR (cR (cB (cB (cR (cL (cR (cR bd69)))))))))))) [.blk 1, .seq (cR (cR (cR (cB (cB (cR (cL (cR (cR bd69))))))))), .lp (cB (cR (cL (cR (cR bd69)))))] ?_
       refine kRc 56 [Tm 3 (iv x7_1.Pos)] [] .n (cR (cR (cR (cB (cB (cR (cL (cR (cR bd69))))))))) [.lp (cB (cR (cL (cR (cR bd69)))))] ?_
       refine kRc 7 [Tm 8 (iv (w64 (l4_3 + 1)))] [] .n (cB (cR (cL (cR (cR bd69))))) [] ?_
       exact kWk (ih x7_1.Pos (w64 (l4_3 + 1)) _ h)
     ·refine kRs 59 [Tm 30 (bv false)] (rp 14 (.b false) []) (.r 5 b8_1 (.r 3 b8_2 (.r 3 b8_3 (.c b8_2 (.c b8_3 (.c b8_2 .n)))))) ?_
      refine kCe rF ?_
      refine kSk ?_
      refine kCd (cR (cR (cB (cL (cR (cR (cB (cB (cR (cL (cR (cR bd69)))))))))))) [.blk 1, .seq (cR (cR (cR (cB (cB (cR (cL (cR (cR bd69))))))))), .lp (cB (cR (cL (cR (cR bd69)))))] ?_
      refine kRc 56 [Tm 3 (iv x7_1.Pos)] [] .n (cR (cR (cR (cB (cB (cR (cL (cR (cR bd69))))))))) [.lp (cB (cR (cL (cR (cR bd69)))))] ?_
      refine kRc 7 [Tm 8 (iv (w64 (l4_3 + 1)))] [] .n (cB (cR (cL (cR (cR bd69))))) [] ?_
      exact kWk (ih x7_1.Pos (w64 (l4_3 + 1)) _ h)
  ·refine kCe b6_0 ?_
   cases some_inj h
   refine kWo ?_
   refine kXt 0 ?_
   exact kOut
def chain_May (fu : Nat) (l : List TVersion) : Option Bool :=
 bd (chain_May.lp4 fu l (l.length : Int) fu 0 0) fun o_ => (match o_ with
 | .inl _ =>
  some true
 | .inr _ =>
  some false)
theorem chain_May.meets (fu : Nat) (l : List TVersion) (z0 : Bool) (h : chain_May fu l = some z0) : Meets Try.prog ⟨69, [sS 3 TVersion.en l], []⟩ ⟨bv z0, []⟩ := by
 refine kMt hmix chain_May.O Try.f69 bd69 1 ?_
 unfold chain_May at h
 refine kRs 1 [] [] .n ?_
 refine kRs 1 [Tm 3 (iv 0)] [] .n ?_
 refine kSq ?_
 refine kRs 1 [Tm 6 (sS 3 TVersion.en l), Tm 7 (iv (l.length : Int)), Tm 8 (iv 0)] [.s (.t 7) [iv (l.length : Int)]] (.c (c_len (e := TVersion.en) (l := l)) .n) ?_
 refine kBk 0 ?_
 obtain ⟨o17, ho17, h⟩ := bd_inv h
 refine kUs (chain_May.lp4_ok fu l (l.length : Int) _ 0 0 _ ho17) ?_
 intro e_ τ_ hp_
 rcases o17 with o17 | o17
 ·obtain ⟨⟩ := o17
  obtain ⟨rfl, rfl⟩ := hp_
  refine kCd (cR (cR (cR bd69))) [] ?_
  refine kRs 0 [Tm 2 (bv true)] [] .n ?_
  refine kRt ?_
  have h_ := some_inj h
  subst h_
  exact kFr
 ·obtain ⟨⟩ := o17
  obtain ⟨rfl, rfl⟩ := hp_
  have h_ := some_inj h
  subst h_
  exact kFr
def bd80 : Code := (Try.f80.body).getD .skip
def key_sign.O : Nat → Nat := fun t => bif ([2] : List Nat).any (Nat.beq t) then 1 else 0
def key_sign (c : Int) : Option Bool :=
 br (decide (c ≥ 33))
  (some (decide (c ≤ 126)))
  (some false)
theorem key_sign.meets (c : Int) (z0 : Bool) (h : key_sign c = some z0) : Meets Try.prog ⟨80, [.data (.val (.int .u8 c))], []⟩ ⟨bv z0, []⟩ := by
 refine kMt hmix key_sign.O Try.f80 bd80 1 ?_
 unfold key_sign at h
 refine kRs 1 [] [] .n ?_
 rcases br_inv h with ⟨b2_1, h⟩ | ⟨b2_1, h⟩
 ·refine kRs 0 [Tm 2 (bv (decide (c ≤ 126)))] [.b true, .b true, .b true] (.r 3 b2_1 .n) ?_
  refine kRt ?_
  have h_ := some_inj h
  subst h_
  exact kFr
 ·refine kRs 0 [Tm 2 (bv false)] [.b false, .b false, .b false] (.r 3 b2_1 .n) ?_
  refine kRt ?_
  have h_ := some_inj h
  subst h_
  exact kFr
def bd77 : Code := (Try.f77.body).getD .skip
def key_name_may.O : Nat → Nat := fun t => bif ([2, 3] : List Nat).any (Nat.beq t) then 1 else 0
def key_name_may.lp3 (fu : Nat) (l3_0 : ByteArray) (l3_1 : Int) : Nat → Int → Option (Unit ⊕ Unit)
  | 0, _ => none
  | n_ + 1, l3_2 =>
  br (decide (l3_2 < l3_1))
   (gd (decide ((0 : Int) ≤ l3_2 ∧ l3_2 < (l3_0.size : Int))) <|
   bd (key_sign (byteAt l3_0 l3_2)) fun r7_2 =>
   br (!r7_2)
    (some (.inr ()))
    (key_name_may.lp3 fu l3_0 l3_1 n_ (w64 (l3_2 + 1))))
   (some (.inl ()))
def key_name_may.lp3_post (l3_0 : ByteArray) (l3_1 : Int) (r_ : (Unit ⊕ Unit)) : Wy → St → Prop := fun e τ => match r_ with
  | .inl _ => e = .exit 0 ∧ τ = ofL [Tm 0 (sv l3_0)]
  | .inr _ => e = .ret ∧ τ = ofL [Tm 2 (bv false)]
theorem key_name_may.lp3_ok (fu : Nat) (l3_0 : ByteArray) (l3_1 : Int) : ∀ (n_ : Nat) (l3_2 : Int) (r_ : (Unit ⊕ Unit)), key_name_may.lp3 fu l3_0 l3_1 n_ l3_2 = some r_ → WK Try.prog key_name_may.O (Ck Try.prog) (cB (cR (cL (cR bd77)))) [] (ofL [Tm 0 (sv l3_0), Tm 5 (iv l3_1), Tm 6 (iv l3_2)]) (key_name_may.lp3_post l3_0 l3_1 r_) := by
 intro n_
 induction n_ with
 | zero => intro l3_2 r_ h; exact no_none h
 | succ n_ ih =>
  intro l3_2 r_ h
  refine kLp ?_
  refine kRs 7 [Tm 7 (bv (decide (l3_2 < l3_1)))] [] .n ?_
  refine kSq ?_
  rcases br_inv h with ⟨b5_0, h⟩ | ⟨b5_0, h⟩
  ·refine kCt b5_0 ?_
   refine kSk ?_
   refine kCd (cR (cR (cB (cB (cR (cL (cR bd77))))))) [.lp (cB (cR (cL (cR bd77))))] ?_
   refine kSq ?_
   refine kBk 1 ?_
   refine kRs 14 [Tm 3 (iv l3_2)] [] .n ?_
   obtain ⟨c7_1, h⟩ := gd_inv h
   obtain ⟨r7_2, h7_3, h⟩ := bd_inv h
   refine kRs 14 [Tm 13 (bv (!r7_2))] [.a ⟨bv r7_2, []⟩] (.c c7_1 (.c (Asks.of (C := Meets Try.prog) (key_sign.meets (byteAt l3_0 l3_2) _ h7_3)) .n)) ?_
   rcases br_inv h with ⟨b8_0, h⟩ | ⟨b8_0, h⟩
   ·refine kCt b8_0 ?_
    refine kRs 0 [Tm 2 (bv false)] [] .n ?_
    cases some_inj h
    refine kWo ?_
    refine kRt ?_
    exact kOut
   ·refine kCe b8_0 ?_
    refine kSk ?_
    refine kCd (cR (cR (cR (cB (cB (cR (cL (cR bd77)))))))) [.lp (cB (cR (cL (cR bd77))))] ?_
    refine kRc 6 [Tm 6 (iv (w64 (l3_2 + 1)))] [] .n (cB (cR (cL (cR bd77)))) [] ?_
    exact kWk (ih (w64 (l3_2 + 1)) _ h)
  ·refine kCe b5_0 ?_
   cases some_inj h
   refine kWo ?_
   refine kXt 0 ?_
   exact kOut
def key_name_may (fu : Nat) (k_v : ByteArray) : Option Bool :=
 bd (key_name_may.lp3 fu k_v (k_v.size : Int) fu 0) fun o_ => (match o_ with
 | .inl _ =>
  br (decide ((k_v.size : Int) ≥ 1))
   (some (decide ((k_v.size : Int) ≤ 8)))
   (some false)
 | .inr _ =>
  some false)
theorem key_name_may.meets (fu : Nat) (k_v : ByteArray) (z0 : Bool) (h : key_name_may fu k_v = some z0) : Meets Try.prog ⟨77, [sv k_v], []⟩ ⟨bv z0, []⟩ := by
 refine kMt hmix key_name_may.O Try.f77 bd77 1 ?_
 unfold key_name_may at h
 refine kRs 1 [] [] .n ?_
 refine kSq ?_
 refine kRs 1 [Tm 5 (iv (k_v.size : Int)), Tm 6 (iv 0)] [] .n ?_
 refine kBk 0 ?_
 obtain ⟨o11, ho11, h⟩ := bd_inv h
 refine kUs (key_name_may.lp3_ok fu k_v (k_v.size : Int) _ 0 _ ho11) ?_
 intro e_ τ_ hp_
 rcases o11 with o11 | o11
 ·obtain ⟨⟩ := o11
  obtain ⟨rfl, rfl⟩ := hp_
  refine kCd (cR (cR bd77)) [] ?_
  rcases br_inv h with ⟨b12_1, h⟩ | ⟨b12_1, h⟩
  ·refine kRs 0 [Tm 2 (bv (decide ((k_v.size : Int) ≤ 8)))] (rp 4 (.b true) []) (.r 4 b12_1 .n) ?_
   refine kRt ?_
   have h_ := some_inj h
   subst h_
   exact kFr
  ·refine kRs 0 [Tm 2 (bv false)] (rp 4 (.b false) []) (.r 4 b12_1 .n) ?_
   refine kRt ?_
   have h_ := some_inj h
   subst h_
   exact kFr
 ·obtain ⟨⟩ := o11
  obtain ⟨rfl, rfl⟩ := hp_
  have h_ := some_inj h
  subst h_
  exact kFr
def bd70 : Code := (Try.f70.body).getD .skip
def key_Rising.O : Nat → Nat := fun t => bif ([2, 3, 4, 5] : List Nat).any (Nat.beq t) then 1 else 0
def key_Rising.lp4 (fu : Nat) (l4_0 : List ByteArray) (l4_1 : List ByteArray) (l4_2 : Int) : Nat → Int → Option (Unit ⊕ Unit)
  | 0, _ => none
  | n_ + 1, l4_3 =>
  br (decide (l4_3 < l4_2))
   (ix l4_1 l4_3 fun x7_1 =>
   bd (key_name_may fu x7_1) fun r8_1 =>
   br (!r8_1)
    (some (.inr ()))
    (br (decide (l4_3 > 0))
     (ix l4_0 (w64 (l4_3 - 1)) fun x8_5 =>
     br (!(Op.bytesLess x8_5.toList x7_1.toList))
      (some (.inr ()))
      (key_Rising.lp4 fu l4_0 l4_1 l4_2 n_ (w64 (l4_3 + 1))))
     (key_Rising.lp4 fu l4_0 l4_1 l4_2 n_ (w64 (l4_3 + 1)))))
   (some (.inl ()))
def key_Rising.lp4_post (l4_0 : List ByteArray) (l4_1 : List ByteArray) (l4_2 : Int) (r_ : (Unit ⊕ Unit)) : Wy → St → Prop := fun e τ => match r_ with
  | .inl _ => e = .exit 0 ∧ τ = ofL []
  | .inr _ => e = .ret ∧ τ = ofL [Tm 2 (bv false)]
theorem key_Rising.lp4_ok (fu : Nat) (l4_0 : List ByteArray) (l4_1 : List ByteArray) (l4_2 : Int) : ∀ (n_ : Nat) (l4_3 : Int) (r_ : (Unit ⊕ Unit)), key_Rising.lp4 fu l4_0 l4_1 l4_2 n_ l4_3 = some r_ → WK Try.prog key_Rising.O (Ck Try.prog) (cB (cR (cL (cR (cR bd70))))) [] (ofL [Tm 0 (sS 1 e_s l4_0), Tm 3 (.fn (.func 77) [] []), Tm 6 (sS 1 e_s l4_1), Tm 7 (iv l4_2), Tm 8 (iv l4_3)]) (key_Rising.lp4_post l4_0 l4_1 l4_2 r_) := by
 intro n_
 induction n_ with
 | zero => intro l4_3 r_ h; exact no_none h
 | succ n_ ih =>
  intro l4_3 r_ h
  refine kLp ?_
  refine kRs 31 [Tm 9 (bv (decide (l4_3 < l4_2)))] [] .n ?_
  refine kSq ?_
  rcases br_inv h with ⟨b6_0, h⟩ | ⟨b6_0, h⟩
  ·refine kCt b6_0 ?_
   refine kSk ?_
   refine kCd (cR (cR (cB (cB (cR (cL (cR (cR bd70)))))))) [.lp (cB (cR (cL (cR (cR bd70)))))] ?_
   refine kSq ?_
   refine kBk 1 ?_
   obtain ⟨x7_1, a7_2, e7_3, h⟩ := ix_inv h
   refine kRs 62 [Tm 4 (iv l4_3), Tm 5 (sv x7_1)] [.c (e_s x7_1)] (.c (c_ix (e := e_s) a7_2 e7_3) (.c (c_el (e := e_s) e7_3) .n)) ?_
   obtain ⟨r8_1, h8_2, h⟩ := bd_inv h
   rcases br_inv h with ⟨b8_3, h⟩ | ⟨b8_3, h⟩
   ·refine kRs 124 [Tm 29 (bv true)] (.a ⟨bv r8_1, []⟩ :: (rp 5 (.b true) [])) (.c (Asks.of (C := Meets Try.prog) (key_name_may.meets fu x7_1 _ h8_2)) (.r 5 b8_3 .n)) ?_
    refine kCt rT ?_
    refine kRs 0 [Tm 2 (bv false)] [] .n ?_
    cases some_inj h
    refine kWo ?_
    refine kRt ?_
    exact kOut
   ·rcases br_inv h with ⟨b8_4, h⟩ | ⟨b8_4, h⟩
    ·obtain ⟨x8_5, a8_6, e8_7, h⟩ := ix_inv h
     refine kRs 124 [Tm 29 (bv (!(Op.bytesLess x8_5.toList x7_1.toList)))] (.a ⟨bv r8_1, []⟩ :: (.b false :: (.b false :: (.b false :: (rp 4 (.b true) [.c (e_s x8_5), .b true, .b true, .b true, .b false, .b true, .b false]))))) (.c (Asks.of (C := Meets Try.prog) (key_name_may.meets fu x7_1 _ h8_2)) (.r 3 b8_3 (.r 4 b8_4 (.c (c_ix (e := e_s) a8_6 e8_7) (.c (c_el (e := e_s) e8_7) (.r 3 b8_4 (.c b8_3 (.c b8_4 (.c b8_3 .n))))))))) ?_
     rcases br_inv h with ⟨b10_0, h⟩ | ⟨b10_0, h⟩
     ·refine kCt b10_0 ?_
      refine kRs 0 [Tm 2 (bv false)] [] .n ?_
      cases some_inj h
      refine kWo ?_
      refine kRt ?_
      exact kOut
     ·refine kCe b10_0 ?_
      refine kSk ?_
      refine kCd (cR (cR (cR (cB (cB (cR (cL (cR (cR bd70))))))))) [.lp (cB (cR (cL (cR (cR bd70)))))] ?_
      refine kRc 30 [Tm 8 (iv (w64 (l4_3 + 1)))] [] .n (cB (cR (cL (cR (cR bd70))))) [] ?_
      exact kWk (ih (w64 (l4_3 + 1)) _ h)
    ·refine kRs 124 [Tm 29 (bv false)] (.a ⟨bv r8_1, []⟩ :: (rp 13 (.b false) [])) (.c (Asks.of (C := Meets Try.prog) (key_name_may.meets fu x7_1 _ h8_2)) (.r 3 b8_3 (.r 7 b8_4 (.c b8_3 (.c b8_4 (.c b8_3 .n)))))) ?_
     refine kCe rF ?_
     refine kSk ?_
     refine kCd (cR (cR (cR (cB (cB (cR (cL (cR (cR bd70))))))))) [.lp (cB (cR (cL (cR (cR bd70)))))] ?_
     refine kRc 30 [Tm 8 (iv (w64 (l4_3 + 1)))] [] .n (cB (cR (cL (cR (cR bd70))))) [] ?_
     exact kWk (ih (w64 (l4_3 + 1)) _ h)
  ·refine kCe b6_0 ?_
   cases some_inj h
   refine kWo ?_
   refine kXt 0 ?_
   exact kOut
def key_Rising (fu : Nat) (l : List ByteArray) : Option Bool :=
 bd (key_Rising.lp4 fu l l (l.length : Int) fu 0) fun o_ => (match o_ with
 | .inl _ =>
  some true
 | .inr _ =>
  some false)
theorem key_Rising.meets (fu : Nat) (l : List ByteArray) (z0 : Bool) (h : key_Rising fu l = some z0) : Meets Try.prog ⟨70, [sS 1 e_s l], []⟩ ⟨bv z0, []⟩ := by
 refine kMt hmix key_Rising.O Try.f70 bd70 1 ?_
 unfold key_Rising at h
 refine kRs 1 [] [] .n ?_
 refine kRs 1 [Tm 3 (.fn (.func 77) [] [])] [] .n ?_
 refine kSq ?_
 refine kRs 3 [Tm 6 (sS 1 e_s l), Tm 7 (iv (l.length : Int)), Tm 8 (iv 0)] [.s (.t 7) [iv (l.length : Int)]] (.c (c_len (e := e_s) (l := l)) .n) ?_
 refine kBk 0 ?_
 obtain ⟨o14, ho14, h⟩ := bd_inv h
 refine kUs (key_Rising.lp4_ok fu l l (l.length : Int) _ 0 _ ho14) ?_
 intro e_ τ_ hp_
 rcases o14 with o14 | o14
 ·obtain ⟨⟩ := o14
  obtain ⟨rfl, rfl⟩ := hp_
  refine kCd (cR (cR (cR bd70))) [] ?_
  refine kRs 0 [Tm 2 (bv true)] [] .n ?_
  refine kRt ?_
  have h_ := some_inj h
  subst h_
  exact kFr
 ·obtain ⟨⟩ := o14
  obtain ⟨rfl, rfl⟩ := hp_
  have h_ := some_inj h
  subst h_
  exact kFr
def bd50 : Code := (Try.f50.body).getD .skip
def store_May.O : Nat → Nat := fun t => bif ([1, 2, 3, 5, 6, 27] : List Nat).any (Nat.beq t) then 1 else 0
def store_May.lp4 (fu : Nat) (l4_1 : List TChain) (l4_2 : Int) (l4_4 : TStore) : Nat → (List ByteArray) → Int → Option ((List ByteArray) ⊕ Unit)
  | 0, _, _ => none
  | n_ + 1, l4_0, l4_3 =>
  br (decide (l4_3 < l4_2))
   (ix l4_1 l4_3 fun x7_1 =>
   br ((x7_1.L.length : Int) == 0)
    (some (.inr ()))
    (bd (chain_May fu x7_1.L) fun r8_2 =>
    br (!r8_2)
     (some (.inr ()))
     (gd (decide (l4_0.length + ([x7_1.Key] : List ByteArray).length ≤ 4294967296)) <|
     store_May.lp4 fu l4_1 l4_2 l4_4 n_ (l4_0 ++ ([x7_1.Key] : List ByteArray)) (w64 (l4_3 + 1)))))
   (some (.inl l4_0))
def store_May.lp4_post (l4_1 : List TChain) (l4_2 : Int) (l4_4 : TStore) (r_ : ((List ByteArray) ⊕ Unit)) : Wy → St → Prop := fun e τ => match r_ with
  | .inl y0 => e = .exit 0 ∧ τ = ofL [Tm 1 (.ptr 1 0), Tm 3 (sO 1 e_s y0), Ob 1 [sS 2 TChain.en l4_4.Chains, iv l4_4.Mark]]
  | .inr _ => e = .ret ∧ τ = ofL [Tm 2 (bv false)]
theorem store_May.lp4_ok (fu : Nat) (l4_1 : List TChain) (l4_2 : Int) (l4_4 : TStore) : ∀ (n_ : Nat) (l4_0 : List ByteArray) (l4_3 : Int) (r_ : ((List ByteArray) ⊕ Unit)), store_May.lp4 fu l4_1 l4_2 l4_4 n_ l4_0 l4_3 = some r_ → WK Try.prog store_May.O (Ck Try.prog) (cB (cR (cL (cR (cR bd50))))) [] (ofL [Tm 1 (.ptr 1 0), Tm 3 (sO 1 e_s l4_0), Tm 8 (sS 2 TChain.en l4_1), Tm 9 (iv l4_2), Tm 10 (iv l4_3), Ob 1 [sS 2 TChain.en l4_4.Chains, iv l4_4.Mark]]) (store_May.lp4_post l4_1 l4_2 l4_4 r_) := by
 intro n_
 induction n_ with
 | zero => intro l4_0 l4_3 r_ h; exact no_none h
 | succ n_ ih =>
  intro l4_0 l4_3 r_ h
  refine kLp ?_
  refine kRs 63 [Tm 11 (bv (decide (l4_3 < l4_2)))] [] .n ?_
  refine kSq ?_
  rcases br_inv h with ⟨b6_0, h⟩ | ⟨b6_0, h⟩
  ·refine kCt b6_0 ?_
   refine kSk ?_
   refine kCd (cR (cR (cB (cB (cR (cL (cR (cR bd50)))))))) [.lp (cB (cR (cL (cR (cR bd50)))))] ?_
   refine kSq ?_
   refine kBk 1 ?_
   obtain ⟨x7_1, a7_2, e7_3, h⟩ := ix_inv h
   refine kRs 126 [Tm 5 (.ptr 5 0), Ob 5 [sv x7_1.Key, sS 3 TVersion.en x7_1.L]] [.c (TChain.en x7_1)] (.c (c_ix (e := TChain.en) a7_2 e7_3) (.c (c_el (e := TChain.en) e7_3) .n)) ?_
   refine kSq ?_
   rcases br_inv h with ⟨b8_1, h⟩ | ⟨b8_1, h⟩
   ·refine kRs 255 [Tm 23 (bv true)] (.s (.t 16) [iv (x7_1.L.length : Int)] :: (rp 5 (.b true) [])) (.c (c_len (e := TVersion.en) (l := x7_1.L)) (.r 5 b8_1 .n)) ?_
    refine kCt rT ?_
    refine kRs 0 [Tm 2 (bv false)] [] .n ?_
    cases some_inj h
    refine kWo ?_
    refine kRt ?_
    exact kOut
   ·obtain ⟨r8_2, h8_3, h⟩ := bd_inv h
    refine kRs 255 [Tm 23 (bv (!r8_2))] [.s (.t 16) [iv (x7_1.L.length : Int)], .b false, .b false, .b false, .a ⟨bv r8_2, []⟩, .b false, .b false] (.c (c_len (e := TVersion.en) (l := x7_1.L)) (.r 3 b8_1 (.c (Asks.of (C := Meets Try.prog) (chain_May.meets fu x7_1.L _ h8_3)) (.r 2 b8_1 .n)))) ?_
    rcases br_inv h with ⟨b10_0, h⟩ | ⟨b10_0, h⟩
    ·refine kCt b10_0 ?_
     refine kRs 0 [Tm 2 (bv false)] [] .n ?_
     cases some_inj h
     refine kWo ?_
     refine kRt ?_
     exact kOut
    ·refine kCe b10_0 ?_
     refine kSk ?_
     refine kCd (cR (cR (cB (cL (cR (cR (cB (cB (cR (cL (cR (cR bd50)))))))))))) [.blk 1, .seq (cR (cR (cR (cB (cB (cR (cL (cR (cR bd50))))))))), .lp (cB (cR (cL (cR (cR bd50)))))] ?_
     obtain ⟨c12_1, h⟩ := gd_inv h
     refine kRc 488 [Tm 3 (sO 1 e_s (l4_0 ++ ([x7_1.Key] : List ByteArray)))] [.s (.t 28) [sO 1 e_s (l4_0 ++ ([x7_1.Key] : List ByteArray))]] (.c (c_al (e := e_s) (f := e_s) c12_1) (.c (congrArg (fun d : DV => [AV.data d]) (c_app (e := e_s) (s := 1) (l := l4_0) (m := ([x7_1.Key] : List ByteArray)))) .n)) (cR (cR (cR (cB (cB (cR (cL (cR (cR bd50))))))))) [.lp (cB (cR (cL (cR (cR bd50)))))] ?_
     refine kRc 47 [Tm 10 (iv (w64 (l4_3 + 1)))] [] .n (cB (cR (cL (cR (cR bd50))))) [] ?_
     exact kWk (ih (l4_0 ++ ([x7_1.Key] : List ByteArray)) (w64 (l4_3 + 1)) _ h)
  ·refine kCe b6_0 ?_
   cases some_inj h
   refine kWo ?_
   refine kXt 0 ?_
   exact kOut
def store_May (fu : Nat) (s : TStore) : Option Bool :=
 bd (store_May.lp4 fu s.Chains (s.Chains.length : Int) s fu [] 0) fun o_ => (match o_ with
 | .inl y14_0 =>
  bd (key_Rising fu y14_0) fun r15_1 =>
  br r15_1
   (some (decide (s.Mark ≥ 0)))
   (some false)
 | .inr _ =>
  some false)
theorem store_May.meets (fu : Nat) (s : TStore) (z0 : Bool) (h : store_May fu s = some z0) : Meets Try.prog ⟨50, [.data (.agg [.slc false none 2 (List.map TChain.en s.Chains), .val (.int .i64 s.Mark)])], []⟩ ⟨bv z0, []⟩ := by
 refine kMt hmix store_May.O Try.f50 bd50 1 ?_
 unfold store_May at h
 refine kRs 0 [Tm 1 (.ptr 1 0), Ob 1 [sS 2 TChain.en s.Chains, iv s.Mark]] [] .n ?_
 refine kRs 3 [Tm 3 (.data (.slc true (some false) 1 (List.map e_s [])))] [] .n ?_
 refine kSq ?_
 refine kRs 7 [Tm 8 (sS 2 TChain.en s.Chains), Tm 9 (iv (s.Chains.length : Int)), Tm 10 (iv 0)] [.s (.t 9) [iv (s.Chains.length : Int)]] (.c (c_len (e := TChain.en) (l := s.Chains)) .n) ?_
 refine kBk 0 ?_
 obtain ⟨o14, ho14, h⟩ := bd_inv h
 refine kUs (store_May.lp4_ok fu s.Chains (s.Chains.length : Int) s _ [] 0 _ ho14) ?_
 intro e_ τ_ hp_
 rcases o14 with o14 | o14
 ·obtain ⟨y14_0, rfl⟩ : ∃ y, y = o14 := ⟨_, rfl⟩
  obtain ⟨rfl, rfl⟩ := hp_
  refine kCd (cR (cR (cR bd50))) [] ?_
  obtain ⟨r15_1, h15_2, h⟩ := bd_inv h
  rcases br_inv h with ⟨b15_3, h⟩ | ⟨b15_3, h⟩
  ·refine kRs 0 [Tm 2 (bv (decide (s.Mark ≥ 0)))] (.a ⟨bv r15_1, []⟩ :: (rp 4 (.b true) [])) (.c (Asks.of (C := Meets Try.prog) (key_Rising.meets fu y14_0 _ h15_2)) (.r 4 b15_3 .n)) ?_
   refine kRt ?_
   have h_ := some_inj h
   subst h_
   exact kFr
  ·refine kRs 0 [Tm 2 (bv false)] (.a ⟨bv r15_1, []⟩ :: (rp 4 (.b false) [])) (.c (Asks.of (C := Meets Try.prog) (key_Rising.meets fu y14_0 _ h15_2)) (.r 4 b15_3 .n)) ?_
   refine kRt ?_
   have h_ := some_inj h
   subst h_
   exact kFr
 ·obtain ⟨⟩ := o14
  obtain ⟨rfl, rfl⟩ := hp_
  have h_ := some_inj h
  subst h_
  exact kFr
def bd66 : Code := (Try.f66.body).getD .skip
def key_Shard.O : Nat → Nat := fun t => bif ([4, 5, 6] : List Nat).any (Nat.beq t) then 1 else 0
def key_Shard.lp7 (fu : Nat) (l7_0 : ByteArray) (l7_1 : Int) (l7_3 : Int) : Nat → Int → Int → Option Int
  | 0, _, _ => none
  | n_ + 1, l7_2, l7_4 =>
  br (decide (l7_4 < l7_3))
   (gd (decide ((0 : Int) ≤ l7_4 ∧ l7_4 < (l7_0.size : Int))) <|
   gd (!decide (l7_1 = 0)) <|
   gd (!decide (l7_1 = 0)) <|
   key_Shard.lp7 fu l7_0 l7_1 l7_3 n_ (Int.tmod (w64 (l7_2 + (Int.tmod (w64 (byteAt l7_0 l7_4)) l7_1))) l7_1) (w64 (l7_4 + 1)))
   (some l7_2)
def key_Shard.lp7_post (l7_0 : ByteArray) (l7_1 : Int) (l7_3 : Int) (r_ : Int) : Wy → St → Prop := fun e τ => match r_ with
  | y0 => e = .exit 0 ∧ τ = ofL [Tm 5 (iv y0)]
theorem key_Shard.lp7_ok (fu : Nat) (l7_0 : ByteArray) (l7_1 : Int) (l7_3 : Int) : ∀ (n_ : Nat) (l7_2 : Int) (l7_4 : Int) (r_ : Int), key_Shard.lp7 fu l7_0 l7_1 l7_3 n_ l7_2 l7_4 = some r_ → WK Try.prog key_Shard.O (Ck Try.prog) (cB (cR (cL (cR (cR (cR bd66)))))) [] (ofL [Tm 0 (sv l7_0), Tm 1 (iv l7_1), Tm 5 (iv l7_2), Tm 10 (iv l7_3), Tm 11 (iv l7_4)]) (key_Shard.lp7_post l7_0 l7_1 l7_3 r_) := by
 intro n_
 induction n_ with
 | zero => intro l7_2 l7_4 r_ h; exact no_none h
 | succ n_ ih =>
  intro l7_2 l7_4 r_ h
  refine kLp ?_
  refine kRs 31 [Tm 12 (bv (decide (l7_4 < l7_3)))] [] .n ?_
  refine kSq ?_
  rcases br_inv h with ⟨b9_0, h⟩ | ⟨b9_0, h⟩
  ·refine kCt b9_0 ?_
   refine kSk ?_
   refine kCd (cR (cR (cB (cB (cR (cL (cR (cR (cR bd66))))))))) [.lp (cB (cR (cL (cR (cR (cR bd66))))))] ?_
   refine kSq ?_
   refine kBk 1 ?_
   refine kRs 62 [Tm 6 (iv l7_4)] [] .n ?_
   obtain ⟨c11_1, h⟩ := gd_inv h
   obtain ⟨c11_2, h⟩ := gd_inv h
   obtain ⟨c11_3, h⟩ := gd_inv h
   refine kRc 54 [Tm 5 (iv (Int.tmod (w64 (l7_2 + (Int.tmod (w64 (byteAt l7_0 l7_4)) l7_1))) l7_1))] [] (.c c11_1 (.c c11_2 (.c c11_3 .n))) (cR (cR (cR (cB (cB (cR (cL (cR (cR (cR bd66)))))))))) [.lp (cB (cR (cL (cR (cR (cR bd66))))))] ?_
   refine kRc 15 [Tm 11 (iv (w64 (l7_4 + 1)))] [] .n (cB (cR (cL (cR (cR (cR bd66)))))) [] ?_
   exact kWk (ih (Int.tmod (w64 (l7_2 + (Int.tmod (w64 (byteAt l7_0 l7_4)) l7_1))) l7_1) (w64 (l7_4 + 1)) _ h)
  ·refine kCe b9_0 ?_
   cases some_inj h
   refine kWo ?_
   refine kXt 0 ?_
   exact kOut
def key_Shard (fu : Nat) (k_v : ByteArray) (n_v : Int) : Option Int :=
 br (decide (n_v < 1))
  (some 0)
  (bd (key_Shard.lp7 fu k_v n_v (k_v.size : Int) fu 0 0) fun y13_0 =>
  some y13_0)
theorem key_Shard.meets (fu : Nat) (k_v : ByteArray) (n_v : Int) (z0 : Int) (h : key_Shard fu k_v n_v = some z0) : Meets Try.prog ⟨66, [sv k_v, iv n_v], []⟩ ⟨iv z0, []⟩ := by
 refine kMt hmix key_Shard.O Try.f66 bd66 3 ?_
 unfold key_Shard at h
 refine kRs 3 [] [] .n ?_
 refine kSq ?_
 refine kRs 3 [Tm 8 (bv (decide (n_v < 1)))] [] .n ?_
 rcases br_inv h with ⟨b3_0, h⟩ | ⟨b3_0, h⟩
 ·refine kCt b3_0 ?_
  refine kRs 0 [Tm 4 (iv 0)] [] .n ?_
  refine kRt ?_
  have h_ := some_inj h
  subst h_
  exact kFr
 ·refine kCe b3_0 ?_
  refine kSk ?_
  refine kCd (cR (cR bd66)) [] ?_
  refine kRs 6 [Tm 5 (iv 0)] [] .n ?_
  refine kSq ?_
  refine kRs 7 [Tm 10 (iv (k_v.size : Int)), Tm 11 (iv 0)] [] .n ?_
  refine kBk 0 ?_
  obtain ⟨o13, ho13, h⟩ := bd_inv h
  refine kUs (key_Shard.lp7_ok fu k_v n_v (k_v.size : Int) _ 0 0 _ ho13) ?_
  intro e_ τ_ hp_
  obtain ⟨y13_0, rfl⟩ : ∃ y, y = o13 := ⟨_, rfl⟩
  obtain ⟨rfl, rfl⟩ := hp_
  refine kCd (cR (cR (cR (cR bd66)))) [] ?_
  refine kRs 0 [Tm 4 (iv y13_0)] [] .n ?_
  refine kRt ?_
  have h_ := some_inj h
  subst h_
  exact kFr
def bd46 : Code := (Try.f46.body).getD .skip
def shard_part_own.O : Nat → Nat := fun t => bif ([2, 4] : List Nat).any (Nat.beq t) then 1 else 0
def shard_part_own (fu : Nat) (s : TShard) (k_v : ByteArray) : Option Bool :=
 bd (key_Shard fu k_v s.Shards) fun r2_1 =>
 some (r2_1 == s.ID)
theorem shard_part_own.meets (fu : Nat) (s : TShard) (k_v : ByteArray) (z0 : Bool) (h : shard_part_own fu s k_v = some z0) : Meets Try.prog ⟨46, [.data (TShard.ag s), sv k_v], []⟩ ⟨bv z0, []⟩ := by
 refine kMt hmix shard_part_own.O Try.f46 bd46 3 ?_
 unfold shard_part_own at h
 refine kRs 2 [Tm 2 (.ptr 2 0), Ob 2 (TShard.ob s)] [] .n ?_
 obtain ⟨r2_1, h2_2, h⟩ := bd_inv h
 refine kRs 0 [Tm 4 (bv (r2_1 == s.ID))] [.a ⟨iv r2_1, []⟩] (.c (Asks.of (C := Meets Try.prog) (key_Shard.meets fu k_v s.Shards _ h2_2)) (.c rT .n)) ?_
 refine kRt ?_
 have h_ := some_inj h
 subst h_
 exact kFr
def bd48 : Code := (Try.f48.body).getD .skip
def shard_May_2_1.O : Nat → Nat := fun t => bif ([2, 3] : List Nat).any (Nat.beq t) then 1 else 0
def shard_May_2_1 (v : TVersion) (o0_v : TShard) : Option Bool :=
 some (decide (v.Pos > o0_v.Done))
theorem shard_May_2_1.meets (v : TVersion) (o0_v : TShard) (z0 : Bool) (h : shard_May_2_1 v o0_v = some z0) : Meets Try.prog ⟨48, [.data (TVersion.ag v), .ptr 1000 0], [(TShard.ob o0_v)]⟩ ⟨bv z0, [(TShard.ob o0_v)]⟩ := by
 refine kMt hmix shard_May_2_1.O Try.f48 bd48 7 ?_
 unfold shard_May_2_1 at h
 refine kRs 6 [Tm 2 (.ptr 2 0), Ob 2 (TVersion.ob v)] [] .n ?_
 refine kRs 8 [Tm 3 (bv (decide (v.Pos > o0_v.Done)))] [] .n ?_
 refine kRt ?_
 have h_ := some_inj h
 subst h_
 exact kFr
def bd67 : Code := (Try.f67.body).getD .skip
def slices_IndexFunc_api_Version.O : Nat → Nat := fun t => bif ([4, 5] : List Nat).any (Nat.beq t) then 1 else 0
def slices_IndexFunc_api_Version.lp3 (fu : Nat) (l3_0 : List TVersion) (l3_1 : Int) (l3_3 : TShard) : Nat → Int → Option (Unit ⊕ Int)
  | 0, _ => none
  | n_ + 1, l3_2 =>
  br (decide (l3_2 < l3_1))
   (ix l3_0 l3_2 fun x7_1 =>
   bd (shard_May_2_1 x7_1 l3_3) fun r7_4 =>
   br r7_4
    (some (.inr l3_2))
    (slices_IndexFunc_api_Version.lp3 fu l3_0 l3_1 l3_3 n_ (w64 (l3_2 + 1))))
   (some (.inl ()))
def slices_IndexFunc_api_Version.lp3_post (l3_0 : List TVersion) (l3_1 : Int) (l3_3 : TShard) (r_ : (Unit ⊕ Int)) : Wy → St → Prop := fun e τ => match r_ with
  | .inl _ => e = .exit 0 ∧ τ = ofL [Ob 1000 (TShard.ob l3_3)]
  | .inr y0 => e = .ret ∧ τ = ofL [Tm 4 (iv y0), Ob 1000 (TShard.ob l3_3)]
theorem slices_IndexFunc_api_Version.lp3_ok (fu : Nat) (l3_0 : List TVersion) (l3_1 : Int) (l3_3 : TShard) : ∀ (n_ : Nat) (l3_2 : Int) (r_ : (Unit ⊕ Int)), slices_IndexFunc_api_Version.lp3 fu l3_0 l3_1 l3_3 n_ l3_2 = some r_ → WK Try.prog slices_IndexFunc_api_Version.O (Ck Try.prog) (cB (cR (cL (cR bd67)))) [] (ofL [Tm 0 (sS 3 TVersion.en l3_0), Tm 1 (.fn (.func 48) [] [.ptr 1000 0]), Tm 7 (iv l3_1), Tm 8 (iv l3_2), Ob 1000 (TShard.ob l3_3)]) (slices_IndexFunc_api_Version.lp3_post l3_0 l3_1 l3_3 r_) := by
 intro n_
 induction n_ with
 | zero => intro l3_2 r_ h; exact no_none h
 | succ n_ ih =>
  intro l3_2 r_ h
  refine kLp ?_
  refine kRs 31 [Tm 9 (bv (decide (l3_2 < l3_1)))] [] .n ?_
  refine kSq ?_
  rcases br_inv h with ⟨b5_0, h⟩ | ⟨b5_0, h⟩
  ·refine kCt b5_0 ?_
   refine kSk ?_
   refine kCd (cR (cR (cB (cB (cR (cL (cR bd67))))))) [.lp (cB (cR (cL (cR bd67))))] ?_
   refine kSq ?_
   refine kBk 1 ?_
   refine kRs 62 [Tm 5 (iv l3_2)] [] .n ?_
   obtain ⟨x7_1, a7_2, e7_3, h⟩ := ix_inv h
   obtain ⟨r7_4, h7_5, h⟩ := bd_inv h
   refine kRs 63 [Tm 16 (bv r7_4)] [.c (TVersion.en x7_1), .a ⟨bv r7_4, [(TShard.ob l3_3)]⟩] (.c (c_ix (e := TVersion.en) a7_2 e7_3) (.c (c_el (e := TVersion.en) e7_3) (.c (Asks.of (C := Meets Try.prog) (shard_May_2_1.meets x7_1 l3_3 _ h7_5)) .n))) ?_
   rcases br_inv h with ⟨b8_0, h⟩ | ⟨b8_0, h⟩
   ·refine kCt b8_0 ?_
    refine kRs 64 [Tm 4 (iv l3_2)] [] .n ?_
    cases some_inj h
    refine kWo ?_
    refine kRt ?_
    exact kOut
   ·refine kCe b8_0 ?_
    refine kSk ?_
    refine kCd (cR (cR (cR (cB (cB (cR (cL (cR bd67)))))))) [.lp (cB (cR (cL (cR bd67))))] ?_
    refine kRc 92 [Tm 8 (iv (w64 (l3_2 + 1)))] [] .n (cB (cR (cL (cR bd67)))) [] ?_
    exact kWk (ih (w64 (l3_2 + 1)) _ h)
  ·refine kCe b5_0 ?_
   cases some_inj h
   refine kWo ?_
   refine kXt 0 ?_
   exact kOut
def slices_IndexFunc_api_Version (fu : Nat) (s : List TVersion) (o0_v : TShard) : Option Int :=
 bd (slices_IndexFunc_api_Version.lp3 fu s (s.length : Int) o0_v fu 0) fun o_ => (match o_ with
 | .inl _ =>
  some (-1)
 | .inr y11_0 =>
  some y11_0)
theorem slices_IndexFunc_api_Version.meets (fu : Nat) (s : List TVersion) (o0_v : TShard) (z0 : Int) (h : slices_IndexFunc_api_Version fu s o0_v = some z0) : Meets Try.prog ⟨67, [sS 3 TVersion.en s, .fn (.func 48) [] [.ptr 1000 0]], [(TShard.ob o0_v)]⟩ ⟨iv z0, [(TShard.ob o0_v)]⟩ := by
 refine kMt hmix slices_IndexFunc_api_Version.O Try.f67 bd67 7 ?_
 unfold slices_IndexFunc_api_Version at h
 refine kRs 7 [] [] .n ?_
 refine kSq ?_
 refine kRs 7 [Tm 7 (iv (s.length : Int)), Tm 8 (iv 0)] [.s (.t 7) [iv (s.length : Int)]] (.c (c_len (e := TVersion.en) (l := s)) .n) ?_
 refine kBk 0 ?_
 obtain ⟨o11, ho11, h⟩ := bd_inv h
 refine kUs (slices_IndexFunc_api_Version.lp3_ok fu s (s.length : Int) o0_v _ 0 _ ho11) ?_
 intro e_ τ_ hp_
 rcases o11 with o11 | o11
 ·obtain ⟨⟩ := o11
  obtain ⟨rfl, rfl⟩ := hp_
  refine kCd (cR (cR bd67)) [] ?_
  refine kRs 1 [Tm 4 (iv (-1))] [] .n ?_
  refine kRt ?_
  have h_ := some_inj h
  subst h_
  exact kFr
 ·obtain ⟨y11_0, rfl⟩ : ∃ y, y = o11 := ⟨_, rfl⟩
  obtain ⟨rfl, rfl⟩ := hp_
  have h_ := some_inj h
  subst h_
  exact kFr
def bd47 : Code := (Try.f47.body).getD .skip
def slices_ContainsFunc_api_Version.O : Nat → Nat := fun t => bif ([4] : List Nat).any (Nat.beq t) then 1 else 0
def slices_ContainsFunc_api_Version (fu : Nat) (s : List TVersion) (o0_v : TShard) : Option Bool :=
 bd (slices_IndexFunc_api_Version fu s o0_v) fun r2_1 =>
 some (decide (r2_1 ≥ 0))
theorem slices_ContainsFunc_api_Version.meets (fu : Nat) (s : List TVersion) (o0_v : TShard) (z0 : Bool) (h : slices_ContainsFunc_api_Version fu s o0_v = some z0) : Meets Try.prog ⟨47, [sS 3 TVersion.en s, .fn (.func 48) [] [.ptr 1000 0]], [(TShard.ob o0_v)]⟩ ⟨bv z0, [(TShard.ob o0_v)]⟩ := by
 refine kMt hmix slices_ContainsFunc_api_Version.O Try.f47 bd47 7 ?_
 unfold slices_ContainsFunc_api_Version at h
 refine kRs 7 [] [] .n ?_
 obtain ⟨r2_1, h2_2, h⟩ := bd_inv h
 refine kRs 4 [Tm 4 (bv (decide (r2_1 ≥ 0)))] [.a ⟨iv r2_1, [(TShard.ob o0_v)]⟩] (.c (Asks.of (C := Meets Try.prog) (slices_IndexFunc_api_Version.meets fu s o0_v _ h2_2)) .n) ?_
 refine kRt ?_
 have h_ := some_inj h
 subst h_
 exact kFr
def bd45 : Code := (Try.f45.body).getD .skip
def shard_May_2.O : Nat → Nat := fun t => bif ([2, 3] : List Nat).any (Nat.beq t) then 1 else 0
def shard_May_2 (fu : Nat) (c : TChain) (o0_v : TShard) : Option Bool :=
 bd (shard_part_own fu o0_v c.Key) fun r2_1 =>
 br (!r2_1)
  (some true)
  (bd (slices_ContainsFunc_api_Version fu c.L o0_v) fun r2_4 =>
  some r2_4)
theorem shard_May_2.meets (fu : Nat) (c : TChain) (o0_v : TShard) (z0 : Bool) (h : shard_May_2 fu c o0_v = some z0) : Meets Try.prog ⟨45, [.data (.agg [.val (.string c.Key), .slc false none 3 (List.map TVersion.en c.L)]), .ptr 1000 0], [(TShard.ob o0_v)]⟩ ⟨bv z0, [(TShard.ob o0_v)]⟩ := by
 refine kMt hmix shard_May_2.O Try.f45 bd45 7 ?_
 unfold shard_May_2 at h
 refine kRs 6 [Tm 2 (.ptr 2 0), Ob 2 [sv c.Key, sS 3 TVersion.en c.L]] [] .n ?_
 obtain ⟨r2_1, h2_2, h⟩ := bd_inv h
 rcases br_inv h with ⟨b2_3, h⟩ | ⟨b2_3, h⟩
 ·refine kRs 8 [Tm 3 (bv true)] (.a ⟨bv r2_1, []⟩ :: (rp 5 (.b true) [])) (.c (Asks.of (C := Meets Try.prog) (shard_part_own.meets fu o0_v c.Key _ h2_2)) (.r 5 b2_3 .n)) ?_
  refine kRt ?_
  have h_ := some_inj h
  subst h_
  exact kFr
 ·obtain ⟨r2_4, h2_5, h⟩ := bd_inv h
  refine kRs 8 [Tm 3 (bv r2_4)] (.a ⟨bv r2_1, []⟩ :: (rp 4 (.b false) [.a ⟨bv r2_4, [(TShard.ob o0_v)]⟩, .b false])) (.c (Asks.of (C := Meets Try.prog) (shard_part_own.meets fu o0_v c.Key _ h2_2)) (.r 4 b2_3 (.c (Asks.of (C := Meets Try.prog) (slices_ContainsFunc_api_Version.meets fu c.L o0_v _ h2_5)) (.c b2_3 .n)))) ?_
  refine kRt ?_
  have h_ := some_inj h
  subst h_
  exact kFr
def bd71 : Code := (Try.f71.body).getD .skip
def slices_IndexFunc_api_Chain.O : Nat → Nat := fun t => bif ([4, 5] : List Nat).any (Nat.beq t) then 1 else 0
def slices_IndexFunc_api_Chain.lp3 (fu : Nat) (l3_0 : List TChain) (l3_1 : Int) (l3_3 : TShard) : Nat → Int → Option (Unit ⊕ Int)
  | 0, _ => none
  | n_ + 1, l3_2 =>
  br (decide (l3_2 < l3_1))
   (ix l3_0 l3_2 fun x7_1 =>
   bd (shard_May_2 fu x7_1 l3_3) fun r7_4 =>
   br r7_4
    (some (.inr l3_2))
    (slices_IndexFunc_api_Chain.lp3 fu l3_0 l3_1 l3_3 n_ (w64 (l3_2 + 1))))
   (some (.inl ()))
def slices_IndexFunc_api_Chain.lp3_post (l3_0 : List TChain) (l3_1 : Int) (l3_3 : TShard) (r_ : (Unit ⊕ Int)) : Wy → St → Prop := fun e τ => match r_ with
  | .inl _ => e = .exit 0 ∧ τ = ofL [Ob 1000 (TShard.ob l3_3)]
  | .inr y0 => e = .ret ∧ τ = ofL [Tm 4 (iv y0), Ob 1000 (TShard.ob l3_3)]
theorem slices_IndexFunc_api_Chain.lp3_ok (fu : Nat) (l3_0 : List TChain) (l3_1 : Int) (l3_3 : TShard) : ∀ (n_ : Nat) (l3_2 : Int) (r_ : (Unit ⊕ Int)), slices_IndexFunc_api_Chain.lp3 fu l3_0 l3_1 l3_3 n_ l3_2 = some r_ → WK Try.prog slices_IndexFunc_api_Chain.O (Ck Try.prog) (cB (cR (cL (cR bd71)))) [] (ofL [Tm 0 (sS 2 TChain.en l3_0), Tm 1 (.fn (.func 45) [] [.ptr 1000 0]), Tm 7 (iv l3_1), Tm 8 (iv l3_2), Ob 1000 (TShard.ob l3_3)]) (slices_IndexFunc_api_Chain.lp3_post l3_0 l3_1 l3_3 r_) := by
 intro n_
 induction n_ with
 | zero => intro l3_2 r_ h; exact no_none h
 | succ n_ ih =>
  intro l3_2 r_ h
  refine kLp ?_
  refine kRs 31 [Tm 9 (bv (decide (l3_2 < l3_1)))] [] .n ?_
  refine kSq ?_
  rcases br_inv h with ⟨b5_0, h⟩ | ⟨b5_0, h⟩
  ·refine kCt b5_0 ?_
   refine kSk ?_
   refine kCd (cR (cR (cB (cB (cR (cL (cR bd71))))))) [.lp (cB (cR (cL (cR bd71))))] ?_
   refine kSq ?_
   refine kBk 1 ?_
   refine kRs 62 [Tm 5 (iv l3_2)] [] .n ?_
   obtain ⟨x7_1, a7_2, e7_3, h⟩ := ix_inv h
   obtain ⟨r7_4, h7_5, h⟩ := bd_inv h
   refine kRs 63 [Tm 16 (bv r7_4)] [.c (TChain.en x7_1), .a ⟨bv r7_4, [(TShard.ob l3_3)]⟩] (.c (c_ix (e := TChain.en) a7_2 e7_3) (.c (c_el (e := TChain.en) e7_3) (.c (Asks.of (C := Meets Try.prog) (shard_May_2.meets fu x7_1 l3_3 _ h7_5)) .n))) ?_
   rcases br_inv h with ⟨b8_0, h⟩ | ⟨b8_0, h⟩
   ·refine kCt b8_0 ?_
    refine kRs 64 [Tm 4 (iv l3_2)] [] .n ?_
    cases some_inj h
    refine kWo ?_
    refine kRt ?_
    exact kOut
   ·refine kCe b8_0 ?_
    refine kSk ?_
    refine kCd (cR (cR (cR (cB (cB (cR (cL (cR bd71)))))))) [.lp (cB (cR (cL (cR bd71))))] ?_
    refine kRc 92 [Tm 8 (iv (w64 (l3_2 + 1)))] [] .n (cB (cR (cL (cR bd71)))) [] ?_
    exact kWk (ih (w64 (l3_2 + 1)) _ h)
  ·refine kCe b5_0 ?_
   cases some_inj h
   refine kWo ?_
   refine kXt 0 ?_
   exact kOut
def slices_IndexFunc_api_Chain (fu : Nat) (s : List TChain) (o0_v : TShard) : Option Int :=
 bd (slices_IndexFunc_api_Chain.lp3 fu s (s.length : Int) o0_v fu 0) fun o_ => (match o_ with
 | .inl _ =>
  some (-1)
 | .inr y11_0 =>
  some y11_0)
theorem slices_IndexFunc_api_Chain.meets (fu : Nat) (s : List TChain) (o0_v : TShard) (z0 : Int) (h : slices_IndexFunc_api_Chain fu s o0_v = some z0) : Meets Try.prog ⟨71, [sS 2 TChain.en s, .fn (.func 45) [] [.ptr 1000 0]], [(TShard.ob o0_v)]⟩ ⟨iv z0, [(TShard.ob o0_v)]⟩ := by
 refine kMt hmix slices_IndexFunc_api_Chain.O Try.f71 bd71 7 ?_
 unfold slices_IndexFunc_api_Chain at h
 refine kRs 7 [] [] .n ?_
 refine kSq ?_
 refine kRs 7 [Tm 7 (iv (s.length : Int)), Tm 8 (iv 0)] [.s (.t 7) [iv (s.length : Int)]] (.c (c_len (e := TChain.en) (l := s)) .n) ?_
 refine kBk 0 ?_
 obtain ⟨o11, ho11, h⟩ := bd_inv h
 refine kUs (slices_IndexFunc_api_Chain.lp3_ok fu s (s.length : Int) o0_v _ 0 _ ho11) ?_
 intro e_ τ_ hp_
 rcases o11 with o11 | o11
 ·obtain ⟨⟩ := o11
  obtain ⟨rfl, rfl⟩ := hp_
  refine kCd (cR (cR bd71)) [] ?_
  refine kRs 1 [Tm 4 (iv (-1))] [] .n ?_
  refine kRt ?_
  have h_ := some_inj h
  subst h_
  exact kFr
 ·obtain ⟨y11_0, rfl⟩ : ∃ y, y = o11 := ⟨_, rfl⟩
  obtain ⟨rfl, rfl⟩ := hp_
  have h_ := some_inj h
  subst h_
  exact kFr
def bd51 : Code := (Try.f51.body).getD .skip
def slices_ContainsFunc_api_Chain.O : Nat → Nat := fun t => bif ([4] : List Nat).any (Nat.beq t) then 1 else 0
def slices_ContainsFunc_api_Chain (fu : Nat) (s : List TChain) (o0_v : TShard) : Option Bool :=
 bd (slices_IndexFunc_api_Chain fu s o0_v) fun r2_1 =>
 some (decide (r2_1 ≥ 0))
theorem slices_ContainsFunc_api_Chain.meets (fu : Nat) (s : List TChain) (o0_v : TShard) (z0 : Bool) (h : slices_ContainsFunc_api_Chain fu s o0_v = some z0) : Meets Try.prog ⟨51, [sS 2 TChain.en s, .fn (.func 45) [] [.ptr 1000 0]], [(TShard.ob o0_v)]⟩ ⟨bv z0, [(TShard.ob o0_v)]⟩ := by
 refine kMt hmix slices_ContainsFunc_api_Chain.O Try.f51 bd51 7 ?_
 unfold slices_ContainsFunc_api_Chain at h
 refine kRs 7 [] [] .n ?_
 obtain ⟨r2_1, h2_2, h⟩ := bd_inv h
 refine kRs 4 [Tm 4 (bv (decide (r2_1 ≥ 0)))] [.a ⟨iv r2_1, [(TShard.ob o0_v)]⟩] (.c (Asks.of (C := Meets Try.prog) (slices_IndexFunc_api_Chain.meets fu s o0_v _ h2_2)) .n) ?_
 refine kRt ?_
 have h_ := some_inj h
 subst h_
 exact kFr
def bd52 : Code := (Try.f52.body).getD .skip
def shard_seats.O : Nat → Nat := fun t => bif ([1, 2, 3, 5] : List Nat).any (Nat.beq t) then 1 else 0
def shard_seats.lp4 (fu : Nat) (l4_1 : List TSeat) (l4_2 : Int) (l4_4 : TShard) : Nat → Int → Int → Option (Unit ⊕ Unit)
  | 0, _, _ => none
  | n_ + 1, l4_0, l4_3 =>
  br (decide (l4_3 < l4_2))
   (ix l4_1 l4_3 fun x7_1 =>
   br (decide (x7_1.Session ≤ l4_0))
    (some (.inr ()))
    (br (decide (x7_1.Session > 9))
     (some (.inr ()))
     (br (decide (x7_1.Seq < 1))
      (some (.inr ()))
      (br (decide (x7_1.Seq > 1000))
       (some (.inr ()))
       (br (decide (x7_1.Pos < 1))
        (some (.inr ()))
        (br (decide (x7_1.Pos > l4_4.Done))
         (some (.inr ()))
         (shard_seats.lp4 fu l4_1 l4_2 l4_4 n_ x7_1.Session (w64 (l4_3 + 1)))))))))
   (some (.inl ()))
def shard_seats.lp4_post (l4_1 : List TSeat) (l4_2 : Int) (l4_4 : TShard) (r_ : (Unit ⊕ Unit)) : Wy → St → Prop := fun e τ => match r_ with
  | .inl _ => e = .exit 0 ∧ τ = ofL []
  | .inr _ => e = .ret ∧ τ = ofL [Tm 2 (bv false)]
theorem shard_seats.lp4_ok (fu : Nat) (l4_1 : List TSeat) (l4_2 : Int) (l4_4 : TShard) : ∀ (n_ : Nat) (l4_0 : Int) (l4_3 : Int) (r_ : (Unit ⊕ Unit)), shard_seats.lp4 fu l4_1 l4_2 l4_4 n_ l4_0 l4_3 = some r_ → WK Try.prog shard_seats.O (Ck Try.prog) (cB (cR (cL (cR (cR bd52))))) [] (ofL [Tm 1 (.ptr 1 0), Tm 3 (iv l4_0), Tm 7 (sS 3 TSeat.en l4_1), Tm 8 (iv l4_2), Tm 9 (iv l4_3), Ob 1 (TShard.ob l4_4)]) (shard_seats.lp4_post l4_1 l4_2 l4_4 r_) := by
 intro n_
 induction n_ with
 | zero => intro l4_0 l4_3 r_ h; exact no_none h
 | succ n_ ih =>
  intro l4_0 l4_3 r_ h
  refine kLp ?_
  refine kRs 63 [Tm 10 (bv (decide (l4_3 < l4_2)))] [] .n ?_
  refine kSq ?_
  rcases br_inv h with ⟨b6_0, h⟩ | ⟨b6_0, h⟩
  ·refine kCt b6_0 ?_
   refine kSk ?_
   refine kCd (cR (cR (cB (cB (cR (cL (cR (cR bd52)))))))) [.lp (cB (cR (cL (cR (cR bd52)))))] ?_
   refine kSq ?_
   refine kBk 1 ?_
   obtain ⟨x7_1, a7_2, e7_3, h⟩ := ix_inv h
   refine kRs 126 [Tm 5 (.ptr 5 0), Ob 5 (TSeat.ob x7_1)] [.c (TSeat.en x7_1)] (.c (c_ix (e := TSeat.en) a7_2 e7_3) (.c (c_el (e := TSeat.en) e7_3) .n)) ?_
   refine kSq ?_
   rcases br_inv h with ⟨b8_1, h⟩ | ⟨b8_1, h⟩
   ·refine kRs 247 [Tm 43 (bv true)] (rp 22 (.b true) []) (.r 4 b8_1 (.r 18 rT .n)) ?_
    refine kCt rT ?_
    refine kRs 0 [Tm 2 (bv false)] [] .n ?_
    cases some_inj h
    refine kWo ?_
    refine kRt ?_
    exact kOut
   ·rcases br_inv h with ⟨b8_2, h⟩ | ⟨b8_2, h⟩
    ·refine kRs 247 [Tm 43 (bv true)] (rp 4 (.b false) (rp 18 (.b true) [])) (.r 4 b8_1 (.r 4 b8_2 (.r 14 rT .n))) ?_
     refine kCt rT ?_
     refine kRs 0 [Tm 2 (bv false)] [] .n ?_
     cases some_inj h
     refine kWo ?_
     refine kRt ?_
     exact kOut
    ·rcases br_inv h with ⟨b8_3, h⟩ | ⟨b8_3, h⟩
     ·refine kRs 247 [Tm 43 (bv true)] (rp 8 (.b false) (rp 14 (.b true) [])) (.r 4 b8_1 (.r 4 b8_2 (.r 4 b8_3 (.r 10 rT .n)))) ?_
      refine kCt rT ?_
      refine kRs 0 [Tm 2 (bv false)] [] .n ?_
      cases some_inj h
      refine kWo ?_
      refine kRt ?_
      exact kOut
     ·rcases br_inv h with ⟨b8_4, h⟩ | ⟨b8_4, h⟩
      ·refine kRs 247 [Tm 43 (bv true)] (rp 12 (.b false) (rp 10 (.b true) [])) (.r 4 b8_1 (.r 4 b8_2 (.r 4 b8_3 (.r 4 b8_4 (.r 6 rT .n))))) ?_
       refine kCt rT ?_
       refine kRs 0 [Tm 2 (bv false)] [] .n ?_
       cases some_inj h
       refine kWo ?_
       refine kRt ?_
       exact kOut
      ·rcases br_inv h with ⟨b8_5, h⟩ | ⟨b8_5, h⟩
       ·refine kRs 247 [Tm 43 (bv true)] (rp 16 (.b false) (rp 6 (.b true) [])) (.r 4 b8_1 (.r 4 b8_2 (.r 4 b8_3 (.r 4 b8_4 (.r 6 b8_5 .n))))) ?_
        refine kCt rT ?_
        refine kRs 0 [Tm 2 (bv false)] [] .n ?_
        cases some_inj h
        refine kWo ?_
        refine kRt ?_
        exact kOut
       ·refine kRs 247 [Tm 43 (bv (decide (x7_1.Pos > l4_4.Done)))] (rp 22 (.b false) []) (.r 4 b8_1 (.r 4 b8_2 (.r 4 b8_3 (.r 4 b8_4 (.r 6 b8_5 .n))))) ?_
        rcases br_inv h with ⟨b14_0, h⟩ | ⟨b14_0, h⟩
        ·refine kCt b14_0 ?_
         refine kRs 0 [Tm 2 (bv false)] [] .n ?_
         cases some_inj h
         refine kWo ?_
         refine kRt ?_
         exact kOut
        ·refine kCe b14_0 ?_
         refine kSk ?_
         refine kCd (cR (cR (cB (cL (cR (cR (cB (cB (cR (cL (cR (cR bd52)))))))))))) [.blk 1, .seq (cR (cR (cR (cB (cB (cR (cL (cR (cR bd52))))))))), .lp (cB (cR (cL (cR (cR bd52)))))] ?_
         refine kRc 248 [Tm 3 (iv x7_1.Session)] [] .n (cR (cR (cR (cB (cB (cR (cL (cR (cR bd52))))))))) [.lp (cB (cR (cL (cR (cR bd52)))))] ?_
         refine kRc 47 [Tm 9 (iv (w64 (l4_3 + 1)))] [] .n (cB (cR (cL (cR (cR bd52))))) [] ?_
         exact kWk (ih x7_1.Session (w64 (l4_3 + 1)) _ h)
  ·refine kCe b6_0 ?_
   cases some_inj h
   refine kWo ?_
   refine kXt 0 ?_
   exact kOut
def shard_seats (fu : Nat) (s : TShard) : Option Bool :=
 bd (shard_seats.lp4 fu s.Seats (s.Seats.length : Int) s fu 0 0) fun o_ => (match o_ with
 | .inl _ =>
  some true
 | .inr _ =>
  some false)
theorem shard_seats.meets (fu : Nat) (s : TShard) (z0 : Bool) (h : shard_seats fu s = some z0) : Meets Try.prog ⟨52, [.data (TShard.ag s)], []⟩ ⟨bv z0, []⟩ := by
 refine kMt hmix shard_seats.O Try.f52 bd52 1 ?_
 unfold shard_seats at h
 refine kRs 0 [Tm 1 (.ptr 1 0), Ob 1 (TShard.ob s)] [] .n ?_
 refine kRs 3 [Tm 3 (iv 0)] [] .n ?_
 refine kSq ?_
 refine kRs 7 [Tm 7 (sS 3 TSeat.en s.Seats), Tm 8 (iv (s.Seats.length : Int)), Tm 9 (iv 0)] [.s (.t 8) [iv (s.Seats.length : Int)]] (.c (c_len (e := TSeat.en) (l := s.Seats)) .n) ?_
 refine kBk 0 ?_
 obtain ⟨o18, ho18, h⟩ := bd_inv h
 refine kUs (shard_seats.lp4_ok fu s.Seats (s.Seats.length : Int) s _ 0 0 _ ho18) ?_
 intro e_ τ_ hp_
 rcases o18 with o18 | o18
 ·obtain ⟨⟩ := o18
  obtain ⟨rfl, rfl⟩ := hp_
  refine kCd (cR (cR (cR bd52))) [] ?_
  refine kRs 0 [Tm 2 (bv true)] [] .n ?_
  refine kRt ?_
  have h_ := some_inj h
  subst h_
  exact kFr
 ·obtain ⟨⟩ := o18
  obtain ⟨rfl, rfl⟩ := hp_
  have h_ := some_inj h
  subst h_
  exact kFr
def bd29 : Code := (Try.f29.body).getD .skip
def shard_May.O : Nat → Nat := fun t => bif ([1, 2, 3, 4] : List Nat).any (Nat.beq t) then 1 else 0
def shard_May (fu : Nat) (s : TShard) : Option Bool :=
 br (decide (s.Shards ≥ 1))
  (br (decide (s.Shards ≤ 3))
   (br (decide (s.ID ≥ 0))
    (br (decide (s.ID < s.Shards))
     (br (decide (s.Done ≥ 0))
      (br ((s.Bits.length : Int) == s.Done)
       (bd (shard_May_1 0 2) fun _ =>
       bd (slices_ContainsFunc_int_int fu s.Bits 0 2) fun r4_8 =>
       br (!r4_8)
        (br ((s.Said.length : Int) == s.Done)
         (bd (shard_May_1 1 4) fun _ =>
         bd (slices_ContainsFunc_int_int fu s.Said 1 4) fun r4_13 =>
         br (!r4_13)
          (bd (store_May fu s.S) fun r4_16 =>
          br r4_16
           (bd (slices_ContainsFunc_api_Chain fu s.S.Chains s) fun r4_19 =>
           br (!r4_19)
            (bd (shard_seats fu s) fun r4_22 =>
            some r4_22)
            (some false))
           (some false))
          (some false))
         (some false))
        (some false))
       (some false))
      (some false))
     (some false))
    (some false))
   (some false))
  (some false)
theorem shard_May.meets (fu : Nat) (s : TShard) (z0 : Bool) (h : shard_May fu s = some z0) : Meets Try.prog ⟨29, [.data (TShard.ag s)], []⟩ ⟨bv z0, []⟩ := by
 refine kMt hmix shard_May.O Try.f29 bd29 1 ?_
 unfold shard_May at h
 refine kRs 0 [Tm 1 (.ptr 1 0), Ob 1 (TShard.ob s)] [] .n ?_
 refine kRs 3 [Tm 3 (.fn (.func 43) [] [])] [] .n ?_
 refine kRs 7 [Tm 4 (.fn (.func 45) [] [.ptr 1 0])] [] .n ?_
 rcases br_inv h with ⟨b4_1, h⟩ | ⟨b4_1, h⟩
 ·rcases br_inv h with ⟨b4_2, h⟩ | ⟨b4_2, h⟩
  ·rcases br_inv h with ⟨b4_3, h⟩ | ⟨b4_3, h⟩
   ·rcases br_inv h with ⟨b4_4, h⟩ | ⟨b4_4, h⟩
    ·rcases br_inv h with ⟨b4_5, h⟩ | ⟨b4_5, h⟩
     ·rcases br_inv h with ⟨b4_6, h⟩ | ⟨b4_6, h⟩
      ·obtain ⟨_, h4_7, h⟩ := bd_inv h
       obtain ⟨r4_8, h4_9, h⟩ := bd_inv h
       rcases br_inv h with ⟨b4_10, h⟩ | ⟨b4_10, h⟩
       ·rcases br_inv h with ⟨b4_11, h⟩ | ⟨b4_11, h⟩
        ·obtain ⟨_, h4_12, h⟩ := bd_inv h
         obtain ⟨r4_13, h4_14, h⟩ := bd_inv h
         rcases br_inv h with ⟨b4_15, h⟩ | ⟨b4_15, h⟩
         ·obtain ⟨r4_16, h4_17, h⟩ := bd_inv h
          rcases br_inv h with ⟨b4_18, h⟩ | ⟨b4_18, h⟩
          ·obtain ⟨r4_19, h4_20, h⟩ := bd_inv h
           rcases br_inv h with ⟨b4_21, h⟩ | ⟨b4_21, h⟩
           ·obtain ⟨r4_22, h4_23, h⟩ := bd_inv h
            refine kRs 0 [Tm 2 (bv r4_22)] (rp 21 (.b true) (.s (.t 34) [iv (s.Bits.length : Int)] :: (rp 8 (.b true) (.a ⟨.fn (.func 44) [] [.ptr 1000 0, .ptr 1001 0], [[iv 0], [iv 2]]⟩ :: (.b true :: (.a ⟨bv r4_8, [[iv 0], [iv 2]]⟩ :: (rp 5 (.b true) (.s (.t 50) [iv (s.Said.length : Int)] :: (rp 8 (.b true) (.a ⟨.fn (.func 44) [] [.ptr 1000 0, .ptr 1001 0], [[iv 1], [iv 4]]⟩ :: (.b true :: (.a ⟨bv r4_13, [[iv 1], [iv 4]]⟩ :: (rp 5 (.b true) (.a ⟨bv r4_16, []⟩ :: (rp 6 (.b true) (.a ⟨bv r4_19, [(TShard.ob s)]⟩ :: (rp 4 (.b true) [.a ⟨bv r4_22, []⟩, .b true]))))))))))))))))) (.r 4 b4_1 (.r 4 b4_2 (.r 6 b4_3 (.r 4 b4_4 (.r 3 b4_5 (.c (c_len (e := e_i64) (l := s.Bits)) (.r 4 b4_5 (.r 4 b4_6 (.c (Asks.of (C := Meets Try.prog) (shard_May_1.meets 0 2 h4_7)) (.c b4_6 (.c (Asks.of (C := Meets Try.prog) (slices_ContainsFunc_int_int.meets fu s.Bits 0 2 _ h4_9)) (.r 2 b4_6 (.r 3 b4_10 (.c (c_len (e := e_i64) (l := s.Said)) (.r 4 b4_10 (.r 4 b4_11 (.c (Asks.of (C := Meets Try.prog) (shard_May_1.meets 1 4 h4_12)) (.c b4_11 (.c (Asks.of (C := Meets Try.prog) (slices_ContainsFunc_int_int.meets fu s.Said 1 4 _ h4_14)) (.r 2 b4_11 (.r 3 b4_15 (.c (Asks.of (C := Meets Try.prog) (store_May.meets fu s.S _ h4_17)) (.c b4_15 (.r 5 b4_18 (.c (Asks.of (C := Meets Try.prog) (slices_ContainsFunc_api_Chain.meets fu s.S.Chains s _ h4_20)) (.r 2 b4_18 (.r 2 b4_21 (.c (Asks.of (C := Meets Try.prog) (shard_seats.meets fu s _ h4_23)) (.c b4_21 (.c rT .n)))))))))))))))))))))))))))))) ?_
            refine kRt ?_
            have h_ := some_inj h
            subst h_
            exact kFr
           ·refine kRs 0 [Tm 2 (bv false)] (rp 21 (.b true) (.s (.t 34) [iv (s.Bits.length : Int)] :: (rp 8 (.b true) (.a ⟨.fn (.func 44) [] [.ptr 1000 0, .ptr 1001 0], [[iv 0], [iv 2]]⟩ :: (.b true :: (.a ⟨bv r4_8, [[iv 0], [iv 2]]⟩ :: (rp 5 (.b true) (.s (.t 50) [iv (s.Said.length : Int)] :: (rp 8 (.b true) (.a ⟨.fn (.func 44) [] [.ptr 1000 0, .ptr 1001 0], [[iv 1], [iv 4]]⟩ :: (.b true :: (.a ⟨bv r4_13, [[iv 1], [iv 4]]⟩ :: (rp 5 (.b true) (.a ⟨bv r4_16, []⟩ :: (rp 6 (.b true) [.a ⟨bv r4_19, [(TShard.ob s)]⟩, .b true, .b true, .b false, .b false, .b false]))))))))))))))) (.r 4 b4_1 (.r 4 b4_2 (.r 6 b4_3 (.r 4 b4_4 (.r 3 b4_5 (.c (c_len (e := e_i64) (l := s.Bits)) (.r 4 b4_5 (.r 4 b4_6 (.c (Asks.of (C := Meets Try.prog) (shard_May_1.meets 0 2 h4_7)) (.c b4_6 (.c (Asks.of (C := Meets Try.prog) (slices_ContainsFunc_int_int.meets fu s.Bits 0 2 _ h4_9)) (.r 2 b4_6 (.r 3 b4_10 (.c (c_len (e := e_i64) (l := s.Said)) (.r 4 b4_10 (.r 4 b4_11 (.c (Asks.of (C := Meets Try.prog) (shard_May_1.meets 1 4 h4_12)) (.c b4_11 (.c (Asks.of (C := Meets Try.prog) (slices_ContainsFunc_int_int.meets fu s.Said 1 4 _ h4_14)) (.r 2 b4_11 (.r 3 b4_15 (.c (Asks.of (C := Meets Try.prog) (store_May.meets fu s.S _ h4_17)) (.c b4_15 (.r 5 b4_18 (.c (Asks.of (C := Meets Try.prog) (slices_ContainsFunc_api_Chain.meets fu s.S.Chains s _ h4_20)) (.r 2 b4_18 (.r 3 b4_21 (.c rT .n)))))))))))))))))))))))))))) ?_
            refine kRt ?_
            have h_ := some_inj h
            subst h_
            exact kFr
          ·refine kRs 0 [Tm 2 (bv false)] (rp 21 (.b true) (.s (.t 34) [iv (s.Bits.length : Int)] :: (rp 8 (.b true) (.a ⟨.fn (.func 44) [] [.ptr 1000 0, .ptr 1001 0], [[iv 0], [iv 2]]⟩ :: (.b true :: (.a ⟨bv r4_8, [[iv 0], [iv 2]]⟩ :: (rp 5 (.b true) (.s (.t 50) [iv (s.Said.length : Int)] :: (rp 8 (.b true) (.a ⟨.fn (.func 44) [] [.ptr 1000 0, .ptr 1001 0], [[iv 1], [iv 4]]⟩ :: (.b true :: (.a ⟨bv r4_13, [[iv 1], [iv 4]]⟩ :: (rp 5 (.b true) (.a ⟨bv r4_16, []⟩ :: (.b true :: (rp 10 (.b false) [])))))))))))))))) (.r 4 b4_1 (.r 4 b4_2 (.r 6 b4_3 (.r 4 b4_4 (.r 3 b4_5 (.c (c_len (e := e_i64) (l := s.Bits)) (.r 4 b4_5 (.r 4 b4_6 (.c (Asks.of (C := Meets Try.prog) (shard_May_1.meets 0 2 h4_7)) (.c b4_6 (.c (Asks.of (C := Meets Try.prog) (slices_ContainsFunc_int_int.meets fu s.Bits 0 2 _ h4_9)) (.r 2 b4_6 (.r 3 b4_10 (.c (c_len (e := e_i64) (l := s.Said)) (.r 4 b4_10 (.r 4 b4_11 (.c (Asks.of (C := Meets Try.prog) (shard_May_1.meets 1 4 h4_12)) (.c b4_11 (.c (Asks.of (C := Meets Try.prog) (slices_ContainsFunc_int_int.meets fu s.Said 1 4 _ h4_14)) (.r 2 b4_11 (.r 3 b4_15 (.c (Asks.of (C := Meets Try.prog) (store_May.meets fu s.S _ h4_17)) (.c b4_15 (.r 7 b4_18 (.r 3 rF (.c rT .n)))))))))))))))))))))))))) ?_
           refine kRt ?_
           have h_ := some_inj h
           subst h_
           exact kFr
         ·refine kRs 0 [Tm 2 (bv false)] (rp 21 (.b true) (.s (.t 34) [iv (s.Bits.length : Int)] :: (rp 8 (.b true) (.a ⟨.fn (.func 44) [] [.ptr 1000 0, .ptr 1001 0], [[iv 0], [iv 2]]⟩ :: (.b true :: (.a ⟨bv r4_8, [[iv 0], [iv 2]]⟩ :: (rp 5 (.b true) (.s (.t 50) [iv (s.Said.length : Int)] :: (rp 8 (.b true) (.a ⟨.fn (.func 44) [] [.ptr 1000 0, .ptr 1001 0], [[iv 1], [iv 4]]⟩ :: (.b true :: (.a ⟨bv r4_13, [[iv 1], [iv 4]]⟩ :: (.b true :: (.b true :: (rp 14 (.b false) []))))))))))))))) (.r 4 b4_1 (.r 4 b4_2 (.r 6 b4_3 (.r 4 b4_4 (.r 3 b4_5 (.c (c_len (e := e_i64) (l := s.Bits)) (.r 4 b4_5 (.r 4 b4_6 (.c (Asks.of (C := Meets Try.prog) (shard_May_1.meets 0 2 h4_7)) (.c b4_6 (.c (Asks.of (C := Meets Try.prog) (slices_ContainsFunc_int_int.meets fu s.Bits 0 2 _ h4_9)) (.r 2 b4_6 (.r 3 b4_10 (.c (c_len (e := e_i64) (l := s.Said)) (.r 4 b4_10 (.r 4 b4_11 (.c (Asks.of (C := Meets Try.prog) (shard_May_1.meets 1 4 h4_12)) (.c b4_11 (.c (Asks.of (C := Meets Try.prog) (slices_ContainsFunc_int_int.meets fu s.Said 1 4 _ h4_14)) (.r 2 b4_11 (.r 4 b4_15 (.r 10 rF (.c rT .n))))))))))))))))))))))) ?_
          refine kRt ?_
          have h_ := some_inj h
          subst h_
          exact kFr
        ·refine kRs 0 [Tm 2 (bv false)] (rp 21 (.b true) (.s (.t 34) [iv (s.Bits.length : Int)] :: (rp 8 (.b true) (.a ⟨.fn (.func 44) [] [.ptr 1000 0, .ptr 1001 0], [[iv 0], [iv 2]]⟩ :: (.b true :: (.a ⟨bv r4_8, [[iv 0], [iv 2]]⟩ :: (rp 5 (.b true) (.s (.t 50) [iv (s.Said.length : Int)] :: (rp 4 (.b true) (rp 21 (.b false) [])))))))))) (.r 4 b4_1 (.r 4 b4_2 (.r 6 b4_3 (.r 4 b4_4 (.r 3 b4_5 (.c (c_len (e := e_i64) (l := s.Bits)) (.r 4 b4_5 (.r 4 b4_6 (.c (Asks.of (C := Meets Try.prog) (shard_May_1.meets 0 2 h4_7)) (.c b4_6 (.c (Asks.of (C := Meets Try.prog) (slices_ContainsFunc_int_int.meets fu s.Bits 0 2 _ h4_9)) (.r 2 b4_6 (.r 3 b4_10 (.c (c_len (e := e_i64) (l := s.Said)) (.r 4 b4_10 (.r 7 b4_11 (.r 14 rF (.c rT .n)))))))))))))))))) ?_
         refine kRt ?_
         have h_ := some_inj h
         subst h_
         exact kFr
       ·refine kRs 0 [Tm 2 (bv false)] (rp 21 (.b true) (.s (.t 34) [iv (s.Bits.length : Int)] :: (rp 8 (.b true) (.a ⟨.fn (.func 44) [] [.ptr 1000 0, .ptr 1001 0], [[iv 0], [iv 2]]⟩ :: (.b true :: (.a ⟨bv r4_8, [[iv 0], [iv 2]]⟩ :: (.b true :: (.b true :: (rp 28 (.b false) []))))))))) (.r 4 b4_1 (.r 4 b4_2 (.r 6 b4_3 (.r 4 b4_4 (.r 3 b4_5 (.c (c_len (e := e_i64) (l := s.Bits)) (.r 4 b4_5 (.r 4 b4_6 (.c (Asks.of (C := Meets Try.prog) (shard_May_1.meets 0 2 h4_7)) (.c b4_6 (.c (Asks.of (C := Meets Try.prog) (slices_ContainsFunc_int_int.meets fu s.Bits 0 2 _ h4_9)) (.r 2 b4_6 (.r 7 b4_10 (.r 21 rF (.c rT .n))))))))))))))) ?_
        refine kRt ?_
        have h_ := some_inj h
        subst h_
        exact kFr
      ·refine kRs 0 [Tm 2 (bv false)] (rp 21 (.b true) (.s (.t 34) [iv (s.Bits.length : Int)] :: (rp 4 (.b true) (rp 35 (.b false) [])))) (.r 4 b4_1 (.r 4 b4_2 (.r 6 b4_3 (.r 4 b4_4 (.r 3 b4_5 (.c (c_len (e := e_i64) (l := s.Bits)) (.r 4 b4_5 (.r 7 b4_6 (.r 28 rF (.c rT .n)))))))))) ?_
       refine kRt ?_
       have h_ := some_inj h
       subst h_
       exact kFr
     ·refine kRs 0 [Tm 2 (bv false)] (rp 18 (.b true) (rp 42 (.b false) [])) (.r 4 b4_1 (.r 4 b4_2 (.r 6 b4_3 (.r 4 b4_4 (.r 7 b4_5 (.r 35 rF (.c rT .n))))))) ?_
      refine kRt ?_
      have h_ := some_inj h
      subst h_
      exact kFr
    ·refine kRs 0 [Tm 2 (bv false)] (rp 14 (.b true) (rp 46 (.b false) [])) (.r 4 b4_1 (.r 4 b4_2 (.r 6 b4_3 (.r 4 b4_4 (.r 42 rF (.c rT .n)))))) ?_
     refine kRt ?_
     have h_ := some_inj h
     subst h_
     exact kFr
   ·refine kRs 0 [Tm 2 (bv false)] (rp 8 (.b true) (rp 52 (.b false) [])) (.r 4 b4_1 (.r 4 b4_2 (.r 6 b4_3 (.r 46 rF (.c rT .n))))) ?_
    refine kRt ?_
    have h_ := some_inj h
    subst h_
    exact kFr
  ·refine kRs 0 [Tm 2 (bv false)] (rp 4 (.b true) (rp 56 (.b false) [])) (.r 4 b4_1 (.r 4 b4_2 (.r 52 rF (.c rT .n)))) ?_
   refine kRt ?_
   have h_ := some_inj h
   subst h_
   exact kFr
 ·refine kRs 0 [Tm 2 (bv false)] (rp 60 (.b false) []) (.r 4 b4_1 (.r 56 rF (.c rT .n))) ?_
  refine kRt ?_
  have h_ := some_inj h
  subst h_
  exact kFr
def bd53 : Code := (Try.f53.body).getD .skip
def num_Put.O : Nat → Nat := fun t => bif ([0, 2, 13, 18] : List Nat).any (Nat.beq t) then 1 else 0
def num_Put.lp5 (fu : Nat) : Nat → Int → (List Int) → Option (Int × List Int)
  | 0, _, _ => none
  | n_ + 1, l5_0, l5_1 =>
  br (decide (l5_0 > 127))
   (gd (decide (l5_1.length + ([(vor .u8 (w8 l5_0) 128)] : List Int).length ≤ 4294967296)) <|
   num_Put.lp5 fu n_ (vshr .i64 l5_0 7) (l5_1 ++ ([(vor .u8 (w8 l5_0) 128)] : List Int)))
   (some (l5_0, l5_1))
def num_Put.lp5_post (r_ : (Int × List Int)) : Wy → St → Prop := fun e τ => match r_ with
  | (y0, y1) => e = .exit 0 ∧ τ = ofL [Tm 0 (iv y0), Tm 2 (sO 1 e_u8 y1)]
theorem num_Put.lp5_ok (fu : Nat) : ∀ (n_ : Nat) (l5_0 : Int) (l5_1 : List Int) (r_ : (Int × List Int)), num_Put.lp5 fu n_ l5_0 l5_1 = some r_ → WK Try.prog num_Put.O (Ck Try.prog) (cB (cL (cR (cR bd53)))) [] (ofL [Tm 0 (iv l5_0), Tm 2 (sO 1 e_u8 l5_1)]) (num_Put.lp5_post r_) := by
 intro n_
 induction n_ with
 | zero => intro l5_0 l5_1 r_ h; exact no_none h
 | succ n_ ih =>
  intro l5_0 l5_1 r_ h
  refine kLp ?_
  refine kSq ?_
  refine kRs 3 [Tm 6 (bv (decide (l5_0 > 127)))] [] .n ?_
  rcases br_inv h with ⟨b7_0, h⟩ | ⟨b7_0, h⟩
  ·refine kCt b7_0 ?_
   refine kSk ?_
   refine kCd (cR (cB (cB (cL (cR (cR bd53)))))) [.lp (cB (cL (cR (cR bd53))))] ?_
   refine kSq ?_
   refine kBk 1 ?_
   obtain ⟨c8_1, h⟩ := gd_inv h
   refine kRc 2 [Tm 2 (sO 1 e_u8 (l5_1 ++ ([(vor .u8 (w8 l5_0) 128)] : List Int)))] [.s (.t 14) [sO 1 e_u8 (l5_1 ++ ([(vor .u8 (w8 l5_0) 128)] : List Int))]] (.c (c_al (e := e_u8) (f := e_u8) c8_1) (.c (congrArg (fun d : DV => [AV.data d]) (c_app (e := e_u8) (s := 1) (l := l5_1) (m := ([(vor .u8 (w8 l5_0) 128)] : List Int)))) .n)) (cR (cR (cB (cB (cL (cR (cR bd53))))))) [.lp (cB (cL (cR (cR bd53))))] ?_
   refine kRc 1 [Tm 0 (iv (vshr .i64 l5_0 7))] [] (.c rT .n) (cB (cL (cR (cR bd53)))) [] ?_
   exact kWk (ih (vshr .i64 l5_0 7) (l5_1 ++ ([(vor .u8 (w8 l5_0) 128)] : List Int)) _ h)
  ·refine kCe b7_0 ?_
   cases some_inj h
   refine kWo ?_
   refine kXt 0 ?_
   exact kOut
def num_Put (fu : Nat) (v : Int) : Option (List Int) :=
 br (decide (v < 0))
  (some [])
  (bd (num_Put.lp5 fu fu v []) fun (y10_0, y10_1) =>
  gd (decide (y10_1.length + ([(w8 y10_0)] : List Int).length ≤ 4294967296)) <|
  some (y10_1 ++ ([(w8 y10_0)] : List Int)))
theorem num_Put.meets (fu : Nat) (v : Int) (z0 : List Int) (h : num_Put fu v = some z0) : Meets Try.prog ⟨53, [iv v], []⟩ ⟨sO 1 e_u8 z0, []⟩ := by
 refine kMt hmix num_Put.O Try.f53 bd53 1 ?_
 unfold num_Put at h
 refine kRs 1 [Tm 2 (.data (.slc true (some true) 1 (List.map e_u8 [])))] [] .n ?_
 refine kSq ?_
 refine kRs 3 [Tm 4 (bv (decide (v < 0)))] [] .n ?_
 rcases br_inv h with ⟨b3_0, h⟩ | ⟨b3_0, h⟩
 ·refine kCt b3_0 ?_
  refine kRs 2 [] [] .n ?_
  refine kWd 0 [Tm 2 (.data (.slc true none 1 (List.map e_u8 [])))] ?_
  refine kRt ?_
  have h_ := some_inj h
  subst h_
  exact kFr
 ·refine kCe b3_0 ?_
  refine kSk ?_
  refine kCd (cR (cR bd53)) [] ?_
  refine kSq ?_
  refine kBk 0 ?_
  obtain ⟨o10, ho10, h⟩ := bd_inv h
  refine kUs (num_Put.lp5_ok fu _ v [] _ ho10) ?_
  intro e_ τ_ hp_
  obtain ⟨y10_0, y10_1⟩ := o10
  obtain ⟨rfl, rfl⟩ := hp_
  refine kCd (cR (cR (cR bd53))) [] ?_
  obtain ⟨c11_1, h⟩ := gd_inv h
  refine kRs 0 [Tm 2 (sO 1 e_u8 (y10_1 ++ ([(w8 y10_0)] : List Int)))] [.s (.t 19) [sO 1 e_u8 (y10_1 ++ ([(w8 y10_0)] : List Int))]] (.c (c_al (e := e_u8) (f := e_u8) c11_1) (.c (congrArg (fun d : DV => [AV.data d]) (c_app (e := e_u8) (s := 1) (l := y10_1) (m := ([(w8 y10_0)] : List Int)))) .n)) ?_
  refine kRt ?_
  have h_ := some_inj h
  subst h_
  exact kFr
def bd30 : Code := (Try.f30.body).getD .skip
def save_writer_num.O : Nat → Nat := fun t => bif ([5, 19] : List Nat).any (Nat.beq t) then 1 else 0
def save_writer_num.lp2 (fu : Nat) (l2_0 : List Int) (l2_1 : Int) : Nat → Int → TWriter → Option TWriter
  | 0, _, _ => none
  | n_ + 1, l2_2, l2_3 =>
  br (decide (l2_2 < l2_1))
   (ix l2_0 l2_2 fun x5_1 =>
   bd (num_Put fu x5_1) fun r6_1 =>
   gd (decide (l2_3.b.length + r6_1.length ≤ 4294967296)) <|
   save_writer_num.lp2 fu l2_0 l2_1 n_ (w64 (l2_2 + 1)) (TWriter.mk (l2_3.b ++ r6_1)))
   (some l2_3)
def save_writer_num.lp2_post (l2_0 : List Int) (l2_1 : Int) (r_ : TWriter) : Wy → St → Prop := fun e τ => match r_ with
  | y0 => e = .exit 0 ∧ τ = ofL [Ob 1000 [sO 1 e_u8 y0.b]]
theorem save_writer_num.lp2_ok (fu : Nat) (l2_0 : List Int) (l2_1 : Int) : ∀ (n_ : Nat) (l2_2 : Int) (l2_3 : TWriter) (r_ : TWriter), save_writer_num.lp2 fu l2_0 l2_1 n_ l2_2 l2_3 = some r_ → WK Try.prog save_writer_num.O (Ck Try.prog) (cB (cR bd30)) [] (ofL [Tm 0 (.ptr 1000 0), Tm 6 (sS 1 e_i64 l2_0), Tm 7 (iv l2_1), Tm 8 (iv l2_2), Ob 1000 [sO 1 e_u8 l2_3.b]]) (save_writer_num.lp2_post l2_0 l2_1 r_) := by
 intro n_
 induction n_ with
 | zero => intro l2_2 l2_3 r_ h; exact no_none h
 | succ n_ ih =>
  intro l2_2 l2_3 r_ h
  refine kLp ?_
  refine kRs 31 [Tm 9 (bv (decide (l2_2 < l2_1)))] [] .n ?_
  refine kSq ?_
  rcases br_inv h with ⟨b4_0, h⟩ | ⟨b4_0, h⟩
  ·refine kCt b4_0 ?_
   refine kSk ?_
   refine kCd (cR (cR (cB (cB (cR bd30))))) [.lp (cB (cR bd30))] ?_
   refine kSq ?_
   refine kBk 1 ?_
   obtain ⟨x5_1, a5_2, e5_3, h⟩ := ix_inv h
   refine kRs 62 [Tm 5 (iv x5_1)] [.c (e_i64 x5_1)] (.c (c_ix (e := e_i64) a5_2 e5_3) (.c (c_el (e := e_i64) e5_3) .n)) ?_
   obtain ⟨r6_1, h6_2, h⟩ := bd_inv h
   obtain ⟨c6_3, h⟩ := gd_inv h
   refine kRc 30 [Ob 1000 [sO 1 e_u8 (l2_3.b ++ r6_1)]] [.a ⟨sO 1 e_u8 r6_1, []⟩, .s (.t 19) [sO 1 e_u8 (l2_3.b ++ r6_1)]] (.c (Asks.of (C := Meets Try.prog) (num_Put.meets fu x5_1 _ h6_2)) (.c (c_al (e := e_u8) (f := e_u8) c6_3) (.c (congrArg (fun d : DV => [AV.data d]) (c_app (e := e_u8) (s := 1) (l := l2_3.b) (m := r6_1))) (.c rT .n)))) (cR (cR (cR (cB (cB (cR bd30)))))) [.lp (cB (cR bd30))] ?_
   refine kRc 15 [Tm 8 (iv (w64 (l2_2 + 1)))] [] .n (cB (cR bd30)) [] ?_
   exact kWk (ih (w64 (l2_2 + 1)) (TWriter.mk (l2_3.b ++ r6_1)) _ h)
  ·refine kCe b4_0 ?_
   cases some_inj h
   refine kWo ?_
   refine kXt 0 ?_
   exact kOut
def save_writer_num (fu : Nat) (l : List Int) (o0_v : TWriter) : Option TWriter :=
 bd (save_writer_num.lp2 fu l (l.length : Int) fu 0 o0_v) fun y8_0 =>
 some y8_0
theorem save_writer_num.meets (fu : Nat) (l : List Int) (o0_v : TWriter) (z0 : TWriter) (h : save_writer_num fu l o0_v = some z0) : Meets Try.prog ⟨30, [.ptr 1000 0, sS 1 e_i64 l], [[sO 1 e_u8 o0_v.b]]⟩ ⟨.tup [], [[sO 1 e_u8 z0.b]]⟩ := by
 refine kMt hmix save_writer_num.O Try.f30 bd30 7 ?_
 unfold save_writer_num at h
 refine kRs 5 [Tm 6 (sS 1 e_i64 l), Tm 7 (iv (l.length : Int)), Tm 8 (iv 0)] [.s (.t 7) [iv (l.length : Int)]] (.c (c_len (e := e_i64) (l := l)) .n) ?_
 refine kBk 0 ?_
 obtain ⟨o8, ho8, h⟩ := bd_inv h
 refine kUs (save_writer_num.lp2_ok fu l (l.length : Int) _ 0 o0_v _ ho8) ?_
 intro e_ τ_ hp_
 obtain ⟨y8_0, rfl⟩ : ∃ y, y = o8 := ⟨_, rfl⟩
 obtain ⟨rfl, rfl⟩ := hp_
 have h_ := some_inj h
 subst h_
 exact kFn
def bd54 : Code := (Try.f54.body).getD .skip
def num_PutText.O : Nat → Nat := fun t => bif ([2] : List Nat).any (Nat.beq t) then 1 else 0
def num_PutText (fu : Nat) (s : ByteArray) : Option (List Int) :=
 br (decide ((s.size : Int) > 255))
  (some [])
  (bd (num_Put fu (s.size : Int)) fun r5_1 =>
  gd (decide (r5_1.length + s.size ≤ 4294967296)) <|
  some (r5_1 ++ (bytesL s)))
theorem num_PutText.meets (fu : Nat) (s : ByteArray) (z0 : List Int) (h : num_PutText fu s = some z0) : Meets Try.prog ⟨54, [sv s], []⟩ ⟨sO 1 e_u8 z0, []⟩ := by
 refine kMt hmix num_PutText.O Try.f54 bd54 1 ?_
 unfold num_PutText at h
 refine kRs 1 [] [] .n ?_
 refine kSq ?_
 refine kRs 1 [Tm 5 (bv (decide ((s.size : Int) > 255)))] [] .n ?_
 rcases br_inv h with ⟨b3_0, h⟩ | ⟨b3_0, h⟩
 ·refine kCt b3_0 ?_
  refine kRs 0 [Tm 2 (.data (.slc true (some true) 1 (List.map e_u8 [])))] [] .n ?_
  refine kWd 0 [Tm 2 (.data (.slc true none 1 (List.map e_u8 [])))] ?_
  refine kRt ?_
  have h_ := some_inj h
  subst h_
  exact kFr
 ·refine kCe b3_0 ?_
  refine kSk ?_
  refine kCd (cR (cR bd54)) [] ?_
  obtain ⟨r5_1, h5_2, h⟩ := bd_inv h
  obtain ⟨c5_3, h⟩ := gd_inv h
  refine kRs 0 [Tm 2 (sO 1 e_u8 (r5_1 ++ (bytesL s)))] [.a ⟨sO 1 e_u8 r5_1, []⟩, .s (.t 10) [sO 1 e_u8 (r5_1 ++ (bytesL s))]] (.c (Asks.of (C := Meets Try.prog) (num_Put.meets fu (s.size : Int) _ h5_2)) (.c (c_als (e := e_u8) c5_3) (.c (congrArg (fun d : DV => [AV.data d]) (c_apps (l := r5_1) (u := s))) .n))) ?_
  refine kRt ?_
  have h_ := some_inj h
  subst h_
  exact kFr
def bd31 : Code := (Try.f31.body).getD .skip
def save_writer_text.O : Nat → Nat := fun t => bif ([11] : List Nat).any (Nat.beq t) then 1 else 0
def save_writer_text (fu : Nat) (s : ByteArray) (o0_v : TWriter) : Option TWriter :=
 bd (num_PutText fu s) fun r1_1 =>
 gd (decide (o0_v.b.length + r1_1.length ≤ 4294967296)) <|
 some (TWriter.mk (o0_v.b ++ r1_1))
theorem save_writer_text.meets (fu : Nat) (s : ByteArray) (o0_v : TWriter) (z0 : TWriter) (h : save_writer_text fu s o0_v = some z0) : Meets Try.prog ⟨31, [.ptr 1000 0, sv s], [[sO 1 e_u8 o0_v.b]]⟩ ⟨.tup [], [[sO 1 e_u8 z0.b]]⟩ := by
 refine kMt hmix save_writer_text.O Try.f31 bd31 7 ?_
 unfold save_writer_text at h
 obtain ⟨r1_1, h1_2, h⟩ := bd_inv h
 obtain ⟨c1_3, h⟩ := gd_inv h
 have h_ := some_inj h
 subst h_
 exact kRf [.a ⟨sO 1 e_u8 r1_1, []⟩, .s (.t 11) [sO 1 e_u8 (o0_v.b ++ r1_1)]] (.c (Asks.of (C := Meets Try.prog) (num_PutText.meets fu s _ h1_2)) (.c (c_al (e := e_u8) (f := e_u8) c1_3) (.c (congrArg (fun d : DV => [AV.data d]) (c_app (e := e_u8) (s := 1) (l := o0_v.b) (m := r1_1))) (.c rT .n))))
def bd32 : Code := (Try.f32.body).getD .skip
def save_writer_version.O : Nat → Nat := fun t => bif ([3, 4, 11] : List Nat).any (Nat.beq t) then 1 else 0
def save_writer_version (fu : Nat) (v : TVersion) (o0_v : TWriter) : Option TWriter :=
 jn (fun (j6_0 : Int) =>
  bd (save_writer_num fu ([v.Pos, j6_0] : List Int) o0_v) fun r7_1 =>
  bd (save_writer_text fu v.Val r7_1) fun r8_1 =>
  some r8_1) fun k6 =>
 br v.Gone
  (k6 1)
  (k6 0)
theorem save_writer_version.meets (fu : Nat) (v : TVersion) (o0_v : TWriter) (z0 : TWriter) (h : save_writer_version fu v o0_v = some z0) : Meets Try.prog ⟨32, [.ptr 1000 0, .data (TVersion.ag v)], [[sO 1 e_u8 o0_v.b]]⟩ ⟨.tup [], [[sO 1 e_u8 z0.b]]⟩ := by
 refine kMt hmix save_writer_version.O Try.f32 bd32 7 ?_
 unfold save_writer_version at h
 refine kRs 5 [Tm 3 (.ptr 3 0), Ob 3 (TVersion.ob v)] [] .n ?_
 refine kRs 15 [Tm 4 (iv 0)] [] .n ?_
 obtain ⟨k6, hk6, h⟩ := jn_inv h
 have Jk6 : ∀ (j6_0 : Int), k6 j6_0 = some z0 → WK Try.prog save_writer_version.O (Ck Try.prog) (cR (cR (cR bd32))) [] (ofL [Tm 0 (.ptr 1000 0), Tm 3 (.ptr 3 0), Tm 4 (iv j6_0), Ob 3 (TVersion.ob v), Ob 1000 [sO 1 e_u8 o0_v.b]]) (Fin Try.prog save_writer_version.O Try.f32 1 ⟨.tup [], [[sO 1 e_u8 z0.b]]⟩) := by
  intro j6_0 h
  rw [hk6] at h
  obtain ⟨r7_1, h7_2, h⟩ := bd_inv h
  refine kRs 11 [Ob 1000 [sO 1 e_u8 r7_1.b]] [.a ⟨.tup [], [[sO 1 e_u8 r7_1.b]]⟩] (.c (Asks.fg (args1 := [.ptr 1000 0]) (args2 := []) (nl := some false) (sz := 1) (es := List.map e_i64 ([v.Pos, j6_0] : List Int)) (Asks.of (C := Meets Try.prog) (save_writer_num.meets fu ([v.Pos, j6_0] : List Int) o0_v _ h7_2))) .n) ?_
  obtain ⟨r8_1, h8_2, h⟩ := bd_inv h
  have h_ := some_inj h
  subst h_
  exact kRf [.a ⟨.tup [], [[sO 1 e_u8 r8_1.b]]⟩] (.c (Asks.of (C := Meets Try.prog) (save_writer_text.meets fu v.Val r7_1 _ h8_2)) .n)
 clear hk6
 refine kSq ?_
 refine kRs 31 [Tm 6 (bv v.Gone)] [] .n ?_
 rcases br_inv h with ⟨b4_0, h⟩ | ⟨b4_0, h⟩
 ·refine kCt b4_0 ?_
  refine kRc 60 [Tm 4 (iv 1)] [] .n (cR (cR (cR bd32))) [] ?_
  exact kWk (Jk6 1 h)
 ·refine kCe b4_0 ?_
  refine kSk ?_
  refine kCd (cR (cR (cR bd32))) [] ?_
  exact kWk (Jk6 0 h)
def bd12 : Code := (Try.f12.body).getD .skip
def save_Put.O : Nat → Nat := fun t => bif ([1, 2, 3, 5, 7, 9, 13, 14, 29, 47, 65, 81] : List Nat).any (Nat.beq t) then 1 else 0
def save_Put.lp15 (fu : Nat) (l15_0 : List TChain) (l15_1 : Int) (l15_2 : Int) (l15_3 : List TVersion) (l15_4 : Int) (l15_6 : TShard) : Nat → Int → TWriter → Option TWriter
  | 0, _, _ => none
  | n_ + 1, l15_5, l15_7 =>
  br (decide (l15_5 < l15_4))
   (ix l15_3 l15_5 fun x18_1 =>
   bd (save_writer_version fu x18_1 l15_7) fun r19_1 =>
   save_Put.lp15 fu l15_0 l15_1 l15_2 l15_3 l15_4 l15_6 n_ (w64 (l15_5 + 1)) r19_1)
   (some l15_7)
def save_Put.lp15_post (l15_0 : List TChain) (l15_1 : Int) (l15_2 : Int) (l15_3 : List TVersion) (l15_4 : Int) (l15_6 : TShard) (r_ : TWriter) : Wy → St → Prop := fun e τ => match r_ with
  | y0 => e = .exit 2 ∧ τ = ofL [Tm 1 (.ptr 1 0), Tm 3 (.ptr 14 0), Tm 33 (sS 2 TChain.en l15_0), Tm 34 (iv l15_1), Tm 35 (iv l15_2), Ob 1 (TShard.ob l15_6), Ob 14 [sO 1 e_u8 y0.b]]
theorem save_Put.lp15_ok (fu : Nat) (l15_0 : List TChain) (l15_1 : Int) (l15_2 : Int) (l15_3 : List TVersion) (l15_4 : Int) (l15_6 : TShard) : ∀ (n_ : Nat) (l15_5 : Int) (l15_7 : TWriter) (r_ : TWriter), save_Put.lp15 fu l15_0 l15_1 l15_2 l15_3 l15_4 l15_6 n_ l15_5 l15_7 = some r_ → WK Try.prog save_Put.O (Ck Try.prog) (cB (cR (cR (cR (cR (cB (cL (cR (cR (cB (cB (cR (cL (cR (cR (cR (cR bd12))))))))))))))))) [] (ofL [Tm 1 (.ptr 1 0), Tm 3 (.ptr 14 0), Tm 33 (sS 2 TChain.en l15_0), Tm 34 (iv l15_1), Tm 35 (iv l15_2), Tm 50 (sS 3 TVersion.en l15_3), Tm 51 (iv l15_4), Tm 52 (iv l15_5), Ob 1 (TShard.ob l15_6), Ob 14 [sO 1 e_u8 l15_7.b]]) (save_Put.lp15_post l15_0 l15_1 l15_2 l15_3 l15_4 l15_6 r_) := by
 intro n_
 induction n_ with
 | zero => intro l15_5 l15_7 r_ h; exact no_none h
 | succ n_ ih =>
  intro l15_5 l15_7 r_ h
  refine kLp ?_
  refine kRs 1023 [Tm 53 (bv (decide (l15_5 < l15_4)))] [] .n ?_
  refine kSq ?_
  rcases br_inv h with ⟨b17_0, h⟩ | ⟨b17_0, h⟩
  ·refine kCt b17_0 ?_
   refine kSk ?_
   refine kCd (cR (cR (cB (cB (cR (cR (cR (cR (cB (cL (cR (cR (cB (cB (cR (cL (cR (cR (cR (cR bd12)))))))))))))))))))) [.lp (cB (cR (cR (cR (cR (cB (cL (cR (cR (cB (cB (cR (cL (cR (cR (cR (cR bd12)))))))))))))))))] ?_
   refine kSq ?_
   refine kBk 3 ?_
   obtain ⟨x18_1, a18_2, e18_3, h⟩ := ix_inv h
   refine kRs 2046 [Tm 7 (.ptr 7 0), Ob 7 (TVersion.ob x18_1)] [.c (TVersion.en x18_1)] (.c (c_ix (e := TVersion.en) a18_2 e18_3) (.c (c_el (e := TVersion.en) e18_3) .n)) ?_
   obtain ⟨r19_1, h19_2, h⟩ := bd_inv h
   refine kRc 2044 [Ob 14 [sO 1 e_u8 r19_1.b]] [.a ⟨.tup [], [[sO 1 e_u8 r19_1.b]]⟩] (.c (Asks.of (C := Meets Try.prog) (save_writer_version.meets fu x18_1 l15_7 _ h19_2)) .n) (cR (cR (cR (cB (cB (cR (cR (cR (cR (cB (cL (cR (cR (cB (cB (cR (cL (cR (cR (cR (cR bd12))))))))))))))))))))) [.lp (cB (cR (cR (cR (cR (cB (cL (cR (cR (cB (cB (cR (cL (cR (cR (cR (cR bd12)))))))))))))))))] ?_
   refine kRc 767 [Tm 52 (iv (w64 (l15_5 + 1)))] [] .n (cB (cR (cR (cR (cR (cB (cL (cR (cR (cB (cB (cR (cL (cR (cR (cR (cR bd12))))))))))))))))) [] ?_
   exact kWk (ih (w64 (l15_5 + 1)) r19_1 _ h)
  ·refine kCe b17_0 ?_
   cases some_inj h
   refine kWo ?_
   refine kXt 2 ?_
   exact kOut
def save_Put.lp8 (fu : Nat) (l8_0 : List TChain) (l8_1 : Int) (l8_3 : TShard) : Nat → Int → TWriter → Option TWriter
  | 0, _, _ => none
  | n_ + 1, l8_2, l8_4 =>
  br (decide (l8_2 < l8_1))
   (ix l8_0 l8_2 fun x11_1 =>
   bd (save_writer_text fu x11_1.Key l8_4) fun r12_1 =>
   bd (save_writer_num fu ([(x11_1.L.length : Int)] : List Int) r12_1) fun r13_1 =>
   bd (save_Put.lp15 fu l8_0 l8_1 l8_2 x11_1.L (x11_1.L.length : Int) l8_3 fu 0 r13_1) fun y21_0 =>
   save_Put.lp8 fu l8_0 l8_1 l8_3 n_ (w64 (l8_2 + 1)) y21_0)
   (some l8_4)
def save_Put.lp8_post (l8_0 : List TChain) (l8_1 : Int) (l8_3 : TShard) (r_ : TWriter) : Wy → St → Prop := fun e τ => match r_ with
  | y0 => e = .exit 0 ∧ τ = ofL [Tm 1 (.ptr 1 0), Tm 3 (.ptr 14 0), Ob 1 (TShard.ob l8_3), Ob 14 [sO 1 e_u8 y0.b]]
theorem save_Put.lp8_ok (fu : Nat) (l8_0 : List TChain) (l8_1 : Int) (l8_3 : TShard) : ∀ (n_ : Nat) (l8_2 : Int) (l8_4 : TWriter) (r_ : TWriter), save_Put.lp8 fu l8_0 l8_1 l8_3 n_ l8_2 l8_4 = some r_ → WK Try.prog save_Put.O (Ck Try.prog) (cB (cR (cL (cR (cR (cR (cR bd12))))))) [] (ofL [Tm 1 (.ptr 1 0), Tm 3 (.ptr 14 0), Tm 33 (sS 2 TChain.en l8_0), Tm 34 (iv l8_1), Tm 35 (iv l8_2), Ob 1 (TShard.ob l8_3), Ob 14 [sO 1 e_u8 l8_4.b]]) (save_Put.lp8_post l8_0 l8_1 l8_3 r_) := by
 intro n_
 induction n_ with
 | zero => intro l8_2 l8_4 r_ h; exact no_none h
 | succ n_ ih =>
  intro l8_2 l8_4 r_ h
  refine kLp ?_
  refine kRs 127 [Tm 36 (bv (decide (l8_2 < l8_1)))] [] .n ?_
  refine kSq ?_
  rcases br_inv h with ⟨b10_0, h⟩ | ⟨b10_0, h⟩
  ·refine kCt b10_0 ?_
   refine kSk ?_
   refine kCd (cR (cR (cB (cB (cR (cL (cR (cR (cR (cR bd12)))))))))) [.lp (cB (cR (cL (cR (cR (cR (cR bd12)))))))] ?_
   refine kSq ?_
   refine kBk 1 ?_
   obtain ⟨x11_1, a11_2, e11_3, h⟩ := ix_inv h
   refine kRs 254 [Tm 5 (.ptr 5 0), Ob 5 [sv x11_1.Key, sS 3 TVersion.en x11_1.L]] [.c (TChain.en x11_1)] (.c (c_ix (e := TChain.en) a11_2 e11_3) (.c (c_el (e := TChain.en) e11_3) .n)) ?_
   obtain ⟨r12_1, h12_2, h⟩ := bd_inv h
   refine kRs 255 [Ob 14 [sO 1 e_u8 r12_1.b]] [.a ⟨.tup [], [[sO 1 e_u8 r12_1.b]]⟩] (.c (Asks.of (C := Meets Try.prog) (save_writer_text.meets fu x11_1.Key l8_4 _ h12_2)) .n) ?_
   obtain ⟨r13_1, h13_2, h⟩ := bd_inv h
   refine kRs 510 [Ob 14 [sO 1 e_u8 r13_1.b]] [.s (.t 46) [iv (x11_1.L.length : Int)], .a ⟨.tup [], [[sO 1 e_u8 r13_1.b]]⟩] (.c (c_len (e := TVersion.en) (l := x11_1.L)) (.c (Asks.fg (args1 := [.ptr 1000 0]) (args2 := []) (nl := some false) (sz := 1) (es := List.map e_i64 ([(x11_1.L.length : Int)] : List Int)) (Asks.of (C := Meets Try.prog) (save_writer_num.meets fu ([(x11_1.L.length : Int)] : List Int) r12_1 _ h13_2))) .n)) ?_
   refine kRs 505 [Tm 50 (sS 3 TVersion.en x11_1.L), Tm 51 (iv (x11_1.L.length : Int)), Tm 52 (iv 0)] [.s (.t 51) [iv (x11_1.L.length : Int)]] (.c (c_len (e := TVersion.en) (l := x11_1.L)) .n) ?_
   refine kBk 2 ?_
   obtain ⟨o21, ho21, h⟩ := bd_inv h
   refine kUs (save_Put.lp15_ok fu l8_0 l8_1 l8_2 x11_1.L (x11_1.L.length : Int) l8_3 _ 0 r13_1 _ ho21) ?_
   intro e_ τ_ hp_
   obtain ⟨y21_0, rfl⟩ : ∃ y, y = o21 := ⟨_, rfl⟩
   obtain ⟨rfl, rfl⟩ := hp_
   refine kCd (cR (cR (cR (cB (cB (cR (cL (cR (cR (cR (cR bd12))))))))))) [.lp (cB (cR (cL (cR (cR (cR (cR bd12)))))))] ?_
   refine kRc 111 [Tm 35 (iv (w64 (l8_2 + 1)))] [] .n (cB (cR (cL (cR (cR (cR (cR bd12))))))) [] ?_
   exact kWk (ih (w64 (l8_2 + 1)) y21_0 _ h)
  ·refine kCe b10_0 ?_
   cases some_inj h
   refine kWo ?_
   refine kXt 0 ?_
   exact kOut
def save_Put.lp26 (fu : Nat) (l26_0 : List TSeat) (l26_1 : Int) (l26_3 : TShard) : Nat → Int → TWriter → Option TWriter
  | 0, _, _ => none
  | n_ + 1, l26_2, l26_4 =>
  br (decide (l26_2 < l26_1))
   (ix l26_0 l26_2 fun x29_1 =>
   bd (save_writer_num fu ([x29_1.Session, x29_1.Seq, x29_1.Pos] : List Int) l26_4) fun r30_1 =>
   save_Put.lp26 fu l26_0 l26_1 l26_3 n_ (w64 (l26_2 + 1)) r30_1)
   (some l26_4)
def save_Put.lp26_post (l26_0 : List TSeat) (l26_1 : Int) (l26_3 : TShard) (r_ : TWriter) : Wy → St → Prop := fun e τ => match r_ with
  | y0 => e = .exit 4 ∧ τ = ofL [Tm 1 (.ptr 1 0), Tm 3 (.ptr 14 0), Ob 1 (TShard.ob l26_3), Ob 14 [sO 1 e_u8 y0.b]]
theorem save_Put.lp26_ok (fu : Nat) (l26_0 : List TSeat) (l26_1 : Int) (l26_3 : TShard) : ∀ (n_ : Nat) (l26_2 : Int) (l26_4 : TWriter) (r_ : TWriter), save_Put.lp26 fu l26_0 l26_1 l26_3 n_ l26_2 l26_4 = some r_ → WK Try.prog save_Put.O (Ck Try.prog) (cB (cR (cL (cR (cR (cR (cR (cR (cR bd12))))))))) [] (ofL [Tm 1 (.ptr 1 0), Tm 3 (.ptr 14 0), Tm 68 (sS 3 TSeat.en l26_0), Tm 69 (iv l26_1), Tm 70 (iv l26_2), Ob 1 (TShard.ob l26_3), Ob 14 [sO 1 e_u8 l26_4.b]]) (save_Put.lp26_post l26_0 l26_1 l26_3 r_) := by
 intro n_
 induction n_ with
 | zero => intro l26_2 l26_4 r_ h; exact no_none h
 | succ n_ ih =>
  intro l26_2 l26_4 r_ h
  refine kLp ?_
  refine kRs 127 [Tm 71 (bv (decide (l26_2 < l26_1)))] [] .n ?_
  refine kSq ?_
  rcases br_inv h with ⟨b28_0, h⟩ | ⟨b28_0, h⟩
  ·refine kCt b28_0 ?_
   refine kSk ?_
   refine kCd (cR (cR (cB (cB (cR (cL (cR (cR (cR (cR (cR (cR bd12)))))))))))) [.lp (cB (cR (cL (cR (cR (cR (cR (cR (cR bd12)))))))))] ?_
   refine kSq ?_
   refine kBk 5 ?_
   obtain ⟨x29_1, a29_2, e29_3, h⟩ := ix_inv h
   refine kRs 254 [Tm 9 (.ptr 9 0), Ob 9 (TSeat.ob x29_1)] [.c (TSeat.en x29_1)] (.c (c_ix (e := TSeat.en) a29_2 e29_3) (.c (c_el (e := TSeat.en) e29_3) .n)) ?_
   obtain ⟨r30_1, h30_2, h⟩ := bd_inv h
   refine kRc 252 [Ob 14 [sO 1 e_u8 r30_1.b]] [.a ⟨.tup [], [[sO 1 e_u8 r30_1.b]]⟩] (.c (Asks.fg (args1 := [.ptr 1000 0]) (args2 := []) (nl := some false) (sz := 1) (es := List.map e_i64 ([x29_1.Session, x29_1.Seq, x29_1.Pos] : List Int)) (Asks.of (C := Meets Try.prog) (save_writer_num.meets fu ([x29_1.Session, x29_1.Seq, x29_1.Pos] : List Int) l26_4 _ h30_2))) .n) (cR (cR (cR (cB (cB (cR (cL (cR (cR (cR (cR (cR (cR bd12))))))))))))) [.lp (cB (cR (cL (cR (cR (cR (cR (cR (cR bd12)))))))))] ?_
   refine kRc 95 [Tm 70 (iv (w64 (l26_2 + 1)))] [] .n (cB (cR (cL (cR (cR (cR (cR (cR (cR bd12))))))))) [] ?_
   exact kWk (ih (w64 (l26_2 + 1)) r30_1 _ h)
  ·refine kCe b28_0 ?_
   cases some_inj h
   refine kWo ?_
   refine kXt 4 ?_
   exact kOut
def save_Put (fu : Nat) (s : TShard) : Option (List Int) :=
 bd (shard_May fu s) fun r2_1 =>
 br (!r2_1)
  (some [])
  (bd (save_writer_num fu ([s.ID, s.Shards, s.Done, s.S.Mark, (s.S.Chains.length : Int)] : List Int) (TWriter.mk [])) fun r6_1 =>
  bd (save_Put.lp8 fu s.S.Chains (s.S.Chains.length : Int) s fu 0 r6_1) fun y23_0 =>
  bd (save_writer_num fu ([(s.Seats.length : Int)] : List Int) y23_0) fun r24_1 =>
  bd (save_Put.lp26 fu s.Seats (s.Seats.length : Int) s fu 0 r24_1) fun y32_0 =>
  bd (save_writer_num fu s.Bits y32_0) fun r33_1 =>
  bd (save_writer_num fu s.Said r33_1) fun r34_1 =>
  gd (!r34_1.b.isEmpty) <|
  some r34_1.b)
theorem save_Put.meets (fu : Nat) (s : TShard) (z0 : List Int) (h : save_Put fu s = some z0) : Meets Try.prog ⟨12, [.data (TShard.ag s)], []⟩ ⟨.data (.slc true (some z0.isEmpty) 1 (List.map e_u8 z0)), []⟩ := by
 refine kMt hmix save_Put.O Try.f12 bd12 1 ?_
 unfold save_Put at h
 refine kRs 0 [Tm 1 (.ptr 1 0), Ob 1 (TShard.ob s)] [] .n ?_
 refine kSq ?_
 obtain ⟨r2_1, h2_2, h⟩ := bd_inv h
 refine kRs 3 [Tm 12 (bv (!r2_1))] [.a ⟨bv r2_1, []⟩] (.c (Asks.of (C := Meets Try.prog) (shard_May.meets fu s _ h2_2)) .n) ?_
 rcases br_inv h with ⟨b3_0, h⟩ | ⟨b3_0, h⟩
 ·refine kCt b3_0 ?_
  refine kRs 0 [Tm 2 (.data (.slc true (some true) 1 (List.map e_u8 [])))] [] .n ?_
  refine kRt ?_
  have h_ := some_inj h
  subst h_
  exact kFr
 ·refine kCe b3_0 ?_
  refine kSk ?_
  refine kCd (cR (cR bd12)) [] ?_
  refine kRs 6 [Tm 3 (.ptr 14 0), Ob 14 [.data (.slc true none 1 (List.map e_u8 []))]] [] .n ?_
  obtain ⟨r6_1, h6_2, h⟩ := bd_inv h
  refine kRs 13 [Ob 14 [sO 1 e_u8 r6_1.b]] [.s (.t 28) [iv (s.S.Chains.length : Int)], .a ⟨.tup [], [[sO 1 e_u8 r6_1.b]]⟩] (.c (c_len (e := TChain.en) (l := s.S.Chains)) (.c (Asks.fg (args1 := [.ptr 1000 0]) (args2 := []) (nl := some false) (sz := 1) (es := List.map e_i64 ([s.ID, s.Shards, s.Done, s.S.Mark, (s.S.Chains.length : Int)] : List Int)) (Asks.of (C := Meets Try.prog) (save_writer_num.meets fu ([s.ID, s.Shards, s.Done, s.S.Mark, (s.S.Chains.length : Int)] : List Int) (TWriter.mk []) _ h6_2))) .n)) ?_
  refine kSq ?_
  refine kRs 15 [Tm 33 (sS 2 TChain.en s.S.Chains), Tm 34 (iv (s.S.Chains.length : Int)), Tm 35 (iv 0)] [.s (.t 34) [iv (s.S.Chains.length : Int)]] (.c (c_len (e := TChain.en) (l := s.S.Chains)) .n) ?_
  refine kBk 0 ?_
  obtain ⟨o23, ho23, h⟩ := bd_inv h
  refine kUs (save_Put.lp8_ok fu s.S.Chains (s.S.Chains.length : Int) s _ 0 r6_1 _ ho23) ?_
  intro e_ τ_ hp_
  obtain ⟨y23_0, rfl⟩ : ∃ y, y = o23 := ⟨_, rfl⟩
  obtain ⟨rfl, rfl⟩ := hp_
  refine kCd (cR (cR (cR (cR (cR bd12))))) [] ?_
  obtain ⟨r24_1, h24_2, h⟩ := bd_inv h
  refine kRs 7 [Ob 14 [sO 1 e_u8 r24_1.b]] [.s (.t 64) [iv (s.Seats.length : Int)], .a ⟨.tup [], [[sO 1 e_u8 r24_1.b]]⟩] (.c (c_len (e := TSeat.en) (l := s.Seats)) (.c (Asks.fg (args1 := [.ptr 1000 0]) (args2 := []) (nl := some false) (sz := 1) (es := List.map e_i64 ([(s.Seats.length : Int)] : List Int)) (Asks.of (C := Meets Try.prog) (save_writer_num.meets fu ([(s.Seats.length : Int)] : List Int) y23_0 _ h24_2))) .n)) ?_
  refine kSq ?_
  refine kRs 15 [Tm 68 (sS 3 TSeat.en s.Seats), Tm 69 (iv (s.Seats.length : Int)), Tm 70 (iv 0)] [.s (.t 69) [iv (s.Seats.length : Int)]] (.c (c_len (e := TSeat.en) (l := s.Seats)) .n) ?_
  refine kBk 4 ?_
  obtain ⟨o32, ho32, h⟩ := bd_inv h
  refine kUs (save_Put.lp26_ok fu s.Seats (s.Seats.length : Int) s _ 0 r24_1 _ ho32) ?_
  intro e_ τ_ hp_
  obtain ⟨y32_0, rfl⟩ : ∃ y, y = o32 := ⟨_, rfl⟩
  obtain ⟨rfl, rfl⟩ := hp_
  refine kCd (cR (cR (cR (cR (cR (cR (cR bd12))))))) [] ?_
  obtain ⟨r33_1, h33_2, h⟩ := bd_inv h
  refine kRs 7 [Ob 14 [sO 1 e_u8 r33_1.b]] [.a ⟨.tup [], [[sO 1 e_u8 r33_1.b]]⟩] (.c (Asks.of (C := Meets Try.prog) (save_writer_num.meets fu s.Bits y32_0 _ h33_2)) .n) ?_
  obtain ⟨r34_1, h34_2, h⟩ := bd_inv h
  refine kRs 4 [Ob 14 [sO 1 e_u8 r34_1.b]] [.a ⟨.tup [], [[sO 1 e_u8 r34_1.b]]⟩] (.c (Asks.of (C := Meets Try.prog) (save_writer_num.meets fu s.Said r33_1 _ h34_2)) .n) ?_
  refine kRs 0 [Tm 2 (sO 1 e_u8 r34_1.b)] [] .n ?_
  obtain ⟨c_nil1, h⟩ := gd_inv h
  refine WK.nilk (t := 2) (sz := 1) (own := true) (en := e_u8) (L := r34_1.b) (l' := [Tm 2 (.data (.slc true (some r34_1.b.isEmpty) 1 (List.map e_u8 r34_1.b)))]) (by kernel_rfl) c_nil1 (wk_of (by kernel_rfl)) ?_
  refine kRt ?_
  have h_ := some_inj h
  subst h_
  exact kFr
def bd63 : Code := (Try.f63.body).getD .skip
def num_result.O : Nat → Nat := fun t => bif ([6, 7, 8] : List Nat).any (Nat.beq t) then 1 else 0
def num_result (v : Int) (n_v : Int) (ok : Bool) : Option (Int × Int × Bool) :=
 br (!ok)
  (some (0, 0, false))
  (some (v, n_v, true))
theorem num_result.meets (v : Int) (n_v : Int) (ok : Bool) (z0 : Int) (z1 : Int) (z2 : Bool) (h : num_result v n_v ok = some (z0, z1, z2)) : Meets Try.prog ⟨63, [iv v, iv n_v, bv ok], []⟩ ⟨.tup [iv z0, iv z1, bv z2], []⟩ := by
 refine kMt hmix num_result.O Try.f63 bd63 7 ?_
 unfold num_result at h
 refine kRs 7 [] [] .n ?_
 refine kSq ?_
 refine kRs 3 [Tm 10 (bv (!ok))] [] .n ?_
 rcases br_inv h with ⟨b3_0, h⟩ | ⟨b3_0, h⟩
 ·refine kCt b3_0 ?_
  refine kRs 0 [Tm 6 (iv 0), Tm 7 (iv 0), Tm 8 (bv false)] [] .n ?_
  refine kRt ?_
  have h_0 := some_inj h
  obtain ⟨g_1, h_1⟩ := Prod.mk.inj h_0
  obtain ⟨g_2, h_2⟩ := Prod.mk.inj h_1
  subst g_1
  subst g_2
  subst h_2
  exact kFr
 ·refine kCe b3_0 ?_
  refine kSk ?_
  refine kCd (cR (cR bd63)) [] ?_
  refine kRs 0 [Tm 6 (iv v), Tm 7 (iv n_v), Tm 8 (bv true)] [] .n ?_
  refine kRt ?_
  have h_0 := some_inj h
  obtain ⟨g_1, h_1⟩ := Prod.mk.inj h_0
  obtain ⟨g_2, h_2⟩ := Prod.mk.inj h_1
  subst g_1
  subst g_2
  subst h_2
  exact kFr
def bd37 : Code := (Try.f37.body).getD .skip
def num_Take.O : Nat → Nat := fun t => bif ([2, 3, 4, 5, 6, 11] : List Nat).any (Nat.beq t) then 1 else 0
def num_Take.lp3 (fu : Nat) (l3_1 : List Int) (l3_2 : Int) : Nat → Int → Int → Option (Unit ⊕ (Int × Int × Bool))
  | 0, _, _ => none
  | n_ + 1, l3_0, l3_3 =>
  br (decide (l3_3 < l3_2))
   (ix l3_1 l3_3 fun x6_1 =>
   gd (decide ((0 : Int) ≤ (w64 (7 * l3_3)))) <|
   br ((vand .u8 x6_1 128) == 0)
    (br (l3_3 == 0)
     (bd (num_result (vor .i64 l3_0 (vshl .i64 (w64 (vand .u8 x6_1 127)) (w64 (7 * l3_3)))) (w64 (l3_3 + 1)) true) fun (r10_2, r10_3, r10_4) =>
     some (.inr (r10_2, r10_3, r10_4)))
     (bd (num_result (vor .i64 l3_0 (vshl .i64 (w64 (vand .u8 x6_1 127)) (w64 (7 * l3_3)))) (w64 (l3_3 + 1)) (decide (x6_1 > 0))) fun (r10_2, r10_3, r10_4) =>
     some (.inr (r10_2, r10_3, r10_4))))
    (num_Take.lp3 fu l3_1 l3_2 n_ (vor .i64 l3_0 (vshl .i64 (w64 (vand .u8 x6_1 127)) (w64 (7 * l3_3)))) (w64 (l3_3 + 1))))
   (some (.inl ()))
def num_Take.lp3_post (l3_1 : List Int) (l3_2 : Int) (r_ : (Unit ⊕ (Int × Int × Bool))) : Wy → St → Prop := fun e τ => match r_ with
  | .inl _ => e = .exit 0 ∧ τ = ofL []
  | .inr (y0, y1, y2) => e = .ret ∧ τ = ofL [Tm 2 (iv y0), Tm 3 (iv y1), Tm 4 (bv y2)]
theorem num_Take.lp3_ok (fu : Nat) (l3_1 : List Int) (l3_2 : Int) : ∀ (n_ : Nat) (l3_0 : Int) (l3_3 : Int) (r_ : (Unit ⊕ (Int × Int × Bool))), num_Take.lp3 fu l3_1 l3_2 n_ l3_0 l3_3 = some r_ → WK Try.prog num_Take.O (Ck Try.prog) (cB (cR (cL (cR bd37)))) [] (ofL [Tm 2 (iv l3_0), Tm 11 (sS 1 e_u8 l3_1), Tm 12 (iv l3_2), Tm 13 (iv l3_3)]) (num_Take.lp3_post l3_1 l3_2 r_) := by
 intro n_
 induction n_ with
 | zero => intro l3_0 l3_3 r_ h; exact no_none h
 | succ n_ ih =>
  intro l3_0 l3_3 r_ h
  refine kLp ?_
  refine kRs 15 [Tm 14 (bv (decide (l3_3 < l3_2)))] [] .n ?_
  refine kSq ?_
  rcases br_inv h with ⟨b5_0, h⟩ | ⟨b5_0, h⟩
  ·refine kCt b5_0 ?_
   refine kSk ?_
   refine kCd (cR (cR (cB (cB (cR (cL (cR bd37))))))) [.lp (cB (cR (cL (cR bd37))))] ?_
   refine kSq ?_
   refine kBk 1 ?_
   obtain ⟨x6_1, a6_2, e6_3, h⟩ := ix_inv h
   refine kRs 30 [Tm 5 (iv l3_3), Tm 6 (.data (.val (.int .u8 x6_1)))] [.c (e_u8 x6_1)] (.c (c_ix (e := e_u8) a6_2 e6_3) (.c (c_el (e := e_u8) e6_3) .n)) ?_
   obtain ⟨c7_1, h⟩ := gd_inv h
   refine kRs 59 [Tm 2 (iv (vor .i64 l3_0 (vshl .i64 (w64 (vand .u8 x6_1 127)) (w64 (7 * l3_3)))))] [] (.c c7_1 .n) ?_
   refine kRs 63 [Tm 28 (bv ((vand .u8 x6_1 128) == 0))] [] .n ?_
   rcases br_inv h with ⟨b9_0, h⟩ | ⟨b9_0, h⟩
   ·refine kCt b9_0 ?_
    rcases br_inv h with ⟨b10_1, h⟩ | ⟨b10_1, h⟩
    ·obtain ⟨⟨r10_2, r10_3, r10_4⟩, h10_5, h⟩ := bd_inv h
     refine kRs 0 [Tm 2 (iv r10_2), Tm 3 (iv r10_3), Tm 4 (bv r10_4)] [.b true, .b true, .b true, .a ⟨.tup [iv r10_2, iv r10_3, bv r10_4], []⟩] (.r 3 b10_1 (.c (Asks.of (C := Meets Try.prog) (num_result.meets (vor .i64 l3_0 (vshl .i64 (w64 (vand .u8 x6_1 127)) (w64 (7 * l3_3)))) (w64 (l3_3 + 1)) true _ _ _ h10_5)) .n)) ?_
     cases some_inj h
     refine kWo ?_
     refine kRt ?_
     exact kOut
    ·obtain ⟨⟨r10_2, r10_3, r10_4⟩, h10_5, h⟩ := bd_inv h
     refine kRs 0 [Tm 2 (iv r10_2), Tm 3 (iv r10_3), Tm 4 (bv r10_4)] [.b false, .b false, .b false, .a ⟨.tup [iv r10_2, iv r10_3, bv r10_4], []⟩] (.r 3 b10_1 (.c (Asks.of (C := Meets Try.prog) (num_result.meets (vor .i64 l3_0 (vshl .i64 (w64 (vand .u8 x6_1 127)) (w64 (7 * l3_3)))) (w64 (l3_3 + 1)) (decide (x6_1 > 0)) _ _ _ h10_5)) .n)) ?_
     cases some_inj h
     refine kWo ?_
     refine kRt ?_
     exact kOut
   ·refine kCe b9_0 ?_
    refine kSk ?_
    refine kCd (cR (cR (cR (cB (cB (cR (cL (cR bd37)))))))) [.lp (cB (cR (cL (cR bd37))))] ?_
    refine kRc 50 [Tm 13 (iv (w64 (l3_3 + 1)))] [] .n (cB (cR (cL (cR bd37)))) [] ?_
    exact kWk (ih (vor .i64 l3_0 (vshl .i64 (w64 (vand .u8 x6_1 127)) (w64 (7 * l3_3)))) (w64 (l3_3 + 1)) _ h)
  ·refine kCe b5_0 ?_
   cases some_inj h
   refine kWo ?_
   refine kXt 0 ?_
   exact kOut
def num_Take (fu : Nat) (b : List Int) : Option (Int × Int × Bool) :=
 gd (decide ((0 : Int) ≤ (if (9 : Int) < (b.length : Int) then 9 else (b.length : Int)) ∧ (if (9 : Int) < (b.length : Int) then 9 else (b.length : Int)) ≤ (b.length : Int))) <|
 bd (num_Take.lp3 fu (List.take (if (9 : Int) < (b.length : Int) then 9 else (b.length : Int)).toNat b) ((List.take (if (9 : Int) < (b.length : Int) then 9 else (b.length : Int)).toNat b).length : Int) fu 0 0) fun o_ => (match o_ with
 | .inl _ =>
  some (0, 0, false)
 | .inr (y12_0, y12_1, y12_2) =>
  some (y12_0, y12_1, y12_2))
theorem num_Take.meets (fu : Nat) (b : List Int) (z0 : Int) (z1 : Int) (z2 : Bool) (h : num_Take fu b = some (z0, z1, z2)) : Meets Try.prog ⟨37, [sS 1 e_u8 b], []⟩ ⟨.tup [iv z0, iv z1, bv z2], []⟩ := by
 refine kMt hmix num_Take.O Try.f37 bd37 1 ?_
 unfold num_Take at h
 refine kRs 1 [Tm 2 (iv 0)] [] .n ?_
 refine kSq ?_
 obtain ⟨c2_1, h⟩ := gd_inv h
 refine kRs 1 [Tm 11 (sS 1 e_u8 (List.take (if (9 : Int) < (b.length : Int) then 9 else (b.length : Int)).toNat b)), Tm 12 (iv ((List.take (if (9 : Int) < (b.length : Int) then 9 else (b.length : Int)).toNat b).length : Int)), Tm 13 (iv 0)] [.s (.t 9) [iv (b.length : Int)], .s (.t 11) [sS 1 e_u8 (List.take (if (9 : Int) < (b.length : Int) then 9 else (b.length : Int)).toNat b)], .s (.t 12) [iv ((List.take (if (9 : Int) < (b.length : Int) then 9 else (b.length : Int)).toNat b).length : Int)]] (.c (c_len (e := e_u8) (l := b)) (.c (c_cbH (e := e_u8) c2_1) (.c (congrArg (fun d : DV => [AV.data d]) (c_cutH (own := false) (nl := none) (s := 1) (e := e_u8) (l := b) (h := (if (9 : Int) < (b.length : Int) then 9 else (b.length : Int)).toNat))) (.c (c_len (e := e_u8) (l := (List.take (if (9 : Int) < (b.length : Int) then 9 else (b.length : Int)).toNat b))) .n)))) ?_
 refine kBk 0 ?_
 obtain ⟨o12, ho12, h⟩ := bd_inv h
 refine kUs (num_Take.lp3_ok fu (List.take (if (9 : Int) < (b.length : Int) then 9 else (b.length : Int)).toNat b) ((List.take (if (9 : Int) < (b.length : Int) then 9 else (b.length : Int)).toNat b).length : Int) _ 0 0 _ ho12) ?_
 intro e_ τ_ hp_
 rcases o12 with o12 | o12
 ·obtain ⟨⟩ := o12
  obtain ⟨rfl, rfl⟩ := hp_
  refine kCd (cR (cR bd37)) [] ?_
  refine kRs 0 [Tm 2 (iv 0), Tm 3 (iv 0), Tm 4 (bv false)] [] .n ?_
  refine kRt ?_
  have h_0 := some_inj h
  obtain ⟨g_1, h_1⟩ := Prod.mk.inj h_0
  obtain ⟨g_2, h_2⟩ := Prod.mk.inj h_1
  subst g_1
  subst g_2
  subst h_2
  exact kFr
 ·obtain ⟨y12_0, y12_1, y12_2⟩ := o12
  obtain ⟨rfl, rfl⟩ := hp_
  have h_0 := some_inj h
  obtain ⟨g_1, h_1⟩ := Prod.mk.inj h_0
  obtain ⟨g_2, h_2⟩ := Prod.mk.inj h_1
  subst g_1
  subst g_2
  subst h_2
  exact kFr
def bd15 : Code := (Try.f15.body).getD .skip
def save_reader_num.O : Nat → Nat := fun t => bif ([2, 3, 4, 5, 23] : List Nat).any (Nat.beq t) then 1 else 0
def save_reader_num (fu : Nat) (o0_v : TReader) : Option (Int × TReader) :=
 bd (num_Take fu o0_v.b) fun (r2_1, r2_2, r2_3) =>
 jn (fun (j4_2 : TReader) =>
  gd (decide ((0 : Int) ≤ r2_2 ∧ r2_2 ≤ (j4_2.b.length : Int))) <|
  some (r2_1, (TReader.mk (List.drop r2_2.toNat j4_2.b) j4_2.bad))) fun k4 =>
 br o0_v.bad
  (k4 (TReader.mk o0_v.b true))
  (k4 (TReader.mk o0_v.b (!r2_3)))
theorem save_reader_num.meets (fu : Nat) (o0_v : TReader) (z0 : Int) (z1 : TReader) (h : save_reader_num fu o0_v = some (z0, z1)) : Meets Try.prog ⟨15, [.ptr 1000 0], [[sS 1 e_u8 o0_v.b, bv o0_v.bad]]⟩ ⟨iv z0, [[sS 1 e_u8 z1.b, bv z1.bad]]⟩ := by
 refine kMt hmix save_reader_num.O Try.f15 bd15 3 ?_
 unfold save_reader_num at h
 refine kRs 3 [] [] .n ?_
 obtain ⟨⟨r2_1, r2_2, r2_3⟩, h2_4, h⟩ := bd_inv h
 refine kRs 3 [Tm 3 (iv r2_1), Tm 4 (iv r2_2), Tm 5 (bv r2_3)] [.a ⟨.tup [iv r2_1, iv r2_2, bv r2_3], []⟩] (.c (Asks.of (C := Meets Try.prog) (num_Take.meets fu o0_v.b _ _ _ h2_4)) .n) ?_
 obtain ⟨k4, hk4, h⟩ := jn_inv h
 have Jk4 : ∀ (j4_2 : TReader), k4 j4_2 = some (z0, z1) → WK Try.prog save_reader_num.O (Ck Try.prog) (cR (cR (cR bd15))) [] (ofL [Tm 0 (.ptr 1000 0), Tm 3 (iv r2_1), Tm 4 (iv r2_2), Ob 1000 [sS 1 e_u8 j4_2.b, bv j4_2.bad]]) (Fin Try.prog save_reader_num.O Try.f15 1 ⟨iv z0, [[sS 1 e_u8 z1.b, bv z1.bad]]⟩) := by
  intro j4_2 h
  rw [hk4] at h
  obtain ⟨c5_1, h⟩ := gd_inv h
  refine kRs 2 [Ob 1000 [sS 1 e_u8 (List.drop r2_2.toNat j4_2.b), bv j4_2.bad]] [.s (.t 32) [sS 1 e_u8 (List.drop r2_2.toNat j4_2.b)]] (.c (c_cbL (e := e_u8) c5_1) (.c (congrArg (fun d : DV => [AV.data d]) (c_cutL (own := false) (nl := none) (s := 1) (e := e_u8) (l := j4_2.b) (lo := r2_2.toNat))) .n)) ?_
  refine kRs 1 [Tm 2 (iv r2_1)] [] .n ?_
  refine kRt ?_
  have h_0 := some_inj h
  obtain ⟨g_1, h_1⟩ := Prod.mk.inj h_0
  subst g_1
  subst h_1
  exact kFr
 clear hk4
 rcases br_inv h with ⟨b3_1, h⟩ | ⟨b3_1, h⟩
 ·refine kRs 11 [Ob 1000 [sS 1 e_u8 o0_v.b, bv true]] [.b true, .b true, .b true] (.r 3 b3_1 .n) ?_
  exact kWk (Jk4 (TReader.mk o0_v.b true) h)
 ·refine kRs 11 [Ob 1000 [sS 1 e_u8 o0_v.b, bv (!r2_3)]] [.b false, .b false, .b false] (.r 3 b3_1 .n) ?_
  exact kWk (Jk4 (TReader.mk o0_v.b (!r2_3)) h)
def bd64 : Code := (Try.f64.body).getD .skip
def num_TakeText.O : Nat → Nat := fun t => bif ([2, 3, 4, 5, 31] : List Nat).any (Nat.beq t) then 1 else 0
def num_TakeText (fu : Nat) (b : List Int) : Option (ByteArray × Int × Bool) :=
 bd (num_Take fu b) fun (r2_1, r2_2, r2_3) =>
 br (!r2_3)
  (some (ByteArray.empty, 0, false))
  (br (decide (r2_1 > 255))
   (some (ByteArray.empty, 0, false))
   (br (decide (r2_1 > (w64 ((b.length : Int) - r2_2))))
    (some (ByteArray.empty, 0, false))
    (gd (decide ((0 : Int) ≤ r2_2 ∧ r2_2 ≤ (w64 (r2_2 + r2_1)) ∧ (w64 (r2_2 + r2_1)) ≤ (b.length : Int))) <|
    some ((strB (List.drop r2_2.toNat (List.take (w64 (r2_2 + r2_1)).toNat b))), (w64 (r2_2 + r2_1)), true))))
theorem num_TakeText.meets (fu : Nat) (b : List Int) (z0 : ByteArray) (z1 : Int) (z2 : Bool) (h : num_TakeText fu b = some (z0, z1, z2)) : Meets Try.prog ⟨64, [sS 1 e_u8 b], []⟩ ⟨.tup [sv z0, iv z1, bv z2], []⟩ := by
 refine kMt hmix num_TakeText.O Try.f64 bd64 1 ?_
 unfold num_TakeText at h
 refine kRs 1 [] [] .n ?_
 obtain ⟨⟨r2_1, r2_2, r2_3⟩, h2_4, h⟩ := bd_inv h
 refine kRs 1 [Tm 3 (iv r2_2), Tm 4 (bv r2_3), Tm 5 (iv r2_1)] [.a ⟨.tup [iv r2_1, iv r2_2, bv r2_3], []⟩] (.c (Asks.of (C := Meets Try.prog) (num_Take.meets fu b _ _ _ h2_4)) .n) ?_
 refine kSq ?_
 rcases br_inv h with ⟨b3_1, h⟩ | ⟨b3_1, h⟩
 ·refine kRs 13 [Tm 25 (bv true)] (rp 10 (.b true) []) (.r 3 b3_1 (.r 7 rT .n)) ?_
  refine kCt rT ?_
  refine kRs 0 [Tm 2 (sv ByteArray.empty), Tm 3 (iv 0), Tm 4 (bv false)] [] .n ?_
  refine kRt ?_
  have h_0 := some_inj h
  obtain ⟨g_1, h_1⟩ := Prod.mk.inj h_0
  obtain ⟨g_2, h_2⟩ := Prod.mk.inj h_1
  subst g_1
  subst g_2
  subst h_2
  exact kFr
 ·rcases br_inv h with ⟨b3_2, h⟩ | ⟨b3_2, h⟩
  ·refine kRs 13 [Tm 25 (bv true)] (.b false :: (.b false :: (.b false :: (rp 7 (.b true) [])))) (.r 3 b3_1 (.r 7 b3_2 .n)) ?_
   refine kCt rT ?_
   refine kRs 0 [Tm 2 (sv ByteArray.empty), Tm 3 (iv 0), Tm 4 (bv false)] [] .n ?_
   refine kRt ?_
   have h_0 := some_inj h
   obtain ⟨g_1, h_1⟩ := Prod.mk.inj h_0
   obtain ⟨g_2, h_2⟩ := Prod.mk.inj h_1
   subst g_1
   subst g_2
   subst h_2
   exact kFr
  ·refine kRs 13 [Tm 25 (bv (decide (r2_1 > (w64 ((b.length : Int) - r2_2)))))] (rp 6 (.b false) (.s (.t 21) [iv (b.length : Int)] :: (rp 4 (.b false) []))) (.r 3 b3_1 (.r 3 b3_2 (.c (c_len (e := e_u8) (l := b)) (.r 4 b3_2 .n)))) ?_
   rcases br_inv h with ⟨b6_0, h⟩ | ⟨b6_0, h⟩
   ·refine kCt b6_0 ?_
    refine kRs 0 [Tm 2 (sv ByteArray.empty), Tm 3 (iv 0), Tm 4 (bv false)] [] .n ?_
    refine kRt ?_
    have h_0 := some_inj h
    obtain ⟨g_1, h_1⟩ := Prod.mk.inj h_0
    obtain ⟨g_2, h_2⟩ := Prod.mk.inj h_1
    subst g_1
    subst g_2
    subst h_2
    exact kFr
   ·refine kCe b6_0 ?_
    refine kSk ?_
    refine kCd (cR (cR (cR bd64))) [] ?_
    obtain ⟨c8_1, h⟩ := gd_inv h
    refine kRs 0 [Tm 2 (sv (strB (List.drop r2_2.toNat (List.take (w64 (r2_2 + r2_1)).toNat b)))), Tm 3 (iv (w64 (r2_2 + r2_1))), Tm 4 (bv true)] [.s (.t 31) [sS 1 e_u8 (List.drop r2_2.toNat (List.take (w64 (r2_2 + r2_1)).toNat b))]] (.c (c_cb (e := e_u8) c8_1) (.c (congrArg (fun d : DV => [AV.data d]) (c_cut (own := false) (nl := none) (s := 1) (e := e_u8) (l := b) (lo := r2_2.toNat) (h := (w64 (r2_2 + r2_1)).toNat))) (.c (c_ab (List.drop r2_2.toNat (List.take (w64 (r2_2 + r2_1)).toNat b))) .n))) ?_
    refine kRt ?_
    have h_0 := some_inj h
    obtain ⟨g_1, h_1⟩ := Prod.mk.inj h_0
    obtain ⟨g_2, h_2⟩ := Prod.mk.inj h_1
    subst g_1
    subst g_2
    subst h_2
    exact kFr
def bd38 : Code := (Try.f38.body).getD .skip
def save_reader_text.O : Nat → Nat := fun t => bif ([2, 3, 4, 5, 23] : List Nat).any (Nat.beq t) then 1 else 0
def save_reader_text (fu : Nat) (o0_v : TReader) : Option (ByteArray × TReader) :=
 bd (num_TakeText fu o0_v.b) fun (r2_1, r2_2, r2_3) =>
 jn (fun (j4_2 : TReader) =>
  gd (decide ((0 : Int) ≤ r2_2 ∧ r2_2 ≤ (j4_2.b.length : Int))) <|
  some (r2_1, (TReader.mk (List.drop r2_2.toNat j4_2.b) j4_2.bad))) fun k4 =>
 br o0_v.bad
  (k4 (TReader.mk o0_v.b true))
  (k4 (TReader.mk o0_v.b (!r2_3)))
theorem save_reader_text.meets (fu : Nat) (o0_v : TReader) (z0 : ByteArray) (z1 : TReader) (h : save_reader_text fu o0_v = some (z0, z1)) : Meets Try.prog ⟨38, [.ptr 1000 0], [[sS 1 e_u8 o0_v.b, bv o0_v.bad]]⟩ ⟨sv z0, [[sS 1 e_u8 z1.b, bv z1.bad]]⟩ := by
 refine kMt hmix save_reader_text.O Try.f38 bd38 3 ?_
 unfold save_reader_text at h
 refine kRs 3 [] [] .n ?_
 obtain ⟨⟨r2_1, r2_2, r2_3⟩, h2_4, h⟩ := bd_inv h
 refine kRs 3 [Tm 3 (sv r2_1), Tm 4 (iv r2_2), Tm 5 (bv r2_3)] [.a ⟨.tup [sv r2_1, iv r2_2, bv r2_3], []⟩] (.c (Asks.of (C := Meets Try.prog) (num_TakeText.meets fu o0_v.b _ _ _ h2_4)) .n) ?_
 obtain ⟨k4, hk4, h⟩ := jn_inv h
 have Jk4 : ∀ (j4_2 : TReader), k4 j4_2 = some (z0, z1) → WK Try.prog save_reader_text.O (Ck Try.prog) (cR (cR (cR bd38))) [] (ofL [Tm 0 (.ptr 1000 0), Tm 3 (sv r2_1), Tm 4 (iv r2_2), Ob 1000 [sS 1 e_u8 j4_2.b, bv j4_2.bad]]) (Fin Try.prog save_reader_text.O Try.f38 1 ⟨sv z0, [[sS 1 e_u8 z1.b, bv z1.bad]]⟩) := by
  intro j4_2 h
  rw [hk4] at h
  obtain ⟨c5_1, h⟩ := gd_inv h
  refine kRs 2 [Ob 1000 [sS 1 e_u8 (List.drop r2_2.toNat j4_2.b), bv j4_2.bad]] [.s (.t 32) [sS 1 e_u8 (List.drop r2_2.toNat j4_2.b)]] (.c (c_cbL (e := e_u8) c5_1) (.c (congrArg (fun d : DV => [AV.data d]) (c_cutL (own := false) (nl := none) (s := 1) (e := e_u8) (l := j4_2.b) (lo := r2_2.toNat))) .n)) ?_
  refine kRs 1 [Tm 2 (sv r2_1)] [] .n ?_
  refine kRt ?_
  have h_0 := some_inj h
  obtain ⟨g_1, h_1⟩ := Prod.mk.inj h_0
  subst g_1
  subst h_1
  exact kFr
 clear hk4
 rcases br_inv h with ⟨b3_1, h⟩ | ⟨b3_1, h⟩
 ·refine kRs 11 [Ob 1000 [sS 1 e_u8 o0_v.b, bv true]] [.b true, .b true, .b true] (.r 3 b3_1 .n) ?_
  exact kWk (Jk4 (TReader.mk o0_v.b true) h)
 ·refine kRs 11 [Ob 1000 [sS 1 e_u8 o0_v.b, bv (!r2_3)]] [.b false, .b false, .b false] (.r 3 b3_1 .n) ?_
  exact kWk (Jk4 (TReader.mk o0_v.b (!r2_3)) h)
def bd39 : Code := (Try.f39.body).getD .skip
def save_reader_chain_1.O : Nat → Nat := fun t => bif ([3, 9, 11, 16, 17] : List Nat).any (Nat.beq t) then 1 else 0
def save_reader_chain_1 (fu : Nat) (o2_v : TChain) (o3_v : TReader) : Option (TChain × TReader) :=
 bd (save_reader_num fu o3_v) fun (r1_1, r1_2) =>
 bd (save_reader_num fu r1_2) fun (r1_4, r1_5) =>
 bd (save_reader_text fu r1_5) fun (r2_1, r2_2) =>
 gd (decide (o2_v.L.length + ([(TVersion.mk r1_1 r2_1 (r1_4 == 1))] : List TVersion).length ≤ 4294967296)) <|
 some ((TChain.mk o2_v.Key (o2_v.L ++ ([(TVersion.mk r1_1 r2_1 (r1_4 == 1))] : List TVersion))), r2_2)
theorem save_reader_chain_1.meets (fu : Nat) (o2_v : TChain) (o3_v : TReader) (z0 : TChain) (z1 : TReader) (h : save_reader_chain_1 fu o2_v o3_v = some (z0, z1)) : Meets Try.prog ⟨39, [.ptr 1000 0, .ptr 1001 0, .ptr 1002 0], [[.fn (.func 15) [.ptr 1003 0] []], [.fn (.func 38) [.ptr 1003 0] []], [sv o2_v.Key, sO 3 TVersion.en o2_v.L], [sS 1 e_u8 o3_v.b, bv o3_v.bad]]⟩ ⟨.tup [], [[.fn (.func 15) [.ptr 1003 0] []], [.fn (.func 38) [.ptr 1003 0] []], [sv z0.Key, sO 3 TVersion.en z0.L], [sS 1 e_u8 z1.b, bv z1.bad]]⟩ := by
 refine kMt hmix save_reader_chain_1.O Try.f39 bd39 127 ?_
 unfold save_reader_chain_1 at h
 obtain ⟨⟨r1_1, r1_2⟩, h1_3, h⟩ := bd_inv h
 obtain ⟨⟨r1_4, r1_5⟩, h1_6, h⟩ := bd_inv h
 refine kRs 62 [Tm 3 (.ptr 3 0), Ob 3 (TVersion.ob (TVersion.mk r1_1 ByteArray.empty (r1_4 == 1))), Ob 1003 [sS 1 e_u8 r1_5.b, bv r1_5.bad]] [.a ⟨iv r1_1, [[sS 1 e_u8 r1_2.b, bv r1_2.bad]]⟩, .a ⟨iv r1_4, [[sS 1 e_u8 r1_5.b, bv r1_5.bad]]⟩] (.c (Asks.of (C := Meets Try.prog) (save_reader_num.meets fu o3_v _ _ h1_3)) (.c (Asks.of (C := Meets Try.prog) (save_reader_num.meets fu r1_2 _ _ h1_6)) (.c rT .n))) ?_
 obtain ⟨⟨r2_1, r2_2⟩, h2_3, h⟩ := bd_inv h
 refine kRs 241 [Ob 3 (TVersion.ob (TVersion.mk r1_1 r2_1 (r1_4 == 1))), Ob 1003 [sS 1 e_u8 r2_2.b, bv r2_2.bad]] [.a ⟨sv r2_1, [[sS 1 e_u8 r2_2.b, bv r2_2.bad]]⟩] (.c (Asks.of (C := Meets Try.prog) (save_reader_text.meets fu r1_5 _ _ h2_3)) .n) ?_
 obtain ⟨c3_1, h⟩ := gd_inv h
 have h_0 := some_inj h
 obtain ⟨g_1, h_1⟩ := Prod.mk.inj h_0
 subst g_1
 subst h_1
 exact kRf [.s (.t 17) [sO 3 TVersion.en (o2_v.L ++ ([(TVersion.mk r1_1 r2_1 (r1_4 == 1))] : List TVersion))]] (.c (c_al (e := TVersion.en) (f := TVersion.en) c3_1) (.c (congrArg (fun d : DV => [AV.data d]) (c_app (e := TVersion.en) (s := 3) (l := o2_v.L) (m := ([(TVersion.mk r1_1 r2_1 (r1_4 == 1))] : List TVersion)))) .n))
def bd16 : Code := (Try.f16.body).getD .skip
def save_reader_many_2.O : Nat → Nat := fun t => bif ([1] : List Nat).any (Nat.beq t) then 1 else 0
def save_reader_many_2.lp1 (fu : Nat) : Nat → Int → TReader → TChain → Option (TReader × TChain)
  | 0, _, _, _ => none
  | n_ + 1, l1_0, l1_1, l1_2 =>
  br (decide (l1_0 > 0))
   (br (!l1_1.bad)
    (bd (save_reader_chain_1 fu l1_2 l1_1) fun (r4_1, r4_2) =>
    save_reader_many_2.lp1 fu n_ (w64 (l1_0 - 1)) r4_2 r4_1)
    (some (l1_1, l1_2)))
   (some (l1_1, l1_2))
def save_reader_many_2.lp1_post (r_ : (TReader × TChain)) : Wy → St → Prop := fun e τ => match r_ with
  | (y0, y1) => e = .exit 0 ∧ τ = ofL [Ob 1000 [sS 1 e_u8 y0.b, bv y0.bad], Ob 1001 [.fn (.func 15) [.ptr 1000 0] []], Ob 1002 [.fn (.func 38) [.ptr 1000 0] []], Ob 1003 [sv y1.Key, sO 3 TVersion.en y1.L]]
theorem save_reader_many_2.lp1_ok (fu : Nat) : ∀ (n_ : Nat) (l1_0 : Int) (l1_1 : TReader) (l1_2 : TChain) (r_ : (TReader × TChain)), save_reader_many_2.lp1 fu n_ l1_0 l1_1 l1_2 = some r_ → WK Try.prog save_reader_many_2.O (Ck Try.prog) (cB bd16) [] (ofL [Tm 0 (.ptr 1000 0), Tm 1 (iv l1_0), Tm 2 (.fn (.func 39) [] [.ptr 1001 0, .ptr 1002 0, .ptr 1003 0]), Ob 1000 [sS 1 e_u8 l1_1.b, bv l1_1.bad], Ob 1001 [.fn (.func 15) [.ptr 1000 0] []], Ob 1002 [.fn (.func 38) [.ptr 1000 0] []], Ob 1003 [sv l1_2.Key, sO 3 TVersion.en l1_2.L]]) (save_reader_many_2.lp1_post r_) := by
 intro n_
 induction n_ with
 | zero => intro l1_0 l1_1 l1_2 r_ h; exact no_none h
 | succ n_ ih =>
  intro l1_0 l1_1 l1_2 r_ h
  refine kLp ?_
  refine kSq ?_
  rcases br_inv h with ⟨b2_1, h⟩ | ⟨b2_1, h⟩
  ·refine kRs 127 [Tm 14 (bv (!l1_1.bad))] (rp 6 (.b true) []) (.r 6 b2_1 .n) ?_
   rcases br_inv h with ⟨b3_0, h⟩ | ⟨b3_0, h⟩
   ·refine kCt b3_0 ?_
    refine kSk ?_
    refine kCd (cR (cB (cB bd16))) [.lp (cB bd16)] ?_
    refine kSq ?_
    refine kBk 1 ?_
    obtain ⟨⟨r4_1, r4_2⟩, h4_3, h⟩ := bd_inv h
    refine kRc 110 [Ob 1000 [sS 1 e_u8 r4_2.b, bv r4_2.bad], Ob 1003 [sv r4_1.Key, sO 3 TVersion.en r4_1.L]] [.a ⟨.tup [], [[.fn (.func 15) [.ptr 1003 0] []], [.fn (.func 38) [.ptr 1003 0] []], [sv r4_1.Key, sO 3 TVersion.en r4_1.L], [sS 1 e_u8 r4_2.b, bv r4_2.bad]]⟩] (.c (Asks.of (C := Meets Try.prog) (save_reader_chain_1.meets fu l1_2 l1_1 _ _ h4_3)) .n) (cR (cR (cB (cB bd16)))) [.lp (cB bd16)] ?_
    refine kRc 119 [Tm 1 (iv (w64 (l1_0 - 1)))] [] .n (cB bd16) [] ?_
    exact kWk (ih (w64 (l1_0 - 1)) r4_2 r4_1 _ h)
   ·refine kCe b3_0 ?_
    cases some_inj h
    refine kWo ?_
    refine kXt 0 ?_
    exact kOut
  ·refine kRs 127 [Tm 14 (bv false)] (rp 6 (.b false) []) (.r 6 b2_1 .n) ?_
   refine kCe rF ?_
   cases some_inj h
   refine kWo ?_
   refine kXt 0 ?_
   exact kOut
def save_reader_many_2 (fu : Nat) (n_v : Int) (o0_v : TReader) (o3_v : TChain) : Option (TReader × TChain) :=
 bd (save_reader_many_2.lp1 fu fu n_v o0_v o3_v) fun (y6_0, y6_1) =>
 some (y6_0, y6_1)
theorem save_reader_many_2.meets (fu : Nat) (n_v : Int) (o0_v : TReader) (o3_v : TChain) (z0 : TReader) (z1 : TChain) (h : save_reader_many_2 fu n_v o0_v o3_v = some (z0, z1)) : Meets Try.prog ⟨16, [.ptr 1000 0, iv n_v, .fn (.func 39) [] [.ptr 1001 0, .ptr 1002 0, .ptr 1003 0]], [[sS 1 e_u8 o0_v.b, bv o0_v.bad], [.fn (.func 15) [.ptr 1000 0] []], [.fn (.func 38) [.ptr 1000 0] []], [sv o3_v.Key, sO 3 TVersion.en o3_v.L]]⟩ ⟨.tup [], [[sS 1 e_u8 z0.b, bv z0.bad], [.fn (.func 15) [.ptr 1000 0] []], [.fn (.func 38) [.ptr 1000 0] []], [sv z1.Key, sO 3 TVersion.en z1.L]]⟩ := by
 refine kMt hmix save_reader_many_2.O Try.f16 bd16 127 ?_
 unfold save_reader_many_2 at h
 refine kBk 0 ?_
 obtain ⟨o6, ho6, h⟩ := bd_inv h
 refine kUs (save_reader_many_2.lp1_ok fu _ n_v o0_v o3_v _ ho6) ?_
 intro e_ τ_ hp_
 obtain ⟨y6_0, y6_1⟩ := o6
 obtain ⟨rfl, rfl⟩ := hp_
 have h_0 := some_inj h
 obtain ⟨g_1, h_1⟩ := Prod.mk.inj h_0
 subst g_1
 subst h_1
 exact kFn
def bd18 : Code := (Try.f18.body).getD .skip
def save_reader_chain.O : Nat → Nat := fun t => bif ([2, 3, 4, 6, 8, 10, 17] : List Nat).any (Nat.beq t) then 1 else 0
def save_reader_chain (fu : Nat) (o0_v : TReader) : Option (TChain × TReader) :=
 bd (save_reader_text fu o0_v) fun (r3_1, r3_2) =>
 bd (save_reader_num fu r3_2) fun (r4_1, r4_2) =>
 bd (save_reader_many_2 fu r4_1 r4_2 (TChain.mk r3_1 [])) fun (r4_4, r4_5) =>
 some (r4_5, r4_4)
theorem save_reader_chain.meets (fu : Nat) (o0_v : TReader) (z0 : TChain) (z1 : TReader) (h : save_reader_chain fu o0_v = some (z0, z1)) : Meets Try.prog ⟨18, [.ptr 1000 0], [[sS 1 e_u8 o0_v.b, bv o0_v.bad]]⟩ ⟨.data (.agg [.val (.string z0.Key), .slc true none 3 (List.map TVersion.en z0.L)]), [[sS 1 e_u8 z1.b, bv z1.bad]]⟩ := by
 refine kMt hmix save_reader_chain.O Try.f18 bd18 3 ?_
 unfold save_reader_chain at h
 refine kRs 3 [Tm 2 (.ptr 2 0), Ob 2 [sv ByteArray.empty, .data (.slc true none 3 (List.map TVersion.en []))]] [] .n ?_
 refine kRs 15 [Tm 3 (.ptr 3 0), Tm 4 (.ptr 4 0), Ob 3 [.fn (.func 15) [.ptr 1000 0] []], Ob 4 [.fn (.func 38) [.ptr 1000 0] []]] [] .n ?_
 obtain ⟨⟨r3_1, r3_2⟩, h3_3, h⟩ := bd_inv h
 refine kRs 95 [Ob 2 [sv r3_1, .data (.slc true none 3 (List.map TVersion.en []))], Ob 1000 [sS 1 e_u8 r3_2.b, bv r3_2.bad]] [.a ⟨sv r3_1, [[sS 1 e_u8 r3_2.b, bv r3_2.bad]]⟩] (.c (Asks.of (C := Meets Try.prog) (save_reader_text.meets fu o0_v _ _ h3_3)) .n) ?_
 obtain ⟨⟨r4_1, r4_2⟩, h4_3, h⟩ := bd_inv h
 obtain ⟨⟨r4_4, r4_5⟩, h4_6, h⟩ := bd_inv h
 refine kRs 64 [Ob 2 [sv r4_5.Key, sO 3 TVersion.en r4_5.L], Ob 1000 [sS 1 e_u8 r4_4.b, bv r4_4.bad]] [.a ⟨iv r4_1, [[sS 1 e_u8 r4_2.b, bv r4_2.bad]]⟩, .a ⟨.tup [], [[sS 1 e_u8 r4_4.b, bv r4_4.bad], [.fn (.func 15) [.ptr 1000 0] []], [.fn (.func 38) [.ptr 1000 0] []], [sv r4_5.Key, sO 3 TVersion.en r4_5.L]]⟩] (.c (Asks.of (C := Meets Try.prog) (save_reader_num.meets fu r3_2 _ _ h4_3)) (.c (Asks.of (C := Meets Try.prog) (save_reader_many_2.meets fu r4_1 r4_2 (TChain.mk r3_1 []) _ _ h4_6)) .n)) ?_
 refine kRs 7 [] [] .n ?_
 refine kRt ?_
 have h_0 := some_inj h
 obtain ⟨g_1, h_1⟩ := Prod.mk.inj h_0
 subst g_1
 subst h_1
 exact kFr
def bd17 : Code := (Try.f17.body).getD .skip
def save_Take_1.O : Nat → Nat := fun t => bif ([7, 8] : List Nat).any (Nat.beq t) then 1 else 0
def save_Take_1 (fu : Nat) (o0_v : TShard) (o2_v : TReader) : Option (TShard × TReader) :=
 bd (save_reader_chain fu o2_v) fun (r1_1, r1_2) =>
 gd (decide (o0_v.S.Chains.length + ([r1_1] : List TChain).length ≤ 4294967296)) <|
 some ((TShard.mk o0_v.ID o0_v.Shards o0_v.Done (TStore.mk (o0_v.S.Chains ++ ([r1_1] : List TChain)) o0_v.S.Mark) o0_v.Seats o0_v.Bits o0_v.Said), r1_2)
theorem save_Take_1.meets (fu : Nat) (o0_v : TShard) (o2_v : TReader) (z0 : TShard) (z1 : TReader) (h : save_Take_1 fu o0_v o2_v = some (z0, z1)) : Meets Try.prog ⟨17, [.ptr 1000 0, .ptr 1001 0], [(TShard.ob_00010111 o0_v), [.ptr 1002 0], [sS 1 e_u8 o2_v.b, bv o2_v.bad]]⟩ ⟨.tup [], [(TShard.ob_00010111 z0), [.ptr 1002 0], [sS 1 e_u8 z1.b, bv z1.bad]]⟩ := by
 refine kMt hmix save_Take_1.O Try.f17 bd17 31 ?_
 unfold save_Take_1 at h
 obtain ⟨⟨r1_1, r1_2⟩, h1_3, h⟩ := bd_inv h
 obtain ⟨c1_4, h⟩ := gd_inv h
 have h_0 := some_inj h
 obtain ⟨g_1, h_1⟩ := Prod.mk.inj h_0
 subst g_1
 subst h_1
 exact kRf [.a ⟨.data (.agg [.val (.string r1_1.Key), .slc true none 3 (List.map TVersion.en r1_1.L)]), [[sS 1 e_u8 r1_2.b, bv r1_2.bad]]⟩, .s (.t 8) [sO 2 TChain.en (o0_v.S.Chains ++ ([r1_1] : List TChain))]] (.c (Asks.of (C := Meets Try.prog) (save_reader_chain.meets fu o2_v _ _ h1_3)) (.c (c_al (e := TChain.en) (f := TChain.en) c1_4) (.c (congrArg (fun d : DV => [AV.data d]) (c_app (e := TChain.en) (s := 2) (l := o0_v.S.Chains) (m := ([r1_1] : List TChain)))) (.c rT .n))))
def save_reader_many.O : Nat → Nat := fun t => bif ([1] : List Nat).any (Nat.beq t) then 1 else 0
def save_reader_many.lp1 (fu : Nat) : Nat → Int → TReader → TShard → Option (TReader × TShard)
  | 0, _, _, _ => none
  | n_ + 1, l1_0, l1_1, l1_2 =>
  br (decide (l1_0 > 0))
   (br (!l1_1.bad)
    (bd (save_Take_1 fu l1_2 l1_1) fun (r4_1, r4_2) =>
    save_reader_many.lp1 fu n_ (w64 (l1_0 - 1)) r4_2 r4_1)
    (some (l1_1, l1_2)))
   (some (l1_1, l1_2))
def save_reader_many.lp1_post (r_ : (TReader × TShard)) : Wy → St → Prop := fun e τ => match r_ with
  | (y0, y1) => e = .exit 0 ∧ τ = ofL [Ob 1000 [sS 1 e_u8 y0.b, bv y0.bad], Ob 1001 (TShard.ob_00010111 y1), Ob 1002 [.ptr 1000 0]]
theorem save_reader_many.lp1_ok (fu : Nat) : ∀ (n_ : Nat) (l1_0 : Int) (l1_1 : TReader) (l1_2 : TShard) (r_ : (TReader × TShard)), save_reader_many.lp1 fu n_ l1_0 l1_1 l1_2 = some r_ → WK Try.prog save_reader_many.O (Ck Try.prog) (cB bd16) [] (ofL [Tm 0 (.ptr 1000 0), Tm 1 (iv l1_0), Tm 2 (.fn (.func 17) [] [.ptr 1001 0, .ptr 1002 0]), Ob 1000 [sS 1 e_u8 l1_1.b, bv l1_1.bad], Ob 1001 (TShard.ob_00010111 l1_2), Ob 1002 [.ptr 1000 0]]) (save_reader_many.lp1_post r_) := by
 intro n_
 induction n_ with
 | zero => intro l1_0 l1_1 l1_2 r_ h; exact no_none h
 | succ n_ ih =>
  intro l1_0 l1_1 l1_2 r_ h
  refine kLp ?_
  refine kSq ?_
  rcases br_inv h with ⟨b2_1, h⟩ | ⟨b2_1, h⟩
  ·refine kRs 63 [Tm 14 (bv (!l1_1.bad))] (rp 6 (.b true) []) (.r 6 b2_1 .n) ?_
   rcases br_inv h with ⟨b3_0, h⟩ | ⟨b3_0, h⟩
   ·refine kCt b3_0 ?_
    refine kSk ?_
    refine kCd (cR (cB (cB bd16))) [.lp (cB bd16)] ?_
    refine kSq ?_
    refine kBk 1 ?_
    obtain ⟨⟨r4_1, r4_2⟩, h4_3, h⟩ := bd_inv h
    refine kRc 78 [Ob 1000 [sS 1 e_u8 r4_2.b, bv r4_2.bad], Ob 1001 (TShard.ob_00010111 r4_1)] [.a ⟨.tup [], [(TShard.ob_00010111 r4_1), [.ptr 1002 0], [sS 1 e_u8 r4_2.b, bv r4_2.bad]]⟩] (.c (Asks.of (C := Meets Try.prog) (save_Take_1.meets fu l1_2 l1_1 _ _ h4_3)) .n) (cR (cR (cB (cB bd16)))) [.lp (cB bd16)] ?_
    refine kRc 55 [Tm 1 (iv (w64 (l1_0 - 1)))] [] .n (cB bd16) [] ?_
    exact kWk (ih (w64 (l1_0 - 1)) r4_2 r4_1 _ h)
   ·refine kCe b3_0 ?_
    cases some_inj h
    refine kWo ?_
    refine kXt 0 ?_
    exact kOut
  ·refine kRs 63 [Tm 14 (bv false)] (rp 6 (.b false) []) (.r 6 b2_1 .n) ?_
   refine kCe rF ?_
   cases some_inj h
   refine kWo ?_
   refine kXt 0 ?_
   exact kOut
def save_reader_many (fu : Nat) (n_v : Int) (o0_v : TReader) (o1_v : TShard) : Option (TReader × TShard) :=
 bd (save_reader_many.lp1 fu fu n_v o0_v o1_v) fun (y6_0, y6_1) =>
 some (y6_0, y6_1)
theorem save_reader_many.meets (fu : Nat) (n_v : Int) (o0_v : TReader) (o1_v : TShard) (z0 : TReader) (z1 : TShard) (h : save_reader_many fu n_v o0_v o1_v = some (z0, z1)) : Meets Try.prog ⟨16, [.ptr 1000 0, iv n_v, .fn (.func 17) [] [.ptr 1001 0, .ptr 1002 0]], [[sS 1 e_u8 o0_v.b, bv o0_v.bad], (TShard.ob_00010111 o1_v), [.ptr 1000 0]]⟩ ⟨.tup [], [[sS 1 e_u8 z0.b, bv z0.bad], (TShard.ob_00010111 z1), [.ptr 1000 0]]⟩ := by
 refine kMt hmix save_reader_many.O Try.f16 bd16 63 ?_
 unfold save_reader_many at h
 refine kBk 0 ?_
 obtain ⟨o6, ho6, h⟩ := bd_inv h
 refine kUs (save_reader_many.lp1_ok fu _ n_v o0_v o1_v _ ho6) ?_
 intro e_ τ_ hp_
 obtain ⟨y6_0, y6_1⟩ := o6
 obtain ⟨rfl, rfl⟩ := hp_
 have h_0 := some_inj h
 obtain ⟨g_1, h_1⟩ := Prod.mk.inj h_0
 subst g_1
 subst h_1
 exact kFn
def bd19 : Code := (Try.f19.body).getD .skip
def save_Take_2.O : Nat → Nat := fun t => bif ([10, 11, 12] : List Nat).any (Nat.beq t) then 1 else 0
def save_Take_2 (fu : Nat) (o0_v : TShard) (o2_v : TReader) : Option (TShard × TReader) :=
 bd (save_reader_num fu o2_v) fun (r1_1, r1_2) =>
 bd (save_reader_num fu r1_2) fun (r1_4, r1_5) =>
 bd (save_reader_num fu r1_5) fun (r1_7, r1_8) =>
 gd (decide (o0_v.Seats.length + ([(TSeat.mk r1_1 r1_4 r1_7)] : List TSeat).length ≤ 4294967296)) <|
 some ((TShard.mk o0_v.ID o0_v.Shards o0_v.Done o0_v.S (o0_v.Seats ++ ([(TSeat.mk r1_1 r1_4 r1_7)] : List TSeat)) o0_v.Bits o0_v.Said), r1_8)
theorem save_Take_2.meets (fu : Nat) (o0_v : TShard) (o2_v : TReader) (z0 : TShard) (z1 : TReader) (h : save_Take_2 fu o0_v o2_v = some (z0, z1)) : Meets Try.prog ⟨19, [.ptr 1000 0, .ptr 1001 0], [(TShard.ob_00010111 o0_v), [.fn (.func 15) [.ptr 1002 0] []], [sS 1 e_u8 o2_v.b, bv o2_v.bad]]⟩ ⟨.tup [], [(TShard.ob_00010111 z0), [.fn (.func 15) [.ptr 1002 0] []], [sS 1 e_u8 z1.b, bv z1.bad]]⟩ := by
 refine kMt hmix save_Take_2.O Try.f19 bd19 31 ?_
 unfold save_Take_2 at h
 obtain ⟨⟨r1_1, r1_2⟩, h1_3, h⟩ := bd_inv h
 obtain ⟨⟨r1_4, r1_5⟩, h1_6, h⟩ := bd_inv h
 obtain ⟨⟨r1_7, r1_8⟩, h1_9, h⟩ := bd_inv h
 obtain ⟨c1_10, h⟩ := gd_inv h
 have h_0 := some_inj h
 obtain ⟨g_1, h_1⟩ := Prod.mk.inj h_0
 subst g_1
 subst h_1
 exact kRf [.a ⟨iv r1_1, [[sS 1 e_u8 r1_2.b, bv r1_2.bad]]⟩, .a ⟨iv r1_4, [[sS 1 e_u8 r1_5.b, bv r1_5.bad]]⟩, .a ⟨iv r1_7, [[sS 1 e_u8 r1_8.b, bv r1_8.bad]]⟩, .s (.t 12) [sO 3 TSeat.en (o0_v.Seats ++ ([(TSeat.mk r1_1 r1_4 r1_7)] : List TSeat))]] (.c (Asks.of (C := Meets Try.prog) (save_reader_num.meets fu o2_v _ _ h1_3)) (.c (Asks.of (C := Meets Try.prog) (save_reader_num.meets fu r1_2 _ _ h1_6)) (.c (Asks.of (C := Meets Try.prog) (save_reader_num.meets fu r1_5 _ _ h1_9)) (.c (c_al (e := TSeat.en) (f := TSeat.en) c1_10) (.c (congrArg (fun d : DV => [AV.data d]) (c_app (e := TSeat.en) (s := 3) (l := o0_v.Seats) (m := ([(TSeat.mk r1_1 r1_4 r1_7)] : List TSeat)))) (.c rT .n))))))
def save_reader_many_3.O : Nat → Nat := fun t => bif ([1] : List Nat).any (Nat.beq t) then 1 else 0
def save_reader_many_3.lp1 (fu : Nat) : Nat → Int → TReader → TShard → Option (TReader × TShard)
  | 0, _, _, _ => none
  | n_ + 1, l1_0, l1_1, l1_2 =>
  br (decide (l1_0 > 0))
   (br (!l1_1.bad)
    (bd (save_Take_2 fu l1_2 l1_1) fun (r4_1, r4_2) =>
    save_reader_many_3.lp1 fu n_ (w64 (l1_0 - 1)) r4_2 r4_1)
    (some (l1_1, l1_2)))
   (some (l1_1, l1_2))
def save_reader_many_3.lp1_post (r_ : (TReader × TShard)) : Wy → St → Prop := fun e τ => match r_ with
  | (y0, y1) => e = .exit 0 ∧ τ = ofL [Ob 1000 [sS 1 e_u8 y0.b, bv y0.bad], Ob 1001 (TShard.ob_00010111 y1), Ob 1002 [.fn (.func 15) [.ptr 1000 0] []]]
theorem save_reader_many_3.lp1_ok (fu : Nat) : ∀ (n_ : Nat) (l1_0 : Int) (l1_1 : TReader) (l1_2 : TShard) (r_ : (TReader × TShard)), save_reader_many_3.lp1 fu n_ l1_0 l1_1 l1_2 = some r_ → WK Try.prog save_reader_many_3.O (Ck Try.prog) (cB bd16) [] (ofL [Tm 0 (.ptr 1000 0), Tm 1 (iv l1_0), Tm 2 (.fn (.func 19) [] [.ptr 1001 0, .ptr 1002 0]), Ob 1000 [sS 1 e_u8 l1_1.b, bv l1_1.bad], Ob 1001 (TShard.ob_00010111 l1_2), Ob 1002 [.fn (.func 15) [.ptr 1000 0] []]]) (save_reader_many_3.lp1_post r_) := by
 intro n_
 induction n_ with
 | zero => intro l1_0 l1_1 l1_2 r_ h; exact no_none h
 | succ n_ ih =>
  intro l1_0 l1_1 l1_2 r_ h
  refine kLp ?_
  refine kSq ?_
  rcases br_inv h with ⟨b2_1, h⟩ | ⟨b2_1, h⟩
  ·refine kRs 63 [Tm 14 (bv (!l1_1.bad))] (rp 6 (.b true) []) (.r 6 b2_1 .n) ?_
   rcases br_inv h with ⟨b3_0, h⟩ | ⟨b3_0, h⟩
   ·refine kCt b3_0 ?_
    refine kSk ?_
    refine kCd (cR (cB (cB bd16))) [.lp (cB bd16)] ?_
    refine kSq ?_
    refine kBk 1 ?_
    obtain ⟨⟨r4_1, r4_2⟩, h4_3, h⟩ := bd_inv h
    refine kRc 78 [Ob 1000 [sS 1 e_u8 r4_2.b, bv r4_2.bad], Ob 1001 (TShard.ob_00010111 r4_1)] [.a ⟨.tup [], [(TShard.ob_00010111 r4_1), [.fn (.func 15) [.ptr 1002 0] []], [sS 1 e_u8 r4_2.b, bv r4_2.bad]]⟩] (.c (Asks.of (C := Meets Try.prog) (save_Take_2.meets fu l1_2 l1_1 _ _ h4_3)) .n) (cR (cR (cB (cB bd16)))) [.lp (cB bd16)] ?_
    refine kRc 55 [Tm 1 (iv (w64 (l1_0 - 1)))] [] .n (cB bd16) [] ?_
    exact kWk (ih (w64 (l1_0 - 1)) r4_2 r4_1 _ h)
   ·refine kCe b3_0 ?_
    cases some_inj h
    refine kWo ?_
    refine kXt 0 ?_
    exact kOut
  ·refine kRs 63 [Tm 14 (bv false)] (rp 6 (.b false) []) (.r 6 b2_1 .n) ?_
   refine kCe rF ?_
   cases some_inj h
   refine kWo ?_
   refine kXt 0 ?_
   exact kOut
def save_reader_many_3 (fu : Nat) (n_v : Int) (o0_v : TReader) (o1_v : TShard) : Option (TReader × TShard) :=
 bd (save_reader_many_3.lp1 fu fu n_v o0_v o1_v) fun (y6_0, y6_1) =>
 some (y6_0, y6_1)
theorem save_reader_many_3.meets (fu : Nat) (n_v : Int) (o0_v : TReader) (o1_v : TShard) (z0 : TReader) (z1 : TShard) (h : save_reader_many_3 fu n_v o0_v o1_v = some (z0, z1)) : Meets Try.prog ⟨16, [.ptr 1000 0, iv n_v, .fn (.func 19) [] [.ptr 1001 0, .ptr 1002 0]], [[sS 1 e_u8 o0_v.b, bv o0_v.bad], (TShard.ob_00010111 o1_v), [.fn (.func 15) [.ptr 1000 0] []]]⟩ ⟨.tup [], [[sS 1 e_u8 z0.b, bv z0.bad], (TShard.ob_00010111 z1), [.fn (.func 15) [.ptr 1000 0] []]]⟩ := by
 refine kMt hmix save_reader_many_3.O Try.f16 bd16 63 ?_
 unfold save_reader_many_3 at h
 refine kBk 0 ?_
 obtain ⟨o6, ho6, h⟩ := bd_inv h
 refine kUs (save_reader_many_3.lp1_ok fu _ n_v o0_v o1_v _ ho6) ?_
 intro e_ τ_ hp_
 obtain ⟨y6_0, y6_1⟩ := o6
 obtain ⟨rfl, rfl⟩ := hp_
 have h_0 := some_inj h
 obtain ⟨g_1, h_1⟩ := Prod.mk.inj h_0
 subst g_1
 subst h_1
 exact kFn
def bd20 : Code := (Try.f20.body).getD .skip
def save_Take_3.O : Nat → Nat := fun t => bif ([6, 7] : List Nat).any (Nat.beq t) then 1 else 0
def save_Take_3 (fu : Nat) (o0_v : TShard) (o2_v : TReader) : Option (TShard × TReader) :=
 bd (save_reader_num fu o2_v) fun (r1_1, r1_2) =>
 gd (decide (o0_v.Bits.length + ([r1_1] : List Int).length ≤ 4294967296)) <|
 some ((TShard.mk o0_v.ID o0_v.Shards o0_v.Done o0_v.S o0_v.Seats (o0_v.Bits ++ ([r1_1] : List Int)) o0_v.Said), r1_2)
theorem save_Take_3.meets (fu : Nat) (o0_v : TShard) (o2_v : TReader) (z0 : TShard) (z1 : TReader) (h : save_Take_3 fu o0_v o2_v = some (z0, z1)) : Meets Try.prog ⟨20, [.ptr 1000 0, .ptr 1001 0], [(TShard.ob_00010111 o0_v), [.fn (.func 15) [.ptr 1002 0] []], [sS 1 e_u8 o2_v.b, bv o2_v.bad]]⟩ ⟨.tup [], [(TShard.ob_00010111 z0), [.fn (.func 15) [.ptr 1002 0] []], [sS 1 e_u8 z1.b, bv z1.bad]]⟩ := by
 refine kMt hmix save_Take_3.O Try.f20 bd20 31 ?_
 unfold save_Take_3 at h
 obtain ⟨⟨r1_1, r1_2⟩, h1_3, h⟩ := bd_inv h
 obtain ⟨c1_4, h⟩ := gd_inv h
 have h_0 := some_inj h
 obtain ⟨g_1, h_1⟩ := Prod.mk.inj h_0
 subst g_1
 subst h_1
 exact kRf [.a ⟨iv r1_1, [[sS 1 e_u8 r1_2.b, bv r1_2.bad]]⟩, .s (.t 7) [sO 1 e_i64 (o0_v.Bits ++ ([r1_1] : List Int))]] (.c (Asks.of (C := Meets Try.prog) (save_reader_num.meets fu o2_v _ _ h1_3)) (.c (c_al (e := e_i64) (f := e_i64) c1_4) (.c (congrArg (fun d : DV => [AV.data d]) (c_app (e := e_i64) (s := 1) (l := o0_v.Bits) (m := ([r1_1] : List Int)))) (.c rT .n))))
def save_reader_many_4.O : Nat → Nat := fun t => bif ([1] : List Nat).any (Nat.beq t) then 1 else 0
def save_reader_many_4.lp1 (fu : Nat) : Nat → Int → TReader → TShard → Option (TReader × TShard)
  | 0, _, _, _ => none
  | n_ + 1, l1_0, l1_1, l1_2 =>
  br (decide (l1_0 > 0))
   (br (!l1_1.bad)
    (bd (save_Take_3 fu l1_2 l1_1) fun (r4_1, r4_2) =>
    save_reader_many_4.lp1 fu n_ (w64 (l1_0 - 1)) r4_2 r4_1)
    (some (l1_1, l1_2)))
   (some (l1_1, l1_2))
def save_reader_many_4.lp1_post (r_ : (TReader × TShard)) : Wy → St → Prop := fun e τ => match r_ with
  | (y0, y1) => e = .exit 0 ∧ τ = ofL [Ob 1000 [sS 1 e_u8 y0.b, bv y0.bad], Ob 1001 (TShard.ob_00010111 y1), Ob 1002 [.fn (.func 15) [.ptr 1000 0] []]]
theorem save_reader_many_4.lp1_ok (fu : Nat) : ∀ (n_ : Nat) (l1_0 : Int) (l1_1 : TReader) (l1_2 : TShard) (r_ : (TReader × TShard)), save_reader_many_4.lp1 fu n_ l1_0 l1_1 l1_2 = some r_ → WK Try.prog save_reader_many_4.O (Ck Try.prog) (cB bd16) [] (ofL [Tm 0 (.ptr 1000 0), Tm 1 (iv l1_0), Tm 2 (.fn (.func 20) [] [.ptr 1001 0, .ptr 1002 0]), Ob 1000 [sS 1 e_u8 l1_1.b, bv l1_1.bad], Ob 1001 (TShard.ob_00010111 l1_2), Ob 1002 [.fn (.func 15) [.ptr 1000 0] []]]) (save_reader_many_4.lp1_post r_) := by
 intro n_
 induction n_ with
 | zero => intro l1_0 l1_1 l1_2 r_ h; exact no_none h
 | succ n_ ih =>
  intro l1_0 l1_1 l1_2 r_ h
  refine kLp ?_
  refine kSq ?_
  rcases br_inv h with ⟨b2_1, h⟩ | ⟨b2_1, h⟩
  ·refine kRs 63 [Tm 14 (bv (!l1_1.bad))] (rp 6 (.b true) []) (.r 6 b2_1 .n) ?_
   rcases br_inv h with ⟨b3_0, h⟩ | ⟨b3_0, h⟩
   ·refine kCt b3_0 ?_
    refine kSk ?_
    refine kCd (cR (cB (cB bd16))) [.lp (cB bd16)] ?_
    refine kSq ?_
    refine kBk 1 ?_
    obtain ⟨⟨r4_1, r4_2⟩, h4_3, h⟩ := bd_inv h
    refine kRc 78 [Ob 1000 [sS 1 e_u8 r4_2.b, bv r4_2.bad], Ob 1001 (TShard.ob_00010111 r4_1)] [.a ⟨.tup [], [(TShard.ob_00010111 r4_1), [.fn (.func 15) [.ptr 1002 0] []], [sS 1 e_u8 r4_2.b, bv r4_2.bad]]⟩] (.c (Asks.of (C := Meets Try.prog) (save_Take_3.meets fu l1_2 l1_1 _ _ h4_3)) .n) (cR (cR (cB (cB bd16)))) [.lp (cB bd16)] ?_
    refine kRc 55 [Tm 1 (iv (w64 (l1_0 - 1)))] [] .n (cB bd16) [] ?_
    exact kWk (ih (w64 (l1_0 - 1)) r4_2 r4_1 _ h)
   ·refine kCe b3_0 ?_
    cases some_inj h
    refine kWo ?_
    refine kXt 0 ?_
    exact kOut
  ·refine kRs 63 [Tm 14 (bv false)] (rp 6 (.b false) []) (.r 6 b2_1 .n) ?_
   refine kCe rF ?_
   cases some_inj h
   refine kWo ?_
   refine kXt 0 ?_
   exact kOut
def save_reader_many_4 (fu : Nat) (n_v : Int) (o0_v : TReader) (o1_v : TShard) : Option (TReader × TShard) :=
 bd (save_reader_many_4.lp1 fu fu n_v o0_v o1_v) fun (y6_0, y6_1) =>
 some (y6_0, y6_1)
theorem save_reader_many_4.meets (fu : Nat) (n_v : Int) (o0_v : TReader) (o1_v : TShard) (z0 : TReader) (z1 : TShard) (h : save_reader_many_4 fu n_v o0_v o1_v = some (z0, z1)) : Meets Try.prog ⟨16, [.ptr 1000 0, iv n_v, .fn (.func 20) [] [.ptr 1001 0, .ptr 1002 0]], [[sS 1 e_u8 o0_v.b, bv o0_v.bad], (TShard.ob_00010111 o1_v), [.fn (.func 15) [.ptr 1000 0] []]]⟩ ⟨.tup [], [[sS 1 e_u8 z0.b, bv z0.bad], (TShard.ob_00010111 z1), [.fn (.func 15) [.ptr 1000 0] []]]⟩ := by
 refine kMt hmix save_reader_many_4.O Try.f16 bd16 63 ?_
 unfold save_reader_many_4 at h
 refine kBk 0 ?_
 obtain ⟨o6, ho6, h⟩ := bd_inv h
 refine kUs (save_reader_many_4.lp1_ok fu _ n_v o0_v o1_v _ ho6) ?_
 intro e_ τ_ hp_
 obtain ⟨y6_0, y6_1⟩ := o6
 obtain ⟨rfl, rfl⟩ := hp_
 have h_0 := some_inj h
 obtain ⟨g_1, h_1⟩ := Prod.mk.inj h_0
 subst g_1
 subst h_1
 exact kFn
def bd21 : Code := (Try.f21.body).getD .skip
def save_Take_4.O : Nat → Nat := fun t => bif ([6, 7] : List Nat).any (Nat.beq t) then 1 else 0
def save_Take_4 (fu : Nat) (o0_v : TShard) (o2_v : TReader) : Option (TShard × TReader) :=
 bd (save_reader_num fu o2_v) fun (r1_1, r1_2) =>
 gd (decide (o0_v.Said.length + ([r1_1] : List Int).length ≤ 4294967296)) <|
 some ((TShard.mk o0_v.ID o0_v.Shards o0_v.Done o0_v.S o0_v.Seats o0_v.Bits (o0_v.Said ++ ([r1_1] : List Int))), r1_2)
theorem save_Take_4.meets (fu : Nat) (o0_v : TShard) (o2_v : TReader) (z0 : TShard) (z1 : TReader) (h : save_Take_4 fu o0_v o2_v = some (z0, z1)) : Meets Try.prog ⟨21, [.ptr 1000 0, .ptr 1001 0], [(TShard.ob_00010111 o0_v), [.fn (.func 15) [.ptr 1002 0] []], [sS 1 e_u8 o2_v.b, bv o2_v.bad]]⟩ ⟨.tup [], [(TShard.ob_00010111 z0), [.fn (.func 15) [.ptr 1002 0] []], [sS 1 e_u8 z1.b, bv z1.bad]]⟩ := by
 refine kMt hmix save_Take_4.O Try.f21 bd21 31 ?_
 unfold save_Take_4 at h
 obtain ⟨⟨r1_1, r1_2⟩, h1_3, h⟩ := bd_inv h
 obtain ⟨c1_4, h⟩ := gd_inv h
 have h_0 := some_inj h
 obtain ⟨g_1, h_1⟩ := Prod.mk.inj h_0
 subst g_1
 subst h_1
 exact kRf [.a ⟨iv r1_1, [[sS 1 e_u8 r1_2.b, bv r1_2.bad]]⟩, .s (.t 7) [sO 1 e_i64 (o0_v.Said ++ ([r1_1] : List Int))]] (.c (Asks.of (C := Meets Try.prog) (save_reader_num.meets fu o2_v _ _ h1_3)) (.c (c_al (e := e_i64) (f := e_i64) c1_4) (.c (congrArg (fun d : DV => [AV.data d]) (c_app (e := e_i64) (s := 1) (l := o0_v.Said) (m := ([r1_1] : List Int)))) (.c rT .n))))
def save_reader_many_5.O : Nat → Nat := fun t => bif ([1] : List Nat).any (Nat.beq t) then 1 else 0
def save_reader_many_5.lp1 (fu : Nat) : Nat → Int → TReader → TShard → Option (TReader × TShard)
  | 0, _, _, _ => none
  | n_ + 1, l1_0, l1_1, l1_2 =>
  br (decide (l1_0 > 0))
   (br (!l1_1.bad)
    (bd (save_Take_4 fu l1_2 l1_1) fun (r4_1, r4_2) =>
    save_reader_many_5.lp1 fu n_ (w64 (l1_0 - 1)) r4_2 r4_1)
    (some (l1_1, l1_2)))
   (some (l1_1, l1_2))
def save_reader_many_5.lp1_post (r_ : (TReader × TShard)) : Wy → St → Prop := fun e τ => match r_ with
  | (y0, y1) => e = .exit 0 ∧ τ = ofL [Ob 1000 [sS 1 e_u8 y0.b, bv y0.bad], Ob 1001 (TShard.ob_00010111 y1), Ob 1002 [.fn (.func 15) [.ptr 1000 0] []]]
theorem save_reader_many_5.lp1_ok (fu : Nat) : ∀ (n_ : Nat) (l1_0 : Int) (l1_1 : TReader) (l1_2 : TShard) (r_ : (TReader × TShard)), save_reader_many_5.lp1 fu n_ l1_0 l1_1 l1_2 = some r_ → WK Try.prog save_reader_many_5.O (Ck Try.prog) (cB bd16) [] (ofL [Tm 0 (.ptr 1000 0), Tm 1 (iv l1_0), Tm 2 (.fn (.func 21) [] [.ptr 1001 0, .ptr 1002 0]), Ob 1000 [sS 1 e_u8 l1_1.b, bv l1_1.bad], Ob 1001 (TShard.ob_00010111 l1_2), Ob 1002 [.fn (.func 15) [.ptr 1000 0] []]]) (save_reader_many_5.lp1_post r_) := by
 intro n_
 induction n_ with
 | zero => intro l1_0 l1_1 l1_2 r_ h; exact no_none h
 | succ n_ ih =>
  intro l1_0 l1_1 l1_2 r_ h
  refine kLp ?_
  refine kSq ?_
  rcases br_inv h with ⟨b2_1, h⟩ | ⟨b2_1, h⟩
  ·refine kRs 63 [Tm 14 (bv (!l1_1.bad))] (rp 6 (.b true) []) (.r 6 b2_1 .n) ?_
   rcases br_inv h with ⟨b3_0, h⟩ | ⟨b3_0, h⟩
   ·refine kCt b3_0 ?_
    refine kSk ?_
    refine kCd (cR (cB (cB bd16))) [.lp (cB bd16)] ?_
    refine kSq ?_
    refine kBk 1 ?_
    obtain ⟨⟨r4_1, r4_2⟩, h4_3, h⟩ := bd_inv h
    refine kRc 78 [Ob 1000 [sS 1 e_u8 r4_2.b, bv r4_2.bad], Ob 1001 (TShard.ob_00010111 r4_1)] [.a ⟨.tup [], [(TShard.ob_00010111 r4_1), [.fn (.func 15) [.ptr 1002 0] []], [sS 1 e_u8 r4_2.b, bv r4_2.bad]]⟩] (.c (Asks.of (C := Meets Try.prog) (save_Take_4.meets fu l1_2 l1_1 _ _ h4_3)) .n) (cR (cR (cB (cB bd16)))) [.lp (cB bd16)] ?_
    refine kRc 55 [Tm 1 (iv (w64 (l1_0 - 1)))] [] .n (cB bd16) [] ?_
    exact kWk (ih (w64 (l1_0 - 1)) r4_2 r4_1 _ h)
   ·refine kCe b3_0 ?_
    cases some_inj h
    refine kWo ?_
    refine kXt 0 ?_
    exact kOut
  ·refine kRs 63 [Tm 14 (bv false)] (rp 6 (.b false) []) (.r 6 b2_1 .n) ?_
   refine kCe rF ?_
   cases some_inj h
   refine kWo ?_
   refine kXt 0 ?_
   exact kOut
def save_reader_many_5 (fu : Nat) (n_v : Int) (o0_v : TReader) (o1_v : TShard) : Option (TReader × TShard) :=
 bd (save_reader_many_5.lp1 fu fu n_v o0_v o1_v) fun (y6_0, y6_1) =>
 some (y6_0, y6_1)
theorem save_reader_many_5.meets (fu : Nat) (n_v : Int) (o0_v : TReader) (o1_v : TShard) (z0 : TReader) (z1 : TShard) (h : save_reader_many_5 fu n_v o0_v o1_v = some (z0, z1)) : Meets Try.prog ⟨16, [.ptr 1000 0, iv n_v, .fn (.func 21) [] [.ptr 1001 0, .ptr 1002 0]], [[sS 1 e_u8 o0_v.b, bv o0_v.bad], (TShard.ob_00010111 o1_v), [.fn (.func 15) [.ptr 1000 0] []]]⟩ ⟨.tup [], [[sS 1 e_u8 z0.b, bv z0.bad], (TShard.ob_00010111 z1), [.fn (.func 15) [.ptr 1000 0] []]]⟩ := by
 refine kMt hmix save_reader_many_5.O Try.f16 bd16 63 ?_
 unfold save_reader_many_5 at h
 refine kBk 0 ?_
 obtain ⟨o6, ho6, h⟩ := bd_inv h
 refine kUs (save_reader_many_5.lp1_ok fu _ n_v o0_v o1_v _ ho6) ?_
 intro e_ τ_ hp_
 obtain ⟨y6_0, y6_1⟩ := o6
 obtain ⟨rfl, rfl⟩ := hp_
 have h_0 := some_inj h
 obtain ⟨g_1, h_1⟩ := Prod.mk.inj h_0
 subst g_1
 subst h_1
 exact kFn
def bd22 : Code := (Try.f22.body).getD .skip
def bytes_Equal.O : Nat → Nat := fun t => bif ([4] : List Nat).any (Nat.beq t) then 1 else 0
def bytes_Equal (a : List Int) (b : List Int) : Option Bool :=
 some ((strB a).toList == (strB b).toList)
theorem bytes_Equal.meets (a : List Int) (b : List Int) (z0 : Bool) (h : bytes_Equal a b = some z0) : Meets Try.prog ⟨22, [sS 1 e_u8 a, sS 1 e_u8 b], []⟩ ⟨bv z0, []⟩ := by
 refine kMt hmix bytes_Equal.O Try.f22 bd22 3 ?_
 unfold bytes_Equal at h
 refine kRs 3 [] [] .n ?_
 refine kRs 0 [Tm 4 (bv ((strB a).toList == (strB b).toList))] [] (.c (c_ab a) (.c (c_ab b) .n)) ?_
 refine kRt ?_
 have h_ := some_inj h
 subst h_
 exact kFr
def bd8 : Code := (Try.f8.body).getD .skip
def save_Take.O : Nat → Nat := fun t => bif ([2, 3, 4, 5, 6, 7, 10, 12, 19, 21, 60, 61] : List Nat).any (Nat.beq t) then 1 else 0
def save_Take (fu : Nat) (b : List Int) : Option (TShard × Bool) :=
 bd (save_reader_num fu (TReader.mk b false)) fun (r4_1, r4_2) =>
 bd (save_reader_num fu r4_2) fun (r4_4, r4_5) =>
 bd (save_reader_num fu r4_5) fun (r4_7, r4_8) =>
 bd (save_reader_num fu r4_8) fun (r5_1, r5_2) =>
 bd (save_reader_num fu r5_2) fun (r6_1, r6_2) =>
 bd (save_reader_many fu r6_1 r6_2 (TShard.mk r4_1 r4_4 r4_7 (TStore.mk [] r5_1) [] [] [])) fun (r6_4, r6_5) =>
 bd (save_reader_num fu r6_4) fun (r7_1, r7_2) =>
 bd (save_reader_many_3 fu r7_1 r7_2 r6_5) fun (r7_4, r7_5) =>
 bd (save_reader_many_4 fu r7_5.Done r7_4 r7_5) fun (r8_1, r8_2) =>
 bd (save_reader_many_5 fu r8_2.Done r8_1 r8_2) fun (r9_1, r9_2) =>
 bd (save_Put fu r9_2) fun r10_1 =>
 br r9_1.bad
  (some ((TShard.mk 0 0 0 (TStore.mk [] 0) [] [] []), false))
  (br r10_1.isEmpty
   (some ((TShard.mk 0 0 0 (TStore.mk [] 0) [] [] []), false))
   (bd (bytes_Equal r10_1 b) fun r11_3 =>
   br (!r11_3)
    (some ((TShard.mk 0 0 0 (TStore.mk [] 0) [] [] []), false))
    (some (r9_2, true))))
theorem save_Take.meets (fu : Nat) (b : List Int) (z0 : TShard) (z1 : Bool) (h : save_Take fu b = some (z0, z1)) : Meets Try.prog ⟨8, [sS 1 e_u8 b], []⟩ ⟨.tup [.data (TShard.ag z0), bv z1], []⟩ := by
 refine kMt hmix save_Take.O Try.f8 bd8 1 ?_
 unfold save_Take at h
 refine kRs 1 [Tm 2 (.ptr 2 0), Ob 2 (TShard.ob_00010111 (TShard.mk 0 0 0 (TStore.mk [] 0) [] [] []))] [] .n ?_
 refine kRs 7 [Tm 4 (.ptr 4 0), Ob 4 [.ptr 10 0], Ob 10 [sS 1 e_u8 b, bv false]] [] .n ?_
 refine kRs 63 [Tm 5 (.ptr 5 0), Ob 5 [.fn (.func 15) [.ptr 10 0] []]] [] .n ?_
 obtain ⟨⟨r4_1, r4_2⟩, h4_3, h⟩ := bd_inv h
 obtain ⟨⟨r4_4, r4_5⟩, h4_6, h⟩ := bd_inv h
 obtain ⟨⟨r4_7, r4_8⟩, h4_9, h⟩ := bd_inv h
 refine kRs 239 [Tm 6 (.ptr 6 0), Ob 6 (TShard.ob_00010111 (TShard.mk r4_1 r4_4 r4_7 (TStore.mk [] 0) [] [] [])), Ob 10 [sS 1 e_u8 r4_8.b, bv r4_8.bad]] [.a ⟨iv r4_1, [[sS 1 e_u8 r4_2.b, bv r4_2.bad]]⟩, .a ⟨iv r4_4, [[sS 1 e_u8 r4_5.b, bv r4_5.bad]]⟩, .a ⟨iv r4_7, [[sS 1 e_u8 r4_8.b, bv r4_8.bad]]⟩] (.c (Asks.of (C := Meets Try.prog) (save_reader_num.meets fu (TReader.mk b false) _ _ h4_3)) (.c (Asks.of (C := Meets Try.prog) (save_reader_num.meets fu r4_2 _ _ h4_6)) (.c (Asks.of (C := Meets Try.prog) (save_reader_num.meets fu r4_5 _ _ h4_9)) (.c rT .n)))) ?_
 obtain ⟨⟨r5_1, r5_2⟩, h5_3, h⟩ := bd_inv h
 refine kRs 1017 [Ob 6 (TShard.ob_00010111 (TShard.mk r4_1 r4_4 r4_7 (TStore.mk [] r5_1) [] [] [])), Ob 10 [sS 1 e_u8 r5_2.b, bv r5_2.bad]] [.a ⟨iv r5_1, [[sS 1 e_u8 r5_2.b, bv r5_2.bad]]⟩] (.c (Asks.of (C := Meets Try.prog) (save_reader_num.meets fu r4_8 _ _ h5_3)) .n) ?_
 obtain ⟨⟨r6_1, r6_2⟩, h6_3, h⟩ := bd_inv h
 obtain ⟨⟨r6_4, r6_5⟩, h6_6, h⟩ := bd_inv h
 refine kRs 1020 [Ob 6 (TShard.ob_00010111 r6_5), Ob 10 [sS 1 e_u8 r6_4.b, bv r6_4.bad]] [.a ⟨iv r6_1, [[sS 1 e_u8 r6_2.b, bv r6_2.bad]]⟩, .a ⟨.tup [], [[sS 1 e_u8 r6_4.b, bv r6_4.bad], (TShard.ob_00010111 r6_5), [.ptr 1000 0]]⟩] (.c (Asks.of (C := Meets Try.prog) (save_reader_num.meets fu r5_2 _ _ h6_3)) (.c (Asks.of (C := Meets Try.prog) (save_reader_many.meets fu r6_1 r6_2 (TShard.mk r4_1 r4_4 r4_7 (TStore.mk [] r5_1) [] [] []) _ _ h6_6)) (.c rT .n))) ?_
 obtain ⟨⟨r7_1, r7_2⟩, h7_3, h⟩ := bd_inv h
 obtain ⟨⟨r7_4, r7_5⟩, h7_6, h⟩ := bd_inv h
 refine kRs 1020 [Ob 6 (TShard.ob_00010111 r7_5), Ob 10 [sS 1 e_u8 r7_4.b, bv r7_4.bad]] [.a ⟨iv r7_1, [[sS 1 e_u8 r7_2.b, bv r7_2.bad]]⟩, .a ⟨.tup [], [[sS 1 e_u8 r7_4.b, bv r7_4.bad], (TShard.ob_00010111 r7_5), [.fn (.func 15) [.ptr 1000 0] []]]⟩] (.c (Asks.of (C := Meets Try.prog) (save_reader_num.meets fu r6_4 _ _ h7_3)) (.c (Asks.of (C := Meets Try.prog) (save_reader_many_3.meets fu r7_1 r7_2 r6_5 _ _ h7_6)) (.c rT .n))) ?_
 obtain ⟨⟨r8_1, r8_2⟩, h8_3, h⟩ := bd_inv h
 refine kRs 1020 [Ob 6 (TShard.ob_00010111 r8_2), Ob 10 [sS 1 e_u8 r8_1.b, bv r8_1.bad]] [.a ⟨.tup [], [[sS 1 e_u8 r8_1.b, bv r8_1.bad], (TShard.ob_00010111 r8_2), [.fn (.func 15) [.ptr 1000 0] []]]⟩] (.c (Asks.of (C := Meets Try.prog) (save_reader_many_4.meets fu r7_5.Done r7_4 r7_5 _ _ h8_3)) .n) ?_
 obtain ⟨⟨r9_1, r9_2⟩, h9_3, h⟩ := bd_inv h
 refine kRs 996 [Ob 6 (TShard.ob_00010111 r9_2), Ob 10 [sS 1 e_u8 r9_1.b, bv r9_1.bad]] [.a ⟨.tup [], [[sS 1 e_u8 r9_1.b, bv r9_1.bad], (TShard.ob_00010111 r9_2), [.fn (.func 15) [.ptr 1000 0] []]]⟩] (.c (Asks.of (C := Meets Try.prog) (save_reader_many_5.meets fu r8_2.Done r8_1 r8_2 _ _ h9_3)) .n) ?_
 refine kSq ?_
 obtain ⟨r10_1, h10_2, h⟩ := bd_inv h
 refine kRs 254 [Tm 7 (.data (.slc true (some r10_1.isEmpty) 1 (List.map e_u8 r10_1))), Ob 6 (TShard.ob r9_2)] [.a ⟨.data (.slc true (some r10_1.isEmpty) 1 (List.map e_u8 r10_1)), []⟩] (.c (Asks.of (C := Meets Try.prog) (save_Put.meets fu r9_2 _ h10_2)) .n) ?_
 rcases br_inv h with ⟨b11_1, h⟩ | ⟨b11_1, h⟩
 ·refine kRs 202 [Tm 59 (bv true)] (rp 8 (.b true) []) (.r 3 b11_1 (.r 5 rT .n)) ?_
  refine kCt rT ?_
  refine kRs 24 [Tm 3 (bv false)] [] .n ?_
  refine kRt ?_
  have h_0 := some_inj h
  obtain ⟨g_1, h_1⟩ := Prod.mk.inj h_0
  subst g_1
  subst h_1
  exact kFr
 ·rcases br_inv h with ⟨b11_2, h⟩ | ⟨b11_2, h⟩
  ·refine kRs 202 [Tm 59 (bv true)] (.b false :: (.b false :: (.b false :: (rp 5 (.b true) [])))) (.r 3 b11_1 (.r 5 b11_2 .n)) ?_
   refine kCt rT ?_
   refine kRs 24 [Tm 3 (bv false)] [] .n ?_
   refine kRt ?_
   have h_0 := some_inj h
   obtain ⟨g_1, h_1⟩ := Prod.mk.inj h_0
   subst g_1
   subst h_1
   exact kFr
  ·obtain ⟨r11_3, h11_4, h⟩ := bd_inv h
   refine kRs 202 [Tm 59 (bv (!r11_3))] (rp 6 (.b false) [.a ⟨bv r11_3, []⟩, .b false, .b false]) (.r 3 b11_1 (.r 3 b11_2 (.c (Asks.fg (args1 := []) (args2 := [sS 1 e_u8 b]) (nl := some r10_1.isEmpty) (sz := 1) (es := List.map e_u8 r10_1) (Asks.of (C := Meets Try.prog) (bytes_Equal.meets r10_1 b _ h11_4))) (.r 2 b11_2 .n)))) ?_
   rcases br_inv h with ⟨b14_0, h⟩ | ⟨b14_0, h⟩
   ·refine kCt b14_0 ?_
    refine kRs 24 [Tm 3 (bv false)] [] .n ?_
    refine kRt ?_
    have h_0 := some_inj h
    obtain ⟨g_1, h_1⟩ := Prod.mk.inj h_0
    subst g_1
    subst h_1
    exact kFr
   ·refine kCe b14_0 ?_
    refine kSk ?_
    refine kCd (cR (cR (cR (cR (cR (cR (cR (cR (cR (cR bd8)))))))))) [] ?_
    refine kRs 8 [Tm 3 (bv true), Ob 2 (TShard.ob r9_2)] [] .n ?_
    refine kRt ?_
    have h_0 := some_inj h
    obtain ⟨g_1, h_1⟩ := Prod.mk.inj h_0
    subst g_1
    subst h_1
    exact kFr
def bd40 : Code := (Try.f40.body).getD .skip
def diwanref13_SameChain.O : Nat → Nat := fun t => bif ([4, 5] : List Nat).any (Nat.beq t) then 1 else 0
def diwanref13_SameChain.lp6 (fu : Nat) (l6_0 : List TVersion) (l6_1 : List TVersion) : Nat → Int → Option (Unit ⊕ Unit)
  | 0, _ => none
  | n_ + 1, l6_2 =>
  br (decide (l6_2 < (l6_0.length : Int)))
   (ix l6_0 l6_2 fun x9_1 =>
   ix l6_1 l6_2 fun x9_4 =>
   br (!((x9_1.Pos == x9_4.Pos) && ((x9_1.Val.toList == x9_4.Val.toList) && ((x9_1.Gone == x9_4.Gone) && true))))
    (some (.inr ()))
    (diwanref13_SameChain.lp6 fu l6_0 l6_1 n_ (w64 (l6_2 + 1))))
   (some (.inl ()))
def diwanref13_SameChain.lp6_post (l6_0 : List TVersion) (l6_1 : List TVersion) (r_ : (Unit ⊕ Unit)) : Wy → St → Prop := fun e τ => match r_ with
  | .inl _ => e = .exit 0 ∧ τ = ofL []
  | .inr _ => e = .ret ∧ τ = ofL [Tm 4 (bv false)]
theorem diwanref13_SameChain.lp6_ok (fu : Nat) (l6_0 : List TVersion) (l6_1 : List TVersion) : ∀ (n_ : Nat) (l6_2 : Int) (r_ : (Unit ⊕ Unit)), diwanref13_SameChain.lp6 fu l6_0 l6_1 n_ l6_2 = some r_ → WK Try.prog diwanref13_SameChain.O (Ck Try.prog) (cB (cR (cL (cR (cR bd40))))) [] (ofL [Tm 0 (sS 3 TVersion.en l6_0), Tm 1 (sS 3 TVersion.en l6_1), Tm 5 (iv l6_2)]) (diwanref13_SameChain.lp6_post l6_0 l6_1 r_) := by
 intro n_
 induction n_ with
 | zero => intro l6_2 r_ h; exact no_none h
 | succ n_ ih =>
  intro l6_2 r_ h
  refine kLp ?_
  refine kSq ?_
  refine kRs 7 [Tm 14 (bv (decide (l6_2 < (l6_0.length : Int))))] [.s (.t 13) [iv (l6_0.length : Int)]] (.c (c_len (e := TVersion.en) (l := l6_0)) .n) ?_
  rcases br_inv h with ⟨b8_0, h⟩ | ⟨b8_0, h⟩
  ·refine kCt b8_0 ?_
   refine kSk ?_
   refine kCd (cR (cB (cB (cR (cL (cR (cR bd40))))))) [.lp (cB (cR (cL (cR (cR bd40)))))] ?_
   refine kSq ?_
   refine kBk 1 ?_
   obtain ⟨x9_1, a9_2, e9_3, h⟩ := ix_inv h
   obtain ⟨x9_4, a9_5, e9_6, h⟩ := ix_inv h
   refine kRs 14 [Tm 25 (bv (!((x9_1.Pos == x9_4.Pos) && ((x9_1.Val.toList == x9_4.Val.toList) && ((x9_1.Gone == x9_4.Gone) && true)))))] [.c (TVersion.en x9_1), .c (TVersion.en x9_4)] (.c (c_ix (e := TVersion.en) a9_2 e9_3) (.c (c_el (e := TVersion.en) e9_3) (.c (c_ix (e := TVersion.en) a9_5 e9_6) (.c (c_el (e := TVersion.en) e9_6) (.c rT .n))))) ?_
   rcases br_inv h with ⟨b10_0, h⟩ | ⟨b10_0, h⟩
   ·refine kCt b10_0 ?_
    refine kRs 0 [Tm 4 (bv false)] [] .n ?_
    cases some_inj h
    refine kWo ?_
    refine kRt ?_
    exact kOut
   ·refine kCe b10_0 ?_
    refine kSk ?_
    refine kCd (cR (cR (cB (cB (cR (cL (cR (cR bd40)))))))) [.lp (cB (cR (cL (cR (cR bd40)))))] ?_
    refine kRc 6 [Tm 5 (iv (w64 (l6_2 + 1)))] [] .n (cB (cR (cL (cR (cR bd40))))) [] ?_
    exact kWk (ih (w64 (l6_2 + 1)) _ h)
  ·refine kCe b8_0 ?_
   cases some_inj h
   refine kWo ?_
   refine kXt 0 ?_
   exact kOut
def diwanref13_SameChain (fu : Nat) (a : List TVersion) (b : List TVersion) : Option Bool :=
 br ((a.length : Int) != (b.length : Int))
  (some false)
  (bd (diwanref13_SameChain.lp6 fu a b fu 0) fun o_ => (match o_ with
  | .inl _ =>
   some true
  | .inr _ =>
   some false))
theorem diwanref13_SameChain.meets (fu : Nat) (a : List TVersion) (b : List TVersion) (z0 : Bool) (h : diwanref13_SameChain fu a b = some z0) : Meets Try.prog ⟨40, [sS 3 TVersion.en a, sS 3 TVersion.en b], []⟩ ⟨bv z0, []⟩ := by
 refine kMt hmix diwanref13_SameChain.O Try.f40 bd40 3 ?_
 unfold diwanref13_SameChain at h
 refine kRs 3 [] [] .n ?_
 refine kSq ?_
 refine kRs 3 [Tm 10 (bv ((a.length : Int) != (b.length : Int)))] [.s (.t 7) [iv (a.length : Int)], .s (.t 9) [iv (b.length : Int)]] (.c (c_len (e := TVersion.en) (l := a)) (.c (c_len (e := TVersion.en) (l := b)) .n)) ?_
 rcases br_inv h with ⟨b3_0, h⟩ | ⟨b3_0, h⟩
 ·refine kCt b3_0 ?_
  refine kRs 0 [Tm 4 (bv false)] [] .n ?_
  refine kRt ?_
  have h_ := some_inj h
  subst h_
  exact kFr
 ·refine kCe b3_0 ?_
  refine kSk ?_
  refine kCd (cR (cR bd40)) [] ?_
  refine kSq ?_
  refine kRs 6 [Tm 5 (iv 0)] [] .n ?_
  refine kBk 0 ?_
  obtain ⟨o13, ho13, h⟩ := bd_inv h
  refine kUs (diwanref13_SameChain.lp6_ok fu a b _ 0 _ ho13) ?_
  intro e_ τ_ hp_
  rcases o13 with o13 | o13
  ·obtain ⟨⟩ := o13
   obtain ⟨rfl, rfl⟩ := hp_
   refine kCd (cR (cR (cR bd40))) [] ?_
   refine kRs 0 [Tm 4 (bv true)] [] .n ?_
   refine kRt ?_
   have h_ := some_inj h
   subst h_
   exact kFr
  ·obtain ⟨⟩ := o13
   obtain ⟨rfl, rfl⟩ := hp_
   have h_ := some_inj h
   subst h_
   exact kFr
def bd23 : Code := (Try.f23.body).getD .skip
def diwanref13_SameStore.O : Nat → Nat := fun t => bif ([2, 3, 4, 5] : List Nat).any (Nat.beq t) then 1 else 0
def diwanref13_SameStore.lp7 (fu : Nat) (l7_1 : TStore) (l7_2 : TStore) : Nat → Int → Option (Unit ⊕ Unit)
  | 0, _ => none
  | n_ + 1, l7_0 =>
  br (decide (l7_0 < (l7_1.Chains.length : Int)))
   (ix l7_1.Chains l7_0 fun x10_1 =>
   ix l7_2.Chains l7_0 fun x10_4 =>
   br (!(x10_1.Key.toList == x10_4.Key.toList))
    (some (.inr ()))
    (ix l7_1.Chains l7_0 fun x10_8 =>
    ix l7_2.Chains l7_0 fun x10_11 =>
    bd (diwanref13_SameChain fu x10_8.L x10_11.L) fun r10_14 =>
    br (!r10_14)
     (some (.inr ()))
     (diwanref13_SameStore.lp7 fu l7_1 l7_2 n_ (w64 (l7_0 + 1)))))
   (some (.inl ()))
def diwanref13_SameStore.lp7_post (l7_1 : TStore) (l7_2 : TStore) (r_ : (Unit ⊕ Unit)) : Wy → St → Prop := fun e τ => match r_ with
  | .inl _ => e = .exit 0 ∧ τ = ofL []
  | .inr _ => e = .ret ∧ τ = ofL [Tm 4 (bv false)]
theorem diwanref13_SameStore.lp7_ok (fu : Nat) (l7_1 : TStore) (l7_2 : TStore) : ∀ (n_ : Nat) (l7_0 : Int) (r_ : (Unit ⊕ Unit)), diwanref13_SameStore.lp7 fu l7_1 l7_2 n_ l7_0 = some r_ → WK Try.prog diwanref13_SameStore.O (Ck Try.prog) (cB (cR (cL (cR (cR bd23))))) [] (ofL [Tm 2 (.ptr 2 0), Tm 3 (.ptr 3 0), Tm 5 (iv l7_0), Ob 2 [sS 2 TChain.en l7_1.Chains, iv l7_1.Mark], Ob 3 [sS 2 TChain.en l7_2.Chains, iv l7_2.Mark]]) (diwanref13_SameStore.lp7_post l7_1 l7_2 r_) := by
 intro n_
 induction n_ with
 | zero => intro l7_0 r_ h; exact no_none h
 | succ n_ ih =>
  intro l7_0 r_ h
  refine kLp ?_
  refine kSq ?_
  refine kRs 31 [Tm 24 (bv (decide (l7_0 < (l7_1.Chains.length : Int))))] [.s (.t 23) [iv (l7_1.Chains.length : Int)]] (.c (c_len (e := TChain.en) (l := l7_1.Chains)) .n) ?_
  rcases br_inv h with ⟨b9_0, h⟩ | ⟨b9_0, h⟩
  ·refine kCt b9_0 ?_
   refine kSk ?_
   refine kCd (cR (cB (cB (cR (cL (cR (cR bd23))))))) [.lp (cB (cR (cL (cR (cR bd23)))))] ?_
   refine kSq ?_
   refine kBk 1 ?_
   obtain ⟨x10_1, a10_2, e10_3, h⟩ := ix_inv h
   obtain ⟨x10_4, a10_5, e10_6, h⟩ := ix_inv h
   rcases br_inv h with ⟨b10_7, h⟩ | ⟨b10_7, h⟩
   ·refine kRs 62 [Tm 55 (bv true)] (.c (TChain.en x10_1) :: (.c (TChain.en x10_4) :: (rp 15 (.b true) []))) (.c (c_ix (e := TChain.en) a10_2 e10_3) (.c (c_el (e := TChain.en) e10_3) (.c (c_ix (e := TChain.en) a10_5 e10_6) (.c (c_el (e := TChain.en) e10_6) (.r 15 b10_7 (.c rT .n)))))) ?_
    refine kCt rT ?_
    refine kRs 0 [Tm 4 (bv false)] [] .n ?_
    cases some_inj h
    refine kWo ?_
    refine kRt ?_
    exact kOut
   ·obtain ⟨x10_8, a10_9, e10_10, h⟩ := ix_inv h
    obtain ⟨x10_11, a10_12, e10_13, h⟩ := ix_inv h
    obtain ⟨r10_14, h10_15, h⟩ := bd_inv h
    refine kRs 62 [Tm 55 (bv (!r10_14))] (.c (TChain.en x10_1) :: (.c (TChain.en x10_4) :: (rp 4 (.b false) (.c (TChain.en x10_8) :: (rp 6 (.b false) [.c (TChain.en x10_11), .b false, .b false, .b false, .a ⟨bv r10_14, []⟩, .b false, .b false]))))) (.c (c_ix (e := TChain.en) a10_2 e10_3) (.c (c_el (e := TChain.en) e10_3) (.c (c_ix (e := TChain.en) a10_5 e10_6) (.c (c_el (e := TChain.en) e10_6) (.r 4 b10_7 (.c (c_ix (e := TChain.en) a10_9 e10_10) (.c (c_el (e := TChain.en) e10_10) (.r 6 b10_7 (.c (c_ix (e := TChain.en) a10_12 e10_13) (.c (c_el (e := TChain.en) e10_13) (.r 3 b10_7 (.c (Asks.of (C := Meets Try.prog) (diwanref13_SameChain.meets fu x10_8.L x10_11.L _ h10_15)) (.r 2 b10_7 (.c rT .n)))))))))))))) ?_
    rcases br_inv h with ⟨b12_0, h⟩ | ⟨b12_0, h⟩
    ·refine kCt b12_0 ?_
     refine kRs 0 [Tm 4 (bv false)] [] .n ?_
     cases some_inj h
     refine kWo ?_
     refine kRt ?_
     exact kOut
    ·refine kCe b12_0 ?_
     refine kSk ?_
     refine kCd (cR (cR (cB (cB (cR (cL (cR (cR bd23)))))))) [.lp (cB (cR (cL (cR (cR bd23)))))] ?_
     refine kRc 54 [Tm 5 (iv (w64 (l7_0 + 1)))] [] .n (cB (cR (cL (cR (cR bd23))))) [] ?_
     exact kWk (ih (w64 (l7_0 + 1)) _ h)
  ·refine kCe b9_0 ?_
   cases some_inj h
   refine kWo ?_
   refine kXt 0 ?_
   exact kOut
def diwanref13_SameStore (fu : Nat) (a : TStore) (b : TStore) : Option Bool :=
 br (a.Mark != b.Mark)
  (some false)
  (br ((a.Chains.length : Int) != (b.Chains.length : Int))
   (some false)
   (bd (diwanref13_SameStore.lp7 fu a b fu 0) fun o_ => (match o_ with
   | .inl _ =>
    some true
   | .inr _ =>
    some false)))
theorem diwanref13_SameStore.meets (fu : Nat) (a : TStore) (b : TStore) (z0 : Bool) (h : diwanref13_SameStore fu a b = some z0) : Meets Try.prog ⟨23, [.data (.agg [.slc false none 2 (List.map TChain.en a.Chains), .val (.int .i64 a.Mark)]), .data (.agg [.slc false none 2 (List.map TChain.en b.Chains), .val (.int .i64 b.Mark)])], []⟩ ⟨bv z0, []⟩ := by
 refine kMt hmix diwanref13_SameStore.O Try.f23 bd23 3 ?_
 unfold diwanref13_SameStore at h
 refine kRs 0 [Tm 2 (.ptr 2 0), Tm 3 (.ptr 3 0), Ob 2 [sS 2 TChain.en a.Chains, iv a.Mark], Ob 3 [sS 2 TChain.en b.Chains, iv b.Mark]] [] .n ?_
 refine kSq ?_
 rcases br_inv h with ⟨b2_1, h⟩ | ⟨b2_1, h⟩
 ·refine kRs 15 [Tm 19 (bv true)] (rp 8 (.b true) []) (.r 8 b2_1 .n) ?_
  refine kCt rT ?_
  refine kRs 0 [Tm 4 (bv false)] [] .n ?_
  refine kRt ?_
  have h_ := some_inj h
  subst h_
  exact kFr
 ·refine kRs 15 [Tm 19 (bv ((a.Chains.length : Int) != (b.Chains.length : Int)))] [.b false, .b false, .b false, .s (.t 14) [iv (a.Chains.length : Int)], .b false, .b false, .b false, .s (.t 17) [iv (b.Chains.length : Int)], .b false, .b false] (.r 3 b2_1 (.c (c_len (e := TChain.en) (l := a.Chains)) (.r 3 b2_1 (.c (c_len (e := TChain.en) (l := b.Chains)) (.r 2 b2_1 .n))))) ?_
  rcases br_inv h with ⟨b4_0, h⟩ | ⟨b4_0, h⟩
  ·refine kCt b4_0 ?_
   refine kRs 0 [Tm 4 (bv false)] [] .n ?_
   refine kRt ?_
   have h_ := some_inj h
   subst h_
   exact kFr
  ·refine kCe b4_0 ?_
   refine kSk ?_
   refine kCd (cR (cR bd23)) [] ?_
   refine kSq ?_
   refine kRs 30 [Tm 5 (iv 0)] [] .n ?_
   refine kBk 0 ?_
   obtain ⟨o15, ho15, h⟩ := bd_inv h
   refine kUs (diwanref13_SameStore.lp7_ok fu a b _ 0 _ ho15) ?_
   intro e_ τ_ hp_
   rcases o15 with o15 | o15
   ·obtain ⟨⟩ := o15
    obtain ⟨rfl, rfl⟩ := hp_
    refine kCd (cR (cR (cR bd23))) [] ?_
    refine kRs 0 [Tm 4 (bv true)] [] .n ?_
    refine kRt ?_
    have h_ := some_inj h
    subst h_
    exact kFr
   ·obtain ⟨⟩ := o15
    obtain ⟨rfl, rfl⟩ := hp_
    have h_ := some_inj h
    subst h_
    exact kFr
def bd24 : Code := (Try.f24.body).getD .skip
def diwanref13_SameSeats.O : Nat → Nat := fun t => bif ([4, 5] : List Nat).any (Nat.beq t) then 1 else 0
def diwanref13_SameSeats.lp6 (fu : Nat) (l6_0 : List TSeat) (l6_1 : List TSeat) : Nat → Int → Option (Unit ⊕ Unit)
  | 0, _ => none
  | n_ + 1, l6_2 =>
  br (decide (l6_2 < (l6_0.length : Int)))
   (ix l6_0 l6_2 fun x9_1 =>
   ix l6_1 l6_2 fun x9_4 =>
   br (!((x9_1.Session == x9_4.Session) && ((x9_1.Seq == x9_4.Seq) && ((x9_1.Pos == x9_4.Pos) && true))))
    (some (.inr ()))
    (diwanref13_SameSeats.lp6 fu l6_0 l6_1 n_ (w64 (l6_2 + 1))))
   (some (.inl ()))
def diwanref13_SameSeats.lp6_post (l6_0 : List TSeat) (l6_1 : List TSeat) (r_ : (Unit ⊕ Unit)) : Wy → St → Prop := fun e τ => match r_ with
  | .inl _ => e = .exit 0 ∧ τ = ofL []
  | .inr _ => e = .ret ∧ τ = ofL [Tm 4 (bv false)]
theorem diwanref13_SameSeats.lp6_ok (fu : Nat) (l6_0 : List TSeat) (l6_1 : List TSeat) : ∀ (n_ : Nat) (l6_2 : Int) (r_ : (Unit ⊕ Unit)), diwanref13_SameSeats.lp6 fu l6_0 l6_1 n_ l6_2 = some r_ → WK Try.prog diwanref13_SameSeats.O (Ck Try.prog) (cB (cR (cL (cR (cR bd24))))) [] (ofL [Tm 0 (sS 3 TSeat.en l6_0), Tm 1 (sS 3 TSeat.en l6_1), Tm 5 (iv l6_2)]) (diwanref13_SameSeats.lp6_post l6_0 l6_1 r_) := by
 intro n_
 induction n_ with
 | zero => intro l6_2 r_ h; exact no_none h
 | succ n_ ih =>
  intro l6_2 r_ h
  refine kLp ?_
  refine kSq ?_
  refine kRs 7 [Tm 14 (bv (decide (l6_2 < (l6_0.length : Int))))] [.s (.t 13) [iv (l6_0.length : Int)]] (.c (c_len (e := TSeat.en) (l := l6_0)) .n) ?_
  rcases br_inv h with ⟨b8_0, h⟩ | ⟨b8_0, h⟩
  ·refine kCt b8_0 ?_
   refine kSk ?_
   refine kCd (cR (cB (cB (cR (cL (cR (cR bd24))))))) [.lp (cB (cR (cL (cR (cR bd24)))))] ?_
   refine kSq ?_
   refine kBk 1 ?_
   obtain ⟨x9_1, a9_2, e9_3, h⟩ := ix_inv h
   obtain ⟨x9_4, a9_5, e9_6, h⟩ := ix_inv h
   refine kRs 14 [Tm 25 (bv (!((x9_1.Session == x9_4.Session) && ((x9_1.Seq == x9_4.Seq) && ((x9_1.Pos == x9_4.Pos) && true)))))] [.c (TSeat.en x9_1), .c (TSeat.en x9_4)] (.c (c_ix (e := TSeat.en) a9_2 e9_3) (.c (c_el (e := TSeat.en) e9_3) (.c (c_ix (e := TSeat.en) a9_5 e9_6) (.c (c_el (e := TSeat.en) e9_6) (.c rT .n))))) ?_
   rcases br_inv h with ⟨b10_0, h⟩ | ⟨b10_0, h⟩
   ·refine kCt b10_0 ?_
    refine kRs 0 [Tm 4 (bv false)] [] .n ?_
    cases some_inj h
    refine kWo ?_
    refine kRt ?_
    exact kOut
   ·refine kCe b10_0 ?_
    refine kSk ?_
    refine kCd (cR (cR (cB (cB (cR (cL (cR (cR bd24)))))))) [.lp (cB (cR (cL (cR (cR bd24)))))] ?_
    refine kRc 6 [Tm 5 (iv (w64 (l6_2 + 1)))] [] .n (cB (cR (cL (cR (cR bd24))))) [] ?_
    exact kWk (ih (w64 (l6_2 + 1)) _ h)
  ·refine kCe b8_0 ?_
   cases some_inj h
   refine kWo ?_
   refine kXt 0 ?_
   exact kOut
def diwanref13_SameSeats (fu : Nat) (a : List TSeat) (b : List TSeat) : Option Bool :=
 br ((a.length : Int) != (b.length : Int))
  (some false)
  (bd (diwanref13_SameSeats.lp6 fu a b fu 0) fun o_ => (match o_ with
  | .inl _ =>
   some true
  | .inr _ =>
   some false))
theorem diwanref13_SameSeats.meets (fu : Nat) (a : List TSeat) (b : List TSeat) (z0 : Bool) (h : diwanref13_SameSeats fu a b = some z0) : Meets Try.prog ⟨24, [sS 3 TSeat.en a, sS 3 TSeat.en b], []⟩ ⟨bv z0, []⟩ := by
 refine kMt hmix diwanref13_SameSeats.O Try.f24 bd24 3 ?_
 unfold diwanref13_SameSeats at h
 refine kRs 3 [] [] .n ?_
 refine kSq ?_
 refine kRs 3 [Tm 10 (bv ((a.length : Int) != (b.length : Int)))] [.s (.t 7) [iv (a.length : Int)], .s (.t 9) [iv (b.length : Int)]] (.c (c_len (e := TSeat.en) (l := a)) (.c (c_len (e := TSeat.en) (l := b)) .n)) ?_
 rcases br_inv h with ⟨b3_0, h⟩ | ⟨b3_0, h⟩
 ·refine kCt b3_0 ?_
  refine kRs 0 [Tm 4 (bv false)] [] .n ?_
  refine kRt ?_
  have h_ := some_inj h
  subst h_
  exact kFr
 ·refine kCe b3_0 ?_
  refine kSk ?_
  refine kCd (cR (cR bd24)) [] ?_
  refine kSq ?_
  refine kRs 6 [Tm 5 (iv 0)] [] .n ?_
  refine kBk 0 ?_
  obtain ⟨o13, ho13, h⟩ := bd_inv h
  refine kUs (diwanref13_SameSeats.lp6_ok fu a b _ 0 _ ho13) ?_
  intro e_ τ_ hp_
  rcases o13 with o13 | o13
  ·obtain ⟨⟩ := o13
   obtain ⟨rfl, rfl⟩ := hp_
   refine kCd (cR (cR (cR bd24))) [] ?_
   refine kRs 0 [Tm 4 (bv true)] [] .n ?_
   refine kRt ?_
   have h_ := some_inj h
   subst h_
   exact kFr
  ·obtain ⟨⟩ := o13
   obtain ⟨rfl, rfl⟩ := hp_
   have h_ := some_inj h
   subst h_
   exact kFr
def bd25 : Code := (Try.f25.body).getD .skip
def diwanref13_SameInts.O : Nat → Nat := fun t => bif ([4, 5] : List Nat).any (Nat.beq t) then 1 else 0
def diwanref13_SameInts.lp6 (fu : Nat) (l6_0 : List Int) (l6_1 : List Int) : Nat → Int → Option (Unit ⊕ Unit)
  | 0, _ => none
  | n_ + 1, l6_2 =>
  br (decide (l6_2 < (l6_0.length : Int)))
   (ix l6_0 l6_2 fun x9_1 =>
   ix l6_1 l6_2 fun x9_4 =>
   br (x9_1 != x9_4)
    (some (.inr ()))
    (diwanref13_SameInts.lp6 fu l6_0 l6_1 n_ (w64 (l6_2 + 1))))
   (some (.inl ()))
def diwanref13_SameInts.lp6_post (l6_0 : List Int) (l6_1 : List Int) (r_ : (Unit ⊕ Unit)) : Wy → St → Prop := fun e τ => match r_ with
  | .inl _ => e = .exit 0 ∧ τ = ofL []
  | .inr _ => e = .ret ∧ τ = ofL [Tm 4 (bv false)]
theorem diwanref13_SameInts.lp6_ok (fu : Nat) (l6_0 : List Int) (l6_1 : List Int) : ∀ (n_ : Nat) (l6_2 : Int) (r_ : (Unit ⊕ Unit)), diwanref13_SameInts.lp6 fu l6_0 l6_1 n_ l6_2 = some r_ → WK Try.prog diwanref13_SameInts.O (Ck Try.prog) (cB (cR (cL (cR (cR bd25))))) [] (ofL [Tm 0 (sS 1 e_i64 l6_0), Tm 1 (sS 1 e_i64 l6_1), Tm 5 (iv l6_2)]) (diwanref13_SameInts.lp6_post l6_0 l6_1 r_) := by
 intro n_
 induction n_ with
 | zero => intro l6_2 r_ h; exact no_none h
 | succ n_ ih =>
  intro l6_2 r_ h
  refine kLp ?_
  refine kSq ?_
  refine kRs 7 [Tm 14 (bv (decide (l6_2 < (l6_0.length : Int))))] [.s (.t 13) [iv (l6_0.length : Int)]] (.c (c_len (e := e_i64) (l := l6_0)) .n) ?_
  rcases br_inv h with ⟨b8_0, h⟩ | ⟨b8_0, h⟩
  ·refine kCt b8_0 ?_
   refine kSk ?_
   refine kCd (cR (cB (cB (cR (cL (cR (cR bd25))))))) [.lp (cB (cR (cL (cR (cR bd25)))))] ?_
   refine kSq ?_
   refine kBk 1 ?_
   obtain ⟨x9_1, a9_2, e9_3, h⟩ := ix_inv h
   obtain ⟨x9_4, a9_5, e9_6, h⟩ := ix_inv h
   refine kRs 14 [Tm 25 (bv (x9_1 != x9_4))] [.c (e_i64 x9_1), .c (e_i64 x9_4)] (.c (c_ix (e := e_i64) a9_2 e9_3) (.c (c_el (e := e_i64) e9_3) (.c (c_ix (e := e_i64) a9_5 e9_6) (.c (c_el (e := e_i64) e9_6) (.c rT .n))))) ?_
   rcases br_inv h with ⟨b10_0, h⟩ | ⟨b10_0, h⟩
   ·refine kCt b10_0 ?_
    refine kRs 0 [Tm 4 (bv false)] [] .n ?_
    cases some_inj h
    refine kWo ?_
    refine kRt ?_
    exact kOut
   ·refine kCe b10_0 ?_
    refine kSk ?_
    refine kCd (cR (cR (cB (cB (cR (cL (cR (cR bd25)))))))) [.lp (cB (cR (cL (cR (cR bd25)))))] ?_
    refine kRc 6 [Tm 5 (iv (w64 (l6_2 + 1)))] [] .n (cB (cR (cL (cR (cR bd25))))) [] ?_
    exact kWk (ih (w64 (l6_2 + 1)) _ h)
  ·refine kCe b8_0 ?_
   cases some_inj h
   refine kWo ?_
   refine kXt 0 ?_
   exact kOut
def diwanref13_SameInts (fu : Nat) (a : List Int) (b : List Int) : Option Bool :=
 br ((a.length : Int) != (b.length : Int))
  (some false)
  (bd (diwanref13_SameInts.lp6 fu a b fu 0) fun o_ => (match o_ with
  | .inl _ =>
   some true
  | .inr _ =>
   some false))
theorem diwanref13_SameInts.meets (fu : Nat) (a : List Int) (b : List Int) (z0 : Bool) (h : diwanref13_SameInts fu a b = some z0) : Meets Try.prog ⟨25, [sS 1 e_i64 a, sS 1 e_i64 b], []⟩ ⟨bv z0, []⟩ := by
 refine kMt hmix diwanref13_SameInts.O Try.f25 bd25 3 ?_
 unfold diwanref13_SameInts at h
 refine kRs 3 [] [] .n ?_
 refine kSq ?_
 refine kRs 3 [Tm 10 (bv ((a.length : Int) != (b.length : Int)))] [.s (.t 7) [iv (a.length : Int)], .s (.t 9) [iv (b.length : Int)]] (.c (c_len (e := e_i64) (l := a)) (.c (c_len (e := e_i64) (l := b)) .n)) ?_
 rcases br_inv h with ⟨b3_0, h⟩ | ⟨b3_0, h⟩
 ·refine kCt b3_0 ?_
  refine kRs 0 [Tm 4 (bv false)] [] .n ?_
  refine kRt ?_
  have h_ := some_inj h
  subst h_
  exact kFr
 ·refine kCe b3_0 ?_
  refine kSk ?_
  refine kCd (cR (cR bd25)) [] ?_
  refine kSq ?_
  refine kRs 6 [Tm 5 (iv 0)] [] .n ?_
  refine kBk 0 ?_
  obtain ⟨o13, ho13, h⟩ := bd_inv h
  refine kUs (diwanref13_SameInts.lp6_ok fu a b _ 0 _ ho13) ?_
  intro e_ τ_ hp_
  rcases o13 with o13 | o13
  ·obtain ⟨⟩ := o13
   obtain ⟨rfl, rfl⟩ := hp_
   refine kCd (cR (cR (cR bd25))) [] ?_
   refine kRs 0 [Tm 4 (bv true)] [] .n ?_
   refine kRt ?_
   have h_ := some_inj h
   subst h_
   exact kFr
  ·obtain ⟨⟩ := o13
   obtain ⟨rfl, rfl⟩ := hp_
   have h_ := some_inj h
   subst h_
   exact kFr
def bd9 : Code := (Try.f9.body).getD .skip
def diwanref13_SameShard.O : Nat → Nat := fun t => bif ([2, 3, 4] : List Nat).any (Nat.beq t) then 1 else 0
def diwanref13_SameShard (fu : Nat) (a : TShard) (b : TShard) : Option Bool :=
 br (a.ID == b.ID)
  (br (a.Shards == b.Shards)
   (br (a.Done == b.Done)
    (bd (diwanref13_SameStore fu a.S b.S) fun r2_4 =>
    br r2_4
     (bd (diwanref13_SameSeats fu a.Seats b.Seats) fun r2_7 =>
     br r2_7
      (bd (diwanref13_SameInts fu a.Bits b.Bits) fun r2_10 =>
      br r2_10
       (bd (diwanref13_SameInts fu a.Said b.Said) fun r2_13 =>
       some r2_13)
       (some false))
      (some false))
     (some false))
    (some false))
   (some false))
  (some false)
theorem diwanref13_SameShard.meets (fu : Nat) (a : TShard) (b : TShard) (z0 : Bool) (h : diwanref13_SameShard fu a b = some z0) : Meets Try.prog ⟨9, [.data (TShard.ag a), .data (TShard.ag b)], []⟩ ⟨bv z0, []⟩ := by
 refine kMt hmix diwanref13_SameShard.O Try.f9 bd9 3 ?_
 unfold diwanref13_SameShard at h
 refine kRs 0 [Tm 2 (.ptr 2 0), Tm 3 (.ptr 3 0), Ob 2 (TShard.ob a), Ob 3 (TShard.ob b)] [] .n ?_
 rcases br_inv h with ⟨b2_1, h⟩ | ⟨b2_1, h⟩
 ·rcases br_inv h with ⟨b2_2, h⟩ | ⟨b2_2, h⟩
  ·rcases br_inv h with ⟨b2_3, h⟩ | ⟨b2_3, h⟩
   ·obtain ⟨r2_4, h2_5, h⟩ := bd_inv h
    rcases br_inv h with ⟨b2_6, h⟩ | ⟨b2_6, h⟩
    ·obtain ⟨r2_7, h2_8, h⟩ := bd_inv h
     rcases br_inv h with ⟨b2_9, h⟩ | ⟨b2_9, h⟩
     ·obtain ⟨r2_10, h2_11, h⟩ := bd_inv h
      rcases br_inv h with ⟨b2_12, h⟩ | ⟨b2_12, h⟩
      ·obtain ⟨r2_13, h2_14, h⟩ := bd_inv h
       refine kRs 0 [Tm 4 (bv r2_13)] (rp 17 (.b true) (.a ⟨bv r2_4, []⟩ :: (rp 6 (.b true) (.a ⟨bv r2_7, []⟩ :: (rp 6 (.b true) (.a ⟨bv r2_10, []⟩ :: (rp 6 (.b true) [.a ⟨bv r2_13, []⟩, .b true]))))))) (.r 6 b2_1 (.r 6 b2_2 (.r 5 b2_3 (.c (Asks.of (C := Meets Try.prog) (diwanref13_SameStore.meets fu a.S b.S _ h2_5)) (.c b2_3 (.r 5 b2_6 (.c (Asks.of (C := Meets Try.prog) (diwanref13_SameSeats.meets fu a.Seats b.Seats _ h2_8)) (.c b2_6 (.r 5 b2_9 (.c (Asks.of (C := Meets Try.prog) (diwanref13_SameInts.meets fu a.Bits b.Bits _ h2_11)) (.c b2_9 (.r 5 b2_12 (.c (Asks.of (C := Meets Try.prog) (diwanref13_SameInts.meets fu a.Said b.Said _ h2_14)) (.c b2_12 .n)))))))))))))) ?_
       refine kRt ?_
       have h_ := some_inj h
       subst h_
       exact kFr
      ·refine kRs 0 [Tm 4 (bv false)] (rp 17 (.b true) (.a ⟨bv r2_4, []⟩ :: (rp 6 (.b true) (.a ⟨bv r2_7, []⟩ :: (rp 6 (.b true) (.a ⟨bv r2_10, []⟩ :: (.b true :: (rp 6 (.b false) [])))))))) (.r 6 b2_1 (.r 6 b2_2 (.r 5 b2_3 (.c (Asks.of (C := Meets Try.prog) (diwanref13_SameStore.meets fu a.S b.S _ h2_5)) (.c b2_3 (.r 5 b2_6 (.c (Asks.of (C := Meets Try.prog) (diwanref13_SameSeats.meets fu a.Seats b.Seats _ h2_8)) (.c b2_6 (.r 5 b2_9 (.c (Asks.of (C := Meets Try.prog) (diwanref13_SameInts.meets fu a.Bits b.Bits _ h2_11)) (.c b2_9 (.r 6 b2_12 .n)))))))))))) ?_
       refine kRt ?_
       have h_ := some_inj h
       subst h_
       exact kFr
     ·refine kRs 0 [Tm 4 (bv false)] (rp 17 (.b true) (.a ⟨bv r2_4, []⟩ :: (rp 6 (.b true) (.a ⟨bv r2_7, []⟩ :: (.b true :: (rp 12 (.b false) [])))))) (.r 6 b2_1 (.r 6 b2_2 (.r 5 b2_3 (.c (Asks.of (C := Meets Try.prog) (diwanref13_SameStore.meets fu a.S b.S _ h2_5)) (.c b2_3 (.r 5 b2_6 (.c (Asks.of (C := Meets Try.prog) (diwanref13_SameSeats.meets fu a.Seats b.Seats _ h2_8)) (.c b2_6 (.r 6 b2_9 (.r 6 rF .n)))))))))) ?_
      refine kRt ?_
      have h_ := some_inj h
      subst h_
      exact kFr
    ·refine kRs 0 [Tm 4 (bv false)] (rp 17 (.b true) (.a ⟨bv r2_4, []⟩ :: (.b true :: (rp 18 (.b false) [])))) (.r 6 b2_1 (.r 6 b2_2 (.r 5 b2_3 (.c (Asks.of (C := Meets Try.prog) (diwanref13_SameStore.meets fu a.S b.S _ h2_5)) (.c b2_3 (.r 6 b2_6 (.r 12 rF .n))))))) ?_
     refine kRt ?_
     have h_ := some_inj h
     subst h_
     exact kFr
   ·refine kRs 0 [Tm 4 (bv false)] (rp 12 (.b true) (rp 24 (.b false) [])) (.r 6 b2_1 (.r 6 b2_2 (.r 6 b2_3 (.r 18 rF .n)))) ?_
    refine kRt ?_
    have h_ := some_inj h
    subst h_
    exact kFr
  ·refine kRs 0 [Tm 4 (bv false)] (rp 6 (.b true) (rp 30 (.b false) [])) (.r 6 b2_1 (.r 6 b2_2 (.r 24 rF .n))) ?_
   refine kRt ?_
   have h_ := some_inj h
   subst h_
   exact kFr
 ·refine kRs 0 [Tm 4 (bv false)] (rp 36 (.b false) []) (.r 6 b2_1 (.r 30 rF .n)) ?_
  refine kRt ?_
  have h_ := some_inj h
  subst h_
  exact kFr
def bd6 : Code := (Try.f6.body).getD .skip
def diwanlaw20_begun.O : Nat → Nat := fun t => bif ([0, 1, 2, 3, 4, 5, 6, 7, 13, 17, 35] : List Nat).any (Nat.beq t) then 1 else 0
def diwanlaw20_begun (fu : Nat) : Option Bool :=
 bd (diwanref13_NewShard 1 2) fun r2_1 =>
 bd (save_Put fu r2_1) fun r3_1 =>
 bd (save_Take fu r3_1) fun (r4_1, r4_2) =>
 bd (save_Take fu []) fun (r5_1, r5_2) =>
 br (decide ((r3_1.length : Int) > 0))
  (br r4_2
   (bd (diwanref13_SameShard fu r4_1 r2_1) fun r6_3 =>
   br r6_3
    (br (!r5_2)
     (bd (save_Put fu (TShard.mk 0 0 0 (TStore.mk [] 0) [] [] [])) fun r6_7 =>
     some ((r6_7.length : Int) == 0))
     (some false))
    (some false))
   (some false))
  (some false)
theorem diwanlaw20_begun.meets (fu : Nat) (z0 : Bool) (h : diwanlaw20_begun fu = some z0) : Meets Try.prog ⟨6, [], []⟩ ⟨bv z0, []⟩ := by
 refine kMt hmix diwanlaw20_begun.O Try.f6 bd6 0 ?_
 unfold diwanlaw20_begun at h
 refine kRs 0 [] [] .n ?_
 obtain ⟨r2_1, h2_2, h⟩ := bd_inv h
 refine kRs 0 [Tm 1 (.ptr 1 0), Ob 1 (TShard.ob_00010111 r2_1)] [.a ⟨.data (TShard.ag_00010111 r2_1), []⟩] (.c (Asks.of (C := Meets Try.prog) (diwanref13_NewShard.meets 1 2 _ h2_2)) .n) ?_
 obtain ⟨r3_1, h3_2, h⟩ := bd_inv h
 refine kRs 1 [Tm 2 (.data (.slc true (some r3_1.isEmpty) 1 (List.map e_u8 r3_1))), Ob 1 (TShard.ob r2_1)] [.a ⟨.data (.slc true (some r3_1.isEmpty) 1 (List.map e_u8 r3_1)), []⟩] (.c (Asks.of (C := Meets Try.prog) (save_Put.meets fu r2_1 _ h3_2)) .n) ?_
 obtain ⟨⟨r4_1, r4_2⟩, h4_3, h⟩ := bd_inv h
 refine kRs 6 [Tm 2 (.data (.slc false (some r3_1.isEmpty) 1 (List.map e_u8 r3_1))), Tm 3 (.ptr 3 0), Tm 4 (bv r4_2), Ob 3 (TShard.ob r4_1)] [.a ⟨.tup [.data (TShard.ag r4_1), bv r4_2], []⟩] (.c (Asks.fg (args1 := []) (args2 := []) (nl := some r3_1.isEmpty) (sz := 1) (es := List.map e_u8 r3_1) (Asks.of (C := Meets Try.prog) (save_Take.meets fu r3_1 _ _ h4_3))) .n) ?_
 obtain ⟨⟨r5_1, r5_2⟩, h5_3, h⟩ := bd_inv h
 refine kRs 63 [Tm 6 (bv r5_2)] [.a ⟨.tup [.data (TShard.ag r5_1), bv r5_2], []⟩] (.c (Asks.fg (args1 := []) (args2 := []) (nl := some true) (sz := 1) (es := List.map e_u8 []) (Asks.of (C := Meets Try.prog) (save_Take.meets fu [] _ _ h5_3))) .n) ?_
 rcases br_inv h with ⟨b6_1, h⟩ | ⟨b6_1, h⟩
 ·rcases br_inv h with ⟨b6_2, h⟩ | ⟨b6_2, h⟩
  ·obtain ⟨r6_3, h6_4, h⟩ := bd_inv h
   rcases br_inv h with ⟨b6_5, h⟩ | ⟨b6_5, h⟩
   ·rcases br_inv h with ⟨b6_6, h⟩ | ⟨b6_6, h⟩
    ·obtain ⟨r6_7, h6_8, h⟩ := bd_inv h
     refine kRs 0 [Tm 0 (bv ((r6_7.length : Int) == 0))] (.s (.t 20) [iv (r3_1.length : Int)] :: (rp 5 (.b true) (.a ⟨bv r6_3, []⟩ :: (rp 6 (.b true) [.a ⟨.data (.slc true (some r6_7.isEmpty) 1 (List.map e_u8 r6_7)), []⟩, .b true, .s (.t 37) [iv (r6_7.length : Int)], .b true, .b true])))) (.c (c_len (e := e_u8) (l := r3_1)) (.r 2 b6_1 (.r 3 b6_2 (.c (Asks.of (C := Meets Try.prog) (diwanref13_SameShard.meets fu r4_1 r2_1 _ h6_4)) (.c b6_2 (.r 3 b6_5 (.r 2 b6_6 (.c (Asks.of (C := Meets Try.prog) (save_Put.meets fu (TShard.mk 0 0 0 (TStore.mk [] 0) [] [] []) _ h6_8)) (.c b6_6 (.c (c_len (e := e_u8) (l := r6_7)) (.r 2 b6_6 .n))))))))))) ?_
     refine kRt ?_
     have h_ := some_inj h
     subst h_
     exact kFr
    ·refine kRs 0 [Tm 0 (bv false)] (.s (.t 20) [iv (r3_1.length : Int)] :: (rp 5 (.b true) (.a ⟨bv r6_3, []⟩ :: (rp 4 (.b true) (rp 5 (.b false) []))))) (.c (c_len (e := e_u8) (l := r3_1)) (.r 2 b6_1 (.r 3 b6_2 (.c (Asks.of (C := Meets Try.prog) (diwanref13_SameShard.meets fu r4_1 r2_1 _ h6_4)) (.c b6_2 (.r 3 b6_5 (.r 5 b6_6 .n))))))) ?_
     refine kRt ?_
     have h_ := some_inj h
     subst h_
     exact kFr
   ·refine kRs 0 [Tm 0 (bv false)] (.s (.t 20) [iv (r3_1.length : Int)] :: (rp 5 (.b true) (.a ⟨bv r6_3, []⟩ :: (.b true :: (rp 8 (.b false) []))))) (.c (c_len (e := e_u8) (l := r3_1)) (.r 2 b6_1 (.r 3 b6_2 (.c (Asks.of (C := Meets Try.prog) (diwanref13_SameShard.meets fu r4_1 r2_1 _ h6_4)) (.c b6_2 (.r 3 b6_5 (.r 5 rF .n))))))) ?_
    refine kRt ?_
    have h_ := some_inj h
    subst h_
    exact kFr
  ·refine kRs 0 [Tm 0 (bv false)] (.s (.t 20) [iv (r3_1.length : Int)] :: (.b true :: (.b true :: (rp 12 (.b false) [])))) (.c (c_len (e := e_u8) (l := r3_1)) (.r 2 b6_1 (.r 4 b6_2 (.r 8 rF .n)))) ?_
   refine kRt ?_
   have h_ := some_inj h
   subst h_
   exact kFr
 ·refine kRs 0 [Tm 0 (bv false)] (.s (.t 20) [iv (r3_1.length : Int)] :: (rp 14 (.b false) [])) (.c (c_len (e := e_u8) (l := r3_1)) (.r 2 b6_1 (.r 12 rF .n))) ?_
  refine kRt ?_
  have h_ := some_inj h
  subst h_
  exact kFr
def bd33 : Code := (Try.f33.body).getD .skip
def diwanplay_Made.O : Nat → Nat := fun t => bif ([2, 4, 5] : List Nat).any (Nat.beq t) then 1 else 0
def diwanplay_Made (l : List Int) : Option TPicks :=
 some (TPicks.mk l 0)
theorem diwanplay_Made.meets (l : List Int) (z0 : TPicks) (h : diwanplay_Made l = some z0) : Meets Try.prog ⟨33, [sS 1 e_u8 l], []⟩ ⟨.ptr 1000 0, [[sS 1 e_u8 z0.l, iv z0.n]]⟩ := by
 refine kMt hmix diwanplay_Made.O Try.f33 bd33 1 ?_
 unfold diwanplay_Made at h
 refine kRs 1 [] [] .n ?_
 refine kRs 0 [Tm 2 (.ptr 5 0), Ob 5 [sS 1 e_u8 l, iv 0]] [] .n ?_
 refine kRt ?_
 have h_ := some_inj h
 subst h_
 exact kFr
def bd56 : Code := (Try.f56.body).getD .skip
def diwanplay_Picks_Num.O : Nat → Nat := fun t => bif ([4, 19] : List Nat).any (Nat.beq t) then 1 else 0
def diwanplay_Picks_Num (m : Int) (o0_v : TPicks) : Option (Int × TPicks) :=
 br (decide (o0_v.n ≥ (o0_v.l.length : Int)))
  (some (0, o0_v))
  (ix o0_v.l (w64 ((w64 (o0_v.n + 1)) - 1)) fun x6_1 =>
  gd (!decide (m = 0)) <|
  some ((Int.tmod (w64 x6_1) m), (TPicks.mk o0_v.l (w64 (o0_v.n + 1)))))
theorem diwanplay_Picks_Num.meets (m : Int) (o0_v : TPicks) (z0 : Int) (z1 : TPicks) (h : diwanplay_Picks_Num m o0_v = some (z0, z1)) : Meets Try.prog ⟨56, [.ptr 1000 0, iv m], [[sS 1 e_u8 o0_v.l, iv o0_v.n]]⟩ ⟨iv z0, [[sS 1 e_u8 z1.l, iv z1.n]]⟩ := by
 refine kMt hmix diwanplay_Picks_Num.O Try.f56 bd56 7 ?_
 unfold diwanplay_Picks_Num at h
 refine kRs 7 [] [] .n ?_
 refine kSq ?_
 refine kRs 7 [Tm 14 (bv (decide (o0_v.n ≥ (o0_v.l.length : Int))))] [.s (.t 13) [iv (o0_v.l.length : Int)]] (.c (c_len (e := e_u8) (l := o0_v.l)) (.c rT .n)) ?_
 rcases br_inv h with ⟨b3_0, h⟩ | ⟨b3_0, h⟩
 ·refine kCt b3_0 ?_
  refine kRs 8 [Tm 4 (iv 0)] [] .n ?_
  refine kRt ?_
  have h_0 := some_inj h
  obtain ⟨g_1, h_1⟩ := Prod.mk.inj h_0
  subst g_1
  subst h_1
  exact kFr
 ·refine kCe b3_0 ?_
  refine kSk ?_
  refine kCd (cR (cR bd56)) [] ?_
  refine kRs 6 [Ob 1000 [sS 1 e_u8 o0_v.l, iv (w64 (o0_v.n + 1))]] [] .n ?_
  obtain ⟨x6_1, a6_2, e6_3, h⟩ := ix_inv h
  obtain ⟨c6_4, h⟩ := gd_inv h
  refine kRs 1 [Tm 4 (iv (Int.tmod (w64 x6_1) m))] [.c (e_u8 x6_1)] (.c (c_ix (e := e_u8) a6_2 e6_3) (.c (c_el (e := e_u8) e6_3) (.c c6_4 (.c rT .n)))) ?_
  refine kRt ?_
  have h_0 := some_inj h
  obtain ⟨g_1, h_1⟩ := Prod.mk.inj h_0
  subst g_1
  subst h_1
  exact kFr
def bd78 : Code := (Try.f78.body).getD .skip
def diwanplay_keys.O : Nat → Nat := fun t => bif ([0, 1] : List Nat).any (Nat.beq t) then 1 else 0
def diwanplay_keys : Option Unit :=
 some ()
theorem diwanplay_keys.meets (h : diwanplay_keys = some ()) : Meets Try.prog ⟨78, [], []⟩ ⟨.data (.slc true (some false) 1 (List.map e_s ([(⟨#[97]⟩ : ByteArray), (⟨#[98]⟩ : ByteArray), (⟨#[99]⟩ : ByteArray), (⟨#[100]⟩ : ByteArray), (⟨#[101, 101]⟩ : ByteArray), (⟨#[102, 102]⟩ : ByteArray)] : List ByteArray))), []⟩ := by
 refine kMt hmix diwanplay_keys.O Try.f78 bd78 0 ?_
 unfold diwanplay_keys at h
 refine kRs 0 [] [] .n ?_
 refine kRs 0 [Tm 0 (.data (.slc true (some false) 1 (List.map e_s ([(⟨#[97]⟩ : ByteArray), (⟨#[98]⟩ : ByteArray), (⟨#[99]⟩ : ByteArray), (⟨#[100]⟩ : ByteArray), (⟨#[101, 101]⟩ : ByteArray), (⟨#[102, 102]⟩ : ByteArray)] : List ByteArray))))] [] .n ?_
 refine kRt ?_
 cases some_inj h
 exact kFr
def bd72 : Code := (Try.f72.body).getD .skip
def diwanplay_Picks_Keys.O : Nat → Nat := fun t => bif ([4, 5, 6, 7, 8, 32] : List Nat).any (Nat.beq t) then 1 else 0
def diwanplay_Picks_Keys.lp6 (fu : Nat) (l6_0 : Int) (l6_3 : List ByteArray) (l6_5 : TPicks) : Nat → (List ByteArray) → Int → Int → Option (List ByteArray)
  | 0, _, _, _ => none
  | n_ + 1, l6_1, l6_2, l6_4 =>
  br (decide (l6_4 < (l6_3.length : Int)))
   (br (decide ((l6_1.length : Int) < l6_0))
    (br ((Int.tmod l6_2 2) == 1)
     (ix l6_3 l6_4 fun x11_1 =>
     gd (decide (l6_1.length + ([x11_1] : List ByteArray).length ≤ 4294967296)) <|
     diwanplay_Picks_Keys.lp6 fu l6_0 l6_3 l6_5 n_ (l6_1 ++ ([x11_1] : List ByteArray)) (w64 (Int.tdiv l6_2 2)) (w64 (l6_4 + 1)))
     (diwanplay_Picks_Keys.lp6 fu l6_0 l6_3 l6_5 n_ l6_1 (w64 (Int.tdiv l6_2 2)) (w64 (l6_4 + 1))))
    (some l6_1))
   (some l6_1)
def diwanplay_Picks_Keys.lp6_post (l6_0 : Int) (l6_3 : List ByteArray) (l6_5 : TPicks) (r_ : (List ByteArray)) : Wy → St → Prop := fun e τ => match r_ with
  | y0 => e = .exit 0 ∧ τ = ofL [Tm 5 (sO 1 e_s y0), Ob 1000 [sS 1 e_u8 l6_5.l, iv l6_5.n]]
theorem diwanplay_Picks_Keys.lp6_ok (fu : Nat) (l6_0 : Int) (l6_3 : List ByteArray) (l6_5 : TPicks) : ∀ (n_ : Nat) (l6_1 : List ByteArray) (l6_2 : Int) (l6_4 : Int) (r_ : (List ByteArray)), diwanplay_Picks_Keys.lp6 fu l6_0 l6_3 l6_5 n_ l6_1 l6_2 l6_4 = some r_ → WK Try.prog diwanplay_Picks_Keys.O (Ck Try.prog) (cB (cR (cL (cR (cR (cR (cR bd72))))))) [] (ofL [Tm 1 (iv l6_0), Tm 5 (sO 1 e_s l6_1), Tm 6 (iv l6_2), Tm 7 (.data (.slc true (some false) 1 (List.map e_s l6_3))), Tm 8 (iv l6_4), Ob 1000 [sS 1 e_u8 l6_5.l, iv l6_5.n]]) (diwanplay_Picks_Keys.lp6_post l6_0 l6_3 l6_5 r_) := by
 intro n_
 induction n_ with
 | zero => intro l6_1 l6_2 l6_4 r_ h; exact no_none h
 | succ n_ ih =>
  intro l6_1 l6_2 l6_4 r_ h
  refine kLp ?_
  refine kSq ?_
  rcases br_inv h with ⟨b7_1, h⟩ | ⟨b7_1, h⟩
  ·refine kRs 63 [Tm 21 (bv (decide ((l6_1.length : Int) < l6_0)))] [.s (.t 14) [iv (l6_3.length : Int)], .b true, .b true, .s (.t 18) [iv (l6_1.length : Int)], .b true, .b true, .b true] (.c (c_len (e := e_s) (l := l6_3)) (.r 2 b7_1 (.c (c_len (e := e_s) (l := l6_1)) (.r 3 b7_1 .n)))) ?_
   rcases br_inv h with ⟨b8_0, h⟩ | ⟨b8_0, h⟩
   ·refine kCt b8_0 ?_
    refine kSk ?_
    refine kCd (cR (cB (cB (cR (cL (cR (cR (cR (cR bd72))))))))) [.lp (cB (cR (cL (cR (cR (cR (cR bd72)))))))] ?_
    refine kSq ?_
    refine kBk 1 ?_
    refine kSq ?_
    refine kRs 126 [Tm 26 (bv ((Int.tmod l6_2 2) == 1))] [] (.c rT .n) ?_
    rcases br_inv h with ⟨b10_0, h⟩ | ⟨b10_0, h⟩
    ·refine kCt b10_0 ?_
     obtain ⟨x11_1, a11_2, e11_3, h⟩ := ix_inv h
     obtain ⟨c11_4, h⟩ := gd_inv h
     refine kRc 122 [Tm 5 (sO 1 e_s (l6_1 ++ ([x11_1] : List ByteArray)))] [.c (e_s x11_1), .s (.t 33) [sO 1 e_s (l6_1 ++ ([x11_1] : List ByteArray))]] (.c (c_ix (e := e_s) a11_2 e11_3) (.c (c_el (e := e_s) e11_3) (.c (c_al (e := e_s) (f := e_s) c11_4) (.c (congrArg (fun d : DV => [AV.data d]) (c_app (e := e_s) (s := 1) (l := l6_1) (m := ([x11_1] : List ByteArray)))) .n)))) (cR (cB (cL (cR (cB (cB (cR (cL (cR (cR (cR (cR bd72)))))))))))) [.blk 1, .seq (cR (cR (cB (cB (cR (cL (cR (cR (cR (cR bd72)))))))))), .lp (cB (cR (cL (cR (cR (cR (cR bd72)))))))] ?_
     refine kRc 59 [Tm 6 (iv (w64 (Int.tdiv l6_2 2)))] [] (.c rT .n) (cR (cR (cB (cB (cR (cL (cR (cR (cR (cR bd72)))))))))) [.lp (cB (cR (cL (cR (cR (cR (cR bd72)))))))] ?_
     refine kRc 47 [Tm 8 (iv (w64 (l6_4 + 1)))] [] .n (cB (cR (cL (cR (cR (cR (cR bd72))))))) [] ?_
     exact kWk (ih (l6_1 ++ ([x11_1] : List ByteArray)) (w64 (Int.tdiv l6_2 2)) (w64 (l6_4 + 1)) _ h)
    ·refine kCe b10_0 ?_
     refine kSk ?_
     refine kCd (cR (cB (cL (cR (cB (cB (cR (cL (cR (cR (cR (cR bd72)))))))))))) [.blk 1, .seq (cR (cR (cB (cB (cR (cL (cR (cR (cR (cR bd72)))))))))), .lp (cB (cR (cL (cR (cR (cR (cR bd72)))))))] ?_
     refine kRc 118 [Tm 6 (iv (w64 (Int.tdiv l6_2 2)))] [] (.c rT .n) (cR (cR (cB (cB (cR (cL (cR (cR (cR (cR bd72)))))))))) [.lp (cB (cR (cL (cR (cR (cR (cR bd72)))))))] ?_
     refine kRc 47 [Tm 8 (iv (w64 (l6_4 + 1)))] [] .n (cB (cR (cL (cR (cR (cR (cR bd72))))))) [] ?_
     exact kWk (ih l6_1 (w64 (Int.tdiv l6_2 2)) (w64 (l6_4 + 1)) _ h)
   ·refine kCe b8_0 ?_
    cases some_inj h
    refine kWo ?_
    refine kXt 0 ?_
    exact kOut
  ·refine kRs 63 [Tm 21 (bv false)] (.s (.t 14) [iv (l6_3.length : Int)] :: (rp 5 (.b false) [])) (.c (c_len (e := e_s) (l := l6_3)) (.r 5 b7_1 .n)) ?_
   refine kCe rF ?_
   cases some_inj h
   refine kWo ?_
   refine kXt 0 ?_
   exact kOut
def diwanplay_Picks_Keys (fu : Nat) (most : Int) (o0_v : TPicks) : Option (List ByteArray × TPicks) :=
 bd (diwanplay_Picks_Num 64 o0_v) fun (r3_1, r3_2) =>
 bd (diwanplay_keys) fun _ =>
 bd (diwanplay_Picks_Keys.lp6 fu most ([(⟨#[97]⟩ : ByteArray), (⟨#[98]⟩ : ByteArray), (⟨#[99]⟩ : ByteArray), (⟨#[100]⟩ : ByteArray), (⟨#[101, 101]⟩ : ByteArray), (⟨#[102, 102]⟩ : ByteArray)] : List ByteArray) r3_2 fu [] r3_1 0) fun y16_0 =>
 some (y16_0, r3_2)
theorem diwanplay_Picks_Keys.meets (fu : Nat) (most : Int) (o0_v : TPicks) (z0 : List ByteArray) (z1 : TPicks) (h : diwanplay_Picks_Keys fu most o0_v = some (z0, z1)) : Meets Try.prog ⟨72, [.ptr 1000 0, iv most], [[sS 1 e_u8 o0_v.l, iv o0_v.n]]⟩ ⟨sO 1 e_s z0, [[sS 1 e_u8 z1.l, iv z1.n]]⟩ := by
 refine kMt hmix diwanplay_Picks_Keys.O Try.f72 bd72 7 ?_
 unfold diwanplay_Picks_Keys at h
 refine kRs 7 [] [] .n ?_
 refine kRs 7 [Tm 5 (.data (.slc true (some true) 1 (List.map e_s [])))] [] .n ?_
 obtain ⟨⟨r3_1, r3_2⟩, h3_3, h⟩ := bd_inv h
 refine kRs 5 [Tm 6 (iv r3_1), Ob 1000 [sS 1 e_u8 r3_2.l, iv r3_2.n]] [.a ⟨iv r3_1, [[sS 1 e_u8 r3_2.l, iv r3_2.n]]⟩] (.c (Asks.of (C := Meets Try.prog) (diwanplay_Picks_Num.meets 64 o0_v _ _ h3_3)) .n) ?_
 obtain ⟨_, h4_1, h⟩ := bd_inv h
 refine kRs 15 [Tm 7 (.data (.slc true (some false) 1 (List.map e_s ([(⟨#[97]⟩ : ByteArray), (⟨#[98]⟩ : ByteArray), (⟨#[99]⟩ : ByteArray), (⟨#[100]⟩ : ByteArray), (⟨#[101, 101]⟩ : ByteArray), (⟨#[102, 102]⟩ : ByteArray)] : List ByteArray))))] [.a ⟨.data (.slc true (some false) 1 (List.map e_s ([(⟨#[97]⟩ : ByteArray), (⟨#[98]⟩ : ByteArray), (⟨#[99]⟩ : ByteArray), (⟨#[100]⟩ : ByteArray), (⟨#[101, 101]⟩ : ByteArray), (⟨#[102, 102]⟩ : ByteArray)] : List ByteArray))), []⟩] (.c (Asks.of (C := Meets Try.prog) (diwanplay_keys.meets  h4_1)) .n) ?_
 refine kSq ?_
 refine kRs 31 [Tm 8 (iv 0)] [] .n ?_
 refine kBk 0 ?_
 obtain ⟨o16, ho16, h⟩ := bd_inv h
 refine kUs (diwanplay_Picks_Keys.lp6_ok fu most ([(⟨#[97]⟩ : ByteArray), (⟨#[98]⟩ : ByteArray), (⟨#[99]⟩ : ByteArray), (⟨#[100]⟩ : ByteArray), (⟨#[101, 101]⟩ : ByteArray), (⟨#[102, 102]⟩ : ByteArray)] : List ByteArray) r3_2 _ [] r3_1 0 _ ho16) ?_
 intro e_ τ_ hp_
 obtain ⟨y16_0, rfl⟩ : ∃ y, y = o16 := ⟨_, rfl⟩
 obtain ⟨rfl, rfl⟩ := hp_
 refine kCd (cR (cR (cR (cR (cR bd72))))) [] ?_
 refine kRs 2 [Tm 4 (sO 1 e_s y16_0)] [] .n ?_
 refine kRt ?_
 have h_0 := some_inj h
 obtain ⟨g_1, h_1⟩ := Prod.mk.inj h_0
 subst g_1
 subst h_1
 exact kFr
def bd73 : Code := (Try.f73.body).getD .skip
def diwanplay_Picks_Val.O : Nat → Nat := fun t => bif ([2, 3] : List Nat).any (Nat.beq t) then 1 else 0
def diwanplay_Picks_Val (o0_v : TPicks) : Option (ByteArray × TPicks) :=
 bd (diwanplay_Picks_Num 5 o0_v) fun (r2_1, r2_2) =>
 ix ([ByteArray.empty, (⟨#[118]⟩ : ByteArray), (⟨#[119]⟩ : ByteArray), (⟨#[120, 120]⟩ : ByteArray), (⟨#[115, 105, 120, 116, 101, 101, 110, 45, 98, 121, 116, 101, 115, 45, 111, 107]⟩ : ByteArray)] : List ByteArray) r2_1 fun x2_4 =>
 some (x2_4, r2_2)
theorem diwanplay_Picks_Val.meets (o0_v : TPicks) (z0 : ByteArray) (z1 : TPicks) (h : diwanplay_Picks_Val o0_v = some (z0, z1)) : Meets Try.prog ⟨73, [.ptr 1000 0], [[sS 1 e_u8 o0_v.l, iv o0_v.n]]⟩ ⟨sv z0, [[sS 1 e_u8 z1.l, iv z1.n]]⟩ := by
 refine kMt hmix diwanplay_Picks_Val.O Try.f73 bd73 3 ?_
 unfold diwanplay_Picks_Val at h
 refine kRs 3 [] [] .n ?_
 obtain ⟨⟨r2_1, r2_2⟩, h2_3, h⟩ := bd_inv h
 obtain ⟨x2_4, a2_5, e2_6, h⟩ := ix_inv h
 refine kRs 0 [Tm 2 (sv x2_4), Ob 1000 [sS 1 e_u8 r2_2.l, iv r2_2.n]] [.a ⟨iv r2_1, [[sS 1 e_u8 r2_2.l, iv r2_2.n]]⟩, .c (e_s x2_4)] (.c (Asks.of (C := Meets Try.prog) (diwanplay_Picks_Num.meets 5 o0_v _ _ h2_3)) (.c (c_ix (e := e_s) a2_5 e2_6) (.c (c_el (e := e_s) e2_6) .n))) ?_
 refine kRt ?_
 have h_0 := some_inj h
 obtain ⟨g_1, h_1⟩ := Prod.mk.inj h_0
 subst g_1
 subst h_1
 exact kFr
def bd55 : Code := (Try.f55.body).getD .skip
def diwanplay_Picks_Txn.O : Nat → Nat := fun t => bif ([4, 5, 6, 7, 8, 9, 10, 11, 18, 35, 45, 51, 52, 68, 77, 78, 80] : List Nat).any (Nat.beq t) then 1 else 0
def diwanplay_Picks_Txn.lp5 (fu : Nat) (l5_0 : Int) (l5_1 : List ByteArray) (l5_3 : TTxn) : Nat → Int → TTxn → TPicks → Option (TTxn × TPicks)
  | 0, _, _, _ => none
  | n_ + 1, l5_2, l5_4, l5_5 =>
  br (decide (l5_2 < (l5_1.length : Int)))
   (ix l5_1 l5_2 fun x8_1 =>
   bd (diwanplay_Picks_Num (if l5_0 < 1 then 1 else l5_0) l5_5) fun (r8_4, r8_5) =>
   jn (fun (j12_5 : TRead) (j12_6 : TPicks) =>
    gd (decide (l5_4.Reads.length + ([j12_5] : List TRead).length ≤ 4294967296)) <|
    diwanplay_Picks_Txn.lp5 fu l5_0 l5_1 l5_3 n_ (w64 (l5_2 + 1)) (TTxn.mk l5_4.Session l5_4.Seq (l5_4.Reads ++ ([j12_5] : List TRead)) l5_4.Writes) j12_6) fun k12 =>
   br (decide (r8_4 > 0))
    (bd (diwanplay_Picks_Num 4 r8_5) fun (r9_2, r9_3) =>
    br (decide (r9_2 > 0))
     (bd (diwanplay_Picks_Val r9_3) fun (r11_1, r11_2) =>
     k12 (TRead.mk x8_1 r8_4 r11_1 true) r11_2)
     (k12 (TRead.mk x8_1 r8_4 ByteArray.empty false) r9_3))
    (k12 (TRead.mk x8_1 r8_4 ByteArray.empty false) r8_5))
   (some (l5_4, l5_5))
def diwanplay_Picks_Txn.lp5_post (l5_0 : Int) (l5_1 : List ByteArray) (l5_3 : TTxn) (r_ : (TTxn × TPicks)) : Wy → St → Prop := fun e τ => match r_ with
  | (y0, y1) => e = .exit 0 ∧ τ = ofL [Tm 0 (.ptr 1000 0), Tm 4 (.ptr 4 0), Tm 5 (.ptr 5 0), Ob 4 (TTxn.ob_0011 l5_3), Ob 5 (TTxn.ob_0011 y0), Ob 1000 [sS 1 e_u8 y1.l, iv y1.n]]
theorem diwanplay_Picks_Txn.lp5_ok (fu : Nat) (l5_0 : Int) (l5_1 : List ByteArray) (l5_3 : TTxn) : ∀ (n_ : Nat) (l5_2 : Int) (l5_4 : TTxn) (l5_5 : TPicks) (r_ : (TTxn × TPicks)), diwanplay_Picks_Txn.lp5 fu l5_0 l5_1 l5_3 n_ l5_2 l5_4 l5_5 = some r_ → WK Try.prog diwanplay_Picks_Txn.O (Ck Try.prog) (cB (cR (cL (cR (cR (cR bd55)))))) [] (ofL [Tm 0 (.ptr 1000 0), Tm 1 (iv l5_0), Tm 4 (.ptr 4 0), Tm 5 (.ptr 5 0), Tm 6 (sO 1 e_s l5_1), Tm 7 (iv l5_2), Ob 4 (TTxn.ob_0011 l5_3), Ob 5 (TTxn.ob_0011 l5_4), Ob 1000 [sS 1 e_u8 l5_5.l, iv l5_5.n]]) (diwanplay_Picks_Txn.lp5_post l5_0 l5_1 l5_3 r_) := by
 intro n_
 induction n_ with
 | zero => intro l5_2 l5_4 l5_5 r_ h; exact no_none h
 | succ n_ ih =>
  intro l5_2 l5_4 l5_5 r_ h
  refine kLp ?_
  refine kSq ?_
  refine kRs 511 [Tm 24 (bv (decide (l5_2 < (l5_1.length : Int))))] [.s (.t 23) [iv (l5_1.length : Int)]] (.c (c_len (e := e_s) (l := l5_1)) .n) ?_
  rcases br_inv h with ⟨b7_0, h⟩ | ⟨b7_0, h⟩
  ·refine kCt b7_0 ?_
   refine kSk ?_
   refine kCd (cR (cB (cB (cR (cL (cR (cR (cR bd55)))))))) [.lp (cB (cR (cL (cR (cR (cR bd55))))))] ?_
   refine kSq ?_
   refine kBk 1 ?_
   obtain ⟨x8_1, a8_2, e8_3, h⟩ := ix_inv h
   obtain ⟨⟨r8_4, r8_5⟩, h8_6, h⟩ := bd_inv h
   refine kRs 510 [Tm 8 (.ptr 8 0), Ob 8 (TRead.ob (TRead.mk x8_1 r8_4 ByteArray.empty false)), Ob 1000 [sS 1 e_u8 r8_5.l, iv r8_5.n]] [.c (e_s x8_1), .a ⟨iv r8_4, [[sS 1 e_u8 r8_5.l, iv r8_5.n]]⟩] (.c (c_ix (e := e_s) a8_2 e8_3) (.c (c_el (e := e_s) e8_3) (.c (Asks.of (C := Meets Try.prog) (diwanplay_Picks_Num.meets (if l5_0 < 1 then 1 else l5_0) l5_5 _ _ h8_6)) (.c rT .n)))) ?_
   obtain ⟨k12, hk12, h⟩ := jn_inv h
   have Jk12 : ∀ (j12_5 : TRead) (j12_6 : TPicks), k12 j12_5 j12_6 = some r_ → WK Try.prog diwanplay_Picks_Txn.O (Ck Try.prog) (cR (cR (cB (cL (cR (cB (cB (cR (cL (cR (cR (cR bd55)))))))))))) [.blk 1, .seq (cR (cR (cB (cB (cR (cL (cR (cR (cR bd55))))))))), .lp (cB (cR (cL (cR (cR (cR bd55))))))] (ofL [Tm 0 (.ptr 1000 0), Tm 1 (iv l5_0), Tm 4 (.ptr 4 0), Tm 5 (.ptr 5 0), Tm 6 (sO 1 e_s l5_1), Tm 7 (iv l5_2), Tm 8 (.ptr 8 0), Ob 4 (TTxn.ob_0011 l5_3), Ob 5 (TTxn.ob_0011 l5_4), Ob 8 (TRead.ob j12_5), Ob 1000 [sS 1 e_u8 j12_6.l, iv j12_6.n]]) (diwanplay_Picks_Txn.lp5_post l5_0 l5_1 l5_3 r_) := by
    intro j12_5 j12_6 h
    rw [hk12] at h
    obtain ⟨c13_1, h⟩ := gd_inv h
    refine kRc 1215 [Ob 5 (TTxn.ob_0011 (TTxn.mk l5_4.Session l5_4.Seq (l5_4.Reads ++ ([j12_5] : List TRead)) l5_4.Writes))] [.s (.t 52) [sO 4 TRead.en (l5_4.Reads ++ ([j12_5] : List TRead))]] (.c (c_al (e := TRead.en) (f := TRead.en) c13_1) (.c (congrArg (fun d : DV => [AV.data d]) (c_app (e := TRead.en) (s := 4) (l := l5_4.Reads) (m := ([j12_5] : List TRead)))) .n)) (cR (cR (cB (cB (cR (cL (cR (cR (cR bd55))))))))) [.lp (cB (cR (cL (cR (cR (cR bd55))))))] ?_
    refine kRc 447 [Tm 7 (iv (w64 (l5_2 + 1)))] [] .n (cB (cR (cL (cR (cR (cR bd55)))))) [] ?_
    exact kWk (ih (w64 (l5_2 + 1)) (TTxn.mk l5_4.Session l5_4.Seq (l5_4.Reads ++ ([j12_5] : List TRead)) l5_4.Writes) j12_6 _ h)
   clear hk12
   refine kSq ?_
   rcases br_inv h with ⟨b9_1, h⟩ | ⟨b9_1, h⟩
   ·obtain ⟨⟨r9_2, r9_3⟩, h9_4, h⟩ := bd_inv h
    refine kRs 2043 [Tm 43 (bv (decide (r9_2 > 0))), Ob 1000 [sS 1 e_u8 r9_3.l, iv r9_3.n]] [.b true, .b true, .a ⟨iv r9_2, [[sS 1 e_u8 r9_3.l, iv r9_3.n]]⟩, .b true, .b true] (.r 2 b9_1 (.c (Asks.of (C := Meets Try.prog) (diwanplay_Picks_Num.meets 4 r8_5 _ _ h9_4)) (.r 2 b9_1 .n))) ?_
    rcases br_inv h with ⟨b10_0, h⟩ | ⟨b10_0, h⟩
    ·refine kCt b10_0 ?_
     obtain ⟨⟨r11_1, r11_2⟩, h11_3, h⟩ := bd_inv h
     refine kRc 4084 [Ob 8 (TRead.ob (TRead.mk x8_1 r8_4 r11_1 true)), Ob 1000 [sS 1 e_u8 r11_2.l, iv r11_2.n]] [.a ⟨sv r11_1, [[sS 1 e_u8 r11_2.l, iv r11_2.n]]⟩] (.c (Asks.of (C := Meets Try.prog) (diwanplay_Picks_Val.meets r9_3 _ _ h11_3)) .n) (cR (cR (cB (cL (cR (cB (cB (cR (cL (cR (cR (cR bd55)))))))))))) [.blk 1, .seq (cR (cR (cB (cB (cR (cL (cR (cR (cR bd55))))))))), .lp (cB (cR (cL (cR (cR (cR bd55))))))] ?_
     exact kWk (Jk12 (TRead.mk x8_1 r8_4 r11_1 true) r11_2 h)
    ·refine kCe b10_0 ?_
     refine kSk ?_
     refine kCd (cR (cR (cB (cL (cR (cB (cB (cR (cL (cR (cR (cR bd55)))))))))))) [.blk 1, .seq (cR (cR (cB (cB (cR (cL (cR (cR (cR bd55))))))))), .lp (cB (cR (cL (cR (cR (cR bd55))))))] ?_
     exact kWk (Jk12 (TRead.mk x8_1 r8_4 ByteArray.empty false) r9_3 h)
   ·refine kRs 2047 [Tm 43 (bv false)] (rp 4 (.b false) []) (.r 4 b9_1 .n) ?_
    refine kCe rF ?_
    refine kSk ?_
    refine kCd (cR (cR (cB (cL (cR (cB (cB (cR (cL (cR (cR (cR bd55)))))))))))) [.blk 1, .seq (cR (cR (cB (cB (cR (cL (cR (cR (cR bd55))))))))), .lp (cB (cR (cL (cR (cR (cR bd55))))))] ?_
    exact kWk (Jk12 (TRead.mk x8_1 r8_4 ByteArray.empty false) r8_5 h)
  ·refine kCe b7_0 ?_
   cases some_inj h
   refine kWo ?_
   refine kXt 0 ?_
   exact kOut
def diwanplay_Picks_Txn.lp18 (fu : Nat) (l18_0 : List ByteArray) (l18_2 : TTxn) : Nat → Int → TTxn → TPicks → Option (TTxn × TPicks)
  | 0, _, _, _ => none
  | n_ + 1, l18_1, l18_3, l18_4 =>
  br (decide (l18_1 < (l18_0.length : Int)))
   (ix l18_0 l18_1 fun x21_1 =>
   bd (diwanplay_Picks_Val l18_4) fun (r21_4, r21_5) =>
   jn (fun (j25_4 : TWrite) (j25_5 : TPicks) =>
    gd (decide (l18_3.Writes.length + ([j25_4] : List TWrite).length ≤ 4294967296)) <|
    diwanplay_Picks_Txn.lp18 fu l18_0 l18_2 n_ (w64 (l18_1 + 1)) (TTxn.mk l18_3.Session l18_3.Seq l18_3.Reads (l18_3.Writes ++ ([j25_4] : List TWrite))) j25_5) fun k25 =>
   bd (diwanplay_Picks_Num 4 r21_5) fun (r22_1, r22_2) =>
   br (r22_1 == 0)
    (k25 (TWrite.mk x21_1 ByteArray.empty true) r22_2)
    (k25 (TWrite.mk x21_1 r21_4 false) r22_2))
   (some (l18_3, l18_4))
def diwanplay_Picks_Txn.lp18_post (l18_0 : List ByteArray) (l18_2 : TTxn) (r_ : (TTxn × TPicks)) : Wy → St → Prop := fun e τ => match r_ with
  | (y0, y1) => e = .exit 2 ∧ τ = ofL [Tm 4 (.ptr 4 0), Tm 5 (.ptr 5 0), Ob 4 (TTxn.ob_0011 l18_2), Ob 5 (TTxn.ob_0011 y0), Ob 1000 [sS 1 e_u8 y1.l, iv y1.n]]
theorem diwanplay_Picks_Txn.lp18_ok (fu : Nat) (l18_0 : List ByteArray) (l18_2 : TTxn) : ∀ (n_ : Nat) (l18_1 : Int) (l18_3 : TTxn) (l18_4 : TPicks) (r_ : (TTxn × TPicks)), diwanplay_Picks_Txn.lp18 fu l18_0 l18_2 n_ l18_1 l18_3 l18_4 = some r_ → WK Try.prog diwanplay_Picks_Txn.O (Ck Try.prog) (cB (cR (cL (cR (cR (cR (cR (cR bd55)))))))) [] (ofL [Tm 0 (.ptr 1000 0), Tm 4 (.ptr 4 0), Tm 5 (.ptr 5 0), Tm 9 (sO 1 e_s l18_0), Tm 10 (iv l18_1), Ob 4 (TTxn.ob_0011 l18_2), Ob 5 (TTxn.ob_0011 l18_3), Ob 1000 [sS 1 e_u8 l18_4.l, iv l18_4.n]]) (diwanplay_Picks_Txn.lp18_post l18_0 l18_2 r_) := by
 intro n_
 induction n_ with
 | zero => intro l18_1 l18_3 l18_4 r_ h; exact no_none h
 | succ n_ ih =>
  intro l18_1 l18_3 l18_4 r_ h
  refine kLp ?_
  refine kSq ?_
  refine kRs 255 [Tm 59 (bv (decide (l18_1 < (l18_0.length : Int))))] [.s (.t 58) [iv (l18_0.length : Int)]] (.c (c_len (e := e_s) (l := l18_0)) .n) ?_
  rcases br_inv h with ⟨b20_0, h⟩ | ⟨b20_0, h⟩
  ·refine kCt b20_0 ?_
   refine kSk ?_
   refine kCd (cR (cB (cB (cR (cL (cR (cR (cR (cR (cR bd55)))))))))) [.lp (cB (cR (cL (cR (cR (cR (cR (cR bd55))))))))] ?_
   refine kSq ?_
   refine kBk 3 ?_
   obtain ⟨x21_1, a21_2, e21_3, h⟩ := ix_inv h
   obtain ⟨⟨r21_4, r21_5⟩, h21_6, h⟩ := bd_inv h
   refine kRs 254 [Tm 11 (.ptr 11 0), Ob 11 (TWrite.ob (TWrite.mk x21_1 r21_4 false)), Ob 1000 [sS 1 e_u8 r21_5.l, iv r21_5.n]] [.c (e_s x21_1), .a ⟨sv r21_4, [[sS 1 e_u8 r21_5.l, iv r21_5.n]]⟩] (.c (c_ix (e := e_s) a21_2 e21_3) (.c (c_el (e := e_s) e21_3) (.c (Asks.of (C := Meets Try.prog) (diwanplay_Picks_Val.meets l18_4 _ _ h21_6)) (.c rT .n)))) ?_
   obtain ⟨k25, hk25, h⟩ := jn_inv h
   have Jk25 : ∀ (j25_4 : TWrite) (j25_5 : TPicks), k25 j25_4 j25_5 = some r_ → WK Try.prog diwanplay_Picks_Txn.O (Ck Try.prog) (cR (cR (cB (cL (cR (cB (cB (cR (cL (cR (cR (cR (cR (cR bd55)))))))))))))) [.blk 3, .seq (cR (cR (cB (cB (cR (cL (cR (cR (cR (cR (cR bd55))))))))))), .lp (cB (cR (cL (cR (cR (cR (cR (cR bd55))))))))] (ofL [Tm 0 (.ptr 1000 0), Tm 4 (.ptr 4 0), Tm 5 (.ptr 5 0), Tm 9 (sO 1 e_s l18_0), Tm 10 (iv l18_1), Tm 11 (.ptr 11 0), Ob 4 (TTxn.ob_0011 l18_2), Ob 5 (TTxn.ob_0011 l18_3), Ob 11 (TWrite.ob j25_4), Ob 1000 [sS 1 e_u8 j25_5.l, iv j25_5.n]]) (diwanplay_Picks_Txn.lp18_post l18_0 l18_2 r_) := by
    intro j25_4 j25_5 h
    rw [hk25] at h
    obtain ⟨c26_1, h⟩ := gd_inv h
    refine kRc 607 [Ob 5 (TTxn.ob_0011 (TTxn.mk l18_3.Session l18_3.Seq l18_3.Reads (l18_3.Writes ++ ([j25_4] : List TWrite))))] [.s (.t 78) [sO 3 TWrite.en (l18_3.Writes ++ ([j25_4] : List TWrite))]] (.c (c_al (e := TWrite.en) (f := TWrite.en) c26_1) (.c (congrArg (fun d : DV => [AV.data d]) (c_app (e := TWrite.en) (s := 3) (l := l18_3.Writes) (m := ([j25_4] : List TWrite)))) .n)) (cR (cR (cB (cB (cR (cL (cR (cR (cR (cR (cR bd55))))))))))) [.lp (cB (cR (cL (cR (cR (cR (cR (cR bd55))))))))] ?_
    refine kRc 223 [Tm 10 (iv (w64 (l18_1 + 1)))] [] .n (cB (cR (cL (cR (cR (cR (cR (cR bd55)))))))) [] ?_
    exact kWk (ih (w64 (l18_1 + 1)) (TTxn.mk l18_3.Session l18_3.Seq l18_3.Reads (l18_3.Writes ++ ([j25_4] : List TWrite))) j25_5 _ h)
   clear hk25
   refine kSq ?_
   obtain ⟨⟨r22_1, r22_2⟩, h22_3, h⟩ := bd_inv h
   refine kRs 1019 [Tm 71 (bv (r22_1 == 0)), Ob 1000 [sS 1 e_u8 r22_2.l, iv r22_2.n]] [.a ⟨iv r22_1, [[sS 1 e_u8 r22_2.l, iv r22_2.n]]⟩] (.c (Asks.of (C := Meets Try.prog) (diwanplay_Picks_Num.meets 4 r21_5 _ _ h22_3)) .n) ?_
   rcases br_inv h with ⟨b23_0, h⟩ | ⟨b23_0, h⟩
   ·refine kCt b23_0 ?_
    refine kRc 2038 [Ob 11 (TWrite.ob (TWrite.mk x21_1 ByteArray.empty true))] [] .n (cR (cR (cB (cL (cR (cB (cB (cR (cL (cR (cR (cR (cR (cR bd55)))))))))))))) [.blk 3, .seq (cR (cR (cB (cB (cR (cL (cR (cR (cR (cR (cR bd55))))))))))), .lp (cB (cR (cL (cR (cR (cR (cR (cR bd55))))))))] ?_
    exact kWk (Jk25 (TWrite.mk x21_1 ByteArray.empty true) r22_2 h)
   ·refine kCe b23_0 ?_
    refine kSk ?_
    refine kCd (cR (cR (cB (cL (cR (cB (cB (cR (cL (cR (cR (cR (cR (cR bd55)))))))))))))) [.blk 3, .seq (cR (cR (cB (cB (cR (cL (cR (cR (cR (cR (cR bd55))))))))))), .lp (cB (cR (cL (cR (cR (cR (cR (cR bd55))))))))] ?_
    exact kWk (Jk25 (TWrite.mk x21_1 r21_4 false) r22_2 h)
  ·refine kCe b20_0 ?_
   cases some_inj h
   refine kWo ?_
   refine kXt 2 ?_
   exact kOut
def diwanplay_Picks_Txn (fu : Nat) (most : Int) (o0_v : TPicks) : Option (TTxn × TPicks) :=
 bd (diwanplay_Picks_Num 3 o0_v) fun (r2_1, r2_2) =>
 bd (diwanplay_Picks_Num 6 r2_2) fun (r2_4, r2_5) =>
 bd (diwanplay_Picks_Keys fu 3 r2_5) fun (r3_1, r3_2) =>
 bd (diwanplay_Picks_Txn.lp5 fu most r3_1 (TTxn.mk 0 0 [] []) fu 0 (TTxn.mk (w64 (1 + r2_1)) (w64 (1 + r2_4)) [] []) r3_2) fun (y15_0, y15_1) =>
 bd (diwanplay_Picks_Keys fu 3 y15_1) fun (r16_1, r16_2) =>
 bd (diwanplay_Picks_Txn.lp18 fu r16_1 (TTxn.mk 0 0 [] []) fu 0 y15_0 r16_2) fun (y28_0, y28_1) =>
 some (y28_0, y28_1)
theorem diwanplay_Picks_Txn.meets (fu : Nat) (most : Int) (o0_v : TPicks) (z0 : TTxn) (z1 : TPicks) (h : diwanplay_Picks_Txn fu most o0_v = some (z0, z1)) : Meets Try.prog ⟨55, [.ptr 1000 0, iv most], [[sS 1 e_u8 o0_v.l, iv o0_v.n]]⟩ ⟨.data (TTxn.ag_0011 z0), [[sS 1 e_u8 z1.l, iv z1.n]]⟩ := by
 refine kMt hmix diwanplay_Picks_Txn.O Try.f55 bd55 7 ?_
 unfold diwanplay_Picks_Txn at h
 refine kRs 7 [Tm 4 (.ptr 4 0), Ob 4 (TTxn.ob_0011 (TTxn.mk 0 0 [] []))] [] .n ?_
 obtain ⟨⟨r2_1, r2_2⟩, h2_3, h⟩ := bd_inv h
 obtain ⟨⟨r2_4, r2_5⟩, h2_6, h⟩ := bd_inv h
 refine kRs 15 [Tm 5 (.ptr 5 0), Ob 5 (TTxn.ob_0011 (TTxn.mk (w64 (1 + r2_1)) (w64 (1 + r2_4)) [] [])), Ob 1000 [sS 1 e_u8 r2_5.l, iv r2_5.n]] [.a ⟨iv r2_1, [[sS 1 e_u8 r2_2.l, iv r2_2.n]]⟩, .a ⟨iv r2_4, [[sS 1 e_u8 r2_5.l, iv r2_5.n]]⟩] (.c (Asks.of (C := Meets Try.prog) (diwanplay_Picks_Num.meets 3 o0_v _ _ h2_3)) (.c (Asks.of (C := Meets Try.prog) (diwanplay_Picks_Num.meets 6 r2_2 _ _ h2_6)) .n)) ?_
 obtain ⟨⟨r3_1, r3_2⟩, h3_3, h⟩ := bd_inv h
 refine kRs 123 [Tm 6 (sO 1 e_s r3_1), Ob 1000 [sS 1 e_u8 r3_2.l, iv r3_2.n]] [.a ⟨sO 1 e_s r3_1, [[sS 1 e_u8 r3_2.l, iv r3_2.n]]⟩] (.c (Asks.of (C := Meets Try.prog) (diwanplay_Picks_Keys.meets fu 3 r2_5 _ _ h3_3)) .n) ?_
 refine kSq ?_
 refine kRs 255 [Tm 7 (iv 0)] [] .n ?_
 refine kBk 0 ?_
 obtain ⟨o15, ho15, h⟩ := bd_inv h
 refine kUs (diwanplay_Picks_Txn.lp5_ok fu most r3_1 (TTxn.mk 0 0 [] []) _ 0 (TTxn.mk (w64 (1 + r2_1)) (w64 (1 + r2_4)) [] []) r3_2 _ ho15) ?_
 intro e_ τ_ hp_
 obtain ⟨y15_0, y15_1⟩ := o15
 obtain ⟨rfl, rfl⟩ := hp_
 refine kCd (cR (cR (cR (cR bd55)))) [] ?_
 obtain ⟨⟨r16_1, r16_2⟩, h16_3, h⟩ := bd_inv h
 refine kRs 31 [Tm 9 (sO 1 e_s r16_1), Ob 1000 [sS 1 e_u8 r16_2.l, iv r16_2.n]] [.a ⟨sO 1 e_s r16_1, [[sS 1 e_u8 r16_2.l, iv r16_2.n]]⟩] (.c (Asks.of (C := Meets Try.prog) (diwanplay_Picks_Keys.meets fu 3 y15_1 _ _ h16_3)) .n) ?_
 refine kSq ?_
 refine kRs 127 [Tm 10 (iv 0)] [] .n ?_
 refine kBk 2 ?_
 obtain ⟨o28, ho28, h⟩ := bd_inv h
 refine kUs (diwanplay_Picks_Txn.lp18_ok fu r16_1 (TTxn.mk 0 0 [] []) _ 0 y15_0 r16_2 _ ho28) ?_
 intro e_ τ_ hp_
 obtain ⟨y28_0, y28_1⟩ := o28
 obtain ⟨rfl, rfl⟩ := hp_
 refine kCd (cR (cR (cR (cR (cR (cR bd55)))))) [] ?_
 refine kRs 17 [Ob 4 (TTxn.ob_0011 y28_0)] [] .n ?_
 refine kRt ?_
 have h_0 := some_inj h
 obtain ⟨g_1, h_1⟩ := Prod.mk.inj h_0
 subst g_1
 subst h_1
 exact kFr
def bd34 : Code := (Try.f34.body).getD .skip
def diwanplay_Picks_Txns.O : Nat → Nat := fun t => bif ([4, 5, 6, 7, 8, 9, 10, 18, 24, 43, 55, 81] : List Nat).any (Nat.beq t) then 1 else 0
def diwanplay_Picks_Txns.lp11 (fu : Nat) (l11_0 : Int) (l11_1 : List TTxn) (l11_2 : List (ByteArray × Int)) (l11_3 : Int) : Nat → Int → TTxn → TPicks → Option (TTxn × TPicks)
  | 0, _, _, _ => none
  | n_ + 1, l11_4, l11_5, l11_6 =>
  br (decide (l11_4 < (l11_5.Reads.length : Int)))
   (ix l11_5.Reads l11_4 fun x14_1 =>
   ix l11_5.Reads l11_4 fun x14_4 =>
   bd (diwanplay_Picks_Num 8 l11_6) fun (r15_1, r15_2) =>
   br (r15_1 == 0)
    (bd (diwanplay_Picks_Num (w64 (l11_3 + 1)) r15_2) fun (r17_1, r17_2) =>
    ix (l11_5.Reads.set l11_4.toNat (TRead.mk x14_4.Key ((alook eqS l11_2 x14_1.Key).getD 0) x14_4.Val x14_4.There)) l11_4 fun x17_4 =>
    diwanplay_Picks_Txns.lp11 fu l11_0 l11_1 l11_2 l11_3 n_ (w64 (l11_4 + 1)) (TTxn.mk l11_5.Session l11_5.Seq ((l11_5.Reads.set l11_4.toNat (TRead.mk x14_4.Key ((alook eqS l11_2 x14_1.Key).getD 0) x14_4.Val x14_4.There)).set l11_4.toNat (TRead.mk x17_4.Key r17_1 x17_4.Val x17_4.There)) l11_5.Writes) r17_2)
    (diwanplay_Picks_Txns.lp11 fu l11_0 l11_1 l11_2 l11_3 n_ (w64 (l11_4 + 1)) (TTxn.mk l11_5.Session l11_5.Seq (l11_5.Reads.set l11_4.toNat (TRead.mk x14_4.Key ((alook eqS l11_2 x14_1.Key).getD 0) x14_4.Val x14_4.There)) l11_5.Writes) r15_2))
   (some (l11_5, l11_6))
def diwanplay_Picks_Txns.lp11_post (l11_0 : Int) (l11_1 : List TTxn) (l11_2 : List (ByteArray × Int)) (l11_3 : Int) (r_ : (TTxn × TPicks)) : Wy → St → Prop := fun e τ => match r_ with
  | (y0, y1) => e = .exit 2 ∧ τ = ofL [Tm 0 (.ptr 1000 0), Tm 1 (iv l11_0), Tm 5 (sO 4 TTxn.en l11_1), Tm 6 (.data (.mp 1 (mpe kvS kvI l11_2))), Tm 7 (iv l11_3), Tm 8 (.ptr 8 0), Ob 8 (TTxn.ob_0011 y0), Ob 1000 [sS 1 e_u8 y1.l, iv y1.n]]
theorem diwanplay_Picks_Txns.lp11_ok (fu : Nat) (l11_0 : Int) (l11_1 : List TTxn) (l11_2 : List (ByteArray × Int)) (l11_3 : Int) : ∀ (n_ : Nat) (l11_4 : Int) (l11_5 : TTxn) (l11_6 : TPicks) (r_ : (TTxn × TPicks)), diwanplay_Picks_Txns.lp11 fu l11_0 l11_1 l11_2 l11_3 n_ l11_4 l11_5 l11_6 = some r_ → WK Try.prog diwanplay_Picks_Txns.O (Ck Try.prog) (cB (cR (cL (cR (cR (cB (cL (cR (cB (cB (cR (cL (cR (cR (cR bd34))))))))))))))) [] (ofL [Tm 0 (.ptr 1000 0), Tm 1 (iv l11_0), Tm 5 (sO 4 TTxn.en l11_1), Tm 6 (.data (.mp 1 (mpe kvS kvI l11_2))), Tm 7 (iv l11_3), Tm 8 (.ptr 8 0), Tm 9 (iv l11_4), Ob 8 (TTxn.ob_0011 l11_5), Ob 1000 [sS 1 e_u8 l11_6.l, iv l11_6.n]]) (diwanplay_Picks_Txns.lp11_post l11_0 l11_1 l11_2 l11_3 r_) := by
 intro n_
 induction n_ with
 | zero => intro l11_4 l11_5 l11_6 r_ h; exact no_none h
 | succ n_ ih =>
  intro l11_4 l11_5 l11_6 r_ h
  refine kLp ?_
  refine kSq ?_
  refine kRs 511 [Tm 30 (bv (decide (l11_4 < (l11_5.Reads.length : Int))))] [.s (.t 29) [iv (l11_5.Reads.length : Int)]] (.c (c_len (e := TRead.en) (l := l11_5.Reads)) .n) ?_
  rcases br_inv h with ⟨b13_0, h⟩ | ⟨b13_0, h⟩
  ·refine kCt b13_0 ?_
   refine kSk ?_
   refine kCd (cR (cB (cB (cR (cL (cR (cR (cB (cL (cR (cB (cB (cR (cL (cR (cR (cR bd34))))))))))))))))) [.lp (cB (cR (cL (cR (cR (cB (cL (cR (cB (cB (cR (cL (cR (cR (cR bd34)))))))))))))))] ?_
   refine kSq ?_
   refine kBk 3 ?_
   obtain ⟨x14_1, a14_2, e14_3, h⟩ := ix_inv h
   obtain ⟨x14_4, a14_5, e14_6, h⟩ := ix_inv h
   refine kRs 766 [Ob 8 (TTxn.ob_0011 (TTxn.mk l11_5.Session l11_5.Seq (l11_5.Reads.set l11_4.toNat (TRead.mk x14_4.Key ((alook eqS l11_2 x14_1.Key).getD 0) x14_4.Val x14_4.There)) l11_5.Writes))] [.c (TRead.en x14_1), .s (.t 43) [iv ((alook eqS l11_2 x14_1.Key).getD 0)], .c (TRead.en x14_4), .s (.o 8) (TTxn.ob_0011 (TTxn.mk l11_5.Session l11_5.Seq (l11_5.Reads.set l11_4.toNat (TRead.mk x14_4.Key ((alook eqS l11_2 x14_1.Key).getD 0) x14_4.Val x14_4.There)) l11_5.Writes))] (.c (c_ix (e := TRead.en) a14_2 e14_3) (.c (c_el (e := TRead.en) e14_3) (.c (c_mget (f := kvS) (g := kvI) (eq := eqS) (fun _ _ => rfl) (l := l11_2) (k := x14_1.Key) (z := 0)) (.c (c_ix (e := TRead.en) a14_5 e14_6) (.c (c_el (e := TRead.en) e14_6) (.c (congrArg (fun d : DV => (TTxn.ob_0011 (TTxn.mk l11_5.Session l11_5.Seq (l11_5.Reads.set l11_4.toNat (TRead.mk x14_4.Key ((alook eqS l11_2 x14_1.Key).getD 0) x14_4.Val x14_4.There)) l11_5.Writes)).set 2 (AV.data d)) (c_set (e := TRead.en) (s := 4) (nl := none) (l := l11_5.Reads) (i := l11_4.toNat) (x := (TRead.mk x14_4.Key ((alook eqS l11_2 x14_1.Key).getD 0) x14_4.Val x14_4.There)))) (.c rT .n))))))) ?_
   obtain ⟨⟨r15_1, r15_2⟩, h15_3, h⟩ := bd_inv h
   refine kRs 255 [Tm 48 (bv (r15_1 == 0)), Ob 1000 [sS 1 e_u8 r15_2.l, iv r15_2.n]] [.a ⟨iv r15_1, [[sS 1 e_u8 r15_2.l, iv r15_2.n]]⟩] (.c (Asks.of (C := Meets Try.prog) (diwanplay_Picks_Num.meets 8 l11_6 _ _ h15_3)) .n) ?_
   rcases br_inv h with ⟨b16_0, h⟩ | ⟨b16_0, h⟩
   ·refine kCt b16_0 ?_
    obtain ⟨⟨r17_1, r17_2⟩, h17_3, h⟩ := bd_inv h
    obtain ⟨x17_4, a17_5, e17_6, h⟩ := ix_inv h
    refine kRc 1016 [Ob 8 (TTxn.ob_0011 (TTxn.mk l11_5.Session l11_5.Seq ((l11_5.Reads.set l11_4.toNat (TRead.mk x14_4.Key ((alook eqS l11_2 x14_1.Key).getD 0) x14_4.Val x14_4.There)).set l11_4.toNat (TRead.mk x17_4.Key r17_1 x17_4.Val x17_4.There)) l11_5.Writes)), Ob 1000 [sS 1 e_u8 r17_2.l, iv r17_2.n]] [.a ⟨iv r17_1, [[sS 1 e_u8 r17_2.l, iv r17_2.n]]⟩, .c (TRead.en x17_4), .s (.o 8) (TTxn.ob_0011 (TTxn.mk l11_5.Session l11_5.Seq ((l11_5.Reads.set l11_4.toNat (TRead.mk x14_4.Key ((alook eqS l11_2 x14_1.Key).getD 0) x14_4.Val x14_4.There)).set l11_4.toNat (TRead.mk x17_4.Key r17_1 x17_4.Val x17_4.There)) l11_5.Writes))] (.c (Asks.of (C := Meets Try.prog) (diwanplay_Picks_Num.meets (w64 (l11_3 + 1)) r15_2 _ _ h17_3)) (.c (c_ix (e := TRead.en) a17_5 e17_6) (.c (c_el (e := TRead.en) e17_6) (.c (congrArg (fun d : DV => (TTxn.ob_0011 (TTxn.mk l11_5.Session l11_5.Seq ((l11_5.Reads.set l11_4.toNat (TRead.mk x14_4.Key ((alook eqS l11_2 x14_1.Key).getD 0) x14_4.Val x14_4.There)).set l11_4.toNat (TRead.mk x17_4.Key r17_1 x17_4.Val x17_4.There)) l11_5.Writes)).set 2 (AV.data d)) (c_set (e := TRead.en) (s := 4) (nl := none) (l := (l11_5.Reads.set l11_4.toNat (TRead.mk x14_4.Key ((alook eqS l11_2 x14_1.Key).getD 0) x14_4.Val x14_4.There))) (i := l11_4.toNat) (x := (TRead.mk x17_4.Key r17_1 x17_4.Val x17_4.There)))) (.c rT .n))))) (cR (cR (cB (cB (cR (cL (cR (cR (cB (cL (cR (cB (cB (cR (cL (cR (cR (cR bd34)))))))))))))))))) [.lp (cB (cR (cL (cR (cR (cB (cL (cR (cB (cB (cR (cL (cR (cR (cR bd34)))))))))))))))] ?_
    refine kRc 255 [Tm 9 (iv (w64 (l11_4 + 1)))] [] .n (cB (cR (cL (cR (cR (cB (cL (cR (cB (cB (cR (cL (cR (cR (cR bd34))))))))))))))) [] ?_
    exact kWk (ih (w64 (l11_4 + 1)) (TTxn.mk l11_5.Session l11_5.Seq ((l11_5.Reads.set l11_4.toNat (TRead.mk x14_4.Key ((alook eqS l11_2 x14_1.Key).getD 0) x14_4.Val x14_4.There)).set l11_4.toNat (TRead.mk x17_4.Key r17_1 x17_4.Val x17_4.There)) l11_5.Writes) r17_2 _ h)
   ·refine kCe b16_0 ?_
    refine kSk ?_
    refine kCd (cR (cR (cB (cB (cR (cL (cR (cR (cB (cL (cR (cB (cB (cR (cL (cR (cR (cR bd34)))))))))))))))))) [.lp (cB (cR (cL (cR (cR (cB (cL (cR (cB (cB (cR (cL (cR (cR (cR bd34)))))))))))))))] ?_
    refine kRc 510 [Tm 9 (iv (w64 (l11_4 + 1)))] [] .n (cB (cR (cL (cR (cR (cB (cL (cR (cB (cB (cR (cL (cR (cR (cR bd34))))))))))))))) [] ?_
    exact kWk (ih (w64 (l11_4 + 1)) (TTxn.mk l11_5.Session l11_5.Seq (l11_5.Reads.set l11_4.toNat (TRead.mk x14_4.Key ((alook eqS l11_2 x14_1.Key).getD 0) x14_4.Val x14_4.There)) l11_5.Writes) r15_2 _ h)
  ·refine kCe b13_0 ?_
   cases some_inj h
   refine kWo ?_
   refine kXt 2 ?_
   exact kOut
def diwanplay_Picks_Txns.lp22 (fu : Nat) (l22_0 : Int) (l22_1 : List TTxn) (l22_3 : Int) (l22_5 : TTxn) : Nat → (List (ByteArray × Int)) → Int → TPicks → Option (List (ByteArray × Int) × TPicks)
  | 0, _, _, _ => none
  | n_ + 1, l22_2, l22_4, l22_6 =>
  br (decide (l22_4 < (l22_5.Writes.length : Int)))
   (bd (diwanplay_Picks_Num 9 l22_6) fun (r23_2, r23_3) =>
   br (decide (r23_2 > 0))
    (ix l22_5.Writes l22_4 fun x25_1 =>
    diwanplay_Picks_Txns.lp22 fu l22_0 l22_1 l22_3 l22_5 n_ (aput eqS l22_2 x25_1.Key (w64 (l22_3 + 1))) (w64 (l22_4 + 1)) r23_3)
    (some (l22_2, r23_3)))
   (some (l22_2, l22_6))
def diwanplay_Picks_Txns.lp22_post (l22_0 : Int) (l22_1 : List TTxn) (l22_3 : Int) (l22_5 : TTxn) (r_ : (List (ByteArray × Int) × TPicks)) : Wy → St → Prop := fun e τ => match r_ with
  | (y0, y1) => e = .exit 4 ∧ τ = ofL [Tm 0 (.ptr 1000 0), Tm 1 (iv l22_0), Tm 5 (sO 4 TTxn.en l22_1), Tm 6 (.data (.mp 1 (mpe kvS kvI y0))), Tm 7 (iv l22_3), Tm 8 (.ptr 8 0), Ob 8 (TTxn.ob_0011 l22_5), Ob 1000 [sS 1 e_u8 y1.l, iv y1.n]]
theorem diwanplay_Picks_Txns.lp22_ok (fu : Nat) (l22_0 : Int) (l22_1 : List TTxn) (l22_3 : Int) (l22_5 : TTxn) : ∀ (n_ : Nat) (l22_2 : List (ByteArray × Int)) (l22_4 : Int) (l22_6 : TPicks) (r_ : (List (ByteArray × Int) × TPicks)), diwanplay_Picks_Txns.lp22 fu l22_0 l22_1 l22_3 l22_5 n_ l22_2 l22_4 l22_6 = some r_ → WK Try.prog diwanplay_Picks_Txns.O (Ck Try.prog) (cB (cR (cL (cR (cR (cR (cB (cL (cR (cB (cB (cR (cL (cR (cR (cR bd34)))))))))))))))) [] (ofL [Tm 0 (.ptr 1000 0), Tm 1 (iv l22_0), Tm 5 (sO 4 TTxn.en l22_1), Tm 6 (.data (.mp 1 (mpe kvS kvI l22_2))), Tm 7 (iv l22_3), Tm 8 (.ptr 8 0), Tm 10 (iv l22_4), Ob 8 (TTxn.ob_0011 l22_5), Ob 1000 [sS 1 e_u8 l22_6.l, iv l22_6.n]]) (diwanplay_Picks_Txns.lp22_post l22_0 l22_1 l22_3 l22_5 r_) := by
 intro n_
 induction n_ with
 | zero => intro l22_2 l22_4 l22_6 r_ h; exact no_none h
 | succ n_ ih =>
  intro l22_2 l22_4 l22_6 r_ h
  refine kLp ?_
  refine kSq ?_
  rcases br_inv h with ⟨b23_1, h⟩ | ⟨b23_1, h⟩
  ·obtain ⟨⟨r23_2, r23_3⟩, h23_4, h⟩ := bd_inv h
   refine kRs 255 [Tm 67 (bv (decide (r23_2 > 0))), Ob 1000 [sS 1 e_u8 r23_3.l, iv r23_3.n]] [.s (.t 61) [iv (l22_5.Writes.length : Int)], .b true, .b true, .a ⟨iv r23_2, [[sS 1 e_u8 r23_3.l, iv r23_3.n]]⟩, .b true, .b true] (.c (c_len (e := TWrite.en) (l := l22_5.Writes)) (.r 2 b23_1 (.c (Asks.of (C := Meets Try.prog) (diwanplay_Picks_Num.meets 9 l22_6 _ _ h23_4)) (.r 2 b23_1 .n)))) ?_
   rcases br_inv h with ⟨b24_0, h⟩ | ⟨b24_0, h⟩
   ·refine kCt b24_0 ?_
    refine kSk ?_
    refine kCd (cR (cB (cB (cR (cL (cR (cR (cR (cB (cL (cR (cB (cB (cR (cL (cR (cR (cR bd34)))))))))))))))))) [.lp (cB (cR (cL (cR (cR (cR (cB (cL (cR (cB (cB (cR (cL (cR (cR (cR bd34))))))))))))))))] ?_
    refine kSq ?_
    refine kBk 5 ?_
    obtain ⟨x25_1, a25_2, e25_3, h⟩ := ix_inv h
    refine kRc 990 [Tm 6 (.data (.mp 1 (mpe kvS kvI (aput eqS l22_2 x25_1.Key (w64 (l22_3 + 1))))))] [.c (TWrite.en x25_1), .s (.t 6) [.data (.mp 1 (mpe kvS kvI (aput eqS l22_2 x25_1.Key (w64 (l22_3 + 1)))))]] (.c (c_ix (e := TWrite.en) a25_2 e25_3) (.c (c_el (e := TWrite.en) e25_3) (.c (congrArg (fun d : DV => [AV.data d]) (c_mput (f := kvS) (g := kvI) (eq := eqS) (fun _ _ => rfl) (kd := 1) (l := l22_2) (k := x25_1.Key) (v := (w64 (l22_3 + 1))))) .n))) (cR (cR (cB (cB (cR (cL (cR (cR (cR (cB (cL (cR (cB (cB (cR (cL (cR (cR (cR bd34))))))))))))))))))) [.lp (cB (cR (cL (cR (cR (cR (cB (cL (cR (cB (cB (cR (cL (cR (cR (cR bd34))))))))))))))))] ?_
    refine kRc 383 [Tm 10 (iv (w64 (l22_4 + 1)))] [] .n (cB (cR (cL (cR (cR (cR (cB (cL (cR (cB (cB (cR (cL (cR (cR (cR bd34)))))))))))))))) [] ?_
    exact kWk (ih (aput eqS l22_2 x25_1.Key (w64 (l22_3 + 1))) (w64 (l22_4 + 1)) r23_3 _ h)
   ·refine kCe b24_0 ?_
    cases some_inj h
    refine kWo ?_
    refine kXt 4 ?_
    exact kOut
  ·refine kRs 511 [Tm 67 (bv false)] (.s (.t 61) [iv (l22_5.Writes.length : Int)] :: (rp 4 (.b false) [])) (.c (c_len (e := TWrite.en) (l := l22_5.Writes)) (.r 4 b23_1 .n)) ?_
   refine kCe rF ?_
   cases some_inj h
   refine kWo ?_
   refine kXt 4 ?_
   exact kOut
def diwanplay_Picks_Txns.lp5 (fu : Nat) (l5_0 : Int) : Nat → (List TTxn) → (List (ByteArray × Int)) → Int → TPicks → Option (List TTxn × TPicks)
  | 0, _, _, _, _ => none
  | n_ + 1, l5_1, l5_2, l5_3, l5_4 =>
  br (decide (l5_3 < l5_0))
   (bd (diwanplay_Picks_Txn fu 1 l5_4) fun (r8_1, r8_2) =>
   bd (diwanplay_Picks_Num 2 r8_2) fun (r9_1, r9_2) =>
   bd (diwanplay_Picks_Txns.lp11 fu l5_0 l5_1 l5_2 l5_3 fu 0 (TTxn.mk r8_1.Session (w64 ((w64 (1 + (w64 (Int.tdiv l5_3 2)))) + r9_1)) r8_1.Reads r8_1.Writes) r9_2) fun (y20_0, y20_1) =>
   bd (diwanplay_Picks_Txns.lp22 fu l5_0 l5_1 l5_3 y20_0 fu l5_2 0 y20_1) fun (y27_0, y27_1) =>
   gd (decide (l5_1.length + ([y20_0] : List TTxn).length ≤ 4294967296)) <|
   diwanplay_Picks_Txns.lp5 fu l5_0 n_ (l5_1 ++ ([y20_0] : List TTxn)) y27_0 (w64 (l5_3 + 1)) y27_1)
   (some (l5_1, l5_4))
def diwanplay_Picks_Txns.lp5_post (l5_0 : Int) (r_ : (List TTxn × TPicks)) : Wy → St → Prop := fun e τ => match r_ with
  | (y0, y1) => e = .exit 0 ∧ τ = ofL [Tm 5 (sO 4 TTxn.en y0), Ob 1000 [sS 1 e_u8 y1.l, iv y1.n]]
theorem diwanplay_Picks_Txns.lp5_ok (fu : Nat) (l5_0 : Int) : ∀ (n_ : Nat) (l5_1 : List TTxn) (l5_2 : List (ByteArray × Int)) (l5_3 : Int) (l5_4 : TPicks) (r_ : (List TTxn × TPicks)), diwanplay_Picks_Txns.lp5 fu l5_0 n_ l5_1 l5_2 l5_3 l5_4 = some r_ → WK Try.prog diwanplay_Picks_Txns.O (Ck Try.prog) (cB (cR (cL (cR (cR (cR bd34)))))) [] (ofL [Tm 0 (.ptr 1000 0), Tm 1 (iv l5_0), Tm 5 (sO 4 TTxn.en l5_1), Tm 6 (.data (.mp 1 (mpe kvS kvI l5_2))), Tm 7 (iv l5_3), Ob 1000 [sS 1 e_u8 l5_4.l, iv l5_4.n]]) (diwanplay_Picks_Txns.lp5_post l5_0 r_) := by
 intro n_
 induction n_ with
 | zero => intro l5_1 l5_2 l5_3 l5_4 r_ h; exact no_none h
 | succ n_ ih =>
  intro l5_1 l5_2 l5_3 l5_4 r_ h
  refine kLp ?_
  refine kSq ?_
  refine kRs 63 [Tm 14 (bv (decide (l5_3 < l5_0)))] [] .n ?_
  rcases br_inv h with ⟨b7_0, h⟩ | ⟨b7_0, h⟩
  ·refine kCt b7_0 ?_
   refine kSk ?_
   refine kCd (cR (cB (cB (cR (cL (cR (cR (cR bd34)))))))) [.lp (cB (cR (cL (cR (cR (cR bd34))))))] ?_
   refine kSq ?_
   refine kBk 1 ?_
   obtain ⟨⟨r8_1, r8_2⟩, h8_3, h⟩ := bd_inv h
   refine kRs 62 [Tm 8 (.ptr 8 0), Ob 8 (TTxn.ob_0011 r8_1), Ob 1000 [sS 1 e_u8 r8_2.l, iv r8_2.n]] [.a ⟨.data (TTxn.ag_0011 r8_1), [[sS 1 e_u8 r8_2.l, iv r8_2.n]]⟩] (.c (Asks.of (C := Meets Try.prog) (diwanplay_Picks_Txn.meets fu 1 l5_4 _ _ h8_3)) .n) ?_
   obtain ⟨⟨r9_1, r9_2⟩, h9_3, h⟩ := bd_inv h
   refine kRs 249 [Ob 8 (TTxn.ob_0011 (TTxn.mk r8_1.Session (w64 ((w64 (1 + (w64 (Int.tdiv l5_3 2)))) + r9_1)) r8_1.Reads r8_1.Writes)), Ob 1000 [sS 1 e_u8 r9_2.l, iv r9_2.n]] [.a ⟨iv r9_1, [[sS 1 e_u8 r9_2.l, iv r9_2.n]]⟩] (.c rT (.c (Asks.of (C := Meets Try.prog) (diwanplay_Picks_Num.meets 2 r8_2 _ _ h9_3)) .n)) ?_
   refine kSq ?_
   refine kRs 255 [Tm 9 (iv 0)] [] .n ?_
   refine kBk 2 ?_
   obtain ⟨o20, ho20, h⟩ := bd_inv h
   refine kUs (diwanplay_Picks_Txns.lp11_ok fu l5_0 l5_1 l5_2 l5_3 _ 0 (TTxn.mk r8_1.Session (w64 ((w64 (1 + (w64 (Int.tdiv l5_3 2)))) + r9_1)) r8_1.Reads r8_1.Writes) r9_2 _ ho20) ?_
   intro e_ τ_ hp_
   obtain ⟨y20_0, y20_1⟩ := o20
   obtain ⟨rfl, rfl⟩ := hp_
   refine kCd (cR (cR (cR (cB (cL (cR (cB (cB (cR (cL (cR (cR (cR bd34))))))))))))) [.blk 1, .seq (cR (cR (cB (cB (cR (cL (cR (cR (cR bd34))))))))), .lp (cB (cR (cL (cR (cR (cR bd34))))))] ?_
   refine kSq ?_
   refine kRs 255 [Tm 10 (iv 0)] [] .n ?_
   refine kBk 4 ?_
   obtain ⟨o27, ho27, h⟩ := bd_inv h
   refine kUs (diwanplay_Picks_Txns.lp22_ok fu l5_0 l5_1 l5_3 y20_0 _ l5_2 0 y20_1 _ ho27) ?_
   intro e_ τ_ hp_
   obtain ⟨y27_0, y27_1⟩ := o27
   obtain ⟨rfl, rfl⟩ := hp_
   refine kCd (cR (cR (cR (cR (cB (cL (cR (cB (cB (cR (cL (cR (cR (cR bd34)))))))))))))) [.blk 1, .seq (cR (cR (cB (cB (cR (cL (cR (cR (cR bd34))))))))), .lp (cB (cR (cL (cR (cR (cR bd34))))))] ?_
   obtain ⟨c28_1, h⟩ := gd_inv h
   refine kRc 155 [Tm 5 (sO 4 TTxn.en (l5_1 ++ ([y20_0] : List TTxn)))] [.s (.t 82) [sO 4 TTxn.en (l5_1 ++ ([y20_0] : List TTxn))]] (.c (c_al (e := TTxn.en) (f := TTxn.en) c28_1) (.c (congrArg (fun d : DV => [AV.data d]) (c_app (e := TTxn.en) (s := 4) (l := l5_1) (m := ([y20_0] : List TTxn)))) .n)) (cR (cR (cB (cB (cR (cL (cR (cR (cR bd34))))))))) [.lp (cB (cR (cL (cR (cR (cR bd34))))))] ?_
   refine kRc 47 [Tm 7 (iv (w64 (l5_3 + 1)))] [] .n (cB (cR (cL (cR (cR (cR bd34)))))) [] ?_
   exact kWk (ih (l5_1 ++ ([y20_0] : List TTxn)) y27_0 (w64 (l5_3 + 1)) y27_1 _ h)
  ·refine kCe b7_0 ?_
   cases some_inj h
   refine kWo ?_
   refine kXt 0 ?_
   exact kOut
def diwanplay_Picks_Txns (fu : Nat) (n_v : Int) (o0_v : TPicks) : Option (List TTxn × TPicks) :=
 bd (diwanplay_Picks_Txns.lp5 fu n_v fu [] [] 0 o0_v) fun (y30_0, y30_1) =>
 some (y30_0, y30_1)
theorem diwanplay_Picks_Txns.meets (fu : Nat) (n_v : Int) (o0_v : TPicks) (z0 : List TTxn) (z1 : TPicks) (h : diwanplay_Picks_Txns fu n_v o0_v = some (z0, z1)) : Meets Try.prog ⟨34, [.ptr 1000 0, iv n_v], [[sS 1 e_u8 o0_v.l, iv o0_v.n]]⟩ ⟨sO 4 TTxn.en z0, [[sS 1 e_u8 z1.l, iv z1.n]]⟩ := by
 refine kMt hmix diwanplay_Picks_Txns.O Try.f34 bd34 7 ?_
 unfold diwanplay_Picks_Txns at h
 refine kRs 7 [] [] .n ?_
 refine kRs 7 [Tm 5 (.data (.slc true (some true) 4 (List.map TTxn.en [])))] [] .n ?_
 refine kRs 15 [Tm 6 (.data (.mp 1 (mpe kvS kvI [])))] [] .n ?_
 refine kSq ?_
 refine kRs 31 [Tm 7 (iv 0)] [] .n ?_
 refine kBk 0 ?_
 obtain ⟨o30, ho30, h⟩ := bd_inv h
 refine kUs (diwanplay_Picks_Txns.lp5_ok fu n_v _ [] [] 0 o0_v _ ho30) ?_
 intro e_ τ_ hp_
 obtain ⟨y30_0, y30_1⟩ := o30
 obtain ⟨rfl, rfl⟩ := hp_
 refine kCd (cR (cR (cR (cR bd34)))) [] ?_
 refine kRs 2 [Tm 4 (sO 4 TTxn.en y30_0)] [] .n ?_
 refine kRt ?_
 have h_0 := some_inj h
 obtain ⟨g_1, h_1⟩ := Prod.mk.inj h_0
 subst g_1
 subst h_1
 exact kFr
def bd57 : Code := (Try.f57.body).getD .skip
def diwanref13_Turn.O : Nat → Nat := fun t => bif ([8, 9, 10, 11, 12, 56, 59, 67, 68, 72] : List Nat).any (Nat.beq t) then 1 else 0
def diwanref13_Turn.lp4 (fu : Nat) (l4_0 : Int) (l4_1 : Int) (l4_2 : Int) (l4_3 : List TSeat) : Nat → Int → Option Int
  | 0, _ => none
  | n_ + 1, l4_4 =>
  br (decide (l4_4 < (l4_3.length : Int)))
   (ix l4_3 l4_4 fun x5_2 =>
   br (decide (x5_2.Session < l4_0))
    (diwanref13_Turn.lp4 fu l4_0 l4_1 l4_2 l4_3 n_ (w64 (l4_4 + 1)))
    (some l4_4))
   (some l4_4)
def diwanref13_Turn.lp4_post (l4_0 : Int) (l4_1 : Int) (l4_2 : Int) (l4_3 : List TSeat) (r_ : Int) : Wy → St → Prop := fun e τ => match r_ with
  | y0 => e = .exit 0 ∧ τ = ofL [Tm 1 (iv l4_0), Tm 2 (iv l4_1), Tm 3 (iv l4_2), Tm 10 (sO 3 TSeat.en l4_3), Tm 11 (iv y0)]
theorem diwanref13_Turn.lp4_ok (fu : Nat) (l4_0 : Int) (l4_1 : Int) (l4_2 : Int) (l4_3 : List TSeat) : ∀ (n_ : Nat) (l4_4 : Int) (r_ : Int), diwanref13_Turn.lp4 fu l4_0 l4_1 l4_2 l4_3 n_ l4_4 = some r_ → WK Try.prog diwanref13_Turn.O (Ck Try.prog) (cB (cL (cR (cR (cR bd57))))) [] (ofL [Tm 1 (iv l4_0), Tm 2 (iv l4_1), Tm 3 (iv l4_2), Tm 10 (sO 3 TSeat.en l4_3), Tm 11 (iv l4_4)]) (diwanref13_Turn.lp4_post l4_0 l4_1 l4_2 l4_3 r_) := by
 intro n_
 induction n_ with
 | zero => intro l4_4 r_ h; exact no_none h
 | succ n_ ih =>
  intro l4_4 r_ h
  refine kLp ?_
  refine kSq ?_
  rcases br_inv h with ⟨b5_1, h⟩ | ⟨b5_1, h⟩
  ·obtain ⟨x5_2, a5_3, e5_4, h⟩ := ix_inv h
   refine kRs 31 [Tm 27 (bv (decide (x5_2.Session < l4_0)))] (.s (.t 17) [iv (l4_3.length : Int)] :: (rp 5 (.b true) [.c (TSeat.en x5_2), .b true, .b true, .b true])) (.c (c_len (e := TSeat.en) (l := l4_3)) (.r 3 b5_1 (.c (c_ix (e := TSeat.en) a5_3 e5_4) (.r 2 b5_1 (.c (c_el (e := TSeat.en) e5_4) (.r 3 b5_1 .n)))))) ?_
   rcases br_inv h with ⟨b6_0, h⟩ | ⟨b6_0, h⟩
   ·refine kCt b6_0 ?_
    refine kSk ?_
    refine kCd (cR (cB (cB (cL (cR (cR (cR bd57))))))) [.lp (cB (cL (cR (cR (cR bd57)))))] ?_
    refine kBk 1 ?_
    refine kRc 30 [Tm 11 (iv (w64 (l4_4 + 1)))] [] .n (cB (cL (cR (cR (cR bd57))))) [] ?_
    exact kWk (ih (w64 (l4_4 + 1)) _ h)
   ·refine kCe b6_0 ?_
    cases some_inj h
    refine kWo ?_
    refine kXt 0 ?_
    exact kOut
  ·refine kRs 31 [Tm 27 (bv false)] (.s (.t 17) [iv (l4_3.length : Int)] :: (rp 8 (.b false) [])) (.c (c_len (e := TSeat.en) (l := l4_3)) (.r 8 b5_1 .n)) ?_
   refine kCe rF ?_
   cases some_inj h
   refine kWo ?_
   refine kXt 0 ?_
   exact kOut
def diwanref13_Turn (fu : Nat) (l : List TSeat) (session : Int) (seq : Int) (pos : Int) : Option (List TSeat × Bool) :=
 gd (decide (([] : List TSeat).length + l.length ≤ 4294967296)) <|
 bd (diwanref13_Turn.lp4 fu session seq pos l fu 0) fun y8_0 =>
 jn (
  gd (decide ((0 : Int) ≤ y8_0 ∧ y8_0 ≤ (l.length : Int))) <|
  gd (decide (([] : List TSeat).length + (List.take y8_0.toNat l).length ≤ 4294967296)) <|
  gd (decide ((List.take y8_0.toNat l).length + ([(TSeat.mk session seq pos)] : List TSeat).length ≤ 4294967296)) <|
  gd (decide ((0 : Int) ≤ y8_0 ∧ y8_0 ≤ (l.length : Int))) <|
  gd (decide (((List.take y8_0.toNat l) ++ ([(TSeat.mk session seq pos)] : List TSeat)).length + (List.drop y8_0.toNat l).length ≤ 4294967296)) <|
  some ((((List.take y8_0.toNat l) ++ ([(TSeat.mk session seq pos)] : List TSeat)) ++ (List.drop y8_0.toNat l)), true)) fun k16 =>
 br (decide (y8_0 < (l.length : Int)))
  (ix l y8_0 fun x9_2 =>
  br (x9_2.Session == session)
   (ix l y8_0 fun x11_1 =>
   br (decide (seq ≤ x11_1.Seq))
    (some (l, false))
    (ix l y8_0 fun x14_1 =>
    some ((l.set y8_0.toNat (TSeat.mk session seq pos)), true)))
   (k16))
  (k16)
theorem diwanref13_Turn.meets (fu : Nat) (l : List TSeat) (session : Int) (seq : Int) (pos : Int) (z0 : List TSeat) (z1 : Bool) (h : diwanref13_Turn fu l session seq pos = some (z0, z1)) : Meets Try.prog ⟨57, [sS 3 TSeat.en l, iv session, iv seq, iv pos], []⟩ ⟨.tup [sS 3 TSeat.en z0, bv z1], []⟩ := by
 refine kMt hmix diwanref13_Turn.O Try.f57 bd57 15 ?_
 unfold diwanref13_Turn at h
 refine kRs 15 [] [] .n ?_
 obtain ⟨c2_1, h⟩ := gd_inv h
 refine kRs 14 [Tm 10 (sO 3 TSeat.en l)] [] (.c (c_al (e := TSeat.en) (f := TSeat.en) c2_1) .n) ?_
 refine kRs 15 [Tm 11 (iv 0)] [] .n ?_
 refine kSq ?_
 refine kBk 0 ?_
 obtain ⟨o8, ho8, h⟩ := bd_inv h
 refine kUs (diwanref13_Turn.lp4_ok fu session seq pos l _ 0 _ ho8) ?_
 intro e_ τ_ hp_
 obtain ⟨y8_0, rfl⟩ : ∃ y, y = o8 := ⟨_, rfl⟩
 obtain ⟨rfl, rfl⟩ := hp_
 refine kCd (cR (cR (cR (cR bd57)))) [] ?_
 obtain ⟨k16, hk16, h⟩ := jn_inv h
 have Jk16 : k16 = some (z0, z1) → WK Try.prog diwanref13_Turn.O (Ck Try.prog) (cR (cR (cR (cR (cR bd57))))) [] (ofL [Tm 1 (iv session), Tm 2 (iv seq), Tm 3 (iv pos), Tm 10 (sO 3 TSeat.en l), Tm 11 (iv y8_0)]) (Fin Try.prog diwanref13_Turn.O Try.f57 0 ⟨.tup [sS 3 TSeat.en z0, bv z1], []⟩) := by
  intro h
  rw [hk16] at h
  refine WK.share (x := .tmp 10) (l' := [Tm 1 (iv session), Tm 2 (iv seq), Tm 3 (iv pos), Tm 10 (sS 3 TSeat.en l), Tm 11 (iv y8_0)]) (by kernel_rfl) ?_
  obtain ⟨c17_1, h⟩ := gd_inv h
  obtain ⟨c17_2, h⟩ := gd_inv h
  obtain ⟨c17_3, h⟩ := gd_inv h
  obtain ⟨c17_4, h⟩ := gd_inv h
  obtain ⟨c17_5, h⟩ := gd_inv h
  refine kRs 0 [Tm 8 (sO 3 TSeat.en (((List.take y8_0.toNat l) ++ ([(TSeat.mk session seq pos)] : List TSeat)) ++ (List.drop y8_0.toNat l))), Tm 9 (bv true)] [.s (.t 62) [sS 3 TSeat.en (List.take y8_0.toNat l)], .s (.t 69) [sO 3 TSeat.en ((List.take y8_0.toNat l) ++ ([(TSeat.mk session seq pos)] : List TSeat))], .s (.t 72) [sS 3 TSeat.en (List.drop y8_0.toNat l)], .s (.t 73) [sO 3 TSeat.en (((List.take y8_0.toNat l) ++ ([(TSeat.mk session seq pos)] : List TSeat)) ++ (List.drop y8_0.toNat l))]] (.c (c_cbH (e := TSeat.en) c17_1) (.c (congrArg (fun d : DV => [AV.data d]) (c_cutH (own := false) (nl := none) (s := 3) (e := TSeat.en) (l := l) (h := y8_0.toNat))) (.c (c_al (e := TSeat.en) (f := TSeat.en) c17_2) (.c (c_al (e := TSeat.en) (f := TSeat.en) c17_3) (.c (congrArg (fun d : DV => [AV.data d]) (c_app (e := TSeat.en) (s := 3) (l := (List.take y8_0.toNat l)) (m := ([(TSeat.mk session seq pos)] : List TSeat)))) (.c (c_cbL (e := TSeat.en) c17_4) (.c (congrArg (fun d : DV => [AV.data d]) (c_cutL (own := false) (nl := none) (s := 3) (e := TSeat.en) (l := l) (lo := y8_0.toNat))) (.c (c_al (e := TSeat.en) (f := TSeat.en) c17_5) (.c (congrArg (fun d : DV => [AV.data d]) (c_app (e := TSeat.en) (s := 3) (l := ((List.take y8_0.toNat l) ++ ([(TSeat.mk session seq pos)] : List TSeat))) (m := (List.drop y8_0.toNat l)))) (.c rT .n)))))))))) ?_
  refine kRt ?_
  have h_0 := some_inj h
  obtain ⟨g_1, h_1⟩ := Prod.mk.inj h_0
  subst g_1
  subst h_1
  exact kFr
 clear hk16
 refine kSq ?_
 rcases br_inv h with ⟨b9_1, h⟩ | ⟨b9_1, h⟩
 ·obtain ⟨x9_2, a9_3, e9_4, h⟩ := ix_inv h
  refine kRs 31 [Tm 42 (bv (x9_2.Session == session))] (.s (.t 32) [iv (l.length : Int)] :: (rp 5 (.b true) [.c (TSeat.en x9_2), .b true, .b true, .b true])) (.c (c_len (e := TSeat.en) (l := l)) (.r 3 b9_1 (.c (c_ix (e := TSeat.en) a9_3 e9_4) (.r 2 b9_1 (.c (c_el (e := TSeat.en) e9_4) (.r 3 b9_1 .n)))))) ?_
  rcases br_inv h with ⟨b10_0, h⟩ | ⟨b10_0, h⟩
  ·refine kCt b10_0 ?_
   refine kSq ?_
   obtain ⟨x11_1, a11_2, e11_3, h⟩ := ix_inv h
   refine kRs 62 [Tm 49 (bv (decide (seq ≤ x11_1.Seq)))] [.c (TSeat.en x11_1)] (.c (c_ix (e := TSeat.en) a11_2 e11_3) (.c (c_el (e := TSeat.en) e11_3) .n)) ?_
   rcases br_inv h with ⟨b12_0, h⟩ | ⟨b12_0, h⟩
   ·refine kCt b12_0 ?_
    refine kRs 0 [Tm 8 (sO 3 TSeat.en l), Tm 9 (bv false)] [] .n ?_
    refine kRt ?_
    have h_0 := some_inj h
    obtain ⟨g_1, h_1⟩ := Prod.mk.inj h_0
    subst g_1
    subst h_1
    exact kFr
   ·refine kCe b12_0 ?_
    refine kSk ?_
    refine kCd (cR (cT (cR (cL (cR (cR (cR (cR bd57)))))))) [.seq (cR (cR (cR (cR (cR bd57)))))] ?_
    obtain ⟨x14_1, a14_2, e14_3, h⟩ := ix_inv h
    refine kRs 0 [Tm 10 (sO 3 TSeat.en (l.set y8_0.toNat (TSeat.mk session seq pos)))] [.c (TSeat.en x14_1), .s (.t 10) [sO 3 TSeat.en (l.set y8_0.toNat (TSeat.mk session seq pos))]] (.c (c_ix (e := TSeat.en) a14_2 e14_3) (.c (c_el (e := TSeat.en) e14_3) (.c (congrArg (fun d : DV => [AV.data d]) (c_set (e := TSeat.en) (s := 3) (nl := none) (l := l) (i := y8_0.toNat) (x := (TSeat.mk session seq pos)))) .n))) ?_
    refine kRs 0 [Tm 8 (sO 3 TSeat.en (l.set y8_0.toNat (TSeat.mk session seq pos))), Tm 9 (bv true)] [] .n ?_
    refine kRt ?_
    have h_0 := some_inj h
    obtain ⟨g_1, h_1⟩ := Prod.mk.inj h_0
    subst g_1
    subst h_1
    exact kFr
  ·refine kCe b10_0 ?_
   refine kSk ?_
   refine kCd (cR (cR (cR (cR (cR bd57))))) [] ?_
   exact kWk (Jk16 h)
 ·refine kRs 31 [Tm 42 (bv false)] (.s (.t 32) [iv (l.length : Int)] :: (rp 8 (.b false) [])) (.c (c_len (e := TSeat.en) (l := l)) (.r 8 b9_1 .n)) ?_
  refine kCe rF ?_
  refine kSk ?_
  refine kCd (cR (cR (cR (cR (cR bd57))))) [] ?_
  exact kWk (Jk16 h)
def bd27 : Code := (Try.f27.body).getD .skip
def diwanref1_ShardOf.O : Nat → Nat := fun t => bif ([4, 5, 6] : List Nat).any (Nat.beq t) then 1 else 0
def diwanref1_ShardOf.lp7 (fu : Nat) (l7_0 : ByteArray) (l7_1 : Int) : Nat → Int → Int → Option Int
  | 0, _, _ => none
  | n_ + 1, l7_2, l7_3 =>
  br (decide (l7_3 < (l7_0.size : Int)))
   (gd (decide ((0 : Int) ≤ l7_3 ∧ l7_3 < (l7_0.size : Int))) <|
   gd (!decide (l7_1 = 0)) <|
   diwanref1_ShardOf.lp7 fu l7_0 l7_1 n_ (Int.tmod (w64 (l7_2 + (w64 (byteAt l7_0 l7_3)))) l7_1) (w64 (l7_3 + 1)))
   (some l7_2)
def diwanref1_ShardOf.lp7_post (l7_0 : ByteArray) (l7_1 : Int) (r_ : Int) : Wy → St → Prop := fun e τ => match r_ with
  | y0 => e = .exit 0 ∧ τ = ofL [Tm 5 (iv y0)]
theorem diwanref1_ShardOf.lp7_ok (fu : Nat) (l7_0 : ByteArray) (l7_1 : Int) : ∀ (n_ : Nat) (l7_2 : Int) (l7_3 : Int) (r_ : Int), diwanref1_ShardOf.lp7 fu l7_0 l7_1 n_ l7_2 l7_3 = some r_ → WK Try.prog diwanref1_ShardOf.O (Ck Try.prog) (cB (cR (cL (cR (cR (cR bd27)))))) [] (ofL [Tm 0 (sv l7_0), Tm 1 (iv l7_1), Tm 5 (iv l7_2), Tm 6 (iv l7_3)]) (diwanref1_ShardOf.lp7_post l7_0 l7_1 r_) := by
 intro n_
 induction n_ with
 | zero => intro l7_2 l7_3 r_ h; exact no_none h
 | succ n_ ih =>
  intro l7_2 l7_3 r_ h
  refine kLp ?_
  refine kSq ?_
  refine kRs 15 [Tm 12 (bv (decide (l7_3 < (l7_0.size : Int))))] [] .n ?_
  rcases br_inv h with ⟨b9_0, h⟩ | ⟨b9_0, h⟩
  ·refine kCt b9_0 ?_
   refine kSk ?_
   refine kCd (cR (cB (cB (cR (cL (cR (cR (cR bd27)))))))) [.lp (cB (cR (cL (cR (cR (cR bd27))))))] ?_
   refine kSq ?_
   refine kBk 1 ?_
   obtain ⟨c10_1, h⟩ := gd_inv h
   obtain ⟨c10_2, h⟩ := gd_inv h
   refine kRc 22 [Tm 5 (iv (Int.tmod (w64 (l7_2 + (w64 (byteAt l7_0 l7_3)))) l7_1))] [] (.c c10_1 (.c c10_2 .n)) (cR (cR (cB (cB (cR (cL (cR (cR (cR bd27))))))))) [.lp (cB (cR (cL (cR (cR (cR bd27))))))] ?_
   refine kRc 7 [Tm 6 (iv (w64 (l7_3 + 1)))] [] .n (cB (cR (cL (cR (cR (cR bd27)))))) [] ?_
   exact kWk (ih (Int.tmod (w64 (l7_2 + (w64 (byteAt l7_0 l7_3)))) l7_1) (w64 (l7_3 + 1)) _ h)
  ·refine kCe b9_0 ?_
   cases some_inj h
   refine kWo ?_
   refine kXt 0 ?_
   exact kOut
def diwanref1_ShardOf (fu : Nat) (k_v : ByteArray) (n_v : Int) : Option Int :=
 br (decide (n_v < 1))
  (some 0)
  (bd (diwanref1_ShardOf.lp7 fu k_v n_v fu 0 0) fun y12_0 =>
  some y12_0)
theorem diwanref1_ShardOf.meets (fu : Nat) (k_v : ByteArray) (n_v : Int) (z0 : Int) (h : diwanref1_ShardOf fu k_v n_v = some z0) : Meets Try.prog ⟨27, [sv k_v, iv n_v], []⟩ ⟨iv z0, []⟩ := by
 refine kMt hmix diwanref1_ShardOf.O Try.f27 bd27 3 ?_
 unfold diwanref1_ShardOf at h
 refine kRs 3 [] [] .n ?_
 refine kSq ?_
 refine kRs 3 [Tm 8 (bv (decide (n_v < 1)))] [] .n ?_
 rcases br_inv h with ⟨b3_0, h⟩ | ⟨b3_0, h⟩
 ·refine kCt b3_0 ?_
  refine kRs 0 [Tm 4 (iv 0)] [] .n ?_
  refine kRt ?_
  have h_ := some_inj h
  subst h_
  exact kFr
 ·refine kCe b3_0 ?_
  refine kSk ?_
  refine kCd (cR (cR bd27)) [] ?_
  refine kRs 6 [Tm 5 (iv 0)] [] .n ?_
  refine kSq ?_
  refine kRs 7 [Tm 6 (iv 0)] [] .n ?_
  refine kBk 0 ?_
  obtain ⟨o12, ho12, h⟩ := bd_inv h
  refine kUs (diwanref1_ShardOf.lp7_ok fu k_v n_v _ 0 0 _ ho12) ?_
  intro e_ τ_ hp_
  obtain ⟨y12_0, rfl⟩ : ∃ y, y = o12 := ⟨_, rfl⟩
  obtain ⟨rfl, rfl⟩ := hp_
  refine kCd (cR (cR (cR (cR bd27)))) [] ?_
  refine kRs 0 [Tm 4 (iv y12_0)] [] .n ?_
  refine kRt ?_
  have h_ := some_inj h
  subst h_
  exact kFr
def bd79 : Code := (Try.f79.body).getD .skip
def diwanref13_chain.O : Nat → Nat := fun t => bif ([2, 5] : List Nat).any (Nat.beq t) then 1 else bif ([4] : List Nat).any (Nat.beq t) then 2 else 0
def diwanref13_chain.lp3 (fu : Nat) (l3_0 : ByteArray) (l3_2 : TStore) : Nat → Int → Option (Unit ⊕ (List TVersion))
  | 0, _ => none
  | n_ + 1, l3_1 =>
  br (decide (l3_1 < (l3_2.Chains.length : Int)))
   (ix l3_2.Chains l3_1 fun x6_1 =>
   br (x6_1.Key.toList == l3_0.toList)
    (ix l3_2.Chains l3_1 fun x8_1 =>
    some (.inr x8_1.L))
    (diwanref13_chain.lp3 fu l3_0 l3_2 n_ (w64 (l3_1 + 1))))
   (some (.inl ()))
def diwanref13_chain.lp3_post (l3_0 : ByteArray) (l3_2 : TStore) (r_ : (Unit ⊕ (List TVersion))) : Wy → St → Prop := fun e τ => match r_ with
  | .inl _ => e = .exit 0 ∧ τ = ofL []
  | .inr y0 => e = .ret ∧ τ = ofL [Tm 4 (sS 3 TVersion.en y0)]
theorem diwanref13_chain.lp3_ok (fu : Nat) (l3_0 : ByteArray) (l3_2 : TStore) : ∀ (n_ : Nat) (l3_1 : Int) (r_ : (Unit ⊕ (List TVersion))), diwanref13_chain.lp3 fu l3_0 l3_2 n_ l3_1 = some r_ → WK Try.prog diwanref13_chain.O (Ck Try.prog) (cB (cR (cL (cR bd79)))) [] (ofL [Tm 1 (sv l3_0), Tm 2 (.ptr 2 0), Tm 5 (iv l3_1), Ob 2 [sS 2 TChain.en l3_2.Chains, iv l3_2.Mark]]) (diwanref13_chain.lp3_post l3_0 l3_2 r_) := by
 intro n_
 induction n_ with
 | zero => intro l3_1 r_ h; exact no_none h
 | succ n_ ih =>
  intro l3_1 r_ h
  refine kLp ?_
  refine kSq ?_
  refine kRs 15 [Tm 10 (bv (decide (l3_1 < (l3_2.Chains.length : Int))))] [.s (.t 9) [iv (l3_2.Chains.length : Int)]] (.c (c_len (e := TChain.en) (l := l3_2.Chains)) .n) ?_
  rcases br_inv h with ⟨b5_0, h⟩ | ⟨b5_0, h⟩
  ·refine kCt b5_0 ?_
   refine kSk ?_
   refine kCd (cR (cB (cB (cR (cL (cR bd79)))))) [.lp (cB (cR (cL (cR bd79))))] ?_
   refine kSq ?_
   refine kBk 1 ?_
   obtain ⟨x6_1, a6_2, e6_3, h⟩ := ix_inv h
   refine kRs 30 [Tm 20 (bv (x6_1.Key.toList == l3_0.toList))] [.c (TChain.en x6_1)] (.c (c_ix (e := TChain.en) a6_2 e6_3) (.c (c_el (e := TChain.en) e6_3) .n)) ?_
   rcases br_inv h with ⟨b7_0, h⟩ | ⟨b7_0, h⟩
   ·refine kCt b7_0 ?_
    obtain ⟨x8_1, a8_2, e8_3, h⟩ := ix_inv h
    refine kRs 0 [Tm 4 (sS 3 TVersion.en x8_1.L)] [.c (TChain.en x8_1)] (.c (c_ix (e := TChain.en) a8_2 e8_3) (.c (c_el (e := TChain.en) e8_3) .n)) ?_
    cases some_inj h
    refine kWo ?_
    refine kRt ?_
    exact kOut
   ·refine kCe b7_0 ?_
    refine kSk ?_
    refine kCd (cR (cR (cB (cB (cR (cL (cR bd79))))))) [.lp (cB (cR (cL (cR bd79))))] ?_
    refine kRc 22 [Tm 5 (iv (w64 (l3_1 + 1)))] [] .n (cB (cR (cL (cR bd79)))) [] ?_
    exact kWk (ih (w64 (l3_1 + 1)) _ h)
  ·refine kCe b5_0 ?_
   cases some_inj h
   refine kWo ?_
   refine kXt 0 ?_
   exact kOut
def diwanref13_chain (fu : Nat) (s : TStore) (key : ByteArray) : Option (List TVersion) :=
 bd (diwanref13_chain.lp3 fu key s fu 0) fun o_ => (match o_ with
 | .inl _ =>
  some []
 | .inr y10_0 =>
  some y10_0)
theorem diwanref13_chain.meets (fu : Nat) (s : TStore) (key : ByteArray) (z0 : List TVersion) (h : diwanref13_chain fu s key = some z0) : Meets Try.prog ⟨79, [.data (.agg [.slc false none 2 (List.map TChain.en s.Chains), .val (.int .i64 s.Mark)]), sv key], []⟩ ⟨sS 3 TVersion.en z0, []⟩ := by
 refine kMt hmix diwanref13_chain.O Try.f79 bd79 3 ?_
 unfold diwanref13_chain at h
 refine kRs 2 [Tm 2 (.ptr 2 0), Ob 2 [sS 2 TChain.en s.Chains, iv s.Mark]] [] .n ?_
 refine kSq ?_
 refine kRs 7 [Tm 5 (iv 0)] [] .n ?_
 refine kBk 0 ?_
 obtain ⟨o10, ho10, h⟩ := bd_inv h
 refine kUs (diwanref13_chain.lp3_ok fu key s _ 0 _ ho10) ?_
 intro e_ τ_ hp_
 rcases o10 with o10 | o10
 ·obtain ⟨⟩ := o10
  obtain ⟨rfl, rfl⟩ := hp_
  refine kCd (cR (cR bd79)) [] ?_
  refine kRs 0 [Tm 4 (.data (.slc false (some true) 3 (List.map TVersion.en [])))] [] .n ?_
  refine kWd 0 [Tm 4 (.data (.slc false none 3 (List.map TVersion.en [])))] ?_
  refine kRt ?_
  have h_ := some_inj h
  subst h_
  exact kFr
 ·obtain ⟨y10_0, rfl⟩ : ∃ y, y = o10 := ⟨_, rfl⟩
  obtain ⟨rfl, rfl⟩ := hp_
  have h_ := some_inj h
  subst h_
  exact kFr
def bd28 : Code := (Try.f28.body).getD .skip
def diwanref13_LastOf.O : Nat → Nat := fun t => bif ([2] : List Nat).any (Nat.beq t) then 1 else 0
def diwanref13_LastOf (l : List TVersion) : Option Int :=
 br ((l.length : Int) == 0)
  (some 0)
  (ix l (w64 ((l.length : Int) - 1)) fun x5_1 =>
  some x5_1.Pos)
theorem diwanref13_LastOf.meets (l : List TVersion) (z0 : Int) (h : diwanref13_LastOf l = some z0) : Meets Try.prog ⟨28, [sS 3 TVersion.en l], []⟩ ⟨iv z0, []⟩ := by
 refine kMt hmix diwanref13_LastOf.O Try.f28 bd28 1 ?_
 unfold diwanref13_LastOf at h
 refine kRs 1 [] [] .n ?_
 refine kSq ?_
 refine kRs 1 [Tm 5 (bv ((l.length : Int) == 0))] [.s (.t 4) [iv (l.length : Int)]] (.c (c_len (e := TVersion.en) (l := l)) .n) ?_
 rcases br_inv h with ⟨b3_0, h⟩ | ⟨b3_0, h⟩
 ·refine kCt b3_0 ?_
  refine kRs 0 [Tm 2 (iv 0)] [] .n ?_
  refine kRt ?_
  have h_ := some_inj h
  subst h_
  exact kFr
 ·refine kCe b3_0 ?_
  refine kSk ?_
  refine kCd (cR (cR bd28)) [] ?_
  obtain ⟨x5_1, a5_2, e5_3, h⟩ := ix_inv h
  refine kRs 0 [Tm 2 (iv x5_1.Pos)] [.s (.t 8) [iv (l.length : Int)], .c (TVersion.en x5_1)] (.c (c_len (e := TVersion.en) (l := l)) (.c (c_ix (e := TVersion.en) a5_2 e5_3) (.c (c_el (e := TVersion.en) e5_3) .n))) ?_
  refine kRt ?_
  have h_ := some_inj h
  subst h_
  exact kFr
def bd74 : Code := (Try.f74.body).getD .skip
def diwanref13_Last.O : Nat → Nat := fun t => bif ([2, 4] : List Nat).any (Nat.beq t) then 1 else 0
def diwanref13_Last (fu : Nat) (s : TStore) (key : ByteArray) : Option Int :=
 bd (diwanref13_chain fu s key) fun r2_1 =>
 bd (diwanref13_LastOf r2_1) fun r2_3 =>
 some r2_3
theorem diwanref13_Last.meets (fu : Nat) (s : TStore) (key : ByteArray) (z0 : Int) (h : diwanref13_Last fu s key = some z0) : Meets Try.prog ⟨74, [.data (.agg [.slc false none 2 (List.map TChain.en s.Chains), .val (.int .i64 s.Mark)]), sv key], []⟩ ⟨iv z0, []⟩ := by
 refine kMt hmix diwanref13_Last.O Try.f74 bd74 3 ?_
 unfold diwanref13_Last at h
 refine kRs 2 [Tm 2 (.ptr 2 0), Ob 2 [sS 2 TChain.en s.Chains, iv s.Mark]] [] .n ?_
 obtain ⟨r2_1, h2_2, h⟩ := bd_inv h
 obtain ⟨r2_3, h2_4, h⟩ := bd_inv h
 refine kRs 0 [Tm 4 (iv r2_3)] [.a ⟨sS 3 TVersion.en r2_1, []⟩, .a ⟨iv r2_3, []⟩] (.c (Asks.of (C := Meets Try.prog) (diwanref13_chain.meets fu s key _ h2_2)) (.c (Asks.of (C := Meets Try.prog) (diwanref13_LastOf.meets r2_1 _ h2_4)) .n)) ?_
 refine kRt ?_
 have h_ := some_inj h
 subst h_
 exact kFr
def bd58 : Code := (Try.f58.body).getD .skip
def diwanref13_Bit.O : Nat → Nat := fun t => bif ([2, 3, 4, 5, 6, 7, 8] : List Nat).any (Nat.beq t) then 1 else 0
def diwanref13_Bit.lp8 (fu : Nat) (l8_2 : TShard) (l8_3 : TTxn) : Nat → Int → Int → Option Int
  | 0, _, _ => none
  | n_ + 1, l8_0, l8_1 =>
  br (decide (l8_1 < (l8_3.Reads.length : Int)))
   (ix l8_3.Reads l8_1 fun x11_1 =>
   bd (diwanref1_ShardOf fu x11_1.Key l8_2.Shards) fun r11_4 =>
   br (r11_4 != l8_2.ID)
    (diwanref13_Bit.lp8 fu l8_2 l8_3 n_ l8_0 (w64 (l8_1 + 1)))
    (jn (fun (j17_0 : Int) =>
     ix l8_3.Reads l8_1 fun x18_1 =>
     bd (diwanref13_Last fu l8_2.S x18_1.Key) fun r18_4 =>
     ix l8_3.Reads l8_1 fun x18_6 =>
     br (r18_4 != x18_6.Version)
      (diwanref13_Bit.lp8 fu l8_2 l8_3 n_ 2 (w64 (l8_1 + 1)))
      (diwanref13_Bit.lp8 fu l8_2 l8_3 n_ j17_0 (w64 (l8_1 + 1)))) fun k17 =>
    br (l8_0 == 0)
     (k17 1)
     (k17 l8_0)))
   (some l8_0)
def diwanref13_Bit.lp8_post (l8_2 : TShard) (l8_3 : TTxn) (r_ : Int) : Wy → St → Prop := fun e τ => match r_ with
  | y0 => e = .exit 0 ∧ τ = ofL [Tm 7 (iv y0)]
theorem diwanref13_Bit.lp8_ok (fu : Nat) (l8_2 : TShard) (l8_3 : TTxn) : ∀ (n_ : Nat) (l8_0 : Int) (l8_1 : Int) (r_ : Int), diwanref13_Bit.lp8 fu l8_2 l8_3 n_ l8_0 l8_1 = some r_ → WK Try.prog diwanref13_Bit.O (Ck Try.prog) (cB (cR (cL (cR (cR (cR (cR bd58))))))) [] (ofL [Tm 2 (.ptr 2 0), Tm 3 (.ptr 3 0), Tm 7 (iv l8_0), Tm 8 (iv l8_1), Ob 2 (TShard.ob l8_2), Ob 3 (TTxn.ob l8_3)]) (diwanref13_Bit.lp8_post l8_2 l8_3 r_) := by
 intro n_
 induction n_ with
 | zero => intro l8_0 l8_1 r_ h; exact no_none h
 | succ n_ ih =>
  intro l8_0 l8_1 r_ h
  refine kLp ?_
  refine kSq ?_
  refine kRs 63 [Tm 28 (bv (decide (l8_1 < (l8_3.Reads.length : Int))))] [.s (.t 27) [iv (l8_3.Reads.length : Int)]] (.c (c_len (e := TRead.en) (l := l8_3.Reads)) .n) ?_
  rcases br_inv h with ⟨b10_0, h⟩ | ⟨b10_0, h⟩
  ·refine kCt b10_0 ?_
   refine kSk ?_
   refine kCd (cR (cB (cB (cR (cL (cR (cR (cR (cR bd58))))))))) [.lp (cB (cR (cL (cR (cR (cR (cR bd58)))))))] ?_
   refine kSq ?_
   refine kBk 1 ?_
   refine kSq ?_
   obtain ⟨x11_1, a11_2, e11_3, h⟩ := ix_inv h
   obtain ⟨r11_4, h11_5, h⟩ := bd_inv h
   refine kRs 126 [Tm 42 (bv (r11_4 != l8_2.ID))] [.c (TRead.en x11_1), .a ⟨iv r11_4, []⟩] (.c (c_ix (e := TRead.en) a11_2 e11_3) (.c (c_el (e := TRead.en) e11_3) (.c (Asks.of (C := Meets Try.prog) (diwanref1_ShardOf.meets fu x11_1.Key l8_2.Shards _ h11_5)) (.c rT .n)))) ?_
   rcases br_inv h with ⟨b12_0, h⟩ | ⟨b12_0, h⟩
   ·refine kCt b12_0 ?_
    refine kXt 1 ?_
    refine kCd (cR (cR (cB (cB (cR (cL (cR (cR (cR (cR bd58)))))))))) [.lp (cB (cR (cL (cR (cR (cR (cR bd58)))))))] ?_
    refine kRc 110 [Tm 8 (iv (w64 (l8_1 + 1)))] [] .n (cB (cR (cL (cR (cR (cR (cR bd58))))))) [] ?_
    exact kWk (ih l8_0 (w64 (l8_1 + 1)) _ h)
   ·refine kCe b12_0 ?_
    refine kSk ?_
    refine kCd (cR (cB (cL (cR (cB (cB (cR (cL (cR (cR (cR (cR bd58)))))))))))) [.blk 1, .seq (cR (cR (cB (cB (cR (cL (cR (cR (cR (cR bd58)))))))))), .lp (cB (cR (cL (cR (cR (cR (cR bd58)))))))] ?_
    obtain ⟨k17, hk17, h⟩ := jn_inv h
    have Jk17 : ∀ (j17_0 : Int), k17 j17_0 = some r_ → WK Try.prog diwanref13_Bit.O (Ck Try.prog) (cR (cR (cB (cL (cR (cB (cB (cR (cL (cR (cR (cR (cR bd58))))))))))))) [.blk 1, .seq (cR (cR (cB (cB (cR (cL (cR (cR (cR (cR bd58)))))))))), .lp (cB (cR (cL (cR (cR (cR (cR bd58)))))))] (ofL [Tm 2 (.ptr 2 0), Tm 3 (.ptr 3 0), Tm 7 (iv j17_0), Tm 8 (iv l8_1), Ob 2 (TShard.ob l8_2), Ob 3 (TTxn.ob l8_3)]) (diwanref13_Bit.lp8_post l8_2 l8_3 r_) := by
     intro j17_0 h
     rw [hk17] at h
     obtain ⟨x18_1, a18_2, e18_3, h⟩ := ix_inv h
     obtain ⟨r18_4, h18_5, h⟩ := bd_inv h
     obtain ⟨x18_6, a18_7, e18_8, h⟩ := ix_inv h
     refine kRs 63 [Tm 60 (bv (r18_4 != x18_6.Version))] [.c (TRead.en x18_1), .a ⟨iv r18_4, []⟩, .c (TRead.en x18_6)] (.c (c_ix (e := TRead.en) a18_2 e18_3) (.c (c_el (e := TRead.en) e18_3) (.c (Asks.of (C := Meets Try.prog) (diwanref13_Last.meets fu l8_2.S x18_1.Key _ h18_5)) (.c (c_ix (e := TRead.en) a18_7 e18_8) (.c (c_el (e := TRead.en) e18_8) (.c rT .n)))))) ?_
     rcases br_inv h with ⟨b19_0, h⟩ | ⟨b19_0, h⟩
     ·refine kCt b19_0 ?_
      refine kRc 118 [Tm 7 (iv 2)] [] .n (cR (cR (cB (cB (cR (cL (cR (cR (cR (cR bd58)))))))))) [.lp (cB (cR (cL (cR (cR (cR (cR bd58)))))))] ?_
      refine kRc 55 [Tm 8 (iv (w64 (l8_1 + 1)))] [] .n (cB (cR (cL (cR (cR (cR (cR bd58))))))) [] ?_
      exact kWk (ih 2 (w64 (l8_1 + 1)) _ h)
     ·refine kCe b19_0 ?_
      refine kSk ?_
      refine kCd (cR (cR (cB (cB (cR (cL (cR (cR (cR (cR bd58)))))))))) [.lp (cB (cR (cL (cR (cR (cR (cR bd58)))))))] ?_
      refine kRc 110 [Tm 8 (iv (w64 (l8_1 + 1)))] [] .n (cB (cR (cL (cR (cR (cR (cR bd58))))))) [] ?_
      exact kWk (ih j17_0 (w64 (l8_1 + 1)) _ h)
    clear hk17
    refine kSq ?_
    refine kRs 126 [Tm 44 (bv (l8_0 == 0))] [] .n ?_
    rcases br_inv h with ⟨b15_0, h⟩ | ⟨b15_0, h⟩
    ·refine kCt b15_0 ?_
     refine kRc 118 [Tm 7 (iv 1)] [] .n (cR (cR (cB (cL (cR (cB (cB (cR (cL (cR (cR (cR (cR bd58))))))))))))) [.blk 1, .seq (cR (cR (cB (cB (cR (cL (cR (cR (cR (cR bd58)))))))))), .lp (cB (cR (cL (cR (cR (cR (cR bd58)))))))] ?_
     exact kWk (Jk17 1 h)
    ·refine kCe b15_0 ?_
     refine kSk ?_
     refine kCd (cR (cR (cB (cL (cR (cB (cB (cR (cL (cR (cR (cR (cR bd58))))))))))))) [.blk 1, .seq (cR (cR (cB (cB (cR (cL (cR (cR (cR (cR bd58)))))))))), .lp (cB (cR (cL (cR (cR (cR (cR bd58)))))))] ?_
     exact kWk (Jk17 l8_0 h)
  ·refine kCe b10_0 ?_
   cases some_inj h
   refine kWo ?_
   refine kXt 0 ?_
   exact kOut
def diwanref13_Bit (fu : Nat) (s : TShard) (t : TTxn) : Option Int :=
 bd (diwanref13_Turn fu s.Seats t.Session t.Seq (w64 (s.Done + 1))) fun (r2_1, r2_2) =>
 br (!r2_2)
  (some 0)
  (bd (diwanref13_Bit.lp8 fu s t fu 0 0) fun y23_0 =>
  some y23_0)
theorem diwanref13_Bit.meets (fu : Nat) (s : TShard) (t : TTxn) (z0 : Int) (h : diwanref13_Bit fu s t = some z0) : Meets Try.prog ⟨58, [.data (TShard.ag s), .data (TTxn.ag t)], []⟩ ⟨iv z0, []⟩ := by
 refine kMt hmix diwanref13_Bit.O Try.f58 bd58 3 ?_
 unfold diwanref13_Bit at h
 refine kRs 0 [Tm 2 (.ptr 2 0), Tm 3 (.ptr 3 0), Ob 2 (TShard.ob s), Ob 3 (TTxn.ob t)] [] .n ?_
 obtain ⟨⟨r2_1, r2_2⟩, h2_3, h⟩ := bd_inv h
 refine kRs 15 [Tm 6 (bv r2_2)] [.a ⟨.tup [sS 3 TSeat.en r2_1, bv r2_2], []⟩] (.c (Asks.of (C := Meets Try.prog) (diwanref13_Turn.meets fu s.Seats t.Session t.Seq (w64 (s.Done + 1)) _ _ h2_3)) .n) ?_
 refine kSq ?_
 refine kRs 30 [Tm 23 (bv (!r2_2))] [] .n ?_
 rcases br_inv h with ⟨b4_0, h⟩ | ⟨b4_0, h⟩
 ·refine kCt b4_0 ?_
  refine kRs 0 [Tm 4 (iv 0)] [] .n ?_
  refine kRt ?_
  have h_ := some_inj h
  subst h_
  exact kFr
 ·refine kCe b4_0 ?_
  refine kSk ?_
  refine kCd (cR (cR (cR bd58))) [] ?_
  refine kRs 30 [Tm 7 (iv 0)] [] .n ?_
  refine kSq ?_
  refine kRs 31 [Tm 8 (iv 0)] [] .n ?_
  refine kBk 0 ?_
  obtain ⟨o23, ho23, h⟩ := bd_inv h
  refine kUs (diwanref13_Bit.lp8_ok fu s t _ 0 0 _ ho23) ?_
  intro e_ τ_ hp_
  obtain ⟨y23_0, rfl⟩ : ∃ y, y = o23 := ⟨_, rfl⟩
  obtain ⟨rfl, rfl⟩ := hp_
  refine kCd (cR (cR (cR (cR (cR bd58))))) [] ?_
  refine kRs 0 [Tm 4 (iv y23_0)] [] .n ?_
  refine kRt ?_
  have h_ := some_inj h
  subst h_
  exact kFr
def bd75 : Code := (Try.f75.body).getD .skip
def diwanref1_ReadShards.O : Nat → Nat := fun t => bif ([2, 4, 5, 6, 7, 8, 38] : List Nat).any (Nat.beq t) then 1 else 0
def diwanref1_ReadShards.lp9 (fu : Nat) (l9_0 : Int) (l9_1 : List Int) (l9_2 : Int) (l9_5 : TTxn) : Nat → Bool → Int → Option Bool
  | 0, _, _ => none
  | n_ + 1, l9_3, l9_4 =>
  br (decide (l9_4 < (l9_5.Reads.length : Int)))
   (br l9_3
    (diwanref1_ReadShards.lp9 fu l9_0 l9_1 l9_2 l9_5 n_ true (w64 (l9_4 + 1)))
    (ix l9_5.Reads l9_4 fun x12_2 =>
    bd (diwanref1_ShardOf fu x12_2.Key l9_0) fun r12_5 =>
    diwanref1_ReadShards.lp9 fu l9_0 l9_1 l9_2 l9_5 n_ (r12_5 == l9_2) (w64 (l9_4 + 1))))
   (some l9_3)
def diwanref1_ReadShards.lp9_post (l9_0 : Int) (l9_1 : List Int) (l9_2 : Int) (l9_5 : TTxn) (r_ : Bool) : Wy → St → Prop := fun e τ => match r_ with
  | y0 => e = .exit 2 ∧ τ = ofL [Tm 1 (iv l9_0), Tm 2 (.ptr 2 0), Tm 5 (sO 1 e_i64 l9_1), Tm 6 (iv l9_2), Tm 7 (bv y0), Ob 2 (TTxn.ob l9_5)]
theorem diwanref1_ReadShards.lp9_ok (fu : Nat) (l9_0 : Int) (l9_1 : List Int) (l9_2 : Int) (l9_5 : TTxn) : ∀ (n_ : Nat) (l9_3 : Bool) (l9_4 : Int) (r_ : Bool), diwanref1_ReadShards.lp9 fu l9_0 l9_1 l9_2 l9_5 n_ l9_3 l9_4 = some r_ → WK Try.prog diwanref1_ReadShards.O (Ck Try.prog) (cB (cR (cL (cR (cB (cL (cR (cB (cB (cR (cL (cR (cR bd75))))))))))))) [] (ofL [Tm 1 (iv l9_0), Tm 2 (.ptr 2 0), Tm 5 (sO 1 e_i64 l9_1), Tm 6 (iv l9_2), Tm 7 (bv l9_3), Tm 8 (iv l9_4), Ob 2 (TTxn.ob l9_5)]) (diwanref1_ReadShards.lp9_post l9_0 l9_1 l9_2 l9_5 r_) := by
 intro n_
 induction n_ with
 | zero => intro l9_3 l9_4 r_ h; exact no_none h
 | succ n_ ih =>
  intro l9_3 l9_4 r_ h
  refine kLp ?_
  refine kSq ?_
  refine kRs 127 [Tm 19 (bv (decide (l9_4 < (l9_5.Reads.length : Int))))] [.s (.t 18) [iv (l9_5.Reads.length : Int)]] (.c (c_len (e := TRead.en) (l := l9_5.Reads)) .n) ?_
  rcases br_inv h with ⟨b11_0, h⟩ | ⟨b11_0, h⟩
  ·refine kCt b11_0 ?_
   refine kSk ?_
   refine kCd (cR (cB (cB (cR (cL (cR (cB (cL (cR (cB (cB (cR (cL (cR (cR bd75))))))))))))))) [.lp (cB (cR (cL (cR (cB (cL (cR (cB (cB (cR (cL (cR (cR bd75)))))))))))))] ?_
   refine kSq ?_
   refine kBk 3 ?_
   rcases br_inv h with ⟨b12_1, h⟩ | ⟨b12_1, h⟩
   ·refine kRc 222 [Tm 7 (bv true)] (rp 11 (.b true) []) (.r 11 b12_1 .n) (cR (cR (cB (cB (cR (cL (cR (cB (cL (cR (cB (cB (cR (cL (cR (cR bd75)))))))))))))))) [.lp (cB (cR (cL (cR (cB (cL (cR (cB (cB (cR (cL (cR (cR bd75)))))))))))))] ?_
    refine kRc 95 [Tm 8 (iv (w64 (l9_4 + 1)))] [] .n (cB (cR (cL (cR (cB (cL (cR (cB (cB (cR (cL (cR (cR bd75))))))))))))) [] ?_
    exact kWk (ih true (w64 (l9_4 + 1)) _ h)
   ·obtain ⟨x12_2, a12_3, e12_4, h⟩ := ix_inv h
    obtain ⟨r12_5, h12_6, h⟩ := bd_inv h
    refine kRc 222 [Tm 7 (bv (r12_5 == l9_2))] (rp 4 (.b false) (.c (TRead.en x12_2) :: (rp 4 (.b false) [.a ⟨iv r12_5, []⟩, .b false, .b false, .b false]))) (.r 4 b12_1 (.c (c_ix (e := TRead.en) a12_3 e12_4) (.c (c_el (e := TRead.en) e12_4) (.r 4 b12_1 (.c (Asks.of (C := Meets Try.prog) (diwanref1_ShardOf.meets fu x12_2.Key l9_0 _ h12_6)) (.r 3 b12_1 .n)))))) (cR (cR (cB (cB (cR (cL (cR (cB (cL (cR (cB (cB (cR (cL (cR (cR bd75)))))))))))))))) [.lp (cB (cR (cL (cR (cB (cL (cR (cB (cB (cR (cL (cR (cR bd75)))))))))))))] ?_
    refine kRc 95 [Tm 8 (iv (w64 (l9_4 + 1)))] [] .n (cB (cR (cL (cR (cB (cL (cR (cB (cB (cR (cL (cR (cR bd75))))))))))))) [] ?_
    exact kWk (ih (r12_5 == l9_2) (w64 (l9_4 + 1)) _ h)
  ·refine kCe b11_0 ?_
   cases some_inj h
   refine kWo ?_
   refine kXt 2 ?_
   exact kOut
def diwanref1_ReadShards.lp4 (fu : Nat) (l4_0 : Int) (l4_3 : TTxn) : Nat → (List Int) → Int → Option (List Int)
  | 0, _, _ => none
  | n_ + 1, l4_1, l4_2 =>
  br (decide (l4_2 < (if l4_0 < 1 then 1 else l4_0)))
   (bd (diwanref1_ReadShards.lp9 fu l4_0 l4_1 l4_2 l4_3 fu false 0) fun y15_0 =>
   br y15_0
    (gd (decide (l4_1.length + ([l4_2] : List Int).length ≤ 4294967296)) <|
    diwanref1_ReadShards.lp4 fu l4_0 l4_3 n_ (l4_1 ++ ([l4_2] : List Int)) (w64 (l4_2 + 1)))
    (diwanref1_ReadShards.lp4 fu l4_0 l4_3 n_ l4_1 (w64 (l4_2 + 1))))
   (some l4_1)
def diwanref1_ReadShards.lp4_post (l4_0 : Int) (l4_3 : TTxn) (r_ : (List Int)) : Wy → St → Prop := fun e τ => match r_ with
  | y0 => e = .exit 0 ∧ τ = ofL [Tm 5 (sO 1 e_i64 y0)]
theorem diwanref1_ReadShards.lp4_ok (fu : Nat) (l4_0 : Int) (l4_3 : TTxn) : ∀ (n_ : Nat) (l4_1 : List Int) (l4_2 : Int) (r_ : (List Int)), diwanref1_ReadShards.lp4 fu l4_0 l4_3 n_ l4_1 l4_2 = some r_ → WK Try.prog diwanref1_ReadShards.O (Ck Try.prog) (cB (cR (cL (cR (cR bd75))))) [] (ofL [Tm 1 (iv l4_0), Tm 2 (.ptr 2 0), Tm 5 (sO 1 e_i64 l4_1), Tm 6 (iv l4_2), Ob 2 (TTxn.ob l4_3)]) (diwanref1_ReadShards.lp4_post l4_0 l4_3 r_) := by
 intro n_
 induction n_ with
 | zero => intro l4_1 l4_2 r_ h; exact no_none h
 | succ n_ ih =>
  intro l4_1 l4_2 r_ h
  refine kLp ?_
  refine kSq ?_
  refine kRs 31 [Tm 12 (bv (decide (l4_2 < (if l4_0 < 1 then 1 else l4_0))))] [] .n ?_
  rcases br_inv h with ⟨b6_0, h⟩ | ⟨b6_0, h⟩
  ·refine kCt b6_0 ?_
   refine kSk ?_
   refine kCd (cR (cB (cB (cR (cL (cR (cR bd75))))))) [.lp (cB (cR (cL (cR (cR bd75)))))] ?_
   refine kSq ?_
   refine kBk 1 ?_
   refine kRs 62 [Tm 7 (bv false)] [] .n ?_
   refine kSq ?_
   refine kRs 63 [Tm 8 (iv 0)] [] .n ?_
   refine kBk 2 ?_
   obtain ⟨o15, ho15, h⟩ := bd_inv h
   refine kUs (diwanref1_ReadShards.lp9_ok fu l4_0 l4_1 l4_2 l4_3 _ false 0 _ ho15) ?_
   intro e_ τ_ hp_
   obtain ⟨y15_0, rfl⟩ : ∃ y, y = o15 := ⟨_, rfl⟩
   obtain ⟨rfl, rfl⟩ := hp_
   refine kCd (cR (cR (cB (cL (cR (cB (cB (cR (cL (cR (cR bd75))))))))))) [.blk 1, .seq (cR (cR (cB (cB (cR (cL (cR (cR bd75)))))))), .lp (cB (cR (cL (cR (cR bd75)))))] ?_
   refine kRs 47 [Tm 35 (bv y15_0)] [] .n ?_
   rcases br_inv h with ⟨b17_0, h⟩ | ⟨b17_0, h⟩
   ·refine kCt b17_0 ?_
    obtain ⟨c18_1, h⟩ := gd_inv h
    refine kRc 54 [Tm 5 (sO 1 e_i64 (l4_1 ++ ([l4_2] : List Int)))] [.s (.t 39) [sO 1 e_i64 (l4_1 ++ ([l4_2] : List Int))]] (.c (c_al (e := e_i64) (f := e_i64) c18_1) (.c (congrArg (fun d : DV => [AV.data d]) (c_app (e := e_i64) (s := 1) (l := l4_1) (m := ([l4_2] : List Int)))) .n)) (cR (cR (cB (cB (cR (cL (cR (cR bd75)))))))) [.lp (cB (cR (cL (cR (cR bd75)))))] ?_
    refine kRc 23 [Tm 6 (iv (w64 (l4_2 + 1)))] [] .n (cB (cR (cL (cR (cR bd75))))) [] ?_
    exact kWk (ih (l4_1 ++ ([l4_2] : List Int)) (w64 (l4_2 + 1)) _ h)
   ·refine kCe b17_0 ?_
    refine kSk ?_
    refine kCd (cR (cR (cB (cB (cR (cL (cR (cR bd75)))))))) [.lp (cB (cR (cL (cR (cR bd75)))))] ?_
    refine kRc 46 [Tm 6 (iv (w64 (l4_2 + 1)))] [] .n (cB (cR (cL (cR (cR bd75))))) [] ?_
    exact kWk (ih l4_1 (w64 (l4_2 + 1)) _ h)
  ·refine kCe b6_0 ?_
   cases some_inj h
   refine kWo ?_
   refine kXt 0 ?_
   exact kOut
def diwanref1_ReadShards (fu : Nat) (t : TTxn) (n_v : Int) : Option (List Int) :=
 bd (diwanref1_ReadShards.lp4 fu n_v t fu [] 0) fun y21_0 =>
 some y21_0
theorem diwanref1_ReadShards.meets (fu : Nat) (t : TTxn) (n_v : Int) (z0 : List Int) (h : diwanref1_ReadShards fu t n_v = some z0) : Meets Try.prog ⟨75, [.data (TTxn.ag t), iv n_v], []⟩ ⟨sO 1 e_i64 z0, []⟩ := by
 refine kMt hmix diwanref1_ReadShards.O Try.f75 bd75 3 ?_
 unfold diwanref1_ReadShards at h
 refine kRs 2 [Tm 2 (.ptr 2 0), Ob 2 (TTxn.ob t)] [] .n ?_
 refine kRs 7 [Tm 5 (.data (.slc true (some true) 1 (List.map e_i64 [])))] [] .n ?_
 refine kSq ?_
 refine kRs 15 [Tm 6 (iv 0)] [] .n ?_
 refine kBk 0 ?_
 obtain ⟨o21, ho21, h⟩ := bd_inv h
 refine kUs (diwanref1_ReadShards.lp4_ok fu n_v t _ [] 0 _ ho21) ?_
 intro e_ τ_ hp_
 obtain ⟨y21_0, rfl⟩ : ∃ y, y = o21 := ⟨_, rfl⟩
 obtain ⟨rfl, rfl⟩ := hp_
 refine kCd (cR (cR (cR bd75))) [] ?_
 refine kRs 0 [Tm 4 (sO 1 e_i64 y21_0)] [] .n ?_
 refine kRt ?_
 have h_ := some_inj h
 subst h_
 exact kFr
def bd59 : Code := (Try.f59.body).getD .skip
def diwanref13_Verdict.O : Nat → Nat := fun t => bif ([3, 6, 7, 8, 9, 10] : List Nat).any (Nat.beq t) then 1 else 0
def diwanref13_Verdict.lp5 (fu : Nat) (l5_0 : List Int) (l5_2 : List Int) : Nat → Int → Int → Option (Int ⊕ Unit)
  | 0, _, _ => none
  | n_ + 1, l5_1, l5_3 =>
  br (decide (l5_3 < (l5_2.length : Int)))
   (jn (fun (j12_4 : Int) =>
    br (j12_4 == 2)
     (some (.inr ()))
     (br (j12_4 != 1)
      (diwanref13_Verdict.lp5 fu l5_0 l5_2 n_ 0 (w64 (l5_3 + 1)))
      (diwanref13_Verdict.lp5 fu l5_0 l5_2 n_ l5_1 (w64 (l5_3 + 1))))) fun k12 =>
   ix l5_2 l5_3 fun x9_1 =>
   br (decide (x9_1 < (l5_0.length : Int)))
    (ix l5_2 l5_3 fun x11_1 =>
    ix l5_0 x11_1 fun x11_4 =>
    k12 x11_4)
    (k12 0))
   (some (.inl l5_1))
def diwanref13_Verdict.lp5_post (l5_0 : List Int) (l5_2 : List Int) (r_ : (Int ⊕ Unit)) : Wy → St → Prop := fun e τ => match r_ with
  | .inl y0 => e = .exit 0 ∧ τ = ofL [Tm 7 (iv y0)]
  | .inr _ => e = .ret ∧ τ = ofL [Tm 6 (iv 2)]
theorem diwanref13_Verdict.lp5_ok (fu : Nat) (l5_0 : List Int) (l5_2 : List Int) : ∀ (n_ : Nat) (l5_1 : Int) (l5_3 : Int) (r_ : (Int ⊕ Unit)), diwanref13_Verdict.lp5 fu l5_0 l5_2 n_ l5_1 l5_3 = some r_ → WK Try.prog diwanref13_Verdict.O (Ck Try.prog) (cB (cR (cL (cR (cR (cR bd59)))))) [] (ofL [Tm 2 (sS 1 e_i64 l5_0), Tm 7 (iv l5_1), Tm 8 (sO 1 e_i64 l5_2), Tm 9 (iv l5_3)]) (diwanref13_Verdict.lp5_post l5_0 l5_2 r_) := by
 intro n_
 induction n_ with
 | zero => intro l5_1 l5_3 r_ h; exact no_none h
 | succ n_ ih =>
  intro l5_1 l5_3 r_ h
  refine kLp ?_
  refine kSq ?_
  refine kRs 15 [Tm 17 (bv (decide (l5_3 < (l5_2.length : Int))))] [.s (.t 16) [iv (l5_2.length : Int)]] (.c (c_len (e := e_i64) (l := l5_2)) .n) ?_
  rcases br_inv h with ⟨b7_0, h⟩ | ⟨b7_0, h⟩
  ·refine kCt b7_0 ?_
   refine kSk ?_
   refine kCd (cR (cB (cB (cR (cL (cR (cR (cR bd59)))))))) [.lp (cB (cR (cL (cR (cR (cR bd59))))))] ?_
   refine kSq ?_
   refine kBk 1 ?_
   refine kRs 30 [Tm 10 (iv 0)] [] .n ?_
   obtain ⟨k12, hk12, h⟩ := jn_inv h
   have Jk12 : ∀ (j12_4 : Int), k12 j12_4 = some r_ → WK Try.prog diwanref13_Verdict.O (Ck Try.prog) (cR (cR (cB (cL (cR (cB (cB (cR (cL (cR (cR (cR bd59)))))))))))) [.blk 1, .seq (cR (cR (cB (cB (cR (cL (cR (cR (cR bd59))))))))), .lp (cB (cR (cL (cR (cR (cR bd59))))))] (ofL [Tm 2 (sS 1 e_i64 l5_0), Tm 7 (iv l5_1), Tm 8 (sO 1 e_i64 l5_2), Tm 9 (iv l5_3), Tm 10 (iv j12_4)]) (diwanref13_Verdict.lp5_post l5_0 l5_2 r_) := by
    intro j12_4 h
    rw [hk12] at h
    refine kSq ?_
    refine kRs 31 [Tm 35 (bv (j12_4 == 2))] [] .n ?_
    rcases br_inv h with ⟨b14_0, h⟩ | ⟨b14_0, h⟩
    ·refine kCt b14_0 ?_
     refine kRs 0 [Tm 6 (iv 2)] [] .n ?_
     cases some_inj h
     refine kWo ?_
     refine kRt ?_
     exact kOut
    ·refine kCe b14_0 ?_
     refine kSk ?_
     refine kCd (cR (cR (cR (cB (cL (cR (cB (cB (cR (cL (cR (cR (cR bd59))))))))))))) [.blk 1, .seq (cR (cR (cB (cB (cR (cL (cR (cR (cR bd59))))))))), .lp (cB (cR (cL (cR (cR (cR bd59))))))] ?_
     refine kRs 30 [Tm 37 (bv (j12_4 != 1))] [] .n ?_
     rcases br_inv h with ⟨b17_0, h⟩ | ⟨b17_0, h⟩
     ·refine kCt b17_0 ?_
      refine kRc 26 [Tm 7 (iv 0)] [] .n (cR (cR (cB (cB (cR (cL (cR (cR (cR bd59))))))))) [.lp (cB (cR (cL (cR (cR (cR bd59))))))] ?_
      refine kRc 7 [Tm 9 (iv (w64 (l5_3 + 1)))] [] .n (cB (cR (cL (cR (cR (cR bd59)))))) [] ?_
      exact kWk (ih 0 (w64 (l5_3 + 1)) _ h)
     ·refine kCe b17_0 ?_
      refine kSk ?_
      refine kCd (cR (cR (cB (cB (cR (cL (cR (cR (cR bd59))))))))) [.lp (cB (cR (cL (cR (cR (cR bd59))))))] ?_
      refine kRc 14 [Tm 9 (iv (w64 (l5_3 + 1)))] [] .n (cB (cR (cL (cR (cR (cR bd59)))))) [] ?_
      exact kWk (ih l5_1 (w64 (l5_3 + 1)) _ h)
   clear hk12
   refine kSq ?_
   obtain ⟨x9_1, a9_2, e9_3, h⟩ := ix_inv h
   refine kRs 31 [Tm 26 (bv (decide (x9_1 < (l5_0.length : Int))))] [.c (e_i64 x9_1), .s (.t 25) [iv (l5_0.length : Int)]] (.c (c_ix (e := e_i64) a9_2 e9_3) (.c (c_el (e := e_i64) e9_3) (.c (c_len (e := e_i64) (l := l5_0)) .n))) ?_
   rcases br_inv h with ⟨b10_0, h⟩ | ⟨b10_0, h⟩
   ·refine kCt b10_0 ?_
    obtain ⟨x11_1, a11_2, e11_3, h⟩ := ix_inv h
    obtain ⟨x11_4, a11_5, e11_6, h⟩ := ix_inv h
    refine kRc 60 [Tm 10 (iv x11_4)] [.c (e_i64 x11_1), .c (e_i64 x11_4)] (.c (c_ix (e := e_i64) a11_2 e11_3) (.c (c_el (e := e_i64) e11_3) (.c (c_ix (e := e_i64) a11_5 e11_6) (.c (c_el (e := e_i64) e11_6) .n)))) (cR (cR (cB (cL (cR (cB (cB (cR (cL (cR (cR (cR bd59)))))))))))) [.blk 1, .seq (cR (cR (cB (cB (cR (cL (cR (cR (cR bd59))))))))), .lp (cB (cR (cL (cR (cR (cR bd59))))))] ?_
    exact kWk (Jk12 x11_4 h)
   ·refine kCe b10_0 ?_
    refine kSk ?_
    refine kCd (cR (cR (cB (cL (cR (cB (cB (cR (cL (cR (cR (cR bd59)))))))))))) [.blk 1, .seq (cR (cR (cB (cB (cR (cL (cR (cR (cR bd59))))))))), .lp (cB (cR (cL (cR (cR (cR bd59))))))] ?_
    exact kWk (Jk12 0 h)
  ·refine kCe b7_0 ?_
   cases some_inj h
   refine kWo ?_
   refine kXt 0 ?_
   exact kOut
def diwanref13_Verdict (fu : Nat) (t : TTxn) (n_v : Int) (row : List Int) : Option Int :=
 bd (diwanref1_ReadShards fu t n_v) fun r3_1 =>
 bd (diwanref13_Verdict.lp5 fu row r3_1 fu 1 0) fun o_ => (match o_ with
 | .inl y21_0 =>
  some y21_0
 | .inr _ =>
  some 2)
theorem diwanref13_Verdict.meets (fu : Nat) (t : TTxn) (n_v : Int) (row : List Int) (z0 : Int) (h : diwanref13_Verdict fu t n_v row = some z0) : Meets Try.prog ⟨59, [.data (TTxn.ag t), iv n_v, sS 1 e_i64 row], []⟩ ⟨iv z0, []⟩ := by
 refine kMt hmix diwanref13_Verdict.O Try.f59 bd59 7 ?_
 unfold diwanref13_Verdict at h
 refine kRs 6 [Tm 3 (.ptr 3 0), Ob 3 (TTxn.ob t)] [] .n ?_
 refine kRs 15 [Tm 7 (iv 1)] [] .n ?_
 obtain ⟨r3_1, h3_2, h⟩ := bd_inv h
 refine kRs 17 [Tm 8 (sO 1 e_i64 r3_1)] [.a ⟨sO 1 e_i64 r3_1, []⟩] (.c (Asks.of (C := Meets Try.prog) (diwanref1_ReadShards.meets fu t n_v _ h3_2)) .n) ?_
 refine kSq ?_
 refine kRs 7 [Tm 9 (iv 0)] [] .n ?_
 refine kBk 0 ?_
 obtain ⟨o21, ho21, h⟩ := bd_inv h
 refine kUs (diwanref13_Verdict.lp5_ok fu row r3_1 _ 1 0 _ ho21) ?_
 intro e_ τ_ hp_
 rcases o21 with o21 | o21
 ·obtain ⟨y21_0, rfl⟩ : ∃ y, y = o21 := ⟨_, rfl⟩
  obtain ⟨rfl, rfl⟩ := hp_
  refine kCd (cR (cR (cR (cR bd59)))) [] ?_
  refine kRs 0 [Tm 6 (iv y21_0)] [] .n ?_
  refine kRt ?_
  have h_ := some_inj h
  subst h_
  exact kFr
 ·obtain ⟨⟩ := o21
  obtain ⟨rfl, rfl⟩ := hp_
  have h_ := some_inj h
  subst h_
  exact kFr
end Go.Proofs.Ythjpcfbfiaenaaa.Told
