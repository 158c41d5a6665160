/- Functions of the program told as Lean functions, with the walks of their code in the machine by value. -/
import Derived.Test.YtknkeabmjleoiaaProg
import Derived.Test.YtknkeabmjleoiaaVam2
import Derived.Test.YtknkeabmjleoiaaIns36
import Derived.Test.YtknkeabmjleoiaaIns43
import Derived.Test.YtknkeabmjleoiaaMgZeros
noncomputable section
namespace Go.Proofs.Ytknkeabmjleoiaa.Told
open Go Go.Proofs Go.Proofs.Ytknkeabmjleoiaa Go.Proofs.Ytknkeabmjleoiaa.Vam
set_option linter.unusedVariables false
set_option maxRecDepth 100000
theorem hmix : Try.prog.follows .mixedOrders = true := by kernel_rfl
structure TRead where
  Key : ByteArray
  Version : Int
  Val : ByteArray
  There : Bool
def TRead.en (x : TRead) : List DV := [.val (.string x.Key), .val (.int .i64 x.Version), .val (.string x.Val), .val (.bool x.There)]
structure TWrite where
  Key : ByteArray
  Val : ByteArray
  Gone : Bool
def TWrite.en (x : TWrite) : List DV := [.val (.string x.Key), .val (.string x.Val), .val (.bool x.Gone)]
structure TTxn where
  Session : Int
  Seq : Int
  Reads : (List TRead)
  Writes : (List TWrite)
def TTxn.en (x : TTxn) : List DV := [.val (.int .i64 x.Session), .val (.int .i64 x.Seq), .slc false none 4 (List.map TRead.en x.Reads), .slc false none 3 (List.map TWrite.en x.Writes)]
structure TVersion where
  Pos : Int
  Val : ByteArray
  Gone : Bool
def TVersion.en (x : TVersion) : List DV := [.val (.int .i64 x.Pos), .val (.string x.Val), .val (.bool x.Gone)]
structure TChain where
  Key : ByteArray
  L : (List TVersion)
def TChain.en (x : TChain) : List DV := [.val (.string x.Key), .slc false none 3 (List.map TVersion.en x.L)]
structure TSeat where
  Session : Int
  Seq : Int
  Pos : Int
def TSeat.en (x : TSeat) : List DV := [.val (.int .i64 x.Session), .val (.int .i64 x.Seq), .val (.int .i64 x.Pos)]
structure TStore where
  Chains : (List TChain)
  Mark : Int
def TStore.en (x : TStore) : List DV := [.slc false none 2 (List.map TChain.en x.Chains), .val (.int .i64 x.Mark)]
structure TBench where
  said : (List Int)
  store : TStore
  seats : (List TSeat)
def TBench.en (x : TBench) : List DV := [.slc false none 1 (List.map e_i64 x.said), .slc false none 2 (List.map TChain.en x.store.Chains), .val (.int .i64 x.store.Mark), .slc false none 3 (List.map TSeat.en x.seats)]
structure TPicks where
  l : (List Int)
  n : Int
def TPicks.en (x : TPicks) : List DV := [.slc false none 1 (List.map e_u8 x.l), .val (.int .i64 x.n)]
structure TA12_int where
  c0 : Int
  c1 : Int
  c2 : Int
  c3 : Int
  c4 : Int
  c5 : Int
  c6 : Int
  c7 : Int
  c8 : Int
  c9 : Int
  c10 : Int
  c11 : Int
def TA12_int.en (x : TA12_int) : List DV := [.val (.int .i64 x.c0), .val (.int .i64 x.c1), .val (.int .i64 x.c2), .val (.int .i64 x.c3), .val (.int .i64 x.c4), .val (.int .i64 x.c5), .val (.int .i64 x.c6), .val (.int .i64 x.c7), .val (.int .i64 x.c8), .val (.int .i64 x.c9), .val (.int .i64 x.c10), .val (.int .i64 x.c11)]
def TA12_int.ob (x : TA12_int) : List AV := [.data (.val (.int .i64 x.c0)), .data (.val (.int .i64 x.c1)), .data (.val (.int .i64 x.c2)), .data (.val (.int .i64 x.c3)), .data (.val (.int .i64 x.c4)), .data (.val (.int .i64 x.c5)), .data (.val (.int .i64 x.c6)), .data (.val (.int .i64 x.c7)), .data (.val (.int .i64 x.c8)), .data (.val (.int .i64 x.c9)), .data (.val (.int .i64 x.c10)), .data (.val (.int .i64 x.c11))]
def TTxn.ag (x : TTxn) : DV := .agg [.val (.int .i64 x.Session), .val (.int .i64 x.Seq), .slc false none 4 (List.map TRead.en x.Reads), .slc false none 3 (List.map TWrite.en x.Writes)]
def TTxn.ag_0011 (x : TTxn) : DV := .agg [.val (.int .i64 x.Session), .val (.int .i64 x.Seq), .slc true none 4 (List.map TRead.en x.Reads), .slc true none 3 (List.map TWrite.en x.Writes)]
def TTxn.ob (x : TTxn) : List AV := [.data (.val (.int .i64 x.Session)), .data (.val (.int .i64 x.Seq)), .data (.slc false none 4 (List.map TRead.en x.Reads)), .data (.slc false none 3 (List.map TWrite.en x.Writes))]
def TTxn.ob_0011 (x : TTxn) : List AV := [.data (.val (.int .i64 x.Session)), .data (.val (.int .i64 x.Seq)), .data (.slc true none 4 (List.map TRead.en x.Reads)), .data (.slc true none 3 (List.map TWrite.en x.Writes))]
def TRead.ag (x : TRead) : DV := .agg [.val (.string x.Key), .val (.int .i64 x.Version), .val (.string x.Val), .val (.bool x.There)]
def TRead.ob (x : TRead) : List AV := [.data (.val (.string x.Key)), .data (.val (.int .i64 x.Version)), .data (.val (.string x.Val)), .data (.val (.bool x.There))]
def TWrite.ob (x : TWrite) : List AV := [.data (.val (.string x.Key)), .data (.val (.string x.Val)), .data (.val (.bool x.Gone))]
def TVersion.ag (x : TVersion) : DV := .agg [.val (.int .i64 x.Pos), .val (.string x.Val), .val (.bool x.Gone)]
def TVersion.ob (x : TVersion) : List AV := [.data (.val (.int .i64 x.Pos)), .data (.val (.string x.Val)), .data (.val (.bool x.Gone))]
def TSeat.ag (x : TSeat) : DV := .agg [.val (.int .i64 x.Session), .val (.int .i64 x.Seq), .val (.int .i64 x.Pos)]
def TSeat.ob (x : TSeat) : List AV := [.data (.val (.int .i64 x.Session)), .data (.val (.int .i64 x.Seq)), .data (.val (.int .i64 x.Pos))]
def TBench.ob (x : TBench) : List AV := [.data (.slc false none 1 (List.map e_i64 x.said)), .data (.slc false none 2 (List.map TChain.en x.store.Chains)), .data (.val (.int .i64 x.store.Mark)), .data (.slc false none 3 (List.map TSeat.en x.seats))]
def TBench.ob_01 (x : TBench) : List AV := [.data (.slc false none 1 (List.map e_i64 x.said)), .data (.slc true none 2 (List.map TChain.en x.store.Chains)), .data (.val (.int .i64 x.store.Mark)), .data (.slc false none 3 (List.map TSeat.en x.seats))]
def TBench.ob_1 (x : TBench) : List AV := [.data (.slc true none 1 (List.map e_i64 x.said)), .data (.slc false none 2 (List.map TChain.en x.store.Chains)), .data (.val (.int .i64 x.store.Mark)), .data (.slc false none 3 (List.map TSeat.en x.seats))]
def TBench.ob_11 (x : TBench) : List AV := [.data (.slc true none 1 (List.map e_i64 x.said)), .data (.slc true none 2 (List.map TChain.en x.store.Chains)), .data (.val (.int .i64 x.store.Mark)), .data (.slc false none 3 (List.map TSeat.en x.seats))]
def TBench.ob_1101 (x : TBench) : List AV := [.data (.slc true none 1 (List.map e_i64 x.said)), .data (.slc true none 2 (List.map TChain.en x.store.Chains)), .data (.val (.int .i64 x.store.Mark)), .data (.slc true none 3 (List.map TSeat.en x.seats))]
def bd58 : Code := (Try.f58.body).getD .skip
def cmp_isNaN_int.O : Nat → Nat := fun t => bif ([2] : List Nat).any (Nat.beq t) then 1 else 0
def cmp_isNaN_int (x_v : Int) : Option Bool :=
 some (x_v != x_v)
theorem cmp_isNaN_int.meets (x_v : Int) (z0 : Bool) (h : cmp_isNaN_int x_v = some z0) : Meets Try.prog ⟨58, [iv x_v], []⟩ ⟨bv z0, []⟩ := by
 refine kMt hmix cmp_isNaN_int.O Try.f58 bd58 1 ?_
 unfold cmp_isNaN_int at h
 refine kRs 1 [] [] .n ?_
 refine kRs 0 [Tm 2 (bv (x_v != x_v))] [] .n ?_
 refine kRt ?_
 have h_ := some_inj h
 subst h_
 exact kFr
def bd46 : Code := (Try.f46.body).getD .skip
def cmp_Compare_int.O : Nat → Nat := fun t => bif ([4, 5, 6] : List Nat).any (Nat.beq t) then 1 else 0
def cmp_Compare_int (x_v : Int) (y_v : Int) : Option Int :=
 bd (cmp_isNaN_int x_v) fun r2_1 =>
 bd (cmp_isNaN_int y_v) fun r3_1 =>
 br r2_1
  (br r3_1
   (some 0)
   (some (-1)))
  (br r3_1
   (some 1)
   (br (decide (x_v < y_v))
    (some (-1))
    (br (decide (x_v > y_v))
     (some 1)
     (some 0))))
theorem cmp_Compare_int.meets (x_v : Int) (y_v : Int) (z0 : Int) (h : cmp_Compare_int x_v y_v = some z0) : Meets Try.prog ⟨46, [iv x_v, iv y_v], []⟩ ⟨iv z0, []⟩ := by
 refine kMt hmix cmp_Compare_int.O Try.f46 bd46 3 ?_
 unfold cmp_Compare_int at h
 refine kRs 3 [] [] .n ?_
 obtain ⟨r2_1, h2_2, h⟩ := bd_inv h
 refine kRs 3 [Tm 5 (bv r2_1)] [.a ⟨bv r2_1, []⟩] (.c (aoM (cmp_isNaN_int.meets x_v _ h2_2)) .n) ?_
 obtain ⟨r3_1, h3_2, h⟩ := bd_inv h
 refine kRs 7 [Tm 6 (bv r3_1)] [.a ⟨bv r3_1, []⟩] (.c (aoM (cmp_isNaN_int.meets y_v _ h3_2)) .n) ?_
 refine kSq ?_
 refine kRs 13 [Tm 11 (bv r2_1)] [] .n ?_
 rcases br_inv h with ⟨b5_0, h⟩ | ⟨b5_0, h⟩
 ·refine kCt b5_0 ?_
  refine kSq ?_
  refine kRs 0 [Tm 12 (bv r3_1)] [] .n ?_
  rcases br_inv h with ⟨b7_0, h⟩ | ⟨b7_0, h⟩
  ·refine kCt b7_0 ?_
   refine kRs 0 [Tm 4 (iv 0)] [] .n ?_
   refine kRt ?_
   have h_ := some_inj h
   subst h_
   exact kFr
  ·refine kCe b7_0 ?_
   refine kSk ?_
   refine kCd (cR (cT (cR (cL (cR (cR (cR bd46))))))) [.seq (cR (cR (cR (cR bd46))))] ?_
   refine kRs 0 [Tm 4 (iv (-1))] [] .n ?_
   refine kRt ?_
   have h_ := some_inj h
   subst h_
   exact kFr
 ·refine kCe b5_0 ?_
  refine kSk ?_
  refine kCd (cR (cR (cR (cR bd46)))) [] ?_
  refine kSq ?_
  refine kRs 12 [Tm 13 (bv r3_1)] [] .n ?_
  rcases br_inv h with ⟨b11_0, h⟩ | ⟨b11_0, h⟩
  ·refine kCt b11_0 ?_
   refine kRs 0 [Tm 4 (iv 1)] [] .n ?_
   refine kRt ?_
   have h_ := some_inj h
   subst h_
   exact kFr
  ·refine kCe b11_0 ?_
   refine kSk ?_
   refine kCd (cR (cR (cR (cR (cR bd46))))) [] ?_
   refine kSq ?_
   refine kRs 6 [Tm 16 (bv (decide (x_v < y_v)))] [] .n ?_
   rcases br_inv h with ⟨b14_0, h⟩ | ⟨b14_0, h⟩
   ·refine kCt b14_0 ?_
    refine kRs 0 [Tm 4 (iv (-1))] [] .n ?_
    refine kRt ?_
    have h_ := some_inj h
    subst h_
    exact kFr
   ·refine kCe b14_0 ?_
    refine kSk ?_
    refine kCd (cR (cR (cR (cR (cR (cR bd46)))))) [] ?_
    refine kSq ?_
    refine kRs 0 [Tm 19 (bv (decide (x_v > y_v)))] [] .n ?_
    rcases br_inv h with ⟨b17_0, h⟩ | ⟨b17_0, h⟩
    ·refine kCt b17_0 ?_
     refine kRs 0 [Tm 4 (iv 1)] [] .n ?_
     refine kRt ?_
     have h_ := some_inj h
     subst h_
     exact kFr
    ·refine kCe b17_0 ?_
     refine kSk ?_
     refine kCd (cR (cR (cR (cR (cR (cR (cR bd46))))))) [] ?_
     refine kRs 0 [Tm 4 (iv 0)] [] .n ?_
     refine kRt ?_
     have h_ := some_inj h
     subst h_
     exact kFr
def bd45 : Code := (Try.f45.body).getD .skip
def seat_seats_find_1.O : Nat → Nat := fun t => bif ([2, 4] : List Nat).any (Nat.beq t) then 1 else 0
def seat_seats_find_1 (s : TSeat) (session : Int) : Option Int :=
 bd (cmp_Compare_int s.Session session) fun r2_1 =>
 some r2_1
theorem seat_seats_find_1.meets (s : TSeat) (session : Int) (z0 : Int) (h : seat_seats_find_1 s session = some z0) : Meets Try.prog ⟨45, [.data (TSeat.ag s), iv session], []⟩ ⟨iv z0, []⟩ := by
 refine kMt hmix seat_seats_find_1.O Try.f45 bd45 3 ?_
 unfold seat_seats_find_1 at h
 refine kRs 2 [Tm 2 (.ptr 2 0), Ob 2 (TSeat.ob s)] [] .n ?_
 obtain ⟨r2_1, h2_2, h⟩ := bd_inv h
 refine kRs 0 [Tm 4 (iv r2_1)] [.a ⟨iv r2_1, []⟩] (.c (aoM (cmp_Compare_int.meets s.Session session _ h2_2)) .n) ?_
 refine kRt ?_
 have h_ := some_inj h
 subst h_
 exact kFr
def bd44 : Code := (Try.f44.body).getD .skip
def slices_BinarySearchFunc_api_Seat_int.O : Nat → Nat := fun t => bif ([6, 7, 8, 9, 10, 11] : List Nat).any (Nat.beq t) then 1 else 0
def slices_BinarySearchFunc_api_Seat_int.lp4 (fu : Nat) (l4_0 : List TSeat) (l4_1 : Int) (l4_2 : Int) : Nat → Int → Int → Option Int
  | 0, _, _ => none
  | n_ + 1, l4_3, l4_4 =>
  br (decide (l4_3 < l4_4))
   (ix l4_0 (w64 (vshr .u64 (IntKind.u64.wrap (w64 (l4_3 + l4_4))) 1)) fun x8_1 =>
   bd (seat_seats_find_1 x8_1 l4_1) fun r8_4 =>
   br (decide (r8_4 < 0))
    (slices_BinarySearchFunc_api_Seat_int.lp4 fu l4_0 l4_1 l4_2 n_ (w64 ((w64 (vshr .u64 (IntKind.u64.wrap (w64 (l4_3 + l4_4))) 1)) + 1)) l4_4)
    (slices_BinarySearchFunc_api_Seat_int.lp4 fu l4_0 l4_1 l4_2 n_ l4_3 (w64 (vshr .u64 (IntKind.u64.wrap (w64 (l4_3 + l4_4))) 1))))
   (some l4_3)
def slices_BinarySearchFunc_api_Seat_int.lp4_post (l4_0 : List TSeat) (l4_1 : Int) (l4_2 : Int) (r_ : Int) : Wy → St → Prop := fun e τ => match r_ with
  | y0 => e = .exit 0 ∧ τ = ofL [Tm 0 (sS 3 TSeat.en l4_0), Tm 1 (iv l4_1), Tm 2 (.fn (.func 45) [] []), Tm 8 (iv l4_2), Tm 9 (iv y0)]
theorem slices_BinarySearchFunc_api_Seat_int.lp4_ok (fu : Nat) (l4_0 : List TSeat) (l4_1 : Int) (l4_2 : Int) : ∀ (n_ : Nat) (l4_3 : Int) (l4_4 : Int) (r_ : Int), slices_BinarySearchFunc_api_Seat_int.lp4 fu l4_0 l4_1 l4_2 n_ l4_3 l4_4 = some r_ → WK Try.prog slices_BinarySearchFunc_api_Seat_int.O (Ck Try.prog) (cB (cL (cR (cR (cR bd44))))) [] (ofL [Tm 0 (sS 3 TSeat.en l4_0), Tm 1 (iv l4_1), Tm 2 (.fn (.func 45) [] []), Tm 8 (iv l4_2), Tm 9 (iv l4_3), Tm 10 (iv l4_4)]) (slices_BinarySearchFunc_api_Seat_int.lp4_post l4_0 l4_1 l4_2 r_) := by
 intro n_
 induction n_ with
 | zero => intro l4_3 l4_4 r_ h; exact no_none h
 | succ n_ ih =>
  intro l4_3 l4_4 r_ h
  refine kLp ?_
  refine kSq ?_
  refine kRs 63 [Tm 17 (bv (decide (l4_3 < l4_4)))] [] .n ?_
  rcases br_inv h with ⟨b6_0, h⟩ | ⟨b6_0, h⟩
  ·refine kCt b6_0 ?_
   refine kSk ?_
   refine kCd (cR (cB (cB (cL (cR (cR (cR bd44))))))) [.lp (cB (cL (cR (cR (cR bd44)))))] ?_
   refine kBk 1 ?_
   refine kRs 126 [Tm 11 (iv (w64 (vshr .u64 (IntKind.u64.wrap (w64 (l4_3 + l4_4))) 1)))] [] (.c rT .n) ?_
   obtain ⟨x8_1, a8_2, e8_3, h⟩ := ix_inv h
   obtain ⟨r8_4, h8_5, h⟩ := bd_inv h
   refine kRs 127 [Tm 31 (bv (decide (r8_4 < 0)))] [.c (TSeat.en x8_1), .a ⟨iv r8_4, []⟩] (.c (c_ix (e := TSeat.en) a8_2 e8_3) (.c (c_el (e := TSeat.en) e8_3) (.c (aoM (seat_seats_find_1.meets x8_1 l4_1 _ h8_5)) .n))) ?_
   rcases br_inv h with ⟨b9_0, h⟩ | ⟨b9_0, h⟩
   ·refine kCt b9_0 ?_
    refine kRc 188 [Tm 9 (iv (w64 ((w64 (vshr .u64 (IntKind.u64.wrap (w64 (l4_3 + l4_4))) 1)) + 1)))] [] .n (cB (cL (cR (cR (cR bd44))))) [] ?_
    exact kWk (ih (w64 ((w64 (vshr .u64 (IntKind.u64.wrap (w64 (l4_3 + l4_4))) 1)) + 1)) l4_4 _ h)
   ·refine kCe b9_0 ?_
    refine kRc 124 [Tm 10 (iv (w64 (vshr .u64 (IntKind.u64.wrap (w64 (l4_3 + l4_4))) 1)))] [] .n (cB (cL (cR (cR (cR bd44))))) [] ?_
    exact kWk (ih l4_3 (w64 (vshr .u64 (IntKind.u64.wrap (w64 (l4_3 + l4_4))) 1)) _ h)
  ·refine kCe b6_0 ?_
   cases some_inj h
   refine kWo ?_
   refine kXt 0 ?_
   exact kOut
def slices_BinarySearchFunc_api_Seat_int (fu : Nat) (x_v : List TSeat) (target : Int) : Option (Int × Bool) :=
 bd (slices_BinarySearchFunc_api_Seat_int.lp4 fu x_v target (x_v.length : Int) fu 0 (x_v.length : Int)) fun y12_0 =>
 br (decide (y12_0 < (x_v.length : Int)))
  (ix x_v y12_0 fun x13_2 =>
  bd (seat_seats_find_1 x13_2 target) fun r13_5 =>
  some (y12_0, (r13_5 == 0)))
  (some (y12_0, false))
theorem slices_BinarySearchFunc_api_Seat_int.meets (fu : Nat) (x_v : List TSeat) (target : Int) (z0 : Int) (z1 : Bool) (h : slices_BinarySearchFunc_api_Seat_int fu x_v target = some (z0, z1)) : Meets Try.prog ⟨44, [sS 3 TSeat.en x_v, iv target, .fn (.func 45) [] []], []⟩ ⟨.tup [iv z0, bv z1], []⟩ := by
 refine kMt hmix slices_BinarySearchFunc_api_Seat_int.O Try.f44 bd44 7 ?_
 unfold slices_BinarySearchFunc_api_Seat_int at h
 refine kRs 7 [] [] .n ?_
 refine kRs 7 [Tm 8 (iv (x_v.length : Int))] [.s (.t 13) [iv (x_v.length : Int)]] (.c (c_len (e := TSeat.en) (l := x_v)) .n) ?_
 refine kRs 15 [Tm 9 (iv 0), Tm 10 (iv (x_v.length : Int))] [] .n ?_
 refine kSq ?_
 refine kBk 0 ?_
 obtain ⟨o12, ho12, h⟩ := bd_inv h
 refine kUs (slices_BinarySearchFunc_api_Seat_int.lp4_ok fu x_v target (x_v.length : Int) _ 0 (x_v.length : Int) _ ho12) ?_
 intro e_ τ_ hp_
 obtain ⟨y12_0, rfl⟩ : ∃ y, y = o12 := ⟨_, rfl⟩
 obtain ⟨rfl, rfl⟩ := hp_
 refine kCd (cR (cR (cR (cR bd44)))) [] ?_
 rcases br_inv h with ⟨b13_1, h⟩ | ⟨b13_1, h⟩
 ·obtain ⟨x13_2, a13_3, e13_4, h⟩ := ix_inv h
  obtain ⟨r13_5, h13_6, h⟩ := bd_inv h
  refine kRs 0 [Tm 6 (iv y12_0), Tm 7 (bv (r13_5 == 0))] (rp 4 (.b true) [.c (TSeat.en x13_2), .b true, .b true, .b true, .a ⟨iv r13_5, []⟩, .b true, .b true]) (.r 4 b13_1 (.c (c_ix (e := TSeat.en) a13_3 e13_4) (.c (c_el (e := TSeat.en) e13_4) (.r 3 b13_1 (.c (aoM (seat_seats_find_1.meets x13_2 target _ h13_6)) (.r 2 b13_1 .n)))))) ?_
  refine kRt ?_
  have h_0 := some_inj h
  obtain ⟨g_1, h_1⟩ := Prod.mk.inj h_0
  subst g_1
  subst h_1
  exact kFr
 ·refine kRs 0 [Tm 6 (iv y12_0), Tm 7 (bv false)] (rp 9 (.b false) []) (.r 9 b13_1 .n) ?_
  refine kRt ?_
  have h_0 := some_inj h
  obtain ⟨g_1, h_1⟩ := Prod.mk.inj h_0
  subst g_1
  subst h_1
  exact kFr
def bd34 : Code := (Try.f34.body).getD .skip
def seat_seats_find.O : Nat → Nat := fun t => bif ([4, 5] : List Nat).any (Nat.beq t) then 1 else 0
def seat_seats_find (fu : Nat) (l : List TSeat) (session : Int) : Option (Int × Bool) :=
 bd (slices_BinarySearchFunc_api_Seat_int fu l session) fun (r2_1, r2_2) =>
 some (r2_1, r2_2)
theorem seat_seats_find.meets (fu : Nat) (l : List TSeat) (session : Int) (z0 : Int) (z1 : Bool) (h : seat_seats_find fu l session = some (z0, z1)) : Meets Try.prog ⟨34, [sS 3 TSeat.en l, iv session], []⟩ ⟨.tup [iv z0, bv z1], []⟩ := by
 refine kMt hmix seat_seats_find.O Try.f34 bd34 3 ?_
 unfold seat_seats_find at h
 refine kRs 3 [] [] .n ?_
 obtain ⟨⟨r2_1, r2_2⟩, h2_3, h⟩ := bd_inv h
 refine kRs 0 [Tm 4 (iv r2_1), Tm 5 (bv r2_2)] [.a ⟨.tup [iv r2_1, bv r2_2], []⟩] (.c (aoM (slices_BinarySearchFunc_api_Seat_int.meets fu l session _ _ h2_3)) .n) ?_
 refine kRt ?_
 have h_0 := some_inj h
 obtain ⟨g_1, h_1⟩ := Prod.mk.inj h_0
 subst g_1
 subst h_1
 exact kFr
def bd35 : Code := (Try.f35.body).getD .skip
def slices_Clone_api_Seat.O : Nat → Nat := fun t => bif ([2, 5] : List Nat).any (Nat.beq t) then 1 else 0
def slices_Clone_api_Seat (s : List TSeat) : Option (List TSeat) :=
 gd (decide (([] : List TSeat).length + s.length ≤ 4294967296)) <|
 some s
theorem slices_Clone_api_Seat.meets1 (s : List TSeat) (z0 : List TSeat) (h : slices_Clone_api_Seat s = some z0) : Meets Try.prog ⟨35, [.data (.slc false (some false) 3 (List.map TSeat.en s))], []⟩ ⟨sO 3 TSeat.en z0, []⟩ := by
 refine kMt hmix slices_Clone_api_Seat.O Try.f35 bd35 1 ?_
 unfold slices_Clone_api_Seat at h
 refine kRs 1 [] [] .n ?_
 refine kSq ?_
 refine kRs 1 [Tm 4 (bv false)] [] .n ?_
 refine kCe rF ?_
 refine kSk ?_
 refine kCd (cR (cR bd35)) [] ?_
 obtain ⟨c5_1, h⟩ := gd_inv h
 refine kRs 0 [Tm 2 (sO 3 TSeat.en s)] [] (.c (c_al (e := TSeat.en) (f := TSeat.en) c5_1) .n) ?_
 refine kRt ?_
 have h_ := some_inj h
 subst h_
 exact kFr
def slices_Clone_api_Seat_nil : Option (List TSeat) :=
 some []
theorem slices_Clone_api_Seat.meets0 (z0 : List TSeat) (h : slices_Clone_api_Seat_nil = some z0) : Meets Try.prog ⟨35, [.data (.slc false (some true) 3 (List.map TSeat.en []))], []⟩ ⟨sO 3 TSeat.en z0, []⟩ := by
 refine kMt hmix slices_Clone_api_Seat.O Try.f35 bd35 1 ?_
 unfold slices_Clone_api_Seat_nil at h
 refine kRs 1 [] [] .n ?_
 refine kSq ?_
 refine kRs 1 [Tm 4 (bv true)] [] .n ?_
 refine kCt rT ?_
 refine kRs 0 [Tm 2 (.data (.slc true (some true) 3 (List.map TSeat.en [])))] [] .n ?_
 refine kWd 0 [Tm 2 (.data (.slc true none 3 (List.map TSeat.en [])))] ?_
 refine kRt ?_
 have h_ := some_inj h
 subst h_
 exact kFr
theorem slices_Clone_api_Seat.nil_eq : slices_Clone_api_Seat [] = slices_Clone_api_Seat_nil := by kernel_rfl
theorem slices_Clone_api_Seat.meets (s : List TSeat) (z0 : List TSeat) (h : slices_Clone_api_Seat s = some z0) : Meets Try.prog ⟨35, [sS 3 TSeat.en s], []⟩ ⟨sO 3 TSeat.en z0, []⟩ := by
  refine (okay_m rfl).1 (asks_ok (C := Okay Try.prog) (fun _ _ h => h) (Asks.nil (args1 := []) (args2 := []) (sz := 3) (es := List.map TSeat.en s) (fun e => aoM ?_) (aoM (slices_Clone_api_Seat.meets1 s z0 h))))
  obtain rfl : s = [] := List.map_eq_nil_iff.1 e
  exact slices_Clone_api_Seat.meets0 z0 (slices_Clone_api_Seat.nil_eq  ▸ h)
def bd36 : Code := (Try.f36.body).getD .skip
def slices_Insert_api_Seat_part.O : Nat → Nat := fun t => bif ([0, 6, 7, 8, 9, 17, 23, 25, 53, 60] : List Nat).any (Nat.beq t) then 1 else bif ([12] : List Nat).any (Nat.beq t) then 5 else 0
def slices_Insert_api_Seat_part (s : List TSeat) (i : Int) (v : List TSeat) : Option (List TSeat) :=
 gd (decide ((0 : Int) ≤ i ∧ i ≤ (s.length : Int))) <|
 br ((v.length : Int) == 0)
  (some s)
  (br (i == (s.length : Int))
   (gd (decide (s.length + v.length ≤ 4294967296)) <|
   some (s ++ v))
   (none))
theorem slices_Insert_api_Seat_part.meets (s : List TSeat) (i : Int) (v : List TSeat) (z0 : List TSeat) (h : slices_Insert_api_Seat_part s i v = some z0) : Meets Try.prog ⟨36, [sO 3 TSeat.en s, iv i, sS 3 TSeat.en v], []⟩ ⟨sO 3 TSeat.en z0, []⟩ := by
 refine kMt hmix slices_Insert_api_Seat_part.O Try.f36 bd36 7 ?_
 unfold slices_Insert_api_Seat_part at h
 refine kRs 7 [] [] .n ?_
 obtain ⟨c2_1, h⟩ := gd_inv h
 refine kRs 7 [] [] (.c (c_cbL (e := TSeat.en) c2_1) .n) ?_
 refine kRs 7 [Tm 7 (iv (v.length : Int))] [.s (.t 14) [iv (v.length : Int)]] (.c (c_len (e := TSeat.en) (l := v)) .n) ?_
 refine kSq ?_
 refine kRs 15 [Tm 16 (bv ((v.length : Int) == 0))] [] .n ?_
 rcases br_inv h with ⟨b5_0, h⟩ | ⟨b5_0, h⟩
 ·refine kCt b5_0 ?_
  refine kRs 0 [Tm 6 (sO 3 TSeat.en s)] [] .n ?_
  refine kRt ?_
  have h_ := some_inj h
  subst h_
  exact kFr
 ·refine kCe b5_0 ?_
  refine kSk ?_
  refine kCd (cR (cR (cR (cR bd36)))) [] ?_
  refine kRs 30 [Tm 8 (iv (s.length : Int))] [.s (.t 19) [iv (s.length : Int)]] (.c (c_len (e := TSeat.en) (l := s)) .n) ?_
  refine kSq ?_
  refine kRs 31 [Tm 22 (bv (i == (s.length : Int)))] [] .n ?_
  rcases br_inv h with ⟨b9_0, h⟩ | ⟨b9_0, h⟩
  ·refine kCt b9_0 ?_
   obtain ⟨c10_1, h⟩ := gd_inv h
   refine kRs 0 [Tm 6 (sO 3 TSeat.en (s ++ v))] [.s (.t 25) [sO 3 TSeat.en (s ++ v)]] (.c (c_al (e := TSeat.en) (f := TSeat.en) c10_1) (.c (congrArg (fun d : DV => [AV.data d]) (c_app (e := TSeat.en) (s := 3) (l := s) (m := v))) .n)) ?_
   refine kRt ?_
   have h_ := some_inj h
   subst h_
   exact kFr
  ·refine kCe b9_0 ?_
   refine kSk ?_
   refine kCd (cR (cR (cR (cR (cR (cR bd36)))))) [] ?_
   refine kSq ?_
   exact no_none h
/-- slices.Insert[[]diwan/api.Seat,diwan/api.Seat], as a whole. -/
def slices_Insert_api_Seat (s : List TSeat) (i : Int) (v : List TSeat) : Option (List TSeat) :=
  br (decide (0 ≤ i ∧ i < (s.length : Int) ∧ 0 < v.length ∧ s.length + v.length ≤ 4294967296))
    (some (List.take i.toNat s ++ v ++ List.drop i.toNat s))
    (slices_Insert_api_Seat_part s i v)
theorem slices_Insert_api_Seat.meets (s : List TSeat) (i : Int) (v : List TSeat) (z0 : List TSeat) (h : slices_Insert_api_Seat s i v = some z0) : Meets Try.prog ⟨36, [sO 3 TSeat.en s, iv i, sS 3 TSeat.en v], []⟩ ⟨sO 3 TSeat.en z0, []⟩ := by
  rcases br_inv h with ⟨hb, h⟩ | ⟨hb, h⟩
  · cases some_inj h
    exact ins_meetsT (e := TSeat.en) Try.func36 (by kernel_rfl) (by kernel_rfl) (by kernel_rfl) (by kernel_rfl) Ins36.walk hb
  · exact slices_Insert_api_Seat_part.meets s i v _ h
def bd28 : Code := (Try.f28.body).getD .skip
def seat_Turn.O : Nat → Nat := fun t => bif ([8, 9, 10, 11, 12, 13, 24, 36, 42, 43, 49, 54, 55] : List Nat).any (Nat.beq t) then 1 else bif ([56] : List Nat).any (Nat.beq t) then 4 else 0
def seat_Turn (fu : Nat) (l : List TSeat) (session : Int) (seq : Int) (pos : Int) : Option (List TSeat × Bool) :=
 bd (seat_seats_find fu l session) fun (r3_1, r3_2) =>
 bd (slices_Clone_api_Seat l) fun r4_1 =>
 br r3_2
  (ix l r3_1 fun x5_2 =>
  br (decide (x5_2.Seq ≥ seq))
   (some (r4_1, false))
   (br r3_2
    (ix r4_1 r3_1 fun x10_1 =>
    ix (r4_1.set r3_1.toNat (TSeat.mk x10_1.Session seq x10_1.Pos)) r3_1 fun x10_4 =>
    some (((r4_1.set r3_1.toNat (TSeat.mk x10_1.Session seq x10_1.Pos)).set r3_1.toNat (TSeat.mk x10_4.Session x10_4.Seq pos)), true))
    (bd (slices_Insert_api_Seat r4_1 r3_1 ([(TSeat.mk session seq pos)] : List TSeat)) fun r12_1 =>
    some (r12_1, true))))
  (br r3_2
   (ix r4_1 r3_1 fun x15_1 =>
   ix (r4_1.set r3_1.toNat (TSeat.mk x15_1.Session seq x15_1.Pos)) r3_1 fun x15_4 =>
   some (((r4_1.set r3_1.toNat (TSeat.mk x15_1.Session seq x15_1.Pos)).set r3_1.toNat (TSeat.mk x15_4.Session x15_4.Seq pos)), true))
   (bd (slices_Insert_api_Seat r4_1 r3_1 ([(TSeat.mk session seq pos)] : List TSeat)) fun r17_1 =>
   some (r17_1, true)))
theorem seat_Turn.meets (fu : Nat) (l : List TSeat) (session : Int) (seq : Int) (pos : Int) (z0 : List TSeat) (z1 : Bool) (h : seat_Turn fu l session seq pos = some (z0, z1)) : Meets Try.prog ⟨28, [sS 3 TSeat.en l, iv session, iv seq, iv pos], []⟩ ⟨.tup [sS 3 TSeat.en z0, bv z1], []⟩ := by
 refine kMt hmix seat_Turn.O Try.f28 bd28 15 ?_
 unfold seat_Turn at h
 refine kRs 15 [] [] .n ?_
 refine kRs 15 [Tm 10 (.fn (.func 34) [sS 3 TSeat.en l] [])] [] .n ?_
 obtain ⟨⟨r3_1, r3_2⟩, h3_3, h⟩ := bd_inv h
 refine kRs 30 [Tm 11 (iv r3_1), Tm 12 (bv r3_2)] [.a ⟨.tup [iv r3_1, bv r3_2], []⟩] (.c (aoM (seat_seats_find.meets fu l session _ _ h3_3)) .n) ?_
 obtain ⟨r4_1, h4_2, h⟩ := bd_inv h
 refine kRs 63 [Tm 13 (sO 3 TSeat.en r4_1)] [.a ⟨sO 3 TSeat.en r4_1, []⟩] (.c (aoM (slices_Clone_api_Seat.meets l _ h4_2)) .n) ?_
 refine kSq ?_
 refine kBk 0 ?_
 rcases br_inv h with ⟨b5_1, h⟩ | ⟨b5_1, h⟩
 ·obtain ⟨x5_2, a5_3, e5_4, h⟩ := ix_inv h
  refine kRs 119 [Tm 24 (bv (decide (x5_2.Seq ≥ seq)))] (.b true :: (.b true :: (.b true :: (.c (TSeat.en x5_2) :: (rp 5 (.b true) []))))) (.r 3 b5_1 (.c (c_ix (e := TSeat.en) a5_3 e5_4) (.c (c_el (e := TSeat.en) e5_4) (.r 5 b5_1 .n)))) ?_
  rcases br_inv h with ⟨b6_0, h⟩ | ⟨b6_0, h⟩
  ·refine kCt b6_0 ?_
   refine kRs 0 [Tm 8 (sO 3 TSeat.en r4_1), Tm 9 (bv false)] [] .n ?_
   refine kRt ?_
   have h_0 := some_inj h
   obtain ⟨g_1, h_1⟩ := Prod.mk.inj h_0
   subst g_1
   subst h_1
   exact kFr
  ·refine kCe b6_0 ?_
   refine kRs 118 [Tm 36 (bv r3_2)] [] .n ?_
   rcases br_inv h with ⟨b9_0, h⟩ | ⟨b9_0, h⟩
   ·refine kCt b9_0 ?_
    obtain ⟨x10_1, a10_2, e10_3, h⟩ := ix_inv h
    obtain ⟨x10_4, a10_5, e10_6, h⟩ := ix_inv h
    refine kRs 0 [Tm 13 (sO 3 TSeat.en ((r4_1.set r3_1.toNat (TSeat.mk x10_1.Session seq x10_1.Pos)).set r3_1.toNat (TSeat.mk x10_4.Session x10_4.Seq pos)))] [.c (TSeat.en x10_1), .s (.t 13) [sO 3 TSeat.en (r4_1.set r3_1.toNat (TSeat.mk x10_1.Session seq x10_1.Pos))], .c (TSeat.en x10_4), .s (.t 13) [sO 3 TSeat.en ((r4_1.set r3_1.toNat (TSeat.mk x10_1.Session seq x10_1.Pos)).set r3_1.toNat (TSeat.mk x10_4.Session x10_4.Seq pos))]] (.c (c_ix (e := TSeat.en) a10_2 e10_3) (.c (c_el (e := TSeat.en) e10_3) (.c (congrArg (fun d : DV => [AV.data d]) (c_set (e := TSeat.en) (s := 3) (nl := none) (l := r4_1) (i := r3_1.toNat) (x := (TSeat.mk x10_1.Session seq x10_1.Pos)))) (.c (c_ix (e := TSeat.en) a10_5 e10_6) (.c (c_el (e := TSeat.en) e10_6) (.c (congrArg (fun d : DV => [AV.data d]) (c_set (e := TSeat.en) (s := 3) (nl := none) (l := (r4_1.set r3_1.toNat (TSeat.mk x10_1.Session seq x10_1.Pos))) (i := r3_1.toNat) (x := (TSeat.mk x10_4.Session x10_4.Seq pos)))) .n)))))) ?_
    refine kRs 0 [Tm 8 (sO 3 TSeat.en ((r4_1.set r3_1.toNat (TSeat.mk x10_1.Session seq x10_1.Pos)).set r3_1.toNat (TSeat.mk x10_4.Session x10_4.Seq pos))), Tm 9 (bv true)] [] .n ?_
    refine kRt ?_
    have h_0 := some_inj h
    obtain ⟨g_1, h_1⟩ := Prod.mk.inj h_0
    subst g_1
    subst h_1
    exact kFr
   ·refine kCe b9_0 ?_
    refine kSk ?_
    refine kCd (cR (cR (cR (cR (cR bd28))))) [] ?_
    obtain ⟨r12_1, h12_2, h⟩ := bd_inv h
    refine kRs 0 [Tm 8 (sO 3 TSeat.en r12_1), Tm 9 (bv true)] [.a ⟨sO 3 TSeat.en r12_1, []⟩] (.c (Asks.fg (args1 := [sO 3 TSeat.en r4_1, iv r3_1]) (args2 := []) (nl := some false) (sz := 3) (es := List.map TSeat.en ([(TSeat.mk session seq pos)] : List TSeat)) (aoM (slices_Insert_api_Seat.meets r4_1 r3_1 ([(TSeat.mk session seq pos)] : List TSeat) _ h12_2))) .n) ?_
    refine kRt ?_
    have h_0 := some_inj h
    obtain ⟨g_1, h_1⟩ := Prod.mk.inj h_0
    subst g_1
    subst h_1
    exact kFr
 ·refine kRs 119 [Tm 24 (bv false)] (rp 8 (.b false) []) (.r 8 b5_1 .n) ?_
  refine kCe rF ?_
  refine kRs 118 [Tm 36 (bv r3_2)] [] .n ?_
  rcases br_inv h with ⟨b14_0, h⟩ | ⟨b14_0, h⟩
  ·refine kCt b14_0 ?_
   obtain ⟨x15_1, a15_2, e15_3, h⟩ := ix_inv h
   obtain ⟨x15_4, a15_5, e15_6, h⟩ := ix_inv h
   refine kRs 0 [Tm 13 (sO 3 TSeat.en ((r4_1.set r3_1.toNat (TSeat.mk x15_1.Session seq x15_1.Pos)).set r3_1.toNat (TSeat.mk x15_4.Session x15_4.Seq pos)))] [.c (TSeat.en x15_1), .s (.t 13) [sO 3 TSeat.en (r4_1.set r3_1.toNat (TSeat.mk x15_1.Session seq x15_1.Pos))], .c (TSeat.en x15_4), .s (.t 13) [sO 3 TSeat.en ((r4_1.set r3_1.toNat (TSeat.mk x15_1.Session seq x15_1.Pos)).set r3_1.toNat (TSeat.mk x15_4.Session x15_4.Seq pos))]] (.c (c_ix (e := TSeat.en) a15_2 e15_3) (.c (c_el (e := TSeat.en) e15_3) (.c (congrArg (fun d : DV => [AV.data d]) (c_set (e := TSeat.en) (s := 3) (nl := none) (l := r4_1) (i := r3_1.toNat) (x := (TSeat.mk x15_1.Session seq x15_1.Pos)))) (.c (c_ix (e := TSeat.en) a15_5 e15_6) (.c (c_el (e := TSeat.en) e15_6) (.c (congrArg (fun d : DV => [AV.data d]) (c_set (e := TSeat.en) (s := 3) (nl := none) (l := (r4_1.set r3_1.toNat (TSeat.mk x15_1.Session seq x15_1.Pos))) (i := r3_1.toNat) (x := (TSeat.mk x15_4.Session x15_4.Seq pos)))) .n)))))) ?_
   refine kRs 0 [Tm 8 (sO 3 TSeat.en ((r4_1.set r3_1.toNat (TSeat.mk x15_1.Session seq x15_1.Pos)).set r3_1.toNat (TSeat.mk x15_4.Session x15_4.Seq pos))), Tm 9 (bv true)] [] .n ?_
   refine kRt ?_
   have h_0 := some_inj h
   obtain ⟨g_1, h_1⟩ := Prod.mk.inj h_0
   subst g_1
   subst h_1
   exact kFr
  ·refine kCe b14_0 ?_
   refine kSk ?_
   refine kCd (cR (cR (cR (cR (cR bd28))))) [] ?_
   obtain ⟨r17_1, h17_2, h⟩ := bd_inv h
   refine kRs 0 [Tm 8 (sO 3 TSeat.en r17_1), Tm 9 (bv true)] [.a ⟨sO 3 TSeat.en r17_1, []⟩] (.c (Asks.fg (args1 := [sO 3 TSeat.en r4_1, iv r3_1]) (args2 := []) (nl := some false) (sz := 3) (es := List.map TSeat.en ([(TSeat.mk session seq pos)] : List TSeat)) (aoM (slices_Insert_api_Seat.meets r4_1 r3_1 ([(TSeat.mk session seq pos)] : List TSeat) _ h17_2))) .n) ?_
   refine kRt ?_
   have h_0 := some_inj h
   obtain ⟨g_1, h_1⟩ := Prod.mk.inj h_0
   subst g_1
   subst h_1
   exact kFr
def bd55 : Code := (Try.f55.body).getD .skip
def store_keeper_find_1.O : Nat → Nat := fun t => bif ([2, 4, 5, 10] : List Nat).any (Nat.beq t) then 1 else 0
def store_keeper_find_1 (c : TChain) (k_v : ByteArray) : Option Int :=
 br (Op.bytesLess c.Key.toList k_v.toList)
  (some (-1))
  (br (!((Op.bytesLess c.Key.toList k_v.toList) || (c.Key.toList == k_v.toList)))
   (some 1)
   (some 0))
theorem store_keeper_find_1.meets (c : TChain) (k_v : ByteArray) (z0 : Int) (h : store_keeper_find_1 c k_v = some z0) : Meets Try.prog ⟨55, [.data (.agg [.val (.string c.Key), .slc false none 3 (List.map TVersion.en c.L)]), sv k_v], []⟩ ⟨iv z0, []⟩ := by
 refine kMt hmix store_keeper_find_1.O Try.f55 bd55 3 ?_
 unfold store_keeper_find_1 at h
 refine kRs 2 [Tm 2 (.ptr 2 0), Ob 2 [sv c.Key, sS 3 TVersion.en c.L]] [] .n ?_
 refine kSq ?_
 refine kBk 0 ?_
 refine kRs 7 [Tm 5 (bv (Op.bytesLess c.Key.toList k_v.toList))] [] .n ?_
 rcases br_inv h with ⟨b3_0, h⟩ | ⟨b3_0, h⟩
 ·refine kCt b3_0 ?_
  refine kRs 0 [Tm 4 (iv (-1))] [] .n ?_
  refine kRt ?_
  have h_ := some_inj h
  subst h_
  exact kFr
 ·refine kCe b3_0 ?_
  refine kRs 0 [Tm 10 (bv (!((Op.bytesLess c.Key.toList k_v.toList) || (c.Key.toList == k_v.toList))))] [] .n ?_
  rcases br_inv h with ⟨b6_0, h⟩ | ⟨b6_0, h⟩
  ·refine kCt b6_0 ?_
   refine kRs 0 [Tm 4 (iv 1)] [] .n ?_
   refine kRt ?_
   have h_ := some_inj h
   subst h_
   exact kFr
  ·refine kCe b6_0 ?_
   refine kSk ?_
   refine kCd (cR (cR bd55)) [] ?_
   refine kRs 0 [Tm 4 (iv 0)] [] .n ?_
   refine kRt ?_
   have h_ := some_inj h
   subst h_
   exact kFr
def bd54 : Code := (Try.f54.body).getD .skip
def slices_BinarySearchFunc_api_Chain_string.O : Nat → Nat := fun t => bif ([6, 7, 8, 9, 10, 11] : List Nat).any (Nat.beq t) then 1 else 0
def slices_BinarySearchFunc_api_Chain_string.lp4 (fu : Nat) (l4_0 : List TChain) (l4_1 : ByteArray) (l4_2 : Int) : Nat → Int → Int → Option Int
  | 0, _, _ => none
  | n_ + 1, l4_3, l4_4 =>
  br (decide (l4_3 < l4_4))
   (ix l4_0 (w64 (vshr .u64 (IntKind.u64.wrap (w64 (l4_3 + l4_4))) 1)) fun x8_1 =>
   bd (store_keeper_find_1 x8_1 l4_1) fun r8_4 =>
   br (decide (r8_4 < 0))
    (slices_BinarySearchFunc_api_Chain_string.lp4 fu l4_0 l4_1 l4_2 n_ (w64 ((w64 (vshr .u64 (IntKind.u64.wrap (w64 (l4_3 + l4_4))) 1)) + 1)) l4_4)
    (slices_BinarySearchFunc_api_Chain_string.lp4 fu l4_0 l4_1 l4_2 n_ l4_3 (w64 (vshr .u64 (IntKind.u64.wrap (w64 (l4_3 + l4_4))) 1))))
   (some l4_3)
def slices_BinarySearchFunc_api_Chain_string.lp4_post (l4_0 : List TChain) (l4_1 : ByteArray) (l4_2 : Int) (r_ : Int) : Wy → St → Prop := fun e τ => match r_ with
  | y0 => e = .exit 0 ∧ τ = ofL [Tm 0 (sS 2 TChain.en l4_0), Tm 1 (sv l4_1), Tm 2 (.fn (.func 55) [] []), Tm 8 (iv l4_2), Tm 9 (iv y0)]
theorem slices_BinarySearchFunc_api_Chain_string.lp4_ok (fu : Nat) (l4_0 : List TChain) (l4_1 : ByteArray) (l4_2 : Int) : ∀ (n_ : Nat) (l4_3 : Int) (l4_4 : Int) (r_ : Int), slices_BinarySearchFunc_api_Chain_string.lp4 fu l4_0 l4_1 l4_2 n_ l4_3 l4_4 = some r_ → WK Try.prog slices_BinarySearchFunc_api_Chain_string.O (Ck Try.prog) (cB (cL (cR (cR (cR bd54))))) [] (ofL [Tm 0 (sS 2 TChain.en l4_0), Tm 1 (sv l4_1), Tm 2 (.fn (.func 55) [] []), Tm 8 (iv l4_2), Tm 9 (iv l4_3), Tm 10 (iv l4_4)]) (slices_BinarySearchFunc_api_Chain_string.lp4_post l4_0 l4_1 l4_2 r_) := by
 intro n_
 induction n_ with
 | zero => intro l4_3 l4_4 r_ h; exact no_none h
 | succ n_ ih =>
  intro l4_3 l4_4 r_ h
  refine kLp ?_
  refine kSq ?_
  refine kRs 63 [Tm 17 (bv (decide (l4_3 < l4_4)))] [] .n ?_
  rcases br_inv h with ⟨b6_0, h⟩ | ⟨b6_0, h⟩
  ·refine kCt b6_0 ?_
   refine kSk ?_
   refine kCd (cR (cB (cB (cL (cR (cR (cR bd54))))))) [.lp (cB (cL (cR (cR (cR bd54)))))] ?_
   refine kBk 1 ?_
   refine kRs 126 [Tm 11 (iv (w64 (vshr .u64 (IntKind.u64.wrap (w64 (l4_3 + l4_4))) 1)))] [] (.c rT .n) ?_
   obtain ⟨x8_1, a8_2, e8_3, h⟩ := ix_inv h
   obtain ⟨r8_4, h8_5, h⟩ := bd_inv h
   refine kRs 127 [Tm 31 (bv (decide (r8_4 < 0)))] [.c (TChain.en x8_1), .a ⟨iv r8_4, []⟩] (.c (c_ix (e := TChain.en) a8_2 e8_3) (.c (c_el (e := TChain.en) e8_3) (.c (aoM (store_keeper_find_1.meets x8_1 l4_1 _ h8_5)) .n))) ?_
   rcases br_inv h with ⟨b9_0, h⟩ | ⟨b9_0, h⟩
   ·refine kCt b9_0 ?_
    refine kRc 188 [Tm 9 (iv (w64 ((w64 (vshr .u64 (IntKind.u64.wrap (w64 (l4_3 + l4_4))) 1)) + 1)))] [] .n (cB (cL (cR (cR (cR bd54))))) [] ?_
    exact kWk (ih (w64 ((w64 (vshr .u64 (IntKind.u64.wrap (w64 (l4_3 + l4_4))) 1)) + 1)) l4_4 _ h)
   ·refine kCe b9_0 ?_
    refine kRc 124 [Tm 10 (iv (w64 (vshr .u64 (IntKind.u64.wrap (w64 (l4_3 + l4_4))) 1)))] [] .n (cB (cL (cR (cR (cR bd54))))) [] ?_
    exact kWk (ih l4_3 (w64 (vshr .u64 (IntKind.u64.wrap (w64 (l4_3 + l4_4))) 1)) _ h)
  ·refine kCe b6_0 ?_
   cases some_inj h
   refine kWo ?_
   refine kXt 0 ?_
   exact kOut
def slices_BinarySearchFunc_api_Chain_string (fu : Nat) (x_v : List TChain) (target : ByteArray) : Option (Int × Bool) :=
 bd (slices_BinarySearchFunc_api_Chain_string.lp4 fu x_v target (x_v.length : Int) fu 0 (x_v.length : Int)) fun y12_0 =>
 br (decide (y12_0 < (x_v.length : Int)))
  (ix x_v y12_0 fun x13_2 =>
  bd (store_keeper_find_1 x13_2 target) fun r13_5 =>
  some (y12_0, (r13_5 == 0)))
  (some (y12_0, false))
theorem slices_BinarySearchFunc_api_Chain_string.meets (fu : Nat) (x_v : List TChain) (target : ByteArray) (z0 : Int) (z1 : Bool) (h : slices_BinarySearchFunc_api_Chain_string fu x_v target = some (z0, z1)) : Meets Try.prog ⟨54, [sS 2 TChain.en x_v, sv target, .fn (.func 55) [] []], []⟩ ⟨.tup [iv z0, bv z1], []⟩ := by
 refine kMt hmix slices_BinarySearchFunc_api_Chain_string.O Try.f54 bd54 7 ?_
 unfold slices_BinarySearchFunc_api_Chain_string at h
 refine kRs 7 [] [] .n ?_
 refine kRs 7 [Tm 8 (iv (x_v.length : Int))] [.s (.t 13) [iv (x_v.length : Int)]] (.c (c_len (e := TChain.en) (l := x_v)) .n) ?_
 refine kRs 15 [Tm 9 (iv 0), Tm 10 (iv (x_v.length : Int))] [] .n ?_
 refine kSq ?_
 refine kBk 0 ?_
 obtain ⟨o12, ho12, h⟩ := bd_inv h
 refine kUs (slices_BinarySearchFunc_api_Chain_string.lp4_ok fu x_v target (x_v.length : Int) _ 0 (x_v.length : Int) _ ho12) ?_
 intro e_ τ_ hp_
 obtain ⟨y12_0, rfl⟩ : ∃ y, y = o12 := ⟨_, rfl⟩
 obtain ⟨rfl, rfl⟩ := hp_
 refine kCd (cR (cR (cR (cR bd54)))) [] ?_
 rcases br_inv h with ⟨b13_1, h⟩ | ⟨b13_1, h⟩
 ·obtain ⟨x13_2, a13_3, e13_4, h⟩ := ix_inv h
  obtain ⟨r13_5, h13_6, h⟩ := bd_inv h
  refine kRs 0 [Tm 6 (iv y12_0), Tm 7 (bv (r13_5 == 0))] (rp 4 (.b true) [.c (TChain.en x13_2), .b true, .b true, .b true, .a ⟨iv r13_5, []⟩, .b true, .b true]) (.r 4 b13_1 (.c (c_ix (e := TChain.en) a13_3 e13_4) (.c (c_el (e := TChain.en) e13_4) (.r 3 b13_1 (.c (aoM (store_keeper_find_1.meets x13_2 target _ h13_6)) (.r 2 b13_1 .n)))))) ?_
  refine kRt ?_
  have h_0 := some_inj h
  obtain ⟨g_1, h_1⟩ := Prod.mk.inj h_0
  subst g_1
  subst h_1
  exact kFr
 ·refine kRs 0 [Tm 6 (iv y12_0), Tm 7 (bv false)] (rp 9 (.b false) []) (.r 9 b13_1 .n) ?_
  refine kRt ?_
  have h_0 := some_inj h
  obtain ⟨g_1, h_1⟩ := Prod.mk.inj h_0
  subst g_1
  subst h_1
  exact kFr
def bd41 : Code := (Try.f41.body).getD .skip
def store_keeper_find.O : Nat → Nat := fun t => bif ([2, 4, 5] : List Nat).any (Nat.beq t) then 1 else 0
def store_keeper_find (fu : Nat) (s : TStore) (k_v : ByteArray) : Option (Int × Bool) :=
 bd (slices_BinarySearchFunc_api_Chain_string fu s.Chains k_v) fun (r2_1, r2_2) =>
 some (r2_1, r2_2)
theorem store_keeper_find.meets (fu : Nat) (s : TStore) (k_v : ByteArray) (z0 : Int) (z1 : Bool) (h : store_keeper_find fu s k_v = some (z0, z1)) : Meets Try.prog ⟨41, [.data (.agg [.slc false none 2 (List.map TChain.en s.Chains), .val (.int .i64 s.Mark)]), sv k_v], []⟩ ⟨.tup [iv z0, bv z1], []⟩ := by
 refine kMt hmix store_keeper_find.O Try.f41 bd41 3 ?_
 unfold store_keeper_find at h
 refine kRs 2 [Tm 2 (.ptr 2 0), Ob 2 [sS 2 TChain.en s.Chains, iv s.Mark]] [] .n ?_
 obtain ⟨⟨r2_1, r2_2⟩, h2_3, h⟩ := bd_inv h
 refine kRs 0 [Tm 4 (iv r2_1), Tm 5 (bv r2_2)] [.a ⟨.tup [iv r2_1, bv r2_2], []⟩] (.c (aoM (slices_BinarySearchFunc_api_Chain_string.meets fu s.Chains k_v _ _ h2_3)) .n) ?_
 refine kRt ?_
 have h_0 := some_inj h
 obtain ⟨g_1, h_1⟩ := Prod.mk.inj h_0
 subst g_1
 subst h_1
 exact kFr
def bd50 : Code := (Try.f50.body).getD .skip
def store_keeper_chain.O : Nat → Nat := fun t => bif ([2, 5, 6] : List Nat).any (Nat.beq t) then 1 else bif ([4] : List Nat).any (Nat.beq t) then 2 else 0
def store_keeper_chain (fu : Nat) (s : TStore) (k_v : ByteArray) : Option (List TVersion) :=
 bd (store_keeper_find fu s k_v) fun (r2_1, r2_2) =>
 br r2_2
  (ix s.Chains r2_1 fun x5_1 =>
  some x5_1.L)
  (some [])
theorem store_keeper_chain.meets (fu : Nat) (s : TStore) (k_v : ByteArray) (z0 : List TVersion) (h : store_keeper_chain fu s k_v = some z0) : Meets Try.prog ⟨50, [.data (.agg [.slc false none 2 (List.map TChain.en s.Chains), .val (.int .i64 s.Mark)]), sv k_v], []⟩ ⟨sS 3 TVersion.en z0, []⟩ := by
 refine kMt hmix store_keeper_chain.O Try.f50 bd50 3 ?_
 unfold store_keeper_chain at h
 refine kRs 2 [Tm 2 (.ptr 2 0), Ob 2 [sS 2 TChain.en s.Chains, iv s.Mark]] [] .n ?_
 refine kSq ?_
 obtain ⟨⟨r2_1, r2_2⟩, h2_3, h⟩ := bd_inv h
 refine kRs 3 [Tm 5 (iv r2_1), Tm 6 (bv r2_2)] [.a ⟨.tup [iv r2_1, bv r2_2], []⟩] (.c (aoM (store_keeper_find.meets fu s k_v _ _ h2_3)) .n) ?_
 refine kRs 13 [Tm 13 (bv r2_2)] [] .n ?_
 rcases br_inv h with ⟨b4_0, h⟩ | ⟨b4_0, h⟩
 ·refine kCt b4_0 ?_
  obtain ⟨x5_1, a5_2, e5_3, h⟩ := ix_inv h
  refine kRs 0 [Tm 4 (sS 3 TVersion.en x5_1.L)] [.c (TChain.en x5_1)] (.c (c_ix (e := TChain.en) a5_2 e5_3) (.c (c_el (e := TChain.en) e5_3) .n)) ?_
  refine kRt ?_
  have h_ := some_inj h
  subst h_
  exact kFr
 ·refine kCe b4_0 ?_
  refine kSk ?_
  refine kCd (cR (cR bd50)) [] ?_
  refine kRs 0 [Tm 4 (.data (.slc false (some true) 3 (List.map TVersion.en [])))] [] .n ?_
  refine kWd 0 [Tm 4 (.data (.slc false none 3 (List.map TVersion.en [])))] ?_
  refine kRt ?_
  have h_ := some_inj h
  subst h_
  exact kFr
def bd60 : Code := (Try.f60.body).getD .skip
def chain_versions_last.O : Nat → Nat := fun t => bif ([2] : List Nat).any (Nat.beq t) then 1 else 0
def chain_versions_last (l : List TVersion) : Option Int :=
 br ((l.length : Int) == 0)
  (some 0)
  (ix l (w64 ((l.length : Int) - 1)) fun x5_1 =>
  some x5_1.Pos)
theorem chain_versions_last.meets (l : List TVersion) (z0 : Int) (h : chain_versions_last l = some z0) : Meets Try.prog ⟨60, [sS 3 TVersion.en l], []⟩ ⟨iv z0, []⟩ := by
 refine kMt hmix chain_versions_last.O Try.f60 bd60 1 ?_
 unfold chain_versions_last at h
 refine kRs 1 [] [] .n ?_
 refine kSq ?_
 refine kRs 1 [Tm 5 (bv ((l.length : Int) == 0))] [.s (.t 4) [iv (l.length : Int)]] (.c (c_len (e := TVersion.en) (l := l)) .n) ?_
 rcases br_inv h with ⟨b3_0, h⟩ | ⟨b3_0, h⟩
 ·refine kCt b3_0 ?_
  refine kRs 0 [Tm 2 (iv 0)] [] .n ?_
  refine kRt ?_
  have h_ := some_inj h
  subst h_
  exact kFr
 ·refine kCe b3_0 ?_
  refine kSk ?_
  refine kCd (cR (cR bd60)) [] ?_
  obtain ⟨x5_1, a5_2, e5_3, h⟩ := ix_inv h
  refine kRs 0 [Tm 2 (iv x5_1.Pos)] [.s (.t 8) [iv (l.length : Int)], .c (TVersion.en x5_1)] (.c (c_len (e := TVersion.en) (l := l)) (.c (c_ix (e := TVersion.en) a5_2 e5_3) (.c (c_el (e := TVersion.en) e5_3) .n))) ?_
  refine kRt ?_
  have h_ := some_inj h
  subst h_
  exact kFr
def bd51 : Code := (Try.f51.body).getD .skip
def chain_Last.O : Nat → Nat := fun t => bif ([2, 3] : List Nat).any (Nat.beq t) then 1 else 0
def chain_Last (l : List TVersion) : Option Int :=
 bd (chain_versions_last l) fun r3_1 =>
 some r3_1
theorem chain_Last.meets (l : List TVersion) (z0 : Int) (h : chain_Last l = some z0) : Meets Try.prog ⟨51, [sS 3 TVersion.en l], []⟩ ⟨iv z0, []⟩ := by
 refine kMt hmix chain_Last.O Try.f51 bd51 1 ?_
 unfold chain_Last at h
 refine kRs 1 [] [] .n ?_
 refine kRs 0 [Tm 3 (.fn (.func 60) [sS 3 TVersion.en l] [])] [] .n ?_
 obtain ⟨r3_1, h3_2, h⟩ := bd_inv h
 refine kRs 0 [Tm 2 (iv r3_1)] [.a ⟨iv r3_1, []⟩] (.c (aoM (chain_versions_last.meets l _ h3_2)) .n) ?_
 refine kRt ?_
 have h_ := some_inj h
 subst h_
 exact kFr
def bd39 : Code := (Try.f39.body).getD .skip
def store_Last.O : Nat → Nat := fun t => bif ([2, 4, 5] : List Nat).any (Nat.beq t) then 1 else 0
def store_Last (fu : Nat) (s : TStore) (k_v : ByteArray) : Option Int :=
 bd (store_keeper_chain fu s k_v) fun r3_1 =>
 bd (chain_Last r3_1) fun r3_3 =>
 some r3_3
theorem store_Last.meets (fu : Nat) (s : TStore) (k_v : ByteArray) (z0 : Int) (h : store_Last fu s k_v = some z0) : Meets Try.prog ⟨39, [.data (.agg [.slc false none 2 (List.map TChain.en s.Chains), .val (.int .i64 s.Mark)]), sv k_v], []⟩ ⟨iv z0, []⟩ := by
 refine kMt hmix store_Last.O Try.f39 bd39 3 ?_
 unfold store_Last at h
 refine kRs 2 [Tm 2 (.ptr 2 0), Ob 2 [sS 2 TChain.en s.Chains, iv s.Mark]] [] .n ?_
 refine kRs 7 [Tm 5 (.fn (.func 50) [] [])] [] .n ?_
 obtain ⟨r3_1, h3_2, h⟩ := bd_inv h
 obtain ⟨r3_3, h3_4, h⟩ := bd_inv h
 refine kRs 0 [Tm 4 (iv r3_3)] [.a ⟨sS 3 TVersion.en r3_1, []⟩, .a ⟨iv r3_3, []⟩] (.c (aoM (store_keeper_chain.meets fu s k_v _ h3_2)) (.c (aoM (chain_Last.meets r3_1 _ h3_4)) .n)) ?_
 refine kRt ?_
 have h_ := some_inj h
 subst h_
 exact kFr
def bd38 : Code := (Try.f38.body).getD .skip
def judge_bench_holds_1.O : Nat → Nat := fun t => bif ([2, 3] : List Nat).any (Nat.beq t) then 1 else 0
def judge_bench_holds_1 (fu : Nat) (r_v : TRead) (o1_v : TBench) : Option Bool :=
 bd (store_Last fu o1_v.store r_v.Key) fun r2_1 =>
 some (r_v.Version != r2_1)
theorem judge_bench_holds_1.meets (fu : Nat) (r_v : TRead) (o1_v : TBench) (z0 : Bool) (h : judge_bench_holds_1 fu r_v o1_v = some z0) : Meets Try.prog ⟨38, [.data (TRead.ag r_v), .ptr 1000 0], [[.ptr 1001 0], (TBench.ob_11 o1_v)]⟩ ⟨bv z0, [[.ptr 1001 0], (TBench.ob_11 o1_v)]⟩ := by
 refine kMt hmix judge_bench_holds_1.O Try.f38 bd38 15 ?_
 unfold judge_bench_holds_1 at h
 refine kRs 14 [Tm 2 (.ptr 2 0), Ob 2 (TRead.ob r_v)] [] .n ?_
 obtain ⟨r2_1, h2_2, h⟩ := bd_inv h
 refine kRs 24 [Tm 3 (bv (r_v.Version != r2_1))] [.a ⟨iv r2_1, []⟩] (.c (aoM (store_Last.meets fu o1_v.store r_v.Key _ h2_2)) (.c rT .n)) ?_
 refine kRt ?_
 have h_ := some_inj h
 subst h_
 exact kFr
def bd49 : Code := (Try.f49.body).getD .skip
def slices_IndexFunc_api_Read.O : Nat → Nat := fun t => bif ([4, 5] : List Nat).any (Nat.beq t) then 1 else 0
def slices_IndexFunc_api_Read.lp3 (fu : Nat) (l3_0 : List TRead) (l3_1 : Int) (l3_3 : TBench) : Nat → Int → Option (Unit ⊕ Int)
  | 0, _ => none
  | n_ + 1, l3_2 =>
  br (decide (l3_2 < l3_1))
   (ix l3_0 l3_2 fun x7_1 =>
   bd (judge_bench_holds_1 fu x7_1 l3_3) fun r7_4 =>
   br r7_4
    (some (.inr l3_2))
    (slices_IndexFunc_api_Read.lp3 fu l3_0 l3_1 l3_3 n_ (w64 (l3_2 + 1))))
   (some (.inl ()))
def slices_IndexFunc_api_Read.lp3_post (l3_0 : List TRead) (l3_1 : Int) (l3_3 : TBench) (r_ : (Unit ⊕ Int)) : Wy → St → Prop := fun e τ => match r_ with
  | .inl _ => e = .exit 0 ∧ τ = ofL [Ob 1000 [.ptr 1001 0], Ob 1001 (TBench.ob_11 l3_3)]
  | .inr y0 => e = .ret ∧ τ = ofL [Tm 4 (iv y0), Ob 1000 [.ptr 1001 0], Ob 1001 (TBench.ob_11 l3_3)]
theorem slices_IndexFunc_api_Read.lp3_ok (fu : Nat) (l3_0 : List TRead) (l3_1 : Int) (l3_3 : TBench) : ∀ (n_ : Nat) (l3_2 : Int) (r_ : (Unit ⊕ Int)), slices_IndexFunc_api_Read.lp3 fu l3_0 l3_1 l3_3 n_ l3_2 = some r_ → WK Try.prog slices_IndexFunc_api_Read.O (Ck Try.prog) (cB (cR (cL (cR bd49)))) [] (ofL [Tm 0 (sS 4 TRead.en l3_0), Tm 1 (.fn (.func 38) [] [.ptr 1000 0]), Tm 7 (iv l3_1), Tm 8 (iv l3_2), Ob 1000 [.ptr 1001 0], Ob 1001 (TBench.ob_11 l3_3)]) (slices_IndexFunc_api_Read.lp3_post l3_0 l3_1 l3_3 r_) := by
 intro n_
 induction n_ with
 | zero => intro l3_2 r_ h; exact no_none h
 | succ n_ ih =>
  intro l3_2 r_ h
  refine kLp ?_
  refine kRs 63 [Tm 9 (bv (decide (l3_2 < l3_1)))] [] .n ?_
  refine kSq ?_
  rcases br_inv h with ⟨b5_0, h⟩ | ⟨b5_0, h⟩
  ·refine kCt b5_0 ?_
   refine kSk ?_
   refine kCd (cR (cR (cB (cB (cR (cL (cR bd49))))))) [.lp (cB (cR (cL (cR bd49))))] ?_
   refine kSq ?_
   refine kBk 1 ?_
   refine kRs 126 [Tm 5 (iv l3_2)] [] .n ?_
   obtain ⟨x7_1, a7_2, e7_3, h⟩ := ix_inv h
   obtain ⟨r7_4, h7_5, h⟩ := bd_inv h
   refine kRs 127 [Tm 16 (bv r7_4)] [.c (TRead.en x7_1), .a ⟨bv r7_4, [[.ptr 1001 0], (TBench.ob_11 l3_3)]⟩] (.c (c_ix (e := TRead.en) a7_2 e7_3) (.c (c_el (e := TRead.en) e7_3) (.c (aoM (judge_bench_holds_1.meets fu x7_1 l3_3 _ h7_5)) .n))) ?_
   rcases br_inv h with ⟨b8_0, h⟩ | ⟨b8_0, h⟩
   ·refine kCt b8_0 ?_
    refine kRs 192 [Tm 4 (iv l3_2)] [] .n ?_
    cases some_inj h
    refine kWo ?_
    refine kRt ?_
    exact kOut
   ·refine kCe b8_0 ?_
    refine kSk ?_
    refine kCd (cR (cR (cR (cB (cB (cR (cL (cR bd49)))))))) [.lp (cB (cR (cL (cR bd49))))] ?_
    refine kRc 220 [Tm 8 (iv (w64 (l3_2 + 1)))] [] .n (cB (cR (cL (cR bd49)))) [] ?_
    exact kWk (ih (w64 (l3_2 + 1)) _ h)
  ·refine kCe b5_0 ?_
   cases some_inj h
   refine kWo ?_
   refine kXt 0 ?_
   exact kOut
def slices_IndexFunc_api_Read (fu : Nat) (s : List TRead) (o1_v : TBench) : Option Int :=
 bd (slices_IndexFunc_api_Read.lp3 fu s (s.length : Int) o1_v fu 0) fun o_ => (match o_ with
 | .inl _ =>
  some (-1)
 | .inr y11_0 =>
  some y11_0)
theorem slices_IndexFunc_api_Read.meets (fu : Nat) (s : List TRead) (o1_v : TBench) (z0 : Int) (h : slices_IndexFunc_api_Read fu s o1_v = some z0) : Meets Try.prog ⟨49, [sS 4 TRead.en s, .fn (.func 38) [] [.ptr 1000 0]], [[.ptr 1001 0], (TBench.ob_11 o1_v)]⟩ ⟨iv z0, [[.ptr 1001 0], (TBench.ob_11 o1_v)]⟩ := by
 refine kMt hmix slices_IndexFunc_api_Read.O Try.f49 bd49 15 ?_
 unfold slices_IndexFunc_api_Read at h
 refine kRs 15 [] [] .n ?_
 refine kSq ?_
 refine kRs 15 [Tm 7 (iv (s.length : Int)), Tm 8 (iv 0)] [.s (.t 7) [iv (s.length : Int)]] (.c (c_len (e := TRead.en) (l := s)) .n) ?_
 refine kBk 0 ?_
 obtain ⟨o11, ho11, h⟩ := bd_inv h
 refine kUs (slices_IndexFunc_api_Read.lp3_ok fu s (s.length : Int) o1_v _ 0 _ ho11) ?_
 intro e_ τ_ hp_
 rcases o11 with o11 | o11
 ·obtain ⟨⟩ := o11
  obtain ⟨rfl, rfl⟩ := hp_
  refine kCd (cR (cR bd49)) [] ?_
  refine kRs 3 [Tm 4 (iv (-1))] [] .n ?_
  refine kRt ?_
  have h_ := some_inj h
  subst h_
  exact kFr
 ·obtain ⟨y11_0, rfl⟩ : ∃ y, y = o11 := ⟨_, rfl⟩
  obtain ⟨rfl, rfl⟩ := hp_
  have h_ := some_inj h
  subst h_
  exact kFr
def bd37 : Code := (Try.f37.body).getD .skip
def slices_ContainsFunc_api_Read.O : Nat → Nat := fun t => bif ([4] : List Nat).any (Nat.beq t) then 1 else 0
def slices_ContainsFunc_api_Read (fu : Nat) (s : List TRead) (o1_v : TBench) : Option Bool :=
 bd (slices_IndexFunc_api_Read fu s o1_v) fun r2_1 =>
 some (decide (r2_1 ≥ 0))
theorem slices_ContainsFunc_api_Read.meets (fu : Nat) (s : List TRead) (o1_v : TBench) (z0 : Bool) (h : slices_ContainsFunc_api_Read fu s o1_v = some z0) : Meets Try.prog ⟨37, [sS 4 TRead.en s, .fn (.func 38) [] [.ptr 1000 0]], [[.ptr 1001 0], (TBench.ob_11 o1_v)]⟩ ⟨bv z0, [[.ptr 1001 0], (TBench.ob_11 o1_v)]⟩ := by
 refine kMt hmix slices_ContainsFunc_api_Read.O Try.f37 bd37 15 ?_
 unfold slices_ContainsFunc_api_Read at h
 refine kRs 15 [] [] .n ?_
 obtain ⟨r2_1, h2_2, h⟩ := bd_inv h
 refine kRs 12 [Tm 4 (bv (decide (r2_1 ≥ 0)))] [.a ⟨iv r2_1, [[.ptr 1001 0], (TBench.ob_11 o1_v)]⟩] (.c (aoM (slices_IndexFunc_api_Read.meets fu s o1_v _ h2_2)) .n) ?_
 refine kRt ?_
 have h_ := some_inj h
 subst h_
 exact kFr
def bd29 : Code := (Try.f29.body).getD .skip
def judge_bench_holds.O : Nat → Nat := fun t => bif ([2, 3, 4] : List Nat).any (Nat.beq t) then 1 else 0
def judge_bench_holds (fu : Nat) (t : TTxn) (o0_v : TBench) : Option Bool :=
 bd (slices_ContainsFunc_api_Read fu t.Reads o0_v) fun r2_1 =>
 some (!r2_1)
theorem judge_bench_holds.meets (fu : Nat) (t : TTxn) (o0_v : TBench) (z0 : Bool) (h : judge_bench_holds fu t o0_v = some z0) : Meets Try.prog ⟨29, [.ptr 1000 0, .data (TTxn.ag t)], [(TBench.ob_11 o0_v)]⟩ ⟨bv z0, [(TBench.ob_11 o0_v)]⟩ := by
 refine kMt hmix judge_bench_holds.O Try.f29 bd29 7 ?_
 unfold judge_bench_holds at h
 refine kRs 4 [Tm 2 (.ptr 2 0), Tm 3 (.ptr 3 0), Ob 2 [.ptr 1000 0], Ob 3 (TTxn.ob t)] [] .n ?_
 obtain ⟨r2_1, h2_2, h⟩ := bd_inv h
 refine kRs 16 [Tm 4 (bv (!r2_1))] [.a ⟨bv r2_1, [[.ptr 1001 0], (TBench.ob_11 o0_v)]⟩] (.c (aoM (slices_ContainsFunc_api_Read.meets fu t.Reads o0_v _ h2_2)) .n) ?_
 refine kRt ?_
 have h_ := some_inj h
 subst h_
 exact kFr
def bd52 : Code := (Try.f52.body).getD .skip
def slices_Clone_api_Chain.O : Nat → Nat := fun t => bif ([2, 5] : List Nat).any (Nat.beq t) then 1 else 0
def slices_Clone_api_Chain (s : List TChain) : Option (List TChain) :=
 gd (decide (([] : List TChain).length + s.length ≤ 4294967296)) <|
 some s
theorem slices_Clone_api_Chain.meets1 (s : List TChain) (z0 : List TChain) (h : slices_Clone_api_Chain s = some z0) : Meets Try.prog ⟨52, [.data (.slc false (some false) 2 (List.map TChain.en s))], []⟩ ⟨sO 2 TChain.en z0, []⟩ := by
 refine kMt hmix slices_Clone_api_Chain.O Try.f52 bd52 1 ?_
 unfold slices_Clone_api_Chain at h
 refine kRs 1 [] [] .n ?_
 refine kSq ?_
 refine kRs 1 [Tm 4 (bv false)] [] .n ?_
 refine kCe rF ?_
 refine kSk ?_
 refine kCd (cR (cR bd52)) [] ?_
 obtain ⟨c5_1, h⟩ := gd_inv h
 refine kRs 0 [Tm 2 (sO 2 TChain.en s)] [] (.c (c_al (e := TChain.en) (f := TChain.en) c5_1) .n) ?_
 refine kRt ?_
 have h_ := some_inj h
 subst h_
 exact kFr
def slices_Clone_api_Chain_nil : Option (List TChain) :=
 some []
theorem slices_Clone_api_Chain.meets0 (z0 : List TChain) (h : slices_Clone_api_Chain_nil = some z0) : Meets Try.prog ⟨52, [.data (.slc false (some true) 2 (List.map TChain.en []))], []⟩ ⟨sO 2 TChain.en z0, []⟩ := by
 refine kMt hmix slices_Clone_api_Chain.O Try.f52 bd52 1 ?_
 unfold slices_Clone_api_Chain_nil at h
 refine kRs 1 [] [] .n ?_
 refine kSq ?_
 refine kRs 1 [Tm 4 (bv true)] [] .n ?_
 refine kCt rT ?_
 refine kRs 0 [Tm 2 (.data (.slc true (some true) 2 (List.map TChain.en [])))] [] .n ?_
 refine kWd 0 [Tm 2 (.data (.slc true none 2 (List.map TChain.en [])))] ?_
 refine kRt ?_
 have h_ := some_inj h
 subst h_
 exact kFr
theorem slices_Clone_api_Chain.nil_eq : slices_Clone_api_Chain [] = slices_Clone_api_Chain_nil := by kernel_rfl
theorem slices_Clone_api_Chain.meets (s : List TChain) (z0 : List TChain) (h : slices_Clone_api_Chain s = some z0) : Meets Try.prog ⟨52, [sS 2 TChain.en s], []⟩ ⟨sO 2 TChain.en z0, []⟩ := by
  refine (okay_m rfl).1 (asks_ok (C := Okay Try.prog) (fun _ _ h => h) (Asks.nil (args1 := []) (args2 := []) (sz := 2) (es := List.map TChain.en s) (fun e => aoM ?_) (aoM (slices_Clone_api_Chain.meets1 s z0 h))))
  obtain rfl : s = [] := List.map_eq_nil_iff.1 e
  exact slices_Clone_api_Chain.meets0 z0 (slices_Clone_api_Chain.nil_eq  ▸ h)
def bd53 : Code := (Try.f53.body).getD .skip
def slices_Clone_api_Version.O : Nat → Nat := fun t => bif ([2, 5] : List Nat).any (Nat.beq t) then 1 else 0
def slices_Clone_api_Version (s : List TVersion) : Option (List TVersion) :=
 gd (decide (([] : List TVersion).length + s.length ≤ 4294967296)) <|
 some s
theorem slices_Clone_api_Version.meets1 (s : List TVersion) (z0 : List TVersion) (h : slices_Clone_api_Version s = some z0) : Meets Try.prog ⟨53, [.data (.slc false (some false) 3 (List.map TVersion.en s))], []⟩ ⟨sO 3 TVersion.en z0, []⟩ := by
 refine kMt hmix slices_Clone_api_Version.O Try.f53 bd53 1 ?_
 unfold slices_Clone_api_Version at h
 refine kRs 1 [] [] .n ?_
 refine kSq ?_
 refine kRs 1 [Tm 4 (bv false)] [] .n ?_
 refine kCe rF ?_
 refine kSk ?_
 refine kCd (cR (cR bd53)) [] ?_
 obtain ⟨c5_1, h⟩ := gd_inv h
 refine kRs 0 [Tm 2 (sO 3 TVersion.en s)] [] (.c (c_al (e := TVersion.en) (f := TVersion.en) c5_1) .n) ?_
 refine kRt ?_
 have h_ := some_inj h
 subst h_
 exact kFr
def slices_Clone_api_Version_nil : Option (List TVersion) :=
 some []
theorem slices_Clone_api_Version.meets0 (z0 : List TVersion) (h : slices_Clone_api_Version_nil = some z0) : Meets Try.prog ⟨53, [.data (.slc false (some true) 3 (List.map TVersion.en []))], []⟩ ⟨sO 3 TVersion.en z0, []⟩ := by
 refine kMt hmix slices_Clone_api_Version.O Try.f53 bd53 1 ?_
 unfold slices_Clone_api_Version_nil at h
 refine kRs 1 [] [] .n ?_
 refine kSq ?_
 refine kRs 1 [Tm 4 (bv true)] [] .n ?_
 refine kCt rT ?_
 refine kRs 0 [Tm 2 (.data (.slc true (some true) 3 (List.map TVersion.en [])))] [] .n ?_
 refine kWd 0 [Tm 2 (.data (.slc true none 3 (List.map TVersion.en [])))] ?_
 refine kRt ?_
 have h_ := some_inj h
 subst h_
 exact kFr
theorem slices_Clone_api_Version.nil_eq : slices_Clone_api_Version [] = slices_Clone_api_Version_nil := by kernel_rfl
theorem slices_Clone_api_Version.meets (s : List TVersion) (z0 : List TVersion) (h : slices_Clone_api_Version s = some z0) : Meets Try.prog ⟨53, [sS 3 TVersion.en s], []⟩ ⟨sO 3 TVersion.en z0, []⟩ := by
  refine (okay_m rfl).1 (asks_ok (C := Okay Try.prog) (fun _ _ h => h) (Asks.nil (args1 := []) (args2 := []) (sz := 3) (es := List.map TVersion.en s) (fun e => aoM ?_) (aoM (slices_Clone_api_Version.meets1 s z0 h))))
  obtain rfl : s = [] := List.map_eq_nil_iff.1 e
  exact slices_Clone_api_Version.meets0 z0 (slices_Clone_api_Version.nil_eq  ▸ h)
def bd40 : Code := (Try.f40.body).getD .skip
def store_twin.O : Nat → Nat := fun t => bif ([1, 2, 3, 4, 7, 26] : List Nat).any (Nat.beq t) then 1 else bif ([22] : List Nat).any (Nat.beq t) then 2 else 0
def store_twin.lp4 (fu : Nat) (l4_0 : Int) (l4_3 : TStore) : Nat → Int → TStore → Option TStore
  | 0, _, _ => none
  | n_ + 1, l4_1, l4_2 =>
  br (decide (l4_1 < l4_0))
   (ix l4_2.Chains l4_1 fun x7_1 =>
   bd (slices_Clone_api_Version x7_1.L) fun r8_1 =>
   ix l4_2.Chains l4_1 fun x8_3 =>
   store_twin.lp4 fu l4_0 l4_3 n_ (w64 (l4_1 + 1)) (TStore.mk (l4_2.Chains.set l4_1.toNat (TChain.mk x8_3.Key r8_1)) l4_2.Mark))
   (some l4_2)
def store_twin.lp4_post (l4_0 : Int) (l4_3 : TStore) (r_ : TStore) : Wy → St → Prop := fun e τ => match r_ with
  | y0 => e = .exit 0 ∧ τ = ofL [Tm 1 (.ptr 1 0), Tm 2 (.ptr 2 0), Ob 1 [sO 2 TChain.en y0.Chains, iv y0.Mark], Ob 2 [sO 2 TChain.en l4_3.Chains, iv l4_3.Mark]]
theorem store_twin.lp4_ok (fu : Nat) (l4_0 : Int) (l4_3 : TStore) : ∀ (n_ : Nat) (l4_1 : Int) (l4_2 : TStore) (r_ : TStore), store_twin.lp4 fu l4_0 l4_3 n_ l4_1 l4_2 = some r_ → WK Try.prog store_twin.O (Ck Try.prog) (cB (cR (cL (cR (cR bd40))))) [] (ofL [Tm 1 (.ptr 1 0), Tm 2 (.ptr 2 0), Tm 10 (.ref (.o 1) 0 0 none), Tm 11 (iv l4_0), Tm 12 (iv l4_1), Ob 1 [sO 2 TChain.en l4_2.Chains, iv l4_2.Mark], Ob 2 [sO 2 TChain.en l4_3.Chains, iv l4_3.Mark]]) (store_twin.lp4_post l4_0 l4_3 r_) := by
 intro n_
 induction n_ with
 | zero => intro l4_1 l4_2 r_ h; exact no_none h
 | succ n_ ih =>
  intro l4_1 l4_2 r_ h
  refine kLp ?_
  refine kRs 127 [Tm 13 (bv (decide (l4_1 < l4_0)))] [] .n ?_
  refine kSq ?_
  rcases br_inv h with ⟨b6_0, h⟩ | ⟨b6_0, h⟩
  ·refine kCt b6_0 ?_
   refine kSk ?_
   refine kCd (cR (cR (cB (cB (cR (cL (cR (cR bd40)))))))) [.lp (cB (cR (cL (cR (cR bd40)))))] ?_
   refine kSq ?_
   refine kBk 1 ?_
   obtain ⟨x7_1, a7_2, e7_3, h⟩ := ix_inv h
   refine kRs 254 [Tm 3 (iv l4_1), Tm 4 (.ptr 4 0), Ob 4 [sv x7_1.Key, sS 3 TVersion.en x7_1.L]] [.c (TChain.en x7_1)] (.c (c_ix (e := TChain.en) a7_2 e7_3) (.c (c_el (e := TChain.en) e7_3) .n)) ?_
   obtain ⟨r8_1, h8_2, h⟩ := bd_inv h
   obtain ⟨x8_3, a8_4, e8_5, h⟩ := ix_inv h
   refine kRc 760 [Ob 1 [sO 2 TChain.en (l4_2.Chains.set l4_1.toNat (TChain.mk x8_3.Key r8_1)), iv l4_2.Mark]] [.a ⟨sO 3 TVersion.en r8_1, []⟩, .c (TChain.en x8_3), .s (.o 1) [sO 2 TChain.en (l4_2.Chains.set l4_1.toNat (TChain.mk x8_3.Key r8_1)), iv l4_2.Mark]] (.c (aoM (slices_Clone_api_Version.meets x7_1.L _ h8_2)) (.c (c_ix (e := TChain.en) a8_4 e8_5) (.c (c_el (e := TChain.en) e8_5) (.c (congrArg (fun d : DV => [AV.data d, iv l4_2.Mark]) (c_set (e := TChain.en) (s := 2) (nl := none) (l := l4_2.Chains) (i := l4_1.toNat) (x := (TChain.mk x8_3.Key r8_1)))) (.c rT .n))))) (cR (cR (cR (cB (cB (cR (cL (cR (cR bd40))))))))) [.lp (cB (cR (cL (cR (cR bd40)))))] ?_
   refine kRc 95 [Tm 12 (iv (w64 (l4_1 + 1)))] [] .n (cB (cR (cL (cR (cR bd40))))) [] ?_
   exact kWk (ih (w64 (l4_1 + 1)) (TStore.mk (l4_2.Chains.set l4_1.toNat (TChain.mk x8_3.Key r8_1)) l4_2.Mark) _ h)
  ·refine kCe b6_0 ?_
   cases some_inj h
   refine kWo ?_
   refine kXt 0 ?_
   exact kOut
def store_twin (fu : Nat) (s : TStore) : Option TStore :=
 bd (slices_Clone_api_Chain s.Chains) fun r2_1 =>
 bd (store_twin.lp4 fu (r2_1.length : Int) (TStore.mk [] 0) fu 0 (TStore.mk r2_1 s.Mark)) fun y10_0 =>
 some y10_0
theorem store_twin.meets (fu : Nat) (s : TStore) (z0 : TStore) (h : store_twin fu s = some z0) : Meets Try.prog ⟨40, [.data (.agg [.slc false none 2 (List.map TChain.en s.Chains), .val (.int .i64 s.Mark)])], []⟩ ⟨.data (.agg [.slc true none 2 (List.map TChain.en z0.Chains), .val (.int .i64 z0.Mark)]), []⟩ := by
 refine kMt hmix store_twin.O Try.f40 bd40 1 ?_
 unfold store_twin at h
 refine kRs 0 [Tm 1 (.ptr 1 0), Tm 2 (.ptr 2 0), Ob 1 [sS 2 TChain.en s.Chains, iv s.Mark], Ob 2 [.data (.slc true none 2 (List.map TChain.en [])), iv 0]] [] .n ?_
 obtain ⟨r2_1, h2_2, h⟩ := bd_inv h
 refine kRs 11 [Ob 1 [sO 2 TChain.en r2_1, iv s.Mark]] [.a ⟨sO 2 TChain.en r2_1, []⟩] (.c (aoM (slices_Clone_api_Chain.meets s.Chains _ h2_2)) .n) ?_
 refine kSq ?_
 refine kRs 15 [Tm 10 (.ref (.o 1) 0 0 none), Tm 11 (iv (r2_1.length : Int)), Tm 12 (iv 0)] [.s (.t 11) [iv (r2_1.length : Int)]] (.c (c_len (e := TChain.en) (l := r2_1)) .n) ?_
 refine kBk 0 ?_
 obtain ⟨o10, ho10, h⟩ := bd_inv h
 refine kUs (store_twin.lp4_ok fu (r2_1.length : Int) (TStore.mk [] 0) _ 0 (TStore.mk r2_1 s.Mark) _ ho10) ?_
 intro e_ τ_ hp_
 obtain ⟨y10_0, rfl⟩ : ∃ y, y = o10 := ⟨_, rfl⟩
 obtain ⟨rfl, rfl⟩ := hp_
 refine kCd (cR (cR (cR bd40))) [] ?_
 refine kRs 2 [Ob 2 [sO 2 TChain.en y10_0.Chains, iv y10_0.Mark]] [] .n ?_
 refine kRt ?_
 have h_ := some_inj h
 subst h_
 exact kFr
def bd42 : Code := (Try.f42.body).getD .skip
def chain_Add.O : Nat → Nat := fun t => bif ([3, 4, 15] : List Nat).any (Nat.beq t) then 1 else 0
def chain_Add (l : List TVersion) (v : TVersion) : Option (List TVersion) :=
 bd (chain_Last l) fun r2_1 =>
 br (decide (v.Pos ≤ r2_1))
  (bd (slices_Clone_api_Version l) fun r4_1 =>
  some r4_1)
  (bd (slices_Clone_api_Version l) fun r5_1 =>
  gd (decide (r5_1.length + ([v] : List TVersion).length ≤ 4294967296)) <|
  some (r5_1 ++ ([v] : List TVersion)))
theorem chain_Add.meets (l : List TVersion) (v : TVersion) (z0 : List TVersion) (h : chain_Add l v = some z0) : Meets Try.prog ⟨42, [sS 3 TVersion.en l, .data (TVersion.ag v)], []⟩ ⟨sO 3 TVersion.en z0, []⟩ := by
 refine kMt hmix chain_Add.O Try.f42 bd42 3 ?_
 unfold chain_Add at h
 refine kRs 1 [Tm 3 (.ptr 3 0), Ob 3 (TVersion.ob v)] [] .n ?_
 refine kSq ?_
 obtain ⟨r2_1, h2_2, h⟩ := bd_inv h
 refine kRs 7 [Tm 9 (bv (decide (v.Pos ≤ r2_1)))] [.a ⟨iv r2_1, []⟩] (.c (aoM (chain_Last.meets l _ h2_2)) (.c rT .n)) ?_
 rcases br_inv h with ⟨b3_0, h⟩ | ⟨b3_0, h⟩
 ·refine kCt b3_0 ?_
  obtain ⟨r4_1, h4_2, h⟩ := bd_inv h
  refine kRs 0 [Tm 4 (sO 3 TVersion.en r4_1)] [.a ⟨sO 3 TVersion.en r4_1, []⟩] (.c (aoM (slices_Clone_api_Version.meets l _ h4_2)) .n) ?_
  refine kRt ?_
  have h_ := some_inj h
  subst h_
  exact kFr
 ·refine kCe b3_0 ?_
  refine kSk ?_
  refine kCd (cR (cR bd42)) [] ?_
  obtain ⟨r5_1, h5_2, h⟩ := bd_inv h
  obtain ⟨c5_3, h⟩ := gd_inv h
  refine kRs 0 [Tm 4 (sO 3 TVersion.en (r5_1 ++ ([v] : List TVersion)))] [.a ⟨sO 3 TVersion.en r5_1, []⟩, .s (.t 16) [sO 3 TVersion.en (r5_1 ++ ([v] : List TVersion))]] (.c (aoM (slices_Clone_api_Version.meets l _ h5_2)) (.c (c_al (e := TVersion.en) (f := TVersion.en) c5_3) (.c (congrArg (fun d : DV => [AV.data d]) (c_app (e := TVersion.en) (s := 3) (l := r5_1) (m := ([v] : List TVersion)))) (.c rT .n)))) ?_
  refine kRt ?_
  have h_ := some_inj h
  subst h_
  exact kFr
def bd43 : Code := (Try.f43.body).getD .skip
def slices_Insert_api_Chain_part.O : Nat → Nat := fun t => bif ([0, 6, 7, 8, 9, 17, 23, 25, 53, 60] : List Nat).any (Nat.beq t) then 1 else bif ([12] : List Nat).any (Nat.beq t) then 5 else 0
def slices_Insert_api_Chain_part (s : List TChain) (i : Int) (v : List TChain) : Option (List TChain) :=
 gd (decide ((0 : Int) ≤ i ∧ i ≤ (s.length : Int))) <|
 br ((v.length : Int) == 0)
  (some s)
  (br (i == (s.length : Int))
   (gd (decide (s.length + v.length ≤ 4294967296)) <|
   some (s ++ v))
   (none))
theorem slices_Insert_api_Chain_part.meets (s : List TChain) (i : Int) (v : List TChain) (z0 : List TChain) (h : slices_Insert_api_Chain_part s i v = some z0) : Meets Try.prog ⟨43, [sO 2 TChain.en s, iv i, sS 2 TChain.en v], []⟩ ⟨sO 2 TChain.en z0, []⟩ := by
 refine kMt hmix slices_Insert_api_Chain_part.O Try.f43 bd43 7 ?_
 unfold slices_Insert_api_Chain_part at h
 refine kRs 7 [] [] .n ?_
 obtain ⟨c2_1, h⟩ := gd_inv h
 refine kRs 7 [] [] (.c (c_cbL (e := TChain.en) c2_1) .n) ?_
 refine kRs 7 [Tm 7 (iv (v.length : Int))] [.s (.t 14) [iv (v.length : Int)]] (.c (c_len (e := TChain.en) (l := v)) .n) ?_
 refine kSq ?_
 refine kRs 15 [Tm 16 (bv ((v.length : Int) == 0))] [] .n ?_
 rcases br_inv h with ⟨b5_0, h⟩ | ⟨b5_0, h⟩
 ·refine kCt b5_0 ?_
  refine kRs 0 [Tm 6 (sO 2 TChain.en s)] [] .n ?_
  refine kRt ?_
  have h_ := some_inj h
  subst h_
  exact kFr
 ·refine kCe b5_0 ?_
  refine kSk ?_
  refine kCd (cR (cR (cR (cR bd43)))) [] ?_
  refine kRs 30 [Tm 8 (iv (s.length : Int))] [.s (.t 19) [iv (s.length : Int)]] (.c (c_len (e := TChain.en) (l := s)) .n) ?_
  refine kSq ?_
  refine kRs 31 [Tm 22 (bv (i == (s.length : Int)))] [] .n ?_
  rcases br_inv h with ⟨b9_0, h⟩ | ⟨b9_0, h⟩
  ·refine kCt b9_0 ?_
   obtain ⟨c10_1, h⟩ := gd_inv h
   refine kRs 0 [Tm 6 (sO 2 TChain.en (s ++ v))] [.s (.t 25) [sO 2 TChain.en (s ++ v)]] (.c (c_al (e := TChain.en) (f := TChain.en) c10_1) (.c (congrArg (fun d : DV => [AV.data d]) (c_app (e := TChain.en) (s := 2) (l := s) (m := v))) .n)) ?_
   refine kRt ?_
   have h_ := some_inj h
   subst h_
   exact kFr
  ·refine kCe b9_0 ?_
   refine kSk ?_
   refine kCd (cR (cR (cR (cR (cR (cR bd43)))))) [] ?_
   refine kSq ?_
   exact no_none h
/-- slices.Insert[[]diwan/api.Chain,diwan/api.Chain], as a whole. -/
def slices_Insert_api_Chain (s : List TChain) (i : Int) (v : List TChain) : Option (List TChain) :=
  br (decide (0 ≤ i ∧ i < (s.length : Int) ∧ 0 < v.length ∧ s.length + v.length ≤ 4294967296))
    (some (List.take i.toNat s ++ v ++ List.drop i.toNat s))
    (slices_Insert_api_Chain_part s i v)
theorem slices_Insert_api_Chain.meets (s : List TChain) (i : Int) (v : List TChain) (z0 : List TChain) (h : slices_Insert_api_Chain s i v = some z0) : Meets Try.prog ⟨43, [sO 2 TChain.en s, iv i, sS 2 TChain.en v], []⟩ ⟨sO 2 TChain.en z0, []⟩ := by
  rcases br_inv h with ⟨hb, h⟩ | ⟨hb, h⟩
  · cases some_inj h
    exact ins_meetsT (e := TChain.en) Try.func43 (by kernel_rfl) (by kernel_rfl) (by kernel_rfl) (by kernel_rfl) Ins43.walk hb
  · exact slices_Insert_api_Chain_part.meets s i v _ h
def bd30 : Code := (Try.f30.body).getD .skip
def store_Write.O : Nat → Nat := fun t => bif ([3, 6, 8, 9, 10, 11, 12, 14, 26, 47, 48, 65] : List Nat).any (Nat.beq t) then 1 else bif ([61] : List Nat).any (Nat.beq t) then 2 else bif ([49] : List Nat).any (Nat.beq t) then 4 else 0
def store_Write.lp4 (fu : Nat) (l4_0 : Int) (l4_1 : List TWrite) (l4_2 : Int) (l4_5 : TStore) : Nat → Int → TStore → Option TStore
  | 0, _, _ => none
  | n_ + 1, l4_3, l4_4 =>
  br (decide (l4_3 < l4_2))
   (ix l4_1 l4_3 fun x7_1 =>
   bd (store_keeper_find fu l4_4 x7_1.Key) fun (r9_1, r9_2) =>
   br (!r9_2)
    (jn (fun (j16_4 : TStore) =>
     store_Write.lp4 fu l4_0 l4_1 l4_2 l4_5 n_ (w64 (l4_3 + 1)) j16_4) fun k16 =>
    bd (chain_Add [] (TVersion.mk l4_0 x7_1.Val x7_1.Gone)) fun r12_1 =>
    br (decide ((r12_1.length : Int) > 0))
     (bd (slices_Insert_api_Chain l4_4.Chains r9_1 ([(TChain.mk x7_1.Key r12_1)] : List TChain)) fun r15_1 =>
     k16 (TStore.mk r15_1 l4_4.Mark))
     (k16 l4_4))
    (ix l4_4.Chains r9_1 fun x18_1 =>
    bd (chain_Add x18_1.L (TVersion.mk l4_0 x7_1.Val x7_1.Gone)) fun r18_4 =>
    ix l4_4.Chains r9_1 fun x18_6 =>
    store_Write.lp4 fu l4_0 l4_1 l4_2 l4_5 n_ (w64 (l4_3 + 1)) (TStore.mk (l4_4.Chains.set r9_1.toNat (TChain.mk x18_6.Key r18_4)) l4_4.Mark)))
   (some l4_4)
def store_Write.lp4_post (l4_0 : Int) (l4_1 : List TWrite) (l4_2 : Int) (l4_5 : TStore) (r_ : TStore) : Wy → St → Prop := fun e τ => match r_ with
  | y0 => e = .exit 0 ∧ τ = ofL [Tm 3 (.ptr 3 0), Tm 6 (.ptr 6 0), Ob 3 [sO 2 TChain.en y0.Chains, iv y0.Mark], Ob 6 [sO 2 TChain.en l4_5.Chains, iv l4_5.Mark]]
theorem store_Write.lp4_ok (fu : Nat) (l4_0 : Int) (l4_1 : List TWrite) (l4_2 : Int) (l4_5 : TStore) : ∀ (n_ : Nat) (l4_3 : Int) (l4_4 : TStore) (r_ : TStore), store_Write.lp4 fu l4_0 l4_1 l4_2 l4_5 n_ l4_3 l4_4 = some r_ → WK Try.prog store_Write.O (Ck Try.prog) (cB (cR (cL (cR (cR bd30))))) [] (ofL [Tm 1 (iv l4_0), Tm 3 (.ptr 3 0), Tm 6 (.ptr 6 0), Tm 15 (sS 3 TWrite.en l4_1), Tm 16 (iv l4_2), Tm 17 (iv l4_3), Ob 3 [sO 2 TChain.en l4_4.Chains, iv l4_4.Mark], Ob 6 [sO 2 TChain.en l4_5.Chains, iv l4_5.Mark]]) (store_Write.lp4_post l4_0 l4_1 l4_2 l4_5 r_) := by
 intro n_
 induction n_ with
 | zero => intro l4_3 l4_4 r_ h; exact no_none h
 | succ n_ ih =>
  intro l4_3 l4_4 r_ h
  refine kLp ?_
  refine kRs 255 [Tm 18 (bv (decide (l4_3 < l4_2)))] [] .n ?_
  refine kSq ?_
  rcases br_inv h with ⟨b6_0, h⟩ | ⟨b6_0, h⟩
  ·refine kCt b6_0 ?_
   refine kSk ?_
   refine kCd (cR (cR (cB (cB (cR (cL (cR (cR bd30)))))))) [.lp (cB (cR (cL (cR (cR bd30)))))] ?_
   refine kSq ?_
   refine kBk 1 ?_
   obtain ⟨x7_1, a7_2, e7_3, h⟩ := ix_inv h
   refine kRs 510 [Tm 8 (.ptr 8 0), Ob 8 (TWrite.ob x7_1)] [.c (TWrite.en x7_1)] (.c (c_ix (e := TWrite.en) a7_2 e7_3) (.c (c_el (e := TWrite.en) e7_3) .n)) ?_
   refine kRs 1023 [Tm 9 (.ptr 9 0), Ob 9 (TVersion.ob (TVersion.mk l4_0 x7_1.Val x7_1.Gone))] [] .n ?_
   obtain ⟨⟨r9_1, r9_2⟩, h9_3, h⟩ := bd_inv h
   refine kRs 4095 [Tm 10 (iv r9_1), Tm 11 (bv r9_2)] [.a ⟨.tup [iv r9_1, bv r9_2], []⟩] (.c (aoM (store_keeper_find.meets fu l4_4 x7_1.Key _ _ h9_3)) .n) ?_
   refine kSq ?_
   refine kRs 16381 [Tm 35 (bv (!r9_2))] [] .n ?_
   rcases br_inv h with ⟨b11_0, h⟩ | ⟨b11_0, h⟩
   ·refine kCt b11_0 ?_
    obtain ⟨k16, hk16, h⟩ := jn_inv h
    have Jk16 : ∀ (j16_4 : TStore), k16 j16_4 = some r_ → WK Try.prog store_Write.O (Ck Try.prog) (cR (cT (cR (cL (cR (cR (cR (cB (cL (cR (cR (cB (cB (cR (cL (cR (cR bd30))))))))))))))))) [.seq (cR (cR (cR (cR (cB (cL (cR (cR (cB (cB (cR (cL (cR (cR bd30)))))))))))))), .blk 1, .seq (cR (cR (cR (cB (cB (cR (cL (cR (cR bd30))))))))), .lp (cB (cR (cL (cR (cR bd30)))))] (ofL [Tm 1 (iv l4_0), Tm 3 (.ptr 3 0), Tm 6 (.ptr 6 0), Tm 15 (sS 3 TWrite.en l4_1), Tm 16 (iv l4_2), Tm 17 (iv l4_3), Ob 3 [sO 2 TChain.en j16_4.Chains, iv j16_4.Mark], Ob 6 [sO 2 TChain.en l4_5.Chains, iv l4_5.Mark]]) (store_Write.lp4_post l4_0 l4_1 l4_2 l4_5 r_) := by
     intro j16_4 h
     rw [hk16] at h
     refine kXt 1 ?_
     refine kCd (cR (cR (cR (cB (cB (cR (cL (cR (cR bd30))))))))) [.lp (cB (cR (cL (cR (cR bd30)))))] ?_
     refine kRc 223 [Tm 17 (iv (w64 (l4_3 + 1)))] [] .n (cB (cR (cL (cR (cR bd30))))) [] ?_
     exact kWk (ih (w64 (l4_3 + 1)) j16_4 _ h)
    clear hk16
    refine kSq ?_
    obtain ⟨r12_1, h12_2, h⟩ := bd_inv h
    refine kRs 16370 [Tm 12 (sO 3 TVersion.en r12_1)] [.a ⟨sO 3 TVersion.en r12_1, []⟩] (.c (Asks.fg (args1 := []) (args2 := [.data (TVersion.ag (TVersion.mk l4_0 x7_1.Val x7_1.Gone))]) (nl := some true) (sz := 3) (es := List.map TVersion.en []) (aoM (chain_Add.meets [] (TVersion.mk l4_0 x7_1.Val x7_1.Gone) _ h12_2))) .n) ?_
    refine kRs 4095 [Tm 40 (bv (decide ((r12_1.length : Int) > 0)))] [.s (.t 39) [iv (r12_1.length : Int)]] (.c (c_len (e := TVersion.en) (l := r12_1)) .n) ?_
    rcases br_inv h with ⟨b14_0, h⟩ | ⟨b14_0, h⟩
    ·refine kCt b14_0 ?_
     obtain ⟨r15_1, h15_2, h⟩ := bd_inv h
     refine kRc 6112 [Ob 3 [sO 2 TChain.en r15_1, iv l4_4.Mark]] [.a ⟨sO 2 TChain.en r15_1, []⟩] (.c (Asks.fg (args1 := [sO 2 TChain.en l4_4.Chains, iv r9_1]) (args2 := []) (nl := some false) (sz := 2) (es := List.map TChain.en ([(TChain.mk x7_1.Key r12_1)] : List TChain)) (aoM (slices_Insert_api_Chain.meets l4_4.Chains r9_1 ([(TChain.mk x7_1.Key r12_1)] : List TChain) _ h15_2))) .n) (cR (cT (cR (cL (cR (cR (cR (cB (cL (cR (cR (cB (cB (cR (cL (cR (cR bd30))))))))))))))))) [.seq (cR (cR (cR (cR (cB (cL (cR (cR (cB (cB (cR (cL (cR (cR bd30)))))))))))))), .blk 1, .seq (cR (cR (cR (cB (cB (cR (cL (cR (cR bd30))))))))), .lp (cB (cR (cL (cR (cR bd30)))))] ?_
     exact kWk (Jk16 (TStore.mk r15_1 l4_4.Mark) h)
    ·refine kCe b14_0 ?_
     refine kSk ?_
     refine kCd (cR (cT (cR (cL (cR (cR (cR (cB (cL (cR (cR (cB (cB (cR (cL (cR (cR bd30))))))))))))))))) [.seq (cR (cR (cR (cR (cB (cL (cR (cR (cB (cB (cR (cL (cR (cR bd30)))))))))))))), .blk 1, .seq (cR (cR (cR (cB (cB (cR (cL (cR (cR bd30))))))))), .lp (cB (cR (cL (cR (cR bd30)))))] ?_
     exact kWk (Jk16 l4_4 h)
   ·refine kCe b11_0 ?_
    refine kSk ?_
    refine kCd (cR (cR (cR (cR (cB (cL (cR (cR (cB (cB (cR (cL (cR (cR bd30)))))))))))))) [.blk 1, .seq (cR (cR (cR (cB (cB (cR (cL (cR (cR bd30))))))))), .lp (cB (cR (cL (cR (cR bd30)))))] ?_
    obtain ⟨x18_1, a18_2, e18_3, h⟩ := ix_inv h
    obtain ⟨r18_4, h18_5, h⟩ := bd_inv h
    obtain ⟨x18_6, a18_7, e18_8, h⟩ := ix_inv h
    refine kRc 12224 [Ob 3 [sO 2 TChain.en (l4_4.Chains.set r9_1.toNat (TChain.mk x18_6.Key r18_4)), iv l4_4.Mark]] [.c (TChain.en x18_1), .a ⟨sO 3 TVersion.en r18_4, []⟩, .c (TChain.en x18_6), .s (.o 3) [sO 2 TChain.en (l4_4.Chains.set r9_1.toNat (TChain.mk x18_6.Key r18_4)), iv l4_4.Mark]] (.c (c_ix (e := TChain.en) a18_2 e18_3) (.c (c_el (e := TChain.en) e18_3) (.c (aoM (chain_Add.meets x18_1.L (TVersion.mk l4_0 x7_1.Val x7_1.Gone) _ h18_5)) (.c (c_ix (e := TChain.en) a18_7 e18_8) (.c (c_el (e := TChain.en) e18_8) (.c (congrArg (fun d : DV => [AV.data d, iv l4_4.Mark]) (c_set (e := TChain.en) (s := 2) (nl := none) (l := l4_4.Chains) (i := r9_1.toNat) (x := (TChain.mk x18_6.Key r18_4)))) (.c rT .n))))))) (cR (cR (cR (cB (cB (cR (cL (cR (cR bd30))))))))) [.lp (cB (cR (cL (cR (cR bd30)))))] ?_
    refine kRc 191 [Tm 17 (iv (w64 (l4_3 + 1)))] [] .n (cB (cR (cL (cR (cR bd30))))) [] ?_
    exact kWk (ih (w64 (l4_3 + 1)) (TStore.mk (l4_4.Chains.set r9_1.toNat (TChain.mk x18_6.Key r18_4)) l4_4.Mark) _ h)
  ·refine kCe b6_0 ?_
   cases some_inj h
   refine kWo ?_
   refine kXt 0 ?_
   exact kOut
def store_Write (fu : Nat) (s : TStore) (pos : Int) (l : List TWrite) : Option TStore :=
 bd (store_twin fu s) fun r2_1 =>
 bd (store_Write.lp4 fu pos l (l.length : Int) (TStore.mk [] 0) fu 0 r2_1) fun y20_0 =>
 some y20_0
theorem store_Write.meets (fu : Nat) (s : TStore) (pos : Int) (l : List TWrite) (z0 : TStore) (h : store_Write fu s pos l = some z0) : Meets Try.prog ⟨30, [.data (.agg [.slc false none 2 (List.map TChain.en s.Chains), .val (.int .i64 s.Mark)]), iv pos, sS 3 TWrite.en l], []⟩ ⟨.data (.agg [.slc true none 2 (List.map TChain.en z0.Chains), .val (.int .i64 z0.Mark)]), []⟩ := by
 refine kMt hmix store_Write.O Try.f30 bd30 7 ?_
 unfold store_Write at h
 refine kRs 6 [Tm 3 (.ptr 3 0), Tm 6 (.ptr 6 0), Ob 3 [sS 2 TChain.en s.Chains, iv s.Mark], Ob 6 [.data (.slc true none 2 (List.map TChain.en [])), iv 0]] [] .n ?_
 obtain ⟨r2_1, h2_2, h⟩ := bd_inv h
 refine kRs 59 [Ob 3 [sO 2 TChain.en r2_1.Chains, iv r2_1.Mark]] [.a ⟨.data (.agg [.slc true none 2 (List.map TChain.en r2_1.Chains), .val (.int .i64 r2_1.Mark)]), []⟩] (.c (aoM (store_twin.meets fu s _ h2_2)) .n) ?_
 refine kSq ?_
 refine kRs 31 [Tm 15 (sS 3 TWrite.en l), Tm 16 (iv (l.length : Int)), Tm 17 (iv 0)] [.s (.t 16) [iv (l.length : Int)]] (.c (c_len (e := TWrite.en) (l := l)) .n) ?_
 refine kBk 0 ?_
 obtain ⟨o20, ho20, h⟩ := bd_inv h
 refine kUs (store_Write.lp4_ok fu pos l (l.length : Int) (TStore.mk [] 0) _ 0 r2_1 _ ho20) ?_
 intro e_ τ_ hp_
 obtain ⟨y20_0, rfl⟩ : ∃ y, y = o20 := ⟨_, rfl⟩
 obtain ⟨rfl, rfl⟩ := hp_
 refine kCd (cR (cR (cR bd30))) [] ?_
 refine kRs 2 [Ob 6 [sO 2 TChain.en y20_0.Chains, iv y20_0.Mark]] [] .n ?_
 refine kRt ?_
 have h_ := some_inj h
 subst h_
 exact kFr
def bd21 : Code := (Try.f21.body).getD .skip
def judge_bench_judge.O : Nat → Nat := fun t => bif ([3, 4, 5, 6, 27, 35, 36, 39, 47, 48, 51, 63, 71, 72] : List Nat).any (Nat.beq t) then 1 else 0
def judge_bench_judge (fu : Nat) (t : TTxn) (o0_v : TBench) : Option TBench :=
 bd (seat_Turn fu o0_v.seats t.Session t.Seq (w64 ((o0_v.said.length : Int) + 1))) fun (r3_1, r3_2) =>
 br (!r3_2)
  (gd (decide (o0_v.said.length + ([3] : List Int).length ≤ 4294967296)) <|
  some (TBench.mk (o0_v.said ++ ([3] : List Int)) o0_v.store r3_1))
  (bd (judge_bench_holds fu t (TBench.mk o0_v.said o0_v.store r3_1)) fun r8_1 =>
  br r8_1
   (bd (store_Write fu (TStore.mk ((TBench.mk o0_v.said o0_v.store r3_1).store.Chains) ((TBench.mk o0_v.said o0_v.store r3_1).store.Mark)) (w64 ((o0_v.said.length : Int) + 1)) t.Writes) fun r10_1 =>
   gd (decide (((TBench.mk o0_v.said o0_v.store r3_1).said).length + ([1] : List Int).length ≤ 4294967296)) <|
   some (TBench.mk ((TBench.mk o0_v.said o0_v.store r3_1).said ++ ([1] : List Int)) r10_1 ((TBench.mk o0_v.said o0_v.store r3_1).seats)))
   (gd (decide (((TBench.mk o0_v.said o0_v.store r3_1).said).length + ([2] : List Int).length ≤ 4294967296)) <|
   some (TBench.mk ((TBench.mk o0_v.said o0_v.store r3_1).said ++ ([2] : List Int)) (TStore.mk ((TBench.mk o0_v.said o0_v.store r3_1).store.Chains) ((TBench.mk o0_v.said o0_v.store r3_1).store.Mark)) ((TBench.mk o0_v.said o0_v.store r3_1).seats))))
theorem judge_bench_judge.meets (fu : Nat) (t : TTxn) (o0_v : TBench) (z0 : TBench) (h : judge_bench_judge fu t o0_v = some z0) : Meets Try.prog ⟨21, [.ptr 1000 0, .data (TTxn.ag t)], [(TBench.ob_1101 o0_v)]⟩ ⟨.tup [], [(TBench.ob_11 z0)]⟩ := by
 refine kMt hmix judge_bench_judge.O Try.f21 bd21 7 ?_
 unfold judge_bench_judge at h
 refine kRs 5 [Tm 3 (.ptr 3 0), Ob 3 (TTxn.ob t)] [] .n ?_
 refine kRs 15 [Tm 4 (iv (w64 ((o0_v.said.length : Int) + 1)))] [.s (.t 11) [iv (o0_v.said.length : Int)]] (.c (c_len (e := e_i64) (l := o0_v.said)) .n) ?_
 refine kSo 1000 3 15 [Ob 1000 (TBench.ob_11 o0_v)] ?_
 obtain ⟨⟨r3_1, r3_2⟩, h3_3, h⟩ := bd_inv h
 refine kRs 31 [Tm 5 (sS 3 TSeat.en r3_1), Tm 6 (bv r3_2)] [.a ⟨.tup [sS 3 TSeat.en r3_1, bv r3_2], []⟩] (.c (aoM (seat_Turn.meets fu o0_v.seats t.Session t.Seq (w64 ((o0_v.said.length : Int) + 1)) _ _ h3_3)) (.c rT .n)) ?_
 refine kRs 122 [Ob 1000 (TBench.ob_11 (TBench.mk o0_v.said o0_v.store r3_1))] [] .n ?_
 refine kBk 0 ?_
 refine kRs 61 [Tm 39 (bv (!r3_2))] [] .n ?_
 rcases br_inv h with ⟨b6_0, h⟩ | ⟨b6_0, h⟩
 ·refine kCt b6_0 ?_
  obtain ⟨c7_1, h⟩ := gd_inv h
  have h_ := some_inj h
  subst h_
  exact kRf [.s (.t 48) [sO 1 e_i64 (o0_v.said ++ ([3] : List Int))]] (.c (c_al (e := e_i64) (f := e_i64) c7_1) (.c (congrArg (fun d : DV => [AV.data d]) (c_app (e := e_i64) (s := 1) (l := o0_v.said) (m := ([3] : List Int)))) .n))
 ·refine kCe b6_0 ?_
  obtain ⟨r8_1, h8_2, h⟩ := bd_inv h
  refine kRs 60 [Tm 51 (bv r8_1), Ob 1000 (TBench.ob_11 (TBench.mk ((TBench.mk o0_v.said o0_v.store r3_1).said) (TStore.mk ((TBench.mk o0_v.said o0_v.store r3_1).store.Chains) ((TBench.mk o0_v.said o0_v.store r3_1).store.Mark)) ((TBench.mk o0_v.said o0_v.store r3_1).seats)))] [.a ⟨bv r8_1, [(TBench.ob_11 (TBench.mk ((TBench.mk o0_v.said o0_v.store r3_1).said) (TStore.mk ((TBench.mk o0_v.said o0_v.store r3_1).store.Chains) ((TBench.mk o0_v.said o0_v.store r3_1).store.Mark)) ((TBench.mk o0_v.said o0_v.store r3_1).seats)))]⟩] (.c (aoM (judge_bench_holds.meets fu t (TBench.mk o0_v.said o0_v.store r3_1) _ h8_2)) .n) ?_
  rcases br_inv h with ⟨b9_0, h⟩ | ⟨b9_0, h⟩
  ·refine kCt b9_0 ?_
   refine kSo 1000 1 60 [Ob 1000 (TBench.ob_1 (TBench.mk ((TBench.mk o0_v.said o0_v.store r3_1).said) (TStore.mk ((TBench.mk o0_v.said o0_v.store r3_1).store.Chains) ((TBench.mk o0_v.said o0_v.store r3_1).store.Mark)) ((TBench.mk o0_v.said o0_v.store r3_1).seats)))] ?_
   obtain ⟨r10_1, h10_2, h⟩ := bd_inv h
   refine kRs 16 [Ob 1000 (TBench.ob_11 (TBench.mk ((TBench.mk o0_v.said o0_v.store r3_1).said) r10_1 ((TBench.mk o0_v.said o0_v.store r3_1).seats)))] [.a ⟨.data (.agg [.slc true none 2 (List.map TChain.en r10_1.Chains), .val (.int .i64 r10_1.Mark)]), []⟩] (.c (aoM (store_Write.meets fu (TStore.mk ((TBench.mk o0_v.said o0_v.store r3_1).store.Chains) ((TBench.mk o0_v.said o0_v.store r3_1).store.Mark)) (w64 ((o0_v.said.length : Int) + 1)) t.Writes _ h10_2)) (.c rT .n)) ?_
   obtain ⟨c11_1, h⟩ := gd_inv h
   have h_ := some_inj h
   subst h_
   exact kRf [.s (.t 72) [sO 1 e_i64 ((TBench.mk o0_v.said o0_v.store r3_1).said ++ ([1] : List Int))]] (.c (c_al (e := e_i64) (f := e_i64) c11_1) (.c (congrArg (fun d : DV => [AV.data d]) (c_app (e := e_i64) (s := 1) (l := ((TBench.mk o0_v.said o0_v.store r3_1).said)) (m := ([1] : List Int)))) .n))
  ·refine kCe b9_0 ?_
   obtain ⟨c12_1, h⟩ := gd_inv h
   have h_ := some_inj h
   subst h_
   exact kRf [.s (.t 36) [sO 1 e_i64 ((TBench.mk o0_v.said o0_v.store r3_1).said ++ ([2] : List Int))]] (.c (c_al (e := e_i64) (f := e_i64) c12_1) (.c (congrArg (fun d : DV => [AV.data d]) (c_app (e := e_i64) (s := 1) (l := ((TBench.mk o0_v.said o0_v.store r3_1).said)) (m := ([2] : List Int)))) .n))
def judge_bench_judge_2.O : Nat → Nat := fun t => bif ([3, 4, 5, 6, 27, 35, 36, 39, 47, 48, 51, 63, 71, 72] : List Nat).any (Nat.beq t) then 1 else 0
def judge_bench_judge_2 (fu : Nat) (t : TTxn) (o0_v : TBench) : Option TBench :=
 bd (seat_Turn fu o0_v.seats t.Session t.Seq (w64 ((o0_v.said.length : Int) + 1))) fun (r3_1, r3_2) =>
 br (!r3_2)
  (gd (decide (o0_v.said.length + ([3] : List Int).length ≤ 4294967296)) <|
  some (TBench.mk (o0_v.said ++ ([3] : List Int)) o0_v.store r3_1))
  (bd (judge_bench_holds fu t (TBench.mk o0_v.said o0_v.store r3_1)) fun r8_1 =>
  br r8_1
   (bd (store_Write fu (TStore.mk ((TBench.mk o0_v.said o0_v.store r3_1).store.Chains) ((TBench.mk o0_v.said o0_v.store r3_1).store.Mark)) (w64 ((o0_v.said.length : Int) + 1)) t.Writes) fun r10_1 =>
   gd (decide (((TBench.mk o0_v.said o0_v.store r3_1).said).length + ([1] : List Int).length ≤ 4294967296)) <|
   some (TBench.mk ((TBench.mk o0_v.said o0_v.store r3_1).said ++ ([1] : List Int)) r10_1 ((TBench.mk o0_v.said o0_v.store r3_1).seats)))
   (gd (decide (((TBench.mk o0_v.said o0_v.store r3_1).said).length + ([2] : List Int).length ≤ 4294967296)) <|
   some (TBench.mk ((TBench.mk o0_v.said o0_v.store r3_1).said ++ ([2] : List Int)) (TStore.mk ((TBench.mk o0_v.said o0_v.store r3_1).store.Chains) ((TBench.mk o0_v.said o0_v.store r3_1).store.Mark)) ((TBench.mk o0_v.said o0_v.store r3_1).seats))))
theorem judge_bench_judge_2.meets (fu : Nat) (t : TTxn) (o0_v : TBench) (z0 : TBench) (h : judge_bench_judge_2 fu t o0_v = some z0) : Meets Try.prog ⟨21, [.ptr 1000 0, .data (TTxn.ag t)], [(TBench.ob_11 o0_v)]⟩ ⟨.tup [], [(TBench.ob_11 z0)]⟩ := by
 refine kMt hmix judge_bench_judge_2.O Try.f21 bd21 7 ?_
 unfold judge_bench_judge_2 at h
 refine kRs 5 [Tm 3 (.ptr 3 0), Ob 3 (TTxn.ob t)] [] .n ?_
 refine kRs 15 [Tm 4 (iv (w64 ((o0_v.said.length : Int) + 1)))] [.s (.t 11) [iv (o0_v.said.length : Int)]] (.c (c_len (e := e_i64) (l := o0_v.said)) .n) ?_
 obtain ⟨⟨r3_1, r3_2⟩, h3_3, h⟩ := bd_inv h
 refine kRs 31 [Tm 5 (sS 3 TSeat.en r3_1), Tm 6 (bv r3_2)] [.a ⟨.tup [sS 3 TSeat.en r3_1, bv r3_2], []⟩] (.c (aoM (seat_Turn.meets fu o0_v.seats t.Session t.Seq (w64 ((o0_v.said.length : Int) + 1)) _ _ h3_3)) (.c rT .n)) ?_
 refine kRs 62 [Ob 1000 (TBench.ob_11 (TBench.mk o0_v.said o0_v.store r3_1))] [] .n ?_
 refine kBk 0 ?_
 refine kRs 61 [Tm 39 (bv (!r3_2))] [] .n ?_
 rcases br_inv h with ⟨b6_0, h⟩ | ⟨b6_0, h⟩
 ·refine kCt b6_0 ?_
  obtain ⟨c7_1, h⟩ := gd_inv h
  have h_ := some_inj h
  subst h_
  exact kRf [.s (.t 48) [sO 1 e_i64 (o0_v.said ++ ([3] : List Int))]] (.c (c_al (e := e_i64) (f := e_i64) c7_1) (.c (congrArg (fun d : DV => [AV.data d]) (c_app (e := e_i64) (s := 1) (l := o0_v.said) (m := ([3] : List Int)))) .n))
 ·refine kCe b6_0 ?_
  obtain ⟨r8_1, h8_2, h⟩ := bd_inv h
  refine kRs 60 [Tm 51 (bv r8_1), Ob 1000 (TBench.ob_11 (TBench.mk ((TBench.mk o0_v.said o0_v.store r3_1).said) (TStore.mk ((TBench.mk o0_v.said o0_v.store r3_1).store.Chains) ((TBench.mk o0_v.said o0_v.store r3_1).store.Mark)) ((TBench.mk o0_v.said o0_v.store r3_1).seats)))] [.a ⟨bv r8_1, [(TBench.ob_11 (TBench.mk ((TBench.mk o0_v.said o0_v.store r3_1).said) (TStore.mk ((TBench.mk o0_v.said o0_v.store r3_1).store.Chains) ((TBench.mk o0_v.said o0_v.store r3_1).store.Mark)) ((TBench.mk o0_v.said o0_v.store r3_1).seats)))]⟩] (.c (aoM (judge_bench_holds.meets fu t (TBench.mk o0_v.said o0_v.store r3_1) _ h8_2)) .n) ?_
  rcases br_inv h with ⟨b9_0, h⟩ | ⟨b9_0, h⟩
  ·refine kCt b9_0 ?_
   refine kSo 1000 1 60 [Ob 1000 (TBench.ob_1 (TBench.mk ((TBench.mk o0_v.said o0_v.store r3_1).said) (TStore.mk ((TBench.mk o0_v.said o0_v.store r3_1).store.Chains) ((TBench.mk o0_v.said o0_v.store r3_1).store.Mark)) ((TBench.mk o0_v.said o0_v.store r3_1).seats)))] ?_
   obtain ⟨r10_1, h10_2, h⟩ := bd_inv h
   refine kRs 16 [Ob 1000 (TBench.ob_11 (TBench.mk ((TBench.mk o0_v.said o0_v.store r3_1).said) r10_1 ((TBench.mk o0_v.said o0_v.store r3_1).seats)))] [.a ⟨.data (.agg [.slc true none 2 (List.map TChain.en r10_1.Chains), .val (.int .i64 r10_1.Mark)]), []⟩] (.c (aoM (store_Write.meets fu (TStore.mk ((TBench.mk o0_v.said o0_v.store r3_1).store.Chains) ((TBench.mk o0_v.said o0_v.store r3_1).store.Mark)) (w64 ((o0_v.said.length : Int) + 1)) t.Writes _ h10_2)) (.c rT .n)) ?_
   obtain ⟨c11_1, h⟩ := gd_inv h
   have h_ := some_inj h
   subst h_
   exact kRf [.s (.t 72) [sO 1 e_i64 ((TBench.mk o0_v.said o0_v.store r3_1).said ++ ([1] : List Int))]] (.c (c_al (e := e_i64) (f := e_i64) c11_1) (.c (congrArg (fun d : DV => [AV.data d]) (c_app (e := e_i64) (s := 1) (l := ((TBench.mk o0_v.said o0_v.store r3_1).said)) (m := ([1] : List Int)))) .n))
  ·refine kCe b9_0 ?_
   obtain ⟨c12_1, h⟩ := gd_inv h
   have h_ := some_inj h
   subst h_
   exact kRf [.s (.t 36) [sO 1 e_i64 ((TBench.mk o0_v.said o0_v.store r3_1).said ++ ([2] : List Int))]] (.c (c_al (e := e_i64) (f := e_i64) c12_1) (.c (congrArg (fun d : DV => [AV.data d]) (c_app (e := e_i64) (s := 1) (l := ((TBench.mk o0_v.said o0_v.store r3_1).said)) (m := ([2] : List Int)))) .n))
def bd12 : Code := (Try.f12.body).getD .skip
def judge_Fold.O : Nat → Nat := fun t => bif ([3, 5, 6, 8, 9, 10] : List Nat).any (Nat.beq t) then 1 else 0
def judge_Fold.lp5 (fu : Nat) (l5_0 : List TTxn) (l5_1 : Int) (l5_3 : TStore) : Nat → Int → TBench → Option TBench
  | 0, _, _ => none
  | n_ + 1, l5_2, l5_4 =>
  br (decide (l5_2 < l5_1))
   (ix l5_0 l5_2 fun x8_1 =>
   bd (judge_bench_judge_2 fu x8_1 l5_4) fun r9_1 =>
   judge_Fold.lp5 fu l5_0 l5_1 l5_3 n_ (w64 (l5_2 + 1)) r9_1)
   (some l5_4)
def judge_Fold.lp5_post (l5_0 : List TTxn) (l5_1 : Int) (l5_3 : TStore) (r_ : TBench) : Wy → St → Prop := fun e τ => match r_ with
  | y0 => e = .exit 0 ∧ τ = ofL [Tm 3 (.ptr 3 0), Tm 5 (.ptr 10 0), Ob 3 [sO 2 TChain.en l5_3.Chains, iv l5_3.Mark], Ob 10 (TBench.ob_11 y0)]
theorem judge_Fold.lp5_ok (fu : Nat) (l5_0 : List TTxn) (l5_1 : Int) (l5_3 : TStore) : ∀ (n_ : Nat) (l5_2 : Int) (l5_4 : TBench) (r_ : TBench), judge_Fold.lp5 fu l5_0 l5_1 l5_3 n_ l5_2 l5_4 = some r_ → WK Try.prog judge_Fold.O (Ck Try.prog) (cB (cR (cL (cR (cR (cR bd12)))))) [] (ofL [Tm 3 (.ptr 3 0), Tm 5 (.ptr 10 0), Tm 6 (.fn (.func 21) [.ptr 10 0] []), Tm 13 (sS 4 TTxn.en l5_0), Tm 14 (iv l5_1), Tm 15 (iv l5_2), Ob 3 [sO 2 TChain.en l5_3.Chains, iv l5_3.Mark], Ob 10 (TBench.ob_11 l5_4)]) (judge_Fold.lp5_post l5_0 l5_1 l5_3 r_) := by
 intro n_
 induction n_ with
 | zero => intro l5_2 l5_4 r_ h; exact no_none h
 | succ n_ ih =>
  intro l5_2 l5_4 r_ h
  refine kLp ?_
  refine kRs 255 [Tm 16 (bv (decide (l5_2 < l5_1)))] [] .n ?_
  refine kSq ?_
  rcases br_inv h with ⟨b7_0, h⟩ | ⟨b7_0, h⟩
  ·refine kCt b7_0 ?_
   refine kSk ?_
   refine kCd (cR (cR (cB (cB (cR (cL (cR (cR (cR bd12))))))))) [.lp (cB (cR (cL (cR (cR (cR bd12))))))] ?_
   refine kSq ?_
   refine kBk 1 ?_
   obtain ⟨x8_1, a8_2, e8_3, h⟩ := ix_inv h
   refine kRs 510 [Tm 8 (.ptr 8 0), Ob 8 (TTxn.ob x8_1)] [.c (TTxn.en x8_1)] (.c (c_ix (e := TTxn.en) a8_2 e8_3) (.c (c_el (e := TTxn.en) e8_3) .n)) ?_
   obtain ⟨r9_1, h9_2, h⟩ := bd_inv h
   refine kRc 508 [Ob 10 (TBench.ob_11 r9_1)] [.a ⟨.tup [], [(TBench.ob_11 r9_1)]⟩] (.c (aoM (judge_bench_judge_2.meets fu x8_1 l5_4 _ h9_2)) .n) (cR (cR (cR (cB (cB (cR (cL (cR (cR (cR bd12)))))))))) [.lp (cB (cR (cL (cR (cR (cR bd12))))))] ?_
   refine kRc 191 [Tm 15 (iv (w64 (l5_2 + 1)))] [] .n (cB (cR (cL (cR (cR (cR bd12)))))) [] ?_
   exact kWk (ih (w64 (l5_2 + 1)) r9_1 _ h)
  ·refine kCe b7_0 ?_
   cases some_inj h
   refine kWo ?_
   refine kXt 0 ?_
   exact kOut
def judge_Fold (fu : Nat) (l : List TTxn) : Option (List Int × TStore × List TSeat) :=
 bd (judge_Fold.lp5 fu l (l.length : Int) (TStore.mk [] 0) fu 0 (TBench.mk [] (TStore.mk [] 0) [])) fun y11_0 =>
 some (y11_0.said, y11_0.store, y11_0.seats)
theorem judge_Fold.meets (fu : Nat) (l : List TTxn) (z0 : List Int) (z1 : TStore) (z2 : List TSeat) (h : judge_Fold fu l = some (z0, z1, z2)) : Meets Try.prog ⟨12, [sS 4 TTxn.en l], []⟩ ⟨.tup [sS 1 e_i64 z0, .data (.agg [.slc false none 2 (List.map TChain.en z1.Chains), .val (.int .i64 z1.Mark)]), sS 3 TSeat.en z2], []⟩ := by
 refine kMt hmix judge_Fold.O Try.f12 bd12 1 ?_
 unfold judge_Fold at h
 refine kRs 1 [Tm 3 (.ptr 3 0), Ob 3 [.data (.slc true none 2 (List.map TChain.en [])), iv 0]] [] .n ?_
 refine kRs 7 [Tm 5 (.ptr 10 0), Ob 10 (TBench.ob_1101 (TBench.mk [] (TStore.mk [] 0) []))] [] .n ?_
 refine kRs 31 [Tm 6 (.fn (.func 21) [.ptr 10 0] [])] [] .n ?_
 refine kSq ?_
 refine kRs 31 [Tm 13 (sS 4 TTxn.en l), Tm 14 (iv (l.length : Int)), Tm 15 (iv 0)] [.s (.t 14) [iv (l.length : Int)]] (.c (c_len (e := TTxn.en) (l := l)) .n) ?_
 refine kBk 0 ?_
 obtain ⟨o11, ho11, h⟩ := bd_inv h
 refine kSo 10 3 223 [Ob 10 (TBench.ob_11 (TBench.mk [] (TStore.mk [] 0) []))] ?_
 refine kUs (judge_Fold.lp5_ok fu l (l.length : Int) (TStore.mk [] 0) _ 0 (TBench.mk [] (TStore.mk [] 0) []) _ ho11) ?_
 intro e_ τ_ hp_
 obtain ⟨y11_0, rfl⟩ : ∃ y, y = o11 := ⟨_, rfl⟩
 obtain ⟨rfl, rfl⟩ := hp_
 refine kCd (cR (cR (cR (cR bd12)))) [] ?_
 refine kSo 10 0 7 [Ob 10 (TBench.ob_01 y11_0)] ?_
 refine kSo 10 1 14 [Ob 10 (TBench.ob y11_0)] ?_
 refine kRs 2 [Tm 2 (sS 1 e_i64 y11_0.said), Tm 4 (sS 3 TSeat.en y11_0.seats), Ob 3 [sS 2 TChain.en y11_0.store.Chains, iv y11_0.store.Mark]] [] (.c rT .n) ?_
 refine kRt ?_
 have h_0 := some_inj h
 obtain ⟨g_1, h_1⟩ := Prod.mk.inj h_0
 obtain ⟨g_2, h_2⟩ := Prod.mk.inj h_1
 subst g_1
 subst g_2
 subst h_2
 exact kFr
def bd9 : Code := (Try.f9.body).getD .skip
def diwanlaw18_begun.O : Nat → Nat := fun t => bif ([0, 1, 2, 3, 4, 5, 6, 7, 8, 9, 10, 17, 20] : List Nat).any (Nat.beq t) then 1 else 0
def diwanlaw18_begun (fu : Nat) : Option Bool :=
 bd (judge_Fold fu ([(TTxn.mk 1 1 ([(TRead.mk (⟨#[97]⟩ : ByteArray) 0 ByteArray.empty false)] : List TRead) ([(TWrite.mk (⟨#[97]⟩ : ByteArray) (⟨#[118]⟩ : ByteArray) false)] : List TWrite)), (TTxn.mk 2 1 ([(TRead.mk (⟨#[97]⟩ : ByteArray) 0 ByteArray.empty false)] : List TRead) ([(TWrite.mk (⟨#[97]⟩ : ByteArray) (⟨#[118]⟩ : ByteArray) false)] : List TWrite)), (TTxn.mk 1 1 ([(TRead.mk (⟨#[97]⟩ : ByteArray) 0 ByteArray.empty false)] : List TRead) ([(TWrite.mk (⟨#[97]⟩ : ByteArray) (⟨#[118]⟩ : ByteArray) false)] : List TWrite))] : List TTxn)) fun (r5_1, r5_2, r5_3) =>
 br ((r5_1.length : Int) == 3)
  (ix r5_1 0 fun x6_2 =>
  br (x6_2 == 1)
   (ix r5_1 1 fun x6_6 =>
   br (x6_6 == 2)
    (ix r5_1 2 fun x6_10 =>
    br (x6_10 == 3)
     (br ((r5_2.Chains.length : Int) == 1)
      (some ((r5_3.length : Int) == 2))
      (some false))
     (some false))
    (some false))
   (some false))
  (some false)
theorem diwanlaw18_begun.meets (fu : Nat) (z0 : Bool) (h : diwanlaw18_begun fu = some z0) : Meets Try.prog ⟨9, [], []⟩ ⟨bv z0, []⟩ := by
 refine kMt hmix diwanlaw18_begun.O Try.f9 bd9 0 ?_
 unfold diwanlaw18_begun at h
 refine kRs 0 [] [] .n ?_
 refine kRs 0 [Tm 1 (.ptr 1 0), Ob 1 (TTxn.ob_0011 (TTxn.mk 1 1 ([(TRead.mk (⟨#[97]⟩ : ByteArray) 0 ByteArray.empty false)] : List TRead) ([(TWrite.mk (⟨#[97]⟩ : ByteArray) (⟨#[118]⟩ : ByteArray) false)] : List TWrite)))] [] .n ?_
 refine kRs 1 [Tm 2 (.ptr 2 0), Ob 1 (TTxn.ob (TTxn.mk 1 1 ([(TRead.mk (⟨#[97]⟩ : ByteArray) 0 ByteArray.empty false)] : List TRead) ([(TWrite.mk (⟨#[97]⟩ : ByteArray) (⟨#[118]⟩ : ByteArray) false)] : List TWrite))), Ob 2 (TTxn.ob (TTxn.mk 1 1 ([(TRead.mk (⟨#[97]⟩ : ByteArray) 0 ByteArray.empty false)] : List TRead) ([(TWrite.mk (⟨#[97]⟩ : ByteArray) (⟨#[118]⟩ : ByteArray) false)] : List TWrite)))] [] .n ?_
 refine kRs 11 [Ob 2 (TTxn.ob (TTxn.mk 2 1 ([(TRead.mk (⟨#[97]⟩ : ByteArray) 0 ByteArray.empty false)] : List TRead) ([(TWrite.mk (⟨#[97]⟩ : ByteArray) (⟨#[118]⟩ : ByteArray) false)] : List TWrite)))] [] .n ?_
 obtain ⟨⟨r5_1, r5_2, r5_3⟩, h5_4, h⟩ := bd_inv h
 refine kRs 0 [Tm 3 (sS 1 e_i64 r5_1), Tm 4 (.ptr 4 0), Tm 5 (sS 3 TSeat.en r5_3), Ob 4 [sS 2 TChain.en r5_2.Chains, iv r5_2.Mark]] [.a ⟨.tup [sS 1 e_i64 r5_1, .data (.agg [.slc false none 2 (List.map TChain.en r5_2.Chains), .val (.int .i64 r5_2.Mark)]), sS 3 TSeat.en r5_3], []⟩] (.c (Asks.fg (args1 := []) (args2 := []) (nl := some false) (sz := 4) (es := List.map TTxn.en ([(TTxn.mk 1 1 ([(TRead.mk (⟨#[97]⟩ : ByteArray) 0 ByteArray.empty false)] : List TRead) ([(TWrite.mk (⟨#[97]⟩ : ByteArray) (⟨#[118]⟩ : ByteArray) false)] : List TWrite)), (TTxn.mk 2 1 ([(TRead.mk (⟨#[97]⟩ : ByteArray) 0 ByteArray.empty false)] : List TRead) ([(TWrite.mk (⟨#[97]⟩ : ByteArray) (⟨#[118]⟩ : ByteArray) false)] : List TWrite)), (TTxn.mk 1 1 ([(TRead.mk (⟨#[97]⟩ : ByteArray) 0 ByteArray.empty false)] : List TRead) ([(TWrite.mk (⟨#[97]⟩ : ByteArray) (⟨#[118]⟩ : ByteArray) false)] : List TWrite))] : List TTxn)) (aoM (judge_Fold.meets fu ([(TTxn.mk 1 1 ([(TRead.mk (⟨#[97]⟩ : ByteArray) 0 ByteArray.empty false)] : List TRead) ([(TWrite.mk (⟨#[97]⟩ : ByteArray) (⟨#[118]⟩ : ByteArray) false)] : List TWrite)), (TTxn.mk 2 1 ([(TRead.mk (⟨#[97]⟩ : ByteArray) 0 ByteArray.empty false)] : List TRead) ([(TWrite.mk (⟨#[97]⟩ : ByteArray) (⟨#[118]⟩ : ByteArray) false)] : List TWrite)), (TTxn.mk 1 1 ([(TRead.mk (⟨#[97]⟩ : ByteArray) 0 ByteArray.empty false)] : List TRead) ([(TWrite.mk (⟨#[97]⟩ : ByteArray) (⟨#[118]⟩ : ByteArray) false)] : List TWrite))] : List TTxn) _ _ _ h5_4))) .n) ?_
 rcases br_inv h with ⟨b6_1, h⟩ | ⟨b6_1, h⟩
 ·obtain ⟨x6_2, a6_3, e6_4, h⟩ := ix_inv h
  rcases br_inv h with ⟨b6_5, h⟩ | ⟨b6_5, h⟩
  ·obtain ⟨x6_6, a6_7, e6_8, h⟩ := ix_inv h
   rcases br_inv h with ⟨b6_9, h⟩ | ⟨b6_9, h⟩
   ·obtain ⟨x6_10, a6_11, e6_12, h⟩ := ix_inv h
    rcases br_inv h with ⟨b6_13, h⟩ | ⟨b6_13, h⟩
    ·rcases br_inv h with ⟨b6_14, h⟩ | ⟨b6_14, h⟩
     ·refine kRs 0 [Tm 0 (bv ((r5_3.length : Int) == 2))] (.s (.t 23) [iv (r5_1.length : Int)] :: (.b true :: (.b true :: (.c (e_i64 x6_2) :: (rp 5 (.b true) (.c (e_i64 x6_6) :: (rp 5 (.b true) (.c (e_i64 x6_10) :: (rp 6 (.b true) (.s (.t 46) [iv (r5_2.Chains.length : Int)] :: (rp 4 (.b true) [.s (.t 51) [iv (r5_3.length : Int)], .b true, .b true]))))))))))) (.c (c_len (e := e_i64) (l := r5_1)) (.r 2 b6_1 (.c (c_ix (e := e_i64) a6_3 e6_4) (.c (c_el (e := e_i64) e6_4) (.r 3 b6_1 (.r 2 b6_5 (.c (c_ix (e := e_i64) a6_7 e6_8) (.c (c_el (e := e_i64) e6_8) (.r 3 b6_5 (.r 2 b6_9 (.c (c_ix (e := e_i64) a6_11 e6_12) (.c (c_el (e := e_i64) e6_12) (.r 3 b6_9 (.r 3 b6_13 (.c (c_len (e := TChain.en) (l := r5_2.Chains)) (.r 2 b6_13 (.r 2 b6_14 (.c (c_len (e := TSeat.en) (l := r5_3)) (.r 2 b6_14 .n))))))))))))))))))) ?_
      refine kRt ?_
      have h_ := some_inj h
      subst h_
      exact kFr
     ·refine kRs 0 [Tm 0 (bv false)] (.s (.t 23) [iv (r5_1.length : Int)] :: (.b true :: (.b true :: (.c (e_i64 x6_2) :: (rp 5 (.b true) (.c (e_i64 x6_6) :: (rp 5 (.b true) (.c (e_i64 x6_10) :: (rp 6 (.b true) (.s (.t 46) [iv (r5_2.Chains.length : Int)] :: (.b true :: (.b true :: (rp 4 (.b false) []))))))))))))) (.c (c_len (e := e_i64) (l := r5_1)) (.r 2 b6_1 (.c (c_ix (e := e_i64) a6_3 e6_4) (.c (c_el (e := e_i64) e6_4) (.r 3 b6_1 (.r 2 b6_5 (.c (c_ix (e := e_i64) a6_7 e6_8) (.c (c_el (e := e_i64) e6_8) (.r 3 b6_5 (.r 2 b6_9 (.c (c_ix (e := e_i64) a6_11 e6_12) (.c (c_el (e := e_i64) e6_12) (.r 3 b6_9 (.r 3 b6_13 (.c (c_len (e := TChain.en) (l := r5_2.Chains)) (.r 2 b6_13 (.r 4 b6_14 .n))))))))))))))))) ?_
      refine kRt ?_
      have h_ := some_inj h
      subst h_
      exact kFr
    ·refine kRs 0 [Tm 0 (bv false)] (.s (.t 23) [iv (r5_1.length : Int)] :: (.b true :: (.b true :: (.c (e_i64 x6_2) :: (rp 5 (.b true) (.c (e_i64 x6_6) :: (rp 5 (.b true) (.c (e_i64 x6_10) :: (.b true :: (.b true :: (.b true :: (rp 9 (.b false) [])))))))))))) (.c (c_len (e := e_i64) (l := r5_1)) (.r 2 b6_1 (.c (c_ix (e := e_i64) a6_3 e6_4) (.c (c_el (e := e_i64) e6_4) (.r 3 b6_1 (.r 2 b6_5 (.c (c_ix (e := e_i64) a6_7 e6_8) (.c (c_el (e := e_i64) e6_8) (.r 3 b6_5 (.r 2 b6_9 (.c (c_ix (e := e_i64) a6_11 e6_12) (.c (c_el (e := e_i64) e6_12) (.r 3 b6_9 (.r 5 b6_13 (.r 4 rF .n))))))))))))))) ?_
     refine kRt ?_
     have h_ := some_inj h
     subst h_
     exact kFr
   ·refine kRs 0 [Tm 0 (bv false)] (.s (.t 23) [iv (r5_1.length : Int)] :: (.b true :: (.b true :: (.c (e_i64 x6_2) :: (rp 5 (.b true) (.c (e_i64 x6_6) :: (.b true :: (.b true :: (.b true :: (rp 14 (.b false) [])))))))))) (.c (c_len (e := e_i64) (l := r5_1)) (.r 2 b6_1 (.c (c_ix (e := e_i64) a6_3 e6_4) (.c (c_el (e := e_i64) e6_4) (.r 3 b6_1 (.r 2 b6_5 (.c (c_ix (e := e_i64) a6_7 e6_8) (.c (c_el (e := e_i64) e6_8) (.r 3 b6_5 (.r 5 b6_9 (.r 9 rF .n))))))))))) ?_
    refine kRt ?_
    have h_ := some_inj h
    subst h_
    exact kFr
  ·refine kRs 0 [Tm 0 (bv false)] (.s (.t 23) [iv (r5_1.length : Int)] :: (.b true :: (.b true :: (.c (e_i64 x6_2) :: (.b true :: (.b true :: (.b true :: (rp 19 (.b false) [])))))))) (.c (c_len (e := e_i64) (l := r5_1)) (.r 2 b6_1 (.c (c_ix (e := e_i64) a6_3 e6_4) (.c (c_el (e := e_i64) e6_4) (.r 3 b6_1 (.r 5 b6_5 (.r 14 rF .n))))))) ?_
   refine kRt ?_
   have h_ := some_inj h
   subst h_
   exact kFr
 ·refine kRs 0 [Tm 0 (bv false)] (.s (.t 23) [iv (r5_1.length : Int)] :: (rp 24 (.b false) [])) (.c (c_len (e := e_i64) (l := r5_1)) (.r 5 b6_1 (.r 19 rF .n))) ?_
  refine kRt ?_
  have h_ := some_inj h
  subst h_
  exact kFr
def bd10 : Code := (Try.f10.body).getD .skip
def diwanplay_Made.O : Nat → Nat := fun t => bif ([2, 4, 5] : List Nat).any (Nat.beq t) then 1 else 0
def diwanplay_Made (l : List Int) : Option TPicks :=
 some (TPicks.mk l 0)
theorem diwanplay_Made.meets (l : List Int) (z0 : TPicks) (h : diwanplay_Made l = some z0) : Meets Try.prog ⟨10, [sS 1 e_u8 l], []⟩ ⟨.ptr 1000 0, [[sS 1 e_u8 z0.l, iv z0.n]]⟩ := by
 refine kMt hmix diwanplay_Made.O Try.f10 bd10 1 ?_
 unfold diwanplay_Made at h
 refine kRs 1 [] [] .n ?_
 refine kRs 0 [Tm 2 (.ptr 5 0), Ob 5 [sS 1 e_u8 l, iv 0]] [] .n ?_
 refine kRt ?_
 have h_ := some_inj h
 subst h_
 exact kFr
def bd20 : Code := (Try.f20.body).getD .skip
def diwanplay_Picks_Num.O : Nat → Nat := fun t => bif ([4, 19] : List Nat).any (Nat.beq t) then 1 else 0
def diwanplay_Picks_Num (m : Int) (o0_v : TPicks) : Option (Int × TPicks) :=
 br (decide (o0_v.n ≥ (o0_v.l.length : Int)))
  (some (0, o0_v))
  (ix o0_v.l (w64 ((w64 (o0_v.n + 1)) - 1)) fun x6_1 =>
  gd (!decide (m = 0)) <|
  some ((Int.tmod (w64 x6_1) m), (TPicks.mk o0_v.l (w64 (o0_v.n + 1)))))
theorem diwanplay_Picks_Num.meets (m : Int) (o0_v : TPicks) (z0 : Int) (z1 : TPicks) (h : diwanplay_Picks_Num m o0_v = some (z0, z1)) : Meets Try.prog ⟨20, [.ptr 1000 0, iv m], [[sS 1 e_u8 o0_v.l, iv o0_v.n]]⟩ ⟨iv z0, [[sS 1 e_u8 z1.l, iv z1.n]]⟩ := by
 refine kMt hmix diwanplay_Picks_Num.O Try.f20 bd20 7 ?_
 unfold diwanplay_Picks_Num at h
 refine kRs 7 [] [] .n ?_
 refine kSq ?_
 refine kRs 7 [Tm 14 (bv (decide (o0_v.n ≥ (o0_v.l.length : Int))))] [.s (.t 13) [iv (o0_v.l.length : Int)]] (.c (c_len (e := e_u8) (l := o0_v.l)) (.c rT .n)) ?_
 rcases br_inv h with ⟨b3_0, h⟩ | ⟨b3_0, h⟩
 ·refine kCt b3_0 ?_
  refine kRs 8 [Tm 4 (iv 0)] [] .n ?_
  refine kRt ?_
  have h_0 := some_inj h
  obtain ⟨g_1, h_1⟩ := Prod.mk.inj h_0
  subst g_1
  subst h_1
  exact kFr
 ·refine kCe b3_0 ?_
  refine kSk ?_
  refine kCd (cR (cR bd20)) [] ?_
  refine kRs 6 [Ob 1000 [sS 1 e_u8 o0_v.l, iv (w64 (o0_v.n + 1))]] [] .n ?_
  obtain ⟨x6_1, a6_2, e6_3, h⟩ := ix_inv h
  obtain ⟨c6_4, h⟩ := gd_inv h
  refine kRs 1 [Tm 4 (iv (Int.tmod (w64 x6_1) m))] [.c (e_u8 x6_1)] (.c (c_ix (e := e_u8) a6_2 e6_3) (.c (c_el (e := e_u8) e6_3) (.c c6_4 (.c rT .n)))) ?_
  refine kRt ?_
  have h_0 := some_inj h
  obtain ⟨g_1, h_1⟩ := Prod.mk.inj h_0
  subst g_1
  subst h_1
  exact kFr
def bd33 : Code := (Try.f33.body).getD .skip
def diwanplay_keys.O : Nat → Nat := fun t => bif ([0, 1] : List Nat).any (Nat.beq t) then 1 else 0
def diwanplay_keys : Option Unit :=
 some ()
theorem diwanplay_keys.meets (h : diwanplay_keys = some ()) : Meets Try.prog ⟨33, [], []⟩ ⟨.data (.slc true (some false) 1 (List.map e_s ([(⟨#[97]⟩ : ByteArray), (⟨#[98]⟩ : ByteArray), (⟨#[99]⟩ : ByteArray), (⟨#[100]⟩ : ByteArray), (⟨#[101, 101]⟩ : ByteArray), (⟨#[102, 102]⟩ : ByteArray)] : List ByteArray))), []⟩ := by
 refine kMt hmix diwanplay_keys.O Try.f33 bd33 0 ?_
 unfold diwanplay_keys at h
 refine kRs 0 [] [] .n ?_
 refine kRs 0 [Tm 0 (.data (.slc true (some false) 1 (List.map e_s ([(⟨#[97]⟩ : ByteArray), (⟨#[98]⟩ : ByteArray), (⟨#[99]⟩ : ByteArray), (⟨#[100]⟩ : ByteArray), (⟨#[101, 101]⟩ : ByteArray), (⟨#[102, 102]⟩ : ByteArray)] : List ByteArray))))] [] .n ?_
 refine kRt ?_
 cases some_inj h
 exact kFr
def bd26 : Code := (Try.f26.body).getD .skip
def diwanplay_Picks_Keys.O : Nat → Nat := fun t => bif ([4, 5, 6, 7, 8, 32] : List Nat).any (Nat.beq t) then 1 else 0
def diwanplay_Picks_Keys.lp6 (fu : Nat) (l6_0 : Int) (l6_3 : List ByteArray) (l6_5 : TPicks) : Nat → (List ByteArray) → Int → Int → Option (List ByteArray)
  | 0, _, _, _ => none
  | n_ + 1, l6_1, l6_2, l6_4 =>
  br (decide (l6_4 < (l6_3.length : Int)))
   (br (decide ((l6_1.length : Int) < l6_0))
    (br ((Int.tmod l6_2 2) == 1)
     (ix l6_3 l6_4 fun x11_1 =>
     gd (decide (l6_1.length + ([x11_1] : List ByteArray).length ≤ 4294967296)) <|
     diwanplay_Picks_Keys.lp6 fu l6_0 l6_3 l6_5 n_ (l6_1 ++ ([x11_1] : List ByteArray)) (w64 (Int.tdiv l6_2 2)) (w64 (l6_4 + 1)))
     (diwanplay_Picks_Keys.lp6 fu l6_0 l6_3 l6_5 n_ l6_1 (w64 (Int.tdiv l6_2 2)) (w64 (l6_4 + 1))))
    (some l6_1))
   (some l6_1)
def diwanplay_Picks_Keys.lp6_post (l6_0 : Int) (l6_3 : List ByteArray) (l6_5 : TPicks) (r_ : (List ByteArray)) : Wy → St → Prop := fun e τ => match r_ with
  | y0 => e = .exit 0 ∧ τ = ofL [Tm 5 (sO 1 e_s y0), Ob 1000 [sS 1 e_u8 l6_5.l, iv l6_5.n]]
theorem diwanplay_Picks_Keys.lp6_ok (fu : Nat) (l6_0 : Int) (l6_3 : List ByteArray) (l6_5 : TPicks) : ∀ (n_ : Nat) (l6_1 : List ByteArray) (l6_2 : Int) (l6_4 : Int) (r_ : (List ByteArray)), diwanplay_Picks_Keys.lp6 fu l6_0 l6_3 l6_5 n_ l6_1 l6_2 l6_4 = some r_ → WK Try.prog diwanplay_Picks_Keys.O (Ck Try.prog) (cB (cR (cL (cR (cR (cR (cR bd26))))))) [] (ofL [Tm 1 (iv l6_0), Tm 5 (sO 1 e_s l6_1), Tm 6 (iv l6_2), Tm 7 (.data (.slc true (some false) 1 (List.map e_s l6_3))), Tm 8 (iv l6_4), Ob 1000 [sS 1 e_u8 l6_5.l, iv l6_5.n]]) (diwanplay_Picks_Keys.lp6_post l6_0 l6_3 l6_5 r_) := by
 intro n_
 induction n_ with
 | zero => intro l6_1 l6_2 l6_4 r_ h; exact no_none h
 | succ n_ ih =>
  intro l6_1 l6_2 l6_4 r_ h
  refine kLp ?_
  refine kSq ?_
  rcases br_inv h with ⟨b7_1, h⟩ | ⟨b7_1, h⟩
  ·refine kRs 63 [Tm 21 (bv (decide ((l6_1.length : Int) < l6_0)))] [.s (.t 14) [iv (l6_3.length : Int)], .b true, .b true, .s (.t 18) [iv (l6_1.length : Int)], .b true, .b true, .b true] (.c (c_len (e := e_s) (l := l6_3)) (.r 2 b7_1 (.c (c_len (e := e_s) (l := l6_1)) (.r 3 b7_1 .n)))) ?_
   rcases br_inv h with ⟨b8_0, h⟩ | ⟨b8_0, h⟩
   ·refine kCt b8_0 ?_
    refine kSk ?_
    refine kCd (cR (cB (cB (cR (cL (cR (cR (cR (cR bd26))))))))) [.lp (cB (cR (cL (cR (cR (cR (cR bd26)))))))] ?_
    refine kSq ?_
    refine kBk 1 ?_
    refine kSq ?_
    refine kRs 126 [Tm 26 (bv ((Int.tmod l6_2 2) == 1))] [] (.c rT .n) ?_
    rcases br_inv h with ⟨b10_0, h⟩ | ⟨b10_0, h⟩
    ·refine kCt b10_0 ?_
     obtain ⟨x11_1, a11_2, e11_3, h⟩ := ix_inv h
     obtain ⟨c11_4, h⟩ := gd_inv h
     refine kRc 122 [Tm 5 (sO 1 e_s (l6_1 ++ ([x11_1] : List ByteArray)))] [.c (e_s x11_1), .s (.t 33) [sO 1 e_s (l6_1 ++ ([x11_1] : List ByteArray))]] (.c (c_ix (e := e_s) a11_2 e11_3) (.c (c_el (e := e_s) e11_3) (.c (c_al (e := e_s) (f := e_s) c11_4) (.c (congrArg (fun d : DV => [AV.data d]) (c_app (e := e_s) (s := 1) (l := l6_1) (m := ([x11_1] : List ByteArray)))) .n)))) (cR (cB (cL (cR (cB (cB (cR (cL (cR (cR (cR (cR bd26)))))))))))) [.blk 1, .seq (cR (cR (cB (cB (cR (cL (cR (cR (cR (cR bd26)))))))))), .lp (cB (cR (cL (cR (cR (cR (cR bd26)))))))] ?_
     refine kRc 59 [Tm 6 (iv (w64 (Int.tdiv l6_2 2)))] [] (.c rT .n) (cR (cR (cB (cB (cR (cL (cR (cR (cR (cR bd26)))))))))) [.lp (cB (cR (cL (cR (cR (cR (cR bd26)))))))] ?_
     refine kRc 47 [Tm 8 (iv (w64 (l6_4 + 1)))] [] .n (cB (cR (cL (cR (cR (cR (cR bd26))))))) [] ?_
     exact kWk (ih (l6_1 ++ ([x11_1] : List ByteArray)) (w64 (Int.tdiv l6_2 2)) (w64 (l6_4 + 1)) _ h)
    ·refine kCe b10_0 ?_
     refine kSk ?_
     refine kCd (cR (cB (cL (cR (cB (cB (cR (cL (cR (cR (cR (cR bd26)))))))))))) [.blk 1, .seq (cR (cR (cB (cB (cR (cL (cR (cR (cR (cR bd26)))))))))), .lp (cB (cR (cL (cR (cR (cR (cR bd26)))))))] ?_
     refine kRc 118 [Tm 6 (iv (w64 (Int.tdiv l6_2 2)))] [] (.c rT .n) (cR (cR (cB (cB (cR (cL (cR (cR (cR (cR bd26)))))))))) [.lp (cB (cR (cL (cR (cR (cR (cR bd26)))))))] ?_
     refine kRc 47 [Tm 8 (iv (w64 (l6_4 + 1)))] [] .n (cB (cR (cL (cR (cR (cR (cR bd26))))))) [] ?_
     exact kWk (ih l6_1 (w64 (Int.tdiv l6_2 2)) (w64 (l6_4 + 1)) _ h)
   ·refine kCe b8_0 ?_
    cases some_inj h
    refine kWo ?_
    refine kXt 0 ?_
    exact kOut
  ·refine kRs 63 [Tm 21 (bv false)] (.s (.t 14) [iv (l6_3.length : Int)] :: (rp 5 (.b false) [])) (.c (c_len (e := e_s) (l := l6_3)) (.r 5 b7_1 .n)) ?_
   refine kCe rF ?_
   cases some_inj h
   refine kWo ?_
   refine kXt 0 ?_
   exact kOut
def diwanplay_Picks_Keys (fu : Nat) (most : Int) (o0_v : TPicks) : Option (List ByteArray × TPicks) :=
 bd (diwanplay_Picks_Num 64 o0_v) fun (r3_1, r3_2) =>
 bd (diwanplay_keys) fun _ =>
 bd (diwanplay_Picks_Keys.lp6 fu most ([(⟨#[97]⟩ : ByteArray), (⟨#[98]⟩ : ByteArray), (⟨#[99]⟩ : ByteArray), (⟨#[100]⟩ : ByteArray), (⟨#[101, 101]⟩ : ByteArray), (⟨#[102, 102]⟩ : ByteArray)] : List ByteArray) r3_2 fu [] r3_1 0) fun y16_0 =>
 some (y16_0, r3_2)
theorem diwanplay_Picks_Keys.meets (fu : Nat) (most : Int) (o0_v : TPicks) (z0 : List ByteArray) (z1 : TPicks) (h : diwanplay_Picks_Keys fu most o0_v = some (z0, z1)) : Meets Try.prog ⟨26, [.ptr 1000 0, iv most], [[sS 1 e_u8 o0_v.l, iv o0_v.n]]⟩ ⟨sO 1 e_s z0, [[sS 1 e_u8 z1.l, iv z1.n]]⟩ := by
 refine kMt hmix diwanplay_Picks_Keys.O Try.f26 bd26 7 ?_
 unfold diwanplay_Picks_Keys at h
 refine kRs 7 [] [] .n ?_
 refine kRs 7 [Tm 5 (.data (.slc true (some true) 1 (List.map e_s [])))] [] .n ?_
 obtain ⟨⟨r3_1, r3_2⟩, h3_3, h⟩ := bd_inv h
 refine kRs 5 [Tm 6 (iv r3_1), Ob 1000 [sS 1 e_u8 r3_2.l, iv r3_2.n]] [.a ⟨iv r3_1, [[sS 1 e_u8 r3_2.l, iv r3_2.n]]⟩] (.c (aoM (diwanplay_Picks_Num.meets 64 o0_v _ _ h3_3)) .n) ?_
 obtain ⟨_, h4_1, h⟩ := bd_inv h
 refine kRs 15 [Tm 7 (.data (.slc true (some false) 1 (List.map e_s ([(⟨#[97]⟩ : ByteArray), (⟨#[98]⟩ : ByteArray), (⟨#[99]⟩ : ByteArray), (⟨#[100]⟩ : ByteArray), (⟨#[101, 101]⟩ : ByteArray), (⟨#[102, 102]⟩ : ByteArray)] : List ByteArray))))] [.a ⟨.data (.slc true (some false) 1 (List.map e_s ([(⟨#[97]⟩ : ByteArray), (⟨#[98]⟩ : ByteArray), (⟨#[99]⟩ : ByteArray), (⟨#[100]⟩ : ByteArray), (⟨#[101, 101]⟩ : ByteArray), (⟨#[102, 102]⟩ : ByteArray)] : List ByteArray))), []⟩] (.c (aoM (diwanplay_keys.meets  h4_1)) .n) ?_
 refine kSq ?_
 refine kRs 31 [Tm 8 (iv 0)] [] .n ?_
 refine kBk 0 ?_
 obtain ⟨o16, ho16, h⟩ := bd_inv h
 refine kUs (diwanplay_Picks_Keys.lp6_ok fu most ([(⟨#[97]⟩ : ByteArray), (⟨#[98]⟩ : ByteArray), (⟨#[99]⟩ : ByteArray), (⟨#[100]⟩ : ByteArray), (⟨#[101, 101]⟩ : ByteArray), (⟨#[102, 102]⟩ : ByteArray)] : List ByteArray) r3_2 _ [] r3_1 0 _ ho16) ?_
 intro e_ τ_ hp_
 obtain ⟨y16_0, rfl⟩ : ∃ y, y = o16 := ⟨_, rfl⟩
 obtain ⟨rfl, rfl⟩ := hp_
 refine kCd (cR (cR (cR (cR (cR bd26))))) [] ?_
 refine kRs 2 [Tm 4 (sO 1 e_s y16_0)] [] .n ?_
 refine kRt ?_
 have h_0 := some_inj h
 obtain ⟨g_1, h_1⟩ := Prod.mk.inj h_0
 subst g_1
 subst h_1
 exact kFr
def bd27 : Code := (Try.f27.body).getD .skip
def diwanplay_Picks_Val.O : Nat → Nat := fun t => bif ([2, 3] : List Nat).any (Nat.beq t) then 1 else 0
def diwanplay_Picks_Val (o0_v : TPicks) : Option (ByteArray × TPicks) :=
 bd (diwanplay_Picks_Num 5 o0_v) fun (r2_1, r2_2) =>
 ix ([ByteArray.empty, (⟨#[118]⟩ : ByteArray), (⟨#[119]⟩ : ByteArray), (⟨#[120, 120]⟩ : ByteArray), (⟨#[115, 105, 120, 116, 101, 101, 110, 45, 98, 121, 116, 101, 115, 45, 111, 107]⟩ : ByteArray)] : List ByteArray) r2_1 fun x2_4 =>
 some (x2_4, r2_2)
theorem diwanplay_Picks_Val.meets (o0_v : TPicks) (z0 : ByteArray) (z1 : TPicks) (h : diwanplay_Picks_Val o0_v = some (z0, z1)) : Meets Try.prog ⟨27, [.ptr 1000 0], [[sS 1 e_u8 o0_v.l, iv o0_v.n]]⟩ ⟨sv z0, [[sS 1 e_u8 z1.l, iv z1.n]]⟩ := by
 refine kMt hmix diwanplay_Picks_Val.O Try.f27 bd27 3 ?_
 unfold diwanplay_Picks_Val at h
 refine kRs 3 [] [] .n ?_
 obtain ⟨⟨r2_1, r2_2⟩, h2_3, h⟩ := bd_inv h
 obtain ⟨x2_4, a2_5, e2_6, h⟩ := ix_inv h
 refine kRs 0 [Tm 2 (sv x2_4), Ob 1000 [sS 1 e_u8 r2_2.l, iv r2_2.n]] [.a ⟨iv r2_1, [[sS 1 e_u8 r2_2.l, iv r2_2.n]]⟩, .c (e_s x2_4)] (.c (aoM (diwanplay_Picks_Num.meets 5 o0_v _ _ h2_3)) (.c (c_ix (e := e_s) a2_5 e2_6) (.c (c_el (e := e_s) e2_6) .n))) ?_
 refine kRt ?_
 have h_0 := some_inj h
 obtain ⟨g_1, h_1⟩ := Prod.mk.inj h_0
 subst g_1
 subst h_1
 exact kFr
def bd19 : Code := (Try.f19.body).getD .skip
def diwanplay_Picks_Txn.O : Nat → Nat := fun t => bif ([4, 5, 6, 7, 8, 9, 10, 11, 18, 35, 45, 51, 52, 68, 77, 78, 80] : List Nat).any (Nat.beq t) then 1 else 0
def diwanplay_Picks_Txn.lp5 (fu : Nat) (l5_0 : Int) (l5_1 : List ByteArray) (l5_3 : TTxn) : Nat → Int → TTxn → TPicks → Option (TTxn × TPicks)
  | 0, _, _, _ => none
  | n_ + 1, l5_2, l5_4, l5_5 =>
  br (decide (l5_2 < (l5_1.length : Int)))
   (ix l5_1 l5_2 fun x8_1 =>
   bd (diwanplay_Picks_Num (if l5_0 < 1 then 1 else l5_0) l5_5) fun (r8_4, r8_5) =>
   jn (fun (j12_5 : TRead) (j12_6 : TPicks) =>
    gd (decide (l5_4.Reads.length + ([j12_5] : List TRead).length ≤ 4294967296)) <|
    diwanplay_Picks_Txn.lp5 fu l5_0 l5_1 l5_3 n_ (w64 (l5_2 + 1)) (TTxn.mk l5_4.Session l5_4.Seq (l5_4.Reads ++ ([j12_5] : List TRead)) l5_4.Writes) j12_6) fun k12 =>
   br (decide (r8_4 > 0))
    (bd (diwanplay_Picks_Num 4 r8_5) fun (r9_2, r9_3) =>
    br (decide (r9_2 > 0))
     (bd (diwanplay_Picks_Val r9_3) fun (r11_1, r11_2) =>
     k12 (TRead.mk x8_1 r8_4 r11_1 true) r11_2)
     (k12 (TRead.mk x8_1 r8_4 ByteArray.empty false) r9_3))
    (k12 (TRead.mk x8_1 r8_4 ByteArray.empty false) r8_5))
   (some (l5_4, l5_5))
def diwanplay_Picks_Txn.lp5_post (l5_0 : Int) (l5_1 : List ByteArray) (l5_3 : TTxn) (r_ : (TTxn × TPicks)) : Wy → St → Prop := fun e τ => match r_ with
  | (y0, y1) => e = .exit 0 ∧ τ = ofL [Tm 0 (.ptr 1000 0), Tm 4 (.ptr 4 0), Tm 5 (.ptr 5 0), Ob 4 (TTxn.ob_0011 l5_3), Ob 5 (TTxn.ob_0011 y0), Ob 1000 [sS 1 e_u8 y1.l, iv y1.n]]
theorem diwanplay_Picks_Txn.lp5_ok (fu : Nat) (l5_0 : Int) (l5_1 : List ByteArray) (l5_3 : TTxn) : ∀ (n_ : Nat) (l5_2 : Int) (l5_4 : TTxn) (l5_5 : TPicks) (r_ : (TTxn × TPicks)), diwanplay_Picks_Txn.lp5 fu l5_0 l5_1 l5_3 n_ l5_2 l5_4 l5_5 = some r_ → WK Try.prog diwanplay_Picks_Txn.O (Ck Try.prog) (cB (cR (cL (cR (cR (cR bd19)))))) [] (ofL [Tm 0 (.ptr 1000 0), Tm 1 (iv l5_0), Tm 4 (.ptr 4 0), Tm 5 (.ptr 5 0), Tm 6 (sO 1 e_s l5_1), Tm 7 (iv l5_2), Ob 4 (TTxn.ob_0011 l5_3), Ob 5 (TTxn.ob_0011 l5_4), Ob 1000 [sS 1 e_u8 l5_5.l, iv l5_5.n]]) (diwanplay_Picks_Txn.lp5_post l5_0 l5_1 l5_3 r_) := by
 intro n_
 induction n_ with
 | zero => intro l5_2 l5_4 l5_5 r_ h; exact no_none h
 | succ n_ ih =>
  intro l5_2 l5_4 l5_5 r_ h
  refine kLp ?_
  refine kSq ?_
  refine kRs 511 [Tm 24 (bv (decide (l5_2 < (l5_1.length : Int))))] [.s (.t 23) [iv (l5_1.length : Int)]] (.c (c_len (e := e_s) (l := l5_1)) .n) ?_
  rcases br_inv h with ⟨b7_0, h⟩ | ⟨b7_0, h⟩
  ·refine kCt b7_0 ?_
   refine kSk ?_
   refine kCd (cR (cB (cB (cR (cL (cR (cR (cR bd19)))))))) [.lp (cB (cR (cL (cR (cR (cR bd19))))))] ?_
   refine kSq ?_
   refine kBk 1 ?_
   obtain ⟨x8_1, a8_2, e8_3, h⟩ := ix_inv h
   obtain ⟨⟨r8_4, r8_5⟩, h8_6, h⟩ := bd_inv h
   refine kRs 510 [Tm 8 (.ptr 8 0), Ob 8 (TRead.ob (TRead.mk x8_1 r8_4 ByteArray.empty false)), Ob 1000 [sS 1 e_u8 r8_5.l, iv r8_5.n]] [.c (e_s x8_1), .a ⟨iv r8_4, [[sS 1 e_u8 r8_5.l, iv r8_5.n]]⟩] (.c (c_ix (e := e_s) a8_2 e8_3) (.c (c_el (e := e_s) e8_3) (.c (aoM (diwanplay_Picks_Num.meets (if l5_0 < 1 then 1 else l5_0) l5_5 _ _ h8_6)) (.c rT .n)))) ?_
   obtain ⟨k12, hk12, h⟩ := jn_inv h
   have Jk12 : ∀ (j12_5 : TRead) (j12_6 : TPicks), k12 j12_5 j12_6 = some r_ → WK Try.prog diwanplay_Picks_Txn.O (Ck Try.prog) (cR (cR (cB (cL (cR (cB (cB (cR (cL (cR (cR (cR bd19)))))))))))) [.blk 1, .seq (cR (cR (cB (cB (cR (cL (cR (cR (cR bd19))))))))), .lp (cB (cR (cL (cR (cR (cR bd19))))))] (ofL [Tm 0 (.ptr 1000 0), Tm 1 (iv l5_0), Tm 4 (.ptr 4 0), Tm 5 (.ptr 5 0), Tm 6 (sO 1 e_s l5_1), Tm 7 (iv l5_2), Tm 8 (.ptr 8 0), Ob 4 (TTxn.ob_0011 l5_3), Ob 5 (TTxn.ob_0011 l5_4), Ob 8 (TRead.ob j12_5), Ob 1000 [sS 1 e_u8 j12_6.l, iv j12_6.n]]) (diwanplay_Picks_Txn.lp5_post l5_0 l5_1 l5_3 r_) := by
    intro j12_5 j12_6 h
    rw [hk12] at h
    obtain ⟨c13_1, h⟩ := gd_inv h
    refine kRc 1215 [Ob 5 (TTxn.ob_0011 (TTxn.mk l5_4.Session l5_4.Seq (l5_4.Reads ++ ([j12_5] : List TRead)) l5_4.Writes))] [.s (.t 52) [sO 4 TRead.en (l5_4.Reads ++ ([j12_5] : List TRead))]] (.c (c_al (e := TRead.en) (f := TRead.en) c13_1) (.c (congrArg (fun d : DV => [AV.data d]) (c_app (e := TRead.en) (s := 4) (l := l5_4.Reads) (m := ([j12_5] : List TRead)))) .n)) (cR (cR (cB (cB (cR (cL (cR (cR (cR bd19))))))))) [.lp (cB (cR (cL (cR (cR (cR bd19))))))] ?_
    refine kRc 447 [Tm 7 (iv (w64 (l5_2 + 1)))] [] .n (cB (cR (cL (cR (cR (cR bd19)))))) [] ?_
    exact kWk (ih (w64 (l5_2 + 1)) (TTxn.mk l5_4.Session l5_4.Seq (l5_4.Reads ++ ([j12_5] : List TRead)) l5_4.Writes) j12_6 _ h)
   clear hk12
   refine kSq ?_
   rcases br_inv h with ⟨b9_1, h⟩ | ⟨b9_1, h⟩
   ·obtain ⟨⟨r9_2, r9_3⟩, h9_4, h⟩ := bd_inv h
    refine kRs 2043 [Tm 43 (bv (decide (r9_2 > 0))), Ob 1000 [sS 1 e_u8 r9_3.l, iv r9_3.n]] [.b true, .b true, .a ⟨iv r9_2, [[sS 1 e_u8 r9_3.l, iv r9_3.n]]⟩, .b true, .b true] (.r 2 b9_1 (.c (aoM (diwanplay_Picks_Num.meets 4 r8_5 _ _ h9_4)) (.r 2 b9_1 .n))) ?_
    rcases br_inv h with ⟨b10_0, h⟩ | ⟨b10_0, h⟩
    ·refine kCt b10_0 ?_
     obtain ⟨⟨r11_1, r11_2⟩, h11_3, h⟩ := bd_inv h
     refine kRc 4084 [Ob 8 (TRead.ob (TRead.mk x8_1 r8_4 r11_1 true)), Ob 1000 [sS 1 e_u8 r11_2.l, iv r11_2.n]] [.a ⟨sv r11_1, [[sS 1 e_u8 r11_2.l, iv r11_2.n]]⟩] (.c (aoM (diwanplay_Picks_Val.meets r9_3 _ _ h11_3)) .n) (cR (cR (cB (cL (cR (cB (cB (cR (cL (cR (cR (cR bd19)))))))))))) [.blk 1, .seq (cR (cR (cB (cB (cR (cL (cR (cR (cR bd19))))))))), .lp (cB (cR (cL (cR (cR (cR bd19))))))] ?_
     exact kWk (Jk12 (TRead.mk x8_1 r8_4 r11_1 true) r11_2 h)
    ·refine kCe b10_0 ?_
     refine kSk ?_
     refine kCd (cR (cR (cB (cL (cR (cB (cB (cR (cL (cR (cR (cR bd19)))))))))))) [.blk 1, .seq (cR (cR (cB (cB (cR (cL (cR (cR (cR bd19))))))))), .lp (cB (cR (cL (cR (cR (cR bd19))))))] ?_
     exact kWk (Jk12 (TRead.mk x8_1 r8_4 ByteArray.empty false) r9_3 h)
   ·refine kRs 2047 [Tm 43 (bv false)] (rp 4 (.b false) []) (.r 4 b9_1 .n) ?_
    refine kCe rF ?_
    refine kSk ?_
    refine kCd (cR (cR (cB (cL (cR (cB (cB (cR (cL (cR (cR (cR bd19)))))))))))) [.blk 1, .seq (cR (cR (cB (cB (cR (cL (cR (cR (cR bd19))))))))), .lp (cB (cR (cL (cR (cR (cR bd19))))))] ?_
    exact kWk (Jk12 (TRead.mk x8_1 r8_4 ByteArray.empty false) r8_5 h)
  ·refine kCe b7_0 ?_
   cases some_inj h
   refine kWo ?_
   refine kXt 0 ?_
   exact kOut
def diwanplay_Picks_Txn.lp18 (fu : Nat) (l18_0 : List ByteArray) (l18_2 : TTxn) : Nat → Int → TTxn → TPicks → Option (TTxn × TPicks)
  | 0, _, _, _ => none
  | n_ + 1, l18_1, l18_3, l18_4 =>
  br (decide (l18_1 < (l18_0.length : Int)))
   (ix l18_0 l18_1 fun x21_1 =>
   bd (diwanplay_Picks_Val l18_4) fun (r21_4, r21_5) =>
   jn (fun (j25_4 : TWrite) (j25_5 : TPicks) =>
    gd (decide (l18_3.Writes.length + ([j25_4] : List TWrite).length ≤ 4294967296)) <|
    diwanplay_Picks_Txn.lp18 fu l18_0 l18_2 n_ (w64 (l18_1 + 1)) (TTxn.mk l18_3.Session l18_3.Seq l18_3.Reads (l18_3.Writes ++ ([j25_4] : List TWrite))) j25_5) fun k25 =>
   bd (diwanplay_Picks_Num 4 r21_5) fun (r22_1, r22_2) =>
   br (r22_1 == 0)
    (k25 (TWrite.mk x21_1 ByteArray.empty true) r22_2)
    (k25 (TWrite.mk x21_1 r21_4 false) r22_2))
   (some (l18_3, l18_4))
def diwanplay_Picks_Txn.lp18_post (l18_0 : List ByteArray) (l18_2 : TTxn) (r_ : (TTxn × TPicks)) : Wy → St → Prop := fun e τ => match r_ with
  | (y0, y1) => e = .exit 2 ∧ τ = ofL [Tm 4 (.ptr 4 0), Tm 5 (.ptr 5 0), Ob 4 (TTxn.ob_0011 l18_2), Ob 5 (TTxn.ob_0011 y0), Ob 1000 [sS 1 e_u8 y1.l, iv y1.n]]
theorem diwanplay_Picks_Txn.lp18_ok (fu : Nat) (l18_0 : List ByteArray) (l18_2 : TTxn) : ∀ (n_ : Nat) (l18_1 : Int) (l18_3 : TTxn) (l18_4 : TPicks) (r_ : (TTxn × TPicks)), diwanplay_Picks_Txn.lp18 fu l18_0 l18_2 n_ l18_1 l18_3 l18_4 = some r_ → WK Try.prog diwanplay_Picks_Txn.O (Ck Try.prog) (cB (cR (cL (cR (cR (cR (cR (cR bd19)))))))) [] (ofL [Tm 0 (.ptr 1000 0), Tm 4 (.ptr 4 0), Tm 5 (.ptr 5 0), Tm 9 (sO 1 e_s l18_0), Tm 10 (iv l18_1), Ob 4 (TTxn.ob_0011 l18_2), Ob 5 (TTxn.ob_0011 l18_3), Ob 1000 [sS 1 e_u8 l18_4.l, iv l18_4.n]]) (diwanplay_Picks_Txn.lp18_post l18_0 l18_2 r_) := by
 intro n_
 induction n_ with
 | zero => intro l18_1 l18_3 l18_4 r_ h; exact no_none h
 | succ n_ ih =>
  intro l18_1 l18_3 l18_4 r_ h
  refine kLp ?_
  refine kSq ?_
  refine kRs 255 [Tm 59 (bv (decide (l18_1 < (l18_0.length : Int))))] [.s (.t 58) [iv (l18_0.length : Int)]] (.c (c_len (e := e_s) (l := l18_0)) .n) ?_
  rcases br_inv h with ⟨b20_0, h⟩ | ⟨b20_0, h⟩
  ·refine kCt b20_0 ?_
   refine kSk ?_
   refine kCd (cR (cB (cB (cR (cL (cR (cR (cR (cR (cR bd19)))))))))) [.lp (cB (cR (cL (cR (cR (cR (cR (cR bd19))))))))] ?_
   refine kSq ?_
   refine kBk 3 ?_
   obtain ⟨x21_1, a21_2, e21_3, h⟩ := ix_inv h
   obtain ⟨⟨r21_4, r21_5⟩, h21_6, h⟩ := bd_inv h
   refine kRs 254 [Tm 11 (.ptr 11 0), Ob 11 (TWrite.ob (TWrite.mk x21_1 r21_4 false)), Ob 1000 [sS 1 e_u8 r21_5.l, iv r21_5.n]] [.c (e_s x21_1), .a ⟨sv r21_4, [[sS 1 e_u8 r21_5.l, iv r21_5.n]]⟩] (.c (c_ix (e := e_s) a21_2 e21_3) (.c (c_el (e := e_s) e21_3) (.c (aoM (diwanplay_Picks_Val.meets l18_4 _ _ h21_6)) (.c rT .n)))) ?_
   obtain ⟨k25, hk25, h⟩ := jn_inv h
   have Jk25 : ∀ (j25_4 : TWrite) (j25_5 : TPicks), k25 j25_4 j25_5 = some r_ → WK Try.prog diwanplay_Picks_Txn.O (Ck Try.prog) (cR (cR (cB (cL (cR (cB (cB (cR (cL (cR (cR (cR (cR (cR bd19)))))))))))))) [.blk 3, .seq (cR (cR (cB (cB (cR (cL (cR (cR (cR (cR (cR bd19))))))))))), .lp (cB (cR (cL (cR (cR (cR (cR (cR bd19))))))))] (ofL [Tm 0 (.ptr 1000 0), Tm 4 (.ptr 4 0), Tm 5 (.ptr 5 0), Tm 9 (sO 1 e_s l18_0), Tm 10 (iv l18_1), Tm 11 (.ptr 11 0), Ob 4 (TTxn.ob_0011 l18_2), Ob 5 (TTxn.ob_0011 l18_3), Ob 11 (TWrite.ob j25_4), Ob 1000 [sS 1 e_u8 j25_5.l, iv j25_5.n]]) (diwanplay_Picks_Txn.lp18_post l18_0 l18_2 r_) := by
    intro j25_4 j25_5 h
    rw [hk25] at h
    obtain ⟨c26_1, h⟩ := gd_inv h
    refine kRc 607 [Ob 5 (TTxn.ob_0011 (TTxn.mk l18_3.Session l18_3.Seq l18_3.Reads (l18_3.Writes ++ ([j25_4] : List TWrite))))] [.s (.t 78) [sO 3 TWrite.en (l18_3.Writes ++ ([j25_4] : List TWrite))]] (.c (c_al (e := TWrite.en) (f := TWrite.en) c26_1) (.c (congrArg (fun d : DV => [AV.data d]) (c_app (e := TWrite.en) (s := 3) (l := l18_3.Writes) (m := ([j25_4] : List TWrite)))) .n)) (cR (cR (cB (cB (cR (cL (cR (cR (cR (cR (cR bd19))))))))))) [.lp (cB (cR (cL (cR (cR (cR (cR (cR bd19))))))))] ?_
    refine kRc 223 [Tm 10 (iv (w64 (l18_1 + 1)))] [] .n (cB (cR (cL (cR (cR (cR (cR (cR bd19)))))))) [] ?_
    exact kWk (ih (w64 (l18_1 + 1)) (TTxn.mk l18_3.Session l18_3.Seq l18_3.Reads (l18_3.Writes ++ ([j25_4] : List TWrite))) j25_5 _ h)
   clear hk25
   refine kSq ?_
   obtain ⟨⟨r22_1, r22_2⟩, h22_3, h⟩ := bd_inv h
   refine kRs 1019 [Tm 71 (bv (r22_1 == 0)), Ob 1000 [sS 1 e_u8 r22_2.l, iv r22_2.n]] [.a ⟨iv r22_1, [[sS 1 e_u8 r22_2.l, iv r22_2.n]]⟩] (.c (aoM (diwanplay_Picks_Num.meets 4 r21_5 _ _ h22_3)) .n) ?_
   rcases br_inv h with ⟨b23_0, h⟩ | ⟨b23_0, h⟩
   ·refine kCt b23_0 ?_
    refine kRc 2038 [Ob 11 (TWrite.ob (TWrite.mk x21_1 ByteArray.empty true))] [] .n (cR (cR (cB (cL (cR (cB (cB (cR (cL (cR (cR (cR (cR (cR bd19)))))))))))))) [.blk 3, .seq (cR (cR (cB (cB (cR (cL (cR (cR (cR (cR (cR bd19))))))))))), .lp (cB (cR (cL (cR (cR (cR (cR (cR bd19))))))))] ?_
    exact kWk (Jk25 (TWrite.mk x21_1 ByteArray.empty true) r22_2 h)
   ·refine kCe b23_0 ?_
    refine kSk ?_
    refine kCd (cR (cR (cB (cL (cR (cB (cB (cR (cL (cR (cR (cR (cR (cR bd19)))))))))))))) [.blk 3, .seq (cR (cR (cB (cB (cR (cL (cR (cR (cR (cR (cR bd19))))))))))), .lp (cB (cR (cL (cR (cR (cR (cR (cR bd19))))))))] ?_
    exact kWk (Jk25 (TWrite.mk x21_1 r21_4 false) r22_2 h)
  ·refine kCe b20_0 ?_
   cases some_inj h
   refine kWo ?_
   refine kXt 2 ?_
   exact kOut
def diwanplay_Picks_Txn (fu : Nat) (most : Int) (o0_v : TPicks) : Option (TTxn × TPicks) :=
 bd (diwanplay_Picks_Num 3 o0_v) fun (r2_1, r2_2) =>
 bd (diwanplay_Picks_Num 6 r2_2) fun (r2_4, r2_5) =>
 bd (diwanplay_Picks_Keys fu 3 r2_5) fun (r3_1, r3_2) =>
 bd (diwanplay_Picks_Txn.lp5 fu most r3_1 (TTxn.mk 0 0 [] []) fu 0 (TTxn.mk (w64 (1 + r2_1)) (w64 (1 + r2_4)) [] []) r3_2) fun (y15_0, y15_1) =>
 bd (diwanplay_Picks_Keys fu 3 y15_1) fun (r16_1, r16_2) =>
 bd (diwanplay_Picks_Txn.lp18 fu r16_1 (TTxn.mk 0 0 [] []) fu 0 y15_0 r16_2) fun (y28_0, y28_1) =>
 some (y28_0, y28_1)
theorem diwanplay_Picks_Txn.meets (fu : Nat) (most : Int) (o0_v : TPicks) (z0 : TTxn) (z1 : TPicks) (h : diwanplay_Picks_Txn fu most o0_v = some (z0, z1)) : Meets Try.prog ⟨19, [.ptr 1000 0, iv most], [[sS 1 e_u8 o0_v.l, iv o0_v.n]]⟩ ⟨.data (TTxn.ag_0011 z0), [[sS 1 e_u8 z1.l, iv z1.n]]⟩ := by
 refine kMt hmix diwanplay_Picks_Txn.O Try.f19 bd19 7 ?_
 unfold diwanplay_Picks_Txn at h
 refine kRs 7 [Tm 4 (.ptr 4 0), Ob 4 (TTxn.ob_0011 (TTxn.mk 0 0 [] []))] [] .n ?_
 obtain ⟨⟨r2_1, r2_2⟩, h2_3, h⟩ := bd_inv h
 obtain ⟨⟨r2_4, r2_5⟩, h2_6, h⟩ := bd_inv h
 refine kRs 15 [Tm 5 (.ptr 5 0), Ob 5 (TTxn.ob_0011 (TTxn.mk (w64 (1 + r2_1)) (w64 (1 + r2_4)) [] [])), Ob 1000 [sS 1 e_u8 r2_5.l, iv r2_5.n]] [.a ⟨iv r2_1, [[sS 1 e_u8 r2_2.l, iv r2_2.n]]⟩, .a ⟨iv r2_4, [[sS 1 e_u8 r2_5.l, iv r2_5.n]]⟩] (.c (aoM (diwanplay_Picks_Num.meets 3 o0_v _ _ h2_3)) (.c (aoM (diwanplay_Picks_Num.meets 6 r2_2 _ _ h2_6)) .n)) ?_
 obtain ⟨⟨r3_1, r3_2⟩, h3_3, h⟩ := bd_inv h
 refine kRs 123 [Tm 6 (sO 1 e_s r3_1), Ob 1000 [sS 1 e_u8 r3_2.l, iv r3_2.n]] [.a ⟨sO 1 e_s r3_1, [[sS 1 e_u8 r3_2.l, iv r3_2.n]]⟩] (.c (aoM (diwanplay_Picks_Keys.meets fu 3 r2_5 _ _ h3_3)) .n) ?_
 refine kSq ?_
 refine kRs 255 [Tm 7 (iv 0)] [] .n ?_
 refine kBk 0 ?_
 obtain ⟨o15, ho15, h⟩ := bd_inv h
 refine kUs (diwanplay_Picks_Txn.lp5_ok fu most r3_1 (TTxn.mk 0 0 [] []) _ 0 (TTxn.mk (w64 (1 + r2_1)) (w64 (1 + r2_4)) [] []) r3_2 _ ho15) ?_
 intro e_ τ_ hp_
 obtain ⟨y15_0, y15_1⟩ := o15
 obtain ⟨rfl, rfl⟩ := hp_
 refine kCd (cR (cR (cR (cR bd19)))) [] ?_
 obtain ⟨⟨r16_1, r16_2⟩, h16_3, h⟩ := bd_inv h
 refine kRs 31 [Tm 9 (sO 1 e_s r16_1), Ob 1000 [sS 1 e_u8 r16_2.l, iv r16_2.n]] [.a ⟨sO 1 e_s r16_1, [[sS 1 e_u8 r16_2.l, iv r16_2.n]]⟩] (.c (aoM (diwanplay_Picks_Keys.meets fu 3 y15_1 _ _ h16_3)) .n) ?_
 refine kSq ?_
 refine kRs 127 [Tm 10 (iv 0)] [] .n ?_
 refine kBk 2 ?_
 obtain ⟨o28, ho28, h⟩ := bd_inv h
 refine kUs (diwanplay_Picks_Txn.lp18_ok fu r16_1 (TTxn.mk 0 0 [] []) _ 0 y15_0 r16_2 _ ho28) ?_
 intro e_ τ_ hp_
 obtain ⟨y28_0, y28_1⟩ := o28
 obtain ⟨rfl, rfl⟩ := hp_
 refine kCd (cR (cR (cR (cR (cR (cR bd19)))))) [] ?_
 refine kRs 17 [Ob 4 (TTxn.ob_0011 y28_0)] [] .n ?_
 refine kRt ?_
 have h_0 := some_inj h
 obtain ⟨g_1, h_1⟩ := Prod.mk.inj h_0
 subst g_1
 subst h_1
 exact kFr
def bd11 : Code := (Try.f11.body).getD .skip
def diwanplay_Picks_Txns.O : Nat → Nat := fun t => bif ([4, 5, 6, 7, 8, 9, 10, 18, 24, 43, 55, 81] : List Nat).any (Nat.beq t) then 1 else 0
def diwanplay_Picks_Txns.lp11 (fu : Nat) (l11_0 : Int) (l11_1 : List TTxn) (l11_2 : List (ByteArray × Int)) (l11_3 : Int) : Nat → Int → TTxn → TPicks → Option (TTxn × TPicks)
  | 0, _, _, _ => none
  | n_ + 1, l11_4, l11_5, l11_6 =>
  br (decide (l11_4 < (l11_5.Reads.length : Int)))
   (ix l11_5.Reads l11_4 fun x14_1 =>
   ix l11_5.Reads l11_4 fun x14_4 =>
   bd (diwanplay_Picks_Num 8 l11_6) fun (r15_1, r15_2) =>
   br (r15_1 == 0)
    (bd (diwanplay_Picks_Num (w64 (l11_3 + 1)) r15_2) fun (r17_1, r17_2) =>
    ix (l11_5.Reads.set l11_4.toNat (TRead.mk x14_4.Key ((alook eqS l11_2 x14_1.Key).getD 0) x14_4.Val x14_4.There)) l11_4 fun x17_4 =>
    diwanplay_Picks_Txns.lp11 fu l11_0 l11_1 l11_2 l11_3 n_ (w64 (l11_4 + 1)) (TTxn.mk l11_5.Session l11_5.Seq ((l11_5.Reads.set l11_4.toNat (TRead.mk x14_4.Key ((alook eqS l11_2 x14_1.Key).getD 0) x14_4.Val x14_4.There)).set l11_4.toNat (TRead.mk x17_4.Key r17_1 x17_4.Val x17_4.There)) l11_5.Writes) r17_2)
    (diwanplay_Picks_Txns.lp11 fu l11_0 l11_1 l11_2 l11_3 n_ (w64 (l11_4 + 1)) (TTxn.mk l11_5.Session l11_5.Seq (l11_5.Reads.set l11_4.toNat (TRead.mk x14_4.Key ((alook eqS l11_2 x14_1.Key).getD 0) x14_4.Val x14_4.There)) l11_5.Writes) r15_2))
   (some (l11_5, l11_6))
def diwanplay_Picks_Txns.lp11_post (l11_0 : Int) (l11_1 : List TTxn) (l11_2 : List (ByteArray × Int)) (l11_3 : Int) (r_ : (TTxn × TPicks)) : Wy → St → Prop := fun e τ => match r_ with
  | (y0, y1) => e = .exit 2 ∧ τ = ofL [Tm 0 (.ptr 1000 0), Tm 1 (iv l11_0), Tm 5 (sO 4 TTxn.en l11_1), Tm 6 (.data (.mp 1 (mpe kvS kvI l11_2))), Tm 7 (iv l11_3), Tm 8 (.ptr 8 0), Ob 8 (TTxn.ob_0011 y0), Ob 1000 [sS 1 e_u8 y1.l, iv y1.n]]
theorem diwanplay_Picks_Txns.lp11_ok (fu : Nat) (l11_0 : Int) (l11_1 : List TTxn) (l11_2 : List (ByteArray × Int)) (l11_3 : Int) : ∀ (n_ : Nat) (l11_4 : Int) (l11_5 : TTxn) (l11_6 : TPicks) (r_ : (TTxn × TPicks)), diwanplay_Picks_Txns.lp11 fu l11_0 l11_1 l11_2 l11_3 n_ l11_4 l11_5 l11_6 = some r_ → WK Try.prog diwanplay_Picks_Txns.O (Ck Try.prog) (cB (cR (cL (cR (cR (cB (cL (cR (cB (cB (cR (cL (cR (cR (cR bd11))))))))))))))) [] (ofL [Tm 0 (.ptr 1000 0), Tm 1 (iv l11_0), Tm 5 (sO 4 TTxn.en l11_1), Tm 6 (.data (.mp 1 (mpe kvS kvI l11_2))), Tm 7 (iv l11_3), Tm 8 (.ptr 8 0), Tm 9 (iv l11_4), Ob 8 (TTxn.ob_0011 l11_5), Ob 1000 [sS 1 e_u8 l11_6.l, iv l11_6.n]]) (diwanplay_Picks_Txns.lp11_post l11_0 l11_1 l11_2 l11_3 r_) := by
 intro n_
 induction n_ with
 | zero => intro l11_4 l11_5 l11_6 r_ h; exact no_none h
 | succ n_ ih =>
  intro l11_4 l11_5 l11_6 r_ h
  refine kLp ?_
  refine kSq ?_
  refine kRs 511 [Tm 30 (bv (decide (l11_4 < (l11_5.Reads.length : Int))))] [.s (.t 29) [iv (l11_5.Reads.length : Int)]] (.c (c_len (e := TRead.en) (l := l11_5.Reads)) .n) ?_
  rcases br_inv h with ⟨b13_0, h⟩ | ⟨b13_0, h⟩
  ·refine kCt b13_0 ?_
   refine kSk ?_
   refine kCd (cR (cB (cB (cR (cL (cR (cR (cB (cL (cR (cB (cB (cR (cL (cR (cR (cR bd11))))))))))))))))) [.lp (cB (cR (cL (cR (cR (cB (cL (cR (cB (cB (cR (cL (cR (cR (cR bd11)))))))))))))))] ?_
   refine kSq ?_
   refine kBk 3 ?_
   obtain ⟨x14_1, a14_2, e14_3, h⟩ := ix_inv h
   obtain ⟨x14_4, a14_5, e14_6, h⟩ := ix_inv h
   refine kRs 766 [Ob 8 (TTxn.ob_0011 (TTxn.mk l11_5.Session l11_5.Seq (l11_5.Reads.set l11_4.toNat (TRead.mk x14_4.Key ((alook eqS l11_2 x14_1.Key).getD 0) x14_4.Val x14_4.There)) l11_5.Writes))] [.c (TRead.en x14_1), .s (.t 43) [iv ((alook eqS l11_2 x14_1.Key).getD 0)], .c (TRead.en x14_4), .s (.o 8) (TTxn.ob_0011 (TTxn.mk l11_5.Session l11_5.Seq (l11_5.Reads.set l11_4.toNat (TRead.mk x14_4.Key ((alook eqS l11_2 x14_1.Key).getD 0) x14_4.Val x14_4.There)) l11_5.Writes))] (.c (c_ix (e := TRead.en) a14_2 e14_3) (.c (c_el (e := TRead.en) e14_3) (.c (c_mget (f := kvS) (g := kvI) (eq := eqS) (fun _ _ => rfl) (l := l11_2) (k := x14_1.Key) (z := 0)) (.c (c_ix (e := TRead.en) a14_5 e14_6) (.c (c_el (e := TRead.en) e14_6) (.c (congrArg (fun d : DV => (TTxn.ob_0011 (TTxn.mk l11_5.Session l11_5.Seq (l11_5.Reads.set l11_4.toNat (TRead.mk x14_4.Key ((alook eqS l11_2 x14_1.Key).getD 0) x14_4.Val x14_4.There)) l11_5.Writes)).set 2 (AV.data d)) (c_set (e := TRead.en) (s := 4) (nl := none) (l := l11_5.Reads) (i := l11_4.toNat) (x := (TRead.mk x14_4.Key ((alook eqS l11_2 x14_1.Key).getD 0) x14_4.Val x14_4.There)))) (.c rT .n))))))) ?_
   obtain ⟨⟨r15_1, r15_2⟩, h15_3, h⟩ := bd_inv h
   refine kRs 255 [Tm 48 (bv (r15_1 == 0)), Ob 1000 [sS 1 e_u8 r15_2.l, iv r15_2.n]] [.a ⟨iv r15_1, [[sS 1 e_u8 r15_2.l, iv r15_2.n]]⟩] (.c (aoM (diwanplay_Picks_Num.meets 8 l11_6 _ _ h15_3)) .n) ?_
   rcases br_inv h with ⟨b16_0, h⟩ | ⟨b16_0, h⟩
   ·refine kCt b16_0 ?_
    obtain ⟨⟨r17_1, r17_2⟩, h17_3, h⟩ := bd_inv h
    obtain ⟨x17_4, a17_5, e17_6, h⟩ := ix_inv h
    refine kRc 1016 [Ob 8 (TTxn.ob_0011 (TTxn.mk l11_5.Session l11_5.Seq ((l11_5.Reads.set l11_4.toNat (TRead.mk x14_4.Key ((alook eqS l11_2 x14_1.Key).getD 0) x14_4.Val x14_4.There)).set l11_4.toNat (TRead.mk x17_4.Key r17_1 x17_4.Val x17_4.There)) l11_5.Writes)), Ob 1000 [sS 1 e_u8 r17_2.l, iv r17_2.n]] [.a ⟨iv r17_1, [[sS 1 e_u8 r17_2.l, iv r17_2.n]]⟩, .c (TRead.en x17_4), .s (.o 8) (TTxn.ob_0011 (TTxn.mk l11_5.Session l11_5.Seq ((l11_5.Reads.set l11_4.toNat (TRead.mk x14_4.Key ((alook eqS l11_2 x14_1.Key).getD 0) x14_4.Val x14_4.There)).set l11_4.toNat (TRead.mk x17_4.Key r17_1 x17_4.Val x17_4.There)) l11_5.Writes))] (.c (aoM (diwanplay_Picks_Num.meets (w64 (l11_3 + 1)) r15_2 _ _ h17_3)) (.c (c_ix (e := TRead.en) a17_5 e17_6) (.c (c_el (e := TRead.en) e17_6) (.c (congrArg (fun d : DV => (TTxn.ob_0011 (TTxn.mk l11_5.Session l11_5.Seq ((l11_5.Reads.set l11_4.toNat (TRead.mk x14_4.Key ((alook eqS l11_2 x14_1.Key).getD 0) x14_4.Val x14_4.There)).set l11_4.toNat (TRead.mk x17_4.Key r17_1 x17_4.Val x17_4.There)) l11_5.Writes)).set 2 (AV.data d)) (c_set (e := TRead.en) (s := 4) (nl := none) (l := (l11_5.Reads.set l11_4.toNat (TRead.mk x14_4.Key ((alook eqS l11_2 x14_1.Key).getD 0) x14_4.Val x14_4.There))) (i := l11_4.toNat) (x := (TRead.mk x17_4.Key r17_1 x17_4.Val x17_4.There)))) (.c rT .n))))) (cR (cR (cB (cB (cR (cL (cR (cR (cB (cL (cR (cB (cB (cR (cL (cR (cR (cR bd11)))))))))))))))))) [.lp (cB (cR (cL (cR (cR (cB (cL (cR (cB (cB (cR (cL (cR (cR (cR bd11)))))))))))))))] ?_
    refine kRc 255 [Tm 9 (iv (w64 (l11_4 + 1)))] [] .n (cB (cR (cL (cR (cR (cB (cL (cR (cB (cB (cR (cL (cR (cR (cR bd11))))))))))))))) [] ?_
    exact kWk (ih (w64 (l11_4 + 1)) (TTxn.mk l11_5.Session l11_5.Seq ((l11_5.Reads.set l11_4.toNat (TRead.mk x14_4.Key ((alook eqS l11_2 x14_1.Key).getD 0) x14_4.Val x14_4.There)).set l11_4.toNat (TRead.mk x17_4.Key r17_1 x17_4.Val x17_4.There)) l11_5.Writes) r17_2 _ h)
   ·refine kCe b16_0 ?_
    refine kSk ?_
    refine kCd (cR (cR (cB (cB (cR (cL (cR (cR (cB (cL (cR (cB (cB (cR (cL (cR (cR (cR bd11)))))))))))))))))) [.lp (cB (cR (cL (cR (cR (cB (cL (cR (cB (cB (cR (cL (cR (cR (cR bd11)))))))))))))))] ?_
    refine kRc 510 [Tm 9 (iv (w64 (l11_4 + 1)))] [] .n (cB (cR (cL (cR (cR (cB (cL (cR (cB (cB (cR (cL (cR (cR (cR bd11))))))))))))))) [] ?_
    exact kWk (ih (w64 (l11_4 + 1)) (TTxn.mk l11_5.Session l11_5.Seq (l11_5.Reads.set l11_4.toNat (TRead.mk x14_4.Key ((alook eqS l11_2 x14_1.Key).getD 0) x14_4.Val x14_4.There)) l11_5.Writes) r15_2 _ h)
  ·refine kCe b13_0 ?_
   cases some_inj h
   refine kWo ?_
   refine kXt 2 ?_
   exact kOut
def diwanplay_Picks_Txns.lp22 (fu : Nat) (l22_0 : Int) (l22_1 : List TTxn) (l22_3 : Int) (l22_5 : TTxn) : Nat → (List (ByteArray × Int)) → Int → TPicks → Option (List (ByteArray × Int) × TPicks)
  | 0, _, _, _ => none
  | n_ + 1, l22_2, l22_4, l22_6 =>
  br (decide (l22_4 < (l22_5.Writes.length : Int)))
   (bd (diwanplay_Picks_Num 9 l22_6) fun (r23_2, r23_3) =>
   br (decide (r23_2 > 0))
    (ix l22_5.Writes l22_4 fun x25_1 =>
    diwanplay_Picks_Txns.lp22 fu l22_0 l22_1 l22_3 l22_5 n_ (aput eqS l22_2 x25_1.Key (w64 (l22_3 + 1))) (w64 (l22_4 + 1)) r23_3)
    (some (l22_2, r23_3)))
   (some (l22_2, l22_6))
def diwanplay_Picks_Txns.lp22_post (l22_0 : Int) (l22_1 : List TTxn) (l22_3 : Int) (l22_5 : TTxn) (r_ : (List (ByteArray × Int) × TPicks)) : Wy → St → Prop := fun e τ => match r_ with
  | (y0, y1) => e = .exit 4 ∧ τ = ofL [Tm 0 (.ptr 1000 0), Tm 1 (iv l22_0), Tm 5 (sO 4 TTxn.en l22_1), Tm 6 (.data (.mp 1 (mpe kvS kvI y0))), Tm 7 (iv l22_3), Tm 8 (.ptr 8 0), Ob 8 (TTxn.ob_0011 l22_5), Ob 1000 [sS 1 e_u8 y1.l, iv y1.n]]
theorem diwanplay_Picks_Txns.lp22_ok (fu : Nat) (l22_0 : Int) (l22_1 : List TTxn) (l22_3 : Int) (l22_5 : TTxn) : ∀ (n_ : Nat) (l22_2 : List (ByteArray × Int)) (l22_4 : Int) (l22_6 : TPicks) (r_ : (List (ByteArray × Int) × TPicks)), diwanplay_Picks_Txns.lp22 fu l22_0 l22_1 l22_3 l22_5 n_ l22_2 l22_4 l22_6 = some r_ → WK Try.prog diwanplay_Picks_Txns.O (Ck Try.prog) (cB (cR (cL (cR (cR (cR (cB (cL (cR (cB (cB (cR (cL (cR (cR (cR bd11)))))))))))))))) [] (ofL [Tm 0 (.ptr 1000 0), Tm 1 (iv l22_0), Tm 5 (sO 4 TTxn.en l22_1), Tm 6 (.data (.mp 1 (mpe kvS kvI l22_2))), Tm 7 (iv l22_3), Tm 8 (.ptr 8 0), Tm 10 (iv l22_4), Ob 8 (TTxn.ob_0011 l22_5), Ob 1000 [sS 1 e_u8 l22_6.l, iv l22_6.n]]) (diwanplay_Picks_Txns.lp22_post l22_0 l22_1 l22_3 l22_5 r_) := by
 intro n_
 induction n_ with
 | zero => intro l22_2 l22_4 l22_6 r_ h; exact no_none h
 | succ n_ ih =>
  intro l22_2 l22_4 l22_6 r_ h
  refine kLp ?_
  refine kSq ?_
  rcases br_inv h with ⟨b23_1, h⟩ | ⟨b23_1, h⟩
  ·obtain ⟨⟨r23_2, r23_3⟩, h23_4, h⟩ := bd_inv h
   refine kRs 255 [Tm 67 (bv (decide (r23_2 > 0))), Ob 1000 [sS 1 e_u8 r23_3.l, iv r23_3.n]] [.s (.t 61) [iv (l22_5.Writes.length : Int)], .b true, .b true, .a ⟨iv r23_2, [[sS 1 e_u8 r23_3.l, iv r23_3.n]]⟩, .b true, .b true] (.c (c_len (e := TWrite.en) (l := l22_5.Writes)) (.r 2 b23_1 (.c (aoM (diwanplay_Picks_Num.meets 9 l22_6 _ _ h23_4)) (.r 2 b23_1 .n)))) ?_
   rcases br_inv h with ⟨b24_0, h⟩ | ⟨b24_0, h⟩
   ·refine kCt b24_0 ?_
    refine kSk ?_
    refine kCd (cR (cB (cB (cR (cL (cR (cR (cR (cB (cL (cR (cB (cB (cR (cL (cR (cR (cR bd11)))))))))))))))))) [.lp (cB (cR (cL (cR (cR (cR (cB (cL (cR (cB (cB (cR (cL (cR (cR (cR bd11))))))))))))))))] ?_
    refine kSq ?_
    refine kBk 5 ?_
    obtain ⟨x25_1, a25_2, e25_3, h⟩ := ix_inv h
    refine kRc 990 [Tm 6 (.data (.mp 1 (mpe kvS kvI (aput eqS l22_2 x25_1.Key (w64 (l22_3 + 1))))))] [.c (TWrite.en x25_1), .s (.t 6) [.data (.mp 1 (mpe kvS kvI (aput eqS l22_2 x25_1.Key (w64 (l22_3 + 1)))))]] (.c (c_ix (e := TWrite.en) a25_2 e25_3) (.c (c_el (e := TWrite.en) e25_3) (.c (congrArg (fun d : DV => [AV.data d]) (c_mput (f := kvS) (g := kvI) (eq := eqS) (fun _ _ => rfl) (kd := 1) (l := l22_2) (k := x25_1.Key) (v := (w64 (l22_3 + 1))))) .n))) (cR (cR (cB (cB (cR (cL (cR (cR (cR (cB (cL (cR (cB (cB (cR (cL (cR (cR (cR bd11))))))))))))))))))) [.lp (cB (cR (cL (cR (cR (cR (cB (cL (cR (cB (cB (cR (cL (cR (cR (cR bd11))))))))))))))))] ?_
    refine kRc 383 [Tm 10 (iv (w64 (l22_4 + 1)))] [] .n (cB (cR (cL (cR (cR (cR (cB (cL (cR (cB (cB (cR (cL (cR (cR (cR bd11)))))))))))))))) [] ?_
    exact kWk (ih (aput eqS l22_2 x25_1.Key (w64 (l22_3 + 1))) (w64 (l22_4 + 1)) r23_3 _ h)
   ·refine kCe b24_0 ?_
    cases some_inj h
    refine kWo ?_
    refine kXt 4 ?_
    exact kOut
  ·refine kRs 511 [Tm 67 (bv false)] (.s (.t 61) [iv (l22_5.Writes.length : Int)] :: (rp 4 (.b false) [])) (.c (c_len (e := TWrite.en) (l := l22_5.Writes)) (.r 4 b23_1 .n)) ?_
   refine kCe rF ?_
   cases some_inj h
   refine kWo ?_
   refine kXt 4 ?_
   exact kOut
def diwanplay_Picks_Txns.lp5 (fu : Nat) (l5_0 : Int) : Nat → (List TTxn) → (List (ByteArray × Int)) → Int → TPicks → Option (List TTxn × TPicks)
  | 0, _, _, _, _ => none
  | n_ + 1, l5_1, l5_2, l5_3, l5_4 =>
  br (decide (l5_3 < l5_0))
   (bd (diwanplay_Picks_Txn fu 1 l5_4) fun (r8_1, r8_2) =>
   bd (diwanplay_Picks_Num 2 r8_2) fun (r9_1, r9_2) =>
   bd (diwanplay_Picks_Txns.lp11 fu l5_0 l5_1 l5_2 l5_3 fu 0 (TTxn.mk r8_1.Session (w64 ((w64 (1 + (w64 (Int.tdiv l5_3 2)))) + r9_1)) r8_1.Reads r8_1.Writes) r9_2) fun (y20_0, y20_1) =>
   bd (diwanplay_Picks_Txns.lp22 fu l5_0 l5_1 l5_3 y20_0 fu l5_2 0 y20_1) fun (y27_0, y27_1) =>
   gd (decide (l5_1.length + ([y20_0] : List TTxn).length ≤ 4294967296)) <|
   diwanplay_Picks_Txns.lp5 fu l5_0 n_ (l5_1 ++ ([y20_0] : List TTxn)) y27_0 (w64 (l5_3 + 1)) y27_1)
   (some (l5_1, l5_4))
def diwanplay_Picks_Txns.lp5_post (l5_0 : Int) (r_ : (List TTxn × TPicks)) : Wy → St → Prop := fun e τ => match r_ with
  | (y0, y1) => e = .exit 0 ∧ τ = ofL [Tm 5 (sO 4 TTxn.en y0), Ob 1000 [sS 1 e_u8 y1.l, iv y1.n]]
theorem diwanplay_Picks_Txns.lp5_ok (fu : Nat) (l5_0 : Int) : ∀ (n_ : Nat) (l5_1 : List TTxn) (l5_2 : List (ByteArray × Int)) (l5_3 : Int) (l5_4 : TPicks) (r_ : (List TTxn × TPicks)), diwanplay_Picks_Txns.lp5 fu l5_0 n_ l5_1 l5_2 l5_3 l5_4 = some r_ → WK Try.prog diwanplay_Picks_Txns.O (Ck Try.prog) (cB (cR (cL (cR (cR (cR bd11)))))) [] (ofL [Tm 0 (.ptr 1000 0), Tm 1 (iv l5_0), Tm 5 (sO 4 TTxn.en l5_1), Tm 6 (.data (.mp 1 (mpe kvS kvI l5_2))), Tm 7 (iv l5_3), Ob 1000 [sS 1 e_u8 l5_4.l, iv l5_4.n]]) (diwanplay_Picks_Txns.lp5_post l5_0 r_) := by
 intro n_
 induction n_ with
 | zero => intro l5_1 l5_2 l5_3 l5_4 r_ h; exact no_none h
 | succ n_ ih =>
  intro l5_1 l5_2 l5_3 l5_4 r_ h
  refine kLp ?_
  refine kSq ?_
  refine kRs 63 [Tm 14 (bv (decide (l5_3 < l5_0)))] [] .n ?_
  rcases br_inv h with ⟨b7_0, h⟩ | ⟨b7_0, h⟩
  ·refine kCt b7_0 ?_
   refine kSk ?_
   refine kCd (cR (cB (cB (cR (cL (cR (cR (cR bd11)))))))) [.lp (cB (cR (cL (cR (cR (cR bd11))))))] ?_
   refine kSq ?_
   refine kBk 1 ?_
   obtain ⟨⟨r8_1, r8_2⟩, h8_3, h⟩ := bd_inv h
   refine kRs 62 [Tm 8 (.ptr 8 0), Ob 8 (TTxn.ob_0011 r8_1), Ob 1000 [sS 1 e_u8 r8_2.l, iv r8_2.n]] [.a ⟨.data (TTxn.ag_0011 r8_1), [[sS 1 e_u8 r8_2.l, iv r8_2.n]]⟩] (.c (aoM (diwanplay_Picks_Txn.meets fu 1 l5_4 _ _ h8_3)) .n) ?_
   obtain ⟨⟨r9_1, r9_2⟩, h9_3, h⟩ := bd_inv h
   refine kRs 249 [Ob 8 (TTxn.ob_0011 (TTxn.mk r8_1.Session (w64 ((w64 (1 + (w64 (Int.tdiv l5_3 2)))) + r9_1)) r8_1.Reads r8_1.Writes)), Ob 1000 [sS 1 e_u8 r9_2.l, iv r9_2.n]] [.a ⟨iv r9_1, [[sS 1 e_u8 r9_2.l, iv r9_2.n]]⟩] (.c rT (.c (aoM (diwanplay_Picks_Num.meets 2 r8_2 _ _ h9_3)) .n)) ?_
   refine kSq ?_
   refine kRs 255 [Tm 9 (iv 0)] [] .n ?_
   refine kBk 2 ?_
   obtain ⟨o20, ho20, h⟩ := bd_inv h
   refine kUs (diwanplay_Picks_Txns.lp11_ok fu l5_0 l5_1 l5_2 l5_3 _ 0 (TTxn.mk r8_1.Session (w64 ((w64 (1 + (w64 (Int.tdiv l5_3 2)))) + r9_1)) r8_1.Reads r8_1.Writes) r9_2 _ ho20) ?_
   intro e_ τ_ hp_
   obtain ⟨y20_0, y20_1⟩ := o20
   obtain ⟨rfl, rfl⟩ := hp_
   refine kCd (cR (cR (cR (cB (cL (cR (cB (cB (cR (cL (cR (cR (cR bd11))))))))))))) [.blk 1, .seq (cR (cR (cB (cB (cR (cL (cR (cR (cR bd11))))))))), .lp (cB (cR (cL (cR (cR (cR bd11))))))] ?_
   refine kSq ?_
   refine kRs 255 [Tm 10 (iv 0)] [] .n ?_
   refine kBk 4 ?_
   obtain ⟨o27, ho27, h⟩ := bd_inv h
   refine kUs (diwanplay_Picks_Txns.lp22_ok fu l5_0 l5_1 l5_3 y20_0 _ l5_2 0 y20_1 _ ho27) ?_
   intro e_ τ_ hp_
   obtain ⟨y27_0, y27_1⟩ := o27
   obtain ⟨rfl, rfl⟩ := hp_
   refine kCd (cR (cR (cR (cR (cB (cL (cR (cB (cB (cR (cL (cR (cR (cR bd11)))))))))))))) [.blk 1, .seq (cR (cR (cB (cB (cR (cL (cR (cR (cR bd11))))))))), .lp (cB (cR (cL (cR (cR (cR bd11))))))] ?_
   obtain ⟨c28_1, h⟩ := gd_inv h
   refine kRc 155 [Tm 5 (sO 4 TTxn.en (l5_1 ++ ([y20_0] : List TTxn)))] [.s (.t 82) [sO 4 TTxn.en (l5_1 ++ ([y20_0] : List TTxn))]] (.c (c_al (e := TTxn.en) (f := TTxn.en) c28_1) (.c (congrArg (fun d : DV => [AV.data d]) (c_app (e := TTxn.en) (s := 4) (l := l5_1) (m := ([y20_0] : List TTxn)))) .n)) (cR (cR (cB (cB (cR (cL (cR (cR (cR bd11))))))))) [.lp (cB (cR (cL (cR (cR (cR bd11))))))] ?_
   refine kRc 47 [Tm 7 (iv (w64 (l5_3 + 1)))] [] .n (cB (cR (cL (cR (cR (cR bd11)))))) [] ?_
   exact kWk (ih (l5_1 ++ ([y20_0] : List TTxn)) y27_0 (w64 (l5_3 + 1)) y27_1 _ h)
  ·refine kCe b7_0 ?_
   cases some_inj h
   refine kWo ?_
   refine kXt 0 ?_
   exact kOut
def diwanplay_Picks_Txns (fu : Nat) (n_v : Int) (o0_v : TPicks) : Option (List TTxn × TPicks) :=
 bd (diwanplay_Picks_Txns.lp5 fu n_v fu [] [] 0 o0_v) fun (y30_0, y30_1) =>
 some (y30_0, y30_1)
theorem diwanplay_Picks_Txns.meets (fu : Nat) (n_v : Int) (o0_v : TPicks) (z0 : List TTxn) (z1 : TPicks) (h : diwanplay_Picks_Txns fu n_v o0_v = some (z0, z1)) : Meets Try.prog ⟨11, [.ptr 1000 0, iv n_v], [[sS 1 e_u8 o0_v.l, iv o0_v.n]]⟩ ⟨sO 4 TTxn.en z0, [[sS 1 e_u8 z1.l, iv z1.n]]⟩ := by
 refine kMt hmix diwanplay_Picks_Txns.O Try.f11 bd11 7 ?_
 unfold diwanplay_Picks_Txns at h
 refine kRs 7 [] [] .n ?_
 refine kRs 7 [Tm 5 (.data (.slc true (some true) 4 (List.map TTxn.en [])))] [] .n ?_
 refine kRs 15 [Tm 6 (.data (.mp 1 (mpe kvS kvI [])))] [] .n ?_
 refine kSq ?_
 refine kRs 31 [Tm 7 (iv 0)] [] .n ?_
 refine kBk 0 ?_
 obtain ⟨o30, ho30, h⟩ := bd_inv h
 refine kUs (diwanplay_Picks_Txns.lp5_ok fu n_v _ [] [] 0 o0_v _ ho30) ?_
 intro e_ τ_ hp_
 obtain ⟨y30_0, y30_1⟩ := o30
 obtain ⟨rfl, rfl⟩ := hp_
 refine kCd (cR (cR (cR (cR bd11)))) [] ?_
 refine kRs 2 [Tm 4 (sO 4 TTxn.en y30_0)] [] .n ?_
 refine kRt ?_
 have h_0 := some_inj h
 obtain ⟨g_1, h_1⟩ := Prod.mk.inj h_0
 subst g_1
 subst h_1
 exact kFr
def bd17 : Code := (Try.f17.body).getD .skip
def diwanref13_LastOf.O : Nat → Nat := fun t => bif ([2] : List Nat).any (Nat.beq t) then 1 else 0
def diwanref13_LastOf (l : List TVersion) : Option Int :=
 br ((l.length : Int) == 0)
  (some 0)
  (ix l (w64 ((l.length : Int) - 1)) fun x5_1 =>
  some x5_1.Pos)
theorem diwanref13_LastOf.meets (l : List TVersion) (z0 : Int) (h : diwanref13_LastOf l = some z0) : Meets Try.prog ⟨17, [sS 3 TVersion.en l], []⟩ ⟨iv z0, []⟩ := by
 refine kMt hmix diwanref13_LastOf.O Try.f17 bd17 1 ?_
 unfold diwanref13_LastOf at h
 refine kRs 1 [] [] .n ?_
 refine kSq ?_
 refine kRs 1 [Tm 5 (bv ((l.length : Int) == 0))] [.s (.t 4) [iv (l.length : Int)]] (.c (c_len (e := TVersion.en) (l := l)) .n) ?_
 rcases br_inv h with ⟨b3_0, h⟩ | ⟨b3_0, h⟩
 ·refine kCt b3_0 ?_
  refine kRs 0 [Tm 2 (iv 0)] [] .n ?_
  refine kRt ?_
  have h_ := some_inj h
  subst h_
  exact kFr
 ·refine kCe b3_0 ?_
  refine kSk ?_
  refine kCd (cR (cR bd17)) [] ?_
  obtain ⟨x5_1, a5_2, e5_3, h⟩ := ix_inv h
  refine kRs 0 [Tm 2 (iv x5_1.Pos)] [.s (.t 8) [iv (l.length : Int)], .c (TVersion.en x5_1)] (.c (c_len (e := TVersion.en) (l := l)) (.c (c_ix (e := TVersion.en) a5_2 e5_3) (.c (c_el (e := TVersion.en) e5_3) .n))) ?_
  refine kRt ?_
  have h_ := some_inj h
  subst h_
  exact kFr
/-- diwan/diwanlaw18.zeros, in memory by hand: of a map that holds no nought. -/
def diwanlaw18_zeros (l : List (ByteArray × Int)) : Option Int :=
 gd (l.all fun x => x.2 != 0) (some 0)
theorem diwanlaw18_zeros.meets (l : List (ByteArray × Int)) (z0 : Int) (h : diwanlaw18_zeros l = some z0) : Okay Try.prog ⟨18, [.data (.mp 1 (mpe kvS kvI l))], []⟩ ⟨iv z0, []⟩ := by
 obtain ⟨hc, h⟩ := gd_inv h
 cases some_inj h
 refine ⟨1, _, .int .i64 0, _, rfl, rfl, rfl, Try.func18, (by kernel_rfl), (by kernel_rfl), fun w b clk me hb he hst => Mg.zeros_reads _ (fun x hx => ?_) w b clk me hb he hst⟩
 unfold mpe at hx
 obtain ⟨p, hp, rfl⟩ := List.mem_map.1 hx
 have h0 := List.all_eq_true.1 hc p hp
 exact ⟨p.2, rfl, by simpa using h0⟩
def bd5 : Code := (Try.f5.body).getD .skip
def diwanlaw18_JudgeMap.O : Nat → Nat := fun t => bif ([2, 3, 4, 5, 6, 7, 8, 9, 10, 11, 12, 13, 14, 15, 28] : List Nat).any (Nat.beq t) then 1 else bif ([169] : List Nat).any (Nat.beq t) then 9 else 0
def diwanlaw18_JudgeMap.lp22 (fu : Nat) (l22_0 : List TTxn) (l22_1 : List Int) (l22_2 : List (ByteArray × Int)) (l22_3 : Int) (l22_6 : TStore) (l22_7 : TA12_int) (l22_8 : TTxn) : Nat → Bool → Int → Option Bool
  | 0, _, _ => none
  | n_ + 1, l22_4, l22_5 =>
  br (decide (l22_5 < (l22_8.Reads.length : Int)))
   (br l22_4
    (ix l22_8.Reads l22_5 fun x25_2 =>
    ix l22_8.Reads l22_5 fun x25_5 =>
    diwanlaw18_JudgeMap.lp22 fu l22_0 l22_1 l22_2 l22_3 l22_6 l22_7 l22_8 n_ (((alook eqS l22_2 x25_2.Key).getD 0) == x25_5.Version) (w64 (l22_5 + 1)))
    (diwanlaw18_JudgeMap.lp22 fu l22_0 l22_1 l22_2 l22_3 l22_6 l22_7 l22_8 n_ false (w64 (l22_5 + 1))))
   (some l22_4)
def diwanlaw18_JudgeMap.lp22_post (l22_0 : List TTxn) (l22_1 : List Int) (l22_2 : List (ByteArray × Int)) (l22_3 : Int) (l22_6 : TStore) (l22_7 : TA12_int) (l22_8 : TTxn) (r_ : Bool) : Wy → St → Prop := fun e τ => match r_ with
  | y0 => e = .exit 2 ∧ τ = ofL [Tm 3 (sS 4 TTxn.en l22_0), Tm 4 (sS 1 e_i64 l22_1), Tm 5 (.ptr 5 0), Tm 7 (.data (.mp 1 (mpe kvS kvI l22_2))), Tm 8 (.ptr 8 0), Tm 9 (iv l22_3), Tm 10 (.ptr 10 0), Tm 11 (bv y0), Ob 5 [sS 2 TChain.en l22_6.Chains, iv l22_6.Mark], Ob 8 (TA12_int.ob l22_7), Ob 10 (TTxn.ob l22_8)]
theorem diwanlaw18_JudgeMap.lp22_ok (fu : Nat) (l22_0 : List TTxn) (l22_1 : List Int) (l22_2 : List (ByteArray × Int)) (l22_3 : Int) (l22_6 : TStore) (l22_7 : TA12_int) (l22_8 : TTxn) : ∀ (n_ : Nat) (l22_4 : Bool) (l22_5 : Int) (r_ : Bool), diwanlaw18_JudgeMap.lp22 fu l22_0 l22_1 l22_2 l22_3 l22_6 l22_7 l22_8 n_ l22_4 l22_5 = some r_ → WK Try.prog diwanlaw18_JudgeMap.O (Ck Try.prog) (cB (cR (cL (cR (cR (cB (cL (cR (cB (cB (cR (cL (cR (cR (cR (cR (cR (cR (cR (cR bd5)))))))))))))))))))) [] (ofL [Tm 3 (sS 4 TTxn.en l22_0), Tm 4 (sS 1 e_i64 l22_1), Tm 5 (.ptr 5 0), Tm 7 (.data (.mp 1 (mpe kvS kvI l22_2))), Tm 8 (.ptr 8 0), Tm 9 (iv l22_3), Tm 10 (.ptr 10 0), Tm 11 (bv l22_4), Tm 12 (iv l22_5), Ob 5 [sS 2 TChain.en l22_6.Chains, iv l22_6.Mark], Ob 8 (TA12_int.ob l22_7), Ob 10 (TTxn.ob l22_8)]) (diwanlaw18_JudgeMap.lp22_post l22_0 l22_1 l22_2 l22_3 l22_6 l22_7 l22_8 r_) := by
 intro n_
 induction n_ with
 | zero => intro l22_4 l22_5 r_ h; exact no_none h
 | succ n_ ih =>
  intro l22_4 l22_5 r_ h
  refine kLp ?_
  refine kSq ?_
  refine kRs 4095 [Tm 50 (bv (decide (l22_5 < (l22_8.Reads.length : Int))))] [.s (.t 49) [iv (l22_8.Reads.length : Int)]] (.c (c_len (e := TRead.en) (l := l22_8.Reads)) .n) ?_
  rcases br_inv h with ⟨b24_0, h⟩ | ⟨b24_0, h⟩
  ·refine kCt b24_0 ?_
   refine kSk ?_
   refine kCd (cR (cB (cB (cR (cL (cR (cR (cB (cL (cR (cB (cB (cR (cL (cR (cR (cR (cR (cR (cR (cR (cR bd5)))))))))))))))))))))) [.lp (cB (cR (cL (cR (cR (cB (cL (cR (cB (cB (cR (cL (cR (cR (cR (cR (cR (cR (cR (cR bd5))))))))))))))))))))] ?_
   refine kSq ?_
   refine kBk 3 ?_
   rcases br_inv h with ⟨b25_1, h⟩ | ⟨b25_1, h⟩
   ·obtain ⟨x25_2, a25_3, e25_4, h⟩ := ix_inv h
    obtain ⟨x25_5, a25_6, e25_7, h⟩ := ix_inv h
    refine kRc 7934 [Tm 11 (bv (((alook eqS l22_2 x25_2.Key).getD 0) == x25_5.Version))] (rp 5 (.b true) (.c (TRead.en x25_2) :: (.b true :: (.b true :: (.b true :: (.s (.t 62) [iv ((alook eqS l22_2 x25_2.Key).getD 0)] :: (rp 4 (.b true) (.c (TRead.en x25_5) :: (rp 4 (.b true) []))))))))) (.r 5 b25_1 (.c (c_ix (e := TRead.en) a25_3 e25_4) (.c (c_el (e := TRead.en) e25_4) (.r 3 b25_1 (.c (c_mget (f := kvS) (g := kvI) (eq := eqS) (fun _ _ => rfl) (l := l22_2) (k := x25_2.Key) (z := 0)) (.r 4 b25_1 (.c (c_ix (e := TRead.en) a25_6 e25_7) (.c (c_el (e := TRead.en) e25_7) (.r 4 b25_1 (.c rT .n)))))))))) (cR (cR (cB (cB (cR (cL (cR (cR (cB (cL (cR (cB (cB (cR (cL (cR (cR (cR (cR (cR (cR (cR (cR bd5))))))))))))))))))))))) [.lp (cB (cR (cL (cR (cR (cB (cL (cR (cB (cB (cR (cL (cR (cR (cR (cR (cR (cR (cR (cR bd5))))))))))))))))))))] ?_
    refine kRc 3839 [Tm 12 (iv (w64 (l22_5 + 1)))] [] .n (cB (cR (cL (cR (cR (cB (cL (cR (cB (cB (cR (cL (cR (cR (cR (cR (cR (cR (cR (cR bd5)))))))))))))))))))) [] ?_
    exact kWk (ih (((alook eqS l22_2 x25_2.Key).getD 0) == x25_5.Version) (w64 (l22_5 + 1)) _ h)
   ·refine kRc 7934 [Tm 11 (bv false)] (rp 16 (.b false) []) (.r 16 b25_1 (.c rT .n)) (cR (cR (cB (cB (cR (cL (cR (cR (cB (cL (cR (cB (cB (cR (cL (cR (cR (cR (cR (cR (cR (cR (cR bd5))))))))))))))))))))))) [.lp (cB (cR (cL (cR (cR (cB (cL (cR (cB (cB (cR (cL (cR (cR (cR (cR (cR (cR (cR (cR bd5))))))))))))))))))))] ?_
    refine kRc 3839 [Tm 12 (iv (w64 (l22_5 + 1)))] [] .n (cB (cR (cL (cR (cR (cB (cL (cR (cB (cB (cR (cL (cR (cR (cR (cR (cR (cR (cR (cR bd5)))))))))))))))))))) [] ?_
    exact kWk (ih false (w64 (l22_5 + 1)) _ h)
  ·refine kCe b24_0 ?_
   cases some_inj h
   refine kWo ?_
   refine kXt 2 ?_
   exact kOut
def diwanlaw18_JudgeMap.lp47 (fu : Nat) (l47_0 : List TTxn) (l47_1 : List Int) (l47_3 : Int) (l47_5 : TStore) (l47_6 : TA12_int) (l47_7 : TTxn) : Nat → (List (ByteArray × Int)) → Int → Option (List (ByteArray × Int))
  | 0, _, _ => none
  | n_ + 1, l47_2, l47_4 =>
  br (decide (l47_4 < (l47_7.Writes.length : Int)))
   (ix l47_1 l47_3 fun x48_2 =>
   br (x48_2 == 1)
    (ix l47_7.Writes l47_4 fun x50_1 =>
    diwanlaw18_JudgeMap.lp47 fu l47_0 l47_1 l47_3 l47_5 l47_6 l47_7 n_ (aput eqS l47_2 x50_1.Key (w64 (l47_3 + 1))) (w64 (l47_4 + 1)))
    (some l47_2))
   (some l47_2)
def diwanlaw18_JudgeMap.lp47_post (l47_0 : List TTxn) (l47_1 : List Int) (l47_3 : Int) (l47_5 : TStore) (l47_6 : TA12_int) (l47_7 : TTxn) (r_ : (List (ByteArray × Int))) : Wy → St → Prop := fun e τ => match r_ with
  | y0 => e = .exit 4 ∧ τ = ofL [Tm 3 (sS 4 TTxn.en l47_0), Tm 4 (sS 1 e_i64 l47_1), Tm 5 (.ptr 5 0), Tm 7 (.data (.mp 1 (mpe kvS kvI y0))), Tm 8 (.ptr 8 0), Tm 9 (iv l47_3), Ob 5 [sS 2 TChain.en l47_5.Chains, iv l47_5.Mark], Ob 8 (TA12_int.ob l47_6)]
theorem diwanlaw18_JudgeMap.lp47_ok (fu : Nat) (l47_0 : List TTxn) (l47_1 : List Int) (l47_3 : Int) (l47_5 : TStore) (l47_6 : TA12_int) (l47_7 : TTxn) : ∀ (n_ : Nat) (l47_2 : List (ByteArray × Int)) (l47_4 : Int) (r_ : (List (ByteArray × Int))), diwanlaw18_JudgeMap.lp47 fu l47_0 l47_1 l47_3 l47_5 l47_6 l47_7 n_ l47_2 l47_4 = some r_ → WK Try.prog diwanlaw18_JudgeMap.O (Ck Try.prog) (cB (cR (cR (cR (cR (cR (cR (cR (cB (cL (cR (cB (cB (cR (cL (cR (cR (cR (cR (cR (cR (cR (cR bd5))))))))))))))))))))))) [] (ofL [Tm 3 (sS 4 TTxn.en l47_0), Tm 4 (sS 1 e_i64 l47_1), Tm 5 (.ptr 5 0), Tm 7 (.data (.mp 1 (mpe kvS kvI l47_2))), Tm 8 (.ptr 8 0), Tm 9 (iv l47_3), Tm 10 (.ptr 10 0), Tm 14 (iv l47_4), Ob 5 [sS 2 TChain.en l47_5.Chains, iv l47_5.Mark], Ob 8 (TA12_int.ob l47_6), Ob 10 (TTxn.ob l47_7)]) (diwanlaw18_JudgeMap.lp47_post l47_0 l47_1 l47_3 l47_5 l47_6 l47_7 r_) := by
 intro n_
 induction n_ with
 | zero => intro l47_2 l47_4 r_ h; exact no_none h
 | succ n_ ih =>
  intro l47_2 l47_4 r_ h
  refine kLp ?_
  refine kSq ?_
  rcases br_inv h with ⟨b48_1, h⟩ | ⟨b48_1, h⟩
  ·obtain ⟨x48_2, a48_3, e48_4, h⟩ := ix_inv h
   refine kRs 2047 [Tm 128 (bv (x48_2 == 1))] [.s (.t 120) [iv (l47_7.Writes.length : Int)], .b true, .b true, .b true, .c (e_i64 x48_2), .b true, .b true, .b true] (.c (c_len (e := TWrite.en) (l := l47_7.Writes)) (.r 3 b48_1 (.c (c_ix (e := e_i64) a48_3 e48_4) (.c (c_el (e := e_i64) e48_4) (.r 3 b48_1 .n))))) ?_
   rcases br_inv h with ⟨b49_0, h⟩ | ⟨b49_0, h⟩
   ·refine kCt b49_0 ?_
    refine kSk ?_
    refine kCd (cR (cB (cB (cR (cR (cR (cR (cR (cR (cR (cB (cL (cR (cB (cB (cR (cL (cR (cR (cR (cR (cR (cR (cR (cR bd5))))))))))))))))))))))))) [.lp (cB (cR (cR (cR (cR (cR (cR (cR (cB (cL (cR (cB (cB (cR (cL (cR (cR (cR (cR (cR (cR (cR (cR bd5)))))))))))))))))))))))] ?_
    refine kSq ?_
    refine kBk 5 ?_
    obtain ⟨x50_1, a50_2, e50_3, h⟩ := ix_inv h
    refine kRc 4078 [Tm 7 (.data (.mp 1 (mpe kvS kvI (aput eqS l47_2 x50_1.Key (w64 (l47_3 + 1))))))] [.c (TWrite.en x50_1), .s (.t 7) [.data (.mp 1 (mpe kvS kvI (aput eqS l47_2 x50_1.Key (w64 (l47_3 + 1)))))]] (.c (c_ix (e := TWrite.en) a50_2 e50_3) (.c (c_el (e := TWrite.en) e50_3) (.c (congrArg (fun d : DV => [AV.data d]) (c_mput (f := kvS) (g := kvI) (eq := eqS) (fun _ _ => rfl) (kd := 1) (l := l47_2) (k := x50_1.Key) (v := (w64 (l47_3 + 1))))) .n))) (cR (cR (cB (cB (cR (cR (cR (cR (cR (cR (cR (cB (cL (cR (cB (cB (cR (cL (cR (cR (cR (cR (cR (cR (cR (cR bd5)))))))))))))))))))))))))) [.lp (cB (cR (cR (cR (cR (cR (cR (cR (cB (cL (cR (cB (cB (cR (cL (cR (cR (cR (cR (cR (cR (cR (cR bd5)))))))))))))))))))))))] ?_
    refine kRc 1919 [Tm 14 (iv (w64 (l47_4 + 1)))] [] .n (cB (cR (cR (cR (cR (cR (cR (cR (cB (cL (cR (cB (cB (cR (cL (cR (cR (cR (cR (cR (cR (cR (cR bd5))))))))))))))))))))))) [] ?_
    exact kWk (ih (aput eqS l47_2 x50_1.Key (w64 (l47_3 + 1))) (w64 (l47_4 + 1)) _ h)
   ·refine kCe b49_0 ?_
    cases some_inj h
    refine kWo ?_
    refine kXt 4 ?_
    exact kOut
  ·refine kRs 2047 [Tm 128 (bv false)] (.s (.t 120) [iv (l47_7.Writes.length : Int)] :: (rp 6 (.b false) [])) (.c (c_len (e := TWrite.en) (l := l47_7.Writes)) (.r 6 b48_1 .n)) ?_
   refine kCe rF ?_
   cases some_inj h
   refine kWo ?_
   refine kXt 4 ?_
   exact kOut
def diwanlaw18_JudgeMap.lp16 (fu : Nat) (l16_0 : List TTxn) (l16_1 : List Int) (l16_4 : TStore) : Nat → (List (ByteArray × Int)) → Int → TA12_int → Option ((List (ByteArray × Int)) ⊕ Unit)
  | 0, _, _, _ => none
  | n_ + 1, l16_2, l16_3, l16_5 =>
  br (decide (l16_3 < (l16_0.length : Int)))
   (ix l16_0 l16_3 fun x19_1 =>
   bd (diwanlaw18_JudgeMap.lp22 fu l16_0 l16_1 l16_2 l16_3 l16_4 l16_5 x19_1 fu true 0) fun y28_0 =>
   jn (fun (j30_5 : Bool) =>
    jn (fun (j34_7 : TA12_int) =>
     jn (
      bd (diwanlaw18_JudgeMap.lp47 fu l16_0 l16_1 l16_3 l16_4 j34_7 x19_1 fu l16_2 0) fun y52_0 =>
      diwanlaw18_JudgeMap.lp16 fu l16_0 l16_1 l16_4 n_ y52_0 (w64 (l16_3 + 1)) j34_7) fun k45 =>
     ix l16_1 l16_3 fun x35_1 =>
     br ((x35_1 == 3) == j30_5)
      (some (.inr ()))
      (ix l16_1 l16_3 fun x35_5 =>
      br j30_5
       (br (!((x35_5 == 1) == y28_0))
        (some (.inr ()))
        (ix l16_1 l16_3 fun x35_10 =>
        br (decide (x35_10 < 1))
         (some (.inr ()))
         (ix l16_1 l16_3 fun x35_14 =>
         br (decide (x35_14 > 3))
          (some (.inr ()))
          (k45))))
       (br (!((x35_5 == 1) == false))
        (some (.inr ()))
        (ix l16_1 l16_3 fun x35_10 =>
        br (decide (x35_10 < 1))
         (some (.inr ()))
         (ix l16_1 l16_3 fun x35_14 =>
         br (decide (x35_14 > 3))
          (some (.inr ()))
          (k45)))))) fun k34 =>
    br j30_5
     (br (x19_1.Session == 0)
      (k34 (TA12_int.mk x19_1.Seq l16_5.c1 l16_5.c2 l16_5.c3 l16_5.c4 l16_5.c5 l16_5.c6 l16_5.c7 l16_5.c8 l16_5.c9 l16_5.c10 l16_5.c11))
      (br (x19_1.Session == 1)
       (k34 (TA12_int.mk l16_5.c0 x19_1.Seq l16_5.c2 l16_5.c3 l16_5.c4 l16_5.c5 l16_5.c6 l16_5.c7 l16_5.c8 l16_5.c9 l16_5.c10 l16_5.c11))
       (br (x19_1.Session == 2)
        (k34 (TA12_int.mk l16_5.c0 l16_5.c1 x19_1.Seq l16_5.c3 l16_5.c4 l16_5.c5 l16_5.c6 l16_5.c7 l16_5.c8 l16_5.c9 l16_5.c10 l16_5.c11))
        (br (x19_1.Session == 3)
         (k34 (TA12_int.mk l16_5.c0 l16_5.c1 l16_5.c2 x19_1.Seq l16_5.c4 l16_5.c5 l16_5.c6 l16_5.c7 l16_5.c8 l16_5.c9 l16_5.c10 l16_5.c11))
         (br (x19_1.Session == 4)
          (k34 (TA12_int.mk l16_5.c0 l16_5.c1 l16_5.c2 l16_5.c3 x19_1.Seq l16_5.c5 l16_5.c6 l16_5.c7 l16_5.c8 l16_5.c9 l16_5.c10 l16_5.c11))
          (br (x19_1.Session == 5)
           (k34 (TA12_int.mk l16_5.c0 l16_5.c1 l16_5.c2 l16_5.c3 l16_5.c4 x19_1.Seq l16_5.c6 l16_5.c7 l16_5.c8 l16_5.c9 l16_5.c10 l16_5.c11))
           (br (x19_1.Session == 6)
            (k34 (TA12_int.mk l16_5.c0 l16_5.c1 l16_5.c2 l16_5.c3 l16_5.c4 l16_5.c5 x19_1.Seq l16_5.c7 l16_5.c8 l16_5.c9 l16_5.c10 l16_5.c11))
            (br (x19_1.Session == 7)
             (k34 (TA12_int.mk l16_5.c0 l16_5.c1 l16_5.c2 l16_5.c3 l16_5.c4 l16_5.c5 l16_5.c6 x19_1.Seq l16_5.c8 l16_5.c9 l16_5.c10 l16_5.c11))
             (br (x19_1.Session == 8)
              (k34 (TA12_int.mk l16_5.c0 l16_5.c1 l16_5.c2 l16_5.c3 l16_5.c4 l16_5.c5 l16_5.c6 l16_5.c7 x19_1.Seq l16_5.c9 l16_5.c10 l16_5.c11))
              (br (x19_1.Session == 9)
               (k34 (TA12_int.mk l16_5.c0 l16_5.c1 l16_5.c2 l16_5.c3 l16_5.c4 l16_5.c5 l16_5.c6 l16_5.c7 l16_5.c8 x19_1.Seq l16_5.c10 l16_5.c11))
               (br (x19_1.Session == 10)
                (k34 (TA12_int.mk l16_5.c0 l16_5.c1 l16_5.c2 l16_5.c3 l16_5.c4 l16_5.c5 l16_5.c6 l16_5.c7 l16_5.c8 l16_5.c9 x19_1.Seq l16_5.c11))
                (br (x19_1.Session == 11)
                 (k34 (TA12_int.mk l16_5.c0 l16_5.c1 l16_5.c2 l16_5.c3 l16_5.c4 l16_5.c5 l16_5.c6 l16_5.c7 l16_5.c8 l16_5.c9 l16_5.c10 x19_1.Seq))
                 (none)))))))))))))
     (k34 l16_5)) fun k30 =>
   br (x19_1.Session == 0)
    (k30 (decide (x19_1.Seq > l16_5.c0)))
    (br (x19_1.Session == 1)
     (k30 (decide (x19_1.Seq > l16_5.c1)))
     (br (x19_1.Session == 2)
      (k30 (decide (x19_1.Seq > l16_5.c2)))
      (br (x19_1.Session == 3)
       (k30 (decide (x19_1.Seq > l16_5.c3)))
       (br (x19_1.Session == 4)
        (k30 (decide (x19_1.Seq > l16_5.c4)))
        (br (x19_1.Session == 5)
         (k30 (decide (x19_1.Seq > l16_5.c5)))
         (br (x19_1.Session == 6)
          (k30 (decide (x19_1.Seq > l16_5.c6)))
          (br (x19_1.Session == 7)
           (k30 (decide (x19_1.Seq > l16_5.c7)))
           (br (x19_1.Session == 8)
            (k30 (decide (x19_1.Seq > l16_5.c8)))
            (br (x19_1.Session == 9)
             (k30 (decide (x19_1.Seq > l16_5.c9)))
             (br (x19_1.Session == 10)
              (k30 (decide (x19_1.Seq > l16_5.c10)))
              (br (x19_1.Session == 11)
               (k30 (decide (x19_1.Seq > l16_5.c11)))
               (none)))))))))))))
   (some (.inl l16_2))
def diwanlaw18_JudgeMap.lp16_post (l16_0 : List TTxn) (l16_1 : List Int) (l16_4 : TStore) (r_ : ((List (ByteArray × Int)) ⊕ Unit)) : Wy → St → Prop := fun e τ => match r_ with
  | .inl y0 => e = .exit 0 ∧ τ = ofL [Tm 5 (.ptr 5 0), Tm 7 (.data (.mp 1 (mpe kvS kvI y0))), Ob 5 [sS 2 TChain.en l16_4.Chains, iv l16_4.Mark]]
  | .inr _ => e = .ret ∧ τ = ofL [Tm 2 (bv false)]
theorem diwanlaw18_JudgeMap.lp16_ok (fu : Nat) (l16_0 : List TTxn) (l16_1 : List Int) (l16_4 : TStore) : ∀ (n_ : Nat) (l16_2 : List (ByteArray × Int)) (l16_3 : Int) (l16_5 : TA12_int) (r_ : ((List (ByteArray × Int)) ⊕ Unit)), diwanlaw18_JudgeMap.lp16 fu l16_0 l16_1 l16_4 n_ l16_2 l16_3 l16_5 = some r_ → WK Try.prog diwanlaw18_JudgeMap.O (Ck Try.prog) (cB (cR (cL (cR (cR (cR (cR (cR (cR (cR (cR bd5))))))))))) [] (ofL [Tm 3 (sS 4 TTxn.en l16_0), Tm 4 (sS 1 e_i64 l16_1), Tm 5 (.ptr 5 0), Tm 7 (.data (.mp 1 (mpe kvS kvI l16_2))), Tm 8 (.ptr 8 0), Tm 9 (iv l16_3), Ob 5 [sS 2 TChain.en l16_4.Chains, iv l16_4.Mark], Ob 8 (TA12_int.ob l16_5)]) (diwanlaw18_JudgeMap.lp16_post l16_0 l16_1 l16_4 r_) := by
 intro n_
 induction n_ with
 | zero => intro l16_2 l16_3 l16_5 r_ h; exact no_none h
 | succ n_ ih =>
  intro l16_2 l16_3 l16_5 r_ h
  refine kLp ?_
  refine kSq ?_
  refine kRs 255 [Tm 39 (bv (decide (l16_3 < (l16_0.length : Int))))] [.s (.t 38) [iv (l16_0.length : Int)]] (.c (c_len (e := TTxn.en) (l := l16_0)) .n) ?_
  rcases br_inv h with ⟨b18_0, h⟩ | ⟨b18_0, h⟩
  ·refine kCt b18_0 ?_
   refine kSk ?_
   refine kCd (cR (cB (cB (cR (cL (cR (cR (cR (cR (cR (cR (cR (cR bd5))))))))))))) [.lp (cB (cR (cL (cR (cR (cR (cR (cR (cR (cR (cR bd5)))))))))))] ?_
   refine kSq ?_
   refine kBk 1 ?_
   obtain ⟨x19_1, a19_2, e19_3, h⟩ := ix_inv h
   refine kRs 510 [Tm 10 (.ptr 10 0), Ob 10 (TTxn.ob x19_1)] [.c (TTxn.en x19_1)] (.c (c_ix (e := TTxn.en) a19_2 e19_3) (.c (c_el (e := TTxn.en) e19_3) .n)) ?_
   refine kRs 1023 [Tm 11 (bv true)] [] .n ?_
   refine kSq ?_
   refine kRs 2047 [Tm 12 (iv 0)] [] .n ?_
   refine kBk 2 ?_
   obtain ⟨o28, ho28, h⟩ := bd_inv h
   refine kUs (diwanlaw18_JudgeMap.lp22_ok fu l16_0 l16_1 l16_2 l16_3 l16_4 l16_5 x19_1 _ true 0 _ ho28) ?_
   intro e_ τ_ hp_
   obtain ⟨y28_0, rfl⟩ : ∃ y, y = o28 := ⟨_, rfl⟩
   obtain ⟨rfl, rfl⟩ := hp_
   refine kCd (cR (cR (cR (cB (cL (cR (cB (cB (cR (cL (cR (cR (cR (cR (cR (cR (cR (cR bd5)))))))))))))))))) [.blk 1, .seq (cR (cR (cB (cB (cR (cL (cR (cR (cR (cR (cR (cR (cR (cR bd5)))))))))))))), .lp (cB (cR (cL (cR (cR (cR (cR (cR (cR (cR (cR bd5)))))))))))] ?_
   obtain ⟨k30, hk30, h⟩ := jn_inv h
   have Jk30 : ∀ (j30_5 : Bool), k30 j30_5 = some r_ → WK Try.prog diwanlaw18_JudgeMap.O (Ck Try.prog) (cR (cR (cR (cR (cB (cL (cR (cB (cB (cR (cL (cR (cR (cR (cR (cR (cR (cR (cR bd5))))))))))))))))))) [.blk 1, .seq (cR (cR (cB (cB (cR (cL (cR (cR (cR (cR (cR (cR (cR (cR bd5)))))))))))))), .lp (cB (cR (cL (cR (cR (cR (cR (cR (cR (cR (cR bd5)))))))))))] (ofL [Tm 3 (sS 4 TTxn.en l16_0), Tm 4 (sS 1 e_i64 l16_1), Tm 5 (.ptr 5 0), Tm 7 (.data (.mp 1 (mpe kvS kvI l16_2))), Tm 8 (.ptr 8 0), Tm 9 (iv l16_3), Tm 10 (.ptr 10 0), Tm 11 (bv y28_0), Tm 13 (bv j30_5), Ob 5 [sS 2 TChain.en l16_4.Chains, iv l16_4.Mark], Ob 8 (TA12_int.ob l16_5), Ob 10 (TTxn.ob x19_1)]) (diwanlaw18_JudgeMap.lp16_post l16_0 l16_1 l16_4 r_) := by
    intro j30_5 h
    rw [hk30] at h
    obtain ⟨k34, hk34, h⟩ := jn_inv h
    have Jk34 : ∀ (j34_7 : TA12_int), k34 j34_7 = some r_ → WK Try.prog diwanlaw18_JudgeMap.O (Ck Try.prog) (cR (cR (cR (cR (cR (cB (cL (cR (cB (cB (cR (cL (cR (cR (cR (cR (cR (cR (cR (cR bd5)))))))))))))))))))) [.blk 1, .seq (cR (cR (cB (cB (cR (cL (cR (cR (cR (cR (cR (cR (cR (cR bd5)))))))))))))), .lp (cB (cR (cL (cR (cR (cR (cR (cR (cR (cR (cR bd5)))))))))))] (ofL [Tm 3 (sS 4 TTxn.en l16_0), Tm 4 (sS 1 e_i64 l16_1), Tm 5 (.ptr 5 0), Tm 7 (.data (.mp 1 (mpe kvS kvI l16_2))), Tm 8 (.ptr 8 0), Tm 9 (iv l16_3), Tm 10 (.ptr 10 0), Tm 11 (bv y28_0), Tm 13 (bv j30_5), Ob 5 [sS 2 TChain.en l16_4.Chains, iv l16_4.Mark], Ob 8 (TA12_int.ob j34_7), Ob 10 (TTxn.ob x19_1)]) (diwanlaw18_JudgeMap.lp16_post l16_0 l16_1 l16_4 r_) := by
     intro j34_7 h
     rw [hk34] at h
     obtain ⟨k45, hk45, h⟩ := jn_inv h
     have Jk45 : k45 = some r_ → WK Try.prog diwanlaw18_JudgeMap.O (Ck Try.prog) (cR (cR (cR (cR (cR (cR (cB (cL (cR (cB (cB (cR (cL (cR (cR (cR (cR (cR (cR (cR (cR bd5))))))))))))))))))))) [.blk 1, .seq (cR (cR (cB (cB (cR (cL (cR (cR (cR (cR (cR (cR (cR (cR bd5)))))))))))))), .lp (cB (cR (cL (cR (cR (cR (cR (cR (cR (cR (cR bd5)))))))))))] (ofL [Tm 3 (sS 4 TTxn.en l16_0), Tm 4 (sS 1 e_i64 l16_1), Tm 5 (.ptr 5 0), Tm 7 (.data (.mp 1 (mpe kvS kvI l16_2))), Tm 8 (.ptr 8 0), Tm 9 (iv l16_3), Tm 10 (.ptr 10 0), Ob 5 [sS 2 TChain.en l16_4.Chains, iv l16_4.Mark], Ob 8 (TA12_int.ob j34_7), Ob 10 (TTxn.ob x19_1)]) (diwanlaw18_JudgeMap.lp16_post l16_0 l16_1 l16_4 r_) := by
      intro h
      rw [hk45] at h
      refine kRs 1023 [Tm 14 (iv 0)] [] .n ?_
      refine kBk 4 ?_
      obtain ⟨o52, ho52, h⟩ := bd_inv h
      refine kUs (diwanlaw18_JudgeMap.lp47_ok fu l16_0 l16_1 l16_3 l16_4 j34_7 x19_1 _ l16_2 0 _ ho52) ?_
      intro e_ τ_ hp_
      obtain ⟨y52_0, rfl⟩ : ∃ y, y = o52 := ⟨_, rfl⟩
      obtain ⟨rfl, rfl⟩ := hp_
      refine kCd (cR (cR (cB (cB (cR (cL (cR (cR (cR (cR (cR (cR (cR (cR bd5)))))))))))))) [.lp (cB (cR (cL (cR (cR (cR (cR (cR (cR (cR (cR bd5)))))))))))] ?_
      refine kRc 223 [Tm 9 (iv (w64 (l16_3 + 1)))] [] .n (cB (cR (cL (cR (cR (cR (cR (cR (cR (cR (cR bd5))))))))))) [] ?_
      exact kWk (ih y52_0 (w64 (l16_3 + 1)) j34_7 _ h)
     clear hk45
     refine kSq ?_
     obtain ⟨x35_1, a35_2, e35_3, h⟩ := ix_inv h
     rcases br_inv h with ⟨b35_4, h⟩ | ⟨b35_4, h⟩
     ·refine kRs 3711 [Tm 116 (bv true)] (.c (e_i64 x35_1) :: (rp 22 (.b true) [])) (.c (c_ix (e := e_i64) a35_2 e35_3) (.c (c_el (e := e_i64) e35_3) (.r 10 b35_4 (.r 12 rT .n)))) ?_
      refine kCt rT ?_
      refine kRs 0 [Tm 2 (bv false)] [] .n ?_
      cases some_inj h
      refine kWo ?_
      refine kRt ?_
      exact kOut
     ·obtain ⟨x35_5, a35_6, e35_7, h⟩ := ix_inv h
      rcases br_inv h with ⟨b35_8, h⟩ | ⟨b35_8, h⟩
      ·rcases br_inv h with ⟨b35_9, h⟩ | ⟨b35_9, h⟩
       ·refine kRs 3711 [Tm 116 (bv true)] (.c (e_i64 x35_1) :: (.b false :: (.b false :: (.b false :: (.c (e_i64 x35_5) :: (rp 4 (.b false) (.b true :: (.b false :: (.b true :: (.b false :: (.b false :: (rp 12 (.b true) [])))))))))))) (.c (c_ix (e := e_i64) a35_2 e35_3) (.c (c_el (e := e_i64) e35_3) (.r 3 b35_4 (.c (c_ix (e := e_i64) a35_6 e35_7) (.c (c_el (e := e_i64) e35_7) (.r 4 b35_4 (.c b35_8 (.c b35_4 (.c b35_8 (.r 2 b35_4 (.r 6 b35_9 (.r 6 rT .n)))))))))))) ?_
        refine kCt rT ?_
        refine kRs 0 [Tm 2 (bv false)] [] .n ?_
        cases some_inj h
        refine kWo ?_
        refine kRt ?_
        exact kOut
       ·obtain ⟨x35_10, a35_11, e35_12, h⟩ := ix_inv h
        rcases br_inv h with ⟨b35_13, h⟩ | ⟨b35_13, h⟩
        ·refine kRs 3711 [Tm 116 (bv true)] (.c (e_i64 x35_1) :: (.b false :: (.b false :: (.b false :: (.c (e_i64 x35_5) :: (rp 4 (.b false) (.b true :: (.b false :: (.b true :: (rp 5 (.b false) (.c (e_i64 x35_10) :: (.b false :: (.b false :: (.b false :: (rp 6 (.b true) []))))))))))))))) (.c (c_ix (e := e_i64) a35_2 e35_3) (.c (c_el (e := e_i64) e35_3) (.r 3 b35_4 (.c (c_ix (e := e_i64) a35_6 e35_7) (.c (c_el (e := e_i64) e35_7) (.r 4 b35_4 (.c b35_8 (.c b35_4 (.c b35_8 (.r 2 b35_4 (.r 3 b35_9 (.c (c_ix (e := e_i64) a35_11 e35_12) (.c (c_el (e := e_i64) e35_12) (.r 3 b35_9 (.r 6 b35_13 .n))))))))))))))) ?_
         refine kCt rT ?_
         refine kRs 0 [Tm 2 (bv false)] [] .n ?_
         cases some_inj h
         refine kWo ?_
         refine kRt ?_
         exact kOut
        ·obtain ⟨x35_14, a35_15, e35_16, h⟩ := ix_inv h
         refine kRs 3711 [Tm 116 (bv (decide (x35_14 > 3)))] (.c (e_i64 x35_1) :: (.b false :: (.b false :: (.b false :: (.c (e_i64 x35_5) :: (rp 4 (.b false) (.b true :: (.b false :: (.b true :: (rp 5 (.b false) (.c (e_i64 x35_10) :: (rp 6 (.b false) [.c (e_i64 x35_14), .b false, .b false, .b false])))))))))))) (.c (c_ix (e := e_i64) a35_2 e35_3) (.c (c_el (e := e_i64) e35_3) (.r 3 b35_4 (.c (c_ix (e := e_i64) a35_6 e35_7) (.c (c_el (e := e_i64) e35_7) (.r 4 b35_4 (.c b35_8 (.c b35_4 (.c b35_8 (.r 2 b35_4 (.r 3 b35_9 (.c (c_ix (e := e_i64) a35_11 e35_12) (.c (c_el (e := e_i64) e35_12) (.r 3 b35_9 (.r 3 b35_13 (.c (c_ix (e := e_i64) a35_15 e35_16) (.c (c_el (e := e_i64) e35_16) (.r 3 b35_13 .n)))))))))))))))))) ?_
         rcases br_inv h with ⟨b39_0, h⟩ | ⟨b39_0, h⟩
         ·refine kCt b39_0 ?_
          refine kRs 0 [Tm 2 (bv false)] [] .n ?_
          cases some_inj h
          refine kWo ?_
          refine kRt ?_
          exact kOut
         ·refine kCe b39_0 ?_
          refine kSk ?_
          refine kCd (cR (cR (cR (cR (cR (cR (cB (cL (cR (cB (cB (cR (cL (cR (cR (cR (cR (cR (cR (cR (cR bd5))))))))))))))))))))) [.blk 1, .seq (cR (cR (cB (cB (cR (cL (cR (cR (cR (cR (cR (cR (cR (cR bd5)))))))))))))), .lp (cB (cR (cL (cR (cR (cR (cR (cR (cR (cR (cR bd5)))))))))))] ?_
          exact kWk (Jk45 h)
      ·rcases br_inv h with ⟨b35_9, h⟩ | ⟨b35_9, h⟩
       ·refine kRs 3711 [Tm 116 (bv true)] (.c (e_i64 x35_1) :: (.b false :: (.b false :: (.b false :: (.c (e_i64 x35_5) :: (rp 9 (.b false) (rp 12 (.b true) []))))))) (.c (c_ix (e := e_i64) a35_2 e35_3) (.c (c_el (e := e_i64) e35_3) (.r 3 b35_4 (.c (c_ix (e := e_i64) a35_6 e35_7) (.c (c_el (e := e_i64) e35_7) (.r 4 b35_4 (.c b35_8 (.c b35_4 (.c b35_8 (.r 2 b35_4 (.r 6 b35_9 (.r 6 rT .n)))))))))))) ?_
        refine kCt rT ?_
        refine kRs 0 [Tm 2 (bv false)] [] .n ?_
        cases some_inj h
        refine kWo ?_
        refine kRt ?_
        exact kOut
       ·obtain ⟨x35_10, a35_11, e35_12, h⟩ := ix_inv h
        rcases br_inv h with ⟨b35_13, h⟩ | ⟨b35_13, h⟩
        ·refine kRs 3711 [Tm 116 (bv true)] (.c (e_i64 x35_1) :: (.b false :: (.b false :: (.b false :: (.c (e_i64 x35_5) :: (rp 12 (.b false) (.c (e_i64 x35_10) :: (.b false :: (.b false :: (.b false :: (rp 6 (.b true) []))))))))))) (.c (c_ix (e := e_i64) a35_2 e35_3) (.c (c_el (e := e_i64) e35_3) (.r 3 b35_4 (.c (c_ix (e := e_i64) a35_6 e35_7) (.c (c_el (e := e_i64) e35_7) (.r 4 b35_4 (.c b35_8 (.c b35_4 (.c b35_8 (.r 2 b35_4 (.r 3 b35_9 (.c (c_ix (e := e_i64) a35_11 e35_12) (.c (c_el (e := e_i64) e35_12) (.r 3 b35_9 (.r 6 b35_13 .n))))))))))))))) ?_
         refine kCt rT ?_
         refine kRs 0 [Tm 2 (bv false)] [] .n ?_
         cases some_inj h
         refine kWo ?_
         refine kRt ?_
         exact kOut
        ·obtain ⟨x35_14, a35_15, e35_16, h⟩ := ix_inv h
         refine kRs 3711 [Tm 116 (bv (decide (x35_14 > 3)))] (.c (e_i64 x35_1) :: (.b false :: (.b false :: (.b false :: (.c (e_i64 x35_5) :: (rp 12 (.b false) (.c (e_i64 x35_10) :: (rp 6 (.b false) [.c (e_i64 x35_14), .b false, .b false, .b false])))))))) (.c (c_ix (e := e_i64) a35_2 e35_3) (.c (c_el (e := e_i64) e35_3) (.r 3 b35_4 (.c (c_ix (e := e_i64) a35_6 e35_7) (.c (c_el (e := e_i64) e35_7) (.r 4 b35_4 (.c b35_8 (.c b35_4 (.c b35_8 (.r 2 b35_4 (.r 3 b35_9 (.c (c_ix (e := e_i64) a35_11 e35_12) (.c (c_el (e := e_i64) e35_12) (.r 3 b35_9 (.r 3 b35_13 (.c (c_ix (e := e_i64) a35_15 e35_16) (.c (c_el (e := e_i64) e35_16) (.r 3 b35_13 .n)))))))))))))))))) ?_
         rcases br_inv h with ⟨b43_0, h⟩ | ⟨b43_0, h⟩
         ·refine kCt b43_0 ?_
          refine kRs 0 [Tm 2 (bv false)] [] .n ?_
          cases some_inj h
          refine kWo ?_
          refine kRt ?_
          exact kOut
         ·refine kCe b43_0 ?_
          refine kSk ?_
          refine kCd (cR (cR (cR (cR (cR (cR (cB (cL (cR (cB (cB (cR (cL (cR (cR (cR (cR (cR (cR (cR (cR bd5))))))))))))))))))))) [.blk 1, .seq (cR (cR (cB (cB (cR (cL (cR (cR (cR (cR (cR (cR (cR (cR bd5)))))))))))))), .lp (cB (cR (cL (cR (cR (cR (cR (cR (cR (cR (cR bd5)))))))))))] ?_
          exact kWk (Jk45 h)
    clear hk34
    refine kSq ?_
    refine kRs 4095 [Tm 78 (bv j30_5)] [] .n ?_
    rcases br_inv h with ⟨b32_0, h⟩ | ⟨b32_0, h⟩
    ·refine kCt b32_0 ?_
     rcases br_inv h with ⟨b33_1, h⟩ | ⟨b33_1, h⟩
     ·refine kRc 6142 [Ob 8 (TA12_int.ob (TA12_int.mk x19_1.Seq l16_5.c1 l16_5.c2 l16_5.c3 l16_5.c4 l16_5.c5 l16_5.c6 l16_5.c7 l16_5.c8 l16_5.c9 l16_5.c10 l16_5.c11))] [.i 0] (.c (c_ib (j := 0) (n := 12) b33_1 (Eq.refl true)) (.c (c_ii (j := 0) b33_1) .n)) (cR (cR (cR (cR (cR (cB (cL (cR (cB (cB (cR (cL (cR (cR (cR (cR (cR (cR (cR (cR bd5)))))))))))))))))))) [.blk 1, .seq (cR (cR (cB (cB (cR (cL (cR (cR (cR (cR (cR (cR (cR (cR bd5)))))))))))))), .lp (cB (cR (cL (cR (cR (cR (cR (cR (cR (cR (cR bd5)))))))))))] ?_
      exact kWk (Jk34 (TA12_int.mk x19_1.Seq l16_5.c1 l16_5.c2 l16_5.c3 l16_5.c4 l16_5.c5 l16_5.c6 l16_5.c7 l16_5.c8 l16_5.c9 l16_5.c10 l16_5.c11) h)
     ·rcases br_inv h with ⟨b33_2, h⟩ | ⟨b33_2, h⟩
      ·refine kRc 6142 [Ob 8 (TA12_int.ob (TA12_int.mk l16_5.c0 x19_1.Seq l16_5.c2 l16_5.c3 l16_5.c4 l16_5.c5 l16_5.c6 l16_5.c7 l16_5.c8 l16_5.c9 l16_5.c10 l16_5.c11))] [.i 1] (.c (c_ib (j := 1) (n := 12) b33_2 (Eq.refl true)) (.c (c_ii (j := 1) b33_2) .n)) (cR (cR (cR (cR (cR (cB (cL (cR (cB (cB (cR (cL (cR (cR (cR (cR (cR (cR (cR (cR bd5)))))))))))))))))))) [.blk 1, .seq (cR (cR (cB (cB (cR (cL (cR (cR (cR (cR (cR (cR (cR (cR bd5)))))))))))))), .lp (cB (cR (cL (cR (cR (cR (cR (cR (cR (cR (cR bd5)))))))))))] ?_
       exact kWk (Jk34 (TA12_int.mk l16_5.c0 x19_1.Seq l16_5.c2 l16_5.c3 l16_5.c4 l16_5.c5 l16_5.c6 l16_5.c7 l16_5.c8 l16_5.c9 l16_5.c10 l16_5.c11) h)
      ·rcases br_inv h with ⟨b33_3, h⟩ | ⟨b33_3, h⟩
       ·refine kRc 6142 [Ob 8 (TA12_int.ob (TA12_int.mk l16_5.c0 l16_5.c1 x19_1.Seq l16_5.c3 l16_5.c4 l16_5.c5 l16_5.c6 l16_5.c7 l16_5.c8 l16_5.c9 l16_5.c10 l16_5.c11))] [.i 2] (.c (c_ib (j := 2) (n := 12) b33_3 (Eq.refl true)) (.c (c_ii (j := 2) b33_3) .n)) (cR (cR (cR (cR (cR (cB (cL (cR (cB (cB (cR (cL (cR (cR (cR (cR (cR (cR (cR (cR bd5)))))))))))))))))))) [.blk 1, .seq (cR (cR (cB (cB (cR (cL (cR (cR (cR (cR (cR (cR (cR (cR bd5)))))))))))))), .lp (cB (cR (cL (cR (cR (cR (cR (cR (cR (cR (cR bd5)))))))))))] ?_
        exact kWk (Jk34 (TA12_int.mk l16_5.c0 l16_5.c1 x19_1.Seq l16_5.c3 l16_5.c4 l16_5.c5 l16_5.c6 l16_5.c7 l16_5.c8 l16_5.c9 l16_5.c10 l16_5.c11) h)
       ·rcases br_inv h with ⟨b33_4, h⟩ | ⟨b33_4, h⟩
        ·refine kRc 6142 [Ob 8 (TA12_int.ob (TA12_int.mk l16_5.c0 l16_5.c1 l16_5.c2 x19_1.Seq l16_5.c4 l16_5.c5 l16_5.c6 l16_5.c7 l16_5.c8 l16_5.c9 l16_5.c10 l16_5.c11))] [.i 3] (.c (c_ib (j := 3) (n := 12) b33_4 (Eq.refl true)) (.c (c_ii (j := 3) b33_4) .n)) (cR (cR (cR (cR (cR (cB (cL (cR (cB (cB (cR (cL (cR (cR (cR (cR (cR (cR (cR (cR bd5)))))))))))))))))))) [.blk 1, .seq (cR (cR (cB (cB (cR (cL (cR (cR (cR (cR (cR (cR (cR (cR bd5)))))))))))))), .lp (cB (cR (cL (cR (cR (cR (cR (cR (cR (cR (cR bd5)))))))))))] ?_
         exact kWk (Jk34 (TA12_int.mk l16_5.c0 l16_5.c1 l16_5.c2 x19_1.Seq l16_5.c4 l16_5.c5 l16_5.c6 l16_5.c7 l16_5.c8 l16_5.c9 l16_5.c10 l16_5.c11) h)
        ·rcases br_inv h with ⟨b33_5, h⟩ | ⟨b33_5, h⟩
         ·refine kRc 6142 [Ob 8 (TA12_int.ob (TA12_int.mk l16_5.c0 l16_5.c1 l16_5.c2 l16_5.c3 x19_1.Seq l16_5.c5 l16_5.c6 l16_5.c7 l16_5.c8 l16_5.c9 l16_5.c10 l16_5.c11))] [.i 4] (.c (c_ib (j := 4) (n := 12) b33_5 (Eq.refl true)) (.c (c_ii (j := 4) b33_5) .n)) (cR (cR (cR (cR (cR (cB (cL (cR (cB (cB (cR (cL (cR (cR (cR (cR (cR (cR (cR (cR bd5)))))))))))))))))))) [.blk 1, .seq (cR (cR (cB (cB (cR (cL (cR (cR (cR (cR (cR (cR (cR (cR bd5)))))))))))))), .lp (cB (cR (cL (cR (cR (cR (cR (cR (cR (cR (cR bd5)))))))))))] ?_
          exact kWk (Jk34 (TA12_int.mk l16_5.c0 l16_5.c1 l16_5.c2 l16_5.c3 x19_1.Seq l16_5.c5 l16_5.c6 l16_5.c7 l16_5.c8 l16_5.c9 l16_5.c10 l16_5.c11) h)
         ·rcases br_inv h with ⟨b33_6, h⟩ | ⟨b33_6, h⟩
          ·refine kRc 6142 [Ob 8 (TA12_int.ob (TA12_int.mk l16_5.c0 l16_5.c1 l16_5.c2 l16_5.c3 l16_5.c4 x19_1.Seq l16_5.c6 l16_5.c7 l16_5.c8 l16_5.c9 l16_5.c10 l16_5.c11))] [.i 5] (.c (c_ib (j := 5) (n := 12) b33_6 (Eq.refl true)) (.c (c_ii (j := 5) b33_6) .n)) (cR (cR (cR (cR (cR (cB (cL (cR (cB (cB (cR (cL (cR (cR (cR (cR (cR (cR (cR (cR bd5)))))))))))))))))))) [.blk 1, .seq (cR (cR (cB (cB (cR (cL (cR (cR (cR (cR (cR (cR (cR (cR bd5)))))))))))))), .lp (cB (cR (cL (cR (cR (cR (cR (cR (cR (cR (cR bd5)))))))))))] ?_
           exact kWk (Jk34 (TA12_int.mk l16_5.c0 l16_5.c1 l16_5.c2 l16_5.c3 l16_5.c4 x19_1.Seq l16_5.c6 l16_5.c7 l16_5.c8 l16_5.c9 l16_5.c10 l16_5.c11) h)
          ·rcases br_inv h with ⟨b33_7, h⟩ | ⟨b33_7, h⟩
           ·refine kRc 6142 [Ob 8 (TA12_int.ob (TA12_int.mk l16_5.c0 l16_5.c1 l16_5.c2 l16_5.c3 l16_5.c4 l16_5.c5 x19_1.Seq l16_5.c7 l16_5.c8 l16_5.c9 l16_5.c10 l16_5.c11))] [.i 6] (.c (c_ib (j := 6) (n := 12) b33_7 (Eq.refl true)) (.c (c_ii (j := 6) b33_7) .n)) (cR (cR (cR (cR (cR (cB (cL (cR (cB (cB (cR (cL (cR (cR (cR (cR (cR (cR (cR (cR bd5)))))))))))))))))))) [.blk 1, .seq (cR (cR (cB (cB (cR (cL (cR (cR (cR (cR (cR (cR (cR (cR bd5)))))))))))))), .lp (cB (cR (cL (cR (cR (cR (cR (cR (cR (cR (cR bd5)))))))))))] ?_
            exact kWk (Jk34 (TA12_int.mk l16_5.c0 l16_5.c1 l16_5.c2 l16_5.c3 l16_5.c4 l16_5.c5 x19_1.Seq l16_5.c7 l16_5.c8 l16_5.c9 l16_5.c10 l16_5.c11) h)
           ·rcases br_inv h with ⟨b33_8, h⟩ | ⟨b33_8, h⟩
            ·refine kRc 6142 [Ob 8 (TA12_int.ob (TA12_int.mk l16_5.c0 l16_5.c1 l16_5.c2 l16_5.c3 l16_5.c4 l16_5.c5 l16_5.c6 x19_1.Seq l16_5.c8 l16_5.c9 l16_5.c10 l16_5.c11))] [.i 7] (.c (c_ib (j := 7) (n := 12) b33_8 (Eq.refl true)) (.c (c_ii (j := 7) b33_8) .n)) (cR (cR (cR (cR (cR (cB (cL (cR (cB (cB (cR (cL (cR (cR (cR (cR (cR (cR (cR (cR bd5)))))))))))))))))))) [.blk 1, .seq (cR (cR (cB (cB (cR (cL (cR (cR (cR (cR (cR (cR (cR (cR bd5)))))))))))))), .lp (cB (cR (cL (cR (cR (cR (cR (cR (cR (cR (cR bd5)))))))))))] ?_
             exact kWk (Jk34 (TA12_int.mk l16_5.c0 l16_5.c1 l16_5.c2 l16_5.c3 l16_5.c4 l16_5.c5 l16_5.c6 x19_1.Seq l16_5.c8 l16_5.c9 l16_5.c10 l16_5.c11) h)
            ·rcases br_inv h with ⟨b33_9, h⟩ | ⟨b33_9, h⟩
             ·refine kRc 6142 [Ob 8 (TA12_int.ob (TA12_int.mk l16_5.c0 l16_5.c1 l16_5.c2 l16_5.c3 l16_5.c4 l16_5.c5 l16_5.c6 l16_5.c7 x19_1.Seq l16_5.c9 l16_5.c10 l16_5.c11))] [.i 8] (.c (c_ib (j := 8) (n := 12) b33_9 (Eq.refl true)) (.c (c_ii (j := 8) b33_9) .n)) (cR (cR (cR (cR (cR (cB (cL (cR (cB (cB (cR (cL (cR (cR (cR (cR (cR (cR (cR (cR bd5)))))))))))))))))))) [.blk 1, .seq (cR (cR (cB (cB (cR (cL (cR (cR (cR (cR (cR (cR (cR (cR bd5)))))))))))))), .lp (cB (cR (cL (cR (cR (cR (cR (cR (cR (cR (cR bd5)))))))))))] ?_
              exact kWk (Jk34 (TA12_int.mk l16_5.c0 l16_5.c1 l16_5.c2 l16_5.c3 l16_5.c4 l16_5.c5 l16_5.c6 l16_5.c7 x19_1.Seq l16_5.c9 l16_5.c10 l16_5.c11) h)
             ·rcases br_inv h with ⟨b33_10, h⟩ | ⟨b33_10, h⟩
              ·refine kRc 6142 [Ob 8 (TA12_int.ob (TA12_int.mk l16_5.c0 l16_5.c1 l16_5.c2 l16_5.c3 l16_5.c4 l16_5.c5 l16_5.c6 l16_5.c7 l16_5.c8 x19_1.Seq l16_5.c10 l16_5.c11))] [.i 9] (.c (c_ib (j := 9) (n := 12) b33_10 (Eq.refl true)) (.c (c_ii (j := 9) b33_10) .n)) (cR (cR (cR (cR (cR (cB (cL (cR (cB (cB (cR (cL (cR (cR (cR (cR (cR (cR (cR (cR bd5)))))))))))))))))))) [.blk 1, .seq (cR (cR (cB (cB (cR (cL (cR (cR (cR (cR (cR (cR (cR (cR bd5)))))))))))))), .lp (cB (cR (cL (cR (cR (cR (cR (cR (cR (cR (cR bd5)))))))))))] ?_
               exact kWk (Jk34 (TA12_int.mk l16_5.c0 l16_5.c1 l16_5.c2 l16_5.c3 l16_5.c4 l16_5.c5 l16_5.c6 l16_5.c7 l16_5.c8 x19_1.Seq l16_5.c10 l16_5.c11) h)
              ·rcases br_inv h with ⟨b33_11, h⟩ | ⟨b33_11, h⟩
               ·refine kRc 6142 [Ob 8 (TA12_int.ob (TA12_int.mk l16_5.c0 l16_5.c1 l16_5.c2 l16_5.c3 l16_5.c4 l16_5.c5 l16_5.c6 l16_5.c7 l16_5.c8 l16_5.c9 x19_1.Seq l16_5.c11))] [.i 10] (.c (c_ib (j := 10) (n := 12) b33_11 (Eq.refl true)) (.c (c_ii (j := 10) b33_11) .n)) (cR (cR (cR (cR (cR (cB (cL (cR (cB (cB (cR (cL (cR (cR (cR (cR (cR (cR (cR (cR bd5)))))))))))))))))))) [.blk 1, .seq (cR (cR (cB (cB (cR (cL (cR (cR (cR (cR (cR (cR (cR (cR bd5)))))))))))))), .lp (cB (cR (cL (cR (cR (cR (cR (cR (cR (cR (cR bd5)))))))))))] ?_
                exact kWk (Jk34 (TA12_int.mk l16_5.c0 l16_5.c1 l16_5.c2 l16_5.c3 l16_5.c4 l16_5.c5 l16_5.c6 l16_5.c7 l16_5.c8 l16_5.c9 x19_1.Seq l16_5.c11) h)
               ·rcases br_inv h with ⟨b33_12, h⟩ | ⟨b33_12, h⟩
                ·refine kRc 6142 [Ob 8 (TA12_int.ob (TA12_int.mk l16_5.c0 l16_5.c1 l16_5.c2 l16_5.c3 l16_5.c4 l16_5.c5 l16_5.c6 l16_5.c7 l16_5.c8 l16_5.c9 l16_5.c10 x19_1.Seq))] [.i 11] (.c (c_ib (j := 11) (n := 12) b33_12 (Eq.refl true)) (.c (c_ii (j := 11) b33_12) .n)) (cR (cR (cR (cR (cR (cB (cL (cR (cB (cB (cR (cL (cR (cR (cR (cR (cR (cR (cR (cR bd5)))))))))))))))))))) [.blk 1, .seq (cR (cR (cB (cB (cR (cL (cR (cR (cR (cR (cR (cR (cR (cR bd5)))))))))))))), .lp (cB (cR (cL (cR (cR (cR (cR (cR (cR (cR (cR bd5)))))))))))] ?_
                 exact kWk (Jk34 (TA12_int.mk l16_5.c0 l16_5.c1 l16_5.c2 l16_5.c3 l16_5.c4 l16_5.c5 l16_5.c6 l16_5.c7 l16_5.c8 l16_5.c9 l16_5.c10 x19_1.Seq) h)
                ·exact no_none h
    ·refine kCe b32_0 ?_
     refine kSk ?_
     refine kCd (cR (cR (cR (cR (cR (cB (cL (cR (cB (cB (cR (cL (cR (cR (cR (cR (cR (cR (cR (cR bd5)))))))))))))))))))) [.blk 1, .seq (cR (cR (cB (cB (cR (cL (cR (cR (cR (cR (cR (cR (cR (cR bd5)))))))))))))), .lp (cB (cR (cL (cR (cR (cR (cR (cR (cR (cR (cR bd5)))))))))))] ?_
     exact kWk (Jk34 l16_5 h)
   clear hk30
   rcases br_inv h with ⟨b29_1, h⟩ | ⟨b29_1, h⟩
   ·refine kRs 2047 [Tm 13 (bv (decide (x19_1.Seq > l16_5.c0)))] [.i 0] (.c (c_ib (j := 0) (n := 12) b29_1 (Eq.refl true)) (.c (c_ii (j := 0) b29_1) (.c rT .n))) ?_
    exact kWk (Jk30 (decide (x19_1.Seq > l16_5.c0)) h)
   ·rcases br_inv h with ⟨b29_2, h⟩ | ⟨b29_2, h⟩
    ·refine kRs 2047 [Tm 13 (bv (decide (x19_1.Seq > l16_5.c1)))] [.i 1] (.c (c_ib (j := 1) (n := 12) b29_2 (Eq.refl true)) (.c (c_ii (j := 1) b29_2) (.c rT .n))) ?_
     exact kWk (Jk30 (decide (x19_1.Seq > l16_5.c1)) h)
    ·rcases br_inv h with ⟨b29_3, h⟩ | ⟨b29_3, h⟩
     ·refine kRs 2047 [Tm 13 (bv (decide (x19_1.Seq > l16_5.c2)))] [.i 2] (.c (c_ib (j := 2) (n := 12) b29_3 (Eq.refl true)) (.c (c_ii (j := 2) b29_3) (.c rT .n))) ?_
      exact kWk (Jk30 (decide (x19_1.Seq > l16_5.c2)) h)
     ·rcases br_inv h with ⟨b29_4, h⟩ | ⟨b29_4, h⟩
      ·refine kRs 2047 [Tm 13 (bv (decide (x19_1.Seq > l16_5.c3)))] [.i 3] (.c (c_ib (j := 3) (n := 12) b29_4 (Eq.refl true)) (.c (c_ii (j := 3) b29_4) (.c rT .n))) ?_
       exact kWk (Jk30 (decide (x19_1.Seq > l16_5.c3)) h)
      ·rcases br_inv h with ⟨b29_5, h⟩ | ⟨b29_5, h⟩
       ·refine kRs 2047 [Tm 13 (bv (decide (x19_1.Seq > l16_5.c4)))] [.i 4] (.c (c_ib (j := 4) (n := 12) b29_5 (Eq.refl true)) (.c (c_ii (j := 4) b29_5) (.c rT .n))) ?_
        exact kWk (Jk30 (decide (x19_1.Seq > l16_5.c4)) h)
       ·rcases br_inv h with ⟨b29_6, h⟩ | ⟨b29_6, h⟩
        ·refine kRs 2047 [Tm 13 (bv (decide (x19_1.Seq > l16_5.c5)))] [.i 5] (.c (c_ib (j := 5) (n := 12) b29_6 (Eq.refl true)) (.c (c_ii (j := 5) b29_6) (.c rT .n))) ?_
         exact kWk (Jk30 (decide (x19_1.Seq > l16_5.c5)) h)
        ·rcases br_inv h with ⟨b29_7, h⟩ | ⟨b29_7, h⟩
         ·refine kRs 2047 [Tm 13 (bv (decide (x19_1.Seq > l16_5.c6)))] [.i 6] (.c (c_ib (j := 6) (n := 12) b29_7 (Eq.refl true)) (.c (c_ii (j := 6) b29_7) (.c rT .n))) ?_
          exact kWk (Jk30 (decide (x19_1.Seq > l16_5.c6)) h)
         ·rcases br_inv h with ⟨b29_8, h⟩ | ⟨b29_8, h⟩
          ·refine kRs 2047 [Tm 13 (bv (decide (x19_1.Seq > l16_5.c7)))] [.i 7] (.c (c_ib (j := 7) (n := 12) b29_8 (Eq.refl true)) (.c (c_ii (j := 7) b29_8) (.c rT .n))) ?_
           exact kWk (Jk30 (decide (x19_1.Seq > l16_5.c7)) h)
          ·rcases br_inv h with ⟨b29_9, h⟩ | ⟨b29_9, h⟩
           ·refine kRs 2047 [Tm 13 (bv (decide (x19_1.Seq > l16_5.c8)))] [.i 8] (.c (c_ib (j := 8) (n := 12) b29_9 (Eq.refl true)) (.c (c_ii (j := 8) b29_9) (.c rT .n))) ?_
            exact kWk (Jk30 (decide (x19_1.Seq > l16_5.c8)) h)
           ·rcases br_inv h with ⟨b29_10, h⟩ | ⟨b29_10, h⟩
            ·refine kRs 2047 [Tm 13 (bv (decide (x19_1.Seq > l16_5.c9)))] [.i 9] (.c (c_ib (j := 9) (n := 12) b29_10 (Eq.refl true)) (.c (c_ii (j := 9) b29_10) (.c rT .n))) ?_
             exact kWk (Jk30 (decide (x19_1.Seq > l16_5.c9)) h)
            ·rcases br_inv h with ⟨b29_11, h⟩ | ⟨b29_11, h⟩
             ·refine kRs 2047 [Tm 13 (bv (decide (x19_1.Seq > l16_5.c10)))] [.i 10] (.c (c_ib (j := 10) (n := 12) b29_11 (Eq.refl true)) (.c (c_ii (j := 10) b29_11) (.c rT .n))) ?_
              exact kWk (Jk30 (decide (x19_1.Seq > l16_5.c10)) h)
             ·rcases br_inv h with ⟨b29_12, h⟩ | ⟨b29_12, h⟩
              ·refine kRs 2047 [Tm 13 (bv (decide (x19_1.Seq > l16_5.c11)))] [.i 11] (.c (c_ib (j := 11) (n := 12) b29_12 (Eq.refl true)) (.c (c_ii (j := 11) b29_12) (.c rT .n))) ?_
               exact kWk (Jk30 (decide (x19_1.Seq > l16_5.c11)) h)
              ·exact no_none h
  ·refine kCe b18_0 ?_
   cases some_inj h
   refine kWo ?_
   refine kXt 0 ?_
   exact kOut
def diwanlaw18_JudgeMap.lp56 (fu : Nat) (l56_0 : List (ByteArray × Int)) (l56_2 : TStore) : Nat → Int → Option (Unit ⊕ Unit)
  | 0, _ => none
  | n_ + 1, l56_1 =>
  br (decide (l56_1 < (l56_2.Chains.length : Int)))
   (ix l56_2.Chains l56_1 fun x59_1 =>
   ix l56_2.Chains l56_1 fun x59_4 =>
   bd (diwanref13_LastOf x59_4.L) fun r59_7 =>
   br (((alook eqS l56_0 x59_1.Key).getD 0) != r59_7)
    (some (.inr ()))
    (diwanlaw18_JudgeMap.lp56 fu l56_0 l56_2 n_ (w64 (l56_1 + 1))))
   (some (.inl ()))
def diwanlaw18_JudgeMap.lp56_post (l56_0 : List (ByteArray × Int)) (l56_2 : TStore) (r_ : (Unit ⊕ Unit)) : Wy → St → Prop := fun e τ => match r_ with
  | .inl _ => e = .exit 6 ∧ τ = ofL [Tm 5 (.ptr 5 0), Tm 7 (.data (.mp 1 (mpe kvS kvI l56_0))), Ob 5 [sS 2 TChain.en l56_2.Chains, iv l56_2.Mark]]
  | .inr _ => e = .ret ∧ τ = ofL [Tm 2 (bv false)]
theorem diwanlaw18_JudgeMap.lp56_ok (fu : Nat) (l56_0 : List (ByteArray × Int)) (l56_2 : TStore) : ∀ (n_ : Nat) (l56_1 : Int) (r_ : (Unit ⊕ Unit)), diwanlaw18_JudgeMap.lp56 fu l56_0 l56_2 n_ l56_1 = some r_ → WK Try.prog diwanlaw18_JudgeMap.O (Ck Try.prog) (cB (cR (cL (cR (cR (cR (cR (cR (cR (cR (cR (cR bd5)))))))))))) [] (ofL [Tm 5 (.ptr 5 0), Tm 7 (.data (.mp 1 (mpe kvS kvI l56_0))), Tm 15 (iv l56_1), Ob 5 [sS 2 TChain.en l56_2.Chains, iv l56_2.Mark]]) (diwanlaw18_JudgeMap.lp56_post l56_0 l56_2 r_) := by
 intro n_
 induction n_ with
 | zero => intro l56_1 r_ h; exact no_none h
 | succ n_ ih =>
  intro l56_1 r_ h
  refine kLp ?_
  refine kSq ?_
  refine kRs 15 [Tm 144 (bv (decide (l56_1 < (l56_2.Chains.length : Int))))] [.s (.t 143) [iv (l56_2.Chains.length : Int)]] (.c (c_len (e := TChain.en) (l := l56_2.Chains)) .n) ?_
  rcases br_inv h with ⟨b58_0, h⟩ | ⟨b58_0, h⟩
  ·refine kCt b58_0 ?_
   refine kSk ?_
   refine kCd (cR (cB (cB (cR (cL (cR (cR (cR (cR (cR (cR (cR (cR (cR bd5)))))))))))))) [.lp (cB (cR (cL (cR (cR (cR (cR (cR (cR (cR (cR (cR bd5))))))))))))] ?_
   refine kSq ?_
   refine kBk 7 ?_
   obtain ⟨x59_1, a59_2, e59_3, h⟩ := ix_inv h
   obtain ⟨x59_4, a59_5, e59_6, h⟩ := ix_inv h
   obtain ⟨r59_7, h59_8, h⟩ := bd_inv h
   refine kRs 30 [Tm 162 (bv (((alook eqS l56_0 x59_1.Key).getD 0) != r59_7))] [.c (TChain.en x59_1), .s (.t 154) [iv ((alook eqS l56_0 x59_1.Key).getD 0)], .c (TChain.en x59_4), .a ⟨iv r59_7, []⟩] (.c (c_ix (e := TChain.en) a59_2 e59_3) (.c (c_el (e := TChain.en) e59_3) (.c (c_mget (f := kvS) (g := kvI) (eq := eqS) (fun _ _ => rfl) (l := l56_0) (k := x59_1.Key) (z := 0)) (.c (c_ix (e := TChain.en) a59_5 e59_6) (.c (c_el (e := TChain.en) e59_6) (.c (aoM (diwanref13_LastOf.meets x59_4.L _ h59_8)) (.c rT .n))))))) ?_
   rcases br_inv h with ⟨b60_0, h⟩ | ⟨b60_0, h⟩
   ·refine kCt b60_0 ?_
    refine kRs 0 [Tm 2 (bv false)] [] .n ?_
    cases some_inj h
    refine kWo ?_
    refine kRt ?_
    exact kOut
   ·refine kCe b60_0 ?_
    refine kSk ?_
    refine kCd (cR (cR (cB (cB (cR (cL (cR (cR (cR (cR (cR (cR (cR (cR (cR bd5))))))))))))))) [.lp (cB (cR (cL (cR (cR (cR (cR (cR (cR (cR (cR (cR bd5))))))))))))] ?_
    refine kRc 22 [Tm 15 (iv (w64 (l56_1 + 1)))] [] .n (cB (cR (cL (cR (cR (cR (cR (cR (cR (cR (cR (cR bd5)))))))))))) [] ?_
    exact kWk (ih (w64 (l56_1 + 1)) _ h)
  ·refine kCe b58_0 ?_
   cases some_inj h
   refine kWo ?_
   refine kXt 6 ?_
   exact kOut
def diwanlaw18_JudgeMap (fu : Nat) (picks : List Int) : Option Bool :=
 bd (diwanlaw18_begun fu) fun r2_1 =>
 br (!r2_1)
  (some false)
  (br (decide ((picks.length : Int) > 250))
   (some true)
   (bd (diwanplay_Made picks) fun r8_1 =>
   bd (diwanplay_Picks_Txns fu 25 r8_1) fun (r8_3, r8_4) =>
   bd (judge_Fold fu r8_3) fun (r9_1, r9_2, r9_3) =>
   br ((r9_1.length : Int) != (r8_3.length : Int))
    (some false)
    (bd (diwanlaw18_JudgeMap.lp16 fu r8_3 r9_1 r9_2 fu [] 0 (TA12_int.mk 0 0 0 0 0 0 0 0 0 0 0 0)) fun o_ => (match o_ with
    | .inl y54_0 =>
     bd (diwanlaw18_JudgeMap.lp56 fu y54_0 r9_2 fu 0) fun o_ => (match o_ with
     | .inl _ =>
      bd (diwanlaw18_zeros y54_0) fun r64_1 =>
      some ((r9_2.Chains.length : Int) == (w64 ((y54_0.length : Int) - r64_1)))
     | .inr _ =>
      some false)
    | .inr _ =>
     some false))))
theorem diwanlaw18_JudgeMap.meets (fu : Nat) (picks : List Int) (z0 : Bool) (h : diwanlaw18_JudgeMap fu picks = some z0) : Meets Try.prog ⟨5, [sS 1 e_u8 picks], []⟩ ⟨bv z0, []⟩ := by
 refine kMt hmix diwanlaw18_JudgeMap.O Try.f5 bd5 1 ?_
 unfold diwanlaw18_JudgeMap at h
 refine kRs 1 [] [] .n ?_
 refine kSq ?_
 obtain ⟨r2_1, h2_2, h⟩ := bd_inv h
 refine kRs 1 [Tm 17 (bv (!r2_1))] [.a ⟨bv r2_1, []⟩] (.c (aoM (diwanlaw18_begun.meets fu _ h2_2)) .n) ?_
 rcases br_inv h with ⟨b3_0, h⟩ | ⟨b3_0, h⟩
 ·refine kCt b3_0 ?_
  refine kRs 0 [Tm 2 (bv false)] [] .n ?_
  refine kRt ?_
  have h_ := some_inj h
  subst h_
  exact kFr
 ·refine kCe b3_0 ?_
  refine kSk ?_
  refine kCd (cR (cR bd5)) [] ?_
  refine kSq ?_
  refine kRs 2 [Tm 20 (bv (decide ((picks.length : Int) > 250)))] [.s (.t 19) [iv (picks.length : Int)]] (.c (c_len (e := e_u8) (l := picks)) .n) ?_
  rcases br_inv h with ⟨b6_0, h⟩ | ⟨b6_0, h⟩
  ·refine kCt b6_0 ?_
   refine kRs 0 [Tm 2 (bv true)] [] .n ?_
   refine kRt ?_
   have h_ := some_inj h
   subst h_
   exact kFr
  ·refine kCe b6_0 ?_
   refine kSk ?_
   refine kCd (cR (cR (cR bd5))) [] ?_
   obtain ⟨r8_1, h8_2, h⟩ := bd_inv h
   obtain ⟨⟨r8_3, r8_4⟩, h8_5, h⟩ := bd_inv h
   refine kRs 0 [Tm 3 (sO 4 TTxn.en r8_3)] [.a ⟨.ptr 1000 0, [[sS 1 e_u8 r8_1.l, iv r8_1.n]]⟩, .a ⟨sO 4 TTxn.en r8_3, [[sS 1 e_u8 r8_4.l, iv r8_4.n]]⟩] (.c (aoM (diwanplay_Made.meets picks _ h8_2)) (.c (aoM (diwanplay_Picks_Txns.meets fu 25 r8_1 _ _ h8_5)) .n)) ?_
   obtain ⟨⟨r9_1, r9_2, r9_3⟩, h9_4, h⟩ := bd_inv h
   refine kRs 0 [Tm 3 (sS 4 TTxn.en r8_3), Tm 4 (sS 1 e_i64 r9_1), Tm 5 (.ptr 5 0), Ob 5 [sS 2 TChain.en r9_2.Chains, iv r9_2.Mark]] [.a ⟨.tup [sS 1 e_i64 r9_1, .data (.agg [.slc false none 2 (List.map TChain.en r9_2.Chains), .val (.int .i64 r9_2.Mark)]), sS 3 TSeat.en r9_3], []⟩] (.c (aoM (judge_Fold.meets fu r8_3 _ _ _ h9_4)) .n) ?_
   refine kSq ?_
   refine kRs 15 [Tm 34 (bv ((r9_1.length : Int) != (r8_3.length : Int)))] [.s (.t 31) [iv (r9_1.length : Int)], .s (.t 33) [iv (r8_3.length : Int)]] (.c (c_len (e := e_i64) (l := r9_1)) (.c (c_len (e := TTxn.en) (l := r8_3)) .n)) ?_
   rcases br_inv h with ⟨b11_0, h⟩ | ⟨b11_0, h⟩
   ·refine kCt b11_0 ?_
    refine kRs 0 [Tm 2 (bv false)] [] .n ?_
    refine kRt ?_
    have h_ := some_inj h
    subst h_
    exact kFr
   ·refine kCe b11_0 ?_
    refine kSk ?_
    refine kCd (cR (cR (cR (cR (cR (cR bd5)))))) [] ?_
    refine kRs 30 [Tm 7 (.data (.mp 1 (mpe kvS kvI [])))] [] .n ?_
    refine kRs 31 [Tm 8 (.ptr 8 0), Ob 8 (TA12_int.ob (TA12_int.mk 0 0 0 0 0 0 0 0 0 0 0 0))] [] .n ?_
    refine kSq ?_
    refine kRs 127 [Tm 9 (iv 0)] [] .n ?_
    refine kBk 0 ?_
    obtain ⟨o54, ho54, h⟩ := bd_inv h
    refine kUs (diwanlaw18_JudgeMap.lp16_ok fu r8_3 r9_1 r9_2 _ [] 0 (TA12_int.mk 0 0 0 0 0 0 0 0 0 0 0 0) _ ho54) ?_
    intro e_ τ_ hp_
    rcases o54 with o54 | o54
    ·obtain ⟨y54_0, rfl⟩ : ∃ y, y = o54 := ⟨_, rfl⟩
     obtain ⟨rfl, rfl⟩ := hp_
     refine kCd (cR (cR (cR (cR (cR (cR (cR (cR (cR bd5))))))))) [] ?_
     refine kSq ?_
     refine kRs 7 [Tm 15 (iv 0)] [] .n ?_
     refine kBk 6 ?_
     obtain ⟨o63, ho63, h⟩ := bd_inv h
     refine kUs (diwanlaw18_JudgeMap.lp56_ok fu y54_0 r9_2 _ 0 _ ho63) ?_
     intro e_ τ_ hp_
     rcases o63 with o63 | o63
     ·obtain ⟨⟩ := o63
      obtain ⟨rfl, rfl⟩ := hp_
      refine kCd (cR (cR (cR (cR (cR (cR (cR (cR (cR (cR bd5)))))))))) [] ?_
      obtain ⟨r64_1, h64_2, h⟩ := bd_inv h
      refine kRs 0 [Tm 2 (bv ((r9_2.Chains.length : Int) == (w64 ((y54_0.length : Int) - r64_1))))] [.s (.t 165) [iv (r9_2.Chains.length : Int)], .s (.t 167) [iv (y54_0.length : Int)], .a ⟨iv r64_1, []⟩] (.c (c_len (e := TChain.en) (l := r9_2.Chains)) (.c (c_mlen (f := kvS) (g := kvI) (l := y54_0)) (.c (Asks.of (C := Okay Try.prog) (diwanlaw18_zeros.meets y54_0 _ h64_2)) (.c rT .n)))) ?_
      refine kRt ?_
      have h_ := some_inj h
      subst h_
      exact kFr
     ·obtain ⟨⟩ := o63
      obtain ⟨rfl, rfl⟩ := hp_
      have h_ := some_inj h
      subst h_
      exact kFr
    ·obtain ⟨⟩ := o54
     obtain ⟨rfl, rfl⟩ := hp_
     have h_ := some_inj h
     subst h_
     exact kFr
def bd22 : Code := (Try.f22.body).getD .skip
def diwanref13_Turn.O : Nat → Nat := fun t => bif ([8, 9, 10, 11, 12, 56, 59, 67, 68, 72] : List Nat).any (Nat.beq t) then 1 else 0
def diwanref13_Turn.lp4 (fu : Nat) (l4_0 : Int) (l4_1 : Int) (l4_2 : Int) (l4_3 : List TSeat) : Nat → Int → Option Int
  | 0, _ => none
  | n_ + 1, l4_4 =>
  br (decide (l4_4 < (l4_3.length : Int)))
   (ix l4_3 l4_4 fun x5_2 =>
   br (decide (x5_2.Session < l4_0))
    (diwanref13_Turn.lp4 fu l4_0 l4_1 l4_2 l4_3 n_ (w64 (l4_4 + 1)))
    (some l4_4))
   (some l4_4)
def diwanref13_Turn.lp4_post (l4_0 : Int) (l4_1 : Int) (l4_2 : Int) (l4_3 : List TSeat) (r_ : Int) : Wy → St → Prop := fun e τ => match r_ with
  | y0 => e = .exit 0 ∧ τ = ofL [Tm 1 (iv l4_0), Tm 2 (iv l4_1), Tm 3 (iv l4_2), Tm 10 (sO 3 TSeat.en l4_3), Tm 11 (iv y0)]
theorem diwanref13_Turn.lp4_ok (fu : Nat) (l4_0 : Int) (l4_1 : Int) (l4_2 : Int) (l4_3 : List TSeat) : ∀ (n_ : Nat) (l4_4 : Int) (r_ : Int), diwanref13_Turn.lp4 fu l4_0 l4_1 l4_2 l4_3 n_ l4_4 = some r_ → WK Try.prog diwanref13_Turn.O (Ck Try.prog) (cB (cL (cR (cR (cR bd22))))) [] (ofL [Tm 1 (iv l4_0), Tm 2 (iv l4_1), Tm 3 (iv l4_2), Tm 10 (sO 3 TSeat.en l4_3), Tm 11 (iv l4_4)]) (diwanref13_Turn.lp4_post l4_0 l4_1 l4_2 l4_3 r_) := by
 intro n_
 induction n_ with
 | zero => intro l4_4 r_ h; exact no_none h
 | succ n_ ih =>
  intro l4_4 r_ h
  refine kLp ?_
  refine kSq ?_
  rcases br_inv h with ⟨b5_1, h⟩ | ⟨b5_1, h⟩
  ·obtain ⟨x5_2, a5_3, e5_4, h⟩ := ix_inv h
   refine kRs 31 [Tm 27 (bv (decide (x5_2.Session < l4_0)))] (.s (.t 17) [iv (l4_3.length : Int)] :: (rp 5 (.b true) [.c (TSeat.en x5_2), .b true, .b true, .b true])) (.c (c_len (e := TSeat.en) (l := l4_3)) (.r 3 b5_1 (.c (c_ix (e := TSeat.en) a5_3 e5_4) (.r 2 b5_1 (.c (c_el (e := TSeat.en) e5_4) (.r 3 b5_1 .n)))))) ?_
   rcases br_inv h with ⟨b6_0, h⟩ | ⟨b6_0, h⟩
   ·refine kCt b6_0 ?_
    refine kSk ?_
    refine kCd (cR (cB (cB (cL (cR (cR (cR bd22))))))) [.lp (cB (cL (cR (cR (cR bd22)))))] ?_
    refine kBk 1 ?_
    refine kRc 30 [Tm 11 (iv (w64 (l4_4 + 1)))] [] .n (cB (cL (cR (cR (cR bd22))))) [] ?_
    exact kWk (ih (w64 (l4_4 + 1)) _ h)
   ·refine kCe b6_0 ?_
    cases some_inj h
    refine kWo ?_
    refine kXt 0 ?_
    exact kOut
  ·refine kRs 31 [Tm 27 (bv false)] (.s (.t 17) [iv (l4_3.length : Int)] :: (rp 8 (.b false) [])) (.c (c_len (e := TSeat.en) (l := l4_3)) (.r 8 b5_1 .n)) ?_
   refine kCe rF ?_
   cases some_inj h
   refine kWo ?_
   refine kXt 0 ?_
   exact kOut
def diwanref13_Turn (fu : Nat) (l : List TSeat) (session : Int) (seq : Int) (pos : Int) : Option (List TSeat × Bool) :=
 gd (decide (([] : List TSeat).length + l.length ≤ 4294967296)) <|
 bd (diwanref13_Turn.lp4 fu session seq pos l fu 0) fun y8_0 =>
 jn (
  gd (decide ((0 : Int) ≤ y8_0 ∧ y8_0 ≤ (l.length : Int))) <|
  gd (decide (([] : List TSeat).length + (List.take y8_0.toNat l).length ≤ 4294967296)) <|
  gd (decide ((List.take y8_0.toNat l).length + ([(TSeat.mk session seq pos)] : List TSeat).length ≤ 4294967296)) <|
  gd (decide ((0 : Int) ≤ y8_0 ∧ y8_0 ≤ (l.length : Int))) <|
  gd (decide (((List.take y8_0.toNat l) ++ ([(TSeat.mk session seq pos)] : List TSeat)).length + (List.drop y8_0.toNat l).length ≤ 4294967296)) <|
  some ((((List.take y8_0.toNat l) ++ ([(TSeat.mk session seq pos)] : List TSeat)) ++ (List.drop y8_0.toNat l)), true)) fun k16 =>
 br (decide (y8_0 < (l.length : Int)))
  (ix l y8_0 fun x9_2 =>
  br (x9_2.Session == session)
   (ix l y8_0 fun x11_1 =>
   br (decide (seq ≤ x11_1.Seq))
    (some (l, false))
    (ix l y8_0 fun x14_1 =>
    some ((l.set y8_0.toNat (TSeat.mk session seq pos)), true)))
   (k16))
  (k16)
theorem diwanref13_Turn.meets (fu : Nat) (l : List TSeat) (session : Int) (seq : Int) (pos : Int) (z0 : List TSeat) (z1 : Bool) (h : diwanref13_Turn fu l session seq pos = some (z0, z1)) : Meets Try.prog ⟨22, [sS 3 TSeat.en l, iv session, iv seq, iv pos], []⟩ ⟨.tup [sS 3 TSeat.en z0, bv z1], []⟩ := by
 refine kMt hmix diwanref13_Turn.O Try.f22 bd22 15 ?_
 unfold diwanref13_Turn at h
 refine kRs 15 [] [] .n ?_
 obtain ⟨c2_1, h⟩ := gd_inv h
 refine kRs 14 [Tm 10 (sO 3 TSeat.en l)] [] (.c (c_al (e := TSeat.en) (f := TSeat.en) c2_1) .n) ?_
 refine kRs 15 [Tm 11 (iv 0)] [] .n ?_
 refine kSq ?_
 refine kBk 0 ?_
 obtain ⟨o8, ho8, h⟩ := bd_inv h
 refine kUs (diwanref13_Turn.lp4_ok fu session seq pos l _ 0 _ ho8) ?_
 intro e_ τ_ hp_
 obtain ⟨y8_0, rfl⟩ : ∃ y, y = o8 := ⟨_, rfl⟩
 obtain ⟨rfl, rfl⟩ := hp_
 refine kCd (cR (cR (cR (cR bd22)))) [] ?_
 obtain ⟨k16, hk16, h⟩ := jn_inv h
 have Jk16 : k16 = some (z0, z1) → WK Try.prog diwanref13_Turn.O (Ck Try.prog) (cR (cR (cR (cR (cR bd22))))) [] (ofL [Tm 1 (iv session), Tm 2 (iv seq), Tm 3 (iv pos), Tm 10 (sO 3 TSeat.en l), Tm 11 (iv y8_0)]) (Fin Try.prog diwanref13_Turn.O Try.f22 0 ⟨.tup [sS 3 TSeat.en z0, bv z1], []⟩) := by
  intro h
  rw [hk16] at h
  refine WK.share (x := .tmp 10) (l' := [Tm 1 (iv session), Tm 2 (iv seq), Tm 3 (iv pos), Tm 10 (sS 3 TSeat.en l), Tm 11 (iv y8_0)]) (by kernel_rfl) ?_
  obtain ⟨c17_1, h⟩ := gd_inv h
  obtain ⟨c17_2, h⟩ := gd_inv h
  obtain ⟨c17_3, h⟩ := gd_inv h
  obtain ⟨c17_4, h⟩ := gd_inv h
  obtain ⟨c17_5, h⟩ := gd_inv h
  refine kRs 0 [Tm 8 (sO 3 TSeat.en (((List.take y8_0.toNat l) ++ ([(TSeat.mk session seq pos)] : List TSeat)) ++ (List.drop y8_0.toNat l))), Tm 9 (bv true)] [.s (.t 62) [sS 3 TSeat.en (List.take y8_0.toNat l)], .s (.t 69) [sO 3 TSeat.en ((List.take y8_0.toNat l) ++ ([(TSeat.mk session seq pos)] : List TSeat))], .s (.t 72) [sS 3 TSeat.en (List.drop y8_0.toNat l)], .s (.t 73) [sO 3 TSeat.en (((List.take y8_0.toNat l) ++ ([(TSeat.mk session seq pos)] : List TSeat)) ++ (List.drop y8_0.toNat l))]] (.c (c_cbH (e := TSeat.en) c17_1) (.c (congrArg (fun d : DV => [AV.data d]) (c_cutH (own := false) (nl := none) (s := 3) (e := TSeat.en) (l := l) (h := y8_0.toNat))) (.c (c_al (e := TSeat.en) (f := TSeat.en) c17_2) (.c (c_al (e := TSeat.en) (f := TSeat.en) c17_3) (.c (congrArg (fun d : DV => [AV.data d]) (c_app (e := TSeat.en) (s := 3) (l := (List.take y8_0.toNat l)) (m := ([(TSeat.mk session seq pos)] : List TSeat)))) (.c (c_cbL (e := TSeat.en) c17_4) (.c (congrArg (fun d : DV => [AV.data d]) (c_cutL (own := false) (nl := none) (s := 3) (e := TSeat.en) (l := l) (lo := y8_0.toNat))) (.c (c_al (e := TSeat.en) (f := TSeat.en) c17_5) (.c (congrArg (fun d : DV => [AV.data d]) (c_app (e := TSeat.en) (s := 3) (l := ((List.take y8_0.toNat l) ++ ([(TSeat.mk session seq pos)] : List TSeat))) (m := (List.drop y8_0.toNat l)))) (.c rT .n)))))))))) ?_
  refine kRt ?_
  have h_0 := some_inj h
  obtain ⟨g_1, h_1⟩ := Prod.mk.inj h_0
  subst g_1
  subst h_1
  exact kFr
 clear hk16
 refine kSq ?_
 rcases br_inv h with ⟨b9_1, h⟩ | ⟨b9_1, h⟩
 ·obtain ⟨x9_2, a9_3, e9_4, h⟩ := ix_inv h
  refine kRs 31 [Tm 42 (bv (x9_2.Session == session))] (.s (.t 32) [iv (l.length : Int)] :: (rp 5 (.b true) [.c (TSeat.en x9_2), .b true, .b true, .b true])) (.c (c_len (e := TSeat.en) (l := l)) (.r 3 b9_1 (.c (c_ix (e := TSeat.en) a9_3 e9_4) (.r 2 b9_1 (.c (c_el (e := TSeat.en) e9_4) (.r 3 b9_1 .n)))))) ?_
  rcases br_inv h with ⟨b10_0, h⟩ | ⟨b10_0, h⟩
  ·refine kCt b10_0 ?_
   refine kSq ?_
   obtain ⟨x11_1, a11_2, e11_3, h⟩ := ix_inv h
   refine kRs 62 [Tm 49 (bv (decide (seq ≤ x11_1.Seq)))] [.c (TSeat.en x11_1)] (.c (c_ix (e := TSeat.en) a11_2 e11_3) (.c (c_el (e := TSeat.en) e11_3) .n)) ?_
   rcases br_inv h with ⟨b12_0, h⟩ | ⟨b12_0, h⟩
   ·refine kCt b12_0 ?_
    refine kRs 0 [Tm 8 (sO 3 TSeat.en l), Tm 9 (bv false)] [] .n ?_
    refine kRt ?_
    have h_0 := some_inj h
    obtain ⟨g_1, h_1⟩ := Prod.mk.inj h_0
    subst g_1
    subst h_1
    exact kFr
   ·refine kCe b12_0 ?_
    refine kSk ?_
    refine kCd (cR (cT (cR (cL (cR (cR (cR (cR bd22)))))))) [.seq (cR (cR (cR (cR (cR bd22)))))] ?_
    obtain ⟨x14_1, a14_2, e14_3, h⟩ := ix_inv h
    refine kRs 0 [Tm 10 (sO 3 TSeat.en (l.set y8_0.toNat (TSeat.mk session seq pos)))] [.c (TSeat.en x14_1), .s (.t 10) [sO 3 TSeat.en (l.set y8_0.toNat (TSeat.mk session seq pos))]] (.c (c_ix (e := TSeat.en) a14_2 e14_3) (.c (c_el (e := TSeat.en) e14_3) (.c (congrArg (fun d : DV => [AV.data d]) (c_set (e := TSeat.en) (s := 3) (nl := none) (l := l) (i := y8_0.toNat) (x := (TSeat.mk session seq pos)))) .n))) ?_
    refine kRs 0 [Tm 8 (sO 3 TSeat.en (l.set y8_0.toNat (TSeat.mk session seq pos))), Tm 9 (bv true)] [] .n ?_
    refine kRt ?_
    have h_0 := some_inj h
    obtain ⟨g_1, h_1⟩ := Prod.mk.inj h_0
    subst g_1
    subst h_1
    exact kFr
  ·refine kCe b10_0 ?_
   refine kSk ?_
   refine kCd (cR (cR (cR (cR (cR bd22))))) [] ?_
   exact kWk (Jk16 h)
 ·refine kRs 31 [Tm 42 (bv false)] (.s (.t 32) [iv (l.length : Int)] :: (rp 8 (.b false) [])) (.c (c_len (e := TSeat.en) (l := l)) (.r 8 b9_1 .n)) ?_
  refine kCe rF ?_
  refine kSk ?_
  refine kCd (cR (cR (cR (cR (cR bd22))))) [] ?_
  exact kWk (Jk16 h)
def bd31 : Code := (Try.f31.body).getD .skip
def diwanref13_chain.O : Nat → Nat := fun t => bif ([2, 5] : List Nat).any (Nat.beq t) then 1 else bif ([4] : List Nat).any (Nat.beq t) then 2 else 0
def diwanref13_chain.lp3 (fu : Nat) (l3_0 : ByteArray) (l3_2 : TStore) : Nat → Int → Option (Unit ⊕ (List TVersion))
  | 0, _ => none
  | n_ + 1, l3_1 =>
  br (decide (l3_1 < (l3_2.Chains.length : Int)))
   (ix l3_2.Chains l3_1 fun x6_1 =>
   br (x6_1.Key.toList == l3_0.toList)
    (ix l3_2.Chains l3_1 fun x8_1 =>
    some (.inr x8_1.L))
    (diwanref13_chain.lp3 fu l3_0 l3_2 n_ (w64 (l3_1 + 1))))
   (some (.inl ()))
def diwanref13_chain.lp3_post (l3_0 : ByteArray) (l3_2 : TStore) (r_ : (Unit ⊕ (List TVersion))) : Wy → St → Prop := fun e τ => match r_ with
  | .inl _ => e = .exit 0 ∧ τ = ofL []
  | .inr y0 => e = .ret ∧ τ = ofL [Tm 4 (sS 3 TVersion.en y0)]
theorem diwanref13_chain.lp3_ok (fu : Nat) (l3_0 : ByteArray) (l3_2 : TStore) : ∀ (n_ : Nat) (l3_1 : Int) (r_ : (Unit ⊕ (List TVersion))), diwanref13_chain.lp3 fu l3_0 l3_2 n_ l3_1 = some r_ → WK Try.prog diwanref13_chain.O (Ck Try.prog) (cB (cR (cL (cR bd31)))) [] (ofL [Tm 1 (sv l3_0), Tm 2 (.ptr 2 0), Tm 5 (iv l3_1), Ob 2 [sS 2 TChain.en l3_2.Chains, iv l3_2.Mark]]) (diwanref13_chain.lp3_post l3_0 l3_2 r_) := by
 intro n_
 induction n_ with
 | zero => intro l3_1 r_ h; exact no_none h
 | succ n_ ih =>
  intro l3_1 r_ h
  refine kLp ?_
  refine kSq ?_
  refine kRs 15 [Tm 10 (bv (decide (l3_1 < (l3_2.Chains.length : Int))))] [.s (.t 9) [iv (l3_2.Chains.length : Int)]] (.c (c_len (e := TChain.en) (l := l3_2.Chains)) .n) ?_
  rcases br_inv h with ⟨b5_0, h⟩ | ⟨b5_0, h⟩
  ·refine kCt b5_0 ?_
   refine kSk ?_
   refine kCd (cR (cB (cB (cR (cL (cR bd31)))))) [.lp (cB (cR (cL (cR bd31))))] ?_
   refine kSq ?_
   refine kBk 1 ?_
   obtain ⟨x6_1, a6_2, e6_3, h⟩ := ix_inv h
   refine kRs 30 [Tm 20 (bv (x6_1.Key.toList == l3_0.toList))] [.c (TChain.en x6_1)] (.c (c_ix (e := TChain.en) a6_2 e6_3) (.c (c_el (e := TChain.en) e6_3) .n)) ?_
   rcases br_inv h with ⟨b7_0, h⟩ | ⟨b7_0, h⟩
   ·refine kCt b7_0 ?_
    obtain ⟨x8_1, a8_2, e8_3, h⟩ := ix_inv h
    refine kRs 0 [Tm 4 (sS 3 TVersion.en x8_1.L)] [.c (TChain.en x8_1)] (.c (c_ix (e := TChain.en) a8_2 e8_3) (.c (c_el (e := TChain.en) e8_3) .n)) ?_
    cases some_inj h
    refine kWo ?_
    refine kRt ?_
    exact kOut
   ·refine kCe b7_0 ?_
    refine kSk ?_
    refine kCd (cR (cR (cB (cB (cR (cL (cR bd31))))))) [.lp (cB (cR (cL (cR bd31))))] ?_
    refine kRc 22 [Tm 5 (iv (w64 (l3_1 + 1)))] [] .n (cB (cR (cL (cR bd31)))) [] ?_
    exact kWk (ih (w64 (l3_1 + 1)) _ h)
  ·refine kCe b5_0 ?_
   cases some_inj h
   refine kWo ?_
   refine kXt 0 ?_
   exact kOut
def diwanref13_chain (fu : Nat) (s : TStore) (key : ByteArray) : Option (List TVersion) :=
 bd (diwanref13_chain.lp3 fu key s fu 0) fun o_ => (match o_ with
 | .inl _ =>
  some []
 | .inr y10_0 =>
  some y10_0)
theorem diwanref13_chain.meets (fu : Nat) (s : TStore) (key : ByteArray) (z0 : List TVersion) (h : diwanref13_chain fu s key = some z0) : Meets Try.prog ⟨31, [.data (.agg [.slc false none 2 (List.map TChain.en s.Chains), .val (.int .i64 s.Mark)]), sv key], []⟩ ⟨sS 3 TVersion.en z0, []⟩ := by
 refine kMt hmix diwanref13_chain.O Try.f31 bd31 3 ?_
 unfold diwanref13_chain at h
 refine kRs 2 [Tm 2 (.ptr 2 0), Ob 2 [sS 2 TChain.en s.Chains, iv s.Mark]] [] .n ?_
 refine kSq ?_
 refine kRs 7 [Tm 5 (iv 0)] [] .n ?_
 refine kBk 0 ?_
 obtain ⟨o10, ho10, h⟩ := bd_inv h
 refine kUs (diwanref13_chain.lp3_ok fu key s _ 0 _ ho10) ?_
 intro e_ τ_ hp_
 rcases o10 with o10 | o10
 ·obtain ⟨⟩ := o10
  obtain ⟨rfl, rfl⟩ := hp_
  refine kCd (cR (cR bd31)) [] ?_
  refine kRs 0 [Tm 4 (.data (.slc false (some true) 3 (List.map TVersion.en [])))] [] .n ?_
  refine kWd 0 [Tm 4 (.data (.slc false none 3 (List.map TVersion.en [])))] ?_
  refine kRt ?_
  have h_ := some_inj h
  subst h_
  exact kFr
 ·obtain ⟨y10_0, rfl⟩ : ∃ y, y = o10 := ⟨_, rfl⟩
  obtain ⟨rfl, rfl⟩ := hp_
  have h_ := some_inj h
  subst h_
  exact kFr
def bd23 : Code := (Try.f23.body).getD .skip
def diwanref13_Last.O : Nat → Nat := fun t => bif ([2, 4] : List Nat).any (Nat.beq t) then 1 else 0
def diwanref13_Last (fu : Nat) (s : TStore) (key : ByteArray) : Option Int :=
 bd (diwanref13_chain fu s key) fun r2_1 =>
 bd (diwanref13_LastOf r2_1) fun r2_3 =>
 some r2_3
theorem diwanref13_Last.meets (fu : Nat) (s : TStore) (key : ByteArray) (z0 : Int) (h : diwanref13_Last fu s key = some z0) : Meets Try.prog ⟨23, [.data (.agg [.slc false none 2 (List.map TChain.en s.Chains), .val (.int .i64 s.Mark)]), sv key], []⟩ ⟨iv z0, []⟩ := by
 refine kMt hmix diwanref13_Last.O Try.f23 bd23 3 ?_
 unfold diwanref13_Last at h
 refine kRs 2 [Tm 2 (.ptr 2 0), Ob 2 [sS 2 TChain.en s.Chains, iv s.Mark]] [] .n ?_
 obtain ⟨r2_1, h2_2, h⟩ := bd_inv h
 obtain ⟨r2_3, h2_4, h⟩ := bd_inv h
 refine kRs 0 [Tm 4 (iv r2_3)] [.a ⟨sS 3 TVersion.en r2_1, []⟩, .a ⟨iv r2_3, []⟩] (.c (aoM (diwanref13_chain.meets fu s key _ h2_2)) (.c (aoM (diwanref13_LastOf.meets r2_1 _ h2_4)) .n)) ?_
 refine kRt ?_
 have h_ := some_inj h
 subst h_
 exact kFr
def bd32 : Code := (Try.f32.body).getD .skip
def diwanref13_Add.O : Nat → Nat := fun t => bif ([3, 4, 5, 6, 17] : List Nat).any (Nat.beq t) then 1 else 0
def diwanref13_Add (l : List TVersion) (v : TVersion) : Option (List TVersion) :=
 gd (decide (([] : List TVersion).length + l.length ≤ 4294967296)) <|
 bd (diwanref13_LastOf l) fun r3_1 =>
 br (decide (v.Pos ≤ r3_1))
  (some l)
  (gd (decide (l.length + ([v] : List TVersion).length ≤ 4294967296)) <|
  some (l ++ ([v] : List TVersion)))
theorem diwanref13_Add.meets (l : List TVersion) (v : TVersion) (z0 : List TVersion) (h : diwanref13_Add l v = some z0) : Meets Try.prog ⟨32, [sS 3 TVersion.en l, .data (TVersion.ag v)], []⟩ ⟨sO 3 TVersion.en z0, []⟩ := by
 refine kMt hmix diwanref13_Add.O Try.f32 bd32 3 ?_
 unfold diwanref13_Add at h
 refine kRs 1 [Tm 3 (.ptr 3 0), Ob 3 (TVersion.ob v)] [] .n ?_
 obtain ⟨c2_1, h⟩ := gd_inv h
 refine kRs 7 [Tm 5 (sO 3 TVersion.en l)] [] (.c (c_al (e := TVersion.en) (f := TVersion.en) c2_1) .n) ?_
 refine kSq ?_
 obtain ⟨r3_1, h3_2, h⟩ := bd_inv h
 refine kRs 7 [Tm 13 (bv (decide (v.Pos ≤ r3_1)))] [.a ⟨iv r3_1, []⟩] (.c (aoM (diwanref13_LastOf.meets l _ h3_2)) (.c rT .n)) ?_
 rcases br_inv h with ⟨b4_0, h⟩ | ⟨b4_0, h⟩
 ·refine kCt b4_0 ?_
  refine kRs 0 [Tm 4 (sO 3 TVersion.en l)] [] .n ?_
  refine kRt ?_
  have h_ := some_inj h
  subst h_
  exact kFr
 ·refine kCe b4_0 ?_
  refine kSk ?_
  refine kCd (cR (cR (cR bd32))) [] ?_
  obtain ⟨c6_1, h⟩ := gd_inv h
  refine kRs 0 [Tm 4 (sO 3 TVersion.en (l ++ ([v] : List TVersion)))] [.s (.t 18) [sO 3 TVersion.en (l ++ ([v] : List TVersion))]] (.c (c_al (e := TVersion.en) (f := TVersion.en) c6_1) (.c (congrArg (fun d : DV => [AV.data d]) (c_app (e := TVersion.en) (s := 3) (l := l) (m := ([v] : List TVersion)))) .n)) ?_
  refine kRt ?_
  have h_ := some_inj h
  subst h_
  exact kFr
def bd24 : Code := (Try.f24.body).getD .skip
def diwanref13_Write.O : Nat → Nat := fun t => bif ([3, 6, 7, 8, 9, 10, 13, 17, 64, 72, 73, 79, 95, 99] : List Nat).any (Nat.beq t) then 1 else bif ([96] : List Nat).any (Nat.beq t) then 2 else 0
def diwanref13_Write.lp9 (fu : Nat) (l9_0 : Int) (l9_1 : List TWrite) (l9_2 : Int) (l9_4 : TStore) (l9_5 : TStore) (l9_6 : TWrite) : Nat → Int → Option Int
  | 0, _ => none
  | n_ + 1, l9_3 =>
  br (decide (l9_3 < (l9_5.Chains.length : Int)))
   (ix l9_5.Chains l9_3 fun x10_2 =>
   br (Op.bytesLess x10_2.Key.toList l9_6.Key.toList)
    (diwanref13_Write.lp9 fu l9_0 l9_1 l9_2 l9_4 l9_5 l9_6 n_ (w64 (l9_3 + 1)))
    (some l9_3))
   (some l9_3)
def diwanref13_Write.lp9_post (l9_0 : Int) (l9_1 : List TWrite) (l9_2 : Int) (l9_4 : TStore) (l9_5 : TStore) (l9_6 : TWrite) (r_ : Int) : Wy → St → Prop := fun e τ => match r_ with
  | y0 => e = .exit 2 ∧ τ = ofL [Tm 1 (iv l9_0), Tm 2 (sS 3 TWrite.en l9_1), Tm 6 (.ptr 6 0), Tm 7 (.ptr 7 0), Tm 8 (iv l9_2), Tm 9 (.ptr 9 0), Tm 10 (iv y0), Ob 6 [sO 2 TChain.en l9_4.Chains, iv l9_4.Mark], Ob 7 [sO 2 TChain.en l9_5.Chains, iv l9_5.Mark], Ob 9 (TWrite.ob l9_6)]
theorem diwanref13_Write.lp9_ok (fu : Nat) (l9_0 : Int) (l9_1 : List TWrite) (l9_2 : Int) (l9_4 : TStore) (l9_5 : TStore) (l9_6 : TWrite) : ∀ (n_ : Nat) (l9_3 : Int) (r_ : Int), diwanref13_Write.lp9 fu l9_0 l9_1 l9_2 l9_4 l9_5 l9_6 n_ l9_3 = some r_ → WK Try.prog diwanref13_Write.O (Ck Try.prog) (cB (cL (cR (cR (cB (cL (cR (cB (cB (cR (cL (cR (cR bd24))))))))))))) [] (ofL [Tm 1 (iv l9_0), Tm 2 (sS 3 TWrite.en l9_1), Tm 6 (.ptr 6 0), Tm 7 (.ptr 7 0), Tm 8 (iv l9_2), Tm 9 (.ptr 9 0), Tm 10 (iv l9_3), Ob 6 [sO 2 TChain.en l9_4.Chains, iv l9_4.Mark], Ob 7 [sO 2 TChain.en l9_5.Chains, iv l9_5.Mark], Ob 9 (TWrite.ob l9_6)]) (diwanref13_Write.lp9_post l9_0 l9_1 l9_2 l9_4 l9_5 l9_6 r_) := by
 intro n_
 induction n_ with
 | zero => intro l9_3 r_ h; exact no_none h
 | succ n_ ih =>
  intro l9_3 r_ h
  refine kLp ?_
  refine kSq ?_
  rcases br_inv h with ⟨b10_1, h⟩ | ⟨b10_1, h⟩
  ·obtain ⟨x10_2, a10_3, e10_4, h⟩ := ix_inv h
   refine kRs 1023 [Tm 43 (bv (Op.bytesLess x10_2.Key.toList l9_6.Key.toList))] (.s (.t 31) [iv (l9_5.Chains.length : Int)] :: (rp 6 (.b true) (.c (TChain.en x10_2) :: (rp 4 (.b true) [])))) (.c (c_len (e := TChain.en) (l := l9_5.Chains)) (.r 4 b10_1 (.c (c_ix (e := TChain.en) a10_3 e10_4) (.r 2 b10_1 (.c (c_el (e := TChain.en) e10_4) (.r 4 b10_1 (.c rT .n))))))) ?_
   rcases br_inv h with ⟨b11_0, h⟩ | ⟨b11_0, h⟩
   ·refine kCt b11_0 ?_
    refine kSk ?_
    refine kCd (cR (cB (cB (cL (cR (cR (cB (cL (cR (cB (cB (cR (cL (cR (cR bd24))))))))))))))) [.lp (cB (cL (cR (cR (cB (cL (cR (cB (cB (cR (cL (cR (cR bd24)))))))))))))] ?_
    refine kBk 3 ?_
    refine kRc 1918 [Tm 10 (iv (w64 (l9_3 + 1)))] [] .n (cB (cL (cR (cR (cB (cL (cR (cB (cB (cR (cL (cR (cR bd24))))))))))))) [] ?_
    exact kWk (ih (w64 (l9_3 + 1)) _ h)
   ·refine kCe b11_0 ?_
    cases some_inj h
    refine kWo ?_
    refine kXt 2 ?_
    exact kOut
  ·refine kRs 1023 [Tm 43 (bv false)] (.s (.t 31) [iv (l9_5.Chains.length : Int)] :: (rp 10 (.b false) [])) (.c (c_len (e := TChain.en) (l := l9_5.Chains)) (.r 10 b10_1 (.c rT .n))) ?_
   refine kCe rF ?_
   cases some_inj h
   refine kWo ?_
   refine kXt 2 ?_
   exact kOut
def diwanref13_Write.lp4 (fu : Nat) (l4_0 : Int) (l4_1 : List TWrite) (l4_3 : TStore) : Nat → Int → TStore → Option TStore
  | 0, _, _ => none
  | n_ + 1, l4_2, l4_4 =>
  br (decide (l4_2 < (l4_1.length : Int)))
   (ix l4_1 l4_2 fun x7_1 =>
   bd (diwanref13_Write.lp9 fu l4_0 l4_1 l4_2 l4_3 l4_4 x7_1 fu 0) fun y13_0 =>
   jn (fun (j24_5 : TStore) =>
    ix j24_5.Chains y13_0 fun x25_1 =>
    bd (diwanref13_Add x25_1.L (TVersion.mk l4_0 x7_1.Val x7_1.Gone)) fun r25_4 =>
    ix j24_5.Chains y13_0 fun x25_6 =>
    diwanref13_Write.lp4 fu l4_0 l4_1 l4_3 n_ (w64 (l4_2 + 1)) (TStore.mk (j24_5.Chains.set y13_0.toNat (TChain.mk x25_6.Key r25_4)) j24_5.Mark)) fun k24 =>
   br (y13_0 == (l4_4.Chains.length : Int))
    (br (decide (l4_0 < 1))
     (diwanref13_Write.lp4 fu l4_0 l4_1 l4_3 n_ (w64 (l4_2 + 1)) l4_4)
     (gd (decide ((0 : Int) ≤ y13_0 ∧ y13_0 ≤ (l4_4.Chains.length : Int))) <|
     gd (decide (([] : List TChain).length + (List.take y13_0.toNat l4_4.Chains).length ≤ 4294967296)) <|
     gd (decide ((List.take y13_0.toNat l4_4.Chains).length + ([(TChain.mk x7_1.Key [])] : List TChain).length ≤ 4294967296)) <|
     gd (decide ((0 : Int) ≤ y13_0 ∧ y13_0 ≤ (l4_4.Chains.length : Int))) <|
     gd (decide (((List.take y13_0.toNat l4_4.Chains) ++ ([(TChain.mk x7_1.Key [])] : List TChain)).length + (List.drop y13_0.toNat l4_4.Chains).length ≤ 4294967296)) <|
     k24 (TStore.mk (((List.take y13_0.toNat l4_4.Chains) ++ ([(TChain.mk x7_1.Key [])] : List TChain)) ++ (List.drop y13_0.toNat l4_4.Chains)) l4_4.Mark)))
    (ix l4_4.Chains y13_0 fun x14_2 =>
    br (!(x14_2.Key.toList == x7_1.Key.toList))
     (br (decide (l4_0 < 1))
      (diwanref13_Write.lp4 fu l4_0 l4_1 l4_3 n_ (w64 (l4_2 + 1)) l4_4)
      (gd (decide ((0 : Int) ≤ y13_0 ∧ y13_0 ≤ (l4_4.Chains.length : Int))) <|
      gd (decide (([] : List TChain).length + (List.take y13_0.toNat l4_4.Chains).length ≤ 4294967296)) <|
      gd (decide ((List.take y13_0.toNat l4_4.Chains).length + ([(TChain.mk x7_1.Key [])] : List TChain).length ≤ 4294967296)) <|
      gd (decide ((0 : Int) ≤ y13_0 ∧ y13_0 ≤ (l4_4.Chains.length : Int))) <|
      gd (decide (((List.take y13_0.toNat l4_4.Chains) ++ ([(TChain.mk x7_1.Key [])] : List TChain)).length + (List.drop y13_0.toNat l4_4.Chains).length ≤ 4294967296)) <|
      k24 (TStore.mk (((List.take y13_0.toNat l4_4.Chains) ++ ([(TChain.mk x7_1.Key [])] : List TChain)) ++ (List.drop y13_0.toNat l4_4.Chains)) l4_4.Mark)))
     (k24 l4_4)))
   (some l4_4)
def diwanref13_Write.lp4_post (l4_0 : Int) (l4_1 : List TWrite) (l4_3 : TStore) (r_ : TStore) : Wy → St → Prop := fun e τ => match r_ with
  | y0 => e = .exit 0 ∧ τ = ofL [Tm 6 (.ptr 6 0), Tm 7 (.ptr 7 0), Ob 6 [sO 2 TChain.en l4_3.Chains, iv l4_3.Mark], Ob 7 [sO 2 TChain.en y0.Chains, iv y0.Mark]]
theorem diwanref13_Write.lp4_ok (fu : Nat) (l4_0 : Int) (l4_1 : List TWrite) (l4_3 : TStore) : ∀ (n_ : Nat) (l4_2 : Int) (l4_4 : TStore) (r_ : TStore), diwanref13_Write.lp4 fu l4_0 l4_1 l4_3 n_ l4_2 l4_4 = some r_ → WK Try.prog diwanref13_Write.O (Ck Try.prog) (cB (cR (cL (cR (cR bd24))))) [] (ofL [Tm 1 (iv l4_0), Tm 2 (sS 3 TWrite.en l4_1), Tm 6 (.ptr 6 0), Tm 7 (.ptr 7 0), Tm 8 (iv l4_2), Ob 6 [sO 2 TChain.en l4_3.Chains, iv l4_3.Mark], Ob 7 [sO 2 TChain.en l4_4.Chains, iv l4_4.Mark]]) (diwanref13_Write.lp4_post l4_0 l4_1 l4_3 r_) := by
 intro n_
 induction n_ with
 | zero => intro l4_2 l4_4 r_ h; exact no_none h
 | succ n_ ih =>
  intro l4_2 l4_4 r_ h
  refine kLp ?_
  refine kSq ?_
  refine kRs 127 [Tm 21 (bv (decide (l4_2 < (l4_1.length : Int))))] [.s (.t 20) [iv (l4_1.length : Int)]] (.c (c_len (e := TWrite.en) (l := l4_1)) .n) ?_
  rcases br_inv h with ⟨b6_0, h⟩ | ⟨b6_0, h⟩
  ·refine kCt b6_0 ?_
   refine kSk ?_
   refine kCd (cR (cB (cB (cR (cL (cR (cR bd24))))))) [.lp (cB (cR (cL (cR (cR bd24)))))] ?_
   refine kSq ?_
   refine kBk 1 ?_
   obtain ⟨x7_1, a7_2, e7_3, h⟩ := ix_inv h
   refine kRs 254 [Tm 9 (.ptr 9 0), Ob 9 (TWrite.ob x7_1)] [.c (TWrite.en x7_1)] (.c (c_ix (e := TWrite.en) a7_2 e7_3) (.c (c_el (e := TWrite.en) e7_3) .n)) ?_
   refine kRs 511 [Tm 10 (iv 0)] [] .n ?_
   refine kSq ?_
   refine kBk 2 ?_
   obtain ⟨o13, ho13, h⟩ := bd_inv h
   refine kUs (diwanref13_Write.lp9_ok fu l4_0 l4_1 l4_2 l4_3 l4_4 x7_1 _ 0 _ ho13) ?_
   intro e_ τ_ hp_
   obtain ⟨y13_0, rfl⟩ : ∃ y, y = o13 := ⟨_, rfl⟩
   obtain ⟨rfl, rfl⟩ := hp_
   refine kCd (cR (cR (cR (cB (cL (cR (cB (cB (cR (cL (cR (cR bd24)))))))))))) [.blk 1, .seq (cR (cR (cB (cB (cR (cL (cR (cR bd24)))))))), .lp (cB (cR (cL (cR (cR bd24)))))] ?_
   obtain ⟨k24, hk24, h⟩ := jn_inv h
   have Jk24 : ∀ (j24_5 : TStore), k24 j24_5 = some r_ → WK Try.prog diwanref13_Write.O (Ck Try.prog) (cR (cR (cR (cR (cB (cL (cR (cB (cB (cR (cL (cR (cR bd24))))))))))))) [.blk 1, .seq (cR (cR (cB (cB (cR (cL (cR (cR bd24)))))))), .lp (cB (cR (cL (cR (cR bd24)))))] (ofL [Tm 1 (iv l4_0), Tm 2 (sS 3 TWrite.en l4_1), Tm 6 (.ptr 6 0), Tm 7 (.ptr 7 0), Tm 8 (iv l4_2), Tm 9 (.ptr 9 0), Tm 10 (iv y13_0), Ob 6 [sO 2 TChain.en l4_3.Chains, iv l4_3.Mark], Ob 7 [sO 2 TChain.en j24_5.Chains, iv j24_5.Mark], Ob 9 (TWrite.ob x7_1)]) (diwanref13_Write.lp4_post l4_0 l4_1 l4_3 r_) := by
    intro j24_5 h
    rw [hk24] at h
    obtain ⟨x25_1, a25_2, e25_3, h⟩ := ix_inv h
    obtain ⟨r25_4, h25_5, h⟩ := bd_inv h
    obtain ⟨x25_6, a25_7, e25_8, h⟩ := ix_inv h
    refine kRc 159 [Ob 7 [sO 2 TChain.en (j24_5.Chains.set y13_0.toNat (TChain.mk x25_6.Key r25_4)), iv j24_5.Mark]] [.c (TChain.en x25_1), .a ⟨sO 3 TVersion.en r25_4, []⟩, .c (TChain.en x25_6), .s (.o 7) [sO 2 TChain.en (j24_5.Chains.set y13_0.toNat (TChain.mk x25_6.Key r25_4)), iv j24_5.Mark]] (.c (c_ix (e := TChain.en) a25_2 e25_3) (.c (c_el (e := TChain.en) e25_3) (.c (aoM (diwanref13_Add.meets x25_1.L (TVersion.mk l4_0 x7_1.Val x7_1.Gone) _ h25_5)) (.c (c_ix (e := TChain.en) a25_7 e25_8) (.c (c_el (e := TChain.en) e25_8) (.c (congrArg (fun d : DV => [AV.data d, iv j24_5.Mark]) (c_set (e := TChain.en) (s := 2) (nl := none) (l := j24_5.Chains) (i := y13_0.toNat) (x := (TChain.mk x25_6.Key r25_4)))) (.c rT .n))))))) (cR (cR (cB (cB (cR (cL (cR (cR bd24)))))))) [.lp (cB (cR (cL (cR (cR bd24)))))] ?_
    refine kRc 95 [Tm 8 (iv (w64 (l4_2 + 1)))] [] .n (cB (cR (cL (cR (cR bd24))))) [] ?_
    exact kWk (ih (w64 (l4_2 + 1)) (TStore.mk (j24_5.Chains.set y13_0.toNat (TChain.mk x25_6.Key r25_4)) j24_5.Mark) _ h)
   clear hk24
   refine kSq ?_
   rcases br_inv h with ⟨b14_1, h⟩ | ⟨b14_1, h⟩
   ·refine kRs 1023 [Tm 61 (bv true)] (.s (.t 49) [iv (l4_4.Chains.length : Int)] :: (rp 10 (.b true) [])) (.c (c_len (e := TChain.en) (l := l4_4.Chains)) (.r 10 b14_1 (.c rT .n))) ?_
    refine kCt rT ?_
    refine kSq ?_
    refine kRs 2046 [Tm 63 (bv (decide (l4_0 < 1)))] [] .n ?_
    rcases br_inv h with ⟨b16_0, h⟩ | ⟨b16_0, h⟩
    ·refine kCt b16_0 ?_
     refine kXt 1 ?_
     refine kCd (cR (cR (cB (cB (cR (cL (cR (cR bd24)))))))) [.lp (cB (cR (cL (cR (cR bd24)))))] ?_
     refine kRc 798 [Tm 8 (iv (w64 (l4_2 + 1)))] [] .n (cB (cR (cL (cR (cR bd24))))) [] ?_
     exact kWk (ih (w64 (l4_2 + 1)) l4_4 _ h)
    ·refine kCe b16_0 ?_
     refine kSk ?_
     refine kCd (cR (cT (cR (cL (cR (cR (cR (cB (cL (cR (cB (cB (cR (cL (cR (cR bd24)))))))))))))))) [.seq (cR (cR (cR (cR (cB (cL (cR (cB (cB (cR (cL (cR (cR bd24))))))))))))), .blk 1, .seq (cR (cR (cB (cB (cR (cL (cR (cR bd24)))))))), .lp (cB (cR (cL (cR (cR bd24)))))] ?_
     refine kSo 7 0 1534 [Ob 7 [sS 2 TChain.en l4_4.Chains, iv l4_4.Mark]] ?_
     obtain ⟨c18_1, h⟩ := gd_inv h
     obtain ⟨c18_2, h⟩ := gd_inv h
     obtain ⟨c18_3, h⟩ := gd_inv h
     obtain ⟨c18_4, h⟩ := gd_inv h
     obtain ⟨c18_5, h⟩ := gd_inv h
     refine kRc 1022 [Ob 7 [sO 2 TChain.en (((List.take y13_0.toNat l4_4.Chains) ++ ([(TChain.mk x7_1.Key [])] : List TChain)) ++ (List.drop y13_0.toNat l4_4.Chains)), iv l4_4.Mark]] [.s (.t 68) [sS 2 TChain.en (List.take y13_0.toNat l4_4.Chains)], .s (.t 74) [sO 2 TChain.en ((List.take y13_0.toNat l4_4.Chains) ++ ([(TChain.mk x7_1.Key [])] : List TChain))], .s (.t 78) [sS 2 TChain.en (List.drop y13_0.toNat l4_4.Chains)], .s (.t 79) [sO 2 TChain.en (((List.take y13_0.toNat l4_4.Chains) ++ ([(TChain.mk x7_1.Key [])] : List TChain)) ++ (List.drop y13_0.toNat l4_4.Chains))]] (.c (c_cbH (e := TChain.en) c18_1) (.c (congrArg (fun d : DV => [AV.data d]) (c_cutH (own := false) (nl := none) (s := 2) (e := TChain.en) (l := l4_4.Chains) (h := y13_0.toNat))) (.c (c_al (e := TChain.en) (f := TChain.en) c18_2) (.c (c_al (e := TChain.en) (f := TChain.en) c18_3) (.c (congrArg (fun d : DV => [AV.data d]) (c_app (e := TChain.en) (s := 2) (l := (List.take y13_0.toNat l4_4.Chains)) (m := ([(TChain.mk x7_1.Key [])] : List TChain)))) (.c (c_cbL (e := TChain.en) c18_4) (.c (congrArg (fun d : DV => [AV.data d]) (c_cutL (own := false) (nl := none) (s := 2) (e := TChain.en) (l := l4_4.Chains) (lo := y13_0.toNat))) (.c (c_al (e := TChain.en) (f := TChain.en) c18_5) (.c (congrArg (fun d : DV => [AV.data d]) (c_app (e := TChain.en) (s := 2) (l := ((List.take y13_0.toNat l4_4.Chains) ++ ([(TChain.mk x7_1.Key [])] : List TChain))) (m := (List.drop y13_0.toNat l4_4.Chains)))) (.c rT .n)))))))))) (cR (cR (cR (cR (cB (cL (cR (cB (cB (cR (cL (cR (cR bd24))))))))))))) [.blk 1, .seq (cR (cR (cB (cB (cR (cL (cR (cR bd24)))))))), .lp (cB (cR (cL (cR (cR bd24)))))] ?_
     exact kWk (Jk24 (TStore.mk (((List.take y13_0.toNat l4_4.Chains) ++ ([(TChain.mk x7_1.Key [])] : List TChain)) ++ (List.drop y13_0.toNat l4_4.Chains)) l4_4.Mark) h)
   ·obtain ⟨x14_2, a14_3, e14_4, h⟩ := ix_inv h
    refine kRs 1023 [Tm 61 (bv (!(x14_2.Key.toList == x7_1.Key.toList)))] (.s (.t 49) [iv (l4_4.Chains.length : Int)] :: (rp 6 (.b false) (.c (TChain.en x14_2) :: (rp 4 (.b false) [])))) (.c (c_len (e := TChain.en) (l := l4_4.Chains)) (.r 4 b14_1 (.c (c_ix (e := TChain.en) a14_3 e14_4) (.r 2 b14_1 (.c (c_el (e := TChain.en) e14_4) (.r 4 b14_1 (.c rT .n))))))) ?_
    rcases br_inv h with ⟨b19_0, h⟩ | ⟨b19_0, h⟩
    ·refine kCt b19_0 ?_
     refine kSq ?_
     refine kRs 2046 [Tm 63 (bv (decide (l4_0 < 1)))] [] .n ?_
     rcases br_inv h with ⟨b21_0, h⟩ | ⟨b21_0, h⟩
     ·refine kCt b21_0 ?_
      refine kXt 1 ?_
      refine kCd (cR (cR (cB (cB (cR (cL (cR (cR bd24)))))))) [.lp (cB (cR (cL (cR (cR bd24)))))] ?_
      refine kRc 798 [Tm 8 (iv (w64 (l4_2 + 1)))] [] .n (cB (cR (cL (cR (cR bd24))))) [] ?_
      exact kWk (ih (w64 (l4_2 + 1)) l4_4 _ h)
     ·refine kCe b21_0 ?_
      refine kSk ?_
      refine kCd (cR (cT (cR (cL (cR (cR (cR (cB (cL (cR (cB (cB (cR (cL (cR (cR bd24)))))))))))))))) [.seq (cR (cR (cR (cR (cB (cL (cR (cB (cB (cR (cL (cR (cR bd24))))))))))))), .blk 1, .seq (cR (cR (cB (cB (cR (cL (cR (cR bd24)))))))), .lp (cB (cR (cL (cR (cR bd24)))))] ?_
      refine kSo 7 0 1534 [Ob 7 [sS 2 TChain.en l4_4.Chains, iv l4_4.Mark]] ?_
      obtain ⟨c23_1, h⟩ := gd_inv h
      obtain ⟨c23_2, h⟩ := gd_inv h
      obtain ⟨c23_3, h⟩ := gd_inv h
      obtain ⟨c23_4, h⟩ := gd_inv h
      obtain ⟨c23_5, h⟩ := gd_inv h
      refine kRc 1022 [Ob 7 [sO 2 TChain.en (((List.take y13_0.toNat l4_4.Chains) ++ ([(TChain.mk x7_1.Key [])] : List TChain)) ++ (List.drop y13_0.toNat l4_4.Chains)), iv l4_4.Mark]] [.s (.t 68) [sS 2 TChain.en (List.take y13_0.toNat l4_4.Chains)], .s (.t 74) [sO 2 TChain.en ((List.take y13_0.toNat l4_4.Chains) ++ ([(TChain.mk x7_1.Key [])] : List TChain))], .s (.t 78) [sS 2 TChain.en (List.drop y13_0.toNat l4_4.Chains)], .s (.t 79) [sO 2 TChain.en (((List.take y13_0.toNat l4_4.Chains) ++ ([(TChain.mk x7_1.Key [])] : List TChain)) ++ (List.drop y13_0.toNat l4_4.Chains))]] (.c (c_cbH (e := TChain.en) c23_1) (.c (congrArg (fun d : DV => [AV.data d]) (c_cutH (own := false) (nl := none) (s := 2) (e := TChain.en) (l := l4_4.Chains) (h := y13_0.toNat))) (.c (c_al (e := TChain.en) (f := TChain.en) c23_2) (.c (c_al (e := TChain.en) (f := TChain.en) c23_3) (.c (congrArg (fun d : DV => [AV.data d]) (c_app (e := TChain.en) (s := 2) (l := (List.take y13_0.toNat l4_4.Chains)) (m := ([(TChain.mk x7_1.Key [])] : List TChain)))) (.c (c_cbL (e := TChain.en) c23_4) (.c (congrArg (fun d : DV => [AV.data d]) (c_cutL (own := false) (nl := none) (s := 2) (e := TChain.en) (l := l4_4.Chains) (lo := y13_0.toNat))) (.c (c_al (e := TChain.en) (f := TChain.en) c23_5) (.c (congrArg (fun d : DV => [AV.data d]) (c_app (e := TChain.en) (s := 2) (l := ((List.take y13_0.toNat l4_4.Chains) ++ ([(TChain.mk x7_1.Key [])] : List TChain))) (m := (List.drop y13_0.toNat l4_4.Chains)))) (.c rT .n)))))))))) (cR (cR (cR (cR (cB (cL (cR (cB (cB (cR (cL (cR (cR bd24))))))))))))) [.blk 1, .seq (cR (cR (cB (cB (cR (cL (cR (cR bd24)))))))), .lp (cB (cR (cL (cR (cR bd24)))))] ?_
      exact kWk (Jk24 (TStore.mk (((List.take y13_0.toNat l4_4.Chains) ++ ([(TChain.mk x7_1.Key [])] : List TChain)) ++ (List.drop y13_0.toNat l4_4.Chains)) l4_4.Mark) h)
    ·refine kCe b19_0 ?_
     refine kSk ?_
     refine kCd (cR (cR (cR (cR (cB (cL (cR (cB (cB (cR (cL (cR (cR bd24))))))))))))) [.blk 1, .seq (cR (cR (cB (cB (cR (cL (cR (cR bd24)))))))), .lp (cB (cR (cL (cR (cR bd24)))))] ?_
     exact kWk (Jk24 l4_4 h)
  ·refine kCe b6_0 ?_
   cases some_inj h
   refine kWo ?_
   refine kXt 0 ?_
   exact kOut
def diwanref13_Write (fu : Nat) (s : TStore) (pos : Int) (l : List TWrite) : Option TStore :=
 gd (decide (([] : List TChain).length + s.Chains.length ≤ 4294967296)) <|
 bd (diwanref13_Write.lp4 fu pos l (TStore.mk [] 0) fu 0 s) fun y27_0 =>
 some y27_0
theorem diwanref13_Write.meets (fu : Nat) (s : TStore) (pos : Int) (l : List TWrite) (z0 : TStore) (h : diwanref13_Write fu s pos l = some z0) : Meets Try.prog ⟨24, [.data (.agg [.slc false none 2 (List.map TChain.en s.Chains), .val (.int .i64 s.Mark)]), iv pos, sS 3 TWrite.en l], []⟩ ⟨.data (.agg [.slc true none 2 (List.map TChain.en z0.Chains), .val (.int .i64 z0.Mark)]), []⟩ := by
 refine kMt hmix diwanref13_Write.O Try.f24 bd24 7 ?_
 unfold diwanref13_Write at h
 refine kRs 6 [Tm 3 (.ptr 3 0), Tm 6 (.ptr 6 0), Ob 3 [sS 2 TChain.en s.Chains, iv s.Mark], Ob 6 [.data (.slc true none 2 (List.map TChain.en [])), iv 0]] [] .n ?_
 obtain ⟨c2_1, h⟩ := gd_inv h
 refine kRs 58 [Tm 7 (.ptr 7 0), Ob 7 [sO 2 TChain.en s.Chains, iv s.Mark]] [] (.c (c_al (e := TChain.en) (f := TChain.en) c2_1) (.c rT .n)) ?_
 refine kSq ?_
 refine kRs 63 [Tm 8 (iv 0)] [] .n ?_
 refine kBk 0 ?_
 obtain ⟨o27, ho27, h⟩ := bd_inv h
 refine kUs (diwanref13_Write.lp4_ok fu pos l (TStore.mk [] 0) _ 0 s _ ho27) ?_
 intro e_ τ_ hp_
 obtain ⟨y27_0, rfl⟩ : ∃ y, y = o27 := ⟨_, rfl⟩
 obtain ⟨rfl, rfl⟩ := hp_
 refine kCd (cR (cR (cR bd24))) [] ?_
 refine kRs 1 [Ob 6 [sO 2 TChain.en y27_0.Chains, iv y27_0.Mark]] [] .n ?_
 refine kRt ?_
 have h_ := some_inj h
 subst h_
 exact kFr
def bd13 : Code := (Try.f13.body).getD .skip
def diwanref13_Fold.O : Nat → Nat := fun t => bif ([2, 3, 4, 5, 6, 7, 8, 9, 10, 11, 12, 13, 14, 72, 75, 78] : List Nat).any (Nat.beq t) then 1 else 0
def diwanref13_Fold.lp18 (fu : Nat) (l18_0 : List TTxn) (l18_1 : List TSeat) (l18_2 : List Int) (l18_3 : Int) (l18_6 : TStore) (l18_7 : TStore) (l18_8 : TTxn) : Nat → Int → Int → Option Int
  | 0, _, _ => none
  | n_ + 1, l18_4, l18_5 =>
  br (decide (l18_5 < (l18_8.Reads.length : Int)))
   (br (l18_4 == 1)
    (ix l18_8.Reads l18_5 fun x21_1 =>
    bd (diwanref13_Last fu l18_7 x21_1.Key) fun r21_4 =>
    ix l18_8.Reads l18_5 fun x21_6 =>
    br (r21_4 != x21_6.Version)
     (diwanref13_Fold.lp18 fu l18_0 l18_1 l18_2 l18_3 l18_6 l18_7 l18_8 n_ 2 (w64 (l18_5 + 1)))
     (diwanref13_Fold.lp18 fu l18_0 l18_1 l18_2 l18_3 l18_6 l18_7 l18_8 n_ l18_4 (w64 (l18_5 + 1))))
    (some l18_4))
   (some l18_4)
def diwanref13_Fold.lp18_post (l18_0 : List TTxn) (l18_1 : List TSeat) (l18_2 : List Int) (l18_3 : Int) (l18_6 : TStore) (l18_7 : TStore) (l18_8 : TTxn) (r_ : Int) : Wy → St → Prop := fun e τ => match r_ with
  | y0 => e = .exit 2 ∧ τ = ofL [Tm 0 (sS 4 TTxn.en l18_0), Tm 3 (.ptr 3 0), Tm 5 (.ptr 5 0), Tm 6 (sS 3 TSeat.en l18_1), Tm 7 (sO 1 e_i64 l18_2), Tm 8 (iv l18_3), Tm 9 (.ptr 9 0), Tm 12 (iv y0), Ob 3 [sO 2 TChain.en l18_6.Chains, iv l18_6.Mark], Ob 5 [sO 2 TChain.en l18_7.Chains, iv l18_7.Mark], Ob 9 (TTxn.ob l18_8)]
theorem diwanref13_Fold.lp18_ok (fu : Nat) (l18_0 : List TTxn) (l18_1 : List TSeat) (l18_2 : List Int) (l18_3 : Int) (l18_6 : TStore) (l18_7 : TStore) (l18_8 : TTxn) : ∀ (n_ : Nat) (l18_4 : Int) (l18_5 : Int) (r_ : Int), diwanref13_Fold.lp18 fu l18_0 l18_1 l18_2 l18_3 l18_6 l18_7 l18_8 n_ l18_4 l18_5 = some r_ → WK Try.prog diwanref13_Fold.O (Ck Try.prog) (cB (cR (cL (cR (cR (cR (cR (cR (cB (cL (cR (cB (cB (cR (cL (cR (cR (cR (cR bd13))))))))))))))))))) [] (ofL [Tm 0 (sS 4 TTxn.en l18_0), Tm 3 (.ptr 3 0), Tm 5 (.ptr 5 0), Tm 6 (sS 3 TSeat.en l18_1), Tm 7 (sO 1 e_i64 l18_2), Tm 8 (iv l18_3), Tm 9 (.ptr 9 0), Tm 12 (iv l18_4), Tm 13 (iv l18_5), Ob 3 [sO 2 TChain.en l18_6.Chains, iv l18_6.Mark], Ob 5 [sO 2 TChain.en l18_7.Chains, iv l18_7.Mark], Ob 9 (TTxn.ob l18_8)]) (diwanref13_Fold.lp18_post l18_0 l18_1 l18_2 l18_3 l18_6 l18_7 l18_8 r_) := by
 intro n_
 induction n_ with
 | zero => intro l18_4 l18_5 r_ h; exact no_none h
 | succ n_ ih =>
  intro l18_4 l18_5 r_ h
  refine kLp ?_
  refine kSq ?_
  rcases br_inv h with ⟨b19_1, h⟩ | ⟨b19_1, h⟩
  ·refine kRs 4095 [Tm 47 (bv (l18_4 == 1))] [.s (.t 42) [iv (l18_8.Reads.length : Int)], .b true, .b true, .b true] (.c (c_len (e := TRead.en) (l := l18_8.Reads)) (.r 3 b19_1 .n)) ?_
   rcases br_inv h with ⟨b20_0, h⟩ | ⟨b20_0, h⟩
   ·refine kCt b20_0 ?_
    refine kSk ?_
    refine kCd (cR (cB (cB (cR (cL (cR (cR (cR (cR (cR (cB (cL (cR (cB (cB (cR (cL (cR (cR (cR (cR bd13))))))))))))))))))))) [.lp (cB (cR (cL (cR (cR (cR (cR (cR (cB (cL (cR (cB (cB (cR (cL (cR (cR (cR (cR bd13)))))))))))))))))))] ?_
    refine kSq ?_
    refine kBk 3 ?_
    obtain ⟨x21_1, a21_2, e21_3, h⟩ := ix_inv h
    obtain ⟨r21_4, h21_5, h⟩ := bd_inv h
    obtain ⟨x21_6, a21_7, e21_8, h⟩ := ix_inv h
    refine kRs 8190 [Tm 64 (bv (r21_4 != x21_6.Version))] [.c (TRead.en x21_1), .a ⟨iv r21_4, []⟩, .c (TRead.en x21_6)] (.c (c_ix (e := TRead.en) a21_2 e21_3) (.c (c_el (e := TRead.en) e21_3) (.c (aoM (diwanref13_Last.meets fu l18_7 x21_1.Key _ h21_5)) (.c (c_ix (e := TRead.en) a21_7 e21_8) (.c (c_el (e := TRead.en) e21_8) (.c rT .n)))))) ?_
    rcases br_inv h with ⟨b22_0, h⟩ | ⟨b22_0, h⟩
    ·refine kCt b22_0 ?_
     refine kRc 7934 [Tm 12 (iv 2)] [] .n (cR (cR (cB (cB (cR (cL (cR (cR (cR (cR (cR (cB (cL (cR (cB (cB (cR (cL (cR (cR (cR (cR bd13)))))))))))))))))))))) [.lp (cB (cR (cL (cR (cR (cR (cR (cR (cB (cL (cR (cB (cB (cR (cL (cR (cR (cR (cR bd13)))))))))))))))))))] ?_
     refine kRc 3839 [Tm 13 (iv (w64 (l18_5 + 1)))] [] .n (cB (cR (cL (cR (cR (cR (cR (cR (cB (cL (cR (cB (cB (cR (cL (cR (cR (cR (cR bd13))))))))))))))))))) [] ?_
     exact kWk (ih 2 (w64 (l18_5 + 1)) _ h)
    ·refine kCe b22_0 ?_
     refine kSk ?_
     refine kCd (cR (cR (cB (cB (cR (cL (cR (cR (cR (cR (cR (cB (cL (cR (cB (cB (cR (cL (cR (cR (cR (cR bd13)))))))))))))))))))))) [.lp (cB (cR (cL (cR (cR (cR (cR (cR (cB (cL (cR (cB (cB (cR (cL (cR (cR (cR (cR bd13)))))))))))))))))))] ?_
     refine kRc 7678 [Tm 13 (iv (w64 (l18_5 + 1)))] [] .n (cB (cR (cL (cR (cR (cR (cR (cR (cB (cL (cR (cB (cB (cR (cL (cR (cR (cR (cR bd13))))))))))))))))))) [] ?_
     exact kWk (ih l18_4 (w64 (l18_5 + 1)) _ h)
   ·refine kCe b20_0 ?_
    cases some_inj h
    refine kWo ?_
    refine kXt 2 ?_
    exact kOut
  ·refine kRs 4095 [Tm 47 (bv false)] [.s (.t 42) [iv (l18_8.Reads.length : Int)], .b false, .b false, .b false] (.c (c_len (e := TRead.en) (l := l18_8.Reads)) (.r 3 b19_1 .n)) ?_
   refine kCe rF ?_
   cases some_inj h
   refine kWo ?_
   refine kXt 2 ?_
   exact kOut
def diwanref13_Fold.lp6 (fu : Nat) (l6_0 : List TTxn) (l6_4 : TStore) : Nat → (List TSeat) → (List Int) → Int → TStore → Option (List TSeat × List Int × TStore)
  | 0, _, _, _, _ => none
  | n_ + 1, l6_1, l6_2, l6_3, l6_5 =>
  br (decide (l6_3 < (l6_0.length : Int)))
   (ix l6_0 l6_3 fun x9_1 =>
   bd (diwanref13_Turn fu l6_1 x9_1.Session x9_1.Seq (w64 (l6_3 + 1))) fun (r10_1, r10_2) =>
   jn (fun (j16_4 : Int) =>
    bd (diwanref13_Fold.lp18 fu l6_0 r10_1 l6_2 l6_3 l6_4 l6_5 x9_1 fu j16_4 0) fun y26_0 =>
    br (y26_0 == 1)
     (bd (diwanref13_Write fu l6_5 (w64 (l6_3 + 1)) x9_1.Writes) fun r29_1 =>
     gd (decide (l6_2.length + ([y26_0] : List Int).length ≤ 4294967296)) <|
     diwanref13_Fold.lp6 fu l6_0 l6_4 n_ r10_1 (l6_2 ++ ([y26_0] : List Int)) (w64 (l6_3 + 1)) r29_1)
     (gd (decide (l6_2.length + ([y26_0] : List Int).length ≤ 4294967296)) <|
     diwanref13_Fold.lp6 fu l6_0 l6_4 n_ r10_1 (l6_2 ++ ([y26_0] : List Int)) (w64 (l6_3 + 1)) l6_5)) fun k16 =>
   br (!r10_2)
    (k16 3)
    (k16 1))
   (some (l6_1, l6_2, l6_5))
def diwanref13_Fold.lp6_post (l6_0 : List TTxn) (l6_4 : TStore) (r_ : (List TSeat × List Int × TStore)) : Wy → St → Prop := fun e τ => match r_ with
  | (y0, y1, y2) => e = .exit 0 ∧ τ = ofL [Tm 3 (.ptr 3 0), Tm 5 (.ptr 5 0), Tm 6 (sS 3 TSeat.en y0), Tm 7 (sO 1 e_i64 y1), Ob 3 [sO 2 TChain.en l6_4.Chains, iv l6_4.Mark], Ob 5 [sO 2 TChain.en y2.Chains, iv y2.Mark]]
theorem diwanref13_Fold.lp6_ok (fu : Nat) (l6_0 : List TTxn) (l6_4 : TStore) : ∀ (n_ : Nat) (l6_1 : List TSeat) (l6_2 : List Int) (l6_3 : Int) (l6_5 : TStore) (r_ : (List TSeat × List Int × TStore)), diwanref13_Fold.lp6 fu l6_0 l6_4 n_ l6_1 l6_2 l6_3 l6_5 = some r_ → WK Try.prog diwanref13_Fold.O (Ck Try.prog) (cB (cR (cL (cR (cR (cR (cR bd13))))))) [] (ofL [Tm 0 (sS 4 TTxn.en l6_0), Tm 3 (.ptr 3 0), Tm 5 (.ptr 5 0), Tm 6 (sS 3 TSeat.en l6_1), Tm 7 (sO 1 e_i64 l6_2), Tm 8 (iv l6_3), Ob 3 [sO 2 TChain.en l6_4.Chains, iv l6_4.Mark], Ob 5 [sO 2 TChain.en l6_5.Chains, iv l6_5.Mark]]) (diwanref13_Fold.lp6_post l6_0 l6_4 r_) := by
 intro n_
 induction n_ with
 | zero => intro l6_1 l6_2 l6_3 l6_5 r_ h; exact no_none h
 | succ n_ ih =>
  intro l6_1 l6_2 l6_3 l6_5 r_ h
  refine kLp ?_
  refine kSq ?_
  refine kRs 255 [Tm 18 (bv (decide (l6_3 < (l6_0.length : Int))))] [.s (.t 17) [iv (l6_0.length : Int)]] (.c (c_len (e := TTxn.en) (l := l6_0)) .n) ?_
  rcases br_inv h with ⟨b8_0, h⟩ | ⟨b8_0, h⟩
  ·refine kCt b8_0 ?_
   refine kSk ?_
   refine kCd (cR (cB (cB (cR (cL (cR (cR (cR (cR bd13))))))))) [.lp (cB (cR (cL (cR (cR (cR (cR bd13)))))))] ?_
   refine kSq ?_
   refine kBk 1 ?_
   obtain ⟨x9_1, a9_2, e9_3, h⟩ := ix_inv h
   refine kRs 510 [Tm 9 (.ptr 9 0), Ob 9 (TTxn.ob x9_1)] [.c (TTxn.en x9_1)] (.c (c_ix (e := TTxn.en) a9_2 e9_3) (.c (c_el (e := TTxn.en) e9_3) .n)) ?_
   obtain ⟨⟨r10_1, r10_2⟩, h10_3, h⟩ := bd_inv h
   refine kRs 991 [Tm 10 (sS 3 TSeat.en r10_1), Tm 11 (bv r10_2)] [.a ⟨.tup [sS 3 TSeat.en r10_1, bv r10_2], []⟩] (.c (aoM (diwanref13_Turn.meets fu l6_1 x9_1.Session x9_1.Seq (w64 (l6_3 + 1)) _ _ h10_3)) .n) ?_
   refine kRs 2046 [Tm 6 (sS 3 TSeat.en r10_1)] [] .n ?_
   refine kRs 2047 [Tm 12 (iv 1)] [] .n ?_
   obtain ⟨k16, hk16, h⟩ := jn_inv h
   have Jk16 : ∀ (j16_4 : Int), k16 j16_4 = some r_ → WK Try.prog diwanref13_Fold.O (Ck Try.prog) (cR (cR (cR (cR (cR (cB (cL (cR (cB (cB (cR (cL (cR (cR (cR (cR bd13)))))))))))))))) [.blk 1, .seq (cR (cR (cB (cB (cR (cL (cR (cR (cR (cR bd13)))))))))), .lp (cB (cR (cL (cR (cR (cR (cR bd13)))))))] (ofL [Tm 0 (sS 4 TTxn.en l6_0), Tm 3 (.ptr 3 0), Tm 5 (.ptr 5 0), Tm 6 (sS 3 TSeat.en r10_1), Tm 7 (sO 1 e_i64 l6_2), Tm 8 (iv l6_3), Tm 9 (.ptr 9 0), Tm 12 (iv j16_4), Ob 3 [sO 2 TChain.en l6_4.Chains, iv l6_4.Mark], Ob 5 [sO 2 TChain.en l6_5.Chains, iv l6_5.Mark], Ob 9 (TTxn.ob x9_1)]) (diwanref13_Fold.lp6_post l6_0 l6_4 r_) := by
    intro j16_4 h
    rw [hk16] at h
    refine kSq ?_
    refine kRs 2047 [Tm 13 (iv 0)] [] .n ?_
    refine kBk 2 ?_
    obtain ⟨o26, ho26, h⟩ := bd_inv h
    refine kUs (diwanref13_Fold.lp18_ok fu l6_0 r10_1 l6_2 l6_3 l6_4 l6_5 x9_1 _ j16_4 0 _ ho26) ?_
    intro e_ τ_ hp_
    obtain ⟨y26_0, rfl⟩ : ∃ y, y = o26 := ⟨_, rfl⟩
    obtain ⟨rfl, rfl⟩ := hp_
    refine kCd (cR (cR (cR (cR (cR (cR (cB (cL (cR (cB (cB (cR (cL (cR (cR (cR (cR bd13))))))))))))))))) [.blk 1, .seq (cR (cR (cB (cB (cR (cL (cR (cR (cR (cR bd13)))))))))), .lp (cB (cR (cL (cR (cR (cR (cR bd13)))))))] ?_
    refine kSq ?_
    refine kRs 2047 [Tm 66 (bv (y26_0 == 1))] [] .n ?_
    rcases br_inv h with ⟨b28_0, h⟩ | ⟨b28_0, h⟩
    ·refine kCt b28_0 ?_
     obtain ⟨r29_1, h29_2, h⟩ := bd_inv h
     refine kRc 894 [Ob 5 [sO 2 TChain.en r29_1.Chains, iv r29_1.Mark]] [.a ⟨.data (.agg [.slc true none 2 (List.map TChain.en r29_1.Chains), .val (.int .i64 r29_1.Mark)]), []⟩] (.c (aoM (diwanref13_Write.meets fu l6_5 (w64 (l6_3 + 1)) x9_1.Writes _ h29_2)) .n) (cR (cR (cR (cR (cR (cR (cR (cB (cL (cR (cB (cB (cR (cL (cR (cR (cR (cR bd13)))))))))))))))))) [.blk 1, .seq (cR (cR (cB (cB (cR (cL (cR (cR (cR (cR bd13)))))))))), .lp (cB (cR (cL (cR (cR (cR (cR bd13)))))))] ?_
     obtain ⟨c30_1, h⟩ := gd_inv h
     refine kRc 351 [Tm 7 (sO 1 e_i64 (l6_2 ++ ([y26_0] : List Int)))] [.s (.t 76) [sO 1 e_i64 (l6_2 ++ ([y26_0] : List Int))]] (.c (c_al (e := e_i64) (f := e_i64) c30_1) (.c (congrArg (fun d : DV => [AV.data d]) (c_app (e := e_i64) (s := 1) (l := l6_2) (m := ([y26_0] : List Int)))) .n)) (cR (cR (cB (cB (cR (cL (cR (cR (cR (cR bd13)))))))))) [.lp (cB (cR (cL (cR (cR (cR (cR bd13)))))))] ?_
     refine kRc 191 [Tm 8 (iv (w64 (l6_3 + 1)))] [] .n (cB (cR (cL (cR (cR (cR (cR bd13))))))) [] ?_
     exact kWk (ih r10_1 (l6_2 ++ ([y26_0] : List Int)) (w64 (l6_3 + 1)) r29_1 _ h)
    ·refine kCe b28_0 ?_
     refine kSk ?_
     refine kCd (cR (cR (cR (cR (cR (cR (cR (cB (cL (cR (cB (cB (cR (cL (cR (cR (cR (cR bd13)))))))))))))))))) [.blk 1, .seq (cR (cR (cB (cB (cR (cL (cR (cR (cR (cR bd13)))))))))), .lp (cB (cR (cL (cR (cR (cR (cR bd13)))))))] ?_
     obtain ⟨c32_1, h⟩ := gd_inv h
     refine kRc 1630 [Tm 7 (sO 1 e_i64 (l6_2 ++ ([y26_0] : List Int)))] [.s (.t 76) [sO 1 e_i64 (l6_2 ++ ([y26_0] : List Int))]] (.c (c_al (e := e_i64) (f := e_i64) c32_1) (.c (congrArg (fun d : DV => [AV.data d]) (c_app (e := e_i64) (s := 1) (l := l6_2) (m := ([y26_0] : List Int)))) .n)) (cR (cR (cB (cB (cR (cL (cR (cR (cR (cR bd13)))))))))) [.lp (cB (cR (cL (cR (cR (cR (cR bd13)))))))] ?_
     refine kRc 223 [Tm 8 (iv (w64 (l6_3 + 1)))] [] .n (cB (cR (cL (cR (cR (cR (cR bd13))))))) [] ?_
     exact kWk (ih r10_1 (l6_2 ++ ([y26_0] : List Int)) (w64 (l6_3 + 1)) l6_5 _ h)
   clear hk16
   refine kSq ?_
   refine kRs 4091 [Tm 38 (bv (!r10_2))] [] .n ?_
   rcases br_inv h with ⟨b14_0, h⟩ | ⟨b14_0, h⟩
   ·refine kCt b14_0 ?_
    refine kRc 4092 [Tm 12 (iv 3)] [] .n (cR (cR (cR (cR (cR (cB (cL (cR (cB (cB (cR (cL (cR (cR (cR (cR bd13)))))))))))))))) [.blk 1, .seq (cR (cR (cB (cB (cR (cL (cR (cR (cR (cR bd13)))))))))), .lp (cB (cR (cL (cR (cR (cR (cR bd13)))))))] ?_
    exact kWk (Jk16 3 h)
   ·refine kCe b14_0 ?_
    refine kSk ?_
    refine kCd (cR (cR (cR (cR (cR (cB (cL (cR (cB (cB (cR (cL (cR (cR (cR (cR bd13)))))))))))))))) [.blk 1, .seq (cR (cR (cB (cB (cR (cL (cR (cR (cR (cR bd13)))))))))), .lp (cB (cR (cL (cR (cR (cR (cR bd13)))))))] ?_
    exact kWk (Jk16 1 h)
  ·refine kCe b8_0 ?_
   cases some_inj h
   refine kWo ?_
   refine kXt 0 ?_
   exact kOut
def diwanref13_Fold (fu : Nat) (l : List TTxn) : Option (List Int × TStore × List TSeat) :=
 bd (diwanref13_Fold.lp6 fu l (TStore.mk [] 0) fu [] [] 0 (TStore.mk [] 0)) fun (y34_0, y34_1, y34_2) =>
 some (y34_1, y34_2, y34_0)
theorem diwanref13_Fold.meets (fu : Nat) (l : List TTxn) (z0 : List Int) (z1 : TStore) (z2 : List TSeat) (h : diwanref13_Fold fu l = some (z0, z1, z2)) : Meets Try.prog ⟨13, [sS 4 TTxn.en l], []⟩ ⟨.tup [sS 1 e_i64 z0, .data (.agg [.slc false none 2 (List.map TChain.en z1.Chains), .val (.int .i64 z1.Mark)]), sS 3 TSeat.en z2], []⟩ := by
 refine kMt hmix diwanref13_Fold.O Try.f13 bd13 1 ?_
 unfold diwanref13_Fold at h
 refine kRs 1 [Tm 3 (.ptr 3 0), Ob 3 [.data (.slc true none 2 (List.map TChain.en [])), iv 0]] [] .n ?_
 refine kRs 7 [Tm 5 (.ptr 5 0), Ob 5 [.data (.slc true none 2 (List.map TChain.en [])), iv 0]] [] .n ?_
 refine kRs 31 [Tm 6 (.data (.slc true (some true) 3 (List.map TSeat.en [])))] [] .n ?_
 refine kRs 63 [Tm 7 (.data (.slc true (some true) 1 (List.map e_i64 [])))] [] .n ?_
 refine kSq ?_
 refine kRs 127 [Tm 8 (iv 0)] [] .n ?_
 refine kBk 0 ?_
 refine WK.share (x := .tmp 6) (l' := [Tm 0 (sS 4 TTxn.en l), Tm 3 (.ptr 3 0), Tm 5 (.ptr 5 0), Tm 6 (.data (.slc false (some true) 3 (List.map TSeat.en []))), Tm 7 (.data (.slc true (some true) 1 (List.map e_i64 []))), Tm 8 (iv 0), Ob 3 [.data (.slc true none 2 (List.map TChain.en [])), iv 0], Ob 5 [.data (.slc true none 2 (List.map TChain.en [])), iv 0]]) (by kernel_rfl) ?_
 obtain ⟨o34, ho34, h⟩ := bd_inv h
 refine kUs (diwanref13_Fold.lp6_ok fu l (TStore.mk [] 0) _ [] [] 0 (TStore.mk [] 0) _ ho34) ?_
 intro e_ τ_ hp_
 obtain ⟨y34_0, y34_1, y34_2⟩ := o34
 obtain ⟨rfl, rfl⟩ := hp_
 refine kCd (cR (cR (cR (cR (cR bd13))))) [] ?_
 refine kRs 1 [Tm 2 (sO 1 e_i64 y34_1), Tm 4 (sS 3 TSeat.en y34_0), Ob 3 [sO 2 TChain.en y34_2.Chains, iv y34_2.Mark]] [] (.c rT .n) ?_
 refine kRt ?_
 have h_0 := some_inj h
 obtain ⟨g_1, h_1⟩ := Prod.mk.inj h_0
 obtain ⟨g_2, h_2⟩ := Prod.mk.inj h_1
 subst g_1
 subst g_2
 subst h_2
 exact kFr
def bd14 : Code := (Try.f14.body).getD .skip
def diwanref13_SameInts.O : Nat → Nat := fun t => bif ([4, 5] : List Nat).any (Nat.beq t) then 1 else 0
def diwanref13_SameInts.lp6 (fu : Nat) (l6_0 : List Int) (l6_1 : List Int) : Nat → Int → Option (Unit ⊕ Unit)
  | 0, _ => none
  | n_ + 1, l6_2 =>
  br (decide (l6_2 < (l6_0.length : Int)))
   (ix l6_0 l6_2 fun x9_1 =>
   ix l6_1 l6_2 fun x9_4 =>
   br (x9_1 != x9_4)
    (some (.inr ()))
    (diwanref13_SameInts.lp6 fu l6_0 l6_1 n_ (w64 (l6_2 + 1))))
   (some (.inl ()))
def diwanref13_SameInts.lp6_post (l6_0 : List Int) (l6_1 : List Int) (r_ : (Unit ⊕ Unit)) : Wy → St → Prop := fun e τ => match r_ with
  | .inl _ => e = .exit 0 ∧ τ = ofL []
  | .inr _ => e = .ret ∧ τ = ofL [Tm 4 (bv false)]
theorem diwanref13_SameInts.lp6_ok (fu : Nat) (l6_0 : List Int) (l6_1 : List Int) : ∀ (n_ : Nat) (l6_2 : Int) (r_ : (Unit ⊕ Unit)), diwanref13_SameInts.lp6 fu l6_0 l6_1 n_ l6_2 = some r_ → WK Try.prog diwanref13_SameInts.O (Ck Try.prog) (cB (cR (cL (cR (cR bd14))))) [] (ofL [Tm 0 (sS 1 e_i64 l6_0), Tm 1 (sS 1 e_i64 l6_1), Tm 5 (iv l6_2)]) (diwanref13_SameInts.lp6_post l6_0 l6_1 r_) := by
 intro n_
 induction n_ with
 | zero => intro l6_2 r_ h; exact no_none h
 | succ n_ ih =>
  intro l6_2 r_ h
  refine kLp ?_
  refine kSq ?_
  refine kRs 7 [Tm 14 (bv (decide (l6_2 < (l6_0.length : Int))))] [.s (.t 13) [iv (l6_0.length : Int)]] (.c (c_len (e := e_i64) (l := l6_0)) .n) ?_
  rcases br_inv h with ⟨b8_0, h⟩ | ⟨b8_0, h⟩
  ·refine kCt b8_0 ?_
   refine kSk ?_
   refine kCd (cR (cB (cB (cR (cL (cR (cR bd14))))))) [.lp (cB (cR (cL (cR (cR bd14)))))] ?_
   refine kSq ?_
   refine kBk 1 ?_
   obtain ⟨x9_1, a9_2, e9_3, h⟩ := ix_inv h
   obtain ⟨x9_4, a9_5, e9_6, h⟩ := ix_inv h
   refine kRs 14 [Tm 25 (bv (x9_1 != x9_4))] [.c (e_i64 x9_1), .c (e_i64 x9_4)] (.c (c_ix (e := e_i64) a9_2 e9_3) (.c (c_el (e := e_i64) e9_3) (.c (c_ix (e := e_i64) a9_5 e9_6) (.c (c_el (e := e_i64) e9_6) (.c rT .n))))) ?_
   rcases br_inv h with ⟨b10_0, h⟩ | ⟨b10_0, h⟩
   ·refine kCt b10_0 ?_
    refine kRs 0 [Tm 4 (bv false)] [] .n ?_
    cases some_inj h
    refine kWo ?_
    refine kRt ?_
    exact kOut
   ·refine kCe b10_0 ?_
    refine kSk ?_
    refine kCd (cR (cR (cB (cB (cR (cL (cR (cR bd14)))))))) [.lp (cB (cR (cL (cR (cR bd14)))))] ?_
    refine kRc 6 [Tm 5 (iv (w64 (l6_2 + 1)))] [] .n (cB (cR (cL (cR (cR bd14))))) [] ?_
    exact kWk (ih (w64 (l6_2 + 1)) _ h)
  ·refine kCe b8_0 ?_
   cases some_inj h
   refine kWo ?_
   refine kXt 0 ?_
   exact kOut
def diwanref13_SameInts (fu : Nat) (a : List Int) (b : List Int) : Option Bool :=
 br ((a.length : Int) != (b.length : Int))
  (some false)
  (bd (diwanref13_SameInts.lp6 fu a b fu 0) fun o_ => (match o_ with
  | .inl _ =>
   some true
  | .inr _ =>
   some false))
theorem diwanref13_SameInts.meets (fu : Nat) (a : List Int) (b : List Int) (z0 : Bool) (h : diwanref13_SameInts fu a b = some z0) : Meets Try.prog ⟨14, [sS 1 e_i64 a, sS 1 e_i64 b], []⟩ ⟨bv z0, []⟩ := by
 refine kMt hmix diwanref13_SameInts.O Try.f14 bd14 3 ?_
 unfold diwanref13_SameInts at h
 refine kRs 3 [] [] .n ?_
 refine kSq ?_
 refine kRs 3 [Tm 10 (bv ((a.length : Int) != (b.length : Int)))] [.s (.t 7) [iv (a.length : Int)], .s (.t 9) [iv (b.length : Int)]] (.c (c_len (e := e_i64) (l := a)) (.c (c_len (e := e_i64) (l := b)) .n)) ?_
 rcases br_inv h with ⟨b3_0, h⟩ | ⟨b3_0, h⟩
 ·refine kCt b3_0 ?_
  refine kRs 0 [Tm 4 (bv false)] [] .n ?_
  refine kRt ?_
  have h_ := some_inj h
  subst h_
  exact kFr
 ·refine kCe b3_0 ?_
  refine kSk ?_
  refine kCd (cR (cR bd14)) [] ?_
  refine kSq ?_
  refine kRs 6 [Tm 5 (iv 0)] [] .n ?_
  refine kBk 0 ?_
  obtain ⟨o13, ho13, h⟩ := bd_inv h
  refine kUs (diwanref13_SameInts.lp6_ok fu a b _ 0 _ ho13) ?_
  intro e_ τ_ hp_
  rcases o13 with o13 | o13
  ·obtain ⟨⟩ := o13
   obtain ⟨rfl, rfl⟩ := hp_
   refine kCd (cR (cR (cR bd14))) [] ?_
   refine kRs 0 [Tm 4 (bv true)] [] .n ?_
   refine kRt ?_
   have h_ := some_inj h
   subst h_
   exact kFr
  ·obtain ⟨⟩ := o13
   obtain ⟨rfl, rfl⟩ := hp_
   have h_ := some_inj h
   subst h_
   exact kFr
def bd25 : Code := (Try.f25.body).getD .skip
def diwanref13_SameChain.O : Nat → Nat := fun t => bif ([4, 5] : List Nat).any (Nat.beq t) then 1 else 0
def diwanref13_SameChain.lp6 (fu : Nat) (l6_0 : List TVersion) (l6_1 : List TVersion) : Nat → Int → Option (Unit ⊕ Unit)
  | 0, _ => none
  | n_ + 1, l6_2 =>
  br (decide (l6_2 < (l6_0.length : Int)))
   (ix l6_0 l6_2 fun x9_1 =>
   ix l6_1 l6_2 fun x9_4 =>
   br (!((x9_1.Pos == x9_4.Pos) && ((x9_1.Val.toList == x9_4.Val.toList) && ((x9_1.Gone == x9_4.Gone) && true))))
    (some (.inr ()))
    (diwanref13_SameChain.lp6 fu l6_0 l6_1 n_ (w64 (l6_2 + 1))))
   (some (.inl ()))
def diwanref13_SameChain.lp6_post (l6_0 : List TVersion) (l6_1 : List TVersion) (r_ : (Unit ⊕ Unit)) : Wy → St → Prop := fun e τ => match r_ with
  | .inl _ => e = .exit 0 ∧ τ = ofL []
  | .inr _ => e = .ret ∧ τ = ofL [Tm 4 (bv false)]
theorem diwanref13_SameChain.lp6_ok (fu : Nat) (l6_0 : List TVersion) (l6_1 : List TVersion) : ∀ (n_ : Nat) (l6_2 : Int) (r_ : (Unit ⊕ Unit)), diwanref13_SameChain.lp6 fu l6_0 l6_1 n_ l6_2 = some r_ → WK Try.prog diwanref13_SameChain.O (Ck Try.prog) (cB (cR (cL (cR (cR bd25))))) [] (ofL [Tm 0 (sS 3 TVersion.en l6_0), Tm 1 (sS 3 TVersion.en l6_1), Tm 5 (iv l6_2)]) (diwanref13_SameChain.lp6_post l6_0 l6_1 r_) := by
 intro n_
 induction n_ with
 | zero => intro l6_2 r_ h; exact no_none h
 | succ n_ ih =>
  intro l6_2 r_ h
  refine kLp ?_
  refine kSq ?_
  refine kRs 7 [Tm 14 (bv (decide (l6_2 < (l6_0.length : Int))))] [.s (.t 13) [iv (l6_0.length : Int)]] (.c (c_len (e := TVersion.en) (l := l6_0)) .n) ?_
  rcases br_inv h with ⟨b8_0, h⟩ | ⟨b8_0, h⟩
  ·refine kCt b8_0 ?_
   refine kSk ?_
   refine kCd (cR (cB (cB (cR (cL (cR (cR bd25))))))) [.lp (cB (cR (cL (cR (cR bd25)))))] ?_
   refine kSq ?_
   refine kBk 1 ?_
   obtain ⟨x9_1, a9_2, e9_3, h⟩ := ix_inv h
   obtain ⟨x9_4, a9_5, e9_6, h⟩ := ix_inv h
   refine kRs 14 [Tm 25 (bv (!((x9_1.Pos == x9_4.Pos) && ((x9_1.Val.toList == x9_4.Val.toList) && ((x9_1.Gone == x9_4.Gone) && true)))))] [.c (TVersion.en x9_1), .c (TVersion.en x9_4)] (.c (c_ix (e := TVersion.en) a9_2 e9_3) (.c (c_el (e := TVersion.en) e9_3) (.c (c_ix (e := TVersion.en) a9_5 e9_6) (.c (c_el (e := TVersion.en) e9_6) (.c rT .n))))) ?_
   rcases br_inv h with ⟨b10_0, h⟩ | ⟨b10_0, h⟩
   ·refine kCt b10_0 ?_
    refine kRs 0 [Tm 4 (bv false)] [] .n ?_
    cases some_inj h
    refine kWo ?_
    refine kRt ?_
    exact kOut
   ·refine kCe b10_0 ?_
    refine kSk ?_
    refine kCd (cR (cR (cB (cB (cR (cL (cR (cR bd25)))))))) [.lp (cB (cR (cL (cR (cR bd25)))))] ?_
    refine kRc 6 [Tm 5 (iv (w64 (l6_2 + 1)))] [] .n (cB (cR (cL (cR (cR bd25))))) [] ?_
    exact kWk (ih (w64 (l6_2 + 1)) _ h)
  ·refine kCe b8_0 ?_
   cases some_inj h
   refine kWo ?_
   refine kXt 0 ?_
   exact kOut
def diwanref13_SameChain (fu : Nat) (a : List TVersion) (b : List TVersion) : Option Bool :=
 br ((a.length : Int) != (b.length : Int))
  (some false)
  (bd (diwanref13_SameChain.lp6 fu a b fu 0) fun o_ => (match o_ with
  | .inl _ =>
   some true
  | .inr _ =>
   some false))
theorem diwanref13_SameChain.meets (fu : Nat) (a : List TVersion) (b : List TVersion) (z0 : Bool) (h : diwanref13_SameChain fu a b = some z0) : Meets Try.prog ⟨25, [sS 3 TVersion.en a, sS 3 TVersion.en b], []⟩ ⟨bv z0, []⟩ := by
 refine kMt hmix diwanref13_SameChain.O Try.f25 bd25 3 ?_
 unfold diwanref13_SameChain at h
 refine kRs 3 [] [] .n ?_
 refine kSq ?_
 refine kRs 3 [Tm 10 (bv ((a.length : Int) != (b.length : Int)))] [.s (.t 7) [iv (a.length : Int)], .s (.t 9) [iv (b.length : Int)]] (.c (c_len (e := TVersion.en) (l := a)) (.c (c_len (e := TVersion.en) (l := b)) .n)) ?_
 rcases br_inv h with ⟨b3_0, h⟩ | ⟨b3_0, h⟩
 ·refine kCt b3_0 ?_
  refine kRs 0 [Tm 4 (bv false)] [] .n ?_
  refine kRt ?_
  have h_ := some_inj h
  subst h_
  exact kFr
 ·refine kCe b3_0 ?_
  refine kSk ?_
  refine kCd (cR (cR bd25)) [] ?_
  refine kSq ?_
  refine kRs 6 [Tm 5 (iv 0)] [] .n ?_
  refine kBk 0 ?_
  obtain ⟨o13, ho13, h⟩ := bd_inv h
  refine kUs (diwanref13_SameChain.lp6_ok fu a b _ 0 _ ho13) ?_
  intro e_ τ_ hp_
  rcases o13 with o13 | o13
  ·obtain ⟨⟩ := o13
   obtain ⟨rfl, rfl⟩ := hp_
   refine kCd (cR (cR (cR bd25))) [] ?_
   refine kRs 0 [Tm 4 (bv true)] [] .n ?_
   refine kRt ?_
   have h_ := some_inj h
   subst h_
   exact kFr
  ·obtain ⟨⟩ := o13
   obtain ⟨rfl, rfl⟩ := hp_
   have h_ := some_inj h
   subst h_
   exact kFr
def bd15 : Code := (Try.f15.body).getD .skip
def diwanref13_SameStore.O : Nat → Nat := fun t => bif ([2, 3, 4, 5] : List Nat).any (Nat.beq t) then 1 else 0
def diwanref13_SameStore.lp7 (fu : Nat) (l7_1 : TStore) (l7_2 : TStore) : Nat → Int → Option (Unit ⊕ Unit)
  | 0, _ => none
  | n_ + 1, l7_0 =>
  br (decide (l7_0 < (l7_1.Chains.length : Int)))
   (ix l7_1.Chains l7_0 fun x10_1 =>
   ix l7_2.Chains l7_0 fun x10_4 =>
   br (!(x10_1.Key.toList == x10_4.Key.toList))
    (some (.inr ()))
    (ix l7_1.Chains l7_0 fun x10_8 =>
    ix l7_2.Chains l7_0 fun x10_11 =>
    bd (diwanref13_SameChain fu x10_8.L x10_11.L) fun r10_14 =>
    br (!r10_14)
     (some (.inr ()))
     (diwanref13_SameStore.lp7 fu l7_1 l7_2 n_ (w64 (l7_0 + 1)))))
   (some (.inl ()))
def diwanref13_SameStore.lp7_post (l7_1 : TStore) (l7_2 : TStore) (r_ : (Unit ⊕ Unit)) : Wy → St → Prop := fun e τ => match r_ with
  | .inl _ => e = .exit 0 ∧ τ = ofL []
  | .inr _ => e = .ret ∧ τ = ofL [Tm 4 (bv false)]
theorem diwanref13_SameStore.lp7_ok (fu : Nat) (l7_1 : TStore) (l7_2 : TStore) : ∀ (n_ : Nat) (l7_0 : Int) (r_ : (Unit ⊕ Unit)), diwanref13_SameStore.lp7 fu l7_1 l7_2 n_ l7_0 = some r_ → WK Try.prog diwanref13_SameStore.O (Ck Try.prog) (cB (cR (cL (cR (cR bd15))))) [] (ofL [Tm 2 (.ptr 2 0), Tm 3 (.ptr 3 0), Tm 5 (iv l7_0), Ob 2 [sS 2 TChain.en l7_1.Chains, iv l7_1.Mark], Ob 3 [sS 2 TChain.en l7_2.Chains, iv l7_2.Mark]]) (diwanref13_SameStore.lp7_post l7_1 l7_2 r_) := by
 intro n_
 induction n_ with
 | zero => intro l7_0 r_ h; exact no_none h
 | succ n_ ih =>
  intro l7_0 r_ h
  refine kLp ?_
  refine kSq ?_
  refine kRs 31 [Tm 24 (bv (decide (l7_0 < (l7_1.Chains.length : Int))))] [.s (.t 23) [iv (l7_1.Chains.length : Int)]] (.c (c_len (e := TChain.en) (l := l7_1.Chains)) .n) ?_
  rcases br_inv h with ⟨b9_0, h⟩ | ⟨b9_0, h⟩
  ·refine kCt b9_0 ?_
   refine kSk ?_
   refine kCd (cR (cB (cB (cR (cL (cR (cR bd15))))))) [.lp (cB (cR (cL (cR (cR bd15)))))] ?_
   refine kSq ?_
   refine kBk 1 ?_
   obtain ⟨x10_1, a10_2, e10_3, h⟩ := ix_inv h
   obtain ⟨x10_4, a10_5, e10_6, h⟩ := ix_inv h
   rcases br_inv h with ⟨b10_7, h⟩ | ⟨b10_7, h⟩
   ·refine kRs 62 [Tm 55 (bv true)] (.c (TChain.en x10_1) :: (.c (TChain.en x10_4) :: (rp 15 (.b true) []))) (.c (c_ix (e := TChain.en) a10_2 e10_3) (.c (c_el (e := TChain.en) e10_3) (.c (c_ix (e := TChain.en) a10_5 e10_6) (.c (c_el (e := TChain.en) e10_6) (.r 15 b10_7 (.c rT .n)))))) ?_
    refine kCt rT ?_
    refine kRs 0 [Tm 4 (bv false)] [] .n ?_
    cases some_inj h
    refine kWo ?_
    refine kRt ?_
    exact kOut
   ·obtain ⟨x10_8, a10_9, e10_10, h⟩ := ix_inv h
    obtain ⟨x10_11, a10_12, e10_13, h⟩ := ix_inv h
    obtain ⟨r10_14, h10_15, h⟩ := bd_inv h
    refine kRs 62 [Tm 55 (bv (!r10_14))] (.c (TChain.en x10_1) :: (.c (TChain.en x10_4) :: (rp 4 (.b false) (.c (TChain.en x10_8) :: (rp 6 (.b false) [.c (TChain.en x10_11), .b false, .b false, .b false, .a ⟨bv r10_14, []⟩, .b false, .b false]))))) (.c (c_ix (e := TChain.en) a10_2 e10_3) (.c (c_el (e := TChain.en) e10_3) (.c (c_ix (e := TChain.en) a10_5 e10_6) (.c (c_el (e := TChain.en) e10_6) (.r 4 b10_7 (.c (c_ix (e := TChain.en) a10_9 e10_10) (.c (c_el (e := TChain.en) e10_10) (.r 6 b10_7 (.c (c_ix (e := TChain.en) a10_12 e10_13) (.c (c_el (e := TChain.en) e10_13) (.r 3 b10_7 (.c (aoM (diwanref13_SameChain.meets fu x10_8.L x10_11.L _ h10_15)) (.r 2 b10_7 (.c rT .n)))))))))))))) ?_
    rcases br_inv h with ⟨b12_0, h⟩ | ⟨b12_0, h⟩
    ·refine kCt b12_0 ?_
     refine kRs 0 [Tm 4 (bv false)] [] .n ?_
     cases some_inj h
     refine kWo ?_
     refine kRt ?_
     exact kOut
    ·refine kCe b12_0 ?_
     refine kSk ?_
     refine kCd (cR (cR (cB (cB (cR (cL (cR (cR bd15)))))))) [.lp (cB (cR (cL (cR (cR bd15)))))] ?_
     refine kRc 54 [Tm 5 (iv (w64 (l7_0 + 1)))] [] .n (cB (cR (cL (cR (cR bd15))))) [] ?_
     exact kWk (ih (w64 (l7_0 + 1)) _ h)
  ·refine kCe b9_0 ?_
   cases some_inj h
   refine kWo ?_
   refine kXt 0 ?_
   exact kOut
def diwanref13_SameStore (fu : Nat) (a : TStore) (b : TStore) : Option Bool :=
 br (a.Mark != b.Mark)
  (some false)
  (br ((a.Chains.length : Int) != (b.Chains.length : Int))
   (some false)
   (bd (diwanref13_SameStore.lp7 fu a b fu 0) fun o_ => (match o_ with
   | .inl _ =>
    some true
   | .inr _ =>
    some false)))
theorem diwanref13_SameStore.meets (fu : Nat) (a : TStore) (b : TStore) (z0 : Bool) (h : diwanref13_SameStore fu a b = some z0) : Meets Try.prog ⟨15, [.data (.agg [.slc false none 2 (List.map TChain.en a.Chains), .val (.int .i64 a.Mark)]), .data (.agg [.slc false none 2 (List.map TChain.en b.Chains), .val (.int .i64 b.Mark)])], []⟩ ⟨bv z0, []⟩ := by
 refine kMt hmix diwanref13_SameStore.O Try.f15 bd15 3 ?_
 unfold diwanref13_SameStore at h
 refine kRs 0 [Tm 2 (.ptr 2 0), Tm 3 (.ptr 3 0), Ob 2 [sS 2 TChain.en a.Chains, iv a.Mark], Ob 3 [sS 2 TChain.en b.Chains, iv b.Mark]] [] .n ?_
 refine kSq ?_
 rcases br_inv h with ⟨b2_1, h⟩ | ⟨b2_1, h⟩
 ·refine kRs 15 [Tm 19 (bv true)] (rp 8 (.b true) []) (.r 8 b2_1 .n) ?_
  refine kCt rT ?_
  refine kRs 0 [Tm 4 (bv false)] [] .n ?_
  refine kRt ?_
  have h_ := some_inj h
  subst h_
  exact kFr
 ·refine kRs 15 [Tm 19 (bv ((a.Chains.length : Int) != (b.Chains.length : Int)))] [.b false, .b false, .b false, .s (.t 14) [iv (a.Chains.length : Int)], .b false, .b false, .b false, .s (.t 17) [iv (b.Chains.length : Int)], .b false, .b false] (.r 3 b2_1 (.c (c_len (e := TChain.en) (l := a.Chains)) (.r 3 b2_1 (.c (c_len (e := TChain.en) (l := b.Chains)) (.r 2 b2_1 .n))))) ?_
  rcases br_inv h with ⟨b4_0, h⟩ | ⟨b4_0, h⟩
  ·refine kCt b4_0 ?_
   refine kRs 0 [Tm 4 (bv false)] [] .n ?_
   refine kRt ?_
   have h_ := some_inj h
   subst h_
   exact kFr
  ·refine kCe b4_0 ?_
   refine kSk ?_
   refine kCd (cR (cR bd15)) [] ?_
   refine kSq ?_
   refine kRs 30 [Tm 5 (iv 0)] [] .n ?_
   refine kBk 0 ?_
   obtain ⟨o15, ho15, h⟩ := bd_inv h
   refine kUs (diwanref13_SameStore.lp7_ok fu a b _ 0 _ ho15) ?_
   intro e_ τ_ hp_
   rcases o15 with o15 | o15
   ·obtain ⟨⟩ := o15
    obtain ⟨rfl, rfl⟩ := hp_
    refine kCd (cR (cR (cR bd15))) [] ?_
    refine kRs 0 [Tm 4 (bv true)] [] .n ?_
    refine kRt ?_
    have h_ := some_inj h
    subst h_
    exact kFr
   ·obtain ⟨⟩ := o15
    obtain ⟨rfl, rfl⟩ := hp_
    have h_ := some_inj h
    subst h_
    exact kFr
def bd16 : Code := (Try.f16.body).getD .skip
def diwanref13_SameSeats.O : Nat → Nat := fun t => bif ([4, 5] : List Nat).any (Nat.beq t) then 1 else 0
def diwanref13_SameSeats.lp6 (fu : Nat) (l6_0 : List TSeat) (l6_1 : List TSeat) : Nat → Int → Option (Unit ⊕ Unit)
  | 0, _ => none
  | n_ + 1, l6_2 =>
  br (decide (l6_2 < (l6_0.length : Int)))
   (ix l6_0 l6_2 fun x9_1 =>
   ix l6_1 l6_2 fun x9_4 =>
   br (!((x9_1.Session == x9_4.Session) && ((x9_1.Seq == x9_4.Seq) && ((x9_1.Pos == x9_4.Pos) && true))))
    (some (.inr ()))
    (diwanref13_SameSeats.lp6 fu l6_0 l6_1 n_ (w64 (l6_2 + 1))))
   (some (.inl ()))
def diwanref13_SameSeats.lp6_post (l6_0 : List TSeat) (l6_1 : List TSeat) (r_ : (Unit ⊕ Unit)) : Wy → St → Prop := fun e τ => match r_ with
  | .inl _ => e = .exit 0 ∧ τ = ofL []
  | .inr _ => e = .ret ∧ τ = ofL [Tm 4 (bv false)]
theorem diwanref13_SameSeats.lp6_ok (fu : Nat) (l6_0 : List TSeat) (l6_1 : List TSeat) : ∀ (n_ : Nat) (l6_2 : Int) (r_ : (Unit ⊕ Unit)), diwanref13_SameSeats.lp6 fu l6_0 l6_1 n_ l6_2 = some r_ → WK Try.prog diwanref13_SameSeats.O (Ck Try.prog) (cB (cR (cL (cR (cR bd16))))) [] (ofL [Tm 0 (sS 3 TSeat.en l6_0), Tm 1 (sS 3 TSeat.en l6_1), Tm 5 (iv l6_2)]) (diwanref13_SameSeats.lp6_post l6_0 l6_1 r_) := by
 intro n_
 induction n_ with
 | zero => intro l6_2 r_ h; exact no_none h
 | succ n_ ih =>
  intro l6_2 r_ h
  refine kLp ?_
  refine kSq ?_
  refine kRs 7 [Tm 14 (bv (decide (l6_2 < (l6_0.length : Int))))] [.s (.t 13) [iv (l6_0.length : Int)]] (.c (c_len (e := TSeat.en) (l := l6_0)) .n) ?_
  rcases br_inv h with ⟨b8_0, h⟩ | ⟨b8_0, h⟩
  ·refine kCt b8_0 ?_
   refine kSk ?_
   refine kCd (cR (cB (cB (cR (cL (cR (cR bd16))))))) [.lp (cB (cR (cL (cR (cR bd16)))))] ?_
   refine kSq ?_
   refine kBk 1 ?_
   obtain ⟨x9_1, a9_2, e9_3, h⟩ := ix_inv h
   obtain ⟨x9_4, a9_5, e9_6, h⟩ := ix_inv h
   refine kRs 14 [Tm 25 (bv (!((x9_1.Session == x9_4.Session) && ((x9_1.Seq == x9_4.Seq) && ((x9_1.Pos == x9_4.Pos) && true)))))] [.c (TSeat.en x9_1), .c (TSeat.en x9_4)] (.c (c_ix (e := TSeat.en) a9_2 e9_3) (.c (c_el (e := TSeat.en) e9_3) (.c (c_ix (e := TSeat.en) a9_5 e9_6) (.c (c_el (e := TSeat.en) e9_6) (.c rT .n))))) ?_
   rcases br_inv h with ⟨b10_0, h⟩ | ⟨b10_0, h⟩
   ·refine kCt b10_0 ?_
    refine kRs 0 [Tm 4 (bv false)] [] .n ?_
    cases some_inj h
    refine kWo ?_
    refine kRt ?_
    exact kOut
   ·refine kCe b10_0 ?_
    refine kSk ?_
    refine kCd (cR (cR (cB (cB (cR (cL (cR (cR bd16)))))))) [.lp (cB (cR (cL (cR (cR bd16)))))] ?_
    refine kRc 6 [Tm 5 (iv (w64 (l6_2 + 1)))] [] .n (cB (cR (cL (cR (cR bd16))))) [] ?_
    exact kWk (ih (w64 (l6_2 + 1)) _ h)
  ·refine kCe b8_0 ?_
   cases some_inj h
   refine kWo ?_
   refine kXt 0 ?_
   exact kOut
def diwanref13_SameSeats (fu : Nat) (a : List TSeat) (b : List TSeat) : Option Bool :=
 br ((a.length : Int) != (b.length : Int))
  (some false)
  (bd (diwanref13_SameSeats.lp6 fu a b fu 0) fun o_ => (match o_ with
  | .inl _ =>
   some true
  | .inr _ =>
   some false))
theorem diwanref13_SameSeats.meets (fu : Nat) (a : List TSeat) (b : List TSeat) (z0 : Bool) (h : diwanref13_SameSeats fu a b = some z0) : Meets Try.prog ⟨16, [sS 3 TSeat.en a, sS 3 TSeat.en b], []⟩ ⟨bv z0, []⟩ := by
 refine kMt hmix diwanref13_SameSeats.O Try.f16 bd16 3 ?_
 unfold diwanref13_SameSeats at h
 refine kRs 3 [] [] .n ?_
 refine kSq ?_
 refine kRs 3 [Tm 10 (bv ((a.length : Int) != (b.length : Int)))] [.s (.t 7) [iv (a.length : Int)], .s (.t 9) [iv (b.length : Int)]] (.c (c_len (e := TSeat.en) (l := a)) (.c (c_len (e := TSeat.en) (l := b)) .n)) ?_
 rcases br_inv h with ⟨b3_0, h⟩ | ⟨b3_0, h⟩
 ·refine kCt b3_0 ?_
  refine kRs 0 [Tm 4 (bv false)] [] .n ?_
  refine kRt ?_
  have h_ := some_inj h
  subst h_
  exact kFr
 ·refine kCe b3_0 ?_
  refine kSk ?_
  refine kCd (cR (cR bd16)) [] ?_
  refine kSq ?_
  refine kRs 6 [Tm 5 (iv 0)] [] .n ?_
  refine kBk 0 ?_
  obtain ⟨o13, ho13, h⟩ := bd_inv h
  refine kUs (diwanref13_SameSeats.lp6_ok fu a b _ 0 _ ho13) ?_
  intro e_ τ_ hp_
  rcases o13 with o13 | o13
  ·obtain ⟨⟩ := o13
   obtain ⟨rfl, rfl⟩ := hp_
   refine kCd (cR (cR (cR bd16))) [] ?_
   refine kRs 0 [Tm 4 (bv true)] [] .n ?_
   refine kRt ?_
   have h_ := some_inj h
   subst h_
   exact kFr
  ·obtain ⟨⟩ := o13
   obtain ⟨rfl, rfl⟩ := hp_
   have h_ := some_inj h
   subst h_
   exact kFr
def bd3 : Code := (Try.f3.body).getD .skip
def diwanlaw18_JudgeAll.O : Nat → Nat := fun t => bif ([2, 3, 4, 5, 6, 7, 8, 9, 22, 28] : List Nat).any (Nat.beq t) then 1 else 0
def diwanlaw18_JudgeAll (fu : Nat) (picks : List Int) : Option Bool :=
 bd (diwanlaw18_begun fu) fun r2_1 =>
 br (!r2_1)
  (some false)
  (br (decide ((picks.length : Int) > 250))
   (some true)
   (bd (diwanplay_Made picks) fun r8_1 =>
   bd (diwanplay_Picks_Txns fu 25 r8_1) fun (r8_3, r8_4) =>
   bd (judge_Fold fu r8_3) fun (r9_1, r9_2, r9_3) =>
   bd (diwanref13_Fold fu r8_3) fun (r10_1, r10_2, r10_3) =>
   bd (diwanref13_SameInts fu r9_1 r10_1) fun r11_1 =>
   br r11_1
    (bd (diwanref13_SameStore fu r9_2 r10_2) fun r11_4 =>
    br r11_4
     (bd (diwanref13_SameSeats fu r9_3 r10_3) fun r11_7 =>
     some r11_7)
     (some false))
    (some false)))
theorem diwanlaw18_JudgeAll.meets (fu : Nat) (picks : List Int) (z0 : Bool) (h : diwanlaw18_JudgeAll fu picks = some z0) : Meets Try.prog ⟨3, [sS 1 e_u8 picks], []⟩ ⟨bv z0, []⟩ := by
 refine kMt hmix diwanlaw18_JudgeAll.O Try.f3 bd3 1 ?_
 unfold diwanlaw18_JudgeAll at h
 refine kRs 1 [] [] .n ?_
 refine kSq ?_
 obtain ⟨r2_1, h2_2, h⟩ := bd_inv h
 refine kRs 1 [Tm 11 (bv (!r2_1))] [.a ⟨bv r2_1, []⟩] (.c (aoM (diwanlaw18_begun.meets fu _ h2_2)) .n) ?_
 rcases br_inv h with ⟨b3_0, h⟩ | ⟨b3_0, h⟩
 ·refine kCt b3_0 ?_
  refine kRs 0 [Tm 2 (bv false)] [] .n ?_
  refine kRt ?_
  have h_ := some_inj h
  subst h_
  exact kFr
 ·refine kCe b3_0 ?_
  refine kSk ?_
  refine kCd (cR (cR bd3)) [] ?_
  refine kSq ?_
  refine kRs 2 [Tm 14 (bv (decide ((picks.length : Int) > 250)))] [.s (.t 13) [iv (picks.length : Int)]] (.c (c_len (e := e_u8) (l := picks)) .n) ?_
  rcases br_inv h with ⟨b6_0, h⟩ | ⟨b6_0, h⟩
  ·refine kCt b6_0 ?_
   refine kRs 0 [Tm 2 (bv true)] [] .n ?_
   refine kRt ?_
   have h_ := some_inj h
   subst h_
   exact kFr
  ·refine kCe b6_0 ?_
   refine kSk ?_
   refine kCd (cR (cR (cR bd3))) [] ?_
   obtain ⟨r8_1, h8_2, h⟩ := bd_inv h
   obtain ⟨⟨r8_3, r8_4⟩, h8_5, h⟩ := bd_inv h
   refine kRs 0 [Tm 3 (sO 4 TTxn.en r8_3)] [.a ⟨.ptr 1000 0, [[sS 1 e_u8 r8_1.l, iv r8_1.n]]⟩, .a ⟨sO 4 TTxn.en r8_3, [[sS 1 e_u8 r8_4.l, iv r8_4.n]]⟩] (.c (aoM (diwanplay_Made.meets picks _ h8_2)) (.c (aoM (diwanplay_Picks_Txns.meets fu 25 r8_1 _ _ h8_5)) .n)) ?_
   obtain ⟨⟨r9_1, r9_2, r9_3⟩, h9_4, h⟩ := bd_inv h
   refine kRs 0 [Tm 3 (sS 4 TTxn.en r8_3), Tm 4 (sS 1 e_i64 r9_1), Tm 5 (.ptr 5 0), Tm 6 (sS 3 TSeat.en r9_3), Ob 5 [sS 2 TChain.en r9_2.Chains, iv r9_2.Mark]] [.a ⟨.tup [sS 1 e_i64 r9_1, .data (.agg [.slc false none 2 (List.map TChain.en r9_2.Chains), .val (.int .i64 r9_2.Mark)]), sS 3 TSeat.en r9_3], []⟩] (.c (aoM (judge_Fold.meets fu r8_3 _ _ _ h9_4)) .n) ?_
   obtain ⟨⟨r10_1, r10_2, r10_3⟩, h10_4, h⟩ := bd_inv h
   refine kRs 30 [Tm 7 (sS 1 e_i64 r10_1), Tm 8 (.ptr 8 0), Tm 9 (sS 3 TSeat.en r10_3), Ob 8 [sS 2 TChain.en r10_2.Chains, iv r10_2.Mark]] [.a ⟨.tup [sS 1 e_i64 r10_1, .data (.agg [.slc false none 2 (List.map TChain.en r10_2.Chains), .val (.int .i64 r10_2.Mark)]), sS 3 TSeat.en r10_3], []⟩] (.c (aoM (diwanref13_Fold.meets fu r8_3 _ _ _ h10_4)) .n) ?_
   obtain ⟨r11_1, h11_2, h⟩ := bd_inv h
   rcases br_inv h with ⟨b11_3, h⟩ | ⟨b11_3, h⟩
   ·obtain ⟨r11_4, h11_5, h⟩ := bd_inv h
    rcases br_inv h with ⟨b11_6, h⟩ | ⟨b11_6, h⟩
    ·obtain ⟨r11_7, h11_8, h⟩ := bd_inv h
     refine kRs 0 [Tm 2 (bv r11_7)] (.a ⟨bv r11_1, []⟩ :: (.b true :: (.b true :: (.b true :: (.a ⟨bv r11_4, []⟩ :: (rp 4 (.b true) [.a ⟨bv r11_7, []⟩, .b true])))))) (.c (aoM (diwanref13_SameInts.meets fu r9_1 r10_1 _ h11_2)) (.r 3 b11_3 (.c (aoM (diwanref13_SameStore.meets fu r9_2 r10_2 _ h11_5)) (.c b11_3 (.r 3 b11_6 (.c (aoM (diwanref13_SameSeats.meets fu r9_3 r10_3 _ h11_8)) (.c b11_6 .n))))))) ?_
     refine kRt ?_
     have h_ := some_inj h
     subst h_
     exact kFr
    ·refine kRs 0 [Tm 2 (bv false)] (.a ⟨bv r11_1, []⟩ :: (.b true :: (.b true :: (.b true :: (.a ⟨bv r11_4, []⟩ :: (.b true :: (rp 4 (.b false) []))))))) (.c (aoM (diwanref13_SameInts.meets fu r9_1 r10_1 _ h11_2)) (.r 3 b11_3 (.c (aoM (diwanref13_SameStore.meets fu r9_2 r10_2 _ h11_5)) (.c b11_3 (.r 4 b11_6 .n))))) ?_
     refine kRt ?_
     have h_ := some_inj h
     subst h_
     exact kFr
   ·refine kRs 0 [Tm 2 (bv false)] (.a ⟨bv r11_1, []⟩ :: (rp 8 (.b false) [])) (.c (aoM (diwanref13_SameInts.meets fu r9_1 r10_1 _ h11_2)) (.r 4 b11_3 (.r 4 rF .n))) ?_
    refine kRt ?_
    have h_ := some_inj h
    subst h_
    exact kFr
end Go.Proofs.Ytknkeabmjleoiaa.Told
