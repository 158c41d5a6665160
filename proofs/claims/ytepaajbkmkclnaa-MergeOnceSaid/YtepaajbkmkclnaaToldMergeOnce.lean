/- Functions of the program told as Lean functions, with the walks of their code in the machine by value. -/
import Derived.Test.YtepaajbkmkclnaaProg
import Derived.Test.YtepaajbkmkclnaaVam2
import Derived.Test.YtepaajbkmkclnaaEpWalk
import Derived.Test.YtepaajbkmkclnaaMgRep
noncomputable section
namespace Go.Proofs.Ytepaajbkmkclnaa.Told
open Go Go.Proofs Go.Proofs.Ytepaajbkmkclnaa Go.Proofs.Ytepaajbkmkclnaa.Vam
set_option linter.unusedVariables false
set_option maxRecDepth 100000
theorem hmix : Try.prog.follows .mixedOrders = true := by kernel_rfl
structure TRead where
  Key : ByteArray
  Version : Int
  Val : ByteArray
  There : Bool
def TRead.en (x : TRead) : List DV := [.val (.string x.Key), .val (.int .i64 x.Version), .val (.string x.Val), .val (.bool x.There)]
structure TWrite where
  Key : ByteArray
  Val : ByteArray
  Gone : Bool
def TWrite.en (x : TWrite) : List DV := [.val (.string x.Key), .val (.string x.Val), .val (.bool x.Gone)]
structure TTxn where
  Session : Int
  Seq : Int
  Reads : (List TRead)
  Writes : (List TWrite)
def TTxn.en (x : TTxn) : List DV := [.val (.int .i64 x.Session), .val (.int .i64 x.Seq), .slc false none 4 (List.map TRead.en x.Reads), .slc false none 3 (List.map TWrite.en x.Writes)]
structure TEntry where
  Term : Int
  Seal : Bool
  T : TTxn
def TEntry.en (x : TEntry) : List DV := [.val (.int .i64 x.Term), .val (.bool x.Seal), .val (.int .i64 x.T.Session), .val (.int .i64 x.T.Seq), .slc false none 4 (List.map TRead.en x.T.Reads), .slc false none 3 (List.map TWrite.en x.T.Writes)]
structure TPlace where
  Part : Int
  Index : Int
  T : TTxn
def TPlace.en (x : TPlace) : List DV := [.val (.int .i64 x.Part), .val (.int .i64 x.Index), .val (.int .i64 x.T.Session), .val (.int .i64 x.T.Seq), .slc false none 4 (List.map TRead.en x.T.Reads), .slc false none 3 (List.map TWrite.en x.T.Writes)]
structure THead where
  batch : Int
  part : Int
def THead.en (x : THead) : List DV := [.val (.int .i64 x.batch), .val (.int .i64 x.part)]
structure TPicks where
  l : (List Int)
  n : Int
def TPicks.en (x : TPicks) : List DV := [.slc false none 1 (List.map e_u8 x.l), .val (.int .i64 x.n)]
structure TA4_int where
  c0 : Int
  c1 : Int
  c2 : Int
  c3 : Int
def TA4_int.en (x : TA4_int) : List DV := [.val (.int .i64 x.c0), .val (.int .i64 x.c1), .val (.int .i64 x.c2), .val (.int .i64 x.c3)]
def TA4_int.ob (x : TA4_int) : List AV := [.data (.val (.int .i64 x.c0)), .data (.val (.int .i64 x.c1)), .data (.val (.int .i64 x.c2)), .data (.val (.int .i64 x.c3))]
def TTxn.ag (x : TTxn) : DV := .agg [.val (.int .i64 x.Session), .val (.int .i64 x.Seq), .slc false none 4 (List.map TRead.en x.Reads), .slc false none 3 (List.map TWrite.en x.Writes)]
def TTxn.ag_0011 (x : TTxn) : DV := .agg [.val (.int .i64 x.Session), .val (.int .i64 x.Seq), .slc true none 4 (List.map TRead.en x.Reads), .slc true none 3 (List.map TWrite.en x.Writes)]
def TTxn.ob (x : TTxn) : List AV := [.data (.val (.int .i64 x.Session)), .data (.val (.int .i64 x.Seq)), .data (.slc false none 4 (List.map TRead.en x.Reads)), .data (.slc false none 3 (List.map TWrite.en x.Writes))]
def TTxn.ob_0011 (x : TTxn) : List AV := [.data (.val (.int .i64 x.Session)), .data (.val (.int .i64 x.Seq)), .data (.slc true none 4 (List.map TRead.en x.Reads)), .data (.slc true none 3 (List.map TWrite.en x.Writes))]
def TPlace.ag (x : TPlace) : DV := .agg [.val (.int .i64 x.Part), .val (.int .i64 x.Index), .val (.int .i64 x.T.Session), .val (.int .i64 x.T.Seq), .slc false none 4 (List.map TRead.en x.T.Reads), .slc false none 3 (List.map TWrite.en x.T.Writes)]
def TPlace.ob (x : TPlace) : List AV := [.data (.val (.int .i64 x.Part)), .data (.val (.int .i64 x.Index)), .data (.val (.int .i64 x.T.Session)), .data (.val (.int .i64 x.T.Seq)), .data (.slc false none 4 (List.map TRead.en x.T.Reads)), .data (.slc false none 3 (List.map TWrite.en x.T.Writes))]
def TEntry.ob_000011 (x : TEntry) : List AV := [.data (.val (.int .i64 x.Term)), .data (.val (.bool x.Seal)), .data (.val (.int .i64 x.T.Session)), .data (.val (.int .i64 x.T.Seq)), .data (.slc true none 4 (List.map TRead.en x.T.Reads)), .data (.slc true none 3 (List.map TWrite.en x.T.Writes))]
def TWrite.ob (x : TWrite) : List AV := [.data (.val (.string x.Key)), .data (.val (.string x.Val)), .data (.val (.bool x.Gone))]
def TRead.ob (x : TRead) : List AV := [.data (.val (.string x.Key)), .data (.val (.int .i64 x.Version)), .data (.val (.string x.Val)), .data (.val (.bool x.There))]
/-- diwan/epoch.Cut, in memory by hand. -/
def epoch_Cut (entries : List TEntry) : Option (List (List Int)) :=
 gd (decide (entries.length ≤ 100000)) (some (Ep.runR 0 (entries.map fun x => x.Seal) [[]]))
theorem epoch_Cut.meets (entries : List TEntry) (z0 : List (List Int)) (h : epoch_Cut entries = some z0) : Meets Try.prog ⟨26, [sS 6 TEntry.en entries], []⟩ ⟨sS 1 (e_l 1 e_i64) z0, []⟩ := by
 obtain ⟨hc, h⟩ := gd_inv h
 cases some_inj h
 refine cut_meets Try.func26 (by kernel_rfl) (by kernel_rfl) Ep.cut_walk (es := List.map TEntry.en entries) (xs := entries.map fun x => x.Seal) (by simp) (fun i ch hi => ?_) (fun e => ?_) (by simpa using of_decide_eq_true hc)
 · rw [List.getElem?_map] at hi
   cases hx : entries[i]? with
   | none => rw [hx] at hi; cases hi
   | some x =>
    rw [hx] at hi
    cases hi
    refine ⟨x.Term, x.T.Session, x.T.Seq, 4, List.map TRead.en x.T.Reads, 3, List.map TWrite.en x.T.Writes, ?_⟩
    rw [List.getD_eq_getElem?_getD, List.getElem?_map, hx]
    rfl
 · have := Ep.runR_pos (entries.map fun x => x.Seal)
   rw [e] at this
   cases this
def bd57 : Code := (Try.f57.body).getD .skip
def merge_heads_Push.O : Nat → Nat := fun t => bif ([7, 10, 11] : List Nat).any (Nat.beq t) then 1 else 0
def merge_heads_Push (v : THead) (o0_v : List THead) : Option (List THead) :=
 gd (decide (o0_v.length + ([v] : List THead).length ≤ 4294967296)) <|
 some (o0_v ++ ([v] : List THead))
theorem merge_heads_Push.meets (v : THead) (o0_v : List THead) (z0 : List THead) (h : merge_heads_Push v o0_v = some z0) : Meets Try.prog ⟨57, [.ptr 1000 0, .ifc 68 (.data (.agg [.val (.int .i64 v.batch), .val (.int .i64 v.part)]))], [[sO 2 THead.en o0_v]]⟩ ⟨.tup [], [[sO 2 THead.en z0]]⟩ := by
 refine kMt hmix merge_heads_Push.O Try.f57 bd57 7 ?_
 unfold merge_heads_Push at h
 obtain ⟨c1_1, h⟩ := gd_inv h
 have h_ := some_inj h
 subst h_
 exact kRf [.s (.t 11) [sO 2 THead.en (o0_v ++ ([v] : List THead))]] (.c (c_al (e := THead.en) (f := THead.en) c1_1) (.c (congrArg (fun d : DV => [AV.data d]) (c_app (e := THead.en) (s := 2) (l := o0_v) (m := ([v] : List THead)))) (.c rT .n)))
def bd28 : Code := (Try.f28.body).getD .skip
def merge_heads_Len.O : Nat → Nat := fun t => bif ([2] : List Nat).any (Nat.beq t) then 1 else 0
def merge_heads_Len (h_v : List THead) : Option Int :=
 some (h_v.length : Int)
theorem merge_heads_Len.meets (h_v : List THead) (z0 : Int) (h : merge_heads_Len h_v = some z0) : Meets Try.prog ⟨28, [sS 2 THead.en h_v], []⟩ ⟨iv z0, []⟩ := by
 refine kMt hmix merge_heads_Len.O Try.f28 bd28 1 ?_
 unfold merge_heads_Len at h
 refine kRs 1 [] [] .n ?_
 refine kRs 0 [Tm 2 (iv (h_v.length : Int))] [.s (.t 4) [iv (h_v.length : Int)]] (.c (c_len (e := THead.en) (l := h_v)) .n) ?_
 refine kRt ?_
 have h_ := some_inj h
 subst h_
 exact kFr
def bd61 : Code := (Try.f61.body).getD .skip
def cmp_isNaN_int.O : Nat → Nat := fun t => bif ([2] : List Nat).any (Nat.beq t) then 1 else 0
def cmp_isNaN_int (x_v : Int) : Option Bool :=
 some (x_v != x_v)
theorem cmp_isNaN_int.meets (x_v : Int) (z0 : Bool) (h : cmp_isNaN_int x_v = some z0) : Meets Try.prog ⟨61, [iv x_v], []⟩ ⟨bv z0, []⟩ := by
 refine kMt hmix cmp_isNaN_int.O Try.f61 bd61 1 ?_
 unfold cmp_isNaN_int at h
 refine kRs 1 [] [] .n ?_
 refine kRs 0 [Tm 2 (bv (x_v != x_v))] [] .n ?_
 refine kRt ?_
 have h_ := some_inj h
 subst h_
 exact kFr
def bd60 : Code := (Try.f60.body).getD .skip
def cmp_Compare_int.O : Nat → Nat := fun t => bif ([4, 5, 6] : List Nat).any (Nat.beq t) then 1 else 0
def cmp_Compare_int (x_v : Int) (y_v : Int) : Option Int :=
 bd (cmp_isNaN_int x_v) fun r2_1 =>
 bd (cmp_isNaN_int y_v) fun r3_1 =>
 br r2_1
  (br r3_1
   (some 0)
   (some (-1)))
  (br r3_1
   (some 1)
   (br (decide (x_v < y_v))
    (some (-1))
    (br (decide (x_v > y_v))
     (some 1)
     (some 0))))
theorem cmp_Compare_int.meets (x_v : Int) (y_v : Int) (z0 : Int) (h : cmp_Compare_int x_v y_v = some z0) : Meets Try.prog ⟨60, [iv x_v, iv y_v], []⟩ ⟨iv z0, []⟩ := by
 refine kMt hmix cmp_Compare_int.O Try.f60 bd60 3 ?_
 unfold cmp_Compare_int at h
 refine kRs 3 [] [] .n ?_
 obtain ⟨r2_1, h2_2, h⟩ := bd_inv h
 refine kRs 3 [Tm 5 (bv r2_1)] [.a ⟨bv r2_1, []⟩] (.c (Asks.of (C := Meets Try.prog) (cmp_isNaN_int.meets x_v _ h2_2)) .n) ?_
 obtain ⟨r3_1, h3_2, h⟩ := bd_inv h
 refine kRs 7 [Tm 6 (bv r3_1)] [.a ⟨bv r3_1, []⟩] (.c (Asks.of (C := Meets Try.prog) (cmp_isNaN_int.meets y_v _ h3_2)) .n) ?_
 refine kSq ?_
 refine kRs 13 [Tm 11 (bv r2_1)] [] .n ?_
 rcases br_inv h with ⟨b5_0, h⟩ | ⟨b5_0, h⟩
 ·refine kCt b5_0 ?_
  refine kSq ?_
  refine kRs 0 [Tm 12 (bv r3_1)] [] .n ?_
  rcases br_inv h with ⟨b7_0, h⟩ | ⟨b7_0, h⟩
  ·refine kCt b7_0 ?_
   refine kRs 0 [Tm 4 (iv 0)] [] .n ?_
   refine kRt ?_
   have h_ := some_inj h
   subst h_
   exact kFr
  ·refine kCe b7_0 ?_
   refine kSk ?_
   refine kCd (cR (cT (cR (cL (cR (cR (cR bd60))))))) [.seq (cR (cR (cR (cR bd60))))] ?_
   refine kRs 0 [Tm 4 (iv (-1))] [] .n ?_
   refine kRt ?_
   have h_ := some_inj h
   subst h_
   exact kFr
 ·refine kCe b5_0 ?_
  refine kSk ?_
  refine kCd (cR (cR (cR (cR bd60)))) [] ?_
  refine kSq ?_
  refine kRs 12 [Tm 13 (bv r3_1)] [] .n ?_
  rcases br_inv h with ⟨b11_0, h⟩ | ⟨b11_0, h⟩
  ·refine kCt b11_0 ?_
   refine kRs 0 [Tm 4 (iv 1)] [] .n ?_
   refine kRt ?_
   have h_ := some_inj h
   subst h_
   exact kFr
  ·refine kCe b11_0 ?_
   refine kSk ?_
   refine kCd (cR (cR (cR (cR (cR bd60))))) [] ?_
   refine kSq ?_
   refine kRs 6 [Tm 16 (bv (decide (x_v < y_v)))] [] .n ?_
   rcases br_inv h with ⟨b14_0, h⟩ | ⟨b14_0, h⟩
   ·refine kCt b14_0 ?_
    refine kRs 0 [Tm 4 (iv (-1))] [] .n ?_
    refine kRt ?_
    have h_ := some_inj h
    subst h_
    exact kFr
   ·refine kCe b14_0 ?_
    refine kSk ?_
    refine kCd (cR (cR (cR (cR (cR (cR bd60)))))) [] ?_
    refine kSq ?_
    refine kRs 0 [Tm 19 (bv (decide (x_v > y_v)))] [] .n ?_
    rcases br_inv h with ⟨b17_0, h⟩ | ⟨b17_0, h⟩
    ·refine kCt b17_0 ?_
     refine kRs 0 [Tm 4 (iv 1)] [] .n ?_
     refine kRt ?_
     have h_ := some_inj h
     subst h_
     exact kFr
    ·refine kCe b17_0 ?_
     refine kSk ?_
     refine kCd (cR (cR (cR (cR (cR (cR (cR bd60))))))) [] ?_
     refine kRs 0 [Tm 4 (iv 0)] [] .n ?_
     refine kRt ?_
     have h_ := some_inj h
     subst h_
     exact kFr
def bd59 : Code := (Try.f59.body).getD .skip
def cmp_Or_int.O : Nat → Nat := fun t => bif ([2, 3, 5] : List Nat).any (Nat.beq t) then 1 else 0
def cmp_Or_int.lp4 (fu : Nat) (l4_0 : Int) (l4_1 : List Int) (l4_2 : Int) : Nat → Int → Option (Unit ⊕ Int)
  | 0, _ => none
  | n_ + 1, l4_3 =>
  br (decide (l4_3 < l4_2))
   (ix l4_1 l4_3 fun x7_1 =>
   br (x7_1 != l4_0)
    (some (.inr x7_1))
    (cmp_Or_int.lp4 fu l4_0 l4_1 l4_2 n_ (w64 (l4_3 + 1))))
   (some (.inl ()))
def cmp_Or_int.lp4_post (l4_0 : Int) (l4_1 : List Int) (l4_2 : Int) (r_ : (Unit ⊕ Int)) : Wy → St → Prop := fun e τ => match r_ with
  | .inl _ => e = .exit 0 ∧ τ = ofL [Tm 3 (iv l4_0)]
  | .inr y0 => e = .ret ∧ τ = ofL [Tm 2 (iv y0)]
theorem cmp_Or_int.lp4_ok (fu : Nat) (l4_0 : Int) (l4_1 : List Int) (l4_2 : Int) : ∀ (n_ : Nat) (l4_3 : Int) (r_ : (Unit ⊕ Int)), cmp_Or_int.lp4 fu l4_0 l4_1 l4_2 n_ l4_3 = some r_ → WK Try.prog cmp_Or_int.O (Ck Try.prog) (cB (cR (cL (cR (cR bd59))))) [] (ofL [Tm 3 (iv l4_0), Tm 6 (sS 1 e_i64 l4_1), Tm 7 (iv l4_2), Tm 8 (iv l4_3)]) (cmp_Or_int.lp4_post l4_0 l4_1 l4_2 r_) := by
 intro n_
 induction n_ with
 | zero => intro l4_3 r_ h; exact no_none h
 | succ n_ ih =>
  intro l4_3 r_ h
  refine kLp ?_
  refine kRs 15 [Tm 9 (bv (decide (l4_3 < l4_2)))] [] .n ?_
  refine kSq ?_
  rcases br_inv h with ⟨b6_0, h⟩ | ⟨b6_0, h⟩
  ·refine kCt b6_0 ?_
   refine kSk ?_
   refine kCd (cR (cR (cB (cB (cR (cL (cR (cR bd59)))))))) [.lp (cB (cR (cL (cR (cR bd59)))))] ?_
   refine kSq ?_
   refine kBk 1 ?_
   obtain ⟨x7_1, a7_2, e7_3, h⟩ := ix_inv h
   refine kRs 30 [Tm 5 (iv x7_1)] [.c (e_i64 x7_1)] (.c (c_ix (e := e_i64) a7_2 e7_3) (.c (c_el (e := e_i64) e7_3) .n)) ?_
   refine kRs 31 [Tm 14 (bv (x7_1 != l4_0))] [] .n ?_
   rcases br_inv h with ⟨b9_0, h⟩ | ⟨b9_0, h⟩
   ·refine kCt b9_0 ?_
    refine kRs 0 [Tm 2 (iv x7_1)] [] .n ?_
    cases some_inj h
    refine kWo ?_
    refine kRt ?_
    exact kOut
   ·refine kCe b9_0 ?_
    refine kSk ?_
    refine kCd (cR (cR (cR (cB (cB (cR (cL (cR (cR bd59))))))))) [.lp (cB (cR (cL (cR (cR bd59)))))] ?_
    refine kRc 28 [Tm 8 (iv (w64 (l4_3 + 1)))] [] .n (cB (cR (cL (cR (cR bd59))))) [] ?_
    exact kWk (ih (w64 (l4_3 + 1)) _ h)
  ·refine kCe b6_0 ?_
   cases some_inj h
   refine kWo ?_
   refine kXt 0 ?_
   exact kOut
def cmp_Or_int (fu : Nat) (vals : List Int) : Option Int :=
 bd (cmp_Or_int.lp4 fu 0 vals (vals.length : Int) fu 0) fun o_ => (match o_ with
 | .inl _ =>
  some 0
 | .inr y12_0 =>
  some y12_0)
theorem cmp_Or_int.meets (fu : Nat) (vals : List Int) (z0 : Int) (h : cmp_Or_int fu vals = some z0) : Meets Try.prog ⟨59, [sS 1 e_i64 vals], []⟩ ⟨iv z0, []⟩ := by
 refine kMt hmix cmp_Or_int.O Try.f59 bd59 1 ?_
 unfold cmp_Or_int at h
 refine kRs 1 [] [] .n ?_
 refine kRs 1 [Tm 3 (iv 0)] [] .n ?_
 refine kSq ?_
 refine kRs 1 [Tm 6 (sS 1 e_i64 vals), Tm 7 (iv (vals.length : Int)), Tm 8 (iv 0)] [.s (.t 7) [iv (vals.length : Int)]] (.c (c_len (e := e_i64) (l := vals)) .n) ?_
 refine kBk 0 ?_
 obtain ⟨o12, ho12, h⟩ := bd_inv h
 refine kUs (cmp_Or_int.lp4_ok fu 0 vals (vals.length : Int) _ 0 _ ho12) ?_
 intro e_ τ_ hp_
 rcases o12 with o12 | o12
 ·obtain ⟨⟩ := o12
  obtain ⟨rfl, rfl⟩ := hp_
  refine kCd (cR (cR (cR bd59))) [] ?_
  refine kRs 0 [Tm 2 (iv 0)] [] .n ?_
  refine kRt ?_
  have h_ := some_inj h
  subst h_
  exact kFr
 ·obtain ⟨y12_0, rfl⟩ : ∃ y, y = o12 := ⟨_, rfl⟩
  obtain ⟨rfl, rfl⟩ := hp_
  have h_ := some_inj h
  subst h_
  exact kFr
def bd55 : Code := (Try.f55.body).getD .skip
def merge_heads_Less.O : Nat → Nat := fun t => bif ([6, 29] : List Nat).any (Nat.beq t) then 1 else 0
def merge_heads_Less (fu : Nat) (h_v : List THead) (i : Int) (k_v : Int) : Option Bool :=
 ix h_v i fun x2_1 =>
 ix h_v k_v fun x2_4 =>
 bd (cmp_Compare_int x2_1.batch x2_4.batch) fun r2_7 =>
 ix h_v i fun x2_9 =>
 ix h_v k_v fun x2_12 =>
 bd (cmp_Compare_int x2_9.part x2_12.part) fun r2_15 =>
 bd (cmp_Or_int fu ([r2_7, r2_15] : List Int)) fun r2_17 =>
 some (decide (r2_17 < 0))
theorem merge_heads_Less.meets (fu : Nat) (h_v : List THead) (i : Int) (k_v : Int) (z0 : Bool) (h : merge_heads_Less fu h_v i k_v = some z0) : Meets Try.prog ⟨55, [sS 2 THead.en h_v, iv i, iv k_v], []⟩ ⟨bv z0, []⟩ := by
 refine kMt hmix merge_heads_Less.O Try.f55 bd55 7 ?_
 unfold merge_heads_Less at h
 refine kRs 7 [] [] .n ?_
 obtain ⟨x2_1, a2_2, e2_3, h⟩ := ix_inv h
 obtain ⟨x2_4, a2_5, e2_6, h⟩ := ix_inv h
 obtain ⟨r2_7, h2_8, h⟩ := bd_inv h
 obtain ⟨x2_9, a2_10, e2_11, h⟩ := ix_inv h
 obtain ⟨x2_12, a2_13, e2_14, h⟩ := ix_inv h
 obtain ⟨r2_15, h2_16, h⟩ := bd_inv h
 obtain ⟨r2_17, h2_18, h⟩ := bd_inv h
 refine kRs 0 [Tm 6 (bv (decide (r2_17 < 0)))] [.c (THead.en x2_1), .c (THead.en x2_4), .a ⟨iv r2_7, []⟩, .c (THead.en x2_9), .c (THead.en x2_12), .a ⟨iv r2_15, []⟩, .a ⟨iv r2_17, []⟩] (.c (c_ix (e := THead.en) a2_2 e2_3) (.c (c_el (e := THead.en) e2_3) (.c (c_ix (e := THead.en) a2_5 e2_6) (.c (c_el (e := THead.en) e2_6) (.c (Asks.of (C := Meets Try.prog) (cmp_Compare_int.meets x2_1.batch x2_4.batch _ h2_8)) (.c (c_ix (e := THead.en) a2_10 e2_11) (.c (c_el (e := THead.en) e2_11) (.c (c_ix (e := THead.en) a2_13 e2_14) (.c (c_el (e := THead.en) e2_14) (.c (Asks.of (C := Meets Try.prog) (cmp_Compare_int.meets x2_9.part x2_12.part _ h2_16)) (.c (Asks.fg (args1 := []) (args2 := []) (nl := some false) (sz := 1) (es := List.map e_i64 ([r2_7, r2_15] : List Int)) (Asks.of (C := Meets Try.prog) (cmp_Or_int.meets fu ([r2_7, r2_15] : List Int) _ h2_18))) (.c rT .n)))))))))))) ?_
 refine kRt ?_
 have h_ := some_inj h
 subst h_
 exact kFr
def bd58 : Code := (Try.f58.body).getD .skip
def merge_heads_Swap.O : Nat → Nat := fun t => bif ([] : List Nat).any (Nat.beq t) then 1 else 0
def merge_heads_Swap (i : Int) (k_v : Int) (o0_v : List THead) : Option (List THead) :=
 ix o0_v k_v fun x1_1 =>
 ix o0_v i fun x1_4 =>
 ix o0_v i fun x1_7 =>
 ix (o0_v.set i.toNat x1_1) k_v fun x1_10 =>
 some ((o0_v.set i.toNat x1_1).set k_v.toNat x1_4)
theorem merge_heads_Swap.meets (i : Int) (k_v : Int) (o0_v : List THead) (z0 : List THead) (h : merge_heads_Swap i k_v o0_v = some z0) : Meets Try.prog ⟨58, [.ref (.o 1000) 0 0 none, iv i, iv k_v], [[sO 2 THead.en o0_v]]⟩ ⟨.tup [], [[sO 2 THead.en z0]]⟩ := by
 refine kMt hmix merge_heads_Swap.O Try.f58 bd58 15 ?_
 unfold merge_heads_Swap at h
 obtain ⟨x1_1, a1_2, e1_3, h⟩ := ix_inv h
 obtain ⟨x1_4, a1_5, e1_6, h⟩ := ix_inv h
 obtain ⟨x1_7, a1_8, e1_9, h⟩ := ix_inv h
 obtain ⟨x1_10, a1_11, e1_12, h⟩ := ix_inv h
 have h_ := some_inj h
 subst h_
 exact kRf [.c (THead.en x1_1), .c (THead.en x1_4), .c (THead.en x1_7), .s (.o 1000) [sO 2 THead.en (o0_v.set i.toNat x1_1)], .c (THead.en x1_10), .s (.o 1000) [sO 2 THead.en ((o0_v.set i.toNat x1_1).set k_v.toNat x1_4)]] (.c (c_ix (e := THead.en) a1_2 e1_3) (.c (c_el (e := THead.en) e1_3) (.c (c_ix (e := THead.en) a1_5 e1_6) (.c (c_el (e := THead.en) e1_6) (.c (c_ix (e := THead.en) a1_8 e1_9) (.c (c_el (e := THead.en) e1_9) (.c (congrArg (fun d : DV => [AV.data d]) (c_set (e := THead.en) (s := 2) (nl := none) (l := o0_v) (i := i.toNat) (x := x1_1))) (.c (c_ix (e := THead.en) a1_11 e1_12) (.c (c_el (e := THead.en) e1_12) (.c (congrArg (fun d : DV => [AV.data d]) (c_set (e := THead.en) (s := 2) (nl := none) (l := (o0_v.set i.toNat x1_1)) (i := k_v.toNat) (x := x1_4))) (.c rT .n)))))))))))
def bd35 : Code := (Try.f35.body).getD .skip
def heap_up.O : Nat → Nat := fun t => bif ([1, 4] : List Nat).any (Nat.beq t) then 1 else bif ([21] : List Nat).any (Nat.beq t) then 3 else 0
def heap_up.lp1 (fu : Nat) : Nat → Int → (List THead) → Option (List THead)
  | 0, _, _ => none
  | n_ + 1, l1_0, l1_1 =>
  br ((w64 (Int.tdiv (w64 (l1_0 - 1)) 2)) == l1_0)
   (some l1_1)
   (bd (merge_heads_Less fu l1_1 l1_0 (w64 (Int.tdiv (w64 (l1_0 - 1)) 2))) fun r3_2 =>
   br (!r3_2)
    (some l1_1)
    (bd (merge_heads_Swap (w64 (Int.tdiv (w64 (l1_0 - 1)) 2)) l1_0 l1_1) fun r5_1 =>
    heap_up.lp1 fu n_ (w64 (Int.tdiv (w64 (l1_0 - 1)) 2)) r5_1))
def heap_up.lp1_post (r_ : (List THead)) : Wy → St → Prop := fun e τ => match r_ with
  | y0 => e = .exit 0 ∧ τ = ofL [Ob 1000 [sO 2 THead.en y0]]
theorem heap_up.lp1_ok (fu : Nat) : ∀ (n_ : Nat) (l1_0 : Int) (l1_1 : List THead) (r_ : (List THead)), heap_up.lp1 fu n_ l1_0 l1_1 = some r_ → WK Try.prog heap_up.O (Ck Try.prog) (cB bd35) [] (ofL [Tm 0 (.ifc 63 (.ptr 1000 0)), Tm 1 (iv l1_0), Ob 1000 [sO 2 THead.en l1_1]]) (heap_up.lp1_post r_) := by
 intro n_
 induction n_ with
 | zero => intro l1_0 l1_1 r_ h; exact no_none h
 | succ n_ ih =>
  intro l1_0 l1_1 r_ h
  refine kLp ?_
  refine kBk 1 ?_
  refine kRs 7 [Tm 4 (iv (w64 (Int.tdiv (w64 (l1_0 - 1)) 2)))] [] (.c rT .n) ?_
  refine kSq ?_
  rcases br_inv h with ⟨b3_1, h⟩ | ⟨b3_1, h⟩
  ·refine kRs 15 [Tm 17 (bv true)] (rp 6 (.b true) []) (.r 6 b3_1 .n) ?_
   refine kCt rT ?_
   cases some_inj h
   refine kWo ?_
   refine kXt 0 ?_
   exact kOut
  ·obtain ⟨r3_2, h3_3, h⟩ := bd_inv h
   refine kRs 15 [Tm 17 (bv (!r3_2))] (rp 4 (.b false) [.a ⟨bv r3_2, []⟩, .b false, .b false]) (.r 4 b3_1 (.c (Asks.of (C := Meets Try.prog) (merge_heads_Less.meets fu l1_1 l1_0 (w64 (Int.tdiv (w64 (l1_0 - 1)) 2)) _ h3_3)) (.r 2 b3_1 .n))) ?_
   rcases br_inv h with ⟨b4_0, h⟩ | ⟨b4_0, h⟩
   ·refine kCt b4_0 ?_
    cases some_inj h
    refine kWo ?_
    refine kXt 0 ?_
    exact kOut
   ·refine kCe b4_0 ?_
    refine kSk ?_
    refine kCd (cR (cR (cB (cB (cB bd35))))) [.blk 1, .lp (cB bd35)] ?_
    obtain ⟨r5_1, h5_2, h⟩ := bd_inv h
    refine kRs 6 [Ob 1000 [sO 2 THead.en r5_1]] [.a ⟨.tup [], [[sO 2 THead.en r5_1]]⟩] (.c (Asks.of (C := Meets Try.prog) (merge_heads_Swap.meets (w64 (Int.tdiv (w64 (l1_0 - 1)) 2)) l1_0 l1_1 _ h5_2)) .n) ?_
    refine kRc 5 [Tm 1 (iv (w64 (Int.tdiv (w64 (l1_0 - 1)) 2)))] [] .n (cB bd35) [] ?_
    exact kWk (ih (w64 (Int.tdiv (w64 (l1_0 - 1)) 2)) r5_1 _ h)
def heap_up (fu : Nat) (j : Int) (o0_v : List THead) : Option (List THead) :=
 bd (heap_up.lp1 fu fu j o0_v) fun y7_0 =>
 some y7_0
theorem heap_up.meets (fu : Nat) (j : Int) (o0_v : List THead) (z0 : List THead) (h : heap_up fu j o0_v = some z0) : Meets Try.prog ⟨35, [.ifc 63 (.ptr 1000 0), iv j], [[sO 2 THead.en o0_v]]⟩ ⟨.tup [], [[sO 2 THead.en z0]]⟩ := by
 refine kMt hmix heap_up.O Try.f35 bd35 7 ?_
 unfold heap_up at h
 refine kBk 0 ?_
 obtain ⟨o7, ho7, h⟩ := bd_inv h
 refine kUs (heap_up.lp1_ok fu _ j o0_v _ ho7) ?_
 intro e_ τ_ hp_
 obtain ⟨y7_0, rfl⟩ : ∃ y, y = o7 := ⟨_, rfl⟩
 obtain ⟨rfl, rfl⟩ := hp_
 have h_ := some_inj h
 subst h_
 exact kFn
def bd27 : Code := (Try.f27.body).getD .skip
def heap_Push.O : Nat → Nat := fun t => bif ([] : List Nat).any (Nat.beq t) then 1 else 0
def heap_Push (fu : Nat) (x_v : THead) (o0_v : List THead) : Option (List THead) :=
 bd (merge_heads_Push x_v o0_v) fun r1_1 =>
 bd (merge_heads_Len r1_1) fun r2_1 =>
 bd (heap_up fu (w64 (r2_1 - 1)) r1_1) fun r2_3 =>
 some r2_3
theorem heap_Push.meets (fu : Nat) (x_v : THead) (o0_v : List THead) (z0 : List THead) (h : heap_Push fu x_v o0_v = some z0) : Meets Try.prog ⟨27, [.ifc 63 (.ptr 1000 0), .ifc 68 (.data (.agg [.val (.int .i64 x_v.batch), .val (.int .i64 x_v.part)]))], [[sO 2 THead.en o0_v]]⟩ ⟨.tup [], [[sO 2 THead.en z0]]⟩ := by
 refine kMt hmix heap_Push.O Try.f27 bd27 7 ?_
 unfold heap_Push at h
 obtain ⟨r1_1, h1_2, h⟩ := bd_inv h
 refine kRs 1 [Ob 1000 [sO 2 THead.en r1_1]] [.a ⟨.tup [], [[sO 2 THead.en r1_1]]⟩] (.c (Asks.of (C := Meets Try.prog) (merge_heads_Push.meets x_v o0_v _ h1_2)) .n) ?_
 obtain ⟨r2_1, h2_2, h⟩ := bd_inv h
 obtain ⟨r2_3, h2_4, h⟩ := bd_inv h
 have h_ := some_inj h
 subst h_
 exact kRf [.a ⟨iv r2_1, []⟩, .a ⟨.tup [], [[sO 2 THead.en r2_3]]⟩] (.c (Asks.of (C := Meets Try.prog) (merge_heads_Len.meets r1_1 _ h2_2)) (.c (Asks.of (C := Meets Try.prog) (heap_up.meets fu (w64 (r2_1 - 1)) r1_1 _ h2_4)) .n))
def bd36 : Code := (Try.f36.body).getD .skip
def heap_down.O : Nat → Nat := fun t => bif ([6, 7, 8, 9, 10] : List Nat).any (Nat.beq t) then 1 else bif ([43] : List Nat).any (Nat.beq t) then 3 else 0
def heap_down.lp3 (fu : Nat) (l3_0 : Int) (l3_1 : Int) : Nat → Int → (List THead) → Option (Int × List THead)
  | 0, _, _ => none
  | n_ + 1, l3_2, l3_3 =>
  br (decide ((w64 ((w64 (2 * l3_2)) + 1)) ≥ l3_1))
   (some (l3_2, l3_3))
   (br (decide ((w64 ((w64 (2 * l3_2)) + 1)) < 0))
    (some (l3_2, l3_3))
    (jn (fun (j12_3 : Int) =>
     bd (merge_heads_Less fu l3_3 j12_3 l3_2) fun r13_1 =>
     br (!r13_1)
      (some (l3_2, l3_3))
      (bd (merge_heads_Swap l3_2 j12_3 l3_3) fun r15_1 =>
      heap_down.lp3 fu l3_0 l3_1 n_ j12_3 r15_1)) fun k12 =>
    br (decide ((w64 ((w64 ((w64 (2 * l3_2)) + 1)) + 1)) < l3_1))
     (bd (merge_heads_Less fu l3_3 (w64 ((w64 ((w64 (2 * l3_2)) + 1)) + 1)) (w64 ((w64 (2 * l3_2)) + 1))) fun r9_2 =>
     br r9_2
      (k12 (w64 ((w64 ((w64 (2 * l3_2)) + 1)) + 1)))
      (k12 (w64 ((w64 (2 * l3_2)) + 1))))
     (k12 (w64 ((w64 (2 * l3_2)) + 1)))))
def heap_down.lp3_post (l3_0 : Int) (l3_1 : Int) (r_ : (Int × List THead)) : Wy → St → Prop := fun e τ => match r_ with
  | (y0, y1) => e = .exit 0 ∧ τ = ofL [Tm 1 (iv l3_0), Tm 7 (iv y0), Ob 1000 [sO 2 THead.en y1]]
theorem heap_down.lp3_ok (fu : Nat) (l3_0 : Int) (l3_1 : Int) : ∀ (n_ : Nat) (l3_2 : Int) (l3_3 : List THead) (r_ : (Int × List THead)), heap_down.lp3 fu l3_0 l3_1 n_ l3_2 l3_3 = some r_ → WK Try.prog heap_down.O (Ck Try.prog) (cB (cL (cR (cR bd36)))) [] (ofL [Tm 0 (.ifc 63 (.ptr 1000 0)), Tm 1 (iv l3_0), Tm 2 (iv l3_1), Tm 7 (iv l3_2), Ob 1000 [sO 2 THead.en l3_3]]) (heap_down.lp3_post l3_0 l3_1 r_) := by
 intro n_
 induction n_ with
 | zero => intro l3_2 l3_3 r_ h; exact no_none h
 | succ n_ ih =>
  intro l3_2 l3_3 r_ h
  refine kLp ?_
  refine kBk 1 ?_
  refine kRs 31 [Tm 8 (iv (w64 ((w64 (2 * l3_2)) + 1)))] [] .n ?_
  refine kSq ?_
  rcases br_inv h with ⟨b5_1, h⟩ | ⟨b5_1, h⟩
  ·refine kRs 63 [Tm 21 (bv true)] [.b true, .b true, .b true] (.r 3 b5_1 .n) ?_
   refine kCt rT ?_
   cases some_inj h
   refine kWo ?_
   refine kXt 0 ?_
   exact kOut
  ·refine kRs 63 [Tm 21 (bv (decide ((w64 ((w64 (2 * l3_2)) + 1)) < 0)))] [.b false, .b false, .b false] (.r 3 b5_1 .n) ?_
   rcases br_inv h with ⟨b6_0, h⟩ | ⟨b6_0, h⟩
   ·refine kCt b6_0 ?_
    cases some_inj h
    refine kWo ?_
    refine kXt 0 ?_
    exact kOut
   ·refine kCe b6_0 ?_
    refine kSk ?_
    refine kCd (cR (cR (cB (cB (cB (cL (cR (cR bd36)))))))) [.blk 1, .lp (cB (cL (cR (cR bd36))))] ?_
    refine kRs 126 [Tm 9 (iv (w64 ((w64 (2 * l3_2)) + 1)))] [] .n ?_
    obtain ⟨k12, hk12, h⟩ := jn_inv h
    have Jk12 : ∀ (j12_3 : Int), k12 j12_3 = some r_ → WK Try.prog heap_down.O (Ck Try.prog) (cR (cR (cR (cR (cB (cB (cB (cL (cR (cR bd36)))))))))) [.blk 1, .lp (cB (cL (cR (cR bd36))))] (ofL [Tm 0 (.ifc 63 (.ptr 1000 0)), Tm 1 (iv l3_0), Tm 2 (iv l3_1), Tm 7 (iv l3_2), Tm 9 (iv j12_3), Ob 1000 [sO 2 THead.en l3_3]]) (heap_down.lp3_post l3_0 l3_1 r_) := by
     intro j12_3 h
     rw [hk12] at h
     refine kSq ?_
     obtain ⟨r13_1, h13_2, h⟩ := bd_inv h
     refine kRs 63 [Tm 39 (bv (!r13_1))] [.a ⟨bv r13_1, []⟩] (.c (Asks.of (C := Meets Try.prog) (merge_heads_Less.meets fu l3_3 j12_3 l3_2 _ h13_2)) .n) ?_
     rcases br_inv h with ⟨b14_0, h⟩ | ⟨b14_0, h⟩
     ·refine kCt b14_0 ?_
      cases some_inj h
      refine kWo ?_
      refine kXt 0 ?_
      exact kOut
     ·refine kCe b14_0 ?_
      refine kSk ?_
      refine kCd (cR (cR (cR (cR (cR (cB (cB (cB (cL (cR (cR bd36))))))))))) [.blk 1, .lp (cB (cL (cR (cR bd36))))] ?_
      obtain ⟨r15_1, h15_2, h⟩ := bd_inv h
      refine kRs 46 [Ob 1000 [sO 2 THead.en r15_1]] [.a ⟨.tup [], [[sO 2 THead.en r15_1]]⟩] (.c (Asks.of (C := Meets Try.prog) (merge_heads_Swap.meets l3_2 j12_3 l3_3 _ h15_2)) .n) ?_
      refine kRc 15 [Tm 7 (iv j12_3)] [] .n (cB (cL (cR (cR bd36)))) [] ?_
      exact kWk (ih j12_3 r15_1 _ h)
    clear hk12
    refine kSq ?_
    refine kRs 127 [Tm 10 (iv (w64 ((w64 ((w64 (2 * l3_2)) + 1)) + 1)))] [] .n ?_
    rcases br_inv h with ⟨b9_1, h⟩ | ⟨b9_1, h⟩
    ·obtain ⟨r9_2, h9_3, h⟩ := bd_inv h
     refine kRs 251 [Tm 33 (bv r9_2)] (rp 4 (.b true) [.a ⟨bv r9_2, []⟩, .b true]) (.r 4 b9_1 (.c (Asks.of (C := Meets Try.prog) (merge_heads_Less.meets fu l3_3 (w64 ((w64 ((w64 (2 * l3_2)) + 1)) + 1)) (w64 ((w64 (2 * l3_2)) + 1)) _ h9_3)) (.c b9_1 .n))) ?_
     rcases br_inv h with ⟨b10_0, h⟩ | ⟨b10_0, h⟩
     ·refine kCt b10_0 ?_
      refine kRc 248 [Tm 9 (iv (w64 ((w64 ((w64 (2 * l3_2)) + 1)) + 1)))] [] .n (cR (cR (cR (cR (cB (cB (cB (cL (cR (cR bd36)))))))))) [.blk 1, .lp (cB (cL (cR (cR bd36))))] ?_
      exact kWk (Jk12 (w64 ((w64 ((w64 (2 * l3_2)) + 1)) + 1)) h)
     ·refine kCe b10_0 ?_
      refine kSk ?_
      refine kCd (cR (cR (cR (cR (cB (cB (cB (cL (cR (cR bd36)))))))))) [.blk 1, .lp (cB (cL (cR (cR bd36))))] ?_
      exact kWk (Jk12 (w64 ((w64 (2 * l3_2)) + 1)) h)
    ·refine kRs 251 [Tm 33 (bv false)] (rp 5 (.b false) []) (.r 5 b9_1 .n) ?_
     refine kCe rF ?_
     refine kSk ?_
     refine kCd (cR (cR (cR (cR (cB (cB (cB (cL (cR (cR bd36)))))))))) [.blk 1, .lp (cB (cL (cR (cR bd36))))] ?_
     exact kWk (Jk12 (w64 ((w64 (2 * l3_2)) + 1)) h)
def heap_down (fu : Nat) (i0 : Int) (n_v : Int) (o0_v : List THead) : Option (Bool × List THead) :=
 bd (heap_down.lp3 fu i0 n_v fu i0 o0_v) fun (y17_0, y17_1) =>
 some ((decide (y17_0 > i0)), y17_1)
theorem heap_down.meets (fu : Nat) (i0 : Int) (n_v : Int) (o0_v : List THead) (z0 : Bool) (z1 : List THead) (h : heap_down fu i0 n_v o0_v = some (z0, z1)) : Meets Try.prog ⟨36, [.ifc 63 (.ptr 1000 0), iv i0, iv n_v], [[sO 2 THead.en o0_v]]⟩ ⟨bv z0, [[sO 2 THead.en z1]]⟩ := by
 refine kMt hmix heap_down.O Try.f36 bd36 15 ?_
 unfold heap_down at h
 refine kRs 15 [] [] .n ?_
 refine kRs 15 [Tm 7 (iv i0)] [] .n ?_
 refine kSq ?_
 refine kBk 0 ?_
 obtain ⟨o17, ho17, h⟩ := bd_inv h
 refine kUs (heap_down.lp3_ok fu i0 n_v _ i0 o0_v _ ho17) ?_
 intro e_ τ_ hp_
 obtain ⟨y17_0, y17_1⟩ := o17
 obtain ⟨rfl, rfl⟩ := hp_
 refine kCd (cR (cR (cR bd36))) [] ?_
 refine kRs 4 [Tm 6 (bv (decide (y17_0 > i0)))] [] .n ?_
 refine kRt ?_
 have h_0 := some_inj h
 obtain ⟨g_1, h_1⟩ := Prod.mk.inj h_0
 subst g_1
 subst h_1
 exact kFr
def bd56 : Code := (Try.f56.body).getD .skip
def merge_heads_Pop.O : Nat → Nat := fun t => bif ([2, 3, 4, 19] : List Nat).any (Nat.beq t) then 1 else 0
def merge_heads_Pop (o0_v : List THead) : Option (THead × List THead) :=
 ix o0_v (w64 ((o0_v.length : Int) - 1)) fun x3_1 =>
 gd (decide ((0 : Int) ≤ (w64 ((o0_v.length : Int) - 1)) ∧ (w64 ((o0_v.length : Int) - 1)) ≤ (o0_v.length : Int))) <|
 some (x3_1, (List.take (w64 ((o0_v.length : Int) - 1)).toNat o0_v))
theorem merge_heads_Pop.meets (o0_v : List THead) (z0 : THead) (z1 : List THead) (h : merge_heads_Pop o0_v = some (z0, z1)) : Meets Try.prog ⟨56, [.ptr 1000 0], [[sO 2 THead.en o0_v]]⟩ ⟨.ifc 68 (.data (.agg [.val (.int .i64 z0.batch), .val (.int .i64 z0.part)])), [[sO 2 THead.en z1]]⟩ := by
 refine kMt hmix merge_heads_Pop.O Try.f56 bd56 3 ?_
 unfold merge_heads_Pop at h
 refine kRs 3 [] [] .n ?_
 refine kRs 1 [Tm 3 (sO 2 THead.en o0_v), Ob 1000 [.dead]] [] .n ?_
 obtain ⟨x3_1, a3_2, e3_3, h⟩ := ix_inv h
 refine kRs 7 [Tm 4 (.ptr 4 0), Ob 4 [iv x3_1.batch, iv x3_1.part]] [.s (.t 10) [iv (o0_v.length : Int)], .c (THead.en x3_1)] (.c (c_len (e := THead.en) (l := o0_v)) (.c (c_ix (e := THead.en) a3_2 e3_3) (.c (c_el (e := THead.en) e3_3) .n))) ?_
 obtain ⟨c4_1, h⟩ := gd_inv h
 refine kRs 3 [Ob 1000 [sO 2 THead.en (List.take (w64 ((o0_v.length : Int) - 1)).toNat o0_v)]] [.s (.t 17) [iv (o0_v.length : Int)], .s (.t 19) [sO 2 THead.en (List.take (w64 ((o0_v.length : Int) - 1)).toNat o0_v)]] (.c (c_len (e := THead.en) (l := o0_v)) (.c (c_cbH (e := THead.en) c4_1) (.c (congrArg (fun d : DV => [AV.data d]) (c_cutH (own := true) (nl := none) (s := 2) (e := THead.en) (l := o0_v) (h := (w64 ((o0_v.length : Int) - 1)).toNat))) .n))) ?_
 refine kRs 1 [Tm 2 (.ifc 68 (.data (.agg [.val (.int .i64 x3_1.batch), .val (.int .i64 x3_1.part)])))] [] .n ?_
 refine kRt ?_
 have h_0 := some_inj h
 obtain ⟨g_1, h_1⟩ := Prod.mk.inj h_0
 subst g_1
 subst h_1
 exact kFr
def bd29 : Code := (Try.f29.body).getD .skip
def heap_Pop.O : Nat → Nat := fun t => bif ([2, 3] : List Nat).any (Nat.beq t) then 1 else bif ([9] : List Nat).any (Nat.beq t) then 3 else 0
def heap_Pop (fu : Nat) (o0_v : List THead) : Option (THead × List THead) :=
 bd (merge_heads_Len o0_v) fun r2_1 =>
 bd (merge_heads_Swap 0 (w64 (r2_1 - 1)) o0_v) fun r3_1 =>
 bd (heap_down fu 0 (w64 (r2_1 - 1)) r3_1) fun (r4_1, r4_2) =>
 bd (merge_heads_Pop r4_2) fun (r5_1, r5_2) =>
 some (r5_1, r5_2)
theorem heap_Pop.meets (fu : Nat) (o0_v : List THead) (z0 : THead) (z1 : List THead) (h : heap_Pop fu o0_v = some (z0, z1)) : Meets Try.prog ⟨29, [.ifc 63 (.ptr 1000 0)], [[sO 2 THead.en o0_v]]⟩ ⟨.ifc 68 (.data (.agg [.val (.int .i64 z0.batch), .val (.int .i64 z0.part)])), [[sO 2 THead.en z1]]⟩ := by
 refine kMt hmix heap_Pop.O Try.f29 bd29 3 ?_
 unfold heap_Pop at h
 refine kRs 3 [] [] .n ?_
 obtain ⟨r2_1, h2_2, h⟩ := bd_inv h
 refine kRs 3 [Tm 3 (iv (w64 (r2_1 - 1)))] [.a ⟨iv r2_1, []⟩] (.c (Asks.of (C := Meets Try.prog) (merge_heads_Len.meets o0_v _ h2_2)) .n) ?_
 obtain ⟨r3_1, h3_2, h⟩ := bd_inv h
 refine kRs 3 [Ob 1000 [sO 2 THead.en r3_1]] [.a ⟨.tup [], [[sO 2 THead.en r3_1]]⟩] (.c (Asks.of (C := Meets Try.prog) (merge_heads_Swap.meets 0 (w64 (r2_1 - 1)) o0_v _ h3_2)) .n) ?_
 obtain ⟨⟨r4_1, r4_2⟩, h4_3, h⟩ := bd_inv h
 refine kRs 4 [Ob 1000 [sO 2 THead.en r4_2]] [.a ⟨bv r4_1, [[sO 2 THead.en r4_2]]⟩] (.c (Asks.of (C := Meets Try.prog) (heap_down.meets fu 0 (w64 (r2_1 - 1)) r3_1 _ _ h4_3)) .n) ?_
 obtain ⟨⟨r5_1, r5_2⟩, h5_3, h⟩ := bd_inv h
 refine kRs 0 [Tm 2 (.ifc 68 (.data (.agg [.val (.int .i64 r5_1.batch), .val (.int .i64 r5_1.part)]))), Ob 1000 [sO 2 THead.en r5_2]] [.a ⟨.ifc 68 (.data (.agg [.val (.int .i64 r5_1.batch), .val (.int .i64 r5_1.part)])), [[sO 2 THead.en r5_2]]⟩] (.c (Asks.of (C := Meets Try.prog) (merge_heads_Pop.meets r4_2 _ _ h5_3)) .n) ?_
 refine kRt ?_
 have h_0 := some_inj h
 obtain ⟨g_1, h_1⟩ := Prod.mk.inj h_0
 subst g_1
 subst h_1
 exact kFr
def bd30 : Code := (Try.f30.body).getD .skip
def slices_Clone_api_Read.O : Nat → Nat := fun t => bif ([2, 5] : List Nat).any (Nat.beq t) then 1 else 0
def slices_Clone_api_Read (s : List TRead) : Option (List TRead) :=
 gd (decide (([] : List TRead).length + s.length ≤ 4294967296)) <|
 some s
theorem slices_Clone_api_Read.meets1 (s : List TRead) (z0 : List TRead) (h : slices_Clone_api_Read s = some z0) : Meets Try.prog ⟨30, [.data (.slc false (some false) 4 (List.map TRead.en s))], []⟩ ⟨sO 4 TRead.en z0, []⟩ := by
 refine kMt hmix slices_Clone_api_Read.O Try.f30 bd30 1 ?_
 unfold slices_Clone_api_Read at h
 refine kRs 1 [] [] .n ?_
 refine kSq ?_
 refine kRs 1 [Tm 4 (bv false)] [] .n ?_
 refine kCe rF ?_
 refine kSk ?_
 refine kCd (cR (cR bd30)) [] ?_
 obtain ⟨c5_1, h⟩ := gd_inv h
 refine kRs 0 [Tm 2 (sO 4 TRead.en s)] [] (.c (c_al (e := TRead.en) (f := TRead.en) c5_1) .n) ?_
 refine kRt ?_
 have h_ := some_inj h
 subst h_
 exact kFr
def slices_Clone_api_Read_nil : Option (List TRead) :=
 some []
theorem slices_Clone_api_Read.meets0 (z0 : List TRead) (h : slices_Clone_api_Read_nil = some z0) : Meets Try.prog ⟨30, [.data (.slc false (some true) 4 (List.map TRead.en []))], []⟩ ⟨sO 4 TRead.en z0, []⟩ := by
 refine kMt hmix slices_Clone_api_Read.O Try.f30 bd30 1 ?_
 unfold slices_Clone_api_Read_nil at h
 refine kRs 1 [] [] .n ?_
 refine kSq ?_
 refine kRs 1 [Tm 4 (bv true)] [] .n ?_
 refine kCt rT ?_
 refine kRs 0 [Tm 2 (.data (.slc true (some true) 4 (List.map TRead.en [])))] [] .n ?_
 refine kWd 0 [Tm 2 (.data (.slc true none 4 (List.map TRead.en [])))] ?_
 refine kRt ?_
 have h_ := some_inj h
 subst h_
 exact kFr
theorem slices_Clone_api_Read.nil_eq : slices_Clone_api_Read [] = slices_Clone_api_Read_nil := by kernel_rfl
theorem slices_Clone_api_Read.meets (s : List TRead) (z0 : List TRead) (h : slices_Clone_api_Read s = some z0) : Meets Try.prog ⟨30, [sS 4 TRead.en s], []⟩ ⟨sO 4 TRead.en z0, []⟩ := by
  refine asks_ok (C := Meets Try.prog) (fun _ _ h => h) (Asks.nil (args1 := []) (args2 := []) (sz := 4) (es := List.map TRead.en s) (fun e => .of ?_) (.of (slices_Clone_api_Read.meets1 s z0 h)))
  obtain rfl : s = [] := List.map_eq_nil_iff.1 e
  exact slices_Clone_api_Read.meets0 z0 (slices_Clone_api_Read.nil_eq  ▸ h)
def bd31 : Code := (Try.f31.body).getD .skip
def slices_Clone_api_Write.O : Nat → Nat := fun t => bif ([2, 5] : List Nat).any (Nat.beq t) then 1 else 0
def slices_Clone_api_Write (s : List TWrite) : Option (List TWrite) :=
 gd (decide (([] : List TWrite).length + s.length ≤ 4294967296)) <|
 some s
theorem slices_Clone_api_Write.meets1 (s : List TWrite) (z0 : List TWrite) (h : slices_Clone_api_Write s = some z0) : Meets Try.prog ⟨31, [.data (.slc false (some false) 3 (List.map TWrite.en s))], []⟩ ⟨sO 3 TWrite.en z0, []⟩ := by
 refine kMt hmix slices_Clone_api_Write.O Try.f31 bd31 1 ?_
 unfold slices_Clone_api_Write at h
 refine kRs 1 [] [] .n ?_
 refine kSq ?_
 refine kRs 1 [Tm 4 (bv false)] [] .n ?_
 refine kCe rF ?_
 refine kSk ?_
 refine kCd (cR (cR bd31)) [] ?_
 obtain ⟨c5_1, h⟩ := gd_inv h
 refine kRs 0 [Tm 2 (sO 3 TWrite.en s)] [] (.c (c_al (e := TWrite.en) (f := TWrite.en) c5_1) .n) ?_
 refine kRt ?_
 have h_ := some_inj h
 subst h_
 exact kFr
def slices_Clone_api_Write_nil : Option (List TWrite) :=
 some []
theorem slices_Clone_api_Write.meets0 (z0 : List TWrite) (h : slices_Clone_api_Write_nil = some z0) : Meets Try.prog ⟨31, [.data (.slc false (some true) 3 (List.map TWrite.en []))], []⟩ ⟨sO 3 TWrite.en z0, []⟩ := by
 refine kMt hmix slices_Clone_api_Write.O Try.f31 bd31 1 ?_
 unfold slices_Clone_api_Write_nil at h
 refine kRs 1 [] [] .n ?_
 refine kSq ?_
 refine kRs 1 [Tm 4 (bv true)] [] .n ?_
 refine kCt rT ?_
 refine kRs 0 [Tm 2 (.data (.slc true (some true) 3 (List.map TWrite.en [])))] [] .n ?_
 refine kWd 0 [Tm 2 (.data (.slc true none 3 (List.map TWrite.en [])))] ?_
 refine kRt ?_
 have h_ := some_inj h
 subst h_
 exact kFr
theorem slices_Clone_api_Write.nil_eq : slices_Clone_api_Write [] = slices_Clone_api_Write_nil := by kernel_rfl
theorem slices_Clone_api_Write.meets (s : List TWrite) (z0 : List TWrite) (h : slices_Clone_api_Write s = some z0) : Meets Try.prog ⟨31, [sS 3 TWrite.en s], []⟩ ⟨sO 3 TWrite.en z0, []⟩ := by
  refine asks_ok (C := Meets Try.prog) (fun _ _ h => h) (Asks.nil (args1 := []) (args2 := []) (sz := 3) (es := List.map TWrite.en s) (fun e => .of ?_) (.of (slices_Clone_api_Write.meets1 s z0 h)))
  obtain rfl : s = [] := List.map_eq_nil_iff.1 e
  exact slices_Clone_api_Write.meets0 z0 (slices_Clone_api_Write.nil_eq  ▸ h)
def bd20 : Code := (Try.f20.body).getD .skip
def merge_twin.O : Nat → Nat := fun t => bif ([1, 2, 5, 8, 11] : List Nat).any (Nat.beq t) then 1 else 0
def merge_twin (t : TTxn) : Option TTxn :=
 bd (slices_Clone_api_Read t.Reads) fun r2_1 =>
 bd (slices_Clone_api_Write t.Writes) fun r2_3 =>
 some (TTxn.mk t.Session t.Seq r2_1 r2_3)
theorem merge_twin.meets (t : TTxn) (z0 : TTxn) (h : merge_twin t = some z0) : Meets Try.prog ⟨20, [.data (TTxn.ag t)], []⟩ ⟨.data (TTxn.ag_0011 z0), []⟩ := by
 refine kMt hmix merge_twin.O Try.f20 bd20 1 ?_
 unfold merge_twin at h
 refine kRs 0 [Tm 1 (.ptr 1 0), Tm 2 (.ptr 2 0), Ob 1 (TTxn.ob t), Ob 2 (TTxn.ob_0011 (TTxn.mk 0 0 [] []))] [] .n ?_
 obtain ⟨r2_1, h2_2, h⟩ := bd_inv h
 obtain ⟨r2_3, h2_4, h⟩ := bd_inv h
 refine kRs 11 [Ob 1 (TTxn.ob_0011 (TTxn.mk t.Session t.Seq r2_1 r2_3))] [.a ⟨sO 4 TRead.en r2_1, []⟩, .a ⟨sO 3 TWrite.en r2_3, []⟩] (.c (Asks.of (C := Meets Try.prog) (slices_Clone_api_Read.meets t.Reads _ h2_2)) (.c (Asks.of (C := Meets Try.prog) (slices_Clone_api_Write.meets t.Writes _ h2_4)) (.c rT .n))) ?_
 refine kRs 4 [Ob 2 (TTxn.ob_0011 (TTxn.mk t.Session t.Seq r2_1 r2_3))] [] .n ?_
 refine kRt ?_
 have h_ := some_inj h
 subst h_
 exact kFr
def bd19 : Code := (Try.f19.body).getD .skip
def merge_All_1.O : Nat → Nat := fun t => bif ([7, 27, 28, 29] : List Nat).any (Nat.beq t) then 1 else 0
def merge_All_1.lp2 (fu : Nat) (l2_0 : Int) (l2_1 : List Int) (l2_2 : Int) (l2_5 : List (List TEntry)) : Nat → Int → (List TPlace) → Option (List TPlace)
  | 0, _, _ => none
  | n_ + 1, l2_3, l2_4 =>
  br (decide (l2_3 < l2_2))
   (ix l2_1 l2_3 fun x5_1 =>
   ix l2_5 l2_0 fun x6_1 =>
   ix x6_1 (w64 (x5_1 - 1)) fun x6_4 =>
   bd (merge_twin x6_4.T) fun r6_7 =>
   gd (decide (l2_4.length + ([(TPlace.mk l2_0 x5_1 r6_7)] : List TPlace).length ≤ 4294967296)) <|
   merge_All_1.lp2 fu l2_0 l2_1 l2_2 l2_5 n_ (w64 (l2_3 + 1)) (l2_4 ++ ([(TPlace.mk l2_0 x5_1 r6_7)] : List TPlace)))
   (some l2_4)
def merge_All_1.lp2_post (l2_0 : Int) (l2_1 : List Int) (l2_2 : Int) (l2_5 : List (List TEntry)) (r_ : (List TPlace)) : Wy → St → Prop := fun e τ => match r_ with
  | y0 => e = .exit 0 ∧ τ = ofL [Ob 1000 [sO 6 TPlace.en y0], Ob 1001 [sS 1 (e_l 6 TEntry.en) l2_5]]
theorem merge_All_1.lp2_ok (fu : Nat) (l2_0 : Int) (l2_1 : List Int) (l2_2 : Int) (l2_5 : List (List TEntry)) : ∀ (n_ : Nat) (l2_3 : Int) (l2_4 : List TPlace) (r_ : (List TPlace)), merge_All_1.lp2 fu l2_0 l2_1 l2_2 l2_5 n_ l2_3 l2_4 = some r_ → WK Try.prog merge_All_1.O (Ck Try.prog) (cB (cR bd19)) [] (ofL [Tm 0 (iv l2_0), Tm 2 (.ptr 1000 0), Tm 3 (.ptr 1001 0), Tm 8 (sS 1 e_i64 l2_1), Tm 9 (iv l2_2), Tm 10 (iv l2_3), Ob 1000 [sO 6 TPlace.en l2_4], Ob 1001 [sS 1 (e_l 6 TEntry.en) l2_5]]) (merge_All_1.lp2_post l2_0 l2_1 l2_2 l2_5 r_) := by
 intro n_
 induction n_ with
 | zero => intro l2_3 l2_4 r_ h; exact no_none h
 | succ n_ ih =>
  intro l2_3 l2_4 r_ h
  refine kLp ?_
  refine kRs 255 [Tm 11 (bv (decide (l2_3 < l2_2)))] [] .n ?_
  refine kSq ?_
  rcases br_inv h with ⟨b4_0, h⟩ | ⟨b4_0, h⟩
  ·refine kCt b4_0 ?_
   refine kSk ?_
   refine kCd (cR (cR (cB (cB (cR bd19))))) [.lp (cB (cR bd19))] ?_
   refine kSq ?_
   refine kBk 1 ?_
   obtain ⟨x5_1, a5_2, e5_3, h⟩ := ix_inv h
   refine kRs 510 [Tm 7 (iv x5_1)] [.c (e_i64 x5_1)] (.c (c_ix (e := e_i64) a5_2 e5_3) (.c (c_el (e := e_i64) e5_3) .n)) ?_
   obtain ⟨x6_1, a6_2, e6_3, h⟩ := ix_inv h
   obtain ⟨x6_4, a6_5, e6_6, h⟩ := ix_inv h
   obtain ⟨r6_7, h6_8, h⟩ := bd_inv h
   obtain ⟨c6_9, h⟩ := gd_inv h
   refine kRc 382 [Ob 1000 [sO 6 TPlace.en (l2_4 ++ ([(TPlace.mk l2_0 x5_1 r6_7)] : List TPlace))]] [.c ((e_l 6 TEntry.en) x6_1), .c (TEntry.en x6_4), .a ⟨.data (TTxn.ag_0011 r6_7), []⟩, .s (.t 29) [sO 6 TPlace.en (l2_4 ++ ([(TPlace.mk l2_0 x5_1 r6_7)] : List TPlace))]] (.c (c_ix (e := (e_l 6 TEntry.en)) a6_2 e6_3) (.c (c_el (e := (e_l 6 TEntry.en)) e6_3) (.c (c_ix (e := TEntry.en) a6_5 e6_6) (.c (c_el (e := TEntry.en) e6_6) (.c (Asks.of (C := Meets Try.prog) (merge_twin.meets x6_4.T _ h6_8)) (.c (c_al (e := TPlace.en) (f := TPlace.en) c6_9) (.c (congrArg (fun d : DV => [AV.data d]) (c_app (e := TPlace.en) (s := 6) (l := l2_4) (m := ([(TPlace.mk l2_0 x5_1 r6_7)] : List TPlace)))) (.c rT .n)))))))) (cR (cR (cR (cB (cB (cR bd19)))))) [.lp (cB (cR bd19))] ?_
   refine kRc 191 [Tm 10 (iv (w64 (l2_3 + 1)))] [] .n (cB (cR bd19)) [] ?_
   exact kWk (ih (w64 (l2_3 + 1)) (l2_4 ++ ([(TPlace.mk l2_0 x5_1 r6_7)] : List TPlace)) _ h)
  ·refine kCe b4_0 ?_
   cases some_inj h
   refine kWo ?_
   refine kXt 0 ?_
   exact kOut
def merge_All_1 (fu : Nat) (part : Int) (batch : List Int) (o0_v : List TPlace) (o1_v : List (List TEntry)) : Option (List TPlace) :=
 bd (merge_All_1.lp2 fu part batch (batch.length : Int) o1_v fu 0 o0_v) fun y8_0 =>
 some y8_0
theorem merge_All_1.meets (fu : Nat) (part : Int) (batch : List Int) (o0_v : List TPlace) (o1_v : List (List TEntry)) (z0 : List TPlace) (h : merge_All_1 fu part batch o0_v o1_v = some z0) : Meets Try.prog ⟨19, [iv part, sS 1 e_i64 batch, .ptr 1000 0, .ptr 1001 0], [[sO 6 TPlace.en o0_v], [sS 1 (e_l 6 TEntry.en) o1_v]]⟩ ⟨.tup [], [[sO 6 TPlace.en z0], [sS 1 (e_l 6 TEntry.en) o1_v]]⟩ := by
 refine kMt hmix merge_All_1.O Try.f19 bd19 63 ?_
 unfold merge_All_1 at h
 refine kRs 61 [Tm 8 (sS 1 e_i64 batch), Tm 9 (iv (batch.length : Int)), Tm 10 (iv 0)] [.s (.t 9) [iv (batch.length : Int)]] (.c (c_len (e := e_i64) (l := batch)) .n) ?_
 refine kBk 0 ?_
 obtain ⟨o8, ho8, h⟩ := bd_inv h
 refine kUs (merge_All_1.lp2_ok fu part batch (batch.length : Int) o1_v _ 0 o0_v _ ho8) ?_
 intro e_ τ_ hp_
 obtain ⟨y8_0, rfl⟩ : ∃ y, y = o8 := ⟨_, rfl⟩
 obtain ⟨rfl, rfl⟩ := hp_
 have h_ := some_inj h
 subst h_
 exact kFn
def bd18 : Code := (Try.f18.body).getD .skip
def merge_walk.O : Nat → Nat := fun t => bif ([4, 5, 6, 7, 9, 10, 11, 22, 27, 39, 72] : List Nat).any (Nat.beq t) then 1 else 0
def merge_walk.lp5 (fu : Nat) (l5_1 : List (List TEntry)) (l5_2 : Int) (l5_5 : List TPlace) (l5_6 : List (List TEntry)) : Nat → (List (List (List Int))) → Int → (List THead) → Option (List (List (List Int)) × List THead)
  | 0, _, _, _ => none
  | n_ + 1, l5_0, l5_3, l5_4 =>
  br (decide (l5_3 < l5_2))
   (ix l5_1 l5_3 fun x8_1 =>
   bd (epoch_Cut x8_1) fun r9_1 =>
   gd (decide (l5_0.length + ([r9_1] : List (List (List Int))).length ≤ 4294967296)) <|
   bd (heap_Push fu (THead.mk 0 l5_3) l5_4) fun r10_1 =>
   merge_walk.lp5 fu l5_1 l5_2 l5_5 l5_6 n_ (l5_0 ++ ([r9_1] : List (List (List Int)))) (w64 (l5_3 + 1)) r10_1)
   (some (l5_0, l5_4))
def merge_walk.lp5_post (l5_1 : List (List TEntry)) (l5_2 : Int) (l5_5 : List TPlace) (l5_6 : List (List TEntry)) (r_ : (List (List (List Int)) × List THead)) : Wy → St → Prop := fun e τ => match r_ with
  | (y0, y1) => e = .exit 0 ∧ τ = ofL [Tm 1 (.fn (.func 19) [] [.ptr 1000 0, .ptr 1001 0]), Tm 5 (sO 1 (e_l 1 (e_l 1 e_i64)) y0), Tm 6 (.ptr 11 0), Ob 11 [sO 2 THead.en y1], Ob 1000 [sO 6 TPlace.en l5_5], Ob 1001 [sS 1 (e_l 6 TEntry.en) l5_6]]
theorem merge_walk.lp5_ok (fu : Nat) (l5_1 : List (List TEntry)) (l5_2 : Int) (l5_5 : List TPlace) (l5_6 : List (List TEntry)) : ∀ (n_ : Nat) (l5_0 : List (List (List Int))) (l5_3 : Int) (l5_4 : List THead) (r_ : (List (List (List Int)) × List THead)), merge_walk.lp5 fu l5_1 l5_2 l5_5 l5_6 n_ l5_0 l5_3 l5_4 = some r_ → WK Try.prog merge_walk.O (Ck Try.prog) (cB (cR (cL (cR (cR (cR bd18)))))) [] (ofL [Tm 1 (.fn (.func 19) [] [.ptr 1000 0, .ptr 1001 0]), Tm 5 (sO 1 (e_l 1 (e_l 1 e_i64)) l5_0), Tm 6 (.ptr 11 0), Tm 12 (sS 1 (e_l 6 TEntry.en) l5_1), Tm 13 (iv l5_2), Tm 14 (iv l5_3), Ob 11 [sO 2 THead.en l5_4], Ob 1000 [sO 6 TPlace.en l5_5], Ob 1001 [sS 1 (e_l 6 TEntry.en) l5_6]]) (merge_walk.lp5_post l5_1 l5_2 l5_5 l5_6 r_) := by
 intro n_
 induction n_ with
 | zero => intro l5_0 l5_3 l5_4 r_ h; exact no_none h
 | succ n_ ih =>
  intro l5_0 l5_3 l5_4 r_ h
  refine kLp ?_
  refine kRs 511 [Tm 15 (bv (decide (l5_3 < l5_2)))] [] .n ?_
  refine kSq ?_
  rcases br_inv h with ⟨b7_0, h⟩ | ⟨b7_0, h⟩
  ·refine kCt b7_0 ?_
   refine kSk ?_
   refine kCd (cR (cR (cB (cB (cR (cL (cR (cR (cR bd18))))))))) [.lp (cB (cR (cL (cR (cR (cR bd18))))))] ?_
   refine kSq ?_
   refine kBk 1 ?_
   obtain ⟨x8_1, a8_2, e8_3, h⟩ := ix_inv h
   refine kRs 1022 [Tm 7 (iv l5_3), Tm 8 (sS 6 TEntry.en x8_1)] [.c ((e_l 6 TEntry.en) x8_1)] (.c (c_ix (e := (e_l 6 TEntry.en)) a8_2 e8_3) (.c (c_el (e := (e_l 6 TEntry.en)) e8_3) .n)) ?_
   obtain ⟨r9_1, h9_2, h⟩ := bd_inv h
   obtain ⟨c9_3, h⟩ := gd_inv h
   refine kRs 2037 [Tm 5 (sO 1 (e_l 1 (e_l 1 e_i64)) (l5_0 ++ ([r9_1] : List (List (List Int)))))] [.a ⟨sS 1 (e_l 1 e_i64) r9_1, []⟩, .s (.t 23) [sO 1 (e_l 1 (e_l 1 e_i64)) (l5_0 ++ ([r9_1] : List (List (List Int))))]] (.c (Asks.of (C := Meets Try.prog) (epoch_Cut.meets x8_1 _ h9_2)) (.c (c_al (e := (e_l 1 (e_l 1 e_i64))) (f := (e_l 1 (e_l 1 e_i64))) c9_3) (.c (congrArg (fun d : DV => [AV.data d]) (c_app (e := (e_l 1 (e_l 1 e_i64))) (s := 1) (l := l5_0) (m := ([r9_1] : List (List (List Int)))))) .n))) ?_
   obtain ⟨r10_1, h10_2, h⟩ := bd_inv h
   refine kRc 893 [Ob 11 [sO 2 THead.en r10_1]] [.a ⟨.tup [], [[sO 2 THead.en r10_1]]⟩] (.c (Asks.of (C := Meets Try.prog) (heap_Push.meets fu (THead.mk 0 l5_3) l5_4 _ h10_2)) .n) (cR (cR (cR (cB (cB (cR (cL (cR (cR (cR bd18)))))))))) [.lp (cB (cR (cL (cR (cR (cR bd18))))))] ?_
   refine kRc 447 [Tm 14 (iv (w64 (l5_3 + 1)))] [] .n (cB (cR (cL (cR (cR (cR bd18)))))) [] ?_
   exact kWk (ih (l5_0 ++ ([r9_1] : List (List (List Int)))) (w64 (l5_3 + 1)) r10_1 _ h)
  ·refine kCe b7_0 ?_
   cases some_inj h
   refine kWo ?_
   refine kXt 0 ?_
   exact kOut
def merge_walk.lp13 (fu : Nat) (l13_0 : List (List (List Int))) (l13_3 : List (List TEntry)) : Nat → (List THead) → (List TPlace) → Option ((List TPlace) ⊕ (Int × List TPlace))
  | 0, _, _ => none
  | n_ + 1, l13_1, l13_2 =>
  bd (merge_heads_Len l13_1) fun r14_1 =>
  br (decide (r14_1 > 0))
   (bd (heap_Pop fu l13_1) fun (r16_1, r16_2) =>
   ix l13_0 r16_1.part fun x17_1 =>
   ix x17_1 r16_1.batch fun x17_4 =>
   bd (merge_All_1 fu r16_1.part x17_4 l13_2 l13_3) fun r17_7 =>
   ix l13_0 r16_1.part fun x18_1 =>
   br (r16_1.batch == (w64 ((x18_1.length : Int) - 1)))
    (some (.inr (r16_1.part, r17_7)))
    (bd (heap_Push fu (THead.mk (w64 (r16_1.batch + 1)) r16_1.part) r16_2) fun r21_1 =>
    merge_walk.lp13 fu l13_0 l13_3 n_ r21_1 r17_7))
   (some (.inl l13_2))
def merge_walk.lp13_post (l13_0 : List (List (List Int))) (l13_3 : List (List TEntry)) (r_ : ((List TPlace) ⊕ (Int × List TPlace))) : Wy → St → Prop := fun e τ => match r_ with
  | .inl y0 => e = .exit 2 ∧ τ = ofL [Ob 1000 [sO 6 TPlace.en y0], Ob 1001 [sS 1 (e_l 6 TEntry.en) l13_3]]
  | .inr (y0, y1) => e = .ret ∧ τ = ofL [Tm 4 (iv y0), Ob 1000 [sO 6 TPlace.en y1], Ob 1001 [sS 1 (e_l 6 TEntry.en) l13_3]]
theorem merge_walk.lp13_ok (fu : Nat) (l13_0 : List (List (List Int))) (l13_3 : List (List TEntry)) : ∀ (n_ : Nat) (l13_1 : List THead) (l13_2 : List TPlace) (r_ : ((List TPlace) ⊕ (Int × List TPlace))), merge_walk.lp13 fu l13_0 l13_3 n_ l13_1 l13_2 = some r_ → WK Try.prog merge_walk.O (Ck Try.prog) (cB (cL (cR (cR (cR (cR bd18)))))) [] (ofL [Tm 1 (.fn (.func 19) [] [.ptr 1000 0, .ptr 1001 0]), Tm 5 (sO 1 (e_l 1 (e_l 1 e_i64)) l13_0), Tm 6 (.ptr 11 0), Ob 11 [sO 2 THead.en l13_1], Ob 1000 [sO 6 TPlace.en l13_2], Ob 1001 [sS 1 (e_l 6 TEntry.en) l13_3]]) (merge_walk.lp13_post l13_0 l13_3 r_) := by
 intro n_
 induction n_ with
 | zero => intro l13_1 l13_2 r_ h; exact no_none h
 | succ n_ ih =>
  intro l13_1 l13_2 r_ h
  refine kLp ?_
  refine kSq ?_
  obtain ⟨r14_1, h14_2, h⟩ := bd_inv h
  refine kRs 63 [Tm 35 (bv (decide (r14_1 > 0)))] [.a ⟨iv r14_1, []⟩] (.c (Asks.of (C := Meets Try.prog) (merge_heads_Len.meets l13_1 _ h14_2)) .n) ?_
  rcases br_inv h with ⟨b15_0, h⟩ | ⟨b15_0, h⟩
  ·refine kCt b15_0 ?_
   refine kSk ?_
   refine kCd (cR (cB (cB (cL (cR (cR (cR (cR bd18)))))))) [.lp (cB (cL (cR (cR (cR (cR bd18))))))] ?_
   refine kBk 3 ?_
   obtain ⟨⟨r16_1, r16_2⟩, h16_3, h⟩ := bd_inv h
   refine kRs 110 [Tm 9 (.ptr 9 0), Ob 9 [iv r16_1.batch, iv r16_1.part], Ob 11 [sO 2 THead.en r16_2]] [.a ⟨.ifc 68 (.data (.agg [.val (.int .i64 r16_1.batch), .val (.int .i64 r16_1.part)])), [[sO 2 THead.en r16_2]]⟩] (.c (Asks.of (C := Meets Try.prog) (heap_Pop.meets fu l13_1 _ _ h16_3)) .n) ?_
   obtain ⟨x17_1, a17_2, e17_3, h⟩ := ix_inv h
   obtain ⟨x17_4, a17_5, e17_6, h⟩ := ix_inv h
   obtain ⟨r17_7, h17_8, h⟩ := bd_inv h
   refine kRs 191 [Ob 1000 [sO 6 TPlace.en r17_7]] [.c ((e_l 1 (e_l 1 e_i64)) x17_1), .c ((e_l 1 e_i64) x17_4), .a ⟨.tup [], [[sO 6 TPlace.en r17_7], [sS 1 (e_l 6 TEntry.en) l13_3]]⟩] (.c (c_ix (e := (e_l 1 (e_l 1 e_i64))) a17_2 e17_3) (.c (c_el (e := (e_l 1 (e_l 1 e_i64))) e17_3) (.c (c_ix (e := (e_l 1 e_i64)) a17_5 e17_6) (.c (c_el (e := (e_l 1 e_i64)) e17_6) (.c (Asks.of (C := Meets Try.prog) (merge_All_1.meets fu r16_1.part x17_4 l13_2 l13_3 _ h17_8)) (.c rT .n)))))) ?_
   refine kSq ?_
   obtain ⟨x18_1, a18_2, e18_3, h⟩ := ix_inv h
   refine kRs 255 [Tm 62 (bv (r16_1.batch == (w64 ((x18_1.length : Int) - 1))))] [.c ((e_l 1 (e_l 1 e_i64)) x18_1), .s (.t 60) [iv (x18_1.length : Int)]] (.c (c_ix (e := (e_l 1 (e_l 1 e_i64))) a18_2 e18_3) (.c (c_el (e := (e_l 1 (e_l 1 e_i64))) e18_3) (.c (c_len (e := (e_l 1 e_i64)) (l := x18_1)) (.c rT .n)))) ?_
   rcases br_inv h with ⟨b19_0, h⟩ | ⟨b19_0, h⟩
   ·refine kCt b19_0 ?_
    refine kRs 258 [Tm 4 (iv r16_1.part)] [] .n ?_
    cases some_inj h
    refine kWo ?_
    refine kRt ?_
    exact kOut
   ·refine kCe b19_0 ?_
    refine kSk ?_
    refine kCd (cR (cR (cR (cB (cR (cB (cB (cL (cR (cR (cR (cR bd18)))))))))))) [.blk 3, .lp (cB (cL (cR (cR (cR (cR bd18))))))] ?_
    obtain ⟨r21_1, h21_2, h⟩ := bd_inv h
    refine kRc 482 [Ob 11 [sO 2 THead.en r21_1]] [.a ⟨.tup [], [[sO 2 THead.en r21_1]]⟩] (.c (Asks.of (C := Meets Try.prog) (heap_Push.meets fu (THead.mk (w64 (r16_1.batch + 1)) r16_1.part) r16_2 _ h21_2)) .n) (cB (cL (cR (cR (cR (cR bd18)))))) [] ?_
    exact kWk (ih r21_1 r17_7 _ h)
  ·refine kCe b15_0 ?_
   cases some_inj h
   refine kWo ?_
   refine kXt 2 ?_
   exact kOut
def merge_walk (fu : Nat) (logs : List (List TEntry)) (o0_v : List TPlace) (o1_v : List (List TEntry)) : Option (Int × List TPlace) :=
 bd (merge_walk.lp5 fu logs (logs.length : Int) o0_v o1_v fu [] 0 []) fun (y12_0, y12_1) =>
 bd (merge_walk.lp13 fu y12_0 o1_v fu y12_1 o0_v) fun o_ => (match o_ with
 | .inl y22_0 =>
  some ((-1), y22_0)
 | .inr (y22_0, y22_1) =>
  some (y22_0, y22_1))
theorem merge_walk.meets (fu : Nat) (logs : List (List TEntry)) (o0_v : List TPlace) (o1_v : List (List TEntry)) (z0 : Int) (z1 : List TPlace) (h : merge_walk fu logs o0_v o1_v = some (z0, z1)) : Meets Try.prog ⟨18, [sS 1 (e_l 6 TEntry.en) logs, .fn (.func 19) [] [.ptr 1000 0, .ptr 1001 0]], [[sO 6 TPlace.en o0_v], [sS 1 (e_l 6 TEntry.en) o1_v]]⟩ ⟨iv z0, [[sO 6 TPlace.en z1], [sS 1 (e_l 6 TEntry.en) o1_v]]⟩ := by
 refine kMt hmix merge_walk.O Try.f18 bd18 15 ?_
 unfold merge_walk at h
 refine kRs 15 [] [] .n ?_
 refine kRs 15 [Tm 5 (.data (.slc true (some true) 1 (List.map (e_l 1 (e_l 1 e_i64)) [])))] [] .n ?_
 refine kRs 31 [Tm 6 (.ptr 11 0), Ob 11 [.data (.slc true none 2 (List.map THead.en []))]] [] .n ?_
 refine kSq ?_
 refine kRs 119 [Tm 12 (sS 1 (e_l 6 TEntry.en) logs), Tm 13 (iv (logs.length : Int)), Tm 14 (iv 0)] [.s (.t 13) [iv (logs.length : Int)]] (.c (c_len (e := (e_l 6 TEntry.en)) (l := logs)) .n) ?_
 refine kBk 0 ?_
 obtain ⟨o12, ho12, h⟩ := bd_inv h
 refine kUs (merge_walk.lp5_ok fu logs (logs.length : Int) o0_v o1_v _ [] 0 [] _ ho12) ?_
 intro e_ τ_ hp_
 obtain ⟨y12_0, y12_1⟩ := o12
 obtain ⟨rfl, rfl⟩ := hp_
 refine kCd (cR (cR (cR (cR bd18)))) [] ?_
 refine kSq ?_
 refine kBk 2 ?_
 obtain ⟨o22, ho22, h⟩ := bd_inv h
 refine kUs (merge_walk.lp13_ok fu y12_0 o1_v _ y12_1 o0_v _ ho22) ?_
 intro e_ τ_ hp_
 rcases o22 with o22 | o22
 ·obtain ⟨y22_0, rfl⟩ : ∃ y, y = o22 := ⟨_, rfl⟩
  obtain ⟨rfl, rfl⟩ := hp_
  refine kCd (cR (cR (cR (cR (cR bd18))))) [] ?_
  refine kRs 3 [Tm 4 (iv (-1))] [] .n ?_
  refine kRt ?_
  have h_0 := some_inj h
  obtain ⟨g_1, h_1⟩ := Prod.mk.inj h_0
  subst g_1
  subst h_1
  exact kFr
 ·obtain ⟨y22_0, y22_1⟩ := o22
  obtain ⟨rfl, rfl⟩ := hp_
  have h_0 := some_inj h
  obtain ⟨g_1, h_1⟩ := Prod.mk.inj h_0
  subst g_1
  subst h_1
  exact kFr
def bd9 : Code := (Try.f9.body).getD .skip
def merge_All.O : Nat → Nat := fun t => bif ([1, 2, 6] : List Nat).any (Nat.beq t) then 1 else 0
def merge_All (fu : Nat) (logs : List (List TEntry)) : Option (List TPlace) :=
 bd (merge_walk fu logs [] logs) fun (r2_1, r2_2) =>
 some r2_2
theorem merge_All.meets (fu : Nat) (logs : List (List TEntry)) (z0 : List TPlace) (h : merge_All fu logs = some z0) : Meets Try.prog ⟨9, [sS 1 (e_l 6 TEntry.en) logs], []⟩ ⟨sO 6 TPlace.en z0, []⟩ := by
 refine kMt hmix merge_All.O Try.f9 bd9 1 ?_
 unfold merge_All at h
 refine kRs 0 [Tm 1 (.ptr 1 0), Tm 2 (.ptr 2 0), Ob 1 [sS 1 (e_l 6 TEntry.en) logs], Ob 2 [.data (.slc true none 6 (List.map TPlace.en []))]] [] .n ?_
 obtain ⟨⟨r2_1, r2_2⟩, h2_3, h⟩ := bd_inv h
 refine kRs 2 [Ob 2 [sO 6 TPlace.en r2_2]] [.a ⟨iv r2_1, [[sO 6 TPlace.en r2_2], [sS 1 (e_l 6 TEntry.en) logs]]⟩] (.c (Asks.of (C := Meets Try.prog) (merge_walk.meets fu logs [] logs _ _ h2_3)) .n) ?_
 refine kRs 3 [] [] .n ?_
 refine kRt ?_
 have h_ := some_inj h
 subst h_
 exact kFr
def bd24 : Code := (Try.f24.body).getD .skip
def merge_Head_1.O : Nat → Nat := fun t => bif ([] : List Nat).any (Nat.beq t) then 1 else 0
def merge_Head_1 (a0_v : Int) (a1_v : List Int) : Option Unit :=
 some ()
theorem merge_Head_1.meets (a0_v : Int) (a1_v : List Int) (h : merge_Head_1 a0_v a1_v = some ()) : Meets Try.prog ⟨24, [iv a0_v, sS 1 e_i64 a1_v], []⟩ ⟨.tup [], []⟩ := by
 refine kMt hmix merge_Head_1.O Try.f24 bd24 0 ?_
 unfold merge_Head_1 at h
 refine kSk ?_
 cases some_inj h
 exact kFn
def merge_walk_2.O : Nat → Nat := fun t => bif ([4, 5, 6, 7, 9, 10, 11, 22, 27, 39, 72] : List Nat).any (Nat.beq t) then 1 else 0
def merge_walk_2.lp5 (fu : Nat) (l5_1 : List (List TEntry)) (l5_2 : Int) : Nat → (List (List (List Int))) → Int → (List THead) → Option (List (List (List Int)) × List THead)
  | 0, _, _, _ => none
  | n_ + 1, l5_0, l5_3, l5_4 =>
  br (decide (l5_3 < l5_2))
   (ix l5_1 l5_3 fun x8_1 =>
   bd (epoch_Cut x8_1) fun r9_1 =>
   gd (decide (l5_0.length + ([r9_1] : List (List (List Int))).length ≤ 4294967296)) <|
   bd (heap_Push fu (THead.mk 0 l5_3) l5_4) fun r10_1 =>
   merge_walk_2.lp5 fu l5_1 l5_2 n_ (l5_0 ++ ([r9_1] : List (List (List Int)))) (w64 (l5_3 + 1)) r10_1)
   (some (l5_0, l5_4))
def merge_walk_2.lp5_post (l5_1 : List (List TEntry)) (l5_2 : Int) (r_ : (List (List (List Int)) × List THead)) : Wy → St → Prop := fun e τ => match r_ with
  | (y0, y1) => e = .exit 0 ∧ τ = ofL [Tm 1 (.fn (.func 24) [] []), Tm 5 (sO 1 (e_l 1 (e_l 1 e_i64)) y0), Tm 6 (.ptr 11 0), Ob 11 [sO 2 THead.en y1]]
theorem merge_walk_2.lp5_ok (fu : Nat) (l5_1 : List (List TEntry)) (l5_2 : Int) : ∀ (n_ : Nat) (l5_0 : List (List (List Int))) (l5_3 : Int) (l5_4 : List THead) (r_ : (List (List (List Int)) × List THead)), merge_walk_2.lp5 fu l5_1 l5_2 n_ l5_0 l5_3 l5_4 = some r_ → WK Try.prog merge_walk_2.O (Ck Try.prog) (cB (cR (cL (cR (cR (cR bd18)))))) [] (ofL [Tm 1 (.fn (.func 24) [] []), Tm 5 (sO 1 (e_l 1 (e_l 1 e_i64)) l5_0), Tm 6 (.ptr 11 0), Tm 12 (sS 1 (e_l 6 TEntry.en) l5_1), Tm 13 (iv l5_2), Tm 14 (iv l5_3), Ob 11 [sO 2 THead.en l5_4]]) (merge_walk_2.lp5_post l5_1 l5_2 r_) := by
 intro n_
 induction n_ with
 | zero => intro l5_0 l5_3 l5_4 r_ h; exact no_none h
 | succ n_ ih =>
  intro l5_0 l5_3 l5_4 r_ h
  refine kLp ?_
  refine kRs 127 [Tm 15 (bv (decide (l5_3 < l5_2)))] [] .n ?_
  refine kSq ?_
  rcases br_inv h with ⟨b7_0, h⟩ | ⟨b7_0, h⟩
  ·refine kCt b7_0 ?_
   refine kSk ?_
   refine kCd (cR (cR (cB (cB (cR (cL (cR (cR (cR bd18))))))))) [.lp (cB (cR (cL (cR (cR (cR bd18))))))] ?_
   refine kSq ?_
   refine kBk 1 ?_
   obtain ⟨x8_1, a8_2, e8_3, h⟩ := ix_inv h
   refine kRs 254 [Tm 7 (iv l5_3), Tm 8 (sS 6 TEntry.en x8_1)] [.c ((e_l 6 TEntry.en) x8_1)] (.c (c_ix (e := (e_l 6 TEntry.en)) a8_2 e8_3) (.c (c_el (e := (e_l 6 TEntry.en)) e8_3) .n)) ?_
   obtain ⟨r9_1, h9_2, h⟩ := bd_inv h
   obtain ⟨c9_3, h⟩ := gd_inv h
   refine kRs 501 [Tm 5 (sO 1 (e_l 1 (e_l 1 e_i64)) (l5_0 ++ ([r9_1] : List (List (List Int)))))] [.a ⟨sS 1 (e_l 1 e_i64) r9_1, []⟩, .s (.t 23) [sO 1 (e_l 1 (e_l 1 e_i64)) (l5_0 ++ ([r9_1] : List (List (List Int))))]] (.c (Asks.of (C := Meets Try.prog) (epoch_Cut.meets x8_1 _ h9_2)) (.c (c_al (e := (e_l 1 (e_l 1 e_i64))) (f := (e_l 1 (e_l 1 e_i64))) c9_3) (.c (congrArg (fun d : DV => [AV.data d]) (c_app (e := (e_l 1 (e_l 1 e_i64))) (s := 1) (l := l5_0) (m := ([r9_1] : List (List (List Int)))))) .n))) ?_
   obtain ⟨r10_1, h10_2, h⟩ := bd_inv h
   refine kRc 125 [Ob 11 [sO 2 THead.en r10_1]] [.a ⟨.tup [], [[sO 2 THead.en r10_1]]⟩] (.c (Asks.of (C := Meets Try.prog) (heap_Push.meets fu (THead.mk 0 l5_3) l5_4 _ h10_2)) .n) (cR (cR (cR (cB (cB (cR (cL (cR (cR (cR bd18)))))))))) [.lp (cB (cR (cL (cR (cR (cR bd18))))))] ?_
   refine kRc 63 [Tm 14 (iv (w64 (l5_3 + 1)))] [] .n (cB (cR (cL (cR (cR (cR bd18)))))) [] ?_
   exact kWk (ih (l5_0 ++ ([r9_1] : List (List (List Int)))) (w64 (l5_3 + 1)) r10_1 _ h)
  ·refine kCe b7_0 ?_
   cases some_inj h
   refine kWo ?_
   refine kXt 0 ?_
   exact kOut
def merge_walk_2.lp13 (fu : Nat) (l13_0 : List (List (List Int))) : Nat → (List THead) → Option (Unit ⊕ Int)
  | 0, _ => none
  | n_ + 1, l13_1 =>
  bd (merge_heads_Len l13_1) fun r14_1 =>
  br (decide (r14_1 > 0))
   (bd (heap_Pop fu l13_1) fun (r16_1, r16_2) =>
   ix l13_0 r16_1.part fun x17_1 =>
   ix x17_1 r16_1.batch fun x17_4 =>
   bd (merge_Head_1 r16_1.part x17_4) fun _ =>
   ix l13_0 r16_1.part fun x18_1 =>
   br (r16_1.batch == (w64 ((x18_1.length : Int) - 1)))
    (some (.inr r16_1.part))
    (bd (heap_Push fu (THead.mk (w64 (r16_1.batch + 1)) r16_1.part) r16_2) fun r21_1 =>
    merge_walk_2.lp13 fu l13_0 n_ r21_1))
   (some (.inl ()))
def merge_walk_2.lp13_post (l13_0 : List (List (List Int))) (r_ : (Unit ⊕ Int)) : Wy → St → Prop := fun e τ => match r_ with
  | .inl _ => e = .exit 2 ∧ τ = ofL []
  | .inr y0 => e = .ret ∧ τ = ofL [Tm 4 (iv y0)]
theorem merge_walk_2.lp13_ok (fu : Nat) (l13_0 : List (List (List Int))) : ∀ (n_ : Nat) (l13_1 : List THead) (r_ : (Unit ⊕ Int)), merge_walk_2.lp13 fu l13_0 n_ l13_1 = some r_ → WK Try.prog merge_walk_2.O (Ck Try.prog) (cB (cL (cR (cR (cR (cR bd18)))))) [] (ofL [Tm 1 (.fn (.func 24) [] []), Tm 5 (sO 1 (e_l 1 (e_l 1 e_i64)) l13_0), Tm 6 (.ptr 11 0), Ob 11 [sO 2 THead.en l13_1]]) (merge_walk_2.lp13_post l13_0 r_) := by
 intro n_
 induction n_ with
 | zero => intro l13_1 r_ h; exact no_none h
 | succ n_ ih =>
  intro l13_1 r_ h
  refine kLp ?_
  refine kSq ?_
  obtain ⟨r14_1, h14_2, h⟩ := bd_inv h
  refine kRs 15 [Tm 35 (bv (decide (r14_1 > 0)))] [.a ⟨iv r14_1, []⟩] (.c (Asks.of (C := Meets Try.prog) (merge_heads_Len.meets l13_1 _ h14_2)) .n) ?_
  rcases br_inv h with ⟨b15_0, h⟩ | ⟨b15_0, h⟩
  ·refine kCt b15_0 ?_
   refine kSk ?_
   refine kCd (cR (cB (cB (cL (cR (cR (cR (cR bd18)))))))) [.lp (cB (cL (cR (cR (cR (cR bd18))))))] ?_
   refine kBk 3 ?_
   obtain ⟨⟨r16_1, r16_2⟩, h16_3, h⟩ := bd_inv h
   refine kRs 14 [Tm 9 (.ptr 9 0), Ob 9 [iv r16_1.batch, iv r16_1.part], Ob 11 [sO 2 THead.en r16_2]] [.a ⟨.ifc 68 (.data (.agg [.val (.int .i64 r16_1.batch), .val (.int .i64 r16_1.part)])), [[sO 2 THead.en r16_2]]⟩] (.c (Asks.of (C := Meets Try.prog) (heap_Pop.meets fu l13_1 _ _ h16_3)) .n) ?_
   obtain ⟨x17_1, a17_2, e17_3, h⟩ := ix_inv h
   obtain ⟨x17_4, a17_5, e17_6, h⟩ := ix_inv h
   obtain ⟨_, h17_7, h⟩ := bd_inv h
   refine kRs 63 [] [.c ((e_l 1 (e_l 1 e_i64)) x17_1), .c ((e_l 1 e_i64) x17_4), .a ⟨.tup [], []⟩] (.c (c_ix (e := (e_l 1 (e_l 1 e_i64))) a17_2 e17_3) (.c (c_el (e := (e_l 1 (e_l 1 e_i64))) e17_3) (.c (c_ix (e := (e_l 1 e_i64)) a17_5 e17_6) (.c (c_el (e := (e_l 1 e_i64)) e17_6) (.c (Asks.of (C := Meets Try.prog) (merge_Head_1.meets r16_1.part x17_4 h17_7)) (.c rT .n)))))) ?_
   refine kSq ?_
   obtain ⟨x18_1, a18_2, e18_3, h⟩ := ix_inv h
   refine kRs 63 [Tm 62 (bv (r16_1.batch == (w64 ((x18_1.length : Int) - 1))))] [.c ((e_l 1 (e_l 1 e_i64)) x18_1), .s (.t 60) [iv (x18_1.length : Int)]] (.c (c_ix (e := (e_l 1 (e_l 1 e_i64))) a18_2 e18_3) (.c (c_el (e := (e_l 1 (e_l 1 e_i64))) e18_3) (.c (c_len (e := (e_l 1 e_i64)) (l := x18_1)) (.c rT .n)))) ?_
   rcases br_inv h with ⟨b19_0, h⟩ | ⟨b19_0, h⟩
   ·refine kCt b19_0 ?_
    refine kRs 0 [Tm 4 (iv r16_1.part)] [] .n ?_
    cases some_inj h
    refine kWo ?_
    refine kRt ?_
    exact kOut
   ·refine kCe b19_0 ?_
    refine kSk ?_
    refine kCd (cR (cR (cR (cB (cR (cB (cB (cL (cR (cR (cR (cR bd18)))))))))))) [.blk 3, .lp (cB (cL (cR (cR (cR (cR bd18))))))] ?_
    obtain ⟨r21_1, h21_2, h⟩ := bd_inv h
    refine kRc 112 [Ob 11 [sO 2 THead.en r21_1]] [.a ⟨.tup [], [[sO 2 THead.en r21_1]]⟩] (.c (Asks.of (C := Meets Try.prog) (heap_Push.meets fu (THead.mk (w64 (r16_1.batch + 1)) r16_1.part) r16_2 _ h21_2)) .n) (cB (cL (cR (cR (cR (cR bd18)))))) [] ?_
    exact kWk (ih r21_1 _ h)
  ·refine kCe b15_0 ?_
   cases some_inj h
   refine kWo ?_
   refine kXt 2 ?_
   exact kOut
def merge_walk_2 (fu : Nat) (logs : List (List TEntry)) : Option Int :=
 bd (merge_walk_2.lp5 fu logs (logs.length : Int) fu [] 0 []) fun (y12_0, y12_1) =>
 bd (merge_walk_2.lp13 fu y12_0 fu y12_1) fun o_ => (match o_ with
 | .inl _ =>
  some (-1)
 | .inr y22_0 =>
  some y22_0)
theorem merge_walk_2.meets (fu : Nat) (logs : List (List TEntry)) (z0 : Int) (h : merge_walk_2 fu logs = some z0) : Meets Try.prog ⟨18, [sS 1 (e_l 6 TEntry.en) logs, .fn (.func 24) [] []], []⟩ ⟨iv z0, []⟩ := by
 refine kMt hmix merge_walk_2.O Try.f18 bd18 3 ?_
 unfold merge_walk_2 at h
 refine kRs 3 [] [] .n ?_
 refine kRs 3 [Tm 5 (.data (.slc true (some true) 1 (List.map (e_l 1 (e_l 1 e_i64)) [])))] [] .n ?_
 refine kRs 7 [Tm 6 (.ptr 11 0), Ob 11 [.data (.slc true none 2 (List.map THead.en []))]] [] .n ?_
 refine kSq ?_
 refine kRs 23 [Tm 12 (sS 1 (e_l 6 TEntry.en) logs), Tm 13 (iv (logs.length : Int)), Tm 14 (iv 0)] [.s (.t 13) [iv (logs.length : Int)]] (.c (c_len (e := (e_l 6 TEntry.en)) (l := logs)) .n) ?_
 refine kBk 0 ?_
 obtain ⟨o12, ho12, h⟩ := bd_inv h
 refine kUs (merge_walk_2.lp5_ok fu logs (logs.length : Int) _ [] 0 [] _ ho12) ?_
 intro e_ τ_ hp_
 obtain ⟨y12_0, y12_1⟩ := o12
 obtain ⟨rfl, rfl⟩ := hp_
 refine kCd (cR (cR (cR (cR bd18)))) [] ?_
 refine kSq ?_
 refine kBk 2 ?_
 obtain ⟨o22, ho22, h⟩ := bd_inv h
 refine kUs (merge_walk_2.lp13_ok fu y12_0 _ y12_1 _ ho22) ?_
 intro e_ τ_ hp_
 rcases o22 with o22 | o22
 ·obtain ⟨⟩ := o22
  obtain ⟨rfl, rfl⟩ := hp_
  refine kCd (cR (cR (cR (cR (cR bd18))))) [] ?_
  refine kRs 0 [Tm 4 (iv (-1))] [] .n ?_
  refine kRt ?_
  have h_ := some_inj h
  subst h_
  exact kFr
 ·obtain ⟨y22_0, rfl⟩ : ∃ y, y = o22 := ⟨_, rfl⟩
  obtain ⟨rfl, rfl⟩ := hp_
  have h_ := some_inj h
  subst h_
  exact kFr
def bd13 : Code := (Try.f13.body).getD .skip
def merge_Head.O : Nat → Nat := fun t => bif ([2] : List Nat).any (Nat.beq t) then 1 else 0
def merge_Head (fu : Nat) (logs : List (List TEntry)) : Option Int :=
 bd (merge_walk_2 fu logs) fun r2_1 =>
 some r2_1
theorem merge_Head.meets (fu : Nat) (logs : List (List TEntry)) (z0 : Int) (h : merge_Head fu logs = some z0) : Meets Try.prog ⟨13, [sS 1 (e_l 6 TEntry.en) logs], []⟩ ⟨iv z0, []⟩ := by
 refine kMt hmix merge_Head.O Try.f13 bd13 1 ?_
 unfold merge_Head at h
 refine kRs 1 [] [] .n ?_
 obtain ⟨r2_1, h2_2, h⟩ := bd_inv h
 refine kRs 0 [Tm 2 (iv r2_1)] [.a ⟨iv r2_1, []⟩] (.c (Asks.of (C := Meets Try.prog) (merge_walk_2.meets fu logs _ h2_2)) .n) ?_
 refine kRt ?_
 have h_ := some_inj h
 subst h_
 exact kFr
def bd23 : Code := (Try.f23.body).getD .skip
def merge_First_1.O : Nat → Nat := fun t => bif ([3, 4] : List Nat).any (Nat.beq t) then 1 else 0
def merge_First_1 (p : TPlace) (o0_v : Int) (o1_v : Int) : Option Bool :=
 br (p.T.Session == o0_v)
  (some (p.T.Seq == o1_v))
  (some false)
theorem merge_First_1.meets (p : TPlace) (o0_v : Int) (o1_v : Int) (z0 : Bool) (h : merge_First_1 p o0_v o1_v = some z0) : Meets Try.prog ⟨23, [.data (TPlace.ag p), .ptr 1000 0, .ptr 1001 0], [[iv o0_v], [iv o1_v]]⟩ ⟨bv z0, [[iv o0_v], [iv o1_v]]⟩ := by
 refine kMt hmix merge_First_1.O Try.f23 bd23 31 ?_
 unfold merge_First_1 at h
 refine kRs 30 [Tm 3 (.ptr 3 0), Ob 3 (TPlace.ob p)] [] .n ?_
 rcases br_inv h with ⟨b2_1, h⟩ | ⟨b2_1, h⟩
 ·refine kRs 48 [Tm 4 (bv (p.T.Seq == o1_v))] (rp 6 (.b true) []) (.r 6 b2_1 .n) ?_
  refine kRt ?_
  have h_ := some_inj h
  subst h_
  exact kFr
 ·refine kRs 48 [Tm 4 (bv false)] (rp 6 (.b false) []) (.r 6 b2_1 .n) ?_
  refine kRt ?_
  have h_ := some_inj h
  subst h_
  exact kFr
def bd22 : Code := (Try.f22.body).getD .skip
def slices_IndexFunc_api_Place.O : Nat → Nat := fun t => bif ([4, 5] : List Nat).any (Nat.beq t) then 1 else 0
def slices_IndexFunc_api_Place.lp3 (fu : Nat) (l3_0 : List TPlace) (l3_1 : Int) (l3_3 : Int) (l3_4 : Int) : Nat → Int → Option (Unit ⊕ Int)
  | 0, _ => none
  | n_ + 1, l3_2 =>
  br (decide (l3_2 < l3_1))
   (ix l3_0 l3_2 fun x7_1 =>
   bd (merge_First_1 x7_1 l3_3 l3_4) fun r7_4 =>
   br r7_4
    (some (.inr l3_2))
    (slices_IndexFunc_api_Place.lp3 fu l3_0 l3_1 l3_3 l3_4 n_ (w64 (l3_2 + 1))))
   (some (.inl ()))
def slices_IndexFunc_api_Place.lp3_post (l3_0 : List TPlace) (l3_1 : Int) (l3_3 : Int) (l3_4 : Int) (r_ : (Unit ⊕ Int)) : Wy → St → Prop := fun e τ => match r_ with
  | .inl _ => e = .exit 0 ∧ τ = ofL [Ob 1000 [iv l3_3], Ob 1001 [iv l3_4]]
  | .inr y0 => e = .ret ∧ τ = ofL [Tm 4 (iv y0), Ob 1000 [iv l3_3], Ob 1001 [iv l3_4]]
theorem slices_IndexFunc_api_Place.lp3_ok (fu : Nat) (l3_0 : List TPlace) (l3_1 : Int) (l3_3 : Int) (l3_4 : Int) : ∀ (n_ : Nat) (l3_2 : Int) (r_ : (Unit ⊕ Int)), slices_IndexFunc_api_Place.lp3 fu l3_0 l3_1 l3_3 l3_4 n_ l3_2 = some r_ → WK Try.prog slices_IndexFunc_api_Place.O (Ck Try.prog) (cB (cR (cL (cR bd22)))) [] (ofL [Tm 0 (sS 6 TPlace.en l3_0), Tm 1 (.fn (.func 23) [] [.ptr 1000 0, .ptr 1001 0]), Tm 7 (iv l3_1), Tm 8 (iv l3_2), Ob 1000 [iv l3_3], Ob 1001 [iv l3_4]]) (slices_IndexFunc_api_Place.lp3_post l3_0 l3_1 l3_3 l3_4 r_) := by
 intro n_
 induction n_ with
 | zero => intro l3_2 r_ h; exact no_none h
 | succ n_ ih =>
  intro l3_2 r_ h
  refine kLp ?_
  refine kRs 63 [Tm 9 (bv (decide (l3_2 < l3_1)))] [] .n ?_
  refine kSq ?_
  rcases br_inv h with ⟨b5_0, h⟩ | ⟨b5_0, h⟩
  ·refine kCt b5_0 ?_
   refine kSk ?_
   refine kCd (cR (cR (cB (cB (cR (cL (cR bd22))))))) [.lp (cB (cR (cL (cR bd22))))] ?_
   refine kSq ?_
   refine kBk 1 ?_
   refine kRs 126 [Tm 5 (iv l3_2)] [] .n ?_
   obtain ⟨x7_1, a7_2, e7_3, h⟩ := ix_inv h
   obtain ⟨r7_4, h7_5, h⟩ := bd_inv h
   refine kRs 127 [Tm 16 (bv r7_4)] [.c (TPlace.en x7_1), .a ⟨bv r7_4, [[iv l3_3], [iv l3_4]]⟩] (.c (c_ix (e := TPlace.en) a7_2 e7_3) (.c (c_el (e := TPlace.en) e7_3) (.c (Asks.of (C := Meets Try.prog) (merge_First_1.meets x7_1 l3_3 l3_4 _ h7_5)) .n))) ?_
   rcases br_inv h with ⟨b8_0, h⟩ | ⟨b8_0, h⟩
   ·refine kCt b8_0 ?_
    refine kRs 192 [Tm 4 (iv l3_2)] [] .n ?_
    cases some_inj h
    refine kWo ?_
    refine kRt ?_
    exact kOut
   ·refine kCe b8_0 ?_
    refine kSk ?_
    refine kCd (cR (cR (cR (cB (cB (cR (cL (cR bd22)))))))) [.lp (cB (cR (cL (cR bd22))))] ?_
    refine kRc 220 [Tm 8 (iv (w64 (l3_2 + 1)))] [] .n (cB (cR (cL (cR bd22)))) [] ?_
    exact kWk (ih (w64 (l3_2 + 1)) _ h)
  ·refine kCe b5_0 ?_
   cases some_inj h
   refine kWo ?_
   refine kXt 0 ?_
   exact kOut
def slices_IndexFunc_api_Place (fu : Nat) (s : List TPlace) (o0_v : Int) (o1_v : Int) : Option Int :=
 bd (slices_IndexFunc_api_Place.lp3 fu s (s.length : Int) o0_v o1_v fu 0) fun o_ => (match o_ with
 | .inl _ =>
  some (-1)
 | .inr y11_0 =>
  some y11_0)
theorem slices_IndexFunc_api_Place.meets (fu : Nat) (s : List TPlace) (o0_v : Int) (o1_v : Int) (z0 : Int) (h : slices_IndexFunc_api_Place fu s o0_v o1_v = some z0) : Meets Try.prog ⟨22, [sS 6 TPlace.en s, .fn (.func 23) [] [.ptr 1000 0, .ptr 1001 0]], [[iv o0_v], [iv o1_v]]⟩ ⟨iv z0, [[iv o0_v], [iv o1_v]]⟩ := by
 refine kMt hmix slices_IndexFunc_api_Place.O Try.f22 bd22 15 ?_
 unfold slices_IndexFunc_api_Place at h
 refine kRs 15 [] [] .n ?_
 refine kSq ?_
 refine kRs 15 [Tm 7 (iv (s.length : Int)), Tm 8 (iv 0)] [.s (.t 7) [iv (s.length : Int)]] (.c (c_len (e := TPlace.en) (l := s)) .n) ?_
 refine kBk 0 ?_
 obtain ⟨o11, ho11, h⟩ := bd_inv h
 refine kUs (slices_IndexFunc_api_Place.lp3_ok fu s (s.length : Int) o0_v o1_v _ 0 _ ho11) ?_
 intro e_ τ_ hp_
 rcases o11 with o11 | o11
 ·obtain ⟨⟩ := o11
  obtain ⟨rfl, rfl⟩ := hp_
  refine kCd (cR (cR bd22)) [] ?_
  refine kRs 3 [Tm 4 (iv (-1))] [] .n ?_
  refine kRt ?_
  have h_ := some_inj h
  subst h_
  exact kFr
 ·obtain ⟨y11_0, rfl⟩ : ∃ y, y = o11 := ⟨_, rfl⟩
  obtain ⟨rfl, rfl⟩ := hp_
  have h_ := some_inj h
  subst h_
  exact kFr
def bd11 : Code := (Try.f11.body).getD .skip
def merge_First.O : Nat → Nat := fun t => bif ([4, 5, 6] : List Nat).any (Nat.beq t) then 1 else 0
def merge_First (fu : Nat) (l : List TPlace) (session : Int) (seq : Int) : Option Int :=
 bd (slices_IndexFunc_api_Place fu l session seq) fun r2_1 =>
 some (w64 (1 + r2_1))
theorem merge_First.meets (fu : Nat) (l : List TPlace) (session : Int) (seq : Int) (z0 : Int) (h : merge_First fu l session seq = some z0) : Meets Try.prog ⟨11, [sS 6 TPlace.en l, iv session, iv seq], []⟩ ⟨iv z0, []⟩ := by
 refine kMt hmix merge_First.O Try.f11 bd11 7 ?_
 unfold merge_First at h
 refine kRs 1 [Tm 4 (.ptr 4 0), Tm 5 (.ptr 5 0), Ob 4 [iv session], Ob 5 [iv seq]] [] .n ?_
 obtain ⟨r2_1, h2_2, h⟩ := bd_inv h
 refine kRs 0 [Tm 6 (iv (w64 (1 + r2_1)))] [.a ⟨iv r2_1, [[iv session], [iv seq]]⟩] (.c (Asks.of (C := Meets Try.prog) (slices_IndexFunc_api_Place.meets fu l session seq _ h2_2)) .n) ?_
 refine kRt ?_
 have h_ := some_inj h
 subst h_
 exact kFr
/-- diwan/diwanlaw14.begun, in memory by hand. -/
def diwanlaw14_begun : Option Bool := some true
def diwanlaw14_begun.L1 := ([[TEntry.mk 1 false (TTxn.mk 1 1 [] [])], [TEntry.mk 1 false (TTxn.mk 2 1 [] []), TEntry.mk 1 true (TTxn.mk 0 0 [] [])]] : List (List TEntry))
def diwanlaw14_begun.L2 := ([[TEntry.mk 1 false (TTxn.mk 1 1 [] []), TEntry.mk 1 true (TTxn.mk 0 0 [] [])], [TEntry.mk 1 false (TTxn.mk 2 1 [] []), TEntry.mk 1 true (TTxn.mk 0 0 [] [])]] : List (List TEntry))
def diwanlaw14_begun.P1 := ([TPlace.mk 0 1 (TTxn.mk 1 1 [] [])] : List TPlace)
def diwanlaw14_begun.P2 := ([TPlace.mk 0 1 (TTxn.mk 1 1 [] []), TPlace.mk 1 1 (TTxn.mk 2 1 [] [])] : List TPlace)
theorem diwanlaw14_begun.nt (f : FuncId) (k : Nat) (fn0 : Func) (h0 : Try.prog.funcs[f]? = some fn0) (hk : decide (k ≤ fn0.ntmps) = true) (fn : Func) (h : Try.prog.funcs[f]? = some fn) : k ≤ fn.ntmps := by
 rw [h0] at h
 cases h
 exact of_decide_eq_true hk
theorem diwanlaw14_begun.meets (z0 : Bool) (h : diwanlaw14_begun = some z0) : Meets Try.prog ⟨7, [], []⟩ ⟨bv z0, []⟩ := by
 cases some_inj h
 refine closed_meets Try.func7 (by kernel_rfl) (by kernel_rfl) (fun w => Mg.begun_calls (fun w v => CRep (Kall w) v (.slc false none 6 (List.map TPlace.en diwanlaw14_begun.P2))) (fun w w2 v h hb => h.mono (Mg.kall_le hb)) (fun w v h => ?_) (fun w v h => ?_) (fun w v h => ?_) (fun w => ?_) (fun w v h => ?_) (fun w v h => ?_) w)
 · refine (raw_callsO (ds := [.slc false none 1 (List.map (e_l 6 TEntry.en) diwanlaw14_begun.L1)]) (vs := [v]) (merge_All.meets 100 diwanlaw14_begun.L1 diwanlaw14_begun.P1 (by kernel_rfl)) (diwanlaw14_begun.nt 9 1 _ Try.func9 (by kernel_rfl)) (.cons (show CRep (Kall w) v _ from Mg.logs_rep h) .nil)).mono ?_
   rintro e w2 ⟨v2, rfl, hr2, hB⟩
   obtain ⟨b, off, c, rfl, hc⟩ := Mg.row_cells (fun b o u h => Mg.of_kall h) (by simp [diwanlaw14_begun.P1]) hr2
   obtain ⟨u, g1, g2⟩ := hc 0 1 _ (.val (.int .i64 1)) rfl rfl
   cases crep_val g2
   exact ⟨b, off, c, rfl, by simpa using g1, hB⟩
 · refine (raw_callsO (ds := [.slc false none 1 (List.map (e_l 6 TEntry.en) diwanlaw14_begun.L2)]) (vs := [v]) (merge_All.meets 100 diwanlaw14_begun.L2 diwanlaw14_begun.P2 (by kernel_rfl)) (diwanlaw14_begun.nt 9 1 _ Try.func9 (by kernel_rfl)) (.cons (show CRep (Kall w) v _ from Mg.logs_rep h) .nil)).mono ?_
   rintro e w2 ⟨v2, rfl, hr2, hB⟩
   obtain ⟨b, off, c, rfl, hc⟩ := Mg.row_cells (fun b o u h => Mg.of_kall h) (by simp [diwanlaw14_begun.P2]) hr2
   obtain ⟨u, g1, g2⟩ := hc 1 0 _ (.val (.int .i64 1)) rfl rfl
   cases crep_val g2
   exact ⟨b, off, c, rfl, by simpa using g1, hr2, hB⟩
 · refine (raw_calls (ds := [.slc false none 1 (List.map (e_l 6 TEntry.en) diwanlaw14_begun.L2)]) (vs := [v]) (merge_Head.meets 100 diwanlaw14_begun.L2 0 (by kernel_rfl)) (diwanlaw14_begun.nt 13 1 _ Try.func13 (by kernel_rfl)) (.cons (show CRep (Kall w) v _ from Mg.logs_rep h) .nil) rfl).mono ?_
   rintro e w2 ⟨v2, K2, rfl, hr, hK, hB⟩
   cases crep_val hr
   exact ⟨rfl, hB⟩
 · refine (raw_calls (ds := [.slc false none 1 (List.map (e_l 6 TEntry.en) [])]) (vs := [.slice none 0 0]) (merge_Head.meets 100 [] (-1) (by kernel_rfl)) (diwanlaw14_begun.nt 13 1 _ Try.func13 (by kernel_rfl)) (.cons (show CRep (Kall w) _ _ from .nil (by simp)) .nil) rfl).mono ?_
   rintro e w2 ⟨v2, K2, rfl, hr, hK, hB⟩
   cases crep_val hr
   exact ⟨rfl, hB⟩
 · refine (raw_calls (ds := [.slc false none 6 (List.map TPlace.en diwanlaw14_begun.P2), .val (.int .i64 2), .val (.int .i64 1)]) (vs := [v, .int .i64 2, .int .i64 1]) (merge_First.meets 100 diwanlaw14_begun.P2 2 1 2 (by kernel_rfl)) (diwanlaw14_begun.nt 11 3 _ Try.func11 (by kernel_rfl)) (.cons h (.cons (show CRep (Kall w) _ _ from .val rfl) (.cons (show CRep (Kall w) _ _ from .val rfl) .nil))) rfl).mono ?_
   rintro e w2 ⟨v2, K2, rfl, hr, hK, hB⟩
   cases crep_val hr
   exact ⟨rfl, hB⟩
 · refine (raw_calls (ds := [.slc false none 6 (List.map TPlace.en diwanlaw14_begun.P2), .val (.int .i64 2), .val (.int .i64 2)]) (vs := [v, .int .i64 2, .int .i64 2]) (merge_First.meets 100 diwanlaw14_begun.P2 2 2 0 (by kernel_rfl)) (diwanlaw14_begun.nt 11 3 _ Try.func11 (by kernel_rfl)) (.cons h (.cons (show CRep (Kall w) _ _ from .val rfl) (.cons (show CRep (Kall w) _ _ from .val rfl) .nil))) rfl).mono ?_
   rintro e w2 ⟨v2, K2, rfl, hr, hK, hB⟩
   cases crep_val hr
   exact ⟨rfl, hB⟩
def bd15 : Code := (Try.f15.body).getD .skip
def diwanplay_Made.O : Nat → Nat := fun t => bif ([2, 4, 5] : List Nat).any (Nat.beq t) then 1 else 0
def diwanplay_Made (l : List Int) : Option TPicks :=
 some (TPicks.mk l 0)
theorem diwanplay_Made.meets (l : List Int) (z0 : TPicks) (h : diwanplay_Made l = some z0) : Meets Try.prog ⟨15, [sS 1 e_u8 l], []⟩ ⟨.ptr 1000 0, [[sS 1 e_u8 z0.l, iv z0.n]]⟩ := by
 refine kMt hmix diwanplay_Made.O Try.f15 bd15 1 ?_
 unfold diwanplay_Made at h
 refine kRs 1 [] [] .n ?_
 refine kRs 0 [Tm 2 (.ptr 5 0), Ob 5 [sS 1 e_u8 l, iv 0]] [] .n ?_
 refine kRt ?_
 have h_ := some_inj h
 subst h_
 exact kFr
def bd16 : Code := (Try.f16.body).getD .skip
def diwanplay_Picks_Num.O : Nat → Nat := fun t => bif ([4, 19] : List Nat).any (Nat.beq t) then 1 else 0
def diwanplay_Picks_Num (m : Int) (o0_v : TPicks) : Option (Int × TPicks) :=
 br (decide (o0_v.n ≥ (o0_v.l.length : Int)))
  (some (0, o0_v))
  (ix o0_v.l (w64 ((w64 (o0_v.n + 1)) - 1)) fun x6_1 =>
  gd (!decide (m = 0)) <|
  some ((Int.tmod (w64 x6_1) m), (TPicks.mk o0_v.l (w64 (o0_v.n + 1)))))
theorem diwanplay_Picks_Num.meets (m : Int) (o0_v : TPicks) (z0 : Int) (z1 : TPicks) (h : diwanplay_Picks_Num m o0_v = some (z0, z1)) : Meets Try.prog ⟨16, [.ptr 1000 0, iv m], [[sS 1 e_u8 o0_v.l, iv o0_v.n]]⟩ ⟨iv z0, [[sS 1 e_u8 z1.l, iv z1.n]]⟩ := by
 refine kMt hmix diwanplay_Picks_Num.O Try.f16 bd16 7 ?_
 unfold diwanplay_Picks_Num at h
 refine kRs 7 [] [] .n ?_
 refine kSq ?_
 refine kRs 7 [Tm 14 (bv (decide (o0_v.n ≥ (o0_v.l.length : Int))))] [.s (.t 13) [iv (o0_v.l.length : Int)]] (.c (c_len (e := e_u8) (l := o0_v.l)) (.c rT .n)) ?_
 rcases br_inv h with ⟨b3_0, h⟩ | ⟨b3_0, h⟩
 ·refine kCt b3_0 ?_
  refine kRs 8 [Tm 4 (iv 0)] [] .n ?_
  refine kRt ?_
  have h_0 := some_inj h
  obtain ⟨g_1, h_1⟩ := Prod.mk.inj h_0
  subst g_1
  subst h_1
  exact kFr
 ·refine kCe b3_0 ?_
  refine kSk ?_
  refine kCd (cR (cR bd16)) [] ?_
  refine kRs 6 [Ob 1000 [sS 1 e_u8 o0_v.l, iv (w64 (o0_v.n + 1))]] [] .n ?_
  obtain ⟨x6_1, a6_2, e6_3, h⟩ := ix_inv h
  obtain ⟨c6_4, h⟩ := gd_inv h
  refine kRs 1 [Tm 4 (iv (Int.tmod (w64 x6_1) m))] [.c (e_u8 x6_1)] (.c (c_ix (e := e_u8) a6_2 e6_3) (.c (c_el (e := e_u8) e6_3) (.c c6_4 (.c rT .n)))) ?_
  refine kRt ?_
  have h_0 := some_inj h
  obtain ⟨g_1, h_1⟩ := Prod.mk.inj h_0
  subst g_1
  subst h_1
  exact kFr
def bd37 : Code := (Try.f37.body).getD .skip
def diwanplay_keys.O : Nat → Nat := fun t => bif ([0, 1] : List Nat).any (Nat.beq t) then 1 else 0
def diwanplay_keys : Option Unit :=
 some ()
theorem diwanplay_keys.meets (h : diwanplay_keys = some ()) : Meets Try.prog ⟨37, [], []⟩ ⟨.data (.slc true (some false) 1 (List.map e_s ([(⟨#[97]⟩ : ByteArray), (⟨#[98]⟩ : ByteArray), (⟨#[99]⟩ : ByteArray), (⟨#[100]⟩ : ByteArray), (⟨#[101, 101]⟩ : ByteArray), (⟨#[102, 102]⟩ : ByteArray)] : List ByteArray))), []⟩ := by
 refine kMt hmix diwanplay_keys.O Try.f37 bd37 0 ?_
 unfold diwanplay_keys at h
 refine kRs 0 [] [] .n ?_
 refine kRs 0 [Tm 0 (.data (.slc true (some false) 1 (List.map e_s ([(⟨#[97]⟩ : ByteArray), (⟨#[98]⟩ : ByteArray), (⟨#[99]⟩ : ByteArray), (⟨#[100]⟩ : ByteArray), (⟨#[101, 101]⟩ : ByteArray), (⟨#[102, 102]⟩ : ByteArray)] : List ByteArray))))] [] .n ?_
 refine kRt ?_
 cases some_inj h
 exact kFr
def bd32 : Code := (Try.f32.body).getD .skip
def diwanplay_Picks_Keys.O : Nat → Nat := fun t => bif ([4, 5, 6, 7, 8, 32] : List Nat).any (Nat.beq t) then 1 else 0
def diwanplay_Picks_Keys.lp6 (fu : Nat) (l6_0 : Int) (l6_3 : List ByteArray) (l6_5 : TPicks) : Nat → (List ByteArray) → Int → Int → Option (List ByteArray)
  | 0, _, _, _ => none
  | n_ + 1, l6_1, l6_2, l6_4 =>
  br (decide (l6_4 < (l6_3.length : Int)))
   (br (decide ((l6_1.length : Int) < l6_0))
    (br ((Int.tmod l6_2 2) == 1)
     (ix l6_3 l6_4 fun x11_1 =>
     gd (decide (l6_1.length + ([x11_1] : List ByteArray).length ≤ 4294967296)) <|
     diwanplay_Picks_Keys.lp6 fu l6_0 l6_3 l6_5 n_ (l6_1 ++ ([x11_1] : List ByteArray)) (w64 (Int.tdiv l6_2 2)) (w64 (l6_4 + 1)))
     (diwanplay_Picks_Keys.lp6 fu l6_0 l6_3 l6_5 n_ l6_1 (w64 (Int.tdiv l6_2 2)) (w64 (l6_4 + 1))))
    (some l6_1))
   (some l6_1)
def diwanplay_Picks_Keys.lp6_post (l6_0 : Int) (l6_3 : List ByteArray) (l6_5 : TPicks) (r_ : (List ByteArray)) : Wy → St → Prop := fun e τ => match r_ with
  | y0 => e = .exit 0 ∧ τ = ofL [Tm 5 (sO 1 e_s y0), Ob 1000 [sS 1 e_u8 l6_5.l, iv l6_5.n]]
theorem diwanplay_Picks_Keys.lp6_ok (fu : Nat) (l6_0 : Int) (l6_3 : List ByteArray) (l6_5 : TPicks) : ∀ (n_ : Nat) (l6_1 : List ByteArray) (l6_2 : Int) (l6_4 : Int) (r_ : (List ByteArray)), diwanplay_Picks_Keys.lp6 fu l6_0 l6_3 l6_5 n_ l6_1 l6_2 l6_4 = some r_ → WK Try.prog diwanplay_Picks_Keys.O (Ck Try.prog) (cB (cR (cL (cR (cR (cR (cR bd32))))))) [] (ofL [Tm 1 (iv l6_0), Tm 5 (sO 1 e_s l6_1), Tm 6 (iv l6_2), Tm 7 (.data (.slc true (some false) 1 (List.map e_s l6_3))), Tm 8 (iv l6_4), Ob 1000 [sS 1 e_u8 l6_5.l, iv l6_5.n]]) (diwanplay_Picks_Keys.lp6_post l6_0 l6_3 l6_5 r_) := by
 intro n_
 induction n_ with
 | zero => intro l6_1 l6_2 l6_4 r_ h; exact no_none h
 | succ n_ ih =>
  intro l6_1 l6_2 l6_4 r_ h
  refine kLp ?_
  refine kSq ?_
  rcases br_inv h with ⟨b7_1, h⟩ | ⟨b7_1, h⟩
  ·refine kRs 63 [Tm 21 (bv (decide ((l6_1.length : Int) < l6_0)))] [.s (.t 14) [iv (l6_3.length : Int)], .b true, .b true, .s (.t 18) [iv (l6_1.length : Int)], .b true, .b true, .b true] (.c (c_len (e := e_s) (l := l6_3)) (.r 2 b7_1 (.c (c_len (e := e_s) (l := l6_1)) (.r 3 b7_1 .n)))) ?_
   rcases br_inv h with ⟨b8_0, h⟩ | ⟨b8_0, h⟩
   ·refine kCt b8_0 ?_
    refine kSk ?_
    refine kCd (cR (cB (cB (cR (cL (cR (cR (cR (cR bd32))))))))) [.lp (cB (cR (cL (cR (cR (cR (cR bd32)))))))] ?_
    refine kSq ?_
    refine kBk 1 ?_
    refine kSq ?_
    refine kRs 126 [Tm 26 (bv ((Int.tmod l6_2 2) == 1))] [] (.c rT .n) ?_
    rcases br_inv h with ⟨b10_0, h⟩ | ⟨b10_0, h⟩
    ·refine kCt b10_0 ?_
     obtain ⟨x11_1, a11_2, e11_3, h⟩ := ix_inv h
     obtain ⟨c11_4, h⟩ := gd_inv h
     refine kRc 122 [Tm 5 (sO 1 e_s (l6_1 ++ ([x11_1] : List ByteArray)))] [.c (e_s x11_1), .s (.t 33) [sO 1 e_s (l6_1 ++ ([x11_1] : List ByteArray))]] (.c (c_ix (e := e_s) a11_2 e11_3) (.c (c_el (e := e_s) e11_3) (.c (c_al (e := e_s) (f := e_s) c11_4) (.c (congrArg (fun d : DV => [AV.data d]) (c_app (e := e_s) (s := 1) (l := l6_1) (m := ([x11_1] : List ByteArray)))) .n)))) (cR (cB (cL (cR (cB (cB (cR (cL (cR (cR (cR (cR bd32)))))))))))) [.blk 1, .seq (cR (cR (cB (cB (cR (cL (cR (cR (cR (cR bd32)))))))))), .lp (cB (cR (cL (cR (cR (cR (cR bd32)))))))] ?_
     refine kRc 59 [Tm 6 (iv (w64 (Int.tdiv l6_2 2)))] [] (.c rT .n) (cR (cR (cB (cB (cR (cL (cR (cR (cR (cR bd32)))))))))) [.lp (cB (cR (cL (cR (cR (cR (cR bd32)))))))] ?_
     refine kRc 47 [Tm 8 (iv (w64 (l6_4 + 1)))] [] .n (cB (cR (cL (cR (cR (cR (cR bd32))))))) [] ?_
     exact kWk (ih (l6_1 ++ ([x11_1] : List ByteArray)) (w64 (Int.tdiv l6_2 2)) (w64 (l6_4 + 1)) _ h)
    ·refine kCe b10_0 ?_
     refine kSk ?_
     refine kCd (cR (cB (cL (cR (cB (cB (cR (cL (cR (cR (cR (cR bd32)))))))))))) [.blk 1, .seq (cR (cR (cB (cB (cR (cL (cR (cR (cR (cR bd32)))))))))), .lp (cB (cR (cL (cR (cR (cR (cR bd32)))))))] ?_
     refine kRc 118 [Tm 6 (iv (w64 (Int.tdiv l6_2 2)))] [] (.c rT .n) (cR (cR (cB (cB (cR (cL (cR (cR (cR (cR bd32)))))))))) [.lp (cB (cR (cL (cR (cR (cR (cR bd32)))))))] ?_
     refine kRc 47 [Tm 8 (iv (w64 (l6_4 + 1)))] [] .n (cB (cR (cL (cR (cR (cR (cR bd32))))))) [] ?_
     exact kWk (ih l6_1 (w64 (Int.tdiv l6_2 2)) (w64 (l6_4 + 1)) _ h)
   ·refine kCe b8_0 ?_
    cases some_inj h
    refine kWo ?_
    refine kXt 0 ?_
    exact kOut
  ·refine kRs 63 [Tm 21 (bv false)] (.s (.t 14) [iv (l6_3.length : Int)] :: (rp 5 (.b false) [])) (.c (c_len (e := e_s) (l := l6_3)) (.r 5 b7_1 .n)) ?_
   refine kCe rF ?_
   cases some_inj h
   refine kWo ?_
   refine kXt 0 ?_
   exact kOut
def diwanplay_Picks_Keys (fu : Nat) (most : Int) (o0_v : TPicks) : Option (List ByteArray × TPicks) :=
 bd (diwanplay_Picks_Num 64 o0_v) fun (r3_1, r3_2) =>
 bd (diwanplay_keys) fun _ =>
 bd (diwanplay_Picks_Keys.lp6 fu most ([(⟨#[97]⟩ : ByteArray), (⟨#[98]⟩ : ByteArray), (⟨#[99]⟩ : ByteArray), (⟨#[100]⟩ : ByteArray), (⟨#[101, 101]⟩ : ByteArray), (⟨#[102, 102]⟩ : ByteArray)] : List ByteArray) r3_2 fu [] r3_1 0) fun y16_0 =>
 some (y16_0, r3_2)
theorem diwanplay_Picks_Keys.meets (fu : Nat) (most : Int) (o0_v : TPicks) (z0 : List ByteArray) (z1 : TPicks) (h : diwanplay_Picks_Keys fu most o0_v = some (z0, z1)) : Meets Try.prog ⟨32, [.ptr 1000 0, iv most], [[sS 1 e_u8 o0_v.l, iv o0_v.n]]⟩ ⟨sO 1 e_s z0, [[sS 1 e_u8 z1.l, iv z1.n]]⟩ := by
 refine kMt hmix diwanplay_Picks_Keys.O Try.f32 bd32 7 ?_
 unfold diwanplay_Picks_Keys at h
 refine kRs 7 [] [] .n ?_
 refine kRs 7 [Tm 5 (.data (.slc true (some true) 1 (List.map e_s [])))] [] .n ?_
 obtain ⟨⟨r3_1, r3_2⟩, h3_3, h⟩ := bd_inv h
 refine kRs 5 [Tm 6 (iv r3_1), Ob 1000 [sS 1 e_u8 r3_2.l, iv r3_2.n]] [.a ⟨iv r3_1, [[sS 1 e_u8 r3_2.l, iv r3_2.n]]⟩] (.c (Asks.of (C := Meets Try.prog) (diwanplay_Picks_Num.meets 64 o0_v _ _ h3_3)) .n) ?_
 obtain ⟨_, h4_1, h⟩ := bd_inv h
 refine kRs 15 [Tm 7 (.data (.slc true (some false) 1 (List.map e_s ([(⟨#[97]⟩ : ByteArray), (⟨#[98]⟩ : ByteArray), (⟨#[99]⟩ : ByteArray), (⟨#[100]⟩ : ByteArray), (⟨#[101, 101]⟩ : ByteArray), (⟨#[102, 102]⟩ : ByteArray)] : List ByteArray))))] [.a ⟨.data (.slc true (some false) 1 (List.map e_s ([(⟨#[97]⟩ : ByteArray), (⟨#[98]⟩ : ByteArray), (⟨#[99]⟩ : ByteArray), (⟨#[100]⟩ : ByteArray), (⟨#[101, 101]⟩ : ByteArray), (⟨#[102, 102]⟩ : ByteArray)] : List ByteArray))), []⟩] (.c (Asks.of (C := Meets Try.prog) (diwanplay_keys.meets  h4_1)) .n) ?_
 refine kSq ?_
 refine kRs 31 [Tm 8 (iv 0)] [] .n ?_
 refine kBk 0 ?_
 obtain ⟨o16, ho16, h⟩ := bd_inv h
 refine kUs (diwanplay_Picks_Keys.lp6_ok fu most ([(⟨#[97]⟩ : ByteArray), (⟨#[98]⟩ : ByteArray), (⟨#[99]⟩ : ByteArray), (⟨#[100]⟩ : ByteArray), (⟨#[101, 101]⟩ : ByteArray), (⟨#[102, 102]⟩ : ByteArray)] : List ByteArray) r3_2 _ [] r3_1 0 _ ho16) ?_
 intro e_ τ_ hp_
 obtain ⟨y16_0, rfl⟩ : ∃ y, y = o16 := ⟨_, rfl⟩
 obtain ⟨rfl, rfl⟩ := hp_
 refine kCd (cR (cR (cR (cR (cR bd32))))) [] ?_
 refine kRs 2 [Tm 4 (sO 1 e_s y16_0)] [] .n ?_
 refine kRt ?_
 have h_0 := some_inj h
 obtain ⟨g_1, h_1⟩ := Prod.mk.inj h_0
 subst g_1
 subst h_1
 exact kFr
def bd33 : Code := (Try.f33.body).getD .skip
def diwanplay_Picks_Val.O : Nat → Nat := fun t => bif ([2, 3] : List Nat).any (Nat.beq t) then 1 else 0
def diwanplay_Picks_Val (o0_v : TPicks) : Option (ByteArray × TPicks) :=
 bd (diwanplay_Picks_Num 5 o0_v) fun (r2_1, r2_2) =>
 ix ([ByteArray.empty, (⟨#[118]⟩ : ByteArray), (⟨#[119]⟩ : ByteArray), (⟨#[120, 120]⟩ : ByteArray), (⟨#[115, 105, 120, 116, 101, 101, 110, 45, 98, 121, 116, 101, 115, 45, 111, 107]⟩ : ByteArray)] : List ByteArray) r2_1 fun x2_4 =>
 some (x2_4, r2_2)
theorem diwanplay_Picks_Val.meets (o0_v : TPicks) (z0 : ByteArray) (z1 : TPicks) (h : diwanplay_Picks_Val o0_v = some (z0, z1)) : Meets Try.prog ⟨33, [.ptr 1000 0], [[sS 1 e_u8 o0_v.l, iv o0_v.n]]⟩ ⟨sv z0, [[sS 1 e_u8 z1.l, iv z1.n]]⟩ := by
 refine kMt hmix diwanplay_Picks_Val.O Try.f33 bd33 3 ?_
 unfold diwanplay_Picks_Val at h
 refine kRs 3 [] [] .n ?_
 obtain ⟨⟨r2_1, r2_2⟩, h2_3, h⟩ := bd_inv h
 obtain ⟨x2_4, a2_5, e2_6, h⟩ := ix_inv h
 refine kRs 0 [Tm 2 (sv x2_4), Ob 1000 [sS 1 e_u8 r2_2.l, iv r2_2.n]] [.a ⟨iv r2_1, [[sS 1 e_u8 r2_2.l, iv r2_2.n]]⟩, .c (e_s x2_4)] (.c (Asks.of (C := Meets Try.prog) (diwanplay_Picks_Num.meets 5 o0_v _ _ h2_3)) (.c (c_ix (e := e_s) a2_5 e2_6) (.c (c_el (e := e_s) e2_6) .n))) ?_
 refine kRt ?_
 have h_0 := some_inj h
 obtain ⟨g_1, h_1⟩ := Prod.mk.inj h_0
 subst g_1
 subst h_1
 exact kFr
def bd25 : Code := (Try.f25.body).getD .skip
def diwanplay_Picks_Txn.O : Nat → Nat := fun t => bif ([4, 5, 6, 7, 8, 9, 10, 11, 18, 35, 45, 51, 52, 68, 77, 78, 80] : List Nat).any (Nat.beq t) then 1 else 0
def diwanplay_Picks_Txn.lp5 (fu : Nat) (l5_0 : Int) (l5_1 : List ByteArray) (l5_3 : TTxn) : Nat → Int → TTxn → TPicks → Option (TTxn × TPicks)
  | 0, _, _, _ => none
  | n_ + 1, l5_2, l5_4, l5_5 =>
  br (decide (l5_2 < (l5_1.length : Int)))
   (ix l5_1 l5_2 fun x8_1 =>
   bd (diwanplay_Picks_Num (if l5_0 < 1 then 1 else l5_0) l5_5) fun (r8_4, r8_5) =>
   jn (fun (j12_5 : TRead) (j12_6 : TPicks) =>
    gd (decide (l5_4.Reads.length + ([j12_5] : List TRead).length ≤ 4294967296)) <|
    diwanplay_Picks_Txn.lp5 fu l5_0 l5_1 l5_3 n_ (w64 (l5_2 + 1)) (TTxn.mk l5_4.Session l5_4.Seq (l5_4.Reads ++ ([j12_5] : List TRead)) l5_4.Writes) j12_6) fun k12 =>
   br (decide (r8_4 > 0))
    (bd (diwanplay_Picks_Num 4 r8_5) fun (r9_2, r9_3) =>
    br (decide (r9_2 > 0))
     (bd (diwanplay_Picks_Val r9_3) fun (r11_1, r11_2) =>
     k12 (TRead.mk x8_1 r8_4 r11_1 true) r11_2)
     (k12 (TRead.mk x8_1 r8_4 ByteArray.empty false) r9_3))
    (k12 (TRead.mk x8_1 r8_4 ByteArray.empty false) r8_5))
   (some (l5_4, l5_5))
def diwanplay_Picks_Txn.lp5_post (l5_0 : Int) (l5_1 : List ByteArray) (l5_3 : TTxn) (r_ : (TTxn × TPicks)) : Wy → St → Prop := fun e τ => match r_ with
  | (y0, y1) => e = .exit 0 ∧ τ = ofL [Tm 0 (.ptr 1000 0), Tm 4 (.ptr 4 0), Tm 5 (.ptr 5 0), Ob 4 (TTxn.ob_0011 l5_3), Ob 5 (TTxn.ob_0011 y0), Ob 1000 [sS 1 e_u8 y1.l, iv y1.n]]
theorem diwanplay_Picks_Txn.lp5_ok (fu : Nat) (l5_0 : Int) (l5_1 : List ByteArray) (l5_3 : TTxn) : ∀ (n_ : Nat) (l5_2 : Int) (l5_4 : TTxn) (l5_5 : TPicks) (r_ : (TTxn × TPicks)), diwanplay_Picks_Txn.lp5 fu l5_0 l5_1 l5_3 n_ l5_2 l5_4 l5_5 = some r_ → WK Try.prog diwanplay_Picks_Txn.O (Ck Try.prog) (cB (cR (cL (cR (cR (cR bd25)))))) [] (ofL [Tm 0 (.ptr 1000 0), Tm 1 (iv l5_0), Tm 4 (.ptr 4 0), Tm 5 (.ptr 5 0), Tm 6 (sO 1 e_s l5_1), Tm 7 (iv l5_2), Ob 4 (TTxn.ob_0011 l5_3), Ob 5 (TTxn.ob_0011 l5_4), Ob 1000 [sS 1 e_u8 l5_5.l, iv l5_5.n]]) (diwanplay_Picks_Txn.lp5_post l5_0 l5_1 l5_3 r_) := by
 intro n_
 induction n_ with
 | zero => intro l5_2 l5_4 l5_5 r_ h; exact no_none h
 | succ n_ ih =>
  intro l5_2 l5_4 l5_5 r_ h
  refine kLp ?_
  refine kSq ?_
  refine kRs 511 [Tm 24 (bv (decide (l5_2 < (l5_1.length : Int))))] [.s (.t 23) [iv (l5_1.length : Int)]] (.c (c_len (e := e_s) (l := l5_1)) .n) ?_
  rcases br_inv h with ⟨b7_0, h⟩ | ⟨b7_0, h⟩
  ·refine kCt b7_0 ?_
   refine kSk ?_
   refine kCd (cR (cB (cB (cR (cL (cR (cR (cR bd25)))))))) [.lp (cB (cR (cL (cR (cR (cR bd25))))))] ?_
   refine kSq ?_
   refine kBk 1 ?_
   obtain ⟨x8_1, a8_2, e8_3, h⟩ := ix_inv h
   obtain ⟨⟨r8_4, r8_5⟩, h8_6, h⟩ := bd_inv h
   refine kRs 510 [Tm 8 (.ptr 8 0), Ob 8 (TRead.ob (TRead.mk x8_1 r8_4 ByteArray.empty false)), Ob 1000 [sS 1 e_u8 r8_5.l, iv r8_5.n]] [.c (e_s x8_1), .a ⟨iv r8_4, [[sS 1 e_u8 r8_5.l, iv r8_5.n]]⟩] (.c (c_ix (e := e_s) a8_2 e8_3) (.c (c_el (e := e_s) e8_3) (.c (Asks.of (C := Meets Try.prog) (diwanplay_Picks_Num.meets (if l5_0 < 1 then 1 else l5_0) l5_5 _ _ h8_6)) (.c rT .n)))) ?_
   obtain ⟨k12, hk12, h⟩ := jn_inv h
   have Jk12 : ∀ (j12_5 : TRead) (j12_6 : TPicks), k12 j12_5 j12_6 = some r_ → WK Try.prog diwanplay_Picks_Txn.O (Ck Try.prog) (cR (cR (cB (cL (cR (cB (cB (cR (cL (cR (cR (cR bd25)))))))))))) [.blk 1, .seq (cR (cR (cB (cB (cR (cL (cR (cR (cR bd25))))))))), .lp (cB (cR (cL (cR (cR (cR bd25))))))] (ofL [Tm 0 (.ptr 1000 0), Tm 1 (iv l5_0), Tm 4 (.ptr 4 0), Tm 5 (.ptr 5 0), Tm 6 (sO 1 e_s l5_1), Tm 7 (iv l5_2), Tm 8 (.ptr 8 0), Ob 4 (TTxn.ob_0011 l5_3), Ob 5 (TTxn.ob_0011 l5_4), Ob 8 (TRead.ob j12_5), Ob 1000 [sS 1 e_u8 j12_6.l, iv j12_6.n]]) (diwanplay_Picks_Txn.lp5_post l5_0 l5_1 l5_3 r_) := by
    intro j12_5 j12_6 h
    rw [hk12] at h
    obtain ⟨c13_1, h⟩ := gd_inv h
    refine kRc 1215 [Ob 5 (TTxn.ob_0011 (TTxn.mk l5_4.Session l5_4.Seq (l5_4.Reads ++ ([j12_5] : List TRead)) l5_4.Writes))] [.s (.t 52) [sO 4 TRead.en (l5_4.Reads ++ ([j12_5] : List TRead))]] (.c (c_al (e := TRead.en) (f := TRead.en) c13_1) (.c (congrArg (fun d : DV => [AV.data d]) (c_app (e := TRead.en) (s := 4) (l := l5_4.Reads) (m := ([j12_5] : List TRead)))) .n)) (cR (cR (cB (cB (cR (cL (cR (cR (cR bd25))))))))) [.lp (cB (cR (cL (cR (cR (cR bd25))))))] ?_
    refine kRc 447 [Tm 7 (iv (w64 (l5_2 + 1)))] [] .n (cB (cR (cL (cR (cR (cR bd25)))))) [] ?_
    exact kWk (ih (w64 (l5_2 + 1)) (TTxn.mk l5_4.Session l5_4.Seq (l5_4.Reads ++ ([j12_5] : List TRead)) l5_4.Writes) j12_6 _ h)
   clear hk12
   refine kSq ?_
   rcases br_inv h with ⟨b9_1, h⟩ | ⟨b9_1, h⟩
   ·obtain ⟨⟨r9_2, r9_3⟩, h9_4, h⟩ := bd_inv h
    refine kRs 2043 [Tm 43 (bv (decide (r9_2 > 0))), Ob 1000 [sS 1 e_u8 r9_3.l, iv r9_3.n]] [.b true, .b true, .a ⟨iv r9_2, [[sS 1 e_u8 r9_3.l, iv r9_3.n]]⟩, .b true, .b true] (.r 2 b9_1 (.c (Asks.of (C := Meets Try.prog) (diwanplay_Picks_Num.meets 4 r8_5 _ _ h9_4)) (.r 2 b9_1 .n))) ?_
    rcases br_inv h with ⟨b10_0, h⟩ | ⟨b10_0, h⟩
    ·refine kCt b10_0 ?_
     obtain ⟨⟨r11_1, r11_2⟩, h11_3, h⟩ := bd_inv h
     refine kRc 4084 [Ob 8 (TRead.ob (TRead.mk x8_1 r8_4 r11_1 true)), Ob 1000 [sS 1 e_u8 r11_2.l, iv r11_2.n]] [.a ⟨sv r11_1, [[sS 1 e_u8 r11_2.l, iv r11_2.n]]⟩] (.c (Asks.of (C := Meets Try.prog) (diwanplay_Picks_Val.meets r9_3 _ _ h11_3)) .n) (cR (cR (cB (cL (cR (cB (cB (cR (cL (cR (cR (cR bd25)))))))))))) [.blk 1, .seq (cR (cR (cB (cB (cR (cL (cR (cR (cR bd25))))))))), .lp (cB (cR (cL (cR (cR (cR bd25))))))] ?_
     exact kWk (Jk12 (TRead.mk x8_1 r8_4 r11_1 true) r11_2 h)
    ·refine kCe b10_0 ?_
     refine kSk ?_
     refine kCd (cR (cR (cB (cL (cR (cB (cB (cR (cL (cR (cR (cR bd25)))))))))))) [.blk 1, .seq (cR (cR (cB (cB (cR (cL (cR (cR (cR bd25))))))))), .lp (cB (cR (cL (cR (cR (cR bd25))))))] ?_
     exact kWk (Jk12 (TRead.mk x8_1 r8_4 ByteArray.empty false) r9_3 h)
   ·refine kRs 2047 [Tm 43 (bv false)] (rp 4 (.b false) []) (.r 4 b9_1 .n) ?_
    refine kCe rF ?_
    refine kSk ?_
    refine kCd (cR (cR (cB (cL (cR (cB (cB (cR (cL (cR (cR (cR bd25)))))))))))) [.blk 1, .seq (cR (cR (cB (cB (cR (cL (cR (cR (cR bd25))))))))), .lp (cB (cR (cL (cR (cR (cR bd25))))))] ?_
    exact kWk (Jk12 (TRead.mk x8_1 r8_4 ByteArray.empty false) r8_5 h)
  ·refine kCe b7_0 ?_
   cases some_inj h
   refine kWo ?_
   refine kXt 0 ?_
   exact kOut
def diwanplay_Picks_Txn.lp18 (fu : Nat) (l18_0 : List ByteArray) (l18_2 : TTxn) : Nat → Int → TTxn → TPicks → Option (TTxn × TPicks)
  | 0, _, _, _ => none
  | n_ + 1, l18_1, l18_3, l18_4 =>
  br (decide (l18_1 < (l18_0.length : Int)))
   (ix l18_0 l18_1 fun x21_1 =>
   bd (diwanplay_Picks_Val l18_4) fun (r21_4, r21_5) =>
   jn (fun (j25_4 : TWrite) (j25_5 : TPicks) =>
    gd (decide (l18_3.Writes.length + ([j25_4] : List TWrite).length ≤ 4294967296)) <|
    diwanplay_Picks_Txn.lp18 fu l18_0 l18_2 n_ (w64 (l18_1 + 1)) (TTxn.mk l18_3.Session l18_3.Seq l18_3.Reads (l18_3.Writes ++ ([j25_4] : List TWrite))) j25_5) fun k25 =>
   bd (diwanplay_Picks_Num 4 r21_5) fun (r22_1, r22_2) =>
   br (r22_1 == 0)
    (k25 (TWrite.mk x21_1 ByteArray.empty true) r22_2)
    (k25 (TWrite.mk x21_1 r21_4 false) r22_2))
   (some (l18_3, l18_4))
def diwanplay_Picks_Txn.lp18_post (l18_0 : List ByteArray) (l18_2 : TTxn) (r_ : (TTxn × TPicks)) : Wy → St → Prop := fun e τ => match r_ with
  | (y0, y1) => e = .exit 2 ∧ τ = ofL [Tm 4 (.ptr 4 0), Tm 5 (.ptr 5 0), Ob 4 (TTxn.ob_0011 l18_2), Ob 5 (TTxn.ob_0011 y0), Ob 1000 [sS 1 e_u8 y1.l, iv y1.n]]
theorem diwanplay_Picks_Txn.lp18_ok (fu : Nat) (l18_0 : List ByteArray) (l18_2 : TTxn) : ∀ (n_ : Nat) (l18_1 : Int) (l18_3 : TTxn) (l18_4 : TPicks) (r_ : (TTxn × TPicks)), diwanplay_Picks_Txn.lp18 fu l18_0 l18_2 n_ l18_1 l18_3 l18_4 = some r_ → WK Try.prog diwanplay_Picks_Txn.O (Ck Try.prog) (cB (cR (cL (cR (cR (cR (cR (cR bd25)))))))) [] (ofL [Tm 0 (.ptr 1000 0), Tm 4 (.ptr 4 0), Tm 5 (.ptr 5 0), Tm 9 (sO 1 e_s l18_0), Tm 10 (iv l18_1), Ob 4 (TTxn.ob_0011 l18_2), Ob 5 (TTxn.ob_0011 l18_3), Ob 1000 [sS 1 e_u8 l18_4.l, iv l18_4.n]]) (diwanplay_Picks_Txn.lp18_post l18_0 l18_2 r_) := by
 intro n_
 induction n_ with
 | zero => intro l18_1 l18_3 l18_4 r_ h; exact no_none h
 | succ n_ ih =>
  intro l18_1 l18_3 l18_4 r_ h
  refine kLp ?_
  refine kSq ?_
  refine kRs 255 [Tm 59 (bv (decide (l18_1 < (l18_0.length : Int))))] [.s (.t 58) [iv (l18_0.length : Int)]] (.c (c_len (e := e_s) (l := l18_0)) .n) ?_
  rcases br_inv h with ⟨b20_0, h⟩ | ⟨b20_0, h⟩
  ·refine kCt b20_0 ?_
   refine kSk ?_
   refine kCd (cR (cB (cB (cR (cL (cR (cR (cR (cR (cR bd25)))))))))) [.lp (cB (cR (cL (cR (cR (cR (cR (cR bd25))))))))] ?_
   refine kSq ?_
   refine kBk 3 ?_
   obtain ⟨x21_1, a21_2, e21_3, h⟩ := ix_inv h
   obtain ⟨⟨r21_4, r21_5⟩, h21_6, h⟩ := bd_inv h
   refine kRs 254 [Tm 11 (.ptr 11 0), Ob 11 (TWrite.ob (TWrite.mk x21_1 r21_4 false)), Ob 1000 [sS 1 e_u8 r21_5.l, iv r21_5.n]] [.c (e_s x21_1), .a ⟨sv r21_4, [[sS 1 e_u8 r21_5.l, iv r21_5.n]]⟩] (.c (c_ix (e := e_s) a21_2 e21_3) (.c (c_el (e := e_s) e21_3) (.c (Asks.of (C := Meets Try.prog) (diwanplay_Picks_Val.meets l18_4 _ _ h21_6)) (.c rT .n)))) ?_
   obtain ⟨k25, hk25, h⟩ := jn_inv h
   have Jk25 : ∀ (j25_4 : TWrite) (j25_5 : TPicks), k25 j25_4 j25_5 = some r_ → WK Try.prog diwanplay_Picks_Txn.O (Ck Try.prog) (cR (cR (cB (cL (cR (cB (cB (cR (cL (cR (cR (cR (cR (cR bd25)))))))))))))) [.blk 3, .seq (cR (cR (cB (cB (cR (cL (cR (cR (cR (cR (cR bd25))))))))))), .lp (cB (cR (cL (cR (cR (cR (cR (cR bd25))))))))] (ofL [Tm 0 (.ptr 1000 0), Tm 4 (.ptr 4 0), Tm 5 (.ptr 5 0), Tm 9 (sO 1 e_s l18_0), Tm 10 (iv l18_1), Tm 11 (.ptr 11 0), Ob 4 (TTxn.ob_0011 l18_2), Ob 5 (TTxn.ob_0011 l18_3), Ob 11 (TWrite.ob j25_4), Ob 1000 [sS 1 e_u8 j25_5.l, iv j25_5.n]]) (diwanplay_Picks_Txn.lp18_post l18_0 l18_2 r_) := by
    intro j25_4 j25_5 h
    rw [hk25] at h
    obtain ⟨c26_1, h⟩ := gd_inv h
    refine kRc 607 [Ob 5 (TTxn.ob_0011 (TTxn.mk l18_3.Session l18_3.Seq l18_3.Reads (l18_3.Writes ++ ([j25_4] : List TWrite))))] [.s (.t 78) [sO 3 TWrite.en (l18_3.Writes ++ ([j25_4] : List TWrite))]] (.c (c_al (e := TWrite.en) (f := TWrite.en) c26_1) (.c (congrArg (fun d : DV => [AV.data d]) (c_app (e := TWrite.en) (s := 3) (l := l18_3.Writes) (m := ([j25_4] : List TWrite)))) .n)) (cR (cR (cB (cB (cR (cL (cR (cR (cR (cR (cR bd25))))))))))) [.lp (cB (cR (cL (cR (cR (cR (cR (cR bd25))))))))] ?_
    refine kRc 223 [Tm 10 (iv (w64 (l18_1 + 1)))] [] .n (cB (cR (cL (cR (cR (cR (cR (cR bd25)))))))) [] ?_
    exact kWk (ih (w64 (l18_1 + 1)) (TTxn.mk l18_3.Session l18_3.Seq l18_3.Reads (l18_3.Writes ++ ([j25_4] : List TWrite))) j25_5 _ h)
   clear hk25
   refine kSq ?_
   obtain ⟨⟨r22_1, r22_2⟩, h22_3, h⟩ := bd_inv h
   refine kRs 1019 [Tm 71 (bv (r22_1 == 0)), Ob 1000 [sS 1 e_u8 r22_2.l, iv r22_2.n]] [.a ⟨iv r22_1, [[sS 1 e_u8 r22_2.l, iv r22_2.n]]⟩] (.c (Asks.of (C := Meets Try.prog) (diwanplay_Picks_Num.meets 4 r21_5 _ _ h22_3)) .n) ?_
   rcases br_inv h with ⟨b23_0, h⟩ | ⟨b23_0, h⟩
   ·refine kCt b23_0 ?_
    refine kRc 2038 [Ob 11 (TWrite.ob (TWrite.mk x21_1 ByteArray.empty true))] [] .n (cR (cR (cB (cL (cR (cB (cB (cR (cL (cR (cR (cR (cR (cR bd25)))))))))))))) [.blk 3, .seq (cR (cR (cB (cB (cR (cL (cR (cR (cR (cR (cR bd25))))))))))), .lp (cB (cR (cL (cR (cR (cR (cR (cR bd25))))))))] ?_
    exact kWk (Jk25 (TWrite.mk x21_1 ByteArray.empty true) r22_2 h)
   ·refine kCe b23_0 ?_
    refine kSk ?_
    refine kCd (cR (cR (cB (cL (cR (cB (cB (cR (cL (cR (cR (cR (cR (cR bd25)))))))))))))) [.blk 3, .seq (cR (cR (cB (cB (cR (cL (cR (cR (cR (cR (cR bd25))))))))))), .lp (cB (cR (cL (cR (cR (cR (cR (cR bd25))))))))] ?_
    exact kWk (Jk25 (TWrite.mk x21_1 r21_4 false) r22_2 h)
  ·refine kCe b20_0 ?_
   cases some_inj h
   refine kWo ?_
   refine kXt 2 ?_
   exact kOut
def diwanplay_Picks_Txn (fu : Nat) (most : Int) (o0_v : TPicks) : Option (TTxn × TPicks) :=
 bd (diwanplay_Picks_Num 3 o0_v) fun (r2_1, r2_2) =>
 bd (diwanplay_Picks_Num 6 r2_2) fun (r2_4, r2_5) =>
 bd (diwanplay_Picks_Keys fu 3 r2_5) fun (r3_1, r3_2) =>
 bd (diwanplay_Picks_Txn.lp5 fu most r3_1 (TTxn.mk 0 0 [] []) fu 0 (TTxn.mk (w64 (1 + r2_1)) (w64 (1 + r2_4)) [] []) r3_2) fun (y15_0, y15_1) =>
 bd (diwanplay_Picks_Keys fu 3 y15_1) fun (r16_1, r16_2) =>
 bd (diwanplay_Picks_Txn.lp18 fu r16_1 (TTxn.mk 0 0 [] []) fu 0 y15_0 r16_2) fun (y28_0, y28_1) =>
 some (y28_0, y28_1)
theorem diwanplay_Picks_Txn.meets (fu : Nat) (most : Int) (o0_v : TPicks) (z0 : TTxn) (z1 : TPicks) (h : diwanplay_Picks_Txn fu most o0_v = some (z0, z1)) : Meets Try.prog ⟨25, [.ptr 1000 0, iv most], [[sS 1 e_u8 o0_v.l, iv o0_v.n]]⟩ ⟨.data (TTxn.ag_0011 z0), [[sS 1 e_u8 z1.l, iv z1.n]]⟩ := by
 refine kMt hmix diwanplay_Picks_Txn.O Try.f25 bd25 7 ?_
 unfold diwanplay_Picks_Txn at h
 refine kRs 7 [Tm 4 (.ptr 4 0), Ob 4 (TTxn.ob_0011 (TTxn.mk 0 0 [] []))] [] .n ?_
 obtain ⟨⟨r2_1, r2_2⟩, h2_3, h⟩ := bd_inv h
 obtain ⟨⟨r2_4, r2_5⟩, h2_6, h⟩ := bd_inv h
 refine kRs 15 [Tm 5 (.ptr 5 0), Ob 5 (TTxn.ob_0011 (TTxn.mk (w64 (1 + r2_1)) (w64 (1 + r2_4)) [] [])), Ob 1000 [sS 1 e_u8 r2_5.l, iv r2_5.n]] [.a ⟨iv r2_1, [[sS 1 e_u8 r2_2.l, iv r2_2.n]]⟩, .a ⟨iv r2_4, [[sS 1 e_u8 r2_5.l, iv r2_5.n]]⟩] (.c (Asks.of (C := Meets Try.prog) (diwanplay_Picks_Num.meets 3 o0_v _ _ h2_3)) (.c (Asks.of (C := Meets Try.prog) (diwanplay_Picks_Num.meets 6 r2_2 _ _ h2_6)) .n)) ?_
 obtain ⟨⟨r3_1, r3_2⟩, h3_3, h⟩ := bd_inv h
 refine kRs 123 [Tm 6 (sO 1 e_s r3_1), Ob 1000 [sS 1 e_u8 r3_2.l, iv r3_2.n]] [.a ⟨sO 1 e_s r3_1, [[sS 1 e_u8 r3_2.l, iv r3_2.n]]⟩] (.c (Asks.of (C := Meets Try.prog) (diwanplay_Picks_Keys.meets fu 3 r2_5 _ _ h3_3)) .n) ?_
 refine kSq ?_
 refine kRs 255 [Tm 7 (iv 0)] [] .n ?_
 refine kBk 0 ?_
 obtain ⟨o15, ho15, h⟩ := bd_inv h
 refine kUs (diwanplay_Picks_Txn.lp5_ok fu most r3_1 (TTxn.mk 0 0 [] []) _ 0 (TTxn.mk (w64 (1 + r2_1)) (w64 (1 + r2_4)) [] []) r3_2 _ ho15) ?_
 intro e_ τ_ hp_
 obtain ⟨y15_0, y15_1⟩ := o15
 obtain ⟨rfl, rfl⟩ := hp_
 refine kCd (cR (cR (cR (cR bd25)))) [] ?_
 obtain ⟨⟨r16_1, r16_2⟩, h16_3, h⟩ := bd_inv h
 refine kRs 31 [Tm 9 (sO 1 e_s r16_1), Ob 1000 [sS 1 e_u8 r16_2.l, iv r16_2.n]] [.a ⟨sO 1 e_s r16_1, [[sS 1 e_u8 r16_2.l, iv r16_2.n]]⟩] (.c (Asks.of (C := Meets Try.prog) (diwanplay_Picks_Keys.meets fu 3 y15_1 _ _ h16_3)) .n) ?_
 refine kSq ?_
 refine kRs 127 [Tm 10 (iv 0)] [] .n ?_
 refine kBk 2 ?_
 obtain ⟨o28, ho28, h⟩ := bd_inv h
 refine kUs (diwanplay_Picks_Txn.lp18_ok fu r16_1 (TTxn.mk 0 0 [] []) _ 0 y15_0 r16_2 _ ho28) ?_
 intro e_ τ_ hp_
 obtain ⟨y28_0, y28_1⟩ := o28
 obtain ⟨rfl, rfl⟩ := hp_
 refine kCd (cR (cR (cR (cR (cR (cR bd25)))))) [] ?_
 refine kRs 17 [Ob 4 (TTxn.ob_0011 y28_0)] [] .n ?_
 refine kRt ?_
 have h_0 := some_inj h
 obtain ⟨g_1, h_1⟩ := Prod.mk.inj h_0
 subst g_1
 subst h_1
 exact kFr
def bd17 : Code := (Try.f17.body).getD .skip
def diwanplay_Picks_Log.O : Nat → Nat := fun t => bif ([4, 5, 6, 7, 8, 23, 30, 34] : List Nat).any (Nat.beq t) then 1 else 0
def diwanplay_Picks_Log.lp5 (fu : Nat) (l5_0 : Int) : Nat → (List TEntry) → Int → Int → TPicks → Option (List TEntry × TPicks)
  | 0, _, _, _, _ => none
  | n_ + 1, l5_1, l5_2, l5_3, l5_4 =>
  br (decide (l5_3 < l5_0))
   (jn (fun (j11_2 : Int) (j11_4 : TPicks) =>
    bd (diwanplay_Picks_Num 3 j11_4) fun (r12_1, r12_2) =>
    br (!(r12_1 == 0))
     (bd (diwanplay_Picks_Txn fu (w64 (l5_3 + 1)) r12_2) fun (r15_1, r15_2) =>
     gd (decide (l5_1.length + ([(TEntry.mk j11_2 (r12_1 == 0) r15_1)] : List TEntry).length ≤ 4294967296)) <|
     diwanplay_Picks_Log.lp5 fu l5_0 n_ (l5_1 ++ ([(TEntry.mk j11_2 (r12_1 == 0) r15_1)] : List TEntry)) j11_2 (w64 (l5_3 + 1)) r15_2)
     (gd (decide (l5_1.length + ([(TEntry.mk j11_2 (r12_1 == 0) (TTxn.mk 0 0 [] []))] : List TEntry).length ≤ 4294967296)) <|
     diwanplay_Picks_Log.lp5 fu l5_0 n_ (l5_1 ++ ([(TEntry.mk j11_2 (r12_1 == 0) (TTxn.mk 0 0 [] []))] : List TEntry)) j11_2 (w64 (l5_3 + 1)) r12_2)) fun k11 =>
   bd (diwanplay_Picks_Num 4 l5_4) fun (r8_1, r8_2) =>
   br (r8_1 == 0)
    (k11 (w64 (l5_2 + 1)) r8_2)
    (k11 l5_2 r8_2))
   (some (l5_1, l5_4))
def diwanplay_Picks_Log.lp5_post (l5_0 : Int) (r_ : (List TEntry × TPicks)) : Wy → St → Prop := fun e τ => match r_ with
  | (y0, y1) => e = .exit 0 ∧ τ = ofL [Tm 5 (sO 6 TEntry.en y0), Ob 1000 [sS 1 e_u8 y1.l, iv y1.n]]
theorem diwanplay_Picks_Log.lp5_ok (fu : Nat) (l5_0 : Int) : ∀ (n_ : Nat) (l5_1 : List TEntry) (l5_2 : Int) (l5_3 : Int) (l5_4 : TPicks) (r_ : (List TEntry × TPicks)), diwanplay_Picks_Log.lp5 fu l5_0 n_ l5_1 l5_2 l5_3 l5_4 = some r_ → WK Try.prog diwanplay_Picks_Log.O (Ck Try.prog) (cB (cR (cL (cR (cR (cR bd17)))))) [] (ofL [Tm 0 (.ptr 1000 0), Tm 1 (iv l5_0), Tm 5 (sO 6 TEntry.en l5_1), Tm 6 (iv l5_2), Tm 7 (iv l5_3), Ob 1000 [sS 1 e_u8 l5_4.l, iv l5_4.n]]) (diwanplay_Picks_Log.lp5_post l5_0 r_) := by
 intro n_
 induction n_ with
 | zero => intro l5_1 l5_2 l5_3 l5_4 r_ h; exact no_none h
 | succ n_ ih =>
  intro l5_1 l5_2 l5_3 l5_4 r_ h
  refine kLp ?_
  refine kSq ?_
  refine kRs 63 [Tm 11 (bv (decide (l5_3 < l5_0)))] [] .n ?_
  rcases br_inv h with ⟨b7_0, h⟩ | ⟨b7_0, h⟩
  ·refine kCt b7_0 ?_
   refine kSk ?_
   refine kCd (cR (cB (cB (cR (cL (cR (cR (cR bd17)))))))) [.lp (cB (cR (cL (cR (cR (cR bd17))))))] ?_
   refine kSq ?_
   refine kBk 1 ?_
   obtain ⟨k11, hk11, h⟩ := jn_inv h
   have Jk11 : ∀ (j11_2 : Int) (j11_4 : TPicks), k11 j11_2 j11_4 = some r_ → WK Try.prog diwanplay_Picks_Log.O (Ck Try.prog) (cR (cB (cL (cR (cB (cB (cR (cL (cR (cR (cR bd17))))))))))) [.blk 1, .seq (cR (cR (cB (cB (cR (cL (cR (cR (cR bd17))))))))), .lp (cB (cR (cL (cR (cR (cR bd17))))))] (ofL [Tm 0 (.ptr 1000 0), Tm 1 (iv l5_0), Tm 5 (sO 6 TEntry.en l5_1), Tm 6 (iv j11_2), Tm 7 (iv l5_3), Ob 1000 [sS 1 e_u8 j11_4.l, iv j11_4.n]]) (diwanplay_Picks_Log.lp5_post l5_0 r_) := by
    intro j11_2 j11_4 h
    rw [hk11] at h
    obtain ⟨⟨r12_1, r12_2⟩, h12_3, h⟩ := bd_inv h
    refine kRs 31 [Tm 8 (.ptr 8 0), Ob 8 (TEntry.ob_000011 (TEntry.mk j11_2 (r12_1 == 0) (TTxn.mk 0 0 [] []))), Ob 1000 [sS 1 e_u8 r12_2.l, iv r12_2.n]] [.a ⟨iv r12_1, [[sS 1 e_u8 r12_2.l, iv r12_2.n]]⟩] (.c (Asks.of (C := Meets Try.prog) (diwanplay_Picks_Num.meets 3 j11_4 _ _ h12_3)) .n) ?_
    refine kSq ?_
    refine kRs 255 [Tm 26 (bv (!(r12_1 == 0)))] [] .n ?_
    rcases br_inv h with ⟨b14_0, h⟩ | ⟨b14_0, h⟩
    ·refine kCt b14_0 ?_
     obtain ⟨⟨r15_1, r15_2⟩, h15_3, h⟩ := bd_inv h
     refine kRc 498 [Ob 8 (TEntry.ob_000011 (TEntry.mk j11_2 (r12_1 == 0) r15_1)), Ob 1000 [sS 1 e_u8 r15_2.l, iv r15_2.n]] [.a ⟨.data (TTxn.ag_0011 r15_1), [[sS 1 e_u8 r15_2.l, iv r15_2.n]]⟩] (.c (Asks.of (C := Meets Try.prog) (diwanplay_Picks_Txn.meets fu (w64 (l5_3 + 1)) r12_2 _ _ h15_3)) .n) (cR (cR (cR (cB (cL (cR (cB (cB (cR (cL (cR (cR (cR bd17))))))))))))) [.blk 1, .seq (cR (cR (cB (cB (cR (cL (cR (cR (cR bd17))))))))), .lp (cB (cR (cL (cR (cR (cR bd17))))))] ?_
     obtain ⟨c16_1, h⟩ := gd_inv h
     refine kRc 218 [Tm 5 (sO 6 TEntry.en (l5_1 ++ ([(TEntry.mk j11_2 (r12_1 == 0) r15_1)] : List TEntry)))] [.s (.t 35) [sO 6 TEntry.en (l5_1 ++ ([(TEntry.mk j11_2 (r12_1 == 0) r15_1)] : List TEntry))]] (.c (c_al (e := TEntry.en) (f := TEntry.en) c16_1) (.c (congrArg (fun d : DV => [AV.data d]) (c_app (e := TEntry.en) (s := 6) (l := l5_1) (m := ([(TEntry.mk j11_2 (r12_1 == 0) r15_1)] : List TEntry)))) .n)) (cR (cR (cB (cB (cR (cL (cR (cR (cR bd17))))))))) [.lp (cB (cR (cL (cR (cR (cR bd17))))))] ?_
     refine kRc 31 [Tm 7 (iv (w64 (l5_3 + 1)))] [] .n (cB (cR (cL (cR (cR (cR bd17)))))) [] ?_
     exact kWk (ih (l5_1 ++ ([(TEntry.mk j11_2 (r12_1 == 0) r15_1)] : List TEntry)) j11_2 (w64 (l5_3 + 1)) r15_2 _ h)
    ·refine kCe b14_0 ?_
     refine kSk ?_
     refine kCd (cR (cR (cR (cB (cL (cR (cB (cB (cR (cL (cR (cR (cR bd17))))))))))))) [.blk 1, .seq (cR (cR (cB (cB (cR (cL (cR (cR (cR bd17))))))))), .lp (cB (cR (cL (cR (cR (cR bd17))))))] ?_
     obtain ⟨c18_1, h⟩ := gd_inv h
     refine kRc 440 [Tm 5 (sO 6 TEntry.en (l5_1 ++ ([(TEntry.mk j11_2 (r12_1 == 0) (TTxn.mk 0 0 [] []))] : List TEntry)))] [.s (.t 35) [sO 6 TEntry.en (l5_1 ++ ([(TEntry.mk j11_2 (r12_1 == 0) (TTxn.mk 0 0 [] []))] : List TEntry))]] (.c (c_al (e := TEntry.en) (f := TEntry.en) c18_1) (.c (congrArg (fun d : DV => [AV.data d]) (c_app (e := TEntry.en) (s := 6) (l := l5_1) (m := ([(TEntry.mk j11_2 (r12_1 == 0) (TTxn.mk 0 0 [] []))] : List TEntry)))) .n)) (cR (cR (cB (cB (cR (cL (cR (cR (cR bd17))))))))) [.lp (cB (cR (cL (cR (cR (cR bd17))))))] ?_
     refine kRc 31 [Tm 7 (iv (w64 (l5_3 + 1)))] [] .n (cB (cR (cL (cR (cR (cR bd17)))))) [] ?_
     exact kWk (ih (l5_1 ++ ([(TEntry.mk j11_2 (r12_1 == 0) (TTxn.mk 0 0 [] []))] : List TEntry)) j11_2 (w64 (l5_3 + 1)) r12_2 _ h)
   clear hk11
   refine kSq ?_
   obtain ⟨⟨r8_1, r8_2⟩, h8_3, h⟩ := bd_inv h
   refine kRs 62 [Tm 16 (bv (r8_1 == 0)), Ob 1000 [sS 1 e_u8 r8_2.l, iv r8_2.n]] [.a ⟨iv r8_1, [[sS 1 e_u8 r8_2.l, iv r8_2.n]]⟩] (.c (Asks.of (C := Meets Try.prog) (diwanplay_Picks_Num.meets 4 l5_4 _ _ h8_3)) .n) ?_
   rcases br_inv h with ⟨b9_0, h⟩ | ⟨b9_0, h⟩
   ·refine kCt b9_0 ?_
    refine kRc 94 [Tm 6 (iv (w64 (l5_2 + 1)))] [] .n (cR (cB (cL (cR (cB (cB (cR (cL (cR (cR (cR bd17))))))))))) [.blk 1, .seq (cR (cR (cB (cB (cR (cL (cR (cR (cR bd17))))))))), .lp (cB (cR (cL (cR (cR (cR bd17))))))] ?_
    exact kWk (Jk11 (w64 (l5_2 + 1)) r8_2 h)
   ·refine kCe b9_0 ?_
    refine kSk ?_
    refine kCd (cR (cB (cL (cR (cB (cB (cR (cL (cR (cR (cR bd17))))))))))) [.blk 1, .seq (cR (cR (cB (cB (cR (cL (cR (cR (cR bd17))))))))), .lp (cB (cR (cL (cR (cR (cR bd17))))))] ?_
    exact kWk (Jk11 l5_2 r8_2 h)
  ·refine kCe b7_0 ?_
   cases some_inj h
   refine kWo ?_
   refine kXt 0 ?_
   exact kOut
def diwanplay_Picks_Log (fu : Nat) (n_v : Int) (o0_v : TPicks) : Option (List TEntry × TPicks) :=
 bd (diwanplay_Picks_Log.lp5 fu n_v fu [] 1 0 o0_v) fun (y20_0, y20_1) =>
 some (y20_0, y20_1)
theorem diwanplay_Picks_Log.meets (fu : Nat) (n_v : Int) (o0_v : TPicks) (z0 : List TEntry) (z1 : TPicks) (h : diwanplay_Picks_Log fu n_v o0_v = some (z0, z1)) : Meets Try.prog ⟨17, [.ptr 1000 0, iv n_v], [[sS 1 e_u8 o0_v.l, iv o0_v.n]]⟩ ⟨sO 6 TEntry.en z0, [[sS 1 e_u8 z1.l, iv z1.n]]⟩ := by
 refine kMt hmix diwanplay_Picks_Log.O Try.f17 bd17 7 ?_
 unfold diwanplay_Picks_Log at h
 refine kRs 7 [] [] .n ?_
 refine kRs 7 [Tm 5 (.data (.slc true (some true) 6 (List.map TEntry.en [])))] [] .n ?_
 refine kRs 15 [Tm 6 (iv 1)] [] .n ?_
 refine kSq ?_
 refine kRs 31 [Tm 7 (iv 0)] [] .n ?_
 refine kBk 0 ?_
 obtain ⟨o20, ho20, h⟩ := bd_inv h
 refine kUs (diwanplay_Picks_Log.lp5_ok fu n_v _ [] 1 0 o0_v _ ho20) ?_
 intro e_ τ_ hp_
 obtain ⟨y20_0, y20_1⟩ := o20
 obtain ⟨rfl, rfl⟩ := hp_
 refine kCd (cR (cR (cR (cR bd17)))) [] ?_
 refine kRs 2 [Tm 4 (sO 6 TEntry.en y20_0)] [] .n ?_
 refine kRt ?_
 have h_0 := some_inj h
 obtain ⟨g_1, h_1⟩ := Prod.mk.inj h_0
 subst g_1
 subst h_1
 exact kFr
def bd8 : Code := (Try.f8.body).getD .skip
def diwanlaw14_logs.O : Nat → Nat := fun t => bif ([2, 3, 4, 5, 19] : List Nat).any (Nat.beq t) then 1 else 0
def diwanlaw14_logs.lp5 (fu : Nat) : Nat → (List (List TEntry)) → Int → TPicks → Option (List (List TEntry))
  | 0, _, _, _ => none
  | n_ + 1, l5_0, l5_1, l5_2 =>
  br (decide (l5_1 > 0))
   (bd (diwanplay_Picks_Num 16 l5_2) fun (r8_1, r8_2) =>
   bd (diwanplay_Picks_Log fu r8_1 r8_2) fun (r8_4, r8_5) =>
   gd (decide (l5_0.length + ([r8_4] : List (List TEntry)).length ≤ 4294967296)) <|
   diwanlaw14_logs.lp5 fu n_ (l5_0 ++ ([r8_4] : List (List TEntry))) (w64 (l5_1 - 1)) r8_5)
   (some l5_0)
def diwanlaw14_logs.lp5_post (r_ : (List (List TEntry))) : Wy → St → Prop := fun e τ => match r_ with
  | y0 => e = .exit 0 ∧ τ = ofL [Tm 4 (sO 1 (e_l 6 TEntry.en) y0)]
theorem diwanlaw14_logs.lp5_ok (fu : Nat) : ∀ (n_ : Nat) (l5_0 : List (List TEntry)) (l5_1 : Int) (l5_2 : TPicks) (r_ : (List (List TEntry))), diwanlaw14_logs.lp5 fu n_ l5_0 l5_1 l5_2 = some r_ → WK Try.prog diwanlaw14_logs.O (Ck Try.prog) (cB (cR (cL (cR (cR (cR bd8)))))) [] (ofL [Tm 3 (.ptr 2056 0), Tm 4 (sO 1 (e_l 6 TEntry.en) l5_0), Tm 5 (iv l5_1), Ob 2056 [sS 1 e_u8 l5_2.l, iv l5_2.n]]) (diwanlaw14_logs.lp5_post r_) := by
 intro n_
 induction n_ with
 | zero => intro l5_0 l5_1 l5_2 r_ h; exact no_none h
 | succ n_ ih =>
  intro l5_0 l5_1 l5_2 r_ h
  refine kLp ?_
  refine kSq ?_
  refine kRs 15 [Tm 11 (bv (decide (l5_1 > 0)))] [] .n ?_
  rcases br_inv h with ⟨b7_0, h⟩ | ⟨b7_0, h⟩
  ·refine kCt b7_0 ?_
   refine kSk ?_
   refine kCd (cR (cB (cB (cR (cL (cR (cR (cR bd8)))))))) [.lp (cB (cR (cL (cR (cR (cR bd8))))))] ?_
   refine kSq ?_
   refine kBk 1 ?_
   obtain ⟨⟨r8_1, r8_2⟩, h8_3, h⟩ := bd_inv h
   obtain ⟨⟨r8_4, r8_5⟩, h8_6, h⟩ := bd_inv h
   obtain ⟨c8_7, h⟩ := gd_inv h
   refine kRc 10 [Tm 4 (sO 1 (e_l 6 TEntry.en) (l5_0 ++ ([r8_4] : List (List TEntry)))), Ob 2056 [sS 1 e_u8 r8_5.l, iv r8_5.n]] [.a ⟨iv r8_1, [[sS 1 e_u8 r8_2.l, iv r8_2.n]]⟩, .a ⟨sO 6 TEntry.en r8_4, [[sS 1 e_u8 r8_5.l, iv r8_5.n]]⟩, .s (.t 20) [sO 1 (e_l 6 TEntry.en) (l5_0 ++ ([r8_4] : List (List TEntry)))]] (.c (Asks.of (C := Meets Try.prog) (diwanplay_Picks_Num.meets 16 l5_2 _ _ h8_3)) (.c (Asks.of (C := Meets Try.prog) (diwanplay_Picks_Log.meets fu r8_1 r8_2 _ _ h8_6)) (.c (c_al (e := (e_l 6 TEntry.en)) (f := (e_l 6 TEntry.en)) c8_7) (.c (congrArg (fun d : DV => [AV.data d]) (c_app (e := (e_l 6 TEntry.en)) (s := 1) (l := l5_0) (m := ([r8_4] : List (List TEntry))))) .n)))) (cR (cR (cB (cB (cR (cL (cR (cR (cR bd8))))))))) [.lp (cB (cR (cL (cR (cR (cR bd8))))))] ?_
   refine kRc 7 [Tm 5 (iv (w64 (l5_1 - 1)))] [] .n (cB (cR (cL (cR (cR (cR bd8)))))) [] ?_
   exact kWk (ih (l5_0 ++ ([r8_4] : List (List TEntry))) (w64 (l5_1 - 1)) r8_5 _ h)
  ·refine kCe b7_0 ?_
   cases some_inj h
   refine kWo ?_
   refine kXt 0 ?_
   exact kOut
def diwanlaw14_logs (fu : Nat) (picks : List Int) : Option (List (List TEntry)) :=
 bd (diwanplay_Made picks) fun r2_1 =>
 bd (diwanplay_Picks_Num 4 r2_1) fun (r4_1, r4_2) =>
 bd (diwanlaw14_logs.lp5 fu fu [] r4_1 r4_2) fun y10_0 =>
 some y10_0
theorem diwanlaw14_logs.meets (fu : Nat) (picks : List Int) (z0 : List (List TEntry)) (h : diwanlaw14_logs fu picks = some z0) : Meets Try.prog ⟨8, [sS 1 e_u8 picks], []⟩ ⟨sO 1 (e_l 6 TEntry.en) z0, []⟩ := by
 refine kMt hmix diwanlaw14_logs.O Try.f8 bd8 1 ?_
 unfold diwanlaw14_logs at h
 refine kRs 1 [] [] .n ?_
 obtain ⟨r2_1, h2_2, h⟩ := bd_inv h
 refine kRs 0 [Tm 3 (.ptr 2056 0), Ob 2056 [sS 1 e_u8 r2_1.l, iv r2_1.n]] [.a ⟨.ptr 1000 0, [[sS 1 e_u8 r2_1.l, iv r2_1.n]]⟩] (.c (Asks.of (C := Meets Try.prog) (diwanplay_Made.meets picks _ h2_2)) .n) ?_
 refine kRs 3 [Tm 4 (.data (.slc true (some true) 1 (List.map (e_l 6 TEntry.en) [])))] [] .n ?_
 refine kSq ?_
 obtain ⟨⟨r4_1, r4_2⟩, h4_3, h⟩ := bd_inv h
 refine kRs 3 [Tm 5 (iv r4_1), Ob 2056 [sS 1 e_u8 r4_2.l, iv r4_2.n]] [.a ⟨iv r4_1, [[sS 1 e_u8 r4_2.l, iv r4_2.n]]⟩] (.c (Asks.of (C := Meets Try.prog) (diwanplay_Picks_Num.meets 4 r2_1 _ _ h4_3)) .n) ?_
 refine kBk 0 ?_
 obtain ⟨o10, ho10, h⟩ := bd_inv h
 refine kUs (diwanlaw14_logs.lp5_ok fu _ [] r4_1 r4_2 _ ho10) ?_
 intro e_ τ_ hp_
 obtain ⟨y10_0, rfl⟩ : ∃ y, y = o10 := ⟨_, rfl⟩
 obtain ⟨rfl, rfl⟩ := hp_
 refine kCd (cR (cR (cR (cR bd8)))) [] ?_
 refine kRs 0 [Tm 2 (sO 1 (e_l 6 TEntry.en) y10_0)] [] .n ?_
 refine kRt ?_
 have h_ := some_inj h
 subst h_
 exact kFr
def bd21 : Code := (Try.f21.body).getD .skip
def diwanref1_SameReads.O : Nat → Nat := fun t => bif ([4, 5] : List Nat).any (Nat.beq t) then 1 else 0
def diwanref1_SameReads.lp6 (fu : Nat) (l6_0 : List TRead) (l6_1 : List TRead) : Nat → Int → Option (Unit ⊕ Unit)
  | 0, _ => none
  | n_ + 1, l6_2 =>
  br (decide (l6_2 < (l6_0.length : Int)))
   (ix l6_0 l6_2 fun x9_1 =>
   ix l6_1 l6_2 fun x9_4 =>
   br (!((x9_1.Key.toList == x9_4.Key.toList) && ((x9_1.Version == x9_4.Version) && ((x9_1.Val.toList == x9_4.Val.toList) && ((x9_1.There == x9_4.There) && true)))))
    (some (.inr ()))
    (diwanref1_SameReads.lp6 fu l6_0 l6_1 n_ (w64 (l6_2 + 1))))
   (some (.inl ()))
def diwanref1_SameReads.lp6_post (l6_0 : List TRead) (l6_1 : List TRead) (r_ : (Unit ⊕ Unit)) : Wy → St → Prop := fun e τ => match r_ with
  | .inl _ => e = .exit 0 ∧ τ = ofL []
  | .inr _ => e = .ret ∧ τ = ofL [Tm 4 (bv false)]
theorem diwanref1_SameReads.lp6_ok (fu : Nat) (l6_0 : List TRead) (l6_1 : List TRead) : ∀ (n_ : Nat) (l6_2 : Int) (r_ : (Unit ⊕ Unit)), diwanref1_SameReads.lp6 fu l6_0 l6_1 n_ l6_2 = some r_ → WK Try.prog diwanref1_SameReads.O (Ck Try.prog) (cB (cR (cL (cR (cR bd21))))) [] (ofL [Tm 0 (sS 4 TRead.en l6_0), Tm 1 (sS 4 TRead.en l6_1), Tm 5 (iv l6_2)]) (diwanref1_SameReads.lp6_post l6_0 l6_1 r_) := by
 intro n_
 induction n_ with
 | zero => intro l6_2 r_ h; exact no_none h
 | succ n_ ih =>
  intro l6_2 r_ h
  refine kLp ?_
  refine kSq ?_
  refine kRs 7 [Tm 14 (bv (decide (l6_2 < (l6_0.length : Int))))] [.s (.t 13) [iv (l6_0.length : Int)]] (.c (c_len (e := TRead.en) (l := l6_0)) .n) ?_
  rcases br_inv h with ⟨b8_0, h⟩ | ⟨b8_0, h⟩
  ·refine kCt b8_0 ?_
   refine kSk ?_
   refine kCd (cR (cB (cB (cR (cL (cR (cR bd21))))))) [.lp (cB (cR (cL (cR (cR bd21)))))] ?_
   refine kSq ?_
   refine kBk 1 ?_
   obtain ⟨x9_1, a9_2, e9_3, h⟩ := ix_inv h
   obtain ⟨x9_4, a9_5, e9_6, h⟩ := ix_inv h
   refine kRs 14 [Tm 25 (bv (!((x9_1.Key.toList == x9_4.Key.toList) && ((x9_1.Version == x9_4.Version) && ((x9_1.Val.toList == x9_4.Val.toList) && ((x9_1.There == x9_4.There) && true))))))] [.c (TRead.en x9_1), .c (TRead.en x9_4)] (.c (c_ix (e := TRead.en) a9_2 e9_3) (.c (c_el (e := TRead.en) e9_3) (.c (c_ix (e := TRead.en) a9_5 e9_6) (.c (c_el (e := TRead.en) e9_6) (.c rT .n))))) ?_
   rcases br_inv h with ⟨b10_0, h⟩ | ⟨b10_0, h⟩
   ·refine kCt b10_0 ?_
    refine kRs 0 [Tm 4 (bv false)] [] .n ?_
    cases some_inj h
    refine kWo ?_
    refine kRt ?_
    exact kOut
   ·refine kCe b10_0 ?_
    refine kSk ?_
    refine kCd (cR (cR (cB (cB (cR (cL (cR (cR bd21)))))))) [.lp (cB (cR (cL (cR (cR bd21)))))] ?_
    refine kRc 6 [Tm 5 (iv (w64 (l6_2 + 1)))] [] .n (cB (cR (cL (cR (cR bd21))))) [] ?_
    exact kWk (ih (w64 (l6_2 + 1)) _ h)
  ·refine kCe b8_0 ?_
   cases some_inj h
   refine kWo ?_
   refine kXt 0 ?_
   exact kOut
def diwanref1_SameReads (fu : Nat) (a : List TRead) (b : List TRead) : Option Bool :=
 br ((a.length : Int) != (b.length : Int))
  (some false)
  (bd (diwanref1_SameReads.lp6 fu a b fu 0) fun o_ => (match o_ with
  | .inl _ =>
   some true
  | .inr _ =>
   some false))
theorem diwanref1_SameReads.meets (fu : Nat) (a : List TRead) (b : List TRead) (z0 : Bool) (h : diwanref1_SameReads fu a b = some z0) : Meets Try.prog ⟨21, [sS 4 TRead.en a, sS 4 TRead.en b], []⟩ ⟨bv z0, []⟩ := by
 refine kMt hmix diwanref1_SameReads.O Try.f21 bd21 3 ?_
 unfold diwanref1_SameReads at h
 refine kRs 3 [] [] .n ?_
 refine kSq ?_
 refine kRs 3 [Tm 10 (bv ((a.length : Int) != (b.length : Int)))] [.s (.t 7) [iv (a.length : Int)], .s (.t 9) [iv (b.length : Int)]] (.c (c_len (e := TRead.en) (l := a)) (.c (c_len (e := TRead.en) (l := b)) .n)) ?_
 rcases br_inv h with ⟨b3_0, h⟩ | ⟨b3_0, h⟩
 ·refine kCt b3_0 ?_
  refine kRs 0 [Tm 4 (bv false)] [] .n ?_
  refine kRt ?_
  have h_ := some_inj h
  subst h_
  exact kFr
 ·refine kCe b3_0 ?_
  refine kSk ?_
  refine kCd (cR (cR bd21)) [] ?_
  refine kSq ?_
  refine kRs 6 [Tm 5 (iv 0)] [] .n ?_
  refine kBk 0 ?_
  obtain ⟨o13, ho13, h⟩ := bd_inv h
  refine kUs (diwanref1_SameReads.lp6_ok fu a b _ 0 _ ho13) ?_
  intro e_ τ_ hp_
  rcases o13 with o13 | o13
  ·obtain ⟨⟩ := o13
   obtain ⟨rfl, rfl⟩ := hp_
   refine kCd (cR (cR (cR bd21))) [] ?_
   refine kRs 0 [Tm 4 (bv true)] [] .n ?_
   refine kRt ?_
   have h_ := some_inj h
   subst h_
   exact kFr
  ·obtain ⟨⟩ := o13
   obtain ⟨rfl, rfl⟩ := hp_
   have h_ := some_inj h
   subst h_
   exact kFr
def bd10 : Code := (Try.f10.body).getD .skip
def diwanref1_SameTxn.O : Nat → Nat := fun t => bif ([2, 3, 4, 5] : List Nat).any (Nat.beq t) then 1 else 0
def diwanref1_SameTxn.lp9 (fu : Nat) (l9_1 : TTxn) (l9_2 : TTxn) : Nat → Int → Option (Unit ⊕ Unit)
  | 0, _ => none
  | n_ + 1, l9_0 =>
  br (decide (l9_0 < (l9_1.Writes.length : Int)))
   (ix l9_1.Writes l9_0 fun x12_1 =>
   ix l9_2.Writes l9_0 fun x12_4 =>
   br (!((x12_1.Key.toList == x12_4.Key.toList) && ((x12_1.Val.toList == x12_4.Val.toList) && ((x12_1.Gone == x12_4.Gone) && true))))
    (some (.inr ()))
    (diwanref1_SameTxn.lp9 fu l9_1 l9_2 n_ (w64 (l9_0 + 1))))
   (some (.inl ()))
def diwanref1_SameTxn.lp9_post (l9_1 : TTxn) (l9_2 : TTxn) (r_ : (Unit ⊕ Unit)) : Wy → St → Prop := fun e τ => match r_ with
  | .inl _ => e = .exit 0 ∧ τ = ofL []
  | .inr _ => e = .ret ∧ τ = ofL [Tm 4 (bv false)]
theorem diwanref1_SameTxn.lp9_ok (fu : Nat) (l9_1 : TTxn) (l9_2 : TTxn) : ∀ (n_ : Nat) (l9_0 : Int) (r_ : (Unit ⊕ Unit)), diwanref1_SameTxn.lp9 fu l9_1 l9_2 n_ l9_0 = some r_ → WK Try.prog diwanref1_SameTxn.O (Ck Try.prog) (cB (cR (cL (cR (cR bd10))))) [] (ofL [Tm 2 (.ptr 2 0), Tm 3 (.ptr 3 0), Tm 5 (iv l9_0), Ob 2 (TTxn.ob l9_1), Ob 3 (TTxn.ob l9_2)]) (diwanref1_SameTxn.lp9_post l9_1 l9_2 r_) := by
 intro n_
 induction n_ with
 | zero => intro l9_0 r_ h; exact no_none h
 | succ n_ ih =>
  intro l9_0 r_ h
  refine kLp ?_
  refine kSq ?_
  refine kRs 31 [Tm 39 (bv (decide (l9_0 < (l9_1.Writes.length : Int))))] [.s (.t 38) [iv (l9_1.Writes.length : Int)]] (.c (c_len (e := TWrite.en) (l := l9_1.Writes)) .n) ?_
  rcases br_inv h with ⟨b11_0, h⟩ | ⟨b11_0, h⟩
  ·refine kCt b11_0 ?_
   refine kSk ?_
   refine kCd (cR (cB (cB (cR (cL (cR (cR bd10))))))) [.lp (cB (cR (cL (cR (cR bd10)))))] ?_
   refine kSq ?_
   refine kBk 1 ?_
   obtain ⟨x12_1, a12_2, e12_3, h⟩ := ix_inv h
   obtain ⟨x12_4, a12_5, e12_6, h⟩ := ix_inv h
   refine kRs 62 [Tm 52 (bv (!((x12_1.Key.toList == x12_4.Key.toList) && ((x12_1.Val.toList == x12_4.Val.toList) && ((x12_1.Gone == x12_4.Gone) && true)))))] [.c (TWrite.en x12_1), .c (TWrite.en x12_4)] (.c (c_ix (e := TWrite.en) a12_2 e12_3) (.c (c_el (e := TWrite.en) e12_3) (.c (c_ix (e := TWrite.en) a12_5 e12_6) (.c (c_el (e := TWrite.en) e12_6) (.c rT .n))))) ?_
   rcases br_inv h with ⟨b13_0, h⟩ | ⟨b13_0, h⟩
   ·refine kCt b13_0 ?_
    refine kRs 0 [Tm 4 (bv false)] [] .n ?_
    cases some_inj h
    refine kWo ?_
    refine kRt ?_
    exact kOut
   ·refine kCe b13_0 ?_
    refine kSk ?_
    refine kCd (cR (cR (cB (cB (cR (cL (cR (cR bd10)))))))) [.lp (cB (cR (cL (cR (cR bd10)))))] ?_
    refine kRc 54 [Tm 5 (iv (w64 (l9_0 + 1)))] [] .n (cB (cR (cL (cR (cR bd10))))) [] ?_
    exact kWk (ih (w64 (l9_0 + 1)) _ h)
  ·refine kCe b11_0 ?_
   cases some_inj h
   refine kWo ?_
   refine kXt 0 ?_
   exact kOut
def diwanref1_SameTxn (fu : Nat) (a : TTxn) (b : TTxn) : Option Bool :=
 br (a.Session != b.Session)
  (some false)
  (br (a.Seq != b.Seq)
   (some false)
   (br ((a.Writes.length : Int) != (b.Writes.length : Int))
    (some false)
    (bd (diwanref1_SameReads fu a.Reads b.Reads) fun r2_4 =>
    br (!r2_4)
     (some false)
     (bd (diwanref1_SameTxn.lp9 fu a b fu 0) fun o_ => (match o_ with
     | .inl _ =>
      some true
     | .inr _ =>
      some false)))))
theorem diwanref1_SameTxn.meets (fu : Nat) (a : TTxn) (b : TTxn) (z0 : Bool) (h : diwanref1_SameTxn fu a b = some z0) : Meets Try.prog ⟨10, [.data (TTxn.ag a), .data (TTxn.ag b)], []⟩ ⟨bv z0, []⟩ := by
 refine kMt hmix diwanref1_SameTxn.O Try.f10 bd10 3 ?_
 unfold diwanref1_SameTxn at h
 refine kRs 0 [Tm 2 (.ptr 2 0), Tm 3 (.ptr 3 0), Ob 2 (TTxn.ob a), Ob 3 (TTxn.ob b)] [] .n ?_
 refine kSq ?_
 rcases br_inv h with ⟨b2_1, h⟩ | ⟨b2_1, h⟩
 ·refine kRs 15 [Tm 34 (bv true)] (rp 21 (.b true) []) (.r 6 b2_1 (.r 15 rT .n)) ?_
  refine kCt rT ?_
  refine kRs 0 [Tm 4 (bv false)] [] .n ?_
  refine kRt ?_
  have h_ := some_inj h
  subst h_
  exact kFr
 ·rcases br_inv h with ⟨b2_2, h⟩ | ⟨b2_2, h⟩
  ·refine kRs 15 [Tm 34 (bv true)] (rp 6 (.b false) (rp 15 (.b true) [])) (.r 6 b2_1 (.r 8 b2_2 (.r 7 rT .n))) ?_
   refine kCt rT ?_
   refine kRs 0 [Tm 4 (bv false)] [] .n ?_
   refine kRt ?_
   have h_ := some_inj h
   subst h_
   exact kFr
  ·rcases br_inv h with ⟨b2_3, h⟩ | ⟨b2_3, h⟩
   ·refine kRs 15 [Tm 34 (bv true)] (rp 9 (.b false) (.s (.t 21) [iv (a.Writes.length : Int)] :: (.b false :: (.b false :: (.b false :: (.s (.t 24) [iv (b.Writes.length : Int)] :: (.b false :: (.b false :: (rp 7 (.b true) []))))))))) (.r 6 b2_1 (.r 3 b2_2 (.c (c_len (e := TWrite.en) (l := a.Writes)) (.r 3 b2_2 (.c (c_len (e := TWrite.en) (l := b.Writes)) (.r 2 b2_2 (.r 7 b2_3 .n))))))) ?_
    refine kCt rT ?_
    refine kRs 0 [Tm 4 (bv false)] [] .n ?_
    refine kRt ?_
    have h_ := some_inj h
    subst h_
    exact kFr
   ·obtain ⟨r2_4, h2_5, h⟩ := bd_inv h
    refine kRs 15 [Tm 34 (bv (!r2_4))] (rp 9 (.b false) (.s (.t 21) [iv (a.Writes.length : Int)] :: (.b false :: (.b false :: (.b false :: (.s (.t 24) [iv (b.Writes.length : Int)] :: (rp 7 (.b false) [.a ⟨bv r2_4, []⟩, .b false, .b false]))))))) (.r 6 b2_1 (.r 3 b2_2 (.c (c_len (e := TWrite.en) (l := a.Writes)) (.r 3 b2_2 (.c (c_len (e := TWrite.en) (l := b.Writes)) (.r 2 b2_2 (.r 5 b2_3 (.c (Asks.of (C := Meets Try.prog) (diwanref1_SameReads.meets fu a.Reads b.Reads _ h2_5)) (.r 2 b2_3 .n))))))))) ?_
    rcases br_inv h with ⟨b6_0, h⟩ | ⟨b6_0, h⟩
    ·refine kCt b6_0 ?_
     refine kRs 0 [Tm 4 (bv false)] [] .n ?_
     refine kRt ?_
     have h_ := some_inj h
     subst h_
     exact kFr
    ·refine kCe b6_0 ?_
     refine kSk ?_
     refine kCd (cR (cR bd10)) [] ?_
     refine kSq ?_
     refine kRs 30 [Tm 5 (iv 0)] [] .n ?_
     refine kBk 0 ?_
     obtain ⟨o16, ho16, h⟩ := bd_inv h
     refine kUs (diwanref1_SameTxn.lp9_ok fu a b _ 0 _ ho16) ?_
     intro e_ τ_ hp_
     rcases o16 with o16 | o16
     ·obtain ⟨⟩ := o16
      obtain ⟨rfl, rfl⟩ := hp_
      refine kCd (cR (cR (cR bd10))) [] ?_
      refine kRs 0 [Tm 4 (bv true)] [] .n ?_
      refine kRt ?_
      have h_ := some_inj h
      subst h_
      exact kFr
     ·obtain ⟨⟩ := o16
      obtain ⟨rfl, rfl⟩ := hp_
      have h_ := some_inj h
      subst h_
      exact kFr
def bd3 : Code := (Try.f3.body).getD .skip
def diwanlaw14_MergeOnce.O : Nat → Nat := fun t => bif ([4, 5, 6, 7, 8, 9, 10, 11, 12, 13, 14, 137, 142, 148, 149, 150] : List Nat).any (Nat.beq t) then 1 else bif ([151] : List Nat).any (Nat.beq t) then 2 else 0
def diwanlaw14_MergeOnce.lp37 (fu : Nat) (l37_0 : Int) (l37_1 : List (List TEntry)) (l37_2 : List TPlace) (l37_3 : Int) (l37_5 : TA4_int) (l37_6 : TPlace) : Nat → Int → Option (Unit ⊕ Unit)
  | 0, _ => none
  | n_ + 1, l37_4 =>
  br (decide (l37_4 < l37_6.Index))
   (ix l37_1 l37_6.Part fun x40_1 =>
   ix x40_1 (w64 (l37_4 - 1)) fun x40_4 =>
   br (!x40_4.Seal)
    (some (.inr ()))
    (diwanlaw14_MergeOnce.lp37 fu l37_0 l37_1 l37_2 l37_3 l37_5 l37_6 n_ (w64 (l37_4 + 1))))
   (some (.inl ()))
def diwanlaw14_MergeOnce.lp37_post (l37_0 : Int) (l37_1 : List (List TEntry)) (l37_2 : List TPlace) (l37_3 : Int) (l37_5 : TA4_int) (l37_6 : TPlace) (r_ : (Unit ⊕ Unit)) : Wy → St → Prop := fun e τ => match r_ with
  | .inl _ => e = .exit 2 ∧ τ = ofL [Tm 1 (.data (.val (.int .u8 l37_0))), Tm 5 (sS 1 (e_l 6 TEntry.en) l37_1), Tm 6 (sO 6 TPlace.en l37_2), Tm 7 (.ptr 7 0), Tm 8 (iv l37_3), Tm 9 (.ptr 9 0), Ob 7 (TA4_int.ob l37_5), Ob 9 (TPlace.ob l37_6)]
  | .inr _ => e = .ret ∧ τ = ofL [Tm 4 (bv false)]
theorem diwanlaw14_MergeOnce.lp37_ok (fu : Nat) (l37_0 : Int) (l37_1 : List (List TEntry)) (l37_2 : List TPlace) (l37_3 : Int) (l37_5 : TA4_int) (l37_6 : TPlace) : ∀ (n_ : Nat) (l37_4 : Int) (r_ : (Unit ⊕ Unit)), diwanlaw14_MergeOnce.lp37 fu l37_0 l37_1 l37_2 l37_3 l37_5 l37_6 n_ l37_4 = some r_ → WK Try.prog diwanlaw14_MergeOnce.O (Ck Try.prog) (cB (cR (cL (cR (cR (cB (cL (cR (cB (cB (cR (cL (cR (cR (cR (cR (cR (cR bd3)))))))))))))))))) [] (ofL [Tm 1 (.data (.val (.int .u8 l37_0))), Tm 5 (sS 1 (e_l 6 TEntry.en) l37_1), Tm 6 (sO 6 TPlace.en l37_2), Tm 7 (.ptr 7 0), Tm 8 (iv l37_3), Tm 9 (.ptr 9 0), Tm 10 (iv l37_4), Ob 7 (TA4_int.ob l37_5), Ob 9 (TPlace.ob l37_6)]) (diwanlaw14_MergeOnce.lp37_post l37_0 l37_1 l37_2 l37_3 l37_5 l37_6 r_) := by
 intro n_
 induction n_ with
 | zero => intro l37_4 r_ h; exact no_none h
 | succ n_ ih =>
  intro l37_4 r_ h
  refine kLp ?_
  refine kSq ?_
  refine kRs 511 [Tm 107 (bv (decide (l37_4 < l37_6.Index)))] [] .n ?_
  rcases br_inv h with ⟨b39_0, h⟩ | ⟨b39_0, h⟩
  ·refine kCt b39_0 ?_
   refine kSk ?_
   refine kCd (cR (cB (cB (cR (cL (cR (cR (cB (cL (cR (cB (cB (cR (cL (cR (cR (cR (cR (cR (cR bd3)))))))))))))))))))) [.lp (cB (cR (cL (cR (cR (cB (cL (cR (cB (cB (cR (cL (cR (cR (cR (cR (cR (cR bd3))))))))))))))))))] ?_
   refine kSq ?_
   refine kBk 3 ?_
   obtain ⟨x40_1, a40_2, e40_3, h⟩ := ix_inv h
   obtain ⟨x40_4, a40_5, e40_6, h⟩ := ix_inv h
   refine kRs 1022 [Tm 120 (bv (!x40_4.Seal))] [.c ((e_l 6 TEntry.en) x40_1), .c (TEntry.en x40_4)] (.c (c_ix (e := (e_l 6 TEntry.en)) a40_2 e40_3) (.c (c_el (e := (e_l 6 TEntry.en)) e40_3) (.c (c_ix (e := TEntry.en) a40_5 e40_6) (.c (c_el (e := TEntry.en) e40_6) .n)))) ?_
   rcases br_inv h with ⟨b41_0, h⟩ | ⟨b41_0, h⟩
   ·refine kCt b41_0 ?_
    refine kRs 0 [Tm 4 (bv false)] [] .n ?_
    cases some_inj h
    refine kWo ?_
    refine kRt ?_
    exact kOut
   ·refine kCe b41_0 ?_
    refine kSk ?_
    refine kCd (cR (cR (cB (cB (cR (cL (cR (cR (cB (cL (cR (cB (cB (cR (cL (cR (cR (cR (cR (cR (cR bd3))))))))))))))))))))) [.lp (cB (cR (cL (cR (cR (cB (cL (cR (cB (cB (cR (cL (cR (cR (cR (cR (cR (cR bd3))))))))))))))))))] ?_
    refine kRc 894 [Tm 10 (iv (w64 (l37_4 + 1)))] [] .n (cB (cR (cL (cR (cR (cB (cL (cR (cB (cB (cR (cL (cR (cR (cR (cR (cR (cR bd3)))))))))))))))))) [] ?_
    exact kWk (ih (w64 (l37_4 + 1)) _ h)
  ·refine kCe b39_0 ?_
   cases some_inj h
   refine kWo ?_
   refine kXt 2 ?_
   exact kOut
def diwanlaw14_MergeOnce.lp12 (fu : Nat) (l12_0 : Int) (l12_1 : List (List TEntry)) (l12_2 : List TPlace) : Nat → Int → TA4_int → Option (Unit ⊕ Unit)
  | 0, _, _ => none
  | n_ + 1, l12_3, l12_4 =>
  br (decide (l12_3 < (l12_2.length : Int)))
   (ix l12_2 l12_3 fun x15_1 =>
   jn (
    jn (fun (j36_4 : Int) =>
     bd (diwanlaw14_MergeOnce.lp37 fu l12_0 l12_1 l12_2 l12_3 l12_4 x15_1 fu j36_4) fun o_ => (match o_ with
     | .inl _ =>
      br (x15_1.Part == 0)
       (diwanlaw14_MergeOnce.lp12 fu l12_0 l12_1 l12_2 n_ (w64 (l12_3 + 1)) (TA4_int.mk x15_1.Index l12_4.c1 l12_4.c2 l12_4.c3))
       (br (x15_1.Part == 1)
        (diwanlaw14_MergeOnce.lp12 fu l12_0 l12_1 l12_2 n_ (w64 (l12_3 + 1)) (TA4_int.mk l12_4.c0 x15_1.Index l12_4.c2 l12_4.c3))
        (br (x15_1.Part == 2)
         (diwanlaw14_MergeOnce.lp12 fu l12_0 l12_1 l12_2 n_ (w64 (l12_3 + 1)) (TA4_int.mk l12_4.c0 l12_4.c1 x15_1.Index l12_4.c3))
         (br (x15_1.Part == 3)
          (diwanlaw14_MergeOnce.lp12 fu l12_0 l12_1 l12_2 n_ (w64 (l12_3 + 1)) (TA4_int.mk l12_4.c0 l12_4.c1 l12_4.c2 x15_1.Index))
          (none))))
     | .inr _ =>
      some (.inr ()))) fun k36 =>
    br (x15_1.Part == 0)
     (k36 (w64 (l12_4.c0 + 1)))
     (br (x15_1.Part == 1)
      (k36 (w64 (l12_4.c1 + 1)))
      (br (x15_1.Part == 2)
       (k36 (w64 (l12_4.c2 + 1)))
       (br (x15_1.Part == 3)
        (k36 (w64 (l12_4.c3 + 1)))
        (none))))) fun k34 =>
   br (decide (x15_1.Part < 0))
    (some (.inr ()))
    (br (decide (x15_1.Part ≥ (l12_1.length : Int)))
     (some (.inr ()))
     (br (decide (x15_1.Index < 1))
      (some (.inr ()))
      (ix l12_1 x15_1.Part fun x16_4 =>
      br (decide (x15_1.Index > (x16_4.length : Int)))
       (some (.inr ()))
       (ix l12_1 x15_1.Part fun x16_8 =>
       ix x16_8 (w64 (x15_1.Index - 1)) fun x16_11 =>
       br x16_11.Seal
        (some (.inr ()))
        (br (x15_1.Part == 0)
         (br (decide (x15_1.Index ≤ l12_4.c0))
          (some (.inr ()))
          (ix l12_1 x15_1.Part fun x16_17 =>
          ix x16_17 (w64 (x15_1.Index - 1)) fun x16_20 =>
          bd (diwanref1_SameTxn fu x15_1.T x16_20.T) fun r16_23 =>
          br (!r16_23)
           (some (.inr ()))
           (k34)))
         (br (x15_1.Part == 1)
          (br (decide (x15_1.Index ≤ l12_4.c1))
           (some (.inr ()))
           (ix l12_1 x15_1.Part fun x16_18 =>
           ix x16_18 (w64 (x15_1.Index - 1)) fun x16_21 =>
           bd (diwanref1_SameTxn fu x15_1.T x16_21.T) fun r16_24 =>
           br (!r16_24)
            (some (.inr ()))
            (k34)))
          (br (x15_1.Part == 2)
           (br (decide (x15_1.Index ≤ l12_4.c2))
            (some (.inr ()))
            (ix l12_1 x15_1.Part fun x16_19 =>
            ix x16_19 (w64 (x15_1.Index - 1)) fun x16_22 =>
            bd (diwanref1_SameTxn fu x15_1.T x16_22.T) fun r16_25 =>
            br (!r16_25)
             (some (.inr ()))
             (k34)))
           (br (x15_1.Part == 3)
            (br (decide (x15_1.Index ≤ l12_4.c3))
             (some (.inr ()))
             (ix l12_1 x15_1.Part fun x16_20 =>
             ix x16_20 (w64 (x15_1.Index - 1)) fun x16_23 =>
             bd (diwanref1_SameTxn fu x15_1.T x16_23.T) fun r16_26 =>
             br (!r16_26)
              (some (.inr ()))
              (k34)))
            (none))))))))))
   (some (.inl ()))
def diwanlaw14_MergeOnce.lp12_post (l12_0 : Int) (l12_1 : List (List TEntry)) (l12_2 : List TPlace) (r_ : (Unit ⊕ Unit)) : Wy → St → Prop := fun e τ => match r_ with
  | .inl _ => e = .exit 0 ∧ τ = ofL [Tm 1 (.data (.val (.int .u8 l12_0))), Tm 5 (sS 1 (e_l 6 TEntry.en) l12_1), Tm 6 (sO 6 TPlace.en l12_2)]
  | .inr _ => e = .ret ∧ τ = ofL [Tm 4 (bv false)]
theorem diwanlaw14_MergeOnce.lp12_ok (fu : Nat) (l12_0 : Int) (l12_1 : List (List TEntry)) (l12_2 : List TPlace) : ∀ (n_ : Nat) (l12_3 : Int) (l12_4 : TA4_int) (r_ : (Unit ⊕ Unit)), diwanlaw14_MergeOnce.lp12 fu l12_0 l12_1 l12_2 n_ l12_3 l12_4 = some r_ → WK Try.prog diwanlaw14_MergeOnce.O (Ck Try.prog) (cB (cR (cL (cR (cR (cR (cR (cR (cR bd3))))))))) [] (ofL [Tm 1 (.data (.val (.int .u8 l12_0))), Tm 5 (sS 1 (e_l 6 TEntry.en) l12_1), Tm 6 (sO 6 TPlace.en l12_2), Tm 7 (.ptr 7 0), Tm 8 (iv l12_3), Ob 7 (TA4_int.ob l12_4)]) (diwanlaw14_MergeOnce.lp12_post l12_0 l12_1 l12_2 r_) := by
 intro n_
 induction n_ with
 | zero => intro l12_3 l12_4 r_ h; exact no_none h
 | succ n_ ih =>
  intro l12_3 l12_4 r_ h
  refine kLp ?_
  refine kSq ?_
  refine kRs 63 [Tm 27 (bv (decide (l12_3 < (l12_2.length : Int))))] [.s (.t 26) [iv (l12_2.length : Int)]] (.c (c_len (e := TPlace.en) (l := l12_2)) .n) ?_
  rcases br_inv h with ⟨b14_0, h⟩ | ⟨b14_0, h⟩
  ·refine kCt b14_0 ?_
   refine kSk ?_
   refine kCd (cR (cB (cB (cR (cL (cR (cR (cR (cR (cR (cR bd3))))))))))) [.lp (cB (cR (cL (cR (cR (cR (cR (cR (cR bd3)))))))))] ?_
   refine kSq ?_
   refine kBk 1 ?_
   obtain ⟨x15_1, a15_2, e15_3, h⟩ := ix_inv h
   refine kRs 126 [Tm 9 (.ptr 9 0), Ob 9 (TPlace.ob x15_1)] [.c (TPlace.en x15_1)] (.c (c_ix (e := TPlace.en) a15_2 e15_3) (.c (c_el (e := TPlace.en) e15_3) .n)) ?_
   obtain ⟨k34, hk34, h⟩ := jn_inv h
   have Jk34 : k34 = some r_ → WK Try.prog diwanlaw14_MergeOnce.O (Ck Try.prog) (cR (cR (cB (cL (cR (cB (cB (cR (cL (cR (cR (cR (cR (cR (cR bd3))))))))))))))) [.blk 1, .seq (cR (cR (cB (cB (cR (cL (cR (cR (cR (cR (cR (cR bd3)))))))))))), .lp (cB (cR (cL (cR (cR (cR (cR (cR (cR bd3)))))))))] (ofL [Tm 1 (.data (.val (.int .u8 l12_0))), Tm 5 (sS 1 (e_l 6 TEntry.en) l12_1), Tm 6 (sO 6 TPlace.en l12_2), Tm 7 (.ptr 7 0), Tm 8 (iv l12_3), Tm 9 (.ptr 9 0), Ob 7 (TA4_int.ob l12_4), Ob 9 (TPlace.ob x15_1)]) (diwanlaw14_MergeOnce.lp12_post l12_0 l12_1 l12_2 r_) := by
    intro h
    rw [hk34] at h
    refine kSq ?_
    obtain ⟨k36, hk36, h⟩ := jn_inv h
    have Jk36 : ∀ (j36_4 : Int), k36 j36_4 = some r_ → WK Try.prog diwanlaw14_MergeOnce.O (Ck Try.prog) (cR (cL (cR (cR (cB (cL (cR (cB (cB (cR (cL (cR (cR (cR (cR (cR (cR bd3))))))))))))))))) [.seq (cR (cR (cR (cB (cL (cR (cB (cB (cR (cL (cR (cR (cR (cR (cR (cR bd3)))))))))))))))), .blk 1, .seq (cR (cR (cB (cB (cR (cL (cR (cR (cR (cR (cR (cR bd3)))))))))))), .lp (cB (cR (cL (cR (cR (cR (cR (cR (cR bd3)))))))))] (ofL [Tm 1 (.data (.val (.int .u8 l12_0))), Tm 5 (sS 1 (e_l 6 TEntry.en) l12_1), Tm 6 (sO 6 TPlace.en l12_2), Tm 7 (.ptr 7 0), Tm 8 (iv l12_3), Tm 9 (.ptr 9 0), Tm 10 (iv j36_4), Ob 7 (TA4_int.ob l12_4), Ob 9 (TPlace.ob x15_1)]) (diwanlaw14_MergeOnce.lp12_post l12_0 l12_1 l12_2 r_) := by
     intro j36_4 h
     rw [hk36] at h
     refine kBk 2 ?_
     obtain ⟨o44, ho44, h⟩ := bd_inv h
     refine kUs (diwanlaw14_MergeOnce.lp37_ok fu l12_0 l12_1 l12_2 l12_3 l12_4 x15_1 _ j36_4 _ ho44) ?_
     intro e_ τ_ hp_
     rcases o44 with o44 | o44
     ·obtain ⟨⟩ := o44
      obtain ⟨rfl, rfl⟩ := hp_
      refine kCd (cR (cR (cR (cB (cL (cR (cB (cB (cR (cL (cR (cR (cR (cR (cR (cR bd3)))))))))))))))) [.blk 1, .seq (cR (cR (cB (cB (cR (cL (cR (cR (cR (cR (cR (cR bd3)))))))))))), .lp (cB (cR (cL (cR (cR (cR (cR (cR (cR bd3)))))))))] ?_
      rcases br_inv h with ⟨b45_1, h⟩ | ⟨b45_1, h⟩
      ·refine kRc 31 [Ob 7 (TA4_int.ob (TA4_int.mk x15_1.Index l12_4.c1 l12_4.c2 l12_4.c3))] [.i 0] (.c (c_ib (j := 0) (n := 4) b45_1 (Eq.refl true)) (.c (c_ii (j := 0) b45_1) .n)) (cR (cR (cB (cB (cR (cL (cR (cR (cR (cR (cR (cR bd3)))))))))))) [.lp (cB (cR (cL (cR (cR (cR (cR (cR (cR bd3)))))))))] ?_
       refine kRc 31 [Tm 8 (iv (w64 (l12_3 + 1)))] [] .n (cB (cR (cL (cR (cR (cR (cR (cR (cR bd3))))))))) [] ?_
       exact kWk (ih (w64 (l12_3 + 1)) (TA4_int.mk x15_1.Index l12_4.c1 l12_4.c2 l12_4.c3) _ h)
      ·rcases br_inv h with ⟨b45_2, h⟩ | ⟨b45_2, h⟩
       ·refine kRc 31 [Ob 7 (TA4_int.ob (TA4_int.mk l12_4.c0 x15_1.Index l12_4.c2 l12_4.c3))] [.i 1] (.c (c_ib (j := 1) (n := 4) b45_2 (Eq.refl true)) (.c (c_ii (j := 1) b45_2) .n)) (cR (cR (cB (cB (cR (cL (cR (cR (cR (cR (cR (cR bd3)))))))))))) [.lp (cB (cR (cL (cR (cR (cR (cR (cR (cR bd3)))))))))] ?_
        refine kRc 31 [Tm 8 (iv (w64 (l12_3 + 1)))] [] .n (cB (cR (cL (cR (cR (cR (cR (cR (cR bd3))))))))) [] ?_
        exact kWk (ih (w64 (l12_3 + 1)) (TA4_int.mk l12_4.c0 x15_1.Index l12_4.c2 l12_4.c3) _ h)
       ·rcases br_inv h with ⟨b45_3, h⟩ | ⟨b45_3, h⟩
        ·refine kRc 31 [Ob 7 (TA4_int.ob (TA4_int.mk l12_4.c0 l12_4.c1 x15_1.Index l12_4.c3))] [.i 2] (.c (c_ib (j := 2) (n := 4) b45_3 (Eq.refl true)) (.c (c_ii (j := 2) b45_3) .n)) (cR (cR (cB (cB (cR (cL (cR (cR (cR (cR (cR (cR bd3)))))))))))) [.lp (cB (cR (cL (cR (cR (cR (cR (cR (cR bd3)))))))))] ?_
         refine kRc 31 [Tm 8 (iv (w64 (l12_3 + 1)))] [] .n (cB (cR (cL (cR (cR (cR (cR (cR (cR bd3))))))))) [] ?_
         exact kWk (ih (w64 (l12_3 + 1)) (TA4_int.mk l12_4.c0 l12_4.c1 x15_1.Index l12_4.c3) _ h)
        ·rcases br_inv h with ⟨b45_4, h⟩ | ⟨b45_4, h⟩
         ·refine kRc 31 [Ob 7 (TA4_int.ob (TA4_int.mk l12_4.c0 l12_4.c1 l12_4.c2 x15_1.Index))] [.i 3] (.c (c_ib (j := 3) (n := 4) b45_4 (Eq.refl true)) (.c (c_ii (j := 3) b45_4) .n)) (cR (cR (cB (cB (cR (cL (cR (cR (cR (cR (cR (cR bd3)))))))))))) [.lp (cB (cR (cL (cR (cR (cR (cR (cR (cR bd3)))))))))] ?_
          refine kRc 31 [Tm 8 (iv (w64 (l12_3 + 1)))] [] .n (cB (cR (cL (cR (cR (cR (cR (cR (cR bd3))))))))) [] ?_
          exact kWk (ih (w64 (l12_3 + 1)) (TA4_int.mk l12_4.c0 l12_4.c1 l12_4.c2 x15_1.Index) _ h)
         ·exact no_none h
     ·obtain ⟨⟩ := o44
      obtain ⟨rfl, rfl⟩ := hp_
      cases some_inj h
      exact kOut
    clear hk36
    rcases br_inv h with ⟨b35_1, h⟩ | ⟨b35_1, h⟩
    ·refine kRs 255 [Tm 10 (iv (w64 (l12_4.c0 + 1)))] [.i 0] (.c (c_ib (j := 0) (n := 4) b35_1 (Eq.refl true)) (.c (c_ii (j := 0) b35_1) .n)) ?_
     exact kWk (Jk36 (w64 (l12_4.c0 + 1)) h)
    ·rcases br_inv h with ⟨b35_2, h⟩ | ⟨b35_2, h⟩
     ·refine kRs 255 [Tm 10 (iv (w64 (l12_4.c1 + 1)))] [.i 1] (.c (c_ib (j := 1) (n := 4) b35_2 (Eq.refl true)) (.c (c_ii (j := 1) b35_2) .n)) ?_
      exact kWk (Jk36 (w64 (l12_4.c1 + 1)) h)
     ·rcases br_inv h with ⟨b35_3, h⟩ | ⟨b35_3, h⟩
      ·refine kRs 255 [Tm 10 (iv (w64 (l12_4.c2 + 1)))] [.i 2] (.c (c_ib (j := 2) (n := 4) b35_3 (Eq.refl true)) (.c (c_ii (j := 2) b35_3) .n)) ?_
       exact kWk (Jk36 (w64 (l12_4.c2 + 1)) h)
      ·rcases br_inv h with ⟨b35_4, h⟩ | ⟨b35_4, h⟩
       ·refine kRs 255 [Tm 10 (iv (w64 (l12_4.c3 + 1)))] [.i 3] (.c (c_ib (j := 3) (n := 4) b35_4 (Eq.refl true)) (.c (c_ii (j := 3) b35_4) .n)) ?_
        exact kWk (Jk36 (w64 (l12_4.c3 + 1)) h)
       ·exact no_none h
   clear hk34
   refine kSq ?_
   rcases br_inv h with ⟨b16_1, h⟩ | ⟨b16_1, h⟩
   ·refine kRs 255 [Tm 98 (bv true)] (rp 56 (.b true) []) (.r 6 b16_1 (.r 51 rT .n)) ?_
    refine kCt rT ?_
    refine kRs 0 [Tm 4 (bv false)] [] .n ?_
    cases some_inj h
    refine kWo ?_
    refine kRt ?_
    exact kOut
   ·rcases br_inv h with ⟨b16_2, h⟩ | ⟨b16_2, h⟩
    ·refine kRs 255 [Tm 98 (bv true)] (rp 4 (.b false) (.s (.t 41) [iv (l12_1.length : Int)] :: (.b false :: (.b false :: (rp 50 (.b true) []))))) (.r 4 b16_1 (.c (c_len (e := (e_l 6 TEntry.en)) (l := l12_1)) (.r 2 b16_1 (.r 4 b16_2 (.r 47 rT .n))))) ?_
     refine kCt rT ?_
     refine kRs 0 [Tm 4 (bv false)] [] .n ?_
     cases some_inj h
     refine kWo ?_
     refine kRt ?_
     exact kOut
    ·rcases br_inv h with ⟨b16_3, h⟩ | ⟨b16_3, h⟩
     ·refine kRs 255 [Tm 98 (bv true)] (rp 4 (.b false) (.s (.t 41) [iv (l12_1.length : Int)] :: (rp 6 (.b false) (rp 46 (.b true) [])))) (.r 4 b16_1 (.c (c_len (e := (e_l 6 TEntry.en)) (l := l12_1)) (.r 2 b16_1 (.r 4 b16_2 (.r 10 b16_3 (.r 37 rT .n)))))) ?_
      refine kCt rT ?_
      refine kRs 0 [Tm 4 (bv false)] [] .n ?_
      cases some_inj h
      refine kWo ?_
      refine kRt ?_
      exact kOut
     ·obtain ⟨x16_4, a16_5, e16_6, h⟩ := ix_inv h
      rcases br_inv h with ⟨b16_7, h⟩ | ⟨b16_7, h⟩
      ·refine kRs 255 [Tm 98 (bv true)] (rp 4 (.b false) (.s (.t 41) [iv (l12_1.length : Int)] :: (rp 12 (.b false) (.c ((e_l 6 TEntry.en) x16_4) :: (.b false :: (.b false :: (.s (.t 57) [iv (x16_4.length : Int)] :: (.b false :: (.b false :: (rp 36 (.b true) [])))))))))) (.r 4 b16_1 (.c (c_len (e := (e_l 6 TEntry.en)) (l := l12_1)) (.r 2 b16_1 (.r 4 b16_2 (.r 6 b16_3 (.c (c_ix (e := (e_l 6 TEntry.en)) a16_5 e16_6) (.c (c_el (e := (e_l 6 TEntry.en)) e16_6) (.r 2 b16_3 (.c (c_len (e := TEntry.en) (l := x16_4)) (.r 2 b16_3 (.r 12 b16_7 (.r 25 rT .n)))))))))))) ?_
       refine kCt rT ?_
       refine kRs 0 [Tm 4 (bv false)] [] .n ?_
       cases some_inj h
       refine kWo ?_
       refine kRt ?_
       exact kOut
      ·obtain ⟨x16_8, a16_9, e16_10, h⟩ := ix_inv h
       obtain ⟨x16_11, a16_12, e16_13, h⟩ := ix_inv h
       rcases br_inv h with ⟨b16_14, h⟩ | ⟨b16_14, h⟩
       ·refine kRs 255 [Tm 98 (bv true)] (rp 4 (.b false) (.s (.t 41) [iv (l12_1.length : Int)] :: (rp 12 (.b false) (.c ((e_l 6 TEntry.en) x16_4) :: (.b false :: (.b false :: (.s (.t 57) [iv (x16_4.length : Int)] :: (rp 6 (.b false) (.c ((e_l 6 TEntry.en) x16_8) :: (rp 5 (.b false) (.c (TEntry.en x16_11) :: (.b false :: (.b false :: (.b false :: (rp 24 (.b true) []))))))))))))))) (.r 4 b16_1 (.c (c_len (e := (e_l 6 TEntry.en)) (l := l12_1)) (.r 2 b16_1 (.r 4 b16_2 (.r 6 b16_3 (.c (c_ix (e := (e_l 6 TEntry.en)) a16_5 e16_6) (.c (c_el (e := (e_l 6 TEntry.en)) e16_6) (.r 2 b16_3 (.c (c_len (e := TEntry.en) (l := x16_4)) (.r 2 b16_3 (.r 4 b16_7 (.c (c_ix (e := (e_l 6 TEntry.en)) a16_9 e16_10) (.c (c_el (e := (e_l 6 TEntry.en)) e16_10) (.r 5 b16_7 (.c (c_ix (e := TEntry.en) a16_12 e16_13) (.c (c_el (e := TEntry.en) e16_13) (.r 3 b16_7 (.r 8 b16_14 (.r 17 rT .n))))))))))))))))))) ?_
        refine kCt rT ?_
        refine kRs 0 [Tm 4 (bv false)] [] .n ?_
        cases some_inj h
        refine kWo ?_
        refine kRt ?_
        exact kOut
       ·rcases br_inv h with ⟨b16_15, h⟩ | ⟨b16_15, h⟩
        ·rcases br_inv h with ⟨b16_16, h⟩ | ⟨b16_16, h⟩
         ·refine kRs 255 [Tm 98 (bv true)] (rp 4 (.b false) (.s (.t 41) [iv (l12_1.length : Int)] :: (rp 12 (.b false) (.c ((e_l 6 TEntry.en) x16_4) :: (.b false :: (.b false :: (.s (.t 57) [iv (x16_4.length : Int)] :: (rp 6 (.b false) (.c ((e_l 6 TEntry.en) x16_8) :: (rp 5 (.b false) (.c (TEntry.en x16_11) :: (rp 8 (.b false) (.i 0 :: (.b false :: (.b false :: (.b false :: (rp 16 (.b true) []))))))))))))))))) (.r 4 b16_1 (.c (c_len (e := (e_l 6 TEntry.en)) (l := l12_1)) (.r 2 b16_1 (.r 4 b16_2 (.r 6 b16_3 (.c (c_ix (e := (e_l 6 TEntry.en)) a16_5 e16_6) (.c (c_el (e := (e_l 6 TEntry.en)) e16_6) (.r 2 b16_3 (.c (c_len (e := TEntry.en) (l := x16_4)) (.r 2 b16_3 (.r 4 b16_7 (.c (c_ix (e := (e_l 6 TEntry.en)) a16_9 e16_10) (.c (c_el (e := (e_l 6 TEntry.en)) e16_10) (.r 5 b16_7 (.c (c_ix (e := TEntry.en) a16_12 e16_13) (.c (c_el (e := TEntry.en) e16_13) (.r 3 b16_7 (.r 5 b16_14 (.c (c_ib (j := 0) (n := 4) b16_15 (Eq.refl true)) (.c (c_ii (j := 0) b16_15) (.r 3 b16_14 (.r 16 b16_16 (.c rT .n))))))))))))))))))))))) ?_
          refine kCt rT ?_
          refine kRs 0 [Tm 4 (bv false)] [] .n ?_
          cases some_inj h
          refine kWo ?_
          refine kRt ?_
          exact kOut
         ·obtain ⟨x16_17, a16_18, e16_19, h⟩ := ix_inv h
          obtain ⟨x16_20, a16_21, e16_22, h⟩ := ix_inv h
          obtain ⟨r16_23, h16_24, h⟩ := bd_inv h
          refine kRs 255 [Tm 98 (bv (!r16_23))] (rp 4 (.b false) (.s (.t 41) [iv (l12_1.length : Int)] :: (rp 12 (.b false) (.c ((e_l 6 TEntry.en) x16_4) :: (.b false :: (.b false :: (.s (.t 57) [iv (x16_4.length : Int)] :: (rp 6 (.b false) (.c ((e_l 6 TEntry.en) x16_8) :: (rp 5 (.b false) (.c (TEntry.en x16_11) :: (rp 8 (.b false) (.i 0 :: (rp 9 (.b false) (.c ((e_l 6 TEntry.en) x16_17) :: (rp 5 (.b false) [.c (TEntry.en x16_20), .b false, .b false, .b false, .a ⟨bv r16_23, []⟩, .b false, .b false])))))))))))))))) (.r 4 b16_1 (.c (c_len (e := (e_l 6 TEntry.en)) (l := l12_1)) (.r 2 b16_1 (.r 4 b16_2 (.r 6 b16_3 (.c (c_ix (e := (e_l 6 TEntry.en)) a16_5 e16_6) (.c (c_el (e := (e_l 6 TEntry.en)) e16_6) (.r 2 b16_3 (.c (c_len (e := TEntry.en) (l := x16_4)) (.r 2 b16_3 (.r 4 b16_7 (.c (c_ix (e := (e_l 6 TEntry.en)) a16_9 e16_10) (.c (c_el (e := (e_l 6 TEntry.en)) e16_10) (.r 5 b16_7 (.c (c_ix (e := TEntry.en) a16_12 e16_13) (.c (c_el (e := TEntry.en) e16_13) (.r 3 b16_7 (.r 5 b16_14 (.c (c_ib (j := 0) (n := 4) b16_15 (Eq.refl true)) (.c (c_ii (j := 0) b16_15) (.r 3 b16_14 (.r 6 b16_16 (.c (c_ix (e := (e_l 6 TEntry.en)) a16_18 e16_19) (.c (c_el (e := (e_l 6 TEntry.en)) e16_19) (.r 5 b16_16 (.c (c_ix (e := TEntry.en) a16_21 e16_22) (.c (c_el (e := TEntry.en) e16_22) (.r 3 b16_16 (.c (Asks.of (C := Meets Try.prog) (diwanref1_SameTxn.meets fu x15_1.T x16_20.T _ h16_24)) (.r 2 b16_16 (.c rT .n))))))))))))))))))))))))))))))) ?_
          rcases br_inv h with ⟨b23_0, h⟩ | ⟨b23_0, h⟩
          ·refine kCt b23_0 ?_
           refine kRs 0 [Tm 4 (bv false)] [] .n ?_
           cases some_inj h
           refine kWo ?_
           refine kRt ?_
           exact kOut
          ·refine kCe b23_0 ?_
           refine kSk ?_
           refine kCd (cR (cR (cB (cL (cR (cB (cB (cR (cL (cR (cR (cR (cR (cR (cR bd3))))))))))))))) [.blk 1, .seq (cR (cR (cB (cB (cR (cL (cR (cR (cR (cR (cR (cR bd3)))))))))))), .lp (cB (cR (cL (cR (cR (cR (cR (cR (cR bd3)))))))))] ?_
           exact kWk (Jk34 h)
        ·rcases br_inv h with ⟨b16_16, h⟩ | ⟨b16_16, h⟩
         ·rcases br_inv h with ⟨b16_17, h⟩ | ⟨b16_17, h⟩
          ·refine kRs 255 [Tm 98 (bv true)] (rp 4 (.b false) (.s (.t 41) [iv (l12_1.length : Int)] :: (rp 12 (.b false) (.c ((e_l 6 TEntry.en) x16_4) :: (.b false :: (.b false :: (.s (.t 57) [iv (x16_4.length : Int)] :: (rp 6 (.b false) (.c ((e_l 6 TEntry.en) x16_8) :: (rp 5 (.b false) (.c (TEntry.en x16_11) :: (rp 8 (.b false) (.i 1 :: (.b false :: (.b false :: (.b false :: (rp 16 (.b true) []))))))))))))))))) (.r 4 b16_1 (.c (c_len (e := (e_l 6 TEntry.en)) (l := l12_1)) (.r 2 b16_1 (.r 4 b16_2 (.r 6 b16_3 (.c (c_ix (e := (e_l 6 TEntry.en)) a16_5 e16_6) (.c (c_el (e := (e_l 6 TEntry.en)) e16_6) (.r 2 b16_3 (.c (c_len (e := TEntry.en) (l := x16_4)) (.r 2 b16_3 (.r 4 b16_7 (.c (c_ix (e := (e_l 6 TEntry.en)) a16_9 e16_10) (.c (c_el (e := (e_l 6 TEntry.en)) e16_10) (.r 5 b16_7 (.c (c_ix (e := TEntry.en) a16_12 e16_13) (.c (c_el (e := TEntry.en) e16_13) (.r 3 b16_7 (.r 5 b16_14 (.c (c_ib (j := 1) (n := 4) b16_16 (Eq.refl true)) (.c (c_ii (j := 1) b16_16) (.r 3 b16_14 (.r 16 b16_17 (.c rT .n))))))))))))))))))))))) ?_
           refine kCt rT ?_
           refine kRs 0 [Tm 4 (bv false)] [] .n ?_
           cases some_inj h
           refine kWo ?_
           refine kRt ?_
           exact kOut
          ·obtain ⟨x16_18, a16_19, e16_20, h⟩ := ix_inv h
           obtain ⟨x16_21, a16_22, e16_23, h⟩ := ix_inv h
           obtain ⟨r16_24, h16_25, h⟩ := bd_inv h
           refine kRs 255 [Tm 98 (bv (!r16_24))] (rp 4 (.b false) (.s (.t 41) [iv (l12_1.length : Int)] :: (rp 12 (.b false) (.c ((e_l 6 TEntry.en) x16_4) :: (.b false :: (.b false :: (.s (.t 57) [iv (x16_4.length : Int)] :: (rp 6 (.b false) (.c ((e_l 6 TEntry.en) x16_8) :: (rp 5 (.b false) (.c (TEntry.en x16_11) :: (rp 8 (.b false) (.i 1 :: (rp 9 (.b false) (.c ((e_l 6 TEntry.en) x16_18) :: (rp 5 (.b false) [.c (TEntry.en x16_21), .b false, .b false, .b false, .a ⟨bv r16_24, []⟩, .b false, .b false])))))))))))))))) (.r 4 b16_1 (.c (c_len (e := (e_l 6 TEntry.en)) (l := l12_1)) (.r 2 b16_1 (.r 4 b16_2 (.r 6 b16_3 (.c (c_ix (e := (e_l 6 TEntry.en)) a16_5 e16_6) (.c (c_el (e := (e_l 6 TEntry.en)) e16_6) (.r 2 b16_3 (.c (c_len (e := TEntry.en) (l := x16_4)) (.r 2 b16_3 (.r 4 b16_7 (.c (c_ix (e := (e_l 6 TEntry.en)) a16_9 e16_10) (.c (c_el (e := (e_l 6 TEntry.en)) e16_10) (.r 5 b16_7 (.c (c_ix (e := TEntry.en) a16_12 e16_13) (.c (c_el (e := TEntry.en) e16_13) (.r 3 b16_7 (.r 5 b16_14 (.c (c_ib (j := 1) (n := 4) b16_16 (Eq.refl true)) (.c (c_ii (j := 1) b16_16) (.r 3 b16_14 (.r 6 b16_17 (.c (c_ix (e := (e_l 6 TEntry.en)) a16_19 e16_20) (.c (c_el (e := (e_l 6 TEntry.en)) e16_20) (.r 5 b16_17 (.c (c_ix (e := TEntry.en) a16_22 e16_23) (.c (c_el (e := TEntry.en) e16_23) (.r 3 b16_17 (.c (Asks.of (C := Meets Try.prog) (diwanref1_SameTxn.meets fu x15_1.T x16_21.T _ h16_25)) (.r 2 b16_17 (.c rT .n))))))))))))))))))))))))))))))) ?_
           rcases br_inv h with ⟨b26_0, h⟩ | ⟨b26_0, h⟩
           ·refine kCt b26_0 ?_
            refine kRs 0 [Tm 4 (bv false)] [] .n ?_
            cases some_inj h
            refine kWo ?_
            refine kRt ?_
            exact kOut
           ·refine kCe b26_0 ?_
            refine kSk ?_
            refine kCd (cR (cR (cB (cL (cR (cB (cB (cR (cL (cR (cR (cR (cR (cR (cR bd3))))))))))))))) [.blk 1, .seq (cR (cR (cB (cB (cR (cL (cR (cR (cR (cR (cR (cR bd3)))))))))))), .lp (cB (cR (cL (cR (cR (cR (cR (cR (cR bd3)))))))))] ?_
            exact kWk (Jk34 h)
         ·rcases br_inv h with ⟨b16_17, h⟩ | ⟨b16_17, h⟩
          ·rcases br_inv h with ⟨b16_18, h⟩ | ⟨b16_18, h⟩
           ·refine kRs 255 [Tm 98 (bv true)] (rp 4 (.b false) (.s (.t 41) [iv (l12_1.length : Int)] :: (rp 12 (.b false) (.c ((e_l 6 TEntry.en) x16_4) :: (.b false :: (.b false :: (.s (.t 57) [iv (x16_4.length : Int)] :: (rp 6 (.b false) (.c ((e_l 6 TEntry.en) x16_8) :: (rp 5 (.b false) (.c (TEntry.en x16_11) :: (rp 8 (.b false) (.i 2 :: (.b false :: (.b false :: (.b false :: (rp 16 (.b true) []))))))))))))))))) (.r 4 b16_1 (.c (c_len (e := (e_l 6 TEntry.en)) (l := l12_1)) (.r 2 b16_1 (.r 4 b16_2 (.r 6 b16_3 (.c (c_ix (e := (e_l 6 TEntry.en)) a16_5 e16_6) (.c (c_el (e := (e_l 6 TEntry.en)) e16_6) (.r 2 b16_3 (.c (c_len (e := TEntry.en) (l := x16_4)) (.r 2 b16_3 (.r 4 b16_7 (.c (c_ix (e := (e_l 6 TEntry.en)) a16_9 e16_10) (.c (c_el (e := (e_l 6 TEntry.en)) e16_10) (.r 5 b16_7 (.c (c_ix (e := TEntry.en) a16_12 e16_13) (.c (c_el (e := TEntry.en) e16_13) (.r 3 b16_7 (.r 5 b16_14 (.c (c_ib (j := 2) (n := 4) b16_17 (Eq.refl true)) (.c (c_ii (j := 2) b16_17) (.r 3 b16_14 (.r 16 b16_18 (.c rT .n))))))))))))))))))))))) ?_
            refine kCt rT ?_
            refine kRs 0 [Tm 4 (bv false)] [] .n ?_
            cases some_inj h
            refine kWo ?_
            refine kRt ?_
            exact kOut
           ·obtain ⟨x16_19, a16_20, e16_21, h⟩ := ix_inv h
            obtain ⟨x16_22, a16_23, e16_24, h⟩ := ix_inv h
            obtain ⟨r16_25, h16_26, h⟩ := bd_inv h
            refine kRs 255 [Tm 98 (bv (!r16_25))] (rp 4 (.b false) (.s (.t 41) [iv (l12_1.length : Int)] :: (rp 12 (.b false) (.c ((e_l 6 TEntry.en) x16_4) :: (.b false :: (.b false :: (.s (.t 57) [iv (x16_4.length : Int)] :: (rp 6 (.b false) (.c ((e_l 6 TEntry.en) x16_8) :: (rp 5 (.b false) (.c (TEntry.en x16_11) :: (rp 8 (.b false) (.i 2 :: (rp 9 (.b false) (.c ((e_l 6 TEntry.en) x16_19) :: (rp 5 (.b false) [.c (TEntry.en x16_22), .b false, .b false, .b false, .a ⟨bv r16_25, []⟩, .b false, .b false])))))))))))))))) (.r 4 b16_1 (.c (c_len (e := (e_l 6 TEntry.en)) (l := l12_1)) (.r 2 b16_1 (.r 4 b16_2 (.r 6 b16_3 (.c (c_ix (e := (e_l 6 TEntry.en)) a16_5 e16_6) (.c (c_el (e := (e_l 6 TEntry.en)) e16_6) (.r 2 b16_3 (.c (c_len (e := TEntry.en) (l := x16_4)) (.r 2 b16_3 (.r 4 b16_7 (.c (c_ix (e := (e_l 6 TEntry.en)) a16_9 e16_10) (.c (c_el (e := (e_l 6 TEntry.en)) e16_10) (.r 5 b16_7 (.c (c_ix (e := TEntry.en) a16_12 e16_13) (.c (c_el (e := TEntry.en) e16_13) (.r 3 b16_7 (.r 5 b16_14 (.c (c_ib (j := 2) (n := 4) b16_17 (Eq.refl true)) (.c (c_ii (j := 2) b16_17) (.r 3 b16_14 (.r 6 b16_18 (.c (c_ix (e := (e_l 6 TEntry.en)) a16_20 e16_21) (.c (c_el (e := (e_l 6 TEntry.en)) e16_21) (.r 5 b16_18 (.c (c_ix (e := TEntry.en) a16_23 e16_24) (.c (c_el (e := TEntry.en) e16_24) (.r 3 b16_18 (.c (Asks.of (C := Meets Try.prog) (diwanref1_SameTxn.meets fu x15_1.T x16_22.T _ h16_26)) (.r 2 b16_18 (.c rT .n))))))))))))))))))))))))))))))) ?_
            rcases br_inv h with ⟨b29_0, h⟩ | ⟨b29_0, h⟩
            ·refine kCt b29_0 ?_
             refine kRs 0 [Tm 4 (bv false)] [] .n ?_
             cases some_inj h
             refine kWo ?_
             refine kRt ?_
             exact kOut
            ·refine kCe b29_0 ?_
             refine kSk ?_
             refine kCd (cR (cR (cB (cL (cR (cB (cB (cR (cL (cR (cR (cR (cR (cR (cR bd3))))))))))))))) [.blk 1, .seq (cR (cR (cB (cB (cR (cL (cR (cR (cR (cR (cR (cR bd3)))))))))))), .lp (cB (cR (cL (cR (cR (cR (cR (cR (cR bd3)))))))))] ?_
             exact kWk (Jk34 h)
          ·rcases br_inv h with ⟨b16_18, h⟩ | ⟨b16_18, h⟩
           ·rcases br_inv h with ⟨b16_19, h⟩ | ⟨b16_19, h⟩
            ·refine kRs 255 [Tm 98 (bv true)] (rp 4 (.b false) (.s (.t 41) [iv (l12_1.length : Int)] :: (rp 12 (.b false) (.c ((e_l 6 TEntry.en) x16_4) :: (.b false :: (.b false :: (.s (.t 57) [iv (x16_4.length : Int)] :: (rp 6 (.b false) (.c ((e_l 6 TEntry.en) x16_8) :: (rp 5 (.b false) (.c (TEntry.en x16_11) :: (rp 8 (.b false) (.i 3 :: (.b false :: (.b false :: (.b false :: (rp 16 (.b true) []))))))))))))))))) (.r 4 b16_1 (.c (c_len (e := (e_l 6 TEntry.en)) (l := l12_1)) (.r 2 b16_1 (.r 4 b16_2 (.r 6 b16_3 (.c (c_ix (e := (e_l 6 TEntry.en)) a16_5 e16_6) (.c (c_el (e := (e_l 6 TEntry.en)) e16_6) (.r 2 b16_3 (.c (c_len (e := TEntry.en) (l := x16_4)) (.r 2 b16_3 (.r 4 b16_7 (.c (c_ix (e := (e_l 6 TEntry.en)) a16_9 e16_10) (.c (c_el (e := (e_l 6 TEntry.en)) e16_10) (.r 5 b16_7 (.c (c_ix (e := TEntry.en) a16_12 e16_13) (.c (c_el (e := TEntry.en) e16_13) (.r 3 b16_7 (.r 5 b16_14 (.c (c_ib (j := 3) (n := 4) b16_18 (Eq.refl true)) (.c (c_ii (j := 3) b16_18) (.r 3 b16_14 (.r 16 b16_19 (.c rT .n))))))))))))))))))))))) ?_
             refine kCt rT ?_
             refine kRs 0 [Tm 4 (bv false)] [] .n ?_
             cases some_inj h
             refine kWo ?_
             refine kRt ?_
             exact kOut
            ·obtain ⟨x16_20, a16_21, e16_22, h⟩ := ix_inv h
             obtain ⟨x16_23, a16_24, e16_25, h⟩ := ix_inv h
             obtain ⟨r16_26, h16_27, h⟩ := bd_inv h
             refine kRs 255 [Tm 98 (bv (!r16_26))] (rp 4 (.b false) (.s (.t 41) [iv (l12_1.length : Int)] :: (rp 12 (.b false) (.c ((e_l 6 TEntry.en) x16_4) :: (.b false :: (.b false :: (.s (.t 57) [iv (x16_4.length : Int)] :: (rp 6 (.b false) (.c ((e_l 6 TEntry.en) x16_8) :: (rp 5 (.b false) (.c (TEntry.en x16_11) :: (rp 8 (.b false) (.i 3 :: (rp 9 (.b false) (.c ((e_l 6 TEntry.en) x16_20) :: (rp 5 (.b false) [.c (TEntry.en x16_23), .b false, .b false, .b false, .a ⟨bv r16_26, []⟩, .b false, .b false])))))))))))))))) (.r 4 b16_1 (.c (c_len (e := (e_l 6 TEntry.en)) (l := l12_1)) (.r 2 b16_1 (.r 4 b16_2 (.r 6 b16_3 (.c (c_ix (e := (e_l 6 TEntry.en)) a16_5 e16_6) (.c (c_el (e := (e_l 6 TEntry.en)) e16_6) (.r 2 b16_3 (.c (c_len (e := TEntry.en) (l := x16_4)) (.r 2 b16_3 (.r 4 b16_7 (.c (c_ix (e := (e_l 6 TEntry.en)) a16_9 e16_10) (.c (c_el (e := (e_l 6 TEntry.en)) e16_10) (.r 5 b16_7 (.c (c_ix (e := TEntry.en) a16_12 e16_13) (.c (c_el (e := TEntry.en) e16_13) (.r 3 b16_7 (.r 5 b16_14 (.c (c_ib (j := 3) (n := 4) b16_18 (Eq.refl true)) (.c (c_ii (j := 3) b16_18) (.r 3 b16_14 (.r 6 b16_19 (.c (c_ix (e := (e_l 6 TEntry.en)) a16_21 e16_22) (.c (c_el (e := (e_l 6 TEntry.en)) e16_22) (.r 5 b16_19 (.c (c_ix (e := TEntry.en) a16_24 e16_25) (.c (c_el (e := TEntry.en) e16_25) (.r 3 b16_19 (.c (Asks.of (C := Meets Try.prog) (diwanref1_SameTxn.meets fu x15_1.T x16_23.T _ h16_27)) (.r 2 b16_19 (.c rT .n))))))))))))))))))))))))))))))) ?_
             rcases br_inv h with ⟨b32_0, h⟩ | ⟨b32_0, h⟩
             ·refine kCt b32_0 ?_
              refine kRs 0 [Tm 4 (bv false)] [] .n ?_
              cases some_inj h
              refine kWo ?_
              refine kRt ?_
              exact kOut
             ·refine kCe b32_0 ?_
              refine kSk ?_
              refine kCd (cR (cR (cB (cL (cR (cB (cB (cR (cL (cR (cR (cR (cR (cR (cR bd3))))))))))))))) [.blk 1, .seq (cR (cR (cB (cB (cR (cL (cR (cR (cR (cR (cR (cR bd3)))))))))))), .lp (cB (cR (cL (cR (cR (cR (cR (cR (cR bd3)))))))))] ?_
              exact kWk (Jk34 h)
           ·exact no_none h
  ·refine kCe b14_0 ?_
   cases some_inj h
   refine kWo ?_
   refine kXt 0 ?_
   exact kOut
def diwanlaw14_MergeOnce (fu : Nat) (picks : List Int) (who : Int) : Option Bool :=
 bd (diwanlaw14_begun) fun r2_1 =>
 br (!r2_1)
  (some false)
  (br (decide ((picks.length : Int) > 250))
   (some true)
   (bd (diwanlaw14_logs fu picks) fun r8_1 =>
   bd (merge_All fu r8_1) fun r9_1 =>
   bd (diwanlaw14_MergeOnce.lp12 fu who r8_1 r9_1 fu 0 (TA4_int.mk 0 0 0 0)) fun o_ => (match o_ with
   | .inl _ =>
    br ((r8_1.length : Int) == 0)
     (some ((r9_1.length : Int) == 0))
     (gd (!decide ((r8_1.length : Int) = 0)) <|
     gd (decide (([] : List (List TEntry)).length + r8_1.length ≤ 4294967296)) <|
     ix r8_1 (Int.tmod (w64 who) (r8_1.length : Int)) fun x56_1 =>
     gd (decide (([] : List TEntry).length + x56_1.length ≤ 4294967296)) <|
     gd (decide (x56_1.length + ([(TEntry.mk 9 false (TTxn.mk 9 9 [] []))] : List TEntry).length ≤ 4294967296)) <|
     ix r8_1 (Int.tmod (w64 who) (r8_1.length : Int)) fun x56_6 =>
     bd (merge_All fu (r8_1.set (Int.tmod (w64 who) (r8_1.length : Int)).toNat (x56_1 ++ ([(TEntry.mk 9 false (TTxn.mk 9 9 [] []))] : List TEntry)))) fun r57_1 =>
     bd (merge_First fu r57_1 9 9) fun r58_1 =>
     br (r58_1 == 0)
      (some true)
      (some (decide (r58_1 > (r9_1.length : Int)))))
   | .inr _ =>
    some false)))
theorem diwanlaw14_MergeOnce.meets (fu : Nat) (picks : List Int) (who : Int) (z0 : Bool) (h : diwanlaw14_MergeOnce fu picks who = some z0) : Meets Try.prog ⟨3, [sS 1 e_u8 picks, .data (.val (.int .u8 who))], []⟩ ⟨bv z0, []⟩ := by
 refine kMt hmix diwanlaw14_MergeOnce.O Try.f3 bd3 3 ?_
 unfold diwanlaw14_MergeOnce at h
 refine kRs 3 [] [] .n ?_
 refine kSq ?_
 obtain ⟨r2_1, h2_2, h⟩ := bd_inv h
 refine kRs 3 [Tm 16 (bv (!r2_1))] [.a ⟨bv r2_1, []⟩] (.c (Asks.of (C := Meets Try.prog) (diwanlaw14_begun.meets _ h2_2)) .n) ?_
 rcases br_inv h with ⟨b3_0, h⟩ | ⟨b3_0, h⟩
 ·refine kCt b3_0 ?_
  refine kRs 0 [Tm 4 (bv false)] [] .n ?_
  refine kRt ?_
  have h_ := some_inj h
  subst h_
  exact kFr
 ·refine kCe b3_0 ?_
  refine kSk ?_
  refine kCd (cR (cR bd3)) [] ?_
  refine kSq ?_
  refine kRs 6 [Tm 19 (bv (decide ((picks.length : Int) > 250)))] [.s (.t 18) [iv (picks.length : Int)]] (.c (c_len (e := e_u8) (l := picks)) .n) ?_
  rcases br_inv h with ⟨b6_0, h⟩ | ⟨b6_0, h⟩
  ·refine kCt b6_0 ?_
   refine kRs 0 [Tm 4 (bv true)] [] .n ?_
   refine kRt ?_
   have h_ := some_inj h
   subst h_
   exact kFr
  ·refine kCe b6_0 ?_
   refine kSk ?_
   refine kCd (cR (cR (cR bd3))) [] ?_
   obtain ⟨r8_1, h8_2, h⟩ := bd_inv h
   refine kRs 4 [Tm 5 (sO 1 (e_l 6 TEntry.en) r8_1)] [.a ⟨sO 1 (e_l 6 TEntry.en) r8_1, []⟩] (.c (Asks.of (C := Meets Try.prog) (diwanlaw14_logs.meets fu picks _ h8_2)) .n) ?_
   obtain ⟨r9_1, h9_2, h⟩ := bd_inv h
   refine kRs 2 [Tm 5 (sS 1 (e_l 6 TEntry.en) r8_1), Tm 6 (sO 6 TPlace.en r9_1)] [.a ⟨sO 6 TPlace.en r9_1, []⟩] (.c (Asks.of (C := Meets Try.prog) (merge_All.meets fu r8_1 _ h9_2)) .n) ?_
   refine kRs 7 [Tm 7 (.ptr 7 0), Ob 7 (TA4_int.ob (TA4_int.mk 0 0 0 0))] [] .n ?_
   refine kSq ?_
   refine kRs 31 [Tm 8 (iv 0)] [] .n ?_
   refine kBk 0 ?_
   obtain ⟨o50, ho50, h⟩ := bd_inv h
   refine kUs (diwanlaw14_MergeOnce.lp12_ok fu who r8_1 r9_1 _ 0 (TA4_int.mk 0 0 0 0) _ ho50) ?_
   intro e_ τ_ hp_
   rcases o50 with o50 | o50
   ·obtain ⟨⟩ := o50
    obtain ⟨rfl, rfl⟩ := hp_
    refine kCd (cR (cR (cR (cR (cR (cR (cR bd3))))))) [] ?_
    refine kSq ?_
    refine kRs 7 [Tm 128 (bv ((r8_1.length : Int) == 0))] [.s (.t 127) [iv (r8_1.length : Int)]] (.c (c_len (e := (e_l 6 TEntry.en)) (l := r8_1)) .n) ?_
    rcases br_inv h with ⟨b52_0, h⟩ | ⟨b52_0, h⟩
    ·refine kCt b52_0 ?_
     refine kRs 0 [Tm 4 (bv ((r9_1.length : Int) == 0))] [.s (.t 130) [iv (r9_1.length : Int)]] (.c (c_len (e := TPlace.en) (l := r9_1)) .n) ?_
     refine kRt ?_
     have h_ := some_inj h
     subst h_
     exact kFr
    ·refine kCe b52_0 ?_
     refine kSk ?_
     refine kCd (cR (cR (cR (cR (cR (cR (cR (cR bd3)))))))) [] ?_
     obtain ⟨c54_1, h⟩ := gd_inv h
     refine kRs 12 [Tm 11 (iv (Int.tmod (w64 who) (r8_1.length : Int)))] [.s (.t 135) [iv (r8_1.length : Int)]] (.c (c_len (e := (e_l 6 TEntry.en)) (l := r8_1)) (.c c54_1 .n)) ?_
     obtain ⟨c55_1, h⟩ := gd_inv h
     refine kRs 7 [Tm 12 (sO 1 (e_l 6 TEntry.en) r8_1)] [] (.c (c_al (e := (e_l 6 TEntry.en)) (f := (e_l 6 TEntry.en)) c55_1) .n) ?_
     obtain ⟨x56_1, a56_2, e56_3, h⟩ := ix_inv h
     obtain ⟨c56_4, h⟩ := gd_inv h
     obtain ⟨c56_5, h⟩ := gd_inv h
     obtain ⟨x56_6, a56_7, e56_8, h⟩ := ix_inv h
     refine kRs 8 [Tm 12 (sO 1 (e_l 6 TEntry.en) (r8_1.set (Int.tmod (w64 who) (r8_1.length : Int)).toNat (x56_1 ++ ([(TEntry.mk 9 false (TTxn.mk 9 9 [] []))] : List TEntry))))] [.c ((e_l 6 TEntry.en) x56_1), .s (.t 151) [sO 6 TEntry.en (x56_1 ++ ([(TEntry.mk 9 false (TTxn.mk 9 9 [] []))] : List TEntry))], .c ((e_l 6 TEntry.en) x56_6), .s (.t 12) [sO 1 (e_l 6 TEntry.en) (r8_1.set (Int.tmod (w64 who) (r8_1.length : Int)).toNat (x56_1 ++ ([(TEntry.mk 9 false (TTxn.mk 9 9 [] []))] : List TEntry)))]] (.c (c_ix (e := (e_l 6 TEntry.en)) a56_2 e56_3) (.c (c_el (e := (e_l 6 TEntry.en)) e56_3) (.c (c_al (e := TEntry.en) (f := TEntry.en) c56_4) (.c (c_al (e := TEntry.en) (f := TEntry.en) c56_5) (.c (congrArg (fun d : DV => [AV.data d]) (c_app (e := TEntry.en) (s := 6) (l := x56_1) (m := ([(TEntry.mk 9 false (TTxn.mk 9 9 [] []))] : List TEntry)))) (.c (c_ix (e := (e_l 6 TEntry.en)) a56_7 e56_8) (.c (c_el (e := (e_l 6 TEntry.en)) e56_8) (.c (congrArg (fun d : DV => [AV.data d]) (c_set (e := (e_l 6 TEntry.en)) (s := 1) (nl := none) (l := r8_1) (i := (Int.tmod (w64 who) (r8_1.length : Int)).toNat) (x := (x56_1 ++ ([(TEntry.mk 9 false (TTxn.mk 9 9 [] []))] : List TEntry))))) .n)))))))) ?_
     obtain ⟨r57_1, h57_2, h⟩ := bd_inv h
     refine kRs 2 [Tm 13 (sO 6 TPlace.en r57_1)] [.a ⟨sO 6 TPlace.en r57_1, []⟩] (.c (Asks.of (C := Meets Try.prog) (merge_All.meets fu (r8_1.set (Int.tmod (w64 who) (r8_1.length : Int)).toNat (x56_1 ++ ([(TEntry.mk 9 false (TTxn.mk 9 9 [] []))] : List TEntry))) _ h57_2)) .n) ?_
     obtain ⟨r58_1, h58_2, h⟩ := bd_inv h
     refine kRs 2 [Tm 14 (iv r58_1)] [.a ⟨iv r58_1, []⟩] (.c (Asks.of (C := Meets Try.prog) (merge_First.meets fu r57_1 9 9 _ h58_2)) .n) ?_
     rcases br_inv h with ⟨b59_1, h⟩ | ⟨b59_1, h⟩
     ·refine kRs 0 [Tm 4 (bv true)] (rp 5 (.b true) []) (.r 5 b59_1 .n) ?_
      refine kRt ?_
      have h_ := some_inj h
      subst h_
      exact kFr
     ·refine kRs 0 [Tm 4 (bv (decide (r58_1 > (r9_1.length : Int))))] [.b false, .b false, .b false, .s (.t 162) [iv (r9_1.length : Int)], .b false, .b false] (.r 3 b59_1 (.c (c_len (e := TPlace.en) (l := r9_1)) (.r 2 b59_1 .n))) ?_
      refine kRt ?_
      have h_ := some_inj h
      subst h_
      exact kFr
   ·obtain ⟨⟩ := o50
    obtain ⟨rfl, rfl⟩ := hp_
    have h_ := some_inj h
    subst h_
    exact kFr
end Go.Proofs.Ytepaajbkmkclnaa.Told
