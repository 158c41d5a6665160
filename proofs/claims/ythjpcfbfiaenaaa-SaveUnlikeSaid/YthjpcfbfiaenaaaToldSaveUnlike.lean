/- Functions of the program told as Lean functions, with the walks of their code in the machine by value. -/
import Derived.Test.YthjpcfbfiaenaaaProg
import Derived.Test.YthjpcfbfiaenaaaVam2
import Derived.Test.YthjpcfbfiaenaaaToldSaveUnlikep1
noncomputable section
namespace Go.Proofs.Ythjpcfbfiaenaaa.Told
open Go Go.Proofs Go.Proofs.Ythjpcfbfiaenaaa Go.Proofs.Ythjpcfbfiaenaaa.Vam
set_option linter.unusedVariables false
set_option maxRecDepth 100000
def bd60 : Code := (Try.f60.body).getD .skip
def diwanref1_Touches.O : Nat → Nat := fun t => bif ([3, 6, 7, 8] : List Nat).any (Nat.beq t) then 1 else 0
def diwanref1_Touches.lp3 (fu : Nat) (l3_0 : Int) (l3_1 : Int) (l3_3 : TTxn) : Nat → Int → Option (Unit ⊕ Unit)
  | 0, _ => none
  | n_ + 1, l3_2 =>
  br (decide (l3_2 < (l3_3.Reads.length : Int)))
   (ix l3_3.Reads l3_2 fun x6_1 =>
   bd (diwanref1_ShardOf fu x6_1.Key l3_1) fun r6_4 =>
   br (r6_4 == l3_0)
    (some (.inr ()))
    (diwanref1_Touches.lp3 fu l3_0 l3_1 l3_3 n_ (w64 (l3_2 + 1))))
   (some (.inl ()))
def diwanref1_Touches.lp3_post (l3_0 : Int) (l3_1 : Int) (l3_3 : TTxn) (r_ : (Unit ⊕ Unit)) : Wy → St → Prop := fun e τ => match r_ with
  | .inl _ => e = .exit 0 ∧ τ = ofL [Tm 1 (iv l3_0), Tm 2 (iv l3_1), Tm 3 (.ptr 3 0), Ob 3 (TTxn.ob l3_3)]
  | .inr _ => e = .ret ∧ τ = ofL [Tm 6 (bv true)]
theorem diwanref1_Touches.lp3_ok (fu : Nat) (l3_0 : Int) (l3_1 : Int) (l3_3 : TTxn) : ∀ (n_ : Nat) (l3_2 : Int) (r_ : (Unit ⊕ Unit)), diwanref1_Touches.lp3 fu l3_0 l3_1 l3_3 n_ l3_2 = some r_ → WK Try.prog diwanref1_Touches.O (Ck Try.prog) (cB (cR (cL (cR bd60)))) [] (ofL [Tm 1 (iv l3_0), Tm 2 (iv l3_1), Tm 3 (.ptr 3 0), Tm 7 (iv l3_2), Ob 3 (TTxn.ob l3_3)]) (diwanref1_Touches.lp3_post l3_0 l3_1 l3_3 r_) := by
 intro n_
 induction n_ with
 | zero => intro l3_2 r_ h; exact no_none h
 | succ n_ ih =>
  intro l3_2 r_ h
  refine kLp ?_
  refine kSq ?_
  refine kRs 31 [Tm 13 (bv (decide (l3_2 < (l3_3.Reads.length : Int))))] [.s (.t 12) [iv (l3_3.Reads.length : Int)]] (.c (c_len (e := TRead.en) (l := l3_3.Reads)) .n) ?_
  rcases br_inv h with ⟨b5_0, h⟩ | ⟨b5_0, h⟩
  ·refine kCt b5_0 ?_
   refine kSk ?_
   refine kCd (cR (cB (cB (cR (cL (cR bd60)))))) [.lp (cB (cR (cL (cR bd60))))] ?_
   refine kSq ?_
   refine kBk 1 ?_
   obtain ⟨x6_1, a6_2, e6_3, h⟩ := ix_inv h
   obtain ⟨r6_4, h6_5, h⟩ := bd_inv h
   refine kRs 62 [Tm 25 (bv (r6_4 == l3_0))] [.c (TRead.en x6_1), .a ⟨iv r6_4, []⟩] (.c (c_ix (e := TRead.en) a6_2 e6_3) (.c (c_el (e := TRead.en) e6_3) (.c (Asks.of (C := Meets Try.prog) (diwanref1_ShardOf.meets fu x6_1.Key l3_1 _ h6_5)) .n))) ?_
   rcases br_inv h with ⟨b7_0, h⟩ | ⟨b7_0, h⟩
   ·refine kCt b7_0 ?_
    refine kRs 0 [Tm 6 (bv true)] [] .n ?_
    cases some_inj h
    refine kWo ?_
    refine kRt ?_
    exact kOut
   ·refine kCe b7_0 ?_
    refine kSk ?_
    refine kCd (cR (cR (cB (cB (cR (cL (cR bd60))))))) [.lp (cB (cR (cL (cR bd60))))] ?_
    refine kRc 46 [Tm 7 (iv (w64 (l3_2 + 1)))] [] .n (cB (cR (cL (cR bd60)))) [] ?_
    exact kWk (ih (w64 (l3_2 + 1)) _ h)
  ·refine kCe b5_0 ?_
   cases some_inj h
   refine kWo ?_
   refine kXt 0 ?_
   exact kOut
def diwanref1_Touches.lp12 (fu : Nat) (l12_0 : Int) (l12_1 : Int) (l12_3 : TTxn) : Nat → Int → Option (Unit ⊕ Unit)
  | 0, _ => none
  | n_ + 1, l12_2 =>
  br (decide (l12_2 < (l12_3.Writes.length : Int)))
   (ix l12_3.Writes l12_2 fun x15_1 =>
   bd (diwanref1_ShardOf fu x15_1.Key l12_1) fun r15_4 =>
   br (r15_4 == l12_0)
    (some (.inr ()))
    (diwanref1_Touches.lp12 fu l12_0 l12_1 l12_3 n_ (w64 (l12_2 + 1))))
   (some (.inl ()))
def diwanref1_Touches.lp12_post (l12_0 : Int) (l12_1 : Int) (l12_3 : TTxn) (r_ : (Unit ⊕ Unit)) : Wy → St → Prop := fun e τ => match r_ with
  | .inl _ => e = .exit 2 ∧ τ = ofL []
  | .inr _ => e = .ret ∧ τ = ofL [Tm 6 (bv true)]
theorem diwanref1_Touches.lp12_ok (fu : Nat) (l12_0 : Int) (l12_1 : Int) (l12_3 : TTxn) : ∀ (n_ : Nat) (l12_2 : Int) (r_ : (Unit ⊕ Unit)), diwanref1_Touches.lp12 fu l12_0 l12_1 l12_3 n_ l12_2 = some r_ → WK Try.prog diwanref1_Touches.O (Ck Try.prog) (cB (cR (cL (cR (cR bd60))))) [] (ofL [Tm 1 (iv l12_0), Tm 2 (iv l12_1), Tm 3 (.ptr 3 0), Tm 8 (iv l12_2), Ob 3 (TTxn.ob l12_3)]) (diwanref1_Touches.lp12_post l12_0 l12_1 l12_3 r_) := by
 intro n_
 induction n_ with
 | zero => intro l12_2 r_ h; exact no_none h
 | succ n_ ih =>
  intro l12_2 r_ h
  refine kLp ?_
  refine kSq ?_
  refine kRs 31 [Tm 30 (bv (decide (l12_2 < (l12_3.Writes.length : Int))))] [.s (.t 29) [iv (l12_3.Writes.length : Int)]] (.c (c_len (e := TWrite.en) (l := l12_3.Writes)) .n) ?_
  rcases br_inv h with ⟨b14_0, h⟩ | ⟨b14_0, h⟩
  ·refine kCt b14_0 ?_
   refine kSk ?_
   refine kCd (cR (cB (cB (cR (cL (cR (cR bd60))))))) [.lp (cB (cR (cL (cR (cR bd60)))))] ?_
   refine kSq ?_
   refine kBk 3 ?_
   obtain ⟨x15_1, a15_2, e15_3, h⟩ := ix_inv h
   obtain ⟨r15_4, h15_5, h⟩ := bd_inv h
   refine kRs 62 [Tm 42 (bv (r15_4 == l12_0))] [.c (TWrite.en x15_1), .a ⟨iv r15_4, []⟩] (.c (c_ix (e := TWrite.en) a15_2 e15_3) (.c (c_el (e := TWrite.en) e15_3) (.c (Asks.of (C := Meets Try.prog) (diwanref1_ShardOf.meets fu x15_1.Key l12_1 _ h15_5)) .n))) ?_
   rcases br_inv h with ⟨b16_0, h⟩ | ⟨b16_0, h⟩
   ·refine kCt b16_0 ?_
    refine kRs 0 [Tm 6 (bv true)] [] .n ?_
    cases some_inj h
    refine kWo ?_
    refine kRt ?_
    exact kOut
   ·refine kCe b16_0 ?_
    refine kSk ?_
    refine kCd (cR (cR (cB (cB (cR (cL (cR (cR bd60)))))))) [.lp (cB (cR (cL (cR (cR bd60)))))] ?_
    refine kRc 46 [Tm 8 (iv (w64 (l12_2 + 1)))] [] .n (cB (cR (cL (cR (cR bd60))))) [] ?_
    exact kWk (ih (w64 (l12_2 + 1)) _ h)
  ·refine kCe b14_0 ?_
   cases some_inj h
   refine kWo ?_
   refine kXt 2 ?_
   exact kOut
def diwanref1_Touches (fu : Nat) (t : TTxn) (s : Int) (n_v : Int) : Option Bool :=
 bd (diwanref1_Touches.lp3 fu s n_v t fu 0) fun o_ => (match o_ with
 | .inl _ =>
  bd (diwanref1_Touches.lp12 fu s n_v t fu 0) fun o_ => (match o_ with
  | .inl _ =>
   some false
  | .inr _ =>
   some true)
 | .inr _ =>
  some true)
theorem diwanref1_Touches.meets (fu : Nat) (t : TTxn) (s : Int) (n_v : Int) (z0 : Bool) (h : diwanref1_Touches fu t s n_v = some z0) : Meets Try.prog ⟨60, [.data (TTxn.ag t), iv s, iv n_v], []⟩ ⟨bv z0, []⟩ := by
 refine kMt hmix diwanref1_Touches.O Try.f60 bd60 7 ?_
 unfold diwanref1_Touches at h
 refine kRs 6 [Tm 3 (.ptr 3 0), Ob 3 (TTxn.ob t)] [] .n ?_
 refine kSq ?_
 refine kRs 15 [Tm 7 (iv 0)] [] .n ?_
 refine kBk 0 ?_
 obtain ⟨o10, ho10, h⟩ := bd_inv h
 refine kUs (diwanref1_Touches.lp3_ok fu s n_v t _ 0 _ ho10) ?_
 intro e_ τ_ hp_
 rcases o10 with o10 | o10
 ·obtain ⟨⟩ := o10
  obtain ⟨rfl, rfl⟩ := hp_
  refine kCd (cR (cR bd60)) [] ?_
  refine kSq ?_
  refine kRs 15 [Tm 8 (iv 0)] [] .n ?_
  refine kBk 2 ?_
  obtain ⟨o19, ho19, h⟩ := bd_inv h
  refine kUs (diwanref1_Touches.lp12_ok fu s n_v t _ 0 _ ho19) ?_
  intro e_ τ_ hp_
  rcases o19 with o19 | o19
  ·obtain ⟨⟩ := o19
   obtain ⟨rfl, rfl⟩ := hp_
   refine kCd (cR (cR (cR bd60))) [] ?_
   refine kRs 0 [Tm 6 (bv false)] [] .n ?_
   refine kRt ?_
   have h_ := some_inj h
   subst h_
   exact kFr
  ·obtain ⟨⟩ := o19
   obtain ⟨rfl, rfl⟩ := hp_
   have h_ := some_inj h
   subst h_
   exact kFr
 ·obtain ⟨⟩ := o10
  obtain ⟨rfl, rfl⟩ := hp_
  have h_ := some_inj h
  subst h_
  exact kFr
def bd76 : Code := (Try.f76.body).getD .skip
def diwanref13_Add.O : Nat → Nat := fun t => bif ([3, 4, 5, 6, 17] : List Nat).any (Nat.beq t) then 1 else 0
def diwanref13_Add (l : List TVersion) (v : TVersion) : Option (List TVersion) :=
 gd (decide (([] : List TVersion).length + l.length ≤ 4294967296)) <|
 bd (diwanref13_LastOf l) fun r3_1 =>
 br (decide (v.Pos ≤ r3_1))
  (some l)
  (gd (decide (l.length + ([v] : List TVersion).length ≤ 4294967296)) <|
  some (l ++ ([v] : List TVersion)))
theorem diwanref13_Add.meets (l : List TVersion) (v : TVersion) (z0 : List TVersion) (h : diwanref13_Add l v = some z0) : Meets Try.prog ⟨76, [sS 3 TVersion.en l, .data (TVersion.ag v)], []⟩ ⟨sO 3 TVersion.en z0, []⟩ := by
 refine kMt hmix diwanref13_Add.O Try.f76 bd76 3 ?_
 unfold diwanref13_Add at h
 refine kRs 1 [Tm 3 (.ptr 3 0), Ob 3 (TVersion.ob v)] [] .n ?_
 obtain ⟨c2_1, h⟩ := gd_inv h
 refine kRs 7 [Tm 5 (sO 3 TVersion.en l)] [] (.c (c_al (e := TVersion.en) (f := TVersion.en) c2_1) .n) ?_
 refine kSq ?_
 obtain ⟨r3_1, h3_2, h⟩ := bd_inv h
 refine kRs 7 [Tm 13 (bv (decide (v.Pos ≤ r3_1)))] [.a ⟨iv r3_1, []⟩] (.c (Asks.of (C := Meets Try.prog) (diwanref13_LastOf.meets l _ h3_2)) (.c rT .n)) ?_
 rcases br_inv h with ⟨b4_0, h⟩ | ⟨b4_0, h⟩
 ·refine kCt b4_0 ?_
  refine kRs 0 [Tm 4 (sO 3 TVersion.en l)] [] .n ?_
  refine kRt ?_
  have h_ := some_inj h
  subst h_
  exact kFr
 ·refine kCe b4_0 ?_
  refine kSk ?_
  refine kCd (cR (cR (cR bd76))) [] ?_
  obtain ⟨c6_1, h⟩ := gd_inv h
  refine kRs 0 [Tm 4 (sO 3 TVersion.en (l ++ ([v] : List TVersion)))] [.s (.t 18) [sO 3 TVersion.en (l ++ ([v] : List TVersion))]] (.c (c_al (e := TVersion.en) (f := TVersion.en) c6_1) (.c (congrArg (fun d : DV => [AV.data d]) (c_app (e := TVersion.en) (s := 3) (l := l) (m := ([v] : List TVersion)))) .n)) ?_
  refine kRt ?_
  have h_ := some_inj h
  subst h_
  exact kFr
def bd61 : Code := (Try.f61.body).getD .skip
def diwanref13_Write.O : Nat → Nat := fun t => bif ([3, 6, 7, 8, 9, 10, 13, 17, 64, 72, 73, 79, 95, 99] : List Nat).any (Nat.beq t) then 1 else bif ([96] : List Nat).any (Nat.beq t) then 2 else 0
def diwanref13_Write.lp9 (fu : Nat) (l9_0 : Int) (l9_1 : List TWrite) (l9_2 : Int) (l9_4 : TStore) (l9_5 : TStore) (l9_6 : TWrite) : Nat → Int → Option Int
  | 0, _ => none
  | n_ + 1, l9_3 =>
  br (decide (l9_3 < (l9_5.Chains.length : Int)))
   (ix l9_5.Chains l9_3 fun x10_2 =>
   br (Op.bytesLess x10_2.Key.toList l9_6.Key.toList)
    (diwanref13_Write.lp9 fu l9_0 l9_1 l9_2 l9_4 l9_5 l9_6 n_ (w64 (l9_3 + 1)))
    (some l9_3))
   (some l9_3)
def diwanref13_Write.lp9_post (l9_0 : Int) (l9_1 : List TWrite) (l9_2 : Int) (l9_4 : TStore) (l9_5 : TStore) (l9_6 : TWrite) (r_ : Int) : Wy → St → Prop := fun e τ => match r_ with
  | y0 => e = .exit 2 ∧ τ = ofL [Tm 1 (iv l9_0), Tm 2 (sS 3 TWrite.en l9_1), Tm 6 (.ptr 6 0), Tm 7 (.ptr 7 0), Tm 8 (iv l9_2), Tm 9 (.ptr 9 0), Tm 10 (iv y0), Ob 6 [sO 2 TChain.en l9_4.Chains, iv l9_4.Mark], Ob 7 [sO 2 TChain.en l9_5.Chains, iv l9_5.Mark], Ob 9 (TWrite.ob l9_6)]
theorem diwanref13_Write.lp9_ok (fu : Nat) (l9_0 : Int) (l9_1 : List TWrite) (l9_2 : Int) (l9_4 : TStore) (l9_5 : TStore) (l9_6 : TWrite) : ∀ (n_ : Nat) (l9_3 : Int) (r_ : Int), diwanref13_Write.lp9 fu l9_0 l9_1 l9_2 l9_4 l9_5 l9_6 n_ l9_3 = some r_ → WK Try.prog diwanref13_Write.O (Ck Try.prog) (cB (cL (cR (cR (cB (cL (cR (cB (cB (cR (cL (cR (cR bd61))))))))))))) [] (ofL [Tm 1 (iv l9_0), Tm 2 (sS 3 TWrite.en l9_1), Tm 6 (.ptr 6 0), Tm 7 (.ptr 7 0), Tm 8 (iv l9_2), Tm 9 (.ptr 9 0), Tm 10 (iv l9_3), Ob 6 [sO 2 TChain.en l9_4.Chains, iv l9_4.Mark], Ob 7 [sO 2 TChain.en l9_5.Chains, iv l9_5.Mark], Ob 9 (TWrite.ob l9_6)]) (diwanref13_Write.lp9_post l9_0 l9_1 l9_2 l9_4 l9_5 l9_6 r_) := by
 intro n_
 induction n_ with
 | zero => intro l9_3 r_ h; exact no_none h
 | succ n_ ih =>
  intro l9_3 r_ h
  refine kLp ?_
  refine kSq ?_
  rcases br_inv h with ⟨b10_1, h⟩ | ⟨b10_1, h⟩
  ·obtain ⟨x10_2, a10_3, e10_4, h⟩ := ix_inv h
   refine kRs 1023 [Tm 43 (bv (Op.bytesLess x10_2.Key.toList l9_6.Key.toList))] (.s (.t 31) [iv (l9_5.Chains.length : Int)] :: (rp 6 (.b true) (.c (TChain.en x10_2) :: (rp 4 (.b true) [])))) (.c (c_len (e := TChain.en) (l := l9_5.Chains)) (.r 4 b10_1 (.c (c_ix (e := TChain.en) a10_3 e10_4) (.r 2 b10_1 (.c (c_el (e := TChain.en) e10_4) (.r 4 b10_1 (.c rT .n))))))) ?_
   rcases br_inv h with ⟨b11_0, h⟩ | ⟨b11_0, h⟩
   ·refine kCt b11_0 ?_
    refine kSk ?_
    refine kCd (cR (cB (cB (cL (cR (cR (cB (cL (cR (cB (cB (cR (cL (cR (cR bd61))))))))))))))) [.lp (cB (cL (cR (cR (cB (cL (cR (cB (cB (cR (cL (cR (cR bd61)))))))))))))] ?_
    refine kBk 3 ?_
    refine kRc 1918 [Tm 10 (iv (w64 (l9_3 + 1)))] [] .n (cB (cL (cR (cR (cB (cL (cR (cB (cB (cR (cL (cR (cR bd61))))))))))))) [] ?_
    exact kWk (ih (w64 (l9_3 + 1)) _ h)
   ·refine kCe b11_0 ?_
    cases some_inj h
    refine kWo ?_
    refine kXt 2 ?_
    exact kOut
  ·refine kRs 1023 [Tm 43 (bv false)] (.s (.t 31) [iv (l9_5.Chains.length : Int)] :: (rp 10 (.b false) [])) (.c (c_len (e := TChain.en) (l := l9_5.Chains)) (.r 10 b10_1 (.c rT .n))) ?_
   refine kCe rF ?_
   cases some_inj h
   refine kWo ?_
   refine kXt 2 ?_
   exact kOut
def diwanref13_Write.lp4 (fu : Nat) (l4_0 : Int) (l4_1 : List TWrite) (l4_3 : TStore) : Nat → Int → TStore → Option TStore
  | 0, _, _ => none
  | n_ + 1, l4_2, l4_4 =>
  br (decide (l4_2 < (l4_1.length : Int)))
   (ix l4_1 l4_2 fun x7_1 =>
   bd (diwanref13_Write.lp9 fu l4_0 l4_1 l4_2 l4_3 l4_4 x7_1 fu 0) fun y13_0 =>
   jn (fun (j24_5 : TStore) =>
    ix j24_5.Chains y13_0 fun x25_1 =>
    bd (diwanref13_Add x25_1.L (TVersion.mk l4_0 x7_1.Val x7_1.Gone)) fun r25_4 =>
    ix j24_5.Chains y13_0 fun x25_6 =>
    diwanref13_Write.lp4 fu l4_0 l4_1 l4_3 n_ (w64 (l4_2 + 1)) (TStore.mk (j24_5.Chains.set y13_0.toNat (TChain.mk x25_6.Key r25_4)) j24_5.Mark)) fun k24 =>
   br (y13_0 == (l4_4.Chains.length : Int))
    (br (decide (l4_0 < 1))
     (diwanref13_Write.lp4 fu l4_0 l4_1 l4_3 n_ (w64 (l4_2 + 1)) l4_4)
     (gd (decide ((0 : Int) ≤ y13_0 ∧ y13_0 ≤ (l4_4.Chains.length : Int))) <|
     gd (decide (([] : List TChain).length + (List.take y13_0.toNat l4_4.Chains).length ≤ 4294967296)) <|
     gd (decide ((List.take y13_0.toNat l4_4.Chains).length + ([(TChain.mk x7_1.Key [])] : List TChain).length ≤ 4294967296)) <|
     gd (decide ((0 : Int) ≤ y13_0 ∧ y13_0 ≤ (l4_4.Chains.length : Int))) <|
     gd (decide (((List.take y13_0.toNat l4_4.Chains) ++ ([(TChain.mk x7_1.Key [])] : List TChain)).length + (List.drop y13_0.toNat l4_4.Chains).length ≤ 4294967296)) <|
     k24 (TStore.mk (((List.take y13_0.toNat l4_4.Chains) ++ ([(TChain.mk x7_1.Key [])] : List TChain)) ++ (List.drop y13_0.toNat l4_4.Chains)) l4_4.Mark)))
    (ix l4_4.Chains y13_0 fun x14_2 =>
    br (!(x14_2.Key.toList == x7_1.Key.toList))
     (br (decide (l4_0 < 1))
      (diwanref13_Write.lp4 fu l4_0 l4_1 l4_3 n_ (w64 (l4_2 + 1)) l4_4)
      (gd (decide ((0 : Int) ≤ y13_0 ∧ y13_0 ≤ (l4_4.Chains.length : Int))) <|
      gd (decide (([] : List TChain).length + (List.take y13_0.toNat l4_4.Chains).length ≤ 4294967296)) <|
      gd (decide ((List.take y13_0.toNat l4_4.Chains).length + ([(TChain.mk x7_1.Key [])] : List TChain).length ≤ 4294967296)) <|
      gd (decide ((0 : Int) ≤ y13_0 ∧ y13_0 ≤ (l4_4.Chains.length : Int))) <|
      gd (decide (((List.take y13_0.toNat l4_4.Chains) ++ ([(TChain.mk x7_1.Key [])] : List TChain)).length + (List.drop y13_0.toNat l4_4.Chains).length ≤ 4294967296)) <|
      k24 (TStore.mk (((List.take y13_0.toNat l4_4.Chains) ++ ([(TChain.mk x7_1.Key [])] : List TChain)) ++ (List.drop y13_0.toNat l4_4.Chains)) l4_4.Mark)))
     (k24 l4_4)))
   (some l4_4)
def diwanref13_Write.lp4_post (l4_0 : Int) (l4_1 : List TWrite) (l4_3 : TStore) (r_ : TStore) : Wy → St → Prop := fun e τ => match r_ with
  | y0 => e = .exit 0 ∧ τ = ofL [Tm 6 (.ptr 6 0), Tm 7 (.ptr 7 0), Ob 6 [sO 2 TChain.en l4_3.Chains, iv l4_3.Mark], Ob 7 [sO 2 TChain.en y0.Chains, iv y0.Mark]]
theorem diwanref13_Write.lp4_ok (fu : Nat) (l4_0 : Int) (l4_1 : List TWrite) (l4_3 : TStore) : ∀ (n_ : Nat) (l4_2 : Int) (l4_4 : TStore) (r_ : TStore), diwanref13_Write.lp4 fu l4_0 l4_1 l4_3 n_ l4_2 l4_4 = some r_ → WK Try.prog diwanref13_Write.O (Ck Try.prog) (cB (cR (cL (cR (cR bd61))))) [] (ofL [Tm 1 (iv l4_0), Tm 2 (sS 3 TWrite.en l4_1), Tm 6 (.ptr 6 0), Tm 7 (.ptr 7 0), Tm 8 (iv l4_2), Ob 6 [sO 2 TChain.en l4_3.Chains, iv l4_3.Mark], Ob 7 [sO 2 TChain.en l4_4.Chains, iv l4_4.Mark]]) (diwanref13_Write.lp4_post l4_0 l4_1 l4_3 r_) := by
 intro n_
 induction n_ with
 | zero => intro l4_2 l4_4 r_ h; exact no_none h
 | succ n_ ih =>
  intro l4_2 l4_4 r_ h
  refine kLp ?_
  refine kSq ?_
  refine kRs 127 [Tm 21 (bv (decide (l4_2 < (l4_1.length : Int))))] [.s (.t 20) [iv (l4_1.length : Int)]] (.c (c_len (e := TWrite.en) (l := l4_1)) .n) ?_
  rcases br_inv h with ⟨b6_0, h⟩ | ⟨b6_0, h⟩
  ·refine kCt b6_0 ?_
   refine kSk ?_
   refine kCd (cR (cB (cB (cR (cL (cR (cR bd61))))))) [.lp (cB (cR (cL (cR (cR bd61)))))] ?_
   refine kSq ?_
   refine kBk 1 ?_
   obtain ⟨x7_1, a7_2, e7_3, h⟩ := ix_inv h
   refine kRs 254 [Tm 9 (.ptr 9 0), Ob 9 (TWrite.ob x7_1)] [.c (TWrite.en x7_1)] (.c (c_ix (e := TWrite.en) a7_2 e7_3) (.c (c_el (e := TWrite.en) e7_3) .n)) ?_
   refine kRs 511 [Tm 10 (iv 0)] [] .n ?_
   refine kSq ?_
   refine kBk 2 ?_
   obtain ⟨o13, ho13, h⟩ := bd_inv h
   refine kUs (diwanref13_Write.lp9_ok fu l4_0 l4_1 l4_2 l4_3 l4_4 x7_1 _ 0 _ ho13) ?_
   intro e_ τ_ hp_
   obtain ⟨y13_0, rfl⟩ : ∃ y, y = o13 := ⟨_, rfl⟩
   obtain ⟨rfl, rfl⟩ := hp_
   refine kCd (cR (cR (cR (cB (cL (cR (cB (cB (cR (cL (cR (cR bd61)))))))))))) [.blk 1, .seq (cR (cR (cB (cB (cR (cL (cR (cR bd61)))))))), .lp (cB (cR (cL (cR (cR bd61)))))] ?_
   obtain ⟨k24, hk24, h⟩ := jn_inv h
   have Jk24 : ∀ (j24_5 : TStore), k24 j24_5 = some r_ → WK Try.prog diwanref13_Write.O (Ck Try.prog) (cR (cR (cR (cR (cB (cL (cR (cB (cB (cR (cL (cR (cR bd61))))))))))))) [.blk 1, .seq (cR (cR (cB (cB (cR (cL (cR (cR bd61)))))))), .lp (cB (cR (cL (cR (cR bd61)))))] (ofL [Tm 1 (iv l4_0), Tm 2 (sS 3 TWrite.en l4_1), Tm 6 (.ptr 6 0), Tm 7 (.ptr 7 0), Tm 8 (iv l4_2), Tm 9 (.ptr 9 0), Tm 10 (iv y13_0), Ob 6 [sO 2 TChain.en l4_3.Chains, iv l4_3.Mark], Ob 7 [sO 2 TChain.en j24_5.Chains, iv j24_5.Mark], Ob 9 (TWrite.ob x7_1)]) (diwanref13_Write.lp4_post l4_0 l4_1 l4_3 r_) := by
    intro j24_5 h
    rw [hk24] at h
    obtain ⟨x25_1, a25_2, e25_3, h⟩ := ix_inv h
    obtain ⟨r25_4, h25_5, h⟩ := bd_inv h
    obtain ⟨x25_6, a25_7, e25_8, h⟩ := ix_inv h
    refine kRc 159 [Ob 7 [sO 2 TChain.en (j24_5.Chains.set y13_0.toNat (TChain.mk x25_6.Key r25_4)), iv j24_5.Mark]] [.c (TChain.en x25_1), .a ⟨sO 3 TVersion.en r25_4, []⟩, .c (TChain.en x25_6), .s (.o 7) [sO 2 TChain.en (j24_5.Chains.set y13_0.toNat (TChain.mk x25_6.Key r25_4)), iv j24_5.Mark]] (.c (c_ix (e := TChain.en) a25_2 e25_3) (.c (c_el (e := TChain.en) e25_3) (.c (Asks.of (C := Meets Try.prog) (diwanref13_Add.meets x25_1.L (TVersion.mk l4_0 x7_1.Val x7_1.Gone) _ h25_5)) (.c (c_ix (e := TChain.en) a25_7 e25_8) (.c (c_el (e := TChain.en) e25_8) (.c (congrArg (fun d : DV => [AV.data d, iv j24_5.Mark]) (c_set (e := TChain.en) (s := 2) (nl := none) (l := j24_5.Chains) (i := y13_0.toNat) (x := (TChain.mk x25_6.Key r25_4)))) (.c rT .n))))))) (cR (cR (cB (cB (cR (cL (cR (cR bd61)))))))) [.lp (cB (cR (cL (cR (cR bd61)))))] ?_
    refine kRc 95 [Tm 8 (iv (w64 (l4_2 + 1)))] [] .n (cB (cR (cL (cR (cR bd61))))) [] ?_
    exact kWk (ih (w64 (l4_2 + 1)) (TStore.mk (j24_5.Chains.set y13_0.toNat (TChain.mk x25_6.Key r25_4)) j24_5.Mark) _ h)
   clear hk24
   refine kSq ?_
   rcases br_inv h with ⟨b14_1, h⟩ | ⟨b14_1, h⟩
   ·refine kRs 1023 [Tm 61 (bv true)] (.s (.t 49) [iv (l4_4.Chains.length : Int)] :: (rp 10 (.b true) [])) (.c (c_len (e := TChain.en) (l := l4_4.Chains)) (.r 10 b14_1 (.c rT .n))) ?_
    refine kCt rT ?_
    refine kSq ?_
    refine kRs 2046 [Tm 63 (bv (decide (l4_0 < 1)))] [] .n ?_
    rcases br_inv h with ⟨b16_0, h⟩ | ⟨b16_0, h⟩
    ·refine kCt b16_0 ?_
     refine kXt 1 ?_
     refine kCd (cR (cR (cB (cB (cR (cL (cR (cR bd61)))))))) [.lp (cB (cR (cL (cR (cR bd61)))))] ?_
     refine kRc 798 [Tm 8 (iv (w64 (l4_2 + 1)))] [] .n (cB (cR (cL (cR (cR bd61))))) [] ?_
     exact kWk (ih (w64 (l4_2 + 1)) l4_4 _ h)
    ·refine kCe b16_0 ?_
     refine kSk ?_
     refine kCd (cR (cT (cR (cL (cR (cR (cR (cB (cL (cR (cB (cB (cR (cL (cR (cR bd61)))))))))))))))) [.seq (cR (cR (cR (cR (cB (cL (cR (cB (cB (cR (cL (cR (cR bd61))))))))))))), .blk 1, .seq (cR (cR (cB (cB (cR (cL (cR (cR bd61)))))))), .lp (cB (cR (cL (cR (cR bd61)))))] ?_
     refine kSo 7 0 1534 [Ob 7 [sS 2 TChain.en l4_4.Chains, iv l4_4.Mark]] ?_
     obtain ⟨c18_1, h⟩ := gd_inv h
     obtain ⟨c18_2, h⟩ := gd_inv h
     obtain ⟨c18_3, h⟩ := gd_inv h
     obtain ⟨c18_4, h⟩ := gd_inv h
     obtain ⟨c18_5, h⟩ := gd_inv h
     refine kRc 1022 [Ob 7 [sO 2 TChain.en (((List.take y13_0.toNat l4_4.Chains) ++ ([(TChain.mk x7_1.Key [])] : List TChain)) ++ (List.drop y13_0.toNat l4_4.Chains)), iv l4_4.Mark]] [.s (.t 68) [sS 2 TChain.en (List.take y13_0.toNat l4_4.Chains)], .s (.t 74) [sO 2 TChain.en ((List.take y13_0.toNat l4_4.Chains) ++ ([(TChain.mk x7_1.Key [])] : List TChain))], .s (.t 78) [sS 2 TChain.en (List.drop y13_0.toNat l4_4.Chains)], .s (.t 79) [sO 2 TChain.en (((List.take y13_0.toNat l4_4.Chains) ++ ([(TChain.mk x7_1.Key [])] : List TChain)) ++ (List.drop y13_0.toNat l4_4.Chains))]] (.c (c_cbH (e := TChain.en) c18_1) (.c (congrArg (fun d : DV => [AV.data d]) (c_cutH (own := false) (nl := none) (s := 2) (e := TChain.en) (l := l4_4.Chains) (h := y13_0.toNat))) (.c (c_al (e := TChain.en) (f := TChain.en) c18_2) (.c (c_al (e := TChain.en) (f := TChain.en) c18_3) (.c (congrArg (fun d : DV => [AV.data d]) (c_app (e := TChain.en) (s := 2) (l := (List.take y13_0.toNat l4_4.Chains)) (m := ([(TChain.mk x7_1.Key [])] : List TChain)))) (.c (c_cbL (e := TChain.en) c18_4) (.c (congrArg (fun d : DV => [AV.data d]) (c_cutL (own := false) (nl := none) (s := 2) (e := TChain.en) (l := l4_4.Chains) (lo := y13_0.toNat))) (.c (c_al (e := TChain.en) (f := TChain.en) c18_5) (.c (congrArg (fun d : DV => [AV.data d]) (c_app (e := TChain.en) (s := 2) (l := ((List.take y13_0.toNat l4_4.Chains) ++ ([(TChain.mk x7_1.Key [])] : List TChain))) (m := (List.drop y13_0.toNat l4_4.Chains)))) (.c rT .n)))))))))) (cR (cR (cR (cR (cB (cL (cR (cB (cB (cR (cL (cR (cR bd61))))))))))))) [.blk 1, .seq (cR (cR (cB (cB (cR (cL (cR (cR bd61)))))))), .lp (cB (cR (cL (cR (cR bd61)))))] ?_
     exact kWk (Jk24 (TStore.mk (((List.take y13_0.toNat l4_4.Chains) ++ ([(TChain.mk x7_1.Key [])] : List TChain)) ++ (List.drop y13_0.toNat l4_4.Chains)) l4_4.Mark) h)
   ·obtain ⟨x14_2, a14_3, e14_4, h⟩ := ix_inv h
    refine kRs 1023 [Tm 61 (bv (!(x14_2.Key.toList == x7_1.Key.toList)))] (.s (.t 49) [iv (l4_4.Chains.length : Int)] :: (rp 6 (.b false) (.c (TChain.en x14_2) :: (rp 4 (.b false) [])))) (.c (c_len (e := TChain.en) (l := l4_4.Chains)) (.r 4 b14_1 (.c (c_ix (e := TChain.en) a14_3 e14_4) (.r 2 b14_1 (.c (c_el (e := TChain.en) e14_4) (.r 4 b14_1 (.c rT .n))))))) ?_
    rcases br_inv h with ⟨b19_0, h⟩ | ⟨b19_0, h⟩
    ·refine kCt b19_0 ?_
     refine kSq ?_
     refine kRs 2046 [Tm 63 (bv (decide (l4_0 < 1)))] [] .n ?_
     rcases br_inv h with ⟨b21_0, h⟩ | ⟨b21_0, h⟩
     ·refine kCt b21_0 ?_
      refine kXt 1 ?_
      refine kCd (cR (cR (cB (cB (cR (cL (cR (cR bd61)))))))) [.lp (cB (cR (cL (cR (cR bd61)))))] ?_
      refine kRc 798 [Tm 8 (iv (w64 (l4_2 + 1)))] [] .n (cB (cR (cL (cR (cR bd61))))) [] ?_
      exact kWk (ih (w64 (l4_2 + 1)) l4_4 _ h)
     ·refine kCe b21_0 ?_
      refine kSk ?_
      refine kCd (cR (cT (cR (cL (cR (cR (cR (cB (cL (cR (cB (cB (cR (cL (cR (cR bd61)))))))))))))))) [.seq (cR (cR (cR (cR (cB (cL (cR (cB (cB (cR (cL (cR (cR bd61))))))))))))), .blk 1, .seq (cR (cR (cB (cB (cR (cL (cR (cR bd61)))))))), .lp (cB (cR (cL (cR (cR bd61)))))] ?_
      refine kSo 7 0 1534 [Ob 7 [sS 2 TChain.en l4_4.Chains, iv l4_4.Mark]] ?_
      obtain ⟨c23_1, h⟩ := gd_inv h
      obtain ⟨c23_2, h⟩ := gd_inv h
      obtain ⟨c23_3, h⟩ := gd_inv h
      obtain ⟨c23_4, h⟩ := gd_inv h
      obtain ⟨c23_5, h⟩ := gd_inv h
      refine kRc 1022 [Ob 7 [sO 2 TChain.en (((List.take y13_0.toNat l4_4.Chains) ++ ([(TChain.mk x7_1.Key [])] : List TChain)) ++ (List.drop y13_0.toNat l4_4.Chains)), iv l4_4.Mark]] [.s (.t 68) [sS 2 TChain.en (List.take y13_0.toNat l4_4.Chains)], .s (.t 74) [sO 2 TChain.en ((List.take y13_0.toNat l4_4.Chains) ++ ([(TChain.mk x7_1.Key [])] : List TChain))], .s (.t 78) [sS 2 TChain.en (List.drop y13_0.toNat l4_4.Chains)], .s (.t 79) [sO 2 TChain.en (((List.take y13_0.toNat l4_4.Chains) ++ ([(TChain.mk x7_1.Key [])] : List TChain)) ++ (List.drop y13_0.toNat l4_4.Chains))]] (.c (c_cbH (e := TChain.en) c23_1) (.c (congrArg (fun d : DV => [AV.data d]) (c_cutH (own := false) (nl := none) (s := 2) (e := TChain.en) (l := l4_4.Chains) (h := y13_0.toNat))) (.c (c_al (e := TChain.en) (f := TChain.en) c23_2) (.c (c_al (e := TChain.en) (f := TChain.en) c23_3) (.c (congrArg (fun d : DV => [AV.data d]) (c_app (e := TChain.en) (s := 2) (l := (List.take y13_0.toNat l4_4.Chains)) (m := ([(TChain.mk x7_1.Key [])] : List TChain)))) (.c (c_cbL (e := TChain.en) c23_4) (.c (congrArg (fun d : DV => [AV.data d]) (c_cutL (own := false) (nl := none) (s := 2) (e := TChain.en) (l := l4_4.Chains) (lo := y13_0.toNat))) (.c (c_al (e := TChain.en) (f := TChain.en) c23_5) (.c (congrArg (fun d : DV => [AV.data d]) (c_app (e := TChain.en) (s := 2) (l := ((List.take y13_0.toNat l4_4.Chains) ++ ([(TChain.mk x7_1.Key [])] : List TChain))) (m := (List.drop y13_0.toNat l4_4.Chains)))) (.c rT .n)))))))))) (cR (cR (cR (cR (cB (cL (cR (cB (cB (cR (cL (cR (cR bd61))))))))))))) [.blk 1, .seq (cR (cR (cB (cB (cR (cL (cR (cR bd61)))))))), .lp (cB (cR (cL (cR (cR bd61)))))] ?_
      exact kWk (Jk24 (TStore.mk (((List.take y13_0.toNat l4_4.Chains) ++ ([(TChain.mk x7_1.Key [])] : List TChain)) ++ (List.drop y13_0.toNat l4_4.Chains)) l4_4.Mark) h)
    ·refine kCe b19_0 ?_
     refine kSk ?_
     refine kCd (cR (cR (cR (cR (cB (cL (cR (cB (cB (cR (cL (cR (cR bd61))))))))))))) [.blk 1, .seq (cR (cR (cB (cB (cR (cL (cR (cR bd61)))))))), .lp (cB (cR (cL (cR (cR bd61)))))] ?_
     exact kWk (Jk24 l4_4 h)
  ·refine kCe b6_0 ?_
   cases some_inj h
   refine kWo ?_
   refine kXt 0 ?_
   exact kOut
def diwanref13_Write (fu : Nat) (s : TStore) (pos : Int) (l : List TWrite) : Option TStore :=
 gd (decide (([] : List TChain).length + s.Chains.length ≤ 4294967296)) <|
 bd (diwanref13_Write.lp4 fu pos l (TStore.mk [] 0) fu 0 s) fun y27_0 =>
 some y27_0
theorem diwanref13_Write.meets (fu : Nat) (s : TStore) (pos : Int) (l : List TWrite) (z0 : TStore) (h : diwanref13_Write fu s pos l = some z0) : Meets Try.prog ⟨61, [.data (.agg [.slc false none 2 (List.map TChain.en s.Chains), .val (.int .i64 s.Mark)]), iv pos, sS 3 TWrite.en l], []⟩ ⟨.data (.agg [.slc true none 2 (List.map TChain.en z0.Chains), .val (.int .i64 z0.Mark)]), []⟩ := by
 refine kMt hmix diwanref13_Write.O Try.f61 bd61 7 ?_
 unfold diwanref13_Write at h
 refine kRs 6 [Tm 3 (.ptr 3 0), Tm 6 (.ptr 6 0), Ob 3 [sS 2 TChain.en s.Chains, iv s.Mark], Ob 6 [.data (.slc true none 2 (List.map TChain.en [])), iv 0]] [] .n ?_
 obtain ⟨c2_1, h⟩ := gd_inv h
 refine kRs 58 [Tm 7 (.ptr 7 0), Ob 7 [sO 2 TChain.en s.Chains, iv s.Mark]] [] (.c (c_al (e := TChain.en) (f := TChain.en) c2_1) (.c rT .n)) ?_
 refine kSq ?_
 refine kRs 63 [Tm 8 (iv 0)] [] .n ?_
 refine kBk 0 ?_
 obtain ⟨o27, ho27, h⟩ := bd_inv h
 refine kUs (diwanref13_Write.lp4_ok fu pos l (TStore.mk [] 0) _ 0 s _ ho27) ?_
 intro e_ τ_ hp_
 obtain ⟨y27_0, rfl⟩ : ∃ y, y = o27 := ⟨_, rfl⟩
 obtain ⟨rfl, rfl⟩ := hp_
 refine kCd (cR (cR (cR bd61))) [] ?_
 refine kRs 1 [Ob 6 [sO 2 TChain.en y27_0.Chains, iv y27_0.Mark]] [] .n ?_
 refine kRt ?_
 have h_ := some_inj h
 subst h_
 exact kFr
def bd35 : Code := (Try.f35.body).getD .skip
def diwanref13_Advance.O : Nat → Nat := fun t => bif ([3, 4, 6, 7, 8, 9, 10, 11, 12, 13, 14, 15, 32, 58, 76, 78, 85, 86, 88, 93, 94, 98, 99, 136, 138] : List Nat).any (Nat.beq t) then 1 else 0
def diwanref13_Advance.lp5 (fu : Nat) (l5_0 : List Int) (l5_1 : List TSeat) (l5_2 : Bool) (l5_5 : TShard) (l5_6 : TTxn) (l5_7 : TShard) : Nat → (List Int) → Int → Option (List Int)
  | 0, _, _ => none
  | n_ + 1, l5_3, l5_4 =>
  br (decide (l5_4 < (l5_3.length : Int)))
   (jn (fun (j11_3 : List Int) =>
    br (l5_4 == l5_5.ID)
     (bd (diwanref13_Bit fu l5_5 l5_6) fun r14_1 =>
     ix j11_3 l5_4 fun x14_3 =>
     diwanref13_Advance.lp5 fu l5_0 l5_1 l5_2 l5_5 l5_6 l5_7 n_ (j11_3.set l5_4.toNat r14_1) (w64 (l5_4 + 1)))
     (diwanref13_Advance.lp5 fu l5_0 l5_1 l5_2 l5_5 l5_6 l5_7 n_ j11_3 (w64 (l5_4 + 1)))) fun k11 =>
   br (decide (l5_4 < (l5_0.length : Int)))
    (ix l5_0 l5_4 fun x10_1 =>
    ix l5_3 l5_4 fun x10_4 =>
    k11 (l5_3.set l5_4.toNat x10_1))
    (k11 l5_3))
   (some l5_3)
def diwanref13_Advance.lp5_post (l5_0 : List Int) (l5_1 : List TSeat) (l5_2 : Bool) (l5_5 : TShard) (l5_6 : TTxn) (l5_7 : TShard) (r_ : (List Int)) : Wy → St → Prop := fun e τ => match r_ with
  | y0 => e = .exit 0 ∧ τ = ofL [Tm 3 (.ptr 3 0), Tm 4 (.ptr 4 0), Tm 6 (.ptr 6 0), Tm 8 (sS 3 TSeat.en l5_1), Tm 9 (bv l5_2), Tm 10 (.data (.slc true (some false) 1 (List.map e_i64 y0))), Ob 3 (TShard.ob l5_5), Ob 4 (TTxn.ob l5_6), Ob 6 (TShard.ob_00010111 l5_7)]
theorem diwanref13_Advance.lp5_ok (fu : Nat) (l5_0 : List Int) (l5_1 : List TSeat) (l5_2 : Bool) (l5_5 : TShard) (l5_6 : TTxn) (l5_7 : TShard) : ∀ (n_ : Nat) (l5_3 : List Int) (l5_4 : Int) (r_ : (List Int)), diwanref13_Advance.lp5 fu l5_0 l5_1 l5_2 l5_5 l5_6 l5_7 n_ l5_3 l5_4 = some r_ → WK Try.prog diwanref13_Advance.O (Ck Try.prog) (cB (cR (cL (cR (cR (cR bd35)))))) [] (ofL [Tm 2 (sS 1 e_i64 l5_0), Tm 3 (.ptr 3 0), Tm 4 (.ptr 4 0), Tm 6 (.ptr 6 0), Tm 8 (sS 3 TSeat.en l5_1), Tm 9 (bv l5_2), Tm 10 (.data (.slc true (some false) 1 (List.map e_i64 l5_3))), Tm 11 (iv l5_4), Ob 3 (TShard.ob l5_5), Ob 4 (TTxn.ob l5_6), Ob 6 (TShard.ob_00010111 l5_7)]) (diwanref13_Advance.lp5_post l5_0 l5_1 l5_2 l5_5 l5_6 l5_7 r_) := by
 intro n_
 induction n_ with
 | zero => intro l5_3 l5_4 r_ h; exact no_none h
 | succ n_ ih =>
  intro l5_3 l5_4 r_ h
  refine kLp ?_
  refine kSq ?_
  refine kRs 2047 [Tm 36 (bv (decide (l5_4 < (l5_3.length : Int))))] [.s (.t 35) [iv (l5_3.length : Int)]] (.c (c_len (e := e_i64) (l := l5_3)) .n) ?_
  rcases br_inv h with ⟨b7_0, h⟩ | ⟨b7_0, h⟩
  ·refine kCt b7_0 ?_
   refine kSk ?_
   refine kCd (cR (cB (cB (cR (cL (cR (cR (cR bd35)))))))) [.lp (cB (cR (cL (cR (cR (cR bd35))))))] ?_
   refine kSq ?_
   refine kBk 1 ?_
   obtain ⟨k11, hk11, h⟩ := jn_inv h
   have Jk11 : ∀ (j11_3 : List Int), k11 j11_3 = some r_ → WK Try.prog diwanref13_Advance.O (Ck Try.prog) (cR (cB (cL (cR (cB (cB (cR (cL (cR (cR (cR bd35))))))))))) [.blk 1, .seq (cR (cR (cB (cB (cR (cL (cR (cR (cR bd35))))))))), .lp (cB (cR (cL (cR (cR (cR bd35))))))] (ofL [Tm 2 (sS 1 e_i64 l5_0), Tm 3 (.ptr 3 0), Tm 4 (.ptr 4 0), Tm 6 (.ptr 6 0), Tm 8 (sS 3 TSeat.en l5_1), Tm 9 (bv l5_2), Tm 10 (.data (.slc true (some false) 1 (List.map e_i64 j11_3))), Tm 11 (iv l5_4), Ob 3 (TShard.ob l5_5), Ob 4 (TTxn.ob l5_6), Ob 6 (TShard.ob_00010111 l5_7)]) (diwanref13_Advance.lp5_post l5_0 l5_1 l5_2 l5_5 l5_6 l5_7 r_) := by
    intro j11_3 h
    rw [hk11] at h
    refine kRs 2047 [Tm 53 (bv (l5_4 == l5_5.ID))] [] .n ?_
    rcases br_inv h with ⟨b13_0, h⟩ | ⟨b13_0, h⟩
    ·refine kCt b13_0 ?_
     obtain ⟨r14_1, h14_2, h⟩ := bd_inv h
     obtain ⟨x14_3, a14_4, e14_5, h⟩ := ix_inv h
     refine kRc 3966 [Tm 10 (.data (.slc true (some false) 1 (List.map e_i64 (j11_3.set l5_4.toNat r14_1))))] [.a ⟨iv r14_1, []⟩, .c (e_i64 x14_3), .s (.t 10) [.data (.slc true (some false) 1 (List.map e_i64 (j11_3.set l5_4.toNat r14_1)))]] (.c (Asks.of (C := Meets Try.prog) (diwanref13_Bit.meets fu l5_5 l5_6 _ h14_2)) (.c (c_ix (e := e_i64) a14_4 e14_5) (.c (c_el (e := e_i64) e14_5) (.c (congrArg (fun d : DV => [AV.data d]) (c_set (e := e_i64) (s := 1) (nl := (some false)) (l := j11_3) (i := l5_4.toNat) (x := r14_1))) .n)))) (cR (cR (cB (cB (cR (cL (cR (cR (cR bd35))))))))) [.lp (cB (cR (cL (cR (cR (cR bd35))))))] ?_
     refine kRc 1919 [Tm 11 (iv (w64 (l5_4 + 1)))] [] .n (cB (cR (cL (cR (cR (cR bd35)))))) [] ?_
     exact kWk (ih (j11_3.set l5_4.toNat r14_1) (w64 (l5_4 + 1)) _ h)
    ·refine kCe b13_0 ?_
     refine kSk ?_
     refine kCd (cR (cR (cB (cB (cR (cL (cR (cR (cR bd35))))))))) [.lp (cB (cR (cL (cR (cR (cR bd35))))))] ?_
     refine kRc 3838 [Tm 11 (iv (w64 (l5_4 + 1)))] [] .n (cB (cR (cL (cR (cR (cR bd35)))))) [] ?_
     exact kWk (ih j11_3 (w64 (l5_4 + 1)) _ h)
   clear hk11
   refine kSq ?_
   refine kRs 4094 [Tm 42 (bv (decide (l5_4 < (l5_0.length : Int))))] [.s (.t 41) [iv (l5_0.length : Int)]] (.c (c_len (e := e_i64) (l := l5_0)) .n) ?_
   rcases br_inv h with ⟨b9_0, h⟩ | ⟨b9_0, h⟩
   ·refine kCt b9_0 ?_
    obtain ⟨x10_1, a10_2, e10_3, h⟩ := ix_inv h
    obtain ⟨x10_4, a10_5, e10_6, h⟩ := ix_inv h
    refine kRc 3966 [Tm 10 (.data (.slc true (some false) 1 (List.map e_i64 (l5_3.set l5_4.toNat x10_1))))] [.c (e_i64 x10_1), .c (e_i64 x10_4), .s (.t 10) [.data (.slc true (some false) 1 (List.map e_i64 (l5_3.set l5_4.toNat x10_1)))]] (.c (c_ix (e := e_i64) a10_2 e10_3) (.c (c_el (e := e_i64) e10_3) (.c (c_ix (e := e_i64) a10_5 e10_6) (.c (c_el (e := e_i64) e10_6) (.c (congrArg (fun d : DV => [AV.data d]) (c_set (e := e_i64) (s := 1) (nl := (some false)) (l := l5_3) (i := l5_4.toNat) (x := x10_1))) .n))))) (cR (cB (cL (cR (cB (cB (cR (cL (cR (cR (cR bd35))))))))))) [.blk 1, .seq (cR (cR (cB (cB (cR (cL (cR (cR (cR bd35))))))))), .lp (cB (cR (cL (cR (cR (cR bd35))))))] ?_
    exact kWk (Jk11 (l5_3.set l5_4.toNat x10_1) h)
   ·refine kCe b9_0 ?_
    refine kSk ?_
    refine kCd (cR (cB (cL (cR (cB (cB (cR (cL (cR (cR (cR bd35))))))))))) [.blk 1, .seq (cR (cR (cB (cB (cR (cL (cR (cR (cR bd35))))))))), .lp (cB (cR (cL (cR (cR (cR bd35))))))] ?_
    exact kWk (Jk11 l5_3 h)
  ·refine kCe b7_0 ?_
   cases some_inj h
   refine kWo ?_
   refine kXt 0 ?_
   exact kOut
def diwanref13_Advance.lp38 (fu : Nat) (l38_2 : TShard) (l38_3 : TTxn) (l38_4 : TShard) (l38_5 : TShard) : Nat → (List TWrite) → Int → Option (List TWrite)
  | 0, _, _ => none
  | n_ + 1, l38_0, l38_1 =>
  br (decide (l38_1 < (l38_3.Writes.length : Int)))
   (ix l38_3.Writes l38_1 fun x41_1 =>
   bd (diwanref1_ShardOf fu x41_1.Key l38_2.Shards) fun r41_4 =>
   br (r41_4 == l38_2.ID)
    (ix l38_3.Writes l38_1 fun x43_1 =>
    gd (decide (l38_0.length + ([x43_1] : List TWrite).length ≤ 4294967296)) <|
    diwanref13_Advance.lp38 fu l38_2 l38_3 l38_4 l38_5 n_ (l38_0 ++ ([x43_1] : List TWrite)) (w64 (l38_1 + 1)))
    (diwanref13_Advance.lp38 fu l38_2 l38_3 l38_4 l38_5 n_ l38_0 (w64 (l38_1 + 1))))
   (some l38_0)
def diwanref13_Advance.lp38_post (l38_2 : TShard) (l38_3 : TTxn) (l38_4 : TShard) (l38_5 : TShard) (r_ : (List TWrite)) : Wy → St → Prop := fun e τ => match r_ with
  | y0 => e = .exit 2 ∧ τ = ofL [Tm 3 (.ptr 3 0), Tm 6 (.ptr 6 0), Tm 13 (.ptr 13 0), Tm 14 (sO 3 TWrite.en y0), Ob 3 (TShard.ob l38_2), Ob 6 (TShard.ob_00010111 l38_4), Ob 13 (TShard.ob_00000011 l38_5)]
theorem diwanref13_Advance.lp38_ok (fu : Nat) (l38_2 : TShard) (l38_3 : TTxn) (l38_4 : TShard) (l38_5 : TShard) : ∀ (n_ : Nat) (l38_0 : List TWrite) (l38_1 : Int) (r_ : (List TWrite)), diwanref13_Advance.lp38 fu l38_2 l38_3 l38_4 l38_5 n_ l38_0 l38_1 = some r_ → WK Try.prog diwanref13_Advance.O (Ck Try.prog) (cB (cR (cL (cR (cT (cR (cL (cR (cR (cR (cR (cR (cR (cR (cR (cR (cR (cR (cR bd35))))))))))))))))))) [] (ofL [Tm 3 (.ptr 3 0), Tm 4 (.ptr 4 0), Tm 6 (.ptr 6 0), Tm 13 (.ptr 13 0), Tm 14 (sO 3 TWrite.en l38_0), Tm 15 (iv l38_1), Ob 3 (TShard.ob l38_2), Ob 4 (TTxn.ob l38_3), Ob 6 (TShard.ob_00010111 l38_4), Ob 13 (TShard.ob_00000011 l38_5)]) (diwanref13_Advance.lp38_post l38_2 l38_3 l38_4 l38_5 r_) := by
 intro n_
 induction n_ with
 | zero => intro l38_0 l38_1 r_ h; exact no_none h
 | succ n_ ih =>
  intro l38_0 l38_1 r_ h
  refine kLp ?_
  refine kSq ?_
  refine kRs 1023 [Tm 108 (bv (decide (l38_1 < (l38_3.Writes.length : Int))))] [.s (.t 107) [iv (l38_3.Writes.length : Int)]] (.c (c_len (e := TWrite.en) (l := l38_3.Writes)) .n) ?_
  rcases br_inv h with ⟨b40_0, h⟩ | ⟨b40_0, h⟩
  ·refine kCt b40_0 ?_
   refine kSk ?_
   refine kCd (cR (cB (cB (cR (cL (cR (cT (cR (cL (cR (cR (cR (cR (cR (cR (cR (cR (cR (cR (cR (cR bd35))))))))))))))))))))) [.lp (cB (cR (cL (cR (cT (cR (cL (cR (cR (cR (cR (cR (cR (cR (cR (cR (cR (cR (cR bd35)))))))))))))))))))] ?_
   refine kSq ?_
   refine kBk 3 ?_
   obtain ⟨x41_1, a41_2, e41_3, h⟩ := ix_inv h
   obtain ⟨r41_4, h41_5, h⟩ := bd_inv h
   refine kRs 2046 [Tm 122 (bv (r41_4 == l38_2.ID))] [.c (TWrite.en x41_1), .a ⟨iv r41_4, []⟩] (.c (c_ix (e := TWrite.en) a41_2 e41_3) (.c (c_el (e := TWrite.en) e41_3) (.c (Asks.of (C := Meets Try.prog) (diwanref1_ShardOf.meets fu x41_1.Key l38_2.Shards _ h41_5)) (.c rT .n)))) ?_
   rcases br_inv h with ⟨b42_0, h⟩ | ⟨b42_0, h⟩
   ·refine kCt b42_0 ?_
    obtain ⟨x43_1, a43_2, e43_3, h⟩ := ix_inv h
    obtain ⟨c43_4, h⟩ := gd_inv h
    refine kRc 2014 [Tm 14 (sO 3 TWrite.en (l38_0 ++ ([x43_1] : List TWrite)))] [.c (TWrite.en x43_1), .s (.t 130) [sO 3 TWrite.en (l38_0 ++ ([x43_1] : List TWrite))]] (.c (c_ix (e := TWrite.en) a43_2 e43_3) (.c (c_el (e := TWrite.en) e43_3) (.c (c_al (e := TWrite.en) (f := TWrite.en) c43_4) (.c (congrArg (fun d : DV => [AV.data d]) (c_app (e := TWrite.en) (s := 3) (l := l38_0) (m := ([x43_1] : List TWrite)))) .n)))) (cR (cR (cB (cB (cR (cL (cR (cT (cR (cL (cR (cR (cR (cR (cR (cR (cR (cR (cR (cR (cR (cR bd35)))))))))))))))))))))) [.lp (cB (cR (cL (cR (cT (cR (cL (cR (cR (cR (cR (cR (cR (cR (cR (cR (cR (cR (cR bd35)))))))))))))))))))] ?_
    refine kRc 991 [Tm 15 (iv (w64 (l38_1 + 1)))] [] .n (cB (cR (cL (cR (cT (cR (cL (cR (cR (cR (cR (cR (cR (cR (cR (cR (cR (cR (cR bd35))))))))))))))))))) [] ?_
    exact kWk (ih (l38_0 ++ ([x43_1] : List TWrite)) (w64 (l38_1 + 1)) _ h)
   ·refine kCe b42_0 ?_
    refine kSk ?_
    refine kCd (cR (cR (cB (cB (cR (cL (cR (cT (cR (cL (cR (cR (cR (cR (cR (cR (cR (cR (cR (cR (cR (cR bd35)))))))))))))))))))))) [.lp (cB (cR (cL (cR (cT (cR (cL (cR (cR (cR (cR (cR (cR (cR (cR (cR (cR (cR (cR bd35)))))))))))))))))))] ?_
    refine kRc 1982 [Tm 15 (iv (w64 (l38_1 + 1)))] [] .n (cB (cR (cL (cR (cT (cR (cL (cR (cR (cR (cR (cR (cR (cR (cR (cR (cR (cR (cR bd35))))))))))))))))))) [] ?_
    exact kWk (ih l38_0 (w64 (l38_1 + 1)) _ h)
  ·refine kCe b40_0 ?_
   cases some_inj h
   refine kWo ?_
   refine kXt 2 ?_
   exact kOut
def diwanref13_Advance (fu : Nat) (s : TShard) (t : TTxn) (bits : List Int) : Option (TShard × Bool) :=
 bd (diwanref13_Turn fu s.Seats t.Session t.Seq (w64 (s.Done + 1))) fun (r2_1, r2_2) =>
 gd (decide ((0 : Int) ≤ (if s.Shards < 0 then 0 else s.Shards) ∧ (if s.Shards < 0 then 0 else s.Shards) ≤ (if s.Shards < 0 then 0 else s.Shards) ∧ (if s.Shards < 0 then 0 else s.Shards) ≤ 4294967296)) <|
 bd (diwanref13_Advance.lp5 fu bits r2_1 r2_2 s t (TShard.mk 0 0 0 (TStore.mk [] 0) [] [] []) fu (List.replicate (if s.Shards < 0 then 0 else s.Shards).toNat (0 : Int)) 0) fun y17_0 =>
 bd (diwanref13_Verdict fu t s.Shards y17_0) fun r18_1 =>
 jn (fun (j22_2 : Int) =>
  jn (fun (j26_1 : Int) =>
   br (j26_1 == 0)
    (some (s, false))
    (gd (decide (([] : List Int).length + s.Bits.length ≤ 4294967296)) <|
    bd (diwanref13_Bit fu s t) fun r31_2 =>
    gd (decide (s.Bits.length + ([r31_2] : List Int).length ≤ 4294967296)) <|
    gd (decide (([] : List Int).length + s.Said.length ≤ 4294967296)) <|
    gd (decide (s.Said.length + ([j26_1] : List Int).length ≤ 4294967296)) <|
    br (j26_1 == 1)
     (bd (diwanref13_Advance.lp38 fu s t (TShard.mk 0 0 0 (TStore.mk [] 0) [] [] []) (TShard.mk s.ID s.Shards (w64 (s.Done + 1)) s.S r2_1 (s.Bits ++ ([r31_2] : List Int)) (s.Said ++ ([j26_1] : List Int))) fu [] 0) fun y46_0 =>
     bd (diwanref13_Write fu s.S (w64 (s.Done + 1)) y46_0) fun r47_1 =>
     some ((TShard.mk s.ID s.Shards (w64 (s.Done + 1)) r47_1 r2_1 (s.Bits ++ ([r31_2] : List Int)) (s.Said ++ ([j26_1] : List Int))), true))
     (some ((TShard.mk s.ID s.Shards (w64 (s.Done + 1)) s.S r2_1 (s.Bits ++ ([r31_2] : List Int)) (s.Said ++ ([j26_1] : List Int))), true)))) fun k26 =>
  br (!r2_2)
   (k26 3)
   (k26 j22_2)) fun k22 =>
 bd (diwanref1_Touches fu t s.ID s.Shards) fun r19_1 =>
 br (!r19_1)
  (k22 4)
  (k22 r18_1)
theorem diwanref13_Advance.meets (fu : Nat) (s : TShard) (t : TTxn) (bits : List Int) (z0 : TShard) (z1 : Bool) (h : diwanref13_Advance fu s t bits = some (z0, z1)) : Meets Try.prog ⟨35, [.data (TShard.ag s), .data (TTxn.ag t), sS 1 e_i64 bits], []⟩ ⟨.tup [.data (TShard.ag z0), bv z1], []⟩ := by
 refine kMt hmix diwanref13_Advance.O Try.f35 bd35 7 ?_
 unfold diwanref13_Advance at h
 refine kRs 4 [Tm 3 (.ptr 3 0), Tm 4 (.ptr 4 0), Tm 6 (.ptr 6 0), Ob 3 (TShard.ob s), Ob 4 (TTxn.ob t), Ob 6 (TShard.ob_00010111 (TShard.mk 0 0 0 (TStore.mk [] 0) [] [] []))] [] .n ?_
 obtain ⟨⟨r2_1, r2_2⟩, h2_3, h⟩ := bd_inv h
 refine kRs 127 [Tm 8 (sS 3 TSeat.en r2_1), Tm 9 (bv r2_2)] [.a ⟨.tup [sS 3 TSeat.en r2_1, bv r2_2], []⟩] (.c (Asks.of (C := Meets Try.prog) (diwanref13_Turn.meets fu s.Seats t.Session t.Seq (w64 (s.Done + 1)) _ _ h2_3)) .n) ?_
 obtain ⟨c3_1, h⟩ := gd_inv h
 refine kRs 511 [Tm 10 (.data (.slc true (some false) 1 (List.map e_i64 (List.replicate (if s.Shards < 0 then 0 else s.Shards).toNat (0 : Int)))))] [.s (.t 32) [.data (.slc true (some false) 1 (List.map e_i64 (List.replicate (if s.Shards < 0 then 0 else s.Shards).toNat (0 : Int))))]] (.c c3_1 (.c (congrArg (fun d : DV => [AV.data d]) (c_rep (e := e_i64) (s := 1) (n := (if s.Shards < 0 then 0 else s.Shards).toNat) (x := 0))) .n)) ?_
 refine kSq ?_
 refine kRs 1023 [Tm 11 (iv 0)] [] .n ?_
 refine kBk 0 ?_
 obtain ⟨o17, ho17, h⟩ := bd_inv h
 refine kUs (diwanref13_Advance.lp5_ok fu bits r2_1 r2_2 s t (TShard.mk 0 0 0 (TStore.mk [] 0) [] [] []) _ (List.replicate (if s.Shards < 0 then 0 else s.Shards).toNat (0 : Int)) 0 _ ho17) ?_
 intro e_ τ_ hp_
 obtain ⟨y17_0, rfl⟩ : ∃ y, y = o17 := ⟨_, rfl⟩
 obtain ⟨rfl, rfl⟩ := hp_
 refine kCd (cR (cR (cR (cR bd35)))) [] ?_
 obtain ⟨r18_1, h18_2, h⟩ := bd_inv h
 refine kRs 479 [Tm 12 (iv r18_1)] [.a ⟨iv r18_1, []⟩] (.c (Asks.fg (args1 := [.data (TTxn.ag t), iv s.Shards]) (args2 := []) (nl := some false) (sz := 1) (es := List.map e_i64 y17_0) (Asks.of (C := Meets Try.prog) (diwanref13_Verdict.meets fu t s.Shards y17_0 _ h18_2))) .n) ?_
 obtain ⟨k22, hk22, h⟩ := jn_inv h
 have Jk22 : ∀ (j22_2 : Int), k22 j22_2 = some (z0, z1) → WK Try.prog diwanref13_Advance.O (Ck Try.prog) (cR (cR (cR (cR (cR (cR bd35)))))) [] (ofL [Tm 3 (.ptr 3 0), Tm 4 (.ptr 4 0), Tm 6 (.ptr 6 0), Tm 8 (sS 3 TSeat.en r2_1), Tm 9 (bv r2_2), Tm 12 (iv j22_2), Ob 3 (TShard.ob s), Ob 4 (TTxn.ob t), Ob 6 (TShard.ob_00010111 (TShard.mk 0 0 0 (TStore.mk [] 0) [] [] []))]) (Fin Try.prog diwanref13_Advance.O Try.f35 0 ⟨.tup [.data (TShard.ag z0), bv z1], []⟩) := by
  intro j22_2 h
  rw [hk22] at h
  obtain ⟨k26, hk26, h⟩ := jn_inv h
  have Jk26 : ∀ (j26_1 : Int), k26 j26_1 = some (z0, z1) → WK Try.prog diwanref13_Advance.O (Ck Try.prog) (cR (cR (cR (cR (cR (cR (cR bd35))))))) [] (ofL [Tm 3 (.ptr 3 0), Tm 4 (.ptr 4 0), Tm 6 (.ptr 6 0), Tm 8 (sS 3 TSeat.en r2_1), Tm 12 (iv j26_1), Ob 3 (TShard.ob s), Ob 4 (TTxn.ob t), Ob 6 (TShard.ob_00010111 (TShard.mk 0 0 0 (TStore.mk [] 0) [] [] []))]) (Fin Try.prog diwanref13_Advance.O Try.f35 0 ⟨.tup [.data (TShard.ag z0), bv z1], []⟩) := by
   intro j26_1 h
   rw [hk26] at h
   refine kSq ?_
   refine kRs 255 [Tm 75 (bv (j26_1 == 0))] [] .n ?_
   rcases br_inv h with ⟨b28_0, h⟩ | ⟨b28_0, h⟩
   ·refine kCt b28_0 ?_
    refine kRs 8 [Tm 7 (bv false), Ob 6 (TShard.ob s)] [] .n ?_
    refine kRt ?_
    have h_0 := some_inj h
    obtain ⟨g_1, h_1⟩ := Prod.mk.inj h_0
    subst g_1
    subst h_1
    exact kFr
   ·refine kCe b28_0 ?_
    refine kSk ?_
    refine kCd (cR (cR (cR (cR (cR (cR (cR (cR bd35)))))))) [] ?_
    refine kRs 510 [Tm 13 (.ptr 13 0), Ob 13 (TShard.ob s)] [] .n ?_
    obtain ⟨c31_1, h⟩ := gd_inv h
    obtain ⟨r31_2, h31_3, h⟩ := bd_inv h
    obtain ⟨c31_4, h⟩ := gd_inv h
    refine kRs 1021 [Ob 13 (TShard.ob_0000001 (TShard.mk s.ID s.Shards s.Done s.S s.Seats (s.Bits ++ ([r31_2] : List Int)) s.Said))] [.a ⟨iv r31_2, []⟩, .s (.t 86) [sO 1 e_i64 (s.Bits ++ ([r31_2] : List Int))]] (.c (c_al (e := e_i64) (f := e_i64) c31_1) (.c (Asks.of (C := Meets Try.prog) (diwanref13_Bit.meets fu s t _ h31_3)) (.c (c_al (e := e_i64) (f := e_i64) c31_4) (.c (congrArg (fun d : DV => [AV.data d]) (c_app (e := e_i64) (s := 1) (l := s.Bits) (m := ([r31_2] : List Int)))) (.c rT .n))))) ?_
    obtain ⟨c32_1, h⟩ := gd_inv h
    obtain ⟨c32_2, h⟩ := gd_inv h
    refine kRs 1022 [Ob 13 (TShard.ob_00000011 (TShard.mk s.ID s.Shards s.Done s.S s.Seats (s.Bits ++ ([r31_2] : List Int)) (s.Said ++ ([j26_1] : List Int))))] [.s (.t 94) [sO 1 e_i64 (s.Said ++ ([j26_1] : List Int))]] (.c (c_al (e := e_i64) (f := e_i64) c32_1) (.c (c_al (e := e_i64) (f := e_i64) c32_2) (.c (congrArg (fun d : DV => [AV.data d]) (c_app (e := e_i64) (s := 1) (l := s.Said) (m := ([j26_1] : List Int)))) .n))) ?_
    refine kRs 990 [Ob 13 (TShard.ob_00000011 (TShard.mk s.ID s.Shards (w64 (s.Done + 1)) s.S r2_1 (s.Bits ++ ([r31_2] : List Int)) (s.Said ++ ([j26_1] : List Int))))] [] .n ?_
    refine kSq ?_
    refine kRs 479 [Tm 103 (bv (j26_1 == 1))] [] .n ?_
    rcases br_inv h with ⟨b35_0, h⟩ | ⟨b35_0, h⟩
    ·refine kCt b35_0 ?_
     refine kRs 510 [Tm 14 (.data (.slc true (some true) 3 (List.map TWrite.en [])))] [] .n ?_
     refine kSq ?_
     refine kRs 511 [Tm 15 (iv 0)] [] .n ?_
     refine kBk 2 ?_
     obtain ⟨o46, ho46, h⟩ := bd_inv h
     refine kUs (diwanref13_Advance.lp38_ok fu s t (TShard.mk 0 0 0 (TStore.mk [] 0) [] [] []) (TShard.mk s.ID s.Shards (w64 (s.Done + 1)) s.S r2_1 (s.Bits ++ ([r31_2] : List Int)) (s.Said ++ ([j26_1] : List Int))) _ [] 0 _ ho46) ?_
     intro e_ τ_ hp_
     obtain ⟨y46_0, rfl⟩ : ∃ y, y = o46 := ⟨_, rfl⟩
     obtain ⟨rfl, rfl⟩ := hp_
     refine kCd (cR (cR (cT (cR (cL (cR (cR (cR (cR (cR (cR (cR (cR (cR (cR (cR (cR bd35))))))))))))))))) [.seq (cR (cR (cR (cR (cR (cR (cR (cR (cR (cR (cR (cR (cR bd35)))))))))))))] ?_
     obtain ⟨r47_1, h47_2, h⟩ := bd_inv h
     refine kRc 38 [Ob 13 (TShard.ob_00010011 (TShard.mk s.ID s.Shards (w64 (s.Done + 1)) r47_1 r2_1 (s.Bits ++ ([r31_2] : List Int)) (s.Said ++ ([j26_1] : List Int))))] [.a ⟨.data (.agg [.slc true none 2 (List.map TChain.en r47_1.Chains), .val (.int .i64 r47_1.Mark)]), []⟩] (.c (Asks.of (C := Meets Try.prog) (diwanref13_Write.meets fu s.S (w64 (s.Done + 1)) y46_0 _ h47_2)) .n) (cR (cR (cR (cR (cR (cR (cR (cR (cR (cR (cR (cR (cR bd35))))))))))))) [] ?_
     refine kRs 2 [Tm 7 (bv true), Ob 6 (TShard.ob_00010011 (TShard.mk s.ID s.Shards (w64 (s.Done + 1)) r47_1 r2_1 (s.Bits ++ ([r31_2] : List Int)) (s.Said ++ ([j26_1] : List Int))))] [] .n ?_
     refine kRt ?_
     have h_0 := some_inj h
     obtain ⟨g_1, h_1⟩ := Prod.mk.inj h_0
     subst g_1
     subst h_1
     exact kFr
    ·refine kCe b35_0 ?_
     refine kSk ?_
     refine kCd (cR (cR (cR (cR (cR (cR (cR (cR (cR (cR (cR (cR (cR bd35))))))))))))) [] ?_
     refine kRs 32 [Tm 7 (bv true), Ob 6 (TShard.ob_00000011 (TShard.mk s.ID s.Shards (w64 (s.Done + 1)) s.S r2_1 (s.Bits ++ ([r31_2] : List Int)) (s.Said ++ ([j26_1] : List Int))))] [] .n ?_
     refine kRt ?_
     have h_0 := some_inj h
     obtain ⟨g_1, h_1⟩ := Prod.mk.inj h_0
     subst g_1
     subst h_1
     exact kFr
  clear hk26
  refine kSq ?_
  refine kRs 495 [Tm 73 (bv (!r2_2))] [] .n ?_
  rcases br_inv h with ⟨b24_0, h⟩ | ⟨b24_0, h⟩
  ·refine kCt b24_0 ?_
   refine kRc 478 [Tm 12 (iv 3)] [] .n (cR (cR (cR (cR (cR (cR (cR bd35))))))) [] ?_
   exact kWk (Jk26 3 h)
  ·refine kCe b24_0 ?_
   refine kSk ?_
   refine kCd (cR (cR (cR (cR (cR (cR (cR bd35))))))) [] ?_
   exact kWk (Jk26 j22_2 h)
 clear hk22
 refine kSq ?_
 obtain ⟨r19_1, h19_2, h⟩ := bd_inv h
 refine kRs 511 [Tm 71 (bv (!r19_1))] [.a ⟨bv r19_1, []⟩] (.c (Asks.of (C := Meets Try.prog) (diwanref1_Touches.meets fu t s.ID s.Shards _ h19_2)) .n) ?_
 rcases br_inv h with ⟨b20_0, h⟩ | ⟨b20_0, h⟩
 ·refine kCt b20_0 ?_
  refine kRc 1020 [Tm 12 (iv 4)] [] .n (cR (cR (cR (cR (cR (cR bd35)))))) [] ?_
  exact kWk (Jk22 4 h)
 ·refine kCe b20_0 ?_
  refine kSk ?_
  refine kCd (cR (cR (cR (cR (cR (cR bd35)))))) [] ?_
  exact kWk (Jk22 r18_1 h)
def bd62 : Code := (Try.f62.body).getD .skip
def diwanref13_TrimChain.O : Nat → Nat := fun t => bif ([4, 5, 6] : List Nat).any (Nat.beq t) then 1 else 0
def diwanref13_TrimChain.lp4 (fu : Nat) (l4_0 : List TVersion) (l4_1 : Int) : Nat → (List TVersion) → Int → Option (List TVersion)
  | 0, _, _ => none
  | n_ + 1, l4_2, l4_3 =>
  br (decide (l4_3 < (l4_0.length : Int)))
   (jn (
    ix l4_0 l4_3 fun x11_1 =>
    gd (decide (l4_2.length + ([x11_1] : List TVersion).length ≤ 4294967296)) <|
    diwanref13_TrimChain.lp4 fu l4_0 l4_1 n_ (l4_2 ++ ([x11_1] : List TVersion)) (w64 (l4_3 + 1))) fun k10 =>
   br (decide ((w64 (l4_3 + 1)) < (l4_0.length : Int)))
    (ix l4_0 (w64 (l4_3 + 1)) fun x7_2 =>
    br (decide (x7_2.Pos ≤ l4_1))
     (diwanref13_TrimChain.lp4 fu l4_0 l4_1 n_ l4_2 (w64 (l4_3 + 1)))
     (k10))
    (k10))
   (some l4_2)
def diwanref13_TrimChain.lp4_post (l4_0 : List TVersion) (l4_1 : Int) (r_ : (List TVersion)) : Wy → St → Prop := fun e τ => match r_ with
  | y0 => e = .exit 0 ∧ τ = ofL [Tm 5 (sO 3 TVersion.en y0)]
theorem diwanref13_TrimChain.lp4_ok (fu : Nat) (l4_0 : List TVersion) (l4_1 : Int) : ∀ (n_ : Nat) (l4_2 : List TVersion) (l4_3 : Int) (r_ : (List TVersion)), diwanref13_TrimChain.lp4 fu l4_0 l4_1 n_ l4_2 l4_3 = some r_ → WK Try.prog diwanref13_TrimChain.O (Ck Try.prog) (cB (cR (cL (cR (cR bd62))))) [] (ofL [Tm 0 (sS 3 TVersion.en l4_0), Tm 1 (iv l4_1), Tm 5 (sO 3 TVersion.en l4_2), Tm 6 (iv l4_3)]) (diwanref13_TrimChain.lp4_post l4_0 l4_1 r_) := by
 intro n_
 induction n_ with
 | zero => intro l4_2 l4_3 r_ h; exact no_none h
 | succ n_ ih =>
  intro l4_2 l4_3 r_ h
  refine kLp ?_
  refine kSq ?_
  refine kRs 15 [Tm 10 (bv (decide (l4_3 < (l4_0.length : Int))))] [.s (.t 9) [iv (l4_0.length : Int)]] (.c (c_len (e := TVersion.en) (l := l4_0)) .n) ?_
  rcases br_inv h with ⟨b6_0, h⟩ | ⟨b6_0, h⟩
  ·refine kCt b6_0 ?_
   refine kSk ?_
   refine kCd (cR (cB (cB (cR (cL (cR (cR bd62))))))) [.lp (cB (cR (cL (cR (cR bd62)))))] ?_
   refine kSq ?_
   refine kBk 1 ?_
   obtain ⟨k10, hk10, h⟩ := jn_inv h
   have Jk10 : k10 = some r_ → WK Try.prog diwanref13_TrimChain.O (Ck Try.prog) (cR (cB (cL (cR (cB (cB (cR (cL (cR (cR bd62)))))))))) [.blk 1, .seq (cR (cR (cB (cB (cR (cL (cR (cR bd62)))))))), .lp (cB (cR (cL (cR (cR bd62)))))] (ofL [Tm 0 (sS 3 TVersion.en l4_0), Tm 1 (iv l4_1), Tm 5 (sO 3 TVersion.en l4_2), Tm 6 (iv l4_3)]) (diwanref13_TrimChain.lp4_post l4_0 l4_1 r_) := by
    intro h
    rw [hk10] at h
    obtain ⟨x11_1, a11_2, e11_3, h⟩ := ix_inv h
    obtain ⟨c11_4, h⟩ := gd_inv h
    refine kRc 11 [Tm 5 (sO 3 TVersion.en (l4_2 ++ ([x11_1] : List TVersion)))] [.c (TVersion.en x11_1), .s (.t 34) [sO 3 TVersion.en (l4_2 ++ ([x11_1] : List TVersion))]] (.c (c_ix (e := TVersion.en) a11_2 e11_3) (.c (c_el (e := TVersion.en) e11_3) (.c (c_al (e := TVersion.en) (f := TVersion.en) c11_4) (.c (congrArg (fun d : DV => [AV.data d]) (c_app (e := TVersion.en) (s := 3) (l := l4_2) (m := ([x11_1] : List TVersion)))) .n)))) (cR (cR (cB (cB (cR (cL (cR (cR bd62)))))))) [.lp (cB (cR (cL (cR (cR bd62)))))] ?_
    refine kRc 7 [Tm 6 (iv (w64 (l4_3 + 1)))] [] .n (cB (cR (cL (cR (cR bd62))))) [] ?_
    exact kWk (ih (l4_2 ++ ([x11_1] : List TVersion)) (w64 (l4_3 + 1)) _ h)
   clear hk10
   refine kSq ?_
   rcases br_inv h with ⟨b7_1, h⟩ | ⟨b7_1, h⟩
   ·obtain ⟨x7_2, a7_3, e7_4, h⟩ := ix_inv h
    refine kRs 30 [Tm 27 (bv (decide (x7_2.Pos ≤ l4_1)))] (.s (.t 16) [iv (l4_0.length : Int)] :: (rp 4 (.b true) (.c (TVersion.en x7_2) :: (rp 5 (.b true) [])))) (.c (c_len (e := TVersion.en) (l := l4_0)) (.r 4 b7_1 (.c (c_ix (e := TVersion.en) a7_3 e7_4) (.c (c_el (e := TVersion.en) e7_4) (.r 5 b7_1 .n))))) ?_
    rcases br_inv h with ⟨b8_0, h⟩ | ⟨b8_0, h⟩
    ·refine kCt b8_0 ?_
     refine kXt 1 ?_
     refine kCd (cR (cR (cB (cB (cR (cL (cR (cR bd62)))))))) [.lp (cB (cR (cL (cR (cR bd62)))))] ?_
     refine kRc 14 [Tm 6 (iv (w64 (l4_3 + 1)))] [] .n (cB (cR (cL (cR (cR bd62))))) [] ?_
     exact kWk (ih l4_2 (w64 (l4_3 + 1)) _ h)
    ·refine kCe b8_0 ?_
     refine kSk ?_
     refine kCd (cR (cB (cL (cR (cB (cB (cR (cL (cR (cR bd62)))))))))) [.blk 1, .seq (cR (cR (cB (cB (cR (cL (cR (cR bd62)))))))), .lp (cB (cR (cL (cR (cR bd62)))))] ?_
     exact kWk (Jk10 h)
   ·refine kRs 30 [Tm 27 (bv false)] (.s (.t 16) [iv (l4_0.length : Int)] :: (rp 9 (.b false) [])) (.c (c_len (e := TVersion.en) (l := l4_0)) (.r 9 b7_1 .n)) ?_
    refine kCe rF ?_
    refine kSk ?_
    refine kCd (cR (cB (cL (cR (cB (cB (cR (cL (cR (cR bd62)))))))))) [.blk 1, .seq (cR (cR (cB (cB (cR (cL (cR (cR bd62)))))))), .lp (cB (cR (cL (cR (cR bd62)))))] ?_
    exact kWk (Jk10 h)
  ·refine kCe b6_0 ?_
   cases some_inj h
   refine kWo ?_
   refine kXt 0 ?_
   exact kOut
def diwanref13_TrimChain (fu : Nat) (l : List TVersion) (mark : Int) : Option (List TVersion) :=
 bd (diwanref13_TrimChain.lp4 fu l mark fu [] 0) fun y13_0 =>
 some y13_0
theorem diwanref13_TrimChain.meets (fu : Nat) (l : List TVersion) (mark : Int) (z0 : List TVersion) (h : diwanref13_TrimChain fu l mark = some z0) : Meets Try.prog ⟨62, [sS 3 TVersion.en l, iv mark], []⟩ ⟨sO 3 TVersion.en z0, []⟩ := by
 refine kMt hmix diwanref13_TrimChain.O Try.f62 bd62 3 ?_
 unfold diwanref13_TrimChain at h
 refine kRs 3 [] [] .n ?_
 refine kRs 3 [Tm 5 (.data (.slc true (some true) 3 (List.map TVersion.en [])))] [] .n ?_
 refine kSq ?_
 refine kRs 7 [Tm 6 (iv 0)] [] .n ?_
 refine kBk 0 ?_
 obtain ⟨o13, ho13, h⟩ := bd_inv h
 refine kUs (diwanref13_TrimChain.lp4_ok fu l mark _ [] 0 _ ho13) ?_
 intro e_ τ_ hp_
 obtain ⟨y13_0, rfl⟩ : ∃ y, y = o13 := ⟨_, rfl⟩
 obtain ⟨rfl, rfl⟩ := hp_
 refine kCd (cR (cR (cR bd62))) [] ?_
 refine kRs 0 [Tm 4 (sO 3 TVersion.en y13_0)] [] .n ?_
 refine kRt ?_
 have h_ := some_inj h
 subst h_
 exact kFr
def bd36 : Code := (Try.f36.body).getD .skip
def diwanref13_Trim.O : Nat → Nat := fun t => bif ([2, 5, 6, 11, 13, 37, 38, 39, 41] : List Nat).any (Nat.beq t) then 1 else bif ([4] : List Nat).any (Nat.beq t) then 2 else 0
def diwanref13_Trim.lp7 (fu : Nat) (l7_0 : Int) (l7_2 : TStore) (l7_3 : TStore) : Nat → Int → TStore → Option TStore
  | 0, _, _ => none
  | n_ + 1, l7_1, l7_4 =>
  br (decide (l7_1 < (l7_2.Chains.length : Int)))
   (ix l7_2.Chains l7_1 fun x10_1 =>
   ix l7_2.Chains l7_1 fun x10_4 =>
   bd (diwanref13_TrimChain fu x10_4.L l7_0) fun r10_7 =>
   gd (decide (l7_4.Chains.length + ([(TChain.mk x10_1.Key r10_7)] : List TChain).length ≤ 4294967296)) <|
   diwanref13_Trim.lp7 fu l7_0 l7_2 l7_3 n_ (w64 (l7_1 + 1)) (TStore.mk (l7_4.Chains ++ ([(TChain.mk x10_1.Key r10_7)] : List TChain)) l7_4.Mark))
   (some l7_4)
def diwanref13_Trim.lp7_post (l7_0 : Int) (l7_2 : TStore) (l7_3 : TStore) (r_ : TStore) : Wy → St → Prop := fun e τ => match r_ with
  | y0 => e = .exit 0 ∧ τ = ofL [Tm 4 (.ptr 4 0), Tm 5 (.ptr 5 0), Ob 4 [sS 2 TChain.en l7_3.Chains, iv l7_3.Mark], Ob 5 [sO 2 TChain.en y0.Chains, iv y0.Mark]]
theorem diwanref13_Trim.lp7_ok (fu : Nat) (l7_0 : Int) (l7_2 : TStore) (l7_3 : TStore) : ∀ (n_ : Nat) (l7_1 : Int) (l7_4 : TStore) (r_ : TStore), diwanref13_Trim.lp7 fu l7_0 l7_2 l7_3 n_ l7_1 l7_4 = some r_ → WK Try.prog diwanref13_Trim.O (Ck Try.prog) (cB (cR (cL (cR (cR (cR bd36)))))) [] (ofL [Tm 1 (iv l7_0), Tm 2 (.ptr 2 0), Tm 4 (.ptr 4 0), Tm 5 (.ptr 5 0), Tm 6 (iv l7_1), Ob 2 [sS 2 TChain.en l7_2.Chains, iv l7_2.Mark], Ob 4 [sS 2 TChain.en l7_3.Chains, iv l7_3.Mark], Ob 5 [sO 2 TChain.en l7_4.Chains, iv l7_4.Mark]]) (diwanref13_Trim.lp7_post l7_0 l7_2 l7_3 r_) := by
 intro n_
 induction n_ with
 | zero => intro l7_1 l7_4 r_ h; exact no_none h
 | succ n_ ih =>
  intro l7_1 l7_4 r_ h
  refine kLp ?_
  refine kSq ?_
  refine kRs 255 [Tm 18 (bv (decide (l7_1 < (l7_2.Chains.length : Int))))] [.s (.t 17) [iv (l7_2.Chains.length : Int)]] (.c (c_len (e := TChain.en) (l := l7_2.Chains)) .n) ?_
  rcases br_inv h with ⟨b9_0, h⟩ | ⟨b9_0, h⟩
  ·refine kCt b9_0 ?_
   refine kSk ?_
   refine kCd (cR (cB (cB (cR (cL (cR (cR (cR bd36)))))))) [.lp (cB (cR (cL (cR (cR (cR bd36))))))] ?_
   refine kSq ?_
   refine kBk 1 ?_
   obtain ⟨x10_1, a10_2, e10_3, h⟩ := ix_inv h
   obtain ⟨x10_4, a10_5, e10_6, h⟩ := ix_inv h
   obtain ⟨r10_7, h10_8, h⟩ := bd_inv h
   obtain ⟨c10_9, h⟩ := gd_inv h
   refine kRc 254 [Ob 5 [sO 2 TChain.en (l7_4.Chains ++ ([(TChain.mk x10_1.Key r10_7)] : List TChain)), iv l7_4.Mark]] [.c (TChain.en x10_1), .c (TChain.en x10_4), .a ⟨sO 3 TVersion.en r10_7, []⟩, .s (.t 39) [sO 2 TChain.en (l7_4.Chains ++ ([(TChain.mk x10_1.Key r10_7)] : List TChain))]] (.c (c_ix (e := TChain.en) a10_2 e10_3) (.c (c_el (e := TChain.en) e10_3) (.c (c_ix (e := TChain.en) a10_5 e10_6) (.c (c_el (e := TChain.en) e10_6) (.c (Asks.of (C := Meets Try.prog) (diwanref13_TrimChain.meets fu x10_4.L l7_0 _ h10_8)) (.c (c_al (e := TChain.en) (f := TChain.en) c10_9) (.c (congrArg (fun d : DV => [AV.data d]) (c_app (e := TChain.en) (s := 2) (l := l7_4.Chains) (m := ([(TChain.mk x10_1.Key r10_7)] : List TChain)))) (.c rT .n)))))))) (cR (cR (cB (cB (cR (cL (cR (cR (cR bd36))))))))) [.lp (cB (cR (cL (cR (cR (cR bd36))))))] ?_
   refine kRc 223 [Tm 6 (iv (w64 (l7_1 + 1)))] [] .n (cB (cR (cL (cR (cR (cR bd36)))))) [] ?_
   exact kWk (ih (w64 (l7_1 + 1)) (TStore.mk (l7_4.Chains ++ ([(TChain.mk x10_1.Key r10_7)] : List TChain)) l7_4.Mark) _ h)
  ·refine kCe b9_0 ?_
   cases some_inj h
   refine kWo ?_
   refine kXt 0 ?_
   exact kOut
def diwanref13_Trim (fu : Nat) (s : TStore) (mark : Int) : Option TStore :=
 br (decide (mark ≤ s.Mark))
  (some s)
  (bd (diwanref13_Trim.lp7 fu mark s (TStore.mk [] 0) fu 0 (TStore.mk [] mark)) fun y12_0 =>
  some y12_0)
theorem diwanref13_Trim.meets (fu : Nat) (s : TStore) (mark : Int) (z0 : TStore) (h : diwanref13_Trim fu s mark = some z0) : Meets Try.prog ⟨36, [.data (.agg [.slc false none 2 (List.map TChain.en s.Chains), .val (.int .i64 s.Mark)]), iv mark], []⟩ ⟨.data (.agg [.slc false none 2 (List.map TChain.en z0.Chains), .val (.int .i64 z0.Mark)]), []⟩ := by
 refine kMt hmix diwanref13_Trim.O Try.f36 bd36 3 ?_
 unfold diwanref13_Trim at h
 refine kRs 2 [Tm 2 (.ptr 2 0), Tm 4 (.ptr 4 0), Ob 2 [sS 2 TChain.en s.Chains, iv s.Mark], Ob 4 [.data (.slc false none 2 (List.map TChain.en [])), iv 0]] [] .n ?_
 refine kSq ?_
 refine kRs 31 [Tm 10 (bv (decide (mark ≤ s.Mark)))] [] .n ?_
 rcases br_inv h with ⟨b3_0, h⟩ | ⟨b3_0, h⟩
 ·refine kCt b3_0 ?_
  refine kRs 4 [Ob 4 [sS 2 TChain.en s.Chains, iv s.Mark]] [] .n ?_
  refine kRt ?_
  have h_ := some_inj h
  subst h_
  exact kFr
 ·refine kCe b3_0 ?_
  refine kSk ?_
  refine kCd (cR (cR bd36)) [] ?_
  refine kRs 62 [Tm 5 (.ptr 5 0), Ob 5 [.data (.slc true none 2 (List.map TChain.en [])), iv mark]] [] .n ?_
  refine kSq ?_
  refine kRs 127 [Tm 6 (iv 0)] [] .n ?_
  refine kBk 0 ?_
  obtain ⟨o12, ho12, h⟩ := bd_inv h
  refine kUs (diwanref13_Trim.lp7_ok fu mark s (TStore.mk [] 0) _ 0 (TStore.mk [] mark) _ ho12) ?_
  intro e_ τ_ hp_
  obtain ⟨y12_0, rfl⟩ : ∃ y, y = o12 := ⟨_, rfl⟩
  obtain ⟨rfl, rfl⟩ := hp_
  refine kCd (cR (cR (cR (cR bd36)))) [] ?_
  refine kRs 1 [Ob 4 [sO 2 TChain.en y12_0.Chains, iv y12_0.Mark]] [] .n ?_
  refine kRt ?_
  have h_ := some_inj h
  subst h_
  exact kFr
def bd13 : Code := (Try.f13.body).getD .skip
def diwanlaw20_made.O : Nat → Nat := fun t => bif ([8, 9, 10, 11, 12, 13, 14, 24, 40, 42, 46, 55, 57] : List Nat).any (Nat.beq t) then 1 else 0
def diwanlaw20_made.lp6 (fu : Nat) (l6_0 : Int) (l6_1 : List TTxn) (l6_3 : TShard) : Nat → Int → TShard → Option TShard
  | 0, _, _ => none
  | n_ + 1, l6_2, l6_4 =>
  br (decide (l6_2 < (l6_1.length : Int)))
   (ix l6_1 l6_2 fun x9_1 =>
   bd (diwanref13_Advance fu l6_4 x9_1 ([1, 1, 1] : List Int)) fun (r9_4, r9_5) =>
   br (!r9_5)
    (some l6_4)
    (diwanlaw20_made.lp6 fu l6_0 l6_1 l6_3 n_ (w64 (l6_2 + 1)) r9_4))
   (some l6_4)
def diwanlaw20_made.lp6_post (l6_0 : Int) (l6_1 : List TTxn) (l6_3 : TShard) (r_ : TShard) : Wy → St → Prop := fun e τ => match r_ with
  | y0 => e = .exit 0 ∧ τ = ofL [Tm 3 (.data (.val (.int .u8 l6_0))), Tm 8 (.ptr 8 0), Tm 10 (.ptr 10 0), Ob 8 (TShard.ob_00010111 l6_3), Ob 10 (TShard.ob y0)]
theorem diwanlaw20_made.lp6_ok (fu : Nat) (l6_0 : Int) (l6_1 : List TTxn) (l6_3 : TShard) : ∀ (n_ : Nat) (l6_2 : Int) (l6_4 : TShard) (r_ : TShard), diwanlaw20_made.lp6 fu l6_0 l6_1 l6_3 n_ l6_2 l6_4 = some r_ → WK Try.prog diwanlaw20_made.O (Ck Try.prog) (cB (cR (cL (cR (cR (cR (cR bd13))))))) [] (ofL [Tm 3 (.data (.val (.int .u8 l6_0))), Tm 8 (.ptr 8 0), Tm 10 (.ptr 10 0), Tm 11 (sO 4 TTxn.en l6_1), Tm 12 (iv l6_2), Ob 8 (TShard.ob_00010111 l6_3), Ob 10 (TShard.ob l6_4)]) (diwanlaw20_made.lp6_post l6_0 l6_1 l6_3 r_) := by
 intro n_
 induction n_ with
 | zero => intro l6_2 l6_4 r_ h; exact no_none h
 | succ n_ ih =>
  intro l6_2 l6_4 r_ h
  refine kLp ?_
  refine kSq ?_
  refine kRs 127 [Tm 31 (bv (decide (l6_2 < (l6_1.length : Int))))] [.s (.t 30) [iv (l6_1.length : Int)]] (.c (c_len (e := TTxn.en) (l := l6_1)) .n) ?_
  rcases br_inv h with ⟨b8_0, h⟩ | ⟨b8_0, h⟩
  ·refine kCt b8_0 ?_
   refine kSk ?_
   refine kCd (cR (cB (cB (cR (cL (cR (cR (cR (cR bd13))))))))) [.lp (cB (cR (cL (cR (cR (cR (cR bd13)))))))] ?_
   refine kSq ?_
   refine kBk 1 ?_
   obtain ⟨x9_1, a9_2, e9_3, h⟩ := ix_inv h
   obtain ⟨⟨r9_4, r9_5⟩, h9_6, h⟩ := bd_inv h
   refine kRs 254 [Tm 13 (.ptr 13 0), Tm 14 (bv r9_5), Ob 13 (TShard.ob r9_4)] [.c (TTxn.en x9_1), .a ⟨.tup [.data (TShard.ag r9_4), bv r9_5], []⟩] (.c (c_ix (e := TTxn.en) a9_2 e9_3) (.c (c_el (e := TTxn.en) e9_3) (.c (Asks.fg (args1 := [.data (TShard.ag l6_4), .data (TTxn.ag x9_1)]) (args2 := []) (nl := some false) (sz := 1) (es := List.map e_i64 ([1, 1, 1] : List Int)) (Asks.of (C := Meets Try.prog) (diwanref13_Advance.meets fu l6_4 x9_1 ([1, 1, 1] : List Int) _ _ h9_6))) (.c rT .n)))) ?_
   refine kSq ?_
   refine kRs 1021 [Tm 45 (bv (!r9_5))] [] .n ?_
   rcases br_inv h with ⟨b11_0, h⟩ | ⟨b11_0, h⟩
   ·refine kCt b11_0 ?_
    cases some_inj h
    refine kWo ?_
    refine kXt 0 ?_
    exact kOut
   ·refine kCe b11_0 ?_
    refine kSk ?_
    refine kCd (cR (cR (cB (cL (cR (cB (cB (cR (cL (cR (cR (cR (cR bd13))))))))))))) [.blk 1, .seq (cR (cR (cB (cB (cR (cL (cR (cR (cR (cR bd13)))))))))), .lp (cB (cR (cL (cR (cR (cR (cR bd13)))))))] ?_
    refine kRc 504 [Ob 10 (TShard.ob r9_4)] [] .n (cR (cR (cB (cB (cR (cL (cR (cR (cR (cR bd13)))))))))) [.lp (cB (cR (cL (cR (cR (cR (cR bd13)))))))] ?_
    refine kRc 95 [Tm 12 (iv (w64 (l6_2 + 1)))] [] .n (cB (cR (cL (cR (cR (cR (cR bd13))))))) [] ?_
    exact kWk (ih (w64 (l6_2 + 1)) r9_4 _ h)
  ·refine kCe b8_0 ?_
   cases some_inj h
   refine kWo ?_
   refine kXt 0 ?_
   exact kOut
def diwanlaw20_made (fu : Nat) (picks : List Int) (n_v : Int) (id : Int) (mark : Int) : Option TShard :=
 gd (!decide ((w64 (1 + (w64 (Int.tmod n_v 3)))) = 0)) <|
 bd (diwanref13_NewShard (Int.tmod (w64 id) (w64 (1 + (w64 (Int.tmod n_v 3))))) (w64 (1 + (w64 (Int.tmod n_v 3))))) fun r3_2 =>
 bd (diwanplay_Made picks) fun r4_1 =>
 bd (diwanplay_Picks_Txns fu 15 r4_1) fun (r4_3, r4_4) =>
 bd (diwanlaw20_made.lp6 fu mark r4_3 (TShard.mk 0 0 0 (TStore.mk [] 0) [] [] []) fu 0 r3_2) fun y14_0 =>
 bd (diwanref13_Trim fu y14_0.S (if y14_0.Done < (w64 (Int.tmod mark 20)) then y14_0.Done else (w64 (Int.tmod mark 20)))) fun r15_1 =>
 some (TShard.mk y14_0.ID y14_0.Shards y14_0.Done r15_1 y14_0.Seats y14_0.Bits y14_0.Said)
theorem diwanlaw20_made.meets (fu : Nat) (picks : List Int) (n_v : Int) (id : Int) (mark : Int) (z0 : TShard) (h : diwanlaw20_made fu picks n_v id mark = some z0) : Meets Try.prog ⟨13, [sS 1 e_u8 picks, .data (.val (.int .u8 n_v)), .data (.val (.int .u8 id)), .data (.val (.int .u8 mark))], []⟩ ⟨.data (TShard.ag z0), []⟩ := by
 refine kMt hmix diwanlaw20_made.O Try.f13 bd13 15 ?_
 unfold diwanlaw20_made at h
 refine kRs 15 [Tm 8 (.ptr 8 0), Ob 8 (TShard.ob_00010111 (TShard.mk 0 0 0 (TStore.mk [] 0) [] [] []))] [] .n ?_
 refine kRs 55 [Tm 9 (iv (w64 (1 + (w64 (Int.tmod n_v 3)))))] [] (.c rT .n) ?_
 obtain ⟨c3_1, h⟩ := gd_inv h
 obtain ⟨r3_2, h3_3, h⟩ := bd_inv h
 refine kRs 46 [Tm 10 (.ptr 10 0), Ob 10 (TShard.ob_00010111 r3_2)] [.a ⟨.data (TShard.ag_00010111 r3_2), []⟩] (.c c3_1 (.c (Asks.of (C := Meets Try.prog) (diwanref13_NewShard.meets (Int.tmod (w64 id) (w64 (1 + (w64 (Int.tmod n_v 3))))) (w64 (1 + (w64 (Int.tmod n_v 3)))) _ h3_3)) .n)) ?_
 obtain ⟨r4_1, h4_2, h⟩ := bd_inv h
 obtain ⟨⟨r4_3, r4_4⟩, h4_5, h⟩ := bd_inv h
 refine kRs 47 [Tm 11 (sO 4 TTxn.en r4_3)] [.a ⟨.ptr 1000 0, [[sS 1 e_u8 r4_1.l, iv r4_1.n]]⟩, .a ⟨sO 4 TTxn.en r4_3, [[sS 1 e_u8 r4_4.l, iv r4_4.n]]⟩] (.c (Asks.of (C := Meets Try.prog) (diwanplay_Made.meets picks _ h4_2)) (.c (Asks.of (C := Meets Try.prog) (diwanplay_Picks_Txns.meets fu 15 r4_1 _ _ h4_5)) .n)) ?_
 refine kSq ?_
 refine kRs 63 [Tm 12 (iv 0)] [] .n ?_
 refine kBk 0 ?_
 obtain ⟨o14, ho14, h⟩ := bd_inv h
 refine kSo 10 3 119 [Ob 10 (TShard.ob_00000111 r3_2)] ?_
 refine kSo 10 5 126 [Ob 10 (TShard.ob_00000011 r3_2)] ?_
 refine kSo 10 6 126 [Ob 10 (TShard.ob_00000001 r3_2)] ?_
 refine kSo 10 7 126 [Ob 10 (TShard.ob r3_2)] ?_
 refine kUs (diwanlaw20_made.lp6_ok fu mark r4_3 (TShard.mk 0 0 0 (TStore.mk [] 0) [] [] []) _ 0 r3_2 _ ho14) ?_
 intro e_ τ_ hp_
 obtain ⟨y14_0, rfl⟩ : ∃ y, y = o14 := ⟨_, rfl⟩
 obtain ⟨rfl, rfl⟩ := hp_
 refine kCd (cR (cR (cR (cR (cR bd13))))) [] ?_
 obtain ⟨r15_1, h15_2, h⟩ := bd_inv h
 refine kRs 14 [Ob 10 (TShard.ob (TShard.mk y14_0.ID y14_0.Shards y14_0.Done r15_1 y14_0.Seats y14_0.Bits y14_0.Said))] [.a ⟨.data (.agg [.slc false none 2 (List.map TChain.en r15_1.Chains), .val (.int .i64 r15_1.Mark)]), []⟩] (.c rT (.c (Asks.of (C := Meets Try.prog) (diwanref13_Trim.meets fu y14_0.S (if y14_0.Done < (w64 (Int.tmod mark 20)) then y14_0.Done else (w64 (Int.tmod mark 20))) _ h15_2)) .n)) ?_
 refine kRs 2 [Ob 8 (TShard.ob (TShard.mk y14_0.ID y14_0.Shards y14_0.Done r15_1 y14_0.Seats y14_0.Bits y14_0.Said))] [] .n ?_
 refine kRt ?_
 have h_ := some_inj h
 subst h_
 exact kFr
def bd5 : Code := (Try.f5.body).getD .skip
def diwanlaw20_SaveUnlike.O : Nat → Nat := fun t => bif ([10, 11, 12, 27, 32] : List Nat).any (Nat.beq t) then 1 else 0
def diwanlaw20_SaveUnlike (fu : Nat) (a : List Int) (b : List Int) (n_v : Int) (id : Int) (mark : Int) : Option Bool :=
 bd (diwanlaw20_begun fu) fun r2_1 =>
 br (!r2_1)
  (some false)
  (br (decide ((a.length : Int) > 250))
   (some true)
   (br (decide ((b.length : Int) > 250))
    (some true)
    (bd (diwanlaw20_made fu a n_v id mark) fun r9_1 =>
    bd (diwanlaw20_made fu b n_v id mark) fun r9_3 =>
    bd (save_Put fu r9_1) fun r10_1 =>
    bd (save_Put fu r9_3) fun r10_3 =>
    bd (diwanref13_SameShard fu r9_1 r9_3) fun r10_5 =>
    br (((strB r10_1).toList == (strB r10_3).toList) == r10_5)
     (bd (save_Put fu r9_1) fun r10_8 =>
     some (decide ((r10_8.length : Int) > 0)))
     (some false))))
theorem diwanlaw20_SaveUnlike.meets (fu : Nat) (a : List Int) (b : List Int) (n_v : Int) (id : Int) (mark : Int) (z0 : Bool) (h : diwanlaw20_SaveUnlike fu a b n_v id mark = some z0) : Meets Try.prog ⟨5, [sS 1 e_u8 a, sS 1 e_u8 b, .data (.val (.int .u8 n_v)), .data (.val (.int .u8 id)), .data (.val (.int .u8 mark))], []⟩ ⟨bv z0, []⟩ := by
 refine kMt hmix diwanlaw20_SaveUnlike.O Try.f5 bd5 31 ?_
 unfold diwanlaw20_SaveUnlike at h
 refine kRs 31 [] [] .n ?_
 refine kSq ?_
 obtain ⟨r2_1, h2_2, h⟩ := bd_inv h
 refine kRs 31 [Tm 14 (bv (!r2_1))] [.a ⟨bv r2_1, []⟩] (.c (Asks.of (C := Meets Try.prog) (diwanlaw20_begun.meets fu _ h2_2)) .n) ?_
 rcases br_inv h with ⟨b3_0, h⟩ | ⟨b3_0, h⟩
 ·refine kCt b3_0 ?_
  refine kRs 0 [Tm 10 (bv false)] [] .n ?_
  refine kRt ?_
  have h_ := some_inj h
  subst h_
  exact kFr
 ·refine kCe b3_0 ?_
  refine kSk ?_
  refine kCd (cR (cR bd5)) [] ?_
  refine kSq ?_
  rcases br_inv h with ⟨b5_1, h⟩ | ⟨b5_1, h⟩
  ·refine kRs 62 [Tm 22 (bv true)] (.s (.t 16) [iv (a.length : Int)] :: (rp 4 (.b true) [])) (.c (c_len (e := e_u8) (l := a)) (.r 4 b5_1 .n)) ?_
   refine kCt rT ?_
   refine kRs 0 [Tm 10 (bv true)] [] .n ?_
   refine kRt ?_
   have h_ := some_inj h
   subst h_
   exact kFr
  ·refine kRs 62 [Tm 22 (bv (decide ((b.length : Int) > 250)))] [.s (.t 16) [iv (a.length : Int)], .b false, .b false, .s (.t 20) [iv (b.length : Int)], .b false, .b false] (.c (c_len (e := e_u8) (l := a)) (.r 2 b5_1 (.c (c_len (e := e_u8) (l := b)) (.r 2 b5_1 .n)))) ?_
   rcases br_inv h with ⟨b7_0, h⟩ | ⟨b7_0, h⟩
   ·refine kCt b7_0 ?_
    refine kRs 0 [Tm 10 (bv true)] [] .n ?_
    refine kRt ?_
    have h_ := some_inj h
    subst h_
    exact kFr
   ·refine kCe b7_0 ?_
    refine kSk ?_
    refine kCd (cR (cR (cR bd5))) [] ?_
    obtain ⟨r9_1, h9_2, h⟩ := bd_inv h
    obtain ⟨r9_3, h9_4, h⟩ := bd_inv h
    refine kRs 0 [Tm 11 (.ptr 11 0), Tm 12 (.ptr 12 0), Ob 11 (TShard.ob r9_1), Ob 12 (TShard.ob r9_3)] [.a ⟨.data (TShard.ag r9_1), []⟩, .a ⟨.data (TShard.ag r9_3), []⟩] (.c (Asks.of (C := Meets Try.prog) (diwanlaw20_made.meets fu a n_v id mark _ h9_2)) (.c (Asks.of (C := Meets Try.prog) (diwanlaw20_made.meets fu b n_v id mark _ h9_4)) .n)) ?_
    obtain ⟨r10_1, h10_2, h⟩ := bd_inv h
    obtain ⟨r10_3, h10_4, h⟩ := bd_inv h
    obtain ⟨r10_5, h10_6, h⟩ := bd_inv h
    rcases br_inv h with ⟨b10_7, h⟩ | ⟨b10_7, h⟩
    ·obtain ⟨r10_8, h10_9, h⟩ := bd_inv h
     refine kRs 0 [Tm 10 (bv (decide ((r10_8.length : Int) > 0)))] [.a ⟨.data (.slc true (some r10_1.isEmpty) 1 (List.map e_u8 r10_1)), []⟩, .a ⟨.data (.slc true (some r10_3.isEmpty) 1 (List.map e_u8 r10_3)), []⟩, .a ⟨bv r10_5, []⟩, .b true, .b true, .a ⟨.data (.slc true (some r10_8.isEmpty) 1 (List.map e_u8 r10_8)), []⟩, .b true, .s (.t 47) [iv (r10_8.length : Int)], .b true, .b true] (.c (Asks.of (C := Meets Try.prog) (save_Put.meets fu r9_1 _ h10_2)) (.c (c_ab r10_1) (.c (Asks.of (C := Meets Try.prog) (save_Put.meets fu r9_3 _ h10_4)) (.c (c_ab r10_3) (.c (Asks.of (C := Meets Try.prog) (diwanref13_SameShard.meets fu r9_1 r9_3 _ h10_6)) (.r 2 b10_7 (.c (Asks.of (C := Meets Try.prog) (save_Put.meets fu r9_1 _ h10_9)) (.c b10_7 (.c (c_len (e := e_u8) (l := r10_8)) (.r 2 b10_7 (.c rT .n))))))))))) ?_
     refine kRt ?_
     have h_ := some_inj h
     subst h_
     exact kFr
    ·refine kRs 0 [Tm 10 (bv false)] (.a ⟨.data (.slc true (some r10_1.isEmpty) 1 (List.map e_u8 r10_1)), []⟩ :: (.a ⟨.data (.slc true (some r10_3.isEmpty) 1 (List.map e_u8 r10_3)), []⟩ :: (.a ⟨bv r10_5, []⟩ :: (rp 5 (.b false) [])))) (.c (Asks.of (C := Meets Try.prog) (save_Put.meets fu r9_1 _ h10_2)) (.c (c_ab r10_1) (.c (Asks.of (C := Meets Try.prog) (save_Put.meets fu r9_3 _ h10_4)) (.c (c_ab r10_3) (.c (Asks.of (C := Meets Try.prog) (diwanref13_SameShard.meets fu r9_1 r9_3 _ h10_6)) (.r 5 b10_7 (.c rT .n))))))) ?_
     refine kRt ?_
     have h_ := some_inj h
     subst h_
     exact kFr
def bd41 : Code := (Try.f41.body).getD .skip
def diwanref13_MayChain.O : Nat → Nat := fun t => bif ([2, 3] : List Nat).any (Nat.beq t) then 1 else 0
def diwanref13_MayChain.lp3 (fu : Nat) (l3_0 : List TVersion) : Nat → Int → Option (Unit ⊕ Unit)
  | 0, _ => none
  | n_ + 1, l3_1 =>
  br (decide (l3_1 < (l3_0.length : Int)))
   (ix l3_0 l3_1 fun x6_1 =>
   br (decide (x6_1.Pos < 1))
    (some (.inr ()))
    (br (decide (l3_1 > 0))
     (ix l3_0 l3_1 fun x6_6 =>
     ix l3_0 (w64 (l3_1 - 1)) fun x6_9 =>
     br (decide (x6_6.Pos ≤ x6_9.Pos))
      (some (.inr ()))
      (ix l3_0 l3_1 fun x6_13 =>
      br (decide ((x6_13.Val.size : Int) > 16))
       (some (.inr ()))
       (ix l3_0 l3_1 fun x6_17 =>
       br x6_17.Gone
        (ix l3_0 l3_1 fun x6_21 =>
        br (!(x6_21.Val.toList == ByteArray.empty.toList))
         (some (.inr ()))
         (diwanref13_MayChain.lp3 fu l3_0 n_ (w64 (l3_1 + 1))))
        (diwanref13_MayChain.lp3 fu l3_0 n_ (w64 (l3_1 + 1))))))
     (ix l3_0 l3_1 fun x6_6 =>
     br (decide ((x6_6.Val.size : Int) > 16))
      (some (.inr ()))
      (ix l3_0 l3_1 fun x6_10 =>
      br x6_10.Gone
       (ix l3_0 l3_1 fun x6_14 =>
       br (!(x6_14.Val.toList == ByteArray.empty.toList))
        (some (.inr ()))
        (diwanref13_MayChain.lp3 fu l3_0 n_ (w64 (l3_1 + 1))))
       (diwanref13_MayChain.lp3 fu l3_0 n_ (w64 (l3_1 + 1)))))))
   (some (.inl ()))
def diwanref13_MayChain.lp3_post (l3_0 : List TVersion) (r_ : (Unit ⊕ Unit)) : Wy → St → Prop := fun e τ => match r_ with
  | .inl _ => e = .exit 0 ∧ τ = ofL []
  | .inr _ => e = .ret ∧ τ = ofL [Tm 2 (bv false)]
theorem diwanref13_MayChain.lp3_ok (fu : Nat) (l3_0 : List TVersion) : ∀ (n_ : Nat) (l3_1 : Int) (r_ : (Unit ⊕ Unit)), diwanref13_MayChain.lp3 fu l3_0 n_ l3_1 = some r_ → WK Try.prog diwanref13_MayChain.O (Ck Try.prog) (cB (cR (cL (cR bd41)))) [] (ofL [Tm 0 (sS 3 TVersion.en l3_0), Tm 3 (iv l3_1)]) (diwanref13_MayChain.lp3_post l3_0 r_) := by
 intro n_
 induction n_ with
 | zero => intro l3_1 r_ h; exact no_none h
 | succ n_ ih =>
  intro l3_1 r_ h
  refine kLp ?_
  refine kSq ?_
  refine kRs 3 [Tm 7 (bv (decide (l3_1 < (l3_0.length : Int))))] [.s (.t 6) [iv (l3_0.length : Int)]] (.c (c_len (e := TVersion.en) (l := l3_0)) .n) ?_
  rcases br_inv h with ⟨b5_0, h⟩ | ⟨b5_0, h⟩
  ·refine kCt b5_0 ?_
   refine kSk ?_
   refine kCd (cR (cB (cB (cR (cL (cR bd41)))))) [.lp (cB (cR (cL (cR bd41))))] ?_
   refine kSq ?_
   refine kBk 1 ?_
   obtain ⟨x6_1, a6_2, e6_3, h⟩ := ix_inv h
   rcases br_inv h with ⟨b6_4, h⟩ | ⟨b6_4, h⟩
   ·refine kRs 6 [Tm 57 (bv true)] (.c (TVersion.en x6_1) :: (rp 21 (.b true) [])) (.c (c_ix (e := TVersion.en) a6_2 e6_3) (.c (c_el (e := TVersion.en) e6_3) (.r 5 b6_4 (.r 17 rT .n)))) ?_
    refine kCt rT ?_
    refine kRs 0 [Tm 2 (bv false)] [] .n ?_
    cases some_inj h
    refine kWo ?_
    refine kRt ?_
    exact kOut
   ·rcases br_inv h with ⟨b6_5, h⟩ | ⟨b6_5, h⟩
    ·obtain ⟨x6_6, a6_7, e6_8, h⟩ := ix_inv h
     obtain ⟨x6_9, a6_10, e6_11, h⟩ := ix_inv h
     rcases br_inv h with ⟨b6_12, h⟩ | ⟨b6_12, h⟩
     ·refine kRs 6 [Tm 57 (bv true)] (.c (TVersion.en x6_1) :: (.b false :: (.b false :: (.b false :: (.b true :: (.b true :: (.b true :: (.c (TVersion.en x6_6) :: (rp 6 (.b true) (.c (TVersion.en x6_9) :: (.b true :: (.b true :: (.b true :: (.b false :: (.b true :: (.b false :: (rp 16 (.b true) []))))))))))))))))) (.c (c_ix (e := TVersion.en) a6_2 e6_3) (.c (c_el (e := TVersion.en) e6_3) (.r 3 b6_4 (.r 3 b6_5 (.c (c_ix (e := TVersion.en) a6_7 e6_8) (.c (c_el (e := TVersion.en) e6_8) (.r 6 b6_5 (.c (c_ix (e := TVersion.en) a6_10 e6_11) (.c (c_el (e := TVersion.en) e6_11) (.r 3 b6_5 (.c b6_4 (.c b6_5 (.c b6_4 (.r 8 b6_12 (.r 9 rT .n))))))))))))))) ?_
      refine kCt rT ?_
      refine kRs 0 [Tm 2 (bv false)] [] .n ?_
      cases some_inj h
      refine kWo ?_
      refine kRt ?_
      exact kOut
     ·obtain ⟨x6_13, a6_14, e6_15, h⟩ := ix_inv h
      rcases br_inv h with ⟨b6_16, h⟩ | ⟨b6_16, h⟩
      ·refine kRs 6 [Tm 57 (bv true)] (.c (TVersion.en x6_1) :: (.b false :: (.b false :: (.b false :: (.b true :: (.b true :: (.b true :: (.c (TVersion.en x6_6) :: (rp 6 (.b true) (.c (TVersion.en x6_9) :: (.b true :: (.b true :: (.b true :: (.b false :: (.b true :: (rp 4 (.b false) (.c (TVersion.en x6_13) :: (rp 5 (.b false) (rp 8 (.b true) []))))))))))))))))))) (.c (c_ix (e := TVersion.en) a6_2 e6_3) (.c (c_el (e := TVersion.en) e6_3) (.r 3 b6_4 (.r 3 b6_5 (.c (c_ix (e := TVersion.en) a6_7 e6_8) (.c (c_el (e := TVersion.en) e6_8) (.r 6 b6_5 (.c (c_ix (e := TVersion.en) a6_10 e6_11) (.c (c_el (e := TVersion.en) e6_11) (.r 3 b6_5 (.c b6_4 (.c b6_5 (.c b6_4 (.r 3 b6_12 (.c (c_ix (e := TVersion.en) a6_14 e6_15) (.c (c_el (e := TVersion.en) e6_15) (.r 5 b6_12 (.r 8 b6_16 (.c rT .n))))))))))))))))))) ?_
       refine kCt rT ?_
       refine kRs 0 [Tm 2 (bv false)] [] .n ?_
       cases some_inj h
       refine kWo ?_
       refine kRt ?_
       exact kOut
      ·obtain ⟨x6_17, a6_18, e6_19, h⟩ := ix_inv h
       rcases br_inv h with ⟨b6_20, h⟩ | ⟨b6_20, h⟩
       ·obtain ⟨x6_21, a6_22, e6_23, h⟩ := ix_inv h
        refine kRs 6 [Tm 57 (bv (!(x6_21.Val.toList == ByteArray.empty.toList)))] (.c (TVersion.en x6_1) :: (.b false :: (.b false :: (.b false :: (.b true :: (.b true :: (.b true :: (.c (TVersion.en x6_6) :: (rp 6 (.b true) (.c (TVersion.en x6_9) :: (.b true :: (.b true :: (.b true :: (.b false :: (.b true :: (rp 4 (.b false) (.c (TVersion.en x6_13) :: (rp 8 (.b false) [.c (TVersion.en x6_17), .b false, .b false, .b false, .b true, .b true, .b true, .c (TVersion.en x6_21), .b true, .b true, .b true, .b false, .b true, .b false])))))))))))))))))) (.c (c_ix (e := TVersion.en) a6_2 e6_3) (.c (c_el (e := TVersion.en) e6_3) (.r 3 b6_4 (.r 3 b6_5 (.c (c_ix (e := TVersion.en) a6_7 e6_8) (.c (c_el (e := TVersion.en) e6_8) (.r 6 b6_5 (.c (c_ix (e := TVersion.en) a6_10 e6_11) (.c (c_el (e := TVersion.en) e6_11) (.r 3 b6_5 (.c b6_4 (.c b6_5 (.c b6_4 (.r 3 b6_12 (.c (c_ix (e := TVersion.en) a6_14 e6_15) (.c (c_el (e := TVersion.en) e6_15) (.r 5 b6_12 (.r 3 b6_16 (.c (c_ix (e := TVersion.en) a6_18 e6_19) (.c (c_el (e := TVersion.en) e6_19) (.r 3 b6_16 (.r 3 b6_20 (.c (c_ix (e := TVersion.en) a6_22 e6_23) (.c (c_el (e := TVersion.en) e6_23) (.r 3 b6_20 (.c b6_16 (.c b6_20 (.c b6_16 (.c rT .n))))))))))))))))))))))))))))) ?_
        rcases br_inv h with ⟨b10_0, h⟩ | ⟨b10_0, h⟩
        ·refine kCt b10_0 ?_
         refine kRs 0 [Tm 2 (bv false)] [] .n ?_
         cases some_inj h
         refine kWo ?_
         refine kRt ?_
         exact kOut
        ·refine kCe b10_0 ?_
         refine kSk ?_
         refine kCd (cR (cR (cB (cB (cR (cL (cR bd41))))))) [.lp (cB (cR (cL (cR bd41))))] ?_
         refine kRc 2 [Tm 3 (iv (w64 (l3_1 + 1)))] [] .n (cB (cR (cL (cR bd41)))) [] ?_
         exact kWk (ih (w64 (l3_1 + 1)) _ h)
       ·refine kRs 6 [Tm 57 (bv false)] (.c (TVersion.en x6_1) :: (.b false :: (.b false :: (.b false :: (.b true :: (.b true :: (.b true :: (.c (TVersion.en x6_6) :: (rp 6 (.b true) (.c (TVersion.en x6_9) :: (.b true :: (.b true :: (.b true :: (.b false :: (.b true :: (rp 4 (.b false) (.c (TVersion.en x6_13) :: (rp 8 (.b false) (.c (TVersion.en x6_17) :: (rp 12 (.b false) [])))))))))))))))))))) (.c (c_ix (e := TVersion.en) a6_2 e6_3) (.c (c_el (e := TVersion.en) e6_3) (.r 3 b6_4 (.r 3 b6_5 (.c (c_ix (e := TVersion.en) a6_7 e6_8) (.c (c_el (e := TVersion.en) e6_8) (.r 6 b6_5 (.c (c_ix (e := TVersion.en) a6_10 e6_11) (.c (c_el (e := TVersion.en) e6_11) (.r 3 b6_5 (.c b6_4 (.c b6_5 (.c b6_4 (.r 3 b6_12 (.c (c_ix (e := TVersion.en) a6_14 e6_15) (.c (c_el (e := TVersion.en) e6_15) (.r 5 b6_12 (.r 3 b6_16 (.c (c_ix (e := TVersion.en) a6_18 e6_19) (.c (c_el (e := TVersion.en) e6_19) (.r 3 b6_16 (.r 6 b6_20 (.c b6_16 (.c b6_20 (.c b6_16 (.c rT .n)))))))))))))))))))))))))) ?_
        refine kCe rF ?_
        refine kSk ?_
        refine kCd (cR (cR (cB (cB (cR (cL (cR bd41))))))) [.lp (cB (cR (cL (cR bd41))))] ?_
        refine kRc 2 [Tm 3 (iv (w64 (l3_1 + 1)))] [] .n (cB (cR (cL (cR bd41)))) [] ?_
        exact kWk (ih (w64 (l3_1 + 1)) _ h)
    ·obtain ⟨x6_6, a6_7, e6_8, h⟩ := ix_inv h
     rcases br_inv h with ⟨b6_9, h⟩ | ⟨b6_9, h⟩
     ·refine kRs 6 [Tm 57 (bv true)] (.c (TVersion.en x6_1) :: (rp 21 (.b false) (.c (TVersion.en x6_6) :: (rp 5 (.b false) (rp 8 (.b true) []))))) (.c (c_ix (e := TVersion.en) a6_2 e6_3) (.c (c_el (e := TVersion.en) e6_3) (.r 3 b6_4 (.r 12 b6_5 (.c b6_4 (.c b6_5 (.c b6_4 (.r 3 rF (.c (c_ix (e := TVersion.en) a6_7 e6_8) (.c (c_el (e := TVersion.en) e6_8) (.r 5 rF (.r 8 b6_9 (.c rT .n))))))))))))) ?_
      refine kCt rT ?_
      refine kRs 0 [Tm 2 (bv false)] [] .n ?_
      cases some_inj h
      refine kWo ?_
      refine kRt ?_
      exact kOut
     ·obtain ⟨x6_10, a6_11, e6_12, h⟩ := ix_inv h
      rcases br_inv h with ⟨b6_13, h⟩ | ⟨b6_13, h⟩
      ·obtain ⟨x6_14, a6_15, e6_16, h⟩ := ix_inv h
       refine kRs 6 [Tm 57 (bv (!(x6_14.Val.toList == ByteArray.empty.toList)))] (.c (TVersion.en x6_1) :: (rp 21 (.b false) (.c (TVersion.en x6_6) :: (rp 8 (.b false) [.c (TVersion.en x6_10), .b false, .b false, .b false, .b true, .b true, .b true, .c (TVersion.en x6_14), .b true, .b true, .b true, .b false, .b true, .b false])))) (.c (c_ix (e := TVersion.en) a6_2 e6_3) (.c (c_el (e := TVersion.en) e6_3) (.r 3 b6_4 (.r 12 b6_5 (.c b6_4 (.c b6_5 (.c b6_4 (.r 3 rF (.c (c_ix (e := TVersion.en) a6_7 e6_8) (.c (c_el (e := TVersion.en) e6_8) (.r 5 rF (.r 3 b6_9 (.c (c_ix (e := TVersion.en) a6_11 e6_12) (.c (c_el (e := TVersion.en) e6_12) (.r 3 b6_9 (.r 3 b6_13 (.c (c_ix (e := TVersion.en) a6_15 e6_16) (.c (c_el (e := TVersion.en) e6_16) (.r 3 b6_13 (.c b6_9 (.c b6_13 (.c b6_9 (.c rT .n))))))))))))))))))))))) ?_
       rcases br_inv h with ⟨b15_0, h⟩ | ⟨b15_0, h⟩
       ·refine kCt b15_0 ?_
        refine kRs 0 [Tm 2 (bv false)] [] .n ?_
        cases some_inj h
        refine kWo ?_
        refine kRt ?_
        exact kOut
       ·refine kCe b15_0 ?_
        refine kSk ?_
        refine kCd (cR (cR (cB (cB (cR (cL (cR bd41))))))) [.lp (cB (cR (cL (cR bd41))))] ?_
        refine kRc 2 [Tm 3 (iv (w64 (l3_1 + 1)))] [] .n (cB (cR (cL (cR bd41)))) [] ?_
        exact kWk (ih (w64 (l3_1 + 1)) _ h)
      ·refine kRs 6 [Tm 57 (bv false)] (.c (TVersion.en x6_1) :: (rp 21 (.b false) (.c (TVersion.en x6_6) :: (rp 8 (.b false) (.c (TVersion.en x6_10) :: (rp 12 (.b false) [])))))) (.c (c_ix (e := TVersion.en) a6_2 e6_3) (.c (c_el (e := TVersion.en) e6_3) (.r 3 b6_4 (.r 12 b6_5 (.c b6_4 (.c b6_5 (.c b6_4 (.r 3 rF (.c (c_ix (e := TVersion.en) a6_7 e6_8) (.c (c_el (e := TVersion.en) e6_8) (.r 5 rF (.r 3 b6_9 (.c (c_ix (e := TVersion.en) a6_11 e6_12) (.c (c_el (e := TVersion.en) e6_12) (.r 3 b6_9 (.r 6 b6_13 (.c b6_9 (.c b6_13 (.c b6_9 (.c rT .n)))))))))))))))))))) ?_
       refine kCe rF ?_
       refine kSk ?_
       refine kCd (cR (cR (cB (cB (cR (cL (cR bd41))))))) [.lp (cB (cR (cL (cR bd41))))] ?_
       refine kRc 2 [Tm 3 (iv (w64 (l3_1 + 1)))] [] .n (cB (cR (cL (cR bd41)))) [] ?_
       exact kWk (ih (w64 (l3_1 + 1)) _ h)
  ·refine kCe b5_0 ?_
   cases some_inj h
   refine kWo ?_
   refine kXt 0 ?_
   exact kOut
def diwanref13_MayChain (fu : Nat) (l : List TVersion) : Option Bool :=
 bd (diwanref13_MayChain.lp3 fu l fu 0) fun o_ => (match o_ with
 | .inl _ =>
  some true
 | .inr _ =>
  some false)
theorem diwanref13_MayChain.meets (fu : Nat) (l : List TVersion) (z0 : Bool) (h : diwanref13_MayChain fu l = some z0) : Meets Try.prog ⟨41, [sS 3 TVersion.en l], []⟩ ⟨bv z0, []⟩ := by
 refine kMt hmix diwanref13_MayChain.O Try.f41 bd41 1 ?_
 unfold diwanref13_MayChain at h
 refine kRs 1 [] [] .n ?_
 refine kSq ?_
 refine kRs 1 [Tm 3 (iv 0)] [] .n ?_
 refine kBk 0 ?_
 obtain ⟨o19, ho19, h⟩ := bd_inv h
 refine kUs (diwanref13_MayChain.lp3_ok fu l _ 0 _ ho19) ?_
 intro e_ τ_ hp_
 rcases o19 with o19 | o19
 ·obtain ⟨⟩ := o19
  obtain ⟨rfl, rfl⟩ := hp_
  refine kCd (cR (cR bd41)) [] ?_
  refine kRs 0 [Tm 2 (bv true)] [] .n ?_
  refine kRt ?_
  have h_ := some_inj h
  subst h_
  exact kFr
 ·obtain ⟨⟩ := o19
  obtain ⟨rfl, rfl⟩ := hp_
  have h_ := some_inj h
  subst h_
  exact kFr
def bd65 : Code := (Try.f65.body).getD .skip
def diwanref1_MayKey.O : Nat → Nat := fun t => bif ([2, 3] : List Nat).any (Nat.beq t) then 1 else 0
def diwanref1_MayKey.lp3 (fu : Nat) (l3_0 : ByteArray) : Nat → Int → Option (Unit ⊕ Unit)
  | 0, _ => none
  | n_ + 1, l3_1 =>
  br (decide (l3_1 < (l3_0.size : Int)))
   (gd (decide ((0 : Int) ≤ l3_1 ∧ l3_1 < (l3_0.size : Int))) <|
   br (decide ((byteAt l3_0 l3_1) < 33))
    (some (.inr ()))
    (gd (decide ((0 : Int) ≤ l3_1 ∧ l3_1 < (l3_0.size : Int))) <|
    br (decide ((byteAt l3_0 l3_1) > 126))
     (some (.inr ()))
     (diwanref1_MayKey.lp3 fu l3_0 n_ (w64 (l3_1 + 1)))))
   (some (.inl ()))
def diwanref1_MayKey.lp3_post (l3_0 : ByteArray) (r_ : (Unit ⊕ Unit)) : Wy → St → Prop := fun e τ => match r_ with
  | .inl _ => e = .exit 0 ∧ τ = ofL [Tm 0 (sv l3_0)]
  | .inr _ => e = .ret ∧ τ = ofL [Tm 2 (bv false)]
theorem diwanref1_MayKey.lp3_ok (fu : Nat) (l3_0 : ByteArray) : ∀ (n_ : Nat) (l3_1 : Int) (r_ : (Unit ⊕ Unit)), diwanref1_MayKey.lp3 fu l3_0 n_ l3_1 = some r_ → WK Try.prog diwanref1_MayKey.O (Ck Try.prog) (cB (cR (cL (cR bd65)))) [] (ofL [Tm 0 (sv l3_0), Tm 3 (iv l3_1)]) (diwanref1_MayKey.lp3_post l3_0 r_) := by
 intro n_
 induction n_ with
 | zero => intro l3_1 r_ h; exact no_none h
 | succ n_ ih =>
  intro l3_1 r_ h
  refine kLp ?_
  refine kSq ?_
  refine kRs 3 [Tm 7 (bv (decide (l3_1 < (l3_0.size : Int))))] [] .n ?_
  rcases br_inv h with ⟨b5_0, h⟩ | ⟨b5_0, h⟩
  ·refine kCt b5_0 ?_
   refine kSk ?_
   refine kCd (cR (cB (cB (cR (cL (cR bd65)))))) [.lp (cB (cR (cL (cR bd65))))] ?_
   refine kSq ?_
   refine kBk 1 ?_
   obtain ⟨c6_1, h⟩ := gd_inv h
   rcases br_inv h with ⟨b6_2, h⟩ | ⟨b6_2, h⟩
   ·refine kRs 6 [Tm 19 (bv true)] (rp 5 (.b true) []) (.c c6_1 (.r 5 b6_2 .n)) ?_
    refine kCt rT ?_
    refine kRs 0 [Tm 2 (bv false)] [] .n ?_
    cases some_inj h
    refine kWo ?_
    refine kRt ?_
    exact kOut
   ·obtain ⟨c6_3, h⟩ := gd_inv h
    refine kRs 6 [Tm 19 (bv (decide ((byteAt l3_0 l3_1) > 126)))] (rp 5 (.b false) []) (.c c6_1 (.r 3 b6_2 (.c c6_3 (.r 2 b6_2 .n)))) ?_
    rcases br_inv h with ⟨b8_0, h⟩ | ⟨b8_0, h⟩
    ·refine kCt b8_0 ?_
     refine kRs 0 [Tm 2 (bv false)] [] .n ?_
     cases some_inj h
     refine kWo ?_
     refine kRt ?_
     exact kOut
    ·refine kCe b8_0 ?_
     refine kSk ?_
     refine kCd (cR (cR (cB (cB (cR (cL (cR bd65))))))) [.lp (cB (cR (cL (cR bd65))))] ?_
     refine kRc 2 [Tm 3 (iv (w64 (l3_1 + 1)))] [] .n (cB (cR (cL (cR bd65)))) [] ?_
     exact kWk (ih (w64 (l3_1 + 1)) _ h)
  ·refine kCe b5_0 ?_
   cases some_inj h
   refine kWo ?_
   refine kXt 0 ?_
   exact kOut
def diwanref1_MayKey (fu : Nat) (k_v : ByteArray) : Option Bool :=
 bd (diwanref1_MayKey.lp3 fu k_v fu 0) fun o_ => (match o_ with
 | .inl _ =>
  br (decide ((k_v.size : Int) ≥ 1))
   (some (decide ((k_v.size : Int) ≤ 8)))
   (some false)
 | .inr _ =>
  some false)
theorem diwanref1_MayKey.meets (fu : Nat) (k_v : ByteArray) (z0 : Bool) (h : diwanref1_MayKey fu k_v = some z0) : Meets Try.prog ⟨65, [sv k_v], []⟩ ⟨bv z0, []⟩ := by
 refine kMt hmix diwanref1_MayKey.O Try.f65 bd65 1 ?_
 unfold diwanref1_MayKey at h
 refine kRs 1 [] [] .n ?_
 refine kSq ?_
 refine kRs 1 [Tm 3 (iv 0)] [] .n ?_
 refine kBk 0 ?_
 obtain ⟨o11, ho11, h⟩ := bd_inv h
 refine kUs (diwanref1_MayKey.lp3_ok fu k_v _ 0 _ ho11) ?_
 intro e_ τ_ hp_
 rcases o11 with o11 | o11
 ·obtain ⟨⟩ := o11
  obtain ⟨rfl, rfl⟩ := hp_
  refine kCd (cR (cR bd65)) [] ?_
  rcases br_inv h with ⟨b12_1, h⟩ | ⟨b12_1, h⟩
  ·refine kRs 0 [Tm 2 (bv (decide ((k_v.size : Int) ≤ 8)))] (rp 4 (.b true) []) (.r 4 b12_1 .n) ?_
   refine kRt ?_
   have h_ := some_inj h
   subst h_
   exact kFr
  ·refine kRs 0 [Tm 2 (bv false)] (rp 4 (.b false) []) (.r 4 b12_1 .n) ?_
   refine kRt ?_
   have h_ := some_inj h
   subst h_
   exact kFr
 ·obtain ⟨⟩ := o11
  obtain ⟨rfl, rfl⟩ := hp_
  have h_ := some_inj h
  subst h_
  exact kFr
def bd42 : Code := (Try.f42.body).getD .skip
def diwanref1_Rising.O : Nat → Nat := fun t => bif ([2, 3] : List Nat).any (Nat.beq t) then 1 else 0
def diwanref1_Rising.lp3 (fu : Nat) (l3_0 : List ByteArray) : Nat → Int → Option (Unit ⊕ Unit)
  | 0, _ => none
  | n_ + 1, l3_1 =>
  br (decide (l3_1 < (l3_0.length : Int)))
   (ix l3_0 l3_1 fun x6_1 =>
   bd (diwanref1_MayKey fu x6_1) fun r6_4 =>
   br (!r6_4)
    (some (.inr ()))
    (br (decide (l3_1 > 0))
     (ix l3_0 l3_1 fun x6_8 =>
     ix l3_0 (w64 (l3_1 - 1)) fun x6_11 =>
     br ((Op.bytesLess x6_8.toList x6_11.toList) || (x6_8.toList == x6_11.toList))
      (some (.inr ()))
      (diwanref1_Rising.lp3 fu l3_0 n_ (w64 (l3_1 + 1))))
     (diwanref1_Rising.lp3 fu l3_0 n_ (w64 (l3_1 + 1)))))
   (some (.inl ()))
def diwanref1_Rising.lp3_post (l3_0 : List ByteArray) (r_ : (Unit ⊕ Unit)) : Wy → St → Prop := fun e τ => match r_ with
  | .inl _ => e = .exit 0 ∧ τ = ofL []
  | .inr _ => e = .ret ∧ τ = ofL [Tm 2 (bv false)]
theorem diwanref1_Rising.lp3_ok (fu : Nat) (l3_0 : List ByteArray) : ∀ (n_ : Nat) (l3_1 : Int) (r_ : (Unit ⊕ Unit)), diwanref1_Rising.lp3 fu l3_0 n_ l3_1 = some r_ → WK Try.prog diwanref1_Rising.O (Ck Try.prog) (cB (cR (cL (cR bd42)))) [] (ofL [Tm 0 (sS 1 e_s l3_0), Tm 3 (iv l3_1)]) (diwanref1_Rising.lp3_post l3_0 r_) := by
 intro n_
 induction n_ with
 | zero => intro l3_1 r_ h; exact no_none h
 | succ n_ ih =>
  intro l3_1 r_ h
  refine kLp ?_
  refine kSq ?_
  refine kRs 3 [Tm 7 (bv (decide (l3_1 < (l3_0.length : Int))))] [.s (.t 6) [iv (l3_0.length : Int)]] (.c (c_len (e := e_s) (l := l3_0)) .n) ?_
  rcases br_inv h with ⟨b5_0, h⟩ | ⟨b5_0, h⟩
  ·refine kCt b5_0 ?_
   refine kSk ?_
   refine kCd (cR (cB (cB (cR (cL (cR bd42)))))) [.lp (cB (cR (cL (cR bd42))))] ?_
   refine kSq ?_
   refine kBk 1 ?_
   obtain ⟨x6_1, a6_2, e6_3, h⟩ := ix_inv h
   obtain ⟨r6_4, h6_5, h⟩ := bd_inv h
   rcases br_inv h with ⟨b6_6, h⟩ | ⟨b6_6, h⟩
   ·refine kRs 6 [Tm 31 (bv true)] (.c (e_s x6_1) :: (.a ⟨bv r6_4, []⟩ :: (rp 5 (.b true) []))) (.c (c_ix (e := e_s) a6_2 e6_3) (.c (c_el (e := e_s) e6_3) (.c (Asks.of (C := Meets Try.prog) (diwanref1_MayKey.meets fu x6_1 _ h6_5)) (.r 5 b6_6 (.c rT .n))))) ?_
    refine kCt rT ?_
    refine kRs 0 [Tm 2 (bv false)] [] .n ?_
    cases some_inj h
    refine kWo ?_
    refine kRt ?_
    exact kOut
   ·rcases br_inv h with ⟨b6_7, h⟩ | ⟨b6_7, h⟩
    ·obtain ⟨x6_8, a6_9, e6_10, h⟩ := ix_inv h
     obtain ⟨x6_11, a6_12, e6_13, h⟩ := ix_inv h
     refine kRs 6 [Tm 31 (bv ((Op.bytesLess x6_8.toList x6_11.toList) || (x6_8.toList == x6_11.toList)))] (.c (e_s x6_1) :: (.a ⟨bv r6_4, []⟩ :: (.b false :: (.b false :: (.b false :: (.b true :: (.b true :: (.b true :: (.c (e_s x6_8) :: (rp 5 (.b true) [.c (e_s x6_11), .b true, .b true, .b false, .b true, .b false])))))))))) (.c (c_ix (e := e_s) a6_2 e6_3) (.c (c_el (e := e_s) e6_3) (.c (Asks.of (C := Meets Try.prog) (diwanref1_MayKey.meets fu x6_1 _ h6_5)) (.r 3 b6_6 (.r 3 b6_7 (.c (c_ix (e := e_s) a6_9 e6_10) (.c (c_el (e := e_s) e6_10) (.r 5 b6_7 (.c (c_ix (e := e_s) a6_12 e6_13) (.c (c_el (e := e_s) e6_13) (.r 2 b6_7 (.c b6_6 (.c b6_7 (.c b6_6 (.c rT .n))))))))))))))) ?_
     rcases br_inv h with ⟨b8_0, h⟩ | ⟨b8_0, h⟩
     ·refine kCt b8_0 ?_
      refine kRs 0 [Tm 2 (bv false)] [] .n ?_
      cases some_inj h
      refine kWo ?_
      refine kRt ?_
      exact kOut
     ·refine kCe b8_0 ?_
      refine kSk ?_
      refine kCd (cR (cR (cB (cB (cR (cL (cR bd42))))))) [.lp (cB (cR (cL (cR bd42))))] ?_
      refine kRc 2 [Tm 3 (iv (w64 (l3_1 + 1)))] [] .n (cB (cR (cL (cR bd42)))) [] ?_
      exact kWk (ih (w64 (l3_1 + 1)) _ h)
    ·refine kRs 6 [Tm 31 (bv false)] (.c (e_s x6_1) :: (.a ⟨bv r6_4, []⟩ :: (rp 16 (.b false) []))) (.c (c_ix (e := e_s) a6_2 e6_3) (.c (c_el (e := e_s) e6_3) (.c (Asks.of (C := Meets Try.prog) (diwanref1_MayKey.meets fu x6_1 _ h6_5)) (.r 3 b6_6 (.r 10 b6_7 (.c b6_6 (.c b6_7 (.c b6_6 (.c rT .n))))))))) ?_
     refine kCe rF ?_
     refine kSk ?_
     refine kCd (cR (cR (cB (cB (cR (cL (cR bd42))))))) [.lp (cB (cR (cL (cR bd42))))] ?_
     refine kRc 2 [Tm 3 (iv (w64 (l3_1 + 1)))] [] .n (cB (cR (cL (cR bd42)))) [] ?_
     exact kWk (ih (w64 (l3_1 + 1)) _ h)
  ·refine kCe b5_0 ?_
   cases some_inj h
   refine kWo ?_
   refine kXt 0 ?_
   exact kOut
def diwanref1_Rising (fu : Nat) (l : List ByteArray) : Option Bool :=
 bd (diwanref1_Rising.lp3 fu l fu 0) fun o_ => (match o_ with
 | .inl _ =>
  some true
 | .inr _ =>
  some false)
theorem diwanref1_Rising.meets (fu : Nat) (l : List ByteArray) (z0 : Bool) (h : diwanref1_Rising fu l = some z0) : Meets Try.prog ⟨42, [sS 1 e_s l], []⟩ ⟨bv z0, []⟩ := by
 refine kMt hmix diwanref1_Rising.O Try.f42 bd42 1 ?_
 unfold diwanref1_Rising at h
 refine kRs 1 [] [] .n ?_
 refine kSq ?_
 refine kRs 1 [Tm 3 (iv 0)] [] .n ?_
 refine kBk 0 ?_
 obtain ⟨o12, ho12, h⟩ := bd_inv h
 refine kUs (diwanref1_Rising.lp3_ok fu l _ 0 _ ho12) ?_
 intro e_ τ_ hp_
 rcases o12 with o12 | o12
 ·obtain ⟨⟩ := o12
  obtain ⟨rfl, rfl⟩ := hp_
  refine kCd (cR (cR bd42)) [] ?_
  refine kRs 0 [Tm 2 (bv true)] [] .n ?_
  refine kRt ?_
  have h_ := some_inj h
  subst h_
  exact kFr
 ·obtain ⟨⟩ := o12
  obtain ⟨rfl, rfl⟩ := hp_
  have h_ := some_inj h
  subst h_
  exact kFr
def bd26 : Code := (Try.f26.body).getD .skip
def diwanref13_MayStore.O : Nat → Nat := fun t => bif ([1, 2, 3, 4, 19] : List Nat).any (Nat.beq t) then 1 else 0
def diwanref13_MayStore.lp4 (fu : Nat) (l4_2 : TStore) : Nat → (List ByteArray) → Int → Option ((List ByteArray) ⊕ Unit)
  | 0, _, _ => none
  | n_ + 1, l4_0, l4_1 =>
  br (decide (l4_1 < (l4_2.Chains.length : Int)))
   (ix l4_2.Chains l4_1 fun x7_1 =>
   gd (decide (l4_0.length + ([x7_1.Key] : List ByteArray).length ≤ 4294967296)) <|
   ix l4_2.Chains l4_1 fun x8_1 =>
   br ((x8_1.L.length : Int) == 0)
    (some (.inr ()))
    (ix l4_2.Chains l4_1 fun x8_5 =>
    bd (diwanref13_MayChain fu x8_5.L) fun r8_8 =>
    br (!r8_8)
     (some (.inr ()))
     (diwanref13_MayStore.lp4 fu l4_2 n_ (l4_0 ++ ([x7_1.Key] : List ByteArray)) (w64 (l4_1 + 1)))))
   (some (.inl l4_0))
def diwanref13_MayStore.lp4_post (l4_2 : TStore) (r_ : ((List ByteArray) ⊕ Unit)) : Wy → St → Prop := fun e τ => match r_ with
  | .inl y0 => e = .exit 0 ∧ τ = ofL [Tm 1 (.ptr 1 0), Tm 3 (sO 1 e_s y0), Ob 1 [sS 2 TChain.en l4_2.Chains, iv l4_2.Mark]]
  | .inr _ => e = .ret ∧ τ = ofL [Tm 2 (bv false)]
theorem diwanref13_MayStore.lp4_ok (fu : Nat) (l4_2 : TStore) : ∀ (n_ : Nat) (l4_0 : List ByteArray) (l4_1 : Int) (r_ : ((List ByteArray) ⊕ Unit)), diwanref13_MayStore.lp4 fu l4_2 n_ l4_0 l4_1 = some r_ → WK Try.prog diwanref13_MayStore.O (Ck Try.prog) (cB (cR (cL (cR (cR bd26))))) [] (ofL [Tm 1 (.ptr 1 0), Tm 3 (sO 1 e_s l4_0), Tm 4 (iv l4_1), Ob 1 [sS 2 TChain.en l4_2.Chains, iv l4_2.Mark]]) (diwanref13_MayStore.lp4_post l4_2 r_) := by
 intro n_
 induction n_ with
 | zero => intro l4_0 l4_1 r_ h; exact no_none h
 | succ n_ ih =>
  intro l4_0 l4_1 r_ h
  refine kLp ?_
  refine kSq ?_
  refine kRs 15 [Tm 9 (bv (decide (l4_1 < (l4_2.Chains.length : Int))))] [.s (.t 8) [iv (l4_2.Chains.length : Int)]] (.c (c_len (e := TChain.en) (l := l4_2.Chains)) .n) ?_
  rcases br_inv h with ⟨b6_0, h⟩ | ⟨b6_0, h⟩
  ·refine kCt b6_0 ?_
   refine kSk ?_
   refine kCd (cR (cB (cB (cR (cL (cR (cR bd26))))))) [.lp (cB (cR (cL (cR (cR bd26)))))] ?_
   refine kSq ?_
   refine kBk 1 ?_
   obtain ⟨x7_1, a7_2, e7_3, h⟩ := ix_inv h
   obtain ⟨c7_4, h⟩ := gd_inv h
   refine kRs 26 [Tm 3 (sO 1 e_s (l4_0 ++ ([x7_1.Key] : List ByteArray)))] [.c (TChain.en x7_1), .s (.t 20) [sO 1 e_s (l4_0 ++ ([x7_1.Key] : List ByteArray))]] (.c (c_ix (e := TChain.en) a7_2 e7_3) (.c (c_el (e := TChain.en) e7_3) (.c (c_al (e := e_s) (f := e_s) c7_4) (.c (congrArg (fun d : DV => [AV.data d]) (c_app (e := e_s) (s := 1) (l := l4_0) (m := ([x7_1.Key] : List ByteArray)))) .n)))) ?_
   obtain ⟨x8_1, a8_2, e8_3, h⟩ := ix_inv h
   rcases br_inv h with ⟨b8_4, h⟩ | ⟨b8_4, h⟩
   ·refine kRs 15 [Tm 38 (bv true)] (.c (TChain.en x8_1) :: (.s (.t 27) [iv (x8_1.L.length : Int)] :: (rp 9 (.b true) []))) (.c (c_ix (e := TChain.en) a8_2 e8_3) (.c (c_el (e := TChain.en) e8_3) (.c (c_len (e := TVersion.en) (l := x8_1.L)) (.r 9 b8_4 .n)))) ?_
    refine kCt rT ?_
    refine kRs 0 [Tm 2 (bv false)] [] .n ?_
    cases some_inj h
    refine kWo ?_
    refine kRt ?_
    exact kOut
   ·obtain ⟨x8_5, a8_6, e8_7, h⟩ := ix_inv h
    obtain ⟨r8_8, h8_9, h⟩ := bd_inv h
    refine kRs 15 [Tm 38 (bv (!r8_8))] (.c (TChain.en x8_1) :: (.s (.t 27) [iv (x8_1.L.length : Int)] :: (rp 4 (.b false) [.c (TChain.en x8_5), .b false, .b false, .b false, .a ⟨bv r8_8, []⟩, .b false, .b false]))) (.c (c_ix (e := TChain.en) a8_2 e8_3) (.c (c_el (e := TChain.en) e8_3) (.c (c_len (e := TVersion.en) (l := x8_1.L)) (.r 4 b8_4 (.c (c_ix (e := TChain.en) a8_6 e8_7) (.c (c_el (e := TChain.en) e8_7) (.r 3 b8_4 (.c (Asks.of (C := Meets Try.prog) (diwanref13_MayChain.meets fu x8_5.L _ h8_9)) (.r 2 b8_4 .n))))))))) ?_
    rcases br_inv h with ⟨b10_0, h⟩ | ⟨b10_0, h⟩
    ·refine kCt b10_0 ?_
     refine kRs 0 [Tm 2 (bv false)] [] .n ?_
     cases some_inj h
     refine kWo ?_
     refine kRt ?_
     exact kOut
    ·refine kCe b10_0 ?_
     refine kSk ?_
     refine kCd (cR (cR (cB (cB (cR (cL (cR (cR bd26)))))))) [.lp (cB (cR (cL (cR (cR bd26)))))] ?_
     refine kRc 22 [Tm 4 (iv (w64 (l4_1 + 1)))] [] .n (cB (cR (cL (cR (cR bd26))))) [] ?_
     exact kWk (ih (l4_0 ++ ([x7_1.Key] : List ByteArray)) (w64 (l4_1 + 1)) _ h)
  ·refine kCe b6_0 ?_
   cases some_inj h
   refine kWo ?_
   refine kXt 0 ?_
   exact kOut
def diwanref13_MayStore (fu : Nat) (s : TStore) : Option Bool :=
 bd (diwanref13_MayStore.lp4 fu s fu [] 0) fun o_ => (match o_ with
 | .inl y13_0 =>
  br (decide (s.Mark ≥ 0))
   (bd (diwanref1_Rising fu y13_0) fun r14_2 =>
   some r14_2)
   (some false)
 | .inr _ =>
  some false)
theorem diwanref13_MayStore.meets (fu : Nat) (s : TStore) (z0 : Bool) (h : diwanref13_MayStore fu s = some z0) : Meets Try.prog ⟨26, [.data (.agg [.slc false none 2 (List.map TChain.en s.Chains), .val (.int .i64 s.Mark)])], []⟩ ⟨bv z0, []⟩ := by
 refine kMt hmix diwanref13_MayStore.O Try.f26 bd26 1 ?_
 unfold diwanref13_MayStore at h
 refine kRs 0 [Tm 1 (.ptr 1 0), Ob 1 [sS 2 TChain.en s.Chains, iv s.Mark]] [] .n ?_
 refine kRs 3 [Tm 3 (.data (.slc true (some true) 1 (List.map e_s [])))] [] .n ?_
 refine kSq ?_
 refine kRs 7 [Tm 4 (iv 0)] [] .n ?_
 refine kBk 0 ?_
 obtain ⟨o13, ho13, h⟩ := bd_inv h
 refine kUs (diwanref13_MayStore.lp4_ok fu s _ [] 0 _ ho13) ?_
 intro e_ τ_ hp_
 rcases o13 with o13 | o13
 ·obtain ⟨y13_0, rfl⟩ : ∃ y, y = o13 := ⟨_, rfl⟩
  obtain ⟨rfl, rfl⟩ := hp_
  refine kCd (cR (cR (cR bd26))) [] ?_
  rcases br_inv h with ⟨b14_1, h⟩ | ⟨b14_1, h⟩
  ·obtain ⟨r14_2, h14_3, h⟩ := bd_inv h
   refine kRs 0 [Tm 2 (bv r14_2)] [.b true, .b true, .a ⟨bv r14_2, []⟩, .b true] (.r 2 b14_1 (.c (Asks.of (C := Meets Try.prog) (diwanref1_Rising.meets fu y13_0 _ h14_3)) (.c b14_1 .n))) ?_
   refine kRt ?_
   have h_ := some_inj h
   subst h_
   exact kFr
  ·refine kRs 0 [Tm 2 (bv false)] [.b false, .b false, .b false] (.r 3 b14_1 .n) ?_
   refine kRt ?_
   have h_ := some_inj h
   subst h_
   exact kFr
 ·obtain ⟨⟩ := o13
  obtain ⟨rfl, rfl⟩ := hp_
  have h_ := some_inj h
  subst h_
  exact kFr
def bd11 : Code := (Try.f11.body).getD .skip
def diwanref13_MayShard.O : Nat → Nat := fun t => bif ([1, 2, 3, 4, 5, 6, 7] : List Nat).any (Nat.beq t) then 1 else 0
def diwanref13_MayShard.lp13 (fu : Nat) (l13_1 : TShard) : Nat → Int → Option (Unit ⊕ Unit)
  | 0, _ => none
  | n_ + 1, l13_0 =>
  br (decide (l13_0 < l13_1.Done))
   (ix l13_1.Bits l13_0 fun x16_1 =>
   br (decide (x16_1 < 0))
    (some (.inr ()))
    (ix l13_1.Bits l13_0 fun x16_5 =>
    br (decide (x16_5 > 2))
     (some (.inr ()))
     (ix l13_1.Said l13_0 fun x16_9 =>
     br (decide (x16_9 < 1))
      (some (.inr ()))
      (ix l13_1.Said l13_0 fun x16_13 =>
      br (decide (x16_13 > 4))
       (some (.inr ()))
       (diwanref13_MayShard.lp13 fu l13_1 n_ (w64 (l13_0 + 1)))))))
   (some (.inl ()))
def diwanref13_MayShard.lp13_post (l13_1 : TShard) (r_ : (Unit ⊕ Unit)) : Wy → St → Prop := fun e τ => match r_ with
  | .inl _ => e = .exit 0 ∧ τ = ofL [Tm 1 (.ptr 1 0), Ob 1 (TShard.ob l13_1)]
  | .inr _ => e = .ret ∧ τ = ofL [Tm 2 (bv false)]
theorem diwanref13_MayShard.lp13_ok (fu : Nat) (l13_1 : TShard) : ∀ (n_ : Nat) (l13_0 : Int) (r_ : (Unit ⊕ Unit)), diwanref13_MayShard.lp13 fu l13_1 n_ l13_0 = some r_ → WK Try.prog diwanref13_MayShard.O (Ck Try.prog) (cB (cR (cL (cR (cR bd11))))) [] (ofL [Tm 1 (.ptr 1 0), Tm 3 (iv l13_0), Ob 1 (TShard.ob l13_1)]) (diwanref13_MayShard.lp13_post l13_1 r_) := by
 intro n_
 induction n_ with
 | zero => intro l13_0 r_ h; exact no_none h
 | succ n_ ih =>
  intro l13_0 r_ h
  refine kLp ?_
  refine kSq ?_
  refine kRs 7 [Tm 58 (bv (decide (l13_0 < l13_1.Done)))] [] .n ?_
  rcases br_inv h with ⟨b15_0, h⟩ | ⟨b15_0, h⟩
  ·refine kCt b15_0 ?_
   refine kSk ?_
   refine kCd (cR (cB (cB (cR (cL (cR (cR bd11))))))) [.lp (cB (cR (cL (cR (cR bd11)))))] ?_
   refine kSq ?_
   refine kBk 1 ?_
   obtain ⟨x16_1, a16_2, e16_3, h⟩ := ix_inv h
   rcases br_inv h with ⟨b16_4, h⟩ | ⟨b16_4, h⟩
   ·refine kRs 14 [Tm 90 (bv true)] (.c (e_i64 x16_1) :: (rp 21 (.b true) [])) (.c (c_ix (e := e_i64) a16_2 e16_3) (.c (c_el (e := e_i64) e16_3) (.r 7 b16_4 (.r 14 rT .n)))) ?_
    refine kCt rT ?_
    refine kRs 0 [Tm 2 (bv false)] [] .n ?_
    cases some_inj h
    refine kWo ?_
    refine kRt ?_
    exact kOut
   ·obtain ⟨x16_5, a16_6, e16_7, h⟩ := ix_inv h
    rcases br_inv h with ⟨b16_8, h⟩ | ⟨b16_8, h⟩
    ·refine kRs 14 [Tm 90 (bv true)] (.c (e_i64 x16_1) :: (rp 4 (.b false) (.c (e_i64 x16_5) :: (.b false :: (.b false :: (.b false :: (rp 14 (.b true) []))))))) (.c (c_ix (e := e_i64) a16_2 e16_3) (.c (c_el (e := e_i64) e16_3) (.r 4 b16_4 (.c (c_ix (e := e_i64) a16_6 e16_7) (.c (c_el (e := e_i64) e16_7) (.r 3 b16_4 (.r 7 b16_8 (.r 7 rT .n)))))))) ?_
     refine kCt rT ?_
     refine kRs 0 [Tm 2 (bv false)] [] .n ?_
     cases some_inj h
     refine kWo ?_
     refine kRt ?_
     exact kOut
    ·obtain ⟨x16_9, a16_10, e16_11, h⟩ := ix_inv h
     rcases br_inv h with ⟨b16_12, h⟩ | ⟨b16_12, h⟩
     ·refine kRs 14 [Tm 90 (bv true)] (.c (e_i64 x16_1) :: (rp 4 (.b false) (.c (e_i64 x16_5) :: (rp 7 (.b false) (.c (e_i64 x16_9) :: (.b false :: (.b false :: (.b false :: (rp 7 (.b true) []))))))))) (.c (c_ix (e := e_i64) a16_2 e16_3) (.c (c_el (e := e_i64) e16_3) (.r 4 b16_4 (.c (c_ix (e := e_i64) a16_6 e16_7) (.c (c_el (e := e_i64) e16_7) (.r 3 b16_4 (.r 4 b16_8 (.c (c_ix (e := e_i64) a16_10 e16_11) (.c (c_el (e := e_i64) e16_11) (.r 3 b16_8 (.r 7 b16_12 .n))))))))))) ?_
      refine kCt rT ?_
      refine kRs 0 [Tm 2 (bv false)] [] .n ?_
      cases some_inj h
      refine kWo ?_
      refine kRt ?_
      exact kOut
     ·obtain ⟨x16_13, a16_14, e16_15, h⟩ := ix_inv h
      refine kRs 14 [Tm 90 (bv (decide (x16_13 > 4)))] (.c (e_i64 x16_1) :: (rp 4 (.b false) (.c (e_i64 x16_5) :: (rp 7 (.b false) (.c (e_i64 x16_9) :: (rp 7 (.b false) [.c (e_i64 x16_13), .b false, .b false, .b false])))))) (.c (c_ix (e := e_i64) a16_2 e16_3) (.c (c_el (e := e_i64) e16_3) (.r 4 b16_4 (.c (c_ix (e := e_i64) a16_6 e16_7) (.c (c_el (e := e_i64) e16_7) (.r 3 b16_4 (.r 4 b16_8 (.c (c_ix (e := e_i64) a16_10 e16_11) (.c (c_el (e := e_i64) e16_11) (.r 3 b16_8 (.r 4 b16_12 (.c (c_ix (e := e_i64) a16_14 e16_15) (.c (c_el (e := e_i64) e16_15) (.r 3 b16_12 .n)))))))))))))) ?_
      rcases br_inv h with ⟨b20_0, h⟩ | ⟨b20_0, h⟩
      ·refine kCt b20_0 ?_
       refine kRs 0 [Tm 2 (bv false)] [] .n ?_
       cases some_inj h
       refine kWo ?_
       refine kRt ?_
       exact kOut
      ·refine kCe b20_0 ?_
       refine kSk ?_
       refine kCd (cR (cR (cB (cB (cR (cL (cR (cR bd11)))))))) [.lp (cB (cR (cL (cR (cR bd11)))))] ?_
       refine kRc 10 [Tm 3 (iv (w64 (l13_0 + 1)))] [] .n (cB (cR (cL (cR (cR bd11))))) [] ?_
       exact kWk (ih (w64 (l13_0 + 1)) _ h)
  ·refine kCe b15_0 ?_
   cases some_inj h
   refine kWo ?_
   refine kXt 0 ?_
   exact kOut
def diwanref13_MayShard.lp25 (fu : Nat) (l25_1 : TShard) : Nat → Int → Option (Unit ⊕ Unit)
  | 0, _ => none
  | n_ + 1, l25_0 =>
  br (decide (l25_0 < (l25_1.S.Chains.length : Int)))
   (ix l25_1.S.Chains l25_0 fun x28_1 =>
   bd (diwanref1_ShardOf fu x28_1.Key l25_1.Shards) fun r29_1 =>
   br (r29_1 != l25_1.ID)
    (some (.inr ()))
    (bd (diwanref13_LastOf x28_1.L) fun r29_4 =>
    br (decide (r29_4 > l25_1.Done))
     (some (.inr ()))
     (diwanref13_MayShard.lp25 fu l25_1 n_ (w64 (l25_0 + 1)))))
   (some (.inl ()))
def diwanref13_MayShard.lp25_post (l25_1 : TShard) (r_ : (Unit ⊕ Unit)) : Wy → St → Prop := fun e τ => match r_ with
  | .inl _ => e = .exit 2 ∧ τ = ofL [Tm 1 (.ptr 1 0), Ob 1 (TShard.ob l25_1)]
  | .inr _ => e = .ret ∧ τ = ofL [Tm 2 (bv false)]
theorem diwanref13_MayShard.lp25_ok (fu : Nat) (l25_1 : TShard) : ∀ (n_ : Nat) (l25_0 : Int) (r_ : (Unit ⊕ Unit)), diwanref13_MayShard.lp25 fu l25_1 n_ l25_0 = some r_ → WK Try.prog diwanref13_MayShard.O (Ck Try.prog) (cB (cR (cL (cR (cR (cR bd11)))))) [] (ofL [Tm 1 (.ptr 1 0), Tm 4 (iv l25_0), Ob 1 (TShard.ob l25_1)]) (diwanref13_MayShard.lp25_post l25_1 r_) := by
 intro n_
 induction n_ with
 | zero => intro l25_0 r_ h; exact no_none h
 | succ n_ ih =>
  intro l25_0 r_ h
  refine kLp ?_
  refine kSq ?_
  refine kRs 7 [Tm 96 (bv (decide (l25_0 < (l25_1.S.Chains.length : Int))))] [.s (.t 95) [iv (l25_1.S.Chains.length : Int)]] (.c (c_len (e := TChain.en) (l := l25_1.S.Chains)) .n) ?_
  rcases br_inv h with ⟨b27_0, h⟩ | ⟨b27_0, h⟩
  ·refine kCt b27_0 ?_
   refine kSk ?_
   refine kCd (cR (cB (cB (cR (cL (cR (cR (cR bd11)))))))) [.lp (cB (cR (cL (cR (cR (cR bd11))))))] ?_
   refine kSq ?_
   refine kBk 3 ?_
   obtain ⟨x28_1, a28_2, e28_3, h⟩ := ix_inv h
   refine kRs 14 [Tm 5 (.ptr 5 0), Ob 5 [sv x28_1.Key, sS 3 TVersion.en x28_1.L]] [.c (TChain.en x28_1)] (.c (c_ix (e := TChain.en) a28_2 e28_3) (.c (c_el (e := TChain.en) e28_3) .n)) ?_
   obtain ⟨r29_1, h29_2, h⟩ := bd_inv h
   rcases br_inv h with ⟨b29_3, h⟩ | ⟨b29_3, h⟩
   ·refine kRs 28 [Tm 120 (bv true)] (.a ⟨iv r29_1, []⟩ :: (rp 7 (.b true) [])) (.c (Asks.of (C := Meets Try.prog) (diwanref1_ShardOf.meets fu x28_1.Key l25_1.Shards _ h29_2)) (.r 7 b29_3 (.c rT .n))) ?_
    refine kCt rT ?_
    refine kRs 0 [Tm 2 (bv false)] [] .n ?_
    cases some_inj h
    refine kWo ?_
    refine kRt ?_
    exact kOut
   ·obtain ⟨r29_4, h29_5, h⟩ := bd_inv h
    refine kRs 28 [Tm 120 (bv (decide (r29_4 > l25_1.Done)))] (.a ⟨iv r29_1, []⟩ :: (.b false :: (.b false :: (.b false :: (.a ⟨iv r29_4, []⟩ :: (rp 4 (.b false) [])))))) (.c (Asks.of (C := Meets Try.prog) (diwanref1_ShardOf.meets fu x28_1.Key l25_1.Shards _ h29_2)) (.r 3 b29_3 (.c (Asks.of (C := Meets Try.prog) (diwanref13_LastOf.meets x28_1.L _ h29_5)) (.r 4 b29_3 (.c rT .n))))) ?_
    rcases br_inv h with ⟨b31_0, h⟩ | ⟨b31_0, h⟩
    ·refine kCt b31_0 ?_
     refine kRs 0 [Tm 2 (bv false)] [] .n ?_
     cases some_inj h
     refine kWo ?_
     refine kRt ?_
     exact kOut
    ·refine kCe b31_0 ?_
     refine kSk ?_
     refine kCd (cR (cR (cB (cB (cR (cL (cR (cR (cR bd11))))))))) [.lp (cB (cR (cL (cR (cR (cR bd11))))))] ?_
     refine kRc 10 [Tm 4 (iv (w64 (l25_0 + 1)))] [] .n (cB (cR (cL (cR (cR (cR bd11)))))) [] ?_
     exact kWk (ih (w64 (l25_0 + 1)) _ h)
  ·refine kCe b27_0 ?_
   cases some_inj h
   refine kWo ?_
   refine kXt 2 ?_
   exact kOut
def diwanref13_MayShard.lp36 (fu : Nat) (l36_1 : TShard) : Nat → Int → Option (Unit ⊕ Unit)
  | 0, _ => none
  | n_ + 1, l36_0 =>
  br (decide (l36_0 < (l36_1.Seats.length : Int)))
   (ix l36_1.Seats l36_0 fun x39_1 =>
   br (decide (x39_1.Session < 1))
    (some (.inr ()))
    (br (decide (x39_1.Session > 9))
     (some (.inr ()))
     (br (decide (l36_0 > 0))
      (ix l36_1.Seats (w64 (l36_0 - 1)) fun x40_4 =>
      br (decide (x39_1.Session ≤ x40_4.Session))
       (some (.inr ()))
       (br (decide (x39_1.Seq < 1))
        (some (.inr ()))
        (br (decide (x39_1.Seq > 1000))
         (some (.inr ()))
         (br (decide (x39_1.Pos < 1))
          (some (.inr ()))
          (br (decide (x39_1.Pos > l36_1.Done))
           (some (.inr ()))
           (diwanref13_MayShard.lp36 fu l36_1 n_ (w64 (l36_0 + 1))))))))
      (br (decide (x39_1.Seq < 1))
       (some (.inr ()))
       (br (decide (x39_1.Seq > 1000))
        (some (.inr ()))
        (br (decide (x39_1.Pos < 1))
         (some (.inr ()))
         (br (decide (x39_1.Pos > l36_1.Done))
          (some (.inr ()))
          (diwanref13_MayShard.lp36 fu l36_1 n_ (w64 (l36_0 + 1))))))))))
   (some (.inl ()))
def diwanref13_MayShard.lp36_post (l36_1 : TShard) (r_ : (Unit ⊕ Unit)) : Wy → St → Prop := fun e τ => match r_ with
  | .inl _ => e = .exit 4 ∧ τ = ofL []
  | .inr _ => e = .ret ∧ τ = ofL [Tm 2 (bv false)]
theorem diwanref13_MayShard.lp36_ok (fu : Nat) (l36_1 : TShard) : ∀ (n_ : Nat) (l36_0 : Int) (r_ : (Unit ⊕ Unit)), diwanref13_MayShard.lp36 fu l36_1 n_ l36_0 = some r_ → WK Try.prog diwanref13_MayShard.O (Ck Try.prog) (cB (cR (cL (cR (cR (cR (cR bd11))))))) [] (ofL [Tm 1 (.ptr 1 0), Tm 6 (iv l36_0), Ob 1 (TShard.ob l36_1)]) (diwanref13_MayShard.lp36_post l36_1 r_) := by
 intro n_
 induction n_ with
 | zero => intro l36_0 r_ h; exact no_none h
 | succ n_ ih =>
  intro l36_0 r_ h
  refine kLp ?_
  refine kSq ?_
  refine kRs 7 [Tm 125 (bv (decide (l36_0 < (l36_1.Seats.length : Int))))] [.s (.t 124) [iv (l36_1.Seats.length : Int)]] (.c (c_len (e := TSeat.en) (l := l36_1.Seats)) .n) ?_
  rcases br_inv h with ⟨b38_0, h⟩ | ⟨b38_0, h⟩
  ·refine kCt b38_0 ?_
   refine kSk ?_
   refine kCd (cR (cB (cB (cR (cL (cR (cR (cR (cR bd11))))))))) [.lp (cB (cR (cL (cR (cR (cR (cR bd11)))))))] ?_
   refine kSq ?_
   refine kBk 5 ?_
   obtain ⟨x39_1, a39_2, e39_3, h⟩ := ix_inv h
   refine kRs 14 [Tm 7 (.ptr 7 0), Ob 7 (TSeat.ob x39_1)] [.c (TSeat.en x39_1)] (.c (c_ix (e := TSeat.en) a39_2 e39_3) (.c (c_el (e := TSeat.en) e39_3) .n)) ?_
   rcases br_inv h with ⟨b40_1, h⟩ | ⟨b40_1, h⟩
   ·refine kRs 28 [Tm 178 (bv true)] (rp 27 (.b true) []) (.r 4 b40_1 (.r 24 rT .n)) ?_
    refine kCt rT ?_
    refine kRs 0 [Tm 2 (bv false)] [] .n ?_
    cases some_inj h
    refine kWo ?_
    refine kRt ?_
    exact kOut
   ·rcases br_inv h with ⟨b40_2, h⟩ | ⟨b40_2, h⟩
    ·refine kRs 28 [Tm 178 (bv true)] (rp 4 (.b false) (rp 23 (.b true) [])) (.r 4 b40_1 (.r 5 b40_2 (.r 19 rT .n))) ?_
     refine kCt rT ?_
     refine kRs 0 [Tm 2 (bv false)] [] .n ?_
     cases some_inj h
     refine kWo ?_
     refine kRt ?_
     exact kOut
    ·rcases br_inv h with ⟨b40_3, h⟩ | ⟨b40_3, h⟩
     ·obtain ⟨x40_4, a40_5, e40_6, h⟩ := ix_inv h
      rcases br_inv h with ⟨b40_7, h⟩ | ⟨b40_7, h⟩
      ·refine kRs 28 [Tm 178 (bv true)] (rp 7 (.b false) (rp 7 (.b true) (.c (TSeat.en x40_4) :: (.b true :: (.b true :: (.b true :: (.b false :: (.b true :: (.b false :: (rp 18 (.b true) [])))))))))) (.r 4 b40_1 (.r 3 b40_2 (.r 7 b40_3 (.c (c_ix (e := TSeat.en) a40_5 e40_6) (.c (c_el (e := TSeat.en) e40_6) (.r 3 b40_3 (.c b40_2 (.c b40_3 (.c b40_2 (.r 4 b40_7 (.r 15 rT .n))))))))))) ?_
       refine kCt rT ?_
       refine kRs 0 [Tm 2 (bv false)] [] .n ?_
       cases some_inj h
       refine kWo ?_
       refine kRt ?_
       exact kOut
      ·rcases br_inv h with ⟨b40_8, h⟩ | ⟨b40_8, h⟩
       ·refine kRs 28 [Tm 178 (bv true)] (rp 7 (.b false) (rp 7 (.b true) (.c (TSeat.en x40_4) :: (.b true :: (.b true :: (.b true :: (.b false :: (.b true :: (rp 5 (.b false) (rp 14 (.b true) [])))))))))) (.r 4 b40_1 (.r 3 b40_2 (.r 7 b40_3 (.c (c_ix (e := TSeat.en) a40_5 e40_6) (.c (c_el (e := TSeat.en) e40_6) (.r 3 b40_3 (.c b40_2 (.c b40_3 (.c b40_2 (.r 4 b40_7 (.r 4 b40_8 (.r 11 rT .n)))))))))))) ?_
        refine kCt rT ?_
        refine kRs 0 [Tm 2 (bv false)] [] .n ?_
        cases some_inj h
        refine kWo ?_
        refine kRt ?_
        exact kOut
       ·rcases br_inv h with ⟨b40_9, h⟩ | ⟨b40_9, h⟩
        ·refine kRs 28 [Tm 178 (bv true)] (rp 7 (.b false) (rp 7 (.b true) (.c (TSeat.en x40_4) :: (.b true :: (.b true :: (.b true :: (.b false :: (.b true :: (rp 9 (.b false) (rp 10 (.b true) [])))))))))) (.r 4 b40_1 (.r 3 b40_2 (.r 7 b40_3 (.c (c_ix (e := TSeat.en) a40_5 e40_6) (.c (c_el (e := TSeat.en) e40_6) (.r 3 b40_3 (.c b40_2 (.c b40_3 (.c b40_2 (.r 4 b40_7 (.r 4 b40_8 (.r 4 b40_9 (.r 7 rT .n))))))))))))) ?_
         refine kCt rT ?_
         refine kRs 0 [Tm 2 (bv false)] [] .n ?_
         cases some_inj h
         refine kWo ?_
         refine kRt ?_
         exact kOut
        ·rcases br_inv h with ⟨b40_10, h⟩ | ⟨b40_10, h⟩
         ·refine kRs 28 [Tm 178 (bv true)] (rp 7 (.b false) (rp 7 (.b true) (.c (TSeat.en x40_4) :: (.b true :: (.b true :: (.b true :: (.b false :: (.b true :: (rp 13 (.b false) (rp 6 (.b true) [])))))))))) (.r 4 b40_1 (.r 3 b40_2 (.r 7 b40_3 (.c (c_ix (e := TSeat.en) a40_5 e40_6) (.c (c_el (e := TSeat.en) e40_6) (.r 3 b40_3 (.c b40_2 (.c b40_3 (.c b40_2 (.r 4 b40_7 (.r 4 b40_8 (.r 4 b40_9 (.r 6 b40_10 (.c rT .n)))))))))))))) ?_
          refine kCt rT ?_
          refine kRs 0 [Tm 2 (bv false)] [] .n ?_
          cases some_inj h
          refine kWo ?_
          refine kRt ?_
          exact kOut
         ·refine kRs 28 [Tm 178 (bv (decide (x39_1.Pos > l36_1.Done)))] (rp 7 (.b false) (rp 7 (.b true) (.c (TSeat.en x40_4) :: (.b true :: (.b true :: (.b true :: (.b false :: (.b true :: (rp 19 (.b false) []))))))))) (.r 4 b40_1 (.r 3 b40_2 (.r 7 b40_3 (.c (c_ix (e := TSeat.en) a40_5 e40_6) (.c (c_el (e := TSeat.en) e40_6) (.r 3 b40_3 (.c b40_2 (.c b40_3 (.c b40_2 (.r 4 b40_7 (.r 4 b40_8 (.r 4 b40_9 (.r 6 b40_10 (.c rT .n)))))))))))))) ?_
          rcases br_inv h with ⟨b47_0, h⟩ | ⟨b47_0, h⟩
          ·refine kCt b47_0 ?_
           refine kRs 0 [Tm 2 (bv false)] [] .n ?_
           cases some_inj h
           refine kWo ?_
           refine kRt ?_
           exact kOut
          ·refine kCe b47_0 ?_
           refine kSk ?_
           refine kCd (cR (cR (cB (cB (cR (cL (cR (cR (cR (cR bd11)))))))))) [.lp (cB (cR (cL (cR (cR (cR (cR bd11)))))))] ?_
           refine kRc 10 [Tm 6 (iv (w64 (l36_0 + 1)))] [] .n (cB (cR (cL (cR (cR (cR (cR bd11))))))) [] ?_
           exact kWk (ih (w64 (l36_0 + 1)) _ h)
     ·rcases br_inv h with ⟨b40_4, h⟩ | ⟨b40_4, h⟩
      ·refine kRs 28 [Tm 178 (bv true)] (rp 24 (.b false) (rp 14 (.b true) [])) (.r 4 b40_1 (.r 3 b40_2 (.r 10 b40_3 (.c b40_2 (.c b40_3 (.c b40_2 (.r 4 rF (.r 4 b40_4 (.r 11 rT .n))))))))) ?_
       refine kCt rT ?_
       refine kRs 0 [Tm 2 (bv false)] [] .n ?_
       cases some_inj h
       refine kWo ?_
       refine kRt ?_
       exact kOut
      ·rcases br_inv h with ⟨b40_5, h⟩ | ⟨b40_5, h⟩
       ·refine kRs 28 [Tm 178 (bv true)] (rp 28 (.b false) (rp 10 (.b true) [])) (.r 4 b40_1 (.r 3 b40_2 (.r 10 b40_3 (.c b40_2 (.c b40_3 (.c b40_2 (.r 4 rF (.r 4 b40_4 (.r 4 b40_5 (.r 7 rT .n)))))))))) ?_
        refine kCt rT ?_
        refine kRs 0 [Tm 2 (bv false)] [] .n ?_
        cases some_inj h
        refine kWo ?_
        refine kRt ?_
        exact kOut
       ·rcases br_inv h with ⟨b40_6, h⟩ | ⟨b40_6, h⟩
        ·refine kRs 28 [Tm 178 (bv true)] (rp 32 (.b false) (rp 6 (.b true) [])) (.r 4 b40_1 (.r 3 b40_2 (.r 10 b40_3 (.c b40_2 (.c b40_3 (.c b40_2 (.r 4 rF (.r 4 b40_4 (.r 4 b40_5 (.r 6 b40_6 (.c rT .n))))))))))) ?_
         refine kCt rT ?_
         refine kRs 0 [Tm 2 (bv false)] [] .n ?_
         cases some_inj h
         refine kWo ?_
         refine kRt ?_
         exact kOut
        ·refine kRs 28 [Tm 178 (bv (decide (x39_1.Pos > l36_1.Done)))] (rp 38 (.b false) []) (.r 4 b40_1 (.r 3 b40_2 (.r 10 b40_3 (.c b40_2 (.c b40_3 (.c b40_2 (.r 4 rF (.r 4 b40_4 (.r 4 b40_5 (.r 6 b40_6 (.c rT .n))))))))))) ?_
         rcases br_inv h with ⟨b53_0, h⟩ | ⟨b53_0, h⟩
         ·refine kCt b53_0 ?_
          refine kRs 0 [Tm 2 (bv false)] [] .n ?_
          cases some_inj h
          refine kWo ?_
          refine kRt ?_
          exact kOut
         ·refine kCe b53_0 ?_
          refine kSk ?_
          refine kCd (cR (cR (cB (cB (cR (cL (cR (cR (cR (cR bd11)))))))))) [.lp (cB (cR (cL (cR (cR (cR (cR bd11)))))))] ?_
          refine kRc 10 [Tm 6 (iv (w64 (l36_0 + 1)))] [] .n (cB (cR (cL (cR (cR (cR (cR bd11))))))) [] ?_
          exact kWk (ih (w64 (l36_0 + 1)) _ h)
  ·refine kCe b38_0 ?_
   cases some_inj h
   refine kWo ?_
   refine kXt 4 ?_
   exact kOut
def diwanref13_MayShard (fu : Nat) (s : TShard) : Option Bool :=
 br (decide (s.Shards < 1))
  (some false)
  (br (decide (s.Shards > 3))
   (some false)
   (br (decide (s.ID < 0))
    (some false)
    (br (decide (s.ID ≥ s.Shards))
     (some false)
     (br (decide (s.Done < 0))
      (some false)
      (br ((s.Bits.length : Int) != s.Done)
       (some false)
       (br ((s.Said.length : Int) != s.Done)
        (some false)
        (bd (diwanref13_MayStore fu s.S) fun r2_8 =>
        br (!r2_8)
         (some false)
         (bd (diwanref13_MayShard.lp13 fu s fu 0) fun o_ => (match o_ with
         | .inl _ =>
          bd (diwanref13_MayShard.lp25 fu s fu 0) fun o_ => (match o_ with
          | .inl _ =>
           bd (diwanref13_MayShard.lp36 fu s fu 0) fun o_ => (match o_ with
           | .inl _ =>
            some true
           | .inr _ =>
            some false)
          | .inr _ =>
           some false)
         | .inr _ =>
          some false)))))))))
theorem diwanref13_MayShard.meets (fu : Nat) (s : TShard) (z0 : Bool) (h : diwanref13_MayShard fu s = some z0) : Meets Try.prog ⟨11, [.data (TShard.ag s)], []⟩ ⟨bv z0, []⟩ := by
 refine kMt hmix diwanref13_MayShard.O Try.f11 bd11 1 ?_
 unfold diwanref13_MayShard at h
 refine kRs 0 [Tm 1 (.ptr 1 0), Ob 1 (TShard.ob s)] [] .n ?_
 refine kSq ?_
 rcases br_inv h with ⟨b2_1, h⟩ | ⟨b2_1, h⟩
 ·refine kRs 3 [Tm 54 (bv true)] (rp 37 (.b true) []) (.r 4 b2_1 (.r 33 rT .n)) ?_
  refine kCt rT ?_
  refine kRs 0 [Tm 2 (bv false)] [] .n ?_
  refine kRt ?_
  have h_ := some_inj h
  subst h_
  exact kFr
 ·rcases br_inv h with ⟨b2_2, h⟩ | ⟨b2_2, h⟩
  ·refine kRs 3 [Tm 54 (bv true)] (rp 4 (.b false) (rp 33 (.b true) [])) (.r 4 b2_1 (.r 4 b2_2 (.r 29 rT .n))) ?_
   refine kCt rT ?_
   refine kRs 0 [Tm 2 (bv false)] [] .n ?_
   refine kRt ?_
   have h_ := some_inj h
   subst h_
   exact kFr
  ·rcases br_inv h with ⟨b2_3, h⟩ | ⟨b2_3, h⟩
   ·refine kRs 3 [Tm 54 (bv true)] (rp 8 (.b false) (rp 29 (.b true) [])) (.r 4 b2_1 (.r 4 b2_2 (.r 6 b2_3 (.r 23 rT .n)))) ?_
    refine kCt rT ?_
    refine kRs 0 [Tm 2 (bv false)] [] .n ?_
    refine kRt ?_
    have h_ := some_inj h
    subst h_
    exact kFr
   ·rcases br_inv h with ⟨b2_4, h⟩ | ⟨b2_4, h⟩
    ·refine kRs 3 [Tm 54 (bv true)] (rp 14 (.b false) (rp 23 (.b true) [])) (.r 4 b2_1 (.r 4 b2_2 (.r 6 b2_3 (.r 4 b2_4 (.r 19 rT .n))))) ?_
     refine kCt rT ?_
     refine kRs 0 [Tm 2 (bv false)] [] .n ?_
     refine kRt ?_
     have h_ := some_inj h
     subst h_
     exact kFr
    ·rcases br_inv h with ⟨b2_5, h⟩ | ⟨b2_5, h⟩
     ·refine kRs 3 [Tm 54 (bv true)] (rp 18 (.b false) (rp 19 (.b true) [])) (.r 4 b2_1 (.r 4 b2_2 (.r 6 b2_3 (.r 4 b2_4 (.r 7 b2_5 (.r 12 rT .n)))))) ?_
      refine kCt rT ?_
      refine kRs 0 [Tm 2 (bv false)] [] .n ?_
      refine kRt ?_
      have h_ := some_inj h
      subst h_
      exact kFr
     ·rcases br_inv h with ⟨b2_6, h⟩ | ⟨b2_6, h⟩
      ·refine kRs 3 [Tm 54 (bv true)] (rp 21 (.b false) (.s (.t 36) [iv (s.Bits.length : Int)] :: (rp 4 (.b false) (rp 12 (.b true) [])))) (.r 4 b2_1 (.r 4 b2_2 (.r 6 b2_3 (.r 4 b2_4 (.r 3 b2_5 (.c (c_len (e := e_i64) (l := s.Bits)) (.r 4 b2_5 (.r 7 b2_6 (.r 5 rT .n))))))))) ?_
       refine kCt rT ?_
       refine kRs 0 [Tm 2 (bv false)] [] .n ?_
       refine kRt ?_
       have h_ := some_inj h
       subst h_
       exact kFr
      ·rcases br_inv h with ⟨b2_7, h⟩ | ⟨b2_7, h⟩
       ·refine kRs 3 [Tm 54 (bv true)] (rp 21 (.b false) (.s (.t 36) [iv (s.Bits.length : Int)] :: (rp 7 (.b false) (.s (.t 44) [iv (s.Said.length : Int)] :: (rp 4 (.b false) (rp 5 (.b true) [])))))) (.r 4 b2_1 (.r 4 b2_2 (.r 6 b2_3 (.r 4 b2_4 (.r 3 b2_5 (.c (c_len (e := e_i64) (l := s.Bits)) (.r 4 b2_5 (.r 3 b2_6 (.c (c_len (e := e_i64) (l := s.Said)) (.r 4 b2_6 (.r 5 b2_7 .n))))))))))) ?_
        refine kCt rT ?_
        refine kRs 0 [Tm 2 (bv false)] [] .n ?_
        refine kRt ?_
        have h_ := some_inj h
        subst h_
        exact kFr
       ·obtain ⟨r2_8, h2_9, h⟩ := bd_inv h
        refine kRs 3 [Tm 54 (bv (!r2_8))] (rp 21 (.b false) (.s (.t 36) [iv (s.Bits.length : Int)] :: (rp 7 (.b false) (.s (.t 44) [iv (s.Said.length : Int)] :: (rp 7 (.b false) [.a ⟨bv r2_8, []⟩, .b false, .b false]))))) (.r 4 b2_1 (.r 4 b2_2 (.r 6 b2_3 (.r 4 b2_4 (.r 3 b2_5 (.c (c_len (e := e_i64) (l := s.Bits)) (.r 4 b2_5 (.r 3 b2_6 (.c (c_len (e := e_i64) (l := s.Said)) (.r 4 b2_6 (.r 3 b2_7 (.c (Asks.of (C := Meets Try.prog) (diwanref13_MayStore.meets fu s.S _ h2_9)) (.r 2 b2_7 .n))))))))))))) ?_
        rcases br_inv h with ⟨b10_0, h⟩ | ⟨b10_0, h⟩
        ·refine kCt b10_0 ?_
         refine kRs 0 [Tm 2 (bv false)] [] .n ?_
         refine kRt ?_
         have h_ := some_inj h
         subst h_
         exact kFr
        ·refine kCe b10_0 ?_
         refine kSk ?_
         refine kCd (cR (cR bd11)) [] ?_
         refine kSq ?_
         refine kRs 6 [Tm 3 (iv 0)] [] .n ?_
         refine kBk 0 ?_
         obtain ⟨o23, ho23, h⟩ := bd_inv h
         refine kUs (diwanref13_MayShard.lp13_ok fu s _ 0 _ ho23) ?_
         intro e_ τ_ hp_
         rcases o23 with o23 | o23
         ·obtain ⟨⟩ := o23
          obtain ⟨rfl, rfl⟩ := hp_
          refine kCd (cR (cR (cR bd11))) [] ?_
          refine kSq ?_
          refine kRs 3 [Tm 4 (iv 0)] [] .n ?_
          refine kBk 2 ?_
          obtain ⟨o34, ho34, h⟩ := bd_inv h
          refine kUs (diwanref13_MayShard.lp25_ok fu s _ 0 _ ho34) ?_
          intro e_ τ_ hp_
          rcases o34 with o34 | o34
          ·obtain ⟨⟩ := o34
           obtain ⟨rfl, rfl⟩ := hp_
           refine kCd (cR (cR (cR (cR bd11)))) [] ?_
           refine kSq ?_
           refine kRs 3 [Tm 6 (iv 0)] [] .n ?_
           refine kBk 4 ?_
           obtain ⟨o56, ho56, h⟩ := bd_inv h
           refine kUs (diwanref13_MayShard.lp36_ok fu s _ 0 _ ho56) ?_
           intro e_ τ_ hp_
           rcases o56 with o56 | o56
           ·obtain ⟨⟩ := o56
            obtain ⟨rfl, rfl⟩ := hp_
            refine kCd (cR (cR (cR (cR (cR bd11))))) [] ?_
            refine kRs 0 [Tm 2 (bv true)] [] .n ?_
            refine kRt ?_
            have h_ := some_inj h
            subst h_
            exact kFr
           ·obtain ⟨⟩ := o56
            obtain ⟨rfl, rfl⟩ := hp_
            have h_ := some_inj h
            subst h_
            exact kFr
          ·obtain ⟨⟩ := o34
           obtain ⟨rfl, rfl⟩ := hp_
           have h_ := some_inj h
           subst h_
           exact kFr
         ·obtain ⟨⟩ := o23
          obtain ⟨rfl, rfl⟩ := hp_
          have h_ := some_inj h
          subst h_
          exact kFr
def bd4 : Code := (Try.f4.body).getD .skip
def diwanlaw20_SaveMay.O : Nat → Nat := fun t => bif ([10, 11, 20, 23, 26, 28, 30, 32] : List Nat).any (Nat.beq t) then 1 else 0
def diwanlaw20_SaveMay (fu : Nat) (picks : List Int) (n_v : Int) (id : Int) (which : Int) (to : Int) : Option Bool :=
 bd (diwanlaw20_begun fu) fun r2_1 =>
 br (!r2_1)
  (some false)
  (br (decide ((picks.length : Int) > 250))
   (some true)
   (bd (diwanlaw20_made fu picks n_v id 0) fun r8_1 =>
   br ((Int.tmod which 3) == 0)
    (bd (save_Put fu (TShard.mk r8_1.ID r8_1.Shards to r8_1.S r8_1.Seats r8_1.Bits r8_1.Said)) fun r13_1 =>
    bd (diwanref13_MayShard fu (TShard.mk r8_1.ID r8_1.Shards to r8_1.S r8_1.Seats r8_1.Bits r8_1.Said)) fun r13_3 =>
    some ((decide ((r13_1.length : Int) > 0)) == r13_3))
    (br ((Int.tmod which 3) == 1)
     (bd (save_Put fu (TShard.mk to r8_1.Shards r8_1.Done r8_1.S r8_1.Seats r8_1.Bits r8_1.Said)) fun r17_1 =>
     bd (diwanref13_MayShard fu (TShard.mk to r8_1.Shards r8_1.Done r8_1.S r8_1.Seats r8_1.Bits r8_1.Said)) fun r17_3 =>
     some ((decide ((r17_1.length : Int) > 0)) == r17_3))
     (bd (save_Put fu (TShard.mk r8_1.ID r8_1.Shards r8_1.Done (TStore.mk r8_1.S.Chains to) r8_1.Seats r8_1.Bits r8_1.Said)) fun r19_1 =>
     bd (diwanref13_MayShard fu (TShard.mk r8_1.ID r8_1.Shards r8_1.Done (TStore.mk r8_1.S.Chains to) r8_1.Seats r8_1.Bits r8_1.Said)) fun r19_3 =>
     some ((decide ((r19_1.length : Int) > 0)) == r19_3)))))
theorem diwanlaw20_SaveMay.meets (fu : Nat) (picks : List Int) (n_v : Int) (id : Int) (which : Int) (to : Int) (z0 : Bool) (h : diwanlaw20_SaveMay fu picks n_v id which to = some z0) : Meets Try.prog ⟨4, [sS 1 e_u8 picks, .data (.val (.int .u8 n_v)), .data (.val (.int .u8 id)), .data (.val (.int .u8 which)), iv to], []⟩ ⟨bv z0, []⟩ := by
 refine kMt hmix diwanlaw20_SaveMay.O Try.f4 bd4 31 ?_
 unfold diwanlaw20_SaveMay at h
 refine kRs 31 [] [] .n ?_
 refine kSq ?_
 obtain ⟨r2_1, h2_2, h⟩ := bd_inv h
 refine kRs 31 [Tm 13 (bv (!r2_1))] [.a ⟨bv r2_1, []⟩] (.c (Asks.of (C := Meets Try.prog) (diwanlaw20_begun.meets fu _ h2_2)) .n) ?_
 rcases br_inv h with ⟨b3_0, h⟩ | ⟨b3_0, h⟩
 ·refine kCt b3_0 ?_
  refine kRs 0 [Tm 10 (bv false)] [] .n ?_
  refine kRt ?_
  have h_ := some_inj h
  subst h_
  exact kFr
 ·refine kCe b3_0 ?_
  refine kSk ?_
  refine kCd (cR (cR bd4)) [] ?_
  refine kSq ?_
  refine kRs 62 [Tm 16 (bv (decide ((picks.length : Int) > 250)))] [.s (.t 15) [iv (picks.length : Int)]] (.c (c_len (e := e_u8) (l := picks)) .n) ?_
  rcases br_inv h with ⟨b6_0, h⟩ | ⟨b6_0, h⟩
  ·refine kCt b6_0 ?_
   refine kRs 0 [Tm 10 (bv true)] [] .n ?_
   refine kRt ?_
   have h_ := some_inj h
   subst h_
   exact kFr
  ·refine kCe b6_0 ?_
   refine kSk ?_
   refine kCd (cR (cR (cR bd4))) [] ?_
   obtain ⟨r8_1, h8_2, h⟩ := bd_inv h
   refine kRs 48 [Tm 11 (.ptr 11 0), Ob 11 (TShard.ob r8_1)] [.a ⟨.data (TShard.ag r8_1), []⟩] (.c (Asks.of (C := Meets Try.prog) (diwanlaw20_made.meets fu picks n_v id 0 _ h8_2)) .n) ?_
   refine kSq ?_
   refine kRs 11 [Tm 22 (.data (.val (.int .u8 (Int.tmod which 3))))] [] (.c rT .n) ?_
   refine kBk 0 ?_
   refine kRs 15 [Tm 26 (bv ((Int.tmod which 3) == 0))] [] .n ?_
   rcases br_inv h with ⟨b11_0, h⟩ | ⟨b11_0, h⟩
   ·refine kCt b11_0 ?_
    refine kRc 4 [Ob 11 (TShard.ob (TShard.mk r8_1.ID r8_1.Shards to r8_1.S r8_1.Seats r8_1.Bits r8_1.Said))] [] .n (cR (cR (cR (cR (cR bd4))))) [] ?_
    obtain ⟨r13_1, h13_2, h⟩ := bd_inv h
    obtain ⟨r13_3, h13_4, h⟩ := bd_inv h
    refine kRs 0 [Tm 10 (bv ((decide ((r13_1.length : Int) > 0)) == r13_3))] [.a ⟨.data (.slc true (some r13_1.isEmpty) 1 (List.map e_u8 r13_1)), []⟩, .s (.t 36) [iv (r13_1.length : Int)], .a ⟨bv r13_3, []⟩] (.c (Asks.of (C := Meets Try.prog) (save_Put.meets fu (TShard.mk r8_1.ID r8_1.Shards to r8_1.S r8_1.Seats r8_1.Bits r8_1.Said) _ h13_2)) (.c (c_len (e := e_u8) (l := r13_1)) (.c (Asks.of (C := Meets Try.prog) (diwanref13_MayShard.meets fu (TShard.mk r8_1.ID r8_1.Shards to r8_1.S r8_1.Seats r8_1.Bits r8_1.Said) _ h13_4)) (.c rT .n)))) ?_
    refine kRt ?_
    have h_ := some_inj h
    subst h_
    exact kFr
   ·refine kCe b11_0 ?_
    refine kRs 28 [Tm 30 (bv ((Int.tmod which 3) == 1))] [] .n ?_
    rcases br_inv h with ⟨b15_0, h⟩ | ⟨b15_0, h⟩
    ·refine kCt b15_0 ?_
     refine kRc 2 [Ob 11 (TShard.ob (TShard.mk to r8_1.Shards r8_1.Done r8_1.S r8_1.Seats r8_1.Bits r8_1.Said))] [] .n (cR (cR (cR (cR (cR bd4))))) [] ?_
     obtain ⟨r17_1, h17_2, h⟩ := bd_inv h
     obtain ⟨r17_3, h17_4, h⟩ := bd_inv h
     refine kRs 0 [Tm 10 (bv ((decide ((r17_1.length : Int) > 0)) == r17_3))] [.a ⟨.data (.slc true (some r17_1.isEmpty) 1 (List.map e_u8 r17_1)), []⟩, .s (.t 36) [iv (r17_1.length : Int)], .a ⟨bv r17_3, []⟩] (.c (Asks.of (C := Meets Try.prog) (save_Put.meets fu (TShard.mk to r8_1.Shards r8_1.Done r8_1.S r8_1.Seats r8_1.Bits r8_1.Said) _ h17_2)) (.c (c_len (e := e_u8) (l := r17_1)) (.c (Asks.of (C := Meets Try.prog) (diwanref13_MayShard.meets fu (TShard.mk to r8_1.Shards r8_1.Done r8_1.S r8_1.Seats r8_1.Bits r8_1.Said) _ h17_4)) (.c rT .n)))) ?_
     refine kRt ?_
     have h_ := some_inj h
     subst h_
     exact kFr
    ·refine kCe b15_0 ?_
     refine kRc 2 [Ob 11 (TShard.ob (TShard.mk r8_1.ID r8_1.Shards r8_1.Done (TStore.mk r8_1.S.Chains to) r8_1.Seats r8_1.Bits r8_1.Said))] [] .n (cR (cR (cR (cR (cR bd4))))) [] ?_
     obtain ⟨r19_1, h19_2, h⟩ := bd_inv h
     obtain ⟨r19_3, h19_4, h⟩ := bd_inv h
     refine kRs 0 [Tm 10 (bv ((decide ((r19_1.length : Int) > 0)) == r19_3))] [.a ⟨.data (.slc true (some r19_1.isEmpty) 1 (List.map e_u8 r19_1)), []⟩, .s (.t 36) [iv (r19_1.length : Int)], .a ⟨bv r19_3, []⟩] (.c (Asks.of (C := Meets Try.prog) (save_Put.meets fu (TShard.mk r8_1.ID r8_1.Shards r8_1.Done (TStore.mk r8_1.S.Chains to) r8_1.Seats r8_1.Bits r8_1.Said) _ h19_2)) (.c (c_len (e := e_u8) (l := r19_1)) (.c (Asks.of (C := Meets Try.prog) (diwanref13_MayShard.meets fu (TShard.mk r8_1.ID r8_1.Shards r8_1.Done (TStore.mk r8_1.S.Chains to) r8_1.Seats r8_1.Bits r8_1.Said) _ h19_4)) (.c rT .n)))) ?_
     refine kRt ?_
     have h_ := some_inj h
     subst h_
     exact kFr
end Go.Proofs.Ythjpcfbfiaenaaa.Told
