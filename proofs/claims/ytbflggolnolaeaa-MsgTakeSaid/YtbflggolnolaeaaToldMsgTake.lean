/- Functions of the program told as Lean functions, with the walks of their code in the machine by value. -/
import Derived.Test.YtbflggolnolaeaaProg
import Derived.Test.YtbflggolnolaeaaVam2
import Derived.Test.YtbflggolnolaeaaToldMsgTakep1
noncomputable section
namespace Go.Proofs.Ytbflggolnolaeaa.Told
open Go Go.Proofs Go.Proofs.Ytbflggolnolaeaa Go.Proofs.Ytbflggolnolaeaa.Vam
set_option linter.unusedVariables false
set_option maxRecDepth 100000
def bd57 : Code := (Try.f57.body).getD .skip
def msg_reader_text.O : Nat → Nat := fun t => bif ([2, 3, 4, 5] : List Nat).any (Nat.beq t) then 1 else 0
def msg_reader_text (fu : Nat) (o0_v : TReader) : Option (ByteArray × TReader) :=
 bd (num_TakeText fu o0_v.b) fun (r2_1, r2_2, r2_3) =>
 bd (msg_reader_goes r2_2 r2_3 o0_v) fun r3_1 =>
 some (r2_1, r3_1)
theorem msg_reader_text.meets (fu : Nat) (o0_v : TReader) (z0 : ByteArray) (z1 : TReader) (h : msg_reader_text fu o0_v = some (z0, z1)) : Meets Try.prog ⟨57, [.ptr 1000 0], [[sS 1 e_u8 o0_v.b, bv o0_v.bad]]⟩ ⟨sv z0, [[sS 1 e_u8 z1.b, bv z1.bad]]⟩ := by
 refine kMt hmix msg_reader_text.O Try.f57 bd57 3 ?_
 unfold msg_reader_text at h
 refine kRs 3 [] [] .n ?_
 obtain ⟨⟨r2_1, r2_2, r2_3⟩, h2_4, h⟩ := bd_inv h
 refine kRs 3 [Tm 3 (sv r2_1), Tm 4 (iv r2_2), Tm 5 (bv r2_3)] [.a ⟨.tup [sv r2_1, iv r2_2, bv r2_3], []⟩] (.c (Asks.of (C := Meets Try.prog) (num_TakeText.meets fu o0_v.b _ _ _ h2_4)) .n) ?_
 obtain ⟨r3_1, h3_2, h⟩ := bd_inv h
 refine kRs 1 [Ob 1000 [sS 1 e_u8 r3_1.b, bv r3_1.bad]] [.a ⟨.tup [], [[sS 1 e_u8 r3_1.b, bv r3_1.bad]]⟩] (.c (Asks.of (C := Meets Try.prog) (msg_reader_goes.meets r2_2 r2_3 o0_v _ h3_2)) .n) ?_
 refine kRs 1 [Tm 2 (sv r2_1)] [] .n ?_
 refine kRt ?_
 have h_0 := some_inj h
 obtain ⟨g_1, h_1⟩ := Prod.mk.inj h_0
 subst g_1
 subst h_1
 exact kFr
def bd58 : Code := (Try.f58.body).getD .skip
def msg_Take_2.O : Nat → Nat := fun t => bif ([6, 7] : List Nat).any (Nat.beq t) then 1 else 0
def msg_Take_2 (fu : Nat) (o0_v : TMsg) (o2_v : TReader) : Option (TMsg × TReader) :=
 bd (msg_reader_text fu o2_v) fun (r1_1, r1_2) =>
 gd (decide (o0_v.Keys.length + ([r1_1] : List ByteArray).length ≤ 4294967296)) <|
 some ((TMsg.mk o0_v.Kind o0_v.From o0_v.To o0_v.Part o0_v.Term o0_v.Index o0_v.LogTerm o0_v.Commit o0_v.OK o0_v.Entries o0_v.T o0_v.Session o0_v.Seq o0_v.Pos o0_v.Shard o0_v.Span o0_v.FromKey o0_v.ToKey (o0_v.Keys ++ ([r1_1] : List ByteArray)) o0_v.Got o0_v.Err), r1_2)
theorem msg_Take_2.meets (fu : Nat) (o0_v : TMsg) (o2_v : TReader) (z0 : TMsg) (z1 : TReader) (h : msg_Take_2 fu o0_v o2_v = some (z0, z1)) : Meets Try.prog ⟨58, [.ptr 1000 0, .ptr 1001 0], [(TMsg.ob_00000000010000000000011 o0_v), [.ptr 1002 0], [sS 1 e_u8 o2_v.b, bv o2_v.bad]]⟩ ⟨.tup [], [(TMsg.ob_00000000010000000000011 z0), [.ptr 1002 0], [sS 1 e_u8 z1.b, bv z1.bad]]⟩ := by
 refine kMt hmix msg_Take_2.O Try.f58 bd58 31 ?_
 unfold msg_Take_2 at h
 obtain ⟨⟨r1_1, r1_2⟩, h1_3, h⟩ := bd_inv h
 obtain ⟨c1_4, h⟩ := gd_inv h
 have h_0 := some_inj h
 obtain ⟨g_1, h_1⟩ := Prod.mk.inj h_0
 subst g_1
 subst h_1
 exact kRf [.a ⟨sv r1_1, [[sS 1 e_u8 r1_2.b, bv r1_2.bad]]⟩, .s (.t 7) [sO 1 e_s (o0_v.Keys ++ ([r1_1] : List ByteArray))]] (.c (Asks.of (C := Meets Try.prog) (msg_reader_text.meets fu o2_v _ _ h1_3)) (.c (c_al (e := e_s) (f := e_s) c1_4) (.c (congrArg (fun d : DV => [AV.data d]) (c_app (e := e_s) (s := 1) (l := o0_v.Keys) (m := ([r1_1] : List ByteArray)))) (.c rT .n))))
def msg_reader_many_2.O : Nat → Nat := fun t => bif ([4] : List Nat).any (Nat.beq t) then 1 else 0
def msg_reader_many_2.lp2 (fu : Nat) : Nat → Int → TReader → TMsg → Option (TReader × TMsg)
  | 0, _, _, _ => none
  | n_ + 1, l2_0, l2_1, l2_2 =>
  br (decide (l2_0 > 0))
   (br (!l2_1.bad)
    (bd (msg_Take_2 fu l2_2 l2_1) fun (r5_1, r5_2) =>
    msg_reader_many_2.lp2 fu n_ (w64 (l2_0 - 1)) r5_2 r5_1)
    (some (l2_1, l2_2)))
   (some (l2_1, l2_2))
def msg_reader_many_2.lp2_post (r_ : (TReader × TMsg)) : Wy → St → Prop := fun e τ => match r_ with
  | (y0, y1) => e = .exit 0 ∧ τ = ofL [Ob 1000 [sS 1 e_u8 y0.b, bv y0.bad], Ob 1001 (TMsg.ob_00000000010000000000011 y1), Ob 1002 [.ptr 1000 0]]
theorem msg_reader_many_2.lp2_ok (fu : Nat) : ∀ (n_ : Nat) (l2_0 : Int) (l2_1 : TReader) (l2_2 : TMsg) (r_ : (TReader × TMsg)), msg_reader_many_2.lp2 fu n_ l2_0 l2_1 l2_2 = some r_ → WK Try.prog msg_reader_many_2.O (Ck Try.prog) (cB (cR bd54)) [] (ofL [Tm 0 (.ptr 1000 0), Tm 1 (.fn (.func 58) [] [.ptr 1001 0, .ptr 1002 0]), Tm 4 (iv l2_0), Ob 1000 [sS 1 e_u8 l2_1.b, bv l2_1.bad], Ob 1001 (TMsg.ob_00000000010000000000011 l2_2), Ob 1002 [.ptr 1000 0]]) (msg_reader_many_2.lp2_post r_) := by
 intro n_
 induction n_ with
 | zero => intro l2_0 l2_1 l2_2 r_ h; exact no_none h
 | succ n_ ih =>
  intro l2_0 l2_1 l2_2 r_ h
  refine kLp ?_
  refine kSq ?_
  rcases br_inv h with ⟨b3_1, h⟩ | ⟨b3_1, h⟩
  ·refine kRs 63 [Tm 15 (bv (!l2_1.bad))] (rp 6 (.b true) []) (.r 6 b3_1 .n) ?_
   rcases br_inv h with ⟨b4_0, h⟩ | ⟨b4_0, h⟩
   ·refine kCt b4_0 ?_
    refine kSk ?_
    refine kCd (cR (cB (cB (cR bd54)))) [.lp (cB (cR bd54))] ?_
    refine kSq ?_
    refine kBk 1 ?_
    obtain ⟨⟨r5_1, r5_2⟩, h5_3, h⟩ := bd_inv h
    refine kRc 78 [Ob 1000 [sS 1 e_u8 r5_2.b, bv r5_2.bad], Ob 1001 (TMsg.ob_00000000010000000000011 r5_1)] [.a ⟨.tup [], [(TMsg.ob_00000000010000000000011 r5_1), [.ptr 1002 0], [sS 1 e_u8 r5_2.b, bv r5_2.bad]]⟩] (.c (Asks.of (C := Meets Try.prog) (msg_Take_2.meets fu l2_2 l2_1 _ _ h5_3)) .n) (cR (cR (cB (cB (cR bd54))))) [.lp (cB (cR bd54))] ?_
    refine kRc 47 [Tm 4 (iv (w64 (l2_0 - 1)))] [] .n (cB (cR bd54)) [] ?_
    exact kWk (ih (w64 (l2_0 - 1)) r5_2 r5_1 _ h)
   ·refine kCe b4_0 ?_
    cases some_inj h
    refine kWo ?_
    refine kXt 0 ?_
    exact kOut
  ·refine kRs 63 [Tm 15 (bv false)] (rp 6 (.b false) []) (.r 6 b3_1 .n) ?_
   refine kCe rF ?_
   cases some_inj h
   refine kWo ?_
   refine kXt 0 ?_
   exact kOut
def msg_reader_many_2 (fu : Nat) (o0_v : TReader) (o1_v : TMsg) : Option (TReader × TMsg) :=
 bd (msg_reader_num fu o0_v) fun (r1_1, r1_2) =>
 bd (msg_reader_many_2.lp2 fu fu r1_1 r1_2 o1_v) fun (y7_0, y7_1) =>
 some (y7_0, y7_1)
theorem msg_reader_many_2.meets (fu : Nat) (o0_v : TReader) (o1_v : TMsg) (z0 : TReader) (z1 : TMsg) (h : msg_reader_many_2 fu o0_v o1_v = some (z0, z1)) : Meets Try.prog ⟨54, [.ptr 1000 0, .fn (.func 58) [] [.ptr 1001 0, .ptr 1002 0]], [[sS 1 e_u8 o0_v.b, bv o0_v.bad], (TMsg.ob_00000000010000000000011 o1_v), [.ptr 1000 0]]⟩ ⟨.tup [], [[sS 1 e_u8 z0.b, bv z0.bad], (TMsg.ob_00000000010000000000011 z1), [.ptr 1000 0]]⟩ := by
 refine kMt hmix msg_reader_many_2.O Try.f54 bd54 31 ?_
 unfold msg_reader_many_2 at h
 obtain ⟨⟨r1_1, r1_2⟩, h1_3, h⟩ := bd_inv h
 refine kRs 27 [Tm 4 (iv r1_1), Ob 1000 [sS 1 e_u8 r1_2.b, bv r1_2.bad]] [.a ⟨iv r1_1, [[sS 1 e_u8 r1_2.b, bv r1_2.bad]]⟩] (.c (Asks.of (C := Meets Try.prog) (msg_reader_num.meets fu o0_v _ _ h1_3)) .n) ?_
 refine kBk 0 ?_
 obtain ⟨o7, ho7, h⟩ := bd_inv h
 refine kUs (msg_reader_many_2.lp2_ok fu _ r1_1 r1_2 o1_v _ ho7) ?_
 intro e_ τ_ hp_
 obtain ⟨y7_0, y7_1⟩ := o7
 obtain ⟨rfl, rfl⟩ := hp_
 have h_0 := some_inj h
 obtain ⟨g_1, h_1⟩ := Prod.mk.inj h_0
 subst g_1
 subst h_1
 exact kFn
def bd59 : Code := (Try.f59.body).getD .skip
def msg_Take_3.O : Nat → Nat := fun t => bif ([12, 13, 14] : List Nat).any (Nat.beq t) then 1 else 0
def msg_Take_3 (fu : Nat) (o0_v : TMsg) (o2_v : TReader) : Option (TMsg × TReader) :=
 bd (msg_reader_text fu o2_v) fun (r1_1, r1_2) =>
 bd (msg_reader_num fu r1_2) fun (r1_4, r1_5) =>
 bd (msg_reader_text fu r1_5) fun (r1_7, r1_8) =>
 bd (msg_reader_flag fu r1_8) fun (r1_10, r1_11) =>
 gd (decide (o0_v.Got.length + ([(TRead.mk r1_1 r1_4 r1_7 r1_10)] : List TRead).length ≤ 4294967296)) <|
 some ((TMsg.mk o0_v.Kind o0_v.From o0_v.To o0_v.Part o0_v.Term o0_v.Index o0_v.LogTerm o0_v.Commit o0_v.OK o0_v.Entries o0_v.T o0_v.Session o0_v.Seq o0_v.Pos o0_v.Shard o0_v.Span o0_v.FromKey o0_v.ToKey o0_v.Keys (o0_v.Got ++ ([(TRead.mk r1_1 r1_4 r1_7 r1_10)] : List TRead)) o0_v.Err), r1_11)
theorem msg_Take_3.meets (fu : Nat) (o0_v : TMsg) (o2_v : TReader) (z0 : TMsg) (z1 : TReader) (h : msg_Take_3 fu o0_v o2_v = some (z0, z1)) : Meets Try.prog ⟨59, [.ptr 1000 0, .ptr 1001 0], [(TMsg.ob_00000000010000000000011 o0_v), [.ptr 1002 0], [sS 1 e_u8 o2_v.b, bv o2_v.bad]]⟩ ⟨.tup [], [(TMsg.ob_00000000010000000000011 z0), [.ptr 1002 0], [sS 1 e_u8 z1.b, bv z1.bad]]⟩ := by
 refine kMt hmix msg_Take_3.O Try.f59 bd59 31 ?_
 unfold msg_Take_3 at h
 obtain ⟨⟨r1_1, r1_2⟩, h1_3, h⟩ := bd_inv h
 obtain ⟨⟨r1_4, r1_5⟩, h1_6, h⟩ := bd_inv h
 obtain ⟨⟨r1_7, r1_8⟩, h1_9, h⟩ := bd_inv h
 obtain ⟨⟨r1_10, r1_11⟩, h1_12, h⟩ := bd_inv h
 obtain ⟨c1_13, h⟩ := gd_inv h
 have h_0 := some_inj h
 obtain ⟨g_1, h_1⟩ := Prod.mk.inj h_0
 subst g_1
 subst h_1
 exact kRf [.a ⟨sv r1_1, [[sS 1 e_u8 r1_2.b, bv r1_2.bad]]⟩, .a ⟨iv r1_4, [[sS 1 e_u8 r1_5.b, bv r1_5.bad]]⟩, .a ⟨sv r1_7, [[sS 1 e_u8 r1_8.b, bv r1_8.bad]]⟩, .a ⟨bv r1_10, [[sS 1 e_u8 r1_11.b, bv r1_11.bad]]⟩, .s (.t 14) [sO 4 TRead.en (o0_v.Got ++ ([(TRead.mk r1_1 r1_4 r1_7 r1_10)] : List TRead))]] (.c (Asks.of (C := Meets Try.prog) (msg_reader_text.meets fu o2_v _ _ h1_3)) (.c (Asks.of (C := Meets Try.prog) (msg_reader_num.meets fu r1_2 _ _ h1_6)) (.c (Asks.of (C := Meets Try.prog) (msg_reader_text.meets fu r1_5 _ _ h1_9)) (.c (Asks.of (C := Meets Try.prog) (msg_reader_flag.meets fu r1_8 _ _ h1_12)) (.c (c_al (e := TRead.en) (f := TRead.en) c1_13) (.c (congrArg (fun d : DV => [AV.data d]) (c_app (e := TRead.en) (s := 4) (l := o0_v.Got) (m := ([(TRead.mk r1_1 r1_4 r1_7 r1_10)] : List TRead)))) (.c rT .n)))))))
def msg_reader_many_3.O : Nat → Nat := fun t => bif ([4] : List Nat).any (Nat.beq t) then 1 else 0
def msg_reader_many_3.lp2 (fu : Nat) : Nat → Int → TReader → TMsg → Option (TReader × TMsg)
  | 0, _, _, _ => none
  | n_ + 1, l2_0, l2_1, l2_2 =>
  br (decide (l2_0 > 0))
   (br (!l2_1.bad)
    (bd (msg_Take_3 fu l2_2 l2_1) fun (r5_1, r5_2) =>
    msg_reader_many_3.lp2 fu n_ (w64 (l2_0 - 1)) r5_2 r5_1)
    (some (l2_1, l2_2)))
   (some (l2_1, l2_2))
def msg_reader_many_3.lp2_post (r_ : (TReader × TMsg)) : Wy → St → Prop := fun e τ => match r_ with
  | (y0, y1) => e = .exit 0 ∧ τ = ofL [Ob 1000 [sS 1 e_u8 y0.b, bv y0.bad], Ob 1001 (TMsg.ob_00000000010000000000011 y1), Ob 1002 [.ptr 1000 0]]
theorem msg_reader_many_3.lp2_ok (fu : Nat) : ∀ (n_ : Nat) (l2_0 : Int) (l2_1 : TReader) (l2_2 : TMsg) (r_ : (TReader × TMsg)), msg_reader_many_3.lp2 fu n_ l2_0 l2_1 l2_2 = some r_ → WK Try.prog msg_reader_many_3.O (Ck Try.prog) (cB (cR bd54)) [] (ofL [Tm 0 (.ptr 1000 0), Tm 1 (.fn (.func 59) [] [.ptr 1001 0, .ptr 1002 0]), Tm 4 (iv l2_0), Ob 1000 [sS 1 e_u8 l2_1.b, bv l2_1.bad], Ob 1001 (TMsg.ob_00000000010000000000011 l2_2), Ob 1002 [.ptr 1000 0]]) (msg_reader_many_3.lp2_post r_) := by
 intro n_
 induction n_ with
 | zero => intro l2_0 l2_1 l2_2 r_ h; exact no_none h
 | succ n_ ih =>
  intro l2_0 l2_1 l2_2 r_ h
  refine kLp ?_
  refine kSq ?_
  rcases br_inv h with ⟨b3_1, h⟩ | ⟨b3_1, h⟩
  ·refine kRs 63 [Tm 15 (bv (!l2_1.bad))] (rp 6 (.b true) []) (.r 6 b3_1 .n) ?_
   rcases br_inv h with ⟨b4_0, h⟩ | ⟨b4_0, h⟩
   ·refine kCt b4_0 ?_
    refine kSk ?_
    refine kCd (cR (cB (cB (cR bd54)))) [.lp (cB (cR bd54))] ?_
    refine kSq ?_
    refine kBk 1 ?_
    obtain ⟨⟨r5_1, r5_2⟩, h5_3, h⟩ := bd_inv h
    refine kRc 78 [Ob 1000 [sS 1 e_u8 r5_2.b, bv r5_2.bad], Ob 1001 (TMsg.ob_00000000010000000000011 r5_1)] [.a ⟨.tup [], [(TMsg.ob_00000000010000000000011 r5_1), [.ptr 1002 0], [sS 1 e_u8 r5_2.b, bv r5_2.bad]]⟩] (.c (Asks.of (C := Meets Try.prog) (msg_Take_3.meets fu l2_2 l2_1 _ _ h5_3)) .n) (cR (cR (cB (cB (cR bd54))))) [.lp (cB (cR bd54))] ?_
    refine kRc 47 [Tm 4 (iv (w64 (l2_0 - 1)))] [] .n (cB (cR bd54)) [] ?_
    exact kWk (ih (w64 (l2_0 - 1)) r5_2 r5_1 _ h)
   ·refine kCe b4_0 ?_
    cases some_inj h
    refine kWo ?_
    refine kXt 0 ?_
    exact kOut
  ·refine kRs 63 [Tm 15 (bv false)] (rp 6 (.b false) []) (.r 6 b3_1 .n) ?_
   refine kCe rF ?_
   cases some_inj h
   refine kWo ?_
   refine kXt 0 ?_
   exact kOut
def msg_reader_many_3 (fu : Nat) (o0_v : TReader) (o1_v : TMsg) : Option (TReader × TMsg) :=
 bd (msg_reader_num fu o0_v) fun (r1_1, r1_2) =>
 bd (msg_reader_many_3.lp2 fu fu r1_1 r1_2 o1_v) fun (y7_0, y7_1) =>
 some (y7_0, y7_1)
theorem msg_reader_many_3.meets (fu : Nat) (o0_v : TReader) (o1_v : TMsg) (z0 : TReader) (z1 : TMsg) (h : msg_reader_many_3 fu o0_v o1_v = some (z0, z1)) : Meets Try.prog ⟨54, [.ptr 1000 0, .fn (.func 59) [] [.ptr 1001 0, .ptr 1002 0]], [[sS 1 e_u8 o0_v.b, bv o0_v.bad], (TMsg.ob_00000000010000000000011 o1_v), [.ptr 1000 0]]⟩ ⟨.tup [], [[sS 1 e_u8 z0.b, bv z0.bad], (TMsg.ob_00000000010000000000011 z1), [.ptr 1000 0]]⟩ := by
 refine kMt hmix msg_reader_many_3.O Try.f54 bd54 31 ?_
 unfold msg_reader_many_3 at h
 obtain ⟨⟨r1_1, r1_2⟩, h1_3, h⟩ := bd_inv h
 refine kRs 27 [Tm 4 (iv r1_1), Ob 1000 [sS 1 e_u8 r1_2.b, bv r1_2.bad]] [.a ⟨iv r1_1, [[sS 1 e_u8 r1_2.b, bv r1_2.bad]]⟩] (.c (Asks.of (C := Meets Try.prog) (msg_reader_num.meets fu o0_v _ _ h1_3)) .n) ?_
 refine kBk 0 ?_
 obtain ⟨o7, ho7, h⟩ := bd_inv h
 refine kUs (msg_reader_many_3.lp2_ok fu _ r1_1 r1_2 o1_v _ ho7) ?_
 intro e_ τ_ hp_
 obtain ⟨y7_0, y7_1⟩ := o7
 obtain ⟨rfl, rfl⟩ := hp_
 have h_0 := some_inj h
 obtain ⟨g_1, h_1⟩ := Prod.mk.inj h_0
 subst g_1
 subst h_1
 exact kFn
def bd16 : Code := (Try.f16.body).getD .skip
def msg_Take.O : Nat → Nat := fun t => bif ([2, 3, 4, 5, 8, 11, 20, 29, 37, 41, 50, 53, 55, 57, 68, 86, 87] : List Nat).any (Nat.beq t) then 1 else 0
def msg_Take.lp5 (fu : Nat) (l5_0 : List Int) (l5_1 : Int) (l5_3 : TMsg) : Nat → Int → TMsg → TReader → Option (TMsg × TReader)
  | 0, _, _, _ => none
  | n_ + 1, l5_2, l5_4, l5_5 =>
  br (decide (l5_2 < l5_1))
   (br (l5_2 == 0)
    (bd (msg_reader_num fu l5_5) fun (r9_1, r9_2) =>
    msg_Take.lp5 fu l5_0 l5_1 l5_3 n_ (w64 (l5_2 + 1)) (TMsg.mk l5_4.Kind l5_4.From l5_4.To l5_4.Part r9_1 l5_4.Index l5_4.LogTerm l5_4.Commit l5_4.OK l5_4.Entries l5_4.T l5_4.Session l5_4.Seq l5_4.Pos l5_4.Shard l5_4.Span l5_4.FromKey l5_4.ToKey l5_4.Keys l5_4.Got l5_4.Err) r9_2)
    (br (l5_2 == 1)
     (bd (msg_reader_num fu l5_5) fun (r11_1, r11_2) =>
     msg_Take.lp5 fu l5_0 l5_1 l5_3 n_ (w64 (l5_2 + 1)) (TMsg.mk l5_4.Kind l5_4.From l5_4.To l5_4.Part l5_4.Term r11_1 l5_4.LogTerm l5_4.Commit l5_4.OK l5_4.Entries l5_4.T l5_4.Session l5_4.Seq l5_4.Pos l5_4.Shard l5_4.Span l5_4.FromKey l5_4.ToKey l5_4.Keys l5_4.Got l5_4.Err) r11_2)
     (br (l5_2 == 2)
      (bd (msg_reader_num fu l5_5) fun (r13_1, r13_2) =>
      msg_Take.lp5 fu l5_0 l5_1 l5_3 n_ (w64 (l5_2 + 1)) (TMsg.mk l5_4.Kind l5_4.From l5_4.To l5_4.Part l5_4.Term l5_4.Index r13_1 l5_4.Commit l5_4.OK l5_4.Entries l5_4.T l5_4.Session l5_4.Seq l5_4.Pos l5_4.Shard l5_4.Span l5_4.FromKey l5_4.ToKey l5_4.Keys l5_4.Got l5_4.Err) r13_2)
      (br (l5_2 == 3)
       (bd (msg_reader_num fu l5_5) fun (r15_1, r15_2) =>
       msg_Take.lp5 fu l5_0 l5_1 l5_3 n_ (w64 (l5_2 + 1)) (TMsg.mk l5_4.Kind l5_4.From l5_4.To l5_4.Part l5_4.Term l5_4.Index l5_4.LogTerm r15_1 l5_4.OK l5_4.Entries l5_4.T l5_4.Session l5_4.Seq l5_4.Pos l5_4.Shard l5_4.Span l5_4.FromKey l5_4.ToKey l5_4.Keys l5_4.Got l5_4.Err) r15_2)
       (br (l5_2 == 4)
        (bd (msg_reader_num fu l5_5) fun (r17_1, r17_2) =>
        msg_Take.lp5 fu l5_0 l5_1 l5_3 n_ (w64 (l5_2 + 1)) (TMsg.mk l5_4.Kind l5_4.From l5_4.To l5_4.Part l5_4.Term l5_4.Index l5_4.LogTerm l5_4.Commit l5_4.OK l5_4.Entries l5_4.T r17_1 l5_4.Seq l5_4.Pos l5_4.Shard l5_4.Span l5_4.FromKey l5_4.ToKey l5_4.Keys l5_4.Got l5_4.Err) r17_2)
        (br (l5_2 == 5)
         (bd (msg_reader_num fu l5_5) fun (r19_1, r19_2) =>
         msg_Take.lp5 fu l5_0 l5_1 l5_3 n_ (w64 (l5_2 + 1)) (TMsg.mk l5_4.Kind l5_4.From l5_4.To l5_4.Part l5_4.Term l5_4.Index l5_4.LogTerm l5_4.Commit l5_4.OK l5_4.Entries l5_4.T l5_4.Session r19_1 l5_4.Pos l5_4.Shard l5_4.Span l5_4.FromKey l5_4.ToKey l5_4.Keys l5_4.Got l5_4.Err) r19_2)
         (br (l5_2 == 6)
          (bd (msg_reader_num fu l5_5) fun (r21_1, r21_2) =>
          msg_Take.lp5 fu l5_0 l5_1 l5_3 n_ (w64 (l5_2 + 1)) (TMsg.mk l5_4.Kind l5_4.From l5_4.To l5_4.Part l5_4.Term l5_4.Index l5_4.LogTerm l5_4.Commit l5_4.OK l5_4.Entries l5_4.T l5_4.Session l5_4.Seq r21_1 l5_4.Shard l5_4.Span l5_4.FromKey l5_4.ToKey l5_4.Keys l5_4.Got l5_4.Err) r21_2)
          (br (l5_2 == 7)
           (bd (msg_reader_num fu l5_5) fun (r23_1, r23_2) =>
           msg_Take.lp5 fu l5_0 l5_1 l5_3 n_ (w64 (l5_2 + 1)) (TMsg.mk l5_4.Kind l5_4.From l5_4.To l5_4.Part l5_4.Term l5_4.Index l5_4.LogTerm l5_4.Commit l5_4.OK l5_4.Entries l5_4.T l5_4.Session l5_4.Seq l5_4.Pos r23_1 l5_4.Span l5_4.FromKey l5_4.ToKey l5_4.Keys l5_4.Got l5_4.Err) r23_2)
           (none)))))))))
   (some (l5_4, l5_5))
def msg_Take.lp5_post (l5_0 : List Int) (l5_1 : Int) (l5_3 : TMsg) (r_ : (TMsg × TReader)) : Wy → St → Prop := fun e τ => match r_ with
  | (y0, y1) => e = .exit 0 ∧ τ = ofL [Tm 0 (sS 1 e_u8 l5_0), Tm 2 (.ptr 2 0), Tm 4 (.ptr 4 0), Tm 5 (.ptr 5 0), Ob 2 (TMsg.ob_00000000010011000000011 l5_3), Ob 4 [.ptr 11 0], Ob 5 (TMsg.ob_00000000010011000000011 y0), Ob 11 [sS 1 e_u8 y1.b, bv y1.bad]]
theorem msg_Take.lp5_ok (fu : Nat) (l5_0 : List Int) (l5_1 : Int) (l5_3 : TMsg) : ∀ (n_ : Nat) (l5_2 : Int) (l5_4 : TMsg) (l5_5 : TReader) (r_ : (TMsg × TReader)), msg_Take.lp5 fu l5_0 l5_1 l5_3 n_ l5_2 l5_4 l5_5 = some r_ → WK Try.prog msg_Take.O (Ck Try.prog) (cB (cR (cL (cR (cR (cR bd16)))))) [] (ofL [Tm 0 (sS 1 e_u8 l5_0), Tm 2 (.ptr 2 0), Tm 4 (.ptr 4 0), Tm 5 (.ptr 5 0), Tm 29 (.orow 29 8), Tm 30 (iv l5_1), Tm 31 (iv l5_2), Ob 2 (TMsg.ob_00000000010011000000011 l5_3), Ob 4 [.ptr 11 0], Ob 5 (TMsg.ob_00000000010011000000011 l5_4), Ob 11 [sS 1 e_u8 l5_5.b, bv l5_5.bad], Ob 29 [.ptr 5 4, .ptr 5 5, .ptr 5 6, .ptr 5 7, .ptr 5 14, .ptr 5 15, .ptr 5 16, .ptr 5 17]]) (msg_Take.lp5_post l5_0 l5_1 l5_3 r_) := by
 intro n_
 induction n_ with
 | zero => intro l5_2 l5_4 l5_5 r_ h; exact no_none h
 | succ n_ ih =>
  intro l5_2 l5_4 l5_5 r_ h
  refine kLp ?_
  refine kRs 4095 [Tm 32 (bv (decide (l5_2 < l5_1)))] [] .n ?_
  refine kSq ?_
  rcases br_inv h with ⟨b7_0, h⟩ | ⟨b7_0, h⟩
  ·refine kCt b7_0 ?_
   refine kSk ?_
   refine kCd (cR (cR (cB (cB (cR (cL (cR (cR (cR bd16))))))))) [.lp (cB (cR (cL (cR (cR (cR bd16))))))] ?_
   refine kSq ?_
   refine kBk 1 ?_
   rcases br_inv h with ⟨b8_1, h⟩ | ⟨b8_1, h⟩
   ·refine kRs 8190 [Tm 7 (.ptr 5 4)] [.i 0] (.c (c_ib (j := 0) (n := 8) b8_1 (Eq.refl true)) (.c (c_ii (j := 0) b8_1) .n)) ?_
    obtain ⟨⟨r9_1, r9_2⟩, h9_3, h⟩ := bd_inv h
    refine kRc 5118 [Ob 5 (TMsg.ob_00000000010011000000011 (TMsg.mk l5_4.Kind l5_4.From l5_4.To l5_4.Part r9_1 l5_4.Index l5_4.LogTerm l5_4.Commit l5_4.OK l5_4.Entries l5_4.T l5_4.Session l5_4.Seq l5_4.Pos l5_4.Shard l5_4.Span l5_4.FromKey l5_4.ToKey l5_4.Keys l5_4.Got l5_4.Err)), Ob 11 [sS 1 e_u8 r9_2.b, bv r9_2.bad]] [.a ⟨iv r9_1, [[sS 1 e_u8 r9_2.b, bv r9_2.bad]]⟩] (.c (Asks.of (C := Meets Try.prog) (msg_reader_num.meets fu l5_5 _ _ h9_3)) .n) (cR (cR (cR (cB (cB (cR (cL (cR (cR (cR bd16)))))))))) [.lp (cB (cR (cL (cR (cR (cR bd16))))))] ?_
    refine kRc 3839 [Tm 31 (iv (w64 (l5_2 + 1)))] [] .n (cB (cR (cL (cR (cR (cR bd16)))))) [] ?_
    exact kWk (ih (w64 (l5_2 + 1)) (TMsg.mk l5_4.Kind l5_4.From l5_4.To l5_4.Part r9_1 l5_4.Index l5_4.LogTerm l5_4.Commit l5_4.OK l5_4.Entries l5_4.T l5_4.Session l5_4.Seq l5_4.Pos l5_4.Shard l5_4.Span l5_4.FromKey l5_4.ToKey l5_4.Keys l5_4.Got l5_4.Err) r9_2 _ h)
   ·rcases br_inv h with ⟨b8_2, h⟩ | ⟨b8_2, h⟩
    ·refine kRs 8190 [Tm 7 (.ptr 5 5)] [.i 1] (.c (c_ib (j := 1) (n := 8) b8_2 (Eq.refl true)) (.c (c_ii (j := 1) b8_2) .n)) ?_
     obtain ⟨⟨r11_1, r11_2⟩, h11_3, h⟩ := bd_inv h
     refine kRc 5118 [Ob 5 (TMsg.ob_00000000010011000000011 (TMsg.mk l5_4.Kind l5_4.From l5_4.To l5_4.Part l5_4.Term r11_1 l5_4.LogTerm l5_4.Commit l5_4.OK l5_4.Entries l5_4.T l5_4.Session l5_4.Seq l5_4.Pos l5_4.Shard l5_4.Span l5_4.FromKey l5_4.ToKey l5_4.Keys l5_4.Got l5_4.Err)), Ob 11 [sS 1 e_u8 r11_2.b, bv r11_2.bad]] [.a ⟨iv r11_1, [[sS 1 e_u8 r11_2.b, bv r11_2.bad]]⟩] (.c (Asks.of (C := Meets Try.prog) (msg_reader_num.meets fu l5_5 _ _ h11_3)) .n) (cR (cR (cR (cB (cB (cR (cL (cR (cR (cR bd16)))))))))) [.lp (cB (cR (cL (cR (cR (cR bd16))))))] ?_
     refine kRc 3839 [Tm 31 (iv (w64 (l5_2 + 1)))] [] .n (cB (cR (cL (cR (cR (cR bd16)))))) [] ?_
     exact kWk (ih (w64 (l5_2 + 1)) (TMsg.mk l5_4.Kind l5_4.From l5_4.To l5_4.Part l5_4.Term r11_1 l5_4.LogTerm l5_4.Commit l5_4.OK l5_4.Entries l5_4.T l5_4.Session l5_4.Seq l5_4.Pos l5_4.Shard l5_4.Span l5_4.FromKey l5_4.ToKey l5_4.Keys l5_4.Got l5_4.Err) r11_2 _ h)
    ·rcases br_inv h with ⟨b8_3, h⟩ | ⟨b8_3, h⟩
     ·refine kRs 8190 [Tm 7 (.ptr 5 6)] [.i 2] (.c (c_ib (j := 2) (n := 8) b8_3 (Eq.refl true)) (.c (c_ii (j := 2) b8_3) .n)) ?_
      obtain ⟨⟨r13_1, r13_2⟩, h13_3, h⟩ := bd_inv h
      refine kRc 5118 [Ob 5 (TMsg.ob_00000000010011000000011 (TMsg.mk l5_4.Kind l5_4.From l5_4.To l5_4.Part l5_4.Term l5_4.Index r13_1 l5_4.Commit l5_4.OK l5_4.Entries l5_4.T l5_4.Session l5_4.Seq l5_4.Pos l5_4.Shard l5_4.Span l5_4.FromKey l5_4.ToKey l5_4.Keys l5_4.Got l5_4.Err)), Ob 11 [sS 1 e_u8 r13_2.b, bv r13_2.bad]] [.a ⟨iv r13_1, [[sS 1 e_u8 r13_2.b, bv r13_2.bad]]⟩] (.c (Asks.of (C := Meets Try.prog) (msg_reader_num.meets fu l5_5 _ _ h13_3)) .n) (cR (cR (cR (cB (cB (cR (cL (cR (cR (cR bd16)))))))))) [.lp (cB (cR (cL (cR (cR (cR bd16))))))] ?_
      refine kRc 3839 [Tm 31 (iv (w64 (l5_2 + 1)))] [] .n (cB (cR (cL (cR (cR (cR bd16)))))) [] ?_
      exact kWk (ih (w64 (l5_2 + 1)) (TMsg.mk l5_4.Kind l5_4.From l5_4.To l5_4.Part l5_4.Term l5_4.Index r13_1 l5_4.Commit l5_4.OK l5_4.Entries l5_4.T l5_4.Session l5_4.Seq l5_4.Pos l5_4.Shard l5_4.Span l5_4.FromKey l5_4.ToKey l5_4.Keys l5_4.Got l5_4.Err) r13_2 _ h)
     ·rcases br_inv h with ⟨b8_4, h⟩ | ⟨b8_4, h⟩
      ·refine kRs 8190 [Tm 7 (.ptr 5 7)] [.i 3] (.c (c_ib (j := 3) (n := 8) b8_4 (Eq.refl true)) (.c (c_ii (j := 3) b8_4) .n)) ?_
       obtain ⟨⟨r15_1, r15_2⟩, h15_3, h⟩ := bd_inv h
       refine kRc 5118 [Ob 5 (TMsg.ob_00000000010011000000011 (TMsg.mk l5_4.Kind l5_4.From l5_4.To l5_4.Part l5_4.Term l5_4.Index l5_4.LogTerm r15_1 l5_4.OK l5_4.Entries l5_4.T l5_4.Session l5_4.Seq l5_4.Pos l5_4.Shard l5_4.Span l5_4.FromKey l5_4.ToKey l5_4.Keys l5_4.Got l5_4.Err)), Ob 11 [sS 1 e_u8 r15_2.b, bv r15_2.bad]] [.a ⟨iv r15_1, [[sS 1 e_u8 r15_2.b, bv r15_2.bad]]⟩] (.c (Asks.of (C := Meets Try.prog) (msg_reader_num.meets fu l5_5 _ _ h15_3)) .n) (cR (cR (cR (cB (cB (cR (cL (cR (cR (cR bd16)))))))))) [.lp (cB (cR (cL (cR (cR (cR bd16))))))] ?_
       refine kRc 3839 [Tm 31 (iv (w64 (l5_2 + 1)))] [] .n (cB (cR (cL (cR (cR (cR bd16)))))) [] ?_
       exact kWk (ih (w64 (l5_2 + 1)) (TMsg.mk l5_4.Kind l5_4.From l5_4.To l5_4.Part l5_4.Term l5_4.Index l5_4.LogTerm r15_1 l5_4.OK l5_4.Entries l5_4.T l5_4.Session l5_4.Seq l5_4.Pos l5_4.Shard l5_4.Span l5_4.FromKey l5_4.ToKey l5_4.Keys l5_4.Got l5_4.Err) r15_2 _ h)
      ·rcases br_inv h with ⟨b8_5, h⟩ | ⟨b8_5, h⟩
       ·refine kRs 8190 [Tm 7 (.ptr 5 14)] [.i 4] (.c (c_ib (j := 4) (n := 8) b8_5 (Eq.refl true)) (.c (c_ii (j := 4) b8_5) .n)) ?_
        obtain ⟨⟨r17_1, r17_2⟩, h17_3, h⟩ := bd_inv h
        refine kRc 5118 [Ob 5 (TMsg.ob_00000000010011000000011 (TMsg.mk l5_4.Kind l5_4.From l5_4.To l5_4.Part l5_4.Term l5_4.Index l5_4.LogTerm l5_4.Commit l5_4.OK l5_4.Entries l5_4.T r17_1 l5_4.Seq l5_4.Pos l5_4.Shard l5_4.Span l5_4.FromKey l5_4.ToKey l5_4.Keys l5_4.Got l5_4.Err)), Ob 11 [sS 1 e_u8 r17_2.b, bv r17_2.bad]] [.a ⟨iv r17_1, [[sS 1 e_u8 r17_2.b, bv r17_2.bad]]⟩] (.c (Asks.of (C := Meets Try.prog) (msg_reader_num.meets fu l5_5 _ _ h17_3)) .n) (cR (cR (cR (cB (cB (cR (cL (cR (cR (cR bd16)))))))))) [.lp (cB (cR (cL (cR (cR (cR bd16))))))] ?_
        refine kRc 3839 [Tm 31 (iv (w64 (l5_2 + 1)))] [] .n (cB (cR (cL (cR (cR (cR bd16)))))) [] ?_
        exact kWk (ih (w64 (l5_2 + 1)) (TMsg.mk l5_4.Kind l5_4.From l5_4.To l5_4.Part l5_4.Term l5_4.Index l5_4.LogTerm l5_4.Commit l5_4.OK l5_4.Entries l5_4.T r17_1 l5_4.Seq l5_4.Pos l5_4.Shard l5_4.Span l5_4.FromKey l5_4.ToKey l5_4.Keys l5_4.Got l5_4.Err) r17_2 _ h)
       ·rcases br_inv h with ⟨b8_6, h⟩ | ⟨b8_6, h⟩
        ·refine kRs 8190 [Tm 7 (.ptr 5 15)] [.i 5] (.c (c_ib (j := 5) (n := 8) b8_6 (Eq.refl true)) (.c (c_ii (j := 5) b8_6) .n)) ?_
         obtain ⟨⟨r19_1, r19_2⟩, h19_3, h⟩ := bd_inv h
         refine kRc 5118 [Ob 5 (TMsg.ob_00000000010011000000011 (TMsg.mk l5_4.Kind l5_4.From l5_4.To l5_4.Part l5_4.Term l5_4.Index l5_4.LogTerm l5_4.Commit l5_4.OK l5_4.Entries l5_4.T l5_4.Session r19_1 l5_4.Pos l5_4.Shard l5_4.Span l5_4.FromKey l5_4.ToKey l5_4.Keys l5_4.Got l5_4.Err)), Ob 11 [sS 1 e_u8 r19_2.b, bv r19_2.bad]] [.a ⟨iv r19_1, [[sS 1 e_u8 r19_2.b, bv r19_2.bad]]⟩] (.c (Asks.of (C := Meets Try.prog) (msg_reader_num.meets fu l5_5 _ _ h19_3)) .n) (cR (cR (cR (cB (cB (cR (cL (cR (cR (cR bd16)))))))))) [.lp (cB (cR (cL (cR (cR (cR bd16))))))] ?_
         refine kRc 3839 [Tm 31 (iv (w64 (l5_2 + 1)))] [] .n (cB (cR (cL (cR (cR (cR bd16)))))) [] ?_
         exact kWk (ih (w64 (l5_2 + 1)) (TMsg.mk l5_4.Kind l5_4.From l5_4.To l5_4.Part l5_4.Term l5_4.Index l5_4.LogTerm l5_4.Commit l5_4.OK l5_4.Entries l5_4.T l5_4.Session r19_1 l5_4.Pos l5_4.Shard l5_4.Span l5_4.FromKey l5_4.ToKey l5_4.Keys l5_4.Got l5_4.Err) r19_2 _ h)
        ·rcases br_inv h with ⟨b8_7, h⟩ | ⟨b8_7, h⟩
         ·refine kRs 8190 [Tm 7 (.ptr 5 16)] [.i 6] (.c (c_ib (j := 6) (n := 8) b8_7 (Eq.refl true)) (.c (c_ii (j := 6) b8_7) .n)) ?_
          obtain ⟨⟨r21_1, r21_2⟩, h21_3, h⟩ := bd_inv h
          refine kRc 5118 [Ob 5 (TMsg.ob_00000000010011000000011 (TMsg.mk l5_4.Kind l5_4.From l5_4.To l5_4.Part l5_4.Term l5_4.Index l5_4.LogTerm l5_4.Commit l5_4.OK l5_4.Entries l5_4.T l5_4.Session l5_4.Seq r21_1 l5_4.Shard l5_4.Span l5_4.FromKey l5_4.ToKey l5_4.Keys l5_4.Got l5_4.Err)), Ob 11 [sS 1 e_u8 r21_2.b, bv r21_2.bad]] [.a ⟨iv r21_1, [[sS 1 e_u8 r21_2.b, bv r21_2.bad]]⟩] (.c (Asks.of (C := Meets Try.prog) (msg_reader_num.meets fu l5_5 _ _ h21_3)) .n) (cR (cR (cR (cB (cB (cR (cL (cR (cR (cR bd16)))))))))) [.lp (cB (cR (cL (cR (cR (cR bd16))))))] ?_
          refine kRc 3839 [Tm 31 (iv (w64 (l5_2 + 1)))] [] .n (cB (cR (cL (cR (cR (cR bd16)))))) [] ?_
          exact kWk (ih (w64 (l5_2 + 1)) (TMsg.mk l5_4.Kind l5_4.From l5_4.To l5_4.Part l5_4.Term l5_4.Index l5_4.LogTerm l5_4.Commit l5_4.OK l5_4.Entries l5_4.T l5_4.Session l5_4.Seq r21_1 l5_4.Shard l5_4.Span l5_4.FromKey l5_4.ToKey l5_4.Keys l5_4.Got l5_4.Err) r21_2 _ h)
         ·rcases br_inv h with ⟨b8_8, h⟩ | ⟨b8_8, h⟩
          ·refine kRs 8190 [Tm 7 (.ptr 5 17)] [.i 7] (.c (c_ib (j := 7) (n := 8) b8_8 (Eq.refl true)) (.c (c_ii (j := 7) b8_8) .n)) ?_
           obtain ⟨⟨r23_1, r23_2⟩, h23_3, h⟩ := bd_inv h
           refine kRc 5118 [Ob 5 (TMsg.ob_00000000010011000000011 (TMsg.mk l5_4.Kind l5_4.From l5_4.To l5_4.Part l5_4.Term l5_4.Index l5_4.LogTerm l5_4.Commit l5_4.OK l5_4.Entries l5_4.T l5_4.Session l5_4.Seq l5_4.Pos r23_1 l5_4.Span l5_4.FromKey l5_4.ToKey l5_4.Keys l5_4.Got l5_4.Err)), Ob 11 [sS 1 e_u8 r23_2.b, bv r23_2.bad]] [.a ⟨iv r23_1, [[sS 1 e_u8 r23_2.b, bv r23_2.bad]]⟩] (.c (Asks.of (C := Meets Try.prog) (msg_reader_num.meets fu l5_5 _ _ h23_3)) .n) (cR (cR (cR (cB (cB (cR (cL (cR (cR (cR bd16)))))))))) [.lp (cB (cR (cL (cR (cR (cR bd16))))))] ?_
           refine kRc 3839 [Tm 31 (iv (w64 (l5_2 + 1)))] [] .n (cB (cR (cL (cR (cR (cR bd16)))))) [] ?_
           exact kWk (ih (w64 (l5_2 + 1)) (TMsg.mk l5_4.Kind l5_4.From l5_4.To l5_4.Part l5_4.Term l5_4.Index l5_4.LogTerm l5_4.Commit l5_4.OK l5_4.Entries l5_4.T l5_4.Session l5_4.Seq l5_4.Pos r23_1 l5_4.Span l5_4.FromKey l5_4.ToKey l5_4.Keys l5_4.Got l5_4.Err) r23_2 _ h)
          ·exact no_none h
  ·refine kCe b7_0 ?_
   cases some_inj h
   refine kWo ?_
   refine kXt 0 ?_
   exact kOut
def msg_Take (fu : Nat) (b : List Int) : Option (TMsg × Bool) :=
 bd (msg_reader_num fu (TReader.mk b false)) fun (r3_1, r3_2) =>
 bd (msg_reader_num fu r3_2) fun (r3_4, r3_5) =>
 bd (msg_reader_num fu r3_5) fun (r3_7, r3_8) =>
 bd (msg_reader_num fu r3_8) fun (r3_10, r3_11) =>
 bd (msg_Take.lp5 fu b 8 (TMsg.mk 0 0 0 0 0 0 0 0 false [] (TTxn.mk 0 0 [] []) 0 0 0 0 false ByteArray.empty ByteArray.empty [] [] 0) fu 0 (TMsg.mk r3_1 r3_4 r3_7 r3_10 0 0 0 0 false [] (TTxn.mk 0 0 [] []) 0 0 0 0 false ByteArray.empty ByteArray.empty [] [] 0) r3_11) fun (y25_0, y25_1) =>
 bd (msg_reader_flag fu y25_1) fun (r26_1, r26_2) =>
 bd (msg_reader_many fu r26_2 (TMsg.mk y25_0.Kind y25_0.From y25_0.To y25_0.Part y25_0.Term y25_0.Index y25_0.LogTerm y25_0.Commit r26_1 y25_0.Entries y25_0.T y25_0.Session y25_0.Seq y25_0.Pos y25_0.Shard y25_0.Span y25_0.FromKey y25_0.ToKey y25_0.Keys y25_0.Got y25_0.Err)) fun (r27_1, r27_2) =>
 jn (fun (j31_2 : TMsg) (j31_3 : TReader) =>
  bd (msg_reader_flag fu j31_3) fun (r32_1, r32_2) =>
  bd (msg_reader_text fu r32_2) fun (r32_4, r32_5) =>
  bd (msg_reader_text fu r32_5) fun (r32_7, r32_8) =>
  bd (msg_reader_many_2 fu r32_8 (TMsg.mk j31_2.Kind j31_2.From j31_2.To j31_2.Part j31_2.Term j31_2.Index j31_2.LogTerm j31_2.Commit j31_2.OK j31_2.Entries j31_2.T j31_2.Session j31_2.Seq j31_2.Pos j31_2.Shard r32_1 r32_4 r32_7 j31_2.Keys j31_2.Got j31_2.Err)) fun (r33_1, r33_2) =>
  bd (msg_reader_many_3 fu r33_1 r33_2) fun (r34_1, r34_2) =>
  bd (msg_reader_num fu r34_1) fun (r35_1, r35_2) =>
  bd (msg_Put fu (TMsg.mk r34_2.Kind r34_2.From r34_2.To r34_2.Part r34_2.Term r34_2.Index r34_2.LogTerm r34_2.Commit r34_2.OK r34_2.Entries r34_2.T r34_2.Session r34_2.Seq r34_2.Pos r34_2.Shard r34_2.Span r34_2.FromKey r34_2.ToKey r34_2.Keys r34_2.Got r35_1)) fun r36_1 =>
  br r35_2.bad
   (some ((TMsg.mk 0 0 0 0 0 0 0 0 false [] (TTxn.mk 0 0 [] []) 0 0 0 0 false ByteArray.empty ByteArray.empty [] [] 0), false))
   (br r36_1.isEmpty
    (some ((TMsg.mk 0 0 0 0 0 0 0 0 false [] (TTxn.mk 0 0 [] []) 0 0 0 0 false ByteArray.empty ByteArray.empty [] [] 0), false))
    (bd (bytes_Equal r36_1 b) fun r37_3 =>
    br (!r37_3)
     (some ((TMsg.mk 0 0 0 0 0 0 0 0 false [] (TTxn.mk 0 0 [] []) 0 0 0 0 false ByteArray.empty ByteArray.empty [] [] 0), false))
     (some ((TMsg.mk r34_2.Kind r34_2.From r34_2.To r34_2.Part r34_2.Term r34_2.Index r34_2.LogTerm r34_2.Commit r34_2.OK r34_2.Entries r34_2.T r34_2.Session r34_2.Seq r34_2.Pos r34_2.Shard r34_2.Span r34_2.FromKey r34_2.ToKey r34_2.Keys r34_2.Got r35_1), true))))) fun k31 =>
 br (r27_2.Kind == 5)
  (bd (msg_reader_txn fu r27_1) fun (r30_1, r30_2) =>
  k31 (TMsg.mk r27_2.Kind r27_2.From r27_2.To r27_2.Part r27_2.Term r27_2.Index r27_2.LogTerm r27_2.Commit r27_2.OK r27_2.Entries r30_1 r27_2.Session r27_2.Seq r27_2.Pos r27_2.Shard r27_2.Span r27_2.FromKey r27_2.ToKey r27_2.Keys r27_2.Got r27_2.Err) r30_2)
  (k31 r27_2 r27_1)
theorem msg_Take.meets (fu : Nat) (b : List Int) (z0 : TMsg) (z1 : Bool) (h : msg_Take fu b = some (z0, z1)) : Meets Try.prog ⟨16, [sS 1 e_u8 b], []⟩ ⟨.tup [.data (TMsg.ag z0), bv z1], []⟩ := by
 refine kMt hmix msg_Take.O Try.f16 bd16 1 ?_
 unfold msg_Take at h
 refine kRs 1 [Tm 2 (.ptr 2 0), Ob 2 (TMsg.ob_00000000010011000000011 (TMsg.mk 0 0 0 0 0 0 0 0 false [] (TTxn.mk 0 0 [] []) 0 0 0 0 false ByteArray.empty ByteArray.empty [] [] 0))] [] .n ?_
 refine kRs 7 [Tm 4 (.ptr 4 0), Ob 4 [.ptr 11 0], Ob 11 [sS 1 e_u8 b, bv false]] [] .n ?_
 obtain ⟨⟨r3_1, r3_2⟩, h3_3, h⟩ := bd_inv h
 obtain ⟨⟨r3_4, r3_5⟩, h3_6, h⟩ := bd_inv h
 obtain ⟨⟨r3_7, r3_8⟩, h3_9, h⟩ := bd_inv h
 obtain ⟨⟨r3_10, r3_11⟩, h3_12, h⟩ := bd_inv h
 refine kRs 59 [Tm 5 (.ptr 5 0), Ob 5 (TMsg.ob_00000000010011000000011 (TMsg.mk r3_1 r3_4 r3_7 r3_10 0 0 0 0 false [] (TTxn.mk 0 0 [] []) 0 0 0 0 false ByteArray.empty ByteArray.empty [] [] 0)), Ob 11 [sS 1 e_u8 r3_11.b, bv r3_11.bad]] [.a ⟨iv r3_1, [[sS 1 e_u8 r3_2.b, bv r3_2.bad]]⟩, .a ⟨iv r3_4, [[sS 1 e_u8 r3_5.b, bv r3_5.bad]]⟩, .a ⟨iv r3_7, [[sS 1 e_u8 r3_8.b, bv r3_8.bad]]⟩, .a ⟨iv r3_10, [[sS 1 e_u8 r3_11.b, bv r3_11.bad]]⟩] (.c (Asks.of (C := Meets Try.prog) (msg_reader_num.meets fu (TReader.mk b false) _ _ h3_3)) (.c (Asks.of (C := Meets Try.prog) (msg_reader_num.meets fu r3_2 _ _ h3_6)) (.c (Asks.of (C := Meets Try.prog) (msg_reader_num.meets fu r3_5 _ _ h3_9)) (.c (Asks.of (C := Meets Try.prog) (msg_reader_num.meets fu r3_8 _ _ h3_12)) (.c rT .n))))) ?_
 refine kSq ?_
 refine kRs 255 [Tm 29 (.orow 29 8), Tm 30 (iv 8), Tm 31 (iv 0), Ob 29 [.ptr 5 4, .ptr 5 5, .ptr 5 6, .ptr 5 7, .ptr 5 14, .ptr 5 15, .ptr 5 16, .ptr 5 17]] [] .n ?_
 refine kBk 0 ?_
 obtain ⟨o25, ho25, h⟩ := bd_inv h
 refine kUs (msg_Take.lp5_ok fu b 8 (TMsg.mk 0 0 0 0 0 0 0 0 false [] (TTxn.mk 0 0 [] []) 0 0 0 0 false ByteArray.empty ByteArray.empty [] [] 0) _ 0 (TMsg.mk r3_1 r3_4 r3_7 r3_10 0 0 0 0 false [] (TTxn.mk 0 0 [] []) 0 0 0 0 false ByteArray.empty ByteArray.empty [] [] 0) r3_11 _ ho25) ?_
 intro e_ τ_ hp_
 obtain ⟨y25_0, y25_1⟩ := o25
 obtain ⟨rfl, rfl⟩ := hp_
 refine kCd (cR (cR (cR (cR bd16)))) [] ?_
 obtain ⟨⟨r26_1, r26_2⟩, h26_3, h⟩ := bd_inv h
 refine kRs 63 [Ob 5 (TMsg.ob_00000000010011000000011 (TMsg.mk y25_0.Kind y25_0.From y25_0.To y25_0.Part y25_0.Term y25_0.Index y25_0.LogTerm y25_0.Commit r26_1 y25_0.Entries y25_0.T y25_0.Session y25_0.Seq y25_0.Pos y25_0.Shard y25_0.Span y25_0.FromKey y25_0.ToKey y25_0.Keys y25_0.Got y25_0.Err)), Ob 11 [sS 1 e_u8 r26_2.b, bv r26_2.bad]] [.a ⟨bv r26_1, [[sS 1 e_u8 r26_2.b, bv r26_2.bad]]⟩] (.c (Asks.of (C := Meets Try.prog) (msg_reader_flag.meets fu y25_1 _ _ h26_3)) .n) ?_
 obtain ⟨⟨r27_1, r27_2⟩, h27_3, h⟩ := bd_inv h
 refine kRs 252 [Ob 5 (TMsg.ob_00000000010011000000011 r27_2), Ob 11 [sS 1 e_u8 r27_1.b, bv r27_1.bad]] [.a ⟨.tup [], [[sS 1 e_u8 r27_1.b, bv r27_1.bad], [.ptr 1000 0], (TMsg.ob_00000000010011000000011 r27_2)]⟩] (.c (Asks.of (C := Meets Try.prog) (msg_reader_many.meets fu r26_2 (TMsg.mk y25_0.Kind y25_0.From y25_0.To y25_0.Part y25_0.Term y25_0.Index y25_0.LogTerm y25_0.Commit r26_1 y25_0.Entries y25_0.T y25_0.Session y25_0.Seq y25_0.Pos y25_0.Shard y25_0.Span y25_0.FromKey y25_0.ToKey y25_0.Keys y25_0.Got y25_0.Err) _ _ h27_3)) .n) ?_
 obtain ⟨k31, hk31, h⟩ := jn_inv h
 have Jk31 : ∀ (j31_2 : TMsg) (j31_3 : TReader), k31 j31_2 j31_3 = some (z0, z1) → WK Try.prog msg_Take.O (Ck Try.prog) (cR (cR (cR (cR (cR (cR (cR bd16))))))) [] (ofL [Tm 0 (sS 1 e_u8 b), Tm 2 (.ptr 2 0), Tm 4 (.ptr 4 0), Tm 5 (.ptr 5 0), Ob 2 (TMsg.ob_00000000010011000000011 (TMsg.mk 0 0 0 0 0 0 0 0 false [] (TTxn.mk 0 0 [] []) 0 0 0 0 false ByteArray.empty ByteArray.empty [] [] 0)), Ob 4 [.ptr 11 0], Ob 5 (TMsg.ob_00000000010000000000011 j31_2), Ob 11 [sS 1 e_u8 j31_3.b, bv j31_3.bad]]) (Fin Try.prog msg_Take.O Try.f16 0 ⟨.tup [.data (TMsg.ag z0), bv z1], []⟩) := by
  intro j31_2 j31_3 h
  rw [hk31] at h
  obtain ⟨⟨r32_1, r32_2⟩, h32_3, h⟩ := bd_inv h
  obtain ⟨⟨r32_4, r32_5⟩, h32_6, h⟩ := bd_inv h
  obtain ⟨⟨r32_7, r32_8⟩, h32_9, h⟩ := bd_inv h
  refine kRs 63 [Ob 5 (TMsg.ob_00000000010000000000011 (TMsg.mk j31_2.Kind j31_2.From j31_2.To j31_2.Part j31_2.Term j31_2.Index j31_2.LogTerm j31_2.Commit j31_2.OK j31_2.Entries j31_2.T j31_2.Session j31_2.Seq j31_2.Pos j31_2.Shard r32_1 r32_4 r32_7 j31_2.Keys j31_2.Got j31_2.Err)), Ob 11 [sS 1 e_u8 r32_8.b, bv r32_8.bad]] [.a ⟨bv r32_1, [[sS 1 e_u8 r32_2.b, bv r32_2.bad]]⟩, .a ⟨sv r32_4, [[sS 1 e_u8 r32_5.b, bv r32_5.bad]]⟩, .a ⟨sv r32_7, [[sS 1 e_u8 r32_8.b, bv r32_8.bad]]⟩] (.c (Asks.of (C := Meets Try.prog) (msg_reader_flag.meets fu j31_3 _ _ h32_3)) (.c (Asks.of (C := Meets Try.prog) (msg_reader_text.meets fu r32_2 _ _ h32_6)) (.c (Asks.of (C := Meets Try.prog) (msg_reader_text.meets fu r32_5 _ _ h32_9)) (.c rT .n)))) ?_
  obtain ⟨⟨r33_1, r33_2⟩, h33_3, h⟩ := bd_inv h
  refine kRs 252 [Ob 5 (TMsg.ob_00000000010000000000011 r33_2), Ob 11 [sS 1 e_u8 r33_1.b, bv r33_1.bad]] [.a ⟨.tup [], [[sS 1 e_u8 r33_1.b, bv r33_1.bad], (TMsg.ob_00000000010000000000011 r33_2), [.ptr 1000 0]]⟩] (.c (Asks.of (C := Meets Try.prog) (msg_reader_many_2.meets fu r32_8 (TMsg.mk j31_2.Kind j31_2.From j31_2.To j31_2.Part j31_2.Term j31_2.Index j31_2.LogTerm j31_2.Commit j31_2.OK j31_2.Entries j31_2.T j31_2.Session j31_2.Seq j31_2.Pos j31_2.Shard r32_1 r32_4 r32_7 j31_2.Keys j31_2.Got j31_2.Err) _ _ h33_3)) .n) ?_
  obtain ⟨⟨r34_1, r34_2⟩, h34_3, h⟩ := bd_inv h
  refine kRs 252 [Ob 5 (TMsg.ob_00000000010000000000011 r34_2), Ob 11 [sS 1 e_u8 r34_1.b, bv r34_1.bad]] [.a ⟨.tup [], [[sS 1 e_u8 r34_1.b, bv r34_1.bad], (TMsg.ob_00000000010000000000011 r34_2), [.ptr 1000 0]]⟩] (.c (Asks.of (C := Meets Try.prog) (msg_reader_many_3.meets fu r33_1 r33_2 _ _ h34_3)) .n) ?_
  obtain ⟨⟨r35_1, r35_2⟩, h35_3, h⟩ := bd_inv h
  refine kRs 252 [Ob 5 (TMsg.ob_00000000010000000000011 (TMsg.mk r34_2.Kind r34_2.From r34_2.To r34_2.Part r34_2.Term r34_2.Index r34_2.LogTerm r34_2.Commit r34_2.OK r34_2.Entries r34_2.T r34_2.Session r34_2.Seq r34_2.Pos r34_2.Shard r34_2.Span r34_2.FromKey r34_2.ToKey r34_2.Keys r34_2.Got r35_1)), Ob 11 [sS 1 e_u8 r35_2.b, bv r35_2.bad]] [.a ⟨iv r35_1, [[sS 1 e_u8 r35_2.b, bv r35_2.bad]]⟩] (.c (Asks.of (C := Meets Try.prog) (msg_reader_num.meets fu r34_1 _ _ h35_3)) .n) ?_
  refine kSq ?_
  obtain ⟨r36_1, h36_2, h⟩ := bd_inv h
  refine kRs 254 [Tm 8 (.data (.slc true (some r36_1.isEmpty) 1 (List.map e_u8 r36_1))), Ob 5 (TMsg.ob (TMsg.mk r34_2.Kind r34_2.From r34_2.To r34_2.Part r34_2.Term r34_2.Index r34_2.LogTerm r34_2.Commit r34_2.OK r34_2.Entries r34_2.T r34_2.Session r34_2.Seq r34_2.Pos r34_2.Shard r34_2.Span r34_2.FromKey r34_2.ToKey r34_2.Keys r34_2.Got r35_1))] [.a ⟨.data (.slc true (some r36_1.isEmpty) 1 (List.map e_u8 r36_1)), []⟩] (.c (Asks.of (C := Meets Try.prog) (msg_Put.meets fu (TMsg.mk r34_2.Kind r34_2.From r34_2.To r34_2.Part r34_2.Term r34_2.Index r34_2.LogTerm r34_2.Commit r34_2.OK r34_2.Entries r34_2.T r34_2.Session r34_2.Seq r34_2.Pos r34_2.Shard r34_2.Span r34_2.FromKey r34_2.ToKey r34_2.Keys r34_2.Got r35_1) _ h36_2)) .n) ?_
  rcases br_inv h with ⟨b37_1, h⟩ | ⟨b37_1, h⟩
  ·refine kRs 210 [Tm 85 (bv true)] (rp 8 (.b true) []) (.r 3 b37_1 (.r 5 rT .n)) ?_
   refine kCt rT ?_
   refine kRs 20 [Tm 3 (bv false)] [] .n ?_
   refine kRt ?_
   have h_0 := some_inj h
   obtain ⟨g_1, h_1⟩ := Prod.mk.inj h_0
   subst g_1
   subst h_1
   exact kFr
  ·rcases br_inv h with ⟨b37_2, h⟩ | ⟨b37_2, h⟩
   ·refine kRs 210 [Tm 85 (bv true)] (.b false :: (.b false :: (.b false :: (rp 5 (.b true) [])))) (.r 3 b37_1 (.r 5 b37_2 .n)) ?_
    refine kCt rT ?_
    refine kRs 20 [Tm 3 (bv false)] [] .n ?_
    refine kRt ?_
    have h_0 := some_inj h
    obtain ⟨g_1, h_1⟩ := Prod.mk.inj h_0
    subst g_1
    subst h_1
    exact kFr
   ·obtain ⟨r37_3, h37_4, h⟩ := bd_inv h
    refine kRs 210 [Tm 85 (bv (!r37_3))] (rp 6 (.b false) [.a ⟨bv r37_3, []⟩, .b false, .b false]) (.r 3 b37_1 (.r 3 b37_2 (.c (Asks.fg (args1 := []) (args2 := [sS 1 e_u8 b]) (nl := some r36_1.isEmpty) (sz := 1) (es := List.map e_u8 r36_1) (Asks.of (C := Meets Try.prog) (bytes_Equal.meets r36_1 b _ h37_4))) (.r 2 b37_2 .n)))) ?_
    rcases br_inv h with ⟨b40_0, h⟩ | ⟨b40_0, h⟩
    ·refine kCt b40_0 ?_
     refine kRs 20 [Tm 3 (bv false)] [] .n ?_
     refine kRt ?_
     have h_0 := some_inj h
     obtain ⟨g_1, h_1⟩ := Prod.mk.inj h_0
     subst g_1
     subst h_1
     exact kFr
    ·refine kCe b40_0 ?_
     refine kSk ?_
     refine kCd (cR (cR (cR (cR (cR (cR (cR (cR (cR (cR (cR (cR bd16)))))))))))) [] ?_
     refine kRs 4 [Tm 3 (bv true), Ob 2 (TMsg.ob (TMsg.mk r34_2.Kind r34_2.From r34_2.To r34_2.Part r34_2.Term r34_2.Index r34_2.LogTerm r34_2.Commit r34_2.OK r34_2.Entries r34_2.T r34_2.Session r34_2.Seq r34_2.Pos r34_2.Shard r34_2.Span r34_2.FromKey r34_2.ToKey r34_2.Keys r34_2.Got r35_1))] [] .n ?_
     refine kRt ?_
     have h_0 := some_inj h
     obtain ⟨g_1, h_1⟩ := Prod.mk.inj h_0
     subst g_1
     subst h_1
     exact kFr
 clear hk31
 refine kSq ?_
 refine kRs 255 [Tm 48 (bv (r27_2.Kind == 5))] [] .n ?_
 rcases br_inv h with ⟨b29_0, h⟩ | ⟨b29_0, h⟩
 ·refine kCt b29_0 ?_
  obtain ⟨⟨r30_1, r30_2⟩, h30_3, h⟩ := bd_inv h
  refine kRc 504 [Ob 5 (TMsg.ob_00000000010000000000011 (TMsg.mk r27_2.Kind r27_2.From r27_2.To r27_2.Part r27_2.Term r27_2.Index r27_2.LogTerm r27_2.Commit r27_2.OK r27_2.Entries r30_1 r27_2.Session r27_2.Seq r27_2.Pos r27_2.Shard r27_2.Span r27_2.FromKey r27_2.ToKey r27_2.Keys r27_2.Got r27_2.Err)), Ob 11 [sS 1 e_u8 r30_2.b, bv r30_2.bad]] [.a ⟨.data (TTxn.ag r30_1), [[sS 1 e_u8 r30_2.b, bv r30_2.bad]]⟩] (.c (Asks.of (C := Meets Try.prog) (msg_reader_txn.meets fu r27_1 _ _ h30_3)) .n) (cR (cR (cR (cR (cR (cR (cR bd16))))))) [] ?_
  exact kWk (Jk31 (TMsg.mk r27_2.Kind r27_2.From r27_2.To r27_2.Part r27_2.Term r27_2.Index r27_2.LogTerm r27_2.Commit r27_2.OK r27_2.Entries r30_1 r27_2.Session r27_2.Seq r27_2.Pos r27_2.Shard r27_2.Span r27_2.FromKey r27_2.ToKey r27_2.Keys r27_2.Got r27_2.Err) r30_2 h)
 ·refine kCe b29_0 ?_
  refine kSk ?_
  refine kCd (cR (cR (cR (cR (cR (cR (cR bd16))))))) [] ?_
  refine kSo 5 12 508 [Ob 5 (TMsg.ob_00000000010001000000011 r27_2)] ?_
  refine kSo 5 13 254 [Ob 5 (TMsg.ob_00000000010000000000011 r27_2)] ?_
  exact kWk (Jk31 r27_2 r27_1 h)
def bd7 : Code := (Try.f7.body).getD .skip
def diwanlaw6_begun.O : Nat → Nat := fun t => bif ([0, 1, 2, 3, 4, 5, 6, 7, 13, 17, 39] : List Nat).any (Nat.beq t) then 1 else 0
def diwanlaw6_begun (fu : Nat) : Option Bool :=
 bd (msg_Put fu (TMsg.mk 1 1 2 0 3 4 2 0 false [] (TTxn.mk 0 0 [] []) 0 0 0 0 false ByteArray.empty ByteArray.empty [] [] 0)) fun r3_1 =>
 bd (msg_Take fu r3_1) fun (r4_1, r4_2) =>
 bd (msg_Take fu []) fun (r5_1, r5_2) =>
 bd (msg_May fu (TMsg.mk 1 1 2 0 3 4 2 0 false [] (TTxn.mk 0 0 [] []) 0 0 0 0 false ByteArray.empty ByteArray.empty [] [] 0)) fun r6_1 =>
 br r6_1
  (br (decide ((r3_1.length : Int) > 0))
   (br r4_2
    (bd (msg_Same fu r4_1 (TMsg.mk 1 1 2 0 3 4 2 0 false [] (TTxn.mk 0 0 [] []) 0 0 0 0 false ByteArray.empty ByteArray.empty [] [] 0)) fun r6_6 =>
    br r6_6
     (br (!r5_2)
      (bd (msg_May fu (TMsg.mk 0 0 0 0 0 0 0 0 false [] (TTxn.mk 0 0 [] []) 0 0 0 0 false ByteArray.empty ByteArray.empty [] [] 0)) fun r6_10 =>
      some (!r6_10))
      (some false))
     (some false))
    (some false))
   (some false))
  (some false)
theorem diwanlaw6_begun.meets (fu : Nat) (z0 : Bool) (h : diwanlaw6_begun fu = some z0) : Meets Try.prog ⟨7, [], []⟩ ⟨bv z0, []⟩ := by
 refine kMt hmix diwanlaw6_begun.O Try.f7 bd7 0 ?_
 unfold diwanlaw6_begun at h
 refine kRs 0 [] [] .n ?_
 refine kRs 0 [Tm 1 (.ptr 1 0), Ob 1 (TMsg.ob_00000000010011000000011 (TMsg.mk 1 1 2 0 3 4 2 0 false [] (TTxn.mk 0 0 [] []) 0 0 0 0 false ByteArray.empty ByteArray.empty [] [] 0))] [] .n ?_
 obtain ⟨r3_1, h3_2, h⟩ := bd_inv h
 refine kRs 1 [Tm 2 (.data (.slc true (some r3_1.isEmpty) 1 (List.map e_u8 r3_1))), Ob 1 (TMsg.ob (TMsg.mk 1 1 2 0 3 4 2 0 false [] (TTxn.mk 0 0 [] []) 0 0 0 0 false ByteArray.empty ByteArray.empty [] [] 0))] [.a ⟨.data (.slc true (some r3_1.isEmpty) 1 (List.map e_u8 r3_1)), []⟩] (.c (Asks.of (C := Meets Try.prog) (msg_Put.meets fu (TMsg.mk 1 1 2 0 3 4 2 0 false [] (TTxn.mk 0 0 [] []) 0 0 0 0 false ByteArray.empty ByteArray.empty [] [] 0) _ h3_2)) .n) ?_
 obtain ⟨⟨r4_1, r4_2⟩, h4_3, h⟩ := bd_inv h
 refine kRs 6 [Tm 2 (.data (.slc false (some r3_1.isEmpty) 1 (List.map e_u8 r3_1))), Tm 3 (.ptr 3 0), Tm 4 (bv r4_2), Ob 3 (TMsg.ob r4_1)] [.a ⟨.tup [.data (TMsg.ag r4_1), bv r4_2], []⟩] (.c (Asks.fg (args1 := []) (args2 := []) (nl := some r3_1.isEmpty) (sz := 1) (es := List.map e_u8 r3_1) (Asks.of (C := Meets Try.prog) (msg_Take.meets fu r3_1 _ _ h4_3))) .n) ?_
 obtain ⟨⟨r5_1, r5_2⟩, h5_3, h⟩ := bd_inv h
 refine kRs 63 [Tm 6 (bv r5_2)] [.a ⟨.tup [.data (TMsg.ag r5_1), bv r5_2], []⟩] (.c (Asks.fg (args1 := []) (args2 := []) (nl := some true) (sz := 1) (es := List.map e_u8 []) (Asks.of (C := Meets Try.prog) (msg_Take.meets fu [] _ _ h5_3))) .n) ?_
 obtain ⟨r6_1, h6_2, h⟩ := bd_inv h
 rcases br_inv h with ⟨b6_3, h⟩ | ⟨b6_3, h⟩
 ·rcases br_inv h with ⟨b6_4, h⟩ | ⟨b6_4, h⟩
  ·rcases br_inv h with ⟨b6_5, h⟩ | ⟨b6_5, h⟩
   ·obtain ⟨r6_6, h6_7, h⟩ := bd_inv h
    rcases br_inv h with ⟨b6_8, h⟩ | ⟨b6_8, h⟩
    ·rcases br_inv h with ⟨b6_9, h⟩ | ⟨b6_9, h⟩
     ·obtain ⟨r6_10, h6_11, h⟩ := bd_inv h
      refine kRs 0 [Tm 0 (bv (!r6_10))] (.a ⟨bv r6_1, []⟩ :: (.b true :: (.b true :: (.s (.t 23) [iv (r3_1.length : Int)] :: (rp 7 (.b true) (.a ⟨bv r6_6, []⟩ :: (rp 6 (.b true) [.a ⟨bv r6_10, []⟩, .b true, .b true]))))))) (.c (Asks.of (C := Meets Try.prog) (msg_May.meets fu (TMsg.mk 1 1 2 0 3 4 2 0 false [] (TTxn.mk 0 0 [] []) 0 0 0 0 false ByteArray.empty ByteArray.empty [] [] 0) _ h6_2)) (.r 2 b6_3 (.c (c_len (e := e_u8) (l := r3_1)) (.r 2 b6_3 (.r 2 b6_4 (.r 3 b6_5 (.c (Asks.of (C := Meets Try.prog) (msg_Same.meets fu r4_1 (TMsg.mk 1 1 2 0 3 4 2 0 false [] (TTxn.mk 0 0 [] []) 0 0 0 0 false ByteArray.empty ByteArray.empty [] [] 0) _ h6_7)) (.c b6_5 (.r 3 b6_8 (.r 2 b6_9 (.c (Asks.of (C := Meets Try.prog) (msg_May.meets fu (TMsg.mk 0 0 0 0 0 0 0 0 false [] (TTxn.mk 0 0 [] []) 0 0 0 0 false ByteArray.empty ByteArray.empty [] [] 0) _ h6_11)) (.r 2 b6_9 .n)))))))))))) ?_
      refine kRt ?_
      have h_ := some_inj h
      subst h_
      exact kFr
     ·refine kRs 0 [Tm 0 (bv false)] (.a ⟨bv r6_1, []⟩ :: (.b true :: (.b true :: (.s (.t 23) [iv (r3_1.length : Int)] :: (rp 7 (.b true) (.a ⟨bv r6_6, []⟩ :: (rp 4 (.b true) (rp 4 (.b false) [])))))))) (.c (Asks.of (C := Meets Try.prog) (msg_May.meets fu (TMsg.mk 1 1 2 0 3 4 2 0 false [] (TTxn.mk 0 0 [] []) 0 0 0 0 false ByteArray.empty ByteArray.empty [] [] 0) _ h6_2)) (.r 2 b6_3 (.c (c_len (e := e_u8) (l := r3_1)) (.r 2 b6_3 (.r 2 b6_4 (.r 3 b6_5 (.c (Asks.of (C := Meets Try.prog) (msg_Same.meets fu r4_1 (TMsg.mk 1 1 2 0 3 4 2 0 false [] (TTxn.mk 0 0 [] []) 0 0 0 0 false ByteArray.empty ByteArray.empty [] [] 0) _ h6_7)) (.c b6_5 (.r 3 b6_8 (.r 4 b6_9 .n)))))))))) ?_
      refine kRt ?_
      have h_ := some_inj h
      subst h_
      exact kFr
    ·refine kRs 0 [Tm 0 (bv false)] (.a ⟨bv r6_1, []⟩ :: (.b true :: (.b true :: (.s (.t 23) [iv (r3_1.length : Int)] :: (rp 7 (.b true) (.a ⟨bv r6_6, []⟩ :: (.b true :: (rp 7 (.b false) [])))))))) (.c (Asks.of (C := Meets Try.prog) (msg_May.meets fu (TMsg.mk 1 1 2 0 3 4 2 0 false [] (TTxn.mk 0 0 [] []) 0 0 0 0 false ByteArray.empty ByteArray.empty [] [] 0) _ h6_2)) (.r 2 b6_3 (.c (c_len (e := e_u8) (l := r3_1)) (.r 2 b6_3 (.r 2 b6_4 (.r 3 b6_5 (.c (Asks.of (C := Meets Try.prog) (msg_Same.meets fu r4_1 (TMsg.mk 1 1 2 0 3 4 2 0 false [] (TTxn.mk 0 0 [] []) 0 0 0 0 false ByteArray.empty ByteArray.empty [] [] 0) _ h6_7)) (.c b6_5 (.r 3 b6_8 (.r 4 rF .n)))))))))) ?_
     refine kRt ?_
     have h_ := some_inj h
     subst h_
     exact kFr
   ·refine kRs 0 [Tm 0 (bv false)] (.a ⟨bv r6_1, []⟩ :: (.b true :: (.b true :: (.s (.t 23) [iv (r3_1.length : Int)] :: (rp 4 (.b true) (rp 11 (.b false) [])))))) (.c (Asks.of (C := Meets Try.prog) (msg_May.meets fu (TMsg.mk 1 1 2 0 3 4 2 0 false [] (TTxn.mk 0 0 [] []) 0 0 0 0 false ByteArray.empty ByteArray.empty [] [] 0) _ h6_2)) (.r 2 b6_3 (.c (c_len (e := e_u8) (l := r3_1)) (.r 2 b6_3 (.r 2 b6_4 (.r 4 b6_5 (.r 7 rF .n))))))) ?_
    refine kRt ?_
    have h_ := some_inj h
    subst h_
    exact kFr
  ·refine kRs 0 [Tm 0 (bv false)] (.a ⟨bv r6_1, []⟩ :: (.b true :: (.b true :: (.s (.t 23) [iv (r3_1.length : Int)] :: (.b true :: (.b true :: (rp 13 (.b false) []))))))) (.c (Asks.of (C := Meets Try.prog) (msg_May.meets fu (TMsg.mk 1 1 2 0 3 4 2 0 false [] (TTxn.mk 0 0 [] []) 0 0 0 0 false ByteArray.empty ByteArray.empty [] [] 0) _ h6_2)) (.r 2 b6_3 (.c (c_len (e := e_u8) (l := r3_1)) (.r 2 b6_3 (.r 2 b6_4 (.r 11 rF .n)))))) ?_
   refine kRt ?_
   have h_ := some_inj h
   subst h_
   exact kFr
 ·refine kRs 0 [Tm 0 (bv false)] (.a ⟨bv r6_1, []⟩ :: (rp 17 (.b false) [])) (.c (Asks.of (C := Meets Try.prog) (msg_May.meets fu (TMsg.mk 1 1 2 0 3 4 2 0 false [] (TTxn.mk 0 0 [] []) 0 0 0 0 false ByteArray.empty ByteArray.empty [] [] 0) _ h6_2)) (.r 4 b6_3 (.r 13 rF .n))) ?_
  refine kRt ?_
  have h_ := some_inj h
  subst h_
  exact kFr
def bd15 : Code := (Try.f15.body).getD .skip
def diwanlaw0_Lent.O : Nat → Nat := fun t => bif ([2, 3, 4, 5, 9, 21] : List Nat).any (Nat.beq t) then 1 else bif ([39] : List Nat).any (Nat.beq t) then 7 else 0
def diwanlaw0_Lent.lp4 (fu : Nat) (l4_0 : List Int) : Nat → (List Int) → Int → Option (List Int)
  | 0, _, _ => none
  | n_ + 1, l4_1, l4_2 =>
  br (decide (l4_2 < (l4_1.length : Int)))
   (ix l4_1 l4_2 fun x7_1 =>
   diwanlaw0_Lent.lp4 fu l4_0 n_ (l4_1.set l4_2.toNat (w8 (w64 (85 + (Int.tmod l4_2 5))))) (w64 (l4_2 + 1)))
   (some l4_1)
def diwanlaw0_Lent.lp4_post (l4_0 : List Int) (r_ : (List Int)) : Wy → St → Prop := fun e τ => match r_ with
  | y0 => e = .exit 0 ∧ τ = ofL [Tm 0 (sS 1 e_u8 l4_0), Tm 3 (.data (.slc true (some false) 1 (List.map e_u8 y0)))]
theorem diwanlaw0_Lent.lp4_ok (fu : Nat) (l4_0 : List Int) : ∀ (n_ : Nat) (l4_1 : List Int) (l4_2 : Int) (r_ : (List Int)), diwanlaw0_Lent.lp4 fu l4_0 n_ l4_1 l4_2 = some r_ → WK Try.prog diwanlaw0_Lent.O (Ck Try.prog) (cB (cR (cL (cR (cR bd15))))) [] (ofL [Tm 0 (sS 1 e_u8 l4_0), Tm 3 (.data (.slc true (some false) 1 (List.map e_u8 l4_1))), Tm 4 (iv l4_2)]) (diwanlaw0_Lent.lp4_post l4_0 r_) := by
 intro n_
 induction n_ with
 | zero => intro l4_1 l4_2 r_ h; exact no_none h
 | succ n_ ih =>
  intro l4_1 l4_2 r_ h
  refine kLp ?_
  refine kSq ?_
  refine kRs 7 [Tm 13 (bv (decide (l4_2 < (l4_1.length : Int))))] [.s (.t 12) [iv (l4_1.length : Int)]] (.c (c_len (e := e_u8) (l := l4_1)) .n) ?_
  rcases br_inv h with ⟨b6_0, h⟩ | ⟨b6_0, h⟩
  ·refine kCt b6_0 ?_
   refine kSk ?_
   refine kCd (cR (cB (cB (cR (cL (cR (cR bd15))))))) [.lp (cB (cR (cL (cR (cR bd15)))))] ?_
   refine kSq ?_
   refine kBk 1 ?_
   obtain ⟨x7_1, a7_2, e7_3, h⟩ := ix_inv h
   refine kRc 10 [Tm 3 (.data (.slc true (some false) 1 (List.map e_u8 (l4_1.set l4_2.toNat (w8 (w64 (85 + (Int.tmod l4_2 5))))))))] [.c (e_u8 x7_1), .s (.t 3) [.data (.slc true (some false) 1 (List.map e_u8 (l4_1.set l4_2.toNat (w8 (w64 (85 + (Int.tmod l4_2 5)))))))]] (.c rT (.c (c_ix (e := e_u8) a7_2 e7_3) (.c (c_el (e := e_u8) e7_3) (.c (congrArg (fun d : DV => [AV.data d]) (c_set (e := e_u8) (s := 1) (nl := (some false)) (l := l4_1) (i := l4_2.toNat) (x := (w8 (w64 (85 + (Int.tmod l4_2 5))))))) .n)))) (cR (cR (cB (cB (cR (cL (cR (cR bd15)))))))) [.lp (cB (cR (cL (cR (cR bd15)))))] ?_
   refine kRc 3 [Tm 4 (iv (w64 (l4_2 + 1)))] [] .n (cB (cR (cL (cR (cR bd15))))) [] ?_
   exact kWk (ih (l4_1.set l4_2.toNat (w8 (w64 (85 + (Int.tmod l4_2 5))))) (w64 (l4_2 + 1)) _ h)
  ·refine kCe b6_0 ?_
   cases some_inj h
   refine kWo ?_
   refine kXt 0 ?_
   exact kOut
def diwanlaw0_Lent.lp11 (fu : Nat) (l11_0 : List Int) : Nat → (List Int) → Int → Option (List Int)
  | 0, _, _ => none
  | n_ + 1, l11_1, l11_2 =>
  br (decide (l11_2 < (l11_0.length : Int)))
   (ix l11_0 l11_2 fun x14_1 =>
   ix l11_1 l11_2 fun x14_4 =>
   diwanlaw0_Lent.lp11 fu l11_0 n_ (l11_1.set l11_2.toNat x14_1) (w64 (l11_2 + 1)))
   (some l11_1)
def diwanlaw0_Lent.lp11_post (l11_0 : List Int) (r_ : (List Int)) : Wy → St → Prop := fun e τ => match r_ with
  | y0 => e = .exit 2 ∧ τ = ofL [Tm 0 (sS 1 e_u8 l11_0), Tm 3 (.data (.slc true (some false) 1 (List.map e_u8 y0)))]
theorem diwanlaw0_Lent.lp11_ok (fu : Nat) (l11_0 : List Int) : ∀ (n_ : Nat) (l11_1 : List Int) (l11_2 : Int) (r_ : (List Int)), diwanlaw0_Lent.lp11 fu l11_0 n_ l11_1 l11_2 = some r_ → WK Try.prog diwanlaw0_Lent.O (Ck Try.prog) (cB (cR (cL (cR (cR (cR bd15)))))) [] (ofL [Tm 0 (sS 1 e_u8 l11_0), Tm 3 (.data (.slc true (some false) 1 (List.map e_u8 l11_1))), Tm 5 (iv l11_2)]) (diwanlaw0_Lent.lp11_post l11_0 r_) := by
 intro n_
 induction n_ with
 | zero => intro l11_1 l11_2 r_ h; exact no_none h
 | succ n_ ih =>
  intro l11_1 l11_2 r_ h
  refine kLp ?_
  refine kSq ?_
  refine kRs 7 [Tm 26 (bv (decide (l11_2 < (l11_0.length : Int))))] [.s (.t 25) [iv (l11_0.length : Int)]] (.c (c_len (e := e_u8) (l := l11_0)) .n) ?_
  rcases br_inv h with ⟨b13_0, h⟩ | ⟨b13_0, h⟩
  ·refine kCt b13_0 ?_
   refine kSk ?_
   refine kCd (cR (cB (cB (cR (cL (cR (cR (cR bd15)))))))) [.lp (cB (cR (cL (cR (cR (cR bd15))))))] ?_
   refine kSq ?_
   refine kBk 3 ?_
   obtain ⟨x14_1, a14_2, e14_3, h⟩ := ix_inv h
   obtain ⟨x14_4, a14_5, e14_6, h⟩ := ix_inv h
   refine kRc 10 [Tm 3 (.data (.slc true (some false) 1 (List.map e_u8 (l11_1.set l11_2.toNat x14_1))))] [.c (e_u8 x14_1), .c (e_u8 x14_4), .s (.t 3) [.data (.slc true (some false) 1 (List.map e_u8 (l11_1.set l11_2.toNat x14_1)))]] (.c (c_ix (e := e_u8) a14_2 e14_3) (.c (c_el (e := e_u8) e14_3) (.c (c_ix (e := e_u8) a14_5 e14_6) (.c (c_el (e := e_u8) e14_6) (.c (congrArg (fun d : DV => [AV.data d]) (c_set (e := e_u8) (s := 1) (nl := (some false)) (l := l11_1) (i := l11_2.toNat) (x := x14_1))) .n))))) (cR (cR (cB (cB (cR (cL (cR (cR (cR bd15))))))))) [.lp (cB (cR (cL (cR (cR (cR bd15))))))] ?_
   refine kRc 3 [Tm 5 (iv (w64 (l11_2 + 1)))] [] .n (cB (cR (cL (cR (cR (cR bd15)))))) [] ?_
   exact kWk (ih (l11_1.set l11_2.toNat x14_1) (w64 (l11_2 + 1)) _ h)
  ·refine kCe b13_0 ?_
   cases some_inj h
   refine kWo ?_
   refine kXt 2 ?_
   exact kOut
def diwanlaw0_Lent (fu : Nat) (b : List Int) : Option (Nat × List Int) :=
 gd (decide ((0 : Int) ≤ (w64 ((b.length : Int) + 6)) ∧ (w64 ((b.length : Int) + 6)) ≤ (w64 ((b.length : Int) + 6)) ∧ (w64 ((b.length : Int) + 6)) ≤ 4294967296)) <|
 bd (diwanlaw0_Lent.lp4 fu b fu (List.replicate (w64 ((b.length : Int) + 6)).toNat (0 : Int)) 0) fun y9_0 =>
 bd (diwanlaw0_Lent.lp11 fu b fu y9_0 0) fun y16_0 =>
 gd (decide ((0 : Int) ≤ (b.length : Int) ∧ (b.length : Int) ≤ (y16_0.length : Int))) <|
 gd (!y16_0.isEmpty) <|
 some ((b.length : Int).toNat, y16_0)
theorem diwanlaw0_Lent.meets (fu : Nat) (b : List Int) (z0 : Nat) (z1 : List Int) (h : diwanlaw0_Lent fu b = some (z0, z1)) : Meets Try.prog ⟨15, [sS 1 e_u8 b], []⟩ ⟨.data (.rm z0 1 (List.map e_u8 z1)), []⟩ := by
 refine kMt hmix diwanlaw0_Lent.O Try.f15 bd15 1 ?_
 unfold diwanlaw0_Lent at h
 refine kRs 1 [] [] .n ?_
 obtain ⟨c2_1, h⟩ := gd_inv h
 refine kRs 1 [Tm 3 (.data (.slc true (some false) 1 (List.map e_u8 (List.replicate (w64 ((b.length : Int) + 6)).toNat (0 : Int)))))] [.s (.t 7) [iv (b.length : Int)], .s (.t 9) [.data (.slc true (some false) 1 (List.map e_u8 (List.replicate (w64 ((b.length : Int) + 6)).toNat (0 : Int))))]] (.c (c_len (e := e_u8) (l := b)) (.c c2_1 (.c (congrArg (fun d : DV => [AV.data d]) (c_rep (e := e_u8) (s := 1) (n := (w64 ((b.length : Int) + 6)).toNat) (x := 0))) .n))) ?_
 refine kSq ?_
 refine kRs 3 [Tm 4 (iv 0)] [] .n ?_
 refine kBk 0 ?_
 obtain ⟨o9, ho9, h⟩ := bd_inv h
 refine kUs (diwanlaw0_Lent.lp4_ok fu b _ (List.replicate (w64 ((b.length : Int) + 6)).toNat (0 : Int)) 0 _ ho9) ?_
 intro e_ τ_ hp_
 obtain ⟨y9_0, rfl⟩ : ∃ y, y = o9 := ⟨_, rfl⟩
 obtain ⟨rfl, rfl⟩ := hp_
 refine kCd (cR (cR (cR bd15))) [] ?_
 refine kSq ?_
 refine kRs 3 [Tm 5 (iv 0)] [] .n ?_
 refine kBk 2 ?_
 obtain ⟨o16, ho16, h⟩ := bd_inv h
 refine kUs (diwanlaw0_Lent.lp11_ok fu b _ y9_0 0 _ ho16) ?_
 intro e_ τ_ hp_
 obtain ⟨y16_0, rfl⟩ : ∃ y, y = o16 := ⟨_, rfl⟩
 obtain ⟨rfl, rfl⟩ := hp_
 refine kCd (cR (cR (cR (cR bd15)))) [] ?_
 obtain ⟨c17_1, h⟩ := gd_inv h
 obtain ⟨c17_2, h⟩ := gd_inv h
 refine kRs 0 [Tm 2 (.data (.rm ((b.length : Int).toNat) 1 (List.map e_u8 y16_0)))] [.s (.t 38) [iv (b.length : Int)]] (.c (c_len (e := e_u8) (l := b)) (.c (c_cbH (e := e_u8) c17_1) (.c (c_ne (e := e_u8) c17_2) .n))) ?_
 refine kRt ?_
 have h_0 := some_inj h
 obtain ⟨g_1, h_1⟩ := Prod.mk.inj h_0
 subst g_1
 subst h_1
 exact kFr
def bd51 : Code := (Try.f51.body).getD .skip
def diwanref1_SameReads.O : Nat → Nat := fun t => bif ([4, 5] : List Nat).any (Nat.beq t) then 1 else 0
def diwanref1_SameReads.lp6 (fu : Nat) (l6_0 : List TRead) (l6_1 : List TRead) : Nat → Int → Option (Unit ⊕ Unit)
  | 0, _ => none
  | n_ + 1, l6_2 =>
  br (decide (l6_2 < (l6_0.length : Int)))
   (ix l6_0 l6_2 fun x9_1 =>
   ix l6_1 l6_2 fun x9_4 =>
   br (!((x9_1.Key.toList == x9_4.Key.toList) && ((x9_1.Version == x9_4.Version) && ((x9_1.Val.toList == x9_4.Val.toList) && ((x9_1.There == x9_4.There) && true)))))
    (some (.inr ()))
    (diwanref1_SameReads.lp6 fu l6_0 l6_1 n_ (w64 (l6_2 + 1))))
   (some (.inl ()))
def diwanref1_SameReads.lp6_post (l6_0 : List TRead) (l6_1 : List TRead) (r_ : (Unit ⊕ Unit)) : Wy → St → Prop := fun e τ => match r_ with
  | .inl _ => e = .exit 0 ∧ τ = ofL []
  | .inr _ => e = .ret ∧ τ = ofL [Tm 4 (bv false)]
theorem diwanref1_SameReads.lp6_ok (fu : Nat) (l6_0 : List TRead) (l6_1 : List TRead) : ∀ (n_ : Nat) (l6_2 : Int) (r_ : (Unit ⊕ Unit)), diwanref1_SameReads.lp6 fu l6_0 l6_1 n_ l6_2 = some r_ → WK Try.prog diwanref1_SameReads.O (Ck Try.prog) (cB (cR (cL (cR (cR bd51))))) [] (ofL [Tm 0 (sS 4 TRead.en l6_0), Tm 1 (sS 4 TRead.en l6_1), Tm 5 (iv l6_2)]) (diwanref1_SameReads.lp6_post l6_0 l6_1 r_) := by
 intro n_
 induction n_ with
 | zero => intro l6_2 r_ h; exact no_none h
 | succ n_ ih =>
  intro l6_2 r_ h
  refine kLp ?_
  refine kSq ?_
  refine kRs 7 [Tm 14 (bv (decide (l6_2 < (l6_0.length : Int))))] [.s (.t 13) [iv (l6_0.length : Int)]] (.c (c_len (e := TRead.en) (l := l6_0)) .n) ?_
  rcases br_inv h with ⟨b8_0, h⟩ | ⟨b8_0, h⟩
  ·refine kCt b8_0 ?_
   refine kSk ?_
   refine kCd (cR (cB (cB (cR (cL (cR (cR bd51))))))) [.lp (cB (cR (cL (cR (cR bd51)))))] ?_
   refine kSq ?_
   refine kBk 1 ?_
   obtain ⟨x9_1, a9_2, e9_3, h⟩ := ix_inv h
   obtain ⟨x9_4, a9_5, e9_6, h⟩ := ix_inv h
   refine kRs 14 [Tm 25 (bv (!((x9_1.Key.toList == x9_4.Key.toList) && ((x9_1.Version == x9_4.Version) && ((x9_1.Val.toList == x9_4.Val.toList) && ((x9_1.There == x9_4.There) && true))))))] [.c (TRead.en x9_1), .c (TRead.en x9_4)] (.c (c_ix (e := TRead.en) a9_2 e9_3) (.c (c_el (e := TRead.en) e9_3) (.c (c_ix (e := TRead.en) a9_5 e9_6) (.c (c_el (e := TRead.en) e9_6) (.c rT .n))))) ?_
   rcases br_inv h with ⟨b10_0, h⟩ | ⟨b10_0, h⟩
   ·refine kCt b10_0 ?_
    refine kRs 0 [Tm 4 (bv false)] [] .n ?_
    cases some_inj h
    refine kWo ?_
    refine kRt ?_
    exact kOut
   ·refine kCe b10_0 ?_
    refine kSk ?_
    refine kCd (cR (cR (cB (cB (cR (cL (cR (cR bd51)))))))) [.lp (cB (cR (cL (cR (cR bd51)))))] ?_
    refine kRc 6 [Tm 5 (iv (w64 (l6_2 + 1)))] [] .n (cB (cR (cL (cR (cR bd51))))) [] ?_
    exact kWk (ih (w64 (l6_2 + 1)) _ h)
  ·refine kCe b8_0 ?_
   cases some_inj h
   refine kWo ?_
   refine kXt 0 ?_
   exact kOut
def diwanref1_SameReads (fu : Nat) (a : List TRead) (b : List TRead) : Option Bool :=
 br ((a.length : Int) != (b.length : Int))
  (some false)
  (bd (diwanref1_SameReads.lp6 fu a b fu 0) fun o_ => (match o_ with
  | .inl _ =>
   some true
  | .inr _ =>
   some false))
theorem diwanref1_SameReads.meets (fu : Nat) (a : List TRead) (b : List TRead) (z0 : Bool) (h : diwanref1_SameReads fu a b = some z0) : Meets Try.prog ⟨51, [sS 4 TRead.en a, sS 4 TRead.en b], []⟩ ⟨bv z0, []⟩ := by
 refine kMt hmix diwanref1_SameReads.O Try.f51 bd51 3 ?_
 unfold diwanref1_SameReads at h
 refine kRs 3 [] [] .n ?_
 refine kSq ?_
 refine kRs 3 [Tm 10 (bv ((a.length : Int) != (b.length : Int)))] [.s (.t 7) [iv (a.length : Int)], .s (.t 9) [iv (b.length : Int)]] (.c (c_len (e := TRead.en) (l := a)) (.c (c_len (e := TRead.en) (l := b)) .n)) ?_
 rcases br_inv h with ⟨b3_0, h⟩ | ⟨b3_0, h⟩
 ·refine kCt b3_0 ?_
  refine kRs 0 [Tm 4 (bv false)] [] .n ?_
  refine kRt ?_
  have h_ := some_inj h
  subst h_
  exact kFr
 ·refine kCe b3_0 ?_
  refine kSk ?_
  refine kCd (cR (cR bd51)) [] ?_
  refine kSq ?_
  refine kRs 6 [Tm 5 (iv 0)] [] .n ?_
  refine kBk 0 ?_
  obtain ⟨o13, ho13, h⟩ := bd_inv h
  refine kUs (diwanref1_SameReads.lp6_ok fu a b _ 0 _ ho13) ?_
  intro e_ τ_ hp_
  rcases o13 with o13 | o13
  ·obtain ⟨⟩ := o13
   obtain ⟨rfl, rfl⟩ := hp_
   refine kCd (cR (cR (cR bd51))) [] ?_
   refine kRs 0 [Tm 4 (bv true)] [] .n ?_
   refine kRt ?_
   have h_ := some_inj h
   subst h_
   exact kFr
  ·obtain ⟨⟩ := o13
   obtain ⟨rfl, rfl⟩ := hp_
   have h_ := some_inj h
   subst h_
   exact kFr
def bd50 : Code := (Try.f50.body).getD .skip
def diwanref1_SameTxn.O : Nat → Nat := fun t => bif ([2, 3, 4, 5] : List Nat).any (Nat.beq t) then 1 else 0
def diwanref1_SameTxn.lp9 (fu : Nat) (l9_1 : TTxn) (l9_2 : TTxn) : Nat → Int → Option (Unit ⊕ Unit)
  | 0, _ => none
  | n_ + 1, l9_0 =>
  br (decide (l9_0 < (l9_1.Writes.length : Int)))
   (ix l9_1.Writes l9_0 fun x12_1 =>
   ix l9_2.Writes l9_0 fun x12_4 =>
   br (!((x12_1.Key.toList == x12_4.Key.toList) && ((x12_1.Val.toList == x12_4.Val.toList) && ((x12_1.Gone == x12_4.Gone) && true))))
    (some (.inr ()))
    (diwanref1_SameTxn.lp9 fu l9_1 l9_2 n_ (w64 (l9_0 + 1))))
   (some (.inl ()))
def diwanref1_SameTxn.lp9_post (l9_1 : TTxn) (l9_2 : TTxn) (r_ : (Unit ⊕ Unit)) : Wy → St → Prop := fun e τ => match r_ with
  | .inl _ => e = .exit 0 ∧ τ = ofL []
  | .inr _ => e = .ret ∧ τ = ofL [Tm 4 (bv false)]
theorem diwanref1_SameTxn.lp9_ok (fu : Nat) (l9_1 : TTxn) (l9_2 : TTxn) : ∀ (n_ : Nat) (l9_0 : Int) (r_ : (Unit ⊕ Unit)), diwanref1_SameTxn.lp9 fu l9_1 l9_2 n_ l9_0 = some r_ → WK Try.prog diwanref1_SameTxn.O (Ck Try.prog) (cB (cR (cL (cR (cR bd50))))) [] (ofL [Tm 2 (.ptr 2 0), Tm 3 (.ptr 3 0), Tm 5 (iv l9_0), Ob 2 (TTxn.ob l9_1), Ob 3 (TTxn.ob l9_2)]) (diwanref1_SameTxn.lp9_post l9_1 l9_2 r_) := by
 intro n_
 induction n_ with
 | zero => intro l9_0 r_ h; exact no_none h
 | succ n_ ih =>
  intro l9_0 r_ h
  refine kLp ?_
  refine kSq ?_
  refine kRs 31 [Tm 39 (bv (decide (l9_0 < (l9_1.Writes.length : Int))))] [.s (.t 38) [iv (l9_1.Writes.length : Int)]] (.c (c_len (e := TWrite.en) (l := l9_1.Writes)) .n) ?_
  rcases br_inv h with ⟨b11_0, h⟩ | ⟨b11_0, h⟩
  ·refine kCt b11_0 ?_
   refine kSk ?_
   refine kCd (cR (cB (cB (cR (cL (cR (cR bd50))))))) [.lp (cB (cR (cL (cR (cR bd50)))))] ?_
   refine kSq ?_
   refine kBk 1 ?_
   obtain ⟨x12_1, a12_2, e12_3, h⟩ := ix_inv h
   obtain ⟨x12_4, a12_5, e12_6, h⟩ := ix_inv h
   refine kRs 62 [Tm 52 (bv (!((x12_1.Key.toList == x12_4.Key.toList) && ((x12_1.Val.toList == x12_4.Val.toList) && ((x12_1.Gone == x12_4.Gone) && true)))))] [.c (TWrite.en x12_1), .c (TWrite.en x12_4)] (.c (c_ix (e := TWrite.en) a12_2 e12_3) (.c (c_el (e := TWrite.en) e12_3) (.c (c_ix (e := TWrite.en) a12_5 e12_6) (.c (c_el (e := TWrite.en) e12_6) (.c rT .n))))) ?_
   rcases br_inv h with ⟨b13_0, h⟩ | ⟨b13_0, h⟩
   ·refine kCt b13_0 ?_
    refine kRs 0 [Tm 4 (bv false)] [] .n ?_
    cases some_inj h
    refine kWo ?_
    refine kRt ?_
    exact kOut
   ·refine kCe b13_0 ?_
    refine kSk ?_
    refine kCd (cR (cR (cB (cB (cR (cL (cR (cR bd50)))))))) [.lp (cB (cR (cL (cR (cR bd50)))))] ?_
    refine kRc 54 [Tm 5 (iv (w64 (l9_0 + 1)))] [] .n (cB (cR (cL (cR (cR bd50))))) [] ?_
    exact kWk (ih (w64 (l9_0 + 1)) _ h)
  ·refine kCe b11_0 ?_
   cases some_inj h
   refine kWo ?_
   refine kXt 0 ?_
   exact kOut
def diwanref1_SameTxn (fu : Nat) (a : TTxn) (b : TTxn) : Option Bool :=
 br (a.Session != b.Session)
  (some false)
  (br (a.Seq != b.Seq)
   (some false)
   (br ((a.Writes.length : Int) != (b.Writes.length : Int))
    (some false)
    (bd (diwanref1_SameReads fu a.Reads b.Reads) fun r2_4 =>
    br (!r2_4)
     (some false)
     (bd (diwanref1_SameTxn.lp9 fu a b fu 0) fun o_ => (match o_ with
     | .inl _ =>
      some true
     | .inr _ =>
      some false)))))
theorem diwanref1_SameTxn.meets (fu : Nat) (a : TTxn) (b : TTxn) (z0 : Bool) (h : diwanref1_SameTxn fu a b = some z0) : Meets Try.prog ⟨50, [.data (TTxn.ag a), .data (TTxn.ag b)], []⟩ ⟨bv z0, []⟩ := by
 refine kMt hmix diwanref1_SameTxn.O Try.f50 bd50 3 ?_
 unfold diwanref1_SameTxn at h
 refine kRs 0 [Tm 2 (.ptr 2 0), Tm 3 (.ptr 3 0), Ob 2 (TTxn.ob a), Ob 3 (TTxn.ob b)] [] .n ?_
 refine kSq ?_
 rcases br_inv h with ⟨b2_1, h⟩ | ⟨b2_1, h⟩
 ·refine kRs 15 [Tm 34 (bv true)] (rp 21 (.b true) []) (.r 6 b2_1 (.r 15 rT .n)) ?_
  refine kCt rT ?_
  refine kRs 0 [Tm 4 (bv false)] [] .n ?_
  refine kRt ?_
  have h_ := some_inj h
  subst h_
  exact kFr
 ·rcases br_inv h with ⟨b2_2, h⟩ | ⟨b2_2, h⟩
  ·refine kRs 15 [Tm 34 (bv true)] (rp 6 (.b false) (rp 15 (.b true) [])) (.r 6 b2_1 (.r 8 b2_2 (.r 7 rT .n))) ?_
   refine kCt rT ?_
   refine kRs 0 [Tm 4 (bv false)] [] .n ?_
   refine kRt ?_
   have h_ := some_inj h
   subst h_
   exact kFr
  ·rcases br_inv h with ⟨b2_3, h⟩ | ⟨b2_3, h⟩
   ·refine kRs 15 [Tm 34 (bv true)] (rp 9 (.b false) (.s (.t 21) [iv (a.Writes.length : Int)] :: (.b false :: (.b false :: (.b false :: (.s (.t 24) [iv (b.Writes.length : Int)] :: (.b false :: (.b false :: (rp 7 (.b true) []))))))))) (.r 6 b2_1 (.r 3 b2_2 (.c (c_len (e := TWrite.en) (l := a.Writes)) (.r 3 b2_2 (.c (c_len (e := TWrite.en) (l := b.Writes)) (.r 2 b2_2 (.r 7 b2_3 .n))))))) ?_
    refine kCt rT ?_
    refine kRs 0 [Tm 4 (bv false)] [] .n ?_
    refine kRt ?_
    have h_ := some_inj h
    subst h_
    exact kFr
   ·obtain ⟨r2_4, h2_5, h⟩ := bd_inv h
    refine kRs 15 [Tm 34 (bv (!r2_4))] (rp 9 (.b false) (.s (.t 21) [iv (a.Writes.length : Int)] :: (.b false :: (.b false :: (.b false :: (.s (.t 24) [iv (b.Writes.length : Int)] :: (rp 7 (.b false) [.a ⟨bv r2_4, []⟩, .b false, .b false]))))))) (.r 6 b2_1 (.r 3 b2_2 (.c (c_len (e := TWrite.en) (l := a.Writes)) (.r 3 b2_2 (.c (c_len (e := TWrite.en) (l := b.Writes)) (.r 2 b2_2 (.r 5 b2_3 (.c (Asks.of (C := Meets Try.prog) (diwanref1_SameReads.meets fu a.Reads b.Reads _ h2_5)) (.r 2 b2_3 .n))))))))) ?_
    rcases br_inv h with ⟨b6_0, h⟩ | ⟨b6_0, h⟩
    ·refine kCt b6_0 ?_
     refine kRs 0 [Tm 4 (bv false)] [] .n ?_
     refine kRt ?_
     have h_ := some_inj h
     subst h_
     exact kFr
    ·refine kCe b6_0 ?_
     refine kSk ?_
     refine kCd (cR (cR bd50)) [] ?_
     refine kSq ?_
     refine kRs 30 [Tm 5 (iv 0)] [] .n ?_
     refine kBk 0 ?_
     obtain ⟨o16, ho16, h⟩ := bd_inv h
     refine kUs (diwanref1_SameTxn.lp9_ok fu a b _ 0 _ ho16) ?_
     intro e_ τ_ hp_
     rcases o16 with o16 | o16
     ·obtain ⟨⟩ := o16
      obtain ⟨rfl, rfl⟩ := hp_
      refine kCd (cR (cR (cR bd50))) [] ?_
      refine kRs 0 [Tm 4 (bv true)] [] .n ?_
      refine kRt ?_
      have h_ := some_inj h
      subst h_
      exact kFr
     ·obtain ⟨⟩ := o16
      obtain ⟨rfl, rfl⟩ := hp_
      have h_ := some_inj h
      subst h_
      exact kFr
def bd89 : Code := (Try.f89.body).getD .skip
def diwanref1_SameEntry.O : Nat → Nat := fun t => bif ([2, 3, 4] : List Nat).any (Nat.beq t) then 1 else 0
def diwanref1_SameEntry (fu : Nat) (a : TEntry) (b : TEntry) : Option Bool :=
 br (a.Term == b.Term)
  (br (a.Seal == b.Seal)
   (bd (diwanref1_SameTxn fu a.T b.T) fun r2_3 =>
   some r2_3)
   (some false))
  (some false)
theorem diwanref1_SameEntry.meets (fu : Nat) (a : TEntry) (b : TEntry) (z0 : Bool) (h : diwanref1_SameEntry fu a b = some z0) : Meets Try.prog ⟨89, [.data (TEntry.ag a), .data (TEntry.ag b)], []⟩ ⟨bv z0, []⟩ := by
 refine kMt hmix diwanref1_SameEntry.O Try.f89 bd89 3 ?_
 unfold diwanref1_SameEntry at h
 refine kRs 0 [Tm 2 (.ptr 2 0), Tm 3 (.ptr 3 0), Ob 2 (TEntry.ob a), Ob 3 (TEntry.ob b)] [] .n ?_
 rcases br_inv h with ⟨b2_1, h⟩ | ⟨b2_1, h⟩
 ·rcases br_inv h with ⟨b2_2, h⟩ | ⟨b2_2, h⟩
  ·obtain ⟨r2_3, h2_4, h⟩ := bd_inv h
   refine kRs 0 [Tm 4 (bv r2_3)] (rp 11 (.b true) [.a ⟨bv r2_3, []⟩, .b true]) (.r 6 b2_1 (.r 5 b2_2 (.c (Asks.of (C := Meets Try.prog) (diwanref1_SameTxn.meets fu a.T b.T _ h2_4)) (.c b2_2 .n)))) ?_
   refine kRt ?_
   have h_ := some_inj h
   subst h_
   exact kFr
  ·refine kRs 0 [Tm 4 (bv false)] (rp 6 (.b true) (rp 6 (.b false) [])) (.r 6 b2_1 (.r 6 b2_2 .n)) ?_
   refine kRt ?_
   have h_ := some_inj h
   subst h_
   exact kFr
 ·refine kRs 0 [Tm 4 (bv false)] (rp 12 (.b false) []) (.r 6 b2_1 (.r 6 rF .n)) ?_
  refine kRt ?_
  have h_ := some_inj h
  subst h_
  exact kFr
def bd49 : Code := (Try.f49.body).getD .skip
def diwanref1_SameEntries.O : Nat → Nat := fun t => bif ([4, 5] : List Nat).any (Nat.beq t) then 1 else 0
def diwanref1_SameEntries.lp6 (fu : Nat) (l6_0 : List TEntry) (l6_1 : List TEntry) : Nat → Int → Option (Unit ⊕ Unit)
  | 0, _ => none
  | n_ + 1, l6_2 =>
  br (decide (l6_2 < (l6_0.length : Int)))
   (ix l6_0 l6_2 fun x9_1 =>
   ix l6_1 l6_2 fun x9_4 =>
   bd (diwanref1_SameEntry fu x9_1 x9_4) fun r9_7 =>
   br (!r9_7)
    (some (.inr ()))
    (diwanref1_SameEntries.lp6 fu l6_0 l6_1 n_ (w64 (l6_2 + 1))))
   (some (.inl ()))
def diwanref1_SameEntries.lp6_post (l6_0 : List TEntry) (l6_1 : List TEntry) (r_ : (Unit ⊕ Unit)) : Wy → St → Prop := fun e τ => match r_ with
  | .inl _ => e = .exit 0 ∧ τ = ofL []
  | .inr _ => e = .ret ∧ τ = ofL [Tm 4 (bv false)]
theorem diwanref1_SameEntries.lp6_ok (fu : Nat) (l6_0 : List TEntry) (l6_1 : List TEntry) : ∀ (n_ : Nat) (l6_2 : Int) (r_ : (Unit ⊕ Unit)), diwanref1_SameEntries.lp6 fu l6_0 l6_1 n_ l6_2 = some r_ → WK Try.prog diwanref1_SameEntries.O (Ck Try.prog) (cB (cR (cL (cR (cR bd49))))) [] (ofL [Tm 0 (sS 6 TEntry.en l6_0), Tm 1 (sS 6 TEntry.en l6_1), Tm 5 (iv l6_2)]) (diwanref1_SameEntries.lp6_post l6_0 l6_1 r_) := by
 intro n_
 induction n_ with
 | zero => intro l6_2 r_ h; exact no_none h
 | succ n_ ih =>
  intro l6_2 r_ h
  refine kLp ?_
  refine kSq ?_
  refine kRs 7 [Tm 14 (bv (decide (l6_2 < (l6_0.length : Int))))] [.s (.t 13) [iv (l6_0.length : Int)]] (.c (c_len (e := TEntry.en) (l := l6_0)) .n) ?_
  rcases br_inv h with ⟨b8_0, h⟩ | ⟨b8_0, h⟩
  ·refine kCt b8_0 ?_
   refine kSk ?_
   refine kCd (cR (cB (cB (cR (cL (cR (cR bd49))))))) [.lp (cB (cR (cL (cR (cR bd49)))))] ?_
   refine kSq ?_
   refine kBk 1 ?_
   obtain ⟨x9_1, a9_2, e9_3, h⟩ := ix_inv h
   obtain ⟨x9_4, a9_5, e9_6, h⟩ := ix_inv h
   obtain ⟨r9_7, h9_8, h⟩ := bd_inv h
   refine kRs 14 [Tm 26 (bv (!r9_7))] [.c (TEntry.en x9_1), .c (TEntry.en x9_4), .a ⟨bv r9_7, []⟩] (.c (c_ix (e := TEntry.en) a9_2 e9_3) (.c (c_el (e := TEntry.en) e9_3) (.c (c_ix (e := TEntry.en) a9_5 e9_6) (.c (c_el (e := TEntry.en) e9_6) (.c (Asks.of (C := Meets Try.prog) (diwanref1_SameEntry.meets fu x9_1 x9_4 _ h9_8)) (.c rT .n)))))) ?_
   rcases br_inv h with ⟨b10_0, h⟩ | ⟨b10_0, h⟩
   ·refine kCt b10_0 ?_
    refine kRs 0 [Tm 4 (bv false)] [] .n ?_
    cases some_inj h
    refine kWo ?_
    refine kRt ?_
    exact kOut
   ·refine kCe b10_0 ?_
    refine kSk ?_
    refine kCd (cR (cR (cB (cB (cR (cL (cR (cR bd49)))))))) [.lp (cB (cR (cL (cR (cR bd49)))))] ?_
    refine kRc 6 [Tm 5 (iv (w64 (l6_2 + 1)))] [] .n (cB (cR (cL (cR (cR bd49))))) [] ?_
    exact kWk (ih (w64 (l6_2 + 1)) _ h)
  ·refine kCe b8_0 ?_
   cases some_inj h
   refine kWo ?_
   refine kXt 0 ?_
   exact kOut
def diwanref1_SameEntries (fu : Nat) (a : List TEntry) (b : List TEntry) : Option Bool :=
 br ((a.length : Int) != (b.length : Int))
  (some false)
  (bd (diwanref1_SameEntries.lp6 fu a b fu 0) fun o_ => (match o_ with
  | .inl _ =>
   some true
  | .inr _ =>
   some false))
theorem diwanref1_SameEntries.meets (fu : Nat) (a : List TEntry) (b : List TEntry) (z0 : Bool) (h : diwanref1_SameEntries fu a b = some z0) : Meets Try.prog ⟨49, [sS 6 TEntry.en a, sS 6 TEntry.en b], []⟩ ⟨bv z0, []⟩ := by
 refine kMt hmix diwanref1_SameEntries.O Try.f49 bd49 3 ?_
 unfold diwanref1_SameEntries at h
 refine kRs 3 [] [] .n ?_
 refine kSq ?_
 refine kRs 3 [Tm 10 (bv ((a.length : Int) != (b.length : Int)))] [.s (.t 7) [iv (a.length : Int)], .s (.t 9) [iv (b.length : Int)]] (.c (c_len (e := TEntry.en) (l := a)) (.c (c_len (e := TEntry.en) (l := b)) .n)) ?_
 rcases br_inv h with ⟨b3_0, h⟩ | ⟨b3_0, h⟩
 ·refine kCt b3_0 ?_
  refine kRs 0 [Tm 4 (bv false)] [] .n ?_
  refine kRt ?_
  have h_ := some_inj h
  subst h_
  exact kFr
 ·refine kCe b3_0 ?_
  refine kSk ?_
  refine kCd (cR (cR bd49)) [] ?_
  refine kSq ?_
  refine kRs 6 [Tm 5 (iv 0)] [] .n ?_
  refine kBk 0 ?_
  obtain ⟨o13, ho13, h⟩ := bd_inv h
  refine kUs (diwanref1_SameEntries.lp6_ok fu a b _ 0 _ ho13) ?_
  intro e_ τ_ hp_
  rcases o13 with o13 | o13
  ·obtain ⟨⟩ := o13
   obtain ⟨rfl, rfl⟩ := hp_
   refine kCd (cR (cR (cR bd49))) [] ?_
   refine kRs 0 [Tm 4 (bv true)] [] .n ?_
   refine kRt ?_
   have h_ := some_inj h
   subst h_
   exact kFr
  ·obtain ⟨⟩ := o13
   obtain ⟨rfl, rfl⟩ := hp_
   have h_ := some_inj h
   subst h_
   exact kFr
def bd14 : Code := (Try.f14.body).getD .skip
def diwanref1_SameMsg.O : Nat → Nat := fun t => bif ([2, 3, 4, 5] : List Nat).any (Nat.beq t) then 1 else 0
def diwanref1_SameMsg.lp28 (fu : Nat) (l28_1 : TMsg) (l28_2 : TMsg) : Nat → Int → Option (Unit ⊕ Unit)
  | 0, _ => none
  | n_ + 1, l28_0 =>
  br (decide (l28_0 < (l28_1.Keys.length : Int)))
   (ix l28_1.Keys l28_0 fun x31_1 =>
   ix l28_2.Keys l28_0 fun x31_4 =>
   br (!(x31_1.toList == x31_4.toList))
    (some (.inr ()))
    (diwanref1_SameMsg.lp28 fu l28_1 l28_2 n_ (w64 (l28_0 + 1))))
   (some (.inl ()))
def diwanref1_SameMsg.lp28_post (l28_1 : TMsg) (l28_2 : TMsg) (r_ : (Unit ⊕ Unit)) : Wy → St → Prop := fun e τ => match r_ with
  | .inl _ => e = .exit 0 ∧ τ = ofL []
  | .inr _ => e = .ret ∧ τ = ofL [Tm 4 (bv false)]
theorem diwanref1_SameMsg.lp28_ok (fu : Nat) (l28_1 : TMsg) (l28_2 : TMsg) : ∀ (n_ : Nat) (l28_0 : Int) (r_ : (Unit ⊕ Unit)), diwanref1_SameMsg.lp28 fu l28_1 l28_2 n_ l28_0 = some r_ → WK Try.prog diwanref1_SameMsg.O (Ck Try.prog) (cB (cR (cL (cR (cR (cR bd14)))))) [] (ofL [Tm 2 (.ptr 2 0), Tm 3 (.ptr 3 0), Tm 5 (iv l28_0), Ob 2 (TMsg.ob l28_1), Ob 3 (TMsg.ob l28_2)]) (diwanref1_SameMsg.lp28_post l28_1 l28_2 r_) := by
 intro n_
 induction n_ with
 | zero => intro l28_0 r_ h; exact no_none h
 | succ n_ ih =>
  intro l28_0 r_ h
  refine kLp ?_
  refine kSq ?_
  refine kRs 31 [Tm 158 (bv (decide (l28_0 < (l28_1.Keys.length : Int))))] [.s (.t 157) [iv (l28_1.Keys.length : Int)]] (.c (c_len (e := e_s) (l := l28_1.Keys)) .n) ?_
  rcases br_inv h with ⟨b30_0, h⟩ | ⟨b30_0, h⟩
  ·refine kCt b30_0 ?_
   refine kSk ?_
   refine kCd (cR (cB (cB (cR (cL (cR (cR (cR bd14)))))))) [.lp (cB (cR (cL (cR (cR (cR bd14))))))] ?_
   refine kSq ?_
   refine kBk 1 ?_
   obtain ⟨x31_1, a31_2, e31_3, h⟩ := ix_inv h
   obtain ⟨x31_4, a31_5, e31_6, h⟩ := ix_inv h
   refine kRs 62 [Tm 171 (bv (!(x31_1.toList == x31_4.toList)))] [.c (e_s x31_1), .c (e_s x31_4)] (.c (c_ix (e := e_s) a31_2 e31_3) (.c (c_el (e := e_s) e31_3) (.c (c_ix (e := e_s) a31_5 e31_6) (.c (c_el (e := e_s) e31_6) (.c rT .n))))) ?_
   rcases br_inv h with ⟨b32_0, h⟩ | ⟨b32_0, h⟩
   ·refine kCt b32_0 ?_
    refine kRs 0 [Tm 4 (bv false)] [] .n ?_
    cases some_inj h
    refine kWo ?_
    refine kRt ?_
    exact kOut
   ·refine kCe b32_0 ?_
    refine kSk ?_
    refine kCd (cR (cR (cB (cB (cR (cL (cR (cR (cR bd14))))))))) [.lp (cB (cR (cL (cR (cR (cR bd14))))))] ?_
    refine kRc 54 [Tm 5 (iv (w64 (l28_0 + 1)))] [] .n (cB (cR (cL (cR (cR (cR bd14)))))) [] ?_
    exact kWk (ih (w64 (l28_0 + 1)) _ h)
  ·refine kCe b30_0 ?_
   cases some_inj h
   refine kWo ?_
   refine kXt 0 ?_
   exact kOut
def diwanref1_SameMsg (fu : Nat) (a : TMsg) (b : TMsg) : Option Bool :=
 br (a.Kind != b.Kind)
  (some false)
  (br (a.From != b.From)
   (some false)
   (br (a.To != b.To)
    (some false)
    (br (a.Part != b.Part)
     (some false)
     (br (a.Term != b.Term)
      (some false)
      (br (a.Index != b.Index)
       (some false)
       (br (a.LogTerm != b.LogTerm)
        (some false)
        (br (a.Commit != b.Commit)
         (some false)
         (br (!(a.OK == b.OK))
          (some false)
          (br (a.Session != b.Session)
           (some false)
           (br (a.Seq != b.Seq)
            (some false)
            (br (a.Pos != b.Pos)
             (some false)
             (br (a.Shard != b.Shard)
              (some false)
              (br (!(a.Span == b.Span))
               (some false)
               (br (!(a.FromKey.toList == b.FromKey.toList))
                (some false)
                (br (!(a.ToKey.toList == b.ToKey.toList))
                 (some false)
                 (br (a.Err != b.Err)
                  (some false)
                  (bd (diwanref1_SameEntries fu a.Entries b.Entries) fun r21_1 =>
                  br (!r21_1)
                   (some false)
                   (bd (diwanref1_SameTxn fu a.T b.T) fun r21_4 =>
                   br (!r21_4)
                    (some false)
                    (bd (diwanref1_SameReads fu a.Got b.Got) fun r21_7 =>
                    br (!r21_7)
                     (some false)
                     (br ((a.Keys.length : Int) != (b.Keys.length : Int))
                      (some false)
                      (bd (diwanref1_SameMsg.lp28 fu a b fu 0) fun o_ => (match o_ with
                      | .inl _ =>
                       some true
                      | .inr _ =>
                       some false))))))))))))))))))))))
theorem diwanref1_SameMsg.meets (fu : Nat) (a : TMsg) (b : TMsg) (z0 : Bool) (h : diwanref1_SameMsg fu a b = some z0) : Meets Try.prog ⟨14, [.data (TMsg.ag a), .data (TMsg.ag b)], []⟩ ⟨bv z0, []⟩ := by
 refine kMt hmix diwanref1_SameMsg.O Try.f14 bd14 3 ?_
 unfold diwanref1_SameMsg at h
 refine kRs 0 [Tm 2 (.ptr 2 0), Tm 3 (.ptr 3 0), Ob 2 (TMsg.ob a), Ob 3 (TMsg.ob b)] [] .n ?_
 refine kSq ?_
 rcases br_inv h with ⟨b2_1, h⟩ | ⟨b2_1, h⟩
 ·refine kRs 15 [Tm 122 (bv true)] (rp 96 (.b true) []) (.r 6 b2_1 (.r 90 rT .n)) ?_
  refine kCt rT ?_
  refine kRs 0 [Tm 4 (bv false)] [] .n ?_
  refine kRt ?_
  have h_ := some_inj h
  subst h_
  exact kFr
 ·rcases br_inv h with ⟨b2_2, h⟩ | ⟨b2_2, h⟩
  ·refine kRs 15 [Tm 122 (bv true)] (rp 6 (.b false) (rp 90 (.b true) [])) (.r 6 b2_1 (.r 6 b2_2 (.r 84 rT .n))) ?_
   refine kCt rT ?_
   refine kRs 0 [Tm 4 (bv false)] [] .n ?_
   refine kRt ?_
   have h_ := some_inj h
   subst h_
   exact kFr
  ·rcases br_inv h with ⟨b2_3, h⟩ | ⟨b2_3, h⟩
   ·refine kRs 15 [Tm 122 (bv true)] (rp 12 (.b false) (rp 84 (.b true) [])) (.r 6 b2_1 (.r 6 b2_2 (.r 6 b2_3 (.r 78 rT .n)))) ?_
    refine kCt rT ?_
    refine kRs 0 [Tm 4 (bv false)] [] .n ?_
    refine kRt ?_
    have h_ := some_inj h
    subst h_
    exact kFr
   ·rcases br_inv h with ⟨b2_4, h⟩ | ⟨b2_4, h⟩
    ·refine kRs 15 [Tm 122 (bv true)] (rp 18 (.b false) (rp 78 (.b true) [])) (.r 6 b2_1 (.r 6 b2_2 (.r 6 b2_3 (.r 6 b2_4 (.r 72 rT .n))))) ?_
     refine kCt rT ?_
     refine kRs 0 [Tm 4 (bv false)] [] .n ?_
     refine kRt ?_
     have h_ := some_inj h
     subst h_
     exact kFr
    ·rcases br_inv h with ⟨b2_5, h⟩ | ⟨b2_5, h⟩
     ·refine kRs 15 [Tm 122 (bv true)] (rp 24 (.b false) (rp 72 (.b true) [])) (.r 6 b2_1 (.r 6 b2_2 (.r 6 b2_3 (.r 6 b2_4 (.r 6 b2_5 (.r 66 rT .n)))))) ?_
      refine kCt rT ?_
      refine kRs 0 [Tm 4 (bv false)] [] .n ?_
      refine kRt ?_
      have h_ := some_inj h
      subst h_
      exact kFr
     ·rcases br_inv h with ⟨b2_6, h⟩ | ⟨b2_6, h⟩
      ·refine kRs 15 [Tm 122 (bv true)] (rp 30 (.b false) (rp 66 (.b true) [])) (.r 6 b2_1 (.r 6 b2_2 (.r 6 b2_3 (.r 6 b2_4 (.r 6 b2_5 (.r 6 b2_6 (.r 60 rT .n))))))) ?_
       refine kCt rT ?_
       refine kRs 0 [Tm 4 (bv false)] [] .n ?_
       refine kRt ?_
       have h_ := some_inj h
       subst h_
       exact kFr
      ·rcases br_inv h with ⟨b2_7, h⟩ | ⟨b2_7, h⟩
       ·refine kRs 15 [Tm 122 (bv true)] (rp 36 (.b false) (rp 60 (.b true) [])) (.r 6 b2_1 (.r 6 b2_2 (.r 6 b2_3 (.r 6 b2_4 (.r 6 b2_5 (.r 6 b2_6 (.r 6 b2_7 (.r 54 rT .n)))))))) ?_
        refine kCt rT ?_
        refine kRs 0 [Tm 4 (bv false)] [] .n ?_
        refine kRt ?_
        have h_ := some_inj h
        subst h_
        exact kFr
       ·rcases br_inv h with ⟨b2_8, h⟩ | ⟨b2_8, h⟩
        ·refine kRs 15 [Tm 122 (bv true)] (rp 42 (.b false) (rp 54 (.b true) [])) (.r 6 b2_1 (.r 6 b2_2 (.r 6 b2_3 (.r 6 b2_4 (.r 6 b2_5 (.r 6 b2_6 (.r 6 b2_7 (.r 6 b2_8 (.r 48 rT .n))))))))) ?_
         refine kCt rT ?_
         refine kRs 0 [Tm 4 (bv false)] [] .n ?_
         refine kRt ?_
         have h_ := some_inj h
         subst h_
         exact kFr
        ·rcases br_inv h with ⟨b2_9, h⟩ | ⟨b2_9, h⟩
         ·refine kRs 15 [Tm 122 (bv true)] (rp 48 (.b false) (rp 48 (.b true) [])) (.r 6 b2_1 (.r 6 b2_2 (.r 6 b2_3 (.r 6 b2_4 (.r 6 b2_5 (.r 6 b2_6 (.r 6 b2_7 (.r 6 b2_8 (.r 6 b2_9 (.r 42 rT .n)))))))))) ?_
          refine kCt rT ?_
          refine kRs 0 [Tm 4 (bv false)] [] .n ?_
          refine kRt ?_
          have h_ := some_inj h
          subst h_
          exact kFr
         ·rcases br_inv h with ⟨b2_10, h⟩ | ⟨b2_10, h⟩
          ·refine kRs 15 [Tm 122 (bv true)] (rp 54 (.b false) (rp 42 (.b true) [])) (.r 6 b2_1 (.r 6 b2_2 (.r 6 b2_3 (.r 6 b2_4 (.r 6 b2_5 (.r 6 b2_6 (.r 6 b2_7 (.r 6 b2_8 (.r 6 b2_9 (.r 6 b2_10 (.r 36 rT .n))))))))))) ?_
           refine kCt rT ?_
           refine kRs 0 [Tm 4 (bv false)] [] .n ?_
           refine kRt ?_
           have h_ := some_inj h
           subst h_
           exact kFr
          ·rcases br_inv h with ⟨b2_11, h⟩ | ⟨b2_11, h⟩
           ·refine kRs 15 [Tm 122 (bv true)] (rp 60 (.b false) (rp 36 (.b true) [])) (.r 6 b2_1 (.r 6 b2_2 (.r 6 b2_3 (.r 6 b2_4 (.r 6 b2_5 (.r 6 b2_6 (.r 6 b2_7 (.r 6 b2_8 (.r 6 b2_9 (.r 6 b2_10 (.r 6 b2_11 (.r 30 rT .n)))))))))))) ?_
            refine kCt rT ?_
            refine kRs 0 [Tm 4 (bv false)] [] .n ?_
            refine kRt ?_
            have h_ := some_inj h
            subst h_
            exact kFr
           ·rcases br_inv h with ⟨b2_12, h⟩ | ⟨b2_12, h⟩
            ·refine kRs 15 [Tm 122 (bv true)] (rp 66 (.b false) (rp 30 (.b true) [])) (.r 6 b2_1 (.r 6 b2_2 (.r 6 b2_3 (.r 6 b2_4 (.r 6 b2_5 (.r 6 b2_6 (.r 6 b2_7 (.r 6 b2_8 (.r 6 b2_9 (.r 6 b2_10 (.r 6 b2_11 (.r 6 b2_12 (.r 24 rT .n))))))))))))) ?_
             refine kCt rT ?_
             refine kRs 0 [Tm 4 (bv false)] [] .n ?_
             refine kRt ?_
             have h_ := some_inj h
             subst h_
             exact kFr
            ·rcases br_inv h with ⟨b2_13, h⟩ | ⟨b2_13, h⟩
             ·refine kRs 15 [Tm 122 (bv true)] (rp 72 (.b false) (rp 24 (.b true) [])) (.r 6 b2_1 (.r 6 b2_2 (.r 6 b2_3 (.r 6 b2_4 (.r 6 b2_5 (.r 6 b2_6 (.r 6 b2_7 (.r 6 b2_8 (.r 6 b2_9 (.r 6 b2_10 (.r 6 b2_11 (.r 6 b2_12 (.r 6 b2_13 (.r 18 rT .n)))))))))))))) ?_
              refine kCt rT ?_
              refine kRs 0 [Tm 4 (bv false)] [] .n ?_
              refine kRt ?_
              have h_ := some_inj h
              subst h_
              exact kFr
             ·rcases br_inv h with ⟨b2_14, h⟩ | ⟨b2_14, h⟩
              ·refine kRs 15 [Tm 122 (bv true)] (rp 78 (.b false) (rp 18 (.b true) [])) (.r 6 b2_1 (.r 6 b2_2 (.r 6 b2_3 (.r 6 b2_4 (.r 6 b2_5 (.r 6 b2_6 (.r 6 b2_7 (.r 6 b2_8 (.r 6 b2_9 (.r 6 b2_10 (.r 6 b2_11 (.r 6 b2_12 (.r 6 b2_13 (.r 6 b2_14 (.r 12 rT .n))))))))))))))) ?_
               refine kCt rT ?_
               refine kRs 0 [Tm 4 (bv false)] [] .n ?_
               refine kRt ?_
               have h_ := some_inj h
               subst h_
               exact kFr
              ·rcases br_inv h with ⟨b2_15, h⟩ | ⟨b2_15, h⟩
               ·refine kRs 15 [Tm 122 (bv true)] (rp 84 (.b false) (rp 12 (.b true) [])) (.r 6 b2_1 (.r 6 b2_2 (.r 6 b2_3 (.r 6 b2_4 (.r 6 b2_5 (.r 6 b2_6 (.r 6 b2_7 (.r 6 b2_8 (.r 6 b2_9 (.r 6 b2_10 (.r 6 b2_11 (.r 6 b2_12 (.r 6 b2_13 (.r 6 b2_14 (.r 6 b2_15 (.r 6 rT .n)))))))))))))))) ?_
                refine kCt rT ?_
                refine kRs 0 [Tm 4 (bv false)] [] .n ?_
                refine kRt ?_
                have h_ := some_inj h
                subst h_
                exact kFr
               ·rcases br_inv h with ⟨b2_16, h⟩ | ⟨b2_16, h⟩
                ·refine kRs 15 [Tm 122 (bv true)] (rp 90 (.b false) (rp 6 (.b true) [])) (.r 6 b2_1 (.r 6 b2_2 (.r 6 b2_3 (.r 6 b2_4 (.r 6 b2_5 (.r 6 b2_6 (.r 6 b2_7 (.r 6 b2_8 (.r 6 b2_9 (.r 6 b2_10 (.r 6 b2_11 (.r 6 b2_12 (.r 6 b2_13 (.r 6 b2_14 (.r 6 b2_15 (.r 6 b2_16 .n)))))))))))))))) ?_
                 refine kCt rT ?_
                 refine kRs 0 [Tm 4 (bv false)] [] .n ?_
                 refine kRt ?_
                 have h_ := some_inj h
                 subst h_
                 exact kFr
                ·refine kRs 15 [Tm 122 (bv (a.Err != b.Err))] (rp 96 (.b false) []) (.r 6 b2_1 (.r 6 b2_2 (.r 6 b2_3 (.r 6 b2_4 (.r 6 b2_5 (.r 6 b2_6 (.r 6 b2_7 (.r 6 b2_8 (.r 6 b2_9 (.r 6 b2_10 (.r 6 b2_11 (.r 6 b2_12 (.r 6 b2_13 (.r 6 b2_14 (.r 6 b2_15 (.r 6 b2_16 .n)))))))))))))))) ?_
                 rcases br_inv h with ⟨b19_0, h⟩ | ⟨b19_0, h⟩
                 ·refine kCt b19_0 ?_
                  refine kRs 0 [Tm 4 (bv false)] [] .n ?_
                  refine kRt ?_
                  have h_ := some_inj h
                  subst h_
                  exact kFr
                 ·refine kCe b19_0 ?_
                  refine kSk ?_
                  refine kCd (cR (cR bd14)) [] ?_
                  refine kSq ?_
                  obtain ⟨r21_1, h21_2, h⟩ := bd_inv h
                  rcases br_inv h with ⟨b21_3, h⟩ | ⟨b21_3, h⟩
                  ·refine kRs 30 [Tm 153 (bv true)] (.a ⟨bv r21_1, []⟩ :: (rp 22 (.b true) [])) (.c (Asks.of (C := Meets Try.prog) (diwanref1_SameEntries.meets fu a.Entries b.Entries _ h21_2)) (.r 7 b21_3 (.r 15 rT .n))) ?_
                   refine kCt rT ?_
                   refine kRs 0 [Tm 4 (bv false)] [] .n ?_
                   refine kRt ?_
                   have h_ := some_inj h
                   subst h_
                   exact kFr
                  ·obtain ⟨r21_4, h21_5, h⟩ := bd_inv h
                   rcases br_inv h with ⟨b21_6, h⟩ | ⟨b21_6, h⟩
                   ·refine kRs 30 [Tm 153 (bv true)] (.a ⟨bv r21_1, []⟩ :: (rp 5 (.b false) (.a ⟨bv r21_4, []⟩ :: (.b false :: (.b false :: (rp 15 (.b true) [])))))) (.c (Asks.of (C := Meets Try.prog) (diwanref1_SameEntries.meets fu a.Entries b.Entries _ h21_2)) (.r 5 b21_3 (.c (Asks.of (C := Meets Try.prog) (diwanref1_SameTxn.meets fu a.T b.T _ h21_5)) (.r 2 b21_3 (.r 7 b21_6 (.r 8 rT .n)))))) ?_
                    refine kCt rT ?_
                    refine kRs 0 [Tm 4 (bv false)] [] .n ?_
                    refine kRt ?_
                    have h_ := some_inj h
                    subst h_
                    exact kFr
                   ·obtain ⟨r21_7, h21_8, h⟩ := bd_inv h
                    rcases br_inv h with ⟨b21_9, h⟩ | ⟨b21_9, h⟩
                    ·refine kRs 30 [Tm 153 (bv true)] (.a ⟨bv r21_1, []⟩ :: (rp 5 (.b false) (.a ⟨bv r21_4, []⟩ :: (rp 7 (.b false) (.a ⟨bv r21_7, []⟩ :: (.b false :: (.b false :: (rp 8 (.b true) [])))))))) (.c (Asks.of (C := Meets Try.prog) (diwanref1_SameEntries.meets fu a.Entries b.Entries _ h21_2)) (.r 5 b21_3 (.c (Asks.of (C := Meets Try.prog) (diwanref1_SameTxn.meets fu a.T b.T _ h21_5)) (.r 2 b21_3 (.r 5 b21_6 (.c (Asks.of (C := Meets Try.prog) (diwanref1_SameReads.meets fu a.Got b.Got _ h21_8)) (.r 2 b21_6 (.r 8 b21_9 .n)))))))) ?_
                     refine kCt rT ?_
                     refine kRs 0 [Tm 4 (bv false)] [] .n ?_
                     refine kRt ?_
                     have h_ := some_inj h
                     subst h_
                     exact kFr
                    ·refine kRs 30 [Tm 153 (bv ((a.Keys.length : Int) != (b.Keys.length : Int)))] (.a ⟨bv r21_1, []⟩ :: (rp 5 (.b false) (.a ⟨bv r21_4, []⟩ :: (rp 7 (.b false) (.a ⟨bv r21_7, []⟩ :: (rp 5 (.b false) [.s (.t 148) [iv (a.Keys.length : Int)], .b false, .b false, .b false, .s (.t 151) [iv (b.Keys.length : Int)], .b false, .b false])))))) (.c (Asks.of (C := Meets Try.prog) (diwanref1_SameEntries.meets fu a.Entries b.Entries _ h21_2)) (.r 5 b21_3 (.c (Asks.of (C := Meets Try.prog) (diwanref1_SameTxn.meets fu a.T b.T _ h21_5)) (.r 2 b21_3 (.r 5 b21_6 (.c (Asks.of (C := Meets Try.prog) (diwanref1_SameReads.meets fu a.Got b.Got _ h21_8)) (.r 2 b21_6 (.r 3 b21_9 (.c (c_len (e := e_s) (l := a.Keys)) (.r 3 b21_9 (.c (c_len (e := e_s) (l := b.Keys)) (.r 2 b21_9 .n)))))))))))) ?_
                     rcases br_inv h with ⟨b25_0, h⟩ | ⟨b25_0, h⟩
                     ·refine kCt b25_0 ?_
                      refine kRs 0 [Tm 4 (bv false)] [] .n ?_
                      refine kRt ?_
                      have h_ := some_inj h
                      subst h_
                      exact kFr
                     ·refine kCe b25_0 ?_
                      refine kSk ?_
                      refine kCd (cR (cR (cR bd14))) [] ?_
                      refine kSq ?_
                      refine kRs 30 [Tm 5 (iv 0)] [] .n ?_
                      refine kBk 0 ?_
                      obtain ⟨o35, ho35, h⟩ := bd_inv h
                      refine kUs (diwanref1_SameMsg.lp28_ok fu a b _ 0 _ ho35) ?_
                      intro e_ τ_ hp_
                      rcases o35 with o35 | o35
                      ·obtain ⟨⟩ := o35
                       obtain ⟨rfl, rfl⟩ := hp_
                       refine kCd (cR (cR (cR (cR bd14)))) [] ?_
                       refine kRs 0 [Tm 4 (bv true)] [] .n ?_
                       refine kRt ?_
                       have h_ := some_inj h
                       subst h_
                       exact kFr
                      ·obtain ⟨⟩ := o35
                       obtain ⟨rfl, rfl⟩ := hp_
                       have h_ := some_inj h
                       subst h_
                       exact kFr
def bd17 : Code := (Try.f17.body).getD .skip
def diwanlaw0_Back.O : Nat → Nat := fun t => bif ([4, 5] : List Nat).any (Nat.beq t) then 1 else 0
def diwanlaw0_Back.lp5 (fu : Nat) (l5_0 : Nat) (l5_1 : List Int) (l5_2 : List Int) : Nat → Int → Option (Unit ⊕ Unit)
  | 0, _ => none
  | n_ + 1, l5_3 =>
  br (decide (l5_3 < (w64 ((l5_2.length : Int) + 6))))
   (gd (decide ((0 : Int) ≤ (w64 ((l5_2.length : Int) + 6)) ∧ (w64 ((l5_2.length : Int) + 6)) ≤ (l5_1.length : Int))) <|
   ix (List.take (w64 ((l5_2.length : Int) + 6)).toNat l5_1) l5_3 fun x8_2 =>
   br (x8_2 != (w8 (w64 (85 + (Int.tmod l5_3 5)))))
    (some (.inr ()))
    (diwanlaw0_Back.lp5 fu l5_0 l5_1 l5_2 n_ (w64 (l5_3 + 1))))
   (some (.inl ()))
def diwanlaw0_Back.lp5_post (l5_0 : Nat) (l5_1 : List Int) (l5_2 : List Int) (r_ : (Unit ⊕ Unit)) : Wy → St → Prop := fun e τ => match r_ with
  | .inl _ => e = .exit 0 ∧ τ = ofL []
  | .inr _ => e = .ret ∧ τ = ofL [Tm 4 (bv false)]
theorem diwanlaw0_Back.lp5_ok (fu : Nat) (l5_0 : Nat) (l5_1 : List Int) (l5_2 : List Int) : ∀ (n_ : Nat) (l5_3 : Int) (r_ : (Unit ⊕ Unit)), diwanlaw0_Back.lp5 fu l5_0 l5_1 l5_2 n_ l5_3 = some r_ → WK Try.prog diwanlaw0_Back.O (Ck Try.prog) (cB (cR (cL (cR (cR bd17))))) [] (ofL [Tm 0 (.data (.rm l5_0 1 (List.map e_u8 l5_1))), Tm 1 (sS 1 e_u8 l5_2), Tm 5 (iv l5_3)]) (diwanlaw0_Back.lp5_post l5_0 l5_1 l5_2 r_) := by
 intro n_
 induction n_ with
 | zero => intro l5_3 r_ h; exact no_none h
 | succ n_ ih =>
  intro l5_3 r_ h
  refine kLp ?_
  refine kSq ?_
  refine kRs 7 [Tm 25 (bv (decide (l5_3 < (w64 ((l5_2.length : Int) + 6)))))] [.s (.t 23) [iv (l5_2.length : Int)]] (.c (c_len (e := e_u8) (l := l5_2)) .n) ?_
  rcases br_inv h with ⟨b7_0, h⟩ | ⟨b7_0, h⟩
  ·refine kCt b7_0 ?_
   refine kSk ?_
   refine kCd (cR (cB (cB (cR (cL (cR (cR bd17))))))) [.lp (cB (cR (cL (cR (cR bd17)))))] ?_
   refine kSq ?_
   refine kBk 1 ?_
   obtain ⟨c8_1, h⟩ := gd_inv h
   obtain ⟨x8_2, a8_3, e8_4, h⟩ := ix_inv h
   refine kRs 14 [Tm 40 (bv (x8_2 != (w8 (w64 (85 + (Int.tmod l5_3 5))))))] [.s (.t 30) [iv (l5_2.length : Int)], .s (.t 32) [sS 1 e_u8 (List.take (w64 ((l5_2.length : Int) + 6)).toNat l5_1)], .c (e_u8 x8_2)] (.c (c_len (e := e_u8) (l := l5_2)) (.c (c_cbH (e := e_u8) c8_1) (.c (congrArg (fun d : DV => [AV.data d]) (c_cutH (own := false) (nl := none) (s := 1) (e := e_u8) (l := l5_1) (h := (w64 ((l5_2.length : Int) + 6)).toNat))) (.c (c_ix (e := e_u8) a8_3 e8_4) (.c (c_el (e := e_u8) e8_4) (.c rT .n)))))) ?_
   rcases br_inv h with ⟨b9_0, h⟩ | ⟨b9_0, h⟩
   ·refine kCt b9_0 ?_
    refine kRs 0 [Tm 4 (bv false)] [] .n ?_
    cases some_inj h
    refine kWo ?_
    refine kRt ?_
    exact kOut
   ·refine kCe b9_0 ?_
    refine kSk ?_
    refine kCd (cR (cR (cB (cB (cR (cL (cR (cR bd17)))))))) [.lp (cB (cR (cL (cR (cR bd17)))))] ?_
    refine kRc 6 [Tm 5 (iv (w64 (l5_3 + 1)))] [] .n (cB (cR (cL (cR (cR bd17))))) [] ?_
    exact kWk (ih (w64 (l5_3 + 1)) _ h)
  ·refine kCe b7_0 ?_
   cases some_inj h
   refine kWo ?_
   refine kXt 0 ?_
   exact kOut
def diwanlaw0_Back (fu : Nat) (x_v : Nat) (x1_v : List Int) (b : List Int) : Option Bool :=
 br (!((strB (List.take x_v x1_v)).toList == (strB b).toList))
  (some false)
  (gd (decide ((w64 ((b.length : Int) + 6)) ≤ (x1_v.length : Int))) <|
  bd (diwanlaw0_Back.lp5 fu x_v x1_v b fu (b.length : Int)) fun o_ => (match o_ with
  | .inl _ =>
   some true
  | .inr _ =>
   some false))
theorem diwanlaw0_Back.meets (fu : Nat) (x_v : Nat) (x1_v : List Int) (b : List Int) (z0 : Bool) (h : diwanlaw0_Back fu x_v x1_v b = some z0) : Meets Try.prog ⟨17, [.data (.rm x_v 1 (List.map e_u8 x1_v)), sS 1 e_u8 b], []⟩ ⟨bv z0, []⟩ := by
 refine kMt hmix diwanlaw0_Back.O Try.f17 bd17 3 ?_
 unfold diwanlaw0_Back at h
 refine kRs 3 [] [] .n ?_
 refine kSq ?_
 rcases br_inv h with ⟨b2_1, h⟩ | ⟨b2_1, h⟩
 ·refine kRs 3 [Tm 18 (bv true)] (.s (.t 7) [sv (strB (List.take x_v x1_v))] :: (rp 7 (.b true) [])) (.c (c_abt (l := x1_v) (n := x_v)) (.c (congrArg (fun d : DV => [AV.data d]) (c_strt (l := x1_v) (n := x_v))) (.c (c_ab b) (.r 7 b2_1 .n)))) ?_
  refine kCt rT ?_
  refine kRs 0 [Tm 4 (bv false)] [] .n ?_
  refine kRt ?_
  have h_ := some_inj h
  subst h_
  exact kFr
 ·obtain ⟨c2_2, h⟩ := gd_inv h
  refine kRs 3 [Tm 18 (bv false)] (.s (.t 7) [sv (strB (List.take x_v x1_v))] :: (rp 4 (.b false) [.s (.t 15) [iv (b.length : Int)], .b false, .b false, .b false])) (.c (c_abt (l := x1_v) (n := x_v)) (.c (congrArg (fun d : DV => [AV.data d]) (c_strt (l := x1_v) (n := x_v))) (.c (c_ab b) (.r 4 b2_1 (.c (c_len (e := e_u8) (l := b)) (.r 2 b2_1 (.c (c_cl (e := e_u8) c2_2) (.c b2_1 .n)))))))) ?_
  refine kCe rF ?_
  refine kSk ?_
  refine kCd (cR (cR bd17)) [] ?_
  refine kSq ?_
  refine kRs 6 [Tm 5 (iv (b.length : Int))] [.s (.t 20) [iv (b.length : Int)]] (.c (c_len (e := e_u8) (l := b)) .n) ?_
  refine kBk 0 ?_
  obtain ⟨o12, ho12, h⟩ := bd_inv h
  refine kUs (diwanlaw0_Back.lp5_ok fu x_v x1_v b _ (b.length : Int) _ ho12) ?_
  intro e_ τ_ hp_
  rcases o12 with o12 | o12
  ·obtain ⟨⟩ := o12
   obtain ⟨rfl, rfl⟩ := hp_
   refine kCd (cR (cR (cR bd17))) [] ?_
   refine kRs 0 [Tm 4 (bv true)] [] .n ?_
   refine kRt ?_
   have h_ := some_inj h
   subst h_
   exact kFr
  ·obtain ⟨⟩ := o12
   obtain ⟨rfl, rfl⟩ := hp_
   have h_ := some_inj h
   subst h_
   exact kFr
def bd23 : Code := (Try.f23.body).getD .skip
def diwanref1_bare.O : Nat → Nat := fun t => bif ([1, 3, 12, 15, 26, 34, 51, 62, 67, 75, 86, 112, 144] : List Nat).any (Nat.beq t) then 1 else bif ([2] : List Nat).any (Nat.beq t) then 2 else 0
def diwanref1_bare (m : TMsg) : Option TMsg :=
 br (m.Kind == 1)
  (some (TMsg.mk m.Kind m.From m.To m.Part m.Term m.Index m.LogTerm 0 false [] (TTxn.mk 0 0 [] []) 0 0 0 0 false ByteArray.empty ByteArray.empty [] [] 0))
  (br (m.Kind == 2)
   (some (TMsg.mk m.Kind m.From m.To m.Part m.Term 0 0 0 m.OK [] (TTxn.mk 0 0 [] []) 0 0 0 0 false ByteArray.empty ByteArray.empty [] [] 0))
   (br (m.Kind == 3)
    (some (TMsg.mk m.Kind m.From m.To m.Part m.Term m.Index m.LogTerm m.Commit false m.Entries (TTxn.mk 0 0 [] []) 0 0 0 0 false ByteArray.empty ByteArray.empty [] [] 0))
    (br (m.Kind == 4)
     (some (TMsg.mk m.Kind m.From m.To m.Part m.Term m.Index 0 0 m.OK [] (TTxn.mk 0 0 [] []) 0 0 0 0 false ByteArray.empty ByteArray.empty [] [] 0))
     (br (m.Kind == 5)
      (some (TMsg.mk m.Kind m.From m.To m.Part 0 0 0 0 false [] m.T 0 0 0 0 false ByteArray.empty ByteArray.empty [] [] 0))
      (br (m.Kind == 6)
       (some (TMsg.mk m.Kind m.From m.To m.Part 0 0 0 0 false [] (TTxn.mk 0 0 [] []) 0 0 m.Pos m.Shard false ByteArray.empty ByteArray.empty [] [] 0))
       (br (m.Kind == 7)
        (some (TMsg.mk m.Kind m.From m.To m.Part 0 0 0 0 m.OK [] (TTxn.mk 0 0 [] []) 0 0 m.Pos m.Shard false ByteArray.empty ByteArray.empty [] [] 0))
        (br (m.Kind == 8)
         (some (TMsg.mk m.Kind m.From m.To m.Part 0 0 0 0 false [] (TTxn.mk 0 0 [] []) m.Session m.Seq m.Pos m.Shard m.Span m.FromKey m.ToKey m.Keys [] 0))
         (br (m.Kind == 9)
          (some (TMsg.mk m.Kind m.From m.To m.Part 0 0 0 0 false [] (TTxn.mk 0 0 [] []) m.Session m.Seq m.Pos m.Shard m.Span m.FromKey m.ToKey m.Keys m.Got m.Err))
          (some (TMsg.mk m.Kind m.From m.To m.Part 0 0 0 0 false [] (TTxn.mk 0 0 [] []) 0 0 0 0 false ByteArray.empty ByteArray.empty [] [] 0))))))))))
theorem diwanref1_bare.meets (m : TMsg) (z0 : TMsg) (h : diwanref1_bare m = some z0) : Meets Try.prog ⟨23, [.data (TMsg.ag m)], []⟩ ⟨.data (TMsg.ag z0), []⟩ := by
 refine kMt hmix diwanref1_bare.O Try.f23 bd23 1 ?_
 unfold diwanref1_bare at h
 refine kRs 0 [Tm 1 (.ptr 1 0), Tm 2 (.ptr 2 0), Ob 1 (TMsg.ob m), Ob 2 (TMsg.ob (TMsg.mk 0 0 0 0 0 0 0 0 false [] (TTxn.mk 0 0 [] []) 0 0 0 0 false ByteArray.empty ByteArray.empty [] [] 0))] [] .n ?_
 refine kRs 15 [Tm 3 (.ptr 3 0), Ob 3 (TMsg.ob_00000000010011000000011 (TMsg.mk m.Kind m.From m.To m.Part 0 0 0 0 false [] (TTxn.mk 0 0 [] []) 0 0 0 0 false ByteArray.empty ByteArray.empty [] [] 0))] [] .n ?_
 refine kSq ?_
 refine kRs 63 [Tm 14 (iv m.Kind)] [] .n ?_
 refine kBk 0 ?_
 refine kRs 127 [Tm 15 (bv (m.Kind == 1))] [] .n ?_
 rcases br_inv h with ⟨b5_0, h⟩ | ⟨b5_0, h⟩
 ·refine kCt b5_0 ?_
  refine kRc 164 [Ob 3 (TMsg.ob_00000000010011000000011 (TMsg.mk m.Kind m.From m.To m.Part m.Term m.Index m.LogTerm 0 false [] (TTxn.mk 0 0 [] []) 0 0 0 0 false ByteArray.empty ByteArray.empty [] [] 0))] [] (.c rT .n) (cR (cR (cR bd23))) [] ?_
  refine kRs 4 [Ob 2 (TMsg.ob_00000000010011000000011 (TMsg.mk m.Kind m.From m.To m.Part m.Term m.Index m.LogTerm 0 false [] (TTxn.mk 0 0 [] []) 0 0 0 0 false ByteArray.empty ByteArray.empty [] [] 0))] [] .n ?_
  refine kRt ?_
  have h_ := some_inj h
  subst h_
  exact kFr
 ·refine kCe b5_0 ?_
  refine kRs 254 [Tm 26 (bv (m.Kind == 2))] [] .n ?_
  rcases br_inv h with ⟨b9_0, h⟩ | ⟨b9_0, h⟩
  ·refine kCt b9_0 ?_
   refine kRc 164 [Ob 3 (TMsg.ob_00000000010011000000011 (TMsg.mk m.Kind m.From m.To m.Part m.Term 0 0 0 m.OK [] (TTxn.mk 0 0 [] []) 0 0 0 0 false ByteArray.empty ByteArray.empty [] [] 0))] [] (.c rT .n) (cR (cR (cR bd23))) [] ?_
   refine kRs 4 [Ob 2 (TMsg.ob_00000000010011000000011 (TMsg.mk m.Kind m.From m.To m.Part m.Term 0 0 0 m.OK [] (TTxn.mk 0 0 [] []) 0 0 0 0 false ByteArray.empty ByteArray.empty [] [] 0))] [] .n ?_
   refine kRt ?_
   have h_ := some_inj h
   subst h_
   exact kFr
  ·refine kCe b9_0 ?_
   refine kRs 254 [Tm 34 (bv (m.Kind == 3))] [] .n ?_
   rcases br_inv h with ⟨b13_0, h⟩ | ⟨b13_0, h⟩
   ·refine kCt b13_0 ?_
    refine kRc 164 [Ob 3 (TMsg.ob_00000000000011000000011 (TMsg.mk m.Kind m.From m.To m.Part m.Term m.Index m.LogTerm m.Commit false m.Entries (TTxn.mk 0 0 [] []) 0 0 0 0 false ByteArray.empty ByteArray.empty [] [] 0))] [] (.c rT .n) (cR (cR (cR bd23))) [] ?_
    refine kRs 4 [Ob 2 (TMsg.ob_00000000000011000000011 (TMsg.mk m.Kind m.From m.To m.Part m.Term m.Index m.LogTerm m.Commit false m.Entries (TTxn.mk 0 0 [] []) 0 0 0 0 false ByteArray.empty ByteArray.empty [] [] 0))] [] .n ?_
    refine kRt ?_
    have h_ := some_inj h
    subst h_
    exact kFr
   ·refine kCe b13_0 ?_
    refine kRs 254 [Tm 51 (bv (m.Kind == 4))] [] .n ?_
    rcases br_inv h with ⟨b17_0, h⟩ | ⟨b17_0, h⟩
    ·refine kCt b17_0 ?_
     refine kRc 164 [Ob 3 (TMsg.ob_00000000010011000000011 (TMsg.mk m.Kind m.From m.To m.Part m.Term m.Index 0 0 m.OK [] (TTxn.mk 0 0 [] []) 0 0 0 0 false ByteArray.empty ByteArray.empty [] [] 0))] [] (.c rT .n) (cR (cR (cR bd23))) [] ?_
     refine kRs 4 [Ob 2 (TMsg.ob_00000000010011000000011 (TMsg.mk m.Kind m.From m.To m.Part m.Term m.Index 0 0 m.OK [] (TTxn.mk 0 0 [] []) 0 0 0 0 false ByteArray.empty ByteArray.empty [] [] 0))] [] .n ?_
     refine kRt ?_
     have h_ := some_inj h
     subst h_
     exact kFr
    ·refine kCe b17_0 ?_
     refine kRs 254 [Tm 62 (bv (m.Kind == 5))] [] .n ?_
     rcases br_inv h with ⟨b21_0, h⟩ | ⟨b21_0, h⟩
     ·refine kCt b21_0 ?_
      refine kRc 164 [Ob 3 (TMsg.ob_00000000010000000000011 (TMsg.mk m.Kind m.From m.To m.Part 0 0 0 0 false [] m.T 0 0 0 0 false ByteArray.empty ByteArray.empty [] [] 0))] [] .n (cR (cR (cR bd23))) [] ?_
      refine kRs 4 [Ob 2 (TMsg.ob_00000000010000000000011 (TMsg.mk m.Kind m.From m.To m.Part 0 0 0 0 false [] m.T 0 0 0 0 false ByteArray.empty ByteArray.empty [] [] 0))] [] .n ?_
      refine kRt ?_
      have h_ := some_inj h
      subst h_
      exact kFr
     ·refine kCe b21_0 ?_
      refine kRs 254 [Tm 67 (bv (m.Kind == 6))] [] .n ?_
      rcases br_inv h with ⟨b25_0, h⟩ | ⟨b25_0, h⟩
      ·refine kCt b25_0 ?_
       refine kRc 164 [Ob 3 (TMsg.ob_00000000010011000000011 (TMsg.mk m.Kind m.From m.To m.Part 0 0 0 0 false [] (TTxn.mk 0 0 [] []) 0 0 m.Pos m.Shard false ByteArray.empty ByteArray.empty [] [] 0))] [] (.c rT .n) (cR (cR (cR bd23))) [] ?_
       refine kRs 4 [Ob 2 (TMsg.ob_00000000010011000000011 (TMsg.mk m.Kind m.From m.To m.Part 0 0 0 0 false [] (TTxn.mk 0 0 [] []) 0 0 m.Pos m.Shard false ByteArray.empty ByteArray.empty [] [] 0))] [] .n ?_
       refine kRt ?_
       have h_ := some_inj h
       subst h_
       exact kFr
      ·refine kCe b25_0 ?_
       refine kRs 254 [Tm 75 (bv (m.Kind == 7))] [] .n ?_
       rcases br_inv h with ⟨b29_0, h⟩ | ⟨b29_0, h⟩
       ·refine kCt b29_0 ?_
        refine kRc 164 [Ob 3 (TMsg.ob_00000000010011000000011 (TMsg.mk m.Kind m.From m.To m.Part 0 0 0 0 m.OK [] (TTxn.mk 0 0 [] []) 0 0 m.Pos m.Shard false ByteArray.empty ByteArray.empty [] [] 0))] [] (.c rT .n) (cR (cR (cR bd23))) [] ?_
        refine kRs 4 [Ob 2 (TMsg.ob_00000000010011000000011 (TMsg.mk m.Kind m.From m.To m.Part 0 0 0 0 m.OK [] (TTxn.mk 0 0 [] []) 0 0 m.Pos m.Shard false ByteArray.empty ByteArray.empty [] [] 0))] [] .n ?_
        refine kRt ?_
        have h_ := some_inj h
        subst h_
        exact kFr
       ·refine kCe b29_0 ?_
        refine kRs 254 [Tm 86 (bv (m.Kind == 8))] [] .n ?_
        rcases br_inv h with ⟨b33_0, h⟩ | ⟨b33_0, h⟩
        ·refine kCt b33_0 ?_
         refine kRc 164 [Ob 3 (TMsg.ob_00000000010011000000001 (TMsg.mk m.Kind m.From m.To m.Part 0 0 0 0 false [] (TTxn.mk 0 0 [] []) m.Session m.Seq m.Pos m.Shard m.Span m.FromKey m.ToKey m.Keys [] 0))] [] (.c rT .n) (cR (cR (cR bd23))) [] ?_
         refine kRs 4 [Ob 2 (TMsg.ob_00000000010011000000001 (TMsg.mk m.Kind m.From m.To m.Part 0 0 0 0 false [] (TTxn.mk 0 0 [] []) m.Session m.Seq m.Pos m.Shard m.Span m.FromKey m.ToKey m.Keys [] 0))] [] .n ?_
         refine kRt ?_
         have h_ := some_inj h
         subst h_
         exact kFr
        ·refine kCe b33_0 ?_
         refine kRs 252 [Tm 112 (bv (m.Kind == 9))] [] .n ?_
         rcases br_inv h with ⟨b37_0, h⟩ | ⟨b37_0, h⟩
         ·refine kCt b37_0 ?_
          refine kRs 122 [Ob 3 (TMsg.ob_00000000010011000000001 (TMsg.mk m.Kind m.From m.To m.Part 0 0 0 0 false [] (TTxn.mk 0 0 [] []) m.Session m.Seq m.Pos m.Shard m.Span m.FromKey m.ToKey m.Keys [] 0))] [] (.c rT .n) ?_
          refine kRc 42 [Ob 3 (TMsg.ob_00000000010011 (TMsg.mk m.Kind m.From m.To m.Part 0 0 0 0 false [] (TTxn.mk 0 0 [] []) m.Session m.Seq m.Pos m.Shard m.Span m.FromKey m.ToKey m.Keys m.Got m.Err))] [] (.c rT .n) (cR (cR (cR bd23))) [] ?_
          refine kRs 4 [Ob 2 (TMsg.ob_00000000010011 (TMsg.mk m.Kind m.From m.To m.Part 0 0 0 0 false [] (TTxn.mk 0 0 [] []) m.Session m.Seq m.Pos m.Shard m.Span m.FromKey m.ToKey m.Keys m.Got m.Err))] [] .n ?_
          refine kRt ?_
          have h_ := some_inj h
          subst h_
          exact kFr
         ·refine kCe b37_0 ?_
          refine kSk ?_
          refine kCd (cR (cR (cR bd23))) [] ?_
          refine kRs 16 [Ob 2 (TMsg.ob_00000000010011000000011 (TMsg.mk m.Kind m.From m.To m.Part 0 0 0 0 false [] (TTxn.mk 0 0 [] []) 0 0 0 0 false ByteArray.empty ByteArray.empty [] [] 0))] [] .n ?_
          refine kRt ?_
          have h_ := some_inj h
          subst h_
          exact kFr
def bd63 : Code := (Try.f63.body).getD .skip
def diwanref1_none.O : Nat → Nat := fun t => bif ([1, 2, 4] : List Nat).any (Nat.beq t) then 1 else 0
def diwanref1_none (fu : Nat) (t : TTxn) : Option Bool :=
 bd (diwanref1_SameTxn fu t (TTxn.mk 0 0 [] [])) fun r2_1 =>
 some r2_1
theorem diwanref1_none.meets (fu : Nat) (t : TTxn) (z0 : Bool) (h : diwanref1_none fu t = some z0) : Meets Try.prog ⟨63, [.data (TTxn.ag t)], []⟩ ⟨bv z0, []⟩ := by
 refine kMt hmix diwanref1_none.O Try.f63 bd63 1 ?_
 unfold diwanref1_none at h
 refine kRs 0 [Tm 1 (.ptr 1 0), Ob 1 (TTxn.ob t)] [] .n ?_
 obtain ⟨r2_1, h2_2, h⟩ := bd_inv h
 refine kRs 0 [Tm 2 (bv r2_1)] [.a ⟨bv r2_1, []⟩] (.c (Asks.of (C := Meets Try.prog) (diwanref1_SameTxn.meets fu t (TTxn.mk 0 0 [] []) _ h2_2)) .n) ?_
 refine kRt ?_
 have h_ := some_inj h
 subst h_
 exact kFr
def bd64 : Code := (Try.f64.body).getD .skip
def diwanref1_MayKey.O : Nat → Nat := fun t => bif ([2, 3] : List Nat).any (Nat.beq t) then 1 else 0
def diwanref1_MayKey.lp3 (fu : Nat) (l3_0 : ByteArray) : Nat → Int → Option (Unit ⊕ Unit)
  | 0, _ => none
  | n_ + 1, l3_1 =>
  br (decide (l3_1 < (l3_0.size : Int)))
   (gd (decide ((0 : Int) ≤ l3_1 ∧ l3_1 < (l3_0.size : Int))) <|
   br (decide ((byteAt l3_0 l3_1) < 33))
    (some (.inr ()))
    (gd (decide ((0 : Int) ≤ l3_1 ∧ l3_1 < (l3_0.size : Int))) <|
    br (decide ((byteAt l3_0 l3_1) > 126))
     (some (.inr ()))
     (diwanref1_MayKey.lp3 fu l3_0 n_ (w64 (l3_1 + 1)))))
   (some (.inl ()))
def diwanref1_MayKey.lp3_post (l3_0 : ByteArray) (r_ : (Unit ⊕ Unit)) : Wy → St → Prop := fun e τ => match r_ with
  | .inl _ => e = .exit 0 ∧ τ = ofL [Tm 0 (sv l3_0)]
  | .inr _ => e = .ret ∧ τ = ofL [Tm 2 (bv false)]
theorem diwanref1_MayKey.lp3_ok (fu : Nat) (l3_0 : ByteArray) : ∀ (n_ : Nat) (l3_1 : Int) (r_ : (Unit ⊕ Unit)), diwanref1_MayKey.lp3 fu l3_0 n_ l3_1 = some r_ → WK Try.prog diwanref1_MayKey.O (Ck Try.prog) (cB (cR (cL (cR bd64)))) [] (ofL [Tm 0 (sv l3_0), Tm 3 (iv l3_1)]) (diwanref1_MayKey.lp3_post l3_0 r_) := by
 intro n_
 induction n_ with
 | zero => intro l3_1 r_ h; exact no_none h
 | succ n_ ih =>
  intro l3_1 r_ h
  refine kLp ?_
  refine kSq ?_
  refine kRs 3 [Tm 7 (bv (decide (l3_1 < (l3_0.size : Int))))] [] .n ?_
  rcases br_inv h with ⟨b5_0, h⟩ | ⟨b5_0, h⟩
  ·refine kCt b5_0 ?_
   refine kSk ?_
   refine kCd (cR (cB (cB (cR (cL (cR bd64)))))) [.lp (cB (cR (cL (cR bd64))))] ?_
   refine kSq ?_
   refine kBk 1 ?_
   obtain ⟨c6_1, h⟩ := gd_inv h
   rcases br_inv h with ⟨b6_2, h⟩ | ⟨b6_2, h⟩
   ·refine kRs 6 [Tm 19 (bv true)] (rp 5 (.b true) []) (.c c6_1 (.r 5 b6_2 .n)) ?_
    refine kCt rT ?_
    refine kRs 0 [Tm 2 (bv false)] [] .n ?_
    cases some_inj h
    refine kWo ?_
    refine kRt ?_
    exact kOut
   ·obtain ⟨c6_3, h⟩ := gd_inv h
    refine kRs 6 [Tm 19 (bv (decide ((byteAt l3_0 l3_1) > 126)))] (rp 5 (.b false) []) (.c c6_1 (.r 3 b6_2 (.c c6_3 (.r 2 b6_2 .n)))) ?_
    rcases br_inv h with ⟨b8_0, h⟩ | ⟨b8_0, h⟩
    ·refine kCt b8_0 ?_
     refine kRs 0 [Tm 2 (bv false)] [] .n ?_
     cases some_inj h
     refine kWo ?_
     refine kRt ?_
     exact kOut
    ·refine kCe b8_0 ?_
     refine kSk ?_
     refine kCd (cR (cR (cB (cB (cR (cL (cR bd64))))))) [.lp (cB (cR (cL (cR bd64))))] ?_
     refine kRc 2 [Tm 3 (iv (w64 (l3_1 + 1)))] [] .n (cB (cR (cL (cR bd64)))) [] ?_
     exact kWk (ih (w64 (l3_1 + 1)) _ h)
  ·refine kCe b5_0 ?_
   cases some_inj h
   refine kWo ?_
   refine kXt 0 ?_
   exact kOut
def diwanref1_MayKey (fu : Nat) (k_v : ByteArray) : Option Bool :=
 bd (diwanref1_MayKey.lp3 fu k_v fu 0) fun o_ => (match o_ with
 | .inl _ =>
  br (decide ((k_v.size : Int) ≥ 1))
   (some (decide ((k_v.size : Int) ≤ 8)))
   (some false)
 | .inr _ =>
  some false)
theorem diwanref1_MayKey.meets (fu : Nat) (k_v : ByteArray) (z0 : Bool) (h : diwanref1_MayKey fu k_v = some z0) : Meets Try.prog ⟨64, [sv k_v], []⟩ ⟨bv z0, []⟩ := by
 refine kMt hmix diwanref1_MayKey.O Try.f64 bd64 1 ?_
 unfold diwanref1_MayKey at h
 refine kRs 1 [] [] .n ?_
 refine kSq ?_
 refine kRs 1 [Tm 3 (iv 0)] [] .n ?_
 refine kBk 0 ?_
 obtain ⟨o11, ho11, h⟩ := bd_inv h
 refine kUs (diwanref1_MayKey.lp3_ok fu k_v _ 0 _ ho11) ?_
 intro e_ τ_ hp_
 rcases o11 with o11 | o11
 ·obtain ⟨⟩ := o11
  obtain ⟨rfl, rfl⟩ := hp_
  refine kCd (cR (cR bd64)) [] ?_
  rcases br_inv h with ⟨b12_1, h⟩ | ⟨b12_1, h⟩
  ·refine kRs 0 [Tm 2 (bv (decide ((k_v.size : Int) ≤ 8)))] (rp 4 (.b true) []) (.r 4 b12_1 .n) ?_
   refine kRt ?_
   have h_ := some_inj h
   subst h_
   exact kFr
  ·refine kRs 0 [Tm 2 (bv false)] (rp 4 (.b false) []) (.r 4 b12_1 .n) ?_
   refine kRt ?_
   have h_ := some_inj h
   subst h_
   exact kFr
 ·obtain ⟨⟩ := o11
  obtain ⟨rfl, rfl⟩ := hp_
  have h_ := some_inj h
  subst h_
  exact kFr
def bd26 : Code := (Try.f26.body).getD .skip
def diwanref1_Rising.O : Nat → Nat := fun t => bif ([2, 3] : List Nat).any (Nat.beq t) then 1 else 0
def diwanref1_Rising.lp3 (fu : Nat) (l3_0 : List ByteArray) : Nat → Int → Option (Unit ⊕ Unit)
  | 0, _ => none
  | n_ + 1, l3_1 =>
  br (decide (l3_1 < (l3_0.length : Int)))
   (ix l3_0 l3_1 fun x6_1 =>
   bd (diwanref1_MayKey fu x6_1) fun r6_4 =>
   br (!r6_4)
    (some (.inr ()))
    (br (decide (l3_1 > 0))
     (ix l3_0 l3_1 fun x6_8 =>
     ix l3_0 (w64 (l3_1 - 1)) fun x6_11 =>
     br ((Op.bytesLess x6_8.toList x6_11.toList) || (x6_8.toList == x6_11.toList))
      (some (.inr ()))
      (diwanref1_Rising.lp3 fu l3_0 n_ (w64 (l3_1 + 1))))
     (diwanref1_Rising.lp3 fu l3_0 n_ (w64 (l3_1 + 1)))))
   (some (.inl ()))
def diwanref1_Rising.lp3_post (l3_0 : List ByteArray) (r_ : (Unit ⊕ Unit)) : Wy → St → Prop := fun e τ => match r_ with
  | .inl _ => e = .exit 0 ∧ τ = ofL []
  | .inr _ => e = .ret ∧ τ = ofL [Tm 2 (bv false)]
theorem diwanref1_Rising.lp3_ok (fu : Nat) (l3_0 : List ByteArray) : ∀ (n_ : Nat) (l3_1 : Int) (r_ : (Unit ⊕ Unit)), diwanref1_Rising.lp3 fu l3_0 n_ l3_1 = some r_ → WK Try.prog diwanref1_Rising.O (Ck Try.prog) (cB (cR (cL (cR bd26)))) [] (ofL [Tm 0 (sS 1 e_s l3_0), Tm 3 (iv l3_1)]) (diwanref1_Rising.lp3_post l3_0 r_) := by
 intro n_
 induction n_ with
 | zero => intro l3_1 r_ h; exact no_none h
 | succ n_ ih =>
  intro l3_1 r_ h
  refine kLp ?_
  refine kSq ?_
  refine kRs 3 [Tm 7 (bv (decide (l3_1 < (l3_0.length : Int))))] [.s (.t 6) [iv (l3_0.length : Int)]] (.c (c_len (e := e_s) (l := l3_0)) .n) ?_
  rcases br_inv h with ⟨b5_0, h⟩ | ⟨b5_0, h⟩
  ·refine kCt b5_0 ?_
   refine kSk ?_
   refine kCd (cR (cB (cB (cR (cL (cR bd26)))))) [.lp (cB (cR (cL (cR bd26))))] ?_
   refine kSq ?_
   refine kBk 1 ?_
   obtain ⟨x6_1, a6_2, e6_3, h⟩ := ix_inv h
   obtain ⟨r6_4, h6_5, h⟩ := bd_inv h
   rcases br_inv h with ⟨b6_6, h⟩ | ⟨b6_6, h⟩
   ·refine kRs 6 [Tm 31 (bv true)] (.c (e_s x6_1) :: (.a ⟨bv r6_4, []⟩ :: (rp 5 (.b true) []))) (.c (c_ix (e := e_s) a6_2 e6_3) (.c (c_el (e := e_s) e6_3) (.c (Asks.of (C := Meets Try.prog) (diwanref1_MayKey.meets fu x6_1 _ h6_5)) (.r 5 b6_6 (.c rT .n))))) ?_
    refine kCt rT ?_
    refine kRs 0 [Tm 2 (bv false)] [] .n ?_
    cases some_inj h
    refine kWo ?_
    refine kRt ?_
    exact kOut
   ·rcases br_inv h with ⟨b6_7, h⟩ | ⟨b6_7, h⟩
    ·obtain ⟨x6_8, a6_9, e6_10, h⟩ := ix_inv h
     obtain ⟨x6_11, a6_12, e6_13, h⟩ := ix_inv h
     refine kRs 6 [Tm 31 (bv ((Op.bytesLess x6_8.toList x6_11.toList) || (x6_8.toList == x6_11.toList)))] (.c (e_s x6_1) :: (.a ⟨bv r6_4, []⟩ :: (.b false :: (.b false :: (.b false :: (.b true :: (.b true :: (.b true :: (.c (e_s x6_8) :: (rp 5 (.b true) [.c (e_s x6_11), .b true, .b true, .b false, .b true, .b false])))))))))) (.c (c_ix (e := e_s) a6_2 e6_3) (.c (c_el (e := e_s) e6_3) (.c (Asks.of (C := Meets Try.prog) (diwanref1_MayKey.meets fu x6_1 _ h6_5)) (.r 3 b6_6 (.r 3 b6_7 (.c (c_ix (e := e_s) a6_9 e6_10) (.c (c_el (e := e_s) e6_10) (.r 5 b6_7 (.c (c_ix (e := e_s) a6_12 e6_13) (.c (c_el (e := e_s) e6_13) (.r 2 b6_7 (.c b6_6 (.c b6_7 (.c b6_6 (.c rT .n))))))))))))))) ?_
     rcases br_inv h with ⟨b8_0, h⟩ | ⟨b8_0, h⟩
     ·refine kCt b8_0 ?_
      refine kRs 0 [Tm 2 (bv false)] [] .n ?_
      cases some_inj h
      refine kWo ?_
      refine kRt ?_
      exact kOut
     ·refine kCe b8_0 ?_
      refine kSk ?_
      refine kCd (cR (cR (cB (cB (cR (cL (cR bd26))))))) [.lp (cB (cR (cL (cR bd26))))] ?_
      refine kRc 2 [Tm 3 (iv (w64 (l3_1 + 1)))] [] .n (cB (cR (cL (cR bd26)))) [] ?_
      exact kWk (ih (w64 (l3_1 + 1)) _ h)
    ·refine kRs 6 [Tm 31 (bv false)] (.c (e_s x6_1) :: (.a ⟨bv r6_4, []⟩ :: (rp 16 (.b false) []))) (.c (c_ix (e := e_s) a6_2 e6_3) (.c (c_el (e := e_s) e6_3) (.c (Asks.of (C := Meets Try.prog) (diwanref1_MayKey.meets fu x6_1 _ h6_5)) (.r 3 b6_6 (.r 10 b6_7 (.c b6_6 (.c b6_7 (.c b6_6 (.c rT .n))))))))) ?_
     refine kCe rF ?_
     refine kSk ?_
     refine kCd (cR (cR (cB (cB (cR (cL (cR bd26))))))) [.lp (cB (cR (cL (cR bd26))))] ?_
     refine kRc 2 [Tm 3 (iv (w64 (l3_1 + 1)))] [] .n (cB (cR (cL (cR bd26)))) [] ?_
     exact kWk (ih (w64 (l3_1 + 1)) _ h)
  ·refine kCe b5_0 ?_
   cases some_inj h
   refine kWo ?_
   refine kXt 0 ?_
   exact kOut
def diwanref1_Rising (fu : Nat) (l : List ByteArray) : Option Bool :=
 bd (diwanref1_Rising.lp3 fu l fu 0) fun o_ => (match o_ with
 | .inl _ =>
  some true
 | .inr _ =>
  some false)
theorem diwanref1_Rising.meets (fu : Nat) (l : List ByteArray) (z0 : Bool) (h : diwanref1_Rising fu l = some z0) : Meets Try.prog ⟨26, [sS 1 e_s l], []⟩ ⟨bv z0, []⟩ := by
 refine kMt hmix diwanref1_Rising.O Try.f26 bd26 1 ?_
 unfold diwanref1_Rising at h
 refine kRs 1 [] [] .n ?_
 refine kSq ?_
 refine kRs 1 [Tm 3 (iv 0)] [] .n ?_
 refine kBk 0 ?_
 obtain ⟨o12, ho12, h⟩ := bd_inv h
 refine kUs (diwanref1_Rising.lp3_ok fu l _ 0 _ ho12) ?_
 intro e_ τ_ hp_
 rcases o12 with o12 | o12
 ·obtain ⟨⟩ := o12
  obtain ⟨rfl, rfl⟩ := hp_
  refine kCd (cR (cR bd26)) [] ?_
  refine kRs 0 [Tm 2 (bv true)] [] .n ?_
  refine kRt ?_
  have h_ := some_inj h
  subst h_
  exact kFr
 ·obtain ⟨⟩ := o12
  obtain ⟨rfl, rfl⟩ := hp_
  have h_ := some_inj h
  subst h_
  exact kFr
def bd25 : Code := (Try.f25.body).getD .skip
def diwanref1_MayTxn.O : Nat → Nat := fun t => bif ([1, 2, 3, 4, 5, 6, 7, 8, 24, 69] : List Nat).any (Nat.beq t) then 1 else 0
def diwanref1_MayTxn.lp4 (fu : Nat) (l4_2 : TTxn) : Nat → (List ByteArray) → Int → Option ((List ByteArray) ⊕ Unit)
  | 0, _, _ => none
  | n_ + 1, l4_0, l4_1 =>
  br (decide (l4_1 < (l4_2.Reads.length : Int)))
   (ix l4_2.Reads l4_1 fun x7_1 =>
   gd (decide (l4_0.length + ([x7_1.Key] : List ByteArray).length ≤ 4294967296)) <|
   br (decide (x7_1.Version < 0))
    (some (.inr ()))
    (br (decide ((x7_1.Val.size : Int) > 16))
     (some (.inr ()))
     (br (!x7_1.There)
      (br (!(x7_1.Val.toList == ByteArray.empty.toList))
       (some (.inr ()))
       (br x7_1.There
        (br (x7_1.Version == 0)
         (some (.inr ()))
         (diwanref1_MayTxn.lp4 fu l4_2 n_ (l4_0 ++ ([x7_1.Key] : List ByteArray)) (w64 (l4_1 + 1))))
        (diwanref1_MayTxn.lp4 fu l4_2 n_ (l4_0 ++ ([x7_1.Key] : List ByteArray)) (w64 (l4_1 + 1)))))
      (br x7_1.There
       (br (x7_1.Version == 0)
        (some (.inr ()))
        (diwanref1_MayTxn.lp4 fu l4_2 n_ (l4_0 ++ ([x7_1.Key] : List ByteArray)) (w64 (l4_1 + 1))))
       (diwanref1_MayTxn.lp4 fu l4_2 n_ (l4_0 ++ ([x7_1.Key] : List ByteArray)) (w64 (l4_1 + 1)))))))
   (some (.inl l4_0))
def diwanref1_MayTxn.lp4_post (l4_2 : TTxn) (r_ : ((List ByteArray) ⊕ Unit)) : Wy → St → Prop := fun e τ => match r_ with
  | .inl y0 => e = .exit 0 ∧ τ = ofL [Tm 1 (.ptr 1 0), Tm 3 (sO 1 e_s y0), Tm 4 (.data (.slc true (some true) 1 (List.map e_s []))), Ob 1 (TTxn.ob l4_2)]
  | .inr _ => e = .ret ∧ τ = ofL [Tm 2 (bv false)]
theorem diwanref1_MayTxn.lp4_ok (fu : Nat) (l4_2 : TTxn) : ∀ (n_ : Nat) (l4_0 : List ByteArray) (l4_1 : Int) (r_ : ((List ByteArray) ⊕ Unit)), diwanref1_MayTxn.lp4 fu l4_2 n_ l4_0 l4_1 = some r_ → WK Try.prog diwanref1_MayTxn.O (Ck Try.prog) (cB (cR (cL (cR (cR bd25))))) [] (ofL [Tm 1 (.ptr 1 0), Tm 3 (sO 1 e_s l4_0), Tm 4 (.data (.slc true (some true) 1 (List.map e_s []))), Tm 5 (iv l4_1), Ob 1 (TTxn.ob l4_2)]) (diwanref1_MayTxn.lp4_post l4_2 r_) := by
 intro n_
 induction n_ with
 | zero => intro l4_0 l4_1 r_ h; exact no_none h
 | succ n_ ih =>
  intro l4_0 l4_1 r_ h
  refine kLp ?_
  refine kSq ?_
  refine kRs 31 [Tm 13 (bv (decide (l4_1 < (l4_2.Reads.length : Int))))] [.s (.t 12) [iv (l4_2.Reads.length : Int)]] (.c (c_len (e := TRead.en) (l := l4_2.Reads)) .n) ?_
  rcases br_inv h with ⟨b6_0, h⟩ | ⟨b6_0, h⟩
  ·refine kCt b6_0 ?_
   refine kSk ?_
   refine kCd (cR (cB (cB (cR (cL (cR (cR bd25))))))) [.lp (cB (cR (cL (cR (cR bd25)))))] ?_
   refine kSq ?_
   refine kBk 1 ?_
   obtain ⟨x7_1, a7_2, e7_3, h⟩ := ix_inv h
   refine kRs 62 [Tm 6 (.ptr 6 0), Ob 6 (TRead.ob x7_1)] [.c (TRead.en x7_1)] (.c (c_ix (e := TRead.en) a7_2 e7_3) (.c (c_el (e := TRead.en) e7_3) .n)) ?_
   obtain ⟨c8_1, h⟩ := gd_inv h
   refine kRs 119 [Tm 3 (sO 1 e_s (l4_0 ++ ([x7_1.Key] : List ByteArray)))] [.s (.t 25) [sO 1 e_s (l4_0 ++ ([x7_1.Key] : List ByteArray))]] (.c (c_al (e := e_s) (f := e_s) c8_1) (.c (congrArg (fun d : DV => [AV.data d]) (c_app (e := e_s) (s := 1) (l := l4_0) (m := ([x7_1.Key] : List ByteArray)))) .n)) ?_
   rcases br_inv h with ⟨b9_1, h⟩ | ⟨b9_1, h⟩
   ·refine kRs 121 [Tm 53 (bv true)] (rp 16 (.b true) []) (.r 5 b9_1 (.r 11 rT .n)) ?_
    refine kCt rT ?_
    refine kRs 0 [Tm 2 (bv false)] [] .n ?_
    cases some_inj h
    refine kWo ?_
    refine kRt ?_
    exact kOut
   ·rcases br_inv h with ⟨b9_2, h⟩ | ⟨b9_2, h⟩
    ·refine kRs 121 [Tm 53 (bv true)] (rp 5 (.b false) (rp 11 (.b true) [])) (.r 5 b9_1 (.r 6 b9_2 (.r 5 rT .n))) ?_
     refine kCt rT ?_
     refine kRs 0 [Tm 2 (bv false)] [] .n ?_
     cases some_inj h
     refine kWo ?_
     refine kRt ?_
     exact kOut
    ·rcases br_inv h with ⟨b9_3, h⟩ | ⟨b9_3, h⟩
     ·rcases br_inv h with ⟨b9_4, h⟩ | ⟨b9_4, h⟩
      ·refine kRs 121 [Tm 53 (bv true)] (rp 9 (.b false) (.b true :: (.b true :: (.b true :: (.b false :: (.b true :: (.b false :: (rp 5 (.b true) [])))))))) (.r 5 b9_1 (.r 4 b9_2 (.r 3 b9_3 (.c b9_2 (.c b9_3 (.c b9_2 (.r 5 b9_4 .n))))))) ?_
       refine kCt rT ?_
       refine kRs 0 [Tm 2 (bv false)] [] .n ?_
       cases some_inj h
       refine kWo ?_
       refine kRt ?_
       exact kOut
      ·rcases br_inv h with ⟨b9_5, h⟩ | ⟨b9_5, h⟩
       ·refine kRs 121 [Tm 53 (bv (x7_1.Version == 0))] (rp 9 (.b false) (.b true :: (.b true :: (.b true :: (.b false :: (.b true :: (rp 4 (.b false) [.b true, .b true, .b true, .b false, .b true, .b false]))))))) (.r 5 b9_1 (.r 4 b9_2 (.r 3 b9_3 (.c b9_2 (.c b9_3 (.c b9_2 (.r 3 b9_4 (.r 3 b9_5 (.c b9_4 (.c b9_5 (.c b9_4 .n))))))))))) ?_
        rcases br_inv h with ⟨b13_0, h⟩ | ⟨b13_0, h⟩
        ·refine kCt b13_0 ?_
         refine kRs 0 [Tm 2 (bv false)] [] .n ?_
         cases some_inj h
         refine kWo ?_
         refine kRt ?_
         exact kOut
        ·refine kCe b13_0 ?_
         refine kSk ?_
         refine kCd (cR (cR (cB (cB (cR (cL (cR (cR bd25)))))))) [.lp (cB (cR (cL (cR (cR bd25)))))] ?_
         refine kRc 46 [Tm 5 (iv (w64 (l4_1 + 1)))] [] .n (cB (cR (cL (cR (cR bd25))))) [] ?_
         exact kWk (ih (l4_0 ++ ([x7_1.Key] : List ByteArray)) (w64 (l4_1 + 1)) _ h)
       ·refine kRs 121 [Tm 53 (bv false)] (rp 9 (.b false) (.b true :: (.b true :: (.b true :: (.b false :: (.b true :: (rp 10 (.b false) []))))))) (.r 5 b9_1 (.r 4 b9_2 (.r 3 b9_3 (.c b9_2 (.c b9_3 (.c b9_2 (.r 3 b9_4 (.r 3 b9_5 (.c b9_4 (.c b9_5 (.c b9_4 .n))))))))))) ?_
        refine kCe rF ?_
        refine kSk ?_
        refine kCd (cR (cR (cB (cB (cR (cL (cR (cR bd25)))))))) [.lp (cB (cR (cL (cR (cR bd25)))))] ?_
        refine kRc 46 [Tm 5 (iv (w64 (l4_1 + 1)))] [] .n (cB (cR (cL (cR (cR bd25))))) [] ?_
        exact kWk (ih (l4_0 ++ ([x7_1.Key] : List ByteArray)) (w64 (l4_1 + 1)) _ h)
     ·rcases br_inv h with ⟨b9_4, h⟩ | ⟨b9_4, h⟩
      ·refine kRs 121 [Tm 53 (bv (x7_1.Version == 0))] (rp 18 (.b false) [.b true, .b true, .b true, .b false, .b true, .b false]) (.r 5 b9_1 (.r 4 b9_2 (.r 3 b9_3 (.c b9_2 (.c b9_3 (.c b9_2 (.r 3 rF (.r 3 b9_4 (.c rF (.c b9_4 (.c rF .n))))))))))) ?_
       rcases br_inv h with ⟨b17_0, h⟩ | ⟨b17_0, h⟩
       ·refine kCt b17_0 ?_
        refine kRs 0 [Tm 2 (bv false)] [] .n ?_
        cases some_inj h
        refine kWo ?_
        refine kRt ?_
        exact kOut
       ·refine kCe b17_0 ?_
        refine kSk ?_
        refine kCd (cR (cR (cB (cB (cR (cL (cR (cR bd25)))))))) [.lp (cB (cR (cL (cR (cR bd25)))))] ?_
        refine kRc 46 [Tm 5 (iv (w64 (l4_1 + 1)))] [] .n (cB (cR (cL (cR (cR bd25))))) [] ?_
        exact kWk (ih (l4_0 ++ ([x7_1.Key] : List ByteArray)) (w64 (l4_1 + 1)) _ h)
      ·refine kRs 121 [Tm 53 (bv false)] (rp 24 (.b false) []) (.r 5 b9_1 (.r 4 b9_2 (.r 3 b9_3 (.c b9_2 (.c b9_3 (.c b9_2 (.r 3 rF (.r 3 b9_4 (.c rF (.c b9_4 (.c rF .n))))))))))) ?_
       refine kCe rF ?_
       refine kSk ?_
       refine kCd (cR (cR (cB (cB (cR (cL (cR (cR bd25)))))))) [.lp (cB (cR (cL (cR (cR bd25)))))] ?_
       refine kRc 46 [Tm 5 (iv (w64 (l4_1 + 1)))] [] .n (cB (cR (cL (cR (cR bd25))))) [] ?_
       exact kWk (ih (l4_0 ++ ([x7_1.Key] : List ByteArray)) (w64 (l4_1 + 1)) _ h)
  ·refine kCe b6_0 ?_
   cases some_inj h
   refine kWo ?_
   refine kXt 0 ?_
   exact kOut
def diwanref1_MayTxn.lp23 (fu : Nat) (l23_0 : List ByteArray) (l23_3 : TTxn) : Nat → (List ByteArray) → Int → Option ((List ByteArray) ⊕ Unit)
  | 0, _, _ => none
  | n_ + 1, l23_1, l23_2 =>
  br (decide (l23_2 < (l23_3.Writes.length : Int)))
   (ix l23_3.Writes l23_2 fun x26_1 =>
   gd (decide (l23_1.length + ([x26_1.Key] : List ByteArray).length ≤ 4294967296)) <|
   br (decide ((x26_1.Val.size : Int) > 16))
    (some (.inr ()))
    (br x26_1.Gone
     (br (!(x26_1.Val.toList == ByteArray.empty.toList))
      (some (.inr ()))
      (diwanref1_MayTxn.lp23 fu l23_0 l23_3 n_ (l23_1 ++ ([x26_1.Key] : List ByteArray)) (w64 (l23_2 + 1))))
     (diwanref1_MayTxn.lp23 fu l23_0 l23_3 n_ (l23_1 ++ ([x26_1.Key] : List ByteArray)) (w64 (l23_2 + 1)))))
   (some (.inl l23_1))
def diwanref1_MayTxn.lp23_post (l23_0 : List ByteArray) (l23_3 : TTxn) (r_ : ((List ByteArray) ⊕ Unit)) : Wy → St → Prop := fun e τ => match r_ with
  | .inl y0 => e = .exit 2 ∧ τ = ofL [Tm 1 (.ptr 1 0), Tm 3 (sO 1 e_s l23_0), Tm 4 (sO 1 e_s y0), Ob 1 (TTxn.ob l23_3)]
  | .inr _ => e = .ret ∧ τ = ofL [Tm 2 (bv false)]
theorem diwanref1_MayTxn.lp23_ok (fu : Nat) (l23_0 : List ByteArray) (l23_3 : TTxn) : ∀ (n_ : Nat) (l23_1 : List ByteArray) (l23_2 : Int) (r_ : ((List ByteArray) ⊕ Unit)), diwanref1_MayTxn.lp23 fu l23_0 l23_3 n_ l23_1 l23_2 = some r_ → WK Try.prog diwanref1_MayTxn.O (Ck Try.prog) (cB (cR (cL (cR (cR (cR bd25)))))) [] (ofL [Tm 1 (.ptr 1 0), Tm 3 (sO 1 e_s l23_0), Tm 4 (sO 1 e_s l23_1), Tm 7 (iv l23_2), Ob 1 (TTxn.ob l23_3)]) (diwanref1_MayTxn.lp23_post l23_0 l23_3 r_) := by
 intro n_
 induction n_ with
 | zero => intro l23_1 l23_2 r_ h; exact no_none h
 | succ n_ ih =>
  intro l23_1 l23_2 r_ h
  refine kLp ?_
  refine kSq ?_
  refine kRs 31 [Tm 58 (bv (decide (l23_2 < (l23_3.Writes.length : Int))))] [.s (.t 57) [iv (l23_3.Writes.length : Int)]] (.c (c_len (e := TWrite.en) (l := l23_3.Writes)) .n) ?_
  rcases br_inv h with ⟨b25_0, h⟩ | ⟨b25_0, h⟩
  ·refine kCt b25_0 ?_
   refine kSk ?_
   refine kCd (cR (cB (cB (cR (cL (cR (cR (cR bd25)))))))) [.lp (cB (cR (cL (cR (cR (cR bd25))))))] ?_
   refine kSq ?_
   refine kBk 3 ?_
   obtain ⟨x26_1, a26_2, e26_3, h⟩ := ix_inv h
   refine kRs 62 [Tm 8 (.ptr 8 0), Ob 8 (TWrite.ob x26_1)] [.c (TWrite.en x26_1)] (.c (c_ix (e := TWrite.en) a26_2 e26_3) (.c (c_el (e := TWrite.en) e26_3) .n)) ?_
   obtain ⟨c27_1, h⟩ := gd_inv h
   refine kRs 111 [Tm 4 (sO 1 e_s (l23_1 ++ ([x26_1.Key] : List ByteArray)))] [.s (.t 70) [sO 1 e_s (l23_1 ++ ([x26_1.Key] : List ByteArray))]] (.c (c_al (e := e_s) (f := e_s) c27_1) (.c (congrArg (fun d : DV => [AV.data d]) (c_app (e := e_s) (s := 1) (l := l23_1) (m := ([x26_1.Key] : List ByteArray)))) .n)) ?_
   rcases br_inv h with ⟨b28_1, h⟩ | ⟨b28_1, h⟩
   ·refine kRs 121 [Tm 83 (bv true)] (rp 5 (.b true) []) (.r 5 b28_1 .n) ?_
    refine kCt rT ?_
    refine kRs 0 [Tm 2 (bv false)] [] .n ?_
    cases some_inj h
    refine kWo ?_
    refine kRt ?_
    exact kOut
   ·rcases br_inv h with ⟨b28_2, h⟩ | ⟨b28_2, h⟩
    ·refine kRs 121 [Tm 83 (bv (!(x26_1.Val.toList == ByteArray.empty.toList)))] [.b false, .b false, .b false, .b true, .b true, .b true, .b false, .b true, .b false] (.r 3 b28_1 (.r 3 b28_2 (.c b28_1 (.c b28_2 (.c b28_1 .n))))) ?_
     rcases br_inv h with ⟨b30_0, h⟩ | ⟨b30_0, h⟩
     ·refine kCt b30_0 ?_
      refine kRs 0 [Tm 2 (bv false)] [] .n ?_
      cases some_inj h
      refine kWo ?_
      refine kRt ?_
      exact kOut
     ·refine kCe b30_0 ?_
      refine kSk ?_
      refine kCd (cR (cR (cB (cB (cR (cL (cR (cR (cR bd25))))))))) [.lp (cB (cR (cL (cR (cR (cR bd25))))))] ?_
      refine kRc 46 [Tm 7 (iv (w64 (l23_2 + 1)))] [] .n (cB (cR (cL (cR (cR (cR bd25)))))) [] ?_
      exact kWk (ih (l23_1 ++ ([x26_1.Key] : List ByteArray)) (w64 (l23_2 + 1)) _ h)
    ·refine kRs 121 [Tm 83 (bv false)] (rp 9 (.b false) []) (.r 3 b28_1 (.r 3 b28_2 (.c b28_1 (.c b28_2 (.c b28_1 .n))))) ?_
     refine kCe rF ?_
     refine kSk ?_
     refine kCd (cR (cR (cB (cB (cR (cL (cR (cR (cR bd25))))))))) [.lp (cB (cR (cL (cR (cR (cR bd25))))))] ?_
     refine kRc 46 [Tm 7 (iv (w64 (l23_2 + 1)))] [] .n (cB (cR (cL (cR (cR (cR bd25)))))) [] ?_
     exact kWk (ih (l23_1 ++ ([x26_1.Key] : List ByteArray)) (w64 (l23_2 + 1)) _ h)
  ·refine kCe b25_0 ?_
   cases some_inj h
   refine kWo ?_
   refine kXt 2 ?_
   exact kOut
def diwanref1_MayTxn (fu : Nat) (t : TTxn) : Option Bool :=
 bd (diwanref1_MayTxn.lp4 fu t fu [] 0) fun o_ => (match o_ with
 | .inl y21_0 =>
  bd (diwanref1_MayTxn.lp23 fu y21_0 t fu [] 0) fun o_ => (match o_ with
  | .inl y34_0 =>
   br (decide (t.Session ≥ 1))
    (br (decide (t.Session ≤ 9))
     (br (decide (t.Seq ≥ 1))
      (br (decide (t.Seq ≤ 1000))
       (br (decide ((y21_0.length : Int) ≤ 6))
        (br (decide ((y34_0.length : Int) ≤ 4))
         (bd (diwanref1_Rising fu y21_0) fun r35_7 =>
         br r35_7
          (bd (diwanref1_Rising fu y34_0) fun r35_10 =>
          some r35_10)
          (some false))
         (some false))
        (some false))
       (some false))
      (some false))
     (some false))
    (some false)
  | .inr _ =>
   some false)
 | .inr _ =>
  some false)
theorem diwanref1_MayTxn.meets (fu : Nat) (t : TTxn) (z0 : Bool) (h : diwanref1_MayTxn fu t = some z0) : Meets Try.prog ⟨25, [.data (TTxn.ag t)], []⟩ ⟨bv z0, []⟩ := by
 refine kMt hmix diwanref1_MayTxn.O Try.f25 bd25 1 ?_
 unfold diwanref1_MayTxn at h
 refine kRs 0 [Tm 1 (.ptr 1 0), Ob 1 (TTxn.ob t)] [] .n ?_
 refine kRs 3 [Tm 3 (.data (.slc true (some true) 1 (List.map e_s []))), Tm 4 (.data (.slc true (some true) 1 (List.map e_s [])))] [] .n ?_
 refine kSq ?_
 refine kRs 15 [Tm 5 (iv 0)] [] .n ?_
 refine kBk 0 ?_
 obtain ⟨o21, ho21, h⟩ := bd_inv h
 refine kUs (diwanref1_MayTxn.lp4_ok fu t _ [] 0 _ ho21) ?_
 intro e_ τ_ hp_
 rcases o21 with o21 | o21
 ·obtain ⟨y21_0, rfl⟩ : ∃ y, y = o21 := ⟨_, rfl⟩
  obtain ⟨rfl, rfl⟩ := hp_
  refine kCd (cR (cR (cR bd25))) [] ?_
  refine kSq ?_
  refine kRs 15 [Tm 7 (iv 0)] [] .n ?_
  refine kBk 2 ?_
  obtain ⟨o34, ho34, h⟩ := bd_inv h
  refine kUs (diwanref1_MayTxn.lp23_ok fu y21_0 t _ [] 0 _ ho34) ?_
  intro e_ τ_ hp_
  rcases o34 with o34 | o34
  ·obtain ⟨y34_0, rfl⟩ : ∃ y, y = o34 := ⟨_, rfl⟩
   obtain ⟨rfl, rfl⟩ := hp_
   refine kCd (cR (cR (cR (cR bd25)))) [] ?_
   rcases br_inv h with ⟨b35_1, h⟩ | ⟨b35_1, h⟩
   ·rcases br_inv h with ⟨b35_2, h⟩ | ⟨b35_2, h⟩
    ·rcases br_inv h with ⟨b35_3, h⟩ | ⟨b35_3, h⟩
     ·rcases br_inv h with ⟨b35_4, h⟩ | ⟨b35_4, h⟩
      ·rcases br_inv h with ⟨b35_5, h⟩ | ⟨b35_5, h⟩
       ·rcases br_inv h with ⟨b35_6, h⟩ | ⟨b35_6, h⟩
        ·obtain ⟨r35_7, h35_8, h⟩ := bd_inv h
         rcases br_inv h with ⟨b35_9, h⟩ | ⟨b35_9, h⟩
         ·obtain ⟨r35_10, h35_11, h⟩ := bd_inv h
          refine kRs 0 [Tm 2 (bv r35_10)] (rp 14 (.b true) (.s (.t 104) [iv (y21_0.length : Int)] :: (rp 4 (.b true) (.s (.t 109) [iv (y34_0.length : Int)] :: (rp 4 (.b true) [.a ⟨bv r35_7, []⟩, .b true, .b true, .b true, .a ⟨bv r35_10, []⟩, .b true]))))) (.r 4 b35_1 (.r 4 b35_2 (.r 4 b35_3 (.r 2 b35_4 (.c (c_len (e := e_s) (l := y21_0)) (.r 2 b35_4 (.r 2 b35_5 (.c (c_len (e := e_s) (l := y34_0)) (.r 2 b35_5 (.r 2 b35_6 (.c (Asks.of (C := Meets Try.prog) (diwanref1_Rising.meets fu y21_0 _ h35_8)) (.c b35_6 (.r 2 b35_9 (.c (Asks.of (C := Meets Try.prog) (diwanref1_Rising.meets fu y34_0 _ h35_11)) (.c b35_9 .n))))))))))))))) ?_
          refine kRt ?_
          have h_ := some_inj h
          subst h_
          exact kFr
         ·refine kRs 0 [Tm 2 (bv false)] (rp 14 (.b true) (.s (.t 104) [iv (y21_0.length : Int)] :: (rp 4 (.b true) (.s (.t 109) [iv (y34_0.length : Int)] :: (rp 4 (.b true) [.a ⟨bv r35_7, []⟩, .b true, .b false, .b false, .b false]))))) (.r 4 b35_1 (.r 4 b35_2 (.r 4 b35_3 (.r 2 b35_4 (.c (c_len (e := e_s) (l := y21_0)) (.r 2 b35_4 (.r 2 b35_5 (.c (c_len (e := e_s) (l := y34_0)) (.r 2 b35_5 (.r 2 b35_6 (.c (Asks.of (C := Meets Try.prog) (diwanref1_Rising.meets fu y21_0 _ h35_8)) (.c b35_6 (.r 3 b35_9 .n))))))))))))) ?_
          refine kRt ?_
          have h_ := some_inj h
          subst h_
          exact kFr
        ·refine kRs 0 [Tm 2 (bv false)] (rp 14 (.b true) (.s (.t 104) [iv (y21_0.length : Int)] :: (rp 4 (.b true) (.s (.t 109) [iv (y34_0.length : Int)] :: (.b true :: (.b true :: (rp 6 (.b false) []))))))) (.r 4 b35_1 (.r 4 b35_2 (.r 4 b35_3 (.r 2 b35_4 (.c (c_len (e := e_s) (l := y21_0)) (.r 2 b35_4 (.r 2 b35_5 (.c (c_len (e := e_s) (l := y34_0)) (.r 2 b35_5 (.r 3 b35_6 (.r 3 rF .n))))))))))) ?_
         refine kRt ?_
         have h_ := some_inj h
         subst h_
         exact kFr
       ·refine kRs 0 [Tm 2 (bv false)] (rp 14 (.b true) (.s (.t 104) [iv (y21_0.length : Int)] :: (.b true :: (.b true :: (rp 10 (.b false) []))))) (.r 4 b35_1 (.r 4 b35_2 (.r 4 b35_3 (.r 2 b35_4 (.c (c_len (e := e_s) (l := y21_0)) (.r 2 b35_4 (.r 4 b35_5 (.r 6 rF .n)))))))) ?_
        refine kRt ?_
        have h_ := some_inj h
        subst h_
        exact kFr
      ·refine kRs 0 [Tm 2 (bv false)] (rp 12 (.b true) (rp 14 (.b false) [])) (.r 4 b35_1 (.r 4 b35_2 (.r 4 b35_3 (.r 4 b35_4 (.r 10 rF .n))))) ?_
       refine kRt ?_
       have h_ := some_inj h
       subst h_
       exact kFr
     ·refine kRs 0 [Tm 2 (bv false)] (rp 8 (.b true) (rp 18 (.b false) [])) (.r 4 b35_1 (.r 4 b35_2 (.r 4 b35_3 (.r 14 rF .n)))) ?_
      refine kRt ?_
      have h_ := some_inj h
      subst h_
      exact kFr
    ·refine kRs 0 [Tm 2 (bv false)] (rp 4 (.b true) (rp 22 (.b false) [])) (.r 4 b35_1 (.r 4 b35_2 (.r 18 rF .n))) ?_
     refine kRt ?_
     have h_ := some_inj h
     subst h_
     exact kFr
   ·refine kRs 0 [Tm 2 (bv false)] (rp 26 (.b false) []) (.r 4 b35_1 (.r 22 rF .n)) ?_
    refine kRt ?_
    have h_ := some_inj h
    subst h_
    exact kFr
  ·obtain ⟨⟩ := o34
   obtain ⟨rfl, rfl⟩ := hp_
   have h_ := some_inj h
   subst h_
   exact kFr
 ·obtain ⟨⟩ := o21
  obtain ⟨rfl, rfl⟩ := hp_
  have h_ := some_inj h
  subst h_
  exact kFr
def bd24 : Code := (Try.f24.body).getD .skip
def diwanref1_MayEntry.O : Nat → Nat := fun t => bif ([1, 2] : List Nat).any (Nat.beq t) then 1 else 0
def diwanref1_MayEntry (fu : Nat) (e_v : TEntry) : Option Bool :=
 br e_v.Seal
  (bd (diwanref1_none fu e_v.T) fun r2_2 =>
  br r2_2
   (some true)
   (br (!e_v.Seal)
    (bd (diwanref1_MayTxn fu e_v.T) fun r2_6 =>
    some r2_6)
    (some false)))
  (br (!e_v.Seal)
   (bd (diwanref1_MayTxn fu e_v.T) fun r2_3 =>
   some r2_3)
   (some false))
theorem diwanref1_MayEntry.meets (fu : Nat) (e_v : TEntry) (z0 : Bool) (h : diwanref1_MayEntry fu e_v = some z0) : Meets Try.prog ⟨24, [.data (TEntry.ag e_v)], []⟩ ⟨bv z0, []⟩ := by
 refine kMt hmix diwanref1_MayEntry.O Try.f24 bd24 1 ?_
 unfold diwanref1_MayEntry at h
 refine kRs 0 [Tm 1 (.ptr 1 0), Ob 1 (TEntry.ob e_v)] [] .n ?_
 rcases br_inv h with ⟨b2_1, h⟩ | ⟨b2_1, h⟩
 ·obtain ⟨r2_2, h2_3, h⟩ := bd_inv h
  rcases br_inv h with ⟨b2_4, h⟩ | ⟨b2_4, h⟩
  ·refine kRs 0 [Tm 2 (bv true)] (.b true :: (.b true :: (.b true :: (.a ⟨bv r2_2, []⟩ :: (rp 7 (.b true) []))))) (.r 3 b2_1 (.c (Asks.of (C := Meets Try.prog) (diwanref1_none.meets fu e_v.T _ h2_3)) (.c b2_1 (.r 6 b2_4 .n)))) ?_
   refine kRt ?_
   have h_ := some_inj h
   subst h_
   exact kFr
  ·rcases br_inv h with ⟨b2_5, h⟩ | ⟨b2_5, h⟩
   ·obtain ⟨r2_6, h2_7, h⟩ := bd_inv h
    refine kRs 0 [Tm 2 (bv r2_6)] (.b true :: (.b true :: (.b true :: (.a ⟨bv r2_2, []⟩ :: (.b true :: (rp 4 (.b false) [.b true, .b true, .b true, .a ⟨bv r2_6, []⟩, .b false, .b true, .b false])))))) (.r 3 b2_1 (.c (Asks.of (C := Meets Try.prog) (diwanref1_none.meets fu e_v.T _ h2_3)) (.c b2_1 (.r 4 b2_4 (.r 3 b2_5 (.c (Asks.of (C := Meets Try.prog) (diwanref1_MayTxn.meets fu e_v.T _ h2_7)) (.c b2_4 (.c b2_5 (.c b2_4 .n))))))))) ?_
    refine kRt ?_
    have h_ := some_inj h
    subst h_
    exact kFr
   ·refine kRs 0 [Tm 2 (bv false)] (.b true :: (.b true :: (.b true :: (.a ⟨bv r2_2, []⟩ :: (.b true :: (rp 10 (.b false) [])))))) (.r 3 b2_1 (.c (Asks.of (C := Meets Try.prog) (diwanref1_none.meets fu e_v.T _ h2_3)) (.c b2_1 (.r 4 b2_4 (.r 3 b2_5 (.c b2_4 (.c b2_5 (.c b2_4 .n)))))))) ?_
    refine kRt ?_
    have h_ := some_inj h
    subst h_
    exact kFr
 ·rcases br_inv h with ⟨b2_2, h⟩ | ⟨b2_2, h⟩
  ·obtain ⟨r2_3, h2_4, h⟩ := bd_inv h
   refine kRs 0 [Tm 2 (bv r2_3)] (rp 8 (.b false) [.b true, .b true, .b true, .a ⟨bv r2_3, []⟩, .b false, .b true, .b false]) (.r 4 b2_1 (.r 4 rF (.r 3 b2_2 (.c (Asks.of (C := Meets Try.prog) (diwanref1_MayTxn.meets fu e_v.T _ h2_4)) (.c rF (.c b2_2 (.c rF .n))))))) ?_
   refine kRt ?_
   have h_ := some_inj h
   subst h_
   exact kFr
  ·refine kRs 0 [Tm 2 (bv false)] (rp 14 (.b false) []) (.r 4 b2_1 (.r 4 rF (.r 3 b2_2 (.c rF (.c b2_2 (.c rF .n)))))) ?_
   refine kRt ?_
   have h_ := some_inj h
   subst h_
   exact kFr
def bd10 : Code := (Try.f10.body).getD .skip
def diwanref1_MayMsg.O : Nat → Nat := fun t => bif ([1, 2, 3, 4, 5, 6, 7, 76, 141] : List Nat).any (Nat.beq t) then 1 else 0
def diwanref1_MayMsg.lp16 (fu : Nat) (l16_0 : List Int) (l16_2 : TMsg) : Nat → Int → Option (Unit ⊕ Unit)
  | 0, _ => none
  | n_ + 1, l16_1 =>
  br (decide (l16_1 < (l16_0.length : Int)))
   (ix l16_0 l16_1 fun x19_1 =>
   br (decide (x19_1 < 0))
    (some (.inr ()))
    (ix l16_0 l16_1 fun x19_5 =>
    br (decide (x19_5 > 1099511627776))
     (some (.inr ()))
     (diwanref1_MayMsg.lp16 fu l16_0 l16_2 n_ (w64 (l16_1 + 1)))))
   (some (.inl ()))
def diwanref1_MayMsg.lp16_post (l16_0 : List Int) (l16_2 : TMsg) (r_ : (Unit ⊕ Unit)) : Wy → St → Prop := fun e τ => match r_ with
  | .inl _ => e = .exit 0 ∧ τ = ofL [Tm 1 (.ptr 1 0), Ob 1 (TMsg.ob l16_2)]
  | .inr _ => e = .ret ∧ τ = ofL [Tm 2 (bv false)]
theorem diwanref1_MayMsg.lp16_ok (fu : Nat) (l16_0 : List Int) (l16_2 : TMsg) : ∀ (n_ : Nat) (l16_1 : Int) (r_ : (Unit ⊕ Unit)), diwanref1_MayMsg.lp16 fu l16_0 l16_2 n_ l16_1 = some r_ → WK Try.prog diwanref1_MayMsg.O (Ck Try.prog) (cB (cR (cL (cR (cR (cR bd10)))))) [] (ofL [Tm 1 (.ptr 1 0), Tm 3 (.data (.slc true (some false) 1 (List.map e_i64 l16_0))), Tm 4 (iv l16_1), Ob 1 (TMsg.ob l16_2)]) (diwanref1_MayMsg.lp16_post l16_0 l16_2 r_) := by
 intro n_
 induction n_ with
 | zero => intro l16_1 r_ h; exact no_none h
 | succ n_ ih =>
  intro l16_1 r_ h
  refine kLp ?_
  refine kSq ?_
  refine kRs 15 [Tm 80 (bv (decide (l16_1 < (l16_0.length : Int))))] [.s (.t 79) [iv (l16_0.length : Int)]] (.c (c_len (e := e_i64) (l := l16_0)) .n) ?_
  rcases br_inv h with ⟨b18_0, h⟩ | ⟨b18_0, h⟩
  ·refine kCt b18_0 ?_
   refine kSk ?_
   refine kCd (cR (cB (cB (cR (cL (cR (cR (cR bd10)))))))) [.lp (cB (cR (cL (cR (cR (cR bd10))))))] ?_
   refine kSq ?_
   refine kBk 1 ?_
   obtain ⟨x19_1, a19_2, e19_3, h⟩ := ix_inv h
   rcases br_inv h with ⟨b19_4, h⟩ | ⟨b19_4, h⟩
   ·refine kRs 30 [Tm 94 (bv true)] (.c (e_i64 x19_1) :: (rp 6 (.b true) [])) (.c (c_ix (e := e_i64) a19_2 e19_3) (.c (c_el (e := e_i64) e19_3) (.r 6 b19_4 .n))) ?_
    refine kCt rT ?_
    refine kRs 0 [Tm 2 (bv false)] [] .n ?_
    cases some_inj h
    refine kWo ?_
    refine kRt ?_
    exact kOut
   ·obtain ⟨x19_5, a19_6, e19_7, h⟩ := ix_inv h
    refine kRs 30 [Tm 94 (bv (decide (x19_5 > 1099511627776)))] (.c (e_i64 x19_1) :: (rp 4 (.b false) [.c (e_i64 x19_5), .b false, .b false])) (.c (c_ix (e := e_i64) a19_2 e19_3) (.c (c_el (e := e_i64) e19_3) (.r 3 b19_4 (.c (c_ix (e := e_i64) a19_6 e19_7) (.c b19_4 (.c (c_el (e := e_i64) e19_7) (.r 2 b19_4 .n))))))) ?_
    rcases br_inv h with ⟨b21_0, h⟩ | ⟨b21_0, h⟩
    ·refine kCt b21_0 ?_
     refine kRs 0 [Tm 2 (bv false)] [] .n ?_
     cases some_inj h
     refine kWo ?_
     refine kRt ?_
     exact kOut
    ·refine kCe b21_0 ?_
     refine kSk ?_
     refine kCd (cR (cR (cB (cB (cR (cL (cR (cR (cR bd10))))))))) [.lp (cB (cR (cL (cR (cR (cR bd10))))))] ?_
     refine kRc 22 [Tm 4 (iv (w64 (l16_1 + 1)))] [] .n (cB (cR (cL (cR (cR (cR bd10)))))) [] ?_
     exact kWk (ih (w64 (l16_1 + 1)) _ h)
  ·refine kCe b18_0 ?_
   cases some_inj h
   refine kWo ?_
   refine kXt 0 ?_
   exact kOut
def diwanref1_MayMsg.lp26 (fu : Nat) (l26_1 : TMsg) : Nat → Int → Option (Unit ⊕ Unit)
  | 0, _ => none
  | n_ + 1, l26_0 =>
  br (decide (l26_0 < (l26_1.Entries.length : Int)))
   (ix l26_1.Entries l26_0 fun x29_1 =>
   bd (diwanref1_MayEntry fu x29_1) fun r29_4 =>
   br (!r29_4)
    (some (.inr ()))
    (ix l26_1.Entries l26_0 fun x29_7 =>
    br (decide (x29_7.Term < 0))
     (some (.inr ()))
     (ix l26_1.Entries l26_0 fun x29_11 =>
     br (decide (x29_11.Term > 1099511627776))
      (some (.inr ()))
      (diwanref1_MayMsg.lp26 fu l26_1 n_ (w64 (l26_0 + 1))))))
   (some (.inl ()))
def diwanref1_MayMsg.lp26_post (l26_1 : TMsg) (r_ : (Unit ⊕ Unit)) : Wy → St → Prop := fun e τ => match r_ with
  | .inl _ => e = .exit 2 ∧ τ = ofL [Tm 1 (.ptr 1 0), Ob 1 (TMsg.ob l26_1)]
  | .inr _ => e = .ret ∧ τ = ofL [Tm 2 (bv false)]
theorem diwanref1_MayMsg.lp26_ok (fu : Nat) (l26_1 : TMsg) : ∀ (n_ : Nat) (l26_0 : Int) (r_ : (Unit ⊕ Unit)), diwanref1_MayMsg.lp26 fu l26_1 n_ l26_0 = some r_ → WK Try.prog diwanref1_MayMsg.O (Ck Try.prog) (cB (cR (cL (cR (cR (cR (cR bd10))))))) [] (ofL [Tm 1 (.ptr 1 0), Tm 5 (iv l26_0), Ob 1 (TMsg.ob l26_1)]) (diwanref1_MayMsg.lp26_post l26_1 r_) := by
 intro n_
 induction n_ with
 | zero => intro l26_0 r_ h; exact no_none h
 | succ n_ ih =>
  intro l26_0 r_ h
  refine kLp ?_
  refine kSq ?_
  refine kRs 7 [Tm 99 (bv (decide (l26_0 < (l26_1.Entries.length : Int))))] [.s (.t 98) [iv (l26_1.Entries.length : Int)]] (.c (c_len (e := TEntry.en) (l := l26_1.Entries)) .n) ?_
  rcases br_inv h with ⟨b28_0, h⟩ | ⟨b28_0, h⟩
  ·refine kCt b28_0 ?_
   refine kSk ?_
   refine kCd (cR (cB (cB (cR (cL (cR (cR (cR (cR bd10))))))))) [.lp (cB (cR (cL (cR (cR (cR (cR bd10)))))))] ?_
   refine kSq ?_
   refine kBk 3 ?_
   obtain ⟨x29_1, a29_2, e29_3, h⟩ := ix_inv h
   obtain ⟨r29_4, h29_5, h⟩ := bd_inv h
   rcases br_inv h with ⟨b29_6, h⟩ | ⟨b29_6, h⟩
   ·refine kRs 14 [Tm 126 (bv true)] (.c (TEntry.en x29_1) :: (.a ⟨bv r29_4, []⟩ :: (rp 16 (.b true) []))) (.c (c_ix (e := TEntry.en) a29_2 e29_3) (.c (c_el (e := TEntry.en) e29_3) (.c (Asks.of (C := Meets Try.prog) (diwanref1_MayEntry.meets fu x29_1 _ h29_5)) (.r 8 b29_6 (.r 8 rT .n))))) ?_
    refine kCt rT ?_
    refine kRs 0 [Tm 2 (bv false)] [] .n ?_
    cases some_inj h
    refine kWo ?_
    refine kRt ?_
    exact kOut
   ·obtain ⟨x29_7, a29_8, e29_9, h⟩ := ix_inv h
    rcases br_inv h with ⟨b29_10, h⟩ | ⟨b29_10, h⟩
    ·refine kRs 14 [Tm 126 (bv true)] (.c (TEntry.en x29_1) :: (.a ⟨bv r29_4, []⟩ :: (rp 4 (.b false) (.c (TEntry.en x29_7) :: (rp 4 (.b false) (rp 8 (.b true) [])))))) (.c (c_ix (e := TEntry.en) a29_2 e29_3) (.c (c_el (e := TEntry.en) e29_3) (.c (Asks.of (C := Meets Try.prog) (diwanref1_MayEntry.meets fu x29_1 _ h29_5)) (.r 4 b29_6 (.c (c_ix (e := TEntry.en) a29_8 e29_9) (.c (c_el (e := TEntry.en) e29_9) (.r 4 b29_6 (.r 8 b29_10 .n)))))))) ?_
     refine kCt rT ?_
     refine kRs 0 [Tm 2 (bv false)] [] .n ?_
     cases some_inj h
     refine kWo ?_
     refine kRt ?_
     exact kOut
    ·obtain ⟨x29_11, a29_12, e29_13, h⟩ := ix_inv h
     refine kRs 14 [Tm 126 (bv (decide (x29_11.Term > 1099511627776)))] (.c (TEntry.en x29_1) :: (.a ⟨bv r29_4, []⟩ :: (rp 4 (.b false) (.c (TEntry.en x29_7) :: (rp 8 (.b false) (.c (TEntry.en x29_11) :: (rp 4 (.b false) []))))))) (.c (c_ix (e := TEntry.en) a29_2 e29_3) (.c (c_el (e := TEntry.en) e29_3) (.c (Asks.of (C := Meets Try.prog) (diwanref1_MayEntry.meets fu x29_1 _ h29_5)) (.r 4 b29_6 (.c (c_ix (e := TEntry.en) a29_8 e29_9) (.c (c_el (e := TEntry.en) e29_9) (.r 4 b29_6 (.r 4 b29_10 (.c (c_ix (e := TEntry.en) a29_12 e29_13) (.c (c_el (e := TEntry.en) e29_13) (.r 4 b29_10 .n))))))))))) ?_
     rcases br_inv h with ⟨b32_0, h⟩ | ⟨b32_0, h⟩
     ·refine kCt b32_0 ?_
      refine kRs 0 [Tm 2 (bv false)] [] .n ?_
      cases some_inj h
      refine kWo ?_
      refine kRt ?_
      exact kOut
     ·refine kCe b32_0 ?_
      refine kSk ?_
      refine kCd (cR (cR (cB (cB (cR (cL (cR (cR (cR (cR bd10)))))))))) [.lp (cB (cR (cL (cR (cR (cR (cR bd10)))))))] ?_
      refine kRc 10 [Tm 5 (iv (w64 (l26_0 + 1)))] [] .n (cB (cR (cL (cR (cR (cR (cR bd10))))))) [] ?_
      exact kWk (ih (w64 (l26_0 + 1)) _ h)
  ·refine kCe b28_0 ?_
   cases some_inj h
   refine kWo ?_
   refine kXt 2 ?_
   exact kOut
def diwanref1_MayMsg.lp38 (fu : Nat) (l38_2 : TMsg) : Nat → (List ByteArray) → Int → Option ((List ByteArray) ⊕ Unit)
  | 0, _, _ => none
  | n_ + 1, l38_0, l38_1 =>
  br (decide (l38_1 < (l38_2.Got.length : Int)))
   (ix l38_2.Got l38_1 fun x41_1 =>
   gd (decide (l38_0.length + ([x41_1.Key] : List ByteArray).length ≤ 4294967296)) <|
   ix l38_2.Got l38_1 fun x42_1 =>
   br (decide ((x42_1.Val.size : Int) > 16))
    (some (.inr ()))
    (ix l38_2.Got l38_1 fun x42_5 =>
    br (decide (x42_5.Version < 0))
     (some (.inr ()))
     (ix l38_2.Got l38_1 fun x42_9 =>
     br (decide (x42_9.Version > 1099511627776))
      (some (.inr ()))
      (diwanref1_MayMsg.lp38 fu l38_2 n_ (l38_0 ++ ([x41_1.Key] : List ByteArray)) (w64 (l38_1 + 1))))))
   (some (.inl l38_0))
def diwanref1_MayMsg.lp38_post (l38_2 : TMsg) (r_ : ((List ByteArray) ⊕ Unit)) : Wy → St → Prop := fun e τ => match r_ with
  | .inl y0 => e = .exit 4 ∧ τ = ofL [Tm 1 (.ptr 1 0), Tm 6 (sO 1 e_s y0), Ob 1 (TMsg.ob l38_2)]
  | .inr _ => e = .ret ∧ τ = ofL [Tm 2 (bv false)]
theorem diwanref1_MayMsg.lp38_ok (fu : Nat) (l38_2 : TMsg) : ∀ (n_ : Nat) (l38_0 : List ByteArray) (l38_1 : Int) (r_ : ((List ByteArray) ⊕ Unit)), diwanref1_MayMsg.lp38 fu l38_2 n_ l38_0 l38_1 = some r_ → WK Try.prog diwanref1_MayMsg.O (Ck Try.prog) (cB (cR (cL (cR (cR (cR (cR (cR (cR bd10))))))))) [] (ofL [Tm 1 (.ptr 1 0), Tm 6 (sO 1 e_s l38_0), Tm 7 (iv l38_1), Ob 1 (TMsg.ob l38_2)]) (diwanref1_MayMsg.lp38_post l38_2 r_) := by
 intro n_
 induction n_ with
 | zero => intro l38_0 l38_1 r_ h; exact no_none h
 | succ n_ ih =>
  intro l38_0 l38_1 r_ h
  refine kLp ?_
  refine kSq ?_
  refine kRs 15 [Tm 131 (bv (decide (l38_1 < (l38_2.Got.length : Int))))] [.s (.t 130) [iv (l38_2.Got.length : Int)]] (.c (c_len (e := TRead.en) (l := l38_2.Got)) .n) ?_
  rcases br_inv h with ⟨b40_0, h⟩ | ⟨b40_0, h⟩
  ·refine kCt b40_0 ?_
   refine kSk ?_
   refine kCd (cR (cB (cB (cR (cL (cR (cR (cR (cR (cR (cR bd10))))))))))) [.lp (cB (cR (cL (cR (cR (cR (cR (cR (cR bd10)))))))))] ?_
   refine kSq ?_
   refine kBk 5 ?_
   obtain ⟨x41_1, a41_2, e41_3, h⟩ := ix_inv h
   obtain ⟨c41_4, h⟩ := gd_inv h
   refine kRs 26 [Tm 6 (sO 1 e_s (l38_0 ++ ([x41_1.Key] : List ByteArray)))] [.c (TRead.en x41_1), .s (.t 142) [sO 1 e_s (l38_0 ++ ([x41_1.Key] : List ByteArray))]] (.c (c_ix (e := TRead.en) a41_2 e41_3) (.c (c_el (e := TRead.en) e41_3) (.c (c_al (e := e_s) (f := e_s) c41_4) (.c (congrArg (fun d : DV => [AV.data d]) (c_app (e := e_s) (s := 1) (l := l38_0) (m := ([x41_1.Key] : List ByteArray)))) .n)))) ?_
   obtain ⟨x42_1, a42_2, e42_3, h⟩ := ix_inv h
   rcases br_inv h with ⟨b42_4, h⟩ | ⟨b42_4, h⟩
   ·refine kRs 15 [Tm 168 (bv true)] (.c (TRead.en x42_1) :: (rp 16 (.b true) [])) (.c (c_ix (e := TRead.en) a42_2 e42_3) (.c (c_el (e := TRead.en) e42_3) (.r 8 b42_4 (.r 8 rT .n)))) ?_
    refine kCt rT ?_
    refine kRs 0 [Tm 2 (bv false)] [] .n ?_
    cases some_inj h
    refine kWo ?_
    refine kRt ?_
    exact kOut
   ·obtain ⟨x42_5, a42_6, e42_7, h⟩ := ix_inv h
    rcases br_inv h with ⟨b42_8, h⟩ | ⟨b42_8, h⟩
    ·refine kRs 15 [Tm 168 (bv true)] (.c (TRead.en x42_1) :: (rp 4 (.b false) (.c (TRead.en x42_5) :: (rp 4 (.b false) (rp 8 (.b true) []))))) (.c (c_ix (e := TRead.en) a42_2 e42_3) (.c (c_el (e := TRead.en) e42_3) (.r 4 b42_4 (.c (c_ix (e := TRead.en) a42_6 e42_7) (.c (c_el (e := TRead.en) e42_7) (.r 4 b42_4 (.r 8 b42_8 .n))))))) ?_
     refine kCt rT ?_
     refine kRs 0 [Tm 2 (bv false)] [] .n ?_
     cases some_inj h
     refine kWo ?_
     refine kRt ?_
     exact kOut
    ·obtain ⟨x42_9, a42_10, e42_11, h⟩ := ix_inv h
     refine kRs 15 [Tm 168 (bv (decide (x42_9.Version > 1099511627776)))] (.c (TRead.en x42_1) :: (rp 4 (.b false) (.c (TRead.en x42_5) :: (rp 8 (.b false) (.c (TRead.en x42_9) :: (rp 4 (.b false) [])))))) (.c (c_ix (e := TRead.en) a42_2 e42_3) (.c (c_el (e := TRead.en) e42_3) (.r 4 b42_4 (.c (c_ix (e := TRead.en) a42_6 e42_7) (.c (c_el (e := TRead.en) e42_7) (.r 4 b42_4 (.r 4 b42_8 (.c (c_ix (e := TRead.en) a42_10 e42_11) (.c (c_el (e := TRead.en) e42_11) (.r 4 b42_8 .n)))))))))) ?_
     rcases br_inv h with ⟨b45_0, h⟩ | ⟨b45_0, h⟩
     ·refine kCt b45_0 ?_
      refine kRs 0 [Tm 2 (bv false)] [] .n ?_
      cases some_inj h
      refine kWo ?_
      refine kRt ?_
      exact kOut
     ·refine kCe b45_0 ?_
      refine kSk ?_
      refine kCd (cR (cR (cB (cB (cR (cL (cR (cR (cR (cR (cR (cR bd10)))))))))))) [.lp (cB (cR (cL (cR (cR (cR (cR (cR (cR bd10)))))))))] ?_
      refine kRc 22 [Tm 7 (iv (w64 (l38_1 + 1)))] [] .n (cB (cR (cL (cR (cR (cR (cR (cR (cR bd10))))))))) [] ?_
      exact kWk (ih (l38_0 ++ ([x41_1.Key] : List ByteArray)) (w64 (l38_1 + 1)) _ h)
  ·refine kCe b40_0 ?_
   cases some_inj h
   refine kWo ?_
   refine kXt 4 ?_
   exact kOut
def diwanref1_MayMsg (fu : Nat) (m : TMsg) : Option Bool :=
 br (decide (m.Kind < 1))
  (some false)
  (br (decide (m.Kind > 9))
   (some false)
   (br (decide (m.From < 1))
    (some false)
    (br (decide (m.From > 5))
     (some false)
     (br (decide (m.To < 1))
      (some false)
      (br (decide (m.To > 5))
       (some false)
       (br (m.From == m.To)
        (some false)
        (br (decide (m.Part < 0))
         (some false)
         (br (decide (m.Part ≥ 3))
          (some false)
          (bd (diwanref1_bare m) fun r2_10 =>
          bd (diwanref1_SameMsg fu m r2_10) fun r2_12 =>
          br (!r2_12)
           (some false)
           (bd (diwanref1_MayMsg.lp16 fu ([m.Term, m.Index, m.LogTerm, m.Commit, m.Session, m.Seq, m.Pos, m.Shard] : List Int) m fu 0) fun o_ => (match o_ with
           | .inl _ =>
            bd (diwanref1_MayMsg.lp26 fu m fu 0) fun o_ => (match o_ with
            | .inl _ =>
             bd (diwanref1_MayMsg.lp38 fu m fu [] 0) fun o_ => (match o_ with
             | .inl y48_0 =>
              br (decide (m.Shard < 3))
               (br (decide ((m.Entries.length : Int) ≤ 4))
                (br (m.Kind != 5)
                 (br (decide ((m.Keys.length : Int) ≤ 6))
                  (bd (diwanref1_Rising fu m.Keys) fun r49_5 =>
                  br r49_5
                   (br (decide ((m.FromKey.size : Int) ≤ 8))
                    (br (decide ((m.ToKey.size : Int) ≤ 8))
                     (br (decide ((m.Got.length : Int) ≤ 64))
                      (bd (diwanref1_Rising fu y48_0) fun r49_11 =>
                      br r49_11
                       (br (decide (m.Err ≥ 0))
                        (some (decide (m.Err ≤ 6)))
                        (some false))
                       (some false))
                      (some false))
                     (some false))
                    (some false))
                   (some false))
                  (some false))
                 (bd (diwanref1_MayTxn fu m.T) fun r49_4 =>
                 br r49_4
                  (br (decide ((m.Keys.length : Int) ≤ 6))
                   (bd (diwanref1_Rising fu m.Keys) fun r49_8 =>
                   br r49_8
                    (br (decide ((m.FromKey.size : Int) ≤ 8))
                     (br (decide ((m.ToKey.size : Int) ≤ 8))
                      (br (decide ((m.Got.length : Int) ≤ 64))
                       (bd (diwanref1_Rising fu y48_0) fun r49_14 =>
                       br r49_14
                        (br (decide (m.Err ≥ 0))
                         (some (decide (m.Err ≤ 6)))
                         (some false))
                        (some false))
                       (some false))
                      (some false))
                     (some false))
                    (some false))
                   (some false))
                  (some false)))
                (some false))
               (some false)
             | .inr _ =>
              some false)
            | .inr _ =>
             some false)
           | .inr _ =>
            some false)))))))))))
theorem diwanref1_MayMsg.meets (fu : Nat) (m : TMsg) (z0 : Bool) (h : diwanref1_MayMsg fu m = some z0) : Meets Try.prog ⟨10, [.data (TMsg.ag m)], []⟩ ⟨bv z0, []⟩ := by
 refine kMt hmix diwanref1_MayMsg.O Try.f10 bd10 1 ?_
 unfold diwanref1_MayMsg at h
 refine kRs 0 [Tm 1 (.ptr 1 0), Ob 1 (TMsg.ob m)] [] .n ?_
 refine kSq ?_
 rcases br_inv h with ⟨b2_1, h⟩ | ⟨b2_1, h⟩
 ·refine kRs 3 [Tm 59 (bv true)] (rp 40 (.b true) []) (.r 4 b2_1 (.r 37 rT .n)) ?_
  refine kCt rT ?_
  refine kRs 0 [Tm 2 (bv false)] [] .n ?_
  refine kRt ?_
  have h_ := some_inj h
  subst h_
  exact kFr
 ·rcases br_inv h with ⟨b2_2, h⟩ | ⟨b2_2, h⟩
  ·refine kRs 3 [Tm 59 (bv true)] (rp 4 (.b false) (rp 36 (.b true) [])) (.r 4 b2_1 (.r 4 b2_2 (.r 33 rT .n))) ?_
   refine kCt rT ?_
   refine kRs 0 [Tm 2 (bv false)] [] .n ?_
   refine kRt ?_
   have h_ := some_inj h
   subst h_
   exact kFr
  ·rcases br_inv h with ⟨b2_3, h⟩ | ⟨b2_3, h⟩
   ·refine kRs 3 [Tm 59 (bv true)] (rp 8 (.b false) (rp 32 (.b true) [])) (.r 4 b2_1 (.r 4 b2_2 (.r 4 b2_3 (.r 29 rT .n)))) ?_
    refine kCt rT ?_
    refine kRs 0 [Tm 2 (bv false)] [] .n ?_
    refine kRt ?_
    have h_ := some_inj h
    subst h_
    exact kFr
   ·rcases br_inv h with ⟨b2_4, h⟩ | ⟨b2_4, h⟩
    ·refine kRs 3 [Tm 59 (bv true)] (rp 12 (.b false) (rp 28 (.b true) [])) (.r 4 b2_1 (.r 4 b2_2 (.r 4 b2_3 (.r 4 b2_4 (.r 25 rT .n))))) ?_
     refine kCt rT ?_
     refine kRs 0 [Tm 2 (bv false)] [] .n ?_
     refine kRt ?_
     have h_ := some_inj h
     subst h_
     exact kFr
    ·rcases br_inv h with ⟨b2_5, h⟩ | ⟨b2_5, h⟩
     ·refine kRs 3 [Tm 59 (bv true)] (rp 16 (.b false) (rp 24 (.b true) [])) (.r 4 b2_1 (.r 4 b2_2 (.r 4 b2_3 (.r 4 b2_4 (.r 4 b2_5 (.r 21 rT .n)))))) ?_
      refine kCt rT ?_
      refine kRs 0 [Tm 2 (bv false)] [] .n ?_
      refine kRt ?_
      have h_ := some_inj h
      subst h_
      exact kFr
     ·rcases br_inv h with ⟨b2_6, h⟩ | ⟨b2_6, h⟩
      ·refine kRs 3 [Tm 59 (bv true)] (rp 20 (.b false) (rp 20 (.b true) [])) (.r 4 b2_1 (.r 4 b2_2 (.r 4 b2_3 (.r 4 b2_4 (.r 4 b2_5 (.r 6 b2_6 (.r 15 rT .n))))))) ?_
       refine kCt rT ?_
       refine kRs 0 [Tm 2 (bv false)] [] .n ?_
       refine kRt ?_
       have h_ := some_inj h
       subst h_
       exact kFr
      ·rcases br_inv h with ⟨b2_7, h⟩ | ⟨b2_7, h⟩
       ·refine kRs 3 [Tm 59 (bv true)] (rp 26 (.b false) (rp 14 (.b true) [])) (.r 4 b2_1 (.r 4 b2_2 (.r 4 b2_3 (.r 4 b2_4 (.r 4 b2_5 (.r 6 b2_6 (.r 4 b2_7 (.r 11 rT .n)))))))) ?_
        refine kCt rT ?_
        refine kRs 0 [Tm 2 (bv false)] [] .n ?_
        refine kRt ?_
        have h_ := some_inj h
        subst h_
        exact kFr
       ·rcases br_inv h with ⟨b2_8, h⟩ | ⟨b2_8, h⟩
        ·refine kRs 3 [Tm 59 (bv true)] (rp 30 (.b false) (rp 10 (.b true) [])) (.r 4 b2_1 (.r 4 b2_2 (.r 4 b2_3 (.r 4 b2_4 (.r 4 b2_5 (.r 6 b2_6 (.r 4 b2_7 (.r 4 b2_8 (.r 7 rT .n))))))))) ?_
         refine kCt rT ?_
         refine kRs 0 [Tm 2 (bv false)] [] .n ?_
         refine kRt ?_
         have h_ := some_inj h
         subst h_
         exact kFr
        ·rcases br_inv h with ⟨b2_9, h⟩ | ⟨b2_9, h⟩
         ·refine kRs 3 [Tm 59 (bv true)] (rp 34 (.b false) (rp 6 (.b true) [])) (.r 4 b2_1 (.r 4 b2_2 (.r 4 b2_3 (.r 4 b2_4 (.r 4 b2_5 (.r 6 b2_6 (.r 4 b2_7 (.r 4 b2_8 (.r 6 b2_9 (.c rT .n)))))))))) ?_
          refine kCt rT ?_
          refine kRs 0 [Tm 2 (bv false)] [] .n ?_
          refine kRt ?_
          have h_ := some_inj h
          subst h_
          exact kFr
         ·obtain ⟨r2_10, h2_11, h⟩ := bd_inv h
          obtain ⟨r2_12, h2_13, h⟩ := bd_inv h
          refine kRs 3 [Tm 59 (bv (!r2_12))] (rp 37 (.b false) [.a ⟨.data (TMsg.ag r2_10), []⟩, .b false, .a ⟨bv r2_12, []⟩, .b false, .b false]) (.r 4 b2_1 (.r 4 b2_2 (.r 4 b2_3 (.r 4 b2_4 (.r 4 b2_5 (.r 6 b2_6 (.r 4 b2_7 (.r 4 b2_8 (.r 3 b2_9 (.c (Asks.of (C := Meets Try.prog) (diwanref1_bare.meets m _ h2_11)) (.c b2_9 (.c (Asks.of (C := Meets Try.prog) (diwanref1_SameMsg.meets fu m r2_10 _ h2_13)) (.r 2 b2_9 (.c rT .n)))))))))))))) ?_
          rcases br_inv h with ⟨b12_0, h⟩ | ⟨b12_0, h⟩
          ·refine kCt b12_0 ?_
           refine kRs 0 [Tm 2 (bv false)] [] .n ?_
           refine kRt ?_
           have h_ := some_inj h
           subst h_
           exact kFr
          ·refine kCe b12_0 ?_
           refine kSk ?_
           refine kCd (cR (cR bd10)) [] ?_
           refine kRs 6 [Tm 3 (.data (.slc true (some false) 1 (List.map e_i64 ([m.Term, m.Index, m.LogTerm, m.Commit, m.Session, m.Seq, m.Pos, m.Shard] : List Int))))] [] .n ?_
           refine kSq ?_
           refine kRs 7 [Tm 4 (iv 0)] [] .n ?_
           refine kBk 0 ?_
           obtain ⟨o24, ho24, h⟩ := bd_inv h
           refine kUs (diwanref1_MayMsg.lp16_ok fu ([m.Term, m.Index, m.LogTerm, m.Commit, m.Session, m.Seq, m.Pos, m.Shard] : List Int) m _ 0 _ ho24) ?_
           intro e_ τ_ hp_
           rcases o24 with o24 | o24
           ·obtain ⟨⟩ := o24
            obtain ⟨rfl, rfl⟩ := hp_
            refine kCd (cR (cR (cR (cR bd10)))) [] ?_
            refine kSq ?_
            refine kRs 3 [Tm 5 (iv 0)] [] .n ?_
            refine kBk 2 ?_
            obtain ⟨o35, ho35, h⟩ := bd_inv h
            refine kUs (diwanref1_MayMsg.lp26_ok fu m _ 0 _ ho35) ?_
            intro e_ τ_ hp_
            rcases o35 with o35 | o35
            ·obtain ⟨⟩ := o35
             obtain ⟨rfl, rfl⟩ := hp_
             refine kCd (cR (cR (cR (cR (cR bd10))))) [] ?_
             refine kRs 3 [Tm 6 (.data (.slc true (some true) 1 (List.map e_s [])))] [] .n ?_
             refine kSq ?_
             refine kRs 7 [Tm 7 (iv 0)] [] .n ?_
             refine kBk 4 ?_
             obtain ⟨o48, ho48, h⟩ := bd_inv h
             refine kUs (diwanref1_MayMsg.lp38_ok fu m _ [] 0 _ ho48) ?_
             intro e_ τ_ hp_
             rcases o48 with o48 | o48
             ·obtain ⟨y48_0, rfl⟩ : ∃ y, y = o48 := ⟨_, rfl⟩
              obtain ⟨rfl, rfl⟩ := hp_
              refine kCd (cR (cR (cR (cR (cR (cR (cR bd10))))))) [] ?_
              rcases br_inv h with ⟨b49_1, h⟩ | ⟨b49_1, h⟩
              ·rcases br_inv h with ⟨b49_2, h⟩ | ⟨b49_2, h⟩
               ·rcases br_inv h with ⟨b49_3, h⟩ | ⟨b49_3, h⟩
                ·rcases br_inv h with ⟨b49_4, h⟩ | ⟨b49_4, h⟩
                 ·obtain ⟨r49_5, h49_6, h⟩ := bd_inv h
                  rcases br_inv h with ⟨b49_7, h⟩ | ⟨b49_7, h⟩
                  ·rcases br_inv h with ⟨b49_8, h⟩ | ⟨b49_8, h⟩
                   ·rcases br_inv h with ⟨b49_9, h⟩ | ⟨b49_9, h⟩
                    ·rcases br_inv h with ⟨b49_10, h⟩ | ⟨b49_10, h⟩
                     ·obtain ⟨r49_11, h49_12, h⟩ := bd_inv h
                      rcases br_inv h with ⟨b49_13, h⟩ | ⟨b49_13, h⟩
                      ·rcases br_inv h with ⟨b49_14, h⟩ | ⟨b49_14, h⟩
                       ·refine kRs 0 [Tm 2 (bv (decide (m.Err ≤ 6)))] (.b true :: (.b true :: (.b true :: (.s (.t 175) [iv (m.Entries.length : Int)] :: (rp 15 (.b true) (.s (.t 191) [iv (m.Keys.length : Int)] :: (rp 5 (.b true) (.a ⟨bv r49_5, []⟩ :: (rp 14 (.b true) (.s (.t 214) [iv (m.Got.length : Int)] :: (rp 4 (.b true) (.a ⟨bv r49_11, []⟩ :: (rp 9 (.b true) []))))))))))))) (.r 3 b49_1 (.c (c_len (e := TEntry.en) (l := m.Entries)) (.r 2 b49_1 (.r 4 b49_2 (.r 3 b49_3 (.c b49_2 (.c b49_3 (.c b49_2 (.r 3 rT (.c (c_len (e := e_s) (l := m.Keys)) (.r 2 rT (.r 3 b49_4 (.c (Asks.of (C := Meets Try.prog) (diwanref1_Rising.meets fu m.Keys _ h49_6)) (.c b49_4 (.r 5 b49_7 (.r 5 b49_8 (.r 3 b49_9 (.c (c_len (e := TRead.en) (l := m.Got)) (.r 2 b49_9 (.r 2 b49_10 (.c (Asks.of (C := Meets Try.prog) (diwanref1_Rising.meets fu y48_0 _ h49_12)) (.c b49_10 (.r 4 b49_13 (.r 4 b49_14 .n)))))))))))))))))))))))) ?_
                        refine kRt ?_
                        have h_ := some_inj h
                        subst h_
                        exact kFr
                       ·refine kRs 0 [Tm 2 (bv false)] (.b true :: (.b true :: (.b true :: (.s (.t 175) [iv (m.Entries.length : Int)] :: (rp 15 (.b true) (.s (.t 191) [iv (m.Keys.length : Int)] :: (rp 5 (.b true) (.a ⟨bv r49_5, []⟩ :: (rp 14 (.b true) (.s (.t 214) [iv (m.Got.length : Int)] :: (rp 4 (.b true) (.a ⟨bv r49_11, []⟩ :: (rp 5 (.b true) (rp 4 (.b false) [])))))))))))))) (.r 3 b49_1 (.c (c_len (e := TEntry.en) (l := m.Entries)) (.r 2 b49_1 (.r 4 b49_2 (.r 3 b49_3 (.c b49_2 (.c b49_3 (.c b49_2 (.r 3 rT (.c (c_len (e := e_s) (l := m.Keys)) (.r 2 rT (.r 3 b49_4 (.c (Asks.of (C := Meets Try.prog) (diwanref1_Rising.meets fu m.Keys _ h49_6)) (.c b49_4 (.r 5 b49_7 (.r 5 b49_8 (.r 3 b49_9 (.c (c_len (e := TRead.en) (l := m.Got)) (.r 2 b49_9 (.r 2 b49_10 (.c (Asks.of (C := Meets Try.prog) (diwanref1_Rising.meets fu y48_0 _ h49_12)) (.c b49_10 (.r 4 b49_13 (.r 4 b49_14 .n)))))))))))))))))))))))) ?_
                        refine kRt ?_
                        have h_ := some_inj h
                        subst h_
                        exact kFr
                      ·refine kRs 0 [Tm 2 (bv false)] (.b true :: (.b true :: (.b true :: (.s (.t 175) [iv (m.Entries.length : Int)] :: (rp 15 (.b true) (.s (.t 191) [iv (m.Keys.length : Int)] :: (rp 5 (.b true) (.a ⟨bv r49_5, []⟩ :: (rp 14 (.b true) (.s (.t 214) [iv (m.Got.length : Int)] :: (rp 4 (.b true) (.a ⟨bv r49_11, []⟩ :: (.b true :: (rp 8 (.b false) [])))))))))))))) (.r 3 b49_1 (.c (c_len (e := TEntry.en) (l := m.Entries)) (.r 2 b49_1 (.r 4 b49_2 (.r 3 b49_3 (.c b49_2 (.c b49_3 (.c b49_2 (.r 3 rT (.c (c_len (e := e_s) (l := m.Keys)) (.r 2 rT (.r 3 b49_4 (.c (Asks.of (C := Meets Try.prog) (diwanref1_Rising.meets fu m.Keys _ h49_6)) (.c b49_4 (.r 5 b49_7 (.r 5 b49_8 (.r 3 b49_9 (.c (c_len (e := TRead.en) (l := m.Got)) (.r 2 b49_9 (.r 2 b49_10 (.c (Asks.of (C := Meets Try.prog) (diwanref1_Rising.meets fu y48_0 _ h49_12)) (.c b49_10 (.r 4 b49_13 (.r 4 rF .n)))))))))))))))))))))))) ?_
                       refine kRt ?_
                       have h_ := some_inj h
                       subst h_
                       exact kFr
                     ·refine kRs 0 [Tm 2 (bv false)] (.b true :: (.b true :: (.b true :: (.s (.t 175) [iv (m.Entries.length : Int)] :: (rp 15 (.b true) (.s (.t 191) [iv (m.Keys.length : Int)] :: (rp 5 (.b true) (.a ⟨bv r49_5, []⟩ :: (rp 14 (.b true) (.s (.t 214) [iv (m.Got.length : Int)] :: (.b true :: (.b true :: (rp 11 (.b false) []))))))))))))) (.r 3 b49_1 (.c (c_len (e := TEntry.en) (l := m.Entries)) (.r 2 b49_1 (.r 4 b49_2 (.r 3 b49_3 (.c b49_2 (.c b49_3 (.c b49_2 (.r 3 rT (.c (c_len (e := e_s) (l := m.Keys)) (.r 2 rT (.r 3 b49_4 (.c (Asks.of (C := Meets Try.prog) (diwanref1_Rising.meets fu m.Keys _ h49_6)) (.c b49_4 (.r 5 b49_7 (.r 5 b49_8 (.r 3 b49_9 (.c (c_len (e := TRead.en) (l := m.Got)) (.r 2 b49_9 (.r 3 b49_10 (.r 8 rF .n))))))))))))))))))))) ?_
                      refine kRt ?_
                      have h_ := some_inj h
                      subst h_
                      exact kFr
                    ·refine kRs 0 [Tm 2 (bv false)] (.b true :: (.b true :: (.b true :: (.s (.t 175) [iv (m.Entries.length : Int)] :: (rp 15 (.b true) (.s (.t 191) [iv (m.Keys.length : Int)] :: (rp 5 (.b true) (.a ⟨bv r49_5, []⟩ :: (rp 11 (.b true) (rp 16 (.b false) [])))))))))) (.r 3 b49_1 (.c (c_len (e := TEntry.en) (l := m.Entries)) (.r 2 b49_1 (.r 4 b49_2 (.r 3 b49_3 (.c b49_2 (.c b49_3 (.c b49_2 (.r 3 rT (.c (c_len (e := e_s) (l := m.Keys)) (.r 2 rT (.r 3 b49_4 (.c (Asks.of (C := Meets Try.prog) (diwanref1_Rising.meets fu m.Keys _ h49_6)) (.c b49_4 (.r 5 b49_7 (.r 5 b49_8 (.r 5 b49_9 (.r 11 rF .n)))))))))))))))))) ?_
                     refine kRt ?_
                     have h_ := some_inj h
                     subst h_
                     exact kFr
                   ·refine kRs 0 [Tm 2 (bv false)] (.b true :: (.b true :: (.b true :: (.s (.t 175) [iv (m.Entries.length : Int)] :: (rp 15 (.b true) (.s (.t 191) [iv (m.Keys.length : Int)] :: (rp 5 (.b true) (.a ⟨bv r49_5, []⟩ :: (rp 6 (.b true) (rp 21 (.b false) [])))))))))) (.r 3 b49_1 (.c (c_len (e := TEntry.en) (l := m.Entries)) (.r 2 b49_1 (.r 4 b49_2 (.r 3 b49_3 (.c b49_2 (.c b49_3 (.c b49_2 (.r 3 rT (.c (c_len (e := e_s) (l := m.Keys)) (.r 2 rT (.r 3 b49_4 (.c (Asks.of (C := Meets Try.prog) (diwanref1_Rising.meets fu m.Keys _ h49_6)) (.c b49_4 (.r 5 b49_7 (.r 5 b49_8 (.r 16 rF .n))))))))))))))))) ?_
                    refine kRt ?_
                    have h_ := some_inj h
                    subst h_
                    exact kFr
                  ·refine kRs 0 [Tm 2 (bv false)] (.b true :: (.b true :: (.b true :: (.s (.t 175) [iv (m.Entries.length : Int)] :: (rp 15 (.b true) (.s (.t 191) [iv (m.Keys.length : Int)] :: (rp 5 (.b true) (.a ⟨bv r49_5, []⟩ :: (.b true :: (rp 26 (.b false) [])))))))))) (.r 3 b49_1 (.c (c_len (e := TEntry.en) (l := m.Entries)) (.r 2 b49_1 (.r 4 b49_2 (.r 3 b49_3 (.c b49_2 (.c b49_3 (.c b49_2 (.r 3 rT (.c (c_len (e := e_s) (l := m.Keys)) (.r 2 rT (.r 3 b49_4 (.c (Asks.of (C := Meets Try.prog) (diwanref1_Rising.meets fu m.Keys _ h49_6)) (.c b49_4 (.r 5 b49_7 (.r 21 rF .n)))))))))))))))) ?_
                   refine kRt ?_
                   have h_ := some_inj h
                   subst h_
                   exact kFr
                 ·refine kRs 0 [Tm 2 (bv false)] (.b true :: (.b true :: (.b true :: (.s (.t 175) [iv (m.Entries.length : Int)] :: (rp 15 (.b true) (.s (.t 191) [iv (m.Keys.length : Int)] :: (.b true :: (.b true :: (rp 30 (.b false) []))))))))) (.r 3 b49_1 (.c (c_len (e := TEntry.en) (l := m.Entries)) (.r 2 b49_1 (.r 4 b49_2 (.r 3 b49_3 (.c b49_2 (.c b49_3 (.c b49_2 (.r 3 rT (.c (c_len (e := e_s) (l := m.Keys)) (.r 2 rT (.r 4 b49_4 (.r 26 rF .n))))))))))))) ?_
                  refine kRt ?_
                  have h_ := some_inj h
                  subst h_
                  exact kFr
                ·obtain ⟨r49_4, h49_5, h⟩ := bd_inv h
                 rcases br_inv h with ⟨b49_6, h⟩ | ⟨b49_6, h⟩
                 ·rcases br_inv h with ⟨b49_7, h⟩ | ⟨b49_7, h⟩
                  ·obtain ⟨r49_8, h49_9, h⟩ := bd_inv h
                   rcases br_inv h with ⟨b49_10, h⟩ | ⟨b49_10, h⟩
                   ·rcases br_inv h with ⟨b49_11, h⟩ | ⟨b49_11, h⟩
                    ·rcases br_inv h with ⟨b49_12, h⟩ | ⟨b49_12, h⟩
                     ·rcases br_inv h with ⟨b49_13, h⟩ | ⟨b49_13, h⟩
                      ·obtain ⟨r49_14, h49_15, h⟩ := bd_inv h
                       rcases br_inv h with ⟨b49_16, h⟩ | ⟨b49_16, h⟩
                       ·rcases br_inv h with ⟨b49_17, h⟩ | ⟨b49_17, h⟩
                        ·refine kRs 0 [Tm 2 (bv (decide (m.Err ≤ 6)))] (.b true :: (.b true :: (.b true :: (.s (.t 175) [iv (m.Entries.length : Int)] :: (rp 6 (.b true) (.b false :: (.b false :: (.b false :: (.a ⟨bv r49_4, []⟩ :: (.b true :: (.b false :: (rp 4 (.b true) (.s (.t 191) [iv (m.Keys.length : Int)] :: (rp 5 (.b true) (.a ⟨bv r49_8, []⟩ :: (rp 14 (.b true) (.s (.t 214) [iv (m.Got.length : Int)] :: (rp 4 (.b true) (.a ⟨bv r49_14, []⟩ :: (rp 9 (.b true) [])))))))))))))))))))) (.r 3 b49_1 (.c (c_len (e := TEntry.en) (l := m.Entries)) (.r 2 b49_1 (.r 4 b49_2 (.r 3 b49_3 (.c (Asks.of (C := Meets Try.prog) (diwanref1_MayTxn.meets fu m.T _ h49_5)) (.c b49_2 (.c b49_3 (.c b49_2 (.r 3 b49_6 (.c (c_len (e := e_s) (l := m.Keys)) (.r 2 b49_6 (.r 3 b49_7 (.c (Asks.of (C := Meets Try.prog) (diwanref1_Rising.meets fu m.Keys _ h49_9)) (.c b49_7 (.r 5 b49_10 (.r 5 b49_11 (.r 3 b49_12 (.c (c_len (e := TRead.en) (l := m.Got)) (.r 2 b49_12 (.r 2 b49_13 (.c (Asks.of (C := Meets Try.prog) (diwanref1_Rising.meets fu y48_0 _ h49_15)) (.c b49_13 (.r 4 b49_16 (.r 4 b49_17 .n))))))))))))))))))))))))) ?_
                         refine kRt ?_
                         have h_ := some_inj h
                         subst h_
                         exact kFr
                        ·refine kRs 0 [Tm 2 (bv false)] (.b true :: (.b true :: (.b true :: (.s (.t 175) [iv (m.Entries.length : Int)] :: (rp 6 (.b true) (.b false :: (.b false :: (.b false :: (.a ⟨bv r49_4, []⟩ :: (.b true :: (.b false :: (rp 4 (.b true) (.s (.t 191) [iv (m.Keys.length : Int)] :: (rp 5 (.b true) (.a ⟨bv r49_8, []⟩ :: (rp 14 (.b true) (.s (.t 214) [iv (m.Got.length : Int)] :: (rp 4 (.b true) (.a ⟨bv r49_14, []⟩ :: (rp 5 (.b true) (rp 4 (.b false) []))))))))))))))))))))) (.r 3 b49_1 (.c (c_len (e := TEntry.en) (l := m.Entries)) (.r 2 b49_1 (.r 4 b49_2 (.r 3 b49_3 (.c (Asks.of (C := Meets Try.prog) (diwanref1_MayTxn.meets fu m.T _ h49_5)) (.c b49_2 (.c b49_3 (.c b49_2 (.r 3 b49_6 (.c (c_len (e := e_s) (l := m.Keys)) (.r 2 b49_6 (.r 3 b49_7 (.c (Asks.of (C := Meets Try.prog) (diwanref1_Rising.meets fu m.Keys _ h49_9)) (.c b49_7 (.r 5 b49_10 (.r 5 b49_11 (.r 3 b49_12 (.c (c_len (e := TRead.en) (l := m.Got)) (.r 2 b49_12 (.r 2 b49_13 (.c (Asks.of (C := Meets Try.prog) (diwanref1_Rising.meets fu y48_0 _ h49_15)) (.c b49_13 (.r 4 b49_16 (.r 4 b49_17 .n))))))))))))))))))))))))) ?_
                         refine kRt ?_
                         have h_ := some_inj h
                         subst h_
                         exact kFr
                       ·refine kRs 0 [Tm 2 (bv false)] (.b true :: (.b true :: (.b true :: (.s (.t 175) [iv (m.Entries.length : Int)] :: (rp 6 (.b true) (.b false :: (.b false :: (.b false :: (.a ⟨bv r49_4, []⟩ :: (.b true :: (.b false :: (rp 4 (.b true) (.s (.t 191) [iv (m.Keys.length : Int)] :: (rp 5 (.b true) (.a ⟨bv r49_8, []⟩ :: (rp 14 (.b true) (.s (.t 214) [iv (m.Got.length : Int)] :: (rp 4 (.b true) (.a ⟨bv r49_14, []⟩ :: (.b true :: (rp 8 (.b false) []))))))))))))))))))))) (.r 3 b49_1 (.c (c_len (e := TEntry.en) (l := m.Entries)) (.r 2 b49_1 (.r 4 b49_2 (.r 3 b49_3 (.c (Asks.of (C := Meets Try.prog) (diwanref1_MayTxn.meets fu m.T _ h49_5)) (.c b49_2 (.c b49_3 (.c b49_2 (.r 3 b49_6 (.c (c_len (e := e_s) (l := m.Keys)) (.r 2 b49_6 (.r 3 b49_7 (.c (Asks.of (C := Meets Try.prog) (diwanref1_Rising.meets fu m.Keys _ h49_9)) (.c b49_7 (.r 5 b49_10 (.r 5 b49_11 (.r 3 b49_12 (.c (c_len (e := TRead.en) (l := m.Got)) (.r 2 b49_12 (.r 2 b49_13 (.c (Asks.of (C := Meets Try.prog) (diwanref1_Rising.meets fu y48_0 _ h49_15)) (.c b49_13 (.r 4 b49_16 (.r 4 rF .n))))))))))))))))))))))))) ?_
                        refine kRt ?_
                        have h_ := some_inj h
                        subst h_
                        exact kFr
                      ·refine kRs 0 [Tm 2 (bv false)] (.b true :: (.b true :: (.b true :: (.s (.t 175) [iv (m.Entries.length : Int)] :: (rp 6 (.b true) (.b false :: (.b false :: (.b false :: (.a ⟨bv r49_4, []⟩ :: (.b true :: (.b false :: (rp 4 (.b true) (.s (.t 191) [iv (m.Keys.length : Int)] :: (rp 5 (.b true) (.a ⟨bv r49_8, []⟩ :: (rp 14 (.b true) (.s (.t 214) [iv (m.Got.length : Int)] :: (.b true :: (.b true :: (rp 11 (.b false) [])))))))))))))))))))) (.r 3 b49_1 (.c (c_len (e := TEntry.en) (l := m.Entries)) (.r 2 b49_1 (.r 4 b49_2 (.r 3 b49_3 (.c (Asks.of (C := Meets Try.prog) (diwanref1_MayTxn.meets fu m.T _ h49_5)) (.c b49_2 (.c b49_3 (.c b49_2 (.r 3 b49_6 (.c (c_len (e := e_s) (l := m.Keys)) (.r 2 b49_6 (.r 3 b49_7 (.c (Asks.of (C := Meets Try.prog) (diwanref1_Rising.meets fu m.Keys _ h49_9)) (.c b49_7 (.r 5 b49_10 (.r 5 b49_11 (.r 3 b49_12 (.c (c_len (e := TRead.en) (l := m.Got)) (.r 2 b49_12 (.r 3 b49_13 (.r 8 rF .n)))))))))))))))))))))) ?_
                       refine kRt ?_
                       have h_ := some_inj h
                       subst h_
                       exact kFr
                     ·refine kRs 0 [Tm 2 (bv false)] (.b true :: (.b true :: (.b true :: (.s (.t 175) [iv (m.Entries.length : Int)] :: (rp 6 (.b true) (.b false :: (.b false :: (.b false :: (.a ⟨bv r49_4, []⟩ :: (.b true :: (.b false :: (rp 4 (.b true) (.s (.t 191) [iv (m.Keys.length : Int)] :: (rp 5 (.b true) (.a ⟨bv r49_8, []⟩ :: (rp 11 (.b true) (rp 16 (.b false) []))))))))))))))))) (.r 3 b49_1 (.c (c_len (e := TEntry.en) (l := m.Entries)) (.r 2 b49_1 (.r 4 b49_2 (.r 3 b49_3 (.c (Asks.of (C := Meets Try.prog) (diwanref1_MayTxn.meets fu m.T _ h49_5)) (.c b49_2 (.c b49_3 (.c b49_2 (.r 3 b49_6 (.c (c_len (e := e_s) (l := m.Keys)) (.r 2 b49_6 (.r 3 b49_7 (.c (Asks.of (C := Meets Try.prog) (diwanref1_Rising.meets fu m.Keys _ h49_9)) (.c b49_7 (.r 5 b49_10 (.r 5 b49_11 (.r 5 b49_12 (.r 11 rF .n))))))))))))))))))) ?_
                      refine kRt ?_
                      have h_ := some_inj h
                      subst h_
                      exact kFr
                    ·refine kRs 0 [Tm 2 (bv false)] (.b true :: (.b true :: (.b true :: (.s (.t 175) [iv (m.Entries.length : Int)] :: (rp 6 (.b true) (.b false :: (.b false :: (.b false :: (.a ⟨bv r49_4, []⟩ :: (.b true :: (.b false :: (rp 4 (.b true) (.s (.t 191) [iv (m.Keys.length : Int)] :: (rp 5 (.b true) (.a ⟨bv r49_8, []⟩ :: (rp 6 (.b true) (rp 21 (.b false) []))))))))))))))))) (.r 3 b49_1 (.c (c_len (e := TEntry.en) (l := m.Entries)) (.r 2 b49_1 (.r 4 b49_2 (.r 3 b49_3 (.c (Asks.of (C := Meets Try.prog) (diwanref1_MayTxn.meets fu m.T _ h49_5)) (.c b49_2 (.c b49_3 (.c b49_2 (.r 3 b49_6 (.c (c_len (e := e_s) (l := m.Keys)) (.r 2 b49_6 (.r 3 b49_7 (.c (Asks.of (C := Meets Try.prog) (diwanref1_Rising.meets fu m.Keys _ h49_9)) (.c b49_7 (.r 5 b49_10 (.r 5 b49_11 (.r 16 rF .n)))))))))))))))))) ?_
                     refine kRt ?_
                     have h_ := some_inj h
                     subst h_
                     exact kFr
                   ·refine kRs 0 [Tm 2 (bv false)] (.b true :: (.b true :: (.b true :: (.s (.t 175) [iv (m.Entries.length : Int)] :: (rp 6 (.b true) (.b false :: (.b false :: (.b false :: (.a ⟨bv r49_4, []⟩ :: (.b true :: (.b false :: (rp 4 (.b true) (.s (.t 191) [iv (m.Keys.length : Int)] :: (rp 5 (.b true) (.a ⟨bv r49_8, []⟩ :: (.b true :: (rp 26 (.b false) []))))))))))))))))) (.r 3 b49_1 (.c (c_len (e := TEntry.en) (l := m.Entries)) (.r 2 b49_1 (.r 4 b49_2 (.r 3 b49_3 (.c (Asks.of (C := Meets Try.prog) (diwanref1_MayTxn.meets fu m.T _ h49_5)) (.c b49_2 (.c b49_3 (.c b49_2 (.r 3 b49_6 (.c (c_len (e := e_s) (l := m.Keys)) (.r 2 b49_6 (.r 3 b49_7 (.c (Asks.of (C := Meets Try.prog) (diwanref1_Rising.meets fu m.Keys _ h49_9)) (.c b49_7 (.r 5 b49_10 (.r 21 rF .n))))))))))))))))) ?_
                    refine kRt ?_
                    have h_ := some_inj h
                    subst h_
                    exact kFr
                  ·refine kRs 0 [Tm 2 (bv false)] (.b true :: (.b true :: (.b true :: (.s (.t 175) [iv (m.Entries.length : Int)] :: (rp 6 (.b true) (.b false :: (.b false :: (.b false :: (.a ⟨bv r49_4, []⟩ :: (.b true :: (.b false :: (rp 4 (.b true) (.s (.t 191) [iv (m.Keys.length : Int)] :: (.b true :: (.b true :: (rp 30 (.b false) [])))))))))))))))) (.r 3 b49_1 (.c (c_len (e := TEntry.en) (l := m.Entries)) (.r 2 b49_1 (.r 4 b49_2 (.r 3 b49_3 (.c (Asks.of (C := Meets Try.prog) (diwanref1_MayTxn.meets fu m.T _ h49_5)) (.c b49_2 (.c b49_3 (.c b49_2 (.r 3 b49_6 (.c (c_len (e := e_s) (l := m.Keys)) (.r 2 b49_6 (.r 4 b49_7 (.r 26 rF .n)))))))))))))) ?_
                   refine kRt ?_
                   have h_ := some_inj h
                   subst h_
                   exact kFr
                 ·refine kRs 0 [Tm 2 (bv false)] (.b true :: (.b true :: (.b true :: (.s (.t 175) [iv (m.Entries.length : Int)] :: (rp 6 (.b true) (.b false :: (.b false :: (.b false :: (.a ⟨bv r49_4, []⟩ :: (.b true :: (.b false :: (.b true :: (rp 35 (.b false) []))))))))))))) (.r 3 b49_1 (.c (c_len (e := TEntry.en) (l := m.Entries)) (.r 2 b49_1 (.r 4 b49_2 (.r 3 b49_3 (.c (Asks.of (C := Meets Try.prog) (diwanref1_MayTxn.meets fu m.T _ h49_5)) (.c b49_2 (.c b49_3 (.c b49_2 (.r 5 b49_6 (.r 30 rF .n))))))))))) ?_
                  refine kRt ?_
                  have h_ := some_inj h
                  subst h_
                  exact kFr
               ·refine kRs 0 [Tm 2 (bv false)] (.b true :: (.b true :: (.b true :: (.s (.t 175) [iv (m.Entries.length : Int)] :: (.b true :: (.b true :: (rp 41 (.b false) []))))))) (.r 3 b49_1 (.c (c_len (e := TEntry.en) (l := m.Entries)) (.r 2 b49_1 (.r 6 b49_2 (.r 35 rF .n))))) ?_
                refine kRt ?_
                have h_ := some_inj h
                subst h_
                exact kFr
              ·refine kRs 0 [Tm 2 (bv false)] (rp 46 (.b false) []) (.r 5 b49_1 (.r 41 rF .n)) ?_
               refine kRt ?_
               have h_ := some_inj h
               subst h_
               exact kFr
             ·obtain ⟨⟩ := o48
              obtain ⟨rfl, rfl⟩ := hp_
              have h_ := some_inj h
              subst h_
              exact kFr
            ·obtain ⟨⟩ := o35
             obtain ⟨rfl, rfl⟩ := hp_
             have h_ := some_inj h
             subst h_
             exact kFr
           ·obtain ⟨⟩ := o24
            obtain ⟨rfl, rfl⟩ := hp_
            have h_ := some_inj h
            subst h_
            exact kFr
def bd4 : Code := (Try.f4.body).getD .skip
def diwanlaw6_MsgTake.O : Nat → Nat := fun t => bif ([2, 3, 4, 5, 16, 21] : List Nat).any (Nat.beq t) then 1 else 0
def diwanlaw6_MsgTake (fu : Nat) (b : List Int) : Option Bool :=
 bd (diwanlaw6_begun fu) fun r2_1 =>
 br (!r2_1)
  (some false)
  (br (decide ((b.length : Int) > 200))
   (some true)
   (bd (diwanlaw0_Lent fu b) fun (r8_1, r8_2) =>
   bd (msg_Take fu (List.take r8_1 r8_2)) fun (r9_1, r9_2) =>
   br (!r9_2)
    (jn (fun (j13_0 : Bool) =>
     some j13_0) fun k13 =>
    bd (diwanref1_SameMsg fu r9_1 (TMsg.mk 0 0 0 0 0 0 0 0 false [] (TTxn.mk 0 0 [] []) 0 0 0 0 false ByteArray.empty ByteArray.empty [] [] 0)) fun r12_1 =>
    br r12_1
     (bd (diwanlaw0_Back fu r8_1 r8_2 b) fun r12_4 =>
     k13 r12_4)
     (k13 false))
    (bd (msg_May fu r9_1) fun r14_1 =>
    br r14_1
     (bd (diwanref1_MayMsg fu r9_1) fun r14_4 =>
     br r14_4
      (bd (msg_Put fu r9_1) fun r14_7 =>
      br ((strB r14_7).toList == (strB b).toList)
       (bd (diwanlaw0_Back fu r8_1 r8_2 b) fun r14_10 =>
       some r14_10)
       (some false))
      (some false))
     (some false))))
theorem diwanlaw6_MsgTake.meets (fu : Nat) (b : List Int) (z0 : Bool) (h : diwanlaw6_MsgTake fu b = some z0) : Meets Try.prog ⟨4, [sS 1 e_u8 b], []⟩ ⟨bv z0, []⟩ := by
 refine kMt hmix diwanlaw6_MsgTake.O Try.f4 bd4 1 ?_
 unfold diwanlaw6_MsgTake at h
 refine kRs 1 [] [] .n ?_
 refine kSq ?_
 obtain ⟨r2_1, h2_2, h⟩ := bd_inv h
 refine kRs 1 [Tm 7 (bv (!r2_1))] [.a ⟨bv r2_1, []⟩] (.c (Asks.of (C := Meets Try.prog) (diwanlaw6_begun.meets fu _ h2_2)) .n) ?_
 rcases br_inv h with ⟨b3_0, h⟩ | ⟨b3_0, h⟩
 ·refine kCt b3_0 ?_
  refine kRs 0 [Tm 2 (bv false)] [] .n ?_
  refine kRt ?_
  have h_ := some_inj h
  subst h_
  exact kFr
 ·refine kCe b3_0 ?_
  refine kSk ?_
  refine kCd (cR (cR bd4)) [] ?_
  refine kSq ?_
  refine kRs 2 [Tm 10 (bv (decide ((b.length : Int) > 200)))] [.s (.t 9) [iv (b.length : Int)]] (.c (c_len (e := e_u8) (l := b)) .n) ?_
  rcases br_inv h with ⟨b6_0, h⟩ | ⟨b6_0, h⟩
  ·refine kCt b6_0 ?_
   refine kRs 0 [Tm 2 (bv true)] [] .n ?_
   refine kRt ?_
   have h_ := some_inj h
   subst h_
   exact kFr
  ·refine kCe b6_0 ?_
   refine kSk ?_
   refine kCd (cR (cR (cR bd4))) [] ?_
   obtain ⟨⟨r8_1, r8_2⟩, h8_3, h⟩ := bd_inv h
   refine kRs 2 [Tm 3 (.data (.rm r8_1 1 (List.map e_u8 r8_2)))] [.a ⟨.data (.rm r8_1 1 (List.map e_u8 r8_2)), []⟩] (.c (Asks.of (C := Meets Try.prog) (diwanlaw0_Lent.meets fu b _ _ h8_3)) .n) ?_
   obtain ⟨⟨r9_1, r9_2⟩, h9_3, h⟩ := bd_inv h
   refine kRs 3 [Tm 4 (.ptr 4 0), Tm 5 (bv r9_2), Ob 4 (TMsg.ob r9_1)] [.a ⟨.tup [.data (TMsg.ag r9_1), bv r9_2], []⟩] (.c (Asks.rm (C := Meets Try.prog) (args1 := []) (args2 := []) (n := r8_1) (sz := 1) (es := List.map e_u8 r8_2) (Eq.refl true) (c_tkm (e := e_u8)) (Asks.of (C := Meets Try.prog) (msg_Take.meets fu (List.take r8_1 r8_2) _ _ h9_3))) .n) ?_
   refine kSq ?_
   refine kRs 29 [Tm 19 (bv (!r9_2))] [] .n ?_
   rcases br_inv h with ⟨b11_0, h⟩ | ⟨b11_0, h⟩
   ·refine kCt b11_0 ?_
    obtain ⟨k13, hk13, h⟩ := jn_inv h
    have Jk13 : ∀ (j13_0 : Bool), k13 j13_0 = some z0 → WK Try.prog diwanlaw6_MsgTake.O (Ck Try.prog) (cR (cT (cR (cL (cR (cR (cR (cR (cR bd4))))))))) [.seq (cR (cR (cR (cR (cR (cR bd4))))))] (ofL [Tm 2 (bv j13_0)]) (Fin Try.prog diwanlaw6_MsgTake.O Try.f4 0 ⟨bv z0, []⟩) := by
     intro j13_0 h
     rw [hk13] at h
     refine kRt ?_
     have h_ := some_inj h
     subst h_
     exact kFr
    clear hk13
    obtain ⟨r12_1, h12_2, h⟩ := bd_inv h
    rcases br_inv h with ⟨b12_3, h⟩ | ⟨b12_3, h⟩
    ·obtain ⟨r12_4, h12_5, h⟩ := bd_inv h
     refine kRs 0 [Tm 2 (bv r12_4)] [.a ⟨bv r12_1, []⟩, .b true, .b true, .b true, .a ⟨bv r12_4, []⟩, .b true] (.c (Asks.of (C := Meets Try.prog) (diwanref1_SameMsg.meets fu r9_1 (TMsg.mk 0 0 0 0 0 0 0 0 false [] (TTxn.mk 0 0 [] []) 0 0 0 0 false ByteArray.empty ByteArray.empty [] [] 0) _ h12_2)) (.r 3 b12_3 (.c (Asks.of (C := Meets Try.prog) (diwanlaw0_Back.meets fu r8_1 r8_2 b _ h12_5)) (.c b12_3 .n)))) ?_
     exact kWk (Jk13 r12_4 h)
    ·refine kRs 0 [Tm 2 (bv false)] (.a ⟨bv r12_1, []⟩ :: (rp 4 (.b false) [])) (.c (Asks.of (C := Meets Try.prog) (diwanref1_SameMsg.meets fu r9_1 (TMsg.mk 0 0 0 0 0 0 0 0 false [] (TTxn.mk 0 0 [] []) 0 0 0 0 false ByteArray.empty ByteArray.empty [] [] 0) _ h12_2)) (.r 4 b12_3 .n)) ?_
     exact kWk (Jk13 false h)
   ·refine kCe b11_0 ?_
    refine kSk ?_
    refine kCd (cR (cR (cR (cR (cR (cR bd4)))))) [] ?_
    obtain ⟨r14_1, h14_2, h⟩ := bd_inv h
    rcases br_inv h with ⟨b14_3, h⟩ | ⟨b14_3, h⟩
    ·obtain ⟨r14_4, h14_5, h⟩ := bd_inv h
     rcases br_inv h with ⟨b14_6, h⟩ | ⟨b14_6, h⟩
     ·obtain ⟨r14_7, h14_8, h⟩ := bd_inv h
      rcases br_inv h with ⟨b14_9, h⟩ | ⟨b14_9, h⟩
      ·obtain ⟨r14_10, h14_11, h⟩ := bd_inv h
       refine kRs 0 [Tm 2 (bv r14_10)] (.a ⟨bv r14_1, []⟩ :: (.b true :: (.b true :: (.a ⟨bv r14_4, []⟩ :: (.b true :: (.b true :: (.b true :: (.a ⟨.data (.slc true (some r14_7.isEmpty) 1 (List.map e_u8 r14_7)), []⟩ :: (rp 8 (.b true) [.a ⟨bv r14_10, []⟩, .b true]))))))))) (.c (Asks.of (C := Meets Try.prog) (msg_May.meets fu r9_1 _ h14_2)) (.r 2 b14_3 (.c (Asks.of (C := Meets Try.prog) (diwanref1_MayMsg.meets fu r9_1 _ h14_5)) (.c b14_3 (.r 2 b14_6 (.c (Asks.of (C := Meets Try.prog) (msg_Put.meets fu r9_1 _ h14_8)) (.c b14_6 (.c (c_ab r14_7) (.r 2 b14_6 (.c (c_ab b) (.r 2 b14_6 (.r 3 b14_9 (.c (Asks.of (C := Meets Try.prog) (diwanlaw0_Back.meets fu r8_1 r8_2 b _ h14_11)) (.c b14_9 (.c rT .n))))))))))))))) ?_
       refine kRt ?_
       have h_ := some_inj h
       subst h_
       exact kFr
      ·refine kRs 0 [Tm 2 (bv false)] (.a ⟨bv r14_1, []⟩ :: (.b true :: (.b true :: (.a ⟨bv r14_4, []⟩ :: (.b true :: (.b true :: (.b true :: (.a ⟨.data (.slc true (some r14_7.isEmpty) 1 (List.map e_u8 r14_7)), []⟩ :: (rp 5 (.b true) (rp 4 (.b false) [])))))))))) (.c (Asks.of (C := Meets Try.prog) (msg_May.meets fu r9_1 _ h14_2)) (.r 2 b14_3 (.c (Asks.of (C := Meets Try.prog) (diwanref1_MayMsg.meets fu r9_1 _ h14_5)) (.c b14_3 (.r 2 b14_6 (.c (Asks.of (C := Meets Try.prog) (msg_Put.meets fu r9_1 _ h14_8)) (.c b14_6 (.c (c_ab r14_7) (.r 2 b14_6 (.c (c_ab b) (.r 2 b14_6 (.r 4 b14_9 (.c rT .n))))))))))))) ?_
       refine kRt ?_
       have h_ := some_inj h
       subst h_
       exact kFr
     ·refine kRs 0 [Tm 2 (bv false)] (.a ⟨bv r14_1, []⟩ :: (.b true :: (.b true :: (.a ⟨bv r14_4, []⟩ :: (.b true :: (rp 11 (.b false) [])))))) (.c (Asks.of (C := Meets Try.prog) (msg_May.meets fu r9_1 _ h14_2)) (.r 2 b14_3 (.c (Asks.of (C := Meets Try.prog) (diwanref1_MayMsg.meets fu r9_1 _ h14_5)) (.c b14_3 (.r 7 b14_6 (.r 4 rF (.c rT .n))))))) ?_
      refine kRt ?_
      have h_ := some_inj h
      subst h_
      exact kFr
    ·refine kRs 0 [Tm 2 (bv false)] (.a ⟨bv r14_1, []⟩ :: (rp 14 (.b false) [])) (.c (Asks.of (C := Meets Try.prog) (msg_May.meets fu r9_1 _ h14_2)) (.r 3 b14_3 (.r 11 rF (.c rT .n)))) ?_
     refine kRt ?_
     have h_ := some_inj h
     subst h_
     exact kFr
end Go.Proofs.Ytbflggolnolaeaa.Told
