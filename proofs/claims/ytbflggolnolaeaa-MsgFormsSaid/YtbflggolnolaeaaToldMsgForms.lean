/- Functions of the program told as Lean functions, with the walks of their code in the machine by value. -/
import Derived.Test.YtbflggolnolaeaaProg
import Derived.Test.YtbflggolnolaeaaVam2
import Derived.Test.YtbflggolnolaeaaToldMsgFormsp1
noncomputable section
namespace Go.Proofs.Ytbflggolnolaeaa.Told
open Go Go.Proofs Go.Proofs.Ytbflggolnolaeaa Go.Proofs.Ytbflggolnolaeaa.Vam
set_option linter.unusedVariables false
set_option maxRecDepth 100000
def msg_reader_many_2.O : Nat → Nat := fun t => bif ([4] : List Nat).any (Nat.beq t) then 1 else 0
def msg_reader_many_2.lp2 (fu : Nat) : Nat → Int → TReader → TMsg → Option (TReader × TMsg)
  | 0, _, _, _ => none
  | n_ + 1, l2_0, l2_1, l2_2 =>
  br (decide (l2_0 > 0))
   (br (!l2_1.bad)
    (bd (msg_Take_2 fu l2_2 l2_1) fun (r5_1, r5_2) =>
    msg_reader_many_2.lp2 fu n_ (w64 (l2_0 - 1)) r5_2 r5_1)
    (some (l2_1, l2_2)))
   (some (l2_1, l2_2))
def msg_reader_many_2.lp2_post (r_ : (TReader × TMsg)) : Wy → St → Prop := fun e τ => match r_ with
  | (y0, y1) => e = .exit 0 ∧ τ = ofL [Ob 1000 [sS 1 e_u8 y0.b, bv y0.bad], Ob 1001 (TMsg.ob_00000000010000000000011 y1), Ob 1002 [.ptr 1000 0]]
theorem msg_reader_many_2.lp2_ok (fu : Nat) : ∀ (n_ : Nat) (l2_0 : Int) (l2_1 : TReader) (l2_2 : TMsg) (r_ : (TReader × TMsg)), msg_reader_many_2.lp2 fu n_ l2_0 l2_1 l2_2 = some r_ → WK Try.prog msg_reader_many_2.O (Ck Try.prog) (cB (cR bd54)) [] (ofL [Tm 0 (.ptr 1000 0), Tm 1 (.fn (.func 58) [] [.ptr 1001 0, .ptr 1002 0]), Tm 4 (iv l2_0), Ob 1000 [sS 1 e_u8 l2_1.b, bv l2_1.bad], Ob 1001 (TMsg.ob_00000000010000000000011 l2_2), Ob 1002 [.ptr 1000 0]]) (msg_reader_many_2.lp2_post r_) := by
 intro n_
 induction n_ with
 | zero => intro l2_0 l2_1 l2_2 r_ h; exact no_none h
 | succ n_ ih =>
  intro l2_0 l2_1 l2_2 r_ h
  refine kLp ?_
  refine kSq ?_
  rcases br_inv h with ⟨b3_1, h⟩ | ⟨b3_1, h⟩
  ·refine kRs 63 [Tm 15 (bv (!l2_1.bad))] (rp 6 (.b true) []) (.r 6 b3_1 .n) ?_
   rcases br_inv h with ⟨b4_0, h⟩ | ⟨b4_0, h⟩
   ·refine kCt b4_0 ?_
    refine kSk ?_
    refine kCd (cR (cB (cB (cR bd54)))) [.lp (cB (cR bd54))] ?_
    refine kSq ?_
    refine kBk 1 ?_
    obtain ⟨⟨r5_1, r5_2⟩, h5_3, h⟩ := bd_inv h
    refine kRc 78 [Ob 1000 [sS 1 e_u8 r5_2.b, bv r5_2.bad], Ob 1001 (TMsg.ob_00000000010000000000011 r5_1)] [.a ⟨.tup [], [(TMsg.ob_00000000010000000000011 r5_1), [.ptr 1002 0], [sS 1 e_u8 r5_2.b, bv r5_2.bad]]⟩] (.c (Asks.of (C := Meets Try.prog) (msg_Take_2.meets fu l2_2 l2_1 _ _ h5_3)) .n) (cR (cR (cB (cB (cR bd54))))) [.lp (cB (cR bd54))] ?_
    refine kRc 47 [Tm 4 (iv (w64 (l2_0 - 1)))] [] .n (cB (cR bd54)) [] ?_
    exact kWk (ih (w64 (l2_0 - 1)) r5_2 r5_1 _ h)
   ·refine kCe b4_0 ?_
    cases some_inj h
    refine kWo ?_
    refine kXt 0 ?_
    exact kOut
  ·refine kRs 63 [Tm 15 (bv false)] (rp 6 (.b false) []) (.r 6 b3_1 .n) ?_
   refine kCe rF ?_
   cases some_inj h
   refine kWo ?_
   refine kXt 0 ?_
   exact kOut
def msg_reader_many_2 (fu : Nat) (o0_v : TReader) (o1_v : TMsg) : Option (TReader × TMsg) :=
 bd (msg_reader_num fu o0_v) fun (r1_1, r1_2) =>
 bd (msg_reader_many_2.lp2 fu fu r1_1 r1_2 o1_v) fun (y7_0, y7_1) =>
 some (y7_0, y7_1)
theorem msg_reader_many_2.meets (fu : Nat) (o0_v : TReader) (o1_v : TMsg) (z0 : TReader) (z1 : TMsg) (h : msg_reader_many_2 fu o0_v o1_v = some (z0, z1)) : Meets Try.prog ⟨54, [.ptr 1000 0, .fn (.func 58) [] [.ptr 1001 0, .ptr 1002 0]], [[sS 1 e_u8 o0_v.b, bv o0_v.bad], (TMsg.ob_00000000010000000000011 o1_v), [.ptr 1000 0]]⟩ ⟨.tup [], [[sS 1 e_u8 z0.b, bv z0.bad], (TMsg.ob_00000000010000000000011 z1), [.ptr 1000 0]]⟩ := by
 refine kMt hmix msg_reader_many_2.O Try.f54 bd54 31 ?_
 unfold msg_reader_many_2 at h
 obtain ⟨⟨r1_1, r1_2⟩, h1_3, h⟩ := bd_inv h
 refine kRs 27 [Tm 4 (iv r1_1), Ob 1000 [sS 1 e_u8 r1_2.b, bv r1_2.bad]] [.a ⟨iv r1_1, [[sS 1 e_u8 r1_2.b, bv r1_2.bad]]⟩] (.c (Asks.of (C := Meets Try.prog) (msg_reader_num.meets fu o0_v _ _ h1_3)) .n) ?_
 refine kBk 0 ?_
 obtain ⟨o7, ho7, h⟩ := bd_inv h
 refine kUs (msg_reader_many_2.lp2_ok fu _ r1_1 r1_2 o1_v _ ho7) ?_
 intro e_ τ_ hp_
 obtain ⟨y7_0, y7_1⟩ := o7
 obtain ⟨rfl, rfl⟩ := hp_
 have h_0 := some_inj h
 obtain ⟨g_1, h_1⟩ := Prod.mk.inj h_0
 subst g_1
 subst h_1
 exact kFn
def bd59 : Code := (Try.f59.body).getD .skip
def msg_Take_3.O : Nat → Nat := fun t => bif ([12, 13, 14] : List Nat).any (Nat.beq t) then 1 else 0
def msg_Take_3 (fu : Nat) (o0_v : TMsg) (o2_v : TReader) : Option (TMsg × TReader) :=
 bd (msg_reader_text fu o2_v) fun (r1_1, r1_2) =>
 bd (msg_reader_num fu r1_2) fun (r1_4, r1_5) =>
 bd (msg_reader_text fu r1_5) fun (r1_7, r1_8) =>
 bd (msg_reader_flag fu r1_8) fun (r1_10, r1_11) =>
 gd (decide (o0_v.Got.length + ([(TRead.mk r1_1 r1_4 r1_7 r1_10)] : List TRead).length ≤ 4294967296)) <|
 some ((TMsg.mk o0_v.Kind o0_v.From o0_v.To o0_v.Part o0_v.Term o0_v.Index o0_v.LogTerm o0_v.Commit o0_v.OK o0_v.Entries o0_v.T o0_v.Session o0_v.Seq o0_v.Pos o0_v.Shard o0_v.Span o0_v.FromKey o0_v.ToKey o0_v.Keys (o0_v.Got ++ ([(TRead.mk r1_1 r1_4 r1_7 r1_10)] : List TRead)) o0_v.Err), r1_11)
theorem msg_Take_3.meets (fu : Nat) (o0_v : TMsg) (o2_v : TReader) (z0 : TMsg) (z1 : TReader) (h : msg_Take_3 fu o0_v o2_v = some (z0, z1)) : Meets Try.prog ⟨59, [.ptr 1000 0, .ptr 1001 0], [(TMsg.ob_00000000010000000000011 o0_v), [.ptr 1002 0], [sS 1 e_u8 o2_v.b, bv o2_v.bad]]⟩ ⟨.tup [], [(TMsg.ob_00000000010000000000011 z0), [.ptr 1002 0], [sS 1 e_u8 z1.b, bv z1.bad]]⟩ := by
 refine kMt hmix msg_Take_3.O Try.f59 bd59 31 ?_
 unfold msg_Take_3 at h
 obtain ⟨⟨r1_1, r1_2⟩, h1_3, h⟩ := bd_inv h
 obtain ⟨⟨r1_4, r1_5⟩, h1_6, h⟩ := bd_inv h
 obtain ⟨⟨r1_7, r1_8⟩, h1_9, h⟩ := bd_inv h
 obtain ⟨⟨r1_10, r1_11⟩, h1_12, h⟩ := bd_inv h
 obtain ⟨c1_13, h⟩ := gd_inv h
 have h_0 := some_inj h
 obtain ⟨g_1, h_1⟩ := Prod.mk.inj h_0
 subst g_1
 subst h_1
 exact kRf [.a ⟨sv r1_1, [[sS 1 e_u8 r1_2.b, bv r1_2.bad]]⟩, .a ⟨iv r1_4, [[sS 1 e_u8 r1_5.b, bv r1_5.bad]]⟩, .a ⟨sv r1_7, [[sS 1 e_u8 r1_8.b, bv r1_8.bad]]⟩, .a ⟨bv r1_10, [[sS 1 e_u8 r1_11.b, bv r1_11.bad]]⟩, .s (.t 14) [sO 4 TRead.en (o0_v.Got ++ ([(TRead.mk r1_1 r1_4 r1_7 r1_10)] : List TRead))]] (.c (Asks.of (C := Meets Try.prog) (msg_reader_text.meets fu o2_v _ _ h1_3)) (.c (Asks.of (C := Meets Try.prog) (msg_reader_num.meets fu r1_2 _ _ h1_6)) (.c (Asks.of (C := Meets Try.prog) (msg_reader_text.meets fu r1_5 _ _ h1_9)) (.c (Asks.of (C := Meets Try.prog) (msg_reader_flag.meets fu r1_8 _ _ h1_12)) (.c (c_al (e := TRead.en) (f := TRead.en) c1_13) (.c (congrArg (fun d : DV => [AV.data d]) (c_app (e := TRead.en) (s := 4) (l := o0_v.Got) (m := ([(TRead.mk r1_1 r1_4 r1_7 r1_10)] : List TRead)))) (.c rT .n)))))))
def msg_reader_many_3.O : Nat → Nat := fun t => bif ([4] : List Nat).any (Nat.beq t) then 1 else 0
def msg_reader_many_3.lp2 (fu : Nat) : Nat → Int → TReader → TMsg → Option (TReader × TMsg)
  | 0, _, _, _ => none
  | n_ + 1, l2_0, l2_1, l2_2 =>
  br (decide (l2_0 > 0))
   (br (!l2_1.bad)
    (bd (msg_Take_3 fu l2_2 l2_1) fun (r5_1, r5_2) =>
    msg_reader_many_3.lp2 fu n_ (w64 (l2_0 - 1)) r5_2 r5_1)
    (some (l2_1, l2_2)))
   (some (l2_1, l2_2))
def msg_reader_many_3.lp2_post (r_ : (TReader × TMsg)) : Wy → St → Prop := fun e τ => match r_ with
  | (y0, y1) => e = .exit 0 ∧ τ = ofL [Ob 1000 [sS 1 e_u8 y0.b, bv y0.bad], Ob 1001 (TMsg.ob_00000000010000000000011 y1), Ob 1002 [.ptr 1000 0]]
theorem msg_reader_many_3.lp2_ok (fu : Nat) : ∀ (n_ : Nat) (l2_0 : Int) (l2_1 : TReader) (l2_2 : TMsg) (r_ : (TReader × TMsg)), msg_reader_many_3.lp2 fu n_ l2_0 l2_1 l2_2 = some r_ → WK Try.prog msg_reader_many_3.O (Ck Try.prog) (cB (cR bd54)) [] (ofL [Tm 0 (.ptr 1000 0), Tm 1 (.fn (.func 59) [] [.ptr 1001 0, .ptr 1002 0]), Tm 4 (iv l2_0), Ob 1000 [sS 1 e_u8 l2_1.b, bv l2_1.bad], Ob 1001 (TMsg.ob_00000000010000000000011 l2_2), Ob 1002 [.ptr 1000 0]]) (msg_reader_many_3.lp2_post r_) := by
 intro n_
 induction n_ with
 | zero => intro l2_0 l2_1 l2_2 r_ h; exact no_none h
 | succ n_ ih =>
  intro l2_0 l2_1 l2_2 r_ h
  refine kLp ?_
  refine kSq ?_
  rcases br_inv h with ⟨b3_1, h⟩ | ⟨b3_1, h⟩
  ·refine kRs 63 [Tm 15 (bv (!l2_1.bad))] (rp 6 (.b true) []) (.r 6 b3_1 .n) ?_
   rcases br_inv h with ⟨b4_0, h⟩ | ⟨b4_0, h⟩
   ·refine kCt b4_0 ?_
    refine kSk ?_
    refine kCd (cR (cB (cB (cR bd54)))) [.lp (cB (cR bd54))] ?_
    refine kSq ?_
    refine kBk 1 ?_
    obtain ⟨⟨r5_1, r5_2⟩, h5_3, h⟩ := bd_inv h
    refine kRc 78 [Ob 1000 [sS 1 e_u8 r5_2.b, bv r5_2.bad], Ob 1001 (TMsg.ob_00000000010000000000011 r5_1)] [.a ⟨.tup [], [(TMsg.ob_00000000010000000000011 r5_1), [.ptr 1002 0], [sS 1 e_u8 r5_2.b, bv r5_2.bad]]⟩] (.c (Asks.of (C := Meets Try.prog) (msg_Take_3.meets fu l2_2 l2_1 _ _ h5_3)) .n) (cR (cR (cB (cB (cR bd54))))) [.lp (cB (cR bd54))] ?_
    refine kRc 47 [Tm 4 (iv (w64 (l2_0 - 1)))] [] .n (cB (cR bd54)) [] ?_
    exact kWk (ih (w64 (l2_0 - 1)) r5_2 r5_1 _ h)
   ·refine kCe b4_0 ?_
    cases some_inj h
    refine kWo ?_
    refine kXt 0 ?_
    exact kOut
  ·refine kRs 63 [Tm 15 (bv false)] (rp 6 (.b false) []) (.r 6 b3_1 .n) ?_
   refine kCe rF ?_
   cases some_inj h
   refine kWo ?_
   refine kXt 0 ?_
   exact kOut
def msg_reader_many_3 (fu : Nat) (o0_v : TReader) (o1_v : TMsg) : Option (TReader × TMsg) :=
 bd (msg_reader_num fu o0_v) fun (r1_1, r1_2) =>
 bd (msg_reader_many_3.lp2 fu fu r1_1 r1_2 o1_v) fun (y7_0, y7_1) =>
 some (y7_0, y7_1)
theorem msg_reader_many_3.meets (fu : Nat) (o0_v : TReader) (o1_v : TMsg) (z0 : TReader) (z1 : TMsg) (h : msg_reader_many_3 fu o0_v o1_v = some (z0, z1)) : Meets Try.prog ⟨54, [.ptr 1000 0, .fn (.func 59) [] [.ptr 1001 0, .ptr 1002 0]], [[sS 1 e_u8 o0_v.b, bv o0_v.bad], (TMsg.ob_00000000010000000000011 o1_v), [.ptr 1000 0]]⟩ ⟨.tup [], [[sS 1 e_u8 z0.b, bv z0.bad], (TMsg.ob_00000000010000000000011 z1), [.ptr 1000 0]]⟩ := by
 refine kMt hmix msg_reader_many_3.O Try.f54 bd54 31 ?_
 unfold msg_reader_many_3 at h
 obtain ⟨⟨r1_1, r1_2⟩, h1_3, h⟩ := bd_inv h
 refine kRs 27 [Tm 4 (iv r1_1), Ob 1000 [sS 1 e_u8 r1_2.b, bv r1_2.bad]] [.a ⟨iv r1_1, [[sS 1 e_u8 r1_2.b, bv r1_2.bad]]⟩] (.c (Asks.of (C := Meets Try.prog) (msg_reader_num.meets fu o0_v _ _ h1_3)) .n) ?_
 refine kBk 0 ?_
 obtain ⟨o7, ho7, h⟩ := bd_inv h
 refine kUs (msg_reader_many_3.lp2_ok fu _ r1_1 r1_2 o1_v _ ho7) ?_
 intro e_ τ_ hp_
 obtain ⟨y7_0, y7_1⟩ := o7
 obtain ⟨rfl, rfl⟩ := hp_
 have h_0 := some_inj h
 obtain ⟨g_1, h_1⟩ := Prod.mk.inj h_0
 subst g_1
 subst h_1
 exact kFn
def bd16 : Code := (Try.f16.body).getD .skip
def msg_Take.O : Nat → Nat := fun t => bif ([2, 3, 4, 5, 8, 11, 20, 29, 37, 41, 50, 53, 55, 57, 68, 86, 87] : List Nat).any (Nat.beq t) then 1 else 0
def msg_Take.lp5 (fu : Nat) (l5_0 : List Int) (l5_1 : Int) (l5_3 : TMsg) : Nat → Int → TMsg → TReader → Option (TMsg × TReader)
  | 0, _, _, _ => none
  | n_ + 1, l5_2, l5_4, l5_5 =>
  br (decide (l5_2 < l5_1))
   (br (l5_2 == 0)
    (bd (msg_reader_num fu l5_5) fun (r9_1, r9_2) =>
    msg_Take.lp5 fu l5_0 l5_1 l5_3 n_ (w64 (l5_2 + 1)) (TMsg.mk l5_4.Kind l5_4.From l5_4.To l5_4.Part r9_1 l5_4.Index l5_4.LogTerm l5_4.Commit l5_4.OK l5_4.Entries l5_4.T l5_4.Session l5_4.Seq l5_4.Pos l5_4.Shard l5_4.Span l5_4.FromKey l5_4.ToKey l5_4.Keys l5_4.Got l5_4.Err) r9_2)
    (br (l5_2 == 1)
     (bd (msg_reader_num fu l5_5) fun (r11_1, r11_2) =>
     msg_Take.lp5 fu l5_0 l5_1 l5_3 n_ (w64 (l5_2 + 1)) (TMsg.mk l5_4.Kind l5_4.From l5_4.To l5_4.Part l5_4.Term r11_1 l5_4.LogTerm l5_4.Commit l5_4.OK l5_4.Entries l5_4.T l5_4.Session l5_4.Seq l5_4.Pos l5_4.Shard l5_4.Span l5_4.FromKey l5_4.ToKey l5_4.Keys l5_4.Got l5_4.Err) r11_2)
     (br (l5_2 == 2)
      (bd (msg_reader_num fu l5_5) fun (r13_1, r13_2) =>
      msg_Take.lp5 fu l5_0 l5_1 l5_3 n_ (w64 (l5_2 + 1)) (TMsg.mk l5_4.Kind l5_4.From l5_4.To l5_4.Part l5_4.Term l5_4.Index r13_1 l5_4.Commit l5_4.OK l5_4.Entries l5_4.T l5_4.Session l5_4.Seq l5_4.Pos l5_4.Shard l5_4.Span l5_4.FromKey l5_4.ToKey l5_4.Keys l5_4.Got l5_4.Err) r13_2)
      (br (l5_2 == 3)
       (bd (msg_reader_num fu l5_5) fun (r15_1, r15_2) =>
       msg_Take.lp5 fu l5_0 l5_1 l5_3 n_ (w64 (l5_2 + 1)) (TMsg.mk l5_4.Kind l5_4.From l5_4.To l5_4.Part l5_4.Term l5_4.Index l5_4.LogTerm r15_1 l5_4.OK l5_4.Entries l5_4.T l5_4.Session l5_4.Seq l5_4.Pos l5_4.Shard l5_4.Span l5_4.FromKey l5_4.ToKey l5_4.Keys l5_4.Got l5_4.Err) r15_2)
       (br (l5_2 == 4)
        (bd (msg_reader_num fu l5_5) fun (r17_1, r17_2) =>
        msg_Take.lp5 fu l5_0 l5_1 l5_3 n_ (w64 (l5_2 + 1)) (TMsg.mk l5_4.Kind l5_4.From l5_4.To l5_4.Part l5_4.Term l5_4.Index l5_4.LogTerm l5_4.Commit l5_4.OK l5_4.Entries l5_4.T r17_1 l5_4.Seq l5_4.Pos l5_4.Shard l5_4.Span l5_4.FromKey l5_4.ToKey l5_4.Keys l5_4.Got l5_4.Err) r17_2)
        (br (l5_2 == 5)
         (bd (msg_reader_num fu l5_5) fun (r19_1, r19_2) =>
         msg_Take.lp5 fu l5_0 l5_1 l5_3 n_ (w64 (l5_2 + 1)) (TMsg.mk l5_4.Kind l5_4.From l5_4.To l5_4.Part l5_4.Term l5_4.Index l5_4.LogTerm l5_4.Commit l5_4.OK l5_4.Entries l5_4.T l5_4.Session r19_1 l5_4.Pos l5_4.Shard l5_4.Span l5_4.FromKey l5_4.ToKey l5_4.Keys l5_4.Got l5_4.Err) r19_2)
         (br (l5_2 == 6)
          (bd (msg_reader_num fu l5_5) fun (r21_1, r21_2) =>
          msg_Take.lp5 fu l5_0 l5_1 l5_3 n_ (w64 (l5_2 + 1)) (TMsg.mk l5_4.Kind l5_4.From l5_4.To l5_4.Part l5_4.Term l5_4.Index l5_4.LogTerm l5_4.Commit l5_4.OK l5_4.Entries l5_4.T l5_4.Session l5_4.Seq r21_1 l5_4.Shard l5_4.Span l5_4.FromKey l5_4.ToKey l5_4.Keys l5_4.Got l5_4.Err) r21_2)
          (br (l5_2 == 7)
           (bd (msg_reader_num fu l5_5) fun (r23_1, r23_2) =>
           msg_Take.lp5 fu l5_0 l5_1 l5_3 n_ (w64 (l5_2 + 1)) (TMsg.mk l5_4.Kind l5_4.From l5_4.To l5_4.Part l5_4.Term l5_4.Index l5_4.LogTerm l5_4.Commit l5_4.OK l5_4.Entries l5_4.T l5_4.Session l5_4.Seq l5_4.Pos r23_1 l5_4.Span l5_4.FromKey l5_4.ToKey l5_4.Keys l5_4.Got l5_4.Err) r23_2)
           (none)))))))))
   (some (l5_4, l5_5))
def msg_Take.lp5_post (l5_0 : List Int) (l5_1 : Int) (l5_3 : TMsg) (r_ : (TMsg × TReader)) : Wy → St → Prop := fun e τ => match r_ with
  | (y0, y1) => e = .exit 0 ∧ τ = ofL [Tm 0 (sS 1 e_u8 l5_0), Tm 2 (.ptr 2 0), Tm 4 (.ptr 4 0), Tm 5 (.ptr 5 0), Ob 2 (TMsg.ob_00000000010011000000011 l5_3), Ob 4 [.ptr 11 0], Ob 5 (TMsg.ob_00000000010011000000011 y0), Ob 11 [sS 1 e_u8 y1.b, bv y1.bad]]
theorem msg_Take.lp5_ok (fu : Nat) (l5_0 : List Int) (l5_1 : Int) (l5_3 : TMsg) : ∀ (n_ : Nat) (l5_2 : Int) (l5_4 : TMsg) (l5_5 : TReader) (r_ : (TMsg × TReader)), msg_Take.lp5 fu l5_0 l5_1 l5_3 n_ l5_2 l5_4 l5_5 = some r_ → WK Try.prog msg_Take.O (Ck Try.prog) (cB (cR (cL (cR (cR (cR bd16)))))) [] (ofL [Tm 0 (sS 1 e_u8 l5_0), Tm 2 (.ptr 2 0), Tm 4 (.ptr 4 0), Tm 5 (.ptr 5 0), Tm 29 (.orow 29 8), Tm 30 (iv l5_1), Tm 31 (iv l5_2), Ob 2 (TMsg.ob_00000000010011000000011 l5_3), Ob 4 [.ptr 11 0], Ob 5 (TMsg.ob_00000000010011000000011 l5_4), Ob 11 [sS 1 e_u8 l5_5.b, bv l5_5.bad], Ob 29 [.ptr 5 4, .ptr 5 5, .ptr 5 6, .ptr 5 7, .ptr 5 14, .ptr 5 15, .ptr 5 16, .ptr 5 17]]) (msg_Take.lp5_post l5_0 l5_1 l5_3 r_) := by
 intro n_
 induction n_ with
 | zero => intro l5_2 l5_4 l5_5 r_ h; exact no_none h
 | succ n_ ih =>
  intro l5_2 l5_4 l5_5 r_ h
  refine kLp ?_
  refine kRs 4095 [Tm 32 (bv (decide (l5_2 < l5_1)))] [] .n ?_
  refine kSq ?_
  rcases br_inv h with ⟨b7_0, h⟩ | ⟨b7_0, h⟩
  ·refine kCt b7_0 ?_
   refine kSk ?_
   refine kCd (cR (cR (cB (cB (cR (cL (cR (cR (cR bd16))))))))) [.lp (cB (cR (cL (cR (cR (cR bd16))))))] ?_
   refine kSq ?_
   refine kBk 1 ?_
   rcases br_inv h with ⟨b8_1, h⟩ | ⟨b8_1, h⟩
   ·refine kRs 8190 [Tm 7 (.ptr 5 4)] [.i 0] (.c (c_ib (j := 0) (n := 8) b8_1 (Eq.refl true)) (.c (c_ii (j := 0) b8_1) .n)) ?_
    obtain ⟨⟨r9_1, r9_2⟩, h9_3, h⟩ := bd_inv h
    refine kRc 5118 [Ob 5 (TMsg.ob_00000000010011000000011 (TMsg.mk l5_4.Kind l5_4.From l5_4.To l5_4.Part r9_1 l5_4.Index l5_4.LogTerm l5_4.Commit l5_4.OK l5_4.Entries l5_4.T l5_4.Session l5_4.Seq l5_4.Pos l5_4.Shard l5_4.Span l5_4.FromKey l5_4.ToKey l5_4.Keys l5_4.Got l5_4.Err)), Ob 11 [sS 1 e_u8 r9_2.b, bv r9_2.bad]] [.a ⟨iv r9_1, [[sS 1 e_u8 r9_2.b, bv r9_2.bad]]⟩] (.c (Asks.of (C := Meets Try.prog) (msg_reader_num.meets fu l5_5 _ _ h9_3)) .n) (cR (cR (cR (cB (cB (cR (cL (cR (cR (cR bd16)))))))))) [.lp (cB (cR (cL (cR (cR (cR bd16))))))] ?_
    refine kRc 3839 [Tm 31 (iv (w64 (l5_2 + 1)))] [] .n (cB (cR (cL (cR (cR (cR bd16)))))) [] ?_
    exact kWk (ih (w64 (l5_2 + 1)) (TMsg.mk l5_4.Kind l5_4.From l5_4.To l5_4.Part r9_1 l5_4.Index l5_4.LogTerm l5_4.Commit l5_4.OK l5_4.Entries l5_4.T l5_4.Session l5_4.Seq l5_4.Pos l5_4.Shard l5_4.Span l5_4.FromKey l5_4.ToKey l5_4.Keys l5_4.Got l5_4.Err) r9_2 _ h)
   ·rcases br_inv h with ⟨b8_2, h⟩ | ⟨b8_2, h⟩
    ·refine kRs 8190 [Tm 7 (.ptr 5 5)] [.i 1] (.c (c_ib (j := 1) (n := 8) b8_2 (Eq.refl true)) (.c (c_ii (j := 1) b8_2) .n)) ?_
     obtain ⟨⟨r11_1, r11_2⟩, h11_3, h⟩ := bd_inv h
     refine kRc 5118 [Ob 5 (TMsg.ob_00000000010011000000011 (TMsg.mk l5_4.Kind l5_4.From l5_4.To l5_4.Part l5_4.Term r11_1 l5_4.LogTerm l5_4.Commit l5_4.OK l5_4.Entries l5_4.T l5_4.Session l5_4.Seq l5_4.Pos l5_4.Shard l5_4.Span l5_4.FromKey l5_4.ToKey l5_4.Keys l5_4.Got l5_4.Err)), Ob 11 [sS 1 e_u8 r11_2.b, bv r11_2.bad]] [.a ⟨iv r11_1, [[sS 1 e_u8 r11_2.b, bv r11_2.bad]]⟩] (.c (Asks.of (C := Meets Try.prog) (msg_reader_num.meets fu l5_5 _ _ h11_3)) .n) (cR (cR (cR (cB (cB (cR (cL (cR (cR (cR bd16)))))))))) [.lp (cB (cR (cL (cR (cR (cR bd16))))))] ?_
     refine kRc 3839 [Tm 31 (iv (w64 (l5_2 + 1)))] [] .n (cB (cR (cL (cR (cR (cR bd16)))))) [] ?_
     exact kWk (ih (w64 (l5_2 + 1)) (TMsg.mk l5_4.Kind l5_4.From l5_4.To l5_4.Part l5_4.Term r11_1 l5_4.LogTerm l5_4.Commit l5_4.OK l5_4.Entries l5_4.T l5_4.Session l5_4.Seq l5_4.Pos l5_4.Shard l5_4.Span l5_4.FromKey l5_4.ToKey l5_4.Keys l5_4.Got l5_4.Err) r11_2 _ h)
    ·rcases br_inv h with ⟨b8_3, h⟩ | ⟨b8_3, h⟩
     ·refine kRs 8190 [Tm 7 (.ptr 5 6)] [.i 2] (.c (c_ib (j := 2) (n := 8) b8_3 (Eq.refl true)) (.c (c_ii (j := 2) b8_3) .n)) ?_
      obtain ⟨⟨r13_1, r13_2⟩, h13_3, h⟩ := bd_inv h
      refine kRc 5118 [Ob 5 (TMsg.ob_00000000010011000000011 (TMsg.mk l5_4.Kind l5_4.From l5_4.To l5_4.Part l5_4.Term l5_4.Index r13_1 l5_4.Commit l5_4.OK l5_4.Entries l5_4.T l5_4.Session l5_4.Seq l5_4.Pos l5_4.Shard l5_4.Span l5_4.FromKey l5_4.ToKey l5_4.Keys l5_4.Got l5_4.Err)), Ob 11 [sS 1 e_u8 r13_2.b, bv r13_2.bad]] [.a ⟨iv r13_1, [[sS 1 e_u8 r13_2.b, bv r13_2.bad]]⟩] (.c (Asks.of (C := Meets Try.prog) (msg_reader_num.meets fu l5_5 _ _ h13_3)) .n) (cR (cR (cR (cB (cB (cR (cL (cR (cR (cR bd16)))))))))) [.lp (cB (cR (cL (cR (cR (cR bd16))))))] ?_
      refine kRc 3839 [Tm 31 (iv (w64 (l5_2 + 1)))] [] .n (cB (cR (cL (cR (cR (cR bd16)))))) [] ?_
      exact kWk (ih (w64 (l5_2 + 1)) (TMsg.mk l5_4.Kind l5_4.From l5_4.To l5_4.Part l5_4.Term l5_4.Index r13_1 l5_4.Commit l5_4.OK l5_4.Entries l5_4.T l5_4.Session l5_4.Seq l5_4.Pos l5_4.Shard l5_4.Span l5_4.FromKey l5_4.ToKey l5_4.Keys l5_4.Got l5_4.Err) r13_2 _ h)
     ·rcases br_inv h with ⟨b8_4, h⟩ | ⟨b8_4, h⟩
      ·refine kRs 8190 [Tm 7 (.ptr 5 7)] [.i 3] (.c (c_ib (j := 3) (n := 8) b8_4 (Eq.refl true)) (.c (c_ii (j := 3) b8_4) .n)) ?_
       obtain ⟨⟨r15_1, r15_2⟩, h15_3, h⟩ := bd_inv h
       refine kRc 5118 [Ob 5 (TMsg.ob_00000000010011000000011 (TMsg.mk l5_4.Kind l5_4.From l5_4.To l5_4.Part l5_4.Term l5_4.Index l5_4.LogTerm r15_1 l5_4.OK l5_4.Entries l5_4.T l5_4.Session l5_4.Seq l5_4.Pos l5_4.Shard l5_4.Span l5_4.FromKey l5_4.ToKey l5_4.Keys l5_4.Got l5_4.Err)), Ob 11 [sS 1 e_u8 r15_2.b, bv r15_2.bad]] [.a ⟨iv r15_1, [[sS 1 e_u8 r15_2.b, bv r15_2.bad]]⟩] (.c (Asks.of (C := Meets Try.prog) (msg_reader_num.meets fu l5_5 _ _ h15_3)) .n) (cR (cR (cR (cB (cB (cR (cL (cR (cR (cR bd16)))))))))) [.lp (cB (cR (cL (cR (cR (cR bd16))))))] ?_
       refine kRc 3839 [Tm 31 (iv (w64 (l5_2 + 1)))] [] .n (cB (cR (cL (cR (cR (cR bd16)))))) [] ?_
       exact kWk (ih (w64 (l5_2 + 1)) (TMsg.mk l5_4.Kind l5_4.From l5_4.To l5_4.Part l5_4.Term l5_4.Index l5_4.LogTerm r15_1 l5_4.OK l5_4.Entries l5_4.T l5_4.Session l5_4.Seq l5_4.Pos l5_4.Shard l5_4.Span l5_4.FromKey l5_4.ToKey l5_4.Keys l5_4.Got l5_4.Err) r15_2 _ h)
      ·rcases br_inv h with ⟨b8_5, h⟩ | ⟨b8_5, h⟩
       ·refine kRs 8190 [Tm 7 (.ptr 5 14)] [.i 4] (.c (c_ib (j := 4) (n := 8) b8_5 (Eq.refl true)) (.c (c_ii (j := 4) b8_5) .n)) ?_
        obtain ⟨⟨r17_1, r17_2⟩, h17_3, h⟩ := bd_inv h
        refine kRc 5118 [Ob 5 (TMsg.ob_00000000010011000000011 (TMsg.mk l5_4.Kind l5_4.From l5_4.To l5_4.Part l5_4.Term l5_4.Index l5_4.LogTerm l5_4.Commit l5_4.OK l5_4.Entries l5_4.T r17_1 l5_4.Seq l5_4.Pos l5_4.Shard l5_4.Span l5_4.FromKey l5_4.ToKey l5_4.Keys l5_4.Got l5_4.Err)), Ob 11 [sS 1 e_u8 r17_2.b, bv r17_2.bad]] [.a ⟨iv r17_1, [[sS 1 e_u8 r17_2.b, bv r17_2.bad]]⟩] (.c (Asks.of (C := Meets Try.prog) (msg_reader_num.meets fu l5_5 _ _ h17_3)) .n) (cR (cR (cR (cB (cB (cR (cL (cR (cR (cR bd16)))))))))) [.lp (cB (cR (cL (cR (cR (cR bd16))))))] ?_
        refine kRc 3839 [Tm 31 (iv (w64 (l5_2 + 1)))] [] .n (cB (cR (cL (cR (cR (cR bd16)))))) [] ?_
        exact kWk (ih (w64 (l5_2 + 1)) (TMsg.mk l5_4.Kind l5_4.From l5_4.To l5_4.Part l5_4.Term l5_4.Index l5_4.LogTerm l5_4.Commit l5_4.OK l5_4.Entries l5_4.T r17_1 l5_4.Seq l5_4.Pos l5_4.Shard l5_4.Span l5_4.FromKey l5_4.ToKey l5_4.Keys l5_4.Got l5_4.Err) r17_2 _ h)
       ·rcases br_inv h with ⟨b8_6, h⟩ | ⟨b8_6, h⟩
        ·refine kRs 8190 [Tm 7 (.ptr 5 15)] [.i 5] (.c (c_ib (j := 5) (n := 8) b8_6 (Eq.refl true)) (.c (c_ii (j := 5) b8_6) .n)) ?_
         obtain ⟨⟨r19_1, r19_2⟩, h19_3, h⟩ := bd_inv h
         refine kRc 5118 [Ob 5 (TMsg.ob_00000000010011000000011 (TMsg.mk l5_4.Kind l5_4.From l5_4.To l5_4.Part l5_4.Term l5_4.Index l5_4.LogTerm l5_4.Commit l5_4.OK l5_4.Entries l5_4.T l5_4.Session r19_1 l5_4.Pos l5_4.Shard l5_4.Span l5_4.FromKey l5_4.ToKey l5_4.Keys l5_4.Got l5_4.Err)), Ob 11 [sS 1 e_u8 r19_2.b, bv r19_2.bad]] [.a ⟨iv r19_1, [[sS 1 e_u8 r19_2.b, bv r19_2.bad]]⟩] (.c (Asks.of (C := Meets Try.prog) (msg_reader_num.meets fu l5_5 _ _ h19_3)) .n) (cR (cR (cR (cB (cB (cR (cL (cR (cR (cR bd16)))))))))) [.lp (cB (cR (cL (cR (cR (cR bd16))))))] ?_
         refine kRc 3839 [Tm 31 (iv (w64 (l5_2 + 1)))] [] .n (cB (cR (cL (cR (cR (cR bd16)))))) [] ?_
         exact kWk (ih (w64 (l5_2 + 1)) (TMsg.mk l5_4.Kind l5_4.From l5_4.To l5_4.Part l5_4.Term l5_4.Index l5_4.LogTerm l5_4.Commit l5_4.OK l5_4.Entries l5_4.T l5_4.Session r19_1 l5_4.Pos l5_4.Shard l5_4.Span l5_4.FromKey l5_4.ToKey l5_4.Keys l5_4.Got l5_4.Err) r19_2 _ h)
        ·rcases br_inv h with ⟨b8_7, h⟩ | ⟨b8_7, h⟩
         ·refine kRs 8190 [Tm 7 (.ptr 5 16)] [.i 6] (.c (c_ib (j := 6) (n := 8) b8_7 (Eq.refl true)) (.c (c_ii (j := 6) b8_7) .n)) ?_
          obtain ⟨⟨r21_1, r21_2⟩, h21_3, h⟩ := bd_inv h
          refine kRc 5118 [Ob 5 (TMsg.ob_00000000010011000000011 (TMsg.mk l5_4.Kind l5_4.From l5_4.To l5_4.Part l5_4.Term l5_4.Index l5_4.LogTerm l5_4.Commit l5_4.OK l5_4.Entries l5_4.T l5_4.Session l5_4.Seq r21_1 l5_4.Shard l5_4.Span l5_4.FromKey l5_4.ToKey l5_4.Keys l5_4.Got l5_4.Err)), Ob 11 [sS 1 e_u8 r21_2.b, bv r21_2.bad]] [.a ⟨iv r21_1, [[sS 1 e_u8 r21_2.b, bv r21_2.bad]]⟩] (.c (Asks.of (C := Meets Try.prog) (msg_reader_num.meets fu l5_5 _ _ h21_3)) .n) (cR (cR (cR (cB (cB (cR (cL (cR (cR (cR bd16)))))))))) [.lp (cB (cR (cL (cR (cR (cR bd16))))))] ?_
          refine kRc 3839 [Tm 31 (iv (w64 (l5_2 + 1)))] [] .n (cB (cR (cL (cR (cR (cR bd16)))))) [] ?_
          exact kWk (ih (w64 (l5_2 + 1)) (TMsg.mk l5_4.Kind l5_4.From l5_4.To l5_4.Part l5_4.Term l5_4.Index l5_4.LogTerm l5_4.Commit l5_4.OK l5_4.Entries l5_4.T l5_4.Session l5_4.Seq r21_1 l5_4.Shard l5_4.Span l5_4.FromKey l5_4.ToKey l5_4.Keys l5_4.Got l5_4.Err) r21_2 _ h)
         ·rcases br_inv h with ⟨b8_8, h⟩ | ⟨b8_8, h⟩
          ·refine kRs 8190 [Tm 7 (.ptr 5 17)] [.i 7] (.c (c_ib (j := 7) (n := 8) b8_8 (Eq.refl true)) (.c (c_ii (j := 7) b8_8) .n)) ?_
           obtain ⟨⟨r23_1, r23_2⟩, h23_3, h⟩ := bd_inv h
           refine kRc 5118 [Ob 5 (TMsg.ob_00000000010011000000011 (TMsg.mk l5_4.Kind l5_4.From l5_4.To l5_4.Part l5_4.Term l5_4.Index l5_4.LogTerm l5_4.Commit l5_4.OK l5_4.Entries l5_4.T l5_4.Session l5_4.Seq l5_4.Pos r23_1 l5_4.Span l5_4.FromKey l5_4.ToKey l5_4.Keys l5_4.Got l5_4.Err)), Ob 11 [sS 1 e_u8 r23_2.b, bv r23_2.bad]] [.a ⟨iv r23_1, [[sS 1 e_u8 r23_2.b, bv r23_2.bad]]⟩] (.c (Asks.of (C := Meets Try.prog) (msg_reader_num.meets fu l5_5 _ _ h23_3)) .n) (cR (cR (cR (cB (cB (cR (cL (cR (cR (cR bd16)))))))))) [.lp (cB (cR (cL (cR (cR (cR bd16))))))] ?_
           refine kRc 3839 [Tm 31 (iv (w64 (l5_2 + 1)))] [] .n (cB (cR (cL (cR (cR (cR bd16)))))) [] ?_
           exact kWk (ih (w64 (l5_2 + 1)) (TMsg.mk l5_4.Kind l5_4.From l5_4.To l5_4.Part l5_4.Term l5_4.Index l5_4.LogTerm l5_4.Commit l5_4.OK l5_4.Entries l5_4.T l5_4.Session l5_4.Seq l5_4.Pos r23_1 l5_4.Span l5_4.FromKey l5_4.ToKey l5_4.Keys l5_4.Got l5_4.Err) r23_2 _ h)
          ·exact no_none h
  ·refine kCe b7_0 ?_
   cases some_inj h
   refine kWo ?_
   refine kXt 0 ?_
   exact kOut
def msg_Take (fu : Nat) (b : List Int) : Option (TMsg × Bool) :=
 bd (msg_reader_num fu (TReader.mk b false)) fun (r3_1, r3_2) =>
 bd (msg_reader_num fu r3_2) fun (r3_4, r3_5) =>
 bd (msg_reader_num fu r3_5) fun (r3_7, r3_8) =>
 bd (msg_reader_num fu r3_8) fun (r3_10, r3_11) =>
 bd (msg_Take.lp5 fu b 8 (TMsg.mk 0 0 0 0 0 0 0 0 false [] (TTxn.mk 0 0 [] []) 0 0 0 0 false ByteArray.empty ByteArray.empty [] [] 0) fu 0 (TMsg.mk r3_1 r3_4 r3_7 r3_10 0 0 0 0 false [] (TTxn.mk 0 0 [] []) 0 0 0 0 false ByteArray.empty ByteArray.empty [] [] 0) r3_11) fun (y25_0, y25_1) =>
 bd (msg_reader_flag fu y25_1) fun (r26_1, r26_2) =>
 bd (msg_reader_many fu r26_2 (TMsg.mk y25_0.Kind y25_0.From y25_0.To y25_0.Part y25_0.Term y25_0.Index y25_0.LogTerm y25_0.Commit r26_1 y25_0.Entries y25_0.T y25_0.Session y25_0.Seq y25_0.Pos y25_0.Shard y25_0.Span y25_0.FromKey y25_0.ToKey y25_0.Keys y25_0.Got y25_0.Err)) fun (r27_1, r27_2) =>
 jn (fun (j31_2 : TMsg) (j31_3 : TReader) =>
  bd (msg_reader_flag fu j31_3) fun (r32_1, r32_2) =>
  bd (msg_reader_text fu r32_2) fun (r32_4, r32_5) =>
  bd (msg_reader_text fu r32_5) fun (r32_7, r32_8) =>
  bd (msg_reader_many_2 fu r32_8 (TMsg.mk j31_2.Kind j31_2.From j31_2.To j31_2.Part j31_2.Term j31_2.Index j31_2.LogTerm j31_2.Commit j31_2.OK j31_2.Entries j31_2.T j31_2.Session j31_2.Seq j31_2.Pos j31_2.Shard r32_1 r32_4 r32_7 j31_2.Keys j31_2.Got j31_2.Err)) fun (r33_1, r33_2) =>
  bd (msg_reader_many_3 fu r33_1 r33_2) fun (r34_1, r34_2) =>
  bd (msg_reader_num fu r34_1) fun (r35_1, r35_2) =>
  bd (msg_Put fu (TMsg.mk r34_2.Kind r34_2.From r34_2.To r34_2.Part r34_2.Term r34_2.Index r34_2.LogTerm r34_2.Commit r34_2.OK r34_2.Entries r34_2.T r34_2.Session r34_2.Seq r34_2.Pos r34_2.Shard r34_2.Span r34_2.FromKey r34_2.ToKey r34_2.Keys r34_2.Got r35_1)) fun r36_1 =>
  br r35_2.bad
   (some ((TMsg.mk 0 0 0 0 0 0 0 0 false [] (TTxn.mk 0 0 [] []) 0 0 0 0 false ByteArray.empty ByteArray.empty [] [] 0), false))
   (br r36_1.isEmpty
    (some ((TMsg.mk 0 0 0 0 0 0 0 0 false [] (TTxn.mk 0 0 [] []) 0 0 0 0 false ByteArray.empty ByteArray.empty [] [] 0), false))
    (bd (bytes_Equal r36_1 b) fun r37_3 =>
    br (!r37_3)
     (some ((TMsg.mk 0 0 0 0 0 0 0 0 false [] (TTxn.mk 0 0 [] []) 0 0 0 0 false ByteArray.empty ByteArray.empty [] [] 0), false))
     (some ((TMsg.mk r34_2.Kind r34_2.From r34_2.To r34_2.Part r34_2.Term r34_2.Index r34_2.LogTerm r34_2.Commit r34_2.OK r34_2.Entries r34_2.T r34_2.Session r34_2.Seq r34_2.Pos r34_2.Shard r34_2.Span r34_2.FromKey r34_2.ToKey r34_2.Keys r34_2.Got r35_1), true))))) fun k31 =>
 br (r27_2.Kind == 5)
  (bd (msg_reader_txn fu r27_1) fun (r30_1, r30_2) =>
  k31 (TMsg.mk r27_2.Kind r27_2.From r27_2.To r27_2.Part r27_2.Term r27_2.Index r27_2.LogTerm r27_2.Commit r27_2.OK r27_2.Entries r30_1 r27_2.Session r27_2.Seq r27_2.Pos r27_2.Shard r27_2.Span r27_2.FromKey r27_2.ToKey r27_2.Keys r27_2.Got r27_2.Err) r30_2)
  (k31 r27_2 r27_1)
theorem msg_Take.meets (fu : Nat) (b : List Int) (z0 : TMsg) (z1 : Bool) (h : msg_Take fu b = some (z0, z1)) : Meets Try.prog ⟨16, [sS 1 e_u8 b], []⟩ ⟨.tup [.data (TMsg.ag z0), bv z1], []⟩ := by
 refine kMt hmix msg_Take.O Try.f16 bd16 1 ?_
 unfold msg_Take at h
 refine kRs 1 [Tm 2 (.ptr 2 0), Ob 2 (TMsg.ob_00000000010011000000011 (TMsg.mk 0 0 0 0 0 0 0 0 false [] (TTxn.mk 0 0 [] []) 0 0 0 0 false ByteArray.empty ByteArray.empty [] [] 0))] [] .n ?_
 refine kRs 7 [Tm 4 (.ptr 4 0), Ob 4 [.ptr 11 0], Ob 11 [sS 1 e_u8 b, bv false]] [] .n ?_
 obtain ⟨⟨r3_1, r3_2⟩, h3_3, h⟩ := bd_inv h
 obtain ⟨⟨r3_4, r3_5⟩, h3_6, h⟩ := bd_inv h
 obtain ⟨⟨r3_7, r3_8⟩, h3_9, h⟩ := bd_inv h
 obtain ⟨⟨r3_10, r3_11⟩, h3_12, h⟩ := bd_inv h
 refine kRs 59 [Tm 5 (.ptr 5 0), Ob 5 (TMsg.ob_00000000010011000000011 (TMsg.mk r3_1 r3_4 r3_7 r3_10 0 0 0 0 false [] (TTxn.mk 0 0 [] []) 0 0 0 0 false ByteArray.empty ByteArray.empty [] [] 0)), Ob 11 [sS 1 e_u8 r3_11.b, bv r3_11.bad]] [.a ⟨iv r3_1, [[sS 1 e_u8 r3_2.b, bv r3_2.bad]]⟩, .a ⟨iv r3_4, [[sS 1 e_u8 r3_5.b, bv r3_5.bad]]⟩, .a ⟨iv r3_7, [[sS 1 e_u8 r3_8.b, bv r3_8.bad]]⟩, .a ⟨iv r3_10, [[sS 1 e_u8 r3_11.b, bv r3_11.bad]]⟩] (.c (Asks.of (C := Meets Try.prog) (msg_reader_num.meets fu (TReader.mk b false) _ _ h3_3)) (.c (Asks.of (C := Meets Try.prog) (msg_reader_num.meets fu r3_2 _ _ h3_6)) (.c (Asks.of (C := Meets Try.prog) (msg_reader_num.meets fu r3_5 _ _ h3_9)) (.c (Asks.of (C := Meets Try.prog) (msg_reader_num.meets fu r3_8 _ _ h3_12)) (.c rT .n))))) ?_
 refine kSq ?_
 refine kRs 255 [Tm 29 (.orow 29 8), Tm 30 (iv 8), Tm 31 (iv 0), Ob 29 [.ptr 5 4, .ptr 5 5, .ptr 5 6, .ptr 5 7, .ptr 5 14, .ptr 5 15, .ptr 5 16, .ptr 5 17]] [] .n ?_
 refine kBk 0 ?_
 obtain ⟨o25, ho25, h⟩ := bd_inv h
 refine kUs (msg_Take.lp5_ok fu b 8 (TMsg.mk 0 0 0 0 0 0 0 0 false [] (TTxn.mk 0 0 [] []) 0 0 0 0 false ByteArray.empty ByteArray.empty [] [] 0) _ 0 (TMsg.mk r3_1 r3_4 r3_7 r3_10 0 0 0 0 false [] (TTxn.mk 0 0 [] []) 0 0 0 0 false ByteArray.empty ByteArray.empty [] [] 0) r3_11 _ ho25) ?_
 intro e_ τ_ hp_
 obtain ⟨y25_0, y25_1⟩ := o25
 obtain ⟨rfl, rfl⟩ := hp_
 refine kCd (cR (cR (cR (cR bd16)))) [] ?_
 obtain ⟨⟨r26_1, r26_2⟩, h26_3, h⟩ := bd_inv h
 refine kRs 63 [Ob 5 (TMsg.ob_00000000010011000000011 (TMsg.mk y25_0.Kind y25_0.From y25_0.To y25_0.Part y25_0.Term y25_0.Index y25_0.LogTerm y25_0.Commit r26_1 y25_0.Entries y25_0.T y25_0.Session y25_0.Seq y25_0.Pos y25_0.Shard y25_0.Span y25_0.FromKey y25_0.ToKey y25_0.Keys y25_0.Got y25_0.Err)), Ob 11 [sS 1 e_u8 r26_2.b, bv r26_2.bad]] [.a ⟨bv r26_1, [[sS 1 e_u8 r26_2.b, bv r26_2.bad]]⟩] (.c (Asks.of (C := Meets Try.prog) (msg_reader_flag.meets fu y25_1 _ _ h26_3)) .n) ?_
 obtain ⟨⟨r27_1, r27_2⟩, h27_3, h⟩ := bd_inv h
 refine kRs 252 [Ob 5 (TMsg.ob_00000000010011000000011 r27_2), Ob 11 [sS 1 e_u8 r27_1.b, bv r27_1.bad]] [.a ⟨.tup [], [[sS 1 e_u8 r27_1.b, bv r27_1.bad], [.ptr 1000 0], (TMsg.ob_00000000010011000000011 r27_2)]⟩] (.c (Asks.of (C := Meets Try.prog) (msg_reader_many.meets fu r26_2 (TMsg.mk y25_0.Kind y25_0.From y25_0.To y25_0.Part y25_0.Term y25_0.Index y25_0.LogTerm y25_0.Commit r26_1 y25_0.Entries y25_0.T y25_0.Session y25_0.Seq y25_0.Pos y25_0.Shard y25_0.Span y25_0.FromKey y25_0.ToKey y25_0.Keys y25_0.Got y25_0.Err) _ _ h27_3)) .n) ?_
 obtain ⟨k31, hk31, h⟩ := jn_inv h
 have Jk31 : ∀ (j31_2 : TMsg) (j31_3 : TReader), k31 j31_2 j31_3 = some (z0, z1) → WK Try.prog msg_Take.O (Ck Try.prog) (cR (cR (cR (cR (cR (cR (cR bd16))))))) [] (ofL [Tm 0 (sS 1 e_u8 b), Tm 2 (.ptr 2 0), Tm 4 (.ptr 4 0), Tm 5 (.ptr 5 0), Ob 2 (TMsg.ob_00000000010011000000011 (TMsg.mk 0 0 0 0 0 0 0 0 false [] (TTxn.mk 0 0 [] []) 0 0 0 0 false ByteArray.empty ByteArray.empty [] [] 0)), Ob 4 [.ptr 11 0], Ob 5 (TMsg.ob_00000000010000000000011 j31_2), Ob 11 [sS 1 e_u8 j31_3.b, bv j31_3.bad]]) (Fin Try.prog msg_Take.O Try.f16 0 ⟨.tup [.data (TMsg.ag z0), bv z1], []⟩) := by
  intro j31_2 j31_3 h
  rw [hk31] at h
  obtain ⟨⟨r32_1, r32_2⟩, h32_3, h⟩ := bd_inv h
  obtain ⟨⟨r32_4, r32_5⟩, h32_6, h⟩ := bd_inv h
  obtain ⟨⟨r32_7, r32_8⟩, h32_9, h⟩ := bd_inv h
  refine kRs 63 [Ob 5 (TMsg.ob_00000000010000000000011 (TMsg.mk j31_2.Kind j31_2.From j31_2.To j31_2.Part j31_2.Term j31_2.Index j31_2.LogTerm j31_2.Commit j31_2.OK j31_2.Entries j31_2.T j31_2.Session j31_2.Seq j31_2.Pos j31_2.Shard r32_1 r32_4 r32_7 j31_2.Keys j31_2.Got j31_2.Err)), Ob 11 [sS 1 e_u8 r32_8.b, bv r32_8.bad]] [.a ⟨bv r32_1, [[sS 1 e_u8 r32_2.b, bv r32_2.bad]]⟩, .a ⟨sv r32_4, [[sS 1 e_u8 r32_5.b, bv r32_5.bad]]⟩, .a ⟨sv r32_7, [[sS 1 e_u8 r32_8.b, bv r32_8.bad]]⟩] (.c (Asks.of (C := Meets Try.prog) (msg_reader_flag.meets fu j31_3 _ _ h32_3)) (.c (Asks.of (C := Meets Try.prog) (msg_reader_text.meets fu r32_2 _ _ h32_6)) (.c (Asks.of (C := Meets Try.prog) (msg_reader_text.meets fu r32_5 _ _ h32_9)) (.c rT .n)))) ?_
  obtain ⟨⟨r33_1, r33_2⟩, h33_3, h⟩ := bd_inv h
  refine kRs 252 [Ob 5 (TMsg.ob_00000000010000000000011 r33_2), Ob 11 [sS 1 e_u8 r33_1.b, bv r33_1.bad]] [.a ⟨.tup [], [[sS 1 e_u8 r33_1.b, bv r33_1.bad], (TMsg.ob_00000000010000000000011 r33_2), [.ptr 1000 0]]⟩] (.c (Asks.of (C := Meets Try.prog) (msg_reader_many_2.meets fu r32_8 (TMsg.mk j31_2.Kind j31_2.From j31_2.To j31_2.Part j31_2.Term j31_2.Index j31_2.LogTerm j31_2.Commit j31_2.OK j31_2.Entries j31_2.T j31_2.Session j31_2.Seq j31_2.Pos j31_2.Shard r32_1 r32_4 r32_7 j31_2.Keys j31_2.Got j31_2.Err) _ _ h33_3)) .n) ?_
  obtain ⟨⟨r34_1, r34_2⟩, h34_3, h⟩ := bd_inv h
  refine kRs 252 [Ob 5 (TMsg.ob_00000000010000000000011 r34_2), Ob 11 [sS 1 e_u8 r34_1.b, bv r34_1.bad]] [.a ⟨.tup [], [[sS 1 e_u8 r34_1.b, bv r34_1.bad], (TMsg.ob_00000000010000000000011 r34_2), [.ptr 1000 0]]⟩] (.c (Asks.of (C := Meets Try.prog) (msg_reader_many_3.meets fu r33_1 r33_2 _ _ h34_3)) .n) ?_
  obtain ⟨⟨r35_1, r35_2⟩, h35_3, h⟩ := bd_inv h
  refine kRs 252 [Ob 5 (TMsg.ob_00000000010000000000011 (TMsg.mk r34_2.Kind r34_2.From r34_2.To r34_2.Part r34_2.Term r34_2.Index r34_2.LogTerm r34_2.Commit r34_2.OK r34_2.Entries r34_2.T r34_2.Session r34_2.Seq r34_2.Pos r34_2.Shard r34_2.Span r34_2.FromKey r34_2.ToKey r34_2.Keys r34_2.Got r35_1)), Ob 11 [sS 1 e_u8 r35_2.b, bv r35_2.bad]] [.a ⟨iv r35_1, [[sS 1 e_u8 r35_2.b, bv r35_2.bad]]⟩] (.c (Asks.of (C := Meets Try.prog) (msg_reader_num.meets fu r34_1 _ _ h35_3)) .n) ?_
  refine kSq ?_
  obtain ⟨r36_1, h36_2, h⟩ := bd_inv h
  refine kRs 254 [Tm 8 (.data (.slc true (some r36_1.isEmpty) 1 (List.map e_u8 r36_1))), Ob 5 (TMsg.ob (TMsg.mk r34_2.Kind r34_2.From r34_2.To r34_2.Part r34_2.Term r34_2.Index r34_2.LogTerm r34_2.Commit r34_2.OK r34_2.Entries r34_2.T r34_2.Session r34_2.Seq r34_2.Pos r34_2.Shard r34_2.Span r34_2.FromKey r34_2.ToKey r34_2.Keys r34_2.Got r35_1))] [.a ⟨.data (.slc true (some r36_1.isEmpty) 1 (List.map e_u8 r36_1)), []⟩] (.c (Asks.of (C := Meets Try.prog) (msg_Put.meets fu (TMsg.mk r34_2.Kind r34_2.From r34_2.To r34_2.Part r34_2.Term r34_2.Index r34_2.LogTerm r34_2.Commit r34_2.OK r34_2.Entries r34_2.T r34_2.Session r34_2.Seq r34_2.Pos r34_2.Shard r34_2.Span r34_2.FromKey r34_2.ToKey r34_2.Keys r34_2.Got r35_1) _ h36_2)) .n) ?_
  rcases br_inv h with ⟨b37_1, h⟩ | ⟨b37_1, h⟩
  ·refine kRs 210 [Tm 85 (bv true)] (rp 8 (.b true) []) (.r 3 b37_1 (.r 5 rT .n)) ?_
   refine kCt rT ?_
   refine kRs 20 [Tm 3 (bv false)] [] .n ?_
   refine kRt ?_
   have h_0 := some_inj h
   obtain ⟨g_1, h_1⟩ := Prod.mk.inj h_0
   subst g_1
   subst h_1
   exact kFr
  ·rcases br_inv h with ⟨b37_2, h⟩ | ⟨b37_2, h⟩
   ·refine kRs 210 [Tm 85 (bv true)] (.b false :: (.b false :: (.b false :: (rp 5 (.b true) [])))) (.r 3 b37_1 (.r 5 b37_2 .n)) ?_
    refine kCt rT ?_
    refine kRs 20 [Tm 3 (bv false)] [] .n ?_
    refine kRt ?_
    have h_0 := some_inj h
    obtain ⟨g_1, h_1⟩ := Prod.mk.inj h_0
    subst g_1
    subst h_1
    exact kFr
   ·obtain ⟨r37_3, h37_4, h⟩ := bd_inv h
    refine kRs 210 [Tm 85 (bv (!r37_3))] (rp 6 (.b false) [.a ⟨bv r37_3, []⟩, .b false, .b false]) (.r 3 b37_1 (.r 3 b37_2 (.c (Asks.fg (args1 := []) (args2 := [sS 1 e_u8 b]) (nl := some r36_1.isEmpty) (sz := 1) (es := List.map e_u8 r36_1) (Asks.of (C := Meets Try.prog) (bytes_Equal.meets r36_1 b _ h37_4))) (.r 2 b37_2 .n)))) ?_
    rcases br_inv h with ⟨b40_0, h⟩ | ⟨b40_0, h⟩
    ·refine kCt b40_0 ?_
     refine kRs 20 [Tm 3 (bv false)] [] .n ?_
     refine kRt ?_
     have h_0 := some_inj h
     obtain ⟨g_1, h_1⟩ := Prod.mk.inj h_0
     subst g_1
     subst h_1
     exact kFr
    ·refine kCe b40_0 ?_
     refine kSk ?_
     refine kCd (cR (cR (cR (cR (cR (cR (cR (cR (cR (cR (cR (cR bd16)))))))))))) [] ?_
     refine kRs 4 [Tm 3 (bv true), Ob 2 (TMsg.ob (TMsg.mk r34_2.Kind r34_2.From r34_2.To r34_2.Part r34_2.Term r34_2.Index r34_2.LogTerm r34_2.Commit r34_2.OK r34_2.Entries r34_2.T r34_2.Session r34_2.Seq r34_2.Pos r34_2.Shard r34_2.Span r34_2.FromKey r34_2.ToKey r34_2.Keys r34_2.Got r35_1))] [] .n ?_
     refine kRt ?_
     have h_0 := some_inj h
     obtain ⟨g_1, h_1⟩ := Prod.mk.inj h_0
     subst g_1
     subst h_1
     exact kFr
 clear hk31
 refine kSq ?_
 refine kRs 255 [Tm 48 (bv (r27_2.Kind == 5))] [] .n ?_
 rcases br_inv h with ⟨b29_0, h⟩ | ⟨b29_0, h⟩
 ·refine kCt b29_0 ?_
  obtain ⟨⟨r30_1, r30_2⟩, h30_3, h⟩ := bd_inv h
  refine kRc 504 [Ob 5 (TMsg.ob_00000000010000000000011 (TMsg.mk r27_2.Kind r27_2.From r27_2.To r27_2.Part r27_2.Term r27_2.Index r27_2.LogTerm r27_2.Commit r27_2.OK r27_2.Entries r30_1 r27_2.Session r27_2.Seq r27_2.Pos r27_2.Shard r27_2.Span r27_2.FromKey r27_2.ToKey r27_2.Keys r27_2.Got r27_2.Err)), Ob 11 [sS 1 e_u8 r30_2.b, bv r30_2.bad]] [.a ⟨.data (TTxn.ag r30_1), [[sS 1 e_u8 r30_2.b, bv r30_2.bad]]⟩] (.c (Asks.of (C := Meets Try.prog) (msg_reader_txn.meets fu r27_1 _ _ h30_3)) .n) (cR (cR (cR (cR (cR (cR (cR bd16))))))) [] ?_
  exact kWk (Jk31 (TMsg.mk r27_2.Kind r27_2.From r27_2.To r27_2.Part r27_2.Term r27_2.Index r27_2.LogTerm r27_2.Commit r27_2.OK r27_2.Entries r30_1 r27_2.Session r27_2.Seq r27_2.Pos r27_2.Shard r27_2.Span r27_2.FromKey r27_2.ToKey r27_2.Keys r27_2.Got r27_2.Err) r30_2 h)
 ·refine kCe b29_0 ?_
  refine kSk ?_
  refine kCd (cR (cR (cR (cR (cR (cR (cR bd16))))))) [] ?_
  refine kSo 5 12 508 [Ob 5 (TMsg.ob_00000000010001000000011 r27_2)] ?_
  refine kSo 5 13 254 [Ob 5 (TMsg.ob_00000000010000000000011 r27_2)] ?_
  exact kWk (Jk31 r27_2 r27_1 h)
def bd7 : Code := (Try.f7.body).getD .skip
def diwanlaw6_begun.O : Nat → Nat := fun t => bif ([0, 1, 2, 3, 4, 5, 6, 7, 13, 17, 39] : List Nat).any (Nat.beq t) then 1 else 0
def diwanlaw6_begun (fu : Nat) : Option Bool :=
 bd (msg_Put fu (TMsg.mk 1 1 2 0 3 4 2 0 false [] (TTxn.mk 0 0 [] []) 0 0 0 0 false ByteArray.empty ByteArray.empty [] [] 0)) fun r3_1 =>
 bd (msg_Take fu r3_1) fun (r4_1, r4_2) =>
 bd (msg_Take fu []) fun (r5_1, r5_2) =>
 bd (msg_May fu (TMsg.mk 1 1 2 0 3 4 2 0 false [] (TTxn.mk 0 0 [] []) 0 0 0 0 false ByteArray.empty ByteArray.empty [] [] 0)) fun r6_1 =>
 br r6_1
  (br (decide ((r3_1.length : Int) > 0))
   (br r4_2
    (bd (msg_Same fu r4_1 (TMsg.mk 1 1 2 0 3 4 2 0 false [] (TTxn.mk 0 0 [] []) 0 0 0 0 false ByteArray.empty ByteArray.empty [] [] 0)) fun r6_6 =>
    br r6_6
     (br (!r5_2)
      (bd (msg_May fu (TMsg.mk 0 0 0 0 0 0 0 0 false [] (TTxn.mk 0 0 [] []) 0 0 0 0 false ByteArray.empty ByteArray.empty [] [] 0)) fun r6_10 =>
      some (!r6_10))
      (some false))
     (some false))
    (some false))
   (some false))
  (some false)
theorem diwanlaw6_begun.meets (fu : Nat) (z0 : Bool) (h : diwanlaw6_begun fu = some z0) : Meets Try.prog ⟨7, [], []⟩ ⟨bv z0, []⟩ := by
 refine kMt hmix diwanlaw6_begun.O Try.f7 bd7 0 ?_
 unfold diwanlaw6_begun at h
 refine kRs 0 [] [] .n ?_
 refine kRs 0 [Tm 1 (.ptr 1 0), Ob 1 (TMsg.ob_00000000010011000000011 (TMsg.mk 1 1 2 0 3 4 2 0 false [] (TTxn.mk 0 0 [] []) 0 0 0 0 false ByteArray.empty ByteArray.empty [] [] 0))] [] .n ?_
 obtain ⟨r3_1, h3_2, h⟩ := bd_inv h
 refine kRs 1 [Tm 2 (.data (.slc true (some r3_1.isEmpty) 1 (List.map e_u8 r3_1))), Ob 1 (TMsg.ob (TMsg.mk 1 1 2 0 3 4 2 0 false [] (TTxn.mk 0 0 [] []) 0 0 0 0 false ByteArray.empty ByteArray.empty [] [] 0))] [.a ⟨.data (.slc true (some r3_1.isEmpty) 1 (List.map e_u8 r3_1)), []⟩] (.c (Asks.of (C := Meets Try.prog) (msg_Put.meets fu (TMsg.mk 1 1 2 0 3 4 2 0 false [] (TTxn.mk 0 0 [] []) 0 0 0 0 false ByteArray.empty ByteArray.empty [] [] 0) _ h3_2)) .n) ?_
 obtain ⟨⟨r4_1, r4_2⟩, h4_3, h⟩ := bd_inv h
 refine kRs 6 [Tm 2 (.data (.slc false (some r3_1.isEmpty) 1 (List.map e_u8 r3_1))), Tm 3 (.ptr 3 0), Tm 4 (bv r4_2), Ob 3 (TMsg.ob r4_1)] [.a ⟨.tup [.data (TMsg.ag r4_1), bv r4_2], []⟩] (.c (Asks.fg (args1 := []) (args2 := []) (nl := some r3_1.isEmpty) (sz := 1) (es := List.map e_u8 r3_1) (Asks.of (C := Meets Try.prog) (msg_Take.meets fu r3_1 _ _ h4_3))) .n) ?_
 obtain ⟨⟨r5_1, r5_2⟩, h5_3, h⟩ := bd_inv h
 refine kRs 63 [Tm 6 (bv r5_2)] [.a ⟨.tup [.data (TMsg.ag r5_1), bv r5_2], []⟩] (.c (Asks.fg (args1 := []) (args2 := []) (nl := some true) (sz := 1) (es := List.map e_u8 []) (Asks.of (C := Meets Try.prog) (msg_Take.meets fu [] _ _ h5_3))) .n) ?_
 obtain ⟨r6_1, h6_2, h⟩ := bd_inv h
 rcases br_inv h with ⟨b6_3, h⟩ | ⟨b6_3, h⟩
 ·rcases br_inv h with ⟨b6_4, h⟩ | ⟨b6_4, h⟩
  ·rcases br_inv h with ⟨b6_5, h⟩ | ⟨b6_5, h⟩
   ·obtain ⟨r6_6, h6_7, h⟩ := bd_inv h
    rcases br_inv h with ⟨b6_8, h⟩ | ⟨b6_8, h⟩
    ·rcases br_inv h with ⟨b6_9, h⟩ | ⟨b6_9, h⟩
     ·obtain ⟨r6_10, h6_11, h⟩ := bd_inv h
      refine kRs 0 [Tm 0 (bv (!r6_10))] (.a ⟨bv r6_1, []⟩ :: (.b true :: (.b true :: (.s (.t 23) [iv (r3_1.length : Int)] :: (rp 7 (.b true) (.a ⟨bv r6_6, []⟩ :: (rp 6 (.b true) [.a ⟨bv r6_10, []⟩, .b true, .b true]))))))) (.c (Asks.of (C := Meets Try.prog) (msg_May.meets fu (TMsg.mk 1 1 2 0 3 4 2 0 false [] (TTxn.mk 0 0 [] []) 0 0 0 0 false ByteArray.empty ByteArray.empty [] [] 0) _ h6_2)) (.r 2 b6_3 (.c (c_len (e := e_u8) (l := r3_1)) (.r 2 b6_3 (.r 2 b6_4 (.r 3 b6_5 (.c (Asks.of (C := Meets Try.prog) (msg_Same.meets fu r4_1 (TMsg.mk 1 1 2 0 3 4 2 0 false [] (TTxn.mk 0 0 [] []) 0 0 0 0 false ByteArray.empty ByteArray.empty [] [] 0) _ h6_7)) (.c b6_5 (.r 3 b6_8 (.r 2 b6_9 (.c (Asks.of (C := Meets Try.prog) (msg_May.meets fu (TMsg.mk 0 0 0 0 0 0 0 0 false [] (TTxn.mk 0 0 [] []) 0 0 0 0 false ByteArray.empty ByteArray.empty [] [] 0) _ h6_11)) (.r 2 b6_9 .n)))))))))))) ?_
      refine kRt ?_
      have h_ := some_inj h
      subst h_
      exact kFr
     ·refine kRs 0 [Tm 0 (bv false)] (.a ⟨bv r6_1, []⟩ :: (.b true :: (.b true :: (.s (.t 23) [iv (r3_1.length : Int)] :: (rp 7 (.b true) (.a ⟨bv r6_6, []⟩ :: (rp 4 (.b true) (rp 4 (.b false) [])))))))) (.c (Asks.of (C := Meets Try.prog) (msg_May.meets fu (TMsg.mk 1 1 2 0 3 4 2 0 false [] (TTxn.mk 0 0 [] []) 0 0 0 0 false ByteArray.empty ByteArray.empty [] [] 0) _ h6_2)) (.r 2 b6_3 (.c (c_len (e := e_u8) (l := r3_1)) (.r 2 b6_3 (.r 2 b6_4 (.r 3 b6_5 (.c (Asks.of (C := Meets Try.prog) (msg_Same.meets fu r4_1 (TMsg.mk 1 1 2 0 3 4 2 0 false [] (TTxn.mk 0 0 [] []) 0 0 0 0 false ByteArray.empty ByteArray.empty [] [] 0) _ h6_7)) (.c b6_5 (.r 3 b6_8 (.r 4 b6_9 .n)))))))))) ?_
      refine kRt ?_
      have h_ := some_inj h
      subst h_
      exact kFr
    ·refine kRs 0 [Tm 0 (bv false)] (.a ⟨bv r6_1, []⟩ :: (.b true :: (.b true :: (.s (.t 23) [iv (r3_1.length : Int)] :: (rp 7 (.b true) (.a ⟨bv r6_6, []⟩ :: (.b true :: (rp 7 (.b false) [])))))))) (.c (Asks.of (C := Meets Try.prog) (msg_May.meets fu (TMsg.mk 1 1 2 0 3 4 2 0 false [] (TTxn.mk 0 0 [] []) 0 0 0 0 false ByteArray.empty ByteArray.empty [] [] 0) _ h6_2)) (.r 2 b6_3 (.c (c_len (e := e_u8) (l := r3_1)) (.r 2 b6_3 (.r 2 b6_4 (.r 3 b6_5 (.c (Asks.of (C := Meets Try.prog) (msg_Same.meets fu r4_1 (TMsg.mk 1 1 2 0 3 4 2 0 false [] (TTxn.mk 0 0 [] []) 0 0 0 0 false ByteArray.empty ByteArray.empty [] [] 0) _ h6_7)) (.c b6_5 (.r 3 b6_8 (.r 4 rF .n)))))))))) ?_
     refine kRt ?_
     have h_ := some_inj h
     subst h_
     exact kFr
   ·refine kRs 0 [Tm 0 (bv false)] (.a ⟨bv r6_1, []⟩ :: (.b true :: (.b true :: (.s (.t 23) [iv (r3_1.length : Int)] :: (rp 4 (.b true) (rp 11 (.b false) [])))))) (.c (Asks.of (C := Meets Try.prog) (msg_May.meets fu (TMsg.mk 1 1 2 0 3 4 2 0 false [] (TTxn.mk 0 0 [] []) 0 0 0 0 false ByteArray.empty ByteArray.empty [] [] 0) _ h6_2)) (.r 2 b6_3 (.c (c_len (e := e_u8) (l := r3_1)) (.r 2 b6_3 (.r 2 b6_4 (.r 4 b6_5 (.r 7 rF .n))))))) ?_
    refine kRt ?_
    have h_ := some_inj h
    subst h_
    exact kFr
  ·refine kRs 0 [Tm 0 (bv false)] (.a ⟨bv r6_1, []⟩ :: (.b true :: (.b true :: (.s (.t 23) [iv (r3_1.length : Int)] :: (.b true :: (.b true :: (rp 13 (.b false) []))))))) (.c (Asks.of (C := Meets Try.prog) (msg_May.meets fu (TMsg.mk 1 1 2 0 3 4 2 0 false [] (TTxn.mk 0 0 [] []) 0 0 0 0 false ByteArray.empty ByteArray.empty [] [] 0) _ h6_2)) (.r 2 b6_3 (.c (c_len (e := e_u8) (l := r3_1)) (.r 2 b6_3 (.r 2 b6_4 (.r 11 rF .n)))))) ?_
   refine kRt ?_
   have h_ := some_inj h
   subst h_
   exact kFr
 ·refine kRs 0 [Tm 0 (bv false)] (.a ⟨bv r6_1, []⟩ :: (rp 17 (.b false) [])) (.c (Asks.of (C := Meets Try.prog) (msg_May.meets fu (TMsg.mk 1 1 2 0 3 4 2 0 false [] (TTxn.mk 0 0 [] []) 0 0 0 0 false ByteArray.empty ByteArray.empty [] [] 0) _ h6_2)) (.r 4 b6_3 (.r 13 rF .n))) ?_
  refine kRt ?_
  have h_ := some_inj h
  subst h_
  exact kFr
def bd5 : Code := (Try.f5.body).getD .skip
def diwanlaw6_MsgForms.O : Nat → Nat := fun t => bif ([0, 1, 2, 3, 4, 5, 6, 7, 10, 11, 12, 13, 16, 17, 20, 21, 22, 23, 24, 25, 26, 27, 28, 29, 30, 31, 32, 35, 36, 37, 38, 39, 40, 41, 42, 43, 44, 45, 46, 47, 48, 49, 50, 51, 52, 66] : List Nat).any (Nat.beq t) then 1 else 0
def diwanlaw6_MsgForms.lp9 (fu : Nat) (l9_0 : List TMsg) (l9_1 : List TMsg) : Nat → Int → Option (Unit ⊕ Unit)
  | 0, _ => none
  | n_ + 1, l9_2 =>
  br (decide (l9_2 < (l9_0.length : Int)))
   (ix l9_0 l9_2 fun x12_1 =>
   bd (msg_Put fu x12_1) fun r12_4 =>
   bd (msg_Take fu r12_4) fun (r12_6, r12_7) =>
   ix l9_0 l9_2 fun x13_1 =>
   bd (msg_May fu x13_1) fun r13_4 =>
   br (!r13_4)
    (some (.inr ()))
    (br (!r12_7)
     (some (.inr ()))
     (ix l9_0 l9_2 fun x13_8 =>
     bd (msg_Same fu r12_6 x13_8) fun r13_11 =>
     br (!r13_11)
      (some (.inr ()))
      (diwanlaw6_MsgForms.lp9 fu l9_0 l9_1 n_ (w64 (l9_2 + 1))))))
   (some (.inl ()))
def diwanlaw6_MsgForms.lp9_post (l9_0 : List TMsg) (l9_1 : List TMsg) (r_ : (Unit ⊕ Unit)) : Wy → St → Prop := fun e τ => match r_ with
  | .inl _ => e = .exit 0 ∧ τ = ofL [Tm 3 (.data (.slc true (some false) 24 (List.map TMsg.en l9_1)))]
  | .inr _ => e = .ret ∧ τ = ofL [Tm 0 (bv false)]
theorem diwanlaw6_MsgForms.lp9_ok (fu : Nat) (l9_0 : List TMsg) (l9_1 : List TMsg) : ∀ (n_ : Nat) (l9_2 : Int) (r_ : (Unit ⊕ Unit)), diwanlaw6_MsgForms.lp9 fu l9_0 l9_1 n_ l9_2 = some r_ → WK Try.prog diwanlaw6_MsgForms.O (Ck Try.prog) (cB (cR (cL (cR (cR (cR (cR (cR bd5)))))))) [] (ofL [Tm 2 (.data (.slc true (some false) 24 (List.map TMsg.en l9_0))), Tm 3 (.data (.slc true (some false) 24 (List.map TMsg.en l9_1))), Tm 4 (iv l9_2)]) (diwanlaw6_MsgForms.lp9_post l9_0 l9_1 r_) := by
 intro n_
 induction n_ with
 | zero => intro l9_2 r_ h; exact no_none h
 | succ n_ ih =>
  intro l9_2 r_ h
  refine kLp ?_
  refine kSq ?_
  refine kRs 7 [Tm 56 (bv (decide (l9_2 < (l9_0.length : Int))))] [.s (.t 55) [iv (l9_0.length : Int)]] (.c (c_len (e := TMsg.en) (l := l9_0)) .n) ?_
  rcases br_inv h with ⟨b11_0, h⟩ | ⟨b11_0, h⟩
  ·refine kCt b11_0 ?_
   refine kSk ?_
   refine kCd (cR (cB (cB (cR (cL (cR (cR (cR (cR (cR bd5)))))))))) [.lp (cB (cR (cL (cR (cR (cR (cR (cR bd5))))))))] ?_
   refine kSq ?_
   refine kBk 1 ?_
   obtain ⟨x12_1, a12_2, e12_3, h⟩ := ix_inv h
   obtain ⟨r12_4, h12_5, h⟩ := bd_inv h
   obtain ⟨⟨r12_6, r12_7⟩, h12_8, h⟩ := bd_inv h
   refine kRs 14 [Tm 5 (.ptr 5 0), Tm 6 (bv r12_7), Ob 5 (TMsg.ob r12_6)] [.c (TMsg.en x12_1), .a ⟨.data (.slc true (some r12_4.isEmpty) 1 (List.map e_u8 r12_4)), []⟩, .a ⟨.tup [.data (TMsg.ag r12_6), bv r12_7], []⟩] (.c (c_ix (e := TMsg.en) a12_2 e12_3) (.c (c_el (e := TMsg.en) e12_3) (.c (Asks.of (C := Meets Try.prog) (msg_Put.meets fu x12_1 _ h12_5)) (.c (Asks.fg (args1 := []) (args2 := []) (nl := some r12_4.isEmpty) (sz := 1) (es := List.map e_u8 r12_4) (Asks.of (C := Meets Try.prog) (msg_Take.meets fu r12_4 _ _ h12_8))) .n)))) ?_
   obtain ⟨x13_1, a13_2, e13_3, h⟩ := ix_inv h
   obtain ⟨r13_4, h13_5, h⟩ := bd_inv h
   rcases br_inv h with ⟨b13_6, h⟩ | ⟨b13_6, h⟩
   ·refine kRs 56 [Tm 86 (bv true)] (.c (TMsg.en x13_1) :: (.a ⟨bv r13_4, []⟩ :: (rp 11 (.b true) []))) (.c (c_ix (e := TMsg.en) a13_2 e13_3) (.c (c_el (e := TMsg.en) e13_3) (.c (Asks.of (C := Meets Try.prog) (msg_May.meets fu x13_1 _ h13_5)) (.r 3 b13_6 (.r 9 rT .n))))) ?_
    refine kCt rT ?_
    refine kRs 0 [Tm 0 (bv false)] [] .n ?_
    cases some_inj h
    refine kWo ?_
    refine kRt ?_
    exact kOut
   ·rcases br_inv h with ⟨b13_7, h⟩ | ⟨b13_7, h⟩
    ·refine kRs 56 [Tm 86 (bv true)] (.c (TMsg.en x13_1) :: (.a ⟨bv r13_4, []⟩ :: (.b false :: (.b false :: (.b false :: (rp 8 (.b true) [])))))) (.c (c_ix (e := TMsg.en) a13_2 e13_3) (.c (c_el (e := TMsg.en) e13_3) (.c (Asks.of (C := Meets Try.prog) (msg_May.meets fu x13_1 _ h13_5)) (.r 3 b13_6 (.r 8 b13_7 (.c rT .n)))))) ?_
     refine kCt rT ?_
     refine kRs 0 [Tm 0 (bv false)] [] .n ?_
     cases some_inj h
     refine kWo ?_
     refine kRt ?_
     exact kOut
    ·obtain ⟨x13_8, a13_9, e13_10, h⟩ := ix_inv h
     obtain ⟨r13_11, h13_12, h⟩ := bd_inv h
     refine kRs 56 [Tm 86 (bv (!r13_11))] (.c (TMsg.en x13_1) :: (.a ⟨bv r13_4, []⟩ :: (rp 8 (.b false) [.c (TMsg.en x13_8), .b false, .a ⟨bv r13_11, []⟩, .b false, .b false]))) (.c (c_ix (e := TMsg.en) a13_2 e13_3) (.c (c_el (e := TMsg.en) e13_3) (.c (Asks.of (C := Meets Try.prog) (msg_May.meets fu x13_1 _ h13_5)) (.r 3 b13_6 (.r 4 b13_7 (.c (c_ix (e := TMsg.en) a13_9 e13_10) (.c b13_7 (.c (c_el (e := TMsg.en) e13_10) (.c b13_7 (.c (Asks.of (C := Meets Try.prog) (msg_Same.meets fu r12_6 x13_8 _ h13_12)) (.r 2 b13_7 (.c rT .n)))))))))))) ?_
     rcases br_inv h with ⟨b16_0, h⟩ | ⟨b16_0, h⟩
     ·refine kCt b16_0 ?_
      refine kRs 0 [Tm 0 (bv false)] [] .n ?_
      cases some_inj h
      refine kWo ?_
      refine kRt ?_
      exact kOut
     ·refine kCe b16_0 ?_
      refine kSk ?_
      refine kCd (cR (cR (cB (cB (cR (cL (cR (cR (cR (cR (cR bd5))))))))))) [.lp (cB (cR (cL (cR (cR (cR (cR (cR bd5))))))))] ?_
      refine kRc 6 [Tm 4 (iv (w64 (l9_2 + 1)))] [] .n (cB (cR (cL (cR (cR (cR (cR (cR bd5)))))))) [] ?_
      exact kWk (ih (w64 (l9_2 + 1)) _ h)
  ·refine kCe b11_0 ?_
   cases some_inj h
   refine kWo ?_
   refine kXt 0 ?_
   exact kOut
def diwanlaw6_MsgForms.lp21 (fu : Nat) (l21_0 : List TMsg) : Nat → Int → Option (Unit ⊕ Unit)
  | 0, _ => none
  | n_ + 1, l21_1 =>
  br (decide (l21_1 < (l21_0.length : Int)))
   (ix l21_0 l21_1 fun x24_1 =>
   bd (msg_May fu x24_1) fun r24_4 =>
   br r24_4
    (some (.inr ()))
    (ix l21_0 l21_1 fun x24_7 =>
    bd (msg_Put fu x24_7) fun r24_10 =>
    br ((r24_10.length : Int) != 0)
     (some (.inr ()))
     (diwanlaw6_MsgForms.lp21 fu l21_0 n_ (w64 (l21_1 + 1)))))
   (some (.inl ()))
def diwanlaw6_MsgForms.lp21_post (l21_0 : List TMsg) (r_ : (Unit ⊕ Unit)) : Wy → St → Prop := fun e τ => match r_ with
  | .inl _ => e = .exit 2 ∧ τ = ofL []
  | .inr _ => e = .ret ∧ τ = ofL [Tm 0 (bv false)]
theorem diwanlaw6_MsgForms.lp21_ok (fu : Nat) (l21_0 : List TMsg) : ∀ (n_ : Nat) (l21_1 : Int) (r_ : (Unit ⊕ Unit)), diwanlaw6_MsgForms.lp21 fu l21_0 n_ l21_1 = some r_ → WK Try.prog diwanlaw6_MsgForms.O (Ck Try.prog) (cB (cR (cL (cR (cR (cR (cR (cR (cR bd5))))))))) [] (ofL [Tm 3 (.data (.slc true (some false) 24 (List.map TMsg.en l21_0))), Tm 7 (iv l21_1)]) (diwanlaw6_MsgForms.lp21_post l21_0 r_) := by
 intro n_
 induction n_ with
 | zero => intro l21_1 r_ h; exact no_none h
 | succ n_ ih =>
  intro l21_1 r_ h
  refine kLp ?_
  refine kSq ?_
  refine kRs 3 [Tm 90 (bv (decide (l21_1 < (l21_0.length : Int))))] [.s (.t 89) [iv (l21_0.length : Int)]] (.c (c_len (e := TMsg.en) (l := l21_0)) .n) ?_
  rcases br_inv h with ⟨b23_0, h⟩ | ⟨b23_0, h⟩
  ·refine kCt b23_0 ?_
   refine kSk ?_
   refine kCd (cR (cB (cB (cR (cL (cR (cR (cR (cR (cR (cR bd5))))))))))) [.lp (cB (cR (cL (cR (cR (cR (cR (cR (cR bd5)))))))))] ?_
   refine kSq ?_
   refine kBk 3 ?_
   obtain ⟨x24_1, a24_2, e24_3, h⟩ := ix_inv h
   obtain ⟨r24_4, h24_5, h⟩ := bd_inv h
   rcases br_inv h with ⟨b24_6, h⟩ | ⟨b24_6, h⟩
   ·refine kRs 6 [Tm 106 (bv true)] (.c (TMsg.en x24_1) :: (.a ⟨bv r24_4, []⟩ :: (rp 8 (.b true) []))) (.c (c_ix (e := TMsg.en) a24_2 e24_3) (.c (c_el (e := TMsg.en) e24_3) (.c (Asks.of (C := Meets Try.prog) (msg_May.meets fu x24_1 _ h24_5)) (.r 8 b24_6 .n)))) ?_
    refine kCt rT ?_
    refine kRs 0 [Tm 0 (bv false)] [] .n ?_
    cases some_inj h
    refine kWo ?_
    refine kRt ?_
    exact kOut
   ·obtain ⟨x24_7, a24_8, e24_9, h⟩ := ix_inv h
    obtain ⟨r24_10, h24_11, h⟩ := bd_inv h
    refine kRs 6 [Tm 106 (bv ((r24_10.length : Int) != 0))] (.c (TMsg.en x24_1) :: (.a ⟨bv r24_4, []⟩ :: (rp 4 (.b false) [.c (TMsg.en x24_7), .b false, .a ⟨.data (.slc true (some r24_10.isEmpty) 1 (List.map e_u8 r24_10)), []⟩, .b false, .s (.t 104) [iv (r24_10.length : Int)], .b false, .b false]))) (.c (c_ix (e := TMsg.en) a24_2 e24_3) (.c (c_el (e := TMsg.en) e24_3) (.c (Asks.of (C := Meets Try.prog) (msg_May.meets fu x24_1 _ h24_5)) (.r 3 b24_6 (.c (c_ix (e := TMsg.en) a24_8 e24_9) (.c b24_6 (.c (c_el (e := TMsg.en) e24_9) (.c b24_6 (.c (Asks.of (C := Meets Try.prog) (msg_Put.meets fu x24_7 _ h24_11)) (.c b24_6 (.c (c_len (e := e_u8) (l := r24_10)) (.r 2 b24_6 .n)))))))))))) ?_
    rcases br_inv h with ⟨b26_0, h⟩ | ⟨b26_0, h⟩
    ·refine kCt b26_0 ?_
     refine kRs 0 [Tm 0 (bv false)] [] .n ?_
     cases some_inj h
     refine kWo ?_
     refine kRt ?_
     exact kOut
    ·refine kCe b26_0 ?_
     refine kSk ?_
     refine kCd (cR (cR (cB (cB (cR (cL (cR (cR (cR (cR (cR (cR bd5)))))))))))) [.lp (cB (cR (cL (cR (cR (cR (cR (cR (cR bd5)))))))))] ?_
     refine kRc 2 [Tm 7 (iv (w64 (l21_1 + 1)))] [] .n (cB (cR (cL (cR (cR (cR (cR (cR (cR bd5))))))))) [] ?_
     exact kWk (ih (w64 (l21_1 + 1)) _ h)
  ·refine kCe b23_0 ?_
   cases some_inj h
   refine kWo ?_
   refine kXt 2 ?_
   exact kOut
def diwanlaw6_MsgForms (fu : Nat) : Option Bool :=
 bd (diwanlaw6_begun fu) fun r2_1 =>
 br (!r2_1)
  (some false)
  (bd (diwanlaw6_MsgForms.lp9 fu ([(TMsg.mk 1 1 5 0 0 0 0 0 false [] (TTxn.mk 0 0 [] []) 0 0 0 0 false ByteArray.empty ByteArray.empty [] [] 0), (TMsg.mk 2 2 1 0 1099511627776 0 0 0 true [] (TTxn.mk 0 0 [] []) 0 0 0 0 false ByteArray.empty ByteArray.empty [] [] 0), (TMsg.mk 3 1 2 2 0 0 0 0 false ([(TEntry.mk 1 true (TTxn.mk 0 0 [] [])), (TEntry.mk 1 false (TTxn.mk 1 1 [] []))] : List TEntry) (TTxn.mk 0 0 [] []) 0 0 0 0 false ByteArray.empty ByteArray.empty [] [] 0), (TMsg.mk 5 1 2 0 0 0 0 0 false [] (TTxn.mk 1 1 [] []) 0 0 0 0 false ByteArray.empty ByteArray.empty [] [] 0), (TMsg.mk 9 1 2 0 0 0 0 0 false [] (TTxn.mk 0 0 [] []) 0 0 0 2 false ByteArray.empty ByteArray.empty [] ([(TRead.mk (⟨#[97]⟩ : ByteArray) 0 ByteArray.empty false)] : List TRead) 6)] : List TMsg) ([(TMsg.mk 0 1 2 0 0 0 0 0 false [] (TTxn.mk 0 0 [] []) 0 0 0 0 false ByteArray.empty ByteArray.empty [] [] 0), (TMsg.mk 10 1 2 0 0 0 0 0 false [] (TTxn.mk 0 0 [] []) 0 0 0 0 false ByteArray.empty ByteArray.empty [] [] 0), (TMsg.mk 1 0 2 0 0 0 0 0 false [] (TTxn.mk 0 0 [] []) 0 0 0 0 false ByteArray.empty ByteArray.empty [] [] 0), (TMsg.mk 1 6 2 0 0 0 0 0 false [] (TTxn.mk 0 0 [] []) 0 0 0 0 false ByteArray.empty ByteArray.empty [] [] 0), (TMsg.mk 1 2 2 0 0 0 0 0 false [] (TTxn.mk 0 0 [] []) 0 0 0 0 false ByteArray.empty ByteArray.empty [] [] 0), (TMsg.mk 1 1 2 3 0 0 0 0 false [] (TTxn.mk 0 0 [] []) 0 0 0 0 false ByteArray.empty ByteArray.empty [] [] 0), (TMsg.mk 1 1 2 0 (-1) 0 0 0 false [] (TTxn.mk 0 0 [] []) 0 0 0 0 false ByteArray.empty ByteArray.empty [] [] 0), (TMsg.mk 1 1 2 0 1099511627777 0 0 0 false [] (TTxn.mk 0 0 [] []) 0 0 0 0 false ByteArray.empty ByteArray.empty [] [] 0), (TMsg.mk 1 1 2 0 0 0 0 0 true [] (TTxn.mk 0 0 [] []) 0 0 0 0 false ByteArray.empty ByteArray.empty [] [] 0), (TMsg.mk 3 1 2 0 0 0 0 0 false ([(TEntry.mk 1 true (TTxn.mk 1 1 [] []))] : List TEntry) (TTxn.mk 0 0 [] []) 0 0 0 0 false ByteArray.empty ByteArray.empty [] [] 0), (TMsg.mk 3 1 2 0 0 0 0 0 false ([(TEntry.mk 1 false (TTxn.mk 0 0 [] []))] : List TEntry) (TTxn.mk 0 0 [] []) 0 0 0 0 false ByteArray.empty ByteArray.empty [] [] 0), (TMsg.mk 3 1 2 0 0 0 0 0 false (List.replicate (5 : Int).toNat ((TEntry.mk 0 false (TTxn.mk 0 0 [] [])) : TEntry)) (TTxn.mk 0 0 [] []) 0 0 0 0 false ByteArray.empty ByteArray.empty [] [] 0), (TMsg.mk 5 1 2 0 0 0 0 0 false [] (TTxn.mk 0 0 [] []) 0 0 0 0 false ByteArray.empty ByteArray.empty [] [] 0), (TMsg.mk 6 1 2 0 0 0 0 0 false [] (TTxn.mk 0 0 [] []) 0 0 0 3 false ByteArray.empty ByteArray.empty [] [] 0), (TMsg.mk 8 1 2 0 0 0 0 0 false [] (TTxn.mk 0 0 [] []) 0 0 0 0 false ByteArray.empty ByteArray.empty ([(⟨#[98]⟩ : ByteArray), (⟨#[97]⟩ : ByteArray)] : List ByteArray) [] 0), (TMsg.mk 8 1 2 0 0 0 0 0 false [] (TTxn.mk 0 0 [] []) 0 0 0 0 false (⟨#[110, 105, 110, 101, 45, 98, 121, 116, 101]⟩ : ByteArray) ByteArray.empty [] [] 0), (TMsg.mk 9 1 2 0 0 0 0 0 false [] (TTxn.mk 0 0 [] []) 0 0 0 0 false ByteArray.empty ByteArray.empty [] [] 7), (TMsg.mk 9 1 2 0 0 0 0 0 false [] (TTxn.mk 0 0 [] []) 0 0 0 0 false ByteArray.empty ByteArray.empty [] ([(TRead.mk ByteArray.empty 0 ByteArray.empty false)] : List TRead) 0), (TMsg.mk 4 1 2 0 0 0 0 1 false [] (TTxn.mk 0 0 [] []) 0 0 0 0 false ByteArray.empty ByteArray.empty [] [] 0)] : List TMsg) fu 0) fun o_ => (match o_ with
  | .inl _ =>
   bd (diwanlaw6_MsgForms.lp21 fu ([(TMsg.mk 0 1 2 0 0 0 0 0 false [] (TTxn.mk 0 0 [] []) 0 0 0 0 false ByteArray.empty ByteArray.empty [] [] 0), (TMsg.mk 10 1 2 0 0 0 0 0 false [] (TTxn.mk 0 0 [] []) 0 0 0 0 false ByteArray.empty ByteArray.empty [] [] 0), (TMsg.mk 1 0 2 0 0 0 0 0 false [] (TTxn.mk 0 0 [] []) 0 0 0 0 false ByteArray.empty ByteArray.empty [] [] 0), (TMsg.mk 1 6 2 0 0 0 0 0 false [] (TTxn.mk 0 0 [] []) 0 0 0 0 false ByteArray.empty ByteArray.empty [] [] 0), (TMsg.mk 1 2 2 0 0 0 0 0 false [] (TTxn.mk 0 0 [] []) 0 0 0 0 false ByteArray.empty ByteArray.empty [] [] 0), (TMsg.mk 1 1 2 3 0 0 0 0 false [] (TTxn.mk 0 0 [] []) 0 0 0 0 false ByteArray.empty ByteArray.empty [] [] 0), (TMsg.mk 1 1 2 0 (-1) 0 0 0 false [] (TTxn.mk 0 0 [] []) 0 0 0 0 false ByteArray.empty ByteArray.empty [] [] 0), (TMsg.mk 1 1 2 0 1099511627777 0 0 0 false [] (TTxn.mk 0 0 [] []) 0 0 0 0 false ByteArray.empty ByteArray.empty [] [] 0), (TMsg.mk 1 1 2 0 0 0 0 0 true [] (TTxn.mk 0 0 [] []) 0 0 0 0 false ByteArray.empty ByteArray.empty [] [] 0), (TMsg.mk 3 1 2 0 0 0 0 0 false ([(TEntry.mk 1 true (TTxn.mk 1 1 [] []))] : List TEntry) (TTxn.mk 0 0 [] []) 0 0 0 0 false ByteArray.empty ByteArray.empty [] [] 0), (TMsg.mk 3 1 2 0 0 0 0 0 false ([(TEntry.mk 1 false (TTxn.mk 0 0 [] []))] : List TEntry) (TTxn.mk 0 0 [] []) 0 0 0 0 false ByteArray.empty ByteArray.empty [] [] 0), (TMsg.mk 3 1 2 0 0 0 0 0 false (List.replicate (5 : Int).toNat ((TEntry.mk 0 false (TTxn.mk 0 0 [] [])) : TEntry)) (TTxn.mk 0 0 [] []) 0 0 0 0 false ByteArray.empty ByteArray.empty [] [] 0), (TMsg.mk 5 1 2 0 0 0 0 0 false [] (TTxn.mk 0 0 [] []) 0 0 0 0 false ByteArray.empty ByteArray.empty [] [] 0), (TMsg.mk 6 1 2 0 0 0 0 0 false [] (TTxn.mk 0 0 [] []) 0 0 0 3 false ByteArray.empty ByteArray.empty [] [] 0), (TMsg.mk 8 1 2 0 0 0 0 0 false [] (TTxn.mk 0 0 [] []) 0 0 0 0 false ByteArray.empty ByteArray.empty ([(⟨#[98]⟩ : ByteArray), (⟨#[97]⟩ : ByteArray)] : List ByteArray) [] 0), (TMsg.mk 8 1 2 0 0 0 0 0 false [] (TTxn.mk 0 0 [] []) 0 0 0 0 false (⟨#[110, 105, 110, 101, 45, 98, 121, 116, 101]⟩ : ByteArray) ByteArray.empty [] [] 0), (TMsg.mk 9 1 2 0 0 0 0 0 false [] (TTxn.mk 0 0 [] []) 0 0 0 0 false ByteArray.empty ByteArray.empty [] [] 7), (TMsg.mk 9 1 2 0 0 0 0 0 false [] (TTxn.mk 0 0 [] []) 0 0 0 0 false ByteArray.empty ByteArray.empty [] ([(TRead.mk ByteArray.empty 0 ByteArray.empty false)] : List TRead) 0), (TMsg.mk 4 1 2 0 0 0 0 1 false [] (TTxn.mk 0 0 [] []) 0 0 0 0 false ByteArray.empty ByteArray.empty [] [] 0)] : List TMsg) fu 0) fun o_ => (match o_ with
   | .inl _ =>
    some true
   | .inr _ =>
    some false)
  | .inr _ =>
   some false))
theorem diwanlaw6_MsgForms.meets (fu : Nat) (z0 : Bool) (h : diwanlaw6_MsgForms fu = some z0) : Meets Try.prog ⟨5, [], []⟩ ⟨bv z0, []⟩ := by
 refine kMt hmix diwanlaw6_MsgForms.O Try.f5 bd5 0 ?_
 unfold diwanlaw6_MsgForms at h
 refine kRs 0 [] [] .n ?_
 refine kSq ?_
 obtain ⟨r2_1, h2_2, h⟩ := bd_inv h
 refine kRs 0 [Tm 9 (bv (!r2_1))] [.a ⟨bv r2_1, []⟩] (.c (Asks.of (C := Meets Try.prog) (diwanlaw6_begun.meets fu _ h2_2)) .n) ?_
 rcases br_inv h with ⟨b3_0, h⟩ | ⟨b3_0, h⟩
 ·refine kCt b3_0 ?_
  refine kRs 0 [Tm 0 (bv false)] [] .n ?_
  refine kRt ?_
  have h_ := some_inj h
  subst h_
  exact kFr
 ·refine kCe b3_0 ?_
  refine kSk ?_
  refine kCd (cR (cR bd5)) [] ?_
  refine kRs 0 [Tm 1 (.ptr 1 0), Ob 1 (TTxn.ob_0011 (TTxn.mk 1 1 [] []))] [] .n ?_
  refine kRs 1 [Tm 2 (.data (.slc true (some false) 24 (List.map TMsg.en ([(TMsg.mk 1 1 5 0 0 0 0 0 false [] (TTxn.mk 0 0 [] []) 0 0 0 0 false ByteArray.empty ByteArray.empty [] [] 0), (TMsg.mk 2 2 1 0 1099511627776 0 0 0 true [] (TTxn.mk 0 0 [] []) 0 0 0 0 false ByteArray.empty ByteArray.empty [] [] 0), (TMsg.mk 3 1 2 2 0 0 0 0 false ([(TEntry.mk 1 true (TTxn.mk 0 0 [] [])), (TEntry.mk 1 false (TTxn.mk 1 1 [] []))] : List TEntry) (TTxn.mk 0 0 [] []) 0 0 0 0 false ByteArray.empty ByteArray.empty [] [] 0), (TMsg.mk 5 1 2 0 0 0 0 0 false [] (TTxn.mk 1 1 [] []) 0 0 0 0 false ByteArray.empty ByteArray.empty [] [] 0), (TMsg.mk 9 1 2 0 0 0 0 0 false [] (TTxn.mk 0 0 [] []) 0 0 0 2 false ByteArray.empty ByteArray.empty [] ([(TRead.mk (⟨#[97]⟩ : ByteArray) 0 ByteArray.empty false)] : List TRead) 6)] : List TMsg)))), Ob 1 (TTxn.ob (TTxn.mk 1 1 [] []))] [] .n ?_
  refine kRs 1 [Tm 3 (.data (.slc true (some false) 24 (List.map TMsg.en ([(TMsg.mk 0 1 2 0 0 0 0 0 false [] (TTxn.mk 0 0 [] []) 0 0 0 0 false ByteArray.empty ByteArray.empty [] [] 0), (TMsg.mk 10 1 2 0 0 0 0 0 false [] (TTxn.mk 0 0 [] []) 0 0 0 0 false ByteArray.empty ByteArray.empty [] [] 0), (TMsg.mk 1 0 2 0 0 0 0 0 false [] (TTxn.mk 0 0 [] []) 0 0 0 0 false ByteArray.empty ByteArray.empty [] [] 0), (TMsg.mk 1 6 2 0 0 0 0 0 false [] (TTxn.mk 0 0 [] []) 0 0 0 0 false ByteArray.empty ByteArray.empty [] [] 0), (TMsg.mk 1 2 2 0 0 0 0 0 false [] (TTxn.mk 0 0 [] []) 0 0 0 0 false ByteArray.empty ByteArray.empty [] [] 0), (TMsg.mk 1 1 2 3 0 0 0 0 false [] (TTxn.mk 0 0 [] []) 0 0 0 0 false ByteArray.empty ByteArray.empty [] [] 0), (TMsg.mk 1 1 2 0 (-1) 0 0 0 false [] (TTxn.mk 0 0 [] []) 0 0 0 0 false ByteArray.empty ByteArray.empty [] [] 0), (TMsg.mk 1 1 2 0 1099511627777 0 0 0 false [] (TTxn.mk 0 0 [] []) 0 0 0 0 false ByteArray.empty ByteArray.empty [] [] 0), (TMsg.mk 1 1 2 0 0 0 0 0 true [] (TTxn.mk 0 0 [] []) 0 0 0 0 false ByteArray.empty ByteArray.empty [] [] 0), (TMsg.mk 3 1 2 0 0 0 0 0 false ([(TEntry.mk 1 true (TTxn.mk 1 1 [] []))] : List TEntry) (TTxn.mk 0 0 [] []) 0 0 0 0 false ByteArray.empty ByteArray.empty [] [] 0), (TMsg.mk 3 1 2 0 0 0 0 0 false ([(TEntry.mk 1 false (TTxn.mk 0 0 [] []))] : List TEntry) (TTxn.mk 0 0 [] []) 0 0 0 0 false ByteArray.empty ByteArray.empty [] [] 0), (TMsg.mk 3 1 2 0 0 0 0 0 false (List.replicate (5 : Int).toNat ((TEntry.mk 0 false (TTxn.mk 0 0 [] [])) : TEntry)) (TTxn.mk 0 0 [] []) 0 0 0 0 false ByteArray.empty ByteArray.empty [] [] 0), (TMsg.mk 5 1 2 0 0 0 0 0 false [] (TTxn.mk 0 0 [] []) 0 0 0 0 false ByteArray.empty ByteArray.empty [] [] 0), (TMsg.mk 6 1 2 0 0 0 0 0 false [] (TTxn.mk 0 0 [] []) 0 0 0 3 false ByteArray.empty ByteArray.empty [] [] 0), (TMsg.mk 8 1 2 0 0 0 0 0 false [] (TTxn.mk 0 0 [] []) 0 0 0 0 false ByteArray.empty ByteArray.empty ([(⟨#[98]⟩ : ByteArray), (⟨#[97]⟩ : ByteArray)] : List ByteArray) [] 0), (TMsg.mk 8 1 2 0 0 0 0 0 false [] (TTxn.mk 0 0 [] []) 0 0 0 0 false (⟨#[110, 105, 110, 101, 45, 98, 121, 116, 101]⟩ : ByteArray) ByteArray.empty [] [] 0), (TMsg.mk 9 1 2 0 0 0 0 0 false [] (TTxn.mk 0 0 [] []) 0 0 0 0 false ByteArray.empty ByteArray.empty [] [] 7), (TMsg.mk 9 1 2 0 0 0 0 0 false [] (TTxn.mk 0 0 [] []) 0 0 0 0 false ByteArray.empty ByteArray.empty [] ([(TRead.mk ByteArray.empty 0 ByteArray.empty false)] : List TRead) 0), (TMsg.mk 4 1 2 0 0 0 0 1 false [] (TTxn.mk 0 0 [] []) 0 0 0 0 false ByteArray.empty ByteArray.empty [] [] 0)] : List TMsg))))] [.s (.t 40) [.data (.slc true (some false) 6 (List.map TEntry.en (List.replicate (5 : Int).toNat ((TEntry.mk 0 false (TTxn.mk 0 0 [] [])) : TEntry))))]] (.c rT (.c (congrArg (fun d : DV => [AV.data d]) (c_rep (e := TEntry.en) (s := 6) (n := (5 : Int).toNat) (x := (TEntry.mk 0 false (TTxn.mk 0 0 [] []))))) (.c rT .n))) ?_
  refine kSq ?_
  refine kRs 3 [Tm 4 (iv 0)] [] .n ?_
  refine kBk 0 ?_
  obtain ⟨o19, ho19, h⟩ := bd_inv h
  refine kUs (diwanlaw6_MsgForms.lp9_ok fu ([(TMsg.mk 1 1 5 0 0 0 0 0 false [] (TTxn.mk 0 0 [] []) 0 0 0 0 false ByteArray.empty ByteArray.empty [] [] 0), (TMsg.mk 2 2 1 0 1099511627776 0 0 0 true [] (TTxn.mk 0 0 [] []) 0 0 0 0 false ByteArray.empty ByteArray.empty [] [] 0), (TMsg.mk 3 1 2 2 0 0 0 0 false ([(TEntry.mk 1 true (TTxn.mk 0 0 [] [])), (TEntry.mk 1 false (TTxn.mk 1 1 [] []))] : List TEntry) (TTxn.mk 0 0 [] []) 0 0 0 0 false ByteArray.empty ByteArray.empty [] [] 0), (TMsg.mk 5 1 2 0 0 0 0 0 false [] (TTxn.mk 1 1 [] []) 0 0 0 0 false ByteArray.empty ByteArray.empty [] [] 0), (TMsg.mk 9 1 2 0 0 0 0 0 false [] (TTxn.mk 0 0 [] []) 0 0 0 2 false ByteArray.empty ByteArray.empty [] ([(TRead.mk (⟨#[97]⟩ : ByteArray) 0 ByteArray.empty false)] : List TRead) 6)] : List TMsg) ([(TMsg.mk 0 1 2 0 0 0 0 0 false [] (TTxn.mk 0 0 [] []) 0 0 0 0 false ByteArray.empty ByteArray.empty [] [] 0), (TMsg.mk 10 1 2 0 0 0 0 0 false [] (TTxn.mk 0 0 [] []) 0 0 0 0 false ByteArray.empty ByteArray.empty [] [] 0), (TMsg.mk 1 0 2 0 0 0 0 0 false [] (TTxn.mk 0 0 [] []) 0 0 0 0 false ByteArray.empty ByteArray.empty [] [] 0), (TMsg.mk 1 6 2 0 0 0 0 0 false [] (TTxn.mk 0 0 [] []) 0 0 0 0 false ByteArray.empty ByteArray.empty [] [] 0), (TMsg.mk 1 2 2 0 0 0 0 0 false [] (TTxn.mk 0 0 [] []) 0 0 0 0 false ByteArray.empty ByteArray.empty [] [] 0), (TMsg.mk 1 1 2 3 0 0 0 0 false [] (TTxn.mk 0 0 [] []) 0 0 0 0 false ByteArray.empty ByteArray.empty [] [] 0), (TMsg.mk 1 1 2 0 (-1) 0 0 0 false [] (TTxn.mk 0 0 [] []) 0 0 0 0 false ByteArray.empty ByteArray.empty [] [] 0), (TMsg.mk 1 1 2 0 1099511627777 0 0 0 false [] (TTxn.mk 0 0 [] []) 0 0 0 0 false ByteArray.empty ByteArray.empty [] [] 0), (TMsg.mk 1 1 2 0 0 0 0 0 true [] (TTxn.mk 0 0 [] []) 0 0 0 0 false ByteArray.empty ByteArray.empty [] [] 0), (TMsg.mk 3 1 2 0 0 0 0 0 false ([(TEntry.mk 1 true (TTxn.mk 1 1 [] []))] : List TEntry) (TTxn.mk 0 0 [] []) 0 0 0 0 false ByteArray.empty ByteArray.empty [] [] 0), (TMsg.mk 3 1 2 0 0 0 0 0 false ([(TEntry.mk 1 false (TTxn.mk 0 0 [] []))] : List TEntry) (TTxn.mk 0 0 [] []) 0 0 0 0 false ByteArray.empty ByteArray.empty [] [] 0), (TMsg.mk 3 1 2 0 0 0 0 0 false (List.replicate (5 : Int).toNat ((TEntry.mk 0 false (TTxn.mk 0 0 [] [])) : TEntry)) (TTxn.mk 0 0 [] []) 0 0 0 0 false ByteArray.empty ByteArray.empty [] [] 0), (TMsg.mk 5 1 2 0 0 0 0 0 false [] (TTxn.mk 0 0 [] []) 0 0 0 0 false ByteArray.empty ByteArray.empty [] [] 0), (TMsg.mk 6 1 2 0 0 0 0 0 false [] (TTxn.mk 0 0 [] []) 0 0 0 3 false ByteArray.empty ByteArray.empty [] [] 0), (TMsg.mk 8 1 2 0 0 0 0 0 false [] (TTxn.mk 0 0 [] []) 0 0 0 0 false ByteArray.empty ByteArray.empty ([(⟨#[98]⟩ : ByteArray), (⟨#[97]⟩ : ByteArray)] : List ByteArray) [] 0), (TMsg.mk 8 1 2 0 0 0 0 0 false [] (TTxn.mk 0 0 [] []) 0 0 0 0 false (⟨#[110, 105, 110, 101, 45, 98, 121, 116, 101]⟩ : ByteArray) ByteArray.empty [] [] 0), (TMsg.mk 9 1 2 0 0 0 0 0 false [] (TTxn.mk 0 0 [] []) 0 0 0 0 false ByteArray.empty ByteArray.empty [] [] 7), (TMsg.mk 9 1 2 0 0 0 0 0 false [] (TTxn.mk 0 0 [] []) 0 0 0 0 false ByteArray.empty ByteArray.empty [] ([(TRead.mk ByteArray.empty 0 ByteArray.empty false)] : List TRead) 0), (TMsg.mk 4 1 2 0 0 0 0 1 false [] (TTxn.mk 0 0 [] []) 0 0 0 0 false ByteArray.empty ByteArray.empty [] [] 0)] : List TMsg) _ 0 _ ho19) ?_
  intro e_ τ_ hp_
  rcases o19 with o19 | o19
  ·obtain ⟨⟩ := o19
   obtain ⟨rfl, rfl⟩ := hp_
   refine kCd (cR (cR (cR (cR (cR (cR bd5)))))) [] ?_
   refine kSq ?_
   refine kRs 1 [Tm 7 (iv 0)] [] .n ?_
   refine kBk 2 ?_
   obtain ⟨o29, ho29, h⟩ := bd_inv h
   refine kUs (diwanlaw6_MsgForms.lp21_ok fu ([(TMsg.mk 0 1 2 0 0 0 0 0 false [] (TTxn.mk 0 0 [] []) 0 0 0 0 false ByteArray.empty ByteArray.empty [] [] 0), (TMsg.mk 10 1 2 0 0 0 0 0 false [] (TTxn.mk 0 0 [] []) 0 0 0 0 false ByteArray.empty ByteArray.empty [] [] 0), (TMsg.mk 1 0 2 0 0 0 0 0 false [] (TTxn.mk 0 0 [] []) 0 0 0 0 false ByteArray.empty ByteArray.empty [] [] 0), (TMsg.mk 1 6 2 0 0 0 0 0 false [] (TTxn.mk 0 0 [] []) 0 0 0 0 false ByteArray.empty ByteArray.empty [] [] 0), (TMsg.mk 1 2 2 0 0 0 0 0 false [] (TTxn.mk 0 0 [] []) 0 0 0 0 false ByteArray.empty ByteArray.empty [] [] 0), (TMsg.mk 1 1 2 3 0 0 0 0 false [] (TTxn.mk 0 0 [] []) 0 0 0 0 false ByteArray.empty ByteArray.empty [] [] 0), (TMsg.mk 1 1 2 0 (-1) 0 0 0 false [] (TTxn.mk 0 0 [] []) 0 0 0 0 false ByteArray.empty ByteArray.empty [] [] 0), (TMsg.mk 1 1 2 0 1099511627777 0 0 0 false [] (TTxn.mk 0 0 [] []) 0 0 0 0 false ByteArray.empty ByteArray.empty [] [] 0), (TMsg.mk 1 1 2 0 0 0 0 0 true [] (TTxn.mk 0 0 [] []) 0 0 0 0 false ByteArray.empty ByteArray.empty [] [] 0), (TMsg.mk 3 1 2 0 0 0 0 0 false ([(TEntry.mk 1 true (TTxn.mk 1 1 [] []))] : List TEntry) (TTxn.mk 0 0 [] []) 0 0 0 0 false ByteArray.empty ByteArray.empty [] [] 0), (TMsg.mk 3 1 2 0 0 0 0 0 false ([(TEntry.mk 1 false (TTxn.mk 0 0 [] []))] : List TEntry) (TTxn.mk 0 0 [] []) 0 0 0 0 false ByteArray.empty ByteArray.empty [] [] 0), (TMsg.mk 3 1 2 0 0 0 0 0 false (List.replicate (5 : Int).toNat ((TEntry.mk 0 false (TTxn.mk 0 0 [] [])) : TEntry)) (TTxn.mk 0 0 [] []) 0 0 0 0 false ByteArray.empty ByteArray.empty [] [] 0), (TMsg.mk 5 1 2 0 0 0 0 0 false [] (TTxn.mk 0 0 [] []) 0 0 0 0 false ByteArray.empty ByteArray.empty [] [] 0), (TMsg.mk 6 1 2 0 0 0 0 0 false [] (TTxn.mk 0 0 [] []) 0 0 0 3 false ByteArray.empty ByteArray.empty [] [] 0), (TMsg.mk 8 1 2 0 0 0 0 0 false [] (TTxn.mk 0 0 [] []) 0 0 0 0 false ByteArray.empty ByteArray.empty ([(⟨#[98]⟩ : ByteArray), (⟨#[97]⟩ : ByteArray)] : List ByteArray) [] 0), (TMsg.mk 8 1 2 0 0 0 0 0 false [] (TTxn.mk 0 0 [] []) 0 0 0 0 false (⟨#[110, 105, 110, 101, 45, 98, 121, 116, 101]⟩ : ByteArray) ByteArray.empty [] [] 0), (TMsg.mk 9 1 2 0 0 0 0 0 false [] (TTxn.mk 0 0 [] []) 0 0 0 0 false ByteArray.empty ByteArray.empty [] [] 7), (TMsg.mk 9 1 2 0 0 0 0 0 false [] (TTxn.mk 0 0 [] []) 0 0 0 0 false ByteArray.empty ByteArray.empty [] ([(TRead.mk ByteArray.empty 0 ByteArray.empty false)] : List TRead) 0), (TMsg.mk 4 1 2 0 0 0 0 1 false [] (TTxn.mk 0 0 [] []) 0 0 0 0 false ByteArray.empty ByteArray.empty [] [] 0)] : List TMsg) _ 0 _ ho29) ?_
   intro e_ τ_ hp_
   rcases o29 with o29 | o29
   ·obtain ⟨⟩ := o29
    obtain ⟨rfl, rfl⟩ := hp_
    refine kCd (cR (cR (cR (cR (cR (cR (cR bd5))))))) [] ?_
    refine kRs 0 [Tm 0 (bv true)] [] .n ?_
    refine kRt ?_
    have h_ := some_inj h
    subst h_
    exact kFr
   ·obtain ⟨⟩ := o29
    obtain ⟨rfl, rfl⟩ := hp_
    have h_ := some_inj h
    subst h_
    exact kFr
  ·obtain ⟨⟩ := o19
   obtain ⟨rfl, rfl⟩ := hp_
   have h_ := some_inj h
   subst h_
   exact kFr
end Go.Proofs.Ytbflggolnolaeaa.Told
