/- Functions of the program told as Lean functions, with the walks of their code in the machine by value. -/
import Derived.Test.YthjpcfbfiaenaaaProg
import Derived.Test.YthjpcfbfiaenaaaVam2
import Derived.Test.YthjpcfbfiaenaaaToldSaveTakep1
noncomputable section
namespace Go.Proofs.Ythjpcfbfiaenaaa.Told
open Go Go.Proofs Go.Proofs.Ythjpcfbfiaenaaa Go.Proofs.Ythjpcfbfiaenaaa.Vam
set_option linter.unusedVariables false
set_option maxRecDepth 100000
def bd55 : Code := (Try.f55.body).getD .skip
def diwanplay_Picks_Txn.O : Nat → Nat := fun t => bif ([4, 5, 6, 7, 8, 9, 10, 11, 18, 35, 45, 51, 52, 68, 77, 78, 80] : List Nat).any (Nat.beq t) then 1 else 0
def diwanplay_Picks_Txn.lp5 (fu : Nat) (l5_0 : Int) (l5_1 : List ByteArray) (l5_3 : TTxn) : Nat → Int → TTxn → TPicks → Option (TTxn × TPicks)
  | 0, _, _, _ => none
  | n_ + 1, l5_2, l5_4, l5_5 =>
  br (decide (l5_2 < (l5_1.length : Int)))
   (ix l5_1 l5_2 fun x8_1 =>
   bd (diwanplay_Picks_Num (if l5_0 < 1 then 1 else l5_0) l5_5) fun (r8_4, r8_5) =>
   jn (fun (j12_5 : TRead) (j12_6 : TPicks) =>
    gd (decide (l5_4.Reads.length + ([j12_5] : List TRead).length ≤ 4294967296)) <|
    diwanplay_Picks_Txn.lp5 fu l5_0 l5_1 l5_3 n_ (w64 (l5_2 + 1)) (TTxn.mk l5_4.Session l5_4.Seq (l5_4.Reads ++ ([j12_5] : List TRead)) l5_4.Writes) j12_6) fun k12 =>
   br (decide (r8_4 > 0))
    (bd (diwanplay_Picks_Num 4 r8_5) fun (r9_2, r9_3) =>
    br (decide (r9_2 > 0))
     (bd (diwanplay_Picks_Val r9_3) fun (r11_1, r11_2) =>
     k12 (TRead.mk x8_1 r8_4 r11_1 true) r11_2)
     (k12 (TRead.mk x8_1 r8_4 ByteArray.empty false) r9_3))
    (k12 (TRead.mk x8_1 r8_4 ByteArray.empty false) r8_5))
   (some (l5_4, l5_5))
def diwanplay_Picks_Txn.lp5_post (l5_0 : Int) (l5_1 : List ByteArray) (l5_3 : TTxn) (r_ : (TTxn × TPicks)) : Wy → St → Prop := fun e τ => match r_ with
  | (y0, y1) => e = .exit 0 ∧ τ = ofL [Tm 0 (.ptr 1000 0), Tm 4 (.ptr 4 0), Tm 5 (.ptr 5 0), Ob 4 (TTxn.ob_0011 l5_3), Ob 5 (TTxn.ob_0011 y0), Ob 1000 [sS 1 e_u8 y1.l, iv y1.n]]
theorem diwanplay_Picks_Txn.lp5_ok (fu : Nat) (l5_0 : Int) (l5_1 : List ByteArray) (l5_3 : TTxn) : ∀ (n_ : Nat) (l5_2 : Int) (l5_4 : TTxn) (l5_5 : TPicks) (r_ : (TTxn × TPicks)), diwanplay_Picks_Txn.lp5 fu l5_0 l5_1 l5_3 n_ l5_2 l5_4 l5_5 = some r_ → WK Try.prog diwanplay_Picks_Txn.O (Ck Try.prog) (cB (cR (cL (cR (cR (cR bd55)))))) [] (ofL [Tm 0 (.ptr 1000 0), Tm 1 (iv l5_0), Tm 4 (.ptr 4 0), Tm 5 (.ptr 5 0), Tm 6 (sO 1 e_s l5_1), Tm 7 (iv l5_2), Ob 4 (TTxn.ob_0011 l5_3), Ob 5 (TTxn.ob_0011 l5_4), Ob 1000 [sS 1 e_u8 l5_5.l, iv l5_5.n]]) (diwanplay_Picks_Txn.lp5_post l5_0 l5_1 l5_3 r_) := by
 intro n_
 induction n_ with
 | zero => intro l5_2 l5_4 l5_5 r_ h; exact no_none h
 | succ n_ ih =>
  intro l5_2 l5_4 l5_5 r_ h
  refine kLp ?_
  refine kSq ?_
  refine kRs 511 [Tm 24 (bv (decide (l5_2 < (l5_1.length : Int))))] [.s (.t 23) [iv (l5_1.length : Int)]] (.c (c_len (e := e_s) (l := l5_1)) .n) ?_
  rcases br_inv h with ⟨b7_0, h⟩ | ⟨b7_0, h⟩
  ·refine kCt b7_0 ?_
   refine kSk ?_
   refine kCd (cR (cB (cB (cR (cL (cR (cR (cR bd55)))))))) [.lp (cB (cR (cL (cR (cR (cR bd55))))))] ?_
   refine kSq ?_
   refine kBk 1 ?_
   obtain ⟨x8_1, a8_2, e8_3, h⟩ := ix_inv h
   obtain ⟨⟨r8_4, r8_5⟩, h8_6, h⟩ := bd_inv h
   refine kRs 510 [Tm 8 (.ptr 8 0), Ob 8 (TRead.ob (TRead.mk x8_1 r8_4 ByteArray.empty false)), Ob 1000 [sS 1 e_u8 r8_5.l, iv r8_5.n]] [.c (e_s x8_1), .a ⟨iv r8_4, [[sS 1 e_u8 r8_5.l, iv r8_5.n]]⟩] (.c (c_ix (e := e_s) a8_2 e8_3) (.c (c_el (e := e_s) e8_3) (.c (Asks.of (C := Meets Try.prog) (diwanplay_Picks_Num.meets (if l5_0 < 1 then 1 else l5_0) l5_5 _ _ h8_6)) (.c rT .n)))) ?_
   obtain ⟨k12, hk12, h⟩ := jn_inv h
   have Jk12 : ∀ (j12_5 : TRead) (j12_6 : TPicks), k12 j12_5 j12_6 = some r_ → WK Try.prog diwanplay_Picks_Txn.O (Ck Try.prog) (cR (cR (cB (cL (cR (cB (cB (cR (cL (cR (cR (cR bd55)))))))))))) [.blk 1, .seq (cR (cR (cB (cB (cR (cL (cR (cR (cR bd55))))))))), .lp (cB (cR (cL (cR (cR (cR bd55))))))] (ofL [Tm 0 (.ptr 1000 0), Tm 1 (iv l5_0), Tm 4 (.ptr 4 0), Tm 5 (.ptr 5 0), Tm 6 (sO 1 e_s l5_1), Tm 7 (iv l5_2), Tm 8 (.ptr 8 0), Ob 4 (TTxn.ob_0011 l5_3), Ob 5 (TTxn.ob_0011 l5_4), Ob 8 (TRead.ob j12_5), Ob 1000 [sS 1 e_u8 j12_6.l, iv j12_6.n]]) (diwanplay_Picks_Txn.lp5_post l5_0 l5_1 l5_3 r_) := by
    intro j12_5 j12_6 h
    rw [hk12] at h
    obtain ⟨c13_1, h⟩ := gd_inv h
    refine kRc 1215 [Ob 5 (TTxn.ob_0011 (TTxn.mk l5_4.Session l5_4.Seq (l5_4.Reads ++ ([j12_5] : List TRead)) l5_4.Writes))] [.s (.t 52) [sO 4 TRead.en (l5_4.Reads ++ ([j12_5] : List TRead))]] (.c (c_al (e := TRead.en) (f := TRead.en) c13_1) (.c (congrArg (fun d : DV => [AV.data d]) (c_app (e := TRead.en) (s := 4) (l := l5_4.Reads) (m := ([j12_5] : List TRead)))) .n)) (cR (cR (cB (cB (cR (cL (cR (cR (cR bd55))))))))) [.lp (cB (cR (cL (cR (cR (cR bd55))))))] ?_
    refine kRc 447 [Tm 7 (iv (w64 (l5_2 + 1)))] [] .n (cB (cR (cL (cR (cR (cR bd55)))))) [] ?_
    exact kWk (ih (w64 (l5_2 + 1)) (TTxn.mk l5_4.Session l5_4.Seq (l5_4.Reads ++ ([j12_5] : List TRead)) l5_4.Writes) j12_6 _ h)
   clear hk12
   refine kSq ?_
   rcases br_inv h with ⟨b9_1, h⟩ | ⟨b9_1, h⟩
   ·obtain ⟨⟨r9_2, r9_3⟩, h9_4, h⟩ := bd_inv h
    refine kRs 2043 [Tm 43 (bv (decide (r9_2 > 0))), Ob 1000 [sS 1 e_u8 r9_3.l, iv r9_3.n]] [.b true, .b true, .a ⟨iv r9_2, [[sS 1 e_u8 r9_3.l, iv r9_3.n]]⟩, .b true, .b true] (.r 2 b9_1 (.c (Asks.of (C := Meets Try.prog) (diwanplay_Picks_Num.meets 4 r8_5 _ _ h9_4)) (.r 2 b9_1 .n))) ?_
    rcases br_inv h with ⟨b10_0, h⟩ | ⟨b10_0, h⟩
    ·refine kCt b10_0 ?_
     obtain ⟨⟨r11_1, r11_2⟩, h11_3, h⟩ := bd_inv h
     refine kRc 4084 [Ob 8 (TRead.ob (TRead.mk x8_1 r8_4 r11_1 true)), Ob 1000 [sS 1 e_u8 r11_2.l, iv r11_2.n]] [.a ⟨sv r11_1, [[sS 1 e_u8 r11_2.l, iv r11_2.n]]⟩] (.c (Asks.of (C := Meets Try.prog) (diwanplay_Picks_Val.meets r9_3 _ _ h11_3)) .n) (cR (cR (cB (cL (cR (cB (cB (cR (cL (cR (cR (cR bd55)))))))))))) [.blk 1, .seq (cR (cR (cB (cB (cR (cL (cR (cR (cR bd55))))))))), .lp (cB (cR (cL (cR (cR (cR bd55))))))] ?_
     exact kWk (Jk12 (TRead.mk x8_1 r8_4 r11_1 true) r11_2 h)
    ·refine kCe b10_0 ?_
     refine kSk ?_
     refine kCd (cR (cR (cB (cL (cR (cB (cB (cR (cL (cR (cR (cR bd55)))))))))))) [.blk 1, .seq (cR (cR (cB (cB (cR (cL (cR (cR (cR bd55))))))))), .lp (cB (cR (cL (cR (cR (cR bd55))))))] ?_
     exact kWk (Jk12 (TRead.mk x8_1 r8_4 ByteArray.empty false) r9_3 h)
   ·refine kRs 2047 [Tm 43 (bv false)] (rp 4 (.b false) []) (.r 4 b9_1 .n) ?_
    refine kCe rF ?_
    refine kSk ?_
    refine kCd (cR (cR (cB (cL (cR (cB (cB (cR (cL (cR (cR (cR bd55)))))))))))) [.blk 1, .seq (cR (cR (cB (cB (cR (cL (cR (cR (cR bd55))))))))), .lp (cB (cR (cL (cR (cR (cR bd55))))))] ?_
    exact kWk (Jk12 (TRead.mk x8_1 r8_4 ByteArray.empty false) r8_5 h)
  ·refine kCe b7_0 ?_
   cases some_inj h
   refine kWo ?_
   refine kXt 0 ?_
   exact kOut
def diwanplay_Picks_Txn.lp18 (fu : Nat) (l18_0 : List ByteArray) (l18_2 : TTxn) : Nat → Int → TTxn → TPicks → Option (TTxn × TPicks)
  | 0, _, _, _ => none
  | n_ + 1, l18_1, l18_3, l18_4 =>
  br (decide (l18_1 < (l18_0.length : Int)))
   (ix l18_0 l18_1 fun x21_1 =>
   bd (diwanplay_Picks_Val l18_4) fun (r21_4, r21_5) =>
   jn (fun (j25_4 : TWrite) (j25_5 : TPicks) =>
    gd (decide (l18_3.Writes.length + ([j25_4] : List TWrite).length ≤ 4294967296)) <|
    diwanplay_Picks_Txn.lp18 fu l18_0 l18_2 n_ (w64 (l18_1 + 1)) (TTxn.mk l18_3.Session l18_3.Seq l18_3.Reads (l18_3.Writes ++ ([j25_4] : List TWrite))) j25_5) fun k25 =>
   bd (diwanplay_Picks_Num 4 r21_5) fun (r22_1, r22_2) =>
   br (r22_1 == 0)
    (k25 (TWrite.mk x21_1 ByteArray.empty true) r22_2)
    (k25 (TWrite.mk x21_1 r21_4 false) r22_2))
   (some (l18_3, l18_4))
def diwanplay_Picks_Txn.lp18_post (l18_0 : List ByteArray) (l18_2 : TTxn) (r_ : (TTxn × TPicks)) : Wy → St → Prop := fun e τ => match r_ with
  | (y0, y1) => e = .exit 2 ∧ τ = ofL [Tm 4 (.ptr 4 0), Tm 5 (.ptr 5 0), Ob 4 (TTxn.ob_0011 l18_2), Ob 5 (TTxn.ob_0011 y0), Ob 1000 [sS 1 e_u8 y1.l, iv y1.n]]
theorem diwanplay_Picks_Txn.lp18_ok (fu : Nat) (l18_0 : List ByteArray) (l18_2 : TTxn) : ∀ (n_ : Nat) (l18_1 : Int) (l18_3 : TTxn) (l18_4 : TPicks) (r_ : (TTxn × TPicks)), diwanplay_Picks_Txn.lp18 fu l18_0 l18_2 n_ l18_1 l18_3 l18_4 = some r_ → WK Try.prog diwanplay_Picks_Txn.O (Ck Try.prog) (cB (cR (cL (cR (cR (cR (cR (cR bd55)))))))) [] (ofL [Tm 0 (.ptr 1000 0), Tm 4 (.ptr 4 0), Tm 5 (.ptr 5 0), Tm 9 (sO 1 e_s l18_0), Tm 10 (iv l18_1), Ob 4 (TTxn.ob_0011 l18_2), Ob 5 (TTxn.ob_0011 l18_3), Ob 1000 [sS 1 e_u8 l18_4.l, iv l18_4.n]]) (diwanplay_Picks_Txn.lp18_post l18_0 l18_2 r_) := by
 intro n_
 induction n_ with
 | zero => intro l18_1 l18_3 l18_4 r_ h; exact no_none h
 | succ n_ ih =>
  intro l18_1 l18_3 l18_4 r_ h
  refine kLp ?_
  refine kSq ?_
  refine kRs 255 [Tm 59 (bv (decide (l18_1 < (l18_0.length : Int))))] [.s (.t 58) [iv (l18_0.length : Int)]] (.c (c_len (e := e_s) (l := l18_0)) .n) ?_
  rcases br_inv h with ⟨b20_0, h⟩ | ⟨b20_0, h⟩
  ·refine kCt b20_0 ?_
   refine kSk ?_
   refine kCd (cR (cB (cB (cR (cL (cR (cR (cR (cR (cR bd55)))))))))) [.lp (cB (cR (cL (cR (cR (cR (cR (cR bd55))))))))] ?_
   refine kSq ?_
   refine kBk 3 ?_
   obtain ⟨x21_1, a21_2, e21_3, h⟩ := ix_inv h
   obtain ⟨⟨r21_4, r21_5⟩, h21_6, h⟩ := bd_inv h
   refine kRs 254 [Tm 11 (.ptr 11 0), Ob 11 (TWrite.ob (TWrite.mk x21_1 r21_4 false)), Ob 1000 [sS 1 e_u8 r21_5.l, iv r21_5.n]] [.c (e_s x21_1), .a ⟨sv r21_4, [[sS 1 e_u8 r21_5.l, iv r21_5.n]]⟩] (.c (c_ix (e := e_s) a21_2 e21_3) (.c (c_el (e := e_s) e21_3) (.c (Asks.of (C := Meets Try.prog) (diwanplay_Picks_Val.meets l18_4 _ _ h21_6)) (.c rT .n)))) ?_
   obtain ⟨k25, hk25, h⟩ := jn_inv h
   have Jk25 : ∀ (j25_4 : TWrite) (j25_5 : TPicks), k25 j25_4 j25_5 = some r_ → WK Try.prog diwanplay_Picks_Txn.O (Ck Try.prog) (cR (cR (cB (cL (cR (cB (cB (cR (cL (cR (cR (cR (cR (cR bd55)))))))))))))) [.blk 3, .seq (cR (cR (cB (cB (cR (cL (cR (cR (cR (cR (cR bd55))))))))))), .lp (cB (cR (cL (cR (cR (cR (cR (cR bd55))))))))] (ofL [Tm 0 (.ptr 1000 0), Tm 4 (.ptr 4 0), Tm 5 (.ptr 5 0), Tm 9 (sO 1 e_s l18_0), Tm 10 (iv l18_1), Tm 11 (.ptr 11 0), Ob 4 (TTxn.ob_0011 l18_2), Ob 5 (TTxn.ob_0011 l18_3), Ob 11 (TWrite.ob j25_4), Ob 1000 [sS 1 e_u8 j25_5.l, iv j25_5.n]]) (diwanplay_Picks_Txn.lp18_post l18_0 l18_2 r_) := by
    intro j25_4 j25_5 h
    rw [hk25] at h
    obtain ⟨c26_1, h⟩ := gd_inv h
    refine kRc 607 [Ob 5 (TTxn.ob_0011 (TTxn.mk l18_3.Session l18_3.Seq l18_3.Reads (l18_3.Writes ++ ([j25_4] : List TWrite))))] [.s (.t 78) [sO 3 TWrite.en (l18_3.Writes ++ ([j25_4] : List TWrite))]] (.c (c_al (e := TWrite.en) (f := TWrite.en) c26_1) (.c (congrArg (fun d : DV => [AV.data d]) (c_app (e := TWrite.en) (s := 3) (l := l18_3.Writes) (m := ([j25_4] : List TWrite)))) .n)) (cR (cR (cB (cB (cR (cL (cR (cR (cR (cR (cR bd55))))))))))) [.lp (cB (cR (cL (cR (cR (cR (cR (cR bd55))))))))] ?_
    refine kRc 223 [Tm 10 (iv (w64 (l18_1 + 1)))] [] .n (cB (cR (cL (cR (cR (cR (cR (cR bd55)))))))) [] ?_
    exact kWk (ih (w64 (l18_1 + 1)) (TTxn.mk l18_3.Session l18_3.Seq l18_3.Reads (l18_3.Writes ++ ([j25_4] : List TWrite))) j25_5 _ h)
   clear hk25
   refine kSq ?_
   obtain ⟨⟨r22_1, r22_2⟩, h22_3, h⟩ := bd_inv h
   refine kRs 1019 [Tm 71 (bv (r22_1 == 0)), Ob 1000 [sS 1 e_u8 r22_2.l, iv r22_2.n]] [.a ⟨iv r22_1, [[sS 1 e_u8 r22_2.l, iv r22_2.n]]⟩] (.c (Asks.of (C := Meets Try.prog) (diwanplay_Picks_Num.meets 4 r21_5 _ _ h22_3)) .n) ?_
   rcases br_inv h with ⟨b23_0, h⟩ | ⟨b23_0, h⟩
   ·refine kCt b23_0 ?_
    refine kRc 2038 [Ob 11 (TWrite.ob (TWrite.mk x21_1 ByteArray.empty true))] [] .n (cR (cR (cB (cL (cR (cB (cB (cR (cL (cR (cR (cR (cR (cR bd55)))))))))))))) [.blk 3, .seq (cR (cR (cB (cB (cR (cL (cR (cR (cR (cR (cR bd55))))))))))), .lp (cB (cR (cL (cR (cR (cR (cR (cR bd55))))))))] ?_
    exact kWk (Jk25 (TWrite.mk x21_1 ByteArray.empty true) r22_2 h)
   ·refine kCe b23_0 ?_
    refine kSk ?_
    refine kCd (cR (cR (cB (cL (cR (cB (cB (cR (cL (cR (cR (cR (cR (cR bd55)))))))))))))) [.blk 3, .seq (cR (cR (cB (cB (cR (cL (cR (cR (cR (cR (cR bd55))))))))))), .lp (cB (cR (cL (cR (cR (cR (cR (cR bd55))))))))] ?_
    exact kWk (Jk25 (TWrite.mk x21_1 r21_4 false) r22_2 h)
  ·refine kCe b20_0 ?_
   cases some_inj h
   refine kWo ?_
   refine kXt 2 ?_
   exact kOut
def diwanplay_Picks_Txn (fu : Nat) (most : Int) (o0_v : TPicks) : Option (TTxn × TPicks) :=
 bd (diwanplay_Picks_Num 3 o0_v) fun (r2_1, r2_2) =>
 bd (diwanplay_Picks_Num 6 r2_2) fun (r2_4, r2_5) =>
 bd (diwanplay_Picks_Keys fu 3 r2_5) fun (r3_1, r3_2) =>
 bd (diwanplay_Picks_Txn.lp5 fu most r3_1 (TTxn.mk 0 0 [] []) fu 0 (TTxn.mk (w64 (1 + r2_1)) (w64 (1 + r2_4)) [] []) r3_2) fun (y15_0, y15_1) =>
 bd (diwanplay_Picks_Keys fu 3 y15_1) fun (r16_1, r16_2) =>
 bd (diwanplay_Picks_Txn.lp18 fu r16_1 (TTxn.mk 0 0 [] []) fu 0 y15_0 r16_2) fun (y28_0, y28_1) =>
 some (y28_0, y28_1)
theorem diwanplay_Picks_Txn.meets (fu : Nat) (most : Int) (o0_v : TPicks) (z0 : TTxn) (z1 : TPicks) (h : diwanplay_Picks_Txn fu most o0_v = some (z0, z1)) : Meets Try.prog ⟨55, [.ptr 1000 0, iv most], [[sS 1 e_u8 o0_v.l, iv o0_v.n]]⟩ ⟨.data (TTxn.ag_0011 z0), [[sS 1 e_u8 z1.l, iv z1.n]]⟩ := by
 refine kMt hmix diwanplay_Picks_Txn.O Try.f55 bd55 7 ?_
 unfold diwanplay_Picks_Txn at h
 refine kRs 7 [Tm 4 (.ptr 4 0), Ob 4 (TTxn.ob_0011 (TTxn.mk 0 0 [] []))] [] .n ?_
 obtain ⟨⟨r2_1, r2_2⟩, h2_3, h⟩ := bd_inv h
 obtain ⟨⟨r2_4, r2_5⟩, h2_6, h⟩ := bd_inv h
 refine kRs 15 [Tm 5 (.ptr 5 0), Ob 5 (TTxn.ob_0011 (TTxn.mk (w64 (1 + r2_1)) (w64 (1 + r2_4)) [] [])), Ob 1000 [sS 1 e_u8 r2_5.l, iv r2_5.n]] [.a ⟨iv r2_1, [[sS 1 e_u8 r2_2.l, iv r2_2.n]]⟩, .a ⟨iv r2_4, [[sS 1 e_u8 r2_5.l, iv r2_5.n]]⟩] (.c (Asks.of (C := Meets Try.prog) (diwanplay_Picks_Num.meets 3 o0_v _ _ h2_3)) (.c (Asks.of (C := Meets Try.prog) (diwanplay_Picks_Num.meets 6 r2_2 _ _ h2_6)) .n)) ?_
 obtain ⟨⟨r3_1, r3_2⟩, h3_3, h⟩ := bd_inv h
 refine kRs 123 [Tm 6 (sO 1 e_s r3_1), Ob 1000 [sS 1 e_u8 r3_2.l, iv r3_2.n]] [.a ⟨sO 1 e_s r3_1, [[sS 1 e_u8 r3_2.l, iv r3_2.n]]⟩] (.c (Asks.of (C := Meets Try.prog) (diwanplay_Picks_Keys.meets fu 3 r2_5 _ _ h3_3)) .n) ?_
 refine kSq ?_
 refine kRs 255 [Tm 7 (iv 0)] [] .n ?_
 refine kBk 0 ?_
 obtain ⟨o15, ho15, h⟩ := bd_inv h
 refine kUs (diwanplay_Picks_Txn.lp5_ok fu most r3_1 (TTxn.mk 0 0 [] []) _ 0 (TTxn.mk (w64 (1 + r2_1)) (w64 (1 + r2_4)) [] []) r3_2 _ ho15) ?_
 intro e_ τ_ hp_
 obtain ⟨y15_0, y15_1⟩ := o15
 obtain ⟨rfl, rfl⟩ := hp_
 refine kCd (cR (cR (cR (cR bd55)))) [] ?_
 obtain ⟨⟨r16_1, r16_2⟩, h16_3, h⟩ := bd_inv h
 refine kRs 31 [Tm 9 (sO 1 e_s r16_1), Ob 1000 [sS 1 e_u8 r16_2.l, iv r16_2.n]] [.a ⟨sO 1 e_s r16_1, [[sS 1 e_u8 r16_2.l, iv r16_2.n]]⟩] (.c (Asks.of (C := Meets Try.prog) (diwanplay_Picks_Keys.meets fu 3 y15_1 _ _ h16_3)) .n) ?_
 refine kSq ?_
 refine kRs 127 [Tm 10 (iv 0)] [] .n ?_
 refine kBk 2 ?_
 obtain ⟨o28, ho28, h⟩ := bd_inv h
 refine kUs (diwanplay_Picks_Txn.lp18_ok fu r16_1 (TTxn.mk 0 0 [] []) _ 0 y15_0 r16_2 _ ho28) ?_
 intro e_ τ_ hp_
 obtain ⟨y28_0, y28_1⟩ := o28
 obtain ⟨rfl, rfl⟩ := hp_
 refine kCd (cR (cR (cR (cR (cR (cR bd55)))))) [] ?_
 refine kRs 17 [Ob 4 (TTxn.ob_0011 y28_0)] [] .n ?_
 refine kRt ?_
 have h_0 := some_inj h
 obtain ⟨g_1, h_1⟩ := Prod.mk.inj h_0
 subst g_1
 subst h_1
 exact kFr
def bd34 : Code := (Try.f34.body).getD .skip
def diwanplay_Picks_Txns.O : Nat → Nat := fun t => bif ([4, 5, 6, 7, 8, 9, 10, 18, 24, 43, 55, 81] : List Nat).any (Nat.beq t) then 1 else 0
def diwanplay_Picks_Txns.lp11 (fu : Nat) (l11_0 : Int) (l11_1 : List TTxn) (l11_2 : List (ByteArray × Int)) (l11_3 : Int) : Nat → Int → TTxn → TPicks → Option (TTxn × TPicks)
  | 0, _, _, _ => none
  | n_ + 1, l11_4, l11_5, l11_6 =>
  br (decide (l11_4 < (l11_5.Reads.length : Int)))
   (ix l11_5.Reads l11_4 fun x14_1 =>
   ix l11_5.Reads l11_4 fun x14_4 =>
   bd (diwanplay_Picks_Num 8 l11_6) fun (r15_1, r15_2) =>
   br (r15_1 == 0)
    (bd (diwanplay_Picks_Num (w64 (l11_3 + 1)) r15_2) fun (r17_1, r17_2) =>
    ix (l11_5.Reads.set l11_4.toNat (TRead.mk x14_4.Key ((alook eqS l11_2 x14_1.Key).getD 0) x14_4.Val x14_4.There)) l11_4 fun x17_4 =>
    diwanplay_Picks_Txns.lp11 fu l11_0 l11_1 l11_2 l11_3 n_ (w64 (l11_4 + 1)) (TTxn.mk l11_5.Session l11_5.Seq ((l11_5.Reads.set l11_4.toNat (TRead.mk x14_4.Key ((alook eqS l11_2 x14_1.Key).getD 0) x14_4.Val x14_4.There)).set l11_4.toNat (TRead.mk x17_4.Key r17_1 x17_4.Val x17_4.There)) l11_5.Writes) r17_2)
    (diwanplay_Picks_Txns.lp11 fu l11_0 l11_1 l11_2 l11_3 n_ (w64 (l11_4 + 1)) (TTxn.mk l11_5.Session l11_5.Seq (l11_5.Reads.set l11_4.toNat (TRead.mk x14_4.Key ((alook eqS l11_2 x14_1.Key).getD 0) x14_4.Val x14_4.There)) l11_5.Writes) r15_2))
   (some (l11_5, l11_6))
def diwanplay_Picks_Txns.lp11_post (l11_0 : Int) (l11_1 : List TTxn) (l11_2 : List (ByteArray × Int)) (l11_3 : Int) (r_ : (TTxn × TPicks)) : Wy → St → Prop := fun e τ => match r_ with
  | (y0, y1) => e = .exit 2 ∧ τ = ofL [Tm 0 (.ptr 1000 0), Tm 1 (iv l11_0), Tm 5 (sO 4 TTxn.en l11_1), Tm 6 (.data (.mp 1 (mpe kvS kvI l11_2))), Tm 7 (iv l11_3), Tm 8 (.ptr 8 0), Ob 8 (TTxn.ob_0011 y0), Ob 1000 [sS 1 e_u8 y1.l, iv y1.n]]
theorem diwanplay_Picks_Txns.lp11_ok (fu : Nat) (l11_0 : Int) (l11_1 : List TTxn) (l11_2 : List (ByteArray × Int)) (l11_3 : Int) : ∀ (n_ : Nat) (l11_4 : Int) (l11_5 : TTxn) (l11_6 : TPicks) (r_ : (TTxn × TPicks)), diwanplay_Picks_Txns.lp11 fu l11_0 l11_1 l11_2 l11_3 n_ l11_4 l11_5 l11_6 = some r_ → WK Try.prog diwanplay_Picks_Txns.O (Ck Try.prog) (cB (cR (cL (cR (cR (cB (cL (cR (cB (cB (cR (cL (cR (cR (cR bd34))))))))))))))) [] (ofL [Tm 0 (.ptr 1000 0), Tm 1 (iv l11_0), Tm 5 (sO 4 TTxn.en l11_1), Tm 6 (.data (.mp 1 (mpe kvS kvI l11_2))), Tm 7 (iv l11_3), Tm 8 (.ptr 8 0), Tm 9 (iv l11_4), Ob 8 (TTxn.ob_0011 l11_5), Ob 1000 [sS 1 e_u8 l11_6.l, iv l11_6.n]]) (diwanplay_Picks_Txns.lp11_post l11_0 l11_1 l11_2 l11_3 r_) := by
 intro n_
 induction n_ with
 | zero => intro l11_4 l11_5 l11_6 r_ h; exact no_none h
 | succ n_ ih =>
  intro l11_4 l11_5 l11_6 r_ h
  refine kLp ?_
  refine kSq ?_
  refine kRs 511 [Tm 30 (bv (decide (l11_4 < (l11_5.Reads.length : Int))))] [.s (.t 29) [iv (l11_5.Reads.length : Int)]] (.c (c_len (e := TRead.en) (l := l11_5.Reads)) .n) ?_
  rcases br_inv h with ⟨b13_0, h⟩ | ⟨b13_0, h⟩
  ·refine kCt b13_0 ?_
   refine kSk ?_
   refine kCd (cR (cB (cB (cR (cL (cR (cR (cB (cL (cR (cB (cB (cR (cL (cR (cR (cR bd34))))))))))))))))) [.lp (cB (cR (cL (cR (cR (cB (cL (cR (cB (cB (cR (cL (cR (cR (cR bd34)))))))))))))))] ?_
   refine kSq ?_
   refine kBk 3 ?_
   obtain ⟨x14_1, a14_2, e14_3, h⟩ := ix_inv h
   obtain ⟨x14_4, a14_5, e14_6, h⟩ := ix_inv h
   refine kRs 766 [Ob 8 (TTxn.ob_0011 (TTxn.mk l11_5.Session l11_5.Seq (l11_5.Reads.set l11_4.toNat (TRead.mk x14_4.Key ((alook eqS l11_2 x14_1.Key).getD 0) x14_4.Val x14_4.There)) l11_5.Writes))] [.c (TRead.en x14_1), .s (.t 43) [iv ((alook eqS l11_2 x14_1.Key).getD 0)], .c (TRead.en x14_4), .s (.o 8) (TTxn.ob_0011 (TTxn.mk l11_5.Session l11_5.Seq (l11_5.Reads.set l11_4.toNat (TRead.mk x14_4.Key ((alook eqS l11_2 x14_1.Key).getD 0) x14_4.Val x14_4.There)) l11_5.Writes))] (.c (c_ix (e := TRead.en) a14_2 e14_3) (.c (c_el (e := TRead.en) e14_3) (.c (c_mget (f := kvS) (g := kvI) (eq := eqS) (fun _ _ => rfl) (l := l11_2) (k := x14_1.Key) (z := 0)) (.c (c_ix (e := TRead.en) a14_5 e14_6) (.c (c_el (e := TRead.en) e14_6) (.c (congrArg (fun d : DV => (TTxn.ob_0011 (TTxn.mk l11_5.Session l11_5.Seq (l11_5.Reads.set l11_4.toNat (TRead.mk x14_4.Key ((alook eqS l11_2 x14_1.Key).getD 0) x14_4.Val x14_4.There)) l11_5.Writes)).set 2 (AV.data d)) (c_set (e := TRead.en) (s := 4) (nl := none) (l := l11_5.Reads) (i := l11_4.toNat) (x := (TRead.mk x14_4.Key ((alook eqS l11_2 x14_1.Key).getD 0) x14_4.Val x14_4.There)))) (.c rT .n))))))) ?_
   obtain ⟨⟨r15_1, r15_2⟩, h15_3, h⟩ := bd_inv h
   refine kRs 255 [Tm 48 (bv (r15_1 == 0)), Ob 1000 [sS 1 e_u8 r15_2.l, iv r15_2.n]] [.a ⟨iv r15_1, [[sS 1 e_u8 r15_2.l, iv r15_2.n]]⟩] (.c (Asks.of (C := Meets Try.prog) (diwanplay_Picks_Num.meets 8 l11_6 _ _ h15_3)) .n) ?_
   rcases br_inv h with ⟨b16_0, h⟩ | ⟨b16_0, h⟩
   ·refine kCt b16_0 ?_
    obtain ⟨⟨r17_1, r17_2⟩, h17_3, h⟩ := bd_inv h
    obtain ⟨x17_4, a17_5, e17_6, h⟩ := ix_inv h
    refine kRc 1016 [Ob 8 (TTxn.ob_0011 (TTxn.mk l11_5.Session l11_5.Seq ((l11_5.Reads.set l11_4.toNat (TRead.mk x14_4.Key ((alook eqS l11_2 x14_1.Key).getD 0) x14_4.Val x14_4.There)).set l11_4.toNat (TRead.mk x17_4.Key r17_1 x17_4.Val x17_4.There)) l11_5.Writes)), Ob 1000 [sS 1 e_u8 r17_2.l, iv r17_2.n]] [.a ⟨iv r17_1, [[sS 1 e_u8 r17_2.l, iv r17_2.n]]⟩, .c (TRead.en x17_4), .s (.o 8) (TTxn.ob_0011 (TTxn.mk l11_5.Session l11_5.Seq ((l11_5.Reads.set l11_4.toNat (TRead.mk x14_4.Key ((alook eqS l11_2 x14_1.Key).getD 0) x14_4.Val x14_4.There)).set l11_4.toNat (TRead.mk x17_4.Key r17_1 x17_4.Val x17_4.There)) l11_5.Writes))] (.c (Asks.of (C := Meets Try.prog) (diwanplay_Picks_Num.meets (w64 (l11_3 + 1)) r15_2 _ _ h17_3)) (.c (c_ix (e := TRead.en) a17_5 e17_6) (.c (c_el (e := TRead.en) e17_6) (.c (congrArg (fun d : DV => (TTxn.ob_0011 (TTxn.mk l11_5.Session l11_5.Seq ((l11_5.Reads.set l11_4.toNat (TRead.mk x14_4.Key ((alook eqS l11_2 x14_1.Key).getD 0) x14_4.Val x14_4.There)).set l11_4.toNat (TRead.mk x17_4.Key r17_1 x17_4.Val x17_4.There)) l11_5.Writes)).set 2 (AV.data d)) (c_set (e := TRead.en) (s := 4) (nl := none) (l := (l11_5.Reads.set l11_4.toNat (TRead.mk x14_4.Key ((alook eqS l11_2 x14_1.Key).getD 0) x14_4.Val x14_4.There))) (i := l11_4.toNat) (x := (TRead.mk x17_4.Key r17_1 x17_4.Val x17_4.There)))) (.c rT .n))))) (cR (cR (cB (cB (cR (cL (cR (cR (cB (cL (cR (cB (cB (cR (cL (cR (cR (cR bd34)))))))))))))))))) [.lp (cB (cR (cL (cR (cR (cB (cL (cR (cB (cB (cR (cL (cR (cR (cR bd34)))))))))))))))] ?_
    refine kRc 255 [Tm 9 (iv (w64 (l11_4 + 1)))] [] .n (cB (cR (cL (cR (cR (cB (cL (cR (cB (cB (cR (cL (cR (cR (cR bd34))))))))))))))) [] ?_
    exact kWk (ih (w64 (l11_4 + 1)) (TTxn.mk l11_5.Session l11_5.Seq ((l11_5.Reads.set l11_4.toNat (TRead.mk x14_4.Key ((alook eqS l11_2 x14_1.Key).getD 0) x14_4.Val x14_4.There)).set l11_4.toNat (TRead.mk x17_4.Key r17_1 x17_4.Val x17_4.There)) l11_5.Writes) r17_2 _ h)
   ·refine kCe b16_0 ?_
    refine kSk ?_
    refine kCd (cR (cR (cB (cB (cR (cL (cR (cR (cB (cL (cR (cB (cB (cR (cL (cR (cR (cR bd34)))))))))))))))))) [.lp (cB (cR (cL (cR (cR (cB (cL (cR (cB (cB (cR (cL (cR (cR (cR bd34)))))))))))))))] ?_
    refine kRc 510 [Tm 9 (iv (w64 (l11_4 + 1)))] [] .n (cB (cR (cL (cR (cR (cB (cL (cR (cB (cB (cR (cL (cR (cR (cR bd34))))))))))))))) [] ?_
    exact kWk (ih (w64 (l11_4 + 1)) (TTxn.mk l11_5.Session l11_5.Seq (l11_5.Reads.set l11_4.toNat (TRead.mk x14_4.Key ((alook eqS l11_2 x14_1.Key).getD 0) x14_4.Val x14_4.There)) l11_5.Writes) r15_2 _ h)
  ·refine kCe b13_0 ?_
   cases some_inj h
   refine kWo ?_
   refine kXt 2 ?_
   exact kOut
def diwanplay_Picks_Txns.lp22 (fu : Nat) (l22_0 : Int) (l22_1 : List TTxn) (l22_3 : Int) (l22_5 : TTxn) : Nat → (List (ByteArray × Int)) → Int → TPicks → Option (List (ByteArray × Int) × TPicks)
  | 0, _, _, _ => none
  | n_ + 1, l22_2, l22_4, l22_6 =>
  br (decide (l22_4 < (l22_5.Writes.length : Int)))
   (bd (diwanplay_Picks_Num 9 l22_6) fun (r23_2, r23_3) =>
   br (decide (r23_2 > 0))
    (ix l22_5.Writes l22_4 fun x25_1 =>
    diwanplay_Picks_Txns.lp22 fu l22_0 l22_1 l22_3 l22_5 n_ (aput eqS l22_2 x25_1.Key (w64 (l22_3 + 1))) (w64 (l22_4 + 1)) r23_3)
    (some (l22_2, r23_3)))
   (some (l22_2, l22_6))
def diwanplay_Picks_Txns.lp22_post (l22_0 : Int) (l22_1 : List TTxn) (l22_3 : Int) (l22_5 : TTxn) (r_ : (List (ByteArray × Int) × TPicks)) : Wy → St → Prop := fun e τ => match r_ with
  | (y0, y1) => e = .exit 4 ∧ τ = ofL [Tm 0 (.ptr 1000 0), Tm 1 (iv l22_0), Tm 5 (sO 4 TTxn.en l22_1), Tm 6 (.data (.mp 1 (mpe kvS kvI y0))), Tm 7 (iv l22_3), Tm 8 (.ptr 8 0), Ob 8 (TTxn.ob_0011 l22_5), Ob 1000 [sS 1 e_u8 y1.l, iv y1.n]]
theorem diwanplay_Picks_Txns.lp22_ok (fu : Nat) (l22_0 : Int) (l22_1 : List TTxn) (l22_3 : Int) (l22_5 : TTxn) : ∀ (n_ : Nat) (l22_2 : List (ByteArray × Int)) (l22_4 : Int) (l22_6 : TPicks) (r_ : (List (ByteArray × Int) × TPicks)), diwanplay_Picks_Txns.lp22 fu l22_0 l22_1 l22_3 l22_5 n_ l22_2 l22_4 l22_6 = some r_ → WK Try.prog diwanplay_Picks_Txns.O (Ck Try.prog) (cB (cR (cL (cR (cR (cR (cB (cL (cR (cB (cB (cR (cL (cR (cR (cR bd34)))))))))))))))) [] (ofL [Tm 0 (.ptr 1000 0), Tm 1 (iv l22_0), Tm 5 (sO 4 TTxn.en l22_1), Tm 6 (.data (.mp 1 (mpe kvS kvI l22_2))), Tm 7 (iv l22_3), Tm 8 (.ptr 8 0), Tm 10 (iv l22_4), Ob 8 (TTxn.ob_0011 l22_5), Ob 1000 [sS 1 e_u8 l22_6.l, iv l22_6.n]]) (diwanplay_Picks_Txns.lp22_post l22_0 l22_1 l22_3 l22_5 r_) := by
 intro n_
 induction n_ with
 | zero => intro l22_2 l22_4 l22_6 r_ h; exact no_none h
 | succ n_ ih =>
  intro l22_2 l22_4 l22_6 r_ h
  refine kLp ?_
  refine kSq ?_
  rcases br_inv h with ⟨b23_1, h⟩ | ⟨b23_1, h⟩
  ·obtain ⟨⟨r23_2, r23_3⟩, h23_4, h⟩ := bd_inv h
   refine kRs 255 [Tm 67 (bv (decide (r23_2 > 0))), Ob 1000 [sS 1 e_u8 r23_3.l, iv r23_3.n]] [.s (.t 61) [iv (l22_5.Writes.length : Int)], .b true, .b true, .a ⟨iv r23_2, [[sS 1 e_u8 r23_3.l, iv r23_3.n]]⟩, .b true, .b true] (.c (c_len (e := TWrite.en) (l := l22_5.Writes)) (.r 2 b23_1 (.c (Asks.of (C := Meets Try.prog) (diwanplay_Picks_Num.meets 9 l22_6 _ _ h23_4)) (.r 2 b23_1 .n)))) ?_
   rcases br_inv h with ⟨b24_0, h⟩ | ⟨b24_0, h⟩
   ·refine kCt b24_0 ?_
    refine kSk ?_
    refine kCd (cR (cB (cB (cR (cL (cR (cR (cR (cB (cL (cR (cB (cB (cR (cL (cR (cR (cR bd34)))))))))))))))))) [.lp (cB (cR (cL (cR (cR (cR (cB (cL (cR (cB (cB (cR (cL (cR (cR (cR bd34))))))))))))))))] ?_
    refine kSq ?_
    refine kBk 5 ?_
    obtain ⟨x25_1, a25_2, e25_3, h⟩ := ix_inv h
    refine kRc 990 [Tm 6 (.data (.mp 1 (mpe kvS kvI (aput eqS l22_2 x25_1.Key (w64 (l22_3 + 1))))))] [.c (TWrite.en x25_1), .s (.t 6) [.data (.mp 1 (mpe kvS kvI (aput eqS l22_2 x25_1.Key (w64 (l22_3 + 1)))))]] (.c (c_ix (e := TWrite.en) a25_2 e25_3) (.c (c_el (e := TWrite.en) e25_3) (.c (congrArg (fun d : DV => [AV.data d]) (c_mput (f := kvS) (g := kvI) (eq := eqS) (fun _ _ => rfl) (kd := 1) (l := l22_2) (k := x25_1.Key) (v := (w64 (l22_3 + 1))))) .n))) (cR (cR (cB (cB (cR (cL (cR (cR (cR (cB (cL (cR (cB (cB (cR (cL (cR (cR (cR bd34))))))))))))))))))) [.lp (cB (cR (cL (cR (cR (cR (cB (cL (cR (cB (cB (cR (cL (cR (cR (cR bd34))))))))))))))))] ?_
    refine kRc 383 [Tm 10 (iv (w64 (l22_4 + 1)))] [] .n (cB (cR (cL (cR (cR (cR (cB (cL (cR (cB (cB (cR (cL (cR (cR (cR bd34)))))))))))))))) [] ?_
    exact kWk (ih (aput eqS l22_2 x25_1.Key (w64 (l22_3 + 1))) (w64 (l22_4 + 1)) r23_3 _ h)
   ·refine kCe b24_0 ?_
    cases some_inj h
    refine kWo ?_
    refine kXt 4 ?_
    exact kOut
  ·refine kRs 511 [Tm 67 (bv false)] (.s (.t 61) [iv (l22_5.Writes.length : Int)] :: (rp 4 (.b false) [])) (.c (c_len (e := TWrite.en) (l := l22_5.Writes)) (.r 4 b23_1 .n)) ?_
   refine kCe rF ?_
   cases some_inj h
   refine kWo ?_
   refine kXt 4 ?_
   exact kOut
def diwanplay_Picks_Txns.lp5 (fu : Nat) (l5_0 : Int) : Nat → (List TTxn) → (List (ByteArray × Int)) → Int → TPicks → Option (List TTxn × TPicks)
  | 0, _, _, _, _ => none
  | n_ + 1, l5_1, l5_2, l5_3, l5_4 =>
  br (decide (l5_3 < l5_0))
   (bd (diwanplay_Picks_Txn fu 1 l5_4) fun (r8_1, r8_2) =>
   bd (diwanplay_Picks_Num 2 r8_2) fun (r9_1, r9_2) =>
   bd (diwanplay_Picks_Txns.lp11 fu l5_0 l5_1 l5_2 l5_3 fu 0 (TTxn.mk r8_1.Session (w64 ((w64 (1 + (w64 (Int.tdiv l5_3 2)))) + r9_1)) r8_1.Reads r8_1.Writes) r9_2) fun (y20_0, y20_1) =>
   bd (diwanplay_Picks_Txns.lp22 fu l5_0 l5_1 l5_3 y20_0 fu l5_2 0 y20_1) fun (y27_0, y27_1) =>
   gd (decide (l5_1.length + ([y20_0] : List TTxn).length ≤ 4294967296)) <|
   diwanplay_Picks_Txns.lp5 fu l5_0 n_ (l5_1 ++ ([y20_0] : List TTxn)) y27_0 (w64 (l5_3 + 1)) y27_1)
   (some (l5_1, l5_4))
def diwanplay_Picks_Txns.lp5_post (l5_0 : Int) (r_ : (List TTxn × TPicks)) : Wy → St → Prop := fun e τ => match r_ with
  | (y0, y1) => e = .exit 0 ∧ τ = ofL [Tm 5 (sO 4 TTxn.en y0), Ob 1000 [sS 1 e_u8 y1.l, iv y1.n]]
theorem diwanplay_Picks_Txns.lp5_ok (fu : Nat) (l5_0 : Int) : ∀ (n_ : Nat) (l5_1 : List TTxn) (l5_2 : List (ByteArray × Int)) (l5_3 : Int) (l5_4 : TPicks) (r_ : (List TTxn × TPicks)), diwanplay_Picks_Txns.lp5 fu l5_0 n_ l5_1 l5_2 l5_3 l5_4 = some r_ → WK Try.prog diwanplay_Picks_Txns.O (Ck Try.prog) (cB (cR (cL (cR (cR (cR bd34)))))) [] (ofL [Tm 0 (.ptr 1000 0), Tm 1 (iv l5_0), Tm 5 (sO 4 TTxn.en l5_1), Tm 6 (.data (.mp 1 (mpe kvS kvI l5_2))), Tm 7 (iv l5_3), Ob 1000 [sS 1 e_u8 l5_4.l, iv l5_4.n]]) (diwanplay_Picks_Txns.lp5_post l5_0 r_) := by
 intro n_
 induction n_ with
 | zero => intro l5_1 l5_2 l5_3 l5_4 r_ h; exact no_none h
 | succ n_ ih =>
  intro l5_1 l5_2 l5_3 l5_4 r_ h
  refine kLp ?_
  refine kSq ?_
  refine kRs 63 [Tm 14 (bv (decide (l5_3 < l5_0)))] [] .n ?_
  rcases br_inv h with ⟨b7_0, h⟩ | ⟨b7_0, h⟩
  ·refine kCt b7_0 ?_
   refine kSk ?_
   refine kCd (cR (cB (cB (cR (cL (cR (cR (cR bd34)))))))) [.lp (cB (cR (cL (cR (cR (cR bd34))))))] ?_
   refine kSq ?_
   refine kBk 1 ?_
   obtain ⟨⟨r8_1, r8_2⟩, h8_3, h⟩ := bd_inv h
   refine kRs 62 [Tm 8 (.ptr 8 0), Ob 8 (TTxn.ob_0011 r8_1), Ob 1000 [sS 1 e_u8 r8_2.l, iv r8_2.n]] [.a ⟨.data (TTxn.ag_0011 r8_1), [[sS 1 e_u8 r8_2.l, iv r8_2.n]]⟩] (.c (Asks.of (C := Meets Try.prog) (diwanplay_Picks_Txn.meets fu 1 l5_4 _ _ h8_3)) .n) ?_
   obtain ⟨⟨r9_1, r9_2⟩, h9_3, h⟩ := bd_inv h
   refine kRs 249 [Ob 8 (TTxn.ob_0011 (TTxn.mk r8_1.Session (w64 ((w64 (1 + (w64 (Int.tdiv l5_3 2)))) + r9_1)) r8_1.Reads r8_1.Writes)), Ob 1000 [sS 1 e_u8 r9_2.l, iv r9_2.n]] [.a ⟨iv r9_1, [[sS 1 e_u8 r9_2.l, iv r9_2.n]]⟩] (.c rT (.c (Asks.of (C := Meets Try.prog) (diwanplay_Picks_Num.meets 2 r8_2 _ _ h9_3)) .n)) ?_
   refine kSq ?_
   refine kRs 255 [Tm 9 (iv 0)] [] .n ?_
   refine kBk 2 ?_
   obtain ⟨o20, ho20, h⟩ := bd_inv h
   refine kUs (diwanplay_Picks_Txns.lp11_ok fu l5_0 l5_1 l5_2 l5_3 _ 0 (TTxn.mk r8_1.Session (w64 ((w64 (1 + (w64 (Int.tdiv l5_3 2)))) + r9_1)) r8_1.Reads r8_1.Writes) r9_2 _ ho20) ?_
   intro e_ τ_ hp_
   obtain ⟨y20_0, y20_1⟩ := o20
   obtain ⟨rfl, rfl⟩ := hp_
   refine kCd (cR (cR (cR (cB (cL (cR (cB (cB (cR (cL (cR (cR (cR bd34))))))))))))) [.blk 1, .seq (cR (cR (cB (cB (cR (cL (cR (cR (cR bd34))))))))), .lp (cB (cR (cL (cR (cR (cR bd34))))))] ?_
   refine kSq ?_
   refine kRs 255 [Tm 10 (iv 0)] [] .n ?_
   refine kBk 4 ?_
   obtain ⟨o27, ho27, h⟩ := bd_inv h
   refine kUs (diwanplay_Picks_Txns.lp22_ok fu l5_0 l5_1 l5_3 y20_0 _ l5_2 0 y20_1 _ ho27) ?_
   intro e_ τ_ hp_
   obtain ⟨y27_0, y27_1⟩ := o27
   obtain ⟨rfl, rfl⟩ := hp_
   refine kCd (cR (cR (cR (cR (cB (cL (cR (cB (cB (cR (cL (cR (cR (cR bd34)))))))))))))) [.blk 1, .seq (cR (cR (cB (cB (cR (cL (cR (cR (cR bd34))))))))), .lp (cB (cR (cL (cR (cR (cR bd34))))))] ?_
   obtain ⟨c28_1, h⟩ := gd_inv h
   refine kRc 155 [Tm 5 (sO 4 TTxn.en (l5_1 ++ ([y20_0] : List TTxn)))] [.s (.t 82) [sO 4 TTxn.en (l5_1 ++ ([y20_0] : List TTxn))]] (.c (c_al (e := TTxn.en) (f := TTxn.en) c28_1) (.c (congrArg (fun d : DV => [AV.data d]) (c_app (e := TTxn.en) (s := 4) (l := l5_1) (m := ([y20_0] : List TTxn)))) .n)) (cR (cR (cB (cB (cR (cL (cR (cR (cR bd34))))))))) [.lp (cB (cR (cL (cR (cR (cR bd34))))))] ?_
   refine kRc 47 [Tm 7 (iv (w64 (l5_3 + 1)))] [] .n (cB (cR (cL (cR (cR (cR bd34)))))) [] ?_
   exact kWk (ih (l5_1 ++ ([y20_0] : List TTxn)) y27_0 (w64 (l5_3 + 1)) y27_1 _ h)
  ·refine kCe b7_0 ?_
   cases some_inj h
   refine kWo ?_
   refine kXt 0 ?_
   exact kOut
def diwanplay_Picks_Txns (fu : Nat) (n_v : Int) (o0_v : TPicks) : Option (List TTxn × TPicks) :=
 bd (diwanplay_Picks_Txns.lp5 fu n_v fu [] [] 0 o0_v) fun (y30_0, y30_1) =>
 some (y30_0, y30_1)
theorem diwanplay_Picks_Txns.meets (fu : Nat) (n_v : Int) (o0_v : TPicks) (z0 : List TTxn) (z1 : TPicks) (h : diwanplay_Picks_Txns fu n_v o0_v = some (z0, z1)) : Meets Try.prog ⟨34, [.ptr 1000 0, iv n_v], [[sS 1 e_u8 o0_v.l, iv o0_v.n]]⟩ ⟨sO 4 TTxn.en z0, [[sS 1 e_u8 z1.l, iv z1.n]]⟩ := by
 refine kMt hmix diwanplay_Picks_Txns.O Try.f34 bd34 7 ?_
 unfold diwanplay_Picks_Txns at h
 refine kRs 7 [] [] .n ?_
 refine kRs 7 [Tm 5 (.data (.slc true (some true) 4 (List.map TTxn.en [])))] [] .n ?_
 refine kRs 15 [Tm 6 (.data (.mp 1 (mpe kvS kvI [])))] [] .n ?_
 refine kSq ?_
 refine kRs 31 [Tm 7 (iv 0)] [] .n ?_
 refine kBk 0 ?_
 obtain ⟨o30, ho30, h⟩ := bd_inv h
 refine kUs (diwanplay_Picks_Txns.lp5_ok fu n_v _ [] [] 0 o0_v _ ho30) ?_
 intro e_ τ_ hp_
 obtain ⟨y30_0, y30_1⟩ := o30
 obtain ⟨rfl, rfl⟩ := hp_
 refine kCd (cR (cR (cR (cR bd34)))) [] ?_
 refine kRs 2 [Tm 4 (sO 4 TTxn.en y30_0)] [] .n ?_
 refine kRt ?_
 have h_0 := some_inj h
 obtain ⟨g_1, h_1⟩ := Prod.mk.inj h_0
 subst g_1
 subst h_1
 exact kFr
def bd57 : Code := (Try.f57.body).getD .skip
def diwanref13_Turn.O : Nat → Nat := fun t => bif ([8, 9, 10, 11, 12, 56, 59, 67, 68, 72] : List Nat).any (Nat.beq t) then 1 else 0
def diwanref13_Turn.lp4 (fu : Nat) (l4_0 : Int) (l4_1 : Int) (l4_2 : Int) (l4_3 : List TSeat) : Nat → Int → Option Int
  | 0, _ => none
  | n_ + 1, l4_4 =>
  br (decide (l4_4 < (l4_3.length : Int)))
   (ix l4_3 l4_4 fun x5_2 =>
   br (decide (x5_2.Session < l4_0))
    (diwanref13_Turn.lp4 fu l4_0 l4_1 l4_2 l4_3 n_ (w64 (l4_4 + 1)))
    (some l4_4))
   (some l4_4)
def diwanref13_Turn.lp4_post (l4_0 : Int) (l4_1 : Int) (l4_2 : Int) (l4_3 : List TSeat) (r_ : Int) : Wy → St → Prop := fun e τ => match r_ with
  | y0 => e = .exit 0 ∧ τ = ofL [Tm 1 (iv l4_0), Tm 2 (iv l4_1), Tm 3 (iv l4_2), Tm 10 (sO 3 TSeat.en l4_3), Tm 11 (iv y0)]
theorem diwanref13_Turn.lp4_ok (fu : Nat) (l4_0 : Int) (l4_1 : Int) (l4_2 : Int) (l4_3 : List TSeat) : ∀ (n_ : Nat) (l4_4 : Int) (r_ : Int), diwanref13_Turn.lp4 fu l4_0 l4_1 l4_2 l4_3 n_ l4_4 = some r_ → WK Try.prog diwanref13_Turn.O (Ck Try.prog) (cB (cL (cR (cR (cR bd57))))) [] (ofL [Tm 1 (iv l4_0), Tm 2 (iv l4_1), Tm 3 (iv l4_2), Tm 10 (sO 3 TSeat.en l4_3), Tm 11 (iv l4_4)]) (diwanref13_Turn.lp4_post l4_0 l4_1 l4_2 l4_3 r_) := by
 intro n_
 induction n_ with
 | zero => intro l4_4 r_ h; exact no_none h
 | succ n_ ih =>
  intro l4_4 r_ h
  refine kLp ?_
  refine kSq ?_
  rcases br_inv h with ⟨b5_1, h⟩ | ⟨b5_1, h⟩
  ·obtain ⟨x5_2, a5_3, e5_4, h⟩ := ix_inv h
   refine kRs 31 [Tm 27 (bv (decide (x5_2.Session < l4_0)))] (.s (.t 17) [iv (l4_3.length : Int)] :: (rp 5 (.b true) [.c (TSeat.en x5_2), .b true, .b true, .b true])) (.c (c_len (e := TSeat.en) (l := l4_3)) (.r 3 b5_1 (.c (c_ix (e := TSeat.en) a5_3 e5_4) (.r 2 b5_1 (.c (c_el (e := TSeat.en) e5_4) (.r 3 b5_1 .n)))))) ?_
   rcases br_inv h with ⟨b6_0, h⟩ | ⟨b6_0, h⟩
   ·refine kCt b6_0 ?_
    refine kSk ?_
    refine kCd (cR (cB (cB (cL (cR (cR (cR bd57))))))) [.lp (cB (cL (cR (cR (cR bd57)))))] ?_
    refine kBk 1 ?_
    refine kRc 30 [Tm 11 (iv (w64 (l4_4 + 1)))] [] .n (cB (cL (cR (cR (cR bd57))))) [] ?_
    exact kWk (ih (w64 (l4_4 + 1)) _ h)
   ·refine kCe b6_0 ?_
    cases some_inj h
    refine kWo ?_
    refine kXt 0 ?_
    exact kOut
  ·refine kRs 31 [Tm 27 (bv false)] (.s (.t 17) [iv (l4_3.length : Int)] :: (rp 8 (.b false) [])) (.c (c_len (e := TSeat.en) (l := l4_3)) (.r 8 b5_1 .n)) ?_
   refine kCe rF ?_
   cases some_inj h
   refine kWo ?_
   refine kXt 0 ?_
   exact kOut
def diwanref13_Turn (fu : Nat) (l : List TSeat) (session : Int) (seq : Int) (pos : Int) : Option (List TSeat × Bool) :=
 gd (decide (([] : List TSeat).length + l.length ≤ 4294967296)) <|
 bd (diwanref13_Turn.lp4 fu session seq pos l fu 0) fun y8_0 =>
 jn (
  gd (decide ((0 : Int) ≤ y8_0 ∧ y8_0 ≤ (l.length : Int))) <|
  gd (decide (([] : List TSeat).length + (List.take y8_0.toNat l).length ≤ 4294967296)) <|
  gd (decide ((List.take y8_0.toNat l).length + ([(TSeat.mk session seq pos)] : List TSeat).length ≤ 4294967296)) <|
  gd (decide ((0 : Int) ≤ y8_0 ∧ y8_0 ≤ (l.length : Int))) <|
  gd (decide (((List.take y8_0.toNat l) ++ ([(TSeat.mk session seq pos)] : List TSeat)).length + (List.drop y8_0.toNat l).length ≤ 4294967296)) <|
  some ((((List.take y8_0.toNat l) ++ ([(TSeat.mk session seq pos)] : List TSeat)) ++ (List.drop y8_0.toNat l)), true)) fun k16 =>
 br (decide (y8_0 < (l.length : Int)))
  (ix l y8_0 fun x9_2 =>
  br (x9_2.Session == session)
   (ix l y8_0 fun x11_1 =>
   br (decide (seq ≤ x11_1.Seq))
    (some (l, false))
    (ix l y8_0 fun x14_1 =>
    some ((l.set y8_0.toNat (TSeat.mk session seq pos)), true)))
   (k16))
  (k16)
theorem diwanref13_Turn.meets (fu : Nat) (l : List TSeat) (session : Int) (seq : Int) (pos : Int) (z0 : List TSeat) (z1 : Bool) (h : diwanref13_Turn fu l session seq pos = some (z0, z1)) : Meets Try.prog ⟨57, [sS 3 TSeat.en l, iv session, iv seq, iv pos], []⟩ ⟨.tup [sS 3 TSeat.en z0, bv z1], []⟩ := by
 refine kMt hmix diwanref13_Turn.O Try.f57 bd57 15 ?_
 unfold diwanref13_Turn at h
 refine kRs 15 [] [] .n ?_
 obtain ⟨c2_1, h⟩ := gd_inv h
 refine kRs 14 [Tm 10 (sO 3 TSeat.en l)] [] (.c (c_al (e := TSeat.en) (f := TSeat.en) c2_1) .n) ?_
 refine kRs 15 [Tm 11 (iv 0)] [] .n ?_
 refine kSq ?_
 refine kBk 0 ?_
 obtain ⟨o8, ho8, h⟩ := bd_inv h
 refine kUs (diwanref13_Turn.lp4_ok fu session seq pos l _ 0 _ ho8) ?_
 intro e_ τ_ hp_
 obtain ⟨y8_0, rfl⟩ : ∃ y, y = o8 := ⟨_, rfl⟩
 obtain ⟨rfl, rfl⟩ := hp_
 refine kCd (cR (cR (cR (cR bd57)))) [] ?_
 obtain ⟨k16, hk16, h⟩ := jn_inv h
 have Jk16 : k16 = some (z0, z1) → WK Try.prog diwanref13_Turn.O (Ck Try.prog) (cR (cR (cR (cR (cR bd57))))) [] (ofL [Tm 1 (iv session), Tm 2 (iv seq), Tm 3 (iv pos), Tm 10 (sO 3 TSeat.en l), Tm 11 (iv y8_0)]) (Fin Try.prog diwanref13_Turn.O Try.f57 0 ⟨.tup [sS 3 TSeat.en z0, bv z1], []⟩) := by
  intro h
  rw [hk16] at h
  refine WK.share (x := .tmp 10) (l' := [Tm 1 (iv session), Tm 2 (iv seq), Tm 3 (iv pos), Tm 10 (sS 3 TSeat.en l), Tm 11 (iv y8_0)]) (by kernel_rfl) ?_
  obtain ⟨c17_1, h⟩ := gd_inv h
  obtain ⟨c17_2, h⟩ := gd_inv h
  obtain ⟨c17_3, h⟩ := gd_inv h
  obtain ⟨c17_4, h⟩ := gd_inv h
  obtain ⟨c17_5, h⟩ := gd_inv h
  refine kRs 0 [Tm 8 (sO 3 TSeat.en (((List.take y8_0.toNat l) ++ ([(TSeat.mk session seq pos)] : List TSeat)) ++ (List.drop y8_0.toNat l))), Tm 9 (bv true)] [.s (.t 62) [sS 3 TSeat.en (List.take y8_0.toNat l)], .s (.t 69) [sO 3 TSeat.en ((List.take y8_0.toNat l) ++ ([(TSeat.mk session seq pos)] : List TSeat))], .s (.t 72) [sS 3 TSeat.en (List.drop y8_0.toNat l)], .s (.t 73) [sO 3 TSeat.en (((List.take y8_0.toNat l) ++ ([(TSeat.mk session seq pos)] : List TSeat)) ++ (List.drop y8_0.toNat l))]] (.c (c_cbH (e := TSeat.en) c17_1) (.c (congrArg (fun d : DV => [AV.data d]) (c_cutH (own := false) (nl := none) (s := 3) (e := TSeat.en) (l := l) (h := y8_0.toNat))) (.c (c_al (e := TSeat.en) (f := TSeat.en) c17_2) (.c (c_al (e := TSeat.en) (f := TSeat.en) c17_3) (.c (congrArg (fun d : DV => [AV.data d]) (c_app (e := TSeat.en) (s := 3) (l := (List.take y8_0.toNat l)) (m := ([(TSeat.mk session seq pos)] : List TSeat)))) (.c (c_cbL (e := TSeat.en) c17_4) (.c (congrArg (fun d : DV => [AV.data d]) (c_cutL (own := false) (nl := none) (s := 3) (e := TSeat.en) (l := l) (lo := y8_0.toNat))) (.c (c_al (e := TSeat.en) (f := TSeat.en) c17_5) (.c (congrArg (fun d : DV => [AV.data d]) (c_app (e := TSeat.en) (s := 3) (l := ((List.take y8_0.toNat l) ++ ([(TSeat.mk session seq pos)] : List TSeat))) (m := (List.drop y8_0.toNat l)))) (.c rT .n)))))))))) ?_
  refine kRt ?_
  have h_0 := some_inj h
  obtain ⟨g_1, h_1⟩ := Prod.mk.inj h_0
  subst g_1
  subst h_1
  exact kFr
 clear hk16
 refine kSq ?_
 rcases br_inv h with ⟨b9_1, h⟩ | ⟨b9_1, h⟩
 ·obtain ⟨x9_2, a9_3, e9_4, h⟩ := ix_inv h
  refine kRs 31 [Tm 42 (bv (x9_2.Session == session))] (.s (.t 32) [iv (l.length : Int)] :: (rp 5 (.b true) [.c (TSeat.en x9_2), .b true, .b true, .b true])) (.c (c_len (e := TSeat.en) (l := l)) (.r 3 b9_1 (.c (c_ix (e := TSeat.en) a9_3 e9_4) (.r 2 b9_1 (.c (c_el (e := TSeat.en) e9_4) (.r 3 b9_1 .n)))))) ?_
  rcases br_inv h with ⟨b10_0, h⟩ | ⟨b10_0, h⟩
  ·refine kCt b10_0 ?_
   refine kSq ?_
   obtain ⟨x11_1, a11_2, e11_3, h⟩ := ix_inv h
   refine kRs 62 [Tm 49 (bv (decide (seq ≤ x11_1.Seq)))] [.c (TSeat.en x11_1)] (.c (c_ix (e := TSeat.en) a11_2 e11_3) (.c (c_el (e := TSeat.en) e11_3) .n)) ?_
   rcases br_inv h with ⟨b12_0, h⟩ | ⟨b12_0, h⟩
   ·refine kCt b12_0 ?_
    refine kRs 0 [Tm 8 (sO 3 TSeat.en l), Tm 9 (bv false)] [] .n ?_
    refine kRt ?_
    have h_0 := some_inj h
    obtain ⟨g_1, h_1⟩ := Prod.mk.inj h_0
    subst g_1
    subst h_1
    exact kFr
   ·refine kCe b12_0 ?_
    refine kSk ?_
    refine kCd (cR (cT (cR (cL (cR (cR (cR (cR bd57)))))))) [.seq (cR (cR (cR (cR (cR bd57)))))] ?_
    obtain ⟨x14_1, a14_2, e14_3, h⟩ := ix_inv h
    refine kRs 0 [Tm 10 (sO 3 TSeat.en (l.set y8_0.toNat (TSeat.mk session seq pos)))] [.c (TSeat.en x14_1), .s (.t 10) [sO 3 TSeat.en (l.set y8_0.toNat (TSeat.mk session seq pos))]] (.c (c_ix (e := TSeat.en) a14_2 e14_3) (.c (c_el (e := TSeat.en) e14_3) (.c (congrArg (fun d : DV => [AV.data d]) (c_set (e := TSeat.en) (s := 3) (nl := none) (l := l) (i := y8_0.toNat) (x := (TSeat.mk session seq pos)))) .n))) ?_
    refine kRs 0 [Tm 8 (sO 3 TSeat.en (l.set y8_0.toNat (TSeat.mk session seq pos))), Tm 9 (bv true)] [] .n ?_
    refine kRt ?_
    have h_0 := some_inj h
    obtain ⟨g_1, h_1⟩ := Prod.mk.inj h_0
    subst g_1
    subst h_1
    exact kFr
  ·refine kCe b10_0 ?_
   refine kSk ?_
   refine kCd (cR (cR (cR (cR (cR bd57))))) [] ?_
   exact kWk (Jk16 h)
 ·refine kRs 31 [Tm 42 (bv false)] (.s (.t 32) [iv (l.length : Int)] :: (rp 8 (.b false) [])) (.c (c_len (e := TSeat.en) (l := l)) (.r 8 b9_1 .n)) ?_
  refine kCe rF ?_
  refine kSk ?_
  refine kCd (cR (cR (cR (cR (cR bd57))))) [] ?_
  exact kWk (Jk16 h)
def bd79 : Code := (Try.f79.body).getD .skip
def diwanref13_chain.O : Nat → Nat := fun t => bif ([2, 5] : List Nat).any (Nat.beq t) then 1 else bif ([4] : List Nat).any (Nat.beq t) then 2 else 0
def diwanref13_chain.lp3 (fu : Nat) (l3_0 : ByteArray) (l3_2 : TStore) : Nat → Int → Option (Unit ⊕ (List TVersion))
  | 0, _ => none
  | n_ + 1, l3_1 =>
  br (decide (l3_1 < (l3_2.Chains.length : Int)))
   (ix l3_2.Chains l3_1 fun x6_1 =>
   br (x6_1.Key.toList == l3_0.toList)
    (ix l3_2.Chains l3_1 fun x8_1 =>
    some (.inr x8_1.L))
    (diwanref13_chain.lp3 fu l3_0 l3_2 n_ (w64 (l3_1 + 1))))
   (some (.inl ()))
def diwanref13_chain.lp3_post (l3_0 : ByteArray) (l3_2 : TStore) (r_ : (Unit ⊕ (List TVersion))) : Wy → St → Prop := fun e τ => match r_ with
  | .inl _ => e = .exit 0 ∧ τ = ofL []
  | .inr y0 => e = .ret ∧ τ = ofL [Tm 4 (sS 3 TVersion.en y0)]
theorem diwanref13_chain.lp3_ok (fu : Nat) (l3_0 : ByteArray) (l3_2 : TStore) : ∀ (n_ : Nat) (l3_1 : Int) (r_ : (Unit ⊕ (List TVersion))), diwanref13_chain.lp3 fu l3_0 l3_2 n_ l3_1 = some r_ → WK Try.prog diwanref13_chain.O (Ck Try.prog) (cB (cR (cL (cR bd79)))) [] (ofL [Tm 1 (sv l3_0), Tm 2 (.ptr 2 0), Tm 5 (iv l3_1), Ob 2 [sS 2 TChain.en l3_2.Chains, iv l3_2.Mark]]) (diwanref13_chain.lp3_post l3_0 l3_2 r_) := by
 intro n_
 induction n_ with
 | zero => intro l3_1 r_ h; exact no_none h
 | succ n_ ih =>
  intro l3_1 r_ h
  refine kLp ?_
  refine kSq ?_
  refine kRs 15 [Tm 10 (bv (decide (l3_1 < (l3_2.Chains.length : Int))))] [.s (.t 9) [iv (l3_2.Chains.length : Int)]] (.c (c_len (e := TChain.en) (l := l3_2.Chains)) .n) ?_
  rcases br_inv h with ⟨b5_0, h⟩ | ⟨b5_0, h⟩
  ·refine kCt b5_0 ?_
   refine kSk ?_
   refine kCd (cR (cB (cB (cR (cL (cR bd79)))))) [.lp (cB (cR (cL (cR bd79))))] ?_
   refine kSq ?_
   refine kBk 1 ?_
   obtain ⟨x6_1, a6_2, e6_3, h⟩ := ix_inv h
   refine kRs 30 [Tm 20 (bv (x6_1.Key.toList == l3_0.toList))] [.c (TChain.en x6_1)] (.c (c_ix (e := TChain.en) a6_2 e6_3) (.c (c_el (e := TChain.en) e6_3) .n)) ?_
   rcases br_inv h with ⟨b7_0, h⟩ | ⟨b7_0, h⟩
   ·refine kCt b7_0 ?_
    obtain ⟨x8_1, a8_2, e8_3, h⟩ := ix_inv h
    refine kRs 0 [Tm 4 (sS 3 TVersion.en x8_1.L)] [.c (TChain.en x8_1)] (.c (c_ix (e := TChain.en) a8_2 e8_3) (.c (c_el (e := TChain.en) e8_3) .n)) ?_
    cases some_inj h
    refine kWo ?_
    refine kRt ?_
    exact kOut
   ·refine kCe b7_0 ?_
    refine kSk ?_
    refine kCd (cR (cR (cB (cB (cR (cL (cR bd79))))))) [.lp (cB (cR (cL (cR bd79))))] ?_
    refine kRc 22 [Tm 5 (iv (w64 (l3_1 + 1)))] [] .n (cB (cR (cL (cR bd79)))) [] ?_
    exact kWk (ih (w64 (l3_1 + 1)) _ h)
  ·refine kCe b5_0 ?_
   cases some_inj h
   refine kWo ?_
   refine kXt 0 ?_
   exact kOut
def diwanref13_chain (fu : Nat) (s : TStore) (key : ByteArray) : Option (List TVersion) :=
 bd (diwanref13_chain.lp3 fu key s fu 0) fun o_ => (match o_ with
 | .inl _ =>
  some []
 | .inr y10_0 =>
  some y10_0)
theorem diwanref13_chain.meets (fu : Nat) (s : TStore) (key : ByteArray) (z0 : List TVersion) (h : diwanref13_chain fu s key = some z0) : Meets Try.prog ⟨79, [.data (.agg [.slc false none 2 (List.map TChain.en s.Chains), .val (.int .i64 s.Mark)]), sv key], []⟩ ⟨sS 3 TVersion.en z0, []⟩ := by
 refine kMt hmix diwanref13_chain.O Try.f79 bd79 3 ?_
 unfold diwanref13_chain at h
 refine kRs 2 [Tm 2 (.ptr 2 0), Ob 2 [sS 2 TChain.en s.Chains, iv s.Mark]] [] .n ?_
 refine kSq ?_
 refine kRs 7 [Tm 5 (iv 0)] [] .n ?_
 refine kBk 0 ?_
 obtain ⟨o10, ho10, h⟩ := bd_inv h
 refine kUs (diwanref13_chain.lp3_ok fu key s _ 0 _ ho10) ?_
 intro e_ τ_ hp_
 rcases o10 with o10 | o10
 ·obtain ⟨⟩ := o10
  obtain ⟨rfl, rfl⟩ := hp_
  refine kCd (cR (cR bd79)) [] ?_
  refine kRs 0 [Tm 4 (.data (.slc false (some true) 3 (List.map TVersion.en [])))] [] .n ?_
  refine kWd 0 [Tm 4 (.data (.slc false none 3 (List.map TVersion.en [])))] ?_
  refine kRt ?_
  have h_ := some_inj h
  subst h_
  exact kFr
 ·obtain ⟨y10_0, rfl⟩ : ∃ y, y = o10 := ⟨_, rfl⟩
  obtain ⟨rfl, rfl⟩ := hp_
  have h_ := some_inj h
  subst h_
  exact kFr
def bd74 : Code := (Try.f74.body).getD .skip
def diwanref13_Last.O : Nat → Nat := fun t => bif ([2, 4] : List Nat).any (Nat.beq t) then 1 else 0
def diwanref13_Last (fu : Nat) (s : TStore) (key : ByteArray) : Option Int :=
 bd (diwanref13_chain fu s key) fun r2_1 =>
 bd (diwanref13_LastOf r2_1) fun r2_3 =>
 some r2_3
theorem diwanref13_Last.meets (fu : Nat) (s : TStore) (key : ByteArray) (z0 : Int) (h : diwanref13_Last fu s key = some z0) : Meets Try.prog ⟨74, [.data (.agg [.slc false none 2 (List.map TChain.en s.Chains), .val (.int .i64 s.Mark)]), sv key], []⟩ ⟨iv z0, []⟩ := by
 refine kMt hmix diwanref13_Last.O Try.f74 bd74 3 ?_
 unfold diwanref13_Last at h
 refine kRs 2 [Tm 2 (.ptr 2 0), Ob 2 [sS 2 TChain.en s.Chains, iv s.Mark]] [] .n ?_
 obtain ⟨r2_1, h2_2, h⟩ := bd_inv h
 obtain ⟨r2_3, h2_4, h⟩ := bd_inv h
 refine kRs 0 [Tm 4 (iv r2_3)] [.a ⟨sS 3 TVersion.en r2_1, []⟩, .a ⟨iv r2_3, []⟩] (.c (Asks.of (C := Meets Try.prog) (diwanref13_chain.meets fu s key _ h2_2)) (.c (Asks.of (C := Meets Try.prog) (diwanref13_LastOf.meets r2_1 _ h2_4)) .n)) ?_
 refine kRt ?_
 have h_ := some_inj h
 subst h_
 exact kFr
def bd58 : Code := (Try.f58.body).getD .skip
def diwanref13_Bit.O : Nat → Nat := fun t => bif ([2, 3, 4, 5, 6, 7, 8] : List Nat).any (Nat.beq t) then 1 else 0
def diwanref13_Bit.lp8 (fu : Nat) (l8_2 : TShard) (l8_3 : TTxn) : Nat → Int → Int → Option Int
  | 0, _, _ => none
  | n_ + 1, l8_0, l8_1 =>
  br (decide (l8_1 < (l8_3.Reads.length : Int)))
   (ix l8_3.Reads l8_1 fun x11_1 =>
   bd (diwanref1_ShardOf fu x11_1.Key l8_2.Shards) fun r11_4 =>
   br (r11_4 != l8_2.ID)
    (diwanref13_Bit.lp8 fu l8_2 l8_3 n_ l8_0 (w64 (l8_1 + 1)))
    (jn (fun (j17_0 : Int) =>
     ix l8_3.Reads l8_1 fun x18_1 =>
     bd (diwanref13_Last fu l8_2.S x18_1.Key) fun r18_4 =>
     ix l8_3.Reads l8_1 fun x18_6 =>
     br (r18_4 != x18_6.Version)
      (diwanref13_Bit.lp8 fu l8_2 l8_3 n_ 2 (w64 (l8_1 + 1)))
      (diwanref13_Bit.lp8 fu l8_2 l8_3 n_ j17_0 (w64 (l8_1 + 1)))) fun k17 =>
    br (l8_0 == 0)
     (k17 1)
     (k17 l8_0)))
   (some l8_0)
def diwanref13_Bit.lp8_post (l8_2 : TShard) (l8_3 : TTxn) (r_ : Int) : Wy → St → Prop := fun e τ => match r_ with
  | y0 => e = .exit 0 ∧ τ = ofL [Tm 7 (iv y0)]
theorem diwanref13_Bit.lp8_ok (fu : Nat) (l8_2 : TShard) (l8_3 : TTxn) : ∀ (n_ : Nat) (l8_0 : Int) (l8_1 : Int) (r_ : Int), diwanref13_Bit.lp8 fu l8_2 l8_3 n_ l8_0 l8_1 = some r_ → WK Try.prog diwanref13_Bit.O (Ck Try.prog) (cB (cR (cL (cR (cR (cR (cR bd58))))))) [] (ofL [Tm 2 (.ptr 2 0), Tm 3 (.ptr 3 0), Tm 7 (iv l8_0), Tm 8 (iv l8_1), Ob 2 (TShard.ob l8_2), Ob 3 (TTxn.ob l8_3)]) (diwanref13_Bit.lp8_post l8_2 l8_3 r_) := by
 intro n_
 induction n_ with
 | zero => intro l8_0 l8_1 r_ h; exact no_none h
 | succ n_ ih =>
  intro l8_0 l8_1 r_ h
  refine kLp ?_
  refine kSq ?_
  refine kRs 63 [Tm 28 (bv (decide (l8_1 < (l8_3.Reads.length : Int))))] [.s (.t 27) [iv (l8_3.Reads.length : Int)]] (.c (c_len (e := TRead.en) (l := l8_3.Reads)) .n) ?_
  rcases br_inv h with ⟨b10_0, h⟩ | ⟨b10_0, h⟩
  ·refine kCt b10_0 ?_
   refine kSk ?_
   refine kCd (cR (cB (cB (cR (cL (cR (cR (cR (cR bd58))))))))) [.lp (cB (cR (cL (cR (cR (cR (cR bd58)))))))] ?_
   refine kSq ?_
   refine kBk 1 ?_
   refine kSq ?_
   obtain ⟨x11_1, a11_2, e11_3, h⟩ := ix_inv h
   obtain ⟨r11_4, h11_5, h⟩ := bd_inv h
   refine kRs 126 [Tm 42 (bv (r11_4 != l8_2.ID))] [.c (TRead.en x11_1), .a ⟨iv r11_4, []⟩] (.c (c_ix (e := TRead.en) a11_2 e11_3) (.c (c_el (e := TRead.en) e11_3) (.c (Asks.of (C := Meets Try.prog) (diwanref1_ShardOf.meets fu x11_1.Key l8_2.Shards _ h11_5)) (.c rT .n)))) ?_
   rcases br_inv h with ⟨b12_0, h⟩ | ⟨b12_0, h⟩
   ·refine kCt b12_0 ?_
    refine kXt 1 ?_
    refine kCd (cR (cR (cB (cB (cR (cL (cR (cR (cR (cR bd58)))))))))) [.lp (cB (cR (cL (cR (cR (cR (cR bd58)))))))] ?_
    refine kRc 110 [Tm 8 (iv (w64 (l8_1 + 1)))] [] .n (cB (cR (cL (cR (cR (cR (cR bd58))))))) [] ?_
    exact kWk (ih l8_0 (w64 (l8_1 + 1)) _ h)
   ·refine kCe b12_0 ?_
    refine kSk ?_
    refine kCd (cR (cB (cL (cR (cB (cB (cR (cL (cR (cR (cR (cR bd58)))))))))))) [.blk 1, .seq (cR (cR (cB (cB (cR (cL (cR (cR (cR (cR bd58)))))))))), .lp (cB (cR (cL (cR (cR (cR (cR bd58)))))))] ?_
    obtain ⟨k17, hk17, h⟩ := jn_inv h
    have Jk17 : ∀ (j17_0 : Int), k17 j17_0 = some r_ → WK Try.prog diwanref13_Bit.O (Ck Try.prog) (cR (cR (cB (cL (cR (cB (cB (cR (cL (cR (cR (cR (cR bd58))))))))))))) [.blk 1, .seq (cR (cR (cB (cB (cR (cL (cR (cR (cR (cR bd58)))))))))), .lp (cB (cR (cL (cR (cR (cR (cR bd58)))))))] (ofL [Tm 2 (.ptr 2 0), Tm 3 (.ptr 3 0), Tm 7 (iv j17_0), Tm 8 (iv l8_1), Ob 2 (TShard.ob l8_2), Ob 3 (TTxn.ob l8_3)]) (diwanref13_Bit.lp8_post l8_2 l8_3 r_) := by
     intro j17_0 h
     rw [hk17] at h
     obtain ⟨x18_1, a18_2, e18_3, h⟩ := ix_inv h
     obtain ⟨r18_4, h18_5, h⟩ := bd_inv h
     obtain ⟨x18_6, a18_7, e18_8, h⟩ := ix_inv h
     refine kRs 63 [Tm 60 (bv (r18_4 != x18_6.Version))] [.c (TRead.en x18_1), .a ⟨iv r18_4, []⟩, .c (TRead.en x18_6)] (.c (c_ix (e := TRead.en) a18_2 e18_3) (.c (c_el (e := TRead.en) e18_3) (.c (Asks.of (C := Meets Try.prog) (diwanref13_Last.meets fu l8_2.S x18_1.Key _ h18_5)) (.c (c_ix (e := TRead.en) a18_7 e18_8) (.c (c_el (e := TRead.en) e18_8) (.c rT .n)))))) ?_
     rcases br_inv h with ⟨b19_0, h⟩ | ⟨b19_0, h⟩
     ·refine kCt b19_0 ?_
      refine kRc 118 [Tm 7 (iv 2)] [] .n (cR (cR (cB (cB (cR (cL (cR (cR (cR (cR bd58)))))))))) [.lp (cB (cR (cL (cR (cR (cR (cR bd58)))))))] ?_
      refine kRc 55 [Tm 8 (iv (w64 (l8_1 + 1)))] [] .n (cB (cR (cL (cR (cR (cR (cR bd58))))))) [] ?_
      exact kWk (ih 2 (w64 (l8_1 + 1)) _ h)
     ·refine kCe b19_0 ?_
      refine kSk ?_
      refine kCd (cR (cR (cB (cB (cR (cL (cR (cR (cR (cR bd58)))))))))) [.lp (cB (cR (cL (cR (cR (cR (cR bd58)))))))] ?_
      refine kRc 110 [Tm 8 (iv (w64 (l8_1 + 1)))] [] .n (cB (cR (cL (cR (cR (cR (cR bd58))))))) [] ?_
      exact kWk (ih j17_0 (w64 (l8_1 + 1)) _ h)
    clear hk17
    refine kSq ?_
    refine kRs 126 [Tm 44 (bv (l8_0 == 0))] [] .n ?_
    rcases br_inv h with ⟨b15_0, h⟩ | ⟨b15_0, h⟩
    ·refine kCt b15_0 ?_
     refine kRc 118 [Tm 7 (iv 1)] [] .n (cR (cR (cB (cL (cR (cB (cB (cR (cL (cR (cR (cR (cR bd58))))))))))))) [.blk 1, .seq (cR (cR (cB (cB (cR (cL (cR (cR (cR (cR bd58)))))))))), .lp (cB (cR (cL (cR (cR (cR (cR bd58)))))))] ?_
     exact kWk (Jk17 1 h)
    ·refine kCe b15_0 ?_
     refine kSk ?_
     refine kCd (cR (cR (cB (cL (cR (cB (cB (cR (cL (cR (cR (cR (cR bd58))))))))))))) [.blk 1, .seq (cR (cR (cB (cB (cR (cL (cR (cR (cR (cR bd58)))))))))), .lp (cB (cR (cL (cR (cR (cR (cR bd58)))))))] ?_
     exact kWk (Jk17 l8_0 h)
  ·refine kCe b10_0 ?_
   cases some_inj h
   refine kWo ?_
   refine kXt 0 ?_
   exact kOut
def diwanref13_Bit (fu : Nat) (s : TShard) (t : TTxn) : Option Int :=
 bd (diwanref13_Turn fu s.Seats t.Session t.Seq (w64 (s.Done + 1))) fun (r2_1, r2_2) =>
 br (!r2_2)
  (some 0)
  (bd (diwanref13_Bit.lp8 fu s t fu 0 0) fun y23_0 =>
  some y23_0)
theorem diwanref13_Bit.meets (fu : Nat) (s : TShard) (t : TTxn) (z0 : Int) (h : diwanref13_Bit fu s t = some z0) : Meets Try.prog ⟨58, [.data (TShard.ag s), .data (TTxn.ag t)], []⟩ ⟨iv z0, []⟩ := by
 refine kMt hmix diwanref13_Bit.O Try.f58 bd58 3 ?_
 unfold diwanref13_Bit at h
 refine kRs 0 [Tm 2 (.ptr 2 0), Tm 3 (.ptr 3 0), Ob 2 (TShard.ob s), Ob 3 (TTxn.ob t)] [] .n ?_
 obtain ⟨⟨r2_1, r2_2⟩, h2_3, h⟩ := bd_inv h
 refine kRs 15 [Tm 6 (bv r2_2)] [.a ⟨.tup [sS 3 TSeat.en r2_1, bv r2_2], []⟩] (.c (Asks.of (C := Meets Try.prog) (diwanref13_Turn.meets fu s.Seats t.Session t.Seq (w64 (s.Done + 1)) _ _ h2_3)) .n) ?_
 refine kSq ?_
 refine kRs 30 [Tm 23 (bv (!r2_2))] [] .n ?_
 rcases br_inv h with ⟨b4_0, h⟩ | ⟨b4_0, h⟩
 ·refine kCt b4_0 ?_
  refine kRs 0 [Tm 4 (iv 0)] [] .n ?_
  refine kRt ?_
  have h_ := some_inj h
  subst h_
  exact kFr
 ·refine kCe b4_0 ?_
  refine kSk ?_
  refine kCd (cR (cR (cR bd58))) [] ?_
  refine kRs 30 [Tm 7 (iv 0)] [] .n ?_
  refine kSq ?_
  refine kRs 31 [Tm 8 (iv 0)] [] .n ?_
  refine kBk 0 ?_
  obtain ⟨o23, ho23, h⟩ := bd_inv h
  refine kUs (diwanref13_Bit.lp8_ok fu s t _ 0 0 _ ho23) ?_
  intro e_ τ_ hp_
  obtain ⟨y23_0, rfl⟩ : ∃ y, y = o23 := ⟨_, rfl⟩
  obtain ⟨rfl, rfl⟩ := hp_
  refine kCd (cR (cR (cR (cR (cR bd58))))) [] ?_
  refine kRs 0 [Tm 4 (iv y23_0)] [] .n ?_
  refine kRt ?_
  have h_ := some_inj h
  subst h_
  exact kFr
def bd75 : Code := (Try.f75.body).getD .skip
def diwanref1_ReadShards.O : Nat → Nat := fun t => bif ([2, 4, 5, 6, 7, 8, 38] : List Nat).any (Nat.beq t) then 1 else 0
def diwanref1_ReadShards.lp9 (fu : Nat) (l9_0 : Int) (l9_1 : List Int) (l9_2 : Int) (l9_5 : TTxn) : Nat → Bool → Int → Option Bool
  | 0, _, _ => none
  | n_ + 1, l9_3, l9_4 =>
  br (decide (l9_4 < (l9_5.Reads.length : Int)))
   (br l9_3
    (diwanref1_ReadShards.lp9 fu l9_0 l9_1 l9_2 l9_5 n_ true (w64 (l9_4 + 1)))
    (ix l9_5.Reads l9_4 fun x12_2 =>
    bd (diwanref1_ShardOf fu x12_2.Key l9_0) fun r12_5 =>
    diwanref1_ReadShards.lp9 fu l9_0 l9_1 l9_2 l9_5 n_ (r12_5 == l9_2) (w64 (l9_4 + 1))))
   (some l9_3)
def diwanref1_ReadShards.lp9_post (l9_0 : Int) (l9_1 : List Int) (l9_2 : Int) (l9_5 : TTxn) (r_ : Bool) : Wy → St → Prop := fun e τ => match r_ with
  | y0 => e = .exit 2 ∧ τ = ofL [Tm 1 (iv l9_0), Tm 2 (.ptr 2 0), Tm 5 (sO 1 e_i64 l9_1), Tm 6 (iv l9_2), Tm 7 (bv y0), Ob 2 (TTxn.ob l9_5)]
theorem diwanref1_ReadShards.lp9_ok (fu : Nat) (l9_0 : Int) (l9_1 : List Int) (l9_2 : Int) (l9_5 : TTxn) : ∀ (n_ : Nat) (l9_3 : Bool) (l9_4 : Int) (r_ : Bool), diwanref1_ReadShards.lp9 fu l9_0 l9_1 l9_2 l9_5 n_ l9_3 l9_4 = some r_ → WK Try.prog diwanref1_ReadShards.O (Ck Try.prog) (cB (cR (cL (cR (cB (cL (cR (cB (cB (cR (cL (cR (cR bd75))))))))))))) [] (ofL [Tm 1 (iv l9_0), Tm 2 (.ptr 2 0), Tm 5 (sO 1 e_i64 l9_1), Tm 6 (iv l9_2), Tm 7 (bv l9_3), Tm 8 (iv l9_4), Ob 2 (TTxn.ob l9_5)]) (diwanref1_ReadShards.lp9_post l9_0 l9_1 l9_2 l9_5 r_) := by
 intro n_
 induction n_ with
 | zero => intro l9_3 l9_4 r_ h; exact no_none h
 | succ n_ ih =>
  intro l9_3 l9_4 r_ h
  refine kLp ?_
  refine kSq ?_
  refine kRs 127 [Tm 19 (bv (decide (l9_4 < (l9_5.Reads.length : Int))))] [.s (.t 18) [iv (l9_5.Reads.length : Int)]] (.c (c_len (e := TRead.en) (l := l9_5.Reads)) .n) ?_
  rcases br_inv h with ⟨b11_0, h⟩ | ⟨b11_0, h⟩
  ·refine kCt b11_0 ?_
   refine kSk ?_
   refine kCd (cR (cB (cB (cR (cL (cR (cB (cL (cR (cB (cB (cR (cL (cR (cR bd75))))))))))))))) [.lp (cB (cR (cL (cR (cB (cL (cR (cB (cB (cR (cL (cR (cR bd75)))))))))))))] ?_
   refine kSq ?_
   refine kBk 3 ?_
   rcases br_inv h with ⟨b12_1, h⟩ | ⟨b12_1, h⟩
   ·refine kRc 222 [Tm 7 (bv true)] (rp 11 (.b true) []) (.r 11 b12_1 .n) (cR (cR (cB (cB (cR (cL (cR (cB (cL (cR (cB (cB (cR (cL (cR (cR bd75)))))))))))))))) [.lp (cB (cR (cL (cR (cB (cL (cR (cB (cB (cR (cL (cR (cR bd75)))))))))))))] ?_
    refine kRc 95 [Tm 8 (iv (w64 (l9_4 + 1)))] [] .n (cB (cR (cL (cR (cB (cL (cR (cB (cB (cR (cL (cR (cR bd75))))))))))))) [] ?_
    exact kWk (ih true (w64 (l9_4 + 1)) _ h)
   ·obtain ⟨x12_2, a12_3, e12_4, h⟩ := ix_inv h
    obtain ⟨r12_5, h12_6, h⟩ := bd_inv h
    refine kRc 222 [Tm 7 (bv (r12_5 == l9_2))] (rp 4 (.b false) (.c (TRead.en x12_2) :: (rp 4 (.b false) [.a ⟨iv r12_5, []⟩, .b false, .b false, .b false]))) (.r 4 b12_1 (.c (c_ix (e := TRead.en) a12_3 e12_4) (.c (c_el (e := TRead.en) e12_4) (.r 4 b12_1 (.c (Asks.of (C := Meets Try.prog) (diwanref1_ShardOf.meets fu x12_2.Key l9_0 _ h12_6)) (.r 3 b12_1 .n)))))) (cR (cR (cB (cB (cR (cL (cR (cB (cL (cR (cB (cB (cR (cL (cR (cR bd75)))))))))))))))) [.lp (cB (cR (cL (cR (cB (cL (cR (cB (cB (cR (cL (cR (cR bd75)))))))))))))] ?_
    refine kRc 95 [Tm 8 (iv (w64 (l9_4 + 1)))] [] .n (cB (cR (cL (cR (cB (cL (cR (cB (cB (cR (cL (cR (cR bd75))))))))))))) [] ?_
    exact kWk (ih (r12_5 == l9_2) (w64 (l9_4 + 1)) _ h)
  ·refine kCe b11_0 ?_
   cases some_inj h
   refine kWo ?_
   refine kXt 2 ?_
   exact kOut
def diwanref1_ReadShards.lp4 (fu : Nat) (l4_0 : Int) (l4_3 : TTxn) : Nat → (List Int) → Int → Option (List Int)
  | 0, _, _ => none
  | n_ + 1, l4_1, l4_2 =>
  br (decide (l4_2 < (if l4_0 < 1 then 1 else l4_0)))
   (bd (diwanref1_ReadShards.lp9 fu l4_0 l4_1 l4_2 l4_3 fu false 0) fun y15_0 =>
   br y15_0
    (gd (decide (l4_1.length + ([l4_2] : List Int).length ≤ 4294967296)) <|
    diwanref1_ReadShards.lp4 fu l4_0 l4_3 n_ (l4_1 ++ ([l4_2] : List Int)) (w64 (l4_2 + 1)))
    (diwanref1_ReadShards.lp4 fu l4_0 l4_3 n_ l4_1 (w64 (l4_2 + 1))))
   (some l4_1)
def diwanref1_ReadShards.lp4_post (l4_0 : Int) (l4_3 : TTxn) (r_ : (List Int)) : Wy → St → Prop := fun e τ => match r_ with
  | y0 => e = .exit 0 ∧ τ = ofL [Tm 5 (sO 1 e_i64 y0)]
theorem diwanref1_ReadShards.lp4_ok (fu : Nat) (l4_0 : Int) (l4_3 : TTxn) : ∀ (n_ : Nat) (l4_1 : List Int) (l4_2 : Int) (r_ : (List Int)), diwanref1_ReadShards.lp4 fu l4_0 l4_3 n_ l4_1 l4_2 = some r_ → WK Try.prog diwanref1_ReadShards.O (Ck Try.prog) (cB (cR (cL (cR (cR bd75))))) [] (ofL [Tm 1 (iv l4_0), Tm 2 (.ptr 2 0), Tm 5 (sO 1 e_i64 l4_1), Tm 6 (iv l4_2), Ob 2 (TTxn.ob l4_3)]) (diwanref1_ReadShards.lp4_post l4_0 l4_3 r_) := by
 intro n_
 induction n_ with
 | zero => intro l4_1 l4_2 r_ h; exact no_none h
 | succ n_ ih =>
  intro l4_1 l4_2 r_ h
  refine kLp ?_
  refine kSq ?_
  refine kRs 31 [Tm 12 (bv (decide (l4_2 < (if l4_0 < 1 then 1 else l4_0))))] [] .n ?_
  rcases br_inv h with ⟨b6_0, h⟩ | ⟨b6_0, h⟩
  ·refine kCt b6_0 ?_
   refine kSk ?_
   refine kCd (cR (cB (cB (cR (cL (cR (cR bd75))))))) [.lp (cB (cR (cL (cR (cR bd75)))))] ?_
   refine kSq ?_
   refine kBk 1 ?_
   refine kRs 62 [Tm 7 (bv false)] [] .n ?_
   refine kSq ?_
   refine kRs 63 [Tm 8 (iv 0)] [] .n ?_
   refine kBk 2 ?_
   obtain ⟨o15, ho15, h⟩ := bd_inv h
   refine kUs (diwanref1_ReadShards.lp9_ok fu l4_0 l4_1 l4_2 l4_3 _ false 0 _ ho15) ?_
   intro e_ τ_ hp_
   obtain ⟨y15_0, rfl⟩ : ∃ y, y = o15 := ⟨_, rfl⟩
   obtain ⟨rfl, rfl⟩ := hp_
   refine kCd (cR (cR (cB (cL (cR (cB (cB (cR (cL (cR (cR bd75))))))))))) [.blk 1, .seq (cR (cR (cB (cB (cR (cL (cR (cR bd75)))))))), .lp (cB (cR (cL (cR (cR bd75)))))] ?_
   refine kRs 47 [Tm 35 (bv y15_0)] [] .n ?_
   rcases br_inv h with ⟨b17_0, h⟩ | ⟨b17_0, h⟩
   ·refine kCt b17_0 ?_
    obtain ⟨c18_1, h⟩ := gd_inv h
    refine kRc 54 [Tm 5 (sO 1 e_i64 (l4_1 ++ ([l4_2] : List Int)))] [.s (.t 39) [sO 1 e_i64 (l4_1 ++ ([l4_2] : List Int))]] (.c (c_al (e := e_i64) (f := e_i64) c18_1) (.c (congrArg (fun d : DV => [AV.data d]) (c_app (e := e_i64) (s := 1) (l := l4_1) (m := ([l4_2] : List Int)))) .n)) (cR (cR (cB (cB (cR (cL (cR (cR bd75)))))))) [.lp (cB (cR (cL (cR (cR bd75)))))] ?_
    refine kRc 23 [Tm 6 (iv (w64 (l4_2 + 1)))] [] .n (cB (cR (cL (cR (cR bd75))))) [] ?_
    exact kWk (ih (l4_1 ++ ([l4_2] : List Int)) (w64 (l4_2 + 1)) _ h)
   ·refine kCe b17_0 ?_
    refine kSk ?_
    refine kCd (cR (cR (cB (cB (cR (cL (cR (cR bd75)))))))) [.lp (cB (cR (cL (cR (cR bd75)))))] ?_
    refine kRc 46 [Tm 6 (iv (w64 (l4_2 + 1)))] [] .n (cB (cR (cL (cR (cR bd75))))) [] ?_
    exact kWk (ih l4_1 (w64 (l4_2 + 1)) _ h)
  ·refine kCe b6_0 ?_
   cases some_inj h
   refine kWo ?_
   refine kXt 0 ?_
   exact kOut
def diwanref1_ReadShards (fu : Nat) (t : TTxn) (n_v : Int) : Option (List Int) :=
 bd (diwanref1_ReadShards.lp4 fu n_v t fu [] 0) fun y21_0 =>
 some y21_0
theorem diwanref1_ReadShards.meets (fu : Nat) (t : TTxn) (n_v : Int) (z0 : List Int) (h : diwanref1_ReadShards fu t n_v = some z0) : Meets Try.prog ⟨75, [.data (TTxn.ag t), iv n_v], []⟩ ⟨sO 1 e_i64 z0, []⟩ := by
 refine kMt hmix diwanref1_ReadShards.O Try.f75 bd75 3 ?_
 unfold diwanref1_ReadShards at h
 refine kRs 2 [Tm 2 (.ptr 2 0), Ob 2 (TTxn.ob t)] [] .n ?_
 refine kRs 7 [Tm 5 (.data (.slc true (some true) 1 (List.map e_i64 [])))] [] .n ?_
 refine kSq ?_
 refine kRs 15 [Tm 6 (iv 0)] [] .n ?_
 refine kBk 0 ?_
 obtain ⟨o21, ho21, h⟩ := bd_inv h
 refine kUs (diwanref1_ReadShards.lp4_ok fu n_v t _ [] 0 _ ho21) ?_
 intro e_ τ_ hp_
 obtain ⟨y21_0, rfl⟩ : ∃ y, y = o21 := ⟨_, rfl⟩
 obtain ⟨rfl, rfl⟩ := hp_
 refine kCd (cR (cR (cR bd75))) [] ?_
 refine kRs 0 [Tm 4 (sO 1 e_i64 y21_0)] [] .n ?_
 refine kRt ?_
 have h_ := some_inj h
 subst h_
 exact kFr
def bd59 : Code := (Try.f59.body).getD .skip
def diwanref13_Verdict.O : Nat → Nat := fun t => bif ([3, 6, 7, 8, 9, 10] : List Nat).any (Nat.beq t) then 1 else 0
def diwanref13_Verdict.lp5 (fu : Nat) (l5_0 : List Int) (l5_2 : List Int) : Nat → Int → Int → Option (Int ⊕ Unit)
  | 0, _, _ => none
  | n_ + 1, l5_1, l5_3 =>
  br (decide (l5_3 < (l5_2.length : Int)))
   (jn (fun (j12_4 : Int) =>
    br (j12_4 == 2)
     (some (.inr ()))
     (br (j12_4 != 1)
      (diwanref13_Verdict.lp5 fu l5_0 l5_2 n_ 0 (w64 (l5_3 + 1)))
      (diwanref13_Verdict.lp5 fu l5_0 l5_2 n_ l5_1 (w64 (l5_3 + 1))))) fun k12 =>
   ix l5_2 l5_3 fun x9_1 =>
   br (decide (x9_1 < (l5_0.length : Int)))
    (ix l5_2 l5_3 fun x11_1 =>
    ix l5_0 x11_1 fun x11_4 =>
    k12 x11_4)
    (k12 0))
   (some (.inl l5_1))
def diwanref13_Verdict.lp5_post (l5_0 : List Int) (l5_2 : List Int) (r_ : (Int ⊕ Unit)) : Wy → St → Prop := fun e τ => match r_ with
  | .inl y0 => e = .exit 0 ∧ τ = ofL [Tm 7 (iv y0)]
  | .inr _ => e = .ret ∧ τ = ofL [Tm 6 (iv 2)]
theorem diwanref13_Verdict.lp5_ok (fu : Nat) (l5_0 : List Int) (l5_2 : List Int) : ∀ (n_ : Nat) (l5_1 : Int) (l5_3 : Int) (r_ : (Int ⊕ Unit)), diwanref13_Verdict.lp5 fu l5_0 l5_2 n_ l5_1 l5_3 = some r_ → WK Try.prog diwanref13_Verdict.O (Ck Try.prog) (cB (cR (cL (cR (cR (cR bd59)))))) [] (ofL [Tm 2 (sS 1 e_i64 l5_0), Tm 7 (iv l5_1), Tm 8 (sO 1 e_i64 l5_2), Tm 9 (iv l5_3)]) (diwanref13_Verdict.lp5_post l5_0 l5_2 r_) := by
 intro n_
 induction n_ with
 | zero => intro l5_1 l5_3 r_ h; exact no_none h
 | succ n_ ih =>
  intro l5_1 l5_3 r_ h
  refine kLp ?_
  refine kSq ?_
  refine kRs 15 [Tm 17 (bv (decide (l5_3 < (l5_2.length : Int))))] [.s (.t 16) [iv (l5_2.length : Int)]] (.c (c_len (e := e_i64) (l := l5_2)) .n) ?_
  rcases br_inv h with ⟨b7_0, h⟩ | ⟨b7_0, h⟩
  ·refine kCt b7_0 ?_
   refine kSk ?_
   refine kCd (cR (cB (cB (cR (cL (cR (cR (cR bd59)))))))) [.lp (cB (cR (cL (cR (cR (cR bd59))))))] ?_
   refine kSq ?_
   refine kBk 1 ?_
   refine kRs 30 [Tm 10 (iv 0)] [] .n ?_
   obtain ⟨k12, hk12, h⟩ := jn_inv h
   have Jk12 : ∀ (j12_4 : Int), k12 j12_4 = some r_ → WK Try.prog diwanref13_Verdict.O (Ck Try.prog) (cR (cR (cB (cL (cR (cB (cB (cR (cL (cR (cR (cR bd59)))))))))))) [.blk 1, .seq (cR (cR (cB (cB (cR (cL (cR (cR (cR bd59))))))))), .lp (cB (cR (cL (cR (cR (cR bd59))))))] (ofL [Tm 2 (sS 1 e_i64 l5_0), Tm 7 (iv l5_1), Tm 8 (sO 1 e_i64 l5_2), Tm 9 (iv l5_3), Tm 10 (iv j12_4)]) (diwanref13_Verdict.lp5_post l5_0 l5_2 r_) := by
    intro j12_4 h
    rw [hk12] at h
    refine kSq ?_
    refine kRs 31 [Tm 35 (bv (j12_4 == 2))] [] .n ?_
    rcases br_inv h with ⟨b14_0, h⟩ | ⟨b14_0, h⟩
    ·refine kCt b14_0 ?_
     refine kRs 0 [Tm 6 (iv 2)] [] .n ?_
     cases some_inj h
     refine kWo ?_
     refine kRt ?_
     exact kOut
    ·refine kCe b14_0 ?_
     refine kSk ?_
     refine kCd (cR (cR (cR (cB (cL (cR (cB (cB (cR (cL (cR (cR (cR bd59))))))))))))) [.blk 1, .seq (cR (cR (cB (cB (cR (cL (cR (cR (cR bd59))))))))), .lp (cB (cR (cL (cR (cR (cR bd59))))))] ?_
     refine kRs 30 [Tm 37 (bv (j12_4 != 1))] [] .n ?_
     rcases br_inv h with ⟨b17_0, h⟩ | ⟨b17_0, h⟩
     ·refine kCt b17_0 ?_
      refine kRc 26 [Tm 7 (iv 0)] [] .n (cR (cR (cB (cB (cR (cL (cR (cR (cR bd59))))))))) [.lp (cB (cR (cL (cR (cR (cR bd59))))))] ?_
      refine kRc 7 [Tm 9 (iv (w64 (l5_3 + 1)))] [] .n (cB (cR (cL (cR (cR (cR bd59)))))) [] ?_
      exact kWk (ih 0 (w64 (l5_3 + 1)) _ h)
     ·refine kCe b17_0 ?_
      refine kSk ?_
      refine kCd (cR (cR (cB (cB (cR (cL (cR (cR (cR bd59))))))))) [.lp (cB (cR (cL (cR (cR (cR bd59))))))] ?_
      refine kRc 14 [Tm 9 (iv (w64 (l5_3 + 1)))] [] .n (cB (cR (cL (cR (cR (cR bd59)))))) [] ?_
      exact kWk (ih l5_1 (w64 (l5_3 + 1)) _ h)
   clear hk12
   refine kSq ?_
   obtain ⟨x9_1, a9_2, e9_3, h⟩ := ix_inv h
   refine kRs 31 [Tm 26 (bv (decide (x9_1 < (l5_0.length : Int))))] [.c (e_i64 x9_1), .s (.t 25) [iv (l5_0.length : Int)]] (.c (c_ix (e := e_i64) a9_2 e9_3) (.c (c_el (e := e_i64) e9_3) (.c (c_len (e := e_i64) (l := l5_0)) .n))) ?_
   rcases br_inv h with ⟨b10_0, h⟩ | ⟨b10_0, h⟩
   ·refine kCt b10_0 ?_
    obtain ⟨x11_1, a11_2, e11_3, h⟩ := ix_inv h
    obtain ⟨x11_4, a11_5, e11_6, h⟩ := ix_inv h
    refine kRc 60 [Tm 10 (iv x11_4)] [.c (e_i64 x11_1), .c (e_i64 x11_4)] (.c (c_ix (e := e_i64) a11_2 e11_3) (.c (c_el (e := e_i64) e11_3) (.c (c_ix (e := e_i64) a11_5 e11_6) (.c (c_el (e := e_i64) e11_6) .n)))) (cR (cR (cB (cL (cR (cB (cB (cR (cL (cR (cR (cR bd59)))))))))))) [.blk 1, .seq (cR (cR (cB (cB (cR (cL (cR (cR (cR bd59))))))))), .lp (cB (cR (cL (cR (cR (cR bd59))))))] ?_
    exact kWk (Jk12 x11_4 h)
   ·refine kCe b10_0 ?_
    refine kSk ?_
    refine kCd (cR (cR (cB (cL (cR (cB (cB (cR (cL (cR (cR (cR bd59)))))))))))) [.blk 1, .seq (cR (cR (cB (cB (cR (cL (cR (cR (cR bd59))))))))), .lp (cB (cR (cL (cR (cR (cR bd59))))))] ?_
    exact kWk (Jk12 0 h)
  ·refine kCe b7_0 ?_
   cases some_inj h
   refine kWo ?_
   refine kXt 0 ?_
   exact kOut
def diwanref13_Verdict (fu : Nat) (t : TTxn) (n_v : Int) (row : List Int) : Option Int :=
 bd (diwanref1_ReadShards fu t n_v) fun r3_1 =>
 bd (diwanref13_Verdict.lp5 fu row r3_1 fu 1 0) fun o_ => (match o_ with
 | .inl y21_0 =>
  some y21_0
 | .inr _ =>
  some 2)
theorem diwanref13_Verdict.meets (fu : Nat) (t : TTxn) (n_v : Int) (row : List Int) (z0 : Int) (h : diwanref13_Verdict fu t n_v row = some z0) : Meets Try.prog ⟨59, [.data (TTxn.ag t), iv n_v, sS 1 e_i64 row], []⟩ ⟨iv z0, []⟩ := by
 refine kMt hmix diwanref13_Verdict.O Try.f59 bd59 7 ?_
 unfold diwanref13_Verdict at h
 refine kRs 6 [Tm 3 (.ptr 3 0), Ob 3 (TTxn.ob t)] [] .n ?_
 refine kRs 15 [Tm 7 (iv 1)] [] .n ?_
 obtain ⟨r3_1, h3_2, h⟩ := bd_inv h
 refine kRs 17 [Tm 8 (sO 1 e_i64 r3_1)] [.a ⟨sO 1 e_i64 r3_1, []⟩] (.c (Asks.of (C := Meets Try.prog) (diwanref1_ReadShards.meets fu t n_v _ h3_2)) .n) ?_
 refine kSq ?_
 refine kRs 7 [Tm 9 (iv 0)] [] .n ?_
 refine kBk 0 ?_
 obtain ⟨o21, ho21, h⟩ := bd_inv h
 refine kUs (diwanref13_Verdict.lp5_ok fu row r3_1 _ 1 0 _ ho21) ?_
 intro e_ τ_ hp_
 rcases o21 with o21 | o21
 ·obtain ⟨y21_0, rfl⟩ : ∃ y, y = o21 := ⟨_, rfl⟩
  obtain ⟨rfl, rfl⟩ := hp_
  refine kCd (cR (cR (cR (cR bd59)))) [] ?_
  refine kRs 0 [Tm 6 (iv y21_0)] [] .n ?_
  refine kRt ?_
  have h_ := some_inj h
  subst h_
  exact kFr
 ·obtain ⟨⟩ := o21
  obtain ⟨rfl, rfl⟩ := hp_
  have h_ := some_inj h
  subst h_
  exact kFr
def bd60 : Code := (Try.f60.body).getD .skip
def diwanref1_Touches.O : Nat → Nat := fun t => bif ([3, 6, 7, 8] : List Nat).any (Nat.beq t) then 1 else 0
def diwanref1_Touches.lp3 (fu : Nat) (l3_0 : Int) (l3_1 : Int) (l3_3 : TTxn) : Nat → Int → Option (Unit ⊕ Unit)
  | 0, _ => none
  | n_ + 1, l3_2 =>
  br (decide (l3_2 < (l3_3.Reads.length : Int)))
   (ix l3_3.Reads l3_2 fun x6_1 =>
   bd (diwanref1_ShardOf fu x6_1.Key l3_1) fun r6_4 =>
   br (r6_4 == l3_0)
    (some (.inr ()))
    (diwanref1_Touches.lp3 fu l3_0 l3_1 l3_3 n_ (w64 (l3_2 + 1))))
   (some (.inl ()))
def diwanref1_Touches.lp3_post (l3_0 : Int) (l3_1 : Int) (l3_3 : TTxn) (r_ : (Unit ⊕ Unit)) : Wy → St → Prop := fun e τ => match r_ with
  | .inl _ => e = .exit 0 ∧ τ = ofL [Tm 1 (iv l3_0), Tm 2 (iv l3_1), Tm 3 (.ptr 3 0), Ob 3 (TTxn.ob l3_3)]
  | .inr _ => e = .ret ∧ τ = ofL [Tm 6 (bv true)]
theorem diwanref1_Touches.lp3_ok (fu : Nat) (l3_0 : Int) (l3_1 : Int) (l3_3 : TTxn) : ∀ (n_ : Nat) (l3_2 : Int) (r_ : (Unit ⊕ Unit)), diwanref1_Touches.lp3 fu l3_0 l3_1 l3_3 n_ l3_2 = some r_ → WK Try.prog diwanref1_Touches.O (Ck Try.prog) (cB (cR (cL (cR bd60)))) [] (ofL [Tm 1 (iv l3_0), Tm 2 (iv l3_1), Tm 3 (.ptr 3 0), Tm 7 (iv l3_2), Ob 3 (TTxn.ob l3_3)]) (diwanref1_Touches.lp3_post l3_0 l3_1 l3_3 r_) := by
 intro n_
 induction n_ with
 | zero => intro l3_2 r_ h; exact no_none h
 | succ n_ ih =>
  intro l3_2 r_ h
  refine kLp ?_
  refine kSq ?_
  refine kRs 31 [Tm 13 (bv (decide (l3_2 < (l3_3.Reads.length : Int))))] [.s (.t 12) [iv (l3_3.Reads.length : Int)]] (.c (c_len (e := TRead.en) (l := l3_3.Reads)) .n) ?_
  rcases br_inv h with ⟨b5_0, h⟩ | ⟨b5_0, h⟩
  ·refine kCt b5_0 ?_
   refine kSk ?_
   refine kCd (cR (cB (cB (cR (cL (cR bd60)))))) [.lp (cB (cR (cL (cR bd60))))] ?_
   refine kSq ?_
   refine kBk 1 ?_
   obtain ⟨x6_1, a6_2, e6_3, h⟩ := ix_inv h
   obtain ⟨r6_4, h6_5, h⟩ := bd_inv h
   refine kRs 62 [Tm 25 (bv (r6_4 == l3_0))] [.c (TRead.en x6_1), .a ⟨iv r6_4, []⟩] (.c (c_ix (e := TRead.en) a6_2 e6_3) (.c (c_el (e := TRead.en) e6_3) (.c (Asks.of (C := Meets Try.prog) (diwanref1_ShardOf.meets fu x6_1.Key l3_1 _ h6_5)) .n))) ?_
   rcases br_inv h with ⟨b7_0, h⟩ | ⟨b7_0, h⟩
   ·refine kCt b7_0 ?_
    refine kRs 0 [Tm 6 (bv true)] [] .n ?_
    cases some_inj h
    refine kWo ?_
    refine kRt ?_
    exact kOut
   ·refine kCe b7_0 ?_
    refine kSk ?_
    refine kCd (cR (cR (cB (cB (cR (cL (cR bd60))))))) [.lp (cB (cR (cL (cR bd60))))] ?_
    refine kRc 46 [Tm 7 (iv (w64 (l3_2 + 1)))] [] .n (cB (cR (cL (cR bd60)))) [] ?_
    exact kWk (ih (w64 (l3_2 + 1)) _ h)
  ·refine kCe b5_0 ?_
   cases some_inj h
   refine kWo ?_
   refine kXt 0 ?_
   exact kOut
def diwanref1_Touches.lp12 (fu : Nat) (l12_0 : Int) (l12_1 : Int) (l12_3 : TTxn) : Nat → Int → Option (Unit ⊕ Unit)
  | 0, _ => none
  | n_ + 1, l12_2 =>
  br (decide (l12_2 < (l12_3.Writes.length : Int)))
   (ix l12_3.Writes l12_2 fun x15_1 =>
   bd (diwanref1_ShardOf fu x15_1.Key l12_1) fun r15_4 =>
   br (r15_4 == l12_0)
    (some (.inr ()))
    (diwanref1_Touches.lp12 fu l12_0 l12_1 l12_3 n_ (w64 (l12_2 + 1))))
   (some (.inl ()))
def diwanref1_Touches.lp12_post (l12_0 : Int) (l12_1 : Int) (l12_3 : TTxn) (r_ : (Unit ⊕ Unit)) : Wy → St → Prop := fun e τ => match r_ with
  | .inl _ => e = .exit 2 ∧ τ = ofL []
  | .inr _ => e = .ret ∧ τ = ofL [Tm 6 (bv true)]
theorem diwanref1_Touches.lp12_ok (fu : Nat) (l12_0 : Int) (l12_1 : Int) (l12_3 : TTxn) : ∀ (n_ : Nat) (l12_2 : Int) (r_ : (Unit ⊕ Unit)), diwanref1_Touches.lp12 fu l12_0 l12_1 l12_3 n_ l12_2 = some r_ → WK Try.prog diwanref1_Touches.O (Ck Try.prog) (cB (cR (cL (cR (cR bd60))))) [] (ofL [Tm 1 (iv l12_0), Tm 2 (iv l12_1), Tm 3 (.ptr 3 0), Tm 8 (iv l12_2), Ob 3 (TTxn.ob l12_3)]) (diwanref1_Touches.lp12_post l12_0 l12_1 l12_3 r_) := by
 intro n_
 induction n_ with
 | zero => intro l12_2 r_ h; exact no_none h
 | succ n_ ih =>
  intro l12_2 r_ h
  refine kLp ?_
  refine kSq ?_
  refine kRs 31 [Tm 30 (bv (decide (l12_2 < (l12_3.Writes.length : Int))))] [.s (.t 29) [iv (l12_3.Writes.length : Int)]] (.c (c_len (e := TWrite.en) (l := l12_3.Writes)) .n) ?_
  rcases br_inv h with ⟨b14_0, h⟩ | ⟨b14_0, h⟩
  ·refine kCt b14_0 ?_
   refine kSk ?_
   refine kCd (cR (cB (cB (cR (cL (cR (cR bd60))))))) [.lp (cB (cR (cL (cR (cR bd60)))))] ?_
   refine kSq ?_
   refine kBk 3 ?_
   obtain ⟨x15_1, a15_2, e15_3, h⟩ := ix_inv h
   obtain ⟨r15_4, h15_5, h⟩ := bd_inv h
   refine kRs 62 [Tm 42 (bv (r15_4 == l12_0))] [.c (TWrite.en x15_1), .a ⟨iv r15_4, []⟩] (.c (c_ix (e := TWrite.en) a15_2 e15_3) (.c (c_el (e := TWrite.en) e15_3) (.c (Asks.of (C := Meets Try.prog) (diwanref1_ShardOf.meets fu x15_1.Key l12_1 _ h15_5)) .n))) ?_
   rcases br_inv h with ⟨b16_0, h⟩ | ⟨b16_0, h⟩
   ·refine kCt b16_0 ?_
    refine kRs 0 [Tm 6 (bv true)] [] .n ?_
    cases some_inj h
    refine kWo ?_
    refine kRt ?_
    exact kOut
   ·refine kCe b16_0 ?_
    refine kSk ?_
    refine kCd (cR (cR (cB (cB (cR (cL (cR (cR bd60)))))))) [.lp (cB (cR (cL (cR (cR bd60)))))] ?_
    refine kRc 46 [Tm 8 (iv (w64 (l12_2 + 1)))] [] .n (cB (cR (cL (cR (cR bd60))))) [] ?_
    exact kWk (ih (w64 (l12_2 + 1)) _ h)
  ·refine kCe b14_0 ?_
   cases some_inj h
   refine kWo ?_
   refine kXt 2 ?_
   exact kOut
def diwanref1_Touches (fu : Nat) (t : TTxn) (s : Int) (n_v : Int) : Option Bool :=
 bd (diwanref1_Touches.lp3 fu s n_v t fu 0) fun o_ => (match o_ with
 | .inl _ =>
  bd (diwanref1_Touches.lp12 fu s n_v t fu 0) fun o_ => (match o_ with
  | .inl _ =>
   some false
  | .inr _ =>
   some true)
 | .inr _ =>
  some true)
theorem diwanref1_Touches.meets (fu : Nat) (t : TTxn) (s : Int) (n_v : Int) (z0 : Bool) (h : diwanref1_Touches fu t s n_v = some z0) : Meets Try.prog ⟨60, [.data (TTxn.ag t), iv s, iv n_v], []⟩ ⟨bv z0, []⟩ := by
 refine kMt hmix diwanref1_Touches.O Try.f60 bd60 7 ?_
 unfold diwanref1_Touches at h
 refine kRs 6 [Tm 3 (.ptr 3 0), Ob 3 (TTxn.ob t)] [] .n ?_
 refine kSq ?_
 refine kRs 15 [Tm 7 (iv 0)] [] .n ?_
 refine kBk 0 ?_
 obtain ⟨o10, ho10, h⟩ := bd_inv h
 refine kUs (diwanref1_Touches.lp3_ok fu s n_v t _ 0 _ ho10) ?_
 intro e_ τ_ hp_
 rcases o10 with o10 | o10
 ·obtain ⟨⟩ := o10
  obtain ⟨rfl, rfl⟩ := hp_
  refine kCd (cR (cR bd60)) [] ?_
  refine kSq ?_
  refine kRs 15 [Tm 8 (iv 0)] [] .n ?_
  refine kBk 2 ?_
  obtain ⟨o19, ho19, h⟩ := bd_inv h
  refine kUs (diwanref1_Touches.lp12_ok fu s n_v t _ 0 _ ho19) ?_
  intro e_ τ_ hp_
  rcases o19 with o19 | o19
  ·obtain ⟨⟩ := o19
   obtain ⟨rfl, rfl⟩ := hp_
   refine kCd (cR (cR (cR bd60))) [] ?_
   refine kRs 0 [Tm 6 (bv false)] [] .n ?_
   refine kRt ?_
   have h_ := some_inj h
   subst h_
   exact kFr
  ·obtain ⟨⟩ := o19
   obtain ⟨rfl, rfl⟩ := hp_
   have h_ := some_inj h
   subst h_
   exact kFr
 ·obtain ⟨⟩ := o10
  obtain ⟨rfl, rfl⟩ := hp_
  have h_ := some_inj h
  subst h_
  exact kFr
def bd76 : Code := (Try.f76.body).getD .skip
def diwanref13_Add.O : Nat → Nat := fun t => bif ([3, 4, 5, 6, 17] : List Nat).any (Nat.beq t) then 1 else 0
def diwanref13_Add (l : List TVersion) (v : TVersion) : Option (List TVersion) :=
 gd (decide (([] : List TVersion).length + l.length ≤ 4294967296)) <|
 bd (diwanref13_LastOf l) fun r3_1 =>
 br (decide (v.Pos ≤ r3_1))
  (some l)
  (gd (decide (l.length + ([v] : List TVersion).length ≤ 4294967296)) <|
  some (l ++ ([v] : List TVersion)))
theorem diwanref13_Add.meets (l : List TVersion) (v : TVersion) (z0 : List TVersion) (h : diwanref13_Add l v = some z0) : Meets Try.prog ⟨76, [sS 3 TVersion.en l, .data (TVersion.ag v)], []⟩ ⟨sO 3 TVersion.en z0, []⟩ := by
 refine kMt hmix diwanref13_Add.O Try.f76 bd76 3 ?_
 unfold diwanref13_Add at h
 refine kRs 1 [Tm 3 (.ptr 3 0), Ob 3 (TVersion.ob v)] [] .n ?_
 obtain ⟨c2_1, h⟩ := gd_inv h
 refine kRs 7 [Tm 5 (sO 3 TVersion.en l)] [] (.c (c_al (e := TVersion.en) (f := TVersion.en) c2_1) .n) ?_
 refine kSq ?_
 obtain ⟨r3_1, h3_2, h⟩ := bd_inv h
 refine kRs 7 [Tm 13 (bv (decide (v.Pos ≤ r3_1)))] [.a ⟨iv r3_1, []⟩] (.c (Asks.of (C := Meets Try.prog) (diwanref13_LastOf.meets l _ h3_2)) (.c rT .n)) ?_
 rcases br_inv h with ⟨b4_0, h⟩ | ⟨b4_0, h⟩
 ·refine kCt b4_0 ?_
  refine kRs 0 [Tm 4 (sO 3 TVersion.en l)] [] .n ?_
  refine kRt ?_
  have h_ := some_inj h
  subst h_
  exact kFr
 ·refine kCe b4_0 ?_
  refine kSk ?_
  refine kCd (cR (cR (cR bd76))) [] ?_
  obtain ⟨c6_1, h⟩ := gd_inv h
  refine kRs 0 [Tm 4 (sO 3 TVersion.en (l ++ ([v] : List TVersion)))] [.s (.t 18) [sO 3 TVersion.en (l ++ ([v] : List TVersion))]] (.c (c_al (e := TVersion.en) (f := TVersion.en) c6_1) (.c (congrArg (fun d : DV => [AV.data d]) (c_app (e := TVersion.en) (s := 3) (l := l) (m := ([v] : List TVersion)))) .n)) ?_
  refine kRt ?_
  have h_ := some_inj h
  subst h_
  exact kFr
def bd61 : Code := (Try.f61.body).getD .skip
def diwanref13_Write.O : Nat → Nat := fun t => bif ([3, 6, 7, 8, 9, 10, 13, 17, 64, 72, 73, 79, 95, 99] : List Nat).any (Nat.beq t) then 1 else bif ([96] : List Nat).any (Nat.beq t) then 2 else 0
def diwanref13_Write.lp9 (fu : Nat) (l9_0 : Int) (l9_1 : List TWrite) (l9_2 : Int) (l9_4 : TStore) (l9_5 : TStore) (l9_6 : TWrite) : Nat → Int → Option Int
  | 0, _ => none
  | n_ + 1, l9_3 =>
  br (decide (l9_3 < (l9_5.Chains.length : Int)))
   (ix l9_5.Chains l9_3 fun x10_2 =>
   br (Op.bytesLess x10_2.Key.toList l9_6.Key.toList)
    (diwanref13_Write.lp9 fu l9_0 l9_1 l9_2 l9_4 l9_5 l9_6 n_ (w64 (l9_3 + 1)))
    (some l9_3))
   (some l9_3)
def diwanref13_Write.lp9_post (l9_0 : Int) (l9_1 : List TWrite) (l9_2 : Int) (l9_4 : TStore) (l9_5 : TStore) (l9_6 : TWrite) (r_ : Int) : Wy → St → Prop := fun e τ => match r_ with
  | y0 => e = .exit 2 ∧ τ = ofL [Tm 1 (iv l9_0), Tm 2 (sS 3 TWrite.en l9_1), Tm 6 (.ptr 6 0), Tm 7 (.ptr 7 0), Tm 8 (iv l9_2), Tm 9 (.ptr 9 0), Tm 10 (iv y0), Ob 6 [sO 2 TChain.en l9_4.Chains, iv l9_4.Mark], Ob 7 [sO 2 TChain.en l9_5.Chains, iv l9_5.Mark], Ob 9 (TWrite.ob l9_6)]
theorem diwanref13_Write.lp9_ok (fu : Nat) (l9_0 : Int) (l9_1 : List TWrite) (l9_2 : Int) (l9_4 : TStore) (l9_5 : TStore) (l9_6 : TWrite) : ∀ (n_ : Nat) (l9_3 : Int) (r_ : Int), diwanref13_Write.lp9 fu l9_0 l9_1 l9_2 l9_4 l9_5 l9_6 n_ l9_3 = some r_ → WK Try.prog diwanref13_Write.O (Ck Try.prog) (cB (cL (cR (cR (cB (cL (cR (cB (cB (cR (cL (cR (cR bd61))))))))))))) [] (ofL [Tm 1 (iv l9_0), Tm 2 (sS 3 TWrite.en l9_1), Tm 6 (.ptr 6 0), Tm 7 (.ptr 7 0), Tm 8 (iv l9_2), Tm 9 (.ptr 9 0), Tm 10 (iv l9_3), Ob 6 [sO 2 TChain.en l9_4.Chains, iv l9_4.Mark], Ob 7 [sO 2 TChain.en l9_5.Chains, iv l9_5.Mark], Ob 9 (TWrite.ob l9_6)]) (diwanref13_Write.lp9_post l9_0 l9_1 l9_2 l9_4 l9_5 l9_6 r_) := by
 intro n_
 induction n_ with
 | zero => intro l9_3 r_ h; exact no_none h
 | succ n_ ih =>
  intro l9_3 r_ h
  refine kLp ?_
  refine kSq ?_
  rcases br_inv h with ⟨b10_1, h⟩ | ⟨b10_1, h⟩
  ·obtain ⟨x10_2, a10_3, e10_4, h⟩ := ix_inv h
   refine kRs 1023 [Tm 43 (bv (Op.bytesLess x10_2.Key.toList l9_6.Key.toList))] (.s (.t 31) [iv (l9_5.Chains.length : Int)] :: (rp 6 (.b true) (.c (TChain.en x10_2) :: (rp 4 (.b true) [])))) (.c (c_len (e := TChain.en) (l := l9_5.Chains)) (.r 4 b10_1 (.c (c_ix (e := TChain.en) a10_3 e10_4) (.r 2 b10_1 (.c (c_el (e := TChain.en) e10_4) (.r 4 b10_1 (.c rT .n))))))) ?_
   rcases br_inv h with ⟨b11_0, h⟩ | ⟨b11_0, h⟩
   ·refine kCt b11_0 ?_
    refine kSk ?_
    refine kCd (cR (cB (cB (cL (cR (cR (cB (cL (cR (cB (cB (cR (cL (cR (cR bd61))))))))))))))) [.lp (cB (cL (cR (cR (cB (cL (cR (cB (cB (cR (cL (cR (cR bd61)))))))))))))] ?_
    refine kBk 3 ?_
    refine kRc 1918 [Tm 10 (iv (w64 (l9_3 + 1)))] [] .n (cB (cL (cR (cR (cB (cL (cR (cB (cB (cR (cL (cR (cR bd61))))))))))))) [] ?_
    exact kWk (ih (w64 (l9_3 + 1)) _ h)
   ·refine kCe b11_0 ?_
    cases some_inj h
    refine kWo ?_
    refine kXt 2 ?_
    exact kOut
  ·refine kRs 1023 [Tm 43 (bv false)] (.s (.t 31) [iv (l9_5.Chains.length : Int)] :: (rp 10 (.b false) [])) (.c (c_len (e := TChain.en) (l := l9_5.Chains)) (.r 10 b10_1 (.c rT .n))) ?_
   refine kCe rF ?_
   cases some_inj h
   refine kWo ?_
   refine kXt 2 ?_
   exact kOut
def diwanref13_Write.lp4 (fu : Nat) (l4_0 : Int) (l4_1 : List TWrite) (l4_3 : TStore) : Nat → Int → TStore → Option TStore
  | 0, _, _ => none
  | n_ + 1, l4_2, l4_4 =>
  br (decide (l4_2 < (l4_1.length : Int)))
   (ix l4_1 l4_2 fun x7_1 =>
   bd (diwanref13_Write.lp9 fu l4_0 l4_1 l4_2 l4_3 l4_4 x7_1 fu 0) fun y13_0 =>
   jn (fun (j24_5 : TStore) =>
    ix j24_5.Chains y13_0 fun x25_1 =>
    bd (diwanref13_Add x25_1.L (TVersion.mk l4_0 x7_1.Val x7_1.Gone)) fun r25_4 =>
    ix j24_5.Chains y13_0 fun x25_6 =>
    diwanref13_Write.lp4 fu l4_0 l4_1 l4_3 n_ (w64 (l4_2 + 1)) (TStore.mk (j24_5.Chains.set y13_0.toNat (TChain.mk x25_6.Key r25_4)) j24_5.Mark)) fun k24 =>
   br (y13_0 == (l4_4.Chains.length : Int))
    (br (decide (l4_0 < 1))
     (diwanref13_Write.lp4 fu l4_0 l4_1 l4_3 n_ (w64 (l4_2 + 1)) l4_4)
     (gd (decide ((0 : Int) ≤ y13_0 ∧ y13_0 ≤ (l4_4.Chains.length : Int))) <|
     gd (decide (([] : List TChain).length + (List.take y13_0.toNat l4_4.Chains).length ≤ 4294967296)) <|
     gd (decide ((List.take y13_0.toNat l4_4.Chains).length + ([(TChain.mk x7_1.Key [])] : List TChain).length ≤ 4294967296)) <|
     gd (decide ((0 : Int) ≤ y13_0 ∧ y13_0 ≤ (l4_4.Chains.length : Int))) <|
     gd (decide (((List.take y13_0.toNat l4_4.Chains) ++ ([(TChain.mk x7_1.Key [])] : List TChain)).length + (List.drop y13_0.toNat l4_4.Chains).length ≤ 4294967296)) <|
     k24 (TStore.mk (((List.take y13_0.toNat l4_4.Chains) ++ ([(TChain.mk x7_1.Key [])] : List TChain)) ++ (List.drop y13_0.toNat l4_4.Chains)) l4_4.Mark)))
    (ix l4_4.Chains y13_0 fun x14_2 =>
    br (!(x14_2.Key.toList == x7_1.Key.toList))
     (br (decide (l4_0 < 1))
      (diwanref13_Write.lp4 fu l4_0 l4_1 l4_3 n_ (w64 (l4_2 + 1)) l4_4)
      (gd (decide ((0 : Int) ≤ y13_0 ∧ y13_0 ≤ (l4_4.Chains.length : Int))) <|
      gd (decide (([] : List TChain).length + (List.take y13_0.toNat l4_4.Chains).length ≤ 4294967296)) <|
      gd (decide ((List.take y13_0.toNat l4_4.Chains).length + ([(TChain.mk x7_1.Key [])] : List TChain).length ≤ 4294967296)) <|
      gd (decide ((0 : Int) ≤ y13_0 ∧ y13_0 ≤ (l4_4.Chains.length : Int))) <|
      gd (decide (((List.take y13_0.toNat l4_4.Chains) ++ ([(TChain.mk x7_1.Key [])] : List TChain)).length + (List.drop y13_0.toNat l4_4.Chains).length ≤ 4294967296)) <|
      k24 (TStore.mk (((List.take y13_0.toNat l4_4.Chains) ++ ([(TChain.mk x7_1.Key [])] : List TChain)) ++ (List.drop y13_0.toNat l4_4.Chains)) l4_4.Mark)))
     (k24 l4_4)))
   (some l4_4)
def diwanref13_Write.lp4_post (l4_0 : Int) (l4_1 : List TWrite) (l4_3 : TStore) (r_ : TStore) : Wy → St → Prop := fun e τ => match r_ with
  | y0 => e = .exit 0 ∧ τ = ofL [Tm 6 (.ptr 6 0), Tm 7 (.ptr 7 0), Ob 6 [sO 2 TChain.en l4_3.Chains, iv l4_3.Mark], Ob 7 [sO 2 TChain.en y0.Chains, iv y0.Mark]]
theorem diwanref13_Write.lp4_ok (fu : Nat) (l4_0 : Int) (l4_1 : List TWrite) (l4_3 : TStore) : ∀ (n_ : Nat) (l4_2 : Int) (l4_4 : TStore) (r_ : TStore), diwanref13_Write.lp4 fu l4_0 l4_1 l4_3 n_ l4_2 l4_4 = some r_ → WK Try.prog diwanref13_Write.O (Ck Try.prog) (cB (cR (cL (cR (cR bd61))))) [] (ofL [Tm 1 (iv l4_0), Tm 2 (sS 3 TWrite.en l4_1), Tm 6 (.ptr 6 0), Tm 7 (.ptr 7 0), Tm 8 (iv l4_2), Ob 6 [sO 2 TChain.en l4_3.Chains, iv l4_3.Mark], Ob 7 [sO 2 TChain.en l4_4.Chains, iv l4_4.Mark]]) (diwanref13_Write.lp4_post l4_0 l4_1 l4_3 r_) := by
 intro n_
 induction n_ with
 | zero => intro l4_2 l4_4 r_ h; exact no_none h
 | succ n_ ih =>
  intro l4_2 l4_4 r_ h
  refine kLp ?_
  refine kSq ?_
  refine kRs 127 [Tm 21 (bv (decide (l4_2 < (l4_1.length : Int))))] [.s (.t 20) [iv (l4_1.length : Int)]] (.c (c_len (e := TWrite.en) (l := l4_1)) .n) ?_
  rcases br_inv h with ⟨b6_0, h⟩ | ⟨b6_0, h⟩
  ·refine kCt b6_0 ?_
   refine kSk ?_
   refine kCd (cR (cB (cB (cR (cL (cR (cR bd61))))))) [.lp (cB (cR (cL (cR (cR bd61)))))] ?_
   refine kSq ?_
   refine kBk 1 ?_
   obtain ⟨x7_1, a7_2, e7_3, h⟩ := ix_inv h
   refine kRs 254 [Tm 9 (.ptr 9 0), Ob 9 (TWrite.ob x7_1)] [.c (TWrite.en x7_1)] (.c (c_ix (e := TWrite.en) a7_2 e7_3) (.c (c_el (e := TWrite.en) e7_3) .n)) ?_
   refine kRs 511 [Tm 10 (iv 0)] [] .n ?_
   refine kSq ?_
   refine kBk 2 ?_
   obtain ⟨o13, ho13, h⟩ := bd_inv h
   refine kUs (diwanref13_Write.lp9_ok fu l4_0 l4_1 l4_2 l4_3 l4_4 x7_1 _ 0 _ ho13) ?_
   intro e_ τ_ hp_
   obtain ⟨y13_0, rfl⟩ : ∃ y, y = o13 := ⟨_, rfl⟩
   obtain ⟨rfl, rfl⟩ := hp_
   refine kCd (cR (cR (cR (cB (cL (cR (cB (cB (cR (cL (cR (cR bd61)))))))))))) [.blk 1, .seq (cR (cR (cB (cB (cR (cL (cR (cR bd61)))))))), .lp (cB (cR (cL (cR (cR bd61)))))] ?_
   obtain ⟨k24, hk24, h⟩ := jn_inv h
   have Jk24 : ∀ (j24_5 : TStore), k24 j24_5 = some r_ → WK Try.prog diwanref13_Write.O (Ck Try.prog) (cR (cR (cR (cR (cB (cL (cR (cB (cB (cR (cL (cR (cR bd61))))))))))))) [.blk 1, .seq (cR (cR (cB (cB (cR (cL (cR (cR bd61)))))))), .lp (cB (cR (cL (cR (cR bd61)))))] (ofL [Tm 1 (iv l4_0), Tm 2 (sS 3 TWrite.en l4_1), Tm 6 (.ptr 6 0), Tm 7 (.ptr 7 0), Tm 8 (iv l4_2), Tm 9 (.ptr 9 0), Tm 10 (iv y13_0), Ob 6 [sO 2 TChain.en l4_3.Chains, iv l4_3.Mark], Ob 7 [sO 2 TChain.en j24_5.Chains, iv j24_5.Mark], Ob 9 (TWrite.ob x7_1)]) (diwanref13_Write.lp4_post l4_0 l4_1 l4_3 r_) := by
    intro j24_5 h
    rw [hk24] at h
    obtain ⟨x25_1, a25_2, e25_3, h⟩ := ix_inv h
    obtain ⟨r25_4, h25_5, h⟩ := bd_inv h
    obtain ⟨x25_6, a25_7, e25_8, h⟩ := ix_inv h
    refine kRc 159 [Ob 7 [sO 2 TChain.en (j24_5.Chains.set y13_0.toNat (TChain.mk x25_6.Key r25_4)), iv j24_5.Mark]] [.c (TChain.en x25_1), .a ⟨sO 3 TVersion.en r25_4, []⟩, .c (TChain.en x25_6), .s (.o 7) [sO 2 TChain.en (j24_5.Chains.set y13_0.toNat (TChain.mk x25_6.Key r25_4)), iv j24_5.Mark]] (.c (c_ix (e := TChain.en) a25_2 e25_3) (.c (c_el (e := TChain.en) e25_3) (.c (Asks.of (C := Meets Try.prog) (diwanref13_Add.meets x25_1.L (TVersion.mk l4_0 x7_1.Val x7_1.Gone) _ h25_5)) (.c (c_ix (e := TChain.en) a25_7 e25_8) (.c (c_el (e := TChain.en) e25_8) (.c (congrArg (fun d : DV => [AV.data d, iv j24_5.Mark]) (c_set (e := TChain.en) (s := 2) (nl := none) (l := j24_5.Chains) (i := y13_0.toNat) (x := (TChain.mk x25_6.Key r25_4)))) (.c rT .n))))))) (cR (cR (cB (cB (cR (cL (cR (cR bd61)))))))) [.lp (cB (cR (cL (cR (cR bd61)))))] ?_
    refine kRc 95 [Tm 8 (iv (w64 (l4_2 + 1)))] [] .n (cB (cR (cL (cR (cR bd61))))) [] ?_
    exact kWk (ih (w64 (l4_2 + 1)) (TStore.mk (j24_5.Chains.set y13_0.toNat (TChain.mk x25_6.Key r25_4)) j24_5.Mark) _ h)
   clear hk24
   refine kSq ?_
   rcases br_inv h with ⟨b14_1, h⟩ | ⟨b14_1, h⟩
   ·refine kRs 1023 [Tm 61 (bv true)] (.s (.t 49) [iv (l4_4.Chains.length : Int)] :: (rp 10 (.b true) [])) (.c (c_len (e := TChain.en) (l := l4_4.Chains)) (.r 10 b14_1 (.c rT .n))) ?_
    refine kCt rT ?_
    refine kSq ?_
    refine kRs 2046 [Tm 63 (bv (decide (l4_0 < 1)))] [] .n ?_
    rcases br_inv h with ⟨b16_0, h⟩ | ⟨b16_0, h⟩
    ·refine kCt b16_0 ?_
     refine kXt 1 ?_
     refine kCd (cR (cR (cB (cB (cR (cL (cR (cR bd61)))))))) [.lp (cB (cR (cL (cR (cR bd61)))))] ?_
     refine kRc 798 [Tm 8 (iv (w64 (l4_2 + 1)))] [] .n (cB (cR (cL (cR (cR bd61))))) [] ?_
     exact kWk (ih (w64 (l4_2 + 1)) l4_4 _ h)
    ·refine kCe b16_0 ?_
     refine kSk ?_
     refine kCd (cR (cT (cR (cL (cR (cR (cR (cB (cL (cR (cB (cB (cR (cL (cR (cR bd61)))))))))))))))) [.seq (cR (cR (cR (cR (cB (cL (cR (cB (cB (cR (cL (cR (cR bd61))))))))))))), .blk 1, .seq (cR (cR (cB (cB (cR (cL (cR (cR bd61)))))))), .lp (cB (cR (cL (cR (cR bd61)))))] ?_
     refine kSo 7 0 1534 [Ob 7 [sS 2 TChain.en l4_4.Chains, iv l4_4.Mark]] ?_
     obtain ⟨c18_1, h⟩ := gd_inv h
     obtain ⟨c18_2, h⟩ := gd_inv h
     obtain ⟨c18_3, h⟩ := gd_inv h
     obtain ⟨c18_4, h⟩ := gd_inv h
     obtain ⟨c18_5, h⟩ := gd_inv h
     refine kRc 1022 [Ob 7 [sO 2 TChain.en (((List.take y13_0.toNat l4_4.Chains) ++ ([(TChain.mk x7_1.Key [])] : List TChain)) ++ (List.drop y13_0.toNat l4_4.Chains)), iv l4_4.Mark]] [.s (.t 68) [sS 2 TChain.en (List.take y13_0.toNat l4_4.Chains)], .s (.t 74) [sO 2 TChain.en ((List.take y13_0.toNat l4_4.Chains) ++ ([(TChain.mk x7_1.Key [])] : List TChain))], .s (.t 78) [sS 2 TChain.en (List.drop y13_0.toNat l4_4.Chains)], .s (.t 79) [sO 2 TChain.en (((List.take y13_0.toNat l4_4.Chains) ++ ([(TChain.mk x7_1.Key [])] : List TChain)) ++ (List.drop y13_0.toNat l4_4.Chains))]] (.c (c_cbH (e := TChain.en) c18_1) (.c (congrArg (fun d : DV => [AV.data d]) (c_cutH (own := false) (nl := none) (s := 2) (e := TChain.en) (l := l4_4.Chains) (h := y13_0.toNat))) (.c (c_al (e := TChain.en) (f := TChain.en) c18_2) (.c (c_al (e := TChain.en) (f := TChain.en) c18_3) (.c (congrArg (fun d : DV => [AV.data d]) (c_app (e := TChain.en) (s := 2) (l := (List.take y13_0.toNat l4_4.Chains)) (m := ([(TChain.mk x7_1.Key [])] : List TChain)))) (.c (c_cbL (e := TChain.en) c18_4) (.c (congrArg (fun d : DV => [AV.data d]) (c_cutL (own := false) (nl := none) (s := 2) (e := TChain.en) (l := l4_4.Chains) (lo := y13_0.toNat))) (.c (c_al (e := TChain.en) (f := TChain.en) c18_5) (.c (congrArg (fun d : DV => [AV.data d]) (c_app (e := TChain.en) (s := 2) (l := ((List.take y13_0.toNat l4_4.Chains) ++ ([(TChain.mk x7_1.Key [])] : List TChain))) (m := (List.drop y13_0.toNat l4_4.Chains)))) (.c rT .n)))))))))) (cR (cR (cR (cR (cB (cL (cR (cB (cB (cR (cL (cR (cR bd61))))))))))))) [.blk 1, .seq (cR (cR (cB (cB (cR (cL (cR (cR bd61)))))))), .lp (cB (cR (cL (cR (cR bd61)))))] ?_
     exact kWk (Jk24 (TStore.mk (((List.take y13_0.toNat l4_4.Chains) ++ ([(TChain.mk x7_1.Key [])] : List TChain)) ++ (List.drop y13_0.toNat l4_4.Chains)) l4_4.Mark) h)
   ·obtain ⟨x14_2, a14_3, e14_4, h⟩ := ix_inv h
    refine kRs 1023 [Tm 61 (bv (!(x14_2.Key.toList == x7_1.Key.toList)))] (.s (.t 49) [iv (l4_4.Chains.length : Int)] :: (rp 6 (.b false) (.c (TChain.en x14_2) :: (rp 4 (.b false) [])))) (.c (c_len (e := TChain.en) (l := l4_4.Chains)) (.r 4 b14_1 (.c (c_ix (e := TChain.en) a14_3 e14_4) (.r 2 b14_1 (.c (c_el (e := TChain.en) e14_4) (.r 4 b14_1 (.c rT .n))))))) ?_
    rcases br_inv h with ⟨b19_0, h⟩ | ⟨b19_0, h⟩
    ·refine kCt b19_0 ?_
     refine kSq ?_
     refine kRs 2046 [Tm 63 (bv (decide (l4_0 < 1)))] [] .n ?_
     rcases br_inv h with ⟨b21_0, h⟩ | ⟨b21_0, h⟩
     ·refine kCt b21_0 ?_
      refine kXt 1 ?_
      refine kCd (cR (cR (cB (cB (cR (cL (cR (cR bd61)))))))) [.lp (cB (cR (cL (cR (cR bd61)))))] ?_
      refine kRc 798 [Tm 8 (iv (w64 (l4_2 + 1)))] [] .n (cB (cR (cL (cR (cR bd61))))) [] ?_
      exact kWk (ih (w64 (l4_2 + 1)) l4_4 _ h)
     ·refine kCe b21_0 ?_
      refine kSk ?_
      refine kCd (cR (cT (cR (cL (cR (cR (cR (cB (cL (cR (cB (cB (cR (cL (cR (cR bd61)))))))))))))))) [.seq (cR (cR (cR (cR (cB (cL (cR (cB (cB (cR (cL (cR (cR bd61))))))))))))), .blk 1, .seq (cR (cR (cB (cB (cR (cL (cR (cR bd61)))))))), .lp (cB (cR (cL (cR (cR bd61)))))] ?_
      refine kSo 7 0 1534 [Ob 7 [sS 2 TChain.en l4_4.Chains, iv l4_4.Mark]] ?_
      obtain ⟨c23_1, h⟩ := gd_inv h
      obtain ⟨c23_2, h⟩ := gd_inv h
      obtain ⟨c23_3, h⟩ := gd_inv h
      obtain ⟨c23_4, h⟩ := gd_inv h
      obtain ⟨c23_5, h⟩ := gd_inv h
      refine kRc 1022 [Ob 7 [sO 2 TChain.en (((List.take y13_0.toNat l4_4.Chains) ++ ([(TChain.mk x7_1.Key [])] : List TChain)) ++ (List.drop y13_0.toNat l4_4.Chains)), iv l4_4.Mark]] [.s (.t 68) [sS 2 TChain.en (List.take y13_0.toNat l4_4.Chains)], .s (.t 74) [sO 2 TChain.en ((List.take y13_0.toNat l4_4.Chains) ++ ([(TChain.mk x7_1.Key [])] : List TChain))], .s (.t 78) [sS 2 TChain.en (List.drop y13_0.toNat l4_4.Chains)], .s (.t 79) [sO 2 TChain.en (((List.take y13_0.toNat l4_4.Chains) ++ ([(TChain.mk x7_1.Key [])] : List TChain)) ++ (List.drop y13_0.toNat l4_4.Chains))]] (.c (c_cbH (e := TChain.en) c23_1) (.c (congrArg (fun d : DV => [AV.data d]) (c_cutH (own := false) (nl := none) (s := 2) (e := TChain.en) (l := l4_4.Chains) (h := y13_0.toNat))) (.c (c_al (e := TChain.en) (f := TChain.en) c23_2) (.c (c_al (e := TChain.en) (f := TChain.en) c23_3) (.c (congrArg (fun d : DV => [AV.data d]) (c_app (e := TChain.en) (s := 2) (l := (List.take y13_0.toNat l4_4.Chains)) (m := ([(TChain.mk x7_1.Key [])] : List TChain)))) (.c (c_cbL (e := TChain.en) c23_4) (.c (congrArg (fun d : DV => [AV.data d]) (c_cutL (own := false) (nl := none) (s := 2) (e := TChain.en) (l := l4_4.Chains) (lo := y13_0.toNat))) (.c (c_al (e := TChain.en) (f := TChain.en) c23_5) (.c (congrArg (fun d : DV => [AV.data d]) (c_app (e := TChain.en) (s := 2) (l := ((List.take y13_0.toNat l4_4.Chains) ++ ([(TChain.mk x7_1.Key [])] : List TChain))) (m := (List.drop y13_0.toNat l4_4.Chains)))) (.c rT .n)))))))))) (cR (cR (cR (cR (cB (cL (cR (cB (cB (cR (cL (cR (cR bd61))))))))))))) [.blk 1, .seq (cR (cR (cB (cB (cR (cL (cR (cR bd61)))))))), .lp (cB (cR (cL (cR (cR bd61)))))] ?_
      exact kWk (Jk24 (TStore.mk (((List.take y13_0.toNat l4_4.Chains) ++ ([(TChain.mk x7_1.Key [])] : List TChain)) ++ (List.drop y13_0.toNat l4_4.Chains)) l4_4.Mark) h)
    ·refine kCe b19_0 ?_
     refine kSk ?_
     refine kCd (cR (cR (cR (cR (cB (cL (cR (cB (cB (cR (cL (cR (cR bd61))))))))))))) [.blk 1, .seq (cR (cR (cB (cB (cR (cL (cR (cR bd61)))))))), .lp (cB (cR (cL (cR (cR bd61)))))] ?_
     exact kWk (Jk24 l4_4 h)
  ·refine kCe b6_0 ?_
   cases some_inj h
   refine kWo ?_
   refine kXt 0 ?_
   exact kOut
def diwanref13_Write (fu : Nat) (s : TStore) (pos : Int) (l : List TWrite) : Option TStore :=
 gd (decide (([] : List TChain).length + s.Chains.length ≤ 4294967296)) <|
 bd (diwanref13_Write.lp4 fu pos l (TStore.mk [] 0) fu 0 s) fun y27_0 =>
 some y27_0
theorem diwanref13_Write.meets (fu : Nat) (s : TStore) (pos : Int) (l : List TWrite) (z0 : TStore) (h : diwanref13_Write fu s pos l = some z0) : Meets Try.prog ⟨61, [.data (.agg [.slc false none 2 (List.map TChain.en s.Chains), .val (.int .i64 s.Mark)]), iv pos, sS 3 TWrite.en l], []⟩ ⟨.data (.agg [.slc true none 2 (List.map TChain.en z0.Chains), .val (.int .i64 z0.Mark)]), []⟩ := by
 refine kMt hmix diwanref13_Write.O Try.f61 bd61 7 ?_
 unfold diwanref13_Write at h
 refine kRs 6 [Tm 3 (.ptr 3 0), Tm 6 (.ptr 6 0), Ob 3 [sS 2 TChain.en s.Chains, iv s.Mark], Ob 6 [.data (.slc true none 2 (List.map TChain.en [])), iv 0]] [] .n ?_
 obtain ⟨c2_1, h⟩ := gd_inv h
 refine kRs 58 [Tm 7 (.ptr 7 0), Ob 7 [sO 2 TChain.en s.Chains, iv s.Mark]] [] (.c (c_al (e := TChain.en) (f := TChain.en) c2_1) (.c rT .n)) ?_
 refine kSq ?_
 refine kRs 63 [Tm 8 (iv 0)] [] .n ?_
 refine kBk 0 ?_
 obtain ⟨o27, ho27, h⟩ := bd_inv h
 refine kUs (diwanref13_Write.lp4_ok fu pos l (TStore.mk [] 0) _ 0 s _ ho27) ?_
 intro e_ τ_ hp_
 obtain ⟨y27_0, rfl⟩ : ∃ y, y = o27 := ⟨_, rfl⟩
 obtain ⟨rfl, rfl⟩ := hp_
 refine kCd (cR (cR (cR bd61))) [] ?_
 refine kRs 1 [Ob 6 [sO 2 TChain.en y27_0.Chains, iv y27_0.Mark]] [] .n ?_
 refine kRt ?_
 have h_ := some_inj h
 subst h_
 exact kFr
def bd35 : Code := (Try.f35.body).getD .skip
def diwanref13_Advance.O : Nat → Nat := fun t => bif ([3, 4, 6, 7, 8, 9, 10, 11, 12, 13, 14, 15, 32, 58, 76, 78, 85, 86, 88, 93, 94, 98, 99, 136, 138] : List Nat).any (Nat.beq t) then 1 else 0
def diwanref13_Advance.lp5 (fu : Nat) (l5_0 : List Int) (l5_1 : List TSeat) (l5_2 : Bool) (l5_5 : TShard) (l5_6 : TTxn) (l5_7 : TShard) : Nat → (List Int) → Int → Option (List Int)
  | 0, _, _ => none
  | n_ + 1, l5_3, l5_4 =>
  br (decide (l5_4 < (l5_3.length : Int)))
   (jn (fun (j11_3 : List Int) =>
    br (l5_4 == l5_5.ID)
     (bd (diwanref13_Bit fu l5_5 l5_6) fun r14_1 =>
     ix j11_3 l5_4 fun x14_3 =>
     diwanref13_Advance.lp5 fu l5_0 l5_1 l5_2 l5_5 l5_6 l5_7 n_ (j11_3.set l5_4.toNat r14_1) (w64 (l5_4 + 1)))
     (diwanref13_Advance.lp5 fu l5_0 l5_1 l5_2 l5_5 l5_6 l5_7 n_ j11_3 (w64 (l5_4 + 1)))) fun k11 =>
   br (decide (l5_4 < (l5_0.length : Int)))
    (ix l5_0 l5_4 fun x10_1 =>
    ix l5_3 l5_4 fun x10_4 =>
    k11 (l5_3.set l5_4.toNat x10_1))
    (k11 l5_3))
   (some l5_3)
def diwanref13_Advance.lp5_post (l5_0 : List Int) (l5_1 : List TSeat) (l5_2 : Bool) (l5_5 : TShard) (l5_6 : TTxn) (l5_7 : TShard) (r_ : (List Int)) : Wy → St → Prop := fun e τ => match r_ with
  | y0 => e = .exit 0 ∧ τ = ofL [Tm 3 (.ptr 3 0), Tm 4 (.ptr 4 0), Tm 6 (.ptr 6 0), Tm 8 (sS 3 TSeat.en l5_1), Tm 9 (bv l5_2), Tm 10 (.data (.slc true (some false) 1 (List.map e_i64 y0))), Ob 3 (TShard.ob l5_5), Ob 4 (TTxn.ob l5_6), Ob 6 (TShard.ob_00010111 l5_7)]
theorem diwanref13_Advance.lp5_ok (fu : Nat) (l5_0 : List Int) (l5_1 : List TSeat) (l5_2 : Bool) (l5_5 : TShard) (l5_6 : TTxn) (l5_7 : TShard) : ∀ (n_ : Nat) (l5_3 : List Int) (l5_4 : Int) (r_ : (List Int)), diwanref13_Advance.lp5 fu l5_0 l5_1 l5_2 l5_5 l5_6 l5_7 n_ l5_3 l5_4 = some r_ → WK Try.prog diwanref13_Advance.O (Ck Try.prog) (cB (cR (cL (cR (cR (cR bd35)))))) [] (ofL [Tm 2 (sS 1 e_i64 l5_0), Tm 3 (.ptr 3 0), Tm 4 (.ptr 4 0), Tm 6 (.ptr 6 0), Tm 8 (sS 3 TSeat.en l5_1), Tm 9 (bv l5_2), Tm 10 (.data (.slc true (some false) 1 (List.map e_i64 l5_3))), Tm 11 (iv l5_4), Ob 3 (TShard.ob l5_5), Ob 4 (TTxn.ob l5_6), Ob 6 (TShard.ob_00010111 l5_7)]) (diwanref13_Advance.lp5_post l5_0 l5_1 l5_2 l5_5 l5_6 l5_7 r_) := by
 intro n_
 induction n_ with
 | zero => intro l5_3 l5_4 r_ h; exact no_none h
 | succ n_ ih =>
  intro l5_3 l5_4 r_ h
  refine kLp ?_
  refine kSq ?_
  refine kRs 2047 [Tm 36 (bv (decide (l5_4 < (l5_3.length : Int))))] [.s (.t 35) [iv (l5_3.length : Int)]] (.c (c_len (e := e_i64) (l := l5_3)) .n) ?_
  rcases br_inv h with ⟨b7_0, h⟩ | ⟨b7_0, h⟩
  ·refine kCt b7_0 ?_
   refine kSk ?_
   refine kCd (cR (cB (cB (cR (cL (cR (cR (cR bd35)))))))) [.lp (cB (cR (cL (cR (cR (cR bd35))))))] ?_
   refine kSq ?_
   refine kBk 1 ?_
   obtain ⟨k11, hk11, h⟩ := jn_inv h
   have Jk11 : ∀ (j11_3 : List Int), k11 j11_3 = some r_ → WK Try.prog diwanref13_Advance.O (Ck Try.prog) (cR (cB (cL (cR (cB (cB (cR (cL (cR (cR (cR bd35))))))))))) [.blk 1, .seq (cR (cR (cB (cB (cR (cL (cR (cR (cR bd35))))))))), .lp (cB (cR (cL (cR (cR (cR bd35))))))] (ofL [Tm 2 (sS 1 e_i64 l5_0), Tm 3 (.ptr 3 0), Tm 4 (.ptr 4 0), Tm 6 (.ptr 6 0), Tm 8 (sS 3 TSeat.en l5_1), Tm 9 (bv l5_2), Tm 10 (.data (.slc true (some false) 1 (List.map e_i64 j11_3))), Tm 11 (iv l5_4), Ob 3 (TShard.ob l5_5), Ob 4 (TTxn.ob l5_6), Ob 6 (TShard.ob_00010111 l5_7)]) (diwanref13_Advance.lp5_post l5_0 l5_1 l5_2 l5_5 l5_6 l5_7 r_) := by
    intro j11_3 h
    rw [hk11] at h
    refine kRs 2047 [Tm 53 (bv (l5_4 == l5_5.ID))] [] .n ?_
    rcases br_inv h with ⟨b13_0, h⟩ | ⟨b13_0, h⟩
    ·refine kCt b13_0 ?_
     obtain ⟨r14_1, h14_2, h⟩ := bd_inv h
     obtain ⟨x14_3, a14_4, e14_5, h⟩ := ix_inv h
     refine kRc 3966 [Tm 10 (.data (.slc true (some false) 1 (List.map e_i64 (j11_3.set l5_4.toNat r14_1))))] [.a ⟨iv r14_1, []⟩, .c (e_i64 x14_3), .s (.t 10) [.data (.slc true (some false) 1 (List.map e_i64 (j11_3.set l5_4.toNat r14_1)))]] (.c (Asks.of (C := Meets Try.prog) (diwanref13_Bit.meets fu l5_5 l5_6 _ h14_2)) (.c (c_ix (e := e_i64) a14_4 e14_5) (.c (c_el (e := e_i64) e14_5) (.c (congrArg (fun d : DV => [AV.data d]) (c_set (e := e_i64) (s := 1) (nl := (some false)) (l := j11_3) (i := l5_4.toNat) (x := r14_1))) .n)))) (cR (cR (cB (cB (cR (cL (cR (cR (cR bd35))))))))) [.lp (cB (cR (cL (cR (cR (cR bd35))))))] ?_
     refine kRc 1919 [Tm 11 (iv (w64 (l5_4 + 1)))] [] .n (cB (cR (cL (cR (cR (cR bd35)))))) [] ?_
     exact kWk (ih (j11_3.set l5_4.toNat r14_1) (w64 (l5_4 + 1)) _ h)
    ·refine kCe b13_0 ?_
     refine kSk ?_
     refine kCd (cR (cR (cB (cB (cR (cL (cR (cR (cR bd35))))))))) [.lp (cB (cR (cL (cR (cR (cR bd35))))))] ?_
     refine kRc 3838 [Tm 11 (iv (w64 (l5_4 + 1)))] [] .n (cB (cR (cL (cR (cR (cR bd35)))))) [] ?_
     exact kWk (ih j11_3 (w64 (l5_4 + 1)) _ h)
   clear hk11
   refine kSq ?_
   refine kRs 4094 [Tm 42 (bv (decide (l5_4 < (l5_0.length : Int))))] [.s (.t 41) [iv (l5_0.length : Int)]] (.c (c_len (e := e_i64) (l := l5_0)) .n) ?_
   rcases br_inv h with ⟨b9_0, h⟩ | ⟨b9_0, h⟩
   ·refine kCt b9_0 ?_
    obtain ⟨x10_1, a10_2, e10_3, h⟩ := ix_inv h
    obtain ⟨x10_4, a10_5, e10_6, h⟩ := ix_inv h
    refine kRc 3966 [Tm 10 (.data (.slc true (some false) 1 (List.map e_i64 (l5_3.set l5_4.toNat x10_1))))] [.c (e_i64 x10_1), .c (e_i64 x10_4), .s (.t 10) [.data (.slc true (some false) 1 (List.map e_i64 (l5_3.set l5_4.toNat x10_1)))]] (.c (c_ix (e := e_i64) a10_2 e10_3) (.c (c_el (e := e_i64) e10_3) (.c (c_ix (e := e_i64) a10_5 e10_6) (.c (c_el (e := e_i64) e10_6) (.c (congrArg (fun d : DV => [AV.data d]) (c_set (e := e_i64) (s := 1) (nl := (some false)) (l := l5_3) (i := l5_4.toNat) (x := x10_1))) .n))))) (cR (cB (cL (cR (cB (cB (cR (cL (cR (cR (cR bd35))))))))))) [.blk 1, .seq (cR (cR (cB (cB (cR (cL (cR (cR (cR bd35))))))))), .lp (cB (cR (cL (cR (cR (cR bd35))))))] ?_
    exact kWk (Jk11 (l5_3.set l5_4.toNat x10_1) h)
   ·refine kCe b9_0 ?_
    refine kSk ?_
    refine kCd (cR (cB (cL (cR (cB (cB (cR (cL (cR (cR (cR bd35))))))))))) [.blk 1, .seq (cR (cR (cB (cB (cR (cL (cR (cR (cR bd35))))))))), .lp (cB (cR (cL (cR (cR (cR bd35))))))] ?_
    exact kWk (Jk11 l5_3 h)
  ·refine kCe b7_0 ?_
   cases some_inj h
   refine kWo ?_
   refine kXt 0 ?_
   exact kOut
def diwanref13_Advance.lp38 (fu : Nat) (l38_2 : TShard) (l38_3 : TTxn) (l38_4 : TShard) (l38_5 : TShard) : Nat → (List TWrite) → Int → Option (List TWrite)
  | 0, _, _ => none
  | n_ + 1, l38_0, l38_1 =>
  br (decide (l38_1 < (l38_3.Writes.length : Int)))
   (ix l38_3.Writes l38_1 fun x41_1 =>
   bd (diwanref1_ShardOf fu x41_1.Key l38_2.Shards) fun r41_4 =>
   br (r41_4 == l38_2.ID)
    (ix l38_3.Writes l38_1 fun x43_1 =>
    gd (decide (l38_0.length + ([x43_1] : List TWrite).length ≤ 4294967296)) <|
    diwanref13_Advance.lp38 fu l38_2 l38_3 l38_4 l38_5 n_ (l38_0 ++ ([x43_1] : List TWrite)) (w64 (l38_1 + 1)))
    (diwanref13_Advance.lp38 fu l38_2 l38_3 l38_4 l38_5 n_ l38_0 (w64 (l38_1 + 1))))
   (some l38_0)
def diwanref13_Advance.lp38_post (l38_2 : TShard) (l38_3 : TTxn) (l38_4 : TShard) (l38_5 : TShard) (r_ : (List TWrite)) : Wy → St → Prop := fun e τ => match r_ with
  | y0 => e = .exit 2 ∧ τ = ofL [Tm 3 (.ptr 3 0), Tm 6 (.ptr 6 0), Tm 13 (.ptr 13 0), Tm 14 (sO 3 TWrite.en y0), Ob 3 (TShard.ob l38_2), Ob 6 (TShard.ob_00010111 l38_4), Ob 13 (TShard.ob_00000011 l38_5)]
theorem diwanref13_Advance.lp38_ok (fu : Nat) (l38_2 : TShard) (l38_3 : TTxn) (l38_4 : TShard) (l38_5 : TShard) : ∀ (n_ : Nat) (l38_0 : List TWrite) (l38_1 : Int) (r_ : (List TWrite)), diwanref13_Advance.lp38 fu l38_2 l38_3 l38_4 l38_5 n_ l38_0 l38_1 = some r_ → WK Try.prog diwanref13_Advance.O (Ck Try.prog) (cB (cR (cL (cR (cT (cR (cL (cR (cR (cR (cR (cR (cR (cR (cR (cR (cR (cR (cR bd35))))))))))))))))))) [] (ofL [Tm 3 (.ptr 3 0), Tm 4 (.ptr 4 0), Tm 6 (.ptr 6 0), Tm 13 (.ptr 13 0), Tm 14 (sO 3 TWrite.en l38_0), Tm 15 (iv l38_1), Ob 3 (TShard.ob l38_2), Ob 4 (TTxn.ob l38_3), Ob 6 (TShard.ob_00010111 l38_4), Ob 13 (TShard.ob_00000011 l38_5)]) (diwanref13_Advance.lp38_post l38_2 l38_3 l38_4 l38_5 r_) := by
 intro n_
 induction n_ with
 | zero => intro l38_0 l38_1 r_ h; exact no_none h
 | succ n_ ih =>
  intro l38_0 l38_1 r_ h
  refine kLp ?_
  refine kSq ?_
  refine kRs 1023 [Tm 108 (bv (decide (l38_1 < (l38_3.Writes.length : Int))))] [.s (.t 107) [iv (l38_3.Writes.length : Int)]] (.c (c_len (e := TWrite.en) (l := l38_3.Writes)) .n) ?_
  rcases br_inv h with ⟨b40_0, h⟩ | ⟨b40_0, h⟩
  ·refine kCt b40_0 ?_
   refine kSk ?_
   refine kCd (cR (cB (cB (cR (cL (cR (cT (cR (cL (cR (cR (cR (cR (cR (cR (cR (cR (cR (cR (cR (cR bd35))))))))))))))))))))) [.lp (cB (cR (cL (cR (cT (cR (cL (cR (cR (cR (cR (cR (cR (cR (cR (cR (cR (cR (cR bd35)))))))))))))))))))] ?_
   refine kSq ?_
   refine kBk 3 ?_
   obtain ⟨x41_1, a41_2, e41_3, h⟩ := ix_inv h
   obtain ⟨r41_4, h41_5, h⟩ := bd_inv h
   refine kRs 2046 [Tm 122 (bv (r41_4 == l38_2.ID))] [.c (TWrite.en x41_1), .a ⟨iv r41_4, []⟩] (.c (c_ix (e := TWrite.en) a41_2 e41_3) (.c (c_el (e := TWrite.en) e41_3) (.c (Asks.of (C := Meets Try.prog) (diwanref1_ShardOf.meets fu x41_1.Key l38_2.Shards _ h41_5)) (.c rT .n)))) ?_
   rcases br_inv h with ⟨b42_0, h⟩ | ⟨b42_0, h⟩
   ·refine kCt b42_0 ?_
    obtain ⟨x43_1, a43_2, e43_3, h⟩ := ix_inv h
    obtain ⟨c43_4, h⟩ := gd_inv h
    refine kRc 2014 [Tm 14 (sO 3 TWrite.en (l38_0 ++ ([x43_1] : List TWrite)))] [.c (TWrite.en x43_1), .s (.t 130) [sO 3 TWrite.en (l38_0 ++ ([x43_1] : List TWrite))]] (.c (c_ix (e := TWrite.en) a43_2 e43_3) (.c (c_el (e := TWrite.en) e43_3) (.c (c_al (e := TWrite.en) (f := TWrite.en) c43_4) (.c (congrArg (fun d : DV => [AV.data d]) (c_app (e := TWrite.en) (s := 3) (l := l38_0) (m := ([x43_1] : List TWrite)))) .n)))) (cR (cR (cB (cB (cR (cL (cR (cT (cR (cL (cR (cR (cR (cR (cR (cR (cR (cR (cR (cR (cR (cR bd35)))))))))))))))))))))) [.lp (cB (cR (cL (cR (cT (cR (cL (cR (cR (cR (cR (cR (cR (cR (cR (cR (cR (cR (cR bd35)))))))))))))))))))] ?_
    refine kRc 991 [Tm 15 (iv (w64 (l38_1 + 1)))] [] .n (cB (cR (cL (cR (cT (cR (cL (cR (cR (cR (cR (cR (cR (cR (cR (cR (cR (cR (cR bd35))))))))))))))))))) [] ?_
    exact kWk (ih (l38_0 ++ ([x43_1] : List TWrite)) (w64 (l38_1 + 1)) _ h)
   ·refine kCe b42_0 ?_
    refine kSk ?_
    refine kCd (cR (cR (cB (cB (cR (cL (cR (cT (cR (cL (cR (cR (cR (cR (cR (cR (cR (cR (cR (cR (cR (cR bd35)))))))))))))))))))))) [.lp (cB (cR (cL (cR (cT (cR (cL (cR (cR (cR (cR (cR (cR (cR (cR (cR (cR (cR (cR bd35)))))))))))))))))))] ?_
    refine kRc 1982 [Tm 15 (iv (w64 (l38_1 + 1)))] [] .n (cB (cR (cL (cR (cT (cR (cL (cR (cR (cR (cR (cR (cR (cR (cR (cR (cR (cR (cR bd35))))))))))))))))))) [] ?_
    exact kWk (ih l38_0 (w64 (l38_1 + 1)) _ h)
  ·refine kCe b40_0 ?_
   cases some_inj h
   refine kWo ?_
   refine kXt 2 ?_
   exact kOut
def diwanref13_Advance (fu : Nat) (s : TShard) (t : TTxn) (bits : List Int) : Option (TShard × Bool) :=
 bd (diwanref13_Turn fu s.Seats t.Session t.Seq (w64 (s.Done + 1))) fun (r2_1, r2_2) =>
 gd (decide ((0 : Int) ≤ (if s.Shards < 0 then 0 else s.Shards) ∧ (if s.Shards < 0 then 0 else s.Shards) ≤ (if s.Shards < 0 then 0 else s.Shards) ∧ (if s.Shards < 0 then 0 else s.Shards) ≤ 4294967296)) <|
 bd (diwanref13_Advance.lp5 fu bits r2_1 r2_2 s t (TShard.mk 0 0 0 (TStore.mk [] 0) [] [] []) fu (List.replicate (if s.Shards < 0 then 0 else s.Shards).toNat (0 : Int)) 0) fun y17_0 =>
 bd (diwanref13_Verdict fu t s.Shards y17_0) fun r18_1 =>
 jn (fun (j22_2 : Int) =>
  jn (fun (j26_1 : Int) =>
   br (j26_1 == 0)
    (some (s, false))
    (gd (decide (([] : List Int).length + s.Bits.length ≤ 4294967296)) <|
    bd (diwanref13_Bit fu s t) fun r31_2 =>
    gd (decide (s.Bits.length + ([r31_2] : List Int).length ≤ 4294967296)) <|
    gd (decide (([] : List Int).length + s.Said.length ≤ 4294967296)) <|
    gd (decide (s.Said.length + ([j26_1] : List Int).length ≤ 4294967296)) <|
    br (j26_1 == 1)
     (bd (diwanref13_Advance.lp38 fu s t (TShard.mk 0 0 0 (TStore.mk [] 0) [] [] []) (TShard.mk s.ID s.Shards (w64 (s.Done + 1)) s.S r2_1 (s.Bits ++ ([r31_2] : List Int)) (s.Said ++ ([j26_1] : List Int))) fu [] 0) fun y46_0 =>
     bd (diwanref13_Write fu s.S (w64 (s.Done + 1)) y46_0) fun r47_1 =>
     some ((TShard.mk s.ID s.Shards (w64 (s.Done + 1)) r47_1 r2_1 (s.Bits ++ ([r31_2] : List Int)) (s.Said ++ ([j26_1] : List Int))), true))
     (some ((TShard.mk s.ID s.Shards (w64 (s.Done + 1)) s.S r2_1 (s.Bits ++ ([r31_2] : List Int)) (s.Said ++ ([j26_1] : List Int))), true)))) fun k26 =>
  br (!r2_2)
   (k26 3)
   (k26 j22_2)) fun k22 =>
 bd (diwanref1_Touches fu t s.ID s.Shards) fun r19_1 =>
 br (!r19_1)
  (k22 4)
  (k22 r18_1)
theorem diwanref13_Advance.meets (fu : Nat) (s : TShard) (t : TTxn) (bits : List Int) (z0 : TShard) (z1 : Bool) (h : diwanref13_Advance fu s t bits = some (z0, z1)) : Meets Try.prog ⟨35, [.data (TShard.ag s), .data (TTxn.ag t), sS 1 e_i64 bits], []⟩ ⟨.tup [.data (TShard.ag z0), bv z1], []⟩ := by
 refine kMt hmix diwanref13_Advance.O Try.f35 bd35 7 ?_
 unfold diwanref13_Advance at h
 refine kRs 4 [Tm 3 (.ptr 3 0), Tm 4 (.ptr 4 0), Tm 6 (.ptr 6 0), Ob 3 (TShard.ob s), Ob 4 (TTxn.ob t), Ob 6 (TShard.ob_00010111 (TShard.mk 0 0 0 (TStore.mk [] 0) [] [] []))] [] .n ?_
 obtain ⟨⟨r2_1, r2_2⟩, h2_3, h⟩ := bd_inv h
 refine kRs 127 [Tm 8 (sS 3 TSeat.en r2_1), Tm 9 (bv r2_2)] [.a ⟨.tup [sS 3 TSeat.en r2_1, bv r2_2], []⟩] (.c (Asks.of (C := Meets Try.prog) (diwanref13_Turn.meets fu s.Seats t.Session t.Seq (w64 (s.Done + 1)) _ _ h2_3)) .n) ?_
 obtain ⟨c3_1, h⟩ := gd_inv h
 refine kRs 511 [Tm 10 (.data (.slc true (some false) 1 (List.map e_i64 (List.replicate (if s.Shards < 0 then 0 else s.Shards).toNat (0 : Int)))))] [.s (.t 32) [.data (.slc true (some false) 1 (List.map e_i64 (List.replicate (if s.Shards < 0 then 0 else s.Shards).toNat (0 : Int))))]] (.c c3_1 (.c (congrArg (fun d : DV => [AV.data d]) (c_rep (e := e_i64) (s := 1) (n := (if s.Shards < 0 then 0 else s.Shards).toNat) (x := 0))) .n)) ?_
 refine kSq ?_
 refine kRs 1023 [Tm 11 (iv 0)] [] .n ?_
 refine kBk 0 ?_
 obtain ⟨o17, ho17, h⟩ := bd_inv h
 refine kUs (diwanref13_Advance.lp5_ok fu bits r2_1 r2_2 s t (TShard.mk 0 0 0 (TStore.mk [] 0) [] [] []) _ (List.replicate (if s.Shards < 0 then 0 else s.Shards).toNat (0 : Int)) 0 _ ho17) ?_
 intro e_ τ_ hp_
 obtain ⟨y17_0, rfl⟩ : ∃ y, y = o17 := ⟨_, rfl⟩
 obtain ⟨rfl, rfl⟩ := hp_
 refine kCd (cR (cR (cR (cR bd35)))) [] ?_
 obtain ⟨r18_1, h18_2, h⟩ := bd_inv h
 refine kRs 479 [Tm 12 (iv r18_1)] [.a ⟨iv r18_1, []⟩] (.c (Asks.fg (args1 := [.data (TTxn.ag t), iv s.Shards]) (args2 := []) (nl := some false) (sz := 1) (es := List.map e_i64 y17_0) (Asks.of (C := Meets Try.prog) (diwanref13_Verdict.meets fu t s.Shards y17_0 _ h18_2))) .n) ?_
 obtain ⟨k22, hk22, h⟩ := jn_inv h
 have Jk22 : ∀ (j22_2 : Int), k22 j22_2 = some (z0, z1) → WK Try.prog diwanref13_Advance.O (Ck Try.prog) (cR (cR (cR (cR (cR (cR bd35)))))) [] (ofL [Tm 3 (.ptr 3 0), Tm 4 (.ptr 4 0), Tm 6 (.ptr 6 0), Tm 8 (sS 3 TSeat.en r2_1), Tm 9 (bv r2_2), Tm 12 (iv j22_2), Ob 3 (TShard.ob s), Ob 4 (TTxn.ob t), Ob 6 (TShard.ob_00010111 (TShard.mk 0 0 0 (TStore.mk [] 0) [] [] []))]) (Fin Try.prog diwanref13_Advance.O Try.f35 0 ⟨.tup [.data (TShard.ag z0), bv z1], []⟩) := by
  intro j22_2 h
  rw [hk22] at h
  obtain ⟨k26, hk26, h⟩ := jn_inv h
  have Jk26 : ∀ (j26_1 : Int), k26 j26_1 = some (z0, z1) → WK Try.prog diwanref13_Advance.O (Ck Try.prog) (cR (cR (cR (cR (cR (cR (cR bd35))))))) [] (ofL [Tm 3 (.ptr 3 0), Tm 4 (.ptr 4 0), Tm 6 (.ptr 6 0), Tm 8 (sS 3 TSeat.en r2_1), Tm 12 (iv j26_1), Ob 3 (TShard.ob s), Ob 4 (TTxn.ob t), Ob 6 (TShard.ob_00010111 (TShard.mk 0 0 0 (TStore.mk [] 0) [] [] []))]) (Fin Try.prog diwanref13_Advance.O Try.f35 0 ⟨.tup [.data (TShard.ag z0), bv z1], []⟩) := by
   intro j26_1 h
   rw [hk26] at h
   refine kSq ?_
   refine kRs 255 [Tm 75 (bv (j26_1 == 0))] [] .n ?_
   rcases br_inv h with ⟨b28_0, h⟩ | ⟨b28_0, h⟩
   ·refine kCt b28_0 ?_
    refine kRs 8 [Tm 7 (bv false), Ob 6 (TShard.ob s)] [] .n ?_
    refine kRt ?_
    have h_0 := some_inj h
    obtain ⟨g_1, h_1⟩ := Prod.mk.inj h_0
    subst g_1
    subst h_1
    exact kFr
   ·refine kCe b28_0 ?_
    refine kSk ?_
    refine kCd (cR (cR (cR (cR (cR (cR (cR (cR bd35)))))))) [] ?_
    refine kRs 510 [Tm 13 (.ptr 13 0), Ob 13 (TShard.ob s)] [] .n ?_
    obtain ⟨c31_1, h⟩ := gd_inv h
    obtain ⟨r31_2, h31_3, h⟩ := bd_inv h
    obtain ⟨c31_4, h⟩ := gd_inv h
    refine kRs 1021 [Ob 13 (TShard.ob_0000001 (TShard.mk s.ID s.Shards s.Done s.S s.Seats (s.Bits ++ ([r31_2] : List Int)) s.Said))] [.a ⟨iv r31_2, []⟩, .s (.t 86) [sO 1 e_i64 (s.Bits ++ ([r31_2] : List Int))]] (.c (c_al (e := e_i64) (f := e_i64) c31_1) (.c (Asks.of (C := Meets Try.prog) (diwanref13_Bit.meets fu s t _ h31_3)) (.c (c_al (e := e_i64) (f := e_i64) c31_4) (.c (congrArg (fun d : DV => [AV.data d]) (c_app (e := e_i64) (s := 1) (l := s.Bits) (m := ([r31_2] : List Int)))) (.c rT .n))))) ?_
    obtain ⟨c32_1, h⟩ := gd_inv h
    obtain ⟨c32_2, h⟩ := gd_inv h
    refine kRs 1022 [Ob 13 (TShard.ob_00000011 (TShard.mk s.ID s.Shards s.Done s.S s.Seats (s.Bits ++ ([r31_2] : List Int)) (s.Said ++ ([j26_1] : List Int))))] [.s (.t 94) [sO 1 e_i64 (s.Said ++ ([j26_1] : List Int))]] (.c (c_al (e := e_i64) (f := e_i64) c32_1) (.c (c_al (e := e_i64) (f := e_i64) c32_2) (.c (congrArg (fun d : DV => [AV.data d]) (c_app (e := e_i64) (s := 1) (l := s.Said) (m := ([j26_1] : List Int)))) .n))) ?_
    refine kRs 990 [Ob 13 (TShard.ob_00000011 (TShard.mk s.ID s.Shards (w64 (s.Done + 1)) s.S r2_1 (s.Bits ++ ([r31_2] : List Int)) (s.Said ++ ([j26_1] : List Int))))] [] .n ?_
    refine kSq ?_
    refine kRs 479 [Tm 103 (bv (j26_1 == 1))] [] .n ?_
    rcases br_inv h with ⟨b35_0, h⟩ | ⟨b35_0, h⟩
    ·refine kCt b35_0 ?_
     refine kRs 510 [Tm 14 (.data (.slc true (some true) 3 (List.map TWrite.en [])))] [] .n ?_
     refine kSq ?_
     refine kRs 511 [Tm 15 (iv 0)] [] .n ?_
     refine kBk 2 ?_
     obtain ⟨o46, ho46, h⟩ := bd_inv h
     refine kUs (diwanref13_Advance.lp38_ok fu s t (TShard.mk 0 0 0 (TStore.mk [] 0) [] [] []) (TShard.mk s.ID s.Shards (w64 (s.Done + 1)) s.S r2_1 (s.Bits ++ ([r31_2] : List Int)) (s.Said ++ ([j26_1] : List Int))) _ [] 0 _ ho46) ?_
     intro e_ τ_ hp_
     obtain ⟨y46_0, rfl⟩ : ∃ y, y = o46 := ⟨_, rfl⟩
     obtain ⟨rfl, rfl⟩ := hp_
     refine kCd (cR (cR (cT (cR (cL (cR (cR (cR (cR (cR (cR (cR (cR (cR (cR (cR (cR bd35))))))))))))))))) [.seq (cR (cR (cR (cR (cR (cR (cR (cR (cR (cR (cR (cR (cR bd35)))))))))))))] ?_
     obtain ⟨r47_1, h47_2, h⟩ := bd_inv h
     refine kRc 38 [Ob 13 (TShard.ob_00010011 (TShard.mk s.ID s.Shards (w64 (s.Done + 1)) r47_1 r2_1 (s.Bits ++ ([r31_2] : List Int)) (s.Said ++ ([j26_1] : List Int))))] [.a ⟨.data (.agg [.slc true none 2 (List.map TChain.en r47_1.Chains), .val (.int .i64 r47_1.Mark)]), []⟩] (.c (Asks.of (C := Meets Try.prog) (diwanref13_Write.meets fu s.S (w64 (s.Done + 1)) y46_0 _ h47_2)) .n) (cR (cR (cR (cR (cR (cR (cR (cR (cR (cR (cR (cR (cR bd35))))))))))))) [] ?_
     refine kRs 2 [Tm 7 (bv true), Ob 6 (TShard.ob_00010011 (TShard.mk s.ID s.Shards (w64 (s.Done + 1)) r47_1 r2_1 (s.Bits ++ ([r31_2] : List Int)) (s.Said ++ ([j26_1] : List Int))))] [] .n ?_
     refine kRt ?_
     have h_0 := some_inj h
     obtain ⟨g_1, h_1⟩ := Prod.mk.inj h_0
     subst g_1
     subst h_1
     exact kFr
    ·refine kCe b35_0 ?_
     refine kSk ?_
     refine kCd (cR (cR (cR (cR (cR (cR (cR (cR (cR (cR (cR (cR (cR bd35))))))))))))) [] ?_
     refine kRs 32 [Tm 7 (bv true), Ob 6 (TShard.ob_00000011 (TShard.mk s.ID s.Shards (w64 (s.Done + 1)) s.S r2_1 (s.Bits ++ ([r31_2] : List Int)) (s.Said ++ ([j26_1] : List Int))))] [] .n ?_
     refine kRt ?_
     have h_0 := some_inj h
     obtain ⟨g_1, h_1⟩ := Prod.mk.inj h_0
     subst g_1
     subst h_1
     exact kFr
  clear hk26
  refine kSq ?_
  refine kRs 495 [Tm 73 (bv (!r2_2))] [] .n ?_
  rcases br_inv h with ⟨b24_0, h⟩ | ⟨b24_0, h⟩
  ·refine kCt b24_0 ?_
   refine kRc 478 [Tm 12 (iv 3)] [] .n (cR (cR (cR (cR (cR (cR (cR bd35))))))) [] ?_
   exact kWk (Jk26 3 h)
  ·refine kCe b24_0 ?_
   refine kSk ?_
   refine kCd (cR (cR (cR (cR (cR (cR (cR bd35))))))) [] ?_
   exact kWk (Jk26 j22_2 h)
 clear hk22
 refine kSq ?_
 obtain ⟨r19_1, h19_2, h⟩ := bd_inv h
 refine kRs 511 [Tm 71 (bv (!r19_1))] [.a ⟨bv r19_1, []⟩] (.c (Asks.of (C := Meets Try.prog) (diwanref1_Touches.meets fu t s.ID s.Shards _ h19_2)) .n) ?_
 rcases br_inv h with ⟨b20_0, h⟩ | ⟨b20_0, h⟩
 ·refine kCt b20_0 ?_
  refine kRc 1020 [Tm 12 (iv 4)] [] .n (cR (cR (cR (cR (cR (cR bd35)))))) [] ?_
  exact kWk (Jk22 4 h)
 ·refine kCe b20_0 ?_
  refine kSk ?_
  refine kCd (cR (cR (cR (cR (cR (cR bd35)))))) [] ?_
  exact kWk (Jk22 r18_1 h)
def bd62 : Code := (Try.f62.body).getD .skip
def diwanref13_TrimChain.O : Nat → Nat := fun t => bif ([4, 5, 6] : List Nat).any (Nat.beq t) then 1 else 0
def diwanref13_TrimChain.lp4 (fu : Nat) (l4_0 : List TVersion) (l4_1 : Int) : Nat → (List TVersion) → Int → Option (List TVersion)
  | 0, _, _ => none
  | n_ + 1, l4_2, l4_3 =>
  br (decide (l4_3 < (l4_0.length : Int)))
   (jn (
    ix l4_0 l4_3 fun x11_1 =>
    gd (decide (l4_2.length + ([x11_1] : List TVersion).length ≤ 4294967296)) <|
    diwanref13_TrimChain.lp4 fu l4_0 l4_1 n_ (l4_2 ++ ([x11_1] : List TVersion)) (w64 (l4_3 + 1))) fun k10 =>
   br (decide ((w64 (l4_3 + 1)) < (l4_0.length : Int)))
    (ix l4_0 (w64 (l4_3 + 1)) fun x7_2 =>
    br (decide (x7_2.Pos ≤ l4_1))
     (diwanref13_TrimChain.lp4 fu l4_0 l4_1 n_ l4_2 (w64 (l4_3 + 1)))
     (k10))
    (k10))
   (some l4_2)
def diwanref13_TrimChain.lp4_post (l4_0 : List TVersion) (l4_1 : Int) (r_ : (List TVersion)) : Wy → St → Prop := fun e τ => match r_ with
  | y0 => e = .exit 0 ∧ τ = ofL [Tm 5 (sO 3 TVersion.en y0)]
theorem diwanref13_TrimChain.lp4_ok (fu : Nat) (l4_0 : List TVersion) (l4_1 : Int) : ∀ (n_ : Nat) (l4_2 : List TVersion) (l4_3 : Int) (r_ : (List TVersion)), diwanref13_TrimChain.lp4 fu l4_0 l4_1 n_ l4_2 l4_3 = some r_ → WK Try.prog diwanref13_TrimChain.O (Ck Try.prog) (cB (cR (cL (cR (cR bd62))))) [] (ofL [Tm 0 (sS 3 TVersion.en l4_0), Tm 1 (iv l4_1), Tm 5 (sO 3 TVersion.en l4_2), Tm 6 (iv l4_3)]) (diwanref13_TrimChain.lp4_post l4_0 l4_1 r_) := by
 intro n_
 induction n_ with
 | zero => intro l4_2 l4_3 r_ h; exact no_none h
 | succ n_ ih =>
  intro l4_2 l4_3 r_ h
  refine kLp ?_
  refine kSq ?_
  refine kRs 15 [Tm 10 (bv (decide (l4_3 < (l4_0.length : Int))))] [.s (.t 9) [iv (l4_0.length : Int)]] (.c (c_len (e := TVersion.en) (l := l4_0)) .n) ?_
  rcases br_inv h with ⟨b6_0, h⟩ | ⟨b6_0, h⟩
  ·refine kCt b6_0 ?_
   refine kSk ?_
   refine kCd (cR (cB (cB (cR (cL (cR (cR bd62))))))) [.lp (cB (cR (cL (cR (cR bd62)))))] ?_
   refine kSq ?_
   refine kBk 1 ?_
   obtain ⟨k10, hk10, h⟩ := jn_inv h
   have Jk10 : k10 = some r_ → WK Try.prog diwanref13_TrimChain.O (Ck Try.prog) (cR (cB (cL (cR (cB (cB (cR (cL (cR (cR bd62)))))))))) [.blk 1, .seq (cR (cR (cB (cB (cR (cL (cR (cR bd62)))))))), .lp (cB (cR (cL (cR (cR bd62)))))] (ofL [Tm 0 (sS 3 TVersion.en l4_0), Tm 1 (iv l4_1), Tm 5 (sO 3 TVersion.en l4_2), Tm 6 (iv l4_3)]) (diwanref13_TrimChain.lp4_post l4_0 l4_1 r_) := by
    intro h
    rw [hk10] at h
    obtain ⟨x11_1, a11_2, e11_3, h⟩ := ix_inv h
    obtain ⟨c11_4, h⟩ := gd_inv h
    refine kRc 11 [Tm 5 (sO 3 TVersion.en (l4_2 ++ ([x11_1] : List TVersion)))] [.c (TVersion.en x11_1), .s (.t 34) [sO 3 TVersion.en (l4_2 ++ ([x11_1] : List TVersion))]] (.c (c_ix (e := TVersion.en) a11_2 e11_3) (.c (c_el (e := TVersion.en) e11_3) (.c (c_al (e := TVersion.en) (f := TVersion.en) c11_4) (.c (congrArg (fun d : DV => [AV.data d]) (c_app (e := TVersion.en) (s := 3) (l := l4_2) (m := ([x11_1] : List TVersion)))) .n)))) (cR (cR (cB (cB (cR (cL (cR (cR bd62)))))))) [.lp (cB (cR (cL (cR (cR bd62)))))] ?_
    refine kRc 7 [Tm 6 (iv (w64 (l4_3 + 1)))] [] .n (cB (cR (cL (cR (cR bd62))))) [] ?_
    exact kWk (ih (l4_2 ++ ([x11_1] : List TVersion)) (w64 (l4_3 + 1)) _ h)
   clear hk10
   refine kSq ?_
   rcases br_inv h with ⟨b7_1, h⟩ | ⟨b7_1, h⟩
   ·obtain ⟨x7_2, a7_3, e7_4, h⟩ := ix_inv h
    refine kRs 30 [Tm 27 (bv (decide (x7_2.Pos ≤ l4_1)))] (.s (.t 16) [iv (l4_0.length : Int)] :: (rp 4 (.b true) (.c (TVersion.en x7_2) :: (rp 5 (.b true) [])))) (.c (c_len (e := TVersion.en) (l := l4_0)) (.r 4 b7_1 (.c (c_ix (e := TVersion.en) a7_3 e7_4) (.c (c_el (e := TVersion.en) e7_4) (.r 5 b7_1 .n))))) ?_
    rcases br_inv h with ⟨b8_0, h⟩ | ⟨b8_0, h⟩
    ·refine kCt b8_0 ?_
     refine kXt 1 ?_
     refine kCd (cR (cR (cB (cB (cR (cL (cR (cR bd62)))))))) [.lp (cB (cR (cL (cR (cR bd62)))))] ?_
     refine kRc 14 [Tm 6 (iv (w64 (l4_3 + 1)))] [] .n (cB (cR (cL (cR (cR bd62))))) [] ?_
     exact kWk (ih l4_2 (w64 (l4_3 + 1)) _ h)
    ·refine kCe b8_0 ?_
     refine kSk ?_
     refine kCd (cR (cB (cL (cR (cB (cB (cR (cL (cR (cR bd62)))))))))) [.blk 1, .seq (cR (cR (cB (cB (cR (cL (cR (cR bd62)))))))), .lp (cB (cR (cL (cR (cR bd62)))))] ?_
     exact kWk (Jk10 h)
   ·refine kRs 30 [Tm 27 (bv false)] (.s (.t 16) [iv (l4_0.length : Int)] :: (rp 9 (.b false) [])) (.c (c_len (e := TVersion.en) (l := l4_0)) (.r 9 b7_1 .n)) ?_
    refine kCe rF ?_
    refine kSk ?_
    refine kCd (cR (cB (cL (cR (cB (cB (cR (cL (cR (cR bd62)))))))))) [.blk 1, .seq (cR (cR (cB (cB (cR (cL (cR (cR bd62)))))))), .lp (cB (cR (cL (cR (cR bd62)))))] ?_
    exact kWk (Jk10 h)
  ·refine kCe b6_0 ?_
   cases some_inj h
   refine kWo ?_
   refine kXt 0 ?_
   exact kOut
def diwanref13_TrimChain (fu : Nat) (l : List TVersion) (mark : Int) : Option (List TVersion) :=
 bd (diwanref13_TrimChain.lp4 fu l mark fu [] 0) fun y13_0 =>
 some y13_0
theorem diwanref13_TrimChain.meets (fu : Nat) (l : List TVersion) (mark : Int) (z0 : List TVersion) (h : diwanref13_TrimChain fu l mark = some z0) : Meets Try.prog ⟨62, [sS 3 TVersion.en l, iv mark], []⟩ ⟨sO 3 TVersion.en z0, []⟩ := by
 refine kMt hmix diwanref13_TrimChain.O Try.f62 bd62 3 ?_
 unfold diwanref13_TrimChain at h
 refine kRs 3 [] [] .n ?_
 refine kRs 3 [Tm 5 (.data (.slc true (some true) 3 (List.map TVersion.en [])))] [] .n ?_
 refine kSq ?_
 refine kRs 7 [Tm 6 (iv 0)] [] .n ?_
 refine kBk 0 ?_
 obtain ⟨o13, ho13, h⟩ := bd_inv h
 refine kUs (diwanref13_TrimChain.lp4_ok fu l mark _ [] 0 _ ho13) ?_
 intro e_ τ_ hp_
 obtain ⟨y13_0, rfl⟩ : ∃ y, y = o13 := ⟨_, rfl⟩
 obtain ⟨rfl, rfl⟩ := hp_
 refine kCd (cR (cR (cR bd62))) [] ?_
 refine kRs 0 [Tm 4 (sO 3 TVersion.en y13_0)] [] .n ?_
 refine kRt ?_
 have h_ := some_inj h
 subst h_
 exact kFr
def bd36 : Code := (Try.f36.body).getD .skip
def diwanref13_Trim.O : Nat → Nat := fun t => bif ([2, 5, 6, 11, 13, 37, 38, 39, 41] : List Nat).any (Nat.beq t) then 1 else bif ([4] : List Nat).any (Nat.beq t) then 2 else 0
def diwanref13_Trim.lp7 (fu : Nat) (l7_0 : Int) (l7_2 : TStore) (l7_3 : TStore) : Nat → Int → TStore → Option TStore
  | 0, _, _ => none
  | n_ + 1, l7_1, l7_4 =>
  br (decide (l7_1 < (l7_2.Chains.length : Int)))
   (ix l7_2.Chains l7_1 fun x10_1 =>
   ix l7_2.Chains l7_1 fun x10_4 =>
   bd (diwanref13_TrimChain fu x10_4.L l7_0) fun r10_7 =>
   gd (decide (l7_4.Chains.length + ([(TChain.mk x10_1.Key r10_7)] : List TChain).length ≤ 4294967296)) <|
   diwanref13_Trim.lp7 fu l7_0 l7_2 l7_3 n_ (w64 (l7_1 + 1)) (TStore.mk (l7_4.Chains ++ ([(TChain.mk x10_1.Key r10_7)] : List TChain)) l7_4.Mark))
   (some l7_4)
def diwanref13_Trim.lp7_post (l7_0 : Int) (l7_2 : TStore) (l7_3 : TStore) (r_ : TStore) : Wy → St → Prop := fun e τ => match r_ with
  | y0 => e = .exit 0 ∧ τ = ofL [Tm 4 (.ptr 4 0), Tm 5 (.ptr 5 0), Ob 4 [sS 2 TChain.en l7_3.Chains, iv l7_3.Mark], Ob 5 [sO 2 TChain.en y0.Chains, iv y0.Mark]]
theorem diwanref13_Trim.lp7_ok (fu : Nat) (l7_0 : Int) (l7_2 : TStore) (l7_3 : TStore) : ∀ (n_ : Nat) (l7_1 : Int) (l7_4 : TStore) (r_ : TStore), diwanref13_Trim.lp7 fu l7_0 l7_2 l7_3 n_ l7_1 l7_4 = some r_ → WK Try.prog diwanref13_Trim.O (Ck Try.prog) (cB (cR (cL (cR (cR (cR bd36)))))) [] (ofL [Tm 1 (iv l7_0), Tm 2 (.ptr 2 0), Tm 4 (.ptr 4 0), Tm 5 (.ptr 5 0), Tm 6 (iv l7_1), Ob 2 [sS 2 TChain.en l7_2.Chains, iv l7_2.Mark], Ob 4 [sS 2 TChain.en l7_3.Chains, iv l7_3.Mark], Ob 5 [sO 2 TChain.en l7_4.Chains, iv l7_4.Mark]]) (diwanref13_Trim.lp7_post l7_0 l7_2 l7_3 r_) := by
 intro n_
 induction n_ with
 | zero => intro l7_1 l7_4 r_ h; exact no_none h
 | succ n_ ih =>
  intro l7_1 l7_4 r_ h
  refine kLp ?_
  refine kSq ?_
  refine kRs 255 [Tm 18 (bv (decide (l7_1 < (l7_2.Chains.length : Int))))] [.s (.t 17) [iv (l7_2.Chains.length : Int)]] (.c (c_len (e := TChain.en) (l := l7_2.Chains)) .n) ?_
  rcases br_inv h with ⟨b9_0, h⟩ | ⟨b9_0, h⟩
  ·refine kCt b9_0 ?_
   refine kSk ?_
   refine kCd (cR (cB (cB (cR (cL (cR (cR (cR bd36)))))))) [.lp (cB (cR (cL (cR (cR (cR bd36))))))] ?_
   refine kSq ?_
   refine kBk 1 ?_
   obtain ⟨x10_1, a10_2, e10_3, h⟩ := ix_inv h
   obtain ⟨x10_4, a10_5, e10_6, h⟩ := ix_inv h
   obtain ⟨r10_7, h10_8, h⟩ := bd_inv h
   obtain ⟨c10_9, h⟩ := gd_inv h
   refine kRc 254 [Ob 5 [sO 2 TChain.en (l7_4.Chains ++ ([(TChain.mk x10_1.Key r10_7)] : List TChain)), iv l7_4.Mark]] [.c (TChain.en x10_1), .c (TChain.en x10_4), .a ⟨sO 3 TVersion.en r10_7, []⟩, .s (.t 39) [sO 2 TChain.en (l7_4.Chains ++ ([(TChain.mk x10_1.Key r10_7)] : List TChain))]] (.c (c_ix (e := TChain.en) a10_2 e10_3) (.c (c_el (e := TChain.en) e10_3) (.c (c_ix (e := TChain.en) a10_5 e10_6) (.c (c_el (e := TChain.en) e10_6) (.c (Asks.of (C := Meets Try.prog) (diwanref13_TrimChain.meets fu x10_4.L l7_0 _ h10_8)) (.c (c_al (e := TChain.en) (f := TChain.en) c10_9) (.c (congrArg (fun d : DV => [AV.data d]) (c_app (e := TChain.en) (s := 2) (l := l7_4.Chains) (m := ([(TChain.mk x10_1.Key r10_7)] : List TChain)))) (.c rT .n)))))))) (cR (cR (cB (cB (cR (cL (cR (cR (cR bd36))))))))) [.lp (cB (cR (cL (cR (cR (cR bd36))))))] ?_
   refine kRc 223 [Tm 6 (iv (w64 (l7_1 + 1)))] [] .n (cB (cR (cL (cR (cR (cR bd36)))))) [] ?_
   exact kWk (ih (w64 (l7_1 + 1)) (TStore.mk (l7_4.Chains ++ ([(TChain.mk x10_1.Key r10_7)] : List TChain)) l7_4.Mark) _ h)
  ·refine kCe b9_0 ?_
   cases some_inj h
   refine kWo ?_
   refine kXt 0 ?_
   exact kOut
def diwanref13_Trim (fu : Nat) (s : TStore) (mark : Int) : Option TStore :=
 br (decide (mark ≤ s.Mark))
  (some s)
  (bd (diwanref13_Trim.lp7 fu mark s (TStore.mk [] 0) fu 0 (TStore.mk [] mark)) fun y12_0 =>
  some y12_0)
theorem diwanref13_Trim.meets (fu : Nat) (s : TStore) (mark : Int) (z0 : TStore) (h : diwanref13_Trim fu s mark = some z0) : Meets Try.prog ⟨36, [.data (.agg [.slc false none 2 (List.map TChain.en s.Chains), .val (.int .i64 s.Mark)]), iv mark], []⟩ ⟨.data (.agg [.slc false none 2 (List.map TChain.en z0.Chains), .val (.int .i64 z0.Mark)]), []⟩ := by
 refine kMt hmix diwanref13_Trim.O Try.f36 bd36 3 ?_
 unfold diwanref13_Trim at h
 refine kRs 2 [Tm 2 (.ptr 2 0), Tm 4 (.ptr 4 0), Ob 2 [sS 2 TChain.en s.Chains, iv s.Mark], Ob 4 [.data (.slc false none 2 (List.map TChain.en [])), iv 0]] [] .n ?_
 refine kSq ?_
 refine kRs 31 [Tm 10 (bv (decide (mark ≤ s.Mark)))] [] .n ?_
 rcases br_inv h with ⟨b3_0, h⟩ | ⟨b3_0, h⟩
 ·refine kCt b3_0 ?_
  refine kRs 4 [Ob 4 [sS 2 TChain.en s.Chains, iv s.Mark]] [] .n ?_
  refine kRt ?_
  have h_ := some_inj h
  subst h_
  exact kFr
 ·refine kCe b3_0 ?_
  refine kSk ?_
  refine kCd (cR (cR bd36)) [] ?_
  refine kRs 62 [Tm 5 (.ptr 5 0), Ob 5 [.data (.slc true none 2 (List.map TChain.en [])), iv mark]] [] .n ?_
  refine kSq ?_
  refine kRs 127 [Tm 6 (iv 0)] [] .n ?_
  refine kBk 0 ?_
  obtain ⟨o12, ho12, h⟩ := bd_inv h
  refine kUs (diwanref13_Trim.lp7_ok fu mark s (TStore.mk [] 0) _ 0 (TStore.mk [] mark) _ ho12) ?_
  intro e_ τ_ hp_
  obtain ⟨y12_0, rfl⟩ : ∃ y, y = o12 := ⟨_, rfl⟩
  obtain ⟨rfl, rfl⟩ := hp_
  refine kCd (cR (cR (cR (cR bd36)))) [] ?_
  refine kRs 1 [Ob 4 [sO 2 TChain.en y12_0.Chains, iv y12_0.Mark]] [] .n ?_
  refine kRt ?_
  have h_ := some_inj h
  subst h_
  exact kFr
def bd13 : Code := (Try.f13.body).getD .skip
def diwanlaw20_made.O : Nat → Nat := fun t => bif ([8, 9, 10, 11, 12, 13, 14, 24, 40, 42, 46, 55, 57] : List Nat).any (Nat.beq t) then 1 else 0
def diwanlaw20_made.lp6 (fu : Nat) (l6_0 : Int) (l6_1 : List TTxn) (l6_3 : TShard) : Nat → Int → TShard → Option TShard
  | 0, _, _ => none
  | n_ + 1, l6_2, l6_4 =>
  br (decide (l6_2 < (l6_1.length : Int)))
   (ix l6_1 l6_2 fun x9_1 =>
   bd (diwanref13_Advance fu l6_4 x9_1 ([1, 1, 1] : List Int)) fun (r9_4, r9_5) =>
   br (!r9_5)
    (some l6_4)
    (diwanlaw20_made.lp6 fu l6_0 l6_1 l6_3 n_ (w64 (l6_2 + 1)) r9_4))
   (some l6_4)
def diwanlaw20_made.lp6_post (l6_0 : Int) (l6_1 : List TTxn) (l6_3 : TShard) (r_ : TShard) : Wy → St → Prop := fun e τ => match r_ with
  | y0 => e = .exit 0 ∧ τ = ofL [Tm 3 (.data (.val (.int .u8 l6_0))), Tm 8 (.ptr 8 0), Tm 10 (.ptr 10 0), Ob 8 (TShard.ob_00010111 l6_3), Ob 10 (TShard.ob y0)]
theorem diwanlaw20_made.lp6_ok (fu : Nat) (l6_0 : Int) (l6_1 : List TTxn) (l6_3 : TShard) : ∀ (n_ : Nat) (l6_2 : Int) (l6_4 : TShard) (r_ : TShard), diwanlaw20_made.lp6 fu l6_0 l6_1 l6_3 n_ l6_2 l6_4 = some r_ → WK Try.prog diwanlaw20_made.O (Ck Try.prog) (cB (cR (cL (cR (cR (cR (cR bd13))))))) [] (ofL [Tm 3 (.data (.val (.int .u8 l6_0))), Tm 8 (.ptr 8 0), Tm 10 (.ptr 10 0), Tm 11 (sO 4 TTxn.en l6_1), Tm 12 (iv l6_2), Ob 8 (TShard.ob_00010111 l6_3), Ob 10 (TShard.ob l6_4)]) (diwanlaw20_made.lp6_post l6_0 l6_1 l6_3 r_) := by
 intro n_
 induction n_ with
 | zero => intro l6_2 l6_4 r_ h; exact no_none h
 | succ n_ ih =>
  intro l6_2 l6_4 r_ h
  refine kLp ?_
  refine kSq ?_
  refine kRs 127 [Tm 31 (bv (decide (l6_2 < (l6_1.length : Int))))] [.s (.t 30) [iv (l6_1.length : Int)]] (.c (c_len (e := TTxn.en) (l := l6_1)) .n) ?_
  rcases br_inv h with ⟨b8_0, h⟩ | ⟨b8_0, h⟩
  ·refine kCt b8_0 ?_
   refine kSk ?_
   refine kCd (cR (cB (cB (cR (cL (cR (cR (cR (cR bd13))))))))) [.lp (cB (cR (cL (cR (cR (cR (cR bd13)))))))] ?_
   refine kSq ?_
   refine kBk 1 ?_
   obtain ⟨x9_1, a9_2, e9_3, h⟩ := ix_inv h
   obtain ⟨⟨r9_4, r9_5⟩, h9_6, h⟩ := bd_inv h
   refine kRs 254 [Tm 13 (.ptr 13 0), Tm 14 (bv r9_5), Ob 13 (TShard.ob r9_4)] [.c (TTxn.en x9_1), .a ⟨.tup [.data (TShard.ag r9_4), bv r9_5], []⟩] (.c (c_ix (e := TTxn.en) a9_2 e9_3) (.c (c_el (e := TTxn.en) e9_3) (.c (Asks.fg (args1 := [.data (TShard.ag l6_4), .data (TTxn.ag x9_1)]) (args2 := []) (nl := some false) (sz := 1) (es := List.map e_i64 ([1, 1, 1] : List Int)) (Asks.of (C := Meets Try.prog) (diwanref13_Advance.meets fu l6_4 x9_1 ([1, 1, 1] : List Int) _ _ h9_6))) (.c rT .n)))) ?_
   refine kSq ?_
   refine kRs 1021 [Tm 45 (bv (!r9_5))] [] .n ?_
   rcases br_inv h with ⟨b11_0, h⟩ | ⟨b11_0, h⟩
   ·refine kCt b11_0 ?_
    cases some_inj h
    refine kWo ?_
    refine kXt 0 ?_
    exact kOut
   ·refine kCe b11_0 ?_
    refine kSk ?_
    refine kCd (cR (cR (cB (cL (cR (cB (cB (cR (cL (cR (cR (cR (cR bd13))))))))))))) [.blk 1, .seq (cR (cR (cB (cB (cR (cL (cR (cR (cR (cR bd13)))))))))), .lp (cB (cR (cL (cR (cR (cR (cR bd13)))))))] ?_
    refine kRc 504 [Ob 10 (TShard.ob r9_4)] [] .n (cR (cR (cB (cB (cR (cL (cR (cR (cR (cR bd13)))))))))) [.lp (cB (cR (cL (cR (cR (cR (cR bd13)))))))] ?_
    refine kRc 95 [Tm 12 (iv (w64 (l6_2 + 1)))] [] .n (cB (cR (cL (cR (cR (cR (cR bd13))))))) [] ?_
    exact kWk (ih (w64 (l6_2 + 1)) r9_4 _ h)
  ·refine kCe b8_0 ?_
   cases some_inj h
   refine kWo ?_
   refine kXt 0 ?_
   exact kOut
def diwanlaw20_made (fu : Nat) (picks : List Int) (n_v : Int) (id : Int) (mark : Int) : Option TShard :=
 gd (!decide ((w64 (1 + (w64 (Int.tmod n_v 3)))) = 0)) <|
 bd (diwanref13_NewShard (Int.tmod (w64 id) (w64 (1 + (w64 (Int.tmod n_v 3))))) (w64 (1 + (w64 (Int.tmod n_v 3))))) fun r3_2 =>
 bd (diwanplay_Made picks) fun r4_1 =>
 bd (diwanplay_Picks_Txns fu 15 r4_1) fun (r4_3, r4_4) =>
 bd (diwanlaw20_made.lp6 fu mark r4_3 (TShard.mk 0 0 0 (TStore.mk [] 0) [] [] []) fu 0 r3_2) fun y14_0 =>
 bd (diwanref13_Trim fu y14_0.S (if y14_0.Done < (w64 (Int.tmod mark 20)) then y14_0.Done else (w64 (Int.tmod mark 20)))) fun r15_1 =>
 some (TShard.mk y14_0.ID y14_0.Shards y14_0.Done r15_1 y14_0.Seats y14_0.Bits y14_0.Said)
theorem diwanlaw20_made.meets (fu : Nat) (picks : List Int) (n_v : Int) (id : Int) (mark : Int) (z0 : TShard) (h : diwanlaw20_made fu picks n_v id mark = some z0) : Meets Try.prog ⟨13, [sS 1 e_u8 picks, .data (.val (.int .u8 n_v)), .data (.val (.int .u8 id)), .data (.val (.int .u8 mark))], []⟩ ⟨.data (TShard.ag z0), []⟩ := by
 refine kMt hmix diwanlaw20_made.O Try.f13 bd13 15 ?_
 unfold diwanlaw20_made at h
 refine kRs 15 [Tm 8 (.ptr 8 0), Ob 8 (TShard.ob_00010111 (TShard.mk 0 0 0 (TStore.mk [] 0) [] [] []))] [] .n ?_
 refine kRs 55 [Tm 9 (iv (w64 (1 + (w64 (Int.tmod n_v 3)))))] [] (.c rT .n) ?_
 obtain ⟨c3_1, h⟩ := gd_inv h
 obtain ⟨r3_2, h3_3, h⟩ := bd_inv h
 refine kRs 46 [Tm 10 (.ptr 10 0), Ob 10 (TShard.ob_00010111 r3_2)] [.a ⟨.data (TShard.ag_00010111 r3_2), []⟩] (.c c3_1 (.c (Asks.of (C := Meets Try.prog) (diwanref13_NewShard.meets (Int.tmod (w64 id) (w64 (1 + (w64 (Int.tmod n_v 3))))) (w64 (1 + (w64 (Int.tmod n_v 3)))) _ h3_3)) .n)) ?_
 obtain ⟨r4_1, h4_2, h⟩ := bd_inv h
 obtain ⟨⟨r4_3, r4_4⟩, h4_5, h⟩ := bd_inv h
 refine kRs 47 [Tm 11 (sO 4 TTxn.en r4_3)] [.a ⟨.ptr 1000 0, [[sS 1 e_u8 r4_1.l, iv r4_1.n]]⟩, .a ⟨sO 4 TTxn.en r4_3, [[sS 1 e_u8 r4_4.l, iv r4_4.n]]⟩] (.c (Asks.of (C := Meets Try.prog) (diwanplay_Made.meets picks _ h4_2)) (.c (Asks.of (C := Meets Try.prog) (diwanplay_Picks_Txns.meets fu 15 r4_1 _ _ h4_5)) .n)) ?_
 refine kSq ?_
 refine kRs 63 [Tm 12 (iv 0)] [] .n ?_
 refine kBk 0 ?_
 obtain ⟨o14, ho14, h⟩ := bd_inv h
 refine kSo 10 3 119 [Ob 10 (TShard.ob_00000111 r3_2)] ?_
 refine kSo 10 5 126 [Ob 10 (TShard.ob_00000011 r3_2)] ?_
 refine kSo 10 6 126 [Ob 10 (TShard.ob_00000001 r3_2)] ?_
 refine kSo 10 7 126 [Ob 10 (TShard.ob r3_2)] ?_
 refine kUs (diwanlaw20_made.lp6_ok fu mark r4_3 (TShard.mk 0 0 0 (TStore.mk [] 0) [] [] []) _ 0 r3_2 _ ho14) ?_
 intro e_ τ_ hp_
 obtain ⟨y14_0, rfl⟩ : ∃ y, y = o14 := ⟨_, rfl⟩
 obtain ⟨rfl, rfl⟩ := hp_
 refine kCd (cR (cR (cR (cR (cR bd13))))) [] ?_
 obtain ⟨r15_1, h15_2, h⟩ := bd_inv h
 refine kRs 14 [Ob 10 (TShard.ob (TShard.mk y14_0.ID y14_0.Shards y14_0.Done r15_1 y14_0.Seats y14_0.Bits y14_0.Said))] [.a ⟨.data (.agg [.slc false none 2 (List.map TChain.en r15_1.Chains), .val (.int .i64 r15_1.Mark)]), []⟩] (.c rT (.c (Asks.of (C := Meets Try.prog) (diwanref13_Trim.meets fu y14_0.S (if y14_0.Done < (w64 (Int.tmod mark 20)) then y14_0.Done else (w64 (Int.tmod mark 20))) _ h15_2)) .n)) ?_
 refine kRs 2 [Ob 8 (TShard.ob (TShard.mk y14_0.ID y14_0.Shards y14_0.Done r15_1 y14_0.Seats y14_0.Bits y14_0.Said))] [] .n ?_
 refine kRt ?_
 have h_ := some_inj h
 subst h_
 exact kFr
def bd4 : Code := (Try.f4.body).getD .skip
def diwanlaw20_SaveMay.O : Nat → Nat := fun t => bif ([10, 11, 20, 23, 26, 28, 30, 32] : List Nat).any (Nat.beq t) then 1 else 0
def diwanlaw20_SaveMay (fu : Nat) (picks : List Int) (n_v : Int) (id : Int) (which : Int) (to : Int) : Option Bool :=
 bd (diwanlaw20_begun fu) fun r2_1 =>
 br (!r2_1)
  (some false)
  (br (decide ((picks.length : Int) > 250))
   (some true)
   (bd (diwanlaw20_made fu picks n_v id 0) fun r8_1 =>
   br ((Int.tmod which 3) == 0)
    (bd (save_Put fu (TShard.mk r8_1.ID r8_1.Shards to r8_1.S r8_1.Seats r8_1.Bits r8_1.Said)) fun r13_1 =>
    bd (diwanref13_MayShard fu (TShard.mk r8_1.ID r8_1.Shards to r8_1.S r8_1.Seats r8_1.Bits r8_1.Said)) fun r13_3 =>
    some ((decide ((r13_1.length : Int) > 0)) == r13_3))
    (br ((Int.tmod which 3) == 1)
     (bd (save_Put fu (TShard.mk to r8_1.Shards r8_1.Done r8_1.S r8_1.Seats r8_1.Bits r8_1.Said)) fun r17_1 =>
     bd (diwanref13_MayShard fu (TShard.mk to r8_1.Shards r8_1.Done r8_1.S r8_1.Seats r8_1.Bits r8_1.Said)) fun r17_3 =>
     some ((decide ((r17_1.length : Int) > 0)) == r17_3))
     (bd (save_Put fu (TShard.mk r8_1.ID r8_1.Shards r8_1.Done (TStore.mk r8_1.S.Chains to) r8_1.Seats r8_1.Bits r8_1.Said)) fun r19_1 =>
     bd (diwanref13_MayShard fu (TShard.mk r8_1.ID r8_1.Shards r8_1.Done (TStore.mk r8_1.S.Chains to) r8_1.Seats r8_1.Bits r8_1.Said)) fun r19_3 =>
     some ((decide ((r19_1.length : Int) > 0)) == r19_3)))))
theorem diwanlaw20_SaveMay.meets (fu : Nat) (picks : List Int) (n_v : Int) (id : Int) (which : Int) (to : Int) (z0 : Bool) (h : diwanlaw20_SaveMay fu picks n_v id which to = some z0) : Meets Try.prog ⟨4, [sS 1 e_u8 picks, .data (.val (.int .u8 n_v)), .data (.val (.int .u8 id)), .data (.val (.int .u8 which)), iv to], []⟩ ⟨bv z0, []⟩ := by
 refine kMt hmix diwanlaw20_SaveMay.O Try.f4 bd4 31 ?_
 unfold diwanlaw20_SaveMay at h
 refine kRs 31 [] [] .n ?_
 refine kSq ?_
 obtain ⟨r2_1, h2_2, h⟩ := bd_inv h
 refine kRs 31 [Tm 13 (bv (!r2_1))] [.a ⟨bv r2_1, []⟩] (.c (Asks.of (C := Meets Try.prog) (diwanlaw20_begun.meets fu _ h2_2)) .n) ?_
 rcases br_inv h with ⟨b3_0, h⟩ | ⟨b3_0, h⟩
 ·refine kCt b3_0 ?_
  refine kRs 0 [Tm 10 (bv false)] [] .n ?_
  refine kRt ?_
  have h_ := some_inj h
  subst h_
  exact kFr
 ·refine kCe b3_0 ?_
  refine kSk ?_
  refine kCd (cR (cR bd4)) [] ?_
  refine kSq ?_
  refine kRs 62 [Tm 16 (bv (decide ((picks.length : Int) > 250)))] [.s (.t 15) [iv (picks.length : Int)]] (.c (c_len (e := e_u8) (l := picks)) .n) ?_
  rcases br_inv h with ⟨b6_0, h⟩ | ⟨b6_0, h⟩
  ·refine kCt b6_0 ?_
   refine kRs 0 [Tm 10 (bv true)] [] .n ?_
   refine kRt ?_
   have h_ := some_inj h
   subst h_
   exact kFr
  ·refine kCe b6_0 ?_
   refine kSk ?_
   refine kCd (cR (cR (cR bd4))) [] ?_
   obtain ⟨r8_1, h8_2, h⟩ := bd_inv h
   refine kRs 48 [Tm 11 (.ptr 11 0), Ob 11 (TShard.ob r8_1)] [.a ⟨.data (TShard.ag r8_1), []⟩] (.c (Asks.of (C := Meets Try.prog) (diwanlaw20_made.meets fu picks n_v id 0 _ h8_2)) .n) ?_
   refine kSq ?_
   refine kRs 11 [Tm 22 (.data (.val (.int .u8 (Int.tmod which 3))))] [] (.c rT .n) ?_
   refine kBk 0 ?_
   refine kRs 15 [Tm 26 (bv ((Int.tmod which 3) == 0))] [] .n ?_
   rcases br_inv h with ⟨b11_0, h⟩ | ⟨b11_0, h⟩
   ·refine kCt b11_0 ?_
    refine kRc 4 [Ob 11 (TShard.ob (TShard.mk r8_1.ID r8_1.Shards to r8_1.S r8_1.Seats r8_1.Bits r8_1.Said))] [] .n (cR (cR (cR (cR (cR bd4))))) [] ?_
    obtain ⟨r13_1, h13_2, h⟩ := bd_inv h
    obtain ⟨r13_3, h13_4, h⟩ := bd_inv h
    refine kRs 0 [Tm 10 (bv ((decide ((r13_1.length : Int) > 0)) == r13_3))] [.a ⟨.data (.slc true (some r13_1.isEmpty) 1 (List.map e_u8 r13_1)), []⟩, .s (.t 36) [iv (r13_1.length : Int)], .a ⟨bv r13_3, []⟩] (.c (Asks.of (C := Meets Try.prog) (save_Put.meets fu (TShard.mk r8_1.ID r8_1.Shards to r8_1.S r8_1.Seats r8_1.Bits r8_1.Said) _ h13_2)) (.c (c_len (e := e_u8) (l := r13_1)) (.c (Asks.of (C := Meets Try.prog) (diwanref13_MayShard.meets fu (TShard.mk r8_1.ID r8_1.Shards to r8_1.S r8_1.Seats r8_1.Bits r8_1.Said) _ h13_4)) (.c rT .n)))) ?_
    refine kRt ?_
    have h_ := some_inj h
    subst h_
    exact kFr
   ·refine kCe b11_0 ?_
    refine kRs 28 [Tm 30 (bv ((Int.tmod which 3) == 1))] [] .n ?_
    rcases br_inv h with ⟨b15_0, h⟩ | ⟨b15_0, h⟩
    ·refine kCt b15_0 ?_
     refine kRc 2 [Ob 11 (TShard.ob (TShard.mk to r8_1.Shards r8_1.Done r8_1.S r8_1.Seats r8_1.Bits r8_1.Said))] [] .n (cR (cR (cR (cR (cR bd4))))) [] ?_
     obtain ⟨r17_1, h17_2, h⟩ := bd_inv h
     obtain ⟨r17_3, h17_4, h⟩ := bd_inv h
     refine kRs 0 [Tm 10 (bv ((decide ((r17_1.length : Int) > 0)) == r17_3))] [.a ⟨.data (.slc true (some r17_1.isEmpty) 1 (List.map e_u8 r17_1)), []⟩, .s (.t 36) [iv (r17_1.length : Int)], .a ⟨bv r17_3, []⟩] (.c (Asks.of (C := Meets Try.prog) (save_Put.meets fu (TShard.mk to r8_1.Shards r8_1.Done r8_1.S r8_1.Seats r8_1.Bits r8_1.Said) _ h17_2)) (.c (c_len (e := e_u8) (l := r17_1)) (.c (Asks.of (C := Meets Try.prog) (diwanref13_MayShard.meets fu (TShard.mk to r8_1.Shards r8_1.Done r8_1.S r8_1.Seats r8_1.Bits r8_1.Said) _ h17_4)) (.c rT .n)))) ?_
     refine kRt ?_
     have h_ := some_inj h
     subst h_
     exact kFr
    ·refine kCe b15_0 ?_
     refine kRc 2 [Ob 11 (TShard.ob (TShard.mk r8_1.ID r8_1.Shards r8_1.Done (TStore.mk r8_1.S.Chains to) r8_1.Seats r8_1.Bits r8_1.Said))] [] .n (cR (cR (cR (cR (cR bd4))))) [] ?_
     obtain ⟨r19_1, h19_2, h⟩ := bd_inv h
     obtain ⟨r19_3, h19_4, h⟩ := bd_inv h
     refine kRs 0 [Tm 10 (bv ((decide ((r19_1.length : Int) > 0)) == r19_3))] [.a ⟨.data (.slc true (some r19_1.isEmpty) 1 (List.map e_u8 r19_1)), []⟩, .s (.t 36) [iv (r19_1.length : Int)], .a ⟨bv r19_3, []⟩] (.c (Asks.of (C := Meets Try.prog) (save_Put.meets fu (TShard.mk r8_1.ID r8_1.Shards r8_1.Done (TStore.mk r8_1.S.Chains to) r8_1.Seats r8_1.Bits r8_1.Said) _ h19_2)) (.c (c_len (e := e_u8) (l := r19_1)) (.c (Asks.of (C := Meets Try.prog) (diwanref13_MayShard.meets fu (TShard.mk r8_1.ID r8_1.Shards r8_1.Done (TStore.mk r8_1.S.Chains to) r8_1.Seats r8_1.Bits r8_1.Said) _ h19_4)) (.c rT .n)))) ?_
     refine kRt ?_
     have h_ := some_inj h
     subst h_
     exact kFr
end Go.Proofs.Ythjpcfbfiaenaaa.Told
