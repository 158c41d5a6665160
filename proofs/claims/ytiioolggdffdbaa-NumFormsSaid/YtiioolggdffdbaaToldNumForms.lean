/- Functions of the program told as Lean functions, with the walks of their code in the machine by value. -/
import Derived.Test.YtiioolggdffdbaaProg
import Derived.Test.YtiioolggdffdbaaVam2
noncomputable section
namespace Go.Proofs.Ytiioolggdffdbaa.Told
open Go Go.Proofs Go.Proofs.Ytiioolggdffdbaa Go.Proofs.Ytiioolggdffdbaa.Vam
set_option linter.unusedVariables false
set_option maxRecDepth 100000
theorem hmix : Try.prog.follows .mixedOrders = true := by kernel_rfl
def bd14 : Code := (Try.f14.body).getD .skip
def num_Put.O : Nat → Nat := fun t => bif ([0, 2, 13, 18] : List Nat).any (Nat.beq t) then 1 else 0
def num_Put.lp5 (fu : Nat) : Nat → Int → (List Int) → Option (Int × List Int)
  | 0, _, _ => none
  | n_ + 1, l5_0, l5_1 =>
  br (decide (l5_0 > 127))
   (gd (decide (l5_1.length + ([(vor .u8 (w8 l5_0) 128)] : List Int).length ≤ 4294967296)) <|
   num_Put.lp5 fu n_ (vshr .i64 l5_0 7) (l5_1 ++ ([(vor .u8 (w8 l5_0) 128)] : List Int)))
   (some (l5_0, l5_1))
def num_Put.lp5_post (r_ : (Int × List Int)) : Wy → St → Prop := fun e τ => match r_ with
  | (y0, y1) => e = .exit 0 ∧ τ = ofL [Tm 0 (iv y0), Tm 2 (sO 1 e_u8 y1)]
theorem num_Put.lp5_ok (fu : Nat) : ∀ (n_ : Nat) (l5_0 : Int) (l5_1 : List Int) (r_ : (Int × List Int)), num_Put.lp5 fu n_ l5_0 l5_1 = some r_ → WK Try.prog num_Put.O (Ck Try.prog) (cB (cL (cR (cR bd14)))) [] (ofL [Tm 0 (iv l5_0), Tm 2 (sO 1 e_u8 l5_1)]) (num_Put.lp5_post r_) := by
 intro n_
 induction n_ with
 | zero => intro l5_0 l5_1 r_ h; exact no_none h
 | succ n_ ih =>
  intro l5_0 l5_1 r_ h
  refine kLp ?_
  refine kSq ?_
  refine kRs 3 [Tm 6 (bv (decide (l5_0 > 127)))] [] .n ?_
  rcases br_inv h with ⟨b7_0, h⟩ | ⟨b7_0, h⟩
  ·refine kCt b7_0 ?_
   refine kSk ?_
   refine kCd (cR (cB (cB (cL (cR (cR bd14)))))) [.lp (cB (cL (cR (cR bd14))))] ?_
   refine kSq ?_
   refine kBk 1 ?_
   obtain ⟨c8_1, h⟩ := gd_inv h
   refine kRc 2 [Tm 2 (sO 1 e_u8 (l5_1 ++ ([(vor .u8 (w8 l5_0) 128)] : List Int)))] [.s (.t 14) [sO 1 e_u8 (l5_1 ++ ([(vor .u8 (w8 l5_0) 128)] : List Int))]] (.c (c_al (e := e_u8) (f := e_u8) c8_1) (.c (congrArg (fun d : DV => [AV.data d]) (c_app (e := e_u8) (s := 1) (l := l5_1) (m := ([(vor .u8 (w8 l5_0) 128)] : List Int)))) .n)) (cR (cR (cB (cB (cL (cR (cR bd14))))))) [.lp (cB (cL (cR (cR bd14))))] ?_
   refine kRc 1 [Tm 0 (iv (vshr .i64 l5_0 7))] [] (.c rT .n) (cB (cL (cR (cR bd14)))) [] ?_
   exact kWk (ih (vshr .i64 l5_0 7) (l5_1 ++ ([(vor .u8 (w8 l5_0) 128)] : List Int)) _ h)
  ·refine kCe b7_0 ?_
   cases some_inj h
   refine kWo ?_
   refine kXt 0 ?_
   exact kOut
def num_Put (fu : Nat) (v : Int) : Option (List Int) :=
 br (decide (v < 0))
  (some [])
  (bd (num_Put.lp5 fu fu v []) fun (y10_0, y10_1) =>
  gd (decide (y10_1.length + ([(w8 y10_0)] : List Int).length ≤ 4294967296)) <|
  some (y10_1 ++ ([(w8 y10_0)] : List Int)))
theorem num_Put.meets (fu : Nat) (v : Int) (z0 : List Int) (h : num_Put fu v = some z0) : Meets Try.prog ⟨14, [iv v], []⟩ ⟨sO 1 e_u8 z0, []⟩ := by
 refine kMt hmix num_Put.O Try.f14 bd14 1 ?_
 unfold num_Put at h
 refine kRs 1 [Tm 2 (.data (.slc true (some true) 1 (List.map e_u8 [])))] [] .n ?_
 refine kSq ?_
 refine kRs 3 [Tm 4 (bv (decide (v < 0)))] [] .n ?_
 rcases br_inv h with ⟨b3_0, h⟩ | ⟨b3_0, h⟩
 ·refine kCt b3_0 ?_
  refine kRs 2 [] [] .n ?_
  refine kWd 0 [Tm 2 (.data (.slc true none 1 (List.map e_u8 [])))] ?_
  refine kRt ?_
  have h_ := some_inj h
  subst h_
  exact kFr
 ·refine kCe b3_0 ?_
  refine kSk ?_
  refine kCd (cR (cR bd14)) [] ?_
  refine kSq ?_
  refine kBk 0 ?_
  obtain ⟨o10, ho10, h⟩ := bd_inv h
  refine kUs (num_Put.lp5_ok fu _ v [] _ ho10) ?_
  intro e_ τ_ hp_
  obtain ⟨y10_0, y10_1⟩ := o10
  obtain ⟨rfl, rfl⟩ := hp_
  refine kCd (cR (cR (cR bd14))) [] ?_
  obtain ⟨c11_1, h⟩ := gd_inv h
  refine kRs 0 [Tm 2 (sO 1 e_u8 (y10_1 ++ ([(w8 y10_0)] : List Int)))] [.s (.t 19) [sO 1 e_u8 (y10_1 ++ ([(w8 y10_0)] : List Int))]] (.c (c_al (e := e_u8) (f := e_u8) c11_1) (.c (congrArg (fun d : DV => [AV.data d]) (c_app (e := e_u8) (s := 1) (l := y10_1) (m := ([(w8 y10_0)] : List Int)))) .n)) ?_
  refine kRt ?_
  have h_ := some_inj h
  subst h_
  exact kFr
def bd19 : Code := (Try.f19.body).getD .skip
def num_result.O : Nat → Nat := fun t => bif ([6, 7, 8] : List Nat).any (Nat.beq t) then 1 else 0
def num_result (v : Int) (n_v : Int) (ok : Bool) : Option (Int × Int × Bool) :=
 br (!ok)
  (some (0, 0, false))
  (some (v, n_v, true))
theorem num_result.meets (v : Int) (n_v : Int) (ok : Bool) (z0 : Int) (z1 : Int) (z2 : Bool) (h : num_result v n_v ok = some (z0, z1, z2)) : Meets Try.prog ⟨19, [iv v, iv n_v, bv ok], []⟩ ⟨.tup [iv z0, iv z1, bv z2], []⟩ := by
 refine kMt hmix num_result.O Try.f19 bd19 7 ?_
 unfold num_result at h
 refine kRs 7 [] [] .n ?_
 refine kSq ?_
 refine kRs 3 [Tm 10 (bv (!ok))] [] .n ?_
 rcases br_inv h with ⟨b3_0, h⟩ | ⟨b3_0, h⟩
 ·refine kCt b3_0 ?_
  refine kRs 0 [Tm 6 (iv 0), Tm 7 (iv 0), Tm 8 (bv false)] [] .n ?_
  refine kRt ?_
  have h_0 := some_inj h
  obtain ⟨g_1, h_1⟩ := Prod.mk.inj h_0
  obtain ⟨g_2, h_2⟩ := Prod.mk.inj h_1
  subst g_1
  subst g_2
  subst h_2
  exact kFr
 ·refine kCe b3_0 ?_
  refine kSk ?_
  refine kCd (cR (cR bd19)) [] ?_
  refine kRs 0 [Tm 6 (iv v), Tm 7 (iv n_v), Tm 8 (bv true)] [] .n ?_
  refine kRt ?_
  have h_0 := some_inj h
  obtain ⟨g_1, h_1⟩ := Prod.mk.inj h_0
  obtain ⟨g_2, h_2⟩ := Prod.mk.inj h_1
  subst g_1
  subst g_2
  subst h_2
  exact kFr
def bd10 : Code := (Try.f10.body).getD .skip
def num_Take.O : Nat → Nat := fun t => bif ([2, 3, 4, 5, 6, 11] : List Nat).any (Nat.beq t) then 1 else 0
def num_Take.lp3 (fu : Nat) (l3_1 : List Int) (l3_2 : Int) : Nat → Int → Int → Option (Unit ⊕ (Int × Int × Bool))
  | 0, _, _ => none
  | n_ + 1, l3_0, l3_3 =>
  br (decide (l3_3 < l3_2))
   (ix l3_1 l3_3 fun x6_1 =>
   gd (decide ((0 : Int) ≤ (w64 (7 * l3_3)))) <|
   br ((vand .u8 x6_1 128) == 0)
    (br (l3_3 == 0)
     (bd (num_result (vor .i64 l3_0 (vshl .i64 (w64 (vand .u8 x6_1 127)) (w64 (7 * l3_3)))) (w64 (l3_3 + 1)) true) fun (r10_2, r10_3, r10_4) =>
     some (.inr (r10_2, r10_3, r10_4)))
     (bd (num_result (vor .i64 l3_0 (vshl .i64 (w64 (vand .u8 x6_1 127)) (w64 (7 * l3_3)))) (w64 (l3_3 + 1)) (decide (x6_1 > 0))) fun (r10_2, r10_3, r10_4) =>
     some (.inr (r10_2, r10_3, r10_4))))
    (num_Take.lp3 fu l3_1 l3_2 n_ (vor .i64 l3_0 (vshl .i64 (w64 (vand .u8 x6_1 127)) (w64 (7 * l3_3)))) (w64 (l3_3 + 1))))
   (some (.inl ()))
def num_Take.lp3_post (l3_1 : List Int) (l3_2 : Int) (r_ : (Unit ⊕ (Int × Int × Bool))) : Wy → St → Prop := fun e τ => match r_ with
  | .inl _ => e = .exit 0 ∧ τ = ofL []
  | .inr (y0, y1, y2) => e = .ret ∧ τ = ofL [Tm 2 (iv y0), Tm 3 (iv y1), Tm 4 (bv y2)]
theorem num_Take.lp3_ok (fu : Nat) (l3_1 : List Int) (l3_2 : Int) : ∀ (n_ : Nat) (l3_0 : Int) (l3_3 : Int) (r_ : (Unit ⊕ (Int × Int × Bool))), num_Take.lp3 fu l3_1 l3_2 n_ l3_0 l3_3 = some r_ → WK Try.prog num_Take.O (Ck Try.prog) (cB (cR (cL (cR bd10)))) [] (ofL [Tm 2 (iv l3_0), Tm 11 (sS 1 e_u8 l3_1), Tm 12 (iv l3_2), Tm 13 (iv l3_3)]) (num_Take.lp3_post l3_1 l3_2 r_) := by
 intro n_
 induction n_ with
 | zero => intro l3_0 l3_3 r_ h; exact no_none h
 | succ n_ ih =>
  intro l3_0 l3_3 r_ h
  refine kLp ?_
  refine kRs 15 [Tm 14 (bv (decide (l3_3 < l3_2)))] [] .n ?_
  refine kSq ?_
  rcases br_inv h with ⟨b5_0, h⟩ | ⟨b5_0, h⟩
  ·refine kCt b5_0 ?_
   refine kSk ?_
   refine kCd (cR (cR (cB (cB (cR (cL (cR bd10))))))) [.lp (cB (cR (cL (cR bd10))))] ?_
   refine kSq ?_
   refine kBk 1 ?_
   obtain ⟨x6_1, a6_2, e6_3, h⟩ := ix_inv h
   refine kRs 30 [Tm 5 (iv l3_3), Tm 6 (.data (.val (.int .u8 x6_1)))] [.c (e_u8 x6_1)] (.c (c_ix (e := e_u8) a6_2 e6_3) (.c (c_el (e := e_u8) e6_3) .n)) ?_
   obtain ⟨c7_1, h⟩ := gd_inv h
   refine kRs 59 [Tm 2 (iv (vor .i64 l3_0 (vshl .i64 (w64 (vand .u8 x6_1 127)) (w64 (7 * l3_3)))))] [] (.c c7_1 .n) ?_
   refine kRs 63 [Tm 28 (bv ((vand .u8 x6_1 128) == 0))] [] .n ?_
   rcases br_inv h with ⟨b9_0, h⟩ | ⟨b9_0, h⟩
   ·refine kCt b9_0 ?_
    rcases br_inv h with ⟨b10_1, h⟩ | ⟨b10_1, h⟩
    ·obtain ⟨⟨r10_2, r10_3, r10_4⟩, h10_5, h⟩ := bd_inv h
     refine kRs 0 [Tm 2 (iv r10_2), Tm 3 (iv r10_3), Tm 4 (bv r10_4)] [.b true, .b true, .b true, .a ⟨.tup [iv r10_2, iv r10_3, bv r10_4], []⟩] (.r 3 b10_1 (.c (Asks.of (C := Meets Try.prog) (num_result.meets (vor .i64 l3_0 (vshl .i64 (w64 (vand .u8 x6_1 127)) (w64 (7 * l3_3)))) (w64 (l3_3 + 1)) true _ _ _ h10_5)) .n)) ?_
     cases some_inj h
     refine kWo ?_
     refine kRt ?_
     exact kOut
    ·obtain ⟨⟨r10_2, r10_3, r10_4⟩, h10_5, h⟩ := bd_inv h
     refine kRs 0 [Tm 2 (iv r10_2), Tm 3 (iv r10_3), Tm 4 (bv r10_4)] [.b false, .b false, .b false, .a ⟨.tup [iv r10_2, iv r10_3, bv r10_4], []⟩] (.r 3 b10_1 (.c (Asks.of (C := Meets Try.prog) (num_result.meets (vor .i64 l3_0 (vshl .i64 (w64 (vand .u8 x6_1 127)) (w64 (7 * l3_3)))) (w64 (l3_3 + 1)) (decide (x6_1 > 0)) _ _ _ h10_5)) .n)) ?_
     cases some_inj h
     refine kWo ?_
     refine kRt ?_
     exact kOut
   ·refine kCe b9_0 ?_
    refine kSk ?_
    refine kCd (cR (cR (cR (cB (cB (cR (cL (cR bd10)))))))) [.lp (cB (cR (cL (cR bd10))))] ?_
    refine kRc 50 [Tm 13 (iv (w64 (l3_3 + 1)))] [] .n (cB (cR (cL (cR bd10)))) [] ?_
    exact kWk (ih (vor .i64 l3_0 (vshl .i64 (w64 (vand .u8 x6_1 127)) (w64 (7 * l3_3)))) (w64 (l3_3 + 1)) _ h)
  ·refine kCe b5_0 ?_
   cases some_inj h
   refine kWo ?_
   refine kXt 0 ?_
   exact kOut
def num_Take (fu : Nat) (b : List Int) : Option (Int × Int × Bool) :=
 gd (decide ((0 : Int) ≤ (if (9 : Int) < (b.length : Int) then 9 else (b.length : Int)) ∧ (if (9 : Int) < (b.length : Int) then 9 else (b.length : Int)) ≤ (b.length : Int))) <|
 bd (num_Take.lp3 fu (List.take (if (9 : Int) < (b.length : Int) then 9 else (b.length : Int)).toNat b) ((List.take (if (9 : Int) < (b.length : Int) then 9 else (b.length : Int)).toNat b).length : Int) fu 0 0) fun o_ => (match o_ with
 | .inl _ =>
  some (0, 0, false)
 | .inr (y12_0, y12_1, y12_2) =>
  some (y12_0, y12_1, y12_2))
theorem num_Take.meets (fu : Nat) (b : List Int) (z0 : Int) (z1 : Int) (z2 : Bool) (h : num_Take fu b = some (z0, z1, z2)) : Meets Try.prog ⟨10, [sS 1 e_u8 b], []⟩ ⟨.tup [iv z0, iv z1, bv z2], []⟩ := by
 refine kMt hmix num_Take.O Try.f10 bd10 1 ?_
 unfold num_Take at h
 refine kRs 1 [Tm 2 (iv 0)] [] .n ?_
 refine kSq ?_
 obtain ⟨c2_1, h⟩ := gd_inv h
 refine kRs 1 [Tm 11 (sS 1 e_u8 (List.take (if (9 : Int) < (b.length : Int) then 9 else (b.length : Int)).toNat b)), Tm 12 (iv ((List.take (if (9 : Int) < (b.length : Int) then 9 else (b.length : Int)).toNat b).length : Int)), Tm 13 (iv 0)] [.s (.t 9) [iv (b.length : Int)], .s (.t 11) [sS 1 e_u8 (List.take (if (9 : Int) < (b.length : Int) then 9 else (b.length : Int)).toNat b)], .s (.t 12) [iv ((List.take (if (9 : Int) < (b.length : Int) then 9 else (b.length : Int)).toNat b).length : Int)]] (.c (c_len (e := e_u8) (l := b)) (.c (c_cbH (e := e_u8) c2_1) (.c (congrArg (fun d : DV => [AV.data d]) (c_cutH (own := false) (nl := none) (s := 1) (e := e_u8) (l := b) (h := (if (9 : Int) < (b.length : Int) then 9 else (b.length : Int)).toNat))) (.c (c_len (e := e_u8) (l := (List.take (if (9 : Int) < (b.length : Int) then 9 else (b.length : Int)).toNat b))) .n)))) ?_
 refine kBk 0 ?_
 obtain ⟨o12, ho12, h⟩ := bd_inv h
 refine kUs (num_Take.lp3_ok fu (List.take (if (9 : Int) < (b.length : Int) then 9 else (b.length : Int)).toNat b) ((List.take (if (9 : Int) < (b.length : Int) then 9 else (b.length : Int)).toNat b).length : Int) _ 0 0 _ ho12) ?_
 intro e_ τ_ hp_
 rcases o12 with o12 | o12
 ·obtain ⟨⟩ := o12
  obtain ⟨rfl, rfl⟩ := hp_
  refine kCd (cR (cR bd10)) [] ?_
  refine kRs 0 [Tm 2 (iv 0), Tm 3 (iv 0), Tm 4 (bv false)] [] .n ?_
  refine kRt ?_
  have h_0 := some_inj h
  obtain ⟨g_1, h_1⟩ := Prod.mk.inj h_0
  obtain ⟨g_2, h_2⟩ := Prod.mk.inj h_1
  subst g_1
  subst g_2
  subst h_2
  exact kFr
 ·obtain ⟨y12_0, y12_1, y12_2⟩ := o12
  obtain ⟨rfl, rfl⟩ := hp_
  have h_0 := some_inj h
  obtain ⟨g_1, h_1⟩ := Prod.mk.inj h_0
  obtain ⟨g_2, h_2⟩ := Prod.mk.inj h_1
  subst g_1
  subst g_2
  subst h_2
  exact kFr
def bd16 : Code := (Try.f16.body).getD .skip
def num_PutText.O : Nat → Nat := fun t => bif ([2] : List Nat).any (Nat.beq t) then 1 else 0
def num_PutText (fu : Nat) (s : ByteArray) : Option (List Int) :=
 br (decide ((s.size : Int) > 255))
  (some [])
  (bd (num_Put fu (s.size : Int)) fun r5_1 =>
  gd (decide (r5_1.length + s.size ≤ 4294967296)) <|
  some (r5_1 ++ (bytesL s)))
theorem num_PutText.meets (fu : Nat) (s : ByteArray) (z0 : List Int) (h : num_PutText fu s = some z0) : Meets Try.prog ⟨16, [sv s], []⟩ ⟨sO 1 e_u8 z0, []⟩ := by
 refine kMt hmix num_PutText.O Try.f16 bd16 1 ?_
 unfold num_PutText at h
 refine kRs 1 [] [] .n ?_
 refine kSq ?_
 refine kRs 1 [Tm 5 (bv (decide ((s.size : Int) > 255)))] [] .n ?_
 rcases br_inv h with ⟨b3_0, h⟩ | ⟨b3_0, h⟩
 ·refine kCt b3_0 ?_
  refine kRs 0 [Tm 2 (.data (.slc true (some true) 1 (List.map e_u8 [])))] [] .n ?_
  refine kWd 0 [Tm 2 (.data (.slc true none 1 (List.map e_u8 [])))] ?_
  refine kRt ?_
  have h_ := some_inj h
  subst h_
  exact kFr
 ·refine kCe b3_0 ?_
  refine kSk ?_
  refine kCd (cR (cR bd16)) [] ?_
  obtain ⟨r5_1, h5_2, h⟩ := bd_inv h
  obtain ⟨c5_3, h⟩ := gd_inv h
  refine kRs 0 [Tm 2 (sO 1 e_u8 (r5_1 ++ (bytesL s)))] [.a ⟨sO 1 e_u8 r5_1, []⟩, .s (.t 10) [sO 1 e_u8 (r5_1 ++ (bytesL s))]] (.c (Asks.of (C := Meets Try.prog) (num_Put.meets fu (s.size : Int) _ h5_2)) (.c (c_als (e := e_u8) c5_3) (.c (congrArg (fun d : DV => [AV.data d]) (c_apps (l := r5_1) (u := s))) .n))) ?_
  refine kRt ?_
  have h_ := some_inj h
  subst h_
  exact kFr
def bd12 : Code := (Try.f12.body).getD .skip
def num_TakeText.O : Nat → Nat := fun t => bif ([2, 3, 4, 5, 31] : List Nat).any (Nat.beq t) then 1 else 0
def num_TakeText (fu : Nat) (b : List Int) : Option (ByteArray × Int × Bool) :=
 bd (num_Take fu b) fun (r2_1, r2_2, r2_3) =>
 br (!r2_3)
  (some (ByteArray.empty, 0, false))
  (br (decide (r2_1 > 255))
   (some (ByteArray.empty, 0, false))
   (br (decide (r2_1 > (w64 ((b.length : Int) - r2_2))))
    (some (ByteArray.empty, 0, false))
    (gd (decide ((0 : Int) ≤ r2_2 ∧ r2_2 ≤ (w64 (r2_2 + r2_1)) ∧ (w64 (r2_2 + r2_1)) ≤ (b.length : Int))) <|
    some ((strB (List.drop r2_2.toNat (List.take (w64 (r2_2 + r2_1)).toNat b))), (w64 (r2_2 + r2_1)), true))))
theorem num_TakeText.meets (fu : Nat) (b : List Int) (z0 : ByteArray) (z1 : Int) (z2 : Bool) (h : num_TakeText fu b = some (z0, z1, z2)) : Meets Try.prog ⟨12, [sS 1 e_u8 b], []⟩ ⟨.tup [sv z0, iv z1, bv z2], []⟩ := by
 refine kMt hmix num_TakeText.O Try.f12 bd12 1 ?_
 unfold num_TakeText at h
 refine kRs 1 [] [] .n ?_
 obtain ⟨⟨r2_1, r2_2, r2_3⟩, h2_4, h⟩ := bd_inv h
 refine kRs 1 [Tm 3 (iv r2_2), Tm 4 (bv r2_3), Tm 5 (iv r2_1)] [.a ⟨.tup [iv r2_1, iv r2_2, bv r2_3], []⟩] (.c (Asks.of (C := Meets Try.prog) (num_Take.meets fu b _ _ _ h2_4)) .n) ?_
 refine kSq ?_
 rcases br_inv h with ⟨b3_1, h⟩ | ⟨b3_1, h⟩
 ·refine kRs 13 [Tm 25 (bv true)] (rp 10 (.b true) []) (.r 3 b3_1 (.r 7 rT .n)) ?_
  refine kCt rT ?_
  refine kRs 0 [Tm 2 (sv ByteArray.empty), Tm 3 (iv 0), Tm 4 (bv false)] [] .n ?_
  refine kRt ?_
  have h_0 := some_inj h
  obtain ⟨g_1, h_1⟩ := Prod.mk.inj h_0
  obtain ⟨g_2, h_2⟩ := Prod.mk.inj h_1
  subst g_1
  subst g_2
  subst h_2
  exact kFr
 ·rcases br_inv h with ⟨b3_2, h⟩ | ⟨b3_2, h⟩
  ·refine kRs 13 [Tm 25 (bv true)] (.b false :: (.b false :: (.b false :: (rp 7 (.b true) [])))) (.r 3 b3_1 (.r 7 b3_2 .n)) ?_
   refine kCt rT ?_
   refine kRs 0 [Tm 2 (sv ByteArray.empty), Tm 3 (iv 0), Tm 4 (bv false)] [] .n ?_
   refine kRt ?_
   have h_0 := some_inj h
   obtain ⟨g_1, h_1⟩ := Prod.mk.inj h_0
   obtain ⟨g_2, h_2⟩ := Prod.mk.inj h_1
   subst g_1
   subst g_2
   subst h_2
   exact kFr
  ·refine kRs 13 [Tm 25 (bv (decide (r2_1 > (w64 ((b.length : Int) - r2_2)))))] (rp 6 (.b false) (.s (.t 21) [iv (b.length : Int)] :: (rp 4 (.b false) []))) (.r 3 b3_1 (.r 3 b3_2 (.c (c_len (e := e_u8) (l := b)) (.r 4 b3_2 .n)))) ?_
   rcases br_inv h with ⟨b6_0, h⟩ | ⟨b6_0, h⟩
   ·refine kCt b6_0 ?_
    refine kRs 0 [Tm 2 (sv ByteArray.empty), Tm 3 (iv 0), Tm 4 (bv false)] [] .n ?_
    refine kRt ?_
    have h_0 := some_inj h
    obtain ⟨g_1, h_1⟩ := Prod.mk.inj h_0
    obtain ⟨g_2, h_2⟩ := Prod.mk.inj h_1
    subst g_1
    subst g_2
    subst h_2
    exact kFr
   ·refine kCe b6_0 ?_
    refine kSk ?_
    refine kCd (cR (cR (cR bd12))) [] ?_
    obtain ⟨c8_1, h⟩ := gd_inv h
    refine kRs 0 [Tm 2 (sv (strB (List.drop r2_2.toNat (List.take (w64 (r2_2 + r2_1)).toNat b)))), Tm 3 (iv (w64 (r2_2 + r2_1))), Tm 4 (bv true)] [.s (.t 31) [sS 1 e_u8 (List.drop r2_2.toNat (List.take (w64 (r2_2 + r2_1)).toNat b))]] (.c (c_cb (e := e_u8) c8_1) (.c (congrArg (fun d : DV => [AV.data d]) (c_cut (own := false) (nl := none) (s := 1) (e := e_u8) (l := b) (lo := r2_2.toNat) (h := (w64 (r2_2 + r2_1)).toNat))) (.c (c_ab (List.drop r2_2.toNat (List.take (w64 (r2_2 + r2_1)).toNat b))) .n))) ?_
    refine kRt ?_
    have h_0 := some_inj h
    obtain ⟨g_1, h_1⟩ := Prod.mk.inj h_0
    obtain ⟨g_2, h_2⟩ := Prod.mk.inj h_1
    subst g_1
    subst g_2
    subst h_2
    exact kFr
def bd8 : Code := (Try.f8.body).getD .skip
def diwanlaw1_begun.O : Nat → Nat := fun t => bif ([0, 1, 2, 3, 4, 5, 6, 7, 8, 9, 10, 19] : List Nat).any (Nat.beq t) then 1 else 0
def diwanlaw1_begun (fu : Nat) : Option Bool :=
 bd (num_Put fu 300) fun r2_1 =>
 bd (num_Take fu r2_1) fun (r3_1, r3_2, r3_3) =>
 bd (num_Take fu ([128] : List Int)) fun (r4_1, r4_2, r4_3) =>
 bd (num_PutText fu (⟨#[97, 98]⟩ : ByteArray)) fun r5_1 =>
 bd (num_TakeText fu r5_1) fun (r5_3, r5_4, r5_5) =>
 br ((strB r2_1).toList == (⟨#[172, 2]⟩ : ByteArray).toList)
  (br r3_3
   (br (r3_1 == 300)
    (br (r3_2 == 2)
     (br (!r4_3)
      (bd (num_Put fu (-1)) fun r6_6 =>
      br ((r6_6.length : Int) == 0)
       (br r5_5
        (br (r5_3.toList == (⟨#[97, 98]⟩ : ByteArray).toList)
         (some (r5_4 == 3))
         (some false))
        (some false))
       (some false))
      (some false))
     (some false))
    (some false))
   (some false))
  (some false)
theorem diwanlaw1_begun.meets (fu : Nat) (z0 : Bool) (h : diwanlaw1_begun fu = some z0) : Meets Try.prog ⟨8, [], []⟩ ⟨bv z0, []⟩ := by
 refine kMt hmix diwanlaw1_begun.O Try.f8 bd8 0 ?_
 unfold diwanlaw1_begun at h
 refine kRs 0 [] [] .n ?_
 obtain ⟨r2_1, h2_2, h⟩ := bd_inv h
 refine kRs 0 [Tm 1 (sO 1 e_u8 r2_1)] [.a ⟨sO 1 e_u8 r2_1, []⟩] (.c (Asks.of (C := Meets Try.prog) (num_Put.meets fu 300 _ h2_2)) .n) ?_
 obtain ⟨⟨r3_1, r3_2, r3_3⟩, h3_4, h⟩ := bd_inv h
 refine kRs 1 [Tm 2 (iv r3_1), Tm 3 (iv r3_2), Tm 4 (bv r3_3)] [.a ⟨.tup [iv r3_1, iv r3_2, bv r3_3], []⟩] (.c (Asks.of (C := Meets Try.prog) (num_Take.meets fu r2_1 _ _ _ h3_4)) .n) ?_
 obtain ⟨⟨r4_1, r4_2, r4_3⟩, h4_4, h⟩ := bd_inv h
 refine kRs 15 [Tm 7 (bv r4_3)] [.a ⟨.tup [iv r4_1, iv r4_2, bv r4_3], []⟩] (.c (Asks.fg (args1 := []) (args2 := []) (nl := some false) (sz := 1) (es := List.map e_u8 ([128] : List Int)) (Asks.of (C := Meets Try.prog) (num_Take.meets fu ([128] : List Int) _ _ _ h4_4))) .n) ?_
 obtain ⟨r5_1, h5_2, h⟩ := bd_inv h
 obtain ⟨⟨r5_3, r5_4, r5_5⟩, h5_6, h⟩ := bd_inv h
 refine kRs 31 [Tm 8 (sv r5_3), Tm 9 (iv r5_4), Tm 10 (bv r5_5)] [.a ⟨sO 1 e_u8 r5_1, []⟩, .a ⟨.tup [sv r5_3, iv r5_4, bv r5_5], []⟩] (.c (Asks.of (C := Meets Try.prog) (num_PutText.meets fu (⟨#[97, 98]⟩ : ByteArray) _ h5_2)) (.c (Asks.of (C := Meets Try.prog) (num_TakeText.meets fu r5_1 _ _ _ h5_6)) .n)) ?_
 rcases br_inv h with ⟨b6_1, h⟩ | ⟨b6_1, h⟩
 ·rcases br_inv h with ⟨b6_2, h⟩ | ⟨b6_2, h⟩
  ·rcases br_inv h with ⟨b6_3, h⟩ | ⟨b6_3, h⟩
   ·rcases br_inv h with ⟨b6_4, h⟩ | ⟨b6_4, h⟩
    ·rcases br_inv h with ⟨b6_5, h⟩ | ⟨b6_5, h⟩
     ·obtain ⟨r6_6, h6_7, h⟩ := bd_inv h
      rcases br_inv h with ⟨b6_8, h⟩ | ⟨b6_8, h⟩
      ·rcases br_inv h with ⟨b6_9, h⟩ | ⟨b6_9, h⟩
       ·rcases br_inv h with ⟨b6_10, h⟩ | ⟨b6_10, h⟩
        ·refine kRs 0 [Tm 0 (bv (r5_4 == 3))] (rp 12 (.b true) (.a ⟨sO 1 e_u8 r6_6, []⟩ :: (.b true :: (.s (.t 50) [iv (r6_6.length : Int)] :: (rp 10 (.b true) []))))) (.c (c_ab r2_1) (.r 2 b6_1 (.r 3 b6_2 (.r 3 b6_3 (.r 3 b6_4 (.c b6_5 (.c (Asks.of (C := Meets Try.prog) (num_Put.meets fu (-1) _ h6_7)) (.c b6_5 (.c (c_len (e := e_u8) (l := r6_6)) (.r 2 b6_5 (.r 2 b6_8 (.r 3 b6_9 (.r 3 b6_10 .n))))))))))))) ?_
         refine kRt ?_
         have h_ := some_inj h
         subst h_
         exact kFr
        ·refine kRs 0 [Tm 0 (bv false)] (rp 12 (.b true) (.a ⟨sO 1 e_u8 r6_6, []⟩ :: (.b true :: (.s (.t 50) [iv (r6_6.length : Int)] :: (rp 7 (.b true) [.b false, .b false, .b false]))))) (.c (c_ab r2_1) (.r 2 b6_1 (.r 3 b6_2 (.r 3 b6_3 (.r 3 b6_4 (.c b6_5 (.c (Asks.of (C := Meets Try.prog) (num_Put.meets fu (-1) _ h6_7)) (.c b6_5 (.c (c_len (e := e_u8) (l := r6_6)) (.r 2 b6_5 (.r 2 b6_8 (.r 3 b6_9 (.r 3 b6_10 .n))))))))))))) ?_
         refine kRt ?_
         have h_ := some_inj h
         subst h_
         exact kFr
       ·refine kRs 0 [Tm 0 (bv false)] (rp 12 (.b true) (.a ⟨sO 1 e_u8 r6_6, []⟩ :: (.b true :: (.s (.t 50) [iv (r6_6.length : Int)] :: (rp 4 (.b true) (rp 6 (.b false) [])))))) (.c (c_ab r2_1) (.r 2 b6_1 (.r 3 b6_2 (.r 3 b6_3 (.r 3 b6_4 (.c b6_5 (.c (Asks.of (C := Meets Try.prog) (num_Put.meets fu (-1) _ h6_7)) (.c b6_5 (.c (c_len (e := e_u8) (l := r6_6)) (.r 2 b6_5 (.r 2 b6_8 (.r 3 b6_9 (.r 3 rF .n))))))))))))) ?_
        refine kRt ?_
        have h_ := some_inj h
        subst h_
        exact kFr
      ·refine kRs 0 [Tm 0 (bv false)] (rp 12 (.b true) (.a ⟨sO 1 e_u8 r6_6, []⟩ :: (.b true :: (.s (.t 50) [iv (r6_6.length : Int)] :: (.b true :: (.b true :: (rp 8 (.b false) []))))))) (.c (c_ab r2_1) (.r 2 b6_1 (.r 3 b6_2 (.r 3 b6_3 (.r 3 b6_4 (.c b6_5 (.c (Asks.of (C := Meets Try.prog) (num_Put.meets fu (-1) _ h6_7)) (.c b6_5 (.c (c_len (e := e_u8) (l := r6_6)) (.r 2 b6_5 (.r 2 b6_8 (.r 6 rF .n)))))))))))) ?_
       refine kRt ?_
       have h_ := some_inj h
       subst h_
       exact kFr
     ·refine kRs 0 [Tm 0 (bv false)] (rp 11 (.b true) (rp 12 (.b false) [])) (.c (c_ab r2_1) (.r 2 b6_1 (.r 3 b6_2 (.r 3 b6_3 (.r 3 b6_4 (.r 4 b6_5 (.r 8 rF .n))))))) ?_
      refine kRt ?_
      have h_ := some_inj h
      subst h_
      exact kFr
    ·refine kRs 0 [Tm 0 (bv false)] (rp 8 (.b true) (rp 15 (.b false) [])) (.c (c_ab r2_1) (.r 2 b6_1 (.r 3 b6_2 (.r 3 b6_3 (.r 3 b6_4 (.r 12 rF .n)))))) ?_
     refine kRt ?_
     have h_ := some_inj h
     subst h_
     exact kFr
   ·refine kRs 0 [Tm 0 (bv false)] (rp 5 (.b true) (rp 18 (.b false) [])) (.c (c_ab r2_1) (.r 2 b6_1 (.r 3 b6_2 (.r 3 b6_3 (.r 15 rF .n))))) ?_
    refine kRt ?_
    have h_ := some_inj h
    subst h_
    exact kFr
  ·refine kRs 0 [Tm 0 (bv false)] (.b true :: (.b true :: (rp 21 (.b false) []))) (.c (c_ab r2_1) (.r 2 b6_1 (.r 3 b6_2 (.r 18 rF .n)))) ?_
   refine kRt ?_
   have h_ := some_inj h
   subst h_
   exact kFr
 ·refine kRs 0 [Tm 0 (bv false)] (rp 23 (.b false) []) (.c (c_ab r2_1) (.r 2 b6_1 (.r 21 rF .n))) ?_
  refine kRt ?_
  have h_ := some_inj h
  subst h_
  exact kFr
def bd5 : Code := (Try.f5.body).getD .skip
def diwanlaw1_NumForms.O : Nat → Nat := fun t => bif ([0, 1, 2, 3, 4, 5, 6, 7, 8, 9, 10, 11, 14, 15, 33, 60, 71, 78] : List Nat).any (Nat.beq t) then 1 else 0
def diwanlaw1_NumForms.lp8 (fu : Nat) (l8_0 : List Int) (l8_1 : List ByteArray) : Nat → Int → Option (Unit ⊕ Unit)
  | 0, _ => none
  | n_ + 1, l8_2 =>
  br (decide (l8_2 < (l8_0.length : Int)))
   (ix l8_0 l8_2 fun x11_1 =>
   bd (num_Put fu x11_1) fun r11_4 =>
   ix l8_1 l8_2 fun x11_6 =>
   br (!((strB r11_4).toList == x11_6.toList))
    (some (.inr ()))
    (diwanlaw1_NumForms.lp8 fu l8_0 l8_1 n_ (w64 (l8_2 + 1))))
   (some (.inl ()))
def diwanlaw1_NumForms.lp8_post (l8_0 : List Int) (l8_1 : List ByteArray) (r_ : (Unit ⊕ Unit)) : Wy → St → Prop := fun e τ => match r_ with
  | .inl _ => e = .exit 0 ∧ τ = ofL []
  | .inr _ => e = .ret ∧ τ = ofL [Tm 0 (bv false)]
theorem diwanlaw1_NumForms.lp8_ok (fu : Nat) (l8_0 : List Int) (l8_1 : List ByteArray) : ∀ (n_ : Nat) (l8_2 : Int) (r_ : (Unit ⊕ Unit)), diwanlaw1_NumForms.lp8 fu l8_0 l8_1 n_ l8_2 = some r_ → WK Try.prog diwanlaw1_NumForms.O (Ck Try.prog) (cB (cR (cL (cR (cR (cR (cR bd5))))))) [] (ofL [Tm 1 (.data (.slc true (some false) 1 (List.map e_i64 l8_0))), Tm 2 (.data (.slc true (some false) 1 (List.map e_s l8_1))), Tm 3 (iv l8_2)]) (diwanlaw1_NumForms.lp8_post l8_0 l8_1 r_) := by
 intro n_
 induction n_ with
 | zero => intro l8_2 r_ h; exact no_none h
 | succ n_ ih =>
  intro l8_2 r_ h
  refine kLp ?_
  refine kSq ?_
  refine kRs 7 [Tm 19 (bv (decide (l8_2 < (l8_0.length : Int))))] [.s (.t 18) [iv (l8_0.length : Int)]] (.c (c_len (e := e_i64) (l := l8_0)) .n) ?_
  rcases br_inv h with ⟨b10_0, h⟩ | ⟨b10_0, h⟩
  ·refine kCt b10_0 ?_
   refine kSk ?_
   refine kCd (cR (cB (cB (cR (cL (cR (cR (cR (cR bd5))))))))) [.lp (cB (cR (cL (cR (cR (cR (cR bd5)))))))] ?_
   refine kSq ?_
   refine kBk 1 ?_
   obtain ⟨x11_1, a11_2, e11_3, h⟩ := ix_inv h
   obtain ⟨r11_4, h11_5, h⟩ := bd_inv h
   obtain ⟨x11_6, a11_7, e11_8, h⟩ := ix_inv h
   refine kRs 14 [Tm 32 (bv (!((strB r11_4).toList == x11_6.toList)))] [.c (e_i64 x11_1), .a ⟨sO 1 e_u8 r11_4, []⟩, .c (e_s x11_6)] (.c (c_ix (e := e_i64) a11_2 e11_3) (.c (c_el (e := e_i64) e11_3) (.c (Asks.of (C := Meets Try.prog) (num_Put.meets fu x11_1 _ h11_5)) (.c (c_ab r11_4) (.c (c_ix (e := e_s) a11_7 e11_8) (.c (c_el (e := e_s) e11_8) (.c rT .n))))))) ?_
   rcases br_inv h with ⟨b12_0, h⟩ | ⟨b12_0, h⟩
   ·refine kCt b12_0 ?_
    refine kRs 0 [Tm 0 (bv false)] [] .n ?_
    cases some_inj h
    refine kWo ?_
    refine kRt ?_
    exact kOut
   ·refine kCe b12_0 ?_
    refine kSk ?_
    refine kCd (cR (cR (cB (cB (cR (cL (cR (cR (cR (cR bd5)))))))))) [.lp (cB (cR (cL (cR (cR (cR (cR bd5)))))))] ?_
    refine kRc 6 [Tm 3 (iv (w64 (l8_2 + 1)))] [] .n (cB (cR (cL (cR (cR (cR (cR bd5))))))) [] ?_
    exact kWk (ih (w64 (l8_2 + 1)) _ h)
  ·refine kCe b10_0 ?_
   cases some_inj h
   refine kWo ?_
   refine kXt 0 ?_
   exact kOut
def diwanlaw1_NumForms.lp18 (fu : Nat) (l18_0 : List ByteArray) : Nat → Int → Option (Unit ⊕ Unit)
  | 0, _ => none
  | n_ + 1, l18_1 =>
  br (decide (l18_1 < (l18_0.length : Int)))
   (ix l18_0 l18_1 fun x21_1 =>
   bd (num_Take fu (bytesL x21_1)) fun (r21_4, r21_5, r21_6) =>
   br r21_6
    (some (.inr ()))
    (br (r21_4 != 0)
     (some (.inr ()))
     (br (r21_5 != 0)
      (some (.inr ()))
      (diwanlaw1_NumForms.lp18 fu l18_0 n_ (w64 (l18_1 + 1))))))
   (some (.inl ()))
def diwanlaw1_NumForms.lp18_post (l18_0 : List ByteArray) (r_ : (Unit ⊕ Unit)) : Wy → St → Prop := fun e τ => match r_ with
  | .inl _ => e = .exit 2 ∧ τ = ofL []
  | .inr _ => e = .ret ∧ τ = ofL [Tm 0 (bv false)]
theorem diwanlaw1_NumForms.lp18_ok (fu : Nat) (l18_0 : List ByteArray) : ∀ (n_ : Nat) (l18_1 : Int) (r_ : (Unit ⊕ Unit)), diwanlaw1_NumForms.lp18 fu l18_0 n_ l18_1 = some r_ → WK Try.prog diwanlaw1_NumForms.O (Ck Try.prog) (cB (cR (cL (cR (cR (cR (cR (cR (cR bd5))))))))) [] (ofL [Tm 4 (.data (.slc true (some false) 1 (List.map e_s l18_0))), Tm 5 (iv l18_1)]) (diwanlaw1_NumForms.lp18_post l18_0 r_) := by
 intro n_
 induction n_ with
 | zero => intro l18_1 r_ h; exact no_none h
 | succ n_ ih =>
  intro l18_1 r_ h
  refine kLp ?_
  refine kSq ?_
  refine kRs 3 [Tm 37 (bv (decide (l18_1 < (l18_0.length : Int))))] [.s (.t 36) [iv (l18_0.length : Int)]] (.c (c_len (e := e_s) (l := l18_0)) .n) ?_
  rcases br_inv h with ⟨b20_0, h⟩ | ⟨b20_0, h⟩
  ·refine kCt b20_0 ?_
   refine kSk ?_
   refine kCd (cR (cB (cB (cR (cL (cR (cR (cR (cR (cR (cR bd5))))))))))) [.lp (cB (cR (cL (cR (cR (cR (cR (cR (cR bd5)))))))))] ?_
   refine kSq ?_
   refine kBk 3 ?_
   obtain ⟨x21_1, a21_2, e21_3, h⟩ := ix_inv h
   obtain ⟨⟨r21_4, r21_5, r21_6⟩, h21_7, h⟩ := bd_inv h
   refine kRs 6 [Tm 6 (iv r21_4), Tm 7 (iv r21_5), Tm 8 (bv r21_6)] [.c (e_s x21_1), .s (.t 45) [sO 1 e_u8 (bytesL x21_1)], .a ⟨.tup [iv r21_4, iv r21_5, bv r21_6], []⟩] (.c (c_ix (e := e_s) a21_2 e21_3) (.c (c_el (e := e_s) e21_3) (.c (congrArg (fun d : DV => [AV.data d]) (c_bytes (u := x21_1))) (.c (Asks.of (C := Meets Try.prog) (num_Take.meets fu (bytesL x21_1) _ _ _ h21_7)) .n)))) ?_
   rcases br_inv h with ⟨b22_1, h⟩ | ⟨b22_1, h⟩
   ·refine kRs 24 [Tm 58 (bv true)] (rp 6 (.b true) []) (.r 3 b22_1 (.r 3 rT .n)) ?_
    refine kCt rT ?_
    refine kRs 0 [Tm 0 (bv false)] [] .n ?_
    cases some_inj h
    refine kWo ?_
    refine kRt ?_
    exact kOut
   ·rcases br_inv h with ⟨b22_2, h⟩ | ⟨b22_2, h⟩
    ·refine kRs 24 [Tm 58 (bv true)] [.b false, .b false, .b false, .b true, .b true, .b true] (.r 3 b22_1 (.r 3 b22_2 .n)) ?_
     refine kCt rT ?_
     refine kRs 0 [Tm 0 (bv false)] [] .n ?_
     cases some_inj h
     refine kWo ?_
     refine kRt ?_
     exact kOut
    ·refine kRs 24 [Tm 58 (bv (r21_5 != 0))] (rp 6 (.b false) []) (.r 3 b22_1 (.r 3 b22_2 .n)) ?_
     rcases br_inv h with ⟨b25_0, h⟩ | ⟨b25_0, h⟩
     ·refine kCt b25_0 ?_
      refine kRs 0 [Tm 0 (bv false)] [] .n ?_
      cases some_inj h
      refine kWo ?_
      refine kRt ?_
      exact kOut
     ·refine kCe b25_0 ?_
      refine kSk ?_
      refine kCd (cR (cR (cB (cB (cR (cL (cR (cR (cR (cR (cR (cR bd5)))))))))))) [.lp (cB (cR (cL (cR (cR (cR (cR (cR (cR bd5)))))))))] ?_
      refine kRc 2 [Tm 5 (iv (w64 (l18_1 + 1)))] [] .n (cB (cR (cL (cR (cR (cR (cR (cR (cR bd5))))))))) [] ?_
      exact kWk (ih (w64 (l18_1 + 1)) _ h)
  ·refine kCe b20_0 ?_
   cases some_inj h
   refine kWo ?_
   refine kXt 2 ?_
   exact kOut
def diwanlaw1_NumForms (fu : Nat) : Option Bool :=
 bd (diwanlaw1_begun fu) fun r2_1 =>
 br (!r2_1)
  (some false)
  (bd (diwanlaw1_NumForms.lp8 fu ([0, 127, 128, 16383, 16384, 9223372036854775807] : List Int) ([(⟨#[0]⟩ : ByteArray), (⟨#[127]⟩ : ByteArray), (⟨#[128, 1]⟩ : ByteArray), (⟨#[255, 127]⟩ : ByteArray), (⟨#[128, 128, 1]⟩ : ByteArray), (⟨#[255, 255, 255, 255, 255, 255, 255, 255, 127]⟩ : ByteArray)] : List ByteArray) fu 0) fun o_ => (match o_ with
  | .inl _ =>
   bd (diwanlaw1_NumForms.lp18 fu ([ByteArray.empty, (⟨#[128]⟩ : ByteArray), (⟨#[128, 0]⟩ : ByteArray), (⟨#[255, 255, 255, 255, 255, 255, 255, 255, 255, 1]⟩ : ByteArray)] : List ByteArray) fu 0) fun o_ => (match o_ with
   | .inl _ =>
    gd (decide (([128, 2] : List Int).length + (256 : Int).toNat ≤ 4294967296)) <|
    bd (num_TakeText fu (([128, 2] : List Int) ++ List.replicate (256 : Int).toNat (0 : Int))) fun (r29_2, r29_3, r29_4) =>
    bd (num_Put fu (-9223372036854775808)) fun r30_1 =>
    br ((r30_1.length : Int) == 0)
     (bd (num_PutText fu (strB (List.replicate (256 : Int).toNat (0 : Int)))) fun r30_4 =>
     br ((r30_4.length : Int) == 0)
      (bd (num_PutText fu (strB (List.replicate (255 : Int).toNat (0 : Int)))) fun r30_7 =>
      br ((r30_7.length : Int) == 257)
       (some (!r29_4))
       (some false))
      (some false))
     (some false)
   | .inr _ =>
    some false)
  | .inr _ =>
   some false))
theorem diwanlaw1_NumForms.meets (fu : Nat) (z0 : Bool) (h : diwanlaw1_NumForms fu = some z0) : Meets Try.prog ⟨5, [], []⟩ ⟨bv z0, []⟩ := by
 refine kMt hmix diwanlaw1_NumForms.O Try.f5 bd5 0 ?_
 unfold diwanlaw1_NumForms at h
 refine kRs 0 [] [] .n ?_
 refine kSq ?_
 obtain ⟨r2_1, h2_2, h⟩ := bd_inv h
 refine kRs 0 [Tm 13 (bv (!r2_1))] [.a ⟨bv r2_1, []⟩] (.c (Asks.of (C := Meets Try.prog) (diwanlaw1_begun.meets fu _ h2_2)) .n) ?_
 rcases br_inv h with ⟨b3_0, h⟩ | ⟨b3_0, h⟩
 ·refine kCt b3_0 ?_
  refine kRs 0 [Tm 0 (bv false)] [] .n ?_
  refine kRt ?_
  have h_ := some_inj h
  subst h_
  exact kFr
 ·refine kCe b3_0 ?_
  refine kSk ?_
  refine kCd (cR (cR bd5)) [] ?_
  refine kRs 0 [Tm 1 (.data (.slc true (some false) 1 (List.map e_i64 ([0, 127, 128, 16383, 16384, 9223372036854775807] : List Int))))] [] .n ?_
  refine kRs 1 [Tm 2 (.data (.slc true (some false) 1 (List.map e_s ([(⟨#[0]⟩ : ByteArray), (⟨#[127]⟩ : ByteArray), (⟨#[128, 1]⟩ : ByteArray), (⟨#[255, 127]⟩ : ByteArray), (⟨#[128, 128, 1]⟩ : ByteArray), (⟨#[255, 255, 255, 255, 255, 255, 255, 255, 127]⟩ : ByteArray)] : List ByteArray))))] [] .n ?_
  refine kSq ?_
  refine kRs 3 [Tm 3 (iv 0)] [] .n ?_
  refine kBk 0 ?_
  obtain ⟨o15, ho15, h⟩ := bd_inv h
  refine kUs (diwanlaw1_NumForms.lp8_ok fu ([0, 127, 128, 16383, 16384, 9223372036854775807] : List Int) ([(⟨#[0]⟩ : ByteArray), (⟨#[127]⟩ : ByteArray), (⟨#[128, 1]⟩ : ByteArray), (⟨#[255, 127]⟩ : ByteArray), (⟨#[128, 128, 1]⟩ : ByteArray), (⟨#[255, 255, 255, 255, 255, 255, 255, 255, 127]⟩ : ByteArray)] : List ByteArray) _ 0 _ ho15) ?_
  intro e_ τ_ hp_
  rcases o15 with o15 | o15
  ·obtain ⟨⟩ := o15
   obtain ⟨rfl, rfl⟩ := hp_
   refine kCd (cR (cR (cR (cR (cR bd5))))) [] ?_
   refine kRs 0 [Tm 4 (.data (.slc true (some false) 1 (List.map e_s ([ByteArray.empty, (⟨#[128]⟩ : ByteArray), (⟨#[128, 0]⟩ : ByteArray), (⟨#[255, 255, 255, 255, 255, 255, 255, 255, 255, 1]⟩ : ByteArray)] : List ByteArray))))] [] .n ?_
   refine kSq ?_
   refine kRs 1 [Tm 5 (iv 0)] [] .n ?_
   refine kBk 2 ?_
   obtain ⟨o28, ho28, h⟩ := bd_inv h
   refine kUs (diwanlaw1_NumForms.lp18_ok fu ([ByteArray.empty, (⟨#[128]⟩ : ByteArray), (⟨#[128, 0]⟩ : ByteArray), (⟨#[255, 255, 255, 255, 255, 255, 255, 255, 255, 1]⟩ : ByteArray)] : List ByteArray) _ 0 _ ho28) ?_
   intro e_ τ_ hp_
   rcases o28 with o28 | o28
   ·obtain ⟨⟩ := o28
    obtain ⟨rfl, rfl⟩ := hp_
    refine kCd (cR (cR (cR (cR (cR (cR (cR bd5))))))) [] ?_
    obtain ⟨c29_1, h⟩ := gd_inv h
    obtain ⟨⟨r29_2, r29_3, r29_4⟩, h29_5, h⟩ := bd_inv h
    refine kRs 0 [Tm 11 (bv r29_4)] [.s (.t 62) [sO 1 e_u8 (([128, 2] : List Int) ++ List.replicate (256 : Int).toNat (0 : Int))], .a ⟨.tup [sv r29_2, iv r29_3, bv r29_4], []⟩] (.c rT (.c (c_alz (e := e_u8) c29_1) (.c (congrArg (fun d : DV => [AV.data d]) (c_appz (e := e_u8) (s := 1) (l := ([128, 2] : List Int)) (n := (256 : Int).toNat) (x := (0 : Int)))) (.c (Asks.of (C := Meets Try.prog) (num_TakeText.meets fu (([128, 2] : List Int) ++ List.replicate (256 : Int).toNat (0 : Int)) _ _ _ h29_5)) .n)))) ?_
    obtain ⟨r30_1, h30_2, h⟩ := bd_inv h
    rcases br_inv h with ⟨b30_3, h⟩ | ⟨b30_3, h⟩
    ·obtain ⟨r30_4, h30_5, h⟩ := bd_inv h
     rcases br_inv h with ⟨b30_6, h⟩ | ⟨b30_6, h⟩
     ·obtain ⟨r30_7, h30_8, h⟩ := bd_inv h
      rcases br_inv h with ⟨b30_9, h⟩ | ⟨b30_9, h⟩
      ·refine kRs 0 [Tm 0 (bv (!r29_4))] (.a ⟨sO 1 e_u8 r30_1, []⟩ :: (.s (.t 68) [iv (r30_1.length : Int)] :: (.b true :: (.s (.t 71) [.data (.slc true (some false) 1 (List.map e_u8 (List.replicate (256 : Int).toNat (0 : Int))))] :: (.b true :: (.b true :: (.a ⟨sO 1 e_u8 r30_4, []⟩ :: (.b true :: (.s (.t 74) [iv (r30_4.length : Int)] :: (.b true :: (.b true :: (.b true :: (.s (.t 78) [.data (.slc true (some false) 1 (List.map e_u8 (List.replicate (255 : Int).toNat (0 : Int))))] :: (.b true :: (.b true :: (.a ⟨sO 1 e_u8 r30_7, []⟩ :: (.b true :: (.s (.t 81) [iv (r30_7.length : Int)] :: (rp 5 (.b true) []))))))))))))))))))) (.c (Asks.of (C := Meets Try.prog) (num_Put.meets fu (-9223372036854775808) _ h30_2)) (.c (c_len (e := e_u8) (l := r30_1)) (.c b30_3 (.c rT (.c (congrArg (fun d : DV => [AV.data d]) (c_rep (e := e_u8) (s := 1) (n := (256 : Int).toNat) (x := 0))) (.c b30_3 (.c (c_ab (List.replicate (256 : Int).toNat (0 : Int))) (.c b30_3 (.c (Asks.of (C := Meets Try.prog) (num_PutText.meets fu (strB (List.replicate (256 : Int).toNat (0 : Int))) _ h30_5)) (.c b30_3 (.c (c_len (e := e_u8) (l := r30_4)) (.r 2 b30_3 (.c b30_6 (.c rT (.c (congrArg (fun d : DV => [AV.data d]) (c_rep (e := e_u8) (s := 1) (n := (255 : Int).toNat) (x := 0))) (.c b30_6 (.c (c_ab (List.replicate (255 : Int).toNat (0 : Int))) (.c b30_6 (.c (Asks.of (C := Meets Try.prog) (num_PutText.meets fu (strB (List.replicate (255 : Int).toNat (0 : Int))) _ h30_8)) (.c b30_6 (.c (c_len (e := e_u8) (l := r30_7)) (.r 2 b30_6 (.r 3 b30_9 .n))))))))))))))))))))))) ?_
       refine kRt ?_
       have h_ := some_inj h
       subst h_
       exact kFr
      ·refine kRs 0 [Tm 0 (bv false)] [.a ⟨sO 1 e_u8 r30_1, []⟩, .s (.t 68) [iv (r30_1.length : Int)], .b true, .s (.t 71) [.data (.slc true (some false) 1 (List.map e_u8 (List.replicate (256 : Int).toNat (0 : Int))))], .b true, .b true, .a ⟨sO 1 e_u8 r30_4, []⟩, .b true, .s (.t 74) [iv (r30_4.length : Int)], .b true, .b true, .b true, .s (.t 78) [.data (.slc true (some false) 1 (List.map e_u8 (List.replicate (255 : Int).toNat (0 : Int))))], .b true, .b true, .a ⟨sO 1 e_u8 r30_7, []⟩, .b true, .s (.t 81) [iv (r30_7.length : Int)], .b true, .b true, .b false, .b false, .b false] (.c (Asks.of (C := Meets Try.prog) (num_Put.meets fu (-9223372036854775808) _ h30_2)) (.c (c_len (e := e_u8) (l := r30_1)) (.c b30_3 (.c rT (.c (congrArg (fun d : DV => [AV.data d]) (c_rep (e := e_u8) (s := 1) (n := (256 : Int).toNat) (x := 0))) (.c b30_3 (.c (c_ab (List.replicate (256 : Int).toNat (0 : Int))) (.c b30_3 (.c (Asks.of (C := Meets Try.prog) (num_PutText.meets fu (strB (List.replicate (256 : Int).toNat (0 : Int))) _ h30_5)) (.c b30_3 (.c (c_len (e := e_u8) (l := r30_4)) (.r 2 b30_3 (.c b30_6 (.c rT (.c (congrArg (fun d : DV => [AV.data d]) (c_rep (e := e_u8) (s := 1) (n := (255 : Int).toNat) (x := 0))) (.c b30_6 (.c (c_ab (List.replicate (255 : Int).toNat (0 : Int))) (.c b30_6 (.c (Asks.of (C := Meets Try.prog) (num_PutText.meets fu (strB (List.replicate (255 : Int).toNat (0 : Int))) _ h30_8)) (.c b30_6 (.c (c_len (e := e_u8) (l := r30_7)) (.r 2 b30_6 (.r 3 b30_9 .n))))))))))))))))))))))) ?_
       refine kRt ?_
       have h_ := some_inj h
       subst h_
       exact kFr
     ·refine kRs 0 [Tm 0 (bv false)] (.a ⟨sO 1 e_u8 r30_1, []⟩ :: (.s (.t 68) [iv (r30_1.length : Int)] :: (.b true :: (.s (.t 71) [.data (.slc true (some false) 1 (List.map e_u8 (List.replicate (256 : Int).toNat (0 : Int))))] :: (.b true :: (.b true :: (.a ⟨sO 1 e_u8 r30_4, []⟩ :: (.b true :: (.s (.t 74) [iv (r30_4.length : Int)] :: (.b true :: (.b true :: (rp 9 (.b false) [])))))))))))) (.c (Asks.of (C := Meets Try.prog) (num_Put.meets fu (-9223372036854775808) _ h30_2)) (.c (c_len (e := e_u8) (l := r30_1)) (.c b30_3 (.c rT (.c (congrArg (fun d : DV => [AV.data d]) (c_rep (e := e_u8) (s := 1) (n := (256 : Int).toNat) (x := 0))) (.c b30_3 (.c (c_ab (List.replicate (256 : Int).toNat (0 : Int))) (.c b30_3 (.c (Asks.of (C := Meets Try.prog) (num_PutText.meets fu (strB (List.replicate (256 : Int).toNat (0 : Int))) _ h30_5)) (.c b30_3 (.c (c_len (e := e_u8) (l := r30_4)) (.r 2 b30_3 (.r 6 b30_6 (.r 3 rF .n)))))))))))))) ?_
      refine kRt ?_
      have h_ := some_inj h
      subst h_
      exact kFr
    ·refine kRs 0 [Tm 0 (bv false)] (.a ⟨sO 1 e_u8 r30_1, []⟩ :: (.s (.t 68) [iv (r30_1.length : Int)] :: (rp 15 (.b false) []))) (.c (Asks.of (C := Meets Try.prog) (num_Put.meets fu (-9223372036854775808) _ h30_2)) (.c (c_len (e := e_u8) (l := r30_1)) (.r 6 b30_3 (.r 9 rF .n)))) ?_
     refine kRt ?_
     have h_ := some_inj h
     subst h_
     exact kFr
   ·obtain ⟨⟩ := o28
    obtain ⟨rfl, rfl⟩ := hp_
    have h_ := some_inj h
    subst h_
    exact kFr
  ·obtain ⟨⟩ := o15
   obtain ⟨rfl, rfl⟩ := hp_
   have h_ := some_inj h
   subst h_
   exact kFr
end Go.Proofs.Ytiioolggdffdbaa.Told
