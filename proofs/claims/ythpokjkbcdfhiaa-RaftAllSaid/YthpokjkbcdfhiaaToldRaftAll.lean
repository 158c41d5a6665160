/- Functions of the program told as Lean functions, with the walks of their code in the machine by value. -/
import Derived.Test.YthpokjkbcdfhiaaProg
import Derived.Test.YthpokjkbcdfhiaaVam2
import Derived.Test.YthpokjkbcdfhiaaToldRaftAllp2
noncomputable section
namespace Go.Proofs.Ythpokjkbcdfhiaa.Told
open Go Go.Proofs Go.Proofs.Ythpokjkbcdfhiaa Go.Proofs.Ythpokjkbcdfhiaa.Vam
set_option linter.unusedVariables false
set_option maxRecDepth 100000
def bd87 : Code := (Try.f87.body).getD .skip
def diwanref1_Join.O : Nat → Nat := fun t => bif ([6, 7, 8, 9, 10, 48, 51, 55] : List Nat).any (Nat.beq t) then 1 else 0
def diwanref1_Join.lp8 (fu : Nat) (l8_0 : Int) (l8_1 : List TEntry) (l8_2 : List TEntry) : Nat → Int → Option (Unit ⊕ (List TEntry))
  | 0, _ => none
  | n_ + 1, l8_3 =>
  br (decide (l8_3 < (l8_1.length : Int)))
   (jn (
    gd (decide ((0 : Int) ≤ (w64 (l8_0 + l8_3)) ∧ (w64 (l8_0 + l8_3)) ≤ (l8_2.length : Int))) <|
    gd (decide (([] : List TEntry).length + (List.take (w64 (l8_0 + l8_3)).toNat l8_2).length ≤ 4294967296)) <|
    gd (decide ((0 : Int) ≤ l8_3 ∧ l8_3 ≤ (l8_1.length : Int))) <|
    gd (decide ((List.take (w64 (l8_0 + l8_3)).toNat l8_2).length + (List.drop l8_3.toNat l8_1).length ≤ 4294967296)) <|
    some (.inr ((List.take (w64 (l8_0 + l8_3)).toNat l8_2) ++ (List.drop l8_3.toNat l8_1)))) fun k15 =>
   br (decide ((w64 (l8_0 + l8_3)) < (l8_2.length : Int)))
    (ix l8_2 (w64 (l8_0 + l8_3)) fun x12_2 =>
    ix l8_1 l8_3 fun x12_5 =>
    br (x12_2.Term == x12_5.Term)
     (diwanref1_Join.lp8 fu l8_0 l8_1 l8_2 n_ (w64 (l8_3 + 1)))
     (k15))
    (k15))
   (some (.inl ()))
def diwanref1_Join.lp8_post (l8_0 : Int) (l8_1 : List TEntry) (l8_2 : List TEntry) (r_ : (Unit ⊕ (List TEntry))) : Wy → St → Prop := fun e τ => match r_ with
  | .inl _ => e = .exit 0 ∧ τ = ofL [Tm 7 (sO 6 TEntry.en l8_2)]
  | .inr y0 => e = .ret ∧ τ = ofL [Tm 6 (sO 6 TEntry.en y0)]
theorem diwanref1_Join.lp8_ok (fu : Nat) (l8_0 : Int) (l8_1 : List TEntry) (l8_2 : List TEntry) : ∀ (n_ : Nat) (l8_3 : Int) (r_ : (Unit ⊕ (List TEntry))), diwanref1_Join.lp8 fu l8_0 l8_1 l8_2 n_ l8_3 = some r_ → WK Try.prog diwanref1_Join.O (Ck Try.prog) (cB (cR (cL (cR (cR (cR bd87)))))) [] (ofL [Tm 1 (iv l8_0), Tm 2 (sS 6 TEntry.en l8_1), Tm 7 (sO 6 TEntry.en l8_2), Tm 8 (iv l8_3)]) (diwanref1_Join.lp8_post l8_0 l8_1 l8_2 r_) := by
 intro n_
 induction n_ with
 | zero => intro l8_3 r_ h; exact no_none h
 | succ n_ ih =>
  intro l8_3 r_ h
  refine kLp ?_
  refine kSq ?_
  refine kRs 15 [Tm 25 (bv (decide (l8_3 < (l8_1.length : Int))))] [.s (.t 24) [iv (l8_1.length : Int)]] (.c (c_len (e := TEntry.en) (l := l8_1)) .n) ?_
  rcases br_inv h with ⟨b10_0, h⟩ | ⟨b10_0, h⟩
  ·refine kCt b10_0 ?_
   refine kSk ?_
   refine kCd (cR (cB (cB (cR (cL (cR (cR (cR bd87)))))))) [.lp (cB (cR (cL (cR (cR (cR bd87))))))] ?_
   refine kSq ?_
   refine kBk 1 ?_
   refine kRs 30 [Tm 9 (iv (w64 (l8_0 + l8_3)))] [] .n ?_
   obtain ⟨k15, hk15, h⟩ := jn_inv h
   have Jk15 : k15 = some r_ → WK Try.prog diwanref1_Join.O (Ck Try.prog) (cR (cR (cB (cL (cR (cB (cB (cR (cL (cR (cR (cR bd87)))))))))))) [.blk 1, .seq (cR (cR (cB (cB (cR (cL (cR (cR (cR bd87))))))))), .lp (cB (cR (cL (cR (cR (cR bd87))))))] (ofL [Tm 2 (sS 6 TEntry.en l8_1), Tm 7 (sO 6 TEntry.en l8_2), Tm 8 (iv l8_3), Tm 9 (iv (w64 (l8_0 + l8_3)))]) (diwanref1_Join.lp8_post l8_0 l8_1 l8_2 r_) := by
    intro h
    rw [hk15] at h
    obtain ⟨c16_1, h⟩ := gd_inv h
    obtain ⟨c16_2, h⟩ := gd_inv h
    obtain ⟨c16_3, h⟩ := gd_inv h
    obtain ⟨c16_4, h⟩ := gd_inv h
    refine kRs 0 [Tm 7 (sO 6 TEntry.en ((List.take (w64 (l8_0 + l8_3)).toNat l8_2) ++ (List.drop l8_3.toNat l8_1)))] [.s (.t 51) [sO 6 TEntry.en (List.take (w64 (l8_0 + l8_3)).toNat l8_2)], .s (.t 55) [sS 6 TEntry.en (List.drop l8_3.toNat l8_1)], .s (.t 56) [sO 6 TEntry.en ((List.take (w64 (l8_0 + l8_3)).toNat l8_2) ++ (List.drop l8_3.toNat l8_1))]] (.c (c_cbH (e := TEntry.en) c16_1) (.c (congrArg (fun d : DV => [AV.data d]) (c_cutH (own := true) (nl := none) (s := 6) (e := TEntry.en) (l := l8_2) (h := (w64 (l8_0 + l8_3)).toNat))) (.c (c_al (e := TEntry.en) (f := TEntry.en) c16_2) (.c (c_cbL (e := TEntry.en) c16_3) (.c (congrArg (fun d : DV => [AV.data d]) (c_cutL (own := false) (nl := none) (s := 6) (e := TEntry.en) (l := l8_1) (lo := l8_3.toNat))) (.c (c_al (e := TEntry.en) (f := TEntry.en) c16_4) (.c (congrArg (fun d : DV => [AV.data d]) (c_app (e := TEntry.en) (s := 6) (l := (List.take (w64 (l8_0 + l8_3)).toNat l8_2)) (m := (List.drop l8_3.toNat l8_1)))) (.c rT .n)))))))) ?_
    refine kRs 0 [Tm 6 (sO 6 TEntry.en ((List.take (w64 (l8_0 + l8_3)).toNat l8_2) ++ (List.drop l8_3.toNat l8_1)))] [] .n ?_
    cases some_inj h
    refine kWo ?_
    refine kRt ?_
    exact kOut
   clear hk15
   refine kSq ?_
   rcases br_inv h with ⟨b12_1, h⟩ | ⟨b12_1, h⟩
   ·obtain ⟨x12_2, a12_3, e12_4, h⟩ := ix_inv h
    obtain ⟨x12_5, a12_6, e12_7, h⟩ := ix_inv h
    refine kRs 31 [Tm 47 (bv (x12_2.Term == x12_5.Term))] (.s (.t 33) [iv (l8_2.length : Int)] :: (rp 5 (.b true) (.c (TEntry.en x12_2) :: (.b true :: (.b true :: (.b true :: (.c (TEntry.en x12_5) :: (rp 4 (.b true) [])))))))) (.c (c_len (e := TEntry.en) (l := l8_2)) (.r 3 b12_1 (.c (c_ix (e := TEntry.en) a12_3 e12_4) (.r 2 b12_1 (.c (c_el (e := TEntry.en) e12_4) (.r 3 b12_1 (.c (c_ix (e := TEntry.en) a12_6 e12_7) (.c (c_el (e := TEntry.en) e12_7) (.r 4 b12_1 (.c rT .n)))))))))) ?_
    rcases br_inv h with ⟨b13_0, h⟩ | ⟨b13_0, h⟩
    ·refine kCt b13_0 ?_
     refine kXt 1 ?_
     refine kCd (cR (cR (cB (cB (cR (cL (cR (cR (cR bd87))))))))) [.lp (cB (cR (cL (cR (cR (cR bd87))))))] ?_
     refine kRc 28 [Tm 8 (iv (w64 (l8_3 + 1)))] [] .n (cB (cR (cL (cR (cR (cR bd87)))))) [] ?_
     exact kWk (ih (w64 (l8_3 + 1)) _ h)
    ·refine kCe b13_0 ?_
     refine kSk ?_
     refine kCd (cR (cR (cB (cL (cR (cB (cB (cR (cL (cR (cR (cR bd87)))))))))))) [.blk 1, .seq (cR (cR (cB (cB (cR (cL (cR (cR (cR bd87))))))))), .lp (cB (cR (cL (cR (cR (cR bd87))))))] ?_
     exact kWk (Jk15 h)
   ·refine kRs 31 [Tm 47 (bv false)] (.s (.t 33) [iv (l8_2.length : Int)] :: (rp 12 (.b false) [])) (.c (c_len (e := TEntry.en) (l := l8_2)) (.r 12 b12_1 (.c rT .n))) ?_
    refine kCe rF ?_
    refine kSk ?_
    refine kCd (cR (cR (cB (cL (cR (cB (cB (cR (cL (cR (cR (cR bd87)))))))))))) [.blk 1, .seq (cR (cR (cB (cB (cR (cL (cR (cR (cR bd87))))))))), .lp (cB (cR (cL (cR (cR (cR bd87))))))] ?_
    exact kWk (Jk15 h)
  ·refine kCe b10_0 ?_
   cases some_inj h
   refine kWo ?_
   refine kXt 0 ?_
   exact kOut
def diwanref1_Join (fu : Nat) (l : List TEntry) (i : Int) (more : List TEntry) : Option (List TEntry) :=
 gd (decide (([] : List TEntry).length + l.length ≤ 4294967296)) <|
 br (decide (i < 0))
  (some l)
  (br (decide (i > (l.length : Int)))
   (some l)
   (bd (diwanref1_Join.lp8 fu i more l fu 0) fun o_ => (match o_ with
   | .inl _ =>
    some l
   | .inr y18_0 =>
    some y18_0)))
theorem diwanref1_Join.meets (fu : Nat) (l : List TEntry) (i : Int) (more : List TEntry) (z0 : List TEntry) (h : diwanref1_Join fu l i more = some z0) : Meets Try.prog ⟨87, [sS 6 TEntry.en l, iv i, sS 6 TEntry.en more], []⟩ ⟨sO 6 TEntry.en z0, []⟩ := by
 refine kMt hmix diwanref1_Join.O Try.f87 bd87 7 ?_
 unfold diwanref1_Join at h
 refine kRs 7 [] [] .n ?_
 obtain ⟨c2_1, h⟩ := gd_inv h
 refine kRs 7 [Tm 7 (sO 6 TEntry.en l)] [] (.c (c_al (e := TEntry.en) (f := TEntry.en) c2_1) .n) ?_
 refine kSq ?_
 rcases br_inv h with ⟨b3_1, h⟩ | ⟨b3_1, h⟩
 ·refine kRs 13 [Tm 20 (bv true)] (rp 5 (.b true) []) (.r 5 b3_1 .n) ?_
  refine kCt rT ?_
  refine kRs 0 [Tm 6 (sO 6 TEntry.en l)] [] .n ?_
  refine kRt ?_
  have h_ := some_inj h
  subst h_
  exact kFr
 ·refine kRs 13 [Tm 20 (bv (decide (i > (l.length : Int))))] [.b false, .b false, .b false, .s (.t 18) [iv (l.length : Int)], .b false, .b false] (.r 3 b3_1 (.c (c_len (e := TEntry.en) (l := l)) (.r 2 b3_1 .n))) ?_
  rcases br_inv h with ⟨b5_0, h⟩ | ⟨b5_0, h⟩
  ·refine kCt b5_0 ?_
   refine kRs 0 [Tm 6 (sO 6 TEntry.en l)] [] .n ?_
   refine kRt ?_
   have h_ := some_inj h
   subst h_
   exact kFr
  ·refine kCe b5_0 ?_
   refine kSk ?_
   refine kCd (cR (cR (cR bd87))) [] ?_
   refine kSq ?_
   refine kRs 14 [Tm 8 (iv 0)] [] .n ?_
   refine kBk 0 ?_
   obtain ⟨o18, ho18, h⟩ := bd_inv h
   refine kUs (diwanref1_Join.lp8_ok fu i more l _ 0 _ ho18) ?_
   intro e_ τ_ hp_
   rcases o18 with o18 | o18
   ·obtain ⟨⟩ := o18
    obtain ⟨rfl, rfl⟩ := hp_
    refine kCd (cR (cR (cR (cR bd87)))) [] ?_
    refine kRs 0 [Tm 6 (sO 6 TEntry.en l)] [] .n ?_
    refine kRt ?_
    have h_ := some_inj h
    subst h_
    exact kFr
   ·obtain ⟨y18_0, rfl⟩ : ∃ y, y = o18 := ⟨_, rfl⟩
    obtain ⟨rfl, rfl⟩ := hp_
    have h_ := some_inj h
    subst h_
    exact kFr
def bd59 : Code := (Try.f59.body).getD .skip
def diwanref11_machine_append.O : Nat → Nat := fun t => bif ([3, 4, 5, 54, 77, 88, 102, 113] : List Nat).any (Nat.beq t) then 1 else 0
def diwanref11_machine_append (fu : Nat) (x_v : TMsg) (o0_v : TMachine) : Option TMachine :=
 br (o0_v.r.Role == 2)
  (some o0_v)
  (bd (diwanref1_Has o0_v.r.Log x_v.Index x_v.LogTerm) fun r5_1 =>
  br (!r5_1)
   (bd (diwanref11_machine_send (TMsg.mk 4 0 0 0 o0_v.r.Term (if (if (o0_v.r.Log.length : Int) < (w64 (x_v.Index - 1)) then (o0_v.r.Log.length : Int) else (w64 (x_v.Index - 1))) < 0 then 0 else (if (o0_v.r.Log.length : Int) < (w64 (x_v.Index - 1)) then (o0_v.r.Log.length : Int) else (w64 (x_v.Index - 1)))) 0 0 false [] (TTxn.mk 0 0 [] []) 0 0 0 0 false ByteArray.empty ByteArray.empty [] [] 0) x_v.From (TMachine.mk (TRaft.mk o0_v.r.Me o0_v.r.Nodes o0_v.r.Wait o0_v.r.Term o0_v.r.Vote o0_v.r.Log o0_v.r.Commit 0 x_v.From o0_v.r.Votes o0_v.r.Next o0_v.r.Match 0) o0_v.out)) fun r7_1 =>
   some r7_1)
   (bd (diwanref1_Join fu o0_v.r.Log x_v.Index x_v.Entries) fun r8_1 =>
   br (decide ((r8_1.length : Int) > 200))
    (bd (diwanref11_machine_send_2 (TMsg.mk 4 0 0 0 o0_v.r.Term 0 0 0 false [] (TTxn.mk 0 0 [] []) 0 0 0 0 false ByteArray.empty ByteArray.empty [] [] 0) x_v.From (TMachine.mk (TRaft.mk o0_v.r.Me o0_v.r.Nodes o0_v.r.Wait o0_v.r.Term o0_v.r.Vote o0_v.r.Log o0_v.r.Commit 0 x_v.From o0_v.r.Votes o0_v.r.Next o0_v.r.Match 0) o0_v.out)) fun r11_1 =>
    some r11_1)
    (bd (diwanref11_machine_send_2 (TMsg.mk 4 0 0 0 o0_v.r.Term (w64 (x_v.Index + (x_v.Entries.length : Int))) 0 0 true [] (TTxn.mk 0 0 [] []) 0 0 0 0 false ByteArray.empty ByteArray.empty [] [] 0) x_v.From (TMachine.mk (TRaft.mk o0_v.r.Me o0_v.r.Nodes o0_v.r.Wait o0_v.r.Term o0_v.r.Vote r8_1 (if o0_v.r.Commit < (if (w64 (x_v.Index + (x_v.Entries.length : Int))) < x_v.Commit then (w64 (x_v.Index + (x_v.Entries.length : Int))) else x_v.Commit) then (if (w64 (x_v.Index + (x_v.Entries.length : Int))) < x_v.Commit then (w64 (x_v.Index + (x_v.Entries.length : Int))) else x_v.Commit) else o0_v.r.Commit) 0 x_v.From o0_v.r.Votes o0_v.r.Next o0_v.r.Match 0) o0_v.out)) fun r15_1 =>
    some r15_1)))
theorem diwanref11_machine_append.meets (fu : Nat) (x_v : TMsg) (o0_v : TMachine) (z0 : TMachine) (h : diwanref11_machine_append fu x_v o0_v = some z0) : Meets Try.prog ⟨59, [.ptr 1000 0, .data (TMsg.ag x_v)], [(TMachine.ob_00000100011101 o0_v)]⟩ ⟨.tup [], [(TMachine.ob_00000000011101 z0)]⟩ := by
 refine kMt hmix diwanref11_machine_append.O Try.f59 bd59 7 ?_
 unfold diwanref11_machine_append at h
 refine kRs 5 [Tm 3 (.ptr 3 0), Ob 3 (TMsg.ob x_v)] [] .n ?_
 refine kSq ?_
 refine kRs 15 [Tm 11 (bv (o0_v.r.Role == 2))] [] .n ?_
 rcases br_inv h with ⟨b3_0, h⟩ | ⟨b3_0, h⟩
 ·refine kCt b3_0 ?_
  refine kSo 1000 5 0 [Ob 1000 (TMachine.ob_00000000011101 o0_v)] ?_
  refine kRt ?_
  have h_ := some_inj h
  subst h_
  exact kFr
 ·refine kCe b3_0 ?_
  refine kSk ?_
  refine kCd (cR (cR bd59)) [] ?_
  refine kRs 14 [Ob 1000 (TMachine.ob_00000100011101 (TMachine.mk (TRaft.mk o0_v.r.Me o0_v.r.Nodes o0_v.r.Wait o0_v.r.Term o0_v.r.Vote o0_v.r.Log o0_v.r.Commit 0 x_v.From o0_v.r.Votes o0_v.r.Next o0_v.r.Match 0) o0_v.out))] [] (.c rT .n) ?_
  refine kSq ?_
  obtain ⟨r5_1, h5_2, h⟩ := bd_inv h
  refine kRs 15 [Tm 36 (bv (!r5_1))] [.a ⟨bv r5_1, []⟩] (.c (Asks.of (C := Meets Try.prog) (diwanref1_Has.meets o0_v.r.Log x_v.Index x_v.LogTerm _ h5_2)) (.c rT .n)) ?_
  rcases br_inv h with ⟨b6_0, h⟩ | ⟨b6_0, h⟩
  ·refine kCt b6_0 ?_
   obtain ⟨r7_1, h7_2, h⟩ := bd_inv h
   refine kRs 0 [Ob 1000 (TMachine.ob_00000100011101 r7_1)] [.s (.t 51) [iv (o0_v.r.Log.length : Int)], .a ⟨.tup [], [(TMachine.ob_00000100011101 r7_1)]⟩] (.c (c_len (e := TEntry.en) (l := o0_v.r.Log)) (.c (Asks.of (C := Meets Try.prog) (diwanref11_machine_send.meets (TMsg.mk 4 0 0 0 o0_v.r.Term (if (if (o0_v.r.Log.length : Int) < (w64 (x_v.Index - 1)) then (o0_v.r.Log.length : Int) else (w64 (x_v.Index - 1))) < 0 then 0 else (if (o0_v.r.Log.length : Int) < (w64 (x_v.Index - 1)) then (o0_v.r.Log.length : Int) else (w64 (x_v.Index - 1)))) 0 0 false [] (TTxn.mk 0 0 [] []) 0 0 0 0 false ByteArray.empty ByteArray.empty [] [] 0) x_v.From (TMachine.mk (TRaft.mk o0_v.r.Me o0_v.r.Nodes o0_v.r.Wait o0_v.r.Term o0_v.r.Vote o0_v.r.Log o0_v.r.Commit 0 x_v.From o0_v.r.Votes o0_v.r.Next o0_v.r.Match 0) o0_v.out) _ h7_2)) (.c rT .n))) ?_
   refine kSo 1000 5 0 [Ob 1000 (TMachine.ob_00000000011101 r7_1)] ?_
   refine kRt ?_
   have h_ := some_inj h
   subst h_
   exact kFr
  ·refine kCe b6_0 ?_
   refine kSk ?_
   refine kCd (cR (cR (cR (cR bd59)))) [] ?_
   refine kSo 1000 5 28 [Ob 1000 (TMachine.ob_00000000011101 (TMachine.mk (TRaft.mk o0_v.r.Me o0_v.r.Nodes o0_v.r.Wait o0_v.r.Term o0_v.r.Vote o0_v.r.Log o0_v.r.Commit 0 x_v.From o0_v.r.Votes o0_v.r.Next o0_v.r.Match 0) o0_v.out))] ?_
   obtain ⟨r8_1, h8_2, h⟩ := bd_inv h
   refine kRs 15 [Tm 4 (sO 6 TEntry.en r8_1)] [.a ⟨sO 6 TEntry.en r8_1, []⟩] (.c (Asks.of (C := Meets Try.prog) (diwanref1_Join.meets fu o0_v.r.Log x_v.Index x_v.Entries _ h8_2)) (.c rT .n)) ?_
   refine kSq ?_
   refine kRs 31 [Tm 70 (bv (decide ((r8_1.length : Int) > 200)))] [.s (.t 69) [iv (r8_1.length : Int)]] (.c (c_len (e := TEntry.en) (l := r8_1)) .n) ?_
   rcases br_inv h with ⟨b10_0, h⟩ | ⟨b10_0, h⟩
   ·refine kCt b10_0 ?_
    obtain ⟨r11_1, h11_2, h⟩ := bd_inv h
    refine kRs 0 [Ob 1000 (TMachine.ob_00000000011101 r11_1)] [.a ⟨.tup [], [(TMachine.ob_00000000011101 r11_1)]⟩] (.c (Asks.of (C := Meets Try.prog) (diwanref11_machine_send_2.meets (TMsg.mk 4 0 0 0 o0_v.r.Term 0 0 0 false [] (TTxn.mk 0 0 [] []) 0 0 0 0 false ByteArray.empty ByteArray.empty [] [] 0) x_v.From (TMachine.mk (TRaft.mk o0_v.r.Me o0_v.r.Nodes o0_v.r.Wait o0_v.r.Term o0_v.r.Vote o0_v.r.Log o0_v.r.Commit 0 x_v.From o0_v.r.Votes o0_v.r.Next o0_v.r.Match 0) o0_v.out) _ h11_2)) (.c rT .n)) ?_
    refine kRt ?_
    have h_ := some_inj h
    subst h_
    exact kFr
   ·refine kCe b10_0 ?_
    refine kSk ?_
    refine kCd (cR (cR (cR (cR (cR (cR bd59)))))) [] ?_
    refine kRs 62 [Tm 5 (iv (w64 (x_v.Index + (x_v.Entries.length : Int))))] [.s (.t 85) [iv (x_v.Entries.length : Int)]] (.c (c_len (e := TEntry.en) (l := x_v.Entries)) .n) ?_
    refine kRs 57 [Ob 1000 (TMachine.ob_00000100011101 (TMachine.mk (TRaft.mk o0_v.r.Me o0_v.r.Nodes o0_v.r.Wait o0_v.r.Term o0_v.r.Vote r8_1 o0_v.r.Commit 0 x_v.From o0_v.r.Votes o0_v.r.Next o0_v.r.Match 0) o0_v.out))] [] .n ?_
    refine kRs 30 [Ob 1000 (TMachine.ob_00000100011101 (TMachine.mk (TRaft.mk o0_v.r.Me o0_v.r.Nodes o0_v.r.Wait o0_v.r.Term o0_v.r.Vote r8_1 (if o0_v.r.Commit < (if (w64 (x_v.Index + (x_v.Entries.length : Int))) < x_v.Commit then (w64 (x_v.Index + (x_v.Entries.length : Int))) else x_v.Commit) then (if (w64 (x_v.Index + (x_v.Entries.length : Int))) < x_v.Commit then (w64 (x_v.Index + (x_v.Entries.length : Int))) else x_v.Commit) else o0_v.r.Commit) 0 x_v.From o0_v.r.Votes o0_v.r.Next o0_v.r.Match 0) o0_v.out))] [] (.c rT .n) ?_
    refine kSo 1000 5 30 [Ob 1000 (TMachine.ob_00000000011101 (TMachine.mk (TRaft.mk o0_v.r.Me o0_v.r.Nodes o0_v.r.Wait o0_v.r.Term o0_v.r.Vote r8_1 (if o0_v.r.Commit < (if (w64 (x_v.Index + (x_v.Entries.length : Int))) < x_v.Commit then (w64 (x_v.Index + (x_v.Entries.length : Int))) else x_v.Commit) then (if (w64 (x_v.Index + (x_v.Entries.length : Int))) < x_v.Commit then (w64 (x_v.Index + (x_v.Entries.length : Int))) else x_v.Commit) else o0_v.r.Commit) 0 x_v.From o0_v.r.Votes o0_v.r.Next o0_v.r.Match 0) o0_v.out))] ?_
    obtain ⟨r15_1, h15_2, h⟩ := bd_inv h
    have h_ := some_inj h
    subst h_
    exact kRf [.a ⟨.tup [], [(TMachine.ob_00000000011101 r15_1)]⟩] (.c (Asks.of (C := Meets Try.prog) (diwanref11_machine_send_2.meets (TMsg.mk 4 0 0 0 o0_v.r.Term (w64 (x_v.Index + (x_v.Entries.length : Int))) 0 0 true [] (TTxn.mk 0 0 [] []) 0 0 0 0 false ByteArray.empty ByteArray.empty [] [] 0) x_v.From (TMachine.mk (TRaft.mk o0_v.r.Me o0_v.r.Nodes o0_v.r.Wait o0_v.r.Term o0_v.r.Vote r8_1 (if o0_v.r.Commit < (if (w64 (x_v.Index + (x_v.Entries.length : Int))) < x_v.Commit then (w64 (x_v.Index + (x_v.Entries.length : Int))) else x_v.Commit) then (if (w64 (x_v.Index + (x_v.Entries.length : Int))) < x_v.Commit then (w64 (x_v.Index + (x_v.Entries.length : Int))) else x_v.Commit) else o0_v.r.Commit) 0 x_v.From o0_v.r.Votes o0_v.r.Next o0_v.r.Match 0) o0_v.out) _ h15_2)) (.c rT .n))
def bd60 : Code := (Try.f60.body).getD .skip
def diwanref11_machine_appended.O : Nat → Nat := fun t => bif ([3, 4, 45, 74, 90, 113] : List Nat).any (Nat.beq t) then 1 else 0
def diwanref11_machine_appended (fu : Nat) (x_v : TMsg) (o0_v : TMachine) : Option TMachine :=
 br (o0_v.r.Role != 2)
  (some o0_v)
  (br (!x_v.OK)
   (ix o0_v.r.Next (w64 (x_v.From - 1)) fun x7_1 =>
   ix o0_v.r.Match (w64 (x_v.From - 1)) fun x7_4 =>
   ix o0_v.r.Next (w64 (x_v.From - 1)) fun x7_7 =>
   bd (diwanref11_machine_entries x_v.From (TMachine.mk (TRaft.mk o0_v.r.Me o0_v.r.Nodes o0_v.r.Wait o0_v.r.Term o0_v.r.Vote o0_v.r.Log o0_v.r.Commit o0_v.r.Role o0_v.r.Leader o0_v.r.Votes (o0_v.r.Next.set (w64 (x_v.From - 1)).toNat (if (if (if (w64 (x_v.Index + 1)) < (w64 (x7_1 - 1)) then (w64 (x_v.Index + 1)) else (w64 (x7_1 - 1))) < (w64 (x7_4 + 1)) then (w64 (x7_4 + 1)) else (if (w64 (x_v.Index + 1)) < (w64 (x7_1 - 1)) then (w64 (x_v.Index + 1)) else (w64 (x7_1 - 1)))) < 1 then 1 else (if (if (w64 (x_v.Index + 1)) < (w64 (x7_1 - 1)) then (w64 (x_v.Index + 1)) else (w64 (x7_1 - 1))) < (w64 (x7_4 + 1)) then (w64 (x7_4 + 1)) else (if (w64 (x_v.Index + 1)) < (w64 (x7_1 - 1)) then (w64 (x_v.Index + 1)) else (w64 (x7_1 - 1)))))) o0_v.r.Match o0_v.r.Clock) o0_v.out)) fun r8_1 =>
   some r8_1)
   (ix o0_v.r.Match (w64 (x_v.From - 1)) fun x9_1 =>
   ix o0_v.r.Match (w64 (x_v.From - 1)) fun x9_4 =>
   ix (o0_v.r.Match.set (w64 (x_v.From - 1)).toNat (if x9_1 < (if (o0_v.r.Log.length : Int) < x_v.Index then (o0_v.r.Log.length : Int) else x_v.Index) then (if (o0_v.r.Log.length : Int) < x_v.Index then (o0_v.r.Log.length : Int) else x_v.Index) else x9_1)) (w64 (x_v.From - 1)) fun x10_1 =>
   ix o0_v.r.Next (w64 (x_v.From - 1)) fun x10_4 =>
   bd (diwanref1_Next fu (o0_v.r.Match.set (w64 (x_v.From - 1)).toNat (if x9_1 < (if (o0_v.r.Log.length : Int) < x_v.Index then (o0_v.r.Log.length : Int) else x_v.Index) then (if (o0_v.r.Log.length : Int) < x_v.Index then (o0_v.r.Log.length : Int) else x_v.Index) else x9_1)) o0_v.r.Log o0_v.r.Term o0_v.r.Commit) fun r11_1 =>
   ix (o0_v.r.Next.set (w64 (x_v.From - 1)).toNat (w64 (x10_1 + 1))) (w64 (x_v.From - 1)) fun x12_1 =>
   br (decide (x12_1 ≤ (o0_v.r.Log.length : Int)))
    (bd (diwanref11_machine_entries x_v.From (TMachine.mk (TRaft.mk o0_v.r.Me o0_v.r.Nodes o0_v.r.Wait o0_v.r.Term o0_v.r.Vote o0_v.r.Log r11_1 o0_v.r.Role o0_v.r.Leader o0_v.r.Votes (o0_v.r.Next.set (w64 (x_v.From - 1)).toNat (w64 (x10_1 + 1))) (o0_v.r.Match.set (w64 (x_v.From - 1)).toNat (if x9_1 < (if (o0_v.r.Log.length : Int) < x_v.Index then (o0_v.r.Log.length : Int) else x_v.Index) then (if (o0_v.r.Log.length : Int) < x_v.Index then (o0_v.r.Log.length : Int) else x_v.Index) else x9_1)) o0_v.r.Clock) o0_v.out)) fun r14_1 =>
    some r14_1)
    (some (TMachine.mk (TRaft.mk o0_v.r.Me o0_v.r.Nodes o0_v.r.Wait o0_v.r.Term o0_v.r.Vote o0_v.r.Log r11_1 o0_v.r.Role o0_v.r.Leader o0_v.r.Votes (o0_v.r.Next.set (w64 (x_v.From - 1)).toNat (w64 (x10_1 + 1))) (o0_v.r.Match.set (w64 (x_v.From - 1)).toNat (if x9_1 < (if (o0_v.r.Log.length : Int) < x_v.Index then (o0_v.r.Log.length : Int) else x_v.Index) then (if (o0_v.r.Log.length : Int) < x_v.Index then (o0_v.r.Log.length : Int) else x_v.Index) else x9_1)) o0_v.r.Clock) o0_v.out))))
theorem diwanref11_machine_appended.meets (fu : Nat) (x_v : TMsg) (o0_v : TMachine) (z0 : TMachine) (h : diwanref11_machine_appended fu x_v o0_v = some z0) : Meets Try.prog ⟨60, [.ptr 1000 0, .data (TMsg.ag x_v)], [(TMachine.ob_00000100011101 o0_v)]⟩ ⟨.tup [], [(TMachine.ob_00000000011101 z0)]⟩ := by
 refine kMt hmix diwanref11_machine_appended.O Try.f60 bd60 7 ?_
 unfold diwanref11_machine_appended at h
 refine kRs 5 [Tm 3 (.ptr 3 0), Ob 3 (TMsg.ob x_v)] [] .n ?_
 refine kSq ?_
 refine kRs 15 [Tm 10 (bv (o0_v.r.Role != 2))] [] .n ?_
 rcases br_inv h with ⟨b3_0, h⟩ | ⟨b3_0, h⟩
 ·refine kCt b3_0 ?_
  refine kSo 1000 5 0 [Ob 1000 (TMachine.ob_00000000011101 o0_v)] ?_
  refine kRt ?_
  have h_ := some_inj h
  subst h_
  exact kFr
 ·refine kCe b3_0 ?_
  refine kSk ?_
  refine kCd (cR (cR bd60)) [] ?_
  refine kRs 30 [Tm 4 (iv (w64 (x_v.From - 1)))] [] .n ?_
  refine kSq ?_
  refine kRs 31 [Tm 16 (bv (!x_v.OK))] [] .n ?_
  rcases br_inv h with ⟨b6_0, h⟩ | ⟨b6_0, h⟩
  ·refine kCt b6_0 ?_
   obtain ⟨x7_1, a7_2, e7_3, h⟩ := ix_inv h
   obtain ⟨x7_4, a7_5, e7_6, h⟩ := ix_inv h
   obtain ⟨x7_7, a7_8, e7_9, h⟩ := ix_inv h
   refine kRs 28 [Ob 1000 (TMachine.ob_00000100011101 (TMachine.mk (TRaft.mk o0_v.r.Me o0_v.r.Nodes o0_v.r.Wait o0_v.r.Term o0_v.r.Vote o0_v.r.Log o0_v.r.Commit o0_v.r.Role o0_v.r.Leader o0_v.r.Votes (o0_v.r.Next.set (w64 (x_v.From - 1)).toNat (if (if (if (w64 (x_v.Index + 1)) < (w64 (x7_1 - 1)) then (w64 (x_v.Index + 1)) else (w64 (x7_1 - 1))) < (w64 (x7_4 + 1)) then (w64 (x7_4 + 1)) else (if (w64 (x_v.Index + 1)) < (w64 (x7_1 - 1)) then (w64 (x_v.Index + 1)) else (w64 (x7_1 - 1)))) < 1 then 1 else (if (if (w64 (x_v.Index + 1)) < (w64 (x7_1 - 1)) then (w64 (x_v.Index + 1)) else (w64 (x7_1 - 1))) < (w64 (x7_4 + 1)) then (w64 (x7_4 + 1)) else (if (w64 (x_v.Index + 1)) < (w64 (x7_1 - 1)) then (w64 (x_v.Index + 1)) else (w64 (x7_1 - 1)))))) o0_v.r.Match o0_v.r.Clock) o0_v.out))] [.c (e_i64 x7_1), .c (e_i64 x7_4), .c (e_i64 x7_7), .s (.o 1000) (TMachine.ob_00000100011101 (TMachine.mk (TRaft.mk o0_v.r.Me o0_v.r.Nodes o0_v.r.Wait o0_v.r.Term o0_v.r.Vote o0_v.r.Log o0_v.r.Commit o0_v.r.Role o0_v.r.Leader o0_v.r.Votes (o0_v.r.Next.set (w64 (x_v.From - 1)).toNat (if (if (if (w64 (x_v.Index + 1)) < (w64 (x7_1 - 1)) then (w64 (x_v.Index + 1)) else (w64 (x7_1 - 1))) < (w64 (x7_4 + 1)) then (w64 (x7_4 + 1)) else (if (w64 (x_v.Index + 1)) < (w64 (x7_1 - 1)) then (w64 (x_v.Index + 1)) else (w64 (x7_1 - 1)))) < 1 then 1 else (if (if (w64 (x_v.Index + 1)) < (w64 (x7_1 - 1)) then (w64 (x_v.Index + 1)) else (w64 (x7_1 - 1))) < (w64 (x7_4 + 1)) then (w64 (x7_4 + 1)) else (if (w64 (x_v.Index + 1)) < (w64 (x7_1 - 1)) then (w64 (x_v.Index + 1)) else (w64 (x7_1 - 1)))))) o0_v.r.Match o0_v.r.Clock) o0_v.out))] (.c (c_ix (e := e_i64) a7_2 e7_3) (.c (c_el (e := e_i64) e7_3) (.c (c_ix (e := e_i64) a7_5 e7_6) (.c (c_el (e := e_i64) e7_6) (.c (c_ix (e := e_i64) a7_8 e7_9) (.c (c_el (e := e_i64) e7_9) (.c (congrArg (fun d : DV => (TMachine.ob_00000100011101 (TMachine.mk (TRaft.mk o0_v.r.Me o0_v.r.Nodes o0_v.r.Wait o0_v.r.Term o0_v.r.Vote o0_v.r.Log o0_v.r.Commit o0_v.r.Role o0_v.r.Leader o0_v.r.Votes (o0_v.r.Next.set (w64 (x_v.From - 1)).toNat (if (if (if (w64 (x_v.Index + 1)) < (w64 (x7_1 - 1)) then (w64 (x_v.Index + 1)) else (w64 (x7_1 - 1))) < (w64 (x7_4 + 1)) then (w64 (x7_4 + 1)) else (if (w64 (x_v.Index + 1)) < (w64 (x7_1 - 1)) then (w64 (x_v.Index + 1)) else (w64 (x7_1 - 1)))) < 1 then 1 else (if (if (w64 (x_v.Index + 1)) < (w64 (x7_1 - 1)) then (w64 (x_v.Index + 1)) else (w64 (x7_1 - 1))) < (w64 (x7_4 + 1)) then (w64 (x7_4 + 1)) else (if (w64 (x_v.Index + 1)) < (w64 (x7_1 - 1)) then (w64 (x_v.Index + 1)) else (w64 (x7_1 - 1)))))) o0_v.r.Match o0_v.r.Clock) o0_v.out)).set 10 (AV.data d)) (c_set (e := e_i64) (s := 1) (nl := none) (l := o0_v.r.Next) (i := (w64 (x_v.From - 1)).toNat) (x := (if (if (if (w64 (x_v.Index + 1)) < (w64 (x7_1 - 1)) then (w64 (x_v.Index + 1)) else (w64 (x7_1 - 1))) < (w64 (x7_4 + 1)) then (w64 (x7_4 + 1)) else (if (w64 (x_v.Index + 1)) < (w64 (x7_1 - 1)) then (w64 (x_v.Index + 1)) else (w64 (x7_1 - 1)))) < 1 then 1 else (if (if (w64 (x_v.Index + 1)) < (w64 (x7_1 - 1)) then (w64 (x_v.Index + 1)) else (w64 (x7_1 - 1))) < (w64 (x7_4 + 1)) then (w64 (x7_4 + 1)) else (if (w64 (x_v.Index + 1)) < (w64 (x7_1 - 1)) then (w64 (x_v.Index + 1)) else (w64 (x7_1 - 1)))))))) (.c rT .n)))))))) ?_
   obtain ⟨r8_1, h8_2, h⟩ := bd_inv h
   refine kRs 0 [Ob 1000 (TMachine.ob_00000000011101 r8_1)] [.a ⟨.tup [], [(TMachine.ob_00000000011101 r8_1)]⟩] (.c (Asks.of (C := Meets Try.prog) (diwanref11_machine_entries.meets x_v.From (TMachine.mk (TRaft.mk o0_v.r.Me o0_v.r.Nodes o0_v.r.Wait o0_v.r.Term o0_v.r.Vote o0_v.r.Log o0_v.r.Commit o0_v.r.Role o0_v.r.Leader o0_v.r.Votes (o0_v.r.Next.set (w64 (x_v.From - 1)).toNat (if (if (if (w64 (x_v.Index + 1)) < (w64 (x7_1 - 1)) then (w64 (x_v.Index + 1)) else (w64 (x7_1 - 1))) < (w64 (x7_4 + 1)) then (w64 (x7_4 + 1)) else (if (w64 (x_v.Index + 1)) < (w64 (x7_1 - 1)) then (w64 (x_v.Index + 1)) else (w64 (x7_1 - 1)))) < 1 then 1 else (if (if (w64 (x_v.Index + 1)) < (w64 (x7_1 - 1)) then (w64 (x_v.Index + 1)) else (w64 (x7_1 - 1))) < (w64 (x7_4 + 1)) then (w64 (x7_4 + 1)) else (if (w64 (x_v.Index + 1)) < (w64 (x7_1 - 1)) then (w64 (x_v.Index + 1)) else (w64 (x7_1 - 1)))))) o0_v.r.Match o0_v.r.Clock) o0_v.out) _ h8_2)) .n) ?_
   refine kRt ?_
   have h_ := some_inj h
   subst h_
   exact kFr
  ·refine kCe b6_0 ?_
   refine kSk ?_
   refine kCd (cR (cR (cR (cR bd60)))) [] ?_
   obtain ⟨x9_1, a9_2, e9_3, h⟩ := ix_inv h
   obtain ⟨x9_4, a9_5, e9_6, h⟩ := ix_inv h
   refine kRs 30 [Ob 1000 (TMachine.ob_00000100011101 (TMachine.mk (TRaft.mk o0_v.r.Me o0_v.r.Nodes o0_v.r.Wait o0_v.r.Term o0_v.r.Vote o0_v.r.Log o0_v.r.Commit o0_v.r.Role o0_v.r.Leader o0_v.r.Votes o0_v.r.Next (o0_v.r.Match.set (w64 (x_v.From - 1)).toNat (if x9_1 < (if (o0_v.r.Log.length : Int) < x_v.Index then (o0_v.r.Log.length : Int) else x_v.Index) then (if (o0_v.r.Log.length : Int) < x_v.Index then (o0_v.r.Log.length : Int) else x_v.Index) else x9_1)) o0_v.r.Clock) o0_v.out))] [.c (e_i64 x9_1), .s (.t 72) [iv (o0_v.r.Log.length : Int)], .c (e_i64 x9_4), .s (.o 1000) (TMachine.ob_00000100011101 (TMachine.mk (TRaft.mk o0_v.r.Me o0_v.r.Nodes o0_v.r.Wait o0_v.r.Term o0_v.r.Vote o0_v.r.Log o0_v.r.Commit o0_v.r.Role o0_v.r.Leader o0_v.r.Votes o0_v.r.Next (o0_v.r.Match.set (w64 (x_v.From - 1)).toNat (if x9_1 < (if (o0_v.r.Log.length : Int) < x_v.Index then (o0_v.r.Log.length : Int) else x_v.Index) then (if (o0_v.r.Log.length : Int) < x_v.Index then (o0_v.r.Log.length : Int) else x_v.Index) else x9_1)) o0_v.r.Clock) o0_v.out))] (.c (c_ix (e := e_i64) a9_2 e9_3) (.c (c_el (e := e_i64) e9_3) (.c (c_len (e := TEntry.en) (l := o0_v.r.Log)) (.c (c_ix (e := e_i64) a9_5 e9_6) (.c (c_el (e := e_i64) e9_6) (.c (congrArg (fun d : DV => (TMachine.ob_00000100011101 (TMachine.mk (TRaft.mk o0_v.r.Me o0_v.r.Nodes o0_v.r.Wait o0_v.r.Term o0_v.r.Vote o0_v.r.Log o0_v.r.Commit o0_v.r.Role o0_v.r.Leader o0_v.r.Votes o0_v.r.Next (o0_v.r.Match.set (w64 (x_v.From - 1)).toNat (if x9_1 < (if (o0_v.r.Log.length : Int) < x_v.Index then (o0_v.r.Log.length : Int) else x_v.Index) then (if (o0_v.r.Log.length : Int) < x_v.Index then (o0_v.r.Log.length : Int) else x_v.Index) else x9_1)) o0_v.r.Clock) o0_v.out)).set 11 (AV.data d)) (c_set (e := e_i64) (s := 1) (nl := none) (l := o0_v.r.Match) (i := (w64 (x_v.From - 1)).toNat) (x := (if x9_1 < (if (o0_v.r.Log.length : Int) < x_v.Index then (o0_v.r.Log.length : Int) else x_v.Index) then (if (o0_v.r.Log.length : Int) < x_v.Index then (o0_v.r.Log.length : Int) else x_v.Index) else x9_1)))) (.c rT .n))))))) ?_
   obtain ⟨x10_1, a10_2, e10_3, h⟩ := ix_inv h
   obtain ⟨x10_4, a10_5, e10_6, h⟩ := ix_inv h
   refine kRs 30 [Ob 1000 (TMachine.ob_00000100011101 (TMachine.mk (TRaft.mk o0_v.r.Me o0_v.r.Nodes o0_v.r.Wait o0_v.r.Term o0_v.r.Vote o0_v.r.Log o0_v.r.Commit o0_v.r.Role o0_v.r.Leader o0_v.r.Votes (o0_v.r.Next.set (w64 (x_v.From - 1)).toNat (w64 (x10_1 + 1))) (o0_v.r.Match.set (w64 (x_v.From - 1)).toNat (if x9_1 < (if (o0_v.r.Log.length : Int) < x_v.Index then (o0_v.r.Log.length : Int) else x_v.Index) then (if (o0_v.r.Log.length : Int) < x_v.Index then (o0_v.r.Log.length : Int) else x_v.Index) else x9_1)) o0_v.r.Clock) o0_v.out))] [.c (e_i64 x10_1), .c (e_i64 x10_4), .s (.o 1000) (TMachine.ob_00000100011101 (TMachine.mk (TRaft.mk o0_v.r.Me o0_v.r.Nodes o0_v.r.Wait o0_v.r.Term o0_v.r.Vote o0_v.r.Log o0_v.r.Commit o0_v.r.Role o0_v.r.Leader o0_v.r.Votes (o0_v.r.Next.set (w64 (x_v.From - 1)).toNat (w64 (x10_1 + 1))) (o0_v.r.Match.set (w64 (x_v.From - 1)).toNat (if x9_1 < (if (o0_v.r.Log.length : Int) < x_v.Index then (o0_v.r.Log.length : Int) else x_v.Index) then (if (o0_v.r.Log.length : Int) < x_v.Index then (o0_v.r.Log.length : Int) else x_v.Index) else x9_1)) o0_v.r.Clock) o0_v.out))] (.c (c_ix (e := e_i64) a10_2 e10_3) (.c (c_el (e := e_i64) e10_3) (.c (c_ix (e := e_i64) a10_5 e10_6) (.c (c_el (e := e_i64) e10_6) (.c (congrArg (fun d : DV => (TMachine.ob_00000100011101 (TMachine.mk (TRaft.mk o0_v.r.Me o0_v.r.Nodes o0_v.r.Wait o0_v.r.Term o0_v.r.Vote o0_v.r.Log o0_v.r.Commit o0_v.r.Role o0_v.r.Leader o0_v.r.Votes (o0_v.r.Next.set (w64 (x_v.From - 1)).toNat (w64 (x10_1 + 1))) (o0_v.r.Match.set (w64 (x_v.From - 1)).toNat (if x9_1 < (if (o0_v.r.Log.length : Int) < x_v.Index then (o0_v.r.Log.length : Int) else x_v.Index) then (if (o0_v.r.Log.length : Int) < x_v.Index then (o0_v.r.Log.length : Int) else x_v.Index) else x9_1)) o0_v.r.Clock) o0_v.out)).set 10 (AV.data d)) (c_set (e := e_i64) (s := 1) (nl := none) (l := o0_v.r.Next) (i := (w64 (x_v.From - 1)).toNat) (x := (w64 (x10_1 + 1))))) (.c rT .n)))))) ?_
   obtain ⟨r11_1, h11_2, h⟩ := bd_inv h
   refine kRs 30 [Ob 1000 (TMachine.ob_00000100011101 (TMachine.mk (TRaft.mk o0_v.r.Me o0_v.r.Nodes o0_v.r.Wait o0_v.r.Term o0_v.r.Vote o0_v.r.Log r11_1 o0_v.r.Role o0_v.r.Leader o0_v.r.Votes (o0_v.r.Next.set (w64 (x_v.From - 1)).toNat (w64 (x10_1 + 1))) (o0_v.r.Match.set (w64 (x_v.From - 1)).toNat (if x9_1 < (if (o0_v.r.Log.length : Int) < x_v.Index then (o0_v.r.Log.length : Int) else x_v.Index) then (if (o0_v.r.Log.length : Int) < x_v.Index then (o0_v.r.Log.length : Int) else x_v.Index) else x9_1)) o0_v.r.Clock) o0_v.out))] [.a ⟨iv r11_1, []⟩] (.c (Asks.of (C := Meets Try.prog) (diwanref1_Next.meets fu (o0_v.r.Match.set (w64 (x_v.From - 1)).toNat (if x9_1 < (if (o0_v.r.Log.length : Int) < x_v.Index then (o0_v.r.Log.length : Int) else x_v.Index) then (if (o0_v.r.Log.length : Int) < x_v.Index then (o0_v.r.Log.length : Int) else x_v.Index) else x9_1)) o0_v.r.Log o0_v.r.Term o0_v.r.Commit _ h11_2)) (.c rT .n)) ?_
   obtain ⟨x12_1, a12_2, e12_3, h⟩ := ix_inv h
   refine kRs 29 [Tm 131 (bv (decide (x12_1 ≤ (o0_v.r.Log.length : Int))))] [.c (e_i64 x12_1), .s (.t 130) [iv (o0_v.r.Log.length : Int)]] (.c (c_ix (e := e_i64) a12_2 e12_3) (.c (c_el (e := e_i64) e12_3) (.c (c_len (e := TEntry.en) (l := o0_v.r.Log)) (.c rT .n)))) ?_
   rcases br_inv h with ⟨b13_0, h⟩ | ⟨b13_0, h⟩
   ·refine kCt b13_0 ?_
    obtain ⟨r14_1, h14_2, h⟩ := bd_inv h
    have h_ := some_inj h
    subst h_
    exact kRf [.a ⟨.tup [], [(TMachine.ob_00000000011101 r14_1)]⟩] (.c (Asks.of (C := Meets Try.prog) (diwanref11_machine_entries.meets x_v.From (TMachine.mk (TRaft.mk o0_v.r.Me o0_v.r.Nodes o0_v.r.Wait o0_v.r.Term o0_v.r.Vote o0_v.r.Log r11_1 o0_v.r.Role o0_v.r.Leader o0_v.r.Votes (o0_v.r.Next.set (w64 (x_v.From - 1)).toNat (w64 (x10_1 + 1))) (o0_v.r.Match.set (w64 (x_v.From - 1)).toNat (if x9_1 < (if (o0_v.r.Log.length : Int) < x_v.Index then (o0_v.r.Log.length : Int) else x_v.Index) then (if (o0_v.r.Log.length : Int) < x_v.Index then (o0_v.r.Log.length : Int) else x_v.Index) else x9_1)) o0_v.r.Clock) o0_v.out) _ h14_2)) .n)
   ·refine kCe b13_0 ?_
    refine kSo 1000 5 0 [Ob 1000 (TMachine.ob_00000000011101 (TMachine.mk (TRaft.mk o0_v.r.Me o0_v.r.Nodes o0_v.r.Wait o0_v.r.Term o0_v.r.Vote o0_v.r.Log r11_1 o0_v.r.Role o0_v.r.Leader o0_v.r.Votes (o0_v.r.Next.set (w64 (x_v.From - 1)).toNat (w64 (x10_1 + 1))) (o0_v.r.Match.set (w64 (x_v.From - 1)).toNat (if x9_1 < (if (o0_v.r.Log.length : Int) < x_v.Index then (o0_v.r.Log.length : Int) else x_v.Index) then (if (o0_v.r.Log.length : Int) < x_v.Index then (o0_v.r.Log.length : Int) else x_v.Index) else x9_1)) o0_v.r.Clock) o0_v.out))] ?_
    refine kSk ?_
    have h_ := some_inj h
    subst h_
    exact kFn
def bd29 : Code := (Try.f29.body).getD .skip
def diwanref11_Take.O : Nat → Nat := fun t => bif ([2, 3, 4, 6, 7, 10, 11, 84, 105, 118, 135, 183, 187, 210] : List Nat).any (Nat.beq t) then 1 else 0
def diwanref11_Take (fu : Nat) (r_v : TRaft) (x_v : TMsg) : Option (TRaft × List TMsg) :=
 bd (diwanref11_Copy r_v) fun _ =>
 bd (diwanref11_May fu r_v) fun r3_1 =>
 br (!r3_1)
  (some (r_v, []))
  (br (decide (x_v.From < 1))
   (some (r_v, []))
   (br (decide (x_v.From > r_v.Nodes))
    (some (r_v, []))
    (br (x_v.From == r_v.Me)
     (some (r_v, []))
     (br (x_v.To != r_v.Me)
      (some (r_v, []))
      (br (decide (x_v.Kind < 1))
       (some (r_v, []))
       (br (decide (x_v.Kind > 4))
        (some (r_v, []))
        (jn (fun (j16_2 : TMachine) =>
         br (decide (x_v.Term < j16_2.r.Term))
          (jn (fun (j22_2 : TMachine) =>
           jn (fun (j26_1 : TMachine) =>
            some (j26_1.r, j26_1.out)) fun k26 =>
           br (x_v.Kind == 3)
            (bd (diwanref11_machine_send (TMsg.mk 4 0 0 0 j22_2.r.Term 0 0 0 false [] (TTxn.mk 0 0 [] []) 0 0 0 0 false ByteArray.empty ByteArray.empty [] [] 0) x_v.From j22_2) fun r25_1 =>
            k26 r25_1)
            (k26 j22_2)) fun k22 =>
          br (x_v.Kind == 1)
           (bd (diwanref11_machine_send (TMsg.mk 2 0 0 0 j16_2.r.Term 0 0 0 false [] (TTxn.mk 0 0 [] []) 0 0 0 0 false ByteArray.empty ByteArray.empty [] [] 0) x_v.From j16_2) fun r21_1 =>
           k22 r21_1)
           (k22 j16_2))
          (br (x_v.Kind == 1)
           (jn (fun (j32_0 : Bool) =>
            jn (fun (j36_3 : TMachine) =>
             bd (diwanref11_machine_send (TMsg.mk 2 0 0 0 j36_3.r.Term 0 0 0 j32_0 [] (TTxn.mk 0 0 [] []) 0 0 0 0 false ByteArray.empty ByteArray.empty [] [] 0) x_v.From j36_3) fun r37_1 =>
             some (r37_1.r, r37_1.out)) fun k36 =>
            br j32_0
             (k36 (TMachine.mk (TRaft.mk j16_2.r.Me j16_2.r.Nodes j16_2.r.Wait j16_2.r.Term x_v.From j16_2.r.Log j16_2.r.Commit j16_2.r.Role j16_2.r.Leader j16_2.r.Votes j16_2.r.Next j16_2.r.Match 0) j16_2.out))
             (k36 j16_2)) fun k32 =>
           br (j16_2.r.Vote == 0)
            (bd (diwanref1_Newer j16_2.r.Log x_v.Index x_v.LogTerm) fun r31_2 =>
            k32 r31_2)
            (br (j16_2.r.Vote == x_v.From)
             (bd (diwanref1_Newer j16_2.r.Log x_v.Index x_v.LogTerm) fun r31_3 =>
             k32 r31_3)
             (k32 false)))
           (br (x_v.Kind == 2)
            (br (j16_2.r.Role == 1)
             (br x_v.OK
              (ix j16_2.r.Votes (w64 (x_v.From - 1)) fun x43_1 =>
              bd (diwanref11_machine_count fu (TMachine.mk (TRaft.mk j16_2.r.Me j16_2.r.Nodes j16_2.r.Wait j16_2.r.Term j16_2.r.Vote j16_2.r.Log j16_2.r.Commit j16_2.r.Role j16_2.r.Leader (j16_2.r.Votes.set (w64 (x_v.From - 1)).toNat true) j16_2.r.Next j16_2.r.Match j16_2.r.Clock) j16_2.out)) fun r44_1 =>
              some (r44_1.r, r44_1.out))
              (some (j16_2.r, j16_2.out)))
             (some (j16_2.r, j16_2.out)))
            (br (x_v.Kind == 3)
             (bd (diwanref11_machine_append fu x_v j16_2) fun r50_1 =>
             some (r50_1.r, r50_1.out))
             (bd (diwanref11_machine_appended fu x_v j16_2) fun r52_1 =>
             some (r52_1.r, r52_1.out)))))) fun k16 =>
        br (decide (x_v.Term > r_v.Term))
         (gd (decide ((0 : Int) ≤ r_v.Nodes ∧ r_v.Nodes ≤ r_v.Nodes ∧ r_v.Nodes ≤ 4294967296)) <|
         k16 (TMachine.mk (TRaft.mk r_v.Me r_v.Nodes r_v.Wait x_v.Term 0 r_v.Log r_v.Commit 0 0 (List.replicate r_v.Nodes.toNat (false : Bool)) r_v.Next r_v.Match r_v.Clock) []))
         (k16 (TMachine.mk r_v [])))))))))
theorem diwanref11_Take.meets (fu : Nat) (r_v : TRaft) (x_v : TMsg) (z0 : TRaft) (z1 : List TMsg) (h : diwanref11_Take fu r_v x_v = some (z0, z1)) : Meets Try.prog ⟨29, [.data (TRaft.ag r_v), .data (TMsg.ag x_v)], []⟩ ⟨.tup [.data (TRaft.ag z0), sS 24 TMsg.en z1], []⟩ := by
 refine kMt hmix diwanref11_Take.O Try.f29 bd29 3 ?_
 unfold diwanref11_Take at h
 refine kRs 0 [Tm 2 (.ptr 2 0), Tm 3 (.ptr 3 0), Tm 4 (.ptr 4 0), Ob 2 (TRaft.ob r_v), Ob 3 (TMsg.ob x_v), Ob 4 (TRaft.ob_000001000111 (TRaft.mk 0 0 0 0 0 [] 0 0 0 [] [] [] 0))] [] .n ?_
 obtain ⟨_, h2_1, h⟩ := bd_inv h
 refine kRs 63 [Tm 6 (.ptr 11 0), Ob 11 (TMachine.ob_00000100011101 (TMachine.mk r_v []))] [.a ⟨.data (TRaft.ag_000001000111 r_v), []⟩] (.c (Asks.of (C := Meets Try.prog) (diwanref11_Copy.meets r_v h2_1)) .n) ?_
 refine kSq ?_
 obtain ⟨r3_1, h3_2, h⟩ := bd_inv h
 rcases br_inv h with ⟨b3_3, h⟩ | ⟨b3_3, h⟩
 ·refine kRs 255 [Tm 50 (bv true)] (.a ⟨bv r3_1, []⟩ :: (rp 30 (.b true) [])) (.c (Asks.of (C := Meets Try.prog) (diwanref11_May.meets fu r_v _ h3_2)) (.r 4 b3_3 (.r 26 rT .n))) ?_
  refine kCt rT ?_
  refine kRs 32 [Tm 5 (.data (.slc false (some true) 24 (List.map TMsg.en []))), Ob 4 (TRaft.ob r_v)] [] .n ?_
  refine kWd 6 [Tm 5 (.data (.slc false none 24 (List.map TMsg.en [])))] ?_
  refine kRt ?_
  have h_0 := some_inj h
  obtain ⟨g_1, h_1⟩ := Prod.mk.inj h_0
  subst g_1
  subst h_1
  exact kFr
 ·rcases br_inv h with ⟨b3_4, h⟩ | ⟨b3_4, h⟩
  ·refine kRs 255 [Tm 50 (bv true)] (.a ⟨bv r3_1, []⟩ :: (rp 4 (.b false) (rp 26 (.b true) []))) (.c (Asks.of (C := Meets Try.prog) (diwanref11_May.meets fu r_v _ h3_2)) (.r 4 b3_3 (.r 6 b3_4 (.r 20 rT .n)))) ?_
   refine kCt rT ?_
   refine kRs 32 [Tm 5 (.data (.slc false (some true) 24 (List.map TMsg.en []))), Ob 4 (TRaft.ob r_v)] [] .n ?_
   refine kWd 6 [Tm 5 (.data (.slc false none 24 (List.map TMsg.en [])))] ?_
   refine kRt ?_
   have h_0 := some_inj h
   obtain ⟨g_1, h_1⟩ := Prod.mk.inj h_0
   subst g_1
   subst h_1
   exact kFr
  ·rcases br_inv h with ⟨b3_5, h⟩ | ⟨b3_5, h⟩
   ·refine kRs 255 [Tm 50 (bv true)] (.a ⟨bv r3_1, []⟩ :: (rp 10 (.b false) (rp 20 (.b true) []))) (.c (Asks.of (C := Meets Try.prog) (diwanref11_May.meets fu r_v _ h3_2)) (.r 4 b3_3 (.r 6 b3_4 (.r 6 b3_5 (.r 14 rT .n))))) ?_
    refine kCt rT ?_
    refine kRs 32 [Tm 5 (.data (.slc false (some true) 24 (List.map TMsg.en []))), Ob 4 (TRaft.ob r_v)] [] .n ?_
    refine kWd 6 [Tm 5 (.data (.slc false none 24 (List.map TMsg.en [])))] ?_
    refine kRt ?_
    have h_0 := some_inj h
    obtain ⟨g_1, h_1⟩ := Prod.mk.inj h_0
    subst g_1
    subst h_1
    exact kFr
   ·rcases br_inv h with ⟨b3_6, h⟩ | ⟨b3_6, h⟩
    ·refine kRs 255 [Tm 50 (bv true)] (.a ⟨bv r3_1, []⟩ :: (rp 16 (.b false) (rp 14 (.b true) []))) (.c (Asks.of (C := Meets Try.prog) (diwanref11_May.meets fu r_v _ h3_2)) (.r 4 b3_3 (.r 6 b3_4 (.r 6 b3_5 (.r 6 b3_6 (.r 8 rT .n)))))) ?_
     refine kCt rT ?_
     refine kRs 32 [Tm 5 (.data (.slc false (some true) 24 (List.map TMsg.en []))), Ob 4 (TRaft.ob r_v)] [] .n ?_
     refine kWd 6 [Tm 5 (.data (.slc false none 24 (List.map TMsg.en [])))] ?_
     refine kRt ?_
     have h_0 := some_inj h
     obtain ⟨g_1, h_1⟩ := Prod.mk.inj h_0
     subst g_1
     subst h_1
     exact kFr
    ·rcases br_inv h with ⟨b3_7, h⟩ | ⟨b3_7, h⟩
     ·refine kRs 255 [Tm 50 (bv true)] (.a ⟨bv r3_1, []⟩ :: (rp 22 (.b false) (rp 8 (.b true) []))) (.c (Asks.of (C := Meets Try.prog) (diwanref11_May.meets fu r_v _ h3_2)) (.r 4 b3_3 (.r 6 b3_4 (.r 6 b3_5 (.r 6 b3_6 (.r 4 b3_7 (.r 4 rT .n))))))) ?_
      refine kCt rT ?_
      refine kRs 32 [Tm 5 (.data (.slc false (some true) 24 (List.map TMsg.en []))), Ob 4 (TRaft.ob r_v)] [] .n ?_
      refine kWd 6 [Tm 5 (.data (.slc false none 24 (List.map TMsg.en [])))] ?_
      refine kRt ?_
      have h_0 := some_inj h
      obtain ⟨g_1, h_1⟩ := Prod.mk.inj h_0
      subst g_1
      subst h_1
      exact kFr
     ·rcases br_inv h with ⟨b3_8, h⟩ | ⟨b3_8, h⟩
      ·refine kRs 255 [Tm 50 (bv true)] (.a ⟨bv r3_1, []⟩ :: (rp 26 (.b false) (rp 4 (.b true) []))) (.c (Asks.of (C := Meets Try.prog) (diwanref11_May.meets fu r_v _ h3_2)) (.r 4 b3_3 (.r 6 b3_4 (.r 6 b3_5 (.r 6 b3_6 (.r 4 b3_7 (.r 4 b3_8 .n))))))) ?_
       refine kCt rT ?_
       refine kRs 32 [Tm 5 (.data (.slc false (some true) 24 (List.map TMsg.en []))), Ob 4 (TRaft.ob r_v)] [] .n ?_
       refine kWd 6 [Tm 5 (.data (.slc false none 24 (List.map TMsg.en [])))] ?_
       refine kRt ?_
       have h_0 := some_inj h
       obtain ⟨g_1, h_1⟩ := Prod.mk.inj h_0
       subst g_1
       subst h_1
       exact kFr
      ·refine kRs 255 [Tm 50 (bv (decide (x_v.Kind > 4)))] (.a ⟨bv r3_1, []⟩ :: (rp 30 (.b false) [])) (.c (Asks.of (C := Meets Try.prog) (diwanref11_May.meets fu r_v _ h3_2)) (.r 4 b3_3 (.r 6 b3_4 (.r 6 b3_5 (.r 6 b3_6 (.r 4 b3_7 (.r 4 b3_8 .n))))))) ?_
       rcases br_inv h with ⟨b10_0, h⟩ | ⟨b10_0, h⟩
       ·refine kCt b10_0 ?_
        refine kRs 32 [Tm 5 (.data (.slc false (some true) 24 (List.map TMsg.en []))), Ob 4 (TRaft.ob r_v)] [] .n ?_
        refine kWd 6 [Tm 5 (.data (.slc false none 24 (List.map TMsg.en [])))] ?_
        refine kRt ?_
        have h_0 := some_inj h
        obtain ⟨g_1, h_1⟩ := Prod.mk.inj h_0
        subst g_1
        subst h_1
        exact kFr
       ·refine kCe b10_0 ?_
        refine kSk ?_
        refine kCd (cR (cR (cR bd29))) [] ?_
        obtain ⟨k16, hk16, h⟩ := jn_inv h
        have Jk16 : ∀ (j16_2 : TMachine), k16 j16_2 = some (z0, z1) → WK Try.prog diwanref11_Take.O (Ck Try.prog) (cR (cR (cR (cR bd29)))) [] (ofL [Tm 3 (.ptr 3 0), Tm 4 (.ptr 4 0), Tm 6 (.ptr 11 0), Ob 3 (TMsg.ob x_v), Ob 4 (TRaft.ob_000001000111 (TRaft.mk 0 0 0 0 0 [] 0 0 0 [] [] [] 0)), Ob 11 (TMachine.ob_00000100011101 j16_2)]) (Fin Try.prog diwanref11_Take.O Try.f29 0 ⟨.tup [.data (TRaft.ag z0), sS 24 TMsg.en z1], []⟩) := by
         intro j16_2 h
         rw [hk16] at h
         refine kSq ?_
         refine kRs 63 [Tm 95 (bv (decide (x_v.Term < j16_2.r.Term)))] [] (.c rT .n) ?_
         rcases br_inv h with ⟨b18_0, h⟩ | ⟨b18_0, h⟩
         ·refine kCt b18_0 ?_
          obtain ⟨k22, hk22, h⟩ := jn_inv h
          have Jk22 : ∀ (j22_2 : TMachine), k22 j22_2 = some (z0, z1) → WK Try.prog diwanref11_Take.O (Ck Try.prog) (cR (cT (cR (cL (cR (cR (cR (cR bd29)))))))) [.seq (cR (cR (cR (cR (cR bd29)))))] (ofL [Tm 3 (.ptr 3 0), Tm 4 (.ptr 4 0), Tm 6 (.ptr 11 0), Ob 3 (TMsg.ob x_v), Ob 4 (TRaft.ob_000001000111 (TRaft.mk 0 0 0 0 0 [] 0 0 0 [] [] [] 0)), Ob 11 (TMachine.ob_00000100011101 j22_2)]) (Fin Try.prog diwanref11_Take.O Try.f29 0 ⟨.tup [.data (TRaft.ag z0), sS 24 TMsg.en z1], []⟩) := by
           intro j22_2 h
           rw [hk22] at h
           obtain ⟨k26, hk26, h⟩ := jn_inv h
           have Jk26 : ∀ (j26_1 : TMachine), k26 j26_1 = some (z0, z1) → WK Try.prog diwanref11_Take.O (Ck Try.prog) (cR (cR (cT (cR (cL (cR (cR (cR (cR bd29))))))))) [.seq (cR (cR (cR (cR (cR bd29)))))] (ofL [Tm 4 (.ptr 4 0), Tm 6 (.ptr 11 0), Ob 4 (TRaft.ob_000001000111 (TRaft.mk 0 0 0 0 0 [] 0 0 0 [] [] [] 0)), Ob 11 (TMachine.ob_00000100011101 j26_1)]) (Fin Try.prog diwanref11_Take.O Try.f29 0 ⟨.tup [.data (TRaft.ag z0), sS 24 TMsg.en z1], []⟩) := by
            intro j26_1 h
            rw [hk26] at h
            refine kSo 11 10 7 [Ob 11 (TMachine.ob_00000100010101 j26_1)] ?_
            refine kSo 11 11 14 [Ob 11 (TMachine.ob_00000100010001 j26_1)] ?_
            refine kSo 11 13 14 [Ob 11 (TMachine.ob_0000010001 j26_1)] ?_
            refine kSo 11 5 14 [Ob 11 (TMachine.ob_0000000001 j26_1)] ?_
            refine kSo 11 9 14 [Ob 11 (TMachine.ob j26_1)] ?_
            refine kRs 2 [Tm 5 (sS 24 TMsg.en j26_1.out), Ob 4 (TRaft.ob j26_1.r)] [] (.c rT .n) ?_
            refine kRt ?_
            have h_0 := some_inj h
            obtain ⟨g_1, h_1⟩ := Prod.mk.inj h_0
            subst g_1
            subst h_1
            exact kFr
           clear hk26
           refine kSq ?_
           refine kRs 63 [Tm 111 (bv (x_v.Kind == 3))] [] .n ?_
           rcases br_inv h with ⟨b24_0, h⟩ | ⟨b24_0, h⟩
           ·refine kCt b24_0 ?_
            obtain ⟨r25_1, h25_2, h⟩ := bd_inv h
            refine kRc 44 [Ob 11 (TMachine.ob_00000100011101 r25_1)] [.a ⟨.tup [], [(TMachine.ob_00000100011101 r25_1)]⟩] (.c (Asks.of (C := Meets Try.prog) (diwanref11_machine_send.meets (TMsg.mk 4 0 0 0 j22_2.r.Term 0 0 0 false [] (TTxn.mk 0 0 [] []) 0 0 0 0 false ByteArray.empty ByteArray.empty [] [] 0) x_v.From j22_2 _ h25_2)) (.c rT .n)) (cR (cR (cT (cR (cL (cR (cR (cR (cR bd29))))))))) [.seq (cR (cR (cR (cR (cR bd29)))))] ?_
            exact kWk (Jk26 r25_1 h)
           ·refine kCe b24_0 ?_
            refine kSk ?_
            refine kCd (cR (cR (cT (cR (cL (cR (cR (cR (cR bd29))))))))) [.seq (cR (cR (cR (cR (cR bd29)))))] ?_
            exact kWk (Jk26 j22_2 h)
          clear hk22
          refine kSq ?_
          refine kRs 126 [Tm 98 (bv (x_v.Kind == 1))] [] .n ?_
          rcases br_inv h with ⟨b20_0, h⟩ | ⟨b20_0, h⟩
          ·refine kCt b20_0 ?_
           obtain ⟨r21_1, h21_2, h⟩ := bd_inv h
           refine kRc 62 [Ob 11 (TMachine.ob_00000100011101 r21_1)] [.a ⟨.tup [], [(TMachine.ob_00000100011101 r21_1)]⟩] (.c (Asks.of (C := Meets Try.prog) (diwanref11_machine_send.meets (TMsg.mk 2 0 0 0 j16_2.r.Term 0 0 0 false [] (TTxn.mk 0 0 [] []) 0 0 0 0 false ByteArray.empty ByteArray.empty [] [] 0) x_v.From j16_2 _ h21_2)) (.c rT .n)) (cR (cT (cR (cL (cR (cR (cR (cR bd29)))))))) [.seq (cR (cR (cR (cR (cR bd29)))))] ?_
           exact kWk (Jk22 r21_1 h)
          ·refine kCe b20_0 ?_
           refine kSk ?_
           refine kCd (cR (cT (cR (cL (cR (cR (cR (cR bd29)))))))) [.seq (cR (cR (cR (cR (cR bd29)))))] ?_
           exact kWk (Jk22 j16_2 h)
         ·refine kCe b18_0 ?_
          refine kSk ?_
          refine kCd (cR (cR (cR (cR (cR bd29))))) [] ?_
          refine kSq ?_
          refine kRs 126 [Tm 131 (iv x_v.Kind)] [] .n ?_
          refine kBk 0 ?_
          refine kRs 127 [Tm 135 (bv (x_v.Kind == 1))] [] .n ?_
          rcases br_inv h with ⟨b30_0, h⟩ | ⟨b30_0, h⟩
          ·refine kCt b30_0 ?_
           obtain ⟨k32, hk32, h⟩ := jn_inv h
           have Jk32 : ∀ (j32_0 : Bool), k32 j32_0 = some (z0, z1) → WK Try.prog diwanref11_Take.O (Ck Try.prog) (cR (cT (cR (cB (cR (cL (cR (cR (cR (cR (cR bd29))))))))))) [.blk 0, .seq (cR (cR (cR (cR (cR (cR bd29))))))] (ofL [Tm 3 (.ptr 3 0), Tm 4 (.ptr 4 0), Tm 6 (.ptr 11 0), Tm 7 (bv j32_0), Ob 3 (TMsg.ob x_v), Ob 4 (TRaft.ob_000001000111 (TRaft.mk 0 0 0 0 0 [] 0 0 0 [] [] [] 0)), Ob 11 (TMachine.ob_00000100011101 j16_2)]) (Fin Try.prog diwanref11_Take.O Try.f29 0 ⟨.tup [.data (TRaft.ag z0), sS 24 TMsg.en z1], []⟩) := by
            intro j32_0 h
            rw [hk32] at h
            obtain ⟨k36, hk36, h⟩ := jn_inv h
            have Jk36 : ∀ (j36_3 : TMachine), k36 j36_3 = some (z0, z1) → WK Try.prog diwanref11_Take.O (Ck Try.prog) (cR (cR (cT (cR (cB (cR (cL (cR (cR (cR (cR (cR bd29)))))))))))) [.blk 0, .seq (cR (cR (cR (cR (cR (cR bd29))))))] (ofL [Tm 3 (.ptr 3 0), Tm 4 (.ptr 4 0), Tm 6 (.ptr 11 0), Tm 7 (bv j32_0), Ob 3 (TMsg.ob x_v), Ob 4 (TRaft.ob_000001000111 (TRaft.mk 0 0 0 0 0 [] 0 0 0 [] [] [] 0)), Ob 11 (TMachine.ob_00000100011101 j36_3)]) (Fin Try.prog diwanref11_Take.O Try.f29 0 ⟨.tup [.data (TRaft.ag z0), sS 24 TMsg.en z1], []⟩) := by
             intro j36_3 h
             rw [hk36] at h
             obtain ⟨r37_1, h37_2, h⟩ := bd_inv h
             refine kRc 38 [Ob 11 (TMachine.ob_00000100011101 r37_1)] [.a ⟨.tup [], [(TMachine.ob_00000100011101 r37_1)]⟩] (.c (Asks.of (C := Meets Try.prog) (diwanref11_machine_send.meets (TMsg.mk 2 0 0 0 j36_3.r.Term 0 0 0 j32_0 [] (TTxn.mk 0 0 [] []) 0 0 0 0 false ByteArray.empty ByteArray.empty [] [] 0) x_v.From j36_3 _ h37_2)) (.c rT .n)) (cR (cR (cR (cR (cR (cR bd29)))))) [] ?_
             refine kSo 11 10 14 [Ob 11 (TMachine.ob_00000100010101 r37_1)] ?_
             refine kSo 11 11 14 [Ob 11 (TMachine.ob_00000100010001 r37_1)] ?_
             refine kSo 11 13 14 [Ob 11 (TMachine.ob_0000010001 r37_1)] ?_
             refine kSo 11 5 14 [Ob 11 (TMachine.ob_0000000001 r37_1)] ?_
             refine kSo 11 9 14 [Ob 11 (TMachine.ob r37_1)] ?_
             refine kRs 2 [Tm 5 (sS 24 TMsg.en r37_1.out), Ob 4 (TRaft.ob r37_1.r)] [] (.c rT .n) ?_
             refine kRt ?_
             have h_0 := some_inj h
             obtain ⟨g_1, h_1⟩ := Prod.mk.inj h_0
             subst g_1
             subst h_1
             exact kFr
            clear hk36
            refine kSq ?_
            refine kRs 127 [Tm 165 (bv j32_0)] [] .n ?_
            rcases br_inv h with ⟨b34_0, h⟩ | ⟨b34_0, h⟩
            ·refine kCt b34_0 ?_
             refine kRc 126 [Ob 11 (TMachine.ob_00000100011101 (TMachine.mk (TRaft.mk j16_2.r.Me j16_2.r.Nodes j16_2.r.Wait j16_2.r.Term x_v.From j16_2.r.Log j16_2.r.Commit j16_2.r.Role j16_2.r.Leader j16_2.r.Votes j16_2.r.Next j16_2.r.Match 0) j16_2.out))] [] .n (cR (cR (cT (cR (cB (cR (cL (cR (cR (cR (cR (cR bd29)))))))))))) [.blk 0, .seq (cR (cR (cR (cR (cR (cR bd29))))))] ?_
             exact kWk (Jk36 (TMachine.mk (TRaft.mk j16_2.r.Me j16_2.r.Nodes j16_2.r.Wait j16_2.r.Term x_v.From j16_2.r.Log j16_2.r.Commit j16_2.r.Role j16_2.r.Leader j16_2.r.Votes j16_2.r.Next j16_2.r.Match 0) j16_2.out) h)
            ·refine kCe b34_0 ?_
             refine kSk ?_
             refine kCd (cR (cR (cT (cR (cB (cR (cL (cR (cR (cR (cR (cR bd29)))))))))))) [.blk 0, .seq (cR (cR (cR (cR (cR (cR bd29))))))] ?_
             exact kWk (Jk36 j16_2 h)
           clear hk32
           rcases br_inv h with ⟨b31_1, h⟩ | ⟨b31_1, h⟩
           ·obtain ⟨r31_2, h31_3, h⟩ := bd_inv h
            refine kRs 252 [Tm 7 (bv r31_2)] (rp 19 (.b true) [.a ⟨bv r31_2, []⟩, .b true]) (.r 9 b31_1 (.r 10 rT (.c (Asks.of (C := Meets Try.prog) (diwanref1_Newer.meets j16_2.r.Log x_v.Index x_v.LogTerm _ h31_3)) (.r 2 rT .n)))) ?_
            exact kWk (Jk32 r31_2 h)
           ·rcases br_inv h with ⟨b31_2, h⟩ | ⟨b31_2, h⟩
            ·obtain ⟨r31_3, h31_4, h⟩ := bd_inv h
             refine kRs 252 [Tm 7 (bv r31_3)] (rp 9 (.b false) (rp 10 (.b true) [.a ⟨bv r31_3, []⟩, .b true])) (.r 9 b31_1 (.r 10 b31_2 (.c (Asks.of (C := Meets Try.prog) (diwanref1_Newer.meets j16_2.r.Log x_v.Index x_v.LogTerm _ h31_4)) (.c b31_2 (.c rT .n))))) ?_
             exact kWk (Jk32 r31_3 h)
            ·refine kRs 252 [Tm 7 (bv false)] (rp 20 (.b false) []) (.r 9 b31_1 (.r 11 b31_2 (.c rT .n))) ?_
             exact kWk (Jk32 false h)
          ·refine kCe b30_0 ?_
           refine kRs 254 [Tm 187 (bv (x_v.Kind == 2))] [] .n ?_
           rcases br_inv h with ⟨b40_0, h⟩ | ⟨b40_0, h⟩
           ·refine kCt b40_0 ?_
            rcases br_inv h with ⟨b41_1, h⟩ | ⟨b41_1, h⟩
            ·refine kRs 252 [Tm 198 (bv x_v.OK)] [.b true, .b true, .b true] (.r 3 b41_1 .n) ?_
             rcases br_inv h with ⟨b42_0, h⟩ | ⟨b42_0, h⟩
             ·refine kCt b42_0 ?_
              obtain ⟨x43_1, a43_2, e43_3, h⟩ := ix_inv h
              refine kRs 44 [Ob 11 (TMachine.ob_00000100011101 (TMachine.mk (TRaft.mk j16_2.r.Me j16_2.r.Nodes j16_2.r.Wait j16_2.r.Term j16_2.r.Vote j16_2.r.Log j16_2.r.Commit j16_2.r.Role j16_2.r.Leader (j16_2.r.Votes.set (w64 (x_v.From - 1)).toNat true) j16_2.r.Next j16_2.r.Match j16_2.r.Clock) j16_2.out))] [.c (e_b x43_1), .s (.o 11) (TMachine.ob_00000100011101 (TMachine.mk (TRaft.mk j16_2.r.Me j16_2.r.Nodes j16_2.r.Wait j16_2.r.Term j16_2.r.Vote j16_2.r.Log j16_2.r.Commit j16_2.r.Role j16_2.r.Leader (j16_2.r.Votes.set (w64 (x_v.From - 1)).toNat true) j16_2.r.Next j16_2.r.Match j16_2.r.Clock) j16_2.out))] (.c (c_ix (e := e_b) a43_2 e43_3) (.c (c_el (e := e_b) e43_3) (.c (congrArg (fun d : DV => (TMachine.ob_00000100011101 (TMachine.mk (TRaft.mk j16_2.r.Me j16_2.r.Nodes j16_2.r.Wait j16_2.r.Term j16_2.r.Vote j16_2.r.Log j16_2.r.Commit j16_2.r.Role j16_2.r.Leader (j16_2.r.Votes.set (w64 (x_v.From - 1)).toNat true) j16_2.r.Next j16_2.r.Match j16_2.r.Clock) j16_2.out)).set 9 (AV.data d)) (c_set (e := e_b) (s := 1) (nl := none) (l := j16_2.r.Votes) (i := (w64 (x_v.From - 1)).toNat) (x := true))) (.c rT .n)))) ?_
              obtain ⟨r44_1, h44_2, h⟩ := bd_inv h
              refine kRc 14 [Ob 11 (TMachine.ob_00000000011101 r44_1)] [.a ⟨.tup [], [(TMachine.ob_00000000011101 r44_1)]⟩] (.c (Asks.of (C := Meets Try.prog) (diwanref11_machine_count.meets fu (TMachine.mk (TRaft.mk j16_2.r.Me j16_2.r.Nodes j16_2.r.Wait j16_2.r.Term j16_2.r.Vote j16_2.r.Log j16_2.r.Commit j16_2.r.Role j16_2.r.Leader (j16_2.r.Votes.set (w64 (x_v.From - 1)).toNat true) j16_2.r.Next j16_2.r.Match j16_2.r.Clock) j16_2.out) _ h44_2)) .n) (cR (cR (cR (cR (cR (cR bd29)))))) [] ?_
              refine kSo 11 10 14 [Ob 11 (TMachine.ob_00000000010101 r44_1)] ?_
              refine kSo 11 11 14 [Ob 11 (TMachine.ob_00000000010001 r44_1)] ?_
              refine kSo 11 13 14 [Ob 11 (TMachine.ob_0000000001 r44_1)] ?_
              refine kSo 11 9 14 [Ob 11 (TMachine.ob r44_1)] ?_
              refine kRs 2 [Tm 5 (sS 24 TMsg.en r44_1.out), Ob 4 (TRaft.ob r44_1.r)] [] (.c rT .n) ?_
              refine kRt ?_
              have h_0 := some_inj h
              obtain ⟨g_1, h_1⟩ := Prod.mk.inj h_0
              subst g_1
              subst h_1
              exact kFr
             ·refine kCe b42_0 ?_
              refine kSk ?_
              refine kCd (cR (cR (cR (cR (cR (cR bd29)))))) [] ?_
              refine kSo 11 10 44 [Ob 11 (TMachine.ob_00000100010101 j16_2)] ?_
              refine kSo 11 11 14 [Ob 11 (TMachine.ob_00000100010001 j16_2)] ?_
              refine kSo 11 13 14 [Ob 11 (TMachine.ob_0000010001 j16_2)] ?_
              refine kSo 11 5 14 [Ob 11 (TMachine.ob_0000000001 j16_2)] ?_
              refine kSo 11 9 14 [Ob 11 (TMachine.ob j16_2)] ?_
              refine kRs 2 [Tm 5 (sS 24 TMsg.en j16_2.out), Ob 4 (TRaft.ob j16_2.r)] [] (.c rT .n) ?_
              refine kRt ?_
              have h_0 := some_inj h
              obtain ⟨g_1, h_1⟩ := Prod.mk.inj h_0
              subst g_1
              subst h_1
              exact kFr
            ·refine kRs 252 [Tm 198 (bv false)] [.b false, .b false, .b false] (.r 3 b41_1 .n) ?_
             refine kCe rF ?_
             refine kSk ?_
             refine kCd (cR (cR (cR (cR (cR (cR bd29)))))) [] ?_
             refine kSo 11 10 44 [Ob 11 (TMachine.ob_00000100010101 j16_2)] ?_
             refine kSo 11 11 14 [Ob 11 (TMachine.ob_00000100010001 j16_2)] ?_
             refine kSo 11 13 14 [Ob 11 (TMachine.ob_0000010001 j16_2)] ?_
             refine kSo 11 5 14 [Ob 11 (TMachine.ob_0000000001 j16_2)] ?_
             refine kSo 11 9 14 [Ob 11 (TMachine.ob j16_2)] ?_
             refine kRs 2 [Tm 5 (sS 24 TMsg.en j16_2.out), Ob 4 (TRaft.ob j16_2.r)] [] (.c rT .n) ?_
             refine kRt ?_
             have h_0 := some_inj h
             obtain ⟨g_1, h_1⟩ := Prod.mk.inj h_0
             subst g_1
             subst h_1
             exact kFr
           ·refine kCe b40_0 ?_
            refine kRs 252 [Tm 210 (bv (x_v.Kind == 3))] [] .n ?_
            rcases br_inv h with ⟨b49_0, h⟩ | ⟨b49_0, h⟩
            ·refine kCt b49_0 ?_
             obtain ⟨r50_1, h50_2, h⟩ := bd_inv h
             refine kRc 44 [Ob 11 (TMachine.ob_00000000011101 r50_1)] [.a ⟨.tup [], [(TMachine.ob_00000000011101 r50_1)]⟩] (.c (Asks.of (C := Meets Try.prog) (diwanref11_machine_append.meets fu x_v j16_2 _ h50_2)) .n) (cR (cR (cR (cR (cR (cR bd29)))))) [] ?_
             refine kSo 11 10 14 [Ob 11 (TMachine.ob_00000000010101 r50_1)] ?_
             refine kSo 11 11 14 [Ob 11 (TMachine.ob_00000000010001 r50_1)] ?_
             refine kSo 11 13 14 [Ob 11 (TMachine.ob_0000000001 r50_1)] ?_
             refine kSo 11 9 14 [Ob 11 (TMachine.ob r50_1)] ?_
             refine kRs 2 [Tm 5 (sS 24 TMsg.en r50_1.out), Ob 4 (TRaft.ob r50_1.r)] [] (.c rT .n) ?_
             refine kRt ?_
             have h_0 := some_inj h
             obtain ⟨g_1, h_1⟩ := Prod.mk.inj h_0
             subst g_1
             subst h_1
             exact kFr
            ·refine kCe b49_0 ?_
             obtain ⟨r52_1, h52_2, h⟩ := bd_inv h
             refine kRc 44 [Ob 11 (TMachine.ob_00000000011101 r52_1)] [.a ⟨.tup [], [(TMachine.ob_00000000011101 r52_1)]⟩] (.c (Asks.of (C := Meets Try.prog) (diwanref11_machine_appended.meets fu x_v j16_2 _ h52_2)) .n) (cR (cR (cR (cR (cR (cR bd29)))))) [] ?_
             refine kSo 11 10 14 [Ob 11 (TMachine.ob_00000000010101 r52_1)] ?_
             refine kSo 11 11 14 [Ob 11 (TMachine.ob_00000000010001 r52_1)] ?_
             refine kSo 11 13 14 [Ob 11 (TMachine.ob_0000000001 r52_1)] ?_
             refine kSo 11 9 14 [Ob 11 (TMachine.ob r52_1)] ?_
             refine kRs 2 [Tm 5 (sS 24 TMsg.en r52_1.out), Ob 4 (TRaft.ob r52_1.r)] [] (.c rT .n) ?_
             refine kRt ?_
             have h_0 := some_inj h
             obtain ⟨g_1, h_1⟩ := Prod.mk.inj h_0
             subst g_1
             subst h_1
             exact kFr
        clear hk16
        refine kSq ?_
        refine kRs 510 [Tm 62 (bv (decide (x_v.Term > r_v.Term)))] [] (.c rT .n) ?_
        rcases br_inv h with ⟨b13_0, h⟩ | ⟨b13_0, h⟩
        ·refine kCt b13_0 ?_
         refine kRs 506 [Ob 11 (TMachine.ob_00000100011101 (TMachine.mk (TRaft.mk r_v.Me r_v.Nodes r_v.Wait x_v.Term 0 r_v.Log r_v.Commit 0 0 r_v.Votes r_v.Next r_v.Match r_v.Clock) []))] [] .n ?_
         obtain ⟨c15_1, h⟩ := gd_inv h
         refine kRc 218 [Ob 11 (TMachine.ob_00000100011101 (TMachine.mk (TRaft.mk r_v.Me r_v.Nodes r_v.Wait x_v.Term 0 r_v.Log r_v.Commit 0 0 (List.replicate r_v.Nodes.toNat (false : Bool)) r_v.Next r_v.Match r_v.Clock) []))] [.s (.t 84) [.data (.slc true (some false) 1 (List.map e_b (List.replicate r_v.Nodes.toNat (false : Bool))))]] (.c c15_1 (.c (congrArg (fun d : DV => [AV.data d]) (c_rep (e := e_b) (s := 1) (n := r_v.Nodes.toNat) (x := false))) .n)) (cR (cR (cR (cR bd29)))) [] ?_
         exact kWk (Jk16 (TMachine.mk (TRaft.mk r_v.Me r_v.Nodes r_v.Wait x_v.Term 0 r_v.Log r_v.Commit 0 0 (List.replicate r_v.Nodes.toNat (false : Bool)) r_v.Next r_v.Match r_v.Clock) []) h)
        ·refine kCe b13_0 ?_
         refine kSk ?_
         refine kCd (cR (cR (cR (cR bd29)))) [] ?_
         exact kWk (Jk16 (TMachine.mk r_v []) h)
def bd30 : Code := (Try.f30.body).getD .skip
def diwanref11_Tick.O : Nat → Nat := fun t => bif ([1, 2, 4, 5, 8, 9, 35, 56, 81, 142] : List Nat).any (Nat.beq t) then 1 else 0
def diwanref11_Tick.lp23 (fu : Nat) (l23_1 : TRaft) (l23_2 : TRaft) : Nat → Int → TMachine → Option TMachine
  | 0, _, _ => none
  | n_ + 1, l23_0, l23_3 =>
  br (decide (l23_0 ≤ l23_1.Nodes))
   (br (l23_0 != l23_1.Me)
    (bd (diwanref1_Term l23_3.r.Log (l23_3.r.Log.length : Int)) fun r28_1 =>
    bd (diwanref11_machine_send (TMsg.mk 1 0 0 0 l23_3.r.Term (l23_3.r.Log.length : Int) r28_1 0 false [] (TTxn.mk 0 0 [] []) 0 0 0 0 false ByteArray.empty ByteArray.empty [] [] 0) l23_0 l23_3) fun r28_3 =>
    diwanref11_Tick.lp23 fu l23_1 l23_2 n_ (w64 (l23_0 + 1)) r28_3)
    (diwanref11_Tick.lp23 fu l23_1 l23_2 n_ (w64 (l23_0 + 1)) l23_3))
   (some l23_3)
def diwanref11_Tick.lp23_post (l23_1 : TRaft) (l23_2 : TRaft) (r_ : TMachine) : Wy → St → Prop := fun e τ => match r_ with
  | y0 => e = .exit 0 ∧ τ = ofL [Tm 2 (.ptr 2 0), Tm 4 (.ptr 9 0), Ob 2 (TRaft.ob_000001000111 l23_2), Ob 9 (TMachine.ob_00000100011101 y0)]
theorem diwanref11_Tick.lp23_ok (fu : Nat) (l23_1 : TRaft) (l23_2 : TRaft) : ∀ (n_ : Nat) (l23_0 : Int) (l23_3 : TMachine) (r_ : TMachine), diwanref11_Tick.lp23 fu l23_1 l23_2 n_ l23_0 l23_3 = some r_ → WK Try.prog diwanref11_Tick.O (Ck Try.prog) (cB (cR (cL (cR (cR (cR (cR (cR (cR (cR (cR (cR (cR (cR bd30)))))))))))))) [] (ofL [Tm 1 (.ptr 1 0), Tm 2 (.ptr 2 0), Tm 4 (.ptr 9 0), Tm 5 (iv l23_0), Ob 1 (TRaft.ob l23_1), Ob 2 (TRaft.ob_000001000111 l23_2), Ob 9 (TMachine.ob_00000100011101 l23_3)]) (diwanref11_Tick.lp23_post l23_1 l23_2 r_) := by
 intro n_
 induction n_ with
 | zero => intro l23_0 l23_3 r_ h; exact no_none h
 | succ n_ ih =>
  intro l23_0 l23_3 r_ h
  refine kLp ?_
  refine kSq ?_
  refine kRs 127 [Tm 111 (bv (decide (l23_0 ≤ l23_1.Nodes)))] [] .n ?_
  rcases br_inv h with ⟨b25_0, h⟩ | ⟨b25_0, h⟩
  ·refine kCt b25_0 ?_
   refine kSk ?_
   refine kCd (cR (cB (cB (cR (cL (cR (cR (cR (cR (cR (cR (cR (cR (cR (cR (cR bd30)))))))))))))))) [.lp (cB (cR (cL (cR (cR (cR (cR (cR (cR (cR (cR (cR (cR (cR bd30))))))))))))))] ?_
   refine kSq ?_
   refine kBk 1 ?_
   refine kRs 254 [Tm 117 (bv (l23_0 != l23_1.Me))] [] .n ?_
   rcases br_inv h with ⟨b27_0, h⟩ | ⟨b27_0, h⟩
   ·refine kCt b27_0 ?_
    obtain ⟨r28_1, h28_2, h⟩ := bd_inv h
    obtain ⟨r28_3, h28_4, h⟩ := bd_inv h
    refine kRc 126 [Ob 9 (TMachine.ob_00000100011101 r28_3)] [.s (.t 129) [iv (l23_3.r.Log.length : Int)], .s (.t 140) [iv (l23_3.r.Log.length : Int)], .a ⟨iv r28_1, []⟩, .a ⟨.tup [], [(TMachine.ob_00000100011101 r28_3)]⟩] (.r 2 (c_len (e := TEntry.en) (l := l23_3.r.Log)) (.c (Asks.of (C := Meets Try.prog) (diwanref1_Term.meets l23_3.r.Log (l23_3.r.Log.length : Int) _ h28_2)) (.c (Asks.of (C := Meets Try.prog) (diwanref11_machine_send.meets (TMsg.mk 1 0 0 0 l23_3.r.Term (l23_3.r.Log.length : Int) r28_1 0 false [] (TTxn.mk 0 0 [] []) 0 0 0 0 false ByteArray.empty ByteArray.empty [] [] 0) l23_0 l23_3 _ h28_4)) (.c rT .n)))) (cR (cR (cB (cB (cR (cL (cR (cR (cR (cR (cR (cR (cR (cR (cR (cR (cR bd30))))))))))))))))) [.lp (cB (cR (cL (cR (cR (cR (cR (cR (cR (cR (cR (cR (cR (cR bd30))))))))))))))] ?_
    refine kRc 111 [Tm 5 (iv (w64 (l23_0 + 1)))] [] .n (cB (cR (cL (cR (cR (cR (cR (cR (cR (cR (cR (cR (cR (cR bd30)))))))))))))) [] ?_
    exact kWk (ih (w64 (l23_0 + 1)) r28_3 _ h)
   ·refine kCe b27_0 ?_
    refine kSk ?_
    refine kCd (cR (cR (cB (cB (cR (cL (cR (cR (cR (cR (cR (cR (cR (cR (cR (cR (cR bd30))))))))))))))))) [.lp (cB (cR (cL (cR (cR (cR (cR (cR (cR (cR (cR (cR (cR (cR bd30))))))))))))))] ?_
    refine kRc 238 [Tm 5 (iv (w64 (l23_0 + 1)))] [] .n (cB (cR (cL (cR (cR (cR (cR (cR (cR (cR (cR (cR (cR (cR bd30)))))))))))))) [] ?_
    exact kWk (ih (w64 (l23_0 + 1)) l23_3 _ h)
  ·refine kCe b25_0 ?_
   cases some_inj h
   refine kWo ?_
   refine kXt 0 ?_
   exact kOut
def diwanref11_Tick (fu : Nat) (r_v : TRaft) : Option (TRaft × List TMsg) :=
 bd (diwanref11_Copy r_v) fun _ =>
 bd (diwanref11_May fu r_v) fun r3_1 =>
 br (!r3_1)
  (some (r_v, []))
  (br (r_v.Role == 2)
   (bd (diwanref11_machine_all fu (TMachine.mk r_v [])) fun r8_1 =>
   some (r8_1.r, r8_1.out))
   (br (decide ((w64 (r_v.Clock + 1)) < r_v.Wait))
    (some ((TRaft.mk r_v.Me r_v.Nodes r_v.Wait r_v.Term r_v.Vote r_v.Log r_v.Commit r_v.Role r_v.Leader r_v.Votes r_v.Next r_v.Match (w64 (r_v.Clock + 1))), []))
    (gd (decide ((0 : Int) ≤ r_v.Nodes ∧ r_v.Nodes ≤ r_v.Nodes ∧ r_v.Nodes ≤ 4294967296)) <|
    ix (List.replicate r_v.Nodes.toNat (false : Bool)) (w64 (r_v.Me - 1)) fun x17_1 =>
    bd (diwanref1_Majority r_v.Nodes) fun r18_1 =>
    br (decide (r18_1 ≤ 1))
     (bd (diwanref11_machine_lead fu (TMachine.mk (TRaft.mk r_v.Me r_v.Nodes r_v.Wait (w64 (r_v.Term + 1)) r_v.Me r_v.Log r_v.Commit 1 0 ((List.replicate r_v.Nodes.toNat (false : Bool)).set (w64 (r_v.Me - 1)).toNat true) r_v.Next r_v.Match 0) [])) fun r20_1 =>
     some (r20_1.r, r20_1.out))
     (bd (diwanref11_Tick.lp23 fu r_v (TRaft.mk 0 0 0 0 0 [] 0 0 0 [] [] [] 0) fu 1 (TMachine.mk (TRaft.mk r_v.Me r_v.Nodes r_v.Wait (w64 (r_v.Term + 1)) r_v.Me r_v.Log r_v.Commit 1 0 ((List.replicate r_v.Nodes.toNat (false : Bool)).set (w64 (r_v.Me - 1)).toNat true) r_v.Next r_v.Match 0) [])) fun y31_0 =>
     some (y31_0.r, y31_0.out)))))
theorem diwanref11_Tick.meets (fu : Nat) (r_v : TRaft) (z0 : TRaft) (z1 : List TMsg) (h : diwanref11_Tick fu r_v = some (z0, z1)) : Meets Try.prog ⟨30, [.data (TRaft.ag r_v)], []⟩ ⟨.tup [.data (TRaft.ag z0), sS 24 TMsg.en z1], []⟩ := by
 refine kMt hmix diwanref11_Tick.O Try.f30 bd30 1 ?_
 unfold diwanref11_Tick at h
 refine kRs 0 [Tm 1 (.ptr 1 0), Tm 2 (.ptr 2 0), Ob 1 (TRaft.ob r_v), Ob 2 (TRaft.ob_000001000111 (TRaft.mk 0 0 0 0 0 [] 0 0 0 [] [] [] 0))] [] .n ?_
 obtain ⟨_, h2_1, h⟩ := bd_inv h
 refine kRs 15 [Tm 4 (.ptr 9 0), Ob 9 (TMachine.ob_00000100011101 (TMachine.mk r_v []))] [.a ⟨.data (TRaft.ag_000001000111 r_v), []⟩] (.c (Asks.of (C := Meets Try.prog) (diwanref11_Copy.meets r_v h2_1)) .n) ?_
 refine kSq ?_
 obtain ⟨r3_1, h3_2, h⟩ := bd_inv h
 refine kRs 63 [Tm 12 (bv (!r3_1))] [.a ⟨bv r3_1, []⟩] (.c (Asks.of (C := Meets Try.prog) (diwanref11_May.meets fu r_v _ h3_2)) .n) ?_
 rcases br_inv h with ⟨b4_0, h⟩ | ⟨b4_0, h⟩
 ·refine kCt b4_0 ?_
  refine kRs 16 [Tm 3 (.data (.slc false (some true) 24 (List.map TMsg.en []))), Ob 2 (TRaft.ob r_v)] [] .n ?_
  refine kWd 6 [Tm 3 (.data (.slc false none 24 (List.map TMsg.en [])))] ?_
  refine kRt ?_
  have h_0 := some_inj h
  obtain ⟨g_1, h_1⟩ := Prod.mk.inj h_0
  subst g_1
  subst h_1
  exact kFr
 ·refine kCe b4_0 ?_
  refine kSk ?_
  refine kCd (cR (cR (cR bd30))) [] ?_
  refine kSq ?_
  refine kRs 126 [Tm 19 (bv (r_v.Role == 2))] [] .n ?_
  rcases br_inv h with ⟨b7_0, h⟩ | ⟨b7_0, h⟩
  ·refine kCt b7_0 ?_
   obtain ⟨r8_1, h8_2, h⟩ := bd_inv h
   refine kRs 82 [Ob 9 (TMachine.ob_00000000011101 r8_1)] [.a ⟨.tup [], [(TMachine.ob_00000000011101 r8_1)]⟩] (.c (Asks.of (C := Meets Try.prog) (diwanref11_machine_all.meets fu (TMachine.mk r_v []) _ h8_2)) .n) ?_
   refine kSo 9 10 14 [Ob 9 (TMachine.ob_00000000010101 r8_1)] ?_
   refine kSo 9 11 14 [Ob 9 (TMachine.ob_00000000010001 r8_1)] ?_
   refine kSo 9 13 14 [Ob 9 (TMachine.ob_0000000001 r8_1)] ?_
   refine kSo 9 9 14 [Ob 9 (TMachine.ob r8_1)] ?_
   refine kRs 4 [Tm 3 (sS 24 TMsg.en r8_1.out), Ob 2 (TRaft.ob r8_1.r)] [] (.c rT .n) ?_
   refine kRt ?_
   have h_0 := some_inj h
   obtain ⟨g_1, h_1⟩ := Prod.mk.inj h_0
   subst g_1
   subst h_1
   exact kFr
  ·refine kCe b7_0 ?_
   refine kSk ?_
   refine kCd (cR (cR (cR (cR bd30)))) [] ?_
   refine kRs 122 [Ob 9 (TMachine.ob_00000100011101 (TMachine.mk (TRaft.mk r_v.Me r_v.Nodes r_v.Wait r_v.Term r_v.Vote r_v.Log r_v.Commit r_v.Role r_v.Leader r_v.Votes r_v.Next r_v.Match (w64 (r_v.Clock + 1))) []))] [] .n ?_
   refine kSq ?_
   refine kRs 63 [Tm 46 (bv (decide ((w64 (r_v.Clock + 1)) < r_v.Wait)))] [] (.c rT .n) ?_
   rcases br_inv h with ⟨b12_0, h⟩ | ⟨b12_0, h⟩
   ·refine kCt b12_0 ?_
    refine kRs 16 [Tm 3 (.data (.slc false (some true) 24 (List.map TMsg.en []))), Ob 2 (TRaft.ob (TRaft.mk r_v.Me r_v.Nodes r_v.Wait r_v.Term r_v.Vote r_v.Log r_v.Commit r_v.Role r_v.Leader r_v.Votes r_v.Next r_v.Match (w64 (r_v.Clock + 1))))] [] .n ?_
    refine kWd 6 [Tm 3 (.data (.slc false none 24 (List.map TMsg.en [])))] ?_
    refine kRt ?_
    have h_0 := some_inj h
    obtain ⟨g_1, h_1⟩ := Prod.mk.inj h_0
    subst g_1
    subst h_1
    exact kFr
   ·refine kCe b12_0 ?_
    refine kSk ?_
    refine kCd (cR (cR (cR (cR (cR (cR bd30)))))) [] ?_
    refine kRs 124 [Ob 9 (TMachine.ob_00000100011101 (TMachine.mk (TRaft.mk r_v.Me r_v.Nodes r_v.Wait (w64 (r_v.Term + 1)) r_v.Vote r_v.Log r_v.Commit r_v.Role r_v.Leader r_v.Votes r_v.Next r_v.Match (w64 (r_v.Clock + 1))) []))] [] .n ?_
    refine kRs 62 [Ob 9 (TMachine.ob_00000100011101 (TMachine.mk (TRaft.mk r_v.Me r_v.Nodes r_v.Wait (w64 (r_v.Term + 1)) r_v.Me r_v.Log r_v.Commit 1 0 r_v.Votes r_v.Next r_v.Match 0) []))] [] (.c rT .n) ?_
    obtain ⟨c16_1, h⟩ := gd_inv h
    refine kRs 62 [Ob 9 (TMachine.ob_00000100011101 (TMachine.mk (TRaft.mk r_v.Me r_v.Nodes r_v.Wait (w64 (r_v.Term + 1)) r_v.Me r_v.Log r_v.Commit 1 0 (List.replicate r_v.Nodes.toNat (false : Bool)) r_v.Next r_v.Match 0) []))] [.s (.t 81) [.data (.slc true (some false) 1 (List.map e_b (List.replicate r_v.Nodes.toNat (false : Bool))))]] (.c c16_1 (.c (congrArg (fun d : DV => [AV.data d]) (c_rep (e := e_b) (s := 1) (n := r_v.Nodes.toNat) (x := false))) .n)) ?_
    obtain ⟨x17_1, a17_2, e17_3, h⟩ := ix_inv h
    refine kRs 62 [Ob 9 (TMachine.ob_00000100011101 (TMachine.mk (TRaft.mk r_v.Me r_v.Nodes r_v.Wait (w64 (r_v.Term + 1)) r_v.Me r_v.Log r_v.Commit 1 0 ((List.replicate r_v.Nodes.toNat (false : Bool)).set (w64 (r_v.Me - 1)).toNat true) r_v.Next r_v.Match 0) []))] [.c (e_b x17_1), .s (.o 9) (TMachine.ob_00000100011101 (TMachine.mk (TRaft.mk r_v.Me r_v.Nodes r_v.Wait (w64 (r_v.Term + 1)) r_v.Me r_v.Log r_v.Commit 1 0 ((List.replicate r_v.Nodes.toNat (false : Bool)).set (w64 (r_v.Me - 1)).toNat true) r_v.Next r_v.Match 0) []))] (.c (c_ix (e := e_b) a17_2 e17_3) (.c (c_el (e := e_b) e17_3) (.c (congrArg (fun d : DV => (TMachine.ob_00000100011101 (TMachine.mk (TRaft.mk r_v.Me r_v.Nodes r_v.Wait (w64 (r_v.Term + 1)) r_v.Me r_v.Log r_v.Commit 1 0 ((List.replicate r_v.Nodes.toNat (false : Bool)).set (w64 (r_v.Me - 1)).toNat true) r_v.Next r_v.Match 0) [])).set 9 (AV.data d)) (c_set (e := e_b) (s := 1) (nl := none) (l := (List.replicate r_v.Nodes.toNat (false : Bool))) (i := (w64 (r_v.Me - 1)).toNat) (x := true))) (.c rT .n)))) ?_
    refine kSq ?_
    obtain ⟨r18_1, h18_2, h⟩ := bd_inv h
    refine kRs 63 [Tm 97 (bv (decide (r18_1 ≤ 1)))] [.a ⟨iv r18_1, []⟩] (.c (Asks.of (C := Meets Try.prog) (diwanref1_Majority.meets r_v.Nodes _ h18_2)) .n) ?_
    rcases br_inv h with ⟨b19_0, h⟩ | ⟨b19_0, h⟩
    ·refine kCt b19_0 ?_
     obtain ⟨r20_1, h20_2, h⟩ := bd_inv h
     refine kRs 84 [Ob 9 (TMachine.ob_00000000011101 r20_1)] [.a ⟨.tup [], [(TMachine.ob_00000000011101 r20_1)]⟩] (.c (Asks.of (C := Meets Try.prog) (diwanref11_machine_lead.meets fu (TMachine.mk (TRaft.mk r_v.Me r_v.Nodes r_v.Wait (w64 (r_v.Term + 1)) r_v.Me r_v.Log r_v.Commit 1 0 ((List.replicate r_v.Nodes.toNat (false : Bool)).set (w64 (r_v.Me - 1)).toNat true) r_v.Next r_v.Match 0) []) _ h20_2)) .n) ?_
     refine kSo 9 10 14 [Ob 9 (TMachine.ob_00000000010101 r20_1)] ?_
     refine kSo 9 11 14 [Ob 9 (TMachine.ob_00000000010001 r20_1)] ?_
     refine kSo 9 13 14 [Ob 9 (TMachine.ob_0000000001 r20_1)] ?_
     refine kSo 9 9 14 [Ob 9 (TMachine.ob r20_1)] ?_
     refine kRs 4 [Tm 3 (sS 24 TMsg.en r20_1.out), Ob 2 (TRaft.ob r20_1.r)] [] (.c rT .n) ?_
     refine kRt ?_
     have h_0 := some_inj h
     obtain ⟨g_1, h_1⟩ := Prod.mk.inj h_0
     subst g_1
     subst h_1
     exact kFr
    ·refine kCe b19_0 ?_
     refine kSk ?_
     refine kCd (cR (cR (cR (cR (cR (cR (cR (cR (cR (cR (cR bd30))))))))))) [] ?_
     refine kSq ?_
     refine kRs 126 [Tm 5 (iv 1)] [] .n ?_
     refine kBk 0 ?_
     obtain ⟨o31, ho31, h⟩ := bd_inv h
     refine kUs (diwanref11_Tick.lp23_ok fu r_v (TRaft.mk 0 0 0 0 0 [] 0 0 0 [] [] [] 0) _ 1 (TMachine.mk (TRaft.mk r_v.Me r_v.Nodes r_v.Wait (w64 (r_v.Term + 1)) r_v.Me r_v.Log r_v.Commit 1 0 ((List.replicate r_v.Nodes.toNat (false : Bool)).set (w64 (r_v.Me - 1)).toNat true) r_v.Next r_v.Match 0) []) _ ho31) ?_
     intro e_ τ_ hp_
     obtain ⟨y31_0, rfl⟩ : ∃ y, y = o31 := ⟨_, rfl⟩
     obtain ⟨rfl, rfl⟩ := hp_
     refine kCd (cR (cR (cR (cR (cR (cR (cR (cR (cR (cR (cR (cR bd30)))))))))))) [] ?_
     refine kSo 9 10 7 [Ob 9 (TMachine.ob_00000100010101 y31_0)] ?_
     refine kSo 9 11 14 [Ob 9 (TMachine.ob_00000100010001 y31_0)] ?_
     refine kSo 9 13 14 [Ob 9 (TMachine.ob_0000010001 y31_0)] ?_
     refine kSo 9 5 14 [Ob 9 (TMachine.ob_0000000001 y31_0)] ?_
     refine kSo 9 9 14 [Ob 9 (TMachine.ob y31_0)] ?_
     refine kRs 2 [Tm 3 (sS 24 TMsg.en y31_0.out), Ob 2 (TRaft.ob y31_0.r)] [] (.c rT .n) ?_
     refine kRt ?_
     have h_0 := some_inj h
     obtain ⟨g_1, h_1⟩ := Prod.mk.inj h_0
     subst g_1
     subst h_1
     exact kFr
def bd33 : Code := (Try.f33.body).getD .skip
def diwanref11_Propose.O : Nat → Nat := fun t => bif ([2, 3, 4, 6, 7, 8, 11, 12] : List Nat).any (Nat.beq t) then 1 else 0
def diwanref11_Propose (fu : Nat) (r_v : TRaft) (e_v : TEntry) : Option (TRaft × List TMsg × Bool) :=
 bd (diwanref11_Copy r_v) fun _ =>
 bd (diwanref11_May fu r_v) fun r3_1 =>
 br (!r3_1)
  (some (r_v, [], false))
  (bd (diwanref11_machine_propose fu e_v (TMachine.mk r_v [])) fun (r6_1, r6_2) =>
  some (r6_2.r, r6_2.out, r6_1))
theorem diwanref11_Propose.meets (fu : Nat) (r_v : TRaft) (e_v : TEntry) (z0 : TRaft) (z1 : List TMsg) (z2 : Bool) (h : diwanref11_Propose fu r_v e_v = some (z0, z1, z2)) : Meets Try.prog ⟨33, [.data (TRaft.ag r_v), .data (TEntry.ag e_v)], []⟩ ⟨.tup [.data (TRaft.ag z0), sS 24 TMsg.en z1, bv z2], []⟩ := by
 refine kMt hmix diwanref11_Propose.O Try.f33 bd33 3 ?_
 unfold diwanref11_Propose at h
 refine kRs 0 [Tm 2 (.ptr 2 0), Tm 3 (.ptr 3 0), Tm 4 (.ptr 4 0), Ob 2 (TRaft.ob r_v), Ob 3 (TEntry.ob e_v), Ob 4 (TRaft.ob_000001000111 (TRaft.mk 0 0 0 0 0 [] 0 0 0 [] [] [] 0))] [] .n ?_
 obtain ⟨_, h2_1, h⟩ := bd_inv h
 refine kRs 63 [Tm 7 (.ptr 12 0), Ob 12 (TMachine.ob_00000100011101 (TMachine.mk r_v []))] [.a ⟨.data (TRaft.ag_000001000111 r_v), []⟩] (.c (Asks.of (C := Meets Try.prog) (diwanref11_Copy.meets r_v h2_1)) .n) ?_
 refine kSq ?_
 obtain ⟨r3_1, h3_2, h⟩ := bd_inv h
 refine kRs 219 [Tm 15 (bv (!r3_1))] [.a ⟨bv r3_1, []⟩] (.c (Asks.of (C := Meets Try.prog) (diwanref11_May.meets fu r_v _ h3_2)) .n) ?_
 rcases br_inv h with ⟨b4_0, h⟩ | ⟨b4_0, h⟩
 ·refine kCt b4_0 ?_
  refine kRs 16 [Tm 5 (.data (.slc false (some true) 24 (List.map TMsg.en []))), Tm 6 (bv false), Ob 4 (TRaft.ob r_v)] [] .n ?_
  refine kWd 14 [Tm 5 (.data (.slc false none 24 (List.map TMsg.en [])))] ?_
  refine kRt ?_
  have h_0 := some_inj h
  obtain ⟨g_1, h_1⟩ := Prod.mk.inj h_0
  obtain ⟨g_2, h_2⟩ := Prod.mk.inj h_1
  subst g_1
  subst g_2
  subst h_2
  exact kFr
 ·refine kCe b4_0 ?_
  refine kSk ?_
  refine kCd (cR (cR (cR bd33))) [] ?_
  obtain ⟨⟨r6_1, r6_2⟩, h6_3, h⟩ := bd_inv h
  refine kRs 82 [Tm 8 (bv r6_1), Ob 12 (TMachine.ob_00000000011101 r6_2)] [.a ⟨bv r6_1, [(TMachine.ob_00000000011101 r6_2)]⟩] (.c (Asks.of (C := Meets Try.prog) (diwanref11_machine_propose.meets fu e_v (TMachine.mk r_v []) _ _ h6_3)) .n) ?_
  refine kSo 12 10 29 [Ob 12 (TMachine.ob_00000000010101 r6_2)] ?_
  refine kSo 12 11 30 [Ob 12 (TMachine.ob_00000000010001 r6_2)] ?_
  refine kSo 12 13 30 [Ob 12 (TMachine.ob_0000000001 r6_2)] ?_
  refine kSo 12 9 30 [Ob 12 (TMachine.ob r6_2)] ?_
  refine kRs 8 [Tm 5 (sS 24 TMsg.en r6_2.out), Tm 6 (bv r6_1), Ob 4 (TRaft.ob r6_2.r)] [] (.c rT .n) ?_
  refine kRt ?_
  have h_0 := some_inj h
  obtain ⟨g_1, h_1⟩ := Prod.mk.inj h_0
  obtain ⟨g_2, h_2⟩ := Prod.mk.inj h_1
  subst g_1
  subst g_2
  subst h_2
  exact kFr
def bd67 : Code := (Try.f67.body).getD .skip
def diwanref1_SameMsg.O : Nat → Nat := fun t => bif ([2, 3, 4, 5] : List Nat).any (Nat.beq t) then 1 else 0
def diwanref1_SameMsg.lp28 (fu : Nat) (l28_1 : TMsg) (l28_2 : TMsg) : Nat → Int → Option (Unit ⊕ Unit)
  | 0, _ => none
  | n_ + 1, l28_0 =>
  br (decide (l28_0 < (l28_1.Keys.length : Int)))
   (ix l28_1.Keys l28_0 fun x31_1 =>
   ix l28_2.Keys l28_0 fun x31_4 =>
   br (!(x31_1.toList == x31_4.toList))
    (some (.inr ()))
    (diwanref1_SameMsg.lp28 fu l28_1 l28_2 n_ (w64 (l28_0 + 1))))
   (some (.inl ()))
def diwanref1_SameMsg.lp28_post (l28_1 : TMsg) (l28_2 : TMsg) (r_ : (Unit ⊕ Unit)) : Wy → St → Prop := fun e τ => match r_ with
  | .inl _ => e = .exit 0 ∧ τ = ofL []
  | .inr _ => e = .ret ∧ τ = ofL [Tm 4 (bv false)]
theorem diwanref1_SameMsg.lp28_ok (fu : Nat) (l28_1 : TMsg) (l28_2 : TMsg) : ∀ (n_ : Nat) (l28_0 : Int) (r_ : (Unit ⊕ Unit)), diwanref1_SameMsg.lp28 fu l28_1 l28_2 n_ l28_0 = some r_ → WK Try.prog diwanref1_SameMsg.O (Ck Try.prog) (cB (cR (cL (cR (cR (cR bd67)))))) [] (ofL [Tm 2 (.ptr 2 0), Tm 3 (.ptr 3 0), Tm 5 (iv l28_0), Ob 2 (TMsg.ob l28_1), Ob 3 (TMsg.ob l28_2)]) (diwanref1_SameMsg.lp28_post l28_1 l28_2 r_) := by
 intro n_
 induction n_ with
 | zero => intro l28_0 r_ h; exact no_none h
 | succ n_ ih =>
  intro l28_0 r_ h
  refine kLp ?_
  refine kSq ?_
  refine kRs 31 [Tm 158 (bv (decide (l28_0 < (l28_1.Keys.length : Int))))] [.s (.t 157) [iv (l28_1.Keys.length : Int)]] (.c (c_len (e := e_s) (l := l28_1.Keys)) .n) ?_
  rcases br_inv h with ⟨b30_0, h⟩ | ⟨b30_0, h⟩
  ·refine kCt b30_0 ?_
   refine kSk ?_
   refine kCd (cR (cB (cB (cR (cL (cR (cR (cR bd67)))))))) [.lp (cB (cR (cL (cR (cR (cR bd67))))))] ?_
   refine kSq ?_
   refine kBk 1 ?_
   obtain ⟨x31_1, a31_2, e31_3, h⟩ := ix_inv h
   obtain ⟨x31_4, a31_5, e31_6, h⟩ := ix_inv h
   refine kRs 62 [Tm 171 (bv (!(x31_1.toList == x31_4.toList)))] [.c (e_s x31_1), .c (e_s x31_4)] (.c (c_ix (e := e_s) a31_2 e31_3) (.c (c_el (e := e_s) e31_3) (.c (c_ix (e := e_s) a31_5 e31_6) (.c (c_el (e := e_s) e31_6) (.c rT .n))))) ?_
   rcases br_inv h with ⟨b32_0, h⟩ | ⟨b32_0, h⟩
   ·refine kCt b32_0 ?_
    refine kRs 0 [Tm 4 (bv false)] [] .n ?_
    cases some_inj h
    refine kWo ?_
    refine kRt ?_
    exact kOut
   ·refine kCe b32_0 ?_
    refine kSk ?_
    refine kCd (cR (cR (cB (cB (cR (cL (cR (cR (cR bd67))))))))) [.lp (cB (cR (cL (cR (cR (cR bd67))))))] ?_
    refine kRc 54 [Tm 5 (iv (w64 (l28_0 + 1)))] [] .n (cB (cR (cL (cR (cR (cR bd67)))))) [] ?_
    exact kWk (ih (w64 (l28_0 + 1)) _ h)
  ·refine kCe b30_0 ?_
   cases some_inj h
   refine kWo ?_
   refine kXt 0 ?_
   exact kOut
def diwanref1_SameMsg (fu : Nat) (a : TMsg) (b : TMsg) : Option Bool :=
 br (a.Kind != b.Kind)
  (some false)
  (br (a.From != b.From)
   (some false)
   (br (a.To != b.To)
    (some false)
    (br (a.Part != b.Part)
     (some false)
     (br (a.Term != b.Term)
      (some false)
      (br (a.Index != b.Index)
       (some false)
       (br (a.LogTerm != b.LogTerm)
        (some false)
        (br (a.Commit != b.Commit)
         (some false)
         (br (!(a.OK == b.OK))
          (some false)
          (br (a.Session != b.Session)
           (some false)
           (br (a.Seq != b.Seq)
            (some false)
            (br (a.Pos != b.Pos)
             (some false)
             (br (a.Shard != b.Shard)
              (some false)
              (br (!(a.Span == b.Span))
               (some false)
               (br (!(a.FromKey.toList == b.FromKey.toList))
                (some false)
                (br (!(a.ToKey.toList == b.ToKey.toList))
                 (some false)
                 (br (a.Err != b.Err)
                  (some false)
                  (bd (diwanref1_SameEntries fu a.Entries b.Entries) fun r21_1 =>
                  br (!r21_1)
                   (some false)
                   (bd (diwanref1_SameTxn fu a.T b.T) fun r21_4 =>
                   br (!r21_4)
                    (some false)
                    (bd (diwanref1_SameReads fu a.Got b.Got) fun r21_7 =>
                    br (!r21_7)
                     (some false)
                     (br ((a.Keys.length : Int) != (b.Keys.length : Int))
                      (some false)
                      (bd (diwanref1_SameMsg.lp28 fu a b fu 0) fun o_ => (match o_ with
                      | .inl _ =>
                       some true
                      | .inr _ =>
                       some false))))))))))))))))))))))
theorem diwanref1_SameMsg.meets (fu : Nat) (a : TMsg) (b : TMsg) (z0 : Bool) (h : diwanref1_SameMsg fu a b = some z0) : Meets Try.prog ⟨67, [.data (TMsg.ag a), .data (TMsg.ag b)], []⟩ ⟨bv z0, []⟩ := by
 refine kMt hmix diwanref1_SameMsg.O Try.f67 bd67 3 ?_
 unfold diwanref1_SameMsg at h
 refine kRs 0 [Tm 2 (.ptr 2 0), Tm 3 (.ptr 3 0), Ob 2 (TMsg.ob a), Ob 3 (TMsg.ob b)] [] .n ?_
 refine kSq ?_
 rcases br_inv h with ⟨b2_1, h⟩ | ⟨b2_1, h⟩
 ·refine kRs 15 [Tm 122 (bv true)] (rp 96 (.b true) []) (.r 6 b2_1 (.r 90 rT .n)) ?_
  refine kCt rT ?_
  refine kRs 0 [Tm 4 (bv false)] [] .n ?_
  refine kRt ?_
  have h_ := some_inj h
  subst h_
  exact kFr
 ·rcases br_inv h with ⟨b2_2, h⟩ | ⟨b2_2, h⟩
  ·refine kRs 15 [Tm 122 (bv true)] (rp 6 (.b false) (rp 90 (.b true) [])) (.r 6 b2_1 (.r 6 b2_2 (.r 84 rT .n))) ?_
   refine kCt rT ?_
   refine kRs 0 [Tm 4 (bv false)] [] .n ?_
   refine kRt ?_
   have h_ := some_inj h
   subst h_
   exact kFr
  ·rcases br_inv h with ⟨b2_3, h⟩ | ⟨b2_3, h⟩
   ·refine kRs 15 [Tm 122 (bv true)] (rp 12 (.b false) (rp 84 (.b true) [])) (.r 6 b2_1 (.r 6 b2_2 (.r 6 b2_3 (.r 78 rT .n)))) ?_
    refine kCt rT ?_
    refine kRs 0 [Tm 4 (bv false)] [] .n ?_
    refine kRt ?_
    have h_ := some_inj h
    subst h_
    exact kFr
   ·rcases br_inv h with ⟨b2_4, h⟩ | ⟨b2_4, h⟩
    ·refine kRs 15 [Tm 122 (bv true)] (rp 18 (.b false) (rp 78 (.b true) [])) (.r 6 b2_1 (.r 6 b2_2 (.r 6 b2_3 (.r 6 b2_4 (.r 72 rT .n))))) ?_
     refine kCt rT ?_
     refine kRs 0 [Tm 4 (bv false)] [] .n ?_
     refine kRt ?_
     have h_ := some_inj h
     subst h_
     exact kFr
    ·rcases br_inv h with ⟨b2_5, h⟩ | ⟨b2_5, h⟩
     ·refine kRs 15 [Tm 122 (bv true)] (rp 24 (.b false) (rp 72 (.b true) [])) (.r 6 b2_1 (.r 6 b2_2 (.r 6 b2_3 (.r 6 b2_4 (.r 6 b2_5 (.r 66 rT .n)))))) ?_
      refine kCt rT ?_
      refine kRs 0 [Tm 4 (bv false)] [] .n ?_
      refine kRt ?_
      have h_ := some_inj h
      subst h_
      exact kFr
     ·rcases br_inv h with ⟨b2_6, h⟩ | ⟨b2_6, h⟩
      ·refine kRs 15 [Tm 122 (bv true)] (rp 30 (.b false) (rp 66 (.b true) [])) (.r 6 b2_1 (.r 6 b2_2 (.r 6 b2_3 (.r 6 b2_4 (.r 6 b2_5 (.r 6 b2_6 (.r 60 rT .n))))))) ?_
       refine kCt rT ?_
       refine kRs 0 [Tm 4 (bv false)] [] .n ?_
       refine kRt ?_
       have h_ := some_inj h
       subst h_
       exact kFr
      ·rcases br_inv h with ⟨b2_7, h⟩ | ⟨b2_7, h⟩
       ·refine kRs 15 [Tm 122 (bv true)] (rp 36 (.b false) (rp 60 (.b true) [])) (.r 6 b2_1 (.r 6 b2_2 (.r 6 b2_3 (.r 6 b2_4 (.r 6 b2_5 (.r 6 b2_6 (.r 6 b2_7 (.r 54 rT .n)))))))) ?_
        refine kCt rT ?_
        refine kRs 0 [Tm 4 (bv false)] [] .n ?_
        refine kRt ?_
        have h_ := some_inj h
        subst h_
        exact kFr
       ·rcases br_inv h with ⟨b2_8, h⟩ | ⟨b2_8, h⟩
        ·refine kRs 15 [Tm 122 (bv true)] (rp 42 (.b false) (rp 54 (.b true) [])) (.r 6 b2_1 (.r 6 b2_2 (.r 6 b2_3 (.r 6 b2_4 (.r 6 b2_5 (.r 6 b2_6 (.r 6 b2_7 (.r 6 b2_8 (.r 48 rT .n))))))))) ?_
         refine kCt rT ?_
         refine kRs 0 [Tm 4 (bv false)] [] .n ?_
         refine kRt ?_
         have h_ := some_inj h
         subst h_
         exact kFr
        ·rcases br_inv h with ⟨b2_9, h⟩ | ⟨b2_9, h⟩
         ·refine kRs 15 [Tm 122 (bv true)] (rp 48 (.b false) (rp 48 (.b true) [])) (.r 6 b2_1 (.r 6 b2_2 (.r 6 b2_3 (.r 6 b2_4 (.r 6 b2_5 (.r 6 b2_6 (.r 6 b2_7 (.r 6 b2_8 (.r 6 b2_9 (.r 42 rT .n)))))))))) ?_
          refine kCt rT ?_
          refine kRs 0 [Tm 4 (bv false)] [] .n ?_
          refine kRt ?_
          have h_ := some_inj h
          subst h_
          exact kFr
         ·rcases br_inv h with ⟨b2_10, h⟩ | ⟨b2_10, h⟩
          ·refine kRs 15 [Tm 122 (bv true)] (rp 54 (.b false) (rp 42 (.b true) [])) (.r 6 b2_1 (.r 6 b2_2 (.r 6 b2_3 (.r 6 b2_4 (.r 6 b2_5 (.r 6 b2_6 (.r 6 b2_7 (.r 6 b2_8 (.r 6 b2_9 (.r 6 b2_10 (.r 36 rT .n))))))))))) ?_
           refine kCt rT ?_
           refine kRs 0 [Tm 4 (bv false)] [] .n ?_
           refine kRt ?_
           have h_ := some_inj h
           subst h_
           exact kFr
          ·rcases br_inv h with ⟨b2_11, h⟩ | ⟨b2_11, h⟩
           ·refine kRs 15 [Tm 122 (bv true)] (rp 60 (.b false) (rp 36 (.b true) [])) (.r 6 b2_1 (.r 6 b2_2 (.r 6 b2_3 (.r 6 b2_4 (.r 6 b2_5 (.r 6 b2_6 (.r 6 b2_7 (.r 6 b2_8 (.r 6 b2_9 (.r 6 b2_10 (.r 6 b2_11 (.r 30 rT .n)))))))))))) ?_
            refine kCt rT ?_
            refine kRs 0 [Tm 4 (bv false)] [] .n ?_
            refine kRt ?_
            have h_ := some_inj h
            subst h_
            exact kFr
           ·rcases br_inv h with ⟨b2_12, h⟩ | ⟨b2_12, h⟩
            ·refine kRs 15 [Tm 122 (bv true)] (rp 66 (.b false) (rp 30 (.b true) [])) (.r 6 b2_1 (.r 6 b2_2 (.r 6 b2_3 (.r 6 b2_4 (.r 6 b2_5 (.r 6 b2_6 (.r 6 b2_7 (.r 6 b2_8 (.r 6 b2_9 (.r 6 b2_10 (.r 6 b2_11 (.r 6 b2_12 (.r 24 rT .n))))))))))))) ?_
             refine kCt rT ?_
             refine kRs 0 [Tm 4 (bv false)] [] .n ?_
             refine kRt ?_
             have h_ := some_inj h
             subst h_
             exact kFr
            ·rcases br_inv h with ⟨b2_13, h⟩ | ⟨b2_13, h⟩
             ·refine kRs 15 [Tm 122 (bv true)] (rp 72 (.b false) (rp 24 (.b true) [])) (.r 6 b2_1 (.r 6 b2_2 (.r 6 b2_3 (.r 6 b2_4 (.r 6 b2_5 (.r 6 b2_6 (.r 6 b2_7 (.r 6 b2_8 (.r 6 b2_9 (.r 6 b2_10 (.r 6 b2_11 (.r 6 b2_12 (.r 6 b2_13 (.r 18 rT .n)))))))))))))) ?_
              refine kCt rT ?_
              refine kRs 0 [Tm 4 (bv false)] [] .n ?_
              refine kRt ?_
              have h_ := some_inj h
              subst h_
              exact kFr
             ·rcases br_inv h with ⟨b2_14, h⟩ | ⟨b2_14, h⟩
              ·refine kRs 15 [Tm 122 (bv true)] (rp 78 (.b false) (rp 18 (.b true) [])) (.r 6 b2_1 (.r 6 b2_2 (.r 6 b2_3 (.r 6 b2_4 (.r 6 b2_5 (.r 6 b2_6 (.r 6 b2_7 (.r 6 b2_8 (.r 6 b2_9 (.r 6 b2_10 (.r 6 b2_11 (.r 6 b2_12 (.r 6 b2_13 (.r 6 b2_14 (.r 12 rT .n))))))))))))))) ?_
               refine kCt rT ?_
               refine kRs 0 [Tm 4 (bv false)] [] .n ?_
               refine kRt ?_
               have h_ := some_inj h
               subst h_
               exact kFr
              ·rcases br_inv h with ⟨b2_15, h⟩ | ⟨b2_15, h⟩
               ·refine kRs 15 [Tm 122 (bv true)] (rp 84 (.b false) (rp 12 (.b true) [])) (.r 6 b2_1 (.r 6 b2_2 (.r 6 b2_3 (.r 6 b2_4 (.r 6 b2_5 (.r 6 b2_6 (.r 6 b2_7 (.r 6 b2_8 (.r 6 b2_9 (.r 6 b2_10 (.r 6 b2_11 (.r 6 b2_12 (.r 6 b2_13 (.r 6 b2_14 (.r 6 b2_15 (.r 6 rT .n)))))))))))))))) ?_
                refine kCt rT ?_
                refine kRs 0 [Tm 4 (bv false)] [] .n ?_
                refine kRt ?_
                have h_ := some_inj h
                subst h_
                exact kFr
               ·rcases br_inv h with ⟨b2_16, h⟩ | ⟨b2_16, h⟩
                ·refine kRs 15 [Tm 122 (bv true)] (rp 90 (.b false) (rp 6 (.b true) [])) (.r 6 b2_1 (.r 6 b2_2 (.r 6 b2_3 (.r 6 b2_4 (.r 6 b2_5 (.r 6 b2_6 (.r 6 b2_7 (.r 6 b2_8 (.r 6 b2_9 (.r 6 b2_10 (.r 6 b2_11 (.r 6 b2_12 (.r 6 b2_13 (.r 6 b2_14 (.r 6 b2_15 (.r 6 b2_16 .n)))))))))))))))) ?_
                 refine kCt rT ?_
                 refine kRs 0 [Tm 4 (bv false)] [] .n ?_
                 refine kRt ?_
                 have h_ := some_inj h
                 subst h_
                 exact kFr
                ·refine kRs 15 [Tm 122 (bv (a.Err != b.Err))] (rp 96 (.b false) []) (.r 6 b2_1 (.r 6 b2_2 (.r 6 b2_3 (.r 6 b2_4 (.r 6 b2_5 (.r 6 b2_6 (.r 6 b2_7 (.r 6 b2_8 (.r 6 b2_9 (.r 6 b2_10 (.r 6 b2_11 (.r 6 b2_12 (.r 6 b2_13 (.r 6 b2_14 (.r 6 b2_15 (.r 6 b2_16 .n)))))))))))))))) ?_
                 rcases br_inv h with ⟨b19_0, h⟩ | ⟨b19_0, h⟩
                 ·refine kCt b19_0 ?_
                  refine kRs 0 [Tm 4 (bv false)] [] .n ?_
                  refine kRt ?_
                  have h_ := some_inj h
                  subst h_
                  exact kFr
                 ·refine kCe b19_0 ?_
                  refine kSk ?_
                  refine kCd (cR (cR bd67)) [] ?_
                  refine kSq ?_
                  obtain ⟨r21_1, h21_2, h⟩ := bd_inv h
                  rcases br_inv h with ⟨b21_3, h⟩ | ⟨b21_3, h⟩
                  ·refine kRs 30 [Tm 153 (bv true)] (.a ⟨bv r21_1, []⟩ :: (rp 22 (.b true) [])) (.c (Asks.of (C := Meets Try.prog) (diwanref1_SameEntries.meets fu a.Entries b.Entries _ h21_2)) (.r 7 b21_3 (.r 15 rT .n))) ?_
                   refine kCt rT ?_
                   refine kRs 0 [Tm 4 (bv false)] [] .n ?_
                   refine kRt ?_
                   have h_ := some_inj h
                   subst h_
                   exact kFr
                  ·obtain ⟨r21_4, h21_5, h⟩ := bd_inv h
                   rcases br_inv h with ⟨b21_6, h⟩ | ⟨b21_6, h⟩
                   ·refine kRs 30 [Tm 153 (bv true)] (.a ⟨bv r21_1, []⟩ :: (rp 5 (.b false) (.a ⟨bv r21_4, []⟩ :: (.b false :: (.b false :: (rp 15 (.b true) [])))))) (.c (Asks.of (C := Meets Try.prog) (diwanref1_SameEntries.meets fu a.Entries b.Entries _ h21_2)) (.r 5 b21_3 (.c (Asks.of (C := Meets Try.prog) (diwanref1_SameTxn.meets fu a.T b.T _ h21_5)) (.r 2 b21_3 (.r 7 b21_6 (.r 8 rT .n)))))) ?_
                    refine kCt rT ?_
                    refine kRs 0 [Tm 4 (bv false)] [] .n ?_
                    refine kRt ?_
                    have h_ := some_inj h
                    subst h_
                    exact kFr
                   ·obtain ⟨r21_7, h21_8, h⟩ := bd_inv h
                    rcases br_inv h with ⟨b21_9, h⟩ | ⟨b21_9, h⟩
                    ·refine kRs 30 [Tm 153 (bv true)] (.a ⟨bv r21_1, []⟩ :: (rp 5 (.b false) (.a ⟨bv r21_4, []⟩ :: (rp 7 (.b false) (.a ⟨bv r21_7, []⟩ :: (.b false :: (.b false :: (rp 8 (.b true) [])))))))) (.c (Asks.of (C := Meets Try.prog) (diwanref1_SameEntries.meets fu a.Entries b.Entries _ h21_2)) (.r 5 b21_3 (.c (Asks.of (C := Meets Try.prog) (diwanref1_SameTxn.meets fu a.T b.T _ h21_5)) (.r 2 b21_3 (.r 5 b21_6 (.c (Asks.of (C := Meets Try.prog) (diwanref1_SameReads.meets fu a.Got b.Got _ h21_8)) (.r 2 b21_6 (.r 8 b21_9 .n)))))))) ?_
                     refine kCt rT ?_
                     refine kRs 0 [Tm 4 (bv false)] [] .n ?_
                     refine kRt ?_
                     have h_ := some_inj h
                     subst h_
                     exact kFr
                    ·refine kRs 30 [Tm 153 (bv ((a.Keys.length : Int) != (b.Keys.length : Int)))] (.a ⟨bv r21_1, []⟩ :: (rp 5 (.b false) (.a ⟨bv r21_4, []⟩ :: (rp 7 (.b false) (.a ⟨bv r21_7, []⟩ :: (rp 5 (.b false) [.s (.t 148) [iv (a.Keys.length : Int)], .b false, .b false, .b false, .s (.t 151) [iv (b.Keys.length : Int)], .b false, .b false])))))) (.c (Asks.of (C := Meets Try.prog) (diwanref1_SameEntries.meets fu a.Entries b.Entries _ h21_2)) (.r 5 b21_3 (.c (Asks.of (C := Meets Try.prog) (diwanref1_SameTxn.meets fu a.T b.T _ h21_5)) (.r 2 b21_3 (.r 5 b21_6 (.c (Asks.of (C := Meets Try.prog) (diwanref1_SameReads.meets fu a.Got b.Got _ h21_8)) (.r 2 b21_6 (.r 3 b21_9 (.c (c_len (e := e_s) (l := a.Keys)) (.r 3 b21_9 (.c (c_len (e := e_s) (l := b.Keys)) (.r 2 b21_9 .n)))))))))))) ?_
                     rcases br_inv h with ⟨b25_0, h⟩ | ⟨b25_0, h⟩
                     ·refine kCt b25_0 ?_
                      refine kRs 0 [Tm 4 (bv false)] [] .n ?_
                      refine kRt ?_
                      have h_ := some_inj h
                      subst h_
                      exact kFr
                     ·refine kCe b25_0 ?_
                      refine kSk ?_
                      refine kCd (cR (cR (cR bd67))) [] ?_
                      refine kSq ?_
                      refine kRs 30 [Tm 5 (iv 0)] [] .n ?_
                      refine kBk 0 ?_
                      obtain ⟨o35, ho35, h⟩ := bd_inv h
                      refine kUs (diwanref1_SameMsg.lp28_ok fu a b _ 0 _ ho35) ?_
                      intro e_ τ_ hp_
                      rcases o35 with o35 | o35
                      ·obtain ⟨⟩ := o35
                       obtain ⟨rfl, rfl⟩ := hp_
                       refine kCd (cR (cR (cR (cR bd67)))) [] ?_
                       refine kRs 0 [Tm 4 (bv true)] [] .n ?_
                       refine kRt ?_
                       have h_ := some_inj h
                       subst h_
                       exact kFr
                      ·obtain ⟨⟩ := o35
                       obtain ⟨rfl, rfl⟩ := hp_
                       have h_ := some_inj h
                       subst h_
                       exact kFr
def bd34 : Code := (Try.f34.body).getD .skip
def diwanlaw11_sameLetters.O : Nat → Nat := fun t => bif ([4, 5] : List Nat).any (Nat.beq t) then 1 else 0
def diwanlaw11_sameLetters.lp6 (fu : Nat) (l6_0 : List TMsg) (l6_1 : List TMsg) : Nat → Int → Option (Unit ⊕ Unit)
  | 0, _ => none
  | n_ + 1, l6_2 =>
  br (decide (l6_2 < (l6_0.length : Int)))
   (ix l6_0 l6_2 fun x9_1 =>
   ix l6_1 l6_2 fun x9_4 =>
   bd (diwanref1_SameMsg fu x9_1 x9_4) fun r9_7 =>
   br (!r9_7)
    (some (.inr ()))
    (diwanlaw11_sameLetters.lp6 fu l6_0 l6_1 n_ (w64 (l6_2 + 1))))
   (some (.inl ()))
def diwanlaw11_sameLetters.lp6_post (l6_0 : List TMsg) (l6_1 : List TMsg) (r_ : (Unit ⊕ Unit)) : Wy → St → Prop := fun e τ => match r_ with
  | .inl _ => e = .exit 0 ∧ τ = ofL []
  | .inr _ => e = .ret ∧ τ = ofL [Tm 4 (bv false)]
theorem diwanlaw11_sameLetters.lp6_ok (fu : Nat) (l6_0 : List TMsg) (l6_1 : List TMsg) : ∀ (n_ : Nat) (l6_2 : Int) (r_ : (Unit ⊕ Unit)), diwanlaw11_sameLetters.lp6 fu l6_0 l6_1 n_ l6_2 = some r_ → WK Try.prog diwanlaw11_sameLetters.O (Ck Try.prog) (cB (cR (cL (cR (cR bd34))))) [] (ofL [Tm 0 (sS 24 TMsg.en l6_0), Tm 1 (sS 24 TMsg.en l6_1), Tm 5 (iv l6_2)]) (diwanlaw11_sameLetters.lp6_post l6_0 l6_1 r_) := by
 intro n_
 induction n_ with
 | zero => intro l6_2 r_ h; exact no_none h
 | succ n_ ih =>
  intro l6_2 r_ h
  refine kLp ?_
  refine kSq ?_
  refine kRs 7 [Tm 14 (bv (decide (l6_2 < (l6_0.length : Int))))] [.s (.t 13) [iv (l6_0.length : Int)]] (.c (c_len (e := TMsg.en) (l := l6_0)) .n) ?_
  rcases br_inv h with ⟨b8_0, h⟩ | ⟨b8_0, h⟩
  ·refine kCt b8_0 ?_
   refine kSk ?_
   refine kCd (cR (cB (cB (cR (cL (cR (cR bd34))))))) [.lp (cB (cR (cL (cR (cR bd34)))))] ?_
   refine kSq ?_
   refine kBk 1 ?_
   obtain ⟨x9_1, a9_2, e9_3, h⟩ := ix_inv h
   obtain ⟨x9_4, a9_5, e9_6, h⟩ := ix_inv h
   obtain ⟨r9_7, h9_8, h⟩ := bd_inv h
   refine kRs 14 [Tm 26 (bv (!r9_7))] [.c (TMsg.en x9_1), .c (TMsg.en x9_4), .a ⟨bv r9_7, []⟩] (.c (c_ix (e := TMsg.en) a9_2 e9_3) (.c (c_el (e := TMsg.en) e9_3) (.c (c_ix (e := TMsg.en) a9_5 e9_6) (.c (c_el (e := TMsg.en) e9_6) (.c (Asks.of (C := Meets Try.prog) (diwanref1_SameMsg.meets fu x9_1 x9_4 _ h9_8)) (.c rT .n)))))) ?_
   rcases br_inv h with ⟨b10_0, h⟩ | ⟨b10_0, h⟩
   ·refine kCt b10_0 ?_
    refine kRs 0 [Tm 4 (bv false)] [] .n ?_
    cases some_inj h
    refine kWo ?_
    refine kRt ?_
    exact kOut
   ·refine kCe b10_0 ?_
    refine kSk ?_
    refine kCd (cR (cR (cB (cB (cR (cL (cR (cR bd34)))))))) [.lp (cB (cR (cL (cR (cR bd34)))))] ?_
    refine kRc 6 [Tm 5 (iv (w64 (l6_2 + 1)))] [] .n (cB (cR (cL (cR (cR bd34))))) [] ?_
    exact kWk (ih (w64 (l6_2 + 1)) _ h)
  ·refine kCe b8_0 ?_
   cases some_inj h
   refine kWo ?_
   refine kXt 0 ?_
   exact kOut
def diwanlaw11_sameLetters (fu : Nat) (a : List TMsg) (b : List TMsg) : Option Bool :=
 br ((a.length : Int) != (b.length : Int))
  (some false)
  (bd (diwanlaw11_sameLetters.lp6 fu a b fu 0) fun o_ => (match o_ with
  | .inl _ =>
   some true
  | .inr _ =>
   some false))
theorem diwanlaw11_sameLetters.meets (fu : Nat) (a : List TMsg) (b : List TMsg) (z0 : Bool) (h : diwanlaw11_sameLetters fu a b = some z0) : Meets Try.prog ⟨34, [sS 24 TMsg.en a, sS 24 TMsg.en b], []⟩ ⟨bv z0, []⟩ := by
 refine kMt hmix diwanlaw11_sameLetters.O Try.f34 bd34 3 ?_
 unfold diwanlaw11_sameLetters at h
 refine kRs 3 [] [] .n ?_
 refine kSq ?_
 refine kRs 3 [Tm 10 (bv ((a.length : Int) != (b.length : Int)))] [.s (.t 7) [iv (a.length : Int)], .s (.t 9) [iv (b.length : Int)]] (.c (c_len (e := TMsg.en) (l := a)) (.c (c_len (e := TMsg.en) (l := b)) .n)) ?_
 rcases br_inv h with ⟨b3_0, h⟩ | ⟨b3_0, h⟩
 ·refine kCt b3_0 ?_
  refine kRs 0 [Tm 4 (bv false)] [] .n ?_
  refine kRt ?_
  have h_ := some_inj h
  subst h_
  exact kFr
 ·refine kCe b3_0 ?_
  refine kSk ?_
  refine kCd (cR (cR bd34)) [] ?_
  refine kSq ?_
  refine kRs 6 [Tm 5 (iv 0)] [] .n ?_
  refine kBk 0 ?_
  obtain ⟨o13, ho13, h⟩ := bd_inv h
  refine kUs (diwanlaw11_sameLetters.lp6_ok fu a b _ 0 _ ho13) ?_
  intro e_ τ_ hp_
  rcases o13 with o13 | o13
  ·obtain ⟨⟩ := o13
   obtain ⟨rfl, rfl⟩ := hp_
   refine kCd (cR (cR (cR bd34))) [] ?_
   refine kRs 0 [Tm 4 (bv true)] [] .n ?_
   refine kRt ?_
   have h_ := some_inj h
   subst h_
   exact kFr
  ·obtain ⟨⟩ := o13
   obtain ⟨rfl, rfl⟩ := hp_
   have h_ := some_inj h
   subst h_
   exact kFr
def bd8 : Code := (Try.f8.body).getD .skip
def diwanlaw11_RaftAll.O : Nat → Nat := fun t => bif ([4, 5, 6, 7, 8, 9, 10, 11, 12, 13, 14, 15, 16, 17, 18, 19, 20, 21, 22, 23, 36, 62, 67, 73, 78, 83, 90, 95, 101, 108] : List Nat).any (Nat.beq t) then 1 else 0
def diwanlaw11_RaftAll.lp17 (fu : Nat) : Nat → Int → TRaft → TPicks → Option (Unit ⊕ Unit)
  | 0, _, _, _ => none
  | n_ + 1, l17_0, l17_1, l17_2 =>
  br (decide (l17_0 < 6))
   (bd (diwanplay_Picks_Letter fu l17_1 l17_2) fun (r20_1, r20_2) =>
   bd (raft_Take fu l17_1 r20_1) fun (r21_1, r21_2) =>
   bd (diwanref11_Take fu l17_1 r20_1) fun (r22_1, r22_2) =>
   bd (raft_Tick fu l17_1) fun (r23_1, r23_2) =>
   bd (diwanref11_Tick fu l17_1) fun (r24_1, r24_2) =>
   bd (diwanplay_Picks_Num 2 r20_2) fun (r25_1, r25_2) =>
   bd (diwanplay_Picks_Num 5 r25_2) fun (r25_4, r25_5) =>
   jn (fun (j29_10 : TEntry) (j29_11 : TPicks) =>
    bd (raft_Propose fu l17_1 j29_10) fun (r30_1, r30_2, r30_3) =>
    bd (diwanref11_Propose fu l17_1 j29_10) fun (r31_1, r31_2, r31_3) =>
    bd (diwanref11_Same fu r21_1 r22_1) fun r32_1 =>
    br (!r32_1)
     (some (.inr ()))
     (bd (diwanlaw11_sameLetters fu r21_2 r22_2) fun r32_4 =>
     br (!r32_4)
      (some (.inr ()))
      (bd (diwanref11_Same fu r23_1 r24_1) fun r32_7 =>
      br (!r32_7)
       (some (.inr ()))
       (bd (diwanlaw11_sameLetters fu r23_2 r24_2) fun r32_10 =>
       br (!r32_10)
        (some (.inr ()))
        (bd (diwanref11_Same fu r30_1 r31_1) fun r32_13 =>
        br (!r32_13)
         (some (.inr ()))
         (bd (diwanlaw11_sameLetters fu r30_2 r31_2) fun r32_16 =>
         br (!r32_16)
          (some (.inr ()))
          (br (!(r30_3 == r31_3))
           (some (.inr ()))
           (bd (diwanplay_Picks_Num 4 j29_11) fun (r41_1, r41_2) =>
           ix ([r22_1, r22_1, r24_1, r31_1] : List TRaft) r41_1 fun x41_4 =>
           diwanlaw11_RaftAll.lp17 fu n_ (w64 (l17_0 + 1)) x41_4 r41_2)))))))) fun k29 =>
   br (!(r25_1 == 0))
    (bd (diwanplay_Picks_Txn fu 5 r25_5) fun (r28_1, r28_2) =>
    k29 (TEntry.mk r25_4 (r25_1 == 0) r28_1) r28_2)
    (k29 (TEntry.mk r25_4 (r25_1 == 0) (TTxn.mk 0 0 [] [])) r25_5))
   (some (.inl ()))
def diwanlaw11_RaftAll.lp17_post (r_ : (Unit ⊕ Unit)) : Wy → St → Prop := fun e τ => match r_ with
  | .inl _ => e = .exit 0 ∧ τ = ofL []
  | .inr _ => e = .ret ∧ τ = ofL [Tm 4 (bv false)]
theorem diwanlaw11_RaftAll.lp17_ok (fu : Nat) : ∀ (n_ : Nat) (l17_0 : Int) (l17_1 : TRaft) (l17_2 : TPicks) (r_ : (Unit ⊕ Unit)), diwanlaw11_RaftAll.lp17 fu n_ l17_0 l17_1 l17_2 = some r_ → WK Try.prog diwanlaw11_RaftAll.O (Ck Try.prog) (cB (cR (cL (cR (cR (cR (cR (cR (cR bd8))))))))) [] (ofL [Tm 5 (.ptr 5 0), Tm 6 (.ptr 2304 0), Tm 7 (iv l17_0), Ob 5 (TRaft.ob l17_1), Ob 2304 [sS 1 e_u8 l17_2.l, iv l17_2.n]]) (diwanlaw11_RaftAll.lp17_post r_) := by
 intro n_
 induction n_ with
 | zero => intro l17_0 l17_1 l17_2 r_ h; exact no_none h
 | succ n_ ih =>
  intro l17_0 l17_1 l17_2 r_ h
  refine kLp ?_
  refine kSq ?_
  refine kRs 31 [Tm 57 (bv (decide (l17_0 < 6)))] [] .n ?_
  rcases br_inv h with ⟨b19_0, h⟩ | ⟨b19_0, h⟩
  ·refine kCt b19_0 ?_
   refine kSk ?_
   refine kCd (cR (cB (cB (cR (cL (cR (cR (cR (cR (cR (cR bd8))))))))))) [.lp (cB (cR (cL (cR (cR (cR (cR (cR (cR bd8)))))))))] ?_
   refine kSq ?_
   refine kBk 1 ?_
   obtain ⟨⟨r20_1, r20_2⟩, h20_3, h⟩ := bd_inv h
   refine kRs 30 [Tm 8 (.ptr 8 0), Ob 8 (TMsg.ob_00000000010011000000011 r20_1), Ob 2304 [sS 1 e_u8 r20_2.l, iv r20_2.n]] [.a ⟨.data (TMsg.ag_00000000010011000000011 r20_1), [[sS 1 e_u8 r20_2.l, iv r20_2.n]]⟩] (.c (Asks.of (C := Meets Try.prog) (diwanplay_Picks_Letter.meets fu l17_1 l17_2 _ _ h20_3)) .n) ?_
   obtain ⟨⟨r21_1, r21_2⟩, h21_3, h⟩ := bd_inv h
   refine kRs 125 [Tm 9 (.ptr 9 0), Tm 10 (sS 24 TMsg.en r21_2), Ob 8 (TMsg.ob r20_1), Ob 9 (TRaft.ob r21_1)] [.a ⟨.tup [.data (TRaft.ag r21_1), sS 24 TMsg.en r21_2], []⟩] (.c (Asks.of (C := Meets Try.prog) (raft_Take.meets fu l17_1 r20_1 _ _ h21_3)) .n) ?_
   obtain ⟨⟨r22_1, r22_2⟩, h22_3, h⟩ := bd_inv h
   refine kRs 1003 [Tm 11 (.ptr 11 0), Tm 12 (sS 24 TMsg.en r22_2), Ob 11 (TRaft.ob r22_1)] [.a ⟨.tup [.data (TRaft.ag r22_1), sS 24 TMsg.en r22_2], []⟩] (.c (Asks.of (C := Meets Try.prog) (diwanref11_Take.meets fu l17_1 r20_1 _ _ h22_3)) .n) ?_
   obtain ⟨⟨r23_1, r23_2⟩, h23_3, h⟩ := bd_inv h
   refine kRs 2047 [Tm 13 (.ptr 13 0), Tm 14 (sS 24 TMsg.en r23_2), Ob 13 (TRaft.ob r23_1)] [.a ⟨.tup [.data (TRaft.ag r23_1), sS 24 TMsg.en r23_2], []⟩] (.c (Asks.of (C := Meets Try.prog) (raft_Tick.meets fu l17_1 _ _ h23_3)) .n) ?_
   obtain ⟨⟨r24_1, r24_2⟩, h24_3, h⟩ := bd_inv h
   refine kRs 16383 [Tm 15 (.ptr 15 0), Tm 16 (sS 24 TMsg.en r24_2), Ob 15 (TRaft.ob r24_1)] [.a ⟨.tup [.data (TRaft.ag r24_1), sS 24 TMsg.en r24_2], []⟩] (.c (Asks.of (C := Meets Try.prog) (diwanref11_Tick.meets fu l17_1 _ _ h24_3)) .n) ?_
   obtain ⟨⟨r25_1, r25_2⟩, h25_3, h⟩ := bd_inv h
   obtain ⟨⟨r25_4, r25_5⟩, h25_6, h⟩ := bd_inv h
   refine kRs 126975 [Tm 17 (.ptr 17 0), Ob 17 (TEntry.ob_000011 (TEntry.mk r25_4 (r25_1 == 0) (TTxn.mk 0 0 [] []))), Ob 2304 [sS 1 e_u8 r25_5.l, iv r25_5.n]] [.a ⟨iv r25_1, [[sS 1 e_u8 r25_2.l, iv r25_2.n]]⟩, .a ⟨iv r25_4, [[sS 1 e_u8 r25_5.l, iv r25_5.n]]⟩] (.c (Asks.of (C := Meets Try.prog) (diwanplay_Picks_Num.meets 2 r20_2 _ _ h25_3)) (.c (Asks.of (C := Meets Try.prog) (diwanplay_Picks_Num.meets 5 r25_2 _ _ h25_6)) .n)) ?_
   obtain ⟨k29, hk29, h⟩ := jn_inv h
   have Jk29 : ∀ (j29_10 : TEntry) (j29_11 : TPicks), k29 j29_10 j29_11 = some r_ → WK Try.prog diwanlaw11_RaftAll.O (Ck Try.prog) (cR (cR (cR (cR (cR (cR (cR (cB (cL (cR (cB (cB (cR (cL (cR (cR (cR (cR (cR (cR bd8)))))))))))))))))))) [.blk 1, .seq (cR (cR (cB (cB (cR (cL (cR (cR (cR (cR (cR (cR bd8)))))))))))), .lp (cB (cR (cL (cR (cR (cR (cR (cR (cR bd8)))))))))] (ofL [Tm 5 (.ptr 5 0), Tm 6 (.ptr 2304 0), Tm 7 (iv l17_0), Tm 9 (.ptr 9 0), Tm 10 (sS 24 TMsg.en r21_2), Tm 11 (.ptr 11 0), Tm 12 (sS 24 TMsg.en r22_2), Tm 13 (.ptr 13 0), Tm 14 (sS 24 TMsg.en r23_2), Tm 15 (.ptr 15 0), Tm 16 (sS 24 TMsg.en r24_2), Tm 17 (.ptr 17 0), Ob 5 (TRaft.ob l17_1), Ob 9 (TRaft.ob r21_1), Ob 11 (TRaft.ob r22_1), Ob 13 (TRaft.ob r23_1), Ob 15 (TRaft.ob r24_1), Ob 17 (TEntry.ob_000011 j29_10), Ob 2304 [sS 1 e_u8 j29_11.l, iv j29_11.n]]) (diwanlaw11_RaftAll.lp17_post r_) := by
    intro j29_10 j29_11 h
    rw [hk29] at h
    obtain ⟨⟨r30_1, r30_2, r30_3⟩, h30_4, h⟩ := bd_inv h
    refine kRs 393215 [Tm 18 (.ptr 18 0), Tm 19 (sS 24 TMsg.en r30_2), Tm 20 (bv r30_3), Ob 17 (TEntry.ob j29_10), Ob 18 (TRaft.ob r30_1)] [.a ⟨.tup [.data (TRaft.ag r30_1), sS 24 TMsg.en r30_2, bv r30_3], []⟩] (.c (Asks.of (C := Meets Try.prog) (raft_Propose.meets fu l17_1 j29_10 _ _ _ h30_4)) .n) ?_
    obtain ⟨⟨r31_1, r31_2, r31_3⟩, h31_4, h⟩ := bd_inv h
    refine kRs 8323063 [Tm 21 (.ptr 21 0), Tm 22 (sS 24 TMsg.en r31_2), Tm 23 (bv r31_3), Ob 21 (TRaft.ob r31_1)] [.a ⟨.tup [.data (TRaft.ag r31_1), sS 24 TMsg.en r31_2, bv r31_3], []⟩] (.c (Asks.of (C := Meets Try.prog) (diwanref11_Propose.meets fu l17_1 j29_10 _ _ _ h31_4)) .n) ?_
    refine kSq ?_
    obtain ⟨r32_1, h32_2, h⟩ := bd_inv h
    rcases br_inv h with ⟨b32_3, h⟩ | ⟨b32_3, h⟩
    ·refine kRs 27928329 [Tm 149 (bv true)] (.a ⟨bv r32_1, []⟩ :: (rp 29 (.b true) [])) (.c (Asks.of (C := Meets Try.prog) (diwanref11_Same.meets fu r21_1 r22_1 _ h32_2)) (.r 5 b32_3 (.r 24 rT .n))) ?_
     refine kCt rT ?_
     refine kRs 0 [Tm 4 (bv false)] [] .n ?_
     cases some_inj h
     refine kWo ?_
     refine kRt ?_
     exact kOut
    ·obtain ⟨r32_4, h32_5, h⟩ := bd_inv h
     rcases br_inv h with ⟨b32_6, h⟩ | ⟨b32_6, h⟩
     ·refine kRs 27928329 [Tm 149 (bv true)] (.a ⟨bv r32_1, []⟩ :: (.b false :: (.b false :: (.b false :: (.a ⟨bv r32_4, []⟩ :: (.b false :: (.b false :: (rp 24 (.b true) [])))))))) (.c (Asks.of (C := Meets Try.prog) (diwanref11_Same.meets fu r21_1 r22_1 _ h32_2)) (.r 3 b32_3 (.c (Asks.of (C := Meets Try.prog) (diwanlaw11_sameLetters.meets fu r21_2 r22_2 _ h32_5)) (.r 2 b32_3 (.r 5 b32_6 (.r 19 rT .n)))))) ?_
      refine kCt rT ?_
      refine kRs 0 [Tm 4 (bv false)] [] .n ?_
      cases some_inj h
      refine kWo ?_
      refine kRt ?_
      exact kOut
     ·obtain ⟨r32_7, h32_8, h⟩ := bd_inv h
      rcases br_inv h with ⟨b32_9, h⟩ | ⟨b32_9, h⟩
      ·refine kRs 27928329 [Tm 149 (bv true)] (.a ⟨bv r32_1, []⟩ :: (.b false :: (.b false :: (.b false :: (.a ⟨bv r32_4, []⟩ :: (rp 5 (.b false) (.a ⟨bv r32_7, []⟩ :: (.b false :: (.b false :: (rp 19 (.b true) [])))))))))) (.c (Asks.of (C := Meets Try.prog) (diwanref11_Same.meets fu r21_1 r22_1 _ h32_2)) (.r 3 b32_3 (.c (Asks.of (C := Meets Try.prog) (diwanlaw11_sameLetters.meets fu r21_2 r22_2 _ h32_5)) (.r 2 b32_3 (.r 3 b32_6 (.c (Asks.of (C := Meets Try.prog) (diwanref11_Same.meets fu r23_1 r24_1 _ h32_8)) (.r 2 b32_6 (.r 5 b32_9 (.r 14 rT .n))))))))) ?_
       refine kCt rT ?_
       refine kRs 0 [Tm 4 (bv false)] [] .n ?_
       cases some_inj h
       refine kWo ?_
       refine kRt ?_
       exact kOut
      ·obtain ⟨r32_10, h32_11, h⟩ := bd_inv h
       rcases br_inv h with ⟨b32_12, h⟩ | ⟨b32_12, h⟩
       ·refine kRs 27928329 [Tm 149 (bv true)] (.a ⟨bv r32_1, []⟩ :: (.b false :: (.b false :: (.b false :: (.a ⟨bv r32_4, []⟩ :: (rp 5 (.b false) (.a ⟨bv r32_7, []⟩ :: (rp 5 (.b false) (.a ⟨bv r32_10, []⟩ :: (.b false :: (.b false :: (rp 14 (.b true) [])))))))))))) (.c (Asks.of (C := Meets Try.prog) (diwanref11_Same.meets fu r21_1 r22_1 _ h32_2)) (.r 3 b32_3 (.c (Asks.of (C := Meets Try.prog) (diwanlaw11_sameLetters.meets fu r21_2 r22_2 _ h32_5)) (.r 2 b32_3 (.r 3 b32_6 (.c (Asks.of (C := Meets Try.prog) (diwanref11_Same.meets fu r23_1 r24_1 _ h32_8)) (.r 2 b32_6 (.r 3 b32_9 (.c (Asks.of (C := Meets Try.prog) (diwanlaw11_sameLetters.meets fu r23_2 r24_2 _ h32_11)) (.r 2 b32_9 (.r 5 b32_12 (.r 9 rT .n)))))))))))) ?_
        refine kCt rT ?_
        refine kRs 0 [Tm 4 (bv false)] [] .n ?_
        cases some_inj h
        refine kWo ?_
        refine kRt ?_
        exact kOut
       ·obtain ⟨r32_13, h32_14, h⟩ := bd_inv h
        rcases br_inv h with ⟨b32_15, h⟩ | ⟨b32_15, h⟩
        ·refine kRs 27928329 [Tm 149 (bv true)] (.a ⟨bv r32_1, []⟩ :: (.b false :: (.b false :: (.b false :: (.a ⟨bv r32_4, []⟩ :: (rp 5 (.b false) (.a ⟨bv r32_7, []⟩ :: (rp 5 (.b false) (.a ⟨bv r32_10, []⟩ :: (rp 5 (.b false) (.a ⟨bv r32_13, []⟩ :: (.b false :: (.b false :: (rp 9 (.b true) [])))))))))))))) (.c (Asks.of (C := Meets Try.prog) (diwanref11_Same.meets fu r21_1 r22_1 _ h32_2)) (.r 3 b32_3 (.c (Asks.of (C := Meets Try.prog) (diwanlaw11_sameLetters.meets fu r21_2 r22_2 _ h32_5)) (.r 2 b32_3 (.r 3 b32_6 (.c (Asks.of (C := Meets Try.prog) (diwanref11_Same.meets fu r23_1 r24_1 _ h32_8)) (.r 2 b32_6 (.r 3 b32_9 (.c (Asks.of (C := Meets Try.prog) (diwanlaw11_sameLetters.meets fu r23_2 r24_2 _ h32_11)) (.r 2 b32_9 (.r 3 b32_12 (.c (Asks.of (C := Meets Try.prog) (diwanref11_Same.meets fu r30_1 r31_1 _ h32_14)) (.r 2 b32_12 (.r 5 b32_15 (.r 4 rT .n))))))))))))))) ?_
         refine kCt rT ?_
         refine kRs 0 [Tm 4 (bv false)] [] .n ?_
         cases some_inj h
         refine kWo ?_
         refine kRt ?_
         exact kOut
        ·obtain ⟨r32_16, h32_17, h⟩ := bd_inv h
         rcases br_inv h with ⟨b32_18, h⟩ | ⟨b32_18, h⟩
         ·refine kRs 27928329 [Tm 149 (bv true)] (.a ⟨bv r32_1, []⟩ :: (.b false :: (.b false :: (.b false :: (.a ⟨bv r32_4, []⟩ :: (rp 5 (.b false) (.a ⟨bv r32_7, []⟩ :: (rp 5 (.b false) (.a ⟨bv r32_10, []⟩ :: (rp 5 (.b false) (.a ⟨bv r32_13, []⟩ :: (rp 5 (.b false) (.a ⟨bv r32_16, []⟩ :: (.b false :: (.b false :: (rp 4 (.b true) [])))))))))))))))) (.c (Asks.of (C := Meets Try.prog) (diwanref11_Same.meets fu r21_1 r22_1 _ h32_2)) (.r 3 b32_3 (.c (Asks.of (C := Meets Try.prog) (diwanlaw11_sameLetters.meets fu r21_2 r22_2 _ h32_5)) (.r 2 b32_3 (.r 3 b32_6 (.c (Asks.of (C := Meets Try.prog) (diwanref11_Same.meets fu r23_1 r24_1 _ h32_8)) (.r 2 b32_6 (.r 3 b32_9 (.c (Asks.of (C := Meets Try.prog) (diwanlaw11_sameLetters.meets fu r23_2 r24_2 _ h32_11)) (.r 2 b32_9 (.r 3 b32_12 (.c (Asks.of (C := Meets Try.prog) (diwanref11_Same.meets fu r30_1 r31_1 _ h32_14)) (.r 2 b32_12 (.r 3 b32_15 (.c (Asks.of (C := Meets Try.prog) (diwanlaw11_sameLetters.meets fu r30_2 r31_2 _ h32_17)) (.r 2 b32_15 (.r 4 b32_18 .n))))))))))))))))) ?_
          refine kCt rT ?_
          refine kRs 0 [Tm 4 (bv false)] [] .n ?_
          cases some_inj h
          refine kWo ?_
          refine kRt ?_
          exact kOut
         ·refine kRs 27928329 [Tm 149 (bv (!(r30_3 == r31_3)))] (.a ⟨bv r32_1, []⟩ :: (.b false :: (.b false :: (.b false :: (.a ⟨bv r32_4, []⟩ :: (rp 5 (.b false) (.a ⟨bv r32_7, []⟩ :: (rp 5 (.b false) (.a ⟨bv r32_10, []⟩ :: (rp 5 (.b false) (.a ⟨bv r32_13, []⟩ :: (rp 5 (.b false) (.a ⟨bv r32_16, []⟩ :: (rp 6 (.b false) [])))))))))))))) (.c (Asks.of (C := Meets Try.prog) (diwanref11_Same.meets fu r21_1 r22_1 _ h32_2)) (.r 3 b32_3 (.c (Asks.of (C := Meets Try.prog) (diwanlaw11_sameLetters.meets fu r21_2 r22_2 _ h32_5)) (.r 2 b32_3 (.r 3 b32_6 (.c (Asks.of (C := Meets Try.prog) (diwanref11_Same.meets fu r23_1 r24_1 _ h32_8)) (.r 2 b32_6 (.r 3 b32_9 (.c (Asks.of (C := Meets Try.prog) (diwanlaw11_sameLetters.meets fu r23_2 r24_2 _ h32_11)) (.r 2 b32_9 (.r 3 b32_12 (.c (Asks.of (C := Meets Try.prog) (diwanref11_Same.meets fu r30_1 r31_1 _ h32_14)) (.r 2 b32_12 (.r 3 b32_15 (.c (Asks.of (C := Meets Try.prog) (diwanlaw11_sameLetters.meets fu r30_2 r31_2 _ h32_17)) (.r 2 b32_15 (.r 4 b32_18 .n))))))))))))))))) ?_
          rcases br_inv h with ⟨b39_0, h⟩ | ⟨b39_0, h⟩
          ·refine kCt b39_0 ?_
           refine kRs 0 [Tm 4 (bv false)] [] .n ?_
           cases some_inj h
           refine kWo ?_
           refine kRt ?_
           exact kOut
          ·refine kCe b39_0 ?_
           refine kSk ?_
           refine kCd (cR (cR (cR (cR (cR (cR (cR (cR (cR (cR (cB (cL (cR (cB (cB (cR (cL (cR (cR (cR (cR (cR (cR bd8))))))))))))))))))))))) [.blk 1, .seq (cR (cR (cB (cB (cR (cL (cR (cR (cR (cR (cR (cR bd8)))))))))))), .lp (cB (cR (cL (cR (cR (cR (cR (cR (cR bd8)))))))))] ?_
           obtain ⟨⟨r41_1, r41_2⟩, h41_3, h⟩ := bd_inv h
           obtain ⟨x41_4, a41_5, e41_6, h⟩ := ix_inv h
           refine kRc 56 [Ob 5 (TRaft.ob x41_4), Ob 2304 [sS 1 e_u8 r41_2.l, iv r41_2.n]] [.a ⟨iv r41_1, [[sS 1 e_u8 r41_2.l, iv r41_2.n]]⟩, .c (TRaft.en x41_4)] (.c (Asks.of (C := Meets Try.prog) (diwanplay_Picks_Num.meets 4 j29_11 _ _ h41_3)) (.c (c_ix (e := TRaft.en) a41_5 e41_6) (.c (c_el (e := TRaft.en) e41_6) (.c rT .n)))) (cR (cR (cB (cB (cR (cL (cR (cR (cR (cR (cR (cR bd8)))))))))))) [.lp (cB (cR (cL (cR (cR (cR (cR (cR (cR bd8)))))))))] ?_
           refine kRc 15 [Tm 7 (iv (w64 (l17_0 + 1)))] [] .n (cB (cR (cL (cR (cR (cR (cR (cR (cR bd8))))))))) [] ?_
           exact kWk (ih (w64 (l17_0 + 1)) x41_4 r41_2 _ h)
   clear hk29
   refine kSq ?_
   refine kRs 524287 [Tm 93 (bv (!(r25_1 == 0)))] [] .n ?_
   rcases br_inv h with ⟨b27_0, h⟩ | ⟨b27_0, h⟩
   ·refine kCt b27_0 ?_
    obtain ⟨⟨r28_1, r28_2⟩, h28_3, h⟩ := bd_inv h
    refine kRc 1048562 [Ob 17 (TEntry.ob_000011 (TEntry.mk r25_4 (r25_1 == 0) r28_1)), Ob 2304 [sS 1 e_u8 r28_2.l, iv r28_2.n]] [.a ⟨.data (TTxn.ag_0011 r28_1), [[sS 1 e_u8 r28_2.l, iv r28_2.n]]⟩] (.c (Asks.of (C := Meets Try.prog) (diwanplay_Picks_Txn.meets fu 5 r25_5 _ _ h28_3)) .n) (cR (cR (cR (cR (cR (cR (cR (cB (cL (cR (cB (cB (cR (cL (cR (cR (cR (cR (cR (cR bd8)))))))))))))))))))) [.blk 1, .seq (cR (cR (cB (cB (cR (cL (cR (cR (cR (cR (cR (cR bd8)))))))))))), .lp (cB (cR (cL (cR (cR (cR (cR (cR (cR bd8)))))))))] ?_
    exact kWk (Jk29 (TEntry.mk r25_4 (r25_1 == 0) r28_1) r28_2 h)
   ·refine kCe b27_0 ?_
    refine kSk ?_
    refine kCd (cR (cR (cR (cR (cR (cR (cR (cB (cL (cR (cB (cB (cR (cL (cR (cR (cR (cR (cR (cR bd8)))))))))))))))))))) [.blk 1, .seq (cR (cR (cB (cB (cR (cL (cR (cR (cR (cR (cR (cR bd8)))))))))))), .lp (cB (cR (cL (cR (cR (cR (cR (cR (cR bd8)))))))))] ?_
    exact kWk (Jk29 (TEntry.mk r25_4 (r25_1 == 0) (TTxn.mk 0 0 [] [])) r25_5 h)
  ·refine kCe b19_0 ?_
   cases some_inj h
   refine kWo ?_
   refine kXt 0 ?_
   exact kOut
def diwanlaw11_RaftAll (fu : Nat) (picks : List Int) (more : List Int) : Option Bool :=
 bd (diwanlaw11_begun fu) fun r2_1 =>
 br (!r2_1)
  (some false)
  (br (decide ((picks.length : Int) > 120))
   (some true)
   (br (decide ((more.length : Int) > 60))
    (some true)
    (bd (diwanplay_Made picks) fun r9_1 =>
    bd (diwanplay_Picks_Raft fu r9_1) fun (r9_3, r9_4) =>
    bd (diwanplay_Made more) fun r10_1 =>
    bd (raft_May fu r9_3) fun r11_1 =>
    br (!r11_1)
     (some false)
     (bd (raft_Same fu r9_3 r9_3) fun r11_4 =>
     br (!r11_4)
      (some false)
      (bd (raft_Again fu r9_3) fun r11_7 =>
      bd (diwanref11_Again r9_3) fun r11_9 =>
      bd (diwanref11_Same fu r11_7 r11_9) fun r11_11 =>
      br (!r11_11)
       (some false)
       (bd (diwanlaw11_RaftAll.lp17 fu fu 0 r9_3 r10_1) fun o_ => (match o_ with
       | .inl _ =>
        some true
       | .inr _ =>
        some false)))))))
theorem diwanlaw11_RaftAll.meets (fu : Nat) (picks : List Int) (more : List Int) (z0 : Bool) (h : diwanlaw11_RaftAll fu picks more = some z0) : Meets Try.prog ⟨8, [sS 1 e_u8 picks, sS 1 e_u8 more], []⟩ ⟨bv z0, []⟩ := by
 refine kMt hmix diwanlaw11_RaftAll.O Try.f8 bd8 3 ?_
 unfold diwanlaw11_RaftAll at h
 refine kRs 3 [] [] .n ?_
 refine kSq ?_
 obtain ⟨r2_1, h2_2, h⟩ := bd_inv h
 refine kRs 3 [Tm 25 (bv (!r2_1))] [.a ⟨bv r2_1, []⟩] (.c (Asks.of (C := Meets Try.prog) (diwanlaw11_begun.meets fu _ h2_2)) .n) ?_
 rcases br_inv h with ⟨b3_0, h⟩ | ⟨b3_0, h⟩
 ·refine kCt b3_0 ?_
  refine kRs 0 [Tm 4 (bv false)] [] .n ?_
  refine kRt ?_
  have h_ := some_inj h
  subst h_
  exact kFr
 ·refine kCe b3_0 ?_
  refine kSk ?_
  refine kCd (cR (cR bd8)) [] ?_
  refine kSq ?_
  rcases br_inv h with ⟨b5_1, h⟩ | ⟨b5_1, h⟩
  ·refine kRs 6 [Tm 33 (bv true)] (.s (.t 27) [iv (picks.length : Int)] :: (rp 4 (.b true) [])) (.c (c_len (e := e_u8) (l := picks)) (.r 4 b5_1 .n)) ?_
   refine kCt rT ?_
   refine kRs 0 [Tm 4 (bv true)] [] .n ?_
   refine kRt ?_
   have h_ := some_inj h
   subst h_
   exact kFr
  ·refine kRs 6 [Tm 33 (bv (decide ((more.length : Int) > 60)))] [.s (.t 27) [iv (picks.length : Int)], .b false, .b false, .s (.t 31) [iv (more.length : Int)], .b false, .b false] (.c (c_len (e := e_u8) (l := picks)) (.r 2 b5_1 (.c (c_len (e := e_u8) (l := more)) (.r 2 b5_1 .n)))) ?_
   rcases br_inv h with ⟨b7_0, h⟩ | ⟨b7_0, h⟩
   ·refine kCt b7_0 ?_
    refine kRs 0 [Tm 4 (bv true)] [] .n ?_
    refine kRt ?_
    have h_ := some_inj h
    subst h_
    exact kFr
   ·refine kCe b7_0 ?_
    refine kSk ?_
    refine kCd (cR (cR (cR bd8))) [] ?_
    obtain ⟨r9_1, h9_2, h⟩ := bd_inv h
    obtain ⟨⟨r9_3, r9_4⟩, h9_5, h⟩ := bd_inv h
    refine kRs 4 [Tm 5 (.ptr 5 0), Ob 5 (TRaft.ob_000001000111 r9_3)] [.a ⟨.ptr 1000 0, [[sS 1 e_u8 r9_1.l, iv r9_1.n]]⟩, .a ⟨.data (TRaft.ag_000001000111 r9_3), [[sS 1 e_u8 r9_4.l, iv r9_4.n]]⟩] (.c (Asks.of (C := Meets Try.prog) (diwanplay_Made.meets picks _ h9_2)) (.c (Asks.of (C := Meets Try.prog) (diwanplay_Picks_Raft.meets fu r9_1 _ _ h9_5)) .n)) ?_
    obtain ⟨r10_1, h10_2, h⟩ := bd_inv h
    refine kRs 3 [Tm 6 (.ptr 2304 0), Ob 2304 [sS 1 e_u8 r10_1.l, iv r10_1.n]] [.a ⟨.ptr 1000 0, [[sS 1 e_u8 r10_1.l, iv r10_1.n]]⟩] (.c (Asks.of (C := Meets Try.prog) (diwanplay_Made.meets more _ h10_2)) .n) ?_
    refine kSq ?_
    refine kSo 5 10 7 [Ob 5 (TRaft.ob_000001000101 r9_3)] ?_
    refine kSo 5 11 14 [Ob 5 (TRaft.ob_0000010001 r9_3)] ?_
    refine kSo 5 5 14 [Ob 5 (TRaft.ob_0000000001 r9_3)] ?_
    refine kSo 5 9 14 [Ob 5 (TRaft.ob r9_3)] ?_
    obtain ⟨r11_1, h11_2, h⟩ := bd_inv h
    rcases br_inv h with ⟨b11_3, h⟩ | ⟨b11_3, h⟩
    ·refine kRs 15 [Tm 55 (bv true)] (.a ⟨bv r11_1, []⟩ :: (rp 12 (.b true) [])) (.c (Asks.of (C := Meets Try.prog) (raft_May.meets fu r9_3 _ h11_2)) (.r 5 b11_3 (.r 8 rT .n))) ?_
     refine kCt rT ?_
     refine kRs 0 [Tm 4 (bv false)] [] .n ?_
     refine kRt ?_
     have h_ := some_inj h
     subst h_
     exact kFr
    ·obtain ⟨r11_4, h11_5, h⟩ := bd_inv h
     rcases br_inv h with ⟨b11_6, h⟩ | ⟨b11_6, h⟩
     ·refine kRs 15 [Tm 55 (bv true)] (.a ⟨bv r11_1, []⟩ :: (.b false :: (.b false :: (.b false :: (.a ⟨bv r11_4, []⟩ :: (.b false :: (.b false :: (rp 7 (.b true) [])))))))) (.c (Asks.of (C := Meets Try.prog) (raft_May.meets fu r9_3 _ h11_2)) (.r 3 b11_3 (.c (Asks.of (C := Meets Try.prog) (raft_Same.meets fu r9_3 r9_3 _ h11_5)) (.r 2 b11_3 (.r 7 b11_6 (.c rT .n)))))) ?_
      refine kCt rT ?_
      refine kRs 0 [Tm 4 (bv false)] [] .n ?_
      refine kRt ?_
      have h_ := some_inj h
      subst h_
      exact kFr
     ·obtain ⟨r11_7, h11_8, h⟩ := bd_inv h
      obtain ⟨r11_9, h11_10, h⟩ := bd_inv h
      obtain ⟨r11_11, h11_12, h⟩ := bd_inv h
      refine kRs 15 [Tm 55 (bv (!r11_11))] (.a ⟨bv r11_1, []⟩ :: (.b false :: (.b false :: (.b false :: (.a ⟨bv r11_4, []⟩ :: (rp 4 (.b false) [.a ⟨.data (TRaft.ag_000001000111 r11_7), []⟩, .b false, .b false, .a ⟨.data (TRaft.ag_000001000111 r11_9), []⟩, .b false, .a ⟨bv r11_11, []⟩, .b false, .b false])))))) (.c (Asks.of (C := Meets Try.prog) (raft_May.meets fu r9_3 _ h11_2)) (.r 3 b11_3 (.c (Asks.of (C := Meets Try.prog) (raft_Same.meets fu r9_3 r9_3 _ h11_5)) (.r 2 b11_3 (.r 2 b11_6 (.c (Asks.of (C := Meets Try.prog) (raft_Again.meets fu r9_3 _ h11_8)) (.r 2 b11_6 (.c (Asks.of (C := Meets Try.prog) (diwanref11_Again.meets r9_3 _ h11_10)) (.c b11_6 (.c (Asks.of (C := Meets Try.prog) (diwanref11_Same.meets fu r11_7 r11_9 _ h11_12)) (.r 2 b11_6 (.c rT .n)))))))))))) ?_
      rcases br_inv h with ⟨b14_0, h⟩ | ⟨b14_0, h⟩
      ·refine kCt b14_0 ?_
       refine kRs 0 [Tm 4 (bv false)] [] .n ?_
       refine kRt ?_
       have h_ := some_inj h
       subst h_
       exact kFr
      ·refine kCe b14_0 ?_
       refine kSk ?_
       refine kCd (cR (cR (cR (cR (cR (cR bd8)))))) [] ?_
       refine kSq ?_
       refine kRs 30 [Tm 7 (iv 0)] [] .n ?_
       refine kBk 0 ?_
       obtain ⟨o43, ho43, h⟩ := bd_inv h
       refine kUs (diwanlaw11_RaftAll.lp17_ok fu _ 0 r9_3 r10_1 _ ho43) ?_
       intro e_ τ_ hp_
       rcases o43 with o43 | o43
       ·obtain ⟨⟩ := o43
        obtain ⟨rfl, rfl⟩ := hp_
        refine kCd (cR (cR (cR (cR (cR (cR (cR bd8))))))) [] ?_
        refine kRs 0 [Tm 4 (bv true)] [] .n ?_
        refine kRt ?_
        have h_ := some_inj h
        subst h_
        exact kFr
       ·obtain ⟨⟩ := o43
        obtain ⟨rfl, rfl⟩ := hp_
        have h_ := some_inj h
        subst h_
        exact kFr
end Go.Proofs.Ythpokjkbcdfhiaa.Told
