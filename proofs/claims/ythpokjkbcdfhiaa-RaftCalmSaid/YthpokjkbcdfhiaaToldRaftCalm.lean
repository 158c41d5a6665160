/- Functions of the program told as Lean functions, with the walks of their code in the machine by value. -/
import Derived.Test.YthpokjkbcdfhiaaProg
import Derived.Test.YthpokjkbcdfhiaaVam2
import Derived.Test.YthpokjkbcdfhiaaToldRaftCalmp1
noncomputable section
namespace Go.Proofs.Ythpokjkbcdfhiaa.Told
open Go Go.Proofs Go.Proofs.Ythpokjkbcdfhiaa Go.Proofs.Ythpokjkbcdfhiaa.Vam
set_option linter.unusedVariables false
set_option maxRecDepth 100000
def bd81 : Code := (Try.f81.body).getD .skip
def ulog_Join.O : Nat → Nat := fun t => bif ([6, 7, 8, 9, 46, 49, 50] : List Nat).any (Nat.beq t) then 1 else 0
def ulog_Join.lp7 (fu : Nat) (l7_0 : List TEntry) (l7_1 : Int) (l7_2 : List TEntry) (l7_3 : List TEntry) (l7_4 : Int) : Nat → Int → Option (Unit ⊕ (List TEntry))
  | 0, _ => none
  | n_ + 1, l7_5 =>
  br (decide (l7_5 < l7_4))
   (ix l7_3 l7_5 fun x10_1 =>
   br (decide ((w64 (l7_1 + l7_5)) ≥ (l7_0.length : Int)))
    (gd (decide ((0 : Int) ≤ (w64 (l7_1 + l7_5)) ∧ (w64 (l7_1 + l7_5)) ≤ (l7_0.length : Int))) <|
    gd (decide ((0 : Int) ≤ l7_5 ∧ l7_5 ≤ (l7_2.length : Int))) <|
    bd (slices_Concat_api_Entry fu ([(List.take (w64 (l7_1 + l7_5)).toNat l7_0), (List.drop l7_5.toNat l7_2)] : List (List TEntry))) fun r13_3 =>
    some (.inr r13_3))
    (ix l7_0 (w64 (l7_1 + l7_5)) fun x12_2 =>
    br (x12_2.Term != x10_1.Term)
     (gd (decide ((0 : Int) ≤ (w64 (l7_1 + l7_5)) ∧ (w64 (l7_1 + l7_5)) ≤ (l7_0.length : Int))) <|
     gd (decide ((0 : Int) ≤ l7_5 ∧ l7_5 ≤ (l7_2.length : Int))) <|
     bd (slices_Concat_api_Entry fu ([(List.take (w64 (l7_1 + l7_5)).toNat l7_0), (List.drop l7_5.toNat l7_2)] : List (List TEntry))) fun r15_3 =>
     some (.inr r15_3))
     (ulog_Join.lp7 fu l7_0 l7_1 l7_2 l7_3 l7_4 n_ (w64 (l7_5 + 1)))))
   (some (.inl ()))
def ulog_Join.lp7_post (l7_0 : List TEntry) (l7_1 : Int) (l7_2 : List TEntry) (l7_3 : List TEntry) (l7_4 : Int) (r_ : (Unit ⊕ (List TEntry))) : Wy → St → Prop := fun e τ => match r_ with
  | .inl _ => e = .exit 0 ∧ τ = ofL [Tm 0 (sS 6 TEntry.en l7_0)]
  | .inr y0 => e = .ret ∧ τ = ofL [Tm 6 (sO 6 TEntry.en y0)]
theorem ulog_Join.lp7_ok (fu : Nat) (l7_0 : List TEntry) (l7_1 : Int) (l7_2 : List TEntry) (l7_3 : List TEntry) (l7_4 : Int) : ∀ (n_ : Nat) (l7_5 : Int) (r_ : (Unit ⊕ (List TEntry))), ulog_Join.lp7 fu l7_0 l7_1 l7_2 l7_3 l7_4 n_ l7_5 = some r_ → WK Try.prog ulog_Join.O (Ck Try.prog) (cB (cR (cL (cR (cR bd81))))) [] (ofL [Tm 0 (sS 6 TEntry.en l7_0), Tm 1 (iv l7_1), Tm 2 (sS 6 TEntry.en l7_2), Tm 20 (sS 6 TEntry.en l7_3), Tm 21 (iv l7_4), Tm 22 (iv l7_5)]) (ulog_Join.lp7_post l7_0 l7_1 l7_2 l7_3 l7_4 r_) := by
 intro n_
 induction n_ with
 | zero => intro l7_5 r_ h; exact no_none h
 | succ n_ ih =>
  intro l7_5 r_ h
  refine kLp ?_
  refine kRs 63 [Tm 23 (bv (decide (l7_5 < l7_4)))] [] .n ?_
  refine kSq ?_
  rcases br_inv h with ⟨b9_0, h⟩ | ⟨b9_0, h⟩
  ·refine kCt b9_0 ?_
   refine kSk ?_
   refine kCd (cR (cR (cB (cB (cR (cL (cR (cR bd81)))))))) [.lp (cB (cR (cL (cR (cR bd81)))))] ?_
   refine kSq ?_
   refine kBk 1 ?_
   obtain ⟨x10_1, a10_2, e10_3, h⟩ := ix_inv h
   refine kRs 126 [Tm 7 (iv l7_5), Tm 8 (.ptr 8 0), Ob 8 (TEntry.ob x10_1)] [.c (TEntry.en x10_1)] (.c (c_ix (e := TEntry.en) a10_2 e10_3) (.c (c_el (e := TEntry.en) e10_3) .n)) ?_
   refine kRs 511 [Tm 9 (iv (w64 (l7_1 + l7_5)))] [] .n ?_
   rcases br_inv h with ⟨b12_1, h⟩ | ⟨b12_1, h⟩
   ·refine kRs 1011 [Tm 43 (bv true)] (.s (.t 32) [iv (l7_0.length : Int)] :: (rp 9 (.b true) [])) (.c (c_len (e := TEntry.en) (l := l7_0)) (.r 9 b12_1 (.c rT .n))) ?_
    refine kCt rT ?_
    obtain ⟨c13_1, h⟩ := gd_inv h
    obtain ⟨c13_2, h⟩ := gd_inv h
    obtain ⟨r13_3, h13_4, h⟩ := bd_inv h
    refine kRs 0 [Tm 6 (sO 6 TEntry.en r13_3)] [.s (.t 46) [sS 6 TEntry.en (List.take (w64 (l7_1 + l7_5)).toNat l7_0)], .s (.t 49) [sS 6 TEntry.en (List.drop l7_5.toNat l7_2)], .a ⟨sO 6 TEntry.en r13_3, []⟩] (.c (c_cbH (e := TEntry.en) c13_1) (.c (congrArg (fun d : DV => [AV.data d]) (c_cutH (own := false) (nl := none) (s := 6) (e := TEntry.en) (l := l7_0) (h := (w64 (l7_1 + l7_5)).toNat))) (.c (c_cbL (e := TEntry.en) c13_2) (.c (congrArg (fun d : DV => [AV.data d]) (c_cutL (own := false) (nl := none) (s := 6) (e := TEntry.en) (l := l7_2) (lo := l7_5.toNat))) (.c (Asks.fg (args1 := []) (args2 := []) (nl := some false) (sz := 1) (es := List.map (e_l 6 TEntry.en) ([(List.take (w64 (l7_1 + l7_5)).toNat l7_0), (List.drop l7_5.toNat l7_2)] : List (List TEntry))) (Asks.of (C := Meets Try.prog) (slices_Concat_api_Entry.meets fu ([(List.take (w64 (l7_1 + l7_5)).toNat l7_0), (List.drop l7_5.toNat l7_2)] : List (List TEntry)) _ h13_4))) (.c rT .n)))))) ?_
    cases some_inj h
    refine kWo ?_
    refine kRt ?_
    exact kOut
   ·obtain ⟨x12_2, a12_3, e12_4, h⟩ := ix_inv h
    refine kRs 1011 [Tm 43 (bv (x12_2.Term != x10_1.Term))] (.s (.t 32) [iv (l7_0.length : Int)] :: (.b false :: (.b false :: (.b false :: (.c (TEntry.en x12_2) :: (rp 6 (.b false) [])))))) (.c (c_len (e := TEntry.en) (l := l7_0)) (.r 3 b12_1 (.c (c_ix (e := TEntry.en) a12_3 e12_4) (.c (c_el (e := TEntry.en) e12_4) (.r 6 b12_1 (.c rT .n)))))) ?_
    rcases br_inv h with ⟨b14_0, h⟩ | ⟨b14_0, h⟩
    ·refine kCt b14_0 ?_
     obtain ⟨c15_1, h⟩ := gd_inv h
     obtain ⟨c15_2, h⟩ := gd_inv h
     obtain ⟨r15_3, h15_4, h⟩ := bd_inv h
     refine kRs 0 [Tm 6 (sO 6 TEntry.en r15_3)] [.s (.t 46) [sS 6 TEntry.en (List.take (w64 (l7_1 + l7_5)).toNat l7_0)], .s (.t 49) [sS 6 TEntry.en (List.drop l7_5.toNat l7_2)], .a ⟨sO 6 TEntry.en r15_3, []⟩] (.c (c_cbH (e := TEntry.en) c15_1) (.c (congrArg (fun d : DV => [AV.data d]) (c_cutH (own := false) (nl := none) (s := 6) (e := TEntry.en) (l := l7_0) (h := (w64 (l7_1 + l7_5)).toNat))) (.c (c_cbL (e := TEntry.en) c15_2) (.c (congrArg (fun d : DV => [AV.data d]) (c_cutL (own := false) (nl := none) (s := 6) (e := TEntry.en) (l := l7_2) (lo := l7_5.toNat))) (.c (Asks.fg (args1 := []) (args2 := []) (nl := some false) (sz := 1) (es := List.map (e_l 6 TEntry.en) ([(List.take (w64 (l7_1 + l7_5)).toNat l7_0), (List.drop l7_5.toNat l7_2)] : List (List TEntry))) (Asks.of (C := Meets Try.prog) (slices_Concat_api_Entry.meets fu ([(List.take (w64 (l7_1 + l7_5)).toNat l7_0), (List.drop l7_5.toNat l7_2)] : List (List TEntry)) _ h15_4))) (.c rT .n)))))) ?_
     cases some_inj h
     refine kWo ?_
     refine kRt ?_
     exact kOut
    ·refine kCe b14_0 ?_
     refine kSk ?_
     refine kCd (cR (cR (cR (cB (cB (cR (cL (cR (cR bd81))))))))) [.lp (cB (cR (cL (cR (cR bd81)))))] ?_
     refine kRc 248 [Tm 22 (iv (w64 (l7_5 + 1)))] [] .n (cB (cR (cL (cR (cR bd81))))) [] ?_
     exact kWk (ih (w64 (l7_5 + 1)) _ h)
  ·refine kCe b9_0 ?_
   cases some_inj h
   refine kWo ?_
   refine kXt 0 ?_
   exact kOut
def ulog_Join (fu : Nat) (l : List TEntry) (i : Int) (more : List TEntry) : Option (List TEntry) :=
 br (decide (i < 0))
  (bd (slices_Clone_api_Entry l) fun r3_1 =>
  some r3_1)
  (br (decide (i > (l.length : Int)))
   (bd (slices_Clone_api_Entry l) fun r5_1 =>
   some r5_1)
   (bd (ulog_Join.lp7 fu l i more more (more.length : Int) fu 0) fun o_ => (match o_ with
   | .inl _ =>
    bd (slices_Clone_api_Entry l) fun r18_1 =>
    some r18_1
   | .inr y17_0 =>
    some y17_0)))
theorem ulog_Join.meets (fu : Nat) (l : List TEntry) (i : Int) (more : List TEntry) (z0 : List TEntry) (h : ulog_Join fu l i more = some z0) : Meets Try.prog ⟨81, [sS 6 TEntry.en l, iv i, sS 6 TEntry.en more], []⟩ ⟨sO 6 TEntry.en z0, []⟩ := by
 refine kMt hmix ulog_Join.O Try.f81 bd81 7 ?_
 unfold ulog_Join at h
 refine kRs 7 [] [] .n ?_
 refine kSq ?_
 rcases br_inv h with ⟨b2_1, h⟩ | ⟨b2_1, h⟩
 ·refine kRs 7 [Tm 17 (bv true)] (rp 5 (.b true) []) (.r 5 b2_1 .n) ?_
  refine kCt rT ?_
  obtain ⟨r3_1, h3_2, h⟩ := bd_inv h
  refine kRs 0 [Tm 6 (sO 6 TEntry.en r3_1)] [.a ⟨sO 6 TEntry.en r3_1, []⟩] (.c (Asks.of (C := Meets Try.prog) (slices_Clone_api_Entry.meets l _ h3_2)) .n) ?_
  refine kRt ?_
  have h_ := some_inj h
  subst h_
  exact kFr
 ·refine kRs 7 [Tm 17 (bv (decide (i > (l.length : Int))))] [.b false, .b false, .b false, .s (.t 15) [iv (l.length : Int)], .b false, .b false] (.r 3 b2_1 (.c (c_len (e := TEntry.en) (l := l)) (.r 2 b2_1 .n))) ?_
  rcases br_inv h with ⟨b4_0, h⟩ | ⟨b4_0, h⟩
  ·refine kCt b4_0 ?_
   obtain ⟨r5_1, h5_2, h⟩ := bd_inv h
   refine kRs 0 [Tm 6 (sO 6 TEntry.en r5_1)] [.a ⟨sO 6 TEntry.en r5_1, []⟩] (.c (Asks.of (C := Meets Try.prog) (slices_Clone_api_Entry.meets l _ h5_2)) .n) ?_
   refine kRt ?_
   have h_ := some_inj h
   subst h_
   exact kFr
  ·refine kCe b4_0 ?_
   refine kSk ?_
   refine kCd (cR (cR bd81)) [] ?_
   refine kSq ?_
   refine kRs 14 [Tm 20 (sS 6 TEntry.en more), Tm 21 (iv (more.length : Int)), Tm 22 (iv 0)] [.s (.t 21) [iv (more.length : Int)]] (.c (c_len (e := TEntry.en) (l := more)) .n) ?_
   refine kBk 0 ?_
   obtain ⟨o17, ho17, h⟩ := bd_inv h
   refine kUs (ulog_Join.lp7_ok fu l i more more (more.length : Int) _ 0 _ ho17) ?_
   intro e_ τ_ hp_
   rcases o17 with o17 | o17
   ·obtain ⟨⟩ := o17
    obtain ⟨rfl, rfl⟩ := hp_
    refine kCd (cR (cR (cR bd81))) [] ?_
    obtain ⟨r18_1, h18_2, h⟩ := bd_inv h
    refine kRs 0 [Tm 6 (sO 6 TEntry.en r18_1)] [.a ⟨sO 6 TEntry.en r18_1, []⟩] (.c (Asks.of (C := Meets Try.prog) (slices_Clone_api_Entry.meets l _ h18_2)) .n) ?_
    refine kRt ?_
    have h_ := some_inj h
    subst h_
    exact kFr
   ·obtain ⟨y17_0, rfl⟩ : ∃ y, y = o17 := ⟨_, rfl⟩
    obtain ⟨rfl, rfl⟩ := hp_
    have h_ := some_inj h
    subst h_
    exact kFr
def bd52 : Code := (Try.f52.body).getD .skip
def raft_member_append.O : Nat → Nat := fun t => bif ([3, 4, 5, 17, 64, 82, 93, 103, 114] : List Nat).any (Nat.beq t) then 1 else 0
def raft_member_append (fu : Nat) (m : TMsg) (o0_v : TMember) : Option TMember :=
 br (decide (m.Term < o0_v.Raft.Term))
  (bd (raft_member_sends_2 m.From (TMsg.mk 4 0 0 0 0 0 0 0 false [] (TTxn.mk 0 0 [] []) 0 0 0 0 false ByteArray.empty ByteArray.empty [] [] 0) o0_v) fun r4_1 =>
  some r4_1)
  (br (o0_v.Raft.Role == 2)
   (some o0_v)
   (bd (ulog_Has o0_v.Raft.Log m.Index m.LogTerm) fun r8_1 =>
   br (!r8_1)
    (bd (raft_member_sends_2 m.From (TMsg.mk 4 0 0 0 0 (if (if (o0_v.Raft.Log.length : Int) < (w64 (m.Index - 1)) then (o0_v.Raft.Log.length : Int) else (w64 (m.Index - 1))) < 0 then 0 else (if (o0_v.Raft.Log.length : Int) < (w64 (m.Index - 1)) then (o0_v.Raft.Log.length : Int) else (w64 (m.Index - 1)))) 0 0 false [] (TTxn.mk 0 0 [] []) 0 0 0 0 false ByteArray.empty ByteArray.empty [] [] 0) (TMember.mk (TRaft.mk o0_v.Raft.Me o0_v.Raft.Nodes o0_v.Raft.Wait o0_v.Raft.Term o0_v.Raft.Vote o0_v.Raft.Log o0_v.Raft.Commit 0 m.From o0_v.Raft.Votes o0_v.Raft.Next o0_v.Raft.Match 0) o0_v.out)) fun r10_1 =>
    some r10_1)
    (bd (ulog_Join fu o0_v.Raft.Log m.Index m.Entries) fun r11_1 =>
    br (decide ((r11_1.length : Int) > 200))
     (bd (raft_member_sends m.From (TMsg.mk 4 0 0 0 0 0 0 0 false [] (TTxn.mk 0 0 [] []) 0 0 0 0 false ByteArray.empty ByteArray.empty [] [] 0) (TMember.mk (TRaft.mk o0_v.Raft.Me o0_v.Raft.Nodes o0_v.Raft.Wait o0_v.Raft.Term o0_v.Raft.Vote o0_v.Raft.Log o0_v.Raft.Commit 0 m.From o0_v.Raft.Votes o0_v.Raft.Next o0_v.Raft.Match 0) o0_v.out)) fun r14_1 =>
     some r14_1)
     (bd (raft_entries fu r11_1) fun r16_1 =>
     bd (raft_member_sends m.From (TMsg.mk 4 0 0 0 0 (w64 (m.Index + (m.Entries.length : Int))) 0 0 true [] (TTxn.mk 0 0 [] []) 0 0 0 0 false ByteArray.empty ByteArray.empty [] [] 0) (TMember.mk (TRaft.mk o0_v.Raft.Me o0_v.Raft.Nodes o0_v.Raft.Wait o0_v.Raft.Term o0_v.Raft.Vote r16_1 (if o0_v.Raft.Commit < (if (w64 (m.Index + (m.Entries.length : Int))) < m.Commit then (w64 (m.Index + (m.Entries.length : Int))) else m.Commit) then (if (w64 (m.Index + (m.Entries.length : Int))) < m.Commit then (w64 (m.Index + (m.Entries.length : Int))) else m.Commit) else o0_v.Raft.Commit) 0 m.From o0_v.Raft.Votes o0_v.Raft.Next o0_v.Raft.Match 0) o0_v.out)) fun r17_1 =>
     some r17_1))))
theorem raft_member_append.meets (fu : Nat) (m : TMsg) (o0_v : TMember) (z0 : TMember) (h : raft_member_append fu m o0_v = some z0) : Meets Try.prog ⟨52, [.ptr 1000 0, .data (TMsg.ag m)], [(TMember.ob_00000100011101 o0_v)]⟩ ⟨.tup [], [(TMember.ob_00000000011101 z0)]⟩ := by
 refine kMt hmix raft_member_append.O Try.f52 bd52 7 ?_
 unfold raft_member_append at h
 refine kRs 5 [Tm 3 (.ptr 3 0), Ob 3 (TMsg.ob m)] [] .n ?_
 refine kSq ?_
 refine kRs 15 [Tm 13 (bv (decide (m.Term < o0_v.Raft.Term)))] [] (.c rT .n) ?_
 rcases br_inv h with ⟨b3_0, h⟩ | ⟨b3_0, h⟩
 ·refine kCt b3_0 ?_
  obtain ⟨r4_1, h4_2, h⟩ := bd_inv h
  refine kRs 0 [Ob 1000 (TMember.ob_00000100011101 r4_1)] [.a ⟨.tup [], [(TMember.ob_00000100011101 r4_1)]⟩] (.c (Asks.of (C := Meets Try.prog) (raft_member_sends_2.meets m.From (TMsg.mk 4 0 0 0 0 0 0 0 false [] (TTxn.mk 0 0 [] []) 0 0 0 0 false ByteArray.empty ByteArray.empty [] [] 0) o0_v _ h4_2)) .n) ?_
  refine kSo 1000 5 0 [Ob 1000 (TMember.ob_00000000011101 r4_1)] ?_
  refine kRt ?_
  have h_ := some_inj h
  subst h_
  exact kFr
 ·refine kCe b3_0 ?_
  refine kSk ?_
  refine kCd (cR (cR bd52)) [] ?_
  refine kSq ?_
  refine kRs 30 [Tm 24 (bv (o0_v.Raft.Role == 2))] [] .n ?_
  rcases br_inv h with ⟨b6_0, h⟩ | ⟨b6_0, h⟩
  ·refine kCt b6_0 ?_
   refine kSo 1000 5 0 [Ob 1000 (TMember.ob_00000000011101 o0_v)] ?_
   refine kRt ?_
   have h_ := some_inj h
   subst h_
   exact kFr
  ·refine kCe b6_0 ?_
   refine kSk ?_
   refine kCd (cR (cR (cR bd52))) [] ?_
   refine kRs 14 [Ob 1000 (TMember.ob_00000100011101 (TMember.mk (TRaft.mk o0_v.Raft.Me o0_v.Raft.Nodes o0_v.Raft.Wait o0_v.Raft.Term o0_v.Raft.Vote o0_v.Raft.Log o0_v.Raft.Commit 0 m.From o0_v.Raft.Votes o0_v.Raft.Next o0_v.Raft.Match 0) o0_v.out))] [] (.c rT .n) ?_
   refine kSq ?_
   obtain ⟨r8_1, h8_2, h⟩ := bd_inv h
   refine kRs 15 [Tm 49 (bv (!r8_1))] [.a ⟨bv r8_1, []⟩] (.c (Asks.of (C := Meets Try.prog) (ulog_Has.meets o0_v.Raft.Log m.Index m.LogTerm _ h8_2)) (.c rT .n)) ?_
   rcases br_inv h with ⟨b9_0, h⟩ | ⟨b9_0, h⟩
   ·refine kCt b9_0 ?_
    obtain ⟨r10_1, h10_2, h⟩ := bd_inv h
    refine kRs 0 [Ob 1000 (TMember.ob_00000100011101 r10_1)] [.s (.t 61) [iv (o0_v.Raft.Log.length : Int)], .a ⟨.tup [], [(TMember.ob_00000100011101 r10_1)]⟩] (.c (c_len (e := TEntry.en) (l := o0_v.Raft.Log)) (.c (Asks.of (C := Meets Try.prog) (raft_member_sends_2.meets m.From (TMsg.mk 4 0 0 0 0 (if (if (o0_v.Raft.Log.length : Int) < (w64 (m.Index - 1)) then (o0_v.Raft.Log.length : Int) else (w64 (m.Index - 1))) < 0 then 0 else (if (o0_v.Raft.Log.length : Int) < (w64 (m.Index - 1)) then (o0_v.Raft.Log.length : Int) else (w64 (m.Index - 1)))) 0 0 false [] (TTxn.mk 0 0 [] []) 0 0 0 0 false ByteArray.empty ByteArray.empty [] [] 0) (TMember.mk (TRaft.mk o0_v.Raft.Me o0_v.Raft.Nodes o0_v.Raft.Wait o0_v.Raft.Term o0_v.Raft.Vote o0_v.Raft.Log o0_v.Raft.Commit 0 m.From o0_v.Raft.Votes o0_v.Raft.Next o0_v.Raft.Match 0) o0_v.out) _ h10_2)) (.c rT .n))) ?_
    refine kSo 1000 5 0 [Ob 1000 (TMember.ob_00000000011101 r10_1)] ?_
    refine kRt ?_
    have h_ := some_inj h
    subst h_
    exact kFr
   ·refine kCe b9_0 ?_
    refine kSk ?_
    refine kCd (cR (cR (cR (cR (cR bd52))))) [] ?_
    refine kSo 1000 5 28 [Ob 1000 (TMember.ob_00000000011101 (TMember.mk (TRaft.mk o0_v.Raft.Me o0_v.Raft.Nodes o0_v.Raft.Wait o0_v.Raft.Term o0_v.Raft.Vote o0_v.Raft.Log o0_v.Raft.Commit 0 m.From o0_v.Raft.Votes o0_v.Raft.Next o0_v.Raft.Match 0) o0_v.out))] ?_
    obtain ⟨r11_1, h11_2, h⟩ := bd_inv h
    refine kRs 15 [Tm 4 (sO 6 TEntry.en r11_1)] [.a ⟨sO 6 TEntry.en r11_1, []⟩] (.c (Asks.of (C := Meets Try.prog) (ulog_Join.meets fu o0_v.Raft.Log m.Index m.Entries _ h11_2)) (.c rT .n)) ?_
    refine kSq ?_
    refine kRs 31 [Tm 78 (bv (decide ((r11_1.length : Int) > 200)))] [.s (.t 77) [iv (r11_1.length : Int)]] (.c (c_len (e := TEntry.en) (l := r11_1)) .n) ?_
    rcases br_inv h with ⟨b13_0, h⟩ | ⟨b13_0, h⟩
    ·refine kCt b13_0 ?_
     obtain ⟨r14_1, h14_2, h⟩ := bd_inv h
     refine kRs 0 [Ob 1000 (TMember.ob_00000000011101 r14_1)] [.a ⟨.tup [], [(TMember.ob_00000000011101 r14_1)]⟩] (.c (Asks.of (C := Meets Try.prog) (raft_member_sends.meets m.From (TMsg.mk 4 0 0 0 0 0 0 0 false [] (TTxn.mk 0 0 [] []) 0 0 0 0 false ByteArray.empty ByteArray.empty [] [] 0) (TMember.mk (TRaft.mk o0_v.Raft.Me o0_v.Raft.Nodes o0_v.Raft.Wait o0_v.Raft.Term o0_v.Raft.Vote o0_v.Raft.Log o0_v.Raft.Commit 0 m.From o0_v.Raft.Votes o0_v.Raft.Next o0_v.Raft.Match 0) o0_v.out) _ h14_2)) .n) ?_
     refine kRt ?_
     have h_ := some_inj h
     subst h_
     exact kFr
    ·refine kCe b13_0 ?_
     refine kSk ?_
     refine kCd (cR (cR (cR (cR (cR (cR (cR bd52))))))) [] ?_
     refine kRs 62 [Tm 5 (iv (w64 (m.Index + (m.Entries.length : Int))))] [.s (.t 88) [iv (m.Entries.length : Int)]] (.c (c_len (e := TEntry.en) (l := m.Entries)) .n) ?_
     refine WK.share (x := .tmp 4) (l' := [Tm 0 (.ptr 1000 0), Tm 3 (.ptr 3 0), Tm 4 (sS 6 TEntry.en r11_1), Tm 5 (iv (w64 (m.Index + (m.Entries.length : Int)))), Ob 3 (TMsg.ob m), Ob 1000 (TMember.ob_00000000011101 (TMember.mk (TRaft.mk o0_v.Raft.Me o0_v.Raft.Nodes o0_v.Raft.Wait o0_v.Raft.Term o0_v.Raft.Vote o0_v.Raft.Log o0_v.Raft.Commit 0 m.From o0_v.Raft.Votes o0_v.Raft.Next o0_v.Raft.Match 0) o0_v.out))]) (by kernel_rfl) ?_
     obtain ⟨r16_1, h16_2, h⟩ := bd_inv h
     refine kRs 27 [Ob 1000 (TMember.ob_00000100011101 (TMember.mk (TRaft.mk o0_v.Raft.Me o0_v.Raft.Nodes o0_v.Raft.Wait o0_v.Raft.Term o0_v.Raft.Vote r16_1 (if o0_v.Raft.Commit < (if (w64 (m.Index + (m.Entries.length : Int))) < m.Commit then (w64 (m.Index + (m.Entries.length : Int))) else m.Commit) then (if (w64 (m.Index + (m.Entries.length : Int))) < m.Commit then (w64 (m.Index + (m.Entries.length : Int))) else m.Commit) else o0_v.Raft.Commit) 0 m.From o0_v.Raft.Votes o0_v.Raft.Next o0_v.Raft.Match 0) o0_v.out))] [.a ⟨sO 6 TEntry.en r16_1, []⟩] (.c (Asks.of (C := Meets Try.prog) (raft_entries.meets fu r11_1 _ h16_2)) (.c rT .n)) ?_
     refine kSo 1000 5 30 [Ob 1000 (TMember.ob_00000000011101 (TMember.mk (TRaft.mk o0_v.Raft.Me o0_v.Raft.Nodes o0_v.Raft.Wait o0_v.Raft.Term o0_v.Raft.Vote r16_1 (if o0_v.Raft.Commit < (if (w64 (m.Index + (m.Entries.length : Int))) < m.Commit then (w64 (m.Index + (m.Entries.length : Int))) else m.Commit) then (if (w64 (m.Index + (m.Entries.length : Int))) < m.Commit then (w64 (m.Index + (m.Entries.length : Int))) else m.Commit) else o0_v.Raft.Commit) 0 m.From o0_v.Raft.Votes o0_v.Raft.Next o0_v.Raft.Match 0) o0_v.out))] ?_
     obtain ⟨r17_1, h17_2, h⟩ := bd_inv h
     have h_ := some_inj h
     subst h_
     exact kRf [.a ⟨.tup [], [(TMember.ob_00000000011101 r17_1)]⟩] (.c (Asks.of (C := Meets Try.prog) (raft_member_sends.meets m.From (TMsg.mk 4 0 0 0 0 (w64 (m.Index + (m.Entries.length : Int))) 0 0 true [] (TTxn.mk 0 0 [] []) 0 0 0 0 false ByteArray.empty ByteArray.empty [] [] 0) (TMember.mk (TRaft.mk o0_v.Raft.Me o0_v.Raft.Nodes o0_v.Raft.Wait o0_v.Raft.Term o0_v.Raft.Vote r16_1 (if o0_v.Raft.Commit < (if (w64 (m.Index + (m.Entries.length : Int))) < m.Commit then (w64 (m.Index + (m.Entries.length : Int))) else m.Commit) then (if (w64 (m.Index + (m.Entries.length : Int))) < m.Commit then (w64 (m.Index + (m.Entries.length : Int))) else m.Commit) else o0_v.Raft.Commit) 0 m.From o0_v.Raft.Votes o0_v.Raft.Next o0_v.Raft.Match 0) o0_v.out) _ h17_2)) .n)
def bd53 : Code := (Try.f53.body).getD .skip
def raft_member_appended.O : Nat → Nat := fun t => bif ([3, 4, 5, 56, 75, 81, 104] : List Nat).any (Nat.beq t) then 1 else bif ([107] : List Nat).any (Nat.beq t) then 104 else 0
def raft_member_appended (fu : Nat) (m : TMsg) (o0_v : TMember) : Option TMember :=
 br (decide (m.Term < o0_v.Raft.Term))
  (some o0_v)
  (br (o0_v.Raft.Role != 2)
   (some o0_v)
   (ix o0_v.Raft.Next (w64 (m.From - 1)) fun x4_1 =>
   ix o0_v.Raft.Match (w64 (m.From - 1)) fun x4_4 =>
   br (!m.OK)
    (bd (raft_member_more fu m.From (TMember.mk (TRaft.mk o0_v.Raft.Me o0_v.Raft.Nodes o0_v.Raft.Wait o0_v.Raft.Term o0_v.Raft.Vote o0_v.Raft.Log o0_v.Raft.Commit o0_v.Raft.Role o0_v.Raft.Leader o0_v.Raft.Votes (o0_v.Raft.Next.set (w64 (m.From - 1)).toNat (if (if (if (w64 (m.Index + 1)) < (w64 (x4_1 - 1)) then (w64 (m.Index + 1)) else (w64 (x4_1 - 1))) < (w64 (x4_4 + 1)) then (w64 (x4_4 + 1)) else (if (w64 (m.Index + 1)) < (w64 (x4_1 - 1)) then (w64 (m.Index + 1)) else (w64 (x4_1 - 1)))) < 1 then 1 else (if (if (w64 (m.Index + 1)) < (w64 (x4_1 - 1)) then (w64 (m.Index + 1)) else (w64 (x4_1 - 1))) < (w64 (x4_4 + 1)) then (w64 (x4_4 + 1)) else (if (w64 (m.Index + 1)) < (w64 (x4_1 - 1)) then (w64 (m.Index + 1)) else (w64 (x4_1 - 1)))))) o0_v.Raft.Match o0_v.Raft.Clock) o0_v.out)) fun r8_1 =>
    some r8_1)
    (ix (o0_v.Raft.Match.set (w64 (m.From - 1)).toNat (if x4_4 < (if (o0_v.Raft.Log.length : Int) < m.Index then (o0_v.Raft.Log.length : Int) else m.Index) then (if (o0_v.Raft.Log.length : Int) < m.Index then (o0_v.Raft.Log.length : Int) else m.Index) else x4_4)) (w64 (m.From - 1)) fun x10_1 =>
    bd (ballot_Next fu (o0_v.Raft.Match.set (w64 (m.From - 1)).toNat (if x4_4 < (if (o0_v.Raft.Log.length : Int) < m.Index then (o0_v.Raft.Log.length : Int) else m.Index) then (if (o0_v.Raft.Log.length : Int) < m.Index then (o0_v.Raft.Log.length : Int) else m.Index) else x4_4)) o0_v.Raft.Log o0_v.Raft.Term o0_v.Raft.Commit) fun r11_1 =>
    ix (o0_v.Raft.Next.set (w64 (m.From - 1)).toNat (w64 (x10_1 + 1))) (w64 (m.From - 1)) fun x12_1 =>
    br (decide ((o0_v.Raft.Log.length : Int) > (w64 (x12_1 - 1))))
     (bd (raft_member_more fu m.From (TMember.mk (TRaft.mk o0_v.Raft.Me o0_v.Raft.Nodes o0_v.Raft.Wait o0_v.Raft.Term o0_v.Raft.Vote o0_v.Raft.Log r11_1 o0_v.Raft.Role o0_v.Raft.Leader o0_v.Raft.Votes (o0_v.Raft.Next.set (w64 (m.From - 1)).toNat (w64 (x10_1 + 1))) (o0_v.Raft.Match.set (w64 (m.From - 1)).toNat (if x4_4 < (if (o0_v.Raft.Log.length : Int) < m.Index then (o0_v.Raft.Log.length : Int) else m.Index) then (if (o0_v.Raft.Log.length : Int) < m.Index then (o0_v.Raft.Log.length : Int) else m.Index) else x4_4)) o0_v.Raft.Clock) o0_v.out)) fun r14_1 =>
     some r14_1)
     (some (TMember.mk (TRaft.mk o0_v.Raft.Me o0_v.Raft.Nodes o0_v.Raft.Wait o0_v.Raft.Term o0_v.Raft.Vote o0_v.Raft.Log r11_1 o0_v.Raft.Role o0_v.Raft.Leader o0_v.Raft.Votes (o0_v.Raft.Next.set (w64 (m.From - 1)).toNat (w64 (x10_1 + 1))) (o0_v.Raft.Match.set (w64 (m.From - 1)).toNat (if x4_4 < (if (o0_v.Raft.Log.length : Int) < m.Index then (o0_v.Raft.Log.length : Int) else m.Index) then (if (o0_v.Raft.Log.length : Int) < m.Index then (o0_v.Raft.Log.length : Int) else m.Index) else x4_4)) o0_v.Raft.Clock) o0_v.out)))))
theorem raft_member_appended.meets (fu : Nat) (m : TMsg) (o0_v : TMember) (z0 : TMember) (h : raft_member_appended fu m o0_v = some z0) : Meets Try.prog ⟨53, [.ptr 1000 0, .data (TMsg.ag m)], [(TMember.ob_00000100011101 o0_v)]⟩ ⟨.tup [], [(TMember.ob_00000000011101 z0)]⟩ := by
 refine kMt hmix raft_member_appended.O Try.f53 bd53 7 ?_
 unfold raft_member_appended at h
 refine kRs 5 [Tm 3 (.ptr 3 0), Ob 3 (TMsg.ob m)] [] .n ?_
 refine kSq ?_
 rcases br_inv h with ⟨b2_1, h⟩ | ⟨b2_1, h⟩
 ·refine kRs 15 [Tm 21 (bv true)] (rp 7 (.b true) []) (.r 7 b2_1 (.c rT .n)) ?_
  refine kCt rT ?_
  refine kSo 1000 5 0 [Ob 1000 (TMember.ob_00000000011101 o0_v)] ?_
  refine kRt ?_
  have h_ := some_inj h
  subst h_
  exact kFr
 ·refine kRs 15 [Tm 21 (bv (o0_v.Raft.Role != 2))] (rp 7 (.b false) []) (.r 7 b2_1 (.c rT .n)) ?_
  rcases br_inv h with ⟨b3_0, h⟩ | ⟨b3_0, h⟩
  ·refine kCt b3_0 ?_
   refine kSo 1000 5 0 [Ob 1000 (TMember.ob_00000000011101 o0_v)] ?_
   refine kRt ?_
   have h_ := some_inj h
   subst h_
   exact kFr
  ·refine kCe b3_0 ?_
   refine kSk ?_
   refine kCd (cR (cR bd53)) [] ?_
   obtain ⟨x4_1, a4_2, e4_3, h⟩ := ix_inv h
   obtain ⟨x4_4, a4_5, e4_6, h⟩ := ix_inv h
   refine kRs 30 [Tm 4 (.eptr (.o 1000) 0 10 (w64 (m.From - 1)).toNat 0), Tm 5 (.eptr (.o 1000) 0 11 (w64 (m.From - 1)).toNat 0)] [] (.c (c_ix (e := e_i64) a4_2 e4_3) (.c (c_ix (e := e_i64) a4_5 e4_6) (.c rT .n))) ?_
   refine kSq ?_
   refine kRs 63 [Tm 42 (bv (!m.OK))] [] .n ?_
   rcases br_inv h with ⟨b6_0, h⟩ | ⟨b6_0, h⟩
   ·refine kCt b6_0 ?_
    refine kRs 56 [Ob 1000 (TMember.ob_00000100011101 (TMember.mk (TRaft.mk o0_v.Raft.Me o0_v.Raft.Nodes o0_v.Raft.Wait o0_v.Raft.Term o0_v.Raft.Vote o0_v.Raft.Log o0_v.Raft.Commit o0_v.Raft.Role o0_v.Raft.Leader o0_v.Raft.Votes (o0_v.Raft.Next.set (w64 (m.From - 1)).toNat (if (if (if (w64 (m.Index + 1)) < (w64 (x4_1 - 1)) then (w64 (m.Index + 1)) else (w64 (x4_1 - 1))) < (w64 (x4_4 + 1)) then (w64 (x4_4 + 1)) else (if (w64 (m.Index + 1)) < (w64 (x4_1 - 1)) then (w64 (m.Index + 1)) else (w64 (x4_1 - 1)))) < 1 then 1 else (if (if (w64 (m.Index + 1)) < (w64 (x4_1 - 1)) then (w64 (m.Index + 1)) else (w64 (x4_1 - 1))) < (w64 (x4_4 + 1)) then (w64 (x4_4 + 1)) else (if (w64 (m.Index + 1)) < (w64 (x4_1 - 1)) then (w64 (m.Index + 1)) else (w64 (x4_1 - 1)))))) o0_v.Raft.Match o0_v.Raft.Clock) o0_v.out))] [.c (e_i64 x4_1), .c (e_i64 x4_4), .c (e_i64 x4_1), .s (.o 1000) (TMember.ob_00000100011101 (TMember.mk (TRaft.mk o0_v.Raft.Me o0_v.Raft.Nodes o0_v.Raft.Wait o0_v.Raft.Term o0_v.Raft.Vote o0_v.Raft.Log o0_v.Raft.Commit o0_v.Raft.Role o0_v.Raft.Leader o0_v.Raft.Votes (o0_v.Raft.Next.set (w64 (m.From - 1)).toNat (if (if (if (w64 (m.Index + 1)) < (w64 (x4_1 - 1)) then (w64 (m.Index + 1)) else (w64 (x4_1 - 1))) < (w64 (x4_4 + 1)) then (w64 (x4_4 + 1)) else (if (w64 (m.Index + 1)) < (w64 (x4_1 - 1)) then (w64 (m.Index + 1)) else (w64 (x4_1 - 1)))) < 1 then 1 else (if (if (w64 (m.Index + 1)) < (w64 (x4_1 - 1)) then (w64 (m.Index + 1)) else (w64 (x4_1 - 1))) < (w64 (x4_4 + 1)) then (w64 (x4_4 + 1)) else (if (w64 (m.Index + 1)) < (w64 (x4_1 - 1)) then (w64 (m.Index + 1)) else (w64 (x4_1 - 1)))))) o0_v.Raft.Match o0_v.Raft.Clock) o0_v.out))] (.c (c_el (e := e_i64) e4_3) (.c (c_el (e := e_i64) e4_6) (.c (c_el (e := e_i64) e4_3) (.c (congrArg (fun d : DV => (TMember.ob_00000100011101 (TMember.mk (TRaft.mk o0_v.Raft.Me o0_v.Raft.Nodes o0_v.Raft.Wait o0_v.Raft.Term o0_v.Raft.Vote o0_v.Raft.Log o0_v.Raft.Commit o0_v.Raft.Role o0_v.Raft.Leader o0_v.Raft.Votes (o0_v.Raft.Next.set (w64 (m.From - 1)).toNat (if (if (if (w64 (m.Index + 1)) < (w64 (x4_1 - 1)) then (w64 (m.Index + 1)) else (w64 (x4_1 - 1))) < (w64 (x4_4 + 1)) then (w64 (x4_4 + 1)) else (if (w64 (m.Index + 1)) < (w64 (x4_1 - 1)) then (w64 (m.Index + 1)) else (w64 (x4_1 - 1)))) < 1 then 1 else (if (if (w64 (m.Index + 1)) < (w64 (x4_1 - 1)) then (w64 (m.Index + 1)) else (w64 (x4_1 - 1))) < (w64 (x4_4 + 1)) then (w64 (x4_4 + 1)) else (if (w64 (m.Index + 1)) < (w64 (x4_1 - 1)) then (w64 (m.Index + 1)) else (w64 (x4_1 - 1)))))) o0_v.Raft.Match o0_v.Raft.Clock) o0_v.out)).set 10 (AV.data d)) (c_set (e := e_i64) (s := 1) (nl := none) (l := o0_v.Raft.Next) (i := (w64 (m.From - 1)).toNat) (x := (if (if (if (w64 (m.Index + 1)) < (w64 (x4_1 - 1)) then (w64 (m.Index + 1)) else (w64 (x4_1 - 1))) < (w64 (x4_4 + 1)) then (w64 (x4_4 + 1)) else (if (w64 (m.Index + 1)) < (w64 (x4_1 - 1)) then (w64 (m.Index + 1)) else (w64 (x4_1 - 1)))) < 1 then 1 else (if (if (w64 (m.Index + 1)) < (w64 (x4_1 - 1)) then (w64 (m.Index + 1)) else (w64 (x4_1 - 1))) < (w64 (x4_4 + 1)) then (w64 (x4_4 + 1)) else (if (w64 (m.Index + 1)) < (w64 (x4_1 - 1)) then (w64 (m.Index + 1)) else (w64 (x4_1 - 1)))))))) (.c rT .n))))) ?_
    obtain ⟨r8_1, h8_2, h⟩ := bd_inv h
    refine kRs 0 [Ob 1000 (TMember.ob_00000000011101 r8_1)] [.a ⟨.tup [], [(TMember.ob_00000000011101 r8_1)]⟩] (.c (Asks.of (C := Meets Try.prog) (raft_member_more.meets fu m.From (TMember.mk (TRaft.mk o0_v.Raft.Me o0_v.Raft.Nodes o0_v.Raft.Wait o0_v.Raft.Term o0_v.Raft.Vote o0_v.Raft.Log o0_v.Raft.Commit o0_v.Raft.Role o0_v.Raft.Leader o0_v.Raft.Votes (o0_v.Raft.Next.set (w64 (m.From - 1)).toNat (if (if (if (w64 (m.Index + 1)) < (w64 (x4_1 - 1)) then (w64 (m.Index + 1)) else (w64 (x4_1 - 1))) < (w64 (x4_4 + 1)) then (w64 (x4_4 + 1)) else (if (w64 (m.Index + 1)) < (w64 (x4_1 - 1)) then (w64 (m.Index + 1)) else (w64 (x4_1 - 1)))) < 1 then 1 else (if (if (w64 (m.Index + 1)) < (w64 (x4_1 - 1)) then (w64 (m.Index + 1)) else (w64 (x4_1 - 1))) < (w64 (x4_4 + 1)) then (w64 (x4_4 + 1)) else (if (w64 (m.Index + 1)) < (w64 (x4_1 - 1)) then (w64 (m.Index + 1)) else (w64 (x4_1 - 1)))))) o0_v.Raft.Match o0_v.Raft.Clock) o0_v.out) _ h8_2)) .n) ?_
    refine kRt ?_
    have h_ := some_inj h
    subst h_
    exact kFr
   ·refine kCe b6_0 ?_
    refine kSk ?_
    refine kCd (cR (cR (cR (cR bd53)))) [] ?_
    refine kRs 62 [Ob 1000 (TMember.ob_00000100011101 (TMember.mk (TRaft.mk o0_v.Raft.Me o0_v.Raft.Nodes o0_v.Raft.Wait o0_v.Raft.Term o0_v.Raft.Vote o0_v.Raft.Log o0_v.Raft.Commit o0_v.Raft.Role o0_v.Raft.Leader o0_v.Raft.Votes o0_v.Raft.Next (o0_v.Raft.Match.set (w64 (m.From - 1)).toNat (if x4_4 < (if (o0_v.Raft.Log.length : Int) < m.Index then (o0_v.Raft.Log.length : Int) else m.Index) then (if (o0_v.Raft.Log.length : Int) < m.Index then (o0_v.Raft.Log.length : Int) else m.Index) else x4_4)) o0_v.Raft.Clock) o0_v.out))] [.c (e_i64 x4_4), .s (.t 73) [iv (o0_v.Raft.Log.length : Int)], .c (e_i64 x4_4), .s (.o 1000) (TMember.ob_00000100011101 (TMember.mk (TRaft.mk o0_v.Raft.Me o0_v.Raft.Nodes o0_v.Raft.Wait o0_v.Raft.Term o0_v.Raft.Vote o0_v.Raft.Log o0_v.Raft.Commit o0_v.Raft.Role o0_v.Raft.Leader o0_v.Raft.Votes o0_v.Raft.Next (o0_v.Raft.Match.set (w64 (m.From - 1)).toNat (if x4_4 < (if (o0_v.Raft.Log.length : Int) < m.Index then (o0_v.Raft.Log.length : Int) else m.Index) then (if (o0_v.Raft.Log.length : Int) < m.Index then (o0_v.Raft.Log.length : Int) else m.Index) else x4_4)) o0_v.Raft.Clock) o0_v.out))] (.c (c_el (e := e_i64) e4_6) (.c (c_len (e := TEntry.en) (l := o0_v.Raft.Log)) (.c (c_el (e := e_i64) e4_6) (.c (congrArg (fun d : DV => (TMember.ob_00000100011101 (TMember.mk (TRaft.mk o0_v.Raft.Me o0_v.Raft.Nodes o0_v.Raft.Wait o0_v.Raft.Term o0_v.Raft.Vote o0_v.Raft.Log o0_v.Raft.Commit o0_v.Raft.Role o0_v.Raft.Leader o0_v.Raft.Votes o0_v.Raft.Next (o0_v.Raft.Match.set (w64 (m.From - 1)).toNat (if x4_4 < (if (o0_v.Raft.Log.length : Int) < m.Index then (o0_v.Raft.Log.length : Int) else m.Index) then (if (o0_v.Raft.Log.length : Int) < m.Index then (o0_v.Raft.Log.length : Int) else m.Index) else x4_4)) o0_v.Raft.Clock) o0_v.out)).set 11 (AV.data d)) (c_set (e := e_i64) (s := 1) (nl := none) (l := o0_v.Raft.Match) (i := (w64 (m.From - 1)).toNat) (x := (if x4_4 < (if (o0_v.Raft.Log.length : Int) < m.Index then (o0_v.Raft.Log.length : Int) else m.Index) then (if (o0_v.Raft.Log.length : Int) < m.Index then (o0_v.Raft.Log.length : Int) else m.Index) else x4_4)))) (.c rT .n))))) ?_
    obtain ⟨x10_1, a10_2, e10_3, h⟩ := ix_inv h
    refine kRs 58 [Ob 1000 (TMember.ob_00000100011101 (TMember.mk (TRaft.mk o0_v.Raft.Me o0_v.Raft.Nodes o0_v.Raft.Wait o0_v.Raft.Term o0_v.Raft.Vote o0_v.Raft.Log o0_v.Raft.Commit o0_v.Raft.Role o0_v.Raft.Leader o0_v.Raft.Votes (o0_v.Raft.Next.set (w64 (m.From - 1)).toNat (w64 (x10_1 + 1))) (o0_v.Raft.Match.set (w64 (m.From - 1)).toNat (if x4_4 < (if (o0_v.Raft.Log.length : Int) < m.Index then (o0_v.Raft.Log.length : Int) else m.Index) then (if (o0_v.Raft.Log.length : Int) < m.Index then (o0_v.Raft.Log.length : Int) else m.Index) else x4_4)) o0_v.Raft.Clock) o0_v.out))] [.c (e_i64 x10_1), .c (e_i64 x4_1), .s (.o 1000) (TMember.ob_00000100011101 (TMember.mk (TRaft.mk o0_v.Raft.Me o0_v.Raft.Nodes o0_v.Raft.Wait o0_v.Raft.Term o0_v.Raft.Vote o0_v.Raft.Log o0_v.Raft.Commit o0_v.Raft.Role o0_v.Raft.Leader o0_v.Raft.Votes (o0_v.Raft.Next.set (w64 (m.From - 1)).toNat (w64 (x10_1 + 1))) (o0_v.Raft.Match.set (w64 (m.From - 1)).toNat (if x4_4 < (if (o0_v.Raft.Log.length : Int) < m.Index then (o0_v.Raft.Log.length : Int) else m.Index) then (if (o0_v.Raft.Log.length : Int) < m.Index then (o0_v.Raft.Log.length : Int) else m.Index) else x4_4)) o0_v.Raft.Clock) o0_v.out))] (.c (c_el (e := e_i64) e10_3) (.c (c_el (e := e_i64) e4_3) (.c (congrArg (fun d : DV => (TMember.ob_00000100011101 (TMember.mk (TRaft.mk o0_v.Raft.Me o0_v.Raft.Nodes o0_v.Raft.Wait o0_v.Raft.Term o0_v.Raft.Vote o0_v.Raft.Log o0_v.Raft.Commit o0_v.Raft.Role o0_v.Raft.Leader o0_v.Raft.Votes (o0_v.Raft.Next.set (w64 (m.From - 1)).toNat (w64 (x10_1 + 1))) (o0_v.Raft.Match.set (w64 (m.From - 1)).toNat (if x4_4 < (if (o0_v.Raft.Log.length : Int) < m.Index then (o0_v.Raft.Log.length : Int) else m.Index) then (if (o0_v.Raft.Log.length : Int) < m.Index then (o0_v.Raft.Log.length : Int) else m.Index) else x4_4)) o0_v.Raft.Clock) o0_v.out)).set 10 (AV.data d)) (c_set (e := e_i64) (s := 1) (nl := none) (l := o0_v.Raft.Next) (i := (w64 (m.From - 1)).toNat) (x := (w64 (x10_1 + 1))))) .n))) ?_
    obtain ⟨r11_1, h11_2, h⟩ := bd_inv h
    refine kRs 30 [Ob 1000 (TMember.ob_00000100011101 (TMember.mk (TRaft.mk o0_v.Raft.Me o0_v.Raft.Nodes o0_v.Raft.Wait o0_v.Raft.Term o0_v.Raft.Vote o0_v.Raft.Log r11_1 o0_v.Raft.Role o0_v.Raft.Leader o0_v.Raft.Votes (o0_v.Raft.Next.set (w64 (m.From - 1)).toNat (w64 (x10_1 + 1))) (o0_v.Raft.Match.set (w64 (m.From - 1)).toNat (if x4_4 < (if (o0_v.Raft.Log.length : Int) < m.Index then (o0_v.Raft.Log.length : Int) else m.Index) then (if (o0_v.Raft.Log.length : Int) < m.Index then (o0_v.Raft.Log.length : Int) else m.Index) else x4_4)) o0_v.Raft.Clock) o0_v.out))] [.a ⟨iv r11_1, []⟩] (.c (Asks.of (C := Meets Try.prog) (ballot_Next.meets fu (o0_v.Raft.Match.set (w64 (m.From - 1)).toNat (if x4_4 < (if (o0_v.Raft.Log.length : Int) < m.Index then (o0_v.Raft.Log.length : Int) else m.Index) then (if (o0_v.Raft.Log.length : Int) < m.Index then (o0_v.Raft.Log.length : Int) else m.Index) else x4_4)) o0_v.Raft.Log o0_v.Raft.Term o0_v.Raft.Commit _ h11_2)) (.c rT .n)) ?_
    obtain ⟨x12_1, a12_2, e12_3, h⟩ := ix_inv h
    refine kRs 29 [Tm 118 (bv (decide ((o0_v.Raft.Log.length : Int) > (w64 (x12_1 - 1)))))] [.s (.t 113) [iv (o0_v.Raft.Log.length : Int)], .c (e_i64 x12_1)] (.c (c_len (e := TEntry.en) (l := o0_v.Raft.Log)) (.c (c_el (e := e_i64) e12_3) (.c rT .n))) ?_
    rcases br_inv h with ⟨b13_0, h⟩ | ⟨b13_0, h⟩
    ·refine kCt b13_0 ?_
     obtain ⟨r14_1, h14_2, h⟩ := bd_inv h
     have h_ := some_inj h
     subst h_
     exact kRf [.a ⟨.tup [], [(TMember.ob_00000000011101 r14_1)]⟩] (.c (Asks.of (C := Meets Try.prog) (raft_member_more.meets fu m.From (TMember.mk (TRaft.mk o0_v.Raft.Me o0_v.Raft.Nodes o0_v.Raft.Wait o0_v.Raft.Term o0_v.Raft.Vote o0_v.Raft.Log r11_1 o0_v.Raft.Role o0_v.Raft.Leader o0_v.Raft.Votes (o0_v.Raft.Next.set (w64 (m.From - 1)).toNat (w64 (x10_1 + 1))) (o0_v.Raft.Match.set (w64 (m.From - 1)).toNat (if x4_4 < (if (o0_v.Raft.Log.length : Int) < m.Index then (o0_v.Raft.Log.length : Int) else m.Index) then (if (o0_v.Raft.Log.length : Int) < m.Index then (o0_v.Raft.Log.length : Int) else m.Index) else x4_4)) o0_v.Raft.Clock) o0_v.out) _ h14_2)) .n)
    ·refine kCe b13_0 ?_
     refine kSo 1000 5 0 [Ob 1000 (TMember.ob_00000000011101 (TMember.mk (TRaft.mk o0_v.Raft.Me o0_v.Raft.Nodes o0_v.Raft.Wait o0_v.Raft.Term o0_v.Raft.Vote o0_v.Raft.Log r11_1 o0_v.Raft.Role o0_v.Raft.Leader o0_v.Raft.Votes (o0_v.Raft.Next.set (w64 (m.From - 1)).toNat (w64 (x10_1 + 1))) (o0_v.Raft.Match.set (w64 (m.From - 1)).toNat (if x4_4 < (if (o0_v.Raft.Log.length : Int) < m.Index then (o0_v.Raft.Log.length : Int) else m.Index) then (if (o0_v.Raft.Log.length : Int) < m.Index then (o0_v.Raft.Log.length : Int) else m.Index) else x4_4)) o0_v.Raft.Clock) o0_v.out))] ?_
     refine kSk ?_
     have h_ := some_inj h
     subst h_
     exact kFn
def bd25 : Code := (Try.f25.body).getD .skip
def raft_Take.O : Nat → Nat := fun t => bif ([2, 3, 4, 6, 7, 8, 9, 14, 15] : List Nat).any (Nat.beq t) then 1 else bif ([20] : List Nat).any (Nat.beq t) then 6 else 0
def raft_Take (fu : Nat) (r_v : TRaft) (m : TMsg) : Option (TRaft × List TMsg) :=
 bd (raft_twin fu r_v) fun r3_1 =>
 br (m.Kind == 1)
  (bd (raft_May fu r_v) fun r5_1 =>
  br (!r5_1)
   (some (r3_1, []))
   (br (decide (m.From < 1))
    (some (r3_1, []))
    (br (decide (m.From > r_v.Nodes))
     (some (r3_1, []))
     (br (m.From == r_v.Me)
      (some (r3_1, []))
      (br (m.To != r_v.Me)
       (some (r3_1, []))
       (jn (fun (j15_2 : TMember) =>
        bd (raft_member_askVote m j15_2) fun r16_1 =>
        some (r16_1.Raft, r16_1.out)) fun k15 =>
       br (decide (m.Term > r3_1.Term))
        (bd (raft_member_yields m.Term (TMember.mk r3_1 [])) fun r14_1 =>
        k15 r14_1)
        (k15 (TMember.mk r3_1 []))))))))
  (br (m.Kind == 2)
   (bd (raft_May fu r_v) fun r18_1 =>
   br (!r18_1)
    (some (r3_1, []))
    (br (decide (m.From < 1))
     (some (r3_1, []))
     (br (decide (m.From > r_v.Nodes))
      (some (r3_1, []))
      (br (m.From == r_v.Me)
       (some (r3_1, []))
       (br (m.To != r_v.Me)
        (some (r3_1, []))
        (jn (fun (j28_2 : TMember) =>
         bd (raft_member_vote fu m j28_2) fun r29_1 =>
         some (r29_1.Raft, r29_1.out)) fun k28 =>
        br (decide (m.Term > r3_1.Term))
         (bd (raft_member_yields m.Term (TMember.mk r3_1 [])) fun r27_1 =>
         k28 r27_1)
         (k28 (TMember.mk r3_1 []))))))))
   (br (m.Kind == 3)
    (bd (raft_May fu r_v) fun r31_1 =>
    br (!r31_1)
     (some (r3_1, []))
     (br (decide (m.From < 1))
      (some (r3_1, []))
      (br (decide (m.From > r_v.Nodes))
       (some (r3_1, []))
       (br (m.From == r_v.Me)
        (some (r3_1, []))
        (br (m.To != r_v.Me)
         (some (r3_1, []))
         (jn (fun (j41_2 : TMember) =>
          bd (raft_member_append fu m j41_2) fun r42_1 =>
          some (r42_1.Raft, r42_1.out)) fun k41 =>
         br (decide (m.Term > r3_1.Term))
          (bd (raft_member_yields m.Term (TMember.mk r3_1 [])) fun r40_1 =>
          k41 r40_1)
          (k41 (TMember.mk r3_1 []))))))))
    (br (m.Kind == 4)
     (bd (raft_May fu r_v) fun r44_1 =>
     br (!r44_1)
      (some (r3_1, []))
      (br (decide (m.From < 1))
       (some (r3_1, []))
       (br (decide (m.From > r_v.Nodes))
        (some (r3_1, []))
        (br (m.From == r_v.Me)
         (some (r3_1, []))
         (br (m.To != r_v.Me)
          (some (r3_1, []))
          (jn (fun (j54_2 : TMember) =>
           bd (raft_member_appended fu m j54_2) fun r55_1 =>
           some (r55_1.Raft, r55_1.out)) fun k54 =>
          br (decide (m.Term > r3_1.Term))
           (bd (raft_member_yields m.Term (TMember.mk r3_1 [])) fun r53_1 =>
           k54 r53_1)
           (k54 (TMember.mk r3_1 []))))))))
     (some (r3_1, [])))))
theorem raft_Take.meets (fu : Nat) (r_v : TRaft) (m : TMsg) (z0 : TRaft) (z1 : List TMsg) (h : raft_Take fu r_v m = some (z0, z1)) : Meets Try.prog ⟨25, [.data (TRaft.ag r_v), .data (TMsg.ag m)], []⟩ ⟨.tup [.data (TRaft.ag z0), sS 24 TMsg.en z1], []⟩ := by
 refine kMt hmix raft_Take.O Try.f25 bd25 3 ?_
 unfold raft_Take at h
 refine kRs 0 [Tm 2 (.ptr 2 0), Tm 3 (.ptr 3 0), Tm 4 (.ptr 4 0), Ob 2 (TRaft.ob r_v), Ob 3 (TMsg.ob m), Ob 4 (TRaft.ob_000001000111 (TRaft.mk 0 0 0 0 0 [] 0 0 0 [] [] [] 0))] [] .n ?_
 refine kRs 63 [Tm 6 (.data (.mp 2 [(.int .i64 1, .func (.func 50) #[] #[]), (.int .i64 2, .func (.func 51) #[] #[]), (.int .i64 3, .func (.func 52) #[] #[]), (.int .i64 4, .func (.func 53) #[] #[])]))] [] .n ?_
 obtain ⟨r3_1, h3_2, h⟩ := bd_inv h
 refine kRs 127 [Tm 7 (.ptr 15 0), Ob 15 (TMember.ob_00000100011101 (TMember.mk r3_1 []))] [.a ⟨.data (TRaft.ag_000001000111 r3_1), []⟩] (.c (Asks.of (C := Meets Try.prog) (raft_twin.meets fu r_v _ h3_2)) .n) ?_
 rcases br_inv h with ⟨b4_1, h⟩ | ⟨b4_1, h⟩
 ·refine kRs 507 [Tm 8 (.fn (.func 50) [] []), Tm 9 (bv true)] [.b true] (.c b4_1 .n) ?_
  refine kSq ?_
  obtain ⟨r5_1, h5_2, h⟩ := bd_inv h
  rcases br_inv h with ⟨b5_3, h⟩ | ⟨b5_3, h⟩
  ·refine kRs 877 [Tm 55 (bv true)] (.b false :: (.b false :: (.a ⟨bv r5_1, []⟩ :: (.b false :: (.b false :: (rp 22 (.b true) [])))))) (.r 2 rF (.c (Asks.of (C := Meets Try.prog) (raft_May.meets fu r_v _ h5_2)) (.r 2 rF (.r 4 b5_3 (.r 18 rT .n))))) ?_
   refine kCt rT ?_
   refine kRs 32 [Tm 5 (.data (.slc false (some true) 24 (List.map TMsg.en []))), Ob 4 (TRaft.ob r3_1)] [] .n ?_
   refine kWd 6 [Tm 5 (.data (.slc false none 24 (List.map TMsg.en [])))] ?_
   refine kRt ?_
   have h_0 := some_inj h
   obtain ⟨g_1, h_1⟩ := Prod.mk.inj h_0
   subst g_1
   subst h_1
   exact kFr
  ·rcases br_inv h with ⟨b5_4, h⟩ | ⟨b5_4, h⟩
   ·refine kRs 877 [Tm 55 (bv true)] (.b false :: (.b false :: (.a ⟨bv r5_1, []⟩ :: (rp 6 (.b false) (rp 18 (.b true) []))))) (.r 2 rF (.c (Asks.of (C := Meets Try.prog) (raft_May.meets fu r_v _ h5_2)) (.r 2 rF (.r 4 b5_3 (.r 6 b5_4 (.r 12 rT .n)))))) ?_
    refine kCt rT ?_
    refine kRs 32 [Tm 5 (.data (.slc false (some true) 24 (List.map TMsg.en []))), Ob 4 (TRaft.ob r3_1)] [] .n ?_
    refine kWd 6 [Tm 5 (.data (.slc false none 24 (List.map TMsg.en [])))] ?_
    refine kRt ?_
    have h_0 := some_inj h
    obtain ⟨g_1, h_1⟩ := Prod.mk.inj h_0
    subst g_1
    subst h_1
    exact kFr
   ·rcases br_inv h with ⟨b5_5, h⟩ | ⟨b5_5, h⟩
    ·refine kRs 877 [Tm 55 (bv true)] (.b false :: (.b false :: (.a ⟨bv r5_1, []⟩ :: (rp 12 (.b false) (rp 12 (.b true) []))))) (.r 2 rF (.c (Asks.of (C := Meets Try.prog) (raft_May.meets fu r_v _ h5_2)) (.r 2 rF (.r 4 b5_3 (.r 6 b5_4 (.r 6 b5_5 (.r 6 rT .n))))))) ?_
     refine kCt rT ?_
     refine kRs 32 [Tm 5 (.data (.slc false (some true) 24 (List.map TMsg.en []))), Ob 4 (TRaft.ob r3_1)] [] .n ?_
     refine kWd 6 [Tm 5 (.data (.slc false none 24 (List.map TMsg.en [])))] ?_
     refine kRt ?_
     have h_0 := some_inj h
     obtain ⟨g_1, h_1⟩ := Prod.mk.inj h_0
     subst g_1
     subst h_1
     exact kFr
    ·rcases br_inv h with ⟨b5_6, h⟩ | ⟨b5_6, h⟩
     ·refine kRs 877 [Tm 55 (bv true)] (.b false :: (.b false :: (.a ⟨bv r5_1, []⟩ :: (rp 18 (.b false) (rp 6 (.b true) []))))) (.r 2 rF (.c (Asks.of (C := Meets Try.prog) (raft_May.meets fu r_v _ h5_2)) (.r 2 rF (.r 4 b5_3 (.r 6 b5_4 (.r 6 b5_5 (.r 6 b5_6 .n))))))) ?_
      refine kCt rT ?_
      refine kRs 32 [Tm 5 (.data (.slc false (some true) 24 (List.map TMsg.en []))), Ob 4 (TRaft.ob r3_1)] [] .n ?_
      refine kWd 6 [Tm 5 (.data (.slc false none 24 (List.map TMsg.en [])))] ?_
      refine kRt ?_
      have h_0 := some_inj h
      obtain ⟨g_1, h_1⟩ := Prod.mk.inj h_0
      subst g_1
      subst h_1
      exact kFr
     ·refine kRs 877 [Tm 55 (bv (m.To != r_v.Me))] (.b false :: (.b false :: (.a ⟨bv r5_1, []⟩ :: (rp 24 (.b false) [])))) (.r 2 rF (.c (Asks.of (C := Meets Try.prog) (raft_May.meets fu r_v _ h5_2)) (.r 2 rF (.r 4 b5_3 (.r 6 b5_4 (.r 6 b5_5 (.r 6 b5_6 .n))))))) ?_
      rcases br_inv h with ⟨b10_0, h⟩ | ⟨b10_0, h⟩
      ·refine kCt b10_0 ?_
       refine kRs 32 [Tm 5 (.data (.slc false (some true) 24 (List.map TMsg.en []))), Ob 4 (TRaft.ob r3_1)] [] .n ?_
       refine kWd 6 [Tm 5 (.data (.slc false none 24 (List.map TMsg.en [])))] ?_
       refine kRt ?_
       have h_0 := some_inj h
       obtain ⟨g_1, h_1⟩ := Prod.mk.inj h_0
       subst g_1
       subst h_1
       exact kFr
      ·refine kCe b10_0 ?_
       refine kSk ?_
       refine kCd (cR (cR (cR (cR (cR bd25))))) [] ?_
       obtain ⟨k15, hk15, h⟩ := jn_inv h
       have Jk15 : ∀ (j15_2 : TMember), k15 j15_2 = some (z0, z1) → WK Try.prog raft_Take.O (Ck Try.prog) (cR (cR (cR (cR (cR (cR bd25)))))) [] (ofL [Tm 3 (.ptr 3 0), Tm 4 (.ptr 4 0), Tm 7 (.ptr 15 0), Tm 8 (.fn (.func 50) [] []), Ob 3 (TMsg.ob m), Ob 4 (TRaft.ob_000001000111 (TRaft.mk 0 0 0 0 0 [] 0 0 0 [] [] [] 0)), Ob 15 (TMember.ob_00000100011101 j15_2)]) (Fin Try.prog raft_Take.O Try.f25 0 ⟨.tup [.data (TRaft.ag z0), sS 24 TMsg.en z1], []⟩) := by
        intro j15_2 h
        rw [hk15] at h
        obtain ⟨r16_1, h16_2, h⟩ := bd_inv h
        refine kRs 38 [Ob 15 (TMember.ob_00000100011101 r16_1)] [.a ⟨.tup [], [(TMember.ob_00000100011101 r16_1)]⟩] (.c (Asks.of (C := Meets Try.prog) (raft_member_askVote.meets m j15_2 _ h16_2)) .n) ?_
        refine kSo 15 10 14 [Ob 15 (TMember.ob_00000100010101 r16_1)] ?_
        refine kSo 15 11 14 [Ob 15 (TMember.ob_00000100010001 r16_1)] ?_
        refine kSo 15 13 14 [Ob 15 (TMember.ob_0000010001 r16_1)] ?_
        refine kSo 15 5 14 [Ob 15 (TMember.ob_0000000001 r16_1)] ?_
        refine kSo 15 9 14 [Ob 15 (TMember.ob r16_1)] ?_
        refine kRs 2 [Tm 5 (sS 24 TMsg.en r16_1.out), Ob 4 (TRaft.ob r16_1.Raft)] [] (.c rT .n) ?_
        refine kRt ?_
        have h_0 := some_inj h
        obtain ⟨g_1, h_1⟩ := Prod.mk.inj h_0
        subst g_1
        subst h_1
        exact kFr
       clear hk15
       refine kSq ?_
       refine kRs 254 [Tm 67 (bv (decide (m.Term > r3_1.Term)))] [] (.c rT .n) ?_
       rcases br_inv h with ⟨b13_0, h⟩ | ⟨b13_0, h⟩
       ·refine kCt b13_0 ?_
        obtain ⟨r14_1, h14_2, h⟩ := bd_inv h
        refine kRc 246 [Ob 15 (TMember.ob_00000100011101 r14_1)] [.a ⟨.tup [], [(TMember.ob_00000100011101 r14_1)]⟩] (.c (Asks.of (C := Meets Try.prog) (raft_member_yields.meets m.Term (TMember.mk r3_1 []) _ h14_2)) .n) (cR (cR (cR (cR (cR (cR bd25)))))) [] ?_
        exact kWk (Jk15 r14_1 h)
       ·refine kCe b13_0 ?_
        refine kSk ?_
        refine kCd (cR (cR (cR (cR (cR (cR bd25)))))) [] ?_
        exact kWk (Jk15 (TMember.mk r3_1 []) h)
 ·rcases br_inv h with ⟨b4_2, h⟩ | ⟨b4_2, h⟩
  ·refine kRs 507 [Tm 8 (.fn (.func 51) [] []), Tm 9 (bv true)] [.b false, .b true] (.c b4_1 (.c b4_2 .n)) ?_
   refine kSq ?_
   obtain ⟨r18_1, h18_2, h⟩ := bd_inv h
   rcases br_inv h with ⟨b18_3, h⟩ | ⟨b18_3, h⟩
   ·refine kRs 877 [Tm 55 (bv true)] (.b false :: (.b false :: (.a ⟨bv r18_1, []⟩ :: (.b false :: (.b false :: (rp 22 (.b true) [])))))) (.r 2 rF (.c (Asks.of (C := Meets Try.prog) (raft_May.meets fu r_v _ h18_2)) (.r 2 rF (.r 4 b18_3 (.r 18 rT .n))))) ?_
    refine kCt rT ?_
    refine kRs 32 [Tm 5 (.data (.slc false (some true) 24 (List.map TMsg.en []))), Ob 4 (TRaft.ob r3_1)] [] .n ?_
    refine kWd 6 [Tm 5 (.data (.slc false none 24 (List.map TMsg.en [])))] ?_
    refine kRt ?_
    have h_0 := some_inj h
    obtain ⟨g_1, h_1⟩ := Prod.mk.inj h_0
    subst g_1
    subst h_1
    exact kFr
   ·rcases br_inv h with ⟨b18_4, h⟩ | ⟨b18_4, h⟩
    ·refine kRs 877 [Tm 55 (bv true)] (.b false :: (.b false :: (.a ⟨bv r18_1, []⟩ :: (rp 6 (.b false) (rp 18 (.b true) []))))) (.r 2 rF (.c (Asks.of (C := Meets Try.prog) (raft_May.meets fu r_v _ h18_2)) (.r 2 rF (.r 4 b18_3 (.r 6 b18_4 (.r 12 rT .n)))))) ?_
     refine kCt rT ?_
     refine kRs 32 [Tm 5 (.data (.slc false (some true) 24 (List.map TMsg.en []))), Ob 4 (TRaft.ob r3_1)] [] .n ?_
     refine kWd 6 [Tm 5 (.data (.slc false none 24 (List.map TMsg.en [])))] ?_
     refine kRt ?_
     have h_0 := some_inj h
     obtain ⟨g_1, h_1⟩ := Prod.mk.inj h_0
     subst g_1
     subst h_1
     exact kFr
    ·rcases br_inv h with ⟨b18_5, h⟩ | ⟨b18_5, h⟩
     ·refine kRs 877 [Tm 55 (bv true)] (.b false :: (.b false :: (.a ⟨bv r18_1, []⟩ :: (rp 12 (.b false) (rp 12 (.b true) []))))) (.r 2 rF (.c (Asks.of (C := Meets Try.prog) (raft_May.meets fu r_v _ h18_2)) (.r 2 rF (.r 4 b18_3 (.r 6 b18_4 (.r 6 b18_5 (.r 6 rT .n))))))) ?_
      refine kCt rT ?_
      refine kRs 32 [Tm 5 (.data (.slc false (some true) 24 (List.map TMsg.en []))), Ob 4 (TRaft.ob r3_1)] [] .n ?_
      refine kWd 6 [Tm 5 (.data (.slc false none 24 (List.map TMsg.en [])))] ?_
      refine kRt ?_
      have h_0 := some_inj h
      obtain ⟨g_1, h_1⟩ := Prod.mk.inj h_0
      subst g_1
      subst h_1
      exact kFr
     ·rcases br_inv h with ⟨b18_6, h⟩ | ⟨b18_6, h⟩
      ·refine kRs 877 [Tm 55 (bv true)] (.b false :: (.b false :: (.a ⟨bv r18_1, []⟩ :: (rp 18 (.b false) (rp 6 (.b true) []))))) (.r 2 rF (.c (Asks.of (C := Meets Try.prog) (raft_May.meets fu r_v _ h18_2)) (.r 2 rF (.r 4 b18_3 (.r 6 b18_4 (.r 6 b18_5 (.r 6 b18_6 .n))))))) ?_
       refine kCt rT ?_
       refine kRs 32 [Tm 5 (.data (.slc false (some true) 24 (List.map TMsg.en []))), Ob 4 (TRaft.ob r3_1)] [] .n ?_
       refine kWd 6 [Tm 5 (.data (.slc false none 24 (List.map TMsg.en [])))] ?_
       refine kRt ?_
       have h_0 := some_inj h
       obtain ⟨g_1, h_1⟩ := Prod.mk.inj h_0
       subst g_1
       subst h_1
       exact kFr
      ·refine kRs 877 [Tm 55 (bv (m.To != r_v.Me))] (.b false :: (.b false :: (.a ⟨bv r18_1, []⟩ :: (rp 24 (.b false) [])))) (.r 2 rF (.c (Asks.of (C := Meets Try.prog) (raft_May.meets fu r_v _ h18_2)) (.r 2 rF (.r 4 b18_3 (.r 6 b18_4 (.r 6 b18_5 (.r 6 b18_6 .n))))))) ?_
       rcases br_inv h with ⟨b23_0, h⟩ | ⟨b23_0, h⟩
       ·refine kCt b23_0 ?_
        refine kRs 32 [Tm 5 (.data (.slc false (some true) 24 (List.map TMsg.en []))), Ob 4 (TRaft.ob r3_1)] [] .n ?_
        refine kWd 6 [Tm 5 (.data (.slc false none 24 (List.map TMsg.en [])))] ?_
        refine kRt ?_
        have h_0 := some_inj h
        obtain ⟨g_1, h_1⟩ := Prod.mk.inj h_0
        subst g_1
        subst h_1
        exact kFr
       ·refine kCe b23_0 ?_
        refine kSk ?_
        refine kCd (cR (cR (cR (cR (cR bd25))))) [] ?_
        obtain ⟨k28, hk28, h⟩ := jn_inv h
        have Jk28 : ∀ (j28_2 : TMember), k28 j28_2 = some (z0, z1) → WK Try.prog raft_Take.O (Ck Try.prog) (cR (cR (cR (cR (cR (cR bd25)))))) [] (ofL [Tm 3 (.ptr 3 0), Tm 4 (.ptr 4 0), Tm 7 (.ptr 15 0), Tm 8 (.fn (.func 51) [] []), Ob 3 (TMsg.ob m), Ob 4 (TRaft.ob_000001000111 (TRaft.mk 0 0 0 0 0 [] 0 0 0 [] [] [] 0)), Ob 15 (TMember.ob_00000100011101 j28_2)]) (Fin Try.prog raft_Take.O Try.f25 0 ⟨.tup [.data (TRaft.ag z0), sS 24 TMsg.en z1], []⟩) := by
         intro j28_2 h
         rw [hk28] at h
         obtain ⟨r29_1, h29_2, h⟩ := bd_inv h
         refine kRs 38 [Ob 15 (TMember.ob_00000000011101 r29_1)] [.a ⟨.tup [], [(TMember.ob_00000000011101 r29_1)]⟩] (.c (Asks.of (C := Meets Try.prog) (raft_member_vote.meets fu m j28_2 _ h29_2)) .n) ?_
         refine kSo 15 10 14 [Ob 15 (TMember.ob_00000000010101 r29_1)] ?_
         refine kSo 15 11 14 [Ob 15 (TMember.ob_00000000010001 r29_1)] ?_
         refine kSo 15 13 14 [Ob 15 (TMember.ob_0000000001 r29_1)] ?_
         refine kSo 15 9 14 [Ob 15 (TMember.ob r29_1)] ?_
         refine kRs 2 [Tm 5 (sS 24 TMsg.en r29_1.out), Ob 4 (TRaft.ob r29_1.Raft)] [] (.c rT .n) ?_
         refine kRt ?_
         have h_0 := some_inj h
         obtain ⟨g_1, h_1⟩ := Prod.mk.inj h_0
         subst g_1
         subst h_1
         exact kFr
        clear hk28
        refine kSq ?_
        refine kRs 254 [Tm 67 (bv (decide (m.Term > r3_1.Term)))] [] (.c rT .n) ?_
        rcases br_inv h with ⟨b26_0, h⟩ | ⟨b26_0, h⟩
        ·refine kCt b26_0 ?_
         obtain ⟨r27_1, h27_2, h⟩ := bd_inv h
         refine kRc 246 [Ob 15 (TMember.ob_00000100011101 r27_1)] [.a ⟨.tup [], [(TMember.ob_00000100011101 r27_1)]⟩] (.c (Asks.of (C := Meets Try.prog) (raft_member_yields.meets m.Term (TMember.mk r3_1 []) _ h27_2)) .n) (cR (cR (cR (cR (cR (cR bd25)))))) [] ?_
         exact kWk (Jk28 r27_1 h)
        ·refine kCe b26_0 ?_
         refine kSk ?_
         refine kCd (cR (cR (cR (cR (cR (cR bd25)))))) [] ?_
         exact kWk (Jk28 (TMember.mk r3_1 []) h)
  ·rcases br_inv h with ⟨b4_3, h⟩ | ⟨b4_3, h⟩
   ·refine kRs 507 [Tm 8 (.fn (.func 52) [] []), Tm 9 (bv true)] [.b false, .b false, .b true] (.c b4_1 (.c b4_2 (.c b4_3 .n))) ?_
    refine kSq ?_
    obtain ⟨r31_1, h31_2, h⟩ := bd_inv h
    rcases br_inv h with ⟨b31_3, h⟩ | ⟨b31_3, h⟩
    ·refine kRs 877 [Tm 55 (bv true)] (.b false :: (.b false :: (.a ⟨bv r31_1, []⟩ :: (.b false :: (.b false :: (rp 22 (.b true) [])))))) (.r 2 rF (.c (Asks.of (C := Meets Try.prog) (raft_May.meets fu r_v _ h31_2)) (.r 2 rF (.r 4 b31_3 (.r 18 rT .n))))) ?_
     refine kCt rT ?_
     refine kRs 32 [Tm 5 (.data (.slc false (some true) 24 (List.map TMsg.en []))), Ob 4 (TRaft.ob r3_1)] [] .n ?_
     refine kWd 6 [Tm 5 (.data (.slc false none 24 (List.map TMsg.en [])))] ?_
     refine kRt ?_
     have h_0 := some_inj h
     obtain ⟨g_1, h_1⟩ := Prod.mk.inj h_0
     subst g_1
     subst h_1
     exact kFr
    ·rcases br_inv h with ⟨b31_4, h⟩ | ⟨b31_4, h⟩
     ·refine kRs 877 [Tm 55 (bv true)] (.b false :: (.b false :: (.a ⟨bv r31_1, []⟩ :: (rp 6 (.b false) (rp 18 (.b true) []))))) (.r 2 rF (.c (Asks.of (C := Meets Try.prog) (raft_May.meets fu r_v _ h31_2)) (.r 2 rF (.r 4 b31_3 (.r 6 b31_4 (.r 12 rT .n)))))) ?_
      refine kCt rT ?_
      refine kRs 32 [Tm 5 (.data (.slc false (some true) 24 (List.map TMsg.en []))), Ob 4 (TRaft.ob r3_1)] [] .n ?_
      refine kWd 6 [Tm 5 (.data (.slc false none 24 (List.map TMsg.en [])))] ?_
      refine kRt ?_
      have h_0 := some_inj h
      obtain ⟨g_1, h_1⟩ := Prod.mk.inj h_0
      subst g_1
      subst h_1
      exact kFr
     ·rcases br_inv h with ⟨b31_5, h⟩ | ⟨b31_5, h⟩
      ·refine kRs 877 [Tm 55 (bv true)] (.b false :: (.b false :: (.a ⟨bv r31_1, []⟩ :: (rp 12 (.b false) (rp 12 (.b true) []))))) (.r 2 rF (.c (Asks.of (C := Meets Try.prog) (raft_May.meets fu r_v _ h31_2)) (.r 2 rF (.r 4 b31_3 (.r 6 b31_4 (.r 6 b31_5 (.r 6 rT .n))))))) ?_
       refine kCt rT ?_
       refine kRs 32 [Tm 5 (.data (.slc false (some true) 24 (List.map TMsg.en []))), Ob 4 (TRaft.ob r3_1)] [] .n ?_
       refine kWd 6 [Tm 5 (.data (.slc false none 24 (List.map TMsg.en [])))] ?_
       refine kRt ?_
       have h_0 := some_inj h
       obtain ⟨g_1, h_1⟩ := Prod.mk.inj h_0
       subst g_1
       subst h_1
       exact kFr
      ·rcases br_inv h with ⟨b31_6, h⟩ | ⟨b31_6, h⟩
       ·refine kRs 877 [Tm 55 (bv true)] (.b false :: (.b false :: (.a ⟨bv r31_1, []⟩ :: (rp 18 (.b false) (rp 6 (.b true) []))))) (.r 2 rF (.c (Asks.of (C := Meets Try.prog) (raft_May.meets fu r_v _ h31_2)) (.r 2 rF (.r 4 b31_3 (.r 6 b31_4 (.r 6 b31_5 (.r 6 b31_6 .n))))))) ?_
        refine kCt rT ?_
        refine kRs 32 [Tm 5 (.data (.slc false (some true) 24 (List.map TMsg.en []))), Ob 4 (TRaft.ob r3_1)] [] .n ?_
        refine kWd 6 [Tm 5 (.data (.slc false none 24 (List.map TMsg.en [])))] ?_
        refine kRt ?_
        have h_0 := some_inj h
        obtain ⟨g_1, h_1⟩ := Prod.mk.inj h_0
        subst g_1
        subst h_1
        exact kFr
       ·refine kRs 877 [Tm 55 (bv (m.To != r_v.Me))] (.b false :: (.b false :: (.a ⟨bv r31_1, []⟩ :: (rp 24 (.b false) [])))) (.r 2 rF (.c (Asks.of (C := Meets Try.prog) (raft_May.meets fu r_v _ h31_2)) (.r 2 rF (.r 4 b31_3 (.r 6 b31_4 (.r 6 b31_5 (.r 6 b31_6 .n))))))) ?_
        rcases br_inv h with ⟨b36_0, h⟩ | ⟨b36_0, h⟩
        ·refine kCt b36_0 ?_
         refine kRs 32 [Tm 5 (.data (.slc false (some true) 24 (List.map TMsg.en []))), Ob 4 (TRaft.ob r3_1)] [] .n ?_
         refine kWd 6 [Tm 5 (.data (.slc false none 24 (List.map TMsg.en [])))] ?_
         refine kRt ?_
         have h_0 := some_inj h
         obtain ⟨g_1, h_1⟩ := Prod.mk.inj h_0
         subst g_1
         subst h_1
         exact kFr
        ·refine kCe b36_0 ?_
         refine kSk ?_
         refine kCd (cR (cR (cR (cR (cR bd25))))) [] ?_
         obtain ⟨k41, hk41, h⟩ := jn_inv h
         have Jk41 : ∀ (j41_2 : TMember), k41 j41_2 = some (z0, z1) → WK Try.prog raft_Take.O (Ck Try.prog) (cR (cR (cR (cR (cR (cR bd25)))))) [] (ofL [Tm 3 (.ptr 3 0), Tm 4 (.ptr 4 0), Tm 7 (.ptr 15 0), Tm 8 (.fn (.func 52) [] []), Ob 3 (TMsg.ob m), Ob 4 (TRaft.ob_000001000111 (TRaft.mk 0 0 0 0 0 [] 0 0 0 [] [] [] 0)), Ob 15 (TMember.ob_00000100011101 j41_2)]) (Fin Try.prog raft_Take.O Try.f25 0 ⟨.tup [.data (TRaft.ag z0), sS 24 TMsg.en z1], []⟩) := by
          intro j41_2 h
          rw [hk41] at h
          obtain ⟨r42_1, h42_2, h⟩ := bd_inv h
          refine kRs 38 [Ob 15 (TMember.ob_00000000011101 r42_1)] [.a ⟨.tup [], [(TMember.ob_00000000011101 r42_1)]⟩] (.c (Asks.of (C := Meets Try.prog) (raft_member_append.meets fu m j41_2 _ h42_2)) .n) ?_
          refine kSo 15 10 14 [Ob 15 (TMember.ob_00000000010101 r42_1)] ?_
          refine kSo 15 11 14 [Ob 15 (TMember.ob_00000000010001 r42_1)] ?_
          refine kSo 15 13 14 [Ob 15 (TMember.ob_0000000001 r42_1)] ?_
          refine kSo 15 9 14 [Ob 15 (TMember.ob r42_1)] ?_
          refine kRs 2 [Tm 5 (sS 24 TMsg.en r42_1.out), Ob 4 (TRaft.ob r42_1.Raft)] [] (.c rT .n) ?_
          refine kRt ?_
          have h_0 := some_inj h
          obtain ⟨g_1, h_1⟩ := Prod.mk.inj h_0
          subst g_1
          subst h_1
          exact kFr
         clear hk41
         refine kSq ?_
         refine kRs 254 [Tm 67 (bv (decide (m.Term > r3_1.Term)))] [] (.c rT .n) ?_
         rcases br_inv h with ⟨b39_0, h⟩ | ⟨b39_0, h⟩
         ·refine kCt b39_0 ?_
          obtain ⟨r40_1, h40_2, h⟩ := bd_inv h
          refine kRc 246 [Ob 15 (TMember.ob_00000100011101 r40_1)] [.a ⟨.tup [], [(TMember.ob_00000100011101 r40_1)]⟩] (.c (Asks.of (C := Meets Try.prog) (raft_member_yields.meets m.Term (TMember.mk r3_1 []) _ h40_2)) .n) (cR (cR (cR (cR (cR (cR bd25)))))) [] ?_
          exact kWk (Jk41 r40_1 h)
         ·refine kCe b39_0 ?_
          refine kSk ?_
          refine kCd (cR (cR (cR (cR (cR (cR bd25)))))) [] ?_
          exact kWk (Jk41 (TMember.mk r3_1 []) h)
   ·rcases br_inv h with ⟨b4_4, h⟩ | ⟨b4_4, h⟩
    ·refine kRs 507 [Tm 8 (.fn (.func 53) [] []), Tm 9 (bv true)] [.b false, .b false, .b false, .b true] (.c b4_1 (.c b4_2 (.c b4_3 (.c b4_4 .n)))) ?_
     refine kSq ?_
     obtain ⟨r44_1, h44_2, h⟩ := bd_inv h
     rcases br_inv h with ⟨b44_3, h⟩ | ⟨b44_3, h⟩
     ·refine kRs 877 [Tm 55 (bv true)] (.b false :: (.b false :: (.a ⟨bv r44_1, []⟩ :: (.b false :: (.b false :: (rp 22 (.b true) [])))))) (.r 2 rF (.c (Asks.of (C := Meets Try.prog) (raft_May.meets fu r_v _ h44_2)) (.r 2 rF (.r 4 b44_3 (.r 18 rT .n))))) ?_
      refine kCt rT ?_
      refine kRs 32 [Tm 5 (.data (.slc false (some true) 24 (List.map TMsg.en []))), Ob 4 (TRaft.ob r3_1)] [] .n ?_
      refine kWd 6 [Tm 5 (.data (.slc false none 24 (List.map TMsg.en [])))] ?_
      refine kRt ?_
      have h_0 := some_inj h
      obtain ⟨g_1, h_1⟩ := Prod.mk.inj h_0
      subst g_1
      subst h_1
      exact kFr
     ·rcases br_inv h with ⟨b44_4, h⟩ | ⟨b44_4, h⟩
      ·refine kRs 877 [Tm 55 (bv true)] (.b false :: (.b false :: (.a ⟨bv r44_1, []⟩ :: (rp 6 (.b false) (rp 18 (.b true) []))))) (.r 2 rF (.c (Asks.of (C := Meets Try.prog) (raft_May.meets fu r_v _ h44_2)) (.r 2 rF (.r 4 b44_3 (.r 6 b44_4 (.r 12 rT .n)))))) ?_
       refine kCt rT ?_
       refine kRs 32 [Tm 5 (.data (.slc false (some true) 24 (List.map TMsg.en []))), Ob 4 (TRaft.ob r3_1)] [] .n ?_
       refine kWd 6 [Tm 5 (.data (.slc false none 24 (List.map TMsg.en [])))] ?_
       refine kRt ?_
       have h_0 := some_inj h
       obtain ⟨g_1, h_1⟩ := Prod.mk.inj h_0
       subst g_1
       subst h_1
       exact kFr
      ·rcases br_inv h with ⟨b44_5, h⟩ | ⟨b44_5, h⟩
       ·refine kRs 877 [Tm 55 (bv true)] (.b false :: (.b false :: (.a ⟨bv r44_1, []⟩ :: (rp 12 (.b false) (rp 12 (.b true) []))))) (.r 2 rF (.c (Asks.of (C := Meets Try.prog) (raft_May.meets fu r_v _ h44_2)) (.r 2 rF (.r 4 b44_3 (.r 6 b44_4 (.r 6 b44_5 (.r 6 rT .n))))))) ?_
        refine kCt rT ?_
        refine kRs 32 [Tm 5 (.data (.slc false (some true) 24 (List.map TMsg.en []))), Ob 4 (TRaft.ob r3_1)] [] .n ?_
        refine kWd 6 [Tm 5 (.data (.slc false none 24 (List.map TMsg.en [])))] ?_
        refine kRt ?_
        have h_0 := some_inj h
        obtain ⟨g_1, h_1⟩ := Prod.mk.inj h_0
        subst g_1
        subst h_1
        exact kFr
       ·rcases br_inv h with ⟨b44_6, h⟩ | ⟨b44_6, h⟩
        ·refine kRs 877 [Tm 55 (bv true)] (.b false :: (.b false :: (.a ⟨bv r44_1, []⟩ :: (rp 18 (.b false) (rp 6 (.b true) []))))) (.r 2 rF (.c (Asks.of (C := Meets Try.prog) (raft_May.meets fu r_v _ h44_2)) (.r 2 rF (.r 4 b44_3 (.r 6 b44_4 (.r 6 b44_5 (.r 6 b44_6 .n))))))) ?_
         refine kCt rT ?_
         refine kRs 32 [Tm 5 (.data (.slc false (some true) 24 (List.map TMsg.en []))), Ob 4 (TRaft.ob r3_1)] [] .n ?_
         refine kWd 6 [Tm 5 (.data (.slc false none 24 (List.map TMsg.en [])))] ?_
         refine kRt ?_
         have h_0 := some_inj h
         obtain ⟨g_1, h_1⟩ := Prod.mk.inj h_0
         subst g_1
         subst h_1
         exact kFr
        ·refine kRs 877 [Tm 55 (bv (m.To != r_v.Me))] (.b false :: (.b false :: (.a ⟨bv r44_1, []⟩ :: (rp 24 (.b false) [])))) (.r 2 rF (.c (Asks.of (C := Meets Try.prog) (raft_May.meets fu r_v _ h44_2)) (.r 2 rF (.r 4 b44_3 (.r 6 b44_4 (.r 6 b44_5 (.r 6 b44_6 .n))))))) ?_
         rcases br_inv h with ⟨b49_0, h⟩ | ⟨b49_0, h⟩
         ·refine kCt b49_0 ?_
          refine kRs 32 [Tm 5 (.data (.slc false (some true) 24 (List.map TMsg.en []))), Ob 4 (TRaft.ob r3_1)] [] .n ?_
          refine kWd 6 [Tm 5 (.data (.slc false none 24 (List.map TMsg.en [])))] ?_
          refine kRt ?_
          have h_0 := some_inj h
          obtain ⟨g_1, h_1⟩ := Prod.mk.inj h_0
          subst g_1
          subst h_1
          exact kFr
         ·refine kCe b49_0 ?_
          refine kSk ?_
          refine kCd (cR (cR (cR (cR (cR bd25))))) [] ?_
          obtain ⟨k54, hk54, h⟩ := jn_inv h
          have Jk54 : ∀ (j54_2 : TMember), k54 j54_2 = some (z0, z1) → WK Try.prog raft_Take.O (Ck Try.prog) (cR (cR (cR (cR (cR (cR bd25)))))) [] (ofL [Tm 3 (.ptr 3 0), Tm 4 (.ptr 4 0), Tm 7 (.ptr 15 0), Tm 8 (.fn (.func 53) [] []), Ob 3 (TMsg.ob m), Ob 4 (TRaft.ob_000001000111 (TRaft.mk 0 0 0 0 0 [] 0 0 0 [] [] [] 0)), Ob 15 (TMember.ob_00000100011101 j54_2)]) (Fin Try.prog raft_Take.O Try.f25 0 ⟨.tup [.data (TRaft.ag z0), sS 24 TMsg.en z1], []⟩) := by
           intro j54_2 h
           rw [hk54] at h
           obtain ⟨r55_1, h55_2, h⟩ := bd_inv h
           refine kRs 38 [Ob 15 (TMember.ob_00000000011101 r55_1)] [.a ⟨.tup [], [(TMember.ob_00000000011101 r55_1)]⟩] (.c (Asks.of (C := Meets Try.prog) (raft_member_appended.meets fu m j54_2 _ h55_2)) .n) ?_
           refine kSo 15 10 14 [Ob 15 (TMember.ob_00000000010101 r55_1)] ?_
           refine kSo 15 11 14 [Ob 15 (TMember.ob_00000000010001 r55_1)] ?_
           refine kSo 15 13 14 [Ob 15 (TMember.ob_0000000001 r55_1)] ?_
           refine kSo 15 9 14 [Ob 15 (TMember.ob r55_1)] ?_
           refine kRs 2 [Tm 5 (sS 24 TMsg.en r55_1.out), Ob 4 (TRaft.ob r55_1.Raft)] [] (.c rT .n) ?_
           refine kRt ?_
           have h_0 := some_inj h
           obtain ⟨g_1, h_1⟩ := Prod.mk.inj h_0
           subst g_1
           subst h_1
           exact kFr
          clear hk54
          refine kSq ?_
          refine kRs 254 [Tm 67 (bv (decide (m.Term > r3_1.Term)))] [] (.c rT .n) ?_
          rcases br_inv h with ⟨b52_0, h⟩ | ⟨b52_0, h⟩
          ·refine kCt b52_0 ?_
           obtain ⟨r53_1, h53_2, h⟩ := bd_inv h
           refine kRc 246 [Ob 15 (TMember.ob_00000100011101 r53_1)] [.a ⟨.tup [], [(TMember.ob_00000100011101 r53_1)]⟩] (.c (Asks.of (C := Meets Try.prog) (raft_member_yields.meets m.Term (TMember.mk r3_1 []) _ h53_2)) .n) (cR (cR (cR (cR (cR (cR bd25)))))) [] ?_
           exact kWk (Jk54 r53_1 h)
          ·refine kCe b52_0 ?_
           refine kSk ?_
           refine kCd (cR (cR (cR (cR (cR (cR bd25)))))) [] ?_
           exact kWk (Jk54 (TMember.mk r3_1 []) h)
    ·refine kRs 507 [Tm 8 (.data (.val .nilFunc)), Tm 9 (bv false)] (rp 4 (.b false) []) (.c b4_1 (.c b4_2 (.c b4_3 (.c b4_4 .n)))) ?_
     refine kSq ?_
     refine kRs 877 [Tm 55 (bv true)] (rp 26 (.b true) []) (.r 26 rT .n) ?_
     refine kCt rT ?_
     refine kRs 32 [Tm 5 (.data (.slc false (some true) 24 (List.map TMsg.en []))), Ob 4 (TRaft.ob r3_1)] [] .n ?_
     refine kWd 6 [Tm 5 (.data (.slc false none 24 (List.map TMsg.en [])))] ?_
     refine kRt ?_
     have h_0 := some_inj h
     obtain ⟨g_1, h_1⟩ := Prod.mk.inj h_0
     subst g_1
     subst h_1
     exact kFr
def bd37 : Code := (Try.f37.body).getD .skip
def diwanlaw11_Group_run.O : Nat → Nat := fun t => bif ([4, 5, 6, 8, 39, 54, 93, 96, 113, 116, 134, 136, 140, 157, 164, 192] : List Nat).any (Nat.beq t) then 1 else bif ([7, 155] : List Nat).any (Nat.beq t) then 2 else 0
def diwanlaw11_Group_run (fu : Nat) (o0_v : TGroup) (o1_v : TPicks) : Option (TGroup × TPicks) :=
 bd (diwanplay_Picks_Num 13 o1_v) fun (r1_1, r1_2) =>
 bd (diwanplay_Picks_Num (o0_v.M.length : Int) r1_2) fun (r2_1, r2_2) =>
 jn (fun (j7_2 : Int) (j7_4 : TPicks) =>
  jn (fun (j28_0 : List TMsg) (j28_1 : TGroup) (j28_2 : TPicks) =>
   br (decide ((j28_1.Mail.length : Int) < 60))
    (br (decide ((j28_0.length : Int) < 20))
     (gd (decide (j28_1.Mail.length + j28_0.length ≤ 4294967296)) <|
     some ((TGroup.mk j28_1.M (j28_1.Mail ++ j28_0)), j28_2))
     (some (j28_1, j28_2)))
    (some (j28_1, j28_2))) fun k28 =>
  br (decide (r1_1 < 3))
   (ix o0_v.M r2_1 fun x11_1 =>
   bd (raft_Tick fu x11_1) fun (r11_4, r11_5) =>
   ix o0_v.M r2_1 fun x11_7 =>
   k28 r11_5 (TGroup.mk (o0_v.M.set r2_1.toNat r11_4) o0_v.Mail) j7_4)
   (br (r1_1 == 11)
    (ix o0_v.M r2_1 fun x14_1 =>
    bd (diwanplay_Picks_Txn fu 3 j7_4) fun (r14_4, r14_5) =>
    bd (raft_Propose fu x14_1 (TEntry.mk 0 false r14_4)) fun (r14_7, r14_8, r14_9) =>
    ix o0_v.M r2_1 fun x14_11 =>
    k28 r14_8 (TGroup.mk (o0_v.M.set r2_1.toNat r14_7) o0_v.Mail) r14_5)
    (br (r1_1 == 12)
     (ix o0_v.M r2_1 fun x17_1 =>
     bd (raft_Again fu x17_1) fun r17_4 =>
     ix o0_v.M r2_1 fun x17_6 =>
     k28 [] (TGroup.mk (o0_v.M.set r2_1.toNat r17_4) o0_v.Mail) j7_4)
     (br ((o0_v.Mail.length : Int) == 0)
      (k28 [] o0_v j7_4)
      (br (r1_1 == 10)
       (ix o0_v.Mail j7_2 fun x22_1 =>
       k28 ([x22_1] : List TMsg) o0_v j7_4)
       (ix o0_v.Mail j7_2 fun x23_1 =>
       gd (decide ((0 : Int) ≤ j7_2 ∧ j7_2 ≤ (o0_v.Mail.length : Int))) <|
       gd (decide (([] : List TMsg).length + (List.take j7_2.toNat o0_v.Mail).length ≤ 4294967296)) <|
       gd (decide ((0 : Int) ≤ (w64 (j7_2 + 1)) ∧ (w64 (j7_2 + 1)) ≤ (o0_v.Mail.length : Int))) <|
       gd (decide ((List.take j7_2.toNat o0_v.Mail).length + (List.drop (w64 (j7_2 + 1)).toNat o0_v.Mail).length ≤ 4294967296)) <|
       br (decide (r1_1 < 9))
        (br (decide (x23_1.To ≥ 1))
         (br (decide (x23_1.To ≤ (o0_v.M.length : Int)))
          (ix o0_v.M (w64 (x23_1.To - 1)) fun x27_1 =>
          bd (raft_Take fu x27_1 x23_1) fun (r27_4, r27_5) =>
          ix o0_v.M (w64 (x23_1.To - 1)) fun x27_7 =>
          k28 r27_5 (TGroup.mk (o0_v.M.set (w64 (x23_1.To - 1)).toNat r27_4) ((List.take j7_2.toNat o0_v.Mail) ++ (List.drop (w64 (j7_2 + 1)).toNat o0_v.Mail))) j7_4)
          (k28 [] (TGroup.mk o0_v.M ((List.take j7_2.toNat o0_v.Mail) ++ (List.drop (w64 (j7_2 + 1)).toNat o0_v.Mail))) j7_4))
         (k28 [] (TGroup.mk o0_v.M ((List.take j7_2.toNat o0_v.Mail) ++ (List.drop (w64 (j7_2 + 1)).toNat o0_v.Mail))) j7_4))
        (k28 [] (TGroup.mk o0_v.M ((List.take j7_2.toNat o0_v.Mail) ++ (List.drop (w64 (j7_2 + 1)).toNat o0_v.Mail))) j7_4))))))) fun k7 =>
 br (decide ((o0_v.Mail.length : Int) > 0))
  (bd (diwanplay_Picks_Num (o0_v.Mail.length : Int) r2_2) fun (r6_1, r6_2) =>
  k7 r6_1 r6_2)
  (k7 0 r2_2)
theorem diwanlaw11_Group_run.meets (fu : Nat) (o0_v : TGroup) (o1_v : TPicks) (z0 : TGroup) (z1 : TPicks) (h : diwanlaw11_Group_run fu o0_v o1_v = some (z0, z1)) : Meets Try.prog ⟨37, [.ptr 1000 0, .ptr 1001 0], [[sO 13 TRaft.en o0_v.M, sO 24 TMsg.en o0_v.Mail], [sS 1 e_u8 o1_v.l, iv o1_v.n]]⟩ ⟨.tup [], [[sO 13 TRaft.en z0.M, sO 24 TMsg.en z0.Mail], [sS 1 e_u8 z1.l, iv z1.n]]⟩ := by
 refine kMt hmix diwanlaw11_Group_run.O Try.f37 bd37 15 ?_
 unfold diwanlaw11_Group_run at h
 obtain ⟨⟨r1_1, r1_2⟩, h1_3, h⟩ := bd_inv h
 refine kRs 7 [Tm 4 (iv r1_1), Ob 1001 [sS 1 e_u8 r1_2.l, iv r1_2.n]] [.a ⟨iv r1_1, [[sS 1 e_u8 r1_2.l, iv r1_2.n]]⟩] (.c (Asks.of (C := Meets Try.prog) (diwanplay_Picks_Num.meets 13 o1_v _ _ h1_3)) .n) ?_
 obtain ⟨⟨r2_1, r2_2⟩, h2_3, h⟩ := bd_inv h
 refine kRs 29 [Tm 5 (iv r2_1), Ob 1001 [sS 1 e_u8 r2_2.l, iv r2_2.n]] [.s (.t 16) [iv (o0_v.M.length : Int)], .a ⟨iv r2_1, [[sS 1 e_u8 r2_2.l, iv r2_2.n]]⟩] (.c (c_len (e := TRaft.en) (l := o0_v.M)) (.c (Asks.of (C := Meets Try.prog) (diwanplay_Picks_Num.meets (o0_v.M.length : Int) r1_2 _ _ h2_3)) .n)) ?_
 refine kRs 63 [Tm 6 (iv 0)] [] .n ?_
 obtain ⟨k7, hk7, h⟩ := jn_inv h
 have Jk7 : ∀ (j7_2 : Int) (j7_4 : TPicks), k7 j7_2 j7_4 = some (z0, z1) → WK Try.prog diwanlaw11_Group_run.O (Ck Try.prog) (cR (cR (cR (cR bd37)))) [] (ofL [Tm 0 (.ptr 1000 0), Tm 1 (.ptr 1001 0), Tm 4 (iv r1_1), Tm 5 (iv r2_1), Tm 6 (iv j7_2), Ob 1000 [sO 13 TRaft.en o0_v.M, sO 24 TMsg.en o0_v.Mail], Ob 1001 [sS 1 e_u8 j7_4.l, iv j7_4.n]]) (Fin Try.prog diwanlaw11_Group_run.O Try.f37 2 ⟨.tup [], [[sO 13 TRaft.en z0.M, sO 24 TMsg.en z0.Mail], [sS 1 e_u8 z1.l, iv z1.n]]⟩) := by
  intro j7_2 j7_4 h
  rw [hk7] at h
  refine kRs 127 [Tm 7 (.data (.slc false (some true) 24 (List.map TMsg.en [])))] [] .n ?_
  obtain ⟨k28, hk28, h⟩ := jn_inv h
  have Jk28 : ∀ (j28_0 : List TMsg) (j28_1 : TGroup) (j28_2 : TPicks), k28 j28_0 j28_1 j28_2 = some (z0, z1) → WK Try.prog diwanlaw11_Group_run.O (Ck Try.prog) (cR (cR (cR (cR (cR (cR bd37)))))) [] (ofL [Tm 0 (.ptr 1000 0), Tm 7 (sS 24 TMsg.en j28_0), Ob 1000 [sO 13 TRaft.en j28_1.M, sO 24 TMsg.en j28_1.Mail], Ob 1001 [sS 1 e_u8 j28_2.l, iv j28_2.n]]) (Fin Try.prog diwanlaw11_Group_run.O Try.f37 2 ⟨.tup [], [[sO 13 TRaft.en z0.M, sO 24 TMsg.en z0.Mail], [sS 1 e_u8 z1.l, iv z1.n]]⟩) := by
   intro j28_0 j28_1 j28_2 h
   rw [hk28] at h
   rcases br_inv h with ⟨b29_1, h⟩ | ⟨b29_1, h⟩
   ·refine kRs 15 [Tm 185 (bv (decide ((j28_0.length : Int) < 20)))] [.s (.t 179) [iv (j28_1.Mail.length : Int)], .b true, .b true, .s (.t 183) [iv (j28_0.length : Int)], .b true, .b true] (.c (c_len (e := TMsg.en) (l := j28_1.Mail)) (.r 2 b29_1 (.c (c_len (e := TMsg.en) (l := j28_0)) (.r 2 b29_1 .n)))) ?_
    rcases br_inv h with ⟨b30_0, h⟩ | ⟨b30_0, h⟩
    ·refine kCt b30_0 ?_
     obtain ⟨c31_1, h⟩ := gd_inv h
     have h_0 := some_inj h
     obtain ⟨g_1, h_1⟩ := Prod.mk.inj h_0
     subst g_1
     subst h_1
     exact kRf [.s (.t 192) [sO 24 TMsg.en (j28_1.Mail ++ j28_0)]] (.c (c_al (e := TMsg.en) (f := TMsg.en) c31_1) (.c (congrArg (fun d : DV => [AV.data d]) (c_app (e := TMsg.en) (s := 24) (l := j28_1.Mail) (m := j28_0))) .n))
    ·refine kCe b30_0 ?_
     refine kSk ?_
     have h_0 := some_inj h
     obtain ⟨g_1, h_1⟩ := Prod.mk.inj h_0
     subst g_1
     subst h_1
     exact kFn
   ·refine kRs 15 [Tm 185 (bv false)] (.s (.t 179) [iv (j28_1.Mail.length : Int)] :: (rp 4 (.b false) [])) (.c (c_len (e := TMsg.en) (l := j28_1.Mail)) (.r 4 b29_1 .n)) ?_
    refine kCe rF ?_
    refine kSk ?_
    have h_0 := some_inj h
    obtain ⟨g_1, h_1⟩ := Prod.mk.inj h_0
    subst g_1
    subst h_1
    exact kFn
  clear hk28
  refine kSq ?_
  refine kBk 0 ?_
  refine kRs 255 [Tm 96 (bv (decide (r1_1 < 3)))] [] .n ?_
  rcases br_inv h with ⟨b10_0, h⟩ | ⟨b10_0, h⟩
  ·refine kCt b10_0 ?_
   obtain ⟨x11_1, a11_2, e11_3, h⟩ := ix_inv h
   obtain ⟨⟨r11_4, r11_5⟩, h11_6, h⟩ := bd_inv h
   obtain ⟨x11_7, a11_8, e11_9, h⟩ := ix_inv h
   refine kRc 260 [Tm 7 (sS 24 TMsg.en r11_5), Ob 1000 [sO 13 TRaft.en (o0_v.M.set r2_1.toNat r11_4), sO 24 TMsg.en o0_v.Mail]] [.c (TRaft.en x11_1), .a ⟨.tup [.data (TRaft.ag r11_4), sS 24 TMsg.en r11_5], []⟩, .c (TRaft.en x11_7), .s (.o 1000) [sO 13 TRaft.en (o0_v.M.set r2_1.toNat r11_4), sO 24 TMsg.en o0_v.Mail]] (.c (c_ix (e := TRaft.en) a11_2 e11_3) (.c (c_el (e := TRaft.en) e11_3) (.c (Asks.of (C := Meets Try.prog) (raft_Tick.meets fu x11_1 _ _ h11_6)) (.c (c_ix (e := TRaft.en) a11_8 e11_9) (.c (c_el (e := TRaft.en) e11_9) (.c (congrArg (fun d : DV => [AV.data d, sO 24 TMsg.en o0_v.Mail]) (c_set (e := TRaft.en) (s := 13) (nl := none) (l := o0_v.M) (i := r2_1.toNat) (x := r11_4))) (.c rT .n))))))) (cR (cR (cR (cR (cR (cR bd37)))))) [] ?_
   exact kWk (Jk28 r11_5 (TGroup.mk (o0_v.M.set r2_1.toNat r11_4) o0_v.Mail) j7_4 h)
  ·refine kCe b10_0 ?_
   refine kRs 510 [Tm 116 (bv (r1_1 == 11))] [] .n ?_
   rcases br_inv h with ⟨b13_0, h⟩ | ⟨b13_0, h⟩
   ·refine kCt b13_0 ?_
    obtain ⟨x14_1, a14_2, e14_3, h⟩ := ix_inv h
    obtain ⟨⟨r14_4, r14_5⟩, h14_6, h⟩ := bd_inv h
    obtain ⟨⟨r14_7, r14_8, r14_9⟩, h14_10, h⟩ := bd_inv h
    obtain ⟨x14_11, a14_12, e14_13, h⟩ := ix_inv h
    refine kRc 4 [Tm 7 (sS 24 TMsg.en r14_8), Ob 1000 [sO 13 TRaft.en (o0_v.M.set r2_1.toNat r14_7), sO 24 TMsg.en o0_v.Mail], Ob 1001 [sS 1 e_u8 r14_5.l, iv r14_5.n]] [.c (TRaft.en x14_1), .a ⟨.data (TTxn.ag_0011 r14_4), [[sS 1 e_u8 r14_5.l, iv r14_5.n]]⟩, .a ⟨.tup [.data (TRaft.ag r14_7), sS 24 TMsg.en r14_8, bv r14_9], []⟩, .c (TRaft.en x14_11), .s (.o 1000) [sO 13 TRaft.en (o0_v.M.set r2_1.toNat r14_7), sO 24 TMsg.en o0_v.Mail]] (.c (c_ix (e := TRaft.en) a14_2 e14_3) (.c (c_el (e := TRaft.en) e14_3) (.c (Asks.of (C := Meets Try.prog) (diwanplay_Picks_Txn.meets fu 3 j7_4 _ _ h14_6)) (.c (Asks.of (C := Meets Try.prog) (raft_Propose.meets fu x14_1 (TEntry.mk 0 false r14_4) _ _ _ h14_10)) (.c (c_ix (e := TRaft.en) a14_12 e14_13) (.c (c_el (e := TRaft.en) e14_13) (.c (congrArg (fun d : DV => [AV.data d, sO 24 TMsg.en o0_v.Mail]) (c_set (e := TRaft.en) (s := 13) (nl := none) (l := o0_v.M) (i := r2_1.toNat) (x := r14_7))) (.c rT .n)))))))) (cR (cR (cR (cR (cR (cR bd37)))))) [] ?_
    exact kWk (Jk28 r14_8 (TGroup.mk (o0_v.M.set r2_1.toNat r14_7) o0_v.Mail) r14_5 h)
   ·refine kCe b13_0 ?_
    refine kRs 502 [Tm 140 (bv (r1_1 == 12))] [] .n ?_
    rcases br_inv h with ⟨b16_0, h⟩ | ⟨b16_0, h⟩
    ·refine kCt b16_0 ?_
     obtain ⟨x17_1, a17_2, e17_3, h⟩ := ix_inv h
     obtain ⟨r17_4, h17_5, h⟩ := bd_inv h
     obtain ⟨x17_6, a17_7, e17_8, h⟩ := ix_inv h
     refine kRc 134 [Ob 1000 [sO 13 TRaft.en (o0_v.M.set r2_1.toNat r17_4), sO 24 TMsg.en o0_v.Mail]] [.c (TRaft.en x17_1), .a ⟨.data (TRaft.ag_000001000111 r17_4), []⟩, .c (TRaft.en x17_6), .s (.o 1000) [sO 13 TRaft.en (o0_v.M.set r2_1.toNat r17_4), sO 24 TMsg.en o0_v.Mail]] (.c (c_ix (e := TRaft.en) a17_2 e17_3) (.c (c_el (e := TRaft.en) e17_3) (.c (Asks.of (C := Meets Try.prog) (raft_Again.meets fu x17_1 _ h17_5)) (.c (c_ix (e := TRaft.en) a17_7 e17_8) (.c (c_el (e := TRaft.en) e17_8) (.c (congrArg (fun d : DV => [AV.data d, sO 24 TMsg.en o0_v.Mail]) (c_set (e := TRaft.en) (s := 13) (nl := none) (l := o0_v.M) (i := r2_1.toNat) (x := r17_4))) (.c rT .n))))))) (cR (cR (cR (cR (cR (cR bd37)))))) [] ?_
     exact kWk (Jk28 [] (TGroup.mk (o0_v.M.set r2_1.toNat r17_4) o0_v.Mail) j7_4 h)
    ·refine kCe b16_0 ?_
     refine kRs 238 [Tm 157 (bv ((o0_v.Mail.length : Int) == 0))] [.s (.t 162) [iv (o0_v.Mail.length : Int)]] (.c (c_len (e := TMsg.en) (l := o0_v.Mail)) .n) ?_
     rcases br_inv h with ⟨b19_0, h⟩ | ⟨b19_0, h⟩
     ·refine kCt b19_0 ?_
      refine kSk ?_
      refine kCd (cR (cR (cR (cR (cR (cR bd37)))))) [] ?_
      exact kWk (Jk28 [] o0_v j7_4 h)
     ·refine kCe b19_0 ?_
      refine kRs 126 [Tm 164 (bv (r1_1 == 10))] [] .n ?_
      rcases br_inv h with ⟨b21_0, h⟩ | ⟨b21_0, h⟩
      ·refine kCt b21_0 ?_
       obtain ⟨x22_1, a22_2, e22_3, h⟩ := ix_inv h
       refine kRc 100 [Tm 7 (.data (.slc false (some false) 24 (List.map TMsg.en ([x22_1] : List TMsg))))] [.c (TMsg.en x22_1)] (.c (c_ix (e := TMsg.en) a22_2 e22_3) (.c (c_el (e := TMsg.en) e22_3) .n)) (cR (cR (cR (cR (cR (cR bd37)))))) [] ?_
       exact kWk (Jk28 ([x22_1] : List TMsg) o0_v j7_4 h)
      ·refine kCe b21_0 ?_
       obtain ⟨x23_1, a23_2, e23_3, h⟩ := ix_inv h
       refine kRs 126 [Tm 8 (.ptr 8 0), Ob 8 (TMsg.ob x23_1)] [.c (TMsg.en x23_1)] (.c (c_ix (e := TMsg.en) a23_2 e23_3) (.c (c_el (e := TMsg.en) e23_3) .n)) ?_
       refine kSo 1000 1 191 [Ob 1000 [sO 13 TRaft.en o0_v.M, sS 24 TMsg.en o0_v.Mail]] ?_
       obtain ⟨c24_1, h⟩ := gd_inv h
       obtain ⟨c24_2, h⟩ := gd_inv h
       obtain ⟨c24_3, h⟩ := gd_inv h
       obtain ⟨c24_4, h⟩ := gd_inv h
       refine kRs 190 [Ob 1000 [sO 13 TRaft.en o0_v.M, sO 24 TMsg.en ((List.take j7_2.toNat o0_v.Mail) ++ (List.drop (w64 (j7_2 + 1)).toNat o0_v.Mail))]] [.s (.t 45) [sS 24 TMsg.en (List.take j7_2.toNat o0_v.Mail)], .s (.t 53) [sS 24 TMsg.en (List.drop (w64 (j7_2 + 1)).toNat o0_v.Mail)], .s (.t 54) [sO 24 TMsg.en ((List.take j7_2.toNat o0_v.Mail) ++ (List.drop (w64 (j7_2 + 1)).toNat o0_v.Mail))]] (.c (c_cbH (e := TMsg.en) c24_1) (.c (congrArg (fun d : DV => [AV.data d]) (c_cutH (own := false) (nl := none) (s := 24) (e := TMsg.en) (l := o0_v.Mail) (h := j7_2.toNat))) (.c (c_al (e := TMsg.en) (f := TMsg.en) c24_2) (.c (c_cbL (e := TMsg.en) c24_3) (.c (congrArg (fun d : DV => [AV.data d]) (c_cutL (own := false) (nl := none) (s := 24) (e := TMsg.en) (l := o0_v.Mail) (lo := (w64 (j7_2 + 1)).toNat))) (.c (c_al (e := TMsg.en) (f := TMsg.en) c24_4) (.c (congrArg (fun d : DV => [AV.data d]) (c_app (e := TMsg.en) (s := 24) (l := (List.take j7_2.toNat o0_v.Mail)) (m := (List.drop (w64 (j7_2 + 1)).toNat o0_v.Mail)))) (.c rT .n)))))))) ?_
       rcases br_inv h with ⟨b25_1, h⟩ | ⟨b25_1, h⟩
       ·rcases br_inv h with ⟨b25_2, h⟩ | ⟨b25_2, h⟩
        ·refine kRs 95 [Tm 73 (bv (decide (x23_1.To ≤ (o0_v.M.length : Int))))] (rp 11 (.b true) [.s (.t 71) [iv (o0_v.M.length : Int)], .b true, .b true]) (.r 4 b25_1 (.r 7 b25_2 (.c (c_len (e := TRaft.en) (l := o0_v.M)) (.r 2 b25_2 (.c rT .n))))) ?_
         rcases br_inv h with ⟨b26_0, h⟩ | ⟨b26_0, h⟩
         ·refine kCt b26_0 ?_
          obtain ⟨x27_1, a27_2, e27_3, h⟩ := ix_inv h
          obtain ⟨⟨r27_4, r27_5⟩, h27_6, h⟩ := bd_inv h
          obtain ⟨x27_7, a27_8, e27_9, h⟩ := ix_inv h
          refine kRc 96 [Tm 7 (sS 24 TMsg.en r27_5), Ob 1000 [sO 13 TRaft.en (o0_v.M.set (w64 (x23_1.To - 1)).toNat r27_4), sO 24 TMsg.en ((List.take j7_2.toNat o0_v.Mail) ++ (List.drop (w64 (j7_2 + 1)).toNat o0_v.Mail))]] [.c (TRaft.en x27_1), .a ⟨.tup [.data (TRaft.ag r27_4), sS 24 TMsg.en r27_5], []⟩, .c (TRaft.en x27_7), .s (.o 1000) [sO 13 TRaft.en (o0_v.M.set (w64 (x23_1.To - 1)).toNat r27_4), sO 24 TMsg.en ((List.take j7_2.toNat o0_v.Mail) ++ (List.drop (w64 (j7_2 + 1)).toNat o0_v.Mail))]] (.c (c_ix (e := TRaft.en) a27_2 e27_3) (.c (c_el (e := TRaft.en) e27_3) (.c (Asks.of (C := Meets Try.prog) (raft_Take.meets fu x27_1 x23_1 _ _ h27_6)) (.c (c_ix (e := TRaft.en) a27_8 e27_9) (.c (c_el (e := TRaft.en) e27_9) (.c (congrArg (fun d : DV => [AV.data d, sO 24 TMsg.en ((List.take j7_2.toNat o0_v.Mail) ++ (List.drop (w64 (j7_2 + 1)).toNat o0_v.Mail))]) (c_set (e := TRaft.en) (s := 13) (nl := none) (l := o0_v.M) (i := (w64 (x23_1.To - 1)).toNat) (x := r27_4))) (.c rT .n))))))) (cR (cR (cR (cR (cR (cR bd37)))))) [] ?_
          exact kWk (Jk28 r27_5 (TGroup.mk (o0_v.M.set (w64 (x23_1.To - 1)).toNat r27_4) ((List.take j7_2.toNat o0_v.Mail) ++ (List.drop (w64 (j7_2 + 1)).toNat o0_v.Mail))) j7_4 h)
         ·refine kCe b26_0 ?_
          refine kSk ?_
          refine kCd (cR (cR (cR (cR (cR (cR bd37)))))) [] ?_
          exact kWk (Jk28 [] (TGroup.mk o0_v.M ((List.take j7_2.toNat o0_v.Mail) ++ (List.drop (w64 (j7_2 + 1)).toNat o0_v.Mail))) j7_4 h)
        ·refine kRs 95 [Tm 73 (bv false)] (rp 4 (.b true) (rp 9 (.b false) [])) (.r 4 b25_1 (.r 9 b25_2 (.c rT .n))) ?_
         refine kCe rF ?_
         refine kSk ?_
         refine kCd (cR (cR (cR (cR (cR (cR bd37)))))) [] ?_
         exact kWk (Jk28 [] (TGroup.mk o0_v.M ((List.take j7_2.toNat o0_v.Mail) ++ (List.drop (w64 (j7_2 + 1)).toNat o0_v.Mail))) j7_4 h)
       ·refine kRs 95 [Tm 73 (bv false)] (rp 13 (.b false) []) (.r 4 b25_1 (.r 9 rF (.c rT .n))) ?_
        refine kCe rF ?_
        refine kSk ?_
        refine kCd (cR (cR (cR (cR (cR (cR bd37)))))) [] ?_
        exact kWk (Jk28 [] (TGroup.mk o0_v.M ((List.take j7_2.toNat o0_v.Mail) ++ (List.drop (w64 (j7_2 + 1)).toNat o0_v.Mail))) j7_4 h)
 clear hk7
 refine kSq ?_
 refine kRs 127 [Tm 23 (bv (decide ((o0_v.Mail.length : Int) > 0)))] [.s (.t 22) [iv (o0_v.Mail.length : Int)]] (.c (c_len (e := TMsg.en) (l := o0_v.Mail)) .n) ?_
 rcases br_inv h with ⟨b5_0, h⟩ | ⟨b5_0, h⟩
 ·refine kCt b5_0 ?_
  obtain ⟨⟨r6_1, r6_2⟩, h6_3, h⟩ := bd_inv h
  refine kRc 244 [Tm 6 (iv r6_1), Ob 1001 [sS 1 e_u8 r6_2.l, iv r6_2.n]] [.s (.t 29) [iv (o0_v.Mail.length : Int)], .a ⟨iv r6_1, [[sS 1 e_u8 r6_2.l, iv r6_2.n]]⟩] (.c (c_len (e := TMsg.en) (l := o0_v.Mail)) (.c (Asks.of (C := Meets Try.prog) (diwanplay_Picks_Num.meets (o0_v.Mail.length : Int) r2_2 _ _ h6_3)) .n)) (cR (cR (cR (cR bd37)))) [] ?_
  exact kWk (Jk7 r6_1 r6_2 h)
 ·refine kCe b5_0 ?_
  refine kSk ?_
  refine kCd (cR (cR (cR (cR bd37)))) [] ?_
  exact kWk (Jk7 0 r2_2 h)
def bd17 : Code := (Try.f17.body).getD .skip
def diwanref11_May.O : Nat → Nat := fun t => bif ([1, 2, 3] : List Nat).any (Nat.beq t) then 1 else 0
def diwanref11_May.lp25 (fu : Nat) (l25_1 : TRaft) : Nat → Int → Option (Unit ⊕ Unit)
  | 0, _ => none
  | n_ + 1, l25_0 =>
  br (decide (l25_0 < (l25_1.Log.length : Int)))
   (ix l25_1.Log l25_0 fun x28_1 =>
   br (decide (x28_1.Term < 1))
    (some (.inr ()))
    (ix l25_1.Log l25_0 fun x28_5 =>
    br (decide (x28_5.Term > l25_1.Term))
     (some (.inr ()))
     (br (decide (l25_0 > 0))
      (ix l25_1.Log l25_0 fun x28_10 =>
      ix l25_1.Log (w64 (l25_0 - 1)) fun x28_13 =>
      br (decide (x28_10.Term < x28_13.Term))
       (some (.inr ()))
       (diwanref11_May.lp25 fu l25_1 n_ (w64 (l25_0 + 1))))
      (diwanref11_May.lp25 fu l25_1 n_ (w64 (l25_0 + 1))))))
   (some (.inl ()))
def diwanref11_May.lp25_post (l25_1 : TRaft) (r_ : (Unit ⊕ Unit)) : Wy → St → Prop := fun e τ => match r_ with
  | .inl _ => e = .exit 0 ∧ τ = ofL []
  | .inr _ => e = .ret ∧ τ = ofL [Tm 2 (bv false)]
theorem diwanref11_May.lp25_ok (fu : Nat) (l25_1 : TRaft) : ∀ (n_ : Nat) (l25_0 : Int) (r_ : (Unit ⊕ Unit)), diwanref11_May.lp25 fu l25_1 n_ l25_0 = some r_ → WK Try.prog diwanref11_May.O (Ck Try.prog) (cB (cR (cL (cR (cR bd17))))) [] (ofL [Tm 1 (.ptr 1 0), Tm 3 (iv l25_0), Ob 1 (TRaft.ob l25_1)]) (diwanref11_May.lp25_post l25_1 r_) := by
 intro n_
 induction n_ with
 | zero => intro l25_0 r_ h; exact no_none h
 | succ n_ ih =>
  intro l25_0 r_ h
  refine kLp ?_
  refine kSq ?_
  refine kRs 7 [Tm 125 (bv (decide (l25_0 < (l25_1.Log.length : Int))))] [.s (.t 124) [iv (l25_1.Log.length : Int)]] (.c (c_len (e := TEntry.en) (l := l25_1.Log)) .n) ?_
  rcases br_inv h with ⟨b27_0, h⟩ | ⟨b27_0, h⟩
  ·refine kCt b27_0 ?_
   refine kSk ?_
   refine kCd (cR (cB (cB (cR (cL (cR (cR bd17))))))) [.lp (cB (cR (cL (cR (cR bd17)))))] ?_
   refine kSq ?_
   refine kBk 1 ?_
   obtain ⟨x28_1, a28_2, e28_3, h⟩ := ix_inv h
   rcases br_inv h with ⟨b28_4, h⟩ | ⟨b28_4, h⟩
   ·refine kRs 14 [Tm 165 (bv true)] (.c (TEntry.en x28_1) :: (rp 15 (.b true) [])) (.c (c_ix (e := TEntry.en) a28_2 e28_3) (.c (c_el (e := TEntry.en) e28_3) (.r 10 b28_4 (.r 6 rT .n)))) ?_
    refine kCt rT ?_
    refine kRs 0 [Tm 2 (bv false)] [] .n ?_
    cases some_inj h
    refine kWo ?_
    refine kRt ?_
    exact kOut
   ·obtain ⟨x28_5, a28_6, e28_7, h⟩ := ix_inv h
    rcases br_inv h with ⟨b28_8, h⟩ | ⟨b28_8, h⟩
    ·refine kRs 14 [Tm 165 (bv true)] (.c (TEntry.en x28_1) :: (rp 4 (.b false) (.c (TEntry.en x28_5) :: (rp 6 (.b false) (rp 5 (.b true) []))))) (.c (c_ix (e := TEntry.en) a28_2 e28_3) (.c (c_el (e := TEntry.en) e28_3) (.r 4 b28_4 (.c (c_ix (e := TEntry.en) a28_6 e28_7) (.c (c_el (e := TEntry.en) e28_7) (.r 6 b28_4 (.r 5 b28_8 (.c rT .n)))))))) ?_
     refine kCt rT ?_
     refine kRs 0 [Tm 2 (bv false)] [] .n ?_
     cases some_inj h
     refine kWo ?_
     refine kRt ?_
     exact kOut
    ·rcases br_inv h with ⟨b28_9, h⟩ | ⟨b28_9, h⟩
     ·obtain ⟨x28_10, a28_11, e28_12, h⟩ := ix_inv h
      obtain ⟨x28_13, a28_14, e28_15, h⟩ := ix_inv h
      refine kRs 14 [Tm 165 (bv (decide (x28_10.Term < x28_13.Term)))] (.c (TEntry.en x28_1) :: (rp 4 (.b false) (.c (TEntry.en x28_5) :: (rp 9 (.b false) (rp 4 (.b true) (.c (TEntry.en x28_10) :: (rp 7 (.b true) [.c (TEntry.en x28_13), .b true, .b true, .b true, .b false, .b true, .b false]))))))) (.c (c_ix (e := TEntry.en) a28_2 e28_3) (.c (c_el (e := TEntry.en) e28_3) (.r 4 b28_4 (.c (c_ix (e := TEntry.en) a28_6 e28_7) (.c (c_el (e := TEntry.en) e28_7) (.r 6 b28_4 (.r 3 b28_8 (.r 4 b28_9 (.c (c_ix (e := TEntry.en) a28_11 e28_12) (.c (c_el (e := TEntry.en) e28_12) (.r 7 b28_9 (.c (c_ix (e := TEntry.en) a28_14 e28_15) (.c (c_el (e := TEntry.en) e28_15) (.r 3 b28_9 (.c b28_8 (.c b28_9 (.c b28_8 (.c rT .n)))))))))))))))))) ?_
      rcases br_inv h with ⟨b31_0, h⟩ | ⟨b31_0, h⟩
      ·refine kCt b31_0 ?_
       refine kRs 0 [Tm 2 (bv false)] [] .n ?_
       cases some_inj h
       refine kWo ?_
       refine kRt ?_
       exact kOut
      ·refine kCe b31_0 ?_
       refine kSk ?_
       refine kCd (cR (cR (cB (cB (cR (cL (cR (cR bd17)))))))) [.lp (cB (cR (cL (cR (cR bd17)))))] ?_
       refine kRc 10 [Tm 3 (iv (w64 (l25_0 + 1)))] [] .n (cB (cR (cL (cR (cR bd17))))) [] ?_
       exact kWk (ih (w64 (l25_0 + 1)) _ h)
     ·refine kRs 14 [Tm 165 (bv false)] (.c (TEntry.en x28_1) :: (rp 4 (.b false) (.c (TEntry.en x28_5) :: (rp 26 (.b false) [])))) (.c (c_ix (e := TEntry.en) a28_2 e28_3) (.c (c_el (e := TEntry.en) e28_3) (.r 4 b28_4 (.c (c_ix (e := TEntry.en) a28_6 e28_7) (.c (c_el (e := TEntry.en) e28_7) (.r 6 b28_4 (.r 3 b28_8 (.r 14 b28_9 (.c b28_8 (.c b28_9 (.c b28_8 (.c rT .n)))))))))))) ?_
      refine kCe rF ?_
      refine kSk ?_
      refine kCd (cR (cR (cB (cB (cR (cL (cR (cR bd17)))))))) [.lp (cB (cR (cL (cR (cR bd17)))))] ?_
      refine kRc 10 [Tm 3 (iv (w64 (l25_0 + 1)))] [] .n (cB (cR (cL (cR (cR bd17))))) [] ?_
      exact kWk (ih (w64 (l25_0 + 1)) _ h)
  ·refine kCe b27_0 ?_
   cases some_inj h
   refine kWo ?_
   refine kXt 0 ?_
   exact kOut
def diwanref11_May (fu : Nat) (r_v : TRaft) : Option Bool :=
 br (decide (r_v.Nodes < 1))
  (some false)
  (br (decide (r_v.Nodes > 5))
   (some false)
   (br (decide (r_v.Me < 1))
    (some false)
    (br (decide (r_v.Me > r_v.Nodes))
     (some false)
     (br (decide (r_v.Wait < 1))
      (some false)
      (br (decide (r_v.Wait > 60))
       (some false)
       (br (decide (r_v.Term < 0))
        (some false)
        (br (decide (r_v.Vote < 0))
         (some false)
         (br (decide (r_v.Vote > r_v.Nodes))
          (some false)
          (br (decide (r_v.Leader < 0))
           (some false)
           (br (decide (r_v.Leader > r_v.Nodes))
            (some false)
            (br (decide ((r_v.Log.length : Int) > 200))
             (some false)
             (br (decide (r_v.Commit < 0))
              (some false)
              (br (decide (r_v.Commit > (r_v.Log.length : Int)))
               (some false)
               (br (decide (r_v.Role < 0))
                (some false)
                (br (decide (r_v.Role > 2))
                 (some false)
                 (br ((r_v.Votes.length : Int) != r_v.Nodes)
                  (some false)
                  (br ((r_v.Next.length : Int) != r_v.Nodes)
                   (some false)
                   (br ((r_v.Match.length : Int) != r_v.Nodes)
                    (some false)
                    (br (decide (r_v.Clock < 0))
                     (some false)
                     (bd (diwanref11_May.lp25 fu r_v fu 0) fun o_ => (match o_ with
                     | .inl _ =>
                      some true
                     | .inr _ =>
                      some false)))))))))))))))))))))
theorem diwanref11_May.meets (fu : Nat) (r_v : TRaft) (z0 : Bool) (h : diwanref11_May fu r_v = some z0) : Meets Try.prog ⟨17, [.data (TRaft.ag r_v)], []⟩ ⟨bv z0, []⟩ := by
 refine kMt hmix diwanref11_May.O Try.f17 bd17 1 ?_
 unfold diwanref11_May at h
 refine kRs 0 [Tm 1 (.ptr 1 0), Ob 1 (TRaft.ob r_v)] [] .n ?_
 refine kSq ?_
 rcases br_inv h with ⟨b2_1, h⟩ | ⟨b2_1, h⟩
 ·refine kRs 3 [Tm 120 (bv true)] (rp 95 (.b true) []) (.r 4 b2_1 (.r 91 rT .n)) ?_
  refine kCt rT ?_
  refine kRs 0 [Tm 2 (bv false)] [] .n ?_
  refine kRt ?_
  have h_ := some_inj h
  subst h_
  exact kFr
 ·rcases br_inv h with ⟨b2_2, h⟩ | ⟨b2_2, h⟩
  ·refine kRs 3 [Tm 120 (bv true)] (rp 4 (.b false) (rp 91 (.b true) [])) (.r 4 b2_1 (.r 4 b2_2 (.r 87 rT .n))) ?_
   refine kCt rT ?_
   refine kRs 0 [Tm 2 (bv false)] [] .n ?_
   refine kRt ?_
   have h_ := some_inj h
   subst h_
   exact kFr
  ·rcases br_inv h with ⟨b2_3, h⟩ | ⟨b2_3, h⟩
   ·refine kRs 3 [Tm 120 (bv true)] (rp 8 (.b false) (rp 87 (.b true) [])) (.r 4 b2_1 (.r 4 b2_2 (.r 6 b2_3 (.r 81 rT .n)))) ?_
    refine kCt rT ?_
    refine kRs 0 [Tm 2 (bv false)] [] .n ?_
    refine kRt ?_
    have h_ := some_inj h
    subst h_
    exact kFr
   ·rcases br_inv h with ⟨b2_4, h⟩ | ⟨b2_4, h⟩
    ·refine kRs 3 [Tm 120 (bv true)] (rp 14 (.b false) (rp 81 (.b true) [])) (.r 4 b2_1 (.r 4 b2_2 (.r 6 b2_3 (.r 4 b2_4 (.r 77 rT .n))))) ?_
     refine kCt rT ?_
     refine kRs 0 [Tm 2 (bv false)] [] .n ?_
     refine kRt ?_
     have h_ := some_inj h
     subst h_
     exact kFr
    ·rcases br_inv h with ⟨b2_5, h⟩ | ⟨b2_5, h⟩
     ·refine kRs 3 [Tm 120 (bv true)] (rp 18 (.b false) (rp 77 (.b true) [])) (.r 4 b2_1 (.r 4 b2_2 (.r 6 b2_3 (.r 4 b2_4 (.r 4 b2_5 (.r 73 rT .n)))))) ?_
      refine kCt rT ?_
      refine kRs 0 [Tm 2 (bv false)] [] .n ?_
      refine kRt ?_
      have h_ := some_inj h
      subst h_
      exact kFr
     ·rcases br_inv h with ⟨b2_6, h⟩ | ⟨b2_6, h⟩
      ·refine kRs 3 [Tm 120 (bv true)] (rp 22 (.b false) (rp 73 (.b true) [])) (.r 4 b2_1 (.r 4 b2_2 (.r 6 b2_3 (.r 4 b2_4 (.r 4 b2_5 (.r 4 b2_6 (.r 69 rT .n))))))) ?_
       refine kCt rT ?_
       refine kRs 0 [Tm 2 (bv false)] [] .n ?_
       refine kRt ?_
       have h_ := some_inj h
       subst h_
       exact kFr
      ·rcases br_inv h with ⟨b2_7, h⟩ | ⟨b2_7, h⟩
       ·refine kRs 3 [Tm 120 (bv true)] (rp 26 (.b false) (rp 69 (.b true) [])) (.r 4 b2_1 (.r 4 b2_2 (.r 6 b2_3 (.r 4 b2_4 (.r 4 b2_5 (.r 4 b2_6 (.r 4 b2_7 (.r 65 rT .n)))))))) ?_
        refine kCt rT ?_
        refine kRs 0 [Tm 2 (bv false)] [] .n ?_
        refine kRt ?_
        have h_ := some_inj h
        subst h_
        exact kFr
       ·rcases br_inv h with ⟨b2_8, h⟩ | ⟨b2_8, h⟩
        ·refine kRs 3 [Tm 120 (bv true)] (rp 30 (.b false) (rp 65 (.b true) [])) (.r 4 b2_1 (.r 4 b2_2 (.r 6 b2_3 (.r 4 b2_4 (.r 4 b2_5 (.r 4 b2_6 (.r 4 b2_7 (.r 6 b2_8 (.r 59 rT .n))))))))) ?_
         refine kCt rT ?_
         refine kRs 0 [Tm 2 (bv false)] [] .n ?_
         refine kRt ?_
         have h_ := some_inj h
         subst h_
         exact kFr
        ·rcases br_inv h with ⟨b2_9, h⟩ | ⟨b2_9, h⟩
         ·refine kRs 3 [Tm 120 (bv true)] (rp 36 (.b false) (rp 59 (.b true) [])) (.r 4 b2_1 (.r 4 b2_2 (.r 6 b2_3 (.r 4 b2_4 (.r 4 b2_5 (.r 4 b2_6 (.r 4 b2_7 (.r 6 b2_8 (.r 4 b2_9 (.r 55 rT .n)))))))))) ?_
          refine kCt rT ?_
          refine kRs 0 [Tm 2 (bv false)] [] .n ?_
          refine kRt ?_
          have h_ := some_inj h
          subst h_
          exact kFr
         ·rcases br_inv h with ⟨b2_10, h⟩ | ⟨b2_10, h⟩
          ·refine kRs 3 [Tm 120 (bv true)] (rp 40 (.b false) (rp 55 (.b true) [])) (.r 4 b2_1 (.r 4 b2_2 (.r 6 b2_3 (.r 4 b2_4 (.r 4 b2_5 (.r 4 b2_6 (.r 4 b2_7 (.r 6 b2_8 (.r 4 b2_9 (.r 6 b2_10 (.r 49 rT .n))))))))))) ?_
           refine kCt rT ?_
           refine kRs 0 [Tm 2 (bv false)] [] .n ?_
           refine kRt ?_
           have h_ := some_inj h
           subst h_
           exact kFr
          ·rcases br_inv h with ⟨b2_11, h⟩ | ⟨b2_11, h⟩
           ·refine kRs 3 [Tm 120 (bv true)] (rp 46 (.b false) (rp 49 (.b true) [])) (.r 4 b2_1 (.r 4 b2_2 (.r 6 b2_3 (.r 4 b2_4 (.r 4 b2_5 (.r 4 b2_6 (.r 4 b2_7 (.r 6 b2_8 (.r 4 b2_9 (.r 6 b2_10 (.r 5 b2_11 (.r 44 rT .n)))))))))))) ?_
            refine kCt rT ?_
            refine kRs 0 [Tm 2 (bv false)] [] .n ?_
            refine kRt ?_
            have h_ := some_inj h
            subst h_
            exact kFr
           ·rcases br_inv h with ⟨b2_12, h⟩ | ⟨b2_12, h⟩
            ·refine kRs 3 [Tm 120 (bv true)] (rp 49 (.b false) (.s (.t 66) [iv (r_v.Log.length : Int)] :: (.b false :: (.b false :: (rp 44 (.b true) []))))) (.r 4 b2_1 (.r 4 b2_2 (.r 6 b2_3 (.r 4 b2_4 (.r 4 b2_5 (.r 4 b2_6 (.r 4 b2_7 (.r 6 b2_8 (.r 4 b2_9 (.r 6 b2_10 (.r 3 b2_11 (.c (c_len (e := TEntry.en) (l := r_v.Log)) (.r 2 b2_11 (.r 4 b2_12 (.r 40 rT .n))))))))))))))) ?_
             refine kCt rT ?_
             refine kRs 0 [Tm 2 (bv false)] [] .n ?_
             refine kRt ?_
             have h_ := some_inj h
             subst h_
             exact kFr
            ·rcases br_inv h with ⟨b2_13, h⟩ | ⟨b2_13, h⟩
             ·refine kRs 3 [Tm 120 (bv true)] (rp 49 (.b false) (.s (.t 66) [iv (r_v.Log.length : Int)] :: (rp 6 (.b false) (rp 40 (.b true) [])))) (.r 4 b2_1 (.r 4 b2_2 (.r 6 b2_3 (.r 4 b2_4 (.r 4 b2_5 (.r 4 b2_6 (.r 4 b2_7 (.r 6 b2_8 (.r 4 b2_9 (.r 6 b2_10 (.r 3 b2_11 (.c (c_len (e := TEntry.en) (l := r_v.Log)) (.r 2 b2_11 (.r 4 b2_12 (.r 7 b2_13 (.r 33 rT .n)))))))))))))))) ?_
              refine kCt rT ?_
              refine kRs 0 [Tm 2 (bv false)] [] .n ?_
              refine kRt ?_
              have h_ := some_inj h
              subst h_
              exact kFr
             ·rcases br_inv h with ⟨b2_14, h⟩ | ⟨b2_14, h⟩
              ·refine kRs 3 [Tm 120 (bv true)] (rp 49 (.b false) (.s (.t 66) [iv (r_v.Log.length : Int)] :: (rp 11 (.b false) (.s (.t 79) [iv (r_v.Log.length : Int)] :: (.b false :: (.b false :: (rp 33 (.b true) []))))))) (.r 4 b2_1 (.r 4 b2_2 (.r 6 b2_3 (.r 4 b2_4 (.r 4 b2_5 (.r 4 b2_6 (.r 4 b2_7 (.r 6 b2_8 (.r 4 b2_9 (.r 6 b2_10 (.r 3 b2_11 (.c (c_len (e := TEntry.en) (l := r_v.Log)) (.r 2 b2_11 (.r 4 b2_12 (.r 5 b2_13 (.c (c_len (e := TEntry.en) (l := r_v.Log)) (.r 2 b2_13 (.r 4 b2_14 (.r 29 rT .n))))))))))))))))))) ?_
               refine kCt rT ?_
               refine kRs 0 [Tm 2 (bv false)] [] .n ?_
               refine kRt ?_
               have h_ := some_inj h
               subst h_
               exact kFr
              ·rcases br_inv h with ⟨b2_15, h⟩ | ⟨b2_15, h⟩
               ·refine kRs 3 [Tm 120 (bv true)] (rp 49 (.b false) (.s (.t 66) [iv (r_v.Log.length : Int)] :: (rp 11 (.b false) (.s (.t 79) [iv (r_v.Log.length : Int)] :: (rp 6 (.b false) (rp 29 (.b true) [])))))) (.r 4 b2_1 (.r 4 b2_2 (.r 6 b2_3 (.r 4 b2_4 (.r 4 b2_5 (.r 4 b2_6 (.r 4 b2_7 (.r 6 b2_8 (.r 4 b2_9 (.r 6 b2_10 (.r 3 b2_11 (.c (c_len (e := TEntry.en) (l := r_v.Log)) (.r 2 b2_11 (.r 4 b2_12 (.r 5 b2_13 (.c (c_len (e := TEntry.en) (l := r_v.Log)) (.r 2 b2_13 (.r 4 b2_14 (.r 4 b2_15 (.r 25 rT .n)))))))))))))))))))) ?_
                refine kCt rT ?_
                refine kRs 0 [Tm 2 (bv false)] [] .n ?_
                refine kRt ?_
                have h_ := some_inj h
                subst h_
                exact kFr
               ·rcases br_inv h with ⟨b2_16, h⟩ | ⟨b2_16, h⟩
                ·refine kRs 3 [Tm 120 (bv true)] (rp 49 (.b false) (.s (.t 66) [iv (r_v.Log.length : Int)] :: (rp 11 (.b false) (.s (.t 79) [iv (r_v.Log.length : Int)] :: (rp 10 (.b false) (rp 25 (.b true) [])))))) (.r 4 b2_1 (.r 4 b2_2 (.r 6 b2_3 (.r 4 b2_4 (.r 4 b2_5 (.r 4 b2_6 (.r 4 b2_7 (.r 6 b2_8 (.r 4 b2_9 (.r 6 b2_10 (.r 3 b2_11 (.c (c_len (e := TEntry.en) (l := r_v.Log)) (.r 2 b2_11 (.r 4 b2_12 (.r 5 b2_13 (.c (c_len (e := TEntry.en) (l := r_v.Log)) (.r 2 b2_13 (.r 4 b2_14 (.r 4 b2_15 (.r 7 b2_16 (.r 18 rT .n))))))))))))))))))))) ?_
                 refine kCt rT ?_
                 refine kRs 0 [Tm 2 (bv false)] [] .n ?_
                 refine kRt ?_
                 have h_ := some_inj h
                 subst h_
                 exact kFr
                ·rcases br_inv h with ⟨b2_17, h⟩ | ⟨b2_17, h⟩
                 ·refine kRs 3 [Tm 120 (bv true)] (rp 49 (.b false) (.s (.t 66) [iv (r_v.Log.length : Int)] :: (rp 11 (.b false) (.s (.t 79) [iv (r_v.Log.length : Int)] :: (rp 13 (.b false) (.s (.t 95) [iv (r_v.Votes.length : Int)] :: (rp 4 (.b false) (rp 18 (.b true) [])))))))) (.r 4 b2_1 (.r 4 b2_2 (.r 6 b2_3 (.r 4 b2_4 (.r 4 b2_5 (.r 4 b2_6 (.r 4 b2_7 (.r 6 b2_8 (.r 4 b2_9 (.r 6 b2_10 (.r 3 b2_11 (.c (c_len (e := TEntry.en) (l := r_v.Log)) (.r 2 b2_11 (.r 4 b2_12 (.r 5 b2_13 (.c (c_len (e := TEntry.en) (l := r_v.Log)) (.r 2 b2_13 (.r 4 b2_14 (.r 4 b2_15 (.r 3 b2_16 (.c (c_len (e := e_b) (l := r_v.Votes)) (.r 4 b2_16 (.r 7 b2_17 (.r 11 rT .n)))))))))))))))))))))))) ?_
                  refine kCt rT ?_
                  refine kRs 0 [Tm 2 (bv false)] [] .n ?_
                  refine kRt ?_
                  have h_ := some_inj h
                  subst h_
                  exact kFr
                 ·rcases br_inv h with ⟨b2_18, h⟩ | ⟨b2_18, h⟩
                  ·refine kRs 3 [Tm 120 (bv true)] (rp 49 (.b false) (.s (.t 66) [iv (r_v.Log.length : Int)] :: (rp 11 (.b false) (.s (.t 79) [iv (r_v.Log.length : Int)] :: (rp 13 (.b false) (.s (.t 95) [iv (r_v.Votes.length : Int)] :: (rp 7 (.b false) (.s (.t 103) [iv (r_v.Next.length : Int)] :: (rp 4 (.b false) (rp 11 (.b true) [])))))))))) (.r 4 b2_1 (.r 4 b2_2 (.r 6 b2_3 (.r 4 b2_4 (.r 4 b2_5 (.r 4 b2_6 (.r 4 b2_7 (.r 6 b2_8 (.r 4 b2_9 (.r 6 b2_10 (.r 3 b2_11 (.c (c_len (e := TEntry.en) (l := r_v.Log)) (.r 2 b2_11 (.r 4 b2_12 (.r 5 b2_13 (.c (c_len (e := TEntry.en) (l := r_v.Log)) (.r 2 b2_13 (.r 4 b2_14 (.r 4 b2_15 (.r 3 b2_16 (.c (c_len (e := e_b) (l := r_v.Votes)) (.r 4 b2_16 (.r 3 b2_17 (.c (c_len (e := e_i64) (l := r_v.Next)) (.r 4 b2_17 (.r 7 b2_18 (.r 4 rT .n))))))))))))))))))))))))))) ?_
                   refine kCt rT ?_
                   refine kRs 0 [Tm 2 (bv false)] [] .n ?_
                   refine kRt ?_
                   have h_ := some_inj h
                   subst h_
                   exact kFr
                  ·rcases br_inv h with ⟨b2_19, h⟩ | ⟨b2_19, h⟩
                   ·refine kRs 3 [Tm 120 (bv true)] (rp 49 (.b false) (.s (.t 66) [iv (r_v.Log.length : Int)] :: (rp 11 (.b false) (.s (.t 79) [iv (r_v.Log.length : Int)] :: (rp 13 (.b false) (.s (.t 95) [iv (r_v.Votes.length : Int)] :: (rp 7 (.b false) (.s (.t 103) [iv (r_v.Next.length : Int)] :: (rp 7 (.b false) (.s (.t 111) [iv (r_v.Match.length : Int)] :: (rp 4 (.b false) (rp 4 (.b true) [])))))))))))) (.r 4 b2_1 (.r 4 b2_2 (.r 6 b2_3 (.r 4 b2_4 (.r 4 b2_5 (.r 4 b2_6 (.r 4 b2_7 (.r 6 b2_8 (.r 4 b2_9 (.r 6 b2_10 (.r 3 b2_11 (.c (c_len (e := TEntry.en) (l := r_v.Log)) (.r 2 b2_11 (.r 4 b2_12 (.r 5 b2_13 (.c (c_len (e := TEntry.en) (l := r_v.Log)) (.r 2 b2_13 (.r 4 b2_14 (.r 4 b2_15 (.r 3 b2_16 (.c (c_len (e := e_b) (l := r_v.Votes)) (.r 4 b2_16 (.r 3 b2_17 (.c (c_len (e := e_i64) (l := r_v.Next)) (.r 4 b2_17 (.r 3 b2_18 (.c (c_len (e := e_i64) (l := r_v.Match)) (.r 4 b2_18 (.r 4 b2_19 .n))))))))))))))))))))))))))))) ?_
                    refine kCt rT ?_
                    refine kRs 0 [Tm 2 (bv false)] [] .n ?_
                    refine kRt ?_
                    have h_ := some_inj h
                    subst h_
                    exact kFr
                   ·refine kRs 3 [Tm 120 (bv (decide (r_v.Clock < 0)))] (rp 49 (.b false) (.s (.t 66) [iv (r_v.Log.length : Int)] :: (rp 11 (.b false) (.s (.t 79) [iv (r_v.Log.length : Int)] :: (rp 13 (.b false) (.s (.t 95) [iv (r_v.Votes.length : Int)] :: (rp 7 (.b false) (.s (.t 103) [iv (r_v.Next.length : Int)] :: (rp 7 (.b false) (.s (.t 111) [iv (r_v.Match.length : Int)] :: (rp 8 (.b false) []))))))))))) (.r 4 b2_1 (.r 4 b2_2 (.r 6 b2_3 (.r 4 b2_4 (.r 4 b2_5 (.r 4 b2_6 (.r 4 b2_7 (.r 6 b2_8 (.r 4 b2_9 (.r 6 b2_10 (.r 3 b2_11 (.c (c_len (e := TEntry.en) (l := r_v.Log)) (.r 2 b2_11 (.r 4 b2_12 (.r 5 b2_13 (.c (c_len (e := TEntry.en) (l := r_v.Log)) (.r 2 b2_13 (.r 4 b2_14 (.r 4 b2_15 (.r 3 b2_16 (.c (c_len (e := e_b) (l := r_v.Votes)) (.r 4 b2_16 (.r 3 b2_17 (.c (c_len (e := e_i64) (l := r_v.Next)) (.r 4 b2_17 (.r 3 b2_18 (.c (c_len (e := e_i64) (l := r_v.Match)) (.r 4 b2_18 (.r 4 b2_19 .n))))))))))))))))))))))))))))) ?_
                    rcases br_inv h with ⟨b22_0, h⟩ | ⟨b22_0, h⟩
                    ·refine kCt b22_0 ?_
                     refine kRs 0 [Tm 2 (bv false)] [] .n ?_
                     refine kRt ?_
                     have h_ := some_inj h
                     subst h_
                     exact kFr
                    ·refine kCe b22_0 ?_
                     refine kSk ?_
                     refine kCd (cR (cR bd17)) [] ?_
                     refine kSq ?_
                     refine kRs 6 [Tm 3 (iv 0)] [] .n ?_
                     refine kBk 0 ?_
                     obtain ⟨o35, ho35, h⟩ := bd_inv h
                     refine kUs (diwanref11_May.lp25_ok fu r_v _ 0 _ ho35) ?_
                     intro e_ τ_ hp_
                     rcases o35 with o35 | o35
                     ·obtain ⟨⟩ := o35
                      obtain ⟨rfl, rfl⟩ := hp_
                      refine kCd (cR (cR (cR bd17))) [] ?_
                      refine kRs 0 [Tm 2 (bv true)] [] .n ?_
                      refine kRt ?_
                      have h_ := some_inj h
                      subst h_
                      exact kFr
                     ·obtain ⟨⟩ := o35
                      obtain ⟨rfl, rfl⟩ := hp_
                      have h_ := some_inj h
                      subst h_
                      exact kFr
def bd92 : Code := (Try.f92.body).getD .skip
def diwanref1_SameReads.O : Nat → Nat := fun t => bif ([4, 5] : List Nat).any (Nat.beq t) then 1 else 0
def diwanref1_SameReads.lp6 (fu : Nat) (l6_0 : List TRead) (l6_1 : List TRead) : Nat → Int → Option (Unit ⊕ Unit)
  | 0, _ => none
  | n_ + 1, l6_2 =>
  br (decide (l6_2 < (l6_0.length : Int)))
   (ix l6_0 l6_2 fun x9_1 =>
   ix l6_1 l6_2 fun x9_4 =>
   br (!((x9_1.Key.toList == x9_4.Key.toList) && ((x9_1.Version == x9_4.Version) && ((x9_1.Val.toList == x9_4.Val.toList) && ((x9_1.There == x9_4.There) && true)))))
    (some (.inr ()))
    (diwanref1_SameReads.lp6 fu l6_0 l6_1 n_ (w64 (l6_2 + 1))))
   (some (.inl ()))
def diwanref1_SameReads.lp6_post (l6_0 : List TRead) (l6_1 : List TRead) (r_ : (Unit ⊕ Unit)) : Wy → St → Prop := fun e τ => match r_ with
  | .inl _ => e = .exit 0 ∧ τ = ofL []
  | .inr _ => e = .ret ∧ τ = ofL [Tm 4 (bv false)]
theorem diwanref1_SameReads.lp6_ok (fu : Nat) (l6_0 : List TRead) (l6_1 : List TRead) : ∀ (n_ : Nat) (l6_2 : Int) (r_ : (Unit ⊕ Unit)), diwanref1_SameReads.lp6 fu l6_0 l6_1 n_ l6_2 = some r_ → WK Try.prog diwanref1_SameReads.O (Ck Try.prog) (cB (cR (cL (cR (cR bd92))))) [] (ofL [Tm 0 (sS 4 TRead.en l6_0), Tm 1 (sS 4 TRead.en l6_1), Tm 5 (iv l6_2)]) (diwanref1_SameReads.lp6_post l6_0 l6_1 r_) := by
 intro n_
 induction n_ with
 | zero => intro l6_2 r_ h; exact no_none h
 | succ n_ ih =>
  intro l6_2 r_ h
  refine kLp ?_
  refine kSq ?_
  refine kRs 7 [Tm 14 (bv (decide (l6_2 < (l6_0.length : Int))))] [.s (.t 13) [iv (l6_0.length : Int)]] (.c (c_len (e := TRead.en) (l := l6_0)) .n) ?_
  rcases br_inv h with ⟨b8_0, h⟩ | ⟨b8_0, h⟩
  ·refine kCt b8_0 ?_
   refine kSk ?_
   refine kCd (cR (cB (cB (cR (cL (cR (cR bd92))))))) [.lp (cB (cR (cL (cR (cR bd92)))))] ?_
   refine kSq ?_
   refine kBk 1 ?_
   obtain ⟨x9_1, a9_2, e9_3, h⟩ := ix_inv h
   obtain ⟨x9_4, a9_5, e9_6, h⟩ := ix_inv h
   refine kRs 14 [Tm 25 (bv (!((x9_1.Key.toList == x9_4.Key.toList) && ((x9_1.Version == x9_4.Version) && ((x9_1.Val.toList == x9_4.Val.toList) && ((x9_1.There == x9_4.There) && true))))))] [.c (TRead.en x9_1), .c (TRead.en x9_4)] (.c (c_ix (e := TRead.en) a9_2 e9_3) (.c (c_el (e := TRead.en) e9_3) (.c (c_ix (e := TRead.en) a9_5 e9_6) (.c (c_el (e := TRead.en) e9_6) (.c rT .n))))) ?_
   rcases br_inv h with ⟨b10_0, h⟩ | ⟨b10_0, h⟩
   ·refine kCt b10_0 ?_
    refine kRs 0 [Tm 4 (bv false)] [] .n ?_
    cases some_inj h
    refine kWo ?_
    refine kRt ?_
    exact kOut
   ·refine kCe b10_0 ?_
    refine kSk ?_
    refine kCd (cR (cR (cB (cB (cR (cL (cR (cR bd92)))))))) [.lp (cB (cR (cL (cR (cR bd92)))))] ?_
    refine kRc 6 [Tm 5 (iv (w64 (l6_2 + 1)))] [] .n (cB (cR (cL (cR (cR bd92))))) [] ?_
    exact kWk (ih (w64 (l6_2 + 1)) _ h)
  ·refine kCe b8_0 ?_
   cases some_inj h
   refine kWo ?_
   refine kXt 0 ?_
   exact kOut
def diwanref1_SameReads (fu : Nat) (a : List TRead) (b : List TRead) : Option Bool :=
 br ((a.length : Int) != (b.length : Int))
  (some false)
  (bd (diwanref1_SameReads.lp6 fu a b fu 0) fun o_ => (match o_ with
  | .inl _ =>
   some true
  | .inr _ =>
   some false))
theorem diwanref1_SameReads.meets (fu : Nat) (a : List TRead) (b : List TRead) (z0 : Bool) (h : diwanref1_SameReads fu a b = some z0) : Meets Try.prog ⟨92, [sS 4 TRead.en a, sS 4 TRead.en b], []⟩ ⟨bv z0, []⟩ := by
 refine kMt hmix diwanref1_SameReads.O Try.f92 bd92 3 ?_
 unfold diwanref1_SameReads at h
 refine kRs 3 [] [] .n ?_
 refine kSq ?_
 refine kRs 3 [Tm 10 (bv ((a.length : Int) != (b.length : Int)))] [.s (.t 7) [iv (a.length : Int)], .s (.t 9) [iv (b.length : Int)]] (.c (c_len (e := TRead.en) (l := a)) (.c (c_len (e := TRead.en) (l := b)) .n)) ?_
 rcases br_inv h with ⟨b3_0, h⟩ | ⟨b3_0, h⟩
 ·refine kCt b3_0 ?_
  refine kRs 0 [Tm 4 (bv false)] [] .n ?_
  refine kRt ?_
  have h_ := some_inj h
  subst h_
  exact kFr
 ·refine kCe b3_0 ?_
  refine kSk ?_
  refine kCd (cR (cR bd92)) [] ?_
  refine kSq ?_
  refine kRs 6 [Tm 5 (iv 0)] [] .n ?_
  refine kBk 0 ?_
  obtain ⟨o13, ho13, h⟩ := bd_inv h
  refine kUs (diwanref1_SameReads.lp6_ok fu a b _ 0 _ ho13) ?_
  intro e_ τ_ hp_
  rcases o13 with o13 | o13
  ·obtain ⟨⟩ := o13
   obtain ⟨rfl, rfl⟩ := hp_
   refine kCd (cR (cR (cR bd92))) [] ?_
   refine kRs 0 [Tm 4 (bv true)] [] .n ?_
   refine kRt ?_
   have h_ := some_inj h
   subst h_
   exact kFr
  ·obtain ⟨⟩ := o13
   obtain ⟨rfl, rfl⟩ := hp_
   have h_ := some_inj h
   subst h_
   exact kFr
def bd91 : Code := (Try.f91.body).getD .skip
def diwanref1_SameTxn.O : Nat → Nat := fun t => bif ([2, 3, 4, 5] : List Nat).any (Nat.beq t) then 1 else 0
def diwanref1_SameTxn.lp9 (fu : Nat) (l9_1 : TTxn) (l9_2 : TTxn) : Nat → Int → Option (Unit ⊕ Unit)
  | 0, _ => none
  | n_ + 1, l9_0 =>
  br (decide (l9_0 < (l9_1.Writes.length : Int)))
   (ix l9_1.Writes l9_0 fun x12_1 =>
   ix l9_2.Writes l9_0 fun x12_4 =>
   br (!((x12_1.Key.toList == x12_4.Key.toList) && ((x12_1.Val.toList == x12_4.Val.toList) && ((x12_1.Gone == x12_4.Gone) && true))))
    (some (.inr ()))
    (diwanref1_SameTxn.lp9 fu l9_1 l9_2 n_ (w64 (l9_0 + 1))))
   (some (.inl ()))
def diwanref1_SameTxn.lp9_post (l9_1 : TTxn) (l9_2 : TTxn) (r_ : (Unit ⊕ Unit)) : Wy → St → Prop := fun e τ => match r_ with
  | .inl _ => e = .exit 0 ∧ τ = ofL []
  | .inr _ => e = .ret ∧ τ = ofL [Tm 4 (bv false)]
theorem diwanref1_SameTxn.lp9_ok (fu : Nat) (l9_1 : TTxn) (l9_2 : TTxn) : ∀ (n_ : Nat) (l9_0 : Int) (r_ : (Unit ⊕ Unit)), diwanref1_SameTxn.lp9 fu l9_1 l9_2 n_ l9_0 = some r_ → WK Try.prog diwanref1_SameTxn.O (Ck Try.prog) (cB (cR (cL (cR (cR bd91))))) [] (ofL [Tm 2 (.ptr 2 0), Tm 3 (.ptr 3 0), Tm 5 (iv l9_0), Ob 2 (TTxn.ob l9_1), Ob 3 (TTxn.ob l9_2)]) (diwanref1_SameTxn.lp9_post l9_1 l9_2 r_) := by
 intro n_
 induction n_ with
 | zero => intro l9_0 r_ h; exact no_none h
 | succ n_ ih =>
  intro l9_0 r_ h
  refine kLp ?_
  refine kSq ?_
  refine kRs 31 [Tm 39 (bv (decide (l9_0 < (l9_1.Writes.length : Int))))] [.s (.t 38) [iv (l9_1.Writes.length : Int)]] (.c (c_len (e := TWrite.en) (l := l9_1.Writes)) .n) ?_
  rcases br_inv h with ⟨b11_0, h⟩ | ⟨b11_0, h⟩
  ·refine kCt b11_0 ?_
   refine kSk ?_
   refine kCd (cR (cB (cB (cR (cL (cR (cR bd91))))))) [.lp (cB (cR (cL (cR (cR bd91)))))] ?_
   refine kSq ?_
   refine kBk 1 ?_
   obtain ⟨x12_1, a12_2, e12_3, h⟩ := ix_inv h
   obtain ⟨x12_4, a12_5, e12_6, h⟩ := ix_inv h
   refine kRs 62 [Tm 52 (bv (!((x12_1.Key.toList == x12_4.Key.toList) && ((x12_1.Val.toList == x12_4.Val.toList) && ((x12_1.Gone == x12_4.Gone) && true)))))] [.c (TWrite.en x12_1), .c (TWrite.en x12_4)] (.c (c_ix (e := TWrite.en) a12_2 e12_3) (.c (c_el (e := TWrite.en) e12_3) (.c (c_ix (e := TWrite.en) a12_5 e12_6) (.c (c_el (e := TWrite.en) e12_6) (.c rT .n))))) ?_
   rcases br_inv h with ⟨b13_0, h⟩ | ⟨b13_0, h⟩
   ·refine kCt b13_0 ?_
    refine kRs 0 [Tm 4 (bv false)] [] .n ?_
    cases some_inj h
    refine kWo ?_
    refine kRt ?_
    exact kOut
   ·refine kCe b13_0 ?_
    refine kSk ?_
    refine kCd (cR (cR (cB (cB (cR (cL (cR (cR bd91)))))))) [.lp (cB (cR (cL (cR (cR bd91)))))] ?_
    refine kRc 54 [Tm 5 (iv (w64 (l9_0 + 1)))] [] .n (cB (cR (cL (cR (cR bd91))))) [] ?_
    exact kWk (ih (w64 (l9_0 + 1)) _ h)
  ·refine kCe b11_0 ?_
   cases some_inj h
   refine kWo ?_
   refine kXt 0 ?_
   exact kOut
def diwanref1_SameTxn (fu : Nat) (a : TTxn) (b : TTxn) : Option Bool :=
 br (a.Session != b.Session)
  (some false)
  (br (a.Seq != b.Seq)
   (some false)
   (br ((a.Writes.length : Int) != (b.Writes.length : Int))
    (some false)
    (bd (diwanref1_SameReads fu a.Reads b.Reads) fun r2_4 =>
    br (!r2_4)
     (some false)
     (bd (diwanref1_SameTxn.lp9 fu a b fu 0) fun o_ => (match o_ with
     | .inl _ =>
      some true
     | .inr _ =>
      some false)))))
theorem diwanref1_SameTxn.meets (fu : Nat) (a : TTxn) (b : TTxn) (z0 : Bool) (h : diwanref1_SameTxn fu a b = some z0) : Meets Try.prog ⟨91, [.data (TTxn.ag a), .data (TTxn.ag b)], []⟩ ⟨bv z0, []⟩ := by
 refine kMt hmix diwanref1_SameTxn.O Try.f91 bd91 3 ?_
 unfold diwanref1_SameTxn at h
 refine kRs 0 [Tm 2 (.ptr 2 0), Tm 3 (.ptr 3 0), Ob 2 (TTxn.ob a), Ob 3 (TTxn.ob b)] [] .n ?_
 refine kSq ?_
 rcases br_inv h with ⟨b2_1, h⟩ | ⟨b2_1, h⟩
 ·refine kRs 15 [Tm 34 (bv true)] (rp 21 (.b true) []) (.r 6 b2_1 (.r 15 rT .n)) ?_
  refine kCt rT ?_
  refine kRs 0 [Tm 4 (bv false)] [] .n ?_
  refine kRt ?_
  have h_ := some_inj h
  subst h_
  exact kFr
 ·rcases br_inv h with ⟨b2_2, h⟩ | ⟨b2_2, h⟩
  ·refine kRs 15 [Tm 34 (bv true)] (rp 6 (.b false) (rp 15 (.b true) [])) (.r 6 b2_1 (.r 8 b2_2 (.r 7 rT .n))) ?_
   refine kCt rT ?_
   refine kRs 0 [Tm 4 (bv false)] [] .n ?_
   refine kRt ?_
   have h_ := some_inj h
   subst h_
   exact kFr
  ·rcases br_inv h with ⟨b2_3, h⟩ | ⟨b2_3, h⟩
   ·refine kRs 15 [Tm 34 (bv true)] (rp 9 (.b false) (.s (.t 21) [iv (a.Writes.length : Int)] :: (.b false :: (.b false :: (.b false :: (.s (.t 24) [iv (b.Writes.length : Int)] :: (.b false :: (.b false :: (rp 7 (.b true) []))))))))) (.r 6 b2_1 (.r 3 b2_2 (.c (c_len (e := TWrite.en) (l := a.Writes)) (.r 3 b2_2 (.c (c_len (e := TWrite.en) (l := b.Writes)) (.r 2 b2_2 (.r 7 b2_3 .n))))))) ?_
    refine kCt rT ?_
    refine kRs 0 [Tm 4 (bv false)] [] .n ?_
    refine kRt ?_
    have h_ := some_inj h
    subst h_
    exact kFr
   ·obtain ⟨r2_4, h2_5, h⟩ := bd_inv h
    refine kRs 15 [Tm 34 (bv (!r2_4))] (rp 9 (.b false) (.s (.t 21) [iv (a.Writes.length : Int)] :: (.b false :: (.b false :: (.b false :: (.s (.t 24) [iv (b.Writes.length : Int)] :: (rp 7 (.b false) [.a ⟨bv r2_4, []⟩, .b false, .b false]))))))) (.r 6 b2_1 (.r 3 b2_2 (.c (c_len (e := TWrite.en) (l := a.Writes)) (.r 3 b2_2 (.c (c_len (e := TWrite.en) (l := b.Writes)) (.r 2 b2_2 (.r 5 b2_3 (.c (Asks.of (C := Meets Try.prog) (diwanref1_SameReads.meets fu a.Reads b.Reads _ h2_5)) (.r 2 b2_3 .n))))))))) ?_
    rcases br_inv h with ⟨b6_0, h⟩ | ⟨b6_0, h⟩
    ·refine kCt b6_0 ?_
     refine kRs 0 [Tm 4 (bv false)] [] .n ?_
     refine kRt ?_
     have h_ := some_inj h
     subst h_
     exact kFr
    ·refine kCe b6_0 ?_
     refine kSk ?_
     refine kCd (cR (cR bd91)) [] ?_
     refine kSq ?_
     refine kRs 30 [Tm 5 (iv 0)] [] .n ?_
     refine kBk 0 ?_
     obtain ⟨o16, ho16, h⟩ := bd_inv h
     refine kUs (diwanref1_SameTxn.lp9_ok fu a b _ 0 _ ho16) ?_
     intro e_ τ_ hp_
     rcases o16 with o16 | o16
     ·obtain ⟨⟩ := o16
      obtain ⟨rfl, rfl⟩ := hp_
      refine kCd (cR (cR (cR bd91))) [] ?_
      refine kRs 0 [Tm 4 (bv true)] [] .n ?_
      refine kRt ?_
      have h_ := some_inj h
      subst h_
      exact kFr
     ·obtain ⟨⟩ := o16
      obtain ⟨rfl, rfl⟩ := hp_
      have h_ := some_inj h
      subst h_
      exact kFr
def bd68 : Code := (Try.f68.body).getD .skip
def diwanref1_SameEntry.O : Nat → Nat := fun t => bif ([2, 3, 4] : List Nat).any (Nat.beq t) then 1 else 0
def diwanref1_SameEntry (fu : Nat) (a : TEntry) (b : TEntry) : Option Bool :=
 br (a.Term == b.Term)
  (br (a.Seal == b.Seal)
   (bd (diwanref1_SameTxn fu a.T b.T) fun r2_3 =>
   some r2_3)
   (some false))
  (some false)
theorem diwanref1_SameEntry.meets (fu : Nat) (a : TEntry) (b : TEntry) (z0 : Bool) (h : diwanref1_SameEntry fu a b = some z0) : Meets Try.prog ⟨68, [.data (TEntry.ag a), .data (TEntry.ag b)], []⟩ ⟨bv z0, []⟩ := by
 refine kMt hmix diwanref1_SameEntry.O Try.f68 bd68 3 ?_
 unfold diwanref1_SameEntry at h
 refine kRs 0 [Tm 2 (.ptr 2 0), Tm 3 (.ptr 3 0), Ob 2 (TEntry.ob a), Ob 3 (TEntry.ob b)] [] .n ?_
 rcases br_inv h with ⟨b2_1, h⟩ | ⟨b2_1, h⟩
 ·rcases br_inv h with ⟨b2_2, h⟩ | ⟨b2_2, h⟩
  ·obtain ⟨r2_3, h2_4, h⟩ := bd_inv h
   refine kRs 0 [Tm 4 (bv r2_3)] (rp 11 (.b true) [.a ⟨bv r2_3, []⟩, .b true]) (.r 6 b2_1 (.r 5 b2_2 (.c (Asks.of (C := Meets Try.prog) (diwanref1_SameTxn.meets fu a.T b.T _ h2_4)) (.c b2_2 .n)))) ?_
   refine kRt ?_
   have h_ := some_inj h
   subst h_
   exact kFr
  ·refine kRs 0 [Tm 4 (bv false)] (rp 6 (.b true) (rp 6 (.b false) [])) (.r 6 b2_1 (.r 6 b2_2 .n)) ?_
   refine kRt ?_
   have h_ := some_inj h
   subst h_
   exact kFr
 ·refine kRs 0 [Tm 4 (bv false)] (rp 12 (.b false) []) (.r 6 b2_1 (.r 6 rF .n)) ?_
  refine kRt ?_
  have h_ := some_inj h
  subst h_
  exact kFr
def bd38 : Code := (Try.f38.body).getD .skip
def diwanref1_SameEntries.O : Nat → Nat := fun t => bif ([4, 5] : List Nat).any (Nat.beq t) then 1 else 0
def diwanref1_SameEntries.lp6 (fu : Nat) (l6_0 : List TEntry) (l6_1 : List TEntry) : Nat → Int → Option (Unit ⊕ Unit)
  | 0, _ => none
  | n_ + 1, l6_2 =>
  br (decide (l6_2 < (l6_0.length : Int)))
   (ix l6_0 l6_2 fun x9_1 =>
   ix l6_1 l6_2 fun x9_4 =>
   bd (diwanref1_SameEntry fu x9_1 x9_4) fun r9_7 =>
   br (!r9_7)
    (some (.inr ()))
    (diwanref1_SameEntries.lp6 fu l6_0 l6_1 n_ (w64 (l6_2 + 1))))
   (some (.inl ()))
def diwanref1_SameEntries.lp6_post (l6_0 : List TEntry) (l6_1 : List TEntry) (r_ : (Unit ⊕ Unit)) : Wy → St → Prop := fun e τ => match r_ with
  | .inl _ => e = .exit 0 ∧ τ = ofL []
  | .inr _ => e = .ret ∧ τ = ofL [Tm 4 (bv false)]
theorem diwanref1_SameEntries.lp6_ok (fu : Nat) (l6_0 : List TEntry) (l6_1 : List TEntry) : ∀ (n_ : Nat) (l6_2 : Int) (r_ : (Unit ⊕ Unit)), diwanref1_SameEntries.lp6 fu l6_0 l6_1 n_ l6_2 = some r_ → WK Try.prog diwanref1_SameEntries.O (Ck Try.prog) (cB (cR (cL (cR (cR bd38))))) [] (ofL [Tm 0 (sS 6 TEntry.en l6_0), Tm 1 (sS 6 TEntry.en l6_1), Tm 5 (iv l6_2)]) (diwanref1_SameEntries.lp6_post l6_0 l6_1 r_) := by
 intro n_
 induction n_ with
 | zero => intro l6_2 r_ h; exact no_none h
 | succ n_ ih =>
  intro l6_2 r_ h
  refine kLp ?_
  refine kSq ?_
  refine kRs 7 [Tm 14 (bv (decide (l6_2 < (l6_0.length : Int))))] [.s (.t 13) [iv (l6_0.length : Int)]] (.c (c_len (e := TEntry.en) (l := l6_0)) .n) ?_
  rcases br_inv h with ⟨b8_0, h⟩ | ⟨b8_0, h⟩
  ·refine kCt b8_0 ?_
   refine kSk ?_
   refine kCd (cR (cB (cB (cR (cL (cR (cR bd38))))))) [.lp (cB (cR (cL (cR (cR bd38)))))] ?_
   refine kSq ?_
   refine kBk 1 ?_
   obtain ⟨x9_1, a9_2, e9_3, h⟩ := ix_inv h
   obtain ⟨x9_4, a9_5, e9_6, h⟩ := ix_inv h
   obtain ⟨r9_7, h9_8, h⟩ := bd_inv h
   refine kRs 14 [Tm 26 (bv (!r9_7))] [.c (TEntry.en x9_1), .c (TEntry.en x9_4), .a ⟨bv r9_7, []⟩] (.c (c_ix (e := TEntry.en) a9_2 e9_3) (.c (c_el (e := TEntry.en) e9_3) (.c (c_ix (e := TEntry.en) a9_5 e9_6) (.c (c_el (e := TEntry.en) e9_6) (.c (Asks.of (C := Meets Try.prog) (diwanref1_SameEntry.meets fu x9_1 x9_4 _ h9_8)) (.c rT .n)))))) ?_
   rcases br_inv h with ⟨b10_0, h⟩ | ⟨b10_0, h⟩
   ·refine kCt b10_0 ?_
    refine kRs 0 [Tm 4 (bv false)] [] .n ?_
    cases some_inj h
    refine kWo ?_
    refine kRt ?_
    exact kOut
   ·refine kCe b10_0 ?_
    refine kSk ?_
    refine kCd (cR (cR (cB (cB (cR (cL (cR (cR bd38)))))))) [.lp (cB (cR (cL (cR (cR bd38)))))] ?_
    refine kRc 6 [Tm 5 (iv (w64 (l6_2 + 1)))] [] .n (cB (cR (cL (cR (cR bd38))))) [] ?_
    exact kWk (ih (w64 (l6_2 + 1)) _ h)
  ·refine kCe b8_0 ?_
   cases some_inj h
   refine kWo ?_
   refine kXt 0 ?_
   exact kOut
def diwanref1_SameEntries (fu : Nat) (a : List TEntry) (b : List TEntry) : Option Bool :=
 br ((a.length : Int) != (b.length : Int))
  (some false)
  (bd (diwanref1_SameEntries.lp6 fu a b fu 0) fun o_ => (match o_ with
  | .inl _ =>
   some true
  | .inr _ =>
   some false))
theorem diwanref1_SameEntries.meets (fu : Nat) (a : List TEntry) (b : List TEntry) (z0 : Bool) (h : diwanref1_SameEntries fu a b = some z0) : Meets Try.prog ⟨38, [sS 6 TEntry.en a, sS 6 TEntry.en b], []⟩ ⟨bv z0, []⟩ := by
 refine kMt hmix diwanref1_SameEntries.O Try.f38 bd38 3 ?_
 unfold diwanref1_SameEntries at h
 refine kRs 3 [] [] .n ?_
 refine kSq ?_
 refine kRs 3 [Tm 10 (bv ((a.length : Int) != (b.length : Int)))] [.s (.t 7) [iv (a.length : Int)], .s (.t 9) [iv (b.length : Int)]] (.c (c_len (e := TEntry.en) (l := a)) (.c (c_len (e := TEntry.en) (l := b)) .n)) ?_
 rcases br_inv h with ⟨b3_0, h⟩ | ⟨b3_0, h⟩
 ·refine kCt b3_0 ?_
  refine kRs 0 [Tm 4 (bv false)] [] .n ?_
  refine kRt ?_
  have h_ := some_inj h
  subst h_
  exact kFr
 ·refine kCe b3_0 ?_
  refine kSk ?_
  refine kCd (cR (cR bd38)) [] ?_
  refine kSq ?_
  refine kRs 6 [Tm 5 (iv 0)] [] .n ?_
  refine kBk 0 ?_
  obtain ⟨o13, ho13, h⟩ := bd_inv h
  refine kUs (diwanref1_SameEntries.lp6_ok fu a b _ 0 _ ho13) ?_
  intro e_ τ_ hp_
  rcases o13 with o13 | o13
  ·obtain ⟨⟩ := o13
   obtain ⟨rfl, rfl⟩ := hp_
   refine kCd (cR (cR (cR bd38))) [] ?_
   refine kRs 0 [Tm 4 (bv true)] [] .n ?_
   refine kRt ?_
   have h_ := some_inj h
   subst h_
   exact kFr
  ·obtain ⟨⟩ := o13
   obtain ⟨rfl, rfl⟩ := hp_
   have h_ := some_inj h
   subst h_
   exact kFr
def bd11 : Code := (Try.f11.body).getD .skip
def diwanlaw11_RaftCalm.O : Nat → Nat := fun t => bif ([4, 5, 6, 7, 8, 9, 10, 11, 12, 13, 14, 60, 69, 95, 130, 139] : List Nat).any (Nat.beq t) then 1 else 0
def diwanlaw11_RaftCalm.lp10 (fu : Nat) : Nat → TGroup → TPicks → Option TGroup
  | 0, _, _ => none
  | n_ + 1, l10_0, l10_1 =>
  bd (diwanplay_Picks_Over l10_1) fun r11_1 =>
  br (!r11_1)
   (bd (diwanlaw11_Group_run fu l10_0 l10_1) fun (r13_1, r13_2) =>
   diwanlaw11_RaftCalm.lp10 fu n_ r13_1 r13_2)
   (some l10_0)
def diwanlaw11_RaftCalm.lp10_post (r_ : TGroup) : Wy → St → Prop := fun e τ => match r_ with
  | y0 => e = .exit 0 ∧ τ = ofL [Tm 5 (.ptr 2192 0), Ob 2192 [sO 13 TRaft.en y0.M, sO 24 TMsg.en y0.Mail]]
theorem diwanlaw11_RaftCalm.lp10_ok (fu : Nat) : ∀ (n_ : Nat) (l10_0 : TGroup) (l10_1 : TPicks) (r_ : TGroup), diwanlaw11_RaftCalm.lp10 fu n_ l10_0 l10_1 = some r_ → WK Try.prog diwanlaw11_RaftCalm.O (Ck Try.prog) (cB (cL (cR (cR (cR (cR (cR bd11))))))) [] (ofL [Tm 5 (.ptr 2192 0), Tm 6 (.ptr 2208 0), Ob 2192 [sO 13 TRaft.en l10_0.M, sO 24 TMsg.en l10_0.Mail], Ob 2208 [sS 1 e_u8 l10_1.l, iv l10_1.n]]) (diwanlaw11_RaftCalm.lp10_post r_) := by
 intro n_
 induction n_ with
 | zero => intro l10_0 l10_1 r_ h; exact no_none h
 | succ n_ ih =>
  intro l10_0 l10_1 r_ h
  refine kLp ?_
  refine kSq ?_
  obtain ⟨r11_1, h11_2, h⟩ := bd_inv h
  refine kRs 15 [Tm 29 (bv (!r11_1))] [.a ⟨bv r11_1, [[sS 1 e_u8 l10_1.l, iv l10_1.n]]⟩] (.c (Asks.of (C := Meets Try.prog) (diwanplay_Picks_Over.meets l10_1 _ h11_2)) .n) ?_
  rcases br_inv h with ⟨b12_0, h⟩ | ⟨b12_0, h⟩
  ·refine kCt b12_0 ?_
   refine kSk ?_
   refine kCd (cR (cB (cB (cL (cR (cR (cR (cR (cR bd11))))))))) [.lp (cB (cL (cR (cR (cR (cR (cR bd11)))))))] ?_
   refine kBk 1 ?_
   obtain ⟨⟨r13_1, r13_2⟩, h13_3, h⟩ := bd_inv h
   refine kRc 6 [Ob 2192 [sO 13 TRaft.en r13_1.M, sO 24 TMsg.en r13_1.Mail], Ob 2208 [sS 1 e_u8 r13_2.l, iv r13_2.n]] [.a ⟨.tup [], [[sO 13 TRaft.en r13_1.M, sO 24 TMsg.en r13_1.Mail], [sS 1 e_u8 r13_2.l, iv r13_2.n]]⟩] (.c (Asks.of (C := Meets Try.prog) (diwanlaw11_Group_run.meets fu l10_0 l10_1 _ _ h13_3)) .n) (cB (cL (cR (cR (cR (cR (cR bd11))))))) [] ?_
   exact kWk (ih r13_1 r13_2 _ h)
  ·refine kCe b12_0 ?_
   cases some_inj h
   refine kWo ?_
   refine kXt 0 ?_
   exact kOut
def diwanlaw11_RaftCalm.lp28 (fu : Nat) (l28_0 : Int) (l28_1 : Int) (l28_2 : Int) : Nat → Int → TGroup → Option (TGroup ⊕ Unit)
  | 0, _, _ => none
  | n_ + 1, l28_3, l28_4 =>
  br (decide (l28_3 < 3000))
   (br (decide ((l28_4.Mail.length : Int) > 0))
    (ix l28_4.Mail 0 fun x31_1 =>
    gd (decide ((0 : Int) ≤ (1 : Int) ∧ (1 : Int) ≤ (l28_4.Mail.length : Int))) <|
    br (decide (x31_1.To < 1))
     (some (.inr ()))
     (br (decide (x31_1.To > (l28_4.M.length : Int)))
      (some (.inr ()))
      (ix l28_4.M (w64 (x31_1.To - 1)) fun x37_1 =>
      bd (raft_Take fu x37_1 x31_1) fun (r37_4, r37_5) =>
      ix l28_4.M (w64 (x31_1.To - 1)) fun x37_7 =>
      gd (decide ((List.drop (1 : Int).toNat l28_4.Mail).length + r37_5.length ≤ 4294967296)) <|
      diwanlaw11_RaftCalm.lp28 fu l28_0 l28_1 l28_2 n_ (w64 (l28_3 + 1)) (TGroup.mk (l28_4.M.set (w64 (x31_1.To - 1)).toNat r37_4) ((List.drop (1 : Int).toNat l28_4.Mail) ++ r37_5)))))
    (some (.inl l28_4)))
   (some (.inl l28_4))
def diwanlaw11_RaftCalm.lp28_post (l28_0 : Int) (l28_1 : Int) (l28_2 : Int) (r_ : (TGroup ⊕ Unit)) : Wy → St → Prop := fun e τ => match r_ with
  | .inl y0 => e = .exit 6 ∧ τ = ofL [Tm 5 (.ptr 2192 0), Tm 7 (iv l28_0), Tm 8 (iv l28_1), Tm 9 (iv l28_2), Ob 2192 [sO 13 TRaft.en y0.M, sO 24 TMsg.en y0.Mail]]
  | .inr _ => e = .ret ∧ τ = ofL [Tm 4 (bv false)]
theorem diwanlaw11_RaftCalm.lp28_ok (fu : Nat) (l28_0 : Int) (l28_1 : Int) (l28_2 : Int) : ∀ (n_ : Nat) (l28_3 : Int) (l28_4 : TGroup) (r_ : (TGroup ⊕ Unit)), diwanlaw11_RaftCalm.lp28 fu l28_0 l28_1 l28_2 n_ l28_3 l28_4 = some r_ → WK Try.prog diwanlaw11_RaftCalm.O (Ck Try.prog) (cB (cR (cL (cR (cR (cR (cB (cL (cR (cB (cB (cR (cB (cL (cR (cB (cB (cR (cL (cR (cR (cR (cR (cR (cR (cR bd11)))))))))))))))))))))))))) [] (ofL [Tm 5 (.ptr 2192 0), Tm 7 (iv l28_0), Tm 8 (iv l28_1), Tm 9 (iv l28_2), Tm 11 (iv l28_3), Ob 2192 [sO 13 TRaft.en l28_4.M, sO 24 TMsg.en l28_4.Mail]]) (diwanlaw11_RaftCalm.lp28_post l28_0 l28_1 l28_2 r_) := by
 intro n_
 induction n_ with
 | zero => intro l28_3 l28_4 r_ h; exact no_none h
 | succ n_ ih =>
  intro l28_3 l28_4 r_ h
  refine kLp ?_
  refine kSq ?_
  rcases br_inv h with ⟨b29_1, h⟩ | ⟨b29_1, h⟩
  ·refine kRs 63 [Tm 81 (bv (decide ((l28_4.Mail.length : Int) > 0)))] (rp 5 (.b true) [.s (.t 79) [iv (l28_4.Mail.length : Int)], .b true, .b true]) (.r 5 b29_1 (.c (c_len (e := TMsg.en) (l := l28_4.Mail)) (.r 2 b29_1 .n))) ?_
   rcases br_inv h with ⟨b30_0, h⟩ | ⟨b30_0, h⟩
   ·refine kCt b30_0 ?_
    refine kSk ?_
    refine kCd (cR (cB (cB (cR (cL (cR (cR (cR (cB (cL (cR (cB (cB (cR (cB (cL (cR (cB (cB (cR (cL (cR (cR (cR (cR (cR (cR (cR bd11)))))))))))))))))))))))))))) [.lp (cB (cR (cL (cR (cR (cR (cB (cL (cR (cB (cB (cR (cB (cL (cR (cB (cB (cR (cL (cR (cR (cR (cR (cR (cR (cR bd11))))))))))))))))))))))))))] ?_
    refine kSq ?_
    refine kBk 7 ?_
    obtain ⟨x31_1, a31_2, e31_3, h⟩ := ix_inv h
    refine kRs 126 [Tm 12 (.ptr 12 0), Ob 12 (TMsg.ob x31_1)] [.c (TMsg.en x31_1)] (.c (c_ix (e := TMsg.en) a31_2 e31_3) (.c (c_el (e := TMsg.en) e31_3) .n)) ?_
    obtain ⟨c32_1, h⟩ := gd_inv h
    refine kRs 127 [Ob 2192 [sO 13 TRaft.en l28_4.M, sO 24 TMsg.en (List.drop (1 : Int).toNat l28_4.Mail)]] [.s (.t 95) [sO 24 TMsg.en (List.drop (1 : Int).toNat l28_4.Mail)]] (.c (c_cbL (e := TMsg.en) c32_1) (.c (congrArg (fun d : DV => [AV.data d]) (c_cutL (own := true) (nl := none) (s := 24) (e := TMsg.en) (l := l28_4.Mail) (lo := (1 : Int).toNat))) .n)) ?_
    refine kSq ?_
    rcases br_inv h with ⟨b33_1, h⟩ | ⟨b33_1, h⟩
    ·refine kRs 255 [Tm 110 (bv true)] (rp 9 (.b true) []) (.r 9 b33_1 (.c rT .n)) ?_
     refine kCt rT ?_
     refine kRs 0 [Tm 4 (bv false)] [] .n ?_
     cases some_inj h
     refine kWo ?_
     refine kRt ?_
     exact kOut
    ·refine kRs 255 [Tm 110 (bv (decide (x31_1.To > (l28_4.M.length : Int))))] (rp 7 (.b false) [.s (.t 108) [iv (l28_4.M.length : Int)], .b false, .b false]) (.r 7 b33_1 (.c (c_len (e := TRaft.en) (l := l28_4.M)) (.r 2 b33_1 (.c rT .n)))) ?_
     rcases br_inv h with ⟨b35_0, h⟩ | ⟨b35_0, h⟩
     ·refine kCt b35_0 ?_
      refine kRs 0 [Tm 4 (bv false)] [] .n ?_
      cases some_inj h
      refine kWo ?_
      refine kRt ?_
      exact kOut
     ·refine kCe b35_0 ?_
      refine kSk ?_
      refine kCd (cR (cR (cR (cB (cL (cR (cB (cB (cR (cL (cR (cR (cR (cB (cL (cR (cB (cB (cR (cB (cL (cR (cB (cB (cR (cL (cR (cR (cR (cR (cR (cR (cR bd11))))))))))))))))))))))))))))))))) [.blk 7, .seq (cR (cR (cB (cB (cR (cL (cR (cR (cR (cB (cL (cR (cB (cB (cR (cB (cL (cR (cB (cB (cR (cL (cR (cR (cR (cR (cR (cR (cR bd11))))))))))))))))))))))))))))), .lp (cB (cR (cL (cR (cR (cR (cB (cL (cR (cB (cB (cR (cB (cL (cR (cB (cB (cR (cL (cR (cR (cR (cR (cR (cR (cR bd11))))))))))))))))))))))))))] ?_
      obtain ⟨x37_1, a37_2, e37_3, h⟩ := ix_inv h
      obtain ⟨⟨r37_4, r37_5⟩, h37_6, h⟩ := bd_inv h
      obtain ⟨x37_7, a37_8, e37_9, h⟩ := ix_inv h
      refine kRs 496 [Tm 10 (sS 24 TMsg.en r37_5), Ob 2192 [sO 13 TRaft.en (l28_4.M.set (w64 (x31_1.To - 1)).toNat r37_4), sO 24 TMsg.en (List.drop (1 : Int).toNat l28_4.Mail)]] [.c (TRaft.en x37_1), .a ⟨.tup [.data (TRaft.ag r37_4), sS 24 TMsg.en r37_5], []⟩, .c (TRaft.en x37_7), .s (.o 2192) [sO 13 TRaft.en (l28_4.M.set (w64 (x31_1.To - 1)).toNat r37_4), sO 24 TMsg.en (List.drop (1 : Int).toNat l28_4.Mail)]] (.c (c_ix (e := TRaft.en) a37_2 e37_3) (.c (c_el (e := TRaft.en) e37_3) (.c (Asks.of (C := Meets Try.prog) (raft_Take.meets fu x37_1 x31_1 _ _ h37_6)) (.c (c_ix (e := TRaft.en) a37_8 e37_9) (.c (c_el (e := TRaft.en) e37_9) (.c (congrArg (fun d : DV => [AV.data d, sO 24 TMsg.en (List.drop (1 : Int).toNat l28_4.Mail)]) (c_set (e := TRaft.en) (s := 13) (nl := none) (l := l28_4.M) (i := (w64 (x31_1.To - 1)).toNat) (x := r37_4))) (.c rT .n))))))) ?_
      obtain ⟨c38_1, h⟩ := gd_inv h
      refine kRc 124 [Ob 2192 [sO 13 TRaft.en (l28_4.M.set (w64 (x31_1.To - 1)).toNat r37_4), sO 24 TMsg.en ((List.drop (1 : Int).toNat l28_4.Mail) ++ r37_5)]] [.s (.t 139) [sO 24 TMsg.en ((List.drop (1 : Int).toNat l28_4.Mail) ++ r37_5)]] (.c (c_al (e := TMsg.en) (f := TMsg.en) c38_1) (.c (congrArg (fun d : DV => [AV.data d]) (c_app (e := TMsg.en) (s := 24) (l := (List.drop (1 : Int).toNat l28_4.Mail)) (m := r37_5))) .n)) (cR (cR (cB (cB (cR (cL (cR (cR (cR (cB (cL (cR (cB (cB (cR (cB (cL (cR (cB (cB (cR (cL (cR (cR (cR (cR (cR (cR (cR bd11))))))))))))))))))))))))))))) [.lp (cB (cR (cL (cR (cR (cR (cB (cL (cR (cB (cB (cR (cB (cL (cR (cB (cB (cR (cL (cR (cR (cR (cR (cR (cR (cR bd11))))))))))))))))))))))))))] ?_
      refine kRc 31 [Tm 11 (iv (w64 (l28_3 + 1)))] [] .n (cB (cR (cL (cR (cR (cR (cB (cL (cR (cB (cB (cR (cB (cL (cR (cB (cB (cR (cL (cR (cR (cR (cR (cR (cR (cR bd11)))))))))))))))))))))))))) [] ?_
      exact kWk (ih (w64 (l28_3 + 1)) (TGroup.mk (l28_4.M.set (w64 (x31_1.To - 1)).toNat r37_4) ((List.drop (1 : Int).toNat l28_4.Mail) ++ r37_5)) _ h)
   ·refine kCe b30_0 ?_
    cases some_inj h
    refine kWo ?_
    refine kXt 6 ?_
    exact kOut
  ·refine kRs 63 [Tm 81 (bv false)] (rp 7 (.b false) []) (.r 7 b29_1 .n) ?_
   refine kCe rF ?_
   cases some_inj h
   refine kWo ?_
   refine kXt 6 ?_
   exact kOut
def diwanlaw11_RaftCalm.lp21 (fu : Nat) (l21_0 : Int) (l21_1 : Int) : Nat → Int → TGroup → Option (TGroup ⊕ Unit)
  | 0, _, _ => none
  | n_ + 1, l21_2, l21_3 =>
  br (decide (l21_2 < (l21_3.M.length : Int)))
   (ix l21_3.M l21_2 fun x25_1 =>
   bd (raft_Tick fu x25_1) fun (r25_4, r25_5) =>
   ix l21_3.M l21_2 fun x25_7 =>
   gd (decide (l21_3.Mail.length + r25_5.length ≤ 4294967296)) <|
   bd (diwanlaw11_RaftCalm.lp28 fu l21_0 l21_1 l21_2 fu 0 (TGroup.mk (l21_3.M.set l21_2.toNat r25_4) (l21_3.Mail ++ r25_5))) fun o_ => (match o_ with
   | .inl y40_0 =>
    br (decide ((y40_0.Mail.length : Int) > 0))
     (some (.inr ()))
     (diwanlaw11_RaftCalm.lp21 fu l21_0 l21_1 n_ (w64 (l21_2 + 1)) y40_0)
   | .inr _ =>
    some (.inr ())))
   (some (.inl l21_3))
def diwanlaw11_RaftCalm.lp21_post (l21_0 : Int) (l21_1 : Int) (r_ : (TGroup ⊕ Unit)) : Wy → St → Prop := fun e τ => match r_ with
  | .inl y0 => e = .exit 4 ∧ τ = ofL [Tm 5 (.ptr 2192 0), Tm 7 (iv l21_0), Tm 8 (iv l21_1), Ob 2192 [sO 13 TRaft.en y0.M, sO 24 TMsg.en y0.Mail]]
  | .inr _ => e = .ret ∧ τ = ofL [Tm 4 (bv false)]
theorem diwanlaw11_RaftCalm.lp21_ok (fu : Nat) (l21_0 : Int) (l21_1 : Int) : ∀ (n_ : Nat) (l21_2 : Int) (l21_3 : TGroup) (r_ : (TGroup ⊕ Unit)), diwanlaw11_RaftCalm.lp21 fu l21_0 l21_1 n_ l21_2 l21_3 = some r_ → WK Try.prog diwanlaw11_RaftCalm.O (Ck Try.prog) (cB (cR (cB (cL (cR (cB (cB (cR (cL (cR (cR (cR (cR (cR (cR (cR bd11)))))))))))))))) [] (ofL [Tm 5 (.ptr 2192 0), Tm 7 (iv l21_0), Tm 8 (iv l21_1), Tm 9 (iv l21_2), Ob 2192 [sO 13 TRaft.en l21_3.M, sO 24 TMsg.en l21_3.Mail]]) (diwanlaw11_RaftCalm.lp21_post l21_0 l21_1 r_) := by
 intro n_
 induction n_ with
 | zero => intro l21_2 l21_3 r_ h; exact no_none h
 | succ n_ ih =>
  intro l21_2 l21_3 r_ h
  refine kLp ?_
  refine kSq ?_
  refine kRs 31 [Tm 43 (bv (decide (l21_2 < (l21_3.M.length : Int))))] [.s (.t 42) [iv (l21_3.M.length : Int)]] (.c (c_len (e := TRaft.en) (l := l21_3.M)) .n) ?_
  rcases br_inv h with ⟨b23_0, h⟩ | ⟨b23_0, h⟩
  ·refine kCt b23_0 ?_
   refine kSk ?_
   refine kCd (cR (cB (cB (cR (cB (cL (cR (cB (cB (cR (cL (cR (cR (cR (cR (cR (cR (cR bd11)))))))))))))))))) [.lp (cB (cR (cB (cL (cR (cB (cB (cR (cL (cR (cR (cR (cR (cR (cR (cR bd11))))))))))))))))] ?_
   refine kSq ?_
   refine kBk 5 ?_
   refine kRs 62 [] [] .n ?_
   obtain ⟨x25_1, a25_2, e25_3, h⟩ := ix_inv h
   obtain ⟨⟨r25_4, r25_5⟩, h25_6, h⟩ := bd_inv h
   obtain ⟨x25_7, a25_8, e25_9, h⟩ := ix_inv h
   refine kRs 15 [Tm 10 (sS 24 TMsg.en r25_5), Ob 2192 [sO 13 TRaft.en (l21_3.M.set l21_2.toNat r25_4), sO 24 TMsg.en l21_3.Mail]] [.c (TRaft.en x25_1), .a ⟨.tup [.data (TRaft.ag r25_4), sS 24 TMsg.en r25_5], []⟩, .c (TRaft.en x25_7), .s (.o 2192) [sO 13 TRaft.en (l21_3.M.set l21_2.toNat r25_4), sO 24 TMsg.en l21_3.Mail]] (.c (c_ix (e := TRaft.en) a25_2 e25_3) (.c (c_el (e := TRaft.en) e25_3) (.c (Asks.of (C := Meets Try.prog) (raft_Tick.meets fu x25_1 _ _ h25_6)) (.c (c_ix (e := TRaft.en) a25_8 e25_9) (.c (c_el (e := TRaft.en) e25_9) (.c (congrArg (fun d : DV => [AV.data d, sO 24 TMsg.en l21_3.Mail]) (c_set (e := TRaft.en) (s := 13) (nl := none) (l := l21_3.M) (i := l21_2.toNat) (x := r25_4))) (.c rT .n))))))) ?_
   obtain ⟨c26_1, h⟩ := gd_inv h
   refine kRs 60 [Ob 2192 [sO 13 TRaft.en (l21_3.M.set l21_2.toNat r25_4), sO 24 TMsg.en (l21_3.Mail ++ r25_5)]] [.s (.t 69) [sO 24 TMsg.en (l21_3.Mail ++ r25_5)]] (.c (c_al (e := TMsg.en) (f := TMsg.en) c26_1) (.c (congrArg (fun d : DV => [AV.data d]) (c_app (e := TMsg.en) (s := 24) (l := l21_3.Mail) (m := r25_5))) .n)) ?_
   refine kSq ?_
   refine kRs 31 [Tm 11 (iv 0)] [] .n ?_
   refine kBk 6 ?_
   obtain ⟨o40, ho40, h⟩ := bd_inv h
   refine kUs (diwanlaw11_RaftCalm.lp28_ok fu l21_0 l21_1 l21_2 _ 0 (TGroup.mk (l21_3.M.set l21_2.toNat r25_4) (l21_3.Mail ++ r25_5)) _ ho40) ?_
   intro e_ τ_ hp_
   rcases o40 with o40 | o40
   ·obtain ⟨y40_0, rfl⟩ : ∃ y, y = o40 := ⟨_, rfl⟩
    obtain ⟨rfl, rfl⟩ := hp_
    refine kCd (cR (cR (cR (cR (cB (cL (cR (cB (cB (cR (cB (cL (cR (cB (cB (cR (cL (cR (cR (cR (cR (cR (cR (cR bd11)))))))))))))))))))))))) [.blk 5, .seq (cR (cR (cB (cB (cR (cB (cL (cR (cB (cB (cR (cL (cR (cR (cR (cR (cR (cR (cR bd11))))))))))))))))))), .lp (cB (cR (cB (cL (cR (cB (cB (cR (cL (cR (cR (cR (cR (cR (cR (cR bd11))))))))))))))))] ?_
    refine kRs 31 [Tm 147 (bv (decide ((y40_0.Mail.length : Int) > 0)))] [.s (.t 146) [iv (y40_0.Mail.length : Int)]] (.c (c_len (e := TMsg.en) (l := y40_0.Mail)) .n) ?_
    rcases br_inv h with ⟨b42_0, h⟩ | ⟨b42_0, h⟩
    ·refine kCt b42_0 ?_
     refine kRs 0 [Tm 4 (bv false)] [] .n ?_
     cases some_inj h
     refine kWo ?_
     refine kRt ?_
     exact kOut
    ·refine kCe b42_0 ?_
     refine kSk ?_
     refine kCd (cR (cR (cB (cB (cR (cB (cL (cR (cB (cB (cR (cL (cR (cR (cR (cR (cR (cR (cR bd11))))))))))))))))))) [.lp (cB (cR (cB (cL (cR (cB (cB (cR (cL (cR (cR (cR (cR (cR (cR (cR bd11))))))))))))))))] ?_
     refine kRc 46 [Tm 9 (iv (w64 (l21_2 + 1)))] [] .n (cB (cR (cB (cL (cR (cB (cB (cR (cL (cR (cR (cR (cR (cR (cR (cR bd11)))))))))))))))) [] ?_
     exact kWk (ih (w64 (l21_2 + 1)) y40_0 _ h)
   ·obtain ⟨⟩ := o40
    obtain ⟨rfl, rfl⟩ := hp_
    cases some_inj h
    exact kOut
  ·refine kCe b23_0 ?_
   cases some_inj h
   refine kWo ?_
   refine kXt 4 ?_
   exact kOut
def diwanlaw11_RaftCalm.lp17 (fu : Nat) (l17_0 : Int) : Nat → Int → TGroup → Option (TGroup ⊕ Unit)
  | 0, _, _ => none
  | n_ + 1, l17_1, l17_2 =>
  br (decide (l17_1 < 30))
   (bd (diwanlaw11_RaftCalm.lp21 fu l17_0 l17_1 fu 0 l17_2) fun o_ => (match o_ with
   | .inl y45_0 =>
    diwanlaw11_RaftCalm.lp17 fu l17_0 n_ (w64 (l17_1 + 1)) y45_0
   | .inr _ =>
    some (.inr ())))
   (some (.inl l17_2))
def diwanlaw11_RaftCalm.lp17_post (l17_0 : Int) (r_ : (TGroup ⊕ Unit)) : Wy → St → Prop := fun e τ => match r_ with
  | .inl y0 => e = .exit 2 ∧ τ = ofL [Tm 5 (.ptr 2192 0), Tm 7 (iv l17_0), Ob 2192 [sO 13 TRaft.en y0.M, sO 24 TMsg.en y0.Mail]]
  | .inr _ => e = .ret ∧ τ = ofL [Tm 4 (bv false)]
theorem diwanlaw11_RaftCalm.lp17_ok (fu : Nat) (l17_0 : Int) : ∀ (n_ : Nat) (l17_1 : Int) (l17_2 : TGroup) (r_ : (TGroup ⊕ Unit)), diwanlaw11_RaftCalm.lp17 fu l17_0 n_ l17_1 l17_2 = some r_ → WK Try.prog diwanlaw11_RaftCalm.O (Ck Try.prog) (cB (cR (cL (cR (cR (cR (cR (cR (cR (cR bd11)))))))))) [] (ofL [Tm 5 (.ptr 2192 0), Tm 7 (iv l17_0), Tm 8 (iv l17_1), Ob 2192 [sO 13 TRaft.en l17_2.M, sO 24 TMsg.en l17_2.Mail]]) (diwanlaw11_RaftCalm.lp17_post l17_0 r_) := by
 intro n_
 induction n_ with
 | zero => intro l17_1 l17_2 r_ h; exact no_none h
 | succ n_ ih =>
  intro l17_1 l17_2 r_ h
  refine kLp ?_
  refine kSq ?_
  refine kRs 15 [Tm 34 (bv (decide (l17_1 < 30)))] [] .n ?_
  rcases br_inv h with ⟨b19_0, h⟩ | ⟨b19_0, h⟩
  ·refine kCt b19_0 ?_
   refine kSk ?_
   refine kCd (cR (cB (cB (cR (cL (cR (cR (cR (cR (cR (cR (cR bd11)))))))))))) [.lp (cB (cR (cL (cR (cR (cR (cR (cR (cR (cR bd11))))))))))] ?_
   refine kSq ?_
   refine kBk 3 ?_
   refine kRs 30 [Tm 9 (iv 0)] [] .n ?_
   refine kBk 4 ?_
   obtain ⟨o45, ho45, h⟩ := bd_inv h
   refine kUs (diwanlaw11_RaftCalm.lp21_ok fu l17_0 l17_1 _ 0 l17_2 _ ho45) ?_
   intro e_ τ_ hp_
   rcases o45 with o45 | o45
   ·obtain ⟨y45_0, rfl⟩ : ∃ y, y = o45 := ⟨_, rfl⟩
    obtain ⟨rfl, rfl⟩ := hp_
    refine kCd (cR (cR (cB (cB (cR (cL (cR (cR (cR (cR (cR (cR (cR bd11))))))))))))) [.lp (cB (cR (cL (cR (cR (cR (cR (cR (cR (cR bd11))))))))))] ?_
    refine kRc 11 [Tm 8 (iv (w64 (l17_1 + 1)))] [] .n (cB (cR (cL (cR (cR (cR (cR (cR (cR (cR bd11)))))))))) [] ?_
    exact kWk (ih (w64 (l17_1 + 1)) y45_0 _ h)
   ·obtain ⟨⟩ := o45
    obtain ⟨rfl, rfl⟩ := hp_
    cases some_inj h
    exact kOut
  ·refine kCe b19_0 ?_
   cases some_inj h
   refine kWo ?_
   refine kXt 2 ?_
   exact kOut
def diwanlaw11_RaftCalm.lp49 (fu : Nat) (l49_2 : TGroup) : Nat → Int → Int → Option (Int ⊕ Unit)
  | 0, _, _ => none
  | n_ + 1, l49_0, l49_1 =>
  br (decide (l49_1 < (l49_2.M.length : Int)))
   (ix l49_2.M l49_1 fun x52_1 =>
   br (x52_1.Role == 2)
    (br (decide (l49_0 ≥ 0))
     (ix l49_2.M l49_0 fun x54_2 =>
     ix l49_2.M l49_1 fun x54_5 =>
     br (decide (x54_2.Term ≥ x54_5.Term))
      (some (.inr ()))
      (diwanlaw11_RaftCalm.lp49 fu l49_2 n_ l49_1 (w64 (l49_1 + 1))))
     (diwanlaw11_RaftCalm.lp49 fu l49_2 n_ l49_1 (w64 (l49_1 + 1))))
    (diwanlaw11_RaftCalm.lp49 fu l49_2 n_ l49_0 (w64 (l49_1 + 1))))
   (some (.inl l49_0))
def diwanlaw11_RaftCalm.lp49_post (l49_2 : TGroup) (r_ : (Int ⊕ Unit)) : Wy → St → Prop := fun e τ => match r_ with
  | .inl y0 => e = .exit 8 ∧ τ = ofL [Tm 5 (.ptr 2192 0), Tm 7 (iv y0), Ob 2192 [sO 13 TRaft.en l49_2.M, sO 24 TMsg.en l49_2.Mail]]
  | .inr _ => e = .ret ∧ τ = ofL [Tm 4 (bv false)]
theorem diwanlaw11_RaftCalm.lp49_ok (fu : Nat) (l49_2 : TGroup) : ∀ (n_ : Nat) (l49_0 : Int) (l49_1 : Int) (r_ : (Int ⊕ Unit)), diwanlaw11_RaftCalm.lp49 fu l49_2 n_ l49_0 l49_1 = some r_ → WK Try.prog diwanlaw11_RaftCalm.O (Ck Try.prog) (cB (cR (cL (cR (cR (cR (cR (cR (cR (cR (cR bd11))))))))))) [] (ofL [Tm 5 (.ptr 2192 0), Tm 7 (iv l49_0), Tm 13 (iv l49_1), Ob 2192 [sO 13 TRaft.en l49_2.M, sO 24 TMsg.en l49_2.Mail]]) (diwanlaw11_RaftCalm.lp49_post l49_2 r_) := by
 intro n_
 induction n_ with
 | zero => intro l49_0 l49_1 r_ h; exact no_none h
 | succ n_ ih =>
  intro l49_0 l49_1 r_ h
  refine kLp ?_
  refine kSq ?_
  refine kRs 15 [Tm 154 (bv (decide (l49_1 < (l49_2.M.length : Int))))] [.s (.t 153) [iv (l49_2.M.length : Int)]] (.c (c_len (e := TRaft.en) (l := l49_2.M)) .n) ?_
  rcases br_inv h with ⟨b51_0, h⟩ | ⟨b51_0, h⟩
  ·refine kCt b51_0 ?_
   refine kSk ?_
   refine kCd (cR (cB (cB (cR (cL (cR (cR (cR (cR (cR (cR (cR (cR bd11))))))))))))) [.lp (cB (cR (cL (cR (cR (cR (cR (cR (cR (cR (cR bd11)))))))))))] ?_
   refine kSq ?_
   refine kBk 9 ?_
   obtain ⟨x52_1, a52_2, e52_3, h⟩ := ix_inv h
   refine kRs 30 [Tm 165 (bv (x52_1.Role == 2))] [.c (TRaft.en x52_1)] (.c (c_ix (e := TRaft.en) a52_2 e52_3) (.c (c_el (e := TRaft.en) e52_3) .n)) ?_
   rcases br_inv h with ⟨b53_0, h⟩ | ⟨b53_0, h⟩
   ·refine kCt b53_0 ?_
    refine kSq ?_
    rcases br_inv h with ⟨b54_1, h⟩ | ⟨b54_1, h⟩
    ·obtain ⟨x54_2, a54_3, e54_4, h⟩ := ix_inv h
     obtain ⟨x54_5, a54_6, e54_7, h⟩ := ix_inv h
     refine kRs 26 [Tm 186 (bv (decide (x54_2.Term ≥ x54_5.Term)))] (rp 8 (.b true) (.c (TRaft.en x54_2) :: (rp 8 (.b true) [.c (TRaft.en x54_5), .b true, .b true]))) (.r 6 b54_1 (.c (c_ix (e := TRaft.en) a54_3 e54_4) (.r 2 b54_1 (.c (c_el (e := TRaft.en) e54_4) (.r 6 b54_1 (.c (c_ix (e := TRaft.en) a54_6 e54_7) (.r 2 b54_1 (.c (c_el (e := TRaft.en) e54_7) (.r 2 b54_1 (.c rT .n)))))))))) ?_
     rcases br_inv h with ⟨b55_0, h⟩ | ⟨b55_0, h⟩
     ·refine kCt b55_0 ?_
      refine kRs 0 [Tm 4 (bv false)] [] .n ?_
      cases some_inj h
      refine kWo ?_
      refine kRt ?_
      exact kOut
     ·refine kCe b55_0 ?_
      refine kSk ?_
      refine kCd (cR (cT (cR (cB (cL (cR (cB (cB (cR (cL (cR (cR (cR (cR (cR (cR (cR (cR bd11)))))))))))))))))) [.blk 9, .seq (cR (cR (cB (cB (cR (cL (cR (cR (cR (cR (cR (cR (cR (cR bd11)))))))))))))), .lp (cB (cR (cL (cR (cR (cR (cR (cR (cR (cR (cR bd11)))))))))))] ?_
      refine kRc 14 [Tm 7 (iv l49_1)] [] .n (cR (cR (cB (cB (cR (cL (cR (cR (cR (cR (cR (cR (cR (cR bd11)))))))))))))) [.lp (cB (cR (cL (cR (cR (cR (cR (cR (cR (cR (cR bd11)))))))))))] ?_
      refine kRc 11 [Tm 13 (iv (w64 (l49_1 + 1)))] [] .n (cB (cR (cL (cR (cR (cR (cR (cR (cR (cR (cR bd11))))))))))) [] ?_
      exact kWk (ih l49_1 (w64 (l49_1 + 1)) _ h)
    ·refine kRs 26 [Tm 186 (bv false)] (rp 18 (.b false) []) (.r 18 b54_1 (.c rT .n)) ?_
     refine kCe rF ?_
     refine kSk ?_
     refine kCd (cR (cT (cR (cB (cL (cR (cB (cB (cR (cL (cR (cR (cR (cR (cR (cR (cR (cR bd11)))))))))))))))))) [.blk 9, .seq (cR (cR (cB (cB (cR (cL (cR (cR (cR (cR (cR (cR (cR (cR bd11)))))))))))))), .lp (cB (cR (cL (cR (cR (cR (cR (cR (cR (cR (cR bd11)))))))))))] ?_
     refine kRc 14 [Tm 7 (iv l49_1)] [] .n (cR (cR (cB (cB (cR (cL (cR (cR (cR (cR (cR (cR (cR (cR bd11)))))))))))))) [.lp (cB (cR (cL (cR (cR (cR (cR (cR (cR (cR (cR bd11)))))))))))] ?_
     refine kRc 11 [Tm 13 (iv (w64 (l49_1 + 1)))] [] .n (cB (cR (cL (cR (cR (cR (cR (cR (cR (cR (cR bd11))))))))))) [] ?_
     exact kWk (ih l49_1 (w64 (l49_1 + 1)) _ h)
   ·refine kCe b53_0 ?_
    refine kSk ?_
    refine kCd (cR (cR (cB (cB (cR (cL (cR (cR (cR (cR (cR (cR (cR (cR bd11)))))))))))))) [.lp (cB (cR (cL (cR (cR (cR (cR (cR (cR (cR (cR bd11)))))))))))] ?_
    refine kRc 22 [Tm 13 (iv (w64 (l49_1 + 1)))] [] .n (cB (cR (cL (cR (cR (cR (cR (cR (cR (cR (cR bd11))))))))))) [] ?_
    exact kWk (ih l49_0 (w64 (l49_1 + 1)) _ h)
  ·refine kCe b51_0 ?_
   cases some_inj h
   refine kWo ?_
   refine kXt 8 ?_
   exact kOut
def diwanlaw11_RaftCalm.lp69 (fu : Nat) (l69_0 : Int) (l69_2 : TGroup) : Nat → Int → Option (Unit ⊕ Unit)
  | 0, _ => none
  | n_ + 1, l69_1 =>
  br (decide (l69_1 < (l69_2.M.length : Int)))
   (ix l69_2.M l69_1 fun x72_1 =>
   br (x72_1.Leader != (w64 (l69_0 + 1)))
    (some (.inr ()))
    (ix l69_2.M l69_1 fun x72_5 =>
    ix l69_2.M l69_0 fun x72_8 =>
    bd (diwanref1_SameEntries fu x72_5.Log x72_8.Log) fun r72_11 =>
    br (!r72_11)
     (some (.inr ()))
     (ix l69_2.M l69_1 fun x72_14 =>
     ix l69_2.M l69_0 fun x72_17 =>
     br (x72_14.Commit != x72_17.Commit)
      (some (.inr ()))
      (diwanlaw11_RaftCalm.lp69 fu l69_0 l69_2 n_ (w64 (l69_1 + 1))))))
   (some (.inl ()))
def diwanlaw11_RaftCalm.lp69_post (l69_0 : Int) (l69_2 : TGroup) (r_ : (Unit ⊕ Unit)) : Wy → St → Prop := fun e τ => match r_ with
  | .inl _ => e = .exit 10 ∧ τ = ofL [Tm 5 (.ptr 2192 0), Ob 2192 [sO 13 TRaft.en l69_2.M, sO 24 TMsg.en l69_2.Mail]]
  | .inr _ => e = .ret ∧ τ = ofL [Tm 4 (bv false)]
theorem diwanlaw11_RaftCalm.lp69_ok (fu : Nat) (l69_0 : Int) (l69_2 : TGroup) : ∀ (n_ : Nat) (l69_1 : Int) (r_ : (Unit ⊕ Unit)), diwanlaw11_RaftCalm.lp69 fu l69_0 l69_2 n_ l69_1 = some r_ → WK Try.prog diwanlaw11_RaftCalm.O (Ck Try.prog) (cB (cR (cL (cR (cR (cR (cR (cR (cR (cR (cR (cR (cR bd11))))))))))))) [] (ofL [Tm 5 (.ptr 2192 0), Tm 7 (iv l69_0), Tm 14 (iv l69_1), Ob 2192 [sO 13 TRaft.en l69_2.M, sO 24 TMsg.en l69_2.Mail]]) (diwanlaw11_RaftCalm.lp69_post l69_0 l69_2 r_) := by
 intro n_
 induction n_ with
 | zero => intro l69_1 r_ h; exact no_none h
 | succ n_ ih =>
  intro l69_1 r_ h
  refine kLp ?_
  refine kSq ?_
  refine kRs 15 [Tm 227 (bv (decide (l69_1 < (l69_2.M.length : Int))))] [.s (.t 226) [iv (l69_2.M.length : Int)]] (.c (c_len (e := TRaft.en) (l := l69_2.M)) .n) ?_
  rcases br_inv h with ⟨b71_0, h⟩ | ⟨b71_0, h⟩
  ·refine kCt b71_0 ?_
   refine kSk ?_
   refine kCd (cR (cB (cB (cR (cL (cR (cR (cR (cR (cR (cR (cR (cR (cR (cR bd11))))))))))))))) [.lp (cB (cR (cL (cR (cR (cR (cR (cR (cR (cR (cR (cR (cR bd11)))))))))))))] ?_
   refine kSq ?_
   refine kBk 11 ?_
   obtain ⟨x72_1, a72_2, e72_3, h⟩ := ix_inv h
   rcases br_inv h with ⟨b72_4, h⟩ | ⟨b72_4, h⟩
   ·refine kRs 30 [Tm 279 (bv true)] (.c (TRaft.en x72_1) :: (rp 37 (.b true) [])) (.c (c_ix (e := TRaft.en) a72_2 e72_3) (.c (c_el (e := TRaft.en) e72_3) (.r 19 b72_4 (.r 19 rT .n)))) ?_
    refine kCt rT ?_
    refine kRs 0 [Tm 4 (bv false)] [] .n ?_
    cases some_inj h
    refine kWo ?_
    refine kRt ?_
    exact kOut
   ·obtain ⟨x72_5, a72_6, e72_7, h⟩ := ix_inv h
    obtain ⟨x72_8, a72_9, e72_10, h⟩ := ix_inv h
    obtain ⟨r72_11, h72_12, h⟩ := bd_inv h
    rcases br_inv h with ⟨b72_13, h⟩ | ⟨b72_13, h⟩
    ·refine kRs 30 [Tm 279 (bv true)] (.c (TRaft.en x72_1) :: (rp 8 (.b false) (.c (TRaft.en x72_5) :: (rp 8 (.b false) (.c (TRaft.en x72_8) :: (.b false :: (.a ⟨bv r72_11, []⟩ :: (.b false :: (.b false :: (rp 18 (.b true) [])))))))))) (.c (c_ix (e := TRaft.en) a72_2 e72_3) (.c (c_el (e := TRaft.en) e72_3) (.r 6 b72_4 (.c (c_ix (e := TRaft.en) a72_6 e72_7) (.r 2 b72_4 (.c (c_el (e := TRaft.en) e72_7) (.r 6 b72_4 (.c (c_ix (e := TRaft.en) a72_9 e72_10) (.r 2 b72_4 (.c (c_el (e := TRaft.en) e72_10) (.c b72_4 (.c (Asks.of (C := Meets Try.prog) (diwanref1_SameEntries.meets fu x72_5.Log x72_8.Log _ h72_12)) (.r 2 b72_4 (.r 18 b72_13 (.c rT .n))))))))))))))) ?_
     refine kCt rT ?_
     refine kRs 0 [Tm 4 (bv false)] [] .n ?_
     cases some_inj h
     refine kWo ?_
     refine kRt ?_
     exact kOut
    ·obtain ⟨x72_14, a72_15, e72_16, h⟩ := ix_inv h
     obtain ⟨x72_17, a72_18, e72_19, h⟩ := ix_inv h
     refine kRs 30 [Tm 279 (bv (x72_14.Commit != x72_17.Commit))] (.c (TRaft.en x72_1) :: (rp 8 (.b false) (.c (TRaft.en x72_5) :: (rp 8 (.b false) (.c (TRaft.en x72_8) :: (.b false :: (.a ⟨bv r72_11, []⟩ :: (rp 10 (.b false) (.c (TRaft.en x72_14) :: (rp 8 (.b false) [.c (TRaft.en x72_17), .b false, .b false])))))))))) (.c (c_ix (e := TRaft.en) a72_2 e72_3) (.c (c_el (e := TRaft.en) e72_3) (.r 6 b72_4 (.c (c_ix (e := TRaft.en) a72_6 e72_7) (.r 2 b72_4 (.c (c_el (e := TRaft.en) e72_7) (.r 6 b72_4 (.c (c_ix (e := TRaft.en) a72_9 e72_10) (.r 2 b72_4 (.c (c_el (e := TRaft.en) e72_10) (.c b72_4 (.c (Asks.of (C := Meets Try.prog) (diwanref1_SameEntries.meets fu x72_5.Log x72_8.Log _ h72_12)) (.r 2 b72_4 (.r 6 b72_13 (.c (c_ix (e := TRaft.en) a72_15 e72_16) (.r 2 b72_13 (.c (c_el (e := TRaft.en) e72_16) (.r 6 b72_13 (.c (c_ix (e := TRaft.en) a72_18 e72_19) (.r 2 b72_13 (.c (c_el (e := TRaft.en) e72_19) (.r 2 b72_13 (.c rT .n))))))))))))))))))))))) ?_
     rcases br_inv h with ⟨b75_0, h⟩ | ⟨b75_0, h⟩
     ·refine kCt b75_0 ?_
      refine kRs 0 [Tm 4 (bv false)] [] .n ?_
      cases some_inj h
      refine kWo ?_
      refine kRt ?_
      exact kOut
     ·refine kCe b75_0 ?_
      refine kSk ?_
      refine kCd (cR (cR (cB (cB (cR (cL (cR (cR (cR (cR (cR (cR (cR (cR (cR (cR bd11)))))))))))))))) [.lp (cB (cR (cL (cR (cR (cR (cR (cR (cR (cR (cR (cR (cR bd11)))))))))))))] ?_
      refine kRc 22 [Tm 14 (iv (w64 (l69_1 + 1)))] [] .n (cB (cR (cL (cR (cR (cR (cR (cR (cR (cR (cR (cR (cR bd11))))))))))))) [] ?_
      exact kWk (ih (w64 (l69_1 + 1)) _ h)
  ·refine kCe b71_0 ?_
   cases some_inj h
   refine kWo ?_
   refine kXt 10 ?_
   exact kOut
def diwanlaw11_RaftCalm (fu : Nat) (picks : List Int) (n_v : Int) : Option Bool :=
 bd (diwanlaw11_begun fu) fun r2_1 =>
 br (!r2_1)
  (some false)
  (br (decide ((picks.length : Int) > 150))
   (some true)
   (bd (diwanlaw11_group fu (w64 (1 + (w64 (Int.tmod n_v 5))))) fun r8_1 =>
   bd (diwanplay_Made picks) fun r9_1 =>
   bd (diwanlaw11_RaftCalm.lp10 fu fu r8_1 r9_1) fun y14_0 =>
   bd (diwanlaw11_RaftCalm.lp17 fu (-1) fu 0 y14_0) fun o_ => (match o_ with
   | .inl y47_0 =>
    bd (diwanlaw11_RaftCalm.lp49 fu y47_0 fu (-1) 0) fun o_ => (match o_ with
    | .inl y62_0 =>
     br (decide (y62_0 < 0))
      (some false)
      (ix y47_0.M y62_0 fun x63_2 =>
      bd (diwanref11_May fu x63_2) fun r63_5 =>
      br (!r63_5)
       (some false)
       (ix y47_0.M y62_0 fun x63_8 =>
       ix y47_0.M y62_0 fun x63_11 =>
       br (x63_8.Commit != (x63_11.Log.length : Int))
        (some false)
        (bd (diwanlaw11_RaftCalm.lp69 fu y62_0 y47_0 fu 0) fun o_ => (match o_ with
        | .inl _ =>
         bd (ballot_Majority (y47_0.M.length : Int)) fun r79_1 =>
         some (decide (r79_1 ≥ 1))
        | .inr _ =>
         some false))))
    | .inr _ =>
     some false)
   | .inr _ =>
    some false)))
theorem diwanlaw11_RaftCalm.meets (fu : Nat) (picks : List Int) (n_v : Int) (z0 : Bool) (h : diwanlaw11_RaftCalm fu picks n_v = some z0) : Meets Try.prog ⟨11, [sS 1 e_u8 picks, .data (.val (.int .u8 n_v))], []⟩ ⟨bv z0, []⟩ := by
 refine kMt hmix diwanlaw11_RaftCalm.O Try.f11 bd11 3 ?_
 unfold diwanlaw11_RaftCalm at h
 refine kRs 3 [] [] .n ?_
 refine kSq ?_
 obtain ⟨r2_1, h2_2, h⟩ := bd_inv h
 refine kRs 3 [Tm 16 (bv (!r2_1))] [.a ⟨bv r2_1, []⟩] (.c (Asks.of (C := Meets Try.prog) (diwanlaw11_begun.meets fu _ h2_2)) .n) ?_
 rcases br_inv h with ⟨b3_0, h⟩ | ⟨b3_0, h⟩
 ·refine kCt b3_0 ?_
  refine kRs 0 [Tm 4 (bv false)] [] .n ?_
  refine kRt ?_
  have h_ := some_inj h
  subst h_
  exact kFr
 ·refine kCe b3_0 ?_
  refine kSk ?_
  refine kCd (cR (cR bd11)) [] ?_
  refine kSq ?_
  refine kRs 6 [Tm 19 (bv (decide ((picks.length : Int) > 150)))] [.s (.t 18) [iv (picks.length : Int)]] (.c (c_len (e := e_u8) (l := picks)) .n) ?_
  rcases br_inv h with ⟨b6_0, h⟩ | ⟨b6_0, h⟩
  ·refine kCt b6_0 ?_
   refine kRs 0 [Tm 4 (bv true)] [] .n ?_
   refine kRt ?_
   have h_ := some_inj h
   subst h_
   exact kFr
  ·refine kCe b6_0 ?_
   refine kSk ?_
   refine kCd (cR (cR (cR bd11))) [] ?_
   obtain ⟨r8_1, h8_2, h⟩ := bd_inv h
   refine kRs 2 [Tm 5 (.ptr 2192 0), Ob 2192 [sO 13 TRaft.en r8_1.M, sO 24 TMsg.en r8_1.Mail]] [.a ⟨.ptr 1000 0, [[sO 13 TRaft.en r8_1.M, sO 24 TMsg.en r8_1.Mail]]⟩] (.c rT (.c (Asks.of (C := Meets Try.prog) (diwanlaw11_group.meets fu (w64 (1 + (w64 (Int.tmod n_v 5)))) _ h8_2)) .n)) ?_
   obtain ⟨r9_1, h9_2, h⟩ := bd_inv h
   refine kRs 3 [Tm 6 (.ptr 2208 0), Ob 2208 [sS 1 e_u8 r9_1.l, iv r9_1.n]] [.a ⟨.ptr 1000 0, [[sS 1 e_u8 r9_1.l, iv r9_1.n]]⟩] (.c (Asks.of (C := Meets Try.prog) (diwanplay_Made.meets picks _ h9_2)) .n) ?_
   refine kSq ?_
   refine kBk 0 ?_
   obtain ⟨o14, ho14, h⟩ := bd_inv h
   refine kUs (diwanlaw11_RaftCalm.lp10_ok fu _ r8_1 r9_1 _ ho14) ?_
   intro e_ τ_ hp_
   obtain ⟨y14_0, rfl⟩ : ∃ y, y = o14 := ⟨_, rfl⟩
   obtain ⟨rfl, rfl⟩ := hp_
   refine kCd (cR (cR (cR (cR (cR (cR bd11)))))) [] ?_
   refine kRs 3 [Tm 7 (iv (-1))] [] .n ?_
   refine kSq ?_
   refine kRs 7 [Tm 8 (iv 0)] [] .n ?_
   refine kBk 2 ?_
   obtain ⟨o47, ho47, h⟩ := bd_inv h
   refine kUs (diwanlaw11_RaftCalm.lp17_ok fu (-1) _ 0 y14_0 _ ho47) ?_
   intro e_ τ_ hp_
   rcases o47 with o47 | o47
   ·obtain ⟨y47_0, rfl⟩ : ∃ y, y = o47 := ⟨_, rfl⟩
    obtain ⟨rfl, rfl⟩ := hp_
    refine kCd (cR (cR (cR (cR (cR (cR (cR (cR bd11)))))))) [] ?_
    refine kSq ?_
    refine kRs 7 [Tm 13 (iv 0)] [] .n ?_
    refine kBk 8 ?_
    obtain ⟨o62, ho62, h⟩ := bd_inv h
    refine kUs (diwanlaw11_RaftCalm.lp49_ok fu y47_0 _ (-1) 0 _ ho62) ?_
    intro e_ τ_ hp_
    rcases o62 with o62 | o62
    ·obtain ⟨y62_0, rfl⟩ : ∃ y, y = o62 := ⟨_, rfl⟩
     obtain ⟨rfl, rfl⟩ := hp_
     refine kCd (cR (cR (cR (cR (cR (cR (cR (cR (cR bd11))))))))) [] ?_
     refine kSq ?_
     rcases br_inv h with ⟨b63_1, h⟩ | ⟨b63_1, h⟩
     ·refine kRs 7 [Tm 220 (bv true)] (rp 29 (.b true) []) (.r 10 b63_1 (.r 20 rT .n)) ?_
      refine kCt rT ?_
      refine kRs 0 [Tm 4 (bv false)] [] .n ?_
      refine kRt ?_
      have h_ := some_inj h
      subst h_
      exact kFr
     ·obtain ⟨x63_2, a63_3, e63_4, h⟩ := ix_inv h
      obtain ⟨r63_5, h63_6, h⟩ := bd_inv h
      rcases br_inv h with ⟨b63_7, h⟩ | ⟨b63_7, h⟩
      ·refine kRs 7 [Tm 220 (bv true)] (rp 7 (.b false) (.c (TRaft.en x63_2) :: (.b false :: (.a ⟨bv r63_5, []⟩ :: (.b false :: (.b false :: (rp 19 (.b true) []))))))) (.r 6 b63_1 (.c (c_ix (e := TRaft.en) a63_3 e63_4) (.c b63_1 (.c (c_el (e := TRaft.en) e63_4) (.c b63_1 (.c (Asks.of (C := Meets Try.prog) (diwanref11_May.meets fu x63_2 _ h63_6)) (.r 2 b63_1 (.r 19 b63_7 (.c rT .n))))))))) ?_
       refine kCt rT ?_
       refine kRs 0 [Tm 4 (bv false)] [] .n ?_
       refine kRt ?_
       have h_ := some_inj h
       subst h_
       exact kFr
      ·obtain ⟨x63_8, a63_9, e63_10, h⟩ := ix_inv h
       obtain ⟨x63_11, a63_12, e63_13, h⟩ := ix_inv h
       refine kRs 7 [Tm 220 (bv (x63_8.Commit != (x63_11.Log.length : Int)))] (rp 7 (.b false) (.c (TRaft.en x63_2) :: (.b false :: (.a ⟨bv r63_5, []⟩ :: (rp 10 (.b false) (.c (TRaft.en x63_8) :: (rp 8 (.b false) [.c (TRaft.en x63_11), .b false, .s (.t 218) [iv (x63_11.Log.length : Int)], .b false, .b false]))))))) (.r 6 b63_1 (.c (c_ix (e := TRaft.en) a63_3 e63_4) (.c b63_1 (.c (c_el (e := TRaft.en) e63_4) (.c b63_1 (.c (Asks.of (C := Meets Try.prog) (diwanref11_May.meets fu x63_2 _ h63_6)) (.r 2 b63_1 (.r 6 b63_7 (.c (c_ix (e := TRaft.en) a63_9 e63_10) (.r 2 b63_7 (.c (c_el (e := TRaft.en) e63_10) (.r 6 b63_7 (.c (c_ix (e := TRaft.en) a63_12 e63_13) (.r 2 b63_7 (.c (c_el (e := TRaft.en) e63_13) (.c b63_7 (.c (c_len (e := TEntry.en) (l := x63_11.Log)) (.r 2 b63_7 (.c rT .n))))))))))))))))))) ?_
       rcases br_inv h with ⟨b66_0, h⟩ | ⟨b66_0, h⟩
       ·refine kCt b66_0 ?_
        refine kRs 0 [Tm 4 (bv false)] [] .n ?_
        refine kRt ?_
        have h_ := some_inj h
        subst h_
        exact kFr
       ·refine kCe b66_0 ?_
        refine kSk ?_
        refine kCd (cR (cR (cR (cR (cR (cR (cR (cR (cR (cR bd11)))))))))) [] ?_
        refine kSq ?_
        refine kRs 14 [Tm 14 (iv 0)] [] .n ?_
        refine kBk 10 ?_
        obtain ⟨o78, ho78, h⟩ := bd_inv h
        refine kUs (diwanlaw11_RaftCalm.lp69_ok fu y62_0 y47_0 _ 0 _ ho78) ?_
        intro e_ τ_ hp_
        rcases o78 with o78 | o78
        ·obtain ⟨⟩ := o78
         obtain ⟨rfl, rfl⟩ := hp_
         refine kCd (cR (cR (cR (cR (cR (cR (cR (cR (cR (cR (cR bd11))))))))))) [] ?_
         obtain ⟨r79_1, h79_2, h⟩ := bd_inv h
         refine kRs 0 [Tm 4 (bv (decide (r79_1 ≥ 1)))] [.s (.t 284) [iv (y47_0.M.length : Int)], .a ⟨iv r79_1, []⟩] (.c (c_len (e := TRaft.en) (l := y47_0.M)) (.c (Asks.of (C := Meets Try.prog) (ballot_Majority.meets (y47_0.M.length : Int) _ h79_2)) .n)) ?_
         refine kRt ?_
         have h_ := some_inj h
         subst h_
         exact kFr
        ·obtain ⟨⟩ := o78
         obtain ⟨rfl, rfl⟩ := hp_
         have h_ := some_inj h
         subst h_
         exact kFr
    ·obtain ⟨⟩ := o62
     obtain ⟨rfl, rfl⟩ := hp_
     have h_ := some_inj h
     subst h_
     exact kFr
   ·obtain ⟨⟩ := o47
    obtain ⟨rfl, rfl⟩ := hp_
    have h_ := some_inj h
    subst h_
    exact kFr
end Go.Proofs.Ythpokjkbcdfhiaa.Told
