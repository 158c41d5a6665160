/- Functions of the program told as Lean functions, with the walks of their code in the machine by value. -/
import Derived.Test.YthpokjkbcdfhiaaProg
import Derived.Test.YthpokjkbcdfhiaaVam2
import Derived.Test.YthpokjkbcdfhiaaToldRaftMayp1
namespace Go.Proofs.Ythpokjkbcdfhiaa.Told
open Go Go.Proofs Go.Proofs.Ythpokjkbcdfhiaa Go.Proofs.Ythpokjkbcdfhiaa.Vam
set_option linter.unusedVariables false
set_option maxRecDepth 100000
/-- (*diwan/diwanplay.Picks).Log -/
noncomputable def bd40 : Code := (Try.f40.body).getD .skip
def diwanplay_Picks_Log.O : Nat → Nat := fun t => bif ([4, 5, 6, 7, 8, 23, 30, 34] : List Nat).any (Nat.beq t) then 1 else 0
noncomputable def diwanplay_Picks_Log.lp5 (fu : Nat) (l5_0 : Int) : Nat → (List TEntry) → Int → Int → TPicks → Option (List TEntry × TPicks)
  | 0, _, _, _, _ => none
  | n_ + 1, l5_1, l5_2, l5_3, l5_4 =>
  br (decide (l5_3 < l5_0))
   (jn (fun (j11_2 : Int) (j11_4 : TPicks) =>
    bd (diwanplay_Picks_Num 3 j11_4) fun (r12_1, r12_2) =>
    br (!(r12_1 == 0))
     (bd (diwanplay_Picks_Txn fu (w64 (l5_3 + 1)) r12_2) fun (r15_1, r15_2) =>
     gd (decide (l5_1.length + ([(TEntry.mk j11_2 (r12_1 == 0) r15_1)] : List TEntry).length ≤ 4294967296)) <|
     diwanplay_Picks_Log.lp5 fu l5_0 n_ (l5_1 ++ ([(TEntry.mk j11_2 (r12_1 == 0) r15_1)] : List TEntry)) j11_2 (w64 (l5_3 + 1)) r15_2)
     (gd (decide (l5_1.length + ([(TEntry.mk j11_2 (r12_1 == 0) (TTxn.mk 0 0 [] []))] : List TEntry).length ≤ 4294967296)) <|
     diwanplay_Picks_Log.lp5 fu l5_0 n_ (l5_1 ++ ([(TEntry.mk j11_2 (r12_1 == 0) (TTxn.mk 0 0 [] []))] : List TEntry)) j11_2 (w64 (l5_3 + 1)) r12_2)) fun k11 =>
   bd (diwanplay_Picks_Num 4 l5_4) fun (r8_1, r8_2) =>
   br (r8_1 == 0)
    (k11 (w64 (l5_2 + 1)) r8_2)
    (k11 l5_2 r8_2))
   (some (l5_1, l5_4))
noncomputable def diwanplay_Picks_Log.lp5_post (l5_0 : Int) (r_ : (List TEntry × TPicks)) : Wy → St → Prop := fun e τ => match r_ with
  | (y0, y1) => e = .exit 0 ∧ τ = ofL [Tm 5 (.data (.slc true none 6 (List.map TEntry.en y0))), Ob 1000 [.data (.slc false none 1 (List.map e_u8 y1.l)), iv y1.n]]
theorem diwanplay_Picks_Log.lp5_ok (fu : Nat) (l5_0 : Int) : ∀ (n_ : Nat) (l5_1 : List TEntry) (l5_2 : Int) (l5_3 : Int) (l5_4 : TPicks) (r_ : (List TEntry × TPicks)), diwanplay_Picks_Log.lp5 fu l5_0 n_ l5_1 l5_2 l5_3 l5_4 = some r_ → WK Try.prog diwanplay_Picks_Log.O (Ck Try.prog) (cB (cR (cL (cR (cR (cR bd40)))))) [] (ofL [Tm 0 (.ptr 1000 0), Tm 1 (iv l5_0), Tm 5 (.data (.slc true none 6 (List.map TEntry.en l5_1))), Tm 6 (iv l5_2), Tm 7 (iv l5_3), Ob 1000 [.data (.slc false none 1 (List.map e_u8 l5_4.l)), iv l5_4.n]]) (diwanplay_Picks_Log.lp5_post l5_0 r_) := by
 intro n_
 induction n_ with
 | zero => intro l5_1 l5_2 l5_3 l5_4 r_ h; exact no_none h
 | succ n_ ih =>
  intro l5_1 l5_2 l5_3 l5_4 r_ h
  refine kLp ?_
  refine kSq ?_
  refine kRs 63 [Tm 11 (bv (decide (l5_3 < l5_0)))] [] .n ?_
  rcases br_inv h with ⟨b7_0, h⟩ | ⟨b7_0, h⟩
  ·refine kCt b7_0 ?_
   refine kSk ?_
   refine kCd (cR (cB (cB (cR (cL (cR (cR (cR bd40)))))))) [.lp (cB (cR (cL (cR (cR (cR bd40))))))] ?_
   refine kSq ?_
   refine kBk 1 ?_
   obtain ⟨k11, hk11, h⟩ := jn_inv h
   have Jk11 : ∀ (j11_2 : Int) (j11_4 : TPicks), k11 j11_2 j11_4 = some r_ → WK Try.prog diwanplay_Picks_Log.O (Ck Try.prog) (cR (cB (cL (cR (cB (cB (cR (cL (cR (cR (cR bd40))))))))))) [.blk 1, .seq (cR (cR (cB (cB (cR (cL (cR (cR (cR bd40))))))))), .lp (cB (cR (cL (cR (cR (cR bd40))))))] (ofL [Tm 0 (.ptr 1000 0), Tm 1 (iv l5_0), Tm 5 (.data (.slc true none 6 (List.map TEntry.en l5_1))), Tm 6 (iv j11_2), Tm 7 (iv l5_3), Ob 1000 [.data (.slc false none 1 (List.map e_u8 j11_4.l)), iv j11_4.n]]) (diwanplay_Picks_Log.lp5_post l5_0 r_) := by
    intro j11_2 j11_4 h
    rw [hk11] at h
    obtain ⟨⟨r12_1, r12_2⟩, h12_3, h⟩ := bd_inv h
    refine kRs 31 [Tm 8 (.ptr 8 0), Ob 8 (TEntry.ob_000011 (TEntry.mk j11_2 (r12_1 == 0) (TTxn.mk 0 0 [] []))), Ob 1000 [.data (.slc false none 1 (List.map e_u8 r12_2.l)), iv r12_2.n]] [.a ⟨iv r12_1, [[.data (.slc false none 1 (List.map e_u8 r12_2.l)), iv r12_2.n]]⟩] (.c (Asks.of (C := Meets Try.prog) (diwanplay_Picks_Num.meets 3 j11_4 _ _ h12_3)) .n) ?_
    refine kSq ?_
    refine kRs 255 [Tm 26 (bv (!(r12_1 == 0)))] [] .n ?_
    rcases br_inv h with ⟨b14_0, h⟩ | ⟨b14_0, h⟩
    ·refine kCt b14_0 ?_
     obtain ⟨⟨r15_1, r15_2⟩, h15_3, h⟩ := bd_inv h
     refine kRc 498 [Ob 8 (TEntry.ob_000011 (TEntry.mk j11_2 (r12_1 == 0) r15_1)), Ob 1000 [.data (.slc false none 1 (List.map e_u8 r15_2.l)), iv r15_2.n]] [.a ⟨.data (TTxn.ag_0011 r15_1), [[.data (.slc false none 1 (List.map e_u8 r15_2.l)), iv r15_2.n]]⟩] (.c (Asks.of (C := Meets Try.prog) (diwanplay_Picks_Txn.meets fu (w64 (l5_3 + 1)) r12_2 _ _ h15_3)) .n) (cR (cR (cR (cB (cL (cR (cB (cB (cR (cL (cR (cR (cR bd40))))))))))))) [.blk 1, .seq (cR (cR (cB (cB (cR (cL (cR (cR (cR bd40))))))))), .lp (cB (cR (cL (cR (cR (cR bd40))))))] ?_
     obtain ⟨c16_1, h⟩ := gd_inv h
     refine kRc 218 [Tm 5 (.data (.slc true none 6 (List.map TEntry.en (l5_1 ++ ([(TEntry.mk j11_2 (r12_1 == 0) r15_1)] : List TEntry)))))] [.s (.t 35) [.data (.slc true none 6 (List.map TEntry.en (l5_1 ++ ([(TEntry.mk j11_2 (r12_1 == 0) r15_1)] : List TEntry))))]] (.c (c_al (e := TEntry.en) (f := TEntry.en) c16_1) (.c (congrArg (fun d : DV => [AV.data d]) (c_app (e := TEntry.en) (s := 6) (l := l5_1) (m := ([(TEntry.mk j11_2 (r12_1 == 0) r15_1)] : List TEntry)))) .n)) (cR (cR (cB (cB (cR (cL (cR (cR (cR bd40))))))))) [.lp (cB (cR (cL (cR (cR (cR bd40))))))] ?_
     refine kRc 31 [Tm 7 (iv (w64 (l5_3 + 1)))] [] .n (cB (cR (cL (cR (cR (cR bd40)))))) [] ?_
     exact kWk (ih (l5_1 ++ ([(TEntry.mk j11_2 (r12_1 == 0) r15_1)] : List TEntry)) j11_2 (w64 (l5_3 + 1)) r15_2 _ h)
    ·refine kCe b14_0 ?_
     refine kSk ?_
     refine kCd (cR (cR (cR (cB (cL (cR (cB (cB (cR (cL (cR (cR (cR bd40))))))))))))) [.blk 1, .seq (cR (cR (cB (cB (cR (cL (cR (cR (cR bd40))))))))), .lp (cB (cR (cL (cR (cR (cR bd40))))))] ?_
     obtain ⟨c18_1, h⟩ := gd_inv h
     refine kRc 440 [Tm 5 (.data (.slc true none 6 (List.map TEntry.en (l5_1 ++ ([(TEntry.mk j11_2 (r12_1 == 0) (TTxn.mk 0 0 [] []))] : List TEntry)))))] [.s (.t 35) [.data (.slc true none 6 (List.map TEntry.en (l5_1 ++ ([(TEntry.mk j11_2 (r12_1 == 0) (TTxn.mk 0 0 [] []))] : List TEntry))))]] (.c (c_al (e := TEntry.en) (f := TEntry.en) c18_1) (.c (congrArg (fun d : DV => [AV.data d]) (c_app (e := TEntry.en) (s := 6) (l := l5_1) (m := ([(TEntry.mk j11_2 (r12_1 == 0) (TTxn.mk 0 0 [] []))] : List TEntry)))) .n)) (cR (cR (cB (cB (cR (cL (cR (cR (cR bd40))))))))) [.lp (cB (cR (cL (cR (cR (cR bd40))))))] ?_
     refine kRc 31 [Tm 7 (iv (w64 (l5_3 + 1)))] [] .n (cB (cR (cL (cR (cR (cR bd40)))))) [] ?_
     exact kWk (ih (l5_1 ++ ([(TEntry.mk j11_2 (r12_1 == 0) (TTxn.mk 0 0 [] []))] : List TEntry)) j11_2 (w64 (l5_3 + 1)) r12_2 _ h)
   clear hk11
   refine kSq ?_
   obtain ⟨⟨r8_1, r8_2⟩, h8_3, h⟩ := bd_inv h
   refine kRs 62 [Tm 16 (bv (r8_1 == 0)), Ob 1000 [.data (.slc false none 1 (List.map e_u8 r8_2.l)), iv r8_2.n]] [.a ⟨iv r8_1, [[.data (.slc false none 1 (List.map e_u8 r8_2.l)), iv r8_2.n]]⟩] (.c (Asks.of (C := Meets Try.prog) (diwanplay_Picks_Num.meets 4 l5_4 _ _ h8_3)) .n) ?_
   rcases br_inv h with ⟨b9_0, h⟩ | ⟨b9_0, h⟩
   ·refine kCt b9_0 ?_
    refine kRc 94 [Tm 6 (iv (w64 (l5_2 + 1)))] [] .n (cR (cB (cL (cR (cB (cB (cR (cL (cR (cR (cR bd40))))))))))) [.blk 1, .seq (cR (cR (cB (cB (cR (cL (cR (cR (cR bd40))))))))), .lp (cB (cR (cL (cR (cR (cR bd40))))))] ?_
    exact kWk (Jk11 (w64 (l5_2 + 1)) r8_2 h)
   ·refine kCe b9_0 ?_
    refine kSk ?_
    refine kCd (cR (cB (cL (cR (cB (cB (cR (cL (cR (cR (cR bd40))))))))))) [.blk 1, .seq (cR (cR (cB (cB (cR (cL (cR (cR (cR bd40))))))))), .lp (cB (cR (cL (cR (cR (cR bd40))))))] ?_
    exact kWk (Jk11 l5_2 r8_2 h)
  ·refine kCe b7_0 ?_
   cases some_inj h
   refine kWo ?_
   refine kXt 0 ?_
   exact kOut
noncomputable def diwanplay_Picks_Log (fu : Nat) (n_v : Int) (o0_v : TPicks) : Option (List TEntry × TPicks) :=
 bd (diwanplay_Picks_Log.lp5 fu n_v fu [] 1 0 o0_v) fun (y20_0, y20_1) =>
 some (y20_0, y20_1)
theorem diwanplay_Picks_Log.meets (fu : Nat) (n_v : Int) (o0_v : TPicks) (z0 : List TEntry) (z1 : TPicks) (h : diwanplay_Picks_Log fu n_v o0_v = some (z0, z1)) : Meets Try.prog ⟨40, [.ptr 1000 0, iv n_v], [[.data (.slc false none 1 (List.map e_u8 o0_v.l)), iv o0_v.n]]⟩ ⟨.data (.slc true none 6 (List.map TEntry.en z0)), [[.data (.slc false none 1 (List.map e_u8 z1.l)), iv z1.n]]⟩ := by
 refine meets_of (O := diwanplay_Picks_Log.O) hmix (fn := Try.f40) (code := bd40) (by kernel_rfl) ?_
 refine WK.weak (l := [Tm 0 (.ptr 1000 0), Tm 1 (iv n_v), Ob 1000 [.data (.slc false none 1 (List.map e_u8 o0_v.l)), iv o0_v.n]]) (wk_of (by kernel_rfl)) ?_
 unfold diwanplay_Picks_Log at h
 refine kRs 7 [] [] .n ?_
 refine kRs 7 [Tm 5 (.data (.slc true (some true) 6 (List.map TEntry.en [])))] [] .n ?_
 refine kRs 15 [Tm 6 (iv 1)] [] .n ?_
 refine kSq ?_
 refine kRs 31 [Tm 7 (iv 0)] [] .n ?_
 refine kBk 0 ?_
 obtain ⟨o20, ho20, h⟩ := bd_inv h
 refine kUs (diwanplay_Picks_Log.lp5_ok fu n_v _ [] 1 0 o0_v _ ho20) ?_
 intro e_ τ_ hp_
 obtain ⟨y20_0, y20_1⟩ := o20
 obtain ⟨rfl, rfl⟩ := hp_
 refine kCd (cR (cR (cR (cR bd40)))) [] ?_
 refine kRs 2 [Tm 4 (.data (.slc true none 6 (List.map TEntry.en y20_0)))] [] .n ?_
 refine WK.weak (l := [Tm 4 (.data (.slc true none 6 (List.map TEntry.en y20_0))), Ob 1000 [.data (.slc false none 1 (List.map e_u8 y20_1.l)), iv y20_1.n]]) (wk_of (by kernel_rfl)) ?_
 refine kRt ?_
 have h_0 := some_inj h
 obtain ⟨g_1, h_1⟩ := Prod.mk.inj h_0
 subst g_1
 subst h_1
 exact kFr
/-- (*diwan/diwanplay.Picks).Raft -/
noncomputable def bd14 : Code := (Try.f14.body).getD .skip
def diwanplay_Picks_Raft.O : Nat → Nat := fun t => bif ([2, 3, 4, 5, 17, 21, 25, 45, 52, 55, 59, 63, 67, 85, 95, 109, 116, 130, 133] : List Nat).any (Nat.beq t) then 1 else bif ([131] : List Nat).any (Nat.beq t) then 222 else 0
noncomputable def diwanplay_Picks_Raft.lp13 (fu : Nat) (l13_0 : Int) (l13_2 : TRaft) : Nat → Int → TRaft → TPicks → Option (TRaft × TPicks)
  | 0, _, _, _ => none
  | n_ + 1, l13_1, l13_3, l13_4 =>
  br (decide (l13_1 < l13_0))
   (bd (diwanplay_Picks_Num (w64 ((l13_3.Log.length : Int) + 1)) l13_4) fun (r16_1, r16_2) =>
   ix l13_3.Match l13_1 fun x16_4 =>
   ix (l13_3.Match.set l13_1.toNat r16_1) l13_1 fun x17_1 =>
   ix l13_3.Next l13_1 fun x17_4 =>
   jn (fun (j21_3 : TRaft) (j21_4 : TPicks) =>
    bd (diwanplay_Picks_Num 2 j21_4) fun (r22_1, r22_2) =>
    ix j21_3.Votes l13_1 fun x22_4 =>
    diwanplay_Picks_Raft.lp13 fu l13_0 l13_2 n_ (w64 (l13_1 + 1)) (TRaft.mk j21_3.Me j21_3.Nodes j21_3.Wait j21_3.Term j21_3.Vote j21_3.Log j21_3.Commit j21_3.Role j21_3.Leader (j21_3.Votes.set l13_1.toNat (r22_1 == 0)) j21_3.Next j21_3.Match j21_3.Clock) r22_2) fun k21 =>
   bd (diwanplay_Picks_Num 3 r16_2) fun (r18_1, r18_2) =>
   br (r18_1 == 0)
    (bd (diwanplay_Picks_Num (w64 ((l13_3.Log.length : Int) + 1)) r18_2) fun (r20_1, r20_2) =>
    ix (l13_3.Next.set l13_1.toNat (w64 (x17_1 + 1))) l13_1 fun x20_4 =>
    k21 (TRaft.mk l13_3.Me l13_3.Nodes l13_3.Wait l13_3.Term l13_3.Vote l13_3.Log l13_3.Commit l13_3.Role l13_3.Leader l13_3.Votes ((l13_3.Next.set l13_1.toNat (w64 (x17_1 + 1))).set l13_1.toNat (w64 (1 + r20_1))) (l13_3.Match.set l13_1.toNat r16_1) l13_3.Clock) r20_2)
    (k21 (TRaft.mk l13_3.Me l13_3.Nodes l13_3.Wait l13_3.Term l13_3.Vote l13_3.Log l13_3.Commit l13_3.Role l13_3.Leader l13_3.Votes (l13_3.Next.set l13_1.toNat (w64 (x17_1 + 1))) (l13_3.Match.set l13_1.toNat r16_1) l13_3.Clock) r18_2))
   (some (l13_3, l13_4))
noncomputable def diwanplay_Picks_Raft.lp13_post (l13_0 : Int) (l13_2 : TRaft) (r_ : (TRaft × TPicks)) : Wy → St → Prop := fun e τ => match r_ with
  | (y0, y1) => e = .exit 0 ∧ τ = ofL [Tm 2 (.ptr 2 0), Tm 4 (.ptr 4 0), Ob 2 (TRaft.ob_000001000111 l13_2), Ob 4 (TRaft.ob_000001000111 y0), Ob 1000 [.data (.slc false none 1 (List.map e_u8 y1.l)), iv y1.n]]
theorem diwanplay_Picks_Raft.lp13_ok (fu : Nat) (l13_0 : Int) (l13_2 : TRaft) : ∀ (n_ : Nat) (l13_1 : Int) (l13_3 : TRaft) (l13_4 : TPicks) (r_ : (TRaft × TPicks)), diwanplay_Picks_Raft.lp13 fu l13_0 l13_2 n_ l13_1 l13_3 l13_4 = some r_ → WK Try.prog diwanplay_Picks_Raft.O (Ck Try.prog) (cB (cR (cL (cR (cR (cR (cR (cR (cR (cR (cR bd14))))))))))) [] (ofL [Tm 0 (.ptr 1000 0), Tm 2 (.ptr 2 0), Tm 3 (iv l13_0), Tm 4 (.ptr 4 0), Tm 5 (iv l13_1), Ob 2 (TRaft.ob_000001000111 l13_2), Ob 4 (TRaft.ob_000001000111 l13_3), Ob 1000 [.data (.slc false none 1 (List.map e_u8 l13_4.l)), iv l13_4.n]]) (diwanplay_Picks_Raft.lp13_post l13_0 l13_2 r_) := by
 intro n_
 induction n_ with
 | zero => intro l13_1 l13_3 l13_4 r_ h; exact no_none h
 | succ n_ ih =>
  intro l13_1 l13_3 l13_4 r_ h
  refine kLp ?_
  refine kSq ?_
  refine kRs 255 [Tm 74 (bv (decide (l13_1 < l13_0)))] [] .n ?_
  rcases br_inv h with ⟨b15_0, h⟩ | ⟨b15_0, h⟩
  ·refine kCt b15_0 ?_
   refine kSk ?_
   refine kCd (cR (cB (cB (cR (cL (cR (cR (cR (cR (cR (cR (cR (cR bd14))))))))))))) [.lp (cB (cR (cL (cR (cR (cR (cR (cR (cR (cR (cR bd14)))))))))))] ?_
   refine kSq ?_
   refine kBk 1 ?_
   obtain ⟨⟨r16_1, r16_2⟩, h16_3, h⟩ := bd_inv h
   obtain ⟨x16_4, a16_5, e16_6, h⟩ := ix_inv h
   refine kRs 126 [Ob 4 (TRaft.ob_000001000111 (TRaft.mk l13_3.Me l13_3.Nodes l13_3.Wait l13_3.Term l13_3.Vote l13_3.Log l13_3.Commit l13_3.Role l13_3.Leader l13_3.Votes l13_3.Next (l13_3.Match.set l13_1.toNat r16_1) l13_3.Clock)), Ob 1000 [.data (.slc false none 1 (List.map e_u8 r16_2.l)), iv r16_2.n]] [.s (.t 83) [iv (l13_3.Log.length : Int)], .a ⟨iv r16_1, [[.data (.slc false none 1 (List.map e_u8 r16_2.l)), iv r16_2.n]]⟩, .c (e_i64 x16_4), .s (.o 4) (TRaft.ob_000001000111 (TRaft.mk l13_3.Me l13_3.Nodes l13_3.Wait l13_3.Term l13_3.Vote l13_3.Log l13_3.Commit l13_3.Role l13_3.Leader l13_3.Votes l13_3.Next (l13_3.Match.set l13_1.toNat r16_1) l13_3.Clock))] (.c (c_len (e := TEntry.en) (l := l13_3.Log)) (.c (Asks.of (C := Meets Try.prog) (diwanplay_Picks_Num.meets (w64 ((l13_3.Log.length : Int) + 1)) l13_4 _ _ h16_3)) (.c (c_ix (e := e_i64) a16_5 e16_6) (.c (c_el (e := e_i64) e16_6) (.c (congrArg (fun d : DV => (TRaft.ob_000001000111 (TRaft.mk l13_3.Me l13_3.Nodes l13_3.Wait l13_3.Term l13_3.Vote l13_3.Log l13_3.Commit l13_3.Role l13_3.Leader l13_3.Votes l13_3.Next (l13_3.Match.set l13_1.toNat r16_1) l13_3.Clock)).set 11 (AV.data d)) (c_set (e := e_i64) (s := 1) (nl := none) (l := l13_3.Match) (i := l13_1.toNat) (x := r16_1))) (.c rT .n)))))) ?_
   obtain ⟨x17_1, a17_2, e17_3, h⟩ := ix_inv h
   obtain ⟨x17_4, a17_5, e17_6, h⟩ := ix_inv h
   refine kRs 254 [Ob 4 (TRaft.ob_000001000111 (TRaft.mk l13_3.Me l13_3.Nodes l13_3.Wait l13_3.Term l13_3.Vote l13_3.Log l13_3.Commit l13_3.Role l13_3.Leader l13_3.Votes (l13_3.Next.set l13_1.toNat (w64 (x17_1 + 1))) (l13_3.Match.set l13_1.toNat r16_1) l13_3.Clock))] [.c (e_i64 x17_1), .c (e_i64 x17_4), .s (.o 4) (TRaft.ob_000001000111 (TRaft.mk l13_3.Me l13_3.Nodes l13_3.Wait l13_3.Term l13_3.Vote l13_3.Log l13_3.Commit l13_3.Role l13_3.Leader l13_3.Votes (l13_3.Next.set l13_1.toNat (w64 (x17_1 + 1))) (l13_3.Match.set l13_1.toNat r16_1) l13_3.Clock))] (.c (c_ix (e := e_i64) a17_2 e17_3) (.c (c_el (e := e_i64) e17_3) (.c (c_ix (e := e_i64) a17_5 e17_6) (.c (c_el (e := e_i64) e17_6) (.c (congrArg (fun d : DV => (TRaft.ob_000001000111 (TRaft.mk l13_3.Me l13_3.Nodes l13_3.Wait l13_3.Term l13_3.Vote l13_3.Log l13_3.Commit l13_3.Role l13_3.Leader l13_3.Votes (l13_3.Next.set l13_1.toNat (w64 (x17_1 + 1))) (l13_3.Match.set l13_1.toNat r16_1) l13_3.Clock)).set 10 (AV.data d)) (c_set (e := e_i64) (s := 1) (nl := none) (l := l13_3.Next) (i := l13_1.toNat) (x := (w64 (x17_1 + 1))))) (.c rT .n)))))) ?_
   obtain ⟨k21, hk21, h⟩ := jn_inv h
   have Jk21 : ∀ (j21_3 : TRaft) (j21_4 : TPicks), k21 j21_3 j21_4 = some r_ → WK Try.prog diwanplay_Picks_Raft.O (Ck Try.prog) (cR (cR (cR (cB (cL (cR (cB (cB (cR (cL (cR (cR (cR (cR (cR (cR (cR (cR bd14)))))))))))))))))) [.blk 1, .seq (cR (cR (cB (cB (cR (cL (cR (cR (cR (cR (cR (cR (cR (cR bd14)))))))))))))), .lp (cB (cR (cL (cR (cR (cR (cR (cR (cR (cR (cR bd14)))))))))))] (ofL [Tm 0 (.ptr 1000 0), Tm 2 (.ptr 2 0), Tm 3 (iv l13_0), Tm 4 (.ptr 4 0), Tm 5 (iv l13_1), Ob 2 (TRaft.ob_000001000111 l13_2), Ob 4 (TRaft.ob_000001000111 j21_3), Ob 1000 [.data (.slc false none 1 (List.map e_u8 j21_4.l)), iv j21_4.n]]) (diwanplay_Picks_Raft.lp13_post l13_0 l13_2 r_) := by
    intro j21_3 j21_4 h
    rw [hk21] at h
    obtain ⟨⟨r22_1, r22_2⟩, h22_3, h⟩ := bd_inv h
    obtain ⟨x22_4, a22_5, e22_6, h⟩ := ix_inv h
    refine kRc 63 [Ob 4 (TRaft.ob_000001000111 (TRaft.mk j21_3.Me j21_3.Nodes j21_3.Wait j21_3.Term j21_3.Vote j21_3.Log j21_3.Commit j21_3.Role j21_3.Leader (j21_3.Votes.set l13_1.toNat (r22_1 == 0)) j21_3.Next j21_3.Match j21_3.Clock)), Ob 1000 [.data (.slc false none 1 (List.map e_u8 r22_2.l)), iv r22_2.n]] [.a ⟨iv r22_1, [[.data (.slc false none 1 (List.map e_u8 r22_2.l)), iv r22_2.n]]⟩, .c (e_b x22_4), .s (.o 4) (TRaft.ob_000001000111 (TRaft.mk j21_3.Me j21_3.Nodes j21_3.Wait j21_3.Term j21_3.Vote j21_3.Log j21_3.Commit j21_3.Role j21_3.Leader (j21_3.Votes.set l13_1.toNat (r22_1 == 0)) j21_3.Next j21_3.Match j21_3.Clock))] (.c (Asks.of (C := Meets Try.prog) (diwanplay_Picks_Num.meets 2 j21_4 _ _ h22_3)) (.c (c_ix (e := e_b) a22_5 e22_6) (.c (c_el (e := e_b) e22_6) (.c (congrArg (fun d : DV => (TRaft.ob_000001000111 (TRaft.mk j21_3.Me j21_3.Nodes j21_3.Wait j21_3.Term j21_3.Vote j21_3.Log j21_3.Commit j21_3.Role j21_3.Leader (j21_3.Votes.set l13_1.toNat (r22_1 == 0)) j21_3.Next j21_3.Match j21_3.Clock)).set 9 (AV.data d)) (c_set (e := e_b) (s := 1) (nl := none) (l := j21_3.Votes) (i := l13_1.toNat) (x := (r22_1 == 0)))) (.c rT .n))))) (cR (cR (cB (cB (cR (cL (cR (cR (cR (cR (cR (cR (cR (cR bd14)))))))))))))) [.lp (cB (cR (cL (cR (cR (cR (cR (cR (cR (cR (cR bd14)))))))))))] ?_
    refine kRc 191 [Tm 5 (iv (w64 (l13_1 + 1)))] [] .n (cB (cR (cL (cR (cR (cR (cR (cR (cR (cR (cR bd14))))))))))) [] ?_
    exact kWk (ih (w64 (l13_1 + 1)) (TRaft.mk j21_3.Me j21_3.Nodes j21_3.Wait j21_3.Term j21_3.Vote j21_3.Log j21_3.Commit j21_3.Role j21_3.Leader (j21_3.Votes.set l13_1.toNat (r22_1 == 0)) j21_3.Next j21_3.Match j21_3.Clock) r22_2 _ h)
   clear hk21
   refine kSq ?_
   obtain ⟨⟨r18_1, r18_2⟩, h18_3, h⟩ := bd_inv h
   refine kRs 253 [Tm 99 (bv (r18_1 == 0)), Ob 1000 [.data (.slc false none 1 (List.map e_u8 r18_2.l)), iv r18_2.n]] [.a ⟨iv r18_1, [[.data (.slc false none 1 (List.map e_u8 r18_2.l)), iv r18_2.n]]⟩] (.c (Asks.of (C := Meets Try.prog) (diwanplay_Picks_Num.meets 3 r16_2 _ _ h18_3)) .n) ?_
   rcases br_inv h with ⟨b19_0, h⟩ | ⟨b19_0, h⟩
   ·refine kCt b19_0 ?_
    obtain ⟨⟨r20_1, r20_2⟩, h20_3, h⟩ := bd_inv h
    obtain ⟨x20_4, a20_5, e20_6, h⟩ := ix_inv h
    refine kRc 504 [Ob 4 (TRaft.ob_000001000111 (TRaft.mk l13_3.Me l13_3.Nodes l13_3.Wait l13_3.Term l13_3.Vote l13_3.Log l13_3.Commit l13_3.Role l13_3.Leader l13_3.Votes ((l13_3.Next.set l13_1.toNat (w64 (x17_1 + 1))).set l13_1.toNat (w64 (1 + r20_1))) (l13_3.Match.set l13_1.toNat r16_1) l13_3.Clock)), Ob 1000 [.data (.slc false none 1 (List.map e_u8 r20_2.l)), iv r20_2.n]] [.s (.t 106) [iv (l13_3.Log.length : Int)], .a ⟨iv r20_1, [[.data (.slc false none 1 (List.map e_u8 r20_2.l)), iv r20_2.n]]⟩, .c (e_i64 x20_4), .s (.o 4) (TRaft.ob_000001000111 (TRaft.mk l13_3.Me l13_3.Nodes l13_3.Wait l13_3.Term l13_3.Vote l13_3.Log l13_3.Commit l13_3.Role l13_3.Leader l13_3.Votes ((l13_3.Next.set l13_1.toNat (w64 (x17_1 + 1))).set l13_1.toNat (w64 (1 + r20_1))) (l13_3.Match.set l13_1.toNat r16_1) l13_3.Clock))] (.c (c_len (e := TEntry.en) (l := l13_3.Log)) (.c (Asks.of (C := Meets Try.prog) (diwanplay_Picks_Num.meets (w64 ((l13_3.Log.length : Int) + 1)) r18_2 _ _ h20_3)) (.c (c_ix (e := e_i64) a20_5 e20_6) (.c (c_el (e := e_i64) e20_6) (.c (congrArg (fun d : DV => (TRaft.ob_000001000111 (TRaft.mk l13_3.Me l13_3.Nodes l13_3.Wait l13_3.Term l13_3.Vote l13_3.Log l13_3.Commit l13_3.Role l13_3.Leader l13_3.Votes ((l13_3.Next.set l13_1.toNat (w64 (x17_1 + 1))).set l13_1.toNat (w64 (1 + r20_1))) (l13_3.Match.set l13_1.toNat r16_1) l13_3.Clock)).set 10 (AV.data d)) (c_set (e := e_i64) (s := 1) (nl := none) (l := (l13_3.Next.set l13_1.toNat (w64 (x17_1 + 1)))) (i := l13_1.toNat) (x := (w64 (1 + r20_1))))) (.c rT .n)))))) (cR (cR (cR (cB (cL (cR (cB (cB (cR (cL (cR (cR (cR (cR (cR (cR (cR (cR bd14)))))))))))))))))) [.blk 1, .seq (cR (cR (cB (cB (cR (cL (cR (cR (cR (cR (cR (cR (cR (cR bd14)))))))))))))), .lp (cB (cR (cL (cR (cR (cR (cR (cR (cR (cR (cR bd14)))))))))))] ?_
    exact kWk (Jk21 (TRaft.mk l13_3.Me l13_3.Nodes l13_3.Wait l13_3.Term l13_3.Vote l13_3.Log l13_3.Commit l13_3.Role l13_3.Leader l13_3.Votes ((l13_3.Next.set l13_1.toNat (w64 (x17_1 + 1))).set l13_1.toNat (w64 (1 + r20_1))) (l13_3.Match.set l13_1.toNat r16_1) l13_3.Clock) r20_2 h)
   ·refine kCe b19_0 ?_
    refine kSk ?_
    refine kCd (cR (cR (cR (cB (cL (cR (cB (cB (cR (cL (cR (cR (cR (cR (cR (cR (cR (cR bd14)))))))))))))))))) [.blk 1, .seq (cR (cR (cB (cB (cR (cL (cR (cR (cR (cR (cR (cR (cR (cR bd14)))))))))))))), .lp (cB (cR (cL (cR (cR (cR (cR (cR (cR (cR (cR bd14)))))))))))] ?_
    exact kWk (Jk21 (TRaft.mk l13_3.Me l13_3.Nodes l13_3.Wait l13_3.Term l13_3.Vote l13_3.Log l13_3.Commit l13_3.Role l13_3.Leader l13_3.Votes (l13_3.Next.set l13_1.toNat (w64 (x17_1 + 1))) (l13_3.Match.set l13_1.toNat r16_1) l13_3.Clock) r18_2 h)
  ·refine kCe b15_0 ?_
   cases some_inj h
   refine kWo ?_
   refine kXt 0 ?_
   exact kOut
noncomputable def diwanplay_Picks_Raft (fu : Nat) (o0_v : TPicks) : Option (TRaft × TPicks) :=
 bd (diwanplay_Picks_Num 5 o0_v) fun (r2_1, r2_2) =>
 bd (diwanplay_Picks_Num (w64 (1 + r2_1)) r2_2) fun (r3_1, r3_2) =>
 bd (diwanplay_Picks_Num 9 r3_2) fun (r3_4, r3_5) =>
 bd (diwanref11_New (w64 (1 + r3_1)) (w64 (1 + r2_1)) (w64 (3 + r3_4))) fun r3_7 =>
 bd (diwanplay_Picks_Num 8 r3_5) fun (r4_1, r4_2) =>
 bd (diwanplay_Picks_Log fu r4_1 r4_2) fun (r4_4, r4_5) =>
 bd (diwanplay_Picks_Num 3 r4_5) fun (r5_1, r5_2) =>
 jn (fun (j9_2 : TRaft) (j9_3 : TPicks) =>
  bd (diwanplay_Picks_Num (w64 ((j9_2.Log.length : Int) + 1)) j9_3) fun (r10_1, r10_2) =>
  bd (diwanplay_Picks_Num 3 r10_2) fun (r11_1, r11_2) =>
  bd (diwanplay_Picks_Num (w64 ((w64 (1 + r2_1)) + 1)) r11_2) fun (r11_4, r11_5) =>
  bd (diwanplay_Picks_Num (w64 ((w64 (1 + r2_1)) + 1)) r11_5) fun (r11_7, r11_8) =>
  bd (diwanplay_Picks_Num j9_2.Wait r11_8) fun (r11_10, r11_11) =>
  bd (diwanplay_Picks_Raft.lp13 fu (w64 (1 + r2_1)) (TRaft.mk 0 0 0 0 0 [] 0 0 0 [] [] [] 0) fu 0 (TRaft.mk j9_2.Me j9_2.Nodes j9_2.Wait j9_2.Term r11_4 j9_2.Log r10_1 r11_1 r11_7 j9_2.Votes j9_2.Next j9_2.Match r11_10) r11_11) fun (y24_0, y24_1) =>
  br (y24_0.Role == 2)
   (ix y24_0.Match (w64 (y24_0.Me - 1)) fun x27_1 =>
   some ((TRaft.mk y24_0.Me y24_0.Nodes y24_0.Wait y24_0.Term y24_0.Vote y24_0.Log y24_0.Commit y24_0.Role y24_0.Me y24_0.Votes y24_0.Next (y24_0.Match.set (w64 (y24_0.Me - 1)).toNat (y24_0.Log.length : Int)) y24_0.Clock), y24_1))
   (some (y24_0, y24_1))) fun k9 =>
 br (decide ((r4_4.length : Int) > 0))
  (ix r4_4 (w64 ((r4_4.length : Int) - 1)) fun x8_1 =>
  bd (diwanplay_Picks_Num 2 r5_2) fun (r8_4, r8_5) =>
  k9 (TRaft.mk r3_7.Me r3_7.Nodes r3_7.Wait (if (w64 (1 + r5_1)) < (w64 (x8_1.Term + r8_4)) then (w64 (x8_1.Term + r8_4)) else (w64 (1 + r5_1))) r3_7.Vote r4_4 r3_7.Commit r3_7.Role r3_7.Leader r3_7.Votes r3_7.Next r3_7.Match r3_7.Clock) r8_5)
  (k9 (TRaft.mk r3_7.Me r3_7.Nodes r3_7.Wait (w64 (1 + r5_1)) r3_7.Vote r4_4 r3_7.Commit r3_7.Role r3_7.Leader r3_7.Votes r3_7.Next r3_7.Match r3_7.Clock) r5_2)
theorem diwanplay_Picks_Raft.meets (fu : Nat) (o0_v : TPicks) (z0 : TRaft) (z1 : TPicks) (h : diwanplay_Picks_Raft fu o0_v = some (z0, z1)) : Meets Try.prog ⟨14, [.ptr 1000 0], [[.data (.slc false none 1 (List.map e_u8 o0_v.l)), iv o0_v.n]]⟩ ⟨.data (TRaft.ag_000001000111 z0), [[.data (.slc false none 1 (List.map e_u8 z1.l)), iv z1.n]]⟩ := by
 refine meets_of (O := diwanplay_Picks_Raft.O) hmix (fn := Try.f14) (code := bd14) (by kernel_rfl) ?_
 refine WK.weak (l := [Tm 0 (.ptr 1000 0), Ob 1000 [.data (.slc false none 1 (List.map e_u8 o0_v.l)), iv o0_v.n]]) (wk_of (by kernel_rfl)) ?_
 unfold diwanplay_Picks_Raft at h
 refine kRs 3 [Tm 2 (.ptr 2 0), Ob 2 (TRaft.ob_000001000111 (TRaft.mk 0 0 0 0 0 [] 0 0 0 [] [] [] 0))] [] .n ?_
 obtain ⟨⟨r2_1, r2_2⟩, h2_3, h⟩ := bd_inv h
 refine kRs 7 [Tm 3 (iv (w64 (1 + r2_1))), Ob 1000 [.data (.slc false none 1 (List.map e_u8 r2_2.l)), iv r2_2.n]] [.a ⟨iv r2_1, [[.data (.slc false none 1 (List.map e_u8 r2_2.l)), iv r2_2.n]]⟩] (.c (Asks.of (C := Meets Try.prog) (diwanplay_Picks_Num.meets 5 o0_v _ _ h2_3)) .n) ?_
 obtain ⟨⟨r3_1, r3_2⟩, h3_3, h⟩ := bd_inv h
 obtain ⟨⟨r3_4, r3_5⟩, h3_6, h⟩ := bd_inv h
 obtain ⟨r3_7, h3_8, h⟩ := bd_inv h
 refine kRs 29 [Tm 4 (.ptr 4 0), Ob 4 (TRaft.ob_000001000111 r3_7), Ob 1000 [.data (.slc false none 1 (List.map e_u8 r3_5.l)), iv r3_5.n]] [.a ⟨iv r3_1, [[.data (.slc false none 1 (List.map e_u8 r3_2.l)), iv r3_2.n]]⟩, .a ⟨iv r3_4, [[.data (.slc false none 1 (List.map e_u8 r3_5.l)), iv r3_5.n]]⟩, .a ⟨.data (TRaft.ag_000001000111 r3_7), []⟩] (.c (Asks.of (C := Meets Try.prog) (diwanplay_Picks_Num.meets (w64 (1 + r2_1)) r2_2 _ _ h3_3)) (.c (Asks.of (C := Meets Try.prog) (diwanplay_Picks_Num.meets 9 r3_2 _ _ h3_6)) (.c (Asks.of (C := Meets Try.prog) (diwanref11_New.meets (w64 (1 + r3_1)) (w64 (1 + r2_1)) (w64 (3 + r3_4)) _ h3_8)) .n))) ?_
 obtain ⟨⟨r4_1, r4_2⟩, h4_3, h⟩ := bd_inv h
 obtain ⟨⟨r4_4, r4_5⟩, h4_6, h⟩ := bd_inv h
 refine kRs 121 [Ob 4 (TRaft.ob_000001000111 (TRaft.mk r3_7.Me r3_7.Nodes r3_7.Wait r3_7.Term r3_7.Vote r4_4 r3_7.Commit r3_7.Role r3_7.Leader r3_7.Votes r3_7.Next r3_7.Match r3_7.Clock)), Ob 1000 [.data (.slc false none 1 (List.map e_u8 r4_5.l)), iv r4_5.n]] [.a ⟨iv r4_1, [[.data (.slc false none 1 (List.map e_u8 r4_2.l)), iv r4_2.n]]⟩, .a ⟨.data (.slc true none 6 (List.map TEntry.en r4_4)), [[.data (.slc false none 1 (List.map e_u8 r4_5.l)), iv r4_5.n]]⟩] (.c (Asks.of (C := Meets Try.prog) (diwanplay_Picks_Num.meets 8 r3_5 _ _ h4_3)) (.c (Asks.of (C := Meets Try.prog) (diwanplay_Picks_Log.meets fu r4_1 r4_2 _ _ h4_6)) .n)) ?_
 obtain ⟨⟨r5_1, r5_2⟩, h5_3, h⟩ := bd_inv h
 refine kRs 124 [Ob 4 (TRaft.ob_000001000111 (TRaft.mk r3_7.Me r3_7.Nodes r3_7.Wait (w64 (1 + r5_1)) r3_7.Vote r4_4 r3_7.Commit r3_7.Role r3_7.Leader r3_7.Votes r3_7.Next r3_7.Match r3_7.Clock)), Ob 1000 [.data (.slc false none 1 (List.map e_u8 r5_2.l)), iv r5_2.n]] [.a ⟨iv r5_1, [[.data (.slc false none 1 (List.map e_u8 r5_2.l)), iv r5_2.n]]⟩] (.c (Asks.of (C := Meets Try.prog) (diwanplay_Picks_Num.meets 3 r4_5 _ _ h5_3)) .n) ?_
 obtain ⟨k9, hk9, h⟩ := jn_inv h
 have Jk9 : ∀ (j9_2 : TRaft) (j9_3 : TPicks), k9 j9_2 j9_3 = some (z0, z1) → WK Try.prog diwanplay_Picks_Raft.O (Ck Try.prog) (cR (cR (cR (cR (cR (cR bd14)))))) [] (ofL [Tm 0 (.ptr 1000 0), Tm 2 (.ptr 2 0), Tm 3 (iv (w64 (1 + r2_1))), Tm 4 (.ptr 4 0), Ob 2 (TRaft.ob_000001000111 (TRaft.mk 0 0 0 0 0 [] 0 0 0 [] [] [] 0)), Ob 4 (TRaft.ob_000001000111 j9_2), Ob 1000 [.data (.slc false none 1 (List.map e_u8 j9_3.l)), iv j9_3.n]]) (Fin Try.prog diwanplay_Picks_Raft.O Try.f14 1 ⟨.data (TRaft.ag_000001000111 z0), [[.data (.slc false none 1 (List.map e_u8 z1.l)), iv z1.n]]⟩) := by
  intro j9_2 j9_3 h
  rw [hk9] at h
  obtain ⟨⟨r10_1, r10_2⟩, h10_3, h⟩ := bd_inv h
  refine kRs 31 [Ob 4 (TRaft.ob_000001000111 (TRaft.mk j9_2.Me j9_2.Nodes j9_2.Wait j9_2.Term j9_2.Vote j9_2.Log r10_1 j9_2.Role j9_2.Leader j9_2.Votes j9_2.Next j9_2.Match j9_2.Clock)), Ob 1000 [.data (.slc false none 1 (List.map e_u8 r10_2.l)), iv r10_2.n]] [.s (.t 50) [iv (j9_2.Log.length : Int)], .a ⟨iv r10_1, [[.data (.slc false none 1 (List.map e_u8 r10_2.l)), iv r10_2.n]]⟩] (.c (c_len (e := TEntry.en) (l := j9_2.Log)) (.c (Asks.of (C := Meets Try.prog) (diwanplay_Picks_Num.meets (w64 ((j9_2.Log.length : Int) + 1)) j9_3 _ _ h10_3)) .n)) ?_
  obtain ⟨⟨r11_1, r11_2⟩, h11_3, h⟩ := bd_inv h
  obtain ⟨⟨r11_4, r11_5⟩, h11_6, h⟩ := bd_inv h
  obtain ⟨⟨r11_7, r11_8⟩, h11_9, h⟩ := bd_inv h
  obtain ⟨⟨r11_10, r11_11⟩, h11_12, h⟩ := bd_inv h
  refine kRs 124 [Ob 4 (TRaft.ob_000001000111 (TRaft.mk j9_2.Me j9_2.Nodes j9_2.Wait j9_2.Term r11_4 j9_2.Log r10_1 r11_1 r11_7 j9_2.Votes j9_2.Next j9_2.Match r11_10)), Ob 1000 [.data (.slc false none 1 (List.map e_u8 r11_11.l)), iv r11_11.n]] [.a ⟨iv r11_1, [[.data (.slc false none 1 (List.map e_u8 r11_2.l)), iv r11_2.n]]⟩, .a ⟨iv r11_4, [[.data (.slc false none 1 (List.map e_u8 r11_5.l)), iv r11_5.n]]⟩, .a ⟨iv r11_7, [[.data (.slc false none 1 (List.map e_u8 r11_8.l)), iv r11_8.n]]⟩, .a ⟨iv r11_10, [[.data (.slc false none 1 (List.map e_u8 r11_11.l)), iv r11_11.n]]⟩] (.c (Asks.of (C := Meets Try.prog) (diwanplay_Picks_Num.meets 3 r10_2 _ _ h11_3)) (.c (Asks.of (C := Meets Try.prog) (diwanplay_Picks_Num.meets (w64 ((w64 (1 + r2_1)) + 1)) r11_2 _ _ h11_6)) (.c (Asks.of (C := Meets Try.prog) (diwanplay_Picks_Num.meets (w64 ((w64 (1 + r2_1)) + 1)) r11_5 _ _ h11_9)) (.c (Asks.of (C := Meets Try.prog) (diwanplay_Picks_Num.meets j9_2.Wait r11_8 _ _ h11_12)) (.c rT .n))))) ?_
  refine kSq ?_
  refine kRs 127 [Tm 5 (iv 0)] [] .n ?_
  refine kBk 0 ?_
  obtain ⟨o24, ho24, h⟩ := bd_inv h
  refine kUs (diwanplay_Picks_Raft.lp13_ok fu (w64 (1 + r2_1)) (TRaft.mk 0 0 0 0 0 [] 0 0 0 [] [] [] 0) _ 0 (TRaft.mk j9_2.Me j9_2.Nodes j9_2.Wait j9_2.Term r11_4 j9_2.Log r10_1 r11_1 r11_7 j9_2.Votes j9_2.Next j9_2.Match r11_10) r11_11 _ ho24) ?_
  intro e_ τ_ hp_
  obtain ⟨y24_0, y24_1⟩ := o24
  obtain ⟨rfl, rfl⟩ := hp_
  refine kCd (cR (cR (cR (cR (cR (cR (cR (cR (cR bd14))))))))) [] ?_
  refine kSq ?_
  refine kRs 31 [Tm 120 (bv (y24_0.Role == 2))] [] .n ?_
  rcases br_inv h with ⟨b26_0, h⟩ | ⟨b26_0, h⟩
  ·refine kCt b26_0 ?_
   obtain ⟨x27_1, a27_2, e27_3, h⟩ := ix_inv h
   refine kRc 46 [Ob 4 (TRaft.ob_000001000111 (TRaft.mk y24_0.Me y24_0.Nodes y24_0.Wait y24_0.Term y24_0.Vote y24_0.Log y24_0.Commit y24_0.Role y24_0.Me y24_0.Votes y24_0.Next (y24_0.Match.set (w64 (y24_0.Me - 1)).toNat (y24_0.Log.length : Int)) y24_0.Clock))] [.s (.t 130) [iv (y24_0.Log.length : Int)], .c (e_i64 x27_1), .s (.o 4) (TRaft.ob_000001000111 (TRaft.mk y24_0.Me y24_0.Nodes y24_0.Wait y24_0.Term y24_0.Vote y24_0.Log y24_0.Commit y24_0.Role y24_0.Me y24_0.Votes y24_0.Next (y24_0.Match.set (w64 (y24_0.Me - 1)).toNat (y24_0.Log.length : Int)) y24_0.Clock))] (.c (c_len (e := TEntry.en) (l := y24_0.Log)) (.c (c_ix (e := e_i64) a27_2 e27_3) (.c (c_el (e := e_i64) e27_3) (.c (congrArg (fun d : DV => (TRaft.ob_000001000111 (TRaft.mk y24_0.Me y24_0.Nodes y24_0.Wait y24_0.Term y24_0.Vote y24_0.Log y24_0.Commit y24_0.Role y24_0.Me y24_0.Votes y24_0.Next (y24_0.Match.set (w64 (y24_0.Me - 1)).toNat (y24_0.Log.length : Int)) y24_0.Clock)).set 11 (AV.data d)) (c_set (e := e_i64) (s := 1) (nl := none) (l := y24_0.Match) (i := (w64 (y24_0.Me - 1)).toNat) (x := (y24_0.Log.length : Int)))) .n)))) (cR (cR (cR (cR (cR (cR (cR (cR (cR (cR bd14)))))))))) [] ?_
   refine kRs 18 [Ob 2 (TRaft.ob_000001000111 (TRaft.mk y24_0.Me y24_0.Nodes y24_0.Wait y24_0.Term y24_0.Vote y24_0.Log y24_0.Commit y24_0.Role y24_0.Me y24_0.Votes y24_0.Next (y24_0.Match.set (w64 (y24_0.Me - 1)).toNat (y24_0.Log.length : Int)) y24_0.Clock))] [] .n ?_
   refine WK.weak (l := [Tm 2 (.ptr 2 0), Ob 2 (TRaft.ob_000001000111 (TRaft.mk y24_0.Me y24_0.Nodes y24_0.Wait y24_0.Term y24_0.Vote y24_0.Log y24_0.Commit y24_0.Role y24_0.Me y24_0.Votes y24_0.Next (y24_0.Match.set (w64 (y24_0.Me - 1)).toNat (y24_0.Log.length : Int)) y24_0.Clock)), Ob 1000 [.data (.slc false none 1 (List.map e_u8 y24_1.l)), iv y24_1.n]]) (wk_of (by kernel_rfl)) ?_
   refine kRt ?_
   have h_0 := some_inj h
   obtain ⟨g_1, h_1⟩ := Prod.mk.inj h_0
   subst g_1
   subst h_1
   exact kFr
  ·refine kCe b26_0 ?_
   refine kSk ?_
   refine kCd (cR (cR (cR (cR (cR (cR (cR (cR (cR (cR bd14)))))))))) [] ?_
   refine kRs 34 [Ob 2 (TRaft.ob_000001000111 y24_0)] [] .n ?_
   refine WK.weak (l := [Tm 2 (.ptr 2 0), Ob 2 (TRaft.ob_000001000111 y24_0), Ob 1000 [.data (.slc false none 1 (List.map e_u8 y24_1.l)), iv y24_1.n]]) (wk_of (by kernel_rfl)) ?_
   refine kRt ?_
   have h_0 := some_inj h
   obtain ⟨g_1, h_1⟩ := Prod.mk.inj h_0
   subst g_1
   subst h_1
   exact kFr
 clear hk9
 refine kSq ?_
 refine kRs 127 [Tm 30 (bv (decide ((r4_4.length : Int) > 0)))] [.s (.t 29) [iv (r4_4.length : Int)]] (.c (c_len (e := TEntry.en) (l := r4_4)) .n) ?_
 rcases br_inv h with ⟨b7_0, h⟩ | ⟨b7_0, h⟩
 ·refine kCt b7_0 ?_
  obtain ⟨x8_1, a8_2, e8_3, h⟩ := ix_inv h
  obtain ⟨⟨r8_4, r8_5⟩, h8_6, h⟩ := bd_inv h
  refine kRc 248 [Ob 4 (TRaft.ob_000001000111 (TRaft.mk r3_7.Me r3_7.Nodes r3_7.Wait (if (w64 (1 + r5_1)) < (w64 (x8_1.Term + r8_4)) then (w64 (x8_1.Term + r8_4)) else (w64 (1 + r5_1))) r3_7.Vote r4_4 r3_7.Commit r3_7.Role r3_7.Leader r3_7.Votes r3_7.Next r3_7.Match r3_7.Clock)), Ob 1000 [.data (.slc false none 1 (List.map e_u8 r8_5.l)), iv r8_5.n]] [.s (.t 37) [iv (r4_4.length : Int)], .c (TEntry.en x8_1), .a ⟨iv r8_4, [[.data (.slc false none 1 (List.map e_u8 r8_5.l)), iv r8_5.n]]⟩] (.c (c_len (e := TEntry.en) (l := r4_4)) (.c (c_ix (e := TEntry.en) a8_2 e8_3) (.c (c_el (e := TEntry.en) e8_3) (.c (Asks.of (C := Meets Try.prog) (diwanplay_Picks_Num.meets 2 r5_2 _ _ h8_6)) (.c rT .n))))) (cR (cR (cR (cR (cR (cR bd14)))))) [] ?_
  exact kWk (Jk9 (TRaft.mk r3_7.Me r3_7.Nodes r3_7.Wait (if (w64 (1 + r5_1)) < (w64 (x8_1.Term + r8_4)) then (w64 (x8_1.Term + r8_4)) else (w64 (1 + r5_1))) r3_7.Vote r4_4 r3_7.Commit r3_7.Role r3_7.Leader r3_7.Votes r3_7.Next r3_7.Match r3_7.Clock) r8_5 h)
 ·refine kCe b7_0 ?_
  refine kSk ?_
  refine kCd (cR (cR (cR (cR (cR (cR bd14)))))) [] ?_
  exact kWk (Jk9 (TRaft.mk r3_7.Me r3_7.Nodes r3_7.Wait (w64 (1 + r5_1)) r3_7.Vote r4_4 r3_7.Commit r3_7.Role r3_7.Leader r3_7.Votes r3_7.Next r3_7.Match r3_7.Clock) r5_2 h)
/-- diwan/diwanref11.Copy -/
noncomputable def bd15 : Code := (Try.f15.body).getD .skip
def diwanref11_Copy.O : Nat → Nat := fun t => bif ([1, 2, 3, 6, 8, 11, 13, 16, 18, 21, 23] : List Nat).any (Nat.beq t) then 1 else 0
noncomputable def diwanref11_Copy (r_v : TRaft) : Option Unit :=
 gd (decide (([] : List TEntry).length + r_v.Log.length ≤ 4294967296)) <|
 gd (decide (([] : List Bool).length + r_v.Votes.length ≤ 4294967296)) <|
 gd (decide (([] : List Int).length + r_v.Next.length ≤ 4294967296)) <|
 gd (decide (([] : List Int).length + r_v.Match.length ≤ 4294967296)) <|
 some ()
theorem diwanref11_Copy.meets (r_v : TRaft) (h : diwanref11_Copy r_v = some ()) : Meets Try.prog ⟨15, [.data (TRaft.ag r_v)], []⟩ ⟨.data (TRaft.ag_000001000111 r_v), []⟩ := by
 refine meets_of (O := diwanref11_Copy.O) hmix (fn := Try.f15) (code := bd15) (by kernel_rfl) ?_
 refine WK.weak (l := [Tm 0 (.data (TRaft.ag r_v))]) (wk_of (by kernel_rfl)) ?_
 unfold diwanref11_Copy at h
 refine kRs 0 [Tm 1 (.ptr 1 0), Tm 2 (.ptr 2 0), Ob 1 (TRaft.ob r_v), Ob 2 (TRaft.ob_000001000111 (TRaft.mk 0 0 0 0 0 [] 0 0 0 [] [] [] 0))] [] .n ?_
 obtain ⟨c2_1, h⟩ := gd_inv h
 refine kRs 11 [Ob 1 (TRaft.ob_000001 r_v)] [] (.c (c_al (e := TEntry.en) (f := TEntry.en) c2_1) .n) ?_
 obtain ⟨c3_1, h⟩ := gd_inv h
 refine kRs 14 [Ob 1 (TRaft.ob_0000010001 r_v)] [] (.c (c_al (e := e_b) (f := e_b) c3_1) .n) ?_
 obtain ⟨c4_1, h⟩ := gd_inv h
 refine kRs 14 [Ob 1 (TRaft.ob_00000100011 r_v)] [] (.c (c_al (e := e_i64) (f := e_i64) c4_1) .n) ?_
 obtain ⟨c5_1, h⟩ := gd_inv h
 refine kRs 14 [Ob 1 (TRaft.ob_000001000111 r_v)] [] (.c (c_al (e := e_i64) (f := e_i64) c5_1) .n) ?_
 refine kRs 4 [Ob 2 (TRaft.ob_000001000111 r_v)] [] .n ?_
 refine WK.weak (l := [Tm 2 (.ptr 2 0), Ob 2 (TRaft.ob_000001000111 r_v)]) (wk_of (by kernel_rfl)) ?_
 refine kRt ?_
 cases some_inj h
 exact kFr
/-- diwan/diwanref11.May -/
noncomputable def bd17 : Code := (Try.f17.body).getD .skip
def diwanref11_May.O : Nat → Nat := fun t => bif ([1, 2, 3] : List Nat).any (Nat.beq t) then 1 else 0
noncomputable def diwanref11_May.lp25 (fu : Nat) (l25_1 : TRaft) : Nat → Int → Option (Unit ⊕ Unit)
  | 0, _ => none
  | n_ + 1, l25_0 =>
  br (decide (l25_0 < (l25_1.Log.length : Int)))
   (ix l25_1.Log l25_0 fun x28_1 =>
   br (decide (x28_1.Term < 1))
    (some (.inr ()))
    (ix l25_1.Log l25_0 fun x28_5 =>
    br (decide (x28_5.Term > l25_1.Term))
     (some (.inr ()))
     (br (decide (l25_0 > 0))
      (ix l25_1.Log l25_0 fun x28_10 =>
      ix l25_1.Log (w64 (l25_0 - 1)) fun x28_13 =>
      br (decide (x28_10.Term < x28_13.Term))
       (some (.inr ()))
       (diwanref11_May.lp25 fu l25_1 n_ (w64 (l25_0 + 1))))
      (diwanref11_May.lp25 fu l25_1 n_ (w64 (l25_0 + 1))))))
   (some (.inl ()))
noncomputable def diwanref11_May.lp25_post (l25_1 : TRaft) (r_ : (Unit ⊕ Unit)) : Wy → St → Prop := fun e τ => match r_ with
  | .inl _ => e = .exit 0 ∧ τ = ofL []
  | .inr _ => e = .ret ∧ τ = ofL [Tm 2 (bv false)]
theorem diwanref11_May.lp25_ok (fu : Nat) (l25_1 : TRaft) : ∀ (n_ : Nat) (l25_0 : Int) (r_ : (Unit ⊕ Unit)), diwanref11_May.lp25 fu l25_1 n_ l25_0 = some r_ → WK Try.prog diwanref11_May.O (Ck Try.prog) (cB (cR (cL (cR (cR bd17))))) [] (ofL [Tm 1 (.ptr 1 0), Tm 3 (iv l25_0), Ob 1 (TRaft.ob l25_1)]) (diwanref11_May.lp25_post l25_1 r_) := by
 intro n_
 induction n_ with
 | zero => intro l25_0 r_ h; exact no_none h
 | succ n_ ih =>
  intro l25_0 r_ h
  refine kLp ?_
  refine kSq ?_
  refine kRs 7 [Tm 125 (bv (decide (l25_0 < (l25_1.Log.length : Int))))] [.s (.t 124) [iv (l25_1.Log.length : Int)]] (.c (c_len (e := TEntry.en) (l := l25_1.Log)) .n) ?_
  rcases br_inv h with ⟨b27_0, h⟩ | ⟨b27_0, h⟩
  ·refine kCt b27_0 ?_
   refine kSk ?_
   refine kCd (cR (cB (cB (cR (cL (cR (cR bd17))))))) [.lp (cB (cR (cL (cR (cR bd17)))))] ?_
   refine kSq ?_
   refine kBk 1 ?_
   obtain ⟨x28_1, a28_2, e28_3, h⟩ := ix_inv h
   rcases br_inv h with ⟨b28_4, h⟩ | ⟨b28_4, h⟩
   ·refine kRs 14 [Tm 165 (bv true)] (.c (TEntry.en x28_1) :: (rp 15 (.b true) [])) (.c (c_ix (e := TEntry.en) a28_2 e28_3) (.c (c_el (e := TEntry.en) e28_3) (.r 10 b28_4 (.r 6 rT .n)))) ?_
    refine kCt rT ?_
    refine kRs 0 [Tm 2 (bv false)] [] .n ?_
    cases some_inj h
    refine kWo ?_
    refine kRt ?_
    exact kOut
   ·obtain ⟨x28_5, a28_6, e28_7, h⟩ := ix_inv h
    rcases br_inv h with ⟨b28_8, h⟩ | ⟨b28_8, h⟩
    ·refine kRs 14 [Tm 165 (bv true)] (.c (TEntry.en x28_1) :: (rp 4 (.b false) (.c (TEntry.en x28_5) :: (rp 6 (.b false) (rp 5 (.b true) []))))) (.c (c_ix (e := TEntry.en) a28_2 e28_3) (.c (c_el (e := TEntry.en) e28_3) (.r 4 b28_4 (.c (c_ix (e := TEntry.en) a28_6 e28_7) (.c (c_el (e := TEntry.en) e28_7) (.r 6 b28_4 (.r 5 b28_8 (.c rT .n)))))))) ?_
     refine kCt rT ?_
     refine kRs 0 [Tm 2 (bv false)] [] .n ?_
     cases some_inj h
     refine kWo ?_
     refine kRt ?_
     exact kOut
    ·rcases br_inv h with ⟨b28_9, h⟩ | ⟨b28_9, h⟩
     ·obtain ⟨x28_10, a28_11, e28_12, h⟩ := ix_inv h
      obtain ⟨x28_13, a28_14, e28_15, h⟩ := ix_inv h
      refine kRs 14 [Tm 165 (bv (decide (x28_10.Term < x28_13.Term)))] (.c (TEntry.en x28_1) :: (rp 4 (.b false) (.c (TEntry.en x28_5) :: (rp 9 (.b false) (rp 4 (.b true) (.c (TEntry.en x28_10) :: (rp 7 (.b true) [.c (TEntry.en x28_13), .b true, .b true, .b true, .b false, .b true, .b false]))))))) (.c (c_ix (e := TEntry.en) a28_2 e28_3) (.c (c_el (e := TEntry.en) e28_3) (.r 4 b28_4 (.c (c_ix (e := TEntry.en) a28_6 e28_7) (.c (c_el (e := TEntry.en) e28_7) (.r 6 b28_4 (.r 3 b28_8 (.r 4 b28_9 (.c (c_ix (e := TEntry.en) a28_11 e28_12) (.c (c_el (e := TEntry.en) e28_12) (.r 7 b28_9 (.c (c_ix (e := TEntry.en) a28_14 e28_15) (.c (c_el (e := TEntry.en) e28_15) (.r 3 b28_9 (.c b28_8 (.c b28_9 (.c b28_8 (.c rT .n)))))))))))))))))) ?_
      rcases br_inv h with ⟨b31_0, h⟩ | ⟨b31_0, h⟩
      ·refine kCt b31_0 ?_
       refine kRs 0 [Tm 2 (bv false)] [] .n ?_
       cases some_inj h
       refine kWo ?_
       refine kRt ?_
       exact kOut
      ·refine kCe b31_0 ?_
       refine kSk ?_
       refine kCd (cR (cR (cB (cB (cR (cL (cR (cR bd17)))))))) [.lp (cB (cR (cL (cR (cR bd17)))))] ?_
       refine kRc 10 [Tm 3 (iv (w64 (l25_0 + 1)))] [] .n (cB (cR (cL (cR (cR bd17))))) [] ?_
       exact kWk (ih (w64 (l25_0 + 1)) _ h)
     ·refine kRs 14 [Tm 165 (bv false)] (.c (TEntry.en x28_1) :: (rp 4 (.b false) (.c (TEntry.en x28_5) :: (rp 26 (.b false) [])))) (.c (c_ix (e := TEntry.en) a28_2 e28_3) (.c (c_el (e := TEntry.en) e28_3) (.r 4 b28_4 (.c (c_ix (e := TEntry.en) a28_6 e28_7) (.c (c_el (e := TEntry.en) e28_7) (.r 6 b28_4 (.r 3 b28_8 (.r 14 b28_9 (.c b28_8 (.c b28_9 (.c b28_8 (.c rT .n)))))))))))) ?_
      refine kCe rF ?_
      refine kSk ?_
      refine kCd (cR (cR (cB (cB (cR (cL (cR (cR bd17)))))))) [.lp (cB (cR (cL (cR (cR bd17)))))] ?_
      refine kRc 10 [Tm 3 (iv (w64 (l25_0 + 1)))] [] .n (cB (cR (cL (cR (cR bd17))))) [] ?_
      exact kWk (ih (w64 (l25_0 + 1)) _ h)
  ·refine kCe b27_0 ?_
   cases some_inj h
   refine kWo ?_
   refine kXt 0 ?_
   exact kOut
noncomputable def diwanref11_May (fu : Nat) (r_v : TRaft) : Option Bool :=
 br (decide (r_v.Nodes < 1))
  (some false)
  (br (decide (r_v.Nodes > 5))
   (some false)
   (br (decide (r_v.Me < 1))
    (some false)
    (br (decide (r_v.Me > r_v.Nodes))
     (some false)
     (br (decide (r_v.Wait < 1))
      (some false)
      (br (decide (r_v.Wait > 60))
       (some false)
       (br (decide (r_v.Term < 0))
        (some false)
        (br (decide (r_v.Vote < 0))
         (some false)
         (br (decide (r_v.Vote > r_v.Nodes))
          (some false)
          (br (decide (r_v.Leader < 0))
           (some false)
           (br (decide (r_v.Leader > r_v.Nodes))
            (some false)
            (br (decide ((r_v.Log.length : Int) > 200))
             (some false)
             (br (decide (r_v.Commit < 0))
              (some false)
              (br (decide (r_v.Commit > (r_v.Log.length : Int)))
               (some false)
               (br (decide (r_v.Role < 0))
                (some false)
                (br (decide (r_v.Role > 2))
                 (some false)
                 (br ((r_v.Votes.length : Int) != r_v.Nodes)
                  (some false)
                  (br ((r_v.Next.length : Int) != r_v.Nodes)
                   (some false)
                   (br ((r_v.Match.length : Int) != r_v.Nodes)
                    (some false)
                    (br (decide (r_v.Clock < 0))
                     (some false)
                     (bd (diwanref11_May.lp25 fu r_v fu 0) fun o_ => (match o_ with
                     | .inl _ =>
                      some true
                     | .inr _ =>
                      some false)))))))))))))))))))))
theorem diwanref11_May.meets (fu : Nat) (r_v : TRaft) (z0 : Bool) (h : diwanref11_May fu r_v = some z0) : Meets Try.prog ⟨17, [.data (TRaft.ag r_v)], []⟩ ⟨bv z0, []⟩ := by
 refine meets_of (O := diwanref11_May.O) hmix (fn := Try.f17) (code := bd17) (by kernel_rfl) ?_
 refine WK.weak (l := [Tm 0 (.data (TRaft.ag r_v))]) (wk_of (by kernel_rfl)) ?_
 unfold diwanref11_May at h
 refine kRs 0 [Tm 1 (.ptr 1 0), Ob 1 (TRaft.ob r_v)] [] .n ?_
 refine kSq ?_
 rcases br_inv h with ⟨b2_1, h⟩ | ⟨b2_1, h⟩
 ·refine kRs 3 [Tm 120 (bv true)] (rp 95 (.b true) []) (.r 4 b2_1 (.r 91 rT .n)) ?_
  refine kCt rT ?_
  refine kRs 0 [Tm 2 (bv false)] [] .n ?_
  refine WK.weak (l := [Tm 2 (bv false)]) (wk_of (by kernel_rfl)) ?_
  refine kRt ?_
  have h_ := some_inj h
  subst h_
  exact kFr
 ·rcases br_inv h with ⟨b2_2, h⟩ | ⟨b2_2, h⟩
  ·refine kRs 3 [Tm 120 (bv true)] (rp 4 (.b false) (rp 91 (.b true) [])) (.r 4 b2_1 (.r 4 b2_2 (.r 87 rT .n))) ?_
   refine kCt rT ?_
   refine kRs 0 [Tm 2 (bv false)] [] .n ?_
   refine WK.weak (l := [Tm 2 (bv false)]) (wk_of (by kernel_rfl)) ?_
   refine kRt ?_
   have h_ := some_inj h
   subst h_
   exact kFr
  ·rcases br_inv h with ⟨b2_3, h⟩ | ⟨b2_3, h⟩
   ·refine kRs 3 [Tm 120 (bv true)] (rp 8 (.b false) (rp 87 (.b true) [])) (.r 4 b2_1 (.r 4 b2_2 (.r 6 b2_3 (.r 81 rT .n)))) ?_
    refine kCt rT ?_
    refine kRs 0 [Tm 2 (bv false)] [] .n ?_
    refine WK.weak (l := [Tm 2 (bv false)]) (wk_of (by kernel_rfl)) ?_
    refine kRt ?_
    have h_ := some_inj h
    subst h_
    exact kFr
   ·rcases br_inv h with ⟨b2_4, h⟩ | ⟨b2_4, h⟩
    ·refine kRs 3 [Tm 120 (bv true)] (rp 14 (.b false) (rp 81 (.b true) [])) (.r 4 b2_1 (.r 4 b2_2 (.r 6 b2_3 (.r 4 b2_4 (.r 77 rT .n))))) ?_
     refine kCt rT ?_
     refine kRs 0 [Tm 2 (bv false)] [] .n ?_
     refine WK.weak (l := [Tm 2 (bv false)]) (wk_of (by kernel_rfl)) ?_
     refine kRt ?_
     have h_ := some_inj h
     subst h_
     exact kFr
    ·rcases br_inv h with ⟨b2_5, h⟩ | ⟨b2_5, h⟩
     ·refine kRs 3 [Tm 120 (bv true)] (rp 18 (.b false) (rp 77 (.b true) [])) (.r 4 b2_1 (.r 4 b2_2 (.r 6 b2_3 (.r 4 b2_4 (.r 4 b2_5 (.r 73 rT .n)))))) ?_
      refine kCt rT ?_
      refine kRs 0 [Tm 2 (bv false)] [] .n ?_
      refine WK.weak (l := [Tm 2 (bv false)]) (wk_of (by kernel_rfl)) ?_
      refine kRt ?_
      have h_ := some_inj h
      subst h_
      exact kFr
     ·rcases br_inv h with ⟨b2_6, h⟩ | ⟨b2_6, h⟩
      ·refine kRs 3 [Tm 120 (bv true)] (rp 22 (.b false) (rp 73 (.b true) [])) (.r 4 b2_1 (.r 4 b2_2 (.r 6 b2_3 (.r 4 b2_4 (.r 4 b2_5 (.r 4 b2_6 (.r 69 rT .n))))))) ?_
       refine kCt rT ?_
       refine kRs 0 [Tm 2 (bv false)] [] .n ?_
       refine WK.weak (l := [Tm 2 (bv false)]) (wk_of (by kernel_rfl)) ?_
       refine kRt ?_
       have h_ := some_inj h
       subst h_
       exact kFr
      ·rcases br_inv h with ⟨b2_7, h⟩ | ⟨b2_7, h⟩
       ·refine kRs 3 [Tm 120 (bv true)] (rp 26 (.b false) (rp 69 (.b true) [])) (.r 4 b2_1 (.r 4 b2_2 (.r 6 b2_3 (.r 4 b2_4 (.r 4 b2_5 (.r 4 b2_6 (.r 4 b2_7 (.r 65 rT .n)))))))) ?_
        refine kCt rT ?_
        refine kRs 0 [Tm 2 (bv false)] [] .n ?_
        refine WK.weak (l := [Tm 2 (bv false)]) (wk_of (by kernel_rfl)) ?_
        refine kRt ?_
        have h_ := some_inj h
        subst h_
        exact kFr
       ·rcases br_inv h with ⟨b2_8, h⟩ | ⟨b2_8, h⟩
        ·refine kRs 3 [Tm 120 (bv true)] (rp 30 (.b false) (rp 65 (.b true) [])) (.r 4 b2_1 (.r 4 b2_2 (.r 6 b2_3 (.r 4 b2_4 (.r 4 b2_5 (.r 4 b2_6 (.r 4 b2_7 (.r 6 b2_8 (.r 59 rT .n))))))))) ?_
         refine kCt rT ?_
         refine kRs 0 [Tm 2 (bv false)] [] .n ?_
         refine WK.weak (l := [Tm 2 (bv false)]) (wk_of (by kernel_rfl)) ?_
         refine kRt ?_
         have h_ := some_inj h
         subst h_
         exact kFr
        ·rcases br_inv h with ⟨b2_9, h⟩ | ⟨b2_9, h⟩
         ·refine kRs 3 [Tm 120 (bv true)] (rp 36 (.b false) (rp 59 (.b true) [])) (.r 4 b2_1 (.r 4 b2_2 (.r 6 b2_3 (.r 4 b2_4 (.r 4 b2_5 (.r 4 b2_6 (.r 4 b2_7 (.r 6 b2_8 (.r 4 b2_9 (.r 55 rT .n)))))))))) ?_
          refine kCt rT ?_
          refine kRs 0 [Tm 2 (bv false)] [] .n ?_
          refine WK.weak (l := [Tm 2 (bv false)]) (wk_of (by kernel_rfl)) ?_
          refine kRt ?_
          have h_ := some_inj h
          subst h_
          exact kFr
         ·rcases br_inv h with ⟨b2_10, h⟩ | ⟨b2_10, h⟩
          ·refine kRs 3 [Tm 120 (bv true)] (rp 40 (.b false) (rp 55 (.b true) [])) (.r 4 b2_1 (.r 4 b2_2 (.r 6 b2_3 (.r 4 b2_4 (.r 4 b2_5 (.r 4 b2_6 (.r 4 b2_7 (.r 6 b2_8 (.r 4 b2_9 (.r 6 b2_10 (.r 49 rT .n))))))))))) ?_
           refine kCt rT ?_
           refine kRs 0 [Tm 2 (bv false)] [] .n ?_
           refine WK.weak (l := [Tm 2 (bv false)]) (wk_of (by kernel_rfl)) ?_
           refine kRt ?_
           have h_ := some_inj h
           subst h_
           exact kFr
          ·rcases br_inv h with ⟨b2_11, h⟩ | ⟨b2_11, h⟩
           ·refine kRs 3 [Tm 120 (bv true)] (rp 46 (.b false) (rp 49 (.b true) [])) (.r 4 b2_1 (.r 4 b2_2 (.r 6 b2_3 (.r 4 b2_4 (.r 4 b2_5 (.r 4 b2_6 (.r 4 b2_7 (.r 6 b2_8 (.r 4 b2_9 (.r 6 b2_10 (.r 5 b2_11 (.r 44 rT .n)))))))))))) ?_
            refine kCt rT ?_
            refine kRs 0 [Tm 2 (bv false)] [] .n ?_
            refine WK.weak (l := [Tm 2 (bv false)]) (wk_of (by kernel_rfl)) ?_
            refine kRt ?_
            have h_ := some_inj h
            subst h_
            exact kFr
           ·rcases br_inv h with ⟨b2_12, h⟩ | ⟨b2_12, h⟩
            ·refine kRs 3 [Tm 120 (bv true)] (rp 49 (.b false) (.s (.t 66) [iv (r_v.Log.length : Int)] :: (.b false :: (.b false :: (rp 44 (.b true) []))))) (.r 4 b2_1 (.r 4 b2_2 (.r 6 b2_3 (.r 4 b2_4 (.r 4 b2_5 (.r 4 b2_6 (.r 4 b2_7 (.r 6 b2_8 (.r 4 b2_9 (.r 6 b2_10 (.r 3 b2_11 (.c (c_len (e := TEntry.en) (l := r_v.Log)) (.r 2 b2_11 (.r 4 b2_12 (.r 40 rT .n))))))))))))))) ?_
             refine kCt rT ?_
             refine kRs 0 [Tm 2 (bv false)] [] .n ?_
             refine WK.weak (l := [Tm 2 (bv false)]) (wk_of (by kernel_rfl)) ?_
             refine kRt ?_
             have h_ := some_inj h
             subst h_
             exact kFr
            ·rcases br_inv h with ⟨b2_13, h⟩ | ⟨b2_13, h⟩
             ·refine kRs 3 [Tm 120 (bv true)] (rp 49 (.b false) (.s (.t 66) [iv (r_v.Log.length : Int)] :: (rp 6 (.b false) (rp 40 (.b true) [])))) (.r 4 b2_1 (.r 4 b2_2 (.r 6 b2_3 (.r 4 b2_4 (.r 4 b2_5 (.r 4 b2_6 (.r 4 b2_7 (.r 6 b2_8 (.r 4 b2_9 (.r 6 b2_10 (.r 3 b2_11 (.c (c_len (e := TEntry.en) (l := r_v.Log)) (.r 2 b2_11 (.r 4 b2_12 (.r 7 b2_13 (.r 33 rT .n)))))))))))))))) ?_
              refine kCt rT ?_
              refine kRs 0 [Tm 2 (bv false)] [] .n ?_
              refine WK.weak (l := [Tm 2 (bv false)]) (wk_of (by kernel_rfl)) ?_
              refine kRt ?_
              have h_ := some_inj h
              subst h_
              exact kFr
             ·rcases br_inv h with ⟨b2_14, h⟩ | ⟨b2_14, h⟩
              ·refine kRs 3 [Tm 120 (bv true)] (rp 49 (.b false) (.s (.t 66) [iv (r_v.Log.length : Int)] :: (rp 11 (.b false) (.s (.t 79) [iv (r_v.Log.length : Int)] :: (.b false :: (.b false :: (rp 33 (.b true) []))))))) (.r 4 b2_1 (.r 4 b2_2 (.r 6 b2_3 (.r 4 b2_4 (.r 4 b2_5 (.r 4 b2_6 (.r 4 b2_7 (.r 6 b2_8 (.r 4 b2_9 (.r 6 b2_10 (.r 3 b2_11 (.c (c_len (e := TEntry.en) (l := r_v.Log)) (.r 2 b2_11 (.r 4 b2_12 (.r 5 b2_13 (.c (c_len (e := TEntry.en) (l := r_v.Log)) (.r 2 b2_13 (.r 4 b2_14 (.r 29 rT .n))))))))))))))))))) ?_
               refine kCt rT ?_
               refine kRs 0 [Tm 2 (bv false)] [] .n ?_
               refine WK.weak (l := [Tm 2 (bv false)]) (wk_of (by kernel_rfl)) ?_
               refine kRt ?_
               have h_ := some_inj h
               subst h_
               exact kFr
              ·rcases br_inv h with ⟨b2_15, h⟩ | ⟨b2_15, h⟩
               ·refine kRs 3 [Tm 120 (bv true)] (rp 49 (.b false) (.s (.t 66) [iv (r_v.Log.length : Int)] :: (rp 11 (.b false) (.s (.t 79) [iv (r_v.Log.length : Int)] :: (rp 6 (.b false) (rp 29 (.b true) [])))))) (.r 4 b2_1 (.r 4 b2_2 (.r 6 b2_3 (.r 4 b2_4 (.r 4 b2_5 (.r 4 b2_6 (.r 4 b2_7 (.r 6 b2_8 (.r 4 b2_9 (.r 6 b2_10 (.r 3 b2_11 (.c (c_len (e := TEntry.en) (l := r_v.Log)) (.r 2 b2_11 (.r 4 b2_12 (.r 5 b2_13 (.c (c_len (e := TEntry.en) (l := r_v.Log)) (.r 2 b2_13 (.r 4 b2_14 (.r 4 b2_15 (.r 25 rT .n)))))))))))))))))))) ?_
                refine kCt rT ?_
                refine kRs 0 [Tm 2 (bv false)] [] .n ?_
                refine WK.weak (l := [Tm 2 (bv false)]) (wk_of (by kernel_rfl)) ?_
                refine kRt ?_
                have h_ := some_inj h
                subst h_
                exact kFr
               ·rcases br_inv h with ⟨b2_16, h⟩ | ⟨b2_16, h⟩
                ·refine kRs 3 [Tm 120 (bv true)] (rp 49 (.b false) (.s (.t 66) [iv (r_v.Log.length : Int)] :: (rp 11 (.b false) (.s (.t 79) [iv (r_v.Log.length : Int)] :: (rp 10 (.b false) (rp 25 (.b true) [])))))) (.r 4 b2_1 (.r 4 b2_2 (.r 6 b2_3 (.r 4 b2_4 (.r 4 b2_5 (.r 4 b2_6 (.r 4 b2_7 (.r 6 b2_8 (.r 4 b2_9 (.r 6 b2_10 (.r 3 b2_11 (.c (c_len (e := TEntry.en) (l := r_v.Log)) (.r 2 b2_11 (.r 4 b2_12 (.r 5 b2_13 (.c (c_len (e := TEntry.en) (l := r_v.Log)) (.r 2 b2_13 (.r 4 b2_14 (.r 4 b2_15 (.r 7 b2_16 (.r 18 rT .n))))))))))))))))))))) ?_
                 refine kCt rT ?_
                 refine kRs 0 [Tm 2 (bv false)] [] .n ?_
                 refine WK.weak (l := [Tm 2 (bv false)]) (wk_of (by kernel_rfl)) ?_
                 refine kRt ?_
                 have h_ := some_inj h
                 subst h_
                 exact kFr
                ·rcases br_inv h with ⟨b2_17, h⟩ | ⟨b2_17, h⟩
                 ·refine kRs 3 [Tm 120 (bv true)] (rp 49 (.b false) (.s (.t 66) [iv (r_v.Log.length : Int)] :: (rp 11 (.b false) (.s (.t 79) [iv (r_v.Log.length : Int)] :: (rp 13 (.b false) (.s (.t 95) [iv (r_v.Votes.length : Int)] :: (rp 4 (.b false) (rp 18 (.b true) [])))))))) (.r 4 b2_1 (.r 4 b2_2 (.r 6 b2_3 (.r 4 b2_4 (.r 4 b2_5 (.r 4 b2_6 (.r 4 b2_7 (.r 6 b2_8 (.r 4 b2_9 (.r 6 b2_10 (.r 3 b2_11 (.c (c_len (e := TEntry.en) (l := r_v.Log)) (.r 2 b2_11 (.r 4 b2_12 (.r 5 b2_13 (.c (c_len (e := TEntry.en) (l := r_v.Log)) (.r 2 b2_13 (.r 4 b2_14 (.r 4 b2_15 (.r 3 b2_16 (.c (c_len (e := e_b) (l := r_v.Votes)) (.r 4 b2_16 (.r 7 b2_17 (.r 11 rT .n)))))))))))))))))))))))) ?_
                  refine kCt rT ?_
                  refine kRs 0 [Tm 2 (bv false)] [] .n ?_
                  refine WK.weak (l := [Tm 2 (bv false)]) (wk_of (by kernel_rfl)) ?_
                  refine kRt ?_
                  have h_ := some_inj h
                  subst h_
                  exact kFr
                 ·rcases br_inv h with ⟨b2_18, h⟩ | ⟨b2_18, h⟩
                  ·refine kRs 3 [Tm 120 (bv true)] (rp 49 (.b false) (.s (.t 66) [iv (r_v.Log.length : Int)] :: (rp 11 (.b false) (.s (.t 79) [iv (r_v.Log.length : Int)] :: (rp 13 (.b false) (.s (.t 95) [iv (r_v.Votes.length : Int)] :: (rp 7 (.b false) (.s (.t 103) [iv (r_v.Next.length : Int)] :: (rp 4 (.b false) (rp 11 (.b true) [])))))))))) (.r 4 b2_1 (.r 4 b2_2 (.r 6 b2_3 (.r 4 b2_4 (.r 4 b2_5 (.r 4 b2_6 (.r 4 b2_7 (.r 6 b2_8 (.r 4 b2_9 (.r 6 b2_10 (.r 3 b2_11 (.c (c_len (e := TEntry.en) (l := r_v.Log)) (.r 2 b2_11 (.r 4 b2_12 (.r 5 b2_13 (.c (c_len (e := TEntry.en) (l := r_v.Log)) (.r 2 b2_13 (.r 4 b2_14 (.r 4 b2_15 (.r 3 b2_16 (.c (c_len (e := e_b) (l := r_v.Votes)) (.r 4 b2_16 (.r 3 b2_17 (.c (c_len (e := e_i64) (l := r_v.Next)) (.r 4 b2_17 (.r 7 b2_18 (.r 4 rT .n))))))))))))))))))))))))))) ?_
                   refine kCt rT ?_
                   refine kRs 0 [Tm 2 (bv false)] [] .n ?_
                   refine WK.weak (l := [Tm 2 (bv false)]) (wk_of (by kernel_rfl)) ?_
                   refine kRt ?_
                   have h_ := some_inj h
                   subst h_
                   exact kFr
                  ·rcases br_inv h with ⟨b2_19, h⟩ | ⟨b2_19, h⟩
                   ·refine kRs 3 [Tm 120 (bv true)] (rp 49 (.b false) (.s (.t 66) [iv (r_v.Log.length : Int)] :: (rp 11 (.b false) (.s (.t 79) [iv (r_v.Log.length : Int)] :: (rp 13 (.b false) (.s (.t 95) [iv (r_v.Votes.length : Int)] :: (rp 7 (.b false) (.s (.t 103) [iv (r_v.Next.length : Int)] :: (rp 7 (.b false) (.s (.t 111) [iv (r_v.Match.length : Int)] :: (rp 4 (.b false) (rp 4 (.b true) [])))))))))))) (.r 4 b2_1 (.r 4 b2_2 (.r 6 b2_3 (.r 4 b2_4 (.r 4 b2_5 (.r 4 b2_6 (.r 4 b2_7 (.r 6 b2_8 (.r 4 b2_9 (.r 6 b2_10 (.r 3 b2_11 (.c (c_len (e := TEntry.en) (l := r_v.Log)) (.r 2 b2_11 (.r 4 b2_12 (.r 5 b2_13 (.c (c_len (e := TEntry.en) (l := r_v.Log)) (.r 2 b2_13 (.r 4 b2_14 (.r 4 b2_15 (.r 3 b2_16 (.c (c_len (e := e_b) (l := r_v.Votes)) (.r 4 b2_16 (.r 3 b2_17 (.c (c_len (e := e_i64) (l := r_v.Next)) (.r 4 b2_17 (.r 3 b2_18 (.c (c_len (e := e_i64) (l := r_v.Match)) (.r 4 b2_18 (.r 4 b2_19 .n))))))))))))))))))))))))))))) ?_
                    refine kCt rT ?_
                    refine kRs 0 [Tm 2 (bv false)] [] .n ?_
                    refine WK.weak (l := [Tm 2 (bv false)]) (wk_of (by kernel_rfl)) ?_
                    refine kRt ?_
                    have h_ := some_inj h
                    subst h_
                    exact kFr
                   ·refine kRs 3 [Tm 120 (bv (decide (r_v.Clock < 0)))] (rp 49 (.b false) (.s (.t 66) [iv (r_v.Log.length : Int)] :: (rp 11 (.b false) (.s (.t 79) [iv (r_v.Log.length : Int)] :: (rp 13 (.b false) (.s (.t 95) [iv (r_v.Votes.length : Int)] :: (rp 7 (.b false) (.s (.t 103) [iv (r_v.Next.length : Int)] :: (rp 7 (.b false) (.s (.t 111) [iv (r_v.Match.length : Int)] :: (rp 8 (.b false) []))))))))))) (.r 4 b2_1 (.r 4 b2_2 (.r 6 b2_3 (.r 4 b2_4 (.r 4 b2_5 (.r 4 b2_6 (.r 4 b2_7 (.r 6 b2_8 (.r 4 b2_9 (.r 6 b2_10 (.r 3 b2_11 (.c (c_len (e := TEntry.en) (l := r_v.Log)) (.r 2 b2_11 (.r 4 b2_12 (.r 5 b2_13 (.c (c_len (e := TEntry.en) (l := r_v.Log)) (.r 2 b2_13 (.r 4 b2_14 (.r 4 b2_15 (.r 3 b2_16 (.c (c_len (e := e_b) (l := r_v.Votes)) (.r 4 b2_16 (.r 3 b2_17 (.c (c_len (e := e_i64) (l := r_v.Next)) (.r 4 b2_17 (.r 3 b2_18 (.c (c_len (e := e_i64) (l := r_v.Match)) (.r 4 b2_18 (.r 4 b2_19 .n))))))))))))))))))))))))))))) ?_
                    rcases br_inv h with ⟨b22_0, h⟩ | ⟨b22_0, h⟩
                    ·refine kCt b22_0 ?_
                     refine kRs 0 [Tm 2 (bv false)] [] .n ?_
                     refine WK.weak (l := [Tm 2 (bv false)]) (wk_of (by kernel_rfl)) ?_
                     refine kRt ?_
                     have h_ := some_inj h
                     subst h_
                     exact kFr
                    ·refine kCe b22_0 ?_
                     refine kSk ?_
                     refine kCd (cR (cR bd17)) [] ?_
                     refine kSq ?_
                     refine kRs 6 [Tm 3 (iv 0)] [] .n ?_
                     refine kBk 0 ?_
                     obtain ⟨o35, ho35, h⟩ := bd_inv h
                     refine kUs (diwanref11_May.lp25_ok fu r_v _ 0 _ ho35) ?_
                     intro e_ τ_ hp_
                     rcases o35 with o35 | o35
                     ·obtain ⟨⟩ := o35
                      obtain ⟨rfl, rfl⟩ := hp_
                      refine kCd (cR (cR (cR bd17))) [] ?_
                      refine kRs 0 [Tm 2 (bv true)] [] .n ?_
                      refine WK.weak (l := [Tm 2 (bv true)]) (wk_of (by kernel_rfl)) ?_
                      refine kRt ?_
                      have h_ := some_inj h
                      subst h_
                      exact kFr
                     ·obtain ⟨⟩ := o35
                      obtain ⟨rfl, rfl⟩ := hp_
                      have h_ := some_inj h
                      subst h_
                      exact kFr
/-- diwan/diwanref1.SameReads -/
noncomputable def bd92 : Code := (Try.f92.body).getD .skip
def diwanref1_SameReads.O : Nat → Nat := fun t => bif ([4, 5] : List Nat).any (Nat.beq t) then 1 else 0
noncomputable def diwanref1_SameReads.lp6 (fu : Nat) (l6_0 : List TRead) (l6_1 : List TRead) : Nat → Int → Option (Unit ⊕ Unit)
  | 0, _ => none
  | n_ + 1, l6_2 =>
  br (decide (l6_2 < (l6_0.length : Int)))
   (ix l6_0 l6_2 fun x9_1 =>
   ix l6_1 l6_2 fun x9_4 =>
   br (!((x9_1.Key.toList == x9_4.Key.toList) && ((x9_1.Version == x9_4.Version) && ((x9_1.Val.toList == x9_4.Val.toList) && ((x9_1.There == x9_4.There) && true)))))
    (some (.inr ()))
    (diwanref1_SameReads.lp6 fu l6_0 l6_1 n_ (w64 (l6_2 + 1))))
   (some (.inl ()))
noncomputable def diwanref1_SameReads.lp6_post (l6_0 : List TRead) (l6_1 : List TRead) (r_ : (Unit ⊕ Unit)) : Wy → St → Prop := fun e τ => match r_ with
  | .inl _ => e = .exit 0 ∧ τ = ofL []
  | .inr _ => e = .ret ∧ τ = ofL [Tm 4 (bv false)]
theorem diwanref1_SameReads.lp6_ok (fu : Nat) (l6_0 : List TRead) (l6_1 : List TRead) : ∀ (n_ : Nat) (l6_2 : Int) (r_ : (Unit ⊕ Unit)), diwanref1_SameReads.lp6 fu l6_0 l6_1 n_ l6_2 = some r_ → WK Try.prog diwanref1_SameReads.O (Ck Try.prog) (cB (cR (cL (cR (cR bd92))))) [] (ofL [Tm 0 (.data (.slc false none 4 (List.map TRead.en l6_0))), Tm 1 (.data (.slc false none 4 (List.map TRead.en l6_1))), Tm 5 (iv l6_2)]) (diwanref1_SameReads.lp6_post l6_0 l6_1 r_) := by
 intro n_
 induction n_ with
 | zero => intro l6_2 r_ h; exact no_none h
 | succ n_ ih =>
  intro l6_2 r_ h
  refine kLp ?_
  refine kSq ?_
  refine kRs 7 [Tm 14 (bv (decide (l6_2 < (l6_0.length : Int))))] [.s (.t 13) [iv (l6_0.length : Int)]] (.c (c_len (e := TRead.en) (l := l6_0)) .n) ?_
  rcases br_inv h with ⟨b8_0, h⟩ | ⟨b8_0, h⟩
  ·refine kCt b8_0 ?_
   refine kSk ?_
   refine kCd (cR (cB (cB (cR (cL (cR (cR bd92))))))) [.lp (cB (cR (cL (cR (cR bd92)))))] ?_
   refine kSq ?_
   refine kBk 1 ?_
   obtain ⟨x9_1, a9_2, e9_3, h⟩ := ix_inv h
   obtain ⟨x9_4, a9_5, e9_6, h⟩ := ix_inv h
   refine kRs 14 [Tm 25 (bv (!((x9_1.Key.toList == x9_4.Key.toList) && ((x9_1.Version == x9_4.Version) && ((x9_1.Val.toList == x9_4.Val.toList) && ((x9_1.There == x9_4.There) && true))))))] [.c (TRead.en x9_1), .c (TRead.en x9_4)] (.c (c_ix (e := TRead.en) a9_2 e9_3) (.c (c_el (e := TRead.en) e9_3) (.c (c_ix (e := TRead.en) a9_5 e9_6) (.c (c_el (e := TRead.en) e9_6) (.c rT .n))))) ?_
   rcases br_inv h with ⟨b10_0, h⟩ | ⟨b10_0, h⟩
   ·refine kCt b10_0 ?_
    refine kRs 0 [Tm 4 (bv false)] [] .n ?_
    cases some_inj h
    refine kWo ?_
    refine kRt ?_
    exact kOut
   ·refine kCe b10_0 ?_
    refine kSk ?_
    refine kCd (cR (cR (cB (cB (cR (cL (cR (cR bd92)))))))) [.lp (cB (cR (cL (cR (cR bd92)))))] ?_
    refine kRc 6 [Tm 5 (iv (w64 (l6_2 + 1)))] [] .n (cB (cR (cL (cR (cR bd92))))) [] ?_
    exact kWk (ih (w64 (l6_2 + 1)) _ h)
  ·refine kCe b8_0 ?_
   cases some_inj h
   refine kWo ?_
   refine kXt 0 ?_
   exact kOut
noncomputable def diwanref1_SameReads (fu : Nat) (a : List TRead) (b : List TRead) : Option Bool :=
 br ((a.length : Int) != (b.length : Int))
  (some false)
  (bd (diwanref1_SameReads.lp6 fu a b fu 0) fun o_ => (match o_ with
  | .inl _ =>
   some true
  | .inr _ =>
   some false))
theorem diwanref1_SameReads.meets (fu : Nat) (a : List TRead) (b : List TRead) (z0 : Bool) (h : diwanref1_SameReads fu a b = some z0) : Meets Try.prog ⟨92, [.data (.slc false none 4 (List.map TRead.en a)), .data (.slc false none 4 (List.map TRead.en b))], []⟩ ⟨bv z0, []⟩ := by
 refine meets_of (O := diwanref1_SameReads.O) hmix (fn := Try.f92) (code := bd92) (by kernel_rfl) ?_
 refine WK.weak (l := [Tm 0 (.data (.slc false none 4 (List.map TRead.en a))), Tm 1 (.data (.slc false none 4 (List.map TRead.en b)))]) (wk_of (by kernel_rfl)) ?_
 unfold diwanref1_SameReads at h
 refine kRs 3 [] [] .n ?_
 refine kSq ?_
 refine kRs 3 [Tm 10 (bv ((a.length : Int) != (b.length : Int)))] [.s (.t 7) [iv (a.length : Int)], .s (.t 9) [iv (b.length : Int)]] (.c (c_len (e := TRead.en) (l := a)) (.c (c_len (e := TRead.en) (l := b)) .n)) ?_
 rcases br_inv h with ⟨b3_0, h⟩ | ⟨b3_0, h⟩
 ·refine kCt b3_0 ?_
  refine kRs 0 [Tm 4 (bv false)] [] .n ?_
  refine WK.weak (l := [Tm 4 (bv false)]) (wk_of (by kernel_rfl)) ?_
  refine kRt ?_
  have h_ := some_inj h
  subst h_
  exact kFr
 ·refine kCe b3_0 ?_
  refine kSk ?_
  refine kCd (cR (cR bd92)) [] ?_
  refine kSq ?_
  refine kRs 6 [Tm 5 (iv 0)] [] .n ?_
  refine kBk 0 ?_
  obtain ⟨o13, ho13, h⟩ := bd_inv h
  refine kUs (diwanref1_SameReads.lp6_ok fu a b _ 0 _ ho13) ?_
  intro e_ τ_ hp_
  rcases o13 with o13 | o13
  ·obtain ⟨⟩ := o13
   obtain ⟨rfl, rfl⟩ := hp_
   refine kCd (cR (cR (cR bd92))) [] ?_
   refine kRs 0 [Tm 4 (bv true)] [] .n ?_
   refine WK.weak (l := [Tm 4 (bv true)]) (wk_of (by kernel_rfl)) ?_
   refine kRt ?_
   have h_ := some_inj h
   subst h_
   exact kFr
  ·obtain ⟨⟩ := o13
   obtain ⟨rfl, rfl⟩ := hp_
   have h_ := some_inj h
   subst h_
   exact kFr
/-- diwan/diwanref1.SameTxn -/
noncomputable def bd91 : Code := (Try.f91.body).getD .skip
def diwanref1_SameTxn.O : Nat → Nat := fun t => bif ([2, 3, 4, 5] : List Nat).any (Nat.beq t) then 1 else 0
noncomputable def diwanref1_SameTxn.lp9 (fu : Nat) (l9_1 : TTxn) (l9_2 : TTxn) : Nat → Int → Option (Unit ⊕ Unit)
  | 0, _ => none
  | n_ + 1, l9_0 =>
  br (decide (l9_0 < (l9_1.Writes.length : Int)))
   (ix l9_1.Writes l9_0 fun x12_1 =>
   ix l9_2.Writes l9_0 fun x12_4 =>
   br (!((x12_1.Key.toList == x12_4.Key.toList) && ((x12_1.Val.toList == x12_4.Val.toList) && ((x12_1.Gone == x12_4.Gone) && true))))
    (some (.inr ()))
    (diwanref1_SameTxn.lp9 fu l9_1 l9_2 n_ (w64 (l9_0 + 1))))
   (some (.inl ()))
noncomputable def diwanref1_SameTxn.lp9_post (l9_1 : TTxn) (l9_2 : TTxn) (r_ : (Unit ⊕ Unit)) : Wy → St → Prop := fun e τ => match r_ with
  | .inl _ => e = .exit 0 ∧ τ = ofL []
  | .inr _ => e = .ret ∧ τ = ofL [Tm 4 (bv false)]
theorem diwanref1_SameTxn.lp9_ok (fu : Nat) (l9_1 : TTxn) (l9_2 : TTxn) : ∀ (n_ : Nat) (l9_0 : Int) (r_ : (Unit ⊕ Unit)), diwanref1_SameTxn.lp9 fu l9_1 l9_2 n_ l9_0 = some r_ → WK Try.prog diwanref1_SameTxn.O (Ck Try.prog) (cB (cR (cL (cR (cR bd91))))) [] (ofL [Tm 2 (.ptr 2 0), Tm 3 (.ptr 3 0), Tm 5 (iv l9_0), Ob 2 (TTxn.ob l9_1), Ob 3 (TTxn.ob l9_2)]) (diwanref1_SameTxn.lp9_post l9_1 l9_2 r_) := by
 intro n_
 induction n_ with
 | zero => intro l9_0 r_ h; exact no_none h
 | succ n_ ih =>
  intro l9_0 r_ h
  refine kLp ?_
  refine kSq ?_
  refine kRs 31 [Tm 39 (bv (decide (l9_0 < (l9_1.Writes.length : Int))))] [.s (.t 38) [iv (l9_1.Writes.length : Int)]] (.c (c_len (e := TWrite.en) (l := l9_1.Writes)) .n) ?_
  rcases br_inv h with ⟨b11_0, h⟩ | ⟨b11_0, h⟩
  ·refine kCt b11_0 ?_
   refine kSk ?_
   refine kCd (cR (cB (cB (cR (cL (cR (cR bd91))))))) [.lp (cB (cR (cL (cR (cR bd91)))))] ?_
   refine kSq ?_
   refine kBk 1 ?_
   obtain ⟨x12_1, a12_2, e12_3, h⟩ := ix_inv h
   obtain ⟨x12_4, a12_5, e12_6, h⟩ := ix_inv h
   refine kRs 62 [Tm 52 (bv (!((x12_1.Key.toList == x12_4.Key.toList) && ((x12_1.Val.toList == x12_4.Val.toList) && ((x12_1.Gone == x12_4.Gone) && true)))))] [.c (TWrite.en x12_1), .c (TWrite.en x12_4)] (.c (c_ix (e := TWrite.en) a12_2 e12_3) (.c (c_el (e := TWrite.en) e12_3) (.c (c_ix (e := TWrite.en) a12_5 e12_6) (.c (c_el (e := TWrite.en) e12_6) (.c rT .n))))) ?_
   rcases br_inv h with ⟨b13_0, h⟩ | ⟨b13_0, h⟩
   ·refine kCt b13_0 ?_
    refine kRs 0 [Tm 4 (bv false)] [] .n ?_
    cases some_inj h
    refine kWo ?_
    refine kRt ?_
    exact kOut
   ·refine kCe b13_0 ?_
    refine kSk ?_
    refine kCd (cR (cR (cB (cB (cR (cL (cR (cR bd91)))))))) [.lp (cB (cR (cL (cR (cR bd91)))))] ?_
    refine kRc 54 [Tm 5 (iv (w64 (l9_0 + 1)))] [] .n (cB (cR (cL (cR (cR bd91))))) [] ?_
    exact kWk (ih (w64 (l9_0 + 1)) _ h)
  ·refine kCe b11_0 ?_
   cases some_inj h
   refine kWo ?_
   refine kXt 0 ?_
   exact kOut
noncomputable def diwanref1_SameTxn (fu : Nat) (a : TTxn) (b : TTxn) : Option Bool :=
 br (a.Session != b.Session)
  (some false)
  (br (a.Seq != b.Seq)
   (some false)
   (br ((a.Writes.length : Int) != (b.Writes.length : Int))
    (some false)
    (bd (diwanref1_SameReads fu a.Reads b.Reads) fun r2_4 =>
    br (!r2_4)
     (some false)
     (bd (diwanref1_SameTxn.lp9 fu a b fu 0) fun o_ => (match o_ with
     | .inl _ =>
      some true
     | .inr _ =>
      some false)))))
theorem diwanref1_SameTxn.meets (fu : Nat) (a : TTxn) (b : TTxn) (z0 : Bool) (h : diwanref1_SameTxn fu a b = some z0) : Meets Try.prog ⟨91, [.data (TTxn.ag a), .data (TTxn.ag b)], []⟩ ⟨bv z0, []⟩ := by
 refine meets_of (O := diwanref1_SameTxn.O) hmix (fn := Try.f91) (code := bd91) (by kernel_rfl) ?_
 refine WK.weak (l := [Tm 0 (.data (TTxn.ag a)), Tm 1 (.data (TTxn.ag b))]) (wk_of (by kernel_rfl)) ?_
 unfold diwanref1_SameTxn at h
 refine kRs 0 [Tm 2 (.ptr 2 0), Tm 3 (.ptr 3 0), Ob 2 (TTxn.ob a), Ob 3 (TTxn.ob b)] [] .n ?_
 refine kSq ?_
 rcases br_inv h with ⟨b2_1, h⟩ | ⟨b2_1, h⟩
 ·refine kRs 15 [Tm 34 (bv true)] (rp 21 (.b true) []) (.r 6 b2_1 (.r 15 rT .n)) ?_
  refine kCt rT ?_
  refine kRs 0 [Tm 4 (bv false)] [] .n ?_
  refine WK.weak (l := [Tm 4 (bv false)]) (wk_of (by kernel_rfl)) ?_
  refine kRt ?_
  have h_ := some_inj h
  subst h_
  exact kFr
 ·rcases br_inv h with ⟨b2_2, h⟩ | ⟨b2_2, h⟩
  ·refine kRs 15 [Tm 34 (bv true)] (rp 6 (.b false) (rp 15 (.b true) [])) (.r 6 b2_1 (.r 8 b2_2 (.r 7 rT .n))) ?_
   refine kCt rT ?_
   refine kRs 0 [Tm 4 (bv false)] [] .n ?_
   refine WK.weak (l := [Tm 4 (bv false)]) (wk_of (by kernel_rfl)) ?_
   refine kRt ?_
   have h_ := some_inj h
   subst h_
   exact kFr
  ·rcases br_inv h with ⟨b2_3, h⟩ | ⟨b2_3, h⟩
   ·refine kRs 15 [Tm 34 (bv true)] (rp 9 (.b false) (.s (.t 21) [iv (a.Writes.length : Int)] :: (.b false :: (.b false :: (.b false :: (.s (.t 24) [iv (b.Writes.length : Int)] :: (.b false :: (.b false :: (rp 7 (.b true) []))))))))) (.r 6 b2_1 (.r 3 b2_2 (.c (c_len (e := TWrite.en) (l := a.Writes)) (.r 3 b2_2 (.c (c_len (e := TWrite.en) (l := b.Writes)) (.r 2 b2_2 (.r 7 b2_3 .n))))))) ?_
    refine kCt rT ?_
    refine kRs 0 [Tm 4 (bv false)] [] .n ?_
    refine WK.weak (l := [Tm 4 (bv false)]) (wk_of (by kernel_rfl)) ?_
    refine kRt ?_
    have h_ := some_inj h
    subst h_
    exact kFr
   ·obtain ⟨r2_4, h2_5, h⟩ := bd_inv h
    refine kRs 15 [Tm 34 (bv (!r2_4))] (rp 9 (.b false) (.s (.t 21) [iv (a.Writes.length : Int)] :: (.b false :: (.b false :: (.b false :: (.s (.t 24) [iv (b.Writes.length : Int)] :: (rp 7 (.b false) [.a ⟨bv r2_4, []⟩, .b false, .b false]))))))) (.r 6 b2_1 (.r 3 b2_2 (.c (c_len (e := TWrite.en) (l := a.Writes)) (.r 3 b2_2 (.c (c_len (e := TWrite.en) (l := b.Writes)) (.r 2 b2_2 (.r 5 b2_3 (.c (Asks.of (C := Meets Try.prog) (diwanref1_SameReads.meets fu a.Reads b.Reads _ h2_5)) (.r 2 b2_3 .n))))))))) ?_
    rcases br_inv h with ⟨b6_0, h⟩ | ⟨b6_0, h⟩
    ·refine kCt b6_0 ?_
     refine kRs 0 [Tm 4 (bv false)] [] .n ?_
     refine WK.weak (l := [Tm 4 (bv false)]) (wk_of (by kernel_rfl)) ?_
     refine kRt ?_
     have h_ := some_inj h
     subst h_
     exact kFr
    ·refine kCe b6_0 ?_
     refine kSk ?_
     refine kCd (cR (cR bd91)) [] ?_
     refine kSq ?_
     refine kRs 30 [Tm 5 (iv 0)] [] .n ?_
     refine kBk 0 ?_
     obtain ⟨o16, ho16, h⟩ := bd_inv h
     refine kUs (diwanref1_SameTxn.lp9_ok fu a b _ 0 _ ho16) ?_
     intro e_ τ_ hp_
     rcases o16 with o16 | o16
     ·obtain ⟨⟩ := o16
      obtain ⟨rfl, rfl⟩ := hp_
      refine kCd (cR (cR (cR bd91))) [] ?_
      refine kRs 0 [Tm 4 (bv true)] [] .n ?_
      refine WK.weak (l := [Tm 4 (bv true)]) (wk_of (by kernel_rfl)) ?_
      refine kRt ?_
      have h_ := some_inj h
      subst h_
      exact kFr
     ·obtain ⟨⟩ := o16
      obtain ⟨rfl, rfl⟩ := hp_
      have h_ := some_inj h
      subst h_
      exact kFr
/-- diwan/diwanref1.SameEntry -/
noncomputable def bd68 : Code := (Try.f68.body).getD .skip
def diwanref1_SameEntry.O : Nat → Nat := fun t => bif ([2, 3, 4] : List Nat).any (Nat.beq t) then 1 else 0
noncomputable def diwanref1_SameEntry (fu : Nat) (a : TEntry) (b : TEntry) : Option Bool :=
 br (a.Term == b.Term)
  (br (a.Seal == b.Seal)
   (bd (diwanref1_SameTxn fu a.T b.T) fun r2_3 =>
   some r2_3)
   (some false))
  (some false)
theorem diwanref1_SameEntry.meets (fu : Nat) (a : TEntry) (b : TEntry) (z0 : Bool) (h : diwanref1_SameEntry fu a b = some z0) : Meets Try.prog ⟨68, [.data (TEntry.ag a), .data (TEntry.ag b)], []⟩ ⟨bv z0, []⟩ := by
 refine meets_of (O := diwanref1_SameEntry.O) hmix (fn := Try.f68) (code := bd68) (by kernel_rfl) ?_
 refine WK.weak (l := [Tm 0 (.data (TEntry.ag a)), Tm 1 (.data (TEntry.ag b))]) (wk_of (by kernel_rfl)) ?_
 unfold diwanref1_SameEntry at h
 refine kRs 0 [Tm 2 (.ptr 2 0), Tm 3 (.ptr 3 0), Ob 2 (TEntry.ob a), Ob 3 (TEntry.ob b)] [] .n ?_
 rcases br_inv h with ⟨b2_1, h⟩ | ⟨b2_1, h⟩
 ·rcases br_inv h with ⟨b2_2, h⟩ | ⟨b2_2, h⟩
  ·obtain ⟨r2_3, h2_4, h⟩ := bd_inv h
   refine kRs 0 [Tm 4 (bv r2_3)] (rp 11 (.b true) [.a ⟨bv r2_3, []⟩, .b true]) (.r 6 b2_1 (.r 5 b2_2 (.c (Asks.of (C := Meets Try.prog) (diwanref1_SameTxn.meets fu a.T b.T _ h2_4)) (.c b2_2 .n)))) ?_
   refine WK.weak (l := [Tm 4 (bv r2_3)]) (wk_of (by kernel_rfl)) ?_
   refine kRt ?_
   have h_ := some_inj h
   subst h_
   exact kFr
  ·refine kRs 0 [Tm 4 (bv false)] (rp 6 (.b true) (rp 6 (.b false) [])) (.r 6 b2_1 (.r 6 b2_2 .n)) ?_
   refine WK.weak (l := [Tm 4 (bv false)]) (wk_of (by kernel_rfl)) ?_
   refine kRt ?_
   have h_ := some_inj h
   subst h_
   exact kFr
 ·refine kRs 0 [Tm 4 (bv false)] (rp 12 (.b false) []) (.r 6 b2_1 (.r 6 rF .n)) ?_
  refine WK.weak (l := [Tm 4 (bv false)]) (wk_of (by kernel_rfl)) ?_
  refine kRt ?_
  have h_ := some_inj h
  subst h_
  exact kFr
/-- diwan/diwanref1.SameEntries -/
noncomputable def bd38 : Code := (Try.f38.body).getD .skip
def diwanref1_SameEntries.O : Nat → Nat := fun t => bif ([4, 5] : List Nat).any (Nat.beq t) then 1 else 0
noncomputable def diwanref1_SameEntries.lp6 (fu : Nat) (l6_0 : List TEntry) (l6_1 : List TEntry) : Nat → Int → Option (Unit ⊕ Unit)
  | 0, _ => none
  | n_ + 1, l6_2 =>
  br (decide (l6_2 < (l6_0.length : Int)))
   (ix l6_0 l6_2 fun x9_1 =>
   ix l6_1 l6_2 fun x9_4 =>
   bd (diwanref1_SameEntry fu x9_1 x9_4) fun r9_7 =>
   br (!r9_7)
    (some (.inr ()))
    (diwanref1_SameEntries.lp6 fu l6_0 l6_1 n_ (w64 (l6_2 + 1))))
   (some (.inl ()))
noncomputable def diwanref1_SameEntries.lp6_post (l6_0 : List TEntry) (l6_1 : List TEntry) (r_ : (Unit ⊕ Unit)) : Wy → St → Prop := fun e τ => match r_ with
  | .inl _ => e = .exit 0 ∧ τ = ofL []
  | .inr _ => e = .ret ∧ τ = ofL [Tm 4 (bv false)]
theorem diwanref1_SameEntries.lp6_ok (fu : Nat) (l6_0 : List TEntry) (l6_1 : List TEntry) : ∀ (n_ : Nat) (l6_2 : Int) (r_ : (Unit ⊕ Unit)), diwanref1_SameEntries.lp6 fu l6_0 l6_1 n_ l6_2 = some r_ → WK Try.prog diwanref1_SameEntries.O (Ck Try.prog) (cB (cR (cL (cR (cR bd38))))) [] (ofL [Tm 0 (.data (.slc false none 6 (List.map TEntry.en l6_0))), Tm 1 (.data (.slc false none 6 (List.map TEntry.en l6_1))), Tm 5 (iv l6_2)]) (diwanref1_SameEntries.lp6_post l6_0 l6_1 r_) := by
 intro n_
 induction n_ with
 | zero => intro l6_2 r_ h; exact no_none h
 | succ n_ ih =>
  intro l6_2 r_ h
  refine kLp ?_
  refine kSq ?_
  refine kRs 7 [Tm 14 (bv (decide (l6_2 < (l6_0.length : Int))))] [.s (.t 13) [iv (l6_0.length : Int)]] (.c (c_len (e := TEntry.en) (l := l6_0)) .n) ?_
  rcases br_inv h with ⟨b8_0, h⟩ | ⟨b8_0, h⟩
  ·refine kCt b8_0 ?_
   refine kSk ?_
   refine kCd (cR (cB (cB (cR (cL (cR (cR bd38))))))) [.lp (cB (cR (cL (cR (cR bd38)))))] ?_
   refine kSq ?_
   refine kBk 1 ?_
   obtain ⟨x9_1, a9_2, e9_3, h⟩ := ix_inv h
   obtain ⟨x9_4, a9_5, e9_6, h⟩ := ix_inv h
   obtain ⟨r9_7, h9_8, h⟩ := bd_inv h
   refine kRs 14 [Tm 26 (bv (!r9_7))] [.c (TEntry.en x9_1), .c (TEntry.en x9_4), .a ⟨bv r9_7, []⟩] (.c (c_ix (e := TEntry.en) a9_2 e9_3) (.c (c_el (e := TEntry.en) e9_3) (.c (c_ix (e := TEntry.en) a9_5 e9_6) (.c (c_el (e := TEntry.en) e9_6) (.c (Asks.of (C := Meets Try.prog) (diwanref1_SameEntry.meets fu x9_1 x9_4 _ h9_8)) (.c rT .n)))))) ?_
   rcases br_inv h with ⟨b10_0, h⟩ | ⟨b10_0, h⟩
   ·refine kCt b10_0 ?_
    refine kRs 0 [Tm 4 (bv false)] [] .n ?_
    cases some_inj h
    refine kWo ?_
    refine kRt ?_
    exact kOut
   ·refine kCe b10_0 ?_
    refine kSk ?_
    refine kCd (cR (cR (cB (cB (cR (cL (cR (cR bd38)))))))) [.lp (cB (cR (cL (cR (cR bd38)))))] ?_
    refine kRc 6 [Tm 5 (iv (w64 (l6_2 + 1)))] [] .n (cB (cR (cL (cR (cR bd38))))) [] ?_
    exact kWk (ih (w64 (l6_2 + 1)) _ h)
  ·refine kCe b8_0 ?_
   cases some_inj h
   refine kWo ?_
   refine kXt 0 ?_
   exact kOut
noncomputable def diwanref1_SameEntries (fu : Nat) (a : List TEntry) (b : List TEntry) : Option Bool :=
 br ((a.length : Int) != (b.length : Int))
  (some false)
  (bd (diwanref1_SameEntries.lp6 fu a b fu 0) fun o_ => (match o_ with
  | .inl _ =>
   some true
  | .inr _ =>
   some false))
theorem diwanref1_SameEntries.meets (fu : Nat) (a : List TEntry) (b : List TEntry) (z0 : Bool) (h : diwanref1_SameEntries fu a b = some z0) : Meets Try.prog ⟨38, [.data (.slc false none 6 (List.map TEntry.en a)), .data (.slc false none 6 (List.map TEntry.en b))], []⟩ ⟨bv z0, []⟩ := by
 refine meets_of (O := diwanref1_SameEntries.O) hmix (fn := Try.f38) (code := bd38) (by kernel_rfl) ?_
 refine WK.weak (l := [Tm 0 (.data (.slc false none 6 (List.map TEntry.en a))), Tm 1 (.data (.slc false none 6 (List.map TEntry.en b)))]) (wk_of (by kernel_rfl)) ?_
 unfold diwanref1_SameEntries at h
 refine kRs 3 [] [] .n ?_
 refine kSq ?_
 refine kRs 3 [Tm 10 (bv ((a.length : Int) != (b.length : Int)))] [.s (.t 7) [iv (a.length : Int)], .s (.t 9) [iv (b.length : Int)]] (.c (c_len (e := TEntry.en) (l := a)) (.c (c_len (e := TEntry.en) (l := b)) .n)) ?_
 rcases br_inv h with ⟨b3_0, h⟩ | ⟨b3_0, h⟩
 ·refine kCt b3_0 ?_
  refine kRs 0 [Tm 4 (bv false)] [] .n ?_
  refine WK.weak (l := [Tm 4 (bv false)]) (wk_of (by kernel_rfl)) ?_
  refine kRt ?_
  have h_ := some_inj h
  subst h_
  exact kFr
 ·refine kCe b3_0 ?_
  refine kSk ?_
  refine kCd (cR (cR bd38)) [] ?_
  refine kSq ?_
  refine kRs 6 [Tm 5 (iv 0)] [] .n ?_
  refine kBk 0 ?_
  obtain ⟨o13, ho13, h⟩ := bd_inv h
  refine kUs (diwanref1_SameEntries.lp6_ok fu a b _ 0 _ ho13) ?_
  intro e_ τ_ hp_
  rcases o13 with o13 | o13
  ·obtain ⟨⟩ := o13
   obtain ⟨rfl, rfl⟩ := hp_
   refine kCd (cR (cR (cR bd38))) [] ?_
   refine kRs 0 [Tm 4 (bv true)] [] .n ?_
   refine WK.weak (l := [Tm 4 (bv true)]) (wk_of (by kernel_rfl)) ?_
   refine kRt ?_
   have h_ := some_inj h
   subst h_
   exact kFr
  ·obtain ⟨⟩ := o13
   obtain ⟨rfl, rfl⟩ := hp_
   have h_ := some_inj h
   subst h_
   exact kFr
/-- diwan/diwanref11.Same -/
noncomputable def bd19 : Code := (Try.f19.body).getD .skip
def diwanref11_Same.O : Nat → Nat := fun t => bif ([2, 3, 4, 5, 6, 7] : List Nat).any (Nat.beq t) then 1 else 0
noncomputable def diwanref11_Same.lp18 (fu : Nat) (l18_1 : TRaft) (l18_2 : TRaft) : Nat → Int → Option (Unit ⊕ Unit)
  | 0, _ => none
  | n_ + 1, l18_0 =>
  br (decide (l18_0 < (l18_1.Votes.length : Int)))
   (ix l18_1.Votes l18_0 fun x21_1 =>
   ix l18_2.Votes l18_0 fun x21_4 =>
   br (!(x21_1 == x21_4))
    (some (.inr ()))
    (diwanref11_Same.lp18 fu l18_1 l18_2 n_ (w64 (l18_0 + 1))))
   (some (.inl ()))
noncomputable def diwanref11_Same.lp18_post (l18_1 : TRaft) (l18_2 : TRaft) (r_ : (Unit ⊕ Unit)) : Wy → St → Prop := fun e τ => match r_ with
  | .inl _ => e = .exit 0 ∧ τ = ofL [Tm 2 (.ptr 2 0), Tm 3 (.ptr 3 0), Ob 2 (TRaft.ob l18_1), Ob 3 (TRaft.ob l18_2)]
  | .inr _ => e = .ret ∧ τ = ofL [Tm 4 (bv false)]
theorem diwanref11_Same.lp18_ok (fu : Nat) (l18_1 : TRaft) (l18_2 : TRaft) : ∀ (n_ : Nat) (l18_0 : Int) (r_ : (Unit ⊕ Unit)), diwanref11_Same.lp18 fu l18_1 l18_2 n_ l18_0 = some r_ → WK Try.prog diwanref11_Same.O (Ck Try.prog) (cB (cR (cL (cR (cR bd19))))) [] (ofL [Tm 2 (.ptr 2 0), Tm 3 (.ptr 3 0), Tm 5 (iv l18_0), Ob 2 (TRaft.ob l18_1), Ob 3 (TRaft.ob l18_2)]) (diwanref11_Same.lp18_post l18_1 l18_2 r_) := by
 intro n_
 induction n_ with
 | zero => intro l18_0 r_ h; exact no_none h
 | succ n_ ih =>
  intro l18_0 r_ h
  refine kLp ?_
  refine kSq ?_
  refine kRs 31 [Tm 108 (bv (decide (l18_0 < (l18_1.Votes.length : Int))))] [.s (.t 107) [iv (l18_1.Votes.length : Int)]] (.c (c_len (e := e_b) (l := l18_1.Votes)) .n) ?_
  rcases br_inv h with ⟨b20_0, h⟩ | ⟨b20_0, h⟩
  ·refine kCt b20_0 ?_
   refine kSk ?_
   refine kCd (cR (cB (cB (cR (cL (cR (cR bd19))))))) [.lp (cB (cR (cL (cR (cR bd19)))))] ?_
   refine kSq ?_
   refine kBk 1 ?_
   obtain ⟨x21_1, a21_2, e21_3, h⟩ := ix_inv h
   obtain ⟨x21_4, a21_5, e21_6, h⟩ := ix_inv h
   refine kRs 62 [Tm 121 (bv (!(x21_1 == x21_4)))] [.c (e_b x21_1), .c (e_b x21_4)] (.c (c_ix (e := e_b) a21_2 e21_3) (.c (c_el (e := e_b) e21_3) (.c (c_ix (e := e_b) a21_5 e21_6) (.c (c_el (e := e_b) e21_6) (.c rT .n))))) ?_
   rcases br_inv h with ⟨b22_0, h⟩ | ⟨b22_0, h⟩
   ·refine kCt b22_0 ?_
    refine kRs 0 [Tm 4 (bv false)] [] .n ?_
    cases some_inj h
    refine kWo ?_
    refine kRt ?_
    exact kOut
   ·refine kCe b22_0 ?_
    refine kSk ?_
    refine kCd (cR (cR (cB (cB (cR (cL (cR (cR bd19)))))))) [.lp (cB (cR (cL (cR (cR bd19)))))] ?_
    refine kRc 54 [Tm 5 (iv (w64 (l18_0 + 1)))] [] .n (cB (cR (cL (cR (cR bd19))))) [] ?_
    exact kWk (ih (w64 (l18_0 + 1)) _ h)
  ·refine kCe b20_0 ?_
   cases some_inj h
   refine kWo ?_
   refine kXt 0 ?_
   exact kOut
noncomputable def diwanref11_Same.lp27 (fu : Nat) (l27_1 : TRaft) (l27_2 : TRaft) : Nat → Int → Option (Unit ⊕ Unit)
  | 0, _ => none
  | n_ + 1, l27_0 =>
  br (decide (l27_0 < (l27_1.Next.length : Int)))
   (ix l27_1.Next l27_0 fun x30_1 =>
   ix l27_2.Next l27_0 fun x30_4 =>
   br (x30_1 != x30_4)
    (some (.inr ()))
    (diwanref11_Same.lp27 fu l27_1 l27_2 n_ (w64 (l27_0 + 1))))
   (some (.inl ()))
noncomputable def diwanref11_Same.lp27_post (l27_1 : TRaft) (l27_2 : TRaft) (r_ : (Unit ⊕ Unit)) : Wy → St → Prop := fun e τ => match r_ with
  | .inl _ => e = .exit 2 ∧ τ = ofL [Tm 2 (.ptr 2 0), Tm 3 (.ptr 3 0), Ob 2 (TRaft.ob l27_1), Ob 3 (TRaft.ob l27_2)]
  | .inr _ => e = .ret ∧ τ = ofL [Tm 4 (bv false)]
theorem diwanref11_Same.lp27_ok (fu : Nat) (l27_1 : TRaft) (l27_2 : TRaft) : ∀ (n_ : Nat) (l27_0 : Int) (r_ : (Unit ⊕ Unit)), diwanref11_Same.lp27 fu l27_1 l27_2 n_ l27_0 = some r_ → WK Try.prog diwanref11_Same.O (Ck Try.prog) (cB (cR (cL (cR (cR (cR bd19)))))) [] (ofL [Tm 2 (.ptr 2 0), Tm 3 (.ptr 3 0), Tm 6 (iv l27_0), Ob 2 (TRaft.ob l27_1), Ob 3 (TRaft.ob l27_2)]) (diwanref11_Same.lp27_post l27_1 l27_2 r_) := by
 intro n_
 induction n_ with
 | zero => intro l27_0 r_ h; exact no_none h
 | succ n_ ih =>
  intro l27_0 r_ h
  refine kLp ?_
  refine kSq ?_
  refine kRs 31 [Tm 126 (bv (decide (l27_0 < (l27_1.Next.length : Int))))] [.s (.t 125) [iv (l27_1.Next.length : Int)]] (.c (c_len (e := e_i64) (l := l27_1.Next)) .n) ?_
  rcases br_inv h with ⟨b29_0, h⟩ | ⟨b29_0, h⟩
  ·refine kCt b29_0 ?_
   refine kSk ?_
   refine kCd (cR (cB (cB (cR (cL (cR (cR (cR bd19)))))))) [.lp (cB (cR (cL (cR (cR (cR bd19))))))] ?_
   refine kSq ?_
   refine kBk 3 ?_
   obtain ⟨x30_1, a30_2, e30_3, h⟩ := ix_inv h
   obtain ⟨x30_4, a30_5, e30_6, h⟩ := ix_inv h
   refine kRs 62 [Tm 139 (bv (x30_1 != x30_4))] [.c (e_i64 x30_1), .c (e_i64 x30_4)] (.c (c_ix (e := e_i64) a30_2 e30_3) (.c (c_el (e := e_i64) e30_3) (.c (c_ix (e := e_i64) a30_5 e30_6) (.c (c_el (e := e_i64) e30_6) (.c rT .n))))) ?_
   rcases br_inv h with ⟨b31_0, h⟩ | ⟨b31_0, h⟩
   ·refine kCt b31_0 ?_
    refine kRs 0 [Tm 4 (bv false)] [] .n ?_
    cases some_inj h
    refine kWo ?_
    refine kRt ?_
    exact kOut
   ·refine kCe b31_0 ?_
    refine kSk ?_
    refine kCd (cR (cR (cB (cB (cR (cL (cR (cR (cR bd19))))))))) [.lp (cB (cR (cL (cR (cR (cR bd19))))))] ?_
    refine kRc 54 [Tm 6 (iv (w64 (l27_0 + 1)))] [] .n (cB (cR (cL (cR (cR (cR bd19)))))) [] ?_
    exact kWk (ih (w64 (l27_0 + 1)) _ h)
  ·refine kCe b29_0 ?_
   cases some_inj h
   refine kWo ?_
   refine kXt 2 ?_
   exact kOut
noncomputable def diwanref11_Same.lp36 (fu : Nat) (l36_1 : TRaft) (l36_2 : TRaft) : Nat → Int → Option (Unit ⊕ Unit)
  | 0, _ => none
  | n_ + 1, l36_0 =>
  br (decide (l36_0 < (l36_1.Match.length : Int)))
   (ix l36_1.Match l36_0 fun x39_1 =>
   ix l36_2.Match l36_0 fun x39_4 =>
   br (x39_1 != x39_4)
    (some (.inr ()))
    (diwanref11_Same.lp36 fu l36_1 l36_2 n_ (w64 (l36_0 + 1))))
   (some (.inl ()))
noncomputable def diwanref11_Same.lp36_post (l36_1 : TRaft) (l36_2 : TRaft) (r_ : (Unit ⊕ Unit)) : Wy → St → Prop := fun e τ => match r_ with
  | .inl _ => e = .exit 4 ∧ τ = ofL []
  | .inr _ => e = .ret ∧ τ = ofL [Tm 4 (bv false)]
theorem diwanref11_Same.lp36_ok (fu : Nat) (l36_1 : TRaft) (l36_2 : TRaft) : ∀ (n_ : Nat) (l36_0 : Int) (r_ : (Unit ⊕ Unit)), diwanref11_Same.lp36 fu l36_1 l36_2 n_ l36_0 = some r_ → WK Try.prog diwanref11_Same.O (Ck Try.prog) (cB (cR (cL (cR (cR (cR (cR bd19))))))) [] (ofL [Tm 2 (.ptr 2 0), Tm 3 (.ptr 3 0), Tm 7 (iv l36_0), Ob 2 (TRaft.ob l36_1), Ob 3 (TRaft.ob l36_2)]) (diwanref11_Same.lp36_post l36_1 l36_2 r_) := by
 intro n_
 induction n_ with
 | zero => intro l36_0 r_ h; exact no_none h
 | succ n_ ih =>
  intro l36_0 r_ h
  refine kLp ?_
  refine kSq ?_
  refine kRs 31 [Tm 144 (bv (decide (l36_0 < (l36_1.Match.length : Int))))] [.s (.t 143) [iv (l36_1.Match.length : Int)]] (.c (c_len (e := e_i64) (l := l36_1.Match)) .n) ?_
  rcases br_inv h with ⟨b38_0, h⟩ | ⟨b38_0, h⟩
  ·refine kCt b38_0 ?_
   refine kSk ?_
   refine kCd (cR (cB (cB (cR (cL (cR (cR (cR (cR bd19))))))))) [.lp (cB (cR (cL (cR (cR (cR (cR bd19)))))))] ?_
   refine kSq ?_
   refine kBk 5 ?_
   obtain ⟨x39_1, a39_2, e39_3, h⟩ := ix_inv h
   obtain ⟨x39_4, a39_5, e39_6, h⟩ := ix_inv h
   refine kRs 62 [Tm 157 (bv (x39_1 != x39_4))] [.c (e_i64 x39_1), .c (e_i64 x39_4)] (.c (c_ix (e := e_i64) a39_2 e39_3) (.c (c_el (e := e_i64) e39_3) (.c (c_ix (e := e_i64) a39_5 e39_6) (.c (c_el (e := e_i64) e39_6) (.c rT .n))))) ?_
   rcases br_inv h with ⟨b40_0, h⟩ | ⟨b40_0, h⟩
   ·refine kCt b40_0 ?_
    refine kRs 0 [Tm 4 (bv false)] [] .n ?_
    cases some_inj h
    refine kWo ?_
    refine kRt ?_
    exact kOut
   ·refine kCe b40_0 ?_
    refine kSk ?_
    refine kCd (cR (cR (cB (cB (cR (cL (cR (cR (cR (cR bd19)))))))))) [.lp (cB (cR (cL (cR (cR (cR (cR bd19)))))))] ?_
    refine kRc 54 [Tm 7 (iv (w64 (l36_0 + 1)))] [] .n (cB (cR (cL (cR (cR (cR (cR bd19))))))) [] ?_
    exact kWk (ih (w64 (l36_0 + 1)) _ h)
  ·refine kCe b38_0 ?_
   cases some_inj h
   refine kWo ?_
   refine kXt 4 ?_
   exact kOut
noncomputable def diwanref11_Same (fu : Nat) (a : TRaft) (b : TRaft) : Option Bool :=
 br (a.Me != b.Me)
  (some false)
  (br (a.Nodes != b.Nodes)
   (some false)
   (br (a.Wait != b.Wait)
    (some false)
    (br (a.Term != b.Term)
     (some false)
     (br (a.Vote != b.Vote)
      (some false)
      (br (a.Commit != b.Commit)
       (some false)
       (br (a.Role != b.Role)
        (some false)
        (br (a.Leader != b.Leader)
         (some false)
         (br (a.Clock != b.Clock)
          (some false)
          (br ((a.Votes.length : Int) != (b.Votes.length : Int))
           (some false)
           (br ((a.Next.length : Int) != (b.Next.length : Int))
            (some false)
            (br ((a.Match.length : Int) != (b.Match.length : Int))
             (some false)
             (bd (diwanref1_SameEntries fu a.Log b.Log) fun r2_13 =>
             br (!r2_13)
              (some false)
              (bd (diwanref11_Same.lp18 fu a b fu 0) fun o_ => (match o_ with
              | .inl _ =>
               bd (diwanref11_Same.lp27 fu a b fu 0) fun o_ => (match o_ with
               | .inl _ =>
                bd (diwanref11_Same.lp36 fu a b fu 0) fun o_ => (match o_ with
                | .inl _ =>
                 some true
                | .inr _ =>
                 some false)
               | .inr _ =>
                some false)
              | .inr _ =>
               some false))))))))))))))
theorem diwanref11_Same.meets (fu : Nat) (a : TRaft) (b : TRaft) (z0 : Bool) (h : diwanref11_Same fu a b = some z0) : Meets Try.prog ⟨19, [.data (TRaft.ag a), .data (TRaft.ag b)], []⟩ ⟨bv z0, []⟩ := by
 refine meets_of (O := diwanref11_Same.O) hmix (fn := Try.f19) (code := bd19) (by kernel_rfl) ?_
 refine WK.weak (l := [Tm 0 (.data (TRaft.ag a)), Tm 1 (.data (TRaft.ag b))]) (wk_of (by kernel_rfl)) ?_
 unfold diwanref11_Same at h
 refine kRs 0 [Tm 2 (.ptr 2 0), Tm 3 (.ptr 3 0), Ob 2 (TRaft.ob a), Ob 3 (TRaft.ob b)] [] .n ?_
 refine kSq ?_
 rcases br_inv h with ⟨b2_1, h⟩ | ⟨b2_1, h⟩
 ·refine kRs 15 [Tm 103 (bv true)] (rp 79 (.b true) []) (.r 6 b2_1 (.r 73 rT .n)) ?_
  refine kCt rT ?_
  refine kRs 0 [Tm 4 (bv false)] [] .n ?_
  refine WK.weak (l := [Tm 4 (bv false)]) (wk_of (by kernel_rfl)) ?_
  refine kRt ?_
  have h_ := some_inj h
  subst h_
  exact kFr
 ·rcases br_inv h with ⟨b2_2, h⟩ | ⟨b2_2, h⟩
  ·refine kRs 15 [Tm 103 (bv true)] (rp 6 (.b false) (rp 73 (.b true) [])) (.r 6 b2_1 (.r 6 b2_2 (.r 67 rT .n))) ?_
   refine kCt rT ?_
   refine kRs 0 [Tm 4 (bv false)] [] .n ?_
   refine WK.weak (l := [Tm 4 (bv false)]) (wk_of (by kernel_rfl)) ?_
   refine kRt ?_
   have h_ := some_inj h
   subst h_
   exact kFr
  ·rcases br_inv h with ⟨b2_3, h⟩ | ⟨b2_3, h⟩
   ·refine kRs 15 [Tm 103 (bv true)] (rp 12 (.b false) (rp 67 (.b true) [])) (.r 6 b2_1 (.r 6 b2_2 (.r 6 b2_3 (.r 61 rT .n)))) ?_
    refine kCt rT ?_
    refine kRs 0 [Tm 4 (bv false)] [] .n ?_
    refine WK.weak (l := [Tm 4 (bv false)]) (wk_of (by kernel_rfl)) ?_
    refine kRt ?_
    have h_ := some_inj h
    subst h_
    exact kFr
   ·rcases br_inv h with ⟨b2_4, h⟩ | ⟨b2_4, h⟩
    ·refine kRs 15 [Tm 103 (bv true)] (rp 18 (.b false) (rp 61 (.b true) [])) (.r 6 b2_1 (.r 6 b2_2 (.r 6 b2_3 (.r 6 b2_4 (.r 55 rT .n))))) ?_
     refine kCt rT ?_
     refine kRs 0 [Tm 4 (bv false)] [] .n ?_
     refine WK.weak (l := [Tm 4 (bv false)]) (wk_of (by kernel_rfl)) ?_
     refine kRt ?_
     have h_ := some_inj h
     subst h_
     exact kFr
    ·rcases br_inv h with ⟨b2_5, h⟩ | ⟨b2_5, h⟩
     ·refine kRs 15 [Tm 103 (bv true)] (rp 24 (.b false) (rp 55 (.b true) [])) (.r 6 b2_1 (.r 6 b2_2 (.r 6 b2_3 (.r 6 b2_4 (.r 6 b2_5 (.r 49 rT .n)))))) ?_
      refine kCt rT ?_
      refine kRs 0 [Tm 4 (bv false)] [] .n ?_
      refine WK.weak (l := [Tm 4 (bv false)]) (wk_of (by kernel_rfl)) ?_
      refine kRt ?_
      have h_ := some_inj h
      subst h_
      exact kFr
     ·rcases br_inv h with ⟨b2_6, h⟩ | ⟨b2_6, h⟩
      ·refine kRs 15 [Tm 103 (bv true)] (rp 30 (.b false) (rp 49 (.b true) [])) (.r 6 b2_1 (.r 6 b2_2 (.r 6 b2_3 (.r 6 b2_4 (.r 6 b2_5 (.r 6 b2_6 (.r 43 rT .n))))))) ?_
       refine kCt rT ?_
       refine kRs 0 [Tm 4 (bv false)] [] .n ?_
       refine WK.weak (l := [Tm 4 (bv false)]) (wk_of (by kernel_rfl)) ?_
       refine kRt ?_
       have h_ := some_inj h
       subst h_
       exact kFr
      ·rcases br_inv h with ⟨b2_7, h⟩ | ⟨b2_7, h⟩
       ·refine kRs 15 [Tm 103 (bv true)] (rp 36 (.b false) (rp 43 (.b true) [])) (.r 6 b2_1 (.r 6 b2_2 (.r 6 b2_3 (.r 6 b2_4 (.r 6 b2_5 (.r 6 b2_6 (.r 6 b2_7 (.r 37 rT .n)))))))) ?_
        refine kCt rT ?_
        refine kRs 0 [Tm 4 (bv false)] [] .n ?_
        refine WK.weak (l := [Tm 4 (bv false)]) (wk_of (by kernel_rfl)) ?_
        refine kRt ?_
        have h_ := some_inj h
        subst h_
        exact kFr
       ·rcases br_inv h with ⟨b2_8, h⟩ | ⟨b2_8, h⟩
        ·refine kRs 15 [Tm 103 (bv true)] (rp 42 (.b false) (rp 37 (.b true) [])) (.r 6 b2_1 (.r 6 b2_2 (.r 6 b2_3 (.r 6 b2_4 (.r 6 b2_5 (.r 6 b2_6 (.r 6 b2_7 (.r 6 b2_8 (.r 31 rT .n))))))))) ?_
         refine kCt rT ?_
         refine kRs 0 [Tm 4 (bv false)] [] .n ?_
         refine WK.weak (l := [Tm 4 (bv false)]) (wk_of (by kernel_rfl)) ?_
         refine kRt ?_
         have h_ := some_inj h
         subst h_
         exact kFr
        ·rcases br_inv h with ⟨b2_9, h⟩ | ⟨b2_9, h⟩
         ·refine kRs 15 [Tm 103 (bv true)] (rp 48 (.b false) (rp 31 (.b true) [])) (.r 6 b2_1 (.r 6 b2_2 (.r 6 b2_3 (.r 6 b2_4 (.r 6 b2_5 (.r 6 b2_6 (.r 6 b2_7 (.r 6 b2_8 (.r 8 b2_9 (.r 23 rT .n)))))))))) ?_
          refine kCt rT ?_
          refine kRs 0 [Tm 4 (bv false)] [] .n ?_
          refine WK.weak (l := [Tm 4 (bv false)]) (wk_of (by kernel_rfl)) ?_
          refine kRt ?_
          have h_ := some_inj h
          subst h_
          exact kFr
         ·rcases br_inv h with ⟨b2_10, h⟩ | ⟨b2_10, h⟩
          ·refine kRs 15 [Tm 103 (bv true)] (rp 51 (.b false) (.s (.t 72) [iv (a.Votes.length : Int)] :: (.b false :: (.b false :: (.b false :: (.s (.t 75) [iv (b.Votes.length : Int)] :: (.b false :: (.b false :: (rp 23 (.b true) []))))))))) (.r 6 b2_1 (.r 6 b2_2 (.r 6 b2_3 (.r 6 b2_4 (.r 6 b2_5 (.r 6 b2_6 (.r 6 b2_7 (.r 6 b2_8 (.r 3 b2_9 (.c (c_len (e := e_b) (l := a.Votes)) (.r 3 b2_9 (.c (c_len (e := e_b) (l := b.Votes)) (.r 2 b2_9 (.r 8 b2_10 (.r 15 rT .n))))))))))))))) ?_
           refine kCt rT ?_
           refine kRs 0 [Tm 4 (bv false)] [] .n ?_
           refine WK.weak (l := [Tm 4 (bv false)]) (wk_of (by kernel_rfl)) ?_
           refine kRt ?_
           have h_ := some_inj h
           subst h_
           exact kFr
          ·rcases br_inv h with ⟨b2_11, h⟩ | ⟨b2_11, h⟩
           ·refine kRs 15 [Tm 103 (bv true)] (rp 51 (.b false) (.s (.t 72) [iv (a.Votes.length : Int)] :: (.b false :: (.b false :: (.b false :: (.s (.t 75) [iv (b.Votes.length : Int)] :: (rp 5 (.b false) (.s (.t 81) [iv (a.Next.length : Int)] :: (.b false :: (.b false :: (.b false :: (.s (.t 84) [iv (b.Next.length : Int)] :: (.b false :: (.b false :: (rp 15 (.b true) []))))))))))))))) (.r 6 b2_1 (.r 6 b2_2 (.r 6 b2_3 (.r 6 b2_4 (.r 6 b2_5 (.r 6 b2_6 (.r 6 b2_7 (.r 6 b2_8 (.r 3 b2_9 (.c (c_len (e := e_b) (l := a.Votes)) (.r 3 b2_9 (.c (c_len (e := e_b) (l := b.Votes)) (.r 2 b2_9 (.r 3 b2_10 (.c (c_len (e := e_i64) (l := a.Next)) (.r 3 b2_10 (.c (c_len (e := e_i64) (l := b.Next)) (.r 2 b2_10 (.r 8 b2_11 (.r 7 rT .n)))))))))))))))))))) ?_
            refine kCt rT ?_
            refine kRs 0 [Tm 4 (bv false)] [] .n ?_
            refine WK.weak (l := [Tm 4 (bv false)]) (wk_of (by kernel_rfl)) ?_
            refine kRt ?_
            have h_ := some_inj h
            subst h_
            exact kFr
           ·rcases br_inv h with ⟨b2_12, h⟩ | ⟨b2_12, h⟩
            ·refine kRs 15 [Tm 103 (bv true)] (rp 51 (.b false) (.s (.t 72) [iv (a.Votes.length : Int)] :: (.b false :: (.b false :: (.b false :: (.s (.t 75) [iv (b.Votes.length : Int)] :: (rp 5 (.b false) (.s (.t 81) [iv (a.Next.length : Int)] :: (.b false :: (.b false :: (.b false :: (.s (.t 84) [iv (b.Next.length : Int)] :: (rp 5 (.b false) (.s (.t 90) [iv (a.Match.length : Int)] :: (.b false :: (.b false :: (.b false :: (.s (.t 93) [iv (b.Match.length : Int)] :: (.b false :: (.b false :: (rp 7 (.b true) []))))))))))))))))))))) (.r 6 b2_1 (.r 6 b2_2 (.r 6 b2_3 (.r 6 b2_4 (.r 6 b2_5 (.r 6 b2_6 (.r 6 b2_7 (.r 6 b2_8 (.r 3 b2_9 (.c (c_len (e := e_b) (l := a.Votes)) (.r 3 b2_9 (.c (c_len (e := e_b) (l := b.Votes)) (.r 2 b2_9 (.r 3 b2_10 (.c (c_len (e := e_i64) (l := a.Next)) (.r 3 b2_10 (.c (c_len (e := e_i64) (l := b.Next)) (.r 2 b2_10 (.r 3 b2_11 (.c (c_len (e := e_i64) (l := a.Match)) (.r 3 b2_11 (.c (c_len (e := e_i64) (l := b.Match)) (.r 2 b2_11 (.r 7 b2_12 .n)))))))))))))))))))))))) ?_
             refine kCt rT ?_
             refine kRs 0 [Tm 4 (bv false)] [] .n ?_
             refine WK.weak (l := [Tm 4 (bv false)]) (wk_of (by kernel_rfl)) ?_
             refine kRt ?_
             have h_ := some_inj h
             subst h_
             exact kFr
            ·obtain ⟨r2_13, h2_14, h⟩ := bd_inv h
             refine kRs 15 [Tm 103 (bv (!r2_13))] (rp 51 (.b false) (.s (.t 72) [iv (a.Votes.length : Int)] :: (.b false :: (.b false :: (.b false :: (.s (.t 75) [iv (b.Votes.length : Int)] :: (rp 5 (.b false) (.s (.t 81) [iv (a.Next.length : Int)] :: (.b false :: (.b false :: (.b false :: (.s (.t 84) [iv (b.Next.length : Int)] :: (rp 5 (.b false) (.s (.t 90) [iv (a.Match.length : Int)] :: (.b false :: (.b false :: (.b false :: (.s (.t 93) [iv (b.Match.length : Int)] :: (rp 7 (.b false) [.a ⟨bv r2_13, []⟩, .b false, .b false]))))))))))))))))))) (.r 6 b2_1 (.r 6 b2_2 (.r 6 b2_3 (.r 6 b2_4 (.r 6 b2_5 (.r 6 b2_6 (.r 6 b2_7 (.r 6 b2_8 (.r 3 b2_9 (.c (c_len (e := e_b) (l := a.Votes)) (.r 3 b2_9 (.c (c_len (e := e_b) (l := b.Votes)) (.r 2 b2_9 (.r 3 b2_10 (.c (c_len (e := e_i64) (l := a.Next)) (.r 3 b2_10 (.c (c_len (e := e_i64) (l := b.Next)) (.r 2 b2_10 (.r 3 b2_11 (.c (c_len (e := e_i64) (l := a.Match)) (.r 3 b2_11 (.c (c_len (e := e_i64) (l := b.Match)) (.r 2 b2_11 (.r 5 b2_12 (.c (Asks.of (C := Meets Try.prog) (diwanref1_SameEntries.meets fu a.Log b.Log _ h2_14)) (.r 2 b2_12 .n)))))))))))))))))))))))))) ?_
             rcases br_inv h with ⟨b15_0, h⟩ | ⟨b15_0, h⟩
             ·refine kCt b15_0 ?_
              refine kRs 0 [Tm 4 (bv false)] [] .n ?_
              refine WK.weak (l := [Tm 4 (bv false)]) (wk_of (by kernel_rfl)) ?_
              refine kRt ?_
              have h_ := some_inj h
              subst h_
              exact kFr
             ·refine kCe b15_0 ?_
              refine kSk ?_
              refine kCd (cR (cR bd19)) [] ?_
              refine kSq ?_
              refine kRs 30 [Tm 5 (iv 0)] [] .n ?_
              refine kBk 0 ?_
              obtain ⟨o25, ho25, h⟩ := bd_inv h
              refine kUs (diwanref11_Same.lp18_ok fu a b _ 0 _ ho25) ?_
              intro e_ τ_ hp_
              rcases o25 with o25 | o25
              ·obtain ⟨⟩ := o25
               obtain ⟨rfl, rfl⟩ := hp_
               refine kCd (cR (cR (cR bd19))) [] ?_
               refine kSq ?_
               refine kRs 15 [Tm 6 (iv 0)] [] .n ?_
               refine kBk 2 ?_
               obtain ⟨o34, ho34, h⟩ := bd_inv h
               refine kUs (diwanref11_Same.lp27_ok fu a b _ 0 _ ho34) ?_
               intro e_ τ_ hp_
               rcases o34 with o34 | o34
               ·obtain ⟨⟩ := o34
                obtain ⟨rfl, rfl⟩ := hp_
                refine kCd (cR (cR (cR (cR bd19)))) [] ?_
                refine kSq ?_
                refine kRs 15 [Tm 7 (iv 0)] [] .n ?_
                refine kBk 4 ?_
                obtain ⟨o43, ho43, h⟩ := bd_inv h
                refine kUs (diwanref11_Same.lp36_ok fu a b _ 0 _ ho43) ?_
                intro e_ τ_ hp_
                rcases o43 with o43 | o43
                ·obtain ⟨⟩ := o43
                 obtain ⟨rfl, rfl⟩ := hp_
                 refine kCd (cR (cR (cR (cR (cR bd19))))) [] ?_
                 refine kRs 0 [Tm 4 (bv true)] [] .n ?_
                 refine WK.weak (l := [Tm 4 (bv true)]) (wk_of (by kernel_rfl)) ?_
                 refine kRt ?_
                 have h_ := some_inj h
                 subst h_
                 exact kFr
                ·obtain ⟨⟩ := o43
                 obtain ⟨rfl, rfl⟩ := hp_
                 have h_ := some_inj h
                 subst h_
                 exact kFr
               ·obtain ⟨⟩ := o34
                obtain ⟨rfl, rfl⟩ := hp_
                have h_ := some_inj h
                subst h_
                exact kFr
              ·obtain ⟨⟩ := o25
               obtain ⟨rfl, rfl⟩ := hp_
               have h_ := some_inj h
               subst h_
               exact kFr
/-- diwan/diwanlaw11.RaftMay -/
noncomputable def bd3 : Code := (Try.f3.body).getD .skip
def diwanlaw11_RaftMay.O : Nat → Nat := fun t => bif ([6, 7, 8, 9, 17, 19, 24, 26, 28, 30, 32, 34, 36, 38, 40, 42, 44, 46, 48, 50, 52, 54, 56, 58, 62, 63, 65, 71, 75, 76, 78, 80, 82, 87, 88, 89] : List Nat).any (Nat.beq t) then 1 else 0
noncomputable def diwanlaw11_RaftMay (fu : Nat) (picks : List Int) (which : Int) (to : Int) : Option Bool :=
 bd (diwanlaw11_begun fu) fun r2_1 =>
 br (!r2_1)
  (some false)
  (br (decide ((picks.length : Int) > 120))
   (some true)
   (bd (diwanplay_Made picks) fun r8_1 =>
   bd (diwanplay_Picks_Raft fu r8_1) fun (r8_3, r8_4) =>
   bd (diwanref11_Copy r8_3) fun _ =>
   jn (fun (j51_2 : TRaft) =>
    bd (raft_May fu j51_2) fun r53_1 =>
    bd (diwanref11_May fu j51_2) fun r53_3 =>
    br (r53_1 == r53_3)
     (bd (raft_Same fu j51_2 r8_3) fun r53_6 =>
     bd (diwanref11_Same fu j51_2 r8_3) fun r53_8 =>
     br (r53_6 == r53_8)
      (bd (raft_New (w64 (1 + (w64 (Int.tmod which 5)))) (w64 (1 + (w64 (Int.tmod which 5)))) 5) fun r53_11 =>
      bd (diwanref11_New (w64 (1 + (w64 (Int.tmod which 5)))) (w64 (1 + (w64 (Int.tmod which 5)))) 5) fun r53_13 =>
      bd (diwanref11_Same fu r53_11 r53_13) fun r53_15 =>
      br r53_15
       (bd (raft_New 1 (w64 (1 + (w64 (Int.tmod which 5)))) 5) fun r53_18 =>
       bd (raft_May fu r53_18) fun r53_20 =>
       some r53_20)
       (some false))
      (some false))
     (some false)) fun k51 =>
   br ((Int.tmod which 14) == 0)
    (k51 (TRaft.mk to r8_3.Nodes r8_3.Wait r8_3.Term r8_3.Vote r8_3.Log r8_3.Commit r8_3.Role r8_3.Leader r8_3.Votes r8_3.Next r8_3.Match r8_3.Clock))
    (br ((Int.tmod which 14) == 1)
     (k51 (TRaft.mk r8_3.Me to r8_3.Wait r8_3.Term r8_3.Vote r8_3.Log r8_3.Commit r8_3.Role r8_3.Leader r8_3.Votes r8_3.Next r8_3.Match r8_3.Clock))
     (br ((Int.tmod which 14) == 2)
      (k51 (TRaft.mk r8_3.Me r8_3.Nodes to r8_3.Term r8_3.Vote r8_3.Log r8_3.Commit r8_3.Role r8_3.Leader r8_3.Votes r8_3.Next r8_3.Match r8_3.Clock))
      (br ((Int.tmod which 14) == 3)
       (k51 (TRaft.mk r8_3.Me r8_3.Nodes r8_3.Wait to r8_3.Vote r8_3.Log r8_3.Commit r8_3.Role r8_3.Leader r8_3.Votes r8_3.Next r8_3.Match r8_3.Clock))
       (br ((Int.tmod which 14) == 4)
        (k51 (TRaft.mk r8_3.Me r8_3.Nodes r8_3.Wait r8_3.Term to r8_3.Log r8_3.Commit r8_3.Role r8_3.Leader r8_3.Votes r8_3.Next r8_3.Match r8_3.Clock))
        (br ((Int.tmod which 14) == 5)
         (k51 (TRaft.mk r8_3.Me r8_3.Nodes r8_3.Wait r8_3.Term r8_3.Vote r8_3.Log to r8_3.Role r8_3.Leader r8_3.Votes r8_3.Next r8_3.Match r8_3.Clock))
         (br ((Int.tmod which 14) == 6)
          (k51 (TRaft.mk r8_3.Me r8_3.Nodes r8_3.Wait r8_3.Term r8_3.Vote r8_3.Log r8_3.Commit to r8_3.Leader r8_3.Votes r8_3.Next r8_3.Match r8_3.Clock))
          (br ((Int.tmod which 14) == 7)
           (k51 (TRaft.mk r8_3.Me r8_3.Nodes r8_3.Wait r8_3.Term r8_3.Vote r8_3.Log r8_3.Commit r8_3.Role to r8_3.Votes r8_3.Next r8_3.Match r8_3.Clock))
           (br ((Int.tmod which 14) == 8)
            (gd (decide (r8_3.Votes.length + ([true] : List Bool).length ≤ 4294967296)) <|
            k51 (TRaft.mk r8_3.Me r8_3.Nodes r8_3.Wait r8_3.Term r8_3.Vote r8_3.Log r8_3.Commit r8_3.Role r8_3.Leader (r8_3.Votes ++ ([true] : List Bool)) r8_3.Next r8_3.Match r8_3.Clock))
            (br ((Int.tmod which 14) == 9)
             (gd (decide ((0 : Int) ≤ (1 : Int) ∧ (1 : Int) ≤ (r8_3.Next.length : Int))) <|
             k51 (TRaft.mk r8_3.Me r8_3.Nodes r8_3.Wait r8_3.Term r8_3.Vote r8_3.Log r8_3.Commit r8_3.Role r8_3.Leader r8_3.Votes (List.drop (1 : Int).toNat r8_3.Next) r8_3.Match r8_3.Clock))
             (br ((Int.tmod which 14) == 10)
              (gd (decide (r8_3.Match.length + ([0] : List Int).length ≤ 4294967296)) <|
              k51 (TRaft.mk r8_3.Me r8_3.Nodes r8_3.Wait r8_3.Term r8_3.Vote r8_3.Log r8_3.Commit r8_3.Role r8_3.Leader r8_3.Votes r8_3.Next (r8_3.Match ++ ([0] : List Int)) r8_3.Clock))
              (br ((Int.tmod which 14) == 11)
               (k51 (TRaft.mk r8_3.Me r8_3.Nodes r8_3.Wait r8_3.Term r8_3.Vote r8_3.Log r8_3.Commit r8_3.Role r8_3.Leader r8_3.Votes r8_3.Next r8_3.Match to))
               (br ((Int.tmod which 14) == 12)
                (gd (decide (r8_3.Log.length + ([(TEntry.mk to true (TTxn.mk 0 0 [] []))] : List TEntry).length ≤ 4294967296)) <|
                k51 (TRaft.mk r8_3.Me r8_3.Nodes r8_3.Wait r8_3.Term r8_3.Vote (r8_3.Log ++ ([(TEntry.mk to true (TTxn.mk 0 0 [] []))] : List TEntry)) r8_3.Commit r8_3.Role r8_3.Leader r8_3.Votes r8_3.Next r8_3.Match r8_3.Clock))
                (ix r8_3.Match 0 fun x50_1 =>
                k51 (TRaft.mk r8_3.Me r8_3.Nodes r8_3.Wait r8_3.Term r8_3.Vote r8_3.Log r8_3.Commit r8_3.Role r8_3.Leader r8_3.Votes r8_3.Next (r8_3.Match.set (0 : Int).toNat to) r8_3.Clock))))))))))))))))
theorem diwanlaw11_RaftMay.meets (fu : Nat) (picks : List Int) (which : Int) (to : Int) (z0 : Bool) (h : diwanlaw11_RaftMay fu picks which to = some z0) : Meets Try.prog ⟨3, [.data (.slc false none 1 (List.map e_u8 picks)), .data (.val (.int .u8 which)), iv to], []⟩ ⟨bv z0, []⟩ := by
 refine meets_of (O := diwanlaw11_RaftMay.O) hmix (fn := Try.f3) (code := bd3) (by kernel_rfl) ?_
 refine WK.weak (l := [Tm 0 (.data (.slc false none 1 (List.map e_u8 picks))), Tm 1 (.data (.val (.int .u8 which))), Tm 2 (iv to)]) (wk_of (by kernel_rfl)) ?_
 unfold diwanlaw11_RaftMay at h
 refine kRs 7 [] [] .n ?_
 refine kSq ?_
 obtain ⟨r2_1, h2_2, h⟩ := bd_inv h
 refine kRs 7 [Tm 11 (bv (!r2_1))] [.a ⟨bv r2_1, []⟩] (.c (Asks.of (C := Meets Try.prog) (diwanlaw11_begun.meets fu _ h2_2)) .n) ?_
 rcases br_inv h with ⟨b3_0, h⟩ | ⟨b3_0, h⟩
 ·refine kCt b3_0 ?_
  refine kRs 0 [Tm 6 (bv false)] [] .n ?_
  refine WK.weak (l := [Tm 6 (bv false)]) (wk_of (by kernel_rfl)) ?_
  refine kRt ?_
  have h_ := some_inj h
  subst h_
  exact kFr
 ·refine kCe b3_0 ?_
  refine kSk ?_
  refine kCd (cR (cR bd3)) [] ?_
  refine kSq ?_
  refine kRs 14 [Tm 14 (bv (decide ((picks.length : Int) > 120)))] [.s (.t 13) [iv (picks.length : Int)]] (.c (c_len (e := e_u8) (l := picks)) .n) ?_
  rcases br_inv h with ⟨b6_0, h⟩ | ⟨b6_0, h⟩
  ·refine kCt b6_0 ?_
   refine kRs 0 [Tm 6 (bv true)] [] .n ?_
   refine WK.weak (l := [Tm 6 (bv true)]) (wk_of (by kernel_rfl)) ?_
   refine kRt ?_
   have h_ := some_inj h
   subst h_
   exact kFr
  ·refine kCe b6_0 ?_
   refine kSk ?_
   refine kCd (cR (cR (cR bd3))) [] ?_
   obtain ⟨r8_1, h8_2, h⟩ := bd_inv h
   obtain ⟨⟨r8_3, r8_4⟩, h8_5, h⟩ := bd_inv h
   refine kRs 12 [Tm 7 (.ptr 7 0), Ob 7 (TRaft.ob_000001000111 r8_3)] [.a ⟨.ptr 1000 0, [[.data (.slc false none 1 (List.map e_u8 r8_1.l)), iv r8_1.n]]⟩, .a ⟨.data (TRaft.ag_000001000111 r8_3), [[.data (.slc false none 1 (List.map e_u8 r8_4.l)), iv r8_4.n]]⟩] (.c (Asks.of (C := Meets Try.prog) (diwanplay_Made.meets picks _ h8_2)) (.c (Asks.of (C := Meets Try.prog) (diwanplay_Picks_Raft.meets fu r8_1 _ _ h8_5)) .n)) ?_
   obtain ⟨_, h9_1, h⟩ := bd_inv h
   refine kRs 13 [Tm 8 (.ptr 8 0), Ob 7 (TRaft.ob r8_3), Ob 8 (TRaft.ob_000001000111 r8_3)] [.a ⟨.data (TRaft.ag_000001000111 r8_3), []⟩] (.c (Asks.of (C := Meets Try.prog) (diwanref11_Copy.meets r8_3 h9_1)) .n) ?_
   obtain ⟨k51, hk51, h⟩ := jn_inv h
   have Jk51 : ∀ (j51_2 : TRaft), k51 j51_2 = some z0 → WK Try.prog diwanlaw11_RaftMay.O (Ck Try.prog) (cR (cR (cR (cR (cR (cR bd3)))))) [] (ofL [Tm 1 (.data (.val (.int .u8 which))), Tm 7 (.ptr 7 0), Tm 8 (.ptr 8 0), Ob 7 (TRaft.ob r8_3), Ob 8 (TRaft.ob_000001000101 j51_2)]) (Fin Try.prog diwanlaw11_RaftMay.O Try.f3 0 ⟨bv z0, []⟩) := by
    intro j51_2 h
    rw [hk51] at h
    refine kRs 30 [Tm 9 (iv (w64 (1 + (w64 (Int.tmod which 5)))))] [] (.c rT .n) ?_
    obtain ⟨r53_1, h53_2, h⟩ := bd_inv h
    obtain ⟨r53_3, h53_4, h⟩ := bd_inv h
    rcases br_inv h with ⟨b53_5, h⟩ | ⟨b53_5, h⟩
    ·obtain ⟨r53_6, h53_7, h⟩ := bd_inv h
     obtain ⟨r53_8, h53_9, h⟩ := bd_inv h
     rcases br_inv h with ⟨b53_10, h⟩ | ⟨b53_10, h⟩
     ·obtain ⟨r53_11, h53_12, h⟩ := bd_inv h
      obtain ⟨r53_13, h53_14, h⟩ := bd_inv h
      obtain ⟨r53_15, h53_16, h⟩ := bd_inv h
      rcases br_inv h with ⟨b53_17, h⟩ | ⟨b53_17, h⟩
      ·obtain ⟨r53_18, h53_19, h⟩ := bd_inv h
       obtain ⟨r53_20, h53_21, h⟩ := bd_inv h
       refine kRs 0 [Tm 6 (bv r53_20)] (.a ⟨bv r53_1, []⟩ :: (.a ⟨bv r53_3, []⟩ :: (.b true :: (.b true :: (.b true :: (.a ⟨bv r53_6, []⟩ :: (.b true :: (.b true :: (.b true :: (.a ⟨bv r53_8, []⟩ :: (rp 5 (.b true) [.a ⟨.data (TRaft.ag_000001000111 r53_11), []⟩, .b true, .b true, .b true, .a ⟨.data (TRaft.ag_000001000111 r53_13), []⟩, .b true, .a ⟨bv r53_15, []⟩, .b true, .b true, .b true, .a ⟨.data (TRaft.ag_000001000111 r53_18), []⟩, .b true, .a ⟨bv r53_20, []⟩, .b true]))))))))))) (.c (Asks.of (C := Meets Try.prog) (raft_May.meets fu j51_2 _ h53_2)) (.c (Asks.of (C := Meets Try.prog) (diwanref11_May.meets fu j51_2 _ h53_4)) (.r 3 b53_5 (.c (Asks.of (C := Meets Try.prog) (raft_Same.meets fu j51_2 r8_3 _ h53_7)) (.r 3 b53_5 (.c (Asks.of (C := Meets Try.prog) (diwanref11_Same.meets fu j51_2 r8_3 _ h53_9)) (.r 2 b53_5 (.r 3 b53_10 (.c (Asks.of (C := Meets Try.prog) (raft_New.meets (w64 (1 + (w64 (Int.tmod which 5)))) (w64 (1 + (w64 (Int.tmod which 5)))) 5 _ h53_12)) (.r 3 b53_10 (.c (Asks.of (C := Meets Try.prog) (diwanref11_New.meets (w64 (1 + (w64 (Int.tmod which 5)))) (w64 (1 + (w64 (Int.tmod which 5)))) 5 _ h53_14)) (.c b53_10 (.c (Asks.of (C := Meets Try.prog) (diwanref11_Same.meets fu r53_11 r53_13 _ h53_16)) (.c b53_10 (.r 2 b53_17 (.c (Asks.of (C := Meets Try.prog) (raft_New.meets 1 (w64 (1 + (w64 (Int.tmod which 5)))) 5 _ h53_19)) (.c b53_17 (.c (Asks.of (C := Meets Try.prog) (raft_May.meets fu r53_18 _ h53_21)) (.c b53_17 (.c rT .n)))))))))))))))))))) ?_
       refine WK.weak (l := [Tm 6 (bv r53_20)]) (wk_of (by kernel_rfl)) ?_
       refine kRt ?_
       have h_ := some_inj h
       subst h_
       exact kFr
      ·refine kRs 0 [Tm 6 (bv false)] (.a ⟨bv r53_1, []⟩ :: (.a ⟨bv r53_3, []⟩ :: (.b true :: (.b true :: (.b true :: (.a ⟨bv r53_6, []⟩ :: (.b true :: (.b true :: (.b true :: (.a ⟨bv r53_8, []⟩ :: (rp 5 (.b true) (.a ⟨.data (TRaft.ag_000001000111 r53_11), []⟩ :: (.b true :: (.b true :: (.b true :: (.a ⟨.data (TRaft.ag_000001000111 r53_13), []⟩ :: (.b true :: (.a ⟨bv r53_15, []⟩ :: (.b true :: (rp 4 (.b false) [])))))))))))))))))))) (.c (Asks.of (C := Meets Try.prog) (raft_May.meets fu j51_2 _ h53_2)) (.c (Asks.of (C := Meets Try.prog) (diwanref11_May.meets fu j51_2 _ h53_4)) (.r 3 b53_5 (.c (Asks.of (C := Meets Try.prog) (raft_Same.meets fu j51_2 r8_3 _ h53_7)) (.r 3 b53_5 (.c (Asks.of (C := Meets Try.prog) (diwanref11_Same.meets fu j51_2 r8_3 _ h53_9)) (.r 2 b53_5 (.r 3 b53_10 (.c (Asks.of (C := Meets Try.prog) (raft_New.meets (w64 (1 + (w64 (Int.tmod which 5)))) (w64 (1 + (w64 (Int.tmod which 5)))) 5 _ h53_12)) (.r 3 b53_10 (.c (Asks.of (C := Meets Try.prog) (diwanref11_New.meets (w64 (1 + (w64 (Int.tmod which 5)))) (w64 (1 + (w64 (Int.tmod which 5)))) 5 _ h53_14)) (.c b53_10 (.c (Asks.of (C := Meets Try.prog) (diwanref11_Same.meets fu r53_11 r53_13 _ h53_16)) (.c b53_10 (.r 4 b53_17 (.c rT .n)))))))))))))))) ?_
       refine WK.weak (l := [Tm 6 (bv false)]) (wk_of (by kernel_rfl)) ?_
       refine kRt ?_
       have h_ := some_inj h
       subst h_
       exact kFr
     ·refine kRs 0 [Tm 6 (bv false)] (.a ⟨bv r53_1, []⟩ :: (.a ⟨bv r53_3, []⟩ :: (.b true :: (.b true :: (.b true :: (.a ⟨bv r53_6, []⟩ :: (.b true :: (.b true :: (.b true :: (.a ⟨bv r53_8, []⟩ :: (.b true :: (.b true :: (rp 12 (.b false) []))))))))))))) (.c (Asks.of (C := Meets Try.prog) (raft_May.meets fu j51_2 _ h53_2)) (.c (Asks.of (C := Meets Try.prog) (diwanref11_May.meets fu j51_2 _ h53_4)) (.r 3 b53_5 (.c (Asks.of (C := Meets Try.prog) (raft_Same.meets fu j51_2 r8_3 _ h53_7)) (.r 3 b53_5 (.c (Asks.of (C := Meets Try.prog) (diwanref11_Same.meets fu j51_2 r8_3 _ h53_9)) (.r 2 b53_5 (.r 8 b53_10 (.r 4 rF (.c rT .n)))))))))) ?_
      refine WK.weak (l := [Tm 6 (bv false)]) (wk_of (by kernel_rfl)) ?_
      refine kRt ?_
      have h_ := some_inj h
      subst h_
      exact kFr
    ·refine kRs 0 [Tm 6 (bv false)] (.a ⟨bv r53_1, []⟩ :: (.a ⟨bv r53_3, []⟩ :: (rp 20 (.b false) []))) (.c (Asks.of (C := Meets Try.prog) (raft_May.meets fu j51_2 _ h53_2)) (.c (Asks.of (C := Meets Try.prog) (diwanref11_May.meets fu j51_2 _ h53_4)) (.r 8 b53_5 (.r 12 rF (.c rT .n))))) ?_
     refine WK.weak (l := [Tm 6 (bv false)]) (wk_of (by kernel_rfl)) ?_
     refine kRt ?_
     have h_ := some_inj h
     subst h_
     exact kFr
   clear hk51
   refine kSq ?_
   refine kRs 63 [Tm 21 (.data (.val (.int .u8 (Int.tmod which 14))))] [] (.c rT .n) ?_
   refine kBk 0 ?_
   refine kRs 127 [Tm 26 (bv ((Int.tmod which 14) == 0))] [] .n ?_
   rcases br_inv h with ⟨b12_0, h⟩ | ⟨b12_0, h⟩
   ·refine kCt b12_0 ?_
    refine kRc 108 [Ob 8 (TRaft.ob_000001000111 (TRaft.mk to r8_3.Nodes r8_3.Wait r8_3.Term r8_3.Vote r8_3.Log r8_3.Commit r8_3.Role r8_3.Leader r8_3.Votes r8_3.Next r8_3.Match r8_3.Clock))] [] .n (cR (cR (cR (cR (cR (cR bd3)))))) [] ?_
    refine WK.shareO (i := 8) (cc := 10) (l' := [Tm 1 (.data (.val (.int .u8 which))), Tm 7 (.ptr 7 0), Tm 8 (.ptr 8 0), Ob 7 (TRaft.ob r8_3), Ob 8 (TRaft.ob_000001000101 (TRaft.mk to r8_3.Nodes r8_3.Wait r8_3.Term r8_3.Vote r8_3.Log r8_3.Commit r8_3.Role r8_3.Leader r8_3.Votes r8_3.Next r8_3.Match r8_3.Clock))]) (by kernel_rfl) (by kernel_rfl) (by kernel_rfl) ?_
    exact kWk (Jk51 (TRaft.mk to r8_3.Nodes r8_3.Wait r8_3.Term r8_3.Vote r8_3.Log r8_3.Commit r8_3.Role r8_3.Leader r8_3.Votes r8_3.Next r8_3.Match r8_3.Clock) h)
   ·refine kCe b12_0 ?_
    refine kRs 254 [Tm 30 (bv ((Int.tmod which 14) == 1))] [] .n ?_
    rcases br_inv h with ⟨b15_0, h⟩ | ⟨b15_0, h⟩
    ·refine kCt b15_0 ?_
     refine kRc 108 [Ob 8 (TRaft.ob_000001000111 (TRaft.mk r8_3.Me to r8_3.Wait r8_3.Term r8_3.Vote r8_3.Log r8_3.Commit r8_3.Role r8_3.Leader r8_3.Votes r8_3.Next r8_3.Match r8_3.Clock))] [] .n (cR (cR (cR (cR (cR (cR bd3)))))) [] ?_
     refine WK.shareO (i := 8) (cc := 10) (l' := [Tm 1 (.data (.val (.int .u8 which))), Tm 7 (.ptr 7 0), Tm 8 (.ptr 8 0), Ob 7 (TRaft.ob r8_3), Ob 8 (TRaft.ob_000001000101 (TRaft.mk r8_3.Me to r8_3.Wait r8_3.Term r8_3.Vote r8_3.Log r8_3.Commit r8_3.Role r8_3.Leader r8_3.Votes r8_3.Next r8_3.Match r8_3.Clock))]) (by kernel_rfl) (by kernel_rfl) (by kernel_rfl) ?_
     exact kWk (Jk51 (TRaft.mk r8_3.Me to r8_3.Wait r8_3.Term r8_3.Vote r8_3.Log r8_3.Commit r8_3.Role r8_3.Leader r8_3.Votes r8_3.Next r8_3.Match r8_3.Clock) h)
    ·refine kCe b15_0 ?_
     refine kRs 254 [Tm 34 (bv ((Int.tmod which 14) == 2))] [] .n ?_
     rcases br_inv h with ⟨b18_0, h⟩ | ⟨b18_0, h⟩
     ·refine kCt b18_0 ?_
      refine kRc 108 [Ob 8 (TRaft.ob_000001000111 (TRaft.mk r8_3.Me r8_3.Nodes to r8_3.Term r8_3.Vote r8_3.Log r8_3.Commit r8_3.Role r8_3.Leader r8_3.Votes r8_3.Next r8_3.Match r8_3.Clock))] [] .n (cR (cR (cR (cR (cR (cR bd3)))))) [] ?_
      refine WK.shareO (i := 8) (cc := 10) (l' := [Tm 1 (.data (.val (.int .u8 which))), Tm 7 (.ptr 7 0), Tm 8 (.ptr 8 0), Ob 7 (TRaft.ob r8_3), Ob 8 (TRaft.ob_000001000101 (TRaft.mk r8_3.Me r8_3.Nodes to r8_3.Term r8_3.Vote r8_3.Log r8_3.Commit r8_3.Role r8_3.Leader r8_3.Votes r8_3.Next r8_3.Match r8_3.Clock))]) (by kernel_rfl) (by kernel_rfl) (by kernel_rfl) ?_
      exact kWk (Jk51 (TRaft.mk r8_3.Me r8_3.Nodes to r8_3.Term r8_3.Vote r8_3.Log r8_3.Commit r8_3.Role r8_3.Leader r8_3.Votes r8_3.Next r8_3.Match r8_3.Clock) h)
     ·refine kCe b18_0 ?_
      refine kRs 254 [Tm 38 (bv ((Int.tmod which 14) == 3))] [] .n ?_
      rcases br_inv h with ⟨b21_0, h⟩ | ⟨b21_0, h⟩
      ·refine kCt b21_0 ?_
       refine kRc 108 [Ob 8 (TRaft.ob_000001000111 (TRaft.mk r8_3.Me r8_3.Nodes r8_3.Wait to r8_3.Vote r8_3.Log r8_3.Commit r8_3.Role r8_3.Leader r8_3.Votes r8_3.Next r8_3.Match r8_3.Clock))] [] .n (cR (cR (cR (cR (cR (cR bd3)))))) [] ?_
       refine WK.shareO (i := 8) (cc := 10) (l' := [Tm 1 (.data (.val (.int .u8 which))), Tm 7 (.ptr 7 0), Tm 8 (.ptr 8 0), Ob 7 (TRaft.ob r8_3), Ob 8 (TRaft.ob_000001000101 (TRaft.mk r8_3.Me r8_3.Nodes r8_3.Wait to r8_3.Vote r8_3.Log r8_3.Commit r8_3.Role r8_3.Leader r8_3.Votes r8_3.Next r8_3.Match r8_3.Clock))]) (by kernel_rfl) (by kernel_rfl) (by kernel_rfl) ?_
       exact kWk (Jk51 (TRaft.mk r8_3.Me r8_3.Nodes r8_3.Wait to r8_3.Vote r8_3.Log r8_3.Commit r8_3.Role r8_3.Leader r8_3.Votes r8_3.Next r8_3.Match r8_3.Clock) h)
      ·refine kCe b21_0 ?_
       refine kRs 254 [Tm 42 (bv ((Int.tmod which 14) == 4))] [] .n ?_
       rcases br_inv h with ⟨b24_0, h⟩ | ⟨b24_0, h⟩
       ·refine kCt b24_0 ?_
        refine kRc 108 [Ob 8 (TRaft.ob_000001000111 (TRaft.mk r8_3.Me r8_3.Nodes r8_3.Wait r8_3.Term to r8_3.Log r8_3.Commit r8_3.Role r8_3.Leader r8_3.Votes r8_3.Next r8_3.Match r8_3.Clock))] [] .n (cR (cR (cR (cR (cR (cR bd3)))))) [] ?_
        refine WK.shareO (i := 8) (cc := 10) (l' := [Tm 1 (.data (.val (.int .u8 which))), Tm 7 (.ptr 7 0), Tm 8 (.ptr 8 0), Ob 7 (TRaft.ob r8_3), Ob 8 (TRaft.ob_000001000101 (TRaft.mk r8_3.Me r8_3.Nodes r8_3.Wait r8_3.Term to r8_3.Log r8_3.Commit r8_3.Role r8_3.Leader r8_3.Votes r8_3.Next r8_3.Match r8_3.Clock))]) (by kernel_rfl) (by kernel_rfl) (by kernel_rfl) ?_
        exact kWk (Jk51 (TRaft.mk r8_3.Me r8_3.Nodes r8_3.Wait r8_3.Term to r8_3.Log r8_3.Commit r8_3.Role r8_3.Leader r8_3.Votes r8_3.Next r8_3.Match r8_3.Clock) h)
       ·refine kCe b24_0 ?_
        refine kRs 254 [Tm 46 (bv ((Int.tmod which 14) == 5))] [] .n ?_
        rcases br_inv h with ⟨b27_0, h⟩ | ⟨b27_0, h⟩
        ·refine kCt b27_0 ?_
         refine kRc 108 [Ob 8 (TRaft.ob_000001000111 (TRaft.mk r8_3.Me r8_3.Nodes r8_3.Wait r8_3.Term r8_3.Vote r8_3.Log to r8_3.Role r8_3.Leader r8_3.Votes r8_3.Next r8_3.Match r8_3.Clock))] [] .n (cR (cR (cR (cR (cR (cR bd3)))))) [] ?_
         refine WK.shareO (i := 8) (cc := 10) (l' := [Tm 1 (.data (.val (.int .u8 which))), Tm 7 (.ptr 7 0), Tm 8 (.ptr 8 0), Ob 7 (TRaft.ob r8_3), Ob 8 (TRaft.ob_000001000101 (TRaft.mk r8_3.Me r8_3.Nodes r8_3.Wait r8_3.Term r8_3.Vote r8_3.Log to r8_3.Role r8_3.Leader r8_3.Votes r8_3.Next r8_3.Match r8_3.Clock))]) (by kernel_rfl) (by kernel_rfl) (by kernel_rfl) ?_
         exact kWk (Jk51 (TRaft.mk r8_3.Me r8_3.Nodes r8_3.Wait r8_3.Term r8_3.Vote r8_3.Log to r8_3.Role r8_3.Leader r8_3.Votes r8_3.Next r8_3.Match r8_3.Clock) h)
        ·refine kCe b27_0 ?_
         refine kRs 254 [Tm 50 (bv ((Int.tmod which 14) == 6))] [] .n ?_
         rcases br_inv h with ⟨b30_0, h⟩ | ⟨b30_0, h⟩
         ·refine kCt b30_0 ?_
          refine kRc 108 [Ob 8 (TRaft.ob_000001000111 (TRaft.mk r8_3.Me r8_3.Nodes r8_3.Wait r8_3.Term r8_3.Vote r8_3.Log r8_3.Commit to r8_3.Leader r8_3.Votes r8_3.Next r8_3.Match r8_3.Clock))] [] .n (cR (cR (cR (cR (cR (cR bd3)))))) [] ?_
          refine WK.shareO (i := 8) (cc := 10) (l' := [Tm 1 (.data (.val (.int .u8 which))), Tm 7 (.ptr 7 0), Tm 8 (.ptr 8 0), Ob 7 (TRaft.ob r8_3), Ob 8 (TRaft.ob_000001000101 (TRaft.mk r8_3.Me r8_3.Nodes r8_3.Wait r8_3.Term r8_3.Vote r8_3.Log r8_3.Commit to r8_3.Leader r8_3.Votes r8_3.Next r8_3.Match r8_3.Clock))]) (by kernel_rfl) (by kernel_rfl) (by kernel_rfl) ?_
          exact kWk (Jk51 (TRaft.mk r8_3.Me r8_3.Nodes r8_3.Wait r8_3.Term r8_3.Vote r8_3.Log r8_3.Commit to r8_3.Leader r8_3.Votes r8_3.Next r8_3.Match r8_3.Clock) h)
         ·refine kCe b30_0 ?_
          refine kRs 254 [Tm 54 (bv ((Int.tmod which 14) == 7))] [] .n ?_
          rcases br_inv h with ⟨b33_0, h⟩ | ⟨b33_0, h⟩
          ·refine kCt b33_0 ?_
           refine kRc 108 [Ob 8 (TRaft.ob_000001000111 (TRaft.mk r8_3.Me r8_3.Nodes r8_3.Wait r8_3.Term r8_3.Vote r8_3.Log r8_3.Commit r8_3.Role to r8_3.Votes r8_3.Next r8_3.Match r8_3.Clock))] [] .n (cR (cR (cR (cR (cR (cR bd3)))))) [] ?_
           refine WK.shareO (i := 8) (cc := 10) (l' := [Tm 1 (.data (.val (.int .u8 which))), Tm 7 (.ptr 7 0), Tm 8 (.ptr 8 0), Ob 7 (TRaft.ob r8_3), Ob 8 (TRaft.ob_000001000101 (TRaft.mk r8_3.Me r8_3.Nodes r8_3.Wait r8_3.Term r8_3.Vote r8_3.Log r8_3.Commit r8_3.Role to r8_3.Votes r8_3.Next r8_3.Match r8_3.Clock))]) (by kernel_rfl) (by kernel_rfl) (by kernel_rfl) ?_
           exact kWk (Jk51 (TRaft.mk r8_3.Me r8_3.Nodes r8_3.Wait r8_3.Term r8_3.Vote r8_3.Log r8_3.Commit r8_3.Role to r8_3.Votes r8_3.Next r8_3.Match r8_3.Clock) h)
          ·refine kCe b33_0 ?_
           refine kRs 254 [Tm 58 (bv ((Int.tmod which 14) == 8))] [] .n ?_
           rcases br_inv h with ⟨b36_0, h⟩ | ⟨b36_0, h⟩
           ·refine kCt b36_0 ?_
            obtain ⟨c37_1, h⟩ := gd_inv h
            refine kRc 108 [Ob 8 (TRaft.ob_000001000111 (TRaft.mk r8_3.Me r8_3.Nodes r8_3.Wait r8_3.Term r8_3.Vote r8_3.Log r8_3.Commit r8_3.Role r8_3.Leader (r8_3.Votes ++ ([true] : List Bool)) r8_3.Next r8_3.Match r8_3.Clock))] [.s (.t 63) [.data (.slc true none 1 (List.map e_b (r8_3.Votes ++ ([true] : List Bool))))]] (.c (c_al (e := e_b) (f := e_b) c37_1) (.c (congrArg (fun d : DV => [AV.data d]) (c_app (e := e_b) (s := 1) (l := r8_3.Votes) (m := ([true] : List Bool)))) .n)) (cR (cR (cR (cR (cR (cR bd3)))))) [] ?_
            refine WK.shareO (i := 8) (cc := 10) (l' := [Tm 1 (.data (.val (.int .u8 which))), Tm 7 (.ptr 7 0), Tm 8 (.ptr 8 0), Ob 7 (TRaft.ob r8_3), Ob 8 (TRaft.ob_000001000101 (TRaft.mk r8_3.Me r8_3.Nodes r8_3.Wait r8_3.Term r8_3.Vote r8_3.Log r8_3.Commit r8_3.Role r8_3.Leader (r8_3.Votes ++ ([true] : List Bool)) r8_3.Next r8_3.Match r8_3.Clock))]) (by kernel_rfl) (by kernel_rfl) (by kernel_rfl) ?_
            exact kWk (Jk51 (TRaft.mk r8_3.Me r8_3.Nodes r8_3.Wait r8_3.Term r8_3.Vote r8_3.Log r8_3.Commit r8_3.Role r8_3.Leader (r8_3.Votes ++ ([true] : List Bool)) r8_3.Next r8_3.Match r8_3.Clock) h)
           ·refine kCe b36_0 ?_
            refine kRs 254 [Tm 65 (bv ((Int.tmod which 14) == 9))] [] .n ?_
            rcases br_inv h with ⟨b39_0, h⟩ | ⟨b39_0, h⟩
            ·refine kCt b39_0 ?_
             obtain ⟨c40_1, h⟩ := gd_inv h
             refine kRc 108 [Ob 8 (TRaft.ob_000001000101 (TRaft.mk r8_3.Me r8_3.Nodes r8_3.Wait r8_3.Term r8_3.Vote r8_3.Log r8_3.Commit r8_3.Role r8_3.Leader r8_3.Votes (List.drop (1 : Int).toNat r8_3.Next) r8_3.Match r8_3.Clock))] [.s (.t 69) [.data (.slc false none 1 (List.map e_i64 (List.drop (1 : Int).toNat r8_3.Next)))]] (.c (c_cbL (e := e_i64) c40_1) (.c (congrArg (fun d : DV => [AV.data d]) (c_cutL (own := false) (nl := none) (s := 1) (e := e_i64) (l := r8_3.Next) (lo := (1 : Int).toNat))) .n)) (cR (cR (cR (cR (cR (cR bd3)))))) [] ?_
             exact kWk (Jk51 (TRaft.mk r8_3.Me r8_3.Nodes r8_3.Wait r8_3.Term r8_3.Vote r8_3.Log r8_3.Commit r8_3.Role r8_3.Leader r8_3.Votes (List.drop (1 : Int).toNat r8_3.Next) r8_3.Match r8_3.Clock) h)
            ·refine kCe b39_0 ?_
             refine kRs 254 [Tm 71 (bv ((Int.tmod which 14) == 10))] [] .n ?_
             rcases br_inv h with ⟨b42_0, h⟩ | ⟨b42_0, h⟩
             ·refine kCt b42_0 ?_
              obtain ⟨c43_1, h⟩ := gd_inv h
              refine kRc 108 [Ob 8 (TRaft.ob_000001000111 (TRaft.mk r8_3.Me r8_3.Nodes r8_3.Wait r8_3.Term r8_3.Vote r8_3.Log r8_3.Commit r8_3.Role r8_3.Leader r8_3.Votes r8_3.Next (r8_3.Match ++ ([0] : List Int)) r8_3.Clock))] [.s (.t 76) [.data (.slc true none 1 (List.map e_i64 (r8_3.Match ++ ([0] : List Int))))]] (.c (c_al (e := e_i64) (f := e_i64) c43_1) (.c (congrArg (fun d : DV => [AV.data d]) (c_app (e := e_i64) (s := 1) (l := r8_3.Match) (m := ([0] : List Int)))) .n)) (cR (cR (cR (cR (cR (cR bd3)))))) [] ?_
              refine WK.shareO (i := 8) (cc := 10) (l' := [Tm 1 (.data (.val (.int .u8 which))), Tm 7 (.ptr 7 0), Tm 8 (.ptr 8 0), Ob 7 (TRaft.ob r8_3), Ob 8 (TRaft.ob_000001000101 (TRaft.mk r8_3.Me r8_3.Nodes r8_3.Wait r8_3.Term r8_3.Vote r8_3.Log r8_3.Commit r8_3.Role r8_3.Leader r8_3.Votes r8_3.Next (r8_3.Match ++ ([0] : List Int)) r8_3.Clock))]) (by kernel_rfl) (by kernel_rfl) (by kernel_rfl) ?_
              exact kWk (Jk51 (TRaft.mk r8_3.Me r8_3.Nodes r8_3.Wait r8_3.Term r8_3.Vote r8_3.Log r8_3.Commit r8_3.Role r8_3.Leader r8_3.Votes r8_3.Next (r8_3.Match ++ ([0] : List Int)) r8_3.Clock) h)
             ·refine kCe b42_0 ?_
              refine kRs 254 [Tm 78 (bv ((Int.tmod which 14) == 11))] [] .n ?_
              rcases br_inv h with ⟨b45_0, h⟩ | ⟨b45_0, h⟩
              ·refine kCt b45_0 ?_
               refine kRc 108 [Ob 8 (TRaft.ob_000001000111 (TRaft.mk r8_3.Me r8_3.Nodes r8_3.Wait r8_3.Term r8_3.Vote r8_3.Log r8_3.Commit r8_3.Role r8_3.Leader r8_3.Votes r8_3.Next r8_3.Match to))] [] .n (cR (cR (cR (cR (cR (cR bd3)))))) [] ?_
               refine WK.shareO (i := 8) (cc := 10) (l' := [Tm 1 (.data (.val (.int .u8 which))), Tm 7 (.ptr 7 0), Tm 8 (.ptr 8 0), Ob 7 (TRaft.ob r8_3), Ob 8 (TRaft.ob_000001000101 (TRaft.mk r8_3.Me r8_3.Nodes r8_3.Wait r8_3.Term r8_3.Vote r8_3.Log r8_3.Commit r8_3.Role r8_3.Leader r8_3.Votes r8_3.Next r8_3.Match to))]) (by kernel_rfl) (by kernel_rfl) (by kernel_rfl) ?_
               exact kWk (Jk51 (TRaft.mk r8_3.Me r8_3.Nodes r8_3.Wait r8_3.Term r8_3.Vote r8_3.Log r8_3.Commit r8_3.Role r8_3.Leader r8_3.Votes r8_3.Next r8_3.Match to) h)
              ·refine kCe b45_0 ?_
               refine kRs 252 [Tm 82 (bv ((Int.tmod which 14) == 12))] [] .n ?_
               rcases br_inv h with ⟨b48_0, h⟩ | ⟨b48_0, h⟩
               ·refine kCt b48_0 ?_
                obtain ⟨c49_1, h⟩ := gd_inv h
                refine kRc 54 [Ob 8 (TRaft.ob_000001000111 (TRaft.mk r8_3.Me r8_3.Nodes r8_3.Wait r8_3.Term r8_3.Vote (r8_3.Log ++ ([(TEntry.mk to true (TTxn.mk 0 0 [] []))] : List TEntry)) r8_3.Commit r8_3.Role r8_3.Leader r8_3.Votes r8_3.Next r8_3.Match r8_3.Clock))] [.s (.t 89) [.data (.slc true none 6 (List.map TEntry.en (r8_3.Log ++ ([(TEntry.mk to true (TTxn.mk 0 0 [] []))] : List TEntry))))]] (.c (c_al (e := TEntry.en) (f := TEntry.en) c49_1) (.c (congrArg (fun d : DV => [AV.data d]) (c_app (e := TEntry.en) (s := 6) (l := r8_3.Log) (m := ([(TEntry.mk to true (TTxn.mk 0 0 [] []))] : List TEntry)))) .n)) (cR (cR (cR (cR (cR (cR bd3)))))) [] ?_
                refine WK.shareO (i := 8) (cc := 10) (l' := [Tm 1 (.data (.val (.int .u8 which))), Tm 7 (.ptr 7 0), Tm 8 (.ptr 8 0), Ob 7 (TRaft.ob r8_3), Ob 8 (TRaft.ob_000001000101 (TRaft.mk r8_3.Me r8_3.Nodes r8_3.Wait r8_3.Term r8_3.Vote (r8_3.Log ++ ([(TEntry.mk to true (TTxn.mk 0 0 [] []))] : List TEntry)) r8_3.Commit r8_3.Role r8_3.Leader r8_3.Votes r8_3.Next r8_3.Match r8_3.Clock))]) (by kernel_rfl) (by kernel_rfl) (by kernel_rfl) ?_
                exact kWk (Jk51 (TRaft.mk r8_3.Me r8_3.Nodes r8_3.Wait r8_3.Term r8_3.Vote (r8_3.Log ++ ([(TEntry.mk to true (TTxn.mk 0 0 [] []))] : List TEntry)) r8_3.Commit r8_3.Role r8_3.Leader r8_3.Votes r8_3.Next r8_3.Match r8_3.Clock) h)
               ·refine kCe b48_0 ?_
                obtain ⟨x50_1, a50_2, e50_3, h⟩ := ix_inv h
                refine kRc 54 [Ob 8 (TRaft.ob_000001000111 (TRaft.mk r8_3.Me r8_3.Nodes r8_3.Wait r8_3.Term r8_3.Vote r8_3.Log r8_3.Commit r8_3.Role r8_3.Leader r8_3.Votes r8_3.Next (r8_3.Match.set (0 : Int).toNat to) r8_3.Clock))] [.c (e_i64 x50_1), .s (.o 8) (TRaft.ob_000001000111 (TRaft.mk r8_3.Me r8_3.Nodes r8_3.Wait r8_3.Term r8_3.Vote r8_3.Log r8_3.Commit r8_3.Role r8_3.Leader r8_3.Votes r8_3.Next (r8_3.Match.set (0 : Int).toNat to) r8_3.Clock))] (.c (c_ix (e := e_i64) a50_2 e50_3) (.c (c_el (e := e_i64) e50_3) (.c (congrArg (fun d : DV => (TRaft.ob_000001000111 (TRaft.mk r8_3.Me r8_3.Nodes r8_3.Wait r8_3.Term r8_3.Vote r8_3.Log r8_3.Commit r8_3.Role r8_3.Leader r8_3.Votes r8_3.Next (r8_3.Match.set (0 : Int).toNat to) r8_3.Clock)).set 11 (AV.data d)) (c_set (e := e_i64) (s := 1) (nl := none) (l := r8_3.Match) (i := (0 : Int).toNat) (x := to))) .n))) (cR (cR (cR (cR (cR (cR bd3)))))) [] ?_
                refine WK.shareO (i := 8) (cc := 10) (l' := [Tm 1 (.data (.val (.int .u8 which))), Tm 7 (.ptr 7 0), Tm 8 (.ptr 8 0), Ob 7 (TRaft.ob r8_3), Ob 8 (TRaft.ob_000001000101 (TRaft.mk r8_3.Me r8_3.Nodes r8_3.Wait r8_3.Term r8_3.Vote r8_3.Log r8_3.Commit r8_3.Role r8_3.Leader r8_3.Votes r8_3.Next (r8_3.Match.set (0 : Int).toNat to) r8_3.Clock))]) (by kernel_rfl) (by kernel_rfl) (by kernel_rfl) ?_
                exact kWk (Jk51 (TRaft.mk r8_3.Me r8_3.Nodes r8_3.Wait r8_3.Term r8_3.Vote r8_3.Log r8_3.Commit r8_3.Role r8_3.Leader r8_3.Votes r8_3.Next (r8_3.Match.set (0 : Int).toNat to) r8_3.Clock) h)
end Go.Proofs.Ythpokjkbcdfhiaa.Told
