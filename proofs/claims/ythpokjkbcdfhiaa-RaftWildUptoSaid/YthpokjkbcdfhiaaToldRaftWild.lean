/- Functions of the program told as Lean functions, with the walks of their code in the machine by value. -/
import Derived.Test.YthpokjkbcdfhiaaProg
import Derived.Test.YthpokjkbcdfhiaaVam2
import Derived.Test.YthpokjkbcdfhiaaToldRaftWildp1
namespace Go.Proofs.Ythpokjkbcdfhiaa.Told
open Go Go.Proofs Go.Proofs.Ythpokjkbcdfhiaa Go.Proofs.Ythpokjkbcdfhiaa.Vam
set_option linter.unusedVariables false
set_option maxRecDepth 100000
/-- (*diwan/diwanplay.Picks).Log -/
noncomputable def bd40 : Code := (Try.f40.body).getD .skip
def diwanplay_Picks_Log.O : Nat → Nat := fun t => bif ([4, 5, 6, 7, 8, 23, 30, 34] : List Nat).any (Nat.beq t) then 1 else 0
noncomputable def diwanplay_Picks_Log.lp5 (fu : Nat) (l5_0 : Int) : Nat → (List TEntry) → Int → Int → TPicks → Option (List TEntry × TPicks)
  | 0, _, _, _, _ => none
  | n_ + 1, l5_1, l5_2, l5_3, l5_4 =>
  br (decide (l5_3 < l5_0))
   (jn (fun (j11_2 : Int) (j11_4 : TPicks) =>
    bd (diwanplay_Picks_Num 3 j11_4) fun (r12_1, r12_2) =>
    br (!(r12_1 == 0))
     (bd (diwanplay_Picks_Txn fu (w64 (l5_3 + 1)) r12_2) fun (r15_1, r15_2) =>
     gd (decide (l5_1.length + ([(TEntry.mk j11_2 (r12_1 == 0) r15_1)] : List TEntry).length ≤ 4294967296)) <|
     diwanplay_Picks_Log.lp5 fu l5_0 n_ (l5_1 ++ ([(TEntry.mk j11_2 (r12_1 == 0) r15_1)] : List TEntry)) j11_2 (w64 (l5_3 + 1)) r15_2)
     (gd (decide (l5_1.length + ([(TEntry.mk j11_2 (r12_1 == 0) (TTxn.mk 0 0 [] []))] : List TEntry).length ≤ 4294967296)) <|
     diwanplay_Picks_Log.lp5 fu l5_0 n_ (l5_1 ++ ([(TEntry.mk j11_2 (r12_1 == 0) (TTxn.mk 0 0 [] []))] : List TEntry)) j11_2 (w64 (l5_3 + 1)) r12_2)) fun k11 =>
   bd (diwanplay_Picks_Num 4 l5_4) fun (r8_1, r8_2) =>
   br (r8_1 == 0)
    (k11 (w64 (l5_2 + 1)) r8_2)
    (k11 l5_2 r8_2))
   (some (l5_1, l5_4))
noncomputable def diwanplay_Picks_Log.lp5_post (l5_0 : Int) (r_ : (List TEntry × TPicks)) : Wy → St → Prop := fun e τ => match r_ with
  | (y0, y1) => e = .exit 0 ∧ τ = ofL [Tm 5 (.data (.slc true none 6 (List.map TEntry.en y0))), Ob 1000 [.data (.slc false none 1 (List.map e_u8 y1.l)), iv y1.n]]
theorem diwanplay_Picks_Log.lp5_ok (fu : Nat) (l5_0 : Int) : ∀ (n_ : Nat) (l5_1 : List TEntry) (l5_2 : Int) (l5_3 : Int) (l5_4 : TPicks) (r_ : (List TEntry × TPicks)), diwanplay_Picks_Log.lp5 fu l5_0 n_ l5_1 l5_2 l5_3 l5_4 = some r_ → WK Try.prog diwanplay_Picks_Log.O (Ck Try.prog) (cB (cR (cL (cR (cR (cR bd40)))))) [] (ofL [Tm 0 (.ptr 1000 0), Tm 1 (iv l5_0), Tm 5 (.data (.slc true none 6 (List.map TEntry.en l5_1))), Tm 6 (iv l5_2), Tm 7 (iv l5_3), Ob 1000 [.data (.slc false none 1 (List.map e_u8 l5_4.l)), iv l5_4.n]]) (diwanplay_Picks_Log.lp5_post l5_0 r_) := by
 intro n_
 induction n_ with
 | zero => intro l5_1 l5_2 l5_3 l5_4 r_ h; exact no_none h
 | succ n_ ih =>
  intro l5_1 l5_2 l5_3 l5_4 r_ h
  refine kLp ?_
  refine kSq ?_
  refine kRs 63 [Tm 11 (bv (decide (l5_3 < l5_0)))] [] .n ?_
  rcases br_inv h with ⟨b7_0, h⟩ | ⟨b7_0, h⟩
  ·refine kCt b7_0 ?_
   refine kSk ?_
   refine kCd (cR (cB (cB (cR (cL (cR (cR (cR bd40)))))))) [.lp (cB (cR (cL (cR (cR (cR bd40))))))] ?_
   refine kSq ?_
   refine kBk 1 ?_
   obtain ⟨k11, hk11, h⟩ := jn_inv h
   have Jk11 : ∀ (j11_2 : Int) (j11_4 : TPicks), k11 j11_2 j11_4 = some r_ → WK Try.prog diwanplay_Picks_Log.O (Ck Try.prog) (cR (cB (cL (cR (cB (cB (cR (cL (cR (cR (cR bd40))))))))))) [.blk 1, .seq (cR (cR (cB (cB (cR (cL (cR (cR (cR bd40))))))))), .lp (cB (cR (cL (cR (cR (cR bd40))))))] (ofL [Tm 0 (.ptr 1000 0), Tm 1 (iv l5_0), Tm 5 (.data (.slc true none 6 (List.map TEntry.en l5_1))), Tm 6 (iv j11_2), Tm 7 (iv l5_3), Ob 1000 [.data (.slc false none 1 (List.map e_u8 j11_4.l)), iv j11_4.n]]) (diwanplay_Picks_Log.lp5_post l5_0 r_) := by
    intro j11_2 j11_4 h
    rw [hk11] at h
    obtain ⟨⟨r12_1, r12_2⟩, h12_3, h⟩ := bd_inv h
    refine kRs 31 [Tm 8 (.ptr 8 0), Ob 8 (TEntry.ob_000011 (TEntry.mk j11_2 (r12_1 == 0) (TTxn.mk 0 0 [] []))), Ob 1000 [.data (.slc false none 1 (List.map e_u8 r12_2.l)), iv r12_2.n]] [.a ⟨iv r12_1, [[.data (.slc false none 1 (List.map e_u8 r12_2.l)), iv r12_2.n]]⟩] (.c (Asks.of (C := Meets Try.prog) (diwanplay_Picks_Num.meets 3 j11_4 _ _ h12_3)) .n) ?_
    refine kSq ?_
    refine kRs 255 [Tm 26 (bv (!(r12_1 == 0)))] [] .n ?_
    rcases br_inv h with ⟨b14_0, h⟩ | ⟨b14_0, h⟩
    ·refine kCt b14_0 ?_
     obtain ⟨⟨r15_1, r15_2⟩, h15_3, h⟩ := bd_inv h
     refine kRc 498 [Ob 8 (TEntry.ob_000011 (TEntry.mk j11_2 (r12_1 == 0) r15_1)), Ob 1000 [.data (.slc false none 1 (List.map e_u8 r15_2.l)), iv r15_2.n]] [.a ⟨.data (TTxn.ag_0011 r15_1), [[.data (.slc false none 1 (List.map e_u8 r15_2.l)), iv r15_2.n]]⟩] (.c (Asks.of (C := Meets Try.prog) (diwanplay_Picks_Txn.meets fu (w64 (l5_3 + 1)) r12_2 _ _ h15_3)) .n) (cR (cR (cR (cB (cL (cR (cB (cB (cR (cL (cR (cR (cR bd40))))))))))))) [.blk 1, .seq (cR (cR (cB (cB (cR (cL (cR (cR (cR bd40))))))))), .lp (cB (cR (cL (cR (cR (cR bd40))))))] ?_
     obtain ⟨c16_1, h⟩ := gd_inv h
     refine kRc 218 [Tm 5 (.data (.slc true none 6 (List.map TEntry.en (l5_1 ++ ([(TEntry.mk j11_2 (r12_1 == 0) r15_1)] : List TEntry)))))] [.s (.t 35) [.data (.slc true none 6 (List.map TEntry.en (l5_1 ++ ([(TEntry.mk j11_2 (r12_1 == 0) r15_1)] : List TEntry))))]] (.c (c_al (e := TEntry.en) (f := TEntry.en) c16_1) (.c (congrArg (fun d : DV => [AV.data d]) (c_app (e := TEntry.en) (s := 6) (l := l5_1) (m := ([(TEntry.mk j11_2 (r12_1 == 0) r15_1)] : List TEntry)))) .n)) (cR (cR (cB (cB (cR (cL (cR (cR (cR bd40))))))))) [.lp (cB (cR (cL (cR (cR (cR bd40))))))] ?_
     refine kRc 31 [Tm 7 (iv (w64 (l5_3 + 1)))] [] .n (cB (cR (cL (cR (cR (cR bd40)))))) [] ?_
     exact kWk (ih (l5_1 ++ ([(TEntry.mk j11_2 (r12_1 == 0) r15_1)] : List TEntry)) j11_2 (w64 (l5_3 + 1)) r15_2 _ h)
    ·refine kCe b14_0 ?_
     refine kSk ?_
     refine kCd (cR (cR (cR (cB (cL (cR (cB (cB (cR (cL (cR (cR (cR bd40))))))))))))) [.blk 1, .seq (cR (cR (cB (cB (cR (cL (cR (cR (cR bd40))))))))), .lp (cB (cR (cL (cR (cR (cR bd40))))))] ?_
     obtain ⟨c18_1, h⟩ := gd_inv h
     refine kRc 440 [Tm 5 (.data (.slc true none 6 (List.map TEntry.en (l5_1 ++ ([(TEntry.mk j11_2 (r12_1 == 0) (TTxn.mk 0 0 [] []))] : List TEntry)))))] [.s (.t 35) [.data (.slc true none 6 (List.map TEntry.en (l5_1 ++ ([(TEntry.mk j11_2 (r12_1 == 0) (TTxn.mk 0 0 [] []))] : List TEntry))))]] (.c (c_al (e := TEntry.en) (f := TEntry.en) c18_1) (.c (congrArg (fun d : DV => [AV.data d]) (c_app (e := TEntry.en) (s := 6) (l := l5_1) (m := ([(TEntry.mk j11_2 (r12_1 == 0) (TTxn.mk 0 0 [] []))] : List TEntry)))) .n)) (cR (cR (cB (cB (cR (cL (cR (cR (cR bd40))))))))) [.lp (cB (cR (cL (cR (cR (cR bd40))))))] ?_
     refine kRc 31 [Tm 7 (iv (w64 (l5_3 + 1)))] [] .n (cB (cR (cL (cR (cR (cR bd40)))))) [] ?_
     exact kWk (ih (l5_1 ++ ([(TEntry.mk j11_2 (r12_1 == 0) (TTxn.mk 0 0 [] []))] : List TEntry)) j11_2 (w64 (l5_3 + 1)) r12_2 _ h)
   clear hk11
   refine kSq ?_
   obtain ⟨⟨r8_1, r8_2⟩, h8_3, h⟩ := bd_inv h
   refine kRs 62 [Tm 16 (bv (r8_1 == 0)), Ob 1000 [.data (.slc false none 1 (List.map e_u8 r8_2.l)), iv r8_2.n]] [.a ⟨iv r8_1, [[.data (.slc false none 1 (List.map e_u8 r8_2.l)), iv r8_2.n]]⟩] (.c (Asks.of (C := Meets Try.prog) (diwanplay_Picks_Num.meets 4 l5_4 _ _ h8_3)) .n) ?_
   rcases br_inv h with ⟨b9_0, h⟩ | ⟨b9_0, h⟩
   ·refine kCt b9_0 ?_
    refine kRc 94 [Tm 6 (iv (w64 (l5_2 + 1)))] [] .n (cR (cB (cL (cR (cB (cB (cR (cL (cR (cR (cR bd40))))))))))) [.blk 1, .seq (cR (cR (cB (cB (cR (cL (cR (cR (cR bd40))))))))), .lp (cB (cR (cL (cR (cR (cR bd40))))))] ?_
    exact kWk (Jk11 (w64 (l5_2 + 1)) r8_2 h)
   ·refine kCe b9_0 ?_
    refine kSk ?_
    refine kCd (cR (cB (cL (cR (cB (cB (cR (cL (cR (cR (cR bd40))))))))))) [.blk 1, .seq (cR (cR (cB (cB (cR (cL (cR (cR (cR bd40))))))))), .lp (cB (cR (cL (cR (cR (cR bd40))))))] ?_
    exact kWk (Jk11 l5_2 r8_2 h)
  ·refine kCe b7_0 ?_
   cases some_inj h
   refine kWo ?_
   refine kXt 0 ?_
   exact kOut
noncomputable def diwanplay_Picks_Log (fu : Nat) (n_v : Int) (o0_v : TPicks) : Option (List TEntry × TPicks) :=
 bd (diwanplay_Picks_Log.lp5 fu n_v fu [] 1 0 o0_v) fun (y20_0, y20_1) =>
 some (y20_0, y20_1)
theorem diwanplay_Picks_Log.meets (fu : Nat) (n_v : Int) (o0_v : TPicks) (z0 : List TEntry) (z1 : TPicks) (h : diwanplay_Picks_Log fu n_v o0_v = some (z0, z1)) : Meets Try.prog ⟨40, [.ptr 1000 0, iv n_v], [[.data (.slc false none 1 (List.map e_u8 o0_v.l)), iv o0_v.n]]⟩ ⟨.data (.slc true none 6 (List.map TEntry.en z0)), [[.data (.slc false none 1 (List.map e_u8 z1.l)), iv z1.n]]⟩ := by
 refine meets_of (O := diwanplay_Picks_Log.O) hmix (fn := Try.f40) (code := bd40) (by kernel_rfl) ?_
 refine WK.weak (l := [Tm 0 (.ptr 1000 0), Tm 1 (iv n_v), Ob 1000 [.data (.slc false none 1 (List.map e_u8 o0_v.l)), iv o0_v.n]]) (wk_of (by kernel_rfl)) ?_
 unfold diwanplay_Picks_Log at h
 refine kRs 7 [] [] .n ?_
 refine kRs 7 [Tm 5 (.data (.slc true (some true) 6 (List.map TEntry.en [])))] [] .n ?_
 refine kRs 15 [Tm 6 (iv 1)] [] .n ?_
 refine kSq ?_
 refine kRs 31 [Tm 7 (iv 0)] [] .n ?_
 refine kBk 0 ?_
 obtain ⟨o20, ho20, h⟩ := bd_inv h
 refine kUs (diwanplay_Picks_Log.lp5_ok fu n_v _ [] 1 0 o0_v _ ho20) ?_
 intro e_ τ_ hp_
 obtain ⟨y20_0, y20_1⟩ := o20
 obtain ⟨rfl, rfl⟩ := hp_
 refine kCd (cR (cR (cR (cR bd40)))) [] ?_
 refine kRs 2 [Tm 4 (.data (.slc true none 6 (List.map TEntry.en y20_0)))] [] .n ?_
 refine WK.weak (l := [Tm 4 (.data (.slc true none 6 (List.map TEntry.en y20_0))), Ob 1000 [.data (.slc false none 1 (List.map e_u8 y20_1.l)), iv y20_1.n]]) (wk_of (by kernel_rfl)) ?_
 refine kRt ?_
 have h_0 := some_inj h
 obtain ⟨g_1, h_1⟩ := Prod.mk.inj h_0
 subst g_1
 subst h_1
 exact kFr
/-- (*diwan/diwanplay.Picks).Raft -/
noncomputable def bd14 : Code := (Try.f14.body).getD .skip
def diwanplay_Picks_Raft.O : Nat → Nat := fun t => bif ([2, 3, 4, 5, 17, 21, 25, 45, 52, 55, 59, 63, 67, 85, 95, 109, 116, 130, 133] : List Nat).any (Nat.beq t) then 1 else bif ([131] : List Nat).any (Nat.beq t) then 222 else 0
noncomputable def diwanplay_Picks_Raft.lp13 (fu : Nat) (l13_0 : Int) (l13_2 : TRaft) : Nat → Int → TRaft → TPicks → Option (TRaft × TPicks)
  | 0, _, _, _ => none
  | n_ + 1, l13_1, l13_3, l13_4 =>
  br (decide (l13_1 < l13_0))
   (bd (diwanplay_Picks_Num (w64 ((l13_3.Log.length : Int) + 1)) l13_4) fun (r16_1, r16_2) =>
   ix l13_3.Match l13_1 fun x16_4 =>
   ix (l13_3.Match.set l13_1.toNat r16_1) l13_1 fun x17_1 =>
   ix l13_3.Next l13_1 fun x17_4 =>
   jn (fun (j21_3 : TRaft) (j21_4 : TPicks) =>
    bd (diwanplay_Picks_Num 2 j21_4) fun (r22_1, r22_2) =>
    ix j21_3.Votes l13_1 fun x22_4 =>
    diwanplay_Picks_Raft.lp13 fu l13_0 l13_2 n_ (w64 (l13_1 + 1)) (TRaft.mk j21_3.Me j21_3.Nodes j21_3.Wait j21_3.Term j21_3.Vote j21_3.Log j21_3.Commit j21_3.Role j21_3.Leader (j21_3.Votes.set l13_1.toNat (r22_1 == 0)) j21_3.Next j21_3.Match j21_3.Clock) r22_2) fun k21 =>
   bd (diwanplay_Picks_Num 3 r16_2) fun (r18_1, r18_2) =>
   br (r18_1 == 0)
    (bd (diwanplay_Picks_Num (w64 ((l13_3.Log.length : Int) + 1)) r18_2) fun (r20_1, r20_2) =>
    ix (l13_3.Next.set l13_1.toNat (w64 (x17_1 + 1))) l13_1 fun x20_4 =>
    k21 (TRaft.mk l13_3.Me l13_3.Nodes l13_3.Wait l13_3.Term l13_3.Vote l13_3.Log l13_3.Commit l13_3.Role l13_3.Leader l13_3.Votes ((l13_3.Next.set l13_1.toNat (w64 (x17_1 + 1))).set l13_1.toNat (w64 (1 + r20_1))) (l13_3.Match.set l13_1.toNat r16_1) l13_3.Clock) r20_2)
    (k21 (TRaft.mk l13_3.Me l13_3.Nodes l13_3.Wait l13_3.Term l13_3.Vote l13_3.Log l13_3.Commit l13_3.Role l13_3.Leader l13_3.Votes (l13_3.Next.set l13_1.toNat (w64 (x17_1 + 1))) (l13_3.Match.set l13_1.toNat r16_1) l13_3.Clock) r18_2))
   (some (l13_3, l13_4))
noncomputable def diwanplay_Picks_Raft.lp13_post (l13_0 : Int) (l13_2 : TRaft) (r_ : (TRaft × TPicks)) : Wy → St → Prop := fun e τ => match r_ with
  | (y0, y1) => e = .exit 0 ∧ τ = ofL [Tm 2 (.ptr 2 0), Tm 4 (.ptr 4 0), Ob 2 (TRaft.ob_000001000111 l13_2), Ob 4 (TRaft.ob_000001000111 y0), Ob 1000 [.data (.slc false none 1 (List.map e_u8 y1.l)), iv y1.n]]
theorem diwanplay_Picks_Raft.lp13_ok (fu : Nat) (l13_0 : Int) (l13_2 : TRaft) : ∀ (n_ : Nat) (l13_1 : Int) (l13_3 : TRaft) (l13_4 : TPicks) (r_ : (TRaft × TPicks)), diwanplay_Picks_Raft.lp13 fu l13_0 l13_2 n_ l13_1 l13_3 l13_4 = some r_ → WK Try.prog diwanplay_Picks_Raft.O (Ck Try.prog) (cB (cR (cL (cR (cR (cR (cR (cR (cR (cR (cR bd14))))))))))) [] (ofL [Tm 0 (.ptr 1000 0), Tm 2 (.ptr 2 0), Tm 3 (iv l13_0), Tm 4 (.ptr 4 0), Tm 5 (iv l13_1), Ob 2 (TRaft.ob_000001000111 l13_2), Ob 4 (TRaft.ob_000001000111 l13_3), Ob 1000 [.data (.slc false none 1 (List.map e_u8 l13_4.l)), iv l13_4.n]]) (diwanplay_Picks_Raft.lp13_post l13_0 l13_2 r_) := by
 intro n_
 induction n_ with
 | zero => intro l13_1 l13_3 l13_4 r_ h; exact no_none h
 | succ n_ ih =>
  intro l13_1 l13_3 l13_4 r_ h
  refine kLp ?_
  refine kSq ?_
  refine kRs 255 [Tm 74 (bv (decide (l13_1 < l13_0)))] [] .n ?_
  rcases br_inv h with ⟨b15_0, h⟩ | ⟨b15_0, h⟩
  ·refine kCt b15_0 ?_
   refine kSk ?_
   refine kCd (cR (cB (cB (cR (cL (cR (cR (cR (cR (cR (cR (cR (cR bd14))))))))))))) [.lp (cB (cR (cL (cR (cR (cR (cR (cR (cR (cR (cR bd14)))))))))))] ?_
   refine kSq ?_
   refine kBk 1 ?_
   obtain ⟨⟨r16_1, r16_2⟩, h16_3, h⟩ := bd_inv h
   obtain ⟨x16_4, a16_5, e16_6, h⟩ := ix_inv h
   refine kRs 126 [Ob 4 (TRaft.ob_000001000111 (TRaft.mk l13_3.Me l13_3.Nodes l13_3.Wait l13_3.Term l13_3.Vote l13_3.Log l13_3.Commit l13_3.Role l13_3.Leader l13_3.Votes l13_3.Next (l13_3.Match.set l13_1.toNat r16_1) l13_3.Clock)), Ob 1000 [.data (.slc false none 1 (List.map e_u8 r16_2.l)), iv r16_2.n]] [.s (.t 83) [iv (l13_3.Log.length : Int)], .a ⟨iv r16_1, [[.data (.slc false none 1 (List.map e_u8 r16_2.l)), iv r16_2.n]]⟩, .c (e_i64 x16_4), .s (.o 4) (TRaft.ob_000001000111 (TRaft.mk l13_3.Me l13_3.Nodes l13_3.Wait l13_3.Term l13_3.Vote l13_3.Log l13_3.Commit l13_3.Role l13_3.Leader l13_3.Votes l13_3.Next (l13_3.Match.set l13_1.toNat r16_1) l13_3.Clock))] (.c (c_len (e := TEntry.en) (l := l13_3.Log)) (.c (Asks.of (C := Meets Try.prog) (diwanplay_Picks_Num.meets (w64 ((l13_3.Log.length : Int) + 1)) l13_4 _ _ h16_3)) (.c (c_ix (e := e_i64) a16_5 e16_6) (.c (c_el (e := e_i64) e16_6) (.c (congrArg (fun d : DV => (TRaft.ob_000001000111 (TRaft.mk l13_3.Me l13_3.Nodes l13_3.Wait l13_3.Term l13_3.Vote l13_3.Log l13_3.Commit l13_3.Role l13_3.Leader l13_3.Votes l13_3.Next (l13_3.Match.set l13_1.toNat r16_1) l13_3.Clock)).set 11 (AV.data d)) (c_set (e := e_i64) (s := 1) (nl := none) (l := l13_3.Match) (i := l13_1.toNat) (x := r16_1))) (.c rT .n)))))) ?_
   obtain ⟨x17_1, a17_2, e17_3, h⟩ := ix_inv h
   obtain ⟨x17_4, a17_5, e17_6, h⟩ := ix_inv h
   refine kRs 254 [Ob 4 (TRaft.ob_000001000111 (TRaft.mk l13_3.Me l13_3.Nodes l13_3.Wait l13_3.Term l13_3.Vote l13_3.Log l13_3.Commit l13_3.Role l13_3.Leader l13_3.Votes (l13_3.Next.set l13_1.toNat (w64 (x17_1 + 1))) (l13_3.Match.set l13_1.toNat r16_1) l13_3.Clock))] [.c (e_i64 x17_1), .c (e_i64 x17_4), .s (.o 4) (TRaft.ob_000001000111 (TRaft.mk l13_3.Me l13_3.Nodes l13_3.Wait l13_3.Term l13_3.Vote l13_3.Log l13_3.Commit l13_3.Role l13_3.Leader l13_3.Votes (l13_3.Next.set l13_1.toNat (w64 (x17_1 + 1))) (l13_3.Match.set l13_1.toNat r16_1) l13_3.Clock))] (.c (c_ix (e := e_i64) a17_2 e17_3) (.c (c_el (e := e_i64) e17_3) (.c (c_ix (e := e_i64) a17_5 e17_6) (.c (c_el (e := e_i64) e17_6) (.c (congrArg (fun d : DV => (TRaft.ob_000001000111 (TRaft.mk l13_3.Me l13_3.Nodes l13_3.Wait l13_3.Term l13_3.Vote l13_3.Log l13_3.Commit l13_3.Role l13_3.Leader l13_3.Votes (l13_3.Next.set l13_1.toNat (w64 (x17_1 + 1))) (l13_3.Match.set l13_1.toNat r16_1) l13_3.Clock)).set 10 (AV.data d)) (c_set (e := e_i64) (s := 1) (nl := none) (l := l13_3.Next) (i := l13_1.toNat) (x := (w64 (x17_1 + 1))))) (.c rT .n)))))) ?_
   obtain ⟨k21, hk21, h⟩ := jn_inv h
   have Jk21 : ∀ (j21_3 : TRaft) (j21_4 : TPicks), k21 j21_3 j21_4 = some r_ → WK Try.prog diwanplay_Picks_Raft.O (Ck Try.prog) (cR (cR (cR (cB (cL (cR (cB (cB (cR (cL (cR (cR (cR (cR (cR (cR (cR (cR bd14)))))))))))))))))) [.blk 1, .seq (cR (cR (cB (cB (cR (cL (cR (cR (cR (cR (cR (cR (cR (cR bd14)))))))))))))), .lp (cB (cR (cL (cR (cR (cR (cR (cR (cR (cR (cR bd14)))))))))))] (ofL [Tm 0 (.ptr 1000 0), Tm 2 (.ptr 2 0), Tm 3 (iv l13_0), Tm 4 (.ptr 4 0), Tm 5 (iv l13_1), Ob 2 (TRaft.ob_000001000111 l13_2), Ob 4 (TRaft.ob_000001000111 j21_3), Ob 1000 [.data (.slc false none 1 (List.map e_u8 j21_4.l)), iv j21_4.n]]) (diwanplay_Picks_Raft.lp13_post l13_0 l13_2 r_) := by
    intro j21_3 j21_4 h
    rw [hk21] at h
    obtain ⟨⟨r22_1, r22_2⟩, h22_3, h⟩ := bd_inv h
    obtain ⟨x22_4, a22_5, e22_6, h⟩ := ix_inv h
    refine kRc 63 [Ob 4 (TRaft.ob_000001000111 (TRaft.mk j21_3.Me j21_3.Nodes j21_3.Wait j21_3.Term j21_3.Vote j21_3.Log j21_3.Commit j21_3.Role j21_3.Leader (j21_3.Votes.set l13_1.toNat (r22_1 == 0)) j21_3.Next j21_3.Match j21_3.Clock)), Ob 1000 [.data (.slc false none 1 (List.map e_u8 r22_2.l)), iv r22_2.n]] [.a ⟨iv r22_1, [[.data (.slc false none 1 (List.map e_u8 r22_2.l)), iv r22_2.n]]⟩, .c (e_b x22_4), .s (.o 4) (TRaft.ob_000001000111 (TRaft.mk j21_3.Me j21_3.Nodes j21_3.Wait j21_3.Term j21_3.Vote j21_3.Log j21_3.Commit j21_3.Role j21_3.Leader (j21_3.Votes.set l13_1.toNat (r22_1 == 0)) j21_3.Next j21_3.Match j21_3.Clock))] (.c (Asks.of (C := Meets Try.prog) (diwanplay_Picks_Num.meets 2 j21_4 _ _ h22_3)) (.c (c_ix (e := e_b) a22_5 e22_6) (.c (c_el (e := e_b) e22_6) (.c (congrArg (fun d : DV => (TRaft.ob_000001000111 (TRaft.mk j21_3.Me j21_3.Nodes j21_3.Wait j21_3.Term j21_3.Vote j21_3.Log j21_3.Commit j21_3.Role j21_3.Leader (j21_3.Votes.set l13_1.toNat (r22_1 == 0)) j21_3.Next j21_3.Match j21_3.Clock)).set 9 (AV.data d)) (c_set (e := e_b) (s := 1) (nl := none) (l := j21_3.Votes) (i := l13_1.toNat) (x := (r22_1 == 0)))) (.c rT .n))))) (cR (cR (cB (cB (cR (cL (cR (cR (cR (cR (cR (cR (cR (cR bd14)))))))))))))) [.lp (cB (cR (cL (cR (cR (cR (cR (cR (cR (cR (cR bd14)))))))))))] ?_
    refine kRc 191 [Tm 5 (iv (w64 (l13_1 + 1)))] [] .n (cB (cR (cL (cR (cR (cR (cR (cR (cR (cR (cR bd14))))))))))) [] ?_
    exact kWk (ih (w64 (l13_1 + 1)) (TRaft.mk j21_3.Me j21_3.Nodes j21_3.Wait j21_3.Term j21_3.Vote j21_3.Log j21_3.Commit j21_3.Role j21_3.Leader (j21_3.Votes.set l13_1.toNat (r22_1 == 0)) j21_3.Next j21_3.Match j21_3.Clock) r22_2 _ h)
   clear hk21
   refine kSq ?_
   obtain ⟨⟨r18_1, r18_2⟩, h18_3, h⟩ := bd_inv h
   refine kRs 253 [Tm 99 (bv (r18_1 == 0)), Ob 1000 [.data (.slc false none 1 (List.map e_u8 r18_2.l)), iv r18_2.n]] [.a ⟨iv r18_1, [[.data (.slc false none 1 (List.map e_u8 r18_2.l)), iv r18_2.n]]⟩] (.c (Asks.of (C := Meets Try.prog) (diwanplay_Picks_Num.meets 3 r16_2 _ _ h18_3)) .n) ?_
   rcases br_inv h with ⟨b19_0, h⟩ | ⟨b19_0, h⟩
   ·refine kCt b19_0 ?_
    obtain ⟨⟨r20_1, r20_2⟩, h20_3, h⟩ := bd_inv h
    obtain ⟨x20_4, a20_5, e20_6, h⟩ := ix_inv h
    refine kRc 504 [Ob 4 (TRaft.ob_000001000111 (TRaft.mk l13_3.Me l13_3.Nodes l13_3.Wait l13_3.Term l13_3.Vote l13_3.Log l13_3.Commit l13_3.Role l13_3.Leader l13_3.Votes ((l13_3.Next.set l13_1.toNat (w64 (x17_1 + 1))).set l13_1.toNat (w64 (1 + r20_1))) (l13_3.Match.set l13_1.toNat r16_1) l13_3.Clock)), Ob 1000 [.data (.slc false none 1 (List.map e_u8 r20_2.l)), iv r20_2.n]] [.s (.t 106) [iv (l13_3.Log.length : Int)], .a ⟨iv r20_1, [[.data (.slc false none 1 (List.map e_u8 r20_2.l)), iv r20_2.n]]⟩, .c (e_i64 x20_4), .s (.o 4) (TRaft.ob_000001000111 (TRaft.mk l13_3.Me l13_3.Nodes l13_3.Wait l13_3.Term l13_3.Vote l13_3.Log l13_3.Commit l13_3.Role l13_3.Leader l13_3.Votes ((l13_3.Next.set l13_1.toNat (w64 (x17_1 + 1))).set l13_1.toNat (w64 (1 + r20_1))) (l13_3.Match.set l13_1.toNat r16_1) l13_3.Clock))] (.c (c_len (e := TEntry.en) (l := l13_3.Log)) (.c (Asks.of (C := Meets Try.prog) (diwanplay_Picks_Num.meets (w64 ((l13_3.Log.length : Int) + 1)) r18_2 _ _ h20_3)) (.c (c_ix (e := e_i64) a20_5 e20_6) (.c (c_el (e := e_i64) e20_6) (.c (congrArg (fun d : DV => (TRaft.ob_000001000111 (TRaft.mk l13_3.Me l13_3.Nodes l13_3.Wait l13_3.Term l13_3.Vote l13_3.Log l13_3.Commit l13_3.Role l13_3.Leader l13_3.Votes ((l13_3.Next.set l13_1.toNat (w64 (x17_1 + 1))).set l13_1.toNat (w64 (1 + r20_1))) (l13_3.Match.set l13_1.toNat r16_1) l13_3.Clock)).set 10 (AV.data d)) (c_set (e := e_i64) (s := 1) (nl := none) (l := (l13_3.Next.set l13_1.toNat (w64 (x17_1 + 1)))) (i := l13_1.toNat) (x := (w64 (1 + r20_1))))) (.c rT .n)))))) (cR (cR (cR (cB (cL (cR (cB (cB (cR (cL (cR (cR (cR (cR (cR (cR (cR (cR bd14)))))))))))))))))) [.blk 1, .seq (cR (cR (cB (cB (cR (cL (cR (cR (cR (cR (cR (cR (cR (cR bd14)))))))))))))), .lp (cB (cR (cL (cR (cR (cR (cR (cR (cR (cR (cR bd14)))))))))))] ?_
    exact kWk (Jk21 (TRaft.mk l13_3.Me l13_3.Nodes l13_3.Wait l13_3.Term l13_3.Vote l13_3.Log l13_3.Commit l13_3.Role l13_3.Leader l13_3.Votes ((l13_3.Next.set l13_1.toNat (w64 (x17_1 + 1))).set l13_1.toNat (w64 (1 + r20_1))) (l13_3.Match.set l13_1.toNat r16_1) l13_3.Clock) r20_2 h)
   ·refine kCe b19_0 ?_
    refine kSk ?_
    refine kCd (cR (cR (cR (cB (cL (cR (cB (cB (cR (cL (cR (cR (cR (cR (cR (cR (cR (cR bd14)))))))))))))))))) [.blk 1, .seq (cR (cR (cB (cB (cR (cL (cR (cR (cR (cR (cR (cR (cR (cR bd14)))))))))))))), .lp (cB (cR (cL (cR (cR (cR (cR (cR (cR (cR (cR bd14)))))))))))] ?_
    exact kWk (Jk21 (TRaft.mk l13_3.Me l13_3.Nodes l13_3.Wait l13_3.Term l13_3.Vote l13_3.Log l13_3.Commit l13_3.Role l13_3.Leader l13_3.Votes (l13_3.Next.set l13_1.toNat (w64 (x17_1 + 1))) (l13_3.Match.set l13_1.toNat r16_1) l13_3.Clock) r18_2 h)
  ·refine kCe b15_0 ?_
   cases some_inj h
   refine kWo ?_
   refine kXt 0 ?_
   exact kOut
noncomputable def diwanplay_Picks_Raft (fu : Nat) (o0_v : TPicks) : Option (TRaft × TPicks) :=
 bd (diwanplay_Picks_Num 5 o0_v) fun (r2_1, r2_2) =>
 bd (diwanplay_Picks_Num (w64 (1 + r2_1)) r2_2) fun (r3_1, r3_2) =>
 bd (diwanplay_Picks_Num 9 r3_2) fun (r3_4, r3_5) =>
 bd (diwanref11_New (w64 (1 + r3_1)) (w64 (1 + r2_1)) (w64 (3 + r3_4))) fun r3_7 =>
 bd (diwanplay_Picks_Num 8 r3_5) fun (r4_1, r4_2) =>
 bd (diwanplay_Picks_Log fu r4_1 r4_2) fun (r4_4, r4_5) =>
 bd (diwanplay_Picks_Num 3 r4_5) fun (r5_1, r5_2) =>
 jn (fun (j9_2 : TRaft) (j9_3 : TPicks) =>
  bd (diwanplay_Picks_Num (w64 ((j9_2.Log.length : Int) + 1)) j9_3) fun (r10_1, r10_2) =>
  bd (diwanplay_Picks_Num 3 r10_2) fun (r11_1, r11_2) =>
  bd (diwanplay_Picks_Num (w64 ((w64 (1 + r2_1)) + 1)) r11_2) fun (r11_4, r11_5) =>
  bd (diwanplay_Picks_Num (w64 ((w64 (1 + r2_1)) + 1)) r11_5) fun (r11_7, r11_8) =>
  bd (diwanplay_Picks_Num j9_2.Wait r11_8) fun (r11_10, r11_11) =>
  bd (diwanplay_Picks_Raft.lp13 fu (w64 (1 + r2_1)) (TRaft.mk 0 0 0 0 0 [] 0 0 0 [] [] [] 0) fu 0 (TRaft.mk j9_2.Me j9_2.Nodes j9_2.Wait j9_2.Term r11_4 j9_2.Log r10_1 r11_1 r11_7 j9_2.Votes j9_2.Next j9_2.Match r11_10) r11_11) fun (y24_0, y24_1) =>
  br (y24_0.Role == 2)
   (ix y24_0.Match (w64 (y24_0.Me - 1)) fun x27_1 =>
   some ((TRaft.mk y24_0.Me y24_0.Nodes y24_0.Wait y24_0.Term y24_0.Vote y24_0.Log y24_0.Commit y24_0.Role y24_0.Me y24_0.Votes y24_0.Next (y24_0.Match.set (w64 (y24_0.Me - 1)).toNat (y24_0.Log.length : Int)) y24_0.Clock), y24_1))
   (some (y24_0, y24_1))) fun k9 =>
 br (decide ((r4_4.length : Int) > 0))
  (ix r4_4 (w64 ((r4_4.length : Int) - 1)) fun x8_1 =>
  bd (diwanplay_Picks_Num 2 r5_2) fun (r8_4, r8_5) =>
  k9 (TRaft.mk r3_7.Me r3_7.Nodes r3_7.Wait (if (w64 (1 + r5_1)) < (w64 (x8_1.Term + r8_4)) then (w64 (x8_1.Term + r8_4)) else (w64 (1 + r5_1))) r3_7.Vote r4_4 r3_7.Commit r3_7.Role r3_7.Leader r3_7.Votes r3_7.Next r3_7.Match r3_7.Clock) r8_5)
  (k9 (TRaft.mk r3_7.Me r3_7.Nodes r3_7.Wait (w64 (1 + r5_1)) r3_7.Vote r4_4 r3_7.Commit r3_7.Role r3_7.Leader r3_7.Votes r3_7.Next r3_7.Match r3_7.Clock) r5_2)
theorem diwanplay_Picks_Raft.meets (fu : Nat) (o0_v : TPicks) (z0 : TRaft) (z1 : TPicks) (h : diwanplay_Picks_Raft fu o0_v = some (z0, z1)) : Meets Try.prog ⟨14, [.ptr 1000 0], [[.data (.slc false none 1 (List.map e_u8 o0_v.l)), iv o0_v.n]]⟩ ⟨.data (TRaft.ag_000001000111 z0), [[.data (.slc false none 1 (List.map e_u8 z1.l)), iv z1.n]]⟩ := by
 refine meets_of (O := diwanplay_Picks_Raft.O) hmix (fn := Try.f14) (code := bd14) (by kernel_rfl) ?_
 refine WK.weak (l := [Tm 0 (.ptr 1000 0), Ob 1000 [.data (.slc false none 1 (List.map e_u8 o0_v.l)), iv o0_v.n]]) (wk_of (by kernel_rfl)) ?_
 unfold diwanplay_Picks_Raft at h
 refine kRs 3 [Tm 2 (.ptr 2 0), Ob 2 (TRaft.ob_000001000111 (TRaft.mk 0 0 0 0 0 [] 0 0 0 [] [] [] 0))] [] .n ?_
 obtain ⟨⟨r2_1, r2_2⟩, h2_3, h⟩ := bd_inv h
 refine kRs 7 [Tm 3 (iv (w64 (1 + r2_1))), Ob 1000 [.data (.slc false none 1 (List.map e_u8 r2_2.l)), iv r2_2.n]] [.a ⟨iv r2_1, [[.data (.slc false none 1 (List.map e_u8 r2_2.l)), iv r2_2.n]]⟩] (.c (Asks.of (C := Meets Try.prog) (diwanplay_Picks_Num.meets 5 o0_v _ _ h2_3)) .n) ?_
 obtain ⟨⟨r3_1, r3_2⟩, h3_3, h⟩ := bd_inv h
 obtain ⟨⟨r3_4, r3_5⟩, h3_6, h⟩ := bd_inv h
 obtain ⟨r3_7, h3_8, h⟩ := bd_inv h
 refine kRs 29 [Tm 4 (.ptr 4 0), Ob 4 (TRaft.ob_000001000111 r3_7), Ob 1000 [.data (.slc false none 1 (List.map e_u8 r3_5.l)), iv r3_5.n]] [.a ⟨iv r3_1, [[.data (.slc false none 1 (List.map e_u8 r3_2.l)), iv r3_2.n]]⟩, .a ⟨iv r3_4, [[.data (.slc false none 1 (List.map e_u8 r3_5.l)), iv r3_5.n]]⟩, .a ⟨.data (TRaft.ag_000001000111 r3_7), []⟩] (.c (Asks.of (C := Meets Try.prog) (diwanplay_Picks_Num.meets (w64 (1 + r2_1)) r2_2 _ _ h3_3)) (.c (Asks.of (C := Meets Try.prog) (diwanplay_Picks_Num.meets 9 r3_2 _ _ h3_6)) (.c (Asks.of (C := Meets Try.prog) (diwanref11_New.meets (w64 (1 + r3_1)) (w64 (1 + r2_1)) (w64 (3 + r3_4)) _ h3_8)) .n))) ?_
 obtain ⟨⟨r4_1, r4_2⟩, h4_3, h⟩ := bd_inv h
 obtain ⟨⟨r4_4, r4_5⟩, h4_6, h⟩ := bd_inv h
 refine kRs 121 [Ob 4 (TRaft.ob_000001000111 (TRaft.mk r3_7.Me r3_7.Nodes r3_7.Wait r3_7.Term r3_7.Vote r4_4 r3_7.Commit r3_7.Role r3_7.Leader r3_7.Votes r3_7.Next r3_7.Match r3_7.Clock)), Ob 1000 [.data (.slc false none 1 (List.map e_u8 r4_5.l)), iv r4_5.n]] [.a ⟨iv r4_1, [[.data (.slc false none 1 (List.map e_u8 r4_2.l)), iv r4_2.n]]⟩, .a ⟨.data (.slc true none 6 (List.map TEntry.en r4_4)), [[.data (.slc false none 1 (List.map e_u8 r4_5.l)), iv r4_5.n]]⟩] (.c (Asks.of (C := Meets Try.prog) (diwanplay_Picks_Num.meets 8 r3_5 _ _ h4_3)) (.c (Asks.of (C := Meets Try.prog) (diwanplay_Picks_Log.meets fu r4_1 r4_2 _ _ h4_6)) .n)) ?_
 obtain ⟨⟨r5_1, r5_2⟩, h5_3, h⟩ := bd_inv h
 refine kRs 124 [Ob 4 (TRaft.ob_000001000111 (TRaft.mk r3_7.Me r3_7.Nodes r3_7.Wait (w64 (1 + r5_1)) r3_7.Vote r4_4 r3_7.Commit r3_7.Role r3_7.Leader r3_7.Votes r3_7.Next r3_7.Match r3_7.Clock)), Ob 1000 [.data (.slc false none 1 (List.map e_u8 r5_2.l)), iv r5_2.n]] [.a ⟨iv r5_1, [[.data (.slc false none 1 (List.map e_u8 r5_2.l)), iv r5_2.n]]⟩] (.c (Asks.of (C := Meets Try.prog) (diwanplay_Picks_Num.meets 3 r4_5 _ _ h5_3)) .n) ?_
 obtain ⟨k9, hk9, h⟩ := jn_inv h
 have Jk9 : ∀ (j9_2 : TRaft) (j9_3 : TPicks), k9 j9_2 j9_3 = some (z0, z1) → WK Try.prog diwanplay_Picks_Raft.O (Ck Try.prog) (cR (cR (cR (cR (cR (cR bd14)))))) [] (ofL [Tm 0 (.ptr 1000 0), Tm 2 (.ptr 2 0), Tm 3 (iv (w64 (1 + r2_1))), Tm 4 (.ptr 4 0), Ob 2 (TRaft.ob_000001000111 (TRaft.mk 0 0 0 0 0 [] 0 0 0 [] [] [] 0)), Ob 4 (TRaft.ob_000001000111 j9_2), Ob 1000 [.data (.slc false none 1 (List.map e_u8 j9_3.l)), iv j9_3.n]]) (Fin Try.prog diwanplay_Picks_Raft.O Try.f14 1 ⟨.data (TRaft.ag_000001000111 z0), [[.data (.slc false none 1 (List.map e_u8 z1.l)), iv z1.n]]⟩) := by
  intro j9_2 j9_3 h
  rw [hk9] at h
  obtain ⟨⟨r10_1, r10_2⟩, h10_3, h⟩ := bd_inv h
  refine kRs 31 [Ob 4 (TRaft.ob_000001000111 (TRaft.mk j9_2.Me j9_2.Nodes j9_2.Wait j9_2.Term j9_2.Vote j9_2.Log r10_1 j9_2.Role j9_2.Leader j9_2.Votes j9_2.Next j9_2.Match j9_2.Clock)), Ob 1000 [.data (.slc false none 1 (List.map e_u8 r10_2.l)), iv r10_2.n]] [.s (.t 50) [iv (j9_2.Log.length : Int)], .a ⟨iv r10_1, [[.data (.slc false none 1 (List.map e_u8 r10_2.l)), iv r10_2.n]]⟩] (.c (c_len (e := TEntry.en) (l := j9_2.Log)) (.c (Asks.of (C := Meets Try.prog) (diwanplay_Picks_Num.meets (w64 ((j9_2.Log.length : Int) + 1)) j9_3 _ _ h10_3)) .n)) ?_
  obtain ⟨⟨r11_1, r11_2⟩, h11_3, h⟩ := bd_inv h
  obtain ⟨⟨r11_4, r11_5⟩, h11_6, h⟩ := bd_inv h
  obtain ⟨⟨r11_7, r11_8⟩, h11_9, h⟩ := bd_inv h
  obtain ⟨⟨r11_10, r11_11⟩, h11_12, h⟩ := bd_inv h
  refine kRs 124 [Ob 4 (TRaft.ob_000001000111 (TRaft.mk j9_2.Me j9_2.Nodes j9_2.Wait j9_2.Term r11_4 j9_2.Log r10_1 r11_1 r11_7 j9_2.Votes j9_2.Next j9_2.Match r11_10)), Ob 1000 [.data (.slc false none 1 (List.map e_u8 r11_11.l)), iv r11_11.n]] [.a ⟨iv r11_1, [[.data (.slc false none 1 (List.map e_u8 r11_2.l)), iv r11_2.n]]⟩, .a ⟨iv r11_4, [[.data (.slc false none 1 (List.map e_u8 r11_5.l)), iv r11_5.n]]⟩, .a ⟨iv r11_7, [[.data (.slc false none 1 (List.map e_u8 r11_8.l)), iv r11_8.n]]⟩, .a ⟨iv r11_10, [[.data (.slc false none 1 (List.map e_u8 r11_11.l)), iv r11_11.n]]⟩] (.c (Asks.of (C := Meets Try.prog) (diwanplay_Picks_Num.meets 3 r10_2 _ _ h11_3)) (.c (Asks.of (C := Meets Try.prog) (diwanplay_Picks_Num.meets (w64 ((w64 (1 + r2_1)) + 1)) r11_2 _ _ h11_6)) (.c (Asks.of (C := Meets Try.prog) (diwanplay_Picks_Num.meets (w64 ((w64 (1 + r2_1)) + 1)) r11_5 _ _ h11_9)) (.c (Asks.of (C := Meets Try.prog) (diwanplay_Picks_Num.meets j9_2.Wait r11_8 _ _ h11_12)) (.c rT .n))))) ?_
  refine kSq ?_
  refine kRs 127 [Tm 5 (iv 0)] [] .n ?_
  refine kBk 0 ?_
  obtain ⟨o24, ho24, h⟩ := bd_inv h
  refine kUs (diwanplay_Picks_Raft.lp13_ok fu (w64 (1 + r2_1)) (TRaft.mk 0 0 0 0 0 [] 0 0 0 [] [] [] 0) _ 0 (TRaft.mk j9_2.Me j9_2.Nodes j9_2.Wait j9_2.Term r11_4 j9_2.Log r10_1 r11_1 r11_7 j9_2.Votes j9_2.Next j9_2.Match r11_10) r11_11 _ ho24) ?_
  intro e_ τ_ hp_
  obtain ⟨y24_0, y24_1⟩ := o24
  obtain ⟨rfl, rfl⟩ := hp_
  refine kCd (cR (cR (cR (cR (cR (cR (cR (cR (cR bd14))))))))) [] ?_
  refine kSq ?_
  refine kRs 31 [Tm 120 (bv (y24_0.Role == 2))] [] .n ?_
  rcases br_inv h with ⟨b26_0, h⟩ | ⟨b26_0, h⟩
  ·refine kCt b26_0 ?_
   obtain ⟨x27_1, a27_2, e27_3, h⟩ := ix_inv h
   refine kRc 46 [Ob 4 (TRaft.ob_000001000111 (TRaft.mk y24_0.Me y24_0.Nodes y24_0.Wait y24_0.Term y24_0.Vote y24_0.Log y24_0.Commit y24_0.Role y24_0.Me y24_0.Votes y24_0.Next (y24_0.Match.set (w64 (y24_0.Me - 1)).toNat (y24_0.Log.length : Int)) y24_0.Clock))] [.s (.t 130) [iv (y24_0.Log.length : Int)], .c (e_i64 x27_1), .s (.o 4) (TRaft.ob_000001000111 (TRaft.mk y24_0.Me y24_0.Nodes y24_0.Wait y24_0.Term y24_0.Vote y24_0.Log y24_0.Commit y24_0.Role y24_0.Me y24_0.Votes y24_0.Next (y24_0.Match.set (w64 (y24_0.Me - 1)).toNat (y24_0.Log.length : Int)) y24_0.Clock))] (.c (c_len (e := TEntry.en) (l := y24_0.Log)) (.c (c_ix (e := e_i64) a27_2 e27_3) (.c (c_el (e := e_i64) e27_3) (.c (congrArg (fun d : DV => (TRaft.ob_000001000111 (TRaft.mk y24_0.Me y24_0.Nodes y24_0.Wait y24_0.Term y24_0.Vote y24_0.Log y24_0.Commit y24_0.Role y24_0.Me y24_0.Votes y24_0.Next (y24_0.Match.set (w64 (y24_0.Me - 1)).toNat (y24_0.Log.length : Int)) y24_0.Clock)).set 11 (AV.data d)) (c_set (e := e_i64) (s := 1) (nl := none) (l := y24_0.Match) (i := (w64 (y24_0.Me - 1)).toNat) (x := (y24_0.Log.length : Int)))) .n)))) (cR (cR (cR (cR (cR (cR (cR (cR (cR (cR bd14)))))))))) [] ?_
   refine kRs 18 [Ob 2 (TRaft.ob_000001000111 (TRaft.mk y24_0.Me y24_0.Nodes y24_0.Wait y24_0.Term y24_0.Vote y24_0.Log y24_0.Commit y24_0.Role y24_0.Me y24_0.Votes y24_0.Next (y24_0.Match.set (w64 (y24_0.Me - 1)).toNat (y24_0.Log.length : Int)) y24_0.Clock))] [] .n ?_
   refine WK.weak (l := [Tm 2 (.ptr 2 0), Ob 2 (TRaft.ob_000001000111 (TRaft.mk y24_0.Me y24_0.Nodes y24_0.Wait y24_0.Term y24_0.Vote y24_0.Log y24_0.Commit y24_0.Role y24_0.Me y24_0.Votes y24_0.Next (y24_0.Match.set (w64 (y24_0.Me - 1)).toNat (y24_0.Log.length : Int)) y24_0.Clock)), Ob 1000 [.data (.slc false none 1 (List.map e_u8 y24_1.l)), iv y24_1.n]]) (wk_of (by kernel_rfl)) ?_
   refine kRt ?_
   have h_0 := some_inj h
   obtain ⟨g_1, h_1⟩ := Prod.mk.inj h_0
   subst g_1
   subst h_1
   exact kFr
  ·refine kCe b26_0 ?_
   refine kSk ?_
   refine kCd (cR (cR (cR (cR (cR (cR (cR (cR (cR (cR bd14)))))))))) [] ?_
   refine kRs 34 [Ob 2 (TRaft.ob_000001000111 y24_0)] [] .n ?_
   refine WK.weak (l := [Tm 2 (.ptr 2 0), Ob 2 (TRaft.ob_000001000111 y24_0), Ob 1000 [.data (.slc false none 1 (List.map e_u8 y24_1.l)), iv y24_1.n]]) (wk_of (by kernel_rfl)) ?_
   refine kRt ?_
   have h_0 := some_inj h
   obtain ⟨g_1, h_1⟩ := Prod.mk.inj h_0
   subst g_1
   subst h_1
   exact kFr
 clear hk9
 refine kSq ?_
 refine kRs 127 [Tm 30 (bv (decide ((r4_4.length : Int) > 0)))] [.s (.t 29) [iv (r4_4.length : Int)]] (.c (c_len (e := TEntry.en) (l := r4_4)) .n) ?_
 rcases br_inv h with ⟨b7_0, h⟩ | ⟨b7_0, h⟩
 ·refine kCt b7_0 ?_
  obtain ⟨x8_1, a8_2, e8_3, h⟩ := ix_inv h
  obtain ⟨⟨r8_4, r8_5⟩, h8_6, h⟩ := bd_inv h
  refine kRc 248 [Ob 4 (TRaft.ob_000001000111 (TRaft.mk r3_7.Me r3_7.Nodes r3_7.Wait (if (w64 (1 + r5_1)) < (w64 (x8_1.Term + r8_4)) then (w64 (x8_1.Term + r8_4)) else (w64 (1 + r5_1))) r3_7.Vote r4_4 r3_7.Commit r3_7.Role r3_7.Leader r3_7.Votes r3_7.Next r3_7.Match r3_7.Clock)), Ob 1000 [.data (.slc false none 1 (List.map e_u8 r8_5.l)), iv r8_5.n]] [.s (.t 37) [iv (r4_4.length : Int)], .c (TEntry.en x8_1), .a ⟨iv r8_4, [[.data (.slc false none 1 (List.map e_u8 r8_5.l)), iv r8_5.n]]⟩] (.c (c_len (e := TEntry.en) (l := r4_4)) (.c (c_ix (e := TEntry.en) a8_2 e8_3) (.c (c_el (e := TEntry.en) e8_3) (.c (Asks.of (C := Meets Try.prog) (diwanplay_Picks_Num.meets 2 r5_2 _ _ h8_6)) (.c rT .n))))) (cR (cR (cR (cR (cR (cR bd14)))))) [] ?_
  exact kWk (Jk9 (TRaft.mk r3_7.Me r3_7.Nodes r3_7.Wait (if (w64 (1 + r5_1)) < (w64 (x8_1.Term + r8_4)) then (w64 (x8_1.Term + r8_4)) else (w64 (1 + r5_1))) r3_7.Vote r4_4 r3_7.Commit r3_7.Role r3_7.Leader r3_7.Votes r3_7.Next r3_7.Match r3_7.Clock) r8_5 h)
 ·refine kCe b7_0 ?_
  refine kSk ?_
  refine kCd (cR (cR (cR (cR (cR (cR bd14)))))) [] ?_
  exact kWk (Jk9 (TRaft.mk r3_7.Me r3_7.Nodes r3_7.Wait (w64 (1 + r5_1)) r3_7.Vote r4_4 r3_7.Commit r3_7.Role r3_7.Leader r3_7.Votes r3_7.Next r3_7.Match r3_7.Clock) r5_2 h)
/-- diwan/diwanref1.Term -/
noncomputable def bd49 : Code := (Try.f49.body).getD .skip
def diwanref1_Term.O : Nat → Nat := fun t => bif ([4] : List Nat).any (Nat.beq t) then 1 else 0
noncomputable def diwanref1_Term (l : List TEntry) (i : Int) : Option Int :=
 br (decide (i < 1))
  (some 0)
  (br (decide (i > (l.length : Int)))
   (some 0)
   (ix l (w64 (i - 1)) fun x6_1 =>
   some x6_1.Term))
theorem diwanref1_Term.meets (l : List TEntry) (i : Int) (z0 : Int) (h : diwanref1_Term l i = some z0) : Meets Try.prog ⟨49, [.data (.slc false none 6 (List.map TEntry.en l)), iv i], []⟩ ⟨iv z0, []⟩ := by
 refine meets_of (O := diwanref1_Term.O) hmix (fn := Try.f49) (code := bd49) (by kernel_rfl) ?_
 refine WK.weak (l := [Tm 0 (.data (.slc false none 6 (List.map TEntry.en l))), Tm 1 (iv i)]) (wk_of (by kernel_rfl)) ?_
 unfold diwanref1_Term at h
 refine kRs 3 [] [] .n ?_
 refine kSq ?_
 rcases br_inv h with ⟨b2_1, h⟩ | ⟨b2_1, h⟩
 ·refine kRs 3 [Tm 12 (bv true)] (rp 5 (.b true) []) (.r 5 b2_1 .n) ?_
  refine kCt rT ?_
  refine kRs 0 [Tm 4 (iv 0)] [] .n ?_
  refine WK.weak (l := [Tm 4 (iv 0)]) (wk_of (by kernel_rfl)) ?_
  refine kRt ?_
  have h_ := some_inj h
  subst h_
  exact kFr
 ·refine kRs 3 [Tm 12 (bv (decide (i > (l.length : Int))))] [.b false, .b false, .b false, .s (.t 10) [iv (l.length : Int)], .b false, .b false] (.r 3 b2_1 (.c (c_len (e := TEntry.en) (l := l)) (.r 2 b2_1 .n))) ?_
  rcases br_inv h with ⟨b4_0, h⟩ | ⟨b4_0, h⟩
  ·refine kCt b4_0 ?_
   refine kRs 0 [Tm 4 (iv 0)] [] .n ?_
   refine WK.weak (l := [Tm 4 (iv 0)]) (wk_of (by kernel_rfl)) ?_
   refine kRt ?_
   have h_ := some_inj h
   subst h_
   exact kFr
  ·refine kCe b4_0 ?_
   refine kSk ?_
   refine kCd (cR (cR bd49)) [] ?_
   obtain ⟨x6_1, a6_2, e6_3, h⟩ := ix_inv h
   refine kRs 0 [Tm 4 (iv x6_1.Term)] [.c (TEntry.en x6_1)] (.c (c_ix (e := TEntry.en) a6_2 e6_3) (.c (c_el (e := TEntry.en) e6_3) .n)) ?_
   refine WK.weak (l := [Tm 4 (iv x6_1.Term)]) (wk_of (by kernel_rfl)) ?_
   refine kRt ?_
   have h_ := some_inj h
   subst h_
   exact kFr
/-- diwan/diwanlaw11.fair -/
noncomputable def bd24 : Code := (Try.f24.body).getD .skip
def diwanlaw11_fair.O : Nat → Nat := fun t => bif ([2, 3, 4, 5, 6, 7, 8] : List Nat).any (Nat.beq t) then 1 else 0
noncomputable def diwanlaw11_fair.lp8 (fu : Nat) (l8_2 : TRaft) (l8_3 : TMsg) : Nat → Int → Int → Option (Unit ⊕ Unit)
  | 0, _, _ => none
  | n_ + 1, l8_0, l8_1 =>
  br (decide (l8_1 < (l8_3.Entries.length : Int)))
   (ix l8_3.Entries l8_1 fun x11_1 =>
   br (decide (x11_1.Term < l8_0))
    (some (.inr ()))
    (br (decide (x11_1.Term < 1))
     (some (.inr ()))
     (br (decide (x11_1.Term > l8_3.Term))
      (some (.inr ()))
      (br (decide ((w64 ((w64 (l8_3.Index + l8_1)) + 1)) ≤ l8_2.Commit))
       (bd (diwanref1_Term l8_2.Log (w64 ((w64 (l8_3.Index + l8_1)) + 1))) fun r18_2 =>
       br (r18_2 != x11_1.Term)
        (some (.inr ()))
        (diwanlaw11_fair.lp8 fu l8_2 l8_3 n_ x11_1.Term (w64 (l8_1 + 1))))
       (diwanlaw11_fair.lp8 fu l8_2 l8_3 n_ x11_1.Term (w64 (l8_1 + 1)))))))
   (some (.inl ()))
noncomputable def diwanlaw11_fair.lp8_post (l8_2 : TRaft) (l8_3 : TMsg) (r_ : (Unit ⊕ Unit)) : Wy → St → Prop := fun e τ => match r_ with
  | .inl _ => e = .exit 0 ∧ τ = ofL []
  | .inr _ => e = .ret ∧ τ = ofL [Tm 4 (bv false)]
theorem diwanlaw11_fair.lp8_ok (fu : Nat) (l8_2 : TRaft) (l8_3 : TMsg) : ∀ (n_ : Nat) (l8_0 : Int) (l8_1 : Int) (r_ : (Unit ⊕ Unit)), diwanlaw11_fair.lp8 fu l8_2 l8_3 n_ l8_0 l8_1 = some r_ → WK Try.prog diwanlaw11_fair.O (Ck Try.prog) (cB (cR (cL (cR (cR (cR bd24)))))) [] (ofL [Tm 2 (.ptr 2 0), Tm 3 (.ptr 3 0), Tm 5 (iv l8_0), Tm 6 (iv l8_1), Ob 2 (TRaft.ob l8_2), Ob 3 (TMsg.ob l8_3)]) (diwanlaw11_fair.lp8_post l8_2 l8_3 r_) := by
 intro n_
 induction n_ with
 | zero => intro l8_0 l8_1 r_ h; exact no_none h
 | succ n_ ih =>
  intro l8_0 l8_1 r_ h
  refine kLp ?_
  refine kSq ?_
  refine kRs 63 [Tm 18 (bv (decide (l8_1 < (l8_3.Entries.length : Int))))] [.s (.t 17) [iv (l8_3.Entries.length : Int)]] (.c (c_len (e := TEntry.en) (l := l8_3.Entries)) .n) ?_
  rcases br_inv h with ⟨b10_0, h⟩ | ⟨b10_0, h⟩
  ·refine kCt b10_0 ?_
   refine kSk ?_
   refine kCd (cR (cB (cB (cR (cL (cR (cR (cR bd24)))))))) [.lp (cB (cR (cL (cR (cR (cR bd24))))))] ?_
   refine kSq ?_
   refine kBk 1 ?_
   obtain ⟨x11_1, a11_2, e11_3, h⟩ := ix_inv h
   refine kRs 126 [Tm 7 (iv x11_1.Term)] [.c (TEntry.en x11_1)] (.c (c_ix (e := TEntry.en) a11_2 e11_3) (.c (c_el (e := TEntry.en) e11_3) .n)) ?_
   refine kSq ?_
   rcases br_inv h with ⟨b12_1, h⟩ | ⟨b12_1, h⟩
   ·refine kRs 119 [Tm 39 (bv true)] (rp 8 (.b true) []) (.r 3 b12_1 (.r 5 rT .n)) ?_
    refine kCt rT ?_
    refine kRs 0 [Tm 4 (bv false)] [] .n ?_
    cases some_inj h
    refine kWo ?_
    refine kRt ?_
    exact kOut
   ·rcases br_inv h with ⟨b12_2, h⟩ | ⟨b12_2, h⟩
    ·refine kRs 119 [Tm 39 (bv true)] (.b false :: (.b false :: (.b false :: (rp 5 (.b true) [])))) (.r 3 b12_1 (.r 5 b12_2 .n)) ?_
     refine kCt rT ?_
     refine kRs 0 [Tm 4 (bv false)] [] .n ?_
     cases some_inj h
     refine kWo ?_
     refine kRt ?_
     exact kOut
    ·refine kRs 119 [Tm 39 (bv (decide (x11_1.Term > l8_3.Term)))] (rp 8 (.b false) []) (.r 3 b12_1 (.r 5 b12_2 .n)) ?_
     rcases br_inv h with ⟨b15_0, h⟩ | ⟨b15_0, h⟩
     ·refine kCt b15_0 ?_
      refine kRs 0 [Tm 4 (bv false)] [] .n ?_
      cases some_inj h
      refine kWo ?_
      refine kRt ?_
      exact kOut
     ·refine kCe b15_0 ?_
      refine kSk ?_
      refine kCd (cR (cR (cB (cL (cR (cB (cB (cR (cL (cR (cR (cR bd24)))))))))))) [.blk 1, .seq (cR (cR (cB (cB (cR (cL (cR (cR (cR bd24))))))))), .lp (cB (cR (cL (cR (cR (cR bd24))))))] ?_
      refine kRs 126 [Tm 8 (iv (w64 ((w64 (l8_3.Index + l8_1)) + 1)))] [] .n ?_
      refine kSq ?_
      rcases br_inv h with ⟨b18_1, h⟩ | ⟨b18_1, h⟩
      ·obtain ⟨r18_2, h18_3, h⟩ := bd_inv h
       refine kRs 126 [Tm 56 (bv (r18_2 != x11_1.Term))] (rp 4 (.b true) [.a ⟨iv r18_2, []⟩, .b true, .b true, .b true]) (.r 4 b18_1 (.c (Asks.of (C := Meets Try.prog) (diwanref1_Term.meets l8_2.Log (w64 ((w64 (l8_3.Index + l8_1)) + 1)) _ h18_3)) (.r 3 b18_1 .n))) ?_
       rcases br_inv h with ⟨b19_0, h⟩ | ⟨b19_0, h⟩
       ·refine kCt b19_0 ?_
        refine kRs 0 [Tm 4 (bv false)] [] .n ?_
        cases some_inj h
        refine kWo ?_
        refine kRt ?_
        exact kOut
       ·refine kCe b19_0 ?_
        refine kSk ?_
        refine kCd (cR (cR (cR (cR (cB (cL (cR (cB (cB (cR (cL (cR (cR (cR bd24)))))))))))))) [.blk 1, .seq (cR (cR (cB (cB (cR (cL (cR (cR (cR bd24))))))))), .lp (cB (cR (cL (cR (cR (cR bd24))))))] ?_
        refine kRc 124 [Tm 5 (iv x11_1.Term)] [] .n (cR (cR (cB (cB (cR (cL (cR (cR (cR bd24))))))))) [.lp (cB (cR (cL (cR (cR (cR bd24))))))] ?_
        refine kRc 55 [Tm 6 (iv (w64 (l8_1 + 1)))] [] .n (cB (cR (cL (cR (cR (cR bd24)))))) [] ?_
        exact kWk (ih x11_1.Term (w64 (l8_1 + 1)) _ h)
      ·refine kRs 126 [Tm 56 (bv false)] (rp 7 (.b false) []) (.r 7 b18_1 .n) ?_
       refine kCe rF ?_
       refine kSk ?_
       refine kCd (cR (cR (cR (cR (cB (cL (cR (cB (cB (cR (cL (cR (cR (cR bd24)))))))))))))) [.blk 1, .seq (cR (cR (cB (cB (cR (cL (cR (cR (cR bd24))))))))), .lp (cB (cR (cL (cR (cR (cR bd24))))))] ?_
       refine kRc 124 [Tm 5 (iv x11_1.Term)] [] .n (cR (cR (cB (cB (cR (cL (cR (cR (cR bd24))))))))) [.lp (cB (cR (cL (cR (cR (cR bd24))))))] ?_
       refine kRc 55 [Tm 6 (iv (w64 (l8_1 + 1)))] [] .n (cB (cR (cL (cR (cR (cR bd24)))))) [] ?_
       exact kWk (ih x11_1.Term (w64 (l8_1 + 1)) _ h)
  ·refine kCe b10_0 ?_
   cases some_inj h
   refine kWo ?_
   refine kXt 0 ?_
   exact kOut
noncomputable def diwanlaw11_fair (fu : Nat) (r_v : TRaft) (m : TMsg) : Option Bool :=
 jn (fun (j6_0 : Int) =>
  bd (diwanlaw11_fair.lp8 fu r_v m fu j6_0 0) fun o_ => (match o_ with
  | .inl _ =>
   some true
  | .inr _ =>
   some false)) fun k6 =>
 br (m.Index == 0)
  (k6 1)
  (k6 m.LogTerm)
theorem diwanlaw11_fair.meets (fu : Nat) (r_v : TRaft) (m : TMsg) (z0 : Bool) (h : diwanlaw11_fair fu r_v m = some z0) : Meets Try.prog ⟨24, [.data (TRaft.ag r_v), .data (TMsg.ag m)], []⟩ ⟨bv z0, []⟩ := by
 refine meets_of (O := diwanlaw11_fair.O) hmix (fn := Try.f24) (code := bd24) (by kernel_rfl) ?_
 refine WK.weak (l := [Tm 0 (.data (TRaft.ag r_v)), Tm 1 (.data (TMsg.ag m))]) (wk_of (by kernel_rfl)) ?_
 unfold diwanlaw11_fair at h
 refine kRs 0 [Tm 2 (.ptr 2 0), Tm 3 (.ptr 3 0), Ob 2 (TRaft.ob r_v), Ob 3 (TMsg.ob m)] [] .n ?_
 refine kRs 15 [Tm 5 (iv m.LogTerm)] [] .n ?_
 obtain ⟨k6, hk6, h⟩ := jn_inv h
 have Jk6 : ∀ (j6_0 : Int), k6 j6_0 = some z0 → WK Try.prog diwanlaw11_fair.O (Ck Try.prog) (cR (cR (cR bd24))) [] (ofL [Tm 2 (.ptr 2 0), Tm 3 (.ptr 3 0), Tm 5 (iv j6_0), Ob 2 (TRaft.ob r_v), Ob 3 (TMsg.ob m)]) (Fin Try.prog diwanlaw11_fair.O Try.f24 0 ⟨bv z0, []⟩) := by
  intro j6_0 h
  rw [hk6] at h
  refine kSq ?_
  refine kRs 31 [Tm 6 (iv 0)] [] .n ?_
  refine kBk 0 ?_
  obtain ⟨o25, ho25, h⟩ := bd_inv h
  refine kUs (diwanlaw11_fair.lp8_ok fu r_v m _ j6_0 0 _ ho25) ?_
  intro e_ τ_ hp_
  rcases o25 with o25 | o25
  ·obtain ⟨⟩ := o25
   obtain ⟨rfl, rfl⟩ := hp_
   refine kCd (cR (cR (cR (cR bd24)))) [] ?_
   refine kRs 0 [Tm 4 (bv true)] [] .n ?_
   refine WK.weak (l := [Tm 4 (bv true)]) (wk_of (by kernel_rfl)) ?_
   refine kRt ?_
   have h_ := some_inj h
   subst h_
   exact kFr
  ·obtain ⟨⟩ := o25
   obtain ⟨rfl, rfl⟩ := hp_
   have h_ := some_inj h
   subst h_
   exact kFr
 clear hk6
 refine kSq ?_
 refine kRs 31 [Tm 13 (bv (m.Index == 0))] [] .n ?_
 rcases br_inv h with ⟨b4_0, h⟩ | ⟨b4_0, h⟩
 ·refine kCt b4_0 ?_
  refine kRc 60 [Tm 5 (iv 1)] [] .n (cR (cR (cR bd24))) [] ?_
  exact kWk (Jk6 1 h)
 ·refine kCe b4_0 ?_
  refine kSk ?_
  refine kCd (cR (cR (cR bd24))) [] ?_
  exact kWk (Jk6 m.LogTerm h)
/-- (*diwan/raft.member).yields -/
noncomputable def bd54 : Code := (Try.f54.body).getD .skip
def raft_member_yields.O : Nat → Nat := fun t => bif ([8] : List Nat).any (Nat.beq t) then 1 else 0
noncomputable def raft_member_yields (term : Int) (o0_v : TMember) : Option TMember :=
 some (TMember.mk (TRaft.mk o0_v.Raft.Me o0_v.Raft.Nodes o0_v.Raft.Wait term 0 o0_v.Raft.Log o0_v.Raft.Commit 0 0 (List.replicate o0_v.Raft.Votes.length (false : Bool)) o0_v.Raft.Next o0_v.Raft.Match o0_v.Raft.Clock) o0_v.out)
theorem raft_member_yields.meets (term : Int) (o0_v : TMember) (z0 : TMember) (h : raft_member_yields term o0_v = some z0) : Meets Try.prog ⟨54, [.ptr 1000 0, iv term], [(TMember.ob_00000100011101 o0_v)]⟩ ⟨.tup [], [(TMember.ob_00000100011101 z0)]⟩ := by
 refine meets_of (O := raft_member_yields.O) hmix (fn := Try.f54) (code := bd54) (by kernel_rfl) ?_
 refine WK.weak (l := [Tm 0 (.ptr 1000 0), Tm 1 (iv term), Ob 1000 (TMember.ob_00000100011101 o0_v)]) (wk_of (by kernel_rfl)) ?_
 unfold raft_member_yields at h
 refine kRs 1 [Ob 1000 (TMember.ob_00000100011101 (TMember.mk (TRaft.mk o0_v.Raft.Me o0_v.Raft.Nodes o0_v.Raft.Wait term 0 o0_v.Raft.Log o0_v.Raft.Commit 0 0 o0_v.Raft.Votes o0_v.Raft.Next o0_v.Raft.Match o0_v.Raft.Clock) o0_v.out))] [] .n ?_
 have h_ := some_inj h
 subst h_
 exact kRf [.s (.o 1000) (TMember.ob_00000100011101 (TMember.mk (TRaft.mk o0_v.Raft.Me o0_v.Raft.Nodes o0_v.Raft.Wait term 0 o0_v.Raft.Log o0_v.Raft.Commit 0 0 (List.replicate o0_v.Raft.Votes.length (false : Bool)) o0_v.Raft.Next o0_v.Raft.Match o0_v.Raft.Clock) o0_v.out))] (.c (congrArg (fun d : DV => (TMember.ob_00000100011101 (TMember.mk (TRaft.mk o0_v.Raft.Me o0_v.Raft.Nodes o0_v.Raft.Wait term 0 o0_v.Raft.Log o0_v.Raft.Commit 0 0 (List.replicate o0_v.Raft.Votes.length (false : Bool)) o0_v.Raft.Next o0_v.Raft.Match o0_v.Raft.Clock) o0_v.out)).set 9 (AV.data d)) (c_clr (e := e_b) (s := 1) (nl := none) (l := o0_v.Raft.Votes) (x := (false : Bool)))) .n)
/-- diwan/ulog.Newer -/
noncomputable def bd77 : Code := (Try.f77.body).getD .skip
def ulog_Newer.O : Nat → Nat := fun t => bif ([6, 7] : List Nat).any (Nat.beq t) then 1 else 0
noncomputable def ulog_Newer (l : List TEntry) (i : Int) (term : Int) : Option Bool :=
 bd (ulog_Term l (l.length : Int)) fun r2_1 =>
 br (decide (term > r2_1))
  (some true)
  (br (term == r2_1)
   (some (decide (i ≥ (l.length : Int))))
   (some false))
theorem ulog_Newer.meets (l : List TEntry) (i : Int) (term : Int) (z0 : Bool) (h : ulog_Newer l i term = some z0) : Meets Try.prog ⟨77, [.data (.slc false none 6 (List.map TEntry.en l)), iv i, iv term], []⟩ ⟨bv z0, []⟩ := by
 refine meets_of (O := ulog_Newer.O) hmix (fn := Try.f77) (code := bd77) (by kernel_rfl) ?_
 refine WK.weak (l := [Tm 0 (.data (.slc false none 6 (List.map TEntry.en l))), Tm 1 (iv i), Tm 2 (iv term)]) (wk_of (by kernel_rfl)) ?_
 unfold ulog_Newer at h
 refine kRs 7 [] [] .n ?_
 obtain ⟨r2_1, h2_2, h⟩ := bd_inv h
 refine kRs 7 [Tm 7 (iv r2_1)] [.s (.t 10) [iv (l.length : Int)], .a ⟨iv r2_1, []⟩] (.c (c_len (e := TEntry.en) (l := l)) (.c (Asks.of (C := Meets Try.prog) (ulog_Term.meets l (l.length : Int) _ h2_2)) .n)) ?_
 rcases br_inv h with ⟨b3_1, h⟩ | ⟨b3_1, h⟩
 ·refine kRs 0 [Tm 6 (bv true)] (rp 6 (.b true) []) (.r 6 b3_1 .n) ?_
  refine WK.weak (l := [Tm 6 (bv true)]) (wk_of (by kernel_rfl)) ?_
  refine kRt ?_
  have h_ := some_inj h
  subst h_
  exact kFr
 ·rcases br_inv h with ⟨b3_2, h⟩ | ⟨b3_2, h⟩
  ·refine kRs 0 [Tm 6 (bv (decide (i ≥ (l.length : Int))))] (rp 4 (.b false) [.b true, .b true, .b true, .s (.t 22) [iv (l.length : Int)], .b true, .b false, .b true, .b false]) (.r 4 b3_1 (.r 3 b3_2 (.c (c_len (e := TEntry.en) (l := l)) (.c b3_2 (.c b3_1 (.c b3_2 (.c b3_1 .n))))))) ?_
   refine WK.weak (l := [Tm 6 (bv (decide (i ≥ (l.length : Int))))]) (wk_of (by kernel_rfl)) ?_
   refine kRt ?_
   have h_ := some_inj h
   subst h_
   exact kFr
  ·refine kRs 0 [Tm 6 (bv false)] (rp 11 (.b false) []) (.r 4 b3_1 (.r 4 b3_2 (.c b3_1 (.c b3_2 (.c b3_1 .n))))) ?_
   refine WK.weak (l := [Tm 6 (bv false)]) (wk_of (by kernel_rfl)) ?_
   refine kRt ?_
   have h_ := some_inj h
   subst h_
   exact kFr
/-- (*diwan/raft.member).sends -/
def raft_member_sends_2.O : Nat → Nat := fun t => bif ([5, 11, 26, 27] : List Nat).any (Nat.beq t) then 1 else 0
noncomputable def raft_member_sends_2 (to : Int) (m : TMsg) (o0_v : TMember) : Option TMember :=
 gd (decide (o0_v.out.length + ([(TMsg.mk m.Kind o0_v.Raft.Me to m.Part o0_v.Raft.Term m.Index m.LogTerm m.Commit m.OK m.Entries m.T m.Session m.Seq m.Pos m.Shard m.Span m.FromKey m.ToKey m.Keys m.Got m.Err)] : List TMsg).length ≤ 4294967296)) <|
 some (TMember.mk o0_v.Raft (o0_v.out ++ ([(TMsg.mk m.Kind o0_v.Raft.Me to m.Part o0_v.Raft.Term m.Index m.LogTerm m.Commit m.OK m.Entries m.T m.Session m.Seq m.Pos m.Shard m.Span m.FromKey m.ToKey m.Keys m.Got m.Err)] : List TMsg)))
theorem raft_member_sends_2.meets (to : Int) (m : TMsg) (o0_v : TMember) (z0 : TMember) (h : raft_member_sends_2 to m o0_v = some z0) : Meets Try.prog ⟨78, [.ptr 1000 0, iv to, .data (TMsg.ag m)], [(TMember.ob_00000100011101 o0_v)]⟩ ⟨.tup [], [(TMember.ob_00000100011101 z0)]⟩ := by
 refine meets_of (O := raft_member_sends_2.O) hmix (fn := Try.f78) (code := bd78) (by kernel_rfl) ?_
 refine WK.weak (l := [Tm 0 (.ptr 1000 0), Tm 1 (iv to), Tm 2 (.data (TMsg.ag m)), Ob 1000 (TMember.ob_00000100011101 o0_v)]) (wk_of (by kernel_rfl)) ?_
 unfold raft_member_sends_2 at h
 refine kRs 11 [Tm 5 (.ptr 5 0), Ob 5 (TMsg.ob m)] [] .n ?_
 refine kRs 21 [Ob 5 (TMsg.ob (TMsg.mk m.Kind o0_v.Raft.Me to m.Part o0_v.Raft.Term m.Index m.LogTerm m.Commit m.OK m.Entries m.T m.Session m.Seq m.Pos m.Shard m.Span m.FromKey m.ToKey m.Keys m.Got m.Err))] [] (.c rT .n) ?_
 obtain ⟨c3_1, h⟩ := gd_inv h
 have h_ := some_inj h
 subst h_
 exact kRf [.s (.t 27) [.data (.slc true none 24 (List.map TMsg.en (o0_v.out ++ ([(TMsg.mk m.Kind o0_v.Raft.Me to m.Part o0_v.Raft.Term m.Index m.LogTerm m.Commit m.OK m.Entries m.T m.Session m.Seq m.Pos m.Shard m.Span m.FromKey m.ToKey m.Keys m.Got m.Err)] : List TMsg))))]] (.c (c_al (e := TMsg.en) (f := TMsg.en) c3_1) (.c (congrArg (fun d : DV => [AV.data d]) (c_app (e := TMsg.en) (s := 24) (l := o0_v.out) (m := ([(TMsg.mk m.Kind o0_v.Raft.Me to m.Part o0_v.Raft.Term m.Index m.LogTerm m.Commit m.OK m.Entries m.T m.Session m.Seq m.Pos m.Shard m.Span m.FromKey m.ToKey m.Keys m.Got m.Err)] : List TMsg)))) (.c rT .n)))
/-- (*diwan/raft.member).askVote -/
noncomputable def bd50 : Code := (Try.f50.body).getD .skip
def raft_member_askVote.O : Nat → Nat := fun t => bif ([3, 4, 58] : List Nat).any (Nat.beq t) then 1 else 0
noncomputable def raft_member_askVote (m : TMsg) (o0_v : TMember) : Option TMember :=
 jn (fun (j3_0 : Bool) =>
  br j3_0
   (bd (raft_member_sends_2 m.From (TMsg.mk 2 0 0 0 0 0 0 0 j3_0 [] (TTxn.mk 0 0 [] []) 0 0 0 0 false ByteArray.empty ByteArray.empty [] [] 0) (TMember.mk (TRaft.mk o0_v.Raft.Me o0_v.Raft.Nodes o0_v.Raft.Wait o0_v.Raft.Term m.From o0_v.Raft.Log o0_v.Raft.Commit o0_v.Raft.Role o0_v.Raft.Leader o0_v.Raft.Votes o0_v.Raft.Next o0_v.Raft.Match 0) o0_v.out)) fun r7_1 =>
   some r7_1)
   (bd (raft_member_sends_2 m.From (TMsg.mk 2 0 0 0 0 0 0 0 j3_0 [] (TTxn.mk 0 0 [] []) 0 0 0 0 false ByteArray.empty ByteArray.empty [] [] 0) o0_v) fun r8_1 =>
   some r8_1)) fun k3 =>
 br (m.Term == o0_v.Raft.Term)
  (br (o0_v.Raft.Vote == 0)
   (bd (ulog_Newer o0_v.Raft.Log m.Index m.LogTerm) fun r2_3 =>
   k3 r2_3)
   (br (o0_v.Raft.Vote == m.From)
    (bd (ulog_Newer o0_v.Raft.Log m.Index m.LogTerm) fun r2_4 =>
    k3 r2_4)
    (k3 false)))
  (k3 false)
theorem raft_member_askVote.meets (m : TMsg) (o0_v : TMember) (z0 : TMember) (h : raft_member_askVote m o0_v = some z0) : Meets Try.prog ⟨50, [.ptr 1000 0, .data (TMsg.ag m)], [(TMember.ob_00000100011101 o0_v)]⟩ ⟨.tup [], [(TMember.ob_00000100011101 z0)]⟩ := by
 refine meets_of (O := raft_member_askVote.O) hmix (fn := Try.f50) (code := bd50) (by kernel_rfl) ?_
 refine WK.weak (l := [Tm 0 (.ptr 1000 0), Tm 1 (.data (TMsg.ag m)), Ob 1000 (TMember.ob_00000100011101 o0_v)]) (wk_of (by kernel_rfl)) ?_
 unfold raft_member_askVote at h
 refine kRs 5 [Tm 3 (.ptr 3 0), Ob 3 (TMsg.ob m)] [] .n ?_
 obtain ⟨k3, hk3, h⟩ := jn_inv h
 have Jk3 : ∀ (j3_0 : Bool), k3 j3_0 = some z0 → WK Try.prog raft_member_askVote.O (Ck Try.prog) (cR (cR bd50)) [] (ofL [Tm 0 (.ptr 1000 0), Tm 3 (.ptr 3 0), Tm 4 (bv j3_0), Ob 3 (TMsg.ob m), Ob 1000 (TMember.ob_00000100011101 o0_v)]) (Fin Try.prog raft_member_askVote.O Try.f50 1 ⟨.tup [], [(TMember.ob_00000100011101 z0)]⟩) := by
  intro j3_0 h
  rw [hk3] at h
  refine kSq ?_
  refine kRs 31 [Tm 43 (bv j3_0)] [] .n ?_
  rcases br_inv h with ⟨b5_0, h⟩ | ⟨b5_0, h⟩
  ·refine kCt b5_0 ?_
   refine kRc 30 [Ob 1000 (TMember.ob_00000100011101 (TMember.mk (TRaft.mk o0_v.Raft.Me o0_v.Raft.Nodes o0_v.Raft.Wait o0_v.Raft.Term m.From o0_v.Raft.Log o0_v.Raft.Commit o0_v.Raft.Role o0_v.Raft.Leader o0_v.Raft.Votes o0_v.Raft.Next o0_v.Raft.Match 0) o0_v.out))] [] .n (cR (cR (cR bd50))) [] ?_
   obtain ⟨r7_1, h7_2, h⟩ := bd_inv h
   have h_ := some_inj h
   subst h_
   exact kRf [.a ⟨.tup [], [(TMember.ob_00000100011101 r7_1)]⟩] (.c (Asks.of (C := Meets Try.prog) (raft_member_sends_2.meets m.From (TMsg.mk 2 0 0 0 0 0 0 0 j3_0 [] (TTxn.mk 0 0 [] []) 0 0 0 0 false ByteArray.empty ByteArray.empty [] [] 0) (TMember.mk (TRaft.mk o0_v.Raft.Me o0_v.Raft.Nodes o0_v.Raft.Wait o0_v.Raft.Term m.From o0_v.Raft.Log o0_v.Raft.Commit o0_v.Raft.Role o0_v.Raft.Leader o0_v.Raft.Votes o0_v.Raft.Next o0_v.Raft.Match 0) o0_v.out) _ h7_2)) .n)
  ·refine kCe b5_0 ?_
   refine kSk ?_
   refine kCd (cR (cR (cR bd50))) [] ?_
   obtain ⟨r8_1, h8_2, h⟩ := bd_inv h
   have h_ := some_inj h
   subst h_
   exact kRf [.a ⟨.tup [], [(TMember.ob_00000100011101 r8_1)]⟩] (.c (Asks.of (C := Meets Try.prog) (raft_member_sends_2.meets m.From (TMsg.mk 2 0 0 0 0 0 0 0 j3_0 [] (TTxn.mk 0 0 [] []) 0 0 0 0 false ByteArray.empty ByteArray.empty [] [] 0) o0_v _ h8_2)) .n)
 clear hk3
 rcases br_inv h with ⟨b2_1, h⟩ | ⟨b2_1, h⟩
 ·rcases br_inv h with ⟨b2_2, h⟩ | ⟨b2_2, h⟩
  ·obtain ⟨r2_3, h2_4, h⟩ := bd_inv h
   refine kRs 15 [Tm 4 (bv r2_3)] (rp 28 (.b true) [.a ⟨bv r2_3, []⟩, .b true]) (.r 7 b2_1 (.r 8 b2_2 (.c b2_1 (.c b2_2 (.c b2_1 (.r 10 rT (.c (Asks.of (C := Meets Try.prog) (ulog_Newer.meets o0_v.Raft.Log m.Index m.LogTerm _ h2_4)) (.r 2 rT .n)))))))) ?_
   exact kWk (Jk3 r2_3 h)
  ·rcases br_inv h with ⟨b2_3, h⟩ | ⟨b2_3, h⟩
   ·obtain ⟨r2_4, h2_5, h⟩ := bd_inv h
    refine kRs 15 [Tm 4 (bv r2_4)] (rp 7 (.b true) (rp 8 (.b false) (.b true :: (.b false :: (rp 11 (.b true) [.a ⟨bv r2_4, []⟩, .b true]))))) (.r 7 b2_1 (.r 8 b2_2 (.c b2_1 (.c b2_2 (.c b2_1 (.r 10 b2_3 (.c (Asks.of (C := Meets Try.prog) (ulog_Newer.meets o0_v.Raft.Log m.Index m.LogTerm _ h2_5)) (.c b2_3 (.c rT .n))))))))) ?_
    exact kWk (Jk3 r2_4 h)
   ·refine kRs 15 [Tm 4 (bv false)] (rp 7 (.b true) (rp 8 (.b false) (.b true :: (.b false :: (.b true :: (rp 11 (.b false) [])))))) (.r 7 b2_1 (.r 8 b2_2 (.c b2_1 (.c b2_2 (.c b2_1 (.r 11 b2_3 (.c rT .n))))))) ?_
    exact kWk (Jk3 false h)
 ·refine kRs 15 [Tm 4 (bv false)] (rp 20 (.b false) []) (.r 9 b2_1 (.r 11 rF (.c rT .n))) ?_
  exact kWk (Jk3 false h)
/-- (*diwan/raft.member).vote -/
noncomputable def bd51 : Code := (Try.f51.body).getD .skip
def raft_member_vote.O : Nat → Nat := fun t => bif ([3] : List Nat).any (Nat.beq t) then 1 else 0
noncomputable def raft_member_vote (fu : Nat) (m : TMsg) (o0_v : TMember) : Option TMember :=
 br (m.Term == o0_v.Raft.Term)
  (br (o0_v.Raft.Role == 1)
   (br m.OK
    (ix o0_v.Raft.Votes (w64 (m.From - 1)) fun x4_1 =>
    bd (raft_member_elected fu (TMember.mk (TRaft.mk o0_v.Raft.Me o0_v.Raft.Nodes o0_v.Raft.Wait o0_v.Raft.Term o0_v.Raft.Vote o0_v.Raft.Log o0_v.Raft.Commit o0_v.Raft.Role o0_v.Raft.Leader (o0_v.Raft.Votes.set (w64 (m.From - 1)).toNat true) o0_v.Raft.Next o0_v.Raft.Match o0_v.Raft.Clock) o0_v.out)) fun (r5_1, r5_2) =>
    some r5_2)
    (some o0_v))
   (some o0_v))
  (some o0_v)
theorem raft_member_vote.meets (fu : Nat) (m : TMsg) (o0_v : TMember) (z0 : TMember) (h : raft_member_vote fu m o0_v = some z0) : Meets Try.prog ⟨51, [.ptr 1000 0, .data (TMsg.ag m)], [(TMember.ob_00000100011101 o0_v)]⟩ ⟨.tup [], [(TMember.ob_00000000011101 z0)]⟩ := by
 refine meets_of (O := raft_member_vote.O) hmix (fn := Try.f51) (code := bd51) (by kernel_rfl) ?_
 refine WK.weak (l := [Tm 0 (.ptr 1000 0), Tm 1 (.data (TMsg.ag m)), Ob 1000 (TMember.ob_00000100011101 o0_v)]) (wk_of (by kernel_rfl)) ?_
 unfold raft_member_vote at h
 refine kRs 5 [Tm 3 (.ptr 3 0), Ob 3 (TMsg.ob m)] [] .n ?_
 rcases br_inv h with ⟨b2_1, h⟩ | ⟨b2_1, h⟩
 ·rcases br_inv h with ⟨b2_2, h⟩ | ⟨b2_2, h⟩
  ·refine kRs 15 [Tm 23 (bv m.OK)] (rp 10 (.b true) []) (.r 7 b2_1 (.r 3 b2_2 (.c rT .n))) ?_
   rcases br_inv h with ⟨b3_0, h⟩ | ⟨b3_0, h⟩
   ·refine kCt b3_0 ?_
    obtain ⟨x4_1, a4_2, e4_3, h⟩ := ix_inv h
    refine kRs 8 [Ob 1000 (TMember.ob_00000100011101 (TMember.mk (TRaft.mk o0_v.Raft.Me o0_v.Raft.Nodes o0_v.Raft.Wait o0_v.Raft.Term o0_v.Raft.Vote o0_v.Raft.Log o0_v.Raft.Commit o0_v.Raft.Role o0_v.Raft.Leader (o0_v.Raft.Votes.set (w64 (m.From - 1)).toNat true) o0_v.Raft.Next o0_v.Raft.Match o0_v.Raft.Clock) o0_v.out))] [.c (e_b x4_1), .s (.o 1000) (TMember.ob_00000100011101 (TMember.mk (TRaft.mk o0_v.Raft.Me o0_v.Raft.Nodes o0_v.Raft.Wait o0_v.Raft.Term o0_v.Raft.Vote o0_v.Raft.Log o0_v.Raft.Commit o0_v.Raft.Role o0_v.Raft.Leader (o0_v.Raft.Votes.set (w64 (m.From - 1)).toNat true) o0_v.Raft.Next o0_v.Raft.Match o0_v.Raft.Clock) o0_v.out))] (.c (c_ix (e := e_b) a4_2 e4_3) (.c (c_el (e := e_b) e4_3) (.c (congrArg (fun d : DV => (TMember.ob_00000100011101 (TMember.mk (TRaft.mk o0_v.Raft.Me o0_v.Raft.Nodes o0_v.Raft.Wait o0_v.Raft.Term o0_v.Raft.Vote o0_v.Raft.Log o0_v.Raft.Commit o0_v.Raft.Role o0_v.Raft.Leader (o0_v.Raft.Votes.set (w64 (m.From - 1)).toNat true) o0_v.Raft.Next o0_v.Raft.Match o0_v.Raft.Clock) o0_v.out)).set 9 (AV.data d)) (c_set (e := e_b) (s := 1) (nl := none) (l := o0_v.Raft.Votes) (i := (w64 (m.From - 1)).toNat) (x := true))) (.c rT .n)))) ?_
    obtain ⟨⟨r5_1, r5_2⟩, h5_3, h⟩ := bd_inv h
    have h_ := some_inj h
    subst h_
    exact kRf [.a ⟨bv r5_1, [(TMember.ob_00000000011101 r5_2)]⟩] (.c (Asks.of (C := Meets Try.prog) (raft_member_elected.meets fu (TMember.mk (TRaft.mk o0_v.Raft.Me o0_v.Raft.Nodes o0_v.Raft.Wait o0_v.Raft.Term o0_v.Raft.Vote o0_v.Raft.Log o0_v.Raft.Commit o0_v.Raft.Role o0_v.Raft.Leader (o0_v.Raft.Votes.set (w64 (m.From - 1)).toNat true) o0_v.Raft.Next o0_v.Raft.Match o0_v.Raft.Clock) o0_v.out) _ _ h5_3)) .n)
   ·refine kCe b3_0 ?_
    refine WK.shareO (i := 1000) (cc := 5) (l' := [Ob 1000 (TMember.ob_00000000011101 o0_v)]) (by kernel_rfl) (by kernel_rfl) (by kernel_rfl) ?_
    refine WK.weak (l := [Ob 1000 (TMember.ob_00000000011101 o0_v)]) (wk_of (by kernel_rfl)) ?_
    refine kSk ?_
    have h_ := some_inj h
    subst h_
    exact kFn
  ·refine kRs 15 [Tm 23 (bv false)] (rp 7 (.b true) [.b false, .b false, .b false]) (.r 7 b2_1 (.r 3 b2_2 (.c rT .n))) ?_
   refine kCe rF ?_
   refine WK.shareO (i := 1000) (cc := 5) (l' := [Ob 1000 (TMember.ob_00000000011101 o0_v)]) (by kernel_rfl) (by kernel_rfl) (by kernel_rfl) ?_
   refine WK.weak (l := [Ob 1000 (TMember.ob_00000000011101 o0_v)]) (wk_of (by kernel_rfl)) ?_
   refine kSk ?_
   have h_ := some_inj h
   subst h_
   exact kFn
 ·refine kRs 15 [Tm 23 (bv false)] (rp 10 (.b false) []) (.r 7 b2_1 (.r 3 rF (.c rT .n))) ?_
  refine kCe rF ?_
  refine WK.shareO (i := 1000) (cc := 5) (l' := [Ob 1000 (TMember.ob_00000000011101 o0_v)]) (by kernel_rfl) (by kernel_rfl) (by kernel_rfl) ?_
  refine WK.weak (l := [Ob 1000 (TMember.ob_00000000011101 o0_v)]) (wk_of (by kernel_rfl)) ?_
  refine kSk ?_
  have h_ := some_inj h
  subst h_
  exact kFn
/-- diwan/ulog.Has -/
noncomputable def bd80 : Code := (Try.f80.body).getD .skip
def ulog_Has.O : Nat → Nat := fun t => bif ([6] : List Nat).any (Nat.beq t) then 1 else 0
noncomputable def ulog_Has (l : List TEntry) (i : Int) (term : Int) : Option Bool :=
 br (i == 0)
  (some true)
  (br (decide (i ≥ 1))
   (br (decide (i ≤ (l.length : Int)))
    (bd (ulog_Term l i) fun r2_4 =>
    some (r2_4 == term))
    (some false))
   (some false))
theorem ulog_Has.meets (l : List TEntry) (i : Int) (term : Int) (z0 : Bool) (h : ulog_Has l i term = some z0) : Meets Try.prog ⟨80, [.data (.slc false none 6 (List.map TEntry.en l)), iv i, iv term], []⟩ ⟨bv z0, []⟩ := by
 refine meets_of (O := ulog_Has.O) hmix (fn := Try.f80) (code := bd80) (by kernel_rfl) ?_
 refine WK.weak (l := [Tm 0 (.data (.slc false none 6 (List.map TEntry.en l))), Tm 1 (iv i), Tm 2 (iv term)]) (wk_of (by kernel_rfl)) ?_
 unfold ulog_Has at h
 refine kRs 7 [] [] .n ?_
 rcases br_inv h with ⟨b2_1, h⟩ | ⟨b2_1, h⟩
 ·refine kRs 0 [Tm 6 (bv true)] (rp 7 (.b true) []) (.r 7 b2_1 .n) ?_
  refine WK.weak (l := [Tm 6 (bv true)]) (wk_of (by kernel_rfl)) ?_
  refine kRt ?_
  have h_ := some_inj h
  subst h_
  exact kFr
 ·rcases br_inv h with ⟨b2_2, h⟩ | ⟨b2_2, h⟩
  ·rcases br_inv h with ⟨b2_3, h⟩ | ⟨b2_3, h⟩
   ·obtain ⟨r2_4, h2_5, h⟩ := bd_inv h
    refine kRs 0 [Tm 6 (bv (r2_4 == term))] [.b false, .b false, .b false, .b true, .b true, .b true, .s (.t 15) [iv (l.length : Int)], .b true, .b false, .b true, .b false, .b true, .b true, .b true, .a ⟨iv r2_4, []⟩, .b true, .b true, .b false, .b true, .b false] (.r 3 b2_1 (.r 3 b2_2 (.c (c_len (e := TEntry.en) (l := l)) (.c b2_2 (.c b2_1 (.c b2_2 (.c b2_1 (.r 3 b2_3 (.c (Asks.of (C := Meets Try.prog) (ulog_Term.meets l i _ h2_5)) (.r 2 b2_3 (.c b2_1 (.c b2_3 (.c b2_1 .n))))))))))))) ?_
    refine WK.weak (l := [Tm 6 (bv (r2_4 == term))]) (wk_of (by kernel_rfl)) ?_
    refine kRt ?_
    have h_ := some_inj h
    subst h_
    exact kFr
   ·refine kRs 0 [Tm 6 (bv false)] (.b false :: (.b false :: (.b false :: (.b true :: (.b true :: (.b true :: (.s (.t 15) [iv (l.length : Int)] :: (.b true :: (.b false :: (.b true :: (rp 9 (.b false) []))))))))))) (.r 3 b2_1 (.r 3 b2_2 (.c (c_len (e := TEntry.en) (l := l)) (.c b2_2 (.c b2_1 (.c b2_2 (.c b2_1 (.r 5 b2_3 (.c b2_1 (.c b2_3 (.c b2_1 .n))))))))))) ?_
    refine WK.weak (l := [Tm 6 (bv false)]) (wk_of (by kernel_rfl)) ?_
    refine kRt ?_
    have h_ := some_inj h
    subst h_
    exact kFr
  ·refine kRs 0 [Tm 6 (bv false)] (rp 18 (.b false) []) (.r 3 b2_1 (.r 4 b2_2 (.c b2_1 (.c b2_2 (.c b2_1 (.r 5 rF (.c b2_1 (.c rF (.c b2_1 .n))))))))) ?_
   refine WK.weak (l := [Tm 6 (bv false)]) (wk_of (by kernel_rfl)) ?_
   refine kRt ?_
   have h_ := some_inj h
   subst h_
   exact kFr
/-- slices.Grow[[]diwan/api.Entry,diwan/api.Entry] -/
noncomputable def bd106 : Code := (Try.f106.body).getD .skip
def slices_Grow_api_Entry.O : Nat → Nat := fun t => bif ([0, 1, 4, 25] : List Nat).any (Nat.beq t) then 1 else 0
noncomputable def slices_Grow_api_Entry (n_v : Int) : Option (List TEntry) :=
 br (decide (n_v < 0))
  (none)
  (br (decide ((w64 (n_v - (w64 (0 - 0)))) > 0))
   (gd (decide ((0 : Int) ≤ (0 : Int) ∧ (0 : Int) ≤ (([] : List TEntry).length : Int))) <|
   gd (decide ((0 : Int) ≤ (w64 (n_v - (w64 (0 - 0)))) ∧ (w64 (n_v - (w64 (0 - 0)))) ≤ 4294967296)) <|
   gd (decide ((List.take (0 : Int).toNat ([] : List TEntry)).length + (w64 (n_v - (w64 (0 - 0)))).toNat ≤ 4294967296)) <|
   gd (decide ((0 : Int) ≤ (0 : Int) ∧ (0 : Int) ≤ (((List.take (0 : Int).toNat ([] : List TEntry)) ++ List.replicate (w64 (n_v - (w64 (0 - 0)))).toNat ((TEntry.mk 0 false (TTxn.mk 0 0 [] [])) : TEntry)).length : Int))) <|
   some (List.take (0 : Int).toNat ((List.take (0 : Int).toNat ([] : List TEntry)) ++ List.replicate (w64 (n_v - (w64 (0 - 0)))).toNat ((TEntry.mk 0 false (TTxn.mk 0 0 [] [])) : TEntry))))
   (some []))
theorem slices_Grow_api_Entry.meets (n_v : Int) (z0 : List TEntry) (h : slices_Grow_api_Entry n_v = some z0) : Meets Try.prog ⟨106, [.data (.slc false (some true) 6 (List.map TEntry.en [])), iv n_v], []⟩ ⟨.data (.slc true none 6 (List.map TEntry.en z0)), []⟩ := by
 refine meets_of (O := slices_Grow_api_Entry.O) hmix (fn := Try.f106) (code := bd106) (by kernel_rfl) ?_
 refine WK.weak (l := [Tm 0 (.data (.slc false (some true) 6 (List.map TEntry.en []))), Tm 1 (iv n_v)]) (wk_of (by kernel_rfl)) ?_
 unfold slices_Grow_api_Entry at h
 refine kRs 3 [] [] .n ?_
 refine kSq ?_
 refine kRs 3 [Tm 6 (bv (decide (n_v < 0)))] [] .n ?_
 rcases br_inv h with ⟨b3_0, h⟩ | ⟨b3_0, h⟩
 ·refine kCt b3_0 ?_
  exact no_none h
 ·refine kCe b3_0 ?_
  refine kSk ?_
  refine kCd (cR (cR bd106)) [] ?_
  refine kSq ?_
  refine kRs 2 [Tm 1 (iv (w64 (n_v - (w64 (0 - 0)))))] [] .n ?_
  refine kRs 3 [Tm 16 (bv (decide ((w64 (n_v - (w64 (0 - 0)))) > 0)))] [] .n ?_
  rcases br_inv h with ⟨b7_0, h⟩ | ⟨b7_0, h⟩
  ·refine kCt b7_0 ?_
   obtain ⟨c8_1, h⟩ := gd_inv h
   obtain ⟨c8_2, h⟩ := gd_inv h
   obtain ⟨c8_3, h⟩ := gd_inv h
   obtain ⟨c8_4, h⟩ := gd_inv h
   refine kRc 0 [Tm 0 (.data (.slc true none 6 (List.map TEntry.en (List.take (0 : Int).toNat ((List.take (0 : Int).toNat ([] : List TEntry)) ++ List.replicate (w64 (n_v - (w64 (0 - 0)))).toNat ((TEntry.mk 0 false (TTxn.mk 0 0 [] [])) : TEntry))))))] [.s (.t 20) [.data (.slc false (some true) 6 (List.map TEntry.en (List.take (0 : Int).toNat ([] : List TEntry))))], .s (.t 22) [.data (.slc true none 6 (List.map TEntry.en ((List.take (0 : Int).toNat ([] : List TEntry)) ++ List.replicate (w64 (n_v - (w64 (0 - 0)))).toNat ((TEntry.mk 0 false (TTxn.mk 0 0 [] [])) : TEntry))))], .s (.t 25) [.data (.slc true none 6 (List.map TEntry.en (List.take (0 : Int).toNat ((List.take (0 : Int).toNat ([] : List TEntry)) ++ List.replicate (w64 (n_v - (w64 (0 - 0)))).toNat ((TEntry.mk 0 false (TTxn.mk 0 0 [] [])) : TEntry)))))]] (.c (c_cbH (e := TEntry.en) c8_1) (.c (congrArg (fun d : DV => [AV.data d]) (c_cutH (own := false) (nl := (some true)) (s := 6) (e := TEntry.en) (l := ([] : List TEntry)) (h := (0 : Int).toNat))) (.c c8_2 (.c (c_alz (e := TEntry.en) c8_3) (.c (congrArg (fun d : DV => [AV.data d]) (c_appz (e := TEntry.en) (s := 6) (l := (List.take (0 : Int).toNat ([] : List TEntry))) (n := (w64 (n_v - (w64 (0 - 0)))).toNat) (x := ((TEntry.mk 0 false (TTxn.mk 0 0 [] [])) : TEntry)))) (.c (c_cbH (e := TEntry.en) c8_4) (.c (congrArg (fun d : DV => [AV.data d]) (c_cutH (own := true) (nl := none) (s := 6) (e := TEntry.en) (l := ((List.take (0 : Int).toNat ([] : List TEntry)) ++ List.replicate (w64 (n_v - (w64 (0 - 0)))).toNat ((TEntry.mk 0 false (TTxn.mk 0 0 [] [])) : TEntry))) (h := (0 : Int).toNat))) .n))))))) (cR (cR (cR bd106))) [] ?_
   refine kRs 0 [Tm 4 (.data (.slc true none 6 (List.map TEntry.en (List.take (0 : Int).toNat ((List.take (0 : Int).toNat ([] : List TEntry)) ++ List.replicate (w64 (n_v - (w64 (0 - 0)))).toNat ((TEntry.mk 0 false (TTxn.mk 0 0 [] [])) : TEntry))))))] [] .n ?_
   refine WK.weak (l := [Tm 4 (.data (.slc true none 6 (List.map TEntry.en (List.take (0 : Int).toNat ((List.take (0 : Int).toNat ([] : List TEntry)) ++ List.replicate (w64 (n_v - (w64 (0 - 0)))).toNat ((TEntry.mk 0 false (TTxn.mk 0 0 [] [])) : TEntry))))))]) (wk_of (by kernel_rfl)) ?_
   refine kRt ?_
   have h_ := some_inj h
   subst h_
   exact kFr
  ·refine kCe b7_0 ?_
   refine kSk ?_
   refine kCd (cR (cR (cR bd106))) [] ?_
   refine kRs 0 [Tm 4 (.data (.slc true (some true) 6 (List.map TEntry.en [])))] [] .n ?_
   refine WK.weak (l := [Tm 4 (.data (.slc true none 6 (List.map TEntry.en [])))]) (wk_of (by kernel_rfl)) ?_
   refine kRt ?_
   have h_ := some_inj h
   subst h_
   exact kFr
/-- slices.Concat[[]diwan/api.Entry,diwan/api.Entry] -/
noncomputable def bd100 : Code := (Try.f100.body).getD .skip
def slices_Concat_api_Entry.O : Nat → Nat := fun t => bif ([2, 3, 6] : List Nat).any (Nat.beq t) then 1 else 0
noncomputable def slices_Concat_api_Entry.lp4 (fu : Nat) (l4_0 : List (List TEntry)) (l4_2 : List (List TEntry)) (l4_3 : Int) : Nat → Int → Int → Option Int
  | 0, _, _ => none
  | n_ + 1, l4_1, l4_4 =>
  br (decide (l4_4 < l4_3))
   (ix l4_2 l4_4 fun x7_1 =>
   br (decide ((w64 (l4_1 + (x7_1.length : Int))) < 0))
    (none)
    (slices_Concat_api_Entry.lp4 fu l4_0 l4_2 l4_3 n_ (w64 (l4_1 + (x7_1.length : Int))) (w64 (l4_4 + 1))))
   (some l4_1)
noncomputable def slices_Concat_api_Entry.lp4_post (l4_0 : List (List TEntry)) (l4_2 : List (List TEntry)) (l4_3 : Int) (r_ : Int) : Wy → St → Prop := fun e τ => match r_ with
  | y0 => e = .exit 0 ∧ τ = ofL [Tm 0 (.data (.slc false none 1 (List.map (e_l 6 TEntry.en) l4_0))), Tm 3 (iv y0)]
theorem slices_Concat_api_Entry.lp4_ok (fu : Nat) (l4_0 : List (List TEntry)) (l4_2 : List (List TEntry)) (l4_3 : Int) : ∀ (n_ : Nat) (l4_1 : Int) (l4_4 : Int) (r_ : Int), slices_Concat_api_Entry.lp4 fu l4_0 l4_2 l4_3 n_ l4_1 l4_4 = some r_ → WK Try.prog slices_Concat_api_Entry.O (Ck Try.prog) (cB (cR (cL (cR (cR bd100))))) [] (ofL [Tm 0 (.data (.slc false none 1 (List.map (e_l 6 TEntry.en) l4_0))), Tm 3 (iv l4_1), Tm 9 (.data (.slc false none 1 (List.map (e_l 6 TEntry.en) l4_2))), Tm 10 (iv l4_3), Tm 11 (iv l4_4)]) (slices_Concat_api_Entry.lp4_post l4_0 l4_2 l4_3 r_) := by
 intro n_
 induction n_ with
 | zero => intro l4_1 l4_4 r_ h; exact no_none h
 | succ n_ ih =>
  intro l4_1 l4_4 r_ h
  refine kLp ?_
  refine kRs 31 [Tm 12 (bv (decide (l4_4 < l4_3)))] [] .n ?_
  refine kSq ?_
  rcases br_inv h with ⟨b6_0, h⟩ | ⟨b6_0, h⟩
  ·refine kCt b6_0 ?_
   refine kSk ?_
   refine kCd (cR (cR (cB (cB (cR (cL (cR (cR bd100)))))))) [.lp (cB (cR (cL (cR (cR bd100)))))] ?_
   refine kSq ?_
   refine kBk 1 ?_
   obtain ⟨x7_1, a7_2, e7_3, h⟩ := ix_inv h
   refine kRs 62 [Tm 5 (.data (.slc false none 6 (List.map TEntry.en x7_1)))] [.c ((e_l 6 TEntry.en) x7_1)] (.c (c_ix (e := (e_l 6 TEntry.en)) a7_2 e7_3) (.c (c_el (e := (e_l 6 TEntry.en)) e7_3) .n)) ?_
   refine kRs 58 [Tm 3 (iv (w64 (l4_1 + (x7_1.length : Int))))] [.s (.t 17) [iv (x7_1.length : Int)]] (.c (c_len (e := TEntry.en) (l := x7_1)) .n) ?_
   refine kRs 31 [Tm 20 (bv (decide ((w64 (l4_1 + (x7_1.length : Int))) < 0)))] [] .n ?_
   rcases br_inv h with ⟨b10_0, h⟩ | ⟨b10_0, h⟩
   ·refine kCt b10_0 ?_
    exact no_none h
   ·refine kCe b10_0 ?_
    refine kSk ?_
    refine kCd (cR (cR (cR (cB (cB (cR (cL (cR (cR bd100))))))))) [.lp (cB (cR (cL (cR (cR bd100)))))] ?_
    refine kRc 30 [Tm 11 (iv (w64 (l4_4 + 1)))] [] .n (cB (cR (cL (cR (cR bd100))))) [] ?_
    exact kWk (ih (w64 (l4_1 + (x7_1.length : Int))) (w64 (l4_4 + 1)) _ h)
  ·refine kCe b6_0 ?_
   cases some_inj h
   refine kWo ?_
   refine kXt 0 ?_
   exact kOut
noncomputable def slices_Concat_api_Entry.lp16 (fu : Nat) (l16_1 : List (List TEntry)) (l16_2 : Int) : Nat → (List TEntry) → Int → Option (List TEntry)
  | 0, _, _ => none
  | n_ + 1, l16_0, l16_3 =>
  br (decide (l16_3 < l16_2))
   (ix l16_1 l16_3 fun x19_1 =>
   gd (decide (l16_0.length + x19_1.length ≤ 4294967296)) <|
   slices_Concat_api_Entry.lp16 fu l16_1 l16_2 n_ (l16_0 ++ x19_1) (w64 (l16_3 + 1)))
   (some l16_0)
noncomputable def slices_Concat_api_Entry.lp16_post (l16_1 : List (List TEntry)) (l16_2 : Int) (r_ : (List TEntry)) : Wy → St → Prop := fun e τ => match r_ with
  | y0 => e = .exit 2 ∧ τ = ofL [Tm 6 (.data (.slc true none 6 (List.map TEntry.en y0)))]
theorem slices_Concat_api_Entry.lp16_ok (fu : Nat) (l16_1 : List (List TEntry)) (l16_2 : Int) : ∀ (n_ : Nat) (l16_0 : List TEntry) (l16_3 : Int) (r_ : (List TEntry)), slices_Concat_api_Entry.lp16 fu l16_1 l16_2 n_ l16_0 l16_3 = some r_ → WK Try.prog slices_Concat_api_Entry.O (Ck Try.prog) (cB (cR (cL (cR (cR (cR (cR bd100))))))) [] (ofL [Tm 6 (.data (.slc true none 6 (List.map TEntry.en l16_0))), Tm 25 (.data (.slc false none 1 (List.map (e_l 6 TEntry.en) l16_1))), Tm 26 (iv l16_2), Tm 27 (iv l16_3)]) (slices_Concat_api_Entry.lp16_post l16_1 l16_2 r_) := by
 intro n_
 induction n_ with
 | zero => intro l16_0 l16_3 r_ h; exact no_none h
 | succ n_ ih =>
  intro l16_0 l16_3 r_ h
  refine kLp ?_
  refine kRs 15 [Tm 28 (bv (decide (l16_3 < l16_2)))] [] .n ?_
  refine kSq ?_
  rcases br_inv h with ⟨b18_0, h⟩ | ⟨b18_0, h⟩
  ·refine kCt b18_0 ?_
   refine kSk ?_
   refine kCd (cR (cR (cB (cB (cR (cL (cR (cR (cR (cR bd100)))))))))) [.lp (cB (cR (cL (cR (cR (cR (cR bd100)))))))] ?_
   refine kSq ?_
   refine kBk 3 ?_
   obtain ⟨x19_1, a19_2, e19_3, h⟩ := ix_inv h
   refine kRs 30 [Tm 8 (.data (.slc false none 6 (List.map TEntry.en x19_1)))] [.c ((e_l 6 TEntry.en) x19_1)] (.c (c_ix (e := (e_l 6 TEntry.en)) a19_2 e19_3) (.c (c_el (e := (e_l 6 TEntry.en)) e19_3) .n)) ?_
   obtain ⟨c20_1, h⟩ := gd_inv h
   refine kRc 28 [Tm 6 (.data (.slc true none 6 (List.map TEntry.en (l16_0 ++ x19_1))))] [.s (.t 33) [.data (.slc true none 6 (List.map TEntry.en (l16_0 ++ x19_1)))]] (.c (c_al (e := TEntry.en) (f := TEntry.en) c20_1) (.c (congrArg (fun d : DV => [AV.data d]) (c_app (e := TEntry.en) (s := 6) (l := l16_0) (m := x19_1))) .n)) (cR (cR (cR (cB (cB (cR (cL (cR (cR (cR (cR bd100))))))))))) [.lp (cB (cR (cL (cR (cR (cR (cR bd100)))))))] ?_
   refine kRc 7 [Tm 27 (iv (w64 (l16_3 + 1)))] [] .n (cB (cR (cL (cR (cR (cR (cR bd100))))))) [] ?_
   exact kWk (ih (l16_0 ++ x19_1) (w64 (l16_3 + 1)) _ h)
  ·refine kCe b18_0 ?_
   cases some_inj h
   refine kWo ?_
   refine kXt 2 ?_
   exact kOut
noncomputable def slices_Concat_api_Entry (fu : Nat) (slices : List (List TEntry)) : Option (List TEntry) :=
 bd (slices_Concat_api_Entry.lp4 fu slices slices (slices.length : Int) fu 0 0) fun y13_0 =>
 bd (slices_Grow_api_Entry y13_0) fun r14_1 =>
 bd (slices_Concat_api_Entry.lp16 fu slices (slices.length : Int) fu r14_1 0) fun y22_0 =>
 some y22_0
theorem slices_Concat_api_Entry.meets (fu : Nat) (slices : List (List TEntry)) (z0 : List TEntry) (h : slices_Concat_api_Entry fu slices = some z0) : Meets Try.prog ⟨100, [.data (.slc false none 1 (List.map (e_l 6 TEntry.en) slices))], []⟩ ⟨.data (.slc true none 6 (List.map TEntry.en z0)), []⟩ := by
 refine meets_of (O := slices_Concat_api_Entry.O) hmix (fn := Try.f100) (code := bd100) (by kernel_rfl) ?_
 refine WK.weak (l := [Tm 0 (.data (.slc false none 1 (List.map (e_l 6 TEntry.en) slices)))]) (wk_of (by kernel_rfl)) ?_
 unfold slices_Concat_api_Entry at h
 refine kRs 1 [] [] .n ?_
 refine kRs 1 [Tm 3 (iv 0)] [] .n ?_
 refine kSq ?_
 refine kRs 3 [Tm 9 (.data (.slc false none 1 (List.map (e_l 6 TEntry.en) slices))), Tm 10 (iv (slices.length : Int)), Tm 11 (iv 0)] [.s (.t 10) [iv (slices.length : Int)]] (.c (c_len (e := (e_l 6 TEntry.en)) (l := slices)) .n) ?_
 refine kBk 0 ?_
 obtain ⟨o13, ho13, h⟩ := bd_inv h
 refine kUs (slices_Concat_api_Entry.lp4_ok fu slices slices (slices.length : Int) _ 0 0 _ ho13) ?_
 intro e_ τ_ hp_
 obtain ⟨y13_0, rfl⟩ : ∃ y, y = o13 := ⟨_, rfl⟩
 obtain ⟨rfl, rfl⟩ := hp_
 refine kCd (cR (cR (cR bd100))) [] ?_
 obtain ⟨r14_1, h14_2, h⟩ := bd_inv h
 refine kRs 1 [Tm 6 (.data (.slc true none 6 (List.map TEntry.en r14_1)))] [.a ⟨.data (.slc true none 6 (List.map TEntry.en r14_1)), []⟩] (.c (Asks.of (C := Meets Try.prog) (slices_Grow_api_Entry.meets y13_0 _ h14_2)) .n) ?_
 refine kSq ?_
 refine kRs 1 [Tm 25 (.data (.slc false none 1 (List.map (e_l 6 TEntry.en) slices))), Tm 26 (iv (slices.length : Int)), Tm 27 (iv 0)] [.s (.t 26) [iv (slices.length : Int)]] (.c (c_len (e := (e_l 6 TEntry.en)) (l := slices)) .n) ?_
 refine kBk 2 ?_
 obtain ⟨o22, ho22, h⟩ := bd_inv h
 refine kUs (slices_Concat_api_Entry.lp16_ok fu slices (slices.length : Int) _ r14_1 0 _ ho22) ?_
 intro e_ τ_ hp_
 obtain ⟨y22_0, rfl⟩ : ∃ y, y = o22 := ⟨_, rfl⟩
 obtain ⟨rfl, rfl⟩ := hp_
 refine kCd (cR (cR (cR (cR (cR bd100))))) [] ?_
 refine kRs 0 [Tm 2 (.data (.slc true none 6 (List.map TEntry.en y22_0)))] [] .n ?_
 refine WK.weak (l := [Tm 2 (.data (.slc true none 6 (List.map TEntry.en y22_0)))]) (wk_of (by kernel_rfl)) ?_
 refine kRt ?_
 have h_ := some_inj h
 subst h_
 exact kFr
/-- diwan/ulog.Join -/
noncomputable def bd81 : Code := (Try.f81.body).getD .skip
def ulog_Join.O : Nat → Nat := fun t => bif ([6, 7, 8, 9, 46, 49, 50] : List Nat).any (Nat.beq t) then 1 else 0
noncomputable def ulog_Join.lp7 (fu : Nat) (l7_0 : List TEntry) (l7_1 : Int) (l7_2 : List TEntry) (l7_3 : List TEntry) (l7_4 : Int) : Nat → Int → Option (Unit ⊕ (List TEntry))
  | 0, _ => none
  | n_ + 1, l7_5 =>
  br (decide (l7_5 < l7_4))
   (ix l7_3 l7_5 fun x10_1 =>
   br (decide ((w64 (l7_1 + l7_5)) ≥ (l7_0.length : Int)))
    (gd (decide ((0 : Int) ≤ (w64 (l7_1 + l7_5)) ∧ (w64 (l7_1 + l7_5)) ≤ (l7_0.length : Int))) <|
    gd (decide ((0 : Int) ≤ l7_5 ∧ l7_5 ≤ (l7_2.length : Int))) <|
    bd (slices_Concat_api_Entry fu ([(List.take (w64 (l7_1 + l7_5)).toNat l7_0), (List.drop l7_5.toNat l7_2)] : List (List TEntry))) fun r13_3 =>
    some (.inr r13_3))
    (ix l7_0 (w64 (l7_1 + l7_5)) fun x12_2 =>
    br (x12_2.Term != x10_1.Term)
     (gd (decide ((0 : Int) ≤ (w64 (l7_1 + l7_5)) ∧ (w64 (l7_1 + l7_5)) ≤ (l7_0.length : Int))) <|
     gd (decide ((0 : Int) ≤ l7_5 ∧ l7_5 ≤ (l7_2.length : Int))) <|
     bd (slices_Concat_api_Entry fu ([(List.take (w64 (l7_1 + l7_5)).toNat l7_0), (List.drop l7_5.toNat l7_2)] : List (List TEntry))) fun r15_3 =>
     some (.inr r15_3))
     (ulog_Join.lp7 fu l7_0 l7_1 l7_2 l7_3 l7_4 n_ (w64 (l7_5 + 1)))))
   (some (.inl ()))
noncomputable def ulog_Join.lp7_post (l7_0 : List TEntry) (l7_1 : Int) (l7_2 : List TEntry) (l7_3 : List TEntry) (l7_4 : Int) (r_ : (Unit ⊕ (List TEntry))) : Wy → St → Prop := fun e τ => match r_ with
  | .inl _ => e = .exit 0 ∧ τ = ofL [Tm 0 (.data (.slc false none 6 (List.map TEntry.en l7_0)))]
  | .inr y0 => e = .ret ∧ τ = ofL [Tm 6 (.data (.slc true none 6 (List.map TEntry.en y0)))]
theorem ulog_Join.lp7_ok (fu : Nat) (l7_0 : List TEntry) (l7_1 : Int) (l7_2 : List TEntry) (l7_3 : List TEntry) (l7_4 : Int) : ∀ (n_ : Nat) (l7_5 : Int) (r_ : (Unit ⊕ (List TEntry))), ulog_Join.lp7 fu l7_0 l7_1 l7_2 l7_3 l7_4 n_ l7_5 = some r_ → WK Try.prog ulog_Join.O (Ck Try.prog) (cB (cR (cL (cR (cR bd81))))) [] (ofL [Tm 0 (.data (.slc false none 6 (List.map TEntry.en l7_0))), Tm 1 (iv l7_1), Tm 2 (.data (.slc false none 6 (List.map TEntry.en l7_2))), Tm 20 (.data (.slc false none 6 (List.map TEntry.en l7_3))), Tm 21 (iv l7_4), Tm 22 (iv l7_5)]) (ulog_Join.lp7_post l7_0 l7_1 l7_2 l7_3 l7_4 r_) := by
 intro n_
 induction n_ with
 | zero => intro l7_5 r_ h; exact no_none h
 | succ n_ ih =>
  intro l7_5 r_ h
  refine kLp ?_
  refine kRs 63 [Tm 23 (bv (decide (l7_5 < l7_4)))] [] .n ?_
  refine kSq ?_
  rcases br_inv h with ⟨b9_0, h⟩ | ⟨b9_0, h⟩
  ·refine kCt b9_0 ?_
   refine kSk ?_
   refine kCd (cR (cR (cB (cB (cR (cL (cR (cR bd81)))))))) [.lp (cB (cR (cL (cR (cR bd81)))))] ?_
   refine kSq ?_
   refine kBk 1 ?_
   obtain ⟨x10_1, a10_2, e10_3, h⟩ := ix_inv h
   refine kRs 126 [Tm 7 (iv l7_5), Tm 8 (.ptr 8 0), Ob 8 (TEntry.ob x10_1)] [.c (TEntry.en x10_1)] (.c (c_ix (e := TEntry.en) a10_2 e10_3) (.c (c_el (e := TEntry.en) e10_3) .n)) ?_
   refine kRs 511 [Tm 9 (iv (w64 (l7_1 + l7_5)))] [] .n ?_
   rcases br_inv h with ⟨b12_1, h⟩ | ⟨b12_1, h⟩
   ·refine kRs 1011 [Tm 43 (bv true)] (.s (.t 32) [iv (l7_0.length : Int)] :: (rp 9 (.b true) [])) (.c (c_len (e := TEntry.en) (l := l7_0)) (.r 9 b12_1 (.c rT .n))) ?_
    refine kCt rT ?_
    obtain ⟨c13_1, h⟩ := gd_inv h
    obtain ⟨c13_2, h⟩ := gd_inv h
    obtain ⟨r13_3, h13_4, h⟩ := bd_inv h
    refine kRs 0 [Tm 6 (.data (.slc true none 6 (List.map TEntry.en r13_3)))] [.s (.t 46) [.data (.slc false none 6 (List.map TEntry.en (List.take (w64 (l7_1 + l7_5)).toNat l7_0)))], .s (.t 49) [.data (.slc false none 6 (List.map TEntry.en (List.drop l7_5.toNat l7_2)))], .a ⟨.data (.slc true none 6 (List.map TEntry.en r13_3)), []⟩] (.c (c_cbH (e := TEntry.en) c13_1) (.c (congrArg (fun d : DV => [AV.data d]) (c_cutH (own := false) (nl := none) (s := 6) (e := TEntry.en) (l := l7_0) (h := (w64 (l7_1 + l7_5)).toNat))) (.c (c_cbL (e := TEntry.en) c13_2) (.c (congrArg (fun d : DV => [AV.data d]) (c_cutL (own := false) (nl := none) (s := 6) (e := TEntry.en) (l := l7_2) (lo := l7_5.toNat))) (.c (Asks.fg (args1 := []) (args2 := []) (nl := some false) (sz := 1) (es := List.map (e_l 6 TEntry.en) ([(List.take (w64 (l7_1 + l7_5)).toNat l7_0), (List.drop l7_5.toNat l7_2)] : List (List TEntry))) (Asks.of (C := Meets Try.prog) (slices_Concat_api_Entry.meets fu ([(List.take (w64 (l7_1 + l7_5)).toNat l7_0), (List.drop l7_5.toNat l7_2)] : List (List TEntry)) _ h13_4))) (.c rT .n)))))) ?_
    cases some_inj h
    refine kWo ?_
    refine kRt ?_
    exact kOut
   ·obtain ⟨x12_2, a12_3, e12_4, h⟩ := ix_inv h
    refine kRs 1011 [Tm 43 (bv (x12_2.Term != x10_1.Term))] (.s (.t 32) [iv (l7_0.length : Int)] :: (.b false :: (.b false :: (.b false :: (.c (TEntry.en x12_2) :: (rp 6 (.b false) [])))))) (.c (c_len (e := TEntry.en) (l := l7_0)) (.r 3 b12_1 (.c (c_ix (e := TEntry.en) a12_3 e12_4) (.c (c_el (e := TEntry.en) e12_4) (.r 6 b12_1 (.c rT .n)))))) ?_
    rcases br_inv h with ⟨b14_0, h⟩ | ⟨b14_0, h⟩
    ·refine kCt b14_0 ?_
     obtain ⟨c15_1, h⟩ := gd_inv h
     obtain ⟨c15_2, h⟩ := gd_inv h
     obtain ⟨r15_3, h15_4, h⟩ := bd_inv h
     refine kRs 0 [Tm 6 (.data (.slc true none 6 (List.map TEntry.en r15_3)))] [.s (.t 46) [.data (.slc false none 6 (List.map TEntry.en (List.take (w64 (l7_1 + l7_5)).toNat l7_0)))], .s (.t 49) [.data (.slc false none 6 (List.map TEntry.en (List.drop l7_5.toNat l7_2)))], .a ⟨.data (.slc true none 6 (List.map TEntry.en r15_3)), []⟩] (.c (c_cbH (e := TEntry.en) c15_1) (.c (congrArg (fun d : DV => [AV.data d]) (c_cutH (own := false) (nl := none) (s := 6) (e := TEntry.en) (l := l7_0) (h := (w64 (l7_1 + l7_5)).toNat))) (.c (c_cbL (e := TEntry.en) c15_2) (.c (congrArg (fun d : DV => [AV.data d]) (c_cutL (own := false) (nl := none) (s := 6) (e := TEntry.en) (l := l7_2) (lo := l7_5.toNat))) (.c (Asks.fg (args1 := []) (args2 := []) (nl := some false) (sz := 1) (es := List.map (e_l 6 TEntry.en) ([(List.take (w64 (l7_1 + l7_5)).toNat l7_0), (List.drop l7_5.toNat l7_2)] : List (List TEntry))) (Asks.of (C := Meets Try.prog) (slices_Concat_api_Entry.meets fu ([(List.take (w64 (l7_1 + l7_5)).toNat l7_0), (List.drop l7_5.toNat l7_2)] : List (List TEntry)) _ h15_4))) (.c rT .n)))))) ?_
     cases some_inj h
     refine kWo ?_
     refine kRt ?_
     exact kOut
    ·refine kCe b14_0 ?_
     refine kSk ?_
     refine kCd (cR (cR (cR (cB (cB (cR (cL (cR (cR bd81))))))))) [.lp (cB (cR (cL (cR (cR bd81)))))] ?_
     refine kRc 248 [Tm 22 (iv (w64 (l7_5 + 1)))] [] .n (cB (cR (cL (cR (cR bd81))))) [] ?_
     exact kWk (ih (w64 (l7_5 + 1)) _ h)
  ·refine kCe b9_0 ?_
   cases some_inj h
   refine kWo ?_
   refine kXt 0 ?_
   exact kOut
noncomputable def ulog_Join (fu : Nat) (l : List TEntry) (i : Int) (more : List TEntry) : Option (List TEntry) :=
 br (decide (i < 0))
  (bd (slices_Clone_api_Entry l) fun r3_1 =>
  some r3_1)
  (br (decide (i > (l.length : Int)))
   (bd (slices_Clone_api_Entry l) fun r5_1 =>
   some r5_1)
   (bd (ulog_Join.lp7 fu l i more more (more.length : Int) fu 0) fun o_ => (match o_ with
   | .inl _ =>
    bd (slices_Clone_api_Entry l) fun r18_1 =>
    some r18_1
   | .inr y17_0 =>
    some y17_0)))
theorem ulog_Join.meets (fu : Nat) (l : List TEntry) (i : Int) (more : List TEntry) (z0 : List TEntry) (h : ulog_Join fu l i more = some z0) : Meets Try.prog ⟨81, [.data (.slc false none 6 (List.map TEntry.en l)), iv i, .data (.slc false none 6 (List.map TEntry.en more))], []⟩ ⟨.data (.slc true none 6 (List.map TEntry.en z0)), []⟩ := by
 refine meets_of (O := ulog_Join.O) hmix (fn := Try.f81) (code := bd81) (by kernel_rfl) ?_
 refine WK.weak (l := [Tm 0 (.data (.slc false none 6 (List.map TEntry.en l))), Tm 1 (iv i), Tm 2 (.data (.slc false none 6 (List.map TEntry.en more)))]) (wk_of (by kernel_rfl)) ?_
 unfold ulog_Join at h
 refine kRs 7 [] [] .n ?_
 refine kSq ?_
 rcases br_inv h with ⟨b2_1, h⟩ | ⟨b2_1, h⟩
 ·refine kRs 7 [Tm 17 (bv true)] (rp 5 (.b true) []) (.r 5 b2_1 .n) ?_
  refine kCt rT ?_
  obtain ⟨r3_1, h3_2, h⟩ := bd_inv h
  refine kRs 0 [Tm 6 (.data (.slc true none 6 (List.map TEntry.en r3_1)))] [.a ⟨.data (.slc true none 6 (List.map TEntry.en r3_1)), []⟩] (.c (Asks.of (C := Meets Try.prog) (slices_Clone_api_Entry.meets l _ h3_2)) .n) ?_
  refine WK.weak (l := [Tm 6 (.data (.slc true none 6 (List.map TEntry.en r3_1)))]) (wk_of (by kernel_rfl)) ?_
  refine kRt ?_
  have h_ := some_inj h
  subst h_
  exact kFr
 ·refine kRs 7 [Tm 17 (bv (decide (i > (l.length : Int))))] [.b false, .b false, .b false, .s (.t 15) [iv (l.length : Int)], .b false, .b false] (.r 3 b2_1 (.c (c_len (e := TEntry.en) (l := l)) (.r 2 b2_1 .n))) ?_
  rcases br_inv h with ⟨b4_0, h⟩ | ⟨b4_0, h⟩
  ·refine kCt b4_0 ?_
   obtain ⟨r5_1, h5_2, h⟩ := bd_inv h
   refine kRs 0 [Tm 6 (.data (.slc true none 6 (List.map TEntry.en r5_1)))] [.a ⟨.data (.slc true none 6 (List.map TEntry.en r5_1)), []⟩] (.c (Asks.of (C := Meets Try.prog) (slices_Clone_api_Entry.meets l _ h5_2)) .n) ?_
   refine WK.weak (l := [Tm 6 (.data (.slc true none 6 (List.map TEntry.en r5_1)))]) (wk_of (by kernel_rfl)) ?_
   refine kRt ?_
   have h_ := some_inj h
   subst h_
   exact kFr
  ·refine kCe b4_0 ?_
   refine kSk ?_
   refine kCd (cR (cR bd81)) [] ?_
   refine kSq ?_
   refine kRs 14 [Tm 20 (.data (.slc false none 6 (List.map TEntry.en more))), Tm 21 (iv (more.length : Int)), Tm 22 (iv 0)] [.s (.t 21) [iv (more.length : Int)]] (.c (c_len (e := TEntry.en) (l := more)) .n) ?_
   refine kBk 0 ?_
   obtain ⟨o17, ho17, h⟩ := bd_inv h
   refine kUs (ulog_Join.lp7_ok fu l i more more (more.length : Int) _ 0 _ ho17) ?_
   intro e_ τ_ hp_
   rcases o17 with o17 | o17
   ·obtain ⟨⟩ := o17
    obtain ⟨rfl, rfl⟩ := hp_
    refine kCd (cR (cR (cR bd81))) [] ?_
    obtain ⟨r18_1, h18_2, h⟩ := bd_inv h
    refine kRs 0 [Tm 6 (.data (.slc true none 6 (List.map TEntry.en r18_1)))] [.a ⟨.data (.slc true none 6 (List.map TEntry.en r18_1)), []⟩] (.c (Asks.of (C := Meets Try.prog) (slices_Clone_api_Entry.meets l _ h18_2)) .n) ?_
    refine WK.weak (l := [Tm 6 (.data (.slc true none 6 (List.map TEntry.en r18_1)))]) (wk_of (by kernel_rfl)) ?_
    refine kRt ?_
    have h_ := some_inj h
    subst h_
    exact kFr
   ·obtain ⟨y17_0, rfl⟩ : ∃ y, y = o17 := ⟨_, rfl⟩
    obtain ⟨rfl, rfl⟩ := hp_
    have h_ := some_inj h
    subst h_
    exact kFr
/-- (*diwan/raft.member).append -/
noncomputable def bd52 : Code := (Try.f52.body).getD .skip
def raft_member_append.O : Nat → Nat := fun t => bif ([3, 4, 5, 17, 64, 82, 93, 103, 114] : List Nat).any (Nat.beq t) then 1 else 0
noncomputable def raft_member_append (fu : Nat) (m : TMsg) (o0_v : TMember) : Option TMember :=
 br (decide (m.Term < o0_v.Raft.Term))
  (bd (raft_member_sends_2 m.From (TMsg.mk 4 0 0 0 0 0 0 0 false [] (TTxn.mk 0 0 [] []) 0 0 0 0 false ByteArray.empty ByteArray.empty [] [] 0) o0_v) fun r4_1 =>
  some r4_1)
  (br (o0_v.Raft.Role == 2)
   (some o0_v)
   (bd (ulog_Has o0_v.Raft.Log m.Index m.LogTerm) fun r8_1 =>
   br (!r8_1)
    (bd (raft_member_sends_2 m.From (TMsg.mk 4 0 0 0 0 (if (if (o0_v.Raft.Log.length : Int) < (w64 (m.Index - 1)) then (o0_v.Raft.Log.length : Int) else (w64 (m.Index - 1))) < 0 then 0 else (if (o0_v.Raft.Log.length : Int) < (w64 (m.Index - 1)) then (o0_v.Raft.Log.length : Int) else (w64 (m.Index - 1)))) 0 0 false [] (TTxn.mk 0 0 [] []) 0 0 0 0 false ByteArray.empty ByteArray.empty [] [] 0) (TMember.mk (TRaft.mk o0_v.Raft.Me o0_v.Raft.Nodes o0_v.Raft.Wait o0_v.Raft.Term o0_v.Raft.Vote o0_v.Raft.Log o0_v.Raft.Commit 0 m.From o0_v.Raft.Votes o0_v.Raft.Next o0_v.Raft.Match 0) o0_v.out)) fun r10_1 =>
    some r10_1)
    (bd (ulog_Join fu o0_v.Raft.Log m.Index m.Entries) fun r11_1 =>
    br (decide ((r11_1.length : Int) > 200))
     (bd (raft_member_sends m.From (TMsg.mk 4 0 0 0 0 0 0 0 false [] (TTxn.mk 0 0 [] []) 0 0 0 0 false ByteArray.empty ByteArray.empty [] [] 0) (TMember.mk (TRaft.mk o0_v.Raft.Me o0_v.Raft.Nodes o0_v.Raft.Wait o0_v.Raft.Term o0_v.Raft.Vote o0_v.Raft.Log o0_v.Raft.Commit 0 m.From o0_v.Raft.Votes o0_v.Raft.Next o0_v.Raft.Match 0) o0_v.out)) fun r14_1 =>
     some r14_1)
     (bd (raft_entries fu r11_1) fun r16_1 =>
     bd (raft_member_sends m.From (TMsg.mk 4 0 0 0 0 (w64 (m.Index + (m.Entries.length : Int))) 0 0 true [] (TTxn.mk 0 0 [] []) 0 0 0 0 false ByteArray.empty ByteArray.empty [] [] 0) (TMember.mk (TRaft.mk o0_v.Raft.Me o0_v.Raft.Nodes o0_v.Raft.Wait o0_v.Raft.Term o0_v.Raft.Vote r16_1 (if o0_v.Raft.Commit < (if (w64 (m.Index + (m.Entries.length : Int))) < m.Commit then (w64 (m.Index + (m.Entries.length : Int))) else m.Commit) then (if (w64 (m.Index + (m.Entries.length : Int))) < m.Commit then (w64 (m.Index + (m.Entries.length : Int))) else m.Commit) else o0_v.Raft.Commit) 0 m.From o0_v.Raft.Votes o0_v.Raft.Next o0_v.Raft.Match 0) o0_v.out)) fun r17_1 =>
     some r17_1))))
theorem raft_member_append.meets (fu : Nat) (m : TMsg) (o0_v : TMember) (z0 : TMember) (h : raft_member_append fu m o0_v = some z0) : Meets Try.prog ⟨52, [.ptr 1000 0, .data (TMsg.ag m)], [(TMember.ob_00000100011101 o0_v)]⟩ ⟨.tup [], [(TMember.ob_00000000011101 z0)]⟩ := by
 refine meets_of (O := raft_member_append.O) hmix (fn := Try.f52) (code := bd52) (by kernel_rfl) ?_
 refine WK.weak (l := [Tm 0 (.ptr 1000 0), Tm 1 (.data (TMsg.ag m)), Ob 1000 (TMember.ob_00000100011101 o0_v)]) (wk_of (by kernel_rfl)) ?_
 unfold raft_member_append at h
 refine kRs 5 [Tm 3 (.ptr 3 0), Ob 3 (TMsg.ob m)] [] .n ?_
 refine kSq ?_
 refine kRs 15 [Tm 13 (bv (decide (m.Term < o0_v.Raft.Term)))] [] (.c rT .n) ?_
 rcases br_inv h with ⟨b3_0, h⟩ | ⟨b3_0, h⟩
 ·refine kCt b3_0 ?_
  obtain ⟨r4_1, h4_2, h⟩ := bd_inv h
  refine kRs 0 [Ob 1000 (TMember.ob_00000100011101 r4_1)] [.a ⟨.tup [], [(TMember.ob_00000100011101 r4_1)]⟩] (.c (Asks.of (C := Meets Try.prog) (raft_member_sends_2.meets m.From (TMsg.mk 4 0 0 0 0 0 0 0 false [] (TTxn.mk 0 0 [] []) 0 0 0 0 false ByteArray.empty ByteArray.empty [] [] 0) o0_v _ h4_2)) .n) ?_
  refine WK.shareO (i := 1000) (cc := 5) (l' := [Ob 1000 (TMember.ob_00000000011101 r4_1)]) (by kernel_rfl) (by kernel_rfl) (by kernel_rfl) ?_
  refine WK.weak (l := [Ob 1000 (TMember.ob_00000000011101 r4_1)]) (wk_of (by kernel_rfl)) ?_
  refine kRt ?_
  have h_ := some_inj h
  subst h_
  exact kFr
 ·refine kCe b3_0 ?_
  refine kSk ?_
  refine kCd (cR (cR bd52)) [] ?_
  refine kSq ?_
  refine kRs 30 [Tm 24 (bv (o0_v.Raft.Role == 2))] [] .n ?_
  rcases br_inv h with ⟨b6_0, h⟩ | ⟨b6_0, h⟩
  ·refine kCt b6_0 ?_
   refine WK.shareO (i := 1000) (cc := 5) (l' := [Ob 1000 (TMember.ob_00000000011101 o0_v)]) (by kernel_rfl) (by kernel_rfl) (by kernel_rfl) ?_
   refine WK.weak (l := [Ob 1000 (TMember.ob_00000000011101 o0_v)]) (wk_of (by kernel_rfl)) ?_
   refine kRt ?_
   have h_ := some_inj h
   subst h_
   exact kFr
  ·refine kCe b6_0 ?_
   refine kSk ?_
   refine kCd (cR (cR (cR bd52))) [] ?_
   refine kRs 14 [Ob 1000 (TMember.ob_00000100011101 (TMember.mk (TRaft.mk o0_v.Raft.Me o0_v.Raft.Nodes o0_v.Raft.Wait o0_v.Raft.Term o0_v.Raft.Vote o0_v.Raft.Log o0_v.Raft.Commit 0 m.From o0_v.Raft.Votes o0_v.Raft.Next o0_v.Raft.Match 0) o0_v.out))] [] (.c rT .n) ?_
   refine kSq ?_
   obtain ⟨r8_1, h8_2, h⟩ := bd_inv h
   refine kRs 15 [Tm 49 (bv (!r8_1))] [.a ⟨bv r8_1, []⟩] (.c (Asks.of (C := Meets Try.prog) (ulog_Has.meets o0_v.Raft.Log m.Index m.LogTerm _ h8_2)) (.c rT .n)) ?_
   rcases br_inv h with ⟨b9_0, h⟩ | ⟨b9_0, h⟩
   ·refine kCt b9_0 ?_
    obtain ⟨r10_1, h10_2, h⟩ := bd_inv h
    refine kRs 0 [Ob 1000 (TMember.ob_00000100011101 r10_1)] [.s (.t 61) [iv (o0_v.Raft.Log.length : Int)], .a ⟨.tup [], [(TMember.ob_00000100011101 r10_1)]⟩] (.c (c_len (e := TEntry.en) (l := o0_v.Raft.Log)) (.c (Asks.of (C := Meets Try.prog) (raft_member_sends_2.meets m.From (TMsg.mk 4 0 0 0 0 (if (if (o0_v.Raft.Log.length : Int) < (w64 (m.Index - 1)) then (o0_v.Raft.Log.length : Int) else (w64 (m.Index - 1))) < 0 then 0 else (if (o0_v.Raft.Log.length : Int) < (w64 (m.Index - 1)) then (o0_v.Raft.Log.length : Int) else (w64 (m.Index - 1)))) 0 0 false [] (TTxn.mk 0 0 [] []) 0 0 0 0 false ByteArray.empty ByteArray.empty [] [] 0) (TMember.mk (TRaft.mk o0_v.Raft.Me o0_v.Raft.Nodes o0_v.Raft.Wait o0_v.Raft.Term o0_v.Raft.Vote o0_v.Raft.Log o0_v.Raft.Commit 0 m.From o0_v.Raft.Votes o0_v.Raft.Next o0_v.Raft.Match 0) o0_v.out) _ h10_2)) (.c rT .n))) ?_
    refine WK.shareO (i := 1000) (cc := 5) (l' := [Ob 1000 (TMember.ob_00000000011101 r10_1)]) (by kernel_rfl) (by kernel_rfl) (by kernel_rfl) ?_
    refine WK.weak (l := [Ob 1000 (TMember.ob_00000000011101 r10_1)]) (wk_of (by kernel_rfl)) ?_
    refine kRt ?_
    have h_ := some_inj h
    subst h_
    exact kFr
   ·refine kCe b9_0 ?_
    refine kSk ?_
    refine kCd (cR (cR (cR (cR (cR bd52))))) [] ?_
    refine WK.shareO (i := 1000) (cc := 5) (l' := [Tm 0 (.ptr 1000 0), Tm 3 (.ptr 3 0), Ob 3 (TMsg.ob m), Ob 1000 (TMember.ob_00000000011101 (TMember.mk (TRaft.mk o0_v.Raft.Me o0_v.Raft.Nodes o0_v.Raft.Wait o0_v.Raft.Term o0_v.Raft.Vote o0_v.Raft.Log o0_v.Raft.Commit 0 m.From o0_v.Raft.Votes o0_v.Raft.Next o0_v.Raft.Match 0) o0_v.out))]) (by kernel_rfl) (by kernel_rfl) (by kernel_rfl) ?_
    obtain ⟨r11_1, h11_2, h⟩ := bd_inv h
    refine kRs 15 [Tm 4 (.data (.slc true none 6 (List.map TEntry.en r11_1)))] [.a ⟨.data (.slc true none 6 (List.map TEntry.en r11_1)), []⟩] (.c (Asks.of (C := Meets Try.prog) (ulog_Join.meets fu o0_v.Raft.Log m.Index m.Entries _ h11_2)) (.c rT .n)) ?_
    refine kSq ?_
    refine kRs 31 [Tm 78 (bv (decide ((r11_1.length : Int) > 200)))] [.s (.t 77) [iv (r11_1.length : Int)]] (.c (c_len (e := TEntry.en) (l := r11_1)) .n) ?_
    rcases br_inv h with ⟨b13_0, h⟩ | ⟨b13_0, h⟩
    ·refine kCt b13_0 ?_
     obtain ⟨r14_1, h14_2, h⟩ := bd_inv h
     refine kRs 0 [Ob 1000 (TMember.ob_00000000011101 r14_1)] [.a ⟨.tup [], [(TMember.ob_00000000011101 r14_1)]⟩] (.c (Asks.of (C := Meets Try.prog) (raft_member_sends.meets m.From (TMsg.mk 4 0 0 0 0 0 0 0 false [] (TTxn.mk 0 0 [] []) 0 0 0 0 false ByteArray.empty ByteArray.empty [] [] 0) (TMember.mk (TRaft.mk o0_v.Raft.Me o0_v.Raft.Nodes o0_v.Raft.Wait o0_v.Raft.Term o0_v.Raft.Vote o0_v.Raft.Log o0_v.Raft.Commit 0 m.From o0_v.Raft.Votes o0_v.Raft.Next o0_v.Raft.Match 0) o0_v.out) _ h14_2)) .n) ?_
     refine WK.weak (l := [Ob 1000 (TMember.ob_00000000011101 r14_1)]) (wk_of (by kernel_rfl)) ?_
     refine kRt ?_
     have h_ := some_inj h
     subst h_
     exact kFr
    ·refine kCe b13_0 ?_
     refine kSk ?_
     refine kCd (cR (cR (cR (cR (cR (cR (cR bd52))))))) [] ?_
     refine kRs 62 [Tm 5 (iv (w64 (m.Index + (m.Entries.length : Int))))] [.s (.t 88) [iv (m.Entries.length : Int)]] (.c (c_len (e := TEntry.en) (l := m.Entries)) .n) ?_
     refine WK.share (x := .tmp 4) (l' := [Tm 0 (.ptr 1000 0), Tm 3 (.ptr 3 0), Tm 4 (.data (.slc false none 6 (List.map TEntry.en r11_1))), Tm 5 (iv (w64 (m.Index + (m.Entries.length : Int)))), Ob 3 (TMsg.ob m), Ob 1000 (TMember.ob_00000000011101 (TMember.mk (TRaft.mk o0_v.Raft.Me o0_v.Raft.Nodes o0_v.Raft.Wait o0_v.Raft.Term o0_v.Raft.Vote o0_v.Raft.Log o0_v.Raft.Commit 0 m.From o0_v.Raft.Votes o0_v.Raft.Next o0_v.Raft.Match 0) o0_v.out))]) (by kernel_rfl) ?_
     obtain ⟨r16_1, h16_2, h⟩ := bd_inv h
     refine kRs 27 [Ob 1000 (TMember.ob_00000100011101 (TMember.mk (TRaft.mk o0_v.Raft.Me o0_v.Raft.Nodes o0_v.Raft.Wait o0_v.Raft.Term o0_v.Raft.Vote r16_1 (if o0_v.Raft.Commit < (if (w64 (m.Index + (m.Entries.length : Int))) < m.Commit then (w64 (m.Index + (m.Entries.length : Int))) else m.Commit) then (if (w64 (m.Index + (m.Entries.length : Int))) < m.Commit then (w64 (m.Index + (m.Entries.length : Int))) else m.Commit) else o0_v.Raft.Commit) 0 m.From o0_v.Raft.Votes o0_v.Raft.Next o0_v.Raft.Match 0) o0_v.out))] [.a ⟨.data (.slc true none 6 (List.map TEntry.en r16_1)), []⟩] (.c (Asks.of (C := Meets Try.prog) (raft_entries.meets fu r11_1 _ h16_2)) (.c rT .n)) ?_
     refine WK.shareO (i := 1000) (cc := 5) (l' := [Tm 0 (.ptr 1000 0), Tm 3 (.ptr 3 0), Tm 5 (iv (w64 (m.Index + (m.Entries.length : Int)))), Ob 3 (TMsg.ob m), Ob 1000 (TMember.ob_00000000011101 (TMember.mk (TRaft.mk o0_v.Raft.Me o0_v.Raft.Nodes o0_v.Raft.Wait o0_v.Raft.Term o0_v.Raft.Vote r16_1 (if o0_v.Raft.Commit < (if (w64 (m.Index + (m.Entries.length : Int))) < m.Commit then (w64 (m.Index + (m.Entries.length : Int))) else m.Commit) then (if (w64 (m.Index + (m.Entries.length : Int))) < m.Commit then (w64 (m.Index + (m.Entries.length : Int))) else m.Commit) else o0_v.Raft.Commit) 0 m.From o0_v.Raft.Votes o0_v.Raft.Next o0_v.Raft.Match 0) o0_v.out))]) (by kernel_rfl) (by kernel_rfl) (by kernel_rfl) ?_
     obtain ⟨r17_1, h17_2, h⟩ := bd_inv h
     have h_ := some_inj h
     subst h_
     exact kRf [.a ⟨.tup [], [(TMember.ob_00000000011101 r17_1)]⟩] (.c (Asks.of (C := Meets Try.prog) (raft_member_sends.meets m.From (TMsg.mk 4 0 0 0 0 (w64 (m.Index + (m.Entries.length : Int))) 0 0 true [] (TTxn.mk 0 0 [] []) 0 0 0 0 false ByteArray.empty ByteArray.empty [] [] 0) (TMember.mk (TRaft.mk o0_v.Raft.Me o0_v.Raft.Nodes o0_v.Raft.Wait o0_v.Raft.Term o0_v.Raft.Vote r16_1 (if o0_v.Raft.Commit < (if (w64 (m.Index + (m.Entries.length : Int))) < m.Commit then (w64 (m.Index + (m.Entries.length : Int))) else m.Commit) then (if (w64 (m.Index + (m.Entries.length : Int))) < m.Commit then (w64 (m.Index + (m.Entries.length : Int))) else m.Commit) else o0_v.Raft.Commit) 0 m.From o0_v.Raft.Votes o0_v.Raft.Next o0_v.Raft.Match 0) o0_v.out) _ h17_2)) .n)
/-- (*diwan/raft.member).appended -/
noncomputable def bd53 : Code := (Try.f53.body).getD .skip
def raft_member_appended.O : Nat → Nat := fun t => bif ([3, 4, 5, 56, 75, 81, 104] : List Nat).any (Nat.beq t) then 1 else bif ([107] : List Nat).any (Nat.beq t) then 104 else 0
noncomputable def raft_member_appended (fu : Nat) (m : TMsg) (o0_v : TMember) : Option TMember :=
 br (decide (m.Term < o0_v.Raft.Term))
  (some o0_v)
  (br (o0_v.Raft.Role != 2)
   (some o0_v)
   (ix o0_v.Raft.Next (w64 (m.From - 1)) fun x4_1 =>
   ix o0_v.Raft.Match (w64 (m.From - 1)) fun x4_4 =>
   br (!m.OK)
    (bd (raft_member_more fu m.From (TMember.mk (TRaft.mk o0_v.Raft.Me o0_v.Raft.Nodes o0_v.Raft.Wait o0_v.Raft.Term o0_v.Raft.Vote o0_v.Raft.Log o0_v.Raft.Commit o0_v.Raft.Role o0_v.Raft.Leader o0_v.Raft.Votes (o0_v.Raft.Next.set (w64 (m.From - 1)).toNat (if (if (if (w64 (m.Index + 1)) < (w64 (x4_1 - 1)) then (w64 (m.Index + 1)) else (w64 (x4_1 - 1))) < (w64 (x4_4 + 1)) then (w64 (x4_4 + 1)) else (if (w64 (m.Index + 1)) < (w64 (x4_1 - 1)) then (w64 (m.Index + 1)) else (w64 (x4_1 - 1)))) < 1 then 1 else (if (if (w64 (m.Index + 1)) < (w64 (x4_1 - 1)) then (w64 (m.Index + 1)) else (w64 (x4_1 - 1))) < (w64 (x4_4 + 1)) then (w64 (x4_4 + 1)) else (if (w64 (m.Index + 1)) < (w64 (x4_1 - 1)) then (w64 (m.Index + 1)) else (w64 (x4_1 - 1)))))) o0_v.Raft.Match o0_v.Raft.Clock) o0_v.out)) fun r8_1 =>
    some r8_1)
    (ix (o0_v.Raft.Match.set (w64 (m.From - 1)).toNat (if x4_4 < (if (o0_v.Raft.Log.length : Int) < m.Index then (o0_v.Raft.Log.length : Int) else m.Index) then (if (o0_v.Raft.Log.length : Int) < m.Index then (o0_v.Raft.Log.length : Int) else m.Index) else x4_4)) (w64 (m.From - 1)) fun x10_1 =>
    bd (ballot_Next fu (o0_v.Raft.Match.set (w64 (m.From - 1)).toNat (if x4_4 < (if (o0_v.Raft.Log.length : Int) < m.Index then (o0_v.Raft.Log.length : Int) else m.Index) then (if (o0_v.Raft.Log.length : Int) < m.Index then (o0_v.Raft.Log.length : Int) else m.Index) else x4_4)) o0_v.Raft.Log o0_v.Raft.Term o0_v.Raft.Commit) fun r11_1 =>
    ix (o0_v.Raft.Next.set (w64 (m.From - 1)).toNat (w64 (x10_1 + 1))) (w64 (m.From - 1)) fun x12_1 =>
    br (decide ((o0_v.Raft.Log.length : Int) > (w64 (x12_1 - 1))))
     (bd (raft_member_more fu m.From (TMember.mk (TRaft.mk o0_v.Raft.Me o0_v.Raft.Nodes o0_v.Raft.Wait o0_v.Raft.Term o0_v.Raft.Vote o0_v.Raft.Log r11_1 o0_v.Raft.Role o0_v.Raft.Leader o0_v.Raft.Votes (o0_v.Raft.Next.set (w64 (m.From - 1)).toNat (w64 (x10_1 + 1))) (o0_v.Raft.Match.set (w64 (m.From - 1)).toNat (if x4_4 < (if (o0_v.Raft.Log.length : Int) < m.Index then (o0_v.Raft.Log.length : Int) else m.Index) then (if (o0_v.Raft.Log.length : Int) < m.Index then (o0_v.Raft.Log.length : Int) else m.Index) else x4_4)) o0_v.Raft.Clock) o0_v.out)) fun r14_1 =>
     some r14_1)
     (some (TMember.mk (TRaft.mk o0_v.Raft.Me o0_v.Raft.Nodes o0_v.Raft.Wait o0_v.Raft.Term o0_v.Raft.Vote o0_v.Raft.Log r11_1 o0_v.Raft.Role o0_v.Raft.Leader o0_v.Raft.Votes (o0_v.Raft.Next.set (w64 (m.From - 1)).toNat (w64 (x10_1 + 1))) (o0_v.Raft.Match.set (w64 (m.From - 1)).toNat (if x4_4 < (if (o0_v.Raft.Log.length : Int) < m.Index then (o0_v.Raft.Log.length : Int) else m.Index) then (if (o0_v.Raft.Log.length : Int) < m.Index then (o0_v.Raft.Log.length : Int) else m.Index) else x4_4)) o0_v.Raft.Clock) o0_v.out)))))
theorem raft_member_appended.meets (fu : Nat) (m : TMsg) (o0_v : TMember) (z0 : TMember) (h : raft_member_appended fu m o0_v = some z0) : Meets Try.prog ⟨53, [.ptr 1000 0, .data (TMsg.ag m)], [(TMember.ob_00000100011101 o0_v)]⟩ ⟨.tup [], [(TMember.ob_00000000011101 z0)]⟩ := by
 refine meets_of (O := raft_member_appended.O) hmix (fn := Try.f53) (code := bd53) (by kernel_rfl) ?_
 refine WK.weak (l := [Tm 0 (.ptr 1000 0), Tm 1 (.data (TMsg.ag m)), Ob 1000 (TMember.ob_00000100011101 o0_v)]) (wk_of (by kernel_rfl)) ?_
 unfold raft_member_appended at h
 refine kRs 5 [Tm 3 (.ptr 3 0), Ob 3 (TMsg.ob m)] [] .n ?_
 refine kSq ?_
 rcases br_inv h with ⟨b2_1, h⟩ | ⟨b2_1, h⟩
 ·refine kRs 15 [Tm 21 (bv true)] (rp 7 (.b true) []) (.r 7 b2_1 (.c rT .n)) ?_
  refine kCt rT ?_
  refine WK.shareO (i := 1000) (cc := 5) (l' := [Ob 1000 (TMember.ob_00000000011101 o0_v)]) (by kernel_rfl) (by kernel_rfl) (by kernel_rfl) ?_
  refine WK.weak (l := [Ob 1000 (TMember.ob_00000000011101 o0_v)]) (wk_of (by kernel_rfl)) ?_
  refine kRt ?_
  have h_ := some_inj h
  subst h_
  exact kFr
 ·refine kRs 15 [Tm 21 (bv (o0_v.Raft.Role != 2))] (rp 7 (.b false) []) (.r 7 b2_1 (.c rT .n)) ?_
  rcases br_inv h with ⟨b3_0, h⟩ | ⟨b3_0, h⟩
  ·refine kCt b3_0 ?_
   refine WK.shareO (i := 1000) (cc := 5) (l' := [Ob 1000 (TMember.ob_00000000011101 o0_v)]) (by kernel_rfl) (by kernel_rfl) (by kernel_rfl) ?_
   refine WK.weak (l := [Ob 1000 (TMember.ob_00000000011101 o0_v)]) (wk_of (by kernel_rfl)) ?_
   refine kRt ?_
   have h_ := some_inj h
   subst h_
   exact kFr
  ·refine kCe b3_0 ?_
   refine kSk ?_
   refine kCd (cR (cR bd53)) [] ?_
   obtain ⟨x4_1, a4_2, e4_3, h⟩ := ix_inv h
   obtain ⟨x4_4, a4_5, e4_6, h⟩ := ix_inv h
   refine kRs 30 [Tm 4 (.eptr (.o 1000) 0 10 (w64 (m.From - 1)).toNat 0), Tm 5 (.eptr (.o 1000) 0 11 (w64 (m.From - 1)).toNat 0)] [] (.c (c_ix (e := e_i64) a4_2 e4_3) (.c (c_ix (e := e_i64) a4_5 e4_6) (.c rT .n))) ?_
   refine kSq ?_
   refine kRs 63 [Tm 42 (bv (!m.OK))] [] .n ?_
   rcases br_inv h with ⟨b6_0, h⟩ | ⟨b6_0, h⟩
   ·refine kCt b6_0 ?_
    refine kRs 56 [Ob 1000 (TMember.ob_00000100011101 (TMember.mk (TRaft.mk o0_v.Raft.Me o0_v.Raft.Nodes o0_v.Raft.Wait o0_v.Raft.Term o0_v.Raft.Vote o0_v.Raft.Log o0_v.Raft.Commit o0_v.Raft.Role o0_v.Raft.Leader o0_v.Raft.Votes (o0_v.Raft.Next.set (w64 (m.From - 1)).toNat (if (if (if (w64 (m.Index + 1)) < (w64 (x4_1 - 1)) then (w64 (m.Index + 1)) else (w64 (x4_1 - 1))) < (w64 (x4_4 + 1)) then (w64 (x4_4 + 1)) else (if (w64 (m.Index + 1)) < (w64 (x4_1 - 1)) then (w64 (m.Index + 1)) else (w64 (x4_1 - 1)))) < 1 then 1 else (if (if (w64 (m.Index + 1)) < (w64 (x4_1 - 1)) then (w64 (m.Index + 1)) else (w64 (x4_1 - 1))) < (w64 (x4_4 + 1)) then (w64 (x4_4 + 1)) else (if (w64 (m.Index + 1)) < (w64 (x4_1 - 1)) then (w64 (m.Index + 1)) else (w64 (x4_1 - 1)))))) o0_v.Raft.Match o0_v.Raft.Clock) o0_v.out))] [.c (e_i64 x4_1), .c (e_i64 x4_4), .c (e_i64 x4_1), .s (.o 1000) (TMember.ob_00000100011101 (TMember.mk (TRaft.mk o0_v.Raft.Me o0_v.Raft.Nodes o0_v.Raft.Wait o0_v.Raft.Term o0_v.Raft.Vote o0_v.Raft.Log o0_v.Raft.Commit o0_v.Raft.Role o0_v.Raft.Leader o0_v.Raft.Votes (o0_v.Raft.Next.set (w64 (m.From - 1)).toNat (if (if (if (w64 (m.Index + 1)) < (w64 (x4_1 - 1)) then (w64 (m.Index + 1)) else (w64 (x4_1 - 1))) < (w64 (x4_4 + 1)) then (w64 (x4_4 + 1)) else (if (w64 (m.Index + 1)) < (w64 (x4_1 - 1)) then (w64 (m.Index + 1)) else (w64 (x4_1 - 1)))) < 1 then 1 else (if (if (w64 (m.Index + 1)) < (w64 (x4_1 - 1)) then (w64 (m.Index + 1)) else (w64 (x4_1 - 1))) < (w64 (x4_4 + 1)) then (w64 (x4_4 + 1)) else (if (w64 (m.Index + 1)) < (w64 (x4_1 - 1)) then (w64 (m.Index + 1)) else (w64 (x4_1 - 1)))))) o0_v.Raft.Match o0_v.Raft.Clock) o0_v.out))] (.c (c_el (e := e_i64) e4_3) (.c (c_el (e := e_i64) e4_6) (.c (c_el (e := e_i64) e4_3) (.c (congrArg (fun d : DV => (TMember.ob_00000100011101 (TMember.mk (TRaft.mk o0_v.Raft.Me o0_v.Raft.Nodes o0_v.Raft.Wait o0_v.Raft.Term o0_v.Raft.Vote o0_v.Raft.Log o0_v.Raft.Commit o0_v.Raft.Role o0_v.Raft.Leader o0_v.Raft.Votes (o0_v.Raft.Next.set (w64 (m.From - 1)).toNat (if (if (if (w64 (m.Index + 1)) < (w64 (x4_1 - 1)) then (w64 (m.Index + 1)) else (w64 (x4_1 - 1))) < (w64 (x4_4 + 1)) then (w64 (x4_4 + 1)) else (if (w64 (m.Index + 1)) < (w64 (x4_1 - 1)) then (w64 (m.Index + 1)) else (w64 (x4_1 - 1)))) < 1 then 1 else (if (if (w64 (m.Index + 1)) < (w64 (x4_1 - 1)) then (w64 (m.Index + 1)) else (w64 (x4_1 - 1))) < (w64 (x4_4 + 1)) then (w64 (x4_4 + 1)) else (if (w64 (m.Index + 1)) < (w64 (x4_1 - 1)) then (w64 (m.Index + 1)) else (w64 (x4_1 - 1)))))) o0_v.Raft.Match o0_v.Raft.Clock) o0_v.out)).set 10 (AV.data d)) (c_set (e := e_i64) (s := 1) (nl := none) (l := o0_v.Raft.Next) (i := (w64 (m.From - 1)).toNat) (x := (if (if (if (w64 (m.Index + 1)) < (w64 (x4_1 - 1)) then (w64 (m.Index + 1)) else (w64 (x4_1 - 1))) < (w64 (x4_4 + 1)) then (w64 (x4_4 + 1)) else (if (w64 (m.Index + 1)) < (w64 (x4_1 - 1)) then (w64 (m.Index + 1)) else (w64 (x4_1 - 1)))) < 1 then 1 else (if (if (w64 (m.Index + 1)) < (w64 (x4_1 - 1)) then (w64 (m.Index + 1)) else (w64 (x4_1 - 1))) < (w64 (x4_4 + 1)) then (w64 (x4_4 + 1)) else (if (w64 (m.Index + 1)) < (w64 (x4_1 - 1)) then (w64 (m.Index + 1)) else (w64 (x4_1 - 1)))))))) (.c rT .n))))) ?_
    obtain ⟨r8_1, h8_2, h⟩ := bd_inv h
    refine kRs 0 [Ob 1000 (TMember.ob_00000000011101 r8_1)] [.a ⟨.tup [], [(TMember.ob_00000000011101 r8_1)]⟩] (.c (Asks.of (C := Meets Try.prog) (raft_member_more.meets fu m.From (TMember.mk (TRaft.mk o0_v.Raft.Me o0_v.Raft.Nodes o0_v.Raft.Wait o0_v.Raft.Term o0_v.Raft.Vote o0_v.Raft.Log o0_v.Raft.Commit o0_v.Raft.Role o0_v.Raft.Leader o0_v.Raft.Votes (o0_v.Raft.Next.set (w64 (m.From - 1)).toNat (if (if (if (w64 (m.Index + 1)) < (w64 (x4_1 - 1)) then (w64 (m.Index + 1)) else (w64 (x4_1 - 1))) < (w64 (x4_4 + 1)) then (w64 (x4_4 + 1)) else (if (w64 (m.Index + 1)) < (w64 (x4_1 - 1)) then (w64 (m.Index + 1)) else (w64 (x4_1 - 1)))) < 1 then 1 else (if (if (w64 (m.Index + 1)) < (w64 (x4_1 - 1)) then (w64 (m.Index + 1)) else (w64 (x4_1 - 1))) < (w64 (x4_4 + 1)) then (w64 (x4_4 + 1)) else (if (w64 (m.Index + 1)) < (w64 (x4_1 - 1)) then (w64 (m.Index + 1)) else (w64 (x4_1 - 1)))))) o0_v.Raft.Match o0_v.Raft.Clock) o0_v.out) _ h8_2)) .n) ?_
    refine WK.weak (l := [Ob 1000 (TMember.ob_00000000011101 r8_1)]) (wk_of (by kernel_rfl)) ?_
    refine kRt ?_
    have h_ := some_inj h
    subst h_
    exact kFr
   ·refine kCe b6_0 ?_
    refine kSk ?_
    refine kCd (cR (cR (cR (cR bd53)))) [] ?_
    refine kRs 62 [Ob 1000 (TMember.ob_00000100011101 (TMember.mk (TRaft.mk o0_v.Raft.Me o0_v.Raft.Nodes o0_v.Raft.Wait o0_v.Raft.Term o0_v.Raft.Vote o0_v.Raft.Log o0_v.Raft.Commit o0_v.Raft.Role o0_v.Raft.Leader o0_v.Raft.Votes o0_v.Raft.Next (o0_v.Raft.Match.set (w64 (m.From - 1)).toNat (if x4_4 < (if (o0_v.Raft.Log.length : Int) < m.Index then (o0_v.Raft.Log.length : Int) else m.Index) then (if (o0_v.Raft.Log.length : Int) < m.Index then (o0_v.Raft.Log.length : Int) else m.Index) else x4_4)) o0_v.Raft.Clock) o0_v.out))] [.c (e_i64 x4_4), .s (.t 73) [iv (o0_v.Raft.Log.length : Int)], .c (e_i64 x4_4), .s (.o 1000) (TMember.ob_00000100011101 (TMember.mk (TRaft.mk o0_v.Raft.Me o0_v.Raft.Nodes o0_v.Raft.Wait o0_v.Raft.Term o0_v.Raft.Vote o0_v.Raft.Log o0_v.Raft.Commit o0_v.Raft.Role o0_v.Raft.Leader o0_v.Raft.Votes o0_v.Raft.Next (o0_v.Raft.Match.set (w64 (m.From - 1)).toNat (if x4_4 < (if (o0_v.Raft.Log.length : Int) < m.Index then (o0_v.Raft.Log.length : Int) else m.Index) then (if (o0_v.Raft.Log.length : Int) < m.Index then (o0_v.Raft.Log.length : Int) else m.Index) else x4_4)) o0_v.Raft.Clock) o0_v.out))] (.c (c_el (e := e_i64) e4_6) (.c (c_len (e := TEntry.en) (l := o0_v.Raft.Log)) (.c (c_el (e := e_i64) e4_6) (.c (congrArg (fun d : DV => (TMember.ob_00000100011101 (TMember.mk (TRaft.mk o0_v.Raft.Me o0_v.Raft.Nodes o0_v.Raft.Wait o0_v.Raft.Term o0_v.Raft.Vote o0_v.Raft.Log o0_v.Raft.Commit o0_v.Raft.Role o0_v.Raft.Leader o0_v.Raft.Votes o0_v.Raft.Next (o0_v.Raft.Match.set (w64 (m.From - 1)).toNat (if x4_4 < (if (o0_v.Raft.Log.length : Int) < m.Index then (o0_v.Raft.Log.length : Int) else m.Index) then (if (o0_v.Raft.Log.length : Int) < m.Index then (o0_v.Raft.Log.length : Int) else m.Index) else x4_4)) o0_v.Raft.Clock) o0_v.out)).set 11 (AV.data d)) (c_set (e := e_i64) (s := 1) (nl := none) (l := o0_v.Raft.Match) (i := (w64 (m.From - 1)).toNat) (x := (if x4_4 < (if (o0_v.Raft.Log.length : Int) < m.Index then (o0_v.Raft.Log.length : Int) else m.Index) then (if (o0_v.Raft.Log.length : Int) < m.Index then (o0_v.Raft.Log.length : Int) else m.Index) else x4_4)))) (.c rT .n))))) ?_
    obtain ⟨x10_1, a10_2, e10_3, h⟩ := ix_inv h
    refine kRs 58 [Ob 1000 (TMember.ob_00000100011101 (TMember.mk (TRaft.mk o0_v.Raft.Me o0_v.Raft.Nodes o0_v.Raft.Wait o0_v.Raft.Term o0_v.Raft.Vote o0_v.Raft.Log o0_v.Raft.Commit o0_v.Raft.Role o0_v.Raft.Leader o0_v.Raft.Votes (o0_v.Raft.Next.set (w64 (m.From - 1)).toNat (w64 (x10_1 + 1))) (o0_v.Raft.Match.set (w64 (m.From - 1)).toNat (if x4_4 < (if (o0_v.Raft.Log.length : Int) < m.Index then (o0_v.Raft.Log.length : Int) else m.Index) then (if (o0_v.Raft.Log.length : Int) < m.Index then (o0_v.Raft.Log.length : Int) else m.Index) else x4_4)) o0_v.Raft.Clock) o0_v.out))] [.c (e_i64 x10_1), .c (e_i64 x4_1), .s (.o 1000) (TMember.ob_00000100011101 (TMember.mk (TRaft.mk o0_v.Raft.Me o0_v.Raft.Nodes o0_v.Raft.Wait o0_v.Raft.Term o0_v.Raft.Vote o0_v.Raft.Log o0_v.Raft.Commit o0_v.Raft.Role o0_v.Raft.Leader o0_v.Raft.Votes (o0_v.Raft.Next.set (w64 (m.From - 1)).toNat (w64 (x10_1 + 1))) (o0_v.Raft.Match.set (w64 (m.From - 1)).toNat (if x4_4 < (if (o0_v.Raft.Log.length : Int) < m.Index then (o0_v.Raft.Log.length : Int) else m.Index) then (if (o0_v.Raft.Log.length : Int) < m.Index then (o0_v.Raft.Log.length : Int) else m.Index) else x4_4)) o0_v.Raft.Clock) o0_v.out))] (.c (c_el (e := e_i64) e10_3) (.c (c_el (e := e_i64) e4_3) (.c (congrArg (fun d : DV => (TMember.ob_00000100011101 (TMember.mk (TRaft.mk o0_v.Raft.Me o0_v.Raft.Nodes o0_v.Raft.Wait o0_v.Raft.Term o0_v.Raft.Vote o0_v.Raft.Log o0_v.Raft.Commit o0_v.Raft.Role o0_v.Raft.Leader o0_v.Raft.Votes (o0_v.Raft.Next.set (w64 (m.From - 1)).toNat (w64 (x10_1 + 1))) (o0_v.Raft.Match.set (w64 (m.From - 1)).toNat (if x4_4 < (if (o0_v.Raft.Log.length : Int) < m.Index then (o0_v.Raft.Log.length : Int) else m.Index) then (if (o0_v.Raft.Log.length : Int) < m.Index then (o0_v.Raft.Log.length : Int) else m.Index) else x4_4)) o0_v.Raft.Clock) o0_v.out)).set 10 (AV.data d)) (c_set (e := e_i64) (s := 1) (nl := none) (l := o0_v.Raft.Next) (i := (w64 (m.From - 1)).toNat) (x := (w64 (x10_1 + 1))))) .n))) ?_
    obtain ⟨r11_1, h11_2, h⟩ := bd_inv h
    refine kRs 30 [Ob 1000 (TMember.ob_00000100011101 (TMember.mk (TRaft.mk o0_v.Raft.Me o0_v.Raft.Nodes o0_v.Raft.Wait o0_v.Raft.Term o0_v.Raft.Vote o0_v.Raft.Log r11_1 o0_v.Raft.Role o0_v.Raft.Leader o0_v.Raft.Votes (o0_v.Raft.Next.set (w64 (m.From - 1)).toNat (w64 (x10_1 + 1))) (o0_v.Raft.Match.set (w64 (m.From - 1)).toNat (if x4_4 < (if (o0_v.Raft.Log.length : Int) < m.Index then (o0_v.Raft.Log.length : Int) else m.Index) then (if (o0_v.Raft.Log.length : Int) < m.Index then (o0_v.Raft.Log.length : Int) else m.Index) else x4_4)) o0_v.Raft.Clock) o0_v.out))] [.a ⟨iv r11_1, []⟩] (.c (Asks.of (C := Meets Try.prog) (ballot_Next.meets fu (o0_v.Raft.Match.set (w64 (m.From - 1)).toNat (if x4_4 < (if (o0_v.Raft.Log.length : Int) < m.Index then (o0_v.Raft.Log.length : Int) else m.Index) then (if (o0_v.Raft.Log.length : Int) < m.Index then (o0_v.Raft.Log.length : Int) else m.Index) else x4_4)) o0_v.Raft.Log o0_v.Raft.Term o0_v.Raft.Commit _ h11_2)) (.c rT .n)) ?_
    obtain ⟨x12_1, a12_2, e12_3, h⟩ := ix_inv h
    refine kRs 29 [Tm 118 (bv (decide ((o0_v.Raft.Log.length : Int) > (w64 (x12_1 - 1)))))] [.s (.t 113) [iv (o0_v.Raft.Log.length : Int)], .c (e_i64 x12_1)] (.c (c_len (e := TEntry.en) (l := o0_v.Raft.Log)) (.c (c_el (e := e_i64) e12_3) (.c rT .n))) ?_
    rcases br_inv h with ⟨b13_0, h⟩ | ⟨b13_0, h⟩
    ·refine kCt b13_0 ?_
     obtain ⟨r14_1, h14_2, h⟩ := bd_inv h
     have h_ := some_inj h
     subst h_
     exact kRf [.a ⟨.tup [], [(TMember.ob_00000000011101 r14_1)]⟩] (.c (Asks.of (C := Meets Try.prog) (raft_member_more.meets fu m.From (TMember.mk (TRaft.mk o0_v.Raft.Me o0_v.Raft.Nodes o0_v.Raft.Wait o0_v.Raft.Term o0_v.Raft.Vote o0_v.Raft.Log r11_1 o0_v.Raft.Role o0_v.Raft.Leader o0_v.Raft.Votes (o0_v.Raft.Next.set (w64 (m.From - 1)).toNat (w64 (x10_1 + 1))) (o0_v.Raft.Match.set (w64 (m.From - 1)).toNat (if x4_4 < (if (o0_v.Raft.Log.length : Int) < m.Index then (o0_v.Raft.Log.length : Int) else m.Index) then (if (o0_v.Raft.Log.length : Int) < m.Index then (o0_v.Raft.Log.length : Int) else m.Index) else x4_4)) o0_v.Raft.Clock) o0_v.out) _ h14_2)) .n)
    ·refine kCe b13_0 ?_
     refine WK.shareO (i := 1000) (cc := 5) (l' := [Ob 1000 (TMember.ob_00000000011101 (TMember.mk (TRaft.mk o0_v.Raft.Me o0_v.Raft.Nodes o0_v.Raft.Wait o0_v.Raft.Term o0_v.Raft.Vote o0_v.Raft.Log r11_1 o0_v.Raft.Role o0_v.Raft.Leader o0_v.Raft.Votes (o0_v.Raft.Next.set (w64 (m.From - 1)).toNat (w64 (x10_1 + 1))) (o0_v.Raft.Match.set (w64 (m.From - 1)).toNat (if x4_4 < (if (o0_v.Raft.Log.length : Int) < m.Index then (o0_v.Raft.Log.length : Int) else m.Index) then (if (o0_v.Raft.Log.length : Int) < m.Index then (o0_v.Raft.Log.length : Int) else m.Index) else x4_4)) o0_v.Raft.Clock) o0_v.out))]) (by kernel_rfl) (by kernel_rfl) (by kernel_rfl) ?_
     refine WK.weak (l := [Ob 1000 (TMember.ob_00000000011101 (TMember.mk (TRaft.mk o0_v.Raft.Me o0_v.Raft.Nodes o0_v.Raft.Wait o0_v.Raft.Term o0_v.Raft.Vote o0_v.Raft.Log r11_1 o0_v.Raft.Role o0_v.Raft.Leader o0_v.Raft.Votes (o0_v.Raft.Next.set (w64 (m.From - 1)).toNat (w64 (x10_1 + 1))) (o0_v.Raft.Match.set (w64 (m.From - 1)).toNat (if x4_4 < (if (o0_v.Raft.Log.length : Int) < m.Index then (o0_v.Raft.Log.length : Int) else m.Index) then (if (o0_v.Raft.Log.length : Int) < m.Index then (o0_v.Raft.Log.length : Int) else m.Index) else x4_4)) o0_v.Raft.Clock) o0_v.out))]) (wk_of (by kernel_rfl)) ?_
     refine kSk ?_
     have h_ := some_inj h
     subst h_
     exact kFn
/-- diwan/raft.Take -/
noncomputable def bd25 : Code := (Try.f25.body).getD .skip
def raft_Take.O : Nat → Nat := fun t => bif ([2, 3, 4, 6, 7, 8, 9, 14, 15] : List Nat).any (Nat.beq t) then 1 else bif ([20] : List Nat).any (Nat.beq t) then 6 else 0
noncomputable def raft_Take (fu : Nat) (r_v : TRaft) (m : TMsg) : Option (TRaft × List TMsg) :=
 bd (raft_twin fu r_v) fun r3_1 =>
 br (m.Kind == 1)
  (bd (raft_May fu r_v) fun r5_1 =>
  br (!r5_1)
   (some (r3_1, []))
   (br (decide (m.From < 1))
    (some (r3_1, []))
    (br (decide (m.From > r_v.Nodes))
     (some (r3_1, []))
     (br (m.From == r_v.Me)
      (some (r3_1, []))
      (br (m.To != r_v.Me)
       (some (r3_1, []))
       (jn (fun (j15_2 : TMember) =>
        bd (raft_member_askVote m j15_2) fun r16_1 =>
        some (r16_1.Raft, r16_1.out)) fun k15 =>
       br (decide (m.Term > r3_1.Term))
        (bd (raft_member_yields m.Term (TMember.mk r3_1 [])) fun r14_1 =>
        k15 r14_1)
        (k15 (TMember.mk r3_1 []))))))))
  (br (m.Kind == 2)
   (bd (raft_May fu r_v) fun r18_1 =>
   br (!r18_1)
    (some (r3_1, []))
    (br (decide (m.From < 1))
     (some (r3_1, []))
     (br (decide (m.From > r_v.Nodes))
      (some (r3_1, []))
      (br (m.From == r_v.Me)
       (some (r3_1, []))
       (br (m.To != r_v.Me)
        (some (r3_1, []))
        (jn (fun (j28_2 : TMember) =>
         bd (raft_member_vote fu m j28_2) fun r29_1 =>
         some (r29_1.Raft, r29_1.out)) fun k28 =>
        br (decide (m.Term > r3_1.Term))
         (bd (raft_member_yields m.Term (TMember.mk r3_1 [])) fun r27_1 =>
         k28 r27_1)
         (k28 (TMember.mk r3_1 []))))))))
   (br (m.Kind == 3)
    (bd (raft_May fu r_v) fun r31_1 =>
    br (!r31_1)
     (some (r3_1, []))
     (br (decide (m.From < 1))
      (some (r3_1, []))
      (br (decide (m.From > r_v.Nodes))
       (some (r3_1, []))
       (br (m.From == r_v.Me)
        (some (r3_1, []))
        (br (m.To != r_v.Me)
         (some (r3_1, []))
         (jn (fun (j41_2 : TMember) =>
          bd (raft_member_append fu m j41_2) fun r42_1 =>
          some (r42_1.Raft, r42_1.out)) fun k41 =>
         br (decide (m.Term > r3_1.Term))
          (bd (raft_member_yields m.Term (TMember.mk r3_1 [])) fun r40_1 =>
          k41 r40_1)
          (k41 (TMember.mk r3_1 []))))))))
    (br (m.Kind == 4)
     (bd (raft_May fu r_v) fun r44_1 =>
     br (!r44_1)
      (some (r3_1, []))
      (br (decide (m.From < 1))
       (some (r3_1, []))
       (br (decide (m.From > r_v.Nodes))
        (some (r3_1, []))
        (br (m.From == r_v.Me)
         (some (r3_1, []))
         (br (m.To != r_v.Me)
          (some (r3_1, []))
          (jn (fun (j54_2 : TMember) =>
           bd (raft_member_appended fu m j54_2) fun r55_1 =>
           some (r55_1.Raft, r55_1.out)) fun k54 =>
          br (decide (m.Term > r3_1.Term))
           (bd (raft_member_yields m.Term (TMember.mk r3_1 [])) fun r53_1 =>
           k54 r53_1)
           (k54 (TMember.mk r3_1 []))))))))
     (some (r3_1, [])))))
theorem raft_Take.meets (fu : Nat) (r_v : TRaft) (m : TMsg) (z0 : TRaft) (z1 : List TMsg) (h : raft_Take fu r_v m = some (z0, z1)) : Meets Try.prog ⟨25, [.data (TRaft.ag r_v), .data (TMsg.ag m)], []⟩ ⟨.tup [.data (TRaft.ag z0), .data (.slc false none 24 (List.map TMsg.en z1))], []⟩ := by
 refine meets_of (O := raft_Take.O) hmix (fn := Try.f25) (code := bd25) (by kernel_rfl) ?_
 refine WK.weak (l := [Tm 0 (.data (TRaft.ag r_v)), Tm 1 (.data (TMsg.ag m))]) (wk_of (by kernel_rfl)) ?_
 unfold raft_Take at h
 refine kRs 0 [Tm 2 (.ptr 2 0), Tm 3 (.ptr 3 0), Tm 4 (.ptr 4 0), Ob 2 (TRaft.ob r_v), Ob 3 (TMsg.ob m), Ob 4 (TRaft.ob_000001000111 (TRaft.mk 0 0 0 0 0 [] 0 0 0 [] [] [] 0))] [] .n ?_
 refine kRs 63 [Tm 6 (.data (.mp 2 [(.int .i64 1, .func (.func 50) #[] #[]), (.int .i64 2, .func (.func 51) #[] #[]), (.int .i64 3, .func (.func 52) #[] #[]), (.int .i64 4, .func (.func 53) #[] #[])]))] [] .n ?_
 obtain ⟨r3_1, h3_2, h⟩ := bd_inv h
 refine kRs 127 [Tm 7 (.ptr 15 0), Ob 15 (TMember.ob_00000100011101 (TMember.mk r3_1 []))] [.a ⟨.data (TRaft.ag_000001000111 r3_1), []⟩] (.c (Asks.of (C := Meets Try.prog) (raft_twin.meets fu r_v _ h3_2)) .n) ?_
 rcases br_inv h with ⟨b4_1, h⟩ | ⟨b4_1, h⟩
 ·refine kRs 507 [Tm 8 (.fn (.func 50) [] []), Tm 9 (bv true)] [.b true] (.c b4_1 .n) ?_
  refine kSq ?_
  obtain ⟨r5_1, h5_2, h⟩ := bd_inv h
  rcases br_inv h with ⟨b5_3, h⟩ | ⟨b5_3, h⟩
  ·refine kRs 877 [Tm 55 (bv true)] (.b false :: (.b false :: (.a ⟨bv r5_1, []⟩ :: (.b false :: (.b false :: (rp 22 (.b true) [])))))) (.r 2 rF (.c (Asks.of (C := Meets Try.prog) (raft_May.meets fu r_v _ h5_2)) (.r 2 rF (.r 4 b5_3 (.r 18 rT .n))))) ?_
   refine kCt rT ?_
   refine kRs 32 [Tm 5 (.data (.slc false (some true) 24 (List.map TMsg.en []))), Ob 4 (TRaft.ob r3_1)] [] .n ?_
   refine WK.weak (l := [Tm 4 (.ptr 4 0), Tm 5 (.data (.slc false none 24 (List.map TMsg.en []))), Ob 4 (TRaft.ob r3_1)]) (wk_of (by kernel_rfl)) ?_
   refine kRt ?_
   have h_0 := some_inj h
   obtain ⟨g_1, h_1⟩ := Prod.mk.inj h_0
   subst g_1
   subst h_1
   exact kFr
  ·rcases br_inv h with ⟨b5_4, h⟩ | ⟨b5_4, h⟩
   ·refine kRs 877 [Tm 55 (bv true)] (.b false :: (.b false :: (.a ⟨bv r5_1, []⟩ :: (rp 6 (.b false) (rp 18 (.b true) []))))) (.r 2 rF (.c (Asks.of (C := Meets Try.prog) (raft_May.meets fu r_v _ h5_2)) (.r 2 rF (.r 4 b5_3 (.r 6 b5_4 (.r 12 rT .n)))))) ?_
    refine kCt rT ?_
    refine kRs 32 [Tm 5 (.data (.slc false (some true) 24 (List.map TMsg.en []))), Ob 4 (TRaft.ob r3_1)] [] .n ?_
    refine WK.weak (l := [Tm 4 (.ptr 4 0), Tm 5 (.data (.slc false none 24 (List.map TMsg.en []))), Ob 4 (TRaft.ob r3_1)]) (wk_of (by kernel_rfl)) ?_
    refine kRt ?_
    have h_0 := some_inj h
    obtain ⟨g_1, h_1⟩ := Prod.mk.inj h_0
    subst g_1
    subst h_1
    exact kFr
   ·rcases br_inv h with ⟨b5_5, h⟩ | ⟨b5_5, h⟩
    ·refine kRs 877 [Tm 55 (bv true)] (.b false :: (.b false :: (.a ⟨bv r5_1, []⟩ :: (rp 12 (.b false) (rp 12 (.b true) []))))) (.r 2 rF (.c (Asks.of (C := Meets Try.prog) (raft_May.meets fu r_v _ h5_2)) (.r 2 rF (.r 4 b5_3 (.r 6 b5_4 (.r 6 b5_5 (.r 6 rT .n))))))) ?_
     refine kCt rT ?_
     refine kRs 32 [Tm 5 (.data (.slc false (some true) 24 (List.map TMsg.en []))), Ob 4 (TRaft.ob r3_1)] [] .n ?_
     refine WK.weak (l := [Tm 4 (.ptr 4 0), Tm 5 (.data (.slc false none 24 (List.map TMsg.en []))), Ob 4 (TRaft.ob r3_1)]) (wk_of (by kernel_rfl)) ?_
     refine kRt ?_
     have h_0 := some_inj h
     obtain ⟨g_1, h_1⟩ := Prod.mk.inj h_0
     subst g_1
     subst h_1
     exact kFr
    ·rcases br_inv h with ⟨b5_6, h⟩ | ⟨b5_6, h⟩
     ·refine kRs 877 [Tm 55 (bv true)] (.b false :: (.b false :: (.a ⟨bv r5_1, []⟩ :: (rp 18 (.b false) (rp 6 (.b true) []))))) (.r 2 rF (.c (Asks.of (C := Meets Try.prog) (raft_May.meets fu r_v _ h5_2)) (.r 2 rF (.r 4 b5_3 (.r 6 b5_4 (.r 6 b5_5 (.r 6 b5_6 .n))))))) ?_
      refine kCt rT ?_
      refine kRs 32 [Tm 5 (.data (.slc false (some true) 24 (List.map TMsg.en []))), Ob 4 (TRaft.ob r3_1)] [] .n ?_
      refine WK.weak (l := [Tm 4 (.ptr 4 0), Tm 5 (.data (.slc false none 24 (List.map TMsg.en []))), Ob 4 (TRaft.ob r3_1)]) (wk_of (by kernel_rfl)) ?_
      refine kRt ?_
      have h_0 := some_inj h
      obtain ⟨g_1, h_1⟩ := Prod.mk.inj h_0
      subst g_1
      subst h_1
      exact kFr
     ·refine kRs 877 [Tm 55 (bv (m.To != r_v.Me))] (.b false :: (.b false :: (.a ⟨bv r5_1, []⟩ :: (rp 24 (.b false) [])))) (.r 2 rF (.c (Asks.of (C := Meets Try.prog) (raft_May.meets fu r_v _ h5_2)) (.r 2 rF (.r 4 b5_3 (.r 6 b5_4 (.r 6 b5_5 (.r 6 b5_6 .n))))))) ?_
      rcases br_inv h with ⟨b10_0, h⟩ | ⟨b10_0, h⟩
      ·refine kCt b10_0 ?_
       refine kRs 32 [Tm 5 (.data (.slc false (some true) 24 (List.map TMsg.en []))), Ob 4 (TRaft.ob r3_1)] [] .n ?_
       refine WK.weak (l := [Tm 4 (.ptr 4 0), Tm 5 (.data (.slc false none 24 (List.map TMsg.en []))), Ob 4 (TRaft.ob r3_1)]) (wk_of (by kernel_rfl)) ?_
       refine kRt ?_
       have h_0 := some_inj h
       obtain ⟨g_1, h_1⟩ := Prod.mk.inj h_0
       subst g_1
       subst h_1
       exact kFr
      ·refine kCe b10_0 ?_
       refine kSk ?_
       refine kCd (cR (cR (cR (cR (cR bd25))))) [] ?_
       obtain ⟨k15, hk15, h⟩ := jn_inv h
       have Jk15 : ∀ (j15_2 : TMember), k15 j15_2 = some (z0, z1) → WK Try.prog raft_Take.O (Ck Try.prog) (cR (cR (cR (cR (cR (cR bd25)))))) [] (ofL [Tm 3 (.ptr 3 0), Tm 4 (.ptr 4 0), Tm 7 (.ptr 15 0), Tm 8 (.fn (.func 50) [] []), Ob 3 (TMsg.ob m), Ob 4 (TRaft.ob_000001000111 (TRaft.mk 0 0 0 0 0 [] 0 0 0 [] [] [] 0)), Ob 15 (TMember.ob_00000100011101 j15_2)]) (Fin Try.prog raft_Take.O Try.f25 0 ⟨.tup [.data (TRaft.ag z0), .data (.slc false none 24 (List.map TMsg.en z1))], []⟩) := by
        intro j15_2 h
        rw [hk15] at h
        obtain ⟨r16_1, h16_2, h⟩ := bd_inv h
        refine kRs 38 [Ob 15 (TMember.ob_00000100011101 r16_1)] [.a ⟨.tup [], [(TMember.ob_00000100011101 r16_1)]⟩] (.c (Asks.of (C := Meets Try.prog) (raft_member_askVote.meets m j15_2 _ h16_2)) .n) ?_
        refine WK.shareO (i := 15) (cc := 10) (l' := [Tm 4 (.ptr 4 0), Tm 7 (.ptr 15 0), Ob 4 (TRaft.ob_000001000111 (TRaft.mk 0 0 0 0 0 [] 0 0 0 [] [] [] 0)), Ob 15 (TMember.ob_00000100010101 r16_1)]) (by kernel_rfl) (by kernel_rfl) (by kernel_rfl) ?_
        refine WK.shareO (i := 15) (cc := 11) (l' := [Tm 4 (.ptr 4 0), Tm 7 (.ptr 15 0), Ob 4 (TRaft.ob_000001000111 (TRaft.mk 0 0 0 0 0 [] 0 0 0 [] [] [] 0)), Ob 15 (TMember.ob_00000100010001 r16_1)]) (by kernel_rfl) (by kernel_rfl) (by kernel_rfl) ?_
        refine WK.shareO (i := 15) (cc := 13) (l' := [Tm 4 (.ptr 4 0), Tm 7 (.ptr 15 0), Ob 4 (TRaft.ob_000001000111 (TRaft.mk 0 0 0 0 0 [] 0 0 0 [] [] [] 0)), Ob 15 (TMember.ob_0000010001 r16_1)]) (by kernel_rfl) (by kernel_rfl) (by kernel_rfl) ?_
        refine WK.shareO (i := 15) (cc := 5) (l' := [Tm 4 (.ptr 4 0), Tm 7 (.ptr 15 0), Ob 4 (TRaft.ob_000001000111 (TRaft.mk 0 0 0 0 0 [] 0 0 0 [] [] [] 0)), Ob 15 (TMember.ob_0000000001 r16_1)]) (by kernel_rfl) (by kernel_rfl) (by kernel_rfl) ?_
        refine WK.shareO (i := 15) (cc := 9) (l' := [Tm 4 (.ptr 4 0), Tm 7 (.ptr 15 0), Ob 4 (TRaft.ob_000001000111 (TRaft.mk 0 0 0 0 0 [] 0 0 0 [] [] [] 0)), Ob 15 (TMember.ob r16_1)]) (by kernel_rfl) (by kernel_rfl) (by kernel_rfl) ?_
        refine kRs 1 [Tm 5 (.data (.slc false none 24 (List.map TMsg.en r16_1.out))), Ob 4 (TRaft.ob r16_1.Raft)] [] (.c rT .n) ?_
        refine WK.weak (l := [Tm 4 (.ptr 4 0), Tm 5 (.data (.slc false none 24 (List.map TMsg.en r16_1.out))), Ob 4 (TRaft.ob r16_1.Raft)]) (wk_of (by kernel_rfl)) ?_
        refine kRt ?_
        have h_0 := some_inj h
        obtain ⟨g_1, h_1⟩ := Prod.mk.inj h_0
        subst g_1
        subst h_1
        exact kFr
       clear hk15
       refine kSq ?_
       refine kRs 254 [Tm 67 (bv (decide (m.Term > r3_1.Term)))] [] (.c rT .n) ?_
       rcases br_inv h with ⟨b13_0, h⟩ | ⟨b13_0, h⟩
       ·refine kCt b13_0 ?_
        obtain ⟨r14_1, h14_2, h⟩ := bd_inv h
        refine kRc 246 [Ob 15 (TMember.ob_00000100011101 r14_1)] [.a ⟨.tup [], [(TMember.ob_00000100011101 r14_1)]⟩] (.c (Asks.of (C := Meets Try.prog) (raft_member_yields.meets m.Term (TMember.mk r3_1 []) _ h14_2)) .n) (cR (cR (cR (cR (cR (cR bd25)))))) [] ?_
        exact kWk (Jk15 r14_1 h)
       ·refine kCe b13_0 ?_
        refine kSk ?_
        refine kCd (cR (cR (cR (cR (cR (cR bd25)))))) [] ?_
        exact kWk (Jk15 (TMember.mk r3_1 []) h)
 ·rcases br_inv h with ⟨b4_2, h⟩ | ⟨b4_2, h⟩
  ·refine kRs 507 [Tm 8 (.fn (.func 51) [] []), Tm 9 (bv true)] [.b false, .b true] (.c b4_1 (.c b4_2 .n)) ?_
   refine kSq ?_
   obtain ⟨r18_1, h18_2, h⟩ := bd_inv h
   rcases br_inv h with ⟨b18_3, h⟩ | ⟨b18_3, h⟩
   ·refine kRs 877 [Tm 55 (bv true)] (.b false :: (.b false :: (.a ⟨bv r18_1, []⟩ :: (.b false :: (.b false :: (rp 22 (.b true) [])))))) (.r 2 rF (.c (Asks.of (C := Meets Try.prog) (raft_May.meets fu r_v _ h18_2)) (.r 2 rF (.r 4 b18_3 (.r 18 rT .n))))) ?_
    refine kCt rT ?_
    refine kRs 32 [Tm 5 (.data (.slc false (some true) 24 (List.map TMsg.en []))), Ob 4 (TRaft.ob r3_1)] [] .n ?_
    refine WK.weak (l := [Tm 4 (.ptr 4 0), Tm 5 (.data (.slc false none 24 (List.map TMsg.en []))), Ob 4 (TRaft.ob r3_1)]) (wk_of (by kernel_rfl)) ?_
    refine kRt ?_
    have h_0 := some_inj h
    obtain ⟨g_1, h_1⟩ := Prod.mk.inj h_0
    subst g_1
    subst h_1
    exact kFr
   ·rcases br_inv h with ⟨b18_4, h⟩ | ⟨b18_4, h⟩
    ·refine kRs 877 [Tm 55 (bv true)] (.b false :: (.b false :: (.a ⟨bv r18_1, []⟩ :: (rp 6 (.b false) (rp 18 (.b true) []))))) (.r 2 rF (.c (Asks.of (C := Meets Try.prog) (raft_May.meets fu r_v _ h18_2)) (.r 2 rF (.r 4 b18_3 (.r 6 b18_4 (.r 12 rT .n)))))) ?_
     refine kCt rT ?_
     refine kRs 32 [Tm 5 (.data (.slc false (some true) 24 (List.map TMsg.en []))), Ob 4 (TRaft.ob r3_1)] [] .n ?_
     refine WK.weak (l := [Tm 4 (.ptr 4 0), Tm 5 (.data (.slc false none 24 (List.map TMsg.en []))), Ob 4 (TRaft.ob r3_1)]) (wk_of (by kernel_rfl)) ?_
     refine kRt ?_
     have h_0 := some_inj h
     obtain ⟨g_1, h_1⟩ := Prod.mk.inj h_0
     subst g_1
     subst h_1
     exact kFr
    ·rcases br_inv h with ⟨b18_5, h⟩ | ⟨b18_5, h⟩
     ·refine kRs 877 [Tm 55 (bv true)] (.b false :: (.b false :: (.a ⟨bv r18_1, []⟩ :: (rp 12 (.b false) (rp 12 (.b true) []))))) (.r 2 rF (.c (Asks.of (C := Meets Try.prog) (raft_May.meets fu r_v _ h18_2)) (.r 2 rF (.r 4 b18_3 (.r 6 b18_4 (.r 6 b18_5 (.r 6 rT .n))))))) ?_
      refine kCt rT ?_
      refine kRs 32 [Tm 5 (.data (.slc false (some true) 24 (List.map TMsg.en []))), Ob 4 (TRaft.ob r3_1)] [] .n ?_
      refine WK.weak (l := [Tm 4 (.ptr 4 0), Tm 5 (.data (.slc false none 24 (List.map TMsg.en []))), Ob 4 (TRaft.ob r3_1)]) (wk_of (by kernel_rfl)) ?_
      refine kRt ?_
      have h_0 := some_inj h
      obtain ⟨g_1, h_1⟩ := Prod.mk.inj h_0
      subst g_1
      subst h_1
      exact kFr
     ·rcases br_inv h with ⟨b18_6, h⟩ | ⟨b18_6, h⟩
      ·refine kRs 877 [Tm 55 (bv true)] (.b false :: (.b false :: (.a ⟨bv r18_1, []⟩ :: (rp 18 (.b false) (rp 6 (.b true) []))))) (.r 2 rF (.c (Asks.of (C := Meets Try.prog) (raft_May.meets fu r_v _ h18_2)) (.r 2 rF (.r 4 b18_3 (.r 6 b18_4 (.r 6 b18_5 (.r 6 b18_6 .n))))))) ?_
       refine kCt rT ?_
       refine kRs 32 [Tm 5 (.data (.slc false (some true) 24 (List.map TMsg.en []))), Ob 4 (TRaft.ob r3_1)] [] .n ?_
       refine WK.weak (l := [Tm 4 (.ptr 4 0), Tm 5 (.data (.slc false none 24 (List.map TMsg.en []))), Ob 4 (TRaft.ob r3_1)]) (wk_of (by kernel_rfl)) ?_
       refine kRt ?_
       have h_0 := some_inj h
       obtain ⟨g_1, h_1⟩ := Prod.mk.inj h_0
       subst g_1
       subst h_1
       exact kFr
      ·refine kRs 877 [Tm 55 (bv (m.To != r_v.Me))] (.b false :: (.b false :: (.a ⟨bv r18_1, []⟩ :: (rp 24 (.b false) [])))) (.r 2 rF (.c (Asks.of (C := Meets Try.prog) (raft_May.meets fu r_v _ h18_2)) (.r 2 rF (.r 4 b18_3 (.r 6 b18_4 (.r 6 b18_5 (.r 6 b18_6 .n))))))) ?_
       rcases br_inv h with ⟨b23_0, h⟩ | ⟨b23_0, h⟩
       ·refine kCt b23_0 ?_
        refine kRs 32 [Tm 5 (.data (.slc false (some true) 24 (List.map TMsg.en []))), Ob 4 (TRaft.ob r3_1)] [] .n ?_
        refine WK.weak (l := [Tm 4 (.ptr 4 0), Tm 5 (.data (.slc false none 24 (List.map TMsg.en []))), Ob 4 (TRaft.ob r3_1)]) (wk_of (by kernel_rfl)) ?_
        refine kRt ?_
        have h_0 := some_inj h
        obtain ⟨g_1, h_1⟩ := Prod.mk.inj h_0
        subst g_1
        subst h_1
        exact kFr
       ·refine kCe b23_0 ?_
        refine kSk ?_
        refine kCd (cR (cR (cR (cR (cR bd25))))) [] ?_
        obtain ⟨k28, hk28, h⟩ := jn_inv h
        have Jk28 : ∀ (j28_2 : TMember), k28 j28_2 = some (z0, z1) → WK Try.prog raft_Take.O (Ck Try.prog) (cR (cR (cR (cR (cR (cR bd25)))))) [] (ofL [Tm 3 (.ptr 3 0), Tm 4 (.ptr 4 0), Tm 7 (.ptr 15 0), Tm 8 (.fn (.func 51) [] []), Ob 3 (TMsg.ob m), Ob 4 (TRaft.ob_000001000111 (TRaft.mk 0 0 0 0 0 [] 0 0 0 [] [] [] 0)), Ob 15 (TMember.ob_00000100011101 j28_2)]) (Fin Try.prog raft_Take.O Try.f25 0 ⟨.tup [.data (TRaft.ag z0), .data (.slc false none 24 (List.map TMsg.en z1))], []⟩) := by
         intro j28_2 h
         rw [hk28] at h
         obtain ⟨r29_1, h29_2, h⟩ := bd_inv h
         refine kRs 38 [Ob 15 (TMember.ob_00000000011101 r29_1)] [.a ⟨.tup [], [(TMember.ob_00000000011101 r29_1)]⟩] (.c (Asks.of (C := Meets Try.prog) (raft_member_vote.meets fu m j28_2 _ h29_2)) .n) ?_
         refine WK.shareO (i := 15) (cc := 10) (l' := [Tm 4 (.ptr 4 0), Tm 7 (.ptr 15 0), Ob 4 (TRaft.ob_000001000111 (TRaft.mk 0 0 0 0 0 [] 0 0 0 [] [] [] 0)), Ob 15 (TMember.ob_00000000010101 r29_1)]) (by kernel_rfl) (by kernel_rfl) (by kernel_rfl) ?_
         refine WK.shareO (i := 15) (cc := 11) (l' := [Tm 4 (.ptr 4 0), Tm 7 (.ptr 15 0), Ob 4 (TRaft.ob_000001000111 (TRaft.mk 0 0 0 0 0 [] 0 0 0 [] [] [] 0)), Ob 15 (TMember.ob_00000000010001 r29_1)]) (by kernel_rfl) (by kernel_rfl) (by kernel_rfl) ?_
         refine WK.shareO (i := 15) (cc := 13) (l' := [Tm 4 (.ptr 4 0), Tm 7 (.ptr 15 0), Ob 4 (TRaft.ob_000001000111 (TRaft.mk 0 0 0 0 0 [] 0 0 0 [] [] [] 0)), Ob 15 (TMember.ob_0000000001 r29_1)]) (by kernel_rfl) (by kernel_rfl) (by kernel_rfl) ?_
         refine WK.shareO (i := 15) (cc := 9) (l' := [Tm 4 (.ptr 4 0), Tm 7 (.ptr 15 0), Ob 4 (TRaft.ob_000001000111 (TRaft.mk 0 0 0 0 0 [] 0 0 0 [] [] [] 0)), Ob 15 (TMember.ob r29_1)]) (by kernel_rfl) (by kernel_rfl) (by kernel_rfl) ?_
         refine kRs 1 [Tm 5 (.data (.slc false none 24 (List.map TMsg.en r29_1.out))), Ob 4 (TRaft.ob r29_1.Raft)] [] (.c rT .n) ?_
         refine WK.weak (l := [Tm 4 (.ptr 4 0), Tm 5 (.data (.slc false none 24 (List.map TMsg.en r29_1.out))), Ob 4 (TRaft.ob r29_1.Raft)]) (wk_of (by kernel_rfl)) ?_
         refine kRt ?_
         have h_0 := some_inj h
         obtain ⟨g_1, h_1⟩ := Prod.mk.inj h_0
         subst g_1
         subst h_1
         exact kFr
        clear hk28
        refine kSq ?_
        refine kRs 254 [Tm 67 (bv (decide (m.Term > r3_1.Term)))] [] (.c rT .n) ?_
        rcases br_inv h with ⟨b26_0, h⟩ | ⟨b26_0, h⟩
        ·refine kCt b26_0 ?_
         obtain ⟨r27_1, h27_2, h⟩ := bd_inv h
         refine kRc 246 [Ob 15 (TMember.ob_00000100011101 r27_1)] [.a ⟨.tup [], [(TMember.ob_00000100011101 r27_1)]⟩] (.c (Asks.of (C := Meets Try.prog) (raft_member_yields.meets m.Term (TMember.mk r3_1 []) _ h27_2)) .n) (cR (cR (cR (cR (cR (cR bd25)))))) [] ?_
         exact kWk (Jk28 r27_1 h)
        ·refine kCe b26_0 ?_
         refine kSk ?_
         refine kCd (cR (cR (cR (cR (cR (cR bd25)))))) [] ?_
         exact kWk (Jk28 (TMember.mk r3_1 []) h)
  ·rcases br_inv h with ⟨b4_3, h⟩ | ⟨b4_3, h⟩
   ·refine kRs 507 [Tm 8 (.fn (.func 52) [] []), Tm 9 (bv true)] [.b false, .b false, .b true] (.c b4_1 (.c b4_2 (.c b4_3 .n))) ?_
    refine kSq ?_
    obtain ⟨r31_1, h31_2, h⟩ := bd_inv h
    rcases br_inv h with ⟨b31_3, h⟩ | ⟨b31_3, h⟩
    ·refine kRs 877 [Tm 55 (bv true)] (.b false :: (.b false :: (.a ⟨bv r31_1, []⟩ :: (.b false :: (.b false :: (rp 22 (.b true) [])))))) (.r 2 rF (.c (Asks.of (C := Meets Try.prog) (raft_May.meets fu r_v _ h31_2)) (.r 2 rF (.r 4 b31_3 (.r 18 rT .n))))) ?_
     refine kCt rT ?_
     refine kRs 32 [Tm 5 (.data (.slc false (some true) 24 (List.map TMsg.en []))), Ob 4 (TRaft.ob r3_1)] [] .n ?_
     refine WK.weak (l := [Tm 4 (.ptr 4 0), Tm 5 (.data (.slc false none 24 (List.map TMsg.en []))), Ob 4 (TRaft.ob r3_1)]) (wk_of (by kernel_rfl)) ?_
     refine kRt ?_
     have h_0 := some_inj h
     obtain ⟨g_1, h_1⟩ := Prod.mk.inj h_0
     subst g_1
     subst h_1
     exact kFr
    ·rcases br_inv h with ⟨b31_4, h⟩ | ⟨b31_4, h⟩
     ·refine kRs 877 [Tm 55 (bv true)] (.b false :: (.b false :: (.a ⟨bv r31_1, []⟩ :: (rp 6 (.b false) (rp 18 (.b true) []))))) (.r 2 rF (.c (Asks.of (C := Meets Try.prog) (raft_May.meets fu r_v _ h31_2)) (.r 2 rF (.r 4 b31_3 (.r 6 b31_4 (.r 12 rT .n)))))) ?_
      refine kCt rT ?_
      refine kRs 32 [Tm 5 (.data (.slc false (some true) 24 (List.map TMsg.en []))), Ob 4 (TRaft.ob r3_1)] [] .n ?_
      refine WK.weak (l := [Tm 4 (.ptr 4 0), Tm 5 (.data (.slc false none 24 (List.map TMsg.en []))), Ob 4 (TRaft.ob r3_1)]) (wk_of (by kernel_rfl)) ?_
      refine kRt ?_
      have h_0 := some_inj h
      obtain ⟨g_1, h_1⟩ := Prod.mk.inj h_0
      subst g_1
      subst h_1
      exact kFr
     ·rcases br_inv h with ⟨b31_5, h⟩ | ⟨b31_5, h⟩
      ·refine kRs 877 [Tm 55 (bv true)] (.b false :: (.b false :: (.a ⟨bv r31_1, []⟩ :: (rp 12 (.b false) (rp 12 (.b true) []))))) (.r 2 rF (.c (Asks.of (C := Meets Try.prog) (raft_May.meets fu r_v _ h31_2)) (.r 2 rF (.r 4 b31_3 (.r 6 b31_4 (.r 6 b31_5 (.r 6 rT .n))))))) ?_
       refine kCt rT ?_
       refine kRs 32 [Tm 5 (.data (.slc false (some true) 24 (List.map TMsg.en []))), Ob 4 (TRaft.ob r3_1)] [] .n ?_
       refine WK.weak (l := [Tm 4 (.ptr 4 0), Tm 5 (.data (.slc false none 24 (List.map TMsg.en []))), Ob 4 (TRaft.ob r3_1)]) (wk_of (by kernel_rfl)) ?_
       refine kRt ?_
       have h_0 := some_inj h
       obtain ⟨g_1, h_1⟩ := Prod.mk.inj h_0
       subst g_1
       subst h_1
       exact kFr
      ·rcases br_inv h with ⟨b31_6, h⟩ | ⟨b31_6, h⟩
       ·refine kRs 877 [Tm 55 (bv true)] (.b false :: (.b false :: (.a ⟨bv r31_1, []⟩ :: (rp 18 (.b false) (rp 6 (.b true) []))))) (.r 2 rF (.c (Asks.of (C := Meets Try.prog) (raft_May.meets fu r_v _ h31_2)) (.r 2 rF (.r 4 b31_3 (.r 6 b31_4 (.r 6 b31_5 (.r 6 b31_6 .n))))))) ?_
        refine kCt rT ?_
        refine kRs 32 [Tm 5 (.data (.slc false (some true) 24 (List.map TMsg.en []))), Ob 4 (TRaft.ob r3_1)] [] .n ?_
        refine WK.weak (l := [Tm 4 (.ptr 4 0), Tm 5 (.data (.slc false none 24 (List.map TMsg.en []))), Ob 4 (TRaft.ob r3_1)]) (wk_of (by kernel_rfl)) ?_
        refine kRt ?_
        have h_0 := some_inj h
        obtain ⟨g_1, h_1⟩ := Prod.mk.inj h_0
        subst g_1
        subst h_1
        exact kFr
       ·refine kRs 877 [Tm 55 (bv (m.To != r_v.Me))] (.b false :: (.b false :: (.a ⟨bv r31_1, []⟩ :: (rp 24 (.b false) [])))) (.r 2 rF (.c (Asks.of (C := Meets Try.prog) (raft_May.meets fu r_v _ h31_2)) (.r 2 rF (.r 4 b31_3 (.r 6 b31_4 (.r 6 b31_5 (.r 6 b31_6 .n))))))) ?_
        rcases br_inv h with ⟨b36_0, h⟩ | ⟨b36_0, h⟩
        ·refine kCt b36_0 ?_
         refine kRs 32 [Tm 5 (.data (.slc false (some true) 24 (List.map TMsg.en []))), Ob 4 (TRaft.ob r3_1)] [] .n ?_
         refine WK.weak (l := [Tm 4 (.ptr 4 0), Tm 5 (.data (.slc false none 24 (List.map TMsg.en []))), Ob 4 (TRaft.ob r3_1)]) (wk_of (by kernel_rfl)) ?_
         refine kRt ?_
         have h_0 := some_inj h
         obtain ⟨g_1, h_1⟩ := Prod.mk.inj h_0
         subst g_1
         subst h_1
         exact kFr
        ·refine kCe b36_0 ?_
         refine kSk ?_
         refine kCd (cR (cR (cR (cR (cR bd25))))) [] ?_
         obtain ⟨k41, hk41, h⟩ := jn_inv h
         have Jk41 : ∀ (j41_2 : TMember), k41 j41_2 = some (z0, z1) → WK Try.prog raft_Take.O (Ck Try.prog) (cR (cR (cR (cR (cR (cR bd25)))))) [] (ofL [Tm 3 (.ptr 3 0), Tm 4 (.ptr 4 0), Tm 7 (.ptr 15 0), Tm 8 (.fn (.func 52) [] []), Ob 3 (TMsg.ob m), Ob 4 (TRaft.ob_000001000111 (TRaft.mk 0 0 0 0 0 [] 0 0 0 [] [] [] 0)), Ob 15 (TMember.ob_00000100011101 j41_2)]) (Fin Try.prog raft_Take.O Try.f25 0 ⟨.tup [.data (TRaft.ag z0), .data (.slc false none 24 (List.map TMsg.en z1))], []⟩) := by
          intro j41_2 h
          rw [hk41] at h
          obtain ⟨r42_1, h42_2, h⟩ := bd_inv h
          refine kRs 38 [Ob 15 (TMember.ob_00000000011101 r42_1)] [.a ⟨.tup [], [(TMember.ob_00000000011101 r42_1)]⟩] (.c (Asks.of (C := Meets Try.prog) (raft_member_append.meets fu m j41_2 _ h42_2)) .n) ?_
          refine WK.shareO (i := 15) (cc := 10) (l' := [Tm 4 (.ptr 4 0), Tm 7 (.ptr 15 0), Ob 4 (TRaft.ob_000001000111 (TRaft.mk 0 0 0 0 0 [] 0 0 0 [] [] [] 0)), Ob 15 (TMember.ob_00000000010101 r42_1)]) (by kernel_rfl) (by kernel_rfl) (by kernel_rfl) ?_
          refine WK.shareO (i := 15) (cc := 11) (l' := [Tm 4 (.ptr 4 0), Tm 7 (.ptr 15 0), Ob 4 (TRaft.ob_000001000111 (TRaft.mk 0 0 0 0 0 [] 0 0 0 [] [] [] 0)), Ob 15 (TMember.ob_00000000010001 r42_1)]) (by kernel_rfl) (by kernel_rfl) (by kernel_rfl) ?_
          refine WK.shareO (i := 15) (cc := 13) (l' := [Tm 4 (.ptr 4 0), Tm 7 (.ptr 15 0), Ob 4 (TRaft.ob_000001000111 (TRaft.mk 0 0 0 0 0 [] 0 0 0 [] [] [] 0)), Ob 15 (TMember.ob_0000000001 r42_1)]) (by kernel_rfl) (by kernel_rfl) (by kernel_rfl) ?_
          refine WK.shareO (i := 15) (cc := 9) (l' := [Tm 4 (.ptr 4 0), Tm 7 (.ptr 15 0), Ob 4 (TRaft.ob_000001000111 (TRaft.mk 0 0 0 0 0 [] 0 0 0 [] [] [] 0)), Ob 15 (TMember.ob r42_1)]) (by kernel_rfl) (by kernel_rfl) (by kernel_rfl) ?_
          refine kRs 1 [Tm 5 (.data (.slc false none 24 (List.map TMsg.en r42_1.out))), Ob 4 (TRaft.ob r42_1.Raft)] [] (.c rT .n) ?_
          refine WK.weak (l := [Tm 4 (.ptr 4 0), Tm 5 (.data (.slc false none 24 (List.map TMsg.en r42_1.out))), Ob 4 (TRaft.ob r42_1.Raft)]) (wk_of (by kernel_rfl)) ?_
          refine kRt ?_
          have h_0 := some_inj h
          obtain ⟨g_1, h_1⟩ := Prod.mk.inj h_0
          subst g_1
          subst h_1
          exact kFr
         clear hk41
         refine kSq ?_
         refine kRs 254 [Tm 67 (bv (decide (m.Term > r3_1.Term)))] [] (.c rT .n) ?_
         rcases br_inv h with ⟨b39_0, h⟩ | ⟨b39_0, h⟩
         ·refine kCt b39_0 ?_
          obtain ⟨r40_1, h40_2, h⟩ := bd_inv h
          refine kRc 246 [Ob 15 (TMember.ob_00000100011101 r40_1)] [.a ⟨.tup [], [(TMember.ob_00000100011101 r40_1)]⟩] (.c (Asks.of (C := Meets Try.prog) (raft_member_yields.meets m.Term (TMember.mk r3_1 []) _ h40_2)) .n) (cR (cR (cR (cR (cR (cR bd25)))))) [] ?_
          exact kWk (Jk41 r40_1 h)
         ·refine kCe b39_0 ?_
          refine kSk ?_
          refine kCd (cR (cR (cR (cR (cR (cR bd25)))))) [] ?_
          exact kWk (Jk41 (TMember.mk r3_1 []) h)
   ·rcases br_inv h with ⟨b4_4, h⟩ | ⟨b4_4, h⟩
    ·refine kRs 507 [Tm 8 (.fn (.func 53) [] []), Tm 9 (bv true)] [.b false, .b false, .b false, .b true] (.c b4_1 (.c b4_2 (.c b4_3 (.c b4_4 .n)))) ?_
     refine kSq ?_
     obtain ⟨r44_1, h44_2, h⟩ := bd_inv h
     rcases br_inv h with ⟨b44_3, h⟩ | ⟨b44_3, h⟩
     ·refine kRs 877 [Tm 55 (bv true)] (.b false :: (.b false :: (.a ⟨bv r44_1, []⟩ :: (.b false :: (.b false :: (rp 22 (.b true) [])))))) (.r 2 rF (.c (Asks.of (C := Meets Try.prog) (raft_May.meets fu r_v _ h44_2)) (.r 2 rF (.r 4 b44_3 (.r 18 rT .n))))) ?_
      refine kCt rT ?_
      refine kRs 32 [Tm 5 (.data (.slc false (some true) 24 (List.map TMsg.en []))), Ob 4 (TRaft.ob r3_1)] [] .n ?_
      refine WK.weak (l := [Tm 4 (.ptr 4 0), Tm 5 (.data (.slc false none 24 (List.map TMsg.en []))), Ob 4 (TRaft.ob r3_1)]) (wk_of (by kernel_rfl)) ?_
      refine kRt ?_
      have h_0 := some_inj h
      obtain ⟨g_1, h_1⟩ := Prod.mk.inj h_0
      subst g_1
      subst h_1
      exact kFr
     ·rcases br_inv h with ⟨b44_4, h⟩ | ⟨b44_4, h⟩
      ·refine kRs 877 [Tm 55 (bv true)] (.b false :: (.b false :: (.a ⟨bv r44_1, []⟩ :: (rp 6 (.b false) (rp 18 (.b true) []))))) (.r 2 rF (.c (Asks.of (C := Meets Try.prog) (raft_May.meets fu r_v _ h44_2)) (.r 2 rF (.r 4 b44_3 (.r 6 b44_4 (.r 12 rT .n)))))) ?_
       refine kCt rT ?_
       refine kRs 32 [Tm 5 (.data (.slc false (some true) 24 (List.map TMsg.en []))), Ob 4 (TRaft.ob r3_1)] [] .n ?_
       refine WK.weak (l := [Tm 4 (.ptr 4 0), Tm 5 (.data (.slc false none 24 (List.map TMsg.en []))), Ob 4 (TRaft.ob r3_1)]) (wk_of (by kernel_rfl)) ?_
       refine kRt ?_
       have h_0 := some_inj h
       obtain ⟨g_1, h_1⟩ := Prod.mk.inj h_0
       subst g_1
       subst h_1
       exact kFr
      ·rcases br_inv h with ⟨b44_5, h⟩ | ⟨b44_5, h⟩
       ·refine kRs 877 [Tm 55 (bv true)] (.b false :: (.b false :: (.a ⟨bv r44_1, []⟩ :: (rp 12 (.b false) (rp 12 (.b true) []))))) (.r 2 rF (.c (Asks.of (C := Meets Try.prog) (raft_May.meets fu r_v _ h44_2)) (.r 2 rF (.r 4 b44_3 (.r 6 b44_4 (.r 6 b44_5 (.r 6 rT .n))))))) ?_
        refine kCt rT ?_
        refine kRs 32 [Tm 5 (.data (.slc false (some true) 24 (List.map TMsg.en []))), Ob 4 (TRaft.ob r3_1)] [] .n ?_
        refine WK.weak (l := [Tm 4 (.ptr 4 0), Tm 5 (.data (.slc false none 24 (List.map TMsg.en []))), Ob 4 (TRaft.ob r3_1)]) (wk_of (by kernel_rfl)) ?_
        refine kRt ?_
        have h_0 := some_inj h
        obtain ⟨g_1, h_1⟩ := Prod.mk.inj h_0
        subst g_1
        subst h_1
        exact kFr
       ·rcases br_inv h with ⟨b44_6, h⟩ | ⟨b44_6, h⟩
        ·refine kRs 877 [Tm 55 (bv true)] (.b false :: (.b false :: (.a ⟨bv r44_1, []⟩ :: (rp 18 (.b false) (rp 6 (.b true) []))))) (.r 2 rF (.c (Asks.of (C := Meets Try.prog) (raft_May.meets fu r_v _ h44_2)) (.r 2 rF (.r 4 b44_3 (.r 6 b44_4 (.r 6 b44_5 (.r 6 b44_6 .n))))))) ?_
         refine kCt rT ?_
         refine kRs 32 [Tm 5 (.data (.slc false (some true) 24 (List.map TMsg.en []))), Ob 4 (TRaft.ob r3_1)] [] .n ?_
         refine WK.weak (l := [Tm 4 (.ptr 4 0), Tm 5 (.data (.slc false none 24 (List.map TMsg.en []))), Ob 4 (TRaft.ob r3_1)]) (wk_of (by kernel_rfl)) ?_
         refine kRt ?_
         have h_0 := some_inj h
         obtain ⟨g_1, h_1⟩ := Prod.mk.inj h_0
         subst g_1
         subst h_1
         exact kFr
        ·refine kRs 877 [Tm 55 (bv (m.To != r_v.Me))] (.b false :: (.b false :: (.a ⟨bv r44_1, []⟩ :: (rp 24 (.b false) [])))) (.r 2 rF (.c (Asks.of (C := Meets Try.prog) (raft_May.meets fu r_v _ h44_2)) (.r 2 rF (.r 4 b44_3 (.r 6 b44_4 (.r 6 b44_5 (.r 6 b44_6 .n))))))) ?_
         rcases br_inv h with ⟨b49_0, h⟩ | ⟨b49_0, h⟩
         ·refine kCt b49_0 ?_
          refine kRs 32 [Tm 5 (.data (.slc false (some true) 24 (List.map TMsg.en []))), Ob 4 (TRaft.ob r3_1)] [] .n ?_
          refine WK.weak (l := [Tm 4 (.ptr 4 0), Tm 5 (.data (.slc false none 24 (List.map TMsg.en []))), Ob 4 (TRaft.ob r3_1)]) (wk_of (by kernel_rfl)) ?_
          refine kRt ?_
          have h_0 := some_inj h
          obtain ⟨g_1, h_1⟩ := Prod.mk.inj h_0
          subst g_1
          subst h_1
          exact kFr
         ·refine kCe b49_0 ?_
          refine kSk ?_
          refine kCd (cR (cR (cR (cR (cR bd25))))) [] ?_
          obtain ⟨k54, hk54, h⟩ := jn_inv h
          have Jk54 : ∀ (j54_2 : TMember), k54 j54_2 = some (z0, z1) → WK Try.prog raft_Take.O (Ck Try.prog) (cR (cR (cR (cR (cR (cR bd25)))))) [] (ofL [Tm 3 (.ptr 3 0), Tm 4 (.ptr 4 0), Tm 7 (.ptr 15 0), Tm 8 (.fn (.func 53) [] []), Ob 3 (TMsg.ob m), Ob 4 (TRaft.ob_000001000111 (TRaft.mk 0 0 0 0 0 [] 0 0 0 [] [] [] 0)), Ob 15 (TMember.ob_00000100011101 j54_2)]) (Fin Try.prog raft_Take.O Try.f25 0 ⟨.tup [.data (TRaft.ag z0), .data (.slc false none 24 (List.map TMsg.en z1))], []⟩) := by
           intro j54_2 h
           rw [hk54] at h
           obtain ⟨r55_1, h55_2, h⟩ := bd_inv h
           refine kRs 38 [Ob 15 (TMember.ob_00000000011101 r55_1)] [.a ⟨.tup [], [(TMember.ob_00000000011101 r55_1)]⟩] (.c (Asks.of (C := Meets Try.prog) (raft_member_appended.meets fu m j54_2 _ h55_2)) .n) ?_
           refine WK.shareO (i := 15) (cc := 10) (l' := [Tm 4 (.ptr 4 0), Tm 7 (.ptr 15 0), Ob 4 (TRaft.ob_000001000111 (TRaft.mk 0 0 0 0 0 [] 0 0 0 [] [] [] 0)), Ob 15 (TMember.ob_00000000010101 r55_1)]) (by kernel_rfl) (by kernel_rfl) (by kernel_rfl) ?_
           refine WK.shareO (i := 15) (cc := 11) (l' := [Tm 4 (.ptr 4 0), Tm 7 (.ptr 15 0), Ob 4 (TRaft.ob_000001000111 (TRaft.mk 0 0 0 0 0 [] 0 0 0 [] [] [] 0)), Ob 15 (TMember.ob_00000000010001 r55_1)]) (by kernel_rfl) (by kernel_rfl) (by kernel_rfl) ?_
           refine WK.shareO (i := 15) (cc := 13) (l' := [Tm 4 (.ptr 4 0), Tm 7 (.ptr 15 0), Ob 4 (TRaft.ob_000001000111 (TRaft.mk 0 0 0 0 0 [] 0 0 0 [] [] [] 0)), Ob 15 (TMember.ob_0000000001 r55_1)]) (by kernel_rfl) (by kernel_rfl) (by kernel_rfl) ?_
           refine WK.shareO (i := 15) (cc := 9) (l' := [Tm 4 (.ptr 4 0), Tm 7 (.ptr 15 0), Ob 4 (TRaft.ob_000001000111 (TRaft.mk 0 0 0 0 0 [] 0 0 0 [] [] [] 0)), Ob 15 (TMember.ob r55_1)]) (by kernel_rfl) (by kernel_rfl) (by kernel_rfl) ?_
           refine kRs 1 [Tm 5 (.data (.slc false none 24 (List.map TMsg.en r55_1.out))), Ob 4 (TRaft.ob r55_1.Raft)] [] (.c rT .n) ?_
           refine WK.weak (l := [Tm 4 (.ptr 4 0), Tm 5 (.data (.slc false none 24 (List.map TMsg.en r55_1.out))), Ob 4 (TRaft.ob r55_1.Raft)]) (wk_of (by kernel_rfl)) ?_
           refine kRt ?_
           have h_0 := some_inj h
           obtain ⟨g_1, h_1⟩ := Prod.mk.inj h_0
           subst g_1
           subst h_1
           exact kFr
          clear hk54
          refine kSq ?_
          refine kRs 254 [Tm 67 (bv (decide (m.Term > r3_1.Term)))] [] (.c rT .n) ?_
          rcases br_inv h with ⟨b52_0, h⟩ | ⟨b52_0, h⟩
          ·refine kCt b52_0 ?_
           obtain ⟨r53_1, h53_2, h⟩ := bd_inv h
           refine kRc 246 [Ob 15 (TMember.ob_00000100011101 r53_1)] [.a ⟨.tup [], [(TMember.ob_00000100011101 r53_1)]⟩] (.c (Asks.of (C := Meets Try.prog) (raft_member_yields.meets m.Term (TMember.mk r3_1 []) _ h53_2)) .n) (cR (cR (cR (cR (cR (cR bd25)))))) [] ?_
           exact kWk (Jk54 r53_1 h)
          ·refine kCe b52_0 ?_
           refine kSk ?_
           refine kCd (cR (cR (cR (cR (cR (cR bd25)))))) [] ?_
           exact kWk (Jk54 (TMember.mk r3_1 []) h)
    ·refine kRs 507 [Tm 8 (.data (.val .nilFunc)), Tm 9 (bv false)] (rp 4 (.b false) []) (.c b4_1 (.c b4_2 (.c b4_3 (.c b4_4 .n)))) ?_
     refine kSq ?_
     refine kRs 877 [Tm 55 (bv true)] (rp 26 (.b true) []) (.r 26 rT .n) ?_
     refine kCt rT ?_
     refine kRs 32 [Tm 5 (.data (.slc false (some true) 24 (List.map TMsg.en []))), Ob 4 (TRaft.ob r3_1)] [] .n ?_
     refine WK.weak (l := [Tm 4 (.ptr 4 0), Tm 5 (.data (.slc false none 24 (List.map TMsg.en []))), Ob 4 (TRaft.ob r3_1)]) (wk_of (by kernel_rfl)) ?_
     refine kRt ?_
     have h_0 := some_inj h
     obtain ⟨g_1, h_1⟩ := Prod.mk.inj h_0
     subst g_1
     subst h_1
     exact kFr
/-- diwan/diwanref11.May -/
noncomputable def bd17 : Code := (Try.f17.body).getD .skip
def diwanref11_May.O : Nat → Nat := fun t => bif ([1, 2, 3] : List Nat).any (Nat.beq t) then 1 else 0
noncomputable def diwanref11_May.lp25 (fu : Nat) (l25_1 : TRaft) : Nat → Int → Option (Unit ⊕ Unit)
  | 0, _ => none
  | n_ + 1, l25_0 =>
  br (decide (l25_0 < (l25_1.Log.length : Int)))
   (ix l25_1.Log l25_0 fun x28_1 =>
   br (decide (x28_1.Term < 1))
    (some (.inr ()))
    (ix l25_1.Log l25_0 fun x28_5 =>
    br (decide (x28_5.Term > l25_1.Term))
     (some (.inr ()))
     (br (decide (l25_0 > 0))
      (ix l25_1.Log l25_0 fun x28_10 =>
      ix l25_1.Log (w64 (l25_0 - 1)) fun x28_13 =>
      br (decide (x28_10.Term < x28_13.Term))
       (some (.inr ()))
       (diwanref11_May.lp25 fu l25_1 n_ (w64 (l25_0 + 1))))
      (diwanref11_May.lp25 fu l25_1 n_ (w64 (l25_0 + 1))))))
   (some (.inl ()))
noncomputable def diwanref11_May.lp25_post (l25_1 : TRaft) (r_ : (Unit ⊕ Unit)) : Wy → St → Prop := fun e τ => match r_ with
  | .inl _ => e = .exit 0 ∧ τ = ofL []
  | .inr _ => e = .ret ∧ τ = ofL [Tm 2 (bv false)]
theorem diwanref11_May.lp25_ok (fu : Nat) (l25_1 : TRaft) : ∀ (n_ : Nat) (l25_0 : Int) (r_ : (Unit ⊕ Unit)), diwanref11_May.lp25 fu l25_1 n_ l25_0 = some r_ → WK Try.prog diwanref11_May.O (Ck Try.prog) (cB (cR (cL (cR (cR bd17))))) [] (ofL [Tm 1 (.ptr 1 0), Tm 3 (iv l25_0), Ob 1 (TRaft.ob l25_1)]) (diwanref11_May.lp25_post l25_1 r_) := by
 intro n_
 induction n_ with
 | zero => intro l25_0 r_ h; exact no_none h
 | succ n_ ih =>
  intro l25_0 r_ h
  refine kLp ?_
  refine kSq ?_
  refine kRs 7 [Tm 125 (bv (decide (l25_0 < (l25_1.Log.length : Int))))] [.s (.t 124) [iv (l25_1.Log.length : Int)]] (.c (c_len (e := TEntry.en) (l := l25_1.Log)) .n) ?_
  rcases br_inv h with ⟨b27_0, h⟩ | ⟨b27_0, h⟩
  ·refine kCt b27_0 ?_
   refine kSk ?_
   refine kCd (cR (cB (cB (cR (cL (cR (cR bd17))))))) [.lp (cB (cR (cL (cR (cR bd17)))))] ?_
   refine kSq ?_
   refine kBk 1 ?_
   obtain ⟨x28_1, a28_2, e28_3, h⟩ := ix_inv h
   rcases br_inv h with ⟨b28_4, h⟩ | ⟨b28_4, h⟩
   ·refine kRs 14 [Tm 165 (bv true)] (.c (TEntry.en x28_1) :: (rp 15 (.b true) [])) (.c (c_ix (e := TEntry.en) a28_2 e28_3) (.c (c_el (e := TEntry.en) e28_3) (.r 10 b28_4 (.r 6 rT .n)))) ?_
    refine kCt rT ?_
    refine kRs 0 [Tm 2 (bv false)] [] .n ?_
    cases some_inj h
    refine kWo ?_
    refine kRt ?_
    exact kOut
   ·obtain ⟨x28_5, a28_6, e28_7, h⟩ := ix_inv h
    rcases br_inv h with ⟨b28_8, h⟩ | ⟨b28_8, h⟩
    ·refine kRs 14 [Tm 165 (bv true)] (.c (TEntry.en x28_1) :: (rp 4 (.b false) (.c (TEntry.en x28_5) :: (rp 6 (.b false) (rp 5 (.b true) []))))) (.c (c_ix (e := TEntry.en) a28_2 e28_3) (.c (c_el (e := TEntry.en) e28_3) (.r 4 b28_4 (.c (c_ix (e := TEntry.en) a28_6 e28_7) (.c (c_el (e := TEntry.en) e28_7) (.r 6 b28_4 (.r 5 b28_8 (.c rT .n)))))))) ?_
     refine kCt rT ?_
     refine kRs 0 [Tm 2 (bv false)] [] .n ?_
     cases some_inj h
     refine kWo ?_
     refine kRt ?_
     exact kOut
    ·rcases br_inv h with ⟨b28_9, h⟩ | ⟨b28_9, h⟩
     ·obtain ⟨x28_10, a28_11, e28_12, h⟩ := ix_inv h
      obtain ⟨x28_13, a28_14, e28_15, h⟩ := ix_inv h
      refine kRs 14 [Tm 165 (bv (decide (x28_10.Term < x28_13.Term)))] (.c (TEntry.en x28_1) :: (rp 4 (.b false) (.c (TEntry.en x28_5) :: (rp 9 (.b false) (rp 4 (.b true) (.c (TEntry.en x28_10) :: (rp 7 (.b true) [.c (TEntry.en x28_13), .b true, .b true, .b true, .b false, .b true, .b false]))))))) (.c (c_ix (e := TEntry.en) a28_2 e28_3) (.c (c_el (e := TEntry.en) e28_3) (.r 4 b28_4 (.c (c_ix (e := TEntry.en) a28_6 e28_7) (.c (c_el (e := TEntry.en) e28_7) (.r 6 b28_4 (.r 3 b28_8 (.r 4 b28_9 (.c (c_ix (e := TEntry.en) a28_11 e28_12) (.c (c_el (e := TEntry.en) e28_12) (.r 7 b28_9 (.c (c_ix (e := TEntry.en) a28_14 e28_15) (.c (c_el (e := TEntry.en) e28_15) (.r 3 b28_9 (.c b28_8 (.c b28_9 (.c b28_8 (.c rT .n)))))))))))))))))) ?_
      rcases br_inv h with ⟨b31_0, h⟩ | ⟨b31_0, h⟩
      ·refine kCt b31_0 ?_
       refine kRs 0 [Tm 2 (bv false)] [] .n ?_
       cases some_inj h
       refine kWo ?_
       refine kRt ?_
       exact kOut
      ·refine kCe b31_0 ?_
       refine kSk ?_
       refine kCd (cR (cR (cB (cB (cR (cL (cR (cR bd17)))))))) [.lp (cB (cR (cL (cR (cR bd17)))))] ?_
       refine kRc 10 [Tm 3 (iv (w64 (l25_0 + 1)))] [] .n (cB (cR (cL (cR (cR bd17))))) [] ?_
       exact kWk (ih (w64 (l25_0 + 1)) _ h)
     ·refine kRs 14 [Tm 165 (bv false)] (.c (TEntry.en x28_1) :: (rp 4 (.b false) (.c (TEntry.en x28_5) :: (rp 26 (.b false) [])))) (.c (c_ix (e := TEntry.en) a28_2 e28_3) (.c (c_el (e := TEntry.en) e28_3) (.r 4 b28_4 (.c (c_ix (e := TEntry.en) a28_6 e28_7) (.c (c_el (e := TEntry.en) e28_7) (.r 6 b28_4 (.r 3 b28_8 (.r 14 b28_9 (.c b28_8 (.c b28_9 (.c b28_8 (.c rT .n)))))))))))) ?_
      refine kCe rF ?_
      refine kSk ?_
      refine kCd (cR (cR (cB (cB (cR (cL (cR (cR bd17)))))))) [.lp (cB (cR (cL (cR (cR bd17)))))] ?_
      refine kRc 10 [Tm 3 (iv (w64 (l25_0 + 1)))] [] .n (cB (cR (cL (cR (cR bd17))))) [] ?_
      exact kWk (ih (w64 (l25_0 + 1)) _ h)
  ·refine kCe b27_0 ?_
   cases some_inj h
   refine kWo ?_
   refine kXt 0 ?_
   exact kOut
noncomputable def diwanref11_May (fu : Nat) (r_v : TRaft) : Option Bool :=
 br (decide (r_v.Nodes < 1))
  (some false)
  (br (decide (r_v.Nodes > 5))
   (some false)
   (br (decide (r_v.Me < 1))
    (some false)
    (br (decide (r_v.Me > r_v.Nodes))
     (some false)
     (br (decide (r_v.Wait < 1))
      (some false)
      (br (decide (r_v.Wait > 60))
       (some false)
       (br (decide (r_v.Term < 0))
        (some false)
        (br (decide (r_v.Vote < 0))
         (some false)
         (br (decide (r_v.Vote > r_v.Nodes))
          (some false)
          (br (decide (r_v.Leader < 0))
           (some false)
           (br (decide (r_v.Leader > r_v.Nodes))
            (some false)
            (br (decide ((r_v.Log.length : Int) > 200))
             (some false)
             (br (decide (r_v.Commit < 0))
              (some false)
              (br (decide (r_v.Commit > (r_v.Log.length : Int)))
               (some false)
               (br (decide (r_v.Role < 0))
                (some false)
                (br (decide (r_v.Role > 2))
                 (some false)
                 (br ((r_v.Votes.length : Int) != r_v.Nodes)
                  (some false)
                  (br ((r_v.Next.length : Int) != r_v.Nodes)
                   (some false)
                   (br ((r_v.Match.length : Int) != r_v.Nodes)
                    (some false)
                    (br (decide (r_v.Clock < 0))
                     (some false)
                     (bd (diwanref11_May.lp25 fu r_v fu 0) fun o_ => (match o_ with
                     | .inl _ =>
                      some true
                     | .inr _ =>
                      some false)))))))))))))))))))))
theorem diwanref11_May.meets (fu : Nat) (r_v : TRaft) (z0 : Bool) (h : diwanref11_May fu r_v = some z0) : Meets Try.prog ⟨17, [.data (TRaft.ag r_v)], []⟩ ⟨bv z0, []⟩ := by
 refine meets_of (O := diwanref11_May.O) hmix (fn := Try.f17) (code := bd17) (by kernel_rfl) ?_
 refine WK.weak (l := [Tm 0 (.data (TRaft.ag r_v))]) (wk_of (by kernel_rfl)) ?_
 unfold diwanref11_May at h
 refine kRs 0 [Tm 1 (.ptr 1 0), Ob 1 (TRaft.ob r_v)] [] .n ?_
 refine kSq ?_
 rcases br_inv h with ⟨b2_1, h⟩ | ⟨b2_1, h⟩
 ·refine kRs 3 [Tm 120 (bv true)] (rp 95 (.b true) []) (.r 4 b2_1 (.r 91 rT .n)) ?_
  refine kCt rT ?_
  refine kRs 0 [Tm 2 (bv false)] [] .n ?_
  refine WK.weak (l := [Tm 2 (bv false)]) (wk_of (by kernel_rfl)) ?_
  refine kRt ?_
  have h_ := some_inj h
  subst h_
  exact kFr
 ·rcases br_inv h with ⟨b2_2, h⟩ | ⟨b2_2, h⟩
  ·refine kRs 3 [Tm 120 (bv true)] (rp 4 (.b false) (rp 91 (.b true) [])) (.r 4 b2_1 (.r 4 b2_2 (.r 87 rT .n))) ?_
   refine kCt rT ?_
   refine kRs 0 [Tm 2 (bv false)] [] .n ?_
   refine WK.weak (l := [Tm 2 (bv false)]) (wk_of (by kernel_rfl)) ?_
   refine kRt ?_
   have h_ := some_inj h
   subst h_
   exact kFr
  ·rcases br_inv h with ⟨b2_3, h⟩ | ⟨b2_3, h⟩
   ·refine kRs 3 [Tm 120 (bv true)] (rp 8 (.b false) (rp 87 (.b true) [])) (.r 4 b2_1 (.r 4 b2_2 (.r 6 b2_3 (.r 81 rT .n)))) ?_
    refine kCt rT ?_
    refine kRs 0 [Tm 2 (bv false)] [] .n ?_
    refine WK.weak (l := [Tm 2 (bv false)]) (wk_of (by kernel_rfl)) ?_
    refine kRt ?_
    have h_ := some_inj h
    subst h_
    exact kFr
   ·rcases br_inv h with ⟨b2_4, h⟩ | ⟨b2_4, h⟩
    ·refine kRs 3 [Tm 120 (bv true)] (rp 14 (.b false) (rp 81 (.b true) [])) (.r 4 b2_1 (.r 4 b2_2 (.r 6 b2_3 (.r 4 b2_4 (.r 77 rT .n))))) ?_
     refine kCt rT ?_
     refine kRs 0 [Tm 2 (bv false)] [] .n ?_
     refine WK.weak (l := [Tm 2 (bv false)]) (wk_of (by kernel_rfl)) ?_
     refine kRt ?_
     have h_ := some_inj h
     subst h_
     exact kFr
    ·rcases br_inv h with ⟨b2_5, h⟩ | ⟨b2_5, h⟩
     ·refine kRs 3 [Tm 120 (bv true)] (rp 18 (.b false) (rp 77 (.b true) [])) (.r 4 b2_1 (.r 4 b2_2 (.r 6 b2_3 (.r 4 b2_4 (.r 4 b2_5 (.r 73 rT .n)))))) ?_
      refine kCt rT ?_
      refine kRs 0 [Tm 2 (bv false)] [] .n ?_
      refine WK.weak (l := [Tm 2 (bv false)]) (wk_of (by kernel_rfl)) ?_
      refine kRt ?_
      have h_ := some_inj h
      subst h_
      exact kFr
     ·rcases br_inv h with ⟨b2_6, h⟩ | ⟨b2_6, h⟩
      ·refine kRs 3 [Tm 120 (bv true)] (rp 22 (.b false) (rp 73 (.b true) [])) (.r 4 b2_1 (.r 4 b2_2 (.r 6 b2_3 (.r 4 b2_4 (.r 4 b2_5 (.r 4 b2_6 (.r 69 rT .n))))))) ?_
       refine kCt rT ?_
       refine kRs 0 [Tm 2 (bv false)] [] .n ?_
       refine WK.weak (l := [Tm 2 (bv false)]) (wk_of (by kernel_rfl)) ?_
       refine kRt ?_
       have h_ := some_inj h
       subst h_
       exact kFr
      ·rcases br_inv h with ⟨b2_7, h⟩ | ⟨b2_7, h⟩
       ·refine kRs 3 [Tm 120 (bv true)] (rp 26 (.b false) (rp 69 (.b true) [])) (.r 4 b2_1 (.r 4 b2_2 (.r 6 b2_3 (.r 4 b2_4 (.r 4 b2_5 (.r 4 b2_6 (.r 4 b2_7 (.r 65 rT .n)))))))) ?_
        refine kCt rT ?_
        refine kRs 0 [Tm 2 (bv false)] [] .n ?_
        refine WK.weak (l := [Tm 2 (bv false)]) (wk_of (by kernel_rfl)) ?_
        refine kRt ?_
        have h_ := some_inj h
        subst h_
        exact kFr
       ·rcases br_inv h with ⟨b2_8, h⟩ | ⟨b2_8, h⟩
        ·refine kRs 3 [Tm 120 (bv true)] (rp 30 (.b false) (rp 65 (.b true) [])) (.r 4 b2_1 (.r 4 b2_2 (.r 6 b2_3 (.r 4 b2_4 (.r 4 b2_5 (.r 4 b2_6 (.r 4 b2_7 (.r 6 b2_8 (.r 59 rT .n))))))))) ?_
         refine kCt rT ?_
         refine kRs 0 [Tm 2 (bv false)] [] .n ?_
         refine WK.weak (l := [Tm 2 (bv false)]) (wk_of (by kernel_rfl)) ?_
         refine kRt ?_
         have h_ := some_inj h
         subst h_
         exact kFr
        ·rcases br_inv h with ⟨b2_9, h⟩ | ⟨b2_9, h⟩
         ·refine kRs 3 [Tm 120 (bv true)] (rp 36 (.b false) (rp 59 (.b true) [])) (.r 4 b2_1 (.r 4 b2_2 (.r 6 b2_3 (.r 4 b2_4 (.r 4 b2_5 (.r 4 b2_6 (.r 4 b2_7 (.r 6 b2_8 (.r 4 b2_9 (.r 55 rT .n)))))))))) ?_
          refine kCt rT ?_
          refine kRs 0 [Tm 2 (bv false)] [] .n ?_
          refine WK.weak (l := [Tm 2 (bv false)]) (wk_of (by kernel_rfl)) ?_
          refine kRt ?_
          have h_ := some_inj h
          subst h_
          exact kFr
         ·rcases br_inv h with ⟨b2_10, h⟩ | ⟨b2_10, h⟩
          ·refine kRs 3 [Tm 120 (bv true)] (rp 40 (.b false) (rp 55 (.b true) [])) (.r 4 b2_1 (.r 4 b2_2 (.r 6 b2_3 (.r 4 b2_4 (.r 4 b2_5 (.r 4 b2_6 (.r 4 b2_7 (.r 6 b2_8 (.r 4 b2_9 (.r 6 b2_10 (.r 49 rT .n))))))))))) ?_
           refine kCt rT ?_
           refine kRs 0 [Tm 2 (bv false)] [] .n ?_
           refine WK.weak (l := [Tm 2 (bv false)]) (wk_of (by kernel_rfl)) ?_
           refine kRt ?_
           have h_ := some_inj h
           subst h_
           exact kFr
          ·rcases br_inv h with ⟨b2_11, h⟩ | ⟨b2_11, h⟩
           ·refine kRs 3 [Tm 120 (bv true)] (rp 46 (.b false) (rp 49 (.b true) [])) (.r 4 b2_1 (.r 4 b2_2 (.r 6 b2_3 (.r 4 b2_4 (.r 4 b2_5 (.r 4 b2_6 (.r 4 b2_7 (.r 6 b2_8 (.r 4 b2_9 (.r 6 b2_10 (.r 5 b2_11 (.r 44 rT .n)))))))))))) ?_
            refine kCt rT ?_
            refine kRs 0 [Tm 2 (bv false)] [] .n ?_
            refine WK.weak (l := [Tm 2 (bv false)]) (wk_of (by kernel_rfl)) ?_
            refine kRt ?_
            have h_ := some_inj h
            subst h_
            exact kFr
           ·rcases br_inv h with ⟨b2_12, h⟩ | ⟨b2_12, h⟩
            ·refine kRs 3 [Tm 120 (bv true)] (rp 49 (.b false) (.s (.t 66) [iv (r_v.Log.length : Int)] :: (.b false :: (.b false :: (rp 44 (.b true) []))))) (.r 4 b2_1 (.r 4 b2_2 (.r 6 b2_3 (.r 4 b2_4 (.r 4 b2_5 (.r 4 b2_6 (.r 4 b2_7 (.r 6 b2_8 (.r 4 b2_9 (.r 6 b2_10 (.r 3 b2_11 (.c (c_len (e := TEntry.en) (l := r_v.Log)) (.r 2 b2_11 (.r 4 b2_12 (.r 40 rT .n))))))))))))))) ?_
             refine kCt rT ?_
             refine kRs 0 [Tm 2 (bv false)] [] .n ?_
             refine WK.weak (l := [Tm 2 (bv false)]) (wk_of (by kernel_rfl)) ?_
             refine kRt ?_
             have h_ := some_inj h
             subst h_
             exact kFr
            ·rcases br_inv h with ⟨b2_13, h⟩ | ⟨b2_13, h⟩
             ·refine kRs 3 [Tm 120 (bv true)] (rp 49 (.b false) (.s (.t 66) [iv (r_v.Log.length : Int)] :: (rp 6 (.b false) (rp 40 (.b true) [])))) (.r 4 b2_1 (.r 4 b2_2 (.r 6 b2_3 (.r 4 b2_4 (.r 4 b2_5 (.r 4 b2_6 (.r 4 b2_7 (.r 6 b2_8 (.r 4 b2_9 (.r 6 b2_10 (.r 3 b2_11 (.c (c_len (e := TEntry.en) (l := r_v.Log)) (.r 2 b2_11 (.r 4 b2_12 (.r 7 b2_13 (.r 33 rT .n)))))))))))))))) ?_
              refine kCt rT ?_
              refine kRs 0 [Tm 2 (bv false)] [] .n ?_
              refine WK.weak (l := [Tm 2 (bv false)]) (wk_of (by kernel_rfl)) ?_
              refine kRt ?_
              have h_ := some_inj h
              subst h_
              exact kFr
             ·rcases br_inv h with ⟨b2_14, h⟩ | ⟨b2_14, h⟩
              ·refine kRs 3 [Tm 120 (bv true)] (rp 49 (.b false) (.s (.t 66) [iv (r_v.Log.length : Int)] :: (rp 11 (.b false) (.s (.t 79) [iv (r_v.Log.length : Int)] :: (.b false :: (.b false :: (rp 33 (.b true) []))))))) (.r 4 b2_1 (.r 4 b2_2 (.r 6 b2_3 (.r 4 b2_4 (.r 4 b2_5 (.r 4 b2_6 (.r 4 b2_7 (.r 6 b2_8 (.r 4 b2_9 (.r 6 b2_10 (.r 3 b2_11 (.c (c_len (e := TEntry.en) (l := r_v.Log)) (.r 2 b2_11 (.r 4 b2_12 (.r 5 b2_13 (.c (c_len (e := TEntry.en) (l := r_v.Log)) (.r 2 b2_13 (.r 4 b2_14 (.r 29 rT .n))))))))))))))))))) ?_
               refine kCt rT ?_
               refine kRs 0 [Tm 2 (bv false)] [] .n ?_
               refine WK.weak (l := [Tm 2 (bv false)]) (wk_of (by kernel_rfl)) ?_
               refine kRt ?_
               have h_ := some_inj h
               subst h_
               exact kFr
              ·rcases br_inv h with ⟨b2_15, h⟩ | ⟨b2_15, h⟩
               ·refine kRs 3 [Tm 120 (bv true)] (rp 49 (.b false) (.s (.t 66) [iv (r_v.Log.length : Int)] :: (rp 11 (.b false) (.s (.t 79) [iv (r_v.Log.length : Int)] :: (rp 6 (.b false) (rp 29 (.b true) [])))))) (.r 4 b2_1 (.r 4 b2_2 (.r 6 b2_3 (.r 4 b2_4 (.r 4 b2_5 (.r 4 b2_6 (.r 4 b2_7 (.r 6 b2_8 (.r 4 b2_9 (.r 6 b2_10 (.r 3 b2_11 (.c (c_len (e := TEntry.en) (l := r_v.Log)) (.r 2 b2_11 (.r 4 b2_12 (.r 5 b2_13 (.c (c_len (e := TEntry.en) (l := r_v.Log)) (.r 2 b2_13 (.r 4 b2_14 (.r 4 b2_15 (.r 25 rT .n)))))))))))))))))))) ?_
                refine kCt rT ?_
                refine kRs 0 [Tm 2 (bv false)] [] .n ?_
                refine WK.weak (l := [Tm 2 (bv false)]) (wk_of (by kernel_rfl)) ?_
                refine kRt ?_
                have h_ := some_inj h
                subst h_
                exact kFr
               ·rcases br_inv h with ⟨b2_16, h⟩ | ⟨b2_16, h⟩
                ·refine kRs 3 [Tm 120 (bv true)] (rp 49 (.b false) (.s (.t 66) [iv (r_v.Log.length : Int)] :: (rp 11 (.b false) (.s (.t 79) [iv (r_v.Log.length : Int)] :: (rp 10 (.b false) (rp 25 (.b true) [])))))) (.r 4 b2_1 (.r 4 b2_2 (.r 6 b2_3 (.r 4 b2_4 (.r 4 b2_5 (.r 4 b2_6 (.r 4 b2_7 (.r 6 b2_8 (.r 4 b2_9 (.r 6 b2_10 (.r 3 b2_11 (.c (c_len (e := TEntry.en) (l := r_v.Log)) (.r 2 b2_11 (.r 4 b2_12 (.r 5 b2_13 (.c (c_len (e := TEntry.en) (l := r_v.Log)) (.r 2 b2_13 (.r 4 b2_14 (.r 4 b2_15 (.r 7 b2_16 (.r 18 rT .n))))))))))))))))))))) ?_
                 refine kCt rT ?_
                 refine kRs 0 [Tm 2 (bv false)] [] .n ?_
                 refine WK.weak (l := [Tm 2 (bv false)]) (wk_of (by kernel_rfl)) ?_
                 refine kRt ?_
                 have h_ := some_inj h
                 subst h_
                 exact kFr
                ·rcases br_inv h with ⟨b2_17, h⟩ | ⟨b2_17, h⟩
                 ·refine kRs 3 [Tm 120 (bv true)] (rp 49 (.b false) (.s (.t 66) [iv (r_v.Log.length : Int)] :: (rp 11 (.b false) (.s (.t 79) [iv (r_v.Log.length : Int)] :: (rp 13 (.b false) (.s (.t 95) [iv (r_v.Votes.length : Int)] :: (rp 4 (.b false) (rp 18 (.b true) [])))))))) (.r 4 b2_1 (.r 4 b2_2 (.r 6 b2_3 (.r 4 b2_4 (.r 4 b2_5 (.r 4 b2_6 (.r 4 b2_7 (.r 6 b2_8 (.r 4 b2_9 (.r 6 b2_10 (.r 3 b2_11 (.c (c_len (e := TEntry.en) (l := r_v.Log)) (.r 2 b2_11 (.r 4 b2_12 (.r 5 b2_13 (.c (c_len (e := TEntry.en) (l := r_v.Log)) (.r 2 b2_13 (.r 4 b2_14 (.r 4 b2_15 (.r 3 b2_16 (.c (c_len (e := e_b) (l := r_v.Votes)) (.r 4 b2_16 (.r 7 b2_17 (.r 11 rT .n)))))))))))))))))))))))) ?_
                  refine kCt rT ?_
                  refine kRs 0 [Tm 2 (bv false)] [] .n ?_
                  refine WK.weak (l := [Tm 2 (bv false)]) (wk_of (by kernel_rfl)) ?_
                  refine kRt ?_
                  have h_ := some_inj h
                  subst h_
                  exact kFr
                 ·rcases br_inv h with ⟨b2_18, h⟩ | ⟨b2_18, h⟩
                  ·refine kRs 3 [Tm 120 (bv true)] (rp 49 (.b false) (.s (.t 66) [iv (r_v.Log.length : Int)] :: (rp 11 (.b false) (.s (.t 79) [iv (r_v.Log.length : Int)] :: (rp 13 (.b false) (.s (.t 95) [iv (r_v.Votes.length : Int)] :: (rp 7 (.b false) (.s (.t 103) [iv (r_v.Next.length : Int)] :: (rp 4 (.b false) (rp 11 (.b true) [])))))))))) (.r 4 b2_1 (.r 4 b2_2 (.r 6 b2_3 (.r 4 b2_4 (.r 4 b2_5 (.r 4 b2_6 (.r 4 b2_7 (.r 6 b2_8 (.r 4 b2_9 (.r 6 b2_10 (.r 3 b2_11 (.c (c_len (e := TEntry.en) (l := r_v.Log)) (.r 2 b2_11 (.r 4 b2_12 (.r 5 b2_13 (.c (c_len (e := TEntry.en) (l := r_v.Log)) (.r 2 b2_13 (.r 4 b2_14 (.r 4 b2_15 (.r 3 b2_16 (.c (c_len (e := e_b) (l := r_v.Votes)) (.r 4 b2_16 (.r 3 b2_17 (.c (c_len (e := e_i64) (l := r_v.Next)) (.r 4 b2_17 (.r 7 b2_18 (.r 4 rT .n))))))))))))))))))))))))))) ?_
                   refine kCt rT ?_
                   refine kRs 0 [Tm 2 (bv false)] [] .n ?_
                   refine WK.weak (l := [Tm 2 (bv false)]) (wk_of (by kernel_rfl)) ?_
                   refine kRt ?_
                   have h_ := some_inj h
                   subst h_
                   exact kFr
                  ·rcases br_inv h with ⟨b2_19, h⟩ | ⟨b2_19, h⟩
                   ·refine kRs 3 [Tm 120 (bv true)] (rp 49 (.b false) (.s (.t 66) [iv (r_v.Log.length : Int)] :: (rp 11 (.b false) (.s (.t 79) [iv (r_v.Log.length : Int)] :: (rp 13 (.b false) (.s (.t 95) [iv (r_v.Votes.length : Int)] :: (rp 7 (.b false) (.s (.t 103) [iv (r_v.Next.length : Int)] :: (rp 7 (.b false) (.s (.t 111) [iv (r_v.Match.length : Int)] :: (rp 4 (.b false) (rp 4 (.b true) [])))))))))))) (.r 4 b2_1 (.r 4 b2_2 (.r 6 b2_3 (.r 4 b2_4 (.r 4 b2_5 (.r 4 b2_6 (.r 4 b2_7 (.r 6 b2_8 (.r 4 b2_9 (.r 6 b2_10 (.r 3 b2_11 (.c (c_len (e := TEntry.en) (l := r_v.Log)) (.r 2 b2_11 (.r 4 b2_12 (.r 5 b2_13 (.c (c_len (e := TEntry.en) (l := r_v.Log)) (.r 2 b2_13 (.r 4 b2_14 (.r 4 b2_15 (.r 3 b2_16 (.c (c_len (e := e_b) (l := r_v.Votes)) (.r 4 b2_16 (.r 3 b2_17 (.c (c_len (e := e_i64) (l := r_v.Next)) (.r 4 b2_17 (.r 3 b2_18 (.c (c_len (e := e_i64) (l := r_v.Match)) (.r 4 b2_18 (.r 4 b2_19 .n))))))))))))))))))))))))))))) ?_
                    refine kCt rT ?_
                    refine kRs 0 [Tm 2 (bv false)] [] .n ?_
                    refine WK.weak (l := [Tm 2 (bv false)]) (wk_of (by kernel_rfl)) ?_
                    refine kRt ?_
                    have h_ := some_inj h
                    subst h_
                    exact kFr
                   ·refine kRs 3 [Tm 120 (bv (decide (r_v.Clock < 0)))] (rp 49 (.b false) (.s (.t 66) [iv (r_v.Log.length : Int)] :: (rp 11 (.b false) (.s (.t 79) [iv (r_v.Log.length : Int)] :: (rp 13 (.b false) (.s (.t 95) [iv (r_v.Votes.length : Int)] :: (rp 7 (.b false) (.s (.t 103) [iv (r_v.Next.length : Int)] :: (rp 7 (.b false) (.s (.t 111) [iv (r_v.Match.length : Int)] :: (rp 8 (.b false) []))))))))))) (.r 4 b2_1 (.r 4 b2_2 (.r 6 b2_3 (.r 4 b2_4 (.r 4 b2_5 (.r 4 b2_6 (.r 4 b2_7 (.r 6 b2_8 (.r 4 b2_9 (.r 6 b2_10 (.r 3 b2_11 (.c (c_len (e := TEntry.en) (l := r_v.Log)) (.r 2 b2_11 (.r 4 b2_12 (.r 5 b2_13 (.c (c_len (e := TEntry.en) (l := r_v.Log)) (.r 2 b2_13 (.r 4 b2_14 (.r 4 b2_15 (.r 3 b2_16 (.c (c_len (e := e_b) (l := r_v.Votes)) (.r 4 b2_16 (.r 3 b2_17 (.c (c_len (e := e_i64) (l := r_v.Next)) (.r 4 b2_17 (.r 3 b2_18 (.c (c_len (e := e_i64) (l := r_v.Match)) (.r 4 b2_18 (.r 4 b2_19 .n))))))))))))))))))))))))))))) ?_
                    rcases br_inv h with ⟨b22_0, h⟩ | ⟨b22_0, h⟩
                    ·refine kCt b22_0 ?_
                     refine kRs 0 [Tm 2 (bv false)] [] .n ?_
                     refine WK.weak (l := [Tm 2 (bv false)]) (wk_of (by kernel_rfl)) ?_
                     refine kRt ?_
                     have h_ := some_inj h
                     subst h_
                     exact kFr
                    ·refine kCe b22_0 ?_
                     refine kSk ?_
                     refine kCd (cR (cR bd17)) [] ?_
                     refine kSq ?_
                     refine kRs 6 [Tm 3 (iv 0)] [] .n ?_
                     refine kBk 0 ?_
                     obtain ⟨o35, ho35, h⟩ := bd_inv h
                     refine kUs (diwanref11_May.lp25_ok fu r_v _ 0 _ ho35) ?_
                     intro e_ τ_ hp_
                     rcases o35 with o35 | o35
                     ·obtain ⟨⟩ := o35
                      obtain ⟨rfl, rfl⟩ := hp_
                      refine kCd (cR (cR (cR bd17))) [] ?_
                      refine kRs 0 [Tm 2 (bv true)] [] .n ?_
                      refine WK.weak (l := [Tm 2 (bv true)]) (wk_of (by kernel_rfl)) ?_
                      refine kRt ?_
                      have h_ := some_inj h
                      subst h_
                      exact kFr
                     ·obtain ⟨⟩ := o35
                      obtain ⟨rfl, rfl⟩ := hp_
                      have h_ := some_inj h
                      subst h_
                      exact kFr
/-- diwan/diwanlaw11.RaftWild -/
noncomputable def bd5 : Code := (Try.f5.body).getD .skip
def diwanlaw11_RaftWild.O : Nat → Nat := fun t => bif ([4, 5, 6, 7, 8, 9, 22, 82] : List Nat).any (Nat.beq t) then 1 else 0
noncomputable def diwanlaw11_RaftWild.lp11 (fu : Nat) (l11_0 : List TMsg) : Nat → Int → TRaft → Option (Unit ⊕ Unit)
  | 0, _, _ => none
  | n_ + 1, l11_1, l11_2 =>
  br (decide (l11_1 < (l11_0.length : Int)))
   (ix l11_0 l11_1 fun x14_1 =>
   jn (
    bd (raft_Take fu l11_2 x14_1) fun (r26_1, r26_2) =>
    bd (raft_May fu r26_1) fun r27_1 =>
    br (!r27_1)
     (some (.inr ()))
     (bd (diwanref11_May fu r26_1) fun r27_4 =>
     br (!r27_4)
      (some (.inr ()))
      (br (decide (r26_1.Term < l11_2.Term))
       (some (.inr ()))
       (br (decide (r26_1.Commit < l11_2.Commit))
        (some (.inr ()))
        (br (r26_1.Me != l11_2.Me)
         (some (.inr ()))
         (br (r26_1.Nodes != l11_2.Nodes)
          (some (.inr ()))
          (br (decide ((r26_2.length : Int) > l11_2.Nodes))
           (some (.inr ()))
           (br (r26_1.Term == l11_2.Term)
            (br (l11_2.Vote != 0)
             (br (r26_1.Vote != l11_2.Vote)
              (some (.inr ()))
              (diwanlaw11_RaftWild.lp11 fu l11_0 n_ (w64 (l11_1 + 1)) r26_1))
             (diwanlaw11_RaftWild.lp11 fu l11_0 n_ (w64 (l11_1 + 1)) r26_1))
            (diwanlaw11_RaftWild.lp11 fu l11_0 n_ (w64 (l11_1 + 1)) r26_1))))))))) fun k25 =>
   br (decide ((x14_1.Entries.length : Int) > 6))
    (diwanlaw11_RaftWild.lp11 fu l11_0 n_ (w64 (l11_1 + 1)) l11_2)
    (br (decide (x14_1.Term < 0))
     (diwanlaw11_RaftWild.lp11 fu l11_0 n_ (w64 (l11_1 + 1)) l11_2)
     (br (decide (x14_1.Term > 1099511627776))
      (diwanlaw11_RaftWild.lp11 fu l11_0 n_ (w64 (l11_1 + 1)) l11_2)
      (br (decide (x14_1.Index < 0))
       (diwanlaw11_RaftWild.lp11 fu l11_0 n_ (w64 (l11_1 + 1)) l11_2)
       (br (decide (x14_1.Index > 1099511627776))
        (diwanlaw11_RaftWild.lp11 fu l11_0 n_ (w64 (l11_1 + 1)) l11_2)
        (br (decide (x14_1.Commit < 0))
         (diwanlaw11_RaftWild.lp11 fu l11_0 n_ (w64 (l11_1 + 1)) l11_2)
         (br (decide (x14_1.Commit > 1099511627776))
          (diwanlaw11_RaftWild.lp11 fu l11_0 n_ (w64 (l11_1 + 1)) l11_2)
          (br (x14_1.Kind == 3)
           (bd (diwanlaw11_fair fu l11_2 x14_1) fun r15_9 =>
           br (!r15_9)
            (diwanlaw11_RaftWild.lp11 fu l11_0 n_ (w64 (l11_1 + 1)) l11_2)
            (k25))
           (k25)))))))))
   (some (.inl ()))
noncomputable def diwanlaw11_RaftWild.lp11_post (l11_0 : List TMsg) (r_ : (Unit ⊕ Unit)) : Wy → St → Prop := fun e τ => match r_ with
  | .inl _ => e = .exit 0 ∧ τ = ofL []
  | .inr _ => e = .ret ∧ τ = ofL [Tm 4 (bv false)]
theorem diwanlaw11_RaftWild.lp11_ok (fu : Nat) (l11_0 : List TMsg) : ∀ (n_ : Nat) (l11_1 : Int) (l11_2 : TRaft) (r_ : (Unit ⊕ Unit)), diwanlaw11_RaftWild.lp11 fu l11_0 n_ l11_1 l11_2 = some r_ → WK Try.prog diwanlaw11_RaftWild.O (Ck Try.prog) (cB (cR (cL (cR (cR (cR (cR bd5))))))) [] (ofL [Tm 1 (.data (.slc false none 24 (List.map TMsg.en l11_0))), Tm 5 (.ptr 5 0), Tm 6 (iv l11_1), Ob 5 (TRaft.ob l11_2)]) (diwanlaw11_RaftWild.lp11_post l11_0 r_) := by
 intro n_
 induction n_ with
 | zero => intro l11_1 l11_2 r_ h; exact no_none h
 | succ n_ ih =>
  intro l11_1 l11_2 r_ h
  refine kLp ?_
  refine kSq ?_
  refine kRs 15 [Tm 26 (bv (decide (l11_1 < (l11_0.length : Int))))] [.s (.t 25) [iv (l11_0.length : Int)]] (.c (c_len (e := TMsg.en) (l := l11_0)) .n) ?_
  rcases br_inv h with ⟨b13_0, h⟩ | ⟨b13_0, h⟩
  ·refine kCt b13_0 ?_
   refine kSk ?_
   refine kCd (cR (cB (cB (cR (cL (cR (cR (cR (cR bd5))))))))) [.lp (cB (cR (cL (cR (cR (cR (cR bd5)))))))] ?_
   refine kSq ?_
   refine kBk 1 ?_
   obtain ⟨x14_1, a14_2, e14_3, h⟩ := ix_inv h
   refine kRs 30 [Tm 7 (.ptr 7 0), Ob 7 (TMsg.ob x14_1)] [.c (TMsg.en x14_1)] (.c (c_ix (e := TMsg.en) a14_2 e14_3) (.c (c_el (e := TMsg.en) e14_3) .n)) ?_
   obtain ⟨k25, hk25, h⟩ := jn_inv h
   have Jk25 : k25 = some r_ → WK Try.prog diwanlaw11_RaftWild.O (Ck Try.prog) (cR (cR (cB (cL (cR (cB (cB (cR (cL (cR (cR (cR (cR bd5))))))))))))) [.blk 1, .seq (cR (cR (cB (cB (cR (cL (cR (cR (cR (cR bd5)))))))))), .lp (cB (cR (cL (cR (cR (cR (cR bd5)))))))] (ofL [Tm 1 (.data (.slc false none 24 (List.map TMsg.en l11_0))), Tm 5 (.ptr 5 0), Tm 6 (iv l11_1), Tm 7 (.ptr 7 0), Ob 5 (TRaft.ob l11_2), Ob 7 (TMsg.ob x14_1)]) (diwanlaw11_RaftWild.lp11_post l11_0 r_) := by
    intro h
    rw [hk25] at h
    obtain ⟨⟨r26_1, r26_2⟩, h26_3, h⟩ := bd_inv h
    refine kRs 23 [Tm 8 (.ptr 8 0), Tm 9 (.data (.slc false none 24 (List.map TMsg.en r26_2))), Ob 8 (TRaft.ob r26_1)] [.a ⟨.tup [.data (TRaft.ag r26_1), .data (.slc false none 24 (List.map TMsg.en r26_2))], []⟩] (.c (Asks.of (C := Meets Try.prog) (raft_Take.meets fu l11_2 x14_1 _ _ h26_3)) .n) ?_
    refine kSq ?_
    obtain ⟨r27_1, h27_2, h⟩ := bd_inv h
    rcases br_inv h with ⟨b27_3, h⟩ | ⟨b27_3, h⟩
    ·refine kRs 125 [Tm 145 (bv true)] (.a ⟨bv r27_1, []⟩ :: (rp 44 (.b true) [])) (.c (Asks.of (C := Meets Try.prog) (raft_May.meets fu r26_1 _ h27_2)) (.r 4 b27_3 (.r 40 rT .n))) ?_
     refine kCt rT ?_
     refine kRs 0 [Tm 4 (bv false)] [] .n ?_
     cases some_inj h
     refine kWo ?_
     refine kRt ?_
     exact kOut
    ·obtain ⟨r27_4, h27_5, h⟩ := bd_inv h
     rcases br_inv h with ⟨b27_6, h⟩ | ⟨b27_6, h⟩
     ·refine kRs 125 [Tm 145 (bv true)] (.a ⟨bv r27_1, []⟩ :: (.b false :: (.b false :: (.a ⟨bv r27_4, []⟩ :: (.b false :: (.b false :: (rp 40 (.b true) []))))))) (.c (Asks.of (C := Meets Try.prog) (raft_May.meets fu r26_1 _ h27_2)) (.r 2 b27_3 (.c (Asks.of (C := Meets Try.prog) (diwanref11_May.meets fu r26_1 _ h27_5)) (.r 2 b27_3 (.r 6 b27_6 (.r 34 rT .n)))))) ?_
      refine kCt rT ?_
      refine kRs 0 [Tm 4 (bv false)] [] .n ?_
      cases some_inj h
      refine kWo ?_
      refine kRt ?_
      exact kOut
     ·rcases br_inv h with ⟨b27_7, h⟩ | ⟨b27_7, h⟩
      ·refine kRs 125 [Tm 145 (bv true)] (.a ⟨bv r27_1, []⟩ :: (.b false :: (.b false :: (.a ⟨bv r27_4, []⟩ :: (rp 8 (.b false) (rp 34 (.b true) [])))))) (.c (Asks.of (C := Meets Try.prog) (raft_May.meets fu r26_1 _ h27_2)) (.r 2 b27_3 (.c (Asks.of (C := Meets Try.prog) (diwanref11_May.meets fu r26_1 _ h27_5)) (.r 2 b27_3 (.r 6 b27_6 (.r 6 b27_7 (.r 28 rT .n))))))) ?_
       refine kCt rT ?_
       refine kRs 0 [Tm 4 (bv false)] [] .n ?_
       cases some_inj h
       refine kWo ?_
       refine kRt ?_
       exact kOut
      ·rcases br_inv h with ⟨b27_8, h⟩ | ⟨b27_8, h⟩
       ·refine kRs 125 [Tm 145 (bv true)] (.a ⟨bv r27_1, []⟩ :: (.b false :: (.b false :: (.a ⟨bv r27_4, []⟩ :: (rp 14 (.b false) (rp 28 (.b true) [])))))) (.c (Asks.of (C := Meets Try.prog) (raft_May.meets fu r26_1 _ h27_2)) (.r 2 b27_3 (.c (Asks.of (C := Meets Try.prog) (diwanref11_May.meets fu r26_1 _ h27_5)) (.r 2 b27_3 (.r 6 b27_6 (.r 6 b27_7 (.r 6 b27_8 (.r 22 rT .n)))))))) ?_
        refine kCt rT ?_
        refine kRs 0 [Tm 4 (bv false)] [] .n ?_
        cases some_inj h
        refine kWo ?_
        refine kRt ?_
        exact kOut
       ·rcases br_inv h with ⟨b27_9, h⟩ | ⟨b27_9, h⟩
        ·refine kRs 125 [Tm 145 (bv true)] (.a ⟨bv r27_1, []⟩ :: (.b false :: (.b false :: (.a ⟨bv r27_4, []⟩ :: (rp 20 (.b false) (rp 22 (.b true) [])))))) (.c (Asks.of (C := Meets Try.prog) (raft_May.meets fu r26_1 _ h27_2)) (.r 2 b27_3 (.c (Asks.of (C := Meets Try.prog) (diwanref11_May.meets fu r26_1 _ h27_5)) (.r 2 b27_3 (.r 6 b27_6 (.r 6 b27_7 (.r 6 b27_8 (.r 6 b27_9 (.r 16 rT .n))))))))) ?_
         refine kCt rT ?_
         refine kRs 0 [Tm 4 (bv false)] [] .n ?_
         cases some_inj h
         refine kWo ?_
         refine kRt ?_
         exact kOut
        ·rcases br_inv h with ⟨b27_10, h⟩ | ⟨b27_10, h⟩
         ·refine kRs 125 [Tm 145 (bv true)] (.a ⟨bv r27_1, []⟩ :: (.b false :: (.b false :: (.a ⟨bv r27_4, []⟩ :: (rp 26 (.b false) (rp 16 (.b true) [])))))) (.c (Asks.of (C := Meets Try.prog) (raft_May.meets fu r26_1 _ h27_2)) (.r 2 b27_3 (.c (Asks.of (C := Meets Try.prog) (diwanref11_May.meets fu r26_1 _ h27_5)) (.r 2 b27_3 (.r 6 b27_6 (.r 6 b27_7 (.r 6 b27_8 (.r 6 b27_9 (.r 6 b27_10 (.r 10 rT .n)))))))))) ?_
          refine kCt rT ?_
          refine kRs 0 [Tm 4 (bv false)] [] .n ?_
          cases some_inj h
          refine kWo ?_
          refine kRt ?_
          exact kOut
         ·rcases br_inv h with ⟨b27_11, h⟩ | ⟨b27_11, h⟩
          ·refine kRs 125 [Tm 145 (bv true)] (.a ⟨bv r27_1, []⟩ :: (.b false :: (.b false :: (.a ⟨bv r27_4, []⟩ :: (rp 28 (.b false) (.s (.t 122) [iv (r26_2.length : Int)] :: (rp 4 (.b false) (rp 10 (.b true) [])))))))) (.c (Asks.of (C := Meets Try.prog) (raft_May.meets fu r26_1 _ h27_2)) (.r 2 b27_3 (.c (Asks.of (C := Meets Try.prog) (diwanref11_May.meets fu r26_1 _ h27_5)) (.r 2 b27_3 (.r 6 b27_6 (.r 6 b27_7 (.r 6 b27_8 (.r 6 b27_9 (.r 2 b27_10 (.c (c_len (e := TMsg.en) (l := r26_2)) (.r 4 b27_10 (.r 10 b27_11 .n)))))))))))) ?_
           refine kCt rT ?_
           refine kRs 0 [Tm 4 (bv false)] [] .n ?_
           cases some_inj h
           refine kWo ?_
           refine kRt ?_
           exact kOut
          ·rcases br_inv h with ⟨b27_12, h⟩ | ⟨b27_12, h⟩
           ·rcases br_inv h with ⟨b27_13, h⟩ | ⟨b27_13, h⟩
            ·refine kRs 125 [Tm 145 (bv (r26_1.Vote != l11_2.Vote))] (.a ⟨bv r27_1, []⟩ :: (.b false :: (.b false :: (.a ⟨bv r27_4, []⟩ :: (rp 28 (.b false) (.s (.t 122) [iv (r26_2.length : Int)] :: (rp 10 (.b false) (.b true :: (.b true :: (.b true :: (.b false :: (.b true :: (.b false :: (rp 5 (.b true) [.b false, .b true, .b false])))))))))))))) (.c (Asks.of (C := Meets Try.prog) (raft_May.meets fu r26_1 _ h27_2)) (.r 2 b27_3 (.c (Asks.of (C := Meets Try.prog) (diwanref11_May.meets fu r26_1 _ h27_5)) (.r 2 b27_3 (.r 6 b27_6 (.r 6 b27_7 (.r 6 b27_8 (.r 6 b27_9 (.r 2 b27_10 (.c (c_len (e := TMsg.en) (l := r26_2)) (.r 4 b27_10 (.r 6 b27_11 (.r 3 b27_12 (.c b27_11 (.c b27_12 (.c b27_11 (.r 5 b27_13 (.c b27_11 (.c b27_13 (.c b27_11 .n)))))))))))))))))))) ?_
             rcases br_inv h with ⟨b35_0, h⟩ | ⟨b35_0, h⟩
             ·refine kCt b35_0 ?_
              refine kRs 0 [Tm 4 (bv false)] [] .n ?_
              cases some_inj h
              refine kWo ?_
              refine kRt ?_
              exact kOut
             ·refine kCe b35_0 ?_
              refine kSk ?_
              refine kCd (cR (cR (cR (cR (cB (cL (cR (cB (cB (cR (cL (cR (cR (cR (cR bd5))))))))))))))) [.blk 1, .seq (cR (cR (cB (cB (cR (cL (cR (cR (cR (cR bd5)))))))))), .lp (cB (cR (cL (cR (cR (cR (cR bd5)))))))] ?_
              refine kRc 56 [Ob 5 (TRaft.ob r26_1)] [] .n (cR (cR (cB (cB (cR (cL (cR (cR (cR (cR bd5)))))))))) [.lp (cB (cR (cL (cR (cR (cR (cR bd5)))))))] ?_
              refine kRc 7 [Tm 6 (iv (w64 (l11_1 + 1)))] [] .n (cB (cR (cL (cR (cR (cR (cR bd5))))))) [] ?_
              exact kWk (ih (w64 (l11_1 + 1)) r26_1 _ h)
            ·refine kRs 125 [Tm 145 (bv false)] (.a ⟨bv r27_1, []⟩ :: (.b false :: (.b false :: (.a ⟨bv r27_4, []⟩ :: (rp 28 (.b false) (.s (.t 122) [iv (r26_2.length : Int)] :: (rp 10 (.b false) (.b true :: (.b true :: (.b true :: (.b false :: (.b true :: (rp 9 (.b false) []))))))))))))) (.c (Asks.of (C := Meets Try.prog) (raft_May.meets fu r26_1 _ h27_2)) (.r 2 b27_3 (.c (Asks.of (C := Meets Try.prog) (diwanref11_May.meets fu r26_1 _ h27_5)) (.r 2 b27_3 (.r 6 b27_6 (.r 6 b27_7 (.r 6 b27_8 (.r 6 b27_9 (.r 2 b27_10 (.c (c_len (e := TMsg.en) (l := r26_2)) (.r 4 b27_10 (.r 6 b27_11 (.r 3 b27_12 (.c b27_11 (.c b27_12 (.c b27_11 (.r 5 b27_13 (.c b27_11 (.c b27_13 (.c b27_11 .n)))))))))))))))))))) ?_
             refine kCe rF ?_
             refine kSk ?_
             refine kCd (cR (cR (cR (cR (cB (cL (cR (cB (cB (cR (cL (cR (cR (cR (cR bd5))))))))))))))) [.blk 1, .seq (cR (cR (cB (cB (cR (cL (cR (cR (cR (cR bd5)))))))))), .lp (cB (cR (cL (cR (cR (cR (cR bd5)))))))] ?_
             refine kRc 56 [Ob 5 (TRaft.ob r26_1)] [] .n (cR (cR (cB (cB (cR (cL (cR (cR (cR (cR bd5)))))))))) [.lp (cB (cR (cL (cR (cR (cR (cR bd5)))))))] ?_
             refine kRc 7 [Tm 6 (iv (w64 (l11_1 + 1)))] [] .n (cB (cR (cL (cR (cR (cR (cR bd5))))))) [] ?_
             exact kWk (ih (w64 (l11_1 + 1)) r26_1 _ h)
           ·refine kRs 125 [Tm 145 (bv false)] (.a ⟨bv r27_1, []⟩ :: (.b false :: (.b false :: (.a ⟨bv r27_4, []⟩ :: (rp 28 (.b false) (.s (.t 122) [iv (r26_2.length : Int)] :: (rp 24 (.b false) []))))))) (.c (Asks.of (C := Meets Try.prog) (raft_May.meets fu r26_1 _ h27_2)) (.r 2 b27_3 (.c (Asks.of (C := Meets Try.prog) (diwanref11_May.meets fu r26_1 _ h27_5)) (.r 2 b27_3 (.r 6 b27_6 (.r 6 b27_7 (.r 6 b27_8 (.r 6 b27_9 (.r 2 b27_10 (.c (c_len (e := TMsg.en) (l := r26_2)) (.r 4 b27_10 (.r 6 b27_11 (.r 3 b27_12 (.c b27_11 (.c b27_12 (.c b27_11 (.r 5 rF (.c b27_11 (.c rF (.c b27_11 .n)))))))))))))))))))) ?_
            refine kCe rF ?_
            refine kSk ?_
            refine kCd (cR (cR (cR (cR (cB (cL (cR (cB (cB (cR (cL (cR (cR (cR (cR bd5))))))))))))))) [.blk 1, .seq (cR (cR (cB (cB (cR (cL (cR (cR (cR (cR bd5)))))))))), .lp (cB (cR (cL (cR (cR (cR (cR bd5)))))))] ?_
            refine kRc 56 [Ob 5 (TRaft.ob r26_1)] [] .n (cR (cR (cB (cB (cR (cL (cR (cR (cR (cR bd5)))))))))) [.lp (cB (cR (cL (cR (cR (cR (cR bd5)))))))] ?_
            refine kRc 7 [Tm 6 (iv (w64 (l11_1 + 1)))] [] .n (cB (cR (cL (cR (cR (cR (cR bd5))))))) [] ?_
            exact kWk (ih (w64 (l11_1 + 1)) r26_1 _ h)
   clear hk25
   refine kSq ?_
   rcases br_inv h with ⟨b15_1, h⟩ | ⟨b15_1, h⟩
   ·refine kRs 63 [Tm 77 (bv true)] (.s (.t 35) [iv (x14_1.Entries.length : Int)] :: (rp 30 (.b true) [])) (.c (c_len (e := TEntry.en) (l := x14_1.Entries)) (.r 4 b15_1 (.r 26 rT .n))) ?_
    refine kCt rT ?_
    refine kXt 1 ?_
    refine kCd (cR (cR (cB (cB (cR (cL (cR (cR (cR (cR bd5)))))))))) [.lp (cB (cR (cL (cR (cR (cR (cR bd5)))))))] ?_
    refine kRc 88 [Tm 6 (iv (w64 (l11_1 + 1)))] [] .n (cB (cR (cL (cR (cR (cR (cR bd5))))))) [] ?_
    exact kWk (ih (w64 (l11_1 + 1)) l11_2 _ h)
   ·rcases br_inv h with ⟨b15_2, h⟩ | ⟨b15_2, h⟩
    ·refine kRs 63 [Tm 77 (bv true)] (.s (.t 35) [iv (x14_1.Entries.length : Int)] :: (rp 4 (.b false) (rp 26 (.b true) []))) (.c (c_len (e := TEntry.en) (l := x14_1.Entries)) (.r 4 b15_1 (.r 4 b15_2 (.r 22 rT .n)))) ?_
     refine kCt rT ?_
     refine kXt 1 ?_
     refine kCd (cR (cR (cB (cB (cR (cL (cR (cR (cR (cR bd5)))))))))) [.lp (cB (cR (cL (cR (cR (cR (cR bd5)))))))] ?_
     refine kRc 88 [Tm 6 (iv (w64 (l11_1 + 1)))] [] .n (cB (cR (cL (cR (cR (cR (cR bd5))))))) [] ?_
     exact kWk (ih (w64 (l11_1 + 1)) l11_2 _ h)
    ·rcases br_inv h with ⟨b15_3, h⟩ | ⟨b15_3, h⟩
     ·refine kRs 63 [Tm 77 (bv true)] (.s (.t 35) [iv (x14_1.Entries.length : Int)] :: (rp 8 (.b false) (rp 22 (.b true) []))) (.c (c_len (e := TEntry.en) (l := x14_1.Entries)) (.r 4 b15_1 (.r 4 b15_2 (.r 4 b15_3 (.r 18 rT .n))))) ?_
      refine kCt rT ?_
      refine kXt 1 ?_
      refine kCd (cR (cR (cB (cB (cR (cL (cR (cR (cR (cR bd5)))))))))) [.lp (cB (cR (cL (cR (cR (cR (cR bd5)))))))] ?_
      refine kRc 88 [Tm 6 (iv (w64 (l11_1 + 1)))] [] .n (cB (cR (cL (cR (cR (cR (cR bd5))))))) [] ?_
      exact kWk (ih (w64 (l11_1 + 1)) l11_2 _ h)
     ·rcases br_inv h with ⟨b15_4, h⟩ | ⟨b15_4, h⟩
      ·refine kRs 63 [Tm 77 (bv true)] (.s (.t 35) [iv (x14_1.Entries.length : Int)] :: (rp 12 (.b false) (rp 18 (.b true) []))) (.c (c_len (e := TEntry.en) (l := x14_1.Entries)) (.r 4 b15_1 (.r 4 b15_2 (.r 4 b15_3 (.r 4 b15_4 (.r 14 rT .n)))))) ?_
       refine kCt rT ?_
       refine kXt 1 ?_
       refine kCd (cR (cR (cB (cB (cR (cL (cR (cR (cR (cR bd5)))))))))) [.lp (cB (cR (cL (cR (cR (cR (cR bd5)))))))] ?_
       refine kRc 88 [Tm 6 (iv (w64 (l11_1 + 1)))] [] .n (cB (cR (cL (cR (cR (cR (cR bd5))))))) [] ?_
       exact kWk (ih (w64 (l11_1 + 1)) l11_2 _ h)
      ·rcases br_inv h with ⟨b15_5, h⟩ | ⟨b15_5, h⟩
       ·refine kRs 63 [Tm 77 (bv true)] (.s (.t 35) [iv (x14_1.Entries.length : Int)] :: (rp 16 (.b false) (rp 14 (.b true) []))) (.c (c_len (e := TEntry.en) (l := x14_1.Entries)) (.r 4 b15_1 (.r 4 b15_2 (.r 4 b15_3 (.r 4 b15_4 (.r 4 b15_5 (.r 10 rT .n))))))) ?_
        refine kCt rT ?_
        refine kXt 1 ?_
        refine kCd (cR (cR (cB (cB (cR (cL (cR (cR (cR (cR bd5)))))))))) [.lp (cB (cR (cL (cR (cR (cR (cR bd5)))))))] ?_
        refine kRc 88 [Tm 6 (iv (w64 (l11_1 + 1)))] [] .n (cB (cR (cL (cR (cR (cR (cR bd5))))))) [] ?_
        exact kWk (ih (w64 (l11_1 + 1)) l11_2 _ h)
       ·rcases br_inv h with ⟨b15_6, h⟩ | ⟨b15_6, h⟩
        ·refine kRs 63 [Tm 77 (bv true)] (.s (.t 35) [iv (x14_1.Entries.length : Int)] :: (rp 20 (.b false) (rp 10 (.b true) []))) (.c (c_len (e := TEntry.en) (l := x14_1.Entries)) (.r 4 b15_1 (.r 4 b15_2 (.r 4 b15_3 (.r 4 b15_4 (.r 4 b15_5 (.r 4 b15_6 (.r 6 rT .n)))))))) ?_
         refine kCt rT ?_
         refine kXt 1 ?_
         refine kCd (cR (cR (cB (cB (cR (cL (cR (cR (cR (cR bd5)))))))))) [.lp (cB (cR (cL (cR (cR (cR (cR bd5)))))))] ?_
         refine kRc 88 [Tm 6 (iv (w64 (l11_1 + 1)))] [] .n (cB (cR (cL (cR (cR (cR (cR bd5))))))) [] ?_
         exact kWk (ih (w64 (l11_1 + 1)) l11_2 _ h)
        ·rcases br_inv h with ⟨b15_7, h⟩ | ⟨b15_7, h⟩
         ·refine kRs 63 [Tm 77 (bv true)] (.s (.t 35) [iv (x14_1.Entries.length : Int)] :: (rp 24 (.b false) (rp 6 (.b true) []))) (.c (c_len (e := TEntry.en) (l := x14_1.Entries)) (.r 4 b15_1 (.r 4 b15_2 (.r 4 b15_3 (.r 4 b15_4 (.r 4 b15_5 (.r 4 b15_6 (.r 6 b15_7 .n)))))))) ?_
          refine kCt rT ?_
          refine kXt 1 ?_
          refine kCd (cR (cR (cB (cB (cR (cL (cR (cR (cR (cR bd5)))))))))) [.lp (cB (cR (cL (cR (cR (cR (cR bd5)))))))] ?_
          refine kRc 88 [Tm 6 (iv (w64 (l11_1 + 1)))] [] .n (cB (cR (cL (cR (cR (cR (cR bd5))))))) [] ?_
          exact kWk (ih (w64 (l11_1 + 1)) l11_2 _ h)
         ·rcases br_inv h with ⟨b15_8, h⟩ | ⟨b15_8, h⟩
          ·obtain ⟨r15_9, h15_10, h⟩ := bd_inv h
           refine kRs 63 [Tm 77 (bv (!r15_9))] (.s (.t 35) [iv (x14_1.Entries.length : Int)] :: (rp 28 (.b false) [.b true, .b true, .b true, .a ⟨bv r15_9, []⟩, .b true, .b false, .b true, .b false])) (.c (c_len (e := TEntry.en) (l := x14_1.Entries)) (.r 4 b15_1 (.r 4 b15_2 (.r 4 b15_3 (.r 4 b15_4 (.r 4 b15_5 (.r 4 b15_6 (.r 4 b15_7 (.r 3 b15_8 (.c (Asks.of (C := Meets Try.prog) (diwanlaw11_fair.meets fu l11_2 x14_1 _ h15_10)) (.c b15_8 (.c b15_7 (.c b15_8 (.c b15_7 .n)))))))))))))) ?_
           rcases br_inv h with ⟨b23_0, h⟩ | ⟨b23_0, h⟩
           ·refine kCt b23_0 ?_
            refine kXt 1 ?_
            refine kCd (cR (cR (cB (cB (cR (cL (cR (cR (cR (cR bd5)))))))))) [.lp (cB (cR (cL (cR (cR (cR (cR bd5)))))))] ?_
            refine kRc 88 [Tm 6 (iv (w64 (l11_1 + 1)))] [] .n (cB (cR (cL (cR (cR (cR (cR bd5))))))) [] ?_
            exact kWk (ih (w64 (l11_1 + 1)) l11_2 _ h)
           ·refine kCe b23_0 ?_
            refine kSk ?_
            refine kCd (cR (cR (cB (cL (cR (cB (cB (cR (cL (cR (cR (cR (cR bd5))))))))))))) [.blk 1, .seq (cR (cR (cB (cB (cR (cL (cR (cR (cR (cR bd5)))))))))), .lp (cB (cR (cL (cR (cR (cR (cR bd5)))))))] ?_
            exact kWk (Jk25 h)
          ·refine kRs 63 [Tm 77 (bv false)] (.s (.t 35) [iv (x14_1.Entries.length : Int)] :: (rp 35 (.b false) [])) (.c (c_len (e := TEntry.en) (l := x14_1.Entries)) (.r 4 b15_1 (.r 4 b15_2 (.r 4 b15_3 (.r 4 b15_4 (.r 4 b15_5 (.r 4 b15_6 (.r 4 b15_7 (.r 4 b15_8 (.c b15_7 (.c b15_8 (.c b15_7 .n)))))))))))) ?_
           refine kCe rF ?_
           refine kSk ?_
           refine kCd (cR (cR (cB (cL (cR (cB (cB (cR (cL (cR (cR (cR (cR bd5))))))))))))) [.blk 1, .seq (cR (cR (cB (cB (cR (cL (cR (cR (cR (cR bd5)))))))))), .lp (cB (cR (cL (cR (cR (cR (cR bd5)))))))] ?_
           exact kWk (Jk25 h)
  ·refine kCe b13_0 ?_
   cases some_inj h
   refine kWo ?_
   refine kXt 0 ?_
   exact kOut
noncomputable def diwanlaw11_RaftWild (fu : Nat) (picks : List Int) (l : List TMsg) : Option Bool :=
 bd (diwanlaw11_begun fu) fun r2_1 =>
 br (!r2_1)
  (some false)
  (br (decide ((picks.length : Int) > 120))
   (some true)
   (br (decide ((l.length : Int) > 20))
    (some true)
    (bd (diwanplay_Made picks) fun r9_1 =>
    bd (diwanplay_Picks_Raft fu r9_1) fun (r9_3, r9_4) =>
    bd (diwanlaw11_RaftWild.lp11 fu l fu 0 r9_3) fun o_ => (match o_ with
    | .inl _ =>
     some true
    | .inr _ =>
     some false))))
theorem diwanlaw11_RaftWild.meets (fu : Nat) (picks : List Int) (l : List TMsg) (z0 : Bool) (h : diwanlaw11_RaftWild fu picks l = some z0) : Meets Try.prog ⟨5, [.data (.slc false none 1 (List.map e_u8 picks)), .data (.slc false none 24 (List.map TMsg.en l))], []⟩ ⟨bv z0, []⟩ := by
 refine meets_of (O := diwanlaw11_RaftWild.O) hmix (fn := Try.f5) (code := bd5) (by kernel_rfl) ?_
 refine WK.weak (l := [Tm 0 (.data (.slc false none 1 (List.map e_u8 picks))), Tm 1 (.data (.slc false none 24 (List.map TMsg.en l)))]) (wk_of (by kernel_rfl)) ?_
 unfold diwanlaw11_RaftWild at h
 refine kRs 3 [] [] .n ?_
 refine kSq ?_
 obtain ⟨r2_1, h2_2, h⟩ := bd_inv h
 refine kRs 3 [Tm 11 (bv (!r2_1))] [.a ⟨bv r2_1, []⟩] (.c (Asks.of (C := Meets Try.prog) (diwanlaw11_begun.meets fu _ h2_2)) .n) ?_
 rcases br_inv h with ⟨b3_0, h⟩ | ⟨b3_0, h⟩
 ·refine kCt b3_0 ?_
  refine kRs 0 [Tm 4 (bv false)] [] .n ?_
  refine WK.weak (l := [Tm 4 (bv false)]) (wk_of (by kernel_rfl)) ?_
  refine kRt ?_
  have h_ := some_inj h
  subst h_
  exact kFr
 ·refine kCe b3_0 ?_
  refine kSk ?_
  refine kCd (cR (cR bd5)) [] ?_
  refine kSq ?_
  rcases br_inv h with ⟨b5_1, h⟩ | ⟨b5_1, h⟩
  ·refine kRs 6 [Tm 19 (bv true)] (.s (.t 13) [iv (picks.length : Int)] :: (rp 4 (.b true) [])) (.c (c_len (e := e_u8) (l := picks)) (.r 4 b5_1 .n)) ?_
   refine kCt rT ?_
   refine kRs 0 [Tm 4 (bv true)] [] .n ?_
   refine WK.weak (l := [Tm 4 (bv true)]) (wk_of (by kernel_rfl)) ?_
   refine kRt ?_
   have h_ := some_inj h
   subst h_
   exact kFr
  ·refine kRs 6 [Tm 19 (bv (decide ((l.length : Int) > 20)))] [.s (.t 13) [iv (picks.length : Int)], .b false, .b false, .s (.t 17) [iv (l.length : Int)], .b false, .b false] (.c (c_len (e := e_u8) (l := picks)) (.r 2 b5_1 (.c (c_len (e := TMsg.en) (l := l)) (.r 2 b5_1 .n)))) ?_
   rcases br_inv h with ⟨b7_0, h⟩ | ⟨b7_0, h⟩
   ·refine kCt b7_0 ?_
    refine kRs 0 [Tm 4 (bv true)] [] .n ?_
    refine WK.weak (l := [Tm 4 (bv true)]) (wk_of (by kernel_rfl)) ?_
    refine kRt ?_
    have h_ := some_inj h
    subst h_
    exact kFr
   ·refine kCe b7_0 ?_
    refine kSk ?_
    refine kCd (cR (cR (cR bd5))) [] ?_
    obtain ⟨r9_1, h9_2, h⟩ := bd_inv h
    obtain ⟨⟨r9_3, r9_4⟩, h9_5, h⟩ := bd_inv h
    refine kRs 4 [Tm 5 (.ptr 5 0), Ob 5 (TRaft.ob_000001000111 r9_3)] [.a ⟨.ptr 1000 0, [[.data (.slc false none 1 (List.map e_u8 r9_1.l)), iv r9_1.n]]⟩, .a ⟨.data (TRaft.ag_000001000111 r9_3), [[.data (.slc false none 1 (List.map e_u8 r9_4.l)), iv r9_4.n]]⟩] (.c (Asks.of (C := Meets Try.prog) (diwanplay_Made.meets picks _ h9_2)) (.c (Asks.of (C := Meets Try.prog) (diwanplay_Picks_Raft.meets fu r9_1 _ _ h9_5)) .n)) ?_
    refine kSq ?_
    refine kRs 7 [Tm 6 (iv 0)] [] .n ?_
    refine kBk 0 ?_
    obtain ⟨o43, ho43, h⟩ := bd_inv h
    refine WK.shareO (i := 5) (cc := 5) (l' := [Tm 1 (.data (.slc false none 24 (List.map TMsg.en l))), Tm 5 (.ptr 5 0), Tm 6 (iv 0), Ob 5 (TRaft.ob_000000000111 r9_3)]) (by kernel_rfl) (by kernel_rfl) (by kernel_rfl) ?_
    refine WK.shareO (i := 5) (cc := 9) (l' := [Tm 1 (.data (.slc false none 24 (List.map TMsg.en l))), Tm 5 (.ptr 5 0), Tm 6 (iv 0), Ob 5 (TRaft.ob_000000000011 r9_3)]) (by kernel_rfl) (by kernel_rfl) (by kernel_rfl) ?_
    refine WK.shareO (i := 5) (cc := 10) (l' := [Tm 1 (.data (.slc false none 24 (List.map TMsg.en l))), Tm 5 (.ptr 5 0), Tm 6 (iv 0), Ob 5 (TRaft.ob_000000000001 r9_3)]) (by kernel_rfl) (by kernel_rfl) (by kernel_rfl) ?_
    refine WK.shareO (i := 5) (cc := 11) (l' := [Tm 1 (.data (.slc false none 24 (List.map TMsg.en l))), Tm 5 (.ptr 5 0), Tm 6 (iv 0), Ob 5 (TRaft.ob r9_3)]) (by kernel_rfl) (by kernel_rfl) (by kernel_rfl) ?_
    refine kUs (diwanlaw11_RaftWild.lp11_ok fu l _ 0 r9_3 _ ho43) ?_
    intro e_ τ_ hp_
    rcases o43 with o43 | o43
    ·obtain ⟨⟩ := o43
     obtain ⟨rfl, rfl⟩ := hp_
     refine kCd (cR (cR (cR (cR (cR bd5))))) [] ?_
     refine kRs 0 [Tm 4 (bv true)] [] .n ?_
     refine WK.weak (l := [Tm 4 (bv true)]) (wk_of (by kernel_rfl)) ?_
     refine kRt ?_
     have h_ := some_inj h
     subst h_
     exact kFr
    ·obtain ⟨⟩ := o43
     obtain ⟨rfl, rfl⟩ := hp_
     have h_ := some_inj h
     subst h_
     exact kFr
end Go.Proofs.Ythpokjkbcdfhiaa.Told
