/- Functions of the program told as Lean functions, with the walks of their code in the machine by value. -/
import Derived.Test.YthpokjkbcdfhiaaProg
import Derived.Test.YthpokjkbcdfhiaaVam2
import Derived.Test.YthpokjkbcdfhiaaToldRaftAllp1
noncomputable section
namespace Go.Proofs.Ythpokjkbcdfhiaa.Told
open Go Go.Proofs Go.Proofs.Ythpokjkbcdfhiaa Go.Proofs.Ythpokjkbcdfhiaa.Vam
set_option linter.unusedVariables false
set_option maxRecDepth 100000
def bd14 : Code := (Try.f14.body).getD .skip
def diwanplay_Picks_Raft.O : Nat → Nat := fun t => bif ([2, 3, 4, 5, 17, 21, 25, 45, 52, 55, 59, 63, 67, 85, 95, 109, 116, 130, 133] : List Nat).any (Nat.beq t) then 1 else bif ([131] : List Nat).any (Nat.beq t) then 222 else 0
def diwanplay_Picks_Raft.lp13 (fu : Nat) (l13_0 : Int) (l13_2 : TRaft) : Nat → Int → TRaft → TPicks → Option (TRaft × TPicks)
  | 0, _, _, _ => none
  | n_ + 1, l13_1, l13_3, l13_4 =>
  br (decide (l13_1 < l13_0))
   (bd (diwanplay_Picks_Num (w64 ((l13_3.Log.length : Int) + 1)) l13_4) fun (r16_1, r16_2) =>
   ix l13_3.Match l13_1 fun x16_4 =>
   ix (l13_3.Match.set l13_1.toNat r16_1) l13_1 fun x17_1 =>
   ix l13_3.Next l13_1 fun x17_4 =>
   jn (fun (j21_3 : TRaft) (j21_4 : TPicks) =>
    bd (diwanplay_Picks_Num 2 j21_4) fun (r22_1, r22_2) =>
    ix j21_3.Votes l13_1 fun x22_4 =>
    diwanplay_Picks_Raft.lp13 fu l13_0 l13_2 n_ (w64 (l13_1 + 1)) (TRaft.mk j21_3.Me j21_3.Nodes j21_3.Wait j21_3.Term j21_3.Vote j21_3.Log j21_3.Commit j21_3.Role j21_3.Leader (j21_3.Votes.set l13_1.toNat (r22_1 == 0)) j21_3.Next j21_3.Match j21_3.Clock) r22_2) fun k21 =>
   bd (diwanplay_Picks_Num 3 r16_2) fun (r18_1, r18_2) =>
   br (r18_1 == 0)
    (bd (diwanplay_Picks_Num (w64 ((l13_3.Log.length : Int) + 1)) r18_2) fun (r20_1, r20_2) =>
    ix (l13_3.Next.set l13_1.toNat (w64 (x17_1 + 1))) l13_1 fun x20_4 =>
    k21 (TRaft.mk l13_3.Me l13_3.Nodes l13_3.Wait l13_3.Term l13_3.Vote l13_3.Log l13_3.Commit l13_3.Role l13_3.Leader l13_3.Votes ((l13_3.Next.set l13_1.toNat (w64 (x17_1 + 1))).set l13_1.toNat (w64 (1 + r20_1))) (l13_3.Match.set l13_1.toNat r16_1) l13_3.Clock) r20_2)
    (k21 (TRaft.mk l13_3.Me l13_3.Nodes l13_3.Wait l13_3.Term l13_3.Vote l13_3.Log l13_3.Commit l13_3.Role l13_3.Leader l13_3.Votes (l13_3.Next.set l13_1.toNat (w64 (x17_1 + 1))) (l13_3.Match.set l13_1.toNat r16_1) l13_3.Clock) r18_2))
   (some (l13_3, l13_4))
def diwanplay_Picks_Raft.lp13_post (l13_0 : Int) (l13_2 : TRaft) (r_ : (TRaft × TPicks)) : Wy → St → Prop := fun e τ => match r_ with
  | (y0, y1) => e = .exit 0 ∧ τ = ofL [Tm 2 (.ptr 2 0), Tm 4 (.ptr 4 0), Ob 2 (TRaft.ob_000001000111 l13_2), Ob 4 (TRaft.ob_000001000111 y0), Ob 1000 [sS 1 e_u8 y1.l, iv y1.n]]
theorem diwanplay_Picks_Raft.lp13_ok (fu : Nat) (l13_0 : Int) (l13_2 : TRaft) : ∀ (n_ : Nat) (l13_1 : Int) (l13_3 : TRaft) (l13_4 : TPicks) (r_ : (TRaft × TPicks)), diwanplay_Picks_Raft.lp13 fu l13_0 l13_2 n_ l13_1 l13_3 l13_4 = some r_ → WK Try.prog diwanplay_Picks_Raft.O (Ck Try.prog) (cB (cR (cL (cR (cR (cR (cR (cR (cR (cR (cR bd14))))))))))) [] (ofL [Tm 0 (.ptr 1000 0), Tm 2 (.ptr 2 0), Tm 3 (iv l13_0), Tm 4 (.ptr 4 0), Tm 5 (iv l13_1), Ob 2 (TRaft.ob_000001000111 l13_2), Ob 4 (TRaft.ob_000001000111 l13_3), Ob 1000 [sS 1 e_u8 l13_4.l, iv l13_4.n]]) (diwanplay_Picks_Raft.lp13_post l13_0 l13_2 r_) := by
 intro n_
 induction n_ with
 | zero => intro l13_1 l13_3 l13_4 r_ h; exact no_none h
 | succ n_ ih =>
  intro l13_1 l13_3 l13_4 r_ h
  refine kLp ?_
  refine kSq ?_
  refine kRs 255 [Tm 74 (bv (decide (l13_1 < l13_0)))] [] .n ?_
  rcases br_inv h with ⟨b15_0, h⟩ | ⟨b15_0, h⟩
  ·refine kCt b15_0 ?_
   refine kSk ?_
   refine kCd (cR (cB (cB (cR (cL (cR (cR (cR (cR (cR (cR (cR (cR bd14))))))))))))) [.lp (cB (cR (cL (cR (cR (cR (cR (cR (cR (cR (cR bd14)))))))))))] ?_
   refine kSq ?_
   refine kBk 1 ?_
   obtain ⟨⟨r16_1, r16_2⟩, h16_3, h⟩ := bd_inv h
   obtain ⟨x16_4, a16_5, e16_6, h⟩ := ix_inv h
   refine kRs 126 [Ob 4 (TRaft.ob_000001000111 (TRaft.mk l13_3.Me l13_3.Nodes l13_3.Wait l13_3.Term l13_3.Vote l13_3.Log l13_3.Commit l13_3.Role l13_3.Leader l13_3.Votes l13_3.Next (l13_3.Match.set l13_1.toNat r16_1) l13_3.Clock)), Ob 1000 [sS 1 e_u8 r16_2.l, iv r16_2.n]] [.s (.t 83) [iv (l13_3.Log.length : Int)], .a ⟨iv r16_1, [[sS 1 e_u8 r16_2.l, iv r16_2.n]]⟩, .c (e_i64 x16_4), .s (.o 4) (TRaft.ob_000001000111 (TRaft.mk l13_3.Me l13_3.Nodes l13_3.Wait l13_3.Term l13_3.Vote l13_3.Log l13_3.Commit l13_3.Role l13_3.Leader l13_3.Votes l13_3.Next (l13_3.Match.set l13_1.toNat r16_1) l13_3.Clock))] (.c (c_len (e := TEntry.en) (l := l13_3.Log)) (.c (Asks.of (C := Meets Try.prog) (diwanplay_Picks_Num.meets (w64 ((l13_3.Log.length : Int) + 1)) l13_4 _ _ h16_3)) (.c (c_ix (e := e_i64) a16_5 e16_6) (.c (c_el (e := e_i64) e16_6) (.c (congrArg (fun d : DV => (TRaft.ob_000001000111 (TRaft.mk l13_3.Me l13_3.Nodes l13_3.Wait l13_3.Term l13_3.Vote l13_3.Log l13_3.Commit l13_3.Role l13_3.Leader l13_3.Votes l13_3.Next (l13_3.Match.set l13_1.toNat r16_1) l13_3.Clock)).set 11 (AV.data d)) (c_set (e := e_i64) (s := 1) (nl := none) (l := l13_3.Match) (i := l13_1.toNat) (x := r16_1))) (.c rT .n)))))) ?_
   obtain ⟨x17_1, a17_2, e17_3, h⟩ := ix_inv h
   obtain ⟨x17_4, a17_5, e17_6, h⟩ := ix_inv h
   refine kRs 254 [Ob 4 (TRaft.ob_000001000111 (TRaft.mk l13_3.Me l13_3.Nodes l13_3.Wait l13_3.Term l13_3.Vote l13_3.Log l13_3.Commit l13_3.Role l13_3.Leader l13_3.Votes (l13_3.Next.set l13_1.toNat (w64 (x17_1 + 1))) (l13_3.Match.set l13_1.toNat r16_1) l13_3.Clock))] [.c (e_i64 x17_1), .c (e_i64 x17_4), .s (.o 4) (TRaft.ob_000001000111 (TRaft.mk l13_3.Me l13_3.Nodes l13_3.Wait l13_3.Term l13_3.Vote l13_3.Log l13_3.Commit l13_3.Role l13_3.Leader l13_3.Votes (l13_3.Next.set l13_1.toNat (w64 (x17_1 + 1))) (l13_3.Match.set l13_1.toNat r16_1) l13_3.Clock))] (.c (c_ix (e := e_i64) a17_2 e17_3) (.c (c_el (e := e_i64) e17_3) (.c (c_ix (e := e_i64) a17_5 e17_6) (.c (c_el (e := e_i64) e17_6) (.c (congrArg (fun d : DV => (TRaft.ob_000001000111 (TRaft.mk l13_3.Me l13_3.Nodes l13_3.Wait l13_3.Term l13_3.Vote l13_3.Log l13_3.Commit l13_3.Role l13_3.Leader l13_3.Votes (l13_3.Next.set l13_1.toNat (w64 (x17_1 + 1))) (l13_3.Match.set l13_1.toNat r16_1) l13_3.Clock)).set 10 (AV.data d)) (c_set (e := e_i64) (s := 1) (nl := none) (l := l13_3.Next) (i := l13_1.toNat) (x := (w64 (x17_1 + 1))))) (.c rT .n)))))) ?_
   obtain ⟨k21, hk21, h⟩ := jn_inv h
   have Jk21 : ∀ (j21_3 : TRaft) (j21_4 : TPicks), k21 j21_3 j21_4 = some r_ → WK Try.prog diwanplay_Picks_Raft.O (Ck Try.prog) (cR (cR (cR (cB (cL (cR (cB (cB (cR (cL (cR (cR (cR (cR (cR (cR (cR (cR bd14)))))))))))))))))) [.blk 1, .seq (cR (cR (cB (cB (cR (cL (cR (cR (cR (cR (cR (cR (cR (cR bd14)))))))))))))), .lp (cB (cR (cL (cR (cR (cR (cR (cR (cR (cR (cR bd14)))))))))))] (ofL [Tm 0 (.ptr 1000 0), Tm 2 (.ptr 2 0), Tm 3 (iv l13_0), Tm 4 (.ptr 4 0), Tm 5 (iv l13_1), Ob 2 (TRaft.ob_000001000111 l13_2), Ob 4 (TRaft.ob_000001000111 j21_3), Ob 1000 [sS 1 e_u8 j21_4.l, iv j21_4.n]]) (diwanplay_Picks_Raft.lp13_post l13_0 l13_2 r_) := by
    intro j21_3 j21_4 h
    rw [hk21] at h
    obtain ⟨⟨r22_1, r22_2⟩, h22_3, h⟩ := bd_inv h
    obtain ⟨x22_4, a22_5, e22_6, h⟩ := ix_inv h
    refine kRc 63 [Ob 4 (TRaft.ob_000001000111 (TRaft.mk j21_3.Me j21_3.Nodes j21_3.Wait j21_3.Term j21_3.Vote j21_3.Log j21_3.Commit j21_3.Role j21_3.Leader (j21_3.Votes.set l13_1.toNat (r22_1 == 0)) j21_3.Next j21_3.Match j21_3.Clock)), Ob 1000 [sS 1 e_u8 r22_2.l, iv r22_2.n]] [.a ⟨iv r22_1, [[sS 1 e_u8 r22_2.l, iv r22_2.n]]⟩, .c (e_b x22_4), .s (.o 4) (TRaft.ob_000001000111 (TRaft.mk j21_3.Me j21_3.Nodes j21_3.Wait j21_3.Term j21_3.Vote j21_3.Log j21_3.Commit j21_3.Role j21_3.Leader (j21_3.Votes.set l13_1.toNat (r22_1 == 0)) j21_3.Next j21_3.Match j21_3.Clock))] (.c (Asks.of (C := Meets Try.prog) (diwanplay_Picks_Num.meets 2 j21_4 _ _ h22_3)) (.c (c_ix (e := e_b) a22_5 e22_6) (.c (c_el (e := e_b) e22_6) (.c (congrArg (fun d : DV => (TRaft.ob_000001000111 (TRaft.mk j21_3.Me j21_3.Nodes j21_3.Wait j21_3.Term j21_3.Vote j21_3.Log j21_3.Commit j21_3.Role j21_3.Leader (j21_3.Votes.set l13_1.toNat (r22_1 == 0)) j21_3.Next j21_3.Match j21_3.Clock)).set 9 (AV.data d)) (c_set (e := e_b) (s := 1) (nl := none) (l := j21_3.Votes) (i := l13_1.toNat) (x := (r22_1 == 0)))) (.c rT .n))))) (cR (cR (cB (cB (cR (cL (cR (cR (cR (cR (cR (cR (cR (cR bd14)))))))))))))) [.lp (cB (cR (cL (cR (cR (cR (cR (cR (cR (cR (cR bd14)))))))))))] ?_
    refine kRc 191 [Tm 5 (iv (w64 (l13_1 + 1)))] [] .n (cB (cR (cL (cR (cR (cR (cR (cR (cR (cR (cR bd14))))))))))) [] ?_
    exact kWk (ih (w64 (l13_1 + 1)) (TRaft.mk j21_3.Me j21_3.Nodes j21_3.Wait j21_3.Term j21_3.Vote j21_3.Log j21_3.Commit j21_3.Role j21_3.Leader (j21_3.Votes.set l13_1.toNat (r22_1 == 0)) j21_3.Next j21_3.Match j21_3.Clock) r22_2 _ h)
   clear hk21
   refine kSq ?_
   obtain ⟨⟨r18_1, r18_2⟩, h18_3, h⟩ := bd_inv h
   refine kRs 253 [Tm 99 (bv (r18_1 == 0)), Ob 1000 [sS 1 e_u8 r18_2.l, iv r18_2.n]] [.a ⟨iv r18_1, [[sS 1 e_u8 r18_2.l, iv r18_2.n]]⟩] (.c (Asks.of (C := Meets Try.prog) (diwanplay_Picks_Num.meets 3 r16_2 _ _ h18_3)) .n) ?_
   rcases br_inv h with ⟨b19_0, h⟩ | ⟨b19_0, h⟩
   ·refine kCt b19_0 ?_
    obtain ⟨⟨r20_1, r20_2⟩, h20_3, h⟩ := bd_inv h
    obtain ⟨x20_4, a20_5, e20_6, h⟩ := ix_inv h
    refine kRc 504 [Ob 4 (TRaft.ob_000001000111 (TRaft.mk l13_3.Me l13_3.Nodes l13_3.Wait l13_3.Term l13_3.Vote l13_3.Log l13_3.Commit l13_3.Role l13_3.Leader l13_3.Votes ((l13_3.Next.set l13_1.toNat (w64 (x17_1 + 1))).set l13_1.toNat (w64 (1 + r20_1))) (l13_3.Match.set l13_1.toNat r16_1) l13_3.Clock)), Ob 1000 [sS 1 e_u8 r20_2.l, iv r20_2.n]] [.s (.t 106) [iv (l13_3.Log.length : Int)], .a ⟨iv r20_1, [[sS 1 e_u8 r20_2.l, iv r20_2.n]]⟩, .c (e_i64 x20_4), .s (.o 4) (TRaft.ob_000001000111 (TRaft.mk l13_3.Me l13_3.Nodes l13_3.Wait l13_3.Term l13_3.Vote l13_3.Log l13_3.Commit l13_3.Role l13_3.Leader l13_3.Votes ((l13_3.Next.set l13_1.toNat (w64 (x17_1 + 1))).set l13_1.toNat (w64 (1 + r20_1))) (l13_3.Match.set l13_1.toNat r16_1) l13_3.Clock))] (.c (c_len (e := TEntry.en) (l := l13_3.Log)) (.c (Asks.of (C := Meets Try.prog) (diwanplay_Picks_Num.meets (w64 ((l13_3.Log.length : Int) + 1)) r18_2 _ _ h20_3)) (.c (c_ix (e := e_i64) a20_5 e20_6) (.c (c_el (e := e_i64) e20_6) (.c (congrArg (fun d : DV => (TRaft.ob_000001000111 (TRaft.mk l13_3.Me l13_3.Nodes l13_3.Wait l13_3.Term l13_3.Vote l13_3.Log l13_3.Commit l13_3.Role l13_3.Leader l13_3.Votes ((l13_3.Next.set l13_1.toNat (w64 (x17_1 + 1))).set l13_1.toNat (w64 (1 + r20_1))) (l13_3.Match.set l13_1.toNat r16_1) l13_3.Clock)).set 10 (AV.data d)) (c_set (e := e_i64) (s := 1) (nl := none) (l := (l13_3.Next.set l13_1.toNat (w64 (x17_1 + 1)))) (i := l13_1.toNat) (x := (w64 (1 + r20_1))))) (.c rT .n)))))) (cR (cR (cR (cB (cL (cR (cB (cB (cR (cL (cR (cR (cR (cR (cR (cR (cR (cR bd14)))))))))))))))))) [.blk 1, .seq (cR (cR (cB (cB (cR (cL (cR (cR (cR (cR (cR (cR (cR (cR bd14)))))))))))))), .lp (cB (cR (cL (cR (cR (cR (cR (cR (cR (cR (cR bd14)))))))))))] ?_
    exact kWk (Jk21 (TRaft.mk l13_3.Me l13_3.Nodes l13_3.Wait l13_3.Term l13_3.Vote l13_3.Log l13_3.Commit l13_3.Role l13_3.Leader l13_3.Votes ((l13_3.Next.set l13_1.toNat (w64 (x17_1 + 1))).set l13_1.toNat (w64 (1 + r20_1))) (l13_3.Match.set l13_1.toNat r16_1) l13_3.Clock) r20_2 h)
   ·refine kCe b19_0 ?_
    refine kSk ?_
    refine kCd (cR (cR (cR (cB (cL (cR (cB (cB (cR (cL (cR (cR (cR (cR (cR (cR (cR (cR bd14)))))))))))))))))) [.blk 1, .seq (cR (cR (cB (cB (cR (cL (cR (cR (cR (cR (cR (cR (cR (cR bd14)))))))))))))), .lp (cB (cR (cL (cR (cR (cR (cR (cR (cR (cR (cR bd14)))))))))))] ?_
    exact kWk (Jk21 (TRaft.mk l13_3.Me l13_3.Nodes l13_3.Wait l13_3.Term l13_3.Vote l13_3.Log l13_3.Commit l13_3.Role l13_3.Leader l13_3.Votes (l13_3.Next.set l13_1.toNat (w64 (x17_1 + 1))) (l13_3.Match.set l13_1.toNat r16_1) l13_3.Clock) r18_2 h)
  ·refine kCe b15_0 ?_
   cases some_inj h
   refine kWo ?_
   refine kXt 0 ?_
   exact kOut
def diwanplay_Picks_Raft (fu : Nat) (o0_v : TPicks) : Option (TRaft × TPicks) :=
 bd (diwanplay_Picks_Num 5 o0_v) fun (r2_1, r2_2) =>
 bd (diwanplay_Picks_Num (w64 (1 + r2_1)) r2_2) fun (r3_1, r3_2) =>
 bd (diwanplay_Picks_Num 9 r3_2) fun (r3_4, r3_5) =>
 bd (diwanref11_New (w64 (1 + r3_1)) (w64 (1 + r2_1)) (w64 (3 + r3_4))) fun r3_7 =>
 bd (diwanplay_Picks_Num 8 r3_5) fun (r4_1, r4_2) =>
 bd (diwanplay_Picks_Log fu r4_1 r4_2) fun (r4_4, r4_5) =>
 bd (diwanplay_Picks_Num 3 r4_5) fun (r5_1, r5_2) =>
 jn (fun (j9_2 : TRaft) (j9_3 : TPicks) =>
  bd (diwanplay_Picks_Num (w64 ((j9_2.Log.length : Int) + 1)) j9_3) fun (r10_1, r10_2) =>
  bd (diwanplay_Picks_Num 3 r10_2) fun (r11_1, r11_2) =>
  bd (diwanplay_Picks_Num (w64 ((w64 (1 + r2_1)) + 1)) r11_2) fun (r11_4, r11_5) =>
  bd (diwanplay_Picks_Num (w64 ((w64 (1 + r2_1)) + 1)) r11_5) fun (r11_7, r11_8) =>
  bd (diwanplay_Picks_Num j9_2.Wait r11_8) fun (r11_10, r11_11) =>
  bd (diwanplay_Picks_Raft.lp13 fu (w64 (1 + r2_1)) (TRaft.mk 0 0 0 0 0 [] 0 0 0 [] [] [] 0) fu 0 (TRaft.mk j9_2.Me j9_2.Nodes j9_2.Wait j9_2.Term r11_4 j9_2.Log r10_1 r11_1 r11_7 j9_2.Votes j9_2.Next j9_2.Match r11_10) r11_11) fun (y24_0, y24_1) =>
  br (y24_0.Role == 2)
   (ix y24_0.Match (w64 (y24_0.Me - 1)) fun x27_1 =>
   some ((TRaft.mk y24_0.Me y24_0.Nodes y24_0.Wait y24_0.Term y24_0.Vote y24_0.Log y24_0.Commit y24_0.Role y24_0.Me y24_0.Votes y24_0.Next (y24_0.Match.set (w64 (y24_0.Me - 1)).toNat (y24_0.Log.length : Int)) y24_0.Clock), y24_1))
   (some (y24_0, y24_1))) fun k9 =>
 br (decide ((r4_4.length : Int) > 0))
  (ix r4_4 (w64 ((r4_4.length : Int) - 1)) fun x8_1 =>
  bd (diwanplay_Picks_Num 2 r5_2) fun (r8_4, r8_5) =>
  k9 (TRaft.mk r3_7.Me r3_7.Nodes r3_7.Wait (if (w64 (1 + r5_1)) < (w64 (x8_1.Term + r8_4)) then (w64 (x8_1.Term + r8_4)) else (w64 (1 + r5_1))) r3_7.Vote r4_4 r3_7.Commit r3_7.Role r3_7.Leader r3_7.Votes r3_7.Next r3_7.Match r3_7.Clock) r8_5)
  (k9 (TRaft.mk r3_7.Me r3_7.Nodes r3_7.Wait (w64 (1 + r5_1)) r3_7.Vote r4_4 r3_7.Commit r3_7.Role r3_7.Leader r3_7.Votes r3_7.Next r3_7.Match r3_7.Clock) r5_2)
theorem diwanplay_Picks_Raft.meets (fu : Nat) (o0_v : TPicks) (z0 : TRaft) (z1 : TPicks) (h : diwanplay_Picks_Raft fu o0_v = some (z0, z1)) : Meets Try.prog ⟨14, [.ptr 1000 0], [[sS 1 e_u8 o0_v.l, iv o0_v.n]]⟩ ⟨.data (TRaft.ag_000001000111 z0), [[sS 1 e_u8 z1.l, iv z1.n]]⟩ := by
 refine kMt hmix diwanplay_Picks_Raft.O Try.f14 bd14 3 ?_
 unfold diwanplay_Picks_Raft at h
 refine kRs 3 [Tm 2 (.ptr 2 0), Ob 2 (TRaft.ob_000001000111 (TRaft.mk 0 0 0 0 0 [] 0 0 0 [] [] [] 0))] [] .n ?_
 obtain ⟨⟨r2_1, r2_2⟩, h2_3, h⟩ := bd_inv h
 refine kRs 7 [Tm 3 (iv (w64 (1 + r2_1))), Ob 1000 [sS 1 e_u8 r2_2.l, iv r2_2.n]] [.a ⟨iv r2_1, [[sS 1 e_u8 r2_2.l, iv r2_2.n]]⟩] (.c (Asks.of (C := Meets Try.prog) (diwanplay_Picks_Num.meets 5 o0_v _ _ h2_3)) .n) ?_
 obtain ⟨⟨r3_1, r3_2⟩, h3_3, h⟩ := bd_inv h
 obtain ⟨⟨r3_4, r3_5⟩, h3_6, h⟩ := bd_inv h
 obtain ⟨r3_7, h3_8, h⟩ := bd_inv h
 refine kRs 29 [Tm 4 (.ptr 4 0), Ob 4 (TRaft.ob_000001000111 r3_7), Ob 1000 [sS 1 e_u8 r3_5.l, iv r3_5.n]] [.a ⟨iv r3_1, [[sS 1 e_u8 r3_2.l, iv r3_2.n]]⟩, .a ⟨iv r3_4, [[sS 1 e_u8 r3_5.l, iv r3_5.n]]⟩, .a ⟨.data (TRaft.ag_000001000111 r3_7), []⟩] (.c (Asks.of (C := Meets Try.prog) (diwanplay_Picks_Num.meets (w64 (1 + r2_1)) r2_2 _ _ h3_3)) (.c (Asks.of (C := Meets Try.prog) (diwanplay_Picks_Num.meets 9 r3_2 _ _ h3_6)) (.c (Asks.of (C := Meets Try.prog) (diwanref11_New.meets (w64 (1 + r3_1)) (w64 (1 + r2_1)) (w64 (3 + r3_4)) _ h3_8)) .n))) ?_
 obtain ⟨⟨r4_1, r4_2⟩, h4_3, h⟩ := bd_inv h
 obtain ⟨⟨r4_4, r4_5⟩, h4_6, h⟩ := bd_inv h
 refine kRs 121 [Ob 4 (TRaft.ob_000001000111 (TRaft.mk r3_7.Me r3_7.Nodes r3_7.Wait r3_7.Term r3_7.Vote r4_4 r3_7.Commit r3_7.Role r3_7.Leader r3_7.Votes r3_7.Next r3_7.Match r3_7.Clock)), Ob 1000 [sS 1 e_u8 r4_5.l, iv r4_5.n]] [.a ⟨iv r4_1, [[sS 1 e_u8 r4_2.l, iv r4_2.n]]⟩, .a ⟨sO 6 TEntry.en r4_4, [[sS 1 e_u8 r4_5.l, iv r4_5.n]]⟩] (.c (Asks.of (C := Meets Try.prog) (diwanplay_Picks_Num.meets 8 r3_5 _ _ h4_3)) (.c (Asks.of (C := Meets Try.prog) (diwanplay_Picks_Log.meets fu r4_1 r4_2 _ _ h4_6)) .n)) ?_
 obtain ⟨⟨r5_1, r5_2⟩, h5_3, h⟩ := bd_inv h
 refine kRs 124 [Ob 4 (TRaft.ob_000001000111 (TRaft.mk r3_7.Me r3_7.Nodes r3_7.Wait (w64 (1 + r5_1)) r3_7.Vote r4_4 r3_7.Commit r3_7.Role r3_7.Leader r3_7.Votes r3_7.Next r3_7.Match r3_7.Clock)), Ob 1000 [sS 1 e_u8 r5_2.l, iv r5_2.n]] [.a ⟨iv r5_1, [[sS 1 e_u8 r5_2.l, iv r5_2.n]]⟩] (.c (Asks.of (C := Meets Try.prog) (diwanplay_Picks_Num.meets 3 r4_5 _ _ h5_3)) .n) ?_
 obtain ⟨k9, hk9, h⟩ := jn_inv h
 have Jk9 : ∀ (j9_2 : TRaft) (j9_3 : TPicks), k9 j9_2 j9_3 = some (z0, z1) → WK Try.prog diwanplay_Picks_Raft.O (Ck Try.prog) (cR (cR (cR (cR (cR (cR bd14)))))) [] (ofL [Tm 0 (.ptr 1000 0), Tm 2 (.ptr 2 0), Tm 3 (iv (w64 (1 + r2_1))), Tm 4 (.ptr 4 0), Ob 2 (TRaft.ob_000001000111 (TRaft.mk 0 0 0 0 0 [] 0 0 0 [] [] [] 0)), Ob 4 (TRaft.ob_000001000111 j9_2), Ob 1000 [sS 1 e_u8 j9_3.l, iv j9_3.n]]) (Fin Try.prog diwanplay_Picks_Raft.O Try.f14 1 ⟨.data (TRaft.ag_000001000111 z0), [[sS 1 e_u8 z1.l, iv z1.n]]⟩) := by
  intro j9_2 j9_3 h
  rw [hk9] at h
  obtain ⟨⟨r10_1, r10_2⟩, h10_3, h⟩ := bd_inv h
  refine kRs 31 [Ob 4 (TRaft.ob_000001000111 (TRaft.mk j9_2.Me j9_2.Nodes j9_2.Wait j9_2.Term j9_2.Vote j9_2.Log r10_1 j9_2.Role j9_2.Leader j9_2.Votes j9_2.Next j9_2.Match j9_2.Clock)), Ob 1000 [sS 1 e_u8 r10_2.l, iv r10_2.n]] [.s (.t 50) [iv (j9_2.Log.length : Int)], .a ⟨iv r10_1, [[sS 1 e_u8 r10_2.l, iv r10_2.n]]⟩] (.c (c_len (e := TEntry.en) (l := j9_2.Log)) (.c (Asks.of (C := Meets Try.prog) (diwanplay_Picks_Num.meets (w64 ((j9_2.Log.length : Int) + 1)) j9_3 _ _ h10_3)) .n)) ?_
  obtain ⟨⟨r11_1, r11_2⟩, h11_3, h⟩ := bd_inv h
  obtain ⟨⟨r11_4, r11_5⟩, h11_6, h⟩ := bd_inv h
  obtain ⟨⟨r11_7, r11_8⟩, h11_9, h⟩ := bd_inv h
  obtain ⟨⟨r11_10, r11_11⟩, h11_12, h⟩ := bd_inv h
  refine kRs 124 [Ob 4 (TRaft.ob_000001000111 (TRaft.mk j9_2.Me j9_2.Nodes j9_2.Wait j9_2.Term r11_4 j9_2.Log r10_1 r11_1 r11_7 j9_2.Votes j9_2.Next j9_2.Match r11_10)), Ob 1000 [sS 1 e_u8 r11_11.l, iv r11_11.n]] [.a ⟨iv r11_1, [[sS 1 e_u8 r11_2.l, iv r11_2.n]]⟩, .a ⟨iv r11_4, [[sS 1 e_u8 r11_5.l, iv r11_5.n]]⟩, .a ⟨iv r11_7, [[sS 1 e_u8 r11_8.l, iv r11_8.n]]⟩, .a ⟨iv r11_10, [[sS 1 e_u8 r11_11.l, iv r11_11.n]]⟩] (.c (Asks.of (C := Meets Try.prog) (diwanplay_Picks_Num.meets 3 r10_2 _ _ h11_3)) (.c (Asks.of (C := Meets Try.prog) (diwanplay_Picks_Num.meets (w64 ((w64 (1 + r2_1)) + 1)) r11_2 _ _ h11_6)) (.c (Asks.of (C := Meets Try.prog) (diwanplay_Picks_Num.meets (w64 ((w64 (1 + r2_1)) + 1)) r11_5 _ _ h11_9)) (.c (Asks.of (C := Meets Try.prog) (diwanplay_Picks_Num.meets j9_2.Wait r11_8 _ _ h11_12)) (.c rT .n))))) ?_
  refine kSq ?_
  refine kRs 127 [Tm 5 (iv 0)] [] .n ?_
  refine kBk 0 ?_
  obtain ⟨o24, ho24, h⟩ := bd_inv h
  refine kUs (diwanplay_Picks_Raft.lp13_ok fu (w64 (1 + r2_1)) (TRaft.mk 0 0 0 0 0 [] 0 0 0 [] [] [] 0) _ 0 (TRaft.mk j9_2.Me j9_2.Nodes j9_2.Wait j9_2.Term r11_4 j9_2.Log r10_1 r11_1 r11_7 j9_2.Votes j9_2.Next j9_2.Match r11_10) r11_11 _ ho24) ?_
  intro e_ τ_ hp_
  obtain ⟨y24_0, y24_1⟩ := o24
  obtain ⟨rfl, rfl⟩ := hp_
  refine kCd (cR (cR (cR (cR (cR (cR (cR (cR (cR bd14))))))))) [] ?_
  refine kSq ?_
  refine kRs 31 [Tm 120 (bv (y24_0.Role == 2))] [] .n ?_
  rcases br_inv h with ⟨b26_0, h⟩ | ⟨b26_0, h⟩
  ·refine kCt b26_0 ?_
   obtain ⟨x27_1, a27_2, e27_3, h⟩ := ix_inv h
   refine kRc 46 [Ob 4 (TRaft.ob_000001000111 (TRaft.mk y24_0.Me y24_0.Nodes y24_0.Wait y24_0.Term y24_0.Vote y24_0.Log y24_0.Commit y24_0.Role y24_0.Me y24_0.Votes y24_0.Next (y24_0.Match.set (w64 (y24_0.Me - 1)).toNat (y24_0.Log.length : Int)) y24_0.Clock))] [.s (.t 130) [iv (y24_0.Log.length : Int)], .c (e_i64 x27_1), .s (.o 4) (TRaft.ob_000001000111 (TRaft.mk y24_0.Me y24_0.Nodes y24_0.Wait y24_0.Term y24_0.Vote y24_0.Log y24_0.Commit y24_0.Role y24_0.Me y24_0.Votes y24_0.Next (y24_0.Match.set (w64 (y24_0.Me - 1)).toNat (y24_0.Log.length : Int)) y24_0.Clock))] (.c (c_len (e := TEntry.en) (l := y24_0.Log)) (.c (c_ix (e := e_i64) a27_2 e27_3) (.c (c_el (e := e_i64) e27_3) (.c (congrArg (fun d : DV => (TRaft.ob_000001000111 (TRaft.mk y24_0.Me y24_0.Nodes y24_0.Wait y24_0.Term y24_0.Vote y24_0.Log y24_0.Commit y24_0.Role y24_0.Me y24_0.Votes y24_0.Next (y24_0.Match.set (w64 (y24_0.Me - 1)).toNat (y24_0.Log.length : Int)) y24_0.Clock)).set 11 (AV.data d)) (c_set (e := e_i64) (s := 1) (nl := none) (l := y24_0.Match) (i := (w64 (y24_0.Me - 1)).toNat) (x := (y24_0.Log.length : Int)))) .n)))) (cR (cR (cR (cR (cR (cR (cR (cR (cR (cR bd14)))))))))) [] ?_
   refine kRs 18 [Ob 2 (TRaft.ob_000001000111 (TRaft.mk y24_0.Me y24_0.Nodes y24_0.Wait y24_0.Term y24_0.Vote y24_0.Log y24_0.Commit y24_0.Role y24_0.Me y24_0.Votes y24_0.Next (y24_0.Match.set (w64 (y24_0.Me - 1)).toNat (y24_0.Log.length : Int)) y24_0.Clock))] [] .n ?_
   refine kRt ?_
   have h_0 := some_inj h
   obtain ⟨g_1, h_1⟩ := Prod.mk.inj h_0
   subst g_1
   subst h_1
   exact kFr
  ·refine kCe b26_0 ?_
   refine kSk ?_
   refine kCd (cR (cR (cR (cR (cR (cR (cR (cR (cR (cR bd14)))))))))) [] ?_
   refine kRs 34 [Ob 2 (TRaft.ob_000001000111 y24_0)] [] .n ?_
   refine kRt ?_
   have h_0 := some_inj h
   obtain ⟨g_1, h_1⟩ := Prod.mk.inj h_0
   subst g_1
   subst h_1
   exact kFr
 clear hk9
 refine kSq ?_
 refine kRs 127 [Tm 30 (bv (decide ((r4_4.length : Int) > 0)))] [.s (.t 29) [iv (r4_4.length : Int)]] (.c (c_len (e := TEntry.en) (l := r4_4)) .n) ?_
 rcases br_inv h with ⟨b7_0, h⟩ | ⟨b7_0, h⟩
 ·refine kCt b7_0 ?_
  obtain ⟨x8_1, a8_2, e8_3, h⟩ := ix_inv h
  obtain ⟨⟨r8_4, r8_5⟩, h8_6, h⟩ := bd_inv h
  refine kRc 248 [Ob 4 (TRaft.ob_000001000111 (TRaft.mk r3_7.Me r3_7.Nodes r3_7.Wait (if (w64 (1 + r5_1)) < (w64 (x8_1.Term + r8_4)) then (w64 (x8_1.Term + r8_4)) else (w64 (1 + r5_1))) r3_7.Vote r4_4 r3_7.Commit r3_7.Role r3_7.Leader r3_7.Votes r3_7.Next r3_7.Match r3_7.Clock)), Ob 1000 [sS 1 e_u8 r8_5.l, iv r8_5.n]] [.s (.t 37) [iv (r4_4.length : Int)], .c (TEntry.en x8_1), .a ⟨iv r8_4, [[sS 1 e_u8 r8_5.l, iv r8_5.n]]⟩] (.c (c_len (e := TEntry.en) (l := r4_4)) (.c (c_ix (e := TEntry.en) a8_2 e8_3) (.c (c_el (e := TEntry.en) e8_3) (.c (Asks.of (C := Meets Try.prog) (diwanplay_Picks_Num.meets 2 r5_2 _ _ h8_6)) (.c rT .n))))) (cR (cR (cR (cR (cR (cR bd14)))))) [] ?_
  exact kWk (Jk9 (TRaft.mk r3_7.Me r3_7.Nodes r3_7.Wait (if (w64 (1 + r5_1)) < (w64 (x8_1.Term + r8_4)) then (w64 (x8_1.Term + r8_4)) else (w64 (1 + r5_1))) r3_7.Vote r4_4 r3_7.Commit r3_7.Role r3_7.Leader r3_7.Votes r3_7.Next r3_7.Match r3_7.Clock) r8_5 h)
 ·refine kCe b7_0 ?_
  refine kSk ?_
  refine kCd (cR (cR (cR (cR (cR (cR bd14)))))) [] ?_
  exact kWk (Jk9 (TRaft.mk r3_7.Me r3_7.Nodes r3_7.Wait (w64 (1 + r5_1)) r3_7.Vote r4_4 r3_7.Commit r3_7.Role r3_7.Leader r3_7.Votes r3_7.Next r3_7.Match r3_7.Clock) r5_2 h)
def bd27 : Code := (Try.f27.body).getD .skip
def raft_Again.O : Nat → Nat := fun t => bif ([1, 2, 3, 10, 14, 17, 21] : List Nat).any (Nat.beq t) then 1 else 0
def raft_Again (fu : Nat) (r_v : TRaft) : Option TRaft :=
 bd (raft_New r_v.Me r_v.Nodes r_v.Wait) fun r2_1 =>
 bd (raft_entries fu r_v.Log) fun r3_1 =>
 some (TRaft.mk r2_1.Me r2_1.Nodes r2_1.Wait r_v.Term r_v.Vote r3_1 r2_1.Commit r2_1.Role r2_1.Leader r2_1.Votes r2_1.Next r2_1.Match r2_1.Clock)
theorem raft_Again.meets (fu : Nat) (r_v : TRaft) (z0 : TRaft) (h : raft_Again fu r_v = some z0) : Meets Try.prog ⟨27, [.data (TRaft.ag r_v)], []⟩ ⟨.data (TRaft.ag_000001000111 z0), []⟩ := by
 refine kMt hmix raft_Again.O Try.f27 bd27 1 ?_
 unfold raft_Again at h
 refine kRs 0 [Tm 1 (.ptr 1 0), Tm 2 (.ptr 2 0), Ob 1 (TRaft.ob r_v), Ob 2 (TRaft.ob_000001000111 (TRaft.mk 0 0 0 0 0 [] 0 0 0 [] [] [] 0))] [] .n ?_
 obtain ⟨r2_1, h2_2, h⟩ := bd_inv h
 refine kRs 15 [Tm 3 (.ptr 3 0), Ob 3 (TRaft.ob_000001000111 r2_1)] [.a ⟨.data (TRaft.ag_000001000111 r2_1), []⟩] (.c (Asks.of (C := Meets Try.prog) (raft_New.meets r_v.Me r_v.Nodes r_v.Wait _ h2_2)) .n) ?_
 obtain ⟨r3_1, h3_2, h⟩ := bd_inv h
 refine kRs 41 [Ob 3 (TRaft.ob_000001000111 (TRaft.mk r2_1.Me r2_1.Nodes r2_1.Wait r_v.Term r_v.Vote r3_1 r2_1.Commit r2_1.Role r2_1.Leader r2_1.Votes r2_1.Next r2_1.Match r2_1.Clock))] [.a ⟨sO 6 TEntry.en r3_1, []⟩] (.c (Asks.of (C := Meets Try.prog) (raft_entries.meets fu r_v.Log _ h3_2)) (.c rT .n)) ?_
 refine kRs 4 [Ob 2 (TRaft.ob_000001000111 (TRaft.mk r2_1.Me r2_1.Nodes r2_1.Wait r_v.Term r_v.Vote r3_1 r2_1.Commit r2_1.Role r2_1.Leader r2_1.Votes r2_1.Next r2_1.Match r2_1.Clock))] [] .n ?_
 refine kRt ?_
 have h_ := some_inj h
 subst h_
 exact kFr
def bd28 : Code := (Try.f28.body).getD .skip
def diwanref11_Again.O : Nat → Nat := fun t => bif ([1, 2, 3, 10, 14, 15, 18, 22] : List Nat).any (Nat.beq t) then 1 else 0
def diwanref11_Again (r_v : TRaft) : Option TRaft :=
 bd (diwanref11_New r_v.Me r_v.Nodes r_v.Wait) fun r2_1 =>
 gd (decide (([] : List TEntry).length + r_v.Log.length ≤ 4294967296)) <|
 some (TRaft.mk r2_1.Me r2_1.Nodes r2_1.Wait r_v.Term r_v.Vote r_v.Log r2_1.Commit r2_1.Role r2_1.Leader r2_1.Votes r2_1.Next r2_1.Match r2_1.Clock)
theorem diwanref11_Again.meets (r_v : TRaft) (z0 : TRaft) (h : diwanref11_Again r_v = some z0) : Meets Try.prog ⟨28, [.data (TRaft.ag r_v)], []⟩ ⟨.data (TRaft.ag_000001000111 z0), []⟩ := by
 refine kMt hmix diwanref11_Again.O Try.f28 bd28 1 ?_
 unfold diwanref11_Again at h
 refine kRs 0 [Tm 1 (.ptr 1 0), Tm 2 (.ptr 2 0), Ob 1 (TRaft.ob r_v), Ob 2 (TRaft.ob_000001000111 (TRaft.mk 0 0 0 0 0 [] 0 0 0 [] [] [] 0))] [] .n ?_
 obtain ⟨r2_1, h2_2, h⟩ := bd_inv h
 refine kRs 15 [Tm 3 (.ptr 3 0), Ob 3 (TRaft.ob_000001000111 r2_1)] [.a ⟨.data (TRaft.ag_000001000111 r2_1), []⟩] (.c (Asks.of (C := Meets Try.prog) (diwanref11_New.meets r_v.Me r_v.Nodes r_v.Wait _ h2_2)) .n) ?_
 obtain ⟨c3_1, h⟩ := gd_inv h
 refine kRs 41 [Ob 3 (TRaft.ob_000001000111 (TRaft.mk r2_1.Me r2_1.Nodes r2_1.Wait r_v.Term r_v.Vote r_v.Log r2_1.Commit r2_1.Role r2_1.Leader r2_1.Votes r2_1.Next r2_1.Match r2_1.Clock))] [] (.c (c_al (e := TEntry.en) (f := TEntry.en) c3_1) (.c rT .n)) ?_
 refine kRs 4 [Ob 2 (TRaft.ob_000001000111 (TRaft.mk r2_1.Me r2_1.Nodes r2_1.Wait r_v.Term r_v.Vote r_v.Log r2_1.Commit r2_1.Role r2_1.Leader r2_1.Votes r2_1.Next r2_1.Match r2_1.Clock))] [] .n ?_
 refine kRt ?_
 have h_ := some_inj h
 subst h_
 exact kFr
def bd92 : Code := (Try.f92.body).getD .skip
def diwanref1_SameReads.O : Nat → Nat := fun t => bif ([4, 5] : List Nat).any (Nat.beq t) then 1 else 0
def diwanref1_SameReads.lp6 (fu : Nat) (l6_0 : List TRead) (l6_1 : List TRead) : Nat → Int → Option (Unit ⊕ Unit)
  | 0, _ => none
  | n_ + 1, l6_2 =>
  br (decide (l6_2 < (l6_0.length : Int)))
   (ix l6_0 l6_2 fun x9_1 =>
   ix l6_1 l6_2 fun x9_4 =>
   br (!((x9_1.Key.toList == x9_4.Key.toList) && ((x9_1.Version == x9_4.Version) && ((x9_1.Val.toList == x9_4.Val.toList) && ((x9_1.There == x9_4.There) && true)))))
    (some (.inr ()))
    (diwanref1_SameReads.lp6 fu l6_0 l6_1 n_ (w64 (l6_2 + 1))))
   (some (.inl ()))
def diwanref1_SameReads.lp6_post (l6_0 : List TRead) (l6_1 : List TRead) (r_ : (Unit ⊕ Unit)) : Wy → St → Prop := fun e τ => match r_ with
  | .inl _ => e = .exit 0 ∧ τ = ofL []
  | .inr _ => e = .ret ∧ τ = ofL [Tm 4 (bv false)]
theorem diwanref1_SameReads.lp6_ok (fu : Nat) (l6_0 : List TRead) (l6_1 : List TRead) : ∀ (n_ : Nat) (l6_2 : Int) (r_ : (Unit ⊕ Unit)), diwanref1_SameReads.lp6 fu l6_0 l6_1 n_ l6_2 = some r_ → WK Try.prog diwanref1_SameReads.O (Ck Try.prog) (cB (cR (cL (cR (cR bd92))))) [] (ofL [Tm 0 (sS 4 TRead.en l6_0), Tm 1 (sS 4 TRead.en l6_1), Tm 5 (iv l6_2)]) (diwanref1_SameReads.lp6_post l6_0 l6_1 r_) := by
 intro n_
 induction n_ with
 | zero => intro l6_2 r_ h; exact no_none h
 | succ n_ ih =>
  intro l6_2 r_ h
  refine kLp ?_
  refine kSq ?_
  refine kRs 7 [Tm 14 (bv (decide (l6_2 < (l6_0.length : Int))))] [.s (.t 13) [iv (l6_0.length : Int)]] (.c (c_len (e := TRead.en) (l := l6_0)) .n) ?_
  rcases br_inv h with ⟨b8_0, h⟩ | ⟨b8_0, h⟩
  ·refine kCt b8_0 ?_
   refine kSk ?_
   refine kCd (cR (cB (cB (cR (cL (cR (cR bd92))))))) [.lp (cB (cR (cL (cR (cR bd92)))))] ?_
   refine kSq ?_
   refine kBk 1 ?_
   obtain ⟨x9_1, a9_2, e9_3, h⟩ := ix_inv h
   obtain ⟨x9_4, a9_5, e9_6, h⟩ := ix_inv h
   refine kRs 14 [Tm 25 (bv (!((x9_1.Key.toList == x9_4.Key.toList) && ((x9_1.Version == x9_4.Version) && ((x9_1.Val.toList == x9_4.Val.toList) && ((x9_1.There == x9_4.There) && true))))))] [.c (TRead.en x9_1), .c (TRead.en x9_4)] (.c (c_ix (e := TRead.en) a9_2 e9_3) (.c (c_el (e := TRead.en) e9_3) (.c (c_ix (e := TRead.en) a9_5 e9_6) (.c (c_el (e := TRead.en) e9_6) (.c rT .n))))) ?_
   rcases br_inv h with ⟨b10_0, h⟩ | ⟨b10_0, h⟩
   ·refine kCt b10_0 ?_
    refine kRs 0 [Tm 4 (bv false)] [] .n ?_
    cases some_inj h
    refine kWo ?_
    refine kRt ?_
    exact kOut
   ·refine kCe b10_0 ?_
    refine kSk ?_
    refine kCd (cR (cR (cB (cB (cR (cL (cR (cR bd92)))))))) [.lp (cB (cR (cL (cR (cR bd92)))))] ?_
    refine kRc 6 [Tm 5 (iv (w64 (l6_2 + 1)))] [] .n (cB (cR (cL (cR (cR bd92))))) [] ?_
    exact kWk (ih (w64 (l6_2 + 1)) _ h)
  ·refine kCe b8_0 ?_
   cases some_inj h
   refine kWo ?_
   refine kXt 0 ?_
   exact kOut
def diwanref1_SameReads (fu : Nat) (a : List TRead) (b : List TRead) : Option Bool :=
 br ((a.length : Int) != (b.length : Int))
  (some false)
  (bd (diwanref1_SameReads.lp6 fu a b fu 0) fun o_ => (match o_ with
  | .inl _ =>
   some true
  | .inr _ =>
   some false))
theorem diwanref1_SameReads.meets (fu : Nat) (a : List TRead) (b : List TRead) (z0 : Bool) (h : diwanref1_SameReads fu a b = some z0) : Meets Try.prog ⟨92, [sS 4 TRead.en a, sS 4 TRead.en b], []⟩ ⟨bv z0, []⟩ := by
 refine kMt hmix diwanref1_SameReads.O Try.f92 bd92 3 ?_
 unfold diwanref1_SameReads at h
 refine kRs 3 [] [] .n ?_
 refine kSq ?_
 refine kRs 3 [Tm 10 (bv ((a.length : Int) != (b.length : Int)))] [.s (.t 7) [iv (a.length : Int)], .s (.t 9) [iv (b.length : Int)]] (.c (c_len (e := TRead.en) (l := a)) (.c (c_len (e := TRead.en) (l := b)) .n)) ?_
 rcases br_inv h with ⟨b3_0, h⟩ | ⟨b3_0, h⟩
 ·refine kCt b3_0 ?_
  refine kRs 0 [Tm 4 (bv false)] [] .n ?_
  refine kRt ?_
  have h_ := some_inj h
  subst h_
  exact kFr
 ·refine kCe b3_0 ?_
  refine kSk ?_
  refine kCd (cR (cR bd92)) [] ?_
  refine kSq ?_
  refine kRs 6 [Tm 5 (iv 0)] [] .n ?_
  refine kBk 0 ?_
  obtain ⟨o13, ho13, h⟩ := bd_inv h
  refine kUs (diwanref1_SameReads.lp6_ok fu a b _ 0 _ ho13) ?_
  intro e_ τ_ hp_
  rcases o13 with o13 | o13
  ·obtain ⟨⟩ := o13
   obtain ⟨rfl, rfl⟩ := hp_
   refine kCd (cR (cR (cR bd92))) [] ?_
   refine kRs 0 [Tm 4 (bv true)] [] .n ?_
   refine kRt ?_
   have h_ := some_inj h
   subst h_
   exact kFr
  ·obtain ⟨⟩ := o13
   obtain ⟨rfl, rfl⟩ := hp_
   have h_ := some_inj h
   subst h_
   exact kFr
def bd91 : Code := (Try.f91.body).getD .skip
def diwanref1_SameTxn.O : Nat → Nat := fun t => bif ([2, 3, 4, 5] : List Nat).any (Nat.beq t) then 1 else 0
def diwanref1_SameTxn.lp9 (fu : Nat) (l9_1 : TTxn) (l9_2 : TTxn) : Nat → Int → Option (Unit ⊕ Unit)
  | 0, _ => none
  | n_ + 1, l9_0 =>
  br (decide (l9_0 < (l9_1.Writes.length : Int)))
   (ix l9_1.Writes l9_0 fun x12_1 =>
   ix l9_2.Writes l9_0 fun x12_4 =>
   br (!((x12_1.Key.toList == x12_4.Key.toList) && ((x12_1.Val.toList == x12_4.Val.toList) && ((x12_1.Gone == x12_4.Gone) && true))))
    (some (.inr ()))
    (diwanref1_SameTxn.lp9 fu l9_1 l9_2 n_ (w64 (l9_0 + 1))))
   (some (.inl ()))
def diwanref1_SameTxn.lp9_post (l9_1 : TTxn) (l9_2 : TTxn) (r_ : (Unit ⊕ Unit)) : Wy → St → Prop := fun e τ => match r_ with
  | .inl _ => e = .exit 0 ∧ τ = ofL []
  | .inr _ => e = .ret ∧ τ = ofL [Tm 4 (bv false)]
theorem diwanref1_SameTxn.lp9_ok (fu : Nat) (l9_1 : TTxn) (l9_2 : TTxn) : ∀ (n_ : Nat) (l9_0 : Int) (r_ : (Unit ⊕ Unit)), diwanref1_SameTxn.lp9 fu l9_1 l9_2 n_ l9_0 = some r_ → WK Try.prog diwanref1_SameTxn.O (Ck Try.prog) (cB (cR (cL (cR (cR bd91))))) [] (ofL [Tm 2 (.ptr 2 0), Tm 3 (.ptr 3 0), Tm 5 (iv l9_0), Ob 2 (TTxn.ob l9_1), Ob 3 (TTxn.ob l9_2)]) (diwanref1_SameTxn.lp9_post l9_1 l9_2 r_) := by
 intro n_
 induction n_ with
 | zero => intro l9_0 r_ h; exact no_none h
 | succ n_ ih =>
  intro l9_0 r_ h
  refine kLp ?_
  refine kSq ?_
  refine kRs 31 [Tm 39 (bv (decide (l9_0 < (l9_1.Writes.length : Int))))] [.s (.t 38) [iv (l9_1.Writes.length : Int)]] (.c (c_len (e := TWrite.en) (l := l9_1.Writes)) .n) ?_
  rcases br_inv h with ⟨b11_0, h⟩ | ⟨b11_0, h⟩
  ·refine kCt b11_0 ?_
   refine kSk ?_
   refine kCd (cR (cB (cB (cR (cL (cR (cR bd91))))))) [.lp (cB (cR (cL (cR (cR bd91)))))] ?_
   refine kSq ?_
   refine kBk 1 ?_
   obtain ⟨x12_1, a12_2, e12_3, h⟩ := ix_inv h
   obtain ⟨x12_4, a12_5, e12_6, h⟩ := ix_inv h
   refine kRs 62 [Tm 52 (bv (!((x12_1.Key.toList == x12_4.Key.toList) && ((x12_1.Val.toList == x12_4.Val.toList) && ((x12_1.Gone == x12_4.Gone) && true)))))] [.c (TWrite.en x12_1), .c (TWrite.en x12_4)] (.c (c_ix (e := TWrite.en) a12_2 e12_3) (.c (c_el (e := TWrite.en) e12_3) (.c (c_ix (e := TWrite.en) a12_5 e12_6) (.c (c_el (e := TWrite.en) e12_6) (.c rT .n))))) ?_
   rcases br_inv h with ⟨b13_0, h⟩ | ⟨b13_0, h⟩
   ·refine kCt b13_0 ?_
    refine kRs 0 [Tm 4 (bv false)] [] .n ?_
    cases some_inj h
    refine kWo ?_
    refine kRt ?_
    exact kOut
   ·refine kCe b13_0 ?_
    refine kSk ?_
    refine kCd (cR (cR (cB (cB (cR (cL (cR (cR bd91)))))))) [.lp (cB (cR (cL (cR (cR bd91)))))] ?_
    refine kRc 54 [Tm 5 (iv (w64 (l9_0 + 1)))] [] .n (cB (cR (cL (cR (cR bd91))))) [] ?_
    exact kWk (ih (w64 (l9_0 + 1)) _ h)
  ·refine kCe b11_0 ?_
   cases some_inj h
   refine kWo ?_
   refine kXt 0 ?_
   exact kOut
def diwanref1_SameTxn (fu : Nat) (a : TTxn) (b : TTxn) : Option Bool :=
 br (a.Session != b.Session)
  (some false)
  (br (a.Seq != b.Seq)
   (some false)
   (br ((a.Writes.length : Int) != (b.Writes.length : Int))
    (some false)
    (bd (diwanref1_SameReads fu a.Reads b.Reads) fun r2_4 =>
    br (!r2_4)
     (some false)
     (bd (diwanref1_SameTxn.lp9 fu a b fu 0) fun o_ => (match o_ with
     | .inl _ =>
      some true
     | .inr _ =>
      some false)))))
theorem diwanref1_SameTxn.meets (fu : Nat) (a : TTxn) (b : TTxn) (z0 : Bool) (h : diwanref1_SameTxn fu a b = some z0) : Meets Try.prog ⟨91, [.data (TTxn.ag a), .data (TTxn.ag b)], []⟩ ⟨bv z0, []⟩ := by
 refine kMt hmix diwanref1_SameTxn.O Try.f91 bd91 3 ?_
 unfold diwanref1_SameTxn at h
 refine kRs 0 [Tm 2 (.ptr 2 0), Tm 3 (.ptr 3 0), Ob 2 (TTxn.ob a), Ob 3 (TTxn.ob b)] [] .n ?_
 refine kSq ?_
 rcases br_inv h with ⟨b2_1, h⟩ | ⟨b2_1, h⟩
 ·refine kRs 15 [Tm 34 (bv true)] (rp 21 (.b true) []) (.r 6 b2_1 (.r 15 rT .n)) ?_
  refine kCt rT ?_
  refine kRs 0 [Tm 4 (bv false)] [] .n ?_
  refine kRt ?_
  have h_ := some_inj h
  subst h_
  exact kFr
 ·rcases br_inv h with ⟨b2_2, h⟩ | ⟨b2_2, h⟩
  ·refine kRs 15 [Tm 34 (bv true)] (rp 6 (.b false) (rp 15 (.b true) [])) (.r 6 b2_1 (.r 8 b2_2 (.r 7 rT .n))) ?_
   refine kCt rT ?_
   refine kRs 0 [Tm 4 (bv false)] [] .n ?_
   refine kRt ?_
   have h_ := some_inj h
   subst h_
   exact kFr
  ·rcases br_inv h with ⟨b2_3, h⟩ | ⟨b2_3, h⟩
   ·refine kRs 15 [Tm 34 (bv true)] (rp 9 (.b false) (.s (.t 21) [iv (a.Writes.length : Int)] :: (.b false :: (.b false :: (.b false :: (.s (.t 24) [iv (b.Writes.length : Int)] :: (.b false :: (.b false :: (rp 7 (.b true) []))))))))) (.r 6 b2_1 (.r 3 b2_2 (.c (c_len (e := TWrite.en) (l := a.Writes)) (.r 3 b2_2 (.c (c_len (e := TWrite.en) (l := b.Writes)) (.r 2 b2_2 (.r 7 b2_3 .n))))))) ?_
    refine kCt rT ?_
    refine kRs 0 [Tm 4 (bv false)] [] .n ?_
    refine kRt ?_
    have h_ := some_inj h
    subst h_
    exact kFr
   ·obtain ⟨r2_4, h2_5, h⟩ := bd_inv h
    refine kRs 15 [Tm 34 (bv (!r2_4))] (rp 9 (.b false) (.s (.t 21) [iv (a.Writes.length : Int)] :: (.b false :: (.b false :: (.b false :: (.s (.t 24) [iv (b.Writes.length : Int)] :: (rp 7 (.b false) [.a ⟨bv r2_4, []⟩, .b false, .b false]))))))) (.r 6 b2_1 (.r 3 b2_2 (.c (c_len (e := TWrite.en) (l := a.Writes)) (.r 3 b2_2 (.c (c_len (e := TWrite.en) (l := b.Writes)) (.r 2 b2_2 (.r 5 b2_3 (.c (Asks.of (C := Meets Try.prog) (diwanref1_SameReads.meets fu a.Reads b.Reads _ h2_5)) (.r 2 b2_3 .n))))))))) ?_
    rcases br_inv h with ⟨b6_0, h⟩ | ⟨b6_0, h⟩
    ·refine kCt b6_0 ?_
     refine kRs 0 [Tm 4 (bv false)] [] .n ?_
     refine kRt ?_
     have h_ := some_inj h
     subst h_
     exact kFr
    ·refine kCe b6_0 ?_
     refine kSk ?_
     refine kCd (cR (cR bd91)) [] ?_
     refine kSq ?_
     refine kRs 30 [Tm 5 (iv 0)] [] .n ?_
     refine kBk 0 ?_
     obtain ⟨o16, ho16, h⟩ := bd_inv h
     refine kUs (diwanref1_SameTxn.lp9_ok fu a b _ 0 _ ho16) ?_
     intro e_ τ_ hp_
     rcases o16 with o16 | o16
     ·obtain ⟨⟩ := o16
      obtain ⟨rfl, rfl⟩ := hp_
      refine kCd (cR (cR (cR bd91))) [] ?_
      refine kRs 0 [Tm 4 (bv true)] [] .n ?_
      refine kRt ?_
      have h_ := some_inj h
      subst h_
      exact kFr
     ·obtain ⟨⟩ := o16
      obtain ⟨rfl, rfl⟩ := hp_
      have h_ := some_inj h
      subst h_
      exact kFr
def bd68 : Code := (Try.f68.body).getD .skip
def diwanref1_SameEntry.O : Nat → Nat := fun t => bif ([2, 3, 4] : List Nat).any (Nat.beq t) then 1 else 0
def diwanref1_SameEntry (fu : Nat) (a : TEntry) (b : TEntry) : Option Bool :=
 br (a.Term == b.Term)
  (br (a.Seal == b.Seal)
   (bd (diwanref1_SameTxn fu a.T b.T) fun r2_3 =>
   some r2_3)
   (some false))
  (some false)
theorem diwanref1_SameEntry.meets (fu : Nat) (a : TEntry) (b : TEntry) (z0 : Bool) (h : diwanref1_SameEntry fu a b = some z0) : Meets Try.prog ⟨68, [.data (TEntry.ag a), .data (TEntry.ag b)], []⟩ ⟨bv z0, []⟩ := by
 refine kMt hmix diwanref1_SameEntry.O Try.f68 bd68 3 ?_
 unfold diwanref1_SameEntry at h
 refine kRs 0 [Tm 2 (.ptr 2 0), Tm 3 (.ptr 3 0), Ob 2 (TEntry.ob a), Ob 3 (TEntry.ob b)] [] .n ?_
 rcases br_inv h with ⟨b2_1, h⟩ | ⟨b2_1, h⟩
 ·rcases br_inv h with ⟨b2_2, h⟩ | ⟨b2_2, h⟩
  ·obtain ⟨r2_3, h2_4, h⟩ := bd_inv h
   refine kRs 0 [Tm 4 (bv r2_3)] (rp 11 (.b true) [.a ⟨bv r2_3, []⟩, .b true]) (.r 6 b2_1 (.r 5 b2_2 (.c (Asks.of (C := Meets Try.prog) (diwanref1_SameTxn.meets fu a.T b.T _ h2_4)) (.c b2_2 .n)))) ?_
   refine kRt ?_
   have h_ := some_inj h
   subst h_
   exact kFr
  ·refine kRs 0 [Tm 4 (bv false)] (rp 6 (.b true) (rp 6 (.b false) [])) (.r 6 b2_1 (.r 6 b2_2 .n)) ?_
   refine kRt ?_
   have h_ := some_inj h
   subst h_
   exact kFr
 ·refine kRs 0 [Tm 4 (bv false)] (rp 12 (.b false) []) (.r 6 b2_1 (.r 6 rF .n)) ?_
  refine kRt ?_
  have h_ := some_inj h
  subst h_
  exact kFr
def bd38 : Code := (Try.f38.body).getD .skip
def diwanref1_SameEntries.O : Nat → Nat := fun t => bif ([4, 5] : List Nat).any (Nat.beq t) then 1 else 0
def diwanref1_SameEntries.lp6 (fu : Nat) (l6_0 : List TEntry) (l6_1 : List TEntry) : Nat → Int → Option (Unit ⊕ Unit)
  | 0, _ => none
  | n_ + 1, l6_2 =>
  br (decide (l6_2 < (l6_0.length : Int)))
   (ix l6_0 l6_2 fun x9_1 =>
   ix l6_1 l6_2 fun x9_4 =>
   bd (diwanref1_SameEntry fu x9_1 x9_4) fun r9_7 =>
   br (!r9_7)
    (some (.inr ()))
    (diwanref1_SameEntries.lp6 fu l6_0 l6_1 n_ (w64 (l6_2 + 1))))
   (some (.inl ()))
def diwanref1_SameEntries.lp6_post (l6_0 : List TEntry) (l6_1 : List TEntry) (r_ : (Unit ⊕ Unit)) : Wy → St → Prop := fun e τ => match r_ with
  | .inl _ => e = .exit 0 ∧ τ = ofL []
  | .inr _ => e = .ret ∧ τ = ofL [Tm 4 (bv false)]
theorem diwanref1_SameEntries.lp6_ok (fu : Nat) (l6_0 : List TEntry) (l6_1 : List TEntry) : ∀ (n_ : Nat) (l6_2 : Int) (r_ : (Unit ⊕ Unit)), diwanref1_SameEntries.lp6 fu l6_0 l6_1 n_ l6_2 = some r_ → WK Try.prog diwanref1_SameEntries.O (Ck Try.prog) (cB (cR (cL (cR (cR bd38))))) [] (ofL [Tm 0 (sS 6 TEntry.en l6_0), Tm 1 (sS 6 TEntry.en l6_1), Tm 5 (iv l6_2)]) (diwanref1_SameEntries.lp6_post l6_0 l6_1 r_) := by
 intro n_
 induction n_ with
 | zero => intro l6_2 r_ h; exact no_none h
 | succ n_ ih =>
  intro l6_2 r_ h
  refine kLp ?_
  refine kSq ?_
  refine kRs 7 [Tm 14 (bv (decide (l6_2 < (l6_0.length : Int))))] [.s (.t 13) [iv (l6_0.length : Int)]] (.c (c_len (e := TEntry.en) (l := l6_0)) .n) ?_
  rcases br_inv h with ⟨b8_0, h⟩ | ⟨b8_0, h⟩
  ·refine kCt b8_0 ?_
   refine kSk ?_
   refine kCd (cR (cB (cB (cR (cL (cR (cR bd38))))))) [.lp (cB (cR (cL (cR (cR bd38)))))] ?_
   refine kSq ?_
   refine kBk 1 ?_
   obtain ⟨x9_1, a9_2, e9_3, h⟩ := ix_inv h
   obtain ⟨x9_4, a9_5, e9_6, h⟩ := ix_inv h
   obtain ⟨r9_7, h9_8, h⟩ := bd_inv h
   refine kRs 14 [Tm 26 (bv (!r9_7))] [.c (TEntry.en x9_1), .c (TEntry.en x9_4), .a ⟨bv r9_7, []⟩] (.c (c_ix (e := TEntry.en) a9_2 e9_3) (.c (c_el (e := TEntry.en) e9_3) (.c (c_ix (e := TEntry.en) a9_5 e9_6) (.c (c_el (e := TEntry.en) e9_6) (.c (Asks.of (C := Meets Try.prog) (diwanref1_SameEntry.meets fu x9_1 x9_4 _ h9_8)) (.c rT .n)))))) ?_
   rcases br_inv h with ⟨b10_0, h⟩ | ⟨b10_0, h⟩
   ·refine kCt b10_0 ?_
    refine kRs 0 [Tm 4 (bv false)] [] .n ?_
    cases some_inj h
    refine kWo ?_
    refine kRt ?_
    exact kOut
   ·refine kCe b10_0 ?_
    refine kSk ?_
    refine kCd (cR (cR (cB (cB (cR (cL (cR (cR bd38)))))))) [.lp (cB (cR (cL (cR (cR bd38)))))] ?_
    refine kRc 6 [Tm 5 (iv (w64 (l6_2 + 1)))] [] .n (cB (cR (cL (cR (cR bd38))))) [] ?_
    exact kWk (ih (w64 (l6_2 + 1)) _ h)
  ·refine kCe b8_0 ?_
   cases some_inj h
   refine kWo ?_
   refine kXt 0 ?_
   exact kOut
def diwanref1_SameEntries (fu : Nat) (a : List TEntry) (b : List TEntry) : Option Bool :=
 br ((a.length : Int) != (b.length : Int))
  (some false)
  (bd (diwanref1_SameEntries.lp6 fu a b fu 0) fun o_ => (match o_ with
  | .inl _ =>
   some true
  | .inr _ =>
   some false))
theorem diwanref1_SameEntries.meets (fu : Nat) (a : List TEntry) (b : List TEntry) (z0 : Bool) (h : diwanref1_SameEntries fu a b = some z0) : Meets Try.prog ⟨38, [sS 6 TEntry.en a, sS 6 TEntry.en b], []⟩ ⟨bv z0, []⟩ := by
 refine kMt hmix diwanref1_SameEntries.O Try.f38 bd38 3 ?_
 unfold diwanref1_SameEntries at h
 refine kRs 3 [] [] .n ?_
 refine kSq ?_
 refine kRs 3 [Tm 10 (bv ((a.length : Int) != (b.length : Int)))] [.s (.t 7) [iv (a.length : Int)], .s (.t 9) [iv (b.length : Int)]] (.c (c_len (e := TEntry.en) (l := a)) (.c (c_len (e := TEntry.en) (l := b)) .n)) ?_
 rcases br_inv h with ⟨b3_0, h⟩ | ⟨b3_0, h⟩
 ·refine kCt b3_0 ?_
  refine kRs 0 [Tm 4 (bv false)] [] .n ?_
  refine kRt ?_
  have h_ := some_inj h
  subst h_
  exact kFr
 ·refine kCe b3_0 ?_
  refine kSk ?_
  refine kCd (cR (cR bd38)) [] ?_
  refine kSq ?_
  refine kRs 6 [Tm 5 (iv 0)] [] .n ?_
  refine kBk 0 ?_
  obtain ⟨o13, ho13, h⟩ := bd_inv h
  refine kUs (diwanref1_SameEntries.lp6_ok fu a b _ 0 _ ho13) ?_
  intro e_ τ_ hp_
  rcases o13 with o13 | o13
  ·obtain ⟨⟩ := o13
   obtain ⟨rfl, rfl⟩ := hp_
   refine kCd (cR (cR (cR bd38))) [] ?_
   refine kRs 0 [Tm 4 (bv true)] [] .n ?_
   refine kRt ?_
   have h_ := some_inj h
   subst h_
   exact kFr
  ·obtain ⟨⟩ := o13
   obtain ⟨rfl, rfl⟩ := hp_
   have h_ := some_inj h
   subst h_
   exact kFr
def bd19 : Code := (Try.f19.body).getD .skip
def diwanref11_Same.O : Nat → Nat := fun t => bif ([2, 3, 4, 5, 6, 7] : List Nat).any (Nat.beq t) then 1 else 0
def diwanref11_Same.lp18 (fu : Nat) (l18_1 : TRaft) (l18_2 : TRaft) : Nat → Int → Option (Unit ⊕ Unit)
  | 0, _ => none
  | n_ + 1, l18_0 =>
  br (decide (l18_0 < (l18_1.Votes.length : Int)))
   (ix l18_1.Votes l18_0 fun x21_1 =>
   ix l18_2.Votes l18_0 fun x21_4 =>
   br (!(x21_1 == x21_4))
    (some (.inr ()))
    (diwanref11_Same.lp18 fu l18_1 l18_2 n_ (w64 (l18_0 + 1))))
   (some (.inl ()))
def diwanref11_Same.lp18_post (l18_1 : TRaft) (l18_2 : TRaft) (r_ : (Unit ⊕ Unit)) : Wy → St → Prop := fun e τ => match r_ with
  | .inl _ => e = .exit 0 ∧ τ = ofL [Tm 2 (.ptr 2 0), Tm 3 (.ptr 3 0), Ob 2 (TRaft.ob l18_1), Ob 3 (TRaft.ob l18_2)]
  | .inr _ => e = .ret ∧ τ = ofL [Tm 4 (bv false)]
theorem diwanref11_Same.lp18_ok (fu : Nat) (l18_1 : TRaft) (l18_2 : TRaft) : ∀ (n_ : Nat) (l18_0 : Int) (r_ : (Unit ⊕ Unit)), diwanref11_Same.lp18 fu l18_1 l18_2 n_ l18_0 = some r_ → WK Try.prog diwanref11_Same.O (Ck Try.prog) (cB (cR (cL (cR (cR bd19))))) [] (ofL [Tm 2 (.ptr 2 0), Tm 3 (.ptr 3 0), Tm 5 (iv l18_0), Ob 2 (TRaft.ob l18_1), Ob 3 (TRaft.ob l18_2)]) (diwanref11_Same.lp18_post l18_1 l18_2 r_) := by
 intro n_
 induction n_ with
 | zero => intro l18_0 r_ h; exact no_none h
 | succ n_ ih =>
  intro l18_0 r_ h
  refine kLp ?_
  refine kSq ?_
  refine kRs 31 [Tm 108 (bv (decide (l18_0 < (l18_1.Votes.length : Int))))] [.s (.t 107) [iv (l18_1.Votes.length : Int)]] (.c (c_len (e := e_b) (l := l18_1.Votes)) .n) ?_
  rcases br_inv h with ⟨b20_0, h⟩ | ⟨b20_0, h⟩
  ·refine kCt b20_0 ?_
   refine kSk ?_
   refine kCd (cR (cB (cB (cR (cL (cR (cR bd19))))))) [.lp (cB (cR (cL (cR (cR bd19)))))] ?_
   refine kSq ?_
   refine kBk 1 ?_
   obtain ⟨x21_1, a21_2, e21_3, h⟩ := ix_inv h
   obtain ⟨x21_4, a21_5, e21_6, h⟩ := ix_inv h
   refine kRs 62 [Tm 121 (bv (!(x21_1 == x21_4)))] [.c (e_b x21_1), .c (e_b x21_4)] (.c (c_ix (e := e_b) a21_2 e21_3) (.c (c_el (e := e_b) e21_3) (.c (c_ix (e := e_b) a21_5 e21_6) (.c (c_el (e := e_b) e21_6) (.c rT .n))))) ?_
   rcases br_inv h with ⟨b22_0, h⟩ | ⟨b22_0, h⟩
   ·refine kCt b22_0 ?_
    refine kRs 0 [Tm 4 (bv false)] [] .n ?_
    cases some_inj h
    refine kWo ?_
    refine kRt ?_
    exact kOut
   ·refine kCe b22_0 ?_
    refine kSk ?_
    refine kCd (cR (cR (cB (cB (cR (cL (cR (cR bd19)))))))) [.lp (cB (cR (cL (cR (cR bd19)))))] ?_
    refine kRc 54 [Tm 5 (iv (w64 (l18_0 + 1)))] [] .n (cB (cR (cL (cR (cR bd19))))) [] ?_
    exact kWk (ih (w64 (l18_0 + 1)) _ h)
  ·refine kCe b20_0 ?_
   cases some_inj h
   refine kWo ?_
   refine kXt 0 ?_
   exact kOut
def diwanref11_Same.lp27 (fu : Nat) (l27_1 : TRaft) (l27_2 : TRaft) : Nat → Int → Option (Unit ⊕ Unit)
  | 0, _ => none
  | n_ + 1, l27_0 =>
  br (decide (l27_0 < (l27_1.Next.length : Int)))
   (ix l27_1.Next l27_0 fun x30_1 =>
   ix l27_2.Next l27_0 fun x30_4 =>
   br (x30_1 != x30_4)
    (some (.inr ()))
    (diwanref11_Same.lp27 fu l27_1 l27_2 n_ (w64 (l27_0 + 1))))
   (some (.inl ()))
def diwanref11_Same.lp27_post (l27_1 : TRaft) (l27_2 : TRaft) (r_ : (Unit ⊕ Unit)) : Wy → St → Prop := fun e τ => match r_ with
  | .inl _ => e = .exit 2 ∧ τ = ofL [Tm 2 (.ptr 2 0), Tm 3 (.ptr 3 0), Ob 2 (TRaft.ob l27_1), Ob 3 (TRaft.ob l27_2)]
  | .inr _ => e = .ret ∧ τ = ofL [Tm 4 (bv false)]
theorem diwanref11_Same.lp27_ok (fu : Nat) (l27_1 : TRaft) (l27_2 : TRaft) : ∀ (n_ : Nat) (l27_0 : Int) (r_ : (Unit ⊕ Unit)), diwanref11_Same.lp27 fu l27_1 l27_2 n_ l27_0 = some r_ → WK Try.prog diwanref11_Same.O (Ck Try.prog) (cB (cR (cL (cR (cR (cR bd19)))))) [] (ofL [Tm 2 (.ptr 2 0), Tm 3 (.ptr 3 0), Tm 6 (iv l27_0), Ob 2 (TRaft.ob l27_1), Ob 3 (TRaft.ob l27_2)]) (diwanref11_Same.lp27_post l27_1 l27_2 r_) := by
 intro n_
 induction n_ with
 | zero => intro l27_0 r_ h; exact no_none h
 | succ n_ ih =>
  intro l27_0 r_ h
  refine kLp ?_
  refine kSq ?_
  refine kRs 31 [Tm 126 (bv (decide (l27_0 < (l27_1.Next.length : Int))))] [.s (.t 125) [iv (l27_1.Next.length : Int)]] (.c (c_len (e := e_i64) (l := l27_1.Next)) .n) ?_
  rcases br_inv h with ⟨b29_0, h⟩ | ⟨b29_0, h⟩
  ·refine kCt b29_0 ?_
   refine kSk ?_
   refine kCd (cR (cB (cB (cR (cL (cR (cR (cR bd19)))))))) [.lp (cB (cR (cL (cR (cR (cR bd19))))))] ?_
   refine kSq ?_
   refine kBk 3 ?_
   obtain ⟨x30_1, a30_2, e30_3, h⟩ := ix_inv h
   obtain ⟨x30_4, a30_5, e30_6, h⟩ := ix_inv h
   refine kRs 62 [Tm 139 (bv (x30_1 != x30_4))] [.c (e_i64 x30_1), .c (e_i64 x30_4)] (.c (c_ix (e := e_i64) a30_2 e30_3) (.c (c_el (e := e_i64) e30_3) (.c (c_ix (e := e_i64) a30_5 e30_6) (.c (c_el (e := e_i64) e30_6) (.c rT .n))))) ?_
   rcases br_inv h with ⟨b31_0, h⟩ | ⟨b31_0, h⟩
   ·refine kCt b31_0 ?_
    refine kRs 0 [Tm 4 (bv false)] [] .n ?_
    cases some_inj h
    refine kWo ?_
    refine kRt ?_
    exact kOut
   ·refine kCe b31_0 ?_
    refine kSk ?_
    refine kCd (cR (cR (cB (cB (cR (cL (cR (cR (cR bd19))))))))) [.lp (cB (cR (cL (cR (cR (cR bd19))))))] ?_
    refine kRc 54 [Tm 6 (iv (w64 (l27_0 + 1)))] [] .n (cB (cR (cL (cR (cR (cR bd19)))))) [] ?_
    exact kWk (ih (w64 (l27_0 + 1)) _ h)
  ·refine kCe b29_0 ?_
   cases some_inj h
   refine kWo ?_
   refine kXt 2 ?_
   exact kOut
def diwanref11_Same.lp36 (fu : Nat) (l36_1 : TRaft) (l36_2 : TRaft) : Nat → Int → Option (Unit ⊕ Unit)
  | 0, _ => none
  | n_ + 1, l36_0 =>
  br (decide (l36_0 < (l36_1.Match.length : Int)))
   (ix l36_1.Match l36_0 fun x39_1 =>
   ix l36_2.Match l36_0 fun x39_4 =>
   br (x39_1 != x39_4)
    (some (.inr ()))
    (diwanref11_Same.lp36 fu l36_1 l36_2 n_ (w64 (l36_0 + 1))))
   (some (.inl ()))
def diwanref11_Same.lp36_post (l36_1 : TRaft) (l36_2 : TRaft) (r_ : (Unit ⊕ Unit)) : Wy → St → Prop := fun e τ => match r_ with
  | .inl _ => e = .exit 4 ∧ τ = ofL []
  | .inr _ => e = .ret ∧ τ = ofL [Tm 4 (bv false)]
theorem diwanref11_Same.lp36_ok (fu : Nat) (l36_1 : TRaft) (l36_2 : TRaft) : ∀ (n_ : Nat) (l36_0 : Int) (r_ : (Unit ⊕ Unit)), diwanref11_Same.lp36 fu l36_1 l36_2 n_ l36_0 = some r_ → WK Try.prog diwanref11_Same.O (Ck Try.prog) (cB (cR (cL (cR (cR (cR (cR bd19))))))) [] (ofL [Tm 2 (.ptr 2 0), Tm 3 (.ptr 3 0), Tm 7 (iv l36_0), Ob 2 (TRaft.ob l36_1), Ob 3 (TRaft.ob l36_2)]) (diwanref11_Same.lp36_post l36_1 l36_2 r_) := by
 intro n_
 induction n_ with
 | zero => intro l36_0 r_ h; exact no_none h
 | succ n_ ih =>
  intro l36_0 r_ h
  refine kLp ?_
  refine kSq ?_
  refine kRs 31 [Tm 144 (bv (decide (l36_0 < (l36_1.Match.length : Int))))] [.s (.t 143) [iv (l36_1.Match.length : Int)]] (.c (c_len (e := e_i64) (l := l36_1.Match)) .n) ?_
  rcases br_inv h with ⟨b38_0, h⟩ | ⟨b38_0, h⟩
  ·refine kCt b38_0 ?_
   refine kSk ?_
   refine kCd (cR (cB (cB (cR (cL (cR (cR (cR (cR bd19))))))))) [.lp (cB (cR (cL (cR (cR (cR (cR bd19)))))))] ?_
   refine kSq ?_
   refine kBk 5 ?_
   obtain ⟨x39_1, a39_2, e39_3, h⟩ := ix_inv h
   obtain ⟨x39_4, a39_5, e39_6, h⟩ := ix_inv h
   refine kRs 62 [Tm 157 (bv (x39_1 != x39_4))] [.c (e_i64 x39_1), .c (e_i64 x39_4)] (.c (c_ix (e := e_i64) a39_2 e39_3) (.c (c_el (e := e_i64) e39_3) (.c (c_ix (e := e_i64) a39_5 e39_6) (.c (c_el (e := e_i64) e39_6) (.c rT .n))))) ?_
   rcases br_inv h with ⟨b40_0, h⟩ | ⟨b40_0, h⟩
   ·refine kCt b40_0 ?_
    refine kRs 0 [Tm 4 (bv false)] [] .n ?_
    cases some_inj h
    refine kWo ?_
    refine kRt ?_
    exact kOut
   ·refine kCe b40_0 ?_
    refine kSk ?_
    refine kCd (cR (cR (cB (cB (cR (cL (cR (cR (cR (cR bd19)))))))))) [.lp (cB (cR (cL (cR (cR (cR (cR bd19)))))))] ?_
    refine kRc 54 [Tm 7 (iv (w64 (l36_0 + 1)))] [] .n (cB (cR (cL (cR (cR (cR (cR bd19))))))) [] ?_
    exact kWk (ih (w64 (l36_0 + 1)) _ h)
  ·refine kCe b38_0 ?_
   cases some_inj h
   refine kWo ?_
   refine kXt 4 ?_
   exact kOut
def diwanref11_Same (fu : Nat) (a : TRaft) (b : TRaft) : Option Bool :=
 br (a.Me != b.Me)
  (some false)
  (br (a.Nodes != b.Nodes)
   (some false)
   (br (a.Wait != b.Wait)
    (some false)
    (br (a.Term != b.Term)
     (some false)
     (br (a.Vote != b.Vote)
      (some false)
      (br (a.Commit != b.Commit)
       (some false)
       (br (a.Role != b.Role)
        (some false)
        (br (a.Leader != b.Leader)
         (some false)
         (br (a.Clock != b.Clock)
          (some false)
          (br ((a.Votes.length : Int) != (b.Votes.length : Int))
           (some false)
           (br ((a.Next.length : Int) != (b.Next.length : Int))
            (some false)
            (br ((a.Match.length : Int) != (b.Match.length : Int))
             (some false)
             (bd (diwanref1_SameEntries fu a.Log b.Log) fun r2_13 =>
             br (!r2_13)
              (some false)
              (bd (diwanref11_Same.lp18 fu a b fu 0) fun o_ => (match o_ with
              | .inl _ =>
               bd (diwanref11_Same.lp27 fu a b fu 0) fun o_ => (match o_ with
               | .inl _ =>
                bd (diwanref11_Same.lp36 fu a b fu 0) fun o_ => (match o_ with
                | .inl _ =>
                 some true
                | .inr _ =>
                 some false)
               | .inr _ =>
                some false)
              | .inr _ =>
               some false))))))))))))))
theorem diwanref11_Same.meets (fu : Nat) (a : TRaft) (b : TRaft) (z0 : Bool) (h : diwanref11_Same fu a b = some z0) : Meets Try.prog ⟨19, [.data (TRaft.ag a), .data (TRaft.ag b)], []⟩ ⟨bv z0, []⟩ := by
 refine kMt hmix diwanref11_Same.O Try.f19 bd19 3 ?_
 unfold diwanref11_Same at h
 refine kRs 0 [Tm 2 (.ptr 2 0), Tm 3 (.ptr 3 0), Ob 2 (TRaft.ob a), Ob 3 (TRaft.ob b)] [] .n ?_
 refine kSq ?_
 rcases br_inv h with ⟨b2_1, h⟩ | ⟨b2_1, h⟩
 ·refine kRs 15 [Tm 103 (bv true)] (rp 79 (.b true) []) (.r 6 b2_1 (.r 73 rT .n)) ?_
  refine kCt rT ?_
  refine kRs 0 [Tm 4 (bv false)] [] .n ?_
  refine kRt ?_
  have h_ := some_inj h
  subst h_
  exact kFr
 ·rcases br_inv h with ⟨b2_2, h⟩ | ⟨b2_2, h⟩
  ·refine kRs 15 [Tm 103 (bv true)] (rp 6 (.b false) (rp 73 (.b true) [])) (.r 6 b2_1 (.r 6 b2_2 (.r 67 rT .n))) ?_
   refine kCt rT ?_
   refine kRs 0 [Tm 4 (bv false)] [] .n ?_
   refine kRt ?_
   have h_ := some_inj h
   subst h_
   exact kFr
  ·rcases br_inv h with ⟨b2_3, h⟩ | ⟨b2_3, h⟩
   ·refine kRs 15 [Tm 103 (bv true)] (rp 12 (.b false) (rp 67 (.b true) [])) (.r 6 b2_1 (.r 6 b2_2 (.r 6 b2_3 (.r 61 rT .n)))) ?_
    refine kCt rT ?_
    refine kRs 0 [Tm 4 (bv false)] [] .n ?_
    refine kRt ?_
    have h_ := some_inj h
    subst h_
    exact kFr
   ·rcases br_inv h with ⟨b2_4, h⟩ | ⟨b2_4, h⟩
    ·refine kRs 15 [Tm 103 (bv true)] (rp 18 (.b false) (rp 61 (.b true) [])) (.r 6 b2_1 (.r 6 b2_2 (.r 6 b2_3 (.r 6 b2_4 (.r 55 rT .n))))) ?_
     refine kCt rT ?_
     refine kRs 0 [Tm 4 (bv false)] [] .n ?_
     refine kRt ?_
     have h_ := some_inj h
     subst h_
     exact kFr
    ·rcases br_inv h with ⟨b2_5, h⟩ | ⟨b2_5, h⟩
     ·refine kRs 15 [Tm 103 (bv true)] (rp 24 (.b false) (rp 55 (.b true) [])) (.r 6 b2_1 (.r 6 b2_2 (.r 6 b2_3 (.r 6 b2_4 (.r 6 b2_5 (.r 49 rT .n)))))) ?_
      refine kCt rT ?_
      refine kRs 0 [Tm 4 (bv false)] [] .n ?_
      refine kRt ?_
      have h_ := some_inj h
      subst h_
      exact kFr
     ·rcases br_inv h with ⟨b2_6, h⟩ | ⟨b2_6, h⟩
      ·refine kRs 15 [Tm 103 (bv true)] (rp 30 (.b false) (rp 49 (.b true) [])) (.r 6 b2_1 (.r 6 b2_2 (.r 6 b2_3 (.r 6 b2_4 (.r 6 b2_5 (.r 6 b2_6 (.r 43 rT .n))))))) ?_
       refine kCt rT ?_
       refine kRs 0 [Tm 4 (bv false)] [] .n ?_
       refine kRt ?_
       have h_ := some_inj h
       subst h_
       exact kFr
      ·rcases br_inv h with ⟨b2_7, h⟩ | ⟨b2_7, h⟩
       ·refine kRs 15 [Tm 103 (bv true)] (rp 36 (.b false) (rp 43 (.b true) [])) (.r 6 b2_1 (.r 6 b2_2 (.r 6 b2_3 (.r 6 b2_4 (.r 6 b2_5 (.r 6 b2_6 (.r 6 b2_7 (.r 37 rT .n)))))))) ?_
        refine kCt rT ?_
        refine kRs 0 [Tm 4 (bv false)] [] .n ?_
        refine kRt ?_
        have h_ := some_inj h
        subst h_
        exact kFr
       ·rcases br_inv h with ⟨b2_8, h⟩ | ⟨b2_8, h⟩
        ·refine kRs 15 [Tm 103 (bv true)] (rp 42 (.b false) (rp 37 (.b true) [])) (.r 6 b2_1 (.r 6 b2_2 (.r 6 b2_3 (.r 6 b2_4 (.r 6 b2_5 (.r 6 b2_6 (.r 6 b2_7 (.r 6 b2_8 (.r 31 rT .n))))))))) ?_
         refine kCt rT ?_
         refine kRs 0 [Tm 4 (bv false)] [] .n ?_
         refine kRt ?_
         have h_ := some_inj h
         subst h_
         exact kFr
        ·rcases br_inv h with ⟨b2_9, h⟩ | ⟨b2_9, h⟩
         ·refine kRs 15 [Tm 103 (bv true)] (rp 48 (.b false) (rp 31 (.b true) [])) (.r 6 b2_1 (.r 6 b2_2 (.r 6 b2_3 (.r 6 b2_4 (.r 6 b2_5 (.r 6 b2_6 (.r 6 b2_7 (.r 6 b2_8 (.r 8 b2_9 (.r 23 rT .n)))))))))) ?_
          refine kCt rT ?_
          refine kRs 0 [Tm 4 (bv false)] [] .n ?_
          refine kRt ?_
          have h_ := some_inj h
          subst h_
          exact kFr
         ·rcases br_inv h with ⟨b2_10, h⟩ | ⟨b2_10, h⟩
          ·refine kRs 15 [Tm 103 (bv true)] (rp 51 (.b false) (.s (.t 72) [iv (a.Votes.length : Int)] :: (.b false :: (.b false :: (.b false :: (.s (.t 75) [iv (b.Votes.length : Int)] :: (.b false :: (.b false :: (rp 23 (.b true) []))))))))) (.r 6 b2_1 (.r 6 b2_2 (.r 6 b2_3 (.r 6 b2_4 (.r 6 b2_5 (.r 6 b2_6 (.r 6 b2_7 (.r 6 b2_8 (.r 3 b2_9 (.c (c_len (e := e_b) (l := a.Votes)) (.r 3 b2_9 (.c (c_len (e := e_b) (l := b.Votes)) (.r 2 b2_9 (.r 8 b2_10 (.r 15 rT .n))))))))))))))) ?_
           refine kCt rT ?_
           refine kRs 0 [Tm 4 (bv false)] [] .n ?_
           refine kRt ?_
           have h_ := some_inj h
           subst h_
           exact kFr
          ·rcases br_inv h with ⟨b2_11, h⟩ | ⟨b2_11, h⟩
           ·refine kRs 15 [Tm 103 (bv true)] (rp 51 (.b false) (.s (.t 72) [iv (a.Votes.length : Int)] :: (.b false :: (.b false :: (.b false :: (.s (.t 75) [iv (b.Votes.length : Int)] :: (rp 5 (.b false) (.s (.t 81) [iv (a.Next.length : Int)] :: (.b false :: (.b false :: (.b false :: (.s (.t 84) [iv (b.Next.length : Int)] :: (.b false :: (.b false :: (rp 15 (.b true) []))))))))))))))) (.r 6 b2_1 (.r 6 b2_2 (.r 6 b2_3 (.r 6 b2_4 (.r 6 b2_5 (.r 6 b2_6 (.r 6 b2_7 (.r 6 b2_8 (.r 3 b2_9 (.c (c_len (e := e_b) (l := a.Votes)) (.r 3 b2_9 (.c (c_len (e := e_b) (l := b.Votes)) (.r 2 b2_9 (.r 3 b2_10 (.c (c_len (e := e_i64) (l := a.Next)) (.r 3 b2_10 (.c (c_len (e := e_i64) (l := b.Next)) (.r 2 b2_10 (.r 8 b2_11 (.r 7 rT .n)))))))))))))))))))) ?_
            refine kCt rT ?_
            refine kRs 0 [Tm 4 (bv false)] [] .n ?_
            refine kRt ?_
            have h_ := some_inj h
            subst h_
            exact kFr
           ·rcases br_inv h with ⟨b2_12, h⟩ | ⟨b2_12, h⟩
            ·refine kRs 15 [Tm 103 (bv true)] (rp 51 (.b false) (.s (.t 72) [iv (a.Votes.length : Int)] :: (.b false :: (.b false :: (.b false :: (.s (.t 75) [iv (b.Votes.length : Int)] :: (rp 5 (.b false) (.s (.t 81) [iv (a.Next.length : Int)] :: (.b false :: (.b false :: (.b false :: (.s (.t 84) [iv (b.Next.length : Int)] :: (rp 5 (.b false) (.s (.t 90) [iv (a.Match.length : Int)] :: (.b false :: (.b false :: (.b false :: (.s (.t 93) [iv (b.Match.length : Int)] :: (.b false :: (.b false :: (rp 7 (.b true) []))))))))))))))))))))) (.r 6 b2_1 (.r 6 b2_2 (.r 6 b2_3 (.r 6 b2_4 (.r 6 b2_5 (.r 6 b2_6 (.r 6 b2_7 (.r 6 b2_8 (.r 3 b2_9 (.c (c_len (e := e_b) (l := a.Votes)) (.r 3 b2_9 (.c (c_len (e := e_b) (l := b.Votes)) (.r 2 b2_9 (.r 3 b2_10 (.c (c_len (e := e_i64) (l := a.Next)) (.r 3 b2_10 (.c (c_len (e := e_i64) (l := b.Next)) (.r 2 b2_10 (.r 3 b2_11 (.c (c_len (e := e_i64) (l := a.Match)) (.r 3 b2_11 (.c (c_len (e := e_i64) (l := b.Match)) (.r 2 b2_11 (.r 7 b2_12 .n)))))))))))))))))))))))) ?_
             refine kCt rT ?_
             refine kRs 0 [Tm 4 (bv false)] [] .n ?_
             refine kRt ?_
             have h_ := some_inj h
             subst h_
             exact kFr
            ·obtain ⟨r2_13, h2_14, h⟩ := bd_inv h
             refine kRs 15 [Tm 103 (bv (!r2_13))] (rp 51 (.b false) (.s (.t 72) [iv (a.Votes.length : Int)] :: (.b false :: (.b false :: (.b false :: (.s (.t 75) [iv (b.Votes.length : Int)] :: (rp 5 (.b false) (.s (.t 81) [iv (a.Next.length : Int)] :: (.b false :: (.b false :: (.b false :: (.s (.t 84) [iv (b.Next.length : Int)] :: (rp 5 (.b false) (.s (.t 90) [iv (a.Match.length : Int)] :: (.b false :: (.b false :: (.b false :: (.s (.t 93) [iv (b.Match.length : Int)] :: (rp 7 (.b false) [.a ⟨bv r2_13, []⟩, .b false, .b false]))))))))))))))))))) (.r 6 b2_1 (.r 6 b2_2 (.r 6 b2_3 (.r 6 b2_4 (.r 6 b2_5 (.r 6 b2_6 (.r 6 b2_7 (.r 6 b2_8 (.r 3 b2_9 (.c (c_len (e := e_b) (l := a.Votes)) (.r 3 b2_9 (.c (c_len (e := e_b) (l := b.Votes)) (.r 2 b2_9 (.r 3 b2_10 (.c (c_len (e := e_i64) (l := a.Next)) (.r 3 b2_10 (.c (c_len (e := e_i64) (l := b.Next)) (.r 2 b2_10 (.r 3 b2_11 (.c (c_len (e := e_i64) (l := a.Match)) (.r 3 b2_11 (.c (c_len (e := e_i64) (l := b.Match)) (.r 2 b2_11 (.r 5 b2_12 (.c (Asks.of (C := Meets Try.prog) (diwanref1_SameEntries.meets fu a.Log b.Log _ h2_14)) (.r 2 b2_12 .n)))))))))))))))))))))))))) ?_
             rcases br_inv h with ⟨b15_0, h⟩ | ⟨b15_0, h⟩
             ·refine kCt b15_0 ?_
              refine kRs 0 [Tm 4 (bv false)] [] .n ?_
              refine kRt ?_
              have h_ := some_inj h
              subst h_
              exact kFr
             ·refine kCe b15_0 ?_
              refine kSk ?_
              refine kCd (cR (cR bd19)) [] ?_
              refine kSq ?_
              refine kRs 30 [Tm 5 (iv 0)] [] .n ?_
              refine kBk 0 ?_
              obtain ⟨o25, ho25, h⟩ := bd_inv h
              refine kUs (diwanref11_Same.lp18_ok fu a b _ 0 _ ho25) ?_
              intro e_ τ_ hp_
              rcases o25 with o25 | o25
              ·obtain ⟨⟩ := o25
               obtain ⟨rfl, rfl⟩ := hp_
               refine kCd (cR (cR (cR bd19))) [] ?_
               refine kSq ?_
               refine kRs 15 [Tm 6 (iv 0)] [] .n ?_
               refine kBk 2 ?_
               obtain ⟨o34, ho34, h⟩ := bd_inv h
               refine kUs (diwanref11_Same.lp27_ok fu a b _ 0 _ ho34) ?_
               intro e_ τ_ hp_
               rcases o34 with o34 | o34
               ·obtain ⟨⟩ := o34
                obtain ⟨rfl, rfl⟩ := hp_
                refine kCd (cR (cR (cR (cR bd19)))) [] ?_
                refine kSq ?_
                refine kRs 15 [Tm 7 (iv 0)] [] .n ?_
                refine kBk 4 ?_
                obtain ⟨o43, ho43, h⟩ := bd_inv h
                refine kUs (diwanref11_Same.lp36_ok fu a b _ 0 _ ho43) ?_
                intro e_ τ_ hp_
                rcases o43 with o43 | o43
                ·obtain ⟨⟩ := o43
                 obtain ⟨rfl, rfl⟩ := hp_
                 refine kCd (cR (cR (cR (cR (cR bd19))))) [] ?_
                 refine kRs 0 [Tm 4 (bv true)] [] .n ?_
                 refine kRt ?_
                 have h_ := some_inj h
                 subst h_
                 exact kFr
                ·obtain ⟨⟩ := o43
                 obtain ⟨rfl, rfl⟩ := hp_
                 have h_ := some_inj h
                 subst h_
                 exact kFr
               ·obtain ⟨⟩ := o34
                obtain ⟨rfl, rfl⟩ := hp_
                have h_ := some_inj h
                subst h_
                exact kFr
              ·obtain ⟨⟩ := o25
               obtain ⟨rfl, rfl⟩ := hp_
               have h_ := some_inj h
               subst h_
               exact kFr
def bd26 : Code := (Try.f26.body).getD .skip
def diwanplay_Picks_Letter.O : Nat → Nat := fun t => bif ([3, 4, 5, 6, 7, 8, 43, 93, 98, 114, 121, 126, 127, 129] : List Nat).any (Nat.beq t) then 1 else 0
def diwanplay_Picks_Letter.lp14 (fu : Nat) (l14_1 : TMsg) : Nat → Int → TMsg → TPicks → Option (TMsg × TPicks)
  | 0, _, _, _ => none
  | n_ + 1, l14_0, l14_2, l14_3 =>
  br (decide (l14_0 > 0))
   (bd (diwanplay_Picks_Num 2 l14_3) fun (r17_1, r17_2) =>
   bd (diwanplay_Picks_Num 2 r17_2) fun (r17_4, r17_5) =>
   jn (fun (j21_3 : TEntry) (j21_4 : TPicks) =>
    jn (fun (j26_3 : TEntry) =>
     gd (decide (l14_2.Entries.length + ([(TEntry.mk (if (if l14_2.Term < 1 then 1 else l14_2.Term) < j26_3.Term then (if l14_2.Term < 1 then 1 else l14_2.Term) else j26_3.Term) j26_3.Seal j26_3.T)] : List TEntry).length ≤ 4294967296)) <|
     diwanplay_Picks_Letter.lp14 fu l14_1 n_ (w64 (l14_0 - 1)) (TMsg.mk l14_2.Kind l14_2.From l14_2.To l14_2.Part l14_2.Term l14_2.Index l14_2.LogTerm l14_2.Commit l14_2.OK (l14_2.Entries ++ ([(TEntry.mk (if (if l14_2.Term < 1 then 1 else l14_2.Term) < j26_3.Term then (if l14_2.Term < 1 then 1 else l14_2.Term) else j26_3.Term) j26_3.Seal j26_3.T)] : List TEntry)) l14_2.T l14_2.Session l14_2.Seq l14_2.Pos l14_2.Shard l14_2.Span l14_2.FromKey l14_2.ToKey l14_2.Keys l14_2.Got l14_2.Err) j21_4) fun k26 =>
    br (decide ((l14_2.Entries.length : Int) > 0))
     (ix l14_2.Entries (w64 ((l14_2.Entries.length : Int) - 1)) fun x25_1 =>
     k26 (TEntry.mk (if j21_3.Term < x25_1.Term then x25_1.Term else j21_3.Term) j21_3.Seal j21_3.T))
     (k26 j21_3)) fun k21 =>
   br (!(r17_4 == 0))
    (bd (diwanplay_Picks_Txn fu 4 r17_5) fun (r20_1, r20_2) =>
    k21 (TEntry.mk (if (if l14_2.LogTerm < (w64 (l14_2.Term - r17_1)) then (w64 (l14_2.Term - r17_1)) else l14_2.LogTerm) < 1 then 1 else (if l14_2.LogTerm < (w64 (l14_2.Term - r17_1)) then (w64 (l14_2.Term - r17_1)) else l14_2.LogTerm)) (r17_4 == 0) r20_1) r20_2)
    (k21 (TEntry.mk (if (if l14_2.LogTerm < (w64 (l14_2.Term - r17_1)) then (w64 (l14_2.Term - r17_1)) else l14_2.LogTerm) < 1 then 1 else (if l14_2.LogTerm < (w64 (l14_2.Term - r17_1)) then (w64 (l14_2.Term - r17_1)) else l14_2.LogTerm)) (r17_4 == 0) (TTxn.mk 0 0 [] [])) r17_5))
   (some (l14_2, l14_3))
def diwanplay_Picks_Letter.lp14_post (l14_1 : TMsg) (r_ : (TMsg × TPicks)) : Wy → St → Prop := fun e τ => match r_ with
  | (y0, y1) => e = .exit 0 ∧ τ = ofL [Tm 4 (.ptr 4 0), Tm 5 (.ptr 5 0), Ob 4 (TMsg.ob_00000000010011000000011 l14_1), Ob 5 (TMsg.ob_00000000010011000000011 y0), Ob 1000 [sS 1 e_u8 y1.l, iv y1.n]]
theorem diwanplay_Picks_Letter.lp14_ok (fu : Nat) (l14_1 : TMsg) : ∀ (n_ : Nat) (l14_0 : Int) (l14_2 : TMsg) (l14_3 : TPicks) (r_ : (TMsg × TPicks)), diwanplay_Picks_Letter.lp14 fu l14_1 n_ l14_0 l14_2 l14_3 = some r_ → WK Try.prog diwanplay_Picks_Letter.O (Ck Try.prog) (cB (cR (cT (cR (cL (cR (cR (cR (cR bd26))))))))) [] (ofL [Tm 0 (.ptr 1000 0), Tm 4 (.ptr 4 0), Tm 5 (.ptr 5 0), Tm 6 (iv l14_0), Ob 4 (TMsg.ob_00000000010011000000011 l14_1), Ob 5 (TMsg.ob_00000000010011000000011 l14_2), Ob 1000 [sS 1 e_u8 l14_3.l, iv l14_3.n]]) (diwanplay_Picks_Letter.lp14_post l14_1 r_) := by
 intro n_
 induction n_ with
 | zero => intro l14_0 l14_2 l14_3 r_ h; exact no_none h
 | succ n_ ih =>
  intro l14_0 l14_2 l14_3 r_ h
  refine kLp ?_
  refine kSq ?_
  refine kRs 127 [Tm 79 (bv (decide (l14_0 > 0)))] [] .n ?_
  rcases br_inv h with ⟨b16_0, h⟩ | ⟨b16_0, h⟩
  ·refine kCt b16_0 ?_
   refine kSk ?_
   refine kCd (cR (cB (cB (cR (cT (cR (cL (cR (cR (cR (cR bd26))))))))))) [.lp (cB (cR (cT (cR (cL (cR (cR (cR (cR bd26)))))))))] ?_
   refine kSq ?_
   refine kBk 1 ?_
   obtain ⟨⟨r17_1, r17_2⟩, h17_3, h⟩ := bd_inv h
   obtain ⟨⟨r17_4, r17_5⟩, h17_6, h⟩ := bd_inv h
   refine kRs 126 [Tm 7 (.ptr 7 0), Ob 7 (TEntry.ob_000011 (TEntry.mk (if (if l14_2.LogTerm < (w64 (l14_2.Term - r17_1)) then (w64 (l14_2.Term - r17_1)) else l14_2.LogTerm) < 1 then 1 else (if l14_2.LogTerm < (w64 (l14_2.Term - r17_1)) then (w64 (l14_2.Term - r17_1)) else l14_2.LogTerm)) (r17_4 == 0) (TTxn.mk 0 0 [] []))), Ob 1000 [sS 1 e_u8 r17_5.l, iv r17_5.n]] [.a ⟨iv r17_1, [[sS 1 e_u8 r17_2.l, iv r17_2.n]]⟩, .a ⟨iv r17_4, [[sS 1 e_u8 r17_5.l, iv r17_5.n]]⟩] (.c (Asks.of (C := Meets Try.prog) (diwanplay_Picks_Num.meets 2 l14_3 _ _ h17_3)) (.c (Asks.of (C := Meets Try.prog) (diwanplay_Picks_Num.meets 2 r17_2 _ _ h17_6)) (.c rT .n))) ?_
   obtain ⟨k21, hk21, h⟩ := jn_inv h
   have Jk21 : ∀ (j21_3 : TEntry) (j21_4 : TPicks), k21 j21_3 j21_4 = some r_ → WK Try.prog diwanplay_Picks_Letter.O (Ck Try.prog) (cR (cR (cB (cL (cR (cB (cB (cR (cT (cR (cL (cR (cR (cR (cR bd26))))))))))))))) [.blk 1, .seq (cR (cR (cB (cB (cR (cT (cR (cL (cR (cR (cR (cR bd26)))))))))))), .lp (cB (cR (cT (cR (cL (cR (cR (cR (cR bd26)))))))))] (ofL [Tm 0 (.ptr 1000 0), Tm 4 (.ptr 4 0), Tm 5 (.ptr 5 0), Tm 6 (iv l14_0), Tm 7 (.ptr 7 0), Ob 4 (TMsg.ob_00000000010011000000011 l14_1), Ob 5 (TMsg.ob_00000000010011000000011 l14_2), Ob 7 (TEntry.ob_000011 j21_3), Ob 1000 [sS 1 e_u8 j21_4.l, iv j21_4.n]]) (diwanplay_Picks_Letter.lp14_post l14_1 r_) := by
    intro j21_3 j21_4 h
    rw [hk21] at h
    obtain ⟨k26, hk26, h⟩ := jn_inv h
    have Jk26 : ∀ (j26_3 : TEntry), k26 j26_3 = some r_ → WK Try.prog diwanplay_Picks_Letter.O (Ck Try.prog) (cR (cR (cR (cB (cL (cR (cB (cB (cR (cT (cR (cL (cR (cR (cR (cR bd26)))))))))))))))) [.blk 1, .seq (cR (cR (cB (cB (cR (cT (cR (cL (cR (cR (cR (cR bd26)))))))))))), .lp (cB (cR (cT (cR (cL (cR (cR (cR (cR bd26)))))))))] (ofL [Tm 0 (.ptr 1000 0), Tm 4 (.ptr 4 0), Tm 5 (.ptr 5 0), Tm 6 (iv l14_0), Tm 7 (.ptr 7 0), Ob 4 (TMsg.ob_00000000010011000000011 l14_1), Ob 5 (TMsg.ob_00000000010011000000011 l14_2), Ob 7 (TEntry.ob_000011 j26_3), Ob 1000 [sS 1 e_u8 j21_4.l, iv j21_4.n]]) (diwanplay_Picks_Letter.lp14_post l14_1 r_) := by
     intro j26_3 h
     rw [hk26] at h
     refine kRs 383 [Ob 7 (TEntry.ob_000011 (TEntry.mk (if (if l14_2.Term < 1 then 1 else l14_2.Term) < j26_3.Term then (if l14_2.Term < 1 then 1 else l14_2.Term) else j26_3.Term) j26_3.Seal j26_3.T))] [] .n ?_
     obtain ⟨c28_1, h⟩ := gd_inv h
     refine kRc 350 [Ob 5 (TMsg.ob_00000000010011000000011 (TMsg.mk l14_2.Kind l14_2.From l14_2.To l14_2.Part l14_2.Term l14_2.Index l14_2.LogTerm l14_2.Commit l14_2.OK (l14_2.Entries ++ ([(TEntry.mk (if (if l14_2.Term < 1 then 1 else l14_2.Term) < j26_3.Term then (if l14_2.Term < 1 then 1 else l14_2.Term) else j26_3.Term) j26_3.Seal j26_3.T)] : List TEntry)) l14_2.T l14_2.Session l14_2.Seq l14_2.Pos l14_2.Shard l14_2.Span l14_2.FromKey l14_2.ToKey l14_2.Keys l14_2.Got l14_2.Err))] [.s (.t 127) [sO 6 TEntry.en (l14_2.Entries ++ ([(TEntry.mk (if (if l14_2.Term < 1 then 1 else l14_2.Term) < j26_3.Term then (if l14_2.Term < 1 then 1 else l14_2.Term) else j26_3.Term) j26_3.Seal j26_3.T)] : List TEntry))]] (.c (c_al (e := TEntry.en) (f := TEntry.en) c28_1) (.c (congrArg (fun d : DV => [AV.data d]) (c_app (e := TEntry.en) (s := 6) (l := l14_2.Entries) (m := ([(TEntry.mk (if (if l14_2.Term < 1 then 1 else l14_2.Term) < j26_3.Term then (if l14_2.Term < 1 then 1 else l14_2.Term) else j26_3.Term) j26_3.Seal j26_3.T)] : List TEntry)))) .n)) (cR (cR (cB (cB (cR (cT (cR (cL (cR (cR (cR (cR bd26)))))))))))) [.lp (cB (cR (cT (cR (cL (cR (cR (cR (cR bd26)))))))))] ?_
     refine kRc 111 [Tm 6 (iv (w64 (l14_0 - 1)))] [] .n (cB (cR (cT (cR (cL (cR (cR (cR (cR bd26))))))))) [] ?_
     exact kWk (ih (w64 (l14_0 - 1)) (TMsg.mk l14_2.Kind l14_2.From l14_2.To l14_2.Part l14_2.Term l14_2.Index l14_2.LogTerm l14_2.Commit l14_2.OK (l14_2.Entries ++ ([(TEntry.mk (if (if l14_2.Term < 1 then 1 else l14_2.Term) < j26_3.Term then (if l14_2.Term < 1 then 1 else l14_2.Term) else j26_3.Term) j26_3.Seal j26_3.T)] : List TEntry)) l14_2.T l14_2.Session l14_2.Seq l14_2.Pos l14_2.Shard l14_2.Span l14_2.FromKey l14_2.ToKey l14_2.Keys l14_2.Got l14_2.Err) j21_4 _ h)
    clear hk26
    refine kSq ?_
    refine kRs 511 [Tm 8 (iv (l14_2.Entries.length : Int))] [.s (.t 102) [iv (l14_2.Entries.length : Int)]] (.c (c_len (e := TEntry.en) (l := l14_2.Entries)) .n) ?_
    refine kRs 1023 [Tm 104 (bv (decide ((l14_2.Entries.length : Int) > 0)))] [] .n ?_
    rcases br_inv h with ⟨b24_0, h⟩ | ⟨b24_0, h⟩
    ·refine kCt b24_0 ?_
     obtain ⟨x25_1, a25_2, e25_3, h⟩ := ix_inv h
     refine kRc 1532 [Ob 7 (TEntry.ob_000011 (TEntry.mk (if j21_3.Term < x25_1.Term then x25_1.Term else j21_3.Term) j21_3.Seal j21_3.T))] [.c (TEntry.en x25_1)] (.c (c_ix (e := TEntry.en) a25_2 e25_3) (.c (c_el (e := TEntry.en) e25_3) (.c rT .n))) (cR (cR (cR (cB (cL (cR (cB (cB (cR (cT (cR (cL (cR (cR (cR (cR bd26)))))))))))))))) [.blk 1, .seq (cR (cR (cB (cB (cR (cT (cR (cL (cR (cR (cR (cR bd26)))))))))))), .lp (cB (cR (cT (cR (cL (cR (cR (cR (cR bd26)))))))))] ?_
     exact kWk (Jk26 (TEntry.mk (if j21_3.Term < x25_1.Term then x25_1.Term else j21_3.Term) j21_3.Seal j21_3.T) h)
    ·refine kCe b24_0 ?_
     refine kSk ?_
     refine kCd (cR (cR (cR (cB (cL (cR (cB (cB (cR (cT (cR (cL (cR (cR (cR (cR bd26)))))))))))))))) [.blk 1, .seq (cR (cR (cB (cB (cR (cT (cR (cL (cR (cR (cR (cR bd26)))))))))))), .lp (cB (cR (cT (cR (cL (cR (cR (cR (cR bd26)))))))))] ?_
     exact kWk (Jk26 j21_3 h)
   clear hk21
   refine kSq ?_
   refine kRs 511 [Tm 96 (bv (!(r17_4 == 0)))] [] .n ?_
   rcases br_inv h with ⟨b19_0, h⟩ | ⟨b19_0, h⟩
   ·refine kCt b19_0 ?_
    obtain ⟨⟨r20_1, r20_2⟩, h20_3, h⟩ := bd_inv h
    refine kRc 1010 [Ob 7 (TEntry.ob_000011 (TEntry.mk (if (if l14_2.LogTerm < (w64 (l14_2.Term - r17_1)) then (w64 (l14_2.Term - r17_1)) else l14_2.LogTerm) < 1 then 1 else (if l14_2.LogTerm < (w64 (l14_2.Term - r17_1)) then (w64 (l14_2.Term - r17_1)) else l14_2.LogTerm)) (r17_4 == 0) r20_1)), Ob 1000 [sS 1 e_u8 r20_2.l, iv r20_2.n]] [.a ⟨.data (TTxn.ag_0011 r20_1), [[sS 1 e_u8 r20_2.l, iv r20_2.n]]⟩] (.c (Asks.of (C := Meets Try.prog) (diwanplay_Picks_Txn.meets fu 4 r17_5 _ _ h20_3)) .n) (cR (cR (cB (cL (cR (cB (cB (cR (cT (cR (cL (cR (cR (cR (cR bd26))))))))))))))) [.blk 1, .seq (cR (cR (cB (cB (cR (cT (cR (cL (cR (cR (cR (cR bd26)))))))))))), .lp (cB (cR (cT (cR (cL (cR (cR (cR (cR bd26)))))))))] ?_
    exact kWk (Jk21 (TEntry.mk (if (if l14_2.LogTerm < (w64 (l14_2.Term - r17_1)) then (w64 (l14_2.Term - r17_1)) else l14_2.LogTerm) < 1 then 1 else (if l14_2.LogTerm < (w64 (l14_2.Term - r17_1)) then (w64 (l14_2.Term - r17_1)) else l14_2.LogTerm)) (r17_4 == 0) r20_1) r20_2 h)
   ·refine kCe b19_0 ?_
    refine kSk ?_
    refine kCd (cR (cR (cB (cL (cR (cB (cB (cR (cT (cR (cL (cR (cR (cR (cR bd26))))))))))))))) [.blk 1, .seq (cR (cR (cB (cB (cR (cT (cR (cL (cR (cR (cR (cR bd26)))))))))))), .lp (cB (cR (cT (cR (cL (cR (cR (cR (cR bd26)))))))))] ?_
    exact kWk (Jk21 (TEntry.mk (if (if l14_2.LogTerm < (w64 (l14_2.Term - r17_1)) then (w64 (l14_2.Term - r17_1)) else l14_2.LogTerm) < 1 then 1 else (if l14_2.LogTerm < (w64 (l14_2.Term - r17_1)) then (w64 (l14_2.Term - r17_1)) else l14_2.LogTerm)) (r17_4 == 0) (TTxn.mk 0 0 [] [])) r17_5 h)
  ·refine kCe b16_0 ?_
   cases some_inj h
   refine kWo ?_
   refine kXt 0 ?_
   exact kOut
def diwanplay_Picks_Letter (fu : Nat) (r_v : TRaft) (o0_v : TPicks) : Option (TMsg × TPicks) :=
 bd (diwanplay_Picks_Num 4 o0_v) fun (r2_1, r2_2) =>
 bd (diwanplay_Picks_Num r_v.Nodes r2_2) fun (r2_4, r2_5) =>
 bd (diwanplay_Picks_Num 3 r2_5) fun (r2_7, r2_8) =>
 bd (diwanplay_Picks_Num 3 r2_8) fun (r2_10, r2_11) =>
 bd (diwanplay_Picks_Num (w64 ((r_v.Log.length : Int) + 2)) r2_11) fun (r2_13, r2_14) =>
 bd (diwanplay_Picks_Num 4 r2_14) fun (r2_16, r2_17) =>
 bd (diwanplay_Picks_Num (w64 ((r_v.Log.length : Int) + 3)) r2_17) fun (r2_19, r2_20) =>
 jn (fun (j6_1 : TMsg) (j6_2 : TPicks) =>
  jn (fun (j10_1 : TMsg) =>
   br (j10_1.Kind == 3)
    (bd (diwanplay_Picks_Num 4 j6_2) fun (r13_1, r13_2) =>
    bd (diwanplay_Picks_Letter.lp14 fu (TMsg.mk 0 0 0 0 0 0 0 0 false [] (TTxn.mk 0 0 [] []) 0 0 0 0 false ByteArray.empty ByteArray.empty [] [] 0) fu r13_1 j10_1 r13_2) fun (y30_0, y30_1) =>
    some (y30_0, y30_1))
    (some (j10_1, j6_2))) fun k10 =>
  br (j6_1.Index == 0)
   (k10 (TMsg.mk j6_1.Kind j6_1.From j6_1.To j6_1.Part j6_1.Term j6_1.Index 0 j6_1.Commit j6_1.OK j6_1.Entries j6_1.T j6_1.Session j6_1.Seq j6_1.Pos j6_1.Shard j6_1.Span j6_1.FromKey j6_1.ToKey j6_1.Keys j6_1.Got j6_1.Err))
   (k10 j6_1)) fun k6 =>
 bd (diwanplay_Picks_Num 2 r2_20) fun (r3_1, r3_2) =>
 br (r3_1 == 0)
  (br (decide (r2_13 ≥ 1))
   (br (decide (r2_13 ≤ (r_v.Log.length : Int)))
    (ix r_v.Log (w64 (r2_13 - 1)) fun x5_1 =>
    k6 (TMsg.mk (w64 (1 + r2_1)) (w64 (1 + r2_4)) r_v.Me 0 (if (w64 ((w64 (r_v.Term + r2_7)) - 1)) < 0 then 0 else (w64 ((w64 (r_v.Term + r2_7)) - 1))) r2_13 x5_1.Term r2_19 (decide (r2_10 > 0)) [] (TTxn.mk 0 0 [] []) 0 0 0 0 false ByteArray.empty ByteArray.empty [] [] 0) r3_2)
    (k6 (TMsg.mk (w64 (1 + r2_1)) (w64 (1 + r2_4)) r_v.Me 0 (if (w64 ((w64 (r_v.Term + r2_7)) - 1)) < 0 then 0 else (w64 ((w64 (r_v.Term + r2_7)) - 1))) r2_13 r2_16 r2_19 (decide (r2_10 > 0)) [] (TTxn.mk 0 0 [] []) 0 0 0 0 false ByteArray.empty ByteArray.empty [] [] 0) r3_2))
   (k6 (TMsg.mk (w64 (1 + r2_1)) (w64 (1 + r2_4)) r_v.Me 0 (if (w64 ((w64 (r_v.Term + r2_7)) - 1)) < 0 then 0 else (w64 ((w64 (r_v.Term + r2_7)) - 1))) r2_13 r2_16 r2_19 (decide (r2_10 > 0)) [] (TTxn.mk 0 0 [] []) 0 0 0 0 false ByteArray.empty ByteArray.empty [] [] 0) r3_2))
  (k6 (TMsg.mk (w64 (1 + r2_1)) (w64 (1 + r2_4)) r_v.Me 0 (if (w64 ((w64 (r_v.Term + r2_7)) - 1)) < 0 then 0 else (w64 ((w64 (r_v.Term + r2_7)) - 1))) r2_13 r2_16 r2_19 (decide (r2_10 > 0)) [] (TTxn.mk 0 0 [] []) 0 0 0 0 false ByteArray.empty ByteArray.empty [] [] 0) r3_2)
theorem diwanplay_Picks_Letter.meets (fu : Nat) (r_v : TRaft) (o0_v : TPicks) (z0 : TMsg) (z1 : TPicks) (h : diwanplay_Picks_Letter fu r_v o0_v = some (z0, z1)) : Meets Try.prog ⟨26, [.ptr 1000 0, .data (TRaft.ag r_v)], [[sS 1 e_u8 o0_v.l, iv o0_v.n]]⟩ ⟨.data (TMsg.ag_00000000010011000000011 z0), [[sS 1 e_u8 z1.l, iv z1.n]]⟩ := by
 refine kMt hmix diwanplay_Picks_Letter.O Try.f26 bd26 7 ?_
 unfold diwanplay_Picks_Letter at h
 refine kRs 5 [Tm 3 (.ptr 3 0), Tm 4 (.ptr 4 0), Ob 3 (TRaft.ob r_v), Ob 4 (TMsg.ob_00000000010011000000011 (TMsg.mk 0 0 0 0 0 0 0 0 false [] (TTxn.mk 0 0 [] []) 0 0 0 0 false ByteArray.empty ByteArray.empty [] [] 0))] [] .n ?_
 obtain ⟨⟨r2_1, r2_2⟩, h2_3, h⟩ := bd_inv h
 obtain ⟨⟨r2_4, r2_5⟩, h2_6, h⟩ := bd_inv h
 obtain ⟨⟨r2_7, r2_8⟩, h2_9, h⟩ := bd_inv h
 obtain ⟨⟨r2_10, r2_11⟩, h2_12, h⟩ := bd_inv h
 obtain ⟨⟨r2_13, r2_14⟩, h2_15, h⟩ := bd_inv h
 obtain ⟨⟨r2_16, r2_17⟩, h2_18, h⟩ := bd_inv h
 obtain ⟨⟨r2_19, r2_20⟩, h2_21, h⟩ := bd_inv h
 refine kRs 31 [Tm 5 (.ptr 5 0), Ob 5 (TMsg.ob_00000000010011000000011 (TMsg.mk (w64 (1 + r2_1)) (w64 (1 + r2_4)) r_v.Me 0 (if (w64 ((w64 (r_v.Term + r2_7)) - 1)) < 0 then 0 else (w64 ((w64 (r_v.Term + r2_7)) - 1))) r2_13 r2_16 r2_19 (decide (r2_10 > 0)) [] (TTxn.mk 0 0 [] []) 0 0 0 0 false ByteArray.empty ByteArray.empty [] [] 0)), Ob 1000 [sS 1 e_u8 r2_20.l, iv r2_20.n]] [.a ⟨iv r2_1, [[sS 1 e_u8 r2_2.l, iv r2_2.n]]⟩, .a ⟨iv r2_4, [[sS 1 e_u8 r2_5.l, iv r2_5.n]]⟩, .a ⟨iv r2_7, [[sS 1 e_u8 r2_8.l, iv r2_8.n]]⟩, .a ⟨iv r2_10, [[sS 1 e_u8 r2_11.l, iv r2_11.n]]⟩, .s (.t 32) [iv (r_v.Log.length : Int)], .a ⟨iv r2_13, [[sS 1 e_u8 r2_14.l, iv r2_14.n]]⟩, .a ⟨iv r2_16, [[sS 1 e_u8 r2_17.l, iv r2_17.n]]⟩, .s (.t 40) [iv (r_v.Log.length : Int)], .a ⟨iv r2_19, [[sS 1 e_u8 r2_20.l, iv r2_20.n]]⟩] (.c (Asks.of (C := Meets Try.prog) (diwanplay_Picks_Num.meets 4 o0_v _ _ h2_3)) (.c (Asks.of (C := Meets Try.prog) (diwanplay_Picks_Num.meets r_v.Nodes r2_2 _ _ h2_6)) (.c (Asks.of (C := Meets Try.prog) (diwanplay_Picks_Num.meets 3 r2_5 _ _ h2_9)) (.c (Asks.of (C := Meets Try.prog) (diwanplay_Picks_Num.meets 3 r2_8 _ _ h2_12)) (.c (c_len (e := TEntry.en) (l := r_v.Log)) (.c (Asks.of (C := Meets Try.prog) (diwanplay_Picks_Num.meets (w64 ((r_v.Log.length : Int) + 2)) r2_11 _ _ h2_15)) (.c (Asks.of (C := Meets Try.prog) (diwanplay_Picks_Num.meets 4 r2_14 _ _ h2_18)) (.c (c_len (e := TEntry.en) (l := r_v.Log)) (.c (Asks.of (C := Meets Try.prog) (diwanplay_Picks_Num.meets (w64 ((r_v.Log.length : Int) + 3)) r2_17 _ _ h2_21)) (.c rT .n)))))))))) ?_
 obtain ⟨k6, hk6, h⟩ := jn_inv h
 have Jk6 : ∀ (j6_1 : TMsg) (j6_2 : TPicks), k6 j6_1 j6_2 = some (z0, z1) → WK Try.prog diwanplay_Picks_Letter.O (Ck Try.prog) (cR (cR (cR bd26))) [] (ofL [Tm 0 (.ptr 1000 0), Tm 4 (.ptr 4 0), Tm 5 (.ptr 5 0), Ob 4 (TMsg.ob_00000000010011000000011 (TMsg.mk 0 0 0 0 0 0 0 0 false [] (TTxn.mk 0 0 [] []) 0 0 0 0 false ByteArray.empty ByteArray.empty [] [] 0)), Ob 5 (TMsg.ob_00000000010011000000011 j6_1), Ob 1000 [sS 1 e_u8 j6_2.l, iv j6_2.n]]) (Fin Try.prog diwanplay_Picks_Letter.O Try.f26 1 ⟨.data (TMsg.ag_00000000010011000000011 z0), [[sS 1 e_u8 z1.l, iv z1.n]]⟩) := by
  intro j6_1 j6_2 h
  rw [hk6] at h
  obtain ⟨k10, hk10, h⟩ := jn_inv h
  have Jk10 : ∀ (j10_1 : TMsg), k10 j10_1 = some (z0, z1) → WK Try.prog diwanplay_Picks_Letter.O (Ck Try.prog) (cR (cR (cR (cR bd26)))) [] (ofL [Tm 0 (.ptr 1000 0), Tm 4 (.ptr 4 0), Tm 5 (.ptr 5 0), Ob 4 (TMsg.ob_00000000010011000000011 (TMsg.mk 0 0 0 0 0 0 0 0 false [] (TTxn.mk 0 0 [] []) 0 0 0 0 false ByteArray.empty ByteArray.empty [] [] 0)), Ob 5 (TMsg.ob_00000000010011000000011 j10_1), Ob 1000 [sS 1 e_u8 j6_2.l, iv j6_2.n]]) (Fin Try.prog diwanplay_Picks_Letter.O Try.f26 1 ⟨.data (TMsg.ag_00000000010011000000011 z0), [[sS 1 e_u8 z1.l, iv z1.n]]⟩) := by
   intro j10_1 h
   rw [hk10] at h
   refine kSq ?_
   refine kRs 63 [Tm 75 (bv (j10_1.Kind == 3))] [] .n ?_
   rcases br_inv h with ⟨b12_0, h⟩ | ⟨b12_0, h⟩
   ·refine kCt b12_0 ?_
    obtain ⟨⟨r13_1, r13_2⟩, h13_3, h⟩ := bd_inv h
    refine kRs 62 [Tm 6 (iv r13_1), Ob 1000 [sS 1 e_u8 r13_2.l, iv r13_2.n]] [.a ⟨iv r13_1, [[sS 1 e_u8 r13_2.l, iv r13_2.n]]⟩] (.c (Asks.of (C := Meets Try.prog) (diwanplay_Picks_Num.meets 4 j6_2 _ _ h13_3)) .n) ?_
    refine kBk 0 ?_
    obtain ⟨o30, ho30, h⟩ := bd_inv h
    refine kUs (diwanplay_Picks_Letter.lp14_ok fu (TMsg.mk 0 0 0 0 0 0 0 0 false [] (TTxn.mk 0 0 [] []) 0 0 0 0 false ByteArray.empty ByteArray.empty [] [] 0) _ r13_1 j10_1 r13_2 _ ho30) ?_
    intro e_ τ_ hp_
    obtain ⟨y30_0, y30_1⟩ := o30
    obtain ⟨rfl, rfl⟩ := hp_
    refine kCd (cR (cR (cR (cR (cR bd26))))) [] ?_
    refine kRs 17 [Ob 4 (TMsg.ob_00000000010011000000011 y30_0)] [] .n ?_
    refine kRt ?_
    have h_0 := some_inj h
    obtain ⟨g_1, h_1⟩ := Prod.mk.inj h_0
    subst g_1
    subst h_1
    exact kFr
   ·refine kCe b12_0 ?_
    refine kSk ?_
    refine kCd (cR (cR (cR (cR (cR bd26))))) [] ?_
    refine kRs 68 [Ob 4 (TMsg.ob_00000000010011000000011 j10_1)] [] .n ?_
    refine kRt ?_
    have h_0 := some_inj h
    obtain ⟨g_1, h_1⟩ := Prod.mk.inj h_0
    subst g_1
    subst h_1
    exact kFr
  clear hk10
  refine kSq ?_
  refine kRs 63 [Tm 71 (bv (j6_1.Index == 0))] [] .n ?_
  rcases br_inv h with ⟨b8_0, h⟩ | ⟨b8_0, h⟩
  ·refine kCt b8_0 ?_
   refine kRc 94 [Ob 5 (TMsg.ob_00000000010011000000011 (TMsg.mk j6_1.Kind j6_1.From j6_1.To j6_1.Part j6_1.Term j6_1.Index 0 j6_1.Commit j6_1.OK j6_1.Entries j6_1.T j6_1.Session j6_1.Seq j6_1.Pos j6_1.Shard j6_1.Span j6_1.FromKey j6_1.ToKey j6_1.Keys j6_1.Got j6_1.Err))] [] .n (cR (cR (cR (cR bd26)))) [] ?_
   exact kWk (Jk10 (TMsg.mk j6_1.Kind j6_1.From j6_1.To j6_1.Part j6_1.Term j6_1.Index 0 j6_1.Commit j6_1.OK j6_1.Entries j6_1.T j6_1.Session j6_1.Seq j6_1.Pos j6_1.Shard j6_1.Span j6_1.FromKey j6_1.ToKey j6_1.Keys j6_1.Got j6_1.Err) h)
  ·refine kCe b8_0 ?_
   refine kSk ?_
   refine kCd (cR (cR (cR (cR bd26)))) [] ?_
   exact kWk (Jk10 j6_1 h)
 clear hk6
 refine kSq ?_
 obtain ⟨⟨r3_1, r3_2⟩, h3_3, h⟩ := bd_inv h
 rcases br_inv h with ⟨b3_4, h⟩ | ⟨b3_4, h⟩
 ·rcases br_inv h with ⟨b3_5, h⟩ | ⟨b3_5, h⟩
  ·refine kRs 251 [Tm 59 (bv (decide (r2_13 ≤ (r_v.Log.length : Int)))), Ob 1000 [sS 1 e_u8 r3_2.l, iv r3_2.n]] (.a ⟨iv r3_1, [[sS 1 e_u8 r3_2.l, iv r3_2.n]]⟩ :: (rp 9 (.b true) [.s (.t 57) [iv (r_v.Log.length : Int)], .b true, .b true])) (.c (Asks.of (C := Meets Try.prog) (diwanplay_Picks_Num.meets 2 r2_20 _ _ h3_3)) (.r 4 b3_4 (.r 5 b3_5 (.c (c_len (e := TEntry.en) (l := r_v.Log)) (.r 2 b3_5 .n))))) ?_
   rcases br_inv h with ⟨b4_0, h⟩ | ⟨b4_0, h⟩
   ·refine kCt b4_0 ?_
    obtain ⟨x5_1, a5_2, e5_3, h⟩ := ix_inv h
    refine kRc 422 [Ob 5 (TMsg.ob_00000000010011000000011 (TMsg.mk (w64 (1 + r2_1)) (w64 (1 + r2_4)) r_v.Me 0 (if (w64 ((w64 (r_v.Term + r2_7)) - 1)) < 0 then 0 else (w64 ((w64 (r_v.Term + r2_7)) - 1))) r2_13 x5_1.Term r2_19 (decide (r2_10 > 0)) [] (TTxn.mk 0 0 [] []) 0 0 0 0 false ByteArray.empty ByteArray.empty [] [] 0))] [.c (TEntry.en x5_1)] (.c (c_ix (e := TEntry.en) a5_2 e5_3) (.c (c_el (e := TEntry.en) e5_3) .n)) (cR (cR (cR bd26))) [] ?_
    exact kWk (Jk6 (TMsg.mk (w64 (1 + r2_1)) (w64 (1 + r2_4)) r_v.Me 0 (if (w64 ((w64 (r_v.Term + r2_7)) - 1)) < 0 then 0 else (w64 ((w64 (r_v.Term + r2_7)) - 1))) r2_13 x5_1.Term r2_19 (decide (r2_10 > 0)) [] (TTxn.mk 0 0 [] []) 0 0 0 0 false ByteArray.empty ByteArray.empty [] [] 0) r3_2 h)
   ·refine kCe b4_0 ?_
    refine kSk ?_
    refine kCd (cR (cR (cR bd26))) [] ?_
    exact kWk (Jk6 (TMsg.mk (w64 (1 + r2_1)) (w64 (1 + r2_4)) r_v.Me 0 (if (w64 ((w64 (r_v.Term + r2_7)) - 1)) < 0 then 0 else (w64 ((w64 (r_v.Term + r2_7)) - 1))) r2_13 r2_16 r2_19 (decide (r2_10 > 0)) [] (TTxn.mk 0 0 [] []) 0 0 0 0 false ByteArray.empty ByteArray.empty [] [] 0) r3_2 h)
  ·refine kRs 251 [Tm 59 (bv false), Ob 1000 [sS 1 e_u8 r3_2.l, iv r3_2.n]] (.a ⟨iv r3_1, [[sS 1 e_u8 r3_2.l, iv r3_2.n]]⟩ :: (rp 4 (.b true) (rp 7 (.b false) []))) (.c (Asks.of (C := Meets Try.prog) (diwanplay_Picks_Num.meets 2 r2_20 _ _ h3_3)) (.r 4 b3_4 (.r 7 b3_5 .n))) ?_
   refine kCe rF ?_
   refine kSk ?_
   refine kCd (cR (cR (cR bd26))) [] ?_
   exact kWk (Jk6 (TMsg.mk (w64 (1 + r2_1)) (w64 (1 + r2_4)) r_v.Me 0 (if (w64 ((w64 (r_v.Term + r2_7)) - 1)) < 0 then 0 else (w64 ((w64 (r_v.Term + r2_7)) - 1))) r2_13 r2_16 r2_19 (decide (r2_10 > 0)) [] (TTxn.mk 0 0 [] []) 0 0 0 0 false ByteArray.empty ByteArray.empty [] [] 0) r3_2 h)
 ·refine kRs 251 [Tm 59 (bv false), Ob 1000 [sS 1 e_u8 r3_2.l, iv r3_2.n]] (.a ⟨iv r3_1, [[sS 1 e_u8 r3_2.l, iv r3_2.n]]⟩ :: (rp 11 (.b false) [])) (.c (Asks.of (C := Meets Try.prog) (diwanplay_Picks_Num.meets 2 r2_20 _ _ h3_3)) (.r 4 b3_4 (.r 7 rF .n))) ?_
  refine kCe rF ?_
  refine kSk ?_
  refine kCd (cR (cR (cR bd26))) [] ?_
  exact kWk (Jk6 (TMsg.mk (w64 (1 + r2_1)) (w64 (1 + r2_4)) r_v.Me 0 (if (w64 ((w64 (r_v.Term + r2_7)) - 1)) < 0 then 0 else (w64 ((w64 (r_v.Term + r2_7)) - 1))) r2_13 r2_16 r2_19 (decide (r2_10 > 0)) [] (TTxn.mk 0 0 [] []) 0 0 0 0 false ByteArray.empty ByteArray.empty [] [] 0) r3_2 h)
def bd54 : Code := (Try.f54.body).getD .skip
def raft_member_yields.O : Nat → Nat := fun t => bif ([8] : List Nat).any (Nat.beq t) then 1 else 0
def raft_member_yields (term : Int) (o0_v : TMember) : Option TMember :=
 some (TMember.mk (TRaft.mk o0_v.Raft.Me o0_v.Raft.Nodes o0_v.Raft.Wait term 0 o0_v.Raft.Log o0_v.Raft.Commit 0 0 (List.replicate o0_v.Raft.Votes.length (false : Bool)) o0_v.Raft.Next o0_v.Raft.Match o0_v.Raft.Clock) o0_v.out)
theorem raft_member_yields.meets (term : Int) (o0_v : TMember) (z0 : TMember) (h : raft_member_yields term o0_v = some z0) : Meets Try.prog ⟨54, [.ptr 1000 0, iv term], [(TMember.ob_00000100011101 o0_v)]⟩ ⟨.tup [], [(TMember.ob_00000100011101 z0)]⟩ := by
 refine kMt hmix raft_member_yields.O Try.f54 bd54 7 ?_
 unfold raft_member_yields at h
 refine kRs 1 [Ob 1000 (TMember.ob_00000100011101 (TMember.mk (TRaft.mk o0_v.Raft.Me o0_v.Raft.Nodes o0_v.Raft.Wait term 0 o0_v.Raft.Log o0_v.Raft.Commit 0 0 o0_v.Raft.Votes o0_v.Raft.Next o0_v.Raft.Match o0_v.Raft.Clock) o0_v.out))] [] .n ?_
 have h_ := some_inj h
 subst h_
 exact kRf [.s (.o 1000) (TMember.ob_00000100011101 (TMember.mk (TRaft.mk o0_v.Raft.Me o0_v.Raft.Nodes o0_v.Raft.Wait term 0 o0_v.Raft.Log o0_v.Raft.Commit 0 0 (List.replicate o0_v.Raft.Votes.length (false : Bool)) o0_v.Raft.Next o0_v.Raft.Match o0_v.Raft.Clock) o0_v.out))] (.c (congrArg (fun d : DV => (TMember.ob_00000100011101 (TMember.mk (TRaft.mk o0_v.Raft.Me o0_v.Raft.Nodes o0_v.Raft.Wait term 0 o0_v.Raft.Log o0_v.Raft.Commit 0 0 (List.replicate o0_v.Raft.Votes.length (false : Bool)) o0_v.Raft.Next o0_v.Raft.Match o0_v.Raft.Clock) o0_v.out)).set 9 (AV.data d)) (c_clr (e := e_b) (s := 1) (nl := none) (l := o0_v.Raft.Votes) (x := (false : Bool)))) .n)
def bd77 : Code := (Try.f77.body).getD .skip
def ulog_Newer.O : Nat → Nat := fun t => bif ([6, 7] : List Nat).any (Nat.beq t) then 1 else 0
def ulog_Newer (l : List TEntry) (i : Int) (term : Int) : Option Bool :=
 bd (ulog_Term l (l.length : Int)) fun r2_1 =>
 br (decide (term > r2_1))
  (some true)
  (br (term == r2_1)
   (some (decide (i ≥ (l.length : Int))))
   (some false))
theorem ulog_Newer.meets (l : List TEntry) (i : Int) (term : Int) (z0 : Bool) (h : ulog_Newer l i term = some z0) : Meets Try.prog ⟨77, [sS 6 TEntry.en l, iv i, iv term], []⟩ ⟨bv z0, []⟩ := by
 refine kMt hmix ulog_Newer.O Try.f77 bd77 7 ?_
 unfold ulog_Newer at h
 refine kRs 7 [] [] .n ?_
 obtain ⟨r2_1, h2_2, h⟩ := bd_inv h
 refine kRs 7 [Tm 7 (iv r2_1)] [.s (.t 10) [iv (l.length : Int)], .a ⟨iv r2_1, []⟩] (.c (c_len (e := TEntry.en) (l := l)) (.c (Asks.of (C := Meets Try.prog) (ulog_Term.meets l (l.length : Int) _ h2_2)) .n)) ?_
 rcases br_inv h with ⟨b3_1, h⟩ | ⟨b3_1, h⟩
 ·refine kRs 0 [Tm 6 (bv true)] (rp 6 (.b true) []) (.r 6 b3_1 .n) ?_
  refine kRt ?_
  have h_ := some_inj h
  subst h_
  exact kFr
 ·rcases br_inv h with ⟨b3_2, h⟩ | ⟨b3_2, h⟩
  ·refine kRs 0 [Tm 6 (bv (decide (i ≥ (l.length : Int))))] (rp 4 (.b false) [.b true, .b true, .b true, .s (.t 22) [iv (l.length : Int)], .b true, .b false, .b true, .b false]) (.r 4 b3_1 (.r 3 b3_2 (.c (c_len (e := TEntry.en) (l := l)) (.c b3_2 (.c b3_1 (.c b3_2 (.c b3_1 .n))))))) ?_
   refine kRt ?_
   have h_ := some_inj h
   subst h_
   exact kFr
  ·refine kRs 0 [Tm 6 (bv false)] (rp 11 (.b false) []) (.r 4 b3_1 (.r 4 b3_2 (.c b3_1 (.c b3_2 (.c b3_1 .n))))) ?_
   refine kRt ?_
   have h_ := some_inj h
   subst h_
   exact kFr
def raft_member_sends_2.O : Nat → Nat := fun t => bif ([5, 11, 26, 27] : List Nat).any (Nat.beq t) then 1 else 0
def raft_member_sends_2 (to : Int) (m : TMsg) (o0_v : TMember) : Option TMember :=
 gd (decide (o0_v.out.length + ([(TMsg.mk m.Kind o0_v.Raft.Me to m.Part o0_v.Raft.Term m.Index m.LogTerm m.Commit m.OK m.Entries m.T m.Session m.Seq m.Pos m.Shard m.Span m.FromKey m.ToKey m.Keys m.Got m.Err)] : List TMsg).length ≤ 4294967296)) <|
 some (TMember.mk o0_v.Raft (o0_v.out ++ ([(TMsg.mk m.Kind o0_v.Raft.Me to m.Part o0_v.Raft.Term m.Index m.LogTerm m.Commit m.OK m.Entries m.T m.Session m.Seq m.Pos m.Shard m.Span m.FromKey m.ToKey m.Keys m.Got m.Err)] : List TMsg)))
theorem raft_member_sends_2.meets (to : Int) (m : TMsg) (o0_v : TMember) (z0 : TMember) (h : raft_member_sends_2 to m o0_v = some z0) : Meets Try.prog ⟨78, [.ptr 1000 0, iv to, .data (TMsg.ag m)], [(TMember.ob_00000100011101 o0_v)]⟩ ⟨.tup [], [(TMember.ob_00000100011101 z0)]⟩ := by
 refine kMt hmix raft_member_sends_2.O Try.f78 bd78 15 ?_
 unfold raft_member_sends_2 at h
 refine kRs 11 [Tm 5 (.ptr 5 0), Ob 5 (TMsg.ob m)] [] .n ?_
 refine kRs 21 [Ob 5 (TMsg.ob (TMsg.mk m.Kind o0_v.Raft.Me to m.Part o0_v.Raft.Term m.Index m.LogTerm m.Commit m.OK m.Entries m.T m.Session m.Seq m.Pos m.Shard m.Span m.FromKey m.ToKey m.Keys m.Got m.Err))] [] (.c rT .n) ?_
 obtain ⟨c3_1, h⟩ := gd_inv h
 have h_ := some_inj h
 subst h_
 exact kRf [.s (.t 27) [sO 24 TMsg.en (o0_v.out ++ ([(TMsg.mk m.Kind o0_v.Raft.Me to m.Part o0_v.Raft.Term m.Index m.LogTerm m.Commit m.OK m.Entries m.T m.Session m.Seq m.Pos m.Shard m.Span m.FromKey m.ToKey m.Keys m.Got m.Err)] : List TMsg))]] (.c (c_al (e := TMsg.en) (f := TMsg.en) c3_1) (.c (congrArg (fun d : DV => [AV.data d]) (c_app (e := TMsg.en) (s := 24) (l := o0_v.out) (m := ([(TMsg.mk m.Kind o0_v.Raft.Me to m.Part o0_v.Raft.Term m.Index m.LogTerm m.Commit m.OK m.Entries m.T m.Session m.Seq m.Pos m.Shard m.Span m.FromKey m.ToKey m.Keys m.Got m.Err)] : List TMsg)))) (.c rT .n)))
def bd50 : Code := (Try.f50.body).getD .skip
def raft_member_askVote.O : Nat → Nat := fun t => bif ([3, 4, 58] : List Nat).any (Nat.beq t) then 1 else 0
def raft_member_askVote (m : TMsg) (o0_v : TMember) : Option TMember :=
 jn (fun (j3_0 : Bool) =>
  br j3_0
   (bd (raft_member_sends_2 m.From (TMsg.mk 2 0 0 0 0 0 0 0 j3_0 [] (TTxn.mk 0 0 [] []) 0 0 0 0 false ByteArray.empty ByteArray.empty [] [] 0) (TMember.mk (TRaft.mk o0_v.Raft.Me o0_v.Raft.Nodes o0_v.Raft.Wait o0_v.Raft.Term m.From o0_v.Raft.Log o0_v.Raft.Commit o0_v.Raft.Role o0_v.Raft.Leader o0_v.Raft.Votes o0_v.Raft.Next o0_v.Raft.Match 0) o0_v.out)) fun r7_1 =>
   some r7_1)
   (bd (raft_member_sends_2 m.From (TMsg.mk 2 0 0 0 0 0 0 0 j3_0 [] (TTxn.mk 0 0 [] []) 0 0 0 0 false ByteArray.empty ByteArray.empty [] [] 0) o0_v) fun r8_1 =>
   some r8_1)) fun k3 =>
 br (m.Term == o0_v.Raft.Term)
  (br (o0_v.Raft.Vote == 0)
   (bd (ulog_Newer o0_v.Raft.Log m.Index m.LogTerm) fun r2_3 =>
   k3 r2_3)
   (br (o0_v.Raft.Vote == m.From)
    (bd (ulog_Newer o0_v.Raft.Log m.Index m.LogTerm) fun r2_4 =>
    k3 r2_4)
    (k3 false)))
  (k3 false)
theorem raft_member_askVote.meets (m : TMsg) (o0_v : TMember) (z0 : TMember) (h : raft_member_askVote m o0_v = some z0) : Meets Try.prog ⟨50, [.ptr 1000 0, .data (TMsg.ag m)], [(TMember.ob_00000100011101 o0_v)]⟩ ⟨.tup [], [(TMember.ob_00000100011101 z0)]⟩ := by
 refine kMt hmix raft_member_askVote.O Try.f50 bd50 7 ?_
 unfold raft_member_askVote at h
 refine kRs 5 [Tm 3 (.ptr 3 0), Ob 3 (TMsg.ob m)] [] .n ?_
 obtain ⟨k3, hk3, h⟩ := jn_inv h
 have Jk3 : ∀ (j3_0 : Bool), k3 j3_0 = some z0 → WK Try.prog raft_member_askVote.O (Ck Try.prog) (cR (cR bd50)) [] (ofL [Tm 0 (.ptr 1000 0), Tm 3 (.ptr 3 0), Tm 4 (bv j3_0), Ob 3 (TMsg.ob m), Ob 1000 (TMember.ob_00000100011101 o0_v)]) (Fin Try.prog raft_member_askVote.O Try.f50 1 ⟨.tup [], [(TMember.ob_00000100011101 z0)]⟩) := by
  intro j3_0 h
  rw [hk3] at h
  refine kSq ?_
  refine kRs 31 [Tm 43 (bv j3_0)] [] .n ?_
  rcases br_inv h with ⟨b5_0, h⟩ | ⟨b5_0, h⟩
  ·refine kCt b5_0 ?_
   refine kRc 30 [Ob 1000 (TMember.ob_00000100011101 (TMember.mk (TRaft.mk o0_v.Raft.Me o0_v.Raft.Nodes o0_v.Raft.Wait o0_v.Raft.Term m.From o0_v.Raft.Log o0_v.Raft.Commit o0_v.Raft.Role o0_v.Raft.Leader o0_v.Raft.Votes o0_v.Raft.Next o0_v.Raft.Match 0) o0_v.out))] [] .n (cR (cR (cR bd50))) [] ?_
   obtain ⟨r7_1, h7_2, h⟩ := bd_inv h
   have h_ := some_inj h
   subst h_
   exact kRf [.a ⟨.tup [], [(TMember.ob_00000100011101 r7_1)]⟩] (.c (Asks.of (C := Meets Try.prog) (raft_member_sends_2.meets m.From (TMsg.mk 2 0 0 0 0 0 0 0 j3_0 [] (TTxn.mk 0 0 [] []) 0 0 0 0 false ByteArray.empty ByteArray.empty [] [] 0) (TMember.mk (TRaft.mk o0_v.Raft.Me o0_v.Raft.Nodes o0_v.Raft.Wait o0_v.Raft.Term m.From o0_v.Raft.Log o0_v.Raft.Commit o0_v.Raft.Role o0_v.Raft.Leader o0_v.Raft.Votes o0_v.Raft.Next o0_v.Raft.Match 0) o0_v.out) _ h7_2)) .n)
  ·refine kCe b5_0 ?_
   refine kSk ?_
   refine kCd (cR (cR (cR bd50))) [] ?_
   obtain ⟨r8_1, h8_2, h⟩ := bd_inv h
   have h_ := some_inj h
   subst h_
   exact kRf [.a ⟨.tup [], [(TMember.ob_00000100011101 r8_1)]⟩] (.c (Asks.of (C := Meets Try.prog) (raft_member_sends_2.meets m.From (TMsg.mk 2 0 0 0 0 0 0 0 j3_0 [] (TTxn.mk 0 0 [] []) 0 0 0 0 false ByteArray.empty ByteArray.empty [] [] 0) o0_v _ h8_2)) .n)
 clear hk3
 rcases br_inv h with ⟨b2_1, h⟩ | ⟨b2_1, h⟩
 ·rcases br_inv h with ⟨b2_2, h⟩ | ⟨b2_2, h⟩
  ·obtain ⟨r2_3, h2_4, h⟩ := bd_inv h
   refine kRs 15 [Tm 4 (bv r2_3)] (rp 28 (.b true) [.a ⟨bv r2_3, []⟩, .b true]) (.r 7 b2_1 (.r 8 b2_2 (.c b2_1 (.c b2_2 (.c b2_1 (.r 10 rT (.c (Asks.of (C := Meets Try.prog) (ulog_Newer.meets o0_v.Raft.Log m.Index m.LogTerm _ h2_4)) (.r 2 rT .n)))))))) ?_
   exact kWk (Jk3 r2_3 h)
  ·rcases br_inv h with ⟨b2_3, h⟩ | ⟨b2_3, h⟩
   ·obtain ⟨r2_4, h2_5, h⟩ := bd_inv h
    refine kRs 15 [Tm 4 (bv r2_4)] (rp 7 (.b true) (rp 8 (.b false) (.b true :: (.b false :: (rp 11 (.b true) [.a ⟨bv r2_4, []⟩, .b true]))))) (.r 7 b2_1 (.r 8 b2_2 (.c b2_1 (.c b2_2 (.c b2_1 (.r 10 b2_3 (.c (Asks.of (C := Meets Try.prog) (ulog_Newer.meets o0_v.Raft.Log m.Index m.LogTerm _ h2_5)) (.c b2_3 (.c rT .n))))))))) ?_
    exact kWk (Jk3 r2_4 h)
   ·refine kRs 15 [Tm 4 (bv false)] (rp 7 (.b true) (rp 8 (.b false) (.b true :: (.b false :: (.b true :: (rp 11 (.b false) [])))))) (.r 7 b2_1 (.r 8 b2_2 (.c b2_1 (.c b2_2 (.c b2_1 (.r 11 b2_3 (.c rT .n))))))) ?_
    exact kWk (Jk3 false h)
 ·refine kRs 15 [Tm 4 (bv false)] (rp 20 (.b false) []) (.r 9 b2_1 (.r 11 rF (.c rT .n))) ?_
  exact kWk (Jk3 false h)
def bd51 : Code := (Try.f51.body).getD .skip
def raft_member_vote.O : Nat → Nat := fun t => bif ([3] : List Nat).any (Nat.beq t) then 1 else 0
def raft_member_vote (fu : Nat) (m : TMsg) (o0_v : TMember) : Option TMember :=
 br (m.Term == o0_v.Raft.Term)
  (br (o0_v.Raft.Role == 1)
   (br m.OK
    (ix o0_v.Raft.Votes (w64 (m.From - 1)) fun x4_1 =>
    bd (raft_member_elected fu (TMember.mk (TRaft.mk o0_v.Raft.Me o0_v.Raft.Nodes o0_v.Raft.Wait o0_v.Raft.Term o0_v.Raft.Vote o0_v.Raft.Log o0_v.Raft.Commit o0_v.Raft.Role o0_v.Raft.Leader (o0_v.Raft.Votes.set (w64 (m.From - 1)).toNat true) o0_v.Raft.Next o0_v.Raft.Match o0_v.Raft.Clock) o0_v.out)) fun (r5_1, r5_2) =>
    some r5_2)
    (some o0_v))
   (some o0_v))
  (some o0_v)
theorem raft_member_vote.meets (fu : Nat) (m : TMsg) (o0_v : TMember) (z0 : TMember) (h : raft_member_vote fu m o0_v = some z0) : Meets Try.prog ⟨51, [.ptr 1000 0, .data (TMsg.ag m)], [(TMember.ob_00000100011101 o0_v)]⟩ ⟨.tup [], [(TMember.ob_00000000011101 z0)]⟩ := by
 refine kMt hmix raft_member_vote.O Try.f51 bd51 7 ?_
 unfold raft_member_vote at h
 refine kRs 5 [Tm 3 (.ptr 3 0), Ob 3 (TMsg.ob m)] [] .n ?_
 rcases br_inv h with ⟨b2_1, h⟩ | ⟨b2_1, h⟩
 ·rcases br_inv h with ⟨b2_2, h⟩ | ⟨b2_2, h⟩
  ·refine kRs 15 [Tm 23 (bv m.OK)] (rp 10 (.b true) []) (.r 7 b2_1 (.r 3 b2_2 (.c rT .n))) ?_
   rcases br_inv h with ⟨b3_0, h⟩ | ⟨b3_0, h⟩
   ·refine kCt b3_0 ?_
    obtain ⟨x4_1, a4_2, e4_3, h⟩ := ix_inv h
    refine kRs 8 [Ob 1000 (TMember.ob_00000100011101 (TMember.mk (TRaft.mk o0_v.Raft.Me o0_v.Raft.Nodes o0_v.Raft.Wait o0_v.Raft.Term o0_v.Raft.Vote o0_v.Raft.Log o0_v.Raft.Commit o0_v.Raft.Role o0_v.Raft.Leader (o0_v.Raft.Votes.set (w64 (m.From - 1)).toNat true) o0_v.Raft.Next o0_v.Raft.Match o0_v.Raft.Clock) o0_v.out))] [.c (e_b x4_1), .s (.o 1000) (TMember.ob_00000100011101 (TMember.mk (TRaft.mk o0_v.Raft.Me o0_v.Raft.Nodes o0_v.Raft.Wait o0_v.Raft.Term o0_v.Raft.Vote o0_v.Raft.Log o0_v.Raft.Commit o0_v.Raft.Role o0_v.Raft.Leader (o0_v.Raft.Votes.set (w64 (m.From - 1)).toNat true) o0_v.Raft.Next o0_v.Raft.Match o0_v.Raft.Clock) o0_v.out))] (.c (c_ix (e := e_b) a4_2 e4_3) (.c (c_el (e := e_b) e4_3) (.c (congrArg (fun d : DV => (TMember.ob_00000100011101 (TMember.mk (TRaft.mk o0_v.Raft.Me o0_v.Raft.Nodes o0_v.Raft.Wait o0_v.Raft.Term o0_v.Raft.Vote o0_v.Raft.Log o0_v.Raft.Commit o0_v.Raft.Role o0_v.Raft.Leader (o0_v.Raft.Votes.set (w64 (m.From - 1)).toNat true) o0_v.Raft.Next o0_v.Raft.Match o0_v.Raft.Clock) o0_v.out)).set 9 (AV.data d)) (c_set (e := e_b) (s := 1) (nl := none) (l := o0_v.Raft.Votes) (i := (w64 (m.From - 1)).toNat) (x := true))) (.c rT .n)))) ?_
    obtain ⟨⟨r5_1, r5_2⟩, h5_3, h⟩ := bd_inv h
    have h_ := some_inj h
    subst h_
    exact kRf [.a ⟨bv r5_1, [(TMember.ob_00000000011101 r5_2)]⟩] (.c (Asks.of (C := Meets Try.prog) (raft_member_elected.meets fu (TMember.mk (TRaft.mk o0_v.Raft.Me o0_v.Raft.Nodes o0_v.Raft.Wait o0_v.Raft.Term o0_v.Raft.Vote o0_v.Raft.Log o0_v.Raft.Commit o0_v.Raft.Role o0_v.Raft.Leader (o0_v.Raft.Votes.set (w64 (m.From - 1)).toNat true) o0_v.Raft.Next o0_v.Raft.Match o0_v.Raft.Clock) o0_v.out) _ _ h5_3)) .n)
   ·refine kCe b3_0 ?_
    refine kSo 1000 5 0 [Ob 1000 (TMember.ob_00000000011101 o0_v)] ?_
    refine kSk ?_
    have h_ := some_inj h
    subst h_
    exact kFn
  ·refine kRs 15 [Tm 23 (bv false)] (rp 7 (.b true) [.b false, .b false, .b false]) (.r 7 b2_1 (.r 3 b2_2 (.c rT .n))) ?_
   refine kCe rF ?_
   refine kSo 1000 5 0 [Ob 1000 (TMember.ob_00000000011101 o0_v)] ?_
   refine kSk ?_
   have h_ := some_inj h
   subst h_
   exact kFn
 ·refine kRs 15 [Tm 23 (bv false)] (rp 10 (.b false) []) (.r 7 b2_1 (.r 3 rF (.c rT .n))) ?_
  refine kCe rF ?_
  refine kSo 1000 5 0 [Ob 1000 (TMember.ob_00000000011101 o0_v)] ?_
  refine kSk ?_
  have h_ := some_inj h
  subst h_
  exact kFn
def bd80 : Code := (Try.f80.body).getD .skip
def ulog_Has.O : Nat → Nat := fun t => bif ([6] : List Nat).any (Nat.beq t) then 1 else 0
def ulog_Has (l : List TEntry) (i : Int) (term : Int) : Option Bool :=
 br (i == 0)
  (some true)
  (br (decide (i ≥ 1))
   (br (decide (i ≤ (l.length : Int)))
    (bd (ulog_Term l i) fun r2_4 =>
    some (r2_4 == term))
    (some false))
   (some false))
theorem ulog_Has.meets (l : List TEntry) (i : Int) (term : Int) (z0 : Bool) (h : ulog_Has l i term = some z0) : Meets Try.prog ⟨80, [sS 6 TEntry.en l, iv i, iv term], []⟩ ⟨bv z0, []⟩ := by
 refine kMt hmix ulog_Has.O Try.f80 bd80 7 ?_
 unfold ulog_Has at h
 refine kRs 7 [] [] .n ?_
 rcases br_inv h with ⟨b2_1, h⟩ | ⟨b2_1, h⟩
 ·refine kRs 0 [Tm 6 (bv true)] (rp 7 (.b true) []) (.r 7 b2_1 .n) ?_
  refine kRt ?_
  have h_ := some_inj h
  subst h_
  exact kFr
 ·rcases br_inv h with ⟨b2_2, h⟩ | ⟨b2_2, h⟩
  ·rcases br_inv h with ⟨b2_3, h⟩ | ⟨b2_3, h⟩
   ·obtain ⟨r2_4, h2_5, h⟩ := bd_inv h
    refine kRs 0 [Tm 6 (bv (r2_4 == term))] [.b false, .b false, .b false, .b true, .b true, .b true, .s (.t 15) [iv (l.length : Int)], .b true, .b false, .b true, .b false, .b true, .b true, .b true, .a ⟨iv r2_4, []⟩, .b true, .b true, .b false, .b true, .b false] (.r 3 b2_1 (.r 3 b2_2 (.c (c_len (e := TEntry.en) (l := l)) (.c b2_2 (.c b2_1 (.c b2_2 (.c b2_1 (.r 3 b2_3 (.c (Asks.of (C := Meets Try.prog) (ulog_Term.meets l i _ h2_5)) (.r 2 b2_3 (.c b2_1 (.c b2_3 (.c b2_1 .n))))))))))))) ?_
    refine kRt ?_
    have h_ := some_inj h
    subst h_
    exact kFr
   ·refine kRs 0 [Tm 6 (bv false)] (.b false :: (.b false :: (.b false :: (.b true :: (.b true :: (.b true :: (.s (.t 15) [iv (l.length : Int)] :: (.b true :: (.b false :: (.b true :: (rp 9 (.b false) []))))))))))) (.r 3 b2_1 (.r 3 b2_2 (.c (c_len (e := TEntry.en) (l := l)) (.c b2_2 (.c b2_1 (.c b2_2 (.c b2_1 (.r 5 b2_3 (.c b2_1 (.c b2_3 (.c b2_1 .n))))))))))) ?_
    refine kRt ?_
    have h_ := some_inj h
    subst h_
    exact kFr
  ·refine kRs 0 [Tm 6 (bv false)] (rp 18 (.b false) []) (.r 3 b2_1 (.r 4 b2_2 (.c b2_1 (.c b2_2 (.c b2_1 (.r 5 rF (.c b2_1 (.c rF (.c b2_1 .n))))))))) ?_
   refine kRt ?_
   have h_ := some_inj h
   subst h_
   exact kFr
def bd106 : Code := (Try.f106.body).getD .skip
def slices_Grow_api_Entry.O : Nat → Nat := fun t => bif ([0, 1, 4, 25] : List Nat).any (Nat.beq t) then 1 else 0
def slices_Grow_api_Entry (n_v : Int) : Option (List TEntry) :=
 br (decide (n_v < 0))
  (none)
  (br (decide ((w64 (n_v - (w64 (0 - 0)))) > 0))
   (gd (decide ((0 : Int) ≤ (0 : Int) ∧ (0 : Int) ≤ (([] : List TEntry).length : Int))) <|
   gd (decide ((0 : Int) ≤ (w64 (n_v - (w64 (0 - 0)))) ∧ (w64 (n_v - (w64 (0 - 0)))) ≤ 4294967296)) <|
   gd (decide ((List.take (0 : Int).toNat ([] : List TEntry)).length + (w64 (n_v - (w64 (0 - 0)))).toNat ≤ 4294967296)) <|
   gd (decide ((0 : Int) ≤ (0 : Int) ∧ (0 : Int) ≤ (((List.take (0 : Int).toNat ([] : List TEntry)) ++ List.replicate (w64 (n_v - (w64 (0 - 0)))).toNat ((TEntry.mk 0 false (TTxn.mk 0 0 [] [])) : TEntry)).length : Int))) <|
   some (List.take (0 : Int).toNat ((List.take (0 : Int).toNat ([] : List TEntry)) ++ List.replicate (w64 (n_v - (w64 (0 - 0)))).toNat ((TEntry.mk 0 false (TTxn.mk 0 0 [] [])) : TEntry))))
   (some []))
theorem slices_Grow_api_Entry.meets (n_v : Int) (z0 : List TEntry) (h : slices_Grow_api_Entry n_v = some z0) : Meets Try.prog ⟨106, [.data (.slc false (some true) 6 (List.map TEntry.en [])), iv n_v], []⟩ ⟨sO 6 TEntry.en z0, []⟩ := by
 refine kMt hmix slices_Grow_api_Entry.O Try.f106 bd106 3 ?_
 unfold slices_Grow_api_Entry at h
 refine kRs 3 [] [] .n ?_
 refine kSq ?_
 refine kRs 3 [Tm 6 (bv (decide (n_v < 0)))] [] .n ?_
 rcases br_inv h with ⟨b3_0, h⟩ | ⟨b3_0, h⟩
 ·refine kCt b3_0 ?_
  exact no_none h
 ·refine kCe b3_0 ?_
  refine kSk ?_
  refine kCd (cR (cR bd106)) [] ?_
  refine kSq ?_
  refine kRs 2 [Tm 1 (iv (w64 (n_v - (w64 (0 - 0)))))] [] .n ?_
  refine kRs 3 [Tm 16 (bv (decide ((w64 (n_v - (w64 (0 - 0)))) > 0)))] [] .n ?_
  rcases br_inv h with ⟨b7_0, h⟩ | ⟨b7_0, h⟩
  ·refine kCt b7_0 ?_
   obtain ⟨c8_1, h⟩ := gd_inv h
   obtain ⟨c8_2, h⟩ := gd_inv h
   obtain ⟨c8_3, h⟩ := gd_inv h
   obtain ⟨c8_4, h⟩ := gd_inv h
   refine kRc 0 [Tm 0 (sO 6 TEntry.en (List.take (0 : Int).toNat ((List.take (0 : Int).toNat ([] : List TEntry)) ++ List.replicate (w64 (n_v - (w64 (0 - 0)))).toNat ((TEntry.mk 0 false (TTxn.mk 0 0 [] [])) : TEntry))))] [.s (.t 20) [.data (.slc false (some true) 6 (List.map TEntry.en (List.take (0 : Int).toNat ([] : List TEntry))))], .s (.t 22) [sO 6 TEntry.en ((List.take (0 : Int).toNat ([] : List TEntry)) ++ List.replicate (w64 (n_v - (w64 (0 - 0)))).toNat ((TEntry.mk 0 false (TTxn.mk 0 0 [] [])) : TEntry))], .s (.t 25) [sO 6 TEntry.en (List.take (0 : Int).toNat ((List.take (0 : Int).toNat ([] : List TEntry)) ++ List.replicate (w64 (n_v - (w64 (0 - 0)))).toNat ((TEntry.mk 0 false (TTxn.mk 0 0 [] [])) : TEntry)))]] (.c (c_cbH (e := TEntry.en) c8_1) (.c (congrArg (fun d : DV => [AV.data d]) (c_cutH (own := false) (nl := (some true)) (s := 6) (e := TEntry.en) (l := ([] : List TEntry)) (h := (0 : Int).toNat))) (.c c8_2 (.c (c_alz (e := TEntry.en) c8_3) (.c (congrArg (fun d : DV => [AV.data d]) (c_appz (e := TEntry.en) (s := 6) (l := (List.take (0 : Int).toNat ([] : List TEntry))) (n := (w64 (n_v - (w64 (0 - 0)))).toNat) (x := ((TEntry.mk 0 false (TTxn.mk 0 0 [] [])) : TEntry)))) (.c (c_cbH (e := TEntry.en) c8_4) (.c (congrArg (fun d : DV => [AV.data d]) (c_cutH (own := true) (nl := none) (s := 6) (e := TEntry.en) (l := ((List.take (0 : Int).toNat ([] : List TEntry)) ++ List.replicate (w64 (n_v - (w64 (0 - 0)))).toNat ((TEntry.mk 0 false (TTxn.mk 0 0 [] [])) : TEntry))) (h := (0 : Int).toNat))) .n))))))) (cR (cR (cR bd106))) [] ?_
   refine kRs 0 [Tm 4 (sO 6 TEntry.en (List.take (0 : Int).toNat ((List.take (0 : Int).toNat ([] : List TEntry)) ++ List.replicate (w64 (n_v - (w64 (0 - 0)))).toNat ((TEntry.mk 0 false (TTxn.mk 0 0 [] [])) : TEntry))))] [] .n ?_
   refine kRt ?_
   have h_ := some_inj h
   subst h_
   exact kFr
  ·refine kCe b7_0 ?_
   refine kSk ?_
   refine kCd (cR (cR (cR bd106))) [] ?_
   refine kRs 0 [Tm 4 (.data (.slc true (some true) 6 (List.map TEntry.en [])))] [] .n ?_
   refine kWd 0 [Tm 4 (.data (.slc true none 6 (List.map TEntry.en [])))] ?_
   refine kRt ?_
   have h_ := some_inj h
   subst h_
   exact kFr
def bd100 : Code := (Try.f100.body).getD .skip
def slices_Concat_api_Entry.O : Nat → Nat := fun t => bif ([2, 3, 6] : List Nat).any (Nat.beq t) then 1 else 0
def slices_Concat_api_Entry.lp4 (fu : Nat) (l4_0 : List (List TEntry)) (l4_2 : List (List TEntry)) (l4_3 : Int) : Nat → Int → Int → Option Int
  | 0, _, _ => none
  | n_ + 1, l4_1, l4_4 =>
  br (decide (l4_4 < l4_3))
   (ix l4_2 l4_4 fun x7_1 =>
   br (decide ((w64 (l4_1 + (x7_1.length : Int))) < 0))
    (none)
    (slices_Concat_api_Entry.lp4 fu l4_0 l4_2 l4_3 n_ (w64 (l4_1 + (x7_1.length : Int))) (w64 (l4_4 + 1))))
   (some l4_1)
def slices_Concat_api_Entry.lp4_post (l4_0 : List (List TEntry)) (l4_2 : List (List TEntry)) (l4_3 : Int) (r_ : Int) : Wy → St → Prop := fun e τ => match r_ with
  | y0 => e = .exit 0 ∧ τ = ofL [Tm 0 (sS 1 (e_l 6 TEntry.en) l4_0), Tm 3 (iv y0)]
theorem slices_Concat_api_Entry.lp4_ok (fu : Nat) (l4_0 : List (List TEntry)) (l4_2 : List (List TEntry)) (l4_3 : Int) : ∀ (n_ : Nat) (l4_1 : Int) (l4_4 : Int) (r_ : Int), slices_Concat_api_Entry.lp4 fu l4_0 l4_2 l4_3 n_ l4_1 l4_4 = some r_ → WK Try.prog slices_Concat_api_Entry.O (Ck Try.prog) (cB (cR (cL (cR (cR bd100))))) [] (ofL [Tm 0 (sS 1 (e_l 6 TEntry.en) l4_0), Tm 3 (iv l4_1), Tm 9 (sS 1 (e_l 6 TEntry.en) l4_2), Tm 10 (iv l4_3), Tm 11 (iv l4_4)]) (slices_Concat_api_Entry.lp4_post l4_0 l4_2 l4_3 r_) := by
 intro n_
 induction n_ with
 | zero => intro l4_1 l4_4 r_ h; exact no_none h
 | succ n_ ih =>
  intro l4_1 l4_4 r_ h
  refine kLp ?_
  refine kRs 31 [Tm 12 (bv (decide (l4_4 < l4_3)))] [] .n ?_
  refine kSq ?_
  rcases br_inv h with ⟨b6_0, h⟩ | ⟨b6_0, h⟩
  ·refine kCt b6_0 ?_
   refine kSk ?_
   refine kCd (cR (cR (cB (cB (cR (cL (cR (cR bd100)))))))) [.lp (cB (cR (cL (cR (cR bd100)))))] ?_
   refine kSq ?_
   refine kBk 1 ?_
   obtain ⟨x7_1, a7_2, e7_3, h⟩ := ix_inv h
   refine kRs 62 [Tm 5 (sS 6 TEntry.en x7_1)] [.c ((e_l 6 TEntry.en) x7_1)] (.c (c_ix (e := (e_l 6 TEntry.en)) a7_2 e7_3) (.c (c_el (e := (e_l 6 TEntry.en)) e7_3) .n)) ?_
   refine kRs 58 [Tm 3 (iv (w64 (l4_1 + (x7_1.length : Int))))] [.s (.t 17) [iv (x7_1.length : Int)]] (.c (c_len (e := TEntry.en) (l := x7_1)) .n) ?_
   refine kRs 31 [Tm 20 (bv (decide ((w64 (l4_1 + (x7_1.length : Int))) < 0)))] [] .n ?_
   rcases br_inv h with ⟨b10_0, h⟩ | ⟨b10_0, h⟩
   ·refine kCt b10_0 ?_
    exact no_none h
   ·refine kCe b10_0 ?_
    refine kSk ?_
    refine kCd (cR (cR (cR (cB (cB (cR (cL (cR (cR bd100))))))))) [.lp (cB (cR (cL (cR (cR bd100)))))] ?_
    refine kRc 30 [Tm 11 (iv (w64 (l4_4 + 1)))] [] .n (cB (cR (cL (cR (cR bd100))))) [] ?_
    exact kWk (ih (w64 (l4_1 + (x7_1.length : Int))) (w64 (l4_4 + 1)) _ h)
  ·refine kCe b6_0 ?_
   cases some_inj h
   refine kWo ?_
   refine kXt 0 ?_
   exact kOut
def slices_Concat_api_Entry.lp16 (fu : Nat) (l16_1 : List (List TEntry)) (l16_2 : Int) : Nat → (List TEntry) → Int → Option (List TEntry)
  | 0, _, _ => none
  | n_ + 1, l16_0, l16_3 =>
  br (decide (l16_3 < l16_2))
   (ix l16_1 l16_3 fun x19_1 =>
   gd (decide (l16_0.length + x19_1.length ≤ 4294967296)) <|
   slices_Concat_api_Entry.lp16 fu l16_1 l16_2 n_ (l16_0 ++ x19_1) (w64 (l16_3 + 1)))
   (some l16_0)
def slices_Concat_api_Entry.lp16_post (l16_1 : List (List TEntry)) (l16_2 : Int) (r_ : (List TEntry)) : Wy → St → Prop := fun e τ => match r_ with
  | y0 => e = .exit 2 ∧ τ = ofL [Tm 6 (sO 6 TEntry.en y0)]
theorem slices_Concat_api_Entry.lp16_ok (fu : Nat) (l16_1 : List (List TEntry)) (l16_2 : Int) : ∀ (n_ : Nat) (l16_0 : List TEntry) (l16_3 : Int) (r_ : (List TEntry)), slices_Concat_api_Entry.lp16 fu l16_1 l16_2 n_ l16_0 l16_3 = some r_ → WK Try.prog slices_Concat_api_Entry.O (Ck Try.prog) (cB (cR (cL (cR (cR (cR (cR bd100))))))) [] (ofL [Tm 6 (sO 6 TEntry.en l16_0), Tm 25 (sS 1 (e_l 6 TEntry.en) l16_1), Tm 26 (iv l16_2), Tm 27 (iv l16_3)]) (slices_Concat_api_Entry.lp16_post l16_1 l16_2 r_) := by
 intro n_
 induction n_ with
 | zero => intro l16_0 l16_3 r_ h; exact no_none h
 | succ n_ ih =>
  intro l16_0 l16_3 r_ h
  refine kLp ?_
  refine kRs 15 [Tm 28 (bv (decide (l16_3 < l16_2)))] [] .n ?_
  refine kSq ?_
  rcases br_inv h with ⟨b18_0, h⟩ | ⟨b18_0, h⟩
  ·refine kCt b18_0 ?_
   refine kSk ?_
   refine kCd (cR (cR (cB (cB (cR (cL (cR (cR (cR (cR bd100)))))))))) [.lp (cB (cR (cL (cR (cR (cR (cR bd100)))))))] ?_
   refine kSq ?_
   refine kBk 3 ?_
   obtain ⟨x19_1, a19_2, e19_3, h⟩ := ix_inv h
   refine kRs 30 [Tm 8 (sS 6 TEntry.en x19_1)] [.c ((e_l 6 TEntry.en) x19_1)] (.c (c_ix (e := (e_l 6 TEntry.en)) a19_2 e19_3) (.c (c_el (e := (e_l 6 TEntry.en)) e19_3) .n)) ?_
   obtain ⟨c20_1, h⟩ := gd_inv h
   refine kRc 28 [Tm 6 (sO 6 TEntry.en (l16_0 ++ x19_1))] [.s (.t 33) [sO 6 TEntry.en (l16_0 ++ x19_1)]] (.c (c_al (e := TEntry.en) (f := TEntry.en) c20_1) (.c (congrArg (fun d : DV => [AV.data d]) (c_app (e := TEntry.en) (s := 6) (l := l16_0) (m := x19_1))) .n)) (cR (cR (cR (cB (cB (cR (cL (cR (cR (cR (cR bd100))))))))))) [.lp (cB (cR (cL (cR (cR (cR (cR bd100)))))))] ?_
   refine kRc 7 [Tm 27 (iv (w64 (l16_3 + 1)))] [] .n (cB (cR (cL (cR (cR (cR (cR bd100))))))) [] ?_
   exact kWk (ih (l16_0 ++ x19_1) (w64 (l16_3 + 1)) _ h)
  ·refine kCe b18_0 ?_
   cases some_inj h
   refine kWo ?_
   refine kXt 2 ?_
   exact kOut
def slices_Concat_api_Entry (fu : Nat) (slices : List (List TEntry)) : Option (List TEntry) :=
 bd (slices_Concat_api_Entry.lp4 fu slices slices (slices.length : Int) fu 0 0) fun y13_0 =>
 bd (slices_Grow_api_Entry y13_0) fun r14_1 =>
 bd (slices_Concat_api_Entry.lp16 fu slices (slices.length : Int) fu r14_1 0) fun y22_0 =>
 some y22_0
theorem slices_Concat_api_Entry.meets (fu : Nat) (slices : List (List TEntry)) (z0 : List TEntry) (h : slices_Concat_api_Entry fu slices = some z0) : Meets Try.prog ⟨100, [sS 1 (e_l 6 TEntry.en) slices], []⟩ ⟨sO 6 TEntry.en z0, []⟩ := by
 refine kMt hmix slices_Concat_api_Entry.O Try.f100 bd100 1 ?_
 unfold slices_Concat_api_Entry at h
 refine kRs 1 [] [] .n ?_
 refine kRs 1 [Tm 3 (iv 0)] [] .n ?_
 refine kSq ?_
 refine kRs 3 [Tm 9 (sS 1 (e_l 6 TEntry.en) slices), Tm 10 (iv (slices.length : Int)), Tm 11 (iv 0)] [.s (.t 10) [iv (slices.length : Int)]] (.c (c_len (e := (e_l 6 TEntry.en)) (l := slices)) .n) ?_
 refine kBk 0 ?_
 obtain ⟨o13, ho13, h⟩ := bd_inv h
 refine kUs (slices_Concat_api_Entry.lp4_ok fu slices slices (slices.length : Int) _ 0 0 _ ho13) ?_
 intro e_ τ_ hp_
 obtain ⟨y13_0, rfl⟩ : ∃ y, y = o13 := ⟨_, rfl⟩
 obtain ⟨rfl, rfl⟩ := hp_
 refine kCd (cR (cR (cR bd100))) [] ?_
 obtain ⟨r14_1, h14_2, h⟩ := bd_inv h
 refine kRs 1 [Tm 6 (sO 6 TEntry.en r14_1)] [.a ⟨sO 6 TEntry.en r14_1, []⟩] (.c (Asks.of (C := Meets Try.prog) (slices_Grow_api_Entry.meets y13_0 _ h14_2)) .n) ?_
 refine kSq ?_
 refine kRs 1 [Tm 25 (sS 1 (e_l 6 TEntry.en) slices), Tm 26 (iv (slices.length : Int)), Tm 27 (iv 0)] [.s (.t 26) [iv (slices.length : Int)]] (.c (c_len (e := (e_l 6 TEntry.en)) (l := slices)) .n) ?_
 refine kBk 2 ?_
 obtain ⟨o22, ho22, h⟩ := bd_inv h
 refine kUs (slices_Concat_api_Entry.lp16_ok fu slices (slices.length : Int) _ r14_1 0 _ ho22) ?_
 intro e_ τ_ hp_
 obtain ⟨y22_0, rfl⟩ : ∃ y, y = o22 := ⟨_, rfl⟩
 obtain ⟨rfl, rfl⟩ := hp_
 refine kCd (cR (cR (cR (cR (cR bd100))))) [] ?_
 refine kRs 0 [Tm 2 (sO 6 TEntry.en y22_0)] [] .n ?_
 refine kRt ?_
 have h_ := some_inj h
 subst h_
 exact kFr
def bd81 : Code := (Try.f81.body).getD .skip
def ulog_Join.O : Nat → Nat := fun t => bif ([6, 7, 8, 9, 46, 49, 50] : List Nat).any (Nat.beq t) then 1 else 0
def ulog_Join.lp7 (fu : Nat) (l7_0 : List TEntry) (l7_1 : Int) (l7_2 : List TEntry) (l7_3 : List TEntry) (l7_4 : Int) : Nat → Int → Option (Unit ⊕ (List TEntry))
  | 0, _ => none
  | n_ + 1, l7_5 =>
  br (decide (l7_5 < l7_4))
   (ix l7_3 l7_5 fun x10_1 =>
   br (decide ((w64 (l7_1 + l7_5)) ≥ (l7_0.length : Int)))
    (gd (decide ((0 : Int) ≤ (w64 (l7_1 + l7_5)) ∧ (w64 (l7_1 + l7_5)) ≤ (l7_0.length : Int))) <|
    gd (decide ((0 : Int) ≤ l7_5 ∧ l7_5 ≤ (l7_2.length : Int))) <|
    bd (slices_Concat_api_Entry fu ([(List.take (w64 (l7_1 + l7_5)).toNat l7_0), (List.drop l7_5.toNat l7_2)] : List (List TEntry))) fun r13_3 =>
    some (.inr r13_3))
    (ix l7_0 (w64 (l7_1 + l7_5)) fun x12_2 =>
    br (x12_2.Term != x10_1.Term)
     (gd (decide ((0 : Int) ≤ (w64 (l7_1 + l7_5)) ∧ (w64 (l7_1 + l7_5)) ≤ (l7_0.length : Int))) <|
     gd (decide ((0 : Int) ≤ l7_5 ∧ l7_5 ≤ (l7_2.length : Int))) <|
     bd (slices_Concat_api_Entry fu ([(List.take (w64 (l7_1 + l7_5)).toNat l7_0), (List.drop l7_5.toNat l7_2)] : List (List TEntry))) fun r15_3 =>
     some (.inr r15_3))
     (ulog_Join.lp7 fu l7_0 l7_1 l7_2 l7_3 l7_4 n_ (w64 (l7_5 + 1)))))
   (some (.inl ()))
def ulog_Join.lp7_post (l7_0 : List TEntry) (l7_1 : Int) (l7_2 : List TEntry) (l7_3 : List TEntry) (l7_4 : Int) (r_ : (Unit ⊕ (List TEntry))) : Wy → St → Prop := fun e τ => match r_ with
  | .inl _ => e = .exit 0 ∧ τ = ofL [Tm 0 (sS 6 TEntry.en l7_0)]
  | .inr y0 => e = .ret ∧ τ = ofL [Tm 6 (sO 6 TEntry.en y0)]
theorem ulog_Join.lp7_ok (fu : Nat) (l7_0 : List TEntry) (l7_1 : Int) (l7_2 : List TEntry) (l7_3 : List TEntry) (l7_4 : Int) : ∀ (n_ : Nat) (l7_5 : Int) (r_ : (Unit ⊕ (List TEntry))), ulog_Join.lp7 fu l7_0 l7_1 l7_2 l7_3 l7_4 n_ l7_5 = some r_ → WK Try.prog ulog_Join.O (Ck Try.prog) (cB (cR (cL (cR (cR bd81))))) [] (ofL [Tm 0 (sS 6 TEntry.en l7_0), Tm 1 (iv l7_1), Tm 2 (sS 6 TEntry.en l7_2), Tm 20 (sS 6 TEntry.en l7_3), Tm 21 (iv l7_4), Tm 22 (iv l7_5)]) (ulog_Join.lp7_post l7_0 l7_1 l7_2 l7_3 l7_4 r_) := by
 intro n_
 induction n_ with
 | zero => intro l7_5 r_ h; exact no_none h
 | succ n_ ih =>
  intro l7_5 r_ h
  refine kLp ?_
  refine kRs 63 [Tm 23 (bv (decide (l7_5 < l7_4)))] [] .n ?_
  refine kSq ?_
  rcases br_inv h with ⟨b9_0, h⟩ | ⟨b9_0, h⟩
  ·refine kCt b9_0 ?_
   refine kSk ?_
   refine kCd (cR (cR (cB (cB (cR (cL (cR (cR bd81)))))))) [.lp (cB (cR (cL (cR (cR bd81)))))] ?_
   refine kSq ?_
   refine kBk 1 ?_
   obtain ⟨x10_1, a10_2, e10_3, h⟩ := ix_inv h
   refine kRs 126 [Tm 7 (iv l7_5), Tm 8 (.ptr 8 0), Ob 8 (TEntry.ob x10_1)] [.c (TEntry.en x10_1)] (.c (c_ix (e := TEntry.en) a10_2 e10_3) (.c (c_el (e := TEntry.en) e10_3) .n)) ?_
   refine kRs 511 [Tm 9 (iv (w64 (l7_1 + l7_5)))] [] .n ?_
   rcases br_inv h with ⟨b12_1, h⟩ | ⟨b12_1, h⟩
   ·refine kRs 1011 [Tm 43 (bv true)] (.s (.t 32) [iv (l7_0.length : Int)] :: (rp 9 (.b true) [])) (.c (c_len (e := TEntry.en) (l := l7_0)) (.r 9 b12_1 (.c rT .n))) ?_
    refine kCt rT ?_
    obtain ⟨c13_1, h⟩ := gd_inv h
    obtain ⟨c13_2, h⟩ := gd_inv h
    obtain ⟨r13_3, h13_4, h⟩ := bd_inv h
    refine kRs 0 [Tm 6 (sO 6 TEntry.en r13_3)] [.s (.t 46) [sS 6 TEntry.en (List.take (w64 (l7_1 + l7_5)).toNat l7_0)], .s (.t 49) [sS 6 TEntry.en (List.drop l7_5.toNat l7_2)], .a ⟨sO 6 TEntry.en r13_3, []⟩] (.c (c_cbH (e := TEntry.en) c13_1) (.c (congrArg (fun d : DV => [AV.data d]) (c_cutH (own := false) (nl := none) (s := 6) (e := TEntry.en) (l := l7_0) (h := (w64 (l7_1 + l7_5)).toNat))) (.c (c_cbL (e := TEntry.en) c13_2) (.c (congrArg (fun d : DV => [AV.data d]) (c_cutL (own := false) (nl := none) (s := 6) (e := TEntry.en) (l := l7_2) (lo := l7_5.toNat))) (.c (Asks.fg (args1 := []) (args2 := []) (nl := some false) (sz := 1) (es := List.map (e_l 6 TEntry.en) ([(List.take (w64 (l7_1 + l7_5)).toNat l7_0), (List.drop l7_5.toNat l7_2)] : List (List TEntry))) (Asks.of (C := Meets Try.prog) (slices_Concat_api_Entry.meets fu ([(List.take (w64 (l7_1 + l7_5)).toNat l7_0), (List.drop l7_5.toNat l7_2)] : List (List TEntry)) _ h13_4))) (.c rT .n)))))) ?_
    cases some_inj h
    refine kWo ?_
    refine kRt ?_
    exact kOut
   ·obtain ⟨x12_2, a12_3, e12_4, h⟩ := ix_inv h
    refine kRs 1011 [Tm 43 (bv (x12_2.Term != x10_1.Term))] (.s (.t 32) [iv (l7_0.length : Int)] :: (.b false :: (.b false :: (.b false :: (.c (TEntry.en x12_2) :: (rp 6 (.b false) [])))))) (.c (c_len (e := TEntry.en) (l := l7_0)) (.r 3 b12_1 (.c (c_ix (e := TEntry.en) a12_3 e12_4) (.c (c_el (e := TEntry.en) e12_4) (.r 6 b12_1 (.c rT .n)))))) ?_
    rcases br_inv h with ⟨b14_0, h⟩ | ⟨b14_0, h⟩
    ·refine kCt b14_0 ?_
     obtain ⟨c15_1, h⟩ := gd_inv h
     obtain ⟨c15_2, h⟩ := gd_inv h
     obtain ⟨r15_3, h15_4, h⟩ := bd_inv h
     refine kRs 0 [Tm 6 (sO 6 TEntry.en r15_3)] [.s (.t 46) [sS 6 TEntry.en (List.take (w64 (l7_1 + l7_5)).toNat l7_0)], .s (.t 49) [sS 6 TEntry.en (List.drop l7_5.toNat l7_2)], .a ⟨sO 6 TEntry.en r15_3, []⟩] (.c (c_cbH (e := TEntry.en) c15_1) (.c (congrArg (fun d : DV => [AV.data d]) (c_cutH (own := false) (nl := none) (s := 6) (e := TEntry.en) (l := l7_0) (h := (w64 (l7_1 + l7_5)).toNat))) (.c (c_cbL (e := TEntry.en) c15_2) (.c (congrArg (fun d : DV => [AV.data d]) (c_cutL (own := false) (nl := none) (s := 6) (e := TEntry.en) (l := l7_2) (lo := l7_5.toNat))) (.c (Asks.fg (args1 := []) (args2 := []) (nl := some false) (sz := 1) (es := List.map (e_l 6 TEntry.en) ([(List.take (w64 (l7_1 + l7_5)).toNat l7_0), (List.drop l7_5.toNat l7_2)] : List (List TEntry))) (Asks.of (C := Meets Try.prog) (slices_Concat_api_Entry.meets fu ([(List.take (w64 (l7_1 + l7_5)).toNat l7_0), (List.drop l7_5.toNat l7_2)] : List (List TEntry)) _ h15_4))) (.c rT .n)))))) ?_
     cases some_inj h
     refine kWo ?_
     refine kRt ?_
     exact kOut
    ·refine kCe b14_0 ?_
     refine kSk ?_
     refine kCd (cR (cR (cR (cB (cB (cR (cL (cR (cR bd81))))))))) [.lp (cB (cR (cL (cR (cR bd81)))))] ?_
     refine kRc 248 [Tm 22 (iv (w64 (l7_5 + 1)))] [] .n (cB (cR (cL (cR (cR bd81))))) [] ?_
     exact kWk (ih (w64 (l7_5 + 1)) _ h)
  ·refine kCe b9_0 ?_
   cases some_inj h
   refine kWo ?_
   refine kXt 0 ?_
   exact kOut
def ulog_Join (fu : Nat) (l : List TEntry) (i : Int) (more : List TEntry) : Option (List TEntry) :=
 br (decide (i < 0))
  (bd (slices_Clone_api_Entry l) fun r3_1 =>
  some r3_1)
  (br (decide (i > (l.length : Int)))
   (bd (slices_Clone_api_Entry l) fun r5_1 =>
   some r5_1)
   (bd (ulog_Join.lp7 fu l i more more (more.length : Int) fu 0) fun o_ => (match o_ with
   | .inl _ =>
    bd (slices_Clone_api_Entry l) fun r18_1 =>
    some r18_1
   | .inr y17_0 =>
    some y17_0)))
theorem ulog_Join.meets (fu : Nat) (l : List TEntry) (i : Int) (more : List TEntry) (z0 : List TEntry) (h : ulog_Join fu l i more = some z0) : Meets Try.prog ⟨81, [sS 6 TEntry.en l, iv i, sS 6 TEntry.en more], []⟩ ⟨sO 6 TEntry.en z0, []⟩ := by
 refine kMt hmix ulog_Join.O Try.f81 bd81 7 ?_
 unfold ulog_Join at h
 refine kRs 7 [] [] .n ?_
 refine kSq ?_
 rcases br_inv h with ⟨b2_1, h⟩ | ⟨b2_1, h⟩
 ·refine kRs 7 [Tm 17 (bv true)] (rp 5 (.b true) []) (.r 5 b2_1 .n) ?_
  refine kCt rT ?_
  obtain ⟨r3_1, h3_2, h⟩ := bd_inv h
  refine kRs 0 [Tm 6 (sO 6 TEntry.en r3_1)] [.a ⟨sO 6 TEntry.en r3_1, []⟩] (.c (Asks.of (C := Meets Try.prog) (slices_Clone_api_Entry.meets l _ h3_2)) .n) ?_
  refine kRt ?_
  have h_ := some_inj h
  subst h_
  exact kFr
 ·refine kRs 7 [Tm 17 (bv (decide (i > (l.length : Int))))] [.b false, .b false, .b false, .s (.t 15) [iv (l.length : Int)], .b false, .b false] (.r 3 b2_1 (.c (c_len (e := TEntry.en) (l := l)) (.r 2 b2_1 .n))) ?_
  rcases br_inv h with ⟨b4_0, h⟩ | ⟨b4_0, h⟩
  ·refine kCt b4_0 ?_
   obtain ⟨r5_1, h5_2, h⟩ := bd_inv h
   refine kRs 0 [Tm 6 (sO 6 TEntry.en r5_1)] [.a ⟨sO 6 TEntry.en r5_1, []⟩] (.c (Asks.of (C := Meets Try.prog) (slices_Clone_api_Entry.meets l _ h5_2)) .n) ?_
   refine kRt ?_
   have h_ := some_inj h
   subst h_
   exact kFr
  ·refine kCe b4_0 ?_
   refine kSk ?_
   refine kCd (cR (cR bd81)) [] ?_
   refine kSq ?_
   refine kRs 14 [Tm 20 (sS 6 TEntry.en more), Tm 21 (iv (more.length : Int)), Tm 22 (iv 0)] [.s (.t 21) [iv (more.length : Int)]] (.c (c_len (e := TEntry.en) (l := more)) .n) ?_
   refine kBk 0 ?_
   obtain ⟨o17, ho17, h⟩ := bd_inv h
   refine kUs (ulog_Join.lp7_ok fu l i more more (more.length : Int) _ 0 _ ho17) ?_
   intro e_ τ_ hp_
   rcases o17 with o17 | o17
   ·obtain ⟨⟩ := o17
    obtain ⟨rfl, rfl⟩ := hp_
    refine kCd (cR (cR (cR bd81))) [] ?_
    obtain ⟨r18_1, h18_2, h⟩ := bd_inv h
    refine kRs 0 [Tm 6 (sO 6 TEntry.en r18_1)] [.a ⟨sO 6 TEntry.en r18_1, []⟩] (.c (Asks.of (C := Meets Try.prog) (slices_Clone_api_Entry.meets l _ h18_2)) .n) ?_
    refine kRt ?_
    have h_ := some_inj h
    subst h_
    exact kFr
   ·obtain ⟨y17_0, rfl⟩ : ∃ y, y = o17 := ⟨_, rfl⟩
    obtain ⟨rfl, rfl⟩ := hp_
    have h_ := some_inj h
    subst h_
    exact kFr
def bd52 : Code := (Try.f52.body).getD .skip
def raft_member_append.O : Nat → Nat := fun t => bif ([3, 4, 5, 17, 64, 82, 93, 103, 114] : List Nat).any (Nat.beq t) then 1 else 0
def raft_member_append (fu : Nat) (m : TMsg) (o0_v : TMember) : Option TMember :=
 br (decide (m.Term < o0_v.Raft.Term))
  (bd (raft_member_sends_2 m.From (TMsg.mk 4 0 0 0 0 0 0 0 false [] (TTxn.mk 0 0 [] []) 0 0 0 0 false ByteArray.empty ByteArray.empty [] [] 0) o0_v) fun r4_1 =>
  some r4_1)
  (br (o0_v.Raft.Role == 2)
   (some o0_v)
   (bd (ulog_Has o0_v.Raft.Log m.Index m.LogTerm) fun r8_1 =>
   br (!r8_1)
    (bd (raft_member_sends_2 m.From (TMsg.mk 4 0 0 0 0 (if (if (o0_v.Raft.Log.length : Int) < (w64 (m.Index - 1)) then (o0_v.Raft.Log.length : Int) else (w64 (m.Index - 1))) < 0 then 0 else (if (o0_v.Raft.Log.length : Int) < (w64 (m.Index - 1)) then (o0_v.Raft.Log.length : Int) else (w64 (m.Index - 1)))) 0 0 false [] (TTxn.mk 0 0 [] []) 0 0 0 0 false ByteArray.empty ByteArray.empty [] [] 0) (TMember.mk (TRaft.mk o0_v.Raft.Me o0_v.Raft.Nodes o0_v.Raft.Wait o0_v.Raft.Term o0_v.Raft.Vote o0_v.Raft.Log o0_v.Raft.Commit 0 m.From o0_v.Raft.Votes o0_v.Raft.Next o0_v.Raft.Match 0) o0_v.out)) fun r10_1 =>
    some r10_1)
    (bd (ulog_Join fu o0_v.Raft.Log m.Index m.Entries) fun r11_1 =>
    br (decide ((r11_1.length : Int) > 200))
     (bd (raft_member_sends m.From (TMsg.mk 4 0 0 0 0 0 0 0 false [] (TTxn.mk 0 0 [] []) 0 0 0 0 false ByteArray.empty ByteArray.empty [] [] 0) (TMember.mk (TRaft.mk o0_v.Raft.Me o0_v.Raft.Nodes o0_v.Raft.Wait o0_v.Raft.Term o0_v.Raft.Vote o0_v.Raft.Log o0_v.Raft.Commit 0 m.From o0_v.Raft.Votes o0_v.Raft.Next o0_v.Raft.Match 0) o0_v.out)) fun r14_1 =>
     some r14_1)
     (bd (raft_entries fu r11_1) fun r16_1 =>
     bd (raft_member_sends m.From (TMsg.mk 4 0 0 0 0 (w64 (m.Index + (m.Entries.length : Int))) 0 0 true [] (TTxn.mk 0 0 [] []) 0 0 0 0 false ByteArray.empty ByteArray.empty [] [] 0) (TMember.mk (TRaft.mk o0_v.Raft.Me o0_v.Raft.Nodes o0_v.Raft.Wait o0_v.Raft.Term o0_v.Raft.Vote r16_1 (if o0_v.Raft.Commit < (if (w64 (m.Index + (m.Entries.length : Int))) < m.Commit then (w64 (m.Index + (m.Entries.length : Int))) else m.Commit) then (if (w64 (m.Index + (m.Entries.length : Int))) < m.Commit then (w64 (m.Index + (m.Entries.length : Int))) else m.Commit) else o0_v.Raft.Commit) 0 m.From o0_v.Raft.Votes o0_v.Raft.Next o0_v.Raft.Match 0) o0_v.out)) fun r17_1 =>
     some r17_1))))
theorem raft_member_append.meets (fu : Nat) (m : TMsg) (o0_v : TMember) (z0 : TMember) (h : raft_member_append fu m o0_v = some z0) : Meets Try.prog ⟨52, [.ptr 1000 0, .data (TMsg.ag m)], [(TMember.ob_00000100011101 o0_v)]⟩ ⟨.tup [], [(TMember.ob_00000000011101 z0)]⟩ := by
 refine kMt hmix raft_member_append.O Try.f52 bd52 7 ?_
 unfold raft_member_append at h
 refine kRs 5 [Tm 3 (.ptr 3 0), Ob 3 (TMsg.ob m)] [] .n ?_
 refine kSq ?_
 refine kRs 15 [Tm 13 (bv (decide (m.Term < o0_v.Raft.Term)))] [] (.c rT .n) ?_
 rcases br_inv h with ⟨b3_0, h⟩ | ⟨b3_0, h⟩
 ·refine kCt b3_0 ?_
  obtain ⟨r4_1, h4_2, h⟩ := bd_inv h
  refine kRs 0 [Ob 1000 (TMember.ob_00000100011101 r4_1)] [.a ⟨.tup [], [(TMember.ob_00000100011101 r4_1)]⟩] (.c (Asks.of (C := Meets Try.prog) (raft_member_sends_2.meets m.From (TMsg.mk 4 0 0 0 0 0 0 0 false [] (TTxn.mk 0 0 [] []) 0 0 0 0 false ByteArray.empty ByteArray.empty [] [] 0) o0_v _ h4_2)) .n) ?_
  refine kSo 1000 5 0 [Ob 1000 (TMember.ob_00000000011101 r4_1)] ?_
  refine kRt ?_
  have h_ := some_inj h
  subst h_
  exact kFr
 ·refine kCe b3_0 ?_
  refine kSk ?_
  refine kCd (cR (cR bd52)) [] ?_
  refine kSq ?_
  refine kRs 30 [Tm 24 (bv (o0_v.Raft.Role == 2))] [] .n ?_
  rcases br_inv h with ⟨b6_0, h⟩ | ⟨b6_0, h⟩
  ·refine kCt b6_0 ?_
   refine kSo 1000 5 0 [Ob 1000 (TMember.ob_00000000011101 o0_v)] ?_
   refine kRt ?_
   have h_ := some_inj h
   subst h_
   exact kFr
  ·refine kCe b6_0 ?_
   refine kSk ?_
   refine kCd (cR (cR (cR bd52))) [] ?_
   refine kRs 14 [Ob 1000 (TMember.ob_00000100011101 (TMember.mk (TRaft.mk o0_v.Raft.Me o0_v.Raft.Nodes o0_v.Raft.Wait o0_v.Raft.Term o0_v.Raft.Vote o0_v.Raft.Log o0_v.Raft.Commit 0 m.From o0_v.Raft.Votes o0_v.Raft.Next o0_v.Raft.Match 0) o0_v.out))] [] (.c rT .n) ?_
   refine kSq ?_
   obtain ⟨r8_1, h8_2, h⟩ := bd_inv h
   refine kRs 15 [Tm 49 (bv (!r8_1))] [.a ⟨bv r8_1, []⟩] (.c (Asks.of (C := Meets Try.prog) (ulog_Has.meets o0_v.Raft.Log m.Index m.LogTerm _ h8_2)) (.c rT .n)) ?_
   rcases br_inv h with ⟨b9_0, h⟩ | ⟨b9_0, h⟩
   ·refine kCt b9_0 ?_
    obtain ⟨r10_1, h10_2, h⟩ := bd_inv h
    refine kRs 0 [Ob 1000 (TMember.ob_00000100011101 r10_1)] [.s (.t 61) [iv (o0_v.Raft.Log.length : Int)], .a ⟨.tup [], [(TMember.ob_00000100011101 r10_1)]⟩] (.c (c_len (e := TEntry.en) (l := o0_v.Raft.Log)) (.c (Asks.of (C := Meets Try.prog) (raft_member_sends_2.meets m.From (TMsg.mk 4 0 0 0 0 (if (if (o0_v.Raft.Log.length : Int) < (w64 (m.Index - 1)) then (o0_v.Raft.Log.length : Int) else (w64 (m.Index - 1))) < 0 then 0 else (if (o0_v.Raft.Log.length : Int) < (w64 (m.Index - 1)) then (o0_v.Raft.Log.length : Int) else (w64 (m.Index - 1)))) 0 0 false [] (TTxn.mk 0 0 [] []) 0 0 0 0 false ByteArray.empty ByteArray.empty [] [] 0) (TMember.mk (TRaft.mk o0_v.Raft.Me o0_v.Raft.Nodes o0_v.Raft.Wait o0_v.Raft.Term o0_v.Raft.Vote o0_v.Raft.Log o0_v.Raft.Commit 0 m.From o0_v.Raft.Votes o0_v.Raft.Next o0_v.Raft.Match 0) o0_v.out) _ h10_2)) (.c rT .n))) ?_
    refine kSo 1000 5 0 [Ob 1000 (TMember.ob_00000000011101 r10_1)] ?_
    refine kRt ?_
    have h_ := some_inj h
    subst h_
    exact kFr
   ·refine kCe b9_0 ?_
    refine kSk ?_
    refine kCd (cR (cR (cR (cR (cR bd52))))) [] ?_
    refine kSo 1000 5 28 [Ob 1000 (TMember.ob_00000000011101 (TMember.mk (TRaft.mk o0_v.Raft.Me o0_v.Raft.Nodes o0_v.Raft.Wait o0_v.Raft.Term o0_v.Raft.Vote o0_v.Raft.Log o0_v.Raft.Commit 0 m.From o0_v.Raft.Votes o0_v.Raft.Next o0_v.Raft.Match 0) o0_v.out))] ?_
    obtain ⟨r11_1, h11_2, h⟩ := bd_inv h
    refine kRs 15 [Tm 4 (sO 6 TEntry.en r11_1)] [.a ⟨sO 6 TEntry.en r11_1, []⟩] (.c (Asks.of (C := Meets Try.prog) (ulog_Join.meets fu o0_v.Raft.Log m.Index m.Entries _ h11_2)) (.c rT .n)) ?_
    refine kSq ?_
    refine kRs 31 [Tm 78 (bv (decide ((r11_1.length : Int) > 200)))] [.s (.t 77) [iv (r11_1.length : Int)]] (.c (c_len (e := TEntry.en) (l := r11_1)) .n) ?_
    rcases br_inv h with ⟨b13_0, h⟩ | ⟨b13_0, h⟩
    ·refine kCt b13_0 ?_
     obtain ⟨r14_1, h14_2, h⟩ := bd_inv h
     refine kRs 0 [Ob 1000 (TMember.ob_00000000011101 r14_1)] [.a ⟨.tup [], [(TMember.ob_00000000011101 r14_1)]⟩] (.c (Asks.of (C := Meets Try.prog) (raft_member_sends.meets m.From (TMsg.mk 4 0 0 0 0 0 0 0 false [] (TTxn.mk 0 0 [] []) 0 0 0 0 false ByteArray.empty ByteArray.empty [] [] 0) (TMember.mk (TRaft.mk o0_v.Raft.Me o0_v.Raft.Nodes o0_v.Raft.Wait o0_v.Raft.Term o0_v.Raft.Vote o0_v.Raft.Log o0_v.Raft.Commit 0 m.From o0_v.Raft.Votes o0_v.Raft.Next o0_v.Raft.Match 0) o0_v.out) _ h14_2)) .n) ?_
     refine kRt ?_
     have h_ := some_inj h
     subst h_
     exact kFr
    ·refine kCe b13_0 ?_
     refine kSk ?_
     refine kCd (cR (cR (cR (cR (cR (cR (cR bd52))))))) [] ?_
     refine kRs 62 [Tm 5 (iv (w64 (m.Index + (m.Entries.length : Int))))] [.s (.t 88) [iv (m.Entries.length : Int)]] (.c (c_len (e := TEntry.en) (l := m.Entries)) .n) ?_
     refine WK.share (x := .tmp 4) (l' := [Tm 0 (.ptr 1000 0), Tm 3 (.ptr 3 0), Tm 4 (sS 6 TEntry.en r11_1), Tm 5 (iv (w64 (m.Index + (m.Entries.length : Int)))), Ob 3 (TMsg.ob m), Ob 1000 (TMember.ob_00000000011101 (TMember.mk (TRaft.mk o0_v.Raft.Me o0_v.Raft.Nodes o0_v.Raft.Wait o0_v.Raft.Term o0_v.Raft.Vote o0_v.Raft.Log o0_v.Raft.Commit 0 m.From o0_v.Raft.Votes o0_v.Raft.Next o0_v.Raft.Match 0) o0_v.out))]) (by kernel_rfl) ?_
     obtain ⟨r16_1, h16_2, h⟩ := bd_inv h
     refine kRs 27 [Ob 1000 (TMember.ob_00000100011101 (TMember.mk (TRaft.mk o0_v.Raft.Me o0_v.Raft.Nodes o0_v.Raft.Wait o0_v.Raft.Term o0_v.Raft.Vote r16_1 (if o0_v.Raft.Commit < (if (w64 (m.Index + (m.Entries.length : Int))) < m.Commit then (w64 (m.Index + (m.Entries.length : Int))) else m.Commit) then (if (w64 (m.Index + (m.Entries.length : Int))) < m.Commit then (w64 (m.Index + (m.Entries.length : Int))) else m.Commit) else o0_v.Raft.Commit) 0 m.From o0_v.Raft.Votes o0_v.Raft.Next o0_v.Raft.Match 0) o0_v.out))] [.a ⟨sO 6 TEntry.en r16_1, []⟩] (.c (Asks.of (C := Meets Try.prog) (raft_entries.meets fu r11_1 _ h16_2)) (.c rT .n)) ?_
     refine kSo 1000 5 30 [Ob 1000 (TMember.ob_00000000011101 (TMember.mk (TRaft.mk o0_v.Raft.Me o0_v.Raft.Nodes o0_v.Raft.Wait o0_v.Raft.Term o0_v.Raft.Vote r16_1 (if o0_v.Raft.Commit < (if (w64 (m.Index + (m.Entries.length : Int))) < m.Commit then (w64 (m.Index + (m.Entries.length : Int))) else m.Commit) then (if (w64 (m.Index + (m.Entries.length : Int))) < m.Commit then (w64 (m.Index + (m.Entries.length : Int))) else m.Commit) else o0_v.Raft.Commit) 0 m.From o0_v.Raft.Votes o0_v.Raft.Next o0_v.Raft.Match 0) o0_v.out))] ?_
     obtain ⟨r17_1, h17_2, h⟩ := bd_inv h
     have h_ := some_inj h
     subst h_
     exact kRf [.a ⟨.tup [], [(TMember.ob_00000000011101 r17_1)]⟩] (.c (Asks.of (C := Meets Try.prog) (raft_member_sends.meets m.From (TMsg.mk 4 0 0 0 0 (w64 (m.Index + (m.Entries.length : Int))) 0 0 true [] (TTxn.mk 0 0 [] []) 0 0 0 0 false ByteArray.empty ByteArray.empty [] [] 0) (TMember.mk (TRaft.mk o0_v.Raft.Me o0_v.Raft.Nodes o0_v.Raft.Wait o0_v.Raft.Term o0_v.Raft.Vote r16_1 (if o0_v.Raft.Commit < (if (w64 (m.Index + (m.Entries.length : Int))) < m.Commit then (w64 (m.Index + (m.Entries.length : Int))) else m.Commit) then (if (w64 (m.Index + (m.Entries.length : Int))) < m.Commit then (w64 (m.Index + (m.Entries.length : Int))) else m.Commit) else o0_v.Raft.Commit) 0 m.From o0_v.Raft.Votes o0_v.Raft.Next o0_v.Raft.Match 0) o0_v.out) _ h17_2)) .n)
def bd53 : Code := (Try.f53.body).getD .skip
def raft_member_appended.O : Nat → Nat := fun t => bif ([3, 4, 5, 56, 75, 81, 104] : List Nat).any (Nat.beq t) then 1 else bif ([107] : List Nat).any (Nat.beq t) then 104 else 0
def raft_member_appended (fu : Nat) (m : TMsg) (o0_v : TMember) : Option TMember :=
 br (decide (m.Term < o0_v.Raft.Term))
  (some o0_v)
  (br (o0_v.Raft.Role != 2)
   (some o0_v)
   (ix o0_v.Raft.Next (w64 (m.From - 1)) fun x4_1 =>
   ix o0_v.Raft.Match (w64 (m.From - 1)) fun x4_4 =>
   br (!m.OK)
    (bd (raft_member_more fu m.From (TMember.mk (TRaft.mk o0_v.Raft.Me o0_v.Raft.Nodes o0_v.Raft.Wait o0_v.Raft.Term o0_v.Raft.Vote o0_v.Raft.Log o0_v.Raft.Commit o0_v.Raft.Role o0_v.Raft.Leader o0_v.Raft.Votes (o0_v.Raft.Next.set (w64 (m.From - 1)).toNat (if (if (if (w64 (m.Index + 1)) < (w64 (x4_1 - 1)) then (w64 (m.Index + 1)) else (w64 (x4_1 - 1))) < (w64 (x4_4 + 1)) then (w64 (x4_4 + 1)) else (if (w64 (m.Index + 1)) < (w64 (x4_1 - 1)) then (w64 (m.Index + 1)) else (w64 (x4_1 - 1)))) < 1 then 1 else (if (if (w64 (m.Index + 1)) < (w64 (x4_1 - 1)) then (w64 (m.Index + 1)) else (w64 (x4_1 - 1))) < (w64 (x4_4 + 1)) then (w64 (x4_4 + 1)) else (if (w64 (m.Index + 1)) < (w64 (x4_1 - 1)) then (w64 (m.Index + 1)) else (w64 (x4_1 - 1)))))) o0_v.Raft.Match o0_v.Raft.Clock) o0_v.out)) fun r8_1 =>
    some r8_1)
    (ix (o0_v.Raft.Match.set (w64 (m.From - 1)).toNat (if x4_4 < (if (o0_v.Raft.Log.length : Int) < m.Index then (o0_v.Raft.Log.length : Int) else m.Index) then (if (o0_v.Raft.Log.length : Int) < m.Index then (o0_v.Raft.Log.length : Int) else m.Index) else x4_4)) (w64 (m.From - 1)) fun x10_1 =>
    bd (ballot_Next fu (o0_v.Raft.Match.set (w64 (m.From - 1)).toNat (if x4_4 < (if (o0_v.Raft.Log.length : Int) < m.Index then (o0_v.Raft.Log.length : Int) else m.Index) then (if (o0_v.Raft.Log.length : Int) < m.Index then (o0_v.Raft.Log.length : Int) else m.Index) else x4_4)) o0_v.Raft.Log o0_v.Raft.Term o0_v.Raft.Commit) fun r11_1 =>
    ix (o0_v.Raft.Next.set (w64 (m.From - 1)).toNat (w64 (x10_1 + 1))) (w64 (m.From - 1)) fun x12_1 =>
    br (decide ((o0_v.Raft.Log.length : Int) > (w64 (x12_1 - 1))))
     (bd (raft_member_more fu m.From (TMember.mk (TRaft.mk o0_v.Raft.Me o0_v.Raft.Nodes o0_v.Raft.Wait o0_v.Raft.Term o0_v.Raft.Vote o0_v.Raft.Log r11_1 o0_v.Raft.Role o0_v.Raft.Leader o0_v.Raft.Votes (o0_v.Raft.Next.set (w64 (m.From - 1)).toNat (w64 (x10_1 + 1))) (o0_v.Raft.Match.set (w64 (m.From - 1)).toNat (if x4_4 < (if (o0_v.Raft.Log.length : Int) < m.Index then (o0_v.Raft.Log.length : Int) else m.Index) then (if (o0_v.Raft.Log.length : Int) < m.Index then (o0_v.Raft.Log.length : Int) else m.Index) else x4_4)) o0_v.Raft.Clock) o0_v.out)) fun r14_1 =>
     some r14_1)
     (some (TMember.mk (TRaft.mk o0_v.Raft.Me o0_v.Raft.Nodes o0_v.Raft.Wait o0_v.Raft.Term o0_v.Raft.Vote o0_v.Raft.Log r11_1 o0_v.Raft.Role o0_v.Raft.Leader o0_v.Raft.Votes (o0_v.Raft.Next.set (w64 (m.From - 1)).toNat (w64 (x10_1 + 1))) (o0_v.Raft.Match.set (w64 (m.From - 1)).toNat (if x4_4 < (if (o0_v.Raft.Log.length : Int) < m.Index then (o0_v.Raft.Log.length : Int) else m.Index) then (if (o0_v.Raft.Log.length : Int) < m.Index then (o0_v.Raft.Log.length : Int) else m.Index) else x4_4)) o0_v.Raft.Clock) o0_v.out)))))
theorem raft_member_appended.meets (fu : Nat) (m : TMsg) (o0_v : TMember) (z0 : TMember) (h : raft_member_appended fu m o0_v = some z0) : Meets Try.prog ⟨53, [.ptr 1000 0, .data (TMsg.ag m)], [(TMember.ob_00000100011101 o0_v)]⟩ ⟨.tup [], [(TMember.ob_00000000011101 z0)]⟩ := by
 refine kMt hmix raft_member_appended.O Try.f53 bd53 7 ?_
 unfold raft_member_appended at h
 refine kRs 5 [Tm 3 (.ptr 3 0), Ob 3 (TMsg.ob m)] [] .n ?_
 refine kSq ?_
 rcases br_inv h with ⟨b2_1, h⟩ | ⟨b2_1, h⟩
 ·refine kRs 15 [Tm 21 (bv true)] (rp 7 (.b true) []) (.r 7 b2_1 (.c rT .n)) ?_
  refine kCt rT ?_
  refine kSo 1000 5 0 [Ob 1000 (TMember.ob_00000000011101 o0_v)] ?_
  refine kRt ?_
  have h_ := some_inj h
  subst h_
  exact kFr
 ·refine kRs 15 [Tm 21 (bv (o0_v.Raft.Role != 2))] (rp 7 (.b false) []) (.r 7 b2_1 (.c rT .n)) ?_
  rcases br_inv h with ⟨b3_0, h⟩ | ⟨b3_0, h⟩
  ·refine kCt b3_0 ?_
   refine kSo 1000 5 0 [Ob 1000 (TMember.ob_00000000011101 o0_v)] ?_
   refine kRt ?_
   have h_ := some_inj h
   subst h_
   exact kFr
  ·refine kCe b3_0 ?_
   refine kSk ?_
   refine kCd (cR (cR bd53)) [] ?_
   obtain ⟨x4_1, a4_2, e4_3, h⟩ := ix_inv h
   obtain ⟨x4_4, a4_5, e4_6, h⟩ := ix_inv h
   refine kRs 30 [Tm 4 (.eptr (.o 1000) 0 10 (w64 (m.From - 1)).toNat 0), Tm 5 (.eptr (.o 1000) 0 11 (w64 (m.From - 1)).toNat 0)] [] (.c (c_ix (e := e_i64) a4_2 e4_3) (.c (c_ix (e := e_i64) a4_5 e4_6) (.c rT .n))) ?_
   refine kSq ?_
   refine kRs 63 [Tm 42 (bv (!m.OK))] [] .n ?_
   rcases br_inv h with ⟨b6_0, h⟩ | ⟨b6_0, h⟩
   ·refine kCt b6_0 ?_
    refine kRs 56 [Ob 1000 (TMember.ob_00000100011101 (TMember.mk (TRaft.mk o0_v.Raft.Me o0_v.Raft.Nodes o0_v.Raft.Wait o0_v.Raft.Term o0_v.Raft.Vote o0_v.Raft.Log o0_v.Raft.Commit o0_v.Raft.Role o0_v.Raft.Leader o0_v.Raft.Votes (o0_v.Raft.Next.set (w64 (m.From - 1)).toNat (if (if (if (w64 (m.Index + 1)) < (w64 (x4_1 - 1)) then (w64 (m.Index + 1)) else (w64 (x4_1 - 1))) < (w64 (x4_4 + 1)) then (w64 (x4_4 + 1)) else (if (w64 (m.Index + 1)) < (w64 (x4_1 - 1)) then (w64 (m.Index + 1)) else (w64 (x4_1 - 1)))) < 1 then 1 else (if (if (w64 (m.Index + 1)) < (w64 (x4_1 - 1)) then (w64 (m.Index + 1)) else (w64 (x4_1 - 1))) < (w64 (x4_4 + 1)) then (w64 (x4_4 + 1)) else (if (w64 (m.Index + 1)) < (w64 (x4_1 - 1)) then (w64 (m.Index + 1)) else (w64 (x4_1 - 1)))))) o0_v.Raft.Match o0_v.Raft.Clock) o0_v.out))] [.c (e_i64 x4_1), .c (e_i64 x4_4), .c (e_i64 x4_1), .s (.o 1000) (TMember.ob_00000100011101 (TMember.mk (TRaft.mk o0_v.Raft.Me o0_v.Raft.Nodes o0_v.Raft.Wait o0_v.Raft.Term o0_v.Raft.Vote o0_v.Raft.Log o0_v.Raft.Commit o0_v.Raft.Role o0_v.Raft.Leader o0_v.Raft.Votes (o0_v.Raft.Next.set (w64 (m.From - 1)).toNat (if (if (if (w64 (m.Index + 1)) < (w64 (x4_1 - 1)) then (w64 (m.Index + 1)) else (w64 (x4_1 - 1))) < (w64 (x4_4 + 1)) then (w64 (x4_4 + 1)) else (if (w64 (m.Index + 1)) < (w64 (x4_1 - 1)) then (w64 (m.Index + 1)) else (w64 (x4_1 - 1)))) < 1 then 1 else (if (if (w64 (m.Index + 1)) < (w64 (x4_1 - 1)) then (w64 (m.Index + 1)) else (w64 (x4_1 - 1))) < (w64 (x4_4 + 1)) then (w64 (x4_4 + 1)) else (if (w64 (m.Index + 1)) < (w64 (x4_1 - 1)) then (w64 (m.Index + 1)) else (w64 (x4_1 - 1)))))) o0_v.Raft.Match o0_v.Raft.Clock) o0_v.out))] (.c (c_el (e := e_i64) e4_3) (.c (c_el (e := e_i64) e4_6) (.c (c_el (e := e_i64) e4_3) (.c (congrArg (fun d : DV => (TMember.ob_00000100011101 (TMember.mk (TRaft.mk o0_v.Raft.Me o0_v.Raft.Nodes o0_v.Raft.Wait o0_v.Raft.Term o0_v.Raft.Vote o0_v.Raft.Log o0_v.Raft.Commit o0_v.Raft.Role o0_v.Raft.Leader o0_v.Raft.Votes (o0_v.Raft.Next.set (w64 (m.From - 1)).toNat (if (if (if (w64 (m.Index + 1)) < (w64 (x4_1 - 1)) then (w64 (m.Index + 1)) else (w64 (x4_1 - 1))) < (w64 (x4_4 + 1)) then (w64 (x4_4 + 1)) else (if (w64 (m.Index + 1)) < (w64 (x4_1 - 1)) then (w64 (m.Index + 1)) else (w64 (x4_1 - 1)))) < 1 then 1 else (if (if (w64 (m.Index + 1)) < (w64 (x4_1 - 1)) then (w64 (m.Index + 1)) else (w64 (x4_1 - 1))) < (w64 (x4_4 + 1)) then (w64 (x4_4 + 1)) else (if (w64 (m.Index + 1)) < (w64 (x4_1 - 1)) then (w64 (m.Index + 1)) else (w64 (x4_1 - 1)))))) o0_v.Raft.Match o0_v.Raft.Clock) o0_v.out)).set 10 (AV.data d)) (c_set (e := e_i64) (s := 1) (nl := none) (l := o0_v.Raft.Next) (i := (w64 (m.From - 1)).toNat) (x := (if (if (if (w64 (m.Index + 1)) < (w64 (x4_1 - 1)) then (w64 (m.Index + 1)) else (w64 (x4_1 - 1))) < (w64 (x4_4 + 1)) then (w64 (x4_4 + 1)) else (if (w64 (m.Index + 1)) < (w64 (x4_1 - 1)) then (w64 (m.Index + 1)) else (w64 (x4_1 - 1)))) < 1 then 1 else (if (if (w64 (m.Index + 1)) < (w64 (x4_1 - 1)) then (w64 (m.Index + 1)) else (w64 (x4_1 - 1))) < (w64 (x4_4 + 1)) then (w64 (x4_4 + 1)) else (if (w64 (m.Index + 1)) < (w64 (x4_1 - 1)) then (w64 (m.Index + 1)) else (w64 (x4_1 - 1)))))))) (.c rT .n))))) ?_
    obtain ⟨r8_1, h8_2, h⟩ := bd_inv h
    refine kRs 0 [Ob 1000 (TMember.ob_00000000011101 r8_1)] [.a ⟨.tup [], [(TMember.ob_00000000011101 r8_1)]⟩] (.c (Asks.of (C := Meets Try.prog) (raft_member_more.meets fu m.From (TMember.mk (TRaft.mk o0_v.Raft.Me o0_v.Raft.Nodes o0_v.Raft.Wait o0_v.Raft.Term o0_v.Raft.Vote o0_v.Raft.Log o0_v.Raft.Commit o0_v.Raft.Role o0_v.Raft.Leader o0_v.Raft.Votes (o0_v.Raft.Next.set (w64 (m.From - 1)).toNat (if (if (if (w64 (m.Index + 1)) < (w64 (x4_1 - 1)) then (w64 (m.Index + 1)) else (w64 (x4_1 - 1))) < (w64 (x4_4 + 1)) then (w64 (x4_4 + 1)) else (if (w64 (m.Index + 1)) < (w64 (x4_1 - 1)) then (w64 (m.Index + 1)) else (w64 (x4_1 - 1)))) < 1 then 1 else (if (if (w64 (m.Index + 1)) < (w64 (x4_1 - 1)) then (w64 (m.Index + 1)) else (w64 (x4_1 - 1))) < (w64 (x4_4 + 1)) then (w64 (x4_4 + 1)) else (if (w64 (m.Index + 1)) < (w64 (x4_1 - 1)) then (w64 (m.Index + 1)) else (w64 (x4_1 - 1)))))) o0_v.Raft.Match o0_v.Raft.Clock) o0_v.out) _ h8_2)) .n) ?_
    refine kRt ?_
    have h_ := some_inj h
    subst h_
    exact kFr
   ·refine kCe b6_0 ?_
    refine kSk ?_
    refine kCd (cR (cR (cR (cR bd53)))) [] ?_
    refine kRs 62 [Ob 1000 (TMember.ob_00000100011101 (TMember.mk (TRaft.mk o0_v.Raft.Me o0_v.Raft.Nodes o0_v.Raft.Wait o0_v.Raft.Term o0_v.Raft.Vote o0_v.Raft.Log o0_v.Raft.Commit o0_v.Raft.Role o0_v.Raft.Leader o0_v.Raft.Votes o0_v.Raft.Next (o0_v.Raft.Match.set (w64 (m.From - 1)).toNat (if x4_4 < (if (o0_v.Raft.Log.length : Int) < m.Index then (o0_v.Raft.Log.length : Int) else m.Index) then (if (o0_v.Raft.Log.length : Int) < m.Index then (o0_v.Raft.Log.length : Int) else m.Index) else x4_4)) o0_v.Raft.Clock) o0_v.out))] [.c (e_i64 x4_4), .s (.t 73) [iv (o0_v.Raft.Log.length : Int)], .c (e_i64 x4_4), .s (.o 1000) (TMember.ob_00000100011101 (TMember.mk (TRaft.mk o0_v.Raft.Me o0_v.Raft.Nodes o0_v.Raft.Wait o0_v.Raft.Term o0_v.Raft.Vote o0_v.Raft.Log o0_v.Raft.Commit o0_v.Raft.Role o0_v.Raft.Leader o0_v.Raft.Votes o0_v.Raft.Next (o0_v.Raft.Match.set (w64 (m.From - 1)).toNat (if x4_4 < (if (o0_v.Raft.Log.length : Int) < m.Index then (o0_v.Raft.Log.length : Int) else m.Index) then (if (o0_v.Raft.Log.length : Int) < m.Index then (o0_v.Raft.Log.length : Int) else m.Index) else x4_4)) o0_v.Raft.Clock) o0_v.out))] (.c (c_el (e := e_i64) e4_6) (.c (c_len (e := TEntry.en) (l := o0_v.Raft.Log)) (.c (c_el (e := e_i64) e4_6) (.c (congrArg (fun d : DV => (TMember.ob_00000100011101 (TMember.mk (TRaft.mk o0_v.Raft.Me o0_v.Raft.Nodes o0_v.Raft.Wait o0_v.Raft.Term o0_v.Raft.Vote o0_v.Raft.Log o0_v.Raft.Commit o0_v.Raft.Role o0_v.Raft.Leader o0_v.Raft.Votes o0_v.Raft.Next (o0_v.Raft.Match.set (w64 (m.From - 1)).toNat (if x4_4 < (if (o0_v.Raft.Log.length : Int) < m.Index then (o0_v.Raft.Log.length : Int) else m.Index) then (if (o0_v.Raft.Log.length : Int) < m.Index then (o0_v.Raft.Log.length : Int) else m.Index) else x4_4)) o0_v.Raft.Clock) o0_v.out)).set 11 (AV.data d)) (c_set (e := e_i64) (s := 1) (nl := none) (l := o0_v.Raft.Match) (i := (w64 (m.From - 1)).toNat) (x := (if x4_4 < (if (o0_v.Raft.Log.length : Int) < m.Index then (o0_v.Raft.Log.length : Int) else m.Index) then (if (o0_v.Raft.Log.length : Int) < m.Index then (o0_v.Raft.Log.length : Int) else m.Index) else x4_4)))) (.c rT .n))))) ?_
    obtain ⟨x10_1, a10_2, e10_3, h⟩ := ix_inv h
    refine kRs 58 [Ob 1000 (TMember.ob_00000100011101 (TMember.mk (TRaft.mk o0_v.Raft.Me o0_v.Raft.Nodes o0_v.Raft.Wait o0_v.Raft.Term o0_v.Raft.Vote o0_v.Raft.Log o0_v.Raft.Commit o0_v.Raft.Role o0_v.Raft.Leader o0_v.Raft.Votes (o0_v.Raft.Next.set (w64 (m.From - 1)).toNat (w64 (x10_1 + 1))) (o0_v.Raft.Match.set (w64 (m.From - 1)).toNat (if x4_4 < (if (o0_v.Raft.Log.length : Int) < m.Index then (o0_v.Raft.Log.length : Int) else m.Index) then (if (o0_v.Raft.Log.length : Int) < m.Index then (o0_v.Raft.Log.length : Int) else m.Index) else x4_4)) o0_v.Raft.Clock) o0_v.out))] [.c (e_i64 x10_1), .c (e_i64 x4_1), .s (.o 1000) (TMember.ob_00000100011101 (TMember.mk (TRaft.mk o0_v.Raft.Me o0_v.Raft.Nodes o0_v.Raft.Wait o0_v.Raft.Term o0_v.Raft.Vote o0_v.Raft.Log o0_v.Raft.Commit o0_v.Raft.Role o0_v.Raft.Leader o0_v.Raft.Votes (o0_v.Raft.Next.set (w64 (m.From - 1)).toNat (w64 (x10_1 + 1))) (o0_v.Raft.Match.set (w64 (m.From - 1)).toNat (if x4_4 < (if (o0_v.Raft.Log.length : Int) < m.Index then (o0_v.Raft.Log.length : Int) else m.Index) then (if (o0_v.Raft.Log.length : Int) < m.Index then (o0_v.Raft.Log.length : Int) else m.Index) else x4_4)) o0_v.Raft.Clock) o0_v.out))] (.c (c_el (e := e_i64) e10_3) (.c (c_el (e := e_i64) e4_3) (.c (congrArg (fun d : DV => (TMember.ob_00000100011101 (TMember.mk (TRaft.mk o0_v.Raft.Me o0_v.Raft.Nodes o0_v.Raft.Wait o0_v.Raft.Term o0_v.Raft.Vote o0_v.Raft.Log o0_v.Raft.Commit o0_v.Raft.Role o0_v.Raft.Leader o0_v.Raft.Votes (o0_v.Raft.Next.set (w64 (m.From - 1)).toNat (w64 (x10_1 + 1))) (o0_v.Raft.Match.set (w64 (m.From - 1)).toNat (if x4_4 < (if (o0_v.Raft.Log.length : Int) < m.Index then (o0_v.Raft.Log.length : Int) else m.Index) then (if (o0_v.Raft.Log.length : Int) < m.Index then (o0_v.Raft.Log.length : Int) else m.Index) else x4_4)) o0_v.Raft.Clock) o0_v.out)).set 10 (AV.data d)) (c_set (e := e_i64) (s := 1) (nl := none) (l := o0_v.Raft.Next) (i := (w64 (m.From - 1)).toNat) (x := (w64 (x10_1 + 1))))) .n))) ?_
    obtain ⟨r11_1, h11_2, h⟩ := bd_inv h
    refine kRs 30 [Ob 1000 (TMember.ob_00000100011101 (TMember.mk (TRaft.mk o0_v.Raft.Me o0_v.Raft.Nodes o0_v.Raft.Wait o0_v.Raft.Term o0_v.Raft.Vote o0_v.Raft.Log r11_1 o0_v.Raft.Role o0_v.Raft.Leader o0_v.Raft.Votes (o0_v.Raft.Next.set (w64 (m.From - 1)).toNat (w64 (x10_1 + 1))) (o0_v.Raft.Match.set (w64 (m.From - 1)).toNat (if x4_4 < (if (o0_v.Raft.Log.length : Int) < m.Index then (o0_v.Raft.Log.length : Int) else m.Index) then (if (o0_v.Raft.Log.length : Int) < m.Index then (o0_v.Raft.Log.length : Int) else m.Index) else x4_4)) o0_v.Raft.Clock) o0_v.out))] [.a ⟨iv r11_1, []⟩] (.c (Asks.of (C := Meets Try.prog) (ballot_Next.meets fu (o0_v.Raft.Match.set (w64 (m.From - 1)).toNat (if x4_4 < (if (o0_v.Raft.Log.length : Int) < m.Index then (o0_v.Raft.Log.length : Int) else m.Index) then (if (o0_v.Raft.Log.length : Int) < m.Index then (o0_v.Raft.Log.length : Int) else m.Index) else x4_4)) o0_v.Raft.Log o0_v.Raft.Term o0_v.Raft.Commit _ h11_2)) (.c rT .n)) ?_
    obtain ⟨x12_1, a12_2, e12_3, h⟩ := ix_inv h
    refine kRs 29 [Tm 118 (bv (decide ((o0_v.Raft.Log.length : Int) > (w64 (x12_1 - 1)))))] [.s (.t 113) [iv (o0_v.Raft.Log.length : Int)], .c (e_i64 x12_1)] (.c (c_len (e := TEntry.en) (l := o0_v.Raft.Log)) (.c (c_el (e := e_i64) e12_3) (.c rT .n))) ?_
    rcases br_inv h with ⟨b13_0, h⟩ | ⟨b13_0, h⟩
    ·refine kCt b13_0 ?_
     obtain ⟨r14_1, h14_2, h⟩ := bd_inv h
     have h_ := some_inj h
     subst h_
     exact kRf [.a ⟨.tup [], [(TMember.ob_00000000011101 r14_1)]⟩] (.c (Asks.of (C := Meets Try.prog) (raft_member_more.meets fu m.From (TMember.mk (TRaft.mk o0_v.Raft.Me o0_v.Raft.Nodes o0_v.Raft.Wait o0_v.Raft.Term o0_v.Raft.Vote o0_v.Raft.Log r11_1 o0_v.Raft.Role o0_v.Raft.Leader o0_v.Raft.Votes (o0_v.Raft.Next.set (w64 (m.From - 1)).toNat (w64 (x10_1 + 1))) (o0_v.Raft.Match.set (w64 (m.From - 1)).toNat (if x4_4 < (if (o0_v.Raft.Log.length : Int) < m.Index then (o0_v.Raft.Log.length : Int) else m.Index) then (if (o0_v.Raft.Log.length : Int) < m.Index then (o0_v.Raft.Log.length : Int) else m.Index) else x4_4)) o0_v.Raft.Clock) o0_v.out) _ h14_2)) .n)
    ·refine kCe b13_0 ?_
     refine kSo 1000 5 0 [Ob 1000 (TMember.ob_00000000011101 (TMember.mk (TRaft.mk o0_v.Raft.Me o0_v.Raft.Nodes o0_v.Raft.Wait o0_v.Raft.Term o0_v.Raft.Vote o0_v.Raft.Log r11_1 o0_v.Raft.Role o0_v.Raft.Leader o0_v.Raft.Votes (o0_v.Raft.Next.set (w64 (m.From - 1)).toNat (w64 (x10_1 + 1))) (o0_v.Raft.Match.set (w64 (m.From - 1)).toNat (if x4_4 < (if (o0_v.Raft.Log.length : Int) < m.Index then (o0_v.Raft.Log.length : Int) else m.Index) then (if (o0_v.Raft.Log.length : Int) < m.Index then (o0_v.Raft.Log.length : Int) else m.Index) else x4_4)) o0_v.Raft.Clock) o0_v.out))] ?_
     refine kSk ?_
     have h_ := some_inj h
     subst h_
     exact kFn
def bd25 : Code := (Try.f25.body).getD .skip
def raft_Take.O : Nat → Nat := fun t => bif ([2, 3, 4, 6, 7, 8, 9, 14, 15] : List Nat).any (Nat.beq t) then 1 else bif ([20] : List Nat).any (Nat.beq t) then 6 else 0
def raft_Take (fu : Nat) (r_v : TRaft) (m : TMsg) : Option (TRaft × List TMsg) :=
 bd (raft_twin fu r_v) fun r3_1 =>
 br (m.Kind == 1)
  (bd (raft_May fu r_v) fun r5_1 =>
  br (!r5_1)
   (some (r3_1, []))
   (br (decide (m.From < 1))
    (some (r3_1, []))
    (br (decide (m.From > r_v.Nodes))
     (some (r3_1, []))
     (br (m.From == r_v.Me)
      (some (r3_1, []))
      (br (m.To != r_v.Me)
       (some (r3_1, []))
       (jn (fun (j15_2 : TMember) =>
        bd (raft_member_askVote m j15_2) fun r16_1 =>
        some (r16_1.Raft, r16_1.out)) fun k15 =>
       br (decide (m.Term > r3_1.Term))
        (bd (raft_member_yields m.Term (TMember.mk r3_1 [])) fun r14_1 =>
        k15 r14_1)
        (k15 (TMember.mk r3_1 []))))))))
  (br (m.Kind == 2)
   (bd (raft_May fu r_v) fun r18_1 =>
   br (!r18_1)
    (some (r3_1, []))
    (br (decide (m.From < 1))
     (some (r3_1, []))
     (br (decide (m.From > r_v.Nodes))
      (some (r3_1, []))
      (br (m.From == r_v.Me)
       (some (r3_1, []))
       (br (m.To != r_v.Me)
        (some (r3_1, []))
        (jn (fun (j28_2 : TMember) =>
         bd (raft_member_vote fu m j28_2) fun r29_1 =>
         some (r29_1.Raft, r29_1.out)) fun k28 =>
        br (decide (m.Term > r3_1.Term))
         (bd (raft_member_yields m.Term (TMember.mk r3_1 [])) fun r27_1 =>
         k28 r27_1)
         (k28 (TMember.mk r3_1 []))))))))
   (br (m.Kind == 3)
    (bd (raft_May fu r_v) fun r31_1 =>
    br (!r31_1)
     (some (r3_1, []))
     (br (decide (m.From < 1))
      (some (r3_1, []))
      (br (decide (m.From > r_v.Nodes))
       (some (r3_1, []))
       (br (m.From == r_v.Me)
        (some (r3_1, []))
        (br (m.To != r_v.Me)
         (some (r3_1, []))
         (jn (fun (j41_2 : TMember) =>
          bd (raft_member_append fu m j41_2) fun r42_1 =>
          some (r42_1.Raft, r42_1.out)) fun k41 =>
         br (decide (m.Term > r3_1.Term))
          (bd (raft_member_yields m.Term (TMember.mk r3_1 [])) fun r40_1 =>
          k41 r40_1)
          (k41 (TMember.mk r3_1 []))))))))
    (br (m.Kind == 4)
     (bd (raft_May fu r_v) fun r44_1 =>
     br (!r44_1)
      (some (r3_1, []))
      (br (decide (m.From < 1))
       (some (r3_1, []))
       (br (decide (m.From > r_v.Nodes))
        (some (r3_1, []))
        (br (m.From == r_v.Me)
         (some (r3_1, []))
         (br (m.To != r_v.Me)
          (some (r3_1, []))
          (jn (fun (j54_2 : TMember) =>
           bd (raft_member_appended fu m j54_2) fun r55_1 =>
           some (r55_1.Raft, r55_1.out)) fun k54 =>
          br (decide (m.Term > r3_1.Term))
           (bd (raft_member_yields m.Term (TMember.mk r3_1 [])) fun r53_1 =>
           k54 r53_1)
           (k54 (TMember.mk r3_1 []))))))))
     (some (r3_1, [])))))
theorem raft_Take.meets (fu : Nat) (r_v : TRaft) (m : TMsg) (z0 : TRaft) (z1 : List TMsg) (h : raft_Take fu r_v m = some (z0, z1)) : Meets Try.prog ⟨25, [.data (TRaft.ag r_v), .data (TMsg.ag m)], []⟩ ⟨.tup [.data (TRaft.ag z0), sS 24 TMsg.en z1], []⟩ := by
 refine kMt hmix raft_Take.O Try.f25 bd25 3 ?_
 unfold raft_Take at h
 refine kRs 0 [Tm 2 (.ptr 2 0), Tm 3 (.ptr 3 0), Tm 4 (.ptr 4 0), Ob 2 (TRaft.ob r_v), Ob 3 (TMsg.ob m), Ob 4 (TRaft.ob_000001000111 (TRaft.mk 0 0 0 0 0 [] 0 0 0 [] [] [] 0))] [] .n ?_
 refine kRs 63 [Tm 6 (.data (.mp 2 [(.int .i64 1, .func (.func 50) #[] #[]), (.int .i64 2, .func (.func 51) #[] #[]), (.int .i64 3, .func (.func 52) #[] #[]), (.int .i64 4, .func (.func 53) #[] #[])]))] [] .n ?_
 obtain ⟨r3_1, h3_2, h⟩ := bd_inv h
 refine kRs 127 [Tm 7 (.ptr 15 0), Ob 15 (TMember.ob_00000100011101 (TMember.mk r3_1 []))] [.a ⟨.data (TRaft.ag_000001000111 r3_1), []⟩] (.c (Asks.of (C := Meets Try.prog) (raft_twin.meets fu r_v _ h3_2)) .n) ?_
 rcases br_inv h with ⟨b4_1, h⟩ | ⟨b4_1, h⟩
 ·refine kRs 507 [Tm 8 (.fn (.func 50) [] []), Tm 9 (bv true)] [.b true] (.c b4_1 .n) ?_
  refine kSq ?_
  obtain ⟨r5_1, h5_2, h⟩ := bd_inv h
  rcases br_inv h with ⟨b5_3, h⟩ | ⟨b5_3, h⟩
  ·refine kRs 877 [Tm 55 (bv true)] (.b false :: (.b false :: (.a ⟨bv r5_1, []⟩ :: (.b false :: (.b false :: (rp 22 (.b true) [])))))) (.r 2 rF (.c (Asks.of (C := Meets Try.prog) (raft_May.meets fu r_v _ h5_2)) (.r 2 rF (.r 4 b5_3 (.r 18 rT .n))))) ?_
   refine kCt rT ?_
   refine kRs 32 [Tm 5 (.data (.slc false (some true) 24 (List.map TMsg.en []))), Ob 4 (TRaft.ob r3_1)] [] .n ?_
   refine kWd 6 [Tm 5 (.data (.slc false none 24 (List.map TMsg.en [])))] ?_
   refine kRt ?_
   have h_0 := some_inj h
   obtain ⟨g_1, h_1⟩ := Prod.mk.inj h_0
   subst g_1
   subst h_1
   exact kFr
  ·rcases br_inv h with ⟨b5_4, h⟩ | ⟨b5_4, h⟩
   ·refine kRs 877 [Tm 55 (bv true)] (.b false :: (.b false :: (.a ⟨bv r5_1, []⟩ :: (rp 6 (.b false) (rp 18 (.b true) []))))) (.r 2 rF (.c (Asks.of (C := Meets Try.prog) (raft_May.meets fu r_v _ h5_2)) (.r 2 rF (.r 4 b5_3 (.r 6 b5_4 (.r 12 rT .n)))))) ?_
    refine kCt rT ?_
    refine kRs 32 [Tm 5 (.data (.slc false (some true) 24 (List.map TMsg.en []))), Ob 4 (TRaft.ob r3_1)] [] .n ?_
    refine kWd 6 [Tm 5 (.data (.slc false none 24 (List.map TMsg.en [])))] ?_
    refine kRt ?_
    have h_0 := some_inj h
    obtain ⟨g_1, h_1⟩ := Prod.mk.inj h_0
    subst g_1
    subst h_1
    exact kFr
   ·rcases br_inv h with ⟨b5_5, h⟩ | ⟨b5_5, h⟩
    ·refine kRs 877 [Tm 55 (bv true)] (.b false :: (.b false :: (.a ⟨bv r5_1, []⟩ :: (rp 12 (.b false) (rp 12 (.b true) []))))) (.r 2 rF (.c (Asks.of (C := Meets Try.prog) (raft_May.meets fu r_v _ h5_2)) (.r 2 rF (.r 4 b5_3 (.r 6 b5_4 (.r 6 b5_5 (.r 6 rT .n))))))) ?_
     refine kCt rT ?_
     refine kRs 32 [Tm 5 (.data (.slc false (some true) 24 (List.map TMsg.en []))), Ob 4 (TRaft.ob r3_1)] [] .n ?_
     refine kWd 6 [Tm 5 (.data (.slc false none 24 (List.map TMsg.en [])))] ?_
     refine kRt ?_
     have h_0 := some_inj h
     obtain ⟨g_1, h_1⟩ := Prod.mk.inj h_0
     subst g_1
     subst h_1
     exact kFr
    ·rcases br_inv h with ⟨b5_6, h⟩ | ⟨b5_6, h⟩
     ·refine kRs 877 [Tm 55 (bv true)] (.b false :: (.b false :: (.a ⟨bv r5_1, []⟩ :: (rp 18 (.b false) (rp 6 (.b true) []))))) (.r 2 rF (.c (Asks.of (C := Meets Try.prog) (raft_May.meets fu r_v _ h5_2)) (.r 2 rF (.r 4 b5_3 (.r 6 b5_4 (.r 6 b5_5 (.r 6 b5_6 .n))))))) ?_
      refine kCt rT ?_
      refine kRs 32 [Tm 5 (.data (.slc false (some true) 24 (List.map TMsg.en []))), Ob 4 (TRaft.ob r3_1)] [] .n ?_
      refine kWd 6 [Tm 5 (.data (.slc false none 24 (List.map TMsg.en [])))] ?_
      refine kRt ?_
      have h_0 := some_inj h
      obtain ⟨g_1, h_1⟩ := Prod.mk.inj h_0
      subst g_1
      subst h_1
      exact kFr
     ·refine kRs 877 [Tm 55 (bv (m.To != r_v.Me))] (.b false :: (.b false :: (.a ⟨bv r5_1, []⟩ :: (rp 24 (.b false) [])))) (.r 2 rF (.c (Asks.of (C := Meets Try.prog) (raft_May.meets fu r_v _ h5_2)) (.r 2 rF (.r 4 b5_3 (.r 6 b5_4 (.r 6 b5_5 (.r 6 b5_6 .n))))))) ?_
      rcases br_inv h with ⟨b10_0, h⟩ | ⟨b10_0, h⟩
      ·refine kCt b10_0 ?_
       refine kRs 32 [Tm 5 (.data (.slc false (some true) 24 (List.map TMsg.en []))), Ob 4 (TRaft.ob r3_1)] [] .n ?_
       refine kWd 6 [Tm 5 (.data (.slc false none 24 (List.map TMsg.en [])))] ?_
       refine kRt ?_
       have h_0 := some_inj h
       obtain ⟨g_1, h_1⟩ := Prod.mk.inj h_0
       subst g_1
       subst h_1
       exact kFr
      ·refine kCe b10_0 ?_
       refine kSk ?_
       refine kCd (cR (cR (cR (cR (cR bd25))))) [] ?_
       obtain ⟨k15, hk15, h⟩ := jn_inv h
       have Jk15 : ∀ (j15_2 : TMember), k15 j15_2 = some (z0, z1) → WK Try.prog raft_Take.O (Ck Try.prog) (cR (cR (cR (cR (cR (cR bd25)))))) [] (ofL [Tm 3 (.ptr 3 0), Tm 4 (.ptr 4 0), Tm 7 (.ptr 15 0), Tm 8 (.fn (.func 50) [] []), Ob 3 (TMsg.ob m), Ob 4 (TRaft.ob_000001000111 (TRaft.mk 0 0 0 0 0 [] 0 0 0 [] [] [] 0)), Ob 15 (TMember.ob_00000100011101 j15_2)]) (Fin Try.prog raft_Take.O Try.f25 0 ⟨.tup [.data (TRaft.ag z0), sS 24 TMsg.en z1], []⟩) := by
        intro j15_2 h
        rw [hk15] at h
        obtain ⟨r16_1, h16_2, h⟩ := bd_inv h
        refine kRs 38 [Ob 15 (TMember.ob_00000100011101 r16_1)] [.a ⟨.tup [], [(TMember.ob_00000100011101 r16_1)]⟩] (.c (Asks.of (C := Meets Try.prog) (raft_member_askVote.meets m j15_2 _ h16_2)) .n) ?_
        refine kSo 15 10 14 [Ob 15 (TMember.ob_00000100010101 r16_1)] ?_
        refine kSo 15 11 14 [Ob 15 (TMember.ob_00000100010001 r16_1)] ?_
        refine kSo 15 13 14 [Ob 15 (TMember.ob_0000010001 r16_1)] ?_
        refine kSo 15 5 14 [Ob 15 (TMember.ob_0000000001 r16_1)] ?_
        refine kSo 15 9 14 [Ob 15 (TMember.ob r16_1)] ?_
        refine kRs 2 [Tm 5 (sS 24 TMsg.en r16_1.out), Ob 4 (TRaft.ob r16_1.Raft)] [] (.c rT .n) ?_
        refine kRt ?_
        have h_0 := some_inj h
        obtain ⟨g_1, h_1⟩ := Prod.mk.inj h_0
        subst g_1
        subst h_1
        exact kFr
       clear hk15
       refine kSq ?_
       refine kRs 254 [Tm 67 (bv (decide (m.Term > r3_1.Term)))] [] (.c rT .n) ?_
       rcases br_inv h with ⟨b13_0, h⟩ | ⟨b13_0, h⟩
       ·refine kCt b13_0 ?_
        obtain ⟨r14_1, h14_2, h⟩ := bd_inv h
        refine kRc 246 [Ob 15 (TMember.ob_00000100011101 r14_1)] [.a ⟨.tup [], [(TMember.ob_00000100011101 r14_1)]⟩] (.c (Asks.of (C := Meets Try.prog) (raft_member_yields.meets m.Term (TMember.mk r3_1 []) _ h14_2)) .n) (cR (cR (cR (cR (cR (cR bd25)))))) [] ?_
        exact kWk (Jk15 r14_1 h)
       ·refine kCe b13_0 ?_
        refine kSk ?_
        refine kCd (cR (cR (cR (cR (cR (cR bd25)))))) [] ?_
        exact kWk (Jk15 (TMember.mk r3_1 []) h)
 ·rcases br_inv h with ⟨b4_2, h⟩ | ⟨b4_2, h⟩
  ·refine kRs 507 [Tm 8 (.fn (.func 51) [] []), Tm 9 (bv true)] [.b false, .b true] (.c b4_1 (.c b4_2 .n)) ?_
   refine kSq ?_
   obtain ⟨r18_1, h18_2, h⟩ := bd_inv h
   rcases br_inv h with ⟨b18_3, h⟩ | ⟨b18_3, h⟩
   ·refine kRs 877 [Tm 55 (bv true)] (.b false :: (.b false :: (.a ⟨bv r18_1, []⟩ :: (.b false :: (.b false :: (rp 22 (.b true) [])))))) (.r 2 rF (.c (Asks.of (C := Meets Try.prog) (raft_May.meets fu r_v _ h18_2)) (.r 2 rF (.r 4 b18_3 (.r 18 rT .n))))) ?_
    refine kCt rT ?_
    refine kRs 32 [Tm 5 (.data (.slc false (some true) 24 (List.map TMsg.en []))), Ob 4 (TRaft.ob r3_1)] [] .n ?_
    refine kWd 6 [Tm 5 (.data (.slc false none 24 (List.map TMsg.en [])))] ?_
    refine kRt ?_
    have h_0 := some_inj h
    obtain ⟨g_1, h_1⟩ := Prod.mk.inj h_0
    subst g_1
    subst h_1
    exact kFr
   ·rcases br_inv h with ⟨b18_4, h⟩ | ⟨b18_4, h⟩
    ·refine kRs 877 [Tm 55 (bv true)] (.b false :: (.b false :: (.a ⟨bv r18_1, []⟩ :: (rp 6 (.b false) (rp 18 (.b true) []))))) (.r 2 rF (.c (Asks.of (C := Meets Try.prog) (raft_May.meets fu r_v _ h18_2)) (.r 2 rF (.r 4 b18_3 (.r 6 b18_4 (.r 12 rT .n)))))) ?_
     refine kCt rT ?_
     refine kRs 32 [Tm 5 (.data (.slc false (some true) 24 (List.map TMsg.en []))), Ob 4 (TRaft.ob r3_1)] [] .n ?_
     refine kWd 6 [Tm 5 (.data (.slc false none 24 (List.map TMsg.en [])))] ?_
     refine kRt ?_
     have h_0 := some_inj h
     obtain ⟨g_1, h_1⟩ := Prod.mk.inj h_0
     subst g_1
     subst h_1
     exact kFr
    ·rcases br_inv h with ⟨b18_5, h⟩ | ⟨b18_5, h⟩
     ·refine kRs 877 [Tm 55 (bv true)] (.b false :: (.b false :: (.a ⟨bv r18_1, []⟩ :: (rp 12 (.b false) (rp 12 (.b true) []))))) (.r 2 rF (.c (Asks.of (C := Meets Try.prog) (raft_May.meets fu r_v _ h18_2)) (.r 2 rF (.r 4 b18_3 (.r 6 b18_4 (.r 6 b18_5 (.r 6 rT .n))))))) ?_
      refine kCt rT ?_
      refine kRs 32 [Tm 5 (.data (.slc false (some true) 24 (List.map TMsg.en []))), Ob 4 (TRaft.ob r3_1)] [] .n ?_
      refine kWd 6 [Tm 5 (.data (.slc false none 24 (List.map TMsg.en [])))] ?_
      refine kRt ?_
      have h_0 := some_inj h
      obtain ⟨g_1, h_1⟩ := Prod.mk.inj h_0
      subst g_1
      subst h_1
      exact kFr
     ·rcases br_inv h with ⟨b18_6, h⟩ | ⟨b18_6, h⟩
      ·refine kRs 877 [Tm 55 (bv true)] (.b false :: (.b false :: (.a ⟨bv r18_1, []⟩ :: (rp 18 (.b false) (rp 6 (.b true) []))))) (.r 2 rF (.c (Asks.of (C := Meets Try.prog) (raft_May.meets fu r_v _ h18_2)) (.r 2 rF (.r 4 b18_3 (.r 6 b18_4 (.r 6 b18_5 (.r 6 b18_6 .n))))))) ?_
       refine kCt rT ?_
       refine kRs 32 [Tm 5 (.data (.slc false (some true) 24 (List.map TMsg.en []))), Ob 4 (TRaft.ob r3_1)] [] .n ?_
       refine kWd 6 [Tm 5 (.data (.slc false none 24 (List.map TMsg.en [])))] ?_
       refine kRt ?_
       have h_0 := some_inj h
       obtain ⟨g_1, h_1⟩ := Prod.mk.inj h_0
       subst g_1
       subst h_1
       exact kFr
      ·refine kRs 877 [Tm 55 (bv (m.To != r_v.Me))] (.b false :: (.b false :: (.a ⟨bv r18_1, []⟩ :: (rp 24 (.b false) [])))) (.r 2 rF (.c (Asks.of (C := Meets Try.prog) (raft_May.meets fu r_v _ h18_2)) (.r 2 rF (.r 4 b18_3 (.r 6 b18_4 (.r 6 b18_5 (.r 6 b18_6 .n))))))) ?_
       rcases br_inv h with ⟨b23_0, h⟩ | ⟨b23_0, h⟩
       ·refine kCt b23_0 ?_
        refine kRs 32 [Tm 5 (.data (.slc false (some true) 24 (List.map TMsg.en []))), Ob 4 (TRaft.ob r3_1)] [] .n ?_
        refine kWd 6 [Tm 5 (.data (.slc false none 24 (List.map TMsg.en [])))] ?_
        refine kRt ?_
        have h_0 := some_inj h
        obtain ⟨g_1, h_1⟩ := Prod.mk.inj h_0
        subst g_1
        subst h_1
        exact kFr
       ·refine kCe b23_0 ?_
        refine kSk ?_
        refine kCd (cR (cR (cR (cR (cR bd25))))) [] ?_
        obtain ⟨k28, hk28, h⟩ := jn_inv h
        have Jk28 : ∀ (j28_2 : TMember), k28 j28_2 = some (z0, z1) → WK Try.prog raft_Take.O (Ck Try.prog) (cR (cR (cR (cR (cR (cR bd25)))))) [] (ofL [Tm 3 (.ptr 3 0), Tm 4 (.ptr 4 0), Tm 7 (.ptr 15 0), Tm 8 (.fn (.func 51) [] []), Ob 3 (TMsg.ob m), Ob 4 (TRaft.ob_000001000111 (TRaft.mk 0 0 0 0 0 [] 0 0 0 [] [] [] 0)), Ob 15 (TMember.ob_00000100011101 j28_2)]) (Fin Try.prog raft_Take.O Try.f25 0 ⟨.tup [.data (TRaft.ag z0), sS 24 TMsg.en z1], []⟩) := by
         intro j28_2 h
         rw [hk28] at h
         obtain ⟨r29_1, h29_2, h⟩ := bd_inv h
         refine kRs 38 [Ob 15 (TMember.ob_00000000011101 r29_1)] [.a ⟨.tup [], [(TMember.ob_00000000011101 r29_1)]⟩] (.c (Asks.of (C := Meets Try.prog) (raft_member_vote.meets fu m j28_2 _ h29_2)) .n) ?_
         refine kSo 15 10 14 [Ob 15 (TMember.ob_00000000010101 r29_1)] ?_
         refine kSo 15 11 14 [Ob 15 (TMember.ob_00000000010001 r29_1)] ?_
         refine kSo 15 13 14 [Ob 15 (TMember.ob_0000000001 r29_1)] ?_
         refine kSo 15 9 14 [Ob 15 (TMember.ob r29_1)] ?_
         refine kRs 2 [Tm 5 (sS 24 TMsg.en r29_1.out), Ob 4 (TRaft.ob r29_1.Raft)] [] (.c rT .n) ?_
         refine kRt ?_
         have h_0 := some_inj h
         obtain ⟨g_1, h_1⟩ := Prod.mk.inj h_0
         subst g_1
         subst h_1
         exact kFr
        clear hk28
        refine kSq ?_
        refine kRs 254 [Tm 67 (bv (decide (m.Term > r3_1.Term)))] [] (.c rT .n) ?_
        rcases br_inv h with ⟨b26_0, h⟩ | ⟨b26_0, h⟩
        ·refine kCt b26_0 ?_
         obtain ⟨r27_1, h27_2, h⟩ := bd_inv h
         refine kRc 246 [Ob 15 (TMember.ob_00000100011101 r27_1)] [.a ⟨.tup [], [(TMember.ob_00000100011101 r27_1)]⟩] (.c (Asks.of (C := Meets Try.prog) (raft_member_yields.meets m.Term (TMember.mk r3_1 []) _ h27_2)) .n) (cR (cR (cR (cR (cR (cR bd25)))))) [] ?_
         exact kWk (Jk28 r27_1 h)
        ·refine kCe b26_0 ?_
         refine kSk ?_
         refine kCd (cR (cR (cR (cR (cR (cR bd25)))))) [] ?_
         exact kWk (Jk28 (TMember.mk r3_1 []) h)
  ·rcases br_inv h with ⟨b4_3, h⟩ | ⟨b4_3, h⟩
   ·refine kRs 507 [Tm 8 (.fn (.func 52) [] []), Tm 9 (bv true)] [.b false, .b false, .b true] (.c b4_1 (.c b4_2 (.c b4_3 .n))) ?_
    refine kSq ?_
    obtain ⟨r31_1, h31_2, h⟩ := bd_inv h
    rcases br_inv h with ⟨b31_3, h⟩ | ⟨b31_3, h⟩
    ·refine kRs 877 [Tm 55 (bv true)] (.b false :: (.b false :: (.a ⟨bv r31_1, []⟩ :: (.b false :: (.b false :: (rp 22 (.b true) [])))))) (.r 2 rF (.c (Asks.of (C := Meets Try.prog) (raft_May.meets fu r_v _ h31_2)) (.r 2 rF (.r 4 b31_3 (.r 18 rT .n))))) ?_
     refine kCt rT ?_
     refine kRs 32 [Tm 5 (.data (.slc false (some true) 24 (List.map TMsg.en []))), Ob 4 (TRaft.ob r3_1)] [] .n ?_
     refine kWd 6 [Tm 5 (.data (.slc false none 24 (List.map TMsg.en [])))] ?_
     refine kRt ?_
     have h_0 := some_inj h
     obtain ⟨g_1, h_1⟩ := Prod.mk.inj h_0
     subst g_1
     subst h_1
     exact kFr
    ·rcases br_inv h with ⟨b31_4, h⟩ | ⟨b31_4, h⟩
     ·refine kRs 877 [Tm 55 (bv true)] (.b false :: (.b false :: (.a ⟨bv r31_1, []⟩ :: (rp 6 (.b false) (rp 18 (.b true) []))))) (.r 2 rF (.c (Asks.of (C := Meets Try.prog) (raft_May.meets fu r_v _ h31_2)) (.r 2 rF (.r 4 b31_3 (.r 6 b31_4 (.r 12 rT .n)))))) ?_
      refine kCt rT ?_
      refine kRs 32 [Tm 5 (.data (.slc false (some true) 24 (List.map TMsg.en []))), Ob 4 (TRaft.ob r3_1)] [] .n ?_
      refine kWd 6 [Tm 5 (.data (.slc false none 24 (List.map TMsg.en [])))] ?_
      refine kRt ?_
      have h_0 := some_inj h
      obtain ⟨g_1, h_1⟩ := Prod.mk.inj h_0
      subst g_1
      subst h_1
      exact kFr
     ·rcases br_inv h with ⟨b31_5, h⟩ | ⟨b31_5, h⟩
      ·refine kRs 877 [Tm 55 (bv true)] (.b false :: (.b false :: (.a ⟨bv r31_1, []⟩ :: (rp 12 (.b false) (rp 12 (.b true) []))))) (.r 2 rF (.c (Asks.of (C := Meets Try.prog) (raft_May.meets fu r_v _ h31_2)) (.r 2 rF (.r 4 b31_3 (.r 6 b31_4 (.r 6 b31_5 (.r 6 rT .n))))))) ?_
       refine kCt rT ?_
       refine kRs 32 [Tm 5 (.data (.slc false (some true) 24 (List.map TMsg.en []))), Ob 4 (TRaft.ob r3_1)] [] .n ?_
       refine kWd 6 [Tm 5 (.data (.slc false none 24 (List.map TMsg.en [])))] ?_
       refine kRt ?_
       have h_0 := some_inj h
       obtain ⟨g_1, h_1⟩ := Prod.mk.inj h_0
       subst g_1
       subst h_1
       exact kFr
      ·rcases br_inv h with ⟨b31_6, h⟩ | ⟨b31_6, h⟩
       ·refine kRs 877 [Tm 55 (bv true)] (.b false :: (.b false :: (.a ⟨bv r31_1, []⟩ :: (rp 18 (.b false) (rp 6 (.b true) []))))) (.r 2 rF (.c (Asks.of (C := Meets Try.prog) (raft_May.meets fu r_v _ h31_2)) (.r 2 rF (.r 4 b31_3 (.r 6 b31_4 (.r 6 b31_5 (.r 6 b31_6 .n))))))) ?_
        refine kCt rT ?_
        refine kRs 32 [Tm 5 (.data (.slc false (some true) 24 (List.map TMsg.en []))), Ob 4 (TRaft.ob r3_1)] [] .n ?_
        refine kWd 6 [Tm 5 (.data (.slc false none 24 (List.map TMsg.en [])))] ?_
        refine kRt ?_
        have h_0 := some_inj h
        obtain ⟨g_1, h_1⟩ := Prod.mk.inj h_0
        subst g_1
        subst h_1
        exact kFr
       ·refine kRs 877 [Tm 55 (bv (m.To != r_v.Me))] (.b false :: (.b false :: (.a ⟨bv r31_1, []⟩ :: (rp 24 (.b false) [])))) (.r 2 rF (.c (Asks.of (C := Meets Try.prog) (raft_May.meets fu r_v _ h31_2)) (.r 2 rF (.r 4 b31_3 (.r 6 b31_4 (.r 6 b31_5 (.r 6 b31_6 .n))))))) ?_
        rcases br_inv h with ⟨b36_0, h⟩ | ⟨b36_0, h⟩
        ·refine kCt b36_0 ?_
         refine kRs 32 [Tm 5 (.data (.slc false (some true) 24 (List.map TMsg.en []))), Ob 4 (TRaft.ob r3_1)] [] .n ?_
         refine kWd 6 [Tm 5 (.data (.slc false none 24 (List.map TMsg.en [])))] ?_
         refine kRt ?_
         have h_0 := some_inj h
         obtain ⟨g_1, h_1⟩ := Prod.mk.inj h_0
         subst g_1
         subst h_1
         exact kFr
        ·refine kCe b36_0 ?_
         refine kSk ?_
         refine kCd (cR (cR (cR (cR (cR bd25))))) [] ?_
         obtain ⟨k41, hk41, h⟩ := jn_inv h
         have Jk41 : ∀ (j41_2 : TMember), k41 j41_2 = some (z0, z1) → WK Try.prog raft_Take.O (Ck Try.prog) (cR (cR (cR (cR (cR (cR bd25)))))) [] (ofL [Tm 3 (.ptr 3 0), Tm 4 (.ptr 4 0), Tm 7 (.ptr 15 0), Tm 8 (.fn (.func 52) [] []), Ob 3 (TMsg.ob m), Ob 4 (TRaft.ob_000001000111 (TRaft.mk 0 0 0 0 0 [] 0 0 0 [] [] [] 0)), Ob 15 (TMember.ob_00000100011101 j41_2)]) (Fin Try.prog raft_Take.O Try.f25 0 ⟨.tup [.data (TRaft.ag z0), sS 24 TMsg.en z1], []⟩) := by
          intro j41_2 h
          rw [hk41] at h
          obtain ⟨r42_1, h42_2, h⟩ := bd_inv h
          refine kRs 38 [Ob 15 (TMember.ob_00000000011101 r42_1)] [.a ⟨.tup [], [(TMember.ob_00000000011101 r42_1)]⟩] (.c (Asks.of (C := Meets Try.prog) (raft_member_append.meets fu m j41_2 _ h42_2)) .n) ?_
          refine kSo 15 10 14 [Ob 15 (TMember.ob_00000000010101 r42_1)] ?_
          refine kSo 15 11 14 [Ob 15 (TMember.ob_00000000010001 r42_1)] ?_
          refine kSo 15 13 14 [Ob 15 (TMember.ob_0000000001 r42_1)] ?_
          refine kSo 15 9 14 [Ob 15 (TMember.ob r42_1)] ?_
          refine kRs 2 [Tm 5 (sS 24 TMsg.en r42_1.out), Ob 4 (TRaft.ob r42_1.Raft)] [] (.c rT .n) ?_
          refine kRt ?_
          have h_0 := some_inj h
          obtain ⟨g_1, h_1⟩ := Prod.mk.inj h_0
          subst g_1
          subst h_1
          exact kFr
         clear hk41
         refine kSq ?_
         refine kRs 254 [Tm 67 (bv (decide (m.Term > r3_1.Term)))] [] (.c rT .n) ?_
         rcases br_inv h with ⟨b39_0, h⟩ | ⟨b39_0, h⟩
         ·refine kCt b39_0 ?_
          obtain ⟨r40_1, h40_2, h⟩ := bd_inv h
          refine kRc 246 [Ob 15 (TMember.ob_00000100011101 r40_1)] [.a ⟨.tup [], [(TMember.ob_00000100011101 r40_1)]⟩] (.c (Asks.of (C := Meets Try.prog) (raft_member_yields.meets m.Term (TMember.mk r3_1 []) _ h40_2)) .n) (cR (cR (cR (cR (cR (cR bd25)))))) [] ?_
          exact kWk (Jk41 r40_1 h)
         ·refine kCe b39_0 ?_
          refine kSk ?_
          refine kCd (cR (cR (cR (cR (cR (cR bd25)))))) [] ?_
          exact kWk (Jk41 (TMember.mk r3_1 []) h)
   ·rcases br_inv h with ⟨b4_4, h⟩ | ⟨b4_4, h⟩
    ·refine kRs 507 [Tm 8 (.fn (.func 53) [] []), Tm 9 (bv true)] [.b false, .b false, .b false, .b true] (.c b4_1 (.c b4_2 (.c b4_3 (.c b4_4 .n)))) ?_
     refine kSq ?_
     obtain ⟨r44_1, h44_2, h⟩ := bd_inv h
     rcases br_inv h with ⟨b44_3, h⟩ | ⟨b44_3, h⟩
     ·refine kRs 877 [Tm 55 (bv true)] (.b false :: (.b false :: (.a ⟨bv r44_1, []⟩ :: (.b false :: (.b false :: (rp 22 (.b true) [])))))) (.r 2 rF (.c (Asks.of (C := Meets Try.prog) (raft_May.meets fu r_v _ h44_2)) (.r 2 rF (.r 4 b44_3 (.r 18 rT .n))))) ?_
      refine kCt rT ?_
      refine kRs 32 [Tm 5 (.data (.slc false (some true) 24 (List.map TMsg.en []))), Ob 4 (TRaft.ob r3_1)] [] .n ?_
      refine kWd 6 [Tm 5 (.data (.slc false none 24 (List.map TMsg.en [])))] ?_
      refine kRt ?_
      have h_0 := some_inj h
      obtain ⟨g_1, h_1⟩ := Prod.mk.inj h_0
      subst g_1
      subst h_1
      exact kFr
     ·rcases br_inv h with ⟨b44_4, h⟩ | ⟨b44_4, h⟩
      ·refine kRs 877 [Tm 55 (bv true)] (.b false :: (.b false :: (.a ⟨bv r44_1, []⟩ :: (rp 6 (.b false) (rp 18 (.b true) []))))) (.r 2 rF (.c (Asks.of (C := Meets Try.prog) (raft_May.meets fu r_v _ h44_2)) (.r 2 rF (.r 4 b44_3 (.r 6 b44_4 (.r 12 rT .n)))))) ?_
       refine kCt rT ?_
       refine kRs 32 [Tm 5 (.data (.slc false (some true) 24 (List.map TMsg.en []))), Ob 4 (TRaft.ob r3_1)] [] .n ?_
       refine kWd 6 [Tm 5 (.data (.slc false none 24 (List.map TMsg.en [])))] ?_
       refine kRt ?_
       have h_0 := some_inj h
       obtain ⟨g_1, h_1⟩ := Prod.mk.inj h_0
       subst g_1
       subst h_1
       exact kFr
      ·rcases br_inv h with ⟨b44_5, h⟩ | ⟨b44_5, h⟩
       ·refine kRs 877 [Tm 55 (bv true)] (.b false :: (.b false :: (.a ⟨bv r44_1, []⟩ :: (rp 12 (.b false) (rp 12 (.b true) []))))) (.r 2 rF (.c (Asks.of (C := Meets Try.prog) (raft_May.meets fu r_v _ h44_2)) (.r 2 rF (.r 4 b44_3 (.r 6 b44_4 (.r 6 b44_5 (.r 6 rT .n))))))) ?_
        refine kCt rT ?_
        refine kRs 32 [Tm 5 (.data (.slc false (some true) 24 (List.map TMsg.en []))), Ob 4 (TRaft.ob r3_1)] [] .n ?_
        refine kWd 6 [Tm 5 (.data (.slc false none 24 (List.map TMsg.en [])))] ?_
        refine kRt ?_
        have h_0 := some_inj h
        obtain ⟨g_1, h_1⟩ := Prod.mk.inj h_0
        subst g_1
        subst h_1
        exact kFr
       ·rcases br_inv h with ⟨b44_6, h⟩ | ⟨b44_6, h⟩
        ·refine kRs 877 [Tm 55 (bv true)] (.b false :: (.b false :: (.a ⟨bv r44_1, []⟩ :: (rp 18 (.b false) (rp 6 (.b true) []))))) (.r 2 rF (.c (Asks.of (C := Meets Try.prog) (raft_May.meets fu r_v _ h44_2)) (.r 2 rF (.r 4 b44_3 (.r 6 b44_4 (.r 6 b44_5 (.r 6 b44_6 .n))))))) ?_
         refine kCt rT ?_
         refine kRs 32 [Tm 5 (.data (.slc false (some true) 24 (List.map TMsg.en []))), Ob 4 (TRaft.ob r3_1)] [] .n ?_
         refine kWd 6 [Tm 5 (.data (.slc false none 24 (List.map TMsg.en [])))] ?_
         refine kRt ?_
         have h_0 := some_inj h
         obtain ⟨g_1, h_1⟩ := Prod.mk.inj h_0
         subst g_1
         subst h_1
         exact kFr
        ·refine kRs 877 [Tm 55 (bv (m.To != r_v.Me))] (.b false :: (.b false :: (.a ⟨bv r44_1, []⟩ :: (rp 24 (.b false) [])))) (.r 2 rF (.c (Asks.of (C := Meets Try.prog) (raft_May.meets fu r_v _ h44_2)) (.r 2 rF (.r 4 b44_3 (.r 6 b44_4 (.r 6 b44_5 (.r 6 b44_6 .n))))))) ?_
         rcases br_inv h with ⟨b49_0, h⟩ | ⟨b49_0, h⟩
         ·refine kCt b49_0 ?_
          refine kRs 32 [Tm 5 (.data (.slc false (some true) 24 (List.map TMsg.en []))), Ob 4 (TRaft.ob r3_1)] [] .n ?_
          refine kWd 6 [Tm 5 (.data (.slc false none 24 (List.map TMsg.en [])))] ?_
          refine kRt ?_
          have h_0 := some_inj h
          obtain ⟨g_1, h_1⟩ := Prod.mk.inj h_0
          subst g_1
          subst h_1
          exact kFr
         ·refine kCe b49_0 ?_
          refine kSk ?_
          refine kCd (cR (cR (cR (cR (cR bd25))))) [] ?_
          obtain ⟨k54, hk54, h⟩ := jn_inv h
          have Jk54 : ∀ (j54_2 : TMember), k54 j54_2 = some (z0, z1) → WK Try.prog raft_Take.O (Ck Try.prog) (cR (cR (cR (cR (cR (cR bd25)))))) [] (ofL [Tm 3 (.ptr 3 0), Tm 4 (.ptr 4 0), Tm 7 (.ptr 15 0), Tm 8 (.fn (.func 53) [] []), Ob 3 (TMsg.ob m), Ob 4 (TRaft.ob_000001000111 (TRaft.mk 0 0 0 0 0 [] 0 0 0 [] [] [] 0)), Ob 15 (TMember.ob_00000100011101 j54_2)]) (Fin Try.prog raft_Take.O Try.f25 0 ⟨.tup [.data (TRaft.ag z0), sS 24 TMsg.en z1], []⟩) := by
           intro j54_2 h
           rw [hk54] at h
           obtain ⟨r55_1, h55_2, h⟩ := bd_inv h
           refine kRs 38 [Ob 15 (TMember.ob_00000000011101 r55_1)] [.a ⟨.tup [], [(TMember.ob_00000000011101 r55_1)]⟩] (.c (Asks.of (C := Meets Try.prog) (raft_member_appended.meets fu m j54_2 _ h55_2)) .n) ?_
           refine kSo 15 10 14 [Ob 15 (TMember.ob_00000000010101 r55_1)] ?_
           refine kSo 15 11 14 [Ob 15 (TMember.ob_00000000010001 r55_1)] ?_
           refine kSo 15 13 14 [Ob 15 (TMember.ob_0000000001 r55_1)] ?_
           refine kSo 15 9 14 [Ob 15 (TMember.ob r55_1)] ?_
           refine kRs 2 [Tm 5 (sS 24 TMsg.en r55_1.out), Ob 4 (TRaft.ob r55_1.Raft)] [] (.c rT .n) ?_
           refine kRt ?_
           have h_0 := some_inj h
           obtain ⟨g_1, h_1⟩ := Prod.mk.inj h_0
           subst g_1
           subst h_1
           exact kFr
          clear hk54
          refine kSq ?_
          refine kRs 254 [Tm 67 (bv (decide (m.Term > r3_1.Term)))] [] (.c rT .n) ?_
          rcases br_inv h with ⟨b52_0, h⟩ | ⟨b52_0, h⟩
          ·refine kCt b52_0 ?_
           obtain ⟨r53_1, h53_2, h⟩ := bd_inv h
           refine kRc 246 [Ob 15 (TMember.ob_00000100011101 r53_1)] [.a ⟨.tup [], [(TMember.ob_00000100011101 r53_1)]⟩] (.c (Asks.of (C := Meets Try.prog) (raft_member_yields.meets m.Term (TMember.mk r3_1 []) _ h53_2)) .n) (cR (cR (cR (cR (cR (cR bd25)))))) [] ?_
           exact kWk (Jk54 r53_1 h)
          ·refine kCe b52_0 ?_
           refine kSk ?_
           refine kCd (cR (cR (cR (cR (cR (cR bd25)))))) [] ?_
           exact kWk (Jk54 (TMember.mk r3_1 []) h)
    ·refine kRs 507 [Tm 8 (.data (.val .nilFunc)), Tm 9 (bv false)] (rp 4 (.b false) []) (.c b4_1 (.c b4_2 (.c b4_3 (.c b4_4 .n)))) ?_
     refine kSq ?_
     refine kRs 877 [Tm 55 (bv true)] (rp 26 (.b true) []) (.r 26 rT .n) ?_
     refine kCt rT ?_
     refine kRs 32 [Tm 5 (.data (.slc false (some true) 24 (List.map TMsg.en []))), Ob 4 (TRaft.ob r3_1)] [] .n ?_
     refine kWd 6 [Tm 5 (.data (.slc false none 24 (List.map TMsg.en [])))] ?_
     refine kRt ?_
     have h_0 := some_inj h
     obtain ⟨g_1, h_1⟩ := Prod.mk.inj h_0
     subst g_1
     subst h_1
     exact kFr
def bd15 : Code := (Try.f15.body).getD .skip
def diwanref11_Copy.O : Nat → Nat := fun t => bif ([1, 2, 3, 6, 8, 11, 13, 16, 18, 21, 23] : List Nat).any (Nat.beq t) then 1 else 0
def diwanref11_Copy (r_v : TRaft) : Option Unit :=
 gd (decide (([] : List TEntry).length + r_v.Log.length ≤ 4294967296)) <|
 gd (decide (([] : List Bool).length + r_v.Votes.length ≤ 4294967296)) <|
 gd (decide (([] : List Int).length + r_v.Next.length ≤ 4294967296)) <|
 gd (decide (([] : List Int).length + r_v.Match.length ≤ 4294967296)) <|
 some ()
theorem diwanref11_Copy.meets (r_v : TRaft) (h : diwanref11_Copy r_v = some ()) : Meets Try.prog ⟨15, [.data (TRaft.ag r_v)], []⟩ ⟨.data (TRaft.ag_000001000111 r_v), []⟩ := by
 refine kMt hmix diwanref11_Copy.O Try.f15 bd15 1 ?_
 unfold diwanref11_Copy at h
 refine kRs 0 [Tm 1 (.ptr 1 0), Tm 2 (.ptr 2 0), Ob 1 (TRaft.ob r_v), Ob 2 (TRaft.ob_000001000111 (TRaft.mk 0 0 0 0 0 [] 0 0 0 [] [] [] 0))] [] .n ?_
 obtain ⟨c2_1, h⟩ := gd_inv h
 refine kRs 11 [Ob 1 (TRaft.ob_000001 r_v)] [] (.c (c_al (e := TEntry.en) (f := TEntry.en) c2_1) .n) ?_
 obtain ⟨c3_1, h⟩ := gd_inv h
 refine kRs 14 [Ob 1 (TRaft.ob_0000010001 r_v)] [] (.c (c_al (e := e_b) (f := e_b) c3_1) .n) ?_
 obtain ⟨c4_1, h⟩ := gd_inv h
 refine kRs 14 [Ob 1 (TRaft.ob_00000100011 r_v)] [] (.c (c_al (e := e_i64) (f := e_i64) c4_1) .n) ?_
 obtain ⟨c5_1, h⟩ := gd_inv h
 refine kRs 14 [Ob 1 (TRaft.ob_000001000111 r_v)] [] (.c (c_al (e := e_i64) (f := e_i64) c5_1) .n) ?_
 refine kRs 4 [Ob 2 (TRaft.ob_000001000111 r_v)] [] .n ?_
 refine kRt ?_
 cases some_inj h
 exact kFr
def bd17 : Code := (Try.f17.body).getD .skip
def diwanref11_May.O : Nat → Nat := fun t => bif ([1, 2, 3] : List Nat).any (Nat.beq t) then 1 else 0
def diwanref11_May.lp25 (fu : Nat) (l25_1 : TRaft) : Nat → Int → Option (Unit ⊕ Unit)
  | 0, _ => none
  | n_ + 1, l25_0 =>
  br (decide (l25_0 < (l25_1.Log.length : Int)))
   (ix l25_1.Log l25_0 fun x28_1 =>
   br (decide (x28_1.Term < 1))
    (some (.inr ()))
    (ix l25_1.Log l25_0 fun x28_5 =>
    br (decide (x28_5.Term > l25_1.Term))
     (some (.inr ()))
     (br (decide (l25_0 > 0))
      (ix l25_1.Log l25_0 fun x28_10 =>
      ix l25_1.Log (w64 (l25_0 - 1)) fun x28_13 =>
      br (decide (x28_10.Term < x28_13.Term))
       (some (.inr ()))
       (diwanref11_May.lp25 fu l25_1 n_ (w64 (l25_0 + 1))))
      (diwanref11_May.lp25 fu l25_1 n_ (w64 (l25_0 + 1))))))
   (some (.inl ()))
def diwanref11_May.lp25_post (l25_1 : TRaft) (r_ : (Unit ⊕ Unit)) : Wy → St → Prop := fun e τ => match r_ with
  | .inl _ => e = .exit 0 ∧ τ = ofL []
  | .inr _ => e = .ret ∧ τ = ofL [Tm 2 (bv false)]
theorem diwanref11_May.lp25_ok (fu : Nat) (l25_1 : TRaft) : ∀ (n_ : Nat) (l25_0 : Int) (r_ : (Unit ⊕ Unit)), diwanref11_May.lp25 fu l25_1 n_ l25_0 = some r_ → WK Try.prog diwanref11_May.O (Ck Try.prog) (cB (cR (cL (cR (cR bd17))))) [] (ofL [Tm 1 (.ptr 1 0), Tm 3 (iv l25_0), Ob 1 (TRaft.ob l25_1)]) (diwanref11_May.lp25_post l25_1 r_) := by
 intro n_
 induction n_ with
 | zero => intro l25_0 r_ h; exact no_none h
 | succ n_ ih =>
  intro l25_0 r_ h
  refine kLp ?_
  refine kSq ?_
  refine kRs 7 [Tm 125 (bv (decide (l25_0 < (l25_1.Log.length : Int))))] [.s (.t 124) [iv (l25_1.Log.length : Int)]] (.c (c_len (e := TEntry.en) (l := l25_1.Log)) .n) ?_
  rcases br_inv h with ⟨b27_0, h⟩ | ⟨b27_0, h⟩
  ·refine kCt b27_0 ?_
   refine kSk ?_
   refine kCd (cR (cB (cB (cR (cL (cR (cR bd17))))))) [.lp (cB (cR (cL (cR (cR bd17)))))] ?_
   refine kSq ?_
   refine kBk 1 ?_
   obtain ⟨x28_1, a28_2, e28_3, h⟩ := ix_inv h
   rcases br_inv h with ⟨b28_4, h⟩ | ⟨b28_4, h⟩
   ·refine kRs 14 [Tm 165 (bv true)] (.c (TEntry.en x28_1) :: (rp 15 (.b true) [])) (.c (c_ix (e := TEntry.en) a28_2 e28_3) (.c (c_el (e := TEntry.en) e28_3) (.r 10 b28_4 (.r 6 rT .n)))) ?_
    refine kCt rT ?_
    refine kRs 0 [Tm 2 (bv false)] [] .n ?_
    cases some_inj h
    refine kWo ?_
    refine kRt ?_
    exact kOut
   ·obtain ⟨x28_5, a28_6, e28_7, h⟩ := ix_inv h
    rcases br_inv h with ⟨b28_8, h⟩ | ⟨b28_8, h⟩
    ·refine kRs 14 [Tm 165 (bv true)] (.c (TEntry.en x28_1) :: (rp 4 (.b false) (.c (TEntry.en x28_5) :: (rp 6 (.b false) (rp 5 (.b true) []))))) (.c (c_ix (e := TEntry.en) a28_2 e28_3) (.c (c_el (e := TEntry.en) e28_3) (.r 4 b28_4 (.c (c_ix (e := TEntry.en) a28_6 e28_7) (.c (c_el (e := TEntry.en) e28_7) (.r 6 b28_4 (.r 5 b28_8 (.c rT .n)))))))) ?_
     refine kCt rT ?_
     refine kRs 0 [Tm 2 (bv false)] [] .n ?_
     cases some_inj h
     refine kWo ?_
     refine kRt ?_
     exact kOut
    ·rcases br_inv h with ⟨b28_9, h⟩ | ⟨b28_9, h⟩
     ·obtain ⟨x28_10, a28_11, e28_12, h⟩ := ix_inv h
      obtain ⟨x28_13, a28_14, e28_15, h⟩ := ix_inv h
      refine kRs 14 [Tm 165 (bv (decide (x28_10.Term < x28_13.Term)))] (.c (TEntry.en x28_1) :: (rp 4 (.b false) (.c (TEntry.en x28_5) :: (rp 9 (.b false) (rp 4 (.b true) (.c (TEntry.en x28_10) :: (rp 7 (.b true) [.c (TEntry.en x28_13), .b true, .b true, .b true, .b false, .b true, .b false]))))))) (.c (c_ix (e := TEntry.en) a28_2 e28_3) (.c (c_el (e := TEntry.en) e28_3) (.r 4 b28_4 (.c (c_ix (e := TEntry.en) a28_6 e28_7) (.c (c_el (e := TEntry.en) e28_7) (.r 6 b28_4 (.r 3 b28_8 (.r 4 b28_9 (.c (c_ix (e := TEntry.en) a28_11 e28_12) (.c (c_el (e := TEntry.en) e28_12) (.r 7 b28_9 (.c (c_ix (e := TEntry.en) a28_14 e28_15) (.c (c_el (e := TEntry.en) e28_15) (.r 3 b28_9 (.c b28_8 (.c b28_9 (.c b28_8 (.c rT .n)))))))))))))))))) ?_
      rcases br_inv h with ⟨b31_0, h⟩ | ⟨b31_0, h⟩
      ·refine kCt b31_0 ?_
       refine kRs 0 [Tm 2 (bv false)] [] .n ?_
       cases some_inj h
       refine kWo ?_
       refine kRt ?_
       exact kOut
      ·refine kCe b31_0 ?_
       refine kSk ?_
       refine kCd (cR (cR (cB (cB (cR (cL (cR (cR bd17)))))))) [.lp (cB (cR (cL (cR (cR bd17)))))] ?_
       refine kRc 10 [Tm 3 (iv (w64 (l25_0 + 1)))] [] .n (cB (cR (cL (cR (cR bd17))))) [] ?_
       exact kWk (ih (w64 (l25_0 + 1)) _ h)
     ·refine kRs 14 [Tm 165 (bv false)] (.c (TEntry.en x28_1) :: (rp 4 (.b false) (.c (TEntry.en x28_5) :: (rp 26 (.b false) [])))) (.c (c_ix (e := TEntry.en) a28_2 e28_3) (.c (c_el (e := TEntry.en) e28_3) (.r 4 b28_4 (.c (c_ix (e := TEntry.en) a28_6 e28_7) (.c (c_el (e := TEntry.en) e28_7) (.r 6 b28_4 (.r 3 b28_8 (.r 14 b28_9 (.c b28_8 (.c b28_9 (.c b28_8 (.c rT .n)))))))))))) ?_
      refine kCe rF ?_
      refine kSk ?_
      refine kCd (cR (cR (cB (cB (cR (cL (cR (cR bd17)))))))) [.lp (cB (cR (cL (cR (cR bd17)))))] ?_
      refine kRc 10 [Tm 3 (iv (w64 (l25_0 + 1)))] [] .n (cB (cR (cL (cR (cR bd17))))) [] ?_
      exact kWk (ih (w64 (l25_0 + 1)) _ h)
  ·refine kCe b27_0 ?_
   cases some_inj h
   refine kWo ?_
   refine kXt 0 ?_
   exact kOut
def diwanref11_May (fu : Nat) (r_v : TRaft) : Option Bool :=
 br (decide (r_v.Nodes < 1))
  (some false)
  (br (decide (r_v.Nodes > 5))
   (some false)
   (br (decide (r_v.Me < 1))
    (some false)
    (br (decide (r_v.Me > r_v.Nodes))
     (some false)
     (br (decide (r_v.Wait < 1))
      (some false)
      (br (decide (r_v.Wait > 60))
       (some false)
       (br (decide (r_v.Term < 0))
        (some false)
        (br (decide (r_v.Vote < 0))
         (some false)
         (br (decide (r_v.Vote > r_v.Nodes))
          (some false)
          (br (decide (r_v.Leader < 0))
           (some false)
           (br (decide (r_v.Leader > r_v.Nodes))
            (some false)
            (br (decide ((r_v.Log.length : Int) > 200))
             (some false)
             (br (decide (r_v.Commit < 0))
              (some false)
              (br (decide (r_v.Commit > (r_v.Log.length : Int)))
               (some false)
               (br (decide (r_v.Role < 0))
                (some false)
                (br (decide (r_v.Role > 2))
                 (some false)
                 (br ((r_v.Votes.length : Int) != r_v.Nodes)
                  (some false)
                  (br ((r_v.Next.length : Int) != r_v.Nodes)
                   (some false)
                   (br ((r_v.Match.length : Int) != r_v.Nodes)
                    (some false)
                    (br (decide (r_v.Clock < 0))
                     (some false)
                     (bd (diwanref11_May.lp25 fu r_v fu 0) fun o_ => (match o_ with
                     | .inl _ =>
                      some true
                     | .inr _ =>
                      some false)))))))))))))))))))))
theorem diwanref11_May.meets (fu : Nat) (r_v : TRaft) (z0 : Bool) (h : diwanref11_May fu r_v = some z0) : Meets Try.prog ⟨17, [.data (TRaft.ag r_v)], []⟩ ⟨bv z0, []⟩ := by
 refine kMt hmix diwanref11_May.O Try.f17 bd17 1 ?_
 unfold diwanref11_May at h
 refine kRs 0 [Tm 1 (.ptr 1 0), Ob 1 (TRaft.ob r_v)] [] .n ?_
 refine kSq ?_
 rcases br_inv h with ⟨b2_1, h⟩ | ⟨b2_1, h⟩
 ·refine kRs 3 [Tm 120 (bv true)] (rp 95 (.b true) []) (.r 4 b2_1 (.r 91 rT .n)) ?_
  refine kCt rT ?_
  refine kRs 0 [Tm 2 (bv false)] [] .n ?_
  refine kRt ?_
  have h_ := some_inj h
  subst h_
  exact kFr
 ·rcases br_inv h with ⟨b2_2, h⟩ | ⟨b2_2, h⟩
  ·refine kRs 3 [Tm 120 (bv true)] (rp 4 (.b false) (rp 91 (.b true) [])) (.r 4 b2_1 (.r 4 b2_2 (.r 87 rT .n))) ?_
   refine kCt rT ?_
   refine kRs 0 [Tm 2 (bv false)] [] .n ?_
   refine kRt ?_
   have h_ := some_inj h
   subst h_
   exact kFr
  ·rcases br_inv h with ⟨b2_3, h⟩ | ⟨b2_3, h⟩
   ·refine kRs 3 [Tm 120 (bv true)] (rp 8 (.b false) (rp 87 (.b true) [])) (.r 4 b2_1 (.r 4 b2_2 (.r 6 b2_3 (.r 81 rT .n)))) ?_
    refine kCt rT ?_
    refine kRs 0 [Tm 2 (bv false)] [] .n ?_
    refine kRt ?_
    have h_ := some_inj h
    subst h_
    exact kFr
   ·rcases br_inv h with ⟨b2_4, h⟩ | ⟨b2_4, h⟩
    ·refine kRs 3 [Tm 120 (bv true)] (rp 14 (.b false) (rp 81 (.b true) [])) (.r 4 b2_1 (.r 4 b2_2 (.r 6 b2_3 (.r 4 b2_4 (.r 77 rT .n))))) ?_
     refine kCt rT ?_
     refine kRs 0 [Tm 2 (bv false)] [] .n ?_
     refine kRt ?_
     have h_ := some_inj h
     subst h_
     exact kFr
    ·rcases br_inv h with ⟨b2_5, h⟩ | ⟨b2_5, h⟩
     ·refine kRs 3 [Tm 120 (bv true)] (rp 18 (.b false) (rp 77 (.b true) [])) (.r 4 b2_1 (.r 4 b2_2 (.r 6 b2_3 (.r 4 b2_4 (.r 4 b2_5 (.r 73 rT .n)))))) ?_
      refine kCt rT ?_
      refine kRs 0 [Tm 2 (bv false)] [] .n ?_
      refine kRt ?_
      have h_ := some_inj h
      subst h_
      exact kFr
     ·rcases br_inv h with ⟨b2_6, h⟩ | ⟨b2_6, h⟩
      ·refine kRs 3 [Tm 120 (bv true)] (rp 22 (.b false) (rp 73 (.b true) [])) (.r 4 b2_1 (.r 4 b2_2 (.r 6 b2_3 (.r 4 b2_4 (.r 4 b2_5 (.r 4 b2_6 (.r 69 rT .n))))))) ?_
       refine kCt rT ?_
       refine kRs 0 [Tm 2 (bv false)] [] .n ?_
       refine kRt ?_
       have h_ := some_inj h
       subst h_
       exact kFr
      ·rcases br_inv h with ⟨b2_7, h⟩ | ⟨b2_7, h⟩
       ·refine kRs 3 [Tm 120 (bv true)] (rp 26 (.b false) (rp 69 (.b true) [])) (.r 4 b2_1 (.r 4 b2_2 (.r 6 b2_3 (.r 4 b2_4 (.r 4 b2_5 (.r 4 b2_6 (.r 4 b2_7 (.r 65 rT .n)))))))) ?_
        refine kCt rT ?_
        refine kRs 0 [Tm 2 (bv false)] [] .n ?_
        refine kRt ?_
        have h_ := some_inj h
        subst h_
        exact kFr
       ·rcases br_inv h with ⟨b2_8, h⟩ | ⟨b2_8, h⟩
        ·refine kRs 3 [Tm 120 (bv true)] (rp 30 (.b false) (rp 65 (.b true) [])) (.r 4 b2_1 (.r 4 b2_2 (.r 6 b2_3 (.r 4 b2_4 (.r 4 b2_5 (.r 4 b2_6 (.r 4 b2_7 (.r 6 b2_8 (.r 59 rT .n))))))))) ?_
         refine kCt rT ?_
         refine kRs 0 [Tm 2 (bv false)] [] .n ?_
         refine kRt ?_
         have h_ := some_inj h
         subst h_
         exact kFr
        ·rcases br_inv h with ⟨b2_9, h⟩ | ⟨b2_9, h⟩
         ·refine kRs 3 [Tm 120 (bv true)] (rp 36 (.b false) (rp 59 (.b true) [])) (.r 4 b2_1 (.r 4 b2_2 (.r 6 b2_3 (.r 4 b2_4 (.r 4 b2_5 (.r 4 b2_6 (.r 4 b2_7 (.r 6 b2_8 (.r 4 b2_9 (.r 55 rT .n)))))))))) ?_
          refine kCt rT ?_
          refine kRs 0 [Tm 2 (bv false)] [] .n ?_
          refine kRt ?_
          have h_ := some_inj h
          subst h_
          exact kFr
         ·rcases br_inv h with ⟨b2_10, h⟩ | ⟨b2_10, h⟩
          ·refine kRs 3 [Tm 120 (bv true)] (rp 40 (.b false) (rp 55 (.b true) [])) (.r 4 b2_1 (.r 4 b2_2 (.r 6 b2_3 (.r 4 b2_4 (.r 4 b2_5 (.r 4 b2_6 (.r 4 b2_7 (.r 6 b2_8 (.r 4 b2_9 (.r 6 b2_10 (.r 49 rT .n))))))))))) ?_
           refine kCt rT ?_
           refine kRs 0 [Tm 2 (bv false)] [] .n ?_
           refine kRt ?_
           have h_ := some_inj h
           subst h_
           exact kFr
          ·rcases br_inv h with ⟨b2_11, h⟩ | ⟨b2_11, h⟩
           ·refine kRs 3 [Tm 120 (bv true)] (rp 46 (.b false) (rp 49 (.b true) [])) (.r 4 b2_1 (.r 4 b2_2 (.r 6 b2_3 (.r 4 b2_4 (.r 4 b2_5 (.r 4 b2_6 (.r 4 b2_7 (.r 6 b2_8 (.r 4 b2_9 (.r 6 b2_10 (.r 5 b2_11 (.r 44 rT .n)))))))))))) ?_
            refine kCt rT ?_
            refine kRs 0 [Tm 2 (bv false)] [] .n ?_
            refine kRt ?_
            have h_ := some_inj h
            subst h_
            exact kFr
           ·rcases br_inv h with ⟨b2_12, h⟩ | ⟨b2_12, h⟩
            ·refine kRs 3 [Tm 120 (bv true)] (rp 49 (.b false) (.s (.t 66) [iv (r_v.Log.length : Int)] :: (.b false :: (.b false :: (rp 44 (.b true) []))))) (.r 4 b2_1 (.r 4 b2_2 (.r 6 b2_3 (.r 4 b2_4 (.r 4 b2_5 (.r 4 b2_6 (.r 4 b2_7 (.r 6 b2_8 (.r 4 b2_9 (.r 6 b2_10 (.r 3 b2_11 (.c (c_len (e := TEntry.en) (l := r_v.Log)) (.r 2 b2_11 (.r 4 b2_12 (.r 40 rT .n))))))))))))))) ?_
             refine kCt rT ?_
             refine kRs 0 [Tm 2 (bv false)] [] .n ?_
             refine kRt ?_
             have h_ := some_inj h
             subst h_
             exact kFr
            ·rcases br_inv h with ⟨b2_13, h⟩ | ⟨b2_13, h⟩
             ·refine kRs 3 [Tm 120 (bv true)] (rp 49 (.b false) (.s (.t 66) [iv (r_v.Log.length : Int)] :: (rp 6 (.b false) (rp 40 (.b true) [])))) (.r 4 b2_1 (.r 4 b2_2 (.r 6 b2_3 (.r 4 b2_4 (.r 4 b2_5 (.r 4 b2_6 (.r 4 b2_7 (.r 6 b2_8 (.r 4 b2_9 (.r 6 b2_10 (.r 3 b2_11 (.c (c_len (e := TEntry.en) (l := r_v.Log)) (.r 2 b2_11 (.r 4 b2_12 (.r 7 b2_13 (.r 33 rT .n)))))))))))))))) ?_
              refine kCt rT ?_
              refine kRs 0 [Tm 2 (bv false)] [] .n ?_
              refine kRt ?_
              have h_ := some_inj h
              subst h_
              exact kFr
             ·rcases br_inv h with ⟨b2_14, h⟩ | ⟨b2_14, h⟩
              ·refine kRs 3 [Tm 120 (bv true)] (rp 49 (.b false) (.s (.t 66) [iv (r_v.Log.length : Int)] :: (rp 11 (.b false) (.s (.t 79) [iv (r_v.Log.length : Int)] :: (.b false :: (.b false :: (rp 33 (.b true) []))))))) (.r 4 b2_1 (.r 4 b2_2 (.r 6 b2_3 (.r 4 b2_4 (.r 4 b2_5 (.r 4 b2_6 (.r 4 b2_7 (.r 6 b2_8 (.r 4 b2_9 (.r 6 b2_10 (.r 3 b2_11 (.c (c_len (e := TEntry.en) (l := r_v.Log)) (.r 2 b2_11 (.r 4 b2_12 (.r 5 b2_13 (.c (c_len (e := TEntry.en) (l := r_v.Log)) (.r 2 b2_13 (.r 4 b2_14 (.r 29 rT .n))))))))))))))))))) ?_
               refine kCt rT ?_
               refine kRs 0 [Tm 2 (bv false)] [] .n ?_
               refine kRt ?_
               have h_ := some_inj h
               subst h_
               exact kFr
              ·rcases br_inv h with ⟨b2_15, h⟩ | ⟨b2_15, h⟩
               ·refine kRs 3 [Tm 120 (bv true)] (rp 49 (.b false) (.s (.t 66) [iv (r_v.Log.length : Int)] :: (rp 11 (.b false) (.s (.t 79) [iv (r_v.Log.length : Int)] :: (rp 6 (.b false) (rp 29 (.b true) [])))))) (.r 4 b2_1 (.r 4 b2_2 (.r 6 b2_3 (.r 4 b2_4 (.r 4 b2_5 (.r 4 b2_6 (.r 4 b2_7 (.r 6 b2_8 (.r 4 b2_9 (.r 6 b2_10 (.r 3 b2_11 (.c (c_len (e := TEntry.en) (l := r_v.Log)) (.r 2 b2_11 (.r 4 b2_12 (.r 5 b2_13 (.c (c_len (e := TEntry.en) (l := r_v.Log)) (.r 2 b2_13 (.r 4 b2_14 (.r 4 b2_15 (.r 25 rT .n)))))))))))))))))))) ?_
                refine kCt rT ?_
                refine kRs 0 [Tm 2 (bv false)] [] .n ?_
                refine kRt ?_
                have h_ := some_inj h
                subst h_
                exact kFr
               ·rcases br_inv h with ⟨b2_16, h⟩ | ⟨b2_16, h⟩
                ·refine kRs 3 [Tm 120 (bv true)] (rp 49 (.b false) (.s (.t 66) [iv (r_v.Log.length : Int)] :: (rp 11 (.b false) (.s (.t 79) [iv (r_v.Log.length : Int)] :: (rp 10 (.b false) (rp 25 (.b true) [])))))) (.r 4 b2_1 (.r 4 b2_2 (.r 6 b2_3 (.r 4 b2_4 (.r 4 b2_5 (.r 4 b2_6 (.r 4 b2_7 (.r 6 b2_8 (.r 4 b2_9 (.r 6 b2_10 (.r 3 b2_11 (.c (c_len (e := TEntry.en) (l := r_v.Log)) (.r 2 b2_11 (.r 4 b2_12 (.r 5 b2_13 (.c (c_len (e := TEntry.en) (l := r_v.Log)) (.r 2 b2_13 (.r 4 b2_14 (.r 4 b2_15 (.r 7 b2_16 (.r 18 rT .n))))))))))))))))))))) ?_
                 refine kCt rT ?_
                 refine kRs 0 [Tm 2 (bv false)] [] .n ?_
                 refine kRt ?_
                 have h_ := some_inj h
                 subst h_
                 exact kFr
                ·rcases br_inv h with ⟨b2_17, h⟩ | ⟨b2_17, h⟩
                 ·refine kRs 3 [Tm 120 (bv true)] (rp 49 (.b false) (.s (.t 66) [iv (r_v.Log.length : Int)] :: (rp 11 (.b false) (.s (.t 79) [iv (r_v.Log.length : Int)] :: (rp 13 (.b false) (.s (.t 95) [iv (r_v.Votes.length : Int)] :: (rp 4 (.b false) (rp 18 (.b true) [])))))))) (.r 4 b2_1 (.r 4 b2_2 (.r 6 b2_3 (.r 4 b2_4 (.r 4 b2_5 (.r 4 b2_6 (.r 4 b2_7 (.r 6 b2_8 (.r 4 b2_9 (.r 6 b2_10 (.r 3 b2_11 (.c (c_len (e := TEntry.en) (l := r_v.Log)) (.r 2 b2_11 (.r 4 b2_12 (.r 5 b2_13 (.c (c_len (e := TEntry.en) (l := r_v.Log)) (.r 2 b2_13 (.r 4 b2_14 (.r 4 b2_15 (.r 3 b2_16 (.c (c_len (e := e_b) (l := r_v.Votes)) (.r 4 b2_16 (.r 7 b2_17 (.r 11 rT .n)))))))))))))))))))))))) ?_
                  refine kCt rT ?_
                  refine kRs 0 [Tm 2 (bv false)] [] .n ?_
                  refine kRt ?_
                  have h_ := some_inj h
                  subst h_
                  exact kFr
                 ·rcases br_inv h with ⟨b2_18, h⟩ | ⟨b2_18, h⟩
                  ·refine kRs 3 [Tm 120 (bv true)] (rp 49 (.b false) (.s (.t 66) [iv (r_v.Log.length : Int)] :: (rp 11 (.b false) (.s (.t 79) [iv (r_v.Log.length : Int)] :: (rp 13 (.b false) (.s (.t 95) [iv (r_v.Votes.length : Int)] :: (rp 7 (.b false) (.s (.t 103) [iv (r_v.Next.length : Int)] :: (rp 4 (.b false) (rp 11 (.b true) [])))))))))) (.r 4 b2_1 (.r 4 b2_2 (.r 6 b2_3 (.r 4 b2_4 (.r 4 b2_5 (.r 4 b2_6 (.r 4 b2_7 (.r 6 b2_8 (.r 4 b2_9 (.r 6 b2_10 (.r 3 b2_11 (.c (c_len (e := TEntry.en) (l := r_v.Log)) (.r 2 b2_11 (.r 4 b2_12 (.r 5 b2_13 (.c (c_len (e := TEntry.en) (l := r_v.Log)) (.r 2 b2_13 (.r 4 b2_14 (.r 4 b2_15 (.r 3 b2_16 (.c (c_len (e := e_b) (l := r_v.Votes)) (.r 4 b2_16 (.r 3 b2_17 (.c (c_len (e := e_i64) (l := r_v.Next)) (.r 4 b2_17 (.r 7 b2_18 (.r 4 rT .n))))))))))))))))))))))))))) ?_
                   refine kCt rT ?_
                   refine kRs 0 [Tm 2 (bv false)] [] .n ?_
                   refine kRt ?_
                   have h_ := some_inj h
                   subst h_
                   exact kFr
                  ·rcases br_inv h with ⟨b2_19, h⟩ | ⟨b2_19, h⟩
                   ·refine kRs 3 [Tm 120 (bv true)] (rp 49 (.b false) (.s (.t 66) [iv (r_v.Log.length : Int)] :: (rp 11 (.b false) (.s (.t 79) [iv (r_v.Log.length : Int)] :: (rp 13 (.b false) (.s (.t 95) [iv (r_v.Votes.length : Int)] :: (rp 7 (.b false) (.s (.t 103) [iv (r_v.Next.length : Int)] :: (rp 7 (.b false) (.s (.t 111) [iv (r_v.Match.length : Int)] :: (rp 4 (.b false) (rp 4 (.b true) [])))))))))))) (.r 4 b2_1 (.r 4 b2_2 (.r 6 b2_3 (.r 4 b2_4 (.r 4 b2_5 (.r 4 b2_6 (.r 4 b2_7 (.r 6 b2_8 (.r 4 b2_9 (.r 6 b2_10 (.r 3 b2_11 (.c (c_len (e := TEntry.en) (l := r_v.Log)) (.r 2 b2_11 (.r 4 b2_12 (.r 5 b2_13 (.c (c_len (e := TEntry.en) (l := r_v.Log)) (.r 2 b2_13 (.r 4 b2_14 (.r 4 b2_15 (.r 3 b2_16 (.c (c_len (e := e_b) (l := r_v.Votes)) (.r 4 b2_16 (.r 3 b2_17 (.c (c_len (e := e_i64) (l := r_v.Next)) (.r 4 b2_17 (.r 3 b2_18 (.c (c_len (e := e_i64) (l := r_v.Match)) (.r 4 b2_18 (.r 4 b2_19 .n))))))))))))))))))))))))))))) ?_
                    refine kCt rT ?_
                    refine kRs 0 [Tm 2 (bv false)] [] .n ?_
                    refine kRt ?_
                    have h_ := some_inj h
                    subst h_
                    exact kFr
                   ·refine kRs 3 [Tm 120 (bv (decide (r_v.Clock < 0)))] (rp 49 (.b false) (.s (.t 66) [iv (r_v.Log.length : Int)] :: (rp 11 (.b false) (.s (.t 79) [iv (r_v.Log.length : Int)] :: (rp 13 (.b false) (.s (.t 95) [iv (r_v.Votes.length : Int)] :: (rp 7 (.b false) (.s (.t 103) [iv (r_v.Next.length : Int)] :: (rp 7 (.b false) (.s (.t 111) [iv (r_v.Match.length : Int)] :: (rp 8 (.b false) []))))))))))) (.r 4 b2_1 (.r 4 b2_2 (.r 6 b2_3 (.r 4 b2_4 (.r 4 b2_5 (.r 4 b2_6 (.r 4 b2_7 (.r 6 b2_8 (.r 4 b2_9 (.r 6 b2_10 (.r 3 b2_11 (.c (c_len (e := TEntry.en) (l := r_v.Log)) (.r 2 b2_11 (.r 4 b2_12 (.r 5 b2_13 (.c (c_len (e := TEntry.en) (l := r_v.Log)) (.r 2 b2_13 (.r 4 b2_14 (.r 4 b2_15 (.r 3 b2_16 (.c (c_len (e := e_b) (l := r_v.Votes)) (.r 4 b2_16 (.r 3 b2_17 (.c (c_len (e := e_i64) (l := r_v.Next)) (.r 4 b2_17 (.r 3 b2_18 (.c (c_len (e := e_i64) (l := r_v.Match)) (.r 4 b2_18 (.r 4 b2_19 .n))))))))))))))))))))))))))))) ?_
                    rcases br_inv h with ⟨b22_0, h⟩ | ⟨b22_0, h⟩
                    ·refine kCt b22_0 ?_
                     refine kRs 0 [Tm 2 (bv false)] [] .n ?_
                     refine kRt ?_
                     have h_ := some_inj h
                     subst h_
                     exact kFr
                    ·refine kCe b22_0 ?_
                     refine kSk ?_
                     refine kCd (cR (cR bd17)) [] ?_
                     refine kSq ?_
                     refine kRs 6 [Tm 3 (iv 0)] [] .n ?_
                     refine kBk 0 ?_
                     obtain ⟨o35, ho35, h⟩ := bd_inv h
                     refine kUs (diwanref11_May.lp25_ok fu r_v _ 0 _ ho35) ?_
                     intro e_ τ_ hp_
                     rcases o35 with o35 | o35
                     ·obtain ⟨⟩ := o35
                      obtain ⟨rfl, rfl⟩ := hp_
                      refine kCd (cR (cR (cR bd17))) [] ?_
                      refine kRs 0 [Tm 2 (bv true)] [] .n ?_
                      refine kRt ?_
                      have h_ := some_inj h
                      subst h_
                      exact kFr
                     ·obtain ⟨⟩ := o35
                      obtain ⟨rfl, rfl⟩ := hp_
                      have h_ := some_inj h
                      subst h_
                      exact kFr
def bd56 : Code := (Try.f56.body).getD .skip
def diwanref11_machine_send.O : Nat → Nat := fun t => bif ([4, 11, 20, 21] : List Nat).any (Nat.beq t) then 1 else 0
def diwanref11_machine_send (x_v : TMsg) (to : Int) (o0_v : TMachine) : Option TMachine :=
 gd (decide (o0_v.out.length + ([(TMsg.mk x_v.Kind o0_v.r.Me to x_v.Part x_v.Term x_v.Index x_v.LogTerm x_v.Commit x_v.OK x_v.Entries x_v.T x_v.Session x_v.Seq x_v.Pos x_v.Shard x_v.Span x_v.FromKey x_v.ToKey x_v.Keys x_v.Got x_v.Err)] : List TMsg).length ≤ 4294967296)) <|
 some (TMachine.mk o0_v.r (o0_v.out ++ ([(TMsg.mk x_v.Kind o0_v.r.Me to x_v.Part x_v.Term x_v.Index x_v.LogTerm x_v.Commit x_v.OK x_v.Entries x_v.T x_v.Session x_v.Seq x_v.Pos x_v.Shard x_v.Span x_v.FromKey x_v.ToKey x_v.Keys x_v.Got x_v.Err)] : List TMsg)))
theorem diwanref11_machine_send.meets (x_v : TMsg) (to : Int) (o0_v : TMachine) (z0 : TMachine) (h : diwanref11_machine_send x_v to o0_v = some z0) : Meets Try.prog ⟨56, [.ptr 1000 0, .data (TMsg.ag x_v), iv to], [(TMachine.ob_00000100011101 o0_v)]⟩ ⟨.tup [], [(TMachine.ob_00000100011101 z0)]⟩ := by
 refine kMt hmix diwanref11_machine_send.O Try.f56 bd56 15 ?_
 unfold diwanref11_machine_send at h
 refine kRs 13 [Tm 4 (.ptr 4 0), Ob 4 (TMsg.ob x_v)] [] .n ?_
 refine kRs 21 [Ob 4 (TMsg.ob (TMsg.mk x_v.Kind o0_v.r.Me to x_v.Part x_v.Term x_v.Index x_v.LogTerm x_v.Commit x_v.OK x_v.Entries x_v.T x_v.Session x_v.Seq x_v.Pos x_v.Shard x_v.Span x_v.FromKey x_v.ToKey x_v.Keys x_v.Got x_v.Err))] [] .n ?_
 obtain ⟨c3_1, h⟩ := gd_inv h
 have h_ := some_inj h
 subst h_
 exact kRf [.s (.t 21) [sO 24 TMsg.en (o0_v.out ++ ([(TMsg.mk x_v.Kind o0_v.r.Me to x_v.Part x_v.Term x_v.Index x_v.LogTerm x_v.Commit x_v.OK x_v.Entries x_v.T x_v.Session x_v.Seq x_v.Pos x_v.Shard x_v.Span x_v.FromKey x_v.ToKey x_v.Keys x_v.Got x_v.Err)] : List TMsg))]] (.c (c_al (e := TMsg.en) (f := TMsg.en) c3_1) (.c (congrArg (fun d : DV => [AV.data d]) (c_app (e := TMsg.en) (s := 24) (l := o0_v.out) (m := ([(TMsg.mk x_v.Kind o0_v.r.Me to x_v.Part x_v.Term x_v.Index x_v.LogTerm x_v.Commit x_v.OK x_v.Entries x_v.T x_v.Session x_v.Seq x_v.Pos x_v.Shard x_v.Span x_v.FromKey x_v.ToKey x_v.Keys x_v.Got x_v.Err)] : List TMsg)))) (.c rT .n)))
def bd49 : Code := (Try.f49.body).getD .skip
def diwanref1_Term.O : Nat → Nat := fun t => bif ([4] : List Nat).any (Nat.beq t) then 1 else 0
def diwanref1_Term (l : List TEntry) (i : Int) : Option Int :=
 br (decide (i < 1))
  (some 0)
  (br (decide (i > (l.length : Int)))
   (some 0)
   (ix l (w64 (i - 1)) fun x6_1 =>
   some x6_1.Term))
theorem diwanref1_Term.meets (l : List TEntry) (i : Int) (z0 : Int) (h : diwanref1_Term l i = some z0) : Meets Try.prog ⟨49, [sS 6 TEntry.en l, iv i], []⟩ ⟨iv z0, []⟩ := by
 refine kMt hmix diwanref1_Term.O Try.f49 bd49 3 ?_
 unfold diwanref1_Term at h
 refine kRs 3 [] [] .n ?_
 refine kSq ?_
 rcases br_inv h with ⟨b2_1, h⟩ | ⟨b2_1, h⟩
 ·refine kRs 3 [Tm 12 (bv true)] (rp 5 (.b true) []) (.r 5 b2_1 .n) ?_
  refine kCt rT ?_
  refine kRs 0 [Tm 4 (iv 0)] [] .n ?_
  refine kRt ?_
  have h_ := some_inj h
  subst h_
  exact kFr
 ·refine kRs 3 [Tm 12 (bv (decide (i > (l.length : Int))))] [.b false, .b false, .b false, .s (.t 10) [iv (l.length : Int)], .b false, .b false] (.r 3 b2_1 (.c (c_len (e := TEntry.en) (l := l)) (.r 2 b2_1 .n))) ?_
  rcases br_inv h with ⟨b4_0, h⟩ | ⟨b4_0, h⟩
  ·refine kCt b4_0 ?_
   refine kRs 0 [Tm 4 (iv 0)] [] .n ?_
   refine kRt ?_
   have h_ := some_inj h
   subst h_
   exact kFr
  ·refine kCe b4_0 ?_
   refine kSk ?_
   refine kCd (cR (cR bd49)) [] ?_
   obtain ⟨x6_1, a6_2, e6_3, h⟩ := ix_inv h
   refine kRs 0 [Tm 4 (iv x6_1.Term)] [.c (TEntry.en x6_1)] (.c (c_ix (e := TEntry.en) a6_2 e6_3) (.c (c_el (e := TEntry.en) e6_3) .n)) ?_
   refine kRt ?_
   have h_ := some_inj h
   subst h_
   exact kFr
def bd57 : Code := (Try.f57.body).getD .skip
def diwanref1_Newer.O : Nat → Nat := fun t => bif ([6, 7] : List Nat).any (Nat.beq t) then 1 else 0
def diwanref1_Newer (l : List TEntry) (i : Int) (term : Int) : Option Bool :=
 bd (diwanref1_Term l (l.length : Int)) fun r2_1 =>
 br (decide (term > r2_1))
  (some true)
  (br (term == r2_1)
   (some (decide (i ≥ (l.length : Int))))
   (some false))
theorem diwanref1_Newer.meets (l : List TEntry) (i : Int) (term : Int) (z0 : Bool) (h : diwanref1_Newer l i term = some z0) : Meets Try.prog ⟨57, [sS 6 TEntry.en l, iv i, iv term], []⟩ ⟨bv z0, []⟩ := by
 refine kMt hmix diwanref1_Newer.O Try.f57 bd57 7 ?_
 unfold diwanref1_Newer at h
 refine kRs 7 [] [] .n ?_
 obtain ⟨r2_1, h2_2, h⟩ := bd_inv h
 refine kRs 7 [Tm 7 (iv r2_1)] [.s (.t 10) [iv (l.length : Int)], .a ⟨iv r2_1, []⟩] (.c (c_len (e := TEntry.en) (l := l)) (.c (Asks.of (C := Meets Try.prog) (diwanref1_Term.meets l (l.length : Int) _ h2_2)) .n)) ?_
 rcases br_inv h with ⟨b3_1, h⟩ | ⟨b3_1, h⟩
 ·refine kRs 0 [Tm 6 (bv true)] (rp 6 (.b true) []) (.r 6 b3_1 .n) ?_
  refine kRt ?_
  have h_ := some_inj h
  subst h_
  exact kFr
 ·rcases br_inv h with ⟨b3_2, h⟩ | ⟨b3_2, h⟩
  ·refine kRs 0 [Tm 6 (bv (decide (i ≥ (l.length : Int))))] (rp 4 (.b false) [.b true, .b true, .b true, .s (.t 22) [iv (l.length : Int)], .b true, .b false, .b true, .b false]) (.r 4 b3_1 (.r 3 b3_2 (.c (c_len (e := TEntry.en) (l := l)) (.c b3_2 (.c b3_1 (.c b3_2 (.c b3_1 .n))))))) ?_
   refine kRt ?_
   have h_ := some_inj h
   subst h_
   exact kFr
  ·refine kRs 0 [Tm 6 (bv false)] (rp 11 (.b false) []) (.r 4 b3_1 (.r 4 b3_2 (.c b3_1 (.c b3_2 (.c b3_1 .n))))) ?_
   refine kRt ?_
   have h_ := some_inj h
   subst h_
   exact kFr
def bd85 : Code := (Try.f85.body).getD .skip
def diwanref1_Many.O : Nat → Nat := fun t => bif ([2, 3, 4] : List Nat).any (Nat.beq t) then 1 else 0
def diwanref1_Many.lp4 (fu : Nat) (l4_0 : List Bool) : Nat → Int → Int → Option Int
  | 0, _, _ => none
  | n_ + 1, l4_1, l4_2 =>
  br (decide (l4_2 < (l4_0.length : Int)))
   (ix l4_0 l4_2 fun x7_1 =>
   br x7_1
    (diwanref1_Many.lp4 fu l4_0 n_ (w64 (l4_1 + 1)) (w64 (l4_2 + 1)))
    (diwanref1_Many.lp4 fu l4_0 n_ l4_1 (w64 (l4_2 + 1))))
   (some l4_1)
def diwanref1_Many.lp4_post (l4_0 : List Bool) (r_ : Int) : Wy → St → Prop := fun e τ => match r_ with
  | y0 => e = .exit 0 ∧ τ = ofL [Tm 3 (iv y0)]
theorem diwanref1_Many.lp4_ok (fu : Nat) (l4_0 : List Bool) : ∀ (n_ : Nat) (l4_1 : Int) (l4_2 : Int) (r_ : Int), diwanref1_Many.lp4 fu l4_0 n_ l4_1 l4_2 = some r_ → WK Try.prog diwanref1_Many.O (Ck Try.prog) (cB (cR (cL (cR (cR bd85))))) [] (ofL [Tm 0 (sS 1 e_b l4_0), Tm 3 (iv l4_1), Tm 4 (iv l4_2)]) (diwanref1_Many.lp4_post l4_0 r_) := by
 intro n_
 induction n_ with
 | zero => intro l4_1 l4_2 r_ h; exact no_none h
 | succ n_ ih =>
  intro l4_1 l4_2 r_ h
  refine kLp ?_
  refine kSq ?_
  refine kRs 7 [Tm 8 (bv (decide (l4_2 < (l4_0.length : Int))))] [.s (.t 7) [iv (l4_0.length : Int)]] (.c (c_len (e := e_b) (l := l4_0)) .n) ?_
  rcases br_inv h with ⟨b6_0, h⟩ | ⟨b6_0, h⟩
  ·refine kCt b6_0 ?_
   refine kSk ?_
   refine kCd (cR (cB (cB (cR (cL (cR (cR bd85))))))) [.lp (cB (cR (cL (cR (cR bd85)))))] ?_
   refine kSq ?_
   refine kBk 1 ?_
   obtain ⟨x7_1, a7_2, e7_3, h⟩ := ix_inv h
   refine kRs 14 [Tm 14 (bv x7_1)] [.c (e_b x7_1)] (.c (c_ix (e := e_b) a7_2 e7_3) (.c (c_el (e := e_b) e7_3) .n)) ?_
   rcases br_inv h with ⟨b8_0, h⟩ | ⟨b8_0, h⟩
   ·refine kCt b8_0 ?_
    refine kRc 10 [Tm 3 (iv (w64 (l4_1 + 1)))] [] .n (cR (cR (cB (cB (cR (cL (cR (cR bd85)))))))) [.lp (cB (cR (cL (cR (cR bd85)))))] ?_
    refine kRc 3 [Tm 4 (iv (w64 (l4_2 + 1)))] [] .n (cB (cR (cL (cR (cR bd85))))) [] ?_
    exact kWk (ih (w64 (l4_1 + 1)) (w64 (l4_2 + 1)) _ h)
   ·refine kCe b8_0 ?_
    refine kSk ?_
    refine kCd (cR (cR (cB (cB (cR (cL (cR (cR bd85)))))))) [.lp (cB (cR (cL (cR (cR bd85)))))] ?_
    refine kRc 6 [Tm 4 (iv (w64 (l4_2 + 1)))] [] .n (cB (cR (cL (cR (cR bd85))))) [] ?_
    exact kWk (ih l4_1 (w64 (l4_2 + 1)) _ h)
  ·refine kCe b6_0 ?_
   cases some_inj h
   refine kWo ?_
   refine kXt 0 ?_
   exact kOut
def diwanref1_Many (fu : Nat) (v : List Bool) : Option Int :=
 bd (diwanref1_Many.lp4 fu v fu 0 0) fun y12_0 =>
 some y12_0
theorem diwanref1_Many.meets (fu : Nat) (v : List Bool) (z0 : Int) (h : diwanref1_Many fu v = some z0) : Meets Try.prog ⟨85, [sS 1 e_b v], []⟩ ⟨iv z0, []⟩ := by
 refine kMt hmix diwanref1_Many.O Try.f85 bd85 1 ?_
 unfold diwanref1_Many at h
 refine kRs 1 [] [] .n ?_
 refine kRs 1 [Tm 3 (iv 0)] [] .n ?_
 refine kSq ?_
 refine kRs 3 [Tm 4 (iv 0)] [] .n ?_
 refine kBk 0 ?_
 obtain ⟨o12, ho12, h⟩ := bd_inv h
 refine kUs (diwanref1_Many.lp4_ok fu v _ 0 0 _ ho12) ?_
 intro e_ τ_ hp_
 obtain ⟨y12_0, rfl⟩ : ∃ y, y = o12 := ⟨_, rfl⟩
 obtain ⟨rfl, rfl⟩ := hp_
 refine kCd (cR (cR (cR bd85))) [] ?_
 refine kRs 0 [Tm 2 (iv y12_0)] [] .n ?_
 refine kRt ?_
 have h_ := some_inj h
 subst h_
 exact kFr
def bd62 : Code := (Try.f62.body).getD .skip
def diwanref1_Majority.O : Nat → Nat := fun t => bif ([2] : List Nat).any (Nat.beq t) then 1 else 0
def diwanref1_Majority (n_v : Int) : Option Int :=
 some (w64 ((w64 (Int.tdiv n_v 2)) + 1))
theorem diwanref1_Majority.meets (n_v : Int) (z0 : Int) (h : diwanref1_Majority n_v = some z0) : Meets Try.prog ⟨62, [iv n_v], []⟩ ⟨iv z0, []⟩ := by
 refine kMt hmix diwanref1_Majority.O Try.f62 bd62 1 ?_
 unfold diwanref1_Majority at h
 refine kRs 1 [] [] .n ?_
 refine kRs 0 [Tm 2 (iv (w64 ((w64 (Int.tdiv n_v 2)) + 1)))] [] (.c rT .n) ?_
 refine kRt ?_
 have h_ := some_inj h
 subst h_
 exact kFr
def bd101 : Code := (Try.f101.body).getD .skip
def diwanref1_Most.O : Nat → Nat := fun t => bif ([2, 3, 4, 5, 6] : List Nat).any (Nat.beq t) then 1 else 0
def diwanref1_Most.lp9 (fu : Nat) (l9_0 : List Int) (l9_1 : Int) (l9_2 : Int) : Nat → Int → Int → Option Int
  | 0, _, _ => none
  | n_ + 1, l9_3, l9_4 =>
  br (decide (l9_4 < (l9_0.length : Int)))
   (ix l9_0 l9_4 fun x12_1 =>
   ix l9_0 l9_2 fun x12_4 =>
   br (decide (x12_1 ≥ x12_4))
    (diwanref1_Most.lp9 fu l9_0 l9_1 l9_2 n_ (w64 (l9_3 + 1)) (w64 (l9_4 + 1)))
    (diwanref1_Most.lp9 fu l9_0 l9_1 l9_2 n_ l9_3 (w64 (l9_4 + 1))))
   (some l9_3)
def diwanref1_Most.lp9_post (l9_0 : List Int) (l9_1 : Int) (l9_2 : Int) (r_ : Int) : Wy → St → Prop := fun e τ => match r_ with
  | y0 => e = .exit 2 ∧ τ = ofL [Tm 0 (sS 1 e_i64 l9_0), Tm 3 (iv l9_1), Tm 4 (iv l9_2), Tm 5 (iv y0)]
theorem diwanref1_Most.lp9_ok (fu : Nat) (l9_0 : List Int) (l9_1 : Int) (l9_2 : Int) : ∀ (n_ : Nat) (l9_3 : Int) (l9_4 : Int) (r_ : Int), diwanref1_Most.lp9 fu l9_0 l9_1 l9_2 n_ l9_3 l9_4 = some r_ → WK Try.prog diwanref1_Most.O (Ck Try.prog) (cB (cR (cL (cR (cB (cL (cR (cB (cB (cR (cL (cR (cR bd101))))))))))))) [] (ofL [Tm 0 (sS 1 e_i64 l9_0), Tm 3 (iv l9_1), Tm 4 (iv l9_2), Tm 5 (iv l9_3), Tm 6 (iv l9_4)]) (diwanref1_Most.lp9_post l9_0 l9_1 l9_2 r_) := by
 intro n_
 induction n_ with
 | zero => intro l9_3 l9_4 r_ h; exact no_none h
 | succ n_ ih =>
  intro l9_3 l9_4 r_ h
  refine kLp ?_
  refine kSq ?_
  refine kRs 31 [Tm 16 (bv (decide (l9_4 < (l9_0.length : Int))))] [.s (.t 15) [iv (l9_0.length : Int)]] (.c (c_len (e := e_i64) (l := l9_0)) .n) ?_
  rcases br_inv h with ⟨b11_0, h⟩ | ⟨b11_0, h⟩
  ·refine kCt b11_0 ?_
   refine kSk ?_
   refine kCd (cR (cB (cB (cR (cL (cR (cB (cL (cR (cB (cB (cR (cL (cR (cR bd101))))))))))))))) [.lp (cB (cR (cL (cR (cB (cL (cR (cB (cB (cR (cL (cR (cR bd101)))))))))))))] ?_
   refine kSq ?_
   refine kBk 3 ?_
   obtain ⟨x12_1, a12_2, e12_3, h⟩ := ix_inv h
   obtain ⟨x12_4, a12_5, e12_6, h⟩ := ix_inv h
   refine kRs 62 [Tm 27 (bv (decide (x12_1 ≥ x12_4)))] [.c (e_i64 x12_1), .c (e_i64 x12_4)] (.c (c_ix (e := e_i64) a12_2 e12_3) (.c (c_el (e := e_i64) e12_3) (.c (c_ix (e := e_i64) a12_5 e12_6) (.c (c_el (e := e_i64) e12_6) (.c rT .n))))) ?_
   rcases br_inv h with ⟨b13_0, h⟩ | ⟨b13_0, h⟩
   ·refine kCt b13_0 ?_
    refine kRc 46 [Tm 5 (iv (w64 (l9_3 + 1)))] [] .n (cR (cR (cB (cB (cR (cL (cR (cB (cL (cR (cB (cB (cR (cL (cR (cR bd101)))))))))))))))) [.lp (cB (cR (cL (cR (cB (cL (cR (cB (cB (cR (cL (cR (cR bd101)))))))))))))] ?_
    refine kRc 15 [Tm 6 (iv (w64 (l9_4 + 1)))] [] .n (cB (cR (cL (cR (cB (cL (cR (cB (cB (cR (cL (cR (cR bd101))))))))))))) [] ?_
    exact kWk (ih (w64 (l9_3 + 1)) (w64 (l9_4 + 1)) _ h)
   ·refine kCe b13_0 ?_
    refine kSk ?_
    refine kCd (cR (cR (cB (cB (cR (cL (cR (cB (cL (cR (cB (cB (cR (cL (cR (cR bd101)))))))))))))))) [.lp (cB (cR (cL (cR (cB (cL (cR (cB (cB (cR (cL (cR (cR bd101)))))))))))))] ?_
    refine kRc 30 [Tm 6 (iv (w64 (l9_4 + 1)))] [] .n (cB (cR (cL (cR (cB (cL (cR (cB (cB (cR (cL (cR (cR bd101))))))))))))) [] ?_
    exact kWk (ih l9_3 (w64 (l9_4 + 1)) _ h)
  ·refine kCe b11_0 ?_
   cases some_inj h
   refine kWo ?_
   refine kXt 2 ?_
   exact kOut
def diwanref1_Most.lp4 (fu : Nat) (l4_0 : List Int) : Nat → Int → Int → Option Int
  | 0, _, _ => none
  | n_ + 1, l4_1, l4_2 =>
  br (decide (l4_2 < (l4_0.length : Int)))
   (bd (diwanref1_Most.lp9 fu l4_0 l4_1 l4_2 fu 0 0) fun y17_0 =>
   bd (diwanref1_Majority (l4_0.length : Int)) fun r18_1 =>
   br (decide (y17_0 ≥ r18_1))
    (ix l4_0 l4_2 fun x20_1 =>
    diwanref1_Most.lp4 fu l4_0 n_ (if l4_1 < x20_1 then x20_1 else l4_1) (w64 (l4_2 + 1)))
    (diwanref1_Most.lp4 fu l4_0 n_ l4_1 (w64 (l4_2 + 1))))
   (some l4_1)
def diwanref1_Most.lp4_post (l4_0 : List Int) (r_ : Int) : Wy → St → Prop := fun e τ => match r_ with
  | y0 => e = .exit 0 ∧ τ = ofL [Tm 3 (iv y0)]
theorem diwanref1_Most.lp4_ok (fu : Nat) (l4_0 : List Int) : ∀ (n_ : Nat) (l4_1 : Int) (l4_2 : Int) (r_ : Int), diwanref1_Most.lp4 fu l4_0 n_ l4_1 l4_2 = some r_ → WK Try.prog diwanref1_Most.O (Ck Try.prog) (cB (cR (cL (cR (cR bd101))))) [] (ofL [Tm 0 (sS 1 e_i64 l4_0), Tm 3 (iv l4_1), Tm 4 (iv l4_2)]) (diwanref1_Most.lp4_post l4_0 r_) := by
 intro n_
 induction n_ with
 | zero => intro l4_1 l4_2 r_ h; exact no_none h
 | succ n_ ih =>
  intro l4_1 l4_2 r_ h
  refine kLp ?_
  refine kSq ?_
  refine kRs 7 [Tm 10 (bv (decide (l4_2 < (l4_0.length : Int))))] [.s (.t 9) [iv (l4_0.length : Int)]] (.c (c_len (e := e_i64) (l := l4_0)) .n) ?_
  rcases br_inv h with ⟨b6_0, h⟩ | ⟨b6_0, h⟩
  ·refine kCt b6_0 ?_
   refine kSk ?_
   refine kCd (cR (cB (cB (cR (cL (cR (cR bd101))))))) [.lp (cB (cR (cL (cR (cR bd101)))))] ?_
   refine kSq ?_
   refine kBk 1 ?_
   refine kRs 14 [Tm 5 (iv 0)] [] .n ?_
   refine kSq ?_
   refine kRs 15 [Tm 6 (iv 0)] [] .n ?_
   refine kBk 2 ?_
   obtain ⟨o17, ho17, h⟩ := bd_inv h
   refine kUs (diwanref1_Most.lp9_ok fu l4_0 l4_1 l4_2 _ 0 0 _ ho17) ?_
   intro e_ τ_ hp_
   obtain ⟨y17_0, rfl⟩ : ∃ y, y = o17 := ⟨_, rfl⟩
   obtain ⟨rfl, rfl⟩ := hp_
   refine kCd (cR (cR (cB (cL (cR (cB (cB (cR (cL (cR (cR bd101))))))))))) [.blk 1, .seq (cR (cR (cB (cB (cR (cL (cR (cR bd101)))))))), .lp (cB (cR (cL (cR (cR bd101)))))] ?_
   obtain ⟨r18_1, h18_2, h⟩ := bd_inv h
   refine kRs 7 [Tm 34 (bv (decide (y17_0 ≥ r18_1)))] [.s (.t 32) [iv (l4_0.length : Int)], .a ⟨iv r18_1, []⟩] (.c (c_len (e := e_i64) (l := l4_0)) (.c (Asks.of (C := Meets Try.prog) (diwanref1_Majority.meets (l4_0.length : Int) _ h18_2)) .n)) ?_
   rcases br_inv h with ⟨b19_0, h⟩ | ⟨b19_0, h⟩
   ·refine kCt b19_0 ?_
    obtain ⟨x20_1, a20_2, e20_3, h⟩ := ix_inv h
    refine kRc 10 [Tm 3 (iv (if l4_1 < x20_1 then x20_1 else l4_1))] [.c (e_i64 x20_1)] (.c (c_ix (e := e_i64) a20_2 e20_3) (.c (c_el (e := e_i64) e20_3) .n)) (cR (cR (cB (cB (cR (cL (cR (cR bd101)))))))) [.lp (cB (cR (cL (cR (cR bd101)))))] ?_
    refine kRc 3 [Tm 4 (iv (w64 (l4_2 + 1)))] [] .n (cB (cR (cL (cR (cR bd101))))) [] ?_
    exact kWk (ih (if l4_1 < x20_1 then x20_1 else l4_1) (w64 (l4_2 + 1)) _ h)
   ·refine kCe b19_0 ?_
    refine kSk ?_
    refine kCd (cR (cR (cB (cB (cR (cL (cR (cR bd101)))))))) [.lp (cB (cR (cL (cR (cR bd101)))))] ?_
    refine kRc 6 [Tm 4 (iv (w64 (l4_2 + 1)))] [] .n (cB (cR (cL (cR (cR bd101))))) [] ?_
    exact kWk (ih l4_1 (w64 (l4_2 + 1)) _ h)
  ·refine kCe b6_0 ?_
   cases some_inj h
   refine kWo ?_
   refine kXt 0 ?_
   exact kOut
def diwanref1_Most (fu : Nat) (match_v : List Int) : Option Int :=
 bd (diwanref1_Most.lp4 fu match_v fu 0 0) fun y23_0 =>
 some y23_0
theorem diwanref1_Most.meets (fu : Nat) (match_v : List Int) (z0 : Int) (h : diwanref1_Most fu match_v = some z0) : Meets Try.prog ⟨101, [sS 1 e_i64 match_v], []⟩ ⟨iv z0, []⟩ := by
 refine kMt hmix diwanref1_Most.O Try.f101 bd101 1 ?_
 unfold diwanref1_Most at h
 refine kRs 1 [] [] .n ?_
 refine kRs 1 [Tm 3 (iv 0)] [] .n ?_
 refine kSq ?_
 refine kRs 3 [Tm 4 (iv 0)] [] .n ?_
 refine kBk 0 ?_
 obtain ⟨o23, ho23, h⟩ := bd_inv h
 refine kUs (diwanref1_Most.lp4_ok fu match_v _ 0 0 _ ho23) ?_
 intro e_ τ_ hp_
 obtain ⟨y23_0, rfl⟩ : ∃ y, y = o23 := ⟨_, rfl⟩
 obtain ⟨rfl, rfl⟩ := hp_
 refine kCd (cR (cR (cR bd101))) [] ?_
 refine kRs 0 [Tm 2 (iv y23_0)] [] .n ?_
 refine kRt ?_
 have h_ := some_inj h
 subst h_
 exact kFr
def bd89 : Code := (Try.f89.body).getD .skip
def diwanref1_Next.O : Nat → Nat := fun t => bif ([8, 9] : List Nat).any (Nat.beq t) then 1 else 0
def diwanref1_Next (fu : Nat) (match_v : List Int) (l : List TEntry) (term : Int) (commit : Int) : Option Int :=
 bd (diwanref1_Most fu match_v) fun r2_1 =>
 br (decide (r2_1 > commit))
  (br (decide (r2_1 ≤ (l.length : Int)))
   (bd (diwanref1_Term l r2_1) fun r3_3 =>
   br (r3_3 == term)
    (some r2_1)
    (some commit))
   (some commit))
  (some commit)
theorem diwanref1_Next.meets (fu : Nat) (match_v : List Int) (l : List TEntry) (term : Int) (commit : Int) (z0 : Int) (h : diwanref1_Next fu match_v l term commit = some z0) : Meets Try.prog ⟨89, [sS 1 e_i64 match_v, sS 6 TEntry.en l, iv term, iv commit], []⟩ ⟨iv z0, []⟩ := by
 refine kMt hmix diwanref1_Next.O Try.f89 bd89 15 ?_
 unfold diwanref1_Next at h
 refine kRs 15 [] [] .n ?_
 obtain ⟨r2_1, h2_2, h⟩ := bd_inv h
 refine kRs 14 [Tm 9 (iv r2_1)] [.a ⟨iv r2_1, []⟩] (.c (Asks.of (C := Meets Try.prog) (diwanref1_Most.meets fu match_v _ h2_2)) .n) ?_
 refine kSq ?_
 rcases br_inv h with ⟨b3_1, h⟩ | ⟨b3_1, h⟩
 ·rcases br_inv h with ⟨b3_2, h⟩ | ⟨b3_2, h⟩
  ·obtain ⟨r3_3, h3_4, h⟩ := bd_inv h
   refine kRs 9 [Tm 27 (bv (r3_3 == term))] (.b true :: (.b true :: (.b true :: (.s (.t 18) [iv (l.length : Int)] :: (rp 5 (.b true) [.a ⟨iv r3_3, []⟩, .b true, .b true, .b true]))))) (.r 3 b3_1 (.c (c_len (e := TEntry.en) (l := l)) (.r 2 b3_1 (.r 3 b3_2 (.c (Asks.of (C := Meets Try.prog) (diwanref1_Term.meets l r2_1 _ h3_4)) (.r 3 b3_2 .n)))))) ?_
   rcases br_inv h with ⟨b4_0, h⟩ | ⟨b4_0, h⟩
   ·refine kCt b4_0 ?_
    refine kRs 0 [Tm 8 (iv r2_1)] [] .n ?_
    refine kRt ?_
    have h_ := some_inj h
    subst h_
    exact kFr
   ·refine kCe b4_0 ?_
    refine kSk ?_
    refine kCd (cR (cR (cR bd89))) [] ?_
    refine kRs 0 [Tm 8 (iv commit)] [] .n ?_
    refine kRt ?_
    have h_ := some_inj h
    subst h_
    exact kFr
  ·refine kRs 9 [Tm 27 (bv false)] (.b true :: (.b true :: (.b true :: (.s (.t 18) [iv (l.length : Int)] :: (.b true :: (.b true :: (rp 6 (.b false) []))))))) (.r 3 b3_1 (.c (c_len (e := TEntry.en) (l := l)) (.r 2 b3_1 (.r 6 b3_2 .n)))) ?_
   refine kCe rF ?_
   refine kSk ?_
   refine kCd (cR (cR (cR bd89))) [] ?_
   refine kRs 0 [Tm 8 (iv commit)] [] .n ?_
   refine kRt ?_
   have h_ := some_inj h
   subst h_
   exact kFr
 ·refine kRs 9 [Tm 27 (bv false)] (rp 11 (.b false) []) (.r 5 b3_1 (.r 6 rF .n)) ?_
  refine kCe rF ?_
  refine kSk ?_
  refine kCd (cR (cR (cR bd89))) [] ?_
  refine kRs 0 [Tm 8 (iv commit)] [] .n ?_
  refine kRt ?_
  have h_ := some_inj h
  subst h_
  exact kFr
def diwanref11_machine_send_2.O : Nat → Nat := fun t => bif ([4, 11, 20, 21] : List Nat).any (Nat.beq t) then 1 else 0
def diwanref11_machine_send_2 (x_v : TMsg) (to : Int) (o0_v : TMachine) : Option TMachine :=
 gd (decide (o0_v.out.length + ([(TMsg.mk x_v.Kind o0_v.r.Me to x_v.Part x_v.Term x_v.Index x_v.LogTerm x_v.Commit x_v.OK x_v.Entries x_v.T x_v.Session x_v.Seq x_v.Pos x_v.Shard x_v.Span x_v.FromKey x_v.ToKey x_v.Keys x_v.Got x_v.Err)] : List TMsg).length ≤ 4294967296)) <|
 some (TMachine.mk o0_v.r (o0_v.out ++ ([(TMsg.mk x_v.Kind o0_v.r.Me to x_v.Part x_v.Term x_v.Index x_v.LogTerm x_v.Commit x_v.OK x_v.Entries x_v.T x_v.Session x_v.Seq x_v.Pos x_v.Shard x_v.Span x_v.FromKey x_v.ToKey x_v.Keys x_v.Got x_v.Err)] : List TMsg)))
theorem diwanref11_machine_send_2.meets (x_v : TMsg) (to : Int) (o0_v : TMachine) (z0 : TMachine) (h : diwanref11_machine_send_2 x_v to o0_v = some z0) : Meets Try.prog ⟨56, [.ptr 1000 0, .data (TMsg.ag x_v), iv to], [(TMachine.ob_00000000011101 o0_v)]⟩ ⟨.tup [], [(TMachine.ob_00000000011101 z0)]⟩ := by
 refine kMt hmix diwanref11_machine_send_2.O Try.f56 bd56 15 ?_
 unfold diwanref11_machine_send_2 at h
 refine kRs 13 [Tm 4 (.ptr 4 0), Ob 4 (TMsg.ob x_v)] [] .n ?_
 refine kRs 21 [Ob 4 (TMsg.ob (TMsg.mk x_v.Kind o0_v.r.Me to x_v.Part x_v.Term x_v.Index x_v.LogTerm x_v.Commit x_v.OK x_v.Entries x_v.T x_v.Session x_v.Seq x_v.Pos x_v.Shard x_v.Span x_v.FromKey x_v.ToKey x_v.Keys x_v.Got x_v.Err))] [] .n ?_
 obtain ⟨c3_1, h⟩ := gd_inv h
 have h_ := some_inj h
 subst h_
 exact kRf [.s (.t 21) [sO 24 TMsg.en (o0_v.out ++ ([(TMsg.mk x_v.Kind o0_v.r.Me to x_v.Part x_v.Term x_v.Index x_v.LogTerm x_v.Commit x_v.OK x_v.Entries x_v.T x_v.Session x_v.Seq x_v.Pos x_v.Shard x_v.Span x_v.FromKey x_v.ToKey x_v.Keys x_v.Got x_v.Err)] : List TMsg))]] (.c (c_al (e := TMsg.en) (f := TMsg.en) c3_1) (.c (congrArg (fun d : DV => [AV.data d]) (c_app (e := TMsg.en) (s := 24) (l := o0_v.out) (m := ([(TMsg.mk x_v.Kind o0_v.r.Me to x_v.Part x_v.Term x_v.Index x_v.LogTerm x_v.Commit x_v.OK x_v.Entries x_v.T x_v.Session x_v.Seq x_v.Pos x_v.Shard x_v.Span x_v.FromKey x_v.ToKey x_v.Keys x_v.Got x_v.Err)] : List TMsg)))) (.c rT .n)))
def bd88 : Code := (Try.f88.body).getD .skip
def diwanref11_machine_entries.O : Nat → Nat := fun t => bif ([4, 5, 24, 38, 61] : List Nat).any (Nat.beq t) then 1 else 0
def diwanref11_machine_entries (to : Int) (o0_v : TMachine) : Option TMachine :=
 ix o0_v.r.Next (w64 (to - 1)) fun x1_1 =>
 gd (decide ((0 : Int) ≤ (w64 ((if (w64 ((o0_v.r.Log.length : Int) + 1)) < (if x1_1 < 1 then 1 else x1_1) then (w64 ((o0_v.r.Log.length : Int) + 1)) else (if x1_1 < 1 then 1 else x1_1)) - 1)) ∧ (w64 ((if (w64 ((o0_v.r.Log.length : Int) + 1)) < (if x1_1 < 1 then 1 else x1_1) then (w64 ((o0_v.r.Log.length : Int) + 1)) else (if x1_1 < 1 then 1 else x1_1)) - 1)) ≤ (o0_v.r.Log.length : Int))) <|
 gd (decide (([] : List TEntry).length + (List.drop (w64 ((if (w64 ((o0_v.r.Log.length : Int) + 1)) < (if x1_1 < 1 then 1 else x1_1) then (w64 ((o0_v.r.Log.length : Int) + 1)) else (if x1_1 < 1 then 1 else x1_1)) - 1)).toNat o0_v.r.Log).length ≤ 4294967296)) <|
 jn (fun (j6_2 : List TEntry) =>
  bd (diwanref1_Term o0_v.r.Log (w64 ((if (w64 ((o0_v.r.Log.length : Int) + 1)) < (if x1_1 < 1 then 1 else x1_1) then (w64 ((o0_v.r.Log.length : Int) + 1)) else (if x1_1 < 1 then 1 else x1_1)) - 1))) fun r7_1 =>
  bd (diwanref11_machine_send_2 (TMsg.mk 3 0 0 0 o0_v.r.Term (w64 ((if (w64 ((o0_v.r.Log.length : Int) + 1)) < (if x1_1 < 1 then 1 else x1_1) then (w64 ((o0_v.r.Log.length : Int) + 1)) else (if x1_1 < 1 then 1 else x1_1)) - 1)) r7_1 o0_v.r.Commit false j6_2 (TTxn.mk 0 0 [] []) 0 0 0 0 false ByteArray.empty ByteArray.empty [] [] 0) to o0_v) fun r7_3 =>
  some r7_3) fun k6 =>
 br (decide (((List.drop (w64 ((if (w64 ((o0_v.r.Log.length : Int) + 1)) < (if x1_1 < 1 then 1 else x1_1) then (w64 ((o0_v.r.Log.length : Int) + 1)) else (if x1_1 < 1 then 1 else x1_1)) - 1)).toNat o0_v.r.Log).length : Int) > 4))
  (gd (decide ((0 : Int) ≤ (4 : Int) ∧ (4 : Int) ≤ ((List.drop (w64 ((if (w64 ((o0_v.r.Log.length : Int) + 1)) < (if x1_1 < 1 then 1 else x1_1) then (w64 ((o0_v.r.Log.length : Int) + 1)) else (if x1_1 < 1 then 1 else x1_1)) - 1)).toNat o0_v.r.Log).length : Int))) <|
  k6 (List.take (4 : Int).toNat (List.drop (w64 ((if (w64 ((o0_v.r.Log.length : Int) + 1)) < (if x1_1 < 1 then 1 else x1_1) then (w64 ((o0_v.r.Log.length : Int) + 1)) else (if x1_1 < 1 then 1 else x1_1)) - 1)).toNat o0_v.r.Log)))
  (k6 (List.drop (w64 ((if (w64 ((o0_v.r.Log.length : Int) + 1)) < (if x1_1 < 1 then 1 else x1_1) then (w64 ((o0_v.r.Log.length : Int) + 1)) else (if x1_1 < 1 then 1 else x1_1)) - 1)).toNat o0_v.r.Log))
theorem diwanref11_machine_entries.meets (to : Int) (o0_v : TMachine) (z0 : TMachine) (h : diwanref11_machine_entries to o0_v = some z0) : Meets Try.prog ⟨88, [.ptr 1000 0, iv to], [(TMachine.ob_00000100011101 o0_v)]⟩ ⟨.tup [], [(TMachine.ob_00000000011101 z0)]⟩ := by
 refine kMt hmix diwanref11_machine_entries.O Try.f88 bd88 7 ?_
 unfold diwanref11_machine_entries at h
 obtain ⟨x1_1, a1_2, e1_3, h⟩ := ix_inv h
 refine kRs 7 [Tm 4 (iv (if (w64 ((o0_v.r.Log.length : Int) + 1)) < (if x1_1 < 1 then 1 else x1_1) then (w64 ((o0_v.r.Log.length : Int) + 1)) else (if x1_1 < 1 then 1 else x1_1)))] [.c (e_i64 x1_1), .s (.t 21) [iv (o0_v.r.Log.length : Int)]] (.c (c_ix (e := e_i64) a1_2 e1_3) (.c (c_el (e := e_i64) e1_3) (.c (c_len (e := TEntry.en) (l := o0_v.r.Log)) (.c rT .n)))) ?_
 obtain ⟨c2_1, h⟩ := gd_inv h
 obtain ⟨c2_2, h⟩ := gd_inv h
 refine kRs 7 [Tm 5 (sO 6 TEntry.en (List.drop (w64 ((if (w64 ((o0_v.r.Log.length : Int) + 1)) < (if x1_1 < 1 then 1 else x1_1) then (w64 ((o0_v.r.Log.length : Int) + 1)) else (if x1_1 < 1 then 1 else x1_1)) - 1)).toNat o0_v.r.Log)), Ob 1000 (TMachine.ob_00000000011101 o0_v)] [.s (.t 32) [sS 6 TEntry.en (List.drop (w64 ((if (w64 ((o0_v.r.Log.length : Int) + 1)) < (if x1_1 < 1 then 1 else x1_1) then (w64 ((o0_v.r.Log.length : Int) + 1)) else (if x1_1 < 1 then 1 else x1_1)) - 1)).toNat o0_v.r.Log)]] (.c (c_cbL (e := TEntry.en) c2_1) (.c (congrArg (fun d : DV => [AV.data d]) (c_cutL (own := false) (nl := none) (s := 6) (e := TEntry.en) (l := o0_v.r.Log) (lo := (w64 ((if (w64 ((o0_v.r.Log.length : Int) + 1)) < (if x1_1 < 1 then 1 else x1_1) then (w64 ((o0_v.r.Log.length : Int) + 1)) else (if x1_1 < 1 then 1 else x1_1)) - 1)).toNat))) (.c (c_al (e := TEntry.en) (f := TEntry.en) c2_2) .n))) ?_
 obtain ⟨k6, hk6, h⟩ := jn_inv h
 have Jk6 : ∀ (j6_2 : List TEntry), k6 j6_2 = some z0 → WK Try.prog diwanref11_machine_entries.O (Ck Try.prog) (cR (cR (cR bd88))) [] (ofL [Tm 0 (.ptr 1000 0), Tm 1 (iv to), Tm 4 (iv (if (w64 ((o0_v.r.Log.length : Int) + 1)) < (if x1_1 < 1 then 1 else x1_1) then (w64 ((o0_v.r.Log.length : Int) + 1)) else (if x1_1 < 1 then 1 else x1_1))), Tm 5 (sO 6 TEntry.en j6_2), Ob 1000 (TMachine.ob_00000000011101 o0_v)]) (Fin Try.prog diwanref11_machine_entries.O Try.f88 1 ⟨.tup [], [(TMachine.ob_00000000011101 z0)]⟩) := by
  intro j6_2 h
  rw [hk6] at h
  obtain ⟨r7_1, h7_2, h⟩ := bd_inv h
  obtain ⟨r7_3, h7_4, h⟩ := bd_inv h
  have h_ := some_inj h
  subst h_
  exact kRf [.a ⟨iv r7_1, []⟩, .a ⟨.tup [], [(TMachine.ob_00000000011101 r7_3)]⟩] (.c (Asks.of (C := Meets Try.prog) (diwanref1_Term.meets o0_v.r.Log (w64 ((if (w64 ((o0_v.r.Log.length : Int) + 1)) < (if x1_1 < 1 then 1 else x1_1) then (w64 ((o0_v.r.Log.length : Int) + 1)) else (if x1_1 < 1 then 1 else x1_1)) - 1)) _ h7_2)) (.c (Asks.of (C := Meets Try.prog) (diwanref11_machine_send_2.meets (TMsg.mk 3 0 0 0 o0_v.r.Term (w64 ((if (w64 ((o0_v.r.Log.length : Int) + 1)) < (if x1_1 < 1 then 1 else x1_1) then (w64 ((o0_v.r.Log.length : Int) + 1)) else (if x1_1 < 1 then 1 else x1_1)) - 1)) r7_1 o0_v.r.Commit false j6_2 (TTxn.mk 0 0 [] []) 0 0 0 0 false ByteArray.empty ByteArray.empty [] [] 0) to o0_v _ h7_4)) (.c rT .n)))
 clear hk6
 refine kSq ?_
 refine kRs 31 [Tm 36 (bv (decide (((List.drop (w64 ((if (w64 ((o0_v.r.Log.length : Int) + 1)) < (if x1_1 < 1 then 1 else x1_1) then (w64 ((o0_v.r.Log.length : Int) + 1)) else (if x1_1 < 1 then 1 else x1_1)) - 1)).toNat o0_v.r.Log).length : Int) > 4)))] [.s (.t 35) [iv ((List.drop (w64 ((if (w64 ((o0_v.r.Log.length : Int) + 1)) < (if x1_1 < 1 then 1 else x1_1) then (w64 ((o0_v.r.Log.length : Int) + 1)) else (if x1_1 < 1 then 1 else x1_1)) - 1)).toNat o0_v.r.Log).length : Int)]] (.c (c_len (e := TEntry.en) (l := (List.drop (w64 ((if (w64 ((o0_v.r.Log.length : Int) + 1)) < (if x1_1 < 1 then 1 else x1_1) then (w64 ((o0_v.r.Log.length : Int) + 1)) else (if x1_1 < 1 then 1 else x1_1)) - 1)).toNat o0_v.r.Log))) .n) ?_
 rcases br_inv h with ⟨b4_0, h⟩ | ⟨b4_0, h⟩
 ·refine kCt b4_0 ?_
  obtain ⟨c5_1, h⟩ := gd_inv h
  refine kRc 60 [Tm 5 (sO 6 TEntry.en (List.take (4 : Int).toNat (List.drop (w64 ((if (w64 ((o0_v.r.Log.length : Int) + 1)) < (if x1_1 < 1 then 1 else x1_1) then (w64 ((o0_v.r.Log.length : Int) + 1)) else (if x1_1 < 1 then 1 else x1_1)) - 1)).toNat o0_v.r.Log)))] [.s (.t 38) [sO 6 TEntry.en (List.take (4 : Int).toNat (List.drop (w64 ((if (w64 ((o0_v.r.Log.length : Int) + 1)) < (if x1_1 < 1 then 1 else x1_1) then (w64 ((o0_v.r.Log.length : Int) + 1)) else (if x1_1 < 1 then 1 else x1_1)) - 1)).toNat o0_v.r.Log))]] (.c (c_cbH (e := TEntry.en) c5_1) (.c (congrArg (fun d : DV => [AV.data d]) (c_cutH (own := true) (nl := none) (s := 6) (e := TEntry.en) (l := (List.drop (w64 ((if (w64 ((o0_v.r.Log.length : Int) + 1)) < (if x1_1 < 1 then 1 else x1_1) then (w64 ((o0_v.r.Log.length : Int) + 1)) else (if x1_1 < 1 then 1 else x1_1)) - 1)).toNat o0_v.r.Log)) (h := (4 : Int).toNat))) .n)) (cR (cR (cR bd88))) [] ?_
  exact kWk (Jk6 (List.take (4 : Int).toNat (List.drop (w64 ((if (w64 ((o0_v.r.Log.length : Int) + 1)) < (if x1_1 < 1 then 1 else x1_1) then (w64 ((o0_v.r.Log.length : Int) + 1)) else (if x1_1 < 1 then 1 else x1_1)) - 1)).toNat o0_v.r.Log)) h)
 ·refine kCe b4_0 ?_
  refine kSk ?_
  refine kCd (cR (cR (cR bd88))) [] ?_
  exact kWk (Jk6 (List.drop (w64 ((if (w64 ((o0_v.r.Log.length : Int) + 1)) < (if x1_1 < 1 then 1 else x1_1) then (w64 ((o0_v.r.Log.length : Int) + 1)) else (if x1_1 < 1 then 1 else x1_1)) - 1)).toNat o0_v.r.Log) h)
def diwanref11_machine_entries_2.O : Nat → Nat := fun t => bif ([4, 5, 24, 38, 61] : List Nat).any (Nat.beq t) then 1 else 0
def diwanref11_machine_entries_2 (to : Int) (o0_v : TMachine) : Option TMachine :=
 ix o0_v.r.Next (w64 (to - 1)) fun x1_1 =>
 gd (decide ((0 : Int) ≤ (w64 ((if (w64 ((o0_v.r.Log.length : Int) + 1)) < (if x1_1 < 1 then 1 else x1_1) then (w64 ((o0_v.r.Log.length : Int) + 1)) else (if x1_1 < 1 then 1 else x1_1)) - 1)) ∧ (w64 ((if (w64 ((o0_v.r.Log.length : Int) + 1)) < (if x1_1 < 1 then 1 else x1_1) then (w64 ((o0_v.r.Log.length : Int) + 1)) else (if x1_1 < 1 then 1 else x1_1)) - 1)) ≤ (o0_v.r.Log.length : Int))) <|
 gd (decide (([] : List TEntry).length + (List.drop (w64 ((if (w64 ((o0_v.r.Log.length : Int) + 1)) < (if x1_1 < 1 then 1 else x1_1) then (w64 ((o0_v.r.Log.length : Int) + 1)) else (if x1_1 < 1 then 1 else x1_1)) - 1)).toNat o0_v.r.Log).length ≤ 4294967296)) <|
 jn (fun (j6_2 : List TEntry) =>
  bd (diwanref1_Term o0_v.r.Log (w64 ((if (w64 ((o0_v.r.Log.length : Int) + 1)) < (if x1_1 < 1 then 1 else x1_1) then (w64 ((o0_v.r.Log.length : Int) + 1)) else (if x1_1 < 1 then 1 else x1_1)) - 1))) fun r7_1 =>
  bd (diwanref11_machine_send_2 (TMsg.mk 3 0 0 0 o0_v.r.Term (w64 ((if (w64 ((o0_v.r.Log.length : Int) + 1)) < (if x1_1 < 1 then 1 else x1_1) then (w64 ((o0_v.r.Log.length : Int) + 1)) else (if x1_1 < 1 then 1 else x1_1)) - 1)) r7_1 o0_v.r.Commit false j6_2 (TTxn.mk 0 0 [] []) 0 0 0 0 false ByteArray.empty ByteArray.empty [] [] 0) to o0_v) fun r7_3 =>
  some r7_3) fun k6 =>
 br (decide (((List.drop (w64 ((if (w64 ((o0_v.r.Log.length : Int) + 1)) < (if x1_1 < 1 then 1 else x1_1) then (w64 ((o0_v.r.Log.length : Int) + 1)) else (if x1_1 < 1 then 1 else x1_1)) - 1)).toNat o0_v.r.Log).length : Int) > 4))
  (gd (decide ((0 : Int) ≤ (4 : Int) ∧ (4 : Int) ≤ ((List.drop (w64 ((if (w64 ((o0_v.r.Log.length : Int) + 1)) < (if x1_1 < 1 then 1 else x1_1) then (w64 ((o0_v.r.Log.length : Int) + 1)) else (if x1_1 < 1 then 1 else x1_1)) - 1)).toNat o0_v.r.Log).length : Int))) <|
  k6 (List.take (4 : Int).toNat (List.drop (w64 ((if (w64 ((o0_v.r.Log.length : Int) + 1)) < (if x1_1 < 1 then 1 else x1_1) then (w64 ((o0_v.r.Log.length : Int) + 1)) else (if x1_1 < 1 then 1 else x1_1)) - 1)).toNat o0_v.r.Log)))
  (k6 (List.drop (w64 ((if (w64 ((o0_v.r.Log.length : Int) + 1)) < (if x1_1 < 1 then 1 else x1_1) then (w64 ((o0_v.r.Log.length : Int) + 1)) else (if x1_1 < 1 then 1 else x1_1)) - 1)).toNat o0_v.r.Log))
theorem diwanref11_machine_entries_2.meets (to : Int) (o0_v : TMachine) (z0 : TMachine) (h : diwanref11_machine_entries_2 to o0_v = some z0) : Meets Try.prog ⟨88, [.ptr 1000 0, iv to], [(TMachine.ob_00000000011101 o0_v)]⟩ ⟨.tup [], [(TMachine.ob_00000000011101 z0)]⟩ := by
 refine kMt hmix diwanref11_machine_entries_2.O Try.f88 bd88 7 ?_
 unfold diwanref11_machine_entries_2 at h
 obtain ⟨x1_1, a1_2, e1_3, h⟩ := ix_inv h
 refine kRs 7 [Tm 4 (iv (if (w64 ((o0_v.r.Log.length : Int) + 1)) < (if x1_1 < 1 then 1 else x1_1) then (w64 ((o0_v.r.Log.length : Int) + 1)) else (if x1_1 < 1 then 1 else x1_1)))] [.c (e_i64 x1_1), .s (.t 21) [iv (o0_v.r.Log.length : Int)]] (.c (c_ix (e := e_i64) a1_2 e1_3) (.c (c_el (e := e_i64) e1_3) (.c (c_len (e := TEntry.en) (l := o0_v.r.Log)) (.c rT .n)))) ?_
 obtain ⟨c2_1, h⟩ := gd_inv h
 obtain ⟨c2_2, h⟩ := gd_inv h
 refine kRs 15 [Tm 5 (sO 6 TEntry.en (List.drop (w64 ((if (w64 ((o0_v.r.Log.length : Int) + 1)) < (if x1_1 < 1 then 1 else x1_1) then (w64 ((o0_v.r.Log.length : Int) + 1)) else (if x1_1 < 1 then 1 else x1_1)) - 1)).toNat o0_v.r.Log))] [.s (.t 32) [sS 6 TEntry.en (List.drop (w64 ((if (w64 ((o0_v.r.Log.length : Int) + 1)) < (if x1_1 < 1 then 1 else x1_1) then (w64 ((o0_v.r.Log.length : Int) + 1)) else (if x1_1 < 1 then 1 else x1_1)) - 1)).toNat o0_v.r.Log)]] (.c (c_cbL (e := TEntry.en) c2_1) (.c (congrArg (fun d : DV => [AV.data d]) (c_cutL (own := false) (nl := none) (s := 6) (e := TEntry.en) (l := o0_v.r.Log) (lo := (w64 ((if (w64 ((o0_v.r.Log.length : Int) + 1)) < (if x1_1 < 1 then 1 else x1_1) then (w64 ((o0_v.r.Log.length : Int) + 1)) else (if x1_1 < 1 then 1 else x1_1)) - 1)).toNat))) (.c (c_al (e := TEntry.en) (f := TEntry.en) c2_2) .n))) ?_
 obtain ⟨k6, hk6, h⟩ := jn_inv h
 have Jk6 : ∀ (j6_2 : List TEntry), k6 j6_2 = some z0 → WK Try.prog diwanref11_machine_entries_2.O (Ck Try.prog) (cR (cR (cR bd88))) [] (ofL [Tm 0 (.ptr 1000 0), Tm 1 (iv to), Tm 4 (iv (if (w64 ((o0_v.r.Log.length : Int) + 1)) < (if x1_1 < 1 then 1 else x1_1) then (w64 ((o0_v.r.Log.length : Int) + 1)) else (if x1_1 < 1 then 1 else x1_1))), Tm 5 (sO 6 TEntry.en j6_2), Ob 1000 (TMachine.ob_00000000011101 o0_v)]) (Fin Try.prog diwanref11_machine_entries_2.O Try.f88 1 ⟨.tup [], [(TMachine.ob_00000000011101 z0)]⟩) := by
  intro j6_2 h
  rw [hk6] at h
  obtain ⟨r7_1, h7_2, h⟩ := bd_inv h
  obtain ⟨r7_3, h7_4, h⟩ := bd_inv h
  have h_ := some_inj h
  subst h_
  exact kRf [.a ⟨iv r7_1, []⟩, .a ⟨.tup [], [(TMachine.ob_00000000011101 r7_3)]⟩] (.c (Asks.of (C := Meets Try.prog) (diwanref1_Term.meets o0_v.r.Log (w64 ((if (w64 ((o0_v.r.Log.length : Int) + 1)) < (if x1_1 < 1 then 1 else x1_1) then (w64 ((o0_v.r.Log.length : Int) + 1)) else (if x1_1 < 1 then 1 else x1_1)) - 1)) _ h7_2)) (.c (Asks.of (C := Meets Try.prog) (diwanref11_machine_send_2.meets (TMsg.mk 3 0 0 0 o0_v.r.Term (w64 ((if (w64 ((o0_v.r.Log.length : Int) + 1)) < (if x1_1 < 1 then 1 else x1_1) then (w64 ((o0_v.r.Log.length : Int) + 1)) else (if x1_1 < 1 then 1 else x1_1)) - 1)) r7_1 o0_v.r.Commit false j6_2 (TTxn.mk 0 0 [] []) 0 0 0 0 false ByteArray.empty ByteArray.empty [] [] 0) to o0_v _ h7_4)) (.c rT .n)))
 clear hk6
 refine kSq ?_
 refine kRs 31 [Tm 36 (bv (decide (((List.drop (w64 ((if (w64 ((o0_v.r.Log.length : Int) + 1)) < (if x1_1 < 1 then 1 else x1_1) then (w64 ((o0_v.r.Log.length : Int) + 1)) else (if x1_1 < 1 then 1 else x1_1)) - 1)).toNat o0_v.r.Log).length : Int) > 4)))] [.s (.t 35) [iv ((List.drop (w64 ((if (w64 ((o0_v.r.Log.length : Int) + 1)) < (if x1_1 < 1 then 1 else x1_1) then (w64 ((o0_v.r.Log.length : Int) + 1)) else (if x1_1 < 1 then 1 else x1_1)) - 1)).toNat o0_v.r.Log).length : Int)]] (.c (c_len (e := TEntry.en) (l := (List.drop (w64 ((if (w64 ((o0_v.r.Log.length : Int) + 1)) < (if x1_1 < 1 then 1 else x1_1) then (w64 ((o0_v.r.Log.length : Int) + 1)) else (if x1_1 < 1 then 1 else x1_1)) - 1)).toNat o0_v.r.Log))) .n) ?_
 rcases br_inv h with ⟨b4_0, h⟩ | ⟨b4_0, h⟩
 ·refine kCt b4_0 ?_
  obtain ⟨c5_1, h⟩ := gd_inv h
  refine kRc 60 [Tm 5 (sO 6 TEntry.en (List.take (4 : Int).toNat (List.drop (w64 ((if (w64 ((o0_v.r.Log.length : Int) + 1)) < (if x1_1 < 1 then 1 else x1_1) then (w64 ((o0_v.r.Log.length : Int) + 1)) else (if x1_1 < 1 then 1 else x1_1)) - 1)).toNat o0_v.r.Log)))] [.s (.t 38) [sO 6 TEntry.en (List.take (4 : Int).toNat (List.drop (w64 ((if (w64 ((o0_v.r.Log.length : Int) + 1)) < (if x1_1 < 1 then 1 else x1_1) then (w64 ((o0_v.r.Log.length : Int) + 1)) else (if x1_1 < 1 then 1 else x1_1)) - 1)).toNat o0_v.r.Log))]] (.c (c_cbH (e := TEntry.en) c5_1) (.c (congrArg (fun d : DV => [AV.data d]) (c_cutH (own := true) (nl := none) (s := 6) (e := TEntry.en) (l := (List.drop (w64 ((if (w64 ((o0_v.r.Log.length : Int) + 1)) < (if x1_1 < 1 then 1 else x1_1) then (w64 ((o0_v.r.Log.length : Int) + 1)) else (if x1_1 < 1 then 1 else x1_1)) - 1)).toNat o0_v.r.Log)) (h := (4 : Int).toNat))) .n)) (cR (cR (cR bd88))) [] ?_
  exact kWk (Jk6 (List.take (4 : Int).toNat (List.drop (w64 ((if (w64 ((o0_v.r.Log.length : Int) + 1)) < (if x1_1 < 1 then 1 else x1_1) then (w64 ((o0_v.r.Log.length : Int) + 1)) else (if x1_1 < 1 then 1 else x1_1)) - 1)).toNat o0_v.r.Log)) h)
 ·refine kCe b4_0 ?_
  refine kSk ?_
  refine kCd (cR (cR (cR bd88))) [] ?_
  exact kWk (Jk6 (List.drop (w64 ((if (w64 ((o0_v.r.Log.length : Int) + 1)) < (if x1_1 < 1 then 1 else x1_1) then (w64 ((o0_v.r.Log.length : Int) + 1)) else (if x1_1 < 1 then 1 else x1_1)) - 1)).toNat o0_v.r.Log) h)
def bd61 : Code := (Try.f61.body).getD .skip
def diwanref11_machine_all.O : Nat → Nat := fun t => bif ([2] : List Nat).any (Nat.beq t) then 1 else 0
def diwanref11_machine_all.lp2 (fu : Nat) : Nat → Int → TMachine → Option TMachine
  | 0, _, _ => none
  | n_ + 1, l2_0, l2_1 =>
  br (decide (l2_0 ≤ l2_1.r.Nodes))
   (br (l2_0 != l2_1.r.Me)
    (bd (diwanref11_machine_entries_2 l2_0 l2_1) fun r7_1 =>
    diwanref11_machine_all.lp2 fu n_ (w64 (l2_0 + 1)) r7_1)
    (diwanref11_machine_all.lp2 fu n_ (w64 (l2_0 + 1)) l2_1))
   (some l2_1)
def diwanref11_machine_all.lp2_post (r_ : TMachine) : Wy → St → Prop := fun e τ => match r_ with
  | y0 => e = .exit 0 ∧ τ = ofL [Ob 1000 (TMachine.ob_00000000011101 y0)]
theorem diwanref11_machine_all.lp2_ok (fu : Nat) : ∀ (n_ : Nat) (l2_0 : Int) (l2_1 : TMachine) (r_ : TMachine), diwanref11_machine_all.lp2 fu n_ l2_0 l2_1 = some r_ → WK Try.prog diwanref11_machine_all.O (Ck Try.prog) (cB (cR bd61)) [] (ofL [Tm 0 (.ptr 1000 0), Tm 2 (iv l2_0), Ob 1000 (TMachine.ob_00000000011101 l2_1)]) (diwanref11_machine_all.lp2_post r_) := by
 intro n_
 induction n_ with
 | zero => intro l2_0 l2_1 r_ h; exact no_none h
 | succ n_ ih =>
  intro l2_0 l2_1 r_ h
  refine kLp ?_
  refine kSq ?_
  refine kRs 7 [Tm 9 (bv (decide (l2_0 ≤ l2_1.r.Nodes)))] [] .n ?_
  rcases br_inv h with ⟨b4_0, h⟩ | ⟨b4_0, h⟩
  ·refine kCt b4_0 ?_
   refine kSk ?_
   refine kCd (cR (cB (cB (cR bd61)))) [.lp (cB (cR bd61))] ?_
   refine kSq ?_
   refine kBk 1 ?_
   refine kRs 14 [Tm 18 (bv (l2_0 != l2_1.r.Me))] [] .n ?_
   rcases br_inv h with ⟨b6_0, h⟩ | ⟨b6_0, h⟩
   ·refine kCt b6_0 ?_
    obtain ⟨r7_1, h7_2, h⟩ := bd_inv h
    refine kRc 6 [Ob 1000 (TMachine.ob_00000000011101 r7_1)] [.a ⟨.tup [], [(TMachine.ob_00000000011101 r7_1)]⟩] (.c (Asks.of (C := Meets Try.prog) (diwanref11_machine_entries_2.meets l2_0 l2_1 _ h7_2)) .n) (cR (cR (cB (cB (cR bd61))))) [.lp (cB (cR bd61))] ?_
    refine kRc 3 [Tm 2 (iv (w64 (l2_0 + 1)))] [] .n (cB (cR bd61)) [] ?_
    exact kWk (ih (w64 (l2_0 + 1)) r7_1 _ h)
   ·refine kCe b6_0 ?_
    refine kSk ?_
    refine kCd (cR (cR (cB (cB (cR bd61))))) [.lp (cB (cR bd61))] ?_
    refine kRc 10 [Tm 2 (iv (w64 (l2_0 + 1)))] [] .n (cB (cR bd61)) [] ?_
    exact kWk (ih (w64 (l2_0 + 1)) l2_1 _ h)
  ·refine kCe b4_0 ?_
   cases some_inj h
   refine kWo ?_
   refine kXt 0 ?_
   exact kOut
def diwanref11_machine_all (fu : Nat) (o0_v : TMachine) : Option TMachine :=
 bd (diwanref11_machine_all.lp2 fu fu 1 o0_v) fun y10_0 =>
 some y10_0
theorem diwanref11_machine_all.meets (fu : Nat) (o0_v : TMachine) (z0 : TMachine) (h : diwanref11_machine_all fu o0_v = some z0) : Meets Try.prog ⟨61, [.ptr 1000 0], [(TMachine.ob_00000100011101 o0_v)]⟩ ⟨.tup [], [(TMachine.ob_00000000011101 z0)]⟩ := by
 refine kMt hmix diwanref11_machine_all.O Try.f61 bd61 3 ?_
 unfold diwanref11_machine_all at h
 refine kRs 3 [Tm 2 (iv 1)] [] .n ?_
 refine kBk 0 ?_
 obtain ⟨o10, ho10, h⟩ := bd_inv h
 refine kSo 1000 5 3 [Ob 1000 (TMachine.ob_00000000011101 o0_v)] ?_
 refine kUs (diwanref11_machine_all.lp2_ok fu _ 1 o0_v _ ho10) ?_
 intro e_ τ_ hp_
 obtain ⟨y10_0, rfl⟩ : ∃ y, y = o10 := ⟨_, rfl⟩
 obtain ⟨rfl, rfl⟩ := hp_
 have h_ := some_inj h
 subst h_
 exact kFn
def bd66 : Code := (Try.f66.body).getD .skip
def diwanref11_machine_propose.O : Nat → Nat := fun t => bif ([3, 4, 33, 34, 54, 77] : List Nat).any (Nat.beq t) then 1 else 0
def diwanref11_machine_propose (fu : Nat) (e_v : TEntry) (o0_v : TMachine) : Option (Bool × TMachine) :=
 br (o0_v.r.Role != 2)
  (some (false, o0_v))
  (br (decide ((o0_v.r.Log.length : Int) ≥ 200))
   (some (false, o0_v))
   (gd (decide (o0_v.r.Log.length + ([(TEntry.mk o0_v.r.Term e_v.Seal e_v.T)] : List TEntry).length ≤ 4294967296)) <|
   ix o0_v.r.Match (w64 (o0_v.r.Me - 1)) fun x8_1 =>
   bd (diwanref1_Next fu (o0_v.r.Match.set (w64 (o0_v.r.Me - 1)).toNat ((o0_v.r.Log ++ ([(TEntry.mk o0_v.r.Term e_v.Seal e_v.T)] : List TEntry)).length : Int)) (o0_v.r.Log ++ ([(TEntry.mk o0_v.r.Term e_v.Seal e_v.T)] : List TEntry)) o0_v.r.Term o0_v.r.Commit) fun r9_1 =>
   bd (diwanref11_machine_all fu (TMachine.mk (TRaft.mk o0_v.r.Me o0_v.r.Nodes o0_v.r.Wait o0_v.r.Term o0_v.r.Vote (o0_v.r.Log ++ ([(TEntry.mk o0_v.r.Term e_v.Seal e_v.T)] : List TEntry)) r9_1 o0_v.r.Role o0_v.r.Leader o0_v.r.Votes o0_v.r.Next (o0_v.r.Match.set (w64 (o0_v.r.Me - 1)).toNat ((o0_v.r.Log ++ ([(TEntry.mk o0_v.r.Term e_v.Seal e_v.T)] : List TEntry)).length : Int)) o0_v.r.Clock) o0_v.out)) fun r10_1 =>
   some (true, r10_1)))
theorem diwanref11_machine_propose.meets (fu : Nat) (e_v : TEntry) (o0_v : TMachine) (z0 : Bool) (z1 : TMachine) (h : diwanref11_machine_propose fu e_v o0_v = some (z0, z1)) : Meets Try.prog ⟨66, [.ptr 1000 0, .data (TEntry.ag e_v)], [(TMachine.ob_00000100011101 o0_v)]⟩ ⟨bv z0, [(TMachine.ob_00000000011101 z1)]⟩ := by
 refine kMt hmix diwanref11_machine_propose.O Try.f66 bd66 7 ?_
 unfold diwanref11_machine_propose at h
 refine kRs 5 [Tm 3 (.ptr 3 0), Ob 3 (TEntry.ob e_v)] [] .n ?_
 refine kSq ?_
 rcases br_inv h with ⟨b2_1, h⟩ | ⟨b2_1, h⟩
 ·refine kRs 15 [Tm 19 (bv true)] (rp 8 (.b true) []) (.r 8 b2_1 .n) ?_
  refine kCt rT ?_
  refine kRs 16 [Tm 4 (bv false)] [] .n ?_
  refine kSo 1000 5 1 [Ob 1000 (TMachine.ob_00000000011101 o0_v)] ?_
  refine kRt ?_
  have h_0 := some_inj h
  obtain ⟨g_1, h_1⟩ := Prod.mk.inj h_0
  subst g_1
  subst h_1
  exact kFr
 ·refine kRs 15 [Tm 19 (bv (decide ((o0_v.r.Log.length : Int) ≥ 200)))] (rp 6 (.b false) [.s (.t 17) [iv (o0_v.r.Log.length : Int)], .b false, .b false]) (.r 6 b2_1 (.c (c_len (e := TEntry.en) (l := o0_v.r.Log)) (.r 2 b2_1 .n))) ?_
  rcases br_inv h with ⟨b4_0, h⟩ | ⟨b4_0, h⟩
  ·refine kCt b4_0 ?_
   refine kRs 16 [Tm 4 (bv false)] [] .n ?_
   refine kSo 1000 5 1 [Ob 1000 (TMachine.ob_00000000011101 o0_v)] ?_
   refine kRt ?_
   have h_0 := some_inj h
   obtain ⟨g_1, h_1⟩ := Prod.mk.inj h_0
   subst g_1
   subst h_1
   exact kFr
  ·refine kCe b4_0 ?_
   refine kSk ?_
   refine kCd (cR (cR bd66)) [] ?_
   refine kRs 26 [Ob 3 (TEntry.ob (TEntry.mk o0_v.r.Term e_v.Seal e_v.T))] [] .n ?_
   obtain ⟨c7_1, h⟩ := gd_inv h
   refine kRs 4 [Ob 1000 (TMachine.ob_00000100011101 (TMachine.mk (TRaft.mk o0_v.r.Me o0_v.r.Nodes o0_v.r.Wait o0_v.r.Term o0_v.r.Vote (o0_v.r.Log ++ ([(TEntry.mk o0_v.r.Term e_v.Seal e_v.T)] : List TEntry)) o0_v.r.Commit o0_v.r.Role o0_v.r.Leader o0_v.r.Votes o0_v.r.Next o0_v.r.Match o0_v.r.Clock) o0_v.out))] [.s (.t 34) [sO 6 TEntry.en (o0_v.r.Log ++ ([(TEntry.mk o0_v.r.Term e_v.Seal e_v.T)] : List TEntry))]] (.c (c_al (e := TEntry.en) (f := TEntry.en) c7_1) (.c (congrArg (fun d : DV => [AV.data d]) (c_app (e := TEntry.en) (s := 6) (l := o0_v.r.Log) (m := ([(TEntry.mk o0_v.r.Term e_v.Seal e_v.T)] : List TEntry)))) (.c rT .n))) ?_
   obtain ⟨x8_1, a8_2, e8_3, h⟩ := ix_inv h
   refine kRs 2 [Ob 1000 (TMachine.ob_00000100011101 (TMachine.mk (TRaft.mk o0_v.r.Me o0_v.r.Nodes o0_v.r.Wait o0_v.r.Term o0_v.r.Vote (o0_v.r.Log ++ ([(TEntry.mk o0_v.r.Term e_v.Seal e_v.T)] : List TEntry)) o0_v.r.Commit o0_v.r.Role o0_v.r.Leader o0_v.r.Votes o0_v.r.Next (o0_v.r.Match.set (w64 (o0_v.r.Me - 1)).toNat ((o0_v.r.Log ++ ([(TEntry.mk o0_v.r.Term e_v.Seal e_v.T)] : List TEntry)).length : Int)) o0_v.r.Clock) o0_v.out))] [.s (.t 54) [iv ((o0_v.r.Log ++ ([(TEntry.mk o0_v.r.Term e_v.Seal e_v.T)] : List TEntry)).length : Int)], .c (e_i64 x8_1), .s (.o 1000) (TMachine.ob_00000100011101 (TMachine.mk (TRaft.mk o0_v.r.Me o0_v.r.Nodes o0_v.r.Wait o0_v.r.Term o0_v.r.Vote (o0_v.r.Log ++ ([(TEntry.mk o0_v.r.Term e_v.Seal e_v.T)] : List TEntry)) o0_v.r.Commit o0_v.r.Role o0_v.r.Leader o0_v.r.Votes o0_v.r.Next (o0_v.r.Match.set (w64 (o0_v.r.Me - 1)).toNat ((o0_v.r.Log ++ ([(TEntry.mk o0_v.r.Term e_v.Seal e_v.T)] : List TEntry)).length : Int)) o0_v.r.Clock) o0_v.out))] (.c (c_len (e := TEntry.en) (l := (o0_v.r.Log ++ ([(TEntry.mk o0_v.r.Term e_v.Seal e_v.T)] : List TEntry)))) (.c (c_ix (e := e_i64) a8_2 e8_3) (.c (c_el (e := e_i64) e8_3) (.c (congrArg (fun d : DV => (TMachine.ob_00000100011101 (TMachine.mk (TRaft.mk o0_v.r.Me o0_v.r.Nodes o0_v.r.Wait o0_v.r.Term o0_v.r.Vote (o0_v.r.Log ++ ([(TEntry.mk o0_v.r.Term e_v.Seal e_v.T)] : List TEntry)) o0_v.r.Commit o0_v.r.Role o0_v.r.Leader o0_v.r.Votes o0_v.r.Next (o0_v.r.Match.set (w64 (o0_v.r.Me - 1)).toNat ((o0_v.r.Log ++ ([(TEntry.mk o0_v.r.Term e_v.Seal e_v.T)] : List TEntry)).length : Int)) o0_v.r.Clock) o0_v.out)).set 11 (AV.data d)) (c_set (e := e_i64) (s := 1) (nl := none) (l := o0_v.r.Match) (i := (w64 (o0_v.r.Me - 1)).toNat) (x := ((o0_v.r.Log ++ ([(TEntry.mk o0_v.r.Term e_v.Seal e_v.T)] : List TEntry)).length : Int)))) (.c rT .n))))) ?_
   obtain ⟨r9_1, h9_2, h⟩ := bd_inv h
   refine kRs 2 [Ob 1000 (TMachine.ob_00000100011101 (TMachine.mk (TRaft.mk o0_v.r.Me o0_v.r.Nodes o0_v.r.Wait o0_v.r.Term o0_v.r.Vote (o0_v.r.Log ++ ([(TEntry.mk o0_v.r.Term e_v.Seal e_v.T)] : List TEntry)) r9_1 o0_v.r.Role o0_v.r.Leader o0_v.r.Votes o0_v.r.Next (o0_v.r.Match.set (w64 (o0_v.r.Me - 1)).toNat ((o0_v.r.Log ++ ([(TEntry.mk o0_v.r.Term e_v.Seal e_v.T)] : List TEntry)).length : Int)) o0_v.r.Clock) o0_v.out))] [.a ⟨iv r9_1, []⟩] (.c (Asks.of (C := Meets Try.prog) (diwanref1_Next.meets fu (o0_v.r.Match.set (w64 (o0_v.r.Me - 1)).toNat ((o0_v.r.Log ++ ([(TEntry.mk o0_v.r.Term e_v.Seal e_v.T)] : List TEntry)).length : Int)) (o0_v.r.Log ++ ([(TEntry.mk o0_v.r.Term e_v.Seal e_v.T)] : List TEntry)) o0_v.r.Term o0_v.r.Commit _ h9_2)) (.c rT .n)) ?_
   obtain ⟨r10_1, h10_2, h⟩ := bd_inv h
   refine kRs 0 [Ob 1000 (TMachine.ob_00000000011101 r10_1)] [.a ⟨.tup [], [(TMachine.ob_00000000011101 r10_1)]⟩] (.c (Asks.of (C := Meets Try.prog) (diwanref11_machine_all.meets fu (TMachine.mk (TRaft.mk o0_v.r.Me o0_v.r.Nodes o0_v.r.Wait o0_v.r.Term o0_v.r.Vote (o0_v.r.Log ++ ([(TEntry.mk o0_v.r.Term e_v.Seal e_v.T)] : List TEntry)) r9_1 o0_v.r.Role o0_v.r.Leader o0_v.r.Votes o0_v.r.Next (o0_v.r.Match.set (w64 (o0_v.r.Me - 1)).toNat ((o0_v.r.Log ++ ([(TEntry.mk o0_v.r.Term e_v.Seal e_v.T)] : List TEntry)).length : Int)) o0_v.r.Clock) o0_v.out) _ h10_2)) .n) ?_
   refine kRs 1 [Tm 4 (bv true)] [] .n ?_
   refine kRt ?_
   have h_0 := some_inj h
   obtain ⟨g_1, h_1⟩ := Prod.mk.inj h_0
   subst g_1
   subst h_1
   exact kFr
def diwanref11_machine_all_2.O : Nat → Nat := fun t => bif ([2] : List Nat).any (Nat.beq t) then 1 else 0
def diwanref11_machine_all_2.lp2 (fu : Nat) : Nat → Int → TMachine → Option TMachine
  | 0, _, _ => none
  | n_ + 1, l2_0, l2_1 =>
  br (decide (l2_0 ≤ l2_1.r.Nodes))
   (br (l2_0 != l2_1.r.Me)
    (bd (diwanref11_machine_entries_2 l2_0 l2_1) fun r7_1 =>
    diwanref11_machine_all_2.lp2 fu n_ (w64 (l2_0 + 1)) r7_1)
    (diwanref11_machine_all_2.lp2 fu n_ (w64 (l2_0 + 1)) l2_1))
   (some l2_1)
def diwanref11_machine_all_2.lp2_post (r_ : TMachine) : Wy → St → Prop := fun e τ => match r_ with
  | y0 => e = .exit 0 ∧ τ = ofL [Ob 1000 (TMachine.ob_00000000011101 y0)]
theorem diwanref11_machine_all_2.lp2_ok (fu : Nat) : ∀ (n_ : Nat) (l2_0 : Int) (l2_1 : TMachine) (r_ : TMachine), diwanref11_machine_all_2.lp2 fu n_ l2_0 l2_1 = some r_ → WK Try.prog diwanref11_machine_all_2.O (Ck Try.prog) (cB (cR bd61)) [] (ofL [Tm 0 (.ptr 1000 0), Tm 2 (iv l2_0), Ob 1000 (TMachine.ob_00000000011101 l2_1)]) (diwanref11_machine_all_2.lp2_post r_) := by
 intro n_
 induction n_ with
 | zero => intro l2_0 l2_1 r_ h; exact no_none h
 | succ n_ ih =>
  intro l2_0 l2_1 r_ h
  refine kLp ?_
  refine kSq ?_
  refine kRs 7 [Tm 9 (bv (decide (l2_0 ≤ l2_1.r.Nodes)))] [] .n ?_
  rcases br_inv h with ⟨b4_0, h⟩ | ⟨b4_0, h⟩
  ·refine kCt b4_0 ?_
   refine kSk ?_
   refine kCd (cR (cB (cB (cR bd61)))) [.lp (cB (cR bd61))] ?_
   refine kSq ?_
   refine kBk 1 ?_
   refine kRs 14 [Tm 18 (bv (l2_0 != l2_1.r.Me))] [] .n ?_
   rcases br_inv h with ⟨b6_0, h⟩ | ⟨b6_0, h⟩
   ·refine kCt b6_0 ?_
    obtain ⟨r7_1, h7_2, h⟩ := bd_inv h
    refine kRc 6 [Ob 1000 (TMachine.ob_00000000011101 r7_1)] [.a ⟨.tup [], [(TMachine.ob_00000000011101 r7_1)]⟩] (.c (Asks.of (C := Meets Try.prog) (diwanref11_machine_entries_2.meets l2_0 l2_1 _ h7_2)) .n) (cR (cR (cB (cB (cR bd61))))) [.lp (cB (cR bd61))] ?_
    refine kRc 3 [Tm 2 (iv (w64 (l2_0 + 1)))] [] .n (cB (cR bd61)) [] ?_
    exact kWk (ih (w64 (l2_0 + 1)) r7_1 _ h)
   ·refine kCe b6_0 ?_
    refine kSk ?_
    refine kCd (cR (cR (cB (cB (cR bd61))))) [.lp (cB (cR bd61))] ?_
    refine kRc 10 [Tm 2 (iv (w64 (l2_0 + 1)))] [] .n (cB (cR bd61)) [] ?_
    exact kWk (ih (w64 (l2_0 + 1)) l2_1 _ h)
  ·refine kCe b4_0 ?_
   cases some_inj h
   refine kWo ?_
   refine kXt 0 ?_
   exact kOut
def diwanref11_machine_all_2 (fu : Nat) (o0_v : TMachine) : Option TMachine :=
 bd (diwanref11_machine_all_2.lp2 fu fu 1 o0_v) fun y10_0 =>
 some y10_0
theorem diwanref11_machine_all_2.meets (fu : Nat) (o0_v : TMachine) (z0 : TMachine) (h : diwanref11_machine_all_2 fu o0_v = some z0) : Meets Try.prog ⟨61, [.ptr 1000 0], [(TMachine.ob_00000000011101 o0_v)]⟩ ⟨.tup [], [(TMachine.ob_00000000011101 z0)]⟩ := by
 refine kMt hmix diwanref11_machine_all_2.O Try.f61 bd61 3 ?_
 unfold diwanref11_machine_all_2 at h
 refine kRs 3 [Tm 2 (iv 1)] [] .n ?_
 refine kBk 0 ?_
 obtain ⟨o10, ho10, h⟩ := bd_inv h
 refine kUs (diwanref11_machine_all_2.lp2_ok fu _ 1 o0_v _ ho10) ?_
 intro e_ τ_ hp_
 obtain ⟨y10_0, rfl⟩ : ∃ y, y = o10 := ⟨_, rfl⟩
 obtain ⟨rfl, rfl⟩ := hp_
 have h_ := some_inj h
 subst h_
 exact kFn
def bd63 : Code := (Try.f63.body).getD .skip
def diwanref11_machine_lead.O : Nat → Nat := fun t => bif ([2, 47, 66, 69] : List Nat).any (Nat.beq t) then 1 else 0
def diwanref11_machine_lead.lp3 (fu : Nat) : Nat → Int → TMachine → Option TMachine
  | 0, _, _ => none
  | n_ + 1, l3_0, l3_1 =>
  br (decide (l3_0 < l3_1.r.Nodes))
   (ix l3_1.r.Next l3_0 fun x6_1 =>
   ix l3_1.r.Match l3_0 fun x6_4 =>
   diwanref11_machine_lead.lp3 fu n_ (w64 (l3_0 + 1)) (TMachine.mk (TRaft.mk l3_1.r.Me l3_1.r.Nodes l3_1.r.Wait l3_1.r.Term l3_1.r.Vote l3_1.r.Log l3_1.r.Commit l3_1.r.Role l3_1.r.Leader l3_1.r.Votes (l3_1.r.Next.set l3_0.toNat (w64 ((l3_1.r.Log.length : Int) + 1))) (l3_1.r.Match.set l3_0.toNat 0) l3_1.r.Clock) l3_1.out))
   (some l3_1)
def diwanref11_machine_lead.lp3_post (r_ : TMachine) : Wy → St → Prop := fun e τ => match r_ with
  | y0 => e = .exit 0 ∧ τ = ofL [Tm 0 (.ptr 1000 0), Ob 1000 (TMachine.ob_00000100011101 y0)]
theorem diwanref11_machine_lead.lp3_ok (fu : Nat) : ∀ (n_ : Nat) (l3_0 : Int) (l3_1 : TMachine) (r_ : TMachine), diwanref11_machine_lead.lp3 fu n_ l3_0 l3_1 = some r_ → WK Try.prog diwanref11_machine_lead.O (Ck Try.prog) (cB (cR (cL (cR bd63)))) [] (ofL [Tm 0 (.ptr 1000 0), Tm 2 (iv l3_0), Ob 1000 (TMachine.ob_00000100011101 l3_1)]) (diwanref11_machine_lead.lp3_post r_) := by
 intro n_
 induction n_ with
 | zero => intro l3_0 l3_1 r_ h; exact no_none h
 | succ n_ ih =>
  intro l3_0 l3_1 r_ h
  refine kLp ?_
  refine kSq ?_
  refine kRs 7 [Tm 26 (bv (decide (l3_0 < l3_1.r.Nodes)))] [] .n ?_
  rcases br_inv h with ⟨b5_0, h⟩ | ⟨b5_0, h⟩
  ·refine kCt b5_0 ?_
   refine kSk ?_
   refine kCd (cR (cB (cB (cR (cL (cR bd63)))))) [.lp (cB (cR (cL (cR bd63))))] ?_
   refine kSq ?_
   refine kBk 1 ?_
   obtain ⟨x6_1, a6_2, e6_3, h⟩ := ix_inv h
   obtain ⟨x6_4, a6_5, e6_6, h⟩ := ix_inv h
   refine kRc 6 [Ob 1000 (TMachine.ob_00000100011101 (TMachine.mk (TRaft.mk l3_1.r.Me l3_1.r.Nodes l3_1.r.Wait l3_1.r.Term l3_1.r.Vote l3_1.r.Log l3_1.r.Commit l3_1.r.Role l3_1.r.Leader l3_1.r.Votes (l3_1.r.Next.set l3_0.toNat (w64 ((l3_1.r.Log.length : Int) + 1))) (l3_1.r.Match.set l3_0.toNat 0) l3_1.r.Clock) l3_1.out))] [.s (.t 46) [iv (l3_1.r.Log.length : Int)], .c (e_i64 x6_1), .s (.o 1000) (TMachine.ob_00000100011101 (TMachine.mk (TRaft.mk l3_1.r.Me l3_1.r.Nodes l3_1.r.Wait l3_1.r.Term l3_1.r.Vote l3_1.r.Log l3_1.r.Commit l3_1.r.Role l3_1.r.Leader l3_1.r.Votes (l3_1.r.Next.set l3_0.toNat (w64 ((l3_1.r.Log.length : Int) + 1))) l3_1.r.Match l3_1.r.Clock) l3_1.out)), .c (e_i64 x6_4), .s (.o 1000) (TMachine.ob_00000100011101 (TMachine.mk (TRaft.mk l3_1.r.Me l3_1.r.Nodes l3_1.r.Wait l3_1.r.Term l3_1.r.Vote l3_1.r.Log l3_1.r.Commit l3_1.r.Role l3_1.r.Leader l3_1.r.Votes (l3_1.r.Next.set l3_0.toNat (w64 ((l3_1.r.Log.length : Int) + 1))) (l3_1.r.Match.set l3_0.toNat 0) l3_1.r.Clock) l3_1.out))] (.c (c_len (e := TEntry.en) (l := l3_1.r.Log)) (.c (c_ix (e := e_i64) a6_2 e6_3) (.c (c_el (e := e_i64) e6_3) (.c (congrArg (fun d : DV => (TMachine.ob_00000100011101 (TMachine.mk (TRaft.mk l3_1.r.Me l3_1.r.Nodes l3_1.r.Wait l3_1.r.Term l3_1.r.Vote l3_1.r.Log l3_1.r.Commit l3_1.r.Role l3_1.r.Leader l3_1.r.Votes (l3_1.r.Next.set l3_0.toNat (w64 ((l3_1.r.Log.length : Int) + 1))) l3_1.r.Match l3_1.r.Clock) l3_1.out)).set 10 (AV.data d)) (c_set (e := e_i64) (s := 1) (nl := none) (l := l3_1.r.Next) (i := l3_0.toNat) (x := (w64 ((l3_1.r.Log.length : Int) + 1))))) (.c (c_ix (e := e_i64) a6_5 e6_6) (.c (c_el (e := e_i64) e6_6) (.c (congrArg (fun d : DV => (TMachine.ob_00000100011101 (TMachine.mk (TRaft.mk l3_1.r.Me l3_1.r.Nodes l3_1.r.Wait l3_1.r.Term l3_1.r.Vote l3_1.r.Log l3_1.r.Commit l3_1.r.Role l3_1.r.Leader l3_1.r.Votes (l3_1.r.Next.set l3_0.toNat (w64 ((l3_1.r.Log.length : Int) + 1))) (l3_1.r.Match.set l3_0.toNat 0) l3_1.r.Clock) l3_1.out)).set 11 (AV.data d)) (c_set (e := e_i64) (s := 1) (nl := none) (l := l3_1.r.Match) (i := l3_0.toNat) (x := 0))) (.c rT .n)))))))) (cR (cR (cB (cB (cR (cL (cR bd63))))))) [.lp (cB (cR (cL (cR bd63))))] ?_
   refine kRc 3 [Tm 2 (iv (w64 (l3_0 + 1)))] [] .n (cB (cR (cL (cR bd63)))) [] ?_
   exact kWk (ih (w64 (l3_0 + 1)) (TMachine.mk (TRaft.mk l3_1.r.Me l3_1.r.Nodes l3_1.r.Wait l3_1.r.Term l3_1.r.Vote l3_1.r.Log l3_1.r.Commit l3_1.r.Role l3_1.r.Leader l3_1.r.Votes (l3_1.r.Next.set l3_0.toNat (w64 ((l3_1.r.Log.length : Int) + 1))) (l3_1.r.Match.set l3_0.toNat 0) l3_1.r.Clock) l3_1.out) _ h)
  ·refine kCe b5_0 ?_
   cases some_inj h
   refine kWo ?_
   refine kXt 0 ?_
   exact kOut
def diwanref11_machine_lead (fu : Nat) (o0_v : TMachine) : Option TMachine :=
 bd (diwanref11_machine_lead.lp3 fu fu 0 (TMachine.mk (TRaft.mk o0_v.r.Me o0_v.r.Nodes o0_v.r.Wait o0_v.r.Term o0_v.r.Vote o0_v.r.Log o0_v.r.Commit 2 o0_v.r.Me o0_v.r.Votes o0_v.r.Next o0_v.r.Match 0) o0_v.out)) fun y8_0 =>
 ix y8_0.r.Match (w64 (y8_0.r.Me - 1)) fun x9_1 =>
 bd (diwanref11_machine_propose fu (TEntry.mk 0 true (TTxn.mk 0 0 [] [])) (TMachine.mk (TRaft.mk y8_0.r.Me y8_0.r.Nodes y8_0.r.Wait y8_0.r.Term y8_0.r.Vote y8_0.r.Log y8_0.r.Commit y8_0.r.Role y8_0.r.Leader y8_0.r.Votes y8_0.r.Next (y8_0.r.Match.set (w64 (y8_0.r.Me - 1)).toNat (y8_0.r.Log.length : Int)) y8_0.r.Clock) y8_0.out)) fun (r10_1, r10_2) =>
 br (!r10_1)
  (bd (diwanref11_machine_all_2 fu r10_2) fun r12_1 =>
  some r12_1)
  (some r10_2)
theorem diwanref11_machine_lead.meets (fu : Nat) (o0_v : TMachine) (z0 : TMachine) (h : diwanref11_machine_lead fu o0_v = some z0) : Meets Try.prog ⟨63, [.ptr 1000 0], [(TMachine.ob_00000100011101 o0_v)]⟩ ⟨.tup [], [(TMachine.ob_00000000011101 z0)]⟩ := by
 refine kMt hmix diwanref11_machine_lead.O Try.f63 bd63 3 ?_
 unfold diwanref11_machine_lead at h
 refine kRs 1 [Ob 1000 (TMachine.ob_00000100011101 (TMachine.mk (TRaft.mk o0_v.r.Me o0_v.r.Nodes o0_v.r.Wait o0_v.r.Term o0_v.r.Vote o0_v.r.Log o0_v.r.Commit 2 o0_v.r.Me o0_v.r.Votes o0_v.r.Next o0_v.r.Match 0) o0_v.out))] [] .n ?_
 refine kSq ?_
 refine kRs 3 [Tm 2 (iv 0)] [] .n ?_
 refine kBk 0 ?_
 obtain ⟨o8, ho8, h⟩ := bd_inv h
 refine kUs (diwanref11_machine_lead.lp3_ok fu _ 0 (TMachine.mk (TRaft.mk o0_v.r.Me o0_v.r.Nodes o0_v.r.Wait o0_v.r.Term o0_v.r.Vote o0_v.r.Log o0_v.r.Commit 2 o0_v.r.Me o0_v.r.Votes o0_v.r.Next o0_v.r.Match 0) o0_v.out) _ ho8) ?_
 intro e_ τ_ hp_
 obtain ⟨y8_0, rfl⟩ : ∃ y, y = o8 := ⟨_, rfl⟩
 obtain ⟨rfl, rfl⟩ := hp_
 refine kCd (cR (cR bd63)) [] ?_
 obtain ⟨x9_1, a9_2, e9_3, h⟩ := ix_inv h
 refine kRs 1 [Ob 1000 (TMachine.ob_00000100011101 (TMachine.mk (TRaft.mk y8_0.r.Me y8_0.r.Nodes y8_0.r.Wait y8_0.r.Term y8_0.r.Vote y8_0.r.Log y8_0.r.Commit y8_0.r.Role y8_0.r.Leader y8_0.r.Votes y8_0.r.Next (y8_0.r.Match.set (w64 (y8_0.r.Me - 1)).toNat (y8_0.r.Log.length : Int)) y8_0.r.Clock) y8_0.out))] [.s (.t 66) [iv (y8_0.r.Log.length : Int)], .c (e_i64 x9_1), .s (.o 1000) (TMachine.ob_00000100011101 (TMachine.mk (TRaft.mk y8_0.r.Me y8_0.r.Nodes y8_0.r.Wait y8_0.r.Term y8_0.r.Vote y8_0.r.Log y8_0.r.Commit y8_0.r.Role y8_0.r.Leader y8_0.r.Votes y8_0.r.Next (y8_0.r.Match.set (w64 (y8_0.r.Me - 1)).toNat (y8_0.r.Log.length : Int)) y8_0.r.Clock) y8_0.out))] (.c (c_len (e := TEntry.en) (l := y8_0.r.Log)) (.c (c_ix (e := e_i64) a9_2 e9_3) (.c (c_el (e := e_i64) e9_3) (.c (congrArg (fun d : DV => (TMachine.ob_00000100011101 (TMachine.mk (TRaft.mk y8_0.r.Me y8_0.r.Nodes y8_0.r.Wait y8_0.r.Term y8_0.r.Vote y8_0.r.Log y8_0.r.Commit y8_0.r.Role y8_0.r.Leader y8_0.r.Votes y8_0.r.Next (y8_0.r.Match.set (w64 (y8_0.r.Me - 1)).toNat (y8_0.r.Log.length : Int)) y8_0.r.Clock) y8_0.out)).set 11 (AV.data d)) (c_set (e := e_i64) (s := 1) (nl := none) (l := y8_0.r.Match) (i := (w64 (y8_0.r.Me - 1)).toNat) (x := (y8_0.r.Log.length : Int)))) (.c rT .n))))) ?_
 obtain ⟨⟨r10_1, r10_2⟩, h10_3, h⟩ := bd_inv h
 refine kRs 2 [Tm 71 (bv (!r10_1)), Ob 1000 (TMachine.ob_00000000011101 r10_2)] [.a ⟨bv r10_1, [(TMachine.ob_00000000011101 r10_2)]⟩] (.c (Asks.of (C := Meets Try.prog) (diwanref11_machine_propose.meets fu (TEntry.mk 0 true (TTxn.mk 0 0 [] [])) (TMachine.mk (TRaft.mk y8_0.r.Me y8_0.r.Nodes y8_0.r.Wait y8_0.r.Term y8_0.r.Vote y8_0.r.Log y8_0.r.Commit y8_0.r.Role y8_0.r.Leader y8_0.r.Votes y8_0.r.Next (y8_0.r.Match.set (w64 (y8_0.r.Me - 1)).toNat (y8_0.r.Log.length : Int)) y8_0.r.Clock) y8_0.out) _ _ h10_3)) .n) ?_
 rcases br_inv h with ⟨b11_0, h⟩ | ⟨b11_0, h⟩
 ·refine kCt b11_0 ?_
  obtain ⟨r12_1, h12_2, h⟩ := bd_inv h
  have h_ := some_inj h
  subst h_
  exact kRf [.a ⟨.tup [], [(TMachine.ob_00000000011101 r12_1)]⟩] (.c (Asks.of (C := Meets Try.prog) (diwanref11_machine_all_2.meets fu r10_2 _ h12_2)) .n)
 ·refine kCe b11_0 ?_
  refine kSk ?_
  have h_ := some_inj h
  subst h_
  exact kFn
def bd58 : Code := (Try.f58.body).getD .skip
def diwanref11_machine_count.O : Nat → Nat := fun t => bif ([] : List Nat).any (Nat.beq t) then 1 else 0
def diwanref11_machine_count (fu : Nat) (o0_v : TMachine) : Option TMachine :=
 bd (diwanref1_Many fu o0_v.r.Votes) fun r1_1 =>
 bd (diwanref1_Majority o0_v.r.Nodes) fun r1_3 =>
 br (decide (r1_1 ≥ r1_3))
  (bd (diwanref11_machine_lead fu o0_v) fun r3_1 =>
  some r3_1)
  (some o0_v)
theorem diwanref11_machine_count.meets (fu : Nat) (o0_v : TMachine) (z0 : TMachine) (h : diwanref11_machine_count fu o0_v = some z0) : Meets Try.prog ⟨58, [.ptr 1000 0], [(TMachine.ob_00000100011101 o0_v)]⟩ ⟨.tup [], [(TMachine.ob_00000000011101 z0)]⟩ := by
 refine kMt hmix diwanref11_machine_count.O Try.f58 bd58 3 ?_
 unfold diwanref11_machine_count at h
 obtain ⟨r1_1, h1_2, h⟩ := bd_inv h
 obtain ⟨r1_3, h1_4, h⟩ := bd_inv h
 refine kRs 3 [Tm 14 (bv (decide (r1_1 ≥ r1_3)))] [.a ⟨iv r1_1, []⟩, .a ⟨iv r1_3, []⟩] (.c (Asks.of (C := Meets Try.prog) (diwanref1_Many.meets fu o0_v.r.Votes _ h1_2)) (.c (Asks.of (C := Meets Try.prog) (diwanref1_Majority.meets o0_v.r.Nodes _ h1_4)) (.c rT .n))) ?_
 rcases br_inv h with ⟨b2_0, h⟩ | ⟨b2_0, h⟩
 ·refine kCt b2_0 ?_
  obtain ⟨r3_1, h3_2, h⟩ := bd_inv h
  have h_ := some_inj h
  subst h_
  exact kRf [.a ⟨.tup [], [(TMachine.ob_00000000011101 r3_1)]⟩] (.c (Asks.of (C := Meets Try.prog) (diwanref11_machine_lead.meets fu o0_v _ h3_2)) .n)
 ·refine kCe b2_0 ?_
  refine kSo 1000 5 0 [Ob 1000 (TMachine.ob_00000000011101 o0_v)] ?_
  refine kSk ?_
  have h_ := some_inj h
  subst h_
  exact kFn
def bd86 : Code := (Try.f86.body).getD .skip
def diwanref1_Has.O : Nat → Nat := fun t => bif ([6] : List Nat).any (Nat.beq t) then 1 else 0
def diwanref1_Has (l : List TEntry) (i : Int) (term : Int) : Option Bool :=
 br (i == 0)
  (some true)
  (br (decide (i ≥ 1))
   (br (decide (i ≤ (l.length : Int)))
    (ix l (w64 (i - 1)) fun x2_4 =>
    some (x2_4.Term == term))
    (some false))
   (some false))
theorem diwanref1_Has.meets (l : List TEntry) (i : Int) (term : Int) (z0 : Bool) (h : diwanref1_Has l i term = some z0) : Meets Try.prog ⟨86, [sS 6 TEntry.en l, iv i, iv term], []⟩ ⟨bv z0, []⟩ := by
 refine kMt hmix diwanref1_Has.O Try.f86 bd86 7 ?_
 unfold diwanref1_Has at h
 refine kRs 7 [] [] .n ?_
 rcases br_inv h with ⟨b2_1, h⟩ | ⟨b2_1, h⟩
 ·refine kRs 0 [Tm 6 (bv true)] (rp 7 (.b true) []) (.r 7 b2_1 .n) ?_
  refine kRt ?_
  have h_ := some_inj h
  subst h_
  exact kFr
 ·rcases br_inv h with ⟨b2_2, h⟩ | ⟨b2_2, h⟩
  ·rcases br_inv h with ⟨b2_3, h⟩ | ⟨b2_3, h⟩
   ·obtain ⟨x2_4, a2_5, e2_6, h⟩ := ix_inv h
    refine kRs 0 [Tm 6 (bv (x2_4.Term == term))] (.b false :: (.b false :: (.b false :: (.b true :: (.b true :: (.b true :: (.s (.t 15) [iv (l.length : Int)] :: (.b true :: (.b false :: (.b true :: (.b false :: (rp 4 (.b true) (.c (TEntry.en x2_4) :: (rp 4 (.b true) [.b false, .b true, .b false])))))))))))))) (.r 3 b2_1 (.r 3 b2_2 (.c (c_len (e := TEntry.en) (l := l)) (.c b2_2 (.c b2_1 (.c b2_2 (.c b2_1 (.r 4 b2_3 (.c (c_ix (e := TEntry.en) a2_5 e2_6) (.c (c_el (e := TEntry.en) e2_6) (.r 4 b2_3 (.c b2_1 (.c b2_3 (.c b2_1 .n)))))))))))))) ?_
    refine kRt ?_
    have h_ := some_inj h
    subst h_
    exact kFr
   ·refine kRs 0 [Tm 6 (bv false)] (.b false :: (.b false :: (.b false :: (.b true :: (.b true :: (.b true :: (.s (.t 15) [iv (l.length : Int)] :: (.b true :: (.b false :: (.b true :: (rp 12 (.b false) []))))))))))) (.r 3 b2_1 (.r 3 b2_2 (.c (c_len (e := TEntry.en) (l := l)) (.c b2_2 (.c b2_1 (.c b2_2 (.c b2_1 (.r 8 b2_3 (.c b2_1 (.c b2_3 (.c b2_1 .n))))))))))) ?_
    refine kRt ?_
    have h_ := some_inj h
    subst h_
    exact kFr
  ·refine kRs 0 [Tm 6 (bv false)] (rp 21 (.b false) []) (.r 3 b2_1 (.r 4 b2_2 (.c b2_1 (.c b2_2 (.c b2_1 (.r 8 rF (.c b2_1 (.c rF (.c b2_1 .n))))))))) ?_
   refine kRt ?_
   have h_ := some_inj h
   subst h_
   exact kFr
end Go.Proofs.Ythpokjkbcdfhiaa.Told
