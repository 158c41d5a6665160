/- Functions of the program told as Lean functions, with the walks of their code in the machine by value. -/
import Derived.Test.YtbiokgkfjggbiaaProg
import Derived.Test.YtbiokgkfjggbiaaVam2
import Derived.Test.YtbiokgkfjggbiaaEpWalk
noncomputable section
namespace Go.Proofs.Ytbiokgkfjggbiaa.Told
open Go Go.Proofs Go.Proofs.Ytbiokgkfjggbiaa Go.Proofs.Ytbiokgkfjggbiaa.Vam
set_option linter.unusedVariables false
set_option maxRecDepth 100000
theorem hmix : Try.prog.follows .mixedOrders = true := by kernel_rfl
structure TRead where
  Key : ByteArray
  Version : Int
  Val : ByteArray
  There : Bool
def TRead.en (x : TRead) : List DV := [.val (.string x.Key), .val (.int .i64 x.Version), .val (.string x.Val), .val (.bool x.There)]
structure TWrite where
  Key : ByteArray
  Val : ByteArray
  Gone : Bool
def TWrite.en (x : TWrite) : List DV := [.val (.string x.Key), .val (.string x.Val), .val (.bool x.Gone)]
structure TTxn where
  Session : Int
  Seq : Int
  Reads : (List TRead)
  Writes : (List TWrite)
def TTxn.en (x : TTxn) : List DV := [.val (.int .i64 x.Session), .val (.int .i64 x.Seq), .slc false none 4 (List.map TRead.en x.Reads), .slc false none 3 (List.map TWrite.en x.Writes)]
structure TEntry where
  Term : Int
  Seal : Bool
  T : TTxn
def TEntry.en (x : TEntry) : List DV := [.val (.int .i64 x.Term), .val (.bool x.Seal), .val (.int .i64 x.T.Session), .val (.int .i64 x.T.Seq), .slc false none 4 (List.map TRead.en x.T.Reads), .slc false none 3 (List.map TWrite.en x.T.Writes)]
structure TPicks where
  l : (List Int)
  n : Int
def TPicks.en (x : TPicks) : List DV := [.slc false none 1 (List.map e_u8 x.l), .val (.int .i64 x.n)]
def TTxn.ag_0011 (x : TTxn) : DV := .agg [.val (.int .i64 x.Session), .val (.int .i64 x.Seq), .slc true none 4 (List.map TRead.en x.Reads), .slc true none 3 (List.map TWrite.en x.Writes)]
def TTxn.ob_0011 (x : TTxn) : List AV := [.data (.val (.int .i64 x.Session)), .data (.val (.int .i64 x.Seq)), .data (.slc true none 4 (List.map TRead.en x.Reads)), .data (.slc true none 3 (List.map TWrite.en x.Writes))]
def TEntry.ob_000011 (x : TEntry) : List AV := [.data (.val (.int .i64 x.Term)), .data (.val (.bool x.Seal)), .data (.val (.int .i64 x.T.Session)), .data (.val (.int .i64 x.T.Seq)), .data (.slc true none 4 (List.map TRead.en x.T.Reads)), .data (.slc true none 3 (List.map TWrite.en x.T.Writes))]
def TRead.ob (x : TRead) : List AV := [.data (.val (.string x.Key)), .data (.val (.int .i64 x.Version)), .data (.val (.string x.Val)), .data (.val (.bool x.There))]
def TWrite.ob (x : TWrite) : List AV := [.data (.val (.string x.Key)), .data (.val (.string x.Val)), .data (.val (.bool x.Gone))]
/-- diwan/epoch.Cut, in memory by hand. -/
def epoch_Cut (entries : List TEntry) : Option (List (List Int)) :=
 gd (decide (entries.length ≤ 100000)) (some (Ep.runR 0 (entries.map fun x => x.Seal) [[]]))
theorem epoch_Cut.meets (entries : List TEntry) (z0 : List (List Int)) (h : epoch_Cut entries = some z0) : Meets Try.prog ⟨10, [sS 6 TEntry.en entries], []⟩ ⟨sS 1 (e_l 1 e_i64) z0, []⟩ := by
 obtain ⟨hc, h⟩ := gd_inv h
 cases some_inj h
 refine cut_meets Try.func10 (by kernel_rfl) (by kernel_rfl) Ep.cut_walk (es := List.map TEntry.en entries) (xs := entries.map fun x => x.Seal) (by simp) (fun i ch hi => ?_) (fun e => ?_) (by simpa using of_decide_eq_true hc)
 · rw [List.getElem?_map] at hi
   cases hx : entries[i]? with
   | none => rw [hx] at hi; cases hi
   | some x =>
    rw [hx] at hi
    cases hi
    refine ⟨x.Term, x.T.Session, x.T.Seq, 4, List.map TRead.en x.T.Reads, 3, List.map TWrite.en x.T.Writes, ?_⟩
    rw [List.getD_eq_getElem?_getD, List.getElem?_map, hx]
    rfl
 · have := Ep.runR_pos (entries.map fun x => x.Seal)
   rw [e] at this
   cases this
def bd12 : Code := (Try.f12.body).getD .skip
def epoch_Sealed.O : Nat → Nat := fun t => bif ([2] : List Nat).any (Nat.beq t) then 1 else 0
def epoch_Sealed (l : List TEntry) : Option Int :=
 bd (epoch_Cut l) fun r2_1 =>
 some (w64 ((r2_1.length : Int) - 1))
theorem epoch_Sealed.meets (l : List TEntry) (z0 : Int) (h : epoch_Sealed l = some z0) : Meets Try.prog ⟨12, [sS 6 TEntry.en l], []⟩ ⟨iv z0, []⟩ := by
 refine kMt hmix epoch_Sealed.O Try.f12 bd12 1 ?_
 unfold epoch_Sealed at h
 refine kRs 1 [] [] .n ?_
 obtain ⟨r2_1, h2_2, h⟩ := bd_inv h
 refine kRs 0 [Tm 2 (iv (w64 ((r2_1.length : Int) - 1)))] [.a ⟨sS 1 (e_l 1 e_i64) r2_1, []⟩, .s (.t 5) [iv (r2_1.length : Int)]] (.c (Asks.of (C := Meets Try.prog) (epoch_Cut.meets l _ h2_2)) (.c (c_len (e := (e_l 1 e_i64)) (l := r2_1)) .n)) ?_
 refine kRt ?_
 have h_ := some_inj h
 subst h_
 exact kFr
def bd7 : Code := (Try.f7.body).getD .skip
def diwanlaw13_begun.O : Nat → Nat := fun t => bif ([0, 1, 2, 3, 4, 5, 6] : List Nat).any (Nat.beq t) then 1 else 0
def diwanlaw13_begun : Option Bool :=
 bd (epoch_Cut ([(TEntry.mk 1 true (TTxn.mk 0 0 [] [])), (TEntry.mk 1 false (TTxn.mk 0 0 [] [])), (TEntry.mk 1 true (TTxn.mk 0 0 [] []))] : List TEntry)) fun r3_1 =>
 br ((r3_1.length : Int) == 3)
  (ix r3_1 0 fun x4_2 =>
  br ((x4_2.length : Int) == 0)
   (ix r3_1 1 fun x4_6 =>
   br ((x4_6.length : Int) == 1)
    (ix r3_1 1 fun x4_10 =>
    ix x4_10 0 fun x4_13 =>
    br (x4_13 == 2)
     (ix r3_1 2 fun x4_17 =>
     br ((x4_17.length : Int) == 0)
      (bd (epoch_Sealed ([(TEntry.mk 1 true (TTxn.mk 0 0 [] [])), (TEntry.mk 1 false (TTxn.mk 0 0 [] [])), (TEntry.mk 1 true (TTxn.mk 0 0 [] []))] : List TEntry)) fun r4_21 =>
      br (r4_21 == 2)
       (bd (epoch_Cut []) fun r4_24 =>
       some ((r4_24.length : Int) == 1))
       (some false))
      (some false))
     (some false))
    (some false))
   (some false))
  (some false)
theorem diwanlaw13_begun.meets (z0 : Bool) (h : diwanlaw13_begun = some z0) : Meets Try.prog ⟨7, [], []⟩ ⟨bv z0, []⟩ := by
 refine kMt hmix diwanlaw13_begun.O Try.f7 bd7 0 ?_
 unfold diwanlaw13_begun at h
 refine kRs 0 [] [] .n ?_
 refine kRs 0 [Tm 1 (.data (.slc true (some false) 6 (List.map TEntry.en ([(TEntry.mk 1 true (TTxn.mk 0 0 [] [])), (TEntry.mk 1 false (TTxn.mk 0 0 [] [])), (TEntry.mk 1 true (TTxn.mk 0 0 [] []))] : List TEntry))))] [] .n ?_
 obtain ⟨r3_1, h3_2, h⟩ := bd_inv h
 refine kRs 0 [Tm 1 (.data (.slc false (some false) 6 (List.map TEntry.en ([(TEntry.mk 1 true (TTxn.mk 0 0 [] [])), (TEntry.mk 1 false (TTxn.mk 0 0 [] [])), (TEntry.mk 1 true (TTxn.mk 0 0 [] []))] : List TEntry)))), Tm 2 (sS 1 (e_l 1 e_i64) r3_1)] [.a ⟨sS 1 (e_l 1 e_i64) r3_1, []⟩] (.c (Asks.fg (args1 := []) (args2 := []) (nl := some false) (sz := 6) (es := List.map TEntry.en ([(TEntry.mk 1 true (TTxn.mk 0 0 [] [])), (TEntry.mk 1 false (TTxn.mk 0 0 [] [])), (TEntry.mk 1 true (TTxn.mk 0 0 [] []))] : List TEntry)) (Asks.of (C := Meets Try.prog) (epoch_Cut.meets ([(TEntry.mk 1 true (TTxn.mk 0 0 [] [])), (TEntry.mk 1 false (TTxn.mk 0 0 [] [])), (TEntry.mk 1 true (TTxn.mk 0 0 [] []))] : List TEntry) _ h3_2))) .n) ?_
 rcases br_inv h with ⟨b4_1, h⟩ | ⟨b4_1, h⟩
 ·obtain ⟨x4_2, a4_3, e4_4, h⟩ := ix_inv h
  rcases br_inv h with ⟨b4_5, h⟩ | ⟨b4_5, h⟩
  ·obtain ⟨x4_6, a4_7, e4_8, h⟩ := ix_inv h
   rcases br_inv h with ⟨b4_9, h⟩ | ⟨b4_9, h⟩
   ·obtain ⟨x4_10, a4_11, e4_12, h⟩ := ix_inv h
    obtain ⟨x4_13, a4_14, e4_15, h⟩ := ix_inv h
    rcases br_inv h with ⟨b4_16, h⟩ | ⟨b4_16, h⟩
    ·obtain ⟨x4_17, a4_18, e4_19, h⟩ := ix_inv h
     rcases br_inv h with ⟨b4_20, h⟩ | ⟨b4_20, h⟩
     ·obtain ⟨r4_21, h4_22, h⟩ := bd_inv h
      rcases br_inv h with ⟨b4_23, h⟩ | ⟨b4_23, h⟩
      ·obtain ⟨r4_24, h4_25, h⟩ := bd_inv h
       refine kRs 0 [Tm 0 (bv ((r4_24.length : Int) == 1))] (.s (.t 10) [iv (r3_1.length : Int)] :: (.b true :: (.b true :: (.c ((e_l 1 e_i64) x4_2) :: (.b true :: (.b true :: (.s (.t 16) [iv (x4_2.length : Int)] :: (rp 4 (.b true) (.c ((e_l 1 e_i64) x4_6) :: (.b true :: (.b true :: (.s (.t 23) [iv (x4_6.length : Int)] :: (rp 4 (.b true) (.c ((e_l 1 e_i64) x4_10) :: (.b true :: (.b true :: (.c (e_i64 x4_13) :: (rp 5 (.b true) (.c ((e_l 1 e_i64) x4_17) :: (.b true :: (.b true :: (.s (.t 38) [iv (x4_17.length : Int)] :: (rp 4 (.b true) [.a ⟨iv r4_21, []⟩, .b true, .b true, .b true, .a ⟨sS 1 (e_l 1 e_i64) r4_24, []⟩, .b true, .s (.t 48) [iv (r4_24.length : Int)], .b true, .b true]))))))))))))))))))))))) (.c (c_len (e := (e_l 1 e_i64)) (l := r3_1)) (.r 2 b4_1 (.c (c_ix (e := (e_l 1 e_i64)) a4_3 e4_4) (.c (c_el (e := (e_l 1 e_i64)) e4_4) (.r 2 b4_1 (.c (c_len (e := e_i64) (l := x4_2)) (.r 2 b4_1 (.r 2 b4_5 (.c (c_ix (e := (e_l 1 e_i64)) a4_7 e4_8) (.c (c_el (e := (e_l 1 e_i64)) e4_8) (.r 2 b4_5 (.c (c_len (e := e_i64) (l := x4_6)) (.r 2 b4_5 (.r 2 b4_9 (.c (c_ix (e := (e_l 1 e_i64)) a4_11 e4_12) (.c (c_el (e := (e_l 1 e_i64)) e4_12) (.r 2 b4_9 (.c (c_ix (e := e_i64) a4_14 e4_15) (.c (c_el (e := e_i64) e4_15) (.r 3 b4_9 (.r 2 b4_16 (.c (c_ix (e := (e_l 1 e_i64)) a4_18 e4_19) (.c (c_el (e := (e_l 1 e_i64)) e4_19) (.r 2 b4_16 (.c (c_len (e := e_i64) (l := x4_17)) (.r 2 b4_16 (.r 2 b4_20 (.c (Asks.fg (args1 := []) (args2 := []) (nl := some false) (sz := 6) (es := List.map TEntry.en ([(TEntry.mk 1 true (TTxn.mk 0 0 [] [])), (TEntry.mk 1 false (TTxn.mk 0 0 [] [])), (TEntry.mk 1 true (TTxn.mk 0 0 [] []))] : List TEntry)) (Asks.of (C := Meets Try.prog) (epoch_Sealed.meets ([(TEntry.mk 1 true (TTxn.mk 0 0 [] [])), (TEntry.mk 1 false (TTxn.mk 0 0 [] [])), (TEntry.mk 1 true (TTxn.mk 0 0 [] []))] : List TEntry) _ h4_22))) (.r 2 b4_20 (.c b4_23 (.c (Asks.fg (args1 := []) (args2 := []) (nl := some true) (sz := 6) (es := List.map TEntry.en []) (Asks.of (C := Meets Try.prog) (epoch_Cut.meets [] _ h4_25))) (.c b4_23 (.c (c_len (e := (e_l 1 e_i64)) (l := r4_24)) (.r 2 b4_23 .n)))))))))))))))))))))))))))))))))) ?_
       refine kRt ?_
       have h_ := some_inj h
       subst h_
       exact kFr
      ·refine kRs 0 [Tm 0 (bv false)] (.s (.t 10) [iv (r3_1.length : Int)] :: (.b true :: (.b true :: (.c ((e_l 1 e_i64) x4_2) :: (.b true :: (.b true :: (.s (.t 16) [iv (x4_2.length : Int)] :: (rp 4 (.b true) (.c ((e_l 1 e_i64) x4_6) :: (.b true :: (.b true :: (.s (.t 23) [iv (x4_6.length : Int)] :: (rp 4 (.b true) (.c ((e_l 1 e_i64) x4_10) :: (.b true :: (.b true :: (.c (e_i64 x4_13) :: (rp 5 (.b true) (.c ((e_l 1 e_i64) x4_17) :: (.b true :: (.b true :: (.s (.t 38) [iv (x4_17.length : Int)] :: (rp 4 (.b true) (.a ⟨iv r4_21, []⟩ :: (.b true :: (.b true :: (rp 4 (.b false) []))))))))))))))))))))))))))) (.c (c_len (e := (e_l 1 e_i64)) (l := r3_1)) (.r 2 b4_1 (.c (c_ix (e := (e_l 1 e_i64)) a4_3 e4_4) (.c (c_el (e := (e_l 1 e_i64)) e4_4) (.r 2 b4_1 (.c (c_len (e := e_i64) (l := x4_2)) (.r 2 b4_1 (.r 2 b4_5 (.c (c_ix (e := (e_l 1 e_i64)) a4_7 e4_8) (.c (c_el (e := (e_l 1 e_i64)) e4_8) (.r 2 b4_5 (.c (c_len (e := e_i64) (l := x4_6)) (.r 2 b4_5 (.r 2 b4_9 (.c (c_ix (e := (e_l 1 e_i64)) a4_11 e4_12) (.c (c_el (e := (e_l 1 e_i64)) e4_12) (.r 2 b4_9 (.c (c_ix (e := e_i64) a4_14 e4_15) (.c (c_el (e := e_i64) e4_15) (.r 3 b4_9 (.r 2 b4_16 (.c (c_ix (e := (e_l 1 e_i64)) a4_18 e4_19) (.c (c_el (e := (e_l 1 e_i64)) e4_19) (.r 2 b4_16 (.c (c_len (e := e_i64) (l := x4_17)) (.r 2 b4_16 (.r 2 b4_20 (.c (Asks.fg (args1 := []) (args2 := []) (nl := some false) (sz := 6) (es := List.map TEntry.en ([(TEntry.mk 1 true (TTxn.mk 0 0 [] [])), (TEntry.mk 1 false (TTxn.mk 0 0 [] [])), (TEntry.mk 1 true (TTxn.mk 0 0 [] []))] : List TEntry)) (Asks.of (C := Meets Try.prog) (epoch_Sealed.meets ([(TEntry.mk 1 true (TTxn.mk 0 0 [] [])), (TEntry.mk 1 false (TTxn.mk 0 0 [] [])), (TEntry.mk 1 true (TTxn.mk 0 0 [] []))] : List TEntry) _ h4_22))) (.r 2 b4_20 (.r 4 b4_23 .n)))))))))))))))))))))))))))))) ?_
       refine kRt ?_
       have h_ := some_inj h
       subst h_
       exact kFr
     ·refine kRs 0 [Tm 0 (bv false)] (.s (.t 10) [iv (r3_1.length : Int)] :: (.b true :: (.b true :: (.c ((e_l 1 e_i64) x4_2) :: (.b true :: (.b true :: (.s (.t 16) [iv (x4_2.length : Int)] :: (rp 4 (.b true) (.c ((e_l 1 e_i64) x4_6) :: (.b true :: (.b true :: (.s (.t 23) [iv (x4_6.length : Int)] :: (rp 4 (.b true) (.c ((e_l 1 e_i64) x4_10) :: (.b true :: (.b true :: (.c (e_i64 x4_13) :: (rp 5 (.b true) (.c ((e_l 1 e_i64) x4_17) :: (.b true :: (.b true :: (.s (.t 38) [iv (x4_17.length : Int)] :: (.b true :: (.b true :: (rp 8 (.b false) []))))))))))))))))))))))))) (.c (c_len (e := (e_l 1 e_i64)) (l := r3_1)) (.r 2 b4_1 (.c (c_ix (e := (e_l 1 e_i64)) a4_3 e4_4) (.c (c_el (e := (e_l 1 e_i64)) e4_4) (.r 2 b4_1 (.c (c_len (e := e_i64) (l := x4_2)) (.r 2 b4_1 (.r 2 b4_5 (.c (c_ix (e := (e_l 1 e_i64)) a4_7 e4_8) (.c (c_el (e := (e_l 1 e_i64)) e4_8) (.r 2 b4_5 (.c (c_len (e := e_i64) (l := x4_6)) (.r 2 b4_5 (.r 2 b4_9 (.c (c_ix (e := (e_l 1 e_i64)) a4_11 e4_12) (.c (c_el (e := (e_l 1 e_i64)) e4_12) (.r 2 b4_9 (.c (c_ix (e := e_i64) a4_14 e4_15) (.c (c_el (e := e_i64) e4_15) (.r 3 b4_9 (.r 2 b4_16 (.c (c_ix (e := (e_l 1 e_i64)) a4_18 e4_19) (.c (c_el (e := (e_l 1 e_i64)) e4_19) (.r 2 b4_16 (.c (c_len (e := e_i64) (l := x4_17)) (.r 2 b4_16 (.r 4 b4_20 (.r 4 rF .n)))))))))))))))))))))))))))) ?_
      refine kRt ?_
      have h_ := some_inj h
      subst h_
      exact kFr
    ·refine kRs 0 [Tm 0 (bv false)] (.s (.t 10) [iv (r3_1.length : Int)] :: (.b true :: (.b true :: (.c ((e_l 1 e_i64) x4_2) :: (.b true :: (.b true :: (.s (.t 16) [iv (x4_2.length : Int)] :: (rp 4 (.b true) (.c ((e_l 1 e_i64) x4_6) :: (.b true :: (.b true :: (.s (.t 23) [iv (x4_6.length : Int)] :: (rp 4 (.b true) (.c ((e_l 1 e_i64) x4_10) :: (.b true :: (.b true :: (.c (e_i64 x4_13) :: (.b true :: (.b true :: (.b true :: (rp 14 (.b false) []))))))))))))))))))))) (.c (c_len (e := (e_l 1 e_i64)) (l := r3_1)) (.r 2 b4_1 (.c (c_ix (e := (e_l 1 e_i64)) a4_3 e4_4) (.c (c_el (e := (e_l 1 e_i64)) e4_4) (.r 2 b4_1 (.c (c_len (e := e_i64) (l := x4_2)) (.r 2 b4_1 (.r 2 b4_5 (.c (c_ix (e := (e_l 1 e_i64)) a4_7 e4_8) (.c (c_el (e := (e_l 1 e_i64)) e4_8) (.r 2 b4_5 (.c (c_len (e := e_i64) (l := x4_6)) (.r 2 b4_5 (.r 2 b4_9 (.c (c_ix (e := (e_l 1 e_i64)) a4_11 e4_12) (.c (c_el (e := (e_l 1 e_i64)) e4_12) (.r 2 b4_9 (.c (c_ix (e := e_i64) a4_14 e4_15) (.c (c_el (e := e_i64) e4_15) (.r 3 b4_9 (.r 6 b4_16 (.r 8 rF .n)))))))))))))))))))))) ?_
     refine kRt ?_
     have h_ := some_inj h
     subst h_
     exact kFr
   ·refine kRs 0 [Tm 0 (bv false)] (.s (.t 10) [iv (r3_1.length : Int)] :: (.b true :: (.b true :: (.c ((e_l 1 e_i64) x4_2) :: (.b true :: (.b true :: (.s (.t 16) [iv (x4_2.length : Int)] :: (rp 4 (.b true) (.c ((e_l 1 e_i64) x4_6) :: (.b true :: (.b true :: (.s (.t 23) [iv (x4_6.length : Int)] :: (.b true :: (.b true :: (rp 21 (.b false) []))))))))))))))) (.c (c_len (e := (e_l 1 e_i64)) (l := r3_1)) (.r 2 b4_1 (.c (c_ix (e := (e_l 1 e_i64)) a4_3 e4_4) (.c (c_el (e := (e_l 1 e_i64)) e4_4) (.r 2 b4_1 (.c (c_len (e := e_i64) (l := x4_2)) (.r 2 b4_1 (.r 2 b4_5 (.c (c_ix (e := (e_l 1 e_i64)) a4_7 e4_8) (.c (c_el (e := (e_l 1 e_i64)) e4_8) (.r 2 b4_5 (.c (c_len (e := e_i64) (l := x4_6)) (.r 2 b4_5 (.r 7 b4_9 (.r 14 rF .n))))))))))))))) ?_
    refine kRt ?_
    have h_ := some_inj h
    subst h_
    exact kFr
  ·refine kRs 0 [Tm 0 (bv false)] (.s (.t 10) [iv (r3_1.length : Int)] :: (.b true :: (.b true :: (.c ((e_l 1 e_i64) x4_2) :: (.b true :: (.b true :: (.s (.t 16) [iv (x4_2.length : Int)] :: (.b true :: (.b true :: (rp 27 (.b false) [])))))))))) (.c (c_len (e := (e_l 1 e_i64)) (l := r3_1)) (.r 2 b4_1 (.c (c_ix (e := (e_l 1 e_i64)) a4_3 e4_4) (.c (c_el (e := (e_l 1 e_i64)) e4_4) (.r 2 b4_1 (.c (c_len (e := e_i64) (l := x4_2)) (.r 2 b4_1 (.r 6 b4_5 (.r 21 rF .n))))))))) ?_
   refine kRt ?_
   have h_ := some_inj h
   subst h_
   exact kFr
 ·refine kRs 0 [Tm 0 (bv false)] (.s (.t 10) [iv (r3_1.length : Int)] :: (rp 33 (.b false) [])) (.c (c_len (e := (e_l 1 e_i64)) (l := r3_1)) (.r 6 b4_1 (.r 27 rF .n))) ?_
  refine kRt ?_
  have h_ := some_inj h
  subst h_
  exact kFr
def bd8 : Code := (Try.f8.body).getD .skip
def diwanplay_Made.O : Nat → Nat := fun t => bif ([2, 4, 5] : List Nat).any (Nat.beq t) then 1 else 0
def diwanplay_Made (l : List Int) : Option TPicks :=
 some (TPicks.mk l 0)
theorem diwanplay_Made.meets (l : List Int) (z0 : TPicks) (h : diwanplay_Made l = some z0) : Meets Try.prog ⟨8, [sS 1 e_u8 l], []⟩ ⟨.ptr 1000 0, [[sS 1 e_u8 z0.l, iv z0.n]]⟩ := by
 refine kMt hmix diwanplay_Made.O Try.f8 bd8 1 ?_
 unfold diwanplay_Made at h
 refine kRs 1 [] [] .n ?_
 refine kRs 0 [Tm 2 (.ptr 5 0), Ob 5 [sS 1 e_u8 l, iv 0]] [] .n ?_
 refine kRt ?_
 have h_ := some_inj h
 subst h_
 exact kFr
def bd14 : Code := (Try.f14.body).getD .skip
def diwanplay_Picks_Num.O : Nat → Nat := fun t => bif ([4, 19] : List Nat).any (Nat.beq t) then 1 else 0
def diwanplay_Picks_Num (m : Int) (o0_v : TPicks) : Option (Int × TPicks) :=
 br (decide (o0_v.n ≥ (o0_v.l.length : Int)))
  (some (0, o0_v))
  (ix o0_v.l (w64 ((w64 (o0_v.n + 1)) - 1)) fun x6_1 =>
  gd (!decide (m = 0)) <|
  some ((Int.tmod (w64 x6_1) m), (TPicks.mk o0_v.l (w64 (o0_v.n + 1)))))
theorem diwanplay_Picks_Num.meets (m : Int) (o0_v : TPicks) (z0 : Int) (z1 : TPicks) (h : diwanplay_Picks_Num m o0_v = some (z0, z1)) : Meets Try.prog ⟨14, [.ptr 1000 0, iv m], [[sS 1 e_u8 o0_v.l, iv o0_v.n]]⟩ ⟨iv z0, [[sS 1 e_u8 z1.l, iv z1.n]]⟩ := by
 refine kMt hmix diwanplay_Picks_Num.O Try.f14 bd14 7 ?_
 unfold diwanplay_Picks_Num at h
 refine kRs 7 [] [] .n ?_
 refine kSq ?_
 refine kRs 7 [Tm 14 (bv (decide (o0_v.n ≥ (o0_v.l.length : Int))))] [.s (.t 13) [iv (o0_v.l.length : Int)]] (.c (c_len (e := e_u8) (l := o0_v.l)) (.c rT .n)) ?_
 rcases br_inv h with ⟨b3_0, h⟩ | ⟨b3_0, h⟩
 ·refine kCt b3_0 ?_
  refine kRs 8 [Tm 4 (iv 0)] [] .n ?_
  refine kRt ?_
  have h_0 := some_inj h
  obtain ⟨g_1, h_1⟩ := Prod.mk.inj h_0
  subst g_1
  subst h_1
  exact kFr
 ·refine kCe b3_0 ?_
  refine kSk ?_
  refine kCd (cR (cR bd14)) [] ?_
  refine kRs 6 [Ob 1000 [sS 1 e_u8 o0_v.l, iv (w64 (o0_v.n + 1))]] [] .n ?_
  obtain ⟨x6_1, a6_2, e6_3, h⟩ := ix_inv h
  obtain ⟨c6_4, h⟩ := gd_inv h
  refine kRs 1 [Tm 4 (iv (Int.tmod (w64 x6_1) m))] [.c (e_u8 x6_1)] (.c (c_ix (e := e_u8) a6_2 e6_3) (.c (c_el (e := e_u8) e6_3) (.c c6_4 (.c rT .n)))) ?_
  refine kRt ?_
  have h_0 := some_inj h
  obtain ⟨g_1, h_1⟩ := Prod.mk.inj h_0
  subst g_1
  subst h_1
  exact kFr
def bd19 : Code := (Try.f19.body).getD .skip
def diwanplay_keys.O : Nat → Nat := fun t => bif ([0, 1] : List Nat).any (Nat.beq t) then 1 else 0
def diwanplay_keys : Option Unit :=
 some ()
theorem diwanplay_keys.meets (h : diwanplay_keys = some ()) : Meets Try.prog ⟨19, [], []⟩ ⟨.data (.slc true (some false) 1 (List.map e_s ([(⟨#[97]⟩ : ByteArray), (⟨#[98]⟩ : ByteArray), (⟨#[99]⟩ : ByteArray), (⟨#[100]⟩ : ByteArray), (⟨#[101, 101]⟩ : ByteArray), (⟨#[102, 102]⟩ : ByteArray)] : List ByteArray))), []⟩ := by
 refine kMt hmix diwanplay_keys.O Try.f19 bd19 0 ?_
 unfold diwanplay_keys at h
 refine kRs 0 [] [] .n ?_
 refine kRs 0 [Tm 0 (.data (.slc true (some false) 1 (List.map e_s ([(⟨#[97]⟩ : ByteArray), (⟨#[98]⟩ : ByteArray), (⟨#[99]⟩ : ByteArray), (⟨#[100]⟩ : ByteArray), (⟨#[101, 101]⟩ : ByteArray), (⟨#[102, 102]⟩ : ByteArray)] : List ByteArray))))] [] .n ?_
 refine kRt ?_
 cases some_inj h
 exact kFr
def bd17 : Code := (Try.f17.body).getD .skip
def diwanplay_Picks_Keys.O : Nat → Nat := fun t => bif ([4, 5, 6, 7, 8, 32] : List Nat).any (Nat.beq t) then 1 else 0
def diwanplay_Picks_Keys.lp6 (fu : Nat) (l6_0 : Int) (l6_3 : List ByteArray) (l6_5 : TPicks) : Nat → (List ByteArray) → Int → Int → Option (List ByteArray)
  | 0, _, _, _ => none
  | n_ + 1, l6_1, l6_2, l6_4 =>
  br (decide (l6_4 < (l6_3.length : Int)))
   (br (decide ((l6_1.length : Int) < l6_0))
    (br ((Int.tmod l6_2 2) == 1)
     (ix l6_3 l6_4 fun x11_1 =>
     gd (decide (l6_1.length + ([x11_1] : List ByteArray).length ≤ 4294967296)) <|
     diwanplay_Picks_Keys.lp6 fu l6_0 l6_3 l6_5 n_ (l6_1 ++ ([x11_1] : List ByteArray)) (w64 (Int.tdiv l6_2 2)) (w64 (l6_4 + 1)))
     (diwanplay_Picks_Keys.lp6 fu l6_0 l6_3 l6_5 n_ l6_1 (w64 (Int.tdiv l6_2 2)) (w64 (l6_4 + 1))))
    (some l6_1))
   (some l6_1)
def diwanplay_Picks_Keys.lp6_post (l6_0 : Int) (l6_3 : List ByteArray) (l6_5 : TPicks) (r_ : (List ByteArray)) : Wy → St → Prop := fun e τ => match r_ with
  | y0 => e = .exit 0 ∧ τ = ofL [Tm 5 (sO 1 e_s y0), Ob 1000 [sS 1 e_u8 l6_5.l, iv l6_5.n]]
theorem diwanplay_Picks_Keys.lp6_ok (fu : Nat) (l6_0 : Int) (l6_3 : List ByteArray) (l6_5 : TPicks) : ∀ (n_ : Nat) (l6_1 : List ByteArray) (l6_2 : Int) (l6_4 : Int) (r_ : (List ByteArray)), diwanplay_Picks_Keys.lp6 fu l6_0 l6_3 l6_5 n_ l6_1 l6_2 l6_4 = some r_ → WK Try.prog diwanplay_Picks_Keys.O (Ck Try.prog) (cB (cR (cL (cR (cR (cR (cR bd17))))))) [] (ofL [Tm 1 (iv l6_0), Tm 5 (sO 1 e_s l6_1), Tm 6 (iv l6_2), Tm 7 (.data (.slc true (some false) 1 (List.map e_s l6_3))), Tm 8 (iv l6_4), Ob 1000 [sS 1 e_u8 l6_5.l, iv l6_5.n]]) (diwanplay_Picks_Keys.lp6_post l6_0 l6_3 l6_5 r_) := by
 intro n_
 induction n_ with
 | zero => intro l6_1 l6_2 l6_4 r_ h; exact no_none h
 | succ n_ ih =>
  intro l6_1 l6_2 l6_4 r_ h
  refine kLp ?_
  refine kSq ?_
  rcases br_inv h with ⟨b7_1, h⟩ | ⟨b7_1, h⟩
  ·refine kRs 63 [Tm 21 (bv (decide ((l6_1.length : Int) < l6_0)))] [.s (.t 14) [iv (l6_3.length : Int)], .b true, .b true, .s (.t 18) [iv (l6_1.length : Int)], .b true, .b true, .b true] (.c (c_len (e := e_s) (l := l6_3)) (.r 2 b7_1 (.c (c_len (e := e_s) (l := l6_1)) (.r 3 b7_1 .n)))) ?_
   rcases br_inv h with ⟨b8_0, h⟩ | ⟨b8_0, h⟩
   ·refine kCt b8_0 ?_
    refine kSk ?_
    refine kCd (cR (cB (cB (cR (cL (cR (cR (cR (cR bd17))))))))) [.lp (cB (cR (cL (cR (cR (cR (cR bd17)))))))] ?_
    refine kSq ?_
    refine kBk 1 ?_
    refine kSq ?_
    refine kRs 126 [Tm 26 (bv ((Int.tmod l6_2 2) == 1))] [] (.c rT .n) ?_
    rcases br_inv h with ⟨b10_0, h⟩ | ⟨b10_0, h⟩
    ·refine kCt b10_0 ?_
     obtain ⟨x11_1, a11_2, e11_3, h⟩ := ix_inv h
     obtain ⟨c11_4, h⟩ := gd_inv h
     refine kRc 122 [Tm 5 (sO 1 e_s (l6_1 ++ ([x11_1] : List ByteArray)))] [.c (e_s x11_1), .s (.t 33) [sO 1 e_s (l6_1 ++ ([x11_1] : List ByteArray))]] (.c (c_ix (e := e_s) a11_2 e11_3) (.c (c_el (e := e_s) e11_3) (.c (c_al (e := e_s) (f := e_s) c11_4) (.c (congrArg (fun d : DV => [AV.data d]) (c_app (e := e_s) (s := 1) (l := l6_1) (m := ([x11_1] : List ByteArray)))) .n)))) (cR (cB (cL (cR (cB (cB (cR (cL (cR (cR (cR (cR bd17)))))))))))) [.blk 1, .seq (cR (cR (cB (cB (cR (cL (cR (cR (cR (cR bd17)))))))))), .lp (cB (cR (cL (cR (cR (cR (cR bd17)))))))] ?_
     refine kRc 59 [Tm 6 (iv (w64 (Int.tdiv l6_2 2)))] [] (.c rT .n) (cR (cR (cB (cB (cR (cL (cR (cR (cR (cR bd17)))))))))) [.lp (cB (cR (cL (cR (cR (cR (cR bd17)))))))] ?_
     refine kRc 47 [Tm 8 (iv (w64 (l6_4 + 1)))] [] .n (cB (cR (cL (cR (cR (cR (cR bd17))))))) [] ?_
     exact kWk (ih (l6_1 ++ ([x11_1] : List ByteArray)) (w64 (Int.tdiv l6_2 2)) (w64 (l6_4 + 1)) _ h)
    ·refine kCe b10_0 ?_
     refine kSk ?_
     refine kCd (cR (cB (cL (cR (cB (cB (cR (cL (cR (cR (cR (cR bd17)))))))))))) [.blk 1, .seq (cR (cR (cB (cB (cR (cL (cR (cR (cR (cR bd17)))))))))), .lp (cB (cR (cL (cR (cR (cR (cR bd17)))))))] ?_
     refine kRc 118 [Tm 6 (iv (w64 (Int.tdiv l6_2 2)))] [] (.c rT .n) (cR (cR (cB (cB (cR (cL (cR (cR (cR (cR bd17)))))))))) [.lp (cB (cR (cL (cR (cR (cR (cR bd17)))))))] ?_
     refine kRc 47 [Tm 8 (iv (w64 (l6_4 + 1)))] [] .n (cB (cR (cL (cR (cR (cR (cR bd17))))))) [] ?_
     exact kWk (ih l6_1 (w64 (Int.tdiv l6_2 2)) (w64 (l6_4 + 1)) _ h)
   ·refine kCe b8_0 ?_
    cases some_inj h
    refine kWo ?_
    refine kXt 0 ?_
    exact kOut
  ·refine kRs 63 [Tm 21 (bv false)] (.s (.t 14) [iv (l6_3.length : Int)] :: (rp 5 (.b false) [])) (.c (c_len (e := e_s) (l := l6_3)) (.r 5 b7_1 .n)) ?_
   refine kCe rF ?_
   cases some_inj h
   refine kWo ?_
   refine kXt 0 ?_
   exact kOut
def diwanplay_Picks_Keys (fu : Nat) (most : Int) (o0_v : TPicks) : Option (List ByteArray × TPicks) :=
 bd (diwanplay_Picks_Num 64 o0_v) fun (r3_1, r3_2) =>
 bd (diwanplay_keys) fun _ =>
 bd (diwanplay_Picks_Keys.lp6 fu most ([(⟨#[97]⟩ : ByteArray), (⟨#[98]⟩ : ByteArray), (⟨#[99]⟩ : ByteArray), (⟨#[100]⟩ : ByteArray), (⟨#[101, 101]⟩ : ByteArray), (⟨#[102, 102]⟩ : ByteArray)] : List ByteArray) r3_2 fu [] r3_1 0) fun y16_0 =>
 some (y16_0, r3_2)
theorem diwanplay_Picks_Keys.meets (fu : Nat) (most : Int) (o0_v : TPicks) (z0 : List ByteArray) (z1 : TPicks) (h : diwanplay_Picks_Keys fu most o0_v = some (z0, z1)) : Meets Try.prog ⟨17, [.ptr 1000 0, iv most], [[sS 1 e_u8 o0_v.l, iv o0_v.n]]⟩ ⟨sO 1 e_s z0, [[sS 1 e_u8 z1.l, iv z1.n]]⟩ := by
 refine kMt hmix diwanplay_Picks_Keys.O Try.f17 bd17 7 ?_
 unfold diwanplay_Picks_Keys at h
 refine kRs 7 [] [] .n ?_
 refine kRs 7 [Tm 5 (.data (.slc true (some true) 1 (List.map e_s [])))] [] .n ?_
 obtain ⟨⟨r3_1, r3_2⟩, h3_3, h⟩ := bd_inv h
 refine kRs 5 [Tm 6 (iv r3_1), Ob 1000 [sS 1 e_u8 r3_2.l, iv r3_2.n]] [.a ⟨iv r3_1, [[sS 1 e_u8 r3_2.l, iv r3_2.n]]⟩] (.c (Asks.of (C := Meets Try.prog) (diwanplay_Picks_Num.meets 64 o0_v _ _ h3_3)) .n) ?_
 obtain ⟨_, h4_1, h⟩ := bd_inv h
 refine kRs 15 [Tm 7 (.data (.slc true (some false) 1 (List.map e_s ([(⟨#[97]⟩ : ByteArray), (⟨#[98]⟩ : ByteArray), (⟨#[99]⟩ : ByteArray), (⟨#[100]⟩ : ByteArray), (⟨#[101, 101]⟩ : ByteArray), (⟨#[102, 102]⟩ : ByteArray)] : List ByteArray))))] [.a ⟨.data (.slc true (some false) 1 (List.map e_s ([(⟨#[97]⟩ : ByteArray), (⟨#[98]⟩ : ByteArray), (⟨#[99]⟩ : ByteArray), (⟨#[100]⟩ : ByteArray), (⟨#[101, 101]⟩ : ByteArray), (⟨#[102, 102]⟩ : ByteArray)] : List ByteArray))), []⟩] (.c (Asks.of (C := Meets Try.prog) (diwanplay_keys.meets  h4_1)) .n) ?_
 refine kSq ?_
 refine kRs 31 [Tm 8 (iv 0)] [] .n ?_
 refine kBk 0 ?_
 obtain ⟨o16, ho16, h⟩ := bd_inv h
 refine kUs (diwanplay_Picks_Keys.lp6_ok fu most ([(⟨#[97]⟩ : ByteArray), (⟨#[98]⟩ : ByteArray), (⟨#[99]⟩ : ByteArray), (⟨#[100]⟩ : ByteArray), (⟨#[101, 101]⟩ : ByteArray), (⟨#[102, 102]⟩ : ByteArray)] : List ByteArray) r3_2 _ [] r3_1 0 _ ho16) ?_
 intro e_ τ_ hp_
 obtain ⟨y16_0, rfl⟩ : ∃ y, y = o16 := ⟨_, rfl⟩
 obtain ⟨rfl, rfl⟩ := hp_
 refine kCd (cR (cR (cR (cR (cR bd17))))) [] ?_
 refine kRs 2 [Tm 4 (sO 1 e_s y16_0)] [] .n ?_
 refine kRt ?_
 have h_0 := some_inj h
 obtain ⟨g_1, h_1⟩ := Prod.mk.inj h_0
 subst g_1
 subst h_1
 exact kFr
def bd18 : Code := (Try.f18.body).getD .skip
def diwanplay_Picks_Val.O : Nat → Nat := fun t => bif ([2, 3] : List Nat).any (Nat.beq t) then 1 else 0
def diwanplay_Picks_Val (o0_v : TPicks) : Option (ByteArray × TPicks) :=
 bd (diwanplay_Picks_Num 5 o0_v) fun (r2_1, r2_2) =>
 ix ([ByteArray.empty, (⟨#[118]⟩ : ByteArray), (⟨#[119]⟩ : ByteArray), (⟨#[120, 120]⟩ : ByteArray), (⟨#[115, 105, 120, 116, 101, 101, 110, 45, 98, 121, 116, 101, 115, 45, 111, 107]⟩ : ByteArray)] : List ByteArray) r2_1 fun x2_4 =>
 some (x2_4, r2_2)
theorem diwanplay_Picks_Val.meets (o0_v : TPicks) (z0 : ByteArray) (z1 : TPicks) (h : diwanplay_Picks_Val o0_v = some (z0, z1)) : Meets Try.prog ⟨18, [.ptr 1000 0], [[sS 1 e_u8 o0_v.l, iv o0_v.n]]⟩ ⟨sv z0, [[sS 1 e_u8 z1.l, iv z1.n]]⟩ := by
 refine kMt hmix diwanplay_Picks_Val.O Try.f18 bd18 3 ?_
 unfold diwanplay_Picks_Val at h
 refine kRs 3 [] [] .n ?_
 obtain ⟨⟨r2_1, r2_2⟩, h2_3, h⟩ := bd_inv h
 obtain ⟨x2_4, a2_5, e2_6, h⟩ := ix_inv h
 refine kRs 0 [Tm 2 (sv x2_4), Ob 1000 [sS 1 e_u8 r2_2.l, iv r2_2.n]] [.a ⟨iv r2_1, [[sS 1 e_u8 r2_2.l, iv r2_2.n]]⟩, .c (e_s x2_4)] (.c (Asks.of (C := Meets Try.prog) (diwanplay_Picks_Num.meets 5 o0_v _ _ h2_3)) (.c (c_ix (e := e_s) a2_5 e2_6) (.c (c_el (e := e_s) e2_6) .n))) ?_
 refine kRt ?_
 have h_0 := some_inj h
 obtain ⟨g_1, h_1⟩ := Prod.mk.inj h_0
 subst g_1
 subst h_1
 exact kFr
def bd15 : Code := (Try.f15.body).getD .skip
def diwanplay_Picks_Txn.O : Nat → Nat := fun t => bif ([4, 5, 6, 7, 8, 9, 10, 11, 18, 35, 45, 51, 52, 68, 77, 78, 80] : List Nat).any (Nat.beq t) then 1 else 0
def diwanplay_Picks_Txn.lp5 (fu : Nat) (l5_0 : Int) (l5_1 : List ByteArray) (l5_3 : TTxn) : Nat → Int → TTxn → TPicks → Option (TTxn × TPicks)
  | 0, _, _, _ => none
  | n_ + 1, l5_2, l5_4, l5_5 =>
  br (decide (l5_2 < (l5_1.length : Int)))
   (ix l5_1 l5_2 fun x8_1 =>
   bd (diwanplay_Picks_Num (if l5_0 < 1 then 1 else l5_0) l5_5) fun (r8_4, r8_5) =>
   jn (fun (j12_5 : TRead) (j12_6 : TPicks) =>
    gd (decide (l5_4.Reads.length + ([j12_5] : List TRead).length ≤ 4294967296)) <|
    diwanplay_Picks_Txn.lp5 fu l5_0 l5_1 l5_3 n_ (w64 (l5_2 + 1)) (TTxn.mk l5_4.Session l5_4.Seq (l5_4.Reads ++ ([j12_5] : List TRead)) l5_4.Writes) j12_6) fun k12 =>
   br (decide (r8_4 > 0))
    (bd (diwanplay_Picks_Num 4 r8_5) fun (r9_2, r9_3) =>
    br (decide (r9_2 > 0))
     (bd (diwanplay_Picks_Val r9_3) fun (r11_1, r11_2) =>
     k12 (TRead.mk x8_1 r8_4 r11_1 true) r11_2)
     (k12 (TRead.mk x8_1 r8_4 ByteArray.empty false) r9_3))
    (k12 (TRead.mk x8_1 r8_4 ByteArray.empty false) r8_5))
   (some (l5_4, l5_5))
def diwanplay_Picks_Txn.lp5_post (l5_0 : Int) (l5_1 : List ByteArray) (l5_3 : TTxn) (r_ : (TTxn × TPicks)) : Wy → St → Prop := fun e τ => match r_ with
  | (y0, y1) => e = .exit 0 ∧ τ = ofL [Tm 0 (.ptr 1000 0), Tm 4 (.ptr 4 0), Tm 5 (.ptr 5 0), Ob 4 (TTxn.ob_0011 l5_3), Ob 5 (TTxn.ob_0011 y0), Ob 1000 [sS 1 e_u8 y1.l, iv y1.n]]
theorem diwanplay_Picks_Txn.lp5_ok (fu : Nat) (l5_0 : Int) (l5_1 : List ByteArray) (l5_3 : TTxn) : ∀ (n_ : Nat) (l5_2 : Int) (l5_4 : TTxn) (l5_5 : TPicks) (r_ : (TTxn × TPicks)), diwanplay_Picks_Txn.lp5 fu l5_0 l5_1 l5_3 n_ l5_2 l5_4 l5_5 = some r_ → WK Try.prog diwanplay_Picks_Txn.O (Ck Try.prog) (cB (cR (cL (cR (cR (cR bd15)))))) [] (ofL [Tm 0 (.ptr 1000 0), Tm 1 (iv l5_0), Tm 4 (.ptr 4 0), Tm 5 (.ptr 5 0), Tm 6 (sO 1 e_s l5_1), Tm 7 (iv l5_2), Ob 4 (TTxn.ob_0011 l5_3), Ob 5 (TTxn.ob_0011 l5_4), Ob 1000 [sS 1 e_u8 l5_5.l, iv l5_5.n]]) (diwanplay_Picks_Txn.lp5_post l5_0 l5_1 l5_3 r_) := by
 intro n_
 induction n_ with
 | zero => intro l5_2 l5_4 l5_5 r_ h; exact no_none h
 | succ n_ ih =>
  intro l5_2 l5_4 l5_5 r_ h
  refine kLp ?_
  refine kSq ?_
  refine kRs 511 [Tm 24 (bv (decide (l5_2 < (l5_1.length : Int))))] [.s (.t 23) [iv (l5_1.length : Int)]] (.c (c_len (e := e_s) (l := l5_1)) .n) ?_
  rcases br_inv h with ⟨b7_0, h⟩ | ⟨b7_0, h⟩
  ·refine kCt b7_0 ?_
   refine kSk ?_
   refine kCd (cR (cB (cB (cR (cL (cR (cR (cR bd15)))))))) [.lp (cB (cR (cL (cR (cR (cR bd15))))))] ?_
   refine kSq ?_
   refine kBk 1 ?_
   obtain ⟨x8_1, a8_2, e8_3, h⟩ := ix_inv h
   obtain ⟨⟨r8_4, r8_5⟩, h8_6, h⟩ := bd_inv h
   refine kRs 510 [Tm 8 (.ptr 8 0), Ob 8 (TRead.ob (TRead.mk x8_1 r8_4 ByteArray.empty false)), Ob 1000 [sS 1 e_u8 r8_5.l, iv r8_5.n]] [.c (e_s x8_1), .a ⟨iv r8_4, [[sS 1 e_u8 r8_5.l, iv r8_5.n]]⟩] (.c (c_ix (e := e_s) a8_2 e8_3) (.c (c_el (e := e_s) e8_3) (.c (Asks.of (C := Meets Try.prog) (diwanplay_Picks_Num.meets (if l5_0 < 1 then 1 else l5_0) l5_5 _ _ h8_6)) (.c rT .n)))) ?_
   obtain ⟨k12, hk12, h⟩ := jn_inv h
   have Jk12 : ∀ (j12_5 : TRead) (j12_6 : TPicks), k12 j12_5 j12_6 = some r_ → WK Try.prog diwanplay_Picks_Txn.O (Ck Try.prog) (cR (cR (cB (cL (cR (cB (cB (cR (cL (cR (cR (cR bd15)))))))))))) [.blk 1, .seq (cR (cR (cB (cB (cR (cL (cR (cR (cR bd15))))))))), .lp (cB (cR (cL (cR (cR (cR bd15))))))] (ofL [Tm 0 (.ptr 1000 0), Tm 1 (iv l5_0), Tm 4 (.ptr 4 0), Tm 5 (.ptr 5 0), Tm 6 (sO 1 e_s l5_1), Tm 7 (iv l5_2), Tm 8 (.ptr 8 0), Ob 4 (TTxn.ob_0011 l5_3), Ob 5 (TTxn.ob_0011 l5_4), Ob 8 (TRead.ob j12_5), Ob 1000 [sS 1 e_u8 j12_6.l, iv j12_6.n]]) (diwanplay_Picks_Txn.lp5_post l5_0 l5_1 l5_3 r_) := by
    intro j12_5 j12_6 h
    rw [hk12] at h
    obtain ⟨c13_1, h⟩ := gd_inv h
    refine kRc 1215 [Ob 5 (TTxn.ob_0011 (TTxn.mk l5_4.Session l5_4.Seq (l5_4.Reads ++ ([j12_5] : List TRead)) l5_4.Writes))] [.s (.t 52) [sO 4 TRead.en (l5_4.Reads ++ ([j12_5] : List TRead))]] (.c (c_al (e := TRead.en) (f := TRead.en) c13_1) (.c (congrArg (fun d : DV => [AV.data d]) (c_app (e := TRead.en) (s := 4) (l := l5_4.Reads) (m := ([j12_5] : List TRead)))) .n)) (cR (cR (cB (cB (cR (cL (cR (cR (cR bd15))))))))) [.lp (cB (cR (cL (cR (cR (cR bd15))))))] ?_
    refine kRc 447 [Tm 7 (iv (w64 (l5_2 + 1)))] [] .n (cB (cR (cL (cR (cR (cR bd15)))))) [] ?_
    exact kWk (ih (w64 (l5_2 + 1)) (TTxn.mk l5_4.Session l5_4.Seq (l5_4.Reads ++ ([j12_5] : List TRead)) l5_4.Writes) j12_6 _ h)
   clear hk12
   refine kSq ?_
   rcases br_inv h with ⟨b9_1, h⟩ | ⟨b9_1, h⟩
   ·obtain ⟨⟨r9_2, r9_3⟩, h9_4, h⟩ := bd_inv h
    refine kRs 2043 [Tm 43 (bv (decide (r9_2 > 0))), Ob 1000 [sS 1 e_u8 r9_3.l, iv r9_3.n]] [.b true, .b true, .a ⟨iv r9_2, [[sS 1 e_u8 r9_3.l, iv r9_3.n]]⟩, .b true, .b true] (.r 2 b9_1 (.c (Asks.of (C := Meets Try.prog) (diwanplay_Picks_Num.meets 4 r8_5 _ _ h9_4)) (.r 2 b9_1 .n))) ?_
    rcases br_inv h with ⟨b10_0, h⟩ | ⟨b10_0, h⟩
    ·refine kCt b10_0 ?_
     obtain ⟨⟨r11_1, r11_2⟩, h11_3, h⟩ := bd_inv h
     refine kRc 4084 [Ob 8 (TRead.ob (TRead.mk x8_1 r8_4 r11_1 true)), Ob 1000 [sS 1 e_u8 r11_2.l, iv r11_2.n]] [.a ⟨sv r11_1, [[sS 1 e_u8 r11_2.l, iv r11_2.n]]⟩] (.c (Asks.of (C := Meets Try.prog) (diwanplay_Picks_Val.meets r9_3 _ _ h11_3)) .n) (cR (cR (cB (cL (cR (cB (cB (cR (cL (cR (cR (cR bd15)))))))))))) [.blk 1, .seq (cR (cR (cB (cB (cR (cL (cR (cR (cR bd15))))))))), .lp (cB (cR (cL (cR (cR (cR bd15))))))] ?_
     exact kWk (Jk12 (TRead.mk x8_1 r8_4 r11_1 true) r11_2 h)
    ·refine kCe b10_0 ?_
     refine kSk ?_
     refine kCd (cR (cR (cB (cL (cR (cB (cB (cR (cL (cR (cR (cR bd15)))))))))))) [.blk 1, .seq (cR (cR (cB (cB (cR (cL (cR (cR (cR bd15))))))))), .lp (cB (cR (cL (cR (cR (cR bd15))))))] ?_
     exact kWk (Jk12 (TRead.mk x8_1 r8_4 ByteArray.empty false) r9_3 h)
   ·refine kRs 2047 [Tm 43 (bv false)] (rp 4 (.b false) []) (.r 4 b9_1 .n) ?_
    refine kCe rF ?_
    refine kSk ?_
    refine kCd (cR (cR (cB (cL (cR (cB (cB (cR (cL (cR (cR (cR bd15)))))))))))) [.blk 1, .seq (cR (cR (cB (cB (cR (cL (cR (cR (cR bd15))))))))), .lp (cB (cR (cL (cR (cR (cR bd15))))))] ?_
    exact kWk (Jk12 (TRead.mk x8_1 r8_4 ByteArray.empty false) r8_5 h)
  ·refine kCe b7_0 ?_
   cases some_inj h
   refine kWo ?_
   refine kXt 0 ?_
   exact kOut
def diwanplay_Picks_Txn.lp18 (fu : Nat) (l18_0 : List ByteArray) (l18_2 : TTxn) : Nat → Int → TTxn → TPicks → Option (TTxn × TPicks)
  | 0, _, _, _ => none
  | n_ + 1, l18_1, l18_3, l18_4 =>
  br (decide (l18_1 < (l18_0.length : Int)))
   (ix l18_0 l18_1 fun x21_1 =>
   bd (diwanplay_Picks_Val l18_4) fun (r21_4, r21_5) =>
   jn (fun (j25_4 : TWrite) (j25_5 : TPicks) =>
    gd (decide (l18_3.Writes.length + ([j25_4] : List TWrite).length ≤ 4294967296)) <|
    diwanplay_Picks_Txn.lp18 fu l18_0 l18_2 n_ (w64 (l18_1 + 1)) (TTxn.mk l18_3.Session l18_3.Seq l18_3.Reads (l18_3.Writes ++ ([j25_4] : List TWrite))) j25_5) fun k25 =>
   bd (diwanplay_Picks_Num 4 r21_5) fun (r22_1, r22_2) =>
   br (r22_1 == 0)
    (k25 (TWrite.mk x21_1 ByteArray.empty true) r22_2)
    (k25 (TWrite.mk x21_1 r21_4 false) r22_2))
   (some (l18_3, l18_4))
def diwanplay_Picks_Txn.lp18_post (l18_0 : List ByteArray) (l18_2 : TTxn) (r_ : (TTxn × TPicks)) : Wy → St → Prop := fun e τ => match r_ with
  | (y0, y1) => e = .exit 2 ∧ τ = ofL [Tm 4 (.ptr 4 0), Tm 5 (.ptr 5 0), Ob 4 (TTxn.ob_0011 l18_2), Ob 5 (TTxn.ob_0011 y0), Ob 1000 [sS 1 e_u8 y1.l, iv y1.n]]
theorem diwanplay_Picks_Txn.lp18_ok (fu : Nat) (l18_0 : List ByteArray) (l18_2 : TTxn) : ∀ (n_ : Nat) (l18_1 : Int) (l18_3 : TTxn) (l18_4 : TPicks) (r_ : (TTxn × TPicks)), diwanplay_Picks_Txn.lp18 fu l18_0 l18_2 n_ l18_1 l18_3 l18_4 = some r_ → WK Try.prog diwanplay_Picks_Txn.O (Ck Try.prog) (cB (cR (cL (cR (cR (cR (cR (cR bd15)))))))) [] (ofL [Tm 0 (.ptr 1000 0), Tm 4 (.ptr 4 0), Tm 5 (.ptr 5 0), Tm 9 (sO 1 e_s l18_0), Tm 10 (iv l18_1), Ob 4 (TTxn.ob_0011 l18_2), Ob 5 (TTxn.ob_0011 l18_3), Ob 1000 [sS 1 e_u8 l18_4.l, iv l18_4.n]]) (diwanplay_Picks_Txn.lp18_post l18_0 l18_2 r_) := by
 intro n_
 induction n_ with
 | zero => intro l18_1 l18_3 l18_4 r_ h; exact no_none h
 | succ n_ ih =>
  intro l18_1 l18_3 l18_4 r_ h
  refine kLp ?_
  refine kSq ?_
  refine kRs 255 [Tm 59 (bv (decide (l18_1 < (l18_0.length : Int))))] [.s (.t 58) [iv (l18_0.length : Int)]] (.c (c_len (e := e_s) (l := l18_0)) .n) ?_
  rcases br_inv h with ⟨b20_0, h⟩ | ⟨b20_0, h⟩
  ·refine kCt b20_0 ?_
   refine kSk ?_
   refine kCd (cR (cB (cB (cR (cL (cR (cR (cR (cR (cR bd15)))))))))) [.lp (cB (cR (cL (cR (cR (cR (cR (cR bd15))))))))] ?_
   refine kSq ?_
   refine kBk 3 ?_
   obtain ⟨x21_1, a21_2, e21_3, h⟩ := ix_inv h
   obtain ⟨⟨r21_4, r21_5⟩, h21_6, h⟩ := bd_inv h
   refine kRs 254 [Tm 11 (.ptr 11 0), Ob 11 (TWrite.ob (TWrite.mk x21_1 r21_4 false)), Ob 1000 [sS 1 e_u8 r21_5.l, iv r21_5.n]] [.c (e_s x21_1), .a ⟨sv r21_4, [[sS 1 e_u8 r21_5.l, iv r21_5.n]]⟩] (.c (c_ix (e := e_s) a21_2 e21_3) (.c (c_el (e := e_s) e21_3) (.c (Asks.of (C := Meets Try.prog) (diwanplay_Picks_Val.meets l18_4 _ _ h21_6)) (.c rT .n)))) ?_
   obtain ⟨k25, hk25, h⟩ := jn_inv h
   have Jk25 : ∀ (j25_4 : TWrite) (j25_5 : TPicks), k25 j25_4 j25_5 = some r_ → WK Try.prog diwanplay_Picks_Txn.O (Ck Try.prog) (cR (cR (cB (cL (cR (cB (cB (cR (cL (cR (cR (cR (cR (cR bd15)))))))))))))) [.blk 3, .seq (cR (cR (cB (cB (cR (cL (cR (cR (cR (cR (cR bd15))))))))))), .lp (cB (cR (cL (cR (cR (cR (cR (cR bd15))))))))] (ofL [Tm 0 (.ptr 1000 0), Tm 4 (.ptr 4 0), Tm 5 (.ptr 5 0), Tm 9 (sO 1 e_s l18_0), Tm 10 (iv l18_1), Tm 11 (.ptr 11 0), Ob 4 (TTxn.ob_0011 l18_2), Ob 5 (TTxn.ob_0011 l18_3), Ob 11 (TWrite.ob j25_4), Ob 1000 [sS 1 e_u8 j25_5.l, iv j25_5.n]]) (diwanplay_Picks_Txn.lp18_post l18_0 l18_2 r_) := by
    intro j25_4 j25_5 h
    rw [hk25] at h
    obtain ⟨c26_1, h⟩ := gd_inv h
    refine kRc 607 [Ob 5 (TTxn.ob_0011 (TTxn.mk l18_3.Session l18_3.Seq l18_3.Reads (l18_3.Writes ++ ([j25_4] : List TWrite))))] [.s (.t 78) [sO 3 TWrite.en (l18_3.Writes ++ ([j25_4] : List TWrite))]] (.c (c_al (e := TWrite.en) (f := TWrite.en) c26_1) (.c (congrArg (fun d : DV => [AV.data d]) (c_app (e := TWrite.en) (s := 3) (l := l18_3.Writes) (m := ([j25_4] : List TWrite)))) .n)) (cR (cR (cB (cB (cR (cL (cR (cR (cR (cR (cR bd15))))))))))) [.lp (cB (cR (cL (cR (cR (cR (cR (cR bd15))))))))] ?_
    refine kRc 223 [Tm 10 (iv (w64 (l18_1 + 1)))] [] .n (cB (cR (cL (cR (cR (cR (cR (cR bd15)))))))) [] ?_
    exact kWk (ih (w64 (l18_1 + 1)) (TTxn.mk l18_3.Session l18_3.Seq l18_3.Reads (l18_3.Writes ++ ([j25_4] : List TWrite))) j25_5 _ h)
   clear hk25
   refine kSq ?_
   obtain ⟨⟨r22_1, r22_2⟩, h22_3, h⟩ := bd_inv h
   refine kRs 1019 [Tm 71 (bv (r22_1 == 0)), Ob 1000 [sS 1 e_u8 r22_2.l, iv r22_2.n]] [.a ⟨iv r22_1, [[sS 1 e_u8 r22_2.l, iv r22_2.n]]⟩] (.c (Asks.of (C := Meets Try.prog) (diwanplay_Picks_Num.meets 4 r21_5 _ _ h22_3)) .n) ?_
   rcases br_inv h with ⟨b23_0, h⟩ | ⟨b23_0, h⟩
   ·refine kCt b23_0 ?_
    refine kRc 2038 [Ob 11 (TWrite.ob (TWrite.mk x21_1 ByteArray.empty true))] [] .n (cR (cR (cB (cL (cR (cB (cB (cR (cL (cR (cR (cR (cR (cR bd15)))))))))))))) [.blk 3, .seq (cR (cR (cB (cB (cR (cL (cR (cR (cR (cR (cR bd15))))))))))), .lp (cB (cR (cL (cR (cR (cR (cR (cR bd15))))))))] ?_
    exact kWk (Jk25 (TWrite.mk x21_1 ByteArray.empty true) r22_2 h)
   ·refine kCe b23_0 ?_
    refine kSk ?_
    refine kCd (cR (cR (cB (cL (cR (cB (cB (cR (cL (cR (cR (cR (cR (cR bd15)))))))))))))) [.blk 3, .seq (cR (cR (cB (cB (cR (cL (cR (cR (cR (cR (cR bd15))))))))))), .lp (cB (cR (cL (cR (cR (cR (cR (cR bd15))))))))] ?_
    exact kWk (Jk25 (TWrite.mk x21_1 r21_4 false) r22_2 h)
  ·refine kCe b20_0 ?_
   cases some_inj h
   refine kWo ?_
   refine kXt 2 ?_
   exact kOut
def diwanplay_Picks_Txn (fu : Nat) (most : Int) (o0_v : TPicks) : Option (TTxn × TPicks) :=
 bd (diwanplay_Picks_Num 3 o0_v) fun (r2_1, r2_2) =>
 bd (diwanplay_Picks_Num 6 r2_2) fun (r2_4, r2_5) =>
 bd (diwanplay_Picks_Keys fu 3 r2_5) fun (r3_1, r3_2) =>
 bd (diwanplay_Picks_Txn.lp5 fu most r3_1 (TTxn.mk 0 0 [] []) fu 0 (TTxn.mk (w64 (1 + r2_1)) (w64 (1 + r2_4)) [] []) r3_2) fun (y15_0, y15_1) =>
 bd (diwanplay_Picks_Keys fu 3 y15_1) fun (r16_1, r16_2) =>
 bd (diwanplay_Picks_Txn.lp18 fu r16_1 (TTxn.mk 0 0 [] []) fu 0 y15_0 r16_2) fun (y28_0, y28_1) =>
 some (y28_0, y28_1)
theorem diwanplay_Picks_Txn.meets (fu : Nat) (most : Int) (o0_v : TPicks) (z0 : TTxn) (z1 : TPicks) (h : diwanplay_Picks_Txn fu most o0_v = some (z0, z1)) : Meets Try.prog ⟨15, [.ptr 1000 0, iv most], [[sS 1 e_u8 o0_v.l, iv o0_v.n]]⟩ ⟨.data (TTxn.ag_0011 z0), [[sS 1 e_u8 z1.l, iv z1.n]]⟩ := by
 refine kMt hmix diwanplay_Picks_Txn.O Try.f15 bd15 7 ?_
 unfold diwanplay_Picks_Txn at h
 refine kRs 7 [Tm 4 (.ptr 4 0), Ob 4 (TTxn.ob_0011 (TTxn.mk 0 0 [] []))] [] .n ?_
 obtain ⟨⟨r2_1, r2_2⟩, h2_3, h⟩ := bd_inv h
 obtain ⟨⟨r2_4, r2_5⟩, h2_6, h⟩ := bd_inv h
 refine kRs 15 [Tm 5 (.ptr 5 0), Ob 5 (TTxn.ob_0011 (TTxn.mk (w64 (1 + r2_1)) (w64 (1 + r2_4)) [] [])), Ob 1000 [sS 1 e_u8 r2_5.l, iv r2_5.n]] [.a ⟨iv r2_1, [[sS 1 e_u8 r2_2.l, iv r2_2.n]]⟩, .a ⟨iv r2_4, [[sS 1 e_u8 r2_5.l, iv r2_5.n]]⟩] (.c (Asks.of (C := Meets Try.prog) (diwanplay_Picks_Num.meets 3 o0_v _ _ h2_3)) (.c (Asks.of (C := Meets Try.prog) (diwanplay_Picks_Num.meets 6 r2_2 _ _ h2_6)) .n)) ?_
 obtain ⟨⟨r3_1, r3_2⟩, h3_3, h⟩ := bd_inv h
 refine kRs 123 [Tm 6 (sO 1 e_s r3_1), Ob 1000 [sS 1 e_u8 r3_2.l, iv r3_2.n]] [.a ⟨sO 1 e_s r3_1, [[sS 1 e_u8 r3_2.l, iv r3_2.n]]⟩] (.c (Asks.of (C := Meets Try.prog) (diwanplay_Picks_Keys.meets fu 3 r2_5 _ _ h3_3)) .n) ?_
 refine kSq ?_
 refine kRs 255 [Tm 7 (iv 0)] [] .n ?_
 refine kBk 0 ?_
 obtain ⟨o15, ho15, h⟩ := bd_inv h
 refine kUs (diwanplay_Picks_Txn.lp5_ok fu most r3_1 (TTxn.mk 0 0 [] []) _ 0 (TTxn.mk (w64 (1 + r2_1)) (w64 (1 + r2_4)) [] []) r3_2 _ ho15) ?_
 intro e_ τ_ hp_
 obtain ⟨y15_0, y15_1⟩ := o15
 obtain ⟨rfl, rfl⟩ := hp_
 refine kCd (cR (cR (cR (cR bd15)))) [] ?_
 obtain ⟨⟨r16_1, r16_2⟩, h16_3, h⟩ := bd_inv h
 refine kRs 31 [Tm 9 (sO 1 e_s r16_1), Ob 1000 [sS 1 e_u8 r16_2.l, iv r16_2.n]] [.a ⟨sO 1 e_s r16_1, [[sS 1 e_u8 r16_2.l, iv r16_2.n]]⟩] (.c (Asks.of (C := Meets Try.prog) (diwanplay_Picks_Keys.meets fu 3 y15_1 _ _ h16_3)) .n) ?_
 refine kSq ?_
 refine kRs 127 [Tm 10 (iv 0)] [] .n ?_
 refine kBk 2 ?_
 obtain ⟨o28, ho28, h⟩ := bd_inv h
 refine kUs (diwanplay_Picks_Txn.lp18_ok fu r16_1 (TTxn.mk 0 0 [] []) _ 0 y15_0 r16_2 _ ho28) ?_
 intro e_ τ_ hp_
 obtain ⟨y28_0, y28_1⟩ := o28
 obtain ⟨rfl, rfl⟩ := hp_
 refine kCd (cR (cR (cR (cR (cR (cR bd15)))))) [] ?_
 refine kRs 17 [Ob 4 (TTxn.ob_0011 y28_0)] [] .n ?_
 refine kRt ?_
 have h_0 := some_inj h
 obtain ⟨g_1, h_1⟩ := Prod.mk.inj h_0
 subst g_1
 subst h_1
 exact kFr
def bd9 : Code := (Try.f9.body).getD .skip
def diwanplay_Picks_Log.O : Nat → Nat := fun t => bif ([4, 5, 6, 7, 8, 23, 30, 34] : List Nat).any (Nat.beq t) then 1 else 0
def diwanplay_Picks_Log.lp5 (fu : Nat) (l5_0 : Int) : Nat → (List TEntry) → Int → Int → TPicks → Option (List TEntry × TPicks)
  | 0, _, _, _, _ => none
  | n_ + 1, l5_1, l5_2, l5_3, l5_4 =>
  br (decide (l5_3 < l5_0))
   (jn (fun (j11_2 : Int) (j11_4 : TPicks) =>
    bd (diwanplay_Picks_Num 3 j11_4) fun (r12_1, r12_2) =>
    br (!(r12_1 == 0))
     (bd (diwanplay_Picks_Txn fu (w64 (l5_3 + 1)) r12_2) fun (r15_1, r15_2) =>
     gd (decide (l5_1.length + ([(TEntry.mk j11_2 (r12_1 == 0) r15_1)] : List TEntry).length ≤ 4294967296)) <|
     diwanplay_Picks_Log.lp5 fu l5_0 n_ (l5_1 ++ ([(TEntry.mk j11_2 (r12_1 == 0) r15_1)] : List TEntry)) j11_2 (w64 (l5_3 + 1)) r15_2)
     (gd (decide (l5_1.length + ([(TEntry.mk j11_2 (r12_1 == 0) (TTxn.mk 0 0 [] []))] : List TEntry).length ≤ 4294967296)) <|
     diwanplay_Picks_Log.lp5 fu l5_0 n_ (l5_1 ++ ([(TEntry.mk j11_2 (r12_1 == 0) (TTxn.mk 0 0 [] []))] : List TEntry)) j11_2 (w64 (l5_3 + 1)) r12_2)) fun k11 =>
   bd (diwanplay_Picks_Num 4 l5_4) fun (r8_1, r8_2) =>
   br (r8_1 == 0)
    (k11 (w64 (l5_2 + 1)) r8_2)
    (k11 l5_2 r8_2))
   (some (l5_1, l5_4))
def diwanplay_Picks_Log.lp5_post (l5_0 : Int) (r_ : (List TEntry × TPicks)) : Wy → St → Prop := fun e τ => match r_ with
  | (y0, y1) => e = .exit 0 ∧ τ = ofL [Tm 5 (sO 6 TEntry.en y0), Ob 1000 [sS 1 e_u8 y1.l, iv y1.n]]
theorem diwanplay_Picks_Log.lp5_ok (fu : Nat) (l5_0 : Int) : ∀ (n_ : Nat) (l5_1 : List TEntry) (l5_2 : Int) (l5_3 : Int) (l5_4 : TPicks) (r_ : (List TEntry × TPicks)), diwanplay_Picks_Log.lp5 fu l5_0 n_ l5_1 l5_2 l5_3 l5_4 = some r_ → WK Try.prog diwanplay_Picks_Log.O (Ck Try.prog) (cB (cR (cL (cR (cR (cR bd9)))))) [] (ofL [Tm 0 (.ptr 1000 0), Tm 1 (iv l5_0), Tm 5 (sO 6 TEntry.en l5_1), Tm 6 (iv l5_2), Tm 7 (iv l5_3), Ob 1000 [sS 1 e_u8 l5_4.l, iv l5_4.n]]) (diwanplay_Picks_Log.lp5_post l5_0 r_) := by
 intro n_
 induction n_ with
 | zero => intro l5_1 l5_2 l5_3 l5_4 r_ h; exact no_none h
 | succ n_ ih =>
  intro l5_1 l5_2 l5_3 l5_4 r_ h
  refine kLp ?_
  refine kSq ?_
  refine kRs 63 [Tm 11 (bv (decide (l5_3 < l5_0)))] [] .n ?_
  rcases br_inv h with ⟨b7_0, h⟩ | ⟨b7_0, h⟩
  ·refine kCt b7_0 ?_
   refine kSk ?_
   refine kCd (cR (cB (cB (cR (cL (cR (cR (cR bd9)))))))) [.lp (cB (cR (cL (cR (cR (cR bd9))))))] ?_
   refine kSq ?_
   refine kBk 1 ?_
   obtain ⟨k11, hk11, h⟩ := jn_inv h
   have Jk11 : ∀ (j11_2 : Int) (j11_4 : TPicks), k11 j11_2 j11_4 = some r_ → WK Try.prog diwanplay_Picks_Log.O (Ck Try.prog) (cR (cB (cL (cR (cB (cB (cR (cL (cR (cR (cR bd9))))))))))) [.blk 1, .seq (cR (cR (cB (cB (cR (cL (cR (cR (cR bd9))))))))), .lp (cB (cR (cL (cR (cR (cR bd9))))))] (ofL [Tm 0 (.ptr 1000 0), Tm 1 (iv l5_0), Tm 5 (sO 6 TEntry.en l5_1), Tm 6 (iv j11_2), Tm 7 (iv l5_3), Ob 1000 [sS 1 e_u8 j11_4.l, iv j11_4.n]]) (diwanplay_Picks_Log.lp5_post l5_0 r_) := by
    intro j11_2 j11_4 h
    rw [hk11] at h
    obtain ⟨⟨r12_1, r12_2⟩, h12_3, h⟩ := bd_inv h
    refine kRs 31 [Tm 8 (.ptr 8 0), Ob 8 (TEntry.ob_000011 (TEntry.mk j11_2 (r12_1 == 0) (TTxn.mk 0 0 [] []))), Ob 1000 [sS 1 e_u8 r12_2.l, iv r12_2.n]] [.a ⟨iv r12_1, [[sS 1 e_u8 r12_2.l, iv r12_2.n]]⟩] (.c (Asks.of (C := Meets Try.prog) (diwanplay_Picks_Num.meets 3 j11_4 _ _ h12_3)) .n) ?_
    refine kSq ?_
    refine kRs 255 [Tm 26 (bv (!(r12_1 == 0)))] [] .n ?_
    rcases br_inv h with ⟨b14_0, h⟩ | ⟨b14_0, h⟩
    ·refine kCt b14_0 ?_
     obtain ⟨⟨r15_1, r15_2⟩, h15_3, h⟩ := bd_inv h
     refine kRc 498 [Ob 8 (TEntry.ob_000011 (TEntry.mk j11_2 (r12_1 == 0) r15_1)), Ob 1000 [sS 1 e_u8 r15_2.l, iv r15_2.n]] [.a ⟨.data (TTxn.ag_0011 r15_1), [[sS 1 e_u8 r15_2.l, iv r15_2.n]]⟩] (.c (Asks.of (C := Meets Try.prog) (diwanplay_Picks_Txn.meets fu (w64 (l5_3 + 1)) r12_2 _ _ h15_3)) .n) (cR (cR (cR (cB (cL (cR (cB (cB (cR (cL (cR (cR (cR bd9))))))))))))) [.blk 1, .seq (cR (cR (cB (cB (cR (cL (cR (cR (cR bd9))))))))), .lp (cB (cR (cL (cR (cR (cR bd9))))))] ?_
     obtain ⟨c16_1, h⟩ := gd_inv h
     refine kRc 218 [Tm 5 (sO 6 TEntry.en (l5_1 ++ ([(TEntry.mk j11_2 (r12_1 == 0) r15_1)] : List TEntry)))] [.s (.t 35) [sO 6 TEntry.en (l5_1 ++ ([(TEntry.mk j11_2 (r12_1 == 0) r15_1)] : List TEntry))]] (.c (c_al (e := TEntry.en) (f := TEntry.en) c16_1) (.c (congrArg (fun d : DV => [AV.data d]) (c_app (e := TEntry.en) (s := 6) (l := l5_1) (m := ([(TEntry.mk j11_2 (r12_1 == 0) r15_1)] : List TEntry)))) .n)) (cR (cR (cB (cB (cR (cL (cR (cR (cR bd9))))))))) [.lp (cB (cR (cL (cR (cR (cR bd9))))))] ?_
     refine kRc 31 [Tm 7 (iv (w64 (l5_3 + 1)))] [] .n (cB (cR (cL (cR (cR (cR bd9)))))) [] ?_
     exact kWk (ih (l5_1 ++ ([(TEntry.mk j11_2 (r12_1 == 0) r15_1)] : List TEntry)) j11_2 (w64 (l5_3 + 1)) r15_2 _ h)
    ·refine kCe b14_0 ?_
     refine kSk ?_
     refine kCd (cR (cR (cR (cB (cL (cR (cB (cB (cR (cL (cR (cR (cR bd9))))))))))))) [.blk 1, .seq (cR (cR (cB (cB (cR (cL (cR (cR (cR bd9))))))))), .lp (cB (cR (cL (cR (cR (cR bd9))))))] ?_
     obtain ⟨c18_1, h⟩ := gd_inv h
     refine kRc 440 [Tm 5 (sO 6 TEntry.en (l5_1 ++ ([(TEntry.mk j11_2 (r12_1 == 0) (TTxn.mk 0 0 [] []))] : List TEntry)))] [.s (.t 35) [sO 6 TEntry.en (l5_1 ++ ([(TEntry.mk j11_2 (r12_1 == 0) (TTxn.mk 0 0 [] []))] : List TEntry))]] (.c (c_al (e := TEntry.en) (f := TEntry.en) c18_1) (.c (congrArg (fun d : DV => [AV.data d]) (c_app (e := TEntry.en) (s := 6) (l := l5_1) (m := ([(TEntry.mk j11_2 (r12_1 == 0) (TTxn.mk 0 0 [] []))] : List TEntry)))) .n)) (cR (cR (cB (cB (cR (cL (cR (cR (cR bd9))))))))) [.lp (cB (cR (cL (cR (cR (cR bd9))))))] ?_
     refine kRc 31 [Tm 7 (iv (w64 (l5_3 + 1)))] [] .n (cB (cR (cL (cR (cR (cR bd9)))))) [] ?_
     exact kWk (ih (l5_1 ++ ([(TEntry.mk j11_2 (r12_1 == 0) (TTxn.mk 0 0 [] []))] : List TEntry)) j11_2 (w64 (l5_3 + 1)) r12_2 _ h)
   clear hk11
   refine kSq ?_
   obtain ⟨⟨r8_1, r8_2⟩, h8_3, h⟩ := bd_inv h
   refine kRs 62 [Tm 16 (bv (r8_1 == 0)), Ob 1000 [sS 1 e_u8 r8_2.l, iv r8_2.n]] [.a ⟨iv r8_1, [[sS 1 e_u8 r8_2.l, iv r8_2.n]]⟩] (.c (Asks.of (C := Meets Try.prog) (diwanplay_Picks_Num.meets 4 l5_4 _ _ h8_3)) .n) ?_
   rcases br_inv h with ⟨b9_0, h⟩ | ⟨b9_0, h⟩
   ·refine kCt b9_0 ?_
    refine kRc 94 [Tm 6 (iv (w64 (l5_2 + 1)))] [] .n (cR (cB (cL (cR (cB (cB (cR (cL (cR (cR (cR bd9))))))))))) [.blk 1, .seq (cR (cR (cB (cB (cR (cL (cR (cR (cR bd9))))))))), .lp (cB (cR (cL (cR (cR (cR bd9))))))] ?_
    exact kWk (Jk11 (w64 (l5_2 + 1)) r8_2 h)
   ·refine kCe b9_0 ?_
    refine kSk ?_
    refine kCd (cR (cB (cL (cR (cB (cB (cR (cL (cR (cR (cR bd9))))))))))) [.blk 1, .seq (cR (cR (cB (cB (cR (cL (cR (cR (cR bd9))))))))), .lp (cB (cR (cL (cR (cR (cR bd9))))))] ?_
    exact kWk (Jk11 l5_2 r8_2 h)
  ·refine kCe b7_0 ?_
   cases some_inj h
   refine kWo ?_
   refine kXt 0 ?_
   exact kOut
def diwanplay_Picks_Log (fu : Nat) (n_v : Int) (o0_v : TPicks) : Option (List TEntry × TPicks) :=
 bd (diwanplay_Picks_Log.lp5 fu n_v fu [] 1 0 o0_v) fun (y20_0, y20_1) =>
 some (y20_0, y20_1)
theorem diwanplay_Picks_Log.meets (fu : Nat) (n_v : Int) (o0_v : TPicks) (z0 : List TEntry) (z1 : TPicks) (h : diwanplay_Picks_Log fu n_v o0_v = some (z0, z1)) : Meets Try.prog ⟨9, [.ptr 1000 0, iv n_v], [[sS 1 e_u8 o0_v.l, iv o0_v.n]]⟩ ⟨sO 6 TEntry.en z0, [[sS 1 e_u8 z1.l, iv z1.n]]⟩ := by
 refine kMt hmix diwanplay_Picks_Log.O Try.f9 bd9 7 ?_
 unfold diwanplay_Picks_Log at h
 refine kRs 7 [] [] .n ?_
 refine kRs 7 [Tm 5 (.data (.slc true (some true) 6 (List.map TEntry.en [])))] [] .n ?_
 refine kRs 15 [Tm 6 (iv 1)] [] .n ?_
 refine kSq ?_
 refine kRs 31 [Tm 7 (iv 0)] [] .n ?_
 refine kBk 0 ?_
 obtain ⟨o20, ho20, h⟩ := bd_inv h
 refine kUs (diwanplay_Picks_Log.lp5_ok fu n_v _ [] 1 0 o0_v _ ho20) ?_
 intro e_ τ_ hp_
 obtain ⟨y20_0, y20_1⟩ := o20
 obtain ⟨rfl, rfl⟩ := hp_
 refine kCd (cR (cR (cR (cR bd9)))) [] ?_
 refine kRs 2 [Tm 4 (sO 6 TEntry.en y20_0)] [] .n ?_
 refine kRt ?_
 have h_0 := some_inj h
 obtain ⟨g_1, h_1⟩ := Prod.mk.inj h_0
 subst g_1
 subst h_1
 exact kFr
def bd13 : Code := (Try.f13.body).getD .skip
def diwanref13_SameInts.O : Nat → Nat := fun t => bif ([4, 5] : List Nat).any (Nat.beq t) then 1 else 0
def diwanref13_SameInts.lp6 (fu : Nat) (l6_0 : List Int) (l6_1 : List Int) : Nat → Int → Option (Unit ⊕ Unit)
  | 0, _ => none
  | n_ + 1, l6_2 =>
  br (decide (l6_2 < (l6_0.length : Int)))
   (ix l6_0 l6_2 fun x9_1 =>
   ix l6_1 l6_2 fun x9_4 =>
   br (x9_1 != x9_4)
    (some (.inr ()))
    (diwanref13_SameInts.lp6 fu l6_0 l6_1 n_ (w64 (l6_2 + 1))))
   (some (.inl ()))
def diwanref13_SameInts.lp6_post (l6_0 : List Int) (l6_1 : List Int) (r_ : (Unit ⊕ Unit)) : Wy → St → Prop := fun e τ => match r_ with
  | .inl _ => e = .exit 0 ∧ τ = ofL []
  | .inr _ => e = .ret ∧ τ = ofL [Tm 4 (bv false)]
theorem diwanref13_SameInts.lp6_ok (fu : Nat) (l6_0 : List Int) (l6_1 : List Int) : ∀ (n_ : Nat) (l6_2 : Int) (r_ : (Unit ⊕ Unit)), diwanref13_SameInts.lp6 fu l6_0 l6_1 n_ l6_2 = some r_ → WK Try.prog diwanref13_SameInts.O (Ck Try.prog) (cB (cR (cL (cR (cR bd13))))) [] (ofL [Tm 0 (sS 1 e_i64 l6_0), Tm 1 (sS 1 e_i64 l6_1), Tm 5 (iv l6_2)]) (diwanref13_SameInts.lp6_post l6_0 l6_1 r_) := by
 intro n_
 induction n_ with
 | zero => intro l6_2 r_ h; exact no_none h
 | succ n_ ih =>
  intro l6_2 r_ h
  refine kLp ?_
  refine kSq ?_
  refine kRs 7 [Tm 14 (bv (decide (l6_2 < (l6_0.length : Int))))] [.s (.t 13) [iv (l6_0.length : Int)]] (.c (c_len (e := e_i64) (l := l6_0)) .n) ?_
  rcases br_inv h with ⟨b8_0, h⟩ | ⟨b8_0, h⟩
  ·refine kCt b8_0 ?_
   refine kSk ?_
   refine kCd (cR (cB (cB (cR (cL (cR (cR bd13))))))) [.lp (cB (cR (cL (cR (cR bd13)))))] ?_
   refine kSq ?_
   refine kBk 1 ?_
   obtain ⟨x9_1, a9_2, e9_3, h⟩ := ix_inv h
   obtain ⟨x9_4, a9_5, e9_6, h⟩ := ix_inv h
   refine kRs 14 [Tm 25 (bv (x9_1 != x9_4))] [.c (e_i64 x9_1), .c (e_i64 x9_4)] (.c (c_ix (e := e_i64) a9_2 e9_3) (.c (c_el (e := e_i64) e9_3) (.c (c_ix (e := e_i64) a9_5 e9_6) (.c (c_el (e := e_i64) e9_6) (.c rT .n))))) ?_
   rcases br_inv h with ⟨b10_0, h⟩ | ⟨b10_0, h⟩
   ·refine kCt b10_0 ?_
    refine kRs 0 [Tm 4 (bv false)] [] .n ?_
    cases some_inj h
    refine kWo ?_
    refine kRt ?_
    exact kOut
   ·refine kCe b10_0 ?_
    refine kSk ?_
    refine kCd (cR (cR (cB (cB (cR (cL (cR (cR bd13)))))))) [.lp (cB (cR (cL (cR (cR bd13)))))] ?_
    refine kRc 6 [Tm 5 (iv (w64 (l6_2 + 1)))] [] .n (cB (cR (cL (cR (cR bd13))))) [] ?_
    exact kWk (ih (w64 (l6_2 + 1)) _ h)
  ·refine kCe b8_0 ?_
   cases some_inj h
   refine kWo ?_
   refine kXt 0 ?_
   exact kOut
def diwanref13_SameInts (fu : Nat) (a : List Int) (b : List Int) : Option Bool :=
 br ((a.length : Int) != (b.length : Int))
  (some false)
  (bd (diwanref13_SameInts.lp6 fu a b fu 0) fun o_ => (match o_ with
  | .inl _ =>
   some true
  | .inr _ =>
   some false))
theorem diwanref13_SameInts.meets (fu : Nat) (a : List Int) (b : List Int) (z0 : Bool) (h : diwanref13_SameInts fu a b = some z0) : Meets Try.prog ⟨13, [sS 1 e_i64 a, sS 1 e_i64 b], []⟩ ⟨bv z0, []⟩ := by
 refine kMt hmix diwanref13_SameInts.O Try.f13 bd13 3 ?_
 unfold diwanref13_SameInts at h
 refine kRs 3 [] [] .n ?_
 refine kSq ?_
 refine kRs 3 [Tm 10 (bv ((a.length : Int) != (b.length : Int)))] [.s (.t 7) [iv (a.length : Int)], .s (.t 9) [iv (b.length : Int)]] (.c (c_len (e := e_i64) (l := a)) (.c (c_len (e := e_i64) (l := b)) .n)) ?_
 rcases br_inv h with ⟨b3_0, h⟩ | ⟨b3_0, h⟩
 ·refine kCt b3_0 ?_
  refine kRs 0 [Tm 4 (bv false)] [] .n ?_
  refine kRt ?_
  have h_ := some_inj h
  subst h_
  exact kFr
 ·refine kCe b3_0 ?_
  refine kSk ?_
  refine kCd (cR (cR bd13)) [] ?_
  refine kSq ?_
  refine kRs 6 [Tm 5 (iv 0)] [] .n ?_
  refine kBk 0 ?_
  obtain ⟨o13, ho13, h⟩ := bd_inv h
  refine kUs (diwanref13_SameInts.lp6_ok fu a b _ 0 _ ho13) ?_
  intro e_ τ_ hp_
  rcases o13 with o13 | o13
  ·obtain ⟨⟩ := o13
   obtain ⟨rfl, rfl⟩ := hp_
   refine kCd (cR (cR (cR bd13))) [] ?_
   refine kRs 0 [Tm 4 (bv true)] [] .n ?_
   refine kRt ?_
   have h_ := some_inj h
   subst h_
   exact kFr
  ·obtain ⟨⟩ := o13
   obtain ⟨rfl, rfl⟩ := hp_
   have h_ := some_inj h
   subst h_
   exact kFr
def bd6 : Code := (Try.f6.body).getD .skip
def diwanlaw13_EpochJoins.O : Nat → Nat := fun t => bif ([8, 9, 10, 11, 12, 13, 14, 15, 17, 40, 43, 44] : List Nat).any (Nat.beq t) then 1 else 0
def diwanlaw13_EpochJoins.lp31 (fu : Nat) (l31_0 : List TEntry) (l31_1 : List (List Int)) (l31_2 : List (List Int)) (l31_3 : List (List Int)) (l31_4 : Int) (l31_5 : List Int) : Nat → Int → Option (Unit ⊕ Unit)
  | 0, _ => none
  | n_ + 1, l31_6 =>
  br (decide (l31_6 < (l31_5.length : Int)))
   (ix l31_3 l31_4 fun x34_1 =>
   ix x34_1 l31_6 fun x34_4 =>
   ix l31_5 l31_6 fun x34_7 =>
   br (x34_4 != (w64 ((w64 (x34_7 + (l31_0.length : Int))) + 1)))
    (some (.inr ()))
    (diwanlaw13_EpochJoins.lp31 fu l31_0 l31_1 l31_2 l31_3 l31_4 l31_5 n_ (w64 (l31_6 + 1))))
   (some (.inl ()))
def diwanlaw13_EpochJoins.lp31_post (l31_0 : List TEntry) (l31_1 : List (List Int)) (l31_2 : List (List Int)) (l31_3 : List (List Int)) (l31_4 : Int) (l31_5 : List Int) (r_ : (Unit ⊕ Unit)) : Wy → St → Prop := fun e τ => match r_ with
  | .inl _ => e = .exit 2 ∧ τ = ofL [Tm 9 (sS 6 TEntry.en l31_0), Tm 12 (sS 1 (e_l 1 e_i64) l31_1), Tm 13 (sS 1 (e_l 1 e_i64) l31_2), Tm 14 (sS 1 (e_l 1 e_i64) l31_3), Tm 15 (iv l31_4)]
  | .inr _ => e = .ret ∧ τ = ofL [Tm 8 (bv false)]
theorem diwanlaw13_EpochJoins.lp31_ok (fu : Nat) (l31_0 : List TEntry) (l31_1 : List (List Int)) (l31_2 : List (List Int)) (l31_3 : List (List Int)) (l31_4 : Int) (l31_5 : List Int) : ∀ (n_ : Nat) (l31_6 : Int) (r_ : (Unit ⊕ Unit)), diwanlaw13_EpochJoins.lp31 fu l31_0 l31_1 l31_2 l31_3 l31_4 l31_5 n_ l31_6 = some r_ → WK Try.prog diwanlaw13_EpochJoins.O (Ck Try.prog) (cB (cR (cR (cR (cR (cB (cL (cR (cB (cB (cR (cL (cR (cR (cR (cR (cR (cR (cR bd6))))))))))))))))))) [] (ofL [Tm 9 (sS 6 TEntry.en l31_0), Tm 12 (sS 1 (e_l 1 e_i64) l31_1), Tm 13 (sS 1 (e_l 1 e_i64) l31_2), Tm 14 (sS 1 (e_l 1 e_i64) l31_3), Tm 15 (iv l31_4), Tm 16 (sS 1 e_i64 l31_5), Tm 17 (iv l31_6)]) (diwanlaw13_EpochJoins.lp31_post l31_0 l31_1 l31_2 l31_3 l31_4 l31_5 r_) := by
 intro n_
 induction n_ with
 | zero => intro l31_6 r_ h; exact no_none h
 | succ n_ ih =>
  intro l31_6 r_ h
  refine kLp ?_
  refine kSq ?_
  refine kRs 127 [Tm 111 (bv (decide (l31_6 < (l31_5.length : Int))))] [.s (.t 110) [iv (l31_5.length : Int)]] (.c (c_len (e := e_i64) (l := l31_5)) .n) ?_
  rcases br_inv h with ⟨b33_0, h⟩ | ⟨b33_0, h⟩
  ·refine kCt b33_0 ?_
   refine kSk ?_
   refine kCd (cR (cB (cB (cR (cR (cR (cR (cB (cL (cR (cB (cB (cR (cL (cR (cR (cR (cR (cR (cR (cR bd6))))))))))))))))))))) [.lp (cB (cR (cR (cR (cR (cB (cL (cR (cB (cB (cR (cL (cR (cR (cR (cR (cR (cR (cR bd6)))))))))))))))))))] ?_
   refine kSq ?_
   refine kBk 3 ?_
   obtain ⟨x34_1, a34_2, e34_3, h⟩ := ix_inv h
   obtain ⟨x34_4, a34_5, e34_6, h⟩ := ix_inv h
   obtain ⟨x34_7, a34_8, e34_9, h⟩ := ix_inv h
   refine kRs 254 [Tm 129 (bv (x34_4 != (w64 ((w64 (x34_7 + (l31_0.length : Int))) + 1))))] [.c ((e_l 1 e_i64) x34_1), .c (e_i64 x34_4), .c (e_i64 x34_7), .s (.t 126) [iv (l31_0.length : Int)]] (.c (c_ix (e := (e_l 1 e_i64)) a34_2 e34_3) (.c (c_el (e := (e_l 1 e_i64)) e34_3) (.c (c_ix (e := e_i64) a34_5 e34_6) (.c (c_el (e := e_i64) e34_6) (.c (c_ix (e := e_i64) a34_8 e34_9) (.c (c_el (e := e_i64) e34_9) (.c (c_len (e := TEntry.en) (l := l31_0)) (.c rT .n)))))))) ?_
   rcases br_inv h with ⟨b35_0, h⟩ | ⟨b35_0, h⟩
   ·refine kCt b35_0 ?_
    refine kRs 0 [Tm 8 (bv false)] [] .n ?_
    cases some_inj h
    refine kWo ?_
    refine kRt ?_
    exact kOut
   ·refine kCe b35_0 ?_
    refine kSk ?_
    refine kCd (cR (cR (cB (cB (cR (cR (cR (cR (cB (cL (cR (cB (cB (cR (cL (cR (cR (cR (cR (cR (cR (cR bd6)))))))))))))))))))))) [.lp (cB (cR (cR (cR (cR (cB (cL (cR (cB (cB (cR (cL (cR (cR (cR (cR (cR (cR (cR bd6)))))))))))))))))))] ?_
    refine kRc 126 [Tm 17 (iv (w64 (l31_6 + 1)))] [] .n (cB (cR (cR (cR (cR (cB (cL (cR (cB (cB (cR (cL (cR (cR (cR (cR (cR (cR (cR bd6))))))))))))))))))) [] ?_
    exact kWk (ih (w64 (l31_6 + 1)) _ h)
  ·refine kCe b33_0 ?_
   cases some_inj h
   refine kWo ?_
   refine kXt 2 ?_
   exact kOut
def diwanlaw13_EpochJoins.lp17 (fu : Nat) (l17_0 : List TEntry) (l17_1 : List (List Int)) (l17_2 : List (List Int)) (l17_3 : List (List Int)) : Nat → Int → Option (Unit ⊕ Unit)
  | 0, _ => none
  | n_ + 1, l17_4 =>
  br (decide (l17_4 < (l17_3.length : Int)))
   (br (decide (l17_4 < (l17_1.length : Int)))
    (ix l17_3 l17_4 fun x22_1 =>
    ix l17_1 l17_4 fun x22_4 =>
    bd (diwanref13_SameInts fu x22_1 x22_4) fun r22_7 =>
    br (!r22_7)
     (some (.inr ()))
     (diwanlaw13_EpochJoins.lp17 fu l17_0 l17_1 l17_2 l17_3 n_ (w64 (l17_4 + 1))))
    (ix l17_2 (w64 (l17_4 - (l17_1.length : Int))) fun x26_1 =>
    ix l17_3 l17_4 fun x27_1 =>
    br ((x27_1.length : Int) != (x26_1.length : Int))
     (some (.inr ()))
     (bd (diwanlaw13_EpochJoins.lp31 fu l17_0 l17_1 l17_2 l17_3 l17_4 x26_1 fu 0) fun o_ => (match o_ with
     | .inl _ =>
      diwanlaw13_EpochJoins.lp17 fu l17_0 l17_1 l17_2 l17_3 n_ (w64 (l17_4 + 1))
     | .inr _ =>
      some (.inr ())))))
   (some (.inl ()))
def diwanlaw13_EpochJoins.lp17_post (l17_0 : List TEntry) (l17_1 : List (List Int)) (l17_2 : List (List Int)) (l17_3 : List (List Int)) (r_ : (Unit ⊕ Unit)) : Wy → St → Prop := fun e τ => match r_ with
  | .inl _ => e = .exit 0 ∧ τ = ofL []
  | .inr _ => e = .ret ∧ τ = ofL [Tm 8 (bv false)]
theorem diwanlaw13_EpochJoins.lp17_ok (fu : Nat) (l17_0 : List TEntry) (l17_1 : List (List Int)) (l17_2 : List (List Int)) (l17_3 : List (List Int)) : ∀ (n_ : Nat) (l17_4 : Int) (r_ : (Unit ⊕ Unit)), diwanlaw13_EpochJoins.lp17 fu l17_0 l17_1 l17_2 l17_3 n_ l17_4 = some r_ → WK Try.prog diwanlaw13_EpochJoins.O (Ck Try.prog) (cB (cR (cL (cR (cR (cR (cR (cR (cR (cR bd6)))))))))) [] (ofL [Tm 9 (sS 6 TEntry.en l17_0), Tm 12 (sS 1 (e_l 1 e_i64) l17_1), Tm 13 (sS 1 (e_l 1 e_i64) l17_2), Tm 14 (sS 1 (e_l 1 e_i64) l17_3), Tm 15 (iv l17_4)]) (diwanlaw13_EpochJoins.lp17_post l17_0 l17_1 l17_2 l17_3 r_) := by
 intro n_
 induction n_ with
 | zero => intro l17_4 r_ h; exact no_none h
 | succ n_ ih =>
  intro l17_4 r_ h
  refine kLp ?_
  refine kSq ?_
  refine kRs 31 [Tm 76 (bv (decide (l17_4 < (l17_3.length : Int))))] [.s (.t 75) [iv (l17_3.length : Int)]] (.c (c_len (e := (e_l 1 e_i64)) (l := l17_3)) .n) ?_
  rcases br_inv h with ⟨b19_0, h⟩ | ⟨b19_0, h⟩
  ·refine kCt b19_0 ?_
   refine kSk ?_
   refine kCd (cR (cB (cB (cR (cL (cR (cR (cR (cR (cR (cR (cR bd6)))))))))))) [.lp (cB (cR (cL (cR (cR (cR (cR (cR (cR (cR bd6))))))))))] ?_
   refine kSq ?_
   refine kBk 1 ?_
   refine kSq ?_
   refine kRs 62 [Tm 82 (bv (decide (l17_4 < (l17_1.length : Int))))] [.s (.t 81) [iv (l17_1.length : Int)]] (.c (c_len (e := (e_l 1 e_i64)) (l := l17_1)) .n) ?_
   rcases br_inv h with ⟨b21_0, h⟩ | ⟨b21_0, h⟩
   ·refine kCt b21_0 ?_
    refine kSq ?_
    obtain ⟨x22_1, a22_2, e22_3, h⟩ := ix_inv h
    obtain ⟨x22_4, a22_5, e22_6, h⟩ := ix_inv h
    obtain ⟨r22_7, h22_8, h⟩ := bd_inv h
    refine kRs 62 [Tm 92 (bv (!r22_7))] [.c ((e_l 1 e_i64) x22_1), .c ((e_l 1 e_i64) x22_4), .a ⟨bv r22_7, []⟩] (.c (c_ix (e := (e_l 1 e_i64)) a22_2 e22_3) (.c (c_el (e := (e_l 1 e_i64)) e22_3) (.c (c_ix (e := (e_l 1 e_i64)) a22_5 e22_6) (.c (c_el (e := (e_l 1 e_i64)) e22_6) (.c (Asks.of (C := Meets Try.prog) (diwanref13_SameInts.meets fu x22_1 x22_4 _ h22_8)) (.c rT .n)))))) ?_
    rcases br_inv h with ⟨b23_0, h⟩ | ⟨b23_0, h⟩
    ·refine kCt b23_0 ?_
     refine kRs 0 [Tm 8 (bv false)] [] .n ?_
     cases some_inj h
     refine kWo ?_
     refine kRt ?_
     exact kOut
    ·refine kCe b23_0 ?_
     refine kSk ?_
     refine kCd (cR (cT (cR (cL (cB (cL (cR (cB (cB (cR (cL (cR (cR (cR (cR (cR (cR (cR bd6)))))))))))))))))) [.seq (cR (cB (cL (cR (cB (cB (cR (cL (cR (cR (cR (cR (cR (cR (cR bd6))))))))))))))), .blk 1, .seq (cR (cR (cB (cB (cR (cL (cR (cR (cR (cR (cR (cR (cR bd6))))))))))))), .lp (cB (cR (cL (cR (cR (cR (cR (cR (cR (cR bd6))))))))))] ?_
     refine kXt 1 ?_
     refine kCd (cR (cR (cB (cB (cR (cL (cR (cR (cR (cR (cR (cR (cR bd6))))))))))))) [.lp (cB (cR (cL (cR (cR (cR (cR (cR (cR (cR bd6))))))))))] ?_
     refine kRc 30 [Tm 15 (iv (w64 (l17_4 + 1)))] [] .n (cB (cR (cL (cR (cR (cR (cR (cR (cR (cR bd6)))))))))) [] ?_
     exact kWk (ih (w64 (l17_4 + 1)) _ h)
   ·refine kCe b21_0 ?_
    refine kSk ?_
    refine kCd (cR (cB (cL (cR (cB (cB (cR (cL (cR (cR (cR (cR (cR (cR (cR bd6))))))))))))))) [.blk 1, .seq (cR (cR (cB (cB (cR (cL (cR (cR (cR (cR (cR (cR (cR bd6))))))))))))), .lp (cB (cR (cL (cR (cR (cR (cR (cR (cR (cR bd6))))))))))] ?_
    obtain ⟨x26_1, a26_2, e26_3, h⟩ := ix_inv h
    refine kRs 62 [Tm 16 (sS 1 e_i64 x26_1)] [.s (.t 96) [iv (l17_1.length : Int)], .c ((e_l 1 e_i64) x26_1)] (.c (c_len (e := (e_l 1 e_i64)) (l := l17_1)) (.c (c_ix (e := (e_l 1 e_i64)) a26_2 e26_3) (.c (c_el (e := (e_l 1 e_i64)) e26_3) .n))) ?_
    refine kSq ?_
    obtain ⟨x27_1, a27_2, e27_3, h⟩ := ix_inv h
    refine kRs 63 [Tm 107 (bv ((x27_1.length : Int) != (x26_1.length : Int)))] [.c ((e_l 1 e_i64) x27_1), .s (.t 104) [iv (x27_1.length : Int)], .s (.t 106) [iv (x26_1.length : Int)]] (.c (c_ix (e := (e_l 1 e_i64)) a27_2 e27_3) (.c (c_el (e := (e_l 1 e_i64)) e27_3) (.c (c_len (e := e_i64) (l := x27_1)) (.c (c_len (e := e_i64) (l := x26_1)) .n)))) ?_
    rcases br_inv h with ⟨b28_0, h⟩ | ⟨b28_0, h⟩
    ·refine kCt b28_0 ?_
     refine kRs 0 [Tm 8 (bv false)] [] .n ?_
     cases some_inj h
     refine kWo ?_
     refine kRt ?_
     exact kOut
    ·refine kCe b28_0 ?_
     refine kSk ?_
     refine kCd (cR (cR (cR (cB (cL (cR (cB (cB (cR (cL (cR (cR (cR (cR (cR (cR (cR bd6))))))))))))))))) [.blk 1, .seq (cR (cR (cB (cB (cR (cL (cR (cR (cR (cR (cR (cR (cR bd6))))))))))))), .lp (cB (cR (cL (cR (cR (cR (cR (cR (cR (cR bd6))))))))))] ?_
     refine kRs 126 [Tm 17 (iv 0)] [] .n ?_
     refine kBk 2 ?_
     obtain ⟨o38, ho38, h⟩ := bd_inv h
     refine kUs (diwanlaw13_EpochJoins.lp31_ok fu l17_0 l17_1 l17_2 l17_3 l17_4 x26_1 _ 0 _ ho38) ?_
     intro e_ τ_ hp_
     rcases o38 with o38 | o38
     ·obtain ⟨⟩ := o38
      obtain ⟨rfl, rfl⟩ := hp_
      refine kCd (cR (cR (cB (cB (cR (cL (cR (cR (cR (cR (cR (cR (cR bd6))))))))))))) [.lp (cB (cR (cL (cR (cR (cR (cR (cR (cR (cR bd6))))))))))] ?_
      refine kRc 15 [Tm 15 (iv (w64 (l17_4 + 1)))] [] .n (cB (cR (cL (cR (cR (cR (cR (cR (cR (cR bd6)))))))))) [] ?_
      exact kWk (ih (w64 (l17_4 + 1)) _ h)
     ·obtain ⟨⟩ := o38
      obtain ⟨rfl, rfl⟩ := hp_
      cases some_inj h
      exact kOut
  ·refine kCe b19_0 ?_
   cases some_inj h
   refine kWo ?_
   refine kXt 0 ?_
   exact kOut
def diwanlaw13_EpochJoins (fu : Nat) (a : List Int) (b : List Int) (n_v : Int) (m : Int) : Option Bool :=
 bd (diwanlaw13_begun) fun r2_1 =>
 br (!r2_1)
  (some false)
  (br (decide ((a.length : Int) > 100))
   (some true)
   (br (decide ((b.length : Int) > 100))
    (some true)
    (bd (diwanplay_Made a) fun r9_1 =>
    bd (diwanplay_Picks_Log fu (w64 (Int.tmod n_v 10)) r9_1) fun (r9_3, r9_4) =>
    bd (diwanplay_Made b) fun r9_6 =>
    bd (diwanplay_Picks_Log fu (w64 (Int.tmod m 10)) r9_6) fun (r9_8, r9_9) =>
    gd (decide (([] : List TEntry).length + r9_3.length ≤ 4294967296)) <|
    gd (decide (r9_3.length + ([(TEntry.mk 9 true (TTxn.mk 0 0 [] []))] : List TEntry).length ≤ 4294967296)) <|
    gd (decide ((r9_3 ++ ([(TEntry.mk 9 true (TTxn.mk 0 0 [] []))] : List TEntry)).length + r9_8.length ≤ 4294967296)) <|
    bd (epoch_Cut r9_3) fun r11_1 =>
    bd (epoch_Cut r9_8) fun r11_3 =>
    bd (epoch_Cut ((r9_3 ++ ([(TEntry.mk 9 true (TTxn.mk 0 0 [] []))] : List TEntry)) ++ r9_8)) fun r11_5 =>
    br ((r11_5.length : Int) != (w64 ((r11_1.length : Int) + (r11_3.length : Int))))
     (some false)
     (bd (epoch_Sealed ((r9_3 ++ ([(TEntry.mk 9 true (TTxn.mk 0 0 [] []))] : List TEntry)) ++ r9_8)) fun r12_2 =>
     bd (epoch_Sealed r9_3) fun r12_4 =>
     bd (epoch_Sealed r9_8) fun r12_6 =>
     br (r12_2 != (w64 ((w64 (r12_4 + r12_6)) + 1)))
      (some false)
      (bd (diwanlaw13_EpochJoins.lp17 fu r9_3 r11_1 r11_3 r11_5 fu 0) fun o_ => (match o_ with
      | .inl _ =>
       some true
      | .inr _ =>
       some false))))))
theorem diwanlaw13_EpochJoins.meets (fu : Nat) (a : List Int) (b : List Int) (n_v : Int) (m : Int) (z0 : Bool) (h : diwanlaw13_EpochJoins fu a b n_v m = some z0) : Meets Try.prog ⟨6, [sS 1 e_u8 a, sS 1 e_u8 b, .data (.val (.int .u8 n_v)), .data (.val (.int .u8 m))], []⟩ ⟨bv z0, []⟩ := by
 refine kMt hmix diwanlaw13_EpochJoins.O Try.f6 bd6 15 ?_
 unfold diwanlaw13_EpochJoins at h
 refine kRs 15 [] [] .n ?_
 refine kSq ?_
 obtain ⟨r2_1, h2_2, h⟩ := bd_inv h
 refine kRs 15 [Tm 19 (bv (!r2_1))] [.a ⟨bv r2_1, []⟩] (.c (Asks.of (C := Meets Try.prog) (diwanlaw13_begun.meets _ h2_2)) .n) ?_
 rcases br_inv h with ⟨b3_0, h⟩ | ⟨b3_0, h⟩
 ·refine kCt b3_0 ?_
  refine kRs 0 [Tm 8 (bv false)] [] .n ?_
  refine kRt ?_
  have h_ := some_inj h
  subst h_
  exact kFr
 ·refine kCe b3_0 ?_
  refine kSk ?_
  refine kCd (cR (cR bd6)) [] ?_
  refine kSq ?_
  rcases br_inv h with ⟨b5_1, h⟩ | ⟨b5_1, h⟩
  ·refine kRs 30 [Tm 27 (bv true)] (.s (.t 21) [iv (a.length : Int)] :: (rp 4 (.b true) [])) (.c (c_len (e := e_u8) (l := a)) (.r 4 b5_1 .n)) ?_
   refine kCt rT ?_
   refine kRs 0 [Tm 8 (bv true)] [] .n ?_
   refine kRt ?_
   have h_ := some_inj h
   subst h_
   exact kFr
  ·refine kRs 30 [Tm 27 (bv (decide ((b.length : Int) > 100)))] [.s (.t 21) [iv (a.length : Int)], .b false, .b false, .s (.t 25) [iv (b.length : Int)], .b false, .b false] (.c (c_len (e := e_u8) (l := a)) (.r 2 b5_1 (.c (c_len (e := e_u8) (l := b)) (.r 2 b5_1 .n)))) ?_
   rcases br_inv h with ⟨b7_0, h⟩ | ⟨b7_0, h⟩
   ·refine kCt b7_0 ?_
    refine kRs 0 [Tm 8 (bv true)] [] .n ?_
    refine kRt ?_
    have h_ := some_inj h
    subst h_
    exact kFr
   ·refine kCe b7_0 ?_
    refine kSk ?_
    refine kCd (cR (cR (cR bd6))) [] ?_
    obtain ⟨r9_1, h9_2, h⟩ := bd_inv h
    obtain ⟨⟨r9_3, r9_4⟩, h9_5, h⟩ := bd_inv h
    obtain ⟨r9_6, h9_7, h⟩ := bd_inv h
    obtain ⟨⟨r9_8, r9_9⟩, h9_10, h⟩ := bd_inv h
    refine kRs 0 [Tm 9 (sO 6 TEntry.en r9_3), Tm 10 (sO 6 TEntry.en r9_8)] [.a ⟨.ptr 1000 0, [[sS 1 e_u8 r9_1.l, iv r9_1.n]]⟩, .a ⟨sO 6 TEntry.en r9_3, [[sS 1 e_u8 r9_4.l, iv r9_4.n]]⟩, .a ⟨.ptr 1000 0, [[sS 1 e_u8 r9_6.l, iv r9_6.n]]⟩, .a ⟨sO 6 TEntry.en r9_8, [[sS 1 e_u8 r9_9.l, iv r9_9.n]]⟩] (.c (Asks.of (C := Meets Try.prog) (diwanplay_Made.meets a _ h9_2)) (.c rT (.c (Asks.of (C := Meets Try.prog) (diwanplay_Picks_Log.meets fu (w64 (Int.tmod n_v 10)) r9_1 _ _ h9_5)) (.c (Asks.of (C := Meets Try.prog) (diwanplay_Made.meets b _ h9_7)) (.c rT (.c (Asks.of (C := Meets Try.prog) (diwanplay_Picks_Log.meets fu (w64 (Int.tmod m 10)) r9_6 _ _ h9_10)) .n)))))) ?_
    obtain ⟨c10_1, h⟩ := gd_inv h
    obtain ⟨c10_2, h⟩ := gd_inv h
    obtain ⟨c10_3, h⟩ := gd_inv h
    refine kRs 3 [Tm 11 (sO 6 TEntry.en ((r9_3 ++ ([(TEntry.mk 9 true (TTxn.mk 0 0 [] []))] : List TEntry)) ++ r9_8))] [.s (.t 45) [sO 6 TEntry.en (r9_3 ++ ([(TEntry.mk 9 true (TTxn.mk 0 0 [] []))] : List TEntry))], .s (.t 47) [sO 6 TEntry.en ((r9_3 ++ ([(TEntry.mk 9 true (TTxn.mk 0 0 [] []))] : List TEntry)) ++ r9_8)]] (.c (c_al (e := TEntry.en) (f := TEntry.en) c10_1) (.c (c_al (e := TEntry.en) (f := TEntry.en) c10_2) (.c (congrArg (fun d : DV => [AV.data d]) (c_app (e := TEntry.en) (s := 6) (l := r9_3) (m := ([(TEntry.mk 9 true (TTxn.mk 0 0 [] []))] : List TEntry)))) (.c (c_al (e := TEntry.en) (f := TEntry.en) c10_3) (.c (congrArg (fun d : DV => [AV.data d]) (c_app (e := TEntry.en) (s := 6) (l := (r9_3 ++ ([(TEntry.mk 9 true (TTxn.mk 0 0 [] []))] : List TEntry))) (m := r9_8))) .n))))) ?_
    obtain ⟨r11_1, h11_2, h⟩ := bd_inv h
    obtain ⟨r11_3, h11_4, h⟩ := bd_inv h
    obtain ⟨r11_5, h11_6, h⟩ := bd_inv h
    refine kRs 0 [Tm 9 (sS 6 TEntry.en r9_3), Tm 10 (sS 6 TEntry.en r9_8), Tm 11 (sS 6 TEntry.en ((r9_3 ++ ([(TEntry.mk 9 true (TTxn.mk 0 0 [] []))] : List TEntry)) ++ r9_8)), Tm 12 (sS 1 (e_l 1 e_i64) r11_1), Tm 13 (sS 1 (e_l 1 e_i64) r11_3), Tm 14 (sS 1 (e_l 1 e_i64) r11_5)] [.a ⟨sS 1 (e_l 1 e_i64) r11_1, []⟩, .a ⟨sS 1 (e_l 1 e_i64) r11_3, []⟩, .a ⟨sS 1 (e_l 1 e_i64) r11_5, []⟩] (.c (Asks.of (C := Meets Try.prog) (epoch_Cut.meets r9_3 _ h11_2)) (.c (Asks.of (C := Meets Try.prog) (epoch_Cut.meets r9_8 _ h11_4)) (.c (Asks.of (C := Meets Try.prog) (epoch_Cut.meets ((r9_3 ++ ([(TEntry.mk 9 true (TTxn.mk 0 0 [] []))] : List TEntry)) ++ r9_8) _ h11_6)) .n))) ?_
    refine kSq ?_
    rcases br_inv h with ⟨b12_1, h⟩ | ⟨b12_1, h⟩
    ·refine kRs 57 [Tm 72 (bv true)] (.s (.t 55) [iv (r11_5.length : Int)] :: (.s (.t 57) [iv (r11_1.length : Int)] :: (.s (.t 59) [iv (r11_3.length : Int)] :: (rp 10 (.b true) [])))) (.c (c_len (e := (e_l 1 e_i64)) (l := r11_5)) (.c (c_len (e := (e_l 1 e_i64)) (l := r11_1)) (.c (c_len (e := (e_l 1 e_i64)) (l := r11_3)) (.r 10 b12_1 .n)))) ?_
     refine kCt rT ?_
     refine kRs 0 [Tm 8 (bv false)] [] .n ?_
     refine kRt ?_
     have h_ := some_inj h
     subst h_
     exact kFr
    ·obtain ⟨r12_2, h12_3, h⟩ := bd_inv h
     obtain ⟨r12_4, h12_5, h⟩ := bd_inv h
     obtain ⟨r12_6, h12_7, h⟩ := bd_inv h
     refine kRs 57 [Tm 72 (bv (r12_2 != (w64 ((w64 (r12_4 + r12_6)) + 1))))] (.s (.t 55) [iv (r11_5.length : Int)] :: (.s (.t 57) [iv (r11_1.length : Int)] :: (.s (.t 59) [iv (r11_3.length : Int)] :: (.b false :: (.b false :: (.a ⟨iv r12_2, []⟩ :: (.b false :: (.b false :: (.a ⟨iv r12_4, []⟩ :: (.b false :: (.b false :: (.a ⟨iv r12_6, []⟩ :: (rp 4 (.b false) []))))))))))))) (.c (c_len (e := (e_l 1 e_i64)) (l := r11_5)) (.c (c_len (e := (e_l 1 e_i64)) (l := r11_1)) (.c (c_len (e := (e_l 1 e_i64)) (l := r11_3)) (.r 2 b12_1 (.c (Asks.of (C := Meets Try.prog) (epoch_Sealed.meets ((r9_3 ++ ([(TEntry.mk 9 true (TTxn.mk 0 0 [] []))] : List TEntry)) ++ r9_8) _ h12_3)) (.r 2 b12_1 (.c (Asks.of (C := Meets Try.prog) (epoch_Sealed.meets r9_3 _ h12_5)) (.r 2 b12_1 (.c (Asks.of (C := Meets Try.prog) (epoch_Sealed.meets r9_8 _ h12_7)) (.r 4 b12_1 .n)))))))))) ?_
     rcases br_inv h with ⟨b14_0, h⟩ | ⟨b14_0, h⟩
     ·refine kCt b14_0 ?_
      refine kRs 0 [Tm 8 (bv false)] [] .n ?_
      refine kRt ?_
      have h_ := some_inj h
      subst h_
      exact kFr
     ·refine kCe b14_0 ?_
      refine kSk ?_
      refine kCd (cR (cR (cR (cR (cR (cR (cR bd6))))))) [] ?_
      refine kSq ?_
      refine kRs 30 [Tm 15 (iv 0)] [] .n ?_
      refine kBk 0 ?_
      obtain ⟨o40, ho40, h⟩ := bd_inv h
      refine kUs (diwanlaw13_EpochJoins.lp17_ok fu r9_3 r11_1 r11_3 r11_5 _ 0 _ ho40) ?_
      intro e_ τ_ hp_
      rcases o40 with o40 | o40
      ·obtain ⟨⟩ := o40
       obtain ⟨rfl, rfl⟩ := hp_
       refine kCd (cR (cR (cR (cR (cR (cR (cR (cR bd6)))))))) [] ?_
       refine kRs 0 [Tm 8 (bv true)] [] .n ?_
       refine kRt ?_
       have h_ := some_inj h
       subst h_
       exact kFr
      ·obtain ⟨⟩ := o40
       obtain ⟨rfl, rfl⟩ := hp_
       have h_ := some_inj h
       subst h_
       exact kFr
end Go.Proofs.Ytbiokgkfjggbiaa.Told
