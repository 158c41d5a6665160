/- Functions of the program told as Lean functions, with the walks of their code in the machine by value. -/
import Derived.Test.YtbiokgkfjggbiaaProg
import Derived.Test.YtbiokgkfjggbiaaVam2
import Derived.Test.YtbiokgkfjggbiaaEpWalk
noncomputable section
namespace Go.Proofs.Ytbiokgkfjggbiaa.Told
open Go Go.Proofs Go.Proofs.Ytbiokgkfjggbiaa Go.Proofs.Ytbiokgkfjggbiaa.Vam
set_option linter.unusedVariables false
set_option maxRecDepth 100000
theorem hmix : Try.prog.follows .mixedOrders = true := by kernel_rfl
structure TRead where
  Key : ByteArray
  Version : Int
  Val : ByteArray
  There : Bool
def TRead.en (x : TRead) : List DV := [.val (.string x.Key), .val (.int .i64 x.Version), .val (.string x.Val), .val (.bool x.There)]
structure TWrite where
  Key : ByteArray
  Val : ByteArray
  Gone : Bool
def TWrite.en (x : TWrite) : List DV := [.val (.string x.Key), .val (.string x.Val), .val (.bool x.Gone)]
structure TTxn where
  Session : Int
  Seq : Int
  Reads : (List TRead)
  Writes : (List TWrite)
def TTxn.en (x : TTxn) : List DV := [.val (.int .i64 x.Session), .val (.int .i64 x.Seq), .slc false none 4 (List.map TRead.en x.Reads), .slc false none 3 (List.map TWrite.en x.Writes)]
structure TEntry where
  Term : Int
  Seal : Bool
  T : TTxn
def TEntry.en (x : TEntry) : List DV := [.val (.int .i64 x.Term), .val (.bool x.Seal), .val (.int .i64 x.T.Session), .val (.int .i64 x.T.Seq), .slc false none 4 (List.map TRead.en x.T.Reads), .slc false none 3 (List.map TWrite.en x.T.Writes)]
def TEntry.ob (x : TEntry) : List AV := [.data (.val (.int .i64 x.Term)), .data (.val (.bool x.Seal)), .data (.val (.int .i64 x.T.Session)), .data (.val (.int .i64 x.T.Seq)), .data (.slc false none 4 (List.map TRead.en x.T.Reads)), .data (.slc false none 3 (List.map TWrite.en x.T.Writes))]
def TEntry.ob_000001 (x : TEntry) : List AV := [.data (.val (.int .i64 x.Term)), .data (.val (.bool x.Seal)), .data (.val (.int .i64 x.T.Session)), .data (.val (.int .i64 x.T.Seq)), .data (.slc false none 4 (List.map TRead.en x.T.Reads)), .data (.slc true none 3 (List.map TWrite.en x.T.Writes))]
def TEntry.ob_000011 (x : TEntry) : List AV := [.data (.val (.int .i64 x.Term)), .data (.val (.bool x.Seal)), .data (.val (.int .i64 x.T.Session)), .data (.val (.int .i64 x.T.Seq)), .data (.slc true none 4 (List.map TRead.en x.T.Reads)), .data (.slc true none 3 (List.map TWrite.en x.T.Writes))]
/-- diwan/epoch.Cut, in memory by hand. -/
def epoch_Cut (entries : List TEntry) : Option (List (List Int)) :=
 gd (decide (entries.length ≤ 100000)) (some (Ep.runR 0 (entries.map fun x => x.Seal) [[]]))
theorem epoch_Cut.meets (entries : List TEntry) (z0 : List (List Int)) (h : epoch_Cut entries = some z0) : Meets Try.prog ⟨10, [sS 6 TEntry.en entries], []⟩ ⟨sS 1 (e_l 1 e_i64) z0, []⟩ := by
 obtain ⟨hc, h⟩ := gd_inv h
 cases some_inj h
 refine cut_meets Try.func10 (by kernel_rfl) (by kernel_rfl) Ep.cut_walk (es := List.map TEntry.en entries) (xs := entries.map fun x => x.Seal) (by simp) (fun i ch hi => ?_) (fun e => ?_) (by simpa using of_decide_eq_true hc)
 · rw [List.getElem?_map] at hi
   cases hx : entries[i]? with
   | none => rw [hx] at hi; cases hi
   | some x =>
    rw [hx] at hi
    cases hi
    refine ⟨x.Term, x.T.Session, x.T.Seq, 4, List.map TRead.en x.T.Reads, 3, List.map TWrite.en x.T.Writes, ?_⟩
    rw [List.getD_eq_getElem?_getD, List.getElem?_map, hx]
    rfl
 · have := Ep.runR_pos (entries.map fun x => x.Seal)
   rw [e] at this
   cases this
def bd12 : Code := (Try.f12.body).getD .skip
def epoch_Sealed.O : Nat → Nat := fun t => bif ([2] : List Nat).any (Nat.beq t) then 1 else 0
def epoch_Sealed (l : List TEntry) : Option Int :=
 bd (epoch_Cut l) fun r2_1 =>
 some (w64 ((r2_1.length : Int) - 1))
theorem epoch_Sealed.meets (l : List TEntry) (z0 : Int) (h : epoch_Sealed l = some z0) : Meets Try.prog ⟨12, [sS 6 TEntry.en l], []⟩ ⟨iv z0, []⟩ := by
 refine kMt hmix epoch_Sealed.O Try.f12 bd12 1 ?_
 unfold epoch_Sealed at h
 refine kRs 1 [] [] .n ?_
 obtain ⟨r2_1, h2_2, h⟩ := bd_inv h
 refine kRs 0 [Tm 2 (iv (w64 ((r2_1.length : Int) - 1)))] [.a ⟨sS 1 (e_l 1 e_i64) r2_1, []⟩, .s (.t 5) [iv (r2_1.length : Int)]] (.c (Asks.of (C := Meets Try.prog) (epoch_Cut.meets l _ h2_2)) (.c (c_len (e := (e_l 1 e_i64)) (l := r2_1)) .n)) ?_
 refine kRt ?_
 have h_ := some_inj h
 subst h_
 exact kFr
def bd7 : Code := (Try.f7.body).getD .skip
def diwanlaw13_begun.O : Nat → Nat := fun t => bif ([0, 1, 2, 3, 4, 5, 6] : List Nat).any (Nat.beq t) then 1 else 0
def diwanlaw13_begun : Option Bool :=
 bd (epoch_Cut ([(TEntry.mk 1 true (TTxn.mk 0 0 [] [])), (TEntry.mk 1 false (TTxn.mk 0 0 [] [])), (TEntry.mk 1 true (TTxn.mk 0 0 [] []))] : List TEntry)) fun r3_1 =>
 br ((r3_1.length : Int) == 3)
  (ix r3_1 0 fun x4_2 =>
  br ((x4_2.length : Int) == 0)
   (ix r3_1 1 fun x4_6 =>
   br ((x4_6.length : Int) == 1)
    (ix r3_1 1 fun x4_10 =>
    ix x4_10 0 fun x4_13 =>
    br (x4_13 == 2)
     (ix r3_1 2 fun x4_17 =>
     br ((x4_17.length : Int) == 0)
      (bd (epoch_Sealed ([(TEntry.mk 1 true (TTxn.mk 0 0 [] [])), (TEntry.mk 1 false (TTxn.mk 0 0 [] [])), (TEntry.mk 1 true (TTxn.mk 0 0 [] []))] : List TEntry)) fun r4_21 =>
      br (r4_21 == 2)
       (bd (epoch_Cut []) fun r4_24 =>
       some ((r4_24.length : Int) == 1))
       (some false))
      (some false))
     (some false))
    (some false))
   (some false))
  (some false)
theorem diwanlaw13_begun.meets (z0 : Bool) (h : diwanlaw13_begun = some z0) : Meets Try.prog ⟨7, [], []⟩ ⟨bv z0, []⟩ := by
 refine kMt hmix diwanlaw13_begun.O Try.f7 bd7 0 ?_
 unfold diwanlaw13_begun at h
 refine kRs 0 [] [] .n ?_
 refine kRs 0 [Tm 1 (.data (.slc true (some false) 6 (List.map TEntry.en ([(TEntry.mk 1 true (TTxn.mk 0 0 [] [])), (TEntry.mk 1 false (TTxn.mk 0 0 [] [])), (TEntry.mk 1 true (TTxn.mk 0 0 [] []))] : List TEntry))))] [] .n ?_
 obtain ⟨r3_1, h3_2, h⟩ := bd_inv h
 refine kRs 0 [Tm 1 (.data (.slc false (some false) 6 (List.map TEntry.en ([(TEntry.mk 1 true (TTxn.mk 0 0 [] [])), (TEntry.mk 1 false (TTxn.mk 0 0 [] [])), (TEntry.mk 1 true (TTxn.mk 0 0 [] []))] : List TEntry)))), Tm 2 (sS 1 (e_l 1 e_i64) r3_1)] [.a ⟨sS 1 (e_l 1 e_i64) r3_1, []⟩] (.c (Asks.fg (args1 := []) (args2 := []) (nl := some false) (sz := 6) (es := List.map TEntry.en ([(TEntry.mk 1 true (TTxn.mk 0 0 [] [])), (TEntry.mk 1 false (TTxn.mk 0 0 [] [])), (TEntry.mk 1 true (TTxn.mk 0 0 [] []))] : List TEntry)) (Asks.of (C := Meets Try.prog) (epoch_Cut.meets ([(TEntry.mk 1 true (TTxn.mk 0 0 [] [])), (TEntry.mk 1 false (TTxn.mk 0 0 [] [])), (TEntry.mk 1 true (TTxn.mk 0 0 [] []))] : List TEntry) _ h3_2))) .n) ?_
 rcases br_inv h with ⟨b4_1, h⟩ | ⟨b4_1, h⟩
 ·obtain ⟨x4_2, a4_3, e4_4, h⟩ := ix_inv h
  rcases br_inv h with ⟨b4_5, h⟩ | ⟨b4_5, h⟩
  ·obtain ⟨x4_6, a4_7, e4_8, h⟩ := ix_inv h
   rcases br_inv h with ⟨b4_9, h⟩ | ⟨b4_9, h⟩
   ·obtain ⟨x4_10, a4_11, e4_12, h⟩ := ix_inv h
    obtain ⟨x4_13, a4_14, e4_15, h⟩ := ix_inv h
    rcases br_inv h with ⟨b4_16, h⟩ | ⟨b4_16, h⟩
    ·obtain ⟨x4_17, a4_18, e4_19, h⟩ := ix_inv h
     rcases br_inv h with ⟨b4_20, h⟩ | ⟨b4_20, h⟩
     ·obtain ⟨r4_21, h4_22, h⟩ := bd_inv h
      rcases br_inv h with ⟨b4_23, h⟩ | ⟨b4_23, h⟩
      ·obtain ⟨r4_24, h4_25, h⟩ := bd_inv h
       refine kRs 0 [Tm 0 (bv ((r4_24.length : Int) == 1))] (.s (.t 10) [iv (r3_1.length : Int)] :: (.b true :: (.b true :: (.c ((e_l 1 e_i64) x4_2) :: (.b true :: (.b true :: (.s (.t 16) [iv (x4_2.length : Int)] :: (rp 4 (.b true) (.c ((e_l 1 e_i64) x4_6) :: (.b true :: (.b true :: (.s (.t 23) [iv (x4_6.length : Int)] :: (rp 4 (.b true) (.c ((e_l 1 e_i64) x4_10) :: (.b true :: (.b true :: (.c (e_i64 x4_13) :: (rp 5 (.b true) (.c ((e_l 1 e_i64) x4_17) :: (.b true :: (.b true :: (.s (.t 38) [iv (x4_17.length : Int)] :: (rp 4 (.b true) [.a ⟨iv r4_21, []⟩, .b true, .b true, .b true, .a ⟨sS 1 (e_l 1 e_i64) r4_24, []⟩, .b true, .s (.t 48) [iv (r4_24.length : Int)], .b true, .b true]))))))))))))))))))))))) (.c (c_len (e := (e_l 1 e_i64)) (l := r3_1)) (.r 2 b4_1 (.c (c_ix (e := (e_l 1 e_i64)) a4_3 e4_4) (.c (c_el (e := (e_l 1 e_i64)) e4_4) (.r 2 b4_1 (.c (c_len (e := e_i64) (l := x4_2)) (.r 2 b4_1 (.r 2 b4_5 (.c (c_ix (e := (e_l 1 e_i64)) a4_7 e4_8) (.c (c_el (e := (e_l 1 e_i64)) e4_8) (.r 2 b4_5 (.c (c_len (e := e_i64) (l := x4_6)) (.r 2 b4_5 (.r 2 b4_9 (.c (c_ix (e := (e_l 1 e_i64)) a4_11 e4_12) (.c (c_el (e := (e_l 1 e_i64)) e4_12) (.r 2 b4_9 (.c (c_ix (e := e_i64) a4_14 e4_15) (.c (c_el (e := e_i64) e4_15) (.r 3 b4_9 (.r 2 b4_16 (.c (c_ix (e := (e_l 1 e_i64)) a4_18 e4_19) (.c (c_el (e := (e_l 1 e_i64)) e4_19) (.r 2 b4_16 (.c (c_len (e := e_i64) (l := x4_17)) (.r 2 b4_16 (.r 2 b4_20 (.c (Asks.fg (args1 := []) (args2 := []) (nl := some false) (sz := 6) (es := List.map TEntry.en ([(TEntry.mk 1 true (TTxn.mk 0 0 [] [])), (TEntry.mk 1 false (TTxn.mk 0 0 [] [])), (TEntry.mk 1 true (TTxn.mk 0 0 [] []))] : List TEntry)) (Asks.of (C := Meets Try.prog) (epoch_Sealed.meets ([(TEntry.mk 1 true (TTxn.mk 0 0 [] [])), (TEntry.mk 1 false (TTxn.mk 0 0 [] [])), (TEntry.mk 1 true (TTxn.mk 0 0 [] []))] : List TEntry) _ h4_22))) (.r 2 b4_20 (.c b4_23 (.c (Asks.fg (args1 := []) (args2 := []) (nl := some true) (sz := 6) (es := List.map TEntry.en []) (Asks.of (C := Meets Try.prog) (epoch_Cut.meets [] _ h4_25))) (.c b4_23 (.c (c_len (e := (e_l 1 e_i64)) (l := r4_24)) (.r 2 b4_23 .n)))))))))))))))))))))))))))))))))) ?_
       refine kRt ?_
       have h_ := some_inj h
       subst h_
       exact kFr
      ·refine kRs 0 [Tm 0 (bv false)] (.s (.t 10) [iv (r3_1.length : Int)] :: (.b true :: (.b true :: (.c ((e_l 1 e_i64) x4_2) :: (.b true :: (.b true :: (.s (.t 16) [iv (x4_2.length : Int)] :: (rp 4 (.b true) (.c ((e_l 1 e_i64) x4_6) :: (.b true :: (.b true :: (.s (.t 23) [iv (x4_6.length : Int)] :: (rp 4 (.b true) (.c ((e_l 1 e_i64) x4_10) :: (.b true :: (.b true :: (.c (e_i64 x4_13) :: (rp 5 (.b true) (.c ((e_l 1 e_i64) x4_17) :: (.b true :: (.b true :: (.s (.t 38) [iv (x4_17.length : Int)] :: (rp 4 (.b true) (.a ⟨iv r4_21, []⟩ :: (.b true :: (.b true :: (rp 4 (.b false) []))))))))))))))))))))))))))) (.c (c_len (e := (e_l 1 e_i64)) (l := r3_1)) (.r 2 b4_1 (.c (c_ix (e := (e_l 1 e_i64)) a4_3 e4_4) (.c (c_el (e := (e_l 1 e_i64)) e4_4) (.r 2 b4_1 (.c (c_len (e := e_i64) (l := x4_2)) (.r 2 b4_1 (.r 2 b4_5 (.c (c_ix (e := (e_l 1 e_i64)) a4_7 e4_8) (.c (c_el (e := (e_l 1 e_i64)) e4_8) (.r 2 b4_5 (.c (c_len (e := e_i64) (l := x4_6)) (.r 2 b4_5 (.r 2 b4_9 (.c (c_ix (e := (e_l 1 e_i64)) a4_11 e4_12) (.c (c_el (e := (e_l 1 e_i64)) e4_12) (.r 2 b4_9 (.c (c_ix (e := e_i64) a4_14 e4_15) (.c (c_el (e := e_i64) e4_15) (.r 3 b4_9 (.r 2 b4_16 (.c (c_ix (e := (e_l 1 e_i64)) a4_18 e4_19) (.c (c_el (e := (e_l 1 e_i64)) e4_19) (.r 2 b4_16 (.c (c_len (e := e_i64) (l := x4_17)) (.r 2 b4_16 (.r 2 b4_20 (.c (Asks.fg (args1 := []) (args2 := []) (nl := some false) (sz := 6) (es := List.map TEntry.en ([(TEntry.mk 1 true (TTxn.mk 0 0 [] [])), (TEntry.mk 1 false (TTxn.mk 0 0 [] [])), (TEntry.mk 1 true (TTxn.mk 0 0 [] []))] : List TEntry)) (Asks.of (C := Meets Try.prog) (epoch_Sealed.meets ([(TEntry.mk 1 true (TTxn.mk 0 0 [] [])), (TEntry.mk 1 false (TTxn.mk 0 0 [] [])), (TEntry.mk 1 true (TTxn.mk 0 0 [] []))] : List TEntry) _ h4_22))) (.r 2 b4_20 (.r 4 b4_23 .n)))))))))))))))))))))))))))))) ?_
       refine kRt ?_
       have h_ := some_inj h
       subst h_
       exact kFr
     ·refine kRs 0 [Tm 0 (bv false)] (.s (.t 10) [iv (r3_1.length : Int)] :: (.b true :: (.b true :: (.c ((e_l 1 e_i64) x4_2) :: (.b true :: (.b true :: (.s (.t 16) [iv (x4_2.length : Int)] :: (rp 4 (.b true) (.c ((e_l 1 e_i64) x4_6) :: (.b true :: (.b true :: (.s (.t 23) [iv (x4_6.length : Int)] :: (rp 4 (.b true) (.c ((e_l 1 e_i64) x4_10) :: (.b true :: (.b true :: (.c (e_i64 x4_13) :: (rp 5 (.b true) (.c ((e_l 1 e_i64) x4_17) :: (.b true :: (.b true :: (.s (.t 38) [iv (x4_17.length : Int)] :: (.b true :: (.b true :: (rp 8 (.b false) []))))))))))))))))))))))))) (.c (c_len (e := (e_l 1 e_i64)) (l := r3_1)) (.r 2 b4_1 (.c (c_ix (e := (e_l 1 e_i64)) a4_3 e4_4) (.c (c_el (e := (e_l 1 e_i64)) e4_4) (.r 2 b4_1 (.c (c_len (e := e_i64) (l := x4_2)) (.r 2 b4_1 (.r 2 b4_5 (.c (c_ix (e := (e_l 1 e_i64)) a4_7 e4_8) (.c (c_el (e := (e_l 1 e_i64)) e4_8) (.r 2 b4_5 (.c (c_len (e := e_i64) (l := x4_6)) (.r 2 b4_5 (.r 2 b4_9 (.c (c_ix (e := (e_l 1 e_i64)) a4_11 e4_12) (.c (c_el (e := (e_l 1 e_i64)) e4_12) (.r 2 b4_9 (.c (c_ix (e := e_i64) a4_14 e4_15) (.c (c_el (e := e_i64) e4_15) (.r 3 b4_9 (.r 2 b4_16 (.c (c_ix (e := (e_l 1 e_i64)) a4_18 e4_19) (.c (c_el (e := (e_l 1 e_i64)) e4_19) (.r 2 b4_16 (.c (c_len (e := e_i64) (l := x4_17)) (.r 2 b4_16 (.r 4 b4_20 (.r 4 rF .n)))))))))))))))))))))))))))) ?_
      refine kRt ?_
      have h_ := some_inj h
      subst h_
      exact kFr
    ·refine kRs 0 [Tm 0 (bv false)] (.s (.t 10) [iv (r3_1.length : Int)] :: (.b true :: (.b true :: (.c ((e_l 1 e_i64) x4_2) :: (.b true :: (.b true :: (.s (.t 16) [iv (x4_2.length : Int)] :: (rp 4 (.b true) (.c ((e_l 1 e_i64) x4_6) :: (.b true :: (.b true :: (.s (.t 23) [iv (x4_6.length : Int)] :: (rp 4 (.b true) (.c ((e_l 1 e_i64) x4_10) :: (.b true :: (.b true :: (.c (e_i64 x4_13) :: (.b true :: (.b true :: (.b true :: (rp 14 (.b false) []))))))))))))))))))))) (.c (c_len (e := (e_l 1 e_i64)) (l := r3_1)) (.r 2 b4_1 (.c (c_ix (e := (e_l 1 e_i64)) a4_3 e4_4) (.c (c_el (e := (e_l 1 e_i64)) e4_4) (.r 2 b4_1 (.c (c_len (e := e_i64) (l := x4_2)) (.r 2 b4_1 (.r 2 b4_5 (.c (c_ix (e := (e_l 1 e_i64)) a4_7 e4_8) (.c (c_el (e := (e_l 1 e_i64)) e4_8) (.r 2 b4_5 (.c (c_len (e := e_i64) (l := x4_6)) (.r 2 b4_5 (.r 2 b4_9 (.c (c_ix (e := (e_l 1 e_i64)) a4_11 e4_12) (.c (c_el (e := (e_l 1 e_i64)) e4_12) (.r 2 b4_9 (.c (c_ix (e := e_i64) a4_14 e4_15) (.c (c_el (e := e_i64) e4_15) (.r 3 b4_9 (.r 6 b4_16 (.r 8 rF .n)))))))))))))))))))))) ?_
     refine kRt ?_
     have h_ := some_inj h
     subst h_
     exact kFr
   ·refine kRs 0 [Tm 0 (bv false)] (.s (.t 10) [iv (r3_1.length : Int)] :: (.b true :: (.b true :: (.c ((e_l 1 e_i64) x4_2) :: (.b true :: (.b true :: (.s (.t 16) [iv (x4_2.length : Int)] :: (rp 4 (.b true) (.c ((e_l 1 e_i64) x4_6) :: (.b true :: (.b true :: (.s (.t 23) [iv (x4_6.length : Int)] :: (.b true :: (.b true :: (rp 21 (.b false) []))))))))))))))) (.c (c_len (e := (e_l 1 e_i64)) (l := r3_1)) (.r 2 b4_1 (.c (c_ix (e := (e_l 1 e_i64)) a4_3 e4_4) (.c (c_el (e := (e_l 1 e_i64)) e4_4) (.r 2 b4_1 (.c (c_len (e := e_i64) (l := x4_2)) (.r 2 b4_1 (.r 2 b4_5 (.c (c_ix (e := (e_l 1 e_i64)) a4_7 e4_8) (.c (c_el (e := (e_l 1 e_i64)) e4_8) (.r 2 b4_5 (.c (c_len (e := e_i64) (l := x4_6)) (.r 2 b4_5 (.r 7 b4_9 (.r 14 rF .n))))))))))))))) ?_
    refine kRt ?_
    have h_ := some_inj h
    subst h_
    exact kFr
  ·refine kRs 0 [Tm 0 (bv false)] (.s (.t 10) [iv (r3_1.length : Int)] :: (.b true :: (.b true :: (.c ((e_l 1 e_i64) x4_2) :: (.b true :: (.b true :: (.s (.t 16) [iv (x4_2.length : Int)] :: (.b true :: (.b true :: (rp 27 (.b false) [])))))))))) (.c (c_len (e := (e_l 1 e_i64)) (l := r3_1)) (.r 2 b4_1 (.c (c_ix (e := (e_l 1 e_i64)) a4_3 e4_4) (.c (c_el (e := (e_l 1 e_i64)) e4_4) (.r 2 b4_1 (.c (c_len (e := e_i64) (l := x4_2)) (.r 2 b4_1 (.r 6 b4_5 (.r 21 rF .n))))))))) ?_
   refine kRt ?_
   have h_ := some_inj h
   subst h_
   exact kFr
 ·refine kRs 0 [Tm 0 (bv false)] (.s (.t 10) [iv (r3_1.length : Int)] :: (rp 33 (.b false) [])) (.c (c_len (e := (e_l 1 e_i64)) (l := r3_1)) (.r 6 b4_1 (.r 27 rF .n))) ?_
  refine kRt ?_
  have h_ := some_inj h
  subst h_
  exact kFr
def bd5 : Code := (Try.f5.body).getD .skip
def diwanlaw13_EpochForms.O : Nat → Nat := fun t => bif ([0, 1, 2, 3, 4, 5, 8, 9, 18, 21] : List Nat).any (Nat.beq t) then 1 else 0
def diwanlaw13_EpochForms : Option Bool :=
 bd (diwanlaw13_begun) fun r2_1 =>
 br (!r2_1)
  (some false)
  (bd (epoch_Cut ([(TEntry.mk 1 false (TTxn.mk 0 0 [] [])), (TEntry.mk 1 false (TTxn.mk 0 0 [] [])), (TEntry.mk 1 true (TTxn.mk 0 0 [] [])), (TEntry.mk 1 true (TTxn.mk 0 0 [] [])), (TEntry.mk 1 false (TTxn.mk 0 0 [] []))] : List TEntry)) fun r6_1 =>
  bd (epoch_Cut ([(TEntry.mk 1 true (TTxn.mk 0 0 [] []))] : List TEntry)) fun r6_3 =>
  bd (epoch_Cut ([(TEntry.mk 1 false (TTxn.mk 0 0 [] []))] : List TEntry)) fun r6_5 =>
  br ((r6_1.length : Int) == 3)
   (ix r6_1 0 fun x7_2 =>
   br ((x7_2.length : Int) == 2)
    (ix r6_1 0 fun x7_6 =>
    ix x7_6 1 fun x7_9 =>
    br (x7_9 == 2)
     (ix r6_1 1 fun x7_13 =>
     br ((x7_13.length : Int) == 0)
      (ix r6_1 2 fun x7_17 =>
      br ((x7_17.length : Int) == 1)
       (ix r6_1 2 fun x7_21 =>
       ix x7_21 0 fun x7_24 =>
       br (x7_24 == 5)
        (br ((r6_3.length : Int) == 2)
         (ix r6_3 0 fun x7_29 =>
         ix r6_3 1 fun x7_32 =>
         br ((w64 ((x7_29.length : Int) + (x7_32.length : Int))) == 0)
          (br ((r6_5.length : Int) == 1)
           (ix r6_5 0 fun x7_37 =>
           br ((x7_37.length : Int) == 1)
            (bd (epoch_Sealed []) fun r7_41 =>
            some (r7_41 == 0))
            (some false))
           (some false))
          (some false))
         (some false))
        (some false))
       (some false))
      (some false))
     (some false))
    (some false))
   (some false))
theorem diwanlaw13_EpochForms.meets (z0 : Bool) (h : diwanlaw13_EpochForms = some z0) : Meets Try.prog ⟨5, [], []⟩ ⟨bv z0, []⟩ := by
 refine kMt hmix diwanlaw13_EpochForms.O Try.f5 bd5 0 ?_
 unfold diwanlaw13_EpochForms at h
 refine kRs 0 [] [] .n ?_
 refine kSq ?_
 obtain ⟨r2_1, h2_2, h⟩ := bd_inv h
 refine kRs 0 [Tm 7 (bv (!r2_1))] [.a ⟨bv r2_1, []⟩] (.c (Asks.of (C := Meets Try.prog) (diwanlaw13_begun.meets _ h2_2)) .n) ?_
 rcases br_inv h with ⟨b3_0, h⟩ | ⟨b3_0, h⟩
 ·refine kCt b3_0 ?_
  refine kRs 0 [Tm 0 (bv false)] [] .n ?_
  refine kRt ?_
  have h_ := some_inj h
  subst h_
  exact kFr
 ·refine kCe b3_0 ?_
  refine kSk ?_
  refine kCd (cR (cR bd5)) [] ?_
  refine kRs 0 [Tm 1 (.ptr 1 0), Tm 2 (.ptr 2 0), Ob 1 (TEntry.ob_000011 (TEntry.mk 1 false (TTxn.mk 0 0 [] []))), Ob 2 (TEntry.ob_000011 (TEntry.mk 1 true (TTxn.mk 0 0 [] [])))] [] .n ?_
  refine kSo 1 4 11 [Ob 1 (TEntry.ob_000001 (TEntry.mk 1 false (TTxn.mk 0 0 [] [])))] ?_
  refine kSo 1 5 14 [Ob 1 (TEntry.ob (TEntry.mk 1 false (TTxn.mk 0 0 [] [])))] ?_
  refine kSo 2 4 7 [Ob 2 (TEntry.ob_000001 (TEntry.mk 1 true (TTxn.mk 0 0 [] [])))] ?_
  refine kSo 2 5 14 [Ob 2 (TEntry.ob (TEntry.mk 1 true (TTxn.mk 0 0 [] [])))] ?_
  obtain ⟨r6_1, h6_2, h⟩ := bd_inv h
  obtain ⟨r6_3, h6_4, h⟩ := bd_inv h
  obtain ⟨r6_5, h6_6, h⟩ := bd_inv h
  refine kRs 0 [Tm 3 (sS 1 (e_l 1 e_i64) r6_1), Tm 4 (sS 1 (e_l 1 e_i64) r6_3), Tm 5 (sS 1 (e_l 1 e_i64) r6_5)] [.a ⟨sS 1 (e_l 1 e_i64) r6_1, []⟩, .a ⟨sS 1 (e_l 1 e_i64) r6_3, []⟩, .a ⟨sS 1 (e_l 1 e_i64) r6_5, []⟩] (.c (Asks.fg (args1 := []) (args2 := []) (nl := some false) (sz := 6) (es := List.map TEntry.en ([(TEntry.mk 1 false (TTxn.mk 0 0 [] [])), (TEntry.mk 1 false (TTxn.mk 0 0 [] [])), (TEntry.mk 1 true (TTxn.mk 0 0 [] [])), (TEntry.mk 1 true (TTxn.mk 0 0 [] [])), (TEntry.mk 1 false (TTxn.mk 0 0 [] []))] : List TEntry)) (Asks.of (C := Meets Try.prog) (epoch_Cut.meets ([(TEntry.mk 1 false (TTxn.mk 0 0 [] [])), (TEntry.mk 1 false (TTxn.mk 0 0 [] [])), (TEntry.mk 1 true (TTxn.mk 0 0 [] [])), (TEntry.mk 1 true (TTxn.mk 0 0 [] [])), (TEntry.mk 1 false (TTxn.mk 0 0 [] []))] : List TEntry) _ h6_2))) (.c (Asks.fg (args1 := []) (args2 := []) (nl := some false) (sz := 6) (es := List.map TEntry.en ([(TEntry.mk 1 true (TTxn.mk 0 0 [] []))] : List TEntry)) (Asks.of (C := Meets Try.prog) (epoch_Cut.meets ([(TEntry.mk 1 true (TTxn.mk 0 0 [] []))] : List TEntry) _ h6_4))) (.c (Asks.fg (args1 := []) (args2 := []) (nl := some false) (sz := 6) (es := List.map TEntry.en ([(TEntry.mk 1 false (TTxn.mk 0 0 [] []))] : List TEntry)) (Asks.of (C := Meets Try.prog) (epoch_Cut.meets ([(TEntry.mk 1 false (TTxn.mk 0 0 [] []))] : List TEntry) _ h6_6))) (.c rT .n)))) ?_
  rcases br_inv h with ⟨b7_1, h⟩ | ⟨b7_1, h⟩
  ·obtain ⟨x7_2, a7_3, e7_4, h⟩ := ix_inv h
   rcases br_inv h with ⟨b7_5, h⟩ | ⟨b7_5, h⟩
   ·obtain ⟨x7_6, a7_7, e7_8, h⟩ := ix_inv h
    obtain ⟨x7_9, a7_10, e7_11, h⟩ := ix_inv h
    rcases br_inv h with ⟨b7_12, h⟩ | ⟨b7_12, h⟩
    ·obtain ⟨x7_13, a7_14, e7_15, h⟩ := ix_inv h
     rcases br_inv h with ⟨b7_16, h⟩ | ⟨b7_16, h⟩
     ·obtain ⟨x7_17, a7_18, e7_19, h⟩ := ix_inv h
      rcases br_inv h with ⟨b7_20, h⟩ | ⟨b7_20, h⟩
      ·obtain ⟨x7_21, a7_22, e7_23, h⟩ := ix_inv h
       obtain ⟨x7_24, a7_25, e7_26, h⟩ := ix_inv h
       rcases br_inv h with ⟨b7_27, h⟩ | ⟨b7_27, h⟩
       ·rcases br_inv h with ⟨b7_28, h⟩ | ⟨b7_28, h⟩
        ·obtain ⟨x7_29, a7_30, e7_31, h⟩ := ix_inv h
         obtain ⟨x7_32, a7_33, e7_34, h⟩ := ix_inv h
         rcases br_inv h with ⟨b7_35, h⟩ | ⟨b7_35, h⟩
         ·rcases br_inv h with ⟨b7_36, h⟩ | ⟨b7_36, h⟩
          ·obtain ⟨x7_37, a7_38, e7_39, h⟩ := ix_inv h
           rcases br_inv h with ⟨b7_40, h⟩ | ⟨b7_40, h⟩
           ·obtain ⟨r7_41, h7_42, h⟩ := bd_inv h
            refine kRs 0 [Tm 0 (bv (r7_41 == 0))] (.s (.t 24) [iv (r6_1.length : Int)] :: (.b true :: (.b true :: (.c ((e_l 1 e_i64) x7_2) :: (.b true :: (.b true :: (.s (.t 30) [iv (x7_2.length : Int)] :: (rp 4 (.b true) (.c ((e_l 1 e_i64) x7_6) :: (.b true :: (.b true :: (.c (e_i64 x7_9) :: (rp 5 (.b true) (.c ((e_l 1 e_i64) x7_13) :: (.b true :: (.b true :: (.s (.t 45) [iv (x7_13.length : Int)] :: (rp 4 (.b true) (.c ((e_l 1 e_i64) x7_17) :: (.b true :: (.b true :: (.s (.t 52) [iv (x7_17.length : Int)] :: (rp 4 (.b true) (.c ((e_l 1 e_i64) x7_21) :: (.b true :: (.b true :: (.c (e_i64 x7_24) :: (rp 5 (.b true) (.s (.t 65) [iv (r6_3.length : Int)] :: (rp 4 (.b true) (.c ((e_l 1 e_i64) x7_29) :: (.b true :: (.b true :: (.s (.t 72) [iv (x7_29.length : Int)] :: (.b true :: (.b true :: (.c ((e_l 1 e_i64) x7_32) :: (.b true :: (.b true :: (.s (.t 76) [iv (x7_32.length : Int)] :: (rp 5 (.b true) (.s (.t 82) [iv (r6_5.length : Int)] :: (rp 4 (.b true) [.c ((e_l 1 e_i64) x7_37), .b true, .b true, .s (.t 89) [iv (x7_37.length : Int)], .b true, .b true, .b true, .a ⟨iv r7_41, []⟩, .b true, .b true]))))))))))))))))))))))))))))))))))))))))))) (.c (c_len (e := (e_l 1 e_i64)) (l := r6_1)) (.r 2 b7_1 (.c (c_ix (e := (e_l 1 e_i64)) a7_3 e7_4) (.c (c_el (e := (e_l 1 e_i64)) e7_4) (.r 2 b7_1 (.c (c_len (e := e_i64) (l := x7_2)) (.r 2 b7_1 (.r 2 b7_5 (.c (c_ix (e := (e_l 1 e_i64)) a7_7 e7_8) (.c (c_el (e := (e_l 1 e_i64)) e7_8) (.r 2 b7_5 (.c (c_ix (e := e_i64) a7_10 e7_11) (.c (c_el (e := e_i64) e7_11) (.r 3 b7_5 (.r 2 b7_12 (.c (c_ix (e := (e_l 1 e_i64)) a7_14 e7_15) (.c (c_el (e := (e_l 1 e_i64)) e7_15) (.r 2 b7_12 (.c (c_len (e := e_i64) (l := x7_13)) (.r 2 b7_12 (.r 2 b7_16 (.c (c_ix (e := (e_l 1 e_i64)) a7_18 e7_19) (.c (c_el (e := (e_l 1 e_i64)) e7_19) (.r 2 b7_16 (.c (c_len (e := e_i64) (l := x7_17)) (.r 2 b7_16 (.r 2 b7_20 (.c (c_ix (e := (e_l 1 e_i64)) a7_22 e7_23) (.c (c_el (e := (e_l 1 e_i64)) e7_23) (.r 2 b7_20 (.c (c_ix (e := e_i64) a7_25 e7_26) (.c (c_el (e := e_i64) e7_26) (.r 3 b7_20 (.r 2 b7_27 (.c (c_len (e := (e_l 1 e_i64)) (l := r6_3)) (.r 2 b7_27 (.r 2 b7_28 (.c (c_ix (e := (e_l 1 e_i64)) a7_30 e7_31) (.c (c_el (e := (e_l 1 e_i64)) e7_31) (.r 2 b7_28 (.c (c_len (e := e_i64) (l := x7_29)) (.r 2 b7_28 (.c (c_ix (e := (e_l 1 e_i64)) a7_33 e7_34) (.c (c_el (e := (e_l 1 e_i64)) e7_34) (.r 2 b7_28 (.c (c_len (e := e_i64) (l := x7_32)) (.r 3 b7_28 (.r 2 b7_35 (.c (c_len (e := (e_l 1 e_i64)) (l := r6_5)) (.r 2 b7_35 (.r 2 b7_36 (.c (c_ix (e := (e_l 1 e_i64)) a7_38 e7_39) (.c (c_el (e := (e_l 1 e_i64)) e7_39) (.r 2 b7_36 (.c (c_len (e := e_i64) (l := x7_37)) (.r 2 b7_36 (.c b7_40 (.c (Asks.fg (args1 := []) (args2 := []) (nl := some true) (sz := 6) (es := List.map TEntry.en []) (Asks.of (C := Meets Try.prog) (epoch_Sealed.meets [] _ h7_42))) (.r 2 b7_40 (.c rT .n)))))))))))))))))))))))))))))))))))))))))))))))))))))))))))) ?_
            refine kRt ?_
            have h_ := some_inj h
            subst h_
            exact kFr
           ·refine kRs 0 [Tm 0 (bv false)] (.s (.t 24) [iv (r6_1.length : Int)] :: (.b true :: (.b true :: (.c ((e_l 1 e_i64) x7_2) :: (.b true :: (.b true :: (.s (.t 30) [iv (x7_2.length : Int)] :: (rp 4 (.b true) (.c ((e_l 1 e_i64) x7_6) :: (.b true :: (.b true :: (.c (e_i64 x7_9) :: (rp 5 (.b true) (.c ((e_l 1 e_i64) x7_13) :: (.b true :: (.b true :: (.s (.t 45) [iv (x7_13.length : Int)] :: (rp 4 (.b true) (.c ((e_l 1 e_i64) x7_17) :: (.b true :: (.b true :: (.s (.t 52) [iv (x7_17.length : Int)] :: (rp 4 (.b true) (.c ((e_l 1 e_i64) x7_21) :: (.b true :: (.b true :: (.c (e_i64 x7_24) :: (rp 5 (.b true) (.s (.t 65) [iv (r6_3.length : Int)] :: (rp 4 (.b true) (.c ((e_l 1 e_i64) x7_29) :: (.b true :: (.b true :: (.s (.t 72) [iv (x7_29.length : Int)] :: (.b true :: (.b true :: (.c ((e_l 1 e_i64) x7_32) :: (.b true :: (.b true :: (.s (.t 76) [iv (x7_32.length : Int)] :: (rp 5 (.b true) (.s (.t 82) [iv (r6_5.length : Int)] :: (rp 4 (.b true) [.c ((e_l 1 e_i64) x7_37), .b true, .b true, .s (.t 89) [iv (x7_37.length : Int)], .b true, .b true, .b false, .b false, .b false]))))))))))))))))))))))))))))))))))))))))))) (.c (c_len (e := (e_l 1 e_i64)) (l := r6_1)) (.r 2 b7_1 (.c (c_ix (e := (e_l 1 e_i64)) a7_3 e7_4) (.c (c_el (e := (e_l 1 e_i64)) e7_4) (.r 2 b7_1 (.c (c_len (e := e_i64) (l := x7_2)) (.r 2 b7_1 (.r 2 b7_5 (.c (c_ix (e := (e_l 1 e_i64)) a7_7 e7_8) (.c (c_el (e := (e_l 1 e_i64)) e7_8) (.r 2 b7_5 (.c (c_ix (e := e_i64) a7_10 e7_11) (.c (c_el (e := e_i64) e7_11) (.r 3 b7_5 (.r 2 b7_12 (.c (c_ix (e := (e_l 1 e_i64)) a7_14 e7_15) (.c (c_el (e := (e_l 1 e_i64)) e7_15) (.r 2 b7_12 (.c (c_len (e := e_i64) (l := x7_13)) (.r 2 b7_12 (.r 2 b7_16 (.c (c_ix (e := (e_l 1 e_i64)) a7_18 e7_19) (.c (c_el (e := (e_l 1 e_i64)) e7_19) (.r 2 b7_16 (.c (c_len (e := e_i64) (l := x7_17)) (.r 2 b7_16 (.r 2 b7_20 (.c (c_ix (e := (e_l 1 e_i64)) a7_22 e7_23) (.c (c_el (e := (e_l 1 e_i64)) e7_23) (.r 2 b7_20 (.c (c_ix (e := e_i64) a7_25 e7_26) (.c (c_el (e := e_i64) e7_26) (.r 3 b7_20 (.r 2 b7_27 (.c (c_len (e := (e_l 1 e_i64)) (l := r6_3)) (.r 2 b7_27 (.r 2 b7_28 (.c (c_ix (e := (e_l 1 e_i64)) a7_30 e7_31) (.c (c_el (e := (e_l 1 e_i64)) e7_31) (.r 2 b7_28 (.c (c_len (e := e_i64) (l := x7_29)) (.r 2 b7_28 (.c (c_ix (e := (e_l 1 e_i64)) a7_33 e7_34) (.c (c_el (e := (e_l 1 e_i64)) e7_34) (.r 2 b7_28 (.c (c_len (e := e_i64) (l := x7_32)) (.r 3 b7_28 (.r 2 b7_35 (.c (c_len (e := (e_l 1 e_i64)) (l := r6_5)) (.r 2 b7_35 (.r 2 b7_36 (.c (c_ix (e := (e_l 1 e_i64)) a7_38 e7_39) (.c (c_el (e := (e_l 1 e_i64)) e7_39) (.r 2 b7_36 (.c (c_len (e := e_i64) (l := x7_37)) (.r 2 b7_36 (.r 3 b7_40 (.c rT .n)))))))))))))))))))))))))))))))))))))))))))))))))))))))))) ?_
            refine kRt ?_
            have h_ := some_inj h
            subst h_
            exact kFr
          ·refine kRs 0 [Tm 0 (bv false)] (.s (.t 24) [iv (r6_1.length : Int)] :: (.b true :: (.b true :: (.c ((e_l 1 e_i64) x7_2) :: (.b true :: (.b true :: (.s (.t 30) [iv (x7_2.length : Int)] :: (rp 4 (.b true) (.c ((e_l 1 e_i64) x7_6) :: (.b true :: (.b true :: (.c (e_i64 x7_9) :: (rp 5 (.b true) (.c ((e_l 1 e_i64) x7_13) :: (.b true :: (.b true :: (.s (.t 45) [iv (x7_13.length : Int)] :: (rp 4 (.b true) (.c ((e_l 1 e_i64) x7_17) :: (.b true :: (.b true :: (.s (.t 52) [iv (x7_17.length : Int)] :: (rp 4 (.b true) (.c ((e_l 1 e_i64) x7_21) :: (.b true :: (.b true :: (.c (e_i64 x7_24) :: (rp 5 (.b true) (.s (.t 65) [iv (r6_3.length : Int)] :: (rp 4 (.b true) (.c ((e_l 1 e_i64) x7_29) :: (.b true :: (.b true :: (.s (.t 72) [iv (x7_29.length : Int)] :: (.b true :: (.b true :: (.c ((e_l 1 e_i64) x7_32) :: (.b true :: (.b true :: (.s (.t 76) [iv (x7_32.length : Int)] :: (rp 5 (.b true) (.s (.t 82) [iv (r6_5.length : Int)] :: (.b true :: (.b true :: (rp 9 (.b false) []))))))))))))))))))))))))))))))))))))))))))))) (.c (c_len (e := (e_l 1 e_i64)) (l := r6_1)) (.r 2 b7_1 (.c (c_ix (e := (e_l 1 e_i64)) a7_3 e7_4) (.c (c_el (e := (e_l 1 e_i64)) e7_4) (.r 2 b7_1 (.c (c_len (e := e_i64) (l := x7_2)) (.r 2 b7_1 (.r 2 b7_5 (.c (c_ix (e := (e_l 1 e_i64)) a7_7 e7_8) (.c (c_el (e := (e_l 1 e_i64)) e7_8) (.r 2 b7_5 (.c (c_ix (e := e_i64) a7_10 e7_11) (.c (c_el (e := e_i64) e7_11) (.r 3 b7_5 (.r 2 b7_12 (.c (c_ix (e := (e_l 1 e_i64)) a7_14 e7_15) (.c (c_el (e := (e_l 1 e_i64)) e7_15) (.r 2 b7_12 (.c (c_len (e := e_i64) (l := x7_13)) (.r 2 b7_12 (.r 2 b7_16 (.c (c_ix (e := (e_l 1 e_i64)) a7_18 e7_19) (.c (c_el (e := (e_l 1 e_i64)) e7_19) (.r 2 b7_16 (.c (c_len (e := e_i64) (l := x7_17)) (.r 2 b7_16 (.r 2 b7_20 (.c (c_ix (e := (e_l 1 e_i64)) a7_22 e7_23) (.c (c_el (e := (e_l 1 e_i64)) e7_23) (.r 2 b7_20 (.c (c_ix (e := e_i64) a7_25 e7_26) (.c (c_el (e := e_i64) e7_26) (.r 3 b7_20 (.r 2 b7_27 (.c (c_len (e := (e_l 1 e_i64)) (l := r6_3)) (.r 2 b7_27 (.r 2 b7_28 (.c (c_ix (e := (e_l 1 e_i64)) a7_30 e7_31) (.c (c_el (e := (e_l 1 e_i64)) e7_31) (.r 2 b7_28 (.c (c_len (e := e_i64) (l := x7_29)) (.r 2 b7_28 (.c (c_ix (e := (e_l 1 e_i64)) a7_33 e7_34) (.c (c_el (e := (e_l 1 e_i64)) e7_34) (.r 2 b7_28 (.c (c_len (e := e_i64) (l := x7_32)) (.r 3 b7_28 (.r 2 b7_35 (.c (c_len (e := (e_l 1 e_i64)) (l := r6_5)) (.r 2 b7_35 (.r 6 b7_36 (.r 3 rF (.c rT .n))))))))))))))))))))))))))))))))))))))))))))))))))))) ?_
           refine kRt ?_
           have h_ := some_inj h
           subst h_
           exact kFr
         ·refine kRs 0 [Tm 0 (bv false)] (.s (.t 24) [iv (r6_1.length : Int)] :: (.b true :: (.b true :: (.c ((e_l 1 e_i64) x7_2) :: (.b true :: (.b true :: (.s (.t 30) [iv (x7_2.length : Int)] :: (rp 4 (.b true) (.c ((e_l 1 e_i64) x7_6) :: (.b true :: (.b true :: (.c (e_i64 x7_9) :: (rp 5 (.b true) (.c ((e_l 1 e_i64) x7_13) :: (.b true :: (.b true :: (.s (.t 45) [iv (x7_13.length : Int)] :: (rp 4 (.b true) (.c ((e_l 1 e_i64) x7_17) :: (.b true :: (.b true :: (.s (.t 52) [iv (x7_17.length : Int)] :: (rp 4 (.b true) (.c ((e_l 1 e_i64) x7_21) :: (.b true :: (.b true :: (.c (e_i64 x7_24) :: (rp 5 (.b true) (.s (.t 65) [iv (r6_3.length : Int)] :: (rp 4 (.b true) (.c ((e_l 1 e_i64) x7_29) :: (.b true :: (.b true :: (.s (.t 72) [iv (x7_29.length : Int)] :: (.b true :: (.b true :: (.c ((e_l 1 e_i64) x7_32) :: (.b true :: (.b true :: (.s (.t 76) [iv (x7_32.length : Int)] :: (.b true :: (.b true :: (.b true :: (rp 13 (.b false) [])))))))))))))))))))))))))))))))))))))))))))) (.c (c_len (e := (e_l 1 e_i64)) (l := r6_1)) (.r 2 b7_1 (.c (c_ix (e := (e_l 1 e_i64)) a7_3 e7_4) (.c (c_el (e := (e_l 1 e_i64)) e7_4) (.r 2 b7_1 (.c (c_len (e := e_i64) (l := x7_2)) (.r 2 b7_1 (.r 2 b7_5 (.c (c_ix (e := (e_l 1 e_i64)) a7_7 e7_8) (.c (c_el (e := (e_l 1 e_i64)) e7_8) (.r 2 b7_5 (.c (c_ix (e := e_i64) a7_10 e7_11) (.c (c_el (e := e_i64) e7_11) (.r 3 b7_5 (.r 2 b7_12 (.c (c_ix (e := (e_l 1 e_i64)) a7_14 e7_15) (.c (c_el (e := (e_l 1 e_i64)) e7_15) (.r 2 b7_12 (.c (c_len (e := e_i64) (l := x7_13)) (.r 2 b7_12 (.r 2 b7_16 (.c (c_ix (e := (e_l 1 e_i64)) a7_18 e7_19) (.c (c_el (e := (e_l 1 e_i64)) e7_19) (.r 2 b7_16 (.c (c_len (e := e_i64) (l := x7_17)) (.r 2 b7_16 (.r 2 b7_20 (.c (c_ix (e := (e_l 1 e_i64)) a7_22 e7_23) (.c (c_el (e := (e_l 1 e_i64)) e7_23) (.r 2 b7_20 (.c (c_ix (e := e_i64) a7_25 e7_26) (.c (c_el (e := e_i64) e7_26) (.r 3 b7_20 (.r 2 b7_27 (.c (c_len (e := (e_l 1 e_i64)) (l := r6_3)) (.r 2 b7_27 (.r 2 b7_28 (.c (c_ix (e := (e_l 1 e_i64)) a7_30 e7_31) (.c (c_el (e := (e_l 1 e_i64)) e7_31) (.r 2 b7_28 (.c (c_len (e := e_i64) (l := x7_29)) (.r 2 b7_28 (.c (c_ix (e := (e_l 1 e_i64)) a7_33 e7_34) (.c (c_el (e := (e_l 1 e_i64)) e7_34) (.r 2 b7_28 (.c (c_len (e := e_i64) (l := x7_32)) (.r 3 b7_28 (.r 4 b7_35 (.r 9 rF (.c rT .n)))))))))))))))))))))))))))))))))))))))))))))))))) ?_
          refine kRt ?_
          have h_ := some_inj h
          subst h_
          exact kFr
        ·refine kRs 0 [Tm 0 (bv false)] (.s (.t 24) [iv (r6_1.length : Int)] :: (.b true :: (.b true :: (.c ((e_l 1 e_i64) x7_2) :: (.b true :: (.b true :: (.s (.t 30) [iv (x7_2.length : Int)] :: (rp 4 (.b true) (.c ((e_l 1 e_i64) x7_6) :: (.b true :: (.b true :: (.c (e_i64 x7_9) :: (rp 5 (.b true) (.c ((e_l 1 e_i64) x7_13) :: (.b true :: (.b true :: (.s (.t 45) [iv (x7_13.length : Int)] :: (rp 4 (.b true) (.c ((e_l 1 e_i64) x7_17) :: (.b true :: (.b true :: (.s (.t 52) [iv (x7_17.length : Int)] :: (rp 4 (.b true) (.c ((e_l 1 e_i64) x7_21) :: (.b true :: (.b true :: (.c (e_i64 x7_24) :: (rp 5 (.b true) (.s (.t 65) [iv (r6_3.length : Int)] :: (.b true :: (.b true :: (rp 24 (.b false) [])))))))))))))))))))))))))))))))) (.c (c_len (e := (e_l 1 e_i64)) (l := r6_1)) (.r 2 b7_1 (.c (c_ix (e := (e_l 1 e_i64)) a7_3 e7_4) (.c (c_el (e := (e_l 1 e_i64)) e7_4) (.r 2 b7_1 (.c (c_len (e := e_i64) (l := x7_2)) (.r 2 b7_1 (.r 2 b7_5 (.c (c_ix (e := (e_l 1 e_i64)) a7_7 e7_8) (.c (c_el (e := (e_l 1 e_i64)) e7_8) (.r 2 b7_5 (.c (c_ix (e := e_i64) a7_10 e7_11) (.c (c_el (e := e_i64) e7_11) (.r 3 b7_5 (.r 2 b7_12 (.c (c_ix (e := (e_l 1 e_i64)) a7_14 e7_15) (.c (c_el (e := (e_l 1 e_i64)) e7_15) (.r 2 b7_12 (.c (c_len (e := e_i64) (l := x7_13)) (.r 2 b7_12 (.r 2 b7_16 (.c (c_ix (e := (e_l 1 e_i64)) a7_18 e7_19) (.c (c_el (e := (e_l 1 e_i64)) e7_19) (.r 2 b7_16 (.c (c_len (e := e_i64) (l := x7_17)) (.r 2 b7_16 (.r 2 b7_20 (.c (c_ix (e := (e_l 1 e_i64)) a7_22 e7_23) (.c (c_el (e := (e_l 1 e_i64)) e7_23) (.r 2 b7_20 (.c (c_ix (e := e_i64) a7_25 e7_26) (.c (c_el (e := e_i64) e7_26) (.r 3 b7_20 (.r 2 b7_27 (.c (c_len (e := (e_l 1 e_i64)) (l := r6_3)) (.r 2 b7_27 (.r 11 b7_28 (.r 13 rF (.c rT .n))))))))))))))))))))))))))))))))))))))) ?_
         refine kRt ?_
         have h_ := some_inj h
         subst h_
         exact kFr
       ·refine kRs 0 [Tm 0 (bv false)] (.s (.t 24) [iv (r6_1.length : Int)] :: (.b true :: (.b true :: (.c ((e_l 1 e_i64) x7_2) :: (.b true :: (.b true :: (.s (.t 30) [iv (x7_2.length : Int)] :: (rp 4 (.b true) (.c ((e_l 1 e_i64) x7_6) :: (.b true :: (.b true :: (.c (e_i64 x7_9) :: (rp 5 (.b true) (.c ((e_l 1 e_i64) x7_13) :: (.b true :: (.b true :: (.s (.t 45) [iv (x7_13.length : Int)] :: (rp 4 (.b true) (.c ((e_l 1 e_i64) x7_17) :: (.b true :: (.b true :: (.s (.t 52) [iv (x7_17.length : Int)] :: (rp 4 (.b true) (.c ((e_l 1 e_i64) x7_21) :: (.b true :: (.b true :: (.c (e_i64 x7_24) :: (.b true :: (.b true :: (.b true :: (rp 28 (.b false) []))))))))))))))))))))))))))))))) (.c (c_len (e := (e_l 1 e_i64)) (l := r6_1)) (.r 2 b7_1 (.c (c_ix (e := (e_l 1 e_i64)) a7_3 e7_4) (.c (c_el (e := (e_l 1 e_i64)) e7_4) (.r 2 b7_1 (.c (c_len (e := e_i64) (l := x7_2)) (.r 2 b7_1 (.r 2 b7_5 (.c (c_ix (e := (e_l 1 e_i64)) a7_7 e7_8) (.c (c_el (e := (e_l 1 e_i64)) e7_8) (.r 2 b7_5 (.c (c_ix (e := e_i64) a7_10 e7_11) (.c (c_el (e := e_i64) e7_11) (.r 3 b7_5 (.r 2 b7_12 (.c (c_ix (e := (e_l 1 e_i64)) a7_14 e7_15) (.c (c_el (e := (e_l 1 e_i64)) e7_15) (.r 2 b7_12 (.c (c_len (e := e_i64) (l := x7_13)) (.r 2 b7_12 (.r 2 b7_16 (.c (c_ix (e := (e_l 1 e_i64)) a7_18 e7_19) (.c (c_el (e := (e_l 1 e_i64)) e7_19) (.r 2 b7_16 (.c (c_len (e := e_i64) (l := x7_17)) (.r 2 b7_16 (.r 2 b7_20 (.c (c_ix (e := (e_l 1 e_i64)) a7_22 e7_23) (.c (c_el (e := (e_l 1 e_i64)) e7_23) (.r 2 b7_20 (.c (c_ix (e := e_i64) a7_25 e7_26) (.c (c_el (e := e_i64) e7_26) (.r 3 b7_20 (.r 4 b7_27 (.r 24 rF (.c rT .n)))))))))))))))))))))))))))))))))))) ?_
        refine kRt ?_
        have h_ := some_inj h
        subst h_
        exact kFr
      ·refine kRs 0 [Tm 0 (bv false)] (.s (.t 24) [iv (r6_1.length : Int)] :: (.b true :: (.b true :: (.c ((e_l 1 e_i64) x7_2) :: (.b true :: (.b true :: (.s (.t 30) [iv (x7_2.length : Int)] :: (rp 4 (.b true) (.c ((e_l 1 e_i64) x7_6) :: (.b true :: (.b true :: (.c (e_i64 x7_9) :: (rp 5 (.b true) (.c ((e_l 1 e_i64) x7_13) :: (.b true :: (.b true :: (.s (.t 45) [iv (x7_13.length : Int)] :: (rp 4 (.b true) (.c ((e_l 1 e_i64) x7_17) :: (.b true :: (.b true :: (.s (.t 52) [iv (x7_17.length : Int)] :: (.b true :: (.b true :: (rp 35 (.b false) []))))))))))))))))))))))))) (.c (c_len (e := (e_l 1 e_i64)) (l := r6_1)) (.r 2 b7_1 (.c (c_ix (e := (e_l 1 e_i64)) a7_3 e7_4) (.c (c_el (e := (e_l 1 e_i64)) e7_4) (.r 2 b7_1 (.c (c_len (e := e_i64) (l := x7_2)) (.r 2 b7_1 (.r 2 b7_5 (.c (c_ix (e := (e_l 1 e_i64)) a7_7 e7_8) (.c (c_el (e := (e_l 1 e_i64)) e7_8) (.r 2 b7_5 (.c (c_ix (e := e_i64) a7_10 e7_11) (.c (c_el (e := e_i64) e7_11) (.r 3 b7_5 (.r 2 b7_12 (.c (c_ix (e := (e_l 1 e_i64)) a7_14 e7_15) (.c (c_el (e := (e_l 1 e_i64)) e7_15) (.r 2 b7_12 (.c (c_len (e := e_i64) (l := x7_13)) (.r 2 b7_12 (.r 2 b7_16 (.c (c_ix (e := (e_l 1 e_i64)) a7_18 e7_19) (.c (c_el (e := (e_l 1 e_i64)) e7_19) (.r 2 b7_16 (.c (c_len (e := e_i64) (l := x7_17)) (.r 2 b7_16 (.r 7 b7_20 (.r 28 rF (.c rT .n))))))))))))))))))))))))))))) ?_
       refine kRt ?_
       have h_ := some_inj h
       subst h_
       exact kFr
     ·refine kRs 0 [Tm 0 (bv false)] (.s (.t 24) [iv (r6_1.length : Int)] :: (.b true :: (.b true :: (.c ((e_l 1 e_i64) x7_2) :: (.b true :: (.b true :: (.s (.t 30) [iv (x7_2.length : Int)] :: (rp 4 (.b true) (.c ((e_l 1 e_i64) x7_6) :: (.b true :: (.b true :: (.c (e_i64 x7_9) :: (rp 5 (.b true) (.c ((e_l 1 e_i64) x7_13) :: (.b true :: (.b true :: (.s (.t 45) [iv (x7_13.length : Int)] :: (.b true :: (.b true :: (rp 41 (.b false) [])))))))))))))))))))) (.c (c_len (e := (e_l 1 e_i64)) (l := r6_1)) (.r 2 b7_1 (.c (c_ix (e := (e_l 1 e_i64)) a7_3 e7_4) (.c (c_el (e := (e_l 1 e_i64)) e7_4) (.r 2 b7_1 (.c (c_len (e := e_i64) (l := x7_2)) (.r 2 b7_1 (.r 2 b7_5 (.c (c_ix (e := (e_l 1 e_i64)) a7_7 e7_8) (.c (c_el (e := (e_l 1 e_i64)) e7_8) (.r 2 b7_5 (.c (c_ix (e := e_i64) a7_10 e7_11) (.c (c_el (e := e_i64) e7_11) (.r 3 b7_5 (.r 2 b7_12 (.c (c_ix (e := (e_l 1 e_i64)) a7_14 e7_15) (.c (c_el (e := (e_l 1 e_i64)) e7_15) (.r 2 b7_12 (.c (c_len (e := e_i64) (l := x7_13)) (.r 2 b7_12 (.r 6 b7_16 (.r 35 rF (.c rT .n))))))))))))))))))))))) ?_
      refine kRt ?_
      have h_ := some_inj h
      subst h_
      exact kFr
    ·refine kRs 0 [Tm 0 (bv false)] (.s (.t 24) [iv (r6_1.length : Int)] :: (.b true :: (.b true :: (.c ((e_l 1 e_i64) x7_2) :: (.b true :: (.b true :: (.s (.t 30) [iv (x7_2.length : Int)] :: (rp 4 (.b true) (.c ((e_l 1 e_i64) x7_6) :: (.b true :: (.b true :: (.c (e_i64 x7_9) :: (.b true :: (.b true :: (.b true :: (rp 47 (.b false) [])))))))))))))))) (.c (c_len (e := (e_l 1 e_i64)) (l := r6_1)) (.r 2 b7_1 (.c (c_ix (e := (e_l 1 e_i64)) a7_3 e7_4) (.c (c_el (e := (e_l 1 e_i64)) e7_4) (.r 2 b7_1 (.c (c_len (e := e_i64) (l := x7_2)) (.r 2 b7_1 (.r 2 b7_5 (.c (c_ix (e := (e_l 1 e_i64)) a7_7 e7_8) (.c (c_el (e := (e_l 1 e_i64)) e7_8) (.r 2 b7_5 (.c (c_ix (e := e_i64) a7_10 e7_11) (.c (c_el (e := e_i64) e7_11) (.r 3 b7_5 (.r 6 b7_12 (.r 41 rF (.c rT .n))))))))))))))))) ?_
     refine kRt ?_
     have h_ := some_inj h
     subst h_
     exact kFr
   ·refine kRs 0 [Tm 0 (bv false)] (.s (.t 24) [iv (r6_1.length : Int)] :: (.b true :: (.b true :: (.c ((e_l 1 e_i64) x7_2) :: (.b true :: (.b true :: (.s (.t 30) [iv (x7_2.length : Int)] :: (.b true :: (.b true :: (rp 54 (.b false) [])))))))))) (.c (c_len (e := (e_l 1 e_i64)) (l := r6_1)) (.r 2 b7_1 (.c (c_ix (e := (e_l 1 e_i64)) a7_3 e7_4) (.c (c_el (e := (e_l 1 e_i64)) e7_4) (.r 2 b7_1 (.c (c_len (e := e_i64) (l := x7_2)) (.r 2 b7_1 (.r 7 b7_5 (.r 47 rF (.c rT .n)))))))))) ?_
    refine kRt ?_
    have h_ := some_inj h
    subst h_
    exact kFr
  ·refine kRs 0 [Tm 0 (bv false)] (.s (.t 24) [iv (r6_1.length : Int)] :: (rp 60 (.b false) [])) (.c (c_len (e := (e_l 1 e_i64)) (l := r6_1)) (.r 6 b7_1 (.r 54 rF (.c rT .n)))) ?_
   refine kRt ?_
   have h_ := some_inj h
   subst h_
   exact kFr
end Go.Proofs.Ytbiokgkfjggbiaa.Told
