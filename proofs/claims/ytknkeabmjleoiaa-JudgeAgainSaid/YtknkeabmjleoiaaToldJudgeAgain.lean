/- Functions of the program told as Lean functions, with the walks of their code in the machine by value. -/
import Derived.Test.YtknkeabmjleoiaaProg
import Derived.Test.YtknkeabmjleoiaaVam2
import Derived.Test.YtknkeabmjleoiaaIns36
import Derived.Test.YtknkeabmjleoiaaIns43
import Derived.Test.YtknkeabmjleoiaaToldJudgeAgainp1
namespace Go.Proofs.Ytknkeabmjleoiaa.Told
open Go Go.Proofs Go.Proofs.Ytknkeabmjleoiaa Go.Proofs.Ytknkeabmjleoiaa.Vam
set_option linter.unusedVariables false
set_option maxRecDepth 100000
/-- diwan/diwanref13.SameStore -/
noncomputable def bd15 : Code := (Try.f15.body).getD .skip
def diwanref13_SameStore.O : Nat → Nat := fun t => bif ([2, 3, 4, 5] : List Nat).any (Nat.beq t) then 1 else 0
noncomputable def diwanref13_SameStore.lp7 (fu : Nat) (l7_1 : TStore) (l7_2 : TStore) : Nat → Int → Option (Unit ⊕ Unit)
  | 0, _ => none
  | n_ + 1, l7_0 =>
    br (decide (l7_0 < (l7_1.Chains.length : Int)))
      (ix l7_1.Chains l7_0 fun x10_1 =>
      ix l7_2.Chains l7_0 fun x10_4 =>
      br (!(x10_1.Key.toList == x10_4.Key.toList))
        (some (.inr ()))
        (ix l7_1.Chains l7_0 fun x10_8 =>
        ix l7_2.Chains l7_0 fun x10_11 =>
        bd (diwanref13_SameChain fu x10_8.L x10_11.L) fun r10_14 =>
        br (!r10_14)
          (some (.inr ()))
          (diwanref13_SameStore.lp7 fu l7_1 l7_2 n_ (w64 (l7_0 + 1)))))
      (some (.inl ()))
noncomputable def diwanref13_SameStore.lp7_post (l7_1 : TStore) (l7_2 : TStore) (r_ : (Unit ⊕ Unit)) : Wy → St → Prop := fun e τ => match r_ with
  | .inl _ => e = .exit 0 ∧ τ = ofL []
  | .inr _ => e = .ret ∧ τ = ofL [(.t 4, [bv false])]
theorem diwanref13_SameStore.lp7_ok (fu : Nat) (l7_1 : TStore) (l7_2 : TStore) : ∀ (n_ : Nat) (l7_0 : Int) (r_ : (Unit ⊕ Unit)), diwanref13_SameStore.lp7 fu l7_1 l7_2 n_ l7_0 = some r_ → WK Try.prog diwanref13_SameStore.O (Ck Try.prog) (cB (cR (cL (cR (cR bd15))))) [] (ofL [(.t 2, [.ptr 2 0]), (.t 3, [.ptr 3 0]), (.t 5, [iv l7_0]), (.o 2, [.data (.slc false none 2 (List.map TChain.en l7_1.Chains)), iv l7_1.Mark]), (.o 3, [.data (.slc false none 2 (List.map TChain.en l7_2.Chains)), iv l7_2.Mark])]) (diwanref13_SameStore.lp7_post l7_1 l7_2 r_) := by
  intro n_
  induction n_ with
  | zero => intro l7_0 r_ h; exact no_none h
  | succ n_ ih =>
    intro l7_0 r_ h
    refine WK.loop (by kernel_rfl) ?_
    refine WK.seq (by kernel_rfl) ?_
    refine WK.rs (g := [.s (.t 23) [iv (l7_1.Chains.length : Int)]]) (l' := [(.t 2, [.ptr 2 0]), (.t 3, [.ptr 3 0]), (.t 5, [iv l7_0]), (.t 24, [bv (decide (l7_0 < (l7_1.Chains.length : Int)))]), (.o 2, [.data (.slc false none 2 (List.map TChain.en l7_1.Chains)), iv l7_1.Mark]), (.o 3, [.data (.slc false none 2 (List.map TChain.en l7_2.Chains)), iv l7_2.Mark])]) (by kernel_rfl) (.cons (c_len (e := TChain.en) (l := l7_1.Chains)) .nil) (by kernel_rfl) ?_
    rcases br_inv h with ⟨b9_0, h⟩ | ⟨b9_0, h⟩
    · refine WK.ct (b := (decide (l7_0 < (l7_1.Chains.length : Int)))) (by kernel_rfl) b9_0 ?_
      refine WK.skip (by kernel_rfl) ?_
      refine WKe.code (y := (cR (cB (cB (cR (cL (cR (cR bd15)))))))) (ks' := [.lp (cB (cR (cL (cR (cR bd15)))))]) (by kernel_rfl) ?_
      refine WK.seq (by kernel_rfl) ?_
      refine WK.block (n := 1) (by kernel_rfl) ?_
      obtain ⟨x10_1, a10_2, e10_3, h⟩ := ix_inv h
      obtain ⟨x10_4, a10_5, e10_6, h⟩ := ix_inv h
      rcases br_inv h with ⟨b10_7, h⟩ | ⟨b10_7, h⟩
      · refine WK.rs (g := [.c (TChain.en x10_1), .c (TChain.en x10_4), .b true, .b true, .b true, .b true, .b true, .b true, .b true, .b true, .b true, .b true, .b true, .b true, .b true, .b true, .b true]) (l' := [(.t 2, [.ptr 2 0]), (.t 3, [.ptr 3 0]), (.t 5, [iv l7_0]), (.t 55, [bv true]), (.o 2, [.data (.slc false none 2 (List.map TChain.en l7_1.Chains)), iv l7_1.Mark]), (.o 3, [.data (.slc false none 2 (List.map TChain.en l7_2.Chains)), iv l7_2.Mark])]) (by kernel_rfl) (.cons (c_ix (e := TChain.en) a10_2 e10_3) (.cons (c_el (e := TChain.en) e10_3) (.cons (c_ix (e := TChain.en) a10_5 e10_6) (.cons (c_el (e := TChain.en) e10_6) (.cons b10_7 (.cons b10_7 (.cons b10_7 (.cons b10_7 (.cons b10_7 (.cons b10_7 (.cons b10_7 (.cons b10_7 (.cons b10_7 (.cons b10_7 (.cons b10_7 (.cons b10_7 (.cons b10_7 (.cons b10_7 (.cons b10_7 (.cons (Eq.refl true) .nil)))))))))))))))))))) (by kernel_rfl) ?_
        refine WK.ct (b := true) (by kernel_rfl) rfl ?_
        refine WK.rs (g := []) (l' := [(.t 4, [bv false])]) (by kernel_rfl) .nil (by kernel_rfl) ?_
        refine WK.weak (l := [(.t 4, [bv false])]) (wk_of (by kernel_rfl)) ?_
        refine WK.ret (by kernel_rfl) ?_
        cases some_inj h
        exact WKe.fin (e' := .ret) (by kernel_rfl) ⟨rfl, rfl⟩
      · obtain ⟨x10_8, a10_9, e10_10, h⟩ := ix_inv h
        obtain ⟨x10_11, a10_12, e10_13, h⟩ := ix_inv h
        obtain ⟨r10_14, h10_15, h⟩ := bd_inv h
        refine WK.rs (g := [.c (TChain.en x10_1), .c (TChain.en x10_4), .b false, .b false, .b false, .b false, .c (TChain.en x10_8), .b false, .b false, .b false, .b false, .b false, .b false, .c (TChain.en x10_11), .b false, .b false, .b false, .a ⟨bv r10_14, []⟩, .b false, .b false]) (l' := [(.t 2, [.ptr 2 0]), (.t 3, [.ptr 3 0]), (.t 5, [iv l7_0]), (.t 55, [bv (!r10_14)]), (.o 2, [.data (.slc false none 2 (List.map TChain.en l7_1.Chains)), iv l7_1.Mark]), (.o 3, [.data (.slc false none 2 (List.map TChain.en l7_2.Chains)), iv l7_2.Mark])]) (by kernel_rfl) (.cons (c_ix (e := TChain.en) a10_2 e10_3) (.cons (c_el (e := TChain.en) e10_3) (.cons (c_ix (e := TChain.en) a10_5 e10_6) (.cons (c_el (e := TChain.en) e10_6) (.cons b10_7 (.cons b10_7 (.cons b10_7 (.cons b10_7 (.cons (c_ix (e := TChain.en) a10_9 e10_10) (.cons (c_el (e := TChain.en) e10_10) (.cons b10_7 (.cons b10_7 (.cons b10_7 (.cons b10_7 (.cons b10_7 (.cons b10_7 (.cons (c_ix (e := TChain.en) a10_12 e10_13) (.cons (c_el (e := TChain.en) e10_13) (.cons b10_7 (.cons b10_7 (.cons b10_7 (.cons (Asks.of (C := Meets Try.prog) (diwanref13_SameChain.meets fu x10_8.L x10_11.L _ h10_15)) (.cons b10_7 (.cons b10_7 (.cons (Eq.refl true) .nil))))))))))))))))))))))))) (by kernel_rfl) ?_
        rcases br_inv h with ⟨b12_0, h⟩ | ⟨b12_0, h⟩
        · refine WK.ct (b := (!r10_14)) (by kernel_rfl) b12_0 ?_
          refine WK.rs (g := []) (l' := [(.t 4, [bv false])]) (by kernel_rfl) .nil (by kernel_rfl) ?_
          refine WK.weak (l := [(.t 4, [bv false])]) (wk_of (by kernel_rfl)) ?_
          refine WK.ret (by kernel_rfl) ?_
          cases some_inj h
          exact WKe.fin (e' := .ret) (by kernel_rfl) ⟨rfl, rfl⟩
        · refine WK.ce (b := (!r10_14)) (by kernel_rfl) b12_0 ?_
          refine WK.skip (by kernel_rfl) ?_
          refine WKe.code (y := (cR (cR (cB (cB (cR (cL (cR (cR bd15))))))))) (ks' := [.lp (cB (cR (cL (cR (cR bd15)))))]) (by kernel_rfl) ?_
          refine WK.rc (g := []) (l' := [(.t 2, [.ptr 2 0]), (.t 3, [.ptr 3 0]), (.t 5, [iv (w64 (l7_0 + 1))]), (.o 2, [.data (.slc false none 2 (List.map TChain.en l7_1.Chains)), iv l7_1.Mark]), (.o 3, [.data (.slc false none 2 (List.map TChain.en l7_2.Chains)), iv l7_2.Mark])]) .nil (by kernel_rfl) (y := (cB (cR (cL (cR (cR bd15)))))) (ks' := []) (by kernel_rfl) ?_
          exact WK.weak (l := [(.t 2, [.ptr 2 0]), (.t 3, [.ptr 3 0]), (.t 5, [iv (w64 (l7_0 + 1))]), (.o 2, [.data (.slc false none 2 (List.map TChain.en l7_1.Chains)), iv l7_1.Mark]), (.o 3, [.data (.slc false none 2 (List.map TChain.en l7_2.Chains)), iv l7_2.Mark])]) (wk_of (by kernel_rfl)) (ih (w64 (l7_0 + 1)) _ h)
    · refine WK.ce (b := (decide (l7_0 < (l7_1.Chains.length : Int)))) (by kernel_rfl) b9_0 ?_
      refine WK.weak (l := []) (wk_of (by kernel_rfl)) ?_
      refine WK.exit (n := 0) (by kernel_rfl) ?_
      cases some_inj h
      exact WKe.fin (e' := .exit 0) (by kernel_rfl) ⟨rfl, rfl⟩
noncomputable def diwanref13_SameStore (fu : Nat) (a : TStore) (b : TStore) : Option Bool :=
  br (a.Mark != b.Mark)
    (some false)
    (br ((a.Chains.length : Int) != (b.Chains.length : Int))
      (some false)
      (bd (diwanref13_SameStore.lp7 fu a b fu 0) fun o_ => (match o_ with
      | .inl _ =>
        some true
      | .inr _ =>
        some false)))
theorem diwanref13_SameStore.meets (fu : Nat) (a : TStore) (b : TStore) (z0 : Bool) (h : diwanref13_SameStore fu a b = some z0) : Meets Try.prog ⟨15, [.data (.agg [.slc false none 2 (List.map TChain.en a.Chains), .val (.int .i64 a.Mark)]), .data (.agg [.slc false none 2 (List.map TChain.en b.Chains), .val (.int .i64 b.Mark)])], []⟩ ⟨bv z0, []⟩ := by
  refine meets_of (O := diwanref13_SameStore.O) hmix (fn := Try.f15) (code := bd15) (by kernel_rfl) ?_
  refine WK.weak (l := [(.t 0, [.data (.agg [.slc false none 2 (List.map TChain.en a.Chains), .val (.int .i64 a.Mark)])]), (.t 1, [.data (.agg [.slc false none 2 (List.map TChain.en b.Chains), .val (.int .i64 b.Mark)])])]) (wk_of (by kernel_rfl)) ?_
  unfold diwanref13_SameStore at h
  refine WK.rs (g := []) (l' := [(.t 2, [.ptr 2 0]), (.t 3, [.ptr 3 0]), (.o 2, [.data (.slc false none 2 (List.map TChain.en a.Chains)), iv a.Mark]), (.o 3, [.data (.slc false none 2 (List.map TChain.en b.Chains)), iv b.Mark])]) (by kernel_rfl) .nil (by kernel_rfl) ?_
  refine WK.seq (by kernel_rfl) ?_
  rcases br_inv h with ⟨b2_1, h⟩ | ⟨b2_1, h⟩
  · refine WK.rs (g := [.b true, .b true, .b true, .b true, .b true, .b true, .b true, .b true]) (l' := [(.t 2, [.ptr 2 0]), (.t 3, [.ptr 3 0]), (.t 19, [bv true]), (.o 2, [.data (.slc false none 2 (List.map TChain.en a.Chains)), iv a.Mark]), (.o 3, [.data (.slc false none 2 (List.map TChain.en b.Chains)), iv b.Mark])]) (by kernel_rfl) (.cons b2_1 (.cons b2_1 (.cons b2_1 (.cons b2_1 (.cons b2_1 (.cons b2_1 (.cons b2_1 (.cons b2_1 .nil)))))))) (by kernel_rfl) ?_
    refine WK.ct (b := true) (by kernel_rfl) rfl ?_
    refine WK.rs (g := []) (l' := [(.t 4, [bv false])]) (by kernel_rfl) .nil (by kernel_rfl) ?_
    refine WK.weak (l := [(.t 4, [bv false])]) (wk_of (by kernel_rfl)) ?_
    refine WK.ret (by kernel_rfl) ?_
    have h_ := some_inj h
    subst h_
    exact WKe.fin (e' := .ret) (by kernel_rfl) (fin_of (g := []) (by first | exact .inl rfl | exact .inr rfl) .nil (by kernel_rfl))
  · refine WK.rs (g := [.b false, .b false, .b false, .s (.t 14) [iv (a.Chains.length : Int)], .b false, .b false, .b false, .s (.t 17) [iv (b.Chains.length : Int)], .b false, .b false]) (l' := [(.t 2, [.ptr 2 0]), (.t 3, [.ptr 3 0]), (.t 19, [bv ((a.Chains.length : Int) != (b.Chains.length : Int))]), (.o 2, [.data (.slc false none 2 (List.map TChain.en a.Chains)), iv a.Mark]), (.o 3, [.data (.slc false none 2 (List.map TChain.en b.Chains)), iv b.Mark])]) (by kernel_rfl) (.cons b2_1 (.cons b2_1 (.cons b2_1 (.cons (c_len (e := TChain.en) (l := a.Chains)) (.cons b2_1 (.cons b2_1 (.cons b2_1 (.cons (c_len (e := TChain.en) (l := b.Chains)) (.cons b2_1 (.cons b2_1 .nil)))))))))) (by kernel_rfl) ?_
    rcases br_inv h with ⟨b4_0, h⟩ | ⟨b4_0, h⟩
    · refine WK.ct (b := ((a.Chains.length : Int) != (b.Chains.length : Int))) (by kernel_rfl) b4_0 ?_
      refine WK.rs (g := []) (l' := [(.t 4, [bv false])]) (by kernel_rfl) .nil (by kernel_rfl) ?_
      refine WK.weak (l := [(.t 4, [bv false])]) (wk_of (by kernel_rfl)) ?_
      refine WK.ret (by kernel_rfl) ?_
      have h_ := some_inj h
      subst h_
      exact WKe.fin (e' := .ret) (by kernel_rfl) (fin_of (g := []) (by first | exact .inl rfl | exact .inr rfl) .nil (by kernel_rfl))
    · refine WK.ce (b := ((a.Chains.length : Int) != (b.Chains.length : Int))) (by kernel_rfl) b4_0 ?_
      refine WK.skip (by kernel_rfl) ?_
      refine WKe.code (y := (cR (cR bd15))) (ks' := []) (by kernel_rfl) ?_
      refine WK.seq (by kernel_rfl) ?_
      refine WK.rs (g := []) (l' := [(.t 2, [.ptr 2 0]), (.t 3, [.ptr 3 0]), (.t 5, [iv 0]), (.o 2, [.data (.slc false none 2 (List.map TChain.en a.Chains)), iv a.Mark]), (.o 3, [.data (.slc false none 2 (List.map TChain.en b.Chains)), iv b.Mark])]) (by kernel_rfl) .nil (by kernel_rfl) ?_
      refine WK.block (n := 0) (by kernel_rfl) ?_
      obtain ⟨o15, ho15, h⟩ := bd_inv h
      refine WK.weak (l := [(.t 2, [.ptr 2 0]), (.t 3, [.ptr 3 0]), (.t 5, [iv 0]), (.o 2, [.data (.slc false none 2 (List.map TChain.en a.Chains)), iv a.Mark]), (.o 3, [.data (.slc false none 2 (List.map TChain.en b.Chains)), iv b.Mark])]) (wk_of (by kernel_rfl)) ?_
      refine WK.use (diwanref13_SameStore.lp7_ok fu a b _ 0 _ ho15) ?_
      intro e_ τ_ hp_
      rcases o15 with o15 | o15
      · obtain ⟨⟩ := o15
        obtain ⟨rfl, rfl⟩ := hp_
        refine WKe.code (y := (cR (cR (cR bd15)))) (ks' := []) (by kernel_rfl) ?_
        refine WK.rs (g := []) (l' := [(.t 4, [bv true])]) (by kernel_rfl) .nil (by kernel_rfl) ?_
        refine WK.weak (l := [(.t 4, [bv true])]) (wk_of (by kernel_rfl)) ?_
        refine WK.ret (by kernel_rfl) ?_
        have h_ := some_inj h
        subst h_
        exact WKe.fin (e' := .ret) (by kernel_rfl) (fin_of (g := []) (by first | exact .inl rfl | exact .inr rfl) .nil (by kernel_rfl))
      · obtain ⟨⟩ := o15
        obtain ⟨rfl, rfl⟩ := hp_
        have h_ := some_inj h
        subst h_
        exact WKe.fin (e' := .ret) (by kernel_rfl) (fin_of (g := []) (by first | exact .inl rfl | exact .inr rfl) .nil (by kernel_rfl))
/-- diwan/diwanref13.SameSeats -/
noncomputable def bd16 : Code := (Try.f16.body).getD .skip
def diwanref13_SameSeats.O : Nat → Nat := fun t => bif ([4, 5] : List Nat).any (Nat.beq t) then 1 else 0
noncomputable def diwanref13_SameSeats.lp6 (fu : Nat) (l6_0 : List TSeat) (l6_1 : List TSeat) : Nat → Int → Option (Unit ⊕ Unit)
  | 0, _ => none
  | n_ + 1, l6_2 =>
    br (decide (l6_2 < (l6_0.length : Int)))
      (ix l6_0 l6_2 fun x9_1 =>
      ix l6_1 l6_2 fun x9_4 =>
      br (!((x9_1.Session == x9_4.Session) && ((x9_1.Seq == x9_4.Seq) && ((x9_1.Pos == x9_4.Pos) && true))))
        (some (.inr ()))
        (diwanref13_SameSeats.lp6 fu l6_0 l6_1 n_ (w64 (l6_2 + 1))))
      (some (.inl ()))
noncomputable def diwanref13_SameSeats.lp6_post (l6_0 : List TSeat) (l6_1 : List TSeat) (r_ : (Unit ⊕ Unit)) : Wy → St → Prop := fun e τ => match r_ with
  | .inl _ => e = .exit 0 ∧ τ = ofL []
  | .inr _ => e = .ret ∧ τ = ofL [(.t 4, [bv false])]
theorem diwanref13_SameSeats.lp6_ok (fu : Nat) (l6_0 : List TSeat) (l6_1 : List TSeat) : ∀ (n_ : Nat) (l6_2 : Int) (r_ : (Unit ⊕ Unit)), diwanref13_SameSeats.lp6 fu l6_0 l6_1 n_ l6_2 = some r_ → WK Try.prog diwanref13_SameSeats.O (Ck Try.prog) (cB (cR (cL (cR (cR bd16))))) [] (ofL [(.t 0, [.data (.slc false none 3 (List.map TSeat.en l6_0))]), (.t 1, [.data (.slc false none 3 (List.map TSeat.en l6_1))]), (.t 5, [iv l6_2])]) (diwanref13_SameSeats.lp6_post l6_0 l6_1 r_) := by
  intro n_
  induction n_ with
  | zero => intro l6_2 r_ h; exact no_none h
  | succ n_ ih =>
    intro l6_2 r_ h
    refine WK.loop (by kernel_rfl) ?_
    refine WK.seq (by kernel_rfl) ?_
    refine WK.rs (g := [.s (.t 13) [iv (l6_0.length : Int)]]) (l' := [(.t 0, [.data (.slc false none 3 (List.map TSeat.en l6_0))]), (.t 1, [.data (.slc false none 3 (List.map TSeat.en l6_1))]), (.t 5, [iv l6_2]), (.t 14, [bv (decide (l6_2 < (l6_0.length : Int)))])]) (by kernel_rfl) (.cons (c_len (e := TSeat.en) (l := l6_0)) .nil) (by kernel_rfl) ?_
    rcases br_inv h with ⟨b8_0, h⟩ | ⟨b8_0, h⟩
    · refine WK.ct (b := (decide (l6_2 < (l6_0.length : Int)))) (by kernel_rfl) b8_0 ?_
      refine WK.skip (by kernel_rfl) ?_
      refine WKe.code (y := (cR (cB (cB (cR (cL (cR (cR bd16)))))))) (ks' := [.lp (cB (cR (cL (cR (cR bd16)))))]) (by kernel_rfl) ?_
      refine WK.seq (by kernel_rfl) ?_
      refine WK.block (n := 1) (by kernel_rfl) ?_
      obtain ⟨x9_1, a9_2, e9_3, h⟩ := ix_inv h
      obtain ⟨x9_4, a9_5, e9_6, h⟩ := ix_inv h
      refine WK.rs (g := [.c (TSeat.en x9_1), .c (TSeat.en x9_4)]) (l' := [(.t 0, [.data (.slc false none 3 (List.map TSeat.en l6_0))]), (.t 1, [.data (.slc false none 3 (List.map TSeat.en l6_1))]), (.t 5, [iv l6_2]), (.t 25, [bv (!((x9_1.Session == x9_4.Session) && ((x9_1.Seq == x9_4.Seq) && ((x9_1.Pos == x9_4.Pos) && true))))])]) (by kernel_rfl) (.cons (c_ix (e := TSeat.en) a9_2 e9_3) (.cons (c_el (e := TSeat.en) e9_3) (.cons (c_ix (e := TSeat.en) a9_5 e9_6) (.cons (c_el (e := TSeat.en) e9_6) (.cons (Eq.refl true) .nil))))) (by kernel_rfl) ?_
      rcases br_inv h with ⟨b10_0, h⟩ | ⟨b10_0, h⟩
      · refine WK.ct (b := (!((x9_1.Session == x9_4.Session) && ((x9_1.Seq == x9_4.Seq) && ((x9_1.Pos == x9_4.Pos) && true))))) (by kernel_rfl) b10_0 ?_
        refine WK.rs (g := []) (l' := [(.t 4, [bv false])]) (by kernel_rfl) .nil (by kernel_rfl) ?_
        refine WK.weak (l := [(.t 4, [bv false])]) (wk_of (by kernel_rfl)) ?_
        refine WK.ret (by kernel_rfl) ?_
        cases some_inj h
        exact WKe.fin (e' := .ret) (by kernel_rfl) ⟨rfl, rfl⟩
      · refine WK.ce (b := (!((x9_1.Session == x9_4.Session) && ((x9_1.Seq == x9_4.Seq) && ((x9_1.Pos == x9_4.Pos) && true))))) (by kernel_rfl) b10_0 ?_
        refine WK.skip (by kernel_rfl) ?_
        refine WKe.code (y := (cR (cR (cB (cB (cR (cL (cR (cR bd16))))))))) (ks' := [.lp (cB (cR (cL (cR (cR bd16)))))]) (by kernel_rfl) ?_
        refine WK.rc (g := []) (l' := [(.t 0, [.data (.slc false none 3 (List.map TSeat.en l6_0))]), (.t 1, [.data (.slc false none 3 (List.map TSeat.en l6_1))]), (.t 5, [iv (w64 (l6_2 + 1))])]) .nil (by kernel_rfl) (y := (cB (cR (cL (cR (cR bd16)))))) (ks' := []) (by kernel_rfl) ?_
        exact WK.weak (l := [(.t 0, [.data (.slc false none 3 (List.map TSeat.en l6_0))]), (.t 1, [.data (.slc false none 3 (List.map TSeat.en l6_1))]), (.t 5, [iv (w64 (l6_2 + 1))])]) (wk_of (by kernel_rfl)) (ih (w64 (l6_2 + 1)) _ h)
    · refine WK.ce (b := (decide (l6_2 < (l6_0.length : Int)))) (by kernel_rfl) b8_0 ?_
      refine WK.weak (l := []) (wk_of (by kernel_rfl)) ?_
      refine WK.exit (n := 0) (by kernel_rfl) ?_
      cases some_inj h
      exact WKe.fin (e' := .exit 0) (by kernel_rfl) ⟨rfl, rfl⟩
noncomputable def diwanref13_SameSeats (fu : Nat) (a : List TSeat) (b : List TSeat) : Option Bool :=
  br ((a.length : Int) != (b.length : Int))
    (some false)
    (bd (diwanref13_SameSeats.lp6 fu a b fu 0) fun o_ => (match o_ with
    | .inl _ =>
      some true
    | .inr _ =>
      some false))
theorem diwanref13_SameSeats.meets (fu : Nat) (a : List TSeat) (b : List TSeat) (z0 : Bool) (h : diwanref13_SameSeats fu a b = some z0) : Meets Try.prog ⟨16, [.data (.slc false none 3 (List.map TSeat.en a)), .data (.slc false none 3 (List.map TSeat.en b))], []⟩ ⟨bv z0, []⟩ := by
  refine meets_of (O := diwanref13_SameSeats.O) hmix (fn := Try.f16) (code := bd16) (by kernel_rfl) ?_
  refine WK.weak (l := [(.t 0, [.data (.slc false none 3 (List.map TSeat.en a))]), (.t 1, [.data (.slc false none 3 (List.map TSeat.en b))])]) (wk_of (by kernel_rfl)) ?_
  unfold diwanref13_SameSeats at h
  refine WK.rs (g := []) (l' := [(.t 0, [.data (.slc false none 3 (List.map TSeat.en a))]), (.t 1, [.data (.slc false none 3 (List.map TSeat.en b))])]) (by kernel_rfl) .nil (by kernel_rfl) ?_
  refine WK.seq (by kernel_rfl) ?_
  refine WK.rs (g := [.s (.t 7) [iv (a.length : Int)], .s (.t 9) [iv (b.length : Int)]]) (l' := [(.t 0, [.data (.slc false none 3 (List.map TSeat.en a))]), (.t 1, [.data (.slc false none 3 (List.map TSeat.en b))]), (.t 10, [bv ((a.length : Int) != (b.length : Int))])]) (by kernel_rfl) (.cons (c_len (e := TSeat.en) (l := a)) (.cons (c_len (e := TSeat.en) (l := b)) .nil)) (by kernel_rfl) ?_
  rcases br_inv h with ⟨b3_0, h⟩ | ⟨b3_0, h⟩
  · refine WK.ct (b := ((a.length : Int) != (b.length : Int))) (by kernel_rfl) b3_0 ?_
    refine WK.rs (g := []) (l' := [(.t 4, [bv false])]) (by kernel_rfl) .nil (by kernel_rfl) ?_
    refine WK.weak (l := [(.t 4, [bv false])]) (wk_of (by kernel_rfl)) ?_
    refine WK.ret (by kernel_rfl) ?_
    have h_ := some_inj h
    subst h_
    exact WKe.fin (e' := .ret) (by kernel_rfl) (fin_of (g := []) (by first | exact .inl rfl | exact .inr rfl) .nil (by kernel_rfl))
  · refine WK.ce (b := ((a.length : Int) != (b.length : Int))) (by kernel_rfl) b3_0 ?_
    refine WK.skip (by kernel_rfl) ?_
    refine WKe.code (y := (cR (cR bd16))) (ks' := []) (by kernel_rfl) ?_
    refine WK.seq (by kernel_rfl) ?_
    refine WK.rs (g := []) (l' := [(.t 0, [.data (.slc false none 3 (List.map TSeat.en a))]), (.t 1, [.data (.slc false none 3 (List.map TSeat.en b))]), (.t 5, [iv 0])]) (by kernel_rfl) .nil (by kernel_rfl) ?_
    refine WK.block (n := 0) (by kernel_rfl) ?_
    obtain ⟨o13, ho13, h⟩ := bd_inv h
    refine WK.weak (l := [(.t 0, [.data (.slc false none 3 (List.map TSeat.en a))]), (.t 1, [.data (.slc false none 3 (List.map TSeat.en b))]), (.t 5, [iv 0])]) (wk_of (by kernel_rfl)) ?_
    refine WK.use (diwanref13_SameSeats.lp6_ok fu a b _ 0 _ ho13) ?_
    intro e_ τ_ hp_
    rcases o13 with o13 | o13
    · obtain ⟨⟩ := o13
      obtain ⟨rfl, rfl⟩ := hp_
      refine WKe.code (y := (cR (cR (cR bd16)))) (ks' := []) (by kernel_rfl) ?_
      refine WK.rs (g := []) (l' := [(.t 4, [bv true])]) (by kernel_rfl) .nil (by kernel_rfl) ?_
      refine WK.weak (l := [(.t 4, [bv true])]) (wk_of (by kernel_rfl)) ?_
      refine WK.ret (by kernel_rfl) ?_
      have h_ := some_inj h
      subst h_
      exact WKe.fin (e' := .ret) (by kernel_rfl) (fin_of (g := []) (by first | exact .inl rfl | exact .inr rfl) .nil (by kernel_rfl))
    · obtain ⟨⟩ := o13
      obtain ⟨rfl, rfl⟩ := hp_
      have h_ := some_inj h
      subst h_
      exact WKe.fin (e' := .ret) (by kernel_rfl) (fin_of (g := []) (by first | exact .inl rfl | exact .inr rfl) .nil (by kernel_rfl))
/-- diwan/diwanlaw18.JudgeAgain -/
noncomputable def bd8 : Code := (Try.f8.body).getD .skip
def diwanlaw18_JudgeAgain.O : Nat → Nat := fun t => bif ([2, 3, 4, 5, 6, 7, 8, 9, 10, 23, 26, 33] : List Nat).any (Nat.beq t) then 1 else 0
noncomputable def diwanlaw18_JudgeAgain.lp18 (fu : Nat) (l18_0 : List TTxn) (l18_1 : List Int) (l18_2 : List Int) : Nat → Int → Option (Unit ⊕ Unit)
  | 0, _ => none
  | n_ + 1, l18_3 =>
    br (decide (l18_3 < (l18_0.length : Int)))
      (ix l18_2 l18_3 fun x21_1 =>
      ix l18_1 l18_3 fun x21_4 =>
      br (x21_1 != x21_4)
        (some (.inr ()))
        (ix l18_2 (w64 ((l18_0.length : Int) + l18_3)) fun x21_8 =>
        br (x21_8 != 3)
          (some (.inr ()))
          (diwanlaw18_JudgeAgain.lp18 fu l18_0 l18_1 l18_2 n_ (w64 (l18_3 + 1)))))
      (some (.inl ()))
noncomputable def diwanlaw18_JudgeAgain.lp18_post (l18_0 : List TTxn) (l18_1 : List Int) (l18_2 : List Int) (r_ : (Unit ⊕ Unit)) : Wy → St → Prop := fun e τ => match r_ with
  | .inl _ => e = .exit 0 ∧ τ = ofL []
  | .inr _ => e = .ret ∧ τ = ofL [(.t 2, [bv false])]
theorem diwanlaw18_JudgeAgain.lp18_ok (fu : Nat) (l18_0 : List TTxn) (l18_1 : List Int) (l18_2 : List Int) : ∀ (n_ : Nat) (l18_3 : Int) (r_ : (Unit ⊕ Unit)), diwanlaw18_JudgeAgain.lp18 fu l18_0 l18_1 l18_2 n_ l18_3 = some r_ → WK Try.prog diwanlaw18_JudgeAgain.O (Ck Try.prog) (cB (cR (cL (cR (cR (cR (cR (cR (cR (cR bd8)))))))))) [] (ofL [(.t 3, [.data (.slc false none 4 (List.map TTxn.en l18_0))]), (.t 4, [.data (.slc false none 1 (List.map e_i64 l18_1))]), (.t 7, [.data (.slc false none 1 (List.map e_i64 l18_2))]), (.t 10, [iv l18_3])]) (diwanlaw18_JudgeAgain.lp18_post l18_0 l18_1 l18_2 r_) := by
  intro n_
  induction n_ with
  | zero => intro l18_3 r_ h; exact no_none h
  | succ n_ ih =>
    intro l18_3 r_ h
    refine WK.loop (by kernel_rfl) ?_
    refine WK.seq (by kernel_rfl) ?_
    refine WK.rs (g := [.s (.t 62) [iv (l18_0.length : Int)]]) (l' := [(.t 3, [.data (.slc false none 4 (List.map TTxn.en l18_0))]), (.t 4, [.data (.slc false none 1 (List.map e_i64 l18_1))]), (.t 7, [.data (.slc false none 1 (List.map e_i64 l18_2))]), (.t 10, [iv l18_3]), (.t 63, [bv (decide (l18_3 < (l18_0.length : Int)))])]) (by kernel_rfl) (.cons (c_len (e := TTxn.en) (l := l18_0)) .nil) (by kernel_rfl) ?_
    rcases br_inv h with ⟨b20_0, h⟩ | ⟨b20_0, h⟩
    · refine WK.ct (b := (decide (l18_3 < (l18_0.length : Int)))) (by kernel_rfl) b20_0 ?_
      refine WK.skip (by kernel_rfl) ?_
      refine WKe.code (y := (cR (cB (cB (cR (cL (cR (cR (cR (cR (cR (cR (cR bd8))))))))))))) (ks' := [.lp (cB (cR (cL (cR (cR (cR (cR (cR (cR (cR bd8))))))))))]) (by kernel_rfl) ?_
      refine WK.seq (by kernel_rfl) ?_
      refine WK.block (n := 1) (by kernel_rfl) ?_
      obtain ⟨x21_1, a21_2, e21_3, h⟩ := ix_inv h
      obtain ⟨x21_4, a21_5, e21_6, h⟩ := ix_inv h
      rcases br_inv h with ⟨b21_7, h⟩ | ⟨b21_7, h⟩
      · refine WK.rs (g := [.c (e_i64 x21_1), .c (e_i64 x21_4), .b true, .b true, .b true, .b true, .b true, .b true, .b true, .b true, .b true]) (l' := [(.t 3, [.data (.slc false none 4 (List.map TTxn.en l18_0))]), (.t 4, [.data (.slc false none 1 (List.map e_i64 l18_1))]), (.t 7, [.data (.slc false none 1 (List.map e_i64 l18_2))]), (.t 10, [iv l18_3]), (.t 84, [bv true])]) (by kernel_rfl) (.cons (c_ix (e := e_i64) a21_2 e21_3) (.cons (c_el (e := e_i64) e21_3) (.cons (c_ix (e := e_i64) a21_5 e21_6) (.cons (c_el (e := e_i64) e21_6) (.cons b21_7 (.cons b21_7 (.cons b21_7 (.cons b21_7 (.cons b21_7 (.cons b21_7 (.cons b21_7 (.cons b21_7 (.cons b21_7 (.cons (Eq.refl true) .nil)))))))))))))) (by kernel_rfl) ?_
        refine WK.ct (b := true) (by kernel_rfl) rfl ?_
        refine WK.rs (g := []) (l' := [(.t 2, [bv false])]) (by kernel_rfl) .nil (by kernel_rfl) ?_
        refine WK.weak (l := [(.t 2, [bv false])]) (wk_of (by kernel_rfl)) ?_
        refine WK.ret (by kernel_rfl) ?_
        cases some_inj h
        exact WKe.fin (e' := .ret) (by kernel_rfl) ⟨rfl, rfl⟩
      · obtain ⟨x21_8, a21_9, e21_10, h⟩ := ix_inv h
        refine WK.rs (g := [.c (e_i64 x21_1), .c (e_i64 x21_4), .b false, .b false, .b false, .s (.t 78) [iv (l18_0.length : Int)], .b false, .b false, .b false, .c (e_i64 x21_8), .b false, .b false, .b false]) (l' := [(.t 3, [.data (.slc false none 4 (List.map TTxn.en l18_0))]), (.t 4, [.data (.slc false none 1 (List.map e_i64 l18_1))]), (.t 7, [.data (.slc false none 1 (List.map e_i64 l18_2))]), (.t 10, [iv l18_3]), (.t 84, [bv (x21_8 != 3)])]) (by kernel_rfl) (.cons (c_ix (e := e_i64) a21_2 e21_3) (.cons (c_el (e := e_i64) e21_3) (.cons (c_ix (e := e_i64) a21_5 e21_6) (.cons (c_el (e := e_i64) e21_6) (.cons b21_7 (.cons b21_7 (.cons b21_7 (.cons (c_len (e := TTxn.en) (l := l18_0)) (.cons b21_7 (.cons b21_7 (.cons b21_7 (.cons (c_ix (e := e_i64) a21_9 e21_10) (.cons (c_el (e := e_i64) e21_10) (.cons b21_7 (.cons b21_7 (.cons b21_7 (.cons (Eq.refl true) .nil))))))))))))))))) (by kernel_rfl) ?_
        rcases br_inv h with ⟨b23_0, h⟩ | ⟨b23_0, h⟩
        · refine WK.ct (b := (x21_8 != 3)) (by kernel_rfl) b23_0 ?_
          refine WK.rs (g := []) (l' := [(.t 2, [bv false])]) (by kernel_rfl) .nil (by kernel_rfl) ?_
          refine WK.weak (l := [(.t 2, [bv false])]) (wk_of (by kernel_rfl)) ?_
          refine WK.ret (by kernel_rfl) ?_
          cases some_inj h
          exact WKe.fin (e' := .ret) (by kernel_rfl) ⟨rfl, rfl⟩
        · refine WK.ce (b := (x21_8 != 3)) (by kernel_rfl) b23_0 ?_
          refine WK.skip (by kernel_rfl) ?_
          refine WKe.code (y := (cR (cR (cB (cB (cR (cL (cR (cR (cR (cR (cR (cR (cR bd8)))))))))))))) (ks' := [.lp (cB (cR (cL (cR (cR (cR (cR (cR (cR (cR bd8))))))))))]) (by kernel_rfl) ?_
          refine WK.rc (g := []) (l' := [(.t 3, [.data (.slc false none 4 (List.map TTxn.en l18_0))]), (.t 4, [.data (.slc false none 1 (List.map e_i64 l18_1))]), (.t 7, [.data (.slc false none 1 (List.map e_i64 l18_2))]), (.t 10, [iv (w64 (l18_3 + 1))])]) .nil (by kernel_rfl) (y := (cB (cR (cL (cR (cR (cR (cR (cR (cR (cR bd8))))))))))) (ks' := []) (by kernel_rfl) ?_
          exact WK.weak (l := [(.t 3, [.data (.slc false none 4 (List.map TTxn.en l18_0))]), (.t 4, [.data (.slc false none 1 (List.map e_i64 l18_1))]), (.t 7, [.data (.slc false none 1 (List.map e_i64 l18_2))]), (.t 10, [iv (w64 (l18_3 + 1))])]) (wk_of (by kernel_rfl)) (ih (w64 (l18_3 + 1)) _ h)
    · refine WK.ce (b := (decide (l18_3 < (l18_0.length : Int)))) (by kernel_rfl) b20_0 ?_
      refine WK.weak (l := []) (wk_of (by kernel_rfl)) ?_
      refine WK.exit (n := 0) (by kernel_rfl) ?_
      cases some_inj h
      exact WKe.fin (e' := .exit 0) (by kernel_rfl) ⟨rfl, rfl⟩
noncomputable def diwanlaw18_JudgeAgain (fu : Nat) (picks : List Int) : Option Bool :=
  bd (diwanlaw18_begun fu) fun r2_1 =>
  br (!r2_1)
    (some false)
    (br (decide ((picks.length : Int) > 250))
      (some true)
      (bd (diwanplay_Made picks) fun r8_1 =>
      bd (diwanplay_Picks_Txns fu 15 r8_1) fun (r8_3, r8_4) =>
      bd (judge_Fold fu r8_3) fun (r9_1, r9_2, r9_3) =>
      gd (decide (([] : List TTxn).length + r8_3.length ≤ 4294967296)) <|
      gd (decide (r8_3.length + r8_3.length ≤ 4294967296)) <|
      bd (judge_Fold fu (r8_3 ++ r8_3)) fun (r10_3, r10_4, r10_5) =>
      br ((r9_1.length : Int) != (r8_3.length : Int))
        (some false)
        (br ((r10_3.length : Int) != (w64 (2 * (r8_3.length : Int))))
          (some false)
          (bd (diwanref13_SameStore fu r9_2 r10_4) fun r11_3 =>
          br (!r11_3)
            (some false)
            (bd (diwanref13_SameSeats fu r9_3 r10_5) fun r11_6 =>
            br (!r11_6)
              (some false)
              (bd (diwanlaw18_JudgeAgain.lp18 fu r8_3 r9_1 r10_3 fu 0) fun o_ => (match o_ with
              | .inl _ =>
                some true
              | .inr _ =>
                some false)))))))
theorem diwanlaw18_JudgeAgain.meets (fu : Nat) (picks : List Int) (z0 : Bool) (h : diwanlaw18_JudgeAgain fu picks = some z0) : Meets Try.prog ⟨8, [.data (.slc false none 1 (List.map e_u8 picks))], []⟩ ⟨bv z0, []⟩ := by
  refine meets_of (O := diwanlaw18_JudgeAgain.O) hmix (fn := Try.f8) (code := bd8) (by kernel_rfl) ?_
  refine WK.weak (l := [(.t 0, [.data (.slc false none 1 (List.map e_u8 picks))])]) (wk_of (by kernel_rfl)) ?_
  unfold diwanlaw18_JudgeAgain at h
  refine WK.rs (g := []) (l' := [(.t 0, [.data (.slc false none 1 (List.map e_u8 picks))])]) (by kernel_rfl) .nil (by kernel_rfl) ?_
  refine WK.seq (by kernel_rfl) ?_
  obtain ⟨r2_1, h2_2, h⟩ := bd_inv h
  refine WK.rs (g := [.a ⟨bv r2_1, []⟩]) (l' := [(.t 0, [.data (.slc false none 1 (List.map e_u8 picks))]), (.t 12, [bv (!r2_1)])]) (by kernel_rfl) (.cons (Asks.of (C := Meets Try.prog) (diwanlaw18_begun.meets fu _ h2_2)) .nil) (by kernel_rfl) ?_
  rcases br_inv h with ⟨b3_0, h⟩ | ⟨b3_0, h⟩
  · refine WK.ct (b := (!r2_1)) (by kernel_rfl) b3_0 ?_
    refine WK.rs (g := []) (l' := [(.t 2, [bv false])]) (by kernel_rfl) .nil (by kernel_rfl) ?_
    refine WK.weak (l := [(.t 2, [bv false])]) (wk_of (by kernel_rfl)) ?_
    refine WK.ret (by kernel_rfl) ?_
    have h_ := some_inj h
    subst h_
    exact WKe.fin (e' := .ret) (by kernel_rfl) (fin_of (g := []) (by first | exact .inl rfl | exact .inr rfl) .nil (by kernel_rfl))
  · refine WK.ce (b := (!r2_1)) (by kernel_rfl) b3_0 ?_
    refine WK.skip (by kernel_rfl) ?_
    refine WKe.code (y := (cR (cR bd8))) (ks' := []) (by kernel_rfl) ?_
    refine WK.seq (by kernel_rfl) ?_
    refine WK.rs (g := [.s (.t 14) [iv (picks.length : Int)]]) (l' := [(.t 0, [.data (.slc false none 1 (List.map e_u8 picks))]), (.t 15, [bv (decide ((picks.length : Int) > 250))])]) (by kernel_rfl) (.cons (c_len (e := e_u8) (l := picks)) .nil) (by kernel_rfl) ?_
    rcases br_inv h with ⟨b6_0, h⟩ | ⟨b6_0, h⟩
    · refine WK.ct (b := (decide ((picks.length : Int) > 250))) (by kernel_rfl) b6_0 ?_
      refine WK.rs (g := []) (l' := [(.t 2, [bv true])]) (by kernel_rfl) .nil (by kernel_rfl) ?_
      refine WK.weak (l := [(.t 2, [bv true])]) (wk_of (by kernel_rfl)) ?_
      refine WK.ret (by kernel_rfl) ?_
      have h_ := some_inj h
      subst h_
      exact WKe.fin (e' := .ret) (by kernel_rfl) (fin_of (g := []) (by first | exact .inl rfl | exact .inr rfl) .nil (by kernel_rfl))
    · refine WK.ce (b := (decide ((picks.length : Int) > 250))) (by kernel_rfl) b6_0 ?_
      refine WK.skip (by kernel_rfl) ?_
      refine WKe.code (y := (cR (cR (cR bd8)))) (ks' := []) (by kernel_rfl) ?_
      obtain ⟨r8_1, h8_2, h⟩ := bd_inv h
      obtain ⟨⟨r8_3, r8_4⟩, h8_5, h⟩ := bd_inv h
      refine WK.rs (g := [.a ⟨.ptr 1000 0, [[.data (.slc false none 1 (List.map e_u8 r8_1.l)), iv r8_1.n]]⟩, .a ⟨.data (.slc true none 4 (List.map TTxn.en r8_3)), [[.data (.slc false none 1 (List.map e_u8 r8_4.l)), iv r8_4.n]]⟩]) (l' := [(.t 3, [.data (.slc true none 4 (List.map TTxn.en r8_3))])]) (by kernel_rfl) (.cons (Asks.of (C := Meets Try.prog) (diwanplay_Made.meets picks _ h8_2)) (.cons (Asks.of (C := Meets Try.prog) (diwanplay_Picks_Txns.meets fu 15 r8_1 _ _ h8_5)) .nil)) (by kernel_rfl) ?_
      obtain ⟨⟨r9_1, r9_2, r9_3⟩, h9_4, h⟩ := bd_inv h
      refine WK.rs (g := [.a ⟨.tup [.data (.slc false none 1 (List.map e_i64 r9_1)), .data (.agg [.slc false none 2 (List.map TChain.en r9_2.Chains), .val (.int .i64 r9_2.Mark)]), .data (.slc false none 3 (List.map TSeat.en r9_3))], []⟩]) (l' := [(.t 3, [.data (.slc false none 4 (List.map TTxn.en r8_3))]), (.t 4, [.data (.slc false none 1 (List.map e_i64 r9_1))]), (.t 5, [.ptr 5 0]), (.t 6, [.data (.slc false none 3 (List.map TSeat.en r9_3))]), (.o 5, [.data (.slc false none 2 (List.map TChain.en r9_2.Chains)), iv r9_2.Mark])]) (by kernel_rfl) (.cons (Asks.of (C := Meets Try.prog) (judge_Fold.meets fu r8_3 _ _ _ h9_4)) .nil) (by kernel_rfl) ?_
      obtain ⟨c10_1, h⟩ := gd_inv h
      obtain ⟨c10_2, h⟩ := gd_inv h
      obtain ⟨⟨r10_3, r10_4, r10_5⟩, h10_6, h⟩ := bd_inv h
      refine WK.rs (g := [.s (.t 30) [.data (.slc true none 4 (List.map TTxn.en (r8_3 ++ r8_3)))], .a ⟨.tup [.data (.slc false none 1 (List.map e_i64 r10_3)), .data (.agg [.slc false none 2 (List.map TChain.en r10_4.Chains), .val (.int .i64 r10_4.Mark)]), .data (.slc false none 3 (List.map TSeat.en r10_5))], []⟩]) (l' := [(.t 3, [.data (.slc false none 4 (List.map TTxn.en r8_3))]), (.t 4, [.data (.slc false none 1 (List.map e_i64 r9_1))]), (.t 5, [.ptr 5 0]), (.t 6, [.data (.slc false none 3 (List.map TSeat.en r9_3))]), (.t 7, [.data (.slc false none 1 (List.map e_i64 r10_3))]), (.t 8, [.ptr 8 0]), (.t 9, [.data (.slc false none 3 (List.map TSeat.en r10_5))]), (.o 5, [.data (.slc false none 2 (List.map TChain.en r9_2.Chains)), iv r9_2.Mark]), (.o 8, [.data (.slc false none 2 (List.map TChain.en r10_4.Chains)), iv r10_4.Mark])]) (by kernel_rfl) (.cons (c_al (e := TTxn.en) (f := TTxn.en) c10_1) (.cons (c_al (e := TTxn.en) (f := TTxn.en) c10_2) (.cons (congrArg (fun d : DV => [AV.data d]) (c_app (e := TTxn.en) (s := 4) (l := r8_3) (m := r8_3))) (.cons (Asks.of (C := Meets Try.prog) (judge_Fold.meets fu (r8_3 ++ r8_3) _ _ _ h10_6)) .nil)))) (by kernel_rfl) ?_
      refine WK.seq (by kernel_rfl) ?_
      rcases br_inv h with ⟨b11_1, h⟩ | ⟨b11_1, h⟩
      · refine WK.rs (g := [.s (.t 36) [iv (r9_1.length : Int)], .s (.t 38) [iv (r8_3.length : Int)], .b true, .b true, .b true, .b true, .b true, .b true, .b true, .b true, .b true, .b true, .b true, .b true, .b true, .b true, .b true, .b true, .b true]) (l' := [(.t 3, [.data (.slc false none 4 (List.map TTxn.en r8_3))]), (.t 4, [.data (.slc false none 1 (List.map e_i64 r9_1))]), (.t 7, [.data (.slc false none 1 (List.map e_i64 r10_3))]), (.t 59, [bv true])]) (by kernel_rfl) (.cons (c_len (e := e_i64) (l := r9_1)) (.cons (c_len (e := TTxn.en) (l := r8_3)) (.cons b11_1 (.cons b11_1 (.cons b11_1 (.cons b11_1 (.cons b11_1 (.cons b11_1 (.cons b11_1 (.cons (Eq.refl true) (.cons (Eq.refl true) (.cons (Eq.refl true) (.cons (Eq.refl true) (.cons (Eq.refl true) (.cons (Eq.refl true) (.cons (Eq.refl true) (.cons (Eq.refl true) (.cons (Eq.refl true) (.cons (Eq.refl true) .nil))))))))))))))))))) (by kernel_rfl) ?_
        refine WK.ct (b := true) (by kernel_rfl) rfl ?_
        refine WK.rs (g := []) (l' := [(.t 2, [bv false])]) (by kernel_rfl) .nil (by kernel_rfl) ?_
        refine WK.weak (l := [(.t 2, [bv false])]) (wk_of (by kernel_rfl)) ?_
        refine WK.ret (by kernel_rfl) ?_
        have h_ := some_inj h
        subst h_
        exact WKe.fin (e' := .ret) (by kernel_rfl) (fin_of (g := []) (by first | exact .inl rfl | exact .inr rfl) .nil (by kernel_rfl))
      · rcases br_inv h with ⟨b11_2, h⟩ | ⟨b11_2, h⟩
        · refine WK.rs (g := [.s (.t 36) [iv (r9_1.length : Int)], .s (.t 38) [iv (r8_3.length : Int)], .b false, .b false, .s (.t 42) [iv (r10_3.length : Int)], .b false, .b false, .s (.t 44) [iv (r8_3.length : Int)], .b false, .b false, .b false, .b true, .b true, .b true, .b true, .b true, .b true, .b true, .b true, .b true, .b true]) (l' := [(.t 3, [.data (.slc false none 4 (List.map TTxn.en r8_3))]), (.t 4, [.data (.slc false none 1 (List.map e_i64 r9_1))]), (.t 7, [.data (.slc false none 1 (List.map e_i64 r10_3))]), (.t 59, [bv true])]) (by kernel_rfl) (.cons (c_len (e := e_i64) (l := r9_1)) (.cons (c_len (e := TTxn.en) (l := r8_3)) (.cons b11_1 (.cons b11_1 (.cons (c_len (e := e_i64) (l := r10_3)) (.cons b11_1 (.cons b11_1 (.cons (c_len (e := TTxn.en) (l := r8_3)) (.cons b11_1 (.cons b11_1 (.cons b11_1 (.cons b11_2 (.cons b11_2 (.cons b11_2 (.cons b11_2 (.cons b11_2 (.cons (Eq.refl true) (.cons (Eq.refl true) (.cons (Eq.refl true) (.cons (Eq.refl true) (.cons (Eq.refl true) .nil))))))))))))))))))))) (by kernel_rfl) ?_
          refine WK.ct (b := true) (by kernel_rfl) rfl ?_
          refine WK.rs (g := []) (l' := [(.t 2, [bv false])]) (by kernel_rfl) .nil (by kernel_rfl) ?_
          refine WK.weak (l := [(.t 2, [bv false])]) (wk_of (by kernel_rfl)) ?_
          refine WK.ret (by kernel_rfl) ?_
          have h_ := some_inj h
          subst h_
          exact WKe.fin (e' := .ret) (by kernel_rfl) (fin_of (g := []) (by first | exact .inl rfl | exact .inr rfl) .nil (by kernel_rfl))
        · obtain ⟨r11_3, h11_4, h⟩ := bd_inv h
          rcases br_inv h with ⟨b11_5, h⟩ | ⟨b11_5, h⟩
          · refine WK.rs (g := [.s (.t 36) [iv (r9_1.length : Int)], .s (.t 38) [iv (r8_3.length : Int)], .b false, .b false, .s (.t 42) [iv (r10_3.length : Int)], .b false, .b false, .s (.t 44) [iv (r8_3.length : Int)], .b false, .b false, .b false, .b false, .b false, .b false, .a ⟨bv r11_3, []⟩, .b false, .b false, .b true, .b true, .b true, .b true, .b true]) (l' := [(.t 3, [.data (.slc false none 4 (List.map TTxn.en r8_3))]), (.t 4, [.data (.slc false none 1 (List.map e_i64 r9_1))]), (.t 7, [.data (.slc false none 1 (List.map e_i64 r10_3))]), (.t 59, [bv true])]) (by kernel_rfl) (.cons (c_len (e := e_i64) (l := r9_1)) (.cons (c_len (e := TTxn.en) (l := r8_3)) (.cons b11_1 (.cons b11_1 (.cons (c_len (e := e_i64) (l := r10_3)) (.cons b11_1 (.cons b11_1 (.cons (c_len (e := TTxn.en) (l := r8_3)) (.cons b11_1 (.cons b11_1 (.cons b11_1 (.cons b11_2 (.cons b11_2 (.cons b11_2 (.cons (Asks.of (C := Meets Try.prog) (diwanref13_SameStore.meets fu r9_2 r10_4 _ h11_4)) (.cons b11_2 (.cons b11_2 (.cons b11_5 (.cons b11_5 (.cons b11_5 (.cons b11_5 (.cons b11_5 .nil)))))))))))))))))))))) (by kernel_rfl) ?_
            refine WK.ct (b := true) (by kernel_rfl) rfl ?_
            refine WK.rs (g := []) (l' := [(.t 2, [bv false])]) (by kernel_rfl) .nil (by kernel_rfl) ?_
            refine WK.weak (l := [(.t 2, [bv false])]) (wk_of (by kernel_rfl)) ?_
            refine WK.ret (by kernel_rfl) ?_
            have h_ := some_inj h
            subst h_
            exact WKe.fin (e' := .ret) (by kernel_rfl) (fin_of (g := []) (by first | exact .inl rfl | exact .inr rfl) .nil (by kernel_rfl))
          · obtain ⟨r11_6, h11_7, h⟩ := bd_inv h
            refine WK.rs (g := [.s (.t 36) [iv (r9_1.length : Int)], .s (.t 38) [iv (r8_3.length : Int)], .b false, .b false, .s (.t 42) [iv (r10_3.length : Int)], .b false, .b false, .s (.t 44) [iv (r8_3.length : Int)], .b false, .b false, .b false, .b false, .b false, .b false, .a ⟨bv r11_3, []⟩, .b false, .b false, .b false, .b false, .b false, .a ⟨bv r11_6, []⟩, .b false, .b false]) (l' := [(.t 3, [.data (.slc false none 4 (List.map TTxn.en r8_3))]), (.t 4, [.data (.slc false none 1 (List.map e_i64 r9_1))]), (.t 7, [.data (.slc false none 1 (List.map e_i64 r10_3))]), (.t 59, [bv (!r11_6)])]) (by kernel_rfl) (.cons (c_len (e := e_i64) (l := r9_1)) (.cons (c_len (e := TTxn.en) (l := r8_3)) (.cons b11_1 (.cons b11_1 (.cons (c_len (e := e_i64) (l := r10_3)) (.cons b11_1 (.cons b11_1 (.cons (c_len (e := TTxn.en) (l := r8_3)) (.cons b11_1 (.cons b11_1 (.cons b11_1 (.cons b11_2 (.cons b11_2 (.cons b11_2 (.cons (Asks.of (C := Meets Try.prog) (diwanref13_SameStore.meets fu r9_2 r10_4 _ h11_4)) (.cons b11_2 (.cons b11_2 (.cons b11_5 (.cons b11_5 (.cons b11_5 (.cons (Asks.of (C := Meets Try.prog) (diwanref13_SameSeats.meets fu r9_3 r10_5 _ h11_7)) (.cons b11_5 (.cons b11_5 .nil))))))))))))))))))))))) (by kernel_rfl) ?_
            rcases br_inv h with ⟨b15_0, h⟩ | ⟨b15_0, h⟩
            · refine WK.ct (b := (!r11_6)) (by kernel_rfl) b15_0 ?_
              refine WK.rs (g := []) (l' := [(.t 2, [bv false])]) (by kernel_rfl) .nil (by kernel_rfl) ?_
              refine WK.weak (l := [(.t 2, [bv false])]) (wk_of (by kernel_rfl)) ?_
              refine WK.ret (by kernel_rfl) ?_
              have h_ := some_inj h
              subst h_
              exact WKe.fin (e' := .ret) (by kernel_rfl) (fin_of (g := []) (by first | exact .inl rfl | exact .inr rfl) .nil (by kernel_rfl))
            · refine WK.ce (b := (!r11_6)) (by kernel_rfl) b15_0 ?_
              refine WK.skip (by kernel_rfl) ?_
              refine WKe.code (y := (cR (cR (cR (cR (cR (cR (cR bd8)))))))) (ks' := []) (by kernel_rfl) ?_
              refine WK.seq (by kernel_rfl) ?_
              refine WK.rs (g := []) (l' := [(.t 3, [.data (.slc false none 4 (List.map TTxn.en r8_3))]), (.t 4, [.data (.slc false none 1 (List.map e_i64 r9_1))]), (.t 7, [.data (.slc false none 1 (List.map e_i64 r10_3))]), (.t 10, [iv 0])]) (by kernel_rfl) .nil (by kernel_rfl) ?_
              refine WK.block (n := 0) (by kernel_rfl) ?_
              obtain ⟨o26, ho26, h⟩ := bd_inv h
              refine WK.weak (l := [(.t 3, [.data (.slc false none 4 (List.map TTxn.en r8_3))]), (.t 4, [.data (.slc false none 1 (List.map e_i64 r9_1))]), (.t 7, [.data (.slc false none 1 (List.map e_i64 r10_3))]), (.t 10, [iv 0])]) (wk_of (by kernel_rfl)) ?_
              refine WK.use (diwanlaw18_JudgeAgain.lp18_ok fu r8_3 r9_1 r10_3 _ 0 _ ho26) ?_
              intro e_ τ_ hp_
              rcases o26 with o26 | o26
              · obtain ⟨⟩ := o26
                obtain ⟨rfl, rfl⟩ := hp_
                refine WKe.code (y := (cR (cR (cR (cR (cR (cR (cR (cR bd8))))))))) (ks' := []) (by kernel_rfl) ?_
                refine WK.rs (g := []) (l' := [(.t 2, [bv true])]) (by kernel_rfl) .nil (by kernel_rfl) ?_
                refine WK.weak (l := [(.t 2, [bv true])]) (wk_of (by kernel_rfl)) ?_
                refine WK.ret (by kernel_rfl) ?_
                have h_ := some_inj h
                subst h_
                exact WKe.fin (e' := .ret) (by kernel_rfl) (fin_of (g := []) (by first | exact .inl rfl | exact .inr rfl) .nil (by kernel_rfl))
              · obtain ⟨⟩ := o26
                obtain ⟨rfl, rfl⟩ := hp_
                have h_ := some_inj h
                subst h_
                exact WKe.fin (e' := .ret) (by kernel_rfl) (fin_of (g := []) (by first | exact .inl rfl | exact .inr rfl) .nil (by kernel_rfl))
/-- diwan/diwanref13.Turn -/
noncomputable def bd22 : Code := (Try.f22.body).getD .skip
def diwanref13_Turn.O : Nat → Nat := fun t => bif ([8, 9, 10, 11, 12, 56, 59, 67, 68, 72] : List Nat).any (Nat.beq t) then 1 else 0
noncomputable def diwanref13_Turn.lp4 (fu : Nat) (l4_0 : Int) (l4_1 : Int) (l4_2 : Int) (l4_3 : List TSeat) : Nat → Int → Option Int
  | 0, _ => none
  | n_ + 1, l4_4 =>
    br (decide (l4_4 < (l4_3.length : Int)))
      (ix l4_3 l4_4 fun x5_2 =>
      br (decide (x5_2.Session < l4_0))
        (diwanref13_Turn.lp4 fu l4_0 l4_1 l4_2 l4_3 n_ (w64 (l4_4 + 1)))
        (some l4_4))
      (some l4_4)
noncomputable def diwanref13_Turn.lp4_post (l4_0 : Int) (l4_1 : Int) (l4_2 : Int) (l4_3 : List TSeat) (r_ : Int) : Wy → St → Prop := fun e τ => match r_ with
  | y0 => e = .exit 0 ∧ τ = ofL [(.t 1, [iv l4_0]), (.t 2, [iv l4_1]), (.t 3, [iv l4_2]), (.t 10, [.data (.slc true none 3 (List.map TSeat.en l4_3))]), (.t 11, [iv y0])]
theorem diwanref13_Turn.lp4_ok (fu : Nat) (l4_0 : Int) (l4_1 : Int) (l4_2 : Int) (l4_3 : List TSeat) : ∀ (n_ : Nat) (l4_4 : Int) (r_ : Int), diwanref13_Turn.lp4 fu l4_0 l4_1 l4_2 l4_3 n_ l4_4 = some r_ → WK Try.prog diwanref13_Turn.O (Ck Try.prog) (cB (cL (cR (cR (cR bd22))))) [] (ofL [(.t 1, [iv l4_0]), (.t 2, [iv l4_1]), (.t 3, [iv l4_2]), (.t 10, [.data (.slc true none 3 (List.map TSeat.en l4_3))]), (.t 11, [iv l4_4])]) (diwanref13_Turn.lp4_post l4_0 l4_1 l4_2 l4_3 r_) := by
  intro n_
  induction n_ with
  | zero => intro l4_4 r_ h; exact no_none h
  | succ n_ ih =>
    intro l4_4 r_ h
    refine WK.loop (by kernel_rfl) ?_
    refine WK.seq (by kernel_rfl) ?_
    rcases br_inv h with ⟨b5_1, h⟩ | ⟨b5_1, h⟩
    · obtain ⟨x5_2, a5_3, e5_4, h⟩ := ix_inv h
      refine WK.rs (g := [.s (.t 17) [iv (l4_3.length : Int)], .b true, .b true, .b true, .b true, .b true, .c (TSeat.en x5_2), .b true, .b true, .b true]) (l' := [(.t 1, [iv l4_0]), (.t 2, [iv l4_1]), (.t 3, [iv l4_2]), (.t 10, [.data (.slc true none 3 (List.map TSeat.en l4_3))]), (.t 11, [iv l4_4]), (.t 27, [bv (decide (x5_2.Session < l4_0))])]) (by kernel_rfl) (.cons (c_len (e := TSeat.en) (l := l4_3)) (.cons b5_1 (.cons b5_1 (.cons b5_1 (.cons (c_ix (e := TSeat.en) a5_3 e5_4) (.cons b5_1 (.cons b5_1 (.cons (c_el (e := TSeat.en) e5_4) (.cons b5_1 (.cons b5_1 (.cons b5_1 .nil))))))))))) (by kernel_rfl) ?_
      rcases br_inv h with ⟨b6_0, h⟩ | ⟨b6_0, h⟩
      · refine WK.ct (b := (decide (x5_2.Session < l4_0))) (by kernel_rfl) b6_0 ?_
        refine WK.skip (by kernel_rfl) ?_
        refine WKe.code (y := (cR (cB (cB (cL (cR (cR (cR bd22)))))))) (ks' := [.lp (cB (cL (cR (cR (cR bd22)))))]) (by kernel_rfl) ?_
        refine WK.block (n := 1) (by kernel_rfl) ?_
        refine WK.rc (g := []) (l' := [(.t 1, [iv l4_0]), (.t 2, [iv l4_1]), (.t 3, [iv l4_2]), (.t 10, [.data (.slc true none 3 (List.map TSeat.en l4_3))]), (.t 11, [iv (w64 (l4_4 + 1))])]) .nil (by kernel_rfl) (y := (cB (cL (cR (cR (cR bd22)))))) (ks' := []) (by kernel_rfl) ?_
        exact WK.weak (l := [(.t 1, [iv l4_0]), (.t 2, [iv l4_1]), (.t 3, [iv l4_2]), (.t 10, [.data (.slc true none 3 (List.map TSeat.en l4_3))]), (.t 11, [iv (w64 (l4_4 + 1))])]) (wk_of (by kernel_rfl)) (ih (w64 (l4_4 + 1)) _ h)
      · refine WK.ce (b := (decide (x5_2.Session < l4_0))) (by kernel_rfl) b6_0 ?_
        refine WK.weak (l := [(.t 1, [iv l4_0]), (.t 2, [iv l4_1]), (.t 3, [iv l4_2]), (.t 10, [.data (.slc true none 3 (List.map TSeat.en l4_3))]), (.t 11, [iv l4_4])]) (wk_of (by kernel_rfl)) ?_
        refine WK.exit (n := 0) (by kernel_rfl) ?_
        cases some_inj h
        exact WKe.fin (e' := .exit 0) (by kernel_rfl) ⟨rfl, rfl⟩
    · refine WK.rs (g := [.s (.t 17) [iv (l4_3.length : Int)], .b false, .b false, .b false, .b false, .b false, .b false, .b false, .b false]) (l' := [(.t 1, [iv l4_0]), (.t 2, [iv l4_1]), (.t 3, [iv l4_2]), (.t 10, [.data (.slc true none 3 (List.map TSeat.en l4_3))]), (.t 11, [iv l4_4]), (.t 27, [bv false])]) (by kernel_rfl) (.cons (c_len (e := TSeat.en) (l := l4_3)) (.cons b5_1 (.cons b5_1 (.cons b5_1 (.cons b5_1 (.cons b5_1 (.cons b5_1 (.cons b5_1 (.cons b5_1 .nil))))))))) (by kernel_rfl) ?_
      refine WK.ce (b := false) (by kernel_rfl) rfl ?_
      refine WK.weak (l := [(.t 1, [iv l4_0]), (.t 2, [iv l4_1]), (.t 3, [iv l4_2]), (.t 10, [.data (.slc true none 3 (List.map TSeat.en l4_3))]), (.t 11, [iv l4_4])]) (wk_of (by kernel_rfl)) ?_
      refine WK.exit (n := 0) (by kernel_rfl) ?_
      cases some_inj h
      exact WKe.fin (e' := .exit 0) (by kernel_rfl) ⟨rfl, rfl⟩
noncomputable def diwanref13_Turn (fu : Nat) (l : List TSeat) (session : Int) (seq : Int) (pos : Int) : Option (List TSeat × Bool) :=
  gd (decide (([] : List TSeat).length + l.length ≤ 4294967296)) <|
  bd (diwanref13_Turn.lp4 fu session seq pos l fu 0) fun y8_0 =>
  jn (
    gd (decide ((0 : Int) ≤ y8_0 ∧ y8_0 ≤ (l.length : Int))) <|
    gd (decide (([] : List TSeat).length + (List.take y8_0.toNat l).length ≤ 4294967296)) <|
    gd (decide ((List.take y8_0.toNat l).length + ([(TSeat.mk session seq pos)] : List TSeat).length ≤ 4294967296)) <|
    gd (decide ((0 : Int) ≤ y8_0 ∧ y8_0 ≤ (l.length : Int))) <|
    gd (decide (((List.take y8_0.toNat l) ++ ([(TSeat.mk session seq pos)] : List TSeat)).length + (List.drop y8_0.toNat l).length ≤ 4294967296)) <|
    some ((((List.take y8_0.toNat l) ++ ([(TSeat.mk session seq pos)] : List TSeat)) ++ (List.drop y8_0.toNat l)), true)) fun k16 =>
  br (decide (y8_0 < (l.length : Int)))
    (ix l y8_0 fun x9_2 =>
    br (x9_2.Session == session)
      (ix l y8_0 fun x11_1 =>
      br (decide (seq ≤ x11_1.Seq))
        (some (l, false))
        (ix l y8_0 fun x14_1 =>
        some ((l.set y8_0.toNat (TSeat.mk session seq pos)), true)))
      (k16))
    (k16)
theorem diwanref13_Turn.meets (fu : Nat) (l : List TSeat) (session : Int) (seq : Int) (pos : Int) (z0 : List TSeat) (z1 : Bool) (h : diwanref13_Turn fu l session seq pos = some (z0, z1)) : Meets Try.prog ⟨22, [.data (.slc false none 3 (List.map TSeat.en l)), iv session, iv seq, iv pos], []⟩ ⟨.tup [.data (.slc false none 3 (List.map TSeat.en z0)), bv z1], []⟩ := by
  refine meets_of (O := diwanref13_Turn.O) hmix (fn := Try.f22) (code := bd22) (by kernel_rfl) ?_
  refine WK.weak (l := [(.t 0, [.data (.slc false none 3 (List.map TSeat.en l))]), (.t 1, [iv session]), (.t 2, [iv seq]), (.t 3, [iv pos])]) (wk_of (by kernel_rfl)) ?_
  unfold diwanref13_Turn at h
  refine WK.rs (g := []) (l' := [(.t 0, [.data (.slc false none 3 (List.map TSeat.en l))]), (.t 1, [iv session]), (.t 2, [iv seq]), (.t 3, [iv pos])]) (by kernel_rfl) .nil (by kernel_rfl) ?_
  obtain ⟨c2_1, h⟩ := gd_inv h
  refine WK.rs (g := []) (l' := [(.t 1, [iv session]), (.t 2, [iv seq]), (.t 3, [iv pos]), (.t 10, [.data (.slc true none 3 (List.map TSeat.en l))])]) (by kernel_rfl) (.cons (c_al (e := TSeat.en) (f := TSeat.en) c2_1) .nil) (by kernel_rfl) ?_
  refine WK.rs (g := []) (l' := [(.t 1, [iv session]), (.t 2, [iv seq]), (.t 3, [iv pos]), (.t 10, [.data (.slc true none 3 (List.map TSeat.en l))]), (.t 11, [iv 0])]) (by kernel_rfl) .nil (by kernel_rfl) ?_
  refine WK.seq (by kernel_rfl) ?_
  refine WK.block (n := 0) (by kernel_rfl) ?_
  obtain ⟨o8, ho8, h⟩ := bd_inv h
  refine WK.weak (l := [(.t 1, [iv session]), (.t 2, [iv seq]), (.t 3, [iv pos]), (.t 10, [.data (.slc true none 3 (List.map TSeat.en l))]), (.t 11, [iv 0])]) (wk_of (by kernel_rfl)) ?_
  refine WK.use (diwanref13_Turn.lp4_ok fu session seq pos l _ 0 _ ho8) ?_
  intro e_ τ_ hp_
  obtain ⟨y8_0, rfl⟩ : ∃ y, y = o8 := ⟨_, rfl⟩
  obtain ⟨rfl, rfl⟩ := hp_
  refine WKe.code (y := (cR (cR (cR (cR bd22))))) (ks' := []) (by kernel_rfl) ?_
  obtain ⟨k16, hk16, h⟩ := jn_inv h
  have Jk16 : k16 = some (z0, z1) → WK Try.prog diwanref13_Turn.O (Ck Try.prog) (cR (cR (cR (cR (cR bd22))))) [] (ofL [(.t 1, [iv session]), (.t 2, [iv seq]), (.t 3, [iv pos]), (.t 10, [.data (.slc true none 3 (List.map TSeat.en l))]), (.t 11, [iv y8_0])]) (Fin Try.prog diwanref13_Turn.O Try.f22 0 ⟨.tup [.data (.slc false none 3 (List.map TSeat.en z0)), bv z1], []⟩) := by
    intro h
    rw [hk16] at h
    refine WK.share (x := .tmp 10) (l' := [(.t 1, [iv session]), (.t 2, [iv seq]), (.t 3, [iv pos]), (.t 10, [.data (.slc false none 3 (List.map TSeat.en l))]), (.t 11, [iv y8_0])]) (by kernel_rfl) ?_
    obtain ⟨c17_1, h⟩ := gd_inv h
    obtain ⟨c17_2, h⟩ := gd_inv h
    obtain ⟨c17_3, h⟩ := gd_inv h
    obtain ⟨c17_4, h⟩ := gd_inv h
    obtain ⟨c17_5, h⟩ := gd_inv h
    refine WK.rs (g := [.s (.t 62) [.data (.slc false none 3 (List.map TSeat.en (List.take y8_0.toNat l)))], .s (.t 69) [.data (.slc true none 3 (List.map TSeat.en ((List.take y8_0.toNat l) ++ ([(TSeat.mk session seq pos)] : List TSeat))))], .s (.t 72) [.data (.slc false none 3 (List.map TSeat.en (List.drop y8_0.toNat l)))], .s (.t 73) [.data (.slc true none 3 (List.map TSeat.en (((List.take y8_0.toNat l) ++ ([(TSeat.mk session seq pos)] : List TSeat)) ++ (List.drop y8_0.toNat l))))]]) (l' := [(.t 8, [.data (.slc true none 3 (List.map TSeat.en (((List.take y8_0.toNat l) ++ ([(TSeat.mk session seq pos)] : List TSeat)) ++ (List.drop y8_0.toNat l))))]), (.t 9, [bv true])]) (by kernel_rfl) (.cons (c_cbH (e := TSeat.en) c17_1) (.cons (congrArg (fun d : DV => [AV.data d]) (c_cutH (own := false) (nl := none) (s := 3) (e := TSeat.en) (l := l) (h := y8_0.toNat))) (.cons (c_al (e := TSeat.en) (f := TSeat.en) c17_2) (.cons (c_al (e := TSeat.en) (f := TSeat.en) c17_3) (.cons (congrArg (fun d : DV => [AV.data d]) (c_app (e := TSeat.en) (s := 3) (l := (List.take y8_0.toNat l)) (m := ([(TSeat.mk session seq pos)] : List TSeat)))) (.cons (c_cbL (e := TSeat.en) c17_4) (.cons (congrArg (fun d : DV => [AV.data d]) (c_cutL (own := false) (nl := none) (s := 3) (e := TSeat.en) (l := l) (lo := y8_0.toNat))) (.cons (c_al (e := TSeat.en) (f := TSeat.en) c17_5) (.cons (congrArg (fun d : DV => [AV.data d]) (c_app (e := TSeat.en) (s := 3) (l := ((List.take y8_0.toNat l) ++ ([(TSeat.mk session seq pos)] : List TSeat))) (m := (List.drop y8_0.toNat l)))) (.cons (Eq.refl true) .nil)))))))))) (by kernel_rfl) ?_
    refine WK.weak (l := [(.t 8, [.data (.slc true none 3 (List.map TSeat.en (((List.take y8_0.toNat l) ++ ([(TSeat.mk session seq pos)] : List TSeat)) ++ (List.drop y8_0.toNat l))))]), (.t 9, [bv true])]) (wk_of (by kernel_rfl)) ?_
    refine WK.ret (by kernel_rfl) ?_
    have h_0 := some_inj h
    obtain ⟨g_1, h_1⟩ := Prod.mk.inj h_0
    subst g_1
    subst h_1
    exact WKe.fin (e' := .ret) (by kernel_rfl) (fin_of (g := []) (by first | exact .inl rfl | exact .inr rfl) .nil (by kernel_rfl))
  clear hk16
  refine WK.seq (by kernel_rfl) ?_
  rcases br_inv h with ⟨b9_1, h⟩ | ⟨b9_1, h⟩
  · obtain ⟨x9_2, a9_3, e9_4, h⟩ := ix_inv h
    refine WK.rs (g := [.s (.t 32) [iv (l.length : Int)], .b true, .b true, .b true, .b true, .b true, .c (TSeat.en x9_2), .b true, .b true, .b true]) (l' := [(.t 1, [iv session]), (.t 2, [iv seq]), (.t 3, [iv pos]), (.t 10, [.data (.slc true none 3 (List.map TSeat.en l))]), (.t 11, [iv y8_0]), (.t 42, [bv (x9_2.Session == session)])]) (by kernel_rfl) (.cons (c_len (e := TSeat.en) (l := l)) (.cons b9_1 (.cons b9_1 (.cons b9_1 (.cons (c_ix (e := TSeat.en) a9_3 e9_4) (.cons b9_1 (.cons b9_1 (.cons (c_el (e := TSeat.en) e9_4) (.cons b9_1 (.cons b9_1 (.cons b9_1 .nil))))))))))) (by kernel_rfl) ?_
    rcases br_inv h with ⟨b10_0, h⟩ | ⟨b10_0, h⟩
    · refine WK.ct (b := (x9_2.Session == session)) (by kernel_rfl) b10_0 ?_
      refine WK.seq (by kernel_rfl) ?_
      obtain ⟨x11_1, a11_2, e11_3, h⟩ := ix_inv h
      refine WK.rs (g := [.c (TSeat.en x11_1)]) (l' := [(.t 1, [iv session]), (.t 2, [iv seq]), (.t 3, [iv pos]), (.t 10, [.data (.slc true none 3 (List.map TSeat.en l))]), (.t 11, [iv y8_0]), (.t 49, [bv (decide (seq ≤ x11_1.Seq))])]) (by kernel_rfl) (.cons (c_ix (e := TSeat.en) a11_2 e11_3) (.cons (c_el (e := TSeat.en) e11_3) .nil)) (by kernel_rfl) ?_
      rcases br_inv h with ⟨b12_0, h⟩ | ⟨b12_0, h⟩
      · refine WK.ct (b := (decide (seq ≤ x11_1.Seq))) (by kernel_rfl) b12_0 ?_
        refine WK.rs (g := []) (l' := [(.t 8, [.data (.slc true none 3 (List.map TSeat.en l))]), (.t 9, [bv false])]) (by kernel_rfl) .nil (by kernel_rfl) ?_
        refine WK.weak (l := [(.t 8, [.data (.slc true none 3 (List.map TSeat.en l))]), (.t 9, [bv false])]) (wk_of (by kernel_rfl)) ?_
        refine WK.ret (by kernel_rfl) ?_
        have h_0 := some_inj h
        obtain ⟨g_1, h_1⟩ := Prod.mk.inj h_0
        subst g_1
        subst h_1
        exact WKe.fin (e' := .ret) (by kernel_rfl) (fin_of (g := []) (by first | exact .inl rfl | exact .inr rfl) .nil (by kernel_rfl))
      · refine WK.ce (b := (decide (seq ≤ x11_1.Seq))) (by kernel_rfl) b12_0 ?_
        refine WK.skip (by kernel_rfl) ?_
        refine WKe.code (y := (cR (cT (cR (cL (cR (cR (cR (cR bd22))))))))) (ks' := [.seq (cR (cR (cR (cR (cR bd22)))))]) (by kernel_rfl) ?_
        obtain ⟨x14_1, a14_2, e14_3, h⟩ := ix_inv h
        refine WK.rs (g := [.c (TSeat.en x14_1), .s (.t 10) [.data (.slc true none 3 (List.map TSeat.en (l.set y8_0.toNat (TSeat.mk session seq pos))))]]) (l' := [(.t 10, [.data (.slc true none 3 (List.map TSeat.en (l.set y8_0.toNat (TSeat.mk session seq pos))))])]) (by kernel_rfl) (.cons (c_ix (e := TSeat.en) a14_2 e14_3) (.cons (c_el (e := TSeat.en) e14_3) (.cons (congrArg (fun d : DV => [AV.data d]) (c_set (e := TSeat.en) (s := 3) (nl := none) (l := l) (i := y8_0.toNat) (x := (TSeat.mk session seq pos)))) .nil))) (by kernel_rfl) ?_
        refine WK.rs (g := []) (l' := [(.t 8, [.data (.slc true none 3 (List.map TSeat.en (l.set y8_0.toNat (TSeat.mk session seq pos))))]), (.t 9, [bv true])]) (by kernel_rfl) .nil (by kernel_rfl) ?_
        refine WK.weak (l := [(.t 8, [.data (.slc true none 3 (List.map TSeat.en (l.set y8_0.toNat (TSeat.mk session seq pos))))]), (.t 9, [bv true])]) (wk_of (by kernel_rfl)) ?_
        refine WK.ret (by kernel_rfl) ?_
        have h_0 := some_inj h
        obtain ⟨g_1, h_1⟩ := Prod.mk.inj h_0
        subst g_1
        subst h_1
        exact WKe.fin (e' := .ret) (by kernel_rfl) (fin_of (g := []) (by first | exact .inl rfl | exact .inr rfl) .nil (by kernel_rfl))
    · refine WK.ce (b := (x9_2.Session == session)) (by kernel_rfl) b10_0 ?_
      refine WK.skip (by kernel_rfl) ?_
      refine WKe.code (y := (cR (cR (cR (cR (cR bd22)))))) (ks' := []) (by kernel_rfl) ?_
      exact WK.weak (l := [(.t 1, [iv session]), (.t 2, [iv seq]), (.t 3, [iv pos]), (.t 10, [.data (.slc true none 3 (List.map TSeat.en l))]), (.t 11, [iv y8_0])]) (wk_of (by kernel_rfl)) (Jk16 h)
  · refine WK.rs (g := [.s (.t 32) [iv (l.length : Int)], .b false, .b false, .b false, .b false, .b false, .b false, .b false, .b false]) (l' := [(.t 1, [iv session]), (.t 2, [iv seq]), (.t 3, [iv pos]), (.t 10, [.data (.slc true none 3 (List.map TSeat.en l))]), (.t 11, [iv y8_0]), (.t 42, [bv false])]) (by kernel_rfl) (.cons (c_len (e := TSeat.en) (l := l)) (.cons b9_1 (.cons b9_1 (.cons b9_1 (.cons b9_1 (.cons b9_1 (.cons b9_1 (.cons b9_1 (.cons b9_1 .nil))))))))) (by kernel_rfl) ?_
    refine WK.ce (b := false) (by kernel_rfl) rfl ?_
    refine WK.skip (by kernel_rfl) ?_
    refine WKe.code (y := (cR (cR (cR (cR (cR bd22)))))) (ks' := []) (by kernel_rfl) ?_
    exact WK.weak (l := [(.t 1, [iv session]), (.t 2, [iv seq]), (.t 3, [iv pos]), (.t 10, [.data (.slc true none 3 (List.map TSeat.en l))]), (.t 11, [iv y8_0])]) (wk_of (by kernel_rfl)) (Jk16 h)
/-- diwan/diwanref13.chain -/
noncomputable def bd31 : Code := (Try.f31.body).getD .skip
def diwanref13_chain.O : Nat → Nat := fun t => bif ([2, 5] : List Nat).any (Nat.beq t) then 1 else bif ([4] : List Nat).any (Nat.beq t) then 2 else 0
noncomputable def diwanref13_chain.lp3 (fu : Nat) (l3_0 : ByteArray) (l3_2 : TStore) : Nat → Int → Option (Unit ⊕ (List TVersion))
  | 0, _ => none
  | n_ + 1, l3_1 =>
    br (decide (l3_1 < (l3_2.Chains.length : Int)))
      (ix l3_2.Chains l3_1 fun x6_1 =>
      br (x6_1.Key.toList == l3_0.toList)
        (ix l3_2.Chains l3_1 fun x8_1 =>
        some (.inr x8_1.L))
        (diwanref13_chain.lp3 fu l3_0 l3_2 n_ (w64 (l3_1 + 1))))
      (some (.inl ()))
noncomputable def diwanref13_chain.lp3_post (l3_0 : ByteArray) (l3_2 : TStore) (r_ : (Unit ⊕ (List TVersion))) : Wy → St → Prop := fun e τ => match r_ with
  | .inl _ => e = .exit 0 ∧ τ = ofL []
  | .inr y0 => e = .ret ∧ τ = ofL [(.t 4, [.data (.slc false none 3 (List.map TVersion.en y0))])]
theorem diwanref13_chain.lp3_ok (fu : Nat) (l3_0 : ByteArray) (l3_2 : TStore) : ∀ (n_ : Nat) (l3_1 : Int) (r_ : (Unit ⊕ (List TVersion))), diwanref13_chain.lp3 fu l3_0 l3_2 n_ l3_1 = some r_ → WK Try.prog diwanref13_chain.O (Ck Try.prog) (cB (cR (cL (cR bd31)))) [] (ofL [(.t 1, [sv l3_0]), (.t 2, [.ptr 2 0]), (.t 5, [iv l3_1]), (.o 2, [.data (.slc false none 2 (List.map TChain.en l3_2.Chains)), iv l3_2.Mark])]) (diwanref13_chain.lp3_post l3_0 l3_2 r_) := by
  intro n_
  induction n_ with
  | zero => intro l3_1 r_ h; exact no_none h
  | succ n_ ih =>
    intro l3_1 r_ h
    refine WK.loop (by kernel_rfl) ?_
    refine WK.seq (by kernel_rfl) ?_
    refine WK.rs (g := [.s (.t 9) [iv (l3_2.Chains.length : Int)]]) (l' := [(.t 1, [sv l3_0]), (.t 2, [.ptr 2 0]), (.t 5, [iv l3_1]), (.t 10, [bv (decide (l3_1 < (l3_2.Chains.length : Int)))]), (.o 2, [.data (.slc false none 2 (List.map TChain.en l3_2.Chains)), iv l3_2.Mark])]) (by kernel_rfl) (.cons (c_len (e := TChain.en) (l := l3_2.Chains)) .nil) (by kernel_rfl) ?_
    rcases br_inv h with ⟨b5_0, h⟩ | ⟨b5_0, h⟩
    · refine WK.ct (b := (decide (l3_1 < (l3_2.Chains.length : Int)))) (by kernel_rfl) b5_0 ?_
      refine WK.skip (by kernel_rfl) ?_
      refine WKe.code (y := (cR (cB (cB (cR (cL (cR bd31))))))) (ks' := [.lp (cB (cR (cL (cR bd31))))]) (by kernel_rfl) ?_
      refine WK.seq (by kernel_rfl) ?_
      refine WK.block (n := 1) (by kernel_rfl) ?_
      obtain ⟨x6_1, a6_2, e6_3, h⟩ := ix_inv h
      refine WK.rs (g := [.c (TChain.en x6_1)]) (l' := [(.t 1, [sv l3_0]), (.t 2, [.ptr 2 0]), (.t 5, [iv l3_1]), (.t 20, [bv (x6_1.Key.toList == l3_0.toList)]), (.o 2, [.data (.slc false none 2 (List.map TChain.en l3_2.Chains)), iv l3_2.Mark])]) (by kernel_rfl) (.cons (c_ix (e := TChain.en) a6_2 e6_3) (.cons (c_el (e := TChain.en) e6_3) .nil)) (by kernel_rfl) ?_
      rcases br_inv h with ⟨b7_0, h⟩ | ⟨b7_0, h⟩
      · refine WK.ct (b := (x6_1.Key.toList == l3_0.toList)) (by kernel_rfl) b7_0 ?_
        obtain ⟨x8_1, a8_2, e8_3, h⟩ := ix_inv h
        refine WK.rs (g := [.c (TChain.en x8_1)]) (l' := [(.t 4, [.data (.slc false none 3 (List.map TVersion.en x8_1.L))])]) (by kernel_rfl) (.cons (c_ix (e := TChain.en) a8_2 e8_3) (.cons (c_el (e := TChain.en) e8_3) .nil)) (by kernel_rfl) ?_
        refine WK.weak (l := [(.t 4, [.data (.slc false none 3 (List.map TVersion.en x8_1.L))])]) (wk_of (by kernel_rfl)) ?_
        refine WK.ret (by kernel_rfl) ?_
        cases some_inj h
        exact WKe.fin (e' := .ret) (by kernel_rfl) ⟨rfl, rfl⟩
      · refine WK.ce (b := (x6_1.Key.toList == l3_0.toList)) (by kernel_rfl) b7_0 ?_
        refine WK.skip (by kernel_rfl) ?_
        refine WKe.code (y := (cR (cR (cB (cB (cR (cL (cR bd31)))))))) (ks' := [.lp (cB (cR (cL (cR bd31))))]) (by kernel_rfl) ?_
        refine WK.rc (g := []) (l' := [(.t 1, [sv l3_0]), (.t 2, [.ptr 2 0]), (.t 5, [iv (w64 (l3_1 + 1))]), (.o 2, [.data (.slc false none 2 (List.map TChain.en l3_2.Chains)), iv l3_2.Mark])]) .nil (by kernel_rfl) (y := (cB (cR (cL (cR bd31))))) (ks' := []) (by kernel_rfl) ?_
        exact WK.weak (l := [(.t 1, [sv l3_0]), (.t 2, [.ptr 2 0]), (.t 5, [iv (w64 (l3_1 + 1))]), (.o 2, [.data (.slc false none 2 (List.map TChain.en l3_2.Chains)), iv l3_2.Mark])]) (wk_of (by kernel_rfl)) (ih (w64 (l3_1 + 1)) _ h)
    · refine WK.ce (b := (decide (l3_1 < (l3_2.Chains.length : Int)))) (by kernel_rfl) b5_0 ?_
      refine WK.weak (l := []) (wk_of (by kernel_rfl)) ?_
      refine WK.exit (n := 0) (by kernel_rfl) ?_
      cases some_inj h
      exact WKe.fin (e' := .exit 0) (by kernel_rfl) ⟨rfl, rfl⟩
noncomputable def diwanref13_chain (fu : Nat) (s : TStore) (key : ByteArray) : Option (List TVersion) :=
  bd (diwanref13_chain.lp3 fu key s fu 0) fun o_ => (match o_ with
  | .inl _ =>
    some []
  | .inr y10_0 =>
    some y10_0)
theorem diwanref13_chain.meets (fu : Nat) (s : TStore) (key : ByteArray) (z0 : List TVersion) (h : diwanref13_chain fu s key = some z0) : Meets Try.prog ⟨31, [.data (.agg [.slc false none 2 (List.map TChain.en s.Chains), .val (.int .i64 s.Mark)]), sv key], []⟩ ⟨.data (.slc false none 3 (List.map TVersion.en z0)), []⟩ := by
  refine meets_of (O := diwanref13_chain.O) hmix (fn := Try.f31) (code := bd31) (by kernel_rfl) ?_
  refine WK.weak (l := [(.t 0, [.data (.agg [.slc false none 2 (List.map TChain.en s.Chains), .val (.int .i64 s.Mark)])]), (.t 1, [sv key])]) (wk_of (by kernel_rfl)) ?_
  unfold diwanref13_chain at h
  refine WK.rs (g := []) (l' := [(.t 1, [sv key]), (.t 2, [.ptr 2 0]), (.o 2, [.data (.slc false none 2 (List.map TChain.en s.Chains)), iv s.Mark])]) (by kernel_rfl) .nil (by kernel_rfl) ?_
  refine WK.seq (by kernel_rfl) ?_
  refine WK.rs (g := []) (l' := [(.t 1, [sv key]), (.t 2, [.ptr 2 0]), (.t 5, [iv 0]), (.o 2, [.data (.slc false none 2 (List.map TChain.en s.Chains)), iv s.Mark])]) (by kernel_rfl) .nil (by kernel_rfl) ?_
  refine WK.block (n := 0) (by kernel_rfl) ?_
  obtain ⟨o10, ho10, h⟩ := bd_inv h
  refine WK.weak (l := [(.t 1, [sv key]), (.t 2, [.ptr 2 0]), (.t 5, [iv 0]), (.o 2, [.data (.slc false none 2 (List.map TChain.en s.Chains)), iv s.Mark])]) (wk_of (by kernel_rfl)) ?_
  refine WK.use (diwanref13_chain.lp3_ok fu key s _ 0 _ ho10) ?_
  intro e_ τ_ hp_
  rcases o10 with o10 | o10
  · obtain ⟨⟩ := o10
    obtain ⟨rfl, rfl⟩ := hp_
    refine WKe.code (y := (cR (cR bd31))) (ks' := []) (by kernel_rfl) ?_
    refine WK.rs (g := []) (l' := [(.t 4, [.data (.slc false (some true) 3 (List.map TVersion.en []))])]) (by kernel_rfl) .nil (by kernel_rfl) ?_
    refine WK.weak (l := [(.t 4, [.data (.slc false none 3 (List.map TVersion.en []))])]) (wk_of (by kernel_rfl)) ?_
    refine WK.ret (by kernel_rfl) ?_
    have h_ := some_inj h
    subst h_
    exact WKe.fin (e' := .ret) (by kernel_rfl) (fin_of (g := []) (by first | exact .inl rfl | exact .inr rfl) .nil (by kernel_rfl))
  · obtain ⟨y10_0, rfl⟩ : ∃ y, y = o10 := ⟨_, rfl⟩
    obtain ⟨rfl, rfl⟩ := hp_
    have h_ := some_inj h
    subst h_
    exact WKe.fin (e' := .ret) (by kernel_rfl) (fin_of (g := []) (by first | exact .inl rfl | exact .inr rfl) .nil (by kernel_rfl))
/-- diwan/diwanref13.LastOf -/
noncomputable def bd17 : Code := (Try.f17.body).getD .skip
def diwanref13_LastOf.O : Nat → Nat := fun t => bif ([2] : List Nat).any (Nat.beq t) then 1 else 0
noncomputable def diwanref13_LastOf (l : List TVersion) : Option Int :=
  br ((l.length : Int) == 0)
    (some 0)
    (ix l (w64 ((l.length : Int) - 1)) fun x5_1 =>
    some x5_1.Pos)
theorem diwanref13_LastOf.meets (l : List TVersion) (z0 : Int) (h : diwanref13_LastOf l = some z0) : Meets Try.prog ⟨17, [.data (.slc false none 3 (List.map TVersion.en l))], []⟩ ⟨iv z0, []⟩ := by
  refine meets_of (O := diwanref13_LastOf.O) hmix (fn := Try.f17) (code := bd17) (by kernel_rfl) ?_
  refine WK.weak (l := [(.t 0, [.data (.slc false none 3 (List.map TVersion.en l))])]) (wk_of (by kernel_rfl)) ?_
  unfold diwanref13_LastOf at h
  refine WK.rs (g := []) (l' := [(.t 0, [.data (.slc false none 3 (List.map TVersion.en l))])]) (by kernel_rfl) .nil (by kernel_rfl) ?_
  refine WK.seq (by kernel_rfl) ?_
  refine WK.rs (g := [.s (.t 4) [iv (l.length : Int)]]) (l' := [(.t 0, [.data (.slc false none 3 (List.map TVersion.en l))]), (.t 5, [bv ((l.length : Int) == 0)])]) (by kernel_rfl) (.cons (c_len (e := TVersion.en) (l := l)) .nil) (by kernel_rfl) ?_
  rcases br_inv h with ⟨b3_0, h⟩ | ⟨b3_0, h⟩
  · refine WK.ct (b := ((l.length : Int) == 0)) (by kernel_rfl) b3_0 ?_
    refine WK.rs (g := []) (l' := [(.t 2, [iv 0])]) (by kernel_rfl) .nil (by kernel_rfl) ?_
    refine WK.weak (l := [(.t 2, [iv 0])]) (wk_of (by kernel_rfl)) ?_
    refine WK.ret (by kernel_rfl) ?_
    have h_ := some_inj h
    subst h_
    exact WKe.fin (e' := .ret) (by kernel_rfl) (fin_of (g := []) (by first | exact .inl rfl | exact .inr rfl) .nil (by kernel_rfl))
  · refine WK.ce (b := ((l.length : Int) == 0)) (by kernel_rfl) b3_0 ?_
    refine WK.skip (by kernel_rfl) ?_
    refine WKe.code (y := (cR (cR bd17))) (ks' := []) (by kernel_rfl) ?_
    obtain ⟨x5_1, a5_2, e5_3, h⟩ := ix_inv h
    refine WK.rs (g := [.s (.t 8) [iv (l.length : Int)], .c (TVersion.en x5_1)]) (l' := [(.t 2, [iv x5_1.Pos])]) (by kernel_rfl) (.cons (c_len (e := TVersion.en) (l := l)) (.cons (c_ix (e := TVersion.en) a5_2 e5_3) (.cons (c_el (e := TVersion.en) e5_3) .nil))) (by kernel_rfl) ?_
    refine WK.weak (l := [(.t 2, [iv x5_1.Pos])]) (wk_of (by kernel_rfl)) ?_
    refine WK.ret (by kernel_rfl) ?_
    have h_ := some_inj h
    subst h_
    exact WKe.fin (e' := .ret) (by kernel_rfl) (fin_of (g := []) (by first | exact .inl rfl | exact .inr rfl) .nil (by kernel_rfl))
/-- diwan/diwanref13.Last -/
noncomputable def bd23 : Code := (Try.f23.body).getD .skip
def diwanref13_Last.O : Nat → Nat := fun t => bif ([2, 4] : List Nat).any (Nat.beq t) then 1 else 0
noncomputable def diwanref13_Last (fu : Nat) (s : TStore) (key : ByteArray) : Option Int :=
  bd (diwanref13_chain fu s key) fun r2_1 =>
  bd (diwanref13_LastOf r2_1) fun r2_3 =>
  some r2_3
theorem diwanref13_Last.meets (fu : Nat) (s : TStore) (key : ByteArray) (z0 : Int) (h : diwanref13_Last fu s key = some z0) : Meets Try.prog ⟨23, [.data (.agg [.slc false none 2 (List.map TChain.en s.Chains), .val (.int .i64 s.Mark)]), sv key], []⟩ ⟨iv z0, []⟩ := by
  refine meets_of (O := diwanref13_Last.O) hmix (fn := Try.f23) (code := bd23) (by kernel_rfl) ?_
  refine WK.weak (l := [(.t 0, [.data (.agg [.slc false none 2 (List.map TChain.en s.Chains), .val (.int .i64 s.Mark)])]), (.t 1, [sv key])]) (wk_of (by kernel_rfl)) ?_
  unfold diwanref13_Last at h
  refine WK.rs (g := []) (l' := [(.t 1, [sv key]), (.t 2, [.ptr 2 0]), (.o 2, [.data (.slc false none 2 (List.map TChain.en s.Chains)), iv s.Mark])]) (by kernel_rfl) .nil (by kernel_rfl) ?_
  obtain ⟨r2_1, h2_2, h⟩ := bd_inv h
  obtain ⟨r2_3, h2_4, h⟩ := bd_inv h
  refine WK.rs (g := [.a ⟨.data (.slc false none 3 (List.map TVersion.en r2_1)), []⟩, .a ⟨iv r2_3, []⟩]) (l' := [(.t 4, [iv r2_3])]) (by kernel_rfl) (.cons (Asks.of (C := Meets Try.prog) (diwanref13_chain.meets fu s key _ h2_2)) (.cons (Asks.of (C := Meets Try.prog) (diwanref13_LastOf.meets r2_1 _ h2_4)) .nil)) (by kernel_rfl) ?_
  refine WK.weak (l := [(.t 4, [iv r2_3])]) (wk_of (by kernel_rfl)) ?_
  refine WK.ret (by kernel_rfl) ?_
  have h_ := some_inj h
  subst h_
  exact WKe.fin (e' := .ret) (by kernel_rfl) (fin_of (g := []) (by first | exact .inl rfl | exact .inr rfl) .nil (by kernel_rfl))
/-- diwan/diwanref13.Add -/
noncomputable def bd32 : Code := (Try.f32.body).getD .skip
def diwanref13_Add.O : Nat → Nat := fun t => bif ([3, 4, 5, 6, 17] : List Nat).any (Nat.beq t) then 1 else 0
noncomputable def diwanref13_Add (l : List TVersion) (v : TVersion) : Option (List TVersion) :=
  gd (decide (([] : List TVersion).length + l.length ≤ 4294967296)) <|
  bd (diwanref13_LastOf l) fun r3_1 =>
  br (decide (v.Pos ≤ r3_1))
    (some l)
    (gd (decide (l.length + ([v] : List TVersion).length ≤ 4294967296)) <|
    some (l ++ ([v] : List TVersion)))
theorem diwanref13_Add.meets (l : List TVersion) (v : TVersion) (z0 : List TVersion) (h : diwanref13_Add l v = some z0) : Meets Try.prog ⟨32, [.data (.slc false none 3 (List.map TVersion.en l)), .data (TVersion.ag v)], []⟩ ⟨.data (.slc true none 3 (List.map TVersion.en z0)), []⟩ := by
  refine meets_of (O := diwanref13_Add.O) hmix (fn := Try.f32) (code := bd32) (by kernel_rfl) ?_
  refine WK.weak (l := [(.t 0, [.data (.slc false none 3 (List.map TVersion.en l))]), (.t 1, [.data (TVersion.ag v)])]) (wk_of (by kernel_rfl)) ?_
  unfold diwanref13_Add at h
  refine WK.rs (g := []) (l' := [(.t 0, [.data (.slc false none 3 (List.map TVersion.en l))]), (.t 3, [.ptr 3 0]), (.o 3, (TVersion.ob v))]) (by kernel_rfl) .nil (by kernel_rfl) ?_
  obtain ⟨c2_1, h⟩ := gd_inv h
  refine WK.rs (g := []) (l' := [(.t 0, [.data (.slc false none 3 (List.map TVersion.en l))]), (.t 3, [.ptr 3 0]), (.t 5, [.data (.slc true none 3 (List.map TVersion.en l))]), (.o 3, (TVersion.ob v))]) (by kernel_rfl) (.cons (c_al (e := TVersion.en) (f := TVersion.en) c2_1) .nil) (by kernel_rfl) ?_
  refine WK.seq (by kernel_rfl) ?_
  obtain ⟨r3_1, h3_2, h⟩ := bd_inv h
  refine WK.rs (g := [.a ⟨iv r3_1, []⟩]) (l' := [(.t 3, [.ptr 3 0]), (.t 5, [.data (.slc true none 3 (List.map TVersion.en l))]), (.t 13, [bv (decide (v.Pos ≤ r3_1))]), (.o 3, (TVersion.ob v))]) (by kernel_rfl) (.cons (Asks.of (C := Meets Try.prog) (diwanref13_LastOf.meets l _ h3_2)) (.cons (Eq.refl true) .nil)) (by kernel_rfl) ?_
  rcases br_inv h with ⟨b4_0, h⟩ | ⟨b4_0, h⟩
  · refine WK.ct (b := (decide (v.Pos ≤ r3_1))) (by kernel_rfl) b4_0 ?_
    refine WK.rs (g := []) (l' := [(.t 4, [.data (.slc true none 3 (List.map TVersion.en l))])]) (by kernel_rfl) .nil (by kernel_rfl) ?_
    refine WK.weak (l := [(.t 4, [.data (.slc true none 3 (List.map TVersion.en l))])]) (wk_of (by kernel_rfl)) ?_
    refine WK.ret (by kernel_rfl) ?_
    have h_ := some_inj h
    subst h_
    exact WKe.fin (e' := .ret) (by kernel_rfl) (fin_of (g := []) (by first | exact .inl rfl | exact .inr rfl) .nil (by kernel_rfl))
  · refine WK.ce (b := (decide (v.Pos ≤ r3_1))) (by kernel_rfl) b4_0 ?_
    refine WK.skip (by kernel_rfl) ?_
    refine WKe.code (y := (cR (cR (cR bd32)))) (ks' := []) (by kernel_rfl) ?_
    obtain ⟨c6_1, h⟩ := gd_inv h
    refine WK.rs (g := [.s (.t 18) [.data (.slc true none 3 (List.map TVersion.en (l ++ ([v] : List TVersion))))]]) (l' := [(.t 4, [.data (.slc true none 3 (List.map TVersion.en (l ++ ([v] : List TVersion))))])]) (by kernel_rfl) (.cons (c_al (e := TVersion.en) (f := TVersion.en) c6_1) (.cons (congrArg (fun d : DV => [AV.data d]) (c_app (e := TVersion.en) (s := 3) (l := l) (m := ([v] : List TVersion)))) .nil)) (by kernel_rfl) ?_
    refine WK.weak (l := [(.t 4, [.data (.slc true none 3 (List.map TVersion.en (l ++ ([v] : List TVersion))))])]) (wk_of (by kernel_rfl)) ?_
    refine WK.ret (by kernel_rfl) ?_
    have h_ := some_inj h
    subst h_
    exact WKe.fin (e' := .ret) (by kernel_rfl) (fin_of (g := []) (by first | exact .inl rfl | exact .inr rfl) .nil (by kernel_rfl))
/-- diwan/diwanref13.Write -/
noncomputable def bd24 : Code := (Try.f24.body).getD .skip
def diwanref13_Write.O : Nat → Nat := fun t => bif ([3, 6, 7, 8, 9, 10, 13, 17, 64, 72, 73, 79, 95, 99] : List Nat).any (Nat.beq t) then 1 else bif ([96] : List Nat).any (Nat.beq t) then 2 else 0
noncomputable def diwanref13_Write.lp9 (fu : Nat) (l9_0 : Int) (l9_1 : List TWrite) (l9_2 : Int) (l9_4 : TStore) (l9_5 : TStore) (l9_6 : TWrite) : Nat → Int → Option Int
  | 0, _ => none
  | n_ + 1, l9_3 =>
    br (decide (l9_3 < (l9_5.Chains.length : Int)))
      (ix l9_5.Chains l9_3 fun x10_2 =>
      br (Op.bytesLess x10_2.Key.toList l9_6.Key.toList)
        (diwanref13_Write.lp9 fu l9_0 l9_1 l9_2 l9_4 l9_5 l9_6 n_ (w64 (l9_3 + 1)))
        (some l9_3))
      (some l9_3)
noncomputable def diwanref13_Write.lp9_post (l9_0 : Int) (l9_1 : List TWrite) (l9_2 : Int) (l9_4 : TStore) (l9_5 : TStore) (l9_6 : TWrite) (r_ : Int) : Wy → St → Prop := fun e τ => match r_ with
  | y0 => e = .exit 2 ∧ τ = ofL [(.t 1, [iv l9_0]), (.t 2, [.data (.slc false none 3 (List.map TWrite.en l9_1))]), (.t 6, [.ptr 6 0]), (.t 7, [.ptr 7 0]), (.t 8, [iv l9_2]), (.t 9, [.ptr 9 0]), (.t 10, [iv y0]), (.o 6, [.data (.slc true none 2 (List.map TChain.en l9_4.Chains)), iv l9_4.Mark]), (.o 7, [.data (.slc true none 2 (List.map TChain.en l9_5.Chains)), iv l9_5.Mark]), (.o 9, (TWrite.ob l9_6))]
theorem diwanref13_Write.lp9_ok (fu : Nat) (l9_0 : Int) (l9_1 : List TWrite) (l9_2 : Int) (l9_4 : TStore) (l9_5 : TStore) (l9_6 : TWrite) : ∀ (n_ : Nat) (l9_3 : Int) (r_ : Int), diwanref13_Write.lp9 fu l9_0 l9_1 l9_2 l9_4 l9_5 l9_6 n_ l9_3 = some r_ → WK Try.prog diwanref13_Write.O (Ck Try.prog) (cB (cL (cR (cR (cB (cL (cR (cB (cB (cR (cL (cR (cR bd24))))))))))))) [] (ofL [(.t 1, [iv l9_0]), (.t 2, [.data (.slc false none 3 (List.map TWrite.en l9_1))]), (.t 6, [.ptr 6 0]), (.t 7, [.ptr 7 0]), (.t 8, [iv l9_2]), (.t 9, [.ptr 9 0]), (.t 10, [iv l9_3]), (.o 6, [.data (.slc true none 2 (List.map TChain.en l9_4.Chains)), iv l9_4.Mark]), (.o 7, [.data (.slc true none 2 (List.map TChain.en l9_5.Chains)), iv l9_5.Mark]), (.o 9, (TWrite.ob l9_6))]) (diwanref13_Write.lp9_post l9_0 l9_1 l9_2 l9_4 l9_5 l9_6 r_) := by
  intro n_
  induction n_ with
  | zero => intro l9_3 r_ h; exact no_none h
  | succ n_ ih =>
    intro l9_3 r_ h
    refine WK.loop (by kernel_rfl) ?_
    refine WK.seq (by kernel_rfl) ?_
    rcases br_inv h with ⟨b10_1, h⟩ | ⟨b10_1, h⟩
    · obtain ⟨x10_2, a10_3, e10_4, h⟩ := ix_inv h
      refine WK.rs (g := [.s (.t 31) [iv (l9_5.Chains.length : Int)], .b true, .b true, .b true, .b true, .b true, .b true, .c (TChain.en x10_2), .b true, .b true, .b true, .b true]) (l' := [(.t 1, [iv l9_0]), (.t 2, [.data (.slc false none 3 (List.map TWrite.en l9_1))]), (.t 6, [.ptr 6 0]), (.t 7, [.ptr 7 0]), (.t 8, [iv l9_2]), (.t 9, [.ptr 9 0]), (.t 10, [iv l9_3]), (.t 43, [bv (Op.bytesLess x10_2.Key.toList l9_6.Key.toList)]), (.o 6, [.data (.slc true none 2 (List.map TChain.en l9_4.Chains)), iv l9_4.Mark]), (.o 7, [.data (.slc true none 2 (List.map TChain.en l9_5.Chains)), iv l9_5.Mark]), (.o 9, (TWrite.ob l9_6))]) (by kernel_rfl) (.cons (c_len (e := TChain.en) (l := l9_5.Chains)) (.cons b10_1 (.cons b10_1 (.cons b10_1 (.cons b10_1 (.cons (c_ix (e := TChain.en) a10_3 e10_4) (.cons b10_1 (.cons b10_1 (.cons (c_el (e := TChain.en) e10_4) (.cons b10_1 (.cons b10_1 (.cons b10_1 (.cons b10_1 (.cons (Eq.refl true) .nil)))))))))))))) (by kernel_rfl) ?_
      rcases br_inv h with ⟨b11_0, h⟩ | ⟨b11_0, h⟩
      · refine WK.ct (b := (Op.bytesLess x10_2.Key.toList l9_6.Key.toList)) (by kernel_rfl) b11_0 ?_
        refine WK.skip (by kernel_rfl) ?_
        refine WKe.code (y := (cR (cB (cB (cL (cR (cR (cB (cL (cR (cB (cB (cR (cL (cR (cR bd24)))))))))))))))) (ks' := [.lp (cB (cL (cR (cR (cB (cL (cR (cB (cB (cR (cL (cR (cR bd24)))))))))))))]) (by kernel_rfl) ?_
        refine WK.block (n := 3) (by kernel_rfl) ?_
        refine WK.rc (g := []) (l' := [(.t 1, [iv l9_0]), (.t 2, [.data (.slc false none 3 (List.map TWrite.en l9_1))]), (.t 6, [.ptr 6 0]), (.t 7, [.ptr 7 0]), (.t 8, [iv l9_2]), (.t 9, [.ptr 9 0]), (.t 10, [iv (w64 (l9_3 + 1))]), (.o 6, [.data (.slc true none 2 (List.map TChain.en l9_4.Chains)), iv l9_4.Mark]), (.o 7, [.data (.slc true none 2 (List.map TChain.en l9_5.Chains)), iv l9_5.Mark]), (.o 9, (TWrite.ob l9_6))]) .nil (by kernel_rfl) (y := (cB (cL (cR (cR (cB (cL (cR (cB (cB (cR (cL (cR (cR bd24)))))))))))))) (ks' := []) (by kernel_rfl) ?_
        exact WK.weak (l := [(.t 1, [iv l9_0]), (.t 2, [.data (.slc false none 3 (List.map TWrite.en l9_1))]), (.t 6, [.ptr 6 0]), (.t 7, [.ptr 7 0]), (.t 8, [iv l9_2]), (.t 9, [.ptr 9 0]), (.t 10, [iv (w64 (l9_3 + 1))]), (.o 6, [.data (.slc true none 2 (List.map TChain.en l9_4.Chains)), iv l9_4.Mark]), (.o 7, [.data (.slc true none 2 (List.map TChain.en l9_5.Chains)), iv l9_5.Mark]), (.o 9, (TWrite.ob l9_6))]) (wk_of (by kernel_rfl)) (ih (w64 (l9_3 + 1)) _ h)
      · refine WK.ce (b := (Op.bytesLess x10_2.Key.toList l9_6.Key.toList)) (by kernel_rfl) b11_0 ?_
        refine WK.weak (l := [(.t 1, [iv l9_0]), (.t 2, [.data (.slc false none 3 (List.map TWrite.en l9_1))]), (.t 6, [.ptr 6 0]), (.t 7, [.ptr 7 0]), (.t 8, [iv l9_2]), (.t 9, [.ptr 9 0]), (.t 10, [iv l9_3]), (.o 6, [.data (.slc true none 2 (List.map TChain.en l9_4.Chains)), iv l9_4.Mark]), (.o 7, [.data (.slc true none 2 (List.map TChain.en l9_5.Chains)), iv l9_5.Mark]), (.o 9, (TWrite.ob l9_6))]) (wk_of (by kernel_rfl)) ?_
        refine WK.exit (n := 2) (by kernel_rfl) ?_
        cases some_inj h
        exact WKe.fin (e' := .exit 2) (by kernel_rfl) ⟨rfl, rfl⟩
    · refine WK.rs (g := [.s (.t 31) [iv (l9_5.Chains.length : Int)], .b false, .b false, .b false, .b false, .b false, .b false, .b false, .b false, .b false, .b false]) (l' := [(.t 1, [iv l9_0]), (.t 2, [.data (.slc false none 3 (List.map TWrite.en l9_1))]), (.t 6, [.ptr 6 0]), (.t 7, [.ptr 7 0]), (.t 8, [iv l9_2]), (.t 9, [.ptr 9 0]), (.t 10, [iv l9_3]), (.t 43, [bv false]), (.o 6, [.data (.slc true none 2 (List.map TChain.en l9_4.Chains)), iv l9_4.Mark]), (.o 7, [.data (.slc true none 2 (List.map TChain.en l9_5.Chains)), iv l9_5.Mark]), (.o 9, (TWrite.ob l9_6))]) (by kernel_rfl) (.cons (c_len (e := TChain.en) (l := l9_5.Chains)) (.cons b10_1 (.cons b10_1 (.cons b10_1 (.cons b10_1 (.cons b10_1 (.cons b10_1 (.cons b10_1 (.cons b10_1 (.cons b10_1 (.cons b10_1 (.cons (Eq.refl true) .nil)))))))))))) (by kernel_rfl) ?_
      refine WK.ce (b := false) (by kernel_rfl) rfl ?_
      refine WK.weak (l := [(.t 1, [iv l9_0]), (.t 2, [.data (.slc false none 3 (List.map TWrite.en l9_1))]), (.t 6, [.ptr 6 0]), (.t 7, [.ptr 7 0]), (.t 8, [iv l9_2]), (.t 9, [.ptr 9 0]), (.t 10, [iv l9_3]), (.o 6, [.data (.slc true none 2 (List.map TChain.en l9_4.Chains)), iv l9_4.Mark]), (.o 7, [.data (.slc true none 2 (List.map TChain.en l9_5.Chains)), iv l9_5.Mark]), (.o 9, (TWrite.ob l9_6))]) (wk_of (by kernel_rfl)) ?_
      refine WK.exit (n := 2) (by kernel_rfl) ?_
      cases some_inj h
      exact WKe.fin (e' := .exit 2) (by kernel_rfl) ⟨rfl, rfl⟩
noncomputable def diwanref13_Write.lp4 (fu : Nat) (l4_0 : Int) (l4_1 : List TWrite) (l4_3 : TStore) : Nat → Int → TStore → Option TStore
  | 0, _, _ => none
  | n_ + 1, l4_2, l4_4 =>
    br (decide (l4_2 < (l4_1.length : Int)))
      (ix l4_1 l4_2 fun x7_1 =>
      bd (diwanref13_Write.lp9 fu l4_0 l4_1 l4_2 l4_3 l4_4 x7_1 fu 0) fun y13_0 =>
      jn (fun (j24_5 : TStore) =>
        ix j24_5.Chains y13_0 fun x25_1 =>
        bd (diwanref13_Add x25_1.L (TVersion.mk l4_0 x7_1.Val x7_1.Gone)) fun r25_4 =>
        ix j24_5.Chains y13_0 fun x25_6 =>
        diwanref13_Write.lp4 fu l4_0 l4_1 l4_3 n_ (w64 (l4_2 + 1)) (TStore.mk (j24_5.Chains.set y13_0.toNat (TChain.mk x25_6.Key r25_4)) j24_5.Mark)) fun k24 =>
      br (y13_0 == (l4_4.Chains.length : Int))
        (br (decide (l4_0 < 1))
          (diwanref13_Write.lp4 fu l4_0 l4_1 l4_3 n_ (w64 (l4_2 + 1)) l4_4)
          (gd (decide ((0 : Int) ≤ y13_0 ∧ y13_0 ≤ (l4_4.Chains.length : Int))) <|
          gd (decide (([] : List TChain).length + (List.take y13_0.toNat l4_4.Chains).length ≤ 4294967296)) <|
          gd (decide ((List.take y13_0.toNat l4_4.Chains).length + ([(TChain.mk x7_1.Key [])] : List TChain).length ≤ 4294967296)) <|
          gd (decide ((0 : Int) ≤ y13_0 ∧ y13_0 ≤ (l4_4.Chains.length : Int))) <|
          gd (decide (((List.take y13_0.toNat l4_4.Chains) ++ ([(TChain.mk x7_1.Key [])] : List TChain)).length + (List.drop y13_0.toNat l4_4.Chains).length ≤ 4294967296)) <|
          k24 (TStore.mk (((List.take y13_0.toNat l4_4.Chains) ++ ([(TChain.mk x7_1.Key [])] : List TChain)) ++ (List.drop y13_0.toNat l4_4.Chains)) l4_4.Mark)))
        (ix l4_4.Chains y13_0 fun x14_2 =>
        br (!(x14_2.Key.toList == x7_1.Key.toList))
          (br (decide (l4_0 < 1))
            (diwanref13_Write.lp4 fu l4_0 l4_1 l4_3 n_ (w64 (l4_2 + 1)) l4_4)
            (gd (decide ((0 : Int) ≤ y13_0 ∧ y13_0 ≤ (l4_4.Chains.length : Int))) <|
            gd (decide (([] : List TChain).length + (List.take y13_0.toNat l4_4.Chains).length ≤ 4294967296)) <|
            gd (decide ((List.take y13_0.toNat l4_4.Chains).length + ([(TChain.mk x7_1.Key [])] : List TChain).length ≤ 4294967296)) <|
            gd (decide ((0 : Int) ≤ y13_0 ∧ y13_0 ≤ (l4_4.Chains.length : Int))) <|
            gd (decide (((List.take y13_0.toNat l4_4.Chains) ++ ([(TChain.mk x7_1.Key [])] : List TChain)).length + (List.drop y13_0.toNat l4_4.Chains).length ≤ 4294967296)) <|
            k24 (TStore.mk (((List.take y13_0.toNat l4_4.Chains) ++ ([(TChain.mk x7_1.Key [])] : List TChain)) ++ (List.drop y13_0.toNat l4_4.Chains)) l4_4.Mark)))
          (k24 l4_4)))
      (some l4_4)
noncomputable def diwanref13_Write.lp4_post (l4_0 : Int) (l4_1 : List TWrite) (l4_3 : TStore) (r_ : TStore) : Wy → St → Prop := fun e τ => match r_ with
  | y0 => e = .exit 0 ∧ τ = ofL [(.t 6, [.ptr 6 0]), (.t 7, [.ptr 7 0]), (.o 6, [.data (.slc true none 2 (List.map TChain.en l4_3.Chains)), iv l4_3.Mark]), (.o 7, [.data (.slc true none 2 (List.map TChain.en y0.Chains)), iv y0.Mark])]
theorem diwanref13_Write.lp4_ok (fu : Nat) (l4_0 : Int) (l4_1 : List TWrite) (l4_3 : TStore) : ∀ (n_ : Nat) (l4_2 : Int) (l4_4 : TStore) (r_ : TStore), diwanref13_Write.lp4 fu l4_0 l4_1 l4_3 n_ l4_2 l4_4 = some r_ → WK Try.prog diwanref13_Write.O (Ck Try.prog) (cB (cR (cL (cR (cR bd24))))) [] (ofL [(.t 1, [iv l4_0]), (.t 2, [.data (.slc false none 3 (List.map TWrite.en l4_1))]), (.t 6, [.ptr 6 0]), (.t 7, [.ptr 7 0]), (.t 8, [iv l4_2]), (.o 6, [.data (.slc true none 2 (List.map TChain.en l4_3.Chains)), iv l4_3.Mark]), (.o 7, [.data (.slc true none 2 (List.map TChain.en l4_4.Chains)), iv l4_4.Mark])]) (diwanref13_Write.lp4_post l4_0 l4_1 l4_3 r_) := by
  intro n_
  induction n_ with
  | zero => intro l4_2 l4_4 r_ h; exact no_none h
  | succ n_ ih =>
    intro l4_2 l4_4 r_ h
    refine WK.loop (by kernel_rfl) ?_
    refine WK.seq (by kernel_rfl) ?_
    refine WK.rs (g := [.s (.t 20) [iv (l4_1.length : Int)]]) (l' := [(.t 1, [iv l4_0]), (.t 2, [.data (.slc false none 3 (List.map TWrite.en l4_1))]), (.t 6, [.ptr 6 0]), (.t 7, [.ptr 7 0]), (.t 8, [iv l4_2]), (.t 21, [bv (decide (l4_2 < (l4_1.length : Int)))]), (.o 6, [.data (.slc true none 2 (List.map TChain.en l4_3.Chains)), iv l4_3.Mark]), (.o 7, [.data (.slc true none 2 (List.map TChain.en l4_4.Chains)), iv l4_4.Mark])]) (by kernel_rfl) (.cons (c_len (e := TWrite.en) (l := l4_1)) .nil) (by kernel_rfl) ?_
    rcases br_inv h with ⟨b6_0, h⟩ | ⟨b6_0, h⟩
    · refine WK.ct (b := (decide (l4_2 < (l4_1.length : Int)))) (by kernel_rfl) b6_0 ?_
      refine WK.skip (by kernel_rfl) ?_
      refine WKe.code (y := (cR (cB (cB (cR (cL (cR (cR bd24)))))))) (ks' := [.lp (cB (cR (cL (cR (cR bd24)))))]) (by kernel_rfl) ?_
      refine WK.seq (by kernel_rfl) ?_
      refine WK.block (n := 1) (by kernel_rfl) ?_
      obtain ⟨x7_1, a7_2, e7_3, h⟩ := ix_inv h
      refine WK.rs (g := [.c (TWrite.en x7_1)]) (l' := [(.t 1, [iv l4_0]), (.t 2, [.data (.slc false none 3 (List.map TWrite.en l4_1))]), (.t 6, [.ptr 6 0]), (.t 7, [.ptr 7 0]), (.t 8, [iv l4_2]), (.t 9, [.ptr 9 0]), (.o 6, [.data (.slc true none 2 (List.map TChain.en l4_3.Chains)), iv l4_3.Mark]), (.o 7, [.data (.slc true none 2 (List.map TChain.en l4_4.Chains)), iv l4_4.Mark]), (.o 9, (TWrite.ob x7_1))]) (by kernel_rfl) (.cons (c_ix (e := TWrite.en) a7_2 e7_3) (.cons (c_el (e := TWrite.en) e7_3) .nil)) (by kernel_rfl) ?_
      refine WK.rs (g := []) (l' := [(.t 1, [iv l4_0]), (.t 2, [.data (.slc false none 3 (List.map TWrite.en l4_1))]), (.t 6, [.ptr 6 0]), (.t 7, [.ptr 7 0]), (.t 8, [iv l4_2]), (.t 9, [.ptr 9 0]), (.t 10, [iv 0]), (.o 6, [.data (.slc true none 2 (List.map TChain.en l4_3.Chains)), iv l4_3.Mark]), (.o 7, [.data (.slc true none 2 (List.map TChain.en l4_4.Chains)), iv l4_4.Mark]), (.o 9, (TWrite.ob x7_1))]) (by kernel_rfl) .nil (by kernel_rfl) ?_
      refine WK.seq (by kernel_rfl) ?_
      refine WK.block (n := 2) (by kernel_rfl) ?_
      obtain ⟨o13, ho13, h⟩ := bd_inv h
      refine WK.weak (l := [(.t 1, [iv l4_0]), (.t 2, [.data (.slc false none 3 (List.map TWrite.en l4_1))]), (.t 6, [.ptr 6 0]), (.t 7, [.ptr 7 0]), (.t 8, [iv l4_2]), (.t 9, [.ptr 9 0]), (.t 10, [iv 0]), (.o 6, [.data (.slc true none 2 (List.map TChain.en l4_3.Chains)), iv l4_3.Mark]), (.o 7, [.data (.slc true none 2 (List.map TChain.en l4_4.Chains)), iv l4_4.Mark]), (.o 9, (TWrite.ob x7_1))]) (wk_of (by kernel_rfl)) ?_
      refine WK.use (diwanref13_Write.lp9_ok fu l4_0 l4_1 l4_2 l4_3 l4_4 x7_1 _ 0 _ ho13) ?_
      intro e_ τ_ hp_
      obtain ⟨y13_0, rfl⟩ : ∃ y, y = o13 := ⟨_, rfl⟩
      obtain ⟨rfl, rfl⟩ := hp_
      refine WKe.code (y := (cR (cR (cR (cB (cL (cR (cB (cB (cR (cL (cR (cR bd24))))))))))))) (ks' := [.blk 1, .seq (cR (cR (cB (cB (cR (cL (cR (cR bd24)))))))), .lp (cB (cR (cL (cR (cR bd24)))))]) (by kernel_rfl) ?_
      obtain ⟨k24, hk24, h⟩ := jn_inv h
      have Jk24 : ∀ (j24_5 : TStore), k24 j24_5 = some r_ → WK Try.prog diwanref13_Write.O (Ck Try.prog) (cR (cR (cR (cR (cB (cL (cR (cB (cB (cR (cL (cR (cR bd24))))))))))))) [.blk 1, .seq (cR (cR (cB (cB (cR (cL (cR (cR bd24)))))))), .lp (cB (cR (cL (cR (cR bd24)))))] (ofL [(.t 1, [iv l4_0]), (.t 2, [.data (.slc false none 3 (List.map TWrite.en l4_1))]), (.t 6, [.ptr 6 0]), (.t 7, [.ptr 7 0]), (.t 8, [iv l4_2]), (.t 9, [.ptr 9 0]), (.t 10, [iv y13_0]), (.o 6, [.data (.slc true none 2 (List.map TChain.en l4_3.Chains)), iv l4_3.Mark]), (.o 7, [.data (.slc true none 2 (List.map TChain.en j24_5.Chains)), iv j24_5.Mark]), (.o 9, (TWrite.ob x7_1))]) (diwanref13_Write.lp4_post l4_0 l4_1 l4_3 r_) := by
        intro j24_5 h
        rw [hk24] at h
        obtain ⟨x25_1, a25_2, e25_3, h⟩ := ix_inv h
        obtain ⟨r25_4, h25_5, h⟩ := bd_inv h
        obtain ⟨x25_6, a25_7, e25_8, h⟩ := ix_inv h
        refine WK.rc (g := [.c (TChain.en x25_1), .a ⟨.data (.slc true none 3 (List.map TVersion.en r25_4)), []⟩, .c (TChain.en x25_6), .s (.o 7) [.data (.slc true none 2 (List.map TChain.en (j24_5.Chains.set y13_0.toNat (TChain.mk x25_6.Key r25_4)))), iv j24_5.Mark]]) (l' := [(.t 1, [iv l4_0]), (.t 2, [.data (.slc false none 3 (List.map TWrite.en l4_1))]), (.t 6, [.ptr 6 0]), (.t 7, [.ptr 7 0]), (.t 8, [iv l4_2]), (.o 6, [.data (.slc true none 2 (List.map TChain.en l4_3.Chains)), iv l4_3.Mark]), (.o 7, [.data (.slc true none 2 (List.map TChain.en (j24_5.Chains.set y13_0.toNat (TChain.mk x25_6.Key r25_4)))), iv j24_5.Mark])]) (.cons (c_ix (e := TChain.en) a25_2 e25_3) (.cons (c_el (e := TChain.en) e25_3) (.cons (Asks.of (C := Meets Try.prog) (diwanref13_Add.meets x25_1.L (TVersion.mk l4_0 x7_1.Val x7_1.Gone) _ h25_5)) (.cons (c_ix (e := TChain.en) a25_7 e25_8) (.cons (c_el (e := TChain.en) e25_8) (.cons (congrArg (fun d : DV => [AV.data d, iv j24_5.Mark]) (c_set (e := TChain.en) (s := 2) (nl := none) (l := j24_5.Chains) (i := y13_0.toNat) (x := (TChain.mk x25_6.Key r25_4)))) (.cons (Eq.refl true) .nil))))))) (by kernel_rfl) (y := (cR (cR (cB (cB (cR (cL (cR (cR bd24))))))))) (ks' := [.lp (cB (cR (cL (cR (cR bd24)))))]) (by kernel_rfl) ?_
        refine WK.rc (g := []) (l' := [(.t 1, [iv l4_0]), (.t 2, [.data (.slc false none 3 (List.map TWrite.en l4_1))]), (.t 6, [.ptr 6 0]), (.t 7, [.ptr 7 0]), (.t 8, [iv (w64 (l4_2 + 1))]), (.o 6, [.data (.slc true none 2 (List.map TChain.en l4_3.Chains)), iv l4_3.Mark]), (.o 7, [.data (.slc true none 2 (List.map TChain.en (j24_5.Chains.set y13_0.toNat (TChain.mk x25_6.Key r25_4)))), iv j24_5.Mark])]) .nil (by kernel_rfl) (y := (cB (cR (cL (cR (cR bd24)))))) (ks' := []) (by kernel_rfl) ?_
        exact WK.weak (l := [(.t 1, [iv l4_0]), (.t 2, [.data (.slc false none 3 (List.map TWrite.en l4_1))]), (.t 6, [.ptr 6 0]), (.t 7, [.ptr 7 0]), (.t 8, [iv (w64 (l4_2 + 1))]), (.o 6, [.data (.slc true none 2 (List.map TChain.en l4_3.Chains)), iv l4_3.Mark]), (.o 7, [.data (.slc true none 2 (List.map TChain.en (j24_5.Chains.set y13_0.toNat (TChain.mk x25_6.Key r25_4)))), iv j24_5.Mark])]) (wk_of (by kernel_rfl)) (ih (w64 (l4_2 + 1)) (TStore.mk (j24_5.Chains.set y13_0.toNat (TChain.mk x25_6.Key r25_4)) j24_5.Mark) _ h)
      clear hk24
      refine WK.seq (by kernel_rfl) ?_
      rcases br_inv h with ⟨b14_1, h⟩ | ⟨b14_1, h⟩
      · refine WK.rs (g := [.s (.t 49) [iv (l4_4.Chains.length : Int)], .b true, .b true, .b true, .b true, .b true, .b true, .b true, .b true, .b true, .b true]) (l' := [(.t 1, [iv l4_0]), (.t 2, [.data (.slc false none 3 (List.map TWrite.en l4_1))]), (.t 6, [.ptr 6 0]), (.t 7, [.ptr 7 0]), (.t 8, [iv l4_2]), (.t 9, [.ptr 9 0]), (.t 10, [iv y13_0]), (.t 61, [bv true]), (.o 6, [.data (.slc true none 2 (List.map TChain.en l4_3.Chains)), iv l4_3.Mark]), (.o 7, [.data (.slc true none 2 (List.map TChain.en l4_4.Chains)), iv l4_4.Mark]), (.o 9, (TWrite.ob x7_1))]) (by kernel_rfl) (.cons (c_len (e := TChain.en) (l := l4_4.Chains)) (.cons b14_1 (.cons b14_1 (.cons b14_1 (.cons b14_1 (.cons b14_1 (.cons b14_1 (.cons b14_1 (.cons b14_1 (.cons b14_1 (.cons b14_1 (.cons (Eq.refl true) .nil)))))))))))) (by kernel_rfl) ?_
        refine WK.ct (b := true) (by kernel_rfl) rfl ?_
        refine WK.seq (by kernel_rfl) ?_
        refine WK.rs (g := []) (l' := [(.t 1, [iv l4_0]), (.t 2, [.data (.slc false none 3 (List.map TWrite.en l4_1))]), (.t 6, [.ptr 6 0]), (.t 7, [.ptr 7 0]), (.t 8, [iv l4_2]), (.t 9, [.ptr 9 0]), (.t 10, [iv y13_0]), (.t 63, [bv (decide (l4_0 < 1))]), (.o 6, [.data (.slc true none 2 (List.map TChain.en l4_3.Chains)), iv l4_3.Mark]), (.o 7, [.data (.slc true none 2 (List.map TChain.en l4_4.Chains)), iv l4_4.Mark]), (.o 9, (TWrite.ob x7_1))]) (by kernel_rfl) .nil (by kernel_rfl) ?_
        rcases br_inv h with ⟨b16_0, h⟩ | ⟨b16_0, h⟩
        · refine WK.ct (b := (decide (l4_0 < 1))) (by kernel_rfl) b16_0 ?_
          refine WK.exit (n := 1) (by kernel_rfl) ?_
          refine WKe.code (y := (cR (cR (cB (cB (cR (cL (cR (cR bd24))))))))) (ks' := [.lp (cB (cR (cL (cR (cR bd24)))))]) (by kernel_rfl) ?_
          refine WK.rc (g := []) (l' := [(.t 1, [iv l4_0]), (.t 2, [.data (.slc false none 3 (List.map TWrite.en l4_1))]), (.t 6, [.ptr 6 0]), (.t 7, [.ptr 7 0]), (.t 8, [iv (w64 (l4_2 + 1))]), (.o 6, [.data (.slc true none 2 (List.map TChain.en l4_3.Chains)), iv l4_3.Mark]), (.o 7, [.data (.slc true none 2 (List.map TChain.en l4_4.Chains)), iv l4_4.Mark])]) .nil (by kernel_rfl) (y := (cB (cR (cL (cR (cR bd24)))))) (ks' := []) (by kernel_rfl) ?_
          exact WK.weak (l := [(.t 1, [iv l4_0]), (.t 2, [.data (.slc false none 3 (List.map TWrite.en l4_1))]), (.t 6, [.ptr 6 0]), (.t 7, [.ptr 7 0]), (.t 8, [iv (w64 (l4_2 + 1))]), (.o 6, [.data (.slc true none 2 (List.map TChain.en l4_3.Chains)), iv l4_3.Mark]), (.o 7, [.data (.slc true none 2 (List.map TChain.en l4_4.Chains)), iv l4_4.Mark])]) (wk_of (by kernel_rfl)) (ih (w64 (l4_2 + 1)) l4_4 _ h)
        · refine WK.ce (b := (decide (l4_0 < 1))) (by kernel_rfl) b16_0 ?_
          refine WK.skip (by kernel_rfl) ?_
          refine WKe.code (y := (cR (cT (cR (cL (cR (cR (cR (cB (cL (cR (cB (cB (cR (cL (cR (cR bd24))))))))))))))))) (ks' := [.seq (cR (cR (cR (cR (cB (cL (cR (cB (cB (cR (cL (cR (cR bd24))))))))))))), .blk 1, .seq (cR (cR (cB (cB (cR (cL (cR (cR bd24)))))))), .lp (cB (cR (cL (cR (cR bd24)))))]) (by kernel_rfl) ?_
          refine WK.shareO (i := 7) (cc := 0) (l' := [(.t 1, [iv l4_0]), (.t 2, [.data (.slc false none 3 (List.map TWrite.en l4_1))]), (.t 6, [.ptr 6 0]), (.t 7, [.ptr 7 0]), (.t 8, [iv l4_2]), (.t 9, [.ptr 9 0]), (.t 10, [iv y13_0]), (.o 6, [.data (.slc true none 2 (List.map TChain.en l4_3.Chains)), iv l4_3.Mark]), (.o 7, [.data (.slc false none 2 (List.map TChain.en l4_4.Chains)), iv l4_4.Mark]), (.o 9, (TWrite.ob x7_1))]) (by kernel_rfl) (by kernel_rfl) (by kernel_rfl) ?_
          obtain ⟨c18_1, h⟩ := gd_inv h
          obtain ⟨c18_2, h⟩ := gd_inv h
          obtain ⟨c18_3, h⟩ := gd_inv h
          obtain ⟨c18_4, h⟩ := gd_inv h
          obtain ⟨c18_5, h⟩ := gd_inv h
          refine WK.rc (g := [.s (.t 68) [.data (.slc false none 2 (List.map TChain.en (List.take y13_0.toNat l4_4.Chains)))], .s (.t 74) [.data (.slc true none 2 (List.map TChain.en ((List.take y13_0.toNat l4_4.Chains) ++ ([(TChain.mk x7_1.Key [])] : List TChain))))], .s (.t 78) [.data (.slc false none 2 (List.map TChain.en (List.drop y13_0.toNat l4_4.Chains)))], .s (.t 79) [.data (.slc true none 2 (List.map TChain.en (((List.take y13_0.toNat l4_4.Chains) ++ ([(TChain.mk x7_1.Key [])] : List TChain)) ++ (List.drop y13_0.toNat l4_4.Chains))))]]) (l' := [(.t 1, [iv l4_0]), (.t 2, [.data (.slc false none 3 (List.map TWrite.en l4_1))]), (.t 6, [.ptr 6 0]), (.t 7, [.ptr 7 0]), (.t 8, [iv l4_2]), (.t 9, [.ptr 9 0]), (.t 10, [iv y13_0]), (.o 6, [.data (.slc true none 2 (List.map TChain.en l4_3.Chains)), iv l4_3.Mark]), (.o 7, [.data (.slc true none 2 (List.map TChain.en (((List.take y13_0.toNat l4_4.Chains) ++ ([(TChain.mk x7_1.Key [])] : List TChain)) ++ (List.drop y13_0.toNat l4_4.Chains)))), iv l4_4.Mark]), (.o 9, (TWrite.ob x7_1))]) (.cons (c_cbH (e := TChain.en) c18_1) (.cons (congrArg (fun d : DV => [AV.data d]) (c_cutH (own := false) (nl := none) (s := 2) (e := TChain.en) (l := l4_4.Chains) (h := y13_0.toNat))) (.cons (c_al (e := TChain.en) (f := TChain.en) c18_2) (.cons (c_al (e := TChain.en) (f := TChain.en) c18_3) (.cons (congrArg (fun d : DV => [AV.data d]) (c_app (e := TChain.en) (s := 2) (l := (List.take y13_0.toNat l4_4.Chains)) (m := ([(TChain.mk x7_1.Key [])] : List TChain)))) (.cons (c_cbL (e := TChain.en) c18_4) (.cons (congrArg (fun d : DV => [AV.data d]) (c_cutL (own := false) (nl := none) (s := 2) (e := TChain.en) (l := l4_4.Chains) (lo := y13_0.toNat))) (.cons (c_al (e := TChain.en) (f := TChain.en) c18_5) (.cons (congrArg (fun d : DV => [AV.data d]) (c_app (e := TChain.en) (s := 2) (l := ((List.take y13_0.toNat l4_4.Chains) ++ ([(TChain.mk x7_1.Key [])] : List TChain))) (m := (List.drop y13_0.toNat l4_4.Chains)))) (.cons (Eq.refl true) .nil)))))))))) (by kernel_rfl) (y := (cR (cR (cR (cR (cB (cL (cR (cB (cB (cR (cL (cR (cR bd24)))))))))))))) (ks' := [.blk 1, .seq (cR (cR (cB (cB (cR (cL (cR (cR bd24)))))))), .lp (cB (cR (cL (cR (cR bd24)))))]) (by kernel_rfl) ?_
          exact WK.weak (l := [(.t 1, [iv l4_0]), (.t 2, [.data (.slc false none 3 (List.map TWrite.en l4_1))]), (.t 6, [.ptr 6 0]), (.t 7, [.ptr 7 0]), (.t 8, [iv l4_2]), (.t 9, [.ptr 9 0]), (.t 10, [iv y13_0]), (.o 6, [.data (.slc true none 2 (List.map TChain.en l4_3.Chains)), iv l4_3.Mark]), (.o 7, [.data (.slc true none 2 (List.map TChain.en (((List.take y13_0.toNat l4_4.Chains) ++ ([(TChain.mk x7_1.Key [])] : List TChain)) ++ (List.drop y13_0.toNat l4_4.Chains)))), iv l4_4.Mark]), (.o 9, (TWrite.ob x7_1))]) (wk_of (by kernel_rfl)) (Jk24 (TStore.mk (((List.take y13_0.toNat l4_4.Chains) ++ ([(TChain.mk x7_1.Key [])] : List TChain)) ++ (List.drop y13_0.toNat l4_4.Chains)) l4_4.Mark) h)
      · obtain ⟨x14_2, a14_3, e14_4, h⟩ := ix_inv h
        refine WK.rs (g := [.s (.t 49) [iv (l4_4.Chains.length : Int)], .b false, .b false, .b false, .b false, .b false, .b false, .c (TChain.en x14_2), .b false, .b false, .b false, .b false]) (l' := [(.t 1, [iv l4_0]), (.t 2, [.data (.slc false none 3 (List.map TWrite.en l4_1))]), (.t 6, [.ptr 6 0]), (.t 7, [.ptr 7 0]), (.t 8, [iv l4_2]), (.t 9, [.ptr 9 0]), (.t 10, [iv y13_0]), (.t 61, [bv (!(x14_2.Key.toList == x7_1.Key.toList))]), (.o 6, [.data (.slc true none 2 (List.map TChain.en l4_3.Chains)), iv l4_3.Mark]), (.o 7, [.data (.slc true none 2 (List.map TChain.en l4_4.Chains)), iv l4_4.Mark]), (.o 9, (TWrite.ob x7_1))]) (by kernel_rfl) (.cons (c_len (e := TChain.en) (l := l4_4.Chains)) (.cons b14_1 (.cons b14_1 (.cons b14_1 (.cons b14_1 (.cons (c_ix (e := TChain.en) a14_3 e14_4) (.cons b14_1 (.cons b14_1 (.cons (c_el (e := TChain.en) e14_4) (.cons b14_1 (.cons b14_1 (.cons b14_1 (.cons b14_1 (.cons (Eq.refl true) .nil)))))))))))))) (by kernel_rfl) ?_
        rcases br_inv h with ⟨b19_0, h⟩ | ⟨b19_0, h⟩
        · refine WK.ct (b := (!(x14_2.Key.toList == x7_1.Key.toList))) (by kernel_rfl) b19_0 ?_
          refine WK.seq (by kernel_rfl) ?_
          refine WK.rs (g := []) (l' := [(.t 1, [iv l4_0]), (.t 2, [.data (.slc false none 3 (List.map TWrite.en l4_1))]), (.t 6, [.ptr 6 0]), (.t 7, [.ptr 7 0]), (.t 8, [iv l4_2]), (.t 9, [.ptr 9 0]), (.t 10, [iv y13_0]), (.t 63, [bv (decide (l4_0 < 1))]), (.o 6, [.data (.slc true none 2 (List.map TChain.en l4_3.Chains)), iv l4_3.Mark]), (.o 7, [.data (.slc true none 2 (List.map TChain.en l4_4.Chains)), iv l4_4.Mark]), (.o 9, (TWrite.ob x7_1))]) (by kernel_rfl) .nil (by kernel_rfl) ?_
          rcases br_inv h with ⟨b21_0, h⟩ | ⟨b21_0, h⟩
          · refine WK.ct (b := (decide (l4_0 < 1))) (by kernel_rfl) b21_0 ?_
            refine WK.exit (n := 1) (by kernel_rfl) ?_
            refine WKe.code (y := (cR (cR (cB (cB (cR (cL (cR (cR bd24))))))))) (ks' := [.lp (cB (cR (cL (cR (cR bd24)))))]) (by kernel_rfl) ?_
            refine WK.rc (g := []) (l' := [(.t 1, [iv l4_0]), (.t 2, [.data (.slc false none 3 (List.map TWrite.en l4_1))]), (.t 6, [.ptr 6 0]), (.t 7, [.ptr 7 0]), (.t 8, [iv (w64 (l4_2 + 1))]), (.o 6, [.data (.slc true none 2 (List.map TChain.en l4_3.Chains)), iv l4_3.Mark]), (.o 7, [.data (.slc true none 2 (List.map TChain.en l4_4.Chains)), iv l4_4.Mark])]) .nil (by kernel_rfl) (y := (cB (cR (cL (cR (cR bd24)))))) (ks' := []) (by kernel_rfl) ?_
            exact WK.weak (l := [(.t 1, [iv l4_0]), (.t 2, [.data (.slc false none 3 (List.map TWrite.en l4_1))]), (.t 6, [.ptr 6 0]), (.t 7, [.ptr 7 0]), (.t 8, [iv (w64 (l4_2 + 1))]), (.o 6, [.data (.slc true none 2 (List.map TChain.en l4_3.Chains)), iv l4_3.Mark]), (.o 7, [.data (.slc true none 2 (List.map TChain.en l4_4.Chains)), iv l4_4.Mark])]) (wk_of (by kernel_rfl)) (ih (w64 (l4_2 + 1)) l4_4 _ h)
          · refine WK.ce (b := (decide (l4_0 < 1))) (by kernel_rfl) b21_0 ?_
            refine WK.skip (by kernel_rfl) ?_
            refine WKe.code (y := (cR (cT (cR (cL (cR (cR (cR (cB (cL (cR (cB (cB (cR (cL (cR (cR bd24))))))))))))))))) (ks' := [.seq (cR (cR (cR (cR (cB (cL (cR (cB (cB (cR (cL (cR (cR bd24))))))))))))), .blk 1, .seq (cR (cR (cB (cB (cR (cL (cR (cR bd24)))))))), .lp (cB (cR (cL (cR (cR bd24)))))]) (by kernel_rfl) ?_
            refine WK.shareO (i := 7) (cc := 0) (l' := [(.t 1, [iv l4_0]), (.t 2, [.data (.slc false none 3 (List.map TWrite.en l4_1))]), (.t 6, [.ptr 6 0]), (.t 7, [.ptr 7 0]), (.t 8, [iv l4_2]), (.t 9, [.ptr 9 0]), (.t 10, [iv y13_0]), (.o 6, [.data (.slc true none 2 (List.map TChain.en l4_3.Chains)), iv l4_3.Mark]), (.o 7, [.data (.slc false none 2 (List.map TChain.en l4_4.Chains)), iv l4_4.Mark]), (.o 9, (TWrite.ob x7_1))]) (by kernel_rfl) (by kernel_rfl) (by kernel_rfl) ?_
            obtain ⟨c23_1, h⟩ := gd_inv h
            obtain ⟨c23_2, h⟩ := gd_inv h
            obtain ⟨c23_3, h⟩ := gd_inv h
            obtain ⟨c23_4, h⟩ := gd_inv h
            obtain ⟨c23_5, h⟩ := gd_inv h
            refine WK.rc (g := [.s (.t 68) [.data (.slc false none 2 (List.map TChain.en (List.take y13_0.toNat l4_4.Chains)))], .s (.t 74) [.data (.slc true none 2 (List.map TChain.en ((List.take y13_0.toNat l4_4.Chains) ++ ([(TChain.mk x7_1.Key [])] : List TChain))))], .s (.t 78) [.data (.slc false none 2 (List.map TChain.en (List.drop y13_0.toNat l4_4.Chains)))], .s (.t 79) [.data (.slc true none 2 (List.map TChain.en (((List.take y13_0.toNat l4_4.Chains) ++ ([(TChain.mk x7_1.Key [])] : List TChain)) ++ (List.drop y13_0.toNat l4_4.Chains))))]]) (l' := [(.t 1, [iv l4_0]), (.t 2, [.data (.slc false none 3 (List.map TWrite.en l4_1))]), (.t 6, [.ptr 6 0]), (.t 7, [.ptr 7 0]), (.t 8, [iv l4_2]), (.t 9, [.ptr 9 0]), (.t 10, [iv y13_0]), (.o 6, [.data (.slc true none 2 (List.map TChain.en l4_3.Chains)), iv l4_3.Mark]), (.o 7, [.data (.slc true none 2 (List.map TChain.en (((List.take y13_0.toNat l4_4.Chains) ++ ([(TChain.mk x7_1.Key [])] : List TChain)) ++ (List.drop y13_0.toNat l4_4.Chains)))), iv l4_4.Mark]), (.o 9, (TWrite.ob x7_1))]) (.cons (c_cbH (e := TChain.en) c23_1) (.cons (congrArg (fun d : DV => [AV.data d]) (c_cutH (own := false) (nl := none) (s := 2) (e := TChain.en) (l := l4_4.Chains) (h := y13_0.toNat))) (.cons (c_al (e := TChain.en) (f := TChain.en) c23_2) (.cons (c_al (e := TChain.en) (f := TChain.en) c23_3) (.cons (congrArg (fun d : DV => [AV.data d]) (c_app (e := TChain.en) (s := 2) (l := (List.take y13_0.toNat l4_4.Chains)) (m := ([(TChain.mk x7_1.Key [])] : List TChain)))) (.cons (c_cbL (e := TChain.en) c23_4) (.cons (congrArg (fun d : DV => [AV.data d]) (c_cutL (own := false) (nl := none) (s := 2) (e := TChain.en) (l := l4_4.Chains) (lo := y13_0.toNat))) (.cons (c_al (e := TChain.en) (f := TChain.en) c23_5) (.cons (congrArg (fun d : DV => [AV.data d]) (c_app (e := TChain.en) (s := 2) (l := ((List.take y13_0.toNat l4_4.Chains) ++ ([(TChain.mk x7_1.Key [])] : List TChain))) (m := (List.drop y13_0.toNat l4_4.Chains)))) (.cons (Eq.refl true) .nil)))))))))) (by kernel_rfl) (y := (cR (cR (cR (cR (cB (cL (cR (cB (cB (cR (cL (cR (cR bd24)))))))))))))) (ks' := [.blk 1, .seq (cR (cR (cB (cB (cR (cL (cR (cR bd24)))))))), .lp (cB (cR (cL (cR (cR bd24)))))]) (by kernel_rfl) ?_
            exact WK.weak (l := [(.t 1, [iv l4_0]), (.t 2, [.data (.slc false none 3 (List.map TWrite.en l4_1))]), (.t 6, [.ptr 6 0]), (.t 7, [.ptr 7 0]), (.t 8, [iv l4_2]), (.t 9, [.ptr 9 0]), (.t 10, [iv y13_0]), (.o 6, [.data (.slc true none 2 (List.map TChain.en l4_3.Chains)), iv l4_3.Mark]), (.o 7, [.data (.slc true none 2 (List.map TChain.en (((List.take y13_0.toNat l4_4.Chains) ++ ([(TChain.mk x7_1.Key [])] : List TChain)) ++ (List.drop y13_0.toNat l4_4.Chains)))), iv l4_4.Mark]), (.o 9, (TWrite.ob x7_1))]) (wk_of (by kernel_rfl)) (Jk24 (TStore.mk (((List.take y13_0.toNat l4_4.Chains) ++ ([(TChain.mk x7_1.Key [])] : List TChain)) ++ (List.drop y13_0.toNat l4_4.Chains)) l4_4.Mark) h)
        · refine WK.ce (b := (!(x14_2.Key.toList == x7_1.Key.toList))) (by kernel_rfl) b19_0 ?_
          refine WK.skip (by kernel_rfl) ?_
          refine WKe.code (y := (cR (cR (cR (cR (cB (cL (cR (cB (cB (cR (cL (cR (cR bd24)))))))))))))) (ks' := [.blk 1, .seq (cR (cR (cB (cB (cR (cL (cR (cR bd24)))))))), .lp (cB (cR (cL (cR (cR bd24)))))]) (by kernel_rfl) ?_
          exact WK.weak (l := [(.t 1, [iv l4_0]), (.t 2, [.data (.slc false none 3 (List.map TWrite.en l4_1))]), (.t 6, [.ptr 6 0]), (.t 7, [.ptr 7 0]), (.t 8, [iv l4_2]), (.t 9, [.ptr 9 0]), (.t 10, [iv y13_0]), (.o 6, [.data (.slc true none 2 (List.map TChain.en l4_3.Chains)), iv l4_3.Mark]), (.o 7, [.data (.slc true none 2 (List.map TChain.en l4_4.Chains)), iv l4_4.Mark]), (.o 9, (TWrite.ob x7_1))]) (wk_of (by kernel_rfl)) (Jk24 l4_4 h)
    · refine WK.ce (b := (decide (l4_2 < (l4_1.length : Int)))) (by kernel_rfl) b6_0 ?_
      refine WK.weak (l := [(.t 6, [.ptr 6 0]), (.t 7, [.ptr 7 0]), (.o 6, [.data (.slc true none 2 (List.map TChain.en l4_3.Chains)), iv l4_3.Mark]), (.o 7, [.data (.slc true none 2 (List.map TChain.en l4_4.Chains)), iv l4_4.Mark])]) (wk_of (by kernel_rfl)) ?_
      refine WK.exit (n := 0) (by kernel_rfl) ?_
      cases some_inj h
      exact WKe.fin (e' := .exit 0) (by kernel_rfl) ⟨rfl, rfl⟩
noncomputable def diwanref13_Write (fu : Nat) (s : TStore) (pos : Int) (l : List TWrite) : Option TStore :=
  gd (decide (([] : List TChain).length + s.Chains.length ≤ 4294967296)) <|
  bd (diwanref13_Write.lp4 fu pos l (TStore.mk [] 0) fu 0 s) fun y27_0 =>
  some y27_0
theorem diwanref13_Write.meets (fu : Nat) (s : TStore) (pos : Int) (l : List TWrite) (z0 : TStore) (h : diwanref13_Write fu s pos l = some z0) : Meets Try.prog ⟨24, [.data (.agg [.slc false none 2 (List.map TChain.en s.Chains), .val (.int .i64 s.Mark)]), iv pos, .data (.slc false none 3 (List.map TWrite.en l))], []⟩ ⟨.data (.agg [.slc true none 2 (List.map TChain.en z0.Chains), .val (.int .i64 z0.Mark)]), []⟩ := by
  refine meets_of (O := diwanref13_Write.O) hmix (fn := Try.f24) (code := bd24) (by kernel_rfl) ?_
  refine WK.weak (l := [(.t 0, [.data (.agg [.slc false none 2 (List.map TChain.en s.Chains), .val (.int .i64 s.Mark)])]), (.t 1, [iv pos]), (.t 2, [.data (.slc false none 3 (List.map TWrite.en l))])]) (wk_of (by kernel_rfl)) ?_
  unfold diwanref13_Write at h
  refine WK.rs (g := []) (l' := [(.t 1, [iv pos]), (.t 2, [.data (.slc false none 3 (List.map TWrite.en l))]), (.t 3, [.ptr 3 0]), (.t 6, [.ptr 6 0]), (.o 3, [.data (.slc false none 2 (List.map TChain.en s.Chains)), iv s.Mark]), (.o 6, [.data (.slc true none 2 (List.map TChain.en [])), iv 0])]) (by kernel_rfl) .nil (by kernel_rfl) ?_
  obtain ⟨c2_1, h⟩ := gd_inv h
  refine WK.rs (g := []) (l' := [(.t 1, [iv pos]), (.t 2, [.data (.slc false none 3 (List.map TWrite.en l))]), (.t 6, [.ptr 6 0]), (.t 7, [.ptr 7 0]), (.o 6, [.data (.slc true none 2 (List.map TChain.en [])), iv 0]), (.o 7, [.data (.slc true none 2 (List.map TChain.en s.Chains)), iv s.Mark])]) (by kernel_rfl) (.cons (c_al (e := TChain.en) (f := TChain.en) c2_1) (.cons (Eq.refl true) .nil)) (by kernel_rfl) ?_
  refine WK.seq (by kernel_rfl) ?_
  refine WK.rs (g := []) (l' := [(.t 1, [iv pos]), (.t 2, [.data (.slc false none 3 (List.map TWrite.en l))]), (.t 6, [.ptr 6 0]), (.t 7, [.ptr 7 0]), (.t 8, [iv 0]), (.o 6, [.data (.slc true none 2 (List.map TChain.en [])), iv 0]), (.o 7, [.data (.slc true none 2 (List.map TChain.en s.Chains)), iv s.Mark])]) (by kernel_rfl) .nil (by kernel_rfl) ?_
  refine WK.block (n := 0) (by kernel_rfl) ?_
  obtain ⟨o27, ho27, h⟩ := bd_inv h
  refine WK.weak (l := [(.t 1, [iv pos]), (.t 2, [.data (.slc false none 3 (List.map TWrite.en l))]), (.t 6, [.ptr 6 0]), (.t 7, [.ptr 7 0]), (.t 8, [iv 0]), (.o 6, [.data (.slc true none 2 (List.map TChain.en [])), iv 0]), (.o 7, [.data (.slc true none 2 (List.map TChain.en s.Chains)), iv s.Mark])]) (wk_of (by kernel_rfl)) ?_
  refine WK.use (diwanref13_Write.lp4_ok fu pos l (TStore.mk [] 0) _ 0 s _ ho27) ?_
  intro e_ τ_ hp_
  obtain ⟨y27_0, rfl⟩ : ∃ y, y = o27 := ⟨_, rfl⟩
  obtain ⟨rfl, rfl⟩ := hp_
  refine WKe.code (y := (cR (cR (cR bd24)))) (ks' := []) (by kernel_rfl) ?_
  refine WK.rs (g := []) (l' := [(.t 6, [.ptr 6 0]), (.o 6, [.data (.slc true none 2 (List.map TChain.en y27_0.Chains)), iv y27_0.Mark])]) (by kernel_rfl) .nil (by kernel_rfl) ?_
  refine WK.weak (l := [(.t 6, [.ptr 6 0]), (.o 6, [.data (.slc true none 2 (List.map TChain.en y27_0.Chains)), iv y27_0.Mark])]) (wk_of (by kernel_rfl)) ?_
  refine WK.ret (by kernel_rfl) ?_
  have h_ := some_inj h
  subst h_
  exact WKe.fin (e' := .ret) (by kernel_rfl) (fin_of (g := []) (by first | exact .inl rfl | exact .inr rfl) .nil (by kernel_rfl))
/-- diwan/diwanref13.Fold -/
noncomputable def bd13 : Code := (Try.f13.body).getD .skip
def diwanref13_Fold.O : Nat → Nat := fun t => bif ([2, 3, 4, 5, 6, 7, 8, 9, 10, 11, 12, 13, 14, 72, 75, 78] : List Nat).any (Nat.beq t) then 1 else 0
noncomputable def diwanref13_Fold.lp18 (fu : Nat) (l18_0 : List TTxn) (l18_1 : List TSeat) (l18_2 : List Int) (l18_3 : Int) (l18_6 : TStore) (l18_7 : TStore) (l18_8 : TTxn) : Nat → Int → Int → Option Int
  | 0, _, _ => none
  | n_ + 1, l18_4, l18_5 =>
    br (decide (l18_5 < (l18_8.Reads.length : Int)))
      (br (l18_4 == 1)
        (ix l18_8.Reads l18_5 fun x21_1 =>
        bd (diwanref13_Last fu l18_7 x21_1.Key) fun r21_4 =>
        ix l18_8.Reads l18_5 fun x21_6 =>
        br (r21_4 != x21_6.Version)
          (diwanref13_Fold.lp18 fu l18_0 l18_1 l18_2 l18_3 l18_6 l18_7 l18_8 n_ 2 (w64 (l18_5 + 1)))
          (diwanref13_Fold.lp18 fu l18_0 l18_1 l18_2 l18_3 l18_6 l18_7 l18_8 n_ l18_4 (w64 (l18_5 + 1))))
        (some l18_4))
      (some l18_4)
noncomputable def diwanref13_Fold.lp18_post (l18_0 : List TTxn) (l18_1 : List TSeat) (l18_2 : List Int) (l18_3 : Int) (l18_6 : TStore) (l18_7 : TStore) (l18_8 : TTxn) (r_ : Int) : Wy → St → Prop := fun e τ => match r_ with
  | y0 => e = .exit 2 ∧ τ = ofL [(.t 0, [.data (.slc false none 4 (List.map TTxn.en l18_0))]), (.t 3, [.ptr 3 0]), (.t 5, [.ptr 5 0]), (.t 6, [.data (.slc false none 3 (List.map TSeat.en l18_1))]), (.t 7, [.data (.slc true none 1 (List.map e_i64 l18_2))]), (.t 8, [iv l18_3]), (.t 9, [.ptr 9 0]), (.t 12, [iv y0]), (.o 3, [.data (.slc true none 2 (List.map TChain.en l18_6.Chains)), iv l18_6.Mark]), (.o 5, [.data (.slc true none 2 (List.map TChain.en l18_7.Chains)), iv l18_7.Mark]), (.o 9, (TTxn.ob l18_8))]
theorem diwanref13_Fold.lp18_ok (fu : Nat) (l18_0 : List TTxn) (l18_1 : List TSeat) (l18_2 : List Int) (l18_3 : Int) (l18_6 : TStore) (l18_7 : TStore) (l18_8 : TTxn) : ∀ (n_ : Nat) (l18_4 : Int) (l18_5 : Int) (r_ : Int), diwanref13_Fold.lp18 fu l18_0 l18_1 l18_2 l18_3 l18_6 l18_7 l18_8 n_ l18_4 l18_5 = some r_ → WK Try.prog diwanref13_Fold.O (Ck Try.prog) (cB (cR (cL (cR (cR (cR (cR (cR (cB (cL (cR (cB (cB (cR (cL (cR (cR (cR (cR bd13))))))))))))))))))) [] (ofL [(.t 0, [.data (.slc false none 4 (List.map TTxn.en l18_0))]), (.t 3, [.ptr 3 0]), (.t 5, [.ptr 5 0]), (.t 6, [.data (.slc false none 3 (List.map TSeat.en l18_1))]), (.t 7, [.data (.slc true none 1 (List.map e_i64 l18_2))]), (.t 8, [iv l18_3]), (.t 9, [.ptr 9 0]), (.t 12, [iv l18_4]), (.t 13, [iv l18_5]), (.o 3, [.data (.slc true none 2 (List.map TChain.en l18_6.Chains)), iv l18_6.Mark]), (.o 5, [.data (.slc true none 2 (List.map TChain.en l18_7.Chains)), iv l18_7.Mark]), (.o 9, (TTxn.ob l18_8))]) (diwanref13_Fold.lp18_post l18_0 l18_1 l18_2 l18_3 l18_6 l18_7 l18_8 r_) := by
  intro n_
  induction n_ with
  | zero => intro l18_4 l18_5 r_ h; exact no_none h
  | succ n_ ih =>
    intro l18_4 l18_5 r_ h
    refine WK.loop (by kernel_rfl) ?_
    refine WK.seq (by kernel_rfl) ?_
    rcases br_inv h with ⟨b19_1, h⟩ | ⟨b19_1, h⟩
    · refine WK.rs (g := [.s (.t 42) [iv (l18_8.Reads.length : Int)], .b true, .b true, .b true]) (l' := [(.t 0, [.data (.slc false none 4 (List.map TTxn.en l18_0))]), (.t 3, [.ptr 3 0]), (.t 5, [.ptr 5 0]), (.t 6, [.data (.slc false none 3 (List.map TSeat.en l18_1))]), (.t 7, [.data (.slc true none 1 (List.map e_i64 l18_2))]), (.t 8, [iv l18_3]), (.t 9, [.ptr 9 0]), (.t 12, [iv l18_4]), (.t 13, [iv l18_5]), (.t 47, [bv (l18_4 == 1)]), (.o 3, [.data (.slc true none 2 (List.map TChain.en l18_6.Chains)), iv l18_6.Mark]), (.o 5, [.data (.slc true none 2 (List.map TChain.en l18_7.Chains)), iv l18_7.Mark]), (.o 9, (TTxn.ob l18_8))]) (by kernel_rfl) (.cons (c_len (e := TRead.en) (l := l18_8.Reads)) (.cons b19_1 (.cons b19_1 (.cons b19_1 .nil)))) (by kernel_rfl) ?_
      rcases br_inv h with ⟨b20_0, h⟩ | ⟨b20_0, h⟩
      · refine WK.ct (b := (l18_4 == 1)) (by kernel_rfl) b20_0 ?_
        refine WK.skip (by kernel_rfl) ?_
        refine WKe.code (y := (cR (cB (cB (cR (cL (cR (cR (cR (cR (cR (cB (cL (cR (cB (cB (cR (cL (cR (cR (cR (cR bd13)))))))))))))))))))))) (ks' := [.lp (cB (cR (cL (cR (cR (cR (cR (cR (cB (cL (cR (cB (cB (cR (cL (cR (cR (cR (cR bd13)))))))))))))))))))]) (by kernel_rfl) ?_
        refine WK.seq (by kernel_rfl) ?_
        refine WK.block (n := 3) (by kernel_rfl) ?_
        obtain ⟨x21_1, a21_2, e21_3, h⟩ := ix_inv h
        obtain ⟨r21_4, h21_5, h⟩ := bd_inv h
        obtain ⟨x21_6, a21_7, e21_8, h⟩ := ix_inv h
        refine WK.rs (g := [.c (TRead.en x21_1), .a ⟨iv r21_4, []⟩, .c (TRead.en x21_6)]) (l' := [(.t 0, [.data (.slc false none 4 (List.map TTxn.en l18_0))]), (.t 3, [.ptr 3 0]), (.t 5, [.ptr 5 0]), (.t 6, [.data (.slc false none 3 (List.map TSeat.en l18_1))]), (.t 7, [.data (.slc true none 1 (List.map e_i64 l18_2))]), (.t 8, [iv l18_3]), (.t 9, [.ptr 9 0]), (.t 12, [iv l18_4]), (.t 13, [iv l18_5]), (.t 64, [bv (r21_4 != x21_6.Version)]), (.o 3, [.data (.slc true none 2 (List.map TChain.en l18_6.Chains)), iv l18_6.Mark]), (.o 5, [.data (.slc true none 2 (List.map TChain.en l18_7.Chains)), iv l18_7.Mark]), (.o 9, (TTxn.ob l18_8))]) (by kernel_rfl) (.cons (c_ix (e := TRead.en) a21_2 e21_3) (.cons (c_el (e := TRead.en) e21_3) (.cons (Asks.of (C := Meets Try.prog) (diwanref13_Last.meets fu l18_7 x21_1.Key _ h21_5)) (.cons (c_ix (e := TRead.en) a21_7 e21_8) (.cons (c_el (e := TRead.en) e21_8) (.cons (Eq.refl true) .nil)))))) (by kernel_rfl) ?_
        rcases br_inv h with ⟨b22_0, h⟩ | ⟨b22_0, h⟩
        · refine WK.ct (b := (r21_4 != x21_6.Version)) (by kernel_rfl) b22_0 ?_
          refine WK.rc (g := []) (l' := [(.t 0, [.data (.slc false none 4 (List.map TTxn.en l18_0))]), (.t 3, [.ptr 3 0]), (.t 5, [.ptr 5 0]), (.t 6, [.data (.slc false none 3 (List.map TSeat.en l18_1))]), (.t 7, [.data (.slc true none 1 (List.map e_i64 l18_2))]), (.t 8, [iv l18_3]), (.t 9, [.ptr 9 0]), (.t 12, [iv 2]), (.t 13, [iv l18_5]), (.o 3, [.data (.slc true none 2 (List.map TChain.en l18_6.Chains)), iv l18_6.Mark]), (.o 5, [.data (.slc true none 2 (List.map TChain.en l18_7.Chains)), iv l18_7.Mark]), (.o 9, (TTxn.ob l18_8))]) .nil (by kernel_rfl) (y := (cR (cR (cB (cB (cR (cL (cR (cR (cR (cR (cR (cB (cL (cR (cB (cB (cR (cL (cR (cR (cR (cR bd13))))))))))))))))))))))) (ks' := [.lp (cB (cR (cL (cR (cR (cR (cR (cR (cB (cL (cR (cB (cB (cR (cL (cR (cR (cR (cR bd13)))))))))))))))))))]) (by kernel_rfl) ?_
          refine WK.rc (g := []) (l' := [(.t 0, [.data (.slc false none 4 (List.map TTxn.en l18_0))]), (.t 3, [.ptr 3 0]), (.t 5, [.ptr 5 0]), (.t 6, [.data (.slc false none 3 (List.map TSeat.en l18_1))]), (.t 7, [.data (.slc true none 1 (List.map e_i64 l18_2))]), (.t 8, [iv l18_3]), (.t 9, [.ptr 9 0]), (.t 12, [iv 2]), (.t 13, [iv (w64 (l18_5 + 1))]), (.o 3, [.data (.slc true none 2 (List.map TChain.en l18_6.Chains)), iv l18_6.Mark]), (.o 5, [.data (.slc true none 2 (List.map TChain.en l18_7.Chains)), iv l18_7.Mark]), (.o 9, (TTxn.ob l18_8))]) .nil (by kernel_rfl) (y := (cB (cR (cL (cR (cR (cR (cR (cR (cB (cL (cR (cB (cB (cR (cL (cR (cR (cR (cR bd13)))))))))))))))))))) (ks' := []) (by kernel_rfl) ?_
          exact WK.weak (l := [(.t 0, [.data (.slc false none 4 (List.map TTxn.en l18_0))]), (.t 3, [.ptr 3 0]), (.t 5, [.ptr 5 0]), (.t 6, [.data (.slc false none 3 (List.map TSeat.en l18_1))]), (.t 7, [.data (.slc true none 1 (List.map e_i64 l18_2))]), (.t 8, [iv l18_3]), (.t 9, [.ptr 9 0]), (.t 12, [iv 2]), (.t 13, [iv (w64 (l18_5 + 1))]), (.o 3, [.data (.slc true none 2 (List.map TChain.en l18_6.Chains)), iv l18_6.Mark]), (.o 5, [.data (.slc true none 2 (List.map TChain.en l18_7.Chains)), iv l18_7.Mark]), (.o 9, (TTxn.ob l18_8))]) (wk_of (by kernel_rfl)) (ih 2 (w64 (l18_5 + 1)) _ h)
        · refine WK.ce (b := (r21_4 != x21_6.Version)) (by kernel_rfl) b22_0 ?_
          refine WK.skip (by kernel_rfl) ?_
          refine WKe.code (y := (cR (cR (cB (cB (cR (cL (cR (cR (cR (cR (cR (cB (cL (cR (cB (cB (cR (cL (cR (cR (cR (cR bd13))))))))))))))))))))))) (ks' := [.lp (cB (cR (cL (cR (cR (cR (cR (cR (cB (cL (cR (cB (cB (cR (cL (cR (cR (cR (cR bd13)))))))))))))))))))]) (by kernel_rfl) ?_
          refine WK.rc (g := []) (l' := [(.t 0, [.data (.slc false none 4 (List.map TTxn.en l18_0))]), (.t 3, [.ptr 3 0]), (.t 5, [.ptr 5 0]), (.t 6, [.data (.slc false none 3 (List.map TSeat.en l18_1))]), (.t 7, [.data (.slc true none 1 (List.map e_i64 l18_2))]), (.t 8, [iv l18_3]), (.t 9, [.ptr 9 0]), (.t 12, [iv l18_4]), (.t 13, [iv (w64 (l18_5 + 1))]), (.o 3, [.data (.slc true none 2 (List.map TChain.en l18_6.Chains)), iv l18_6.Mark]), (.o 5, [.data (.slc true none 2 (List.map TChain.en l18_7.Chains)), iv l18_7.Mark]), (.o 9, (TTxn.ob l18_8))]) .nil (by kernel_rfl) (y := (cB (cR (cL (cR (cR (cR (cR (cR (cB (cL (cR (cB (cB (cR (cL (cR (cR (cR (cR bd13)))))))))))))))))))) (ks' := []) (by kernel_rfl) ?_
          exact WK.weak (l := [(.t 0, [.data (.slc false none 4 (List.map TTxn.en l18_0))]), (.t 3, [.ptr 3 0]), (.t 5, [.ptr 5 0]), (.t 6, [.data (.slc false none 3 (List.map TSeat.en l18_1))]), (.t 7, [.data (.slc true none 1 (List.map e_i64 l18_2))]), (.t 8, [iv l18_3]), (.t 9, [.ptr 9 0]), (.t 12, [iv l18_4]), (.t 13, [iv (w64 (l18_5 + 1))]), (.o 3, [.data (.slc true none 2 (List.map TChain.en l18_6.Chains)), iv l18_6.Mark]), (.o 5, [.data (.slc true none 2 (List.map TChain.en l18_7.Chains)), iv l18_7.Mark]), (.o 9, (TTxn.ob l18_8))]) (wk_of (by kernel_rfl)) (ih l18_4 (w64 (l18_5 + 1)) _ h)
      · refine WK.ce (b := (l18_4 == 1)) (by kernel_rfl) b20_0 ?_
        refine WK.weak (l := [(.t 0, [.data (.slc false none 4 (List.map TTxn.en l18_0))]), (.t 3, [.ptr 3 0]), (.t 5, [.ptr 5 0]), (.t 6, [.data (.slc false none 3 (List.map TSeat.en l18_1))]), (.t 7, [.data (.slc true none 1 (List.map e_i64 l18_2))]), (.t 8, [iv l18_3]), (.t 9, [.ptr 9 0]), (.t 12, [iv l18_4]), (.o 3, [.data (.slc true none 2 (List.map TChain.en l18_6.Chains)), iv l18_6.Mark]), (.o 5, [.data (.slc true none 2 (List.map TChain.en l18_7.Chains)), iv l18_7.Mark]), (.o 9, (TTxn.ob l18_8))]) (wk_of (by kernel_rfl)) ?_
        refine WK.exit (n := 2) (by kernel_rfl) ?_
        cases some_inj h
        exact WKe.fin (e' := .exit 2) (by kernel_rfl) ⟨rfl, rfl⟩
    · refine WK.rs (g := [.s (.t 42) [iv (l18_8.Reads.length : Int)], .b false, .b false, .b false]) (l' := [(.t 0, [.data (.slc false none 4 (List.map TTxn.en l18_0))]), (.t 3, [.ptr 3 0]), (.t 5, [.ptr 5 0]), (.t 6, [.data (.slc false none 3 (List.map TSeat.en l18_1))]), (.t 7, [.data (.slc true none 1 (List.map e_i64 l18_2))]), (.t 8, [iv l18_3]), (.t 9, [.ptr 9 0]), (.t 12, [iv l18_4]), (.t 13, [iv l18_5]), (.t 47, [bv false]), (.o 3, [.data (.slc true none 2 (List.map TChain.en l18_6.Chains)), iv l18_6.Mark]), (.o 5, [.data (.slc true none 2 (List.map TChain.en l18_7.Chains)), iv l18_7.Mark]), (.o 9, (TTxn.ob l18_8))]) (by kernel_rfl) (.cons (c_len (e := TRead.en) (l := l18_8.Reads)) (.cons b19_1 (.cons b19_1 (.cons b19_1 .nil)))) (by kernel_rfl) ?_
      refine WK.ce (b := false) (by kernel_rfl) rfl ?_
      refine WK.weak (l := [(.t 0, [.data (.slc false none 4 (List.map TTxn.en l18_0))]), (.t 3, [.ptr 3 0]), (.t 5, [.ptr 5 0]), (.t 6, [.data (.slc false none 3 (List.map TSeat.en l18_1))]), (.t 7, [.data (.slc true none 1 (List.map e_i64 l18_2))]), (.t 8, [iv l18_3]), (.t 9, [.ptr 9 0]), (.t 12, [iv l18_4]), (.o 3, [.data (.slc true none 2 (List.map TChain.en l18_6.Chains)), iv l18_6.Mark]), (.o 5, [.data (.slc true none 2 (List.map TChain.en l18_7.Chains)), iv l18_7.Mark]), (.o 9, (TTxn.ob l18_8))]) (wk_of (by kernel_rfl)) ?_
      refine WK.exit (n := 2) (by kernel_rfl) ?_
      cases some_inj h
      exact WKe.fin (e' := .exit 2) (by kernel_rfl) ⟨rfl, rfl⟩
noncomputable def diwanref13_Fold.lp6 (fu : Nat) (l6_0 : List TTxn) (l6_4 : TStore) : Nat → (List TSeat) → (List Int) → Int → TStore → Option (List TSeat × List Int × TStore)
  | 0, _, _, _, _ => none
  | n_ + 1, l6_1, l6_2, l6_3, l6_5 =>
    br (decide (l6_3 < (l6_0.length : Int)))
      (ix l6_0 l6_3 fun x9_1 =>
      bd (diwanref13_Turn fu l6_1 x9_1.Session x9_1.Seq (w64 (l6_3 + 1))) fun (r10_1, r10_2) =>
      jn (fun (j16_4 : Int) =>
        bd (diwanref13_Fold.lp18 fu l6_0 r10_1 l6_2 l6_3 l6_4 l6_5 x9_1 fu j16_4 0) fun y26_0 =>
        br (y26_0 == 1)
          (bd (diwanref13_Write fu l6_5 (w64 (l6_3 + 1)) x9_1.Writes) fun r29_1 =>
          gd (decide (l6_2.length + ([y26_0] : List Int).length ≤ 4294967296)) <|
          diwanref13_Fold.lp6 fu l6_0 l6_4 n_ r10_1 (l6_2 ++ ([y26_0] : List Int)) (w64 (l6_3 + 1)) r29_1)
          (gd (decide (l6_2.length + ([y26_0] : List Int).length ≤ 4294967296)) <|
          diwanref13_Fold.lp6 fu l6_0 l6_4 n_ r10_1 (l6_2 ++ ([y26_0] : List Int)) (w64 (l6_3 + 1)) l6_5)) fun k16 =>
      br (!r10_2)
        (k16 3)
        (k16 1))
      (some (l6_1, l6_2, l6_5))
noncomputable def diwanref13_Fold.lp6_post (l6_0 : List TTxn) (l6_4 : TStore) (r_ : (List TSeat × List Int × TStore)) : Wy → St → Prop := fun e τ => match r_ with
  | (y0, y1, y2) => e = .exit 0 ∧ τ = ofL [(.t 3, [.ptr 3 0]), (.t 5, [.ptr 5 0]), (.t 6, [.data (.slc false none 3 (List.map TSeat.en y0))]), (.t 7, [.data (.slc true none 1 (List.map e_i64 y1))]), (.o 3, [.data (.slc true none 2 (List.map TChain.en l6_4.Chains)), iv l6_4.Mark]), (.o 5, [.data (.slc true none 2 (List.map TChain.en y2.Chains)), iv y2.Mark])]
theorem diwanref13_Fold.lp6_ok (fu : Nat) (l6_0 : List TTxn) (l6_4 : TStore) : ∀ (n_ : Nat) (l6_1 : List TSeat) (l6_2 : List Int) (l6_3 : Int) (l6_5 : TStore) (r_ : (List TSeat × List Int × TStore)), diwanref13_Fold.lp6 fu l6_0 l6_4 n_ l6_1 l6_2 l6_3 l6_5 = some r_ → WK Try.prog diwanref13_Fold.O (Ck Try.prog) (cB (cR (cL (cR (cR (cR (cR bd13))))))) [] (ofL [(.t 0, [.data (.slc false none 4 (List.map TTxn.en l6_0))]), (.t 3, [.ptr 3 0]), (.t 5, [.ptr 5 0]), (.t 6, [.data (.slc false none 3 (List.map TSeat.en l6_1))]), (.t 7, [.data (.slc true none 1 (List.map e_i64 l6_2))]), (.t 8, [iv l6_3]), (.o 3, [.data (.slc true none 2 (List.map TChain.en l6_4.Chains)), iv l6_4.Mark]), (.o 5, [.data (.slc true none 2 (List.map TChain.en l6_5.Chains)), iv l6_5.Mark])]) (diwanref13_Fold.lp6_post l6_0 l6_4 r_) := by
  intro n_
  induction n_ with
  | zero => intro l6_1 l6_2 l6_3 l6_5 r_ h; exact no_none h
  | succ n_ ih =>
    intro l6_1 l6_2 l6_3 l6_5 r_ h
    refine WK.loop (by kernel_rfl) ?_
    refine WK.seq (by kernel_rfl) ?_
    refine WK.rs (g := [.s (.t 17) [iv (l6_0.length : Int)]]) (l' := [(.t 0, [.data (.slc false none 4 (List.map TTxn.en l6_0))]), (.t 3, [.ptr 3 0]), (.t 5, [.ptr 5 0]), (.t 6, [.data (.slc false none 3 (List.map TSeat.en l6_1))]), (.t 7, [.data (.slc true none 1 (List.map e_i64 l6_2))]), (.t 8, [iv l6_3]), (.t 18, [bv (decide (l6_3 < (l6_0.length : Int)))]), (.o 3, [.data (.slc true none 2 (List.map TChain.en l6_4.Chains)), iv l6_4.Mark]), (.o 5, [.data (.slc true none 2 (List.map TChain.en l6_5.Chains)), iv l6_5.Mark])]) (by kernel_rfl) (.cons (c_len (e := TTxn.en) (l := l6_0)) .nil) (by kernel_rfl) ?_
    rcases br_inv h with ⟨b8_0, h⟩ | ⟨b8_0, h⟩
    · refine WK.ct (b := (decide (l6_3 < (l6_0.length : Int)))) (by kernel_rfl) b8_0 ?_
      refine WK.skip (by kernel_rfl) ?_
      refine WKe.code (y := (cR (cB (cB (cR (cL (cR (cR (cR (cR bd13)))))))))) (ks' := [.lp (cB (cR (cL (cR (cR (cR (cR bd13)))))))]) (by kernel_rfl) ?_
      refine WK.seq (by kernel_rfl) ?_
      refine WK.block (n := 1) (by kernel_rfl) ?_
      obtain ⟨x9_1, a9_2, e9_3, h⟩ := ix_inv h
      refine WK.rs (g := [.c (TTxn.en x9_1)]) (l' := [(.t 0, [.data (.slc false none 4 (List.map TTxn.en l6_0))]), (.t 3, [.ptr 3 0]), (.t 5, [.ptr 5 0]), (.t 6, [.data (.slc false none 3 (List.map TSeat.en l6_1))]), (.t 7, [.data (.slc true none 1 (List.map e_i64 l6_2))]), (.t 8, [iv l6_3]), (.t 9, [.ptr 9 0]), (.o 3, [.data (.slc true none 2 (List.map TChain.en l6_4.Chains)), iv l6_4.Mark]), (.o 5, [.data (.slc true none 2 (List.map TChain.en l6_5.Chains)), iv l6_5.Mark]), (.o 9, (TTxn.ob x9_1))]) (by kernel_rfl) (.cons (c_ix (e := TTxn.en) a9_2 e9_3) (.cons (c_el (e := TTxn.en) e9_3) .nil)) (by kernel_rfl) ?_
      obtain ⟨⟨r10_1, r10_2⟩, h10_3, h⟩ := bd_inv h
      refine WK.rs (g := [.a ⟨.tup [.data (.slc false none 3 (List.map TSeat.en r10_1)), bv r10_2], []⟩]) (l' := [(.t 0, [.data (.slc false none 4 (List.map TTxn.en l6_0))]), (.t 3, [.ptr 3 0]), (.t 5, [.ptr 5 0]), (.t 7, [.data (.slc true none 1 (List.map e_i64 l6_2))]), (.t 8, [iv l6_3]), (.t 9, [.ptr 9 0]), (.t 10, [.data (.slc false none 3 (List.map TSeat.en r10_1))]), (.t 11, [bv r10_2]), (.o 3, [.data (.slc true none 2 (List.map TChain.en l6_4.Chains)), iv l6_4.Mark]), (.o 5, [.data (.slc true none 2 (List.map TChain.en l6_5.Chains)), iv l6_5.Mark]), (.o 9, (TTxn.ob x9_1))]) (by kernel_rfl) (.cons (Asks.of (C := Meets Try.prog) (diwanref13_Turn.meets fu l6_1 x9_1.Session x9_1.Seq (w64 (l6_3 + 1)) _ _ h10_3)) .nil) (by kernel_rfl) ?_
      refine WK.rs (g := []) (l' := [(.t 0, [.data (.slc false none 4 (List.map TTxn.en l6_0))]), (.t 3, [.ptr 3 0]), (.t 5, [.ptr 5 0]), (.t 6, [.data (.slc false none 3 (List.map TSeat.en r10_1))]), (.t 7, [.data (.slc true none 1 (List.map e_i64 l6_2))]), (.t 8, [iv l6_3]), (.t 9, [.ptr 9 0]), (.t 11, [bv r10_2]), (.o 3, [.data (.slc true none 2 (List.map TChain.en l6_4.Chains)), iv l6_4.Mark]), (.o 5, [.data (.slc true none 2 (List.map TChain.en l6_5.Chains)), iv l6_5.Mark]), (.o 9, (TTxn.ob x9_1))]) (by kernel_rfl) .nil (by kernel_rfl) ?_
      refine WK.rs (g := []) (l' := [(.t 0, [.data (.slc false none 4 (List.map TTxn.en l6_0))]), (.t 3, [.ptr 3 0]), (.t 5, [.ptr 5 0]), (.t 6, [.data (.slc false none 3 (List.map TSeat.en r10_1))]), (.t 7, [.data (.slc true none 1 (List.map e_i64 l6_2))]), (.t 8, [iv l6_3]), (.t 9, [.ptr 9 0]), (.t 11, [bv r10_2]), (.t 12, [iv 1]), (.o 3, [.data (.slc true none 2 (List.map TChain.en l6_4.Chains)), iv l6_4.Mark]), (.o 5, [.data (.slc true none 2 (List.map TChain.en l6_5.Chains)), iv l6_5.Mark]), (.o 9, (TTxn.ob x9_1))]) (by kernel_rfl) .nil (by kernel_rfl) ?_
      obtain ⟨k16, hk16, h⟩ := jn_inv h
      have Jk16 : ∀ (j16_4 : Int), k16 j16_4 = some r_ → WK Try.prog diwanref13_Fold.O (Ck Try.prog) (cR (cR (cR (cR (cR (cB (cL (cR (cB (cB (cR (cL (cR (cR (cR (cR bd13)))))))))))))))) [.blk 1, .seq (cR (cR (cB (cB (cR (cL (cR (cR (cR (cR bd13)))))))))), .lp (cB (cR (cL (cR (cR (cR (cR bd13)))))))] (ofL [(.t 0, [.data (.slc false none 4 (List.map TTxn.en l6_0))]), (.t 3, [.ptr 3 0]), (.t 5, [.ptr 5 0]), (.t 6, [.data (.slc false none 3 (List.map TSeat.en r10_1))]), (.t 7, [.data (.slc true none 1 (List.map e_i64 l6_2))]), (.t 8, [iv l6_3]), (.t 9, [.ptr 9 0]), (.t 12, [iv j16_4]), (.o 3, [.data (.slc true none 2 (List.map TChain.en l6_4.Chains)), iv l6_4.Mark]), (.o 5, [.data (.slc true none 2 (List.map TChain.en l6_5.Chains)), iv l6_5.Mark]), (.o 9, (TTxn.ob x9_1))]) (diwanref13_Fold.lp6_post l6_0 l6_4 r_) := by
        intro j16_4 h
        rw [hk16] at h
        refine WK.seq (by kernel_rfl) ?_
        refine WK.rs (g := []) (l' := [(.t 0, [.data (.slc false none 4 (List.map TTxn.en l6_0))]), (.t 3, [.ptr 3 0]), (.t 5, [.ptr 5 0]), (.t 6, [.data (.slc false none 3 (List.map TSeat.en r10_1))]), (.t 7, [.data (.slc true none 1 (List.map e_i64 l6_2))]), (.t 8, [iv l6_3]), (.t 9, [.ptr 9 0]), (.t 12, [iv j16_4]), (.t 13, [iv 0]), (.o 3, [.data (.slc true none 2 (List.map TChain.en l6_4.Chains)), iv l6_4.Mark]), (.o 5, [.data (.slc true none 2 (List.map TChain.en l6_5.Chains)), iv l6_5.Mark]), (.o 9, (TTxn.ob x9_1))]) (by kernel_rfl) .nil (by kernel_rfl) ?_
        refine WK.block (n := 2) (by kernel_rfl) ?_
        obtain ⟨o26, ho26, h⟩ := bd_inv h
        refine WK.weak (l := [(.t 0, [.data (.slc false none 4 (List.map TTxn.en l6_0))]), (.t 3, [.ptr 3 0]), (.t 5, [.ptr 5 0]), (.t 6, [.data (.slc false none 3 (List.map TSeat.en r10_1))]), (.t 7, [.data (.slc true none 1 (List.map e_i64 l6_2))]), (.t 8, [iv l6_3]), (.t 9, [.ptr 9 0]), (.t 12, [iv j16_4]), (.t 13, [iv 0]), (.o 3, [.data (.slc true none 2 (List.map TChain.en l6_4.Chains)), iv l6_4.Mark]), (.o 5, [.data (.slc true none 2 (List.map TChain.en l6_5.Chains)), iv l6_5.Mark]), (.o 9, (TTxn.ob x9_1))]) (wk_of (by kernel_rfl)) ?_
        refine WK.use (diwanref13_Fold.lp18_ok fu l6_0 r10_1 l6_2 l6_3 l6_4 l6_5 x9_1 _ j16_4 0 _ ho26) ?_
        intro e_ τ_ hp_
        obtain ⟨y26_0, rfl⟩ : ∃ y, y = o26 := ⟨_, rfl⟩
        obtain ⟨rfl, rfl⟩ := hp_
        refine WKe.code (y := (cR (cR (cR (cR (cR (cR (cB (cL (cR (cB (cB (cR (cL (cR (cR (cR (cR bd13)))))))))))))))))) (ks' := [.blk 1, .seq (cR (cR (cB (cB (cR (cL (cR (cR (cR (cR bd13)))))))))), .lp (cB (cR (cL (cR (cR (cR (cR bd13)))))))]) (by kernel_rfl) ?_
        refine WK.seq (by kernel_rfl) ?_
        refine WK.rs (g := []) (l' := [(.t 0, [.data (.slc false none 4 (List.map TTxn.en l6_0))]), (.t 3, [.ptr 3 0]), (.t 5, [.ptr 5 0]), (.t 6, [.data (.slc false none 3 (List.map TSeat.en r10_1))]), (.t 7, [.data (.slc true none 1 (List.map e_i64 l6_2))]), (.t 8, [iv l6_3]), (.t 9, [.ptr 9 0]), (.t 12, [iv y26_0]), (.t 66, [bv (y26_0 == 1)]), (.o 3, [.data (.slc true none 2 (List.map TChain.en l6_4.Chains)), iv l6_4.Mark]), (.o 5, [.data (.slc true none 2 (List.map TChain.en l6_5.Chains)), iv l6_5.Mark]), (.o 9, (TTxn.ob x9_1))]) (by kernel_rfl) .nil (by kernel_rfl) ?_
        rcases br_inv h with ⟨b28_0, h⟩ | ⟨b28_0, h⟩
        · refine WK.ct (b := (y26_0 == 1)) (by kernel_rfl) b28_0 ?_
          obtain ⟨r29_1, h29_2, h⟩ := bd_inv h
          refine WK.rc (g := [.a ⟨.data (.agg [.slc true none 2 (List.map TChain.en r29_1.Chains), .val (.int .i64 r29_1.Mark)]), []⟩]) (l' := [(.t 0, [.data (.slc false none 4 (List.map TTxn.en l6_0))]), (.t 3, [.ptr 3 0]), (.t 5, [.ptr 5 0]), (.t 6, [.data (.slc false none 3 (List.map TSeat.en r10_1))]), (.t 7, [.data (.slc true none 1 (List.map e_i64 l6_2))]), (.t 8, [iv l6_3]), (.t 12, [iv y26_0]), (.o 3, [.data (.slc true none 2 (List.map TChain.en l6_4.Chains)), iv l6_4.Mark]), (.o 5, [.data (.slc true none 2 (List.map TChain.en r29_1.Chains)), iv r29_1.Mark])]) (.cons (Asks.of (C := Meets Try.prog) (diwanref13_Write.meets fu l6_5 (w64 (l6_3 + 1)) x9_1.Writes _ h29_2)) .nil) (by kernel_rfl) (y := (cR (cR (cR (cR (cR (cR (cR (cB (cL (cR (cB (cB (cR (cL (cR (cR (cR (cR bd13))))))))))))))))))) (ks' := [.blk 1, .seq (cR (cR (cB (cB (cR (cL (cR (cR (cR (cR bd13)))))))))), .lp (cB (cR (cL (cR (cR (cR (cR bd13)))))))]) (by kernel_rfl) ?_
          obtain ⟨c30_1, h⟩ := gd_inv h
          refine WK.rc (g := [.s (.t 76) [.data (.slc true none 1 (List.map e_i64 (l6_2 ++ ([y26_0] : List Int))))]]) (l' := [(.t 0, [.data (.slc false none 4 (List.map TTxn.en l6_0))]), (.t 3, [.ptr 3 0]), (.t 5, [.ptr 5 0]), (.t 6, [.data (.slc false none 3 (List.map TSeat.en r10_1))]), (.t 7, [.data (.slc true none 1 (List.map e_i64 (l6_2 ++ ([y26_0] : List Int))))]), (.t 8, [iv l6_3]), (.o 3, [.data (.slc true none 2 (List.map TChain.en l6_4.Chains)), iv l6_4.Mark]), (.o 5, [.data (.slc true none 2 (List.map TChain.en r29_1.Chains)), iv r29_1.Mark])]) (.cons (c_al (e := e_i64) (f := e_i64) c30_1) (.cons (congrArg (fun d : DV => [AV.data d]) (c_app (e := e_i64) (s := 1) (l := l6_2) (m := ([y26_0] : List Int)))) .nil)) (by kernel_rfl) (y := (cR (cR (cB (cB (cR (cL (cR (cR (cR (cR bd13))))))))))) (ks' := [.lp (cB (cR (cL (cR (cR (cR (cR bd13)))))))]) (by kernel_rfl) ?_
          refine WK.rc (g := []) (l' := [(.t 0, [.data (.slc false none 4 (List.map TTxn.en l6_0))]), (.t 3, [.ptr 3 0]), (.t 5, [.ptr 5 0]), (.t 6, [.data (.slc false none 3 (List.map TSeat.en r10_1))]), (.t 7, [.data (.slc true none 1 (List.map e_i64 (l6_2 ++ ([y26_0] : List Int))))]), (.t 8, [iv (w64 (l6_3 + 1))]), (.o 3, [.data (.slc true none 2 (List.map TChain.en l6_4.Chains)), iv l6_4.Mark]), (.o 5, [.data (.slc true none 2 (List.map TChain.en r29_1.Chains)), iv r29_1.Mark])]) .nil (by kernel_rfl) (y := (cB (cR (cL (cR (cR (cR (cR bd13)))))))) (ks' := []) (by kernel_rfl) ?_
          exact WK.weak (l := [(.t 0, [.data (.slc false none 4 (List.map TTxn.en l6_0))]), (.t 3, [.ptr 3 0]), (.t 5, [.ptr 5 0]), (.t 6, [.data (.slc false none 3 (List.map TSeat.en r10_1))]), (.t 7, [.data (.slc true none 1 (List.map e_i64 (l6_2 ++ ([y26_0] : List Int))))]), (.t 8, [iv (w64 (l6_3 + 1))]), (.o 3, [.data (.slc true none 2 (List.map TChain.en l6_4.Chains)), iv l6_4.Mark]), (.o 5, [.data (.slc true none 2 (List.map TChain.en r29_1.Chains)), iv r29_1.Mark])]) (wk_of (by kernel_rfl)) (ih r10_1 (l6_2 ++ ([y26_0] : List Int)) (w64 (l6_3 + 1)) r29_1 _ h)
        · refine WK.ce (b := (y26_0 == 1)) (by kernel_rfl) b28_0 ?_
          refine WK.skip (by kernel_rfl) ?_
          refine WKe.code (y := (cR (cR (cR (cR (cR (cR (cR (cB (cL (cR (cB (cB (cR (cL (cR (cR (cR (cR bd13))))))))))))))))))) (ks' := [.blk 1, .seq (cR (cR (cB (cB (cR (cL (cR (cR (cR (cR bd13)))))))))), .lp (cB (cR (cL (cR (cR (cR (cR bd13)))))))]) (by kernel_rfl) ?_
          obtain ⟨c32_1, h⟩ := gd_inv h
          refine WK.rc (g := [.s (.t 76) [.data (.slc true none 1 (List.map e_i64 (l6_2 ++ ([y26_0] : List Int))))]]) (l' := [(.t 0, [.data (.slc false none 4 (List.map TTxn.en l6_0))]), (.t 3, [.ptr 3 0]), (.t 5, [.ptr 5 0]), (.t 6, [.data (.slc false none 3 (List.map TSeat.en r10_1))]), (.t 7, [.data (.slc true none 1 (List.map e_i64 (l6_2 ++ ([y26_0] : List Int))))]), (.t 8, [iv l6_3]), (.o 3, [.data (.slc true none 2 (List.map TChain.en l6_4.Chains)), iv l6_4.Mark]), (.o 5, [.data (.slc true none 2 (List.map TChain.en l6_5.Chains)), iv l6_5.Mark])]) (.cons (c_al (e := e_i64) (f := e_i64) c32_1) (.cons (congrArg (fun d : DV => [AV.data d]) (c_app (e := e_i64) (s := 1) (l := l6_2) (m := ([y26_0] : List Int)))) .nil)) (by kernel_rfl) (y := (cR (cR (cB (cB (cR (cL (cR (cR (cR (cR bd13))))))))))) (ks' := [.lp (cB (cR (cL (cR (cR (cR (cR bd13)))))))]) (by kernel_rfl) ?_
          refine WK.rc (g := []) (l' := [(.t 0, [.data (.slc false none 4 (List.map TTxn.en l6_0))]), (.t 3, [.ptr 3 0]), (.t 5, [.ptr 5 0]), (.t 6, [.data (.slc false none 3 (List.map TSeat.en r10_1))]), (.t 7, [.data (.slc true none 1 (List.map e_i64 (l6_2 ++ ([y26_0] : List Int))))]), (.t 8, [iv (w64 (l6_3 + 1))]), (.o 3, [.data (.slc true none 2 (List.map TChain.en l6_4.Chains)), iv l6_4.Mark]), (.o 5, [.data (.slc true none 2 (List.map TChain.en l6_5.Chains)), iv l6_5.Mark])]) .nil (by kernel_rfl) (y := (cB (cR (cL (cR (cR (cR (cR bd13)))))))) (ks' := []) (by kernel_rfl) ?_
          exact WK.weak (l := [(.t 0, [.data (.slc false none 4 (List.map TTxn.en l6_0))]), (.t 3, [.ptr 3 0]), (.t 5, [.ptr 5 0]), (.t 6, [.data (.slc false none 3 (List.map TSeat.en r10_1))]), (.t 7, [.data (.slc true none 1 (List.map e_i64 (l6_2 ++ ([y26_0] : List Int))))]), (.t 8, [iv (w64 (l6_3 + 1))]), (.o 3, [.data (.slc true none 2 (List.map TChain.en l6_4.Chains)), iv l6_4.Mark]), (.o 5, [.data (.slc true none 2 (List.map TChain.en l6_5.Chains)), iv l6_5.Mark])]) (wk_of (by kernel_rfl)) (ih r10_1 (l6_2 ++ ([y26_0] : List Int)) (w64 (l6_3 + 1)) l6_5 _ h)
      clear hk16
      refine WK.seq (by kernel_rfl) ?_
      refine WK.rs (g := []) (l' := [(.t 0, [.data (.slc false none 4 (List.map TTxn.en l6_0))]), (.t 3, [.ptr 3 0]), (.t 5, [.ptr 5 0]), (.t 6, [.data (.slc false none 3 (List.map TSeat.en r10_1))]), (.t 7, [.data (.slc true none 1 (List.map e_i64 l6_2))]), (.t 8, [iv l6_3]), (.t 9, [.ptr 9 0]), (.t 12, [iv 1]), (.t 38, [bv (!r10_2)]), (.o 3, [.data (.slc true none 2 (List.map TChain.en l6_4.Chains)), iv l6_4.Mark]), (.o 5, [.data (.slc true none 2 (List.map TChain.en l6_5.Chains)), iv l6_5.Mark]), (.o 9, (TTxn.ob x9_1))]) (by kernel_rfl) .nil (by kernel_rfl) ?_
      rcases br_inv h with ⟨b14_0, h⟩ | ⟨b14_0, h⟩
      · refine WK.ct (b := (!r10_2)) (by kernel_rfl) b14_0 ?_
        refine WK.rc (g := []) (l' := [(.t 0, [.data (.slc false none 4 (List.map TTxn.en l6_0))]), (.t 3, [.ptr 3 0]), (.t 5, [.ptr 5 0]), (.t 6, [.data (.slc false none 3 (List.map TSeat.en r10_1))]), (.t 7, [.data (.slc true none 1 (List.map e_i64 l6_2))]), (.t 8, [iv l6_3]), (.t 9, [.ptr 9 0]), (.t 12, [iv 3]), (.o 3, [.data (.slc true none 2 (List.map TChain.en l6_4.Chains)), iv l6_4.Mark]), (.o 5, [.data (.slc true none 2 (List.map TChain.en l6_5.Chains)), iv l6_5.Mark]), (.o 9, (TTxn.ob x9_1))]) .nil (by kernel_rfl) (y := (cR (cR (cR (cR (cR (cB (cL (cR (cB (cB (cR (cL (cR (cR (cR (cR bd13))))))))))))))))) (ks' := [.blk 1, .seq (cR (cR (cB (cB (cR (cL (cR (cR (cR (cR bd13)))))))))), .lp (cB (cR (cL (cR (cR (cR (cR bd13)))))))]) (by kernel_rfl) ?_
        exact WK.weak (l := [(.t 0, [.data (.slc false none 4 (List.map TTxn.en l6_0))]), (.t 3, [.ptr 3 0]), (.t 5, [.ptr 5 0]), (.t 6, [.data (.slc false none 3 (List.map TSeat.en r10_1))]), (.t 7, [.data (.slc true none 1 (List.map e_i64 l6_2))]), (.t 8, [iv l6_3]), (.t 9, [.ptr 9 0]), (.t 12, [iv 3]), (.o 3, [.data (.slc true none 2 (List.map TChain.en l6_4.Chains)), iv l6_4.Mark]), (.o 5, [.data (.slc true none 2 (List.map TChain.en l6_5.Chains)), iv l6_5.Mark]), (.o 9, (TTxn.ob x9_1))]) (wk_of (by kernel_rfl)) (Jk16 3 h)
      · refine WK.ce (b := (!r10_2)) (by kernel_rfl) b14_0 ?_
        refine WK.skip (by kernel_rfl) ?_
        refine WKe.code (y := (cR (cR (cR (cR (cR (cB (cL (cR (cB (cB (cR (cL (cR (cR (cR (cR bd13))))))))))))))))) (ks' := [.blk 1, .seq (cR (cR (cB (cB (cR (cL (cR (cR (cR (cR bd13)))))))))), .lp (cB (cR (cL (cR (cR (cR (cR bd13)))))))]) (by kernel_rfl) ?_
        exact WK.weak (l := [(.t 0, [.data (.slc false none 4 (List.map TTxn.en l6_0))]), (.t 3, [.ptr 3 0]), (.t 5, [.ptr 5 0]), (.t 6, [.data (.slc false none 3 (List.map TSeat.en r10_1))]), (.t 7, [.data (.slc true none 1 (List.map e_i64 l6_2))]), (.t 8, [iv l6_3]), (.t 9, [.ptr 9 0]), (.t 12, [iv 1]), (.o 3, [.data (.slc true none 2 (List.map TChain.en l6_4.Chains)), iv l6_4.Mark]), (.o 5, [.data (.slc true none 2 (List.map TChain.en l6_5.Chains)), iv l6_5.Mark]), (.o 9, (TTxn.ob x9_1))]) (wk_of (by kernel_rfl)) (Jk16 1 h)
    · refine WK.ce (b := (decide (l6_3 < (l6_0.length : Int)))) (by kernel_rfl) b8_0 ?_
      refine WK.weak (l := [(.t 3, [.ptr 3 0]), (.t 5, [.ptr 5 0]), (.t 6, [.data (.slc false none 3 (List.map TSeat.en l6_1))]), (.t 7, [.data (.slc true none 1 (List.map e_i64 l6_2))]), (.o 3, [.data (.slc true none 2 (List.map TChain.en l6_4.Chains)), iv l6_4.Mark]), (.o 5, [.data (.slc true none 2 (List.map TChain.en l6_5.Chains)), iv l6_5.Mark])]) (wk_of (by kernel_rfl)) ?_
      refine WK.exit (n := 0) (by kernel_rfl) ?_
      cases some_inj h
      exact WKe.fin (e' := .exit 0) (by kernel_rfl) ⟨rfl, rfl⟩
noncomputable def diwanref13_Fold (fu : Nat) (l : List TTxn) : Option (List Int × TStore × List TSeat) :=
  bd (diwanref13_Fold.lp6 fu l (TStore.mk [] 0) fu [] [] 0 (TStore.mk [] 0)) fun (y34_0, y34_1, y34_2) =>
  some (y34_1, y34_2, y34_0)
theorem diwanref13_Fold.meets (fu : Nat) (l : List TTxn) (z0 : List Int) (z1 : TStore) (z2 : List TSeat) (h : diwanref13_Fold fu l = some (z0, z1, z2)) : Meets Try.prog ⟨13, [.data (.slc false none 4 (List.map TTxn.en l))], []⟩ ⟨.tup [.data (.slc false none 1 (List.map e_i64 z0)), .data (.agg [.slc false none 2 (List.map TChain.en z1.Chains), .val (.int .i64 z1.Mark)]), .data (.slc false none 3 (List.map TSeat.en z2))], []⟩ := by
  refine meets_of (O := diwanref13_Fold.O) hmix (fn := Try.f13) (code := bd13) (by kernel_rfl) ?_
  refine WK.weak (l := [(.t 0, [.data (.slc false none 4 (List.map TTxn.en l))])]) (wk_of (by kernel_rfl)) ?_
  unfold diwanref13_Fold at h
  refine WK.rs (g := []) (l' := [(.t 0, [.data (.slc false none 4 (List.map TTxn.en l))]), (.t 3, [.ptr 3 0]), (.o 3, [.data (.slc true none 2 (List.map TChain.en [])), iv 0])]) (by kernel_rfl) .nil (by kernel_rfl) ?_
  refine WK.rs (g := []) (l' := [(.t 0, [.data (.slc false none 4 (List.map TTxn.en l))]), (.t 3, [.ptr 3 0]), (.t 5, [.ptr 5 0]), (.o 3, [.data (.slc true none 2 (List.map TChain.en [])), iv 0]), (.o 5, [.data (.slc true none 2 (List.map TChain.en [])), iv 0])]) (by kernel_rfl) .nil (by kernel_rfl) ?_
  refine WK.rs (g := []) (l' := [(.t 0, [.data (.slc false none 4 (List.map TTxn.en l))]), (.t 3, [.ptr 3 0]), (.t 5, [.ptr 5 0]), (.t 6, [.data (.slc true (some true) 3 (List.map TSeat.en []))]), (.o 3, [.data (.slc true none 2 (List.map TChain.en [])), iv 0]), (.o 5, [.data (.slc true none 2 (List.map TChain.en [])), iv 0])]) (by kernel_rfl) .nil (by kernel_rfl) ?_
  refine WK.rs (g := []) (l' := [(.t 0, [.data (.slc false none 4 (List.map TTxn.en l))]), (.t 3, [.ptr 3 0]), (.t 5, [.ptr 5 0]), (.t 6, [.data (.slc true (some true) 3 (List.map TSeat.en []))]), (.t 7, [.data (.slc true (some true) 1 (List.map e_i64 []))]), (.o 3, [.data (.slc true none 2 (List.map TChain.en [])), iv 0]), (.o 5, [.data (.slc true none 2 (List.map TChain.en [])), iv 0])]) (by kernel_rfl) .nil (by kernel_rfl) ?_
  refine WK.seq (by kernel_rfl) ?_
  refine WK.rs (g := []) (l' := [(.t 0, [.data (.slc false none 4 (List.map TTxn.en l))]), (.t 3, [.ptr 3 0]), (.t 5, [.ptr 5 0]), (.t 6, [.data (.slc true (some true) 3 (List.map TSeat.en []))]), (.t 7, [.data (.slc true (some true) 1 (List.map e_i64 []))]), (.t 8, [iv 0]), (.o 3, [.data (.slc true none 2 (List.map TChain.en [])), iv 0]), (.o 5, [.data (.slc true none 2 (List.map TChain.en [])), iv 0])]) (by kernel_rfl) .nil (by kernel_rfl) ?_
  refine WK.block (n := 0) (by kernel_rfl) ?_
  refine WK.share (x := .tmp 6) (l' := [(.t 0, [.data (.slc false none 4 (List.map TTxn.en l))]), (.t 3, [.ptr 3 0]), (.t 5, [.ptr 5 0]), (.t 6, [.data (.slc false (some true) 3 (List.map TSeat.en []))]), (.t 7, [.data (.slc true (some true) 1 (List.map e_i64 []))]), (.t 8, [iv 0]), (.o 3, [.data (.slc true none 2 (List.map TChain.en [])), iv 0]), (.o 5, [.data (.slc true none 2 (List.map TChain.en [])), iv 0])]) (by kernel_rfl) ?_
  obtain ⟨o34, ho34, h⟩ := bd_inv h
  refine WK.weak (l := [(.t 0, [.data (.slc false none 4 (List.map TTxn.en l))]), (.t 3, [.ptr 3 0]), (.t 5, [.ptr 5 0]), (.t 6, [.data (.slc false none 3 (List.map TSeat.en []))]), (.t 7, [.data (.slc true none 1 (List.map e_i64 []))]), (.t 8, [iv 0]), (.o 3, [.data (.slc true none 2 (List.map TChain.en [])), iv 0]), (.o 5, [.data (.slc true none 2 (List.map TChain.en [])), iv 0])]) (wk_of (by kernel_rfl)) ?_
  refine WK.use (diwanref13_Fold.lp6_ok fu l (TStore.mk [] 0) _ [] [] 0 (TStore.mk [] 0) _ ho34) ?_
  intro e_ τ_ hp_
  obtain ⟨y34_0, y34_1, y34_2⟩ := o34
  obtain ⟨rfl, rfl⟩ := hp_
  refine WKe.code (y := (cR (cR (cR (cR (cR bd13)))))) (ks' := []) (by kernel_rfl) ?_
  refine WK.rs (g := []) (l' := [(.t 2, [.data (.slc true none 1 (List.map e_i64 y34_1))]), (.t 3, [.ptr 3 0]), (.t 4, [.data (.slc false none 3 (List.map TSeat.en y34_0))]), (.o 3, [.data (.slc true none 2 (List.map TChain.en y34_2.Chains)), iv y34_2.Mark])]) (by kernel_rfl) (.cons (Eq.refl true) .nil) (by kernel_rfl) ?_
  refine WK.weak (l := [(.t 2, [.data (.slc true none 1 (List.map e_i64 y34_1))]), (.t 3, [.ptr 3 0]), (.t 4, [.data (.slc false none 3 (List.map TSeat.en y34_0))]), (.o 3, [.data (.slc true none 2 (List.map TChain.en y34_2.Chains)), iv y34_2.Mark])]) (wk_of (by kernel_rfl)) ?_
  refine WK.ret (by kernel_rfl) ?_
  have h_0 := some_inj h
  obtain ⟨g_1, h_1⟩ := Prod.mk.inj h_0
  obtain ⟨g_2, h_2⟩ := Prod.mk.inj h_1
  subst g_1
  subst g_2
  subst h_2
  exact WKe.fin (e' := .ret) (by kernel_rfl) (fin_of (g := []) (by first | exact .inl rfl | exact .inr rfl) .nil (by kernel_rfl))
/-- diwan/diwanref13.SameInts -/
noncomputable def bd14 : Code := (Try.f14.body).getD .skip
def diwanref13_SameInts.O : Nat → Nat := fun t => bif ([4, 5] : List Nat).any (Nat.beq t) then 1 else 0
noncomputable def diwanref13_SameInts.lp6 (fu : Nat) (l6_0 : List Int) (l6_1 : List Int) : Nat → Int → Option (Unit ⊕ Unit)
  | 0, _ => none
  | n_ + 1, l6_2 =>
    br (decide (l6_2 < (l6_0.length : Int)))
      (ix l6_0 l6_2 fun x9_1 =>
      ix l6_1 l6_2 fun x9_4 =>
      br (x9_1 != x9_4)
        (some (.inr ()))
        (diwanref13_SameInts.lp6 fu l6_0 l6_1 n_ (w64 (l6_2 + 1))))
      (some (.inl ()))
noncomputable def diwanref13_SameInts.lp6_post (l6_0 : List Int) (l6_1 : List Int) (r_ : (Unit ⊕ Unit)) : Wy → St → Prop := fun e τ => match r_ with
  | .inl _ => e = .exit 0 ∧ τ = ofL []
  | .inr _ => e = .ret ∧ τ = ofL [(.t 4, [bv false])]
theorem diwanref13_SameInts.lp6_ok (fu : Nat) (l6_0 : List Int) (l6_1 : List Int) : ∀ (n_ : Nat) (l6_2 : Int) (r_ : (Unit ⊕ Unit)), diwanref13_SameInts.lp6 fu l6_0 l6_1 n_ l6_2 = some r_ → WK Try.prog diwanref13_SameInts.O (Ck Try.prog) (cB (cR (cL (cR (cR bd14))))) [] (ofL [(.t 0, [.data (.slc false none 1 (List.map e_i64 l6_0))]), (.t 1, [.data (.slc false none 1 (List.map e_i64 l6_1))]), (.t 5, [iv l6_2])]) (diwanref13_SameInts.lp6_post l6_0 l6_1 r_) := by
  intro n_
  induction n_ with
  | zero => intro l6_2 r_ h; exact no_none h
  | succ n_ ih =>
    intro l6_2 r_ h
    refine WK.loop (by kernel_rfl) ?_
    refine WK.seq (by kernel_rfl) ?_
    refine WK.rs (g := [.s (.t 13) [iv (l6_0.length : Int)]]) (l' := [(.t 0, [.data (.slc false none 1 (List.map e_i64 l6_0))]), (.t 1, [.data (.slc false none 1 (List.map e_i64 l6_1))]), (.t 5, [iv l6_2]), (.t 14, [bv (decide (l6_2 < (l6_0.length : Int)))])]) (by kernel_rfl) (.cons (c_len (e := e_i64) (l := l6_0)) .nil) (by kernel_rfl) ?_
    rcases br_inv h with ⟨b8_0, h⟩ | ⟨b8_0, h⟩
    · refine WK.ct (b := (decide (l6_2 < (l6_0.length : Int)))) (by kernel_rfl) b8_0 ?_
      refine WK.skip (by kernel_rfl) ?_
      refine WKe.code (y := (cR (cB (cB (cR (cL (cR (cR bd14)))))))) (ks' := [.lp (cB (cR (cL (cR (cR bd14)))))]) (by kernel_rfl) ?_
      refine WK.seq (by kernel_rfl) ?_
      refine WK.block (n := 1) (by kernel_rfl) ?_
      obtain ⟨x9_1, a9_2, e9_3, h⟩ := ix_inv h
      obtain ⟨x9_4, a9_5, e9_6, h⟩ := ix_inv h
      refine WK.rs (g := [.c (e_i64 x9_1), .c (e_i64 x9_4)]) (l' := [(.t 0, [.data (.slc false none 1 (List.map e_i64 l6_0))]), (.t 1, [.data (.slc false none 1 (List.map e_i64 l6_1))]), (.t 5, [iv l6_2]), (.t 25, [bv (x9_1 != x9_4)])]) (by kernel_rfl) (.cons (c_ix (e := e_i64) a9_2 e9_3) (.cons (c_el (e := e_i64) e9_3) (.cons (c_ix (e := e_i64) a9_5 e9_6) (.cons (c_el (e := e_i64) e9_6) (.cons (Eq.refl true) .nil))))) (by kernel_rfl) ?_
      rcases br_inv h with ⟨b10_0, h⟩ | ⟨b10_0, h⟩
      · refine WK.ct (b := (x9_1 != x9_4)) (by kernel_rfl) b10_0 ?_
        refine WK.rs (g := []) (l' := [(.t 4, [bv false])]) (by kernel_rfl) .nil (by kernel_rfl) ?_
        refine WK.weak (l := [(.t 4, [bv false])]) (wk_of (by kernel_rfl)) ?_
        refine WK.ret (by kernel_rfl) ?_
        cases some_inj h
        exact WKe.fin (e' := .ret) (by kernel_rfl) ⟨rfl, rfl⟩
      · refine WK.ce (b := (x9_1 != x9_4)) (by kernel_rfl) b10_0 ?_
        refine WK.skip (by kernel_rfl) ?_
        refine WKe.code (y := (cR (cR (cB (cB (cR (cL (cR (cR bd14))))))))) (ks' := [.lp (cB (cR (cL (cR (cR bd14)))))]) (by kernel_rfl) ?_
        refine WK.rc (g := []) (l' := [(.t 0, [.data (.slc false none 1 (List.map e_i64 l6_0))]), (.t 1, [.data (.slc false none 1 (List.map e_i64 l6_1))]), (.t 5, [iv (w64 (l6_2 + 1))])]) .nil (by kernel_rfl) (y := (cB (cR (cL (cR (cR bd14)))))) (ks' := []) (by kernel_rfl) ?_
        exact WK.weak (l := [(.t 0, [.data (.slc false none 1 (List.map e_i64 l6_0))]), (.t 1, [.data (.slc false none 1 (List.map e_i64 l6_1))]), (.t 5, [iv (w64 (l6_2 + 1))])]) (wk_of (by kernel_rfl)) (ih (w64 (l6_2 + 1)) _ h)
    · refine WK.ce (b := (decide (l6_2 < (l6_0.length : Int)))) (by kernel_rfl) b8_0 ?_
      refine WK.weak (l := []) (wk_of (by kernel_rfl)) ?_
      refine WK.exit (n := 0) (by kernel_rfl) ?_
      cases some_inj h
      exact WKe.fin (e' := .exit 0) (by kernel_rfl) ⟨rfl, rfl⟩
noncomputable def diwanref13_SameInts (fu : Nat) (a : List Int) (b : List Int) : Option Bool :=
  br ((a.length : Int) != (b.length : Int))
    (some false)
    (bd (diwanref13_SameInts.lp6 fu a b fu 0) fun o_ => (match o_ with
    | .inl _ =>
      some true
    | .inr _ =>
      some false))
theorem diwanref13_SameInts.meets (fu : Nat) (a : List Int) (b : List Int) (z0 : Bool) (h : diwanref13_SameInts fu a b = some z0) : Meets Try.prog ⟨14, [.data (.slc false none 1 (List.map e_i64 a)), .data (.slc false none 1 (List.map e_i64 b))], []⟩ ⟨bv z0, []⟩ := by
  refine meets_of (O := diwanref13_SameInts.O) hmix (fn := Try.f14) (code := bd14) (by kernel_rfl) ?_
  refine WK.weak (l := [(.t 0, [.data (.slc false none 1 (List.map e_i64 a))]), (.t 1, [.data (.slc false none 1 (List.map e_i64 b))])]) (wk_of (by kernel_rfl)) ?_
  unfold diwanref13_SameInts at h
  refine WK.rs (g := []) (l' := [(.t 0, [.data (.slc false none 1 (List.map e_i64 a))]), (.t 1, [.data (.slc false none 1 (List.map e_i64 b))])]) (by kernel_rfl) .nil (by kernel_rfl) ?_
  refine WK.seq (by kernel_rfl) ?_
  refine WK.rs (g := [.s (.t 7) [iv (a.length : Int)], .s (.t 9) [iv (b.length : Int)]]) (l' := [(.t 0, [.data (.slc false none 1 (List.map e_i64 a))]), (.t 1, [.data (.slc false none 1 (List.map e_i64 b))]), (.t 10, [bv ((a.length : Int) != (b.length : Int))])]) (by kernel_rfl) (.cons (c_len (e := e_i64) (l := a)) (.cons (c_len (e := e_i64) (l := b)) .nil)) (by kernel_rfl) ?_
  rcases br_inv h with ⟨b3_0, h⟩ | ⟨b3_0, h⟩
  · refine WK.ct (b := ((a.length : Int) != (b.length : Int))) (by kernel_rfl) b3_0 ?_
    refine WK.rs (g := []) (l' := [(.t 4, [bv false])]) (by kernel_rfl) .nil (by kernel_rfl) ?_
    refine WK.weak (l := [(.t 4, [bv false])]) (wk_of (by kernel_rfl)) ?_
    refine WK.ret (by kernel_rfl) ?_
    have h_ := some_inj h
    subst h_
    exact WKe.fin (e' := .ret) (by kernel_rfl) (fin_of (g := []) (by first | exact .inl rfl | exact .inr rfl) .nil (by kernel_rfl))
  · refine WK.ce (b := ((a.length : Int) != (b.length : Int))) (by kernel_rfl) b3_0 ?_
    refine WK.skip (by kernel_rfl) ?_
    refine WKe.code (y := (cR (cR bd14))) (ks' := []) (by kernel_rfl) ?_
    refine WK.seq (by kernel_rfl) ?_
    refine WK.rs (g := []) (l' := [(.t 0, [.data (.slc false none 1 (List.map e_i64 a))]), (.t 1, [.data (.slc false none 1 (List.map e_i64 b))]), (.t 5, [iv 0])]) (by kernel_rfl) .nil (by kernel_rfl) ?_
    refine WK.block (n := 0) (by kernel_rfl) ?_
    obtain ⟨o13, ho13, h⟩ := bd_inv h
    refine WK.weak (l := [(.t 0, [.data (.slc false none 1 (List.map e_i64 a))]), (.t 1, [.data (.slc false none 1 (List.map e_i64 b))]), (.t 5, [iv 0])]) (wk_of (by kernel_rfl)) ?_
    refine WK.use (diwanref13_SameInts.lp6_ok fu a b _ 0 _ ho13) ?_
    intro e_ τ_ hp_
    rcases o13 with o13 | o13
    · obtain ⟨⟩ := o13
      obtain ⟨rfl, rfl⟩ := hp_
      refine WKe.code (y := (cR (cR (cR bd14)))) (ks' := []) (by kernel_rfl) ?_
      refine WK.rs (g := []) (l' := [(.t 4, [bv true])]) (by kernel_rfl) .nil (by kernel_rfl) ?_
      refine WK.weak (l := [(.t 4, [bv true])]) (wk_of (by kernel_rfl)) ?_
      refine WK.ret (by kernel_rfl) ?_
      have h_ := some_inj h
      subst h_
      exact WKe.fin (e' := .ret) (by kernel_rfl) (fin_of (g := []) (by first | exact .inl rfl | exact .inr rfl) .nil (by kernel_rfl))
    · obtain ⟨⟩ := o13
      obtain ⟨rfl, rfl⟩ := hp_
      have h_ := some_inj h
      subst h_
      exact WKe.fin (e' := .ret) (by kernel_rfl) (fin_of (g := []) (by first | exact .inl rfl | exact .inr rfl) .nil (by kernel_rfl))
/-- diwan/diwanlaw18.JudgeAll -/
noncomputable def bd3 : Code := (Try.f3.body).getD .skip
def diwanlaw18_JudgeAll.O : Nat → Nat := fun t => bif ([2, 3, 4, 5, 6, 7, 8, 9, 22, 28] : List Nat).any (Nat.beq t) then 1 else 0
noncomputable def diwanlaw18_JudgeAll (fu : Nat) (picks : List Int) : Option Bool :=
  bd (diwanlaw18_begun fu) fun r2_1 =>
  br (!r2_1)
    (some false)
    (br (decide ((picks.length : Int) > 250))
      (some true)
      (bd (diwanplay_Made picks) fun r8_1 =>
      bd (diwanplay_Picks_Txns fu 25 r8_1) fun (r8_3, r8_4) =>
      bd (judge_Fold fu r8_3) fun (r9_1, r9_2, r9_3) =>
      bd (diwanref13_Fold fu r8_3) fun (r10_1, r10_2, r10_3) =>
      bd (diwanref13_SameInts fu r9_1 r10_1) fun r11_1 =>
      br r11_1
        (bd (diwanref13_SameStore fu r9_2 r10_2) fun r11_4 =>
        br r11_4
          (bd (diwanref13_SameSeats fu r9_3 r10_3) fun r11_7 =>
          some r11_7)
          (some false))
        (some false)))
theorem diwanlaw18_JudgeAll.meets (fu : Nat) (picks : List Int) (z0 : Bool) (h : diwanlaw18_JudgeAll fu picks = some z0) : Meets Try.prog ⟨3, [.data (.slc false none 1 (List.map e_u8 picks))], []⟩ ⟨bv z0, []⟩ := by
  refine meets_of (O := diwanlaw18_JudgeAll.O) hmix (fn := Try.f3) (code := bd3) (by kernel_rfl) ?_
  refine WK.weak (l := [(.t 0, [.data (.slc false none 1 (List.map e_u8 picks))])]) (wk_of (by kernel_rfl)) ?_
  unfold diwanlaw18_JudgeAll at h
  refine WK.rs (g := []) (l' := [(.t 0, [.data (.slc false none 1 (List.map e_u8 picks))])]) (by kernel_rfl) .nil (by kernel_rfl) ?_
  refine WK.seq (by kernel_rfl) ?_
  obtain ⟨r2_1, h2_2, h⟩ := bd_inv h
  refine WK.rs (g := [.a ⟨bv r2_1, []⟩]) (l' := [(.t 0, [.data (.slc false none 1 (List.map e_u8 picks))]), (.t 11, [bv (!r2_1)])]) (by kernel_rfl) (.cons (Asks.of (C := Meets Try.prog) (diwanlaw18_begun.meets fu _ h2_2)) .nil) (by kernel_rfl) ?_
  rcases br_inv h with ⟨b3_0, h⟩ | ⟨b3_0, h⟩
  · refine WK.ct (b := (!r2_1)) (by kernel_rfl) b3_0 ?_
    refine WK.rs (g := []) (l' := [(.t 2, [bv false])]) (by kernel_rfl) .nil (by kernel_rfl) ?_
    refine WK.weak (l := [(.t 2, [bv false])]) (wk_of (by kernel_rfl)) ?_
    refine WK.ret (by kernel_rfl) ?_
    have h_ := some_inj h
    subst h_
    exact WKe.fin (e' := .ret) (by kernel_rfl) (fin_of (g := []) (by first | exact .inl rfl | exact .inr rfl) .nil (by kernel_rfl))
  · refine WK.ce (b := (!r2_1)) (by kernel_rfl) b3_0 ?_
    refine WK.skip (by kernel_rfl) ?_
    refine WKe.code (y := (cR (cR bd3))) (ks' := []) (by kernel_rfl) ?_
    refine WK.seq (by kernel_rfl) ?_
    refine WK.rs (g := [.s (.t 13) [iv (picks.length : Int)]]) (l' := [(.t 0, [.data (.slc false none 1 (List.map e_u8 picks))]), (.t 14, [bv (decide ((picks.length : Int) > 250))])]) (by kernel_rfl) (.cons (c_len (e := e_u8) (l := picks)) .nil) (by kernel_rfl) ?_
    rcases br_inv h with ⟨b6_0, h⟩ | ⟨b6_0, h⟩
    · refine WK.ct (b := (decide ((picks.length : Int) > 250))) (by kernel_rfl) b6_0 ?_
      refine WK.rs (g := []) (l' := [(.t 2, [bv true])]) (by kernel_rfl) .nil (by kernel_rfl) ?_
      refine WK.weak (l := [(.t 2, [bv true])]) (wk_of (by kernel_rfl)) ?_
      refine WK.ret (by kernel_rfl) ?_
      have h_ := some_inj h
      subst h_
      exact WKe.fin (e' := .ret) (by kernel_rfl) (fin_of (g := []) (by first | exact .inl rfl | exact .inr rfl) .nil (by kernel_rfl))
    · refine WK.ce (b := (decide ((picks.length : Int) > 250))) (by kernel_rfl) b6_0 ?_
      refine WK.skip (by kernel_rfl) ?_
      refine WKe.code (y := (cR (cR (cR bd3)))) (ks' := []) (by kernel_rfl) ?_
      obtain ⟨r8_1, h8_2, h⟩ := bd_inv h
      obtain ⟨⟨r8_3, r8_4⟩, h8_5, h⟩ := bd_inv h
      refine WK.rs (g := [.a ⟨.ptr 1000 0, [[.data (.slc false none 1 (List.map e_u8 r8_1.l)), iv r8_1.n]]⟩, .a ⟨.data (.slc true none 4 (List.map TTxn.en r8_3)), [[.data (.slc false none 1 (List.map e_u8 r8_4.l)), iv r8_4.n]]⟩]) (l' := [(.t 3, [.data (.slc true none 4 (List.map TTxn.en r8_3))])]) (by kernel_rfl) (.cons (Asks.of (C := Meets Try.prog) (diwanplay_Made.meets picks _ h8_2)) (.cons (Asks.of (C := Meets Try.prog) (diwanplay_Picks_Txns.meets fu 25 r8_1 _ _ h8_5)) .nil)) (by kernel_rfl) ?_
      obtain ⟨⟨r9_1, r9_2, r9_3⟩, h9_4, h⟩ := bd_inv h
      refine WK.rs (g := [.a ⟨.tup [.data (.slc false none 1 (List.map e_i64 r9_1)), .data (.agg [.slc false none 2 (List.map TChain.en r9_2.Chains), .val (.int .i64 r9_2.Mark)]), .data (.slc false none 3 (List.map TSeat.en r9_3))], []⟩]) (l' := [(.t 3, [.data (.slc false none 4 (List.map TTxn.en r8_3))]), (.t 4, [.data (.slc false none 1 (List.map e_i64 r9_1))]), (.t 5, [.ptr 5 0]), (.t 6, [.data (.slc false none 3 (List.map TSeat.en r9_3))]), (.o 5, [.data (.slc false none 2 (List.map TChain.en r9_2.Chains)), iv r9_2.Mark])]) (by kernel_rfl) (.cons (Asks.of (C := Meets Try.prog) (judge_Fold.meets fu r8_3 _ _ _ h9_4)) .nil) (by kernel_rfl) ?_
      obtain ⟨⟨r10_1, r10_2, r10_3⟩, h10_4, h⟩ := bd_inv h
      refine WK.rs (g := [.a ⟨.tup [.data (.slc false none 1 (List.map e_i64 r10_1)), .data (.agg [.slc false none 2 (List.map TChain.en r10_2.Chains), .val (.int .i64 r10_2.Mark)]), .data (.slc false none 3 (List.map TSeat.en r10_3))], []⟩]) (l' := [(.t 4, [.data (.slc false none 1 (List.map e_i64 r9_1))]), (.t 5, [.ptr 5 0]), (.t 6, [.data (.slc false none 3 (List.map TSeat.en r9_3))]), (.t 7, [.data (.slc false none 1 (List.map e_i64 r10_1))]), (.t 8, [.ptr 8 0]), (.t 9, [.data (.slc false none 3 (List.map TSeat.en r10_3))]), (.o 5, [.data (.slc false none 2 (List.map TChain.en r9_2.Chains)), iv r9_2.Mark]), (.o 8, [.data (.slc false none 2 (List.map TChain.en r10_2.Chains)), iv r10_2.Mark])]) (by kernel_rfl) (.cons (Asks.of (C := Meets Try.prog) (diwanref13_Fold.meets fu r8_3 _ _ _ h10_4)) .nil) (by kernel_rfl) ?_
      obtain ⟨r11_1, h11_2, h⟩ := bd_inv h
      rcases br_inv h with ⟨b11_3, h⟩ | ⟨b11_3, h⟩
      · obtain ⟨r11_4, h11_5, h⟩ := bd_inv h
        rcases br_inv h with ⟨b11_6, h⟩ | ⟨b11_6, h⟩
        · obtain ⟨r11_7, h11_8, h⟩ := bd_inv h
          refine WK.rs (g := [.a ⟨bv r11_1, []⟩, .b true, .b true, .b true, .a ⟨bv r11_4, []⟩, .b true, .b true, .b true, .b true, .a ⟨bv r11_7, []⟩, .b true]) (l' := [(.t 2, [bv r11_7])]) (by kernel_rfl) (.cons (Asks.of (C := Meets Try.prog) (diwanref13_SameInts.meets fu r9_1 r10_1 _ h11_2)) (.cons b11_3 (.cons b11_3 (.cons b11_3 (.cons (Asks.of (C := Meets Try.prog) (diwanref13_SameStore.meets fu r9_2 r10_2 _ h11_5)) (.cons b11_3 (.cons b11_6 (.cons b11_6 (.cons b11_6 (.cons (Asks.of (C := Meets Try.prog) (diwanref13_SameSeats.meets fu r9_3 r10_3 _ h11_8)) (.cons b11_6 .nil))))))))))) (by kernel_rfl) ?_
          refine WK.weak (l := [(.t 2, [bv r11_7])]) (wk_of (by kernel_rfl)) ?_
          refine WK.ret (by kernel_rfl) ?_
          have h_ := some_inj h
          subst h_
          exact WKe.fin (e' := .ret) (by kernel_rfl) (fin_of (g := []) (by first | exact .inl rfl | exact .inr rfl) .nil (by kernel_rfl))
        · refine WK.rs (g := [.a ⟨bv r11_1, []⟩, .b true, .b true, .b true, .a ⟨bv r11_4, []⟩, .b true, .b false, .b false, .b false, .b false]) (l' := [(.t 2, [bv false])]) (by kernel_rfl) (.cons (Asks.of (C := Meets Try.prog) (diwanref13_SameInts.meets fu r9_1 r10_1 _ h11_2)) (.cons b11_3 (.cons b11_3 (.cons b11_3 (.cons (Asks.of (C := Meets Try.prog) (diwanref13_SameStore.meets fu r9_2 r10_2 _ h11_5)) (.cons b11_3 (.cons b11_6 (.cons b11_6 (.cons b11_6 (.cons b11_6 .nil)))))))))) (by kernel_rfl) ?_
          refine WK.weak (l := [(.t 2, [bv false])]) (wk_of (by kernel_rfl)) ?_
          refine WK.ret (by kernel_rfl) ?_
          have h_ := some_inj h
          subst h_
          exact WKe.fin (e' := .ret) (by kernel_rfl) (fin_of (g := []) (by first | exact .inl rfl | exact .inr rfl) .nil (by kernel_rfl))
      · refine WK.rs (g := [.a ⟨bv r11_1, []⟩, .b false, .b false, .b false, .b false, .b false, .b false, .b false, .b false]) (l' := [(.t 2, [bv false])]) (by kernel_rfl) (.cons (Asks.of (C := Meets Try.prog) (diwanref13_SameInts.meets fu r9_1 r10_1 _ h11_2)) (.cons b11_3 (.cons b11_3 (.cons b11_3 (.cons b11_3 (.cons (Eq.refl false) (.cons (Eq.refl false) (.cons (Eq.refl false) (.cons (Eq.refl false) .nil))))))))) (by kernel_rfl) ?_
        refine WK.weak (l := [(.t 2, [bv false])]) (wk_of (by kernel_rfl)) ?_
        refine WK.ret (by kernel_rfl) ?_
        have h_ := some_inj h
        subst h_
        exact WKe.fin (e' := .ret) (by kernel_rfl) (fin_of (g := []) (by first | exact .inl rfl | exact .inr rfl) .nil (by kernel_rfl))
end Go.Proofs.Ytknkeabmjleoiaa.Told
