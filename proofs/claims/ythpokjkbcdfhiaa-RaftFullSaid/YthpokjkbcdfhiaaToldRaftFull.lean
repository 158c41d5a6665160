/- Functions of the program told as Lean functions, with the walks of their code in the machine by value. -/
import Derived.Test.YthpokjkbcdfhiaaProg
import Derived.Test.YthpokjkbcdfhiaaVam2
import Derived.Test.YthpokjkbcdfhiaaToldRaftFullp1
namespace Go.Proofs.Ythpokjkbcdfhiaa.Told
open Go Go.Proofs Go.Proofs.Ythpokjkbcdfhiaa Go.Proofs.Ythpokjkbcdfhiaa.Vam
set_option linter.unusedVariables false
set_option maxRecDepth 100000
/-- slices.Equal[[]diwan/api.Write,diwan/api.Write] -/
noncomputable def bd94 : Code := (Try.f94.body).getD .skip
def slices_Equal_api_Write.O : Nat → Nat := fun t => bif ([4, 5] : List Nat).any (Nat.beq t) then 1 else 0
noncomputable def slices_Equal_api_Write.lp6 (fu : Nat) (l6_0 : List TWrite) (l6_1 : List TWrite) (l6_2 : Int) : Nat → Int → Option (Unit ⊕ Unit)
  | 0, _ => none
  | n_ + 1, l6_3 =>
    br (decide (l6_3 < l6_2))
      (ix l6_0 l6_3 fun x10_1 =>
      ix l6_1 l6_3 fun x10_4 =>
      br (!((x10_1.Key.toList == x10_4.Key.toList) && ((x10_1.Val.toList == x10_4.Val.toList) && ((x10_1.Gone == x10_4.Gone) && true))))
        (some (.inr ()))
        (slices_Equal_api_Write.lp6 fu l6_0 l6_1 l6_2 n_ (w64 (l6_3 + 1))))
      (some (.inl ()))
noncomputable def slices_Equal_api_Write.lp6_post (l6_0 : List TWrite) (l6_1 : List TWrite) (l6_2 : Int) (r_ : (Unit ⊕ Unit)) : Wy → St → Prop := fun e τ => match r_ with
  | .inl _ => e = .exit 0 ∧ τ = ofL []
  | .inr _ => e = .ret ∧ τ = ofL [(.t 4, [bv false])]
theorem slices_Equal_api_Write.lp6_ok (fu : Nat) (l6_0 : List TWrite) (l6_1 : List TWrite) (l6_2 : Int) : ∀ (n_ : Nat) (l6_3 : Int) (r_ : (Unit ⊕ Unit)), slices_Equal_api_Write.lp6 fu l6_0 l6_1 l6_2 n_ l6_3 = some r_ → WK Try.prog slices_Equal_api_Write.O (Ck Try.prog) (cB (cR (cL (cR (cR bd94))))) [] (ofL [(.t 0, [.data (.slc false none 3 (List.map TWrite.en l6_0))]), (.t 1, [.data (.slc false none 3 (List.map TWrite.en l6_1))]), (.t 12, [iv l6_2]), (.t 13, [iv l6_3])]) (slices_Equal_api_Write.lp6_post l6_0 l6_1 l6_2 r_) := by
  intro n_
  induction n_ with
  | zero => intro l6_3 r_ h; exact no_none h
  | succ n_ ih =>
    intro l6_3 r_ h
    refine WK.loop (by kernel_rfl) ?_
    refine WK.rs (g := []) (l' := [(.t 0, [.data (.slc false none 3 (List.map TWrite.en l6_0))]), (.t 1, [.data (.slc false none 3 (List.map TWrite.en l6_1))]), (.t 12, [iv l6_2]), (.t 13, [iv l6_3]), (.t 14, [bv (decide (l6_3 < l6_2))])]) (by kernel_rfl) .nil (by kernel_rfl) ?_
    refine WK.seq (by kernel_rfl) ?_
    rcases br_inv h with ⟨b8_0, h⟩ | ⟨b8_0, h⟩
    · refine WK.ct (b := (decide (l6_3 < l6_2))) (by kernel_rfl) b8_0 ?_
      refine WK.skip (by kernel_rfl) ?_
      refine WKe.code (y := (cR (cR (cB (cB (cR (cL (cR (cR bd94))))))))) (ks' := [.lp (cB (cR (cL (cR (cR bd94)))))]) (by kernel_rfl) ?_
      refine WK.seq (by kernel_rfl) ?_
      refine WK.block (n := 1) (by kernel_rfl) ?_
      refine WK.rs (g := []) (l' := [(.t 0, [.data (.slc false none 3 (List.map TWrite.en l6_0))]), (.t 1, [.data (.slc false none 3 (List.map TWrite.en l6_1))]), (.t 5, [iv l6_3]), (.t 12, [iv l6_2]), (.t 13, [iv l6_3])]) (by kernel_rfl) .nil (by kernel_rfl) ?_
      obtain ⟨x10_1, a10_2, e10_3, h⟩ := ix_inv h
      obtain ⟨x10_4, a10_5, e10_6, h⟩ := ix_inv h
      refine WK.rs (g := [.c (TWrite.en x10_1), .c (TWrite.en x10_4)]) (l' := [(.t 0, [.data (.slc false none 3 (List.map TWrite.en l6_0))]), (.t 1, [.data (.slc false none 3 (List.map TWrite.en l6_1))]), (.t 12, [iv l6_2]), (.t 13, [iv l6_3]), (.t 24, [bv (!((x10_1.Key.toList == x10_4.Key.toList) && ((x10_1.Val.toList == x10_4.Val.toList) && ((x10_1.Gone == x10_4.Gone) && true))))])]) (by kernel_rfl) (.cons (c_ix (e := TWrite.en) a10_2 e10_3) (.cons (c_el (e := TWrite.en) e10_3) (.cons (c_ix (e := TWrite.en) a10_5 e10_6) (.cons (c_el (e := TWrite.en) e10_6) (.cons (Eq.refl true) .nil))))) (by kernel_rfl) ?_
      rcases br_inv h with ⟨b11_0, h⟩ | ⟨b11_0, h⟩
      · refine WK.ct (b := (!((x10_1.Key.toList == x10_4.Key.toList) && ((x10_1.Val.toList == x10_4.Val.toList) && ((x10_1.Gone == x10_4.Gone) && true))))) (by kernel_rfl) b11_0 ?_
        refine WK.rs (g := []) (l' := [(.t 4, [bv false])]) (by kernel_rfl) .nil (by kernel_rfl) ?_
        refine WK.weak (l := [(.t 4, [bv false])]) (wk_of (by kernel_rfl)) ?_
        refine WK.ret (by kernel_rfl) ?_
        cases some_inj h
        exact WKe.fin (e' := .ret) (by kernel_rfl) ⟨rfl, rfl⟩
      · refine WK.ce (b := (!((x10_1.Key.toList == x10_4.Key.toList) && ((x10_1.Val.toList == x10_4.Val.toList) && ((x10_1.Gone == x10_4.Gone) && true))))) (by kernel_rfl) b11_0 ?_
        refine WK.skip (by kernel_rfl) ?_
        refine WKe.code (y := (cR (cR (cR (cB (cB (cR (cL (cR (cR bd94)))))))))) (ks' := [.lp (cB (cR (cL (cR (cR bd94)))))]) (by kernel_rfl) ?_
        refine WK.rc (g := []) (l' := [(.t 0, [.data (.slc false none 3 (List.map TWrite.en l6_0))]), (.t 1, [.data (.slc false none 3 (List.map TWrite.en l6_1))]), (.t 12, [iv l6_2]), (.t 13, [iv (w64 (l6_3 + 1))])]) .nil (by kernel_rfl) (y := (cB (cR (cL (cR (cR bd94)))))) (ks' := []) (by kernel_rfl) ?_
        exact WK.weak (l := [(.t 0, [.data (.slc false none 3 (List.map TWrite.en l6_0))]), (.t 1, [.data (.slc false none 3 (List.map TWrite.en l6_1))]), (.t 12, [iv l6_2]), (.t 13, [iv (w64 (l6_3 + 1))])]) (wk_of (by kernel_rfl)) (ih (w64 (l6_3 + 1)) _ h)
    · refine WK.ce (b := (decide (l6_3 < l6_2))) (by kernel_rfl) b8_0 ?_
      refine WK.weak (l := []) (wk_of (by kernel_rfl)) ?_
      refine WK.exit (n := 0) (by kernel_rfl) ?_
      cases some_inj h
      exact WKe.fin (e' := .exit 0) (by kernel_rfl) ⟨rfl, rfl⟩
noncomputable def slices_Equal_api_Write (fu : Nat) (s1 : List TWrite) (s2 : List TWrite) : Option Bool :=
  br ((s1.length : Int) != (s2.length : Int))
    (some false)
    (bd (slices_Equal_api_Write.lp6 fu s1 s2 (s1.length : Int) fu 0) fun o_ => (match o_ with
    | .inl _ =>
      some true
    | .inr _ =>
      some false))
theorem slices_Equal_api_Write.meets (fu : Nat) (s1 : List TWrite) (s2 : List TWrite) (z0 : Bool) (h : slices_Equal_api_Write fu s1 s2 = some z0) : Meets Try.prog ⟨94, [.data (.slc false none 3 (List.map TWrite.en s1)), .data (.slc false none 3 (List.map TWrite.en s2))], []⟩ ⟨bv z0, []⟩ := by
  refine meets_of (O := slices_Equal_api_Write.O) hmix (fn := Try.f94) (code := bd94) (by kernel_rfl) ?_
  refine WK.weak (l := [(.t 0, [.data (.slc false none 3 (List.map TWrite.en s1))]), (.t 1, [.data (.slc false none 3 (List.map TWrite.en s2))])]) (wk_of (by kernel_rfl)) ?_
  unfold slices_Equal_api_Write at h
  refine WK.rs (g := []) (l' := [(.t 0, [.data (.slc false none 3 (List.map TWrite.en s1))]), (.t 1, [.data (.slc false none 3 (List.map TWrite.en s2))])]) (by kernel_rfl) .nil (by kernel_rfl) ?_
  refine WK.seq (by kernel_rfl) ?_
  refine WK.rs (g := [.s (.t 7) [iv (s1.length : Int)], .s (.t 9) [iv (s2.length : Int)]]) (l' := [(.t 0, [.data (.slc false none 3 (List.map TWrite.en s1))]), (.t 1, [.data (.slc false none 3 (List.map TWrite.en s2))]), (.t 10, [bv ((s1.length : Int) != (s2.length : Int))])]) (by kernel_rfl) (.cons (c_len (e := TWrite.en) (l := s1)) (.cons (c_len (e := TWrite.en) (l := s2)) .nil)) (by kernel_rfl) ?_
  rcases br_inv h with ⟨b3_0, h⟩ | ⟨b3_0, h⟩
  · refine WK.ct (b := ((s1.length : Int) != (s2.length : Int))) (by kernel_rfl) b3_0 ?_
    refine WK.rs (g := []) (l' := [(.t 4, [bv false])]) (by kernel_rfl) .nil (by kernel_rfl) ?_
    refine WK.weak (l := [(.t 4, [bv false])]) (wk_of (by kernel_rfl)) ?_
    refine WK.ret (by kernel_rfl) ?_
    have h_ := some_inj h
    subst h_
    exact WKe.fin (e' := .ret) (by kernel_rfl) (fin_of (g := []) (by first | exact .inl rfl | exact .inr rfl) .nil (by kernel_rfl))
  · refine WK.ce (b := ((s1.length : Int) != (s2.length : Int))) (by kernel_rfl) b3_0 ?_
    refine WK.skip (by kernel_rfl) ?_
    refine WKe.code (y := (cR (cR bd94))) (ks' := []) (by kernel_rfl) ?_
    refine WK.seq (by kernel_rfl) ?_
    refine WK.rs (g := [.s (.t 12) [iv (s1.length : Int)]]) (l' := [(.t 0, [.data (.slc false none 3 (List.map TWrite.en s1))]), (.t 1, [.data (.slc false none 3 (List.map TWrite.en s2))]), (.t 12, [iv (s1.length : Int)]), (.t 13, [iv 0])]) (by kernel_rfl) (.cons (c_len (e := TWrite.en) (l := s1)) .nil) (by kernel_rfl) ?_
    refine WK.block (n := 0) (by kernel_rfl) ?_
    obtain ⟨o14, ho14, h⟩ := bd_inv h
    refine WK.weak (l := [(.t 0, [.data (.slc false none 3 (List.map TWrite.en s1))]), (.t 1, [.data (.slc false none 3 (List.map TWrite.en s2))]), (.t 12, [iv (s1.length : Int)]), (.t 13, [iv 0])]) (wk_of (by kernel_rfl)) ?_
    refine WK.use (slices_Equal_api_Write.lp6_ok fu s1 s2 (s1.length : Int) _ 0 _ ho14) ?_
    intro e_ τ_ hp_
    rcases o14 with o14 | o14
    · obtain ⟨⟩ := o14
      obtain ⟨rfl, rfl⟩ := hp_
      refine WKe.code (y := (cR (cR (cR bd94)))) (ks' := []) (by kernel_rfl) ?_
      refine WK.rs (g := []) (l' := [(.t 4, [bv true])]) (by kernel_rfl) .nil (by kernel_rfl) ?_
      refine WK.weak (l := [(.t 4, [bv true])]) (wk_of (by kernel_rfl)) ?_
      refine WK.ret (by kernel_rfl) ?_
      have h_ := some_inj h
      subst h_
      exact WKe.fin (e' := .ret) (by kernel_rfl) (fin_of (g := []) (by first | exact .inl rfl | exact .inr rfl) .nil (by kernel_rfl))
    · obtain ⟨⟩ := o14
      obtain ⟨rfl, rfl⟩ := hp_
      have h_ := some_inj h
      subst h_
      exact WKe.fin (e' := .ret) (by kernel_rfl) (fin_of (g := []) (by first | exact .inl rfl | exact .inr rfl) .nil (by kernel_rfl))
/-- diwan/ulog.same -/
noncomputable def bd70 : Code := (Try.f70.body).getD .skip
def ulog_same.O : Nat → Nat := fun t => bif ([2, 3, 4] : List Nat).any (Nat.beq t) then 1 else 0
noncomputable def ulog_same (fu : Nat) (a : TEntry) (b : TEntry) : Option Bool :=
  br (a.Term == b.Term)
    (br (a.Seal == b.Seal)
      (br (a.T.Session == b.T.Session)
        (br (a.T.Seq == b.T.Seq)
          (bd (slices_Equal_api_Read fu a.T.Reads b.T.Reads) fun r2_5 =>
          br r2_5
            (bd (slices_Equal_api_Write fu a.T.Writes b.T.Writes) fun r2_8 =>
            some r2_8)
            (some false))
          (some false))
        (some false))
      (some false))
    (some false)
theorem ulog_same.meets (fu : Nat) (a : TEntry) (b : TEntry) (z0 : Bool) (h : ulog_same fu a b = some z0) : Meets Try.prog ⟨70, [.data (TEntry.ag a), .data (TEntry.ag b)], []⟩ ⟨bv z0, []⟩ := by
  refine meets_of (O := ulog_same.O) hmix (fn := Try.f70) (code := bd70) (by kernel_rfl) ?_
  refine WK.weak (l := [(.t 0, [.data (TEntry.ag a)]), (.t 1, [.data (TEntry.ag b)])]) (wk_of (by kernel_rfl)) ?_
  unfold ulog_same at h
  refine WK.rs (g := []) (l' := [(.t 2, [.ptr 2 0]), (.t 3, [.ptr 3 0]), (.o 2, (TEntry.ob a)), (.o 3, (TEntry.ob b))]) (by kernel_rfl) .nil (by kernel_rfl) ?_
  rcases br_inv h with ⟨b2_1, h⟩ | ⟨b2_1, h⟩
  · rcases br_inv h with ⟨b2_2, h⟩ | ⟨b2_2, h⟩
    · rcases br_inv h with ⟨b2_3, h⟩ | ⟨b2_3, h⟩
      · rcases br_inv h with ⟨b2_4, h⟩ | ⟨b2_4, h⟩
        · obtain ⟨r2_5, h2_6, h⟩ := bd_inv h
          rcases br_inv h with ⟨b2_7, h⟩ | ⟨b2_7, h⟩
          · obtain ⟨r2_8, h2_9, h⟩ := bd_inv h
            refine WK.rs (g := [.b true, .b true, .b true, .b true, .b true, .b true, .b true, .b true, .b true, .b true, .b true, .b true, .b true, .b true, .b true, .b true, .b true, .b true, .b true, .b true, .b true, .b true, .b true, .b true, .b true, .b true, .b true, .b true, .b true, .a ⟨bv r2_5, []⟩, .b true, .b true, .b true, .b true, .b true, .b true, .b true, .b true, .a ⟨bv r2_8, []⟩, .b true]) (l' := [(.t 4, [bv r2_8])]) (by kernel_rfl) (.cons b2_1 (.cons b2_1 (.cons b2_1 (.cons b2_1 (.cons b2_1 (.cons b2_1 (.cons b2_2 (.cons b2_2 (.cons b2_2 (.cons b2_2 (.cons b2_2 (.cons b2_2 (.cons b2_2 (.cons b2_2 (.cons b2_3 (.cons b2_3 (.cons b2_3 (.cons b2_3 (.cons b2_3 (.cons b2_3 (.cons b2_3 (.cons b2_3 (.cons b2_4 (.cons b2_4 (.cons b2_4 (.cons b2_4 (.cons b2_4 (.cons b2_4 (.cons b2_4 (.cons (Asks.of (C := Meets Try.prog) (slices_Equal_api_Read.meets fu a.T.Reads b.T.Reads _ h2_6)) (.cons b2_4 (.cons b2_7 (.cons b2_7 (.cons b2_7 (.cons b2_7 (.cons b2_7 (.cons b2_7 (.cons b2_7 (.cons (Asks.of (C := Meets Try.prog) (slices_Equal_api_Write.meets fu a.T.Writes b.T.Writes _ h2_9)) (.cons b2_7 .nil)))))))))))))))))))))))))))))))))))))))) (by kernel_rfl) ?_
            refine WK.weak (l := [(.t 4, [bv r2_8])]) (wk_of (by kernel_rfl)) ?_
            refine WK.ret (by kernel_rfl) ?_
            have h_ := some_inj h
            subst h_
            exact WKe.fin (e' := .ret) (by kernel_rfl) (fin_of (g := []) (by first | exact .inl rfl | exact .inr rfl) .nil (by kernel_rfl))
          · refine WK.rs (g := [.b true, .b true, .b true, .b true, .b true, .b true, .b true, .b true, .b true, .b true, .b true, .b true, .b true, .b true, .b true, .b true, .b true, .b true, .b true, .b true, .b true, .b true, .b true, .b true, .b true, .b true, .b true, .b true, .b true, .a ⟨bv r2_5, []⟩, .b true, .b false, .b false, .b false, .b false, .b false, .b false, .b false, .b false]) (l' := [(.t 4, [bv false])]) (by kernel_rfl) (.cons b2_1 (.cons b2_1 (.cons b2_1 (.cons b2_1 (.cons b2_1 (.cons b2_1 (.cons b2_2 (.cons b2_2 (.cons b2_2 (.cons b2_2 (.cons b2_2 (.cons b2_2 (.cons b2_2 (.cons b2_2 (.cons b2_3 (.cons b2_3 (.cons b2_3 (.cons b2_3 (.cons b2_3 (.cons b2_3 (.cons b2_3 (.cons b2_3 (.cons b2_4 (.cons b2_4 (.cons b2_4 (.cons b2_4 (.cons b2_4 (.cons b2_4 (.cons b2_4 (.cons (Asks.of (C := Meets Try.prog) (slices_Equal_api_Read.meets fu a.T.Reads b.T.Reads _ h2_6)) (.cons b2_4 (.cons b2_7 (.cons b2_7 (.cons b2_7 (.cons b2_7 (.cons b2_7 (.cons b2_7 (.cons b2_7 (.cons b2_7 .nil))))))))))))))))))))))))))))))))))))))) (by kernel_rfl) ?_
            refine WK.weak (l := [(.t 4, [bv false])]) (wk_of (by kernel_rfl)) ?_
            refine WK.ret (by kernel_rfl) ?_
            have h_ := some_inj h
            subst h_
            exact WKe.fin (e' := .ret) (by kernel_rfl) (fin_of (g := []) (by first | exact .inl rfl | exact .inr rfl) .nil (by kernel_rfl))
        · refine WK.rs (g := [.b true, .b true, .b true, .b true, .b true, .b true, .b true, .b true, .b true, .b true, .b true, .b true, .b true, .b true, .b true, .b true, .b true, .b true, .b true, .b true, .b true, .b true, .b false, .b false, .b false, .b false, .b false, .b false, .b false, .b false, .b false, .b false, .b false, .b false, .b false, .b false, .b false, .b false]) (l' := [(.t 4, [bv false])]) (by kernel_rfl) (.cons b2_1 (.cons b2_1 (.cons b2_1 (.cons b2_1 (.cons b2_1 (.cons b2_1 (.cons b2_2 (.cons b2_2 (.cons b2_2 (.cons b2_2 (.cons b2_2 (.cons b2_2 (.cons b2_2 (.cons b2_2 (.cons b2_3 (.cons b2_3 (.cons b2_3 (.cons b2_3 (.cons b2_3 (.cons b2_3 (.cons b2_3 (.cons b2_3 (.cons b2_4 (.cons b2_4 (.cons b2_4 (.cons b2_4 (.cons b2_4 (.cons b2_4 (.cons b2_4 (.cons b2_4 (.cons (Eq.refl false) (.cons (Eq.refl false) (.cons (Eq.refl false) (.cons (Eq.refl false) (.cons (Eq.refl false) (.cons (Eq.refl false) (.cons (Eq.refl false) (.cons (Eq.refl false) .nil)))))))))))))))))))))))))))))))))))))) (by kernel_rfl) ?_
          refine WK.weak (l := [(.t 4, [bv false])]) (wk_of (by kernel_rfl)) ?_
          refine WK.ret (by kernel_rfl) ?_
          have h_ := some_inj h
          subst h_
          exact WKe.fin (e' := .ret) (by kernel_rfl) (fin_of (g := []) (by first | exact .inl rfl | exact .inr rfl) .nil (by kernel_rfl))
      · refine WK.rs (g := [.b true, .b true, .b true, .b true, .b true, .b true, .b true, .b true, .b true, .b true, .b true, .b true, .b true, .b true, .b false, .b false, .b false, .b false, .b false, .b false, .b false, .b false, .b false, .b false, .b false, .b false, .b false, .b false, .b false, .b false, .b false, .b false, .b false, .b false, .b false, .b false, .b false, .b false]) (l' := [(.t 4, [bv false])]) (by kernel_rfl) (.cons b2_1 (.cons b2_1 (.cons b2_1 (.cons b2_1 (.cons b2_1 (.cons b2_1 (.cons b2_2 (.cons b2_2 (.cons b2_2 (.cons b2_2 (.cons b2_2 (.cons b2_2 (.cons b2_2 (.cons b2_2 (.cons b2_3 (.cons b2_3 (.cons b2_3 (.cons b2_3 (.cons b2_3 (.cons b2_3 (.cons b2_3 (.cons b2_3 (.cons (Eq.refl false) (.cons (Eq.refl false) (.cons (Eq.refl false) (.cons (Eq.refl false) (.cons (Eq.refl false) (.cons (Eq.refl false) (.cons (Eq.refl false) (.cons (Eq.refl false) (.cons (Eq.refl false) (.cons (Eq.refl false) (.cons (Eq.refl false) (.cons (Eq.refl false) (.cons (Eq.refl false) (.cons (Eq.refl false) (.cons (Eq.refl false) (.cons (Eq.refl false) .nil)))))))))))))))))))))))))))))))))))))) (by kernel_rfl) ?_
        refine WK.weak (l := [(.t 4, [bv false])]) (wk_of (by kernel_rfl)) ?_
        refine WK.ret (by kernel_rfl) ?_
        have h_ := some_inj h
        subst h_
        exact WKe.fin (e' := .ret) (by kernel_rfl) (fin_of (g := []) (by first | exact .inl rfl | exact .inr rfl) .nil (by kernel_rfl))
    · refine WK.rs (g := [.b true, .b true, .b true, .b true, .b true, .b true, .b false, .b false, .b false, .b false, .b false, .b false, .b false, .b false, .b false, .b false, .b false, .b false, .b false, .b false, .b false, .b false, .b false, .b false, .b false, .b false, .b false, .b false, .b false, .b false, .b false, .b false, .b false, .b false, .b false, .b false, .b false, .b false]) (l' := [(.t 4, [bv false])]) (by kernel_rfl) (.cons b2_1 (.cons b2_1 (.cons b2_1 (.cons b2_1 (.cons b2_1 (.cons b2_1 (.cons b2_2 (.cons b2_2 (.cons b2_2 (.cons b2_2 (.cons b2_2 (.cons b2_2 (.cons b2_2 (.cons b2_2 (.cons (Eq.refl false) (.cons (Eq.refl false) (.cons (Eq.refl false) (.cons (Eq.refl false) (.cons (Eq.refl false) (.cons (Eq.refl false) (.cons (Eq.refl false) (.cons (Eq.refl false) (.cons (Eq.refl false) (.cons (Eq.refl false) (.cons (Eq.refl false) (.cons (Eq.refl false) (.cons (Eq.refl false) (.cons (Eq.refl false) (.cons (Eq.refl false) (.cons (Eq.refl false) (.cons (Eq.refl false) (.cons (Eq.refl false) (.cons (Eq.refl false) (.cons (Eq.refl false) (.cons (Eq.refl false) (.cons (Eq.refl false) (.cons (Eq.refl false) (.cons (Eq.refl false) .nil)))))))))))))))))))))))))))))))))))))) (by kernel_rfl) ?_
      refine WK.weak (l := [(.t 4, [bv false])]) (wk_of (by kernel_rfl)) ?_
      refine WK.ret (by kernel_rfl) ?_
      have h_ := some_inj h
      subst h_
      exact WKe.fin (e' := .ret) (by kernel_rfl) (fin_of (g := []) (by first | exact .inl rfl | exact .inr rfl) .nil (by kernel_rfl))
  · refine WK.rs (g := [.b false, .b false, .b false, .b false, .b false, .b false, .b false, .b false, .b false, .b false, .b false, .b false, .b false, .b false, .b false, .b false, .b false, .b false, .b false, .b false, .b false, .b false, .b false, .b false, .b false, .b false, .b false, .b false, .b false, .b false, .b false, .b false, .b false, .b false, .b false, .b false, .b false, .b false]) (l' := [(.t 4, [bv false])]) (by kernel_rfl) (.cons b2_1 (.cons b2_1 (.cons b2_1 (.cons b2_1 (.cons b2_1 (.cons b2_1 (.cons (Eq.refl false) (.cons (Eq.refl false) (.cons (Eq.refl false) (.cons (Eq.refl false) (.cons (Eq.refl false) (.cons (Eq.refl false) (.cons (Eq.refl false) (.cons (Eq.refl false) (.cons (Eq.refl false) (.cons (Eq.refl false) (.cons (Eq.refl false) (.cons (Eq.refl false) (.cons (Eq.refl false) (.cons (Eq.refl false) (.cons (Eq.refl false) (.cons (Eq.refl false) (.cons (Eq.refl false) (.cons (Eq.refl false) (.cons (Eq.refl false) (.cons (Eq.refl false) (.cons (Eq.refl false) (.cons (Eq.refl false) (.cons (Eq.refl false) (.cons (Eq.refl false) (.cons (Eq.refl false) (.cons (Eq.refl false) (.cons (Eq.refl false) (.cons (Eq.refl false) (.cons (Eq.refl false) (.cons (Eq.refl false) (.cons (Eq.refl false) (.cons (Eq.refl false) .nil)))))))))))))))))))))))))))))))))))))) (by kernel_rfl) ?_
    refine WK.weak (l := [(.t 4, [bv false])]) (wk_of (by kernel_rfl)) ?_
    refine WK.ret (by kernel_rfl) ?_
    have h_ := some_inj h
    subst h_
    exact WKe.fin (e' := .ret) (by kernel_rfl) (fin_of (g := []) (by first | exact .inl rfl | exact .inr rfl) .nil (by kernel_rfl))
/-- slices.EqualFunc[[]diwan/api.Entry,[]diwan/api.Entry,diwan/api.Entry,diwan/api.Entry] -/
noncomputable def bd69 : Code := (Try.f69.body).getD .skip
def slices_EqualFunc_api_Entry.O : Nat → Nat := fun t => bif ([6, 7, 8, 9] : List Nat).any (Nat.beq t) then 1 else 0
noncomputable def slices_EqualFunc_api_Entry.lp6 (fu : Nat) (l6_0 : List TEntry) (l6_1 : List TEntry) (l6_2 : Int) : Nat → Int → Option (Unit ⊕ Unit)
  | 0, _ => none
  | n_ + 1, l6_3 =>
    br (decide (l6_3 < l6_2))
      (ix l6_1 l6_3 fun x9_1 =>
      ix l6_0 l6_3 fun x10_1 =>
      bd (ulog_same fu x9_1 x10_1) fun r11_1 =>
      br (!r11_1)
        (some (.inr ()))
        (slices_EqualFunc_api_Entry.lp6 fu l6_0 l6_1 l6_2 n_ (w64 (l6_3 + 1))))
      (some (.inl ()))
noncomputable def slices_EqualFunc_api_Entry.lp6_post (l6_0 : List TEntry) (l6_1 : List TEntry) (l6_2 : Int) (r_ : (Unit ⊕ Unit)) : Wy → St → Prop := fun e τ => match r_ with
  | .inl _ => e = .exit 0 ∧ τ = ofL []
  | .inr _ => e = .ret ∧ τ = ofL [(.t 6, [bv false])]
theorem slices_EqualFunc_api_Entry.lp6_ok (fu : Nat) (l6_0 : List TEntry) (l6_1 : List TEntry) (l6_2 : Int) : ∀ (n_ : Nat) (l6_3 : Int) (r_ : (Unit ⊕ Unit)), slices_EqualFunc_api_Entry.lp6 fu l6_0 l6_1 l6_2 n_ l6_3 = some r_ → WK Try.prog slices_EqualFunc_api_Entry.O (Ck Try.prog) (cB (cR (cL (cR (cR bd69))))) [] (ofL [(.t 1, [.data (.slc false none 6 (List.map TEntry.en l6_0))]), (.t 2, [.fn (.func 70) [] []]), (.t 15, [.data (.slc false none 6 (List.map TEntry.en l6_1))]), (.t 16, [iv l6_2]), (.t 17, [iv l6_3])]) (slices_EqualFunc_api_Entry.lp6_post l6_0 l6_1 l6_2 r_) := by
  intro n_
  induction n_ with
  | zero => intro l6_3 r_ h; exact no_none h
  | succ n_ ih =>
    intro l6_3 r_ h
    refine WK.loop (by kernel_rfl) ?_
    refine WK.rs (g := []) (l' := [(.t 1, [.data (.slc false none 6 (List.map TEntry.en l6_0))]), (.t 2, [.fn (.func 70) [] []]), (.t 15, [.data (.slc false none 6 (List.map TEntry.en l6_1))]), (.t 16, [iv l6_2]), (.t 17, [iv l6_3]), (.t 18, [bv (decide (l6_3 < l6_2))])]) (by kernel_rfl) .nil (by kernel_rfl) ?_
    refine WK.seq (by kernel_rfl) ?_
    rcases br_inv h with ⟨b8_0, h⟩ | ⟨b8_0, h⟩
    · refine WK.ct (b := (decide (l6_3 < l6_2))) (by kernel_rfl) b8_0 ?_
      refine WK.skip (by kernel_rfl) ?_
      refine WKe.code (y := (cR (cR (cB (cB (cR (cL (cR (cR bd69))))))))) (ks' := [.lp (cB (cR (cL (cR (cR bd69)))))]) (by kernel_rfl) ?_
      refine WK.seq (by kernel_rfl) ?_
      refine WK.block (n := 1) (by kernel_rfl) ?_
      obtain ⟨x9_1, a9_2, e9_3, h⟩ := ix_inv h
      refine WK.rs (g := [.c (TEntry.en x9_1)]) (l' := [(.t 1, [.data (.slc false none 6 (List.map TEntry.en l6_0))]), (.t 2, [.fn (.func 70) [] []]), (.t 7, [iv l6_3]), (.t 8, [.ptr 8 0]), (.t 15, [.data (.slc false none 6 (List.map TEntry.en l6_1))]), (.t 16, [iv l6_2]), (.t 17, [iv l6_3]), (.o 8, (TEntry.ob x9_1))]) (by kernel_rfl) (.cons (c_ix (e := TEntry.en) a9_2 e9_3) (.cons (c_el (e := TEntry.en) e9_3) .nil)) (by kernel_rfl) ?_
      obtain ⟨x10_1, a10_2, e10_3, h⟩ := ix_inv h
      refine WK.rs (g := [.c (TEntry.en x10_1)]) (l' := [(.t 1, [.data (.slc false none 6 (List.map TEntry.en l6_0))]), (.t 2, [.fn (.func 70) [] []]), (.t 8, [.ptr 8 0]), (.t 9, [.ptr 9 0]), (.t 15, [.data (.slc false none 6 (List.map TEntry.en l6_1))]), (.t 16, [iv l6_2]), (.t 17, [iv l6_3]), (.o 8, (TEntry.ob x9_1)), (.o 9, (TEntry.ob x10_1))]) (by kernel_rfl) (.cons (c_ix (e := TEntry.en) a10_2 e10_3) (.cons (c_el (e := TEntry.en) e10_3) .nil)) (by kernel_rfl) ?_
      obtain ⟨r11_1, h11_2, h⟩ := bd_inv h
      refine WK.rs (g := [.a ⟨bv r11_1, []⟩]) (l' := [(.t 1, [.data (.slc false none 6 (List.map TEntry.en l6_0))]), (.t 2, [.fn (.func 70) [] []]), (.t 15, [.data (.slc false none 6 (List.map TEntry.en l6_1))]), (.t 16, [iv l6_2]), (.t 17, [iv l6_3]), (.t 30, [bv (!r11_1)])]) (by kernel_rfl) (.cons (Asks.of (C := Meets Try.prog) (ulog_same.meets fu x9_1 x10_1 _ h11_2)) .nil) (by kernel_rfl) ?_
      rcases br_inv h with ⟨b12_0, h⟩ | ⟨b12_0, h⟩
      · refine WK.ct (b := (!r11_1)) (by kernel_rfl) b12_0 ?_
        refine WK.rs (g := []) (l' := [(.t 6, [bv false])]) (by kernel_rfl) .nil (by kernel_rfl) ?_
        refine WK.weak (l := [(.t 6, [bv false])]) (wk_of (by kernel_rfl)) ?_
        refine WK.ret (by kernel_rfl) ?_
        cases some_inj h
        exact WKe.fin (e' := .ret) (by kernel_rfl) ⟨rfl, rfl⟩
      · refine WK.ce (b := (!r11_1)) (by kernel_rfl) b12_0 ?_
        refine WK.skip (by kernel_rfl) ?_
        refine WKe.code (y := (cR (cR (cR (cB (cB (cR (cL (cR (cR bd69)))))))))) (ks' := [.lp (cB (cR (cL (cR (cR bd69)))))]) (by kernel_rfl) ?_
        refine WK.rc (g := []) (l' := [(.t 1, [.data (.slc false none 6 (List.map TEntry.en l6_0))]), (.t 2, [.fn (.func 70) [] []]), (.t 15, [.data (.slc false none 6 (List.map TEntry.en l6_1))]), (.t 16, [iv l6_2]), (.t 17, [iv (w64 (l6_3 + 1))])]) .nil (by kernel_rfl) (y := (cB (cR (cL (cR (cR bd69)))))) (ks' := []) (by kernel_rfl) ?_
        exact WK.weak (l := [(.t 1, [.data (.slc false none 6 (List.map TEntry.en l6_0))]), (.t 2, [.fn (.func 70) [] []]), (.t 15, [.data (.slc false none 6 (List.map TEntry.en l6_1))]), (.t 16, [iv l6_2]), (.t 17, [iv (w64 (l6_3 + 1))])]) (wk_of (by kernel_rfl)) (ih (w64 (l6_3 + 1)) _ h)
    · refine WK.ce (b := (decide (l6_3 < l6_2))) (by kernel_rfl) b8_0 ?_
      refine WK.weak (l := []) (wk_of (by kernel_rfl)) ?_
      refine WK.exit (n := 0) (by kernel_rfl) ?_
      cases some_inj h
      exact WKe.fin (e' := .exit 0) (by kernel_rfl) ⟨rfl, rfl⟩
noncomputable def slices_EqualFunc_api_Entry (fu : Nat) (s1 : List TEntry) (s2 : List TEntry) : Option Bool :=
  br ((s1.length : Int) != (s2.length : Int))
    (some false)
    (bd (slices_EqualFunc_api_Entry.lp6 fu s2 s1 (s1.length : Int) fu 0) fun o_ => (match o_ with
    | .inl _ =>
      some true
    | .inr _ =>
      some false))
theorem slices_EqualFunc_api_Entry.meets (fu : Nat) (s1 : List TEntry) (s2 : List TEntry) (z0 : Bool) (h : slices_EqualFunc_api_Entry fu s1 s2 = some z0) : Meets Try.prog ⟨69, [.data (.slc false none 6 (List.map TEntry.en s1)), .data (.slc false none 6 (List.map TEntry.en s2)), .fn (.func 70) [] []], []⟩ ⟨bv z0, []⟩ := by
  refine meets_of (O := slices_EqualFunc_api_Entry.O) hmix (fn := Try.f69) (code := bd69) (by kernel_rfl) ?_
  refine WK.weak (l := [(.t 0, [.data (.slc false none 6 (List.map TEntry.en s1))]), (.t 1, [.data (.slc false none 6 (List.map TEntry.en s2))]), (.t 2, [.fn (.func 70) [] []])]) (wk_of (by kernel_rfl)) ?_
  unfold slices_EqualFunc_api_Entry at h
  refine WK.rs (g := []) (l' := [(.t 0, [.data (.slc false none 6 (List.map TEntry.en s1))]), (.t 1, [.data (.slc false none 6 (List.map TEntry.en s2))]), (.t 2, [.fn (.func 70) [] []])]) (by kernel_rfl) .nil (by kernel_rfl) ?_
  refine WK.seq (by kernel_rfl) ?_
  refine WK.rs (g := [.s (.t 11) [iv (s1.length : Int)], .s (.t 13) [iv (s2.length : Int)]]) (l' := [(.t 0, [.data (.slc false none 6 (List.map TEntry.en s1))]), (.t 1, [.data (.slc false none 6 (List.map TEntry.en s2))]), (.t 2, [.fn (.func 70) [] []]), (.t 14, [bv ((s1.length : Int) != (s2.length : Int))])]) (by kernel_rfl) (.cons (c_len (e := TEntry.en) (l := s1)) (.cons (c_len (e := TEntry.en) (l := s2)) .nil)) (by kernel_rfl) ?_
  rcases br_inv h with ⟨b3_0, h⟩ | ⟨b3_0, h⟩
  · refine WK.ct (b := ((s1.length : Int) != (s2.length : Int))) (by kernel_rfl) b3_0 ?_
    refine WK.rs (g := []) (l' := [(.t 6, [bv false])]) (by kernel_rfl) .nil (by kernel_rfl) ?_
    refine WK.weak (l := [(.t 6, [bv false])]) (wk_of (by kernel_rfl)) ?_
    refine WK.ret (by kernel_rfl) ?_
    have h_ := some_inj h
    subst h_
    exact WKe.fin (e' := .ret) (by kernel_rfl) (fin_of (g := []) (by first | exact .inl rfl | exact .inr rfl) .nil (by kernel_rfl))
  · refine WK.ce (b := ((s1.length : Int) != (s2.length : Int))) (by kernel_rfl) b3_0 ?_
    refine WK.skip (by kernel_rfl) ?_
    refine WKe.code (y := (cR (cR bd69))) (ks' := []) (by kernel_rfl) ?_
    refine WK.seq (by kernel_rfl) ?_
    refine WK.rs (g := [.s (.t 16) [iv (s1.length : Int)]]) (l' := [(.t 1, [.data (.slc false none 6 (List.map TEntry.en s2))]), (.t 2, [.fn (.func 70) [] []]), (.t 15, [.data (.slc false none 6 (List.map TEntry.en s1))]), (.t 16, [iv (s1.length : Int)]), (.t 17, [iv 0])]) (by kernel_rfl) (.cons (c_len (e := TEntry.en) (l := s1)) .nil) (by kernel_rfl) ?_
    refine WK.block (n := 0) (by kernel_rfl) ?_
    obtain ⟨o15, ho15, h⟩ := bd_inv h
    refine WK.weak (l := [(.t 1, [.data (.slc false none 6 (List.map TEntry.en s2))]), (.t 2, [.fn (.func 70) [] []]), (.t 15, [.data (.slc false none 6 (List.map TEntry.en s1))]), (.t 16, [iv (s1.length : Int)]), (.t 17, [iv 0])]) (wk_of (by kernel_rfl)) ?_
    refine WK.use (slices_EqualFunc_api_Entry.lp6_ok fu s2 s1 (s1.length : Int) _ 0 _ ho15) ?_
    intro e_ τ_ hp_
    rcases o15 with o15 | o15
    · obtain ⟨⟩ := o15
      obtain ⟨rfl, rfl⟩ := hp_
      refine WKe.code (y := (cR (cR (cR bd69)))) (ks' := []) (by kernel_rfl) ?_
      refine WK.rs (g := []) (l' := [(.t 6, [bv true])]) (by kernel_rfl) .nil (by kernel_rfl) ?_
      refine WK.weak (l := [(.t 6, [bv true])]) (wk_of (by kernel_rfl)) ?_
      refine WK.ret (by kernel_rfl) ?_
      have h_ := some_inj h
      subst h_
      exact WKe.fin (e' := .ret) (by kernel_rfl) (fin_of (g := []) (by first | exact .inl rfl | exact .inr rfl) .nil (by kernel_rfl))
    · obtain ⟨⟩ := o15
      obtain ⟨rfl, rfl⟩ := hp_
      have h_ := some_inj h
      subst h_
      exact WKe.fin (e' := .ret) (by kernel_rfl) (fin_of (g := []) (by first | exact .inl rfl | exact .inr rfl) .nil (by kernel_rfl))
/-- diwan/ulog.Same -/
noncomputable def bd42 : Code := (Try.f42.body).getD .skip
def ulog_Same.O : Nat → Nat := fun t => bif ([4] : List Nat).any (Nat.beq t) then 1 else 0
noncomputable def ulog_Same (fu : Nat) (a : List TEntry) (b : List TEntry) : Option Bool :=
  bd (slices_EqualFunc_api_Entry fu a b) fun r2_1 =>
  some r2_1
theorem ulog_Same.meets (fu : Nat) (a : List TEntry) (b : List TEntry) (z0 : Bool) (h : ulog_Same fu a b = some z0) : Meets Try.prog ⟨42, [.data (.slc false none 6 (List.map TEntry.en a)), .data (.slc false none 6 (List.map TEntry.en b))], []⟩ ⟨bv z0, []⟩ := by
  refine meets_of (O := ulog_Same.O) hmix (fn := Try.f42) (code := bd42) (by kernel_rfl) ?_
  refine WK.weak (l := [(.t 0, [.data (.slc false none 6 (List.map TEntry.en a))]), (.t 1, [.data (.slc false none 6 (List.map TEntry.en b))])]) (wk_of (by kernel_rfl)) ?_
  unfold ulog_Same at h
  refine WK.rs (g := []) (l' := [(.t 0, [.data (.slc false none 6 (List.map TEntry.en a))]), (.t 1, [.data (.slc false none 6 (List.map TEntry.en b))])]) (by kernel_rfl) .nil (by kernel_rfl) ?_
  obtain ⟨r2_1, h2_2, h⟩ := bd_inv h
  refine WK.rs (g := [.a ⟨bv r2_1, []⟩]) (l' := [(.t 4, [bv r2_1])]) (by kernel_rfl) (.cons (Asks.of (C := Meets Try.prog) (slices_EqualFunc_api_Entry.meets fu a b _ h2_2)) .nil) (by kernel_rfl) ?_
  refine WK.weak (l := [(.t 4, [bv r2_1])]) (wk_of (by kernel_rfl)) ?_
  refine WK.ret (by kernel_rfl) ?_
  have h_ := some_inj h
  subst h_
  exact WKe.fin (e' := .ret) (by kernel_rfl) (fin_of (g := []) (by first | exact .inl rfl | exact .inr rfl) .nil (by kernel_rfl))
/-- slices.Equal[[]bool,bool] -/
noncomputable def bd43 : Code := (Try.f43.body).getD .skip
def slices_Equal_bool_bool.O : Nat → Nat := fun t => bif ([4, 5] : List Nat).any (Nat.beq t) then 1 else 0
noncomputable def slices_Equal_bool_bool.lp6 (fu : Nat) (l6_0 : List Bool) (l6_1 : List Bool) (l6_2 : Int) : Nat → Int → Option (Unit ⊕ Unit)
  | 0, _ => none
  | n_ + 1, l6_3 =>
    br (decide (l6_3 < l6_2))
      (ix l6_0 l6_3 fun x10_1 =>
      ix l6_1 l6_3 fun x10_4 =>
      br (!(x10_1 == x10_4))
        (some (.inr ()))
        (slices_Equal_bool_bool.lp6 fu l6_0 l6_1 l6_2 n_ (w64 (l6_3 + 1))))
      (some (.inl ()))
noncomputable def slices_Equal_bool_bool.lp6_post (l6_0 : List Bool) (l6_1 : List Bool) (l6_2 : Int) (r_ : (Unit ⊕ Unit)) : Wy → St → Prop := fun e τ => match r_ with
  | .inl _ => e = .exit 0 ∧ τ = ofL []
  | .inr _ => e = .ret ∧ τ = ofL [(.t 4, [bv false])]
theorem slices_Equal_bool_bool.lp6_ok (fu : Nat) (l6_0 : List Bool) (l6_1 : List Bool) (l6_2 : Int) : ∀ (n_ : Nat) (l6_3 : Int) (r_ : (Unit ⊕ Unit)), slices_Equal_bool_bool.lp6 fu l6_0 l6_1 l6_2 n_ l6_3 = some r_ → WK Try.prog slices_Equal_bool_bool.O (Ck Try.prog) (cB (cR (cL (cR (cR bd43))))) [] (ofL [(.t 0, [.data (.slc false none 1 (List.map e_b l6_0))]), (.t 1, [.data (.slc false none 1 (List.map e_b l6_1))]), (.t 12, [iv l6_2]), (.t 13, [iv l6_3])]) (slices_Equal_bool_bool.lp6_post l6_0 l6_1 l6_2 r_) := by
  intro n_
  induction n_ with
  | zero => intro l6_3 r_ h; exact no_none h
  | succ n_ ih =>
    intro l6_3 r_ h
    refine WK.loop (by kernel_rfl) ?_
    refine WK.rs (g := []) (l' := [(.t 0, [.data (.slc false none 1 (List.map e_b l6_0))]), (.t 1, [.data (.slc false none 1 (List.map e_b l6_1))]), (.t 12, [iv l6_2]), (.t 13, [iv l6_3]), (.t 14, [bv (decide (l6_3 < l6_2))])]) (by kernel_rfl) .nil (by kernel_rfl) ?_
    refine WK.seq (by kernel_rfl) ?_
    rcases br_inv h with ⟨b8_0, h⟩ | ⟨b8_0, h⟩
    · refine WK.ct (b := (decide (l6_3 < l6_2))) (by kernel_rfl) b8_0 ?_
      refine WK.skip (by kernel_rfl) ?_
      refine WKe.code (y := (cR (cR (cB (cB (cR (cL (cR (cR bd43))))))))) (ks' := [.lp (cB (cR (cL (cR (cR bd43)))))]) (by kernel_rfl) ?_
      refine WK.seq (by kernel_rfl) ?_
      refine WK.block (n := 1) (by kernel_rfl) ?_
      refine WK.rs (g := []) (l' := [(.t 0, [.data (.slc false none 1 (List.map e_b l6_0))]), (.t 1, [.data (.slc false none 1 (List.map e_b l6_1))]), (.t 5, [iv l6_3]), (.t 12, [iv l6_2]), (.t 13, [iv l6_3])]) (by kernel_rfl) .nil (by kernel_rfl) ?_
      obtain ⟨x10_1, a10_2, e10_3, h⟩ := ix_inv h
      obtain ⟨x10_4, a10_5, e10_6, h⟩ := ix_inv h
      refine WK.rs (g := [.c (e_b x10_1), .c (e_b x10_4)]) (l' := [(.t 0, [.data (.slc false none 1 (List.map e_b l6_0))]), (.t 1, [.data (.slc false none 1 (List.map e_b l6_1))]), (.t 12, [iv l6_2]), (.t 13, [iv l6_3]), (.t 24, [bv (!(x10_1 == x10_4))])]) (by kernel_rfl) (.cons (c_ix (e := e_b) a10_2 e10_3) (.cons (c_el (e := e_b) e10_3) (.cons (c_ix (e := e_b) a10_5 e10_6) (.cons (c_el (e := e_b) e10_6) (.cons (Eq.refl true) .nil))))) (by kernel_rfl) ?_
      rcases br_inv h with ⟨b11_0, h⟩ | ⟨b11_0, h⟩
      · refine WK.ct (b := (!(x10_1 == x10_4))) (by kernel_rfl) b11_0 ?_
        refine WK.rs (g := []) (l' := [(.t 4, [bv false])]) (by kernel_rfl) .nil (by kernel_rfl) ?_
        refine WK.weak (l := [(.t 4, [bv false])]) (wk_of (by kernel_rfl)) ?_
        refine WK.ret (by kernel_rfl) ?_
        cases some_inj h
        exact WKe.fin (e' := .ret) (by kernel_rfl) ⟨rfl, rfl⟩
      · refine WK.ce (b := (!(x10_1 == x10_4))) (by kernel_rfl) b11_0 ?_
        refine WK.skip (by kernel_rfl) ?_
        refine WKe.code (y := (cR (cR (cR (cB (cB (cR (cL (cR (cR bd43)))))))))) (ks' := [.lp (cB (cR (cL (cR (cR bd43)))))]) (by kernel_rfl) ?_
        refine WK.rc (g := []) (l' := [(.t 0, [.data (.slc false none 1 (List.map e_b l6_0))]), (.t 1, [.data (.slc false none 1 (List.map e_b l6_1))]), (.t 12, [iv l6_2]), (.t 13, [iv (w64 (l6_3 + 1))])]) .nil (by kernel_rfl) (y := (cB (cR (cL (cR (cR bd43)))))) (ks' := []) (by kernel_rfl) ?_
        exact WK.weak (l := [(.t 0, [.data (.slc false none 1 (List.map e_b l6_0))]), (.t 1, [.data (.slc false none 1 (List.map e_b l6_1))]), (.t 12, [iv l6_2]), (.t 13, [iv (w64 (l6_3 + 1))])]) (wk_of (by kernel_rfl)) (ih (w64 (l6_3 + 1)) _ h)
    · refine WK.ce (b := (decide (l6_3 < l6_2))) (by kernel_rfl) b8_0 ?_
      refine WK.weak (l := []) (wk_of (by kernel_rfl)) ?_
      refine WK.exit (n := 0) (by kernel_rfl) ?_
      cases some_inj h
      exact WKe.fin (e' := .exit 0) (by kernel_rfl) ⟨rfl, rfl⟩
noncomputable def slices_Equal_bool_bool (fu : Nat) (s1 : List Bool) (s2 : List Bool) : Option Bool :=
  br ((s1.length : Int) != (s2.length : Int))
    (some false)
    (bd (slices_Equal_bool_bool.lp6 fu s1 s2 (s1.length : Int) fu 0) fun o_ => (match o_ with
    | .inl _ =>
      some true
    | .inr _ =>
      some false))
theorem slices_Equal_bool_bool.meets (fu : Nat) (s1 : List Bool) (s2 : List Bool) (z0 : Bool) (h : slices_Equal_bool_bool fu s1 s2 = some z0) : Meets Try.prog ⟨43, [.data (.slc false none 1 (List.map e_b s1)), .data (.slc false none 1 (List.map e_b s2))], []⟩ ⟨bv z0, []⟩ := by
  refine meets_of (O := slices_Equal_bool_bool.O) hmix (fn := Try.f43) (code := bd43) (by kernel_rfl) ?_
  refine WK.weak (l := [(.t 0, [.data (.slc false none 1 (List.map e_b s1))]), (.t 1, [.data (.slc false none 1 (List.map e_b s2))])]) (wk_of (by kernel_rfl)) ?_
  unfold slices_Equal_bool_bool at h
  refine WK.rs (g := []) (l' := [(.t 0, [.data (.slc false none 1 (List.map e_b s1))]), (.t 1, [.data (.slc false none 1 (List.map e_b s2))])]) (by kernel_rfl) .nil (by kernel_rfl) ?_
  refine WK.seq (by kernel_rfl) ?_
  refine WK.rs (g := [.s (.t 7) [iv (s1.length : Int)], .s (.t 9) [iv (s2.length : Int)]]) (l' := [(.t 0, [.data (.slc false none 1 (List.map e_b s1))]), (.t 1, [.data (.slc false none 1 (List.map e_b s2))]), (.t 10, [bv ((s1.length : Int) != (s2.length : Int))])]) (by kernel_rfl) (.cons (c_len (e := e_b) (l := s1)) (.cons (c_len (e := e_b) (l := s2)) .nil)) (by kernel_rfl) ?_
  rcases br_inv h with ⟨b3_0, h⟩ | ⟨b3_0, h⟩
  · refine WK.ct (b := ((s1.length : Int) != (s2.length : Int))) (by kernel_rfl) b3_0 ?_
    refine WK.rs (g := []) (l' := [(.t 4, [bv false])]) (by kernel_rfl) .nil (by kernel_rfl) ?_
    refine WK.weak (l := [(.t 4, [bv false])]) (wk_of (by kernel_rfl)) ?_
    refine WK.ret (by kernel_rfl) ?_
    have h_ := some_inj h
    subst h_
    exact WKe.fin (e' := .ret) (by kernel_rfl) (fin_of (g := []) (by first | exact .inl rfl | exact .inr rfl) .nil (by kernel_rfl))
  · refine WK.ce (b := ((s1.length : Int) != (s2.length : Int))) (by kernel_rfl) b3_0 ?_
    refine WK.skip (by kernel_rfl) ?_
    refine WKe.code (y := (cR (cR bd43))) (ks' := []) (by kernel_rfl) ?_
    refine WK.seq (by kernel_rfl) ?_
    refine WK.rs (g := [.s (.t 12) [iv (s1.length : Int)]]) (l' := [(.t 0, [.data (.slc false none 1 (List.map e_b s1))]), (.t 1, [.data (.slc false none 1 (List.map e_b s2))]), (.t 12, [iv (s1.length : Int)]), (.t 13, [iv 0])]) (by kernel_rfl) (.cons (c_len (e := e_b) (l := s1)) .nil) (by kernel_rfl) ?_
    refine WK.block (n := 0) (by kernel_rfl) ?_
    obtain ⟨o14, ho14, h⟩ := bd_inv h
    refine WK.weak (l := [(.t 0, [.data (.slc false none 1 (List.map e_b s1))]), (.t 1, [.data (.slc false none 1 (List.map e_b s2))]), (.t 12, [iv (s1.length : Int)]), (.t 13, [iv 0])]) (wk_of (by kernel_rfl)) ?_
    refine WK.use (slices_Equal_bool_bool.lp6_ok fu s1 s2 (s1.length : Int) _ 0 _ ho14) ?_
    intro e_ τ_ hp_
    rcases o14 with o14 | o14
    · obtain ⟨⟩ := o14
      obtain ⟨rfl, rfl⟩ := hp_
      refine WKe.code (y := (cR (cR (cR bd43)))) (ks' := []) (by kernel_rfl) ?_
      refine WK.rs (g := []) (l' := [(.t 4, [bv true])]) (by kernel_rfl) .nil (by kernel_rfl) ?_
      refine WK.weak (l := [(.t 4, [bv true])]) (wk_of (by kernel_rfl)) ?_
      refine WK.ret (by kernel_rfl) ?_
      have h_ := some_inj h
      subst h_
      exact WKe.fin (e' := .ret) (by kernel_rfl) (fin_of (g := []) (by first | exact .inl rfl | exact .inr rfl) .nil (by kernel_rfl))
    · obtain ⟨⟩ := o14
      obtain ⟨rfl, rfl⟩ := hp_
      have h_ := some_inj h
      subst h_
      exact WKe.fin (e' := .ret) (by kernel_rfl) (fin_of (g := []) (by first | exact .inl rfl | exact .inr rfl) .nil (by kernel_rfl))
/-- slices.Equal[[]int,int] -/
noncomputable def bd44 : Code := (Try.f44.body).getD .skip
def slices_Equal_int_int.O : Nat → Nat := fun t => bif ([4, 5] : List Nat).any (Nat.beq t) then 1 else 0
noncomputable def slices_Equal_int_int.lp6 (fu : Nat) (l6_0 : List Int) (l6_1 : List Int) (l6_2 : Int) : Nat → Int → Option (Unit ⊕ Unit)
  | 0, _ => none
  | n_ + 1, l6_3 =>
    br (decide (l6_3 < l6_2))
      (ix l6_0 l6_3 fun x10_1 =>
      ix l6_1 l6_3 fun x10_4 =>
      br (x10_1 != x10_4)
        (some (.inr ()))
        (slices_Equal_int_int.lp6 fu l6_0 l6_1 l6_2 n_ (w64 (l6_3 + 1))))
      (some (.inl ()))
noncomputable def slices_Equal_int_int.lp6_post (l6_0 : List Int) (l6_1 : List Int) (l6_2 : Int) (r_ : (Unit ⊕ Unit)) : Wy → St → Prop := fun e τ => match r_ with
  | .inl _ => e = .exit 0 ∧ τ = ofL []
  | .inr _ => e = .ret ∧ τ = ofL [(.t 4, [bv false])]
theorem slices_Equal_int_int.lp6_ok (fu : Nat) (l6_0 : List Int) (l6_1 : List Int) (l6_2 : Int) : ∀ (n_ : Nat) (l6_3 : Int) (r_ : (Unit ⊕ Unit)), slices_Equal_int_int.lp6 fu l6_0 l6_1 l6_2 n_ l6_3 = some r_ → WK Try.prog slices_Equal_int_int.O (Ck Try.prog) (cB (cR (cL (cR (cR bd44))))) [] (ofL [(.t 0, [.data (.slc false none 1 (List.map e_i64 l6_0))]), (.t 1, [.data (.slc false none 1 (List.map e_i64 l6_1))]), (.t 12, [iv l6_2]), (.t 13, [iv l6_3])]) (slices_Equal_int_int.lp6_post l6_0 l6_1 l6_2 r_) := by
  intro n_
  induction n_ with
  | zero => intro l6_3 r_ h; exact no_none h
  | succ n_ ih =>
    intro l6_3 r_ h
    refine WK.loop (by kernel_rfl) ?_
    refine WK.rs (g := []) (l' := [(.t 0, [.data (.slc false none 1 (List.map e_i64 l6_0))]), (.t 1, [.data (.slc false none 1 (List.map e_i64 l6_1))]), (.t 12, [iv l6_2]), (.t 13, [iv l6_3]), (.t 14, [bv (decide (l6_3 < l6_2))])]) (by kernel_rfl) .nil (by kernel_rfl) ?_
    refine WK.seq (by kernel_rfl) ?_
    rcases br_inv h with ⟨b8_0, h⟩ | ⟨b8_0, h⟩
    · refine WK.ct (b := (decide (l6_3 < l6_2))) (by kernel_rfl) b8_0 ?_
      refine WK.skip (by kernel_rfl) ?_
      refine WKe.code (y := (cR (cR (cB (cB (cR (cL (cR (cR bd44))))))))) (ks' := [.lp (cB (cR (cL (cR (cR bd44)))))]) (by kernel_rfl) ?_
      refine WK.seq (by kernel_rfl) ?_
      refine WK.block (n := 1) (by kernel_rfl) ?_
      refine WK.rs (g := []) (l' := [(.t 0, [.data (.slc false none 1 (List.map e_i64 l6_0))]), (.t 1, [.data (.slc false none 1 (List.map e_i64 l6_1))]), (.t 5, [iv l6_3]), (.t 12, [iv l6_2]), (.t 13, [iv l6_3])]) (by kernel_rfl) .nil (by kernel_rfl) ?_
      obtain ⟨x10_1, a10_2, e10_3, h⟩ := ix_inv h
      obtain ⟨x10_4, a10_5, e10_6, h⟩ := ix_inv h
      refine WK.rs (g := [.c (e_i64 x10_1), .c (e_i64 x10_4)]) (l' := [(.t 0, [.data (.slc false none 1 (List.map e_i64 l6_0))]), (.t 1, [.data (.slc false none 1 (List.map e_i64 l6_1))]), (.t 12, [iv l6_2]), (.t 13, [iv l6_3]), (.t 24, [bv (x10_1 != x10_4)])]) (by kernel_rfl) (.cons (c_ix (e := e_i64) a10_2 e10_3) (.cons (c_el (e := e_i64) e10_3) (.cons (c_ix (e := e_i64) a10_5 e10_6) (.cons (c_el (e := e_i64) e10_6) (.cons (Eq.refl true) .nil))))) (by kernel_rfl) ?_
      rcases br_inv h with ⟨b11_0, h⟩ | ⟨b11_0, h⟩
      · refine WK.ct (b := (x10_1 != x10_4)) (by kernel_rfl) b11_0 ?_
        refine WK.rs (g := []) (l' := [(.t 4, [bv false])]) (by kernel_rfl) .nil (by kernel_rfl) ?_
        refine WK.weak (l := [(.t 4, [bv false])]) (wk_of (by kernel_rfl)) ?_
        refine WK.ret (by kernel_rfl) ?_
        cases some_inj h
        exact WKe.fin (e' := .ret) (by kernel_rfl) ⟨rfl, rfl⟩
      · refine WK.ce (b := (x10_1 != x10_4)) (by kernel_rfl) b11_0 ?_
        refine WK.skip (by kernel_rfl) ?_
        refine WKe.code (y := (cR (cR (cR (cB (cB (cR (cL (cR (cR bd44)))))))))) (ks' := [.lp (cB (cR (cL (cR (cR bd44)))))]) (by kernel_rfl) ?_
        refine WK.rc (g := []) (l' := [(.t 0, [.data (.slc false none 1 (List.map e_i64 l6_0))]), (.t 1, [.data (.slc false none 1 (List.map e_i64 l6_1))]), (.t 12, [iv l6_2]), (.t 13, [iv (w64 (l6_3 + 1))])]) .nil (by kernel_rfl) (y := (cB (cR (cL (cR (cR bd44)))))) (ks' := []) (by kernel_rfl) ?_
        exact WK.weak (l := [(.t 0, [.data (.slc false none 1 (List.map e_i64 l6_0))]), (.t 1, [.data (.slc false none 1 (List.map e_i64 l6_1))]), (.t 12, [iv l6_2]), (.t 13, [iv (w64 (l6_3 + 1))])]) (wk_of (by kernel_rfl)) (ih (w64 (l6_3 + 1)) _ h)
    · refine WK.ce (b := (decide (l6_3 < l6_2))) (by kernel_rfl) b8_0 ?_
      refine WK.weak (l := []) (wk_of (by kernel_rfl)) ?_
      refine WK.exit (n := 0) (by kernel_rfl) ?_
      cases some_inj h
      exact WKe.fin (e' := .exit 0) (by kernel_rfl) ⟨rfl, rfl⟩
noncomputable def slices_Equal_int_int (fu : Nat) (s1 : List Int) (s2 : List Int) : Option Bool :=
  br ((s1.length : Int) != (s2.length : Int))
    (some false)
    (bd (slices_Equal_int_int.lp6 fu s1 s2 (s1.length : Int) fu 0) fun o_ => (match o_ with
    | .inl _ =>
      some true
    | .inr _ =>
      some false))
theorem slices_Equal_int_int.meets (fu : Nat) (s1 : List Int) (s2 : List Int) (z0 : Bool) (h : slices_Equal_int_int fu s1 s2 = some z0) : Meets Try.prog ⟨44, [.data (.slc false none 1 (List.map e_i64 s1)), .data (.slc false none 1 (List.map e_i64 s2))], []⟩ ⟨bv z0, []⟩ := by
  refine meets_of (O := slices_Equal_int_int.O) hmix (fn := Try.f44) (code := bd44) (by kernel_rfl) ?_
  refine WK.weak (l := [(.t 0, [.data (.slc false none 1 (List.map e_i64 s1))]), (.t 1, [.data (.slc false none 1 (List.map e_i64 s2))])]) (wk_of (by kernel_rfl)) ?_
  unfold slices_Equal_int_int at h
  refine WK.rs (g := []) (l' := [(.t 0, [.data (.slc false none 1 (List.map e_i64 s1))]), (.t 1, [.data (.slc false none 1 (List.map e_i64 s2))])]) (by kernel_rfl) .nil (by kernel_rfl) ?_
  refine WK.seq (by kernel_rfl) ?_
  refine WK.rs (g := [.s (.t 7) [iv (s1.length : Int)], .s (.t 9) [iv (s2.length : Int)]]) (l' := [(.t 0, [.data (.slc false none 1 (List.map e_i64 s1))]), (.t 1, [.data (.slc false none 1 (List.map e_i64 s2))]), (.t 10, [bv ((s1.length : Int) != (s2.length : Int))])]) (by kernel_rfl) (.cons (c_len (e := e_i64) (l := s1)) (.cons (c_len (e := e_i64) (l := s2)) .nil)) (by kernel_rfl) ?_
  rcases br_inv h with ⟨b3_0, h⟩ | ⟨b3_0, h⟩
  · refine WK.ct (b := ((s1.length : Int) != (s2.length : Int))) (by kernel_rfl) b3_0 ?_
    refine WK.rs (g := []) (l' := [(.t 4, [bv false])]) (by kernel_rfl) .nil (by kernel_rfl) ?_
    refine WK.weak (l := [(.t 4, [bv false])]) (wk_of (by kernel_rfl)) ?_
    refine WK.ret (by kernel_rfl) ?_
    have h_ := some_inj h
    subst h_
    exact WKe.fin (e' := .ret) (by kernel_rfl) (fin_of (g := []) (by first | exact .inl rfl | exact .inr rfl) .nil (by kernel_rfl))
  · refine WK.ce (b := ((s1.length : Int) != (s2.length : Int))) (by kernel_rfl) b3_0 ?_
    refine WK.skip (by kernel_rfl) ?_
    refine WKe.code (y := (cR (cR bd44))) (ks' := []) (by kernel_rfl) ?_
    refine WK.seq (by kernel_rfl) ?_
    refine WK.rs (g := [.s (.t 12) [iv (s1.length : Int)]]) (l' := [(.t 0, [.data (.slc false none 1 (List.map e_i64 s1))]), (.t 1, [.data (.slc false none 1 (List.map e_i64 s2))]), (.t 12, [iv (s1.length : Int)]), (.t 13, [iv 0])]) (by kernel_rfl) (.cons (c_len (e := e_i64) (l := s1)) .nil) (by kernel_rfl) ?_
    refine WK.block (n := 0) (by kernel_rfl) ?_
    obtain ⟨o14, ho14, h⟩ := bd_inv h
    refine WK.weak (l := [(.t 0, [.data (.slc false none 1 (List.map e_i64 s1))]), (.t 1, [.data (.slc false none 1 (List.map e_i64 s2))]), (.t 12, [iv (s1.length : Int)]), (.t 13, [iv 0])]) (wk_of (by kernel_rfl)) ?_
    refine WK.use (slices_Equal_int_int.lp6_ok fu s1 s2 (s1.length : Int) _ 0 _ ho14) ?_
    intro e_ τ_ hp_
    rcases o14 with o14 | o14
    · obtain ⟨⟩ := o14
      obtain ⟨rfl, rfl⟩ := hp_
      refine WKe.code (y := (cR (cR (cR bd44)))) (ks' := []) (by kernel_rfl) ?_
      refine WK.rs (g := []) (l' := [(.t 4, [bv true])]) (by kernel_rfl) .nil (by kernel_rfl) ?_
      refine WK.weak (l := [(.t 4, [bv true])]) (wk_of (by kernel_rfl)) ?_
      refine WK.ret (by kernel_rfl) ?_
      have h_ := some_inj h
      subst h_
      exact WKe.fin (e' := .ret) (by kernel_rfl) (fin_of (g := []) (by first | exact .inl rfl | exact .inr rfl) .nil (by kernel_rfl))
    · obtain ⟨⟩ := o14
      obtain ⟨rfl, rfl⟩ := hp_
      have h_ := some_inj h
      subst h_
      exact WKe.fin (e' := .ret) (by kernel_rfl) (fin_of (g := []) (by first | exact .inl rfl | exact .inr rfl) .nil (by kernel_rfl))
/-- diwan/raft.Same -/
noncomputable def bd18 : Code := (Try.f18.body).getD .skip
def raft_Same.O : Nat → Nat := fun t => bif ([2, 3, 4] : List Nat).any (Nat.beq t) then 1 else 0
noncomputable def raft_Same (fu : Nat) (a : TRaft) (b : TRaft) : Option Bool :=
  br (a.Me == b.Me)
    (br (a.Nodes == b.Nodes)
      (br (a.Wait == b.Wait)
        (br (a.Term == b.Term)
          (br (a.Vote == b.Vote)
            (bd (ulog_Same fu a.Log b.Log) fun r2_6 =>
            br r2_6
              (br (a.Commit == b.Commit)
                (br (a.Role == b.Role)
                  (br (a.Leader == b.Leader)
                    (bd (slices_Equal_bool_bool fu a.Votes b.Votes) fun r2_12 =>
                    br r2_12
                      (bd (slices_Equal_int_int fu a.Next b.Next) fun r2_15 =>
                      br r2_15
                        (bd (slices_Equal_int_int fu a.Match b.Match) fun r2_18 =>
                        br r2_18
                          (some (a.Clock == b.Clock))
                          (some false))
                        (some false))
                      (some false))
                    (some false))
                  (some false))
                (some false))
              (some false))
            (some false))
          (some false))
        (some false))
      (some false))
    (some false)
theorem raft_Same.meets (fu : Nat) (a : TRaft) (b : TRaft) (z0 : Bool) (h : raft_Same fu a b = some z0) : Meets Try.prog ⟨18, [.data (TRaft.ag a), .data (TRaft.ag b)], []⟩ ⟨bv z0, []⟩ := by
  refine meets_of (O := raft_Same.O) hmix (fn := Try.f18) (code := bd18) (by kernel_rfl) ?_
  refine WK.weak (l := [(.t 0, [.data (TRaft.ag a)]), (.t 1, [.data (TRaft.ag b)])]) (wk_of (by kernel_rfl)) ?_
  unfold raft_Same at h
  refine WK.rs (g := []) (l' := [(.t 2, [.ptr 2 0]), (.t 3, [.ptr 3 0]), (.o 2, (TRaft.ob a)), (.o 3, (TRaft.ob b))]) (by kernel_rfl) .nil (by kernel_rfl) ?_
  rcases br_inv h with ⟨b2_1, h⟩ | ⟨b2_1, h⟩
  · rcases br_inv h with ⟨b2_2, h⟩ | ⟨b2_2, h⟩
    · rcases br_inv h with ⟨b2_3, h⟩ | ⟨b2_3, h⟩
      · rcases br_inv h with ⟨b2_4, h⟩ | ⟨b2_4, h⟩
        · rcases br_inv h with ⟨b2_5, h⟩ | ⟨b2_5, h⟩
          · obtain ⟨r2_6, h2_7, h⟩ := bd_inv h
            rcases br_inv h with ⟨b2_8, h⟩ | ⟨b2_8, h⟩
            · rcases br_inv h with ⟨b2_9, h⟩ | ⟨b2_9, h⟩
              · rcases br_inv h with ⟨b2_10, h⟩ | ⟨b2_10, h⟩
                · rcases br_inv h with ⟨b2_11, h⟩ | ⟨b2_11, h⟩
                  · obtain ⟨r2_12, h2_13, h⟩ := bd_inv h
                    rcases br_inv h with ⟨b2_14, h⟩ | ⟨b2_14, h⟩
                    · obtain ⟨r2_15, h2_16, h⟩ := bd_inv h
                      rcases br_inv h with ⟨b2_17, h⟩ | ⟨b2_17, h⟩
                      · obtain ⟨r2_18, h2_19, h⟩ := bd_inv h
                        rcases br_inv h with ⟨b2_20, h⟩ | ⟨b2_20, h⟩
                        · refine WK.rs (g := [.b true, .b true, .b true, .b true, .b true, .b true, .b true, .b true, .b true, .b true, .b true, .b true, .b true, .b true, .b true, .b true, .b true, .b true, .b true, .b true, .b true, .b true, .b true, .b true, .b true, .b true, .b true, .b true, .b true, .a ⟨bv r2_6, []⟩, .b true, .b true, .b true, .b true, .b true, .b true, .b true, .b true, .b true, .b true, .b true, .b true, .b true, .b true, .b true, .b true, .b true, .b true, .b true, .b true, .b true, .b true, .b true, .b true, .a ⟨bv r2_12, []⟩, .b true, .b true, .b true, .b true, .b true, .b true, .a ⟨bv r2_15, []⟩, .b true, .b true, .b true, .b true, .b true, .b true, .a ⟨bv r2_18, []⟩, .b true, .b true, .b true, .b true, .b true, .b true, .b true]) (l' := [(.t 4, [bv (a.Clock == b.Clock)])]) (by kernel_rfl) (.cons b2_1 (.cons b2_1 (.cons b2_1 (.cons b2_1 (.cons b2_1 (.cons b2_1 (.cons b2_2 (.cons b2_2 (.cons b2_2 (.cons b2_2 (.cons b2_2 (.cons b2_2 (.cons b2_3 (.cons b2_3 (.cons b2_3 (.cons b2_3 (.cons b2_3 (.cons b2_3 (.cons b2_4 (.cons b2_4 (.cons b2_4 (.cons b2_4 (.cons b2_4 (.cons b2_4 (.cons b2_5 (.cons b2_5 (.cons b2_5 (.cons b2_5 (.cons b2_5 (.cons (Asks.of (C := Meets Try.prog) (ulog_Same.meets fu a.Log b.Log _ h2_7)) (.cons b2_5 (.cons b2_8 (.cons b2_8 (.cons b2_8 (.cons b2_8 (.cons b2_8 (.cons b2_8 (.cons b2_9 (.cons b2_9 (.cons b2_9 (.cons b2_9 (.cons b2_9 (.cons b2_9 (.cons b2_10 (.cons b2_10 (.cons b2_10 (.cons b2_10 (.cons b2_10 (.cons b2_10 (.cons b2_11 (.cons b2_11 (.cons b2_11 (.cons b2_11 (.cons b2_11 (.cons (Asks.of (C := Meets Try.prog) (slices_Equal_bool_bool.meets fu a.Votes b.Votes _ h2_13)) (.cons b2_11 (.cons b2_14 (.cons b2_14 (.cons b2_14 (.cons b2_14 (.cons b2_14 (.cons (Asks.of (C := Meets Try.prog) (slices_Equal_int_int.meets fu a.Next b.Next _ h2_16)) (.cons b2_14 (.cons b2_17 (.cons b2_17 (.cons b2_17 (.cons b2_17 (.cons b2_17 (.cons (Asks.of (C := Meets Try.prog) (slices_Equal_int_int.meets fu a.Match b.Match _ h2_19)) (.cons b2_17 (.cons b2_20 (.cons b2_20 (.cons b2_20 (.cons b2_20 (.cons b2_20 (.cons b2_20 .nil)))))))))))))))))))))))))))))))))))))))))))))))))))))))))))))))))))))))))))) (by kernel_rfl) ?_
                          refine WK.weak (l := [(.t 4, [bv (a.Clock == b.Clock)])]) (wk_of (by kernel_rfl)) ?_
                          refine WK.ret (by kernel_rfl) ?_
                          have h_ := some_inj h
                          subst h_
                          exact WKe.fin (e' := .ret) (by kernel_rfl) (fin_of (g := []) (by first | exact .inl rfl | exact .inr rfl) .nil (by kernel_rfl))
                        · refine WK.rs (g := [.b true, .b true, .b true, .b true, .b true, .b true, .b true, .b true, .b true, .b true, .b true, .b true, .b true, .b true, .b true, .b true, .b true, .b true, .b true, .b true, .b true, .b true, .b true, .b true, .b true, .b true, .b true, .b true, .b true, .a ⟨bv r2_6, []⟩, .b true, .b true, .b true, .b true, .b true, .b true, .b true, .b true, .b true, .b true, .b true, .b true, .b true, .b true, .b true, .b true, .b true, .b true, .b true, .b true, .b true, .b true, .b true, .b true, .a ⟨bv r2_12, []⟩, .b true, .b true, .b true, .b true, .b true, .b true, .a ⟨bv r2_15, []⟩, .b true, .b true, .b true, .b true, .b true, .b true, .a ⟨bv r2_18, []⟩, .b true, .b false, .b false, .b false, .b false, .b false, .b false]) (l' := [(.t 4, [bv false])]) (by kernel_rfl) (.cons b2_1 (.cons b2_1 (.cons b2_1 (.cons b2_1 (.cons b2_1 (.cons b2_1 (.cons b2_2 (.cons b2_2 (.cons b2_2 (.cons b2_2 (.cons b2_2 (.cons b2_2 (.cons b2_3 (.cons b2_3 (.cons b2_3 (.cons b2_3 (.cons b2_3 (.cons b2_3 (.cons b2_4 (.cons b2_4 (.cons b2_4 (.cons b2_4 (.cons b2_4 (.cons b2_4 (.cons b2_5 (.cons b2_5 (.cons b2_5 (.cons b2_5 (.cons b2_5 (.cons (Asks.of (C := Meets Try.prog) (ulog_Same.meets fu a.Log b.Log _ h2_7)) (.cons b2_5 (.cons b2_8 (.cons b2_8 (.cons b2_8 (.cons b2_8 (.cons b2_8 (.cons b2_8 (.cons b2_9 (.cons b2_9 (.cons b2_9 (.cons b2_9 (.cons b2_9 (.cons b2_9 (.cons b2_10 (.cons b2_10 (.cons b2_10 (.cons b2_10 (.cons b2_10 (.cons b2_10 (.cons b2_11 (.cons b2_11 (.cons b2_11 (.cons b2_11 (.cons b2_11 (.cons (Asks.of (C := Meets Try.prog) (slices_Equal_bool_bool.meets fu a.Votes b.Votes _ h2_13)) (.cons b2_11 (.cons b2_14 (.cons b2_14 (.cons b2_14 (.cons b2_14 (.cons b2_14 (.cons (Asks.of (C := Meets Try.prog) (slices_Equal_int_int.meets fu a.Next b.Next _ h2_16)) (.cons b2_14 (.cons b2_17 (.cons b2_17 (.cons b2_17 (.cons b2_17 (.cons b2_17 (.cons (Asks.of (C := Meets Try.prog) (slices_Equal_int_int.meets fu a.Match b.Match _ h2_19)) (.cons b2_17 (.cons b2_20 (.cons b2_20 (.cons b2_20 (.cons b2_20 (.cons b2_20 (.cons b2_20 .nil)))))))))))))))))))))))))))))))))))))))))))))))))))))))))))))))))))))))))))) (by kernel_rfl) ?_
                          refine WK.weak (l := [(.t 4, [bv false])]) (wk_of (by kernel_rfl)) ?_
                          refine WK.ret (by kernel_rfl) ?_
                          have h_ := some_inj h
                          subst h_
                          exact WKe.fin (e' := .ret) (by kernel_rfl) (fin_of (g := []) (by first | exact .inl rfl | exact .inr rfl) .nil (by kernel_rfl))
                      · refine WK.rs (g := [.b true, .b true, .b true, .b true, .b true, .b true, .b true, .b true, .b true, .b true, .b true, .b true, .b true, .b true, .b true, .b true, .b true, .b true, .b true, .b true, .b true, .b true, .b true, .b true, .b true, .b true, .b true, .b true, .b true, .a ⟨bv r2_6, []⟩, .b true, .b true, .b true, .b true, .b true, .b true, .b true, .b true, .b true, .b true, .b true, .b true, .b true, .b true, .b true, .b true, .b true, .b true, .b true, .b true, .b true, .b true, .b true, .b true, .a ⟨bv r2_12, []⟩, .b true, .b true, .b true, .b true, .b true, .b true, .a ⟨bv r2_15, []⟩, .b true, .b false, .b false, .b false, .b false, .b false, .b false, .b false, .b false, .b false, .b false, .b false, .b false]) (l' := [(.t 4, [bv false])]) (by kernel_rfl) (.cons b2_1 (.cons b2_1 (.cons b2_1 (.cons b2_1 (.cons b2_1 (.cons b2_1 (.cons b2_2 (.cons b2_2 (.cons b2_2 (.cons b2_2 (.cons b2_2 (.cons b2_2 (.cons b2_3 (.cons b2_3 (.cons b2_3 (.cons b2_3 (.cons b2_3 (.cons b2_3 (.cons b2_4 (.cons b2_4 (.cons b2_4 (.cons b2_4 (.cons b2_4 (.cons b2_4 (.cons b2_5 (.cons b2_5 (.cons b2_5 (.cons b2_5 (.cons b2_5 (.cons (Asks.of (C := Meets Try.prog) (ulog_Same.meets fu a.Log b.Log _ h2_7)) (.cons b2_5 (.cons b2_8 (.cons b2_8 (.cons b2_8 (.cons b2_8 (.cons b2_8 (.cons b2_8 (.cons b2_9 (.cons b2_9 (.cons b2_9 (.cons b2_9 (.cons b2_9 (.cons b2_9 (.cons b2_10 (.cons b2_10 (.cons b2_10 (.cons b2_10 (.cons b2_10 (.cons b2_10 (.cons b2_11 (.cons b2_11 (.cons b2_11 (.cons b2_11 (.cons b2_11 (.cons (Asks.of (C := Meets Try.prog) (slices_Equal_bool_bool.meets fu a.Votes b.Votes _ h2_13)) (.cons b2_11 (.cons b2_14 (.cons b2_14 (.cons b2_14 (.cons b2_14 (.cons b2_14 (.cons (Asks.of (C := Meets Try.prog) (slices_Equal_int_int.meets fu a.Next b.Next _ h2_16)) (.cons b2_14 (.cons b2_17 (.cons b2_17 (.cons b2_17 (.cons b2_17 (.cons b2_17 (.cons b2_17 (.cons (Eq.refl false) (.cons (Eq.refl false) (.cons (Eq.refl false) (.cons (Eq.refl false) (.cons (Eq.refl false) (.cons (Eq.refl false) .nil))))))))))))))))))))))))))))))))))))))))))))))))))))))))))))))))))))))))))) (by kernel_rfl) ?_
                        refine WK.weak (l := [(.t 4, [bv false])]) (wk_of (by kernel_rfl)) ?_
                        refine WK.ret (by kernel_rfl) ?_
                        have h_ := some_inj h
                        subst h_
                        exact WKe.fin (e' := .ret) (by kernel_rfl) (fin_of (g := []) (by first | exact .inl rfl | exact .inr rfl) .nil (by kernel_rfl))
                    · refine WK.rs (g := [.b true, .b true, .b true, .b true, .b true, .b true, .b true, .b true, .b true, .b true, .b true, .b true, .b true, .b true, .b true, .b true, .b true, .b true, .b true, .b true, .b true, .b true, .b true, .b true, .b true, .b true, .b true, .b true, .b true, .a ⟨bv r2_6, []⟩, .b true, .b true, .b true, .b true, .b true, .b true, .b true, .b true, .b true, .b true, .b true, .b true, .b true, .b true, .b true, .b true, .b true, .b true, .b true, .b true, .b true, .b true, .b true, .b true, .a ⟨bv r2_12, []⟩, .b true, .b false, .b false, .b false, .b false, .b false, .b false, .b false, .b false, .b false, .b false, .b false, .b false, .b false, .b false, .b false, .b false, .b false, .b false]) (l' := [(.t 4, [bv false])]) (by kernel_rfl) (.cons b2_1 (.cons b2_1 (.cons b2_1 (.cons b2_1 (.cons b2_1 (.cons b2_1 (.cons b2_2 (.cons b2_2 (.cons b2_2 (.cons b2_2 (.cons b2_2 (.cons b2_2 (.cons b2_3 (.cons b2_3 (.cons b2_3 (.cons b2_3 (.cons b2_3 (.cons b2_3 (.cons b2_4 (.cons b2_4 (.cons b2_4 (.cons b2_4 (.cons b2_4 (.cons b2_4 (.cons b2_5 (.cons b2_5 (.cons b2_5 (.cons b2_5 (.cons b2_5 (.cons (Asks.of (C := Meets Try.prog) (ulog_Same.meets fu a.Log b.Log _ h2_7)) (.cons b2_5 (.cons b2_8 (.cons b2_8 (.cons b2_8 (.cons b2_8 (.cons b2_8 (.cons b2_8 (.cons b2_9 (.cons b2_9 (.cons b2_9 (.cons b2_9 (.cons b2_9 (.cons b2_9 (.cons b2_10 (.cons b2_10 (.cons b2_10 (.cons b2_10 (.cons b2_10 (.cons b2_10 (.cons b2_11 (.cons b2_11 (.cons b2_11 (.cons b2_11 (.cons b2_11 (.cons (Asks.of (C := Meets Try.prog) (slices_Equal_bool_bool.meets fu a.Votes b.Votes _ h2_13)) (.cons b2_11 (.cons b2_14 (.cons b2_14 (.cons b2_14 (.cons b2_14 (.cons b2_14 (.cons b2_14 (.cons (Eq.refl false) (.cons (Eq.refl false) (.cons (Eq.refl false) (.cons (Eq.refl false) (.cons (Eq.refl false) (.cons (Eq.refl false) (.cons (Eq.refl false) (.cons (Eq.refl false) (.cons (Eq.refl false) (.cons (Eq.refl false) (.cons (Eq.refl false) (.cons (Eq.refl false) .nil)))))))))))))))))))))))))))))))))))))))))))))))))))))))))))))))))))))))))) (by kernel_rfl) ?_
                      refine WK.weak (l := [(.t 4, [bv false])]) (wk_of (by kernel_rfl)) ?_
                      refine WK.ret (by kernel_rfl) ?_
                      have h_ := some_inj h
                      subst h_
                      exact WKe.fin (e' := .ret) (by kernel_rfl) (fin_of (g := []) (by first | exact .inl rfl | exact .inr rfl) .nil (by kernel_rfl))
                  · refine WK.rs (g := [.b true, .b true, .b true, .b true, .b true, .b true, .b true, .b true, .b true, .b true, .b true, .b true, .b true, .b true, .b true, .b true, .b true, .b true, .b true, .b true, .b true, .b true, .b true, .b true, .b true, .b true, .b true, .b true, .b true, .a ⟨bv r2_6, []⟩, .b true, .b true, .b true, .b true, .b true, .b true, .b true, .b true, .b true, .b true, .b true, .b true, .b true, .b true, .b true, .b true, .b true, .b true, .b true, .b false, .b false, .b false, .b false, .b false, .b false, .b false, .b false, .b false, .b false, .b false, .b false, .b false, .b false, .b false, .b false, .b false, .b false, .b false, .b false, .b false, .b false, .b false, .b false]) (l' := [(.t 4, [bv false])]) (by kernel_rfl) (.cons b2_1 (.cons b2_1 (.cons b2_1 (.cons b2_1 (.cons b2_1 (.cons b2_1 (.cons b2_2 (.cons b2_2 (.cons b2_2 (.cons b2_2 (.cons b2_2 (.cons b2_2 (.cons b2_3 (.cons b2_3 (.cons b2_3 (.cons b2_3 (.cons b2_3 (.cons b2_3 (.cons b2_4 (.cons b2_4 (.cons b2_4 (.cons b2_4 (.cons b2_4 (.cons b2_4 (.cons b2_5 (.cons b2_5 (.cons b2_5 (.cons b2_5 (.cons b2_5 (.cons (Asks.of (C := Meets Try.prog) (ulog_Same.meets fu a.Log b.Log _ h2_7)) (.cons b2_5 (.cons b2_8 (.cons b2_8 (.cons b2_8 (.cons b2_8 (.cons b2_8 (.cons b2_8 (.cons b2_9 (.cons b2_9 (.cons b2_9 (.cons b2_9 (.cons b2_9 (.cons b2_9 (.cons b2_10 (.cons b2_10 (.cons b2_10 (.cons b2_10 (.cons b2_10 (.cons b2_10 (.cons b2_11 (.cons b2_11 (.cons b2_11 (.cons b2_11 (.cons b2_11 (.cons b2_11 (.cons (Eq.refl false) (.cons (Eq.refl false) (.cons (Eq.refl false) (.cons (Eq.refl false) (.cons (Eq.refl false) (.cons (Eq.refl false) (.cons (Eq.refl false) (.cons (Eq.refl false) (.cons (Eq.refl false) (.cons (Eq.refl false) (.cons (Eq.refl false) (.cons (Eq.refl false) (.cons (Eq.refl false) (.cons (Eq.refl false) (.cons (Eq.refl false) (.cons (Eq.refl false) (.cons (Eq.refl false) (.cons (Eq.refl false) .nil))))))))))))))))))))))))))))))))))))))))))))))))))))))))))))))))))))))))) (by kernel_rfl) ?_
                    refine WK.weak (l := [(.t 4, [bv false])]) (wk_of (by kernel_rfl)) ?_
                    refine WK.ret (by kernel_rfl) ?_
                    have h_ := some_inj h
                    subst h_
                    exact WKe.fin (e' := .ret) (by kernel_rfl) (fin_of (g := []) (by first | exact .inl rfl | exact .inr rfl) .nil (by kernel_rfl))
                · refine WK.rs (g := [.b true, .b true, .b true, .b true, .b true, .b true, .b true, .b true, .b true, .b true, .b true, .b true, .b true, .b true, .b true, .b true, .b true, .b true, .b true, .b true, .b true, .b true, .b true, .b true, .b true, .b true, .b true, .b true, .b true, .a ⟨bv r2_6, []⟩, .b true, .b true, .b true, .b true, .b true, .b true, .b true, .b true, .b true, .b true, .b true, .b true, .b true, .b false, .b false, .b false, .b false, .b false, .b false, .b false, .b false, .b false, .b false, .b false, .b false, .b false, .b false, .b false, .b false, .b false, .b false, .b false, .b false, .b false, .b false, .b false, .b false, .b false, .b false, .b false, .b false, .b false, .b false]) (l' := [(.t 4, [bv false])]) (by kernel_rfl) (.cons b2_1 (.cons b2_1 (.cons b2_1 (.cons b2_1 (.cons b2_1 (.cons b2_1 (.cons b2_2 (.cons b2_2 (.cons b2_2 (.cons b2_2 (.cons b2_2 (.cons b2_2 (.cons b2_3 (.cons b2_3 (.cons b2_3 (.cons b2_3 (.cons b2_3 (.cons b2_3 (.cons b2_4 (.cons b2_4 (.cons b2_4 (.cons b2_4 (.cons b2_4 (.cons b2_4 (.cons b2_5 (.cons b2_5 (.cons b2_5 (.cons b2_5 (.cons b2_5 (.cons (Asks.of (C := Meets Try.prog) (ulog_Same.meets fu a.Log b.Log _ h2_7)) (.cons b2_5 (.cons b2_8 (.cons b2_8 (.cons b2_8 (.cons b2_8 (.cons b2_8 (.cons b2_8 (.cons b2_9 (.cons b2_9 (.cons b2_9 (.cons b2_9 (.cons b2_9 (.cons b2_9 (.cons b2_10 (.cons b2_10 (.cons b2_10 (.cons b2_10 (.cons b2_10 (.cons b2_10 (.cons (Eq.refl false) (.cons (Eq.refl false) (.cons (Eq.refl false) (.cons (Eq.refl false) (.cons (Eq.refl false) (.cons (Eq.refl false) (.cons (Eq.refl false) (.cons (Eq.refl false) (.cons (Eq.refl false) (.cons (Eq.refl false) (.cons (Eq.refl false) (.cons (Eq.refl false) (.cons (Eq.refl false) (.cons (Eq.refl false) (.cons (Eq.refl false) (.cons (Eq.refl false) (.cons (Eq.refl false) (.cons (Eq.refl false) (.cons (Eq.refl false) (.cons (Eq.refl false) (.cons (Eq.refl false) (.cons (Eq.refl false) (.cons (Eq.refl false) (.cons (Eq.refl false) .nil))))))))))))))))))))))))))))))))))))))))))))))))))))))))))))))))))))))))) (by kernel_rfl) ?_
                  refine WK.weak (l := [(.t 4, [bv false])]) (wk_of (by kernel_rfl)) ?_
                  refine WK.ret (by kernel_rfl) ?_
                  have h_ := some_inj h
                  subst h_
                  exact WKe.fin (e' := .ret) (by kernel_rfl) (fin_of (g := []) (by first | exact .inl rfl | exact .inr rfl) .nil (by kernel_rfl))
              · refine WK.rs (g := [.b true, .b true, .b true, .b true, .b true, .b true, .b true, .b true, .b true, .b true, .b true, .b true, .b true, .b true, .b true, .b true, .b true, .b true, .b true, .b true, .b true, .b true, .b true, .b true, .b true, .b true, .b true, .b true, .b true, .a ⟨bv r2_6, []⟩, .b true, .b true, .b true, .b true, .b true, .b true, .b true, .b false, .b false, .b false, .b false, .b false, .b false, .b false, .b false, .b false, .b false, .b false, .b false, .b false, .b false, .b false, .b false, .b false, .b false, .b false, .b false, .b false, .b false, .b false, .b false, .b false, .b false, .b false, .b false, .b false, .b false, .b false, .b false, .b false, .b false, .b false, .b false]) (l' := [(.t 4, [bv false])]) (by kernel_rfl) (.cons b2_1 (.cons b2_1 (.cons b2_1 (.cons b2_1 (.cons b2_1 (.cons b2_1 (.cons b2_2 (.cons b2_2 (.cons b2_2 (.cons b2_2 (.cons b2_2 (.cons b2_2 (.cons b2_3 (.cons b2_3 (.cons b2_3 (.cons b2_3 (.cons b2_3 (.cons b2_3 (.cons b2_4 (.cons b2_4 (.cons b2_4 (.cons b2_4 (.cons b2_4 (.cons b2_4 (.cons b2_5 (.cons b2_5 (.cons b2_5 (.cons b2_5 (.cons b2_5 (.cons (Asks.of (C := Meets Try.prog) (ulog_Same.meets fu a.Log b.Log _ h2_7)) (.cons b2_5 (.cons b2_8 (.cons b2_8 (.cons b2_8 (.cons b2_8 (.cons b2_8 (.cons b2_8 (.cons b2_9 (.cons b2_9 (.cons b2_9 (.cons b2_9 (.cons b2_9 (.cons b2_9 (.cons (Eq.refl false) (.cons (Eq.refl false) (.cons (Eq.refl false) (.cons (Eq.refl false) (.cons (Eq.refl false) (.cons (Eq.refl false) (.cons (Eq.refl false) (.cons (Eq.refl false) (.cons (Eq.refl false) (.cons (Eq.refl false) (.cons (Eq.refl false) (.cons (Eq.refl false) (.cons (Eq.refl false) (.cons (Eq.refl false) (.cons (Eq.refl false) (.cons (Eq.refl false) (.cons (Eq.refl false) (.cons (Eq.refl false) (.cons (Eq.refl false) (.cons (Eq.refl false) (.cons (Eq.refl false) (.cons (Eq.refl false) (.cons (Eq.refl false) (.cons (Eq.refl false) (.cons (Eq.refl false) (.cons (Eq.refl false) (.cons (Eq.refl false) (.cons (Eq.refl false) (.cons (Eq.refl false) (.cons (Eq.refl false) .nil))))))))))))))))))))))))))))))))))))))))))))))))))))))))))))))))))))))))) (by kernel_rfl) ?_
                refine WK.weak (l := [(.t 4, [bv false])]) (wk_of (by kernel_rfl)) ?_
                refine WK.ret (by kernel_rfl) ?_
                have h_ := some_inj h
                subst h_
                exact WKe.fin (e' := .ret) (by kernel_rfl) (fin_of (g := []) (by first | exact .inl rfl | exact .inr rfl) .nil (by kernel_rfl))
            · refine WK.rs (g := [.b true, .b true, .b true, .b true, .b true, .b true, .b true, .b true, .b true, .b true, .b true, .b true, .b true, .b true, .b true, .b true, .b true, .b true, .b true, .b true, .b true, .b true, .b true, .b true, .b true, .b true, .b true, .b true, .b true, .a ⟨bv r2_6, []⟩, .b true, .b false, .b false, .b false, .b false, .b false, .b false, .b false, .b false, .b false, .b false, .b false, .b false, .b false, .b false, .b false, .b false, .b false, .b false, .b false, .b false, .b false, .b false, .b false, .b false, .b false, .b false, .b false, .b false, .b false, .b false, .b false, .b false, .b false, .b false, .b false, .b false, .b false, .b false, .b false, .b false, .b false, .b false]) (l' := [(.t 4, [bv false])]) (by kernel_rfl) (.cons b2_1 (.cons b2_1 (.cons b2_1 (.cons b2_1 (.cons b2_1 (.cons b2_1 (.cons b2_2 (.cons b2_2 (.cons b2_2 (.cons b2_2 (.cons b2_2 (.cons b2_2 (.cons b2_3 (.cons b2_3 (.cons b2_3 (.cons b2_3 (.cons b2_3 (.cons b2_3 (.cons b2_4 (.cons b2_4 (.cons b2_4 (.cons b2_4 (.cons b2_4 (.cons b2_4 (.cons b2_5 (.cons b2_5 (.cons b2_5 (.cons b2_5 (.cons b2_5 (.cons (Asks.of (C := Meets Try.prog) (ulog_Same.meets fu a.Log b.Log _ h2_7)) (.cons b2_5 (.cons b2_8 (.cons b2_8 (.cons b2_8 (.cons b2_8 (.cons b2_8 (.cons b2_8 (.cons (Eq.refl false) (.cons (Eq.refl false) (.cons (Eq.refl false) (.cons (Eq.refl false) (.cons (Eq.refl false) (.cons (Eq.refl false) (.cons (Eq.refl false) (.cons (Eq.refl false) (.cons (Eq.refl false) (.cons (Eq.refl false) (.cons (Eq.refl false) (.cons (Eq.refl false) (.cons (Eq.refl false) (.cons (Eq.refl false) (.cons (Eq.refl false) (.cons (Eq.refl false) (.cons (Eq.refl false) (.cons (Eq.refl false) (.cons (Eq.refl false) (.cons (Eq.refl false) (.cons (Eq.refl false) (.cons (Eq.refl false) (.cons (Eq.refl false) (.cons (Eq.refl false) (.cons (Eq.refl false) (.cons (Eq.refl false) (.cons (Eq.refl false) (.cons (Eq.refl false) (.cons (Eq.refl false) (.cons (Eq.refl false) (.cons (Eq.refl false) (.cons (Eq.refl false) (.cons (Eq.refl false) (.cons (Eq.refl false) (.cons (Eq.refl false) (.cons (Eq.refl false) .nil))))))))))))))))))))))))))))))))))))))))))))))))))))))))))))))))))))))))) (by kernel_rfl) ?_
              refine WK.weak (l := [(.t 4, [bv false])]) (wk_of (by kernel_rfl)) ?_
              refine WK.ret (by kernel_rfl) ?_
              have h_ := some_inj h
              subst h_
              exact WKe.fin (e' := .ret) (by kernel_rfl) (fin_of (g := []) (by first | exact .inl rfl | exact .inr rfl) .nil (by kernel_rfl))
          · refine WK.rs (g := [.b true, .b true, .b true, .b true, .b true, .b true, .b true, .b true, .b true, .b true, .b true, .b true, .b true, .b true, .b true, .b true, .b true, .b true, .b true, .b true, .b true, .b true, .b true, .b true, .b false, .b false, .b false, .b false, .b false, .b false, .b false, .b false, .b false, .b false, .b false, .b false, .b false, .b false, .b false, .b false, .b false, .b false, .b false, .b false, .b false, .b false, .b false, .b false, .b false, .b false, .b false, .b false, .b false, .b false, .b false, .b false, .b false, .b false, .b false, .b false, .b false, .b false, .b false, .b false, .b false, .b false, .b false, .b false, .b false, .b false, .b false, .b false]) (l' := [(.t 4, [bv false])]) (by kernel_rfl) (.cons b2_1 (.cons b2_1 (.cons b2_1 (.cons b2_1 (.cons b2_1 (.cons b2_1 (.cons b2_2 (.cons b2_2 (.cons b2_2 (.cons b2_2 (.cons b2_2 (.cons b2_2 (.cons b2_3 (.cons b2_3 (.cons b2_3 (.cons b2_3 (.cons b2_3 (.cons b2_3 (.cons b2_4 (.cons b2_4 (.cons b2_4 (.cons b2_4 (.cons b2_4 (.cons b2_4 (.cons b2_5 (.cons b2_5 (.cons b2_5 (.cons b2_5 (.cons b2_5 (.cons b2_5 (.cons (Eq.refl false) (.cons (Eq.refl false) (.cons (Eq.refl false) (.cons (Eq.refl false) (.cons (Eq.refl false) (.cons (Eq.refl false) (.cons (Eq.refl false) (.cons (Eq.refl false) (.cons (Eq.refl false) (.cons (Eq.refl false) (.cons (Eq.refl false) (.cons (Eq.refl false) (.cons (Eq.refl false) (.cons (Eq.refl false) (.cons (Eq.refl false) (.cons (Eq.refl false) (.cons (Eq.refl false) (.cons (Eq.refl false) (.cons (Eq.refl false) (.cons (Eq.refl false) (.cons (Eq.refl false) (.cons (Eq.refl false) (.cons (Eq.refl false) (.cons (Eq.refl false) (.cons (Eq.refl false) (.cons (Eq.refl false) (.cons (Eq.refl false) (.cons (Eq.refl false) (.cons (Eq.refl false) (.cons (Eq.refl false) (.cons (Eq.refl false) (.cons (Eq.refl false) (.cons (Eq.refl false) (.cons (Eq.refl false) (.cons (Eq.refl false) (.cons (Eq.refl false) (.cons (Eq.refl false) (.cons (Eq.refl false) (.cons (Eq.refl false) (.cons (Eq.refl false) (.cons (Eq.refl false) (.cons (Eq.refl false) .nil)))))))))))))))))))))))))))))))))))))))))))))))))))))))))))))))))))))))) (by kernel_rfl) ?_
            refine WK.weak (l := [(.t 4, [bv false])]) (wk_of (by kernel_rfl)) ?_
            refine WK.ret (by kernel_rfl) ?_
            have h_ := some_inj h
            subst h_
            exact WKe.fin (e' := .ret) (by kernel_rfl) (fin_of (g := []) (by first | exact .inl rfl | exact .inr rfl) .nil (by kernel_rfl))
        · refine WK.rs (g := [.b true, .b true, .b true, .b true, .b true, .b true, .b true, .b true, .b true, .b true, .b true, .b true, .b true, .b true, .b true, .b true, .b true, .b true, .b false, .b false, .b false, .b false, .b false, .b false, .b false, .b false, .b false, .b false, .b false, .b false, .b false, .b false, .b false, .b false, .b false, .b false, .b false, .b false, .b false, .b false, .b false, .b false, .b false, .b false, .b false, .b false, .b false, .b false, .b false, .b false, .b false, .b false, .b false, .b false, .b false, .b false, .b false, .b false, .b false, .b false, .b false, .b false, .b false, .b false, .b false, .b false, .b false, .b false, .b false, .b false, .b false, .b false]) (l' := [(.t 4, [bv false])]) (by kernel_rfl) (.cons b2_1 (.cons b2_1 (.cons b2_1 (.cons b2_1 (.cons b2_1 (.cons b2_1 (.cons b2_2 (.cons b2_2 (.cons b2_2 (.cons b2_2 (.cons b2_2 (.cons b2_2 (.cons b2_3 (.cons b2_3 (.cons b2_3 (.cons b2_3 (.cons b2_3 (.cons b2_3 (.cons b2_4 (.cons b2_4 (.cons b2_4 (.cons b2_4 (.cons b2_4 (.cons b2_4 (.cons (Eq.refl false) (.cons (Eq.refl false) (.cons (Eq.refl false) (.cons (Eq.refl false) (.cons (Eq.refl false) (.cons (Eq.refl false) (.cons (Eq.refl false) (.cons (Eq.refl false) (.cons (Eq.refl false) (.cons (Eq.refl false) (.cons (Eq.refl false) (.cons (Eq.refl false) (.cons (Eq.refl false) (.cons (Eq.refl false) (.cons (Eq.refl false) (.cons (Eq.refl false) (.cons (Eq.refl false) (.cons (Eq.refl false) (.cons (Eq.refl false) (.cons (Eq.refl false) (.cons (Eq.refl false) (.cons (Eq.refl false) (.cons (Eq.refl false) (.cons (Eq.refl false) (.cons (Eq.refl false) (.cons (Eq.refl false) (.cons (Eq.refl false) (.cons (Eq.refl false) (.cons (Eq.refl false) (.cons (Eq.refl false) (.cons (Eq.refl false) (.cons (Eq.refl false) (.cons (Eq.refl false) (.cons (Eq.refl false) (.cons (Eq.refl false) (.cons (Eq.refl false) (.cons (Eq.refl false) (.cons (Eq.refl false) (.cons (Eq.refl false) (.cons (Eq.refl false) (.cons (Eq.refl false) (.cons (Eq.refl false) (.cons (Eq.refl false) (.cons (Eq.refl false) (.cons (Eq.refl false) (.cons (Eq.refl false) (.cons (Eq.refl false) (.cons (Eq.refl false) .nil)))))))))))))))))))))))))))))))))))))))))))))))))))))))))))))))))))))))) (by kernel_rfl) ?_
          refine WK.weak (l := [(.t 4, [bv false])]) (wk_of (by kernel_rfl)) ?_
          refine WK.ret (by kernel_rfl) ?_
          have h_ := some_inj h
          subst h_
          exact WKe.fin (e' := .ret) (by kernel_rfl) (fin_of (g := []) (by first | exact .inl rfl | exact .inr rfl) .nil (by kernel_rfl))
      · refine WK.rs (g := [.b true, .b true, .b true, .b true, .b true, .b true, .b true, .b true, .b true, .b true, .b true, .b true, .b false, .b false, .b false, .b false, .b false, .b false, .b false, .b false, .b false, .b false, .b false, .b false, .b false, .b false, .b false, .b false, .b false, .b false, .b false, .b false, .b false, .b false, .b false, .b false, .b false, .b false, .b false, .b false, .b false, .b false, .b false, .b false, .b false, .b false, .b false, .b false, .b false, .b false, .b false, .b false, .b false, .b false, .b false, .b false, .b false, .b false, .b false, .b false, .b false, .b false, .b false, .b false, .b false, .b false, .b false, .b false, .b false, .b false, .b false, .b false]) (l' := [(.t 4, [bv false])]) (by kernel_rfl) (.cons b2_1 (.cons b2_1 (.cons b2_1 (.cons b2_1 (.cons b2_1 (.cons b2_1 (.cons b2_2 (.cons b2_2 (.cons b2_2 (.cons b2_2 (.cons b2_2 (.cons b2_2 (.cons b2_3 (.cons b2_3 (.cons b2_3 (.cons b2_3 (.cons b2_3 (.cons b2_3 (.cons (Eq.refl false) (.cons (Eq.refl false) (.cons (Eq.refl false) (.cons (Eq.refl false) (.cons (Eq.refl false) (.cons (Eq.refl false) (.cons (Eq.refl false) (.cons (Eq.refl false) (.cons (Eq.refl false) (.cons (Eq.refl false) (.cons (Eq.refl false) (.cons (Eq.refl false) (.cons (Eq.refl false) (.cons (Eq.refl false) (.cons (Eq.refl false) (.cons (Eq.refl false) (.cons (Eq.refl false) (.cons (Eq.refl false) (.cons (Eq.refl false) (.cons (Eq.refl false) (.cons (Eq.refl false) (.cons (Eq.refl false) (.cons (Eq.refl false) (.cons (Eq.refl false) (.cons (Eq.refl false) (.cons (Eq.refl false) (.cons (Eq.refl false) (.cons (Eq.refl false) (.cons (Eq.refl false) (.cons (Eq.refl false) (.cons (Eq.refl false) (.cons (Eq.refl false) (.cons (Eq.refl false) (.cons (Eq.refl false) (.cons (Eq.refl false) (.cons (Eq.refl false) (.cons (Eq.refl false) (.cons (Eq.refl false) (.cons (Eq.refl false) (.cons (Eq.refl false) (.cons (Eq.refl false) (.cons (Eq.refl false) (.cons (Eq.refl false) (.cons (Eq.refl false) (.cons (Eq.refl false) (.cons (Eq.refl false) (.cons (Eq.refl false) (.cons (Eq.refl false) (.cons (Eq.refl false) (.cons (Eq.refl false) (.cons (Eq.refl false) (.cons (Eq.refl false) (.cons (Eq.refl false) (.cons (Eq.refl false) .nil)))))))))))))))))))))))))))))))))))))))))))))))))))))))))))))))))))))))) (by kernel_rfl) ?_
        refine WK.weak (l := [(.t 4, [bv false])]) (wk_of (by kernel_rfl)) ?_
        refine WK.ret (by kernel_rfl) ?_
        have h_ := some_inj h
        subst h_
        exact WKe.fin (e' := .ret) (by kernel_rfl) (fin_of (g := []) (by first | exact .inl rfl | exact .inr rfl) .nil (by kernel_rfl))
    · refine WK.rs (g := [.b true, .b true, .b true, .b true, .b true, .b true, .b false, .b false, .b false, .b false, .b false, .b false, .b false, .b false, .b false, .b false, .b false, .b false, .b false, .b false, .b false, .b false, .b false, .b false, .b false, .b false, .b false, .b false, .b false, .b false, .b false, .b false, .b false, .b false, .b false, .b false, .b false, .b false, .b false, .b false, .b false, .b false, .b false, .b false, .b false, .b false, .b false, .b false, .b false, .b false, .b false, .b false, .b false, .b false, .b false, .b false, .b false, .b false, .b false, .b false, .b false, .b false, .b false, .b false, .b false, .b false, .b false, .b false, .b false, .b false, .b false, .b false]) (l' := [(.t 4, [bv false])]) (by kernel_rfl) (.cons b2_1 (.cons b2_1 (.cons b2_1 (.cons b2_1 (.cons b2_1 (.cons b2_1 (.cons b2_2 (.cons b2_2 (.cons b2_2 (.cons b2_2 (.cons b2_2 (.cons b2_2 (.cons (Eq.refl false) (.cons (Eq.refl false) (.cons (Eq.refl false) (.cons (Eq.refl false) (.cons (Eq.refl false) (.cons (Eq.refl false) (.cons (Eq.refl false) (.cons (Eq.refl false) (.cons (Eq.refl false) (.cons (Eq.refl false) (.cons (Eq.refl false) (.cons (Eq.refl false) (.cons (Eq.refl false) (.cons (Eq.refl false) (.cons (Eq.refl false) (.cons (Eq.refl false) (.cons (Eq.refl false) (.cons (Eq.refl false) (.cons (Eq.refl false) (.cons (Eq.refl false) (.cons (Eq.refl false) (.cons (Eq.refl false) (.cons (Eq.refl false) (.cons (Eq.refl false) (.cons (Eq.refl false) (.cons (Eq.refl false) (.cons (Eq.refl false) (.cons (Eq.refl false) (.cons (Eq.refl false) (.cons (Eq.refl false) (.cons (Eq.refl false) (.cons (Eq.refl false) (.cons (Eq.refl false) (.cons (Eq.refl false) (.cons (Eq.refl false) (.cons (Eq.refl false) (.cons (Eq.refl false) (.cons (Eq.refl false) (.cons (Eq.refl false) (.cons (Eq.refl false) (.cons (Eq.refl false) (.cons (Eq.refl false) (.cons (Eq.refl false) (.cons (Eq.refl false) (.cons (Eq.refl false) (.cons (Eq.refl false) (.cons (Eq.refl false) (.cons (Eq.refl false) (.cons (Eq.refl false) (.cons (Eq.refl false) (.cons (Eq.refl false) (.cons (Eq.refl false) (.cons (Eq.refl false) (.cons (Eq.refl false) (.cons (Eq.refl false) (.cons (Eq.refl false) (.cons (Eq.refl false) (.cons (Eq.refl false) (.cons (Eq.refl false) (.cons (Eq.refl false) .nil)))))))))))))))))))))))))))))))))))))))))))))))))))))))))))))))))))))))) (by kernel_rfl) ?_
      refine WK.weak (l := [(.t 4, [bv false])]) (wk_of (by kernel_rfl)) ?_
      refine WK.ret (by kernel_rfl) ?_
      have h_ := some_inj h
      subst h_
      exact WKe.fin (e' := .ret) (by kernel_rfl) (fin_of (g := []) (by first | exact .inl rfl | exact .inr rfl) .nil (by kernel_rfl))
  · refine WK.rs (g := [.b false, .b false, .b false, .b false, .b false, .b false, .b false, .b false, .b false, .b false, .b false, .b false, .b false, .b false, .b false, .b false, .b false, .b false, .b false, .b false, .b false, .b false, .b false, .b false, .b false, .b false, .b false, .b false, .b false, .b false, .b false, .b false, .b false, .b false, .b false, .b false, .b false, .b false, .b false, .b false, .b false, .b false, .b false, .b false, .b false, .b false, .b false, .b false, .b false, .b false, .b false, .b false, .b false, .b false, .b false, .b false, .b false, .b false, .b false, .b false, .b false, .b false, .b false, .b false, .b false, .b false, .b false, .b false, .b false, .b false, .b false, .b false]) (l' := [(.t 4, [bv false])]) (by kernel_rfl) (.cons b2_1 (.cons b2_1 (.cons b2_1 (.cons b2_1 (.cons b2_1 (.cons b2_1 (.cons (Eq.refl false) (.cons (Eq.refl false) (.cons (Eq.refl false) (.cons (Eq.refl false) (.cons (Eq.refl false) (.cons (Eq.refl false) (.cons (Eq.refl false) (.cons (Eq.refl false) (.cons (Eq.refl false) (.cons (Eq.refl false) (.cons (Eq.refl false) (.cons (Eq.refl false) (.cons (Eq.refl false) (.cons (Eq.refl false) (.cons (Eq.refl false) (.cons (Eq.refl false) (.cons (Eq.refl false) (.cons (Eq.refl false) (.cons (Eq.refl false) (.cons (Eq.refl false) (.cons (Eq.refl false) (.cons (Eq.refl false) (.cons (Eq.refl false) (.cons (Eq.refl false) (.cons (Eq.refl false) (.cons (Eq.refl false) (.cons (Eq.refl false) (.cons (Eq.refl false) (.cons (Eq.refl false) (.cons (Eq.refl false) (.cons (Eq.refl false) (.cons (Eq.refl false) (.cons (Eq.refl false) (.cons (Eq.refl false) (.cons (Eq.refl false) (.cons (Eq.refl false) (.cons (Eq.refl false) (.cons (Eq.refl false) (.cons (Eq.refl false) (.cons (Eq.refl false) (.cons (Eq.refl false) (.cons (Eq.refl false) (.cons (Eq.refl false) (.cons (Eq.refl false) (.cons (Eq.refl false) (.cons (Eq.refl false) (.cons (Eq.refl false) (.cons (Eq.refl false) (.cons (Eq.refl false) (.cons (Eq.refl false) (.cons (Eq.refl false) (.cons (Eq.refl false) (.cons (Eq.refl false) (.cons (Eq.refl false) (.cons (Eq.refl false) (.cons (Eq.refl false) (.cons (Eq.refl false) (.cons (Eq.refl false) (.cons (Eq.refl false) (.cons (Eq.refl false) (.cons (Eq.refl false) (.cons (Eq.refl false) (.cons (Eq.refl false) (.cons (Eq.refl false) (.cons (Eq.refl false) (.cons (Eq.refl false) .nil)))))))))))))))))))))))))))))))))))))))))))))))))))))))))))))))))))))))) (by kernel_rfl) ?_
    refine WK.weak (l := [(.t 4, [bv false])]) (wk_of (by kernel_rfl)) ?_
    refine WK.ret (by kernel_rfl) ?_
    have h_ := some_inj h
    subst h_
    exact WKe.fin (e' := .ret) (by kernel_rfl) (fin_of (g := []) (by first | exact .inl rfl | exact .inr rfl) .nil (by kernel_rfl))
/-- diwan/diwanlaw11.begun -/
noncomputable def bd12 : Code := (Try.f12.body).getD .skip
def diwanlaw11_begun.O : Nat → Nat := fun t => bif ([0, 1, 2, 3, 4, 5, 6, 7, 8, 9, 10, 11, 12, 16, 21, 25, 27, 32, 34] : List Nat).any (Nat.beq t) then 1 else 0
noncomputable def diwanlaw11_begun (fu : Nat) : Option Bool :=
  bd (raft_New 1 1 2) fun r2_1 =>
  bd (raft_Tick fu r2_1) fun (r3_1, r3_2) =>
  bd (raft_Tick fu r3_1) fun (r4_1, r4_2) =>
  bd (raft_Propose fu r4_1 (TEntry.mk 0 true (TTxn.mk 0 0 [] []))) fun (r5_1, r5_2, r5_3) =>
  bd (raft_Propose fu r3_1 (TEntry.mk 0 true (TTxn.mk 0 0 [] []))) fun (r6_1, r6_2, r6_3) =>
  bd (raft_May fu r2_1) fun r7_1 =>
  br r7_1
    (br ((r3_2.length : Int) == 0)
      (br (r3_1.Clock == 1)
        (br (r4_1.Role == 2)
          (br (r4_1.Term == 1)
            (br ((r4_1.Log.length : Int) == 1)
              (br (r4_1.Commit == 1)
                (br ((r4_2.length : Int) == 0)
                  (br r5_3
                    (br ((r5_1.Log.length : Int) == 2)
                      (br (r5_1.Commit == 2)
                        (br (!r6_3)
                          (bd (raft_Same fu r3_1 r3_1) fun r7_15 =>
                          br r7_15
                            (bd (raft_Same fu r3_1 r4_1) fun r7_18 =>
                            some (!r7_18))
                            (some false))
                          (some false))
                        (some false))
                      (some false))
                    (some false))
                  (some false))
                (some false))
              (some false))
            (some false))
          (some false))
        (some false))
      (some false))
    (some false)
theorem diwanlaw11_begun.meets (fu : Nat) (z0 : Bool) (h : diwanlaw11_begun fu = some z0) : Meets Try.prog ⟨12, [], []⟩ ⟨bv z0, []⟩ := by
  refine meets_of (O := diwanlaw11_begun.O) hmix (fn := Try.f12) (code := bd12) (by kernel_rfl) ?_
  refine WK.weak (l := []) (wk_of (by kernel_rfl)) ?_
  unfold diwanlaw11_begun at h
  refine WK.rs (g := []) (l' := []) (by kernel_rfl) .nil (by kernel_rfl) ?_
  obtain ⟨r2_1, h2_2, h⟩ := bd_inv h
  refine WK.rs (g := [.a ⟨.data (TRaft.ag_000001000111 r2_1), []⟩]) (l' := [(.t 1, [.ptr 1 0]), (.o 1, (TRaft.ob_000001000111 r2_1))]) (by kernel_rfl) (.cons (Asks.of (C := Meets Try.prog) (raft_New.meets 1 1 2 _ h2_2)) .nil) (by kernel_rfl) ?_
  obtain ⟨⟨r3_1, r3_2⟩, h3_3, h⟩ := bd_inv h
  refine WK.rs (g := [.a ⟨.tup [.data (TRaft.ag r3_1), .data (.slc false none 24 (List.map TMsg.en r3_2))], []⟩]) (l' := [(.t 1, [.ptr 1 0]), (.t 2, [.ptr 2 0]), (.t 3, [.data (.slc false none 24 (List.map TMsg.en r3_2))]), (.o 1, (TRaft.ob r2_1)), (.o 2, (TRaft.ob r3_1))]) (by kernel_rfl) (.cons (Asks.of (C := Meets Try.prog) (raft_Tick.meets fu r2_1 _ _ h3_3)) .nil) (by kernel_rfl) ?_
  obtain ⟨⟨r4_1, r4_2⟩, h4_3, h⟩ := bd_inv h
  refine WK.rs (g := [.a ⟨.tup [.data (TRaft.ag r4_1), .data (.slc false none 24 (List.map TMsg.en r4_2))], []⟩]) (l' := [(.t 1, [.ptr 1 0]), (.t 2, [.ptr 2 0]), (.t 3, [.data (.slc false none 24 (List.map TMsg.en r3_2))]), (.t 4, [.ptr 4 0]), (.t 5, [.data (.slc false none 24 (List.map TMsg.en r4_2))]), (.o 1, (TRaft.ob r2_1)), (.o 2, (TRaft.ob r3_1)), (.o 4, (TRaft.ob r4_1))]) (by kernel_rfl) (.cons (Asks.of (C := Meets Try.prog) (raft_Tick.meets fu r3_1 _ _ h4_3)) .nil) (by kernel_rfl) ?_
  obtain ⟨⟨r5_1, r5_2, r5_3⟩, h5_4, h⟩ := bd_inv h
  refine WK.rs (g := [.a ⟨.tup [.data (TRaft.ag r5_1), .data (.slc false none 24 (List.map TMsg.en r5_2)), bv r5_3], []⟩]) (l' := [(.t 1, [.ptr 1 0]), (.t 2, [.ptr 2 0]), (.t 3, [.data (.slc false none 24 (List.map TMsg.en r3_2))]), (.t 4, [.ptr 4 0]), (.t 5, [.data (.slc false none 24 (List.map TMsg.en r4_2))]), (.t 6, [.ptr 6 0]), (.t 8, [bv r5_3]), (.o 1, (TRaft.ob r2_1)), (.o 2, (TRaft.ob r3_1)), (.o 4, (TRaft.ob r4_1)), (.o 6, (TRaft.ob r5_1))]) (by kernel_rfl) (.cons (Asks.of (C := Meets Try.prog) (raft_Propose.meets fu r4_1 (TEntry.mk 0 true (TTxn.mk 0 0 [] [])) _ _ _ h5_4)) .nil) (by kernel_rfl) ?_
  obtain ⟨⟨r6_1, r6_2, r6_3⟩, h6_4, h⟩ := bd_inv h
  refine WK.rs (g := [.a ⟨.tup [.data (TRaft.ag r6_1), .data (.slc false none 24 (List.map TMsg.en r6_2)), bv r6_3], []⟩]) (l' := [(.t 1, [.ptr 1 0]), (.t 2, [.ptr 2 0]), (.t 3, [.data (.slc false none 24 (List.map TMsg.en r3_2))]), (.t 4, [.ptr 4 0]), (.t 5, [.data (.slc false none 24 (List.map TMsg.en r4_2))]), (.t 6, [.ptr 6 0]), (.t 8, [bv r5_3]), (.t 11, [bv r6_3]), (.o 1, (TRaft.ob r2_1)), (.o 2, (TRaft.ob r3_1)), (.o 4, (TRaft.ob r4_1)), (.o 6, (TRaft.ob r5_1))]) (by kernel_rfl) (.cons (Asks.of (C := Meets Try.prog) (raft_Propose.meets fu r3_1 (TEntry.mk 0 true (TTxn.mk 0 0 [] [])) _ _ _ h6_4)) .nil) (by kernel_rfl) ?_
  obtain ⟨r7_1, h7_2, h⟩ := bd_inv h
  rcases br_inv h with ⟨b7_3, h⟩ | ⟨b7_3, h⟩
  · rcases br_inv h with ⟨b7_4, h⟩ | ⟨b7_4, h⟩
    · rcases br_inv h with ⟨b7_5, h⟩ | ⟨b7_5, h⟩
      · rcases br_inv h with ⟨b7_6, h⟩ | ⟨b7_6, h⟩
        · rcases br_inv h with ⟨b7_7, h⟩ | ⟨b7_7, h⟩
          · rcases br_inv h with ⟨b7_8, h⟩ | ⟨b7_8, h⟩
            · rcases br_inv h with ⟨b7_9, h⟩ | ⟨b7_9, h⟩
              · rcases br_inv h with ⟨b7_10, h⟩ | ⟨b7_10, h⟩
                · rcases br_inv h with ⟨b7_11, h⟩ | ⟨b7_11, h⟩
                  · rcases br_inv h with ⟨b7_12, h⟩ | ⟨b7_12, h⟩
                    · rcases br_inv h with ⟨b7_13, h⟩ | ⟨b7_13, h⟩
                      · rcases br_inv h with ⟨b7_14, h⟩ | ⟨b7_14, h⟩
                        · obtain ⟨r7_15, h7_16, h⟩ := bd_inv h
                          rcases br_inv h with ⟨b7_17, h⟩ | ⟨b7_17, h⟩
                          · obtain ⟨r7_18, h7_19, h⟩ := bd_inv h
                            refine WK.rs (g := [.a ⟨bv r7_1, []⟩, .b true, .b true, .s (.t 41) [iv (r3_2.length : Int)], .b true, .b true, .b true, .b true, .b true, .b true, .b true, .b true, .b true, .b true, .b true, .b true, .b true, .b true, .b true, .b true, .b true, .s (.t 62) [iv (r4_1.Log.length : Int)], .b true, .b true, .b true, .b true, .b true, .b true, .b true, .b true, .s (.t 72) [iv (r4_2.length : Int)], .b true, .b true, .b true, .b true, .b true, .b true, .b true, .s (.t 81) [iv (r5_1.Log.length : Int)], .b true, .b true, .b true, .b true, .b true, .b true, .b true, .b true, .b true, .b true, .b true, .b true, .a ⟨bv r7_15, []⟩, .b true, .b true, .b true, .b true, .a ⟨bv r7_18, []⟩, .b true, .b true]) (l' := [(.t 0, [bv (!r7_18)])]) (by kernel_rfl) (.cons (Asks.of (C := Meets Try.prog) (raft_May.meets fu r2_1 _ h7_2)) (.cons b7_3 (.cons b7_3 (.cons (c_len (e := TMsg.en) (l := r3_2)) (.cons b7_3 (.cons b7_3 (.cons b7_4 (.cons b7_4 (.cons b7_4 (.cons b7_4 (.cons b7_5 (.cons b7_5 (.cons b7_5 (.cons b7_5 (.cons b7_6 (.cons b7_6 (.cons b7_6 (.cons b7_6 (.cons b7_7 (.cons b7_7 (.cons b7_7 (.cons (c_len (e := TEntry.en) (l := r4_1.Log)) (.cons b7_7 (.cons b7_7 (.cons b7_8 (.cons b7_8 (.cons b7_8 (.cons b7_8 (.cons b7_9 (.cons b7_9 (.cons (c_len (e := TMsg.en) (l := r4_2)) (.cons b7_9 (.cons b7_9 (.cons b7_10 (.cons b7_10 (.cons b7_11 (.cons b7_11 (.cons b7_11 (.cons (c_len (e := TEntry.en) (l := r5_1.Log)) (.cons b7_11 (.cons b7_11 (.cons b7_12 (.cons b7_12 (.cons b7_12 (.cons b7_12 (.cons b7_13 (.cons b7_13 (.cons b7_13 (.cons b7_14 (.cons b7_14 (.cons b7_14 (.cons (Asks.of (C := Meets Try.prog) (raft_Same.meets fu r3_1 r3_1 _ h7_16)) (.cons b7_14 (.cons b7_17 (.cons b7_17 (.cons b7_17 (.cons (Asks.of (C := Meets Try.prog) (raft_Same.meets fu r3_1 r4_1 _ h7_19)) (.cons b7_17 (.cons b7_17 .nil))))))))))))))))))))))))))))))))))))))))))))))))))))))))))) (by kernel_rfl) ?_
                            refine WK.weak (l := [(.t 0, [bv (!r7_18)])]) (wk_of (by kernel_rfl)) ?_
                            refine WK.ret (by kernel_rfl) ?_
                            have h_ := some_inj h
                            subst h_
                            exact WKe.fin (e' := .ret) (by kernel_rfl) (fin_of (g := []) (by first | exact .inl rfl | exact .inr rfl) .nil (by kernel_rfl))
                          · refine WK.rs (g := [.a ⟨bv r7_1, []⟩, .b true, .b true, .s (.t 41) [iv (r3_2.length : Int)], .b true, .b true, .b true, .b true, .b true, .b true, .b true, .b true, .b true, .b true, .b true, .b true, .b true, .b true, .b true, .b true, .b true, .s (.t 62) [iv (r4_1.Log.length : Int)], .b true, .b true, .b true, .b true, .b true, .b true, .b true, .b true, .s (.t 72) [iv (r4_2.length : Int)], .b true, .b true, .b true, .b true, .b true, .b true, .b true, .s (.t 81) [iv (r5_1.Log.length : Int)], .b true, .b true, .b true, .b true, .b true, .b true, .b true, .b true, .b true, .b true, .b true, .b true, .a ⟨bv r7_15, []⟩, .b true, .b false, .b false, .b false, .b false, .b false]) (l' := [(.t 0, [bv false])]) (by kernel_rfl) (.cons (Asks.of (C := Meets Try.prog) (raft_May.meets fu r2_1 _ h7_2)) (.cons b7_3 (.cons b7_3 (.cons (c_len (e := TMsg.en) (l := r3_2)) (.cons b7_3 (.cons b7_3 (.cons b7_4 (.cons b7_4 (.cons b7_4 (.cons b7_4 (.cons b7_5 (.cons b7_5 (.cons b7_5 (.cons b7_5 (.cons b7_6 (.cons b7_6 (.cons b7_6 (.cons b7_6 (.cons b7_7 (.cons b7_7 (.cons b7_7 (.cons (c_len (e := TEntry.en) (l := r4_1.Log)) (.cons b7_7 (.cons b7_7 (.cons b7_8 (.cons b7_8 (.cons b7_8 (.cons b7_8 (.cons b7_9 (.cons b7_9 (.cons (c_len (e := TMsg.en) (l := r4_2)) (.cons b7_9 (.cons b7_9 (.cons b7_10 (.cons b7_10 (.cons b7_11 (.cons b7_11 (.cons b7_11 (.cons (c_len (e := TEntry.en) (l := r5_1.Log)) (.cons b7_11 (.cons b7_11 (.cons b7_12 (.cons b7_12 (.cons b7_12 (.cons b7_12 (.cons b7_13 (.cons b7_13 (.cons b7_13 (.cons b7_14 (.cons b7_14 (.cons b7_14 (.cons (Asks.of (C := Meets Try.prog) (raft_Same.meets fu r3_1 r3_1 _ h7_16)) (.cons b7_14 (.cons b7_17 (.cons b7_17 (.cons b7_17 (.cons b7_17 (.cons b7_17 .nil)))))))))))))))))))))))))))))))))))))))))))))))))))))))))) (by kernel_rfl) ?_
                            refine WK.weak (l := [(.t 0, [bv false])]) (wk_of (by kernel_rfl)) ?_
                            refine WK.ret (by kernel_rfl) ?_
                            have h_ := some_inj h
                            subst h_
                            exact WKe.fin (e' := .ret) (by kernel_rfl) (fin_of (g := []) (by first | exact .inl rfl | exact .inr rfl) .nil (by kernel_rfl))
                        · refine WK.rs (g := [.a ⟨bv r7_1, []⟩, .b true, .b true, .s (.t 41) [iv (r3_2.length : Int)], .b true, .b true, .b true, .b true, .b true, .b true, .b true, .b true, .b true, .b true, .b true, .b true, .b true, .b true, .b true, .b true, .b true, .s (.t 62) [iv (r4_1.Log.length : Int)], .b true, .b true, .b true, .b true, .b true, .b true, .b true, .b true, .s (.t 72) [iv (r4_2.length : Int)], .b true, .b true, .b true, .b true, .b true, .b true, .b true, .s (.t 81) [iv (r5_1.Log.length : Int)], .b true, .b true, .b true, .b true, .b true, .b true, .b true, .b true, .b true, .b false, .b false, .b false, .b false, .b false, .b false, .b false, .b false, .b false]) (l' := [(.t 0, [bv false])]) (by kernel_rfl) (.cons (Asks.of (C := Meets Try.prog) (raft_May.meets fu r2_1 _ h7_2)) (.cons b7_3 (.cons b7_3 (.cons (c_len (e := TMsg.en) (l := r3_2)) (.cons b7_3 (.cons b7_3 (.cons b7_4 (.cons b7_4 (.cons b7_4 (.cons b7_4 (.cons b7_5 (.cons b7_5 (.cons b7_5 (.cons b7_5 (.cons b7_6 (.cons b7_6 (.cons b7_6 (.cons b7_6 (.cons b7_7 (.cons b7_7 (.cons b7_7 (.cons (c_len (e := TEntry.en) (l := r4_1.Log)) (.cons b7_7 (.cons b7_7 (.cons b7_8 (.cons b7_8 (.cons b7_8 (.cons b7_8 (.cons b7_9 (.cons b7_9 (.cons (c_len (e := TMsg.en) (l := r4_2)) (.cons b7_9 (.cons b7_9 (.cons b7_10 (.cons b7_10 (.cons b7_11 (.cons b7_11 (.cons b7_11 (.cons (c_len (e := TEntry.en) (l := r5_1.Log)) (.cons b7_11 (.cons b7_11 (.cons b7_12 (.cons b7_12 (.cons b7_12 (.cons b7_12 (.cons b7_13 (.cons b7_13 (.cons b7_13 (.cons b7_14 (.cons b7_14 (.cons b7_14 (.cons b7_14 (.cons (Eq.refl false) (.cons (Eq.refl false) (.cons (Eq.refl false) (.cons (Eq.refl false) (.cons (Eq.refl false) .nil))))))))))))))))))))))))))))))))))))))))))))))))))))))))) (by kernel_rfl) ?_
                          refine WK.weak (l := [(.t 0, [bv false])]) (wk_of (by kernel_rfl)) ?_
                          refine WK.ret (by kernel_rfl) ?_
                          have h_ := some_inj h
                          subst h_
                          exact WKe.fin (e' := .ret) (by kernel_rfl) (fin_of (g := []) (by first | exact .inl rfl | exact .inr rfl) .nil (by kernel_rfl))
                      · refine WK.rs (g := [.a ⟨bv r7_1, []⟩, .b true, .b true, .s (.t 41) [iv (r3_2.length : Int)], .b true, .b true, .b true, .b true, .b true, .b true, .b true, .b true, .b true, .b true, .b true, .b true, .b true, .b true, .b true, .b true, .b true, .s (.t 62) [iv (r4_1.Log.length : Int)], .b true, .b true, .b true, .b true, .b true, .b true, .b true, .b true, .s (.t 72) [iv (r4_2.length : Int)], .b true, .b true, .b true, .b true, .b true, .b true, .b true, .s (.t 81) [iv (r5_1.Log.length : Int)], .b true, .b true, .b true, .b true, .b true, .b true, .b false, .b false, .b false, .b false, .b false, .b false, .b false, .b false, .b false, .b false, .b false, .b false]) (l' := [(.t 0, [bv false])]) (by kernel_rfl) (.cons (Asks.of (C := Meets Try.prog) (raft_May.meets fu r2_1 _ h7_2)) (.cons b7_3 (.cons b7_3 (.cons (c_len (e := TMsg.en) (l := r3_2)) (.cons b7_3 (.cons b7_3 (.cons b7_4 (.cons b7_4 (.cons b7_4 (.cons b7_4 (.cons b7_5 (.cons b7_5 (.cons b7_5 (.cons b7_5 (.cons b7_6 (.cons b7_6 (.cons b7_6 (.cons b7_6 (.cons b7_7 (.cons b7_7 (.cons b7_7 (.cons (c_len (e := TEntry.en) (l := r4_1.Log)) (.cons b7_7 (.cons b7_7 (.cons b7_8 (.cons b7_8 (.cons b7_8 (.cons b7_8 (.cons b7_9 (.cons b7_9 (.cons (c_len (e := TMsg.en) (l := r4_2)) (.cons b7_9 (.cons b7_9 (.cons b7_10 (.cons b7_10 (.cons b7_11 (.cons b7_11 (.cons b7_11 (.cons (c_len (e := TEntry.en) (l := r5_1.Log)) (.cons b7_11 (.cons b7_11 (.cons b7_12 (.cons b7_12 (.cons b7_12 (.cons b7_12 (.cons b7_13 (.cons b7_13 (.cons b7_13 (.cons (Eq.refl false) (.cons (Eq.refl false) (.cons (Eq.refl false) (.cons (Eq.refl false) (.cons (Eq.refl false) (.cons (Eq.refl false) (.cons (Eq.refl false) (.cons (Eq.refl false) (.cons (Eq.refl false) .nil))))))))))))))))))))))))))))))))))))))))))))))))))))))))) (by kernel_rfl) ?_
                        refine WK.weak (l := [(.t 0, [bv false])]) (wk_of (by kernel_rfl)) ?_
                        refine WK.ret (by kernel_rfl) ?_
                        have h_ := some_inj h
                        subst h_
                        exact WKe.fin (e' := .ret) (by kernel_rfl) (fin_of (g := []) (by first | exact .inl rfl | exact .inr rfl) .nil (by kernel_rfl))
                    · refine WK.rs (g := [.a ⟨bv r7_1, []⟩, .b true, .b true, .s (.t 41) [iv (r3_2.length : Int)], .b true, .b true, .b true, .b true, .b true, .b true, .b true, .b true, .b true, .b true, .b true, .b true, .b true, .b true, .b true, .b true, .b true, .s (.t 62) [iv (r4_1.Log.length : Int)], .b true, .b true, .b true, .b true, .b true, .b true, .b true, .b true, .s (.t 72) [iv (r4_2.length : Int)], .b true, .b true, .b true, .b true, .b true, .b true, .b true, .s (.t 81) [iv (r5_1.Log.length : Int)], .b true, .b true, .b false, .b false, .b false, .b false, .b false, .b false, .b false, .b false, .b false, .b false, .b false, .b false, .b false, .b false, .b false, .b false]) (l' := [(.t 0, [bv false])]) (by kernel_rfl) (.cons (Asks.of (C := Meets Try.prog) (raft_May.meets fu r2_1 _ h7_2)) (.cons b7_3 (.cons b7_3 (.cons (c_len (e := TMsg.en) (l := r3_2)) (.cons b7_3 (.cons b7_3 (.cons b7_4 (.cons b7_4 (.cons b7_4 (.cons b7_4 (.cons b7_5 (.cons b7_5 (.cons b7_5 (.cons b7_5 (.cons b7_6 (.cons b7_6 (.cons b7_6 (.cons b7_6 (.cons b7_7 (.cons b7_7 (.cons b7_7 (.cons (c_len (e := TEntry.en) (l := r4_1.Log)) (.cons b7_7 (.cons b7_7 (.cons b7_8 (.cons b7_8 (.cons b7_8 (.cons b7_8 (.cons b7_9 (.cons b7_9 (.cons (c_len (e := TMsg.en) (l := r4_2)) (.cons b7_9 (.cons b7_9 (.cons b7_10 (.cons b7_10 (.cons b7_11 (.cons b7_11 (.cons b7_11 (.cons (c_len (e := TEntry.en) (l := r5_1.Log)) (.cons b7_11 (.cons b7_11 (.cons b7_12 (.cons b7_12 (.cons b7_12 (.cons b7_12 (.cons (Eq.refl false) (.cons (Eq.refl false) (.cons (Eq.refl false) (.cons (Eq.refl false) (.cons (Eq.refl false) (.cons (Eq.refl false) (.cons (Eq.refl false) (.cons (Eq.refl false) (.cons (Eq.refl false) (.cons (Eq.refl false) (.cons (Eq.refl false) (.cons (Eq.refl false) .nil))))))))))))))))))))))))))))))))))))))))))))))))))))))))) (by kernel_rfl) ?_
                      refine WK.weak (l := [(.t 0, [bv false])]) (wk_of (by kernel_rfl)) ?_
                      refine WK.ret (by kernel_rfl) ?_
                      have h_ := some_inj h
                      subst h_
                      exact WKe.fin (e' := .ret) (by kernel_rfl) (fin_of (g := []) (by first | exact .inl rfl | exact .inr rfl) .nil (by kernel_rfl))
                  · refine WK.rs (g := [.a ⟨bv r7_1, []⟩, .b true, .b true, .s (.t 41) [iv (r3_2.length : Int)], .b true, .b true, .b true, .b true, .b true, .b true, .b true, .b true, .b true, .b true, .b true, .b true, .b true, .b true, .b true, .b true, .b true, .s (.t 62) [iv (r4_1.Log.length : Int)], .b true, .b true, .b true, .b true, .b true, .b true, .b true, .b true, .s (.t 72) [iv (r4_2.length : Int)], .b true, .b true, .b true, .b true, .b false, .b false, .b false, .b false, .b false, .b false, .b false, .b false, .b false, .b false, .b false, .b false, .b false, .b false, .b false, .b false, .b false, .b false, .b false, .b false, .b false]) (l' := [(.t 0, [bv false])]) (by kernel_rfl) (.cons (Asks.of (C := Meets Try.prog) (raft_May.meets fu r2_1 _ h7_2)) (.cons b7_3 (.cons b7_3 (.cons (c_len (e := TMsg.en) (l := r3_2)) (.cons b7_3 (.cons b7_3 (.cons b7_4 (.cons b7_4 (.cons b7_4 (.cons b7_4 (.cons b7_5 (.cons b7_5 (.cons b7_5 (.cons b7_5 (.cons b7_6 (.cons b7_6 (.cons b7_6 (.cons b7_6 (.cons b7_7 (.cons b7_7 (.cons b7_7 (.cons (c_len (e := TEntry.en) (l := r4_1.Log)) (.cons b7_7 (.cons b7_7 (.cons b7_8 (.cons b7_8 (.cons b7_8 (.cons b7_8 (.cons b7_9 (.cons b7_9 (.cons (c_len (e := TMsg.en) (l := r4_2)) (.cons b7_9 (.cons b7_9 (.cons b7_10 (.cons b7_10 (.cons b7_11 (.cons b7_11 (.cons b7_11 (.cons b7_11 (.cons b7_11 (.cons (Eq.refl false) (.cons (Eq.refl false) (.cons (Eq.refl false) (.cons (Eq.refl false) (.cons (Eq.refl false) (.cons (Eq.refl false) (.cons (Eq.refl false) (.cons (Eq.refl false) (.cons (Eq.refl false) (.cons (Eq.refl false) (.cons (Eq.refl false) (.cons (Eq.refl false) (.cons (Eq.refl false) (.cons (Eq.refl false) (.cons (Eq.refl false) (.cons (Eq.refl false) .nil)))))))))))))))))))))))))))))))))))))))))))))))))))))))) (by kernel_rfl) ?_
                    refine WK.weak (l := [(.t 0, [bv false])]) (wk_of (by kernel_rfl)) ?_
                    refine WK.ret (by kernel_rfl) ?_
                    have h_ := some_inj h
                    subst h_
                    exact WKe.fin (e' := .ret) (by kernel_rfl) (fin_of (g := []) (by first | exact .inl rfl | exact .inr rfl) .nil (by kernel_rfl))
                · refine WK.rs (g := [.a ⟨bv r7_1, []⟩, .b true, .b true, .s (.t 41) [iv (r3_2.length : Int)], .b true, .b true, .b true, .b true, .b true, .b true, .b true, .b true, .b true, .b true, .b true, .b true, .b true, .b true, .b true, .b true, .b true, .s (.t 62) [iv (r4_1.Log.length : Int)], .b true, .b true, .b true, .b true, .b true, .b true, .b true, .b true, .s (.t 72) [iv (r4_2.length : Int)], .b true, .b true, .b false, .b false, .b false, .b false, .b false, .b false, .b false, .b false, .b false, .b false, .b false, .b false, .b false, .b false, .b false, .b false, .b false, .b false, .b false, .b false, .b false, .b false, .b false]) (l' := [(.t 0, [bv false])]) (by kernel_rfl) (.cons (Asks.of (C := Meets Try.prog) (raft_May.meets fu r2_1 _ h7_2)) (.cons b7_3 (.cons b7_3 (.cons (c_len (e := TMsg.en) (l := r3_2)) (.cons b7_3 (.cons b7_3 (.cons b7_4 (.cons b7_4 (.cons b7_4 (.cons b7_4 (.cons b7_5 (.cons b7_5 (.cons b7_5 (.cons b7_5 (.cons b7_6 (.cons b7_6 (.cons b7_6 (.cons b7_6 (.cons b7_7 (.cons b7_7 (.cons b7_7 (.cons (c_len (e := TEntry.en) (l := r4_1.Log)) (.cons b7_7 (.cons b7_7 (.cons b7_8 (.cons b7_8 (.cons b7_8 (.cons b7_8 (.cons b7_9 (.cons b7_9 (.cons (c_len (e := TMsg.en) (l := r4_2)) (.cons b7_9 (.cons b7_9 (.cons b7_10 (.cons b7_10 (.cons (Eq.refl false) (.cons (Eq.refl false) (.cons (Eq.refl false) (.cons (Eq.refl false) (.cons (Eq.refl false) (.cons (Eq.refl false) (.cons (Eq.refl false) (.cons (Eq.refl false) (.cons (Eq.refl false) (.cons (Eq.refl false) (.cons (Eq.refl false) (.cons (Eq.refl false) (.cons (Eq.refl false) (.cons (Eq.refl false) (.cons (Eq.refl false) (.cons (Eq.refl false) (.cons (Eq.refl false) (.cons (Eq.refl false) (.cons (Eq.refl false) (.cons (Eq.refl false) (.cons (Eq.refl false) .nil)))))))))))))))))))))))))))))))))))))))))))))))))))))))) (by kernel_rfl) ?_
                  refine WK.weak (l := [(.t 0, [bv false])]) (wk_of (by kernel_rfl)) ?_
                  refine WK.ret (by kernel_rfl) ?_
                  have h_ := some_inj h
                  subst h_
                  exact WKe.fin (e' := .ret) (by kernel_rfl) (fin_of (g := []) (by first | exact .inl rfl | exact .inr rfl) .nil (by kernel_rfl))
              · refine WK.rs (g := [.a ⟨bv r7_1, []⟩, .b true, .b true, .s (.t 41) [iv (r3_2.length : Int)], .b true, .b true, .b true, .b true, .b true, .b true, .b true, .b true, .b true, .b true, .b true, .b true, .b true, .b true, .b true, .b true, .b true, .s (.t 62) [iv (r4_1.Log.length : Int)], .b true, .b true, .b true, .b true, .b true, .b true, .b false, .b false, .b false, .b false, .b false, .b false, .b false, .b false, .b false, .b false, .b false, .b false, .b false, .b false, .b false, .b false, .b false, .b false, .b false, .b false, .b false, .b false, .b false, .b false, .b false, .b false, .b false]) (l' := [(.t 0, [bv false])]) (by kernel_rfl) (.cons (Asks.of (C := Meets Try.prog) (raft_May.meets fu r2_1 _ h7_2)) (.cons b7_3 (.cons b7_3 (.cons (c_len (e := TMsg.en) (l := r3_2)) (.cons b7_3 (.cons b7_3 (.cons b7_4 (.cons b7_4 (.cons b7_4 (.cons b7_4 (.cons b7_5 (.cons b7_5 (.cons b7_5 (.cons b7_5 (.cons b7_6 (.cons b7_6 (.cons b7_6 (.cons b7_6 (.cons b7_7 (.cons b7_7 (.cons b7_7 (.cons (c_len (e := TEntry.en) (l := r4_1.Log)) (.cons b7_7 (.cons b7_7 (.cons b7_8 (.cons b7_8 (.cons b7_8 (.cons b7_8 (.cons b7_9 (.cons b7_9 (.cons b7_9 (.cons b7_9 (.cons (Eq.refl false) (.cons (Eq.refl false) (.cons (Eq.refl false) (.cons (Eq.refl false) (.cons (Eq.refl false) (.cons (Eq.refl false) (.cons (Eq.refl false) (.cons (Eq.refl false) (.cons (Eq.refl false) (.cons (Eq.refl false) (.cons (Eq.refl false) (.cons (Eq.refl false) (.cons (Eq.refl false) (.cons (Eq.refl false) (.cons (Eq.refl false) (.cons (Eq.refl false) (.cons (Eq.refl false) (.cons (Eq.refl false) (.cons (Eq.refl false) (.cons (Eq.refl false) (.cons (Eq.refl false) (.cons (Eq.refl false) (.cons (Eq.refl false) .nil))))))))))))))))))))))))))))))))))))))))))))))))))))))) (by kernel_rfl) ?_
                refine WK.weak (l := [(.t 0, [bv false])]) (wk_of (by kernel_rfl)) ?_
                refine WK.ret (by kernel_rfl) ?_
                have h_ := some_inj h
                subst h_
                exact WKe.fin (e' := .ret) (by kernel_rfl) (fin_of (g := []) (by first | exact .inl rfl | exact .inr rfl) .nil (by kernel_rfl))
            · refine WK.rs (g := [.a ⟨bv r7_1, []⟩, .b true, .b true, .s (.t 41) [iv (r3_2.length : Int)], .b true, .b true, .b true, .b true, .b true, .b true, .b true, .b true, .b true, .b true, .b true, .b true, .b true, .b true, .b true, .b true, .b true, .s (.t 62) [iv (r4_1.Log.length : Int)], .b true, .b true, .b false, .b false, .b false, .b false, .b false, .b false, .b false, .b false, .b false, .b false, .b false, .b false, .b false, .b false, .b false, .b false, .b false, .b false, .b false, .b false, .b false, .b false, .b false, .b false, .b false, .b false, .b false, .b false, .b false, .b false, .b false]) (l' := [(.t 0, [bv false])]) (by kernel_rfl) (.cons (Asks.of (C := Meets Try.prog) (raft_May.meets fu r2_1 _ h7_2)) (.cons b7_3 (.cons b7_3 (.cons (c_len (e := TMsg.en) (l := r3_2)) (.cons b7_3 (.cons b7_3 (.cons b7_4 (.cons b7_4 (.cons b7_4 (.cons b7_4 (.cons b7_5 (.cons b7_5 (.cons b7_5 (.cons b7_5 (.cons b7_6 (.cons b7_6 (.cons b7_6 (.cons b7_6 (.cons b7_7 (.cons b7_7 (.cons b7_7 (.cons (c_len (e := TEntry.en) (l := r4_1.Log)) (.cons b7_7 (.cons b7_7 (.cons b7_8 (.cons b7_8 (.cons b7_8 (.cons b7_8 (.cons (Eq.refl false) (.cons (Eq.refl false) (.cons (Eq.refl false) (.cons (Eq.refl false) (.cons (Eq.refl false) (.cons (Eq.refl false) (.cons (Eq.refl false) (.cons (Eq.refl false) (.cons (Eq.refl false) (.cons (Eq.refl false) (.cons (Eq.refl false) (.cons (Eq.refl false) (.cons (Eq.refl false) (.cons (Eq.refl false) (.cons (Eq.refl false) (.cons (Eq.refl false) (.cons (Eq.refl false) (.cons (Eq.refl false) (.cons (Eq.refl false) (.cons (Eq.refl false) (.cons (Eq.refl false) (.cons (Eq.refl false) (.cons (Eq.refl false) (.cons (Eq.refl false) (.cons (Eq.refl false) (.cons (Eq.refl false) (.cons (Eq.refl false) .nil))))))))))))))))))))))))))))))))))))))))))))))))))))))) (by kernel_rfl) ?_
              refine WK.weak (l := [(.t 0, [bv false])]) (wk_of (by kernel_rfl)) ?_
              refine WK.ret (by kernel_rfl) ?_
              have h_ := some_inj h
              subst h_
              exact WKe.fin (e' := .ret) (by kernel_rfl) (fin_of (g := []) (by first | exact .inl rfl | exact .inr rfl) .nil (by kernel_rfl))
          · refine WK.rs (g := [.a ⟨bv r7_1, []⟩, .b true, .b true, .s (.t 41) [iv (r3_2.length : Int)], .b true, .b true, .b true, .b true, .b true, .b true, .b true, .b true, .b true, .b true, .b true, .b true, .b true, .b true, .b false, .b false, .b false, .b false, .b false, .b false, .b false, .b false, .b false, .b false, .b false, .b false, .b false, .b false, .b false, .b false, .b false, .b false, .b false, .b false, .b false, .b false, .b false, .b false, .b false, .b false, .b false, .b false, .b false, .b false, .b false, .b false, .b false, .b false, .b false, .b false]) (l' := [(.t 0, [bv false])]) (by kernel_rfl) (.cons (Asks.of (C := Meets Try.prog) (raft_May.meets fu r2_1 _ h7_2)) (.cons b7_3 (.cons b7_3 (.cons (c_len (e := TMsg.en) (l := r3_2)) (.cons b7_3 (.cons b7_3 (.cons b7_4 (.cons b7_4 (.cons b7_4 (.cons b7_4 (.cons b7_5 (.cons b7_5 (.cons b7_5 (.cons b7_5 (.cons b7_6 (.cons b7_6 (.cons b7_6 (.cons b7_6 (.cons b7_7 (.cons b7_7 (.cons b7_7 (.cons b7_7 (.cons b7_7 (.cons (Eq.refl false) (.cons (Eq.refl false) (.cons (Eq.refl false) (.cons (Eq.refl false) (.cons (Eq.refl false) (.cons (Eq.refl false) (.cons (Eq.refl false) (.cons (Eq.refl false) (.cons (Eq.refl false) (.cons (Eq.refl false) (.cons (Eq.refl false) (.cons (Eq.refl false) (.cons (Eq.refl false) (.cons (Eq.refl false) (.cons (Eq.refl false) (.cons (Eq.refl false) (.cons (Eq.refl false) (.cons (Eq.refl false) (.cons (Eq.refl false) (.cons (Eq.refl false) (.cons (Eq.refl false) (.cons (Eq.refl false) (.cons (Eq.refl false) (.cons (Eq.refl false) (.cons (Eq.refl false) (.cons (Eq.refl false) (.cons (Eq.refl false) (.cons (Eq.refl false) (.cons (Eq.refl false) (.cons (Eq.refl false) (.cons (Eq.refl false) .nil)))))))))))))))))))))))))))))))))))))))))))))))))))))) (by kernel_rfl) ?_
            refine WK.weak (l := [(.t 0, [bv false])]) (wk_of (by kernel_rfl)) ?_
            refine WK.ret (by kernel_rfl) ?_
            have h_ := some_inj h
            subst h_
            exact WKe.fin (e' := .ret) (by kernel_rfl) (fin_of (g := []) (by first | exact .inl rfl | exact .inr rfl) .nil (by kernel_rfl))
        · refine WK.rs (g := [.a ⟨bv r7_1, []⟩, .b true, .b true, .s (.t 41) [iv (r3_2.length : Int)], .b true, .b true, .b true, .b true, .b true, .b true, .b true, .b true, .b true, .b true, .b false, .b false, .b false, .b false, .b false, .b false, .b false, .b false, .b false, .b false, .b false, .b false, .b false, .b false, .b false, .b false, .b false, .b false, .b false, .b false, .b false, .b false, .b false, .b false, .b false, .b false, .b false, .b false, .b false, .b false, .b false, .b false, .b false, .b false, .b false, .b false, .b false, .b false, .b false, .b false]) (l' := [(.t 0, [bv false])]) (by kernel_rfl) (.cons (Asks.of (C := Meets Try.prog) (raft_May.meets fu r2_1 _ h7_2)) (.cons b7_3 (.cons b7_3 (.cons (c_len (e := TMsg.en) (l := r3_2)) (.cons b7_3 (.cons b7_3 (.cons b7_4 (.cons b7_4 (.cons b7_4 (.cons b7_4 (.cons b7_5 (.cons b7_5 (.cons b7_5 (.cons b7_5 (.cons b7_6 (.cons b7_6 (.cons b7_6 (.cons b7_6 (.cons (Eq.refl false) (.cons (Eq.refl false) (.cons (Eq.refl false) (.cons (Eq.refl false) (.cons (Eq.refl false) (.cons (Eq.refl false) (.cons (Eq.refl false) (.cons (Eq.refl false) (.cons (Eq.refl false) (.cons (Eq.refl false) (.cons (Eq.refl false) (.cons (Eq.refl false) (.cons (Eq.refl false) (.cons (Eq.refl false) (.cons (Eq.refl false) (.cons (Eq.refl false) (.cons (Eq.refl false) (.cons (Eq.refl false) (.cons (Eq.refl false) (.cons (Eq.refl false) (.cons (Eq.refl false) (.cons (Eq.refl false) (.cons (Eq.refl false) (.cons (Eq.refl false) (.cons (Eq.refl false) (.cons (Eq.refl false) (.cons (Eq.refl false) (.cons (Eq.refl false) (.cons (Eq.refl false) (.cons (Eq.refl false) (.cons (Eq.refl false) (.cons (Eq.refl false) (.cons (Eq.refl false) (.cons (Eq.refl false) (.cons (Eq.refl false) (.cons (Eq.refl false) .nil)))))))))))))))))))))))))))))))))))))))))))))))))))))) (by kernel_rfl) ?_
          refine WK.weak (l := [(.t 0, [bv false])]) (wk_of (by kernel_rfl)) ?_
          refine WK.ret (by kernel_rfl) ?_
          have h_ := some_inj h
          subst h_
          exact WKe.fin (e' := .ret) (by kernel_rfl) (fin_of (g := []) (by first | exact .inl rfl | exact .inr rfl) .nil (by kernel_rfl))
      · refine WK.rs (g := [.a ⟨bv r7_1, []⟩, .b true, .b true, .s (.t 41) [iv (r3_2.length : Int)], .b true, .b true, .b true, .b true, .b true, .b true, .b false, .b false, .b false, .b false, .b false, .b false, .b false, .b false, .b false, .b false, .b false, .b false, .b false, .b false, .b false, .b false, .b false, .b false, .b false, .b false, .b false, .b false, .b false, .b false, .b false, .b false, .b false, .b false, .b false, .b false, .b false, .b false, .b false, .b false, .b false, .b false, .b false, .b false, .b false, .b false, .b false, .b false, .b false, .b false]) (l' := [(.t 0, [bv false])]) (by kernel_rfl) (.cons (Asks.of (C := Meets Try.prog) (raft_May.meets fu r2_1 _ h7_2)) (.cons b7_3 (.cons b7_3 (.cons (c_len (e := TMsg.en) (l := r3_2)) (.cons b7_3 (.cons b7_3 (.cons b7_4 (.cons b7_4 (.cons b7_4 (.cons b7_4 (.cons b7_5 (.cons b7_5 (.cons b7_5 (.cons b7_5 (.cons (Eq.refl false) (.cons (Eq.refl false) (.cons (Eq.refl false) (.cons (Eq.refl false) (.cons (Eq.refl false) (.cons (Eq.refl false) (.cons (Eq.refl false) (.cons (Eq.refl false) (.cons (Eq.refl false) (.cons (Eq.refl false) (.cons (Eq.refl false) (.cons (Eq.refl false) (.cons (Eq.refl false) (.cons (Eq.refl false) (.cons (Eq.refl false) (.cons (Eq.refl false) (.cons (Eq.refl false) (.cons (Eq.refl false) (.cons (Eq.refl false) (.cons (Eq.refl false) (.cons (Eq.refl false) (.cons (Eq.refl false) (.cons (Eq.refl false) (.cons (Eq.refl false) (.cons (Eq.refl false) (.cons (Eq.refl false) (.cons (Eq.refl false) (.cons (Eq.refl false) (.cons (Eq.refl false) (.cons (Eq.refl false) (.cons (Eq.refl false) (.cons (Eq.refl false) (.cons (Eq.refl false) (.cons (Eq.refl false) (.cons (Eq.refl false) (.cons (Eq.refl false) (.cons (Eq.refl false) (.cons (Eq.refl false) (.cons (Eq.refl false) (.cons (Eq.refl false) .nil)))))))))))))))))))))))))))))))))))))))))))))))))))))) (by kernel_rfl) ?_
        refine WK.weak (l := [(.t 0, [bv false])]) (wk_of (by kernel_rfl)) ?_
        refine WK.ret (by kernel_rfl) ?_
        have h_ := some_inj h
        subst h_
        exact WKe.fin (e' := .ret) (by kernel_rfl) (fin_of (g := []) (by first | exact .inl rfl | exact .inr rfl) .nil (by kernel_rfl))
    · refine WK.rs (g := [.a ⟨bv r7_1, []⟩, .b true, .b true, .s (.t 41) [iv (r3_2.length : Int)], .b true, .b true, .b false, .b false, .b false, .b false, .b false, .b false, .b false, .b false, .b false, .b false, .b false, .b false, .b false, .b false, .b false, .b false, .b false, .b false, .b false, .b false, .b false, .b false, .b false, .b false, .b false, .b false, .b false, .b false, .b false, .b false, .b false, .b false, .b false, .b false, .b false, .b false, .b false, .b false, .b false, .b false, .b false, .b false, .b false, .b false, .b false, .b false, .b false, .b false]) (l' := [(.t 0, [bv false])]) (by kernel_rfl) (.cons (Asks.of (C := Meets Try.prog) (raft_May.meets fu r2_1 _ h7_2)) (.cons b7_3 (.cons b7_3 (.cons (c_len (e := TMsg.en) (l := r3_2)) (.cons b7_3 (.cons b7_3 (.cons b7_4 (.cons b7_4 (.cons b7_4 (.cons b7_4 (.cons (Eq.refl false) (.cons (Eq.refl false) (.cons (Eq.refl false) (.cons (Eq.refl false) (.cons (Eq.refl false) (.cons (Eq.refl false) (.cons (Eq.refl false) (.cons (Eq.refl false) (.cons (Eq.refl false) (.cons (Eq.refl false) (.cons (Eq.refl false) (.cons (Eq.refl false) (.cons (Eq.refl false) (.cons (Eq.refl false) (.cons (Eq.refl false) (.cons (Eq.refl false) (.cons (Eq.refl false) (.cons (Eq.refl false) (.cons (Eq.refl false) (.cons (Eq.refl false) (.cons (Eq.refl false) (.cons (Eq.refl false) (.cons (Eq.refl false) (.cons (Eq.refl false) (.cons (Eq.refl false) (.cons (Eq.refl false) (.cons (Eq.refl false) (.cons (Eq.refl false) (.cons (Eq.refl false) (.cons (Eq.refl false) (.cons (Eq.refl false) (.cons (Eq.refl false) (.cons (Eq.refl false) (.cons (Eq.refl false) (.cons (Eq.refl false) (.cons (Eq.refl false) (.cons (Eq.refl false) (.cons (Eq.refl false) (.cons (Eq.refl false) (.cons (Eq.refl false) (.cons (Eq.refl false) (.cons (Eq.refl false) (.cons (Eq.refl false) (.cons (Eq.refl false) .nil)))))))))))))))))))))))))))))))))))))))))))))))))))))) (by kernel_rfl) ?_
      refine WK.weak (l := [(.t 0, [bv false])]) (wk_of (by kernel_rfl)) ?_
      refine WK.ret (by kernel_rfl) ?_
      have h_ := some_inj h
      subst h_
      exact WKe.fin (e' := .ret) (by kernel_rfl) (fin_of (g := []) (by first | exact .inl rfl | exact .inr rfl) .nil (by kernel_rfl))
  · refine WK.rs (g := [.a ⟨bv r7_1, []⟩, .b false, .b false, .b false, .b false, .b false, .b false, .b false, .b false, .b false, .b false, .b false, .b false, .b false, .b false, .b false, .b false, .b false, .b false, .b false, .b false, .b false, .b false, .b false, .b false, .b false, .b false, .b false, .b false, .b false, .b false, .b false, .b false, .b false, .b false, .b false, .b false, .b false, .b false, .b false, .b false, .b false, .b false, .b false, .b false, .b false, .b false, .b false, .b false, .b false, .b false, .b false, .b false]) (l' := [(.t 0, [bv false])]) (by kernel_rfl) (.cons (Asks.of (C := Meets Try.prog) (raft_May.meets fu r2_1 _ h7_2)) (.cons b7_3 (.cons b7_3 (.cons b7_3 (.cons b7_3 (.cons (Eq.refl false) (.cons (Eq.refl false) (.cons (Eq.refl false) (.cons (Eq.refl false) (.cons (Eq.refl false) (.cons (Eq.refl false) (.cons (Eq.refl false) (.cons (Eq.refl false) (.cons (Eq.refl false) (.cons (Eq.refl false) (.cons (Eq.refl false) (.cons (Eq.refl false) (.cons (Eq.refl false) (.cons (Eq.refl false) (.cons (Eq.refl false) (.cons (Eq.refl false) (.cons (Eq.refl false) (.cons (Eq.refl false) (.cons (Eq.refl false) (.cons (Eq.refl false) (.cons (Eq.refl false) (.cons (Eq.refl false) (.cons (Eq.refl false) (.cons (Eq.refl false) (.cons (Eq.refl false) (.cons (Eq.refl false) (.cons (Eq.refl false) (.cons (Eq.refl false) (.cons (Eq.refl false) (.cons (Eq.refl false) (.cons (Eq.refl false) (.cons (Eq.refl false) (.cons (Eq.refl false) (.cons (Eq.refl false) (.cons (Eq.refl false) (.cons (Eq.refl false) (.cons (Eq.refl false) (.cons (Eq.refl false) (.cons (Eq.refl false) (.cons (Eq.refl false) (.cons (Eq.refl false) (.cons (Eq.refl false) (.cons (Eq.refl false) (.cons (Eq.refl false) (.cons (Eq.refl false) (.cons (Eq.refl false) (.cons (Eq.refl false) (.cons (Eq.refl false) .nil))))))))))))))))))))))))))))))))))))))))))))))))))))) (by kernel_rfl) ?_
    refine WK.weak (l := [(.t 0, [bv false])]) (wk_of (by kernel_rfl)) ?_
    refine WK.ret (by kernel_rfl) ?_
    have h_ := some_inj h
    subst h_
    exact WKe.fin (e' := .ret) (by kernel_rfl) (fin_of (g := []) (by first | exact .inl rfl | exact .inr rfl) .nil (by kernel_rfl))
/-- diwan/diwanref11.May -/
noncomputable def bd17 : Code := (Try.f17.body).getD .skip
def diwanref11_May.O : Nat → Nat := fun t => bif ([1, 2, 3] : List Nat).any (Nat.beq t) then 1 else 0
noncomputable def diwanref11_May.lp25 (fu : Nat) (l25_1 : TRaft) : Nat → Int → Option (Unit ⊕ Unit)
  | 0, _ => none
  | n_ + 1, l25_0 =>
    br (decide (l25_0 < (l25_1.Log.length : Int)))
      (ix l25_1.Log l25_0 fun x28_1 =>
      br (decide (x28_1.Term < 1))
        (some (.inr ()))
        (ix l25_1.Log l25_0 fun x28_5 =>
        br (decide (x28_5.Term > l25_1.Term))
          (some (.inr ()))
          (br (decide (l25_0 > 0))
            (ix l25_1.Log l25_0 fun x28_10 =>
            ix l25_1.Log (w64 (l25_0 - 1)) fun x28_13 =>
            br (decide (x28_10.Term < x28_13.Term))
              (some (.inr ()))
              (diwanref11_May.lp25 fu l25_1 n_ (w64 (l25_0 + 1))))
            (diwanref11_May.lp25 fu l25_1 n_ (w64 (l25_0 + 1))))))
      (some (.inl ()))
noncomputable def diwanref11_May.lp25_post (l25_1 : TRaft) (r_ : (Unit ⊕ Unit)) : Wy → St → Prop := fun e τ => match r_ with
  | .inl _ => e = .exit 0 ∧ τ = ofL []
  | .inr _ => e = .ret ∧ τ = ofL [(.t 2, [bv false])]
theorem diwanref11_May.lp25_ok (fu : Nat) (l25_1 : TRaft) : ∀ (n_ : Nat) (l25_0 : Int) (r_ : (Unit ⊕ Unit)), diwanref11_May.lp25 fu l25_1 n_ l25_0 = some r_ → WK Try.prog diwanref11_May.O (Ck Try.prog) (cB (cR (cL (cR (cR bd17))))) [] (ofL [(.t 1, [.ptr 1 0]), (.t 3, [iv l25_0]), (.o 1, (TRaft.ob l25_1))]) (diwanref11_May.lp25_post l25_1 r_) := by
  intro n_
  induction n_ with
  | zero => intro l25_0 r_ h; exact no_none h
  | succ n_ ih =>
    intro l25_0 r_ h
    refine WK.loop (by kernel_rfl) ?_
    refine WK.seq (by kernel_rfl) ?_
    refine WK.rs (g := [.s (.t 124) [iv (l25_1.Log.length : Int)]]) (l' := [(.t 1, [.ptr 1 0]), (.t 3, [iv l25_0]), (.t 125, [bv (decide (l25_0 < (l25_1.Log.length : Int)))]), (.o 1, (TRaft.ob l25_1))]) (by kernel_rfl) (.cons (c_len (e := TEntry.en) (l := l25_1.Log)) .nil) (by kernel_rfl) ?_
    rcases br_inv h with ⟨b27_0, h⟩ | ⟨b27_0, h⟩
    · refine WK.ct (b := (decide (l25_0 < (l25_1.Log.length : Int)))) (by kernel_rfl) b27_0 ?_
      refine WK.skip (by kernel_rfl) ?_
      refine WKe.code (y := (cR (cB (cB (cR (cL (cR (cR bd17)))))))) (ks' := [.lp (cB (cR (cL (cR (cR bd17)))))]) (by kernel_rfl) ?_
      refine WK.seq (by kernel_rfl) ?_
      refine WK.block (n := 1) (by kernel_rfl) ?_
      obtain ⟨x28_1, a28_2, e28_3, h⟩ := ix_inv h
      rcases br_inv h with ⟨b28_4, h⟩ | ⟨b28_4, h⟩
      · refine WK.rs (g := [.c (TEntry.en x28_1), .b true, .b true, .b true, .b true, .b true, .b true, .b true, .b true, .b true, .b true, .b true, .b true, .b true, .b true, .b true]) (l' := [(.t 1, [.ptr 1 0]), (.t 3, [iv l25_0]), (.t 165, [bv true]), (.o 1, (TRaft.ob l25_1))]) (by kernel_rfl) (.cons (c_ix (e := TEntry.en) a28_2 e28_3) (.cons (c_el (e := TEntry.en) e28_3) (.cons b28_4 (.cons b28_4 (.cons b28_4 (.cons b28_4 (.cons b28_4 (.cons b28_4 (.cons b28_4 (.cons b28_4 (.cons b28_4 (.cons b28_4 (.cons (Eq.refl true) (.cons (Eq.refl true) (.cons (Eq.refl true) (.cons (Eq.refl true) (.cons (Eq.refl true) (.cons (Eq.refl true) .nil)))))))))))))))))) (by kernel_rfl) ?_
        refine WK.ct (b := true) (by kernel_rfl) rfl ?_
        refine WK.rs (g := []) (l' := [(.t 2, [bv false])]) (by kernel_rfl) .nil (by kernel_rfl) ?_
        refine WK.weak (l := [(.t 2, [bv false])]) (wk_of (by kernel_rfl)) ?_
        refine WK.ret (by kernel_rfl) ?_
        cases some_inj h
        exact WKe.fin (e' := .ret) (by kernel_rfl) ⟨rfl, rfl⟩
      · obtain ⟨x28_5, a28_6, e28_7, h⟩ := ix_inv h
        rcases br_inv h with ⟨b28_8, h⟩ | ⟨b28_8, h⟩
        · refine WK.rs (g := [.c (TEntry.en x28_1), .b false, .b false, .b false, .b false, .c (TEntry.en x28_5), .b false, .b false, .b false, .b false, .b false, .b false, .b true, .b true, .b true, .b true, .b true]) (l' := [(.t 1, [.ptr 1 0]), (.t 3, [iv l25_0]), (.t 165, [bv true]), (.o 1, (TRaft.ob l25_1))]) (by kernel_rfl) (.cons (c_ix (e := TEntry.en) a28_2 e28_3) (.cons (c_el (e := TEntry.en) e28_3) (.cons b28_4 (.cons b28_4 (.cons b28_4 (.cons b28_4 (.cons (c_ix (e := TEntry.en) a28_6 e28_7) (.cons (c_el (e := TEntry.en) e28_7) (.cons b28_4 (.cons b28_4 (.cons b28_4 (.cons b28_4 (.cons b28_4 (.cons b28_4 (.cons b28_8 (.cons b28_8 (.cons b28_8 (.cons b28_8 (.cons b28_8 (.cons (Eq.refl true) .nil)))))))))))))))))))) (by kernel_rfl) ?_
          refine WK.ct (b := true) (by kernel_rfl) rfl ?_
          refine WK.rs (g := []) (l' := [(.t 2, [bv false])]) (by kernel_rfl) .nil (by kernel_rfl) ?_
          refine WK.weak (l := [(.t 2, [bv false])]) (wk_of (by kernel_rfl)) ?_
          refine WK.ret (by kernel_rfl) ?_
          cases some_inj h
          exact WKe.fin (e' := .ret) (by kernel_rfl) ⟨rfl, rfl⟩
        · rcases br_inv h with ⟨b28_9, h⟩ | ⟨b28_9, h⟩
          · obtain ⟨x28_10, a28_11, e28_12, h⟩ := ix_inv h
            obtain ⟨x28_13, a28_14, e28_15, h⟩ := ix_inv h
            refine WK.rs (g := [.c (TEntry.en x28_1), .b false, .b false, .b false, .b false, .c (TEntry.en x28_5), .b false, .b false, .b false, .b false, .b false, .b false, .b false, .b false, .b false, .b true, .b true, .b true, .b true, .c (TEntry.en x28_10), .b true, .b true, .b true, .b true, .b true, .b true, .b true, .c (TEntry.en x28_13), .b true, .b true, .b true, .b false, .b true, .b false]) (l' := [(.t 1, [.ptr 1 0]), (.t 3, [iv l25_0]), (.t 165, [bv (decide (x28_10.Term < x28_13.Term))]), (.o 1, (TRaft.ob l25_1))]) (by kernel_rfl) (.cons (c_ix (e := TEntry.en) a28_2 e28_3) (.cons (c_el (e := TEntry.en) e28_3) (.cons b28_4 (.cons b28_4 (.cons b28_4 (.cons b28_4 (.cons (c_ix (e := TEntry.en) a28_6 e28_7) (.cons (c_el (e := TEntry.en) e28_7) (.cons b28_4 (.cons b28_4 (.cons b28_4 (.cons b28_4 (.cons b28_4 (.cons b28_4 (.cons b28_8 (.cons b28_8 (.cons b28_8 (.cons b28_9 (.cons b28_9 (.cons b28_9 (.cons b28_9 (.cons (c_ix (e := TEntry.en) a28_11 e28_12) (.cons (c_el (e := TEntry.en) e28_12) (.cons b28_9 (.cons b28_9 (.cons b28_9 (.cons b28_9 (.cons b28_9 (.cons b28_9 (.cons b28_9 (.cons (c_ix (e := TEntry.en) a28_14 e28_15) (.cons (c_el (e := TEntry.en) e28_15) (.cons b28_9 (.cons b28_9 (.cons b28_9 (.cons b28_8 (.cons b28_9 (.cons b28_8 (.cons (Eq.refl true) .nil))))))))))))))))))))))))))))))))))))))) (by kernel_rfl) ?_
            rcases br_inv h with ⟨b31_0, h⟩ | ⟨b31_0, h⟩
            · refine WK.ct (b := (decide (x28_10.Term < x28_13.Term))) (by kernel_rfl) b31_0 ?_
              refine WK.rs (g := []) (l' := [(.t 2, [bv false])]) (by kernel_rfl) .nil (by kernel_rfl) ?_
              refine WK.weak (l := [(.t 2, [bv false])]) (wk_of (by kernel_rfl)) ?_
              refine WK.ret (by kernel_rfl) ?_
              cases some_inj h
              exact WKe.fin (e' := .ret) (by kernel_rfl) ⟨rfl, rfl⟩
            · refine WK.ce (b := (decide (x28_10.Term < x28_13.Term))) (by kernel_rfl) b31_0 ?_
              refine WK.skip (by kernel_rfl) ?_
              refine WKe.code (y := (cR (cR (cB (cB (cR (cL (cR (cR bd17))))))))) (ks' := [.lp (cB (cR (cL (cR (cR bd17)))))]) (by kernel_rfl) ?_
              refine WK.rc (g := []) (l' := [(.t 1, [.ptr 1 0]), (.t 3, [iv (w64 (l25_0 + 1))]), (.o 1, (TRaft.ob l25_1))]) .nil (by kernel_rfl) (y := (cB (cR (cL (cR (cR bd17)))))) (ks' := []) (by kernel_rfl) ?_
              exact WK.weak (l := [(.t 1, [.ptr 1 0]), (.t 3, [iv (w64 (l25_0 + 1))]), (.o 1, (TRaft.ob l25_1))]) (wk_of (by kernel_rfl)) (ih (w64 (l25_0 + 1)) _ h)
          · refine WK.rs (g := [.c (TEntry.en x28_1), .b false, .b false, .b false, .b false, .c (TEntry.en x28_5), .b false, .b false, .b false, .b false, .b false, .b false, .b false, .b false, .b false, .b false, .b false, .b false, .b false, .b false, .b false, .b false, .b false, .b false, .b false, .b false, .b false, .b false, .b false, .b false, .b false, .b false]) (l' := [(.t 1, [.ptr 1 0]), (.t 3, [iv l25_0]), (.t 165, [bv false]), (.o 1, (TRaft.ob l25_1))]) (by kernel_rfl) (.cons (c_ix (e := TEntry.en) a28_2 e28_3) (.cons (c_el (e := TEntry.en) e28_3) (.cons b28_4 (.cons b28_4 (.cons b28_4 (.cons b28_4 (.cons (c_ix (e := TEntry.en) a28_6 e28_7) (.cons (c_el (e := TEntry.en) e28_7) (.cons b28_4 (.cons b28_4 (.cons b28_4 (.cons b28_4 (.cons b28_4 (.cons b28_4 (.cons b28_8 (.cons b28_8 (.cons b28_8 (.cons b28_9 (.cons b28_9 (.cons b28_9 (.cons b28_9 (.cons b28_9 (.cons b28_9 (.cons b28_9 (.cons b28_9 (.cons b28_9 (.cons b28_9 (.cons b28_9 (.cons b28_9 (.cons b28_9 (.cons b28_9 (.cons b28_8 (.cons b28_9 (.cons b28_8 (.cons (Eq.refl true) .nil))))))))))))))))))))))))))))))))))) (by kernel_rfl) ?_
            refine WK.ce (b := false) (by kernel_rfl) rfl ?_
            refine WK.skip (by kernel_rfl) ?_
            refine WKe.code (y := (cR (cR (cB (cB (cR (cL (cR (cR bd17))))))))) (ks' := [.lp (cB (cR (cL (cR (cR bd17)))))]) (by kernel_rfl) ?_
            refine WK.rc (g := []) (l' := [(.t 1, [.ptr 1 0]), (.t 3, [iv (w64 (l25_0 + 1))]), (.o 1, (TRaft.ob l25_1))]) .nil (by kernel_rfl) (y := (cB (cR (cL (cR (cR bd17)))))) (ks' := []) (by kernel_rfl) ?_
            exact WK.weak (l := [(.t 1, [.ptr 1 0]), (.t 3, [iv (w64 (l25_0 + 1))]), (.o 1, (TRaft.ob l25_1))]) (wk_of (by kernel_rfl)) (ih (w64 (l25_0 + 1)) _ h)
    · refine WK.ce (b := (decide (l25_0 < (l25_1.Log.length : Int)))) (by kernel_rfl) b27_0 ?_
      refine WK.weak (l := []) (wk_of (by kernel_rfl)) ?_
      refine WK.exit (n := 0) (by kernel_rfl) ?_
      cases some_inj h
      exact WKe.fin (e' := .exit 0) (by kernel_rfl) ⟨rfl, rfl⟩
noncomputable def diwanref11_May (fu : Nat) (r_v : TRaft) : Option Bool :=
  br (decide (r_v.Nodes < 1))
    (some false)
    (br (decide (r_v.Nodes > 5))
      (some false)
      (br (decide (r_v.Me < 1))
        (some false)
        (br (decide (r_v.Me > r_v.Nodes))
          (some false)
          (br (decide (r_v.Wait < 1))
            (some false)
            (br (decide (r_v.Wait > 60))
              (some false)
              (br (decide (r_v.Term < 0))
                (some false)
                (br (decide (r_v.Vote < 0))
                  (some false)
                  (br (decide (r_v.Vote > r_v.Nodes))
                    (some false)
                    (br (decide (r_v.Leader < 0))
                      (some false)
                      (br (decide (r_v.Leader > r_v.Nodes))
                        (some false)
                        (br (decide ((r_v.Log.length : Int) > 200))
                          (some false)
                          (br (decide (r_v.Commit < 0))
                            (some false)
                            (br (decide (r_v.Commit > (r_v.Log.length : Int)))
                              (some false)
                              (br (decide (r_v.Role < 0))
                                (some false)
                                (br (decide (r_v.Role > 2))
                                  (some false)
                                  (br ((r_v.Votes.length : Int) != r_v.Nodes)
                                    (some false)
                                    (br ((r_v.Next.length : Int) != r_v.Nodes)
                                      (some false)
                                      (br ((r_v.Match.length : Int) != r_v.Nodes)
                                        (some false)
                                        (br (decide (r_v.Clock < 0))
                                          (some false)
                                          (bd (diwanref11_May.lp25 fu r_v fu 0) fun o_ => (match o_ with
                                          | .inl _ =>
                                            some true
                                          | .inr _ =>
                                            some false)))))))))))))))))))))
theorem diwanref11_May.meets (fu : Nat) (r_v : TRaft) (z0 : Bool) (h : diwanref11_May fu r_v = some z0) : Meets Try.prog ⟨17, [.data (TRaft.ag r_v)], []⟩ ⟨bv z0, []⟩ := by
  refine meets_of (O := diwanref11_May.O) hmix (fn := Try.f17) (code := bd17) (by kernel_rfl) ?_
  refine WK.weak (l := [(.t 0, [.data (TRaft.ag r_v)])]) (wk_of (by kernel_rfl)) ?_
  unfold diwanref11_May at h
  refine WK.rs (g := []) (l' := [(.t 1, [.ptr 1 0]), (.o 1, (TRaft.ob r_v))]) (by kernel_rfl) .nil (by kernel_rfl) ?_
  refine WK.seq (by kernel_rfl) ?_
  rcases br_inv h with ⟨b2_1, h⟩ | ⟨b2_1, h⟩
  · refine WK.rs (g := [.b true, .b true, .b true, .b true, .b true, .b true, .b true, .b true, .b true, .b true, .b true, .b true, .b true, .b true, .b true, .b true, .b true, .b true, .b true, .b true, .b true, .b true, .b true, .b true, .b true, .b true, .b true, .b true, .b true, .b true, .b true, .b true, .b true, .b true, .b true, .b true, .b true, .b true, .b true, .b true, .b true, .b true, .b true, .b true, .b true, .b true, .b true, .b true, .b true, .b true, .b true, .b true, .b true, .b true, .b true, .b true, .b true, .b true, .b true, .b true, .b true, .b true, .b true, .b true, .b true, .b true, .b true, .b true, .b true, .b true, .b true, .b true, .b true, .b true, .b true, .b true, .b true, .b true, .b true, .b true, .b true, .b true, .b true, .b true, .b true, .b true, .b true, .b true, .b true, .b true, .b true, .b true, .b true, .b true, .b true]) (l' := [(.t 1, [.ptr 1 0]), (.t 120, [bv true]), (.o 1, (TRaft.ob r_v))]) (by kernel_rfl) (.cons b2_1 (.cons b2_1 (.cons b2_1 (.cons b2_1 (.cons (Eq.refl true) (.cons (Eq.refl true) (.cons (Eq.refl true) (.cons (Eq.refl true) (.cons (Eq.refl true) (.cons (Eq.refl true) (.cons (Eq.refl true) (.cons (Eq.refl true) (.cons (Eq.refl true) (.cons (Eq.refl true) (.cons (Eq.refl true) (.cons (Eq.refl true) (.cons (Eq.refl true) (.cons (Eq.refl true) (.cons (Eq.refl true) (.cons (Eq.refl true) (.cons (Eq.refl true) (.cons (Eq.refl true) (.cons (Eq.refl true) (.cons (Eq.refl true) (.cons (Eq.refl true) (.cons (Eq.refl true) (.cons (Eq.refl true) (.cons (Eq.refl true) (.cons (Eq.refl true) (.cons (Eq.refl true) (.cons (Eq.refl true) (.cons (Eq.refl true) (.cons (Eq.refl true) (.cons (Eq.refl true) (.cons (Eq.refl true) (.cons (Eq.refl true) (.cons (Eq.refl true) (.cons (Eq.refl true) (.cons (Eq.refl true) (.cons (Eq.refl true) (.cons (Eq.refl true) (.cons (Eq.refl true) (.cons (Eq.refl true) (.cons (Eq.refl true) (.cons (Eq.refl true) (.cons (Eq.refl true) (.cons (Eq.refl true) (.cons (Eq.refl true) (.cons (Eq.refl true) (.cons (Eq.refl true) (.cons (Eq.refl true) (.cons (Eq.refl true) (.cons (Eq.refl true) (.cons (Eq.refl true) (.cons (Eq.refl true) (.cons (Eq.refl true) (.cons (Eq.refl true) (.cons (Eq.refl true) (.cons (Eq.refl true) (.cons (Eq.refl true) (.cons (Eq.refl true) (.cons (Eq.refl true) (.cons (Eq.refl true) (.cons (Eq.refl true) (.cons (Eq.refl true) (.cons (Eq.refl true) (.cons (Eq.refl true) (.cons (Eq.refl true) (.cons (Eq.refl true) (.cons (Eq.refl true) (.cons (Eq.refl true) (.cons (Eq.refl true) (.cons (Eq.refl true) (.cons (Eq.refl true) (.cons (Eq.refl true) (.cons (Eq.refl true) (.cons (Eq.refl true) (.cons (Eq.refl true) (.cons (Eq.refl true) (.cons (Eq.refl true) (.cons (Eq.refl true) (.cons (Eq.refl true) (.cons (Eq.refl true) (.cons (Eq.refl true) (.cons (Eq.refl true) (.cons (Eq.refl true) (.cons (Eq.refl true) (.cons (Eq.refl true) (.cons (Eq.refl true) (.cons (Eq.refl true) (.cons (Eq.refl true) (.cons (Eq.refl true) (.cons (Eq.refl true) (.cons (Eq.refl true) (.cons (Eq.refl true) .nil))))))))))))))))))))))))))))))))))))))))))))))))))))))))))))))))))))))))))))))))))))))))))))))) (by kernel_rfl) ?_
    refine WK.ct (b := true) (by kernel_rfl) rfl ?_
    refine WK.rs (g := []) (l' := [(.t 2, [bv false])]) (by kernel_rfl) .nil (by kernel_rfl) ?_
    refine WK.weak (l := [(.t 2, [bv false])]) (wk_of (by kernel_rfl)) ?_
    refine WK.ret (by kernel_rfl) ?_
    have h_ := some_inj h
    subst h_
    exact WKe.fin (e' := .ret) (by kernel_rfl) (fin_of (g := []) (by first | exact .inl rfl | exact .inr rfl) .nil (by kernel_rfl))
  · rcases br_inv h with ⟨b2_2, h⟩ | ⟨b2_2, h⟩
    · refine WK.rs (g := [.b false, .b false, .b false, .b false, .b true, .b true, .b true, .b true, .b true, .b true, .b true, .b true, .b true, .b true, .b true, .b true, .b true, .b true, .b true, .b true, .b true, .b true, .b true, .b true, .b true, .b true, .b true, .b true, .b true, .b true, .b true, .b true, .b true, .b true, .b true, .b true, .b true, .b true, .b true, .b true, .b true, .b true, .b true, .b true, .b true, .b true, .b true, .b true, .b true, .b true, .b true, .b true, .b true, .b true, .b true, .b true, .b true, .b true, .b true, .b true, .b true, .b true, .b true, .b true, .b true, .b true, .b true, .b true, .b true, .b true, .b true, .b true, .b true, .b true, .b true, .b true, .b true, .b true, .b true, .b true, .b true, .b true, .b true, .b true, .b true, .b true, .b true, .b true, .b true, .b true, .b true, .b true, .b true, .b true, .b true]) (l' := [(.t 1, [.ptr 1 0]), (.t 120, [bv true]), (.o 1, (TRaft.ob r_v))]) (by kernel_rfl) (.cons b2_1 (.cons b2_1 (.cons b2_1 (.cons b2_1 (.cons b2_2 (.cons b2_2 (.cons b2_2 (.cons b2_2 (.cons (Eq.refl true) (.cons (Eq.refl true) (.cons (Eq.refl true) (.cons (Eq.refl true) (.cons (Eq.refl true) (.cons (Eq.refl true) (.cons (Eq.refl true) (.cons (Eq.refl true) (.cons (Eq.refl true) (.cons (Eq.refl true) (.cons (Eq.refl true) (.cons (Eq.refl true) (.cons (Eq.refl true) (.cons (Eq.refl true) (.cons (Eq.refl true) (.cons (Eq.refl true) (.cons (Eq.refl true) (.cons (Eq.refl true) (.cons (Eq.refl true) (.cons (Eq.refl true) (.cons (Eq.refl true) (.cons (Eq.refl true) (.cons (Eq.refl true) (.cons (Eq.refl true) (.cons (Eq.refl true) (.cons (Eq.refl true) (.cons (Eq.refl true) (.cons (Eq.refl true) (.cons (Eq.refl true) (.cons (Eq.refl true) (.cons (Eq.refl true) (.cons (Eq.refl true) (.cons (Eq.refl true) (.cons (Eq.refl true) (.cons (Eq.refl true) (.cons (Eq.refl true) (.cons (Eq.refl true) (.cons (Eq.refl true) (.cons (Eq.refl true) (.cons (Eq.refl true) (.cons (Eq.refl true) (.cons (Eq.refl true) (.cons (Eq.refl true) (.cons (Eq.refl true) (.cons (Eq.refl true) (.cons (Eq.refl true) (.cons (Eq.refl true) (.cons (Eq.refl true) (.cons (Eq.refl true) (.cons (Eq.refl true) (.cons (Eq.refl true) (.cons (Eq.refl true) (.cons (Eq.refl true) (.cons (Eq.refl true) (.cons (Eq.refl true) (.cons (Eq.refl true) (.cons (Eq.refl true) (.cons (Eq.refl true) (.cons (Eq.refl true) (.cons (Eq.refl true) (.cons (Eq.refl true) (.cons (Eq.refl true) (.cons (Eq.refl true) (.cons (Eq.refl true) (.cons (Eq.refl true) (.cons (Eq.refl true) (.cons (Eq.refl true) (.cons (Eq.refl true) (.cons (Eq.refl true) (.cons (Eq.refl true) (.cons (Eq.refl true) (.cons (Eq.refl true) (.cons (Eq.refl true) (.cons (Eq.refl true) (.cons (Eq.refl true) (.cons (Eq.refl true) (.cons (Eq.refl true) (.cons (Eq.refl true) (.cons (Eq.refl true) (.cons (Eq.refl true) (.cons (Eq.refl true) (.cons (Eq.refl true) (.cons (Eq.refl true) (.cons (Eq.refl true) (.cons (Eq.refl true) (.cons (Eq.refl true) (.cons (Eq.refl true) .nil))))))))))))))))))))))))))))))))))))))))))))))))))))))))))))))))))))))))))))))))))))))))))))))) (by kernel_rfl) ?_
      refine WK.ct (b := true) (by kernel_rfl) rfl ?_
      refine WK.rs (g := []) (l' := [(.t 2, [bv false])]) (by kernel_rfl) .nil (by kernel_rfl) ?_
      refine WK.weak (l := [(.t 2, [bv false])]) (wk_of (by kernel_rfl)) ?_
      refine WK.ret (by kernel_rfl) ?_
      have h_ := some_inj h
      subst h_
      exact WKe.fin (e' := .ret) (by kernel_rfl) (fin_of (g := []) (by first | exact .inl rfl | exact .inr rfl) .nil (by kernel_rfl))
    · rcases br_inv h with ⟨b2_3, h⟩ | ⟨b2_3, h⟩
      · refine WK.rs (g := [.b false, .b false, .b false, .b false, .b false, .b false, .b false, .b false, .b true, .b true, .b true, .b true, .b true, .b true, .b true, .b true, .b true, .b true, .b true, .b true, .b true, .b true, .b true, .b true, .b true, .b true, .b true, .b true, .b true, .b true, .b true, .b true, .b true, .b true, .b true, .b true, .b true, .b true, .b true, .b true, .b true, .b true, .b true, .b true, .b true, .b true, .b true, .b true, .b true, .b true, .b true, .b true, .b true, .b true, .b true, .b true, .b true, .b true, .b true, .b true, .b true, .b true, .b true, .b true, .b true, .b true, .b true, .b true, .b true, .b true, .b true, .b true, .b true, .b true, .b true, .b true, .b true, .b true, .b true, .b true, .b true, .b true, .b true, .b true, .b true, .b true, .b true, .b true, .b true, .b true, .b true, .b true, .b true, .b true, .b true]) (l' := [(.t 1, [.ptr 1 0]), (.t 120, [bv true]), (.o 1, (TRaft.ob r_v))]) (by kernel_rfl) (.cons b2_1 (.cons b2_1 (.cons b2_1 (.cons b2_1 (.cons b2_2 (.cons b2_2 (.cons b2_2 (.cons b2_2 (.cons b2_3 (.cons b2_3 (.cons b2_3 (.cons b2_3 (.cons b2_3 (.cons b2_3 (.cons (Eq.refl true) (.cons (Eq.refl true) (.cons (Eq.refl true) (.cons (Eq.refl true) (.cons (Eq.refl true) (.cons (Eq.refl true) (.cons (Eq.refl true) (.cons (Eq.refl true) (.cons (Eq.refl true) (.cons (Eq.refl true) (.cons (Eq.refl true) (.cons (Eq.refl true) (.cons (Eq.refl true) (.cons (Eq.refl true) (.cons (Eq.refl true) (.cons (Eq.refl true) (.cons (Eq.refl true) (.cons (Eq.refl true) (.cons (Eq.refl true) (.cons (Eq.refl true) (.cons (Eq.refl true) (.cons (Eq.refl true) (.cons (Eq.refl true) (.cons (Eq.refl true) (.cons (Eq.refl true) (.cons (Eq.refl true) (.cons (Eq.refl true) (.cons (Eq.refl true) (.cons (Eq.refl true) (.cons (Eq.refl true) (.cons (Eq.refl true) (.cons (Eq.refl true) (.cons (Eq.refl true) (.cons (Eq.refl true) (.cons (Eq.refl true) (.cons (Eq.refl true) (.cons (Eq.refl true) (.cons (Eq.refl true) (.cons (Eq.refl true) (.cons (Eq.refl true) (.cons (Eq.refl true) (.cons (Eq.refl true) (.cons (Eq.refl true) (.cons (Eq.refl true) (.cons (Eq.refl true) (.cons (Eq.refl true) (.cons (Eq.refl true) (.cons (Eq.refl true) (.cons (Eq.refl true) (.cons (Eq.refl true) (.cons (Eq.refl true) (.cons (Eq.refl true) (.cons (Eq.refl true) (.cons (Eq.refl true) (.cons (Eq.refl true) (.cons (Eq.refl true) (.cons (Eq.refl true) (.cons (Eq.refl true) (.cons (Eq.refl true) (.cons (Eq.refl true) (.cons (Eq.refl true) (.cons (Eq.refl true) (.cons (Eq.refl true) (.cons (Eq.refl true) (.cons (Eq.refl true) (.cons (Eq.refl true) (.cons (Eq.refl true) (.cons (Eq.refl true) (.cons (Eq.refl true) (.cons (Eq.refl true) (.cons (Eq.refl true) (.cons (Eq.refl true) (.cons (Eq.refl true) (.cons (Eq.refl true) (.cons (Eq.refl true) (.cons (Eq.refl true) (.cons (Eq.refl true) (.cons (Eq.refl true) (.cons (Eq.refl true) (.cons (Eq.refl true) (.cons (Eq.refl true) .nil))))))))))))))))))))))))))))))))))))))))))))))))))))))))))))))))))))))))))))))))))))))))))))))) (by kernel_rfl) ?_
        refine WK.ct (b := true) (by kernel_rfl) rfl ?_
        refine WK.rs (g := []) (l' := [(.t 2, [bv false])]) (by kernel_rfl) .nil (by kernel_rfl) ?_
        refine WK.weak (l := [(.t 2, [bv false])]) (wk_of (by kernel_rfl)) ?_
        refine WK.ret (by kernel_rfl) ?_
        have h_ := some_inj h
        subst h_
        exact WKe.fin (e' := .ret) (by kernel_rfl) (fin_of (g := []) (by first | exact .inl rfl | exact .inr rfl) .nil (by kernel_rfl))
      · rcases br_inv h with ⟨b2_4, h⟩ | ⟨b2_4, h⟩
        · refine WK.rs (g := [.b false, .b false, .b false, .b false, .b false, .b false, .b false, .b false, .b false, .b false, .b false, .b false, .b false, .b false, .b true, .b true, .b true, .b true, .b true, .b true, .b true, .b true, .b true, .b true, .b true, .b true, .b true, .b true, .b true, .b true, .b true, .b true, .b true, .b true, .b true, .b true, .b true, .b true, .b true, .b true, .b true, .b true, .b true, .b true, .b true, .b true, .b true, .b true, .b true, .b true, .b true, .b true, .b true, .b true, .b true, .b true, .b true, .b true, .b true, .b true, .b true, .b true, .b true, .b true, .b true, .b true, .b true, .b true, .b true, .b true, .b true, .b true, .b true, .b true, .b true, .b true, .b true, .b true, .b true, .b true, .b true, .b true, .b true, .b true, .b true, .b true, .b true, .b true, .b true, .b true, .b true, .b true, .b true, .b true, .b true]) (l' := [(.t 1, [.ptr 1 0]), (.t 120, [bv true]), (.o 1, (TRaft.ob r_v))]) (by kernel_rfl) (.cons b2_1 (.cons b2_1 (.cons b2_1 (.cons b2_1 (.cons b2_2 (.cons b2_2 (.cons b2_2 (.cons b2_2 (.cons b2_3 (.cons b2_3 (.cons b2_3 (.cons b2_3 (.cons b2_3 (.cons b2_3 (.cons b2_4 (.cons b2_4 (.cons b2_4 (.cons b2_4 (.cons (Eq.refl true) (.cons (Eq.refl true) (.cons (Eq.refl true) (.cons (Eq.refl true) (.cons (Eq.refl true) (.cons (Eq.refl true) (.cons (Eq.refl true) (.cons (Eq.refl true) (.cons (Eq.refl true) (.cons (Eq.refl true) (.cons (Eq.refl true) (.cons (Eq.refl true) (.cons (Eq.refl true) (.cons (Eq.refl true) (.cons (Eq.refl true) (.cons (Eq.refl true) (.cons (Eq.refl true) (.cons (Eq.refl true) (.cons (Eq.refl true) (.cons (Eq.refl true) (.cons (Eq.refl true) (.cons (Eq.refl true) (.cons (Eq.refl true) (.cons (Eq.refl true) (.cons (Eq.refl true) (.cons (Eq.refl true) (.cons (Eq.refl true) (.cons (Eq.refl true) (.cons (Eq.refl true) (.cons (Eq.refl true) (.cons (Eq.refl true) (.cons (Eq.refl true) (.cons (Eq.refl true) (.cons (Eq.refl true) (.cons (Eq.refl true) (.cons (Eq.refl true) (.cons (Eq.refl true) (.cons (Eq.refl true) (.cons (Eq.refl true) (.cons (Eq.refl true) (.cons (Eq.refl true) (.cons (Eq.refl true) (.cons (Eq.refl true) (.cons (Eq.refl true) (.cons (Eq.refl true) (.cons (Eq.refl true) (.cons (Eq.refl true) (.cons (Eq.refl true) (.cons (Eq.refl true) (.cons (Eq.refl true) (.cons (Eq.refl true) (.cons (Eq.refl true) (.cons (Eq.refl true) (.cons (Eq.refl true) (.cons (Eq.refl true) (.cons (Eq.refl true) (.cons (Eq.refl true) (.cons (Eq.refl true) (.cons (Eq.refl true) (.cons (Eq.refl true) (.cons (Eq.refl true) (.cons (Eq.refl true) (.cons (Eq.refl true) (.cons (Eq.refl true) (.cons (Eq.refl true) (.cons (Eq.refl true) (.cons (Eq.refl true) (.cons (Eq.refl true) (.cons (Eq.refl true) (.cons (Eq.refl true) (.cons (Eq.refl true) (.cons (Eq.refl true) (.cons (Eq.refl true) (.cons (Eq.refl true) (.cons (Eq.refl true) (.cons (Eq.refl true) (.cons (Eq.refl true) .nil))))))))))))))))))))))))))))))))))))))))))))))))))))))))))))))))))))))))))))))))))))))))))))))) (by kernel_rfl) ?_
          refine WK.ct (b := true) (by kernel_rfl) rfl ?_
          refine WK.rs (g := []) (l' := [(.t 2, [bv false])]) (by kernel_rfl) .nil (by kernel_rfl) ?_
          refine WK.weak (l := [(.t 2, [bv false])]) (wk_of (by kernel_rfl)) ?_
          refine WK.ret (by kernel_rfl) ?_
          have h_ := some_inj h
          subst h_
          exact WKe.fin (e' := .ret) (by kernel_rfl) (fin_of (g := []) (by first | exact .inl rfl | exact .inr rfl) .nil (by kernel_rfl))
        · rcases br_inv h with ⟨b2_5, h⟩ | ⟨b2_5, h⟩
          · refine WK.rs (g := [.b false, .b false, .b false, .b false, .b false, .b false, .b false, .b false, .b false, .b false, .b false, .b false, .b false, .b false, .b false, .b false, .b false, .b false, .b true, .b true, .b true, .b true, .b true, .b true, .b true, .b true, .b true, .b true, .b true, .b true, .b true, .b true, .b true, .b true, .b true, .b true, .b true, .b true, .b true, .b true, .b true, .b true, .b true, .b true, .b true, .b true, .b true, .b true, .b true, .b true, .b true, .b true, .b true, .b true, .b true, .b true, .b true, .b true, .b true, .b true, .b true, .b true, .b true, .b true, .b true, .b true, .b true, .b true, .b true, .b true, .b true, .b true, .b true, .b true, .b true, .b true, .b true, .b true, .b true, .b true, .b true, .b true, .b true, .b true, .b true, .b true, .b true, .b true, .b true, .b true, .b true, .b true, .b true, .b true, .b true]) (l' := [(.t 1, [.ptr 1 0]), (.t 120, [bv true]), (.o 1, (TRaft.ob r_v))]) (by kernel_rfl) (.cons b2_1 (.cons b2_1 (.cons b2_1 (.cons b2_1 (.cons b2_2 (.cons b2_2 (.cons b2_2 (.cons b2_2 (.cons b2_3 (.cons b2_3 (.cons b2_3 (.cons b2_3 (.cons b2_3 (.cons b2_3 (.cons b2_4 (.cons b2_4 (.cons b2_4 (.cons b2_4 (.cons b2_5 (.cons b2_5 (.cons b2_5 (.cons b2_5 (.cons (Eq.refl true) (.cons (Eq.refl true) (.cons (Eq.refl true) (.cons (Eq.refl true) (.cons (Eq.refl true) (.cons (Eq.refl true) (.cons (Eq.refl true) (.cons (Eq.refl true) (.cons (Eq.refl true) (.cons (Eq.refl true) (.cons (Eq.refl true) (.cons (Eq.refl true) (.cons (Eq.refl true) (.cons (Eq.refl true) (.cons (Eq.refl true) (.cons (Eq.refl true) (.cons (Eq.refl true) (.cons (Eq.refl true) (.cons (Eq.refl true) (.cons (Eq.refl true) (.cons (Eq.refl true) (.cons (Eq.refl true) (.cons (Eq.refl true) (.cons (Eq.refl true) (.cons (Eq.refl true) (.cons (Eq.refl true) (.cons (Eq.refl true) (.cons (Eq.refl true) (.cons (Eq.refl true) (.cons (Eq.refl true) (.cons (Eq.refl true) (.cons (Eq.refl true) (.cons (Eq.refl true) (.cons (Eq.refl true) (.cons (Eq.refl true) (.cons (Eq.refl true) (.cons (Eq.refl true) (.cons (Eq.refl true) (.cons (Eq.refl true) (.cons (Eq.refl true) (.cons (Eq.refl true) (.cons (Eq.refl true) (.cons (Eq.refl true) (.cons (Eq.refl true) (.cons (Eq.refl true) (.cons (Eq.refl true) (.cons (Eq.refl true) (.cons (Eq.refl true) (.cons (Eq.refl true) (.cons (Eq.refl true) (.cons (Eq.refl true) (.cons (Eq.refl true) (.cons (Eq.refl true) (.cons (Eq.refl true) (.cons (Eq.refl true) (.cons (Eq.refl true) (.cons (Eq.refl true) (.cons (Eq.refl true) (.cons (Eq.refl true) (.cons (Eq.refl true) (.cons (Eq.refl true) (.cons (Eq.refl true) (.cons (Eq.refl true) (.cons (Eq.refl true) (.cons (Eq.refl true) (.cons (Eq.refl true) (.cons (Eq.refl true) (.cons (Eq.refl true) (.cons (Eq.refl true) (.cons (Eq.refl true) (.cons (Eq.refl true) (.cons (Eq.refl true) (.cons (Eq.refl true) .nil))))))))))))))))))))))))))))))))))))))))))))))))))))))))))))))))))))))))))))))))))))))))))))))) (by kernel_rfl) ?_
            refine WK.ct (b := true) (by kernel_rfl) rfl ?_
            refine WK.rs (g := []) (l' := [(.t 2, [bv false])]) (by kernel_rfl) .nil (by kernel_rfl) ?_
            refine WK.weak (l := [(.t 2, [bv false])]) (wk_of (by kernel_rfl)) ?_
            refine WK.ret (by kernel_rfl) ?_
            have h_ := some_inj h
            subst h_
            exact WKe.fin (e' := .ret) (by kernel_rfl) (fin_of (g := []) (by first | exact .inl rfl | exact .inr rfl) .nil (by kernel_rfl))
          · rcases br_inv h with ⟨b2_6, h⟩ | ⟨b2_6, h⟩
            · refine WK.rs (g := [.b false, .b false, .b false, .b false, .b false, .b false, .b false, .b false, .b false, .b false, .b false, .b false, .b false, .b false, .b false, .b false, .b false, .b false, .b false, .b false, .b false, .b false, .b true, .b true, .b true, .b true, .b true, .b true, .b true, .b true, .b true, .b true, .b true, .b true, .b true, .b true, .b true, .b true, .b true, .b true, .b true, .b true, .b true, .b true, .b true, .b true, .b true, .b true, .b true, .b true, .b true, .b true, .b true, .b true, .b true, .b true, .b true, .b true, .b true, .b true, .b true, .b true, .b true, .b true, .b true, .b true, .b true, .b true, .b true, .b true, .b true, .b true, .b true, .b true, .b true, .b true, .b true, .b true, .b true, .b true, .b true, .b true, .b true, .b true, .b true, .b true, .b true, .b true, .b true, .b true, .b true, .b true, .b true, .b true, .b true]) (l' := [(.t 1, [.ptr 1 0]), (.t 120, [bv true]), (.o 1, (TRaft.ob r_v))]) (by kernel_rfl) (.cons b2_1 (.cons b2_1 (.cons b2_1 (.cons b2_1 (.cons b2_2 (.cons b2_2 (.cons b2_2 (.cons b2_2 (.cons b2_3 (.cons b2_3 (.cons b2_3 (.cons b2_3 (.cons b2_3 (.cons b2_3 (.cons b2_4 (.cons b2_4 (.cons b2_4 (.cons b2_4 (.cons b2_5 (.cons b2_5 (.cons b2_5 (.cons b2_5 (.cons b2_6 (.cons b2_6 (.cons b2_6 (.cons b2_6 (.cons (Eq.refl true) (.cons (Eq.refl true) (.cons (Eq.refl true) (.cons (Eq.refl true) (.cons (Eq.refl true) (.cons (Eq.refl true) (.cons (Eq.refl true) (.cons (Eq.refl true) (.cons (Eq.refl true) (.cons (Eq.refl true) (.cons (Eq.refl true) (.cons (Eq.refl true) (.cons (Eq.refl true) (.cons (Eq.refl true) (.cons (Eq.refl true) (.cons (Eq.refl true) (.cons (Eq.refl true) (.cons (Eq.refl true) (.cons (Eq.refl true) (.cons (Eq.refl true) (.cons (Eq.refl true) (.cons (Eq.refl true) (.cons (Eq.refl true) (.cons (Eq.refl true) (.cons (Eq.refl true) (.cons (Eq.refl true) (.cons (Eq.refl true) (.cons (Eq.refl true) (.cons (Eq.refl true) (.cons (Eq.refl true) (.cons (Eq.refl true) (.cons (Eq.refl true) (.cons (Eq.refl true) (.cons (Eq.refl true) (.cons (Eq.refl true) (.cons (Eq.refl true) (.cons (Eq.refl true) (.cons (Eq.refl true) (.cons (Eq.refl true) (.cons (Eq.refl true) (.cons (Eq.refl true) (.cons (Eq.refl true) (.cons (Eq.refl true) (.cons (Eq.refl true) (.cons (Eq.refl true) (.cons (Eq.refl true) (.cons (Eq.refl true) (.cons (Eq.refl true) (.cons (Eq.refl true) (.cons (Eq.refl true) (.cons (Eq.refl true) (.cons (Eq.refl true) (.cons (Eq.refl true) (.cons (Eq.refl true) (.cons (Eq.refl true) (.cons (Eq.refl true) (.cons (Eq.refl true) (.cons (Eq.refl true) (.cons (Eq.refl true) (.cons (Eq.refl true) (.cons (Eq.refl true) (.cons (Eq.refl true) (.cons (Eq.refl true) (.cons (Eq.refl true) (.cons (Eq.refl true) (.cons (Eq.refl true) (.cons (Eq.refl true) (.cons (Eq.refl true) (.cons (Eq.refl true) .nil))))))))))))))))))))))))))))))))))))))))))))))))))))))))))))))))))))))))))))))))))))))))))))))) (by kernel_rfl) ?_
              refine WK.ct (b := true) (by kernel_rfl) rfl ?_
              refine WK.rs (g := []) (l' := [(.t 2, [bv false])]) (by kernel_rfl) .nil (by kernel_rfl) ?_
              refine WK.weak (l := [(.t 2, [bv false])]) (wk_of (by kernel_rfl)) ?_
              refine WK.ret (by kernel_rfl) ?_
              have h_ := some_inj h
              subst h_
              exact WKe.fin (e' := .ret) (by kernel_rfl) (fin_of (g := []) (by first | exact .inl rfl | exact .inr rfl) .nil (by kernel_rfl))
            · rcases br_inv h with ⟨b2_7, h⟩ | ⟨b2_7, h⟩
              · refine WK.rs (g := [.b false, .b false, .b false, .b false, .b false, .b false, .b false, .b false, .b false, .b false, .b false, .b false, .b false, .b false, .b false, .b false, .b false, .b false, .b false, .b false, .b false, .b false, .b false, .b false, .b false, .b false, .b true, .b true, .b true, .b true, .b true, .b true, .b true, .b true, .b true, .b true, .b true, .b true, .b true, .b true, .b true, .b true, .b true, .b true, .b true, .b true, .b true, .b true, .b true, .b true, .b true, .b true, .b true, .b true, .b true, .b true, .b true, .b true, .b true, .b true, .b true, .b true, .b true, .b true, .b true, .b true, .b true, .b true, .b true, .b true, .b true, .b true, .b true, .b true, .b true, .b true, .b true, .b true, .b true, .b true, .b true, .b true, .b true, .b true, .b true, .b true, .b true, .b true, .b true, .b true, .b true, .b true, .b true, .b true, .b true]) (l' := [(.t 1, [.ptr 1 0]), (.t 120, [bv true]), (.o 1, (TRaft.ob r_v))]) (by kernel_rfl) (.cons b2_1 (.cons b2_1 (.cons b2_1 (.cons b2_1 (.cons b2_2 (.cons b2_2 (.cons b2_2 (.cons b2_2 (.cons b2_3 (.cons b2_3 (.cons b2_3 (.cons b2_3 (.cons b2_3 (.cons b2_3 (.cons b2_4 (.cons b2_4 (.cons b2_4 (.cons b2_4 (.cons b2_5 (.cons b2_5 (.cons b2_5 (.cons b2_5 (.cons b2_6 (.cons b2_6 (.cons b2_6 (.cons b2_6 (.cons b2_7 (.cons b2_7 (.cons b2_7 (.cons b2_7 (.cons (Eq.refl true) (.cons (Eq.refl true) (.cons (Eq.refl true) (.cons (Eq.refl true) (.cons (Eq.refl true) (.cons (Eq.refl true) (.cons (Eq.refl true) (.cons (Eq.refl true) (.cons (Eq.refl true) (.cons (Eq.refl true) (.cons (Eq.refl true) (.cons (Eq.refl true) (.cons (Eq.refl true) (.cons (Eq.refl true) (.cons (Eq.refl true) (.cons (Eq.refl true) (.cons (Eq.refl true) (.cons (Eq.refl true) (.cons (Eq.refl true) (.cons (Eq.refl true) (.cons (Eq.refl true) (.cons (Eq.refl true) (.cons (Eq.refl true) (.cons (Eq.refl true) (.cons (Eq.refl true) (.cons (Eq.refl true) (.cons (Eq.refl true) (.cons (Eq.refl true) (.cons (Eq.refl true) (.cons (Eq.refl true) (.cons (Eq.refl true) (.cons (Eq.refl true) (.cons (Eq.refl true) (.cons (Eq.refl true) (.cons (Eq.refl true) (.cons (Eq.refl true) (.cons (Eq.refl true) (.cons (Eq.refl true) (.cons (Eq.refl true) (.cons (Eq.refl true) (.cons (Eq.refl true) (.cons (Eq.refl true) (.cons (Eq.refl true) (.cons (Eq.refl true) (.cons (Eq.refl true) (.cons (Eq.refl true) (.cons (Eq.refl true) (.cons (Eq.refl true) (.cons (Eq.refl true) (.cons (Eq.refl true) (.cons (Eq.refl true) (.cons (Eq.refl true) (.cons (Eq.refl true) (.cons (Eq.refl true) (.cons (Eq.refl true) (.cons (Eq.refl true) (.cons (Eq.refl true) (.cons (Eq.refl true) (.cons (Eq.refl true) (.cons (Eq.refl true) (.cons (Eq.refl true) (.cons (Eq.refl true) (.cons (Eq.refl true) (.cons (Eq.refl true) (.cons (Eq.refl true) .nil))))))))))))))))))))))))))))))))))))))))))))))))))))))))))))))))))))))))))))))))))))))))))))))) (by kernel_rfl) ?_
                refine WK.ct (b := true) (by kernel_rfl) rfl ?_
                refine WK.rs (g := []) (l' := [(.t 2, [bv false])]) (by kernel_rfl) .nil (by kernel_rfl) ?_
                refine WK.weak (l := [(.t 2, [bv false])]) (wk_of (by kernel_rfl)) ?_
                refine WK.ret (by kernel_rfl) ?_
                have h_ := some_inj h
                subst h_
                exact WKe.fin (e' := .ret) (by kernel_rfl) (fin_of (g := []) (by first | exact .inl rfl | exact .inr rfl) .nil (by kernel_rfl))
              · rcases br_inv h with ⟨b2_8, h⟩ | ⟨b2_8, h⟩
                · refine WK.rs (g := [.b false, .b false, .b false, .b false, .b false, .b false, .b false, .b false, .b false, .b false, .b false, .b false, .b false, .b false, .b false, .b false, .b false, .b false, .b false, .b false, .b false, .b false, .b false, .b false, .b false, .b false, .b false, .b false, .b false, .b false, .b true, .b true, .b true, .b true, .b true, .b true, .b true, .b true, .b true, .b true, .b true, .b true, .b true, .b true, .b true, .b true, .b true, .b true, .b true, .b true, .b true, .b true, .b true, .b true, .b true, .b true, .b true, .b true, .b true, .b true, .b true, .b true, .b true, .b true, .b true, .b true, .b true, .b true, .b true, .b true, .b true, .b true, .b true, .b true, .b true, .b true, .b true, .b true, .b true, .b true, .b true, .b true, .b true, .b true, .b true, .b true, .b true, .b true, .b true, .b true, .b true, .b true, .b true, .b true, .b true]) (l' := [(.t 1, [.ptr 1 0]), (.t 120, [bv true]), (.o 1, (TRaft.ob r_v))]) (by kernel_rfl) (.cons b2_1 (.cons b2_1 (.cons b2_1 (.cons b2_1 (.cons b2_2 (.cons b2_2 (.cons b2_2 (.cons b2_2 (.cons b2_3 (.cons b2_3 (.cons b2_3 (.cons b2_3 (.cons b2_3 (.cons b2_3 (.cons b2_4 (.cons b2_4 (.cons b2_4 (.cons b2_4 (.cons b2_5 (.cons b2_5 (.cons b2_5 (.cons b2_5 (.cons b2_6 (.cons b2_6 (.cons b2_6 (.cons b2_6 (.cons b2_7 (.cons b2_7 (.cons b2_7 (.cons b2_7 (.cons b2_8 (.cons b2_8 (.cons b2_8 (.cons b2_8 (.cons b2_8 (.cons b2_8 (.cons (Eq.refl true) (.cons (Eq.refl true) (.cons (Eq.refl true) (.cons (Eq.refl true) (.cons (Eq.refl true) (.cons (Eq.refl true) (.cons (Eq.refl true) (.cons (Eq.refl true) (.cons (Eq.refl true) (.cons (Eq.refl true) (.cons (Eq.refl true) (.cons (Eq.refl true) (.cons (Eq.refl true) (.cons (Eq.refl true) (.cons (Eq.refl true) (.cons (Eq.refl true) (.cons (Eq.refl true) (.cons (Eq.refl true) (.cons (Eq.refl true) (.cons (Eq.refl true) (.cons (Eq.refl true) (.cons (Eq.refl true) (.cons (Eq.refl true) (.cons (Eq.refl true) (.cons (Eq.refl true) (.cons (Eq.refl true) (.cons (Eq.refl true) (.cons (Eq.refl true) (.cons (Eq.refl true) (.cons (Eq.refl true) (.cons (Eq.refl true) (.cons (Eq.refl true) (.cons (Eq.refl true) (.cons (Eq.refl true) (.cons (Eq.refl true) (.cons (Eq.refl true) (.cons (Eq.refl true) (.cons (Eq.refl true) (.cons (Eq.refl true) (.cons (Eq.refl true) (.cons (Eq.refl true) (.cons (Eq.refl true) (.cons (Eq.refl true) (.cons (Eq.refl true) (.cons (Eq.refl true) (.cons (Eq.refl true) (.cons (Eq.refl true) (.cons (Eq.refl true) (.cons (Eq.refl true) (.cons (Eq.refl true) (.cons (Eq.refl true) (.cons (Eq.refl true) (.cons (Eq.refl true) (.cons (Eq.refl true) (.cons (Eq.refl true) (.cons (Eq.refl true) (.cons (Eq.refl true) (.cons (Eq.refl true) (.cons (Eq.refl true) .nil))))))))))))))))))))))))))))))))))))))))))))))))))))))))))))))))))))))))))))))))))))))))))))))) (by kernel_rfl) ?_
                  refine WK.ct (b := true) (by kernel_rfl) rfl ?_
                  refine WK.rs (g := []) (l' := [(.t 2, [bv false])]) (by kernel_rfl) .nil (by kernel_rfl) ?_
                  refine WK.weak (l := [(.t 2, [bv false])]) (wk_of (by kernel_rfl)) ?_
                  refine WK.ret (by kernel_rfl) ?_
                  have h_ := some_inj h
                  subst h_
                  exact WKe.fin (e' := .ret) (by kernel_rfl) (fin_of (g := []) (by first | exact .inl rfl | exact .inr rfl) .nil (by kernel_rfl))
                · rcases br_inv h with ⟨b2_9, h⟩ | ⟨b2_9, h⟩
                  · refine WK.rs (g := [.b false, .b false, .b false, .b false, .b false, .b false, .b false, .b false, .b false, .b false, .b false, .b false, .b false, .b false, .b false, .b false, .b false, .b false, .b false, .b false, .b false, .b false, .b false, .b false, .b false, .b false, .b false, .b false, .b false, .b false, .b false, .b false, .b false, .b false, .b false, .b false, .b true, .b true, .b true, .b true, .b true, .b true, .b true, .b true, .b true, .b true, .b true, .b true, .b true, .b true, .b true, .b true, .b true, .b true, .b true, .b true, .b true, .b true, .b true, .b true, .b true, .b true, .b true, .b true, .b true, .b true, .b true, .b true, .b true, .b true, .b true, .b true, .b true, .b true, .b true, .b true, .b true, .b true, .b true, .b true, .b true, .b true, .b true, .b true, .b true, .b true, .b true, .b true, .b true, .b true, .b true, .b true, .b true, .b true, .b true]) (l' := [(.t 1, [.ptr 1 0]), (.t 120, [bv true]), (.o 1, (TRaft.ob r_v))]) (by kernel_rfl) (.cons b2_1 (.cons b2_1 (.cons b2_1 (.cons b2_1 (.cons b2_2 (.cons b2_2 (.cons b2_2 (.cons b2_2 (.cons b2_3 (.cons b2_3 (.cons b2_3 (.cons b2_3 (.cons b2_3 (.cons b2_3 (.cons b2_4 (.cons b2_4 (.cons b2_4 (.cons b2_4 (.cons b2_5 (.cons b2_5 (.cons b2_5 (.cons b2_5 (.cons b2_6 (.cons b2_6 (.cons b2_6 (.cons b2_6 (.cons b2_7 (.cons b2_7 (.cons b2_7 (.cons b2_7 (.cons b2_8 (.cons b2_8 (.cons b2_8 (.cons b2_8 (.cons b2_8 (.cons b2_8 (.cons b2_9 (.cons b2_9 (.cons b2_9 (.cons b2_9 (.cons (Eq.refl true) (.cons (Eq.refl true) (.cons (Eq.refl true) (.cons (Eq.refl true) (.cons (Eq.refl true) (.cons (Eq.refl true) (.cons (Eq.refl true) (.cons (Eq.refl true) (.cons (Eq.refl true) (.cons (Eq.refl true) (.cons (Eq.refl true) (.cons (Eq.refl true) (.cons (Eq.refl true) (.cons (Eq.refl true) (.cons (Eq.refl true) (.cons (Eq.refl true) (.cons (Eq.refl true) (.cons (Eq.refl true) (.cons (Eq.refl true) (.cons (Eq.refl true) (.cons (Eq.refl true) (.cons (Eq.refl true) (.cons (Eq.refl true) (.cons (Eq.refl true) (.cons (Eq.refl true) (.cons (Eq.refl true) (.cons (Eq.refl true) (.cons (Eq.refl true) (.cons (Eq.refl true) (.cons (Eq.refl true) (.cons (Eq.refl true) (.cons (Eq.refl true) (.cons (Eq.refl true) (.cons (Eq.refl true) (.cons (Eq.refl true) (.cons (Eq.refl true) (.cons (Eq.refl true) (.cons (Eq.refl true) (.cons (Eq.refl true) (.cons (Eq.refl true) (.cons (Eq.refl true) (.cons (Eq.refl true) (.cons (Eq.refl true) (.cons (Eq.refl true) (.cons (Eq.refl true) (.cons (Eq.refl true) (.cons (Eq.refl true) (.cons (Eq.refl true) (.cons (Eq.refl true) (.cons (Eq.refl true) (.cons (Eq.refl true) (.cons (Eq.refl true) (.cons (Eq.refl true) (.cons (Eq.refl true) (.cons (Eq.refl true) .nil))))))))))))))))))))))))))))))))))))))))))))))))))))))))))))))))))))))))))))))))))))))))))))))) (by kernel_rfl) ?_
                    refine WK.ct (b := true) (by kernel_rfl) rfl ?_
                    refine WK.rs (g := []) (l' := [(.t 2, [bv false])]) (by kernel_rfl) .nil (by kernel_rfl) ?_
                    refine WK.weak (l := [(.t 2, [bv false])]) (wk_of (by kernel_rfl)) ?_
                    refine WK.ret (by kernel_rfl) ?_
                    have h_ := some_inj h
                    subst h_
                    exact WKe.fin (e' := .ret) (by kernel_rfl) (fin_of (g := []) (by first | exact .inl rfl | exact .inr rfl) .nil (by kernel_rfl))
                  · rcases br_inv h with ⟨b2_10, h⟩ | ⟨b2_10, h⟩
                    · refine WK.rs (g := [.b false, .b false, .b false, .b false, .b false, .b false, .b false, .b false, .b false, .b false, .b false, .b false, .b false, .b false, .b false, .b false, .b false, .b false, .b false, .b false, .b false, .b false, .b false, .b false, .b false, .b false, .b false, .b false, .b false, .b false, .b false, .b false, .b false, .b false, .b false, .b false, .b false, .b false, .b false, .b false, .b true, .b true, .b true, .b true, .b true, .b true, .b true, .b true, .b true, .b true, .b true, .b true, .b true, .b true, .b true, .b true, .b true, .b true, .b true, .b true, .b true, .b true, .b true, .b true, .b true, .b true, .b true, .b true, .b true, .b true, .b true, .b true, .b true, .b true, .b true, .b true, .b true, .b true, .b true, .b true, .b true, .b true, .b true, .b true, .b true, .b true, .b true, .b true, .b true, .b true, .b true, .b true, .b true, .b true, .b true]) (l' := [(.t 1, [.ptr 1 0]), (.t 120, [bv true]), (.o 1, (TRaft.ob r_v))]) (by kernel_rfl) (.cons b2_1 (.cons b2_1 (.cons b2_1 (.cons b2_1 (.cons b2_2 (.cons b2_2 (.cons b2_2 (.cons b2_2 (.cons b2_3 (.cons b2_3 (.cons b2_3 (.cons b2_3 (.cons b2_3 (.cons b2_3 (.cons b2_4 (.cons b2_4 (.cons b2_4 (.cons b2_4 (.cons b2_5 (.cons b2_5 (.cons b2_5 (.cons b2_5 (.cons b2_6 (.cons b2_6 (.cons b2_6 (.cons b2_6 (.cons b2_7 (.cons b2_7 (.cons b2_7 (.cons b2_7 (.cons b2_8 (.cons b2_8 (.cons b2_8 (.cons b2_8 (.cons b2_8 (.cons b2_8 (.cons b2_9 (.cons b2_9 (.cons b2_9 (.cons b2_9 (.cons b2_10 (.cons b2_10 (.cons b2_10 (.cons b2_10 (.cons b2_10 (.cons b2_10 (.cons (Eq.refl true) (.cons (Eq.refl true) (.cons (Eq.refl true) (.cons (Eq.refl true) (.cons (Eq.refl true) (.cons (Eq.refl true) (.cons (Eq.refl true) (.cons (Eq.refl true) (.cons (Eq.refl true) (.cons (Eq.refl true) (.cons (Eq.refl true) (.cons (Eq.refl true) (.cons (Eq.refl true) (.cons (Eq.refl true) (.cons (Eq.refl true) (.cons (Eq.refl true) (.cons (Eq.refl true) (.cons (Eq.refl true) (.cons (Eq.refl true) (.cons (Eq.refl true) (.cons (Eq.refl true) (.cons (Eq.refl true) (.cons (Eq.refl true) (.cons (Eq.refl true) (.cons (Eq.refl true) (.cons (Eq.refl true) (.cons (Eq.refl true) (.cons (Eq.refl true) (.cons (Eq.refl true) (.cons (Eq.refl true) (.cons (Eq.refl true) (.cons (Eq.refl true) (.cons (Eq.refl true) (.cons (Eq.refl true) (.cons (Eq.refl true) (.cons (Eq.refl true) (.cons (Eq.refl true) (.cons (Eq.refl true) (.cons (Eq.refl true) (.cons (Eq.refl true) (.cons (Eq.refl true) (.cons (Eq.refl true) (.cons (Eq.refl true) (.cons (Eq.refl true) (.cons (Eq.refl true) (.cons (Eq.refl true) (.cons (Eq.refl true) (.cons (Eq.refl true) (.cons (Eq.refl true) .nil))))))))))))))))))))))))))))))))))))))))))))))))))))))))))))))))))))))))))))))))))))))))))))))) (by kernel_rfl) ?_
                      refine WK.ct (b := true) (by kernel_rfl) rfl ?_
                      refine WK.rs (g := []) (l' := [(.t 2, [bv false])]) (by kernel_rfl) .nil (by kernel_rfl) ?_
                      refine WK.weak (l := [(.t 2, [bv false])]) (wk_of (by kernel_rfl)) ?_
                      refine WK.ret (by kernel_rfl) ?_
                      have h_ := some_inj h
                      subst h_
                      exact WKe.fin (e' := .ret) (by kernel_rfl) (fin_of (g := []) (by first | exact .inl rfl | exact .inr rfl) .nil (by kernel_rfl))
                    · rcases br_inv h with ⟨b2_11, h⟩ | ⟨b2_11, h⟩
                      · refine WK.rs (g := [.b false, .b false, .b false, .b false, .b false, .b false, .b false, .b false, .b false, .b false, .b false, .b false, .b false, .b false, .b false, .b false, .b false, .b false, .b false, .b false, .b false, .b false, .b false, .b false, .b false, .b false, .b false, .b false, .b false, .b false, .b false, .b false, .b false, .b false, .b false, .b false, .b false, .b false, .b false, .b false, .b false, .b false, .b false, .b false, .b false, .b false, .b true, .b true, .b true, .b true, .b true, .b true, .b true, .b true, .b true, .b true, .b true, .b true, .b true, .b true, .b true, .b true, .b true, .b true, .b true, .b true, .b true, .b true, .b true, .b true, .b true, .b true, .b true, .b true, .b true, .b true, .b true, .b true, .b true, .b true, .b true, .b true, .b true, .b true, .b true, .b true, .b true, .b true, .b true, .b true, .b true, .b true, .b true, .b true, .b true]) (l' := [(.t 1, [.ptr 1 0]), (.t 120, [bv true]), (.o 1, (TRaft.ob r_v))]) (by kernel_rfl) (.cons b2_1 (.cons b2_1 (.cons b2_1 (.cons b2_1 (.cons b2_2 (.cons b2_2 (.cons b2_2 (.cons b2_2 (.cons b2_3 (.cons b2_3 (.cons b2_3 (.cons b2_3 (.cons b2_3 (.cons b2_3 (.cons b2_4 (.cons b2_4 (.cons b2_4 (.cons b2_4 (.cons b2_5 (.cons b2_5 (.cons b2_5 (.cons b2_5 (.cons b2_6 (.cons b2_6 (.cons b2_6 (.cons b2_6 (.cons b2_7 (.cons b2_7 (.cons b2_7 (.cons b2_7 (.cons b2_8 (.cons b2_8 (.cons b2_8 (.cons b2_8 (.cons b2_8 (.cons b2_8 (.cons b2_9 (.cons b2_9 (.cons b2_9 (.cons b2_9 (.cons b2_10 (.cons b2_10 (.cons b2_10 (.cons b2_10 (.cons b2_10 (.cons b2_10 (.cons b2_11 (.cons b2_11 (.cons b2_11 (.cons b2_11 (.cons b2_11 (.cons (Eq.refl true) (.cons (Eq.refl true) (.cons (Eq.refl true) (.cons (Eq.refl true) (.cons (Eq.refl true) (.cons (Eq.refl true) (.cons (Eq.refl true) (.cons (Eq.refl true) (.cons (Eq.refl true) (.cons (Eq.refl true) (.cons (Eq.refl true) (.cons (Eq.refl true) (.cons (Eq.refl true) (.cons (Eq.refl true) (.cons (Eq.refl true) (.cons (Eq.refl true) (.cons (Eq.refl true) (.cons (Eq.refl true) (.cons (Eq.refl true) (.cons (Eq.refl true) (.cons (Eq.refl true) (.cons (Eq.refl true) (.cons (Eq.refl true) (.cons (Eq.refl true) (.cons (Eq.refl true) (.cons (Eq.refl true) (.cons (Eq.refl true) (.cons (Eq.refl true) (.cons (Eq.refl true) (.cons (Eq.refl true) (.cons (Eq.refl true) (.cons (Eq.refl true) (.cons (Eq.refl true) (.cons (Eq.refl true) (.cons (Eq.refl true) (.cons (Eq.refl true) (.cons (Eq.refl true) (.cons (Eq.refl true) (.cons (Eq.refl true) (.cons (Eq.refl true) (.cons (Eq.refl true) (.cons (Eq.refl true) (.cons (Eq.refl true) (.cons (Eq.refl true) .nil))))))))))))))))))))))))))))))))))))))))))))))))))))))))))))))))))))))))))))))))))))))))))))))) (by kernel_rfl) ?_
                        refine WK.ct (b := true) (by kernel_rfl) rfl ?_
                        refine WK.rs (g := []) (l' := [(.t 2, [bv false])]) (by kernel_rfl) .nil (by kernel_rfl) ?_
                        refine WK.weak (l := [(.t 2, [bv false])]) (wk_of (by kernel_rfl)) ?_
                        refine WK.ret (by kernel_rfl) ?_
                        have h_ := some_inj h
                        subst h_
                        exact WKe.fin (e' := .ret) (by kernel_rfl) (fin_of (g := []) (by first | exact .inl rfl | exact .inr rfl) .nil (by kernel_rfl))
                      · rcases br_inv h with ⟨b2_12, h⟩ | ⟨b2_12, h⟩
                        · refine WK.rs (g := [.b false, .b false, .b false, .b false, .b false, .b false, .b false, .b false, .b false, .b false, .b false, .b false, .b false, .b false, .b false, .b false, .b false, .b false, .b false, .b false, .b false, .b false, .b false, .b false, .b false, .b false, .b false, .b false, .b false, .b false, .b false, .b false, .b false, .b false, .b false, .b false, .b false, .b false, .b false, .b false, .b false, .b false, .b false, .b false, .b false, .b false, .b false, .b false, .b false, .s (.t 66) [iv (r_v.Log.length : Int)], .b false, .b false, .b true, .b true, .b true, .b true, .b true, .b true, .b true, .b true, .b true, .b true, .b true, .b true, .b true, .b true, .b true, .b true, .b true, .b true, .b true, .b true, .b true, .b true, .b true, .b true, .b true, .b true, .b true, .b true, .b true, .b true, .b true, .b true, .b true, .b true, .b true, .b true, .b true, .b true, .b true, .b true, .b true, .b true, .b true, .b true]) (l' := [(.t 1, [.ptr 1 0]), (.t 120, [bv true]), (.o 1, (TRaft.ob r_v))]) (by kernel_rfl) (.cons b2_1 (.cons b2_1 (.cons b2_1 (.cons b2_1 (.cons b2_2 (.cons b2_2 (.cons b2_2 (.cons b2_2 (.cons b2_3 (.cons b2_3 (.cons b2_3 (.cons b2_3 (.cons b2_3 (.cons b2_3 (.cons b2_4 (.cons b2_4 (.cons b2_4 (.cons b2_4 (.cons b2_5 (.cons b2_5 (.cons b2_5 (.cons b2_5 (.cons b2_6 (.cons b2_6 (.cons b2_6 (.cons b2_6 (.cons b2_7 (.cons b2_7 (.cons b2_7 (.cons b2_7 (.cons b2_8 (.cons b2_8 (.cons b2_8 (.cons b2_8 (.cons b2_8 (.cons b2_8 (.cons b2_9 (.cons b2_9 (.cons b2_9 (.cons b2_9 (.cons b2_10 (.cons b2_10 (.cons b2_10 (.cons b2_10 (.cons b2_10 (.cons b2_10 (.cons b2_11 (.cons b2_11 (.cons b2_11 (.cons (c_len (e := TEntry.en) (l := r_v.Log)) (.cons b2_11 (.cons b2_11 (.cons b2_12 (.cons b2_12 (.cons b2_12 (.cons b2_12 (.cons (Eq.refl true) (.cons (Eq.refl true) (.cons (Eq.refl true) (.cons (Eq.refl true) (.cons (Eq.refl true) (.cons (Eq.refl true) (.cons (Eq.refl true) (.cons (Eq.refl true) (.cons (Eq.refl true) (.cons (Eq.refl true) (.cons (Eq.refl true) (.cons (Eq.refl true) (.cons (Eq.refl true) (.cons (Eq.refl true) (.cons (Eq.refl true) (.cons (Eq.refl true) (.cons (Eq.refl true) (.cons (Eq.refl true) (.cons (Eq.refl true) (.cons (Eq.refl true) (.cons (Eq.refl true) (.cons (Eq.refl true) (.cons (Eq.refl true) (.cons (Eq.refl true) (.cons (Eq.refl true) (.cons (Eq.refl true) (.cons (Eq.refl true) (.cons (Eq.refl true) (.cons (Eq.refl true) (.cons (Eq.refl true) (.cons (Eq.refl true) (.cons (Eq.refl true) (.cons (Eq.refl true) (.cons (Eq.refl true) (.cons (Eq.refl true) (.cons (Eq.refl true) (.cons (Eq.refl true) (.cons (Eq.refl true) (.cons (Eq.refl true) (.cons (Eq.refl true) .nil)))))))))))))))))))))))))))))))))))))))))))))))))))))))))))))))))))))))))))))))))))))))))))))))) (by kernel_rfl) ?_
                          refine WK.ct (b := true) (by kernel_rfl) rfl ?_
                          refine WK.rs (g := []) (l' := [(.t 2, [bv false])]) (by kernel_rfl) .nil (by kernel_rfl) ?_
                          refine WK.weak (l := [(.t 2, [bv false])]) (wk_of (by kernel_rfl)) ?_
                          refine WK.ret (by kernel_rfl) ?_
                          have h_ := some_inj h
                          subst h_
                          exact WKe.fin (e' := .ret) (by kernel_rfl) (fin_of (g := []) (by first | exact .inl rfl | exact .inr rfl) .nil (by kernel_rfl))
                        · rcases br_inv h with ⟨b2_13, h⟩ | ⟨b2_13, h⟩
                          · refine WK.rs (g := [.b false, .b false, .b false, .b false, .b false, .b false, .b false, .b false, .b false, .b false, .b false, .b false, .b false, .b false, .b false, .b false, .b false, .b false, .b false, .b false, .b false, .b false, .b false, .b false, .b false, .b false, .b false, .b false, .b false, .b false, .b false, .b false, .b false, .b false, .b false, .b false, .b false, .b false, .b false, .b false, .b false, .b false, .b false, .b false, .b false, .b false, .b false, .b false, .b false, .s (.t 66) [iv (r_v.Log.length : Int)], .b false, .b false, .b false, .b false, .b false, .b false, .b true, .b true, .b true, .b true, .b true, .b true, .b true, .b true, .b true, .b true, .b true, .b true, .b true, .b true, .b true, .b true, .b true, .b true, .b true, .b true, .b true, .b true, .b true, .b true, .b true, .b true, .b true, .b true, .b true, .b true, .b true, .b true, .b true, .b true, .b true, .b true, .b true, .b true, .b true, .b true]) (l' := [(.t 1, [.ptr 1 0]), (.t 120, [bv true]), (.o 1, (TRaft.ob r_v))]) (by kernel_rfl) (.cons b2_1 (.cons b2_1 (.cons b2_1 (.cons b2_1 (.cons b2_2 (.cons b2_2 (.cons b2_2 (.cons b2_2 (.cons b2_3 (.cons b2_3 (.cons b2_3 (.cons b2_3 (.cons b2_3 (.cons b2_3 (.cons b2_4 (.cons b2_4 (.cons b2_4 (.cons b2_4 (.cons b2_5 (.cons b2_5 (.cons b2_5 (.cons b2_5 (.cons b2_6 (.cons b2_6 (.cons b2_6 (.cons b2_6 (.cons b2_7 (.cons b2_7 (.cons b2_7 (.cons b2_7 (.cons b2_8 (.cons b2_8 (.cons b2_8 (.cons b2_8 (.cons b2_8 (.cons b2_8 (.cons b2_9 (.cons b2_9 (.cons b2_9 (.cons b2_9 (.cons b2_10 (.cons b2_10 (.cons b2_10 (.cons b2_10 (.cons b2_10 (.cons b2_10 (.cons b2_11 (.cons b2_11 (.cons b2_11 (.cons (c_len (e := TEntry.en) (l := r_v.Log)) (.cons b2_11 (.cons b2_11 (.cons b2_12 (.cons b2_12 (.cons b2_12 (.cons b2_12 (.cons b2_13 (.cons b2_13 (.cons b2_13 (.cons b2_13 (.cons b2_13 (.cons b2_13 (.cons b2_13 (.cons (Eq.refl true) (.cons (Eq.refl true) (.cons (Eq.refl true) (.cons (Eq.refl true) (.cons (Eq.refl true) (.cons (Eq.refl true) (.cons (Eq.refl true) (.cons (Eq.refl true) (.cons (Eq.refl true) (.cons (Eq.refl true) (.cons (Eq.refl true) (.cons (Eq.refl true) (.cons (Eq.refl true) (.cons (Eq.refl true) (.cons (Eq.refl true) (.cons (Eq.refl true) (.cons (Eq.refl true) (.cons (Eq.refl true) (.cons (Eq.refl true) (.cons (Eq.refl true) (.cons (Eq.refl true) (.cons (Eq.refl true) (.cons (Eq.refl true) (.cons (Eq.refl true) (.cons (Eq.refl true) (.cons (Eq.refl true) (.cons (Eq.refl true) (.cons (Eq.refl true) (.cons (Eq.refl true) (.cons (Eq.refl true) (.cons (Eq.refl true) (.cons (Eq.refl true) (.cons (Eq.refl true) .nil)))))))))))))))))))))))))))))))))))))))))))))))))))))))))))))))))))))))))))))))))))))))))))))))) (by kernel_rfl) ?_
                            refine WK.ct (b := true) (by kernel_rfl) rfl ?_
                            refine WK.rs (g := []) (l' := [(.t 2, [bv false])]) (by kernel_rfl) .nil (by kernel_rfl) ?_
                            refine WK.weak (l := [(.t 2, [bv false])]) (wk_of (by kernel_rfl)) ?_
                            refine WK.ret (by kernel_rfl) ?_
                            have h_ := some_inj h
                            subst h_
                            exact WKe.fin (e' := .ret) (by kernel_rfl) (fin_of (g := []) (by first | exact .inl rfl | exact .inr rfl) .nil (by kernel_rfl))
                          · rcases br_inv h with ⟨b2_14, h⟩ | ⟨b2_14, h⟩
                            · refine WK.rs (g := [.b false, .b false, .b false, .b false, .b false, .b false, .b false, .b false, .b false, .b false, .b false, .b false, .b false, .b false, .b false, .b false, .b false, .b false, .b false, .b false, .b false, .b false, .b false, .b false, .b false, .b false, .b false, .b false, .b false, .b false, .b false, .b false, .b false, .b false, .b false, .b false, .b false, .b false, .b false, .b false, .b false, .b false, .b false, .b false, .b false, .b false, .b false, .b false, .b false, .s (.t 66) [iv (r_v.Log.length : Int)], .b false, .b false, .b false, .b false, .b false, .b false, .b false, .b false, .b false, .b false, .b false, .s (.t 79) [iv (r_v.Log.length : Int)], .b false, .b false, .b true, .b true, .b true, .b true, .b true, .b true, .b true, .b true, .b true, .b true, .b true, .b true, .b true, .b true, .b true, .b true, .b true, .b true, .b true, .b true, .b true, .b true, .b true, .b true, .b true, .b true, .b true, .b true, .b true, .b true, .b true, .b true, .b true]) (l' := [(.t 1, [.ptr 1 0]), (.t 120, [bv true]), (.o 1, (TRaft.ob r_v))]) (by kernel_rfl) (.cons b2_1 (.cons b2_1 (.cons b2_1 (.cons b2_1 (.cons b2_2 (.cons b2_2 (.cons b2_2 (.cons b2_2 (.cons b2_3 (.cons b2_3 (.cons b2_3 (.cons b2_3 (.cons b2_3 (.cons b2_3 (.cons b2_4 (.cons b2_4 (.cons b2_4 (.cons b2_4 (.cons b2_5 (.cons b2_5 (.cons b2_5 (.cons b2_5 (.cons b2_6 (.cons b2_6 (.cons b2_6 (.cons b2_6 (.cons b2_7 (.cons b2_7 (.cons b2_7 (.cons b2_7 (.cons b2_8 (.cons b2_8 (.cons b2_8 (.cons b2_8 (.cons b2_8 (.cons b2_8 (.cons b2_9 (.cons b2_9 (.cons b2_9 (.cons b2_9 (.cons b2_10 (.cons b2_10 (.cons b2_10 (.cons b2_10 (.cons b2_10 (.cons b2_10 (.cons b2_11 (.cons b2_11 (.cons b2_11 (.cons (c_len (e := TEntry.en) (l := r_v.Log)) (.cons b2_11 (.cons b2_11 (.cons b2_12 (.cons b2_12 (.cons b2_12 (.cons b2_12 (.cons b2_13 (.cons b2_13 (.cons b2_13 (.cons b2_13 (.cons b2_13 (.cons (c_len (e := TEntry.en) (l := r_v.Log)) (.cons b2_13 (.cons b2_13 (.cons b2_14 (.cons b2_14 (.cons b2_14 (.cons b2_14 (.cons (Eq.refl true) (.cons (Eq.refl true) (.cons (Eq.refl true) (.cons (Eq.refl true) (.cons (Eq.refl true) (.cons (Eq.refl true) (.cons (Eq.refl true) (.cons (Eq.refl true) (.cons (Eq.refl true) (.cons (Eq.refl true) (.cons (Eq.refl true) (.cons (Eq.refl true) (.cons (Eq.refl true) (.cons (Eq.refl true) (.cons (Eq.refl true) (.cons (Eq.refl true) (.cons (Eq.refl true) (.cons (Eq.refl true) (.cons (Eq.refl true) (.cons (Eq.refl true) (.cons (Eq.refl true) (.cons (Eq.refl true) (.cons (Eq.refl true) (.cons (Eq.refl true) (.cons (Eq.refl true) (.cons (Eq.refl true) (.cons (Eq.refl true) (.cons (Eq.refl true) (.cons (Eq.refl true) .nil))))))))))))))))))))))))))))))))))))))))))))))))))))))))))))))))))))))))))))))))))))))))))))))))) (by kernel_rfl) ?_
                              refine WK.ct (b := true) (by kernel_rfl) rfl ?_
                              refine WK.rs (g := []) (l' := [(.t 2, [bv false])]) (by kernel_rfl) .nil (by kernel_rfl) ?_
                              refine WK.weak (l := [(.t 2, [bv false])]) (wk_of (by kernel_rfl)) ?_
                              refine WK.ret (by kernel_rfl) ?_
                              have h_ := some_inj h
                              subst h_
                              exact WKe.fin (e' := .ret) (by kernel_rfl) (fin_of (g := []) (by first | exact .inl rfl | exact .inr rfl) .nil (by kernel_rfl))
                            · rcases br_inv h with ⟨b2_15, h⟩ | ⟨b2_15, h⟩
                              · refine WK.rs (g := [.b false, .b false, .b false, .b false, .b false, .b false, .b false, .b false, .b false, .b false, .b false, .b false, .b false, .b false, .b false, .b false, .b false, .b false, .b false, .b false, .b false, .b false, .b false, .b false, .b false, .b false, .b false, .b false, .b false, .b false, .b false, .b false, .b false, .b false, .b false, .b false, .b false, .b false, .b false, .b false, .b false, .b false, .b false, .b false, .b false, .b false, .b false, .b false, .b false, .s (.t 66) [iv (r_v.Log.length : Int)], .b false, .b false, .b false, .b false, .b false, .b false, .b false, .b false, .b false, .b false, .b false, .s (.t 79) [iv (r_v.Log.length : Int)], .b false, .b false, .b false, .b false, .b false, .b false, .b true, .b true, .b true, .b true, .b true, .b true, .b true, .b true, .b true, .b true, .b true, .b true, .b true, .b true, .b true, .b true, .b true, .b true, .b true, .b true, .b true, .b true, .b true, .b true, .b true, .b true, .b true, .b true, .b true]) (l' := [(.t 1, [.ptr 1 0]), (.t 120, [bv true]), (.o 1, (TRaft.ob r_v))]) (by kernel_rfl) (.cons b2_1 (.cons b2_1 (.cons b2_1 (.cons b2_1 (.cons b2_2 (.cons b2_2 (.cons b2_2 (.cons b2_2 (.cons b2_3 (.cons b2_3 (.cons b2_3 (.cons b2_3 (.cons b2_3 (.cons b2_3 (.cons b2_4 (.cons b2_4 (.cons b2_4 (.cons b2_4 (.cons b2_5 (.cons b2_5 (.cons b2_5 (.cons b2_5 (.cons b2_6 (.cons b2_6 (.cons b2_6 (.cons b2_6 (.cons b2_7 (.cons b2_7 (.cons b2_7 (.cons b2_7 (.cons b2_8 (.cons b2_8 (.cons b2_8 (.cons b2_8 (.cons b2_8 (.cons b2_8 (.cons b2_9 (.cons b2_9 (.cons b2_9 (.cons b2_9 (.cons b2_10 (.cons b2_10 (.cons b2_10 (.cons b2_10 (.cons b2_10 (.cons b2_10 (.cons b2_11 (.cons b2_11 (.cons b2_11 (.cons (c_len (e := TEntry.en) (l := r_v.Log)) (.cons b2_11 (.cons b2_11 (.cons b2_12 (.cons b2_12 (.cons b2_12 (.cons b2_12 (.cons b2_13 (.cons b2_13 (.cons b2_13 (.cons b2_13 (.cons b2_13 (.cons (c_len (e := TEntry.en) (l := r_v.Log)) (.cons b2_13 (.cons b2_13 (.cons b2_14 (.cons b2_14 (.cons b2_14 (.cons b2_14 (.cons b2_15 (.cons b2_15 (.cons b2_15 (.cons b2_15 (.cons (Eq.refl true) (.cons (Eq.refl true) (.cons (Eq.refl true) (.cons (Eq.refl true) (.cons (Eq.refl true) (.cons (Eq.refl true) (.cons (Eq.refl true) (.cons (Eq.refl true) (.cons (Eq.refl true) (.cons (Eq.refl true) (.cons (Eq.refl true) (.cons (Eq.refl true) (.cons (Eq.refl true) (.cons (Eq.refl true) (.cons (Eq.refl true) (.cons (Eq.refl true) (.cons (Eq.refl true) (.cons (Eq.refl true) (.cons (Eq.refl true) (.cons (Eq.refl true) (.cons (Eq.refl true) (.cons (Eq.refl true) (.cons (Eq.refl true) (.cons (Eq.refl true) (.cons (Eq.refl true) .nil))))))))))))))))))))))))))))))))))))))))))))))))))))))))))))))))))))))))))))))))))))))))))))))))) (by kernel_rfl) ?_
                                refine WK.ct (b := true) (by kernel_rfl) rfl ?_
                                refine WK.rs (g := []) (l' := [(.t 2, [bv false])]) (by kernel_rfl) .nil (by kernel_rfl) ?_
                                refine WK.weak (l := [(.t 2, [bv false])]) (wk_of (by kernel_rfl)) ?_
                                refine WK.ret (by kernel_rfl) ?_
                                have h_ := some_inj h
                                subst h_
                                exact WKe.fin (e' := .ret) (by kernel_rfl) (fin_of (g := []) (by first | exact .inl rfl | exact .inr rfl) .nil (by kernel_rfl))
                              · rcases br_inv h with ⟨b2_16, h⟩ | ⟨b2_16, h⟩
                                · refine WK.rs (g := [.b false, .b false, .b false, .b false, .b false, .b false, .b false, .b false, .b false, .b false, .b false, .b false, .b false, .b false, .b false, .b false, .b false, .b false, .b false, .b false, .b false, .b false, .b false, .b false, .b false, .b false, .b false, .b false, .b false, .b false, .b false, .b false, .b false, .b false, .b false, .b false, .b false, .b false, .b false, .b false, .b false, .b false, .b false, .b false, .b false, .b false, .b false, .b false, .b false, .s (.t 66) [iv (r_v.Log.length : Int)], .b false, .b false, .b false, .b false, .b false, .b false, .b false, .b false, .b false, .b false, .b false, .s (.t 79) [iv (r_v.Log.length : Int)], .b false, .b false, .b false, .b false, .b false, .b false, .b false, .b false, .b false, .b false, .b true, .b true, .b true, .b true, .b true, .b true, .b true, .b true, .b true, .b true, .b true, .b true, .b true, .b true, .b true, .b true, .b true, .b true, .b true, .b true, .b true, .b true, .b true, .b true, .b true]) (l' := [(.t 1, [.ptr 1 0]), (.t 120, [bv true]), (.o 1, (TRaft.ob r_v))]) (by kernel_rfl) (.cons b2_1 (.cons b2_1 (.cons b2_1 (.cons b2_1 (.cons b2_2 (.cons b2_2 (.cons b2_2 (.cons b2_2 (.cons b2_3 (.cons b2_3 (.cons b2_3 (.cons b2_3 (.cons b2_3 (.cons b2_3 (.cons b2_4 (.cons b2_4 (.cons b2_4 (.cons b2_4 (.cons b2_5 (.cons b2_5 (.cons b2_5 (.cons b2_5 (.cons b2_6 (.cons b2_6 (.cons b2_6 (.cons b2_6 (.cons b2_7 (.cons b2_7 (.cons b2_7 (.cons b2_7 (.cons b2_8 (.cons b2_8 (.cons b2_8 (.cons b2_8 (.cons b2_8 (.cons b2_8 (.cons b2_9 (.cons b2_9 (.cons b2_9 (.cons b2_9 (.cons b2_10 (.cons b2_10 (.cons b2_10 (.cons b2_10 (.cons b2_10 (.cons b2_10 (.cons b2_11 (.cons b2_11 (.cons b2_11 (.cons (c_len (e := TEntry.en) (l := r_v.Log)) (.cons b2_11 (.cons b2_11 (.cons b2_12 (.cons b2_12 (.cons b2_12 (.cons b2_12 (.cons b2_13 (.cons b2_13 (.cons b2_13 (.cons b2_13 (.cons b2_13 (.cons (c_len (e := TEntry.en) (l := r_v.Log)) (.cons b2_13 (.cons b2_13 (.cons b2_14 (.cons b2_14 (.cons b2_14 (.cons b2_14 (.cons b2_15 (.cons b2_15 (.cons b2_15 (.cons b2_15 (.cons b2_16 (.cons b2_16 (.cons b2_16 (.cons b2_16 (.cons b2_16 (.cons b2_16 (.cons b2_16 (.cons (Eq.refl true) (.cons (Eq.refl true) (.cons (Eq.refl true) (.cons (Eq.refl true) (.cons (Eq.refl true) (.cons (Eq.refl true) (.cons (Eq.refl true) (.cons (Eq.refl true) (.cons (Eq.refl true) (.cons (Eq.refl true) (.cons (Eq.refl true) (.cons (Eq.refl true) (.cons (Eq.refl true) (.cons (Eq.refl true) (.cons (Eq.refl true) (.cons (Eq.refl true) (.cons (Eq.refl true) (.cons (Eq.refl true) .nil))))))))))))))))))))))))))))))))))))))))))))))))))))))))))))))))))))))))))))))))))))))))))))))))) (by kernel_rfl) ?_
                                  refine WK.ct (b := true) (by kernel_rfl) rfl ?_
                                  refine WK.rs (g := []) (l' := [(.t 2, [bv false])]) (by kernel_rfl) .nil (by kernel_rfl) ?_
                                  refine WK.weak (l := [(.t 2, [bv false])]) (wk_of (by kernel_rfl)) ?_
                                  refine WK.ret (by kernel_rfl) ?_
                                  have h_ := some_inj h
                                  subst h_
                                  exact WKe.fin (e' := .ret) (by kernel_rfl) (fin_of (g := []) (by first | exact .inl rfl | exact .inr rfl) .nil (by kernel_rfl))
                                · rcases br_inv h with ⟨b2_17, h⟩ | ⟨b2_17, h⟩
                                  · refine WK.rs (g := [.b false, .b false, .b false, .b false, .b false, .b false, .b false, .b false, .b false, .b false, .b false, .b false, .b false, .b false, .b false, .b false, .b false, .b false, .b false, .b false, .b false, .b false, .b false, .b false, .b false, .b false, .b false, .b false, .b false, .b false, .b false, .b false, .b false, .b false, .b false, .b false, .b false, .b false, .b false, .b false, .b false, .b false, .b false, .b false, .b false, .b false, .b false, .b false, .b false, .s (.t 66) [iv (r_v.Log.length : Int)], .b false, .b false, .b false, .b false, .b false, .b false, .b false, .b false, .b false, .b false, .b false, .s (.t 79) [iv (r_v.Log.length : Int)], .b false, .b false, .b false, .b false, .b false, .b false, .b false, .b false, .b false, .b false, .b false, .b false, .b false, .s (.t 95) [iv (r_v.Votes.length : Int)], .b false, .b false, .b false, .b false, .b true, .b true, .b true, .b true, .b true, .b true, .b true, .b true, .b true, .b true, .b true, .b true, .b true, .b true, .b true, .b true, .b true, .b true]) (l' := [(.t 1, [.ptr 1 0]), (.t 120, [bv true]), (.o 1, (TRaft.ob r_v))]) (by kernel_rfl) (.cons b2_1 (.cons b2_1 (.cons b2_1 (.cons b2_1 (.cons b2_2 (.cons b2_2 (.cons b2_2 (.cons b2_2 (.cons b2_3 (.cons b2_3 (.cons b2_3 (.cons b2_3 (.cons b2_3 (.cons b2_3 (.cons b2_4 (.cons b2_4 (.cons b2_4 (.cons b2_4 (.cons b2_5 (.cons b2_5 (.cons b2_5 (.cons b2_5 (.cons b2_6 (.cons b2_6 (.cons b2_6 (.cons b2_6 (.cons b2_7 (.cons b2_7 (.cons b2_7 (.cons b2_7 (.cons b2_8 (.cons b2_8 (.cons b2_8 (.cons b2_8 (.cons b2_8 (.cons b2_8 (.cons b2_9 (.cons b2_9 (.cons b2_9 (.cons b2_9 (.cons b2_10 (.cons b2_10 (.cons b2_10 (.cons b2_10 (.cons b2_10 (.cons b2_10 (.cons b2_11 (.cons b2_11 (.cons b2_11 (.cons (c_len (e := TEntry.en) (l := r_v.Log)) (.cons b2_11 (.cons b2_11 (.cons b2_12 (.cons b2_12 (.cons b2_12 (.cons b2_12 (.cons b2_13 (.cons b2_13 (.cons b2_13 (.cons b2_13 (.cons b2_13 (.cons (c_len (e := TEntry.en) (l := r_v.Log)) (.cons b2_13 (.cons b2_13 (.cons b2_14 (.cons b2_14 (.cons b2_14 (.cons b2_14 (.cons b2_15 (.cons b2_15 (.cons b2_15 (.cons b2_15 (.cons b2_16 (.cons b2_16 (.cons b2_16 (.cons (c_len (e := e_b) (l := r_v.Votes)) (.cons b2_16 (.cons b2_16 (.cons b2_16 (.cons b2_16 (.cons b2_17 (.cons b2_17 (.cons b2_17 (.cons b2_17 (.cons b2_17 (.cons b2_17 (.cons b2_17 (.cons (Eq.refl true) (.cons (Eq.refl true) (.cons (Eq.refl true) (.cons (Eq.refl true) (.cons (Eq.refl true) (.cons (Eq.refl true) (.cons (Eq.refl true) (.cons (Eq.refl true) (.cons (Eq.refl true) (.cons (Eq.refl true) (.cons (Eq.refl true) .nil)))))))))))))))))))))))))))))))))))))))))))))))))))))))))))))))))))))))))))))))))))))))))))))))))) (by kernel_rfl) ?_
                                    refine WK.ct (b := true) (by kernel_rfl) rfl ?_
                                    refine WK.rs (g := []) (l' := [(.t 2, [bv false])]) (by kernel_rfl) .nil (by kernel_rfl) ?_
                                    refine WK.weak (l := [(.t 2, [bv false])]) (wk_of (by kernel_rfl)) ?_
                                    refine WK.ret (by kernel_rfl) ?_
                                    have h_ := some_inj h
                                    subst h_
                                    exact WKe.fin (e' := .ret) (by kernel_rfl) (fin_of (g := []) (by first | exact .inl rfl | exact .inr rfl) .nil (by kernel_rfl))
                                  · rcases br_inv h with ⟨b2_18, h⟩ | ⟨b2_18, h⟩
                                    · refine WK.rs (g := [.b false, .b false, .b false, .b false, .b false, .b false, .b false, .b false, .b false, .b false, .b false, .b false, .b false, .b false, .b false, .b false, .b false, .b false, .b false, .b false, .b false, .b false, .b false, .b false, .b false, .b false, .b false, .b false, .b false, .b false, .b false, .b false, .b false, .b false, .b false, .b false, .b false, .b false, .b false, .b false, .b false, .b false, .b false, .b false, .b false, .b false, .b false, .b false, .b false, .s (.t 66) [iv (r_v.Log.length : Int)], .b false, .b false, .b false, .b false, .b false, .b false, .b false, .b false, .b false, .b false, .b false, .s (.t 79) [iv (r_v.Log.length : Int)], .b false, .b false, .b false, .b false, .b false, .b false, .b false, .b false, .b false, .b false, .b false, .b false, .b false, .s (.t 95) [iv (r_v.Votes.length : Int)], .b false, .b false, .b false, .b false, .b false, .b false, .b false, .s (.t 103) [iv (r_v.Next.length : Int)], .b false, .b false, .b false, .b false, .b true, .b true, .b true, .b true, .b true, .b true, .b true, .b true, .b true, .b true, .b true]) (l' := [(.t 1, [.ptr 1 0]), (.t 120, [bv true]), (.o 1, (TRaft.ob r_v))]) (by kernel_rfl) (.cons b2_1 (.cons b2_1 (.cons b2_1 (.cons b2_1 (.cons b2_2 (.cons b2_2 (.cons b2_2 (.cons b2_2 (.cons b2_3 (.cons b2_3 (.cons b2_3 (.cons b2_3 (.cons b2_3 (.cons b2_3 (.cons b2_4 (.cons b2_4 (.cons b2_4 (.cons b2_4 (.cons b2_5 (.cons b2_5 (.cons b2_5 (.cons b2_5 (.cons b2_6 (.cons b2_6 (.cons b2_6 (.cons b2_6 (.cons b2_7 (.cons b2_7 (.cons b2_7 (.cons b2_7 (.cons b2_8 (.cons b2_8 (.cons b2_8 (.cons b2_8 (.cons b2_8 (.cons b2_8 (.cons b2_9 (.cons b2_9 (.cons b2_9 (.cons b2_9 (.cons b2_10 (.cons b2_10 (.cons b2_10 (.cons b2_10 (.cons b2_10 (.cons b2_10 (.cons b2_11 (.cons b2_11 (.cons b2_11 (.cons (c_len (e := TEntry.en) (l := r_v.Log)) (.cons b2_11 (.cons b2_11 (.cons b2_12 (.cons b2_12 (.cons b2_12 (.cons b2_12 (.cons b2_13 (.cons b2_13 (.cons b2_13 (.cons b2_13 (.cons b2_13 (.cons (c_len (e := TEntry.en) (l := r_v.Log)) (.cons b2_13 (.cons b2_13 (.cons b2_14 (.cons b2_14 (.cons b2_14 (.cons b2_14 (.cons b2_15 (.cons b2_15 (.cons b2_15 (.cons b2_15 (.cons b2_16 (.cons b2_16 (.cons b2_16 (.cons (c_len (e := e_b) (l := r_v.Votes)) (.cons b2_16 (.cons b2_16 (.cons b2_16 (.cons b2_16 (.cons b2_17 (.cons b2_17 (.cons b2_17 (.cons (c_len (e := e_i64) (l := r_v.Next)) (.cons b2_17 (.cons b2_17 (.cons b2_17 (.cons b2_17 (.cons b2_18 (.cons b2_18 (.cons b2_18 (.cons b2_18 (.cons b2_18 (.cons b2_18 (.cons b2_18 (.cons (Eq.refl true) (.cons (Eq.refl true) (.cons (Eq.refl true) (.cons (Eq.refl true) .nil))))))))))))))))))))))))))))))))))))))))))))))))))))))))))))))))))))))))))))))))))))))))))))))))))) (by kernel_rfl) ?_
                                      refine WK.ct (b := true) (by kernel_rfl) rfl ?_
                                      refine WK.rs (g := []) (l' := [(.t 2, [bv false])]) (by kernel_rfl) .nil (by kernel_rfl) ?_
                                      refine WK.weak (l := [(.t 2, [bv false])]) (wk_of (by kernel_rfl)) ?_
                                      refine WK.ret (by kernel_rfl) ?_
                                      have h_ := some_inj h
                                      subst h_
                                      exact WKe.fin (e' := .ret) (by kernel_rfl) (fin_of (g := []) (by first | exact .inl rfl | exact .inr rfl) .nil (by kernel_rfl))
                                    · rcases br_inv h with ⟨b2_19, h⟩ | ⟨b2_19, h⟩
                                      · refine WK.rs (g := [.b false, .b false, .b false, .b false, .b false, .b false, .b false, .b false, .b false, .b false, .b false, .b false, .b false, .b false, .b false, .b false, .b false, .b false, .b false, .b false, .b false, .b false, .b false, .b false, .b false, .b false, .b false, .b false, .b false, .b false, .b false, .b false, .b false, .b false, .b false, .b false, .b false, .b false, .b false, .b false, .b false, .b false, .b false, .b false, .b false, .b false, .b false, .b false, .b false, .s (.t 66) [iv (r_v.Log.length : Int)], .b false, .b false, .b false, .b false, .b false, .b false, .b false, .b false, .b false, .b false, .b false, .s (.t 79) [iv (r_v.Log.length : Int)], .b false, .b false, .b false, .b false, .b false, .b false, .b false, .b false, .b false, .b false, .b false, .b false, .b false, .s (.t 95) [iv (r_v.Votes.length : Int)], .b false, .b false, .b false, .b false, .b false, .b false, .b false, .s (.t 103) [iv (r_v.Next.length : Int)], .b false, .b false, .b false, .b false, .b false, .b false, .b false, .s (.t 111) [iv (r_v.Match.length : Int)], .b false, .b false, .b false, .b false, .b true, .b true, .b true, .b true]) (l' := [(.t 1, [.ptr 1 0]), (.t 120, [bv true]), (.o 1, (TRaft.ob r_v))]) (by kernel_rfl) (.cons b2_1 (.cons b2_1 (.cons b2_1 (.cons b2_1 (.cons b2_2 (.cons b2_2 (.cons b2_2 (.cons b2_2 (.cons b2_3 (.cons b2_3 (.cons b2_3 (.cons b2_3 (.cons b2_3 (.cons b2_3 (.cons b2_4 (.cons b2_4 (.cons b2_4 (.cons b2_4 (.cons b2_5 (.cons b2_5 (.cons b2_5 (.cons b2_5 (.cons b2_6 (.cons b2_6 (.cons b2_6 (.cons b2_6 (.cons b2_7 (.cons b2_7 (.cons b2_7 (.cons b2_7 (.cons b2_8 (.cons b2_8 (.cons b2_8 (.cons b2_8 (.cons b2_8 (.cons b2_8 (.cons b2_9 (.cons b2_9 (.cons b2_9 (.cons b2_9 (.cons b2_10 (.cons b2_10 (.cons b2_10 (.cons b2_10 (.cons b2_10 (.cons b2_10 (.cons b2_11 (.cons b2_11 (.cons b2_11 (.cons (c_len (e := TEntry.en) (l := r_v.Log)) (.cons b2_11 (.cons b2_11 (.cons b2_12 (.cons b2_12 (.cons b2_12 (.cons b2_12 (.cons b2_13 (.cons b2_13 (.cons b2_13 (.cons b2_13 (.cons b2_13 (.cons (c_len (e := TEntry.en) (l := r_v.Log)) (.cons b2_13 (.cons b2_13 (.cons b2_14 (.cons b2_14 (.cons b2_14 (.cons b2_14 (.cons b2_15 (.cons b2_15 (.cons b2_15 (.cons b2_15 (.cons b2_16 (.cons b2_16 (.cons b2_16 (.cons (c_len (e := e_b) (l := r_v.Votes)) (.cons b2_16 (.cons b2_16 (.cons b2_16 (.cons b2_16 (.cons b2_17 (.cons b2_17 (.cons b2_17 (.cons (c_len (e := e_i64) (l := r_v.Next)) (.cons b2_17 (.cons b2_17 (.cons b2_17 (.cons b2_17 (.cons b2_18 (.cons b2_18 (.cons b2_18 (.cons (c_len (e := e_i64) (l := r_v.Match)) (.cons b2_18 (.cons b2_18 (.cons b2_18 (.cons b2_18 (.cons b2_19 (.cons b2_19 (.cons b2_19 (.cons b2_19 .nil)))))))))))))))))))))))))))))))))))))))))))))))))))))))))))))))))))))))))))))))))))))))))))))))))))) (by kernel_rfl) ?_
                                        refine WK.ct (b := true) (by kernel_rfl) rfl ?_
                                        refine WK.rs (g := []) (l' := [(.t 2, [bv false])]) (by kernel_rfl) .nil (by kernel_rfl) ?_
                                        refine WK.weak (l := [(.t 2, [bv false])]) (wk_of (by kernel_rfl)) ?_
                                        refine WK.ret (by kernel_rfl) ?_
                                        have h_ := some_inj h
                                        subst h_
                                        exact WKe.fin (e' := .ret) (by kernel_rfl) (fin_of (g := []) (by first | exact .inl rfl | exact .inr rfl) .nil (by kernel_rfl))
                                      · refine WK.rs (g := [.b false, .b false, .b false, .b false, .b false, .b false, .b false, .b false, .b false, .b false, .b false, .b false, .b false, .b false, .b false, .b false, .b false, .b false, .b false, .b false, .b false, .b false, .b false, .b false, .b false, .b false, .b false, .b false, .b false, .b false, .b false, .b false, .b false, .b false, .b false, .b false, .b false, .b false, .b false, .b false, .b false, .b false, .b false, .b false, .b false, .b false, .b false, .b false, .b false, .s (.t 66) [iv (r_v.Log.length : Int)], .b false, .b false, .b false, .b false, .b false, .b false, .b false, .b false, .b false, .b false, .b false, .s (.t 79) [iv (r_v.Log.length : Int)], .b false, .b false, .b false, .b false, .b false, .b false, .b false, .b false, .b false, .b false, .b false, .b false, .b false, .s (.t 95) [iv (r_v.Votes.length : Int)], .b false, .b false, .b false, .b false, .b false, .b false, .b false, .s (.t 103) [iv (r_v.Next.length : Int)], .b false, .b false, .b false, .b false, .b false, .b false, .b false, .s (.t 111) [iv (r_v.Match.length : Int)], .b false, .b false, .b false, .b false, .b false, .b false, .b false, .b false]) (l' := [(.t 1, [.ptr 1 0]), (.t 120, [bv (decide (r_v.Clock < 0))]), (.o 1, (TRaft.ob r_v))]) (by kernel_rfl) (.cons b2_1 (.cons b2_1 (.cons b2_1 (.cons b2_1 (.cons b2_2 (.cons b2_2 (.cons b2_2 (.cons b2_2 (.cons b2_3 (.cons b2_3 (.cons b2_3 (.cons b2_3 (.cons b2_3 (.cons b2_3 (.cons b2_4 (.cons b2_4 (.cons b2_4 (.cons b2_4 (.cons b2_5 (.cons b2_5 (.cons b2_5 (.cons b2_5 (.cons b2_6 (.cons b2_6 (.cons b2_6 (.cons b2_6 (.cons b2_7 (.cons b2_7 (.cons b2_7 (.cons b2_7 (.cons b2_8 (.cons b2_8 (.cons b2_8 (.cons b2_8 (.cons b2_8 (.cons b2_8 (.cons b2_9 (.cons b2_9 (.cons b2_9 (.cons b2_9 (.cons b2_10 (.cons b2_10 (.cons b2_10 (.cons b2_10 (.cons b2_10 (.cons b2_10 (.cons b2_11 (.cons b2_11 (.cons b2_11 (.cons (c_len (e := TEntry.en) (l := r_v.Log)) (.cons b2_11 (.cons b2_11 (.cons b2_12 (.cons b2_12 (.cons b2_12 (.cons b2_12 (.cons b2_13 (.cons b2_13 (.cons b2_13 (.cons b2_13 (.cons b2_13 (.cons (c_len (e := TEntry.en) (l := r_v.Log)) (.cons b2_13 (.cons b2_13 (.cons b2_14 (.cons b2_14 (.cons b2_14 (.cons b2_14 (.cons b2_15 (.cons b2_15 (.cons b2_15 (.cons b2_15 (.cons b2_16 (.cons b2_16 (.cons b2_16 (.cons (c_len (e := e_b) (l := r_v.Votes)) (.cons b2_16 (.cons b2_16 (.cons b2_16 (.cons b2_16 (.cons b2_17 (.cons b2_17 (.cons b2_17 (.cons (c_len (e := e_i64) (l := r_v.Next)) (.cons b2_17 (.cons b2_17 (.cons b2_17 (.cons b2_17 (.cons b2_18 (.cons b2_18 (.cons b2_18 (.cons (c_len (e := e_i64) (l := r_v.Match)) (.cons b2_18 (.cons b2_18 (.cons b2_18 (.cons b2_18 (.cons b2_19 (.cons b2_19 (.cons b2_19 (.cons b2_19 .nil)))))))))))))))))))))))))))))))))))))))))))))))))))))))))))))))))))))))))))))))))))))))))))))))))))) (by kernel_rfl) ?_
                                        rcases br_inv h with ⟨b22_0, h⟩ | ⟨b22_0, h⟩
                                        · refine WK.ct (b := (decide (r_v.Clock < 0))) (by kernel_rfl) b22_0 ?_
                                          refine WK.rs (g := []) (l' := [(.t 2, [bv false])]) (by kernel_rfl) .nil (by kernel_rfl) ?_
                                          refine WK.weak (l := [(.t 2, [bv false])]) (wk_of (by kernel_rfl)) ?_
                                          refine WK.ret (by kernel_rfl) ?_
                                          have h_ := some_inj h
                                          subst h_
                                          exact WKe.fin (e' := .ret) (by kernel_rfl) (fin_of (g := []) (by first | exact .inl rfl | exact .inr rfl) .nil (by kernel_rfl))
                                        · refine WK.ce (b := (decide (r_v.Clock < 0))) (by kernel_rfl) b22_0 ?_
                                          refine WK.skip (by kernel_rfl) ?_
                                          refine WKe.code (y := (cR (cR bd17))) (ks' := []) (by kernel_rfl) ?_
                                          refine WK.seq (by kernel_rfl) ?_
                                          refine WK.rs (g := []) (l' := [(.t 1, [.ptr 1 0]), (.t 3, [iv 0]), (.o 1, (TRaft.ob r_v))]) (by kernel_rfl) .nil (by kernel_rfl) ?_
                                          refine WK.block (n := 0) (by kernel_rfl) ?_
                                          obtain ⟨o35, ho35, h⟩ := bd_inv h
                                          refine WK.weak (l := [(.t 1, [.ptr 1 0]), (.t 3, [iv 0]), (.o 1, (TRaft.ob r_v))]) (wk_of (by kernel_rfl)) ?_
                                          refine WK.use (diwanref11_May.lp25_ok fu r_v _ 0 _ ho35) ?_
                                          intro e_ τ_ hp_
                                          rcases o35 with o35 | o35
                                          · obtain ⟨⟩ := o35
                                            obtain ⟨rfl, rfl⟩ := hp_
                                            refine WKe.code (y := (cR (cR (cR bd17)))) (ks' := []) (by kernel_rfl) ?_
                                            refine WK.rs (g := []) (l' := [(.t 2, [bv true])]) (by kernel_rfl) .nil (by kernel_rfl) ?_
                                            refine WK.weak (l := [(.t 2, [bv true])]) (wk_of (by kernel_rfl)) ?_
                                            refine WK.ret (by kernel_rfl) ?_
                                            have h_ := some_inj h
                                            subst h_
                                            exact WKe.fin (e' := .ret) (by kernel_rfl) (fin_of (g := []) (by first | exact .inl rfl | exact .inr rfl) .nil (by kernel_rfl))
                                          · obtain ⟨⟩ := o35
                                            obtain ⟨rfl, rfl⟩ := hp_
                                            have h_ := some_inj h
                                            subst h_
                                            exact WKe.fin (e' := .ret) (by kernel_rfl) (fin_of (g := []) (by first | exact .inl rfl | exact .inr rfl) .nil (by kernel_rfl))
/-- diwan/diwanlaw11.RaftFull -/
noncomputable def bd4 : Code := (Try.f4.body).getD .skip
def diwanlaw11_RaftFull.O : Nat → Nat := fun t => bif ([2, 3, 4, 5, 6, 7, 8, 9, 10, 13, 21, 31, 33, 51] : List Nat).any (Nat.beq t) then 1 else 0
noncomputable def diwanlaw11_RaftFull.lp7 (fu : Nat) (l7_0 : Int) : Nat → Int → TRaft → Option TRaft
  | 0, _, _ => none
  | n_ + 1, l7_1, l7_2 =>
    br (decide (l7_1 < 3))
      (bd (raft_Tick fu l7_2) fun (r10_1, r10_2) =>
      diwanlaw11_RaftFull.lp7 fu l7_0 n_ (w64 (l7_1 + 1)) r10_1)
      (some l7_2)
noncomputable def diwanlaw11_RaftFull.lp7_post (l7_0 : Int) (r_ : TRaft) : Wy → St → Prop := fun e τ => match r_ with
  | y0 => e = .exit 0 ∧ τ = ofL [(.t 0, [.data (.val (.int .u8 l7_0))]), (.t 3, [.ptr 3 0]), (.o 3, (TRaft.ob y0))]
theorem diwanlaw11_RaftFull.lp7_ok (fu : Nat) (l7_0 : Int) : ∀ (n_ : Nat) (l7_1 : Int) (l7_2 : TRaft) (r_ : TRaft), diwanlaw11_RaftFull.lp7 fu l7_0 n_ l7_1 l7_2 = some r_ → WK Try.prog diwanlaw11_RaftFull.O (Ck Try.prog) (cB (cR (cL (cR (cR (cR bd4)))))) [] (ofL [(.t 0, [.data (.val (.int .u8 l7_0))]), (.t 3, [.ptr 3 0]), (.t 4, [iv l7_1]), (.o 3, (TRaft.ob l7_2))]) (diwanlaw11_RaftFull.lp7_post l7_0 r_) := by
  intro n_
  induction n_ with
  | zero => intro l7_1 l7_2 r_ h; exact no_none h
  | succ n_ ih =>
    intro l7_1 l7_2 r_ h
    refine WK.loop (by kernel_rfl) ?_
    refine WK.seq (by kernel_rfl) ?_
    refine WK.rs (g := []) (l' := [(.t 0, [.data (.val (.int .u8 l7_0))]), (.t 3, [.ptr 3 0]), (.t 4, [iv l7_1]), (.t 15, [bv (decide (l7_1 < 3))]), (.o 3, (TRaft.ob l7_2))]) (by kernel_rfl) .nil (by kernel_rfl) ?_
    rcases br_inv h with ⟨b9_0, h⟩ | ⟨b9_0, h⟩
    · refine WK.ct (b := (decide (l7_1 < 3))) (by kernel_rfl) b9_0 ?_
      refine WK.skip (by kernel_rfl) ?_
      refine WKe.code (y := (cR (cB (cB (cR (cL (cR (cR (cR bd4))))))))) (ks' := [.lp (cB (cR (cL (cR (cR (cR bd4))))))]) (by kernel_rfl) ?_
      refine WK.seq (by kernel_rfl) ?_
      refine WK.block (n := 1) (by kernel_rfl) ?_
      obtain ⟨⟨r10_1, r10_2⟩, h10_3, h⟩ := bd_inv h
      refine WK.rc (g := [.a ⟨.tup [.data (TRaft.ag r10_1), .data (.slc false none 24 (List.map TMsg.en r10_2))], []⟩]) (l' := [(.t 0, [.data (.val (.int .u8 l7_0))]), (.t 3, [.ptr 3 0]), (.t 4, [iv l7_1]), (.o 3, (TRaft.ob r10_1))]) (.cons (Asks.of (C := Meets Try.prog) (raft_Tick.meets fu l7_2 _ _ h10_3)) .nil) (by kernel_rfl) (y := (cR (cR (cB (cB (cR (cL (cR (cR (cR bd4)))))))))) (ks' := [.lp (cB (cR (cL (cR (cR (cR bd4))))))]) (by kernel_rfl) ?_
      refine WK.rc (g := []) (l' := [(.t 0, [.data (.val (.int .u8 l7_0))]), (.t 3, [.ptr 3 0]), (.t 4, [iv (w64 (l7_1 + 1))]), (.o 3, (TRaft.ob r10_1))]) .nil (by kernel_rfl) (y := (cB (cR (cL (cR (cR (cR bd4))))))) (ks' := []) (by kernel_rfl) ?_
      exact WK.weak (l := [(.t 0, [.data (.val (.int .u8 l7_0))]), (.t 3, [.ptr 3 0]), (.t 4, [iv (w64 (l7_1 + 1))]), (.o 3, (TRaft.ob r10_1))]) (wk_of (by kernel_rfl)) (ih (w64 (l7_1 + 1)) r10_1 _ h)
    · refine WK.ce (b := (decide (l7_1 < 3))) (by kernel_rfl) b9_0 ?_
      refine WK.weak (l := [(.t 0, [.data (.val (.int .u8 l7_0))]), (.t 3, [.ptr 3 0]), (.o 3, (TRaft.ob l7_2))]) (wk_of (by kernel_rfl)) ?_
      refine WK.exit (n := 0) (by kernel_rfl) ?_
      cases some_inj h
      exact WKe.fin (e' := .exit 0) (by kernel_rfl) ⟨rfl, rfl⟩
noncomputable def diwanlaw11_RaftFull.lp14 (fu : Nat) (l14_0 : Int) : Nat → Int → TRaft → Option (TRaft ⊕ Unit)
  | 0, _, _ => none
  | n_ + 1, l14_1, l14_2 =>
    br (decide (l14_1 < (w64 l14_0)))
      (bd (raft_Propose fu l14_2 (TEntry.mk 0 true (TTxn.mk 0 0 [] []))) fun (r17_1, r17_2, r17_3) =>
      br (!(r17_3 == (decide ((l14_2.Log.length : Int) < 200))))
        (some (.inr ()))
        (bd (diwanref11_May fu r17_1) fun r18_2 =>
        br (!r18_2)
          (some (.inr ()))
          (diwanlaw11_RaftFull.lp14 fu l14_0 n_ (w64 (l14_1 + 1)) r17_1)))
      (some (.inl l14_2))
noncomputable def diwanlaw11_RaftFull.lp14_post (l14_0 : Int) (r_ : (TRaft ⊕ Unit)) : Wy → St → Prop := fun e τ => match r_ with
  | .inl y0 => e = .exit 2 ∧ τ = ofL [(.t 0, [.data (.val (.int .u8 l14_0))]), (.t 3, [.ptr 3 0]), (.o 3, (TRaft.ob y0))]
  | .inr _ => e = .ret ∧ τ = ofL [(.t 2, [bv false])]
theorem diwanlaw11_RaftFull.lp14_ok (fu : Nat) (l14_0 : Int) : ∀ (n_ : Nat) (l14_1 : Int) (l14_2 : TRaft) (r_ : (TRaft ⊕ Unit)), diwanlaw11_RaftFull.lp14 fu l14_0 n_ l14_1 l14_2 = some r_ → WK Try.prog diwanlaw11_RaftFull.O (Ck Try.prog) (cB (cR (cL (cR (cR (cR (cR bd4))))))) [] (ofL [(.t 0, [.data (.val (.int .u8 l14_0))]), (.t 3, [.ptr 3 0]), (.t 5, [iv l14_1]), (.o 3, (TRaft.ob l14_2))]) (diwanlaw11_RaftFull.lp14_post l14_0 r_) := by
  intro n_
  induction n_ with
  | zero => intro l14_1 l14_2 r_ h; exact no_none h
  | succ n_ ih =>
    intro l14_1 l14_2 r_ h
    refine WK.loop (by kernel_rfl) ?_
    refine WK.seq (by kernel_rfl) ?_
    refine WK.rs (g := []) (l' := [(.t 0, [.data (.val (.int .u8 l14_0))]), (.t 3, [.ptr 3 0]), (.t 5, [iv l14_1]), (.t 26, [bv (decide (l14_1 < (w64 l14_0)))]), (.o 3, (TRaft.ob l14_2))]) (by kernel_rfl) .nil (by kernel_rfl) ?_
    rcases br_inv h with ⟨b16_0, h⟩ | ⟨b16_0, h⟩
    · refine WK.ct (b := (decide (l14_1 < (w64 l14_0)))) (by kernel_rfl) b16_0 ?_
      refine WK.skip (by kernel_rfl) ?_
      refine WKe.code (y := (cR (cB (cB (cR (cL (cR (cR (cR (cR bd4)))))))))) (ks' := [.lp (cB (cR (cL (cR (cR (cR (cR bd4)))))))]) (by kernel_rfl) ?_
      refine WK.seq (by kernel_rfl) ?_
      refine WK.block (n := 3) (by kernel_rfl) ?_
      obtain ⟨⟨r17_1, r17_2, r17_3⟩, h17_4, h⟩ := bd_inv h
      refine WK.rs (g := [.a ⟨.tup [.data (TRaft.ag r17_1), .data (.slc false none 24 (List.map TMsg.en r17_2)), bv r17_3], []⟩]) (l' := [(.t 0, [.data (.val (.int .u8 l14_0))]), (.t 3, [.ptr 3 0]), (.t 5, [iv l14_1]), (.t 6, [.ptr 6 0]), (.t 8, [bv r17_3]), (.o 3, (TRaft.ob l14_2)), (.o 6, (TRaft.ob r17_1))]) (by kernel_rfl) (.cons (Asks.of (C := Meets Try.prog) (raft_Propose.meets fu l14_2 (TEntry.mk 0 true (TTxn.mk 0 0 [] [])) _ _ _ h17_4)) .nil) (by kernel_rfl) ?_
      refine WK.seq (by kernel_rfl) ?_
      rcases br_inv h with ⟨b18_1, h⟩ | ⟨b18_1, h⟩
      · refine WK.rs (g := [.s (.t 39) [iv (l14_2.Log.length : Int)], .b true, .b true, .b true, .b true]) (l' := [(.t 0, [.data (.val (.int .u8 l14_0))]), (.t 3, [.ptr 3 0]), (.t 5, [iv l14_1]), (.t 6, [.ptr 6 0]), (.t 46, [bv true]), (.o 3, (TRaft.ob l14_2)), (.o 6, (TRaft.ob r17_1))]) (by kernel_rfl) (.cons (c_len (e := TEntry.en) (l := l14_2.Log)) (.cons b18_1 (.cons b18_1 (.cons b18_1 (.cons b18_1 .nil))))) (by kernel_rfl) ?_
        refine WK.ct (b := true) (by kernel_rfl) rfl ?_
        refine WK.rs (g := []) (l' := [(.t 2, [bv false])]) (by kernel_rfl) .nil (by kernel_rfl) ?_
        refine WK.weak (l := [(.t 2, [bv false])]) (wk_of (by kernel_rfl)) ?_
        refine WK.ret (by kernel_rfl) ?_
        cases some_inj h
        exact WKe.fin (e' := .ret) (by kernel_rfl) ⟨rfl, rfl⟩
      · obtain ⟨r18_2, h18_3, h⟩ := bd_inv h
        refine WK.rs (g := [.s (.t 39) [iv (l14_2.Log.length : Int)], .b false, .b false, .a ⟨bv r18_2, []⟩, .b false, .b false]) (l' := [(.t 0, [.data (.val (.int .u8 l14_0))]), (.t 3, [.ptr 3 0]), (.t 5, [iv l14_1]), (.t 6, [.ptr 6 0]), (.t 46, [bv (!r18_2)]), (.o 3, (TRaft.ob l14_2)), (.o 6, (TRaft.ob r17_1))]) (by kernel_rfl) (.cons (c_len (e := TEntry.en) (l := l14_2.Log)) (.cons b18_1 (.cons b18_1 (.cons (Asks.of (C := Meets Try.prog) (diwanref11_May.meets fu r17_1 _ h18_3)) (.cons b18_1 (.cons b18_1 .nil)))))) (by kernel_rfl) ?_
        rcases br_inv h with ⟨b20_0, h⟩ | ⟨b20_0, h⟩
        · refine WK.ct (b := (!r18_2)) (by kernel_rfl) b20_0 ?_
          refine WK.rs (g := []) (l' := [(.t 2, [bv false])]) (by kernel_rfl) .nil (by kernel_rfl) ?_
          refine WK.weak (l := [(.t 2, [bv false])]) (wk_of (by kernel_rfl)) ?_
          refine WK.ret (by kernel_rfl) ?_
          cases some_inj h
          exact WKe.fin (e' := .ret) (by kernel_rfl) ⟨rfl, rfl⟩
        · refine WK.ce (b := (!r18_2)) (by kernel_rfl) b20_0 ?_
          refine WK.skip (by kernel_rfl) ?_
          refine WKe.code (y := (cR (cR (cB (cL (cR (cB (cB (cR (cL (cR (cR (cR (cR bd4)))))))))))))) (ks' := [.blk 3, .seq (cR (cR (cB (cB (cR (cL (cR (cR (cR (cR bd4)))))))))), .lp (cB (cR (cL (cR (cR (cR (cR bd4)))))))]) (by kernel_rfl) ?_
          refine WK.rc (g := []) (l' := [(.t 0, [.data (.val (.int .u8 l14_0))]), (.t 3, [.ptr 3 0]), (.t 5, [iv l14_1]), (.o 3, (TRaft.ob r17_1))]) .nil (by kernel_rfl) (y := (cR (cR (cB (cB (cR (cL (cR (cR (cR (cR bd4))))))))))) (ks' := [.lp (cB (cR (cL (cR (cR (cR (cR bd4)))))))]) (by kernel_rfl) ?_
          refine WK.rc (g := []) (l' := [(.t 0, [.data (.val (.int .u8 l14_0))]), (.t 3, [.ptr 3 0]), (.t 5, [iv (w64 (l14_1 + 1))]), (.o 3, (TRaft.ob r17_1))]) .nil (by kernel_rfl) (y := (cB (cR (cL (cR (cR (cR (cR bd4)))))))) (ks' := []) (by kernel_rfl) ?_
          exact WK.weak (l := [(.t 0, [.data (.val (.int .u8 l14_0))]), (.t 3, [.ptr 3 0]), (.t 5, [iv (w64 (l14_1 + 1))]), (.o 3, (TRaft.ob r17_1))]) (wk_of (by kernel_rfl)) (ih (w64 (l14_1 + 1)) r17_1 _ h)
    · refine WK.ce (b := (decide (l14_1 < (w64 l14_0)))) (by kernel_rfl) b16_0 ?_
      refine WK.weak (l := [(.t 0, [.data (.val (.int .u8 l14_0))]), (.t 3, [.ptr 3 0]), (.o 3, (TRaft.ob l14_2))]) (wk_of (by kernel_rfl)) ?_
      refine WK.exit (n := 2) (by kernel_rfl) ?_
      cases some_inj h
      exact WKe.fin (e' := .exit 2) (by kernel_rfl) ⟨rfl, rfl⟩
noncomputable def diwanlaw11_RaftFull (fu : Nat) (n_v : Int) : Option Bool :=
  bd (diwanlaw11_begun fu) fun r2_1 =>
  br (!r2_1)
    (some false)
    (bd (raft_New 1 1 3) fun r5_1 =>
    bd (diwanlaw11_RaftFull.lp7 fu n_v fu 0 r5_1) fun y12_0 =>
    bd (diwanlaw11_RaftFull.lp14 fu n_v fu 0 y12_0) fun o_ => (match o_ with
    | .inl y24_0 =>
      bd (raft_Tick fu y24_0) fun (r25_1, r25_2) =>
      br (y24_0.Commit == (y24_0.Log.length : Int))
        (br ((y24_0.Log.length : Int) == (if (200 : Int) < (w64 (1 + (w64 n_v))) then 200 else (w64 (1 + (w64 n_v)))))
          (bd (raft_Same fu r25_1 y24_0) fun r26_3 =>
          br r26_3
            (some ((r25_2.length : Int) == 0))
            (some false))
          (some false))
        (some false)
    | .inr _ =>
      some false))
theorem diwanlaw11_RaftFull.meets (fu : Nat) (n_v : Int) (z0 : Bool) (h : diwanlaw11_RaftFull fu n_v = some z0) : Meets Try.prog ⟨4, [.data (.val (.int .u8 n_v))], []⟩ ⟨bv z0, []⟩ := by
  refine meets_of (O := diwanlaw11_RaftFull.O) hmix (fn := Try.f4) (code := bd4) (by kernel_rfl) ?_
  refine WK.weak (l := [(.t 0, [.data (.val (.int .u8 n_v))])]) (wk_of (by kernel_rfl)) ?_
  unfold diwanlaw11_RaftFull at h
  refine WK.rs (g := []) (l' := [(.t 0, [.data (.val (.int .u8 n_v))])]) (by kernel_rfl) .nil (by kernel_rfl) ?_
  refine WK.seq (by kernel_rfl) ?_
  obtain ⟨r2_1, h2_2, h⟩ := bd_inv h
  refine WK.rs (g := [.a ⟨bv r2_1, []⟩]) (l' := [(.t 0, [.data (.val (.int .u8 n_v))]), (.t 12, [bv (!r2_1)])]) (by kernel_rfl) (.cons (Asks.of (C := Meets Try.prog) (diwanlaw11_begun.meets fu _ h2_2)) .nil) (by kernel_rfl) ?_
  rcases br_inv h with ⟨b3_0, h⟩ | ⟨b3_0, h⟩
  · refine WK.ct (b := (!r2_1)) (by kernel_rfl) b3_0 ?_
    refine WK.rs (g := []) (l' := [(.t 2, [bv false])]) (by kernel_rfl) .nil (by kernel_rfl) ?_
    refine WK.weak (l := [(.t 2, [bv false])]) (wk_of (by kernel_rfl)) ?_
    refine WK.ret (by kernel_rfl) ?_
    have h_ := some_inj h
    subst h_
    exact WKe.fin (e' := .ret) (by kernel_rfl) (fin_of (g := []) (by first | exact .inl rfl | exact .inr rfl) .nil (by kernel_rfl))
  · refine WK.ce (b := (!r2_1)) (by kernel_rfl) b3_0 ?_
    refine WK.skip (by kernel_rfl) ?_
    refine WKe.code (y := (cR (cR bd4))) (ks' := []) (by kernel_rfl) ?_
    obtain ⟨r5_1, h5_2, h⟩ := bd_inv h
    refine WK.rs (g := [.a ⟨.data (TRaft.ag_000001000111 r5_1), []⟩]) (l' := [(.t 0, [.data (.val (.int .u8 n_v))]), (.t 3, [.ptr 3 0]), (.o 3, (TRaft.ob_000001000111 r5_1))]) (by kernel_rfl) (.cons (Asks.of (C := Meets Try.prog) (raft_New.meets 1 1 3 _ h5_2)) .nil) (by kernel_rfl) ?_
    refine WK.seq (by kernel_rfl) ?_
    refine WK.rs (g := []) (l' := [(.t 0, [.data (.val (.int .u8 n_v))]), (.t 3, [.ptr 3 0]), (.t 4, [iv 0]), (.o 3, (TRaft.ob_000001000111 r5_1))]) (by kernel_rfl) .nil (by kernel_rfl) ?_
    refine WK.block (n := 0) (by kernel_rfl) ?_
    obtain ⟨o12, ho12, h⟩ := bd_inv h
    refine WK.shareO (i := 3) (cc := 5) (l' := [(.t 0, [.data (.val (.int .u8 n_v))]), (.t 3, [.ptr 3 0]), (.t 4, [iv 0]), (.o 3, (TRaft.ob_000000000111 r5_1))]) (by kernel_rfl) (by kernel_rfl) (by kernel_rfl) ?_
    refine WK.shareO (i := 3) (cc := 9) (l' := [(.t 0, [.data (.val (.int .u8 n_v))]), (.t 3, [.ptr 3 0]), (.t 4, [iv 0]), (.o 3, (TRaft.ob_000000000011 r5_1))]) (by kernel_rfl) (by kernel_rfl) (by kernel_rfl) ?_
    refine WK.shareO (i := 3) (cc := 10) (l' := [(.t 0, [.data (.val (.int .u8 n_v))]), (.t 3, [.ptr 3 0]), (.t 4, [iv 0]), (.o 3, (TRaft.ob_000000000001 r5_1))]) (by kernel_rfl) (by kernel_rfl) (by kernel_rfl) ?_
    refine WK.shareO (i := 3) (cc := 11) (l' := [(.t 0, [.data (.val (.int .u8 n_v))]), (.t 3, [.ptr 3 0]), (.t 4, [iv 0]), (.o 3, (TRaft.ob r5_1))]) (by kernel_rfl) (by kernel_rfl) (by kernel_rfl) ?_
    refine WK.weak (l := [(.t 0, [.data (.val (.int .u8 n_v))]), (.t 3, [.ptr 3 0]), (.t 4, [iv 0]), (.o 3, (TRaft.ob r5_1))]) (wk_of (by kernel_rfl)) ?_
    refine WK.use (diwanlaw11_RaftFull.lp7_ok fu n_v _ 0 r5_1 _ ho12) ?_
    intro e_ τ_ hp_
    obtain ⟨y12_0, rfl⟩ : ∃ y, y = o12 := ⟨_, rfl⟩
    obtain ⟨rfl, rfl⟩ := hp_
    refine WKe.code (y := (cR (cR (cR (cR bd4))))) (ks' := []) (by kernel_rfl) ?_
    refine WK.seq (by kernel_rfl) ?_
    refine WK.rs (g := []) (l' := [(.t 0, [.data (.val (.int .u8 n_v))]), (.t 3, [.ptr 3 0]), (.t 5, [iv 0]), (.o 3, (TRaft.ob y12_0))]) (by kernel_rfl) .nil (by kernel_rfl) ?_
    refine WK.block (n := 2) (by kernel_rfl) ?_
    obtain ⟨o24, ho24, h⟩ := bd_inv h
    refine WK.weak (l := [(.t 0, [.data (.val (.int .u8 n_v))]), (.t 3, [.ptr 3 0]), (.t 5, [iv 0]), (.o 3, (TRaft.ob y12_0))]) (wk_of (by kernel_rfl)) ?_
    refine WK.use (diwanlaw11_RaftFull.lp14_ok fu n_v _ 0 y12_0 _ ho24) ?_
    intro e_ τ_ hp_
    rcases o24 with o24 | o24
    · obtain ⟨y24_0, rfl⟩ : ∃ y, y = o24 := ⟨_, rfl⟩
      obtain ⟨rfl, rfl⟩ := hp_
      refine WKe.code (y := (cR (cR (cR (cR (cR bd4)))))) (ks' := []) (by kernel_rfl) ?_
      obtain ⟨⟨r25_1, r25_2⟩, h25_3, h⟩ := bd_inv h
      refine WK.rs (g := [.a ⟨.tup [.data (TRaft.ag r25_1), .data (.slc false none 24 (List.map TMsg.en r25_2))], []⟩]) (l' := [(.t 0, [.data (.val (.int .u8 n_v))]), (.t 3, [.ptr 3 0]), (.t 9, [.ptr 9 0]), (.t 10, [.data (.slc false none 24 (List.map TMsg.en r25_2))]), (.o 3, (TRaft.ob y24_0)), (.o 9, (TRaft.ob r25_1))]) (by kernel_rfl) (.cons (Asks.of (C := Meets Try.prog) (raft_Tick.meets fu y24_0 _ _ h25_3)) .nil) (by kernel_rfl) ?_
      rcases br_inv h with ⟨b26_1, h⟩ | ⟨b26_1, h⟩
      · rcases br_inv h with ⟨b26_2, h⟩ | ⟨b26_2, h⟩
        · obtain ⟨r26_3, h26_4, h⟩ := bd_inv h
          rcases br_inv h with ⟨b26_5, h⟩ | ⟨b26_5, h⟩
          · refine WK.rs (g := [.s (.t 57) [iv (y24_0.Log.length : Int)], .b true, .b true, .b true, .s (.t 62) [iv (y24_0.Log.length : Int)], .b true, .b true, .b true, .b true, .b true, .b true, .b true, .b true, .b true, .a ⟨bv r26_3, []⟩, .b true, .b true, .b true, .s (.t 76) [iv (r25_2.length : Int)], .b true, .b true]) (l' := [(.t 2, [bv ((r25_2.length : Int) == 0)])]) (by kernel_rfl) (.cons (c_len (e := TEntry.en) (l := y24_0.Log)) (.cons b26_1 (.cons b26_1 (.cons b26_1 (.cons (c_len (e := TEntry.en) (l := y24_0.Log)) (.cons b26_1 (.cons b26_1 (.cons b26_1 (.cons b26_1 (.cons b26_1 (.cons b26_1 (.cons b26_2 (.cons b26_2 (.cons b26_2 (.cons (Asks.of (C := Meets Try.prog) (raft_Same.meets fu r25_1 y24_0 _ h26_4)) (.cons b26_2 (.cons b26_5 (.cons b26_5 (.cons (c_len (e := TMsg.en) (l := r25_2)) (.cons b26_5 (.cons b26_5 .nil))))))))))))))))))))) (by kernel_rfl) ?_
            refine WK.weak (l := [(.t 2, [bv ((r25_2.length : Int) == 0)])]) (wk_of (by kernel_rfl)) ?_
            refine WK.ret (by kernel_rfl) ?_
            have h_ := some_inj h
            subst h_
            exact WKe.fin (e' := .ret) (by kernel_rfl) (fin_of (g := []) (by first | exact .inl rfl | exact .inr rfl) .nil (by kernel_rfl))
          · refine WK.rs (g := [.s (.t 57) [iv (y24_0.Log.length : Int)], .b true, .b true, .b true, .s (.t 62) [iv (y24_0.Log.length : Int)], .b true, .b true, .b true, .b true, .b true, .b true, .b true, .b true, .b true, .a ⟨bv r26_3, []⟩, .b true, .b false, .b false, .b false, .b false]) (l' := [(.t 2, [bv false])]) (by kernel_rfl) (.cons (c_len (e := TEntry.en) (l := y24_0.Log)) (.cons b26_1 (.cons b26_1 (.cons b26_1 (.cons (c_len (e := TEntry.en) (l := y24_0.Log)) (.cons b26_1 (.cons b26_1 (.cons b26_1 (.cons b26_1 (.cons b26_1 (.cons b26_1 (.cons b26_2 (.cons b26_2 (.cons b26_2 (.cons (Asks.of (C := Meets Try.prog) (raft_Same.meets fu r25_1 y24_0 _ h26_4)) (.cons b26_2 (.cons b26_5 (.cons b26_5 (.cons b26_5 (.cons b26_5 .nil)))))))))))))))))))) (by kernel_rfl) ?_
            refine WK.weak (l := [(.t 2, [bv false])]) (wk_of (by kernel_rfl)) ?_
            refine WK.ret (by kernel_rfl) ?_
            have h_ := some_inj h
            subst h_
            exact WKe.fin (e' := .ret) (by kernel_rfl) (fin_of (g := []) (by first | exact .inl rfl | exact .inr rfl) .nil (by kernel_rfl))
        · refine WK.rs (g := [.s (.t 57) [iv (y24_0.Log.length : Int)], .b true, .b true, .b true, .s (.t 62) [iv (y24_0.Log.length : Int)], .b true, .b true, .b true, .b true, .b true, .b true, .b false, .b false, .b false, .b false, .b false, .b false, .b false, .b false]) (l' := [(.t 2, [bv false])]) (by kernel_rfl) (.cons (c_len (e := TEntry.en) (l := y24_0.Log)) (.cons b26_1 (.cons b26_1 (.cons b26_1 (.cons (c_len (e := TEntry.en) (l := y24_0.Log)) (.cons b26_1 (.cons b26_1 (.cons b26_1 (.cons b26_1 (.cons b26_1 (.cons b26_1 (.cons b26_2 (.cons b26_2 (.cons b26_2 (.cons b26_2 (.cons (Eq.refl false) (.cons (Eq.refl false) (.cons (Eq.refl false) (.cons (Eq.refl false) .nil))))))))))))))))))) (by kernel_rfl) ?_
          refine WK.weak (l := [(.t 2, [bv false])]) (wk_of (by kernel_rfl)) ?_
          refine WK.ret (by kernel_rfl) ?_
          have h_ := some_inj h
          subst h_
          exact WKe.fin (e' := .ret) (by kernel_rfl) (fin_of (g := []) (by first | exact .inl rfl | exact .inr rfl) .nil (by kernel_rfl))
      · refine WK.rs (g := [.s (.t 57) [iv (y24_0.Log.length : Int)], .b false, .b false, .b false, .b false, .b false, .b false, .b false, .b false, .b false, .b false, .b false, .b false, .b false, .b false, .b false, .b false, .b false]) (l' := [(.t 2, [bv false])]) (by kernel_rfl) (.cons (c_len (e := TEntry.en) (l := y24_0.Log)) (.cons b26_1 (.cons b26_1 (.cons b26_1 (.cons b26_1 (.cons b26_1 (.cons b26_1 (.cons b26_1 (.cons b26_1 (.cons b26_1 (.cons (Eq.refl false) (.cons (Eq.refl false) (.cons (Eq.refl false) (.cons (Eq.refl false) (.cons (Eq.refl false) (.cons (Eq.refl false) (.cons (Eq.refl false) (.cons (Eq.refl false) .nil)))))))))))))))))) (by kernel_rfl) ?_
        refine WK.weak (l := [(.t 2, [bv false])]) (wk_of (by kernel_rfl)) ?_
        refine WK.ret (by kernel_rfl) ?_
        have h_ := some_inj h
        subst h_
        exact WKe.fin (e' := .ret) (by kernel_rfl) (fin_of (g := []) (by first | exact .inl rfl | exact .inr rfl) .nil (by kernel_rfl))
    · obtain ⟨⟩ := o24
      obtain ⟨rfl, rfl⟩ := hp_
      have h_ := some_inj h
      subst h_
      exact WKe.fin (e' := .ret) (by kernel_rfl) (fin_of (g := []) (by first | exact .inl rfl | exact .inr rfl) .nil (by kernel_rfl))
end Go.Proofs.Ythpokjkbcdfhiaa.Told
