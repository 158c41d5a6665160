/- Functions of the program told as Lean functions, with the walks of their code in the machine by value. -/
import Derived.Test.YthpokjkbcdfhiaaProg
import Derived.Test.YthpokjkbcdfhiaaVam2
import Derived.Test.YthpokjkbcdfhiaaToldRaftFormsp1
namespace Go.Proofs.Ythpokjkbcdfhiaa.Told
open Go Go.Proofs Go.Proofs.Ythpokjkbcdfhiaa Go.Proofs.Ythpokjkbcdfhiaa.Vam
set_option linter.unusedVariables false
set_option maxRecDepth 100000
/-- slices.Equal[[]diwan/api.Read,diwan/api.Read] -/
noncomputable def bd93 : Code := (Try.f93.body).getD .skip
def slices_Equal_api_Read.O : Nat → Nat := fun t => bif ([4, 5] : List Nat).any (Nat.beq t) then 1 else 0
noncomputable def slices_Equal_api_Read.lp6 (fu : Nat) (l6_0 : List TRead) (l6_1 : List TRead) (l6_2 : Int) : Nat → Int → Option (Unit ⊕ Unit)
  | 0, _ => none
  | n_ + 1, l6_3 =>
    br (decide (l6_3 < l6_2))
      (ix l6_0 l6_3 fun x10_1 =>
      ix l6_1 l6_3 fun x10_4 =>
      br (!((x10_1.Key.toList == x10_4.Key.toList) && ((x10_1.Version == x10_4.Version) && ((x10_1.Val.toList == x10_4.Val.toList) && ((x10_1.There == x10_4.There) && true)))))
        (some (.inr ()))
        (slices_Equal_api_Read.lp6 fu l6_0 l6_1 l6_2 n_ (w64 (l6_3 + 1))))
      (some (.inl ()))
noncomputable def slices_Equal_api_Read.lp6_post (l6_0 : List TRead) (l6_1 : List TRead) (l6_2 : Int) (r_ : (Unit ⊕ Unit)) : Wy → St → Prop := fun e τ => match r_ with
  | .inl _ => e = .exit 0 ∧ τ = ofL []
  | .inr _ => e = .ret ∧ τ = ofL [(.t 4, [bv false])]
theorem slices_Equal_api_Read.lp6_ok (fu : Nat) (l6_0 : List TRead) (l6_1 : List TRead) (l6_2 : Int) : ∀ (n_ : Nat) (l6_3 : Int) (r_ : (Unit ⊕ Unit)), slices_Equal_api_Read.lp6 fu l6_0 l6_1 l6_2 n_ l6_3 = some r_ → WK Try.prog slices_Equal_api_Read.O (Ck Try.prog) (cB (cR (cL (cR (cR bd93))))) [] (ofL [(.t 0, [.data (.slc false none 4 (List.map TRead.en l6_0))]), (.t 1, [.data (.slc false none 4 (List.map TRead.en l6_1))]), (.t 12, [iv l6_2]), (.t 13, [iv l6_3])]) (slices_Equal_api_Read.lp6_post l6_0 l6_1 l6_2 r_) := by
  intro n_
  induction n_ with
  | zero => intro l6_3 r_ h; exact no_none h
  | succ n_ ih =>
    intro l6_3 r_ h
    refine WK.loop (by kernel_rfl) ?_
    refine WK.rs (g := []) (l' := [(.t 0, [.data (.slc false none 4 (List.map TRead.en l6_0))]), (.t 1, [.data (.slc false none 4 (List.map TRead.en l6_1))]), (.t 12, [iv l6_2]), (.t 13, [iv l6_3]), (.t 14, [bv (decide (l6_3 < l6_2))])]) (by kernel_rfl) .nil (by kernel_rfl) ?_
    refine WK.seq (by kernel_rfl) ?_
    rcases br_inv h with ⟨b8_0, h⟩ | ⟨b8_0, h⟩
    · refine WK.ct (b := (decide (l6_3 < l6_2))) (by kernel_rfl) b8_0 ?_
      refine WK.skip (by kernel_rfl) ?_
      refine WKe.code (y := (cR (cR (cB (cB (cR (cL (cR (cR bd93))))))))) (ks' := [.lp (cB (cR (cL (cR (cR bd93)))))]) (by kernel_rfl) ?_
      refine WK.seq (by kernel_rfl) ?_
      refine WK.block (n := 1) (by kernel_rfl) ?_
      refine WK.rs (g := []) (l' := [(.t 0, [.data (.slc false none 4 (List.map TRead.en l6_0))]), (.t 1, [.data (.slc false none 4 (List.map TRead.en l6_1))]), (.t 5, [iv l6_3]), (.t 12, [iv l6_2]), (.t 13, [iv l6_3])]) (by kernel_rfl) .nil (by kernel_rfl) ?_
      obtain ⟨x10_1, a10_2, e10_3, h⟩ := ix_inv h
      obtain ⟨x10_4, a10_5, e10_6, h⟩ := ix_inv h
      refine WK.rs (g := [.c (TRead.en x10_1), .c (TRead.en x10_4)]) (l' := [(.t 0, [.data (.slc false none 4 (List.map TRead.en l6_0))]), (.t 1, [.data (.slc false none 4 (List.map TRead.en l6_1))]), (.t 12, [iv l6_2]), (.t 13, [iv l6_3]), (.t 24, [bv (!((x10_1.Key.toList == x10_4.Key.toList) && ((x10_1.Version == x10_4.Version) && ((x10_1.Val.toList == x10_4.Val.toList) && ((x10_1.There == x10_4.There) && true)))))])]) (by kernel_rfl) (.cons (c_ix (e := TRead.en) a10_2 e10_3) (.cons (c_el (e := TRead.en) e10_3) (.cons (c_ix (e := TRead.en) a10_5 e10_6) (.cons (c_el (e := TRead.en) e10_6) (.cons (Eq.refl true) .nil))))) (by kernel_rfl) ?_
      rcases br_inv h with ⟨b11_0, h⟩ | ⟨b11_0, h⟩
      · refine WK.ct (b := (!((x10_1.Key.toList == x10_4.Key.toList) && ((x10_1.Version == x10_4.Version) && ((x10_1.Val.toList == x10_4.Val.toList) && ((x10_1.There == x10_4.There) && true)))))) (by kernel_rfl) b11_0 ?_
        refine WK.rs (g := []) (l' := [(.t 4, [bv false])]) (by kernel_rfl) .nil (by kernel_rfl) ?_
        refine WK.weak (l := [(.t 4, [bv false])]) (wk_of (by kernel_rfl)) ?_
        refine WK.ret (by kernel_rfl) ?_
        cases some_inj h
        exact WKe.fin (e' := .ret) (by kernel_rfl) ⟨rfl, rfl⟩
      · refine WK.ce (b := (!((x10_1.Key.toList == x10_4.Key.toList) && ((x10_1.Version == x10_4.Version) && ((x10_1.Val.toList == x10_4.Val.toList) && ((x10_1.There == x10_4.There) && true)))))) (by kernel_rfl) b11_0 ?_
        refine WK.skip (by kernel_rfl) ?_
        refine WKe.code (y := (cR (cR (cR (cB (cB (cR (cL (cR (cR bd93)))))))))) (ks' := [.lp (cB (cR (cL (cR (cR bd93)))))]) (by kernel_rfl) ?_
        refine WK.rc (g := []) (l' := [(.t 0, [.data (.slc false none 4 (List.map TRead.en l6_0))]), (.t 1, [.data (.slc false none 4 (List.map TRead.en l6_1))]), (.t 12, [iv l6_2]), (.t 13, [iv (w64 (l6_3 + 1))])]) .nil (by kernel_rfl) (y := (cB (cR (cL (cR (cR bd93)))))) (ks' := []) (by kernel_rfl) ?_
        exact WK.weak (l := [(.t 0, [.data (.slc false none 4 (List.map TRead.en l6_0))]), (.t 1, [.data (.slc false none 4 (List.map TRead.en l6_1))]), (.t 12, [iv l6_2]), (.t 13, [iv (w64 (l6_3 + 1))])]) (wk_of (by kernel_rfl)) (ih (w64 (l6_3 + 1)) _ h)
    · refine WK.ce (b := (decide (l6_3 < l6_2))) (by kernel_rfl) b8_0 ?_
      refine WK.weak (l := []) (wk_of (by kernel_rfl)) ?_
      refine WK.exit (n := 0) (by kernel_rfl) ?_
      cases some_inj h
      exact WKe.fin (e' := .exit 0) (by kernel_rfl) ⟨rfl, rfl⟩
noncomputable def slices_Equal_api_Read (fu : Nat) (s1 : List TRead) (s2 : List TRead) : Option Bool :=
  br ((s1.length : Int) != (s2.length : Int))
    (some false)
    (bd (slices_Equal_api_Read.lp6 fu s1 s2 (s1.length : Int) fu 0) fun o_ => (match o_ with
    | .inl _ =>
      some true
    | .inr _ =>
      some false))
theorem slices_Equal_api_Read.meets (fu : Nat) (s1 : List TRead) (s2 : List TRead) (z0 : Bool) (h : slices_Equal_api_Read fu s1 s2 = some z0) : Meets Try.prog ⟨93, [.data (.slc false none 4 (List.map TRead.en s1)), .data (.slc false none 4 (List.map TRead.en s2))], []⟩ ⟨bv z0, []⟩ := by
  refine meets_of (O := slices_Equal_api_Read.O) hmix (fn := Try.f93) (code := bd93) (by kernel_rfl) ?_
  refine WK.weak (l := [(.t 0, [.data (.slc false none 4 (List.map TRead.en s1))]), (.t 1, [.data (.slc false none 4 (List.map TRead.en s2))])]) (wk_of (by kernel_rfl)) ?_
  unfold slices_Equal_api_Read at h
  refine WK.rs (g := []) (l' := [(.t 0, [.data (.slc false none 4 (List.map TRead.en s1))]), (.t 1, [.data (.slc false none 4 (List.map TRead.en s2))])]) (by kernel_rfl) .nil (by kernel_rfl) ?_
  refine WK.seq (by kernel_rfl) ?_
  refine WK.rs (g := [.s (.t 7) [iv (s1.length : Int)], .s (.t 9) [iv (s2.length : Int)]]) (l' := [(.t 0, [.data (.slc false none 4 (List.map TRead.en s1))]), (.t 1, [.data (.slc false none 4 (List.map TRead.en s2))]), (.t 10, [bv ((s1.length : Int) != (s2.length : Int))])]) (by kernel_rfl) (.cons (c_len (e := TRead.en) (l := s1)) (.cons (c_len (e := TRead.en) (l := s2)) .nil)) (by kernel_rfl) ?_
  rcases br_inv h with ⟨b3_0, h⟩ | ⟨b3_0, h⟩
  · refine WK.ct (b := ((s1.length : Int) != (s2.length : Int))) (by kernel_rfl) b3_0 ?_
    refine WK.rs (g := []) (l' := [(.t 4, [bv false])]) (by kernel_rfl) .nil (by kernel_rfl) ?_
    refine WK.weak (l := [(.t 4, [bv false])]) (wk_of (by kernel_rfl)) ?_
    refine WK.ret (by kernel_rfl) ?_
    have h_ := some_inj h
    subst h_
    exact WKe.fin (e' := .ret) (by kernel_rfl) (fin_of (g := []) (by first | exact .inl rfl | exact .inr rfl) .nil (by kernel_rfl))
  · refine WK.ce (b := ((s1.length : Int) != (s2.length : Int))) (by kernel_rfl) b3_0 ?_
    refine WK.skip (by kernel_rfl) ?_
    refine WKe.code (y := (cR (cR bd93))) (ks' := []) (by kernel_rfl) ?_
    refine WK.seq (by kernel_rfl) ?_
    refine WK.rs (g := [.s (.t 12) [iv (s1.length : Int)]]) (l' := [(.t 0, [.data (.slc false none 4 (List.map TRead.en s1))]), (.t 1, [.data (.slc false none 4 (List.map TRead.en s2))]), (.t 12, [iv (s1.length : Int)]), (.t 13, [iv 0])]) (by kernel_rfl) (.cons (c_len (e := TRead.en) (l := s1)) .nil) (by kernel_rfl) ?_
    refine WK.block (n := 0) (by kernel_rfl) ?_
    obtain ⟨o14, ho14, h⟩ := bd_inv h
    refine WK.weak (l := [(.t 0, [.data (.slc false none 4 (List.map TRead.en s1))]), (.t 1, [.data (.slc false none 4 (List.map TRead.en s2))]), (.t 12, [iv (s1.length : Int)]), (.t 13, [iv 0])]) (wk_of (by kernel_rfl)) ?_
    refine WK.use (slices_Equal_api_Read.lp6_ok fu s1 s2 (s1.length : Int) _ 0 _ ho14) ?_
    intro e_ τ_ hp_
    rcases o14 with o14 | o14
    · obtain ⟨⟩ := o14
      obtain ⟨rfl, rfl⟩ := hp_
      refine WKe.code (y := (cR (cR (cR bd93)))) (ks' := []) (by kernel_rfl) ?_
      refine WK.rs (g := []) (l' := [(.t 4, [bv true])]) (by kernel_rfl) .nil (by kernel_rfl) ?_
      refine WK.weak (l := [(.t 4, [bv true])]) (wk_of (by kernel_rfl)) ?_
      refine WK.ret (by kernel_rfl) ?_
      have h_ := some_inj h
      subst h_
      exact WKe.fin (e' := .ret) (by kernel_rfl) (fin_of (g := []) (by first | exact .inl rfl | exact .inr rfl) .nil (by kernel_rfl))
    · obtain ⟨⟩ := o14
      obtain ⟨rfl, rfl⟩ := hp_
      have h_ := some_inj h
      subst h_
      exact WKe.fin (e' := .ret) (by kernel_rfl) (fin_of (g := []) (by first | exact .inl rfl | exact .inr rfl) .nil (by kernel_rfl))
/-- slices.Equal[[]diwan/api.Write,diwan/api.Write] -/
noncomputable def bd94 : Code := (Try.f94.body).getD .skip
def slices_Equal_api_Write.O : Nat → Nat := fun t => bif ([4, 5] : List Nat).any (Nat.beq t) then 1 else 0
noncomputable def slices_Equal_api_Write.lp6 (fu : Nat) (l6_0 : List TWrite) (l6_1 : List TWrite) (l6_2 : Int) : Nat → Int → Option (Unit ⊕ Unit)
  | 0, _ => none
  | n_ + 1, l6_3 =>
    br (decide (l6_3 < l6_2))
      (ix l6_0 l6_3 fun x10_1 =>
      ix l6_1 l6_3 fun x10_4 =>
      br (!((x10_1.Key.toList == x10_4.Key.toList) && ((x10_1.Val.toList == x10_4.Val.toList) && ((x10_1.Gone == x10_4.Gone) && true))))
        (some (.inr ()))
        (slices_Equal_api_Write.lp6 fu l6_0 l6_1 l6_2 n_ (w64 (l6_3 + 1))))
      (some (.inl ()))
noncomputable def slices_Equal_api_Write.lp6_post (l6_0 : List TWrite) (l6_1 : List TWrite) (l6_2 : Int) (r_ : (Unit ⊕ Unit)) : Wy → St → Prop := fun e τ => match r_ with
  | .inl _ => e = .exit 0 ∧ τ = ofL []
  | .inr _ => e = .ret ∧ τ = ofL [(.t 4, [bv false])]
theorem slices_Equal_api_Write.lp6_ok (fu : Nat) (l6_0 : List TWrite) (l6_1 : List TWrite) (l6_2 : Int) : ∀ (n_ : Nat) (l6_3 : Int) (r_ : (Unit ⊕ Unit)), slices_Equal_api_Write.lp6 fu l6_0 l6_1 l6_2 n_ l6_3 = some r_ → WK Try.prog slices_Equal_api_Write.O (Ck Try.prog) (cB (cR (cL (cR (cR bd94))))) [] (ofL [(.t 0, [.data (.slc false none 3 (List.map TWrite.en l6_0))]), (.t 1, [.data (.slc false none 3 (List.map TWrite.en l6_1))]), (.t 12, [iv l6_2]), (.t 13, [iv l6_3])]) (slices_Equal_api_Write.lp6_post l6_0 l6_1 l6_2 r_) := by
  intro n_
  induction n_ with
  | zero => intro l6_3 r_ h; exact no_none h
  | succ n_ ih =>
    intro l6_3 r_ h
    refine WK.loop (by kernel_rfl) ?_
    refine WK.rs (g := []) (l' := [(.t 0, [.data (.slc false none 3 (List.map TWrite.en l6_0))]), (.t 1, [.data (.slc false none 3 (List.map TWrite.en l6_1))]), (.t 12, [iv l6_2]), (.t 13, [iv l6_3]), (.t 14, [bv (decide (l6_3 < l6_2))])]) (by kernel_rfl) .nil (by kernel_rfl) ?_
    refine WK.seq (by kernel_rfl) ?_
    rcases br_inv h with ⟨b8_0, h⟩ | ⟨b8_0, h⟩
    · refine WK.ct (b := (decide (l6_3 < l6_2))) (by kernel_rfl) b8_0 ?_
      refine WK.skip (by kernel_rfl) ?_
      refine WKe.code (y := (cR (cR (cB (cB (cR (cL (cR (cR bd94))))))))) (ks' := [.lp (cB (cR (cL (cR (cR bd94)))))]) (by kernel_rfl) ?_
      refine WK.seq (by kernel_rfl) ?_
      refine WK.block (n := 1) (by kernel_rfl) ?_
      refine WK.rs (g := []) (l' := [(.t 0, [.data (.slc false none 3 (List.map TWrite.en l6_0))]), (.t 1, [.data (.slc false none 3 (List.map TWrite.en l6_1))]), (.t 5, [iv l6_3]), (.t 12, [iv l6_2]), (.t 13, [iv l6_3])]) (by kernel_rfl) .nil (by kernel_rfl) ?_
      obtain ⟨x10_1, a10_2, e10_3, h⟩ := ix_inv h
      obtain ⟨x10_4, a10_5, e10_6, h⟩ := ix_inv h
      refine WK.rs (g := [.c (TWrite.en x10_1), .c (TWrite.en x10_4)]) (l' := [(.t 0, [.data (.slc false none 3 (List.map TWrite.en l6_0))]), (.t 1, [.data (.slc false none 3 (List.map TWrite.en l6_1))]), (.t 12, [iv l6_2]), (.t 13, [iv l6_3]), (.t 24, [bv (!((x10_1.Key.toList == x10_4.Key.toList) && ((x10_1.Val.toList == x10_4.Val.toList) && ((x10_1.Gone == x10_4.Gone) && true))))])]) (by kernel_rfl) (.cons (c_ix (e := TWrite.en) a10_2 e10_3) (.cons (c_el (e := TWrite.en) e10_3) (.cons (c_ix (e := TWrite.en) a10_5 e10_6) (.cons (c_el (e := TWrite.en) e10_6) (.cons (Eq.refl true) .nil))))) (by kernel_rfl) ?_
      rcases br_inv h with ⟨b11_0, h⟩ | ⟨b11_0, h⟩
      · refine WK.ct (b := (!((x10_1.Key.toList == x10_4.Key.toList) && ((x10_1.Val.toList == x10_4.Val.toList) && ((x10_1.Gone == x10_4.Gone) && true))))) (by kernel_rfl) b11_0 ?_
        refine WK.rs (g := []) (l' := [(.t 4, [bv false])]) (by kernel_rfl) .nil (by kernel_rfl) ?_
        refine WK.weak (l := [(.t 4, [bv false])]) (wk_of (by kernel_rfl)) ?_
        refine WK.ret (by kernel_rfl) ?_
        cases some_inj h
        exact WKe.fin (e' := .ret) (by kernel_rfl) ⟨rfl, rfl⟩
      · refine WK.ce (b := (!((x10_1.Key.toList == x10_4.Key.toList) && ((x10_1.Val.toList == x10_4.Val.toList) && ((x10_1.Gone == x10_4.Gone) && true))))) (by kernel_rfl) b11_0 ?_
        refine WK.skip (by kernel_rfl) ?_
        refine WKe.code (y := (cR (cR (cR (cB (cB (cR (cL (cR (cR bd94)))))))))) (ks' := [.lp (cB (cR (cL (cR (cR bd94)))))]) (by kernel_rfl) ?_
        refine WK.rc (g := []) (l' := [(.t 0, [.data (.slc false none 3 (List.map TWrite.en l6_0))]), (.t 1, [.data (.slc false none 3 (List.map TWrite.en l6_1))]), (.t 12, [iv l6_2]), (.t 13, [iv (w64 (l6_3 + 1))])]) .nil (by kernel_rfl) (y := (cB (cR (cL (cR (cR bd94)))))) (ks' := []) (by kernel_rfl) ?_
        exact WK.weak (l := [(.t 0, [.data (.slc false none 3 (List.map TWrite.en l6_0))]), (.t 1, [.data (.slc false none 3 (List.map TWrite.en l6_1))]), (.t 12, [iv l6_2]), (.t 13, [iv (w64 (l6_3 + 1))])]) (wk_of (by kernel_rfl)) (ih (w64 (l6_3 + 1)) _ h)
    · refine WK.ce (b := (decide (l6_3 < l6_2))) (by kernel_rfl) b8_0 ?_
      refine WK.weak (l := []) (wk_of (by kernel_rfl)) ?_
      refine WK.exit (n := 0) (by kernel_rfl) ?_
      cases some_inj h
      exact WKe.fin (e' := .exit 0) (by kernel_rfl) ⟨rfl, rfl⟩
noncomputable def slices_Equal_api_Write (fu : Nat) (s1 : List TWrite) (s2 : List TWrite) : Option Bool :=
  br ((s1.length : Int) != (s2.length : Int))
    (some false)
    (bd (slices_Equal_api_Write.lp6 fu s1 s2 (s1.length : Int) fu 0) fun o_ => (match o_ with
    | .inl _ =>
      some true
    | .inr _ =>
      some false))
theorem slices_Equal_api_Write.meets (fu : Nat) (s1 : List TWrite) (s2 : List TWrite) (z0 : Bool) (h : slices_Equal_api_Write fu s1 s2 = some z0) : Meets Try.prog ⟨94, [.data (.slc false none 3 (List.map TWrite.en s1)), .data (.slc false none 3 (List.map TWrite.en s2))], []⟩ ⟨bv z0, []⟩ := by
  refine meets_of (O := slices_Equal_api_Write.O) hmix (fn := Try.f94) (code := bd94) (by kernel_rfl) ?_
  refine WK.weak (l := [(.t 0, [.data (.slc false none 3 (List.map TWrite.en s1))]), (.t 1, [.data (.slc false none 3 (List.map TWrite.en s2))])]) (wk_of (by kernel_rfl)) ?_
  unfold slices_Equal_api_Write at h
  refine WK.rs (g := []) (l' := [(.t 0, [.data (.slc false none 3 (List.map TWrite.en s1))]), (.t 1, [.data (.slc false none 3 (List.map TWrite.en s2))])]) (by kernel_rfl) .nil (by kernel_rfl) ?_
  refine WK.seq (by kernel_rfl) ?_
  refine WK.rs (g := [.s (.t 7) [iv (s1.length : Int)], .s (.t 9) [iv (s2.length : Int)]]) (l' := [(.t 0, [.data (.slc false none 3 (List.map TWrite.en s1))]), (.t 1, [.data (.slc false none 3 (List.map TWrite.en s2))]), (.t 10, [bv ((s1.length : Int) != (s2.length : Int))])]) (by kernel_rfl) (.cons (c_len (e := TWrite.en) (l := s1)) (.cons (c_len (e := TWrite.en) (l := s2)) .nil)) (by kernel_rfl) ?_
  rcases br_inv h with ⟨b3_0, h⟩ | ⟨b3_0, h⟩
  · refine WK.ct (b := ((s1.length : Int) != (s2.length : Int))) (by kernel_rfl) b3_0 ?_
    refine WK.rs (g := []) (l' := [(.t 4, [bv false])]) (by kernel_rfl) .nil (by kernel_rfl) ?_
    refine WK.weak (l := [(.t 4, [bv false])]) (wk_of (by kernel_rfl)) ?_
    refine WK.ret (by kernel_rfl) ?_
    have h_ := some_inj h
    subst h_
    exact WKe.fin (e' := .ret) (by kernel_rfl) (fin_of (g := []) (by first | exact .inl rfl | exact .inr rfl) .nil (by kernel_rfl))
  · refine WK.ce (b := ((s1.length : Int) != (s2.length : Int))) (by kernel_rfl) b3_0 ?_
    refine WK.skip (by kernel_rfl) ?_
    refine WKe.code (y := (cR (cR bd94))) (ks' := []) (by kernel_rfl) ?_
    refine WK.seq (by kernel_rfl) ?_
    refine WK.rs (g := [.s (.t 12) [iv (s1.length : Int)]]) (l' := [(.t 0, [.data (.slc false none 3 (List.map TWrite.en s1))]), (.t 1, [.data (.slc false none 3 (List.map TWrite.en s2))]), (.t 12, [iv (s1.length : Int)]), (.t 13, [iv 0])]) (by kernel_rfl) (.cons (c_len (e := TWrite.en) (l := s1)) .nil) (by kernel_rfl) ?_
    refine WK.block (n := 0) (by kernel_rfl) ?_
    obtain ⟨o14, ho14, h⟩ := bd_inv h
    refine WK.weak (l := [(.t 0, [.data (.slc false none 3 (List.map TWrite.en s1))]), (.t 1, [.data (.slc false none 3 (List.map TWrite.en s2))]), (.t 12, [iv (s1.length : Int)]), (.t 13, [iv 0])]) (wk_of (by kernel_rfl)) ?_
    refine WK.use (slices_Equal_api_Write.lp6_ok fu s1 s2 (s1.length : Int) _ 0 _ ho14) ?_
    intro e_ τ_ hp_
    rcases o14 with o14 | o14
    · obtain ⟨⟩ := o14
      obtain ⟨rfl, rfl⟩ := hp_
      refine WKe.code (y := (cR (cR (cR bd94)))) (ks' := []) (by kernel_rfl) ?_
      refine WK.rs (g := []) (l' := [(.t 4, [bv true])]) (by kernel_rfl) .nil (by kernel_rfl) ?_
      refine WK.weak (l := [(.t 4, [bv true])]) (wk_of (by kernel_rfl)) ?_
      refine WK.ret (by kernel_rfl) ?_
      have h_ := some_inj h
      subst h_
      exact WKe.fin (e' := .ret) (by kernel_rfl) (fin_of (g := []) (by first | exact .inl rfl | exact .inr rfl) .nil (by kernel_rfl))
    · obtain ⟨⟩ := o14
      obtain ⟨rfl, rfl⟩ := hp_
      have h_ := some_inj h
      subst h_
      exact WKe.fin (e' := .ret) (by kernel_rfl) (fin_of (g := []) (by first | exact .inl rfl | exact .inr rfl) .nil (by kernel_rfl))
/-- diwan/ulog.same -/
noncomputable def bd70 : Code := (Try.f70.body).getD .skip
def ulog_same.O : Nat → Nat := fun t => bif ([2, 3, 4] : List Nat).any (Nat.beq t) then 1 else 0
noncomputable def ulog_same (fu : Nat) (a : TEntry) (b : TEntry) : Option Bool :=
  br (a.Term == b.Term)
    (br (a.Seal == b.Seal)
      (br (a.T.Session == b.T.Session)
        (br (a.T.Seq == b.T.Seq)
          (bd (slices_Equal_api_Read fu a.T.Reads b.T.Reads) fun r2_5 =>
          br r2_5
            (bd (slices_Equal_api_Write fu a.T.Writes b.T.Writes) fun r2_8 =>
            some r2_8)
            (some false))
          (some false))
        (some false))
      (some false))
    (some false)
theorem ulog_same.meets (fu : Nat) (a : TEntry) (b : TEntry) (z0 : Bool) (h : ulog_same fu a b = some z0) : Meets Try.prog ⟨70, [.data (TEntry.ag a), .data (TEntry.ag b)], []⟩ ⟨bv z0, []⟩ := by
  refine meets_of (O := ulog_same.O) hmix (fn := Try.f70) (code := bd70) (by kernel_rfl) ?_
  refine WK.weak (l := [(.t 0, [.data (TEntry.ag a)]), (.t 1, [.data (TEntry.ag b)])]) (wk_of (by kernel_rfl)) ?_
  unfold ulog_same at h
  refine WK.rs (g := []) (l' := [(.t 2, [.ptr 2 0]), (.t 3, [.ptr 3 0]), (.o 2, (TEntry.ob a)), (.o 3, (TEntry.ob b))]) (by kernel_rfl) .nil (by kernel_rfl) ?_
  rcases br_inv h with ⟨b2_1, h⟩ | ⟨b2_1, h⟩
  · rcases br_inv h with ⟨b2_2, h⟩ | ⟨b2_2, h⟩
    · rcases br_inv h with ⟨b2_3, h⟩ | ⟨b2_3, h⟩
      · rcases br_inv h with ⟨b2_4, h⟩ | ⟨b2_4, h⟩
        · obtain ⟨r2_5, h2_6, h⟩ := bd_inv h
          rcases br_inv h with ⟨b2_7, h⟩ | ⟨b2_7, h⟩
          · obtain ⟨r2_8, h2_9, h⟩ := bd_inv h
            refine WK.rs (g := [.b true, .b true, .b true, .b true, .b true, .b true, .b true, .b true, .b true, .b true, .b true, .b true, .b true, .b true, .b true, .b true, .b true, .b true, .b true, .b true, .b true, .b true, .b true, .b true, .b true, .b true, .b true, .b true, .b true, .a ⟨bv r2_5, []⟩, .b true, .b true, .b true, .b true, .b true, .b true, .b true, .b true, .a ⟨bv r2_8, []⟩, .b true]) (l' := [(.t 4, [bv r2_8])]) (by kernel_rfl) (.cons b2_1 (.cons b2_1 (.cons b2_1 (.cons b2_1 (.cons b2_1 (.cons b2_1 (.cons b2_2 (.cons b2_2 (.cons b2_2 (.cons b2_2 (.cons b2_2 (.cons b2_2 (.cons b2_2 (.cons b2_2 (.cons b2_3 (.cons b2_3 (.cons b2_3 (.cons b2_3 (.cons b2_3 (.cons b2_3 (.cons b2_3 (.cons b2_3 (.cons b2_4 (.cons b2_4 (.cons b2_4 (.cons b2_4 (.cons b2_4 (.cons b2_4 (.cons b2_4 (.cons (Asks.of (C := Meets Try.prog) (slices_Equal_api_Read.meets fu a.T.Reads b.T.Reads _ h2_6)) (.cons b2_4 (.cons b2_7 (.cons b2_7 (.cons b2_7 (.cons b2_7 (.cons b2_7 (.cons b2_7 (.cons b2_7 (.cons (Asks.of (C := Meets Try.prog) (slices_Equal_api_Write.meets fu a.T.Writes b.T.Writes _ h2_9)) (.cons b2_7 .nil)))))))))))))))))))))))))))))))))))))))) (by kernel_rfl) ?_
            refine WK.weak (l := [(.t 4, [bv r2_8])]) (wk_of (by kernel_rfl)) ?_
            refine WK.ret (by kernel_rfl) ?_
            have h_ := some_inj h
            subst h_
            exact WKe.fin (e' := .ret) (by kernel_rfl) (fin_of (g := []) (by first | exact .inl rfl | exact .inr rfl) .nil (by kernel_rfl))
          · refine WK.rs (g := [.b true, .b true, .b true, .b true, .b true, .b true, .b true, .b true, .b true, .b true, .b true, .b true, .b true, .b true, .b true, .b true, .b true, .b true, .b true, .b true, .b true, .b true, .b true, .b true, .b true, .b true, .b true, .b true, .b true, .a ⟨bv r2_5, []⟩, .b true, .b false, .b false, .b false, .b false, .b false, .b false, .b false, .b false]) (l' := [(.t 4, [bv false])]) (by kernel_rfl) (.cons b2_1 (.cons b2_1 (.cons b2_1 (.cons b2_1 (.cons b2_1 (.cons b2_1 (.cons b2_2 (.cons b2_2 (.cons b2_2 (.cons b2_2 (.cons b2_2 (.cons b2_2 (.cons b2_2 (.cons b2_2 (.cons b2_3 (.cons b2_3 (.cons b2_3 (.cons b2_3 (.cons b2_3 (.cons b2_3 (.cons b2_3 (.cons b2_3 (.cons b2_4 (.cons b2_4 (.cons b2_4 (.cons b2_4 (.cons b2_4 (.cons b2_4 (.cons b2_4 (.cons (Asks.of (C := Meets Try.prog) (slices_Equal_api_Read.meets fu a.T.Reads b.T.Reads _ h2_6)) (.cons b2_4 (.cons b2_7 (.cons b2_7 (.cons b2_7 (.cons b2_7 (.cons b2_7 (.cons b2_7 (.cons b2_7 (.cons b2_7 .nil))))))))))))))))))))))))))))))))))))))) (by kernel_rfl) ?_
            refine WK.weak (l := [(.t 4, [bv false])]) (wk_of (by kernel_rfl)) ?_
            refine WK.ret (by kernel_rfl) ?_
            have h_ := some_inj h
            subst h_
            exact WKe.fin (e' := .ret) (by kernel_rfl) (fin_of (g := []) (by first | exact .inl rfl | exact .inr rfl) .nil (by kernel_rfl))
        · refine WK.rs (g := [.b true, .b true, .b true, .b true, .b true, .b true, .b true, .b true, .b true, .b true, .b true, .b true, .b true, .b true, .b true, .b true, .b true, .b true, .b true, .b true, .b true, .b true, .b false, .b false, .b false, .b false, .b false, .b false, .b false, .b false, .b false, .b false, .b false, .b false, .b false, .b false, .b false, .b false]) (l' := [(.t 4, [bv false])]) (by kernel_rfl) (.cons b2_1 (.cons b2_1 (.cons b2_1 (.cons b2_1 (.cons b2_1 (.cons b2_1 (.cons b2_2 (.cons b2_2 (.cons b2_2 (.cons b2_2 (.cons b2_2 (.cons b2_2 (.cons b2_2 (.cons b2_2 (.cons b2_3 (.cons b2_3 (.cons b2_3 (.cons b2_3 (.cons b2_3 (.cons b2_3 (.cons b2_3 (.cons b2_3 (.cons b2_4 (.cons b2_4 (.cons b2_4 (.cons b2_4 (.cons b2_4 (.cons b2_4 (.cons b2_4 (.cons b2_4 (.cons (Eq.refl false) (.cons (Eq.refl false) (.cons (Eq.refl false) (.cons (Eq.refl false) (.cons (Eq.refl false) (.cons (Eq.refl false) (.cons (Eq.refl false) (.cons (Eq.refl false) .nil)))))))))))))))))))))))))))))))))))))) (by kernel_rfl) ?_
          refine WK.weak (l := [(.t 4, [bv false])]) (wk_of (by kernel_rfl)) ?_
          refine WK.ret (by kernel_rfl) ?_
          have h_ := some_inj h
          subst h_
          exact WKe.fin (e' := .ret) (by kernel_rfl) (fin_of (g := []) (by first | exact .inl rfl | exact .inr rfl) .nil (by kernel_rfl))
      · refine WK.rs (g := [.b true, .b true, .b true, .b true, .b true, .b true, .b true, .b true, .b true, .b true, .b true, .b true, .b true, .b true, .b false, .b false, .b false, .b false, .b false, .b false, .b false, .b false, .b false, .b false, .b false, .b false, .b false, .b false, .b false, .b false, .b false, .b false, .b false, .b false, .b false, .b false, .b false, .b false]) (l' := [(.t 4, [bv false])]) (by kernel_rfl) (.cons b2_1 (.cons b2_1 (.cons b2_1 (.cons b2_1 (.cons b2_1 (.cons b2_1 (.cons b2_2 (.cons b2_2 (.cons b2_2 (.cons b2_2 (.cons b2_2 (.cons b2_2 (.cons b2_2 (.cons b2_2 (.cons b2_3 (.cons b2_3 (.cons b2_3 (.cons b2_3 (.cons b2_3 (.cons b2_3 (.cons b2_3 (.cons b2_3 (.cons (Eq.refl false) (.cons (Eq.refl false) (.cons (Eq.refl false) (.cons (Eq.refl false) (.cons (Eq.refl false) (.cons (Eq.refl false) (.cons (Eq.refl false) (.cons (Eq.refl false) (.cons (Eq.refl false) (.cons (Eq.refl false) (.cons (Eq.refl false) (.cons (Eq.refl false) (.cons (Eq.refl false) (.cons (Eq.refl false) (.cons (Eq.refl false) (.cons (Eq.refl false) .nil)))))))))))))))))))))))))))))))))))))) (by kernel_rfl) ?_
        refine WK.weak (l := [(.t 4, [bv false])]) (wk_of (by kernel_rfl)) ?_
        refine WK.ret (by kernel_rfl) ?_
        have h_ := some_inj h
        subst h_
        exact WKe.fin (e' := .ret) (by kernel_rfl) (fin_of (g := []) (by first | exact .inl rfl | exact .inr rfl) .nil (by kernel_rfl))
    · refine WK.rs (g := [.b true, .b true, .b true, .b true, .b true, .b true, .b false, .b false, .b false, .b false, .b false, .b false, .b false, .b false, .b false, .b false, .b false, .b false, .b false, .b false, .b false, .b false, .b false, .b false, .b false, .b false, .b false, .b false, .b false, .b false, .b false, .b false, .b false, .b false, .b false, .b false, .b false, .b false]) (l' := [(.t 4, [bv false])]) (by kernel_rfl) (.cons b2_1 (.cons b2_1 (.cons b2_1 (.cons b2_1 (.cons b2_1 (.cons b2_1 (.cons b2_2 (.cons b2_2 (.cons b2_2 (.cons b2_2 (.cons b2_2 (.cons b2_2 (.cons b2_2 (.cons b2_2 (.cons (Eq.refl false) (.cons (Eq.refl false) (.cons (Eq.refl false) (.cons (Eq.refl false) (.cons (Eq.refl false) (.cons (Eq.refl false) (.cons (Eq.refl false) (.cons (Eq.refl false) (.cons (Eq.refl false) (.cons (Eq.refl false) (.cons (Eq.refl false) (.cons (Eq.refl false) (.cons (Eq.refl false) (.cons (Eq.refl false) (.cons (Eq.refl false) (.cons (Eq.refl false) (.cons (Eq.refl false) (.cons (Eq.refl false) (.cons (Eq.refl false) (.cons (Eq.refl false) (.cons (Eq.refl false) (.cons (Eq.refl false) (.cons (Eq.refl false) (.cons (Eq.refl false) .nil)))))))))))))))))))))))))))))))))))))) (by kernel_rfl) ?_
      refine WK.weak (l := [(.t 4, [bv false])]) (wk_of (by kernel_rfl)) ?_
      refine WK.ret (by kernel_rfl) ?_
      have h_ := some_inj h
      subst h_
      exact WKe.fin (e' := .ret) (by kernel_rfl) (fin_of (g := []) (by first | exact .inl rfl | exact .inr rfl) .nil (by kernel_rfl))
  · refine WK.rs (g := [.b false, .b false, .b false, .b false, .b false, .b false, .b false, .b false, .b false, .b false, .b false, .b false, .b false, .b false, .b false, .b false, .b false, .b false, .b false, .b false, .b false, .b false, .b false, .b false, .b false, .b false, .b false, .b false, .b false, .b false, .b false, .b false, .b false, .b false, .b false, .b false, .b false, .b false]) (l' := [(.t 4, [bv false])]) (by kernel_rfl) (.cons b2_1 (.cons b2_1 (.cons b2_1 (.cons b2_1 (.cons b2_1 (.cons b2_1 (.cons (Eq.refl false) (.cons (Eq.refl false) (.cons (Eq.refl false) (.cons (Eq.refl false) (.cons (Eq.refl false) (.cons (Eq.refl false) (.cons (Eq.refl false) (.cons (Eq.refl false) (.cons (Eq.refl false) (.cons (Eq.refl false) (.cons (Eq.refl false) (.cons (Eq.refl false) (.cons (Eq.refl false) (.cons (Eq.refl false) (.cons (Eq.refl false) (.cons (Eq.refl false) (.cons (Eq.refl false) (.cons (Eq.refl false) (.cons (Eq.refl false) (.cons (Eq.refl false) (.cons (Eq.refl false) (.cons (Eq.refl false) (.cons (Eq.refl false) (.cons (Eq.refl false) (.cons (Eq.refl false) (.cons (Eq.refl false) (.cons (Eq.refl false) (.cons (Eq.refl false) (.cons (Eq.refl false) (.cons (Eq.refl false) (.cons (Eq.refl false) (.cons (Eq.refl false) .nil)))))))))))))))))))))))))))))))))))))) (by kernel_rfl) ?_
    refine WK.weak (l := [(.t 4, [bv false])]) (wk_of (by kernel_rfl)) ?_
    refine WK.ret (by kernel_rfl) ?_
    have h_ := some_inj h
    subst h_
    exact WKe.fin (e' := .ret) (by kernel_rfl) (fin_of (g := []) (by first | exact .inl rfl | exact .inr rfl) .nil (by kernel_rfl))
/-- slices.EqualFunc[[]diwan/api.Entry,[]diwan/api.Entry,diwan/api.Entry,diwan/api.Entry] -/
noncomputable def bd69 : Code := (Try.f69.body).getD .skip
def slices_EqualFunc_api_Entry.O : Nat → Nat := fun t => bif ([6, 7, 8, 9] : List Nat).any (Nat.beq t) then 1 else 0
noncomputable def slices_EqualFunc_api_Entry.lp6 (fu : Nat) (l6_0 : List TEntry) (l6_1 : List TEntry) (l6_2 : Int) : Nat → Int → Option (Unit ⊕ Unit)
  | 0, _ => none
  | n_ + 1, l6_3 =>
    br (decide (l6_3 < l6_2))
      (ix l6_1 l6_3 fun x9_1 =>
      ix l6_0 l6_3 fun x10_1 =>
      bd (ulog_same fu x9_1 x10_1) fun r11_1 =>
      br (!r11_1)
        (some (.inr ()))
        (slices_EqualFunc_api_Entry.lp6 fu l6_0 l6_1 l6_2 n_ (w64 (l6_3 + 1))))
      (some (.inl ()))
noncomputable def slices_EqualFunc_api_Entry.lp6_post (l6_0 : List TEntry) (l6_1 : List TEntry) (l6_2 : Int) (r_ : (Unit ⊕ Unit)) : Wy → St → Prop := fun e τ => match r_ with
  | .inl _ => e = .exit 0 ∧ τ = ofL []
  | .inr _ => e = .ret ∧ τ = ofL [(.t 6, [bv false])]
theorem slices_EqualFunc_api_Entry.lp6_ok (fu : Nat) (l6_0 : List TEntry) (l6_1 : List TEntry) (l6_2 : Int) : ∀ (n_ : Nat) (l6_3 : Int) (r_ : (Unit ⊕ Unit)), slices_EqualFunc_api_Entry.lp6 fu l6_0 l6_1 l6_2 n_ l6_3 = some r_ → WK Try.prog slices_EqualFunc_api_Entry.O (Ck Try.prog) (cB (cR (cL (cR (cR bd69))))) [] (ofL [(.t 1, [.data (.slc false none 6 (List.map TEntry.en l6_0))]), (.t 2, [.fn (.func 70) [] []]), (.t 15, [.data (.slc false none 6 (List.map TEntry.en l6_1))]), (.t 16, [iv l6_2]), (.t 17, [iv l6_3])]) (slices_EqualFunc_api_Entry.lp6_post l6_0 l6_1 l6_2 r_) := by
  intro n_
  induction n_ with
  | zero => intro l6_3 r_ h; exact no_none h
  | succ n_ ih =>
    intro l6_3 r_ h
    refine WK.loop (by kernel_rfl) ?_
    refine WK.rs (g := []) (l' := [(.t 1, [.data (.slc false none 6 (List.map TEntry.en l6_0))]), (.t 2, [.fn (.func 70) [] []]), (.t 15, [.data (.slc false none 6 (List.map TEntry.en l6_1))]), (.t 16, [iv l6_2]), (.t 17, [iv l6_3]), (.t 18, [bv (decide (l6_3 < l6_2))])]) (by kernel_rfl) .nil (by kernel_rfl) ?_
    refine WK.seq (by kernel_rfl) ?_
    rcases br_inv h with ⟨b8_0, h⟩ | ⟨b8_0, h⟩
    · refine WK.ct (b := (decide (l6_3 < l6_2))) (by kernel_rfl) b8_0 ?_
      refine WK.skip (by kernel_rfl) ?_
      refine WKe.code (y := (cR (cR (cB (cB (cR (cL (cR (cR bd69))))))))) (ks' := [.lp (cB (cR (cL (cR (cR bd69)))))]) (by kernel_rfl) ?_
      refine WK.seq (by kernel_rfl) ?_
      refine WK.block (n := 1) (by kernel_rfl) ?_
      obtain ⟨x9_1, a9_2, e9_3, h⟩ := ix_inv h
      refine WK.rs (g := [.c (TEntry.en x9_1)]) (l' := [(.t 1, [.data (.slc false none 6 (List.map TEntry.en l6_0))]), (.t 2, [.fn (.func 70) [] []]), (.t 7, [iv l6_3]), (.t 8, [.ptr 8 0]), (.t 15, [.data (.slc false none 6 (List.map TEntry.en l6_1))]), (.t 16, [iv l6_2]), (.t 17, [iv l6_3]), (.o 8, (TEntry.ob x9_1))]) (by kernel_rfl) (.cons (c_ix (e := TEntry.en) a9_2 e9_3) (.cons (c_el (e := TEntry.en) e9_3) .nil)) (by kernel_rfl) ?_
      obtain ⟨x10_1, a10_2, e10_3, h⟩ := ix_inv h
      refine WK.rs (g := [.c (TEntry.en x10_1)]) (l' := [(.t 1, [.data (.slc false none 6 (List.map TEntry.en l6_0))]), (.t 2, [.fn (.func 70) [] []]), (.t 8, [.ptr 8 0]), (.t 9, [.ptr 9 0]), (.t 15, [.data (.slc false none 6 (List.map TEntry.en l6_1))]), (.t 16, [iv l6_2]), (.t 17, [iv l6_3]), (.o 8, (TEntry.ob x9_1)), (.o 9, (TEntry.ob x10_1))]) (by kernel_rfl) (.cons (c_ix (e := TEntry.en) a10_2 e10_3) (.cons (c_el (e := TEntry.en) e10_3) .nil)) (by kernel_rfl) ?_
      obtain ⟨r11_1, h11_2, h⟩ := bd_inv h
      refine WK.rs (g := [.a ⟨bv r11_1, []⟩]) (l' := [(.t 1, [.data (.slc false none 6 (List.map TEntry.en l6_0))]), (.t 2, [.fn (.func 70) [] []]), (.t 15, [.data (.slc false none 6 (List.map TEntry.en l6_1))]), (.t 16, [iv l6_2]), (.t 17, [iv l6_3]), (.t 30, [bv (!r11_1)])]) (by kernel_rfl) (.cons (Asks.of (C := Meets Try.prog) (ulog_same.meets fu x9_1 x10_1 _ h11_2)) .nil) (by kernel_rfl) ?_
      rcases br_inv h with ⟨b12_0, h⟩ | ⟨b12_0, h⟩
      · refine WK.ct (b := (!r11_1)) (by kernel_rfl) b12_0 ?_
        refine WK.rs (g := []) (l' := [(.t 6, [bv false])]) (by kernel_rfl) .nil (by kernel_rfl) ?_
        refine WK.weak (l := [(.t 6, [bv false])]) (wk_of (by kernel_rfl)) ?_
        refine WK.ret (by kernel_rfl) ?_
        cases some_inj h
        exact WKe.fin (e' := .ret) (by kernel_rfl) ⟨rfl, rfl⟩
      · refine WK.ce (b := (!r11_1)) (by kernel_rfl) b12_0 ?_
        refine WK.skip (by kernel_rfl) ?_
        refine WKe.code (y := (cR (cR (cR (cB (cB (cR (cL (cR (cR bd69)))))))))) (ks' := [.lp (cB (cR (cL (cR (cR bd69)))))]) (by kernel_rfl) ?_
        refine WK.rc (g := []) (l' := [(.t 1, [.data (.slc false none 6 (List.map TEntry.en l6_0))]), (.t 2, [.fn (.func 70) [] []]), (.t 15, [.data (.slc false none 6 (List.map TEntry.en l6_1))]), (.t 16, [iv l6_2]), (.t 17, [iv (w64 (l6_3 + 1))])]) .nil (by kernel_rfl) (y := (cB (cR (cL (cR (cR bd69)))))) (ks' := []) (by kernel_rfl) ?_
        exact WK.weak (l := [(.t 1, [.data (.slc false none 6 (List.map TEntry.en l6_0))]), (.t 2, [.fn (.func 70) [] []]), (.t 15, [.data (.slc false none 6 (List.map TEntry.en l6_1))]), (.t 16, [iv l6_2]), (.t 17, [iv (w64 (l6_3 + 1))])]) (wk_of (by kernel_rfl)) (ih (w64 (l6_3 + 1)) _ h)
    · refine WK.ce (b := (decide (l6_3 < l6_2))) (by kernel_rfl) b8_0 ?_
      refine WK.weak (l := []) (wk_of (by kernel_rfl)) ?_
      refine WK.exit (n := 0) (by kernel_rfl) ?_
      cases some_inj h
      exact WKe.fin (e' := .exit 0) (by kernel_rfl) ⟨rfl, rfl⟩
noncomputable def slices_EqualFunc_api_Entry (fu : Nat) (s1 : List TEntry) (s2 : List TEntry) : Option Bool :=
  br ((s1.length : Int) != (s2.length : Int))
    (some false)
    (bd (slices_EqualFunc_api_Entry.lp6 fu s2 s1 (s1.length : Int) fu 0) fun o_ => (match o_ with
    | .inl _ =>
      some true
    | .inr _ =>
      some false))
theorem slices_EqualFunc_api_Entry.meets (fu : Nat) (s1 : List TEntry) (s2 : List TEntry) (z0 : Bool) (h : slices_EqualFunc_api_Entry fu s1 s2 = some z0) : Meets Try.prog ⟨69, [.data (.slc false none 6 (List.map TEntry.en s1)), .data (.slc false none 6 (List.map TEntry.en s2)), .fn (.func 70) [] []], []⟩ ⟨bv z0, []⟩ := by
  refine meets_of (O := slices_EqualFunc_api_Entry.O) hmix (fn := Try.f69) (code := bd69) (by kernel_rfl) ?_
  refine WK.weak (l := [(.t 0, [.data (.slc false none 6 (List.map TEntry.en s1))]), (.t 1, [.data (.slc false none 6 (List.map TEntry.en s2))]), (.t 2, [.fn (.func 70) [] []])]) (wk_of (by kernel_rfl)) ?_
  unfold slices_EqualFunc_api_Entry at h
  refine WK.rs (g := []) (l' := [(.t 0, [.data (.slc false none 6 (List.map TEntry.en s1))]), (.t 1, [.data (.slc false none 6 (List.map TEntry.en s2))]), (.t 2, [.fn (.func 70) [] []])]) (by kernel_rfl) .nil (by kernel_rfl) ?_
  refine WK.seq (by kernel_rfl) ?_
  refine WK.rs (g := [.s (.t 11) [iv (s1.length : Int)], .s (.t 13) [iv (s2.length : Int)]]) (l' := [(.t 0, [.data (.slc false none 6 (List.map TEntry.en s1))]), (.t 1, [.data (.slc false none 6 (List.map TEntry.en s2))]), (.t 2, [.fn (.func 70) [] []]), (.t 14, [bv ((s1.length : Int) != (s2.length : Int))])]) (by kernel_rfl) (.cons (c_len (e := TEntry.en) (l := s1)) (.cons (c_len (e := TEntry.en) (l := s2)) .nil)) (by kernel_rfl) ?_
  rcases br_inv h with ⟨b3_0, h⟩ | ⟨b3_0, h⟩
  · refine WK.ct (b := ((s1.length : Int) != (s2.length : Int))) (by kernel_rfl) b3_0 ?_
    refine WK.rs (g := []) (l' := [(.t 6, [bv false])]) (by kernel_rfl) .nil (by kernel_rfl) ?_
    refine WK.weak (l := [(.t 6, [bv false])]) (wk_of (by kernel_rfl)) ?_
    refine WK.ret (by kernel_rfl) ?_
    have h_ := some_inj h
    subst h_
    exact WKe.fin (e' := .ret) (by kernel_rfl) (fin_of (g := []) (by first | exact .inl rfl | exact .inr rfl) .nil (by kernel_rfl))
  · refine WK.ce (b := ((s1.length : Int) != (s2.length : Int))) (by kernel_rfl) b3_0 ?_
    refine WK.skip (by kernel_rfl) ?_
    refine WKe.code (y := (cR (cR bd69))) (ks' := []) (by kernel_rfl) ?_
    refine WK.seq (by kernel_rfl) ?_
    refine WK.rs (g := [.s (.t 16) [iv (s1.length : Int)]]) (l' := [(.t 1, [.data (.slc false none 6 (List.map TEntry.en s2))]), (.t 2, [.fn (.func 70) [] []]), (.t 15, [.data (.slc false none 6 (List.map TEntry.en s1))]), (.t 16, [iv (s1.length : Int)]), (.t 17, [iv 0])]) (by kernel_rfl) (.cons (c_len (e := TEntry.en) (l := s1)) .nil) (by kernel_rfl) ?_
    refine WK.block (n := 0) (by kernel_rfl) ?_
    obtain ⟨o15, ho15, h⟩ := bd_inv h
    refine WK.weak (l := [(.t 1, [.data (.slc false none 6 (List.map TEntry.en s2))]), (.t 2, [.fn (.func 70) [] []]), (.t 15, [.data (.slc false none 6 (List.map TEntry.en s1))]), (.t 16, [iv (s1.length : Int)]), (.t 17, [iv 0])]) (wk_of (by kernel_rfl)) ?_
    refine WK.use (slices_EqualFunc_api_Entry.lp6_ok fu s2 s1 (s1.length : Int) _ 0 _ ho15) ?_
    intro e_ τ_ hp_
    rcases o15 with o15 | o15
    · obtain ⟨⟩ := o15
      obtain ⟨rfl, rfl⟩ := hp_
      refine WKe.code (y := (cR (cR (cR bd69)))) (ks' := []) (by kernel_rfl) ?_
      refine WK.rs (g := []) (l' := [(.t 6, [bv true])]) (by kernel_rfl) .nil (by kernel_rfl) ?_
      refine WK.weak (l := [(.t 6, [bv true])]) (wk_of (by kernel_rfl)) ?_
      refine WK.ret (by kernel_rfl) ?_
      have h_ := some_inj h
      subst h_
      exact WKe.fin (e' := .ret) (by kernel_rfl) (fin_of (g := []) (by first | exact .inl rfl | exact .inr rfl) .nil (by kernel_rfl))
    · obtain ⟨⟩ := o15
      obtain ⟨rfl, rfl⟩ := hp_
      have h_ := some_inj h
      subst h_
      exact WKe.fin (e' := .ret) (by kernel_rfl) (fin_of (g := []) (by first | exact .inl rfl | exact .inr rfl) .nil (by kernel_rfl))
/-- diwan/ulog.Same -/
noncomputable def bd42 : Code := (Try.f42.body).getD .skip
def ulog_Same.O : Nat → Nat := fun t => bif ([4] : List Nat).any (Nat.beq t) then 1 else 0
noncomputable def ulog_Same (fu : Nat) (a : List TEntry) (b : List TEntry) : Option Bool :=
  bd (slices_EqualFunc_api_Entry fu a b) fun r2_1 =>
  some r2_1
theorem ulog_Same.meets (fu : Nat) (a : List TEntry) (b : List TEntry) (z0 : Bool) (h : ulog_Same fu a b = some z0) : Meets Try.prog ⟨42, [.data (.slc false none 6 (List.map TEntry.en a)), .data (.slc false none 6 (List.map TEntry.en b))], []⟩ ⟨bv z0, []⟩ := by
  refine meets_of (O := ulog_Same.O) hmix (fn := Try.f42) (code := bd42) (by kernel_rfl) ?_
  refine WK.weak (l := [(.t 0, [.data (.slc false none 6 (List.map TEntry.en a))]), (.t 1, [.data (.slc false none 6 (List.map TEntry.en b))])]) (wk_of (by kernel_rfl)) ?_
  unfold ulog_Same at h
  refine WK.rs (g := []) (l' := [(.t 0, [.data (.slc false none 6 (List.map TEntry.en a))]), (.t 1, [.data (.slc false none 6 (List.map TEntry.en b))])]) (by kernel_rfl) .nil (by kernel_rfl) ?_
  obtain ⟨r2_1, h2_2, h⟩ := bd_inv h
  refine WK.rs (g := [.a ⟨bv r2_1, []⟩]) (l' := [(.t 4, [bv r2_1])]) (by kernel_rfl) (.cons (Asks.of (C := Meets Try.prog) (slices_EqualFunc_api_Entry.meets fu a b _ h2_2)) .nil) (by kernel_rfl) ?_
  refine WK.weak (l := [(.t 4, [bv r2_1])]) (wk_of (by kernel_rfl)) ?_
  refine WK.ret (by kernel_rfl) ?_
  have h_ := some_inj h
  subst h_
  exact WKe.fin (e' := .ret) (by kernel_rfl) (fin_of (g := []) (by first | exact .inl rfl | exact .inr rfl) .nil (by kernel_rfl))
/-- slices.Equal[[]bool,bool] -/
noncomputable def bd43 : Code := (Try.f43.body).getD .skip
def slices_Equal_bool_bool.O : Nat → Nat := fun t => bif ([4, 5] : List Nat).any (Nat.beq t) then 1 else 0
noncomputable def slices_Equal_bool_bool.lp6 (fu : Nat) (l6_0 : List Bool) (l6_1 : List Bool) (l6_2 : Int) : Nat → Int → Option (Unit ⊕ Unit)
  | 0, _ => none
  | n_ + 1, l6_3 =>
    br (decide (l6_3 < l6_2))
      (ix l6_0 l6_3 fun x10_1 =>
      ix l6_1 l6_3 fun x10_4 =>
      br (!(x10_1 == x10_4))
        (some (.inr ()))
        (slices_Equal_bool_bool.lp6 fu l6_0 l6_1 l6_2 n_ (w64 (l6_3 + 1))))
      (some (.inl ()))
noncomputable def slices_Equal_bool_bool.lp6_post (l6_0 : List Bool) (l6_1 : List Bool) (l6_2 : Int) (r_ : (Unit ⊕ Unit)) : Wy → St → Prop := fun e τ => match r_ with
  | .inl _ => e = .exit 0 ∧ τ = ofL []
  | .inr _ => e = .ret ∧ τ = ofL [(.t 4, [bv false])]
theorem slices_Equal_bool_bool.lp6_ok (fu : Nat) (l6_0 : List Bool) (l6_1 : List Bool) (l6_2 : Int) : ∀ (n_ : Nat) (l6_3 : Int) (r_ : (Unit ⊕ Unit)), slices_Equal_bool_bool.lp6 fu l6_0 l6_1 l6_2 n_ l6_3 = some r_ → WK Try.prog slices_Equal_bool_bool.O (Ck Try.prog) (cB (cR (cL (cR (cR bd43))))) [] (ofL [(.t 0, [.data (.slc false none 1 (List.map e_b l6_0))]), (.t 1, [.data (.slc false none 1 (List.map e_b l6_1))]), (.t 12, [iv l6_2]), (.t 13, [iv l6_3])]) (slices_Equal_bool_bool.lp6_post l6_0 l6_1 l6_2 r_) := by
  intro n_
  induction n_ with
  | zero => intro l6_3 r_ h; exact no_none h
  | succ n_ ih =>
    intro l6_3 r_ h
    refine WK.loop (by kernel_rfl) ?_
    refine WK.rs (g := []) (l' := [(.t 0, [.data (.slc false none 1 (List.map e_b l6_0))]), (.t 1, [.data (.slc false none 1 (List.map e_b l6_1))]), (.t 12, [iv l6_2]), (.t 13, [iv l6_3]), (.t 14, [bv (decide (l6_3 < l6_2))])]) (by kernel_rfl) .nil (by kernel_rfl) ?_
    refine WK.seq (by kernel_rfl) ?_
    rcases br_inv h with ⟨b8_0, h⟩ | ⟨b8_0, h⟩
    · refine WK.ct (b := (decide (l6_3 < l6_2))) (by kernel_rfl) b8_0 ?_
      refine WK.skip (by kernel_rfl) ?_
      refine WKe.code (y := (cR (cR (cB (cB (cR (cL (cR (cR bd43))))))))) (ks' := [.lp (cB (cR (cL (cR (cR bd43)))))]) (by kernel_rfl) ?_
      refine WK.seq (by kernel_rfl) ?_
      refine WK.block (n := 1) (by kernel_rfl) ?_
      refine WK.rs (g := []) (l' := [(.t 0, [.data (.slc false none 1 (List.map e_b l6_0))]), (.t 1, [.data (.slc false none 1 (List.map e_b l6_1))]), (.t 5, [iv l6_3]), (.t 12, [iv l6_2]), (.t 13, [iv l6_3])]) (by kernel_rfl) .nil (by kernel_rfl) ?_
      obtain ⟨x10_1, a10_2, e10_3, h⟩ := ix_inv h
      obtain ⟨x10_4, a10_5, e10_6, h⟩ := ix_inv h
      refine WK.rs (g := [.c (e_b x10_1), .c (e_b x10_4)]) (l' := [(.t 0, [.data (.slc false none 1 (List.map e_b l6_0))]), (.t 1, [.data (.slc false none 1 (List.map e_b l6_1))]), (.t 12, [iv l6_2]), (.t 13, [iv l6_3]), (.t 24, [bv (!(x10_1 == x10_4))])]) (by kernel_rfl) (.cons (c_ix (e := e_b) a10_2 e10_3) (.cons (c_el (e := e_b) e10_3) (.cons (c_ix (e := e_b) a10_5 e10_6) (.cons (c_el (e := e_b) e10_6) (.cons (Eq.refl true) .nil))))) (by kernel_rfl) ?_
      rcases br_inv h with ⟨b11_0, h⟩ | ⟨b11_0, h⟩
      · refine WK.ct (b := (!(x10_1 == x10_4))) (by kernel_rfl) b11_0 ?_
        refine WK.rs (g := []) (l' := [(.t 4, [bv false])]) (by kernel_rfl) .nil (by kernel_rfl) ?_
        refine WK.weak (l := [(.t 4, [bv false])]) (wk_of (by kernel_rfl)) ?_
        refine WK.ret (by kernel_rfl) ?_
        cases some_inj h
        exact WKe.fin (e' := .ret) (by kernel_rfl) ⟨rfl, rfl⟩
      · refine WK.ce (b := (!(x10_1 == x10_4))) (by kernel_rfl) b11_0 ?_
        refine WK.skip (by kernel_rfl) ?_
        refine WKe.code (y := (cR (cR (cR (cB (cB (cR (cL (cR (cR bd43)))))))))) (ks' := [.lp (cB (cR (cL (cR (cR bd43)))))]) (by kernel_rfl) ?_
        refine WK.rc (g := []) (l' := [(.t 0, [.data (.slc false none 1 (List.map e_b l6_0))]), (.t 1, [.data (.slc false none 1 (List.map e_b l6_1))]), (.t 12, [iv l6_2]), (.t 13, [iv (w64 (l6_3 + 1))])]) .nil (by kernel_rfl) (y := (cB (cR (cL (cR (cR bd43)))))) (ks' := []) (by kernel_rfl) ?_
        exact WK.weak (l := [(.t 0, [.data (.slc false none 1 (List.map e_b l6_0))]), (.t 1, [.data (.slc false none 1 (List.map e_b l6_1))]), (.t 12, [iv l6_2]), (.t 13, [iv (w64 (l6_3 + 1))])]) (wk_of (by kernel_rfl)) (ih (w64 (l6_3 + 1)) _ h)
    · refine WK.ce (b := (decide (l6_3 < l6_2))) (by kernel_rfl) b8_0 ?_
      refine WK.weak (l := []) (wk_of (by kernel_rfl)) ?_
      refine WK.exit (n := 0) (by kernel_rfl) ?_
      cases some_inj h
      exact WKe.fin (e' := .exit 0) (by kernel_rfl) ⟨rfl, rfl⟩
noncomputable def slices_Equal_bool_bool (fu : Nat) (s1 : List Bool) (s2 : List Bool) : Option Bool :=
  br ((s1.length : Int) != (s2.length : Int))
    (some false)
    (bd (slices_Equal_bool_bool.lp6 fu s1 s2 (s1.length : Int) fu 0) fun o_ => (match o_ with
    | .inl _ =>
      some true
    | .inr _ =>
      some false))
theorem slices_Equal_bool_bool.meets (fu : Nat) (s1 : List Bool) (s2 : List Bool) (z0 : Bool) (h : slices_Equal_bool_bool fu s1 s2 = some z0) : Meets Try.prog ⟨43, [.data (.slc false none 1 (List.map e_b s1)), .data (.slc false none 1 (List.map e_b s2))], []⟩ ⟨bv z0, []⟩ := by
  refine meets_of (O := slices_Equal_bool_bool.O) hmix (fn := Try.f43) (code := bd43) (by kernel_rfl) ?_
  refine WK.weak (l := [(.t 0, [.data (.slc false none 1 (List.map e_b s1))]), (.t 1, [.data (.slc false none 1 (List.map e_b s2))])]) (wk_of (by kernel_rfl)) ?_
  unfold slices_Equal_bool_bool at h
  refine WK.rs (g := []) (l' := [(.t 0, [.data (.slc false none 1 (List.map e_b s1))]), (.t 1, [.data (.slc false none 1 (List.map e_b s2))])]) (by kernel_rfl) .nil (by kernel_rfl) ?_
  refine WK.seq (by kernel_rfl) ?_
  refine WK.rs (g := [.s (.t 7) [iv (s1.length : Int)], .s (.t 9) [iv (s2.length : Int)]]) (l' := [(.t 0, [.data (.slc false none 1 (List.map e_b s1))]), (.t 1, [.data (.slc false none 1 (List.map e_b s2))]), (.t 10, [bv ((s1.length : Int) != (s2.length : Int))])]) (by kernel_rfl) (.cons (c_len (e := e_b) (l := s1)) (.cons (c_len (e := e_b) (l := s2)) .nil)) (by kernel_rfl) ?_
  rcases br_inv h with ⟨b3_0, h⟩ | ⟨b3_0, h⟩
  · refine WK.ct (b := ((s1.length : Int) != (s2.length : Int))) (by kernel_rfl) b3_0 ?_
    refine WK.rs (g := []) (l' := [(.t 4, [bv false])]) (by kernel_rfl) .nil (by kernel_rfl) ?_
    refine WK.weak (l := [(.t 4, [bv false])]) (wk_of (by kernel_rfl)) ?_
    refine WK.ret (by kernel_rfl) ?_
    have h_ := some_inj h
    subst h_
    exact WKe.fin (e' := .ret) (by kernel_rfl) (fin_of (g := []) (by first | exact .inl rfl | exact .inr rfl) .nil (by kernel_rfl))
  · refine WK.ce (b := ((s1.length : Int) != (s2.length : Int))) (by kernel_rfl) b3_0 ?_
    refine WK.skip (by kernel_rfl) ?_
    refine WKe.code (y := (cR (cR bd43))) (ks' := []) (by kernel_rfl) ?_
    refine WK.seq (by kernel_rfl) ?_
    refine WK.rs (g := [.s (.t 12) [iv (s1.length : Int)]]) (l' := [(.t 0, [.data (.slc false none 1 (List.map e_b s1))]), (.t 1, [.data (.slc false none 1 (List.map e_b s2))]), (.t 12, [iv (s1.length : Int)]), (.t 13, [iv 0])]) (by kernel_rfl) (.cons (c_len (e := e_b) (l := s1)) .nil) (by kernel_rfl) ?_
    refine WK.block (n := 0) (by kernel_rfl) ?_
    obtain ⟨o14, ho14, h⟩ := bd_inv h
    refine WK.weak (l := [(.t 0, [.data (.slc false none 1 (List.map e_b s1))]), (.t 1, [.data (.slc false none 1 (List.map e_b s2))]), (.t 12, [iv (s1.length : Int)]), (.t 13, [iv 0])]) (wk_of (by kernel_rfl)) ?_
    refine WK.use (slices_Equal_bool_bool.lp6_ok fu s1 s2 (s1.length : Int) _ 0 _ ho14) ?_
    intro e_ τ_ hp_
    rcases o14 with o14 | o14
    · obtain ⟨⟩ := o14
      obtain ⟨rfl, rfl⟩ := hp_
      refine WKe.code (y := (cR (cR (cR bd43)))) (ks' := []) (by kernel_rfl) ?_
      refine WK.rs (g := []) (l' := [(.t 4, [bv true])]) (by kernel_rfl) .nil (by kernel_rfl) ?_
      refine WK.weak (l := [(.t 4, [bv true])]) (wk_of (by kernel_rfl)) ?_
      refine WK.ret (by kernel_rfl) ?_
      have h_ := some_inj h
      subst h_
      exact WKe.fin (e' := .ret) (by kernel_rfl) (fin_of (g := []) (by first | exact .inl rfl | exact .inr rfl) .nil (by kernel_rfl))
    · obtain ⟨⟩ := o14
      obtain ⟨rfl, rfl⟩ := hp_
      have h_ := some_inj h
      subst h_
      exact WKe.fin (e' := .ret) (by kernel_rfl) (fin_of (g := []) (by first | exact .inl rfl | exact .inr rfl) .nil (by kernel_rfl))
/-- slices.Equal[[]int,int] -/
noncomputable def bd44 : Code := (Try.f44.body).getD .skip
def slices_Equal_int_int.O : Nat → Nat := fun t => bif ([4, 5] : List Nat).any (Nat.beq t) then 1 else 0
noncomputable def slices_Equal_int_int.lp6 (fu : Nat) (l6_0 : List Int) (l6_1 : List Int) (l6_2 : Int) : Nat → Int → Option (Unit ⊕ Unit)
  | 0, _ => none
  | n_ + 1, l6_3 =>
    br (decide (l6_3 < l6_2))
      (ix l6_0 l6_3 fun x10_1 =>
      ix l6_1 l6_3 fun x10_4 =>
      br (x10_1 != x10_4)
        (some (.inr ()))
        (slices_Equal_int_int.lp6 fu l6_0 l6_1 l6_2 n_ (w64 (l6_3 + 1))))
      (some (.inl ()))
noncomputable def slices_Equal_int_int.lp6_post (l6_0 : List Int) (l6_1 : List Int) (l6_2 : Int) (r_ : (Unit ⊕ Unit)) : Wy → St → Prop := fun e τ => match r_ with
  | .inl _ => e = .exit 0 ∧ τ = ofL []
  | .inr _ => e = .ret ∧ τ = ofL [(.t 4, [bv false])]
theorem slices_Equal_int_int.lp6_ok (fu : Nat) (l6_0 : List Int) (l6_1 : List Int) (l6_2 : Int) : ∀ (n_ : Nat) (l6_3 : Int) (r_ : (Unit ⊕ Unit)), slices_Equal_int_int.lp6 fu l6_0 l6_1 l6_2 n_ l6_3 = some r_ → WK Try.prog slices_Equal_int_int.O (Ck Try.prog) (cB (cR (cL (cR (cR bd44))))) [] (ofL [(.t 0, [.data (.slc false none 1 (List.map e_i64 l6_0))]), (.t 1, [.data (.slc false none 1 (List.map e_i64 l6_1))]), (.t 12, [iv l6_2]), (.t 13, [iv l6_3])]) (slices_Equal_int_int.lp6_post l6_0 l6_1 l6_2 r_) := by
  intro n_
  induction n_ with
  | zero => intro l6_3 r_ h; exact no_none h
  | succ n_ ih =>
    intro l6_3 r_ h
    refine WK.loop (by kernel_rfl) ?_
    refine WK.rs (g := []) (l' := [(.t 0, [.data (.slc false none 1 (List.map e_i64 l6_0))]), (.t 1, [.data (.slc false none 1 (List.map e_i64 l6_1))]), (.t 12, [iv l6_2]), (.t 13, [iv l6_3]), (.t 14, [bv (decide (l6_3 < l6_2))])]) (by kernel_rfl) .nil (by kernel_rfl) ?_
    refine WK.seq (by kernel_rfl) ?_
    rcases br_inv h with ⟨b8_0, h⟩ | ⟨b8_0, h⟩
    · refine WK.ct (b := (decide (l6_3 < l6_2))) (by kernel_rfl) b8_0 ?_
      refine WK.skip (by kernel_rfl) ?_
      refine WKe.code (y := (cR (cR (cB (cB (cR (cL (cR (cR bd44))))))))) (ks' := [.lp (cB (cR (cL (cR (cR bd44)))))]) (by kernel_rfl) ?_
      refine WK.seq (by kernel_rfl) ?_
      refine WK.block (n := 1) (by kernel_rfl) ?_
      refine WK.rs (g := []) (l' := [(.t 0, [.data (.slc false none 1 (List.map e_i64 l6_0))]), (.t 1, [.data (.slc false none 1 (List.map e_i64 l6_1))]), (.t 5, [iv l6_3]), (.t 12, [iv l6_2]), (.t 13, [iv l6_3])]) (by kernel_rfl) .nil (by kernel_rfl) ?_
      obtain ⟨x10_1, a10_2, e10_3, h⟩ := ix_inv h
      obtain ⟨x10_4, a10_5, e10_6, h⟩ := ix_inv h
      refine WK.rs (g := [.c (e_i64 x10_1), .c (e_i64 x10_4)]) (l' := [(.t 0, [.data (.slc false none 1 (List.map e_i64 l6_0))]), (.t 1, [.data (.slc false none 1 (List.map e_i64 l6_1))]), (.t 12, [iv l6_2]), (.t 13, [iv l6_3]), (.t 24, [bv (x10_1 != x10_4)])]) (by kernel_rfl) (.cons (c_ix (e := e_i64) a10_2 e10_3) (.cons (c_el (e := e_i64) e10_3) (.cons (c_ix (e := e_i64) a10_5 e10_6) (.cons (c_el (e := e_i64) e10_6) (.cons (Eq.refl true) .nil))))) (by kernel_rfl) ?_
      rcases br_inv h with ⟨b11_0, h⟩ | ⟨b11_0, h⟩
      · refine WK.ct (b := (x10_1 != x10_4)) (by kernel_rfl) b11_0 ?_
        refine WK.rs (g := []) (l' := [(.t 4, [bv false])]) (by kernel_rfl) .nil (by kernel_rfl) ?_
        refine WK.weak (l := [(.t 4, [bv false])]) (wk_of (by kernel_rfl)) ?_
        refine WK.ret (by kernel_rfl) ?_
        cases some_inj h
        exact WKe.fin (e' := .ret) (by kernel_rfl) ⟨rfl, rfl⟩
      · refine WK.ce (b := (x10_1 != x10_4)) (by kernel_rfl) b11_0 ?_
        refine WK.skip (by kernel_rfl) ?_
        refine WKe.code (y := (cR (cR (cR (cB (cB (cR (cL (cR (cR bd44)))))))))) (ks' := [.lp (cB (cR (cL (cR (cR bd44)))))]) (by kernel_rfl) ?_
        refine WK.rc (g := []) (l' := [(.t 0, [.data (.slc false none 1 (List.map e_i64 l6_0))]), (.t 1, [.data (.slc false none 1 (List.map e_i64 l6_1))]), (.t 12, [iv l6_2]), (.t 13, [iv (w64 (l6_3 + 1))])]) .nil (by kernel_rfl) (y := (cB (cR (cL (cR (cR bd44)))))) (ks' := []) (by kernel_rfl) ?_
        exact WK.weak (l := [(.t 0, [.data (.slc false none 1 (List.map e_i64 l6_0))]), (.t 1, [.data (.slc false none 1 (List.map e_i64 l6_1))]), (.t 12, [iv l6_2]), (.t 13, [iv (w64 (l6_3 + 1))])]) (wk_of (by kernel_rfl)) (ih (w64 (l6_3 + 1)) _ h)
    · refine WK.ce (b := (decide (l6_3 < l6_2))) (by kernel_rfl) b8_0 ?_
      refine WK.weak (l := []) (wk_of (by kernel_rfl)) ?_
      refine WK.exit (n := 0) (by kernel_rfl) ?_
      cases some_inj h
      exact WKe.fin (e' := .exit 0) (by kernel_rfl) ⟨rfl, rfl⟩
noncomputable def slices_Equal_int_int (fu : Nat) (s1 : List Int) (s2 : List Int) : Option Bool :=
  br ((s1.length : Int) != (s2.length : Int))
    (some false)
    (bd (slices_Equal_int_int.lp6 fu s1 s2 (s1.length : Int) fu 0) fun o_ => (match o_ with
    | .inl _ =>
      some true
    | .inr _ =>
      some false))
theorem slices_Equal_int_int.meets (fu : Nat) (s1 : List Int) (s2 : List Int) (z0 : Bool) (h : slices_Equal_int_int fu s1 s2 = some z0) : Meets Try.prog ⟨44, [.data (.slc false none 1 (List.map e_i64 s1)), .data (.slc false none 1 (List.map e_i64 s2))], []⟩ ⟨bv z0, []⟩ := by
  refine meets_of (O := slices_Equal_int_int.O) hmix (fn := Try.f44) (code := bd44) (by kernel_rfl) ?_
  refine WK.weak (l := [(.t 0, [.data (.slc false none 1 (List.map e_i64 s1))]), (.t 1, [.data (.slc false none 1 (List.map e_i64 s2))])]) (wk_of (by kernel_rfl)) ?_
  unfold slices_Equal_int_int at h
  refine WK.rs (g := []) (l' := [(.t 0, [.data (.slc false none 1 (List.map e_i64 s1))]), (.t 1, [.data (.slc false none 1 (List.map e_i64 s2))])]) (by kernel_rfl) .nil (by kernel_rfl) ?_
  refine WK.seq (by kernel_rfl) ?_
  refine WK.rs (g := [.s (.t 7) [iv (s1.length : Int)], .s (.t 9) [iv (s2.length : Int)]]) (l' := [(.t 0, [.data (.slc false none 1 (List.map e_i64 s1))]), (.t 1, [.data (.slc false none 1 (List.map e_i64 s2))]), (.t 10, [bv ((s1.length : Int) != (s2.length : Int))])]) (by kernel_rfl) (.cons (c_len (e := e_i64) (l := s1)) (.cons (c_len (e := e_i64) (l := s2)) .nil)) (by kernel_rfl) ?_
  rcases br_inv h with ⟨b3_0, h⟩ | ⟨b3_0, h⟩
  · refine WK.ct (b := ((s1.length : Int) != (s2.length : Int))) (by kernel_rfl) b3_0 ?_
    refine WK.rs (g := []) (l' := [(.t 4, [bv false])]) (by kernel_rfl) .nil (by kernel_rfl) ?_
    refine WK.weak (l := [(.t 4, [bv false])]) (wk_of (by kernel_rfl)) ?_
    refine WK.ret (by kernel_rfl) ?_
    have h_ := some_inj h
    subst h_
    exact WKe.fin (e' := .ret) (by kernel_rfl) (fin_of (g := []) (by first | exact .inl rfl | exact .inr rfl) .nil (by kernel_rfl))
  · refine WK.ce (b := ((s1.length : Int) != (s2.length : Int))) (by kernel_rfl) b3_0 ?_
    refine WK.skip (by kernel_rfl) ?_
    refine WKe.code (y := (cR (cR bd44))) (ks' := []) (by kernel_rfl) ?_
    refine WK.seq (by kernel_rfl) ?_
    refine WK.rs (g := [.s (.t 12) [iv (s1.length : Int)]]) (l' := [(.t 0, [.data (.slc false none 1 (List.map e_i64 s1))]), (.t 1, [.data (.slc false none 1 (List.map e_i64 s2))]), (.t 12, [iv (s1.length : Int)]), (.t 13, [iv 0])]) (by kernel_rfl) (.cons (c_len (e := e_i64) (l := s1)) .nil) (by kernel_rfl) ?_
    refine WK.block (n := 0) (by kernel_rfl) ?_
    obtain ⟨o14, ho14, h⟩ := bd_inv h
    refine WK.weak (l := [(.t 0, [.data (.slc false none 1 (List.map e_i64 s1))]), (.t 1, [.data (.slc false none 1 (List.map e_i64 s2))]), (.t 12, [iv (s1.length : Int)]), (.t 13, [iv 0])]) (wk_of (by kernel_rfl)) ?_
    refine WK.use (slices_Equal_int_int.lp6_ok fu s1 s2 (s1.length : Int) _ 0 _ ho14) ?_
    intro e_ τ_ hp_
    rcases o14 with o14 | o14
    · obtain ⟨⟩ := o14
      obtain ⟨rfl, rfl⟩ := hp_
      refine WKe.code (y := (cR (cR (cR bd44)))) (ks' := []) (by kernel_rfl) ?_
      refine WK.rs (g := []) (l' := [(.t 4, [bv true])]) (by kernel_rfl) .nil (by kernel_rfl) ?_
      refine WK.weak (l := [(.t 4, [bv true])]) (wk_of (by kernel_rfl)) ?_
      refine WK.ret (by kernel_rfl) ?_
      have h_ := some_inj h
      subst h_
      exact WKe.fin (e' := .ret) (by kernel_rfl) (fin_of (g := []) (by first | exact .inl rfl | exact .inr rfl) .nil (by kernel_rfl))
    · obtain ⟨⟩ := o14
      obtain ⟨rfl, rfl⟩ := hp_
      have h_ := some_inj h
      subst h_
      exact WKe.fin (e' := .ret) (by kernel_rfl) (fin_of (g := []) (by first | exact .inl rfl | exact .inr rfl) .nil (by kernel_rfl))
/-- diwan/raft.Same -/
noncomputable def bd18 : Code := (Try.f18.body).getD .skip
def raft_Same.O : Nat → Nat := fun t => bif ([2, 3, 4] : List Nat).any (Nat.beq t) then 1 else 0
noncomputable def raft_Same (fu : Nat) (a : TRaft) (b : TRaft) : Option Bool :=
  br (a.Me == b.Me)
    (br (a.Nodes == b.Nodes)
      (br (a.Wait == b.Wait)
        (br (a.Term == b.Term)
          (br (a.Vote == b.Vote)
            (bd (ulog_Same fu a.Log b.Log) fun r2_6 =>
            br r2_6
              (br (a.Commit == b.Commit)
                (br (a.Role == b.Role)
                  (br (a.Leader == b.Leader)
                    (bd (slices_Equal_bool_bool fu a.Votes b.Votes) fun r2_12 =>
                    br r2_12
                      (bd (slices_Equal_int_int fu a.Next b.Next) fun r2_15 =>
                      br r2_15
                        (bd (slices_Equal_int_int fu a.Match b.Match) fun r2_18 =>
                        br r2_18
                          (some (a.Clock == b.Clock))
                          (some false))
                        (some false))
                      (some false))
                    (some false))
                  (some false))
                (some false))
              (some false))
            (some false))
          (some false))
        (some false))
      (some false))
    (some false)
theorem raft_Same.meets (fu : Nat) (a : TRaft) (b : TRaft) (z0 : Bool) (h : raft_Same fu a b = some z0) : Meets Try.prog ⟨18, [.data (TRaft.ag a), .data (TRaft.ag b)], []⟩ ⟨bv z0, []⟩ := by
  refine meets_of (O := raft_Same.O) hmix (fn := Try.f18) (code := bd18) (by kernel_rfl) ?_
  refine WK.weak (l := [(.t 0, [.data (TRaft.ag a)]), (.t 1, [.data (TRaft.ag b)])]) (wk_of (by kernel_rfl)) ?_
  unfold raft_Same at h
  refine WK.rs (g := []) (l' := [(.t 2, [.ptr 2 0]), (.t 3, [.ptr 3 0]), (.o 2, (TRaft.ob a)), (.o 3, (TRaft.ob b))]) (by kernel_rfl) .nil (by kernel_rfl) ?_
  rcases br_inv h with ⟨b2_1, h⟩ | ⟨b2_1, h⟩
  · rcases br_inv h with ⟨b2_2, h⟩ | ⟨b2_2, h⟩
    · rcases br_inv h with ⟨b2_3, h⟩ | ⟨b2_3, h⟩
      · rcases br_inv h with ⟨b2_4, h⟩ | ⟨b2_4, h⟩
        · rcases br_inv h with ⟨b2_5, h⟩ | ⟨b2_5, h⟩
          · obtain ⟨r2_6, h2_7, h⟩ := bd_inv h
            rcases br_inv h with ⟨b2_8, h⟩ | ⟨b2_8, h⟩
            · rcases br_inv h with ⟨b2_9, h⟩ | ⟨b2_9, h⟩
              · rcases br_inv h with ⟨b2_10, h⟩ | ⟨b2_10, h⟩
                · rcases br_inv h with ⟨b2_11, h⟩ | ⟨b2_11, h⟩
                  · obtain ⟨r2_12, h2_13, h⟩ := bd_inv h
                    rcases br_inv h with ⟨b2_14, h⟩ | ⟨b2_14, h⟩
                    · obtain ⟨r2_15, h2_16, h⟩ := bd_inv h
                      rcases br_inv h with ⟨b2_17, h⟩ | ⟨b2_17, h⟩
                      · obtain ⟨r2_18, h2_19, h⟩ := bd_inv h
                        rcases br_inv h with ⟨b2_20, h⟩ | ⟨b2_20, h⟩
                        · refine WK.rs (g := [.b true, .b true, .b true, .b true, .b true, .b true, .b true, .b true, .b true, .b true, .b true, .b true, .b true, .b true, .b true, .b true, .b true, .b true, .b true, .b true, .b true, .b true, .b true, .b true, .b true, .b true, .b true, .b true, .b true, .a ⟨bv r2_6, []⟩, .b true, .b true, .b true, .b true, .b true, .b true, .b true, .b true, .b true, .b true, .b true, .b true, .b true, .b true, .b true, .b true, .b true, .b true, .b true, .b true, .b true, .b true, .b true, .b true, .a ⟨bv r2_12, []⟩, .b true, .b true, .b true, .b true, .b true, .b true, .a ⟨bv r2_15, []⟩, .b true, .b true, .b true, .b true, .b true, .b true, .a ⟨bv r2_18, []⟩, .b true, .b true, .b true, .b true, .b true, .b true, .b true]) (l' := [(.t 4, [bv (a.Clock == b.Clock)])]) (by kernel_rfl) (.cons b2_1 (.cons b2_1 (.cons b2_1 (.cons b2_1 (.cons b2_1 (.cons b2_1 (.cons b2_2 (.cons b2_2 (.cons b2_2 (.cons b2_2 (.cons b2_2 (.cons b2_2 (.cons b2_3 (.cons b2_3 (.cons b2_3 (.cons b2_3 (.cons b2_3 (.cons b2_3 (.cons b2_4 (.cons b2_4 (.cons b2_4 (.cons b2_4 (.cons b2_4 (.cons b2_4 (.cons b2_5 (.cons b2_5 (.cons b2_5 (.cons b2_5 (.cons b2_5 (.cons (Asks.of (C := Meets Try.prog) (ulog_Same.meets fu a.Log b.Log _ h2_7)) (.cons b2_5 (.cons b2_8 (.cons b2_8 (.cons b2_8 (.cons b2_8 (.cons b2_8 (.cons b2_8 (.cons b2_9 (.cons b2_9 (.cons b2_9 (.cons b2_9 (.cons b2_9 (.cons b2_9 (.cons b2_10 (.cons b2_10 (.cons b2_10 (.cons b2_10 (.cons b2_10 (.cons b2_10 (.cons b2_11 (.cons b2_11 (.cons b2_11 (.cons b2_11 (.cons b2_11 (.cons (Asks.of (C := Meets Try.prog) (slices_Equal_bool_bool.meets fu a.Votes b.Votes _ h2_13)) (.cons b2_11 (.cons b2_14 (.cons b2_14 (.cons b2_14 (.cons b2_14 (.cons b2_14 (.cons (Asks.of (C := Meets Try.prog) (slices_Equal_int_int.meets fu a.Next b.Next _ h2_16)) (.cons b2_14 (.cons b2_17 (.cons b2_17 (.cons b2_17 (.cons b2_17 (.cons b2_17 (.cons (Asks.of (C := Meets Try.prog) (slices_Equal_int_int.meets fu a.Match b.Match _ h2_19)) (.cons b2_17 (.cons b2_20 (.cons b2_20 (.cons b2_20 (.cons b2_20 (.cons b2_20 (.cons b2_20 .nil)))))))))))))))))))))))))))))))))))))))))))))))))))))))))))))))))))))))))))) (by kernel_rfl) ?_
                          refine WK.weak (l := [(.t 4, [bv (a.Clock == b.Clock)])]) (wk_of (by kernel_rfl)) ?_
                          refine WK.ret (by kernel_rfl) ?_
                          have h_ := some_inj h
                          subst h_
                          exact WKe.fin (e' := .ret) (by kernel_rfl) (fin_of (g := []) (by first | exact .inl rfl | exact .inr rfl) .nil (by kernel_rfl))
                        · refine WK.rs (g := [.b true, .b true, .b true, .b true, .b true, .b true, .b true, .b true, .b true, .b true, .b true, .b true, .b true, .b true, .b true, .b true, .b true, .b true, .b true, .b true, .b true, .b true, .b true, .b true, .b true, .b true, .b true, .b true, .b true, .a ⟨bv r2_6, []⟩, .b true, .b true, .b true, .b true, .b true, .b true, .b true, .b true, .b true, .b true, .b true, .b true, .b true, .b true, .b true, .b true, .b true, .b true, .b true, .b true, .b true, .b true, .b true, .b true, .a ⟨bv r2_12, []⟩, .b true, .b true, .b true, .b true, .b true, .b true, .a ⟨bv r2_15, []⟩, .b true, .b true, .b true, .b true, .b true, .b true, .a ⟨bv r2_18, []⟩, .b true, .b false, .b false, .b false, .b false, .b false, .b false]) (l' := [(.t 4, [bv false])]) (by kernel_rfl) (.cons b2_1 (.cons b2_1 (.cons b2_1 (.cons b2_1 (.cons b2_1 (.cons b2_1 (.cons b2_2 (.cons b2_2 (.cons b2_2 (.cons b2_2 (.cons b2_2 (.cons b2_2 (.cons b2_3 (.cons b2_3 (.cons b2_3 (.cons b2_3 (.cons b2_3 (.cons b2_3 (.cons b2_4 (.cons b2_4 (.cons b2_4 (.cons b2_4 (.cons b2_4 (.cons b2_4 (.cons b2_5 (.cons b2_5 (.cons b2_5 (.cons b2_5 (.cons b2_5 (.cons (Asks.of (C := Meets Try.prog) (ulog_Same.meets fu a.Log b.Log _ h2_7)) (.cons b2_5 (.cons b2_8 (.cons b2_8 (.cons b2_8 (.cons b2_8 (.cons b2_8 (.cons b2_8 (.cons b2_9 (.cons b2_9 (.cons b2_9 (.cons b2_9 (.cons b2_9 (.cons b2_9 (.cons b2_10 (.cons b2_10 (.cons b2_10 (.cons b2_10 (.cons b2_10 (.cons b2_10 (.cons b2_11 (.cons b2_11 (.cons b2_11 (.cons b2_11 (.cons b2_11 (.cons (Asks.of (C := Meets Try.prog) (slices_Equal_bool_bool.meets fu a.Votes b.Votes _ h2_13)) (.cons b2_11 (.cons b2_14 (.cons b2_14 (.cons b2_14 (.cons b2_14 (.cons b2_14 (.cons (Asks.of (C := Meets Try.prog) (slices_Equal_int_int.meets fu a.Next b.Next _ h2_16)) (.cons b2_14 (.cons b2_17 (.cons b2_17 (.cons b2_17 (.cons b2_17 (.cons b2_17 (.cons (Asks.of (C := Meets Try.prog) (slices_Equal_int_int.meets fu a.Match b.Match _ h2_19)) (.cons b2_17 (.cons b2_20 (.cons b2_20 (.cons b2_20 (.cons b2_20 (.cons b2_20 (.cons b2_20 .nil)))))))))))))))))))))))))))))))))))))))))))))))))))))))))))))))))))))))))))) (by kernel_rfl) ?_
                          refine WK.weak (l := [(.t 4, [bv false])]) (wk_of (by kernel_rfl)) ?_
                          refine WK.ret (by kernel_rfl) ?_
                          have h_ := some_inj h
                          subst h_
                          exact WKe.fin (e' := .ret) (by kernel_rfl) (fin_of (g := []) (by first | exact .inl rfl | exact .inr rfl) .nil (by kernel_rfl))
                      · refine WK.rs (g := [.b true, .b true, .b true, .b true, .b true, .b true, .b true, .b true, .b true, .b true, .b true, .b true, .b true, .b true, .b true, .b true, .b true, .b true, .b true, .b true, .b true, .b true, .b true, .b true, .b true, .b true, .b true, .b true, .b true, .a ⟨bv r2_6, []⟩, .b true, .b true, .b true, .b true, .b true, .b true, .b true, .b true, .b true, .b true, .b true, .b true, .b true, .b true, .b true, .b true, .b true, .b true, .b true, .b true, .b true, .b true, .b true, .b true, .a ⟨bv r2_12, []⟩, .b true, .b true, .b true, .b true, .b true, .b true, .a ⟨bv r2_15, []⟩, .b true, .b false, .b false, .b false, .b false, .b false, .b false, .b false, .b false, .b false, .b false, .b false, .b false]) (l' := [(.t 4, [bv false])]) (by kernel_rfl) (.cons b2_1 (.cons b2_1 (.cons b2_1 (.cons b2_1 (.cons b2_1 (.cons b2_1 (.cons b2_2 (.cons b2_2 (.cons b2_2 (.cons b2_2 (.cons b2_2 (.cons b2_2 (.cons b2_3 (.cons b2_3 (.cons b2_3 (.cons b2_3 (.cons b2_3 (.cons b2_3 (.cons b2_4 (.cons b2_4 (.cons b2_4 (.cons b2_4 (.cons b2_4 (.cons b2_4 (.cons b2_5 (.cons b2_5 (.cons b2_5 (.cons b2_5 (.cons b2_5 (.cons (Asks.of (C := Meets Try.prog) (ulog_Same.meets fu a.Log b.Log _ h2_7)) (.cons b2_5 (.cons b2_8 (.cons b2_8 (.cons b2_8 (.cons b2_8 (.cons b2_8 (.cons b2_8 (.cons b2_9 (.cons b2_9 (.cons b2_9 (.cons b2_9 (.cons b2_9 (.cons b2_9 (.cons b2_10 (.cons b2_10 (.cons b2_10 (.cons b2_10 (.cons b2_10 (.cons b2_10 (.cons b2_11 (.cons b2_11 (.cons b2_11 (.cons b2_11 (.cons b2_11 (.cons (Asks.of (C := Meets Try.prog) (slices_Equal_bool_bool.meets fu a.Votes b.Votes _ h2_13)) (.cons b2_11 (.cons b2_14 (.cons b2_14 (.cons b2_14 (.cons b2_14 (.cons b2_14 (.cons (Asks.of (C := Meets Try.prog) (slices_Equal_int_int.meets fu a.Next b.Next _ h2_16)) (.cons b2_14 (.cons b2_17 (.cons b2_17 (.cons b2_17 (.cons b2_17 (.cons b2_17 (.cons b2_17 (.cons (Eq.refl false) (.cons (Eq.refl false) (.cons (Eq.refl false) (.cons (Eq.refl false) (.cons (Eq.refl false) (.cons (Eq.refl false) .nil))))))))))))))))))))))))))))))))))))))))))))))))))))))))))))))))))))))))))) (by kernel_rfl) ?_
                        refine WK.weak (l := [(.t 4, [bv false])]) (wk_of (by kernel_rfl)) ?_
                        refine WK.ret (by kernel_rfl) ?_
                        have h_ := some_inj h
                        subst h_
                        exact WKe.fin (e' := .ret) (by kernel_rfl) (fin_of (g := []) (by first | exact .inl rfl | exact .inr rfl) .nil (by kernel_rfl))
                    · refine WK.rs (g := [.b true, .b true, .b true, .b true, .b true, .b true, .b true, .b true, .b true, .b true, .b true, .b true, .b true, .b true, .b true, .b true, .b true, .b true, .b true, .b true, .b true, .b true, .b true, .b true, .b true, .b true, .b true, .b true, .b true, .a ⟨bv r2_6, []⟩, .b true, .b true, .b true, .b true, .b true, .b true, .b true, .b true, .b true, .b true, .b true, .b true, .b true, .b true, .b true, .b true, .b true, .b true, .b true, .b true, .b true, .b true, .b true, .b true, .a ⟨bv r2_12, []⟩, .b true, .b false, .b false, .b false, .b false, .b false, .b false, .b false, .b false, .b false, .b false, .b false, .b false, .b false, .b false, .b false, .b false, .b false, .b false]) (l' := [(.t 4, [bv false])]) (by kernel_rfl) (.cons b2_1 (.cons b2_1 (.cons b2_1 (.cons b2_1 (.cons b2_1 (.cons b2_1 (.cons b2_2 (.cons b2_2 (.cons b2_2 (.cons b2_2 (.cons b2_2 (.cons b2_2 (.cons b2_3 (.cons b2_3 (.cons b2_3 (.cons b2_3 (.cons b2_3 (.cons b2_3 (.cons b2_4 (.cons b2_4 (.cons b2_4 (.cons b2_4 (.cons b2_4 (.cons b2_4 (.cons b2_5 (.cons b2_5 (.cons b2_5 (.cons b2_5 (.cons b2_5 (.cons (Asks.of (C := Meets Try.prog) (ulog_Same.meets fu a.Log b.Log _ h2_7)) (.cons b2_5 (.cons b2_8 (.cons b2_8 (.cons b2_8 (.cons b2_8 (.cons b2_8 (.cons b2_8 (.cons b2_9 (.cons b2_9 (.cons b2_9 (.cons b2_9 (.cons b2_9 (.cons b2_9 (.cons b2_10 (.cons b2_10 (.cons b2_10 (.cons b2_10 (.cons b2_10 (.cons b2_10 (.cons b2_11 (.cons b2_11 (.cons b2_11 (.cons b2_11 (.cons b2_11 (.cons (Asks.of (C := Meets Try.prog) (slices_Equal_bool_bool.meets fu a.Votes b.Votes _ h2_13)) (.cons b2_11 (.cons b2_14 (.cons b2_14 (.cons b2_14 (.cons b2_14 (.cons b2_14 (.cons b2_14 (.cons (Eq.refl false) (.cons (Eq.refl false) (.cons (Eq.refl false) (.cons (Eq.refl false) (.cons (Eq.refl false) (.cons (Eq.refl false) (.cons (Eq.refl false) (.cons (Eq.refl false) (.cons (Eq.refl false) (.cons (Eq.refl false) (.cons (Eq.refl false) (.cons (Eq.refl false) .nil)))))))))))))))))))))))))))))))))))))))))))))))))))))))))))))))))))))))))) (by kernel_rfl) ?_
                      refine WK.weak (l := [(.t 4, [bv false])]) (wk_of (by kernel_rfl)) ?_
                      refine WK.ret (by kernel_rfl) ?_
                      have h_ := some_inj h
                      subst h_
                      exact WKe.fin (e' := .ret) (by kernel_rfl) (fin_of (g := []) (by first | exact .inl rfl | exact .inr rfl) .nil (by kernel_rfl))
                  · refine WK.rs (g := [.b true, .b true, .b true, .b true, .b true, .b true, .b true, .b true, .b true, .b true, .b true, .b true, .b true, .b true, .b true, .b true, .b true, .b true, .b true, .b true, .b true, .b true, .b true, .b true, .b true, .b true, .b true, .b true, .b true, .a ⟨bv r2_6, []⟩, .b true, .b true, .b true, .b true, .b true, .b true, .b true, .b true, .b true, .b true, .b true, .b true, .b true, .b true, .b true, .b true, .b true, .b true, .b true, .b false, .b false, .b false, .b false, .b false, .b false, .b false, .b false, .b false, .b false, .b false, .b false, .b false, .b false, .b false, .b false, .b false, .b false, .b false, .b false, .b false, .b false, .b false, .b false]) (l' := [(.t 4, [bv false])]) (by kernel_rfl) (.cons b2_1 (.cons b2_1 (.cons b2_1 (.cons b2_1 (.cons b2_1 (.cons b2_1 (.cons b2_2 (.cons b2_2 (.cons b2_2 (.cons b2_2 (.cons b2_2 (.cons b2_2 (.cons b2_3 (.cons b2_3 (.cons b2_3 (.cons b2_3 (.cons b2_3 (.cons b2_3 (.cons b2_4 (.cons b2_4 (.cons b2_4 (.cons b2_4 (.cons b2_4 (.cons b2_4 (.cons b2_5 (.cons b2_5 (.cons b2_5 (.cons b2_5 (.cons b2_5 (.cons (Asks.of (C := Meets Try.prog) (ulog_Same.meets fu a.Log b.Log _ h2_7)) (.cons b2_5 (.cons b2_8 (.cons b2_8 (.cons b2_8 (.cons b2_8 (.cons b2_8 (.cons b2_8 (.cons b2_9 (.cons b2_9 (.cons b2_9 (.cons b2_9 (.cons b2_9 (.cons b2_9 (.cons b2_10 (.cons b2_10 (.cons b2_10 (.cons b2_10 (.cons b2_10 (.cons b2_10 (.cons b2_11 (.cons b2_11 (.cons b2_11 (.cons b2_11 (.cons b2_11 (.cons b2_11 (.cons (Eq.refl false) (.cons (Eq.refl false) (.cons (Eq.refl false) (.cons (Eq.refl false) (.cons (Eq.refl false) (.cons (Eq.refl false) (.cons (Eq.refl false) (.cons (Eq.refl false) (.cons (Eq.refl false) (.cons (Eq.refl false) (.cons (Eq.refl false) (.cons (Eq.refl false) (.cons (Eq.refl false) (.cons (Eq.refl false) (.cons (Eq.refl false) (.cons (Eq.refl false) (.cons (Eq.refl false) (.cons (Eq.refl false) .nil))))))))))))))))))))))))))))))))))))))))))))))))))))))))))))))))))))))))) (by kernel_rfl) ?_
                    refine WK.weak (l := [(.t 4, [bv false])]) (wk_of (by kernel_rfl)) ?_
                    refine WK.ret (by kernel_rfl) ?_
                    have h_ := some_inj h
                    subst h_
                    exact WKe.fin (e' := .ret) (by kernel_rfl) (fin_of (g := []) (by first | exact .inl rfl | exact .inr rfl) .nil (by kernel_rfl))
                · refine WK.rs (g := [.b true, .b true, .b true, .b true, .b true, .b true, .b true, .b true, .b true, .b true, .b true, .b true, .b true, .b true, .b true, .b true, .b true, .b true, .b true, .b true, .b true, .b true, .b true, .b true, .b true, .b true, .b true, .b true, .b true, .a ⟨bv r2_6, []⟩, .b true, .b true, .b true, .b true, .b true, .b true, .b true, .b true, .b true, .b true, .b true, .b true, .b true, .b false, .b false, .b false, .b false, .b false, .b false, .b false, .b false, .b false, .b false, .b false, .b false, .b false, .b false, .b false, .b false, .b false, .b false, .b false, .b false, .b false, .b false, .b false, .b false, .b false, .b false, .b false, .b false, .b false, .b false]) (l' := [(.t 4, [bv false])]) (by kernel_rfl) (.cons b2_1 (.cons b2_1 (.cons b2_1 (.cons b2_1 (.cons b2_1 (.cons b2_1 (.cons b2_2 (.cons b2_2 (.cons b2_2 (.cons b2_2 (.cons b2_2 (.cons b2_2 (.cons b2_3 (.cons b2_3 (.cons b2_3 (.cons b2_3 (.cons b2_3 (.cons b2_3 (.cons b2_4 (.cons b2_4 (.cons b2_4 (.cons b2_4 (.cons b2_4 (.cons b2_4 (.cons b2_5 (.cons b2_5 (.cons b2_5 (.cons b2_5 (.cons b2_5 (.cons (Asks.of (C := Meets Try.prog) (ulog_Same.meets fu a.Log b.Log _ h2_7)) (.cons b2_5 (.cons b2_8 (.cons b2_8 (.cons b2_8 (.cons b2_8 (.cons b2_8 (.cons b2_8 (.cons b2_9 (.cons b2_9 (.cons b2_9 (.cons b2_9 (.cons b2_9 (.cons b2_9 (.cons b2_10 (.cons b2_10 (.cons b2_10 (.cons b2_10 (.cons b2_10 (.cons b2_10 (.cons (Eq.refl false) (.cons (Eq.refl false) (.cons (Eq.refl false) (.cons (Eq.refl false) (.cons (Eq.refl false) (.cons (Eq.refl false) (.cons (Eq.refl false) (.cons (Eq.refl false) (.cons (Eq.refl false) (.cons (Eq.refl false) (.cons (Eq.refl false) (.cons (Eq.refl false) (.cons (Eq.refl false) (.cons (Eq.refl false) (.cons (Eq.refl false) (.cons (Eq.refl false) (.cons (Eq.refl false) (.cons (Eq.refl false) (.cons (Eq.refl false) (.cons (Eq.refl false) (.cons (Eq.refl false) (.cons (Eq.refl false) (.cons (Eq.refl false) (.cons (Eq.refl false) .nil))))))))))))))))))))))))))))))))))))))))))))))))))))))))))))))))))))))))) (by kernel_rfl) ?_
                  refine WK.weak (l := [(.t 4, [bv false])]) (wk_of (by kernel_rfl)) ?_
                  refine WK.ret (by kernel_rfl) ?_
                  have h_ := some_inj h
                  subst h_
                  exact WKe.fin (e' := .ret) (by kernel_rfl) (fin_of (g := []) (by first | exact .inl rfl | exact .inr rfl) .nil (by kernel_rfl))
              · refine WK.rs (g := [.b true, .b true, .b true, .b true, .b true, .b true, .b true, .b true, .b true, .b true, .b true, .b true, .b true, .b true, .b true, .b true, .b true, .b true, .b true, .b true, .b true, .b true, .b true, .b true, .b true, .b true, .b true, .b true, .b true, .a ⟨bv r2_6, []⟩, .b true, .b true, .b true, .b true, .b true, .b true, .b true, .b false, .b false, .b false, .b false, .b false, .b false, .b false, .b false, .b false, .b false, .b false, .b false, .b false, .b false, .b false, .b false, .b false, .b false, .b false, .b false, .b false, .b false, .b false, .b false, .b false, .b false, .b false, .b false, .b false, .b false, .b false, .b false, .b false, .b false, .b false, .b false]) (l' := [(.t 4, [bv false])]) (by kernel_rfl) (.cons b2_1 (.cons b2_1 (.cons b2_1 (.cons b2_1 (.cons b2_1 (.cons b2_1 (.cons b2_2 (.cons b2_2 (.cons b2_2 (.cons b2_2 (.cons b2_2 (.cons b2_2 (.cons b2_3 (.cons b2_3 (.cons b2_3 (.cons b2_3 (.cons b2_3 (.cons b2_3 (.cons b2_4 (.cons b2_4 (.cons b2_4 (.cons b2_4 (.cons b2_4 (.cons b2_4 (.cons b2_5 (.cons b2_5 (.cons b2_5 (.cons b2_5 (.cons b2_5 (.cons (Asks.of (C := Meets Try.prog) (ulog_Same.meets fu a.Log b.Log _ h2_7)) (.cons b2_5 (.cons b2_8 (.cons b2_8 (.cons b2_8 (.cons b2_8 (.cons b2_8 (.cons b2_8 (.cons b2_9 (.cons b2_9 (.cons b2_9 (.cons b2_9 (.cons b2_9 (.cons b2_9 (.cons (Eq.refl false) (.cons (Eq.refl false) (.cons (Eq.refl false) (.cons (Eq.refl false) (.cons (Eq.refl false) (.cons (Eq.refl false) (.cons (Eq.refl false) (.cons (Eq.refl false) (.cons (Eq.refl false) (.cons (Eq.refl false) (.cons (Eq.refl false) (.cons (Eq.refl false) (.cons (Eq.refl false) (.cons (Eq.refl false) (.cons (Eq.refl false) (.cons (Eq.refl false) (.cons (Eq.refl false) (.cons (Eq.refl false) (.cons (Eq.refl false) (.cons (Eq.refl false) (.cons (Eq.refl false) (.cons (Eq.refl false) (.cons (Eq.refl false) (.cons (Eq.refl false) (.cons (Eq.refl false) (.cons (Eq.refl false) (.cons (Eq.refl false) (.cons (Eq.refl false) (.cons (Eq.refl false) (.cons (Eq.refl false) .nil))))))))))))))))))))))))))))))))))))))))))))))))))))))))))))))))))))))))) (by kernel_rfl) ?_
                refine WK.weak (l := [(.t 4, [bv false])]) (wk_of (by kernel_rfl)) ?_
                refine WK.ret (by kernel_rfl) ?_
                have h_ := some_inj h
                subst h_
                exact WKe.fin (e' := .ret) (by kernel_rfl) (fin_of (g := []) (by first | exact .inl rfl | exact .inr rfl) .nil (by kernel_rfl))
            · refine WK.rs (g := [.b true, .b true, .b true, .b true, .b true, .b true, .b true, .b true, .b true, .b true, .b true, .b true, .b true, .b true, .b true, .b true, .b true, .b true, .b true, .b true, .b true, .b true, .b true, .b true, .b true, .b true, .b true, .b true, .b true, .a ⟨bv r2_6, []⟩, .b true, .b false, .b false, .b false, .b false, .b false, .b false, .b false, .b false, .b false, .b false, .b false, .b false, .b false, .b false, .b false, .b false, .b false, .b false, .b false, .b false, .b false, .b false, .b false, .b false, .b false, .b false, .b false, .b false, .b false, .b false, .b false, .b false, .b false, .b false, .b false, .b false, .b false, .b false, .b false, .b false, .b false, .b false]) (l' := [(.t 4, [bv false])]) (by kernel_rfl) (.cons b2_1 (.cons b2_1 (.cons b2_1 (.cons b2_1 (.cons b2_1 (.cons b2_1 (.cons b2_2 (.cons b2_2 (.cons b2_2 (.cons b2_2 (.cons b2_2 (.cons b2_2 (.cons b2_3 (.cons b2_3 (.cons b2_3 (.cons b2_3 (.cons b2_3 (.cons b2_3 (.cons b2_4 (.cons b2_4 (.cons b2_4 (.cons b2_4 (.cons b2_4 (.cons b2_4 (.cons b2_5 (.cons b2_5 (.cons b2_5 (.cons b2_5 (.cons b2_5 (.cons (Asks.of (C := Meets Try.prog) (ulog_Same.meets fu a.Log b.Log _ h2_7)) (.cons b2_5 (.cons b2_8 (.cons b2_8 (.cons b2_8 (.cons b2_8 (.cons b2_8 (.cons b2_8 (.cons (Eq.refl false) (.cons (Eq.refl false) (.cons (Eq.refl false) (.cons (Eq.refl false) (.cons (Eq.refl false) (.cons (Eq.refl false) (.cons (Eq.refl false) (.cons (Eq.refl false) (.cons (Eq.refl false) (.cons (Eq.refl false) (.cons (Eq.refl false) (.cons (Eq.refl false) (.cons (Eq.refl false) (.cons (Eq.refl false) (.cons (Eq.refl false) (.cons (Eq.refl false) (.cons (Eq.refl false) (.cons (Eq.refl false) (.cons (Eq.refl false) (.cons (Eq.refl false) (.cons (Eq.refl false) (.cons (Eq.refl false) (.cons (Eq.refl false) (.cons (Eq.refl false) (.cons (Eq.refl false) (.cons (Eq.refl false) (.cons (Eq.refl false) (.cons (Eq.refl false) (.cons (Eq.refl false) (.cons (Eq.refl false) (.cons (Eq.refl false) (.cons (Eq.refl false) (.cons (Eq.refl false) (.cons (Eq.refl false) (.cons (Eq.refl false) (.cons (Eq.refl false) .nil))))))))))))))))))))))))))))))))))))))))))))))))))))))))))))))))))))))))) (by kernel_rfl) ?_
              refine WK.weak (l := [(.t 4, [bv false])]) (wk_of (by kernel_rfl)) ?_
              refine WK.ret (by kernel_rfl) ?_
              have h_ := some_inj h
              subst h_
              exact WKe.fin (e' := .ret) (by kernel_rfl) (fin_of (g := []) (by first | exact .inl rfl | exact .inr rfl) .nil (by kernel_rfl))
          · refine WK.rs (g := [.b true, .b true, .b true, .b true, .b true, .b true, .b true, .b true, .b true, .b true, .b true, .b true, .b true, .b true, .b true, .b true, .b true, .b true, .b true, .b true, .b true, .b true, .b true, .b true, .b false, .b false, .b false, .b false, .b false, .b false, .b false, .b false, .b false, .b false, .b false, .b false, .b false, .b false, .b false, .b false, .b false, .b false, .b false, .b false, .b false, .b false, .b false, .b false, .b false, .b false, .b false, .b false, .b false, .b false, .b false, .b false, .b false, .b false, .b false, .b false, .b false, .b false, .b false, .b false, .b false, .b false, .b false, .b false, .b false, .b false, .b false, .b false]) (l' := [(.t 4, [bv false])]) (by kernel_rfl) (.cons b2_1 (.cons b2_1 (.cons b2_1 (.cons b2_1 (.cons b2_1 (.cons b2_1 (.cons b2_2 (.cons b2_2 (.cons b2_2 (.cons b2_2 (.cons b2_2 (.cons b2_2 (.cons b2_3 (.cons b2_3 (.cons b2_3 (.cons b2_3 (.cons b2_3 (.cons b2_3 (.cons b2_4 (.cons b2_4 (.cons b2_4 (.cons b2_4 (.cons b2_4 (.cons b2_4 (.cons b2_5 (.cons b2_5 (.cons b2_5 (.cons b2_5 (.cons b2_5 (.cons b2_5 (.cons (Eq.refl false) (.cons (Eq.refl false) (.cons (Eq.refl false) (.cons (Eq.refl false) (.cons (Eq.refl false) (.cons (Eq.refl false) (.cons (Eq.refl false) (.cons (Eq.refl false) (.cons (Eq.refl false) (.cons (Eq.refl false) (.cons (Eq.refl false) (.cons (Eq.refl false) (.cons (Eq.refl false) (.cons (Eq.refl false) (.cons (Eq.refl false) (.cons (Eq.refl false) (.cons (Eq.refl false) (.cons (Eq.refl false) (.cons (Eq.refl false) (.cons (Eq.refl false) (.cons (Eq.refl false) (.cons (Eq.refl false) (.cons (Eq.refl false) (.cons (Eq.refl false) (.cons (Eq.refl false) (.cons (Eq.refl false) (.cons (Eq.refl false) (.cons (Eq.refl false) (.cons (Eq.refl false) (.cons (Eq.refl false) (.cons (Eq.refl false) (.cons (Eq.refl false) (.cons (Eq.refl false) (.cons (Eq.refl false) (.cons (Eq.refl false) (.cons (Eq.refl false) (.cons (Eq.refl false) (.cons (Eq.refl false) (.cons (Eq.refl false) (.cons (Eq.refl false) (.cons (Eq.refl false) (.cons (Eq.refl false) .nil)))))))))))))))))))))))))))))))))))))))))))))))))))))))))))))))))))))))) (by kernel_rfl) ?_
            refine WK.weak (l := [(.t 4, [bv false])]) (wk_of (by kernel_rfl)) ?_
            refine WK.ret (by kernel_rfl) ?_
            have h_ := some_inj h
            subst h_
            exact WKe.fin (e' := .ret) (by kernel_rfl) (fin_of (g := []) (by first | exact .inl rfl | exact .inr rfl) .nil (by kernel_rfl))
        · refine WK.rs (g := [.b true, .b true, .b true, .b true, .b true, .b true, .b true, .b true, .b true, .b true, .b true, .b true, .b true, .b true, .b true, .b true, .b true, .b true, .b false, .b false, .b false, .b false, .b false, .b false, .b false, .b false, .b false, .b false, .b false, .b false, .b false, .b false, .b false, .b false, .b false, .b false, .b false, .b false, .b false, .b false, .b false, .b false, .b false, .b false, .b false, .b false, .b false, .b false, .b false, .b false, .b false, .b false, .b false, .b false, .b false, .b false, .b false, .b false, .b false, .b false, .b false, .b false, .b false, .b false, .b false, .b false, .b false, .b false, .b false, .b false, .b false, .b false]) (l' := [(.t 4, [bv false])]) (by kernel_rfl) (.cons b2_1 (.cons b2_1 (.cons b2_1 (.cons b2_1 (.cons b2_1 (.cons b2_1 (.cons b2_2 (.cons b2_2 (.cons b2_2 (.cons b2_2 (.cons b2_2 (.cons b2_2 (.cons b2_3 (.cons b2_3 (.cons b2_3 (.cons b2_3 (.cons b2_3 (.cons b2_3 (.cons b2_4 (.cons b2_4 (.cons b2_4 (.cons b2_4 (.cons b2_4 (.cons b2_4 (.cons (Eq.refl false) (.cons (Eq.refl false) (.cons (Eq.refl false) (.cons (Eq.refl false) (.cons (Eq.refl false) (.cons (Eq.refl false) (.cons (Eq.refl false) (.cons (Eq.refl false) (.cons (Eq.refl false) (.cons (Eq.refl false) (.cons (Eq.refl false) (.cons (Eq.refl false) (.cons (Eq.refl false) (.cons (Eq.refl false) (.cons (Eq.refl false) (.cons (Eq.refl false) (.cons (Eq.refl false) (.cons (Eq.refl false) (.cons (Eq.refl false) (.cons (Eq.refl false) (.cons (Eq.refl false) (.cons (Eq.refl false) (.cons (Eq.refl false) (.cons (Eq.refl false) (.cons (Eq.refl false) (.cons (Eq.refl false) (.cons (Eq.refl false) (.cons (Eq.refl false) (.cons (Eq.refl false) (.cons (Eq.refl false) (.cons (Eq.refl false) (.cons (Eq.refl false) (.cons (Eq.refl false) (.cons (Eq.refl false) (.cons (Eq.refl false) (.cons (Eq.refl false) (.cons (Eq.refl false) (.cons (Eq.refl false) (.cons (Eq.refl false) (.cons (Eq.refl false) (.cons (Eq.refl false) (.cons (Eq.refl false) (.cons (Eq.refl false) (.cons (Eq.refl false) (.cons (Eq.refl false) (.cons (Eq.refl false) (.cons (Eq.refl false) (.cons (Eq.refl false) .nil)))))))))))))))))))))))))))))))))))))))))))))))))))))))))))))))))))))))) (by kernel_rfl) ?_
          refine WK.weak (l := [(.t 4, [bv false])]) (wk_of (by kernel_rfl)) ?_
          refine WK.ret (by kernel_rfl) ?_
          have h_ := some_inj h
          subst h_
          exact WKe.fin (e' := .ret) (by kernel_rfl) (fin_of (g := []) (by first | exact .inl rfl | exact .inr rfl) .nil (by kernel_rfl))
      · refine WK.rs (g := [.b true, .b true, .b true, .b true, .b true, .b true, .b true, .b true, .b true, .b true, .b true, .b true, .b false, .b false, .b false, .b false, .b false, .b false, .b false, .b false, .b false, .b false, .b false, .b false, .b false, .b false, .b false, .b false, .b false, .b false, .b false, .b false, .b false, .b false, .b false, .b false, .b false, .b false, .b false, .b false, .b false, .b false, .b false, .b false, .b false, .b false, .b false, .b false, .b false, .b false, .b false, .b false, .b false, .b false, .b false, .b false, .b false, .b false, .b false, .b false, .b false, .b false, .b false, .b false, .b false, .b false, .b false, .b false, .b false, .b false, .b false, .b false]) (l' := [(.t 4, [bv false])]) (by kernel_rfl) (.cons b2_1 (.cons b2_1 (.cons b2_1 (.cons b2_1 (.cons b2_1 (.cons b2_1 (.cons b2_2 (.cons b2_2 (.cons b2_2 (.cons b2_2 (.cons b2_2 (.cons b2_2 (.cons b2_3 (.cons b2_3 (.cons b2_3 (.cons b2_3 (.cons b2_3 (.cons b2_3 (.cons (Eq.refl false) (.cons (Eq.refl false) (.cons (Eq.refl false) (.cons (Eq.refl false) (.cons (Eq.refl false) (.cons (Eq.refl false) (.cons (Eq.refl false) (.cons (Eq.refl false) (.cons (Eq.refl false) (.cons (Eq.refl false) (.cons (Eq.refl false) (.cons (Eq.refl false) (.cons (Eq.refl false) (.cons (Eq.refl false) (.cons (Eq.refl false) (.cons (Eq.refl false) (.cons (Eq.refl false) (.cons (Eq.refl false) (.cons (Eq.refl false) (.cons (Eq.refl false) (.cons (Eq.refl false) (.cons (Eq.refl false) (.cons (Eq.refl false) (.cons (Eq.refl false) (.cons (Eq.refl false) (.cons (Eq.refl false) (.cons (Eq.refl false) (.cons (Eq.refl false) (.cons (Eq.refl false) (.cons (Eq.refl false) (.cons (Eq.refl false) (.cons (Eq.refl false) (.cons (Eq.refl false) (.cons (Eq.refl false) (.cons (Eq.refl false) (.cons (Eq.refl false) (.cons (Eq.refl false) (.cons (Eq.refl false) (.cons (Eq.refl false) (.cons (Eq.refl false) (.cons (Eq.refl false) (.cons (Eq.refl false) (.cons (Eq.refl false) (.cons (Eq.refl false) (.cons (Eq.refl false) (.cons (Eq.refl false) (.cons (Eq.refl false) (.cons (Eq.refl false) (.cons (Eq.refl false) (.cons (Eq.refl false) (.cons (Eq.refl false) (.cons (Eq.refl false) (.cons (Eq.refl false) (.cons (Eq.refl false) .nil)))))))))))))))))))))))))))))))))))))))))))))))))))))))))))))))))))))))) (by kernel_rfl) ?_
        refine WK.weak (l := [(.t 4, [bv false])]) (wk_of (by kernel_rfl)) ?_
        refine WK.ret (by kernel_rfl) ?_
        have h_ := some_inj h
        subst h_
        exact WKe.fin (e' := .ret) (by kernel_rfl) (fin_of (g := []) (by first | exact .inl rfl | exact .inr rfl) .nil (by kernel_rfl))
    · refine WK.rs (g := [.b true, .b true, .b true, .b true, .b true, .b true, .b false, .b false, .b false, .b false, .b false, .b false, .b false, .b false, .b false, .b false, .b false, .b false, .b false, .b false, .b false, .b false, .b false, .b false, .b false, .b false, .b false, .b false, .b false, .b false, .b false, .b false, .b false, .b false, .b false, .b false, .b false, .b false, .b false, .b false, .b false, .b false, .b false, .b false, .b false, .b false, .b false, .b false, .b false, .b false, .b false, .b false, .b false, .b false, .b false, .b false, .b false, .b false, .b false, .b false, .b false, .b false, .b false, .b false, .b false, .b false, .b false, .b false, .b false, .b false, .b false, .b false]) (l' := [(.t 4, [bv false])]) (by kernel_rfl) (.cons b2_1 (.cons b2_1 (.cons b2_1 (.cons b2_1 (.cons b2_1 (.cons b2_1 (.cons b2_2 (.cons b2_2 (.cons b2_2 (.cons b2_2 (.cons b2_2 (.cons b2_2 (.cons (Eq.refl false) (.cons (Eq.refl false) (.cons (Eq.refl false) (.cons (Eq.refl false) (.cons (Eq.refl false) (.cons (Eq.refl false) (.cons (Eq.refl false) (.cons (Eq.refl false) (.cons (Eq.refl false) (.cons (Eq.refl false) (.cons (Eq.refl false) (.cons (Eq.refl false) (.cons (Eq.refl false) (.cons (Eq.refl false) (.cons (Eq.refl false) (.cons (Eq.refl false) (.cons (Eq.refl false) (.cons (Eq.refl false) (.cons (Eq.refl false) (.cons (Eq.refl false) (.cons (Eq.refl false) (.cons (Eq.refl false) (.cons (Eq.refl false) (.cons (Eq.refl false) (.cons (Eq.refl false) (.cons (Eq.refl false) (.cons (Eq.refl false) (.cons (Eq.refl false) (.cons (Eq.refl false) (.cons (Eq.refl false) (.cons (Eq.refl false) (.cons (Eq.refl false) (.cons (Eq.refl false) (.cons (Eq.refl false) (.cons (Eq.refl false) (.cons (Eq.refl false) (.cons (Eq.refl false) (.cons (Eq.refl false) (.cons (Eq.refl false) (.cons (Eq.refl false) (.cons (Eq.refl false) (.cons (Eq.refl false) (.cons (Eq.refl false) (.cons (Eq.refl false) (.cons (Eq.refl false) (.cons (Eq.refl false) (.cons (Eq.refl false) (.cons (Eq.refl false) (.cons (Eq.refl false) (.cons (Eq.refl false) (.cons (Eq.refl false) (.cons (Eq.refl false) (.cons (Eq.refl false) (.cons (Eq.refl false) (.cons (Eq.refl false) (.cons (Eq.refl false) (.cons (Eq.refl false) (.cons (Eq.refl false) (.cons (Eq.refl false) (.cons (Eq.refl false) .nil)))))))))))))))))))))))))))))))))))))))))))))))))))))))))))))))))))))))) (by kernel_rfl) ?_
      refine WK.weak (l := [(.t 4, [bv false])]) (wk_of (by kernel_rfl)) ?_
      refine WK.ret (by kernel_rfl) ?_
      have h_ := some_inj h
      subst h_
      exact WKe.fin (e' := .ret) (by kernel_rfl) (fin_of (g := []) (by first | exact .inl rfl | exact .inr rfl) .nil (by kernel_rfl))
  · refine WK.rs (g := [.b false, .b false, .b false, .b false, .b false, .b false, .b false, .b false, .b false, .b false, .b false, .b false, .b false, .b false, .b false, .b false, .b false, .b false, .b false, .b false, .b false, .b false, .b false, .b false, .b false, .b false, .b false, .b false, .b false, .b false, .b false, .b false, .b false, .b false, .b false, .b false, .b false, .b false, .b false, .b false, .b false, .b false, .b false, .b false, .b false, .b false, .b false, .b false, .b false, .b false, .b false, .b false, .b false, .b false, .b false, .b false, .b false, .b false, .b false, .b false, .b false, .b false, .b false, .b false, .b false, .b false, .b false, .b false, .b false, .b false, .b false, .b false]) (l' := [(.t 4, [bv false])]) (by kernel_rfl) (.cons b2_1 (.cons b2_1 (.cons b2_1 (.cons b2_1 (.cons b2_1 (.cons b2_1 (.cons (Eq.refl false) (.cons (Eq.refl false) (.cons (Eq.refl false) (.cons (Eq.refl false) (.cons (Eq.refl false) (.cons (Eq.refl false) (.cons (Eq.refl false) (.cons (Eq.refl false) (.cons (Eq.refl false) (.cons (Eq.refl false) (.cons (Eq.refl false) (.cons (Eq.refl false) (.cons (Eq.refl false) (.cons (Eq.refl false) (.cons (Eq.refl false) (.cons (Eq.refl false) (.cons (Eq.refl false) (.cons (Eq.refl false) (.cons (Eq.refl false) (.cons (Eq.refl false) (.cons (Eq.refl false) (.cons (Eq.refl false) (.cons (Eq.refl false) (.cons (Eq.refl false) (.cons (Eq.refl false) (.cons (Eq.refl false) (.cons (Eq.refl false) (.cons (Eq.refl false) (.cons (Eq.refl false) (.cons (Eq.refl false) (.cons (Eq.refl false) (.cons (Eq.refl false) (.cons (Eq.refl false) (.cons (Eq.refl false) (.cons (Eq.refl false) (.cons (Eq.refl false) (.cons (Eq.refl false) (.cons (Eq.refl false) (.cons (Eq.refl false) (.cons (Eq.refl false) (.cons (Eq.refl false) (.cons (Eq.refl false) (.cons (Eq.refl false) (.cons (Eq.refl false) (.cons (Eq.refl false) (.cons (Eq.refl false) (.cons (Eq.refl false) (.cons (Eq.refl false) (.cons (Eq.refl false) (.cons (Eq.refl false) (.cons (Eq.refl false) (.cons (Eq.refl false) (.cons (Eq.refl false) (.cons (Eq.refl false) (.cons (Eq.refl false) (.cons (Eq.refl false) (.cons (Eq.refl false) (.cons (Eq.refl false) (.cons (Eq.refl false) (.cons (Eq.refl false) (.cons (Eq.refl false) (.cons (Eq.refl false) (.cons (Eq.refl false) (.cons (Eq.refl false) (.cons (Eq.refl false) (.cons (Eq.refl false) .nil)))))))))))))))))))))))))))))))))))))))))))))))))))))))))))))))))))))))) (by kernel_rfl) ?_
    refine WK.weak (l := [(.t 4, [bv false])]) (wk_of (by kernel_rfl)) ?_
    refine WK.ret (by kernel_rfl) ?_
    have h_ := some_inj h
    subst h_
    exact WKe.fin (e' := .ret) (by kernel_rfl) (fin_of (g := []) (by first | exact .inl rfl | exact .inr rfl) .nil (by kernel_rfl))
/-- diwan/diwanlaw11.begun -/
noncomputable def bd12 : Code := (Try.f12.body).getD .skip
def diwanlaw11_begun.O : Nat → Nat := fun t => bif ([0, 1, 2, 3, 4, 5, 6, 7, 8, 9, 10, 11, 12, 16, 21, 25, 27, 32, 34] : List Nat).any (Nat.beq t) then 1 else 0
noncomputable def diwanlaw11_begun (fu : Nat) : Option Bool :=
  bd (raft_New 1 1 2) fun r2_1 =>
  bd (raft_Tick fu r2_1) fun (r3_1, r3_2) =>
  bd (raft_Tick fu r3_1) fun (r4_1, r4_2) =>
  bd (raft_Propose fu r4_1 (TEntry.mk 0 true (TTxn.mk 0 0 [] []))) fun (r5_1, r5_2, r5_3) =>
  bd (raft_Propose fu r3_1 (TEntry.mk 0 true (TTxn.mk 0 0 [] []))) fun (r6_1, r6_2, r6_3) =>
  bd (raft_May fu r2_1) fun r7_1 =>
  br r7_1
    (br ((r3_2.length : Int) == 0)
      (br (r3_1.Clock == 1)
        (br (r4_1.Role == 2)
          (br (r4_1.Term == 1)
            (br ((r4_1.Log.length : Int) == 1)
              (br (r4_1.Commit == 1)
                (br ((r4_2.length : Int) == 0)
                  (br r5_3
                    (br ((r5_1.Log.length : Int) == 2)
                      (br (r5_1.Commit == 2)
                        (br (!r6_3)
                          (bd (raft_Same fu r3_1 r3_1) fun r7_15 =>
                          br r7_15
                            (bd (raft_Same fu r3_1 r4_1) fun r7_18 =>
                            some (!r7_18))
                            (some false))
                          (some false))
                        (some false))
                      (some false))
                    (some false))
                  (some false))
                (some false))
              (some false))
            (some false))
          (some false))
        (some false))
      (some false))
    (some false)
theorem diwanlaw11_begun.meets (fu : Nat) (z0 : Bool) (h : diwanlaw11_begun fu = some z0) : Meets Try.prog ⟨12, [], []⟩ ⟨bv z0, []⟩ := by
  refine meets_of (O := diwanlaw11_begun.O) hmix (fn := Try.f12) (code := bd12) (by kernel_rfl) ?_
  refine WK.weak (l := []) (wk_of (by kernel_rfl)) ?_
  unfold diwanlaw11_begun at h
  refine WK.rs (g := []) (l' := []) (by kernel_rfl) .nil (by kernel_rfl) ?_
  obtain ⟨r2_1, h2_2, h⟩ := bd_inv h
  refine WK.rs (g := [.a ⟨.data (TRaft.ag_000001000111 r2_1), []⟩]) (l' := [(.t 1, [.ptr 1 0]), (.o 1, (TRaft.ob_000001000111 r2_1))]) (by kernel_rfl) (.cons (Asks.of (C := Meets Try.prog) (raft_New.meets 1 1 2 _ h2_2)) .nil) (by kernel_rfl) ?_
  obtain ⟨⟨r3_1, r3_2⟩, h3_3, h⟩ := bd_inv h
  refine WK.rs (g := [.a ⟨.tup [.data (TRaft.ag r3_1), .data (.slc false none 24 (List.map TMsg.en r3_2))], []⟩]) (l' := [(.t 1, [.ptr 1 0]), (.t 2, [.ptr 2 0]), (.t 3, [.data (.slc false none 24 (List.map TMsg.en r3_2))]), (.o 1, (TRaft.ob r2_1)), (.o 2, (TRaft.ob r3_1))]) (by kernel_rfl) (.cons (Asks.of (C := Meets Try.prog) (raft_Tick.meets fu r2_1 _ _ h3_3)) .nil) (by kernel_rfl) ?_
  obtain ⟨⟨r4_1, r4_2⟩, h4_3, h⟩ := bd_inv h
  refine WK.rs (g := [.a ⟨.tup [.data (TRaft.ag r4_1), .data (.slc false none 24 (List.map TMsg.en r4_2))], []⟩]) (l' := [(.t 1, [.ptr 1 0]), (.t 2, [.ptr 2 0]), (.t 3, [.data (.slc false none 24 (List.map TMsg.en r3_2))]), (.t 4, [.ptr 4 0]), (.t 5, [.data (.slc false none 24 (List.map TMsg.en r4_2))]), (.o 1, (TRaft.ob r2_1)), (.o 2, (TRaft.ob r3_1)), (.o 4, (TRaft.ob r4_1))]) (by kernel_rfl) (.cons (Asks.of (C := Meets Try.prog) (raft_Tick.meets fu r3_1 _ _ h4_3)) .nil) (by kernel_rfl) ?_
  obtain ⟨⟨r5_1, r5_2, r5_3⟩, h5_4, h⟩ := bd_inv h
  refine WK.rs (g := [.a ⟨.tup [.data (TRaft.ag r5_1), .data (.slc false none 24 (List.map TMsg.en r5_2)), bv r5_3], []⟩]) (l' := [(.t 1, [.ptr 1 0]), (.t 2, [.ptr 2 0]), (.t 3, [.data (.slc false none 24 (List.map TMsg.en r3_2))]), (.t 4, [.ptr 4 0]), (.t 5, [.data (.slc false none 24 (List.map TMsg.en r4_2))]), (.t 6, [.ptr 6 0]), (.t 8, [bv r5_3]), (.o 1, (TRaft.ob r2_1)), (.o 2, (TRaft.ob r3_1)), (.o 4, (TRaft.ob r4_1)), (.o 6, (TRaft.ob r5_1))]) (by kernel_rfl) (.cons (Asks.of (C := Meets Try.prog) (raft_Propose.meets fu r4_1 (TEntry.mk 0 true (TTxn.mk 0 0 [] [])) _ _ _ h5_4)) .nil) (by kernel_rfl) ?_
  obtain ⟨⟨r6_1, r6_2, r6_3⟩, h6_4, h⟩ := bd_inv h
  refine WK.rs (g := [.a ⟨.tup [.data (TRaft.ag r6_1), .data (.slc false none 24 (List.map TMsg.en r6_2)), bv r6_3], []⟩]) (l' := [(.t 1, [.ptr 1 0]), (.t 2, [.ptr 2 0]), (.t 3, [.data (.slc false none 24 (List.map TMsg.en r3_2))]), (.t 4, [.ptr 4 0]), (.t 5, [.data (.slc false none 24 (List.map TMsg.en r4_2))]), (.t 6, [.ptr 6 0]), (.t 8, [bv r5_3]), (.t 11, [bv r6_3]), (.o 1, (TRaft.ob r2_1)), (.o 2, (TRaft.ob r3_1)), (.o 4, (TRaft.ob r4_1)), (.o 6, (TRaft.ob r5_1))]) (by kernel_rfl) (.cons (Asks.of (C := Meets Try.prog) (raft_Propose.meets fu r3_1 (TEntry.mk 0 true (TTxn.mk 0 0 [] [])) _ _ _ h6_4)) .nil) (by kernel_rfl) ?_
  obtain ⟨r7_1, h7_2, h⟩ := bd_inv h
  rcases br_inv h with ⟨b7_3, h⟩ | ⟨b7_3, h⟩
  · rcases br_inv h with ⟨b7_4, h⟩ | ⟨b7_4, h⟩
    · rcases br_inv h with ⟨b7_5, h⟩ | ⟨b7_5, h⟩
      · rcases br_inv h with ⟨b7_6, h⟩ | ⟨b7_6, h⟩
        · rcases br_inv h with ⟨b7_7, h⟩ | ⟨b7_7, h⟩
          · rcases br_inv h with ⟨b7_8, h⟩ | ⟨b7_8, h⟩
            · rcases br_inv h with ⟨b7_9, h⟩ | ⟨b7_9, h⟩
              · rcases br_inv h with ⟨b7_10, h⟩ | ⟨b7_10, h⟩
                · rcases br_inv h with ⟨b7_11, h⟩ | ⟨b7_11, h⟩
                  · rcases br_inv h with ⟨b7_12, h⟩ | ⟨b7_12, h⟩
                    · rcases br_inv h with ⟨b7_13, h⟩ | ⟨b7_13, h⟩
                      · rcases br_inv h with ⟨b7_14, h⟩ | ⟨b7_14, h⟩
                        · obtain ⟨r7_15, h7_16, h⟩ := bd_inv h
                          rcases br_inv h with ⟨b7_17, h⟩ | ⟨b7_17, h⟩
                          · obtain ⟨r7_18, h7_19, h⟩ := bd_inv h
                            refine WK.rs (g := [.a ⟨bv r7_1, []⟩, .b true, .b true, .s (.t 41) [iv (r3_2.length : Int)], .b true, .b true, .b true, .b true, .b true, .b true, .b true, .b true, .b true, .b true, .b true, .b true, .b true, .b true, .b true, .b true, .b true, .s (.t 62) [iv (r4_1.Log.length : Int)], .b true, .b true, .b true, .b true, .b true, .b true, .b true, .b true, .s (.t 72) [iv (r4_2.length : Int)], .b true, .b true, .b true, .b true, .b true, .b true, .b true, .s (.t 81) [iv (r5_1.Log.length : Int)], .b true, .b true, .b true, .b true, .b true, .b true, .b true, .b true, .b true, .b true, .b true, .b true, .a ⟨bv r7_15, []⟩, .b true, .b true, .b true, .b true, .a ⟨bv r7_18, []⟩, .b true, .b true]) (l' := [(.t 0, [bv (!r7_18)])]) (by kernel_rfl) (.cons (Asks.of (C := Meets Try.prog) (raft_May.meets fu r2_1 _ h7_2)) (.cons b7_3 (.cons b7_3 (.cons (c_len (e := TMsg.en) (l := r3_2)) (.cons b7_3 (.cons b7_3 (.cons b7_4 (.cons b7_4 (.cons b7_4 (.cons b7_4 (.cons b7_5 (.cons b7_5 (.cons b7_5 (.cons b7_5 (.cons b7_6 (.cons b7_6 (.cons b7_6 (.cons b7_6 (.cons b7_7 (.cons b7_7 (.cons b7_7 (.cons (c_len (e := TEntry.en) (l := r4_1.Log)) (.cons b7_7 (.cons b7_7 (.cons b7_8 (.cons b7_8 (.cons b7_8 (.cons b7_8 (.cons b7_9 (.cons b7_9 (.cons (c_len (e := TMsg.en) (l := r4_2)) (.cons b7_9 (.cons b7_9 (.cons b7_10 (.cons b7_10 (.cons b7_11 (.cons b7_11 (.cons b7_11 (.cons (c_len (e := TEntry.en) (l := r5_1.Log)) (.cons b7_11 (.cons b7_11 (.cons b7_12 (.cons b7_12 (.cons b7_12 (.cons b7_12 (.cons b7_13 (.cons b7_13 (.cons b7_13 (.cons b7_14 (.cons b7_14 (.cons b7_14 (.cons (Asks.of (C := Meets Try.prog) (raft_Same.meets fu r3_1 r3_1 _ h7_16)) (.cons b7_14 (.cons b7_17 (.cons b7_17 (.cons b7_17 (.cons (Asks.of (C := Meets Try.prog) (raft_Same.meets fu r3_1 r4_1 _ h7_19)) (.cons b7_17 (.cons b7_17 .nil))))))))))))))))))))))))))))))))))))))))))))))))))))))))))) (by kernel_rfl) ?_
                            refine WK.weak (l := [(.t 0, [bv (!r7_18)])]) (wk_of (by kernel_rfl)) ?_
                            refine WK.ret (by kernel_rfl) ?_
                            have h_ := some_inj h
                            subst h_
                            exact WKe.fin (e' := .ret) (by kernel_rfl) (fin_of (g := []) (by first | exact .inl rfl | exact .inr rfl) .nil (by kernel_rfl))
                          · refine WK.rs (g := [.a ⟨bv r7_1, []⟩, .b true, .b true, .s (.t 41) [iv (r3_2.length : Int)], .b true, .b true, .b true, .b true, .b true, .b true, .b true, .b true, .b true, .b true, .b true, .b true, .b true, .b true, .b true, .b true, .b true, .s (.t 62) [iv (r4_1.Log.length : Int)], .b true, .b true, .b true, .b true, .b true, .b true, .b true, .b true, .s (.t 72) [iv (r4_2.length : Int)], .b true, .b true, .b true, .b true, .b true, .b true, .b true, .s (.t 81) [iv (r5_1.Log.length : Int)], .b true, .b true, .b true, .b true, .b true, .b true, .b true, .b true, .b true, .b true, .b true, .b true, .a ⟨bv r7_15, []⟩, .b true, .b false, .b false, .b false, .b false, .b false]) (l' := [(.t 0, [bv false])]) (by kernel_rfl) (.cons (Asks.of (C := Meets Try.prog) (raft_May.meets fu r2_1 _ h7_2)) (.cons b7_3 (.cons b7_3 (.cons (c_len (e := TMsg.en) (l := r3_2)) (.cons b7_3 (.cons b7_3 (.cons b7_4 (.cons b7_4 (.cons b7_4 (.cons b7_4 (.cons b7_5 (.cons b7_5 (.cons b7_5 (.cons b7_5 (.cons b7_6 (.cons b7_6 (.cons b7_6 (.cons b7_6 (.cons b7_7 (.cons b7_7 (.cons b7_7 (.cons (c_len (e := TEntry.en) (l := r4_1.Log)) (.cons b7_7 (.cons b7_7 (.cons b7_8 (.cons b7_8 (.cons b7_8 (.cons b7_8 (.cons b7_9 (.cons b7_9 (.cons (c_len (e := TMsg.en) (l := r4_2)) (.cons b7_9 (.cons b7_9 (.cons b7_10 (.cons b7_10 (.cons b7_11 (.cons b7_11 (.cons b7_11 (.cons (c_len (e := TEntry.en) (l := r5_1.Log)) (.cons b7_11 (.cons b7_11 (.cons b7_12 (.cons b7_12 (.cons b7_12 (.cons b7_12 (.cons b7_13 (.cons b7_13 (.cons b7_13 (.cons b7_14 (.cons b7_14 (.cons b7_14 (.cons (Asks.of (C := Meets Try.prog) (raft_Same.meets fu r3_1 r3_1 _ h7_16)) (.cons b7_14 (.cons b7_17 (.cons b7_17 (.cons b7_17 (.cons b7_17 (.cons b7_17 .nil)))))))))))))))))))))))))))))))))))))))))))))))))))))))))) (by kernel_rfl) ?_
                            refine WK.weak (l := [(.t 0, [bv false])]) (wk_of (by kernel_rfl)) ?_
                            refine WK.ret (by kernel_rfl) ?_
                            have h_ := some_inj h
                            subst h_
                            exact WKe.fin (e' := .ret) (by kernel_rfl) (fin_of (g := []) (by first | exact .inl rfl | exact .inr rfl) .nil (by kernel_rfl))
                        · refine WK.rs (g := [.a ⟨bv r7_1, []⟩, .b true, .b true, .s (.t 41) [iv (r3_2.length : Int)], .b true, .b true, .b true, .b true, .b true, .b true, .b true, .b true, .b true, .b true, .b true, .b true, .b true, .b true, .b true, .b true, .b true, .s (.t 62) [iv (r4_1.Log.length : Int)], .b true, .b true, .b true, .b true, .b true, .b true, .b true, .b true, .s (.t 72) [iv (r4_2.length : Int)], .b true, .b true, .b true, .b true, .b true, .b true, .b true, .s (.t 81) [iv (r5_1.Log.length : Int)], .b true, .b true, .b true, .b true, .b true, .b true, .b true, .b true, .b true, .b false, .b false, .b false, .b false, .b false, .b false, .b false, .b false, .b false]) (l' := [(.t 0, [bv false])]) (by kernel_rfl) (.cons (Asks.of (C := Meets Try.prog) (raft_May.meets fu r2_1 _ h7_2)) (.cons b7_3 (.cons b7_3 (.cons (c_len (e := TMsg.en) (l := r3_2)) (.cons b7_3 (.cons b7_3 (.cons b7_4 (.cons b7_4 (.cons b7_4 (.cons b7_4 (.cons b7_5 (.cons b7_5 (.cons b7_5 (.cons b7_5 (.cons b7_6 (.cons b7_6 (.cons b7_6 (.cons b7_6 (.cons b7_7 (.cons b7_7 (.cons b7_7 (.cons (c_len (e := TEntry.en) (l := r4_1.Log)) (.cons b7_7 (.cons b7_7 (.cons b7_8 (.cons b7_8 (.cons b7_8 (.cons b7_8 (.cons b7_9 (.cons b7_9 (.cons (c_len (e := TMsg.en) (l := r4_2)) (.cons b7_9 (.cons b7_9 (.cons b7_10 (.cons b7_10 (.cons b7_11 (.cons b7_11 (.cons b7_11 (.cons (c_len (e := TEntry.en) (l := r5_1.Log)) (.cons b7_11 (.cons b7_11 (.cons b7_12 (.cons b7_12 (.cons b7_12 (.cons b7_12 (.cons b7_13 (.cons b7_13 (.cons b7_13 (.cons b7_14 (.cons b7_14 (.cons b7_14 (.cons b7_14 (.cons (Eq.refl false) (.cons (Eq.refl false) (.cons (Eq.refl false) (.cons (Eq.refl false) (.cons (Eq.refl false) .nil))))))))))))))))))))))))))))))))))))))))))))))))))))))))) (by kernel_rfl) ?_
                          refine WK.weak (l := [(.t 0, [bv false])]) (wk_of (by kernel_rfl)) ?_
                          refine WK.ret (by kernel_rfl) ?_
                          have h_ := some_inj h
                          subst h_
                          exact WKe.fin (e' := .ret) (by kernel_rfl) (fin_of (g := []) (by first | exact .inl rfl | exact .inr rfl) .nil (by kernel_rfl))
                      · refine WK.rs (g := [.a ⟨bv r7_1, []⟩, .b true, .b true, .s (.t 41) [iv (r3_2.length : Int)], .b true, .b true, .b true, .b true, .b true, .b true, .b true, .b true, .b true, .b true, .b true, .b true, .b true, .b true, .b true, .b true, .b true, .s (.t 62) [iv (r4_1.Log.length : Int)], .b true, .b true, .b true, .b true, .b true, .b true, .b true, .b true, .s (.t 72) [iv (r4_2.length : Int)], .b true, .b true, .b true, .b true, .b true, .b true, .b true, .s (.t 81) [iv (r5_1.Log.length : Int)], .b true, .b true, .b true, .b true, .b true, .b true, .b false, .b false, .b false, .b false, .b false, .b false, .b false, .b false, .b false, .b false, .b false, .b false]) (l' := [(.t 0, [bv false])]) (by kernel_rfl) (.cons (Asks.of (C := Meets Try.prog) (raft_May.meets fu r2_1 _ h7_2)) (.cons b7_3 (.cons b7_3 (.cons (c_len (e := TMsg.en) (l := r3_2)) (.cons b7_3 (.cons b7_3 (.cons b7_4 (.cons b7_4 (.cons b7_4 (.cons b7_4 (.cons b7_5 (.cons b7_5 (.cons b7_5 (.cons b7_5 (.cons b7_6 (.cons b7_6 (.cons b7_6 (.cons b7_6 (.cons b7_7 (.cons b7_7 (.cons b7_7 (.cons (c_len (e := TEntry.en) (l := r4_1.Log)) (.cons b7_7 (.cons b7_7 (.cons b7_8 (.cons b7_8 (.cons b7_8 (.cons b7_8 (.cons b7_9 (.cons b7_9 (.cons (c_len (e := TMsg.en) (l := r4_2)) (.cons b7_9 (.cons b7_9 (.cons b7_10 (.cons b7_10 (.cons b7_11 (.cons b7_11 (.cons b7_11 (.cons (c_len (e := TEntry.en) (l := r5_1.Log)) (.cons b7_11 (.cons b7_11 (.cons b7_12 (.cons b7_12 (.cons b7_12 (.cons b7_12 (.cons b7_13 (.cons b7_13 (.cons b7_13 (.cons (Eq.refl false) (.cons (Eq.refl false) (.cons (Eq.refl false) (.cons (Eq.refl false) (.cons (Eq.refl false) (.cons (Eq.refl false) (.cons (Eq.refl false) (.cons (Eq.refl false) (.cons (Eq.refl false) .nil))))))))))))))))))))))))))))))))))))))))))))))))))))))))) (by kernel_rfl) ?_
                        refine WK.weak (l := [(.t 0, [bv false])]) (wk_of (by kernel_rfl)) ?_
                        refine WK.ret (by kernel_rfl) ?_
                        have h_ := some_inj h
                        subst h_
                        exact WKe.fin (e' := .ret) (by kernel_rfl) (fin_of (g := []) (by first | exact .inl rfl | exact .inr rfl) .nil (by kernel_rfl))
                    · refine WK.rs (g := [.a ⟨bv r7_1, []⟩, .b true, .b true, .s (.t 41) [iv (r3_2.length : Int)], .b true, .b true, .b true, .b true, .b true, .b true, .b true, .b true, .b true, .b true, .b true, .b true, .b true, .b true, .b true, .b true, .b true, .s (.t 62) [iv (r4_1.Log.length : Int)], .b true, .b true, .b true, .b true, .b true, .b true, .b true, .b true, .s (.t 72) [iv (r4_2.length : Int)], .b true, .b true, .b true, .b true, .b true, .b true, .b true, .s (.t 81) [iv (r5_1.Log.length : Int)], .b true, .b true, .b false, .b false, .b false, .b false, .b false, .b false, .b false, .b false, .b false, .b false, .b false, .b false, .b false, .b false, .b false, .b false]) (l' := [(.t 0, [bv false])]) (by kernel_rfl) (.cons (Asks.of (C := Meets Try.prog) (raft_May.meets fu r2_1 _ h7_2)) (.cons b7_3 (.cons b7_3 (.cons (c_len (e := TMsg.en) (l := r3_2)) (.cons b7_3 (.cons b7_3 (.cons b7_4 (.cons b7_4 (.cons b7_4 (.cons b7_4 (.cons b7_5 (.cons b7_5 (.cons b7_5 (.cons b7_5 (.cons b7_6 (.cons b7_6 (.cons b7_6 (.cons b7_6 (.cons b7_7 (.cons b7_7 (.cons b7_7 (.cons (c_len (e := TEntry.en) (l := r4_1.Log)) (.cons b7_7 (.cons b7_7 (.cons b7_8 (.cons b7_8 (.cons b7_8 (.cons b7_8 (.cons b7_9 (.cons b7_9 (.cons (c_len (e := TMsg.en) (l := r4_2)) (.cons b7_9 (.cons b7_9 (.cons b7_10 (.cons b7_10 (.cons b7_11 (.cons b7_11 (.cons b7_11 (.cons (c_len (e := TEntry.en) (l := r5_1.Log)) (.cons b7_11 (.cons b7_11 (.cons b7_12 (.cons b7_12 (.cons b7_12 (.cons b7_12 (.cons (Eq.refl false) (.cons (Eq.refl false) (.cons (Eq.refl false) (.cons (Eq.refl false) (.cons (Eq.refl false) (.cons (Eq.refl false) (.cons (Eq.refl false) (.cons (Eq.refl false) (.cons (Eq.refl false) (.cons (Eq.refl false) (.cons (Eq.refl false) (.cons (Eq.refl false) .nil))))))))))))))))))))))))))))))))))))))))))))))))))))))))) (by kernel_rfl) ?_
                      refine WK.weak (l := [(.t 0, [bv false])]) (wk_of (by kernel_rfl)) ?_
                      refine WK.ret (by kernel_rfl) ?_
                      have h_ := some_inj h
                      subst h_
                      exact WKe.fin (e' := .ret) (by kernel_rfl) (fin_of (g := []) (by first | exact .inl rfl | exact .inr rfl) .nil (by kernel_rfl))
                  · refine WK.rs (g := [.a ⟨bv r7_1, []⟩, .b true, .b true, .s (.t 41) [iv (r3_2.length : Int)], .b true, .b true, .b true, .b true, .b true, .b true, .b true, .b true, .b true, .b true, .b true, .b true, .b true, .b true, .b true, .b true, .b true, .s (.t 62) [iv (r4_1.Log.length : Int)], .b true, .b true, .b true, .b true, .b true, .b true, .b true, .b true, .s (.t 72) [iv (r4_2.length : Int)], .b true, .b true, .b true, .b true, .b false, .b false, .b false, .b false, .b false, .b false, .b false, .b false, .b false, .b false, .b false, .b false, .b false, .b false, .b false, .b false, .b false, .b false, .b false, .b false, .b false]) (l' := [(.t 0, [bv false])]) (by kernel_rfl) (.cons (Asks.of (C := Meets Try.prog) (raft_May.meets fu r2_1 _ h7_2)) (.cons b7_3 (.cons b7_3 (.cons (c_len (e := TMsg.en) (l := r3_2)) (.cons b7_3 (.cons b7_3 (.cons b7_4 (.cons b7_4 (.cons b7_4 (.cons b7_4 (.cons b7_5 (.cons b7_5 (.cons b7_5 (.cons b7_5 (.cons b7_6 (.cons b7_6 (.cons b7_6 (.cons b7_6 (.cons b7_7 (.cons b7_7 (.cons b7_7 (.cons (c_len (e := TEntry.en) (l := r4_1.Log)) (.cons b7_7 (.cons b7_7 (.cons b7_8 (.cons b7_8 (.cons b7_8 (.cons b7_8 (.cons b7_9 (.cons b7_9 (.cons (c_len (e := TMsg.en) (l := r4_2)) (.cons b7_9 (.cons b7_9 (.cons b7_10 (.cons b7_10 (.cons b7_11 (.cons b7_11 (.cons b7_11 (.cons b7_11 (.cons b7_11 (.cons (Eq.refl false) (.cons (Eq.refl false) (.cons (Eq.refl false) (.cons (Eq.refl false) (.cons (Eq.refl false) (.cons (Eq.refl false) (.cons (Eq.refl false) (.cons (Eq.refl false) (.cons (Eq.refl false) (.cons (Eq.refl false) (.cons (Eq.refl false) (.cons (Eq.refl false) (.cons (Eq.refl false) (.cons (Eq.refl false) (.cons (Eq.refl false) (.cons (Eq.refl false) .nil)))))))))))))))))))))))))))))))))))))))))))))))))))))))) (by kernel_rfl) ?_
                    refine WK.weak (l := [(.t 0, [bv false])]) (wk_of (by kernel_rfl)) ?_
                    refine WK.ret (by kernel_rfl) ?_
                    have h_ := some_inj h
                    subst h_
                    exact WKe.fin (e' := .ret) (by kernel_rfl) (fin_of (g := []) (by first | exact .inl rfl | exact .inr rfl) .nil (by kernel_rfl))
                · refine WK.rs (g := [.a ⟨bv r7_1, []⟩, .b true, .b true, .s (.t 41) [iv (r3_2.length : Int)], .b true, .b true, .b true, .b true, .b true, .b true, .b true, .b true, .b true, .b true, .b true, .b true, .b true, .b true, .b true, .b true, .b true, .s (.t 62) [iv (r4_1.Log.length : Int)], .b true, .b true, .b true, .b true, .b true, .b true, .b true, .b true, .s (.t 72) [iv (r4_2.length : Int)], .b true, .b true, .b false, .b false, .b false, .b false, .b false, .b false, .b false, .b false, .b false, .b false, .b false, .b false, .b false, .b false, .b false, .b false, .b false, .b false, .b false, .b false, .b false, .b false, .b false]) (l' := [(.t 0, [bv false])]) (by kernel_rfl) (.cons (Asks.of (C := Meets Try.prog) (raft_May.meets fu r2_1 _ h7_2)) (.cons b7_3 (.cons b7_3 (.cons (c_len (e := TMsg.en) (l := r3_2)) (.cons b7_3 (.cons b7_3 (.cons b7_4 (.cons b7_4 (.cons b7_4 (.cons b7_4 (.cons b7_5 (.cons b7_5 (.cons b7_5 (.cons b7_5 (.cons b7_6 (.cons b7_6 (.cons b7_6 (.cons b7_6 (.cons b7_7 (.cons b7_7 (.cons b7_7 (.cons (c_len (e := TEntry.en) (l := r4_1.Log)) (.cons b7_7 (.cons b7_7 (.cons b7_8 (.cons b7_8 (.cons b7_8 (.cons b7_8 (.cons b7_9 (.cons b7_9 (.cons (c_len (e := TMsg.en) (l := r4_2)) (.cons b7_9 (.cons b7_9 (.cons b7_10 (.cons b7_10 (.cons (Eq.refl false) (.cons (Eq.refl false) (.cons (Eq.refl false) (.cons (Eq.refl false) (.cons (Eq.refl false) (.cons (Eq.refl false) (.cons (Eq.refl false) (.cons (Eq.refl false) (.cons (Eq.refl false) (.cons (Eq.refl false) (.cons (Eq.refl false) (.cons (Eq.refl false) (.cons (Eq.refl false) (.cons (Eq.refl false) (.cons (Eq.refl false) (.cons (Eq.refl false) (.cons (Eq.refl false) (.cons (Eq.refl false) (.cons (Eq.refl false) (.cons (Eq.refl false) (.cons (Eq.refl false) .nil)))))))))))))))))))))))))))))))))))))))))))))))))))))))) (by kernel_rfl) ?_
                  refine WK.weak (l := [(.t 0, [bv false])]) (wk_of (by kernel_rfl)) ?_
                  refine WK.ret (by kernel_rfl) ?_
                  have h_ := some_inj h
                  subst h_
                  exact WKe.fin (e' := .ret) (by kernel_rfl) (fin_of (g := []) (by first | exact .inl rfl | exact .inr rfl) .nil (by kernel_rfl))
              · refine WK.rs (g := [.a ⟨bv r7_1, []⟩, .b true, .b true, .s (.t 41) [iv (r3_2.length : Int)], .b true, .b true, .b true, .b true, .b true, .b true, .b true, .b true, .b true, .b true, .b true, .b true, .b true, .b true, .b true, .b true, .b true, .s (.t 62) [iv (r4_1.Log.length : Int)], .b true, .b true, .b true, .b true, .b true, .b true, .b false, .b false, .b false, .b false, .b false, .b false, .b false, .b false, .b false, .b false, .b false, .b false, .b false, .b false, .b false, .b false, .b false, .b false, .b false, .b false, .b false, .b false, .b false, .b false, .b false, .b false, .b false]) (l' := [(.t 0, [bv false])]) (by kernel_rfl) (.cons (Asks.of (C := Meets Try.prog) (raft_May.meets fu r2_1 _ h7_2)) (.cons b7_3 (.cons b7_3 (.cons (c_len (e := TMsg.en) (l := r3_2)) (.cons b7_3 (.cons b7_3 (.cons b7_4 (.cons b7_4 (.cons b7_4 (.cons b7_4 (.cons b7_5 (.cons b7_5 (.cons b7_5 (.cons b7_5 (.cons b7_6 (.cons b7_6 (.cons b7_6 (.cons b7_6 (.cons b7_7 (.cons b7_7 (.cons b7_7 (.cons (c_len (e := TEntry.en) (l := r4_1.Log)) (.cons b7_7 (.cons b7_7 (.cons b7_8 (.cons b7_8 (.cons b7_8 (.cons b7_8 (.cons b7_9 (.cons b7_9 (.cons b7_9 (.cons b7_9 (.cons (Eq.refl false) (.cons (Eq.refl false) (.cons (Eq.refl false) (.cons (Eq.refl false) (.cons (Eq.refl false) (.cons (Eq.refl false) (.cons (Eq.refl false) (.cons (Eq.refl false) (.cons (Eq.refl false) (.cons (Eq.refl false) (.cons (Eq.refl false) (.cons (Eq.refl false) (.cons (Eq.refl false) (.cons (Eq.refl false) (.cons (Eq.refl false) (.cons (Eq.refl false) (.cons (Eq.refl false) (.cons (Eq.refl false) (.cons (Eq.refl false) (.cons (Eq.refl false) (.cons (Eq.refl false) (.cons (Eq.refl false) (.cons (Eq.refl false) .nil))))))))))))))))))))))))))))))))))))))))))))))))))))))) (by kernel_rfl) ?_
                refine WK.weak (l := [(.t 0, [bv false])]) (wk_of (by kernel_rfl)) ?_
                refine WK.ret (by kernel_rfl) ?_
                have h_ := some_inj h
                subst h_
                exact WKe.fin (e' := .ret) (by kernel_rfl) (fin_of (g := []) (by first | exact .inl rfl | exact .inr rfl) .nil (by kernel_rfl))
            · refine WK.rs (g := [.a ⟨bv r7_1, []⟩, .b true, .b true, .s (.t 41) [iv (r3_2.length : Int)], .b true, .b true, .b true, .b true, .b true, .b true, .b true, .b true, .b true, .b true, .b true, .b true, .b true, .b true, .b true, .b true, .b true, .s (.t 62) [iv (r4_1.Log.length : Int)], .b true, .b true, .b false, .b false, .b false, .b false, .b false, .b false, .b false, .b false, .b false, .b false, .b false, .b false, .b false, .b false, .b false, .b false, .b false, .b false, .b false, .b false, .b false, .b false, .b false, .b false, .b false, .b false, .b false, .b false, .b false, .b false, .b false]) (l' := [(.t 0, [bv false])]) (by kernel_rfl) (.cons (Asks.of (C := Meets Try.prog) (raft_May.meets fu r2_1 _ h7_2)) (.cons b7_3 (.cons b7_3 (.cons (c_len (e := TMsg.en) (l := r3_2)) (.cons b7_3 (.cons b7_3 (.cons b7_4 (.cons b7_4 (.cons b7_4 (.cons b7_4 (.cons b7_5 (.cons b7_5 (.cons b7_5 (.cons b7_5 (.cons b7_6 (.cons b7_6 (.cons b7_6 (.cons b7_6 (.cons b7_7 (.cons b7_7 (.cons b7_7 (.cons (c_len (e := TEntry.en) (l := r4_1.Log)) (.cons b7_7 (.cons b7_7 (.cons b7_8 (.cons b7_8 (.cons b7_8 (.cons b7_8 (.cons (Eq.refl false) (.cons (Eq.refl false) (.cons (Eq.refl false) (.cons (Eq.refl false) (.cons (Eq.refl false) (.cons (Eq.refl false) (.cons (Eq.refl false) (.cons (Eq.refl false) (.cons (Eq.refl false) (.cons (Eq.refl false) (.cons (Eq.refl false) (.cons (Eq.refl false) (.cons (Eq.refl false) (.cons (Eq.refl false) (.cons (Eq.refl false) (.cons (Eq.refl false) (.cons (Eq.refl false) (.cons (Eq.refl false) (.cons (Eq.refl false) (.cons (Eq.refl false) (.cons (Eq.refl false) (.cons (Eq.refl false) (.cons (Eq.refl false) (.cons (Eq.refl false) (.cons (Eq.refl false) (.cons (Eq.refl false) (.cons (Eq.refl false) .nil))))))))))))))))))))))))))))))))))))))))))))))))))))))) (by kernel_rfl) ?_
              refine WK.weak (l := [(.t 0, [bv false])]) (wk_of (by kernel_rfl)) ?_
              refine WK.ret (by kernel_rfl) ?_
              have h_ := some_inj h
              subst h_
              exact WKe.fin (e' := .ret) (by kernel_rfl) (fin_of (g := []) (by first | exact .inl rfl | exact .inr rfl) .nil (by kernel_rfl))
          · refine WK.rs (g := [.a ⟨bv r7_1, []⟩, .b true, .b true, .s (.t 41) [iv (r3_2.length : Int)], .b true, .b true, .b true, .b true, .b true, .b true, .b true, .b true, .b true, .b true, .b true, .b true, .b true, .b true, .b false, .b false, .b false, .b false, .b false, .b false, .b false, .b false, .b false, .b false, .b false, .b false, .b false, .b false, .b false, .b false, .b false, .b false, .b false, .b false, .b false, .b false, .b false, .b false, .b false, .b false, .b false, .b false, .b false, .b false, .b false, .b false, .b false, .b false, .b false, .b false]) (l' := [(.t 0, [bv false])]) (by kernel_rfl) (.cons (Asks.of (C := Meets Try.prog) (raft_May.meets fu r2_1 _ h7_2)) (.cons b7_3 (.cons b7_3 (.cons (c_len (e := TMsg.en) (l := r3_2)) (.cons b7_3 (.cons b7_3 (.cons b7_4 (.cons b7_4 (.cons b7_4 (.cons b7_4 (.cons b7_5 (.cons b7_5 (.cons b7_5 (.cons b7_5 (.cons b7_6 (.cons b7_6 (.cons b7_6 (.cons b7_6 (.cons b7_7 (.cons b7_7 (.cons b7_7 (.cons b7_7 (.cons b7_7 (.cons (Eq.refl false) (.cons (Eq.refl false) (.cons (Eq.refl false) (.cons (Eq.refl false) (.cons (Eq.refl false) (.cons (Eq.refl false) (.cons (Eq.refl false) (.cons (Eq.refl false) (.cons (Eq.refl false) (.cons (Eq.refl false) (.cons (Eq.refl false) (.cons (Eq.refl false) (.cons (Eq.refl false) (.cons (Eq.refl false) (.cons (Eq.refl false) (.cons (Eq.refl false) (.cons (Eq.refl false) (.cons (Eq.refl false) (.cons (Eq.refl false) (.cons (Eq.refl false) (.cons (Eq.refl false) (.cons (Eq.refl false) (.cons (Eq.refl false) (.cons (Eq.refl false) (.cons (Eq.refl false) (.cons (Eq.refl false) (.cons (Eq.refl false) (.cons (Eq.refl false) (.cons (Eq.refl false) (.cons (Eq.refl false) (.cons (Eq.refl false) .nil)))))))))))))))))))))))))))))))))))))))))))))))))))))) (by kernel_rfl) ?_
            refine WK.weak (l := [(.t 0, [bv false])]) (wk_of (by kernel_rfl)) ?_
            refine WK.ret (by kernel_rfl) ?_
            have h_ := some_inj h
            subst h_
            exact WKe.fin (e' := .ret) (by kernel_rfl) (fin_of (g := []) (by first | exact .inl rfl | exact .inr rfl) .nil (by kernel_rfl))
        · refine WK.rs (g := [.a ⟨bv r7_1, []⟩, .b true, .b true, .s (.t 41) [iv (r3_2.length : Int)], .b true, .b true, .b true, .b true, .b true, .b true, .b true, .b true, .b true, .b true, .b false, .b false, .b false, .b false, .b false, .b false, .b false, .b false, .b false, .b false, .b false, .b false, .b false, .b false, .b false, .b false, .b false, .b false, .b false, .b false, .b false, .b false, .b false, .b false, .b false, .b false, .b false, .b false, .b false, .b false, .b false, .b false, .b false, .b false, .b false, .b false, .b false, .b false, .b false, .b false]) (l' := [(.t 0, [bv false])]) (by kernel_rfl) (.cons (Asks.of (C := Meets Try.prog) (raft_May.meets fu r2_1 _ h7_2)) (.cons b7_3 (.cons b7_3 (.cons (c_len (e := TMsg.en) (l := r3_2)) (.cons b7_3 (.cons b7_3 (.cons b7_4 (.cons b7_4 (.cons b7_4 (.cons b7_4 (.cons b7_5 (.cons b7_5 (.cons b7_5 (.cons b7_5 (.cons b7_6 (.cons b7_6 (.cons b7_6 (.cons b7_6 (.cons (Eq.refl false) (.cons (Eq.refl false) (.cons (Eq.refl false) (.cons (Eq.refl false) (.cons (Eq.refl false) (.cons (Eq.refl false) (.cons (Eq.refl false) (.cons (Eq.refl false) (.cons (Eq.refl false) (.cons (Eq.refl false) (.cons (Eq.refl false) (.cons (Eq.refl false) (.cons (Eq.refl false) (.cons (Eq.refl false) (.cons (Eq.refl false) (.cons (Eq.refl false) (.cons (Eq.refl false) (.cons (Eq.refl false) (.cons (Eq.refl false) (.cons (Eq.refl false) (.cons (Eq.refl false) (.cons (Eq.refl false) (.cons (Eq.refl false) (.cons (Eq.refl false) (.cons (Eq.refl false) (.cons (Eq.refl false) (.cons (Eq.refl false) (.cons (Eq.refl false) (.cons (Eq.refl false) (.cons (Eq.refl false) (.cons (Eq.refl false) (.cons (Eq.refl false) (.cons (Eq.refl false) (.cons (Eq.refl false) (.cons (Eq.refl false) (.cons (Eq.refl false) .nil)))))))))))))))))))))))))))))))))))))))))))))))))))))) (by kernel_rfl) ?_
          refine WK.weak (l := [(.t 0, [bv false])]) (wk_of (by kernel_rfl)) ?_
          refine WK.ret (by kernel_rfl) ?_
          have h_ := some_inj h
          subst h_
          exact WKe.fin (e' := .ret) (by kernel_rfl) (fin_of (g := []) (by first | exact .inl rfl | exact .inr rfl) .nil (by kernel_rfl))
      · refine WK.rs (g := [.a ⟨bv r7_1, []⟩, .b true, .b true, .s (.t 41) [iv (r3_2.length : Int)], .b true, .b true, .b true, .b true, .b true, .b true, .b false, .b false, .b false, .b false, .b false, .b false, .b false, .b false, .b false, .b false, .b false, .b false, .b false, .b false, .b false, .b false, .b false, .b false, .b false, .b false, .b false, .b false, .b false, .b false, .b false, .b false, .b false, .b false, .b false, .b false, .b false, .b false, .b false, .b false, .b false, .b false, .b false, .b false, .b false, .b false, .b false, .b false, .b false, .b false]) (l' := [(.t 0, [bv false])]) (by kernel_rfl) (.cons (Asks.of (C := Meets Try.prog) (raft_May.meets fu r2_1 _ h7_2)) (.cons b7_3 (.cons b7_3 (.cons (c_len (e := TMsg.en) (l := r3_2)) (.cons b7_3 (.cons b7_3 (.cons b7_4 (.cons b7_4 (.cons b7_4 (.cons b7_4 (.cons b7_5 (.cons b7_5 (.cons b7_5 (.cons b7_5 (.cons (Eq.refl false) (.cons (Eq.refl false) (.cons (Eq.refl false) (.cons (Eq.refl false) (.cons (Eq.refl false) (.cons (Eq.refl false) (.cons (Eq.refl false) (.cons (Eq.refl false) (.cons (Eq.refl false) (.cons (Eq.refl false) (.cons (Eq.refl false) (.cons (Eq.refl false) (.cons (Eq.refl false) (.cons (Eq.refl false) (.cons (Eq.refl false) (.cons (Eq.refl false) (.cons (Eq.refl false) (.cons (Eq.refl false) (.cons (Eq.refl false) (.cons (Eq.refl false) (.cons (Eq.refl false) (.cons (Eq.refl false) (.cons (Eq.refl false) (.cons (Eq.refl false) (.cons (Eq.refl false) (.cons (Eq.refl false) (.cons (Eq.refl false) (.cons (Eq.refl false) (.cons (Eq.refl false) (.cons (Eq.refl false) (.cons (Eq.refl false) (.cons (Eq.refl false) (.cons (Eq.refl false) (.cons (Eq.refl false) (.cons (Eq.refl false) (.cons (Eq.refl false) (.cons (Eq.refl false) (.cons (Eq.refl false) (.cons (Eq.refl false) (.cons (Eq.refl false) .nil)))))))))))))))))))))))))))))))))))))))))))))))))))))) (by kernel_rfl) ?_
        refine WK.weak (l := [(.t 0, [bv false])]) (wk_of (by kernel_rfl)) ?_
        refine WK.ret (by kernel_rfl) ?_
        have h_ := some_inj h
        subst h_
        exact WKe.fin (e' := .ret) (by kernel_rfl) (fin_of (g := []) (by first | exact .inl rfl | exact .inr rfl) .nil (by kernel_rfl))
    · refine WK.rs (g := [.a ⟨bv r7_1, []⟩, .b true, .b true, .s (.t 41) [iv (r3_2.length : Int)], .b true, .b true, .b false, .b false, .b false, .b false, .b false, .b false, .b false, .b false, .b false, .b false, .b false, .b false, .b false, .b false, .b false, .b false, .b false, .b false, .b false, .b false, .b false, .b false, .b false, .b false, .b false, .b false, .b false, .b false, .b false, .b false, .b false, .b false, .b false, .b false, .b false, .b false, .b false, .b false, .b false, .b false, .b false, .b false, .b false, .b false, .b false, .b false, .b false, .b false]) (l' := [(.t 0, [bv false])]) (by kernel_rfl) (.cons (Asks.of (C := Meets Try.prog) (raft_May.meets fu r2_1 _ h7_2)) (.cons b7_3 (.cons b7_3 (.cons (c_len (e := TMsg.en) (l := r3_2)) (.cons b7_3 (.cons b7_3 (.cons b7_4 (.cons b7_4 (.cons b7_4 (.cons b7_4 (.cons (Eq.refl false) (.cons (Eq.refl false) (.cons (Eq.refl false) (.cons (Eq.refl false) (.cons (Eq.refl false) (.cons (Eq.refl false) (.cons (Eq.refl false) (.cons (Eq.refl false) (.cons (Eq.refl false) (.cons (Eq.refl false) (.cons (Eq.refl false) (.cons (Eq.refl false) (.cons (Eq.refl false) (.cons (Eq.refl false) (.cons (Eq.refl false) (.cons (Eq.refl false) (.cons (Eq.refl false) (.cons (Eq.refl false) (.cons (Eq.refl false) (.cons (Eq.refl false) (.cons (Eq.refl false) (.cons (Eq.refl false) (.cons (Eq.refl false) (.cons (Eq.refl false) (.cons (Eq.refl false) (.cons (Eq.refl false) (.cons (Eq.refl false) (.cons (Eq.refl false) (.cons (Eq.refl false) (.cons (Eq.refl false) (.cons (Eq.refl false) (.cons (Eq.refl false) (.cons (Eq.refl false) (.cons (Eq.refl false) (.cons (Eq.refl false) (.cons (Eq.refl false) (.cons (Eq.refl false) (.cons (Eq.refl false) (.cons (Eq.refl false) (.cons (Eq.refl false) (.cons (Eq.refl false) (.cons (Eq.refl false) (.cons (Eq.refl false) (.cons (Eq.refl false) .nil)))))))))))))))))))))))))))))))))))))))))))))))))))))) (by kernel_rfl) ?_
      refine WK.weak (l := [(.t 0, [bv false])]) (wk_of (by kernel_rfl)) ?_
      refine WK.ret (by kernel_rfl) ?_
      have h_ := some_inj h
      subst h_
      exact WKe.fin (e' := .ret) (by kernel_rfl) (fin_of (g := []) (by first | exact .inl rfl | exact .inr rfl) .nil (by kernel_rfl))
  · refine WK.rs (g := [.a ⟨bv r7_1, []⟩, .b false, .b false, .b false, .b false, .b false, .b false, .b false, .b false, .b false, .b false, .b false, .b false, .b false, .b false, .b false, .b false, .b false, .b false, .b false, .b false, .b false, .b false, .b false, .b false, .b false, .b false, .b false, .b false, .b false, .b false, .b false, .b false, .b false, .b false, .b false, .b false, .b false, .b false, .b false, .b false, .b false, .b false, .b false, .b false, .b false, .b false, .b false, .b false, .b false, .b false, .b false, .b false]) (l' := [(.t 0, [bv false])]) (by kernel_rfl) (.cons (Asks.of (C := Meets Try.prog) (raft_May.meets fu r2_1 _ h7_2)) (.cons b7_3 (.cons b7_3 (.cons b7_3 (.cons b7_3 (.cons (Eq.refl false) (.cons (Eq.refl false) (.cons (Eq.refl false) (.cons (Eq.refl false) (.cons (Eq.refl false) (.cons (Eq.refl false) (.cons (Eq.refl false) (.cons (Eq.refl false) (.cons (Eq.refl false) (.cons (Eq.refl false) (.cons (Eq.refl false) (.cons (Eq.refl false) (.cons (Eq.refl false) (.cons (Eq.refl false) (.cons (Eq.refl false) (.cons (Eq.refl false) (.cons (Eq.refl false) (.cons (Eq.refl false) (.cons (Eq.refl false) (.cons (Eq.refl false) (.cons (Eq.refl false) (.cons (Eq.refl false) (.cons (Eq.refl false) (.cons (Eq.refl false) (.cons (Eq.refl false) (.cons (Eq.refl false) (.cons (Eq.refl false) (.cons (Eq.refl false) (.cons (Eq.refl false) (.cons (Eq.refl false) (.cons (Eq.refl false) (.cons (Eq.refl false) (.cons (Eq.refl false) (.cons (Eq.refl false) (.cons (Eq.refl false) (.cons (Eq.refl false) (.cons (Eq.refl false) (.cons (Eq.refl false) (.cons (Eq.refl false) (.cons (Eq.refl false) (.cons (Eq.refl false) (.cons (Eq.refl false) (.cons (Eq.refl false) (.cons (Eq.refl false) (.cons (Eq.refl false) (.cons (Eq.refl false) (.cons (Eq.refl false) (.cons (Eq.refl false) .nil))))))))))))))))))))))))))))))))))))))))))))))))))))) (by kernel_rfl) ?_
    refine WK.weak (l := [(.t 0, [bv false])]) (wk_of (by kernel_rfl)) ?_
    refine WK.ret (by kernel_rfl) ?_
    have h_ := some_inj h
    subst h_
    exact WKe.fin (e' := .ret) (by kernel_rfl) (fin_of (g := []) (by first | exact .inl rfl | exact .inr rfl) .nil (by kernel_rfl))
/-- (*diwan/raft.member).yields -/
noncomputable def bd54 : Code := (Try.f54.body).getD .skip
def raft_member_yields.O : Nat → Nat := fun t => bif ([8] : List Nat).any (Nat.beq t) then 1 else 0
noncomputable def raft_member_yields (term : Int) (o0_v : TMember) : Option TMember :=
  some (TMember.mk (TRaft.mk o0_v.Raft.Me o0_v.Raft.Nodes o0_v.Raft.Wait term 0 o0_v.Raft.Log o0_v.Raft.Commit 0 0 (List.replicate o0_v.Raft.Votes.length (false : Bool)) o0_v.Raft.Next o0_v.Raft.Match o0_v.Raft.Clock) o0_v.out)
theorem raft_member_yields.meets (term : Int) (o0_v : TMember) (z0 : TMember) (h : raft_member_yields term o0_v = some z0) : Meets Try.prog ⟨54, [.ptr 1000 0, iv term], [(TMember.ob_00000100011101 o0_v)]⟩ ⟨.tup [], [(TMember.ob_00000100011101 z0)]⟩ := by
  refine meets_of (O := raft_member_yields.O) hmix (fn := Try.f54) (code := bd54) (by kernel_rfl) ?_
  refine WK.weak (l := [(.t 0, [.ptr 1000 0]), (.t 1, [iv term]), (.o 1000, (TMember.ob_00000100011101 o0_v))]) (wk_of (by kernel_rfl)) ?_
  unfold raft_member_yields at h
  refine WK.rs (g := []) (l' := [(.t 0, [.ptr 1000 0]), (.o 1000, (TMember.ob_00000100011101 (TMember.mk (TRaft.mk o0_v.Raft.Me o0_v.Raft.Nodes o0_v.Raft.Wait term 0 o0_v.Raft.Log o0_v.Raft.Commit 0 0 o0_v.Raft.Votes o0_v.Raft.Next o0_v.Raft.Match o0_v.Raft.Clock) o0_v.out)))]) (by kernel_rfl) .nil (by kernel_rfl) ?_
  have h_ := some_inj h
  subst h_
  exact WK.rf (g := [.s (.o 1000) (TMember.ob_00000100011101 (TMember.mk (TRaft.mk o0_v.Raft.Me o0_v.Raft.Nodes o0_v.Raft.Wait term 0 o0_v.Raft.Log o0_v.Raft.Commit 0 0 (List.replicate o0_v.Raft.Votes.length (false : Bool)) o0_v.Raft.Next o0_v.Raft.Match o0_v.Raft.Clock) o0_v.out))]) (.cons (congrArg (fun d : DV => (TMember.ob_00000100011101 (TMember.mk (TRaft.mk o0_v.Raft.Me o0_v.Raft.Nodes o0_v.Raft.Wait term 0 o0_v.Raft.Log o0_v.Raft.Commit 0 0 (List.replicate o0_v.Raft.Votes.length (false : Bool)) o0_v.Raft.Next o0_v.Raft.Match o0_v.Raft.Clock) o0_v.out)).set 9 (AV.data d)) (c_clr (e := e_b) (s := 1) (nl := none) (l := o0_v.Raft.Votes) (x := (false : Bool)))) .nil) (by kernel_rfl) (by kernel_rfl)
/-- diwan/ulog.Newer -/
noncomputable def bd77 : Code := (Try.f77.body).getD .skip
def ulog_Newer.O : Nat → Nat := fun t => bif ([6, 7] : List Nat).any (Nat.beq t) then 1 else 0
noncomputable def ulog_Newer (l : List TEntry) (i : Int) (term : Int) : Option Bool :=
  bd (ulog_Term l (l.length : Int)) fun r2_1 =>
  br (decide (term > r2_1))
    (some true)
    (br (term == r2_1)
      (some (decide (i ≥ (l.length : Int))))
      (some false))
theorem ulog_Newer.meets (l : List TEntry) (i : Int) (term : Int) (z0 : Bool) (h : ulog_Newer l i term = some z0) : Meets Try.prog ⟨77, [.data (.slc false none 6 (List.map TEntry.en l)), iv i, iv term], []⟩ ⟨bv z0, []⟩ := by
  refine meets_of (O := ulog_Newer.O) hmix (fn := Try.f77) (code := bd77) (by kernel_rfl) ?_
  refine WK.weak (l := [(.t 0, [.data (.slc false none 6 (List.map TEntry.en l))]), (.t 1, [iv i]), (.t 2, [iv term])]) (wk_of (by kernel_rfl)) ?_
  unfold ulog_Newer at h
  refine WK.rs (g := []) (l' := [(.t 0, [.data (.slc false none 6 (List.map TEntry.en l))]), (.t 1, [iv i]), (.t 2, [iv term])]) (by kernel_rfl) .nil (by kernel_rfl) ?_
  obtain ⟨r2_1, h2_2, h⟩ := bd_inv h
  refine WK.rs (g := [.s (.t 10) [iv (l.length : Int)], .a ⟨iv r2_1, []⟩]) (l' := [(.t 0, [.data (.slc false none 6 (List.map TEntry.en l))]), (.t 1, [iv i]), (.t 2, [iv term]), (.t 7, [iv r2_1])]) (by kernel_rfl) (.cons (c_len (e := TEntry.en) (l := l)) (.cons (Asks.of (C := Meets Try.prog) (ulog_Term.meets l (l.length : Int) _ h2_2)) .nil)) (by kernel_rfl) ?_
  rcases br_inv h with ⟨b3_1, h⟩ | ⟨b3_1, h⟩
  · refine WK.rs (g := [.b true, .b true, .b true, .b true, .b true, .b true]) (l' := [(.t 6, [bv true])]) (by kernel_rfl) (.cons b3_1 (.cons b3_1 (.cons b3_1 (.cons b3_1 (.cons b3_1 (.cons b3_1 .nil)))))) (by kernel_rfl) ?_
    refine WK.weak (l := [(.t 6, [bv true])]) (wk_of (by kernel_rfl)) ?_
    refine WK.ret (by kernel_rfl) ?_
    have h_ := some_inj h
    subst h_
    exact WKe.fin (e' := .ret) (by kernel_rfl) (fin_of (g := []) (by first | exact .inl rfl | exact .inr rfl) .nil (by kernel_rfl))
  · rcases br_inv h with ⟨b3_2, h⟩ | ⟨b3_2, h⟩
    · refine WK.rs (g := [.b false, .b false, .b false, .b false, .b true, .b true, .b true, .s (.t 22) [iv (l.length : Int)], .b true, .b false, .b true, .b false]) (l' := [(.t 6, [bv (decide (i ≥ (l.length : Int)))])]) (by kernel_rfl) (.cons b3_1 (.cons b3_1 (.cons b3_1 (.cons b3_1 (.cons b3_2 (.cons b3_2 (.cons b3_2 (.cons (c_len (e := TEntry.en) (l := l)) (.cons b3_2 (.cons b3_1 (.cons b3_2 (.cons b3_1 .nil)))))))))))) (by kernel_rfl) ?_
      refine WK.weak (l := [(.t 6, [bv (decide (i ≥ (l.length : Int)))])]) (wk_of (by kernel_rfl)) ?_
      refine WK.ret (by kernel_rfl) ?_
      have h_ := some_inj h
      subst h_
      exact WKe.fin (e' := .ret) (by kernel_rfl) (fin_of (g := []) (by first | exact .inl rfl | exact .inr rfl) .nil (by kernel_rfl))
    · refine WK.rs (g := [.b false, .b false, .b false, .b false, .b false, .b false, .b false, .b false, .b false, .b false, .b false]) (l' := [(.t 6, [bv false])]) (by kernel_rfl) (.cons b3_1 (.cons b3_1 (.cons b3_1 (.cons b3_1 (.cons b3_2 (.cons b3_2 (.cons b3_2 (.cons b3_2 (.cons b3_1 (.cons b3_2 (.cons b3_1 .nil))))))))))) (by kernel_rfl) ?_
      refine WK.weak (l := [(.t 6, [bv false])]) (wk_of (by kernel_rfl)) ?_
      refine WK.ret (by kernel_rfl) ?_
      have h_ := some_inj h
      subst h_
      exact WKe.fin (e' := .ret) (by kernel_rfl) (fin_of (g := []) (by first | exact .inl rfl | exact .inr rfl) .nil (by kernel_rfl))
/-- (*diwan/raft.member).sends -/
def raft_member_sends_2.O : Nat → Nat := fun t => bif ([5, 11, 26, 27] : List Nat).any (Nat.beq t) then 1 else 0
noncomputable def raft_member_sends_2 (to : Int) (m : TMsg) (o0_v : TMember) : Option TMember :=
  gd (decide (o0_v.out.length + ([(TMsg.mk m.Kind o0_v.Raft.Me to m.Part o0_v.Raft.Term m.Index m.LogTerm m.Commit m.OK m.Entries m.T m.Session m.Seq m.Pos m.Shard m.Span m.FromKey m.ToKey m.Keys m.Got m.Err)] : List TMsg).length ≤ 4294967296)) <|
  some (TMember.mk o0_v.Raft (o0_v.out ++ ([(TMsg.mk m.Kind o0_v.Raft.Me to m.Part o0_v.Raft.Term m.Index m.LogTerm m.Commit m.OK m.Entries m.T m.Session m.Seq m.Pos m.Shard m.Span m.FromKey m.ToKey m.Keys m.Got m.Err)] : List TMsg)))
theorem raft_member_sends_2.meets (to : Int) (m : TMsg) (o0_v : TMember) (z0 : TMember) (h : raft_member_sends_2 to m o0_v = some z0) : Meets Try.prog ⟨78, [.ptr 1000 0, iv to, .data (TMsg.ag m)], [(TMember.ob_00000100011101 o0_v)]⟩ ⟨.tup [], [(TMember.ob_00000100011101 z0)]⟩ := by
  refine meets_of (O := raft_member_sends_2.O) hmix (fn := Try.f78) (code := bd78) (by kernel_rfl) ?_
  refine WK.weak (l := [(.t 0, [.ptr 1000 0]), (.t 1, [iv to]), (.t 2, [.data (TMsg.ag m)]), (.o 1000, (TMember.ob_00000100011101 o0_v))]) (wk_of (by kernel_rfl)) ?_
  unfold raft_member_sends_2 at h
  refine WK.rs (g := []) (l' := [(.t 0, [.ptr 1000 0]), (.t 1, [iv to]), (.t 5, [.ptr 5 0]), (.o 5, (TMsg.ob m)), (.o 1000, (TMember.ob_00000100011101 o0_v))]) (by kernel_rfl) .nil (by kernel_rfl) ?_
  refine WK.rs (g := []) (l' := [(.t 0, [.ptr 1000 0]), (.t 5, [.ptr 5 0]), (.o 5, (TMsg.ob (TMsg.mk m.Kind o0_v.Raft.Me to m.Part o0_v.Raft.Term m.Index m.LogTerm m.Commit m.OK m.Entries m.T m.Session m.Seq m.Pos m.Shard m.Span m.FromKey m.ToKey m.Keys m.Got m.Err))), (.o 1000, (TMember.ob_00000100011101 o0_v))]) (by kernel_rfl) (.cons (Eq.refl true) .nil) (by kernel_rfl) ?_
  obtain ⟨c3_1, h⟩ := gd_inv h
  have h_ := some_inj h
  subst h_
  exact WK.rf (g := [.s (.t 27) [.data (.slc true none 24 (List.map TMsg.en (o0_v.out ++ ([(TMsg.mk m.Kind o0_v.Raft.Me to m.Part o0_v.Raft.Term m.Index m.LogTerm m.Commit m.OK m.Entries m.T m.Session m.Seq m.Pos m.Shard m.Span m.FromKey m.ToKey m.Keys m.Got m.Err)] : List TMsg))))]]) (.cons (c_al (e := TMsg.en) (f := TMsg.en) c3_1) (.cons (congrArg (fun d : DV => [AV.data d]) (c_app (e := TMsg.en) (s := 24) (l := o0_v.out) (m := ([(TMsg.mk m.Kind o0_v.Raft.Me to m.Part o0_v.Raft.Term m.Index m.LogTerm m.Commit m.OK m.Entries m.T m.Session m.Seq m.Pos m.Shard m.Span m.FromKey m.ToKey m.Keys m.Got m.Err)] : List TMsg)))) (.cons (Eq.refl true) .nil))) (by kernel_rfl) (by kernel_rfl)
/-- (*diwan/raft.member).askVote -/
noncomputable def bd50 : Code := (Try.f50.body).getD .skip
def raft_member_askVote.O : Nat → Nat := fun t => bif ([3, 4, 58] : List Nat).any (Nat.beq t) then 1 else 0
noncomputable def raft_member_askVote (m : TMsg) (o0_v : TMember) : Option TMember :=
  jn (fun (j3_0 : Bool) =>
    br j3_0
      (bd (raft_member_sends_2 m.From (TMsg.mk 2 0 0 0 0 0 0 0 j3_0 [] (TTxn.mk 0 0 [] []) 0 0 0 0 false ByteArray.empty ByteArray.empty [] [] 0) (TMember.mk (TRaft.mk o0_v.Raft.Me o0_v.Raft.Nodes o0_v.Raft.Wait o0_v.Raft.Term m.From o0_v.Raft.Log o0_v.Raft.Commit o0_v.Raft.Role o0_v.Raft.Leader o0_v.Raft.Votes o0_v.Raft.Next o0_v.Raft.Match 0) o0_v.out)) fun r7_1 =>
      some r7_1)
      (bd (raft_member_sends_2 m.From (TMsg.mk 2 0 0 0 0 0 0 0 j3_0 [] (TTxn.mk 0 0 [] []) 0 0 0 0 false ByteArray.empty ByteArray.empty [] [] 0) o0_v) fun r8_1 =>
      some r8_1)) fun k3 =>
  br (m.Term == o0_v.Raft.Term)
    (br (o0_v.Raft.Vote == 0)
      (bd (ulog_Newer o0_v.Raft.Log m.Index m.LogTerm) fun r2_3 =>
      k3 r2_3)
      (br (o0_v.Raft.Vote == m.From)
        (bd (ulog_Newer o0_v.Raft.Log m.Index m.LogTerm) fun r2_4 =>
        k3 r2_4)
        (k3 false)))
    (k3 false)
theorem raft_member_askVote.meets (m : TMsg) (o0_v : TMember) (z0 : TMember) (h : raft_member_askVote m o0_v = some z0) : Meets Try.prog ⟨50, [.ptr 1000 0, .data (TMsg.ag m)], [(TMember.ob_00000100011101 o0_v)]⟩ ⟨.tup [], [(TMember.ob_00000100011101 z0)]⟩ := by
  refine meets_of (O := raft_member_askVote.O) hmix (fn := Try.f50) (code := bd50) (by kernel_rfl) ?_
  refine WK.weak (l := [(.t 0, [.ptr 1000 0]), (.t 1, [.data (TMsg.ag m)]), (.o 1000, (TMember.ob_00000100011101 o0_v))]) (wk_of (by kernel_rfl)) ?_
  unfold raft_member_askVote at h
  refine WK.rs (g := []) (l' := [(.t 0, [.ptr 1000 0]), (.t 3, [.ptr 3 0]), (.o 3, (TMsg.ob m)), (.o 1000, (TMember.ob_00000100011101 o0_v))]) (by kernel_rfl) .nil (by kernel_rfl) ?_
  obtain ⟨k3, hk3, h⟩ := jn_inv h
  have Jk3 : ∀ (j3_0 : Bool), k3 j3_0 = some z0 → WK Try.prog raft_member_askVote.O (Ck Try.prog) (cR (cR bd50)) [] (ofL [(.t 0, [.ptr 1000 0]), (.t 3, [.ptr 3 0]), (.t 4, [bv j3_0]), (.o 3, (TMsg.ob m)), (.o 1000, (TMember.ob_00000100011101 o0_v))]) (Fin Try.prog raft_member_askVote.O Try.f50 1 ⟨.tup [], [(TMember.ob_00000100011101 z0)]⟩) := by
    intro j3_0 h
    rw [hk3] at h
    refine WK.seq (by kernel_rfl) ?_
    refine WK.rs (g := []) (l' := [(.t 0, [.ptr 1000 0]), (.t 3, [.ptr 3 0]), (.t 4, [bv j3_0]), (.t 43, [bv j3_0]), (.o 3, (TMsg.ob m)), (.o 1000, (TMember.ob_00000100011101 o0_v))]) (by kernel_rfl) .nil (by kernel_rfl) ?_
    rcases br_inv h with ⟨b5_0, h⟩ | ⟨b5_0, h⟩
    · refine WK.ct (b := j3_0) (by kernel_rfl) b5_0 ?_
      refine WK.rc (g := []) (l' := [(.t 0, [.ptr 1000 0]), (.t 3, [.ptr 3 0]), (.t 4, [bv j3_0]), (.o 3, (TMsg.ob m)), (.o 1000, (TMember.ob_00000100011101 (TMember.mk (TRaft.mk o0_v.Raft.Me o0_v.Raft.Nodes o0_v.Raft.Wait o0_v.Raft.Term m.From o0_v.Raft.Log o0_v.Raft.Commit o0_v.Raft.Role o0_v.Raft.Leader o0_v.Raft.Votes o0_v.Raft.Next o0_v.Raft.Match 0) o0_v.out)))]) .nil (by kernel_rfl) (y := (cR (cR (cR bd50)))) (ks' := []) (by kernel_rfl) ?_
      obtain ⟨r7_1, h7_2, h⟩ := bd_inv h
      have h_ := some_inj h
      subst h_
      exact WK.rf (g := [.a ⟨.tup [], [(TMember.ob_00000100011101 r7_1)]⟩]) (.cons (Asks.of (C := Meets Try.prog) (raft_member_sends_2.meets m.From (TMsg.mk 2 0 0 0 0 0 0 0 j3_0 [] (TTxn.mk 0 0 [] []) 0 0 0 0 false ByteArray.empty ByteArray.empty [] [] 0) (TMember.mk (TRaft.mk o0_v.Raft.Me o0_v.Raft.Nodes o0_v.Raft.Wait o0_v.Raft.Term m.From o0_v.Raft.Log o0_v.Raft.Commit o0_v.Raft.Role o0_v.Raft.Leader o0_v.Raft.Votes o0_v.Raft.Next o0_v.Raft.Match 0) o0_v.out) _ h7_2)) .nil) (by kernel_rfl) (by kernel_rfl)
    · refine WK.ce (b := j3_0) (by kernel_rfl) b5_0 ?_
      refine WK.skip (by kernel_rfl) ?_
      refine WKe.code (y := (cR (cR (cR bd50)))) (ks' := []) (by kernel_rfl) ?_
      obtain ⟨r8_1, h8_2, h⟩ := bd_inv h
      have h_ := some_inj h
      subst h_
      exact WK.rf (g := [.a ⟨.tup [], [(TMember.ob_00000100011101 r8_1)]⟩]) (.cons (Asks.of (C := Meets Try.prog) (raft_member_sends_2.meets m.From (TMsg.mk 2 0 0 0 0 0 0 0 j3_0 [] (TTxn.mk 0 0 [] []) 0 0 0 0 false ByteArray.empty ByteArray.empty [] [] 0) o0_v _ h8_2)) .nil) (by kernel_rfl) (by kernel_rfl)
  clear hk3
  rcases br_inv h with ⟨b2_1, h⟩ | ⟨b2_1, h⟩
  · rcases br_inv h with ⟨b2_2, h⟩ | ⟨b2_2, h⟩
    · obtain ⟨r2_3, h2_4, h⟩ := bd_inv h
      refine WK.rs (g := [.b true, .b true, .b true, .b true, .b true, .b true, .b true, .b true, .b true, .b true, .b true, .b true, .b true, .b true, .b true, .b true, .b true, .b true, .b true, .b true, .b true, .b true, .b true, .b true, .b true, .b true, .b true, .b true, .a ⟨bv r2_3, []⟩, .b true]) (l' := [(.t 0, [.ptr 1000 0]), (.t 3, [.ptr 3 0]), (.t 4, [bv r2_3]), (.o 3, (TMsg.ob m)), (.o 1000, (TMember.ob_00000100011101 o0_v))]) (by kernel_rfl) (.cons b2_1 (.cons b2_1 (.cons b2_1 (.cons b2_1 (.cons b2_1 (.cons b2_1 (.cons b2_1 (.cons b2_2 (.cons b2_2 (.cons b2_2 (.cons b2_2 (.cons b2_2 (.cons b2_2 (.cons b2_2 (.cons b2_2 (.cons b2_1 (.cons b2_2 (.cons b2_1 (.cons (Eq.refl true) (.cons (Eq.refl true) (.cons (Eq.refl true) (.cons (Eq.refl true) (.cons (Eq.refl true) (.cons (Eq.refl true) (.cons (Eq.refl true) (.cons (Eq.refl true) (.cons (Eq.refl true) (.cons (Eq.refl true) (.cons (Asks.of (C := Meets Try.prog) (ulog_Newer.meets o0_v.Raft.Log m.Index m.LogTerm _ h2_4)) (.cons (Eq.refl true) (.cons (Eq.refl true) .nil))))))))))))))))))))))))))))))) (by kernel_rfl) ?_
      exact WK.weak (l := [(.t 0, [.ptr 1000 0]), (.t 3, [.ptr 3 0]), (.t 4, [bv r2_3]), (.o 3, (TMsg.ob m)), (.o 1000, (TMember.ob_00000100011101 o0_v))]) (wk_of (by kernel_rfl)) (Jk3 r2_3 h)
    · rcases br_inv h with ⟨b2_3, h⟩ | ⟨b2_3, h⟩
      · obtain ⟨r2_4, h2_5, h⟩ := bd_inv h
        refine WK.rs (g := [.b true, .b true, .b true, .b true, .b true, .b true, .b true, .b false, .b false, .b false, .b false, .b false, .b false, .b false, .b false, .b true, .b false, .b true, .b true, .b true, .b true, .b true, .b true, .b true, .b true, .b true, .b true, .b true, .a ⟨bv r2_4, []⟩, .b true]) (l' := [(.t 0, [.ptr 1000 0]), (.t 3, [.ptr 3 0]), (.t 4, [bv r2_4]), (.o 3, (TMsg.ob m)), (.o 1000, (TMember.ob_00000100011101 o0_v))]) (by kernel_rfl) (.cons b2_1 (.cons b2_1 (.cons b2_1 (.cons b2_1 (.cons b2_1 (.cons b2_1 (.cons b2_1 (.cons b2_2 (.cons b2_2 (.cons b2_2 (.cons b2_2 (.cons b2_2 (.cons b2_2 (.cons b2_2 (.cons b2_2 (.cons b2_1 (.cons b2_2 (.cons b2_1 (.cons b2_3 (.cons b2_3 (.cons b2_3 (.cons b2_3 (.cons b2_3 (.cons b2_3 (.cons b2_3 (.cons b2_3 (.cons b2_3 (.cons b2_3 (.cons (Asks.of (C := Meets Try.prog) (ulog_Newer.meets o0_v.Raft.Log m.Index m.LogTerm _ h2_5)) (.cons b2_3 (.cons (Eq.refl true) .nil))))))))))))))))))))))))))))))) (by kernel_rfl) ?_
        exact WK.weak (l := [(.t 0, [.ptr 1000 0]), (.t 3, [.ptr 3 0]), (.t 4, [bv r2_4]), (.o 3, (TMsg.ob m)), (.o 1000, (TMember.ob_00000100011101 o0_v))]) (wk_of (by kernel_rfl)) (Jk3 r2_4 h)
      · refine WK.rs (g := [.b true, .b true, .b true, .b true, .b true, .b true, .b true, .b false, .b false, .b false, .b false, .b false, .b false, .b false, .b false, .b true, .b false, .b true, .b false, .b false, .b false, .b false, .b false, .b false, .b false, .b false, .b false, .b false, .b false]) (l' := [(.t 0, [.ptr 1000 0]), (.t 3, [.ptr 3 0]), (.t 4, [bv false]), (.o 3, (TMsg.ob m)), (.o 1000, (TMember.ob_00000100011101 o0_v))]) (by kernel_rfl) (.cons b2_1 (.cons b2_1 (.cons b2_1 (.cons b2_1 (.cons b2_1 (.cons b2_1 (.cons b2_1 (.cons b2_2 (.cons b2_2 (.cons b2_2 (.cons b2_2 (.cons b2_2 (.cons b2_2 (.cons b2_2 (.cons b2_2 (.cons b2_1 (.cons b2_2 (.cons b2_1 (.cons b2_3 (.cons b2_3 (.cons b2_3 (.cons b2_3 (.cons b2_3 (.cons b2_3 (.cons b2_3 (.cons b2_3 (.cons b2_3 (.cons b2_3 (.cons b2_3 (.cons (Eq.refl true) .nil)))))))))))))))))))))))))))))) (by kernel_rfl) ?_
        exact WK.weak (l := [(.t 0, [.ptr 1000 0]), (.t 3, [.ptr 3 0]), (.t 4, [bv false]), (.o 3, (TMsg.ob m)), (.o 1000, (TMember.ob_00000100011101 o0_v))]) (wk_of (by kernel_rfl)) (Jk3 false h)
  · refine WK.rs (g := [.b false, .b false, .b false, .b false, .b false, .b false, .b false, .b false, .b false, .b false, .b false, .b false, .b false, .b false, .b false, .b false, .b false, .b false, .b false, .b false]) (l' := [(.t 0, [.ptr 1000 0]), (.t 3, [.ptr 3 0]), (.t 4, [bv false]), (.o 3, (TMsg.ob m)), (.o 1000, (TMember.ob_00000100011101 o0_v))]) (by kernel_rfl) (.cons b2_1 (.cons b2_1 (.cons b2_1 (.cons b2_1 (.cons b2_1 (.cons b2_1 (.cons b2_1 (.cons b2_1 (.cons b2_1 (.cons (Eq.refl false) (.cons (Eq.refl false) (.cons (Eq.refl false) (.cons (Eq.refl false) (.cons (Eq.refl false) (.cons (Eq.refl false) (.cons (Eq.refl false) (.cons (Eq.refl false) (.cons (Eq.refl false) (.cons (Eq.refl false) (.cons (Eq.refl false) (.cons (Eq.refl true) .nil))))))))))))))))))))) (by kernel_rfl) ?_
    exact WK.weak (l := [(.t 0, [.ptr 1000 0]), (.t 3, [.ptr 3 0]), (.t 4, [bv false]), (.o 3, (TMsg.ob m)), (.o 1000, (TMember.ob_00000100011101 o0_v))]) (wk_of (by kernel_rfl)) (Jk3 false h)
/-- (*diwan/raft.member).vote -/
noncomputable def bd51 : Code := (Try.f51.body).getD .skip
def raft_member_vote.O : Nat → Nat := fun t => bif ([3] : List Nat).any (Nat.beq t) then 1 else 0
noncomputable def raft_member_vote (fu : Nat) (m : TMsg) (o0_v : TMember) : Option TMember :=
  br (m.Term == o0_v.Raft.Term)
    (br (o0_v.Raft.Role == 1)
      (br m.OK
        (ix o0_v.Raft.Votes (w64 (m.From - 1)) fun x4_1 =>
        bd (raft_member_elected fu (TMember.mk (TRaft.mk o0_v.Raft.Me o0_v.Raft.Nodes o0_v.Raft.Wait o0_v.Raft.Term o0_v.Raft.Vote o0_v.Raft.Log o0_v.Raft.Commit o0_v.Raft.Role o0_v.Raft.Leader (o0_v.Raft.Votes.set (w64 (m.From - 1)).toNat true) o0_v.Raft.Next o0_v.Raft.Match o0_v.Raft.Clock) o0_v.out)) fun (r5_1, r5_2) =>
        some r5_2)
        (some o0_v))
      (some o0_v))
    (some o0_v)
theorem raft_member_vote.meets (fu : Nat) (m : TMsg) (o0_v : TMember) (z0 : TMember) (h : raft_member_vote fu m o0_v = some z0) : Meets Try.prog ⟨51, [.ptr 1000 0, .data (TMsg.ag m)], [(TMember.ob_00000100011101 o0_v)]⟩ ⟨.tup [], [(TMember.ob_00000000011101 z0)]⟩ := by
  refine meets_of (O := raft_member_vote.O) hmix (fn := Try.f51) (code := bd51) (by kernel_rfl) ?_
  refine WK.weak (l := [(.t 0, [.ptr 1000 0]), (.t 1, [.data (TMsg.ag m)]), (.o 1000, (TMember.ob_00000100011101 o0_v))]) (wk_of (by kernel_rfl)) ?_
  unfold raft_member_vote at h
  refine WK.rs (g := []) (l' := [(.t 0, [.ptr 1000 0]), (.t 3, [.ptr 3 0]), (.o 3, (TMsg.ob m)), (.o 1000, (TMember.ob_00000100011101 o0_v))]) (by kernel_rfl) .nil (by kernel_rfl) ?_
  rcases br_inv h with ⟨b2_1, h⟩ | ⟨b2_1, h⟩
  · rcases br_inv h with ⟨b2_2, h⟩ | ⟨b2_2, h⟩
    · refine WK.rs (g := [.b true, .b true, .b true, .b true, .b true, .b true, .b true, .b true, .b true, .b true]) (l' := [(.t 0, [.ptr 1000 0]), (.t 3, [.ptr 3 0]), (.t 23, [bv m.OK]), (.o 3, (TMsg.ob m)), (.o 1000, (TMember.ob_00000100011101 o0_v))]) (by kernel_rfl) (.cons b2_1 (.cons b2_1 (.cons b2_1 (.cons b2_1 (.cons b2_1 (.cons b2_1 (.cons b2_1 (.cons b2_2 (.cons b2_2 (.cons b2_2 (.cons (Eq.refl true) .nil))))))))))) (by kernel_rfl) ?_
      rcases br_inv h with ⟨b3_0, h⟩ | ⟨b3_0, h⟩
      · refine WK.ct (b := m.OK) (by kernel_rfl) b3_0 ?_
        obtain ⟨x4_1, a4_2, e4_3, h⟩ := ix_inv h
        refine WK.rs (g := [.c (e_b x4_1), .s (.o 1000) (TMember.ob_00000100011101 (TMember.mk (TRaft.mk o0_v.Raft.Me o0_v.Raft.Nodes o0_v.Raft.Wait o0_v.Raft.Term o0_v.Raft.Vote o0_v.Raft.Log o0_v.Raft.Commit o0_v.Raft.Role o0_v.Raft.Leader (o0_v.Raft.Votes.set (w64 (m.From - 1)).toNat true) o0_v.Raft.Next o0_v.Raft.Match o0_v.Raft.Clock) o0_v.out))]) (l' := [(.t 0, [.ptr 1000 0]), (.o 1000, (TMember.ob_00000100011101 (TMember.mk (TRaft.mk o0_v.Raft.Me o0_v.Raft.Nodes o0_v.Raft.Wait o0_v.Raft.Term o0_v.Raft.Vote o0_v.Raft.Log o0_v.Raft.Commit o0_v.Raft.Role o0_v.Raft.Leader (o0_v.Raft.Votes.set (w64 (m.From - 1)).toNat true) o0_v.Raft.Next o0_v.Raft.Match o0_v.Raft.Clock) o0_v.out)))]) (by kernel_rfl) (.cons (c_ix (e := e_b) a4_2 e4_3) (.cons (c_el (e := e_b) e4_3) (.cons (congrArg (fun d : DV => (TMember.ob_00000100011101 (TMember.mk (TRaft.mk o0_v.Raft.Me o0_v.Raft.Nodes o0_v.Raft.Wait o0_v.Raft.Term o0_v.Raft.Vote o0_v.Raft.Log o0_v.Raft.Commit o0_v.Raft.Role o0_v.Raft.Leader (o0_v.Raft.Votes.set (w64 (m.From - 1)).toNat true) o0_v.Raft.Next o0_v.Raft.Match o0_v.Raft.Clock) o0_v.out)).set 9 (AV.data d)) (c_set (e := e_b) (s := 1) (nl := none) (l := o0_v.Raft.Votes) (i := (w64 (m.From - 1)).toNat) (x := true))) (.cons (Eq.refl true) .nil)))) (by kernel_rfl) ?_
        obtain ⟨⟨r5_1, r5_2⟩, h5_3, h⟩ := bd_inv h
        have h_ := some_inj h
        subst h_
        exact WK.rf (g := [.a ⟨bv r5_1, [(TMember.ob_00000000011101 r5_2)]⟩]) (.cons (Asks.of (C := Meets Try.prog) (raft_member_elected.meets fu (TMember.mk (TRaft.mk o0_v.Raft.Me o0_v.Raft.Nodes o0_v.Raft.Wait o0_v.Raft.Term o0_v.Raft.Vote o0_v.Raft.Log o0_v.Raft.Commit o0_v.Raft.Role o0_v.Raft.Leader (o0_v.Raft.Votes.set (w64 (m.From - 1)).toNat true) o0_v.Raft.Next o0_v.Raft.Match o0_v.Raft.Clock) o0_v.out) _ _ h5_3)) .nil) (by kernel_rfl) (by kernel_rfl)
      · refine WK.ce (b := m.OK) (by kernel_rfl) b3_0 ?_
        refine WK.shareO (i := 1000) (cc := 5) (l' := [(.o 1000, (TMember.ob_00000000011101 o0_v))]) (by kernel_rfl) (by kernel_rfl) (by kernel_rfl) ?_
        refine WK.weak (l := [(.o 1000, (TMember.ob_00000000011101 o0_v))]) (wk_of (by kernel_rfl)) ?_
        refine WK.skip (by kernel_rfl) ?_
        have h_ := some_inj h
        subst h_
        exact WKe.fin (e' := .normal) (by kernel_rfl) (fin_of (g := []) (by first | exact .inl rfl | exact .inr rfl) .nil (by kernel_rfl))
    · refine WK.rs (g := [.b true, .b true, .b true, .b true, .b true, .b true, .b true, .b false, .b false, .b false]) (l' := [(.t 0, [.ptr 1000 0]), (.t 3, [.ptr 3 0]), (.t 23, [bv false]), (.o 3, (TMsg.ob m)), (.o 1000, (TMember.ob_00000100011101 o0_v))]) (by kernel_rfl) (.cons b2_1 (.cons b2_1 (.cons b2_1 (.cons b2_1 (.cons b2_1 (.cons b2_1 (.cons b2_1 (.cons b2_2 (.cons b2_2 (.cons b2_2 (.cons (Eq.refl true) .nil))))))))))) (by kernel_rfl) ?_
      refine WK.ce (b := false) (by kernel_rfl) rfl ?_
      refine WK.shareO (i := 1000) (cc := 5) (l' := [(.o 1000, (TMember.ob_00000000011101 o0_v))]) (by kernel_rfl) (by kernel_rfl) (by kernel_rfl) ?_
      refine WK.weak (l := [(.o 1000, (TMember.ob_00000000011101 o0_v))]) (wk_of (by kernel_rfl)) ?_
      refine WK.skip (by kernel_rfl) ?_
      have h_ := some_inj h
      subst h_
      exact WKe.fin (e' := .normal) (by kernel_rfl) (fin_of (g := []) (by first | exact .inl rfl | exact .inr rfl) .nil (by kernel_rfl))
  · refine WK.rs (g := [.b false, .b false, .b false, .b false, .b false, .b false, .b false, .b false, .b false, .b false]) (l' := [(.t 0, [.ptr 1000 0]), (.t 3, [.ptr 3 0]), (.t 23, [bv false]), (.o 3, (TMsg.ob m)), (.o 1000, (TMember.ob_00000100011101 o0_v))]) (by kernel_rfl) (.cons b2_1 (.cons b2_1 (.cons b2_1 (.cons b2_1 (.cons b2_1 (.cons b2_1 (.cons b2_1 (.cons (Eq.refl false) (.cons (Eq.refl false) (.cons (Eq.refl false) (.cons (Eq.refl true) .nil))))))))))) (by kernel_rfl) ?_
    refine WK.ce (b := false) (by kernel_rfl) rfl ?_
    refine WK.shareO (i := 1000) (cc := 5) (l' := [(.o 1000, (TMember.ob_00000000011101 o0_v))]) (by kernel_rfl) (by kernel_rfl) (by kernel_rfl) ?_
    refine WK.weak (l := [(.o 1000, (TMember.ob_00000000011101 o0_v))]) (wk_of (by kernel_rfl)) ?_
    refine WK.skip (by kernel_rfl) ?_
    have h_ := some_inj h
    subst h_
    exact WKe.fin (e' := .normal) (by kernel_rfl) (fin_of (g := []) (by first | exact .inl rfl | exact .inr rfl) .nil (by kernel_rfl))
/-- diwan/ulog.Has -/
noncomputable def bd80 : Code := (Try.f80.body).getD .skip
def ulog_Has.O : Nat → Nat := fun t => bif ([6] : List Nat).any (Nat.beq t) then 1 else 0
noncomputable def ulog_Has (l : List TEntry) (i : Int) (term : Int) : Option Bool :=
  br (i == 0)
    (some true)
    (br (decide (i ≥ 1))
      (br (decide (i ≤ (l.length : Int)))
        (bd (ulog_Term l i) fun r2_4 =>
        some (r2_4 == term))
        (some false))
      (some false))
theorem ulog_Has.meets (l : List TEntry) (i : Int) (term : Int) (z0 : Bool) (h : ulog_Has l i term = some z0) : Meets Try.prog ⟨80, [.data (.slc false none 6 (List.map TEntry.en l)), iv i, iv term], []⟩ ⟨bv z0, []⟩ := by
  refine meets_of (O := ulog_Has.O) hmix (fn := Try.f80) (code := bd80) (by kernel_rfl) ?_
  refine WK.weak (l := [(.t 0, [.data (.slc false none 6 (List.map TEntry.en l))]), (.t 1, [iv i]), (.t 2, [iv term])]) (wk_of (by kernel_rfl)) ?_
  unfold ulog_Has at h
  refine WK.rs (g := []) (l' := [(.t 0, [.data (.slc false none 6 (List.map TEntry.en l))]), (.t 1, [iv i]), (.t 2, [iv term])]) (by kernel_rfl) .nil (by kernel_rfl) ?_
  rcases br_inv h with ⟨b2_1, h⟩ | ⟨b2_1, h⟩
  · refine WK.rs (g := [.b true, .b true, .b true, .b true, .b true, .b true, .b true]) (l' := [(.t 6, [bv true])]) (by kernel_rfl) (.cons b2_1 (.cons b2_1 (.cons b2_1 (.cons b2_1 (.cons b2_1 (.cons b2_1 (.cons b2_1 .nil))))))) (by kernel_rfl) ?_
    refine WK.weak (l := [(.t 6, [bv true])]) (wk_of (by kernel_rfl)) ?_
    refine WK.ret (by kernel_rfl) ?_
    have h_ := some_inj h
    subst h_
    exact WKe.fin (e' := .ret) (by kernel_rfl) (fin_of (g := []) (by first | exact .inl rfl | exact .inr rfl) .nil (by kernel_rfl))
  · rcases br_inv h with ⟨b2_2, h⟩ | ⟨b2_2, h⟩
    · rcases br_inv h with ⟨b2_3, h⟩ | ⟨b2_3, h⟩
      · obtain ⟨r2_4, h2_5, h⟩ := bd_inv h
        refine WK.rs (g := [.b false, .b false, .b false, .b true, .b true, .b true, .s (.t 15) [iv (l.length : Int)], .b true, .b false, .b true, .b false, .b true, .b true, .b true, .a ⟨iv r2_4, []⟩, .b true, .b true, .b false, .b true, .b false]) (l' := [(.t 6, [bv (r2_4 == term)])]) (by kernel_rfl) (.cons b2_1 (.cons b2_1 (.cons b2_1 (.cons b2_2 (.cons b2_2 (.cons b2_2 (.cons (c_len (e := TEntry.en) (l := l)) (.cons b2_2 (.cons b2_1 (.cons b2_2 (.cons b2_1 (.cons b2_3 (.cons b2_3 (.cons b2_3 (.cons (Asks.of (C := Meets Try.prog) (ulog_Term.meets l i _ h2_5)) (.cons b2_3 (.cons b2_3 (.cons b2_1 (.cons b2_3 (.cons b2_1 .nil)))))))))))))))))))) (by kernel_rfl) ?_
        refine WK.weak (l := [(.t 6, [bv (r2_4 == term)])]) (wk_of (by kernel_rfl)) ?_
        refine WK.ret (by kernel_rfl) ?_
        have h_ := some_inj h
        subst h_
        exact WKe.fin (e' := .ret) (by kernel_rfl) (fin_of (g := []) (by first | exact .inl rfl | exact .inr rfl) .nil (by kernel_rfl))
      · refine WK.rs (g := [.b false, .b false, .b false, .b true, .b true, .b true, .s (.t 15) [iv (l.length : Int)], .b true, .b false, .b true, .b false, .b false, .b false, .b false, .b false, .b false, .b false, .b false, .b false]) (l' := [(.t 6, [bv false])]) (by kernel_rfl) (.cons b2_1 (.cons b2_1 (.cons b2_1 (.cons b2_2 (.cons b2_2 (.cons b2_2 (.cons (c_len (e := TEntry.en) (l := l)) (.cons b2_2 (.cons b2_1 (.cons b2_2 (.cons b2_1 (.cons b2_3 (.cons b2_3 (.cons b2_3 (.cons b2_3 (.cons b2_3 (.cons b2_1 (.cons b2_3 (.cons b2_1 .nil))))))))))))))))))) (by kernel_rfl) ?_
        refine WK.weak (l := [(.t 6, [bv false])]) (wk_of (by kernel_rfl)) ?_
        refine WK.ret (by kernel_rfl) ?_
        have h_ := some_inj h
        subst h_
        exact WKe.fin (e' := .ret) (by kernel_rfl) (fin_of (g := []) (by first | exact .inl rfl | exact .inr rfl) .nil (by kernel_rfl))
    · refine WK.rs (g := [.b false, .b false, .b false, .b false, .b false, .b false, .b false, .b false, .b false, .b false, .b false, .b false, .b false, .b false, .b false, .b false, .b false, .b false]) (l' := [(.t 6, [bv false])]) (by kernel_rfl) (.cons b2_1 (.cons b2_1 (.cons b2_1 (.cons b2_2 (.cons b2_2 (.cons b2_2 (.cons b2_2 (.cons b2_1 (.cons b2_2 (.cons b2_1 (.cons (Eq.refl false) (.cons (Eq.refl false) (.cons (Eq.refl false) (.cons (Eq.refl false) (.cons (Eq.refl false) (.cons b2_1 (.cons (Eq.refl false) (.cons b2_1 .nil)))))))))))))))))) (by kernel_rfl) ?_
      refine WK.weak (l := [(.t 6, [bv false])]) (wk_of (by kernel_rfl)) ?_
      refine WK.ret (by kernel_rfl) ?_
      have h_ := some_inj h
      subst h_
      exact WKe.fin (e' := .ret) (by kernel_rfl) (fin_of (g := []) (by first | exact .inl rfl | exact .inr rfl) .nil (by kernel_rfl))
/-- slices.Grow[[]diwan/api.Entry,diwan/api.Entry] -/
noncomputable def bd106 : Code := (Try.f106.body).getD .skip
def slices_Grow_api_Entry.O : Nat → Nat := fun t => bif ([0, 1, 4, 25] : List Nat).any (Nat.beq t) then 1 else 0
noncomputable def slices_Grow_api_Entry (n_v : Int) : Option (List TEntry) :=
  br (decide (n_v < 0))
    (none)
    (br (decide ((w64 (n_v - (w64 (0 - 0)))) > 0))
      (gd (decide ((0 : Int) ≤ (0 : Int) ∧ (0 : Int) ≤ (([] : List TEntry).length : Int))) <|
      gd (decide ((0 : Int) ≤ (w64 (n_v - (w64 (0 - 0)))) ∧ (w64 (n_v - (w64 (0 - 0)))) ≤ 4294967296)) <|
      gd (decide ((List.take (0 : Int).toNat ([] : List TEntry)).length + (w64 (n_v - (w64 (0 - 0)))).toNat ≤ 4294967296)) <|
      gd (decide ((0 : Int) ≤ (0 : Int) ∧ (0 : Int) ≤ (((List.take (0 : Int).toNat ([] : List TEntry)) ++ List.replicate (w64 (n_v - (w64 (0 - 0)))).toNat ((TEntry.mk 0 false (TTxn.mk 0 0 [] [])) : TEntry)).length : Int))) <|
      some (List.take (0 : Int).toNat ((List.take (0 : Int).toNat ([] : List TEntry)) ++ List.replicate (w64 (n_v - (w64 (0 - 0)))).toNat ((TEntry.mk 0 false (TTxn.mk 0 0 [] [])) : TEntry))))
      (some []))
theorem slices_Grow_api_Entry.meets (n_v : Int) (z0 : List TEntry) (h : slices_Grow_api_Entry n_v = some z0) : Meets Try.prog ⟨106, [.data (.slc false (some true) 6 (List.map TEntry.en [])), iv n_v], []⟩ ⟨.data (.slc true none 6 (List.map TEntry.en z0)), []⟩ := by
  refine meets_of (O := slices_Grow_api_Entry.O) hmix (fn := Try.f106) (code := bd106) (by kernel_rfl) ?_
  refine WK.weak (l := [(.t 0, [.data (.slc false (some true) 6 (List.map TEntry.en []))]), (.t 1, [iv n_v])]) (wk_of (by kernel_rfl)) ?_
  unfold slices_Grow_api_Entry at h
  refine WK.rs (g := []) (l' := [(.t 0, [.data (.slc false (some true) 6 (List.map TEntry.en []))]), (.t 1, [iv n_v])]) (by kernel_rfl) .nil (by kernel_rfl) ?_
  refine WK.seq (by kernel_rfl) ?_
  refine WK.rs (g := []) (l' := [(.t 0, [.data (.slc false (some true) 6 (List.map TEntry.en []))]), (.t 1, [iv n_v]), (.t 6, [bv (decide (n_v < 0))])]) (by kernel_rfl) .nil (by kernel_rfl) ?_
  rcases br_inv h with ⟨b3_0, h⟩ | ⟨b3_0, h⟩
  · refine WK.ct (b := (decide (n_v < 0))) (by kernel_rfl) b3_0 ?_
    exact no_none h
  · refine WK.ce (b := (decide (n_v < 0))) (by kernel_rfl) b3_0 ?_
    refine WK.skip (by kernel_rfl) ?_
    refine WKe.code (y := (cR (cR bd106))) (ks' := []) (by kernel_rfl) ?_
    refine WK.seq (by kernel_rfl) ?_
    refine WK.rs (g := []) (l' := [(.t 0, [.data (.slc false (some true) 6 (List.map TEntry.en []))]), (.t 1, [iv (w64 (n_v - (w64 (0 - 0))))])]) (by kernel_rfl) .nil (by kernel_rfl) ?_
    refine WK.rs (g := []) (l' := [(.t 0, [.data (.slc false (some true) 6 (List.map TEntry.en []))]), (.t 1, [iv (w64 (n_v - (w64 (0 - 0))))]), (.t 16, [bv (decide ((w64 (n_v - (w64 (0 - 0)))) > 0))])]) (by kernel_rfl) .nil (by kernel_rfl) ?_
    rcases br_inv h with ⟨b7_0, h⟩ | ⟨b7_0, h⟩
    · refine WK.ct (b := (decide ((w64 (n_v - (w64 (0 - 0)))) > 0))) (by kernel_rfl) b7_0 ?_
      obtain ⟨c8_1, h⟩ := gd_inv h
      obtain ⟨c8_2, h⟩ := gd_inv h
      obtain ⟨c8_3, h⟩ := gd_inv h
      obtain ⟨c8_4, h⟩ := gd_inv h
      refine WK.rc (g := [.s (.t 20) [.data (.slc false (some true) 6 (List.map TEntry.en (List.take (0 : Int).toNat ([] : List TEntry))))], .s (.t 22) [.data (.slc true none 6 (List.map TEntry.en ((List.take (0 : Int).toNat ([] : List TEntry)) ++ List.replicate (w64 (n_v - (w64 (0 - 0)))).toNat ((TEntry.mk 0 false (TTxn.mk 0 0 [] [])) : TEntry))))], .s (.t 25) [.data (.slc true none 6 (List.map TEntry.en (List.take (0 : Int).toNat ((List.take (0 : Int).toNat ([] : List TEntry)) ++ List.replicate (w64 (n_v - (w64 (0 - 0)))).toNat ((TEntry.mk 0 false (TTxn.mk 0 0 [] [])) : TEntry)))))]]) (l' := [(.t 0, [.data (.slc true none 6 (List.map TEntry.en (List.take (0 : Int).toNat ((List.take (0 : Int).toNat ([] : List TEntry)) ++ List.replicate (w64 (n_v - (w64 (0 - 0)))).toNat ((TEntry.mk 0 false (TTxn.mk 0 0 [] [])) : TEntry)))))])]) (.cons (c_cbH (e := TEntry.en) c8_1) (.cons (congrArg (fun d : DV => [AV.data d]) (c_cutH (own := false) (nl := (some true)) (s := 6) (e := TEntry.en) (l := ([] : List TEntry)) (h := (0 : Int).toNat))) (.cons c8_2 (.cons (c_alz (e := TEntry.en) c8_3) (.cons (congrArg (fun d : DV => [AV.data d]) (c_appz (e := TEntry.en) (s := 6) (l := (List.take (0 : Int).toNat ([] : List TEntry))) (n := (w64 (n_v - (w64 (0 - 0)))).toNat) (x := ((TEntry.mk 0 false (TTxn.mk 0 0 [] [])) : TEntry)))) (.cons (c_cbH (e := TEntry.en) c8_4) (.cons (congrArg (fun d : DV => [AV.data d]) (c_cutH (own := true) (nl := none) (s := 6) (e := TEntry.en) (l := ((List.take (0 : Int).toNat ([] : List TEntry)) ++ List.replicate (w64 (n_v - (w64 (0 - 0)))).toNat ((TEntry.mk 0 false (TTxn.mk 0 0 [] [])) : TEntry))) (h := (0 : Int).toNat))) .nil))))))) (by kernel_rfl) (y := (cR (cR (cR bd106)))) (ks' := []) (by kernel_rfl) ?_
      refine WK.rs (g := []) (l' := [(.t 4, [.data (.slc true none 6 (List.map TEntry.en (List.take (0 : Int).toNat ((List.take (0 : Int).toNat ([] : List TEntry)) ++ List.replicate (w64 (n_v - (w64 (0 - 0)))).toNat ((TEntry.mk 0 false (TTxn.mk 0 0 [] [])) : TEntry)))))])]) (by kernel_rfl) .nil (by kernel_rfl) ?_
      refine WK.weak (l := [(.t 4, [.data (.slc true none 6 (List.map TEntry.en (List.take (0 : Int).toNat ((List.take (0 : Int).toNat ([] : List TEntry)) ++ List.replicate (w64 (n_v - (w64 (0 - 0)))).toNat ((TEntry.mk 0 false (TTxn.mk 0 0 [] [])) : TEntry)))))])]) (wk_of (by kernel_rfl)) ?_
      refine WK.ret (by kernel_rfl) ?_
      have h_ := some_inj h
      subst h_
      exact WKe.fin (e' := .ret) (by kernel_rfl) (fin_of (g := []) (by first | exact .inl rfl | exact .inr rfl) .nil (by kernel_rfl))
    · refine WK.ce (b := (decide ((w64 (n_v - (w64 (0 - 0)))) > 0))) (by kernel_rfl) b7_0 ?_
      refine WK.skip (by kernel_rfl) ?_
      refine WKe.code (y := (cR (cR (cR bd106)))) (ks' := []) (by kernel_rfl) ?_
      refine WK.rs (g := []) (l' := [(.t 4, [.data (.slc true (some true) 6 (List.map TEntry.en []))])]) (by kernel_rfl) .nil (by kernel_rfl) ?_
      refine WK.weak (l := [(.t 4, [.data (.slc true none 6 (List.map TEntry.en []))])]) (wk_of (by kernel_rfl)) ?_
      refine WK.ret (by kernel_rfl) ?_
      have h_ := some_inj h
      subst h_
      exact WKe.fin (e' := .ret) (by kernel_rfl) (fin_of (g := []) (by first | exact .inl rfl | exact .inr rfl) .nil (by kernel_rfl))
/-- slices.Concat[[]diwan/api.Entry,diwan/api.Entry] -/
noncomputable def bd100 : Code := (Try.f100.body).getD .skip
def slices_Concat_api_Entry.O : Nat → Nat := fun t => bif ([2, 3, 6] : List Nat).any (Nat.beq t) then 1 else 0
noncomputable def slices_Concat_api_Entry.lp4 (fu : Nat) (l4_0 : List (List TEntry)) (l4_2 : List (List TEntry)) (l4_3 : Int) : Nat → Int → Int → Option Int
  | 0, _, _ => none
  | n_ + 1, l4_1, l4_4 =>
    br (decide (l4_4 < l4_3))
      (ix l4_2 l4_4 fun x7_1 =>
      br (decide ((w64 (l4_1 + (x7_1.length : Int))) < 0))
        (none)
        (slices_Concat_api_Entry.lp4 fu l4_0 l4_2 l4_3 n_ (w64 (l4_1 + (x7_1.length : Int))) (w64 (l4_4 + 1))))
      (some l4_1)
noncomputable def slices_Concat_api_Entry.lp4_post (l4_0 : List (List TEntry)) (l4_2 : List (List TEntry)) (l4_3 : Int) (r_ : Int) : Wy → St → Prop := fun e τ => match r_ with
  | y0 => e = .exit 0 ∧ τ = ofL [(.t 0, [.data (.slc false none 1 (List.map (e_l 6 TEntry.en) l4_0))]), (.t 3, [iv y0])]
theorem slices_Concat_api_Entry.lp4_ok (fu : Nat) (l4_0 : List (List TEntry)) (l4_2 : List (List TEntry)) (l4_3 : Int) : ∀ (n_ : Nat) (l4_1 : Int) (l4_4 : Int) (r_ : Int), slices_Concat_api_Entry.lp4 fu l4_0 l4_2 l4_3 n_ l4_1 l4_4 = some r_ → WK Try.prog slices_Concat_api_Entry.O (Ck Try.prog) (cB (cR (cL (cR (cR bd100))))) [] (ofL [(.t 0, [.data (.slc false none 1 (List.map (e_l 6 TEntry.en) l4_0))]), (.t 3, [iv l4_1]), (.t 9, [.data (.slc false none 1 (List.map (e_l 6 TEntry.en) l4_2))]), (.t 10, [iv l4_3]), (.t 11, [iv l4_4])]) (slices_Concat_api_Entry.lp4_post l4_0 l4_2 l4_3 r_) := by
  intro n_
  induction n_ with
  | zero => intro l4_1 l4_4 r_ h; exact no_none h
  | succ n_ ih =>
    intro l4_1 l4_4 r_ h
    refine WK.loop (by kernel_rfl) ?_
    refine WK.rs (g := []) (l' := [(.t 0, [.data (.slc false none 1 (List.map (e_l 6 TEntry.en) l4_0))]), (.t 3, [iv l4_1]), (.t 9, [.data (.slc false none 1 (List.map (e_l 6 TEntry.en) l4_2))]), (.t 10, [iv l4_3]), (.t 11, [iv l4_4]), (.t 12, [bv (decide (l4_4 < l4_3))])]) (by kernel_rfl) .nil (by kernel_rfl) ?_
    refine WK.seq (by kernel_rfl) ?_
    rcases br_inv h with ⟨b6_0, h⟩ | ⟨b6_0, h⟩
    · refine WK.ct (b := (decide (l4_4 < l4_3))) (by kernel_rfl) b6_0 ?_
      refine WK.skip (by kernel_rfl) ?_
      refine WKe.code (y := (cR (cR (cB (cB (cR (cL (cR (cR bd100))))))))) (ks' := [.lp (cB (cR (cL (cR (cR bd100)))))]) (by kernel_rfl) ?_
      refine WK.seq (by kernel_rfl) ?_
      refine WK.block (n := 1) (by kernel_rfl) ?_
      obtain ⟨x7_1, a7_2, e7_3, h⟩ := ix_inv h
      refine WK.rs (g := [.c ((e_l 6 TEntry.en) x7_1)]) (l' := [(.t 0, [.data (.slc false none 1 (List.map (e_l 6 TEntry.en) l4_0))]), (.t 3, [iv l4_1]), (.t 5, [.data (.slc false none 6 (List.map TEntry.en x7_1))]), (.t 9, [.data (.slc false none 1 (List.map (e_l 6 TEntry.en) l4_2))]), (.t 10, [iv l4_3]), (.t 11, [iv l4_4])]) (by kernel_rfl) (.cons (c_ix (e := (e_l 6 TEntry.en)) a7_2 e7_3) (.cons (c_el (e := (e_l 6 TEntry.en)) e7_3) .nil)) (by kernel_rfl) ?_
      refine WK.rs (g := [.s (.t 17) [iv (x7_1.length : Int)]]) (l' := [(.t 0, [.data (.slc false none 1 (List.map (e_l 6 TEntry.en) l4_0))]), (.t 3, [iv (w64 (l4_1 + (x7_1.length : Int)))]), (.t 9, [.data (.slc false none 1 (List.map (e_l 6 TEntry.en) l4_2))]), (.t 10, [iv l4_3]), (.t 11, [iv l4_4])]) (by kernel_rfl) (.cons (c_len (e := TEntry.en) (l := x7_1)) .nil) (by kernel_rfl) ?_
      refine WK.rs (g := []) (l' := [(.t 0, [.data (.slc false none 1 (List.map (e_l 6 TEntry.en) l4_0))]), (.t 3, [iv (w64 (l4_1 + (x7_1.length : Int)))]), (.t 9, [.data (.slc false none 1 (List.map (e_l 6 TEntry.en) l4_2))]), (.t 10, [iv l4_3]), (.t 11, [iv l4_4]), (.t 20, [bv (decide ((w64 (l4_1 + (x7_1.length : Int))) < 0))])]) (by kernel_rfl) .nil (by kernel_rfl) ?_
      rcases br_inv h with ⟨b10_0, h⟩ | ⟨b10_0, h⟩
      · refine WK.ct (b := (decide ((w64 (l4_1 + (x7_1.length : Int))) < 0))) (by kernel_rfl) b10_0 ?_
        exact no_none h
      · refine WK.ce (b := (decide ((w64 (l4_1 + (x7_1.length : Int))) < 0))) (by kernel_rfl) b10_0 ?_
        refine WK.skip (by kernel_rfl) ?_
        refine WKe.code (y := (cR (cR (cR (cB (cB (cR (cL (cR (cR bd100)))))))))) (ks' := [.lp (cB (cR (cL (cR (cR bd100)))))]) (by kernel_rfl) ?_
        refine WK.rc (g := []) (l' := [(.t 0, [.data (.slc false none 1 (List.map (e_l 6 TEntry.en) l4_0))]), (.t 3, [iv (w64 (l4_1 + (x7_1.length : Int)))]), (.t 9, [.data (.slc false none 1 (List.map (e_l 6 TEntry.en) l4_2))]), (.t 10, [iv l4_3]), (.t 11, [iv (w64 (l4_4 + 1))])]) .nil (by kernel_rfl) (y := (cB (cR (cL (cR (cR bd100)))))) (ks' := []) (by kernel_rfl) ?_
        exact WK.weak (l := [(.t 0, [.data (.slc false none 1 (List.map (e_l 6 TEntry.en) l4_0))]), (.t 3, [iv (w64 (l4_1 + (x7_1.length : Int)))]), (.t 9, [.data (.slc false none 1 (List.map (e_l 6 TEntry.en) l4_2))]), (.t 10, [iv l4_3]), (.t 11, [iv (w64 (l4_4 + 1))])]) (wk_of (by kernel_rfl)) (ih (w64 (l4_1 + (x7_1.length : Int))) (w64 (l4_4 + 1)) _ h)
    · refine WK.ce (b := (decide (l4_4 < l4_3))) (by kernel_rfl) b6_0 ?_
      refine WK.weak (l := [(.t 0, [.data (.slc false none 1 (List.map (e_l 6 TEntry.en) l4_0))]), (.t 3, [iv l4_1])]) (wk_of (by kernel_rfl)) ?_
      refine WK.exit (n := 0) (by kernel_rfl) ?_
      cases some_inj h
      exact WKe.fin (e' := .exit 0) (by kernel_rfl) ⟨rfl, rfl⟩
noncomputable def slices_Concat_api_Entry.lp16 (fu : Nat) (l16_1 : List (List TEntry)) (l16_2 : Int) : Nat → (List TEntry) → Int → Option (List TEntry)
  | 0, _, _ => none
  | n_ + 1, l16_0, l16_3 =>
    br (decide (l16_3 < l16_2))
      (ix l16_1 l16_3 fun x19_1 =>
      gd (decide (l16_0.length + x19_1.length ≤ 4294967296)) <|
      slices_Concat_api_Entry.lp16 fu l16_1 l16_2 n_ (l16_0 ++ x19_1) (w64 (l16_3 + 1)))
      (some l16_0)
noncomputable def slices_Concat_api_Entry.lp16_post (l16_1 : List (List TEntry)) (l16_2 : Int) (r_ : (List TEntry)) : Wy → St → Prop := fun e τ => match r_ with
  | y0 => e = .exit 2 ∧ τ = ofL [(.t 6, [.data (.slc true none 6 (List.map TEntry.en y0))])]
theorem slices_Concat_api_Entry.lp16_ok (fu : Nat) (l16_1 : List (List TEntry)) (l16_2 : Int) : ∀ (n_ : Nat) (l16_0 : List TEntry) (l16_3 : Int) (r_ : (List TEntry)), slices_Concat_api_Entry.lp16 fu l16_1 l16_2 n_ l16_0 l16_3 = some r_ → WK Try.prog slices_Concat_api_Entry.O (Ck Try.prog) (cB (cR (cL (cR (cR (cR (cR bd100))))))) [] (ofL [(.t 6, [.data (.slc true none 6 (List.map TEntry.en l16_0))]), (.t 25, [.data (.slc false none 1 (List.map (e_l 6 TEntry.en) l16_1))]), (.t 26, [iv l16_2]), (.t 27, [iv l16_3])]) (slices_Concat_api_Entry.lp16_post l16_1 l16_2 r_) := by
  intro n_
  induction n_ with
  | zero => intro l16_0 l16_3 r_ h; exact no_none h
  | succ n_ ih =>
    intro l16_0 l16_3 r_ h
    refine WK.loop (by kernel_rfl) ?_
    refine WK.rs (g := []) (l' := [(.t 6, [.data (.slc true none 6 (List.map TEntry.en l16_0))]), (.t 25, [.data (.slc false none 1 (List.map (e_l 6 TEntry.en) l16_1))]), (.t 26, [iv l16_2]), (.t 27, [iv l16_3]), (.t 28, [bv (decide (l16_3 < l16_2))])]) (by kernel_rfl) .nil (by kernel_rfl) ?_
    refine WK.seq (by kernel_rfl) ?_
    rcases br_inv h with ⟨b18_0, h⟩ | ⟨b18_0, h⟩
    · refine WK.ct (b := (decide (l16_3 < l16_2))) (by kernel_rfl) b18_0 ?_
      refine WK.skip (by kernel_rfl) ?_
      refine WKe.code (y := (cR (cR (cB (cB (cR (cL (cR (cR (cR (cR bd100))))))))))) (ks' := [.lp (cB (cR (cL (cR (cR (cR (cR bd100)))))))]) (by kernel_rfl) ?_
      refine WK.seq (by kernel_rfl) ?_
      refine WK.block (n := 3) (by kernel_rfl) ?_
      obtain ⟨x19_1, a19_2, e19_3, h⟩ := ix_inv h
      refine WK.rs (g := [.c ((e_l 6 TEntry.en) x19_1)]) (l' := [(.t 6, [.data (.slc true none 6 (List.map TEntry.en l16_0))]), (.t 8, [.data (.slc false none 6 (List.map TEntry.en x19_1))]), (.t 25, [.data (.slc false none 1 (List.map (e_l 6 TEntry.en) l16_1))]), (.t 26, [iv l16_2]), (.t 27, [iv l16_3])]) (by kernel_rfl) (.cons (c_ix (e := (e_l 6 TEntry.en)) a19_2 e19_3) (.cons (c_el (e := (e_l 6 TEntry.en)) e19_3) .nil)) (by kernel_rfl) ?_
      obtain ⟨c20_1, h⟩ := gd_inv h
      refine WK.rc (g := [.s (.t 33) [.data (.slc true none 6 (List.map TEntry.en (l16_0 ++ x19_1)))]]) (l' := [(.t 6, [.data (.slc true none 6 (List.map TEntry.en (l16_0 ++ x19_1)))]), (.t 25, [.data (.slc false none 1 (List.map (e_l 6 TEntry.en) l16_1))]), (.t 26, [iv l16_2]), (.t 27, [iv l16_3])]) (.cons (c_al (e := TEntry.en) (f := TEntry.en) c20_1) (.cons (congrArg (fun d : DV => [AV.data d]) (c_app (e := TEntry.en) (s := 6) (l := l16_0) (m := x19_1))) .nil)) (by kernel_rfl) (y := (cR (cR (cR (cB (cB (cR (cL (cR (cR (cR (cR bd100)))))))))))) (ks' := [.lp (cB (cR (cL (cR (cR (cR (cR bd100)))))))]) (by kernel_rfl) ?_
      refine WK.rc (g := []) (l' := [(.t 6, [.data (.slc true none 6 (List.map TEntry.en (l16_0 ++ x19_1)))]), (.t 25, [.data (.slc false none 1 (List.map (e_l 6 TEntry.en) l16_1))]), (.t 26, [iv l16_2]), (.t 27, [iv (w64 (l16_3 + 1))])]) .nil (by kernel_rfl) (y := (cB (cR (cL (cR (cR (cR (cR bd100)))))))) (ks' := []) (by kernel_rfl) ?_
      exact WK.weak (l := [(.t 6, [.data (.slc true none 6 (List.map TEntry.en (l16_0 ++ x19_1)))]), (.t 25, [.data (.slc false none 1 (List.map (e_l 6 TEntry.en) l16_1))]), (.t 26, [iv l16_2]), (.t 27, [iv (w64 (l16_3 + 1))])]) (wk_of (by kernel_rfl)) (ih (l16_0 ++ x19_1) (w64 (l16_3 + 1)) _ h)
    · refine WK.ce (b := (decide (l16_3 < l16_2))) (by kernel_rfl) b18_0 ?_
      refine WK.weak (l := [(.t 6, [.data (.slc true none 6 (List.map TEntry.en l16_0))])]) (wk_of (by kernel_rfl)) ?_
      refine WK.exit (n := 2) (by kernel_rfl) ?_
      cases some_inj h
      exact WKe.fin (e' := .exit 2) (by kernel_rfl) ⟨rfl, rfl⟩
noncomputable def slices_Concat_api_Entry (fu : Nat) (slices : List (List TEntry)) : Option (List TEntry) :=
  bd (slices_Concat_api_Entry.lp4 fu slices slices (slices.length : Int) fu 0 0) fun y13_0 =>
  bd (slices_Grow_api_Entry y13_0) fun r14_1 =>
  bd (slices_Concat_api_Entry.lp16 fu slices (slices.length : Int) fu r14_1 0) fun y22_0 =>
  some y22_0
theorem slices_Concat_api_Entry.meets (fu : Nat) (slices : List (List TEntry)) (z0 : List TEntry) (h : slices_Concat_api_Entry fu slices = some z0) : Meets Try.prog ⟨100, [.data (.slc false none 1 (List.map (e_l 6 TEntry.en) slices))], []⟩ ⟨.data (.slc true none 6 (List.map TEntry.en z0)), []⟩ := by
  refine meets_of (O := slices_Concat_api_Entry.O) hmix (fn := Try.f100) (code := bd100) (by kernel_rfl) ?_
  refine WK.weak (l := [(.t 0, [.data (.slc false none 1 (List.map (e_l 6 TEntry.en) slices))])]) (wk_of (by kernel_rfl)) ?_
  unfold slices_Concat_api_Entry at h
  refine WK.rs (g := []) (l' := [(.t 0, [.data (.slc false none 1 (List.map (e_l 6 TEntry.en) slices))])]) (by kernel_rfl) .nil (by kernel_rfl) ?_
  refine WK.rs (g := []) (l' := [(.t 0, [.data (.slc false none 1 (List.map (e_l 6 TEntry.en) slices))]), (.t 3, [iv 0])]) (by kernel_rfl) .nil (by kernel_rfl) ?_
  refine WK.seq (by kernel_rfl) ?_
  refine WK.rs (g := [.s (.t 10) [iv (slices.length : Int)]]) (l' := [(.t 0, [.data (.slc false none 1 (List.map (e_l 6 TEntry.en) slices))]), (.t 3, [iv 0]), (.t 9, [.data (.slc false none 1 (List.map (e_l 6 TEntry.en) slices))]), (.t 10, [iv (slices.length : Int)]), (.t 11, [iv 0])]) (by kernel_rfl) (.cons (c_len (e := (e_l 6 TEntry.en)) (l := slices)) .nil) (by kernel_rfl) ?_
  refine WK.block (n := 0) (by kernel_rfl) ?_
  obtain ⟨o13, ho13, h⟩ := bd_inv h
  refine WK.weak (l := [(.t 0, [.data (.slc false none 1 (List.map (e_l 6 TEntry.en) slices))]), (.t 3, [iv 0]), (.t 9, [.data (.slc false none 1 (List.map (e_l 6 TEntry.en) slices))]), (.t 10, [iv (slices.length : Int)]), (.t 11, [iv 0])]) (wk_of (by kernel_rfl)) ?_
  refine WK.use (slices_Concat_api_Entry.lp4_ok fu slices slices (slices.length : Int) _ 0 0 _ ho13) ?_
  intro e_ τ_ hp_
  obtain ⟨y13_0, rfl⟩ : ∃ y, y = o13 := ⟨_, rfl⟩
  obtain ⟨rfl, rfl⟩ := hp_
  refine WKe.code (y := (cR (cR (cR bd100)))) (ks' := []) (by kernel_rfl) ?_
  obtain ⟨r14_1, h14_2, h⟩ := bd_inv h
  refine WK.rs (g := [.a ⟨.data (.slc true none 6 (List.map TEntry.en r14_1)), []⟩]) (l' := [(.t 0, [.data (.slc false none 1 (List.map (e_l 6 TEntry.en) slices))]), (.t 6, [.data (.slc true none 6 (List.map TEntry.en r14_1))])]) (by kernel_rfl) (.cons (Asks.of (C := Meets Try.prog) (slices_Grow_api_Entry.meets y13_0 _ h14_2)) .nil) (by kernel_rfl) ?_
  refine WK.seq (by kernel_rfl) ?_
  refine WK.rs (g := [.s (.t 26) [iv (slices.length : Int)]]) (l' := [(.t 6, [.data (.slc true none 6 (List.map TEntry.en r14_1))]), (.t 25, [.data (.slc false none 1 (List.map (e_l 6 TEntry.en) slices))]), (.t 26, [iv (slices.length : Int)]), (.t 27, [iv 0])]) (by kernel_rfl) (.cons (c_len (e := (e_l 6 TEntry.en)) (l := slices)) .nil) (by kernel_rfl) ?_
  refine WK.block (n := 2) (by kernel_rfl) ?_
  obtain ⟨o22, ho22, h⟩ := bd_inv h
  refine WK.weak (l := [(.t 6, [.data (.slc true none 6 (List.map TEntry.en r14_1))]), (.t 25, [.data (.slc false none 1 (List.map (e_l 6 TEntry.en) slices))]), (.t 26, [iv (slices.length : Int)]), (.t 27, [iv 0])]) (wk_of (by kernel_rfl)) ?_
  refine WK.use (slices_Concat_api_Entry.lp16_ok fu slices (slices.length : Int) _ r14_1 0 _ ho22) ?_
  intro e_ τ_ hp_
  obtain ⟨y22_0, rfl⟩ : ∃ y, y = o22 := ⟨_, rfl⟩
  obtain ⟨rfl, rfl⟩ := hp_
  refine WKe.code (y := (cR (cR (cR (cR (cR bd100)))))) (ks' := []) (by kernel_rfl) ?_
  refine WK.rs (g := []) (l' := [(.t 2, [.data (.slc true none 6 (List.map TEntry.en y22_0))])]) (by kernel_rfl) .nil (by kernel_rfl) ?_
  refine WK.weak (l := [(.t 2, [.data (.slc true none 6 (List.map TEntry.en y22_0))])]) (wk_of (by kernel_rfl)) ?_
  refine WK.ret (by kernel_rfl) ?_
  have h_ := some_inj h
  subst h_
  exact WKe.fin (e' := .ret) (by kernel_rfl) (fin_of (g := []) (by first | exact .inl rfl | exact .inr rfl) .nil (by kernel_rfl))
/-- diwan/ulog.Join -/
noncomputable def bd81 : Code := (Try.f81.body).getD .skip
def ulog_Join.O : Nat → Nat := fun t => bif ([6, 7, 8, 9, 46, 49, 50] : List Nat).any (Nat.beq t) then 1 else 0
noncomputable def ulog_Join.lp7 (fu : Nat) (l7_0 : List TEntry) (l7_1 : Int) (l7_2 : List TEntry) (l7_3 : List TEntry) (l7_4 : Int) : Nat → Int → Option (Unit ⊕ (List TEntry))
  | 0, _ => none
  | n_ + 1, l7_5 =>
    br (decide (l7_5 < l7_4))
      (ix l7_3 l7_5 fun x10_1 =>
      br (decide ((w64 (l7_1 + l7_5)) ≥ (l7_0.length : Int)))
        (gd (decide ((0 : Int) ≤ (w64 (l7_1 + l7_5)) ∧ (w64 (l7_1 + l7_5)) ≤ (l7_0.length : Int))) <|
        gd (decide ((0 : Int) ≤ l7_5 ∧ l7_5 ≤ (l7_2.length : Int))) <|
        bd (slices_Concat_api_Entry fu ([(List.take (w64 (l7_1 + l7_5)).toNat l7_0), (List.drop l7_5.toNat l7_2)] : List (List TEntry))) fun r13_3 =>
        some (.inr r13_3))
        (ix l7_0 (w64 (l7_1 + l7_5)) fun x12_2 =>
        br (x12_2.Term != x10_1.Term)
          (gd (decide ((0 : Int) ≤ (w64 (l7_1 + l7_5)) ∧ (w64 (l7_1 + l7_5)) ≤ (l7_0.length : Int))) <|
          gd (decide ((0 : Int) ≤ l7_5 ∧ l7_5 ≤ (l7_2.length : Int))) <|
          bd (slices_Concat_api_Entry fu ([(List.take (w64 (l7_1 + l7_5)).toNat l7_0), (List.drop l7_5.toNat l7_2)] : List (List TEntry))) fun r15_3 =>
          some (.inr r15_3))
          (ulog_Join.lp7 fu l7_0 l7_1 l7_2 l7_3 l7_4 n_ (w64 (l7_5 + 1)))))
      (some (.inl ()))
noncomputable def ulog_Join.lp7_post (l7_0 : List TEntry) (l7_1 : Int) (l7_2 : List TEntry) (l7_3 : List TEntry) (l7_4 : Int) (r_ : (Unit ⊕ (List TEntry))) : Wy → St → Prop := fun e τ => match r_ with
  | .inl _ => e = .exit 0 ∧ τ = ofL [(.t 0, [.data (.slc false none 6 (List.map TEntry.en l7_0))])]
  | .inr y0 => e = .ret ∧ τ = ofL [(.t 6, [.data (.slc true none 6 (List.map TEntry.en y0))])]
theorem ulog_Join.lp7_ok (fu : Nat) (l7_0 : List TEntry) (l7_1 : Int) (l7_2 : List TEntry) (l7_3 : List TEntry) (l7_4 : Int) : ∀ (n_ : Nat) (l7_5 : Int) (r_ : (Unit ⊕ (List TEntry))), ulog_Join.lp7 fu l7_0 l7_1 l7_2 l7_3 l7_4 n_ l7_5 = some r_ → WK Try.prog ulog_Join.O (Ck Try.prog) (cB (cR (cL (cR (cR bd81))))) [] (ofL [(.t 0, [.data (.slc false none 6 (List.map TEntry.en l7_0))]), (.t 1, [iv l7_1]), (.t 2, [.data (.slc false none 6 (List.map TEntry.en l7_2))]), (.t 20, [.data (.slc false none 6 (List.map TEntry.en l7_3))]), (.t 21, [iv l7_4]), (.t 22, [iv l7_5])]) (ulog_Join.lp7_post l7_0 l7_1 l7_2 l7_3 l7_4 r_) := by
  intro n_
  induction n_ with
  | zero => intro l7_5 r_ h; exact no_none h
  | succ n_ ih =>
    intro l7_5 r_ h
    refine WK.loop (by kernel_rfl) ?_
    refine WK.rs (g := []) (l' := [(.t 0, [.data (.slc false none 6 (List.map TEntry.en l7_0))]), (.t 1, [iv l7_1]), (.t 2, [.data (.slc false none 6 (List.map TEntry.en l7_2))]), (.t 20, [.data (.slc false none 6 (List.map TEntry.en l7_3))]), (.t 21, [iv l7_4]), (.t 22, [iv l7_5]), (.t 23, [bv (decide (l7_5 < l7_4))])]) (by kernel_rfl) .nil (by kernel_rfl) ?_
    refine WK.seq (by kernel_rfl) ?_
    rcases br_inv h with ⟨b9_0, h⟩ | ⟨b9_0, h⟩
    · refine WK.ct (b := (decide (l7_5 < l7_4))) (by kernel_rfl) b9_0 ?_
      refine WK.skip (by kernel_rfl) ?_
      refine WKe.code (y := (cR (cR (cB (cB (cR (cL (cR (cR bd81))))))))) (ks' := [.lp (cB (cR (cL (cR (cR bd81)))))]) (by kernel_rfl) ?_
      refine WK.seq (by kernel_rfl) ?_
      refine WK.block (n := 1) (by kernel_rfl) ?_
      obtain ⟨x10_1, a10_2, e10_3, h⟩ := ix_inv h
      refine WK.rs (g := [.c (TEntry.en x10_1)]) (l' := [(.t 0, [.data (.slc false none 6 (List.map TEntry.en l7_0))]), (.t 1, [iv l7_1]), (.t 2, [.data (.slc false none 6 (List.map TEntry.en l7_2))]), (.t 7, [iv l7_5]), (.t 8, [.ptr 8 0]), (.t 20, [.data (.slc false none 6 (List.map TEntry.en l7_3))]), (.t 21, [iv l7_4]), (.t 22, [iv l7_5]), (.o 8, (TEntry.ob x10_1))]) (by kernel_rfl) (.cons (c_ix (e := TEntry.en) a10_2 e10_3) (.cons (c_el (e := TEntry.en) e10_3) .nil)) (by kernel_rfl) ?_
      refine WK.rs (g := []) (l' := [(.t 0, [.data (.slc false none 6 (List.map TEntry.en l7_0))]), (.t 1, [iv l7_1]), (.t 2, [.data (.slc false none 6 (List.map TEntry.en l7_2))]), (.t 7, [iv l7_5]), (.t 8, [.ptr 8 0]), (.t 9, [iv (w64 (l7_1 + l7_5))]), (.t 20, [.data (.slc false none 6 (List.map TEntry.en l7_3))]), (.t 21, [iv l7_4]), (.t 22, [iv l7_5]), (.o 8, (TEntry.ob x10_1))]) (by kernel_rfl) .nil (by kernel_rfl) ?_
      rcases br_inv h with ⟨b12_1, h⟩ | ⟨b12_1, h⟩
      · refine WK.rs (g := [.s (.t 32) [iv (l7_0.length : Int)], .b true, .b true, .b true, .b true, .b true, .b true, .b true, .b true, .b true]) (l' := [(.t 0, [.data (.slc false none 6 (List.map TEntry.en l7_0))]), (.t 1, [iv l7_1]), (.t 2, [.data (.slc false none 6 (List.map TEntry.en l7_2))]), (.t 7, [iv l7_5]), (.t 9, [iv (w64 (l7_1 + l7_5))]), (.t 20, [.data (.slc false none 6 (List.map TEntry.en l7_3))]), (.t 21, [iv l7_4]), (.t 22, [iv l7_5]), (.t 43, [bv true])]) (by kernel_rfl) (.cons (c_len (e := TEntry.en) (l := l7_0)) (.cons b12_1 (.cons b12_1 (.cons b12_1 (.cons b12_1 (.cons b12_1 (.cons b12_1 (.cons b12_1 (.cons b12_1 (.cons b12_1 (.cons (Eq.refl true) .nil))))))))))) (by kernel_rfl) ?_
        refine WK.ct (b := true) (by kernel_rfl) rfl ?_
        obtain ⟨c13_1, h⟩ := gd_inv h
        obtain ⟨c13_2, h⟩ := gd_inv h
        obtain ⟨r13_3, h13_4, h⟩ := bd_inv h
        refine WK.rs (g := [.s (.t 46) [.data (.slc false none 6 (List.map TEntry.en (List.take (w64 (l7_1 + l7_5)).toNat l7_0)))], .s (.t 49) [.data (.slc false none 6 (List.map TEntry.en (List.drop l7_5.toNat l7_2)))], .a ⟨.data (.slc true none 6 (List.map TEntry.en r13_3)), []⟩]) (l' := [(.t 6, [.data (.slc true none 6 (List.map TEntry.en r13_3))])]) (by kernel_rfl) (.cons (c_cbH (e := TEntry.en) c13_1) (.cons (congrArg (fun d : DV => [AV.data d]) (c_cutH (own := false) (nl := none) (s := 6) (e := TEntry.en) (l := l7_0) (h := (w64 (l7_1 + l7_5)).toNat))) (.cons (c_cbL (e := TEntry.en) c13_2) (.cons (congrArg (fun d : DV => [AV.data d]) (c_cutL (own := false) (nl := none) (s := 6) (e := TEntry.en) (l := l7_2) (lo := l7_5.toNat))) (.cons (Asks.fg (args1 := []) (args2 := []) (nl := some false) (sz := 1) (es := List.map (e_l 6 TEntry.en) ([(List.take (w64 (l7_1 + l7_5)).toNat l7_0), (List.drop l7_5.toNat l7_2)] : List (List TEntry))) (Asks.of (C := Meets Try.prog) (slices_Concat_api_Entry.meets fu ([(List.take (w64 (l7_1 + l7_5)).toNat l7_0), (List.drop l7_5.toNat l7_2)] : List (List TEntry)) _ h13_4))) (.cons (Eq.refl true) .nil)))))) (by kernel_rfl) ?_
        refine WK.weak (l := [(.t 6, [.data (.slc true none 6 (List.map TEntry.en r13_3))])]) (wk_of (by kernel_rfl)) ?_
        refine WK.ret (by kernel_rfl) ?_
        cases some_inj h
        exact WKe.fin (e' := .ret) (by kernel_rfl) ⟨rfl, rfl⟩
      · obtain ⟨x12_2, a12_3, e12_4, h⟩ := ix_inv h
        refine WK.rs (g := [.s (.t 32) [iv (l7_0.length : Int)], .b false, .b false, .b false, .c (TEntry.en x12_2), .b false, .b false, .b false, .b false, .b false, .b false]) (l' := [(.t 0, [.data (.slc false none 6 (List.map TEntry.en l7_0))]), (.t 1, [iv l7_1]), (.t 2, [.data (.slc false none 6 (List.map TEntry.en l7_2))]), (.t 7, [iv l7_5]), (.t 9, [iv (w64 (l7_1 + l7_5))]), (.t 20, [.data (.slc false none 6 (List.map TEntry.en l7_3))]), (.t 21, [iv l7_4]), (.t 22, [iv l7_5]), (.t 43, [bv (x12_2.Term != x10_1.Term)])]) (by kernel_rfl) (.cons (c_len (e := TEntry.en) (l := l7_0)) (.cons b12_1 (.cons b12_1 (.cons b12_1 (.cons (c_ix (e := TEntry.en) a12_3 e12_4) (.cons (c_el (e := TEntry.en) e12_4) (.cons b12_1 (.cons b12_1 (.cons b12_1 (.cons b12_1 (.cons b12_1 (.cons b12_1 (.cons (Eq.refl true) .nil))))))))))))) (by kernel_rfl) ?_
        rcases br_inv h with ⟨b14_0, h⟩ | ⟨b14_0, h⟩
        · refine WK.ct (b := (x12_2.Term != x10_1.Term)) (by kernel_rfl) b14_0 ?_
          obtain ⟨c15_1, h⟩ := gd_inv h
          obtain ⟨c15_2, h⟩ := gd_inv h
          obtain ⟨r15_3, h15_4, h⟩ := bd_inv h
          refine WK.rs (g := [.s (.t 46) [.data (.slc false none 6 (List.map TEntry.en (List.take (w64 (l7_1 + l7_5)).toNat l7_0)))], .s (.t 49) [.data (.slc false none 6 (List.map TEntry.en (List.drop l7_5.toNat l7_2)))], .a ⟨.data (.slc true none 6 (List.map TEntry.en r15_3)), []⟩]) (l' := [(.t 6, [.data (.slc true none 6 (List.map TEntry.en r15_3))])]) (by kernel_rfl) (.cons (c_cbH (e := TEntry.en) c15_1) (.cons (congrArg (fun d : DV => [AV.data d]) (c_cutH (own := false) (nl := none) (s := 6) (e := TEntry.en) (l := l7_0) (h := (w64 (l7_1 + l7_5)).toNat))) (.cons (c_cbL (e := TEntry.en) c15_2) (.cons (congrArg (fun d : DV => [AV.data d]) (c_cutL (own := false) (nl := none) (s := 6) (e := TEntry.en) (l := l7_2) (lo := l7_5.toNat))) (.cons (Asks.fg (args1 := []) (args2 := []) (nl := some false) (sz := 1) (es := List.map (e_l 6 TEntry.en) ([(List.take (w64 (l7_1 + l7_5)).toNat l7_0), (List.drop l7_5.toNat l7_2)] : List (List TEntry))) (Asks.of (C := Meets Try.prog) (slices_Concat_api_Entry.meets fu ([(List.take (w64 (l7_1 + l7_5)).toNat l7_0), (List.drop l7_5.toNat l7_2)] : List (List TEntry)) _ h15_4))) (.cons (Eq.refl true) .nil)))))) (by kernel_rfl) ?_
          refine WK.weak (l := [(.t 6, [.data (.slc true none 6 (List.map TEntry.en r15_3))])]) (wk_of (by kernel_rfl)) ?_
          refine WK.ret (by kernel_rfl) ?_
          cases some_inj h
          exact WKe.fin (e' := .ret) (by kernel_rfl) ⟨rfl, rfl⟩
        · refine WK.ce (b := (x12_2.Term != x10_1.Term)) (by kernel_rfl) b14_0 ?_
          refine WK.skip (by kernel_rfl) ?_
          refine WKe.code (y := (cR (cR (cR (cB (cB (cR (cL (cR (cR bd81)))))))))) (ks' := [.lp (cB (cR (cL (cR (cR bd81)))))]) (by kernel_rfl) ?_
          refine WK.rc (g := []) (l' := [(.t 0, [.data (.slc false none 6 (List.map TEntry.en l7_0))]), (.t 1, [iv l7_1]), (.t 2, [.data (.slc false none 6 (List.map TEntry.en l7_2))]), (.t 20, [.data (.slc false none 6 (List.map TEntry.en l7_3))]), (.t 21, [iv l7_4]), (.t 22, [iv (w64 (l7_5 + 1))])]) .nil (by kernel_rfl) (y := (cB (cR (cL (cR (cR bd81)))))) (ks' := []) (by kernel_rfl) ?_
          exact WK.weak (l := [(.t 0, [.data (.slc false none 6 (List.map TEntry.en l7_0))]), (.t 1, [iv l7_1]), (.t 2, [.data (.slc false none 6 (List.map TEntry.en l7_2))]), (.t 20, [.data (.slc false none 6 (List.map TEntry.en l7_3))]), (.t 21, [iv l7_4]), (.t 22, [iv (w64 (l7_5 + 1))])]) (wk_of (by kernel_rfl)) (ih (w64 (l7_5 + 1)) _ h)
    · refine WK.ce (b := (decide (l7_5 < l7_4))) (by kernel_rfl) b9_0 ?_
      refine WK.weak (l := [(.t 0, [.data (.slc false none 6 (List.map TEntry.en l7_0))])]) (wk_of (by kernel_rfl)) ?_
      refine WK.exit (n := 0) (by kernel_rfl) ?_
      cases some_inj h
      exact WKe.fin (e' := .exit 0) (by kernel_rfl) ⟨rfl, rfl⟩
noncomputable def ulog_Join (fu : Nat) (l : List TEntry) (i : Int) (more : List TEntry) : Option (List TEntry) :=
  br (decide (i < 0))
    (bd (slices_Clone_api_Entry l) fun r3_1 =>
    some r3_1)
    (br (decide (i > (l.length : Int)))
      (bd (slices_Clone_api_Entry l) fun r5_1 =>
      some r5_1)
      (bd (ulog_Join.lp7 fu l i more more (more.length : Int) fu 0) fun o_ => (match o_ with
      | .inl _ =>
        bd (slices_Clone_api_Entry l) fun r18_1 =>
        some r18_1
      | .inr y17_0 =>
        some y17_0)))
theorem ulog_Join.meets (fu : Nat) (l : List TEntry) (i : Int) (more : List TEntry) (z0 : List TEntry) (h : ulog_Join fu l i more = some z0) : Meets Try.prog ⟨81, [.data (.slc false none 6 (List.map TEntry.en l)), iv i, .data (.slc false none 6 (List.map TEntry.en more))], []⟩ ⟨.data (.slc true none 6 (List.map TEntry.en z0)), []⟩ := by
  refine meets_of (O := ulog_Join.O) hmix (fn := Try.f81) (code := bd81) (by kernel_rfl) ?_
  refine WK.weak (l := [(.t 0, [.data (.slc false none 6 (List.map TEntry.en l))]), (.t 1, [iv i]), (.t 2, [.data (.slc false none 6 (List.map TEntry.en more))])]) (wk_of (by kernel_rfl)) ?_
  unfold ulog_Join at h
  refine WK.rs (g := []) (l' := [(.t 0, [.data (.slc false none 6 (List.map TEntry.en l))]), (.t 1, [iv i]), (.t 2, [.data (.slc false none 6 (List.map TEntry.en more))])]) (by kernel_rfl) .nil (by kernel_rfl) ?_
  refine WK.seq (by kernel_rfl) ?_
  rcases br_inv h with ⟨b2_1, h⟩ | ⟨b2_1, h⟩
  · refine WK.rs (g := [.b true, .b true, .b true, .b true, .b true]) (l' := [(.t 0, [.data (.slc false none 6 (List.map TEntry.en l))]), (.t 1, [iv i]), (.t 2, [.data (.slc false none 6 (List.map TEntry.en more))]), (.t 17, [bv true])]) (by kernel_rfl) (.cons b2_1 (.cons b2_1 (.cons b2_1 (.cons b2_1 (.cons b2_1 .nil))))) (by kernel_rfl) ?_
    refine WK.ct (b := true) (by kernel_rfl) rfl ?_
    obtain ⟨r3_1, h3_2, h⟩ := bd_inv h
    refine WK.rs (g := [.a ⟨.data (.slc true none 6 (List.map TEntry.en r3_1)), []⟩]) (l' := [(.t 6, [.data (.slc true none 6 (List.map TEntry.en r3_1))])]) (by kernel_rfl) (.cons (Asks.of (C := Meets Try.prog) (slices_Clone_api_Entry.meets l _ h3_2)) .nil) (by kernel_rfl) ?_
    refine WK.weak (l := [(.t 6, [.data (.slc true none 6 (List.map TEntry.en r3_1))])]) (wk_of (by kernel_rfl)) ?_
    refine WK.ret (by kernel_rfl) ?_
    have h_ := some_inj h
    subst h_
    exact WKe.fin (e' := .ret) (by kernel_rfl) (fin_of (g := []) (by first | exact .inl rfl | exact .inr rfl) .nil (by kernel_rfl))
  · refine WK.rs (g := [.b false, .b false, .b false, .s (.t 15) [iv (l.length : Int)], .b false, .b false]) (l' := [(.t 0, [.data (.slc false none 6 (List.map TEntry.en l))]), (.t 1, [iv i]), (.t 2, [.data (.slc false none 6 (List.map TEntry.en more))]), (.t 17, [bv (decide (i > (l.length : Int)))])]) (by kernel_rfl) (.cons b2_1 (.cons b2_1 (.cons b2_1 (.cons (c_len (e := TEntry.en) (l := l)) (.cons b2_1 (.cons b2_1 .nil)))))) (by kernel_rfl) ?_
    rcases br_inv h with ⟨b4_0, h⟩ | ⟨b4_0, h⟩
    · refine WK.ct (b := (decide (i > (l.length : Int)))) (by kernel_rfl) b4_0 ?_
      obtain ⟨r5_1, h5_2, h⟩ := bd_inv h
      refine WK.rs (g := [.a ⟨.data (.slc true none 6 (List.map TEntry.en r5_1)), []⟩]) (l' := [(.t 6, [.data (.slc true none 6 (List.map TEntry.en r5_1))])]) (by kernel_rfl) (.cons (Asks.of (C := Meets Try.prog) (slices_Clone_api_Entry.meets l _ h5_2)) .nil) (by kernel_rfl) ?_
      refine WK.weak (l := [(.t 6, [.data (.slc true none 6 (List.map TEntry.en r5_1))])]) (wk_of (by kernel_rfl)) ?_
      refine WK.ret (by kernel_rfl) ?_
      have h_ := some_inj h
      subst h_
      exact WKe.fin (e' := .ret) (by kernel_rfl) (fin_of (g := []) (by first | exact .inl rfl | exact .inr rfl) .nil (by kernel_rfl))
    · refine WK.ce (b := (decide (i > (l.length : Int)))) (by kernel_rfl) b4_0 ?_
      refine WK.skip (by kernel_rfl) ?_
      refine WKe.code (y := (cR (cR bd81))) (ks' := []) (by kernel_rfl) ?_
      refine WK.seq (by kernel_rfl) ?_
      refine WK.rs (g := [.s (.t 21) [iv (more.length : Int)]]) (l' := [(.t 0, [.data (.slc false none 6 (List.map TEntry.en l))]), (.t 1, [iv i]), (.t 2, [.data (.slc false none 6 (List.map TEntry.en more))]), (.t 20, [.data (.slc false none 6 (List.map TEntry.en more))]), (.t 21, [iv (more.length : Int)]), (.t 22, [iv 0])]) (by kernel_rfl) (.cons (c_len (e := TEntry.en) (l := more)) .nil) (by kernel_rfl) ?_
      refine WK.block (n := 0) (by kernel_rfl) ?_
      obtain ⟨o17, ho17, h⟩ := bd_inv h
      refine WK.weak (l := [(.t 0, [.data (.slc false none 6 (List.map TEntry.en l))]), (.t 1, [iv i]), (.t 2, [.data (.slc false none 6 (List.map TEntry.en more))]), (.t 20, [.data (.slc false none 6 (List.map TEntry.en more))]), (.t 21, [iv (more.length : Int)]), (.t 22, [iv 0])]) (wk_of (by kernel_rfl)) ?_
      refine WK.use (ulog_Join.lp7_ok fu l i more more (more.length : Int) _ 0 _ ho17) ?_
      intro e_ τ_ hp_
      rcases o17 with o17 | o17
      · obtain ⟨⟩ := o17
        obtain ⟨rfl, rfl⟩ := hp_
        refine WKe.code (y := (cR (cR (cR bd81)))) (ks' := []) (by kernel_rfl) ?_
        obtain ⟨r18_1, h18_2, h⟩ := bd_inv h
        refine WK.rs (g := [.a ⟨.data (.slc true none 6 (List.map TEntry.en r18_1)), []⟩]) (l' := [(.t 6, [.data (.slc true none 6 (List.map TEntry.en r18_1))])]) (by kernel_rfl) (.cons (Asks.of (C := Meets Try.prog) (slices_Clone_api_Entry.meets l _ h18_2)) .nil) (by kernel_rfl) ?_
        refine WK.weak (l := [(.t 6, [.data (.slc true none 6 (List.map TEntry.en r18_1))])]) (wk_of (by kernel_rfl)) ?_
        refine WK.ret (by kernel_rfl) ?_
        have h_ := some_inj h
        subst h_
        exact WKe.fin (e' := .ret) (by kernel_rfl) (fin_of (g := []) (by first | exact .inl rfl | exact .inr rfl) .nil (by kernel_rfl))
      · obtain ⟨y17_0, rfl⟩ : ∃ y, y = o17 := ⟨_, rfl⟩
        obtain ⟨rfl, rfl⟩ := hp_
        have h_ := some_inj h
        subst h_
        exact WKe.fin (e' := .ret) (by kernel_rfl) (fin_of (g := []) (by first | exact .inl rfl | exact .inr rfl) .nil (by kernel_rfl))
/-- (*diwan/raft.member).append -/
noncomputable def bd52 : Code := (Try.f52.body).getD .skip
def raft_member_append.O : Nat → Nat := fun t => bif ([3, 4, 5, 17, 64, 82, 93, 103, 114] : List Nat).any (Nat.beq t) then 1 else 0
noncomputable def raft_member_append (fu : Nat) (m : TMsg) (o0_v : TMember) : Option TMember :=
  br (decide (m.Term < o0_v.Raft.Term))
    (bd (raft_member_sends_2 m.From (TMsg.mk 4 0 0 0 0 0 0 0 false [] (TTxn.mk 0 0 [] []) 0 0 0 0 false ByteArray.empty ByteArray.empty [] [] 0) o0_v) fun r4_1 =>
    some r4_1)
    (br (o0_v.Raft.Role == 2)
      (some o0_v)
      (bd (ulog_Has o0_v.Raft.Log m.Index m.LogTerm) fun r8_1 =>
      br (!r8_1)
        (bd (raft_member_sends_2 m.From (TMsg.mk 4 0 0 0 0 (if (if (o0_v.Raft.Log.length : Int) < (w64 (m.Index - 1)) then (o0_v.Raft.Log.length : Int) else (w64 (m.Index - 1))) < 0 then 0 else (if (o0_v.Raft.Log.length : Int) < (w64 (m.Index - 1)) then (o0_v.Raft.Log.length : Int) else (w64 (m.Index - 1)))) 0 0 false [] (TTxn.mk 0 0 [] []) 0 0 0 0 false ByteArray.empty ByteArray.empty [] [] 0) (TMember.mk (TRaft.mk o0_v.Raft.Me o0_v.Raft.Nodes o0_v.Raft.Wait o0_v.Raft.Term o0_v.Raft.Vote o0_v.Raft.Log o0_v.Raft.Commit 0 m.From o0_v.Raft.Votes o0_v.Raft.Next o0_v.Raft.Match 0) o0_v.out)) fun r10_1 =>
        some r10_1)
        (bd (ulog_Join fu o0_v.Raft.Log m.Index m.Entries) fun r11_1 =>
        br (decide ((r11_1.length : Int) > 200))
          (bd (raft_member_sends m.From (TMsg.mk 4 0 0 0 0 0 0 0 false [] (TTxn.mk 0 0 [] []) 0 0 0 0 false ByteArray.empty ByteArray.empty [] [] 0) (TMember.mk (TRaft.mk o0_v.Raft.Me o0_v.Raft.Nodes o0_v.Raft.Wait o0_v.Raft.Term o0_v.Raft.Vote o0_v.Raft.Log o0_v.Raft.Commit 0 m.From o0_v.Raft.Votes o0_v.Raft.Next o0_v.Raft.Match 0) o0_v.out)) fun r14_1 =>
          some r14_1)
          (bd (raft_entries fu r11_1) fun r16_1 =>
          bd (raft_member_sends m.From (TMsg.mk 4 0 0 0 0 (w64 (m.Index + (m.Entries.length : Int))) 0 0 true [] (TTxn.mk 0 0 [] []) 0 0 0 0 false ByteArray.empty ByteArray.empty [] [] 0) (TMember.mk (TRaft.mk o0_v.Raft.Me o0_v.Raft.Nodes o0_v.Raft.Wait o0_v.Raft.Term o0_v.Raft.Vote r16_1 (if o0_v.Raft.Commit < (if (w64 (m.Index + (m.Entries.length : Int))) < m.Commit then (w64 (m.Index + (m.Entries.length : Int))) else m.Commit) then (if (w64 (m.Index + (m.Entries.length : Int))) < m.Commit then (w64 (m.Index + (m.Entries.length : Int))) else m.Commit) else o0_v.Raft.Commit) 0 m.From o0_v.Raft.Votes o0_v.Raft.Next o0_v.Raft.Match 0) o0_v.out)) fun r17_1 =>
          some r17_1))))
theorem raft_member_append.meets (fu : Nat) (m : TMsg) (o0_v : TMember) (z0 : TMember) (h : raft_member_append fu m o0_v = some z0) : Meets Try.prog ⟨52, [.ptr 1000 0, .data (TMsg.ag m)], [(TMember.ob_00000100011101 o0_v)]⟩ ⟨.tup [], [(TMember.ob_00000000011101 z0)]⟩ := by
  refine meets_of (O := raft_member_append.O) hmix (fn := Try.f52) (code := bd52) (by kernel_rfl) ?_
  refine WK.weak (l := [(.t 0, [.ptr 1000 0]), (.t 1, [.data (TMsg.ag m)]), (.o 1000, (TMember.ob_00000100011101 o0_v))]) (wk_of (by kernel_rfl)) ?_
  unfold raft_member_append at h
  refine WK.rs (g := []) (l' := [(.t 0, [.ptr 1000 0]), (.t 3, [.ptr 3 0]), (.o 3, (TMsg.ob m)), (.o 1000, (TMember.ob_00000100011101 o0_v))]) (by kernel_rfl) .nil (by kernel_rfl) ?_
  refine WK.seq (by kernel_rfl) ?_
  refine WK.rs (g := []) (l' := [(.t 0, [.ptr 1000 0]), (.t 3, [.ptr 3 0]), (.t 13, [bv (decide (m.Term < o0_v.Raft.Term))]), (.o 3, (TMsg.ob m)), (.o 1000, (TMember.ob_00000100011101 o0_v))]) (by kernel_rfl) (.cons (Eq.refl true) .nil) (by kernel_rfl) ?_
  rcases br_inv h with ⟨b3_0, h⟩ | ⟨b3_0, h⟩
  · refine WK.ct (b := (decide (m.Term < o0_v.Raft.Term))) (by kernel_rfl) b3_0 ?_
    obtain ⟨r4_1, h4_2, h⟩ := bd_inv h
    refine WK.rs (g := [.a ⟨.tup [], [(TMember.ob_00000100011101 r4_1)]⟩]) (l' := [(.o 1000, (TMember.ob_00000100011101 r4_1))]) (by kernel_rfl) (.cons (Asks.of (C := Meets Try.prog) (raft_member_sends_2.meets m.From (TMsg.mk 4 0 0 0 0 0 0 0 false [] (TTxn.mk 0 0 [] []) 0 0 0 0 false ByteArray.empty ByteArray.empty [] [] 0) o0_v _ h4_2)) .nil) (by kernel_rfl) ?_
    refine WK.shareO (i := 1000) (cc := 5) (l' := [(.o 1000, (TMember.ob_00000000011101 r4_1))]) (by kernel_rfl) (by kernel_rfl) (by kernel_rfl) ?_
    refine WK.weak (l := [(.o 1000, (TMember.ob_00000000011101 r4_1))]) (wk_of (by kernel_rfl)) ?_
    refine WK.ret (by kernel_rfl) ?_
    have h_ := some_inj h
    subst h_
    exact WKe.fin (e' := .ret) (by kernel_rfl) (fin_of (g := []) (by first | exact .inl rfl | exact .inr rfl) .nil (by kernel_rfl))
  · refine WK.ce (b := (decide (m.Term < o0_v.Raft.Term))) (by kernel_rfl) b3_0 ?_
    refine WK.skip (by kernel_rfl) ?_
    refine WKe.code (y := (cR (cR bd52))) (ks' := []) (by kernel_rfl) ?_
    refine WK.seq (by kernel_rfl) ?_
    refine WK.rs (g := []) (l' := [(.t 0, [.ptr 1000 0]), (.t 3, [.ptr 3 0]), (.t 24, [bv (o0_v.Raft.Role == 2)]), (.o 3, (TMsg.ob m)), (.o 1000, (TMember.ob_00000100011101 o0_v))]) (by kernel_rfl) .nil (by kernel_rfl) ?_
    rcases br_inv h with ⟨b6_0, h⟩ | ⟨b6_0, h⟩
    · refine WK.ct (b := (o0_v.Raft.Role == 2)) (by kernel_rfl) b6_0 ?_
      refine WK.shareO (i := 1000) (cc := 5) (l' := [(.o 1000, (TMember.ob_00000000011101 o0_v))]) (by kernel_rfl) (by kernel_rfl) (by kernel_rfl) ?_
      refine WK.weak (l := [(.o 1000, (TMember.ob_00000000011101 o0_v))]) (wk_of (by kernel_rfl)) ?_
      refine WK.ret (by kernel_rfl) ?_
      have h_ := some_inj h
      subst h_
      exact WKe.fin (e' := .ret) (by kernel_rfl) (fin_of (g := []) (by first | exact .inl rfl | exact .inr rfl) .nil (by kernel_rfl))
    · refine WK.ce (b := (o0_v.Raft.Role == 2)) (by kernel_rfl) b6_0 ?_
      refine WK.skip (by kernel_rfl) ?_
      refine WKe.code (y := (cR (cR (cR bd52)))) (ks' := []) (by kernel_rfl) ?_
      refine WK.rs (g := []) (l' := [(.t 0, [.ptr 1000 0]), (.t 3, [.ptr 3 0]), (.o 3, (TMsg.ob m)), (.o 1000, (TMember.ob_00000100011101 (TMember.mk (TRaft.mk o0_v.Raft.Me o0_v.Raft.Nodes o0_v.Raft.Wait o0_v.Raft.Term o0_v.Raft.Vote o0_v.Raft.Log o0_v.Raft.Commit 0 m.From o0_v.Raft.Votes o0_v.Raft.Next o0_v.Raft.Match 0) o0_v.out)))]) (by kernel_rfl) (.cons (Eq.refl true) .nil) (by kernel_rfl) ?_
      refine WK.seq (by kernel_rfl) ?_
      obtain ⟨r8_1, h8_2, h⟩ := bd_inv h
      refine WK.rs (g := [.a ⟨bv r8_1, []⟩]) (l' := [(.t 0, [.ptr 1000 0]), (.t 3, [.ptr 3 0]), (.t 49, [bv (!r8_1)]), (.o 3, (TMsg.ob m)), (.o 1000, (TMember.ob_00000100011101 (TMember.mk (TRaft.mk o0_v.Raft.Me o0_v.Raft.Nodes o0_v.Raft.Wait o0_v.Raft.Term o0_v.Raft.Vote o0_v.Raft.Log o0_v.Raft.Commit 0 m.From o0_v.Raft.Votes o0_v.Raft.Next o0_v.Raft.Match 0) o0_v.out)))]) (by kernel_rfl) (.cons (Asks.of (C := Meets Try.prog) (ulog_Has.meets o0_v.Raft.Log m.Index m.LogTerm _ h8_2)) (.cons (Eq.refl true) .nil)) (by kernel_rfl) ?_
      rcases br_inv h with ⟨b9_0, h⟩ | ⟨b9_0, h⟩
      · refine WK.ct (b := (!r8_1)) (by kernel_rfl) b9_0 ?_
        obtain ⟨r10_1, h10_2, h⟩ := bd_inv h
        refine WK.rs (g := [.s (.t 61) [iv (o0_v.Raft.Log.length : Int)], .a ⟨.tup [], [(TMember.ob_00000100011101 r10_1)]⟩]) (l' := [(.o 1000, (TMember.ob_00000100011101 r10_1))]) (by kernel_rfl) (.cons (c_len (e := TEntry.en) (l := o0_v.Raft.Log)) (.cons (Asks.of (C := Meets Try.prog) (raft_member_sends_2.meets m.From (TMsg.mk 4 0 0 0 0 (if (if (o0_v.Raft.Log.length : Int) < (w64 (m.Index - 1)) then (o0_v.Raft.Log.length : Int) else (w64 (m.Index - 1))) < 0 then 0 else (if (o0_v.Raft.Log.length : Int) < (w64 (m.Index - 1)) then (o0_v.Raft.Log.length : Int) else (w64 (m.Index - 1)))) 0 0 false [] (TTxn.mk 0 0 [] []) 0 0 0 0 false ByteArray.empty ByteArray.empty [] [] 0) (TMember.mk (TRaft.mk o0_v.Raft.Me o0_v.Raft.Nodes o0_v.Raft.Wait o0_v.Raft.Term o0_v.Raft.Vote o0_v.Raft.Log o0_v.Raft.Commit 0 m.From o0_v.Raft.Votes o0_v.Raft.Next o0_v.Raft.Match 0) o0_v.out) _ h10_2)) (.cons (Eq.refl true) .nil))) (by kernel_rfl) ?_
        refine WK.shareO (i := 1000) (cc := 5) (l' := [(.o 1000, (TMember.ob_00000000011101 r10_1))]) (by kernel_rfl) (by kernel_rfl) (by kernel_rfl) ?_
        refine WK.weak (l := [(.o 1000, (TMember.ob_00000000011101 r10_1))]) (wk_of (by kernel_rfl)) ?_
        refine WK.ret (by kernel_rfl) ?_
        have h_ := some_inj h
        subst h_
        exact WKe.fin (e' := .ret) (by kernel_rfl) (fin_of (g := []) (by first | exact .inl rfl | exact .inr rfl) .nil (by kernel_rfl))
      · refine WK.ce (b := (!r8_1)) (by kernel_rfl) b9_0 ?_
        refine WK.skip (by kernel_rfl) ?_
        refine WKe.code (y := (cR (cR (cR (cR (cR bd52)))))) (ks' := []) (by kernel_rfl) ?_
        refine WK.shareO (i := 1000) (cc := 5) (l' := [(.t 0, [.ptr 1000 0]), (.t 3, [.ptr 3 0]), (.o 3, (TMsg.ob m)), (.o 1000, (TMember.ob_00000000011101 (TMember.mk (TRaft.mk o0_v.Raft.Me o0_v.Raft.Nodes o0_v.Raft.Wait o0_v.Raft.Term o0_v.Raft.Vote o0_v.Raft.Log o0_v.Raft.Commit 0 m.From o0_v.Raft.Votes o0_v.Raft.Next o0_v.Raft.Match 0) o0_v.out)))]) (by kernel_rfl) (by kernel_rfl) (by kernel_rfl) ?_
        obtain ⟨r11_1, h11_2, h⟩ := bd_inv h
        refine WK.rs (g := [.a ⟨.data (.slc true none 6 (List.map TEntry.en r11_1)), []⟩]) (l' := [(.t 0, [.ptr 1000 0]), (.t 3, [.ptr 3 0]), (.t 4, [.data (.slc true none 6 (List.map TEntry.en r11_1))]), (.o 3, (TMsg.ob m)), (.o 1000, (TMember.ob_00000000011101 (TMember.mk (TRaft.mk o0_v.Raft.Me o0_v.Raft.Nodes o0_v.Raft.Wait o0_v.Raft.Term o0_v.Raft.Vote o0_v.Raft.Log o0_v.Raft.Commit 0 m.From o0_v.Raft.Votes o0_v.Raft.Next o0_v.Raft.Match 0) o0_v.out)))]) (by kernel_rfl) (.cons (Asks.of (C := Meets Try.prog) (ulog_Join.meets fu o0_v.Raft.Log m.Index m.Entries _ h11_2)) (.cons (Eq.refl true) .nil)) (by kernel_rfl) ?_
        refine WK.seq (by kernel_rfl) ?_
        refine WK.rs (g := [.s (.t 77) [iv (r11_1.length : Int)]]) (l' := [(.t 0, [.ptr 1000 0]), (.t 3, [.ptr 3 0]), (.t 4, [.data (.slc true none 6 (List.map TEntry.en r11_1))]), (.t 78, [bv (decide ((r11_1.length : Int) > 200))]), (.o 3, (TMsg.ob m)), (.o 1000, (TMember.ob_00000000011101 (TMember.mk (TRaft.mk o0_v.Raft.Me o0_v.Raft.Nodes o0_v.Raft.Wait o0_v.Raft.Term o0_v.Raft.Vote o0_v.Raft.Log o0_v.Raft.Commit 0 m.From o0_v.Raft.Votes o0_v.Raft.Next o0_v.Raft.Match 0) o0_v.out)))]) (by kernel_rfl) (.cons (c_len (e := TEntry.en) (l := r11_1)) .nil) (by kernel_rfl) ?_
        rcases br_inv h with ⟨b13_0, h⟩ | ⟨b13_0, h⟩
        · refine WK.ct (b := (decide ((r11_1.length : Int) > 200))) (by kernel_rfl) b13_0 ?_
          obtain ⟨r14_1, h14_2, h⟩ := bd_inv h
          refine WK.rs (g := [.a ⟨.tup [], [(TMember.ob_00000000011101 r14_1)]⟩]) (l' := [(.o 1000, (TMember.ob_00000000011101 r14_1))]) (by kernel_rfl) (.cons (Asks.of (C := Meets Try.prog) (raft_member_sends.meets m.From (TMsg.mk 4 0 0 0 0 0 0 0 false [] (TTxn.mk 0 0 [] []) 0 0 0 0 false ByteArray.empty ByteArray.empty [] [] 0) (TMember.mk (TRaft.mk o0_v.Raft.Me o0_v.Raft.Nodes o0_v.Raft.Wait o0_v.Raft.Term o0_v.Raft.Vote o0_v.Raft.Log o0_v.Raft.Commit 0 m.From o0_v.Raft.Votes o0_v.Raft.Next o0_v.Raft.Match 0) o0_v.out) _ h14_2)) .nil) (by kernel_rfl) ?_
          refine WK.weak (l := [(.o 1000, (TMember.ob_00000000011101 r14_1))]) (wk_of (by kernel_rfl)) ?_
          refine WK.ret (by kernel_rfl) ?_
          have h_ := some_inj h
          subst h_
          exact WKe.fin (e' := .ret) (by kernel_rfl) (fin_of (g := []) (by first | exact .inl rfl | exact .inr rfl) .nil (by kernel_rfl))
        · refine WK.ce (b := (decide ((r11_1.length : Int) > 200))) (by kernel_rfl) b13_0 ?_
          refine WK.skip (by kernel_rfl) ?_
          refine WKe.code (y := (cR (cR (cR (cR (cR (cR (cR bd52)))))))) (ks' := []) (by kernel_rfl) ?_
          refine WK.rs (g := [.s (.t 88) [iv (m.Entries.length : Int)]]) (l' := [(.t 0, [.ptr 1000 0]), (.t 3, [.ptr 3 0]), (.t 4, [.data (.slc true none 6 (List.map TEntry.en r11_1))]), (.t 5, [iv (w64 (m.Index + (m.Entries.length : Int)))]), (.o 3, (TMsg.ob m)), (.o 1000, (TMember.ob_00000000011101 (TMember.mk (TRaft.mk o0_v.Raft.Me o0_v.Raft.Nodes o0_v.Raft.Wait o0_v.Raft.Term o0_v.Raft.Vote o0_v.Raft.Log o0_v.Raft.Commit 0 m.From o0_v.Raft.Votes o0_v.Raft.Next o0_v.Raft.Match 0) o0_v.out)))]) (by kernel_rfl) (.cons (c_len (e := TEntry.en) (l := m.Entries)) .nil) (by kernel_rfl) ?_
          refine WK.share (x := .tmp 4) (l' := [(.t 0, [.ptr 1000 0]), (.t 3, [.ptr 3 0]), (.t 4, [.data (.slc false none 6 (List.map TEntry.en r11_1))]), (.t 5, [iv (w64 (m.Index + (m.Entries.length : Int)))]), (.o 3, (TMsg.ob m)), (.o 1000, (TMember.ob_00000000011101 (TMember.mk (TRaft.mk o0_v.Raft.Me o0_v.Raft.Nodes o0_v.Raft.Wait o0_v.Raft.Term o0_v.Raft.Vote o0_v.Raft.Log o0_v.Raft.Commit 0 m.From o0_v.Raft.Votes o0_v.Raft.Next o0_v.Raft.Match 0) o0_v.out)))]) (by kernel_rfl) ?_
          obtain ⟨r16_1, h16_2, h⟩ := bd_inv h
          refine WK.rs (g := [.a ⟨.data (.slc true none 6 (List.map TEntry.en r16_1)), []⟩]) (l' := [(.t 0, [.ptr 1000 0]), (.t 3, [.ptr 3 0]), (.t 5, [iv (w64 (m.Index + (m.Entries.length : Int)))]), (.o 3, (TMsg.ob m)), (.o 1000, (TMember.ob_00000100011101 (TMember.mk (TRaft.mk o0_v.Raft.Me o0_v.Raft.Nodes o0_v.Raft.Wait o0_v.Raft.Term o0_v.Raft.Vote r16_1 (if o0_v.Raft.Commit < (if (w64 (m.Index + (m.Entries.length : Int))) < m.Commit then (w64 (m.Index + (m.Entries.length : Int))) else m.Commit) then (if (w64 (m.Index + (m.Entries.length : Int))) < m.Commit then (w64 (m.Index + (m.Entries.length : Int))) else m.Commit) else o0_v.Raft.Commit) 0 m.From o0_v.Raft.Votes o0_v.Raft.Next o0_v.Raft.Match 0) o0_v.out)))]) (by kernel_rfl) (.cons (Asks.of (C := Meets Try.prog) (raft_entries.meets fu r11_1 _ h16_2)) (.cons (Eq.refl true) .nil)) (by kernel_rfl) ?_
          refine WK.shareO (i := 1000) (cc := 5) (l' := [(.t 0, [.ptr 1000 0]), (.t 3, [.ptr 3 0]), (.t 5, [iv (w64 (m.Index + (m.Entries.length : Int)))]), (.o 3, (TMsg.ob m)), (.o 1000, (TMember.ob_00000000011101 (TMember.mk (TRaft.mk o0_v.Raft.Me o0_v.Raft.Nodes o0_v.Raft.Wait o0_v.Raft.Term o0_v.Raft.Vote r16_1 (if o0_v.Raft.Commit < (if (w64 (m.Index + (m.Entries.length : Int))) < m.Commit then (w64 (m.Index + (m.Entries.length : Int))) else m.Commit) then (if (w64 (m.Index + (m.Entries.length : Int))) < m.Commit then (w64 (m.Index + (m.Entries.length : Int))) else m.Commit) else o0_v.Raft.Commit) 0 m.From o0_v.Raft.Votes o0_v.Raft.Next o0_v.Raft.Match 0) o0_v.out)))]) (by kernel_rfl) (by kernel_rfl) (by kernel_rfl) ?_
          obtain ⟨r17_1, h17_2, h⟩ := bd_inv h
          have h_ := some_inj h
          subst h_
          exact WK.rf (g := [.a ⟨.tup [], [(TMember.ob_00000000011101 r17_1)]⟩]) (.cons (Asks.of (C := Meets Try.prog) (raft_member_sends.meets m.From (TMsg.mk 4 0 0 0 0 (w64 (m.Index + (m.Entries.length : Int))) 0 0 true [] (TTxn.mk 0 0 [] []) 0 0 0 0 false ByteArray.empty ByteArray.empty [] [] 0) (TMember.mk (TRaft.mk o0_v.Raft.Me o0_v.Raft.Nodes o0_v.Raft.Wait o0_v.Raft.Term o0_v.Raft.Vote r16_1 (if o0_v.Raft.Commit < (if (w64 (m.Index + (m.Entries.length : Int))) < m.Commit then (w64 (m.Index + (m.Entries.length : Int))) else m.Commit) then (if (w64 (m.Index + (m.Entries.length : Int))) < m.Commit then (w64 (m.Index + (m.Entries.length : Int))) else m.Commit) else o0_v.Raft.Commit) 0 m.From o0_v.Raft.Votes o0_v.Raft.Next o0_v.Raft.Match 0) o0_v.out) _ h17_2)) .nil) (by kernel_rfl) (by kernel_rfl)
/-- (*diwan/raft.member).appended -/
noncomputable def bd53 : Code := (Try.f53.body).getD .skip
def raft_member_appended.O : Nat → Nat := fun t => bif ([3, 4, 5, 56, 75, 81, 104] : List Nat).any (Nat.beq t) then 1 else bif ([107] : List Nat).any (Nat.beq t) then 104 else 0
noncomputable def raft_member_appended (fu : Nat) (m : TMsg) (o0_v : TMember) : Option TMember :=
  br (decide (m.Term < o0_v.Raft.Term))
    (some o0_v)
    (br (o0_v.Raft.Role != 2)
      (some o0_v)
      (ix o0_v.Raft.Next (w64 (m.From - 1)) fun x4_1 =>
      ix o0_v.Raft.Match (w64 (m.From - 1)) fun x4_4 =>
      br (!m.OK)
        (bd (raft_member_more fu m.From (TMember.mk (TRaft.mk o0_v.Raft.Me o0_v.Raft.Nodes o0_v.Raft.Wait o0_v.Raft.Term o0_v.Raft.Vote o0_v.Raft.Log o0_v.Raft.Commit o0_v.Raft.Role o0_v.Raft.Leader o0_v.Raft.Votes (o0_v.Raft.Next.set (w64 (m.From - 1)).toNat (if (if (if (w64 (m.Index + 1)) < (w64 (x4_1 - 1)) then (w64 (m.Index + 1)) else (w64 (x4_1 - 1))) < (w64 (x4_4 + 1)) then (w64 (x4_4 + 1)) else (if (w64 (m.Index + 1)) < (w64 (x4_1 - 1)) then (w64 (m.Index + 1)) else (w64 (x4_1 - 1)))) < 1 then 1 else (if (if (w64 (m.Index + 1)) < (w64 (x4_1 - 1)) then (w64 (m.Index + 1)) else (w64 (x4_1 - 1))) < (w64 (x4_4 + 1)) then (w64 (x4_4 + 1)) else (if (w64 (m.Index + 1)) < (w64 (x4_1 - 1)) then (w64 (m.Index + 1)) else (w64 (x4_1 - 1)))))) o0_v.Raft.Match o0_v.Raft.Clock) o0_v.out)) fun r8_1 =>
        some r8_1)
        (ix (o0_v.Raft.Match.set (w64 (m.From - 1)).toNat (if x4_4 < (if (o0_v.Raft.Log.length : Int) < m.Index then (o0_v.Raft.Log.length : Int) else m.Index) then (if (o0_v.Raft.Log.length : Int) < m.Index then (o0_v.Raft.Log.length : Int) else m.Index) else x4_4)) (w64 (m.From - 1)) fun x10_1 =>
        bd (ballot_Next fu (o0_v.Raft.Match.set (w64 (m.From - 1)).toNat (if x4_4 < (if (o0_v.Raft.Log.length : Int) < m.Index then (o0_v.Raft.Log.length : Int) else m.Index) then (if (o0_v.Raft.Log.length : Int) < m.Index then (o0_v.Raft.Log.length : Int) else m.Index) else x4_4)) o0_v.Raft.Log o0_v.Raft.Term o0_v.Raft.Commit) fun r11_1 =>
        ix (o0_v.Raft.Next.set (w64 (m.From - 1)).toNat (w64 (x10_1 + 1))) (w64 (m.From - 1)) fun x12_1 =>
        br (decide ((o0_v.Raft.Log.length : Int) > (w64 (x12_1 - 1))))
          (bd (raft_member_more fu m.From (TMember.mk (TRaft.mk o0_v.Raft.Me o0_v.Raft.Nodes o0_v.Raft.Wait o0_v.Raft.Term o0_v.Raft.Vote o0_v.Raft.Log r11_1 o0_v.Raft.Role o0_v.Raft.Leader o0_v.Raft.Votes (o0_v.Raft.Next.set (w64 (m.From - 1)).toNat (w64 (x10_1 + 1))) (o0_v.Raft.Match.set (w64 (m.From - 1)).toNat (if x4_4 < (if (o0_v.Raft.Log.length : Int) < m.Index then (o0_v.Raft.Log.length : Int) else m.Index) then (if (o0_v.Raft.Log.length : Int) < m.Index then (o0_v.Raft.Log.length : Int) else m.Index) else x4_4)) o0_v.Raft.Clock) o0_v.out)) fun r14_1 =>
          some r14_1)
          (some (TMember.mk (TRaft.mk o0_v.Raft.Me o0_v.Raft.Nodes o0_v.Raft.Wait o0_v.Raft.Term o0_v.Raft.Vote o0_v.Raft.Log r11_1 o0_v.Raft.Role o0_v.Raft.Leader o0_v.Raft.Votes (o0_v.Raft.Next.set (w64 (m.From - 1)).toNat (w64 (x10_1 + 1))) (o0_v.Raft.Match.set (w64 (m.From - 1)).toNat (if x4_4 < (if (o0_v.Raft.Log.length : Int) < m.Index then (o0_v.Raft.Log.length : Int) else m.Index) then (if (o0_v.Raft.Log.length : Int) < m.Index then (o0_v.Raft.Log.length : Int) else m.Index) else x4_4)) o0_v.Raft.Clock) o0_v.out)))))
theorem raft_member_appended.meets (fu : Nat) (m : TMsg) (o0_v : TMember) (z0 : TMember) (h : raft_member_appended fu m o0_v = some z0) : Meets Try.prog ⟨53, [.ptr 1000 0, .data (TMsg.ag m)], [(TMember.ob_00000100011101 o0_v)]⟩ ⟨.tup [], [(TMember.ob_00000000011101 z0)]⟩ := by
  refine meets_of (O := raft_member_appended.O) hmix (fn := Try.f53) (code := bd53) (by kernel_rfl) ?_
  refine WK.weak (l := [(.t 0, [.ptr 1000 0]), (.t 1, [.data (TMsg.ag m)]), (.o 1000, (TMember.ob_00000100011101 o0_v))]) (wk_of (by kernel_rfl)) ?_
  unfold raft_member_appended at h
  refine WK.rs (g := []) (l' := [(.t 0, [.ptr 1000 0]), (.t 3, [.ptr 3 0]), (.o 3, (TMsg.ob m)), (.o 1000, (TMember.ob_00000100011101 o0_v))]) (by kernel_rfl) .nil (by kernel_rfl) ?_
  refine WK.seq (by kernel_rfl) ?_
  rcases br_inv h with ⟨b2_1, h⟩ | ⟨b2_1, h⟩
  · refine WK.rs (g := [.b true, .b true, .b true, .b true, .b true, .b true, .b true]) (l' := [(.t 0, [.ptr 1000 0]), (.t 3, [.ptr 3 0]), (.t 21, [bv true]), (.o 3, (TMsg.ob m)), (.o 1000, (TMember.ob_00000100011101 o0_v))]) (by kernel_rfl) (.cons b2_1 (.cons b2_1 (.cons b2_1 (.cons b2_1 (.cons b2_1 (.cons b2_1 (.cons b2_1 (.cons (Eq.refl true) .nil)))))))) (by kernel_rfl) ?_
    refine WK.ct (b := true) (by kernel_rfl) rfl ?_
    refine WK.shareO (i := 1000) (cc := 5) (l' := [(.o 1000, (TMember.ob_00000000011101 o0_v))]) (by kernel_rfl) (by kernel_rfl) (by kernel_rfl) ?_
    refine WK.weak (l := [(.o 1000, (TMember.ob_00000000011101 o0_v))]) (wk_of (by kernel_rfl)) ?_
    refine WK.ret (by kernel_rfl) ?_
    have h_ := some_inj h
    subst h_
    exact WKe.fin (e' := .ret) (by kernel_rfl) (fin_of (g := []) (by first | exact .inl rfl | exact .inr rfl) .nil (by kernel_rfl))
  · refine WK.rs (g := [.b false, .b false, .b false, .b false, .b false, .b false, .b false]) (l' := [(.t 0, [.ptr 1000 0]), (.t 3, [.ptr 3 0]), (.t 21, [bv (o0_v.Raft.Role != 2)]), (.o 3, (TMsg.ob m)), (.o 1000, (TMember.ob_00000100011101 o0_v))]) (by kernel_rfl) (.cons b2_1 (.cons b2_1 (.cons b2_1 (.cons b2_1 (.cons b2_1 (.cons b2_1 (.cons b2_1 (.cons (Eq.refl true) .nil)))))))) (by kernel_rfl) ?_
    rcases br_inv h with ⟨b3_0, h⟩ | ⟨b3_0, h⟩
    · refine WK.ct (b := (o0_v.Raft.Role != 2)) (by kernel_rfl) b3_0 ?_
      refine WK.shareO (i := 1000) (cc := 5) (l' := [(.o 1000, (TMember.ob_00000000011101 o0_v))]) (by kernel_rfl) (by kernel_rfl) (by kernel_rfl) ?_
      refine WK.weak (l := [(.o 1000, (TMember.ob_00000000011101 o0_v))]) (wk_of (by kernel_rfl)) ?_
      refine WK.ret (by kernel_rfl) ?_
      have h_ := some_inj h
      subst h_
      exact WKe.fin (e' := .ret) (by kernel_rfl) (fin_of (g := []) (by first | exact .inl rfl | exact .inr rfl) .nil (by kernel_rfl))
    · refine WK.ce (b := (o0_v.Raft.Role != 2)) (by kernel_rfl) b3_0 ?_
      refine WK.skip (by kernel_rfl) ?_
      refine WKe.code (y := (cR (cR bd53))) (ks' := []) (by kernel_rfl) ?_
      obtain ⟨x4_1, a4_2, e4_3, h⟩ := ix_inv h
      obtain ⟨x4_4, a4_5, e4_6, h⟩ := ix_inv h
      refine WK.rs (g := []) (l' := [(.t 0, [.ptr 1000 0]), (.t 3, [.ptr 3 0]), (.t 4, [.eptr (.o 1000) 0 10 (w64 (m.From - 1)).toNat 0]), (.t 5, [.eptr (.o 1000) 0 11 (w64 (m.From - 1)).toNat 0]), (.o 3, (TMsg.ob m)), (.o 1000, (TMember.ob_00000100011101 o0_v))]) (by kernel_rfl) (.cons (c_ix (e := e_i64) a4_2 e4_3) (.cons (c_ix (e := e_i64) a4_5 e4_6) (.cons (Eq.refl true) .nil))) (by kernel_rfl) ?_
      refine WK.seq (by kernel_rfl) ?_
      refine WK.rs (g := []) (l' := [(.t 0, [.ptr 1000 0]), (.t 3, [.ptr 3 0]), (.t 4, [.eptr (.o 1000) 0 10 (w64 (m.From - 1)).toNat 0]), (.t 5, [.eptr (.o 1000) 0 11 (w64 (m.From - 1)).toNat 0]), (.t 42, [bv (!m.OK)]), (.o 3, (TMsg.ob m)), (.o 1000, (TMember.ob_00000100011101 o0_v))]) (by kernel_rfl) .nil (by kernel_rfl) ?_
      rcases br_inv h with ⟨b6_0, h⟩ | ⟨b6_0, h⟩
      · refine WK.ct (b := (!m.OK)) (by kernel_rfl) b6_0 ?_
        refine WK.rs (g := [.c (e_i64 x4_1), .c (e_i64 x4_4), .c (e_i64 x4_1), .s (.o 1000) (TMember.ob_00000100011101 (TMember.mk (TRaft.mk o0_v.Raft.Me o0_v.Raft.Nodes o0_v.Raft.Wait o0_v.Raft.Term o0_v.Raft.Vote o0_v.Raft.Log o0_v.Raft.Commit o0_v.Raft.Role o0_v.Raft.Leader o0_v.Raft.Votes (o0_v.Raft.Next.set (w64 (m.From - 1)).toNat (if (if (if (w64 (m.Index + 1)) < (w64 (x4_1 - 1)) then (w64 (m.Index + 1)) else (w64 (x4_1 - 1))) < (w64 (x4_4 + 1)) then (w64 (x4_4 + 1)) else (if (w64 (m.Index + 1)) < (w64 (x4_1 - 1)) then (w64 (m.Index + 1)) else (w64 (x4_1 - 1)))) < 1 then 1 else (if (if (w64 (m.Index + 1)) < (w64 (x4_1 - 1)) then (w64 (m.Index + 1)) else (w64 (x4_1 - 1))) < (w64 (x4_4 + 1)) then (w64 (x4_4 + 1)) else (if (w64 (m.Index + 1)) < (w64 (x4_1 - 1)) then (w64 (m.Index + 1)) else (w64 (x4_1 - 1)))))) o0_v.Raft.Match o0_v.Raft.Clock) o0_v.out))]) (l' := [(.t 0, [.ptr 1000 0]), (.t 3, [.ptr 3 0]), (.o 3, (TMsg.ob m)), (.o 1000, (TMember.ob_00000100011101 (TMember.mk (TRaft.mk o0_v.Raft.Me o0_v.Raft.Nodes o0_v.Raft.Wait o0_v.Raft.Term o0_v.Raft.Vote o0_v.Raft.Log o0_v.Raft.Commit o0_v.Raft.Role o0_v.Raft.Leader o0_v.Raft.Votes (o0_v.Raft.Next.set (w64 (m.From - 1)).toNat (if (if (if (w64 (m.Index + 1)) < (w64 (x4_1 - 1)) then (w64 (m.Index + 1)) else (w64 (x4_1 - 1))) < (w64 (x4_4 + 1)) then (w64 (x4_4 + 1)) else (if (w64 (m.Index + 1)) < (w64 (x4_1 - 1)) then (w64 (m.Index + 1)) else (w64 (x4_1 - 1)))) < 1 then 1 else (if (if (w64 (m.Index + 1)) < (w64 (x4_1 - 1)) then (w64 (m.Index + 1)) else (w64 (x4_1 - 1))) < (w64 (x4_4 + 1)) then (w64 (x4_4 + 1)) else (if (w64 (m.Index + 1)) < (w64 (x4_1 - 1)) then (w64 (m.Index + 1)) else (w64 (x4_1 - 1)))))) o0_v.Raft.Match o0_v.Raft.Clock) o0_v.out)))]) (by kernel_rfl) (.cons (c_el (e := e_i64) e4_3) (.cons (c_el (e := e_i64) e4_6) (.cons (c_el (e := e_i64) e4_3) (.cons (congrArg (fun d : DV => (TMember.ob_00000100011101 (TMember.mk (TRaft.mk o0_v.Raft.Me o0_v.Raft.Nodes o0_v.Raft.Wait o0_v.Raft.Term o0_v.Raft.Vote o0_v.Raft.Log o0_v.Raft.Commit o0_v.Raft.Role o0_v.Raft.Leader o0_v.Raft.Votes (o0_v.Raft.Next.set (w64 (m.From - 1)).toNat (if (if (if (w64 (m.Index + 1)) < (w64 (x4_1 - 1)) then (w64 (m.Index + 1)) else (w64 (x4_1 - 1))) < (w64 (x4_4 + 1)) then (w64 (x4_4 + 1)) else (if (w64 (m.Index + 1)) < (w64 (x4_1 - 1)) then (w64 (m.Index + 1)) else (w64 (x4_1 - 1)))) < 1 then 1 else (if (if (w64 (m.Index + 1)) < (w64 (x4_1 - 1)) then (w64 (m.Index + 1)) else (w64 (x4_1 - 1))) < (w64 (x4_4 + 1)) then (w64 (x4_4 + 1)) else (if (w64 (m.Index + 1)) < (w64 (x4_1 - 1)) then (w64 (m.Index + 1)) else (w64 (x4_1 - 1)))))) o0_v.Raft.Match o0_v.Raft.Clock) o0_v.out)).set 10 (AV.data d)) (c_set (e := e_i64) (s := 1) (nl := none) (l := o0_v.Raft.Next) (i := (w64 (m.From - 1)).toNat) (x := (if (if (if (w64 (m.Index + 1)) < (w64 (x4_1 - 1)) then (w64 (m.Index + 1)) else (w64 (x4_1 - 1))) < (w64 (x4_4 + 1)) then (w64 (x4_4 + 1)) else (if (w64 (m.Index + 1)) < (w64 (x4_1 - 1)) then (w64 (m.Index + 1)) else (w64 (x4_1 - 1)))) < 1 then 1 else (if (if (w64 (m.Index + 1)) < (w64 (x4_1 - 1)) then (w64 (m.Index + 1)) else (w64 (x4_1 - 1))) < (w64 (x4_4 + 1)) then (w64 (x4_4 + 1)) else (if (w64 (m.Index + 1)) < (w64 (x4_1 - 1)) then (w64 (m.Index + 1)) else (w64 (x4_1 - 1)))))))) (.cons (Eq.refl true) .nil))))) (by kernel_rfl) ?_
        obtain ⟨r8_1, h8_2, h⟩ := bd_inv h
        refine WK.rs (g := [.a ⟨.tup [], [(TMember.ob_00000000011101 r8_1)]⟩]) (l' := [(.o 1000, (TMember.ob_00000000011101 r8_1))]) (by kernel_rfl) (.cons (Asks.of (C := Meets Try.prog) (raft_member_more.meets fu m.From (TMember.mk (TRaft.mk o0_v.Raft.Me o0_v.Raft.Nodes o0_v.Raft.Wait o0_v.Raft.Term o0_v.Raft.Vote o0_v.Raft.Log o0_v.Raft.Commit o0_v.Raft.Role o0_v.Raft.Leader o0_v.Raft.Votes (o0_v.Raft.Next.set (w64 (m.From - 1)).toNat (if (if (if (w64 (m.Index + 1)) < (w64 (x4_1 - 1)) then (w64 (m.Index + 1)) else (w64 (x4_1 - 1))) < (w64 (x4_4 + 1)) then (w64 (x4_4 + 1)) else (if (w64 (m.Index + 1)) < (w64 (x4_1 - 1)) then (w64 (m.Index + 1)) else (w64 (x4_1 - 1)))) < 1 then 1 else (if (if (w64 (m.Index + 1)) < (w64 (x4_1 - 1)) then (w64 (m.Index + 1)) else (w64 (x4_1 - 1))) < (w64 (x4_4 + 1)) then (w64 (x4_4 + 1)) else (if (w64 (m.Index + 1)) < (w64 (x4_1 - 1)) then (w64 (m.Index + 1)) else (w64 (x4_1 - 1)))))) o0_v.Raft.Match o0_v.Raft.Clock) o0_v.out) _ h8_2)) .nil) (by kernel_rfl) ?_
        refine WK.weak (l := [(.o 1000, (TMember.ob_00000000011101 r8_1))]) (wk_of (by kernel_rfl)) ?_
        refine WK.ret (by kernel_rfl) ?_
        have h_ := some_inj h
        subst h_
        exact WKe.fin (e' := .ret) (by kernel_rfl) (fin_of (g := []) (by first | exact .inl rfl | exact .inr rfl) .nil (by kernel_rfl))
      · refine WK.ce (b := (!m.OK)) (by kernel_rfl) b6_0 ?_
        refine WK.skip (by kernel_rfl) ?_
        refine WKe.code (y := (cR (cR (cR (cR bd53))))) (ks' := []) (by kernel_rfl) ?_
        refine WK.rs (g := [.c (e_i64 x4_4), .s (.t 73) [iv (o0_v.Raft.Log.length : Int)], .c (e_i64 x4_4), .s (.o 1000) (TMember.ob_00000100011101 (TMember.mk (TRaft.mk o0_v.Raft.Me o0_v.Raft.Nodes o0_v.Raft.Wait o0_v.Raft.Term o0_v.Raft.Vote o0_v.Raft.Log o0_v.Raft.Commit o0_v.Raft.Role o0_v.Raft.Leader o0_v.Raft.Votes o0_v.Raft.Next (o0_v.Raft.Match.set (w64 (m.From - 1)).toNat (if x4_4 < (if (o0_v.Raft.Log.length : Int) < m.Index then (o0_v.Raft.Log.length : Int) else m.Index) then (if (o0_v.Raft.Log.length : Int) < m.Index then (o0_v.Raft.Log.length : Int) else m.Index) else x4_4)) o0_v.Raft.Clock) o0_v.out))]) (l' := [(.t 0, [.ptr 1000 0]), (.t 3, [.ptr 3 0]), (.t 4, [.eptr (.o 1000) 0 10 (w64 (m.From - 1)).toNat 0]), (.t 5, [.eptr (.o 1000) 0 11 (w64 (m.From - 1)).toNat 0]), (.o 3, (TMsg.ob m)), (.o 1000, (TMember.ob_00000100011101 (TMember.mk (TRaft.mk o0_v.Raft.Me o0_v.Raft.Nodes o0_v.Raft.Wait o0_v.Raft.Term o0_v.Raft.Vote o0_v.Raft.Log o0_v.Raft.Commit o0_v.Raft.Role o0_v.Raft.Leader o0_v.Raft.Votes o0_v.Raft.Next (o0_v.Raft.Match.set (w64 (m.From - 1)).toNat (if x4_4 < (if (o0_v.Raft.Log.length : Int) < m.Index then (o0_v.Raft.Log.length : Int) else m.Index) then (if (o0_v.Raft.Log.length : Int) < m.Index then (o0_v.Raft.Log.length : Int) else m.Index) else x4_4)) o0_v.Raft.Clock) o0_v.out)))]) (by kernel_rfl) (.cons (c_el (e := e_i64) e4_6) (.cons (c_len (e := TEntry.en) (l := o0_v.Raft.Log)) (.cons (c_el (e := e_i64) e4_6) (.cons (congrArg (fun d : DV => (TMember.ob_00000100011101 (TMember.mk (TRaft.mk o0_v.Raft.Me o0_v.Raft.Nodes o0_v.Raft.Wait o0_v.Raft.Term o0_v.Raft.Vote o0_v.Raft.Log o0_v.Raft.Commit o0_v.Raft.Role o0_v.Raft.Leader o0_v.Raft.Votes o0_v.Raft.Next (o0_v.Raft.Match.set (w64 (m.From - 1)).toNat (if x4_4 < (if (o0_v.Raft.Log.length : Int) < m.Index then (o0_v.Raft.Log.length : Int) else m.Index) then (if (o0_v.Raft.Log.length : Int) < m.Index then (o0_v.Raft.Log.length : Int) else m.Index) else x4_4)) o0_v.Raft.Clock) o0_v.out)).set 11 (AV.data d)) (c_set (e := e_i64) (s := 1) (nl := none) (l := o0_v.Raft.Match) (i := (w64 (m.From - 1)).toNat) (x := (if x4_4 < (if (o0_v.Raft.Log.length : Int) < m.Index then (o0_v.Raft.Log.length : Int) else m.Index) then (if (o0_v.Raft.Log.length : Int) < m.Index then (o0_v.Raft.Log.length : Int) else m.Index) else x4_4)))) (.cons (Eq.refl true) .nil))))) (by kernel_rfl) ?_
        obtain ⟨x10_1, a10_2, e10_3, h⟩ := ix_inv h
        refine WK.rs (g := [.c (e_i64 x10_1), .c (e_i64 x4_1), .s (.o 1000) (TMember.ob_00000100011101 (TMember.mk (TRaft.mk o0_v.Raft.Me o0_v.Raft.Nodes o0_v.Raft.Wait o0_v.Raft.Term o0_v.Raft.Vote o0_v.Raft.Log o0_v.Raft.Commit o0_v.Raft.Role o0_v.Raft.Leader o0_v.Raft.Votes (o0_v.Raft.Next.set (w64 (m.From - 1)).toNat (w64 (x10_1 + 1))) (o0_v.Raft.Match.set (w64 (m.From - 1)).toNat (if x4_4 < (if (o0_v.Raft.Log.length : Int) < m.Index then (o0_v.Raft.Log.length : Int) else m.Index) then (if (o0_v.Raft.Log.length : Int) < m.Index then (o0_v.Raft.Log.length : Int) else m.Index) else x4_4)) o0_v.Raft.Clock) o0_v.out))]) (l' := [(.t 0, [.ptr 1000 0]), (.t 3, [.ptr 3 0]), (.t 4, [.eptr (.o 1000) 0 10 (w64 (m.From - 1)).toNat 0]), (.o 3, (TMsg.ob m)), (.o 1000, (TMember.ob_00000100011101 (TMember.mk (TRaft.mk o0_v.Raft.Me o0_v.Raft.Nodes o0_v.Raft.Wait o0_v.Raft.Term o0_v.Raft.Vote o0_v.Raft.Log o0_v.Raft.Commit o0_v.Raft.Role o0_v.Raft.Leader o0_v.Raft.Votes (o0_v.Raft.Next.set (w64 (m.From - 1)).toNat (w64 (x10_1 + 1))) (o0_v.Raft.Match.set (w64 (m.From - 1)).toNat (if x4_4 < (if (o0_v.Raft.Log.length : Int) < m.Index then (o0_v.Raft.Log.length : Int) else m.Index) then (if (o0_v.Raft.Log.length : Int) < m.Index then (o0_v.Raft.Log.length : Int) else m.Index) else x4_4)) o0_v.Raft.Clock) o0_v.out)))]) (by kernel_rfl) (.cons (c_el (e := e_i64) e10_3) (.cons (c_el (e := e_i64) e4_3) (.cons (congrArg (fun d : DV => (TMember.ob_00000100011101 (TMember.mk (TRaft.mk o0_v.Raft.Me o0_v.Raft.Nodes o0_v.Raft.Wait o0_v.Raft.Term o0_v.Raft.Vote o0_v.Raft.Log o0_v.Raft.Commit o0_v.Raft.Role o0_v.Raft.Leader o0_v.Raft.Votes (o0_v.Raft.Next.set (w64 (m.From - 1)).toNat (w64 (x10_1 + 1))) (o0_v.Raft.Match.set (w64 (m.From - 1)).toNat (if x4_4 < (if (o0_v.Raft.Log.length : Int) < m.Index then (o0_v.Raft.Log.length : Int) else m.Index) then (if (o0_v.Raft.Log.length : Int) < m.Index then (o0_v.Raft.Log.length : Int) else m.Index) else x4_4)) o0_v.Raft.Clock) o0_v.out)).set 10 (AV.data d)) (c_set (e := e_i64) (s := 1) (nl := none) (l := o0_v.Raft.Next) (i := (w64 (m.From - 1)).toNat) (x := (w64 (x10_1 + 1))))) .nil))) (by kernel_rfl) ?_
        obtain ⟨r11_1, h11_2, h⟩ := bd_inv h
        refine WK.rs (g := [.a ⟨iv r11_1, []⟩]) (l' := [(.t 0, [.ptr 1000 0]), (.t 3, [.ptr 3 0]), (.t 4, [.eptr (.o 1000) 0 10 (w64 (m.From - 1)).toNat 0]), (.o 3, (TMsg.ob m)), (.o 1000, (TMember.ob_00000100011101 (TMember.mk (TRaft.mk o0_v.Raft.Me o0_v.Raft.Nodes o0_v.Raft.Wait o0_v.Raft.Term o0_v.Raft.Vote o0_v.Raft.Log r11_1 o0_v.Raft.Role o0_v.Raft.Leader o0_v.Raft.Votes (o0_v.Raft.Next.set (w64 (m.From - 1)).toNat (w64 (x10_1 + 1))) (o0_v.Raft.Match.set (w64 (m.From - 1)).toNat (if x4_4 < (if (o0_v.Raft.Log.length : Int) < m.Index then (o0_v.Raft.Log.length : Int) else m.Index) then (if (o0_v.Raft.Log.length : Int) < m.Index then (o0_v.Raft.Log.length : Int) else m.Index) else x4_4)) o0_v.Raft.Clock) o0_v.out)))]) (by kernel_rfl) (.cons (Asks.of (C := Meets Try.prog) (ballot_Next.meets fu (o0_v.Raft.Match.set (w64 (m.From - 1)).toNat (if x4_4 < (if (o0_v.Raft.Log.length : Int) < m.Index then (o0_v.Raft.Log.length : Int) else m.Index) then (if (o0_v.Raft.Log.length : Int) < m.Index then (o0_v.Raft.Log.length : Int) else m.Index) else x4_4)) o0_v.Raft.Log o0_v.Raft.Term o0_v.Raft.Commit _ h11_2)) (.cons (Eq.refl true) .nil)) (by kernel_rfl) ?_
        obtain ⟨x12_1, a12_2, e12_3, h⟩ := ix_inv h
        refine WK.rs (g := [.s (.t 113) [iv (o0_v.Raft.Log.length : Int)], .c (e_i64 x12_1)]) (l' := [(.t 0, [.ptr 1000 0]), (.t 3, [.ptr 3 0]), (.t 118, [bv (decide ((o0_v.Raft.Log.length : Int) > (w64 (x12_1 - 1))))]), (.o 3, (TMsg.ob m)), (.o 1000, (TMember.ob_00000100011101 (TMember.mk (TRaft.mk o0_v.Raft.Me o0_v.Raft.Nodes o0_v.Raft.Wait o0_v.Raft.Term o0_v.Raft.Vote o0_v.Raft.Log r11_1 o0_v.Raft.Role o0_v.Raft.Leader o0_v.Raft.Votes (o0_v.Raft.Next.set (w64 (m.From - 1)).toNat (w64 (x10_1 + 1))) (o0_v.Raft.Match.set (w64 (m.From - 1)).toNat (if x4_4 < (if (o0_v.Raft.Log.length : Int) < m.Index then (o0_v.Raft.Log.length : Int) else m.Index) then (if (o0_v.Raft.Log.length : Int) < m.Index then (o0_v.Raft.Log.length : Int) else m.Index) else x4_4)) o0_v.Raft.Clock) o0_v.out)))]) (by kernel_rfl) (.cons (c_len (e := TEntry.en) (l := o0_v.Raft.Log)) (.cons (c_el (e := e_i64) e12_3) (.cons (Eq.refl true) .nil))) (by kernel_rfl) ?_
        rcases br_inv h with ⟨b13_0, h⟩ | ⟨b13_0, h⟩
        · refine WK.ct (b := (decide ((o0_v.Raft.Log.length : Int) > (w64 (x12_1 - 1))))) (by kernel_rfl) b13_0 ?_
          obtain ⟨r14_1, h14_2, h⟩ := bd_inv h
          have h_ := some_inj h
          subst h_
          exact WK.rf (g := [.a ⟨.tup [], [(TMember.ob_00000000011101 r14_1)]⟩]) (.cons (Asks.of (C := Meets Try.prog) (raft_member_more.meets fu m.From (TMember.mk (TRaft.mk o0_v.Raft.Me o0_v.Raft.Nodes o0_v.Raft.Wait o0_v.Raft.Term o0_v.Raft.Vote o0_v.Raft.Log r11_1 o0_v.Raft.Role o0_v.Raft.Leader o0_v.Raft.Votes (o0_v.Raft.Next.set (w64 (m.From - 1)).toNat (w64 (x10_1 + 1))) (o0_v.Raft.Match.set (w64 (m.From - 1)).toNat (if x4_4 < (if (o0_v.Raft.Log.length : Int) < m.Index then (o0_v.Raft.Log.length : Int) else m.Index) then (if (o0_v.Raft.Log.length : Int) < m.Index then (o0_v.Raft.Log.length : Int) else m.Index) else x4_4)) o0_v.Raft.Clock) o0_v.out) _ h14_2)) .nil) (by kernel_rfl) (by kernel_rfl)
        · refine WK.ce (b := (decide ((o0_v.Raft.Log.length : Int) > (w64 (x12_1 - 1))))) (by kernel_rfl) b13_0 ?_
          refine WK.shareO (i := 1000) (cc := 5) (l' := [(.o 1000, (TMember.ob_00000000011101 (TMember.mk (TRaft.mk o0_v.Raft.Me o0_v.Raft.Nodes o0_v.Raft.Wait o0_v.Raft.Term o0_v.Raft.Vote o0_v.Raft.Log r11_1 o0_v.Raft.Role o0_v.Raft.Leader o0_v.Raft.Votes (o0_v.Raft.Next.set (w64 (m.From - 1)).toNat (w64 (x10_1 + 1))) (o0_v.Raft.Match.set (w64 (m.From - 1)).toNat (if x4_4 < (if (o0_v.Raft.Log.length : Int) < m.Index then (o0_v.Raft.Log.length : Int) else m.Index) then (if (o0_v.Raft.Log.length : Int) < m.Index then (o0_v.Raft.Log.length : Int) else m.Index) else x4_4)) o0_v.Raft.Clock) o0_v.out)))]) (by kernel_rfl) (by kernel_rfl) (by kernel_rfl) ?_
          refine WK.weak (l := [(.o 1000, (TMember.ob_00000000011101 (TMember.mk (TRaft.mk o0_v.Raft.Me o0_v.Raft.Nodes o0_v.Raft.Wait o0_v.Raft.Term o0_v.Raft.Vote o0_v.Raft.Log r11_1 o0_v.Raft.Role o0_v.Raft.Leader o0_v.Raft.Votes (o0_v.Raft.Next.set (w64 (m.From - 1)).toNat (w64 (x10_1 + 1))) (o0_v.Raft.Match.set (w64 (m.From - 1)).toNat (if x4_4 < (if (o0_v.Raft.Log.length : Int) < m.Index then (o0_v.Raft.Log.length : Int) else m.Index) then (if (o0_v.Raft.Log.length : Int) < m.Index then (o0_v.Raft.Log.length : Int) else m.Index) else x4_4)) o0_v.Raft.Clock) o0_v.out)))]) (wk_of (by kernel_rfl)) ?_
          refine WK.skip (by kernel_rfl) ?_
          have h_ := some_inj h
          subst h_
          exact WKe.fin (e' := .normal) (by kernel_rfl) (fin_of (g := []) (by first | exact .inl rfl | exact .inr rfl) .nil (by kernel_rfl))
end Go.Proofs.Ythpokjkbcdfhiaa.Told
