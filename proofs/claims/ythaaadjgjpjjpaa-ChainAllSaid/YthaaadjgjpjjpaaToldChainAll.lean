/- Functions of the program told as Lean functions, with the walks of their code in the machine by value. -/
import Derived.Test.YthaaadjgjpjjpaaProg
import Derived.Test.YthaaadjgjpjjpaaVam2
namespace Go.Proofs.Ythaaadjgjpjjpaa.Told
open Go Go.Proofs Go.Proofs.Ythaaadjgjpjjpaa Go.Proofs.Ythaaadjgjpjjpaa.Vam
set_option linter.unusedVariables false
set_option maxRecDepth 100000
theorem hmix : Try.prog.follows .mixedOrders = true := by kernel_rfl
structure TVersion where
  Pos : Int
  Val : ByteArray
  Gone : Bool
def TVersion.en (x : TVersion) : List DV := [.val (.int .i64 x.Pos), .val (.string x.Val), .val (.bool x.Gone)]
/-- (diwan/chain.versions).last -/
noncomputable def bd22 : Code := (Try.f22.body).getD .skip
def chain_versions_last.O : Nat → Nat := fun t => bif ([2] : List Nat).any (Nat.beq t) then 1 else 0
noncomputable def chain_versions_last (l : List TVersion) : Option Int :=
  br ((l.length : Int) == 0)
    (some 0)
    (ix l (w64 ((l.length : Int) - 1)) fun x5_1 =>
    some x5_1.Pos)
theorem chain_versions_last.meets (l : List TVersion) (z0 : Int) (h : chain_versions_last l = some z0) : Meets Try.prog ⟨22, [.data (.slc false none 3 (List.map TVersion.en l))], []⟩ ⟨iv z0, []⟩ := by
  refine meets_of (O := chain_versions_last.O) hmix (fn := Try.f22) (code := bd22) (by kernel_rfl) ?_
  refine WK.weak (l := [(.t 0, [.data (.slc false none 3 (List.map TVersion.en l))])]) (wk_of (by kernel_rfl)) ?_
  unfold chain_versions_last at h
  refine WK.rs (g := []) (l' := [(.t 0, [.data (.slc false none 3 (List.map TVersion.en l))])]) (by kernel_rfl) .nil (by kernel_rfl) ?_
  refine WK.seq (by kernel_rfl) ?_
  refine WK.rs (g := [.s (.t 4) [iv (l.length : Int)]]) (l' := [(.t 0, [.data (.slc false none 3 (List.map TVersion.en l))]), (.t 5, [bv ((l.length : Int) == 0)])]) (by kernel_rfl) (.cons (c_len (e := TVersion.en) (l := l)) .nil) (by kernel_rfl) ?_
  rcases br_inv h with ⟨b3_0, h⟩ | ⟨b3_0, h⟩
  · refine WK.ct (b := ((l.length : Int) == 0)) (by kernel_rfl) b3_0 ?_
    refine WK.rs (g := []) (l' := [(.t 2, [iv 0])]) (by kernel_rfl) .nil (by kernel_rfl) ?_
    refine WK.weak (l := [(.t 2, [iv 0])]) (wk_of (by kernel_rfl)) ?_
    refine WK.ret (by kernel_rfl) ?_
    cases some_inj h
    exact WKe.fin (e' := .ret) (by kernel_rfl) (fin_of (g := []) (by first | exact .inl rfl | exact .inr rfl) .nil (by kernel_rfl))
  · refine WK.ce (b := ((l.length : Int) == 0)) (by kernel_rfl) b3_0 ?_
    refine WK.skip (by kernel_rfl) ?_
    refine WKe.code (y := (cR (cR bd22))) (ks' := []) (by kernel_rfl) ?_
    obtain ⟨x5_1, a5_2, e5_3, h⟩ := ix_inv h
    refine WK.rs (g := [.s (.t 8) [iv (l.length : Int)], .c (TVersion.en x5_1)]) (l' := [(.t 2, [iv x5_1.Pos])]) (by kernel_rfl) (.cons (c_len (e := TVersion.en) (l := l)) (.cons (c_ix (e := TVersion.en) a5_2 e5_3) (.cons (c_el (e := TVersion.en) e5_3) .nil))) (by kernel_rfl) ?_
    refine WK.weak (l := [(.t 2, [iv x5_1.Pos])]) (wk_of (by kernel_rfl)) ?_
    refine WK.ret (by kernel_rfl) ?_
    cases some_inj h
    exact WKe.fin (e' := .ret) (by kernel_rfl) (fin_of (g := []) (by first | exact .inl rfl | exact .inr rfl) .nil (by kernel_rfl))
/-- diwan/chain.Last -/
noncomputable def bd16 : Code := (Try.f16.body).getD .skip
def chain_Last.O : Nat → Nat := fun t => bif ([2, 3] : List Nat).any (Nat.beq t) then 1 else 0
noncomputable def chain_Last (l : List TVersion) : Option Int :=
  bd (chain_versions_last l) fun r3_1 =>
  some r3_1
theorem chain_Last.meets (l : List TVersion) (z0 : Int) (h : chain_Last l = some z0) : Meets Try.prog ⟨16, [.data (.slc false none 3 (List.map TVersion.en l))], []⟩ ⟨iv z0, []⟩ := by
  refine meets_of (O := chain_Last.O) hmix (fn := Try.f16) (code := bd16) (by kernel_rfl) ?_
  refine WK.weak (l := [(.t 0, [.data (.slc false none 3 (List.map TVersion.en l))])]) (wk_of (by kernel_rfl)) ?_
  unfold chain_Last at h
  refine WK.rs (g := []) (l' := [(.t 0, [.data (.slc false none 3 (List.map TVersion.en l))])]) (by kernel_rfl) .nil (by kernel_rfl) ?_
  refine WK.rs (g := []) (l' := [(.t 3, [.fn (.func 22) [.data (.slc false none 3 (List.map TVersion.en l))] []])]) (by kernel_rfl) .nil (by kernel_rfl) ?_
  obtain ⟨r3_1, h3_2, h⟩ := bd_inv h
  refine WK.rs (g := [.a ⟨iv r3_1, []⟩]) (l' := [(.t 2, [iv r3_1])]) (by kernel_rfl) (.cons (Asks.of (C := Meets Try.prog) (chain_versions_last.meets l _ h3_2)) .nil) (by kernel_rfl) ?_
  refine WK.weak (l := [(.t 2, [iv r3_1])]) (wk_of (by kernel_rfl)) ?_
  refine WK.ret (by kernel_rfl) ?_
  cases some_inj h
  exact WKe.fin (e' := .ret) (by kernel_rfl) (fin_of (g := []) (by first | exact .inl rfl | exact .inr rfl) .nil (by kernel_rfl))
/-- slices.Clone[[]diwan/api.Version,diwan/api.Version] -/
noncomputable def bd21 : Code := (Try.f21.body).getD .skip
def slices_Clone_api_Version.O : Nat → Nat := fun t => bif ([2, 5] : List Nat).any (Nat.beq t) then 1 else 0
noncomputable def slices_Clone_api_Version (s : List TVersion) : Option (List TVersion) :=
  gd (decide (([] : List TVersion).length + s.length ≤ 4294967296)) <|
  some s
theorem slices_Clone_api_Version.meets1 (s : List TVersion) (z0 : List TVersion) (h : slices_Clone_api_Version s = some z0) : Meets Try.prog ⟨21, [.data (.slc false (some false) 3 (List.map TVersion.en s))], []⟩ ⟨.data (.slc true none 3 (List.map TVersion.en z0)), []⟩ := by
  refine meets_of (O := slices_Clone_api_Version.O) hmix (fn := Try.f21) (code := bd21) (by kernel_rfl) ?_
  refine WK.weak (l := [(.t 0, [.data (.slc false (some false) 3 (List.map TVersion.en s))])]) (wk_of (by kernel_rfl)) ?_
  unfold slices_Clone_api_Version at h
  refine WK.rs (g := []) (l' := [(.t 0, [.data (.slc false (some false) 3 (List.map TVersion.en s))])]) (by kernel_rfl) .nil (by kernel_rfl) ?_
  refine WK.seq (by kernel_rfl) ?_
  refine WK.rs (g := []) (l' := [(.t 0, [.data (.slc false (some false) 3 (List.map TVersion.en s))]), (.t 4, [bv false])]) (by kernel_rfl) .nil (by kernel_rfl) ?_
  refine WK.ce (b := false) (by kernel_rfl) rfl ?_
  refine WK.skip (by kernel_rfl) ?_
  refine WKe.code (y := (cR (cR bd21))) (ks' := []) (by kernel_rfl) ?_
  obtain ⟨c5_1, h⟩ := gd_inv h
  refine WK.rs (g := []) (l' := [(.t 2, [.data (.slc true none 3 (List.map TVersion.en s))])]) (by kernel_rfl) (.cons (c_al (e := TVersion.en) (f := TVersion.en) c5_1) .nil) (by kernel_rfl) ?_
  refine WK.weak (l := [(.t 2, [.data (.slc true none 3 (List.map TVersion.en s))])]) (wk_of (by kernel_rfl)) ?_
  refine WK.ret (by kernel_rfl) ?_
  cases some_inj h
  exact WKe.fin (e' := .ret) (by kernel_rfl) (fin_of (g := []) (by first | exact .inl rfl | exact .inr rfl) .nil (by kernel_rfl))
noncomputable def slices_Clone_api_Version_nil : Option (List TVersion) :=
  some []
theorem slices_Clone_api_Version.meets0 (z0 : List TVersion) (h : slices_Clone_api_Version_nil = some z0) : Meets Try.prog ⟨21, [.data (.slc false (some true) 3 (List.map TVersion.en []))], []⟩ ⟨.data (.slc true none 3 (List.map TVersion.en z0)), []⟩ := by
  refine meets_of (O := slices_Clone_api_Version.O) hmix (fn := Try.f21) (code := bd21) (by kernel_rfl) ?_
  refine WK.weak (l := [(.t 0, [.data (.slc false (some true) 3 (List.map TVersion.en []))])]) (wk_of (by kernel_rfl)) ?_
  unfold slices_Clone_api_Version_nil at h
  refine WK.rs (g := []) (l' := [(.t 0, [.data (.slc false (some true) 3 (List.map TVersion.en []))])]) (by kernel_rfl) .nil (by kernel_rfl) ?_
  refine WK.seq (by kernel_rfl) ?_
  refine WK.rs (g := []) (l' := [(.t 0, [.data (.slc false (some true) 3 (List.map TVersion.en []))]), (.t 4, [bv true])]) (by kernel_rfl) .nil (by kernel_rfl) ?_
  refine WK.ct (b := true) (by kernel_rfl) rfl ?_
  refine WK.rs (g := []) (l' := [(.t 2, [.data (.slc true (some true) 3 (List.map TVersion.en []))])]) (by kernel_rfl) .nil (by kernel_rfl) ?_
  refine WK.weak (l := [(.t 2, [.data (.slc true none 3 (List.map TVersion.en []))])]) (wk_of (by kernel_rfl)) ?_
  refine WK.ret (by kernel_rfl) ?_
  cases some_inj h
  exact WKe.fin (e' := .ret) (by kernel_rfl) (fin_of (g := []) (by first | exact .inl rfl | exact .inr rfl) .nil (by kernel_rfl))
theorem slices_Clone_api_Version.nil_eq : slices_Clone_api_Version [] = slices_Clone_api_Version_nil := by kernel_rfl
theorem slices_Clone_api_Version.meets (s : List TVersion) (z0 : List TVersion) (h : slices_Clone_api_Version s = some z0) : Meets Try.prog ⟨21, [.data (.slc false none 3 (List.map TVersion.en s))], []⟩ ⟨.data (.slc true none 3 (List.map TVersion.en z0)), []⟩ := by
  refine asks_ok (C := Meets Try.prog) (fun _ _ h => h) (Asks.nil (args1 := []) (args2 := []) (sz := 3) (es := List.map TVersion.en s) (fun e => .of ?_) (.of (slices_Clone_api_Version.meets1 s z0 h)))
  obtain rfl : s = [] := List.map_eq_nil_iff.1 e
  exact slices_Clone_api_Version.meets0 z0 (slices_Clone_api_Version.nil_eq  ▸ h)
/-- diwan/chain.Add -/
noncomputable def bd18 : Code := (Try.f18.body).getD .skip
def chain_Add.O : Nat → Nat := fun t => bif ([3, 4] : List Nat).any (Nat.beq t) then 1 else 0
noncomputable def chain_Add (l : List TVersion) (v : TVersion) : Option (List TVersion) :=
  bd (chain_Last l) fun r2_1 =>
  br (decide (v.Pos ≤ r2_1))
    (bd (slices_Clone_api_Version l) fun r4_1 =>
    some r4_1)
    (bd (slices_Clone_api_Version l) fun r5_1 =>
    gd (decide (r5_1.length + ([v] : List TVersion).length ≤ 4294967296)) <|
    some (r5_1 ++ ([v] : List TVersion)))
theorem chain_Add.meets (l : List TVersion) (v : TVersion) (z0 : List TVersion) (h : chain_Add l v = some z0) : Meets Try.prog ⟨18, [.data (.slc false none 3 (List.map TVersion.en l)), .data (.agg [.val (.int .i64 v.Pos), .val (.string v.Val), .val (.bool v.Gone)])], []⟩ ⟨.data (.slc true none 3 (List.map TVersion.en z0)), []⟩ := by
  refine meets_of (O := chain_Add.O) hmix (fn := Try.f18) (code := bd18) (by kernel_rfl) ?_
  refine WK.weak (l := [(.t 0, [.data (.slc false none 3 (List.map TVersion.en l))]), (.t 1, [.data (.agg [.val (.int .i64 v.Pos), .val (.string v.Val), .val (.bool v.Gone)])])]) (wk_of (by kernel_rfl)) ?_
  unfold chain_Add at h
  refine WK.rs (g := []) (l' := [(.t 0, [.data (.slc false none 3 (List.map TVersion.en l))]), (.t 3, [.ptr 3 0]), (.o 3, [iv v.Pos, sv v.Val, bv v.Gone])]) (by kernel_rfl) .nil (by kernel_rfl) ?_
  refine WK.seq (by kernel_rfl) ?_
  obtain ⟨r2_1, h2_2, h⟩ := bd_inv h
  refine WK.rs (g := [.a ⟨iv r2_1, []⟩]) (l' := [(.t 0, [.data (.slc false none 3 (List.map TVersion.en l))]), (.t 3, [.ptr 3 0]), (.t 9, [bv (decide (v.Pos ≤ r2_1))]), (.o 3, [iv v.Pos, sv v.Val, bv v.Gone])]) (by kernel_rfl) (.cons (Asks.of (C := Meets Try.prog) (chain_Last.meets l _ h2_2)) (.cons (Eq.refl true) .nil)) (by kernel_rfl) ?_
  rcases br_inv h with ⟨b3_0, h⟩ | ⟨b3_0, h⟩
  · refine WK.ct (b := (decide (v.Pos ≤ r2_1))) (by kernel_rfl) b3_0 ?_
    obtain ⟨r4_1, h4_2, h⟩ := bd_inv h
    refine WK.rs (g := [.a ⟨.data (.slc true none 3 (List.map TVersion.en r4_1)), []⟩]) (l' := [(.t 4, [.data (.slc true none 3 (List.map TVersion.en r4_1))])]) (by kernel_rfl) (.cons (Asks.of (C := Meets Try.prog) (slices_Clone_api_Version.meets l _ h4_2)) .nil) (by kernel_rfl) ?_
    refine WK.weak (l := [(.t 4, [.data (.slc true none 3 (List.map TVersion.en r4_1))])]) (wk_of (by kernel_rfl)) ?_
    refine WK.ret (by kernel_rfl) ?_
    cases some_inj h
    exact WKe.fin (e' := .ret) (by kernel_rfl) (fin_of (g := []) (by first | exact .inl rfl | exact .inr rfl) .nil (by kernel_rfl))
  · refine WK.ce (b := (decide (v.Pos ≤ r2_1))) (by kernel_rfl) b3_0 ?_
    refine WK.skip (by kernel_rfl) ?_
    refine WKe.code (y := (cR (cR bd18))) (ks' := []) (by kernel_rfl) ?_
    obtain ⟨r5_1, h5_2, h⟩ := bd_inv h
    obtain ⟨c5_3, h⟩ := gd_inv h
    refine WK.rs (g := [.a ⟨.data (.slc true none 3 (List.map TVersion.en r5_1)), []⟩, .s (.t 16) [.data (.slc true none 3 (List.map TVersion.en (r5_1 ++ ([v] : List TVersion))))]]) (l' := [(.t 4, [.data (.slc true none 3 (List.map TVersion.en (r5_1 ++ ([v] : List TVersion))))])]) (by kernel_rfl) (.cons (Asks.of (C := Meets Try.prog) (slices_Clone_api_Version.meets l _ h5_2)) (.cons (c_al (e := TVersion.en) (f := TVersion.en) c5_3) (.cons (congrArg (fun d : DV => [AV.data d]) (c_app (e := TVersion.en) (s := 3) (l := r5_1) (m := ([v] : List TVersion)))) (.cons (Eq.refl true) .nil)))) (by kernel_rfl) ?_
    refine WK.weak (l := [(.t 4, [.data (.slc true none 3 (List.map TVersion.en (r5_1 ++ ([v] : List TVersion))))])]) (wk_of (by kernel_rfl)) ?_
    refine WK.ret (by kernel_rfl) ?_
    cases some_inj h
    exact WKe.fin (e' := .ret) (by kernel_rfl) (fin_of (g := []) (by first | exact .inl rfl | exact .inr rfl) .nil (by kernel_rfl))
/-- (diwan/chain.versions).upto -/
noncomputable def bd20 : Code := (Try.f20.body).getD .skip
def chain_versions_upto.O : Nat → Nat := fun t => bif ([4, 5, 7] : List Nat).any (Nat.beq t) then 1 else 0
noncomputable def chain_versions_upto.lp4 (fu : Nat) (l4_0 : Int) (l4_2 : List TVersion) (l4_3 : Int) : Nat → Int → Int → Option Int
  | 0, _, _ => none
  | n_ + 1, l4_1, l4_4 =>
    br (decide (l4_4 < l4_3))
      (ix l4_2 l4_4 fun x7_1 =>
      br (decide (x7_1.Pos ≤ l4_0))
        (chain_versions_upto.lp4 fu l4_0 l4_2 l4_3 n_ (w64 (l4_4 + 1)) (w64 (l4_4 + 1)))
        (chain_versions_upto.lp4 fu l4_0 l4_2 l4_3 n_ l4_1 (w64 (l4_4 + 1))))
      (some l4_1)
noncomputable def chain_versions_upto.lp4_post (l4_0 : Int) (l4_2 : List TVersion) (l4_3 : Int) (r_ : Int) : Wy → St → Prop := fun e τ => match r_ with
  | y0 => e = .exit 0 ∧ τ = ofL [(.t 5, [iv y0])]
theorem chain_versions_upto.lp4_ok (fu : Nat) (l4_0 : Int) (l4_2 : List TVersion) (l4_3 : Int) : ∀ (n_ : Nat) (l4_1 : Int) (l4_4 : Int) (r_ : Int), chain_versions_upto.lp4 fu l4_0 l4_2 l4_3 n_ l4_1 l4_4 = some r_ → WK Try.prog chain_versions_upto.O (Ck Try.prog) (cB (cR (cL (cR (cR bd20))))) [] (ofL [(.t 1, [iv l4_0]), (.t 5, [iv l4_1]), (.t 8, [.data (.slc false none 3 (List.map TVersion.en l4_2))]), (.t 9, [iv l4_3]), (.t 10, [iv l4_4])]) (chain_versions_upto.lp4_post l4_0 l4_2 l4_3 r_) := by
  intro n_
  induction n_ with
  | zero => intro l4_1 l4_4 r_ h; exact no_none h
  | succ n_ ih =>
    intro l4_1 l4_4 r_ h
    refine WK.loop (by kernel_rfl) ?_
    refine WK.rs (g := []) (l' := [(.t 1, [iv l4_0]), (.t 5, [iv l4_1]), (.t 8, [.data (.slc false none 3 (List.map TVersion.en l4_2))]), (.t 9, [iv l4_3]), (.t 10, [iv l4_4]), (.t 11, [bv (decide (l4_4 < l4_3))])]) (by kernel_rfl) .nil (by kernel_rfl) ?_
    refine WK.seq (by kernel_rfl) ?_
    rcases br_inv h with ⟨b6_0, h⟩ | ⟨b6_0, h⟩
    · refine WK.ct (b := (decide (l4_4 < l4_3))) (by kernel_rfl) b6_0 ?_
      refine WK.skip (by kernel_rfl) ?_
      refine WKe.code (y := (cR (cR (cB (cB (cR (cL (cR (cR bd20))))))))) (ks' := [.lp (cB (cR (cL (cR (cR bd20)))))]) (by kernel_rfl) ?_
      refine WK.seq (by kernel_rfl) ?_
      refine WK.block (n := 1) (by kernel_rfl) ?_
      obtain ⟨x7_1, a7_2, e7_3, h⟩ := ix_inv h
      refine WK.rs (g := [.c (TVersion.en x7_1)]) (l' := [(.t 1, [iv l4_0]), (.t 5, [iv l4_1]), (.t 6, [iv l4_4]), (.t 7, [.ptr 7 0]), (.t 8, [.data (.slc false none 3 (List.map TVersion.en l4_2))]), (.t 9, [iv l4_3]), (.t 10, [iv l4_4]), (.o 7, [iv x7_1.Pos, sv x7_1.Val, bv x7_1.Gone])]) (by kernel_rfl) (.cons (c_ix (e := TVersion.en) a7_2 e7_3) (.cons (c_el (e := TVersion.en) e7_3) .nil)) (by kernel_rfl) ?_
      refine WK.rs (g := []) (l' := [(.t 1, [iv l4_0]), (.t 5, [iv l4_1]), (.t 6, [iv l4_4]), (.t 8, [.data (.slc false none 3 (List.map TVersion.en l4_2))]), (.t 9, [iv l4_3]), (.t 10, [iv l4_4]), (.t 18, [bv (decide (x7_1.Pos ≤ l4_0))])]) (by kernel_rfl) .nil (by kernel_rfl) ?_
      rcases br_inv h with ⟨b9_0, h⟩ | ⟨b9_0, h⟩
      · refine WK.ct (b := (decide (x7_1.Pos ≤ l4_0))) (by kernel_rfl) b9_0 ?_
        refine WK.rc (g := []) (l' := [(.t 1, [iv l4_0]), (.t 5, [iv (w64 (l4_4 + 1))]), (.t 8, [.data (.slc false none 3 (List.map TVersion.en l4_2))]), (.t 9, [iv l4_3]), (.t 10, [iv l4_4])]) .nil (by kernel_rfl) (y := (cR (cR (cR (cB (cB (cR (cL (cR (cR bd20)))))))))) (ks' := [.lp (cB (cR (cL (cR (cR bd20)))))]) (by kernel_rfl) ?_
        refine WK.rc (g := []) (l' := [(.t 1, [iv l4_0]), (.t 5, [iv (w64 (l4_4 + 1))]), (.t 8, [.data (.slc false none 3 (List.map TVersion.en l4_2))]), (.t 9, [iv l4_3]), (.t 10, [iv (w64 (l4_4 + 1))])]) .nil (by kernel_rfl) (y := (cB (cR (cL (cR (cR bd20)))))) (ks' := []) (by kernel_rfl) ?_
        exact WK.weak (l := [(.t 1, [iv l4_0]), (.t 5, [iv (w64 (l4_4 + 1))]), (.t 8, [.data (.slc false none 3 (List.map TVersion.en l4_2))]), (.t 9, [iv l4_3]), (.t 10, [iv (w64 (l4_4 + 1))])]) (wk_of (by kernel_rfl)) (ih (w64 (l4_4 + 1)) (w64 (l4_4 + 1)) _ h)
      · refine WK.ce (b := (decide (x7_1.Pos ≤ l4_0))) (by kernel_rfl) b9_0 ?_
        refine WK.skip (by kernel_rfl) ?_
        refine WKe.code (y := (cR (cR (cR (cB (cB (cR (cL (cR (cR bd20)))))))))) (ks' := [.lp (cB (cR (cL (cR (cR bd20)))))]) (by kernel_rfl) ?_
        refine WK.rc (g := []) (l' := [(.t 1, [iv l4_0]), (.t 5, [iv l4_1]), (.t 8, [.data (.slc false none 3 (List.map TVersion.en l4_2))]), (.t 9, [iv l4_3]), (.t 10, [iv (w64 (l4_4 + 1))])]) .nil (by kernel_rfl) (y := (cB (cR (cL (cR (cR bd20)))))) (ks' := []) (by kernel_rfl) ?_
        exact WK.weak (l := [(.t 1, [iv l4_0]), (.t 5, [iv l4_1]), (.t 8, [.data (.slc false none 3 (List.map TVersion.en l4_2))]), (.t 9, [iv l4_3]), (.t 10, [iv (w64 (l4_4 + 1))])]) (wk_of (by kernel_rfl)) (ih l4_1 (w64 (l4_4 + 1)) _ h)
    · refine WK.ce (b := (decide (l4_4 < l4_3))) (by kernel_rfl) b6_0 ?_
      refine WK.weak (l := [(.t 5, [iv l4_1])]) (wk_of (by kernel_rfl)) ?_
      refine WK.exit (n := 0) (by kernel_rfl) ?_
      cases some_inj h
      exact WKe.fin (e' := .exit 0) (by kernel_rfl) ⟨rfl, rfl⟩
noncomputable def chain_versions_upto (fu : Nat) (l : List TVersion) (pos : Int) : Option Int :=
  bd (chain_versions_upto.lp4 fu pos l (l.length : Int) fu 0 0) fun y13_0 =>
  some y13_0
theorem chain_versions_upto.meets (fu : Nat) (l : List TVersion) (pos : Int) (z0 : Int) (h : chain_versions_upto fu l pos = some z0) : Meets Try.prog ⟨20, [.data (.slc false none 3 (List.map TVersion.en l)), iv pos], []⟩ ⟨iv z0, []⟩ := by
  refine meets_of (O := chain_versions_upto.O) hmix (fn := Try.f20) (code := bd20) (by kernel_rfl) ?_
  refine WK.weak (l := [(.t 0, [.data (.slc false none 3 (List.map TVersion.en l))]), (.t 1, [iv pos])]) (wk_of (by kernel_rfl)) ?_
  unfold chain_versions_upto at h
  refine WK.rs (g := []) (l' := [(.t 0, [.data (.slc false none 3 (List.map TVersion.en l))]), (.t 1, [iv pos])]) (by kernel_rfl) .nil (by kernel_rfl) ?_
  refine WK.rs (g := []) (l' := [(.t 0, [.data (.slc false none 3 (List.map TVersion.en l))]), (.t 1, [iv pos]), (.t 5, [iv 0])]) (by kernel_rfl) .nil (by kernel_rfl) ?_
  refine WK.seq (by kernel_rfl) ?_
  refine WK.rs (g := [.s (.t 9) [iv (l.length : Int)]]) (l' := [(.t 1, [iv pos]), (.t 5, [iv 0]), (.t 8, [.data (.slc false none 3 (List.map TVersion.en l))]), (.t 9, [iv (l.length : Int)]), (.t 10, [iv 0])]) (by kernel_rfl) (.cons (c_len (e := TVersion.en) (l := l)) .nil) (by kernel_rfl) ?_
  refine WK.block (n := 0) (by kernel_rfl) ?_
  obtain ⟨o13, ho13, h⟩ := bd_inv h
  refine WK.weak (l := [(.t 1, [iv pos]), (.t 5, [iv 0]), (.t 8, [.data (.slc false none 3 (List.map TVersion.en l))]), (.t 9, [iv (l.length : Int)]), (.t 10, [iv 0])]) (wk_of (by kernel_rfl)) ?_
  refine WK.use (chain_versions_upto.lp4_ok fu pos l (l.length : Int) _ 0 0 _ ho13) ?_
  intro e_ τ_ hp_
  obtain ⟨y13_0, rfl⟩ : ∃ y, y = o13 := ⟨_, rfl⟩
  obtain ⟨rfl, rfl⟩ := hp_
  refine WKe.code (y := (cR (cR (cR bd20)))) (ks' := []) (by kernel_rfl) ?_
  refine WK.rs (g := []) (l' := [(.t 4, [iv y13_0])]) (by kernel_rfl) .nil (by kernel_rfl) ?_
  refine WK.weak (l := [(.t 4, [iv y13_0])]) (wk_of (by kernel_rfl)) ?_
  refine WK.ret (by kernel_rfl) ?_
  cases some_inj h
  exact WKe.fin (e' := .ret) (by kernel_rfl) (fin_of (g := []) (by first | exact .inl rfl | exact .inr rfl) .nil (by kernel_rfl))
/-- diwan/chain.At -/
noncomputable def bd11 : Code := (Try.f11.body).getD .skip
def chain_At.O : Nat → Nat := fun t => bif ([4, 5, 6, 7, 15] : List Nat).any (Nat.beq t) then 1 else 0
noncomputable def chain_At (fu : Nat) (l : List TVersion) (pos : Int) : Option (Bool × TVersion) :=
  bd (chain_versions_upto fu l pos) fun r3_1 =>
  br (r3_1 == 0)
    (some (false, (TVersion.mk 0 ByteArray.empty false)))
    (ix l (w64 (r3_1 - 1)) fun x7_1 =>
    some (true, x7_1))
theorem chain_At.meets (fu : Nat) (l : List TVersion) (pos : Int) (z0 : Bool) (z1 : TVersion) (h : chain_At fu l pos = some (z0, z1)) : Meets Try.prog ⟨11, [.data (.slc false none 3 (List.map TVersion.en l)), iv pos], []⟩ ⟨.tup [.data (.agg [.val (.int .i64 z1.Pos), .val (.string z1.Val), .val (.bool z1.Gone)]), bv z0], []⟩ := by
  refine meets_of (O := chain_At.O) hmix (fn := Try.f11) (code := bd11) (by kernel_rfl) ?_
  refine WK.weak (l := [(.t 0, [.data (.slc false none 3 (List.map TVersion.en l))]), (.t 1, [iv pos])]) (wk_of (by kernel_rfl)) ?_
  unfold chain_At at h
  refine WK.rs (g := []) (l' := [(.t 0, [.data (.slc false none 3 (List.map TVersion.en l))]), (.t 1, [iv pos]), (.t 4, [.ptr 4 0]), (.o 4, [iv 0, sv ByteArray.empty, bv false])]) (by kernel_rfl) .nil (by kernel_rfl) ?_
  refine WK.rs (g := []) (l' := [(.t 0, [.data (.slc false none 3 (List.map TVersion.en l))]), (.t 1, [iv pos]), (.t 4, [.ptr 4 0]), (.t 6, [.fn (.func 20) [.data (.slc false none 3 (List.map TVersion.en l))] []]), (.o 4, [iv 0, sv ByteArray.empty, bv false])]) (by kernel_rfl) .nil (by kernel_rfl) ?_
  obtain ⟨r3_1, h3_2, h⟩ := bd_inv h
  refine WK.rs (g := [.a ⟨iv r3_1, []⟩]) (l' := [(.t 0, [.data (.slc false none 3 (List.map TVersion.en l))]), (.t 4, [.ptr 4 0]), (.t 7, [iv r3_1]), (.o 4, [iv 0, sv ByteArray.empty, bv false])]) (by kernel_rfl) (.cons (Asks.of (C := Meets Try.prog) (chain_versions_upto.meets fu l pos _ h3_2)) .nil) (by kernel_rfl) ?_
  refine WK.seq (by kernel_rfl) ?_
  refine WK.rs (g := []) (l' := [(.t 0, [.data (.slc false none 3 (List.map TVersion.en l))]), (.t 4, [.ptr 4 0]), (.t 7, [iv r3_1]), (.t 14, [bv (r3_1 == 0)]), (.o 4, [iv 0, sv ByteArray.empty, bv false])]) (by kernel_rfl) .nil (by kernel_rfl) ?_
  rcases br_inv h with ⟨b5_0, h⟩ | ⟨b5_0, h⟩
  · refine WK.ct (b := (r3_1 == 0)) (by kernel_rfl) b5_0 ?_
    refine WK.rs (g := []) (l' := [(.t 4, [.ptr 4 0]), (.t 5, [bv false]), (.o 4, [iv 0, sv ByteArray.empty, bv false])]) (by kernel_rfl) .nil (by kernel_rfl) ?_
    refine WK.weak (l := [(.t 4, [.ptr 4 0]), (.t 5, [bv false]), (.o 4, [iv ((TVersion.mk 0 ByteArray.empty false).Pos), sv ((TVersion.mk 0 ByteArray.empty false).Val), bv ((TVersion.mk 0 ByteArray.empty false).Gone)])]) (wk_of (by kernel_rfl)) ?_
    refine WK.ret (by kernel_rfl) ?_
    cases some_inj h
    exact WKe.fin (e' := .ret) (by kernel_rfl) (fin_of (g := []) (by first | exact .inl rfl | exact .inr rfl) .nil (by kernel_rfl))
  · refine WK.ce (b := (r3_1 == 0)) (by kernel_rfl) b5_0 ?_
    refine WK.skip (by kernel_rfl) ?_
    refine WKe.code (y := (cR (cR (cR (cR bd11))))) (ks' := []) (by kernel_rfl) ?_
    obtain ⟨x7_1, a7_2, e7_3, h⟩ := ix_inv h
    refine WK.rs (g := [.c (TVersion.en x7_1)]) (l' := [(.t 4, [.ptr 4 0]), (.t 5, [bv true]), (.o 4, [iv x7_1.Pos, sv x7_1.Val, bv x7_1.Gone])]) (by kernel_rfl) (.cons (c_ix (e := TVersion.en) a7_2 e7_3) (.cons (c_el (e := TVersion.en) e7_3) .nil)) (by kernel_rfl) ?_
    refine WK.weak (l := [(.t 4, [.ptr 4 0]), (.t 5, [bv true]), (.o 4, [iv x7_1.Pos, sv x7_1.Val, bv x7_1.Gone])]) (wk_of (by kernel_rfl)) ?_
    refine WK.ret (by kernel_rfl) ?_
    cases some_inj h
    exact WKe.fin (e' := .ret) (by kernel_rfl) (fin_of (g := []) (by first | exact .inl rfl | exact .inr rfl) .nil (by kernel_rfl))
/-- diwan/chain.Trim -/
noncomputable def bd14 : Code := (Try.f14.body).getD .skip
def chain_Trim.O : Nat → Nat := fun t => bif ([4, 5, 14] : List Nat).any (Nat.beq t) then 1 else 0
noncomputable def chain_Trim (fu : Nat) (l : List TVersion) (mark : Int) : Option (List TVersion) :=
  bd (chain_versions_upto fu l mark) fun r3_1 =>
  gd (decide ((0 : Int) ≤ (if (w64 (r3_1 - 1)) < 0 then 0 else (w64 (r3_1 - 1))) ∧ (if (w64 (r3_1 - 1)) < 0 then 0 else (w64 (r3_1 - 1))) ≤ (l.length : Int))) <|
  bd (slices_Clone_api_Version (List.drop (if (w64 (r3_1 - 1)) < 0 then 0 else (w64 (r3_1 - 1))).toNat l)) fun r3_4 =>
  some r3_4
theorem chain_Trim.meets (fu : Nat) (l : List TVersion) (mark : Int) (z0 : List TVersion) (h : chain_Trim fu l mark = some z0) : Meets Try.prog ⟨14, [.data (.slc false none 3 (List.map TVersion.en l)), iv mark], []⟩ ⟨.data (.slc true none 3 (List.map TVersion.en z0)), []⟩ := by
  refine meets_of (O := chain_Trim.O) hmix (fn := Try.f14) (code := bd14) (by kernel_rfl) ?_
  refine WK.weak (l := [(.t 0, [.data (.slc false none 3 (List.map TVersion.en l))]), (.t 1, [iv mark])]) (wk_of (by kernel_rfl)) ?_
  unfold chain_Trim at h
  refine WK.rs (g := []) (l' := [(.t 0, [.data (.slc false none 3 (List.map TVersion.en l))]), (.t 1, [iv mark])]) (by kernel_rfl) .nil (by kernel_rfl) ?_
  refine WK.rs (g := []) (l' := [(.t 0, [.data (.slc false none 3 (List.map TVersion.en l))]), (.t 1, [iv mark]), (.t 5, [.fn (.func 20) [.data (.slc false none 3 (List.map TVersion.en l))] []])]) (by kernel_rfl) .nil (by kernel_rfl) ?_
  obtain ⟨r3_1, h3_2, h⟩ := bd_inv h
  obtain ⟨c3_3, h⟩ := gd_inv h
  obtain ⟨r3_4, h3_5, h⟩ := bd_inv h
  refine WK.rs (g := [.a ⟨iv r3_1, []⟩, .s (.t 14) [.data (.slc false none 3 (List.map TVersion.en (List.drop (if (w64 (r3_1 - 1)) < 0 then 0 else (w64 (r3_1 - 1))).toNat l)))], .a ⟨.data (.slc true none 3 (List.map TVersion.en r3_4)), []⟩]) (l' := [(.t 4, [.data (.slc true none 3 (List.map TVersion.en r3_4))])]) (by kernel_rfl) (.cons (Asks.of (C := Meets Try.prog) (chain_versions_upto.meets fu l mark _ h3_2)) (.cons (c_cbL (e := TVersion.en) c3_3) (.cons (congrArg (fun d : DV => [AV.data d]) (c_cutL (own := false) (nl := none) (s := 3) (e := TVersion.en) (l := l) (lo := (if (w64 (r3_1 - 1)) < 0 then 0 else (w64 (r3_1 - 1))).toNat))) (.cons (Asks.of (C := Meets Try.prog) (slices_Clone_api_Version.meets (List.drop (if (w64 (r3_1 - 1)) < 0 then 0 else (w64 (r3_1 - 1))).toNat l) _ h3_5)) .nil)))) (by kernel_rfl) ?_
  refine WK.weak (l := [(.t 4, [.data (.slc true none 3 (List.map TVersion.en r3_4))])]) (wk_of (by kernel_rfl)) ?_
  refine WK.ret (by kernel_rfl) ?_
  cases some_inj h
  exact WKe.fin (e' := .ret) (by kernel_rfl) (fin_of (g := []) (by first | exact .inl rfl | exact .inr rfl) .nil (by kernel_rfl))
/-- diwan/chain.May -/
noncomputable def bd9 : Code := (Try.f9.body).getD .skip
def chain_May.O : Nat → Nat := fun t => bif ([2, 5] : List Nat).any (Nat.beq t) then 1 else 0
noncomputable def chain_May.lp4 (fu : Nat) (l4_1 : List TVersion) (l4_2 : Int) : Nat → Int → Int → Option (Unit ⊕ Unit)
  | 0, _, _ => none
  | n_ + 1, l4_0, l4_3 =>
    br (decide (l4_3 < l4_2))
      (ix l4_1 l4_3 fun x7_1 =>
      br (decide (x7_1.Pos ≤ l4_0))
        (some (.inr ()))
        (br (decide ((x7_1.Val.size : Int) > 16))
          (some (.inr ()))
          (br x7_1.Gone
            (br (!(x7_1.Val.toList == ByteArray.empty.toList))
              (some (.inr ()))
              (chain_May.lp4 fu l4_1 l4_2 n_ x7_1.Pos (w64 (l4_3 + 1))))
            (chain_May.lp4 fu l4_1 l4_2 n_ x7_1.Pos (w64 (l4_3 + 1))))))
      (some (.inl ()))
noncomputable def chain_May.lp4_post (l4_1 : List TVersion) (l4_2 : Int) (r_ : (Unit ⊕ Unit)) : Wy → St → Prop := fun e τ => match r_ with
  | .inl _ => e = .exit 0 ∧ τ = ofL []
  | .inr _ => e = .ret ∧ τ = ofL [(.t 2, [bv false])]
theorem chain_May.lp4_ok (fu : Nat) (l4_1 : List TVersion) (l4_2 : Int) : ∀ (n_ : Nat) (l4_0 : Int) (l4_3 : Int) (r_ : (Unit ⊕ Unit)), chain_May.lp4 fu l4_1 l4_2 n_ l4_0 l4_3 = some r_ → WK Try.prog chain_May.O (Ck Try.prog) (cB (cR (cL (cR (cR bd9))))) [] (ofL [(.t 3, [iv l4_0]), (.t 6, [.data (.slc false none 3 (List.map TVersion.en l4_1))]), (.t 7, [iv l4_2]), (.t 8, [iv l4_3])]) (chain_May.lp4_post l4_1 l4_2 r_) := by
  intro n_
  induction n_ with
  | zero => intro l4_0 l4_3 r_ h; exact no_none h
  | succ n_ ih =>
    intro l4_0 l4_3 r_ h
    refine WK.loop (by kernel_rfl) ?_
    refine WK.rs (g := []) (l' := [(.t 3, [iv l4_0]), (.t 6, [.data (.slc false none 3 (List.map TVersion.en l4_1))]), (.t 7, [iv l4_2]), (.t 8, [iv l4_3]), (.t 9, [bv (decide (l4_3 < l4_2))])]) (by kernel_rfl) .nil (by kernel_rfl) ?_
    refine WK.seq (by kernel_rfl) ?_
    rcases br_inv h with ⟨b6_0, h⟩ | ⟨b6_0, h⟩
    · refine WK.ct (b := (decide (l4_3 < l4_2))) (by kernel_rfl) b6_0 ?_
      refine WK.skip (by kernel_rfl) ?_
      refine WKe.code (y := (cR (cR (cB (cB (cR (cL (cR (cR bd9))))))))) (ks' := [.lp (cB (cR (cL (cR (cR bd9)))))]) (by kernel_rfl) ?_
      refine WK.seq (by kernel_rfl) ?_
      refine WK.block (n := 1) (by kernel_rfl) ?_
      obtain ⟨x7_1, a7_2, e7_3, h⟩ := ix_inv h
      refine WK.rs (g := [.c (TVersion.en x7_1)]) (l' := [(.t 3, [iv l4_0]), (.t 5, [.ptr 5 0]), (.t 6, [.data (.slc false none 3 (List.map TVersion.en l4_1))]), (.t 7, [iv l4_2]), (.t 8, [iv l4_3]), (.o 5, [iv x7_1.Pos, sv x7_1.Val, bv x7_1.Gone])]) (by kernel_rfl) (.cons (c_ix (e := TVersion.en) a7_2 e7_3) (.cons (c_el (e := TVersion.en) e7_3) .nil)) (by kernel_rfl) ?_
      refine WK.seq (by kernel_rfl) ?_
      rcases br_inv h with ⟨b8_1, h⟩ | ⟨b8_1, h⟩
      · refine WK.rs (g := [.b true, .b true, .b true, .b true, .b true, .b true, .b true, .b true, .b true, .b true]) (l' := [(.t 5, [.ptr 5 0]), (.t 6, [.data (.slc false none 3 (List.map TVersion.en l4_1))]), (.t 7, [iv l4_2]), (.t 8, [iv l4_3]), (.t 30, [bv true]), (.o 5, [iv x7_1.Pos, sv x7_1.Val, bv x7_1.Gone])]) (by kernel_rfl) (.cons b8_1 (.cons b8_1 (.cons b8_1 (.cons b8_1 (.cons b8_1 (.cons (Eq.refl true) (.cons (Eq.refl true) (.cons (Eq.refl true) (.cons (Eq.refl true) (.cons (Eq.refl true) .nil)))))))))) (by kernel_rfl) ?_
        refine WK.ct (b := true) (by kernel_rfl) rfl ?_
        refine WK.rs (g := []) (l' := [(.t 2, [bv false])]) (by kernel_rfl) .nil (by kernel_rfl) ?_
        refine WK.weak (l := [(.t 2, [bv false])]) (wk_of (by kernel_rfl)) ?_
        refine WK.ret (by kernel_rfl) ?_
        cases some_inj h
        exact WKe.fin (e' := .ret) (by kernel_rfl) ⟨rfl, rfl⟩
      · rcases br_inv h with ⟨b8_2, h⟩ | ⟨b8_2, h⟩
        · refine WK.rs (g := [.b false, .b false, .b false, .b false, .b false, .b true, .b true, .b true, .b true, .b true]) (l' := [(.t 5, [.ptr 5 0]), (.t 6, [.data (.slc false none 3 (List.map TVersion.en l4_1))]), (.t 7, [iv l4_2]), (.t 8, [iv l4_3]), (.t 30, [bv true]), (.o 5, [iv x7_1.Pos, sv x7_1.Val, bv x7_1.Gone])]) (by kernel_rfl) (.cons b8_1 (.cons b8_1 (.cons b8_1 (.cons b8_1 (.cons b8_1 (.cons b8_2 (.cons b8_2 (.cons b8_2 (.cons b8_2 (.cons b8_2 .nil)))))))))) (by kernel_rfl) ?_
          refine WK.ct (b := true) (by kernel_rfl) rfl ?_
          refine WK.rs (g := []) (l' := [(.t 2, [bv false])]) (by kernel_rfl) .nil (by kernel_rfl) ?_
          refine WK.weak (l := [(.t 2, [bv false])]) (wk_of (by kernel_rfl)) ?_
          refine WK.ret (by kernel_rfl) ?_
          cases some_inj h
          exact WKe.fin (e' := .ret) (by kernel_rfl) ⟨rfl, rfl⟩
        · rcases br_inv h with ⟨b8_3, h⟩ | ⟨b8_3, h⟩
          · refine WK.rs (g := [.b false, .b false, .b false, .b false, .b false, .b false, .b false, .b false, .b true, .b true, .b true, .b false, .b true, .b false]) (l' := [(.t 5, [.ptr 5 0]), (.t 6, [.data (.slc false none 3 (List.map TVersion.en l4_1))]), (.t 7, [iv l4_2]), (.t 8, [iv l4_3]), (.t 30, [bv (!(x7_1.Val.toList == ByteArray.empty.toList))]), (.o 5, [iv x7_1.Pos, sv x7_1.Val, bv x7_1.Gone])]) (by kernel_rfl) (.cons b8_1 (.cons b8_1 (.cons b8_1 (.cons b8_1 (.cons b8_1 (.cons b8_2 (.cons b8_2 (.cons b8_2 (.cons b8_3 (.cons b8_3 (.cons b8_3 (.cons b8_2 (.cons b8_3 (.cons b8_2 .nil)))))))))))))) (by kernel_rfl) ?_
            rcases br_inv h with ⟨b11_0, h⟩ | ⟨b11_0, h⟩
            · refine WK.ct (b := (!(x7_1.Val.toList == ByteArray.empty.toList))) (by kernel_rfl) b11_0 ?_
              refine WK.rs (g := []) (l' := [(.t 2, [bv false])]) (by kernel_rfl) .nil (by kernel_rfl) ?_
              refine WK.weak (l := [(.t 2, [bv false])]) (wk_of (by kernel_rfl)) ?_
              refine WK.ret (by kernel_rfl) ?_
              cases some_inj h
              exact WKe.fin (e' := .ret) (by kernel_rfl) ⟨rfl, rfl⟩
            · refine WK.ce (b := (!(x7_1.Val.toList == ByteArray.empty.toList))) (by kernel_rfl) b11_0 ?_
              refine WK.skip (by kernel_rfl) ?_
              refine WKe.code (y := (cR (cR (cB (cL (cR (cR (cB (cB (cR (cL (cR (cR bd9))))))))))))) (ks' := [.blk 1, .seq (cR (cR (cR (cB (cB (cR (cL (cR (cR bd9))))))))), .lp (cB (cR (cL (cR (cR bd9)))))]) (by kernel_rfl) ?_
              refine WK.rc (g := []) (l' := [(.t 3, [iv x7_1.Pos]), (.t 6, [.data (.slc false none 3 (List.map TVersion.en l4_1))]), (.t 7, [iv l4_2]), (.t 8, [iv l4_3])]) .nil (by kernel_rfl) (y := (cR (cR (cR (cB (cB (cR (cL (cR (cR bd9)))))))))) (ks' := [.lp (cB (cR (cL (cR (cR bd9)))))]) (by kernel_rfl) ?_
              refine WK.rc (g := []) (l' := [(.t 3, [iv x7_1.Pos]), (.t 6, [.data (.slc false none 3 (List.map TVersion.en l4_1))]), (.t 7, [iv l4_2]), (.t 8, [iv (w64 (l4_3 + 1))])]) .nil (by kernel_rfl) (y := (cB (cR (cL (cR (cR bd9)))))) (ks' := []) (by kernel_rfl) ?_
              exact WK.weak (l := [(.t 3, [iv x7_1.Pos]), (.t 6, [.data (.slc false none 3 (List.map TVersion.en l4_1))]), (.t 7, [iv l4_2]), (.t 8, [iv (w64 (l4_3 + 1))])]) (wk_of (by kernel_rfl)) (ih x7_1.Pos (w64 (l4_3 + 1)) _ h)
          · refine WK.rs (g := [.b false, .b false, .b false, .b false, .b false, .b false, .b false, .b false, .b false, .b false, .b false, .b false, .b false, .b false]) (l' := [(.t 5, [.ptr 5 0]), (.t 6, [.data (.slc false none 3 (List.map TVersion.en l4_1))]), (.t 7, [iv l4_2]), (.t 8, [iv l4_3]), (.t 30, [bv false]), (.o 5, [iv x7_1.Pos, sv x7_1.Val, bv x7_1.Gone])]) (by kernel_rfl) (.cons b8_1 (.cons b8_1 (.cons b8_1 (.cons b8_1 (.cons b8_1 (.cons b8_2 (.cons b8_2 (.cons b8_2 (.cons b8_3 (.cons b8_3 (.cons b8_3 (.cons b8_2 (.cons b8_3 (.cons b8_2 .nil)))))))))))))) (by kernel_rfl) ?_
            refine WK.ce (b := false) (by kernel_rfl) rfl ?_
            refine WK.skip (by kernel_rfl) ?_
            refine WKe.code (y := (cR (cR (cB (cL (cR (cR (cB (cB (cR (cL (cR (cR bd9))))))))))))) (ks' := [.blk 1, .seq (cR (cR (cR (cB (cB (cR (cL (cR (cR bd9))))))))), .lp (cB (cR (cL (cR (cR bd9)))))]) (by kernel_rfl) ?_
            refine WK.rc (g := []) (l' := [(.t 3, [iv x7_1.Pos]), (.t 6, [.data (.slc false none 3 (List.map TVersion.en l4_1))]), (.t 7, [iv l4_2]), (.t 8, [iv l4_3])]) .nil (by kernel_rfl) (y := (cR (cR (cR (cB (cB (cR (cL (cR (cR bd9)))))))))) (ks' := [.lp (cB (cR (cL (cR (cR bd9)))))]) (by kernel_rfl) ?_
            refine WK.rc (g := []) (l' := [(.t 3, [iv x7_1.Pos]), (.t 6, [.data (.slc false none 3 (List.map TVersion.en l4_1))]), (.t 7, [iv l4_2]), (.t 8, [iv (w64 (l4_3 + 1))])]) .nil (by kernel_rfl) (y := (cB (cR (cL (cR (cR bd9)))))) (ks' := []) (by kernel_rfl) ?_
            exact WK.weak (l := [(.t 3, [iv x7_1.Pos]), (.t 6, [.data (.slc false none 3 (List.map TVersion.en l4_1))]), (.t 7, [iv l4_2]), (.t 8, [iv (w64 (l4_3 + 1))])]) (wk_of (by kernel_rfl)) (ih x7_1.Pos (w64 (l4_3 + 1)) _ h)
    · refine WK.ce (b := (decide (l4_3 < l4_2))) (by kernel_rfl) b6_0 ?_
      refine WK.weak (l := []) (wk_of (by kernel_rfl)) ?_
      refine WK.exit (n := 0) (by kernel_rfl) ?_
      cases some_inj h
      exact WKe.fin (e' := .exit 0) (by kernel_rfl) ⟨rfl, rfl⟩
noncomputable def chain_May (fu : Nat) (l : List TVersion) : Option Bool :=
  bd (chain_May.lp4 fu l (l.length : Int) fu 0 0) fun o_ => (match o_ with
  | .inl _ =>
    some true
  | .inr _ =>
    some false)
theorem chain_May.meets (fu : Nat) (l : List TVersion) (z0 : Bool) (h : chain_May fu l = some z0) : Meets Try.prog ⟨9, [.data (.slc false none 3 (List.map TVersion.en l))], []⟩ ⟨bv z0, []⟩ := by
  refine meets_of (O := chain_May.O) hmix (fn := Try.f9) (code := bd9) (by kernel_rfl) ?_
  refine WK.weak (l := [(.t 0, [.data (.slc false none 3 (List.map TVersion.en l))])]) (wk_of (by kernel_rfl)) ?_
  unfold chain_May at h
  refine WK.rs (g := []) (l' := [(.t 0, [.data (.slc false none 3 (List.map TVersion.en l))])]) (by kernel_rfl) .nil (by kernel_rfl) ?_
  refine WK.rs (g := []) (l' := [(.t 0, [.data (.slc false none 3 (List.map TVersion.en l))]), (.t 3, [iv 0])]) (by kernel_rfl) .nil (by kernel_rfl) ?_
  refine WK.seq (by kernel_rfl) ?_
  refine WK.rs (g := [.s (.t 7) [iv (l.length : Int)]]) (l' := [(.t 3, [iv 0]), (.t 6, [.data (.slc false none 3 (List.map TVersion.en l))]), (.t 7, [iv (l.length : Int)]), (.t 8, [iv 0])]) (by kernel_rfl) (.cons (c_len (e := TVersion.en) (l := l)) .nil) (by kernel_rfl) ?_
  refine WK.block (n := 0) (by kernel_rfl) ?_
  obtain ⟨o17, ho17, h⟩ := bd_inv h
  refine WK.weak (l := [(.t 3, [iv 0]), (.t 6, [.data (.slc false none 3 (List.map TVersion.en l))]), (.t 7, [iv (l.length : Int)]), (.t 8, [iv 0])]) (wk_of (by kernel_rfl)) ?_
  refine WK.use (chain_May.lp4_ok fu l (l.length : Int) _ 0 0 _ ho17) ?_
  intro e_ τ_ hp_
  rcases o17 with o17 | o17
  · obtain ⟨⟩ := o17
    obtain ⟨rfl, rfl⟩ := hp_
    refine WKe.code (y := (cR (cR (cR bd9)))) (ks' := []) (by kernel_rfl) ?_
    refine WK.rs (g := []) (l' := [(.t 2, [bv true])]) (by kernel_rfl) .nil (by kernel_rfl) ?_
    refine WK.weak (l := [(.t 2, [bv true])]) (wk_of (by kernel_rfl)) ?_
    refine WK.ret (by kernel_rfl) ?_
    cases some_inj h
    exact WKe.fin (e' := .ret) (by kernel_rfl) (fin_of (g := []) (by first | exact .inl rfl | exact .inr rfl) .nil (by kernel_rfl))
  · obtain ⟨⟩ := o17
    obtain ⟨rfl, rfl⟩ := hp_
    cases some_inj h
    exact WKe.fin (e' := .ret) (by kernel_rfl) (fin_of (g := []) (by first | exact .inl rfl | exact .inr rfl) .nil (by kernel_rfl))
/-- diwan/diwanlaw15.begun -/
noncomputable def bd7 : Code := (Try.f7.body).getD .skip
def diwanlaw15_begun.O : Nat → Nat := fun t => bif ([0, 1, 2, 3, 4, 5, 6, 7, 9, 14, 19, 61] : List Nat).any (Nat.beq t) then 1 else 0
noncomputable def diwanlaw15_begun (fu : Nat) : Option Bool :=
  bd (chain_Add [] (TVersion.mk 2 (⟨#[97]⟩ : ByteArray) false)) fun r2_1 =>
  bd (chain_Add r2_1 (TVersion.mk 5 ByteArray.empty true)) fun r2_3 =>
  bd (chain_At fu r2_3 4) fun (r3_1, r3_2) =>
  bd (chain_At fu r2_3 1) fun (r4_1, r4_2) =>
  bd (chain_Trim fu r2_3 5) fun r5_1 =>
  br ((r2_3.length : Int) == 2)
    (br r3_1
      (br (r3_2.Val.toList == (⟨#[97]⟩ : ByteArray).toList)
        (br (!r4_1)
          (bd (chain_Last r2_3) fun r6_5 =>
          br (r6_5 == 5)
            (br ((r5_1.length : Int) == 1)
              (ix r5_1 0 fun x6_9 =>
              br (x6_9.Pos == 5)
                (bd (chain_May fu r2_3) fun r6_13 =>
                br r6_13
                  (bd (chain_Add r2_3 (TVersion.mk 5 ByteArray.empty false)) fun r6_16 =>
                  some ((r6_16.length : Int) == 2))
                  (some false))
                (some false))
              (some false))
            (some false))
          (some false))
        (some false))
      (some false))
    (some false)
theorem diwanlaw15_begun.meets (fu : Nat) (z0 : Bool) (h : diwanlaw15_begun fu = some z0) : Meets Try.prog ⟨7, [], []⟩ ⟨bv z0, []⟩ := by
  refine meets_of (O := diwanlaw15_begun.O) hmix (fn := Try.f7) (code := bd7) (by kernel_rfl) ?_
  refine WK.weak (l := []) (wk_of (by kernel_rfl)) ?_
  unfold diwanlaw15_begun at h
  refine WK.rs (g := []) (l' := []) (by kernel_rfl) .nil (by kernel_rfl) ?_
  obtain ⟨r2_1, h2_2, h⟩ := bd_inv h
  obtain ⟨r2_3, h2_4, h⟩ := bd_inv h
  refine WK.rs (g := [.a ⟨.data (.slc true none 3 (List.map TVersion.en r2_1)), []⟩, .a ⟨.data (.slc true none 3 (List.map TVersion.en r2_3)), []⟩]) (l' := [(.t 1, [.data (.slc true none 3 (List.map TVersion.en r2_3))])]) (by kernel_rfl) (.cons (Asks.fg (args1 := []) (args2 := [.data (.agg [.val (.int .i64 2), .val (.string (⟨#[97]⟩ : ByteArray)), .val (.bool false)])]) (nl := some true) (sz := 3) (es := List.map TVersion.en []) (Asks.of (C := Meets Try.prog) (chain_Add.meets [] (TVersion.mk 2 (⟨#[97]⟩ : ByteArray) false) _ h2_2))) (.cons (Asks.of (C := Meets Try.prog) (chain_Add.meets r2_1 (TVersion.mk 5 ByteArray.empty true) _ h2_4)) .nil)) (by kernel_rfl) ?_
  obtain ⟨⟨r3_1, r3_2⟩, h3_3, h⟩ := bd_inv h
  refine WK.rs (g := [.a ⟨.tup [.data (.agg [.val (.int .i64 r3_2.Pos), .val (.string r3_2.Val), .val (.bool r3_2.Gone)]), bv r3_1], []⟩]) (l' := [(.t 1, [.data (.slc false none 3 (List.map TVersion.en r2_3))]), (.t 2, [.ptr 2 0]), (.t 3, [bv r3_1]), (.o 2, [iv r3_2.Pos, sv r3_2.Val, bv r3_2.Gone])]) (by kernel_rfl) (.cons (Asks.of (C := Meets Try.prog) (chain_At.meets fu r2_3 4 _ _ h3_3)) .nil) (by kernel_rfl) ?_
  obtain ⟨⟨r4_1, r4_2⟩, h4_3, h⟩ := bd_inv h
  refine WK.rs (g := [.a ⟨.tup [.data (.agg [.val (.int .i64 r4_2.Pos), .val (.string r4_2.Val), .val (.bool r4_2.Gone)]), bv r4_1], []⟩]) (l' := [(.t 1, [.data (.slc false none 3 (List.map TVersion.en r2_3))]), (.t 2, [.ptr 2 0]), (.t 3, [bv r3_1]), (.t 5, [bv r4_1]), (.o 2, [iv r3_2.Pos, sv r3_2.Val, bv r3_2.Gone])]) (by kernel_rfl) (.cons (Asks.of (C := Meets Try.prog) (chain_At.meets fu r2_3 1 _ _ h4_3)) .nil) (by kernel_rfl) ?_
  obtain ⟨r5_1, h5_2, h⟩ := bd_inv h
  refine WK.rs (g := [.a ⟨.data (.slc true none 3 (List.map TVersion.en r5_1)), []⟩]) (l' := [(.t 1, [.data (.slc false none 3 (List.map TVersion.en r2_3))]), (.t 2, [.ptr 2 0]), (.t 3, [bv r3_1]), (.t 5, [bv r4_1]), (.t 6, [.data (.slc true none 3 (List.map TVersion.en r5_1))]), (.o 2, [iv r3_2.Pos, sv r3_2.Val, bv r3_2.Gone])]) (by kernel_rfl) (.cons (Asks.of (C := Meets Try.prog) (chain_Trim.meets fu r2_3 5 _ h5_2)) .nil) (by kernel_rfl) ?_
  rcases br_inv h with ⟨b6_1, h⟩ | ⟨b6_1, h⟩
  · rcases br_inv h with ⟨b6_2, h⟩ | ⟨b6_2, h⟩
    · rcases br_inv h with ⟨b6_3, h⟩ | ⟨b6_3, h⟩
      · rcases br_inv h with ⟨b6_4, h⟩ | ⟨b6_4, h⟩
        · obtain ⟨r6_5, h6_6, h⟩ := bd_inv h
          rcases br_inv h with ⟨b6_7, h⟩ | ⟨b6_7, h⟩
          · rcases br_inv h with ⟨b6_8, h⟩ | ⟨b6_8, h⟩
            · obtain ⟨x6_9, a6_10, e6_11, h⟩ := ix_inv h
              rcases br_inv h with ⟨b6_12, h⟩ | ⟨b6_12, h⟩
              · obtain ⟨r6_13, h6_14, h⟩ := bd_inv h
                rcases br_inv h with ⟨b6_15, h⟩ | ⟨b6_15, h⟩
                · obtain ⟨r6_16, h6_17, h⟩ := bd_inv h
                  refine WK.rs (g := [.s (.t 24) [iv (r2_3.length : Int)], .b true, .b true, .b true, .b true, .b true, .b true, .b true, .b true, .b true, .b true, .b true, .a ⟨iv r6_5, []⟩, .b true, .b true, .b true, .b true, .s (.t 45) [iv (r5_1.length : Int)], .b true, .b true, .b true, .b true, .b true, .b true, .c (TVersion.en x6_9), .b true, .b true, .b true, .b true, .a ⟨bv r6_13, []⟩, .b true, .b true, .b true, .b true, .a ⟨.data (.slc true none 3 (List.map TVersion.en r6_16)), []⟩, .b true, .s (.t 63) [iv (r6_16.length : Int)], .b true, .b true]) (l' := [(.t 0, [bv ((r6_16.length : Int) == 2)])]) (by kernel_rfl) (.cons (c_len (e := TVersion.en) (l := r2_3)) (.cons b6_1 (.cons b6_1 (.cons b6_2 (.cons b6_2 (.cons b6_2 (.cons b6_2 (.cons b6_3 (.cons b6_3 (.cons b6_3 (.cons b6_4 (.cons b6_4 (.cons (Asks.of (C := Meets Try.prog) (chain_Last.meets r2_3 _ h6_6)) (.cons b6_4 (.cons b6_4 (.cons b6_7 (.cons b6_7 (.cons (c_len (e := TVersion.en) (l := r5_1)) (.cons b6_7 (.cons b6_7 (.cons b6_8 (.cons b6_8 (.cons (c_ix (e := TVersion.en) a6_10 e6_11) (.cons b6_8 (.cons b6_8 (.cons (c_el (e := TVersion.en) e6_11) (.cons b6_8 (.cons b6_8 (.cons b6_12 (.cons b6_12 (.cons (Asks.of (C := Meets Try.prog) (chain_May.meets fu r2_3 _ h6_14)) (.cons b6_12 (.cons b6_15 (.cons b6_15 (.cons b6_15 (.cons (Asks.of (C := Meets Try.prog) (chain_Add.meets r2_3 (TVersion.mk 5 ByteArray.empty false) _ h6_17)) (.cons b6_15 (.cons (c_len (e := TVersion.en) (l := r6_16)) (.cons b6_15 (.cons b6_15 .nil)))))))))))))))))))))))))))))))))))))))) (by kernel_rfl) ?_
                  refine WK.weak (l := [(.t 0, [bv ((r6_16.length : Int) == 2)])]) (wk_of (by kernel_rfl)) ?_
                  refine WK.ret (by kernel_rfl) ?_
                  cases some_inj h
                  exact WKe.fin (e' := .ret) (by kernel_rfl) (fin_of (g := []) (by first | exact .inl rfl | exact .inr rfl) .nil (by kernel_rfl))
                · refine WK.rs (g := [.s (.t 24) [iv (r2_3.length : Int)], .b true, .b true, .b true, .b true, .b true, .b true, .b true, .b true, .b true, .b true, .b true, .a ⟨iv r6_5, []⟩, .b true, .b true, .b true, .b true, .s (.t 45) [iv (r5_1.length : Int)], .b true, .b true, .b true, .b true, .b true, .b true, .c (TVersion.en x6_9), .b true, .b true, .b true, .b true, .a ⟨bv r6_13, []⟩, .b true, .b false, .b false, .b false, .b false, .b false, .b false]) (l' := [(.t 0, [bv false])]) (by kernel_rfl) (.cons (c_len (e := TVersion.en) (l := r2_3)) (.cons b6_1 (.cons b6_1 (.cons b6_2 (.cons b6_2 (.cons b6_2 (.cons b6_2 (.cons b6_3 (.cons b6_3 (.cons b6_3 (.cons b6_4 (.cons b6_4 (.cons (Asks.of (C := Meets Try.prog) (chain_Last.meets r2_3 _ h6_6)) (.cons b6_4 (.cons b6_4 (.cons b6_7 (.cons b6_7 (.cons (c_len (e := TVersion.en) (l := r5_1)) (.cons b6_7 (.cons b6_7 (.cons b6_8 (.cons b6_8 (.cons (c_ix (e := TVersion.en) a6_10 e6_11) (.cons b6_8 (.cons b6_8 (.cons (c_el (e := TVersion.en) e6_11) (.cons b6_8 (.cons b6_8 (.cons b6_12 (.cons b6_12 (.cons (Asks.of (C := Meets Try.prog) (chain_May.meets fu r2_3 _ h6_14)) (.cons b6_12 (.cons b6_15 (.cons b6_15 (.cons b6_15 (.cons b6_15 (.cons b6_15 (.cons b6_15 .nil)))))))))))))))))))))))))))))))))))))) (by kernel_rfl) ?_
                  refine WK.weak (l := [(.t 0, [bv false])]) (wk_of (by kernel_rfl)) ?_
                  refine WK.ret (by kernel_rfl) ?_
                  cases some_inj h
                  exact WKe.fin (e' := .ret) (by kernel_rfl) (fin_of (g := []) (by first | exact .inl rfl | exact .inr rfl) .nil (by kernel_rfl))
              · refine WK.rs (g := [.s (.t 24) [iv (r2_3.length : Int)], .b true, .b true, .b true, .b true, .b true, .b true, .b true, .b true, .b true, .b true, .b true, .a ⟨iv r6_5, []⟩, .b true, .b true, .b true, .b true, .s (.t 45) [iv (r5_1.length : Int)], .b true, .b true, .b true, .b true, .b true, .b true, .c (TVersion.en x6_9), .b true, .b true, .b false, .b false, .b false, .b false, .b false, .b false, .b false, .b false, .b false]) (l' := [(.t 0, [bv false])]) (by kernel_rfl) (.cons (c_len (e := TVersion.en) (l := r2_3)) (.cons b6_1 (.cons b6_1 (.cons b6_2 (.cons b6_2 (.cons b6_2 (.cons b6_2 (.cons b6_3 (.cons b6_3 (.cons b6_3 (.cons b6_4 (.cons b6_4 (.cons (Asks.of (C := Meets Try.prog) (chain_Last.meets r2_3 _ h6_6)) (.cons b6_4 (.cons b6_4 (.cons b6_7 (.cons b6_7 (.cons (c_len (e := TVersion.en) (l := r5_1)) (.cons b6_7 (.cons b6_7 (.cons b6_8 (.cons b6_8 (.cons (c_ix (e := TVersion.en) a6_10 e6_11) (.cons b6_8 (.cons b6_8 (.cons (c_el (e := TVersion.en) e6_11) (.cons b6_8 (.cons b6_8 (.cons b6_12 (.cons b6_12 (.cons b6_12 (.cons (Eq.refl false) (.cons (Eq.refl false) (.cons (Eq.refl false) (.cons (Eq.refl false) (.cons (Eq.refl false) (.cons (Eq.refl false) .nil))))))))))))))))))))))))))))))))))))) (by kernel_rfl) ?_
                refine WK.weak (l := [(.t 0, [bv false])]) (wk_of (by kernel_rfl)) ?_
                refine WK.ret (by kernel_rfl) ?_
                cases some_inj h
                exact WKe.fin (e' := .ret) (by kernel_rfl) (fin_of (g := []) (by first | exact .inl rfl | exact .inr rfl) .nil (by kernel_rfl))
            · refine WK.rs (g := [.s (.t 24) [iv (r2_3.length : Int)], .b true, .b true, .b true, .b true, .b true, .b true, .b true, .b true, .b true, .b true, .b true, .a ⟨iv r6_5, []⟩, .b true, .b true, .b true, .b true, .s (.t 45) [iv (r5_1.length : Int)], .b true, .b true, .b false, .b false, .b false, .b false, .b false, .b false, .b false, .b false, .b false, .b false, .b false, .b false, .b false, .b false, .b false]) (l' := [(.t 0, [bv false])]) (by kernel_rfl) (.cons (c_len (e := TVersion.en) (l := r2_3)) (.cons b6_1 (.cons b6_1 (.cons b6_2 (.cons b6_2 (.cons b6_2 (.cons b6_2 (.cons b6_3 (.cons b6_3 (.cons b6_3 (.cons b6_4 (.cons b6_4 (.cons (Asks.of (C := Meets Try.prog) (chain_Last.meets r2_3 _ h6_6)) (.cons b6_4 (.cons b6_4 (.cons b6_7 (.cons b6_7 (.cons (c_len (e := TVersion.en) (l := r5_1)) (.cons b6_7 (.cons b6_7 (.cons b6_8 (.cons b6_8 (.cons b6_8 (.cons b6_8 (.cons b6_8 (.cons b6_8 (.cons (Eq.refl false) (.cons (Eq.refl false) (.cons (Eq.refl false) (.cons (Eq.refl false) (.cons (Eq.refl false) (.cons (Eq.refl false) (.cons (Eq.refl false) (.cons (Eq.refl false) (.cons (Eq.refl false) .nil))))))))))))))))))))))))))))))))))) (by kernel_rfl) ?_
              refine WK.weak (l := [(.t 0, [bv false])]) (wk_of (by kernel_rfl)) ?_
              refine WK.ret (by kernel_rfl) ?_
              cases some_inj h
              exact WKe.fin (e' := .ret) (by kernel_rfl) (fin_of (g := []) (by first | exact .inl rfl | exact .inr rfl) .nil (by kernel_rfl))
          · refine WK.rs (g := [.s (.t 24) [iv (r2_3.length : Int)], .b true, .b true, .b true, .b true, .b true, .b true, .b true, .b true, .b true, .b true, .b true, .a ⟨iv r6_5, []⟩, .b true, .b true, .b false, .b false, .b false, .b false, .b false, .b false, .b false, .b false, .b false, .b false, .b false, .b false, .b false, .b false, .b false, .b false, .b false, .b false, .b false]) (l' := [(.t 0, [bv false])]) (by kernel_rfl) (.cons (c_len (e := TVersion.en) (l := r2_3)) (.cons b6_1 (.cons b6_1 (.cons b6_2 (.cons b6_2 (.cons b6_2 (.cons b6_2 (.cons b6_3 (.cons b6_3 (.cons b6_3 (.cons b6_4 (.cons b6_4 (.cons (Asks.of (C := Meets Try.prog) (chain_Last.meets r2_3 _ h6_6)) (.cons b6_4 (.cons b6_4 (.cons b6_7 (.cons b6_7 (.cons b6_7 (.cons b6_7 (.cons (Eq.refl false) (.cons (Eq.refl false) (.cons (Eq.refl false) (.cons (Eq.refl false) (.cons (Eq.refl false) (.cons (Eq.refl false) (.cons (Eq.refl false) (.cons (Eq.refl false) (.cons (Eq.refl false) (.cons (Eq.refl false) (.cons (Eq.refl false) (.cons (Eq.refl false) (.cons (Eq.refl false) (.cons (Eq.refl false) (.cons (Eq.refl false) .nil)))))))))))))))))))))))))))))))))) (by kernel_rfl) ?_
            refine WK.weak (l := [(.t 0, [bv false])]) (wk_of (by kernel_rfl)) ?_
            refine WK.ret (by kernel_rfl) ?_
            cases some_inj h
            exact WKe.fin (e' := .ret) (by kernel_rfl) (fin_of (g := []) (by first | exact .inl rfl | exact .inr rfl) .nil (by kernel_rfl))
        · refine WK.rs (g := [.s (.t 24) [iv (r2_3.length : Int)], .b true, .b true, .b true, .b true, .b true, .b true, .b true, .b true, .b true, .b false, .b false, .b false, .b false, .b false, .b false, .b false, .b false, .b false, .b false, .b false, .b false, .b false, .b false, .b false, .b false, .b false, .b false, .b false, .b false, .b false, .b false, .b false]) (l' := [(.t 0, [bv false])]) (by kernel_rfl) (.cons (c_len (e := TVersion.en) (l := r2_3)) (.cons b6_1 (.cons b6_1 (.cons b6_2 (.cons b6_2 (.cons b6_2 (.cons b6_2 (.cons b6_3 (.cons b6_3 (.cons b6_3 (.cons b6_4 (.cons b6_4 (.cons b6_4 (.cons b6_4 (.cons (Eq.refl false) (.cons (Eq.refl false) (.cons (Eq.refl false) (.cons (Eq.refl false) (.cons (Eq.refl false) (.cons (Eq.refl false) (.cons (Eq.refl false) (.cons (Eq.refl false) (.cons (Eq.refl false) (.cons (Eq.refl false) (.cons (Eq.refl false) (.cons (Eq.refl false) (.cons (Eq.refl false) (.cons (Eq.refl false) (.cons (Eq.refl false) (.cons (Eq.refl false) (.cons (Eq.refl false) (.cons (Eq.refl false) (.cons (Eq.refl false) .nil))))))))))))))))))))))))))))))))) (by kernel_rfl) ?_
          refine WK.weak (l := [(.t 0, [bv false])]) (wk_of (by kernel_rfl)) ?_
          refine WK.ret (by kernel_rfl) ?_
          cases some_inj h
          exact WKe.fin (e' := .ret) (by kernel_rfl) (fin_of (g := []) (by first | exact .inl rfl | exact .inr rfl) .nil (by kernel_rfl))
      · refine WK.rs (g := [.s (.t 24) [iv (r2_3.length : Int)], .b true, .b true, .b true, .b true, .b true, .b true, .b false, .b false, .b false, .b false, .b false, .b false, .b false, .b false, .b false, .b false, .b false, .b false, .b false, .b false, .b false, .b false, .b false, .b false, .b false, .b false, .b false, .b false, .b false, .b false, .b false, .b false]) (l' := [(.t 0, [bv false])]) (by kernel_rfl) (.cons (c_len (e := TVersion.en) (l := r2_3)) (.cons b6_1 (.cons b6_1 (.cons b6_2 (.cons b6_2 (.cons b6_2 (.cons b6_2 (.cons b6_3 (.cons b6_3 (.cons b6_3 (.cons (Eq.refl false) (.cons (Eq.refl false) (.cons (Eq.refl false) (.cons (Eq.refl false) (.cons (Eq.refl false) (.cons (Eq.refl false) (.cons (Eq.refl false) (.cons (Eq.refl false) (.cons (Eq.refl false) (.cons (Eq.refl false) (.cons (Eq.refl false) (.cons (Eq.refl false) (.cons (Eq.refl false) (.cons (Eq.refl false) (.cons (Eq.refl false) (.cons (Eq.refl false) (.cons (Eq.refl false) (.cons (Eq.refl false) (.cons (Eq.refl false) (.cons (Eq.refl false) (.cons (Eq.refl false) (.cons (Eq.refl false) (.cons (Eq.refl false) .nil))))))))))))))))))))))))))))))))) (by kernel_rfl) ?_
        refine WK.weak (l := [(.t 0, [bv false])]) (wk_of (by kernel_rfl)) ?_
        refine WK.ret (by kernel_rfl) ?_
        cases some_inj h
        exact WKe.fin (e' := .ret) (by kernel_rfl) (fin_of (g := []) (by first | exact .inl rfl | exact .inr rfl) .nil (by kernel_rfl))
    · refine WK.rs (g := [.s (.t 24) [iv (r2_3.length : Int)], .b true, .b true, .b false, .b false, .b false, .b false, .b false, .b false, .b false, .b false, .b false, .b false, .b false, .b false, .b false, .b false, .b false, .b false, .b false, .b false, .b false, .b false, .b false, .b false, .b false, .b false, .b false, .b false, .b false, .b false, .b false, .b false]) (l' := [(.t 0, [bv false])]) (by kernel_rfl) (.cons (c_len (e := TVersion.en) (l := r2_3)) (.cons b6_1 (.cons b6_1 (.cons b6_2 (.cons b6_2 (.cons b6_2 (.cons b6_2 (.cons (Eq.refl false) (.cons (Eq.refl false) (.cons (Eq.refl false) (.cons (Eq.refl false) (.cons (Eq.refl false) (.cons (Eq.refl false) (.cons (Eq.refl false) (.cons (Eq.refl false) (.cons (Eq.refl false) (.cons (Eq.refl false) (.cons (Eq.refl false) (.cons (Eq.refl false) (.cons (Eq.refl false) (.cons (Eq.refl false) (.cons (Eq.refl false) (.cons (Eq.refl false) (.cons (Eq.refl false) (.cons (Eq.refl false) (.cons (Eq.refl false) (.cons (Eq.refl false) (.cons (Eq.refl false) (.cons (Eq.refl false) (.cons (Eq.refl false) (.cons (Eq.refl false) (.cons (Eq.refl false) (.cons (Eq.refl false) .nil))))))))))))))))))))))))))))))))) (by kernel_rfl) ?_
      refine WK.weak (l := [(.t 0, [bv false])]) (wk_of (by kernel_rfl)) ?_
      refine WK.ret (by kernel_rfl) ?_
      cases some_inj h
      exact WKe.fin (e' := .ret) (by kernel_rfl) (fin_of (g := []) (by first | exact .inl rfl | exact .inr rfl) .nil (by kernel_rfl))
  · refine WK.rs (g := [.s (.t 24) [iv (r2_3.length : Int)], .b false, .b false, .b false, .b false, .b false, .b false, .b false, .b false, .b false, .b false, .b false, .b false, .b false, .b false, .b false, .b false, .b false, .b false, .b false, .b false, .b false, .b false, .b false, .b false, .b false, .b false, .b false, .b false, .b false, .b false, .b false, .b false]) (l' := [(.t 0, [bv false])]) (by kernel_rfl) (.cons (c_len (e := TVersion.en) (l := r2_3)) (.cons b6_1 (.cons b6_1 (.cons (Eq.refl false) (.cons (Eq.refl false) (.cons (Eq.refl false) (.cons (Eq.refl false) (.cons (Eq.refl false) (.cons (Eq.refl false) (.cons (Eq.refl false) (.cons (Eq.refl false) (.cons (Eq.refl false) (.cons (Eq.refl false) (.cons (Eq.refl false) (.cons (Eq.refl false) (.cons (Eq.refl false) (.cons (Eq.refl false) (.cons (Eq.refl false) (.cons (Eq.refl false) (.cons (Eq.refl false) (.cons (Eq.refl false) (.cons (Eq.refl false) (.cons (Eq.refl false) (.cons (Eq.refl false) (.cons (Eq.refl false) (.cons (Eq.refl false) (.cons (Eq.refl false) (.cons (Eq.refl false) (.cons (Eq.refl false) (.cons (Eq.refl false) (.cons (Eq.refl false) (.cons (Eq.refl false) (.cons (Eq.refl false) .nil))))))))))))))))))))))))))))))))) (by kernel_rfl) ?_
    refine WK.weak (l := [(.t 0, [bv false])]) (wk_of (by kernel_rfl)) ?_
    refine WK.ret (by kernel_rfl) ?_
    cases some_inj h
    exact WKe.fin (e' := .ret) (by kernel_rfl) (fin_of (g := []) (by first | exact .inl rfl | exact .inr rfl) .nil (by kernel_rfl))
/-- diwan/diwanlaw15.made -/
noncomputable def bd8 : Code := (Try.f8.body).getD .skip
def diwanlaw15_made.O : Nat → Nat := fun t => bif ([2, 3, 4, 5, 6, 23] : List Nat).any (Nat.beq t) then 1 else 0
noncomputable def diwanlaw15_made.lp5 (fu : Nat) (l5_0 : List Int) : Nat → (List TVersion) → Int → Int → Option (List TVersion)
  | 0, _, _, _ => none
  | n_ + 1, l5_1, l5_2, l5_3 =>
    br (decide (l5_3 < (l5_0.length : Int)))
      (ix l5_0 l5_3 fun x8_1 =>
      ix l5_0 l5_3 fun x9_1 =>
      ix ([ByteArray.empty, (⟨#[118]⟩ : ByteArray), (⟨#[119]⟩ : ByteArray)] : List ByteArray) (Int.tmod (w8 (Int.tdiv x9_1 4)) 3) fun x9_4 =>
      ix l5_0 l5_3 fun x10_1 =>
      br ((Int.tmod x10_1 5) == 0)
        (gd (decide (l5_1.length + ([(TVersion.mk (w64 ((w64 (l5_2 + 1)) + (w64 (Int.tmod x8_1 4)))) ByteArray.empty true)] : List TVersion).length ≤ 4294967296)) <|
        diwanlaw15_made.lp5 fu l5_0 n_ (l5_1 ++ ([(TVersion.mk (w64 ((w64 (l5_2 + 1)) + (w64 (Int.tmod x8_1 4)))) ByteArray.empty true)] : List TVersion)) (w64 ((w64 (l5_2 + 1)) + (w64 (Int.tmod x8_1 4)))) (w64 (l5_3 + 1)))
        (gd (decide (l5_1.length + ([(TVersion.mk (w64 ((w64 (l5_2 + 1)) + (w64 (Int.tmod x8_1 4)))) x9_4 false)] : List TVersion).length ≤ 4294967296)) <|
        diwanlaw15_made.lp5 fu l5_0 n_ (l5_1 ++ ([(TVersion.mk (w64 ((w64 (l5_2 + 1)) + (w64 (Int.tmod x8_1 4)))) x9_4 false)] : List TVersion)) (w64 ((w64 (l5_2 + 1)) + (w64 (Int.tmod x8_1 4)))) (w64 (l5_3 + 1))))
      (some l5_1)
noncomputable def diwanlaw15_made.lp5_post (l5_0 : List Int) (r_ : (List TVersion)) : Wy → St → Prop := fun e τ => match r_ with
  | y0 => e = .exit 0 ∧ τ = ofL [(.t 3, [.data (.slc true none 3 (List.map TVersion.en y0))])]
theorem diwanlaw15_made.lp5_ok (fu : Nat) (l5_0 : List Int) : ∀ (n_ : Nat) (l5_1 : List TVersion) (l5_2 : Int) (l5_3 : Int) (r_ : (List TVersion)), diwanlaw15_made.lp5 fu l5_0 n_ l5_1 l5_2 l5_3 = some r_ → WK Try.prog diwanlaw15_made.O (Ck Try.prog) (cB (cR (cL (cR (cR (cR bd8)))))) [] (ofL [(.t 0, [.data (.slc false none 1 (List.map e_u8 l5_0))]), (.t 3, [.data (.slc true none 3 (List.map TVersion.en l5_1))]), (.t 4, [iv l5_2]), (.t 5, [iv l5_3])]) (diwanlaw15_made.lp5_post l5_0 r_) := by
  intro n_
  induction n_ with
  | zero => intro l5_1 l5_2 l5_3 r_ h; exact no_none h
  | succ n_ ih =>
    intro l5_1 l5_2 l5_3 r_ h
    refine WK.loop (by kernel_rfl) ?_
    refine WK.seq (by kernel_rfl) ?_
    refine WK.rs (g := [.s (.t 9) [iv (l5_0.length : Int)]]) (l' := [(.t 0, [.data (.slc false none 1 (List.map e_u8 l5_0))]), (.t 3, [.data (.slc true none 3 (List.map TVersion.en l5_1))]), (.t 4, [iv l5_2]), (.t 5, [iv l5_3]), (.t 10, [bv (decide (l5_3 < (l5_0.length : Int)))])]) (by kernel_rfl) (.cons (c_len (e := e_u8) (l := l5_0)) .nil) (by kernel_rfl) ?_
    rcases br_inv h with ⟨b7_0, h⟩ | ⟨b7_0, h⟩
    · refine WK.ct (b := (decide (l5_3 < (l5_0.length : Int)))) (by kernel_rfl) b7_0 ?_
      refine WK.skip (by kernel_rfl) ?_
      refine WKe.code (y := (cR (cB (cB (cR (cL (cR (cR (cR bd8))))))))) (ks' := [.lp (cB (cR (cL (cR (cR (cR bd8))))))]) (by kernel_rfl) ?_
      refine WK.seq (by kernel_rfl) ?_
      refine WK.block (n := 1) (by kernel_rfl) ?_
      obtain ⟨x8_1, a8_2, e8_3, h⟩ := ix_inv h
      refine WK.rs (g := [.c (e_u8 x8_1)]) (l' := [(.t 0, [.data (.slc false none 1 (List.map e_u8 l5_0))]), (.t 3, [.data (.slc true none 3 (List.map TVersion.en l5_1))]), (.t 4, [iv (w64 ((w64 (l5_2 + 1)) + (w64 (Int.tmod x8_1 4))))]), (.t 5, [iv l5_3])]) (by kernel_rfl) (.cons (c_ix (e := e_u8) a8_2 e8_3) (.cons (c_el (e := e_u8) e8_3) (.cons (Eq.refl true) .nil))) (by kernel_rfl) ?_
      obtain ⟨x9_1, a9_2, e9_3, h⟩ := ix_inv h
      obtain ⟨x9_4, a9_5, e9_6, h⟩ := ix_inv h
      refine WK.rs (g := [.c (e_u8 x9_1), .c (e_s x9_4)]) (l' := [(.t 0, [.data (.slc false none 1 (List.map e_u8 l5_0))]), (.t 3, [.data (.slc true none 3 (List.map TVersion.en l5_1))]), (.t 4, [iv (w64 ((w64 (l5_2 + 1)) + (w64 (Int.tmod x8_1 4))))]), (.t 5, [iv l5_3]), (.t 6, [.ptr 6 0]), (.o 6, [iv (w64 ((w64 (l5_2 + 1)) + (w64 (Int.tmod x8_1 4)))), sv x9_4, bv false])]) (by kernel_rfl) (.cons (c_ix (e := e_u8) a9_2 e9_3) (.cons (c_el (e := e_u8) e9_3) (.cons (Eq.refl true) (.cons (Eq.refl true) (.cons (c_ix (e := e_s) a9_5 e9_6) (.cons (c_el (e := e_s) e9_6) .nil)))))) (by kernel_rfl) ?_
      refine WK.seq (by kernel_rfl) ?_
      obtain ⟨x10_1, a10_2, e10_3, h⟩ := ix_inv h
      refine WK.rs (g := [.c (e_u8 x10_1)]) (l' := [(.t 0, [.data (.slc false none 1 (List.map e_u8 l5_0))]), (.t 3, [.data (.slc true none 3 (List.map TVersion.en l5_1))]), (.t 4, [iv (w64 ((w64 (l5_2 + 1)) + (w64 (Int.tmod x8_1 4))))]), (.t 5, [iv l5_3]), (.t 6, [.ptr 6 0]), (.t 38, [bv ((Int.tmod x10_1 5) == 0)]), (.o 6, [iv (w64 ((w64 (l5_2 + 1)) + (w64 (Int.tmod x8_1 4)))), sv x9_4, bv false])]) (by kernel_rfl) (.cons (c_ix (e := e_u8) a10_2 e10_3) (.cons (c_el (e := e_u8) e10_3) (.cons (Eq.refl true) .nil))) (by kernel_rfl) ?_
      rcases br_inv h with ⟨b11_0, h⟩ | ⟨b11_0, h⟩
      · refine WK.ct (b := ((Int.tmod x10_1 5) == 0)) (by kernel_rfl) b11_0 ?_
        refine WK.rc (g := []) (l' := [(.t 0, [.data (.slc false none 1 (List.map e_u8 l5_0))]), (.t 3, [.data (.slc true none 3 (List.map TVersion.en l5_1))]), (.t 4, [iv (w64 ((w64 (l5_2 + 1)) + (w64 (Int.tmod x8_1 4))))]), (.t 5, [iv l5_3]), (.t 6, [.ptr 6 0]), (.o 6, [iv (w64 ((w64 (l5_2 + 1)) + (w64 (Int.tmod x8_1 4)))), sv ByteArray.empty, bv true])]) .nil (by kernel_rfl) (y := (cR (cR (cR (cB (cL (cR (cB (cB (cR (cL (cR (cR (cR bd8)))))))))))))) (ks' := [.blk 1, .seq (cR (cR (cB (cB (cR (cL (cR (cR (cR bd8))))))))), .lp (cB (cR (cL (cR (cR (cR bd8))))))]) (by kernel_rfl) ?_
        obtain ⟨c13_1, h⟩ := gd_inv h
        refine WK.rc (g := [.s (.t 44) [.data (.slc true none 3 (List.map TVersion.en (l5_1 ++ ([(TVersion.mk (w64 ((w64 (l5_2 + 1)) + (w64 (Int.tmod x8_1 4)))) ByteArray.empty true)] : List TVersion))))]]) (l' := [(.t 0, [.data (.slc false none 1 (List.map e_u8 l5_0))]), (.t 3, [.data (.slc true none 3 (List.map TVersion.en (l5_1 ++ ([(TVersion.mk (w64 ((w64 (l5_2 + 1)) + (w64 (Int.tmod x8_1 4)))) ByteArray.empty true)] : List TVersion))))]), (.t 4, [iv (w64 ((w64 (l5_2 + 1)) + (w64 (Int.tmod x8_1 4))))]), (.t 5, [iv l5_3])]) (.cons (c_al (e := TVersion.en) (f := TVersion.en) c13_1) (.cons (congrArg (fun d : DV => [AV.data d]) (c_app (e := TVersion.en) (s := 3) (l := l5_1) (m := ([(TVersion.mk (w64 ((w64 (l5_2 + 1)) + (w64 (Int.tmod x8_1 4)))) ByteArray.empty true)] : List TVersion)))) .nil)) (by kernel_rfl) (y := (cR (cR (cB (cB (cR (cL (cR (cR (cR bd8)))))))))) (ks' := [.lp (cB (cR (cL (cR (cR (cR bd8))))))]) (by kernel_rfl) ?_
        refine WK.rc (g := []) (l' := [(.t 0, [.data (.slc false none 1 (List.map e_u8 l5_0))]), (.t 3, [.data (.slc true none 3 (List.map TVersion.en (l5_1 ++ ([(TVersion.mk (w64 ((w64 (l5_2 + 1)) + (w64 (Int.tmod x8_1 4)))) ByteArray.empty true)] : List TVersion))))]), (.t 4, [iv (w64 ((w64 (l5_2 + 1)) + (w64 (Int.tmod x8_1 4))))]), (.t 5, [iv (w64 (l5_3 + 1))])]) .nil (by kernel_rfl) (y := (cB (cR (cL (cR (cR (cR bd8))))))) (ks' := []) (by kernel_rfl) ?_
        exact WK.weak (l := [(.t 0, [.data (.slc false none 1 (List.map e_u8 l5_0))]), (.t 3, [.data (.slc true none 3 (List.map TVersion.en (l5_1 ++ ([(TVersion.mk (w64 ((w64 (l5_2 + 1)) + (w64 (Int.tmod x8_1 4)))) ByteArray.empty true)] : List TVersion))))]), (.t 4, [iv (w64 ((w64 (l5_2 + 1)) + (w64 (Int.tmod x8_1 4))))]), (.t 5, [iv (w64 (l5_3 + 1))])]) (wk_of (by kernel_rfl)) (ih (l5_1 ++ ([(TVersion.mk (w64 ((w64 (l5_2 + 1)) + (w64 (Int.tmod x8_1 4)))) ByteArray.empty true)] : List TVersion)) (w64 ((w64 (l5_2 + 1)) + (w64 (Int.tmod x8_1 4)))) (w64 (l5_3 + 1)) _ h)
      · refine WK.ce (b := ((Int.tmod x10_1 5) == 0)) (by kernel_rfl) b11_0 ?_
        refine WK.skip (by kernel_rfl) ?_
        refine WKe.code (y := (cR (cR (cR (cB (cL (cR (cB (cB (cR (cL (cR (cR (cR bd8)))))))))))))) (ks' := [.blk 1, .seq (cR (cR (cB (cB (cR (cL (cR (cR (cR bd8))))))))), .lp (cB (cR (cL (cR (cR (cR bd8))))))]) (by kernel_rfl) ?_
        obtain ⟨c15_1, h⟩ := gd_inv h
        refine WK.rc (g := [.s (.t 44) [.data (.slc true none 3 (List.map TVersion.en (l5_1 ++ ([(TVersion.mk (w64 ((w64 (l5_2 + 1)) + (w64 (Int.tmod x8_1 4)))) x9_4 false)] : List TVersion))))]]) (l' := [(.t 0, [.data (.slc false none 1 (List.map e_u8 l5_0))]), (.t 3, [.data (.slc true none 3 (List.map TVersion.en (l5_1 ++ ([(TVersion.mk (w64 ((w64 (l5_2 + 1)) + (w64 (Int.tmod x8_1 4)))) x9_4 false)] : List TVersion))))]), (.t 4, [iv (w64 ((w64 (l5_2 + 1)) + (w64 (Int.tmod x8_1 4))))]), (.t 5, [iv l5_3])]) (.cons (c_al (e := TVersion.en) (f := TVersion.en) c15_1) (.cons (congrArg (fun d : DV => [AV.data d]) (c_app (e := TVersion.en) (s := 3) (l := l5_1) (m := ([(TVersion.mk (w64 ((w64 (l5_2 + 1)) + (w64 (Int.tmod x8_1 4)))) x9_4 false)] : List TVersion)))) .nil)) (by kernel_rfl) (y := (cR (cR (cB (cB (cR (cL (cR (cR (cR bd8)))))))))) (ks' := [.lp (cB (cR (cL (cR (cR (cR bd8))))))]) (by kernel_rfl) ?_
        refine WK.rc (g := []) (l' := [(.t 0, [.data (.slc false none 1 (List.map e_u8 l5_0))]), (.t 3, [.data (.slc true none 3 (List.map TVersion.en (l5_1 ++ ([(TVersion.mk (w64 ((w64 (l5_2 + 1)) + (w64 (Int.tmod x8_1 4)))) x9_4 false)] : List TVersion))))]), (.t 4, [iv (w64 ((w64 (l5_2 + 1)) + (w64 (Int.tmod x8_1 4))))]), (.t 5, [iv (w64 (l5_3 + 1))])]) .nil (by kernel_rfl) (y := (cB (cR (cL (cR (cR (cR bd8))))))) (ks' := []) (by kernel_rfl) ?_
        exact WK.weak (l := [(.t 0, [.data (.slc false none 1 (List.map e_u8 l5_0))]), (.t 3, [.data (.slc true none 3 (List.map TVersion.en (l5_1 ++ ([(TVersion.mk (w64 ((w64 (l5_2 + 1)) + (w64 (Int.tmod x8_1 4)))) x9_4 false)] : List TVersion))))]), (.t 4, [iv (w64 ((w64 (l5_2 + 1)) + (w64 (Int.tmod x8_1 4))))]), (.t 5, [iv (w64 (l5_3 + 1))])]) (wk_of (by kernel_rfl)) (ih (l5_1 ++ ([(TVersion.mk (w64 ((w64 (l5_2 + 1)) + (w64 (Int.tmod x8_1 4)))) x9_4 false)] : List TVersion)) (w64 ((w64 (l5_2 + 1)) + (w64 (Int.tmod x8_1 4)))) (w64 (l5_3 + 1)) _ h)
    · refine WK.ce (b := (decide (l5_3 < (l5_0.length : Int)))) (by kernel_rfl) b7_0 ?_
      refine WK.weak (l := [(.t 3, [.data (.slc true none 3 (List.map TVersion.en l5_1))])]) (wk_of (by kernel_rfl)) ?_
      refine WK.exit (n := 0) (by kernel_rfl) ?_
      cases some_inj h
      exact WKe.fin (e' := .exit 0) (by kernel_rfl) ⟨rfl, rfl⟩
noncomputable def diwanlaw15_made (fu : Nat) (l : List Int) : Option (List TVersion) :=
  bd (diwanlaw15_made.lp5 fu l fu [] 0 0) fun y17_0 =>
  some y17_0
theorem diwanlaw15_made.meets (fu : Nat) (l : List Int) (z0 : List TVersion) (h : diwanlaw15_made fu l = some z0) : Meets Try.prog ⟨8, [.data (.slc false none 1 (List.map e_u8 l))], []⟩ ⟨.data (.slc true none 3 (List.map TVersion.en z0)), []⟩ := by
  refine meets_of (O := diwanlaw15_made.O) hmix (fn := Try.f8) (code := bd8) (by kernel_rfl) ?_
  refine WK.weak (l := [(.t 0, [.data (.slc false none 1 (List.map e_u8 l))])]) (wk_of (by kernel_rfl)) ?_
  unfold diwanlaw15_made at h
  refine WK.rs (g := []) (l' := [(.t 0, [.data (.slc false none 1 (List.map e_u8 l))])]) (by kernel_rfl) .nil (by kernel_rfl) ?_
  refine WK.rs (g := []) (l' := [(.t 0, [.data (.slc false none 1 (List.map e_u8 l))]), (.t 3, [.data (.slc true (some true) 3 (List.map TVersion.en []))])]) (by kernel_rfl) .nil (by kernel_rfl) ?_
  refine WK.rs (g := []) (l' := [(.t 0, [.data (.slc false none 1 (List.map e_u8 l))]), (.t 3, [.data (.slc true (some true) 3 (List.map TVersion.en []))]), (.t 4, [iv 0])]) (by kernel_rfl) .nil (by kernel_rfl) ?_
  refine WK.seq (by kernel_rfl) ?_
  refine WK.rs (g := []) (l' := [(.t 0, [.data (.slc false none 1 (List.map e_u8 l))]), (.t 3, [.data (.slc true (some true) 3 (List.map TVersion.en []))]), (.t 4, [iv 0]), (.t 5, [iv 0])]) (by kernel_rfl) .nil (by kernel_rfl) ?_
  refine WK.block (n := 0) (by kernel_rfl) ?_
  obtain ⟨o17, ho17, h⟩ := bd_inv h
  refine WK.weak (l := [(.t 0, [.data (.slc false none 1 (List.map e_u8 l))]), (.t 3, [.data (.slc true none 3 (List.map TVersion.en []))]), (.t 4, [iv 0]), (.t 5, [iv 0])]) (wk_of (by kernel_rfl)) ?_
  refine WK.use (diwanlaw15_made.lp5_ok fu l _ [] 0 0 _ ho17) ?_
  intro e_ τ_ hp_
  obtain ⟨y17_0, rfl⟩ : ∃ y, y = o17 := ⟨_, rfl⟩
  obtain ⟨rfl, rfl⟩ := hp_
  refine WKe.code (y := (cR (cR (cR (cR bd8))))) (ks' := []) (by kernel_rfl) ?_
  refine WK.rs (g := []) (l' := [(.t 2, [.data (.slc true none 3 (List.map TVersion.en y17_0))])]) (by kernel_rfl) .nil (by kernel_rfl) ?_
  refine WK.weak (l := [(.t 2, [.data (.slc true none 3 (List.map TVersion.en y17_0))])]) (wk_of (by kernel_rfl)) ?_
  refine WK.ret (by kernel_rfl) ?_
  cases some_inj h
  exact WKe.fin (e' := .ret) (by kernel_rfl) (fin_of (g := []) (by first | exact .inl rfl | exact .inr rfl) .nil (by kernel_rfl))
/-- diwan/diwanref13.MayChain -/
noncomputable def bd10 : Code := (Try.f10.body).getD .skip
def diwanref13_MayChain.O : Nat → Nat := fun t => bif ([2, 3] : List Nat).any (Nat.beq t) then 1 else 0
noncomputable def diwanref13_MayChain.lp3 (fu : Nat) (l3_0 : List TVersion) : Nat → Int → Option (Unit ⊕ Unit)
  | 0, _ => none
  | n_ + 1, l3_1 =>
    br (decide (l3_1 < (l3_0.length : Int)))
      (ix l3_0 l3_1 fun x6_1 =>
      br (decide (x6_1.Pos < 1))
        (some (.inr ()))
        (br (decide (l3_1 > 0))
          (ix l3_0 l3_1 fun x6_6 =>
          ix l3_0 (w64 (l3_1 - 1)) fun x6_9 =>
          br (decide (x6_6.Pos ≤ x6_9.Pos))
            (some (.inr ()))
            (ix l3_0 l3_1 fun x6_13 =>
            br (decide ((x6_13.Val.size : Int) > 16))
              (some (.inr ()))
              (ix l3_0 l3_1 fun x6_17 =>
              br x6_17.Gone
                (ix l3_0 l3_1 fun x6_21 =>
                br (!(x6_21.Val.toList == ByteArray.empty.toList))
                  (some (.inr ()))
                  (diwanref13_MayChain.lp3 fu l3_0 n_ (w64 (l3_1 + 1))))
                (diwanref13_MayChain.lp3 fu l3_0 n_ (w64 (l3_1 + 1))))))
          (ix l3_0 l3_1 fun x6_6 =>
          br (decide ((x6_6.Val.size : Int) > 16))
            (some (.inr ()))
            (ix l3_0 l3_1 fun x6_10 =>
            br x6_10.Gone
              (ix l3_0 l3_1 fun x6_14 =>
              br (!(x6_14.Val.toList == ByteArray.empty.toList))
                (some (.inr ()))
                (diwanref13_MayChain.lp3 fu l3_0 n_ (w64 (l3_1 + 1))))
              (diwanref13_MayChain.lp3 fu l3_0 n_ (w64 (l3_1 + 1)))))))
      (some (.inl ()))
noncomputable def diwanref13_MayChain.lp3_post (l3_0 : List TVersion) (r_ : (Unit ⊕ Unit)) : Wy → St → Prop := fun e τ => match r_ with
  | .inl _ => e = .exit 0 ∧ τ = ofL []
  | .inr _ => e = .ret ∧ τ = ofL [(.t 2, [bv false])]
theorem diwanref13_MayChain.lp3_ok (fu : Nat) (l3_0 : List TVersion) : ∀ (n_ : Nat) (l3_1 : Int) (r_ : (Unit ⊕ Unit)), diwanref13_MayChain.lp3 fu l3_0 n_ l3_1 = some r_ → WK Try.prog diwanref13_MayChain.O (Ck Try.prog) (cB (cR (cL (cR bd10)))) [] (ofL [(.t 0, [.data (.slc false none 3 (List.map TVersion.en l3_0))]), (.t 3, [iv l3_1])]) (diwanref13_MayChain.lp3_post l3_0 r_) := by
  intro n_
  induction n_ with
  | zero => intro l3_1 r_ h; exact no_none h
  | succ n_ ih =>
    intro l3_1 r_ h
    refine WK.loop (by kernel_rfl) ?_
    refine WK.seq (by kernel_rfl) ?_
    refine WK.rs (g := [.s (.t 6) [iv (l3_0.length : Int)]]) (l' := [(.t 0, [.data (.slc false none 3 (List.map TVersion.en l3_0))]), (.t 3, [iv l3_1]), (.t 7, [bv (decide (l3_1 < (l3_0.length : Int)))])]) (by kernel_rfl) (.cons (c_len (e := TVersion.en) (l := l3_0)) .nil) (by kernel_rfl) ?_
    rcases br_inv h with ⟨b5_0, h⟩ | ⟨b5_0, h⟩
    · refine WK.ct (b := (decide (l3_1 < (l3_0.length : Int)))) (by kernel_rfl) b5_0 ?_
      refine WK.skip (by kernel_rfl) ?_
      refine WKe.code (y := (cR (cB (cB (cR (cL (cR bd10))))))) (ks' := [.lp (cB (cR (cL (cR bd10))))]) (by kernel_rfl) ?_
      refine WK.seq (by kernel_rfl) ?_
      refine WK.block (n := 1) (by kernel_rfl) ?_
      obtain ⟨x6_1, a6_2, e6_3, h⟩ := ix_inv h
      rcases br_inv h with ⟨b6_4, h⟩ | ⟨b6_4, h⟩
      · refine WK.rs (g := [.c (TVersion.en x6_1), .b true, .b true, .b true, .b true, .b true, .b true, .b true, .b true, .b true, .b true, .b true, .b true, .b true, .b true, .b true, .b true, .b true, .b true, .b true, .b true, .b true]) (l' := [(.t 0, [.data (.slc false none 3 (List.map TVersion.en l3_0))]), (.t 3, [iv l3_1]), (.t 57, [bv true])]) (by kernel_rfl) (.cons (c_ix (e := TVersion.en) a6_2 e6_3) (.cons (c_el (e := TVersion.en) e6_3) (.cons b6_4 (.cons b6_4 (.cons b6_4 (.cons b6_4 (.cons b6_4 (.cons (Eq.refl true) (.cons (Eq.refl true) (.cons (Eq.refl true) (.cons (Eq.refl true) (.cons (Eq.refl true) (.cons (Eq.refl true) (.cons (Eq.refl true) (.cons (Eq.refl true) (.cons (Eq.refl true) (.cons (Eq.refl true) (.cons (Eq.refl true) (.cons (Eq.refl true) (.cons (Eq.refl true) (.cons (Eq.refl true) (.cons (Eq.refl true) (.cons (Eq.refl true) (.cons (Eq.refl true) .nil)))))))))))))))))))))))) (by kernel_rfl) ?_
        refine WK.ct (b := true) (by kernel_rfl) rfl ?_
        refine WK.rs (g := []) (l' := [(.t 2, [bv false])]) (by kernel_rfl) .nil (by kernel_rfl) ?_
        refine WK.weak (l := [(.t 2, [bv false])]) (wk_of (by kernel_rfl)) ?_
        refine WK.ret (by kernel_rfl) ?_
        cases some_inj h
        exact WKe.fin (e' := .ret) (by kernel_rfl) ⟨rfl, rfl⟩
      · rcases br_inv h with ⟨b6_5, h⟩ | ⟨b6_5, h⟩
        · obtain ⟨x6_6, a6_7, e6_8, h⟩ := ix_inv h
          obtain ⟨x6_9, a6_10, e6_11, h⟩ := ix_inv h
          rcases br_inv h with ⟨b6_12, h⟩ | ⟨b6_12, h⟩
          · refine WK.rs (g := [.c (TVersion.en x6_1), .b false, .b false, .b false, .b true, .b true, .b true, .c (TVersion.en x6_6), .b true, .b true, .b true, .b true, .b true, .b true, .c (TVersion.en x6_9), .b true, .b true, .b true, .b false, .b true, .b false, .b true, .b true, .b true, .b true, .b true, .b true, .b true, .b true, .b true, .b true, .b true, .b true, .b true, .b true, .b true, .b true]) (l' := [(.t 0, [.data (.slc false none 3 (List.map TVersion.en l3_0))]), (.t 3, [iv l3_1]), (.t 57, [bv true])]) (by kernel_rfl) (.cons (c_ix (e := TVersion.en) a6_2 e6_3) (.cons (c_el (e := TVersion.en) e6_3) (.cons b6_4 (.cons b6_4 (.cons b6_4 (.cons b6_5 (.cons b6_5 (.cons b6_5 (.cons (c_ix (e := TVersion.en) a6_7 e6_8) (.cons (c_el (e := TVersion.en) e6_8) (.cons b6_5 (.cons b6_5 (.cons b6_5 (.cons b6_5 (.cons b6_5 (.cons b6_5 (.cons (c_ix (e := TVersion.en) a6_10 e6_11) (.cons (c_el (e := TVersion.en) e6_11) (.cons b6_5 (.cons b6_5 (.cons b6_5 (.cons b6_4 (.cons b6_5 (.cons b6_4 (.cons b6_12 (.cons b6_12 (.cons b6_12 (.cons b6_12 (.cons b6_12 (.cons b6_12 (.cons b6_12 (.cons b6_12 (.cons (Eq.refl true) (.cons (Eq.refl true) (.cons (Eq.refl true) (.cons (Eq.refl true) (.cons (Eq.refl true) (.cons (Eq.refl true) (.cons (Eq.refl true) (.cons (Eq.refl true) (.cons (Eq.refl true) .nil))))))))))))))))))))))))))))))))))))))))) (by kernel_rfl) ?_
            refine WK.ct (b := true) (by kernel_rfl) rfl ?_
            refine WK.rs (g := []) (l' := [(.t 2, [bv false])]) (by kernel_rfl) .nil (by kernel_rfl) ?_
            refine WK.weak (l := [(.t 2, [bv false])]) (wk_of (by kernel_rfl)) ?_
            refine WK.ret (by kernel_rfl) ?_
            cases some_inj h
            exact WKe.fin (e' := .ret) (by kernel_rfl) ⟨rfl, rfl⟩
          · obtain ⟨x6_13, a6_14, e6_15, h⟩ := ix_inv h
            rcases br_inv h with ⟨b6_16, h⟩ | ⟨b6_16, h⟩
            · refine WK.rs (g := [.c (TVersion.en x6_1), .b false, .b false, .b false, .b true, .b true, .b true, .c (TVersion.en x6_6), .b true, .b true, .b true, .b true, .b true, .b true, .c (TVersion.en x6_9), .b true, .b true, .b true, .b false, .b true, .b false, .b false, .b false, .b false, .c (TVersion.en x6_13), .b false, .b false, .b false, .b false, .b false, .b true, .b true, .b true, .b true, .b true, .b true, .b true, .b true]) (l' := [(.t 0, [.data (.slc false none 3 (List.map TVersion.en l3_0))]), (.t 3, [iv l3_1]), (.t 57, [bv true])]) (by kernel_rfl) (.cons (c_ix (e := TVersion.en) a6_2 e6_3) (.cons (c_el (e := TVersion.en) e6_3) (.cons b6_4 (.cons b6_4 (.cons b6_4 (.cons b6_5 (.cons b6_5 (.cons b6_5 (.cons (c_ix (e := TVersion.en) a6_7 e6_8) (.cons (c_el (e := TVersion.en) e6_8) (.cons b6_5 (.cons b6_5 (.cons b6_5 (.cons b6_5 (.cons b6_5 (.cons b6_5 (.cons (c_ix (e := TVersion.en) a6_10 e6_11) (.cons (c_el (e := TVersion.en) e6_11) (.cons b6_5 (.cons b6_5 (.cons b6_5 (.cons b6_4 (.cons b6_5 (.cons b6_4 (.cons b6_12 (.cons b6_12 (.cons b6_12 (.cons (c_ix (e := TVersion.en) a6_14 e6_15) (.cons (c_el (e := TVersion.en) e6_15) (.cons b6_12 (.cons b6_12 (.cons b6_12 (.cons b6_12 (.cons b6_12 (.cons b6_16 (.cons b6_16 (.cons b6_16 (.cons b6_16 (.cons b6_16 (.cons b6_16 (.cons b6_16 (.cons b6_16 (.cons (Eq.refl true) .nil))))))))))))))))))))))))))))))))))))))))))) (by kernel_rfl) ?_
              refine WK.ct (b := true) (by kernel_rfl) rfl ?_
              refine WK.rs (g := []) (l' := [(.t 2, [bv false])]) (by kernel_rfl) .nil (by kernel_rfl) ?_
              refine WK.weak (l := [(.t 2, [bv false])]) (wk_of (by kernel_rfl)) ?_
              refine WK.ret (by kernel_rfl) ?_
              cases some_inj h
              exact WKe.fin (e' := .ret) (by kernel_rfl) ⟨rfl, rfl⟩
            · obtain ⟨x6_17, a6_18, e6_19, h⟩ := ix_inv h
              rcases br_inv h with ⟨b6_20, h⟩ | ⟨b6_20, h⟩
              · obtain ⟨x6_21, a6_22, e6_23, h⟩ := ix_inv h
                refine WK.rs (g := [.c (TVersion.en x6_1), .b false, .b false, .b false, .b true, .b true, .b true, .c (TVersion.en x6_6), .b true, .b true, .b true, .b true, .b true, .b true, .c (TVersion.en x6_9), .b true, .b true, .b true, .b false, .b true, .b false, .b false, .b false, .b false, .c (TVersion.en x6_13), .b false, .b false, .b false, .b false, .b false, .b false, .b false, .b false, .c (TVersion.en x6_17), .b false, .b false, .b false, .b true, .b true, .b true, .c (TVersion.en x6_21), .b true, .b true, .b true, .b false, .b true, .b false]) (l' := [(.t 0, [.data (.slc false none 3 (List.map TVersion.en l3_0))]), (.t 3, [iv l3_1]), (.t 57, [bv (!(x6_21.Val.toList == ByteArray.empty.toList))])]) (by kernel_rfl) (.cons (c_ix (e := TVersion.en) a6_2 e6_3) (.cons (c_el (e := TVersion.en) e6_3) (.cons b6_4 (.cons b6_4 (.cons b6_4 (.cons b6_5 (.cons b6_5 (.cons b6_5 (.cons (c_ix (e := TVersion.en) a6_7 e6_8) (.cons (c_el (e := TVersion.en) e6_8) (.cons b6_5 (.cons b6_5 (.cons b6_5 (.cons b6_5 (.cons b6_5 (.cons b6_5 (.cons (c_ix (e := TVersion.en) a6_10 e6_11) (.cons (c_el (e := TVersion.en) e6_11) (.cons b6_5 (.cons b6_5 (.cons b6_5 (.cons b6_4 (.cons b6_5 (.cons b6_4 (.cons b6_12 (.cons b6_12 (.cons b6_12 (.cons (c_ix (e := TVersion.en) a6_14 e6_15) (.cons (c_el (e := TVersion.en) e6_15) (.cons b6_12 (.cons b6_12 (.cons b6_12 (.cons b6_12 (.cons b6_12 (.cons b6_16 (.cons b6_16 (.cons b6_16 (.cons (c_ix (e := TVersion.en) a6_18 e6_19) (.cons (c_el (e := TVersion.en) e6_19) (.cons b6_16 (.cons b6_16 (.cons b6_16 (.cons b6_20 (.cons b6_20 (.cons b6_20 (.cons (c_ix (e := TVersion.en) a6_22 e6_23) (.cons (c_el (e := TVersion.en) e6_23) (.cons b6_20 (.cons b6_20 (.cons b6_20 (.cons b6_16 (.cons b6_20 (.cons b6_16 (.cons (Eq.refl true) .nil)))))))))))))))))))))))))))))))))))))))))))))))))))))) (by kernel_rfl) ?_
                rcases br_inv h with ⟨b10_0, h⟩ | ⟨b10_0, h⟩
                · refine WK.ct (b := (!(x6_21.Val.toList == ByteArray.empty.toList))) (by kernel_rfl) b10_0 ?_
                  refine WK.rs (g := []) (l' := [(.t 2, [bv false])]) (by kernel_rfl) .nil (by kernel_rfl) ?_
                  refine WK.weak (l := [(.t 2, [bv false])]) (wk_of (by kernel_rfl)) ?_
                  refine WK.ret (by kernel_rfl) ?_
                  cases some_inj h
                  exact WKe.fin (e' := .ret) (by kernel_rfl) ⟨rfl, rfl⟩
                · refine WK.ce (b := (!(x6_21.Val.toList == ByteArray.empty.toList))) (by kernel_rfl) b10_0 ?_
                  refine WK.skip (by kernel_rfl) ?_
                  refine WKe.code (y := (cR (cR (cB (cB (cR (cL (cR bd10)))))))) (ks' := [.lp (cB (cR (cL (cR bd10))))]) (by kernel_rfl) ?_
                  refine WK.rc (g := []) (l' := [(.t 0, [.data (.slc false none 3 (List.map TVersion.en l3_0))]), (.t 3, [iv (w64 (l3_1 + 1))])]) .nil (by kernel_rfl) (y := (cB (cR (cL (cR bd10))))) (ks' := []) (by kernel_rfl) ?_
                  exact WK.weak (l := [(.t 0, [.data (.slc false none 3 (List.map TVersion.en l3_0))]), (.t 3, [iv (w64 (l3_1 + 1))])]) (wk_of (by kernel_rfl)) (ih (w64 (l3_1 + 1)) _ h)
              · refine WK.rs (g := [.c (TVersion.en x6_1), .b false, .b false, .b false, .b true, .b true, .b true, .c (TVersion.en x6_6), .b true, .b true, .b true, .b true, .b true, .b true, .c (TVersion.en x6_9), .b true, .b true, .b true, .b false, .b true, .b false, .b false, .b false, .b false, .c (TVersion.en x6_13), .b false, .b false, .b false, .b false, .b false, .b false, .b false, .b false, .c (TVersion.en x6_17), .b false, .b false, .b false, .b false, .b false, .b false, .b false, .b false, .b false, .b false, .b false, .b false]) (l' := [(.t 0, [.data (.slc false none 3 (List.map TVersion.en l3_0))]), (.t 3, [iv l3_1]), (.t 57, [bv false])]) (by kernel_rfl) (.cons (c_ix (e := TVersion.en) a6_2 e6_3) (.cons (c_el (e := TVersion.en) e6_3) (.cons b6_4 (.cons b6_4 (.cons b6_4 (.cons b6_5 (.cons b6_5 (.cons b6_5 (.cons (c_ix (e := TVersion.en) a6_7 e6_8) (.cons (c_el (e := TVersion.en) e6_8) (.cons b6_5 (.cons b6_5 (.cons b6_5 (.cons b6_5 (.cons b6_5 (.cons b6_5 (.cons (c_ix (e := TVersion.en) a6_10 e6_11) (.cons (c_el (e := TVersion.en) e6_11) (.cons b6_5 (.cons b6_5 (.cons b6_5 (.cons b6_4 (.cons b6_5 (.cons b6_4 (.cons b6_12 (.cons b6_12 (.cons b6_12 (.cons (c_ix (e := TVersion.en) a6_14 e6_15) (.cons (c_el (e := TVersion.en) e6_15) (.cons b6_12 (.cons b6_12 (.cons b6_12 (.cons b6_12 (.cons b6_12 (.cons b6_16 (.cons b6_16 (.cons b6_16 (.cons (c_ix (e := TVersion.en) a6_18 e6_19) (.cons (c_el (e := TVersion.en) e6_19) (.cons b6_16 (.cons b6_16 (.cons b6_16 (.cons b6_20 (.cons b6_20 (.cons b6_20 (.cons b6_20 (.cons b6_20 (.cons b6_20 (.cons b6_16 (.cons b6_20 (.cons b6_16 (.cons (Eq.refl true) .nil)))))))))))))))))))))))))))))))))))))))))))))))))))) (by kernel_rfl) ?_
                refine WK.ce (b := false) (by kernel_rfl) rfl ?_
                refine WK.skip (by kernel_rfl) ?_
                refine WKe.code (y := (cR (cR (cB (cB (cR (cL (cR bd10)))))))) (ks' := [.lp (cB (cR (cL (cR bd10))))]) (by kernel_rfl) ?_
                refine WK.rc (g := []) (l' := [(.t 0, [.data (.slc false none 3 (List.map TVersion.en l3_0))]), (.t 3, [iv (w64 (l3_1 + 1))])]) .nil (by kernel_rfl) (y := (cB (cR (cL (cR bd10))))) (ks' := []) (by kernel_rfl) ?_
                exact WK.weak (l := [(.t 0, [.data (.slc false none 3 (List.map TVersion.en l3_0))]), (.t 3, [iv (w64 (l3_1 + 1))])]) (wk_of (by kernel_rfl)) (ih (w64 (l3_1 + 1)) _ h)
        · obtain ⟨x6_6, a6_7, e6_8, h⟩ := ix_inv h
          rcases br_inv h with ⟨b6_9, h⟩ | ⟨b6_9, h⟩
          · refine WK.rs (g := [.c (TVersion.en x6_1), .b false, .b false, .b false, .b false, .b false, .b false, .b false, .b false, .b false, .b false, .b false, .b false, .b false, .b false, .b false, .b false, .b false, .b false, .b false, .b false, .b false, .c (TVersion.en x6_6), .b false, .b false, .b false, .b false, .b false, .b true, .b true, .b true, .b true, .b true, .b true, .b true, .b true]) (l' := [(.t 0, [.data (.slc false none 3 (List.map TVersion.en l3_0))]), (.t 3, [iv l3_1]), (.t 57, [bv true])]) (by kernel_rfl) (.cons (c_ix (e := TVersion.en) a6_2 e6_3) (.cons (c_el (e := TVersion.en) e6_3) (.cons b6_4 (.cons b6_4 (.cons b6_4 (.cons b6_5 (.cons b6_5 (.cons b6_5 (.cons b6_5 (.cons b6_5 (.cons b6_5 (.cons b6_5 (.cons b6_5 (.cons b6_5 (.cons b6_5 (.cons b6_5 (.cons b6_5 (.cons b6_4 (.cons b6_5 (.cons b6_4 (.cons (Eq.refl false) (.cons (Eq.refl false) (.cons (Eq.refl false) (.cons (c_ix (e := TVersion.en) a6_7 e6_8) (.cons (c_el (e := TVersion.en) e6_8) (.cons (Eq.refl false) (.cons (Eq.refl false) (.cons (Eq.refl false) (.cons (Eq.refl false) (.cons (Eq.refl false) (.cons b6_9 (.cons b6_9 (.cons b6_9 (.cons b6_9 (.cons b6_9 (.cons b6_9 (.cons b6_9 (.cons b6_9 (.cons (Eq.refl true) .nil))))))))))))))))))))))))))))))))))))))) (by kernel_rfl) ?_
            refine WK.ct (b := true) (by kernel_rfl) rfl ?_
            refine WK.rs (g := []) (l' := [(.t 2, [bv false])]) (by kernel_rfl) .nil (by kernel_rfl) ?_
            refine WK.weak (l := [(.t 2, [bv false])]) (wk_of (by kernel_rfl)) ?_
            refine WK.ret (by kernel_rfl) ?_
            cases some_inj h
            exact WKe.fin (e' := .ret) (by kernel_rfl) ⟨rfl, rfl⟩
          · obtain ⟨x6_10, a6_11, e6_12, h⟩ := ix_inv h
            rcases br_inv h with ⟨b6_13, h⟩ | ⟨b6_13, h⟩
            · obtain ⟨x6_14, a6_15, e6_16, h⟩ := ix_inv h
              refine WK.rs (g := [.c (TVersion.en x6_1), .b false, .b false, .b false, .b false, .b false, .b false, .b false, .b false, .b false, .b false, .b false, .b false, .b false, .b false, .b false, .b false, .b false, .b false, .b false, .b false, .b false, .c (TVersion.en x6_6), .b false, .b false, .b false, .b false, .b false, .b false, .b false, .b false, .c (TVersion.en x6_10), .b false, .b false, .b false, .b true, .b true, .b true, .c (TVersion.en x6_14), .b true, .b true, .b true, .b false, .b true, .b false]) (l' := [(.t 0, [.data (.slc false none 3 (List.map TVersion.en l3_0))]), (.t 3, [iv l3_1]), (.t 57, [bv (!(x6_14.Val.toList == ByteArray.empty.toList))])]) (by kernel_rfl) (.cons (c_ix (e := TVersion.en) a6_2 e6_3) (.cons (c_el (e := TVersion.en) e6_3) (.cons b6_4 (.cons b6_4 (.cons b6_4 (.cons b6_5 (.cons b6_5 (.cons b6_5 (.cons b6_5 (.cons b6_5 (.cons b6_5 (.cons b6_5 (.cons b6_5 (.cons b6_5 (.cons b6_5 (.cons b6_5 (.cons b6_5 (.cons b6_4 (.cons b6_5 (.cons b6_4 (.cons (Eq.refl false) (.cons (Eq.refl false) (.cons (Eq.refl false) (.cons (c_ix (e := TVersion.en) a6_7 e6_8) (.cons (c_el (e := TVersion.en) e6_8) (.cons (Eq.refl false) (.cons (Eq.refl false) (.cons (Eq.refl false) (.cons (Eq.refl false) (.cons (Eq.refl false) (.cons b6_9 (.cons b6_9 (.cons b6_9 (.cons (c_ix (e := TVersion.en) a6_11 e6_12) (.cons (c_el (e := TVersion.en) e6_12) (.cons b6_9 (.cons b6_9 (.cons b6_9 (.cons b6_13 (.cons b6_13 (.cons b6_13 (.cons (c_ix (e := TVersion.en) a6_15 e6_16) (.cons (c_el (e := TVersion.en) e6_16) (.cons b6_13 (.cons b6_13 (.cons b6_13 (.cons b6_9 (.cons b6_13 (.cons b6_9 (.cons (Eq.refl true) .nil)))))))))))))))))))))))))))))))))))))))))))))))))) (by kernel_rfl) ?_
              rcases br_inv h with ⟨b15_0, h⟩ | ⟨b15_0, h⟩
              · refine WK.ct (b := (!(x6_14.Val.toList == ByteArray.empty.toList))) (by kernel_rfl) b15_0 ?_
                refine WK.rs (g := []) (l' := [(.t 2, [bv false])]) (by kernel_rfl) .nil (by kernel_rfl) ?_
                refine WK.weak (l := [(.t 2, [bv false])]) (wk_of (by kernel_rfl)) ?_
                refine WK.ret (by kernel_rfl) ?_
                cases some_inj h
                exact WKe.fin (e' := .ret) (by kernel_rfl) ⟨rfl, rfl⟩
              · refine WK.ce (b := (!(x6_14.Val.toList == ByteArray.empty.toList))) (by kernel_rfl) b15_0 ?_
                refine WK.skip (by kernel_rfl) ?_
                refine WKe.code (y := (cR (cR (cB (cB (cR (cL (cR bd10)))))))) (ks' := [.lp (cB (cR (cL (cR bd10))))]) (by kernel_rfl) ?_
                refine WK.rc (g := []) (l' := [(.t 0, [.data (.slc false none 3 (List.map TVersion.en l3_0))]), (.t 3, [iv (w64 (l3_1 + 1))])]) .nil (by kernel_rfl) (y := (cB (cR (cL (cR bd10))))) (ks' := []) (by kernel_rfl) ?_
                exact WK.weak (l := [(.t 0, [.data (.slc false none 3 (List.map TVersion.en l3_0))]), (.t 3, [iv (w64 (l3_1 + 1))])]) (wk_of (by kernel_rfl)) (ih (w64 (l3_1 + 1)) _ h)
            · refine WK.rs (g := [.c (TVersion.en x6_1), .b false, .b false, .b false, .b false, .b false, .b false, .b false, .b false, .b false, .b false, .b false, .b false, .b false, .b false, .b false, .b false, .b false, .b false, .b false, .b false, .b false, .c (TVersion.en x6_6), .b false, .b false, .b false, .b false, .b false, .b false, .b false, .b false, .c (TVersion.en x6_10), .b false, .b false, .b false, .b false, .b false, .b false, .b false, .b false, .b false, .b false, .b false, .b false]) (l' := [(.t 0, [.data (.slc false none 3 (List.map TVersion.en l3_0))]), (.t 3, [iv l3_1]), (.t 57, [bv false])]) (by kernel_rfl) (.cons (c_ix (e := TVersion.en) a6_2 e6_3) (.cons (c_el (e := TVersion.en) e6_3) (.cons b6_4 (.cons b6_4 (.cons b6_4 (.cons b6_5 (.cons b6_5 (.cons b6_5 (.cons b6_5 (.cons b6_5 (.cons b6_5 (.cons b6_5 (.cons b6_5 (.cons b6_5 (.cons b6_5 (.cons b6_5 (.cons b6_5 (.cons b6_4 (.cons b6_5 (.cons b6_4 (.cons (Eq.refl false) (.cons (Eq.refl false) (.cons (Eq.refl false) (.cons (c_ix (e := TVersion.en) a6_7 e6_8) (.cons (c_el (e := TVersion.en) e6_8) (.cons (Eq.refl false) (.cons (Eq.refl false) (.cons (Eq.refl false) (.cons (Eq.refl false) (.cons (Eq.refl false) (.cons b6_9 (.cons b6_9 (.cons b6_9 (.cons (c_ix (e := TVersion.en) a6_11 e6_12) (.cons (c_el (e := TVersion.en) e6_12) (.cons b6_9 (.cons b6_9 (.cons b6_9 (.cons b6_13 (.cons b6_13 (.cons b6_13 (.cons b6_13 (.cons b6_13 (.cons b6_13 (.cons b6_9 (.cons b6_13 (.cons b6_9 (.cons (Eq.refl true) .nil)))))))))))))))))))))))))))))))))))))))))))))))) (by kernel_rfl) ?_
              refine WK.ce (b := false) (by kernel_rfl) rfl ?_
              refine WK.skip (by kernel_rfl) ?_
              refine WKe.code (y := (cR (cR (cB (cB (cR (cL (cR bd10)))))))) (ks' := [.lp (cB (cR (cL (cR bd10))))]) (by kernel_rfl) ?_
              refine WK.rc (g := []) (l' := [(.t 0, [.data (.slc false none 3 (List.map TVersion.en l3_0))]), (.t 3, [iv (w64 (l3_1 + 1))])]) .nil (by kernel_rfl) (y := (cB (cR (cL (cR bd10))))) (ks' := []) (by kernel_rfl) ?_
              exact WK.weak (l := [(.t 0, [.data (.slc false none 3 (List.map TVersion.en l3_0))]), (.t 3, [iv (w64 (l3_1 + 1))])]) (wk_of (by kernel_rfl)) (ih (w64 (l3_1 + 1)) _ h)
    · refine WK.ce (b := (decide (l3_1 < (l3_0.length : Int)))) (by kernel_rfl) b5_0 ?_
      refine WK.weak (l := []) (wk_of (by kernel_rfl)) ?_
      refine WK.exit (n := 0) (by kernel_rfl) ?_
      cases some_inj h
      exact WKe.fin (e' := .exit 0) (by kernel_rfl) ⟨rfl, rfl⟩
noncomputable def diwanref13_MayChain (fu : Nat) (l : List TVersion) : Option Bool :=
  bd (diwanref13_MayChain.lp3 fu l fu 0) fun o_ => (match o_ with
  | .inl _ =>
    some true
  | .inr _ =>
    some false)
theorem diwanref13_MayChain.meets (fu : Nat) (l : List TVersion) (z0 : Bool) (h : diwanref13_MayChain fu l = some z0) : Meets Try.prog ⟨10, [.data (.slc false none 3 (List.map TVersion.en l))], []⟩ ⟨bv z0, []⟩ := by
  refine meets_of (O := diwanref13_MayChain.O) hmix (fn := Try.f10) (code := bd10) (by kernel_rfl) ?_
  refine WK.weak (l := [(.t 0, [.data (.slc false none 3 (List.map TVersion.en l))])]) (wk_of (by kernel_rfl)) ?_
  unfold diwanref13_MayChain at h
  refine WK.rs (g := []) (l' := [(.t 0, [.data (.slc false none 3 (List.map TVersion.en l))])]) (by kernel_rfl) .nil (by kernel_rfl) ?_
  refine WK.seq (by kernel_rfl) ?_
  refine WK.rs (g := []) (l' := [(.t 0, [.data (.slc false none 3 (List.map TVersion.en l))]), (.t 3, [iv 0])]) (by kernel_rfl) .nil (by kernel_rfl) ?_
  refine WK.block (n := 0) (by kernel_rfl) ?_
  obtain ⟨o19, ho19, h⟩ := bd_inv h
  refine WK.weak (l := [(.t 0, [.data (.slc false none 3 (List.map TVersion.en l))]), (.t 3, [iv 0])]) (wk_of (by kernel_rfl)) ?_
  refine WK.use (diwanref13_MayChain.lp3_ok fu l _ 0 _ ho19) ?_
  intro e_ τ_ hp_
  rcases o19 with o19 | o19
  · obtain ⟨⟩ := o19
    obtain ⟨rfl, rfl⟩ := hp_
    refine WKe.code (y := (cR (cR bd10))) (ks' := []) (by kernel_rfl) ?_
    refine WK.rs (g := []) (l' := [(.t 2, [bv true])]) (by kernel_rfl) .nil (by kernel_rfl) ?_
    refine WK.weak (l := [(.t 2, [bv true])]) (wk_of (by kernel_rfl)) ?_
    refine WK.ret (by kernel_rfl) ?_
    cases some_inj h
    exact WKe.fin (e' := .ret) (by kernel_rfl) (fin_of (g := []) (by first | exact .inl rfl | exact .inr rfl) .nil (by kernel_rfl))
  · obtain ⟨⟩ := o19
    obtain ⟨rfl, rfl⟩ := hp_
    cases some_inj h
    exact WKe.fin (e' := .ret) (by kernel_rfl) (fin_of (g := []) (by first | exact .inl rfl | exact .inr rfl) .nil (by kernel_rfl))
/-- diwan/diwanref13.At -/
noncomputable def bd12 : Code := (Try.f12.body).getD .skip
def diwanref13_At.O : Nat → Nat := fun t => bif ([4, 5, 6, 25] : List Nat).any (Nat.beq t) then 1 else 0
noncomputable def diwanref13_At.lp3 (fu : Nat) (l3_0 : List TVersion) (l3_1 : Int) (l3_3 : TVersion) : Nat → Int → Option (Unit ⊕ TVersion)
  | 0, _ => none
  | n_ + 1, l3_2 =>
    br (decide (l3_2 ≥ 0))
      (ix l3_0 l3_2 fun x6_1 =>
      br (decide (x6_1.Pos ≤ l3_1))
        (ix l3_0 l3_2 fun x8_1 =>
        some (.inr x8_1))
        (diwanref13_At.lp3 fu l3_0 l3_1 l3_3 n_ (w64 (l3_2 - 1))))
      (some (.inl ()))
noncomputable def diwanref13_At.lp3_post (l3_0 : List TVersion) (l3_1 : Int) (l3_3 : TVersion) (r_ : (Unit ⊕ TVersion)) : Wy → St → Prop := fun e τ => match r_ with
  | .inl _ => e = .exit 0 ∧ τ = ofL [(.t 4, [.ptr 4 0]), (.o 4, [iv l3_3.Pos, sv l3_3.Val, bv l3_3.Gone])]
  | .inr y0 => e = .ret ∧ τ = ofL [(.t 4, [.ptr 4 0]), (.t 5, [bv true]), (.o 4, [iv y0.Pos, sv y0.Val, bv y0.Gone])]
theorem diwanref13_At.lp3_ok (fu : Nat) (l3_0 : List TVersion) (l3_1 : Int) (l3_3 : TVersion) : ∀ (n_ : Nat) (l3_2 : Int) (r_ : (Unit ⊕ TVersion)), diwanref13_At.lp3 fu l3_0 l3_1 l3_3 n_ l3_2 = some r_ → WK Try.prog diwanref13_At.O (Ck Try.prog) (cB (cR (cL (cR bd12)))) [] (ofL [(.t 0, [.data (.slc false none 3 (List.map TVersion.en l3_0))]), (.t 1, [iv l3_1]), (.t 4, [.ptr 4 0]), (.t 6, [iv l3_2]), (.o 4, [iv l3_3.Pos, sv l3_3.Val, bv l3_3.Gone])]) (diwanref13_At.lp3_post l3_0 l3_1 l3_3 r_) := by
  intro n_
  induction n_ with
  | zero => intro l3_2 r_ h; exact no_none h
  | succ n_ ih =>
    intro l3_2 r_ h
    refine WK.loop (by kernel_rfl) ?_
    refine WK.seq (by kernel_rfl) ?_
    refine WK.rs (g := []) (l' := [(.t 0, [.data (.slc false none 3 (List.map TVersion.en l3_0))]), (.t 1, [iv l3_1]), (.t 4, [.ptr 4 0]), (.t 6, [iv l3_2]), (.t 11, [bv (decide (l3_2 ≥ 0))]), (.o 4, [iv l3_3.Pos, sv l3_3.Val, bv l3_3.Gone])]) (by kernel_rfl) .nil (by kernel_rfl) ?_
    rcases br_inv h with ⟨b5_0, h⟩ | ⟨b5_0, h⟩
    · refine WK.ct (b := (decide (l3_2 ≥ 0))) (by kernel_rfl) b5_0 ?_
      refine WK.skip (by kernel_rfl) ?_
      refine WKe.code (y := (cR (cB (cB (cR (cL (cR bd12))))))) (ks' := [.lp (cB (cR (cL (cR bd12))))]) (by kernel_rfl) ?_
      refine WK.seq (by kernel_rfl) ?_
      refine WK.block (n := 1) (by kernel_rfl) ?_
      obtain ⟨x6_1, a6_2, e6_3, h⟩ := ix_inv h
      refine WK.rs (g := [.c (TVersion.en x6_1)]) (l' := [(.t 0, [.data (.slc false none 3 (List.map TVersion.en l3_0))]), (.t 1, [iv l3_1]), (.t 4, [.ptr 4 0]), (.t 6, [iv l3_2]), (.t 20, [bv (decide (x6_1.Pos ≤ l3_1))]), (.o 4, [iv l3_3.Pos, sv l3_3.Val, bv l3_3.Gone])]) (by kernel_rfl) (.cons (c_ix (e := TVersion.en) a6_2 e6_3) (.cons (c_el (e := TVersion.en) e6_3) .nil)) (by kernel_rfl) ?_
      rcases br_inv h with ⟨b7_0, h⟩ | ⟨b7_0, h⟩
      · refine WK.ct (b := (decide (x6_1.Pos ≤ l3_1))) (by kernel_rfl) b7_0 ?_
        obtain ⟨x8_1, a8_2, e8_3, h⟩ := ix_inv h
        refine WK.rs (g := [.c (TVersion.en x8_1)]) (l' := [(.t 4, [.ptr 4 0]), (.t 5, [bv true]), (.o 4, [iv x8_1.Pos, sv x8_1.Val, bv x8_1.Gone])]) (by kernel_rfl) (.cons (c_ix (e := TVersion.en) a8_2 e8_3) (.cons (c_el (e := TVersion.en) e8_3) .nil)) (by kernel_rfl) ?_
        refine WK.weak (l := [(.t 4, [.ptr 4 0]), (.t 5, [bv true]), (.o 4, [iv x8_1.Pos, sv x8_1.Val, bv x8_1.Gone])]) (wk_of (by kernel_rfl)) ?_
        refine WK.ret (by kernel_rfl) ?_
        cases some_inj h
        exact WKe.fin (e' := .ret) (by kernel_rfl) ⟨rfl, rfl⟩
      · refine WK.ce (b := (decide (x6_1.Pos ≤ l3_1))) (by kernel_rfl) b7_0 ?_
        refine WK.skip (by kernel_rfl) ?_
        refine WKe.code (y := (cR (cR (cB (cB (cR (cL (cR bd12)))))))) (ks' := [.lp (cB (cR (cL (cR bd12))))]) (by kernel_rfl) ?_
        refine WK.rc (g := []) (l' := [(.t 0, [.data (.slc false none 3 (List.map TVersion.en l3_0))]), (.t 1, [iv l3_1]), (.t 4, [.ptr 4 0]), (.t 6, [iv (w64 (l3_2 - 1))]), (.o 4, [iv l3_3.Pos, sv l3_3.Val, bv l3_3.Gone])]) .nil (by kernel_rfl) (y := (cB (cR (cL (cR bd12))))) (ks' := []) (by kernel_rfl) ?_
        exact WK.weak (l := [(.t 0, [.data (.slc false none 3 (List.map TVersion.en l3_0))]), (.t 1, [iv l3_1]), (.t 4, [.ptr 4 0]), (.t 6, [iv (w64 (l3_2 - 1))]), (.o 4, [iv l3_3.Pos, sv l3_3.Val, bv l3_3.Gone])]) (wk_of (by kernel_rfl)) (ih (w64 (l3_2 - 1)) _ h)
    · refine WK.ce (b := (decide (l3_2 ≥ 0))) (by kernel_rfl) b5_0 ?_
      refine WK.weak (l := [(.t 4, [.ptr 4 0]), (.o 4, [iv l3_3.Pos, sv l3_3.Val, bv l3_3.Gone])]) (wk_of (by kernel_rfl)) ?_
      refine WK.exit (n := 0) (by kernel_rfl) ?_
      cases some_inj h
      exact WKe.fin (e' := .exit 0) (by kernel_rfl) ⟨rfl, rfl⟩
noncomputable def diwanref13_At (fu : Nat) (l : List TVersion) (pos : Int) : Option (Bool × TVersion) :=
  bd (diwanref13_At.lp3 fu l pos (TVersion.mk 0 ByteArray.empty false) fu (w64 ((l.length : Int) - 1))) fun o_ => (match o_ with
  | .inl _ =>
    some (false, (TVersion.mk 0 ByteArray.empty false))
  | .inr y10_0 =>
    some (true, y10_0))
theorem diwanref13_At.meets (fu : Nat) (l : List TVersion) (pos : Int) (z0 : Bool) (z1 : TVersion) (h : diwanref13_At fu l pos = some (z0, z1)) : Meets Try.prog ⟨12, [.data (.slc false none 3 (List.map TVersion.en l)), iv pos], []⟩ ⟨.tup [.data (.agg [.val (.int .i64 z1.Pos), .val (.string z1.Val), .val (.bool z1.Gone)]), bv z0], []⟩ := by
  refine meets_of (O := diwanref13_At.O) hmix (fn := Try.f12) (code := bd12) (by kernel_rfl) ?_
  refine WK.weak (l := [(.t 0, [.data (.slc false none 3 (List.map TVersion.en l))]), (.t 1, [iv pos])]) (wk_of (by kernel_rfl)) ?_
  unfold diwanref13_At at h
  refine WK.rs (g := []) (l' := [(.t 0, [.data (.slc false none 3 (List.map TVersion.en l))]), (.t 1, [iv pos]), (.t 4, [.ptr 4 0]), (.o 4, [iv 0, sv ByteArray.empty, bv false])]) (by kernel_rfl) .nil (by kernel_rfl) ?_
  refine WK.seq (by kernel_rfl) ?_
  refine WK.rs (g := [.s (.t 8) [iv (l.length : Int)]]) (l' := [(.t 0, [.data (.slc false none 3 (List.map TVersion.en l))]), (.t 1, [iv pos]), (.t 4, [.ptr 4 0]), (.t 6, [iv (w64 ((l.length : Int) - 1))]), (.o 4, [iv 0, sv ByteArray.empty, bv false])]) (by kernel_rfl) (.cons (c_len (e := TVersion.en) (l := l)) .nil) (by kernel_rfl) ?_
  refine WK.block (n := 0) (by kernel_rfl) ?_
  obtain ⟨o10, ho10, h⟩ := bd_inv h
  refine WK.weak (l := [(.t 0, [.data (.slc false none 3 (List.map TVersion.en l))]), (.t 1, [iv pos]), (.t 4, [.ptr 4 0]), (.t 6, [iv (w64 ((l.length : Int) - 1))]), (.o 4, [iv ((TVersion.mk 0 ByteArray.empty false).Pos), sv ((TVersion.mk 0 ByteArray.empty false).Val), bv ((TVersion.mk 0 ByteArray.empty false).Gone)])]) (wk_of (by kernel_rfl)) ?_
  refine WK.use (diwanref13_At.lp3_ok fu l pos (TVersion.mk 0 ByteArray.empty false) _ (w64 ((l.length : Int) - 1)) _ ho10) ?_
  intro e_ τ_ hp_
  rcases o10 with o10 | o10
  · obtain ⟨⟩ := o10
    obtain ⟨rfl, rfl⟩ := hp_
    refine WKe.code (y := (cR (cR bd12))) (ks' := []) (by kernel_rfl) ?_
    refine WK.rs (g := []) (l' := [(.t 4, [.ptr 4 0]), (.t 5, [bv false]), (.o 4, [iv 0, sv ByteArray.empty, bv false])]) (by kernel_rfl) .nil (by kernel_rfl) ?_
    refine WK.weak (l := [(.t 4, [.ptr 4 0]), (.t 5, [bv false]), (.o 4, [iv ((TVersion.mk 0 ByteArray.empty false).Pos), sv ((TVersion.mk 0 ByteArray.empty false).Val), bv ((TVersion.mk 0 ByteArray.empty false).Gone)])]) (wk_of (by kernel_rfl)) ?_
    refine WK.ret (by kernel_rfl) ?_
    cases some_inj h
    exact WKe.fin (e' := .ret) (by kernel_rfl) (fin_of (g := []) (by first | exact .inl rfl | exact .inr rfl) .nil (by kernel_rfl))
  · obtain ⟨y10_0, rfl⟩ : ∃ y, y = o10 := ⟨_, rfl⟩
    obtain ⟨rfl, rfl⟩ := hp_
    cases some_inj h
    exact WKe.fin (e' := .ret) (by kernel_rfl) (fin_of (g := []) (by first | exact .inl rfl | exact .inr rfl) .nil (by kernel_rfl))
/-- diwan/diwanref13.TrimChain -/
noncomputable def bd15 : Code := (Try.f15.body).getD .skip
def diwanref13_TrimChain.O : Nat → Nat := fun t => bif ([4, 5, 6] : List Nat).any (Nat.beq t) then 1 else 0
noncomputable def diwanref13_TrimChain.lp4 (fu : Nat) (l4_0 : List TVersion) (l4_1 : Int) : Nat → (List TVersion) → Int → Option (List TVersion)
  | 0, _, _ => none
  | n_ + 1, l4_2, l4_3 =>
    br (decide (l4_3 < (l4_0.length : Int)))
      (jn (
        ix l4_0 l4_3 fun x11_1 =>
        gd (decide (l4_2.length + ([x11_1] : List TVersion).length ≤ 4294967296)) <|
        diwanref13_TrimChain.lp4 fu l4_0 l4_1 n_ (l4_2 ++ ([x11_1] : List TVersion)) (w64 (l4_3 + 1))) fun k10 =>
      br (decide ((w64 (l4_3 + 1)) < (l4_0.length : Int)))
        (ix l4_0 (w64 (l4_3 + 1)) fun x7_2 =>
        br (decide (x7_2.Pos ≤ l4_1))
          (diwanref13_TrimChain.lp4 fu l4_0 l4_1 n_ l4_2 (w64 (l4_3 + 1)))
          (k10))
        (k10))
      (some l4_2)
noncomputable def diwanref13_TrimChain.lp4_post (l4_0 : List TVersion) (l4_1 : Int) (r_ : (List TVersion)) : Wy → St → Prop := fun e τ => match r_ with
  | y0 => e = .exit 0 ∧ τ = ofL [(.t 5, [.data (.slc true none 3 (List.map TVersion.en y0))])]
theorem diwanref13_TrimChain.lp4_ok (fu : Nat) (l4_0 : List TVersion) (l4_1 : Int) : ∀ (n_ : Nat) (l4_2 : List TVersion) (l4_3 : Int) (r_ : (List TVersion)), diwanref13_TrimChain.lp4 fu l4_0 l4_1 n_ l4_2 l4_3 = some r_ → WK Try.prog diwanref13_TrimChain.O (Ck Try.prog) (cB (cR (cL (cR (cR bd15))))) [] (ofL [(.t 0, [.data (.slc false none 3 (List.map TVersion.en l4_0))]), (.t 1, [iv l4_1]), (.t 5, [.data (.slc true none 3 (List.map TVersion.en l4_2))]), (.t 6, [iv l4_3])]) (diwanref13_TrimChain.lp4_post l4_0 l4_1 r_) := by
  intro n_
  induction n_ with
  | zero => intro l4_2 l4_3 r_ h; exact no_none h
  | succ n_ ih =>
    intro l4_2 l4_3 r_ h
    refine WK.loop (by kernel_rfl) ?_
    refine WK.seq (by kernel_rfl) ?_
    refine WK.rs (g := [.s (.t 9) [iv (l4_0.length : Int)]]) (l' := [(.t 0, [.data (.slc false none 3 (List.map TVersion.en l4_0))]), (.t 1, [iv l4_1]), (.t 5, [.data (.slc true none 3 (List.map TVersion.en l4_2))]), (.t 6, [iv l4_3]), (.t 10, [bv (decide (l4_3 < (l4_0.length : Int)))])]) (by kernel_rfl) (.cons (c_len (e := TVersion.en) (l := l4_0)) .nil) (by kernel_rfl) ?_
    rcases br_inv h with ⟨b6_0, h⟩ | ⟨b6_0, h⟩
    · refine WK.ct (b := (decide (l4_3 < (l4_0.length : Int)))) (by kernel_rfl) b6_0 ?_
      refine WK.skip (by kernel_rfl) ?_
      refine WKe.code (y := (cR (cB (cB (cR (cL (cR (cR bd15)))))))) (ks' := [.lp (cB (cR (cL (cR (cR bd15)))))]) (by kernel_rfl) ?_
      refine WK.seq (by kernel_rfl) ?_
      refine WK.block (n := 1) (by kernel_rfl) ?_
      obtain ⟨k10, hk10, h⟩ := jn_inv h
      have Jk10 : k10 = some r_ → WK Try.prog diwanref13_TrimChain.O (Ck Try.prog) (cR (cB (cL (cR (cB (cB (cR (cL (cR (cR bd15)))))))))) [.blk 1, .seq (cR (cR (cB (cB (cR (cL (cR (cR bd15)))))))), .lp (cB (cR (cL (cR (cR bd15)))))] (ofL [(.t 0, [.data (.slc false none 3 (List.map TVersion.en l4_0))]), (.t 1, [iv l4_1]), (.t 5, [.data (.slc true none 3 (List.map TVersion.en l4_2))]), (.t 6, [iv l4_3])]) (diwanref13_TrimChain.lp4_post l4_0 l4_1 r_) := by
        intro h
        rw [hk10] at h
        obtain ⟨x11_1, a11_2, e11_3, h⟩ := ix_inv h
        obtain ⟨c11_4, h⟩ := gd_inv h
        refine WK.rc (g := [.c (TVersion.en x11_1), .s (.t 34) [.data (.slc true none 3 (List.map TVersion.en (l4_2 ++ ([x11_1] : List TVersion))))]]) (l' := [(.t 0, [.data (.slc false none 3 (List.map TVersion.en l4_0))]), (.t 1, [iv l4_1]), (.t 5, [.data (.slc true none 3 (List.map TVersion.en (l4_2 ++ ([x11_1] : List TVersion))))]), (.t 6, [iv l4_3])]) (.cons (c_ix (e := TVersion.en) a11_2 e11_3) (.cons (c_el (e := TVersion.en) e11_3) (.cons (c_al (e := TVersion.en) (f := TVersion.en) c11_4) (.cons (congrArg (fun d : DV => [AV.data d]) (c_app (e := TVersion.en) (s := 3) (l := l4_2) (m := ([x11_1] : List TVersion)))) .nil)))) (by kernel_rfl) (y := (cR (cR (cB (cB (cR (cL (cR (cR bd15))))))))) (ks' := [.lp (cB (cR (cL (cR (cR bd15)))))]) (by kernel_rfl) ?_
        refine WK.rc (g := []) (l' := [(.t 0, [.data (.slc false none 3 (List.map TVersion.en l4_0))]), (.t 1, [iv l4_1]), (.t 5, [.data (.slc true none 3 (List.map TVersion.en (l4_2 ++ ([x11_1] : List TVersion))))]), (.t 6, [iv (w64 (l4_3 + 1))])]) .nil (by kernel_rfl) (y := (cB (cR (cL (cR (cR bd15)))))) (ks' := []) (by kernel_rfl) ?_
        exact WK.weak (l := [(.t 0, [.data (.slc false none 3 (List.map TVersion.en l4_0))]), (.t 1, [iv l4_1]), (.t 5, [.data (.slc true none 3 (List.map TVersion.en (l4_2 ++ ([x11_1] : List TVersion))))]), (.t 6, [iv (w64 (l4_3 + 1))])]) (wk_of (by kernel_rfl)) (ih (l4_2 ++ ([x11_1] : List TVersion)) (w64 (l4_3 + 1)) _ h)
      clear hk10
      refine WK.seq (by kernel_rfl) ?_
      rcases br_inv h with ⟨b7_1, h⟩ | ⟨b7_1, h⟩
      · obtain ⟨x7_2, a7_3, e7_4, h⟩ := ix_inv h
        refine WK.rs (g := [.s (.t 16) [iv (l4_0.length : Int)], .b true, .b true, .b true, .b true, .c (TVersion.en x7_2), .b true, .b true, .b true, .b true, .b true]) (l' := [(.t 0, [.data (.slc false none 3 (List.map TVersion.en l4_0))]), (.t 1, [iv l4_1]), (.t 5, [.data (.slc true none 3 (List.map TVersion.en l4_2))]), (.t 6, [iv l4_3]), (.t 27, [bv (decide (x7_2.Pos ≤ l4_1))])]) (by kernel_rfl) (.cons (c_len (e := TVersion.en) (l := l4_0)) (.cons b7_1 (.cons b7_1 (.cons b7_1 (.cons b7_1 (.cons (c_ix (e := TVersion.en) a7_3 e7_4) (.cons (c_el (e := TVersion.en) e7_4) (.cons b7_1 (.cons b7_1 (.cons b7_1 (.cons b7_1 (.cons b7_1 .nil)))))))))))) (by kernel_rfl) ?_
        rcases br_inv h with ⟨b8_0, h⟩ | ⟨b8_0, h⟩
        · refine WK.ct (b := (decide (x7_2.Pos ≤ l4_1))) (by kernel_rfl) b8_0 ?_
          refine WK.exit (n := 1) (by kernel_rfl) ?_
          refine WKe.code (y := (cR (cR (cB (cB (cR (cL (cR (cR bd15))))))))) (ks' := [.lp (cB (cR (cL (cR (cR bd15)))))]) (by kernel_rfl) ?_
          refine WK.rc (g := []) (l' := [(.t 0, [.data (.slc false none 3 (List.map TVersion.en l4_0))]), (.t 1, [iv l4_1]), (.t 5, [.data (.slc true none 3 (List.map TVersion.en l4_2))]), (.t 6, [iv (w64 (l4_3 + 1))])]) .nil (by kernel_rfl) (y := (cB (cR (cL (cR (cR bd15)))))) (ks' := []) (by kernel_rfl) ?_
          exact WK.weak (l := [(.t 0, [.data (.slc false none 3 (List.map TVersion.en l4_0))]), (.t 1, [iv l4_1]), (.t 5, [.data (.slc true none 3 (List.map TVersion.en l4_2))]), (.t 6, [iv (w64 (l4_3 + 1))])]) (wk_of (by kernel_rfl)) (ih l4_2 (w64 (l4_3 + 1)) _ h)
        · refine WK.ce (b := (decide (x7_2.Pos ≤ l4_1))) (by kernel_rfl) b8_0 ?_
          refine WK.skip (by kernel_rfl) ?_
          refine WKe.code (y := (cR (cB (cL (cR (cB (cB (cR (cL (cR (cR bd15))))))))))) (ks' := [.blk 1, .seq (cR (cR (cB (cB (cR (cL (cR (cR bd15)))))))), .lp (cB (cR (cL (cR (cR bd15)))))]) (by kernel_rfl) ?_
          exact WK.weak (l := [(.t 0, [.data (.slc false none 3 (List.map TVersion.en l4_0))]), (.t 1, [iv l4_1]), (.t 5, [.data (.slc true none 3 (List.map TVersion.en l4_2))]), (.t 6, [iv l4_3])]) (wk_of (by kernel_rfl)) (Jk10 h)
      · refine WK.rs (g := [.s (.t 16) [iv (l4_0.length : Int)], .b false, .b false, .b false, .b false, .b false, .b false, .b false, .b false, .b false]) (l' := [(.t 0, [.data (.slc false none 3 (List.map TVersion.en l4_0))]), (.t 1, [iv l4_1]), (.t 5, [.data (.slc true none 3 (List.map TVersion.en l4_2))]), (.t 6, [iv l4_3]), (.t 27, [bv false])]) (by kernel_rfl) (.cons (c_len (e := TVersion.en) (l := l4_0)) (.cons b7_1 (.cons b7_1 (.cons b7_1 (.cons b7_1 (.cons b7_1 (.cons b7_1 (.cons b7_1 (.cons b7_1 (.cons b7_1 .nil)))))))))) (by kernel_rfl) ?_
        refine WK.ce (b := false) (by kernel_rfl) rfl ?_
        refine WK.skip (by kernel_rfl) ?_
        refine WKe.code (y := (cR (cB (cL (cR (cB (cB (cR (cL (cR (cR bd15))))))))))) (ks' := [.blk 1, .seq (cR (cR (cB (cB (cR (cL (cR (cR bd15)))))))), .lp (cB (cR (cL (cR (cR bd15)))))]) (by kernel_rfl) ?_
        exact WK.weak (l := [(.t 0, [.data (.slc false none 3 (List.map TVersion.en l4_0))]), (.t 1, [iv l4_1]), (.t 5, [.data (.slc true none 3 (List.map TVersion.en l4_2))]), (.t 6, [iv l4_3])]) (wk_of (by kernel_rfl)) (Jk10 h)
    · refine WK.ce (b := (decide (l4_3 < (l4_0.length : Int)))) (by kernel_rfl) b6_0 ?_
      refine WK.weak (l := [(.t 5, [.data (.slc true none 3 (List.map TVersion.en l4_2))])]) (wk_of (by kernel_rfl)) ?_
      refine WK.exit (n := 0) (by kernel_rfl) ?_
      cases some_inj h
      exact WKe.fin (e' := .exit 0) (by kernel_rfl) ⟨rfl, rfl⟩
noncomputable def diwanref13_TrimChain (fu : Nat) (l : List TVersion) (mark : Int) : Option (List TVersion) :=
  bd (diwanref13_TrimChain.lp4 fu l mark fu [] 0) fun y13_0 =>
  some y13_0
theorem diwanref13_TrimChain.meets (fu : Nat) (l : List TVersion) (mark : Int) (z0 : List TVersion) (h : diwanref13_TrimChain fu l mark = some z0) : Meets Try.prog ⟨15, [.data (.slc false none 3 (List.map TVersion.en l)), iv mark], []⟩ ⟨.data (.slc true none 3 (List.map TVersion.en z0)), []⟩ := by
  refine meets_of (O := diwanref13_TrimChain.O) hmix (fn := Try.f15) (code := bd15) (by kernel_rfl) ?_
  refine WK.weak (l := [(.t 0, [.data (.slc false none 3 (List.map TVersion.en l))]), (.t 1, [iv mark])]) (wk_of (by kernel_rfl)) ?_
  unfold diwanref13_TrimChain at h
  refine WK.rs (g := []) (l' := [(.t 0, [.data (.slc false none 3 (List.map TVersion.en l))]), (.t 1, [iv mark])]) (by kernel_rfl) .nil (by kernel_rfl) ?_
  refine WK.rs (g := []) (l' := [(.t 0, [.data (.slc false none 3 (List.map TVersion.en l))]), (.t 1, [iv mark]), (.t 5, [.data (.slc true (some true) 3 (List.map TVersion.en []))])]) (by kernel_rfl) .nil (by kernel_rfl) ?_
  refine WK.seq (by kernel_rfl) ?_
  refine WK.rs (g := []) (l' := [(.t 0, [.data (.slc false none 3 (List.map TVersion.en l))]), (.t 1, [iv mark]), (.t 5, [.data (.slc true (some true) 3 (List.map TVersion.en []))]), (.t 6, [iv 0])]) (by kernel_rfl) .nil (by kernel_rfl) ?_
  refine WK.block (n := 0) (by kernel_rfl) ?_
  obtain ⟨o13, ho13, h⟩ := bd_inv h
  refine WK.weak (l := [(.t 0, [.data (.slc false none 3 (List.map TVersion.en l))]), (.t 1, [iv mark]), (.t 5, [.data (.slc true none 3 (List.map TVersion.en []))]), (.t 6, [iv 0])]) (wk_of (by kernel_rfl)) ?_
  refine WK.use (diwanref13_TrimChain.lp4_ok fu l mark _ [] 0 _ ho13) ?_
  intro e_ τ_ hp_
  obtain ⟨y13_0, rfl⟩ : ∃ y, y = o13 := ⟨_, rfl⟩
  obtain ⟨rfl, rfl⟩ := hp_
  refine WKe.code (y := (cR (cR (cR bd15)))) (ks' := []) (by kernel_rfl) ?_
  refine WK.rs (g := []) (l' := [(.t 4, [.data (.slc true none 3 (List.map TVersion.en y13_0))])]) (by kernel_rfl) .nil (by kernel_rfl) ?_
  refine WK.weak (l := [(.t 4, [.data (.slc true none 3 (List.map TVersion.en y13_0))])]) (wk_of (by kernel_rfl)) ?_
  refine WK.ret (by kernel_rfl) ?_
  cases some_inj h
  exact WKe.fin (e' := .ret) (by kernel_rfl) (fin_of (g := []) (by first | exact .inl rfl | exact .inr rfl) .nil (by kernel_rfl))
/-- diwan/diwanref13.SameChain -/
noncomputable def bd13 : Code := (Try.f13.body).getD .skip
def diwanref13_SameChain.O : Nat → Nat := fun t => bif ([4, 5] : List Nat).any (Nat.beq t) then 1 else 0
noncomputable def diwanref13_SameChain.lp6 (fu : Nat) (l6_0 : List TVersion) (l6_1 : List TVersion) : Nat → Int → Option (Unit ⊕ Unit)
  | 0, _ => none
  | n_ + 1, l6_2 =>
    br (decide (l6_2 < (l6_0.length : Int)))
      (ix l6_0 l6_2 fun x9_1 =>
      ix l6_1 l6_2 fun x9_4 =>
      br (!((x9_1.Pos == x9_4.Pos) && ((x9_1.Val.toList == x9_4.Val.toList) && ((x9_1.Gone == x9_4.Gone) && true))))
        (some (.inr ()))
        (diwanref13_SameChain.lp6 fu l6_0 l6_1 n_ (w64 (l6_2 + 1))))
      (some (.inl ()))
noncomputable def diwanref13_SameChain.lp6_post (l6_0 : List TVersion) (l6_1 : List TVersion) (r_ : (Unit ⊕ Unit)) : Wy → St → Prop := fun e τ => match r_ with
  | .inl _ => e = .exit 0 ∧ τ = ofL []
  | .inr _ => e = .ret ∧ τ = ofL [(.t 4, [bv false])]
theorem diwanref13_SameChain.lp6_ok (fu : Nat) (l6_0 : List TVersion) (l6_1 : List TVersion) : ∀ (n_ : Nat) (l6_2 : Int) (r_ : (Unit ⊕ Unit)), diwanref13_SameChain.lp6 fu l6_0 l6_1 n_ l6_2 = some r_ → WK Try.prog diwanref13_SameChain.O (Ck Try.prog) (cB (cR (cL (cR (cR bd13))))) [] (ofL [(.t 0, [.data (.slc false none 3 (List.map TVersion.en l6_0))]), (.t 1, [.data (.slc false none 3 (List.map TVersion.en l6_1))]), (.t 5, [iv l6_2])]) (diwanref13_SameChain.lp6_post l6_0 l6_1 r_) := by
  intro n_
  induction n_ with
  | zero => intro l6_2 r_ h; exact no_none h
  | succ n_ ih =>
    intro l6_2 r_ h
    refine WK.loop (by kernel_rfl) ?_
    refine WK.seq (by kernel_rfl) ?_
    refine WK.rs (g := [.s (.t 13) [iv (l6_0.length : Int)]]) (l' := [(.t 0, [.data (.slc false none 3 (List.map TVersion.en l6_0))]), (.t 1, [.data (.slc false none 3 (List.map TVersion.en l6_1))]), (.t 5, [iv l6_2]), (.t 14, [bv (decide (l6_2 < (l6_0.length : Int)))])]) (by kernel_rfl) (.cons (c_len (e := TVersion.en) (l := l6_0)) .nil) (by kernel_rfl) ?_
    rcases br_inv h with ⟨b8_0, h⟩ | ⟨b8_0, h⟩
    · refine WK.ct (b := (decide (l6_2 < (l6_0.length : Int)))) (by kernel_rfl) b8_0 ?_
      refine WK.skip (by kernel_rfl) ?_
      refine WKe.code (y := (cR (cB (cB (cR (cL (cR (cR bd13)))))))) (ks' := [.lp (cB (cR (cL (cR (cR bd13)))))]) (by kernel_rfl) ?_
      refine WK.seq (by kernel_rfl) ?_
      refine WK.block (n := 1) (by kernel_rfl) ?_
      obtain ⟨x9_1, a9_2, e9_3, h⟩ := ix_inv h
      obtain ⟨x9_4, a9_5, e9_6, h⟩ := ix_inv h
      refine WK.rs (g := [.c (TVersion.en x9_1), .c (TVersion.en x9_4)]) (l' := [(.t 0, [.data (.slc false none 3 (List.map TVersion.en l6_0))]), (.t 1, [.data (.slc false none 3 (List.map TVersion.en l6_1))]), (.t 5, [iv l6_2]), (.t 25, [bv (!((x9_1.Pos == x9_4.Pos) && ((x9_1.Val.toList == x9_4.Val.toList) && ((x9_1.Gone == x9_4.Gone) && true))))])]) (by kernel_rfl) (.cons (c_ix (e := TVersion.en) a9_2 e9_3) (.cons (c_el (e := TVersion.en) e9_3) (.cons (c_ix (e := TVersion.en) a9_5 e9_6) (.cons (c_el (e := TVersion.en) e9_6) (.cons (Eq.refl true) .nil))))) (by kernel_rfl) ?_
      rcases br_inv h with ⟨b10_0, h⟩ | ⟨b10_0, h⟩
      · refine WK.ct (b := (!((x9_1.Pos == x9_4.Pos) && ((x9_1.Val.toList == x9_4.Val.toList) && ((x9_1.Gone == x9_4.Gone) && true))))) (by kernel_rfl) b10_0 ?_
        refine WK.rs (g := []) (l' := [(.t 4, [bv false])]) (by kernel_rfl) .nil (by kernel_rfl) ?_
        refine WK.weak (l := [(.t 4, [bv false])]) (wk_of (by kernel_rfl)) ?_
        refine WK.ret (by kernel_rfl) ?_
        cases some_inj h
        exact WKe.fin (e' := .ret) (by kernel_rfl) ⟨rfl, rfl⟩
      · refine WK.ce (b := (!((x9_1.Pos == x9_4.Pos) && ((x9_1.Val.toList == x9_4.Val.toList) && ((x9_1.Gone == x9_4.Gone) && true))))) (by kernel_rfl) b10_0 ?_
        refine WK.skip (by kernel_rfl) ?_
        refine WKe.code (y := (cR (cR (cB (cB (cR (cL (cR (cR bd13))))))))) (ks' := [.lp (cB (cR (cL (cR (cR bd13)))))]) (by kernel_rfl) ?_
        refine WK.rc (g := []) (l' := [(.t 0, [.data (.slc false none 3 (List.map TVersion.en l6_0))]), (.t 1, [.data (.slc false none 3 (List.map TVersion.en l6_1))]), (.t 5, [iv (w64 (l6_2 + 1))])]) .nil (by kernel_rfl) (y := (cB (cR (cL (cR (cR bd13)))))) (ks' := []) (by kernel_rfl) ?_
        exact WK.weak (l := [(.t 0, [.data (.slc false none 3 (List.map TVersion.en l6_0))]), (.t 1, [.data (.slc false none 3 (List.map TVersion.en l6_1))]), (.t 5, [iv (w64 (l6_2 + 1))])]) (wk_of (by kernel_rfl)) (ih (w64 (l6_2 + 1)) _ h)
    · refine WK.ce (b := (decide (l6_2 < (l6_0.length : Int)))) (by kernel_rfl) b8_0 ?_
      refine WK.weak (l := []) (wk_of (by kernel_rfl)) ?_
      refine WK.exit (n := 0) (by kernel_rfl) ?_
      cases some_inj h
      exact WKe.fin (e' := .exit 0) (by kernel_rfl) ⟨rfl, rfl⟩
noncomputable def diwanref13_SameChain (fu : Nat) (a : List TVersion) (b : List TVersion) : Option Bool :=
  br ((a.length : Int) != (b.length : Int))
    (some false)
    (bd (diwanref13_SameChain.lp6 fu a b fu 0) fun o_ => (match o_ with
    | .inl _ =>
      some true
    | .inr _ =>
      some false))
theorem diwanref13_SameChain.meets (fu : Nat) (a : List TVersion) (b : List TVersion) (z0 : Bool) (h : diwanref13_SameChain fu a b = some z0) : Meets Try.prog ⟨13, [.data (.slc false none 3 (List.map TVersion.en a)), .data (.slc false none 3 (List.map TVersion.en b))], []⟩ ⟨bv z0, []⟩ := by
  refine meets_of (O := diwanref13_SameChain.O) hmix (fn := Try.f13) (code := bd13) (by kernel_rfl) ?_
  refine WK.weak (l := [(.t 0, [.data (.slc false none 3 (List.map TVersion.en a))]), (.t 1, [.data (.slc false none 3 (List.map TVersion.en b))])]) (wk_of (by kernel_rfl)) ?_
  unfold diwanref13_SameChain at h
  refine WK.rs (g := []) (l' := [(.t 0, [.data (.slc false none 3 (List.map TVersion.en a))]), (.t 1, [.data (.slc false none 3 (List.map TVersion.en b))])]) (by kernel_rfl) .nil (by kernel_rfl) ?_
  refine WK.seq (by kernel_rfl) ?_
  refine WK.rs (g := [.s (.t 7) [iv (a.length : Int)], .s (.t 9) [iv (b.length : Int)]]) (l' := [(.t 0, [.data (.slc false none 3 (List.map TVersion.en a))]), (.t 1, [.data (.slc false none 3 (List.map TVersion.en b))]), (.t 10, [bv ((a.length : Int) != (b.length : Int))])]) (by kernel_rfl) (.cons (c_len (e := TVersion.en) (l := a)) (.cons (c_len (e := TVersion.en) (l := b)) .nil)) (by kernel_rfl) ?_
  rcases br_inv h with ⟨b3_0, h⟩ | ⟨b3_0, h⟩
  · refine WK.ct (b := ((a.length : Int) != (b.length : Int))) (by kernel_rfl) b3_0 ?_
    refine WK.rs (g := []) (l' := [(.t 4, [bv false])]) (by kernel_rfl) .nil (by kernel_rfl) ?_
    refine WK.weak (l := [(.t 4, [bv false])]) (wk_of (by kernel_rfl)) ?_
    refine WK.ret (by kernel_rfl) ?_
    cases some_inj h
    exact WKe.fin (e' := .ret) (by kernel_rfl) (fin_of (g := []) (by first | exact .inl rfl | exact .inr rfl) .nil (by kernel_rfl))
  · refine WK.ce (b := ((a.length : Int) != (b.length : Int))) (by kernel_rfl) b3_0 ?_
    refine WK.skip (by kernel_rfl) ?_
    refine WKe.code (y := (cR (cR bd13))) (ks' := []) (by kernel_rfl) ?_
    refine WK.seq (by kernel_rfl) ?_
    refine WK.rs (g := []) (l' := [(.t 0, [.data (.slc false none 3 (List.map TVersion.en a))]), (.t 1, [.data (.slc false none 3 (List.map TVersion.en b))]), (.t 5, [iv 0])]) (by kernel_rfl) .nil (by kernel_rfl) ?_
    refine WK.block (n := 0) (by kernel_rfl) ?_
    obtain ⟨o13, ho13, h⟩ := bd_inv h
    refine WK.weak (l := [(.t 0, [.data (.slc false none 3 (List.map TVersion.en a))]), (.t 1, [.data (.slc false none 3 (List.map TVersion.en b))]), (.t 5, [iv 0])]) (wk_of (by kernel_rfl)) ?_
    refine WK.use (diwanref13_SameChain.lp6_ok fu a b _ 0 _ ho13) ?_
    intro e_ τ_ hp_
    rcases o13 with o13 | o13
    · obtain ⟨⟩ := o13
      obtain ⟨rfl, rfl⟩ := hp_
      refine WKe.code (y := (cR (cR (cR bd13)))) (ks' := []) (by kernel_rfl) ?_
      refine WK.rs (g := []) (l' := [(.t 4, [bv true])]) (by kernel_rfl) .nil (by kernel_rfl) ?_
      refine WK.weak (l := [(.t 4, [bv true])]) (wk_of (by kernel_rfl)) ?_
      refine WK.ret (by kernel_rfl) ?_
      cases some_inj h
      exact WKe.fin (e' := .ret) (by kernel_rfl) (fin_of (g := []) (by first | exact .inl rfl | exact .inr rfl) .nil (by kernel_rfl))
    · obtain ⟨⟩ := o13
      obtain ⟨rfl, rfl⟩ := hp_
      cases some_inj h
      exact WKe.fin (e' := .ret) (by kernel_rfl) (fin_of (g := []) (by first | exact .inl rfl | exact .inr rfl) .nil (by kernel_rfl))
/-- diwan/diwanref13.LastOf -/
noncomputable def bd17 : Code := (Try.f17.body).getD .skip
def diwanref13_LastOf.O : Nat → Nat := fun t => bif ([2] : List Nat).any (Nat.beq t) then 1 else 0
noncomputable def diwanref13_LastOf (l : List TVersion) : Option Int :=
  br ((l.length : Int) == 0)
    (some 0)
    (ix l (w64 ((l.length : Int) - 1)) fun x5_1 =>
    some x5_1.Pos)
theorem diwanref13_LastOf.meets (l : List TVersion) (z0 : Int) (h : diwanref13_LastOf l = some z0) : Meets Try.prog ⟨17, [.data (.slc false none 3 (List.map TVersion.en l))], []⟩ ⟨iv z0, []⟩ := by
  refine meets_of (O := diwanref13_LastOf.O) hmix (fn := Try.f17) (code := bd17) (by kernel_rfl) ?_
  refine WK.weak (l := [(.t 0, [.data (.slc false none 3 (List.map TVersion.en l))])]) (wk_of (by kernel_rfl)) ?_
  unfold diwanref13_LastOf at h
  refine WK.rs (g := []) (l' := [(.t 0, [.data (.slc false none 3 (List.map TVersion.en l))])]) (by kernel_rfl) .nil (by kernel_rfl) ?_
  refine WK.seq (by kernel_rfl) ?_
  refine WK.rs (g := [.s (.t 4) [iv (l.length : Int)]]) (l' := [(.t 0, [.data (.slc false none 3 (List.map TVersion.en l))]), (.t 5, [bv ((l.length : Int) == 0)])]) (by kernel_rfl) (.cons (c_len (e := TVersion.en) (l := l)) .nil) (by kernel_rfl) ?_
  rcases br_inv h with ⟨b3_0, h⟩ | ⟨b3_0, h⟩
  · refine WK.ct (b := ((l.length : Int) == 0)) (by kernel_rfl) b3_0 ?_
    refine WK.rs (g := []) (l' := [(.t 2, [iv 0])]) (by kernel_rfl) .nil (by kernel_rfl) ?_
    refine WK.weak (l := [(.t 2, [iv 0])]) (wk_of (by kernel_rfl)) ?_
    refine WK.ret (by kernel_rfl) ?_
    cases some_inj h
    exact WKe.fin (e' := .ret) (by kernel_rfl) (fin_of (g := []) (by first | exact .inl rfl | exact .inr rfl) .nil (by kernel_rfl))
  · refine WK.ce (b := ((l.length : Int) == 0)) (by kernel_rfl) b3_0 ?_
    refine WK.skip (by kernel_rfl) ?_
    refine WKe.code (y := (cR (cR bd17))) (ks' := []) (by kernel_rfl) ?_
    obtain ⟨x5_1, a5_2, e5_3, h⟩ := ix_inv h
    refine WK.rs (g := [.s (.t 8) [iv (l.length : Int)], .c (TVersion.en x5_1)]) (l' := [(.t 2, [iv x5_1.Pos])]) (by kernel_rfl) (.cons (c_len (e := TVersion.en) (l := l)) (.cons (c_ix (e := TVersion.en) a5_2 e5_3) (.cons (c_el (e := TVersion.en) e5_3) .nil))) (by kernel_rfl) ?_
    refine WK.weak (l := [(.t 2, [iv x5_1.Pos])]) (wk_of (by kernel_rfl)) ?_
    refine WK.ret (by kernel_rfl) ?_
    cases some_inj h
    exact WKe.fin (e' := .ret) (by kernel_rfl) (fin_of (g := []) (by first | exact .inl rfl | exact .inr rfl) .nil (by kernel_rfl))
/-- diwan/diwanref13.Add -/
noncomputable def bd19 : Code := (Try.f19.body).getD .skip
def diwanref13_Add.O : Nat → Nat := fun t => bif ([3, 4, 5, 6] : List Nat).any (Nat.beq t) then 1 else 0
noncomputable def diwanref13_Add (l : List TVersion) (v : TVersion) : Option (List TVersion) :=
  gd (decide (([] : List TVersion).length + l.length ≤ 4294967296)) <|
  bd (diwanref13_LastOf l) fun r3_1 =>
  br (decide (v.Pos ≤ r3_1))
    (some l)
    (gd (decide (l.length + ([v] : List TVersion).length ≤ 4294967296)) <|
    some (l ++ ([v] : List TVersion)))
theorem diwanref13_Add.meets (l : List TVersion) (v : TVersion) (z0 : List TVersion) (h : diwanref13_Add l v = some z0) : Meets Try.prog ⟨19, [.data (.slc false none 3 (List.map TVersion.en l)), .data (.agg [.val (.int .i64 v.Pos), .val (.string v.Val), .val (.bool v.Gone)])], []⟩ ⟨.data (.slc true none 3 (List.map TVersion.en z0)), []⟩ := by
  refine meets_of (O := diwanref13_Add.O) hmix (fn := Try.f19) (code := bd19) (by kernel_rfl) ?_
  refine WK.weak (l := [(.t 0, [.data (.slc false none 3 (List.map TVersion.en l))]), (.t 1, [.data (.agg [.val (.int .i64 v.Pos), .val (.string v.Val), .val (.bool v.Gone)])])]) (wk_of (by kernel_rfl)) ?_
  unfold diwanref13_Add at h
  refine WK.rs (g := []) (l' := [(.t 0, [.data (.slc false none 3 (List.map TVersion.en l))]), (.t 3, [.ptr 3 0]), (.o 3, [iv v.Pos, sv v.Val, bv v.Gone])]) (by kernel_rfl) .nil (by kernel_rfl) ?_
  obtain ⟨c2_1, h⟩ := gd_inv h
  refine WK.rs (g := []) (l' := [(.t 0, [.data (.slc false none 3 (List.map TVersion.en l))]), (.t 3, [.ptr 3 0]), (.t 5, [.data (.slc true none 3 (List.map TVersion.en l))]), (.o 3, [iv v.Pos, sv v.Val, bv v.Gone])]) (by kernel_rfl) (.cons (c_al (e := TVersion.en) (f := TVersion.en) c2_1) .nil) (by kernel_rfl) ?_
  refine WK.seq (by kernel_rfl) ?_
  obtain ⟨r3_1, h3_2, h⟩ := bd_inv h
  refine WK.rs (g := [.a ⟨iv r3_1, []⟩]) (l' := [(.t 3, [.ptr 3 0]), (.t 5, [.data (.slc true none 3 (List.map TVersion.en l))]), (.t 13, [bv (decide (v.Pos ≤ r3_1))]), (.o 3, [iv v.Pos, sv v.Val, bv v.Gone])]) (by kernel_rfl) (.cons (Asks.of (C := Meets Try.prog) (diwanref13_LastOf.meets l _ h3_2)) (.cons (Eq.refl true) .nil)) (by kernel_rfl) ?_
  rcases br_inv h with ⟨b4_0, h⟩ | ⟨b4_0, h⟩
  · refine WK.ct (b := (decide (v.Pos ≤ r3_1))) (by kernel_rfl) b4_0 ?_
    refine WK.rs (g := []) (l' := [(.t 4, [.data (.slc true none 3 (List.map TVersion.en l))])]) (by kernel_rfl) .nil (by kernel_rfl) ?_
    refine WK.weak (l := [(.t 4, [.data (.slc true none 3 (List.map TVersion.en l))])]) (wk_of (by kernel_rfl)) ?_
    refine WK.ret (by kernel_rfl) ?_
    cases some_inj h
    exact WKe.fin (e' := .ret) (by kernel_rfl) (fin_of (g := []) (by first | exact .inl rfl | exact .inr rfl) .nil (by kernel_rfl))
  · refine WK.ce (b := (decide (v.Pos ≤ r3_1))) (by kernel_rfl) b4_0 ?_
    refine WK.skip (by kernel_rfl) ?_
    refine WKe.code (y := (cR (cR (cR bd19)))) (ks' := []) (by kernel_rfl) ?_
    obtain ⟨c6_1, h⟩ := gd_inv h
    refine WK.rs (g := [.s (.t 18) [.data (.slc true none 3 (List.map TVersion.en (l ++ ([v] : List TVersion))))]]) (l' := [(.t 4, [.data (.slc true none 3 (List.map TVersion.en (l ++ ([v] : List TVersion))))])]) (by kernel_rfl) (.cons (c_al (e := TVersion.en) (f := TVersion.en) c6_1) (.cons (congrArg (fun d : DV => [AV.data d]) (c_app (e := TVersion.en) (s := 3) (l := l) (m := ([v] : List TVersion)))) .nil)) (by kernel_rfl) ?_
    refine WK.weak (l := [(.t 4, [.data (.slc true none 3 (List.map TVersion.en (l ++ ([v] : List TVersion))))])]) (wk_of (by kernel_rfl)) ?_
    refine WK.ret (by kernel_rfl) ?_
    cases some_inj h
    exact WKe.fin (e' := .ret) (by kernel_rfl) (fin_of (g := []) (by first | exact .inl rfl | exact .inr rfl) .nil (by kernel_rfl))
/-- diwan/diwanlaw15.ChainAll -/
noncomputable def bd3 : Code := (Try.f3.body).getD .skip
def diwanlaw15_ChainAll.O : Nat → Nat := fun t => bif ([6, 8, 9, 10, 11, 12, 14, 16, 17, 18, 19, 63, 88, 94] : List Nat).any (Nat.beq t) then 1 else 0
noncomputable def diwanlaw15_ChainAll.lp11 (fu : Nat) (l11_0 : List Int) (l11_1 : List TVersion) (l11_2 : Int) (l11_4 : TVersion) : Nat → Int → Option (Unit ⊕ Unit)
  | 0, _ => none
  | n_ + 1, l11_3 =>
    br (decide (l11_3 < (l11_1.length : Int)))
      (ix l11_1 l11_3 fun x14_1 =>
      br (decide ((x14_1.Val.size : Int) > 60))
        (some (.inr ()))
        (diwanlaw15_ChainAll.lp11 fu l11_0 l11_1 l11_2 l11_4 n_ (w64 (l11_3 + 1))))
      (some (.inl ()))
noncomputable def diwanlaw15_ChainAll.lp11_post (l11_0 : List Int) (l11_1 : List TVersion) (l11_2 : Int) (l11_4 : TVersion) (r_ : (Unit ⊕ Unit)) : Wy → St → Prop := fun e τ => match r_ with
  | .inl _ => e = .exit 0 ∧ τ = ofL [(.t 0, [.data (.slc false none 1 (List.map e_u8 l11_0))]), (.t 1, [.data (.slc false none 3 (List.map TVersion.en l11_1))]), (.t 3, [iv l11_2]), (.t 6, [.ptr 6 0]), (.o 6, [iv l11_4.Pos, sv l11_4.Val, bv l11_4.Gone])]
  | .inr _ => e = .ret ∧ τ = ofL [(.t 8, [bv true])]
theorem diwanlaw15_ChainAll.lp11_ok (fu : Nat) (l11_0 : List Int) (l11_1 : List TVersion) (l11_2 : Int) (l11_4 : TVersion) : ∀ (n_ : Nat) (l11_3 : Int) (r_ : (Unit ⊕ Unit)), diwanlaw15_ChainAll.lp11 fu l11_0 l11_1 l11_2 l11_4 n_ l11_3 = some r_ → WK Try.prog diwanlaw15_ChainAll.O (Ck Try.prog) (cB (cR (cL (cR (cR (cR bd3)))))) [] (ofL [(.t 0, [.data (.slc false none 1 (List.map e_u8 l11_0))]), (.t 1, [.data (.slc false none 3 (List.map TVersion.en l11_1))]), (.t 3, [iv l11_2]), (.t 6, [.ptr 6 0]), (.t 9, [iv l11_3]), (.o 6, [iv l11_4.Pos, sv l11_4.Val, bv l11_4.Gone])]) (diwanlaw15_ChainAll.lp11_post l11_0 l11_1 l11_2 l11_4 r_) := by
  intro n_
  induction n_ with
  | zero => intro l11_3 r_ h; exact no_none h
  | succ n_ ih =>
    intro l11_3 r_ h
    refine WK.loop (by kernel_rfl) ?_
    refine WK.seq (by kernel_rfl) ?_
    refine WK.rs (g := [.s (.t 38) [iv (l11_1.length : Int)]]) (l' := [(.t 0, [.data (.slc false none 1 (List.map e_u8 l11_0))]), (.t 1, [.data (.slc false none 3 (List.map TVersion.en l11_1))]), (.t 3, [iv l11_2]), (.t 6, [.ptr 6 0]), (.t 9, [iv l11_3]), (.t 39, [bv (decide (l11_3 < (l11_1.length : Int)))]), (.o 6, [iv l11_4.Pos, sv l11_4.Val, bv l11_4.Gone])]) (by kernel_rfl) (.cons (c_len (e := TVersion.en) (l := l11_1)) .nil) (by kernel_rfl) ?_
    rcases br_inv h with ⟨b13_0, h⟩ | ⟨b13_0, h⟩
    · refine WK.ct (b := (decide (l11_3 < (l11_1.length : Int)))) (by kernel_rfl) b13_0 ?_
      refine WK.skip (by kernel_rfl) ?_
      refine WKe.code (y := (cR (cB (cB (cR (cL (cR (cR (cR bd3))))))))) (ks' := [.lp (cB (cR (cL (cR (cR (cR bd3))))))]) (by kernel_rfl) ?_
      refine WK.seq (by kernel_rfl) ?_
      refine WK.block (n := 1) (by kernel_rfl) ?_
      obtain ⟨x14_1, a14_2, e14_3, h⟩ := ix_inv h
      refine WK.rs (g := [.c (TVersion.en x14_1)]) (l' := [(.t 0, [.data (.slc false none 1 (List.map e_u8 l11_0))]), (.t 1, [.data (.slc false none 3 (List.map TVersion.en l11_1))]), (.t 3, [iv l11_2]), (.t 6, [.ptr 6 0]), (.t 9, [iv l11_3]), (.t 48, [bv (decide ((x14_1.Val.size : Int) > 60))]), (.o 6, [iv l11_4.Pos, sv l11_4.Val, bv l11_4.Gone])]) (by kernel_rfl) (.cons (c_ix (e := TVersion.en) a14_2 e14_3) (.cons (c_el (e := TVersion.en) e14_3) .nil)) (by kernel_rfl) ?_
      rcases br_inv h with ⟨b15_0, h⟩ | ⟨b15_0, h⟩
      · refine WK.ct (b := (decide ((x14_1.Val.size : Int) > 60))) (by kernel_rfl) b15_0 ?_
        refine WK.rs (g := []) (l' := [(.t 8, [bv true])]) (by kernel_rfl) .nil (by kernel_rfl) ?_
        refine WK.weak (l := [(.t 8, [bv true])]) (wk_of (by kernel_rfl)) ?_
        refine WK.ret (by kernel_rfl) ?_
        cases some_inj h
        exact WKe.fin (e' := .ret) (by kernel_rfl) ⟨rfl, rfl⟩
      · refine WK.ce (b := (decide ((x14_1.Val.size : Int) > 60))) (by kernel_rfl) b15_0 ?_
        refine WK.skip (by kernel_rfl) ?_
        refine WKe.code (y := (cR (cR (cB (cB (cR (cL (cR (cR (cR bd3)))))))))) (ks' := [.lp (cB (cR (cL (cR (cR (cR bd3))))))]) (by kernel_rfl) ?_
        refine WK.rc (g := []) (l' := [(.t 0, [.data (.slc false none 1 (List.map e_u8 l11_0))]), (.t 1, [.data (.slc false none 3 (List.map TVersion.en l11_1))]), (.t 3, [iv l11_2]), (.t 6, [.ptr 6 0]), (.t 9, [iv (w64 (l11_3 + 1))]), (.o 6, [iv l11_4.Pos, sv l11_4.Val, bv l11_4.Gone])]) .nil (by kernel_rfl) (y := (cB (cR (cL (cR (cR (cR bd3))))))) (ks' := []) (by kernel_rfl) ?_
        exact WK.weak (l := [(.t 0, [.data (.slc false none 1 (List.map e_u8 l11_0))]), (.t 1, [.data (.slc false none 3 (List.map TVersion.en l11_1))]), (.t 3, [iv l11_2]), (.t 6, [.ptr 6 0]), (.t 9, [iv (w64 (l11_3 + 1))]), (.o 6, [iv l11_4.Pos, sv l11_4.Val, bv l11_4.Gone])]) (wk_of (by kernel_rfl)) (ih (w64 (l11_3 + 1)) _ h)
    · refine WK.ce (b := (decide (l11_3 < (l11_1.length : Int)))) (by kernel_rfl) b13_0 ?_
      refine WK.weak (l := [(.t 0, [.data (.slc false none 1 (List.map e_u8 l11_0))]), (.t 1, [.data (.slc false none 3 (List.map TVersion.en l11_1))]), (.t 3, [iv l11_2]), (.t 6, [.ptr 6 0]), (.o 6, [iv l11_4.Pos, sv l11_4.Val, bv l11_4.Gone])]) (wk_of (by kernel_rfl)) ?_
      refine WK.exit (n := 0) (by kernel_rfl) ?_
      cases some_inj h
      exact WKe.fin (e' := .exit 0) (by kernel_rfl) ⟨rfl, rfl⟩
noncomputable def diwanlaw15_ChainAll.lp34 (fu : Nat) (l34_0 : Int) (l34_1 : List (List TVersion)) (l34_2 : Int) (l34_3 : List TVersion) (l34_5 : TVersion) : Nat → Int → Option (Unit ⊕ Unit)
  | 0, _ => none
  | n_ + 1, l34_4 =>
    br (decide (l34_4 < 8))
      (jn (fun (j41_5 : Int) =>
        bd (chain_At fu l34_3 j41_5) fun (r42_1, r42_2) =>
        bd (diwanref13_At fu l34_3 j41_5) fun (r43_1, r43_2) =>
        br (!((r42_2.Pos == r43_2.Pos) && ((r42_2.Val.toList == r43_2.Val.toList) && ((r42_2.Gone == r43_2.Gone) && true))))
          (some (.inr ()))
          (br (!(r42_1 == r43_1))
            (some (.inr ()))
            (bd (chain_Trim fu l34_3 j41_5) fun r44_3 =>
            bd (diwanref13_TrimChain fu l34_3 j41_5) fun r44_5 =>
            bd (diwanref13_SameChain fu r44_3 r44_5) fun r44_7 =>
            br (!r44_7)
              (some (.inr ()))
              (diwanlaw15_ChainAll.lp34 fu l34_0 l34_1 l34_2 l34_3 l34_5 n_ (w64 (l34_4 + 1)))))) fun k41 =>
      br (decide (l34_4 ≥ 0))
        (k41 (w64 (5 * l34_4)))
        (k41 l34_0))
      (some (.inl ()))
noncomputable def diwanlaw15_ChainAll.lp34_post (l34_0 : Int) (l34_1 : List (List TVersion)) (l34_2 : Int) (l34_3 : List TVersion) (l34_5 : TVersion) (r_ : (Unit ⊕ Unit)) : Wy → St → Prop := fun e τ => match r_ with
  | .inl _ => e = .exit 4 ∧ τ = ofL [(.t 3, [iv l34_0]), (.t 6, [.ptr 6 0]), (.t 11, [.data (.slc true (some false) 1 (List.map (e_l 3 TVersion.en) l34_1))]), (.t 12, [iv l34_2]), (.t 13, [.data (.slc false none 3 (List.map TVersion.en l34_3))]), (.o 6, [iv l34_5.Pos, sv l34_5.Val, bv l34_5.Gone])]
  | .inr _ => e = .ret ∧ τ = ofL [(.t 8, [bv false])]
theorem diwanlaw15_ChainAll.lp34_ok (fu : Nat) (l34_0 : Int) (l34_1 : List (List TVersion)) (l34_2 : Int) (l34_3 : List TVersion) (l34_5 : TVersion) : ∀ (n_ : Nat) (l34_4 : Int) (r_ : (Unit ⊕ Unit)), diwanlaw15_ChainAll.lp34 fu l34_0 l34_1 l34_2 l34_3 l34_5 n_ l34_4 = some r_ → WK Try.prog diwanlaw15_ChainAll.O (Ck Try.prog) (cB (cR (cL (cR (cR (cB (cL (cR (cB (cB (cR (cL (cR (cR (cR (cR (cR (cR (cR bd3))))))))))))))))))) [] (ofL [(.t 3, [iv l34_0]), (.t 6, [.ptr 6 0]), (.t 11, [.data (.slc true (some false) 1 (List.map (e_l 3 TVersion.en) l34_1))]), (.t 12, [iv l34_2]), (.t 13, [.data (.slc false none 3 (List.map TVersion.en l34_3))]), (.t 14, [iv l34_4]), (.o 6, [iv l34_5.Pos, sv l34_5.Val, bv l34_5.Gone])]) (diwanlaw15_ChainAll.lp34_post l34_0 l34_1 l34_2 l34_3 l34_5 r_) := by
  intro n_
  induction n_ with
  | zero => intro l34_4 r_ h; exact no_none h
  | succ n_ ih =>
    intro l34_4 r_ h
    refine WK.loop (by kernel_rfl) ?_
    refine WK.seq (by kernel_rfl) ?_
    refine WK.rs (g := []) (l' := [(.t 3, [iv l34_0]), (.t 6, [.ptr 6 0]), (.t 11, [.data (.slc true (some false) 1 (List.map (e_l 3 TVersion.en) l34_1))]), (.t 12, [iv l34_2]), (.t 13, [.data (.slc false none 3 (List.map TVersion.en l34_3))]), (.t 14, [iv l34_4]), (.t 76, [bv (decide (l34_4 < 8))]), (.o 6, [iv l34_5.Pos, sv l34_5.Val, bv l34_5.Gone])]) (by kernel_rfl) .nil (by kernel_rfl) ?_
    rcases br_inv h with ⟨b36_0, h⟩ | ⟨b36_0, h⟩
    · refine WK.ct (b := (decide (l34_4 < 8))) (by kernel_rfl) b36_0 ?_
      refine WK.skip (by kernel_rfl) ?_
      refine WKe.code (y := (cR (cB (cB (cR (cL (cR (cR (cB (cL (cR (cB (cB (cR (cL (cR (cR (cR (cR (cR (cR (cR bd3)))))))))))))))))))))) (ks' := [.lp (cB (cR (cL (cR (cR (cB (cL (cR (cB (cB (cR (cL (cR (cR (cR (cR (cR (cR (cR bd3)))))))))))))))))))]) (by kernel_rfl) ?_
      refine WK.seq (by kernel_rfl) ?_
      refine WK.block (n := 5) (by kernel_rfl) ?_
      refine WK.rs (g := []) (l' := [(.t 3, [iv l34_0]), (.t 6, [.ptr 6 0]), (.t 11, [.data (.slc true (some false) 1 (List.map (e_l 3 TVersion.en) l34_1))]), (.t 12, [iv l34_2]), (.t 13, [.data (.slc false none 3 (List.map TVersion.en l34_3))]), (.t 14, [iv l34_4]), (.t 15, [iv l34_0]), (.o 6, [iv l34_5.Pos, sv l34_5.Val, bv l34_5.Gone])]) (by kernel_rfl) .nil (by kernel_rfl) ?_
      obtain ⟨k41, hk41, h⟩ := jn_inv h
      have Jk41 : ∀ (j41_5 : Int), k41 j41_5 = some r_ → WK Try.prog diwanlaw15_ChainAll.O (Ck Try.prog) (cR (cR (cB (cL (cR (cB (cB (cR (cL (cR (cR (cB (cL (cR (cB (cB (cR (cL (cR (cR (cR (cR (cR (cR (cR bd3))))))))))))))))))))))))) [.blk 5, .seq (cR (cR (cB (cB (cR (cL (cR (cR (cB (cL (cR (cB (cB (cR (cL (cR (cR (cR (cR (cR (cR (cR bd3)))))))))))))))))))))), .lp (cB (cR (cL (cR (cR (cB (cL (cR (cB (cB (cR (cL (cR (cR (cR (cR (cR (cR (cR bd3)))))))))))))))))))] (ofL [(.t 3, [iv l34_0]), (.t 6, [.ptr 6 0]), (.t 11, [.data (.slc true (some false) 1 (List.map (e_l 3 TVersion.en) l34_1))]), (.t 12, [iv l34_2]), (.t 13, [.data (.slc false none 3 (List.map TVersion.en l34_3))]), (.t 14, [iv l34_4]), (.t 15, [iv j41_5]), (.o 6, [iv l34_5.Pos, sv l34_5.Val, bv l34_5.Gone])]) (diwanlaw15_ChainAll.lp34_post l34_0 l34_1 l34_2 l34_3 l34_5 r_) := by
        intro j41_5 h
        rw [hk41] at h
        obtain ⟨⟨r42_1, r42_2⟩, h42_3, h⟩ := bd_inv h
        refine WK.rs (g := [.a ⟨.tup [.data (.agg [.val (.int .i64 r42_2.Pos), .val (.string r42_2.Val), .val (.bool r42_2.Gone)]), bv r42_1], []⟩]) (l' := [(.t 3, [iv l34_0]), (.t 6, [.ptr 6 0]), (.t 11, [.data (.slc true (some false) 1 (List.map (e_l 3 TVersion.en) l34_1))]), (.t 12, [iv l34_2]), (.t 13, [.data (.slc false none 3 (List.map TVersion.en l34_3))]), (.t 14, [iv l34_4]), (.t 15, [iv j41_5]), (.t 16, [.ptr 16 0]), (.t 17, [bv r42_1]), (.o 6, [iv l34_5.Pos, sv l34_5.Val, bv l34_5.Gone]), (.o 16, [iv r42_2.Pos, sv r42_2.Val, bv r42_2.Gone])]) (by kernel_rfl) (.cons (Asks.of (C := Meets Try.prog) (chain_At.meets fu l34_3 j41_5 _ _ h42_3)) .nil) (by kernel_rfl) ?_
        obtain ⟨⟨r43_1, r43_2⟩, h43_3, h⟩ := bd_inv h
        refine WK.rs (g := [.a ⟨.tup [.data (.agg [.val (.int .i64 r43_2.Pos), .val (.string r43_2.Val), .val (.bool r43_2.Gone)]), bv r43_1], []⟩]) (l' := [(.t 3, [iv l34_0]), (.t 6, [.ptr 6 0]), (.t 11, [.data (.slc true (some false) 1 (List.map (e_l 3 TVersion.en) l34_1))]), (.t 12, [iv l34_2]), (.t 13, [.data (.slc false none 3 (List.map TVersion.en l34_3))]), (.t 14, [iv l34_4]), (.t 15, [iv j41_5]), (.t 16, [.ptr 16 0]), (.t 17, [bv r42_1]), (.t 18, [.ptr 18 0]), (.t 19, [bv r43_1]), (.o 6, [iv l34_5.Pos, sv l34_5.Val, bv l34_5.Gone]), (.o 16, [iv r42_2.Pos, sv r42_2.Val, bv r42_2.Gone]), (.o 18, [iv r43_2.Pos, sv r43_2.Val, bv r43_2.Gone])]) (by kernel_rfl) (.cons (Asks.of (C := Meets Try.prog) (diwanref13_At.meets fu l34_3 j41_5 _ _ h43_3)) .nil) (by kernel_rfl) ?_
        rcases br_inv h with ⟨b44_1, h⟩ | ⟨b44_1, h⟩
        · refine WK.rs (g := [.b true, .b true, .b true, .b true, .b true, .b true, .b true, .b true, .b true, .b true, .b true, .b true, .b true]) (l' := [(.t 3, [iv l34_0]), (.t 6, [.ptr 6 0]), (.t 11, [.data (.slc true (some false) 1 (List.map (e_l 3 TVersion.en) l34_1))]), (.t 12, [iv l34_2]), (.t 13, [.data (.slc false none 3 (List.map TVersion.en l34_3))]), (.t 14, [iv l34_4]), (.t 113, [bv true]), (.o 6, [iv l34_5.Pos, sv l34_5.Val, bv l34_5.Gone])]) (by kernel_rfl) (.cons b44_1 (.cons b44_1 (.cons b44_1 (.cons b44_1 (.cons (Eq.refl true) (.cons (Eq.refl true) (.cons (Eq.refl true) (.cons (Eq.refl true) (.cons (Eq.refl true) (.cons (Eq.refl true) (.cons (Eq.refl true) (.cons (Eq.refl true) (.cons (Eq.refl true) .nil))))))))))))) (by kernel_rfl) ?_
          refine WK.ct (b := true) (by kernel_rfl) rfl ?_
          refine WK.rs (g := []) (l' := [(.t 8, [bv false])]) (by kernel_rfl) .nil (by kernel_rfl) ?_
          refine WK.weak (l := [(.t 8, [bv false])]) (wk_of (by kernel_rfl)) ?_
          refine WK.ret (by kernel_rfl) ?_
          cases some_inj h
          exact WKe.fin (e' := .ret) (by kernel_rfl) ⟨rfl, rfl⟩
        · rcases br_inv h with ⟨b44_2, h⟩ | ⟨b44_2, h⟩
          · refine WK.rs (g := [.b false, .b false, .b false, .b false, .b true, .b true, .b true, .b true, .b true, .b true, .b true, .b true, .b true]) (l' := [(.t 3, [iv l34_0]), (.t 6, [.ptr 6 0]), (.t 11, [.data (.slc true (some false) 1 (List.map (e_l 3 TVersion.en) l34_1))]), (.t 12, [iv l34_2]), (.t 13, [.data (.slc false none 3 (List.map TVersion.en l34_3))]), (.t 14, [iv l34_4]), (.t 113, [bv true]), (.o 6, [iv l34_5.Pos, sv l34_5.Val, bv l34_5.Gone])]) (by kernel_rfl) (.cons b44_1 (.cons b44_1 (.cons b44_1 (.cons b44_1 (.cons b44_2 (.cons b44_2 (.cons b44_2 (.cons b44_2 (.cons b44_2 (.cons b44_2 (.cons b44_2 (.cons b44_2 (.cons b44_2 .nil))))))))))))) (by kernel_rfl) ?_
            refine WK.ct (b := true) (by kernel_rfl) rfl ?_
            refine WK.rs (g := []) (l' := [(.t 8, [bv false])]) (by kernel_rfl) .nil (by kernel_rfl) ?_
            refine WK.weak (l := [(.t 8, [bv false])]) (wk_of (by kernel_rfl)) ?_
            refine WK.ret (by kernel_rfl) ?_
            cases some_inj h
            exact WKe.fin (e' := .ret) (by kernel_rfl) ⟨rfl, rfl⟩
          · obtain ⟨r44_3, h44_4, h⟩ := bd_inv h
            obtain ⟨r44_5, h44_6, h⟩ := bd_inv h
            obtain ⟨r44_7, h44_8, h⟩ := bd_inv h
            refine WK.rs (g := [.b false, .b false, .b false, .b false, .b false, .b false, .b false, .a ⟨.data (.slc true none 3 (List.map TVersion.en r44_3)), []⟩, .b false, .b false, .b false, .a ⟨.data (.slc true none 3 (List.map TVersion.en r44_5)), []⟩, .b false, .a ⟨bv r44_7, []⟩, .b false, .b false]) (l' := [(.t 3, [iv l34_0]), (.t 6, [.ptr 6 0]), (.t 11, [.data (.slc true (some false) 1 (List.map (e_l 3 TVersion.en) l34_1))]), (.t 12, [iv l34_2]), (.t 13, [.data (.slc false none 3 (List.map TVersion.en l34_3))]), (.t 14, [iv l34_4]), (.t 113, [bv (!r44_7)]), (.o 6, [iv l34_5.Pos, sv l34_5.Val, bv l34_5.Gone])]) (by kernel_rfl) (.cons b44_1 (.cons b44_1 (.cons b44_1 (.cons b44_1 (.cons b44_2 (.cons b44_2 (.cons b44_2 (.cons (Asks.of (C := Meets Try.prog) (chain_Trim.meets fu l34_3 j41_5 _ h44_4)) (.cons b44_2 (.cons b44_2 (.cons b44_2 (.cons (Asks.of (C := Meets Try.prog) (diwanref13_TrimChain.meets fu l34_3 j41_5 _ h44_6)) (.cons b44_2 (.cons (Asks.of (C := Meets Try.prog) (diwanref13_SameChain.meets fu r44_3 r44_5 _ h44_8)) (.cons b44_2 (.cons b44_2 .nil)))))))))))))))) (by kernel_rfl) ?_
            rcases br_inv h with ⟨b47_0, h⟩ | ⟨b47_0, h⟩
            · refine WK.ct (b := (!r44_7)) (by kernel_rfl) b47_0 ?_
              refine WK.rs (g := []) (l' := [(.t 8, [bv false])]) (by kernel_rfl) .nil (by kernel_rfl) ?_
              refine WK.weak (l := [(.t 8, [bv false])]) (wk_of (by kernel_rfl)) ?_
              refine WK.ret (by kernel_rfl) ?_
              cases some_inj h
              exact WKe.fin (e' := .ret) (by kernel_rfl) ⟨rfl, rfl⟩
            · refine WK.ce (b := (!r44_7)) (by kernel_rfl) b47_0 ?_
              refine WK.skip (by kernel_rfl) ?_
              refine WKe.code (y := (cR (cR (cB (cB (cR (cL (cR (cR (cB (cL (cR (cB (cB (cR (cL (cR (cR (cR (cR (cR (cR (cR bd3))))))))))))))))))))))) (ks' := [.lp (cB (cR (cL (cR (cR (cB (cL (cR (cB (cB (cR (cL (cR (cR (cR (cR (cR (cR (cR bd3)))))))))))))))))))]) (by kernel_rfl) ?_
              refine WK.rc (g := []) (l' := [(.t 3, [iv l34_0]), (.t 6, [.ptr 6 0]), (.t 11, [.data (.slc true (some false) 1 (List.map (e_l 3 TVersion.en) l34_1))]), (.t 12, [iv l34_2]), (.t 13, [.data (.slc false none 3 (List.map TVersion.en l34_3))]), (.t 14, [iv (w64 (l34_4 + 1))]), (.o 6, [iv l34_5.Pos, sv l34_5.Val, bv l34_5.Gone])]) .nil (by kernel_rfl) (y := (cB (cR (cL (cR (cR (cB (cL (cR (cB (cB (cR (cL (cR (cR (cR (cR (cR (cR (cR bd3)))))))))))))))))))) (ks' := []) (by kernel_rfl) ?_
              exact WK.weak (l := [(.t 3, [iv l34_0]), (.t 6, [.ptr 6 0]), (.t 11, [.data (.slc true (some false) 1 (List.map (e_l 3 TVersion.en) l34_1))]), (.t 12, [iv l34_2]), (.t 13, [.data (.slc false none 3 (List.map TVersion.en l34_3))]), (.t 14, [iv (w64 (l34_4 + 1))]), (.o 6, [iv l34_5.Pos, sv l34_5.Val, bv l34_5.Gone])]) (wk_of (by kernel_rfl)) (ih (w64 (l34_4 + 1)) _ h)
      clear hk41
      refine WK.seq (by kernel_rfl) ?_
      refine WK.rs (g := []) (l' := [(.t 3, [iv l34_0]), (.t 6, [.ptr 6 0]), (.t 11, [.data (.slc true (some false) 1 (List.map (e_l 3 TVersion.en) l34_1))]), (.t 12, [iv l34_2]), (.t 13, [.data (.slc false none 3 (List.map TVersion.en l34_3))]), (.t 14, [iv l34_4]), (.t 15, [iv l34_0]), (.t 81, [bv (decide (l34_4 ≥ 0))]), (.o 6, [iv l34_5.Pos, sv l34_5.Val, bv l34_5.Gone])]) (by kernel_rfl) .nil (by kernel_rfl) ?_
      rcases br_inv h with ⟨b39_0, h⟩ | ⟨b39_0, h⟩
      · refine WK.ct (b := (decide (l34_4 ≥ 0))) (by kernel_rfl) b39_0 ?_
        refine WK.rc (g := []) (l' := [(.t 3, [iv l34_0]), (.t 6, [.ptr 6 0]), (.t 11, [.data (.slc true (some false) 1 (List.map (e_l 3 TVersion.en) l34_1))]), (.t 12, [iv l34_2]), (.t 13, [.data (.slc false none 3 (List.map TVersion.en l34_3))]), (.t 14, [iv l34_4]), (.t 15, [iv (w64 (5 * l34_4))]), (.o 6, [iv l34_5.Pos, sv l34_5.Val, bv l34_5.Gone])]) .nil (by kernel_rfl) (y := (cR (cR (cB (cL (cR (cB (cB (cR (cL (cR (cR (cB (cL (cR (cB (cB (cR (cL (cR (cR (cR (cR (cR (cR (cR bd3)))))))))))))))))))))))))) (ks' := [.blk 5, .seq (cR (cR (cB (cB (cR (cL (cR (cR (cB (cL (cR (cB (cB (cR (cL (cR (cR (cR (cR (cR (cR (cR bd3)))))))))))))))))))))), .lp (cB (cR (cL (cR (cR (cB (cL (cR (cB (cB (cR (cL (cR (cR (cR (cR (cR (cR (cR bd3)))))))))))))))))))]) (by kernel_rfl) ?_
        exact WK.weak (l := [(.t 3, [iv l34_0]), (.t 6, [.ptr 6 0]), (.t 11, [.data (.slc true (some false) 1 (List.map (e_l 3 TVersion.en) l34_1))]), (.t 12, [iv l34_2]), (.t 13, [.data (.slc false none 3 (List.map TVersion.en l34_3))]), (.t 14, [iv l34_4]), (.t 15, [iv (w64 (5 * l34_4))]), (.o 6, [iv l34_5.Pos, sv l34_5.Val, bv l34_5.Gone])]) (wk_of (by kernel_rfl)) (Jk41 (w64 (5 * l34_4)) h)
      · refine WK.ce (b := (decide (l34_4 ≥ 0))) (by kernel_rfl) b39_0 ?_
        refine WK.skip (by kernel_rfl) ?_
        refine WKe.code (y := (cR (cR (cB (cL (cR (cB (cB (cR (cL (cR (cR (cB (cL (cR (cB (cB (cR (cL (cR (cR (cR (cR (cR (cR (cR bd3)))))))))))))))))))))))))) (ks' := [.blk 5, .seq (cR (cR (cB (cB (cR (cL (cR (cR (cB (cL (cR (cB (cB (cR (cL (cR (cR (cR (cR (cR (cR (cR bd3)))))))))))))))))))))), .lp (cB (cR (cL (cR (cR (cB (cL (cR (cB (cB (cR (cL (cR (cR (cR (cR (cR (cR (cR bd3)))))))))))))))))))]) (by kernel_rfl) ?_
        exact WK.weak (l := [(.t 3, [iv l34_0]), (.t 6, [.ptr 6 0]), (.t 11, [.data (.slc true (some false) 1 (List.map (e_l 3 TVersion.en) l34_1))]), (.t 12, [iv l34_2]), (.t 13, [.data (.slc false none 3 (List.map TVersion.en l34_3))]), (.t 14, [iv l34_4]), (.t 15, [iv l34_0]), (.o 6, [iv l34_5.Pos, sv l34_5.Val, bv l34_5.Gone])]) (wk_of (by kernel_rfl)) (Jk41 l34_0 h)
    · refine WK.ce (b := (decide (l34_4 < 8))) (by kernel_rfl) b36_0 ?_
      refine WK.weak (l := [(.t 3, [iv l34_0]), (.t 6, [.ptr 6 0]), (.t 11, [.data (.slc true (some false) 1 (List.map (e_l 3 TVersion.en) l34_1))]), (.t 12, [iv l34_2]), (.t 13, [.data (.slc false none 3 (List.map TVersion.en l34_3))]), (.o 6, [iv l34_5.Pos, sv l34_5.Val, bv l34_5.Gone])]) (wk_of (by kernel_rfl)) ?_
      refine WK.exit (n := 4) (by kernel_rfl) ?_
      cases some_inj h
      exact WKe.fin (e' := .exit 4) (by kernel_rfl) ⟨rfl, rfl⟩
noncomputable def diwanlaw15_ChainAll.lp26 (fu : Nat) (l26_0 : Int) (l26_1 : List (List TVersion)) (l26_3 : TVersion) : Nat → Int → Option (Unit ⊕ Unit)
  | 0, _ => none
  | n_ + 1, l26_2 =>
    br (decide (l26_2 < 2))
      (ix l26_1 l26_2 fun x29_1 =>
      bd (diwanref13_MayChain fu x29_1) fun r30_1 =>
      br (!r30_1)
        (diwanlaw15_ChainAll.lp26 fu l26_0 l26_1 l26_3 n_ (w64 (l26_2 + 1)))
        (bd (diwanlaw15_ChainAll.lp34 fu l26_0 l26_1 l26_2 x29_1 l26_3 fu (-1)) fun o_ => (match o_ with
        | .inl _ =>
          bd (chain_Last x29_1) fun r51_1 =>
          bd (diwanref13_LastOf x29_1) fun r51_3 =>
          br (r51_1 != r51_3)
            (some (.inr ()))
            (bd (chain_Add x29_1 l26_3) fun r51_6 =>
            bd (diwanref13_Add x29_1 l26_3) fun r51_8 =>
            bd (diwanref13_SameChain fu r51_6 r51_8) fun r51_10 =>
            br (!r51_10)
              (some (.inr ()))
              (diwanlaw15_ChainAll.lp26 fu l26_0 l26_1 l26_3 n_ (w64 (l26_2 + 1))))
        | .inr _ =>
          some (.inr ()))))
      (some (.inl ()))
noncomputable def diwanlaw15_ChainAll.lp26_post (l26_0 : Int) (l26_1 : List (List TVersion)) (l26_3 : TVersion) (r_ : (Unit ⊕ Unit)) : Wy → St → Prop := fun e τ => match r_ with
  | .inl _ => e = .exit 2 ∧ τ = ofL []
  | .inr _ => e = .ret ∧ τ = ofL [(.t 8, [bv false])]
theorem diwanlaw15_ChainAll.lp26_ok (fu : Nat) (l26_0 : Int) (l26_1 : List (List TVersion)) (l26_3 : TVersion) : ∀ (n_ : Nat) (l26_2 : Int) (r_ : (Unit ⊕ Unit)), diwanlaw15_ChainAll.lp26 fu l26_0 l26_1 l26_3 n_ l26_2 = some r_ → WK Try.prog diwanlaw15_ChainAll.O (Ck Try.prog) (cB (cR (cL (cR (cR (cR (cR (cR (cR (cR bd3)))))))))) [] (ofL [(.t 3, [iv l26_0]), (.t 6, [.ptr 6 0]), (.t 11, [.data (.slc true (some false) 1 (List.map (e_l 3 TVersion.en) l26_1))]), (.t 12, [iv l26_2]), (.o 6, [iv l26_3.Pos, sv l26_3.Val, bv l26_3.Gone])]) (diwanlaw15_ChainAll.lp26_post l26_0 l26_1 l26_3 r_) := by
  intro n_
  induction n_ with
  | zero => intro l26_2 r_ h; exact no_none h
  | succ n_ ih =>
    intro l26_2 r_ h
    refine WK.loop (by kernel_rfl) ?_
    refine WK.seq (by kernel_rfl) ?_
    refine WK.rs (g := []) (l' := [(.t 3, [iv l26_0]), (.t 6, [.ptr 6 0]), (.t 11, [.data (.slc true (some false) 1 (List.map (e_l 3 TVersion.en) l26_1))]), (.t 12, [iv l26_2]), (.t 65, [bv (decide (l26_2 < 2))]), (.o 6, [iv l26_3.Pos, sv l26_3.Val, bv l26_3.Gone])]) (by kernel_rfl) .nil (by kernel_rfl) ?_
    rcases br_inv h with ⟨b28_0, h⟩ | ⟨b28_0, h⟩
    · refine WK.ct (b := (decide (l26_2 < 2))) (by kernel_rfl) b28_0 ?_
      refine WK.skip (by kernel_rfl) ?_
      refine WKe.code (y := (cR (cB (cB (cR (cL (cR (cR (cR (cR (cR (cR (cR bd3))))))))))))) (ks' := [.lp (cB (cR (cL (cR (cR (cR (cR (cR (cR (cR bd3))))))))))]) (by kernel_rfl) ?_
      refine WK.seq (by kernel_rfl) ?_
      refine WK.block (n := 3) (by kernel_rfl) ?_
      obtain ⟨x29_1, a29_2, e29_3, h⟩ := ix_inv h
      refine WK.rs (g := [.c ((e_l 3 TVersion.en) x29_1)]) (l' := [(.t 3, [iv l26_0]), (.t 6, [.ptr 6 0]), (.t 11, [.data (.slc true (some false) 1 (List.map (e_l 3 TVersion.en) l26_1))]), (.t 12, [iv l26_2]), (.t 13, [.data (.slc false none 3 (List.map TVersion.en x29_1))]), (.o 6, [iv l26_3.Pos, sv l26_3.Val, bv l26_3.Gone])]) (by kernel_rfl) (.cons (c_ix (e := (e_l 3 TVersion.en)) a29_2 e29_3) (.cons (c_el (e := (e_l 3 TVersion.en)) e29_3) .nil)) (by kernel_rfl) ?_
      refine WK.seq (by kernel_rfl) ?_
      obtain ⟨r30_1, h30_2, h⟩ := bd_inv h
      refine WK.rs (g := [.a ⟨bv r30_1, []⟩]) (l' := [(.t 3, [iv l26_0]), (.t 6, [.ptr 6 0]), (.t 11, [.data (.slc true (some false) 1 (List.map (e_l 3 TVersion.en) l26_1))]), (.t 12, [iv l26_2]), (.t 13, [.data (.slc false none 3 (List.map TVersion.en x29_1))]), (.t 74, [bv (!r30_1)]), (.o 6, [iv l26_3.Pos, sv l26_3.Val, bv l26_3.Gone])]) (by kernel_rfl) (.cons (Asks.of (C := Meets Try.prog) (diwanref13_MayChain.meets fu x29_1 _ h30_2)) .nil) (by kernel_rfl) ?_
      rcases br_inv h with ⟨b31_0, h⟩ | ⟨b31_0, h⟩
      · refine WK.ct (b := (!r30_1)) (by kernel_rfl) b31_0 ?_
        refine WK.exit (n := 3) (by kernel_rfl) ?_
        refine WKe.code (y := (cR (cR (cB (cB (cR (cL (cR (cR (cR (cR (cR (cR (cR bd3)))))))))))))) (ks' := [.lp (cB (cR (cL (cR (cR (cR (cR (cR (cR (cR bd3))))))))))]) (by kernel_rfl) ?_
        refine WK.rc (g := []) (l' := [(.t 3, [iv l26_0]), (.t 6, [.ptr 6 0]), (.t 11, [.data (.slc true (some false) 1 (List.map (e_l 3 TVersion.en) l26_1))]), (.t 12, [iv (w64 (l26_2 + 1))]), (.o 6, [iv l26_3.Pos, sv l26_3.Val, bv l26_3.Gone])]) .nil (by kernel_rfl) (y := (cB (cR (cL (cR (cR (cR (cR (cR (cR (cR bd3))))))))))) (ks' := []) (by kernel_rfl) ?_
        exact WK.weak (l := [(.t 3, [iv l26_0]), (.t 6, [.ptr 6 0]), (.t 11, [.data (.slc true (some false) 1 (List.map (e_l 3 TVersion.en) l26_1))]), (.t 12, [iv (w64 (l26_2 + 1))]), (.o 6, [iv l26_3.Pos, sv l26_3.Val, bv l26_3.Gone])]) (wk_of (by kernel_rfl)) (ih (w64 (l26_2 + 1)) _ h)
      · refine WK.ce (b := (!r30_1)) (by kernel_rfl) b31_0 ?_
        refine WK.skip (by kernel_rfl) ?_
        refine WKe.code (y := (cR (cR (cB (cL (cR (cB (cB (cR (cL (cR (cR (cR (cR (cR (cR (cR bd3))))))))))))))))) (ks' := [.blk 3, .seq (cR (cR (cB (cB (cR (cL (cR (cR (cR (cR (cR (cR (cR bd3))))))))))))), .lp (cB (cR (cL (cR (cR (cR (cR (cR (cR (cR bd3))))))))))]) (by kernel_rfl) ?_
        refine WK.seq (by kernel_rfl) ?_
        refine WK.rs (g := []) (l' := [(.t 3, [iv l26_0]), (.t 6, [.ptr 6 0]), (.t 11, [.data (.slc true (some false) 1 (List.map (e_l 3 TVersion.en) l26_1))]), (.t 12, [iv l26_2]), (.t 13, [.data (.slc false none 3 (List.map TVersion.en x29_1))]), (.t 14, [iv (-1)]), (.o 6, [iv l26_3.Pos, sv l26_3.Val, bv l26_3.Gone])]) (by kernel_rfl) .nil (by kernel_rfl) ?_
        refine WK.block (n := 4) (by kernel_rfl) ?_
        obtain ⟨o50, ho50, h⟩ := bd_inv h
        refine WK.weak (l := [(.t 3, [iv l26_0]), (.t 6, [.ptr 6 0]), (.t 11, [.data (.slc true (some false) 1 (List.map (e_l 3 TVersion.en) l26_1))]), (.t 12, [iv l26_2]), (.t 13, [.data (.slc false none 3 (List.map TVersion.en x29_1))]), (.t 14, [iv (-1)]), (.o 6, [iv l26_3.Pos, sv l26_3.Val, bv l26_3.Gone])]) (wk_of (by kernel_rfl)) ?_
        refine WK.use (diwanlaw15_ChainAll.lp34_ok fu l26_0 l26_1 l26_2 x29_1 l26_3 _ (-1) _ ho50) ?_
        intro e_ τ_ hp_
        rcases o50 with o50 | o50
        · obtain ⟨⟩ := o50
          obtain ⟨rfl, rfl⟩ := hp_
          refine WKe.code (y := (cR (cR (cR (cB (cL (cR (cB (cB (cR (cL (cR (cR (cR (cR (cR (cR (cR bd3)))))))))))))))))) (ks' := [.blk 3, .seq (cR (cR (cB (cB (cR (cL (cR (cR (cR (cR (cR (cR (cR bd3))))))))))))), .lp (cB (cR (cL (cR (cR (cR (cR (cR (cR (cR bd3))))))))))]) (by kernel_rfl) ?_
          obtain ⟨r51_1, h51_2, h⟩ := bd_inv h
          obtain ⟨r51_3, h51_4, h⟩ := bd_inv h
          rcases br_inv h with ⟨b51_5, h⟩ | ⟨b51_5, h⟩
          · refine WK.rs (g := [.a ⟨iv r51_1, []⟩, .a ⟨iv r51_3, []⟩, .b true, .b true, .b true, .b true, .b true, .b true, .b true, .b true, .b true]) (l' := [(.t 3, [iv l26_0]), (.t 6, [.ptr 6 0]), (.t 11, [.data (.slc true (some false) 1 (List.map (e_l 3 TVersion.en) l26_1))]), (.t 12, [iv l26_2]), (.t 128, [bv true]), (.o 6, [iv l26_3.Pos, sv l26_3.Val, bv l26_3.Gone])]) (by kernel_rfl) (.cons (Asks.of (C := Meets Try.prog) (chain_Last.meets x29_1 _ h51_2)) (.cons (Asks.of (C := Meets Try.prog) (diwanref13_LastOf.meets x29_1 _ h51_4)) (.cons b51_5 (.cons b51_5 (.cons b51_5 (.cons b51_5 (.cons b51_5 (.cons b51_5 (.cons b51_5 (.cons b51_5 (.cons b51_5 (.cons (Eq.refl true) .nil)))))))))))) (by kernel_rfl) ?_
            refine WK.ct (b := true) (by kernel_rfl) rfl ?_
            refine WK.rs (g := []) (l' := [(.t 8, [bv false])]) (by kernel_rfl) .nil (by kernel_rfl) ?_
            refine WK.weak (l := [(.t 8, [bv false])]) (wk_of (by kernel_rfl)) ?_
            refine WK.ret (by kernel_rfl) ?_
            cases some_inj h
            exact WKe.fin (e' := .ret) (by kernel_rfl) ⟨rfl, rfl⟩
          · obtain ⟨r51_6, h51_7, h⟩ := bd_inv h
            obtain ⟨r51_8, h51_9, h⟩ := bd_inv h
            obtain ⟨r51_10, h51_11, h⟩ := bd_inv h
            refine WK.rs (g := [.a ⟨iv r51_1, []⟩, .a ⟨iv r51_3, []⟩, .b false, .b false, .b false, .a ⟨.data (.slc true none 3 (List.map TVersion.en r51_6)), []⟩, .b false, .b false, .b false, .a ⟨.data (.slc true none 3 (List.map TVersion.en r51_8)), []⟩, .b false, .a ⟨bv r51_10, []⟩, .b false, .b false]) (l' := [(.t 3, [iv l26_0]), (.t 6, [.ptr 6 0]), (.t 11, [.data (.slc true (some false) 1 (List.map (e_l 3 TVersion.en) l26_1))]), (.t 12, [iv l26_2]), (.t 128, [bv (!r51_10)]), (.o 6, [iv l26_3.Pos, sv l26_3.Val, bv l26_3.Gone])]) (by kernel_rfl) (.cons (Asks.of (C := Meets Try.prog) (chain_Last.meets x29_1 _ h51_2)) (.cons (Asks.of (C := Meets Try.prog) (diwanref13_LastOf.meets x29_1 _ h51_4)) (.cons b51_5 (.cons b51_5 (.cons b51_5 (.cons (Asks.of (C := Meets Try.prog) (chain_Add.meets x29_1 l26_3 _ h51_7)) (.cons b51_5 (.cons b51_5 (.cons b51_5 (.cons (Asks.of (C := Meets Try.prog) (diwanref13_Add.meets x29_1 l26_3 _ h51_9)) (.cons b51_5 (.cons (Asks.of (C := Meets Try.prog) (diwanref13_SameChain.meets fu r51_6 r51_8 _ h51_11)) (.cons b51_5 (.cons b51_5 (.cons (Eq.refl true) .nil))))))))))))))) (by kernel_rfl) ?_
            rcases br_inv h with ⟨b53_0, h⟩ | ⟨b53_0, h⟩
            · refine WK.ct (b := (!r51_10)) (by kernel_rfl) b53_0 ?_
              refine WK.rs (g := []) (l' := [(.t 8, [bv false])]) (by kernel_rfl) .nil (by kernel_rfl) ?_
              refine WK.weak (l := [(.t 8, [bv false])]) (wk_of (by kernel_rfl)) ?_
              refine WK.ret (by kernel_rfl) ?_
              cases some_inj h
              exact WKe.fin (e' := .ret) (by kernel_rfl) ⟨rfl, rfl⟩
            · refine WK.ce (b := (!r51_10)) (by kernel_rfl) b53_0 ?_
              refine WK.skip (by kernel_rfl) ?_
              refine WKe.code (y := (cR (cR (cB (cB (cR (cL (cR (cR (cR (cR (cR (cR (cR bd3)))))))))))))) (ks' := [.lp (cB (cR (cL (cR (cR (cR (cR (cR (cR (cR bd3))))))))))]) (by kernel_rfl) ?_
              refine WK.rc (g := []) (l' := [(.t 3, [iv l26_0]), (.t 6, [.ptr 6 0]), (.t 11, [.data (.slc true (some false) 1 (List.map (e_l 3 TVersion.en) l26_1))]), (.t 12, [iv (w64 (l26_2 + 1))]), (.o 6, [iv l26_3.Pos, sv l26_3.Val, bv l26_3.Gone])]) .nil (by kernel_rfl) (y := (cB (cR (cL (cR (cR (cR (cR (cR (cR (cR bd3))))))))))) (ks' := []) (by kernel_rfl) ?_
              exact WK.weak (l := [(.t 3, [iv l26_0]), (.t 6, [.ptr 6 0]), (.t 11, [.data (.slc true (some false) 1 (List.map (e_l 3 TVersion.en) l26_1))]), (.t 12, [iv (w64 (l26_2 + 1))]), (.o 6, [iv l26_3.Pos, sv l26_3.Val, bv l26_3.Gone])]) (wk_of (by kernel_rfl)) (ih (w64 (l26_2 + 1)) _ h)
        · obtain ⟨⟩ := o50
          obtain ⟨rfl, rfl⟩ := hp_
          cases some_inj h
          exact WKe.fin (e' := .ret) (by kernel_rfl) ⟨rfl, rfl⟩
    · refine WK.ce (b := (decide (l26_2 < 2))) (by kernel_rfl) b28_0 ?_
      refine WK.weak (l := []) (wk_of (by kernel_rfl)) ?_
      refine WK.exit (n := 2) (by kernel_rfl) ?_
      cases some_inj h
      exact WKe.fin (e' := .exit 2) (by kernel_rfl) ⟨rfl, rfl⟩
noncomputable def diwanlaw15_ChainAll (fu : Nat) (picks : List Int) (l : List TVersion) (v : TVersion) (pos : Int) : Option Bool :=
  bd (diwanlaw15_begun fu) fun r2_1 =>
  br (!r2_1)
    (some false)
    (br (decide ((picks.length : Int) > 15))
      (some true)
      (br (decide ((l.length : Int) > 10))
        (some true)
        (br (decide ((v.Val.size : Int) > 60))
          (some true)
          (bd (diwanlaw15_ChainAll.lp11 fu picks l pos v fu 0) fun o_ => (match o_ with
          | .inl _ =>
            bd (diwanlaw15_made fu picks) fun r19_1 =>
            bd (chain_May fu l) fun r20_1 =>
            bd (diwanref13_MayChain fu l) fun r20_3 =>
            br (!(r20_1 == r20_3))
              (some false)
              (bd (chain_May fu r19_1) fun r20_6 =>
              br (!r20_6)
                (some false)
                (bd (diwanlaw15_ChainAll.lp26 fu pos ([r19_1, l] : List (List TVersion)) v fu 0) fun o_ => (match o_ with
                | .inl _ =>
                  some true
                | .inr _ =>
                  some false)))
          | .inr _ =>
            some true)))))
theorem diwanlaw15_ChainAll.meets (fu : Nat) (picks : List Int) (l : List TVersion) (v : TVersion) (pos : Int) (z0 : Bool) (h : diwanlaw15_ChainAll fu picks l v pos = some z0) : Meets Try.prog ⟨3, [.data (.slc false none 1 (List.map e_u8 picks)), .data (.slc false none 3 (List.map TVersion.en l)), .data (.agg [.val (.int .i64 v.Pos), .val (.string v.Val), .val (.bool v.Gone)]), iv pos], []⟩ ⟨bv z0, []⟩ := by
  refine meets_of (O := diwanlaw15_ChainAll.O) hmix (fn := Try.f3) (code := bd3) (by kernel_rfl) ?_
  refine WK.weak (l := [(.t 0, [.data (.slc false none 1 (List.map e_u8 picks))]), (.t 1, [.data (.slc false none 3 (List.map TVersion.en l))]), (.t 2, [.data (.agg [.val (.int .i64 v.Pos), .val (.string v.Val), .val (.bool v.Gone)])]), (.t 3, [iv pos])]) (wk_of (by kernel_rfl)) ?_
  unfold diwanlaw15_ChainAll at h
  refine WK.rs (g := []) (l' := [(.t 0, [.data (.slc false none 1 (List.map e_u8 picks))]), (.t 1, [.data (.slc false none 3 (List.map TVersion.en l))]), (.t 3, [iv pos]), (.t 6, [.ptr 6 0]), (.o 6, [iv v.Pos, sv v.Val, bv v.Gone])]) (by kernel_rfl) .nil (by kernel_rfl) ?_
  refine WK.seq (by kernel_rfl) ?_
  obtain ⟨r2_1, h2_2, h⟩ := bd_inv h
  refine WK.rs (g := [.a ⟨bv r2_1, []⟩]) (l' := [(.t 0, [.data (.slc false none 1 (List.map e_u8 picks))]), (.t 1, [.data (.slc false none 3 (List.map TVersion.en l))]), (.t 3, [iv pos]), (.t 6, [.ptr 6 0]), (.t 21, [bv (!r2_1)]), (.o 6, [iv v.Pos, sv v.Val, bv v.Gone])]) (by kernel_rfl) (.cons (Asks.of (C := Meets Try.prog) (diwanlaw15_begun.meets fu _ h2_2)) .nil) (by kernel_rfl) ?_
  rcases br_inv h with ⟨b3_0, h⟩ | ⟨b3_0, h⟩
  · refine WK.ct (b := (!r2_1)) (by kernel_rfl) b3_0 ?_
    refine WK.rs (g := []) (l' := [(.t 8, [bv false])]) (by kernel_rfl) .nil (by kernel_rfl) ?_
    refine WK.weak (l := [(.t 8, [bv false])]) (wk_of (by kernel_rfl)) ?_
    refine WK.ret (by kernel_rfl) ?_
    cases some_inj h
    exact WKe.fin (e' := .ret) (by kernel_rfl) (fin_of (g := []) (by first | exact .inl rfl | exact .inr rfl) .nil (by kernel_rfl))
  · refine WK.ce (b := (!r2_1)) (by kernel_rfl) b3_0 ?_
    refine WK.skip (by kernel_rfl) ?_
    refine WKe.code (y := (cR (cR bd3))) (ks' := []) (by kernel_rfl) ?_
    refine WK.seq (by kernel_rfl) ?_
    rcases br_inv h with ⟨b5_1, h⟩ | ⟨b5_1, h⟩
    · refine WK.rs (g := [.s (.t 23) [iv (picks.length : Int)], .b true, .b true, .b true, .b true, .b true, .b true, .b true, .b true, .b true]) (l' := [(.t 0, [.data (.slc false none 1 (List.map e_u8 picks))]), (.t 1, [.data (.slc false none 3 (List.map TVersion.en l))]), (.t 3, [iv pos]), (.t 6, [.ptr 6 0]), (.t 35, [bv true]), (.o 6, [iv v.Pos, sv v.Val, bv v.Gone])]) (by kernel_rfl) (.cons (c_len (e := e_u8) (l := picks)) (.cons b5_1 (.cons b5_1 (.cons b5_1 (.cons b5_1 (.cons (Eq.refl true) (.cons (Eq.refl true) (.cons (Eq.refl true) (.cons (Eq.refl true) (.cons (Eq.refl true) .nil)))))))))) (by kernel_rfl) ?_
      refine WK.ct (b := true) (by kernel_rfl) rfl ?_
      refine WK.rs (g := []) (l' := [(.t 8, [bv true])]) (by kernel_rfl) .nil (by kernel_rfl) ?_
      refine WK.weak (l := [(.t 8, [bv true])]) (wk_of (by kernel_rfl)) ?_
      refine WK.ret (by kernel_rfl) ?_
      cases some_inj h
      exact WKe.fin (e' := .ret) (by kernel_rfl) (fin_of (g := []) (by first | exact .inl rfl | exact .inr rfl) .nil (by kernel_rfl))
    · rcases br_inv h with ⟨b5_2, h⟩ | ⟨b5_2, h⟩
      · refine WK.rs (g := [.s (.t 23) [iv (picks.length : Int)], .b false, .b false, .s (.t 27) [iv (l.length : Int)], .b false, .b false, .b true, .b true, .b true, .b true, .b true]) (l' := [(.t 0, [.data (.slc false none 1 (List.map e_u8 picks))]), (.t 1, [.data (.slc false none 3 (List.map TVersion.en l))]), (.t 3, [iv pos]), (.t 6, [.ptr 6 0]), (.t 35, [bv true]), (.o 6, [iv v.Pos, sv v.Val, bv v.Gone])]) (by kernel_rfl) (.cons (c_len (e := e_u8) (l := picks)) (.cons b5_1 (.cons b5_1 (.cons (c_len (e := TVersion.en) (l := l)) (.cons b5_1 (.cons b5_1 (.cons b5_2 (.cons b5_2 (.cons b5_2 (.cons b5_2 (.cons b5_2 .nil))))))))))) (by kernel_rfl) ?_
        refine WK.ct (b := true) (by kernel_rfl) rfl ?_
        refine WK.rs (g := []) (l' := [(.t 8, [bv true])]) (by kernel_rfl) .nil (by kernel_rfl) ?_
        refine WK.weak (l := [(.t 8, [bv true])]) (wk_of (by kernel_rfl)) ?_
        refine WK.ret (by kernel_rfl) ?_
        cases some_inj h
        exact WKe.fin (e' := .ret) (by kernel_rfl) (fin_of (g := []) (by first | exact .inl rfl | exact .inr rfl) .nil (by kernel_rfl))
      · refine WK.rs (g := [.s (.t 23) [iv (picks.length : Int)], .b false, .b false, .s (.t 27) [iv (l.length : Int)], .b false, .b false, .b false, .b false, .b false, .b false, .b false]) (l' := [(.t 0, [.data (.slc false none 1 (List.map e_u8 picks))]), (.t 1, [.data (.slc false none 3 (List.map TVersion.en l))]), (.t 3, [iv pos]), (.t 6, [.ptr 6 0]), (.t 35, [bv (decide ((v.Val.size : Int) > 60))]), (.o 6, [iv v.Pos, sv v.Val, bv v.Gone])]) (by kernel_rfl) (.cons (c_len (e := e_u8) (l := picks)) (.cons b5_1 (.cons b5_1 (.cons (c_len (e := TVersion.en) (l := l)) (.cons b5_1 (.cons b5_1 (.cons b5_2 (.cons b5_2 (.cons b5_2 (.cons b5_2 (.cons b5_2 .nil))))))))))) (by kernel_rfl) ?_
        rcases br_inv h with ⟨b8_0, h⟩ | ⟨b8_0, h⟩
        · refine WK.ct (b := (decide ((v.Val.size : Int) > 60))) (by kernel_rfl) b8_0 ?_
          refine WK.rs (g := []) (l' := [(.t 8, [bv true])]) (by kernel_rfl) .nil (by kernel_rfl) ?_
          refine WK.weak (l := [(.t 8, [bv true])]) (wk_of (by kernel_rfl)) ?_
          refine WK.ret (by kernel_rfl) ?_
          cases some_inj h
          exact WKe.fin (e' := .ret) (by kernel_rfl) (fin_of (g := []) (by first | exact .inl rfl | exact .inr rfl) .nil (by kernel_rfl))
        · refine WK.ce (b := (decide ((v.Val.size : Int) > 60))) (by kernel_rfl) b8_0 ?_
          refine WK.skip (by kernel_rfl) ?_
          refine WKe.code (y := (cR (cR (cR bd3)))) (ks' := []) (by kernel_rfl) ?_
          refine WK.seq (by kernel_rfl) ?_
          refine WK.rs (g := []) (l' := [(.t 0, [.data (.slc false none 1 (List.map e_u8 picks))]), (.t 1, [.data (.slc false none 3 (List.map TVersion.en l))]), (.t 3, [iv pos]), (.t 6, [.ptr 6 0]), (.t 9, [iv 0]), (.o 6, [iv v.Pos, sv v.Val, bv v.Gone])]) (by kernel_rfl) .nil (by kernel_rfl) ?_
          refine WK.block (n := 0) (by kernel_rfl) ?_
          obtain ⟨o18, ho18, h⟩ := bd_inv h
          refine WK.weak (l := [(.t 0, [.data (.slc false none 1 (List.map e_u8 picks))]), (.t 1, [.data (.slc false none 3 (List.map TVersion.en l))]), (.t 3, [iv pos]), (.t 6, [.ptr 6 0]), (.t 9, [iv 0]), (.o 6, [iv v.Pos, sv v.Val, bv v.Gone])]) (wk_of (by kernel_rfl)) ?_
          refine WK.use (diwanlaw15_ChainAll.lp11_ok fu picks l pos v _ 0 _ ho18) ?_
          intro e_ τ_ hp_
          rcases o18 with o18 | o18
          · obtain ⟨⟩ := o18
            obtain ⟨rfl, rfl⟩ := hp_
            refine WKe.code (y := (cR (cR (cR (cR bd3))))) (ks' := []) (by kernel_rfl) ?_
            obtain ⟨r19_1, h19_2, h⟩ := bd_inv h
            refine WK.rs (g := [.a ⟨.data (.slc true none 3 (List.map TVersion.en r19_1)), []⟩]) (l' := [(.t 1, [.data (.slc false none 3 (List.map TVersion.en l))]), (.t 3, [iv pos]), (.t 6, [.ptr 6 0]), (.t 10, [.data (.slc true none 3 (List.map TVersion.en r19_1))]), (.o 6, [iv v.Pos, sv v.Val, bv v.Gone])]) (by kernel_rfl) (.cons (Asks.of (C := Meets Try.prog) (diwanlaw15_made.meets fu picks _ h19_2)) .nil) (by kernel_rfl) ?_
            refine WK.seq (by kernel_rfl) ?_
            obtain ⟨r20_1, h20_2, h⟩ := bd_inv h
            obtain ⟨r20_3, h20_4, h⟩ := bd_inv h
            rcases br_inv h with ⟨b20_5, h⟩ | ⟨b20_5, h⟩
            · refine WK.rs (g := [.a ⟨bv r20_1, []⟩, .a ⟨bv r20_3, []⟩, .b true, .b true, .b true, .b true]) (l' := [(.t 1, [.data (.slc false none 3 (List.map TVersion.en l))]), (.t 3, [iv pos]), (.t 6, [.ptr 6 0]), (.t 10, [.data (.slc true none 3 (List.map TVersion.en r19_1))]), (.t 60, [bv true]), (.o 6, [iv v.Pos, sv v.Val, bv v.Gone])]) (by kernel_rfl) (.cons (Asks.of (C := Meets Try.prog) (chain_May.meets fu l _ h20_2)) (.cons (Asks.of (C := Meets Try.prog) (diwanref13_MayChain.meets fu l _ h20_4)) (.cons b20_5 (.cons b20_5 (.cons b20_5 (.cons b20_5 .nil)))))) (by kernel_rfl) ?_
              refine WK.ct (b := true) (by kernel_rfl) rfl ?_
              refine WK.rs (g := []) (l' := [(.t 8, [bv false])]) (by kernel_rfl) .nil (by kernel_rfl) ?_
              refine WK.weak (l := [(.t 8, [bv false])]) (wk_of (by kernel_rfl)) ?_
              refine WK.ret (by kernel_rfl) ?_
              cases some_inj h
              exact WKe.fin (e' := .ret) (by kernel_rfl) (fin_of (g := []) (by first | exact .inl rfl | exact .inr rfl) .nil (by kernel_rfl))
            · obtain ⟨r20_6, h20_7, h⟩ := bd_inv h
              refine WK.rs (g := [.a ⟨bv r20_1, []⟩, .a ⟨bv r20_3, []⟩, .b false, .b false, .a ⟨bv r20_6, []⟩, .b false, .b false]) (l' := [(.t 1, [.data (.slc false none 3 (List.map TVersion.en l))]), (.t 3, [iv pos]), (.t 6, [.ptr 6 0]), (.t 10, [.data (.slc true none 3 (List.map TVersion.en r19_1))]), (.t 60, [bv (!r20_6)]), (.o 6, [iv v.Pos, sv v.Val, bv v.Gone])]) (by kernel_rfl) (.cons (Asks.of (C := Meets Try.prog) (chain_May.meets fu l _ h20_2)) (.cons (Asks.of (C := Meets Try.prog) (diwanref13_MayChain.meets fu l _ h20_4)) (.cons b20_5 (.cons b20_5 (.cons (Asks.of (C := Meets Try.prog) (chain_May.meets fu r19_1 _ h20_7)) (.cons b20_5 (.cons b20_5 .nil))))))) (by kernel_rfl) ?_
              rcases br_inv h with ⟨b22_0, h⟩ | ⟨b22_0, h⟩
              · refine WK.ct (b := (!r20_6)) (by kernel_rfl) b22_0 ?_
                refine WK.rs (g := []) (l' := [(.t 8, [bv false])]) (by kernel_rfl) .nil (by kernel_rfl) ?_
                refine WK.weak (l := [(.t 8, [bv false])]) (wk_of (by kernel_rfl)) ?_
                refine WK.ret (by kernel_rfl) ?_
                cases some_inj h
                exact WKe.fin (e' := .ret) (by kernel_rfl) (fin_of (g := []) (by first | exact .inl rfl | exact .inr rfl) .nil (by kernel_rfl))
              · refine WK.ce (b := (!r20_6)) (by kernel_rfl) b22_0 ?_
                refine WK.skip (by kernel_rfl) ?_
                refine WKe.code (y := (cR (cR (cR (cR (cR (cR bd3))))))) (ks' := []) (by kernel_rfl) ?_
                refine WK.rs (g := []) (l' := [(.t 3, [iv pos]), (.t 6, [.ptr 6 0]), (.t 11, [.data (.slc true (some false) 1 (List.map (e_l 3 TVersion.en) ([r19_1, l] : List (List TVersion))))]), (.o 6, [iv v.Pos, sv v.Val, bv v.Gone])]) (by kernel_rfl) .nil (by kernel_rfl) ?_
                refine WK.seq (by kernel_rfl) ?_
                refine WK.rs (g := []) (l' := [(.t 3, [iv pos]), (.t 6, [.ptr 6 0]), (.t 11, [.data (.slc true (some false) 1 (List.map (e_l 3 TVersion.en) ([r19_1, l] : List (List TVersion))))]), (.t 12, [iv 0]), (.o 6, [iv v.Pos, sv v.Val, bv v.Gone])]) (by kernel_rfl) .nil (by kernel_rfl) ?_
                refine WK.block (n := 2) (by kernel_rfl) ?_
                obtain ⟨o56, ho56, h⟩ := bd_inv h
                refine WK.weak (l := [(.t 3, [iv pos]), (.t 6, [.ptr 6 0]), (.t 11, [.data (.slc true (some false) 1 (List.map (e_l 3 TVersion.en) ([r19_1, l] : List (List TVersion))))]), (.t 12, [iv 0]), (.o 6, [iv v.Pos, sv v.Val, bv v.Gone])]) (wk_of (by kernel_rfl)) ?_
                refine WK.use (diwanlaw15_ChainAll.lp26_ok fu pos ([r19_1, l] : List (List TVersion)) v _ 0 _ ho56) ?_
                intro e_ τ_ hp_
                rcases o56 with o56 | o56
                · obtain ⟨⟩ := o56
                  obtain ⟨rfl, rfl⟩ := hp_
                  refine WKe.code (y := (cR (cR (cR (cR (cR (cR (cR (cR bd3))))))))) (ks' := []) (by kernel_rfl) ?_
                  refine WK.rs (g := []) (l' := [(.t 8, [bv true])]) (by kernel_rfl) .nil (by kernel_rfl) ?_
                  refine WK.weak (l := [(.t 8, [bv true])]) (wk_of (by kernel_rfl)) ?_
                  refine WK.ret (by kernel_rfl) ?_
                  cases some_inj h
                  exact WKe.fin (e' := .ret) (by kernel_rfl) (fin_of (g := []) (by first | exact .inl rfl | exact .inr rfl) .nil (by kernel_rfl))
                · obtain ⟨⟩ := o56
                  obtain ⟨rfl, rfl⟩ := hp_
                  cases some_inj h
                  exact WKe.fin (e' := .ret) (by kernel_rfl) (fin_of (g := []) (by first | exact .inl rfl | exact .inr rfl) .nil (by kernel_rfl))
          · obtain ⟨⟩ := o18
            obtain ⟨rfl, rfl⟩ := hp_
            cases some_inj h
            exact WKe.fin (e' := .ret) (by kernel_rfl) (fin_of (g := []) (by first | exact .inl rfl | exact .inr rfl) .nil (by kernel_rfl))
end Go.Proofs.Ythaaadjgjpjjpaa.Told
