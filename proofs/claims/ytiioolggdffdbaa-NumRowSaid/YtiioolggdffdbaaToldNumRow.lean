/- Functions of the program told as Lean functions, with the walks of their code in the machine by value. -/
import Derived.Test.YtiioolggdffdbaaProg
import Derived.Test.YtiioolggdffdbaaVam2
namespace Go.Proofs.Ytiioolggdffdbaa.Told
open Go Go.Proofs Go.Proofs.Ytiioolggdffdbaa Go.Proofs.Ytiioolggdffdbaa.Vam
set_option linter.unusedVariables false
set_option maxRecDepth 100000
theorem hmix : Try.prog.follows .mixedOrders = true := by kernel_rfl
/-- diwan/num.Put -/
noncomputable def bd14 : Code := (Try.f14.body).getD .skip
def num_Put.O : Nat → Nat := fun t => bif ([0, 2, 13, 18] : List Nat).any (Nat.beq t) then 1 else 0
noncomputable def num_Put.lp5 (fu : Nat) : Nat → Int → (List Int) → Option (Int × List Int)
  | 0, _, _ => none
  | n_ + 1, l5_0, l5_1 =>
    br (decide (l5_0 > 127))
      (gd (decide (l5_1.length + ([(vor .u8 (w8 l5_0) 128)] : List Int).length ≤ 4294967296)) <|
      num_Put.lp5 fu n_ (vshr .i64 l5_0 7) (l5_1 ++ ([(vor .u8 (w8 l5_0) 128)] : List Int)))
      (some (l5_0, l5_1))
noncomputable def num_Put.lp5_post (r_ : (Int × List Int)) : Wy → St → Prop := fun e τ => match r_ with
  | (y0, y1) => e = .exit 0 ∧ τ = ofL [(.t 0, [iv y0]), (.t 2, [.data (.slc true none 1 (List.map e_u8 y1))])]
theorem num_Put.lp5_ok (fu : Nat) : ∀ (n_ : Nat) (l5_0 : Int) (l5_1 : List Int) (r_ : (Int × List Int)), num_Put.lp5 fu n_ l5_0 l5_1 = some r_ → WK Try.prog num_Put.O (Ck Try.prog) (cB (cL (cR (cR bd14)))) [] (ofL [(.t 0, [iv l5_0]), (.t 2, [.data (.slc true none 1 (List.map e_u8 l5_1))])]) (num_Put.lp5_post r_) := by
  intro n_
  induction n_ with
  | zero => intro l5_0 l5_1 r_ h; exact no_none h
  | succ n_ ih =>
    intro l5_0 l5_1 r_ h
    refine WK.loop (by kernel_rfl) ?_
    refine WK.seq (by kernel_rfl) ?_
    refine WK.rs (g := []) (l' := [(.t 0, [iv l5_0]), (.t 2, [.data (.slc true none 1 (List.map e_u8 l5_1))]), (.t 6, [bv (decide (l5_0 > 127))])]) (by kernel_rfl) .nil (by kernel_rfl) ?_
    rcases br_inv h with ⟨b7_0, h⟩ | ⟨b7_0, h⟩
    · refine WK.ct (b := (decide (l5_0 > 127))) (by kernel_rfl) b7_0 ?_
      refine WK.skip (by kernel_rfl) ?_
      refine WKe.code (y := (cR (cB (cB (cL (cR (cR bd14))))))) (ks' := [.lp (cB (cL (cR (cR bd14))))]) (by kernel_rfl) ?_
      refine WK.seq (by kernel_rfl) ?_
      refine WK.block (n := 1) (by kernel_rfl) ?_
      obtain ⟨c8_1, h⟩ := gd_inv h
      refine WK.rc (g := [.s (.t 14) [.data (.slc true none 1 (List.map e_u8 (l5_1 ++ ([(vor .u8 (w8 l5_0) 128)] : List Int))))]]) (l' := [(.t 0, [iv l5_0]), (.t 2, [.data (.slc true none 1 (List.map e_u8 (l5_1 ++ ([(vor .u8 (w8 l5_0) 128)] : List Int))))])]) (.cons (c_al (e := e_u8) (f := e_u8) c8_1) (.cons (congrArg (fun d : DV => [AV.data d]) (c_app (e := e_u8) (s := 1) (l := l5_1) (m := ([(vor .u8 (w8 l5_0) 128)] : List Int)))) .nil)) (by kernel_rfl) (y := (cR (cR (cB (cB (cL (cR (cR bd14)))))))) (ks' := [.lp (cB (cL (cR (cR bd14))))]) (by kernel_rfl) ?_
      refine WK.rc (g := []) (l' := [(.t 0, [iv (vshr .i64 l5_0 7)]), (.t 2, [.data (.slc true none 1 (List.map e_u8 (l5_1 ++ ([(vor .u8 (w8 l5_0) 128)] : List Int))))])]) (.cons (Eq.refl true) .nil) (by kernel_rfl) (y := (cB (cL (cR (cR bd14))))) (ks' := []) (by kernel_rfl) ?_
      exact WK.weak (l := [(.t 0, [iv (vshr .i64 l5_0 7)]), (.t 2, [.data (.slc true none 1 (List.map e_u8 (l5_1 ++ ([(vor .u8 (w8 l5_0) 128)] : List Int))))])]) (wk_of (by kernel_rfl)) (ih (vshr .i64 l5_0 7) (l5_1 ++ ([(vor .u8 (w8 l5_0) 128)] : List Int)) _ h)
    · refine WK.ce (b := (decide (l5_0 > 127))) (by kernel_rfl) b7_0 ?_
      refine WK.weak (l := [(.t 0, [iv l5_0]), (.t 2, [.data (.slc true none 1 (List.map e_u8 l5_1))])]) (wk_of (by kernel_rfl)) ?_
      refine WK.exit (n := 0) (by kernel_rfl) ?_
      cases some_inj h
      exact WKe.fin (e' := .exit 0) (by kernel_rfl) ⟨rfl, rfl⟩
noncomputable def num_Put (fu : Nat) (v : Int) : Option (List Int) :=
  br (decide (v < 0))
    (some [])
    (bd (num_Put.lp5 fu fu v []) fun (y10_0, y10_1) =>
    gd (decide (y10_1.length + ([(w8 y10_0)] : List Int).length ≤ 4294967296)) <|
    some (y10_1 ++ ([(w8 y10_0)] : List Int)))
theorem num_Put.meets (fu : Nat) (v : Int) (z0 : List Int) (h : num_Put fu v = some z0) : Meets Try.prog ⟨14, [iv v], []⟩ ⟨.data (.slc true none 1 (List.map e_u8 z0)), []⟩ := by
  refine meets_of (O := num_Put.O) hmix (fn := Try.f14) (code := bd14) (by kernel_rfl) ?_
  refine WK.weak (l := [(.t 0, [iv v])]) (wk_of (by kernel_rfl)) ?_
  unfold num_Put at h
  refine WK.rs (g := []) (l' := [(.t 0, [iv v]), (.t 2, [.data (.slc true (some true) 1 (List.map e_u8 []))])]) (by kernel_rfl) .nil (by kernel_rfl) ?_
  refine WK.seq (by kernel_rfl) ?_
  refine WK.rs (g := []) (l' := [(.t 0, [iv v]), (.t 2, [.data (.slc true (some true) 1 (List.map e_u8 []))]), (.t 4, [bv (decide (v < 0))])]) (by kernel_rfl) .nil (by kernel_rfl) ?_
  rcases br_inv h with ⟨b3_0, h⟩ | ⟨b3_0, h⟩
  · refine WK.ct (b := (decide (v < 0))) (by kernel_rfl) b3_0 ?_
    refine WK.rs (g := []) (l' := [(.t 2, [.data (.slc true (some true) 1 (List.map e_u8 []))])]) (by kernel_rfl) .nil (by kernel_rfl) ?_
    refine WK.weak (l := [(.t 2, [.data (.slc true none 1 (List.map e_u8 []))])]) (wk_of (by kernel_rfl)) ?_
    refine WK.ret (by kernel_rfl) ?_
    cases some_inj h
    exact WKe.fin (e' := .ret) (by kernel_rfl) (fin_of (g := []) (by first | exact .inl rfl | exact .inr rfl) .nil (by kernel_rfl))
  · refine WK.ce (b := (decide (v < 0))) (by kernel_rfl) b3_0 ?_
    refine WK.skip (by kernel_rfl) ?_
    refine WKe.code (y := (cR (cR bd14))) (ks' := []) (by kernel_rfl) ?_
    refine WK.seq (by kernel_rfl) ?_
    refine WK.block (n := 0) (by kernel_rfl) ?_
    obtain ⟨o10, ho10, h⟩ := bd_inv h
    refine WK.weak (l := [(.t 0, [iv v]), (.t 2, [.data (.slc true none 1 (List.map e_u8 []))])]) (wk_of (by kernel_rfl)) ?_
    refine WK.use (num_Put.lp5_ok fu _ v [] _ ho10) ?_
    intro e_ τ_ hp_
    obtain ⟨y10_0, y10_1⟩ := o10
    obtain ⟨rfl, rfl⟩ := hp_
    refine WKe.code (y := (cR (cR (cR bd14)))) (ks' := []) (by kernel_rfl) ?_
    obtain ⟨c11_1, h⟩ := gd_inv h
    refine WK.rs (g := [.s (.t 19) [.data (.slc true none 1 (List.map e_u8 (y10_1 ++ ([(w8 y10_0)] : List Int))))]]) (l' := [(.t 2, [.data (.slc true none 1 (List.map e_u8 (y10_1 ++ ([(w8 y10_0)] : List Int))))])]) (by kernel_rfl) (.cons (c_al (e := e_u8) (f := e_u8) c11_1) (.cons (congrArg (fun d : DV => [AV.data d]) (c_app (e := e_u8) (s := 1) (l := y10_1) (m := ([(w8 y10_0)] : List Int)))) .nil)) (by kernel_rfl) ?_
    refine WK.weak (l := [(.t 2, [.data (.slc true none 1 (List.map e_u8 (y10_1 ++ ([(w8 y10_0)] : List Int))))])]) (wk_of (by kernel_rfl)) ?_
    refine WK.ret (by kernel_rfl) ?_
    cases some_inj h
    exact WKe.fin (e' := .ret) (by kernel_rfl) (fin_of (g := []) (by first | exact .inl rfl | exact .inr rfl) .nil (by kernel_rfl))
/-- diwan/num.result -/
noncomputable def bd19 : Code := (Try.f19.body).getD .skip
def num_result.O : Nat → Nat := fun t => bif ([6, 7, 8] : List Nat).any (Nat.beq t) then 1 else 0
noncomputable def num_result (v : Int) (n_v : Int) (ok : Bool) : Option (Int × Int × Bool) :=
  br (!ok)
    (some (0, 0, false))
    (some (v, n_v, true))
theorem num_result.meets (v : Int) (n_v : Int) (ok : Bool) (z0 : Int) (z1 : Int) (z2 : Bool) (h : num_result v n_v ok = some (z0, z1, z2)) : Meets Try.prog ⟨19, [iv v, iv n_v, bv ok], []⟩ ⟨.tup [iv z0, iv z1, bv z2], []⟩ := by
  refine meets_of (O := num_result.O) hmix (fn := Try.f19) (code := bd19) (by kernel_rfl) ?_
  refine WK.weak (l := [(.t 0, [iv v]), (.t 1, [iv n_v]), (.t 2, [bv ok])]) (wk_of (by kernel_rfl)) ?_
  unfold num_result at h
  refine WK.rs (g := []) (l' := [(.t 0, [iv v]), (.t 1, [iv n_v]), (.t 2, [bv ok])]) (by kernel_rfl) .nil (by kernel_rfl) ?_
  refine WK.seq (by kernel_rfl) ?_
  refine WK.rs (g := []) (l' := [(.t 0, [iv v]), (.t 1, [iv n_v]), (.t 10, [bv (!ok)])]) (by kernel_rfl) .nil (by kernel_rfl) ?_
  rcases br_inv h with ⟨b3_0, h⟩ | ⟨b3_0, h⟩
  · refine WK.ct (b := (!ok)) (by kernel_rfl) b3_0 ?_
    refine WK.rs (g := []) (l' := [(.t 6, [iv 0]), (.t 7, [iv 0]), (.t 8, [bv false])]) (by kernel_rfl) .nil (by kernel_rfl) ?_
    refine WK.weak (l := [(.t 6, [iv 0]), (.t 7, [iv 0]), (.t 8, [bv false])]) (wk_of (by kernel_rfl)) ?_
    refine WK.ret (by kernel_rfl) ?_
    cases some_inj h
    exact WKe.fin (e' := .ret) (by kernel_rfl) (fin_of (g := []) (by first | exact .inl rfl | exact .inr rfl) .nil (by kernel_rfl))
  · refine WK.ce (b := (!ok)) (by kernel_rfl) b3_0 ?_
    refine WK.skip (by kernel_rfl) ?_
    refine WKe.code (y := (cR (cR bd19))) (ks' := []) (by kernel_rfl) ?_
    refine WK.rs (g := []) (l' := [(.t 6, [iv v]), (.t 7, [iv n_v]), (.t 8, [bv true])]) (by kernel_rfl) .nil (by kernel_rfl) ?_
    refine WK.weak (l := [(.t 6, [iv v]), (.t 7, [iv n_v]), (.t 8, [bv true])]) (wk_of (by kernel_rfl)) ?_
    refine WK.ret (by kernel_rfl) ?_
    cases some_inj h
    exact WKe.fin (e' := .ret) (by kernel_rfl) (fin_of (g := []) (by first | exact .inl rfl | exact .inr rfl) .nil (by kernel_rfl))
/-- diwan/num.Take -/
noncomputable def bd10 : Code := (Try.f10.body).getD .skip
def num_Take.O : Nat → Nat := fun t => bif ([2, 3, 4, 11] : List Nat).any (Nat.beq t) then 1 else 0
noncomputable def num_Take.lp3 (fu : Nat) (l3_1 : List Int) (l3_2 : Int) : Nat → Int → Int → Option (Unit ⊕ (Int × Int × Bool))
  | 0, _, _ => none
  | n_ + 1, l3_0, l3_3 =>
    br (decide (l3_3 < l3_2))
      (ix l3_1 l3_3 fun x6_1 =>
      gd (decide ((0 : Int) ≤ (w64 (7 * l3_3)))) <|
      br ((vand .u8 x6_1 128) == 0)
        (br (l3_3 == 0)
          (bd (num_result (vor .i64 l3_0 (vshl .i64 (w64 (vand .u8 x6_1 127)) (w64 (7 * l3_3)))) (w64 (l3_3 + 1)) true) fun (r10_2, r10_3, r10_4) =>
          some (.inr (r10_2, r10_3, r10_4)))
          (bd (num_result (vor .i64 l3_0 (vshl .i64 (w64 (vand .u8 x6_1 127)) (w64 (7 * l3_3)))) (w64 (l3_3 + 1)) (decide (x6_1 > 0))) fun (r10_2, r10_3, r10_4) =>
          some (.inr (r10_2, r10_3, r10_4))))
        (num_Take.lp3 fu l3_1 l3_2 n_ (vor .i64 l3_0 (vshl .i64 (w64 (vand .u8 x6_1 127)) (w64 (7 * l3_3)))) (w64 (l3_3 + 1))))
      (some (.inl ()))
noncomputable def num_Take.lp3_post (l3_1 : List Int) (l3_2 : Int) (r_ : (Unit ⊕ (Int × Int × Bool))) : Wy → St → Prop := fun e τ => match r_ with
  | .inl _ => e = .exit 0 ∧ τ = ofL []
  | .inr (y0, y1, y2) => e = .ret ∧ τ = ofL [(.t 2, [iv y0]), (.t 3, [iv y1]), (.t 4, [bv y2])]
theorem num_Take.lp3_ok (fu : Nat) (l3_1 : List Int) (l3_2 : Int) : ∀ (n_ : Nat) (l3_0 : Int) (l3_3 : Int) (r_ : (Unit ⊕ (Int × Int × Bool))), num_Take.lp3 fu l3_1 l3_2 n_ l3_0 l3_3 = some r_ → WK Try.prog num_Take.O (Ck Try.prog) (cB (cR (cL (cR bd10)))) [] (ofL [(.t 2, [iv l3_0]), (.t 11, [.data (.slc false none 1 (List.map e_u8 l3_1))]), (.t 12, [iv l3_2]), (.t 13, [iv l3_3])]) (num_Take.lp3_post l3_1 l3_2 r_) := by
  intro n_
  induction n_ with
  | zero => intro l3_0 l3_3 r_ h; exact no_none h
  | succ n_ ih =>
    intro l3_0 l3_3 r_ h
    refine WK.loop (by kernel_rfl) ?_
    refine WK.rs (g := []) (l' := [(.t 2, [iv l3_0]), (.t 11, [.data (.slc false none 1 (List.map e_u8 l3_1))]), (.t 12, [iv l3_2]), (.t 13, [iv l3_3]), (.t 14, [bv (decide (l3_3 < l3_2))])]) (by kernel_rfl) .nil (by kernel_rfl) ?_
    refine WK.seq (by kernel_rfl) ?_
    rcases br_inv h with ⟨b5_0, h⟩ | ⟨b5_0, h⟩
    · refine WK.ct (b := (decide (l3_3 < l3_2))) (by kernel_rfl) b5_0 ?_
      refine WK.skip (by kernel_rfl) ?_
      refine WKe.code (y := (cR (cR (cB (cB (cR (cL (cR bd10)))))))) (ks' := [.lp (cB (cR (cL (cR bd10))))]) (by kernel_rfl) ?_
      refine WK.seq (by kernel_rfl) ?_
      refine WK.block (n := 1) (by kernel_rfl) ?_
      obtain ⟨x6_1, a6_2, e6_3, h⟩ := ix_inv h
      refine WK.rs (g := [.c (e_u8 x6_1)]) (l' := [(.t 2, [iv l3_0]), (.t 5, [iv l3_3]), (.t 6, [.data (.val (.int .u8 x6_1))]), (.t 11, [.data (.slc false none 1 (List.map e_u8 l3_1))]), (.t 12, [iv l3_2]), (.t 13, [iv l3_3])]) (by kernel_rfl) (.cons (c_ix (e := e_u8) a6_2 e6_3) (.cons (c_el (e := e_u8) e6_3) .nil)) (by kernel_rfl) ?_
      obtain ⟨c7_1, h⟩ := gd_inv h
      refine WK.rs (g := []) (l' := [(.t 2, [iv (vor .i64 l3_0 (vshl .i64 (w64 (vand .u8 x6_1 127)) (w64 (7 * l3_3))))]), (.t 5, [iv l3_3]), (.t 6, [.data (.val (.int .u8 x6_1))]), (.t 11, [.data (.slc false none 1 (List.map e_u8 l3_1))]), (.t 12, [iv l3_2]), (.t 13, [iv l3_3])]) (by kernel_rfl) (.cons c7_1 .nil) (by kernel_rfl) ?_
      refine WK.rs (g := []) (l' := [(.t 2, [iv (vor .i64 l3_0 (vshl .i64 (w64 (vand .u8 x6_1 127)) (w64 (7 * l3_3))))]), (.t 5, [iv l3_3]), (.t 6, [.data (.val (.int .u8 x6_1))]), (.t 11, [.data (.slc false none 1 (List.map e_u8 l3_1))]), (.t 12, [iv l3_2]), (.t 13, [iv l3_3]), (.t 28, [bv ((vand .u8 x6_1 128) == 0)])]) (by kernel_rfl) .nil (by kernel_rfl) ?_
      rcases br_inv h with ⟨b9_0, h⟩ | ⟨b9_0, h⟩
      · refine WK.ct (b := ((vand .u8 x6_1 128) == 0)) (by kernel_rfl) b9_0 ?_
        rcases br_inv h with ⟨b10_1, h⟩ | ⟨b10_1, h⟩
        · obtain ⟨⟨r10_2, r10_3, r10_4⟩, h10_5, h⟩ := bd_inv h
          refine WK.rs (g := [.b true, .b true, .b true, .a ⟨.tup [iv r10_2, iv r10_3, bv r10_4], []⟩]) (l' := [(.t 2, [iv r10_2]), (.t 3, [iv r10_3]), (.t 4, [bv r10_4])]) (by kernel_rfl) (.cons b10_1 (.cons b10_1 (.cons b10_1 (.cons (Asks.of (C := Meets Try.prog) (num_result.meets (vor .i64 l3_0 (vshl .i64 (w64 (vand .u8 x6_1 127)) (w64 (7 * l3_3)))) (w64 (l3_3 + 1)) true _ _ _ h10_5)) .nil)))) (by kernel_rfl) ?_
          refine WK.weak (l := [(.t 2, [iv r10_2]), (.t 3, [iv r10_3]), (.t 4, [bv r10_4])]) (wk_of (by kernel_rfl)) ?_
          refine WK.ret (by kernel_rfl) ?_
          cases some_inj h
          exact WKe.fin (e' := .ret) (by kernel_rfl) ⟨rfl, rfl⟩
        · obtain ⟨⟨r10_2, r10_3, r10_4⟩, h10_5, h⟩ := bd_inv h
          refine WK.rs (g := [.b false, .b false, .b false, .a ⟨.tup [iv r10_2, iv r10_3, bv r10_4], []⟩]) (l' := [(.t 2, [iv r10_2]), (.t 3, [iv r10_3]), (.t 4, [bv r10_4])]) (by kernel_rfl) (.cons b10_1 (.cons b10_1 (.cons b10_1 (.cons (Asks.of (C := Meets Try.prog) (num_result.meets (vor .i64 l3_0 (vshl .i64 (w64 (vand .u8 x6_1 127)) (w64 (7 * l3_3)))) (w64 (l3_3 + 1)) (decide (x6_1 > 0)) _ _ _ h10_5)) .nil)))) (by kernel_rfl) ?_
          refine WK.weak (l := [(.t 2, [iv r10_2]), (.t 3, [iv r10_3]), (.t 4, [bv r10_4])]) (wk_of (by kernel_rfl)) ?_
          refine WK.ret (by kernel_rfl) ?_
          cases some_inj h
          exact WKe.fin (e' := .ret) (by kernel_rfl) ⟨rfl, rfl⟩
      · refine WK.ce (b := ((vand .u8 x6_1 128) == 0)) (by kernel_rfl) b9_0 ?_
        refine WK.skip (by kernel_rfl) ?_
        refine WKe.code (y := (cR (cR (cR (cB (cB (cR (cL (cR bd10))))))))) (ks' := [.lp (cB (cR (cL (cR bd10))))]) (by kernel_rfl) ?_
        refine WK.rc (g := []) (l' := [(.t 2, [iv (vor .i64 l3_0 (vshl .i64 (w64 (vand .u8 x6_1 127)) (w64 (7 * l3_3))))]), (.t 11, [.data (.slc false none 1 (List.map e_u8 l3_1))]), (.t 12, [iv l3_2]), (.t 13, [iv (w64 (l3_3 + 1))])]) .nil (by kernel_rfl) (y := (cB (cR (cL (cR bd10))))) (ks' := []) (by kernel_rfl) ?_
        exact WK.weak (l := [(.t 2, [iv (vor .i64 l3_0 (vshl .i64 (w64 (vand .u8 x6_1 127)) (w64 (7 * l3_3))))]), (.t 11, [.data (.slc false none 1 (List.map e_u8 l3_1))]), (.t 12, [iv l3_2]), (.t 13, [iv (w64 (l3_3 + 1))])]) (wk_of (by kernel_rfl)) (ih (vor .i64 l3_0 (vshl .i64 (w64 (vand .u8 x6_1 127)) (w64 (7 * l3_3)))) (w64 (l3_3 + 1)) _ h)
    · refine WK.ce (b := (decide (l3_3 < l3_2))) (by kernel_rfl) b5_0 ?_
      refine WK.weak (l := []) (wk_of (by kernel_rfl)) ?_
      refine WK.exit (n := 0) (by kernel_rfl) ?_
      cases some_inj h
      exact WKe.fin (e' := .exit 0) (by kernel_rfl) ⟨rfl, rfl⟩
noncomputable def num_Take (fu : Nat) (b : List Int) : Option (Int × Int × Bool) :=
  gd (decide ((0 : Int) ≤ (if (9 : Int) < (b.length : Int) then 9 else (b.length : Int)) ∧ (if (9 : Int) < (b.length : Int) then 9 else (b.length : Int)) ≤ (b.length : Int))) <|
  bd (num_Take.lp3 fu (List.take (if (9 : Int) < (b.length : Int) then 9 else (b.length : Int)).toNat b) ((List.take (if (9 : Int) < (b.length : Int) then 9 else (b.length : Int)).toNat b).length : Int) fu 0 0) fun o_ => (match o_ with
  | .inl _ =>
    some (0, 0, false)
  | .inr (y12_0, y12_1, y12_2) =>
    some (y12_0, y12_1, y12_2))
theorem num_Take.meets (fu : Nat) (b : List Int) (z0 : Int) (z1 : Int) (z2 : Bool) (h : num_Take fu b = some (z0, z1, z2)) : Meets Try.prog ⟨10, [.data (.slc false none 1 (List.map e_u8 b))], []⟩ ⟨.tup [iv z0, iv z1, bv z2], []⟩ := by
  refine meets_of (O := num_Take.O) hmix (fn := Try.f10) (code := bd10) (by kernel_rfl) ?_
  refine WK.weak (l := [(.t 0, [.data (.slc false none 1 (List.map e_u8 b))])]) (wk_of (by kernel_rfl)) ?_
  unfold num_Take at h
  refine WK.rs (g := []) (l' := [(.t 0, [.data (.slc false none 1 (List.map e_u8 b))]), (.t 2, [iv 0])]) (by kernel_rfl) .nil (by kernel_rfl) ?_
  refine WK.seq (by kernel_rfl) ?_
  obtain ⟨c2_1, h⟩ := gd_inv h
  refine WK.rs (g := [.s (.t 9) [iv (b.length : Int)], .s (.t 11) [.data (.slc false none 1 (List.map e_u8 (List.take (if (9 : Int) < (b.length : Int) then 9 else (b.length : Int)).toNat b)))], .s (.t 12) [iv ((List.take (if (9 : Int) < (b.length : Int) then 9 else (b.length : Int)).toNat b).length : Int)]]) (l' := [(.t 2, [iv 0]), (.t 11, [.data (.slc false none 1 (List.map e_u8 (List.take (if (9 : Int) < (b.length : Int) then 9 else (b.length : Int)).toNat b)))]), (.t 12, [iv ((List.take (if (9 : Int) < (b.length : Int) then 9 else (b.length : Int)).toNat b).length : Int)]), (.t 13, [iv 0])]) (by kernel_rfl) (.cons (c_len (e := e_u8) (l := b)) (.cons (c_cbH (e := e_u8) c2_1) (.cons (congrArg (fun d : DV => [AV.data d]) (c_cutH (own := false) (nl := none) (s := 1) (e := e_u8) (l := b) (h := (if (9 : Int) < (b.length : Int) then 9 else (b.length : Int)).toNat))) (.cons (c_len (e := e_u8) (l := (List.take (if (9 : Int) < (b.length : Int) then 9 else (b.length : Int)).toNat b))) .nil)))) (by kernel_rfl) ?_
  refine WK.block (n := 0) (by kernel_rfl) ?_
  obtain ⟨o12, ho12, h⟩ := bd_inv h
  refine WK.weak (l := [(.t 2, [iv 0]), (.t 11, [.data (.slc false none 1 (List.map e_u8 (List.take (if (9 : Int) < (b.length : Int) then 9 else (b.length : Int)).toNat b)))]), (.t 12, [iv ((List.take (if (9 : Int) < (b.length : Int) then 9 else (b.length : Int)).toNat b).length : Int)]), (.t 13, [iv 0])]) (wk_of (by kernel_rfl)) ?_
  refine WK.use (num_Take.lp3_ok fu (List.take (if (9 : Int) < (b.length : Int) then 9 else (b.length : Int)).toNat b) ((List.take (if (9 : Int) < (b.length : Int) then 9 else (b.length : Int)).toNat b).length : Int) _ 0 0 _ ho12) ?_
  intro e_ τ_ hp_
  rcases o12 with o12 | o12
  · obtain ⟨⟩ := o12
    obtain ⟨rfl, rfl⟩ := hp_
    refine WKe.code (y := (cR (cR bd10))) (ks' := []) (by kernel_rfl) ?_
    refine WK.rs (g := []) (l' := [(.t 2, [iv 0]), (.t 3, [iv 0]), (.t 4, [bv false])]) (by kernel_rfl) .nil (by kernel_rfl) ?_
    refine WK.weak (l := [(.t 2, [iv 0]), (.t 3, [iv 0]), (.t 4, [bv false])]) (wk_of (by kernel_rfl)) ?_
    refine WK.ret (by kernel_rfl) ?_
    cases some_inj h
    exact WKe.fin (e' := .ret) (by kernel_rfl) (fin_of (g := []) (by first | exact .inl rfl | exact .inr rfl) .nil (by kernel_rfl))
  · obtain ⟨y12_0, y12_1, y12_2⟩ := o12
    obtain ⟨rfl, rfl⟩ := hp_
    cases some_inj h
    exact WKe.fin (e' := .ret) (by kernel_rfl) (fin_of (g := []) (by first | exact .inl rfl | exact .inr rfl) .nil (by kernel_rfl))
/-- diwan/num.PutText -/
noncomputable def bd16 : Code := (Try.f16.body).getD .skip
def num_PutText.O : Nat → Nat := fun t => bif ([2] : List Nat).any (Nat.beq t) then 1 else 0
noncomputable def num_PutText (fu : Nat) (s : ByteArray) : Option (List Int) :=
  br (decide ((s.size : Int) > 255))
    (some [])
    (bd (num_Put fu (s.size : Int)) fun r5_1 =>
    gd (decide (r5_1.length + s.size ≤ 4294967296)) <|
    some (r5_1 ++ (bytesL s)))
theorem num_PutText.meets (fu : Nat) (s : ByteArray) (z0 : List Int) (h : num_PutText fu s = some z0) : Meets Try.prog ⟨16, [sv s], []⟩ ⟨.data (.slc true none 1 (List.map e_u8 z0)), []⟩ := by
  refine meets_of (O := num_PutText.O) hmix (fn := Try.f16) (code := bd16) (by kernel_rfl) ?_
  refine WK.weak (l := [(.t 0, [sv s])]) (wk_of (by kernel_rfl)) ?_
  unfold num_PutText at h
  refine WK.rs (g := []) (l' := [(.t 0, [sv s])]) (by kernel_rfl) .nil (by kernel_rfl) ?_
  refine WK.seq (by kernel_rfl) ?_
  refine WK.rs (g := []) (l' := [(.t 0, [sv s]), (.t 5, [bv (decide ((s.size : Int) > 255))])]) (by kernel_rfl) .nil (by kernel_rfl) ?_
  rcases br_inv h with ⟨b3_0, h⟩ | ⟨b3_0, h⟩
  · refine WK.ct (b := (decide ((s.size : Int) > 255))) (by kernel_rfl) b3_0 ?_
    refine WK.rs (g := []) (l' := [(.t 2, [.data (.slc true (some true) 1 (List.map e_u8 []))])]) (by kernel_rfl) .nil (by kernel_rfl) ?_
    refine WK.weak (l := [(.t 2, [.data (.slc true none 1 (List.map e_u8 []))])]) (wk_of (by kernel_rfl)) ?_
    refine WK.ret (by kernel_rfl) ?_
    cases some_inj h
    exact WKe.fin (e' := .ret) (by kernel_rfl) (fin_of (g := []) (by first | exact .inl rfl | exact .inr rfl) .nil (by kernel_rfl))
  · refine WK.ce (b := (decide ((s.size : Int) > 255))) (by kernel_rfl) b3_0 ?_
    refine WK.skip (by kernel_rfl) ?_
    refine WKe.code (y := (cR (cR bd16))) (ks' := []) (by kernel_rfl) ?_
    obtain ⟨r5_1, h5_2, h⟩ := bd_inv h
    obtain ⟨c5_3, h⟩ := gd_inv h
    refine WK.rs (g := [.a ⟨.data (.slc true none 1 (List.map e_u8 r5_1)), []⟩, .s (.t 10) [.data (.slc true none 1 (List.map e_u8 (r5_1 ++ (bytesL s))))]]) (l' := [(.t 2, [.data (.slc true none 1 (List.map e_u8 (r5_1 ++ (bytesL s))))])]) (by kernel_rfl) (.cons (Asks.of (C := Meets Try.prog) (num_Put.meets fu (s.size : Int) _ h5_2)) (.cons (c_als (e := e_u8) c5_3) (.cons (congrArg (fun d : DV => [AV.data d]) (c_apps (l := r5_1) (u := s))) .nil))) (by kernel_rfl) ?_
    refine WK.weak (l := [(.t 2, [.data (.slc true none 1 (List.map e_u8 (r5_1 ++ (bytesL s))))])]) (wk_of (by kernel_rfl)) ?_
    refine WK.ret (by kernel_rfl) ?_
    cases some_inj h
    exact WKe.fin (e' := .ret) (by kernel_rfl) (fin_of (g := []) (by first | exact .inl rfl | exact .inr rfl) .nil (by kernel_rfl))
/-- diwan/num.TakeText -/
noncomputable def bd12 : Code := (Try.f12.body).getD .skip
def num_TakeText.O : Nat → Nat := fun t => bif ([2, 3, 4, 5, 31] : List Nat).any (Nat.beq t) then 1 else 0
noncomputable def num_TakeText (fu : Nat) (b : List Int) : Option (ByteArray × Int × Bool) :=
  bd (num_Take fu b) fun (r2_1, r2_2, r2_3) =>
  br (!r2_3)
    (some (ByteArray.empty, 0, false))
    (br (decide (r2_1 > 255))
      (some (ByteArray.empty, 0, false))
      (br (decide (r2_1 > (w64 ((b.length : Int) - r2_2))))
        (some (ByteArray.empty, 0, false))
        (gd (decide ((0 : Int) ≤ r2_2 ∧ r2_2 ≤ (w64 (r2_2 + r2_1)) ∧ (w64 (r2_2 + r2_1)) ≤ (b.length : Int))) <|
        some ((strB (List.drop r2_2.toNat (List.take (w64 (r2_2 + r2_1)).toNat b))), (w64 (r2_2 + r2_1)), true))))
theorem num_TakeText.meets (fu : Nat) (b : List Int) (z0 : ByteArray) (z1 : Int) (z2 : Bool) (h : num_TakeText fu b = some (z0, z1, z2)) : Meets Try.prog ⟨12, [.data (.slc false none 1 (List.map e_u8 b))], []⟩ ⟨.tup [sv z0, iv z1, bv z2], []⟩ := by
  refine meets_of (O := num_TakeText.O) hmix (fn := Try.f12) (code := bd12) (by kernel_rfl) ?_
  refine WK.weak (l := [(.t 0, [.data (.slc false none 1 (List.map e_u8 b))])]) (wk_of (by kernel_rfl)) ?_
  unfold num_TakeText at h
  refine WK.rs (g := []) (l' := [(.t 0, [.data (.slc false none 1 (List.map e_u8 b))])]) (by kernel_rfl) .nil (by kernel_rfl) ?_
  obtain ⟨⟨r2_1, r2_2, r2_3⟩, h2_4, h⟩ := bd_inv h
  refine WK.rs (g := [.a ⟨.tup [iv r2_1, iv r2_2, bv r2_3], []⟩]) (l' := [(.t 0, [.data (.slc false none 1 (List.map e_u8 b))]), (.t 3, [iv r2_2]), (.t 4, [bv r2_3]), (.t 5, [iv r2_1])]) (by kernel_rfl) (.cons (Asks.of (C := Meets Try.prog) (num_Take.meets fu b _ _ _ h2_4)) .nil) (by kernel_rfl) ?_
  refine WK.seq (by kernel_rfl) ?_
  rcases br_inv h with ⟨b3_1, h⟩ | ⟨b3_1, h⟩
  · refine WK.rs (g := [.b true, .b true, .b true, .b true, .b true, .b true, .b true, .b true, .b true, .b true]) (l' := [(.t 0, [.data (.slc false none 1 (List.map e_u8 b))]), (.t 3, [iv r2_2]), (.t 5, [iv r2_1]), (.t 25, [bv true])]) (by kernel_rfl) (.cons b3_1 (.cons b3_1 (.cons b3_1 (.cons (Eq.refl true) (.cons (Eq.refl true) (.cons (Eq.refl true) (.cons (Eq.refl true) (.cons (Eq.refl true) (.cons (Eq.refl true) (.cons (Eq.refl true) .nil)))))))))) (by kernel_rfl) ?_
    refine WK.ct (b := true) (by kernel_rfl) rfl ?_
    refine WK.rs (g := []) (l' := [(.t 2, [sv ByteArray.empty]), (.t 3, [iv 0]), (.t 4, [bv false])]) (by kernel_rfl) .nil (by kernel_rfl) ?_
    refine WK.weak (l := [(.t 2, [sv ByteArray.empty]), (.t 3, [iv 0]), (.t 4, [bv false])]) (wk_of (by kernel_rfl)) ?_
    refine WK.ret (by kernel_rfl) ?_
    cases some_inj h
    exact WKe.fin (e' := .ret) (by kernel_rfl) (fin_of (g := []) (by first | exact .inl rfl | exact .inr rfl) .nil (by kernel_rfl))
  · rcases br_inv h with ⟨b3_2, h⟩ | ⟨b3_2, h⟩
    · refine WK.rs (g := [.b false, .b false, .b false, .b true, .b true, .b true, .b true, .b true, .b true, .b true]) (l' := [(.t 0, [.data (.slc false none 1 (List.map e_u8 b))]), (.t 3, [iv r2_2]), (.t 5, [iv r2_1]), (.t 25, [bv true])]) (by kernel_rfl) (.cons b3_1 (.cons b3_1 (.cons b3_1 (.cons b3_2 (.cons b3_2 (.cons b3_2 (.cons b3_2 (.cons b3_2 (.cons b3_2 (.cons b3_2 .nil)))))))))) (by kernel_rfl) ?_
      refine WK.ct (b := true) (by kernel_rfl) rfl ?_
      refine WK.rs (g := []) (l' := [(.t 2, [sv ByteArray.empty]), (.t 3, [iv 0]), (.t 4, [bv false])]) (by kernel_rfl) .nil (by kernel_rfl) ?_
      refine WK.weak (l := [(.t 2, [sv ByteArray.empty]), (.t 3, [iv 0]), (.t 4, [bv false])]) (wk_of (by kernel_rfl)) ?_
      refine WK.ret (by kernel_rfl) ?_
      cases some_inj h
      exact WKe.fin (e' := .ret) (by kernel_rfl) (fin_of (g := []) (by first | exact .inl rfl | exact .inr rfl) .nil (by kernel_rfl))
    · refine WK.rs (g := [.b false, .b false, .b false, .b false, .b false, .b false, .s (.t 21) [iv (b.length : Int)], .b false, .b false, .b false, .b false]) (l' := [(.t 0, [.data (.slc false none 1 (List.map e_u8 b))]), (.t 3, [iv r2_2]), (.t 5, [iv r2_1]), (.t 25, [bv (decide (r2_1 > (w64 ((b.length : Int) - r2_2))))])]) (by kernel_rfl) (.cons b3_1 (.cons b3_1 (.cons b3_1 (.cons b3_2 (.cons b3_2 (.cons b3_2 (.cons (c_len (e := e_u8) (l := b)) (.cons b3_2 (.cons b3_2 (.cons b3_2 (.cons b3_2 .nil))))))))))) (by kernel_rfl) ?_
      rcases br_inv h with ⟨b6_0, h⟩ | ⟨b6_0, h⟩
      · refine WK.ct (b := (decide (r2_1 > (w64 ((b.length : Int) - r2_2))))) (by kernel_rfl) b6_0 ?_
        refine WK.rs (g := []) (l' := [(.t 2, [sv ByteArray.empty]), (.t 3, [iv 0]), (.t 4, [bv false])]) (by kernel_rfl) .nil (by kernel_rfl) ?_
        refine WK.weak (l := [(.t 2, [sv ByteArray.empty]), (.t 3, [iv 0]), (.t 4, [bv false])]) (wk_of (by kernel_rfl)) ?_
        refine WK.ret (by kernel_rfl) ?_
        cases some_inj h
        exact WKe.fin (e' := .ret) (by kernel_rfl) (fin_of (g := []) (by first | exact .inl rfl | exact .inr rfl) .nil (by kernel_rfl))
      · refine WK.ce (b := (decide (r2_1 > (w64 ((b.length : Int) - r2_2))))) (by kernel_rfl) b6_0 ?_
        refine WK.skip (by kernel_rfl) ?_
        refine WKe.code (y := (cR (cR (cR bd12)))) (ks' := []) (by kernel_rfl) ?_
        obtain ⟨c8_1, h⟩ := gd_inv h
        refine WK.rs (g := [.s (.t 31) [.data (.slc false none 1 (List.map e_u8 (List.drop r2_2.toNat (List.take (w64 (r2_2 + r2_1)).toNat b))))]]) (l' := [(.t 2, [sv (strB (List.drop r2_2.toNat (List.take (w64 (r2_2 + r2_1)).toNat b)))]), (.t 3, [iv (w64 (r2_2 + r2_1))]), (.t 4, [bv true])]) (by kernel_rfl) (.cons (c_cb (e := e_u8) c8_1) (.cons (congrArg (fun d : DV => [AV.data d]) (c_cut (own := false) (nl := none) (s := 1) (e := e_u8) (l := b) (lo := r2_2.toNat) (h := (w64 (r2_2 + r2_1)).toNat))) (.cons (c_ab (List.drop r2_2.toNat (List.take (w64 (r2_2 + r2_1)).toNat b))) .nil))) (by kernel_rfl) ?_
        refine WK.weak (l := [(.t 2, [sv (strB (List.drop r2_2.toNat (List.take (w64 (r2_2 + r2_1)).toNat b)))]), (.t 3, [iv (w64 (r2_2 + r2_1))]), (.t 4, [bv true])]) (wk_of (by kernel_rfl)) ?_
        refine WK.ret (by kernel_rfl) ?_
        cases some_inj h
        exact WKe.fin (e' := .ret) (by kernel_rfl) (fin_of (g := []) (by first | exact .inl rfl | exact .inr rfl) .nil (by kernel_rfl))
/-- diwan/diwanlaw1.begun -/
noncomputable def bd8 : Code := (Try.f8.body).getD .skip
def diwanlaw1_begun.O : Nat → Nat := fun t => bif ([0, 1, 2, 3, 4, 5, 6, 7, 8, 9, 10, 19] : List Nat).any (Nat.beq t) then 1 else 0
noncomputable def diwanlaw1_begun (fu : Nat) : Option Bool :=
  bd (num_Put fu 300) fun r2_1 =>
  bd (num_Take fu r2_1) fun (r3_1, r3_2, r3_3) =>
  bd (num_Take fu ([128] : List Int)) fun (r4_1, r4_2, r4_3) =>
  bd (num_PutText fu (⟨#[97, 98]⟩ : ByteArray)) fun r5_1 =>
  bd (num_TakeText fu r5_1) fun (r5_3, r5_4, r5_5) =>
  br ((strB r2_1).toList == (⟨#[172, 2]⟩ : ByteArray).toList)
    (br r3_3
      (br (r3_1 == 300)
        (br (r3_2 == 2)
          (br (!r4_3)
            (bd (num_Put fu (-1)) fun r6_6 =>
            br ((r6_6.length : Int) == 0)
              (br r5_5
                (br (r5_3.toList == (⟨#[97, 98]⟩ : ByteArray).toList)
                  (some (r5_4 == 3))
                  (some false))
                (some false))
              (some false))
            (some false))
          (some false))
        (some false))
      (some false))
    (some false)
theorem diwanlaw1_begun.meets (fu : Nat) (z0 : Bool) (h : diwanlaw1_begun fu = some z0) : Meets Try.prog ⟨8, [], []⟩ ⟨bv z0, []⟩ := by
  refine meets_of (O := diwanlaw1_begun.O) hmix (fn := Try.f8) (code := bd8) (by kernel_rfl) ?_
  refine WK.weak (l := []) (wk_of (by kernel_rfl)) ?_
  unfold diwanlaw1_begun at h
  refine WK.rs (g := []) (l' := []) (by kernel_rfl) .nil (by kernel_rfl) ?_
  obtain ⟨r2_1, h2_2, h⟩ := bd_inv h
  refine WK.rs (g := [.a ⟨.data (.slc true none 1 (List.map e_u8 r2_1)), []⟩]) (l' := [(.t 1, [.data (.slc true none 1 (List.map e_u8 r2_1))])]) (by kernel_rfl) (.cons (Asks.of (C := Meets Try.prog) (num_Put.meets fu 300 _ h2_2)) .nil) (by kernel_rfl) ?_
  obtain ⟨⟨r3_1, r3_2, r3_3⟩, h3_4, h⟩ := bd_inv h
  refine WK.rs (g := [.a ⟨.tup [iv r3_1, iv r3_2, bv r3_3], []⟩]) (l' := [(.t 1, [.data (.slc true none 1 (List.map e_u8 r2_1))]), (.t 2, [iv r3_1]), (.t 3, [iv r3_2]), (.t 4, [bv r3_3])]) (by kernel_rfl) (.cons (Asks.of (C := Meets Try.prog) (num_Take.meets fu r2_1 _ _ _ h3_4)) .nil) (by kernel_rfl) ?_
  obtain ⟨⟨r4_1, r4_2, r4_3⟩, h4_4, h⟩ := bd_inv h
  refine WK.rs (g := [.a ⟨.tup [iv r4_1, iv r4_2, bv r4_3], []⟩]) (l' := [(.t 1, [.data (.slc true none 1 (List.map e_u8 r2_1))]), (.t 2, [iv r3_1]), (.t 3, [iv r3_2]), (.t 4, [bv r3_3]), (.t 7, [bv r4_3])]) (by kernel_rfl) (.cons (Asks.fg (args1 := []) (args2 := []) (nl := some false) (sz := 1) (es := List.map e_u8 ([128] : List Int)) (Asks.of (C := Meets Try.prog) (num_Take.meets fu ([128] : List Int) _ _ _ h4_4))) .nil) (by kernel_rfl) ?_
  obtain ⟨r5_1, h5_2, h⟩ := bd_inv h
  obtain ⟨⟨r5_3, r5_4, r5_5⟩, h5_6, h⟩ := bd_inv h
  refine WK.rs (g := [.a ⟨.data (.slc true none 1 (List.map e_u8 r5_1)), []⟩, .a ⟨.tup [sv r5_3, iv r5_4, bv r5_5], []⟩]) (l' := [(.t 1, [.data (.slc true none 1 (List.map e_u8 r2_1))]), (.t 2, [iv r3_1]), (.t 3, [iv r3_2]), (.t 4, [bv r3_3]), (.t 7, [bv r4_3]), (.t 8, [sv r5_3]), (.t 9, [iv r5_4]), (.t 10, [bv r5_5])]) (by kernel_rfl) (.cons (Asks.of (C := Meets Try.prog) (num_PutText.meets fu (⟨#[97, 98]⟩ : ByteArray) _ h5_2)) (.cons (Asks.of (C := Meets Try.prog) (num_TakeText.meets fu r5_1 _ _ _ h5_6)) .nil)) (by kernel_rfl) ?_
  rcases br_inv h with ⟨b6_1, h⟩ | ⟨b6_1, h⟩
  · rcases br_inv h with ⟨b6_2, h⟩ | ⟨b6_2, h⟩
    · rcases br_inv h with ⟨b6_3, h⟩ | ⟨b6_3, h⟩
      · rcases br_inv h with ⟨b6_4, h⟩ | ⟨b6_4, h⟩
        · rcases br_inv h with ⟨b6_5, h⟩ | ⟨b6_5, h⟩
          · obtain ⟨r6_6, h6_7, h⟩ := bd_inv h
            rcases br_inv h with ⟨b6_8, h⟩ | ⟨b6_8, h⟩
            · rcases br_inv h with ⟨b6_9, h⟩ | ⟨b6_9, h⟩
              · rcases br_inv h with ⟨b6_10, h⟩ | ⟨b6_10, h⟩
                · refine WK.rs (g := [.b true, .b true, .b true, .b true, .b true, .b true, .b true, .b true, .b true, .b true, .b true, .b true, .a ⟨.data (.slc true none 1 (List.map e_u8 r6_6)), []⟩, .b true, .s (.t 50) [iv (r6_6.length : Int)], .b true, .b true, .b true, .b true, .b true, .b true, .b true, .b true, .b true, .b true]) (l' := [(.t 0, [bv (r5_4 == 3)])]) (by kernel_rfl) (.cons (c_ab r2_1) (.cons b6_1 (.cons b6_1 (.cons b6_2 (.cons b6_2 (.cons b6_2 (.cons b6_3 (.cons b6_3 (.cons b6_3 (.cons b6_4 (.cons b6_4 (.cons b6_4 (.cons b6_5 (.cons (Asks.of (C := Meets Try.prog) (num_Put.meets fu (-1) _ h6_7)) (.cons b6_5 (.cons (c_len (e := e_u8) (l := r6_6)) (.cons b6_5 (.cons b6_5 (.cons b6_8 (.cons b6_8 (.cons b6_9 (.cons b6_9 (.cons b6_9 (.cons b6_10 (.cons b6_10 (.cons b6_10 .nil)))))))))))))))))))))))))) (by kernel_rfl) ?_
                  refine WK.weak (l := [(.t 0, [bv (r5_4 == 3)])]) (wk_of (by kernel_rfl)) ?_
                  refine WK.ret (by kernel_rfl) ?_
                  cases some_inj h
                  exact WKe.fin (e' := .ret) (by kernel_rfl) (fin_of (g := []) (by first | exact .inl rfl | exact .inr rfl) .nil (by kernel_rfl))
                · refine WK.rs (g := [.b true, .b true, .b true, .b true, .b true, .b true, .b true, .b true, .b true, .b true, .b true, .b true, .a ⟨.data (.slc true none 1 (List.map e_u8 r6_6)), []⟩, .b true, .s (.t 50) [iv (r6_6.length : Int)], .b true, .b true, .b true, .b true, .b true, .b true, .b true, .b false, .b false, .b false]) (l' := [(.t 0, [bv false])]) (by kernel_rfl) (.cons (c_ab r2_1) (.cons b6_1 (.cons b6_1 (.cons b6_2 (.cons b6_2 (.cons b6_2 (.cons b6_3 (.cons b6_3 (.cons b6_3 (.cons b6_4 (.cons b6_4 (.cons b6_4 (.cons b6_5 (.cons (Asks.of (C := Meets Try.prog) (num_Put.meets fu (-1) _ h6_7)) (.cons b6_5 (.cons (c_len (e := e_u8) (l := r6_6)) (.cons b6_5 (.cons b6_5 (.cons b6_8 (.cons b6_8 (.cons b6_9 (.cons b6_9 (.cons b6_9 (.cons b6_10 (.cons b6_10 (.cons b6_10 .nil)))))))))))))))))))))))))) (by kernel_rfl) ?_
                  refine WK.weak (l := [(.t 0, [bv false])]) (wk_of (by kernel_rfl)) ?_
                  refine WK.ret (by kernel_rfl) ?_
                  cases some_inj h
                  exact WKe.fin (e' := .ret) (by kernel_rfl) (fin_of (g := []) (by first | exact .inl rfl | exact .inr rfl) .nil (by kernel_rfl))
              · refine WK.rs (g := [.b true, .b true, .b true, .b true, .b true, .b true, .b true, .b true, .b true, .b true, .b true, .b true, .a ⟨.data (.slc true none 1 (List.map e_u8 r6_6)), []⟩, .b true, .s (.t 50) [iv (r6_6.length : Int)], .b true, .b true, .b true, .b true, .b false, .b false, .b false, .b false, .b false, .b false]) (l' := [(.t 0, [bv false])]) (by kernel_rfl) (.cons (c_ab r2_1) (.cons b6_1 (.cons b6_1 (.cons b6_2 (.cons b6_2 (.cons b6_2 (.cons b6_3 (.cons b6_3 (.cons b6_3 (.cons b6_4 (.cons b6_4 (.cons b6_4 (.cons b6_5 (.cons (Asks.of (C := Meets Try.prog) (num_Put.meets fu (-1) _ h6_7)) (.cons b6_5 (.cons (c_len (e := e_u8) (l := r6_6)) (.cons b6_5 (.cons b6_5 (.cons b6_8 (.cons b6_8 (.cons b6_9 (.cons b6_9 (.cons b6_9 (.cons (Eq.refl false) (.cons (Eq.refl false) (.cons (Eq.refl false) .nil)))))))))))))))))))))))))) (by kernel_rfl) ?_
                refine WK.weak (l := [(.t 0, [bv false])]) (wk_of (by kernel_rfl)) ?_
                refine WK.ret (by kernel_rfl) ?_
                cases some_inj h
                exact WKe.fin (e' := .ret) (by kernel_rfl) (fin_of (g := []) (by first | exact .inl rfl | exact .inr rfl) .nil (by kernel_rfl))
            · refine WK.rs (g := [.b true, .b true, .b true, .b true, .b true, .b true, .b true, .b true, .b true, .b true, .b true, .b true, .a ⟨.data (.slc true none 1 (List.map e_u8 r6_6)), []⟩, .b true, .s (.t 50) [iv (r6_6.length : Int)], .b true, .b true, .b false, .b false, .b false, .b false, .b false, .b false, .b false, .b false]) (l' := [(.t 0, [bv false])]) (by kernel_rfl) (.cons (c_ab r2_1) (.cons b6_1 (.cons b6_1 (.cons b6_2 (.cons b6_2 (.cons b6_2 (.cons b6_3 (.cons b6_3 (.cons b6_3 (.cons b6_4 (.cons b6_4 (.cons b6_4 (.cons b6_5 (.cons (Asks.of (C := Meets Try.prog) (num_Put.meets fu (-1) _ h6_7)) (.cons b6_5 (.cons (c_len (e := e_u8) (l := r6_6)) (.cons b6_5 (.cons b6_5 (.cons b6_8 (.cons b6_8 (.cons (Eq.refl false) (.cons (Eq.refl false) (.cons (Eq.refl false) (.cons (Eq.refl false) (.cons (Eq.refl false) (.cons (Eq.refl false) .nil)))))))))))))))))))))))))) (by kernel_rfl) ?_
              refine WK.weak (l := [(.t 0, [bv false])]) (wk_of (by kernel_rfl)) ?_
              refine WK.ret (by kernel_rfl) ?_
              cases some_inj h
              exact WKe.fin (e' := .ret) (by kernel_rfl) (fin_of (g := []) (by first | exact .inl rfl | exact .inr rfl) .nil (by kernel_rfl))
          · refine WK.rs (g := [.b true, .b true, .b true, .b true, .b true, .b true, .b true, .b true, .b true, .b true, .b true, .b false, .b false, .b false, .b false, .b false, .b false, .b false, .b false, .b false, .b false, .b false, .b false]) (l' := [(.t 0, [bv false])]) (by kernel_rfl) (.cons (c_ab r2_1) (.cons b6_1 (.cons b6_1 (.cons b6_2 (.cons b6_2 (.cons b6_2 (.cons b6_3 (.cons b6_3 (.cons b6_3 (.cons b6_4 (.cons b6_4 (.cons b6_4 (.cons b6_5 (.cons b6_5 (.cons b6_5 (.cons b6_5 (.cons (Eq.refl false) (.cons (Eq.refl false) (.cons (Eq.refl false) (.cons (Eq.refl false) (.cons (Eq.refl false) (.cons (Eq.refl false) (.cons (Eq.refl false) (.cons (Eq.refl false) .nil)))))))))))))))))))))))) (by kernel_rfl) ?_
            refine WK.weak (l := [(.t 0, [bv false])]) (wk_of (by kernel_rfl)) ?_
            refine WK.ret (by kernel_rfl) ?_
            cases some_inj h
            exact WKe.fin (e' := .ret) (by kernel_rfl) (fin_of (g := []) (by first | exact .inl rfl | exact .inr rfl) .nil (by kernel_rfl))
        · refine WK.rs (g := [.b true, .b true, .b true, .b true, .b true, .b true, .b true, .b true, .b false, .b false, .b false, .b false, .b false, .b false, .b false, .b false, .b false, .b false, .b false, .b false, .b false, .b false, .b false]) (l' := [(.t 0, [bv false])]) (by kernel_rfl) (.cons (c_ab r2_1) (.cons b6_1 (.cons b6_1 (.cons b6_2 (.cons b6_2 (.cons b6_2 (.cons b6_3 (.cons b6_3 (.cons b6_3 (.cons b6_4 (.cons b6_4 (.cons b6_4 (.cons (Eq.refl false) (.cons (Eq.refl false) (.cons (Eq.refl false) (.cons (Eq.refl false) (.cons (Eq.refl false) (.cons (Eq.refl false) (.cons (Eq.refl false) (.cons (Eq.refl false) (.cons (Eq.refl false) (.cons (Eq.refl false) (.cons (Eq.refl false) (.cons (Eq.refl false) .nil)))))))))))))))))))))))) (by kernel_rfl) ?_
          refine WK.weak (l := [(.t 0, [bv false])]) (wk_of (by kernel_rfl)) ?_
          refine WK.ret (by kernel_rfl) ?_
          cases some_inj h
          exact WKe.fin (e' := .ret) (by kernel_rfl) (fin_of (g := []) (by first | exact .inl rfl | exact .inr rfl) .nil (by kernel_rfl))
      · refine WK.rs (g := [.b true, .b true, .b true, .b true, .b true, .b false, .b false, .b false, .b false, .b false, .b false, .b false, .b false, .b false, .b false, .b false, .b false, .b false, .b false, .b false, .b false, .b false, .b false]) (l' := [(.t 0, [bv false])]) (by kernel_rfl) (.cons (c_ab r2_1) (.cons b6_1 (.cons b6_1 (.cons b6_2 (.cons b6_2 (.cons b6_2 (.cons b6_3 (.cons b6_3 (.cons b6_3 (.cons (Eq.refl false) (.cons (Eq.refl false) (.cons (Eq.refl false) (.cons (Eq.refl false) (.cons (Eq.refl false) (.cons (Eq.refl false) (.cons (Eq.refl false) (.cons (Eq.refl false) (.cons (Eq.refl false) (.cons (Eq.refl false) (.cons (Eq.refl false) (.cons (Eq.refl false) (.cons (Eq.refl false) (.cons (Eq.refl false) (.cons (Eq.refl false) .nil)))))))))))))))))))))))) (by kernel_rfl) ?_
        refine WK.weak (l := [(.t 0, [bv false])]) (wk_of (by kernel_rfl)) ?_
        refine WK.ret (by kernel_rfl) ?_
        cases some_inj h
        exact WKe.fin (e' := .ret) (by kernel_rfl) (fin_of (g := []) (by first | exact .inl rfl | exact .inr rfl) .nil (by kernel_rfl))
    · refine WK.rs (g := [.b true, .b true, .b false, .b false, .b false, .b false, .b false, .b false, .b false, .b false, .b false, .b false, .b false, .b false, .b false, .b false, .b false, .b false, .b false, .b false, .b false, .b false, .b false]) (l' := [(.t 0, [bv false])]) (by kernel_rfl) (.cons (c_ab r2_1) (.cons b6_1 (.cons b6_1 (.cons b6_2 (.cons b6_2 (.cons b6_2 (.cons (Eq.refl false) (.cons (Eq.refl false) (.cons (Eq.refl false) (.cons (Eq.refl false) (.cons (Eq.refl false) (.cons (Eq.refl false) (.cons (Eq.refl false) (.cons (Eq.refl false) (.cons (Eq.refl false) (.cons (Eq.refl false) (.cons (Eq.refl false) (.cons (Eq.refl false) (.cons (Eq.refl false) (.cons (Eq.refl false) (.cons (Eq.refl false) (.cons (Eq.refl false) (.cons (Eq.refl false) (.cons (Eq.refl false) .nil)))))))))))))))))))))))) (by kernel_rfl) ?_
      refine WK.weak (l := [(.t 0, [bv false])]) (wk_of (by kernel_rfl)) ?_
      refine WK.ret (by kernel_rfl) ?_
      cases some_inj h
      exact WKe.fin (e' := .ret) (by kernel_rfl) (fin_of (g := []) (by first | exact .inl rfl | exact .inr rfl) .nil (by kernel_rfl))
  · refine WK.rs (g := [.b false, .b false, .b false, .b false, .b false, .b false, .b false, .b false, .b false, .b false, .b false, .b false, .b false, .b false, .b false, .b false, .b false, .b false, .b false, .b false, .b false, .b false, .b false]) (l' := [(.t 0, [bv false])]) (by kernel_rfl) (.cons (c_ab r2_1) (.cons b6_1 (.cons b6_1 (.cons (Eq.refl false) (.cons (Eq.refl false) (.cons (Eq.refl false) (.cons (Eq.refl false) (.cons (Eq.refl false) (.cons (Eq.refl false) (.cons (Eq.refl false) (.cons (Eq.refl false) (.cons (Eq.refl false) (.cons (Eq.refl false) (.cons (Eq.refl false) (.cons (Eq.refl false) (.cons (Eq.refl false) (.cons (Eq.refl false) (.cons (Eq.refl false) (.cons (Eq.refl false) (.cons (Eq.refl false) (.cons (Eq.refl false) (.cons (Eq.refl false) (.cons (Eq.refl false) (.cons (Eq.refl false) .nil)))))))))))))))))))))))) (by kernel_rfl) ?_
    refine WK.weak (l := [(.t 0, [bv false])]) (wk_of (by kernel_rfl)) ?_
    refine WK.ret (by kernel_rfl) ?_
    cases some_inj h
    exact WKe.fin (e' := .ret) (by kernel_rfl) (fin_of (g := []) (by first | exact .inl rfl | exact .inr rfl) .nil (by kernel_rfl))
/-- diwan/diwanlaw1.NumRow -/
noncomputable def bd6 : Code := (Try.f6.body).getD .skip
def diwanlaw1_NumRow.O : Nat → Nat := fun t => bif ([4, 5, 6, 7, 8, 9, 10, 11, 12, 13, 14, 15] : List Nat).any (Nat.beq t) then 1 else 0
noncomputable def diwanlaw1_NumRow.lp11 (fu : Nat) (l11_0 : List Int) (l11_1 : List ByteArray) : Nat → (List Int) → Int → Option (List Int)
  | 0, _, _ => none
  | n_ + 1, l11_2, l11_3 =>
    br (decide (l11_3 < (l11_0.length : Int)))
      (ix l11_0 l11_3 fun x14_1 =>
      bd (num_Put fu (w64 x14_1)) fun r14_4 =>
      gd (decide (l11_2.length + r14_4.length ≤ 4294967296)) <|
      diwanlaw1_NumRow.lp11 fu l11_0 l11_1 n_ (l11_2 ++ r14_4) (w64 (l11_3 + 1)))
      (some l11_2)
noncomputable def diwanlaw1_NumRow.lp11_post (l11_0 : List Int) (l11_1 : List ByteArray) (r_ : (List Int)) : Wy → St → Prop := fun e τ => match r_ with
  | y0 => e = .exit 0 ∧ τ = ofL [(.t 0, [.data (.slc false none 1 (List.map e_u32 l11_0))]), (.t 1, [.data (.slc false none 1 (List.map e_s l11_1))]), (.t 5, [.data (.slc true none 1 (List.map e_u8 y0))])]
theorem diwanlaw1_NumRow.lp11_ok (fu : Nat) (l11_0 : List Int) (l11_1 : List ByteArray) : ∀ (n_ : Nat) (l11_2 : List Int) (l11_3 : Int) (r_ : (List Int)), diwanlaw1_NumRow.lp11 fu l11_0 l11_1 n_ l11_2 l11_3 = some r_ → WK Try.prog diwanlaw1_NumRow.O (Ck Try.prog) (cB (cR (cL (cR (cR (cR (cR bd6))))))) [] (ofL [(.t 0, [.data (.slc false none 1 (List.map e_u32 l11_0))]), (.t 1, [.data (.slc false none 1 (List.map e_s l11_1))]), (.t 5, [.data (.slc true none 1 (List.map e_u8 l11_2))]), (.t 6, [iv l11_3])]) (diwanlaw1_NumRow.lp11_post l11_0 l11_1 r_) := by
  intro n_
  induction n_ with
  | zero => intro l11_2 l11_3 r_ h; exact no_none h
  | succ n_ ih =>
    intro l11_2 l11_3 r_ h
    refine WK.loop (by kernel_rfl) ?_
    refine WK.seq (by kernel_rfl) ?_
    refine WK.rs (g := [.s (.t 28) [iv (l11_0.length : Int)]]) (l' := [(.t 0, [.data (.slc false none 1 (List.map e_u32 l11_0))]), (.t 1, [.data (.slc false none 1 (List.map e_s l11_1))]), (.t 5, [.data (.slc true none 1 (List.map e_u8 l11_2))]), (.t 6, [iv l11_3]), (.t 29, [bv (decide (l11_3 < (l11_0.length : Int)))])]) (by kernel_rfl) (.cons (c_len (e := e_u32) (l := l11_0)) .nil) (by kernel_rfl) ?_
    rcases br_inv h with ⟨b13_0, h⟩ | ⟨b13_0, h⟩
    · refine WK.ct (b := (decide (l11_3 < (l11_0.length : Int)))) (by kernel_rfl) b13_0 ?_
      refine WK.skip (by kernel_rfl) ?_
      refine WKe.code (y := (cR (cB (cB (cR (cL (cR (cR (cR (cR bd6)))))))))) (ks' := [.lp (cB (cR (cL (cR (cR (cR (cR bd6)))))))]) (by kernel_rfl) ?_
      refine WK.seq (by kernel_rfl) ?_
      refine WK.block (n := 1) (by kernel_rfl) ?_
      obtain ⟨x14_1, a14_2, e14_3, h⟩ := ix_inv h
      obtain ⟨r14_4, h14_5, h⟩ := bd_inv h
      obtain ⟨c14_6, h⟩ := gd_inv h
      refine WK.rc (g := [.c (e_u32 x14_1), .a ⟨.data (.slc true none 1 (List.map e_u8 r14_4)), []⟩, .s (.t 39) [.data (.slc true none 1 (List.map e_u8 (l11_2 ++ r14_4)))]]) (l' := [(.t 0, [.data (.slc false none 1 (List.map e_u32 l11_0))]), (.t 1, [.data (.slc false none 1 (List.map e_s l11_1))]), (.t 5, [.data (.slc true none 1 (List.map e_u8 (l11_2 ++ r14_4)))]), (.t 6, [iv l11_3])]) (.cons (c_ix (e := e_u32) a14_2 e14_3) (.cons (c_el (e := e_u32) e14_3) (.cons (Asks.of (C := Meets Try.prog) (num_Put.meets fu (w64 x14_1) _ h14_5)) (.cons (c_al (e := e_u8) (f := e_u8) c14_6) (.cons (congrArg (fun d : DV => [AV.data d]) (c_app (e := e_u8) (s := 1) (l := l11_2) (m := r14_4))) .nil))))) (by kernel_rfl) (y := (cR (cR (cB (cB (cR (cL (cR (cR (cR (cR bd6))))))))))) (ks' := [.lp (cB (cR (cL (cR (cR (cR (cR bd6)))))))]) (by kernel_rfl) ?_
      refine WK.rc (g := []) (l' := [(.t 0, [.data (.slc false none 1 (List.map e_u32 l11_0))]), (.t 1, [.data (.slc false none 1 (List.map e_s l11_1))]), (.t 5, [.data (.slc true none 1 (List.map e_u8 (l11_2 ++ r14_4)))]), (.t 6, [iv (w64 (l11_3 + 1))])]) .nil (by kernel_rfl) (y := (cB (cR (cL (cR (cR (cR (cR bd6)))))))) (ks' := []) (by kernel_rfl) ?_
      exact WK.weak (l := [(.t 0, [.data (.slc false none 1 (List.map e_u32 l11_0))]), (.t 1, [.data (.slc false none 1 (List.map e_s l11_1))]), (.t 5, [.data (.slc true none 1 (List.map e_u8 (l11_2 ++ r14_4)))]), (.t 6, [iv (w64 (l11_3 + 1))])]) (wk_of (by kernel_rfl)) (ih (l11_2 ++ r14_4) (w64 (l11_3 + 1)) _ h)
    · refine WK.ce (b := (decide (l11_3 < (l11_0.length : Int)))) (by kernel_rfl) b13_0 ?_
      refine WK.weak (l := [(.t 0, [.data (.slc false none 1 (List.map e_u32 l11_0))]), (.t 1, [.data (.slc false none 1 (List.map e_s l11_1))]), (.t 5, [.data (.slc true none 1 (List.map e_u8 l11_2))])]) (wk_of (by kernel_rfl)) ?_
      refine WK.exit (n := 0) (by kernel_rfl) ?_
      cases some_inj h
      exact WKe.fin (e' := .exit 0) (by kernel_rfl) ⟨rfl, rfl⟩
noncomputable def diwanlaw1_NumRow.lp18 (fu : Nat) (l18_0 : List Int) (l18_1 : List ByteArray) : Nat → (List Int) → Int → Option ((List Int) ⊕ Unit)
  | 0, _, _ => none
  | n_ + 1, l18_2, l18_3 =>
    br (decide (l18_3 < (l18_1.length : Int)))
      (ix l18_1 l18_3 fun x21_1 =>
      br (decide ((x21_1.size : Int) > 100))
        (some (.inr ()))
        (ix l18_1 l18_3 fun x24_1 =>
        bd (num_PutText fu x24_1) fun r24_4 =>
        gd (decide (l18_2.length + r24_4.length ≤ 4294967296)) <|
        diwanlaw1_NumRow.lp18 fu l18_0 l18_1 n_ (l18_2 ++ r24_4) (w64 (l18_3 + 1))))
      (some (.inl l18_2))
noncomputable def diwanlaw1_NumRow.lp18_post (l18_0 : List Int) (l18_1 : List ByteArray) (r_ : ((List Int) ⊕ Unit)) : Wy → St → Prop := fun e τ => match r_ with
  | .inl y0 => e = .exit 2 ∧ τ = ofL [(.t 0, [.data (.slc false none 1 (List.map e_u32 l18_0))]), (.t 1, [.data (.slc false none 1 (List.map e_s l18_1))]), (.t 5, [.data (.slc true none 1 (List.map e_u8 y0))])]
  | .inr _ => e = .ret ∧ τ = ofL [(.t 4, [bv true])]
theorem diwanlaw1_NumRow.lp18_ok (fu : Nat) (l18_0 : List Int) (l18_1 : List ByteArray) : ∀ (n_ : Nat) (l18_2 : List Int) (l18_3 : Int) (r_ : ((List Int) ⊕ Unit)), diwanlaw1_NumRow.lp18 fu l18_0 l18_1 n_ l18_2 l18_3 = some r_ → WK Try.prog diwanlaw1_NumRow.O (Ck Try.prog) (cB (cR (cL (cR (cR (cR (cR (cR bd6)))))))) [] (ofL [(.t 0, [.data (.slc false none 1 (List.map e_u32 l18_0))]), (.t 1, [.data (.slc false none 1 (List.map e_s l18_1))]), (.t 5, [.data (.slc true none 1 (List.map e_u8 l18_2))]), (.t 7, [iv l18_3])]) (diwanlaw1_NumRow.lp18_post l18_0 l18_1 r_) := by
  intro n_
  induction n_ with
  | zero => intro l18_2 l18_3 r_ h; exact no_none h
  | succ n_ ih =>
    intro l18_2 l18_3 r_ h
    refine WK.loop (by kernel_rfl) ?_
    refine WK.seq (by kernel_rfl) ?_
    refine WK.rs (g := [.s (.t 42) [iv (l18_1.length : Int)]]) (l' := [(.t 0, [.data (.slc false none 1 (List.map e_u32 l18_0))]), (.t 1, [.data (.slc false none 1 (List.map e_s l18_1))]), (.t 5, [.data (.slc true none 1 (List.map e_u8 l18_2))]), (.t 7, [iv l18_3]), (.t 43, [bv (decide (l18_3 < (l18_1.length : Int)))])]) (by kernel_rfl) (.cons (c_len (e := e_s) (l := l18_1)) .nil) (by kernel_rfl) ?_
    rcases br_inv h with ⟨b20_0, h⟩ | ⟨b20_0, h⟩
    · refine WK.ct (b := (decide (l18_3 < (l18_1.length : Int)))) (by kernel_rfl) b20_0 ?_
      refine WK.skip (by kernel_rfl) ?_
      refine WKe.code (y := (cR (cB (cB (cR (cL (cR (cR (cR (cR (cR bd6))))))))))) (ks' := [.lp (cB (cR (cL (cR (cR (cR (cR (cR bd6))))))))]) (by kernel_rfl) ?_
      refine WK.seq (by kernel_rfl) ?_
      refine WK.block (n := 3) (by kernel_rfl) ?_
      refine WK.seq (by kernel_rfl) ?_
      obtain ⟨x21_1, a21_2, e21_3, h⟩ := ix_inv h
      refine WK.rs (g := [.c (e_s x21_1)]) (l' := [(.t 0, [.data (.slc false none 1 (List.map e_u32 l18_0))]), (.t 1, [.data (.slc false none 1 (List.map e_s l18_1))]), (.t 5, [.data (.slc true none 1 (List.map e_u8 l18_2))]), (.t 7, [iv l18_3]), (.t 51, [bv (decide ((x21_1.size : Int) > 100))])]) (by kernel_rfl) (.cons (c_ix (e := e_s) a21_2 e21_3) (.cons (c_el (e := e_s) e21_3) .nil)) (by kernel_rfl) ?_
      rcases br_inv h with ⟨b22_0, h⟩ | ⟨b22_0, h⟩
      · refine WK.ct (b := (decide ((x21_1.size : Int) > 100))) (by kernel_rfl) b22_0 ?_
        refine WK.rs (g := []) (l' := [(.t 4, [bv true])]) (by kernel_rfl) .nil (by kernel_rfl) ?_
        refine WK.weak (l := [(.t 4, [bv true])]) (wk_of (by kernel_rfl)) ?_
        refine WK.ret (by kernel_rfl) ?_
        cases some_inj h
        exact WKe.fin (e' := .ret) (by kernel_rfl) ⟨rfl, rfl⟩
      · refine WK.ce (b := (decide ((x21_1.size : Int) > 100))) (by kernel_rfl) b22_0 ?_
        refine WK.skip (by kernel_rfl) ?_
        refine WKe.code (y := (cR (cB (cL (cR (cB (cB (cR (cL (cR (cR (cR (cR (cR bd6)))))))))))))) (ks' := [.blk 3, .seq (cR (cR (cB (cB (cR (cL (cR (cR (cR (cR (cR bd6))))))))))), .lp (cB (cR (cL (cR (cR (cR (cR (cR bd6))))))))]) (by kernel_rfl) ?_
        obtain ⟨x24_1, a24_2, e24_3, h⟩ := ix_inv h
        obtain ⟨r24_4, h24_5, h⟩ := bd_inv h
        obtain ⟨c24_6, h⟩ := gd_inv h
        refine WK.rc (g := [.c (e_s x24_1), .a ⟨.data (.slc true none 1 (List.map e_u8 r24_4)), []⟩, .s (.t 58) [.data (.slc true none 1 (List.map e_u8 (l18_2 ++ r24_4)))]]) (l' := [(.t 0, [.data (.slc false none 1 (List.map e_u32 l18_0))]), (.t 1, [.data (.slc false none 1 (List.map e_s l18_1))]), (.t 5, [.data (.slc true none 1 (List.map e_u8 (l18_2 ++ r24_4)))]), (.t 7, [iv l18_3])]) (.cons (c_ix (e := e_s) a24_2 e24_3) (.cons (c_el (e := e_s) e24_3) (.cons (Asks.of (C := Meets Try.prog) (num_PutText.meets fu x24_1 _ h24_5)) (.cons (c_al (e := e_u8) (f := e_u8) c24_6) (.cons (congrArg (fun d : DV => [AV.data d]) (c_app (e := e_u8) (s := 1) (l := l18_2) (m := r24_4))) .nil))))) (by kernel_rfl) (y := (cR (cR (cB (cB (cR (cL (cR (cR (cR (cR (cR bd6)))))))))))) (ks' := [.lp (cB (cR (cL (cR (cR (cR (cR (cR bd6))))))))]) (by kernel_rfl) ?_
        refine WK.rc (g := []) (l' := [(.t 0, [.data (.slc false none 1 (List.map e_u32 l18_0))]), (.t 1, [.data (.slc false none 1 (List.map e_s l18_1))]), (.t 5, [.data (.slc true none 1 (List.map e_u8 (l18_2 ++ r24_4)))]), (.t 7, [iv (w64 (l18_3 + 1))])]) .nil (by kernel_rfl) (y := (cB (cR (cL (cR (cR (cR (cR (cR bd6))))))))) (ks' := []) (by kernel_rfl) ?_
        exact WK.weak (l := [(.t 0, [.data (.slc false none 1 (List.map e_u32 l18_0))]), (.t 1, [.data (.slc false none 1 (List.map e_s l18_1))]), (.t 5, [.data (.slc true none 1 (List.map e_u8 (l18_2 ++ r24_4)))]), (.t 7, [iv (w64 (l18_3 + 1))])]) (wk_of (by kernel_rfl)) (ih (l18_2 ++ r24_4) (w64 (l18_3 + 1)) _ h)
    · refine WK.ce (b := (decide (l18_3 < (l18_1.length : Int)))) (by kernel_rfl) b20_0 ?_
      refine WK.weak (l := [(.t 0, [.data (.slc false none 1 (List.map e_u32 l18_0))]), (.t 1, [.data (.slc false none 1 (List.map e_s l18_1))]), (.t 5, [.data (.slc true none 1 (List.map e_u8 l18_2))])]) (wk_of (by kernel_rfl)) ?_
      refine WK.exit (n := 2) (by kernel_rfl) ?_
      cases some_inj h
      exact WKe.fin (e' := .exit 2) (by kernel_rfl) ⟨rfl, rfl⟩
noncomputable def diwanlaw1_NumRow.lp28 (fu : Nat) (l28_0 : List Int) (l28_1 : List ByteArray) : Nat → (List Int) → Int → Option ((List Int) ⊕ Unit)
  | 0, _, _ => none
  | n_ + 1, l28_2, l28_3 =>
    br (decide (l28_3 < (l28_0.length : Int)))
      (bd (num_Take fu l28_2) fun (r31_1, r31_2, r31_3) =>
      br (!r31_3)
        (some (.inr ()))
        (ix l28_0 l28_3 fun x32_2 =>
        br (r31_1 != (w64 x32_2))
          (some (.inr ()))
          (br (decide (r31_2 < 1))
            (some (.inr ()))
            (br (decide (r31_2 > (l28_2.length : Int)))
              (some (.inr ()))
              (gd (decide ((0 : Int) ≤ r31_2 ∧ r31_2 ≤ (l28_2.length : Int))) <|
              diwanlaw1_NumRow.lp28 fu l28_0 l28_1 n_ (List.drop r31_2.toNat l28_2) (w64 (l28_3 + 1)))))))
      (some (.inl l28_2))
noncomputable def diwanlaw1_NumRow.lp28_post (l28_0 : List Int) (l28_1 : List ByteArray) (r_ : ((List Int) ⊕ Unit)) : Wy → St → Prop := fun e τ => match r_ with
  | .inl y0 => e = .exit 4 ∧ τ = ofL [(.t 1, [.data (.slc false none 1 (List.map e_s l28_1))]), (.t 5, [.data (.slc false none 1 (List.map e_u8 y0))])]
  | .inr _ => e = .ret ∧ τ = ofL [(.t 4, [bv false])]
theorem diwanlaw1_NumRow.lp28_ok (fu : Nat) (l28_0 : List Int) (l28_1 : List ByteArray) : ∀ (n_ : Nat) (l28_2 : List Int) (l28_3 : Int) (r_ : ((List Int) ⊕ Unit)), diwanlaw1_NumRow.lp28 fu l28_0 l28_1 n_ l28_2 l28_3 = some r_ → WK Try.prog diwanlaw1_NumRow.O (Ck Try.prog) (cB (cR (cL (cR (cR (cR (cR (cR (cR bd6))))))))) [] (ofL [(.t 0, [.data (.slc false none 1 (List.map e_u32 l28_0))]), (.t 1, [.data (.slc false none 1 (List.map e_s l28_1))]), (.t 5, [.data (.slc false none 1 (List.map e_u8 l28_2))]), (.t 8, [iv l28_3])]) (diwanlaw1_NumRow.lp28_post l28_0 l28_1 r_) := by
  intro n_
  induction n_ with
  | zero => intro l28_2 l28_3 r_ h; exact no_none h
  | succ n_ ih =>
    intro l28_2 l28_3 r_ h
    refine WK.loop (by kernel_rfl) ?_
    refine WK.seq (by kernel_rfl) ?_
    refine WK.rs (g := [.s (.t 61) [iv (l28_0.length : Int)]]) (l' := [(.t 0, [.data (.slc false none 1 (List.map e_u32 l28_0))]), (.t 1, [.data (.slc false none 1 (List.map e_s l28_1))]), (.t 5, [.data (.slc false none 1 (List.map e_u8 l28_2))]), (.t 8, [iv l28_3]), (.t 62, [bv (decide (l28_3 < (l28_0.length : Int)))])]) (by kernel_rfl) (.cons (c_len (e := e_u32) (l := l28_0)) .nil) (by kernel_rfl) ?_
    rcases br_inv h with ⟨b30_0, h⟩ | ⟨b30_0, h⟩
    · refine WK.ct (b := (decide (l28_3 < (l28_0.length : Int)))) (by kernel_rfl) b30_0 ?_
      refine WK.skip (by kernel_rfl) ?_
      refine WKe.code (y := (cR (cB (cB (cR (cL (cR (cR (cR (cR (cR (cR bd6)))))))))))) (ks' := [.lp (cB (cR (cL (cR (cR (cR (cR (cR (cR bd6)))))))))]) (by kernel_rfl) ?_
      refine WK.seq (by kernel_rfl) ?_
      refine WK.block (n := 5) (by kernel_rfl) ?_
      obtain ⟨⟨r31_1, r31_2, r31_3⟩, h31_4, h⟩ := bd_inv h
      refine WK.rs (g := [.a ⟨.tup [iv r31_1, iv r31_2, bv r31_3], []⟩]) (l' := [(.t 0, [.data (.slc false none 1 (List.map e_u32 l28_0))]), (.t 1, [.data (.slc false none 1 (List.map e_s l28_1))]), (.t 5, [.data (.slc false none 1 (List.map e_u8 l28_2))]), (.t 8, [iv l28_3]), (.t 9, [iv r31_1]), (.t 10, [iv r31_2]), (.t 11, [bv r31_3])]) (by kernel_rfl) (.cons (Asks.of (C := Meets Try.prog) (num_Take.meets fu l28_2 _ _ _ h31_4)) .nil) (by kernel_rfl) ?_
      refine WK.seq (by kernel_rfl) ?_
      rcases br_inv h with ⟨b32_1, h⟩ | ⟨b32_1, h⟩
      · refine WK.rs (g := [.b true, .b true, .b true, .b true, .b true, .b true, .b true, .b true, .b true, .b true, .b true, .b true, .b true, .b true, .b true, .b true]) (l' := [(.t 0, [.data (.slc false none 1 (List.map e_u32 l28_0))]), (.t 1, [.data (.slc false none 1 (List.map e_s l28_1))]), (.t 5, [.data (.slc false none 1 (List.map e_u8 l28_2))]), (.t 8, [iv l28_3]), (.t 10, [iv r31_2]), (.t 91, [bv true])]) (by kernel_rfl) (.cons b32_1 (.cons b32_1 (.cons b32_1 (.cons b32_1 (.cons b32_1 (.cons b32_1 (.cons b32_1 (.cons b32_1 (.cons (Eq.refl true) (.cons (Eq.refl true) (.cons (Eq.refl true) (.cons (Eq.refl true) (.cons (Eq.refl true) (.cons (Eq.refl true) (.cons (Eq.refl true) (.cons (Eq.refl true) .nil)))))))))))))))) (by kernel_rfl) ?_
        refine WK.ct (b := true) (by kernel_rfl) rfl ?_
        refine WK.rs (g := []) (l' := [(.t 4, [bv false])]) (by kernel_rfl) .nil (by kernel_rfl) ?_
        refine WK.weak (l := [(.t 4, [bv false])]) (wk_of (by kernel_rfl)) ?_
        refine WK.ret (by kernel_rfl) ?_
        cases some_inj h
        exact WKe.fin (e' := .ret) (by kernel_rfl) ⟨rfl, rfl⟩
      · obtain ⟨x32_2, a32_3, e32_4, h⟩ := ix_inv h
        rcases br_inv h with ⟨b32_5, h⟩ | ⟨b32_5, h⟩
        · refine WK.rs (g := [.b false, .b false, .b false, .b false, .c (e_u32 x32_2), .b false, .b false, .b false, .b false, .b true, .b true, .b true, .b true, .b true, .b true, .b true, .b true]) (l' := [(.t 0, [.data (.slc false none 1 (List.map e_u32 l28_0))]), (.t 1, [.data (.slc false none 1 (List.map e_s l28_1))]), (.t 5, [.data (.slc false none 1 (List.map e_u8 l28_2))]), (.t 8, [iv l28_3]), (.t 10, [iv r31_2]), (.t 91, [bv true])]) (by kernel_rfl) (.cons b32_1 (.cons b32_1 (.cons b32_1 (.cons b32_1 (.cons (c_ix (e := e_u32) a32_3 e32_4) (.cons (c_el (e := e_u32) e32_4) (.cons b32_1 (.cons b32_1 (.cons b32_1 (.cons b32_1 (.cons b32_5 (.cons b32_5 (.cons b32_5 (.cons (Eq.refl true) (.cons (Eq.refl true) (.cons (Eq.refl true) (.cons (Eq.refl true) (.cons (Eq.refl true) .nil)))))))))))))))))) (by kernel_rfl) ?_
          refine WK.ct (b := true) (by kernel_rfl) rfl ?_
          refine WK.rs (g := []) (l' := [(.t 4, [bv false])]) (by kernel_rfl) .nil (by kernel_rfl) ?_
          refine WK.weak (l := [(.t 4, [bv false])]) (wk_of (by kernel_rfl)) ?_
          refine WK.ret (by kernel_rfl) ?_
          cases some_inj h
          exact WKe.fin (e' := .ret) (by kernel_rfl) ⟨rfl, rfl⟩
        · rcases br_inv h with ⟨b32_6, h⟩ | ⟨b32_6, h⟩
          · refine WK.rs (g := [.b false, .b false, .b false, .b false, .c (e_u32 x32_2), .b false, .b false, .b false, .b false, .b false, .b false, .b false, .b true, .b true, .b true, .b true, .b true]) (l' := [(.t 0, [.data (.slc false none 1 (List.map e_u32 l28_0))]), (.t 1, [.data (.slc false none 1 (List.map e_s l28_1))]), (.t 5, [.data (.slc false none 1 (List.map e_u8 l28_2))]), (.t 8, [iv l28_3]), (.t 10, [iv r31_2]), (.t 91, [bv true])]) (by kernel_rfl) (.cons b32_1 (.cons b32_1 (.cons b32_1 (.cons b32_1 (.cons (c_ix (e := e_u32) a32_3 e32_4) (.cons (c_el (e := e_u32) e32_4) (.cons b32_1 (.cons b32_1 (.cons b32_1 (.cons b32_1 (.cons b32_5 (.cons b32_5 (.cons b32_5 (.cons b32_6 (.cons b32_6 (.cons b32_6 (.cons b32_6 (.cons b32_6 .nil)))))))))))))))))) (by kernel_rfl) ?_
            refine WK.ct (b := true) (by kernel_rfl) rfl ?_
            refine WK.rs (g := []) (l' := [(.t 4, [bv false])]) (by kernel_rfl) .nil (by kernel_rfl) ?_
            refine WK.weak (l := [(.t 4, [bv false])]) (wk_of (by kernel_rfl)) ?_
            refine WK.ret (by kernel_rfl) ?_
            cases some_inj h
            exact WKe.fin (e' := .ret) (by kernel_rfl) ⟨rfl, rfl⟩
          · refine WK.rs (g := [.b false, .b false, .b false, .b false, .c (e_u32 x32_2), .b false, .b false, .b false, .b false, .b false, .b false, .b false, .b false, .b false, .b false, .s (.t 89) [iv (l28_2.length : Int)], .b false, .b false]) (l' := [(.t 0, [.data (.slc false none 1 (List.map e_u32 l28_0))]), (.t 1, [.data (.slc false none 1 (List.map e_s l28_1))]), (.t 5, [.data (.slc false none 1 (List.map e_u8 l28_2))]), (.t 8, [iv l28_3]), (.t 10, [iv r31_2]), (.t 91, [bv (decide (r31_2 > (l28_2.length : Int)))])]) (by kernel_rfl) (.cons b32_1 (.cons b32_1 (.cons b32_1 (.cons b32_1 (.cons (c_ix (e := e_u32) a32_3 e32_4) (.cons (c_el (e := e_u32) e32_4) (.cons b32_1 (.cons b32_1 (.cons b32_1 (.cons b32_1 (.cons b32_5 (.cons b32_5 (.cons b32_5 (.cons b32_6 (.cons b32_6 (.cons b32_6 (.cons (c_len (e := e_u8) (l := l28_2)) (.cons b32_6 (.cons b32_6 .nil))))))))))))))))))) (by kernel_rfl) ?_
            rcases br_inv h with ⟨b36_0, h⟩ | ⟨b36_0, h⟩
            · refine WK.ct (b := (decide (r31_2 > (l28_2.length : Int)))) (by kernel_rfl) b36_0 ?_
              refine WK.rs (g := []) (l' := [(.t 4, [bv false])]) (by kernel_rfl) .nil (by kernel_rfl) ?_
              refine WK.weak (l := [(.t 4, [bv false])]) (wk_of (by kernel_rfl)) ?_
              refine WK.ret (by kernel_rfl) ?_
              cases some_inj h
              exact WKe.fin (e' := .ret) (by kernel_rfl) ⟨rfl, rfl⟩
            · refine WK.ce (b := (decide (r31_2 > (l28_2.length : Int)))) (by kernel_rfl) b36_0 ?_
              refine WK.skip (by kernel_rfl) ?_
              refine WKe.code (y := (cR (cR (cB (cL (cR (cB (cB (cR (cL (cR (cR (cR (cR (cR (cR bd6)))))))))))))))) (ks' := [.blk 5, .seq (cR (cR (cB (cB (cR (cL (cR (cR (cR (cR (cR (cR bd6)))))))))))), .lp (cB (cR (cL (cR (cR (cR (cR (cR (cR bd6)))))))))]) (by kernel_rfl) ?_
              obtain ⟨c38_1, h⟩ := gd_inv h
              refine WK.rc (g := [.s (.t 94) [.data (.slc false none 1 (List.map e_u8 (List.drop r31_2.toNat l28_2)))]]) (l' := [(.t 0, [.data (.slc false none 1 (List.map e_u32 l28_0))]), (.t 1, [.data (.slc false none 1 (List.map e_s l28_1))]), (.t 5, [.data (.slc false none 1 (List.map e_u8 (List.drop r31_2.toNat l28_2)))]), (.t 8, [iv l28_3])]) (.cons (c_cbL (e := e_u8) c38_1) (.cons (congrArg (fun d : DV => [AV.data d]) (c_cutL (own := false) (nl := none) (s := 1) (e := e_u8) (l := l28_2) (lo := r31_2.toNat))) .nil)) (by kernel_rfl) (y := (cR (cR (cB (cB (cR (cL (cR (cR (cR (cR (cR (cR bd6))))))))))))) (ks' := [.lp (cB (cR (cL (cR (cR (cR (cR (cR (cR bd6)))))))))]) (by kernel_rfl) ?_
              refine WK.rc (g := []) (l' := [(.t 0, [.data (.slc false none 1 (List.map e_u32 l28_0))]), (.t 1, [.data (.slc false none 1 (List.map e_s l28_1))]), (.t 5, [.data (.slc false none 1 (List.map e_u8 (List.drop r31_2.toNat l28_2)))]), (.t 8, [iv (w64 (l28_3 + 1))])]) .nil (by kernel_rfl) (y := (cB (cR (cL (cR (cR (cR (cR (cR (cR bd6)))))))))) (ks' := []) (by kernel_rfl) ?_
              exact WK.weak (l := [(.t 0, [.data (.slc false none 1 (List.map e_u32 l28_0))]), (.t 1, [.data (.slc false none 1 (List.map e_s l28_1))]), (.t 5, [.data (.slc false none 1 (List.map e_u8 (List.drop r31_2.toNat l28_2)))]), (.t 8, [iv (w64 (l28_3 + 1))])]) (wk_of (by kernel_rfl)) (ih (List.drop r31_2.toNat l28_2) (w64 (l28_3 + 1)) _ h)
    · refine WK.ce (b := (decide (l28_3 < (l28_0.length : Int)))) (by kernel_rfl) b30_0 ?_
      refine WK.weak (l := [(.t 1, [.data (.slc false none 1 (List.map e_s l28_1))]), (.t 5, [.data (.slc false none 1 (List.map e_u8 l28_2))])]) (wk_of (by kernel_rfl)) ?_
      refine WK.exit (n := 4) (by kernel_rfl) ?_
      cases some_inj h
      exact WKe.fin (e' := .exit 4) (by kernel_rfl) ⟨rfl, rfl⟩
noncomputable def diwanlaw1_NumRow.lp42 (fu : Nat) (l42_0 : List ByteArray) : Nat → (List Int) → Int → Option ((List Int) ⊕ Unit)
  | 0, _, _ => none
  | n_ + 1, l42_1, l42_2 =>
    br (decide (l42_2 < (l42_0.length : Int)))
      (bd (num_TakeText fu l42_1) fun (r45_1, r45_2, r45_3) =>
      br (!r45_3)
        (some (.inr ()))
        (ix l42_0 l42_2 fun x46_2 =>
        br (!(r45_1.toList == x46_2.toList))
          (some (.inr ()))
          (br (decide (r45_2 < 1))
            (some (.inr ()))
            (br (decide (r45_2 > (l42_1.length : Int)))
              (some (.inr ()))
              (gd (decide ((0 : Int) ≤ r45_2 ∧ r45_2 ≤ (l42_1.length : Int))) <|
              diwanlaw1_NumRow.lp42 fu l42_0 n_ (List.drop r45_2.toNat l42_1) (w64 (l42_2 + 1)))))))
      (some (.inl l42_1))
noncomputable def diwanlaw1_NumRow.lp42_post (l42_0 : List ByteArray) (r_ : ((List Int) ⊕ Unit)) : Wy → St → Prop := fun e τ => match r_ with
  | .inl y0 => e = .exit 6 ∧ τ = ofL [(.t 5, [.data (.slc false none 1 (List.map e_u8 y0))])]
  | .inr _ => e = .ret ∧ τ = ofL [(.t 4, [bv false])]
theorem diwanlaw1_NumRow.lp42_ok (fu : Nat) (l42_0 : List ByteArray) : ∀ (n_ : Nat) (l42_1 : List Int) (l42_2 : Int) (r_ : ((List Int) ⊕ Unit)), diwanlaw1_NumRow.lp42 fu l42_0 n_ l42_1 l42_2 = some r_ → WK Try.prog diwanlaw1_NumRow.O (Ck Try.prog) (cB (cR (cL (cR (cR (cR (cR (cR (cR (cR bd6)))))))))) [] (ofL [(.t 1, [.data (.slc false none 1 (List.map e_s l42_0))]), (.t 5, [.data (.slc false none 1 (List.map e_u8 l42_1))]), (.t 12, [iv l42_2])]) (diwanlaw1_NumRow.lp42_post l42_0 r_) := by
  intro n_
  induction n_ with
  | zero => intro l42_1 l42_2 r_ h; exact no_none h
  | succ n_ ih =>
    intro l42_1 l42_2 r_ h
    refine WK.loop (by kernel_rfl) ?_
    refine WK.seq (by kernel_rfl) ?_
    refine WK.rs (g := [.s (.t 97) [iv (l42_0.length : Int)]]) (l' := [(.t 1, [.data (.slc false none 1 (List.map e_s l42_0))]), (.t 5, [.data (.slc false none 1 (List.map e_u8 l42_1))]), (.t 12, [iv l42_2]), (.t 98, [bv (decide (l42_2 < (l42_0.length : Int)))])]) (by kernel_rfl) (.cons (c_len (e := e_s) (l := l42_0)) .nil) (by kernel_rfl) ?_
    rcases br_inv h with ⟨b44_0, h⟩ | ⟨b44_0, h⟩
    · refine WK.ct (b := (decide (l42_2 < (l42_0.length : Int)))) (by kernel_rfl) b44_0 ?_
      refine WK.skip (by kernel_rfl) ?_
      refine WKe.code (y := (cR (cB (cB (cR (cL (cR (cR (cR (cR (cR (cR (cR bd6))))))))))))) (ks' := [.lp (cB (cR (cL (cR (cR (cR (cR (cR (cR (cR bd6))))))))))]) (by kernel_rfl) ?_
      refine WK.seq (by kernel_rfl) ?_
      refine WK.block (n := 7) (by kernel_rfl) ?_
      obtain ⟨⟨r45_1, r45_2, r45_3⟩, h45_4, h⟩ := bd_inv h
      refine WK.rs (g := [.a ⟨.tup [sv r45_1, iv r45_2, bv r45_3], []⟩]) (l' := [(.t 1, [.data (.slc false none 1 (List.map e_s l42_0))]), (.t 5, [.data (.slc false none 1 (List.map e_u8 l42_1))]), (.t 12, [iv l42_2]), (.t 13, [sv r45_1]), (.t 14, [iv r45_2]), (.t 15, [bv r45_3])]) (by kernel_rfl) (.cons (Asks.of (C := Meets Try.prog) (num_TakeText.meets fu l42_1 _ _ _ h45_4)) .nil) (by kernel_rfl) ?_
      refine WK.seq (by kernel_rfl) ?_
      rcases br_inv h with ⟨b46_1, h⟩ | ⟨b46_1, h⟩
      · refine WK.rs (g := [.b true, .b true, .b true, .b true, .b true, .b true, .b true, .b true, .b true, .b true, .b true, .b true, .b true, .b true, .b true]) (l' := [(.t 1, [.data (.slc false none 1 (List.map e_s l42_0))]), (.t 5, [.data (.slc false none 1 (List.map e_u8 l42_1))]), (.t 12, [iv l42_2]), (.t 14, [iv r45_2]), (.t 126, [bv true])]) (by kernel_rfl) (.cons b46_1 (.cons b46_1 (.cons b46_1 (.cons b46_1 (.cons b46_1 (.cons b46_1 (.cons b46_1 (.cons (Eq.refl true) (.cons (Eq.refl true) (.cons (Eq.refl true) (.cons (Eq.refl true) (.cons (Eq.refl true) (.cons (Eq.refl true) (.cons (Eq.refl true) (.cons (Eq.refl true) .nil))))))))))))))) (by kernel_rfl) ?_
        refine WK.ct (b := true) (by kernel_rfl) rfl ?_
        refine WK.rs (g := []) (l' := [(.t 4, [bv false])]) (by kernel_rfl) .nil (by kernel_rfl) ?_
        refine WK.weak (l := [(.t 4, [bv false])]) (wk_of (by kernel_rfl)) ?_
        refine WK.ret (by kernel_rfl) ?_
        cases some_inj h
        exact WKe.fin (e' := .ret) (by kernel_rfl) ⟨rfl, rfl⟩
      · obtain ⟨x46_2, a46_3, e46_4, h⟩ := ix_inv h
        rcases br_inv h with ⟨b46_5, h⟩ | ⟨b46_5, h⟩
        · refine WK.rs (g := [.b false, .b false, .b false, .b false, .c (e_s x46_2), .b false, .b false, .b false, .b true, .b true, .b true, .b true, .b true, .b true, .b true, .b true]) (l' := [(.t 1, [.data (.slc false none 1 (List.map e_s l42_0))]), (.t 5, [.data (.slc false none 1 (List.map e_u8 l42_1))]), (.t 12, [iv l42_2]), (.t 14, [iv r45_2]), (.t 126, [bv true])]) (by kernel_rfl) (.cons b46_1 (.cons b46_1 (.cons b46_1 (.cons b46_1 (.cons (c_ix (e := e_s) a46_3 e46_4) (.cons (c_el (e := e_s) e46_4) (.cons b46_1 (.cons b46_1 (.cons b46_1 (.cons b46_5 (.cons b46_5 (.cons b46_5 (.cons (Eq.refl true) (.cons (Eq.refl true) (.cons (Eq.refl true) (.cons (Eq.refl true) (.cons (Eq.refl true) .nil))))))))))))))))) (by kernel_rfl) ?_
          refine WK.ct (b := true) (by kernel_rfl) rfl ?_
          refine WK.rs (g := []) (l' := [(.t 4, [bv false])]) (by kernel_rfl) .nil (by kernel_rfl) ?_
          refine WK.weak (l := [(.t 4, [bv false])]) (wk_of (by kernel_rfl)) ?_
          refine WK.ret (by kernel_rfl) ?_
          cases some_inj h
          exact WKe.fin (e' := .ret) (by kernel_rfl) ⟨rfl, rfl⟩
        · rcases br_inv h with ⟨b46_6, h⟩ | ⟨b46_6, h⟩
          · refine WK.rs (g := [.b false, .b false, .b false, .b false, .c (e_s x46_2), .b false, .b false, .b false, .b false, .b false, .b false, .b true, .b true, .b true, .b true, .b true]) (l' := [(.t 1, [.data (.slc false none 1 (List.map e_s l42_0))]), (.t 5, [.data (.slc false none 1 (List.map e_u8 l42_1))]), (.t 12, [iv l42_2]), (.t 14, [iv r45_2]), (.t 126, [bv true])]) (by kernel_rfl) (.cons b46_1 (.cons b46_1 (.cons b46_1 (.cons b46_1 (.cons (c_ix (e := e_s) a46_3 e46_4) (.cons (c_el (e := e_s) e46_4) (.cons b46_1 (.cons b46_1 (.cons b46_1 (.cons b46_5 (.cons b46_5 (.cons b46_5 (.cons b46_6 (.cons b46_6 (.cons b46_6 (.cons b46_6 (.cons b46_6 .nil))))))))))))))))) (by kernel_rfl) ?_
            refine WK.ct (b := true) (by kernel_rfl) rfl ?_
            refine WK.rs (g := []) (l' := [(.t 4, [bv false])]) (by kernel_rfl) .nil (by kernel_rfl) ?_
            refine WK.weak (l := [(.t 4, [bv false])]) (wk_of (by kernel_rfl)) ?_
            refine WK.ret (by kernel_rfl) ?_
            cases some_inj h
            exact WKe.fin (e' := .ret) (by kernel_rfl) ⟨rfl, rfl⟩
          · refine WK.rs (g := [.b false, .b false, .b false, .b false, .c (e_s x46_2), .b false, .b false, .b false, .b false, .b false, .b false, .b false, .b false, .b false, .s (.t 124) [iv (l42_1.length : Int)], .b false, .b false]) (l' := [(.t 1, [.data (.slc false none 1 (List.map e_s l42_0))]), (.t 5, [.data (.slc false none 1 (List.map e_u8 l42_1))]), (.t 12, [iv l42_2]), (.t 14, [iv r45_2]), (.t 126, [bv (decide (r45_2 > (l42_1.length : Int)))])]) (by kernel_rfl) (.cons b46_1 (.cons b46_1 (.cons b46_1 (.cons b46_1 (.cons (c_ix (e := e_s) a46_3 e46_4) (.cons (c_el (e := e_s) e46_4) (.cons b46_1 (.cons b46_1 (.cons b46_1 (.cons b46_5 (.cons b46_5 (.cons b46_5 (.cons b46_6 (.cons b46_6 (.cons b46_6 (.cons (c_len (e := e_u8) (l := l42_1)) (.cons b46_6 (.cons b46_6 .nil)))))))))))))))))) (by kernel_rfl) ?_
            rcases br_inv h with ⟨b50_0, h⟩ | ⟨b50_0, h⟩
            · refine WK.ct (b := (decide (r45_2 > (l42_1.length : Int)))) (by kernel_rfl) b50_0 ?_
              refine WK.rs (g := []) (l' := [(.t 4, [bv false])]) (by kernel_rfl) .nil (by kernel_rfl) ?_
              refine WK.weak (l := [(.t 4, [bv false])]) (wk_of (by kernel_rfl)) ?_
              refine WK.ret (by kernel_rfl) ?_
              cases some_inj h
              exact WKe.fin (e' := .ret) (by kernel_rfl) ⟨rfl, rfl⟩
            · refine WK.ce (b := (decide (r45_2 > (l42_1.length : Int)))) (by kernel_rfl) b50_0 ?_
              refine WK.skip (by kernel_rfl) ?_
              refine WKe.code (y := (cR (cR (cB (cL (cR (cB (cB (cR (cL (cR (cR (cR (cR (cR (cR (cR bd6))))))))))))))))) (ks' := [.blk 7, .seq (cR (cR (cB (cB (cR (cL (cR (cR (cR (cR (cR (cR (cR bd6))))))))))))), .lp (cB (cR (cL (cR (cR (cR (cR (cR (cR (cR bd6))))))))))]) (by kernel_rfl) ?_
              obtain ⟨c52_1, h⟩ := gd_inv h
              refine WK.rc (g := [.s (.t 129) [.data (.slc false none 1 (List.map e_u8 (List.drop r45_2.toNat l42_1)))]]) (l' := [(.t 1, [.data (.slc false none 1 (List.map e_s l42_0))]), (.t 5, [.data (.slc false none 1 (List.map e_u8 (List.drop r45_2.toNat l42_1)))]), (.t 12, [iv l42_2])]) (.cons (c_cbL (e := e_u8) c52_1) (.cons (congrArg (fun d : DV => [AV.data d]) (c_cutL (own := false) (nl := none) (s := 1) (e := e_u8) (l := l42_1) (lo := r45_2.toNat))) .nil)) (by kernel_rfl) (y := (cR (cR (cB (cB (cR (cL (cR (cR (cR (cR (cR (cR (cR bd6)))))))))))))) (ks' := [.lp (cB (cR (cL (cR (cR (cR (cR (cR (cR (cR bd6))))))))))]) (by kernel_rfl) ?_
              refine WK.rc (g := []) (l' := [(.t 1, [.data (.slc false none 1 (List.map e_s l42_0))]), (.t 5, [.data (.slc false none 1 (List.map e_u8 (List.drop r45_2.toNat l42_1)))]), (.t 12, [iv (w64 (l42_2 + 1))])]) .nil (by kernel_rfl) (y := (cB (cR (cL (cR (cR (cR (cR (cR (cR (cR bd6))))))))))) (ks' := []) (by kernel_rfl) ?_
              exact WK.weak (l := [(.t 1, [.data (.slc false none 1 (List.map e_s l42_0))]), (.t 5, [.data (.slc false none 1 (List.map e_u8 (List.drop r45_2.toNat l42_1)))]), (.t 12, [iv (w64 (l42_2 + 1))])]) (wk_of (by kernel_rfl)) (ih (List.drop r45_2.toNat l42_1) (w64 (l42_2 + 1)) _ h)
    · refine WK.ce (b := (decide (l42_2 < (l42_0.length : Int)))) (by kernel_rfl) b44_0 ?_
      refine WK.weak (l := [(.t 5, [.data (.slc false none 1 (List.map e_u8 l42_1))])]) (wk_of (by kernel_rfl)) ?_
      refine WK.exit (n := 6) (by kernel_rfl) ?_
      cases some_inj h
      exact WKe.fin (e' := .exit 6) (by kernel_rfl) ⟨rfl, rfl⟩
noncomputable def diwanlaw1_NumRow (fu : Nat) (l : List Int) (t : List ByteArray) : Option Bool :=
  bd (diwanlaw1_begun fu) fun r2_1 =>
  br (!r2_1)
    (some false)
    (br (decide ((l.length : Int) > 20))
      (some true)
      (br (decide ((t.length : Int) > 10))
        (some true)
        (bd (diwanlaw1_NumRow.lp11 fu l t fu [] 0) fun y16_0 =>
        bd (diwanlaw1_NumRow.lp18 fu l t fu y16_0 0) fun o_ => (match o_ with
        | .inl y26_0 =>
          bd (diwanlaw1_NumRow.lp28 fu l t fu y26_0 0) fun o_ => (match o_ with
          | .inl y40_0 =>
            bd (diwanlaw1_NumRow.lp42 fu t fu y40_0 0) fun o_ => (match o_ with
            | .inl y54_0 =>
              some ((y54_0.length : Int) == 0)
            | .inr _ =>
              some false)
          | .inr _ =>
            some false)
        | .inr _ =>
          some true))))
theorem diwanlaw1_NumRow.meets (fu : Nat) (l : List Int) (t : List ByteArray) (z0 : Bool) (h : diwanlaw1_NumRow fu l t = some z0) : Meets Try.prog ⟨6, [.data (.slc false none 1 (List.map e_u32 l)), .data (.slc false none 1 (List.map e_s t))], []⟩ ⟨bv z0, []⟩ := by
  refine meets_of (O := diwanlaw1_NumRow.O) hmix (fn := Try.f6) (code := bd6) (by kernel_rfl) ?_
  refine WK.weak (l := [(.t 0, [.data (.slc false none 1 (List.map e_u32 l))]), (.t 1, [.data (.slc false none 1 (List.map e_s t))])]) (wk_of (by kernel_rfl)) ?_
  unfold diwanlaw1_NumRow at h
  refine WK.rs (g := []) (l' := [(.t 0, [.data (.slc false none 1 (List.map e_u32 l))]), (.t 1, [.data (.slc false none 1 (List.map e_s t))])]) (by kernel_rfl) .nil (by kernel_rfl) ?_
  refine WK.seq (by kernel_rfl) ?_
  obtain ⟨r2_1, h2_2, h⟩ := bd_inv h
  refine WK.rs (g := [.a ⟨bv r2_1, []⟩]) (l' := [(.t 0, [.data (.slc false none 1 (List.map e_u32 l))]), (.t 1, [.data (.slc false none 1 (List.map e_s t))]), (.t 17, [bv (!r2_1)])]) (by kernel_rfl) (.cons (Asks.of (C := Meets Try.prog) (diwanlaw1_begun.meets fu _ h2_2)) .nil) (by kernel_rfl) ?_
  rcases br_inv h with ⟨b3_0, h⟩ | ⟨b3_0, h⟩
  · refine WK.ct (b := (!r2_1)) (by kernel_rfl) b3_0 ?_
    refine WK.rs (g := []) (l' := [(.t 4, [bv false])]) (by kernel_rfl) .nil (by kernel_rfl) ?_
    refine WK.weak (l := [(.t 4, [bv false])]) (wk_of (by kernel_rfl)) ?_
    refine WK.ret (by kernel_rfl) ?_
    cases some_inj h
    exact WKe.fin (e' := .ret) (by kernel_rfl) (fin_of (g := []) (by first | exact .inl rfl | exact .inr rfl) .nil (by kernel_rfl))
  · refine WK.ce (b := (!r2_1)) (by kernel_rfl) b3_0 ?_
    refine WK.skip (by kernel_rfl) ?_
    refine WKe.code (y := (cR (cR bd6))) (ks' := []) (by kernel_rfl) ?_
    refine WK.seq (by kernel_rfl) ?_
    rcases br_inv h with ⟨b5_1, h⟩ | ⟨b5_1, h⟩
    · refine WK.rs (g := [.s (.t 19) [iv (l.length : Int)], .b true, .b true, .b true, .b true]) (l' := [(.t 0, [.data (.slc false none 1 (List.map e_u32 l))]), (.t 1, [.data (.slc false none 1 (List.map e_s t))]), (.t 25, [bv true])]) (by kernel_rfl) (.cons (c_len (e := e_u32) (l := l)) (.cons b5_1 (.cons b5_1 (.cons b5_1 (.cons b5_1 .nil))))) (by kernel_rfl) ?_
      refine WK.ct (b := true) (by kernel_rfl) rfl ?_
      refine WK.rs (g := []) (l' := [(.t 4, [bv true])]) (by kernel_rfl) .nil (by kernel_rfl) ?_
      refine WK.weak (l := [(.t 4, [bv true])]) (wk_of (by kernel_rfl)) ?_
      refine WK.ret (by kernel_rfl) ?_
      cases some_inj h
      exact WKe.fin (e' := .ret) (by kernel_rfl) (fin_of (g := []) (by first | exact .inl rfl | exact .inr rfl) .nil (by kernel_rfl))
    · refine WK.rs (g := [.s (.t 19) [iv (l.length : Int)], .b false, .b false, .s (.t 23) [iv (t.length : Int)], .b false, .b false]) (l' := [(.t 0, [.data (.slc false none 1 (List.map e_u32 l))]), (.t 1, [.data (.slc false none 1 (List.map e_s t))]), (.t 25, [bv (decide ((t.length : Int) > 10))])]) (by kernel_rfl) (.cons (c_len (e := e_u32) (l := l)) (.cons b5_1 (.cons b5_1 (.cons (c_len (e := e_s) (l := t)) (.cons b5_1 (.cons b5_1 .nil)))))) (by kernel_rfl) ?_
      rcases br_inv h with ⟨b7_0, h⟩ | ⟨b7_0, h⟩
      · refine WK.ct (b := (decide ((t.length : Int) > 10))) (by kernel_rfl) b7_0 ?_
        refine WK.rs (g := []) (l' := [(.t 4, [bv true])]) (by kernel_rfl) .nil (by kernel_rfl) ?_
        refine WK.weak (l := [(.t 4, [bv true])]) (wk_of (by kernel_rfl)) ?_
        refine WK.ret (by kernel_rfl) ?_
        cases some_inj h
        exact WKe.fin (e' := .ret) (by kernel_rfl) (fin_of (g := []) (by first | exact .inl rfl | exact .inr rfl) .nil (by kernel_rfl))
      · refine WK.ce (b := (decide ((t.length : Int) > 10))) (by kernel_rfl) b7_0 ?_
        refine WK.skip (by kernel_rfl) ?_
        refine WKe.code (y := (cR (cR (cR bd6)))) (ks' := []) (by kernel_rfl) ?_
        refine WK.rs (g := []) (l' := [(.t 0, [.data (.slc false none 1 (List.map e_u32 l))]), (.t 1, [.data (.slc false none 1 (List.map e_s t))]), (.t 5, [.data (.slc true (some true) 1 (List.map e_u8 []))])]) (by kernel_rfl) .nil (by kernel_rfl) ?_
        refine WK.seq (by kernel_rfl) ?_
        refine WK.rs (g := []) (l' := [(.t 0, [.data (.slc false none 1 (List.map e_u32 l))]), (.t 1, [.data (.slc false none 1 (List.map e_s t))]), (.t 5, [.data (.slc true (some true) 1 (List.map e_u8 []))]), (.t 6, [iv 0])]) (by kernel_rfl) .nil (by kernel_rfl) ?_
        refine WK.block (n := 0) (by kernel_rfl) ?_
        obtain ⟨o16, ho16, h⟩ := bd_inv h
        refine WK.weak (l := [(.t 0, [.data (.slc false none 1 (List.map e_u32 l))]), (.t 1, [.data (.slc false none 1 (List.map e_s t))]), (.t 5, [.data (.slc true none 1 (List.map e_u8 []))]), (.t 6, [iv 0])]) (wk_of (by kernel_rfl)) ?_
        refine WK.use (diwanlaw1_NumRow.lp11_ok fu l t _ [] 0 _ ho16) ?_
        intro e_ τ_ hp_
        obtain ⟨y16_0, rfl⟩ : ∃ y, y = o16 := ⟨_, rfl⟩
        obtain ⟨rfl, rfl⟩ := hp_
        refine WKe.code (y := (cR (cR (cR (cR (cR bd6)))))) (ks' := []) (by kernel_rfl) ?_
        refine WK.seq (by kernel_rfl) ?_
        refine WK.rs (g := []) (l' := [(.t 0, [.data (.slc false none 1 (List.map e_u32 l))]), (.t 1, [.data (.slc false none 1 (List.map e_s t))]), (.t 5, [.data (.slc true none 1 (List.map e_u8 y16_0))]), (.t 7, [iv 0])]) (by kernel_rfl) .nil (by kernel_rfl) ?_
        refine WK.block (n := 2) (by kernel_rfl) ?_
        obtain ⟨o26, ho26, h⟩ := bd_inv h
        refine WK.weak (l := [(.t 0, [.data (.slc false none 1 (List.map e_u32 l))]), (.t 1, [.data (.slc false none 1 (List.map e_s t))]), (.t 5, [.data (.slc true none 1 (List.map e_u8 y16_0))]), (.t 7, [iv 0])]) (wk_of (by kernel_rfl)) ?_
        refine WK.use (diwanlaw1_NumRow.lp18_ok fu l t _ y16_0 0 _ ho26) ?_
        intro e_ τ_ hp_
        rcases o26 with o26 | o26
        · obtain ⟨y26_0, rfl⟩ : ∃ y, y = o26 := ⟨_, rfl⟩
          obtain ⟨rfl, rfl⟩ := hp_
          refine WKe.code (y := (cR (cR (cR (cR (cR (cR bd6))))))) (ks' := []) (by kernel_rfl) ?_
          refine WK.seq (by kernel_rfl) ?_
          refine WK.rs (g := []) (l' := [(.t 0, [.data (.slc false none 1 (List.map e_u32 l))]), (.t 1, [.data (.slc false none 1 (List.map e_s t))]), (.t 5, [.data (.slc true none 1 (List.map e_u8 y26_0))]), (.t 8, [iv 0])]) (by kernel_rfl) .nil (by kernel_rfl) ?_
          refine WK.block (n := 4) (by kernel_rfl) ?_
          refine WK.share (x := .tmp 5) (l' := [(.t 0, [.data (.slc false none 1 (List.map e_u32 l))]), (.t 1, [.data (.slc false none 1 (List.map e_s t))]), (.t 5, [.data (.slc false none 1 (List.map e_u8 y26_0))]), (.t 8, [iv 0])]) (by kernel_rfl) ?_
          obtain ⟨o40, ho40, h⟩ := bd_inv h
          refine WK.weak (l := [(.t 0, [.data (.slc false none 1 (List.map e_u32 l))]), (.t 1, [.data (.slc false none 1 (List.map e_s t))]), (.t 5, [.data (.slc false none 1 (List.map e_u8 y26_0))]), (.t 8, [iv 0])]) (wk_of (by kernel_rfl)) ?_
          refine WK.use (diwanlaw1_NumRow.lp28_ok fu l t _ y26_0 0 _ ho40) ?_
          intro e_ τ_ hp_
          rcases o40 with o40 | o40
          · obtain ⟨y40_0, rfl⟩ : ∃ y, y = o40 := ⟨_, rfl⟩
            obtain ⟨rfl, rfl⟩ := hp_
            refine WKe.code (y := (cR (cR (cR (cR (cR (cR (cR bd6)))))))) (ks' := []) (by kernel_rfl) ?_
            refine WK.seq (by kernel_rfl) ?_
            refine WK.rs (g := []) (l' := [(.t 1, [.data (.slc false none 1 (List.map e_s t))]), (.t 5, [.data (.slc false none 1 (List.map e_u8 y40_0))]), (.t 12, [iv 0])]) (by kernel_rfl) .nil (by kernel_rfl) ?_
            refine WK.block (n := 6) (by kernel_rfl) ?_
            obtain ⟨o54, ho54, h⟩ := bd_inv h
            refine WK.weak (l := [(.t 1, [.data (.slc false none 1 (List.map e_s t))]), (.t 5, [.data (.slc false none 1 (List.map e_u8 y40_0))]), (.t 12, [iv 0])]) (wk_of (by kernel_rfl)) ?_
            refine WK.use (diwanlaw1_NumRow.lp42_ok fu t _ y40_0 0 _ ho54) ?_
            intro e_ τ_ hp_
            rcases o54 with o54 | o54
            · obtain ⟨y54_0, rfl⟩ : ∃ y, y = o54 := ⟨_, rfl⟩
              obtain ⟨rfl, rfl⟩ := hp_
              refine WKe.code (y := (cR (cR (cR (cR (cR (cR (cR (cR bd6))))))))) (ks' := []) (by kernel_rfl) ?_
              refine WK.rs (g := [.s (.t 131) [iv (y54_0.length : Int)]]) (l' := [(.t 4, [bv ((y54_0.length : Int) == 0)])]) (by kernel_rfl) (.cons (c_len (e := e_u8) (l := y54_0)) .nil) (by kernel_rfl) ?_
              refine WK.weak (l := [(.t 4, [bv ((y54_0.length : Int) == 0)])]) (wk_of (by kernel_rfl)) ?_
              refine WK.ret (by kernel_rfl) ?_
              cases some_inj h
              exact WKe.fin (e' := .ret) (by kernel_rfl) (fin_of (g := []) (by first | exact .inl rfl | exact .inr rfl) .nil (by kernel_rfl))
            · obtain ⟨⟩ := o54
              obtain ⟨rfl, rfl⟩ := hp_
              cases some_inj h
              exact WKe.fin (e' := .ret) (by kernel_rfl) (fin_of (g := []) (by first | exact .inl rfl | exact .inr rfl) .nil (by kernel_rfl))
          · obtain ⟨⟩ := o40
            obtain ⟨rfl, rfl⟩ := hp_
            cases some_inj h
            exact WKe.fin (e' := .ret) (by kernel_rfl) (fin_of (g := []) (by first | exact .inl rfl | exact .inr rfl) .nil (by kernel_rfl))
        · obtain ⟨⟩ := o26
          obtain ⟨rfl, rfl⟩ := hp_
          cases some_inj h
          exact WKe.fin (e' := .ret) (by kernel_rfl) (fin_of (g := []) (by first | exact .inl rfl | exact .inr rfl) .nil (by kernel_rfl))
end Go.Proofs.Ytiioolggdffdbaa.Told
