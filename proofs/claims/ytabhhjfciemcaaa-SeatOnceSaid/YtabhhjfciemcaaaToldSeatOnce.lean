/- Functions of the program told as Lean functions, with the walks of their code in the machine by value. -/
import Derived.Test.YtabhhjfciemcaaaProg
import Derived.Test.YtabhhjfciemcaaaVam2
import Derived.Test.YtabhhjfciemcaaaIns15
namespace Go.Proofs.Ytabhhjfciemcaaa.Told
open Go Go.Proofs Go.Proofs.Ytabhhjfciemcaaa Go.Proofs.Ytabhhjfciemcaaa.Vam
set_option linter.unusedVariables false
set_option maxRecDepth 100000
theorem hmix : Try.prog.follows .mixedOrders = true := by kernel_rfl
structure TA2_uint8 where
  c0 : Int
  c1 : Int
def TA2_uint8.en (x : TA2_uint8) : List DV := [.val (.int .u8 x.c0), .val (.int .u8 x.c1)]
structure TSeat where
  Session : Int
  Seq : Int
  Pos : Int
def TSeat.en (x : TSeat) : List DV := [.val (.int .i64 x.Session), .val (.int .i64 x.Seq), .val (.int .i64 x.Pos)]
structure TA6_int where
  c0 : Int
  c1 : Int
  c2 : Int
  c3 : Int
  c4 : Int
  c5 : Int
def TA6_int.en (x : TA6_int) : List DV := [.val (.int .i64 x.c0), .val (.int .i64 x.c1), .val (.int .i64 x.c2), .val (.int .i64 x.c3), .val (.int .i64 x.c4), .val (.int .i64 x.c5)]
/-- cmp.isNaN[int] -/
noncomputable def bd22 : Code := (Try.f22.body).getD .skip
def cmp_isNaN_int.O : Nat → Nat := fun t => bif ([2] : List Nat).any (Nat.beq t) then 1 else 0
noncomputable def cmp_isNaN_int (x_v : Int) : Option Bool :=
  some (x_v != x_v)
theorem cmp_isNaN_int.meets (x_v : Int) (z0 : Bool) (h : cmp_isNaN_int x_v = some z0) : Meets Try.prog ⟨22, [iv x_v], []⟩ ⟨bv z0, []⟩ := by
  refine meets_of (O := cmp_isNaN_int.O) hmix (fn := Try.f22) (code := bd22) (by kernel_rfl) ?_
  refine WK.weak (l := [(.t 0, [iv x_v])]) (wk_of (by kernel_rfl)) ?_
  unfold cmp_isNaN_int at h
  refine WK.rs (g := []) (l' := [(.t 0, [iv x_v])]) (by kernel_rfl) .nil (by kernel_rfl) ?_
  refine WK.rs (g := []) (l' := [(.t 2, [bv (x_v != x_v)])]) (by kernel_rfl) .nil (by kernel_rfl) ?_
  refine WK.weak (l := [(.t 2, [bv (x_v != x_v)])]) (wk_of (by kernel_rfl)) ?_
  refine WK.ret (by kernel_rfl) ?_
  cases some_inj h
  exact WKe.fin (e' := .ret) (by kernel_rfl) (fin_of (g := []) (by first | exact .inl rfl | exact .inr rfl) .nil (by kernel_rfl))
/-- cmp.Compare[int] -/
noncomputable def bd19 : Code := (Try.f19.body).getD .skip
def cmp_Compare_int.O : Nat → Nat := fun t => bif ([4, 5, 6] : List Nat).any (Nat.beq t) then 1 else 0
noncomputable def cmp_Compare_int (x_v : Int) (y_v : Int) : Option Int :=
  bd (cmp_isNaN_int x_v) fun r2_1 =>
  bd (cmp_isNaN_int y_v) fun r3_1 =>
  br r2_1
    (br r3_1
      (some 0)
      (some (-1)))
    (br r3_1
      (some 1)
      (br (decide (x_v < y_v))
        (some (-1))
        (br (decide (x_v > y_v))
          (some 1)
          (some 0))))
theorem cmp_Compare_int.meets (x_v : Int) (y_v : Int) (z0 : Int) (h : cmp_Compare_int x_v y_v = some z0) : Meets Try.prog ⟨19, [iv x_v, iv y_v], []⟩ ⟨iv z0, []⟩ := by
  refine meets_of (O := cmp_Compare_int.O) hmix (fn := Try.f19) (code := bd19) (by kernel_rfl) ?_
  refine WK.weak (l := [(.t 0, [iv x_v]), (.t 1, [iv y_v])]) (wk_of (by kernel_rfl)) ?_
  unfold cmp_Compare_int at h
  refine WK.rs (g := []) (l' := [(.t 0, [iv x_v]), (.t 1, [iv y_v])]) (by kernel_rfl) .nil (by kernel_rfl) ?_
  obtain ⟨r2_1, h2_2, h⟩ := bd_inv h
  refine WK.rs (g := [.a ⟨bv r2_1, []⟩]) (l' := [(.t 0, [iv x_v]), (.t 1, [iv y_v]), (.t 5, [bv r2_1])]) (by kernel_rfl) (.cons (Asks.of (C := Meets Try.prog) (cmp_isNaN_int.meets x_v _ h2_2)) .nil) (by kernel_rfl) ?_
  obtain ⟨r3_1, h3_2, h⟩ := bd_inv h
  refine WK.rs (g := [.a ⟨bv r3_1, []⟩]) (l' := [(.t 0, [iv x_v]), (.t 1, [iv y_v]), (.t 5, [bv r2_1]), (.t 6, [bv r3_1])]) (by kernel_rfl) (.cons (Asks.of (C := Meets Try.prog) (cmp_isNaN_int.meets y_v _ h3_2)) .nil) (by kernel_rfl) ?_
  refine WK.seq (by kernel_rfl) ?_
  refine WK.rs (g := []) (l' := [(.t 0, [iv x_v]), (.t 1, [iv y_v]), (.t 6, [bv r3_1]), (.t 11, [bv r2_1])]) (by kernel_rfl) .nil (by kernel_rfl) ?_
  rcases br_inv h with ⟨b5_0, h⟩ | ⟨b5_0, h⟩
  · refine WK.ct (b := r2_1) (by kernel_rfl) b5_0 ?_
    refine WK.seq (by kernel_rfl) ?_
    refine WK.rs (g := []) (l' := [(.t 12, [bv r3_1])]) (by kernel_rfl) .nil (by kernel_rfl) ?_
    rcases br_inv h with ⟨b7_0, h⟩ | ⟨b7_0, h⟩
    · refine WK.ct (b := r3_1) (by kernel_rfl) b7_0 ?_
      refine WK.rs (g := []) (l' := [(.t 4, [iv 0])]) (by kernel_rfl) .nil (by kernel_rfl) ?_
      refine WK.weak (l := [(.t 4, [iv 0])]) (wk_of (by kernel_rfl)) ?_
      refine WK.ret (by kernel_rfl) ?_
      cases some_inj h
      exact WKe.fin (e' := .ret) (by kernel_rfl) (fin_of (g := []) (by first | exact .inl rfl | exact .inr rfl) .nil (by kernel_rfl))
    · refine WK.ce (b := r3_1) (by kernel_rfl) b7_0 ?_
      refine WK.skip (by kernel_rfl) ?_
      refine WKe.code (y := (cR (cT (cR (cL (cR (cR (cR bd19)))))))) (ks' := [.seq (cR (cR (cR (cR bd19))))]) (by kernel_rfl) ?_
      refine WK.rs (g := []) (l' := [(.t 4, [iv (-1)])]) (by kernel_rfl) .nil (by kernel_rfl) ?_
      refine WK.weak (l := [(.t 4, [iv (-1)])]) (wk_of (by kernel_rfl)) ?_
      refine WK.ret (by kernel_rfl) ?_
      cases some_inj h
      exact WKe.fin (e' := .ret) (by kernel_rfl) (fin_of (g := []) (by first | exact .inl rfl | exact .inr rfl) .nil (by kernel_rfl))
  · refine WK.ce (b := r2_1) (by kernel_rfl) b5_0 ?_
    refine WK.skip (by kernel_rfl) ?_
    refine WKe.code (y := (cR (cR (cR (cR bd19))))) (ks' := []) (by kernel_rfl) ?_
    refine WK.seq (by kernel_rfl) ?_
    refine WK.rs (g := []) (l' := [(.t 0, [iv x_v]), (.t 1, [iv y_v]), (.t 13, [bv r3_1])]) (by kernel_rfl) .nil (by kernel_rfl) ?_
    rcases br_inv h with ⟨b11_0, h⟩ | ⟨b11_0, h⟩
    · refine WK.ct (b := r3_1) (by kernel_rfl) b11_0 ?_
      refine WK.rs (g := []) (l' := [(.t 4, [iv 1])]) (by kernel_rfl) .nil (by kernel_rfl) ?_
      refine WK.weak (l := [(.t 4, [iv 1])]) (wk_of (by kernel_rfl)) ?_
      refine WK.ret (by kernel_rfl) ?_
      cases some_inj h
      exact WKe.fin (e' := .ret) (by kernel_rfl) (fin_of (g := []) (by first | exact .inl rfl | exact .inr rfl) .nil (by kernel_rfl))
    · refine WK.ce (b := r3_1) (by kernel_rfl) b11_0 ?_
      refine WK.skip (by kernel_rfl) ?_
      refine WKe.code (y := (cR (cR (cR (cR (cR bd19)))))) (ks' := []) (by kernel_rfl) ?_
      refine WK.seq (by kernel_rfl) ?_
      refine WK.rs (g := []) (l' := [(.t 0, [iv x_v]), (.t 1, [iv y_v]), (.t 16, [bv (decide (x_v < y_v))])]) (by kernel_rfl) .nil (by kernel_rfl) ?_
      rcases br_inv h with ⟨b14_0, h⟩ | ⟨b14_0, h⟩
      · refine WK.ct (b := (decide (x_v < y_v))) (by kernel_rfl) b14_0 ?_
        refine WK.rs (g := []) (l' := [(.t 4, [iv (-1)])]) (by kernel_rfl) .nil (by kernel_rfl) ?_
        refine WK.weak (l := [(.t 4, [iv (-1)])]) (wk_of (by kernel_rfl)) ?_
        refine WK.ret (by kernel_rfl) ?_
        cases some_inj h
        exact WKe.fin (e' := .ret) (by kernel_rfl) (fin_of (g := []) (by first | exact .inl rfl | exact .inr rfl) .nil (by kernel_rfl))
      · refine WK.ce (b := (decide (x_v < y_v))) (by kernel_rfl) b14_0 ?_
        refine WK.skip (by kernel_rfl) ?_
        refine WKe.code (y := (cR (cR (cR (cR (cR (cR bd19))))))) (ks' := []) (by kernel_rfl) ?_
        refine WK.seq (by kernel_rfl) ?_
        refine WK.rs (g := []) (l' := [(.t 19, [bv (decide (x_v > y_v))])]) (by kernel_rfl) .nil (by kernel_rfl) ?_
        rcases br_inv h with ⟨b17_0, h⟩ | ⟨b17_0, h⟩
        · refine WK.ct (b := (decide (x_v > y_v))) (by kernel_rfl) b17_0 ?_
          refine WK.rs (g := []) (l' := [(.t 4, [iv 1])]) (by kernel_rfl) .nil (by kernel_rfl) ?_
          refine WK.weak (l := [(.t 4, [iv 1])]) (wk_of (by kernel_rfl)) ?_
          refine WK.ret (by kernel_rfl) ?_
          cases some_inj h
          exact WKe.fin (e' := .ret) (by kernel_rfl) (fin_of (g := []) (by first | exact .inl rfl | exact .inr rfl) .nil (by kernel_rfl))
        · refine WK.ce (b := (decide (x_v > y_v))) (by kernel_rfl) b17_0 ?_
          refine WK.skip (by kernel_rfl) ?_
          refine WKe.code (y := (cR (cR (cR (cR (cR (cR (cR bd19)))))))) (ks' := []) (by kernel_rfl) ?_
          refine WK.rs (g := []) (l' := [(.t 4, [iv 0])]) (by kernel_rfl) .nil (by kernel_rfl) ?_
          refine WK.weak (l := [(.t 4, [iv 0])]) (wk_of (by kernel_rfl)) ?_
          refine WK.ret (by kernel_rfl) ?_
          cases some_inj h
          exact WKe.fin (e' := .ret) (by kernel_rfl) (fin_of (g := []) (by first | exact .inl rfl | exact .inr rfl) .nil (by kernel_rfl))
/-- (diwan/seat.seats).find$1 -/
noncomputable def bd18 : Code := (Try.f18.body).getD .skip
def seat_seats_find_1.O : Nat → Nat := fun t => bif ([2, 4] : List Nat).any (Nat.beq t) then 1 else 0
noncomputable def seat_seats_find_1 (s : TSeat) (session : Int) : Option Int :=
  bd (cmp_Compare_int s.Session session) fun r2_1 =>
  some r2_1
theorem seat_seats_find_1.meets (s : TSeat) (session : Int) (z0 : Int) (h : seat_seats_find_1 s session = some z0) : Meets Try.prog ⟨18, [.data (.agg [.val (.int .i64 s.Session), .val (.int .i64 s.Seq), .val (.int .i64 s.Pos)]), iv session], []⟩ ⟨iv z0, []⟩ := by
  refine meets_of (O := seat_seats_find_1.O) hmix (fn := Try.f18) (code := bd18) (by kernel_rfl) ?_
  refine WK.weak (l := [(.t 0, [.data (.agg [.val (.int .i64 s.Session), .val (.int .i64 s.Seq), .val (.int .i64 s.Pos)])]), (.t 1, [iv session])]) (wk_of (by kernel_rfl)) ?_
  unfold seat_seats_find_1 at h
  refine WK.rs (g := []) (l' := [(.t 1, [iv session]), (.t 2, [.ptr 2 0]), (.o 2, [iv s.Session, iv s.Seq, iv s.Pos])]) (by kernel_rfl) .nil (by kernel_rfl) ?_
  obtain ⟨r2_1, h2_2, h⟩ := bd_inv h
  refine WK.rs (g := [.a ⟨iv r2_1, []⟩]) (l' := [(.t 4, [iv r2_1])]) (by kernel_rfl) (.cons (Asks.of (C := Meets Try.prog) (cmp_Compare_int.meets s.Session session _ h2_2)) .nil) (by kernel_rfl) ?_
  refine WK.weak (l := [(.t 4, [iv r2_1])]) (wk_of (by kernel_rfl)) ?_
  refine WK.ret (by kernel_rfl) ?_
  cases some_inj h
  exact WKe.fin (e' := .ret) (by kernel_rfl) (fin_of (g := []) (by first | exact .inl rfl | exact .inr rfl) .nil (by kernel_rfl))
/-- slices.BinarySearchFunc[diwan/seat.seats,diwan/api.Seat,int] -/
noncomputable def bd17 : Code := (Try.f17.body).getD .skip
def slices_BinarySearchFunc_api_Seat_int.O : Nat → Nat := fun t => bif ([6, 7, 8, 9, 11] : List Nat).any (Nat.beq t) then 1 else 0
noncomputable def slices_BinarySearchFunc_api_Seat_int.lp4 (fu : Nat) (l4_0 : List TSeat) (l4_1 : Int) (l4_2 : Int) : Nat → Int → Int → Option Int
  | 0, _, _ => none
  | n_ + 1, l4_3, l4_4 =>
    br (decide (l4_3 < l4_4))
      (ix l4_0 (w64 (vshr .u64 (IntKind.u64.wrap (w64 (l4_3 + l4_4))) 1)) fun x8_1 =>
      bd (seat_seats_find_1 x8_1 l4_1) fun r8_4 =>
      br (decide (r8_4 < 0))
        (slices_BinarySearchFunc_api_Seat_int.lp4 fu l4_0 l4_1 l4_2 n_ (w64 ((w64 (vshr .u64 (IntKind.u64.wrap (w64 (l4_3 + l4_4))) 1)) + 1)) l4_4)
        (slices_BinarySearchFunc_api_Seat_int.lp4 fu l4_0 l4_1 l4_2 n_ l4_3 (w64 (vshr .u64 (IntKind.u64.wrap (w64 (l4_3 + l4_4))) 1))))
      (some l4_3)
noncomputable def slices_BinarySearchFunc_api_Seat_int.lp4_post (l4_0 : List TSeat) (l4_1 : Int) (l4_2 : Int) (r_ : Int) : Wy → St → Prop := fun e τ => match r_ with
  | y0 => e = .exit 0 ∧ τ = ofL [(.t 0, [.data (.slc false none 3 (List.map TSeat.en l4_0))]), (.t 1, [iv l4_1]), (.t 2, [.fn (.func 18) [] []]), (.t 8, [iv l4_2]), (.t 9, [iv y0])]
theorem slices_BinarySearchFunc_api_Seat_int.lp4_ok (fu : Nat) (l4_0 : List TSeat) (l4_1 : Int) (l4_2 : Int) : ∀ (n_ : Nat) (l4_3 : Int) (l4_4 : Int) (r_ : Int), slices_BinarySearchFunc_api_Seat_int.lp4 fu l4_0 l4_1 l4_2 n_ l4_3 l4_4 = some r_ → WK Try.prog slices_BinarySearchFunc_api_Seat_int.O (Ck Try.prog) (cB (cL (cR (cR (cR bd17))))) [] (ofL [(.t 0, [.data (.slc false none 3 (List.map TSeat.en l4_0))]), (.t 1, [iv l4_1]), (.t 2, [.fn (.func 18) [] []]), (.t 8, [iv l4_2]), (.t 9, [iv l4_3]), (.t 10, [iv l4_4])]) (slices_BinarySearchFunc_api_Seat_int.lp4_post l4_0 l4_1 l4_2 r_) := by
  intro n_
  induction n_ with
  | zero => intro l4_3 l4_4 r_ h; exact no_none h
  | succ n_ ih =>
    intro l4_3 l4_4 r_ h
    refine WK.loop (by kernel_rfl) ?_
    refine WK.seq (by kernel_rfl) ?_
    refine WK.rs (g := []) (l' := [(.t 0, [.data (.slc false none 3 (List.map TSeat.en l4_0))]), (.t 1, [iv l4_1]), (.t 2, [.fn (.func 18) [] []]), (.t 8, [iv l4_2]), (.t 9, [iv l4_3]), (.t 10, [iv l4_4]), (.t 17, [bv (decide (l4_3 < l4_4))])]) (by kernel_rfl) .nil (by kernel_rfl) ?_
    rcases br_inv h with ⟨b6_0, h⟩ | ⟨b6_0, h⟩
    · refine WK.ct (b := (decide (l4_3 < l4_4))) (by kernel_rfl) b6_0 ?_
      refine WK.skip (by kernel_rfl) ?_
      refine WKe.code (y := (cR (cB (cB (cL (cR (cR (cR bd17)))))))) (ks' := [.lp (cB (cL (cR (cR (cR bd17)))))]) (by kernel_rfl) ?_
      refine WK.block (n := 1) (by kernel_rfl) ?_
      refine WK.rs (g := []) (l' := [(.t 0, [.data (.slc false none 3 (List.map TSeat.en l4_0))]), (.t 1, [iv l4_1]), (.t 2, [.fn (.func 18) [] []]), (.t 8, [iv l4_2]), (.t 9, [iv l4_3]), (.t 10, [iv l4_4]), (.t 11, [iv (w64 (vshr .u64 (IntKind.u64.wrap (w64 (l4_3 + l4_4))) 1))])]) (by kernel_rfl) (.cons (Eq.refl true) .nil) (by kernel_rfl) ?_
      obtain ⟨x8_1, a8_2, e8_3, h⟩ := ix_inv h
      obtain ⟨r8_4, h8_5, h⟩ := bd_inv h
      refine WK.rs (g := [.c (TSeat.en x8_1), .a ⟨iv r8_4, []⟩]) (l' := [(.t 0, [.data (.slc false none 3 (List.map TSeat.en l4_0))]), (.t 1, [iv l4_1]), (.t 2, [.fn (.func 18) [] []]), (.t 8, [iv l4_2]), (.t 9, [iv l4_3]), (.t 10, [iv l4_4]), (.t 11, [iv (w64 (vshr .u64 (IntKind.u64.wrap (w64 (l4_3 + l4_4))) 1))]), (.t 31, [bv (decide (r8_4 < 0))])]) (by kernel_rfl) (.cons (c_ix (e := TSeat.en) a8_2 e8_3) (.cons (c_el (e := TSeat.en) e8_3) (.cons (Asks.of (C := Meets Try.prog) (seat_seats_find_1.meets x8_1 l4_1 _ h8_5)) .nil))) (by kernel_rfl) ?_
      rcases br_inv h with ⟨b9_0, h⟩ | ⟨b9_0, h⟩
      · refine WK.ct (b := (decide (r8_4 < 0))) (by kernel_rfl) b9_0 ?_
        refine WK.rc (g := []) (l' := [(.t 0, [.data (.slc false none 3 (List.map TSeat.en l4_0))]), (.t 1, [iv l4_1]), (.t 2, [.fn (.func 18) [] []]), (.t 8, [iv l4_2]), (.t 9, [iv (w64 ((w64 (vshr .u64 (IntKind.u64.wrap (w64 (l4_3 + l4_4))) 1)) + 1))]), (.t 10, [iv l4_4])]) .nil (by kernel_rfl) (y := (cB (cL (cR (cR (cR bd17)))))) (ks' := []) (by kernel_rfl) ?_
        exact WK.weak (l := [(.t 0, [.data (.slc false none 3 (List.map TSeat.en l4_0))]), (.t 1, [iv l4_1]), (.t 2, [.fn (.func 18) [] []]), (.t 8, [iv l4_2]), (.t 9, [iv (w64 ((w64 (vshr .u64 (IntKind.u64.wrap (w64 (l4_3 + l4_4))) 1)) + 1))]), (.t 10, [iv l4_4])]) (wk_of (by kernel_rfl)) (ih (w64 ((w64 (vshr .u64 (IntKind.u64.wrap (w64 (l4_3 + l4_4))) 1)) + 1)) l4_4 _ h)
      · refine WK.ce (b := (decide (r8_4 < 0))) (by kernel_rfl) b9_0 ?_
        refine WK.rc (g := []) (l' := [(.t 0, [.data (.slc false none 3 (List.map TSeat.en l4_0))]), (.t 1, [iv l4_1]), (.t 2, [.fn (.func 18) [] []]), (.t 8, [iv l4_2]), (.t 9, [iv l4_3]), (.t 10, [iv (w64 (vshr .u64 (IntKind.u64.wrap (w64 (l4_3 + l4_4))) 1))])]) .nil (by kernel_rfl) (y := (cB (cL (cR (cR (cR bd17)))))) (ks' := []) (by kernel_rfl) ?_
        exact WK.weak (l := [(.t 0, [.data (.slc false none 3 (List.map TSeat.en l4_0))]), (.t 1, [iv l4_1]), (.t 2, [.fn (.func 18) [] []]), (.t 8, [iv l4_2]), (.t 9, [iv l4_3]), (.t 10, [iv (w64 (vshr .u64 (IntKind.u64.wrap (w64 (l4_3 + l4_4))) 1))])]) (wk_of (by kernel_rfl)) (ih l4_3 (w64 (vshr .u64 (IntKind.u64.wrap (w64 (l4_3 + l4_4))) 1)) _ h)
    · refine WK.ce (b := (decide (l4_3 < l4_4))) (by kernel_rfl) b6_0 ?_
      refine WK.weak (l := [(.t 0, [.data (.slc false none 3 (List.map TSeat.en l4_0))]), (.t 1, [iv l4_1]), (.t 2, [.fn (.func 18) [] []]), (.t 8, [iv l4_2]), (.t 9, [iv l4_3])]) (wk_of (by kernel_rfl)) ?_
      refine WK.exit (n := 0) (by kernel_rfl) ?_
      cases some_inj h
      exact WKe.fin (e' := .exit 0) (by kernel_rfl) ⟨rfl, rfl⟩
noncomputable def slices_BinarySearchFunc_api_Seat_int (fu : Nat) (x_v : List TSeat) (target : Int) : Option (Int × Bool) :=
  bd (slices_BinarySearchFunc_api_Seat_int.lp4 fu x_v target (x_v.length : Int) fu 0 (x_v.length : Int)) fun y12_0 =>
  br (decide (y12_0 < (x_v.length : Int)))
    (ix x_v y12_0 fun x13_2 =>
    bd (seat_seats_find_1 x13_2 target) fun r13_5 =>
    some (y12_0, (r13_5 == 0)))
    (some (y12_0, false))
theorem slices_BinarySearchFunc_api_Seat_int.meets (fu : Nat) (x_v : List TSeat) (target : Int) (z0 : Int) (z1 : Bool) (h : slices_BinarySearchFunc_api_Seat_int fu x_v target = some (z0, z1)) : Meets Try.prog ⟨17, [.data (.slc false none 3 (List.map TSeat.en x_v)), iv target, .fn (.func 18) [] []], []⟩ ⟨.tup [iv z0, bv z1], []⟩ := by
  refine meets_of (O := slices_BinarySearchFunc_api_Seat_int.O) hmix (fn := Try.f17) (code := bd17) (by kernel_rfl) ?_
  refine WK.weak (l := [(.t 0, [.data (.slc false none 3 (List.map TSeat.en x_v))]), (.t 1, [iv target]), (.t 2, [.fn (.func 18) [] []])]) (wk_of (by kernel_rfl)) ?_
  unfold slices_BinarySearchFunc_api_Seat_int at h
  refine WK.rs (g := []) (l' := [(.t 0, [.data (.slc false none 3 (List.map TSeat.en x_v))]), (.t 1, [iv target]), (.t 2, [.fn (.func 18) [] []])]) (by kernel_rfl) .nil (by kernel_rfl) ?_
  refine WK.rs (g := [.s (.t 13) [iv (x_v.length : Int)]]) (l' := [(.t 0, [.data (.slc false none 3 (List.map TSeat.en x_v))]), (.t 1, [iv target]), (.t 2, [.fn (.func 18) [] []]), (.t 8, [iv (x_v.length : Int)])]) (by kernel_rfl) (.cons (c_len (e := TSeat.en) (l := x_v)) .nil) (by kernel_rfl) ?_
  refine WK.rs (g := []) (l' := [(.t 0, [.data (.slc false none 3 (List.map TSeat.en x_v))]), (.t 1, [iv target]), (.t 2, [.fn (.func 18) [] []]), (.t 8, [iv (x_v.length : Int)]), (.t 9, [iv 0]), (.t 10, [iv (x_v.length : Int)])]) (by kernel_rfl) .nil (by kernel_rfl) ?_
  refine WK.seq (by kernel_rfl) ?_
  refine WK.block (n := 0) (by kernel_rfl) ?_
  obtain ⟨o12, ho12, h⟩ := bd_inv h
  refine WK.weak (l := [(.t 0, [.data (.slc false none 3 (List.map TSeat.en x_v))]), (.t 1, [iv target]), (.t 2, [.fn (.func 18) [] []]), (.t 8, [iv (x_v.length : Int)]), (.t 9, [iv 0]), (.t 10, [iv (x_v.length : Int)])]) (wk_of (by kernel_rfl)) ?_
  refine WK.use (slices_BinarySearchFunc_api_Seat_int.lp4_ok fu x_v target (x_v.length : Int) _ 0 (x_v.length : Int) _ ho12) ?_
  intro e_ τ_ hp_
  obtain ⟨y12_0, rfl⟩ : ∃ y, y = o12 := ⟨_, rfl⟩
  obtain ⟨rfl, rfl⟩ := hp_
  refine WKe.code (y := (cR (cR (cR (cR bd17))))) (ks' := []) (by kernel_rfl) ?_
  rcases br_inv h with ⟨b13_1, h⟩ | ⟨b13_1, h⟩
  · obtain ⟨x13_2, a13_3, e13_4, h⟩ := ix_inv h
    obtain ⟨r13_5, h13_6, h⟩ := bd_inv h
    refine WK.rs (g := [.b true, .b true, .b true, .b true, .c (TSeat.en x13_2), .b true, .b true, .b true, .a ⟨iv r13_5, []⟩, .b true, .b true]) (l' := [(.t 6, [iv y12_0]), (.t 7, [bv (r13_5 == 0)])]) (by kernel_rfl) (.cons b13_1 (.cons b13_1 (.cons b13_1 (.cons b13_1 (.cons (c_ix (e := TSeat.en) a13_3 e13_4) (.cons (c_el (e := TSeat.en) e13_4) (.cons b13_1 (.cons b13_1 (.cons b13_1 (.cons (Asks.of (C := Meets Try.prog) (seat_seats_find_1.meets x13_2 target _ h13_6)) (.cons b13_1 (.cons b13_1 .nil)))))))))))) (by kernel_rfl) ?_
    refine WK.weak (l := [(.t 6, [iv y12_0]), (.t 7, [bv (r13_5 == 0)])]) (wk_of (by kernel_rfl)) ?_
    refine WK.ret (by kernel_rfl) ?_
    cases some_inj h
    exact WKe.fin (e' := .ret) (by kernel_rfl) (fin_of (g := []) (by first | exact .inl rfl | exact .inr rfl) .nil (by kernel_rfl))
  · refine WK.rs (g := [.b false, .b false, .b false, .b false, .b false, .b false, .b false, .b false, .b false]) (l' := [(.t 6, [iv y12_0]), (.t 7, [bv false])]) (by kernel_rfl) (.cons b13_1 (.cons b13_1 (.cons b13_1 (.cons b13_1 (.cons b13_1 (.cons b13_1 (.cons b13_1 (.cons b13_1 (.cons b13_1 .nil))))))))) (by kernel_rfl) ?_
    refine WK.weak (l := [(.t 6, [iv y12_0]), (.t 7, [bv false])]) (wk_of (by kernel_rfl)) ?_
    refine WK.ret (by kernel_rfl) ?_
    cases some_inj h
    exact WKe.fin (e' := .ret) (by kernel_rfl) (fin_of (g := []) (by first | exact .inl rfl | exact .inr rfl) .nil (by kernel_rfl))
/-- (diwan/seat.seats).find -/
noncomputable def bd13 : Code := (Try.f13.body).getD .skip
def seat_seats_find.O : Nat → Nat := fun t => bif ([4, 5] : List Nat).any (Nat.beq t) then 1 else 0
noncomputable def seat_seats_find (fu : Nat) (l : List TSeat) (session : Int) : Option (Int × Bool) :=
  bd (slices_BinarySearchFunc_api_Seat_int fu l session) fun (r2_1, r2_2) =>
  some (r2_1, r2_2)
theorem seat_seats_find.meets (fu : Nat) (l : List TSeat) (session : Int) (z0 : Int) (z1 : Bool) (h : seat_seats_find fu l session = some (z0, z1)) : Meets Try.prog ⟨13, [.data (.slc false none 3 (List.map TSeat.en l)), iv session], []⟩ ⟨.tup [iv z0, bv z1], []⟩ := by
  refine meets_of (O := seat_seats_find.O) hmix (fn := Try.f13) (code := bd13) (by kernel_rfl) ?_
  refine WK.weak (l := [(.t 0, [.data (.slc false none 3 (List.map TSeat.en l))]), (.t 1, [iv session])]) (wk_of (by kernel_rfl)) ?_
  unfold seat_seats_find at h
  refine WK.rs (g := []) (l' := [(.t 0, [.data (.slc false none 3 (List.map TSeat.en l))]), (.t 1, [iv session])]) (by kernel_rfl) .nil (by kernel_rfl) ?_
  obtain ⟨⟨r2_1, r2_2⟩, h2_3, h⟩ := bd_inv h
  refine WK.rs (g := [.a ⟨.tup [iv r2_1, bv r2_2], []⟩]) (l' := [(.t 4, [iv r2_1]), (.t 5, [bv r2_2])]) (by kernel_rfl) (.cons (Asks.of (C := Meets Try.prog) (slices_BinarySearchFunc_api_Seat_int.meets fu l session _ _ h2_3)) .nil) (by kernel_rfl) ?_
  refine WK.weak (l := [(.t 4, [iv r2_1]), (.t 5, [bv r2_2])]) (wk_of (by kernel_rfl)) ?_
  refine WK.ret (by kernel_rfl) ?_
  cases some_inj h
  exact WKe.fin (e' := .ret) (by kernel_rfl) (fin_of (g := []) (by first | exact .inl rfl | exact .inr rfl) .nil (by kernel_rfl))
/-- slices.Clone[[]diwan/api.Seat,diwan/api.Seat] -/
noncomputable def bd14 : Code := (Try.f14.body).getD .skip
def slices_Clone_api_Seat.O : Nat → Nat := fun t => bif ([2, 5] : List Nat).any (Nat.beq t) then 1 else 0
noncomputable def slices_Clone_api_Seat (s : List TSeat) : Option (List TSeat) :=
  gd (decide (([] : List TSeat).length + s.length ≤ 4294967296)) <|
  some s
theorem slices_Clone_api_Seat.meets1 (s : List TSeat) (z0 : List TSeat) (h : slices_Clone_api_Seat s = some z0) : Meets Try.prog ⟨14, [.data (.slc false (some false) 3 (List.map TSeat.en s))], []⟩ ⟨.data (.slc true none 3 (List.map TSeat.en z0)), []⟩ := by
  refine meets_of (O := slices_Clone_api_Seat.O) hmix (fn := Try.f14) (code := bd14) (by kernel_rfl) ?_
  refine WK.weak (l := [(.t 0, [.data (.slc false (some false) 3 (List.map TSeat.en s))])]) (wk_of (by kernel_rfl)) ?_
  unfold slices_Clone_api_Seat at h
  refine WK.rs (g := []) (l' := [(.t 0, [.data (.slc false (some false) 3 (List.map TSeat.en s))])]) (by kernel_rfl) .nil (by kernel_rfl) ?_
  refine WK.seq (by kernel_rfl) ?_
  refine WK.rs (g := []) (l' := [(.t 0, [.data (.slc false (some false) 3 (List.map TSeat.en s))]), (.t 4, [bv false])]) (by kernel_rfl) .nil (by kernel_rfl) ?_
  refine WK.ce (b := false) (by kernel_rfl) rfl ?_
  refine WK.skip (by kernel_rfl) ?_
  refine WKe.code (y := (cR (cR bd14))) (ks' := []) (by kernel_rfl) ?_
  obtain ⟨c5_1, h⟩ := gd_inv h
  refine WK.rs (g := []) (l' := [(.t 2, [.data (.slc true none 3 (List.map TSeat.en s))])]) (by kernel_rfl) (.cons (c_al (e := TSeat.en) (f := TSeat.en) c5_1) .nil) (by kernel_rfl) ?_
  refine WK.weak (l := [(.t 2, [.data (.slc true none 3 (List.map TSeat.en s))])]) (wk_of (by kernel_rfl)) ?_
  refine WK.ret (by kernel_rfl) ?_
  cases some_inj h
  exact WKe.fin (e' := .ret) (by kernel_rfl) (fin_of (g := []) (by first | exact .inl rfl | exact .inr rfl) .nil (by kernel_rfl))
noncomputable def slices_Clone_api_Seat_nil : Option (List TSeat) :=
  some []
theorem slices_Clone_api_Seat.meets0 (z0 : List TSeat) (h : slices_Clone_api_Seat_nil = some z0) : Meets Try.prog ⟨14, [.data (.slc false (some true) 3 (List.map TSeat.en []))], []⟩ ⟨.data (.slc true none 3 (List.map TSeat.en z0)), []⟩ := by
  refine meets_of (O := slices_Clone_api_Seat.O) hmix (fn := Try.f14) (code := bd14) (by kernel_rfl) ?_
  refine WK.weak (l := [(.t 0, [.data (.slc false (some true) 3 (List.map TSeat.en []))])]) (wk_of (by kernel_rfl)) ?_
  unfold slices_Clone_api_Seat_nil at h
  refine WK.rs (g := []) (l' := [(.t 0, [.data (.slc false (some true) 3 (List.map TSeat.en []))])]) (by kernel_rfl) .nil (by kernel_rfl) ?_
  refine WK.seq (by kernel_rfl) ?_
  refine WK.rs (g := []) (l' := [(.t 0, [.data (.slc false (some true) 3 (List.map TSeat.en []))]), (.t 4, [bv true])]) (by kernel_rfl) .nil (by kernel_rfl) ?_
  refine WK.ct (b := true) (by kernel_rfl) rfl ?_
  refine WK.rs (g := []) (l' := [(.t 2, [.data (.slc true (some true) 3 (List.map TSeat.en []))])]) (by kernel_rfl) .nil (by kernel_rfl) ?_
  refine WK.weak (l := [(.t 2, [.data (.slc true none 3 (List.map TSeat.en []))])]) (wk_of (by kernel_rfl)) ?_
  refine WK.ret (by kernel_rfl) ?_
  cases some_inj h
  exact WKe.fin (e' := .ret) (by kernel_rfl) (fin_of (g := []) (by first | exact .inl rfl | exact .inr rfl) .nil (by kernel_rfl))
theorem slices_Clone_api_Seat.nil_eq : slices_Clone_api_Seat [] = slices_Clone_api_Seat_nil := by kernel_rfl
theorem slices_Clone_api_Seat.meets (s : List TSeat) (z0 : List TSeat) (h : slices_Clone_api_Seat s = some z0) : Meets Try.prog ⟨14, [.data (.slc false none 3 (List.map TSeat.en s))], []⟩ ⟨.data (.slc true none 3 (List.map TSeat.en z0)), []⟩ := by
  refine asks_ok (C := Meets Try.prog) (fun _ _ h => h) (Asks.nil (args1 := []) (args2 := []) (sz := 3) (es := List.map TSeat.en s) (fun e => .of ?_) (.of (slices_Clone_api_Seat.meets1 s z0 h)))
  obtain rfl : s = [] := List.map_eq_nil_iff.1 e
  exact slices_Clone_api_Seat.meets0 z0 (slices_Clone_api_Seat.nil_eq  ▸ h)
/-- slices.Insert[[]diwan/api.Seat,diwan/api.Seat] -/
noncomputable def bd15 : Code := (Try.f15.body).getD .skip
def slices_Insert_api_Seat_part.O : Nat → Nat := fun t => bif ([0, 6, 7, 8, 9, 17, 23, 25, 53, 60] : List Nat).any (Nat.beq t) then 1 else bif ([12] : List Nat).any (Nat.beq t) then 5 else 0
noncomputable def slices_Insert_api_Seat_part (s : List TSeat) (i : Int) (v : List TSeat) : Option (List TSeat) :=
  gd (decide ((0 : Int) ≤ i ∧ i ≤ (s.length : Int))) <|
  br ((v.length : Int) == 0)
    (some s)
    (br (i == (s.length : Int))
      (gd (decide (s.length + v.length ≤ 4294967296)) <|
      some (s ++ v))
      (none))
theorem slices_Insert_api_Seat_part.meets (s : List TSeat) (i : Int) (v : List TSeat) (z0 : List TSeat) (h : slices_Insert_api_Seat_part s i v = some z0) : Meets Try.prog ⟨15, [.data (.slc true none 3 (List.map TSeat.en s)), iv i, .data (.slc false none 3 (List.map TSeat.en v))], []⟩ ⟨.data (.slc true none 3 (List.map TSeat.en z0)), []⟩ := by
  refine meets_of (O := slices_Insert_api_Seat_part.O) hmix (fn := Try.f15) (code := bd15) (by kernel_rfl) ?_
  refine WK.weak (l := [(.t 0, [.data (.slc true none 3 (List.map TSeat.en s))]), (.t 1, [iv i]), (.t 2, [.data (.slc false none 3 (List.map TSeat.en v))])]) (wk_of (by kernel_rfl)) ?_
  unfold slices_Insert_api_Seat_part at h
  refine WK.rs (g := []) (l' := [(.t 0, [.data (.slc true none 3 (List.map TSeat.en s))]), (.t 1, [iv i]), (.t 2, [.data (.slc false none 3 (List.map TSeat.en v))])]) (by kernel_rfl) .nil (by kernel_rfl) ?_
  obtain ⟨c2_1, h⟩ := gd_inv h
  refine WK.rs (g := []) (l' := [(.t 0, [.data (.slc true none 3 (List.map TSeat.en s))]), (.t 1, [iv i]), (.t 2, [.data (.slc false none 3 (List.map TSeat.en v))])]) (by kernel_rfl) (.cons (c_cbL (e := TSeat.en) c2_1) .nil) (by kernel_rfl) ?_
  refine WK.rs (g := [.s (.t 14) [iv (v.length : Int)]]) (l' := [(.t 0, [.data (.slc true none 3 (List.map TSeat.en s))]), (.t 1, [iv i]), (.t 2, [.data (.slc false none 3 (List.map TSeat.en v))]), (.t 7, [iv (v.length : Int)])]) (by kernel_rfl) (.cons (c_len (e := TSeat.en) (l := v)) .nil) (by kernel_rfl) ?_
  refine WK.seq (by kernel_rfl) ?_
  refine WK.rs (g := []) (l' := [(.t 0, [.data (.slc true none 3 (List.map TSeat.en s))]), (.t 1, [iv i]), (.t 2, [.data (.slc false none 3 (List.map TSeat.en v))]), (.t 7, [iv (v.length : Int)]), (.t 16, [bv ((v.length : Int) == 0)])]) (by kernel_rfl) .nil (by kernel_rfl) ?_
  rcases br_inv h with ⟨b5_0, h⟩ | ⟨b5_0, h⟩
  · refine WK.ct (b := ((v.length : Int) == 0)) (by kernel_rfl) b5_0 ?_
    refine WK.rs (g := []) (l' := [(.t 6, [.data (.slc true none 3 (List.map TSeat.en s))])]) (by kernel_rfl) .nil (by kernel_rfl) ?_
    refine WK.weak (l := [(.t 6, [.data (.slc true none 3 (List.map TSeat.en s))])]) (wk_of (by kernel_rfl)) ?_
    refine WK.ret (by kernel_rfl) ?_
    cases some_inj h
    exact WKe.fin (e' := .ret) (by kernel_rfl) (fin_of (g := []) (by first | exact .inl rfl | exact .inr rfl) .nil (by kernel_rfl))
  · refine WK.ce (b := ((v.length : Int) == 0)) (by kernel_rfl) b5_0 ?_
    refine WK.skip (by kernel_rfl) ?_
    refine WKe.code (y := (cR (cR (cR (cR bd15))))) (ks' := []) (by kernel_rfl) ?_
    refine WK.rs (g := [.s (.t 19) [iv (s.length : Int)]]) (l' := [(.t 0, [.data (.slc true none 3 (List.map TSeat.en s))]), (.t 1, [iv i]), (.t 2, [.data (.slc false none 3 (List.map TSeat.en v))]), (.t 7, [iv (v.length : Int)]), (.t 8, [iv (s.length : Int)])]) (by kernel_rfl) (.cons (c_len (e := TSeat.en) (l := s)) .nil) (by kernel_rfl) ?_
    refine WK.seq (by kernel_rfl) ?_
    refine WK.rs (g := []) (l' := [(.t 0, [.data (.slc true none 3 (List.map TSeat.en s))]), (.t 1, [iv i]), (.t 2, [.data (.slc false none 3 (List.map TSeat.en v))]), (.t 7, [iv (v.length : Int)]), (.t 8, [iv (s.length : Int)]), (.t 22, [bv (i == (s.length : Int))])]) (by kernel_rfl) .nil (by kernel_rfl) ?_
    rcases br_inv h with ⟨b9_0, h⟩ | ⟨b9_0, h⟩
    · refine WK.ct (b := (i == (s.length : Int))) (by kernel_rfl) b9_0 ?_
      obtain ⟨c10_1, h⟩ := gd_inv h
      refine WK.rs (g := [.s (.t 25) [.data (.slc true none 3 (List.map TSeat.en (s ++ v)))]]) (l' := [(.t 6, [.data (.slc true none 3 (List.map TSeat.en (s ++ v)))])]) (by kernel_rfl) (.cons (c_al (e := TSeat.en) (f := TSeat.en) c10_1) (.cons (congrArg (fun d : DV => [AV.data d]) (c_app (e := TSeat.en) (s := 3) (l := s) (m := v))) .nil)) (by kernel_rfl) ?_
      refine WK.weak (l := [(.t 6, [.data (.slc true none 3 (List.map TSeat.en (s ++ v)))])]) (wk_of (by kernel_rfl)) ?_
      refine WK.ret (by kernel_rfl) ?_
      cases some_inj h
      exact WKe.fin (e' := .ret) (by kernel_rfl) (fin_of (g := []) (by first | exact .inl rfl | exact .inr rfl) .nil (by kernel_rfl))
    · refine WK.ce (b := (i == (s.length : Int))) (by kernel_rfl) b9_0 ?_
      refine WK.skip (by kernel_rfl) ?_
      refine WKe.code (y := (cR (cR (cR (cR (cR (cR bd15))))))) (ks' := []) (by kernel_rfl) ?_
      refine WK.seq (by kernel_rfl) ?_
      exact no_none h
/-- slices.Insert[[]diwan/api.Seat,diwan/api.Seat], as a whole. -/
noncomputable def slices_Insert_api_Seat (s : List TSeat) (i : Int) (v : List TSeat) : Option (List TSeat) :=
  br (decide (0 ≤ i ∧ i < (s.length : Int) ∧ 0 < v.length ∧ s.length + v.length ≤ 4294967296))
    (some (List.take i.toNat s ++ v ++ List.drop i.toNat s))
    (slices_Insert_api_Seat_part s i v)
theorem slices_Insert_api_Seat.meets (s : List TSeat) (i : Int) (v : List TSeat) (z0 : List TSeat) (h : slices_Insert_api_Seat s i v = some z0) : Meets Try.prog ⟨15, [.data (.slc true none 3 (List.map TSeat.en s)), iv i, .data (.slc false none 3 (List.map TSeat.en v))], []⟩ ⟨.data (.slc true none 3 (List.map TSeat.en z0)), []⟩ := by
  rcases br_inv h with ⟨hb, h⟩ | ⟨hb, h⟩
  · cases some_inj h
    exact ins_meetsT (e := TSeat.en) Try.func15 (by kernel_rfl) (by kernel_rfl) (by kernel_rfl) (by kernel_rfl) Ins15.walk hb
  · exact slices_Insert_api_Seat_part.meets s i v _ h
/-- diwan/seat.Turn -/
noncomputable def bd7 : Code := (Try.f7.body).getD .skip
def seat_Turn.O : Nat → Nat := fun t => bif ([8, 9, 10, 11, 12, 13, 24, 36, 42, 43, 49, 54, 55] : List Nat).any (Nat.beq t) then 1 else bif ([56] : List Nat).any (Nat.beq t) then 4 else 0
noncomputable def seat_Turn (fu : Nat) (l : List TSeat) (session : Int) (seq : Int) (pos : Int) : Option (List TSeat × Bool) :=
  bd (seat_seats_find fu l session) fun (r3_1, r3_2) =>
  bd (slices_Clone_api_Seat l) fun r4_1 =>
  br r3_2
    (ix l r3_1 fun x5_2 =>
    br (decide (x5_2.Seq ≥ seq))
      (some (r4_1, false))
      (br r3_2
        (ix r4_1 r3_1 fun x10_1 =>
        ix (r4_1.set r3_1.toNat (TSeat.mk x10_1.Session seq x10_1.Pos)) r3_1 fun x10_4 =>
        some (((r4_1.set r3_1.toNat (TSeat.mk x10_1.Session seq x10_1.Pos)).set r3_1.toNat (TSeat.mk x10_4.Session x10_4.Seq pos)), true))
        (bd (slices_Insert_api_Seat r4_1 r3_1 ([(TSeat.mk session seq pos)] : List TSeat)) fun r12_1 =>
        some (r12_1, true))))
    (br r3_2
      (ix r4_1 r3_1 fun x15_1 =>
      ix (r4_1.set r3_1.toNat (TSeat.mk x15_1.Session seq x15_1.Pos)) r3_1 fun x15_4 =>
      some (((r4_1.set r3_1.toNat (TSeat.mk x15_1.Session seq x15_1.Pos)).set r3_1.toNat (TSeat.mk x15_4.Session x15_4.Seq pos)), true))
      (bd (slices_Insert_api_Seat r4_1 r3_1 ([(TSeat.mk session seq pos)] : List TSeat)) fun r17_1 =>
      some (r17_1, true)))
theorem seat_Turn.meets (fu : Nat) (l : List TSeat) (session : Int) (seq : Int) (pos : Int) (z0 : List TSeat) (z1 : Bool) (h : seat_Turn fu l session seq pos = some (z0, z1)) : Meets Try.prog ⟨7, [.data (.slc false none 3 (List.map TSeat.en l)), iv session, iv seq, iv pos], []⟩ ⟨.tup [.data (.slc false none 3 (List.map TSeat.en z0)), bv z1], []⟩ := by
  refine meets_of (O := seat_Turn.O) hmix (fn := Try.f7) (code := bd7) (by kernel_rfl) ?_
  refine WK.weak (l := [(.t 0, [.data (.slc false none 3 (List.map TSeat.en l))]), (.t 1, [iv session]), (.t 2, [iv seq]), (.t 3, [iv pos])]) (wk_of (by kernel_rfl)) ?_
  unfold seat_Turn at h
  refine WK.rs (g := []) (l' := [(.t 0, [.data (.slc false none 3 (List.map TSeat.en l))]), (.t 1, [iv session]), (.t 2, [iv seq]), (.t 3, [iv pos])]) (by kernel_rfl) .nil (by kernel_rfl) ?_
  refine WK.rs (g := []) (l' := [(.t 0, [.data (.slc false none 3 (List.map TSeat.en l))]), (.t 1, [iv session]), (.t 2, [iv seq]), (.t 3, [iv pos]), (.t 10, [.fn (.func 13) [.data (.slc false none 3 (List.map TSeat.en l))] []])]) (by kernel_rfl) .nil (by kernel_rfl) ?_
  obtain ⟨⟨r3_1, r3_2⟩, h3_3, h⟩ := bd_inv h
  refine WK.rs (g := [.a ⟨.tup [iv r3_1, bv r3_2], []⟩]) (l' := [(.t 0, [.data (.slc false none 3 (List.map TSeat.en l))]), (.t 1, [iv session]), (.t 2, [iv seq]), (.t 3, [iv pos]), (.t 11, [iv r3_1]), (.t 12, [bv r3_2])]) (by kernel_rfl) (.cons (Asks.of (C := Meets Try.prog) (seat_seats_find.meets fu l session _ _ h3_3)) .nil) (by kernel_rfl) ?_
  obtain ⟨r4_1, h4_2, h⟩ := bd_inv h
  refine WK.rs (g := [.a ⟨.data (.slc true none 3 (List.map TSeat.en r4_1)), []⟩]) (l' := [(.t 0, [.data (.slc false none 3 (List.map TSeat.en l))]), (.t 1, [iv session]), (.t 2, [iv seq]), (.t 3, [iv pos]), (.t 11, [iv r3_1]), (.t 12, [bv r3_2]), (.t 13, [.data (.slc true none 3 (List.map TSeat.en r4_1))])]) (by kernel_rfl) (.cons (Asks.of (C := Meets Try.prog) (slices_Clone_api_Seat.meets l _ h4_2)) .nil) (by kernel_rfl) ?_
  refine WK.seq (by kernel_rfl) ?_
  refine WK.block (n := 0) (by kernel_rfl) ?_
  rcases br_inv h with ⟨b5_1, h⟩ | ⟨b5_1, h⟩
  · obtain ⟨x5_2, a5_3, e5_4, h⟩ := ix_inv h
    refine WK.rs (g := [.b true, .b true, .b true, .c (TSeat.en x5_2), .b true, .b true, .b true, .b true, .b true]) (l' := [(.t 1, [iv session]), (.t 2, [iv seq]), (.t 3, [iv pos]), (.t 11, [iv r3_1]), (.t 12, [bv r3_2]), (.t 13, [.data (.slc true none 3 (List.map TSeat.en r4_1))]), (.t 24, [bv (decide (x5_2.Seq ≥ seq))])]) (by kernel_rfl) (.cons b5_1 (.cons b5_1 (.cons b5_1 (.cons (c_ix (e := TSeat.en) a5_3 e5_4) (.cons (c_el (e := TSeat.en) e5_4) (.cons b5_1 (.cons b5_1 (.cons b5_1 (.cons b5_1 (.cons b5_1 .nil)))))))))) (by kernel_rfl) ?_
    rcases br_inv h with ⟨b6_0, h⟩ | ⟨b6_0, h⟩
    · refine WK.ct (b := (decide (x5_2.Seq ≥ seq))) (by kernel_rfl) b6_0 ?_
      refine WK.rs (g := []) (l' := [(.t 8, [.data (.slc true none 3 (List.map TSeat.en r4_1))]), (.t 9, [bv false])]) (by kernel_rfl) .nil (by kernel_rfl) ?_
      refine WK.weak (l := [(.t 8, [.data (.slc true none 3 (List.map TSeat.en r4_1))]), (.t 9, [bv false])]) (wk_of (by kernel_rfl)) ?_
      refine WK.ret (by kernel_rfl) ?_
      cases some_inj h
      exact WKe.fin (e' := .ret) (by kernel_rfl) (fin_of (g := []) (by first | exact .inl rfl | exact .inr rfl) .nil (by kernel_rfl))
    · refine WK.ce (b := (decide (x5_2.Seq ≥ seq))) (by kernel_rfl) b6_0 ?_
      refine WK.rs (g := []) (l' := [(.t 1, [iv session]), (.t 2, [iv seq]), (.t 3, [iv pos]), (.t 11, [iv r3_1]), (.t 13, [.data (.slc true none 3 (List.map TSeat.en r4_1))]), (.t 36, [bv r3_2])]) (by kernel_rfl) .nil (by kernel_rfl) ?_
      rcases br_inv h with ⟨b9_0, h⟩ | ⟨b9_0, h⟩
      · refine WK.ct (b := r3_2) (by kernel_rfl) b9_0 ?_
        obtain ⟨x10_1, a10_2, e10_3, h⟩ := ix_inv h
        obtain ⟨x10_4, a10_5, e10_6, h⟩ := ix_inv h
        refine WK.rs (g := [.c (TSeat.en x10_1), .s (.t 13) [.data (.slc true none 3 (List.map TSeat.en (r4_1.set r3_1.toNat (TSeat.mk x10_1.Session seq x10_1.Pos))))], .c (TSeat.en x10_4), .s (.t 13) [.data (.slc true none 3 (List.map TSeat.en ((r4_1.set r3_1.toNat (TSeat.mk x10_1.Session seq x10_1.Pos)).set r3_1.toNat (TSeat.mk x10_4.Session x10_4.Seq pos))))]]) (l' := [(.t 13, [.data (.slc true none 3 (List.map TSeat.en ((r4_1.set r3_1.toNat (TSeat.mk x10_1.Session seq x10_1.Pos)).set r3_1.toNat (TSeat.mk x10_4.Session x10_4.Seq pos))))])]) (by kernel_rfl) (.cons (c_ix (e := TSeat.en) a10_2 e10_3) (.cons (c_el (e := TSeat.en) e10_3) (.cons (congrArg (fun d : DV => [AV.data d]) (c_set (e := TSeat.en) (s := 3) (nl := none) (l := r4_1) (i := r3_1.toNat) (x := (TSeat.mk x10_1.Session seq x10_1.Pos)))) (.cons (c_ix (e := TSeat.en) a10_5 e10_6) (.cons (c_el (e := TSeat.en) e10_6) (.cons (congrArg (fun d : DV => [AV.data d]) (c_set (e := TSeat.en) (s := 3) (nl := none) (l := (r4_1.set r3_1.toNat (TSeat.mk x10_1.Session seq x10_1.Pos))) (i := r3_1.toNat) (x := (TSeat.mk x10_4.Session x10_4.Seq pos)))) .nil)))))) (by kernel_rfl) ?_
        refine WK.rs (g := []) (l' := [(.t 8, [.data (.slc true none 3 (List.map TSeat.en ((r4_1.set r3_1.toNat (TSeat.mk x10_1.Session seq x10_1.Pos)).set r3_1.toNat (TSeat.mk x10_4.Session x10_4.Seq pos))))]), (.t 9, [bv true])]) (by kernel_rfl) .nil (by kernel_rfl) ?_
        refine WK.weak (l := [(.t 8, [.data (.slc true none 3 (List.map TSeat.en ((r4_1.set r3_1.toNat (TSeat.mk x10_1.Session seq x10_1.Pos)).set r3_1.toNat (TSeat.mk x10_4.Session x10_4.Seq pos))))]), (.t 9, [bv true])]) (wk_of (by kernel_rfl)) ?_
        refine WK.ret (by kernel_rfl) ?_
        cases some_inj h
        exact WKe.fin (e' := .ret) (by kernel_rfl) (fin_of (g := []) (by first | exact .inl rfl | exact .inr rfl) .nil (by kernel_rfl))
      · refine WK.ce (b := r3_2) (by kernel_rfl) b9_0 ?_
        refine WK.skip (by kernel_rfl) ?_
        refine WKe.code (y := (cR (cR (cR (cR (cR bd7)))))) (ks' := []) (by kernel_rfl) ?_
        obtain ⟨r12_1, h12_2, h⟩ := bd_inv h
        refine WK.rs (g := [.a ⟨.data (.slc true none 3 (List.map TSeat.en r12_1)), []⟩]) (l' := [(.t 8, [.data (.slc true none 3 (List.map TSeat.en r12_1))]), (.t 9, [bv true])]) (by kernel_rfl) (.cons (Asks.fg (args1 := [.data (.slc true none 3 (List.map TSeat.en r4_1)), iv r3_1]) (args2 := []) (nl := some false) (sz := 3) (es := List.map TSeat.en ([(TSeat.mk session seq pos)] : List TSeat)) (Asks.of (C := Meets Try.prog) (slices_Insert_api_Seat.meets r4_1 r3_1 ([(TSeat.mk session seq pos)] : List TSeat) _ h12_2))) .nil) (by kernel_rfl) ?_
        refine WK.weak (l := [(.t 8, [.data (.slc true none 3 (List.map TSeat.en r12_1))]), (.t 9, [bv true])]) (wk_of (by kernel_rfl)) ?_
        refine WK.ret (by kernel_rfl) ?_
        cases some_inj h
        exact WKe.fin (e' := .ret) (by kernel_rfl) (fin_of (g := []) (by first | exact .inl rfl | exact .inr rfl) .nil (by kernel_rfl))
  · refine WK.rs (g := [.b false, .b false, .b false, .b false, .b false, .b false, .b false, .b false]) (l' := [(.t 1, [iv session]), (.t 2, [iv seq]), (.t 3, [iv pos]), (.t 11, [iv r3_1]), (.t 12, [bv r3_2]), (.t 13, [.data (.slc true none 3 (List.map TSeat.en r4_1))]), (.t 24, [bv false])]) (by kernel_rfl) (.cons b5_1 (.cons b5_1 (.cons b5_1 (.cons b5_1 (.cons b5_1 (.cons b5_1 (.cons b5_1 (.cons b5_1 .nil)))))))) (by kernel_rfl) ?_
    refine WK.ce (b := false) (by kernel_rfl) rfl ?_
    refine WK.rs (g := []) (l' := [(.t 1, [iv session]), (.t 2, [iv seq]), (.t 3, [iv pos]), (.t 11, [iv r3_1]), (.t 13, [.data (.slc true none 3 (List.map TSeat.en r4_1))]), (.t 36, [bv r3_2])]) (by kernel_rfl) .nil (by kernel_rfl) ?_
    rcases br_inv h with ⟨b14_0, h⟩ | ⟨b14_0, h⟩
    · refine WK.ct (b := r3_2) (by kernel_rfl) b14_0 ?_
      obtain ⟨x15_1, a15_2, e15_3, h⟩ := ix_inv h
      obtain ⟨x15_4, a15_5, e15_6, h⟩ := ix_inv h
      refine WK.rs (g := [.c (TSeat.en x15_1), .s (.t 13) [.data (.slc true none 3 (List.map TSeat.en (r4_1.set r3_1.toNat (TSeat.mk x15_1.Session seq x15_1.Pos))))], .c (TSeat.en x15_4), .s (.t 13) [.data (.slc true none 3 (List.map TSeat.en ((r4_1.set r3_1.toNat (TSeat.mk x15_1.Session seq x15_1.Pos)).set r3_1.toNat (TSeat.mk x15_4.Session x15_4.Seq pos))))]]) (l' := [(.t 13, [.data (.slc true none 3 (List.map TSeat.en ((r4_1.set r3_1.toNat (TSeat.mk x15_1.Session seq x15_1.Pos)).set r3_1.toNat (TSeat.mk x15_4.Session x15_4.Seq pos))))])]) (by kernel_rfl) (.cons (c_ix (e := TSeat.en) a15_2 e15_3) (.cons (c_el (e := TSeat.en) e15_3) (.cons (congrArg (fun d : DV => [AV.data d]) (c_set (e := TSeat.en) (s := 3) (nl := none) (l := r4_1) (i := r3_1.toNat) (x := (TSeat.mk x15_1.Session seq x15_1.Pos)))) (.cons (c_ix (e := TSeat.en) a15_5 e15_6) (.cons (c_el (e := TSeat.en) e15_6) (.cons (congrArg (fun d : DV => [AV.data d]) (c_set (e := TSeat.en) (s := 3) (nl := none) (l := (r4_1.set r3_1.toNat (TSeat.mk x15_1.Session seq x15_1.Pos))) (i := r3_1.toNat) (x := (TSeat.mk x15_4.Session x15_4.Seq pos)))) .nil)))))) (by kernel_rfl) ?_
      refine WK.rs (g := []) (l' := [(.t 8, [.data (.slc true none 3 (List.map TSeat.en ((r4_1.set r3_1.toNat (TSeat.mk x15_1.Session seq x15_1.Pos)).set r3_1.toNat (TSeat.mk x15_4.Session x15_4.Seq pos))))]), (.t 9, [bv true])]) (by kernel_rfl) .nil (by kernel_rfl) ?_
      refine WK.weak (l := [(.t 8, [.data (.slc true none 3 (List.map TSeat.en ((r4_1.set r3_1.toNat (TSeat.mk x15_1.Session seq x15_1.Pos)).set r3_1.toNat (TSeat.mk x15_4.Session x15_4.Seq pos))))]), (.t 9, [bv true])]) (wk_of (by kernel_rfl)) ?_
      refine WK.ret (by kernel_rfl) ?_
      cases some_inj h
      exact WKe.fin (e' := .ret) (by kernel_rfl) (fin_of (g := []) (by first | exact .inl rfl | exact .inr rfl) .nil (by kernel_rfl))
    · refine WK.ce (b := r3_2) (by kernel_rfl) b14_0 ?_
      refine WK.skip (by kernel_rfl) ?_
      refine WKe.code (y := (cR (cR (cR (cR (cR bd7)))))) (ks' := []) (by kernel_rfl) ?_
      obtain ⟨r17_1, h17_2, h⟩ := bd_inv h
      refine WK.rs (g := [.a ⟨.data (.slc true none 3 (List.map TSeat.en r17_1)), []⟩]) (l' := [(.t 8, [.data (.slc true none 3 (List.map TSeat.en r17_1))]), (.t 9, [bv true])]) (by kernel_rfl) (.cons (Asks.fg (args1 := [.data (.slc true none 3 (List.map TSeat.en r4_1)), iv r3_1]) (args2 := []) (nl := some false) (sz := 3) (es := List.map TSeat.en ([(TSeat.mk session seq pos)] : List TSeat)) (Asks.of (C := Meets Try.prog) (slices_Insert_api_Seat.meets r4_1 r3_1 ([(TSeat.mk session seq pos)] : List TSeat) _ h17_2))) .nil) (by kernel_rfl) ?_
      refine WK.weak (l := [(.t 8, [.data (.slc true none 3 (List.map TSeat.en r17_1))]), (.t 9, [bv true])]) (wk_of (by kernel_rfl)) ?_
      refine WK.ret (by kernel_rfl) ?_
      cases some_inj h
      exact WKe.fin (e' := .ret) (by kernel_rfl) (fin_of (g := []) (by first | exact .inl rfl | exact .inr rfl) .nil (by kernel_rfl))
/-- diwan/seat.Find -/
noncomputable def bd11 : Code := (Try.f11.body).getD .skip
def seat_Find.O : Nat → Nat := fun t => bif ([4, 5, 6, 7, 8, 19] : List Nat).any (Nat.beq t) then 1 else 0
noncomputable def seat_Find (fu : Nat) (l : List TSeat) (session : Int) : Option (Bool × TSeat) :=
  bd (seat_seats_find fu l session) fun (r3_1, r3_2) =>
  br (!r3_2)
    (some (false, (TSeat.mk 0 0 0)))
    (ix l r3_1 fun x7_1 =>
    some (true, x7_1))
theorem seat_Find.meets (fu : Nat) (l : List TSeat) (session : Int) (z0 : Bool) (z1 : TSeat) (h : seat_Find fu l session = some (z0, z1)) : Meets Try.prog ⟨11, [.data (.slc false none 3 (List.map TSeat.en l)), iv session], []⟩ ⟨.tup [.data (.agg [.val (.int .i64 z1.Session), .val (.int .i64 z1.Seq), .val (.int .i64 z1.Pos)]), bv z0], []⟩ := by
  refine meets_of (O := seat_Find.O) hmix (fn := Try.f11) (code := bd11) (by kernel_rfl) ?_
  refine WK.weak (l := [(.t 0, [.data (.slc false none 3 (List.map TSeat.en l))]), (.t 1, [iv session])]) (wk_of (by kernel_rfl)) ?_
  unfold seat_Find at h
  refine WK.rs (g := []) (l' := [(.t 0, [.data (.slc false none 3 (List.map TSeat.en l))]), (.t 1, [iv session]), (.t 4, [.ptr 4 0]), (.o 4, [iv 0, iv 0, iv 0])]) (by kernel_rfl) .nil (by kernel_rfl) ?_
  refine WK.rs (g := []) (l' := [(.t 0, [.data (.slc false none 3 (List.map TSeat.en l))]), (.t 1, [iv session]), (.t 4, [.ptr 4 0]), (.t 6, [.fn (.func 13) [.data (.slc false none 3 (List.map TSeat.en l))] []]), (.o 4, [iv 0, iv 0, iv 0])]) (by kernel_rfl) .nil (by kernel_rfl) ?_
  obtain ⟨⟨r3_1, r3_2⟩, h3_3, h⟩ := bd_inv h
  refine WK.rs (g := [.a ⟨.tup [iv r3_1, bv r3_2], []⟩]) (l' := [(.t 0, [.data (.slc false none 3 (List.map TSeat.en l))]), (.t 4, [.ptr 4 0]), (.t 7, [iv r3_1]), (.t 8, [bv r3_2]), (.o 4, [iv 0, iv 0, iv 0])]) (by kernel_rfl) (.cons (Asks.of (C := Meets Try.prog) (seat_seats_find.meets fu l session _ _ h3_3)) .nil) (by kernel_rfl) ?_
  refine WK.seq (by kernel_rfl) ?_
  refine WK.rs (g := []) (l' := [(.t 0, [.data (.slc false none 3 (List.map TSeat.en l))]), (.t 4, [.ptr 4 0]), (.t 7, [iv r3_1]), (.t 18, [bv (!r3_2)]), (.o 4, [iv 0, iv 0, iv 0])]) (by kernel_rfl) .nil (by kernel_rfl) ?_
  rcases br_inv h with ⟨b5_0, h⟩ | ⟨b5_0, h⟩
  · refine WK.ct (b := (!r3_2)) (by kernel_rfl) b5_0 ?_
    refine WK.rs (g := []) (l' := [(.t 4, [.ptr 4 0]), (.t 5, [bv false]), (.o 4, [iv 0, iv 0, iv 0])]) (by kernel_rfl) .nil (by kernel_rfl) ?_
    refine WK.weak (l := [(.t 4, [.ptr 4 0]), (.t 5, [bv false]), (.o 4, [iv ((TSeat.mk 0 0 0).Session), iv ((TSeat.mk 0 0 0).Seq), iv ((TSeat.mk 0 0 0).Pos)])]) (wk_of (by kernel_rfl)) ?_
    refine WK.ret (by kernel_rfl) ?_
    cases some_inj h
    exact WKe.fin (e' := .ret) (by kernel_rfl) (fin_of (g := []) (by first | exact .inl rfl | exact .inr rfl) .nil (by kernel_rfl))
  · refine WK.ce (b := (!r3_2)) (by kernel_rfl) b5_0 ?_
    refine WK.skip (by kernel_rfl) ?_
    refine WKe.code (y := (cR (cR (cR (cR bd11))))) (ks' := []) (by kernel_rfl) ?_
    obtain ⟨x7_1, a7_2, e7_3, h⟩ := ix_inv h
    refine WK.rs (g := [.c (TSeat.en x7_1)]) (l' := [(.t 4, [.ptr 4 0]), (.t 5, [bv true]), (.o 4, [iv x7_1.Session, iv x7_1.Seq, iv x7_1.Pos])]) (by kernel_rfl) (.cons (c_ix (e := TSeat.en) a7_2 e7_3) (.cons (c_el (e := TSeat.en) e7_3) .nil)) (by kernel_rfl) ?_
    refine WK.weak (l := [(.t 4, [.ptr 4 0]), (.t 5, [bv true]), (.o 4, [iv x7_1.Session, iv x7_1.Seq, iv x7_1.Pos])]) (wk_of (by kernel_rfl)) ?_
    refine WK.ret (by kernel_rfl) ?_
    cases some_inj h
    exact WKe.fin (e' := .ret) (by kernel_rfl) (fin_of (g := []) (by first | exact .inl rfl | exact .inr rfl) .nil (by kernel_rfl))
/-- slices.Equal[[]diwan/api.Seat,diwan/api.Seat] -/
noncomputable def bd16 : Code := (Try.f16.body).getD .skip
def slices_Equal_api_Seat.O : Nat → Nat := fun t => bif ([4] : List Nat).any (Nat.beq t) then 1 else 0
noncomputable def slices_Equal_api_Seat.lp6 (fu : Nat) (l6_0 : List TSeat) (l6_1 : List TSeat) (l6_2 : Int) : Nat → Int → Option (Unit ⊕ Unit)
  | 0, _ => none
  | n_ + 1, l6_3 =>
    br (decide (l6_3 < l6_2))
      (ix l6_0 l6_3 fun x10_1 =>
      ix l6_1 l6_3 fun x10_4 =>
      br (!((x10_1.Session == x10_4.Session) && ((x10_1.Seq == x10_4.Seq) && ((x10_1.Pos == x10_4.Pos) && true))))
        (some (.inr ()))
        (slices_Equal_api_Seat.lp6 fu l6_0 l6_1 l6_2 n_ (w64 (l6_3 + 1))))
      (some (.inl ()))
noncomputable def slices_Equal_api_Seat.lp6_post (l6_0 : List TSeat) (l6_1 : List TSeat) (l6_2 : Int) (r_ : (Unit ⊕ Unit)) : Wy → St → Prop := fun e τ => match r_ with
  | .inl _ => e = .exit 0 ∧ τ = ofL []
  | .inr _ => e = .ret ∧ τ = ofL [(.t 4, [bv false])]
theorem slices_Equal_api_Seat.lp6_ok (fu : Nat) (l6_0 : List TSeat) (l6_1 : List TSeat) (l6_2 : Int) : ∀ (n_ : Nat) (l6_3 : Int) (r_ : (Unit ⊕ Unit)), slices_Equal_api_Seat.lp6 fu l6_0 l6_1 l6_2 n_ l6_3 = some r_ → WK Try.prog slices_Equal_api_Seat.O (Ck Try.prog) (cB (cR (cL (cR (cR bd16))))) [] (ofL [(.t 0, [.data (.slc false none 3 (List.map TSeat.en l6_0))]), (.t 1, [.data (.slc false none 3 (List.map TSeat.en l6_1))]), (.t 12, [iv l6_2]), (.t 13, [iv l6_3])]) (slices_Equal_api_Seat.lp6_post l6_0 l6_1 l6_2 r_) := by
  intro n_
  induction n_ with
  | zero => intro l6_3 r_ h; exact no_none h
  | succ n_ ih =>
    intro l6_3 r_ h
    refine WK.loop (by kernel_rfl) ?_
    refine WK.rs (g := []) (l' := [(.t 0, [.data (.slc false none 3 (List.map TSeat.en l6_0))]), (.t 1, [.data (.slc false none 3 (List.map TSeat.en l6_1))]), (.t 12, [iv l6_2]), (.t 13, [iv l6_3]), (.t 14, [bv (decide (l6_3 < l6_2))])]) (by kernel_rfl) .nil (by kernel_rfl) ?_
    refine WK.seq (by kernel_rfl) ?_
    rcases br_inv h with ⟨b8_0, h⟩ | ⟨b8_0, h⟩
    · refine WK.ct (b := (decide (l6_3 < l6_2))) (by kernel_rfl) b8_0 ?_
      refine WK.skip (by kernel_rfl) ?_
      refine WKe.code (y := (cR (cR (cB (cB (cR (cL (cR (cR bd16))))))))) (ks' := [.lp (cB (cR (cL (cR (cR bd16)))))]) (by kernel_rfl) ?_
      refine WK.seq (by kernel_rfl) ?_
      refine WK.block (n := 1) (by kernel_rfl) ?_
      refine WK.rs (g := []) (l' := [(.t 0, [.data (.slc false none 3 (List.map TSeat.en l6_0))]), (.t 1, [.data (.slc false none 3 (List.map TSeat.en l6_1))]), (.t 5, [iv l6_3]), (.t 12, [iv l6_2]), (.t 13, [iv l6_3])]) (by kernel_rfl) .nil (by kernel_rfl) ?_
      obtain ⟨x10_1, a10_2, e10_3, h⟩ := ix_inv h
      obtain ⟨x10_4, a10_5, e10_6, h⟩ := ix_inv h
      refine WK.rs (g := [.c (TSeat.en x10_1), .c (TSeat.en x10_4)]) (l' := [(.t 0, [.data (.slc false none 3 (List.map TSeat.en l6_0))]), (.t 1, [.data (.slc false none 3 (List.map TSeat.en l6_1))]), (.t 12, [iv l6_2]), (.t 13, [iv l6_3]), (.t 24, [bv (!((x10_1.Session == x10_4.Session) && ((x10_1.Seq == x10_4.Seq) && ((x10_1.Pos == x10_4.Pos) && true))))])]) (by kernel_rfl) (.cons (c_ix (e := TSeat.en) a10_2 e10_3) (.cons (c_el (e := TSeat.en) e10_3) (.cons (c_ix (e := TSeat.en) a10_5 e10_6) (.cons (c_el (e := TSeat.en) e10_6) (.cons (Eq.refl true) .nil))))) (by kernel_rfl) ?_
      rcases br_inv h with ⟨b11_0, h⟩ | ⟨b11_0, h⟩
      · refine WK.ct (b := (!((x10_1.Session == x10_4.Session) && ((x10_1.Seq == x10_4.Seq) && ((x10_1.Pos == x10_4.Pos) && true))))) (by kernel_rfl) b11_0 ?_
        refine WK.rs (g := []) (l' := [(.t 4, [bv false])]) (by kernel_rfl) .nil (by kernel_rfl) ?_
        refine WK.weak (l := [(.t 4, [bv false])]) (wk_of (by kernel_rfl)) ?_
        refine WK.ret (by kernel_rfl) ?_
        cases some_inj h
        exact WKe.fin (e' := .ret) (by kernel_rfl) ⟨rfl, rfl⟩
      · refine WK.ce (b := (!((x10_1.Session == x10_4.Session) && ((x10_1.Seq == x10_4.Seq) && ((x10_1.Pos == x10_4.Pos) && true))))) (by kernel_rfl) b11_0 ?_
        refine WK.skip (by kernel_rfl) ?_
        refine WKe.code (y := (cR (cR (cR (cB (cB (cR (cL (cR (cR bd16)))))))))) (ks' := [.lp (cB (cR (cL (cR (cR bd16)))))]) (by kernel_rfl) ?_
        refine WK.rc (g := []) (l' := [(.t 0, [.data (.slc false none 3 (List.map TSeat.en l6_0))]), (.t 1, [.data (.slc false none 3 (List.map TSeat.en l6_1))]), (.t 12, [iv l6_2]), (.t 13, [iv (w64 (l6_3 + 1))])]) .nil (by kernel_rfl) (y := (cB (cR (cL (cR (cR bd16)))))) (ks' := []) (by kernel_rfl) ?_
        exact WK.weak (l := [(.t 0, [.data (.slc false none 3 (List.map TSeat.en l6_0))]), (.t 1, [.data (.slc false none 3 (List.map TSeat.en l6_1))]), (.t 12, [iv l6_2]), (.t 13, [iv (w64 (l6_3 + 1))])]) (wk_of (by kernel_rfl)) (ih (w64 (l6_3 + 1)) _ h)
    · refine WK.ce (b := (decide (l6_3 < l6_2))) (by kernel_rfl) b8_0 ?_
      refine WK.weak (l := []) (wk_of (by kernel_rfl)) ?_
      refine WK.exit (n := 0) (by kernel_rfl) ?_
      cases some_inj h
      exact WKe.fin (e' := .exit 0) (by kernel_rfl) ⟨rfl, rfl⟩
noncomputable def slices_Equal_api_Seat (fu : Nat) (s1 : List TSeat) (s2 : List TSeat) : Option Bool :=
  br ((s1.length : Int) != (s2.length : Int))
    (some false)
    (bd (slices_Equal_api_Seat.lp6 fu s1 s2 (s1.length : Int) fu 0) fun o_ => (match o_ with
    | .inl _ =>
      some true
    | .inr _ =>
      some false))
theorem slices_Equal_api_Seat.meets (fu : Nat) (s1 : List TSeat) (s2 : List TSeat) (z0 : Bool) (h : slices_Equal_api_Seat fu s1 s2 = some z0) : Meets Try.prog ⟨16, [.data (.slc false none 3 (List.map TSeat.en s1)), .data (.slc false none 3 (List.map TSeat.en s2))], []⟩ ⟨bv z0, []⟩ := by
  refine meets_of (O := slices_Equal_api_Seat.O) hmix (fn := Try.f16) (code := bd16) (by kernel_rfl) ?_
  refine WK.weak (l := [(.t 0, [.data (.slc false none 3 (List.map TSeat.en s1))]), (.t 1, [.data (.slc false none 3 (List.map TSeat.en s2))])]) (wk_of (by kernel_rfl)) ?_
  unfold slices_Equal_api_Seat at h
  refine WK.rs (g := []) (l' := [(.t 0, [.data (.slc false none 3 (List.map TSeat.en s1))]), (.t 1, [.data (.slc false none 3 (List.map TSeat.en s2))])]) (by kernel_rfl) .nil (by kernel_rfl) ?_
  refine WK.seq (by kernel_rfl) ?_
  refine WK.rs (g := [.s (.t 7) [iv (s1.length : Int)], .s (.t 9) [iv (s2.length : Int)]]) (l' := [(.t 0, [.data (.slc false none 3 (List.map TSeat.en s1))]), (.t 1, [.data (.slc false none 3 (List.map TSeat.en s2))]), (.t 10, [bv ((s1.length : Int) != (s2.length : Int))])]) (by kernel_rfl) (.cons (c_len (e := TSeat.en) (l := s1)) (.cons (c_len (e := TSeat.en) (l := s2)) .nil)) (by kernel_rfl) ?_
  rcases br_inv h with ⟨b3_0, h⟩ | ⟨b3_0, h⟩
  · refine WK.ct (b := ((s1.length : Int) != (s2.length : Int))) (by kernel_rfl) b3_0 ?_
    refine WK.rs (g := []) (l' := [(.t 4, [bv false])]) (by kernel_rfl) .nil (by kernel_rfl) ?_
    refine WK.weak (l := [(.t 4, [bv false])]) (wk_of (by kernel_rfl)) ?_
    refine WK.ret (by kernel_rfl) ?_
    cases some_inj h
    exact WKe.fin (e' := .ret) (by kernel_rfl) (fin_of (g := []) (by first | exact .inl rfl | exact .inr rfl) .nil (by kernel_rfl))
  · refine WK.ce (b := ((s1.length : Int) != (s2.length : Int))) (by kernel_rfl) b3_0 ?_
    refine WK.skip (by kernel_rfl) ?_
    refine WKe.code (y := (cR (cR bd16))) (ks' := []) (by kernel_rfl) ?_
    refine WK.seq (by kernel_rfl) ?_
    refine WK.rs (g := [.s (.t 12) [iv (s1.length : Int)]]) (l' := [(.t 0, [.data (.slc false none 3 (List.map TSeat.en s1))]), (.t 1, [.data (.slc false none 3 (List.map TSeat.en s2))]), (.t 12, [iv (s1.length : Int)]), (.t 13, [iv 0])]) (by kernel_rfl) (.cons (c_len (e := TSeat.en) (l := s1)) .nil) (by kernel_rfl) ?_
    refine WK.block (n := 0) (by kernel_rfl) ?_
    obtain ⟨o14, ho14, h⟩ := bd_inv h
    refine WK.weak (l := [(.t 0, [.data (.slc false none 3 (List.map TSeat.en s1))]), (.t 1, [.data (.slc false none 3 (List.map TSeat.en s2))]), (.t 12, [iv (s1.length : Int)]), (.t 13, [iv 0])]) (wk_of (by kernel_rfl)) ?_
    refine WK.use (slices_Equal_api_Seat.lp6_ok fu s1 s2 (s1.length : Int) _ 0 _ ho14) ?_
    intro e_ τ_ hp_
    rcases o14 with o14 | o14
    · obtain ⟨⟩ := o14
      obtain ⟨rfl, rfl⟩ := hp_
      refine WKe.code (y := (cR (cR (cR bd16)))) (ks' := []) (by kernel_rfl) ?_
      refine WK.rs (g := []) (l' := [(.t 4, [bv true])]) (by kernel_rfl) .nil (by kernel_rfl) ?_
      refine WK.weak (l := [(.t 4, [bv true])]) (wk_of (by kernel_rfl)) ?_
      refine WK.ret (by kernel_rfl) ?_
      cases some_inj h
      exact WKe.fin (e' := .ret) (by kernel_rfl) (fin_of (g := []) (by first | exact .inl rfl | exact .inr rfl) .nil (by kernel_rfl))
    · obtain ⟨⟩ := o14
      obtain ⟨rfl, rfl⟩ := hp_
      cases some_inj h
      exact WKe.fin (e' := .ret) (by kernel_rfl) (fin_of (g := []) (by first | exact .inl rfl | exact .inr rfl) .nil (by kernel_rfl))
/-- diwan/seat.Same -/
noncomputable def bd10 : Code := (Try.f10.body).getD .skip
def seat_Same.O : Nat → Nat := fun t => bif ([4] : List Nat).any (Nat.beq t) then 1 else 0
noncomputable def seat_Same (fu : Nat) (a : List TSeat) (b : List TSeat) : Option Bool :=
  bd (slices_Equal_api_Seat fu a b) fun r2_1 =>
  some r2_1
theorem seat_Same.meets (fu : Nat) (a : List TSeat) (b : List TSeat) (z0 : Bool) (h : seat_Same fu a b = some z0) : Meets Try.prog ⟨10, [.data (.slc false none 3 (List.map TSeat.en a)), .data (.slc false none 3 (List.map TSeat.en b))], []⟩ ⟨bv z0, []⟩ := by
  refine meets_of (O := seat_Same.O) hmix (fn := Try.f10) (code := bd10) (by kernel_rfl) ?_
  refine WK.weak (l := [(.t 0, [.data (.slc false none 3 (List.map TSeat.en a))]), (.t 1, [.data (.slc false none 3 (List.map TSeat.en b))])]) (wk_of (by kernel_rfl)) ?_
  unfold seat_Same at h
  refine WK.rs (g := []) (l' := [(.t 0, [.data (.slc false none 3 (List.map TSeat.en a))]), (.t 1, [.data (.slc false none 3 (List.map TSeat.en b))])]) (by kernel_rfl) .nil (by kernel_rfl) ?_
  obtain ⟨r2_1, h2_2, h⟩ := bd_inv h
  refine WK.rs (g := [.a ⟨bv r2_1, []⟩]) (l' := [(.t 4, [bv r2_1])]) (by kernel_rfl) (.cons (Asks.of (C := Meets Try.prog) (slices_Equal_api_Seat.meets fu a b _ h2_2)) .nil) (by kernel_rfl) ?_
  refine WK.weak (l := [(.t 4, [bv r2_1])]) (wk_of (by kernel_rfl)) ?_
  refine WK.ret (by kernel_rfl) ?_
  cases some_inj h
  exact WKe.fin (e' := .ret) (by kernel_rfl) (fin_of (g := []) (by first | exact .inl rfl | exact .inr rfl) .nil (by kernel_rfl))
/-- diwan/diwanlaw17.begun -/
noncomputable def bd6 : Code := (Try.f6.body).getD .skip
def diwanlaw17_begun.O : Nat → Nat := fun t => bif ([0, 1, 2, 3, 4, 5, 6, 7, 8, 21, 26, 43] : List Nat).any (Nat.beq t) then 1 else 0
noncomputable def diwanlaw17_begun (fu : Nat) : Option Bool :=
  bd (seat_Turn fu [] 2 1 5) fun (r2_1, r2_2) =>
  bd (seat_Turn fu r2_1 2 1 6) fun (r3_1, r3_2) =>
  bd (seat_Find fu r2_1 2) fun (r4_1, r4_2) =>
  bd (seat_Find fu r2_1 1) fun (r5_1, r5_2) =>
  br r2_2
    (br (!r3_2)
      (br ((r3_1.length : Int) == 1)
        (br r4_1
          (br ((r4_2.Session == 2) && ((r4_2.Seq == 1) && ((r4_2.Pos == 5) && true)))
            (br (!r5_1)
              (bd (seat_Same fu r2_1 r3_1) fun r6_7 =>
              br r6_7
                (bd (seat_Same fu r2_1 []) fun r6_10 =>
                some (!r6_10))
                (some false))
              (some false))
            (some false))
          (some false))
        (some false))
      (some false))
    (some false)
theorem diwanlaw17_begun.meets (fu : Nat) (z0 : Bool) (h : diwanlaw17_begun fu = some z0) : Meets Try.prog ⟨6, [], []⟩ ⟨bv z0, []⟩ := by
  refine meets_of (O := diwanlaw17_begun.O) hmix (fn := Try.f6) (code := bd6) (by kernel_rfl) ?_
  refine WK.weak (l := []) (wk_of (by kernel_rfl)) ?_
  unfold diwanlaw17_begun at h
  refine WK.rs (g := []) (l' := []) (by kernel_rfl) .nil (by kernel_rfl) ?_
  obtain ⟨⟨r2_1, r2_2⟩, h2_3, h⟩ := bd_inv h
  refine WK.rs (g := [.a ⟨.tup [.data (.slc false none 3 (List.map TSeat.en r2_1)), bv r2_2], []⟩]) (l' := [(.t 1, [.data (.slc false none 3 (List.map TSeat.en r2_1))]), (.t 2, [bv r2_2])]) (by kernel_rfl) (.cons (Asks.fg (args1 := []) (args2 := [iv 2, iv 1, iv 5]) (nl := some true) (sz := 3) (es := List.map TSeat.en []) (Asks.of (C := Meets Try.prog) (seat_Turn.meets fu [] 2 1 5 _ _ h2_3))) .nil) (by kernel_rfl) ?_
  obtain ⟨⟨r3_1, r3_2⟩, h3_3, h⟩ := bd_inv h
  refine WK.rs (g := [.a ⟨.tup [.data (.slc false none 3 (List.map TSeat.en r3_1)), bv r3_2], []⟩]) (l' := [(.t 1, [.data (.slc false none 3 (List.map TSeat.en r2_1))]), (.t 2, [bv r2_2]), (.t 3, [.data (.slc false none 3 (List.map TSeat.en r3_1))]), (.t 4, [bv r3_2])]) (by kernel_rfl) (.cons (Asks.of (C := Meets Try.prog) (seat_Turn.meets fu r2_1 2 1 6 _ _ h3_3)) .nil) (by kernel_rfl) ?_
  obtain ⟨⟨r4_1, r4_2⟩, h4_3, h⟩ := bd_inv h
  refine WK.rs (g := [.a ⟨.tup [.data (.agg [.val (.int .i64 r4_2.Session), .val (.int .i64 r4_2.Seq), .val (.int .i64 r4_2.Pos)]), bv r4_1], []⟩]) (l' := [(.t 1, [.data (.slc false none 3 (List.map TSeat.en r2_1))]), (.t 2, [bv r2_2]), (.t 3, [.data (.slc false none 3 (List.map TSeat.en r3_1))]), (.t 4, [bv r3_2]), (.t 5, [.ptr 5 0]), (.t 6, [bv r4_1]), (.o 5, [iv r4_2.Session, iv r4_2.Seq, iv r4_2.Pos])]) (by kernel_rfl) (.cons (Asks.of (C := Meets Try.prog) (seat_Find.meets fu r2_1 2 _ _ h4_3)) .nil) (by kernel_rfl) ?_
  obtain ⟨⟨r5_1, r5_2⟩, h5_3, h⟩ := bd_inv h
  refine WK.rs (g := [.a ⟨.tup [.data (.agg [.val (.int .i64 r5_2.Session), .val (.int .i64 r5_2.Seq), .val (.int .i64 r5_2.Pos)]), bv r5_1], []⟩]) (l' := [(.t 1, [.data (.slc false none 3 (List.map TSeat.en r2_1))]), (.t 2, [bv r2_2]), (.t 3, [.data (.slc false none 3 (List.map TSeat.en r3_1))]), (.t 4, [bv r3_2]), (.t 5, [.ptr 5 0]), (.t 6, [bv r4_1]), (.t 8, [bv r5_1]), (.o 5, [iv r4_2.Session, iv r4_2.Seq, iv r4_2.Pos])]) (by kernel_rfl) (.cons (Asks.of (C := Meets Try.prog) (seat_Find.meets fu r2_1 1 _ _ h5_3)) .nil) (by kernel_rfl) ?_
  rcases br_inv h with ⟨b6_1, h⟩ | ⟨b6_1, h⟩
  · rcases br_inv h with ⟨b6_2, h⟩ | ⟨b6_2, h⟩
    · rcases br_inv h with ⟨b6_3, h⟩ | ⟨b6_3, h⟩
      · rcases br_inv h with ⟨b6_4, h⟩ | ⟨b6_4, h⟩
        · rcases br_inv h with ⟨b6_5, h⟩ | ⟨b6_5, h⟩
          · rcases br_inv h with ⟨b6_6, h⟩ | ⟨b6_6, h⟩
            · obtain ⟨r6_7, h6_8, h⟩ := bd_inv h
              rcases br_inv h with ⟨b6_9, h⟩ | ⟨b6_9, h⟩
              · obtain ⟨r6_10, h6_11, h⟩ := bd_inv h
                refine WK.rs (g := [.b true, .b true, .b true, .b true, .b true, .s (.t 35) [iv (r3_1.length : Int)], .b true, .b true, .b true, .b true, .b true, .b true, .b true, .b true, .b true, .b true, .b true, .b true, .b true, .b true, .a ⟨bv r6_7, []⟩, .b true, .b true, .b true, .a ⟨bv r6_10, []⟩, .b true, .b true]) (l' := [(.t 0, [bv (!r6_10)])]) (by kernel_rfl) (.cons b6_1 (.cons b6_1 (.cons b6_1 (.cons b6_2 (.cons b6_2 (.cons (c_len (e := TSeat.en) (l := r3_1)) (.cons b6_2 (.cons b6_2 (.cons b6_3 (.cons b6_3 (.cons b6_4 (.cons b6_4 (.cons b6_4 (.cons b6_4 (.cons b6_5 (.cons b6_5 (.cons b6_5 (.cons b6_6 (.cons b6_6 (.cons b6_6 (.cons (Asks.of (C := Meets Try.prog) (seat_Same.meets fu r2_1 r3_1 _ h6_8)) (.cons b6_6 (.cons b6_9 (.cons b6_9 (.cons (Asks.fg (args1 := [.data (.slc false none 3 (List.map TSeat.en r2_1))]) (args2 := []) (nl := some true) (sz := 3) (es := List.map TSeat.en []) (Asks.of (C := Meets Try.prog) (seat_Same.meets fu r2_1 [] _ h6_11))) (.cons b6_9 (.cons b6_9 .nil))))))))))))))))))))))))))) (by kernel_rfl) ?_
                refine WK.weak (l := [(.t 0, [bv (!r6_10)])]) (wk_of (by kernel_rfl)) ?_
                refine WK.ret (by kernel_rfl) ?_
                cases some_inj h
                exact WKe.fin (e' := .ret) (by kernel_rfl) (fin_of (g := []) (by first | exact .inl rfl | exact .inr rfl) .nil (by kernel_rfl))
              · refine WK.rs (g := [.b true, .b true, .b true, .b true, .b true, .s (.t 35) [iv (r3_1.length : Int)], .b true, .b true, .b true, .b true, .b true, .b true, .b true, .b true, .b true, .b true, .b true, .b true, .b true, .b true, .a ⟨bv r6_7, []⟩, .b true, .b false, .b false, .b false, .b false]) (l' := [(.t 0, [bv false])]) (by kernel_rfl) (.cons b6_1 (.cons b6_1 (.cons b6_1 (.cons b6_2 (.cons b6_2 (.cons (c_len (e := TSeat.en) (l := r3_1)) (.cons b6_2 (.cons b6_2 (.cons b6_3 (.cons b6_3 (.cons b6_4 (.cons b6_4 (.cons b6_4 (.cons b6_4 (.cons b6_5 (.cons b6_5 (.cons b6_5 (.cons b6_6 (.cons b6_6 (.cons b6_6 (.cons (Asks.of (C := Meets Try.prog) (seat_Same.meets fu r2_1 r3_1 _ h6_8)) (.cons b6_6 (.cons b6_9 (.cons b6_9 (.cons b6_9 (.cons b6_9 .nil)))))))))))))))))))))))))) (by kernel_rfl) ?_
                refine WK.weak (l := [(.t 0, [bv false])]) (wk_of (by kernel_rfl)) ?_
                refine WK.ret (by kernel_rfl) ?_
                cases some_inj h
                exact WKe.fin (e' := .ret) (by kernel_rfl) (fin_of (g := []) (by first | exact .inl rfl | exact .inr rfl) .nil (by kernel_rfl))
            · refine WK.rs (g := [.b true, .b true, .b true, .b true, .b true, .s (.t 35) [iv (r3_1.length : Int)], .b true, .b true, .b true, .b true, .b true, .b true, .b true, .b true, .b true, .b true, .b true, .b false, .b false, .b false, .b false, .b false, .b false, .b false, .b false]) (l' := [(.t 0, [bv false])]) (by kernel_rfl) (.cons b6_1 (.cons b6_1 (.cons b6_1 (.cons b6_2 (.cons b6_2 (.cons (c_len (e := TSeat.en) (l := r3_1)) (.cons b6_2 (.cons b6_2 (.cons b6_3 (.cons b6_3 (.cons b6_4 (.cons b6_4 (.cons b6_4 (.cons b6_4 (.cons b6_5 (.cons b6_5 (.cons b6_5 (.cons b6_6 (.cons b6_6 (.cons b6_6 (.cons b6_6 (.cons (Eq.refl false) (.cons (Eq.refl false) (.cons (Eq.refl false) (.cons (Eq.refl false) .nil))))))))))))))))))))))))) (by kernel_rfl) ?_
              refine WK.weak (l := [(.t 0, [bv false])]) (wk_of (by kernel_rfl)) ?_
              refine WK.ret (by kernel_rfl) ?_
              cases some_inj h
              exact WKe.fin (e' := .ret) (by kernel_rfl) (fin_of (g := []) (by first | exact .inl rfl | exact .inr rfl) .nil (by kernel_rfl))
          · refine WK.rs (g := [.b true, .b true, .b true, .b true, .b true, .s (.t 35) [iv (r3_1.length : Int)], .b true, .b true, .b true, .b true, .b true, .b true, .b true, .b true, .b false, .b false, .b false, .b false, .b false, .b false, .b false, .b false, .b false, .b false, .b false]) (l' := [(.t 0, [bv false])]) (by kernel_rfl) (.cons b6_1 (.cons b6_1 (.cons b6_1 (.cons b6_2 (.cons b6_2 (.cons (c_len (e := TSeat.en) (l := r3_1)) (.cons b6_2 (.cons b6_2 (.cons b6_3 (.cons b6_3 (.cons b6_4 (.cons b6_4 (.cons b6_4 (.cons b6_4 (.cons b6_5 (.cons b6_5 (.cons b6_5 (.cons (Eq.refl false) (.cons (Eq.refl false) (.cons (Eq.refl false) (.cons (Eq.refl false) (.cons (Eq.refl false) (.cons (Eq.refl false) (.cons (Eq.refl false) (.cons (Eq.refl false) .nil))))))))))))))))))))))))) (by kernel_rfl) ?_
            refine WK.weak (l := [(.t 0, [bv false])]) (wk_of (by kernel_rfl)) ?_
            refine WK.ret (by kernel_rfl) ?_
            cases some_inj h
            exact WKe.fin (e' := .ret) (by kernel_rfl) (fin_of (g := []) (by first | exact .inl rfl | exact .inr rfl) .nil (by kernel_rfl))
        · refine WK.rs (g := [.b true, .b true, .b true, .b true, .b true, .s (.t 35) [iv (r3_1.length : Int)], .b true, .b true, .b true, .b true, .b false, .b false, .b false, .b false, .b false, .b false, .b false, .b false, .b false, .b false, .b false, .b false, .b false, .b false, .b false]) (l' := [(.t 0, [bv false])]) (by kernel_rfl) (.cons b6_1 (.cons b6_1 (.cons b6_1 (.cons b6_2 (.cons b6_2 (.cons (c_len (e := TSeat.en) (l := r3_1)) (.cons b6_2 (.cons b6_2 (.cons b6_3 (.cons b6_3 (.cons b6_4 (.cons b6_4 (.cons b6_4 (.cons b6_4 (.cons (Eq.refl false) (.cons (Eq.refl false) (.cons (Eq.refl false) (.cons (Eq.refl false) (.cons (Eq.refl false) (.cons (Eq.refl false) (.cons (Eq.refl false) (.cons (Eq.refl false) (.cons (Eq.refl false) (.cons (Eq.refl false) (.cons (Eq.refl false) .nil))))))))))))))))))))))))) (by kernel_rfl) ?_
          refine WK.weak (l := [(.t 0, [bv false])]) (wk_of (by kernel_rfl)) ?_
          refine WK.ret (by kernel_rfl) ?_
          cases some_inj h
          exact WKe.fin (e' := .ret) (by kernel_rfl) (fin_of (g := []) (by first | exact .inl rfl | exact .inr rfl) .nil (by kernel_rfl))
      · refine WK.rs (g := [.b true, .b true, .b true, .b true, .b true, .s (.t 35) [iv (r3_1.length : Int)], .b true, .b true, .b false, .b false, .b false, .b false, .b false, .b false, .b false, .b false, .b false, .b false, .b false, .b false, .b false, .b false, .b false, .b false, .b false]) (l' := [(.t 0, [bv false])]) (by kernel_rfl) (.cons b6_1 (.cons b6_1 (.cons b6_1 (.cons b6_2 (.cons b6_2 (.cons (c_len (e := TSeat.en) (l := r3_1)) (.cons b6_2 (.cons b6_2 (.cons b6_3 (.cons b6_3 (.cons (Eq.refl false) (.cons (Eq.refl false) (.cons (Eq.refl false) (.cons (Eq.refl false) (.cons (Eq.refl false) (.cons (Eq.refl false) (.cons (Eq.refl false) (.cons (Eq.refl false) (.cons (Eq.refl false) (.cons (Eq.refl false) (.cons (Eq.refl false) (.cons (Eq.refl false) (.cons (Eq.refl false) (.cons (Eq.refl false) (.cons (Eq.refl false) .nil))))))))))))))))))))))))) (by kernel_rfl) ?_
        refine WK.weak (l := [(.t 0, [bv false])]) (wk_of (by kernel_rfl)) ?_
        refine WK.ret (by kernel_rfl) ?_
        cases some_inj h
        exact WKe.fin (e' := .ret) (by kernel_rfl) (fin_of (g := []) (by first | exact .inl rfl | exact .inr rfl) .nil (by kernel_rfl))
    · refine WK.rs (g := [.b true, .b true, .b true, .b false, .b false, .b false, .b false, .b false, .b false, .b false, .b false, .b false, .b false, .b false, .b false, .b false, .b false, .b false, .b false, .b false, .b false, .b false, .b false, .b false]) (l' := [(.t 0, [bv false])]) (by kernel_rfl) (.cons b6_1 (.cons b6_1 (.cons b6_1 (.cons b6_2 (.cons b6_2 (.cons b6_2 (.cons b6_2 (.cons (Eq.refl false) (.cons (Eq.refl false) (.cons (Eq.refl false) (.cons (Eq.refl false) (.cons (Eq.refl false) (.cons (Eq.refl false) (.cons (Eq.refl false) (.cons (Eq.refl false) (.cons (Eq.refl false) (.cons (Eq.refl false) (.cons (Eq.refl false) (.cons (Eq.refl false) (.cons (Eq.refl false) (.cons (Eq.refl false) (.cons (Eq.refl false) (.cons (Eq.refl false) (.cons (Eq.refl false) .nil)))))))))))))))))))))))) (by kernel_rfl) ?_
      refine WK.weak (l := [(.t 0, [bv false])]) (wk_of (by kernel_rfl)) ?_
      refine WK.ret (by kernel_rfl) ?_
      cases some_inj h
      exact WKe.fin (e' := .ret) (by kernel_rfl) (fin_of (g := []) (by first | exact .inl rfl | exact .inr rfl) .nil (by kernel_rfl))
  · refine WK.rs (g := [.b false, .b false, .b false, .b false, .b false, .b false, .b false, .b false, .b false, .b false, .b false, .b false, .b false, .b false, .b false, .b false, .b false, .b false, .b false, .b false, .b false, .b false, .b false, .b false]) (l' := [(.t 0, [bv false])]) (by kernel_rfl) (.cons b6_1 (.cons b6_1 (.cons b6_1 (.cons (Eq.refl false) (.cons (Eq.refl false) (.cons (Eq.refl false) (.cons (Eq.refl false) (.cons (Eq.refl false) (.cons (Eq.refl false) (.cons (Eq.refl false) (.cons (Eq.refl false) (.cons (Eq.refl false) (.cons (Eq.refl false) (.cons (Eq.refl false) (.cons (Eq.refl false) (.cons (Eq.refl false) (.cons (Eq.refl false) (.cons (Eq.refl false) (.cons (Eq.refl false) (.cons (Eq.refl false) (.cons (Eq.refl false) (.cons (Eq.refl false) (.cons (Eq.refl false) (.cons (Eq.refl false) .nil)))))))))))))))))))))))) (by kernel_rfl) ?_
    refine WK.weak (l := [(.t 0, [bv false])]) (wk_of (by kernel_rfl)) ?_
    refine WK.ret (by kernel_rfl) ?_
    cases some_inj h
    exact WKe.fin (e' := .ret) (by kernel_rfl) (fin_of (g := []) (by first | exact .inl rfl | exact .inr rfl) .nil (by kernel_rfl))
/-- diwan/diwanlaw17.SeatOnce -/
noncomputable def bd4 : Code := (Try.f4.body).getD .skip
def diwanlaw17_SeatOnce.O : Nat → Nat := fun t => bif ([2, 3, 4, 5, 6, 7, 8, 9, 10, 11, 57, 63] : List Nat).any (Nat.beq t) then 1 else 0
noncomputable def diwanlaw17_SeatOnce.lp11 (fu : Nat) (l11_0 : List TA2_uint8) : Nat → (List TSeat) → Int → TA6_int → Option (Unit ⊕ Unit)
  | 0, _, _, _ => none
  | n_ + 1, l11_1, l11_2, l11_3 =>
    br (decide (l11_2 < (l11_0.length : Int)))
      (ix l11_0 l11_2 fun x14_1 =>
      ix l11_0 l11_2 fun x14_4 =>
      bd (seat_Turn fu l11_1 (w64 (1 + (w64 (Int.tmod x14_1.c0 5)))) (w64 (1 + (w64 (Int.tmod x14_4.c1 20)))) (w64 (l11_2 + 1))) fun (r15_1, r15_2) =>
      jn (
        jn (fun (j33_5 : TA6_int) =>
          bd (seat_Find fu r15_1 (w64 (1 + (w64 (Int.tmod x14_1.c0 5))))) fun (r34_1, r34_2) =>
          br (!r34_1)
            (some (.inr ()))
            (br ((w64 (1 + (w64 (Int.tmod x14_1.c0 5)))) == 0)
              (br (r34_2.Seq != j33_5.c0)
                (some (.inr ()))
                (br r15_2
                  (br (r34_2.Pos != (w64 (l11_2 + 1)))
                    (some (.inr ()))
                    (diwanlaw17_SeatOnce.lp11 fu l11_0 n_ r15_1 (w64 (l11_2 + 1)) j33_5))
                  (diwanlaw17_SeatOnce.lp11 fu l11_0 n_ r15_1 (w64 (l11_2 + 1)) j33_5)))
              (br ((w64 (1 + (w64 (Int.tmod x14_1.c0 5)))) == 1)
                (br (r34_2.Seq != j33_5.c1)
                  (some (.inr ()))
                  (br r15_2
                    (br (r34_2.Pos != (w64 (l11_2 + 1)))
                      (some (.inr ()))
                      (diwanlaw17_SeatOnce.lp11 fu l11_0 n_ r15_1 (w64 (l11_2 + 1)) j33_5))
                    (diwanlaw17_SeatOnce.lp11 fu l11_0 n_ r15_1 (w64 (l11_2 + 1)) j33_5)))
                (br ((w64 (1 + (w64 (Int.tmod x14_1.c0 5)))) == 2)
                  (br (r34_2.Seq != j33_5.c2)
                    (some (.inr ()))
                    (br r15_2
                      (br (r34_2.Pos != (w64 (l11_2 + 1)))
                        (some (.inr ()))
                        (diwanlaw17_SeatOnce.lp11 fu l11_0 n_ r15_1 (w64 (l11_2 + 1)) j33_5))
                      (diwanlaw17_SeatOnce.lp11 fu l11_0 n_ r15_1 (w64 (l11_2 + 1)) j33_5)))
                  (br ((w64 (1 + (w64 (Int.tmod x14_1.c0 5)))) == 3)
                    (br (r34_2.Seq != j33_5.c3)
                      (some (.inr ()))
                      (br r15_2
                        (br (r34_2.Pos != (w64 (l11_2 + 1)))
                          (some (.inr ()))
                          (diwanlaw17_SeatOnce.lp11 fu l11_0 n_ r15_1 (w64 (l11_2 + 1)) j33_5))
                        (diwanlaw17_SeatOnce.lp11 fu l11_0 n_ r15_1 (w64 (l11_2 + 1)) j33_5)))
                    (br ((w64 (1 + (w64 (Int.tmod x14_1.c0 5)))) == 4)
                      (br (r34_2.Seq != j33_5.c4)
                        (some (.inr ()))
                        (br r15_2
                          (br (r34_2.Pos != (w64 (l11_2 + 1)))
                            (some (.inr ()))
                            (diwanlaw17_SeatOnce.lp11 fu l11_0 n_ r15_1 (w64 (l11_2 + 1)) j33_5))
                          (diwanlaw17_SeatOnce.lp11 fu l11_0 n_ r15_1 (w64 (l11_2 + 1)) j33_5)))
                      (br ((w64 (1 + (w64 (Int.tmod x14_1.c0 5)))) == 5)
                        (br (r34_2.Seq != j33_5.c5)
                          (some (.inr ()))
                          (br r15_2
                            (br (r34_2.Pos != (w64 (l11_2 + 1)))
                              (some (.inr ()))
                              (diwanlaw17_SeatOnce.lp11 fu l11_0 n_ r15_1 (w64 (l11_2 + 1)) j33_5))
                            (diwanlaw17_SeatOnce.lp11 fu l11_0 n_ r15_1 (w64 (l11_2 + 1)) j33_5)))
                        (none)))))))) fun k33 =>
        br r15_2
          (br ((w64 (1 + (w64 (Int.tmod x14_1.c0 5)))) == 0)
            (k33 (TA6_int.mk (w64 (1 + (w64 (Int.tmod x14_4.c1 20)))) l11_3.c1 l11_3.c2 l11_3.c3 l11_3.c4 l11_3.c5))
            (br ((w64 (1 + (w64 (Int.tmod x14_1.c0 5)))) == 1)
              (k33 (TA6_int.mk l11_3.c0 (w64 (1 + (w64 (Int.tmod x14_4.c1 20)))) l11_3.c2 l11_3.c3 l11_3.c4 l11_3.c5))
              (br ((w64 (1 + (w64 (Int.tmod x14_1.c0 5)))) == 2)
                (k33 (TA6_int.mk l11_3.c0 l11_3.c1 (w64 (1 + (w64 (Int.tmod x14_4.c1 20)))) l11_3.c3 l11_3.c4 l11_3.c5))
                (br ((w64 (1 + (w64 (Int.tmod x14_1.c0 5)))) == 3)
                  (k33 (TA6_int.mk l11_3.c0 l11_3.c1 l11_3.c2 (w64 (1 + (w64 (Int.tmod x14_4.c1 20)))) l11_3.c4 l11_3.c5))
                  (br ((w64 (1 + (w64 (Int.tmod x14_1.c0 5)))) == 4)
                    (k33 (TA6_int.mk l11_3.c0 l11_3.c1 l11_3.c2 l11_3.c3 (w64 (1 + (w64 (Int.tmod x14_4.c1 20)))) l11_3.c5))
                    (br ((w64 (1 + (w64 (Int.tmod x14_1.c0 5)))) == 5)
                      (k33 (TA6_int.mk l11_3.c0 l11_3.c1 l11_3.c2 l11_3.c3 l11_3.c4 (w64 (1 + (w64 (Int.tmod x14_4.c1 20))))))
                      (none)))))))
          (k33 l11_3)) fun k29 =>
      br ((w64 (1 + (w64 (Int.tmod x14_1.c0 5)))) == 0)
        (br (!(r15_2 == (decide ((w64 (1 + (w64 (Int.tmod x14_4.c1 20)))) > l11_3.c0))))
          (some (.inr ()))
          (k29))
        (br ((w64 (1 + (w64 (Int.tmod x14_1.c0 5)))) == 1)
          (br (!(r15_2 == (decide ((w64 (1 + (w64 (Int.tmod x14_4.c1 20)))) > l11_3.c1))))
            (some (.inr ()))
            (k29))
          (br ((w64 (1 + (w64 (Int.tmod x14_1.c0 5)))) == 2)
            (br (!(r15_2 == (decide ((w64 (1 + (w64 (Int.tmod x14_4.c1 20)))) > l11_3.c2))))
              (some (.inr ()))
              (k29))
            (br ((w64 (1 + (w64 (Int.tmod x14_1.c0 5)))) == 3)
              (br (!(r15_2 == (decide ((w64 (1 + (w64 (Int.tmod x14_4.c1 20)))) > l11_3.c3))))
                (some (.inr ()))
                (k29))
              (br ((w64 (1 + (w64 (Int.tmod x14_1.c0 5)))) == 4)
                (br (!(r15_2 == (decide ((w64 (1 + (w64 (Int.tmod x14_4.c1 20)))) > l11_3.c4))))
                  (some (.inr ()))
                  (k29))
                (br ((w64 (1 + (w64 (Int.tmod x14_1.c0 5)))) == 5)
                  (br (!(r15_2 == (decide ((w64 (1 + (w64 (Int.tmod x14_4.c1 20)))) > l11_3.c5))))
                    (some (.inr ()))
                    (k29))
                  (none)))))))
      (some (.inl ()))
noncomputable def diwanlaw17_SeatOnce.lp11_post (l11_0 : List TA2_uint8) (r_ : (Unit ⊕ Unit)) : Wy → St → Prop := fun e τ => match r_ with
  | .inl _ => e = .exit 0 ∧ τ = ofL []
  | .inr _ => e = .ret ∧ τ = ofL [(.t 2, [bv false])]
theorem diwanlaw17_SeatOnce.lp11_ok (fu : Nat) (l11_0 : List TA2_uint8) : ∀ (n_ : Nat) (l11_1 : List TSeat) (l11_2 : Int) (l11_3 : TA6_int) (r_ : (Unit ⊕ Unit)), diwanlaw17_SeatOnce.lp11 fu l11_0 n_ l11_1 l11_2 l11_3 = some r_ → WK Try.prog diwanlaw17_SeatOnce.O (Ck Try.prog) (cB (cR (cL (cR (cR (cR (cR (cR bd4)))))))) [] (ofL [(.t 0, [.data (.slc false none 2 (List.map TA2_uint8.en l11_0))]), (.t 3, [.data (.slc false none 3 (List.map TSeat.en l11_1))]), (.t 4, [.ptr 4 0]), (.t 5, [iv l11_2]), (.o 4, [iv l11_3.c0, iv l11_3.c1, iv l11_3.c2, iv l11_3.c3, iv l11_3.c4, iv l11_3.c5])]) (diwanlaw17_SeatOnce.lp11_post l11_0 r_) := by
  intro n_
  induction n_ with
  | zero => intro l11_1 l11_2 l11_3 r_ h; exact no_none h
  | succ n_ ih =>
    intro l11_1 l11_2 l11_3 r_ h
    refine WK.loop (by kernel_rfl) ?_
    refine WK.seq (by kernel_rfl) ?_
    refine WK.rs (g := [.s (.t 19) [iv (l11_0.length : Int)]]) (l' := [(.t 0, [.data (.slc false none 2 (List.map TA2_uint8.en l11_0))]), (.t 3, [.data (.slc false none 3 (List.map TSeat.en l11_1))]), (.t 4, [.ptr 4 0]), (.t 5, [iv l11_2]), (.t 20, [bv (decide (l11_2 < (l11_0.length : Int)))]), (.o 4, [iv l11_3.c0, iv l11_3.c1, iv l11_3.c2, iv l11_3.c3, iv l11_3.c4, iv l11_3.c5])]) (by kernel_rfl) (.cons (c_len (e := TA2_uint8.en) (l := l11_0)) .nil) (by kernel_rfl) ?_
    rcases br_inv h with ⟨b13_0, h⟩ | ⟨b13_0, h⟩
    · refine WK.ct (b := (decide (l11_2 < (l11_0.length : Int)))) (by kernel_rfl) b13_0 ?_
      refine WK.skip (by kernel_rfl) ?_
      refine WKe.code (y := (cR (cB (cB (cR (cL (cR (cR (cR (cR (cR bd4))))))))))) (ks' := [.lp (cB (cR (cL (cR (cR (cR (cR (cR bd4))))))))]) (by kernel_rfl) ?_
      refine WK.seq (by kernel_rfl) ?_
      refine WK.block (n := 1) (by kernel_rfl) ?_
      obtain ⟨x14_1, a14_2, e14_3, h⟩ := ix_inv h
      obtain ⟨x14_4, a14_5, e14_6, h⟩ := ix_inv h
      refine WK.rs (g := [.c (TA2_uint8.en x14_1), .i 0, .c (TA2_uint8.en x14_4), .i 1]) (l' := [(.t 0, [.data (.slc false none 2 (List.map TA2_uint8.en l11_0))]), (.t 3, [.data (.slc false none 3 (List.map TSeat.en l11_1))]), (.t 4, [.ptr 4 0]), (.t 5, [iv l11_2]), (.t 6, [iv (w64 (1 + (w64 (Int.tmod x14_1.c0 5))))]), (.t 7, [iv (w64 (1 + (w64 (Int.tmod x14_4.c1 20))))]), (.o 4, [iv l11_3.c0, iv l11_3.c1, iv l11_3.c2, iv l11_3.c3, iv l11_3.c4, iv l11_3.c5])]) (by kernel_rfl) (.cons (c_ix (e := TA2_uint8.en) a14_2 e14_3) (.cons (c_el (e := TA2_uint8.en) e14_3) (.cons (Eq.refl true) (.cons (Eq.refl 0) (.cons (Eq.refl true) (.cons (c_ix (e := TA2_uint8.en) a14_5 e14_6) (.cons (c_el (e := TA2_uint8.en) e14_6) (.cons (Eq.refl true) (.cons (Eq.refl 1) (.cons (Eq.refl true) (.cons (Eq.refl true) .nil))))))))))) (by kernel_rfl) ?_
      obtain ⟨⟨r15_1, r15_2⟩, h15_3, h⟩ := bd_inv h
      refine WK.rs (g := [.a ⟨.tup [.data (.slc false none 3 (List.map TSeat.en r15_1)), bv r15_2], []⟩]) (l' := [(.t 0, [.data (.slc false none 2 (List.map TA2_uint8.en l11_0))]), (.t 4, [.ptr 4 0]), (.t 5, [iv l11_2]), (.t 6, [iv (w64 (1 + (w64 (Int.tmod x14_1.c0 5))))]), (.t 7, [iv (w64 (1 + (w64 (Int.tmod x14_4.c1 20))))]), (.t 8, [.data (.slc false none 3 (List.map TSeat.en r15_1))]), (.t 9, [bv r15_2]), (.o 4, [iv l11_3.c0, iv l11_3.c1, iv l11_3.c2, iv l11_3.c3, iv l11_3.c4, iv l11_3.c5])]) (by kernel_rfl) (.cons (Asks.of (C := Meets Try.prog) (seat_Turn.meets fu l11_1 (w64 (1 + (w64 (Int.tmod x14_1.c0 5)))) (w64 (1 + (w64 (Int.tmod x14_4.c1 20)))) (w64 (l11_2 + 1)) _ _ h15_3)) .nil) (by kernel_rfl) ?_
      obtain ⟨k29, hk29, h⟩ := jn_inv h
      have Jk29 : k29 = some r_ → WK Try.prog diwanlaw17_SeatOnce.O (Ck Try.prog) (cR (cR (cR (cB (cL (cR (cB (cB (cR (cL (cR (cR (cR (cR (cR bd4))))))))))))))) [.blk 1, .seq (cR (cR (cB (cB (cR (cL (cR (cR (cR (cR (cR bd4))))))))))), .lp (cB (cR (cL (cR (cR (cR (cR (cR bd4))))))))] (ofL [(.t 0, [.data (.slc false none 2 (List.map TA2_uint8.en l11_0))]), (.t 4, [.ptr 4 0]), (.t 5, [iv l11_2]), (.t 6, [iv (w64 (1 + (w64 (Int.tmod x14_1.c0 5))))]), (.t 7, [iv (w64 (1 + (w64 (Int.tmod x14_4.c1 20))))]), (.t 8, [.data (.slc false none 3 (List.map TSeat.en r15_1))]), (.t 9, [bv r15_2]), (.o 4, [iv l11_3.c0, iv l11_3.c1, iv l11_3.c2, iv l11_3.c3, iv l11_3.c4, iv l11_3.c5])]) (diwanlaw17_SeatOnce.lp11_post l11_0 r_) := by
        intro h
        rw [hk29] at h
        obtain ⟨k33, hk33, h⟩ := jn_inv h
        have Jk33 : ∀ (j33_5 : TA6_int), k33 j33_5 = some r_ → WK Try.prog diwanlaw17_SeatOnce.O (Ck Try.prog) (cR (cR (cR (cR (cB (cL (cR (cB (cB (cR (cL (cR (cR (cR (cR (cR bd4)))))))))))))))) [.blk 1, .seq (cR (cR (cB (cB (cR (cL (cR (cR (cR (cR (cR bd4))))))))))), .lp (cB (cR (cL (cR (cR (cR (cR (cR bd4))))))))] (ofL [(.t 0, [.data (.slc false none 2 (List.map TA2_uint8.en l11_0))]), (.t 4, [.ptr 4 0]), (.t 5, [iv l11_2]), (.t 6, [iv (w64 (1 + (w64 (Int.tmod x14_1.c0 5))))]), (.t 8, [.data (.slc false none 3 (List.map TSeat.en r15_1))]), (.t 9, [bv r15_2]), (.o 4, [iv j33_5.c0, iv j33_5.c1, iv j33_5.c2, iv j33_5.c3, iv j33_5.c4, iv j33_5.c5])]) (diwanlaw17_SeatOnce.lp11_post l11_0 r_) := by
          intro j33_5 h
          rw [hk33] at h
          obtain ⟨⟨r34_1, r34_2⟩, h34_3, h⟩ := bd_inv h
          refine WK.rs (g := [.a ⟨.tup [.data (.agg [.val (.int .i64 r34_2.Session), .val (.int .i64 r34_2.Seq), .val (.int .i64 r34_2.Pos)]), bv r34_1], []⟩]) (l' := [(.t 0, [.data (.slc false none 2 (List.map TA2_uint8.en l11_0))]), (.t 4, [.ptr 4 0]), (.t 5, [iv l11_2]), (.t 6, [iv (w64 (1 + (w64 (Int.tmod x14_1.c0 5))))]), (.t 8, [.data (.slc false none 3 (List.map TSeat.en r15_1))]), (.t 9, [bv r15_2]), (.t 10, [.ptr 10 0]), (.t 11, [bv r34_1]), (.o 4, [iv j33_5.c0, iv j33_5.c1, iv j33_5.c2, iv j33_5.c3, iv j33_5.c4, iv j33_5.c5]), (.o 10, [iv r34_2.Session, iv r34_2.Seq, iv r34_2.Pos])]) (by kernel_rfl) (.cons (Asks.of (C := Meets Try.prog) (seat_Find.meets fu r15_1 (w64 (1 + (w64 (Int.tmod x14_1.c0 5)))) _ _ h34_3)) .nil) (by kernel_rfl) ?_
          refine WK.seq (by kernel_rfl) ?_
          rcases br_inv h with ⟨b35_1, h⟩ | ⟨b35_1, h⟩
          · refine WK.rs (g := [.b true, .b true, .b true, .b true, .b true, .b true, .b true, .b true, .b true, .b true, .b true]) (l' := [(.t 0, [.data (.slc false none 2 (List.map TA2_uint8.en l11_0))]), (.t 4, [.ptr 4 0]), (.t 5, [iv l11_2]), (.t 8, [.data (.slc false none 3 (List.map TSeat.en r15_1))]), (.t 84, [bv true]), (.o 4, [iv j33_5.c0, iv j33_5.c1, iv j33_5.c2, iv j33_5.c3, iv j33_5.c4, iv j33_5.c5])]) (by kernel_rfl) (.cons b35_1 (.cons b35_1 (.cons b35_1 (.cons b35_1 (.cons b35_1 (.cons b35_1 (.cons b35_1 (.cons (Eq.refl true) (.cons (Eq.refl true) (.cons (Eq.refl true) (.cons (Eq.refl true) (.cons (Eq.refl true) .nil)))))))))))) (by kernel_rfl) ?_
            refine WK.ct (b := true) (by kernel_rfl) rfl ?_
            refine WK.rs (g := []) (l' := [(.t 2, [bv false])]) (by kernel_rfl) .nil (by kernel_rfl) ?_
            refine WK.weak (l := [(.t 2, [bv false])]) (wk_of (by kernel_rfl)) ?_
            refine WK.ret (by kernel_rfl) ?_
            cases some_inj h
            exact WKe.fin (e' := .ret) (by kernel_rfl) ⟨rfl, rfl⟩
          · rcases br_inv h with ⟨b35_2, h⟩ | ⟨b35_2, h⟩
            · rcases br_inv h with ⟨b35_3, h⟩ | ⟨b35_3, h⟩
              · refine WK.rs (g := [.b false, .b false, .b false, .b false, .i 0, .b false, .b false, .b false, .b true, .b true, .b true, .b true]) (l' := [(.t 0, [.data (.slc false none 2 (List.map TA2_uint8.en l11_0))]), (.t 4, [.ptr 4 0]), (.t 5, [iv l11_2]), (.t 8, [.data (.slc false none 3 (List.map TSeat.en r15_1))]), (.t 84, [bv true]), (.o 4, [iv j33_5.c0, iv j33_5.c1, iv j33_5.c2, iv j33_5.c3, iv j33_5.c4, iv j33_5.c5])]) (by kernel_rfl) (.cons b35_1 (.cons b35_1 (.cons b35_1 (.cons b35_1 (.cons (c_ib (j := 0) (n := 6) b35_2 (Eq.refl true)) (.cons (c_ii (j := 0) b35_2) (.cons b35_1 (.cons b35_1 (.cons b35_1 (.cons b35_3 (.cons b35_3 (.cons b35_3 (.cons b35_3 (.cons (Eq.refl true) .nil)))))))))))))) (by kernel_rfl) ?_
                refine WK.ct (b := true) (by kernel_rfl) rfl ?_
                refine WK.rs (g := []) (l' := [(.t 2, [bv false])]) (by kernel_rfl) .nil (by kernel_rfl) ?_
                refine WK.weak (l := [(.t 2, [bv false])]) (wk_of (by kernel_rfl)) ?_
                refine WK.ret (by kernel_rfl) ?_
                cases some_inj h
                exact WKe.fin (e' := .ret) (by kernel_rfl) ⟨rfl, rfl⟩
              · rcases br_inv h with ⟨b35_4, h⟩ | ⟨b35_4, h⟩
                · refine WK.rs (g := [.b false, .b false, .b false, .b false, .i 0, .b false, .b false, .b false, .b false, .b false, .b true, .b true, .b true, .b true, .b true, .b false, .b true, .b false]) (l' := [(.t 0, [.data (.slc false none 2 (List.map TA2_uint8.en l11_0))]), (.t 4, [.ptr 4 0]), (.t 5, [iv l11_2]), (.t 8, [.data (.slc false none 3 (List.map TSeat.en r15_1))]), (.t 84, [bv (r34_2.Pos != (w64 (l11_2 + 1)))]), (.o 4, [iv j33_5.c0, iv j33_5.c1, iv j33_5.c2, iv j33_5.c3, iv j33_5.c4, iv j33_5.c5])]) (by kernel_rfl) (.cons b35_1 (.cons b35_1 (.cons b35_1 (.cons b35_1 (.cons (c_ib (j := 0) (n := 6) b35_2 (Eq.refl true)) (.cons (c_ii (j := 0) b35_2) (.cons b35_1 (.cons b35_1 (.cons b35_1 (.cons b35_3 (.cons b35_3 (.cons b35_4 (.cons b35_4 (.cons b35_4 (.cons b35_4 (.cons b35_4 (.cons b35_3 (.cons b35_4 (.cons b35_3 (.cons (Eq.refl true) .nil)))))))))))))))))))) (by kernel_rfl) ?_
                  rcases br_inv h with ⟨b38_0, h⟩ | ⟨b38_0, h⟩
                  · refine WK.ct (b := (r34_2.Pos != (w64 (l11_2 + 1)))) (by kernel_rfl) b38_0 ?_
                    refine WK.rs (g := []) (l' := [(.t 2, [bv false])]) (by kernel_rfl) .nil (by kernel_rfl) ?_
                    refine WK.weak (l := [(.t 2, [bv false])]) (wk_of (by kernel_rfl)) ?_
                    refine WK.ret (by kernel_rfl) ?_
                    cases some_inj h
                    exact WKe.fin (e' := .ret) (by kernel_rfl) ⟨rfl, rfl⟩
                  · refine WK.ce (b := (r34_2.Pos != (w64 (l11_2 + 1)))) (by kernel_rfl) b38_0 ?_
                    refine WK.skip (by kernel_rfl) ?_
                    refine WKe.code (y := (cR (cR (cR (cR (cR (cR (cB (cL (cR (cB (cB (cR (cL (cR (cR (cR (cR (cR bd4))))))))))))))))))) (ks' := [.blk 1, .seq (cR (cR (cB (cB (cR (cL (cR (cR (cR (cR (cR bd4))))))))))), .lp (cB (cR (cL (cR (cR (cR (cR (cR bd4))))))))]) (by kernel_rfl) ?_
                    refine WK.rc (g := []) (l' := [(.t 0, [.data (.slc false none 2 (List.map TA2_uint8.en l11_0))]), (.t 3, [.data (.slc false none 3 (List.map TSeat.en r15_1))]), (.t 4, [.ptr 4 0]), (.t 5, [iv l11_2]), (.o 4, [iv j33_5.c0, iv j33_5.c1, iv j33_5.c2, iv j33_5.c3, iv j33_5.c4, iv j33_5.c5])]) .nil (by kernel_rfl) (y := (cR (cR (cB (cB (cR (cL (cR (cR (cR (cR (cR bd4)))))))))))) (ks' := [.lp (cB (cR (cL (cR (cR (cR (cR (cR bd4))))))))]) (by kernel_rfl) ?_
                    refine WK.rc (g := []) (l' := [(.t 0, [.data (.slc false none 2 (List.map TA2_uint8.en l11_0))]), (.t 3, [.data (.slc false none 3 (List.map TSeat.en r15_1))]), (.t 4, [.ptr 4 0]), (.t 5, [iv (w64 (l11_2 + 1))]), (.o 4, [iv j33_5.c0, iv j33_5.c1, iv j33_5.c2, iv j33_5.c3, iv j33_5.c4, iv j33_5.c5])]) .nil (by kernel_rfl) (y := (cB (cR (cL (cR (cR (cR (cR (cR bd4))))))))) (ks' := []) (by kernel_rfl) ?_
                    exact WK.weak (l := [(.t 0, [.data (.slc false none 2 (List.map TA2_uint8.en l11_0))]), (.t 3, [.data (.slc false none 3 (List.map TSeat.en r15_1))]), (.t 4, [.ptr 4 0]), (.t 5, [iv (w64 (l11_2 + 1))]), (.o 4, [iv j33_5.c0, iv j33_5.c1, iv j33_5.c2, iv j33_5.c3, iv j33_5.c4, iv j33_5.c5])]) (wk_of (by kernel_rfl)) (ih r15_1 (w64 (l11_2 + 1)) j33_5 _ h)
                · refine WK.rs (g := [.b false, .b false, .b false, .b false, .i 0, .b false, .b false, .b false, .b false, .b false, .b false, .b false, .b false, .b false, .b false, .b false, .b false, .b false]) (l' := [(.t 0, [.data (.slc false none 2 (List.map TA2_uint8.en l11_0))]), (.t 4, [.ptr 4 0]), (.t 5, [iv l11_2]), (.t 8, [.data (.slc false none 3 (List.map TSeat.en r15_1))]), (.t 84, [bv false]), (.o 4, [iv j33_5.c0, iv j33_5.c1, iv j33_5.c2, iv j33_5.c3, iv j33_5.c4, iv j33_5.c5])]) (by kernel_rfl) (.cons b35_1 (.cons b35_1 (.cons b35_1 (.cons b35_1 (.cons (c_ib (j := 0) (n := 6) b35_2 (Eq.refl true)) (.cons (c_ii (j := 0) b35_2) (.cons b35_1 (.cons b35_1 (.cons b35_1 (.cons b35_3 (.cons b35_3 (.cons b35_4 (.cons b35_4 (.cons b35_4 (.cons b35_4 (.cons b35_4 (.cons b35_3 (.cons b35_4 (.cons b35_3 (.cons (Eq.refl true) .nil)))))))))))))))))))) (by kernel_rfl) ?_
                  refine WK.ce (b := false) (by kernel_rfl) rfl ?_
                  refine WK.skip (by kernel_rfl) ?_
                  refine WKe.code (y := (cR (cR (cR (cR (cR (cR (cB (cL (cR (cB (cB (cR (cL (cR (cR (cR (cR (cR bd4))))))))))))))))))) (ks' := [.blk 1, .seq (cR (cR (cB (cB (cR (cL (cR (cR (cR (cR (cR bd4))))))))))), .lp (cB (cR (cL (cR (cR (cR (cR (cR bd4))))))))]) (by kernel_rfl) ?_
                  refine WK.rc (g := []) (l' := [(.t 0, [.data (.slc false none 2 (List.map TA2_uint8.en l11_0))]), (.t 3, [.data (.slc false none 3 (List.map TSeat.en r15_1))]), (.t 4, [.ptr 4 0]), (.t 5, [iv l11_2]), (.o 4, [iv j33_5.c0, iv j33_5.c1, iv j33_5.c2, iv j33_5.c3, iv j33_5.c4, iv j33_5.c5])]) .nil (by kernel_rfl) (y := (cR (cR (cB (cB (cR (cL (cR (cR (cR (cR (cR bd4)))))))))))) (ks' := [.lp (cB (cR (cL (cR (cR (cR (cR (cR bd4))))))))]) (by kernel_rfl) ?_
                  refine WK.rc (g := []) (l' := [(.t 0, [.data (.slc false none 2 (List.map TA2_uint8.en l11_0))]), (.t 3, [.data (.slc false none 3 (List.map TSeat.en r15_1))]), (.t 4, [.ptr 4 0]), (.t 5, [iv (w64 (l11_2 + 1))]), (.o 4, [iv j33_5.c0, iv j33_5.c1, iv j33_5.c2, iv j33_5.c3, iv j33_5.c4, iv j33_5.c5])]) .nil (by kernel_rfl) (y := (cB (cR (cL (cR (cR (cR (cR (cR bd4))))))))) (ks' := []) (by kernel_rfl) ?_
                  exact WK.weak (l := [(.t 0, [.data (.slc false none 2 (List.map TA2_uint8.en l11_0))]), (.t 3, [.data (.slc false none 3 (List.map TSeat.en r15_1))]), (.t 4, [.ptr 4 0]), (.t 5, [iv (w64 (l11_2 + 1))]), (.o 4, [iv j33_5.c0, iv j33_5.c1, iv j33_5.c2, iv j33_5.c3, iv j33_5.c4, iv j33_5.c5])]) (wk_of (by kernel_rfl)) (ih r15_1 (w64 (l11_2 + 1)) j33_5 _ h)
            · rcases br_inv h with ⟨b35_3, h⟩ | ⟨b35_3, h⟩
              · rcases br_inv h with ⟨b35_4, h⟩ | ⟨b35_4, h⟩
                · refine WK.rs (g := [.b false, .b false, .b false, .b false, .i 1, .b false, .b false, .b false, .b true, .b true, .b true, .b true]) (l' := [(.t 0, [.data (.slc false none 2 (List.map TA2_uint8.en l11_0))]), (.t 4, [.ptr 4 0]), (.t 5, [iv l11_2]), (.t 8, [.data (.slc false none 3 (List.map TSeat.en r15_1))]), (.t 84, [bv true]), (.o 4, [iv j33_5.c0, iv j33_5.c1, iv j33_5.c2, iv j33_5.c3, iv j33_5.c4, iv j33_5.c5])]) (by kernel_rfl) (.cons b35_1 (.cons b35_1 (.cons b35_1 (.cons b35_1 (.cons (c_ib (j := 1) (n := 6) b35_3 (Eq.refl true)) (.cons (c_ii (j := 1) b35_3) (.cons b35_1 (.cons b35_1 (.cons b35_1 (.cons b35_4 (.cons b35_4 (.cons b35_4 (.cons b35_4 (.cons (Eq.refl true) .nil)))))))))))))) (by kernel_rfl) ?_
                  refine WK.ct (b := true) (by kernel_rfl) rfl ?_
                  refine WK.rs (g := []) (l' := [(.t 2, [bv false])]) (by kernel_rfl) .nil (by kernel_rfl) ?_
                  refine WK.weak (l := [(.t 2, [bv false])]) (wk_of (by kernel_rfl)) ?_
                  refine WK.ret (by kernel_rfl) ?_
                  cases some_inj h
                  exact WKe.fin (e' := .ret) (by kernel_rfl) ⟨rfl, rfl⟩
                · rcases br_inv h with ⟨b35_5, h⟩ | ⟨b35_5, h⟩
                  · refine WK.rs (g := [.b false, .b false, .b false, .b false, .i 1, .b false, .b false, .b false, .b false, .b false, .b true, .b true, .b true, .b true, .b true, .b false, .b true, .b false]) (l' := [(.t 0, [.data (.slc false none 2 (List.map TA2_uint8.en l11_0))]), (.t 4, [.ptr 4 0]), (.t 5, [iv l11_2]), (.t 8, [.data (.slc false none 3 (List.map TSeat.en r15_1))]), (.t 84, [bv (r34_2.Pos != (w64 (l11_2 + 1)))]), (.o 4, [iv j33_5.c0, iv j33_5.c1, iv j33_5.c2, iv j33_5.c3, iv j33_5.c4, iv j33_5.c5])]) (by kernel_rfl) (.cons b35_1 (.cons b35_1 (.cons b35_1 (.cons b35_1 (.cons (c_ib (j := 1) (n := 6) b35_3 (Eq.refl true)) (.cons (c_ii (j := 1) b35_3) (.cons b35_1 (.cons b35_1 (.cons b35_1 (.cons b35_4 (.cons b35_4 (.cons b35_5 (.cons b35_5 (.cons b35_5 (.cons b35_5 (.cons b35_5 (.cons b35_4 (.cons b35_5 (.cons b35_4 (.cons (Eq.refl true) .nil)))))))))))))))))))) (by kernel_rfl) ?_
                    rcases br_inv h with ⟨b45_0, h⟩ | ⟨b45_0, h⟩
                    · refine WK.ct (b := (r34_2.Pos != (w64 (l11_2 + 1)))) (by kernel_rfl) b45_0 ?_
                      refine WK.rs (g := []) (l' := [(.t 2, [bv false])]) (by kernel_rfl) .nil (by kernel_rfl) ?_
                      refine WK.weak (l := [(.t 2, [bv false])]) (wk_of (by kernel_rfl)) ?_
                      refine WK.ret (by kernel_rfl) ?_
                      cases some_inj h
                      exact WKe.fin (e' := .ret) (by kernel_rfl) ⟨rfl, rfl⟩
                    · refine WK.ce (b := (r34_2.Pos != (w64 (l11_2 + 1)))) (by kernel_rfl) b45_0 ?_
                      refine WK.skip (by kernel_rfl) ?_
                      refine WKe.code (y := (cR (cR (cR (cR (cR (cR (cB (cL (cR (cB (cB (cR (cL (cR (cR (cR (cR (cR bd4))))))))))))))))))) (ks' := [.blk 1, .seq (cR (cR (cB (cB (cR (cL (cR (cR (cR (cR (cR bd4))))))))))), .lp (cB (cR (cL (cR (cR (cR (cR (cR bd4))))))))]) (by kernel_rfl) ?_
                      refine WK.rc (g := []) (l' := [(.t 0, [.data (.slc false none 2 (List.map TA2_uint8.en l11_0))]), (.t 3, [.data (.slc false none 3 (List.map TSeat.en r15_1))]), (.t 4, [.ptr 4 0]), (.t 5, [iv l11_2]), (.o 4, [iv j33_5.c0, iv j33_5.c1, iv j33_5.c2, iv j33_5.c3, iv j33_5.c4, iv j33_5.c5])]) .nil (by kernel_rfl) (y := (cR (cR (cB (cB (cR (cL (cR (cR (cR (cR (cR bd4)))))))))))) (ks' := [.lp (cB (cR (cL (cR (cR (cR (cR (cR bd4))))))))]) (by kernel_rfl) ?_
                      refine WK.rc (g := []) (l' := [(.t 0, [.data (.slc false none 2 (List.map TA2_uint8.en l11_0))]), (.t 3, [.data (.slc false none 3 (List.map TSeat.en r15_1))]), (.t 4, [.ptr 4 0]), (.t 5, [iv (w64 (l11_2 + 1))]), (.o 4, [iv j33_5.c0, iv j33_5.c1, iv j33_5.c2, iv j33_5.c3, iv j33_5.c4, iv j33_5.c5])]) .nil (by kernel_rfl) (y := (cB (cR (cL (cR (cR (cR (cR (cR bd4))))))))) (ks' := []) (by kernel_rfl) ?_
                      exact WK.weak (l := [(.t 0, [.data (.slc false none 2 (List.map TA2_uint8.en l11_0))]), (.t 3, [.data (.slc false none 3 (List.map TSeat.en r15_1))]), (.t 4, [.ptr 4 0]), (.t 5, [iv (w64 (l11_2 + 1))]), (.o 4, [iv j33_5.c0, iv j33_5.c1, iv j33_5.c2, iv j33_5.c3, iv j33_5.c4, iv j33_5.c5])]) (wk_of (by kernel_rfl)) (ih r15_1 (w64 (l11_2 + 1)) j33_5 _ h)
                  · refine WK.rs (g := [.b false, .b false, .b false, .b false, .i 1, .b false, .b false, .b false, .b false, .b false, .b false, .b false, .b false, .b false, .b false, .b false, .b false, .b false]) (l' := [(.t 0, [.data (.slc false none 2 (List.map TA2_uint8.en l11_0))]), (.t 4, [.ptr 4 0]), (.t 5, [iv l11_2]), (.t 8, [.data (.slc false none 3 (List.map TSeat.en r15_1))]), (.t 84, [bv false]), (.o 4, [iv j33_5.c0, iv j33_5.c1, iv j33_5.c2, iv j33_5.c3, iv j33_5.c4, iv j33_5.c5])]) (by kernel_rfl) (.cons b35_1 (.cons b35_1 (.cons b35_1 (.cons b35_1 (.cons (c_ib (j := 1) (n := 6) b35_3 (Eq.refl true)) (.cons (c_ii (j := 1) b35_3) (.cons b35_1 (.cons b35_1 (.cons b35_1 (.cons b35_4 (.cons b35_4 (.cons b35_5 (.cons b35_5 (.cons b35_5 (.cons b35_5 (.cons b35_5 (.cons b35_4 (.cons b35_5 (.cons b35_4 (.cons (Eq.refl true) .nil)))))))))))))))))))) (by kernel_rfl) ?_
                    refine WK.ce (b := false) (by kernel_rfl) rfl ?_
                    refine WK.skip (by kernel_rfl) ?_
                    refine WKe.code (y := (cR (cR (cR (cR (cR (cR (cB (cL (cR (cB (cB (cR (cL (cR (cR (cR (cR (cR bd4))))))))))))))))))) (ks' := [.blk 1, .seq (cR (cR (cB (cB (cR (cL (cR (cR (cR (cR (cR bd4))))))))))), .lp (cB (cR (cL (cR (cR (cR (cR (cR bd4))))))))]) (by kernel_rfl) ?_
                    refine WK.rc (g := []) (l' := [(.t 0, [.data (.slc false none 2 (List.map TA2_uint8.en l11_0))]), (.t 3, [.data (.slc false none 3 (List.map TSeat.en r15_1))]), (.t 4, [.ptr 4 0]), (.t 5, [iv l11_2]), (.o 4, [iv j33_5.c0, iv j33_5.c1, iv j33_5.c2, iv j33_5.c3, iv j33_5.c4, iv j33_5.c5])]) .nil (by kernel_rfl) (y := (cR (cR (cB (cB (cR (cL (cR (cR (cR (cR (cR bd4)))))))))))) (ks' := [.lp (cB (cR (cL (cR (cR (cR (cR (cR bd4))))))))]) (by kernel_rfl) ?_
                    refine WK.rc (g := []) (l' := [(.t 0, [.data (.slc false none 2 (List.map TA2_uint8.en l11_0))]), (.t 3, [.data (.slc false none 3 (List.map TSeat.en r15_1))]), (.t 4, [.ptr 4 0]), (.t 5, [iv (w64 (l11_2 + 1))]), (.o 4, [iv j33_5.c0, iv j33_5.c1, iv j33_5.c2, iv j33_5.c3, iv j33_5.c4, iv j33_5.c5])]) .nil (by kernel_rfl) (y := (cB (cR (cL (cR (cR (cR (cR (cR bd4))))))))) (ks' := []) (by kernel_rfl) ?_
                    exact WK.weak (l := [(.t 0, [.data (.slc false none 2 (List.map TA2_uint8.en l11_0))]), (.t 3, [.data (.slc false none 3 (List.map TSeat.en r15_1))]), (.t 4, [.ptr 4 0]), (.t 5, [iv (w64 (l11_2 + 1))]), (.o 4, [iv j33_5.c0, iv j33_5.c1, iv j33_5.c2, iv j33_5.c3, iv j33_5.c4, iv j33_5.c5])]) (wk_of (by kernel_rfl)) (ih r15_1 (w64 (l11_2 + 1)) j33_5 _ h)
              · rcases br_inv h with ⟨b35_4, h⟩ | ⟨b35_4, h⟩
                · rcases br_inv h with ⟨b35_5, h⟩ | ⟨b35_5, h⟩
                  · refine WK.rs (g := [.b false, .b false, .b false, .b false, .i 2, .b false, .b false, .b false, .b true, .b true, .b true, .b true]) (l' := [(.t 0, [.data (.slc false none 2 (List.map TA2_uint8.en l11_0))]), (.t 4, [.ptr 4 0]), (.t 5, [iv l11_2]), (.t 8, [.data (.slc false none 3 (List.map TSeat.en r15_1))]), (.t 84, [bv true]), (.o 4, [iv j33_5.c0, iv j33_5.c1, iv j33_5.c2, iv j33_5.c3, iv j33_5.c4, iv j33_5.c5])]) (by kernel_rfl) (.cons b35_1 (.cons b35_1 (.cons b35_1 (.cons b35_1 (.cons (c_ib (j := 2) (n := 6) b35_4 (Eq.refl true)) (.cons (c_ii (j := 2) b35_4) (.cons b35_1 (.cons b35_1 (.cons b35_1 (.cons b35_5 (.cons b35_5 (.cons b35_5 (.cons b35_5 (.cons (Eq.refl true) .nil)))))))))))))) (by kernel_rfl) ?_
                    refine WK.ct (b := true) (by kernel_rfl) rfl ?_
                    refine WK.rs (g := []) (l' := [(.t 2, [bv false])]) (by kernel_rfl) .nil (by kernel_rfl) ?_
                    refine WK.weak (l := [(.t 2, [bv false])]) (wk_of (by kernel_rfl)) ?_
                    refine WK.ret (by kernel_rfl) ?_
                    cases some_inj h
                    exact WKe.fin (e' := .ret) (by kernel_rfl) ⟨rfl, rfl⟩
                  · rcases br_inv h with ⟨b35_6, h⟩ | ⟨b35_6, h⟩
                    · refine WK.rs (g := [.b false, .b false, .b false, .b false, .i 2, .b false, .b false, .b false, .b false, .b false, .b true, .b true, .b true, .b true, .b true, .b false, .b true, .b false]) (l' := [(.t 0, [.data (.slc false none 2 (List.map TA2_uint8.en l11_0))]), (.t 4, [.ptr 4 0]), (.t 5, [iv l11_2]), (.t 8, [.data (.slc false none 3 (List.map TSeat.en r15_1))]), (.t 84, [bv (r34_2.Pos != (w64 (l11_2 + 1)))]), (.o 4, [iv j33_5.c0, iv j33_5.c1, iv j33_5.c2, iv j33_5.c3, iv j33_5.c4, iv j33_5.c5])]) (by kernel_rfl) (.cons b35_1 (.cons b35_1 (.cons b35_1 (.cons b35_1 (.cons (c_ib (j := 2) (n := 6) b35_4 (Eq.refl true)) (.cons (c_ii (j := 2) b35_4) (.cons b35_1 (.cons b35_1 (.cons b35_1 (.cons b35_5 (.cons b35_5 (.cons b35_6 (.cons b35_6 (.cons b35_6 (.cons b35_6 (.cons b35_6 (.cons b35_5 (.cons b35_6 (.cons b35_5 (.cons (Eq.refl true) .nil)))))))))))))))))))) (by kernel_rfl) ?_
                      rcases br_inv h with ⟨b52_0, h⟩ | ⟨b52_0, h⟩
                      · refine WK.ct (b := (r34_2.Pos != (w64 (l11_2 + 1)))) (by kernel_rfl) b52_0 ?_
                        refine WK.rs (g := []) (l' := [(.t 2, [bv false])]) (by kernel_rfl) .nil (by kernel_rfl) ?_
                        refine WK.weak (l := [(.t 2, [bv false])]) (wk_of (by kernel_rfl)) ?_
                        refine WK.ret (by kernel_rfl) ?_
                        cases some_inj h
                        exact WKe.fin (e' := .ret) (by kernel_rfl) ⟨rfl, rfl⟩
                      · refine WK.ce (b := (r34_2.Pos != (w64 (l11_2 + 1)))) (by kernel_rfl) b52_0 ?_
                        refine WK.skip (by kernel_rfl) ?_
                        refine WKe.code (y := (cR (cR (cR (cR (cR (cR (cB (cL (cR (cB (cB (cR (cL (cR (cR (cR (cR (cR bd4))))))))))))))))))) (ks' := [.blk 1, .seq (cR (cR (cB (cB (cR (cL (cR (cR (cR (cR (cR bd4))))))))))), .lp (cB (cR (cL (cR (cR (cR (cR (cR bd4))))))))]) (by kernel_rfl) ?_
                        refine WK.rc (g := []) (l' := [(.t 0, [.data (.slc false none 2 (List.map TA2_uint8.en l11_0))]), (.t 3, [.data (.slc false none 3 (List.map TSeat.en r15_1))]), (.t 4, [.ptr 4 0]), (.t 5, [iv l11_2]), (.o 4, [iv j33_5.c0, iv j33_5.c1, iv j33_5.c2, iv j33_5.c3, iv j33_5.c4, iv j33_5.c5])]) .nil (by kernel_rfl) (y := (cR (cR (cB (cB (cR (cL (cR (cR (cR (cR (cR bd4)))))))))))) (ks' := [.lp (cB (cR (cL (cR (cR (cR (cR (cR bd4))))))))]) (by kernel_rfl) ?_
                        refine WK.rc (g := []) (l' := [(.t 0, [.data (.slc false none 2 (List.map TA2_uint8.en l11_0))]), (.t 3, [.data (.slc false none 3 (List.map TSeat.en r15_1))]), (.t 4, [.ptr 4 0]), (.t 5, [iv (w64 (l11_2 + 1))]), (.o 4, [iv j33_5.c0, iv j33_5.c1, iv j33_5.c2, iv j33_5.c3, iv j33_5.c4, iv j33_5.c5])]) .nil (by kernel_rfl) (y := (cB (cR (cL (cR (cR (cR (cR (cR bd4))))))))) (ks' := []) (by kernel_rfl) ?_
                        exact WK.weak (l := [(.t 0, [.data (.slc false none 2 (List.map TA2_uint8.en l11_0))]), (.t 3, [.data (.slc false none 3 (List.map TSeat.en r15_1))]), (.t 4, [.ptr 4 0]), (.t 5, [iv (w64 (l11_2 + 1))]), (.o 4, [iv j33_5.c0, iv j33_5.c1, iv j33_5.c2, iv j33_5.c3, iv j33_5.c4, iv j33_5.c5])]) (wk_of (by kernel_rfl)) (ih r15_1 (w64 (l11_2 + 1)) j33_5 _ h)
                    · refine WK.rs (g := [.b false, .b false, .b false, .b false, .i 2, .b false, .b false, .b false, .b false, .b false, .b false, .b false, .b false, .b false, .b false, .b false, .b false, .b false]) (l' := [(.t 0, [.data (.slc false none 2 (List.map TA2_uint8.en l11_0))]), (.t 4, [.ptr 4 0]), (.t 5, [iv l11_2]), (.t 8, [.data (.slc false none 3 (List.map TSeat.en r15_1))]), (.t 84, [bv false]), (.o 4, [iv j33_5.c0, iv j33_5.c1, iv j33_5.c2, iv j33_5.c3, iv j33_5.c4, iv j33_5.c5])]) (by kernel_rfl) (.cons b35_1 (.cons b35_1 (.cons b35_1 (.cons b35_1 (.cons (c_ib (j := 2) (n := 6) b35_4 (Eq.refl true)) (.cons (c_ii (j := 2) b35_4) (.cons b35_1 (.cons b35_1 (.cons b35_1 (.cons b35_5 (.cons b35_5 (.cons b35_6 (.cons b35_6 (.cons b35_6 (.cons b35_6 (.cons b35_6 (.cons b35_5 (.cons b35_6 (.cons b35_5 (.cons (Eq.refl true) .nil)))))))))))))))))))) (by kernel_rfl) ?_
                      refine WK.ce (b := false) (by kernel_rfl) rfl ?_
                      refine WK.skip (by kernel_rfl) ?_
                      refine WKe.code (y := (cR (cR (cR (cR (cR (cR (cB (cL (cR (cB (cB (cR (cL (cR (cR (cR (cR (cR bd4))))))))))))))))))) (ks' := [.blk 1, .seq (cR (cR (cB (cB (cR (cL (cR (cR (cR (cR (cR bd4))))))))))), .lp (cB (cR (cL (cR (cR (cR (cR (cR bd4))))))))]) (by kernel_rfl) ?_
                      refine WK.rc (g := []) (l' := [(.t 0, [.data (.slc false none 2 (List.map TA2_uint8.en l11_0))]), (.t 3, [.data (.slc false none 3 (List.map TSeat.en r15_1))]), (.t 4, [.ptr 4 0]), (.t 5, [iv l11_2]), (.o 4, [iv j33_5.c0, iv j33_5.c1, iv j33_5.c2, iv j33_5.c3, iv j33_5.c4, iv j33_5.c5])]) .nil (by kernel_rfl) (y := (cR (cR (cB (cB (cR (cL (cR (cR (cR (cR (cR bd4)))))))))))) (ks' := [.lp (cB (cR (cL (cR (cR (cR (cR (cR bd4))))))))]) (by kernel_rfl) ?_
                      refine WK.rc (g := []) (l' := [(.t 0, [.data (.slc false none 2 (List.map TA2_uint8.en l11_0))]), (.t 3, [.data (.slc false none 3 (List.map TSeat.en r15_1))]), (.t 4, [.ptr 4 0]), (.t 5, [iv (w64 (l11_2 + 1))]), (.o 4, [iv j33_5.c0, iv j33_5.c1, iv j33_5.c2, iv j33_5.c3, iv j33_5.c4, iv j33_5.c5])]) .nil (by kernel_rfl) (y := (cB (cR (cL (cR (cR (cR (cR (cR bd4))))))))) (ks' := []) (by kernel_rfl) ?_
                      exact WK.weak (l := [(.t 0, [.data (.slc false none 2 (List.map TA2_uint8.en l11_0))]), (.t 3, [.data (.slc false none 3 (List.map TSeat.en r15_1))]), (.t 4, [.ptr 4 0]), (.t 5, [iv (w64 (l11_2 + 1))]), (.o 4, [iv j33_5.c0, iv j33_5.c1, iv j33_5.c2, iv j33_5.c3, iv j33_5.c4, iv j33_5.c5])]) (wk_of (by kernel_rfl)) (ih r15_1 (w64 (l11_2 + 1)) j33_5 _ h)
                · rcases br_inv h with ⟨b35_5, h⟩ | ⟨b35_5, h⟩
                  · rcases br_inv h with ⟨b35_6, h⟩ | ⟨b35_6, h⟩
                    · refine WK.rs (g := [.b false, .b false, .b false, .b false, .i 3, .b false, .b false, .b false, .b true, .b true, .b true, .b true]) (l' := [(.t 0, [.data (.slc false none 2 (List.map TA2_uint8.en l11_0))]), (.t 4, [.ptr 4 0]), (.t 5, [iv l11_2]), (.t 8, [.data (.slc false none 3 (List.map TSeat.en r15_1))]), (.t 84, [bv true]), (.o 4, [iv j33_5.c0, iv j33_5.c1, iv j33_5.c2, iv j33_5.c3, iv j33_5.c4, iv j33_5.c5])]) (by kernel_rfl) (.cons b35_1 (.cons b35_1 (.cons b35_1 (.cons b35_1 (.cons (c_ib (j := 3) (n := 6) b35_5 (Eq.refl true)) (.cons (c_ii (j := 3) b35_5) (.cons b35_1 (.cons b35_1 (.cons b35_1 (.cons b35_6 (.cons b35_6 (.cons b35_6 (.cons b35_6 (.cons (Eq.refl true) .nil)))))))))))))) (by kernel_rfl) ?_
                      refine WK.ct (b := true) (by kernel_rfl) rfl ?_
                      refine WK.rs (g := []) (l' := [(.t 2, [bv false])]) (by kernel_rfl) .nil (by kernel_rfl) ?_
                      refine WK.weak (l := [(.t 2, [bv false])]) (wk_of (by kernel_rfl)) ?_
                      refine WK.ret (by kernel_rfl) ?_
                      cases some_inj h
                      exact WKe.fin (e' := .ret) (by kernel_rfl) ⟨rfl, rfl⟩
                    · rcases br_inv h with ⟨b35_7, h⟩ | ⟨b35_7, h⟩
                      · refine WK.rs (g := [.b false, .b false, .b false, .b false, .i 3, .b false, .b false, .b false, .b false, .b false, .b true, .b true, .b true, .b true, .b true, .b false, .b true, .b false]) (l' := [(.t 0, [.data (.slc false none 2 (List.map TA2_uint8.en l11_0))]), (.t 4, [.ptr 4 0]), (.t 5, [iv l11_2]), (.t 8, [.data (.slc false none 3 (List.map TSeat.en r15_1))]), (.t 84, [bv (r34_2.Pos != (w64 (l11_2 + 1)))]), (.o 4, [iv j33_5.c0, iv j33_5.c1, iv j33_5.c2, iv j33_5.c3, iv j33_5.c4, iv j33_5.c5])]) (by kernel_rfl) (.cons b35_1 (.cons b35_1 (.cons b35_1 (.cons b35_1 (.cons (c_ib (j := 3) (n := 6) b35_5 (Eq.refl true)) (.cons (c_ii (j := 3) b35_5) (.cons b35_1 (.cons b35_1 (.cons b35_1 (.cons b35_6 (.cons b35_6 (.cons b35_7 (.cons b35_7 (.cons b35_7 (.cons b35_7 (.cons b35_7 (.cons b35_6 (.cons b35_7 (.cons b35_6 (.cons (Eq.refl true) .nil)))))))))))))))))))) (by kernel_rfl) ?_
                        rcases br_inv h with ⟨b59_0, h⟩ | ⟨b59_0, h⟩
                        · refine WK.ct (b := (r34_2.Pos != (w64 (l11_2 + 1)))) (by kernel_rfl) b59_0 ?_
                          refine WK.rs (g := []) (l' := [(.t 2, [bv false])]) (by kernel_rfl) .nil (by kernel_rfl) ?_
                          refine WK.weak (l := [(.t 2, [bv false])]) (wk_of (by kernel_rfl)) ?_
                          refine WK.ret (by kernel_rfl) ?_
                          cases some_inj h
                          exact WKe.fin (e' := .ret) (by kernel_rfl) ⟨rfl, rfl⟩
                        · refine WK.ce (b := (r34_2.Pos != (w64 (l11_2 + 1)))) (by kernel_rfl) b59_0 ?_
                          refine WK.skip (by kernel_rfl) ?_
                          refine WKe.code (y := (cR (cR (cR (cR (cR (cR (cB (cL (cR (cB (cB (cR (cL (cR (cR (cR (cR (cR bd4))))))))))))))))))) (ks' := [.blk 1, .seq (cR (cR (cB (cB (cR (cL (cR (cR (cR (cR (cR bd4))))))))))), .lp (cB (cR (cL (cR (cR (cR (cR (cR bd4))))))))]) (by kernel_rfl) ?_
                          refine WK.rc (g := []) (l' := [(.t 0, [.data (.slc false none 2 (List.map TA2_uint8.en l11_0))]), (.t 3, [.data (.slc false none 3 (List.map TSeat.en r15_1))]), (.t 4, [.ptr 4 0]), (.t 5, [iv l11_2]), (.o 4, [iv j33_5.c0, iv j33_5.c1, iv j33_5.c2, iv j33_5.c3, iv j33_5.c4, iv j33_5.c5])]) .nil (by kernel_rfl) (y := (cR (cR (cB (cB (cR (cL (cR (cR (cR (cR (cR bd4)))))))))))) (ks' := [.lp (cB (cR (cL (cR (cR (cR (cR (cR bd4))))))))]) (by kernel_rfl) ?_
                          refine WK.rc (g := []) (l' := [(.t 0, [.data (.slc false none 2 (List.map TA2_uint8.en l11_0))]), (.t 3, [.data (.slc false none 3 (List.map TSeat.en r15_1))]), (.t 4, [.ptr 4 0]), (.t 5, [iv (w64 (l11_2 + 1))]), (.o 4, [iv j33_5.c0, iv j33_5.c1, iv j33_5.c2, iv j33_5.c3, iv j33_5.c4, iv j33_5.c5])]) .nil (by kernel_rfl) (y := (cB (cR (cL (cR (cR (cR (cR (cR bd4))))))))) (ks' := []) (by kernel_rfl) ?_
                          exact WK.weak (l := [(.t 0, [.data (.slc false none 2 (List.map TA2_uint8.en l11_0))]), (.t 3, [.data (.slc false none 3 (List.map TSeat.en r15_1))]), (.t 4, [.ptr 4 0]), (.t 5, [iv (w64 (l11_2 + 1))]), (.o 4, [iv j33_5.c0, iv j33_5.c1, iv j33_5.c2, iv j33_5.c3, iv j33_5.c4, iv j33_5.c5])]) (wk_of (by kernel_rfl)) (ih r15_1 (w64 (l11_2 + 1)) j33_5 _ h)
                      · refine WK.rs (g := [.b false, .b false, .b false, .b false, .i 3, .b false, .b false, .b false, .b false, .b false, .b false, .b false, .b false, .b false, .b false, .b false, .b false, .b false]) (l' := [(.t 0, [.data (.slc false none 2 (List.map TA2_uint8.en l11_0))]), (.t 4, [.ptr 4 0]), (.t 5, [iv l11_2]), (.t 8, [.data (.slc false none 3 (List.map TSeat.en r15_1))]), (.t 84, [bv false]), (.o 4, [iv j33_5.c0, iv j33_5.c1, iv j33_5.c2, iv j33_5.c3, iv j33_5.c4, iv j33_5.c5])]) (by kernel_rfl) (.cons b35_1 (.cons b35_1 (.cons b35_1 (.cons b35_1 (.cons (c_ib (j := 3) (n := 6) b35_5 (Eq.refl true)) (.cons (c_ii (j := 3) b35_5) (.cons b35_1 (.cons b35_1 (.cons b35_1 (.cons b35_6 (.cons b35_6 (.cons b35_7 (.cons b35_7 (.cons b35_7 (.cons b35_7 (.cons b35_7 (.cons b35_6 (.cons b35_7 (.cons b35_6 (.cons (Eq.refl true) .nil)))))))))))))))))))) (by kernel_rfl) ?_
                        refine WK.ce (b := false) (by kernel_rfl) rfl ?_
                        refine WK.skip (by kernel_rfl) ?_
                        refine WKe.code (y := (cR (cR (cR (cR (cR (cR (cB (cL (cR (cB (cB (cR (cL (cR (cR (cR (cR (cR bd4))))))))))))))))))) (ks' := [.blk 1, .seq (cR (cR (cB (cB (cR (cL (cR (cR (cR (cR (cR bd4))))))))))), .lp (cB (cR (cL (cR (cR (cR (cR (cR bd4))))))))]) (by kernel_rfl) ?_
                        refine WK.rc (g := []) (l' := [(.t 0, [.data (.slc false none 2 (List.map TA2_uint8.en l11_0))]), (.t 3, [.data (.slc false none 3 (List.map TSeat.en r15_1))]), (.t 4, [.ptr 4 0]), (.t 5, [iv l11_2]), (.o 4, [iv j33_5.c0, iv j33_5.c1, iv j33_5.c2, iv j33_5.c3, iv j33_5.c4, iv j33_5.c5])]) .nil (by kernel_rfl) (y := (cR (cR (cB (cB (cR (cL (cR (cR (cR (cR (cR bd4)))))))))))) (ks' := [.lp (cB (cR (cL (cR (cR (cR (cR (cR bd4))))))))]) (by kernel_rfl) ?_
                        refine WK.rc (g := []) (l' := [(.t 0, [.data (.slc false none 2 (List.map TA2_uint8.en l11_0))]), (.t 3, [.data (.slc false none 3 (List.map TSeat.en r15_1))]), (.t 4, [.ptr 4 0]), (.t 5, [iv (w64 (l11_2 + 1))]), (.o 4, [iv j33_5.c0, iv j33_5.c1, iv j33_5.c2, iv j33_5.c3, iv j33_5.c4, iv j33_5.c5])]) .nil (by kernel_rfl) (y := (cB (cR (cL (cR (cR (cR (cR (cR bd4))))))))) (ks' := []) (by kernel_rfl) ?_
                        exact WK.weak (l := [(.t 0, [.data (.slc false none 2 (List.map TA2_uint8.en l11_0))]), (.t 3, [.data (.slc false none 3 (List.map TSeat.en r15_1))]), (.t 4, [.ptr 4 0]), (.t 5, [iv (w64 (l11_2 + 1))]), (.o 4, [iv j33_5.c0, iv j33_5.c1, iv j33_5.c2, iv j33_5.c3, iv j33_5.c4, iv j33_5.c5])]) (wk_of (by kernel_rfl)) (ih r15_1 (w64 (l11_2 + 1)) j33_5 _ h)
                  · rcases br_inv h with ⟨b35_6, h⟩ | ⟨b35_6, h⟩
                    · rcases br_inv h with ⟨b35_7, h⟩ | ⟨b35_7, h⟩
                      · refine WK.rs (g := [.b false, .b false, .b false, .b false, .i 4, .b false, .b false, .b false, .b true, .b true, .b true, .b true]) (l' := [(.t 0, [.data (.slc false none 2 (List.map TA2_uint8.en l11_0))]), (.t 4, [.ptr 4 0]), (.t 5, [iv l11_2]), (.t 8, [.data (.slc false none 3 (List.map TSeat.en r15_1))]), (.t 84, [bv true]), (.o 4, [iv j33_5.c0, iv j33_5.c1, iv j33_5.c2, iv j33_5.c3, iv j33_5.c4, iv j33_5.c5])]) (by kernel_rfl) (.cons b35_1 (.cons b35_1 (.cons b35_1 (.cons b35_1 (.cons (c_ib (j := 4) (n := 6) b35_6 (Eq.refl true)) (.cons (c_ii (j := 4) b35_6) (.cons b35_1 (.cons b35_1 (.cons b35_1 (.cons b35_7 (.cons b35_7 (.cons b35_7 (.cons b35_7 (.cons (Eq.refl true) .nil)))))))))))))) (by kernel_rfl) ?_
                        refine WK.ct (b := true) (by kernel_rfl) rfl ?_
                        refine WK.rs (g := []) (l' := [(.t 2, [bv false])]) (by kernel_rfl) .nil (by kernel_rfl) ?_
                        refine WK.weak (l := [(.t 2, [bv false])]) (wk_of (by kernel_rfl)) ?_
                        refine WK.ret (by kernel_rfl) ?_
                        cases some_inj h
                        exact WKe.fin (e' := .ret) (by kernel_rfl) ⟨rfl, rfl⟩
                      · rcases br_inv h with ⟨b35_8, h⟩ | ⟨b35_8, h⟩
                        · refine WK.rs (g := [.b false, .b false, .b false, .b false, .i 4, .b false, .b false, .b false, .b false, .b false, .b true, .b true, .b true, .b true, .b true, .b false, .b true, .b false]) (l' := [(.t 0, [.data (.slc false none 2 (List.map TA2_uint8.en l11_0))]), (.t 4, [.ptr 4 0]), (.t 5, [iv l11_2]), (.t 8, [.data (.slc false none 3 (List.map TSeat.en r15_1))]), (.t 84, [bv (r34_2.Pos != (w64 (l11_2 + 1)))]), (.o 4, [iv j33_5.c0, iv j33_5.c1, iv j33_5.c2, iv j33_5.c3, iv j33_5.c4, iv j33_5.c5])]) (by kernel_rfl) (.cons b35_1 (.cons b35_1 (.cons b35_1 (.cons b35_1 (.cons (c_ib (j := 4) (n := 6) b35_6 (Eq.refl true)) (.cons (c_ii (j := 4) b35_6) (.cons b35_1 (.cons b35_1 (.cons b35_1 (.cons b35_7 (.cons b35_7 (.cons b35_8 (.cons b35_8 (.cons b35_8 (.cons b35_8 (.cons b35_8 (.cons b35_7 (.cons b35_8 (.cons b35_7 (.cons (Eq.refl true) .nil)))))))))))))))))))) (by kernel_rfl) ?_
                          rcases br_inv h with ⟨b66_0, h⟩ | ⟨b66_0, h⟩
                          · refine WK.ct (b := (r34_2.Pos != (w64 (l11_2 + 1)))) (by kernel_rfl) b66_0 ?_
                            refine WK.rs (g := []) (l' := [(.t 2, [bv false])]) (by kernel_rfl) .nil (by kernel_rfl) ?_
                            refine WK.weak (l := [(.t 2, [bv false])]) (wk_of (by kernel_rfl)) ?_
                            refine WK.ret (by kernel_rfl) ?_
                            cases some_inj h
                            exact WKe.fin (e' := .ret) (by kernel_rfl) ⟨rfl, rfl⟩
                          · refine WK.ce (b := (r34_2.Pos != (w64 (l11_2 + 1)))) (by kernel_rfl) b66_0 ?_
                            refine WK.skip (by kernel_rfl) ?_
                            refine WKe.code (y := (cR (cR (cR (cR (cR (cR (cB (cL (cR (cB (cB (cR (cL (cR (cR (cR (cR (cR bd4))))))))))))))))))) (ks' := [.blk 1, .seq (cR (cR (cB (cB (cR (cL (cR (cR (cR (cR (cR bd4))))))))))), .lp (cB (cR (cL (cR (cR (cR (cR (cR bd4))))))))]) (by kernel_rfl) ?_
                            refine WK.rc (g := []) (l' := [(.t 0, [.data (.slc false none 2 (List.map TA2_uint8.en l11_0))]), (.t 3, [.data (.slc false none 3 (List.map TSeat.en r15_1))]), (.t 4, [.ptr 4 0]), (.t 5, [iv l11_2]), (.o 4, [iv j33_5.c0, iv j33_5.c1, iv j33_5.c2, iv j33_5.c3, iv j33_5.c4, iv j33_5.c5])]) .nil (by kernel_rfl) (y := (cR (cR (cB (cB (cR (cL (cR (cR (cR (cR (cR bd4)))))))))))) (ks' := [.lp (cB (cR (cL (cR (cR (cR (cR (cR bd4))))))))]) (by kernel_rfl) ?_
                            refine WK.rc (g := []) (l' := [(.t 0, [.data (.slc false none 2 (List.map TA2_uint8.en l11_0))]), (.t 3, [.data (.slc false none 3 (List.map TSeat.en r15_1))]), (.t 4, [.ptr 4 0]), (.t 5, [iv (w64 (l11_2 + 1))]), (.o 4, [iv j33_5.c0, iv j33_5.c1, iv j33_5.c2, iv j33_5.c3, iv j33_5.c4, iv j33_5.c5])]) .nil (by kernel_rfl) (y := (cB (cR (cL (cR (cR (cR (cR (cR bd4))))))))) (ks' := []) (by kernel_rfl) ?_
                            exact WK.weak (l := [(.t 0, [.data (.slc false none 2 (List.map TA2_uint8.en l11_0))]), (.t 3, [.data (.slc false none 3 (List.map TSeat.en r15_1))]), (.t 4, [.ptr 4 0]), (.t 5, [iv (w64 (l11_2 + 1))]), (.o 4, [iv j33_5.c0, iv j33_5.c1, iv j33_5.c2, iv j33_5.c3, iv j33_5.c4, iv j33_5.c5])]) (wk_of (by kernel_rfl)) (ih r15_1 (w64 (l11_2 + 1)) j33_5 _ h)
                        · refine WK.rs (g := [.b false, .b false, .b false, .b false, .i 4, .b false, .b false, .b false, .b false, .b false, .b false, .b false, .b false, .b false, .b false, .b false, .b false, .b false]) (l' := [(.t 0, [.data (.slc false none 2 (List.map TA2_uint8.en l11_0))]), (.t 4, [.ptr 4 0]), (.t 5, [iv l11_2]), (.t 8, [.data (.slc false none 3 (List.map TSeat.en r15_1))]), (.t 84, [bv false]), (.o 4, [iv j33_5.c0, iv j33_5.c1, iv j33_5.c2, iv j33_5.c3, iv j33_5.c4, iv j33_5.c5])]) (by kernel_rfl) (.cons b35_1 (.cons b35_1 (.cons b35_1 (.cons b35_1 (.cons (c_ib (j := 4) (n := 6) b35_6 (Eq.refl true)) (.cons (c_ii (j := 4) b35_6) (.cons b35_1 (.cons b35_1 (.cons b35_1 (.cons b35_7 (.cons b35_7 (.cons b35_8 (.cons b35_8 (.cons b35_8 (.cons b35_8 (.cons b35_8 (.cons b35_7 (.cons b35_8 (.cons b35_7 (.cons (Eq.refl true) .nil)))))))))))))))))))) (by kernel_rfl) ?_
                          refine WK.ce (b := false) (by kernel_rfl) rfl ?_
                          refine WK.skip (by kernel_rfl) ?_
                          refine WKe.code (y := (cR (cR (cR (cR (cR (cR (cB (cL (cR (cB (cB (cR (cL (cR (cR (cR (cR (cR bd4))))))))))))))))))) (ks' := [.blk 1, .seq (cR (cR (cB (cB (cR (cL (cR (cR (cR (cR (cR bd4))))))))))), .lp (cB (cR (cL (cR (cR (cR (cR (cR bd4))))))))]) (by kernel_rfl) ?_
                          refine WK.rc (g := []) (l' := [(.t 0, [.data (.slc false none 2 (List.map TA2_uint8.en l11_0))]), (.t 3, [.data (.slc false none 3 (List.map TSeat.en r15_1))]), (.t 4, [.ptr 4 0]), (.t 5, [iv l11_2]), (.o 4, [iv j33_5.c0, iv j33_5.c1, iv j33_5.c2, iv j33_5.c3, iv j33_5.c4, iv j33_5.c5])]) .nil (by kernel_rfl) (y := (cR (cR (cB (cB (cR (cL (cR (cR (cR (cR (cR bd4)))))))))))) (ks' := [.lp (cB (cR (cL (cR (cR (cR (cR (cR bd4))))))))]) (by kernel_rfl) ?_
                          refine WK.rc (g := []) (l' := [(.t 0, [.data (.slc false none 2 (List.map TA2_uint8.en l11_0))]), (.t 3, [.data (.slc false none 3 (List.map TSeat.en r15_1))]), (.t 4, [.ptr 4 0]), (.t 5, [iv (w64 (l11_2 + 1))]), (.o 4, [iv j33_5.c0, iv j33_5.c1, iv j33_5.c2, iv j33_5.c3, iv j33_5.c4, iv j33_5.c5])]) .nil (by kernel_rfl) (y := (cB (cR (cL (cR (cR (cR (cR (cR bd4))))))))) (ks' := []) (by kernel_rfl) ?_
                          exact WK.weak (l := [(.t 0, [.data (.slc false none 2 (List.map TA2_uint8.en l11_0))]), (.t 3, [.data (.slc false none 3 (List.map TSeat.en r15_1))]), (.t 4, [.ptr 4 0]), (.t 5, [iv (w64 (l11_2 + 1))]), (.o 4, [iv j33_5.c0, iv j33_5.c1, iv j33_5.c2, iv j33_5.c3, iv j33_5.c4, iv j33_5.c5])]) (wk_of (by kernel_rfl)) (ih r15_1 (w64 (l11_2 + 1)) j33_5 _ h)
                    · rcases br_inv h with ⟨b35_7, h⟩ | ⟨b35_7, h⟩
                      · rcases br_inv h with ⟨b35_8, h⟩ | ⟨b35_8, h⟩
                        · refine WK.rs (g := [.b false, .b false, .b false, .b false, .i 5, .b false, .b false, .b false, .b true, .b true, .b true, .b true]) (l' := [(.t 0, [.data (.slc false none 2 (List.map TA2_uint8.en l11_0))]), (.t 4, [.ptr 4 0]), (.t 5, [iv l11_2]), (.t 8, [.data (.slc false none 3 (List.map TSeat.en r15_1))]), (.t 84, [bv true]), (.o 4, [iv j33_5.c0, iv j33_5.c1, iv j33_5.c2, iv j33_5.c3, iv j33_5.c4, iv j33_5.c5])]) (by kernel_rfl) (.cons b35_1 (.cons b35_1 (.cons b35_1 (.cons b35_1 (.cons (c_ib (j := 5) (n := 6) b35_7 (Eq.refl true)) (.cons (c_ii (j := 5) b35_7) (.cons b35_1 (.cons b35_1 (.cons b35_1 (.cons b35_8 (.cons b35_8 (.cons b35_8 (.cons b35_8 (.cons (Eq.refl true) .nil)))))))))))))) (by kernel_rfl) ?_
                          refine WK.ct (b := true) (by kernel_rfl) rfl ?_
                          refine WK.rs (g := []) (l' := [(.t 2, [bv false])]) (by kernel_rfl) .nil (by kernel_rfl) ?_
                          refine WK.weak (l := [(.t 2, [bv false])]) (wk_of (by kernel_rfl)) ?_
                          refine WK.ret (by kernel_rfl) ?_
                          cases some_inj h
                          exact WKe.fin (e' := .ret) (by kernel_rfl) ⟨rfl, rfl⟩
                        · rcases br_inv h with ⟨b35_9, h⟩ | ⟨b35_9, h⟩
                          · refine WK.rs (g := [.b false, .b false, .b false, .b false, .i 5, .b false, .b false, .b false, .b false, .b false, .b true, .b true, .b true, .b true, .b true, .b false, .b true, .b false]) (l' := [(.t 0, [.data (.slc false none 2 (List.map TA2_uint8.en l11_0))]), (.t 4, [.ptr 4 0]), (.t 5, [iv l11_2]), (.t 8, [.data (.slc false none 3 (List.map TSeat.en r15_1))]), (.t 84, [bv (r34_2.Pos != (w64 (l11_2 + 1)))]), (.o 4, [iv j33_5.c0, iv j33_5.c1, iv j33_5.c2, iv j33_5.c3, iv j33_5.c4, iv j33_5.c5])]) (by kernel_rfl) (.cons b35_1 (.cons b35_1 (.cons b35_1 (.cons b35_1 (.cons (c_ib (j := 5) (n := 6) b35_7 (Eq.refl true)) (.cons (c_ii (j := 5) b35_7) (.cons b35_1 (.cons b35_1 (.cons b35_1 (.cons b35_8 (.cons b35_8 (.cons b35_9 (.cons b35_9 (.cons b35_9 (.cons b35_9 (.cons b35_9 (.cons b35_8 (.cons b35_9 (.cons b35_8 (.cons (Eq.refl true) .nil)))))))))))))))))))) (by kernel_rfl) ?_
                            rcases br_inv h with ⟨b73_0, h⟩ | ⟨b73_0, h⟩
                            · refine WK.ct (b := (r34_2.Pos != (w64 (l11_2 + 1)))) (by kernel_rfl) b73_0 ?_
                              refine WK.rs (g := []) (l' := [(.t 2, [bv false])]) (by kernel_rfl) .nil (by kernel_rfl) ?_
                              refine WK.weak (l := [(.t 2, [bv false])]) (wk_of (by kernel_rfl)) ?_
                              refine WK.ret (by kernel_rfl) ?_
                              cases some_inj h
                              exact WKe.fin (e' := .ret) (by kernel_rfl) ⟨rfl, rfl⟩
                            · refine WK.ce (b := (r34_2.Pos != (w64 (l11_2 + 1)))) (by kernel_rfl) b73_0 ?_
                              refine WK.skip (by kernel_rfl) ?_
                              refine WKe.code (y := (cR (cR (cR (cR (cR (cR (cB (cL (cR (cB (cB (cR (cL (cR (cR (cR (cR (cR bd4))))))))))))))))))) (ks' := [.blk 1, .seq (cR (cR (cB (cB (cR (cL (cR (cR (cR (cR (cR bd4))))))))))), .lp (cB (cR (cL (cR (cR (cR (cR (cR bd4))))))))]) (by kernel_rfl) ?_
                              refine WK.rc (g := []) (l' := [(.t 0, [.data (.slc false none 2 (List.map TA2_uint8.en l11_0))]), (.t 3, [.data (.slc false none 3 (List.map TSeat.en r15_1))]), (.t 4, [.ptr 4 0]), (.t 5, [iv l11_2]), (.o 4, [iv j33_5.c0, iv j33_5.c1, iv j33_5.c2, iv j33_5.c3, iv j33_5.c4, iv j33_5.c5])]) .nil (by kernel_rfl) (y := (cR (cR (cB (cB (cR (cL (cR (cR (cR (cR (cR bd4)))))))))))) (ks' := [.lp (cB (cR (cL (cR (cR (cR (cR (cR bd4))))))))]) (by kernel_rfl) ?_
                              refine WK.rc (g := []) (l' := [(.t 0, [.data (.slc false none 2 (List.map TA2_uint8.en l11_0))]), (.t 3, [.data (.slc false none 3 (List.map TSeat.en r15_1))]), (.t 4, [.ptr 4 0]), (.t 5, [iv (w64 (l11_2 + 1))]), (.o 4, [iv j33_5.c0, iv j33_5.c1, iv j33_5.c2, iv j33_5.c3, iv j33_5.c4, iv j33_5.c5])]) .nil (by kernel_rfl) (y := (cB (cR (cL (cR (cR (cR (cR (cR bd4))))))))) (ks' := []) (by kernel_rfl) ?_
                              exact WK.weak (l := [(.t 0, [.data (.slc false none 2 (List.map TA2_uint8.en l11_0))]), (.t 3, [.data (.slc false none 3 (List.map TSeat.en r15_1))]), (.t 4, [.ptr 4 0]), (.t 5, [iv (w64 (l11_2 + 1))]), (.o 4, [iv j33_5.c0, iv j33_5.c1, iv j33_5.c2, iv j33_5.c3, iv j33_5.c4, iv j33_5.c5])]) (wk_of (by kernel_rfl)) (ih r15_1 (w64 (l11_2 + 1)) j33_5 _ h)
                          · refine WK.rs (g := [.b false, .b false, .b false, .b false, .i 5, .b false, .b false, .b false, .b false, .b false, .b false, .b false, .b false, .b false, .b false, .b false, .b false, .b false]) (l' := [(.t 0, [.data (.slc false none 2 (List.map TA2_uint8.en l11_0))]), (.t 4, [.ptr 4 0]), (.t 5, [iv l11_2]), (.t 8, [.data (.slc false none 3 (List.map TSeat.en r15_1))]), (.t 84, [bv false]), (.o 4, [iv j33_5.c0, iv j33_5.c1, iv j33_5.c2, iv j33_5.c3, iv j33_5.c4, iv j33_5.c5])]) (by kernel_rfl) (.cons b35_1 (.cons b35_1 (.cons b35_1 (.cons b35_1 (.cons (c_ib (j := 5) (n := 6) b35_7 (Eq.refl true)) (.cons (c_ii (j := 5) b35_7) (.cons b35_1 (.cons b35_1 (.cons b35_1 (.cons b35_8 (.cons b35_8 (.cons b35_9 (.cons b35_9 (.cons b35_9 (.cons b35_9 (.cons b35_9 (.cons b35_8 (.cons b35_9 (.cons b35_8 (.cons (Eq.refl true) .nil)))))))))))))))))))) (by kernel_rfl) ?_
                            refine WK.ce (b := false) (by kernel_rfl) rfl ?_
                            refine WK.skip (by kernel_rfl) ?_
                            refine WKe.code (y := (cR (cR (cR (cR (cR (cR (cB (cL (cR (cB (cB (cR (cL (cR (cR (cR (cR (cR bd4))))))))))))))))))) (ks' := [.blk 1, .seq (cR (cR (cB (cB (cR (cL (cR (cR (cR (cR (cR bd4))))))))))), .lp (cB (cR (cL (cR (cR (cR (cR (cR bd4))))))))]) (by kernel_rfl) ?_
                            refine WK.rc (g := []) (l' := [(.t 0, [.data (.slc false none 2 (List.map TA2_uint8.en l11_0))]), (.t 3, [.data (.slc false none 3 (List.map TSeat.en r15_1))]), (.t 4, [.ptr 4 0]), (.t 5, [iv l11_2]), (.o 4, [iv j33_5.c0, iv j33_5.c1, iv j33_5.c2, iv j33_5.c3, iv j33_5.c4, iv j33_5.c5])]) .nil (by kernel_rfl) (y := (cR (cR (cB (cB (cR (cL (cR (cR (cR (cR (cR bd4)))))))))))) (ks' := [.lp (cB (cR (cL (cR (cR (cR (cR (cR bd4))))))))]) (by kernel_rfl) ?_
                            refine WK.rc (g := []) (l' := [(.t 0, [.data (.slc false none 2 (List.map TA2_uint8.en l11_0))]), (.t 3, [.data (.slc false none 3 (List.map TSeat.en r15_1))]), (.t 4, [.ptr 4 0]), (.t 5, [iv (w64 (l11_2 + 1))]), (.o 4, [iv j33_5.c0, iv j33_5.c1, iv j33_5.c2, iv j33_5.c3, iv j33_5.c4, iv j33_5.c5])]) .nil (by kernel_rfl) (y := (cB (cR (cL (cR (cR (cR (cR (cR bd4))))))))) (ks' := []) (by kernel_rfl) ?_
                            exact WK.weak (l := [(.t 0, [.data (.slc false none 2 (List.map TA2_uint8.en l11_0))]), (.t 3, [.data (.slc false none 3 (List.map TSeat.en r15_1))]), (.t 4, [.ptr 4 0]), (.t 5, [iv (w64 (l11_2 + 1))]), (.o 4, [iv j33_5.c0, iv j33_5.c1, iv j33_5.c2, iv j33_5.c3, iv j33_5.c4, iv j33_5.c5])]) (wk_of (by kernel_rfl)) (ih r15_1 (w64 (l11_2 + 1)) j33_5 _ h)
                      · exact no_none h
        clear hk33
        refine WK.seq (by kernel_rfl) ?_
        refine WK.rs (g := []) (l' := [(.t 0, [.data (.slc false none 2 (List.map TA2_uint8.en l11_0))]), (.t 4, [.ptr 4 0]), (.t 5, [iv l11_2]), (.t 6, [iv (w64 (1 + (w64 (Int.tmod x14_1.c0 5))))]), (.t 7, [iv (w64 (1 + (w64 (Int.tmod x14_4.c1 20))))]), (.t 8, [.data (.slc false none 3 (List.map TSeat.en r15_1))]), (.t 9, [bv r15_2]), (.t 55, [bv r15_2]), (.o 4, [iv l11_3.c0, iv l11_3.c1, iv l11_3.c2, iv l11_3.c3, iv l11_3.c4, iv l11_3.c5])]) (by kernel_rfl) .nil (by kernel_rfl) ?_
        rcases br_inv h with ⟨b31_0, h⟩ | ⟨b31_0, h⟩
        · refine WK.ct (b := r15_2) (by kernel_rfl) b31_0 ?_
          rcases br_inv h with ⟨b32_1, h⟩ | ⟨b32_1, h⟩
          · refine WK.rc (g := [.i 0]) (l' := [(.t 0, [.data (.slc false none 2 (List.map TA2_uint8.en l11_0))]), (.t 4, [.ptr 4 0]), (.t 5, [iv l11_2]), (.t 6, [iv (w64 (1 + (w64 (Int.tmod x14_1.c0 5))))]), (.t 8, [.data (.slc false none 3 (List.map TSeat.en r15_1))]), (.t 9, [bv r15_2]), (.o 4, [iv (w64 (1 + (w64 (Int.tmod x14_4.c1 20)))), iv l11_3.c1, iv l11_3.c2, iv l11_3.c3, iv l11_3.c4, iv l11_3.c5])]) (.cons (c_ib (j := 0) (n := 6) b32_1 (Eq.refl true)) (.cons (c_ii (j := 0) b32_1) .nil)) (by kernel_rfl) (y := (cR (cR (cR (cR (cB (cL (cR (cB (cB (cR (cL (cR (cR (cR (cR (cR bd4))))))))))))))))) (ks' := [.blk 1, .seq (cR (cR (cB (cB (cR (cL (cR (cR (cR (cR (cR bd4))))))))))), .lp (cB (cR (cL (cR (cR (cR (cR (cR bd4))))))))]) (by kernel_rfl) ?_
            exact WK.weak (l := [(.t 0, [.data (.slc false none 2 (List.map TA2_uint8.en l11_0))]), (.t 4, [.ptr 4 0]), (.t 5, [iv l11_2]), (.t 6, [iv (w64 (1 + (w64 (Int.tmod x14_1.c0 5))))]), (.t 8, [.data (.slc false none 3 (List.map TSeat.en r15_1))]), (.t 9, [bv r15_2]), (.o 4, [iv ((TA6_int.mk (w64 (1 + (w64 (Int.tmod x14_4.c1 20)))) l11_3.c1 l11_3.c2 l11_3.c3 l11_3.c4 l11_3.c5).c0), iv ((TA6_int.mk (w64 (1 + (w64 (Int.tmod x14_4.c1 20)))) l11_3.c1 l11_3.c2 l11_3.c3 l11_3.c4 l11_3.c5).c1), iv ((TA6_int.mk (w64 (1 + (w64 (Int.tmod x14_4.c1 20)))) l11_3.c1 l11_3.c2 l11_3.c3 l11_3.c4 l11_3.c5).c2), iv ((TA6_int.mk (w64 (1 + (w64 (Int.tmod x14_4.c1 20)))) l11_3.c1 l11_3.c2 l11_3.c3 l11_3.c4 l11_3.c5).c3), iv ((TA6_int.mk (w64 (1 + (w64 (Int.tmod x14_4.c1 20)))) l11_3.c1 l11_3.c2 l11_3.c3 l11_3.c4 l11_3.c5).c4), iv ((TA6_int.mk (w64 (1 + (w64 (Int.tmod x14_4.c1 20)))) l11_3.c1 l11_3.c2 l11_3.c3 l11_3.c4 l11_3.c5).c5)])]) (wk_of (by kernel_rfl)) (Jk33 (TA6_int.mk (w64 (1 + (w64 (Int.tmod x14_4.c1 20)))) l11_3.c1 l11_3.c2 l11_3.c3 l11_3.c4 l11_3.c5) h)
          · rcases br_inv h with ⟨b32_2, h⟩ | ⟨b32_2, h⟩
            · refine WK.rc (g := [.i 1]) (l' := [(.t 0, [.data (.slc false none 2 (List.map TA2_uint8.en l11_0))]), (.t 4, [.ptr 4 0]), (.t 5, [iv l11_2]), (.t 6, [iv (w64 (1 + (w64 (Int.tmod x14_1.c0 5))))]), (.t 8, [.data (.slc false none 3 (List.map TSeat.en r15_1))]), (.t 9, [bv r15_2]), (.o 4, [iv l11_3.c0, iv (w64 (1 + (w64 (Int.tmod x14_4.c1 20)))), iv l11_3.c2, iv l11_3.c3, iv l11_3.c4, iv l11_3.c5])]) (.cons (c_ib (j := 1) (n := 6) b32_2 (Eq.refl true)) (.cons (c_ii (j := 1) b32_2) .nil)) (by kernel_rfl) (y := (cR (cR (cR (cR (cB (cL (cR (cB (cB (cR (cL (cR (cR (cR (cR (cR bd4))))))))))))))))) (ks' := [.blk 1, .seq (cR (cR (cB (cB (cR (cL (cR (cR (cR (cR (cR bd4))))))))))), .lp (cB (cR (cL (cR (cR (cR (cR (cR bd4))))))))]) (by kernel_rfl) ?_
              exact WK.weak (l := [(.t 0, [.data (.slc false none 2 (List.map TA2_uint8.en l11_0))]), (.t 4, [.ptr 4 0]), (.t 5, [iv l11_2]), (.t 6, [iv (w64 (1 + (w64 (Int.tmod x14_1.c0 5))))]), (.t 8, [.data (.slc false none 3 (List.map TSeat.en r15_1))]), (.t 9, [bv r15_2]), (.o 4, [iv ((TA6_int.mk l11_3.c0 (w64 (1 + (w64 (Int.tmod x14_4.c1 20)))) l11_3.c2 l11_3.c3 l11_3.c4 l11_3.c5).c0), iv ((TA6_int.mk l11_3.c0 (w64 (1 + (w64 (Int.tmod x14_4.c1 20)))) l11_3.c2 l11_3.c3 l11_3.c4 l11_3.c5).c1), iv ((TA6_int.mk l11_3.c0 (w64 (1 + (w64 (Int.tmod x14_4.c1 20)))) l11_3.c2 l11_3.c3 l11_3.c4 l11_3.c5).c2), iv ((TA6_int.mk l11_3.c0 (w64 (1 + (w64 (Int.tmod x14_4.c1 20)))) l11_3.c2 l11_3.c3 l11_3.c4 l11_3.c5).c3), iv ((TA6_int.mk l11_3.c0 (w64 (1 + (w64 (Int.tmod x14_4.c1 20)))) l11_3.c2 l11_3.c3 l11_3.c4 l11_3.c5).c4), iv ((TA6_int.mk l11_3.c0 (w64 (1 + (w64 (Int.tmod x14_4.c1 20)))) l11_3.c2 l11_3.c3 l11_3.c4 l11_3.c5).c5)])]) (wk_of (by kernel_rfl)) (Jk33 (TA6_int.mk l11_3.c0 (w64 (1 + (w64 (Int.tmod x14_4.c1 20)))) l11_3.c2 l11_3.c3 l11_3.c4 l11_3.c5) h)
            · rcases br_inv h with ⟨b32_3, h⟩ | ⟨b32_3, h⟩
              · refine WK.rc (g := [.i 2]) (l' := [(.t 0, [.data (.slc false none 2 (List.map TA2_uint8.en l11_0))]), (.t 4, [.ptr 4 0]), (.t 5, [iv l11_2]), (.t 6, [iv (w64 (1 + (w64 (Int.tmod x14_1.c0 5))))]), (.t 8, [.data (.slc false none 3 (List.map TSeat.en r15_1))]), (.t 9, [bv r15_2]), (.o 4, [iv l11_3.c0, iv l11_3.c1, iv (w64 (1 + (w64 (Int.tmod x14_4.c1 20)))), iv l11_3.c3, iv l11_3.c4, iv l11_3.c5])]) (.cons (c_ib (j := 2) (n := 6) b32_3 (Eq.refl true)) (.cons (c_ii (j := 2) b32_3) .nil)) (by kernel_rfl) (y := (cR (cR (cR (cR (cB (cL (cR (cB (cB (cR (cL (cR (cR (cR (cR (cR bd4))))))))))))))))) (ks' := [.blk 1, .seq (cR (cR (cB (cB (cR (cL (cR (cR (cR (cR (cR bd4))))))))))), .lp (cB (cR (cL (cR (cR (cR (cR (cR bd4))))))))]) (by kernel_rfl) ?_
                exact WK.weak (l := [(.t 0, [.data (.slc false none 2 (List.map TA2_uint8.en l11_0))]), (.t 4, [.ptr 4 0]), (.t 5, [iv l11_2]), (.t 6, [iv (w64 (1 + (w64 (Int.tmod x14_1.c0 5))))]), (.t 8, [.data (.slc false none 3 (List.map TSeat.en r15_1))]), (.t 9, [bv r15_2]), (.o 4, [iv ((TA6_int.mk l11_3.c0 l11_3.c1 (w64 (1 + (w64 (Int.tmod x14_4.c1 20)))) l11_3.c3 l11_3.c4 l11_3.c5).c0), iv ((TA6_int.mk l11_3.c0 l11_3.c1 (w64 (1 + (w64 (Int.tmod x14_4.c1 20)))) l11_3.c3 l11_3.c4 l11_3.c5).c1), iv ((TA6_int.mk l11_3.c0 l11_3.c1 (w64 (1 + (w64 (Int.tmod x14_4.c1 20)))) l11_3.c3 l11_3.c4 l11_3.c5).c2), iv ((TA6_int.mk l11_3.c0 l11_3.c1 (w64 (1 + (w64 (Int.tmod x14_4.c1 20)))) l11_3.c3 l11_3.c4 l11_3.c5).c3), iv ((TA6_int.mk l11_3.c0 l11_3.c1 (w64 (1 + (w64 (Int.tmod x14_4.c1 20)))) l11_3.c3 l11_3.c4 l11_3.c5).c4), iv ((TA6_int.mk l11_3.c0 l11_3.c1 (w64 (1 + (w64 (Int.tmod x14_4.c1 20)))) l11_3.c3 l11_3.c4 l11_3.c5).c5)])]) (wk_of (by kernel_rfl)) (Jk33 (TA6_int.mk l11_3.c0 l11_3.c1 (w64 (1 + (w64 (Int.tmod x14_4.c1 20)))) l11_3.c3 l11_3.c4 l11_3.c5) h)
              · rcases br_inv h with ⟨b32_4, h⟩ | ⟨b32_4, h⟩
                · refine WK.rc (g := [.i 3]) (l' := [(.t 0, [.data (.slc false none 2 (List.map TA2_uint8.en l11_0))]), (.t 4, [.ptr 4 0]), (.t 5, [iv l11_2]), (.t 6, [iv (w64 (1 + (w64 (Int.tmod x14_1.c0 5))))]), (.t 8, [.data (.slc false none 3 (List.map TSeat.en r15_1))]), (.t 9, [bv r15_2]), (.o 4, [iv l11_3.c0, iv l11_3.c1, iv l11_3.c2, iv (w64 (1 + (w64 (Int.tmod x14_4.c1 20)))), iv l11_3.c4, iv l11_3.c5])]) (.cons (c_ib (j := 3) (n := 6) b32_4 (Eq.refl true)) (.cons (c_ii (j := 3) b32_4) .nil)) (by kernel_rfl) (y := (cR (cR (cR (cR (cB (cL (cR (cB (cB (cR (cL (cR (cR (cR (cR (cR bd4))))))))))))))))) (ks' := [.blk 1, .seq (cR (cR (cB (cB (cR (cL (cR (cR (cR (cR (cR bd4))))))))))), .lp (cB (cR (cL (cR (cR (cR (cR (cR bd4))))))))]) (by kernel_rfl) ?_
                  exact WK.weak (l := [(.t 0, [.data (.slc false none 2 (List.map TA2_uint8.en l11_0))]), (.t 4, [.ptr 4 0]), (.t 5, [iv l11_2]), (.t 6, [iv (w64 (1 + (w64 (Int.tmod x14_1.c0 5))))]), (.t 8, [.data (.slc false none 3 (List.map TSeat.en r15_1))]), (.t 9, [bv r15_2]), (.o 4, [iv ((TA6_int.mk l11_3.c0 l11_3.c1 l11_3.c2 (w64 (1 + (w64 (Int.tmod x14_4.c1 20)))) l11_3.c4 l11_3.c5).c0), iv ((TA6_int.mk l11_3.c0 l11_3.c1 l11_3.c2 (w64 (1 + (w64 (Int.tmod x14_4.c1 20)))) l11_3.c4 l11_3.c5).c1), iv ((TA6_int.mk l11_3.c0 l11_3.c1 l11_3.c2 (w64 (1 + (w64 (Int.tmod x14_4.c1 20)))) l11_3.c4 l11_3.c5).c2), iv ((TA6_int.mk l11_3.c0 l11_3.c1 l11_3.c2 (w64 (1 + (w64 (Int.tmod x14_4.c1 20)))) l11_3.c4 l11_3.c5).c3), iv ((TA6_int.mk l11_3.c0 l11_3.c1 l11_3.c2 (w64 (1 + (w64 (Int.tmod x14_4.c1 20)))) l11_3.c4 l11_3.c5).c4), iv ((TA6_int.mk l11_3.c0 l11_3.c1 l11_3.c2 (w64 (1 + (w64 (Int.tmod x14_4.c1 20)))) l11_3.c4 l11_3.c5).c5)])]) (wk_of (by kernel_rfl)) (Jk33 (TA6_int.mk l11_3.c0 l11_3.c1 l11_3.c2 (w64 (1 + (w64 (Int.tmod x14_4.c1 20)))) l11_3.c4 l11_3.c5) h)
                · rcases br_inv h with ⟨b32_5, h⟩ | ⟨b32_5, h⟩
                  · refine WK.rc (g := [.i 4]) (l' := [(.t 0, [.data (.slc false none 2 (List.map TA2_uint8.en l11_0))]), (.t 4, [.ptr 4 0]), (.t 5, [iv l11_2]), (.t 6, [iv (w64 (1 + (w64 (Int.tmod x14_1.c0 5))))]), (.t 8, [.data (.slc false none 3 (List.map TSeat.en r15_1))]), (.t 9, [bv r15_2]), (.o 4, [iv l11_3.c0, iv l11_3.c1, iv l11_3.c2, iv l11_3.c3, iv (w64 (1 + (w64 (Int.tmod x14_4.c1 20)))), iv l11_3.c5])]) (.cons (c_ib (j := 4) (n := 6) b32_5 (Eq.refl true)) (.cons (c_ii (j := 4) b32_5) .nil)) (by kernel_rfl) (y := (cR (cR (cR (cR (cB (cL (cR (cB (cB (cR (cL (cR (cR (cR (cR (cR bd4))))))))))))))))) (ks' := [.blk 1, .seq (cR (cR (cB (cB (cR (cL (cR (cR (cR (cR (cR bd4))))))))))), .lp (cB (cR (cL (cR (cR (cR (cR (cR bd4))))))))]) (by kernel_rfl) ?_
                    exact WK.weak (l := [(.t 0, [.data (.slc false none 2 (List.map TA2_uint8.en l11_0))]), (.t 4, [.ptr 4 0]), (.t 5, [iv l11_2]), (.t 6, [iv (w64 (1 + (w64 (Int.tmod x14_1.c0 5))))]), (.t 8, [.data (.slc false none 3 (List.map TSeat.en r15_1))]), (.t 9, [bv r15_2]), (.o 4, [iv ((TA6_int.mk l11_3.c0 l11_3.c1 l11_3.c2 l11_3.c3 (w64 (1 + (w64 (Int.tmod x14_4.c1 20)))) l11_3.c5).c0), iv ((TA6_int.mk l11_3.c0 l11_3.c1 l11_3.c2 l11_3.c3 (w64 (1 + (w64 (Int.tmod x14_4.c1 20)))) l11_3.c5).c1), iv ((TA6_int.mk l11_3.c0 l11_3.c1 l11_3.c2 l11_3.c3 (w64 (1 + (w64 (Int.tmod x14_4.c1 20)))) l11_3.c5).c2), iv ((TA6_int.mk l11_3.c0 l11_3.c1 l11_3.c2 l11_3.c3 (w64 (1 + (w64 (Int.tmod x14_4.c1 20)))) l11_3.c5).c3), iv ((TA6_int.mk l11_3.c0 l11_3.c1 l11_3.c2 l11_3.c3 (w64 (1 + (w64 (Int.tmod x14_4.c1 20)))) l11_3.c5).c4), iv ((TA6_int.mk l11_3.c0 l11_3.c1 l11_3.c2 l11_3.c3 (w64 (1 + (w64 (Int.tmod x14_4.c1 20)))) l11_3.c5).c5)])]) (wk_of (by kernel_rfl)) (Jk33 (TA6_int.mk l11_3.c0 l11_3.c1 l11_3.c2 l11_3.c3 (w64 (1 + (w64 (Int.tmod x14_4.c1 20)))) l11_3.c5) h)
                  · rcases br_inv h with ⟨b32_6, h⟩ | ⟨b32_6, h⟩
                    · refine WK.rc (g := [.i 5]) (l' := [(.t 0, [.data (.slc false none 2 (List.map TA2_uint8.en l11_0))]), (.t 4, [.ptr 4 0]), (.t 5, [iv l11_2]), (.t 6, [iv (w64 (1 + (w64 (Int.tmod x14_1.c0 5))))]), (.t 8, [.data (.slc false none 3 (List.map TSeat.en r15_1))]), (.t 9, [bv r15_2]), (.o 4, [iv l11_3.c0, iv l11_3.c1, iv l11_3.c2, iv l11_3.c3, iv l11_3.c4, iv (w64 (1 + (w64 (Int.tmod x14_4.c1 20))))])]) (.cons (c_ib (j := 5) (n := 6) b32_6 (Eq.refl true)) (.cons (c_ii (j := 5) b32_6) .nil)) (by kernel_rfl) (y := (cR (cR (cR (cR (cB (cL (cR (cB (cB (cR (cL (cR (cR (cR (cR (cR bd4))))))))))))))))) (ks' := [.blk 1, .seq (cR (cR (cB (cB (cR (cL (cR (cR (cR (cR (cR bd4))))))))))), .lp (cB (cR (cL (cR (cR (cR (cR (cR bd4))))))))]) (by kernel_rfl) ?_
                      exact WK.weak (l := [(.t 0, [.data (.slc false none 2 (List.map TA2_uint8.en l11_0))]), (.t 4, [.ptr 4 0]), (.t 5, [iv l11_2]), (.t 6, [iv (w64 (1 + (w64 (Int.tmod x14_1.c0 5))))]), (.t 8, [.data (.slc false none 3 (List.map TSeat.en r15_1))]), (.t 9, [bv r15_2]), (.o 4, [iv ((TA6_int.mk l11_3.c0 l11_3.c1 l11_3.c2 l11_3.c3 l11_3.c4 (w64 (1 + (w64 (Int.tmod x14_4.c1 20))))).c0), iv ((TA6_int.mk l11_3.c0 l11_3.c1 l11_3.c2 l11_3.c3 l11_3.c4 (w64 (1 + (w64 (Int.tmod x14_4.c1 20))))).c1), iv ((TA6_int.mk l11_3.c0 l11_3.c1 l11_3.c2 l11_3.c3 l11_3.c4 (w64 (1 + (w64 (Int.tmod x14_4.c1 20))))).c2), iv ((TA6_int.mk l11_3.c0 l11_3.c1 l11_3.c2 l11_3.c3 l11_3.c4 (w64 (1 + (w64 (Int.tmod x14_4.c1 20))))).c3), iv ((TA6_int.mk l11_3.c0 l11_3.c1 l11_3.c2 l11_3.c3 l11_3.c4 (w64 (1 + (w64 (Int.tmod x14_4.c1 20))))).c4), iv ((TA6_int.mk l11_3.c0 l11_3.c1 l11_3.c2 l11_3.c3 l11_3.c4 (w64 (1 + (w64 (Int.tmod x14_4.c1 20))))).c5)])]) (wk_of (by kernel_rfl)) (Jk33 (TA6_int.mk l11_3.c0 l11_3.c1 l11_3.c2 l11_3.c3 l11_3.c4 (w64 (1 + (w64 (Int.tmod x14_4.c1 20))))) h)
                    · exact no_none h
        · refine WK.ce (b := r15_2) (by kernel_rfl) b31_0 ?_
          refine WK.skip (by kernel_rfl) ?_
          refine WKe.code (y := (cR (cR (cR (cR (cB (cL (cR (cB (cB (cR (cL (cR (cR (cR (cR (cR bd4))))))))))))))))) (ks' := [.blk 1, .seq (cR (cR (cB (cB (cR (cL (cR (cR (cR (cR (cR bd4))))))))))), .lp (cB (cR (cL (cR (cR (cR (cR (cR bd4))))))))]) (by kernel_rfl) ?_
          exact WK.weak (l := [(.t 0, [.data (.slc false none 2 (List.map TA2_uint8.en l11_0))]), (.t 4, [.ptr 4 0]), (.t 5, [iv l11_2]), (.t 6, [iv (w64 (1 + (w64 (Int.tmod x14_1.c0 5))))]), (.t 8, [.data (.slc false none 3 (List.map TSeat.en r15_1))]), (.t 9, [bv r15_2]), (.o 4, [iv l11_3.c0, iv l11_3.c1, iv l11_3.c2, iv l11_3.c3, iv l11_3.c4, iv l11_3.c5])]) (wk_of (by kernel_rfl)) (Jk33 l11_3 h)
      clear hk29
      refine WK.seq (by kernel_rfl) ?_
      rcases br_inv h with ⟨b16_1, h⟩ | ⟨b16_1, h⟩
      · refine WK.rs (g := [.i 0]) (l' := [(.t 0, [.data (.slc false none 2 (List.map TA2_uint8.en l11_0))]), (.t 4, [.ptr 4 0]), (.t 5, [iv l11_2]), (.t 6, [iv (w64 (1 + (w64 (Int.tmod x14_1.c0 5))))]), (.t 7, [iv (w64 (1 + (w64 (Int.tmod x14_4.c1 20))))]), (.t 8, [.data (.slc false none 3 (List.map TSeat.en r15_1))]), (.t 9, [bv r15_2]), (.t 54, [bv (!(r15_2 == (decide ((w64 (1 + (w64 (Int.tmod x14_4.c1 20)))) > l11_3.c0))))]), (.o 4, [iv l11_3.c0, iv l11_3.c1, iv l11_3.c2, iv l11_3.c3, iv l11_3.c4, iv l11_3.c5])]) (by kernel_rfl) (.cons (c_ib (j := 0) (n := 6) b16_1 (Eq.refl true)) (.cons (c_ii (j := 0) b16_1) .nil)) (by kernel_rfl) ?_
        rcases br_inv h with ⟨b17_0, h⟩ | ⟨b17_0, h⟩
        · refine WK.ct (b := (!(r15_2 == (decide ((w64 (1 + (w64 (Int.tmod x14_4.c1 20)))) > l11_3.c0))))) (by kernel_rfl) b17_0 ?_
          refine WK.rs (g := []) (l' := [(.t 2, [bv false])]) (by kernel_rfl) .nil (by kernel_rfl) ?_
          refine WK.weak (l := [(.t 2, [bv false])]) (wk_of (by kernel_rfl)) ?_
          refine WK.ret (by kernel_rfl) ?_
          cases some_inj h
          exact WKe.fin (e' := .ret) (by kernel_rfl) ⟨rfl, rfl⟩
        · refine WK.ce (b := (!(r15_2 == (decide ((w64 (1 + (w64 (Int.tmod x14_4.c1 20)))) > l11_3.c0))))) (by kernel_rfl) b17_0 ?_
          refine WK.skip (by kernel_rfl) ?_
          refine WKe.code (y := (cR (cR (cR (cB (cL (cR (cB (cB (cR (cL (cR (cR (cR (cR (cR bd4)))))))))))))))) (ks' := [.blk 1, .seq (cR (cR (cB (cB (cR (cL (cR (cR (cR (cR (cR bd4))))))))))), .lp (cB (cR (cL (cR (cR (cR (cR (cR bd4))))))))]) (by kernel_rfl) ?_
          exact WK.weak (l := [(.t 0, [.data (.slc false none 2 (List.map TA2_uint8.en l11_0))]), (.t 4, [.ptr 4 0]), (.t 5, [iv l11_2]), (.t 6, [iv (w64 (1 + (w64 (Int.tmod x14_1.c0 5))))]), (.t 7, [iv (w64 (1 + (w64 (Int.tmod x14_4.c1 20))))]), (.t 8, [.data (.slc false none 3 (List.map TSeat.en r15_1))]), (.t 9, [bv r15_2]), (.o 4, [iv l11_3.c0, iv l11_3.c1, iv l11_3.c2, iv l11_3.c3, iv l11_3.c4, iv l11_3.c5])]) (wk_of (by kernel_rfl)) (Jk29 h)
      · rcases br_inv h with ⟨b16_2, h⟩ | ⟨b16_2, h⟩
        · refine WK.rs (g := [.i 1]) (l' := [(.t 0, [.data (.slc false none 2 (List.map TA2_uint8.en l11_0))]), (.t 4, [.ptr 4 0]), (.t 5, [iv l11_2]), (.t 6, [iv (w64 (1 + (w64 (Int.tmod x14_1.c0 5))))]), (.t 7, [iv (w64 (1 + (w64 (Int.tmod x14_4.c1 20))))]), (.t 8, [.data (.slc false none 3 (List.map TSeat.en r15_1))]), (.t 9, [bv r15_2]), (.t 54, [bv (!(r15_2 == (decide ((w64 (1 + (w64 (Int.tmod x14_4.c1 20)))) > l11_3.c1))))]), (.o 4, [iv l11_3.c0, iv l11_3.c1, iv l11_3.c2, iv l11_3.c3, iv l11_3.c4, iv l11_3.c5])]) (by kernel_rfl) (.cons (c_ib (j := 1) (n := 6) b16_2 (Eq.refl true)) (.cons (c_ii (j := 1) b16_2) .nil)) (by kernel_rfl) ?_
          rcases br_inv h with ⟨b19_0, h⟩ | ⟨b19_0, h⟩
          · refine WK.ct (b := (!(r15_2 == (decide ((w64 (1 + (w64 (Int.tmod x14_4.c1 20)))) > l11_3.c1))))) (by kernel_rfl) b19_0 ?_
            refine WK.rs (g := []) (l' := [(.t 2, [bv false])]) (by kernel_rfl) .nil (by kernel_rfl) ?_
            refine WK.weak (l := [(.t 2, [bv false])]) (wk_of (by kernel_rfl)) ?_
            refine WK.ret (by kernel_rfl) ?_
            cases some_inj h
            exact WKe.fin (e' := .ret) (by kernel_rfl) ⟨rfl, rfl⟩
          · refine WK.ce (b := (!(r15_2 == (decide ((w64 (1 + (w64 (Int.tmod x14_4.c1 20)))) > l11_3.c1))))) (by kernel_rfl) b19_0 ?_
            refine WK.skip (by kernel_rfl) ?_
            refine WKe.code (y := (cR (cR (cR (cB (cL (cR (cB (cB (cR (cL (cR (cR (cR (cR (cR bd4)))))))))))))))) (ks' := [.blk 1, .seq (cR (cR (cB (cB (cR (cL (cR (cR (cR (cR (cR bd4))))))))))), .lp (cB (cR (cL (cR (cR (cR (cR (cR bd4))))))))]) (by kernel_rfl) ?_
            exact WK.weak (l := [(.t 0, [.data (.slc false none 2 (List.map TA2_uint8.en l11_0))]), (.t 4, [.ptr 4 0]), (.t 5, [iv l11_2]), (.t 6, [iv (w64 (1 + (w64 (Int.tmod x14_1.c0 5))))]), (.t 7, [iv (w64 (1 + (w64 (Int.tmod x14_4.c1 20))))]), (.t 8, [.data (.slc false none 3 (List.map TSeat.en r15_1))]), (.t 9, [bv r15_2]), (.o 4, [iv l11_3.c0, iv l11_3.c1, iv l11_3.c2, iv l11_3.c3, iv l11_3.c4, iv l11_3.c5])]) (wk_of (by kernel_rfl)) (Jk29 h)
        · rcases br_inv h with ⟨b16_3, h⟩ | ⟨b16_3, h⟩
          · refine WK.rs (g := [.i 2]) (l' := [(.t 0, [.data (.slc false none 2 (List.map TA2_uint8.en l11_0))]), (.t 4, [.ptr 4 0]), (.t 5, [iv l11_2]), (.t 6, [iv (w64 (1 + (w64 (Int.tmod x14_1.c0 5))))]), (.t 7, [iv (w64 (1 + (w64 (Int.tmod x14_4.c1 20))))]), (.t 8, [.data (.slc false none 3 (List.map TSeat.en r15_1))]), (.t 9, [bv r15_2]), (.t 54, [bv (!(r15_2 == (decide ((w64 (1 + (w64 (Int.tmod x14_4.c1 20)))) > l11_3.c2))))]), (.o 4, [iv l11_3.c0, iv l11_3.c1, iv l11_3.c2, iv l11_3.c3, iv l11_3.c4, iv l11_3.c5])]) (by kernel_rfl) (.cons (c_ib (j := 2) (n := 6) b16_3 (Eq.refl true)) (.cons (c_ii (j := 2) b16_3) .nil)) (by kernel_rfl) ?_
            rcases br_inv h with ⟨b21_0, h⟩ | ⟨b21_0, h⟩
            · refine WK.ct (b := (!(r15_2 == (decide ((w64 (1 + (w64 (Int.tmod x14_4.c1 20)))) > l11_3.c2))))) (by kernel_rfl) b21_0 ?_
              refine WK.rs (g := []) (l' := [(.t 2, [bv false])]) (by kernel_rfl) .nil (by kernel_rfl) ?_
              refine WK.weak (l := [(.t 2, [bv false])]) (wk_of (by kernel_rfl)) ?_
              refine WK.ret (by kernel_rfl) ?_
              cases some_inj h
              exact WKe.fin (e' := .ret) (by kernel_rfl) ⟨rfl, rfl⟩
            · refine WK.ce (b := (!(r15_2 == (decide ((w64 (1 + (w64 (Int.tmod x14_4.c1 20)))) > l11_3.c2))))) (by kernel_rfl) b21_0 ?_
              refine WK.skip (by kernel_rfl) ?_
              refine WKe.code (y := (cR (cR (cR (cB (cL (cR (cB (cB (cR (cL (cR (cR (cR (cR (cR bd4)))))))))))))))) (ks' := [.blk 1, .seq (cR (cR (cB (cB (cR (cL (cR (cR (cR (cR (cR bd4))))))))))), .lp (cB (cR (cL (cR (cR (cR (cR (cR bd4))))))))]) (by kernel_rfl) ?_
              exact WK.weak (l := [(.t 0, [.data (.slc false none 2 (List.map TA2_uint8.en l11_0))]), (.t 4, [.ptr 4 0]), (.t 5, [iv l11_2]), (.t 6, [iv (w64 (1 + (w64 (Int.tmod x14_1.c0 5))))]), (.t 7, [iv (w64 (1 + (w64 (Int.tmod x14_4.c1 20))))]), (.t 8, [.data (.slc false none 3 (List.map TSeat.en r15_1))]), (.t 9, [bv r15_2]), (.o 4, [iv l11_3.c0, iv l11_3.c1, iv l11_3.c2, iv l11_3.c3, iv l11_3.c4, iv l11_3.c5])]) (wk_of (by kernel_rfl)) (Jk29 h)
          · rcases br_inv h with ⟨b16_4, h⟩ | ⟨b16_4, h⟩
            · refine WK.rs (g := [.i 3]) (l' := [(.t 0, [.data (.slc false none 2 (List.map TA2_uint8.en l11_0))]), (.t 4, [.ptr 4 0]), (.t 5, [iv l11_2]), (.t 6, [iv (w64 (1 + (w64 (Int.tmod x14_1.c0 5))))]), (.t 7, [iv (w64 (1 + (w64 (Int.tmod x14_4.c1 20))))]), (.t 8, [.data (.slc false none 3 (List.map TSeat.en r15_1))]), (.t 9, [bv r15_2]), (.t 54, [bv (!(r15_2 == (decide ((w64 (1 + (w64 (Int.tmod x14_4.c1 20)))) > l11_3.c3))))]), (.o 4, [iv l11_3.c0, iv l11_3.c1, iv l11_3.c2, iv l11_3.c3, iv l11_3.c4, iv l11_3.c5])]) (by kernel_rfl) (.cons (c_ib (j := 3) (n := 6) b16_4 (Eq.refl true)) (.cons (c_ii (j := 3) b16_4) .nil)) (by kernel_rfl) ?_
              rcases br_inv h with ⟨b23_0, h⟩ | ⟨b23_0, h⟩
              · refine WK.ct (b := (!(r15_2 == (decide ((w64 (1 + (w64 (Int.tmod x14_4.c1 20)))) > l11_3.c3))))) (by kernel_rfl) b23_0 ?_
                refine WK.rs (g := []) (l' := [(.t 2, [bv false])]) (by kernel_rfl) .nil (by kernel_rfl) ?_
                refine WK.weak (l := [(.t 2, [bv false])]) (wk_of (by kernel_rfl)) ?_
                refine WK.ret (by kernel_rfl) ?_
                cases some_inj h
                exact WKe.fin (e' := .ret) (by kernel_rfl) ⟨rfl, rfl⟩
              · refine WK.ce (b := (!(r15_2 == (decide ((w64 (1 + (w64 (Int.tmod x14_4.c1 20)))) > l11_3.c3))))) (by kernel_rfl) b23_0 ?_
                refine WK.skip (by kernel_rfl) ?_
                refine WKe.code (y := (cR (cR (cR (cB (cL (cR (cB (cB (cR (cL (cR (cR (cR (cR (cR bd4)))))))))))))))) (ks' := [.blk 1, .seq (cR (cR (cB (cB (cR (cL (cR (cR (cR (cR (cR bd4))))))))))), .lp (cB (cR (cL (cR (cR (cR (cR (cR bd4))))))))]) (by kernel_rfl) ?_
                exact WK.weak (l := [(.t 0, [.data (.slc false none 2 (List.map TA2_uint8.en l11_0))]), (.t 4, [.ptr 4 0]), (.t 5, [iv l11_2]), (.t 6, [iv (w64 (1 + (w64 (Int.tmod x14_1.c0 5))))]), (.t 7, [iv (w64 (1 + (w64 (Int.tmod x14_4.c1 20))))]), (.t 8, [.data (.slc false none 3 (List.map TSeat.en r15_1))]), (.t 9, [bv r15_2]), (.o 4, [iv l11_3.c0, iv l11_3.c1, iv l11_3.c2, iv l11_3.c3, iv l11_3.c4, iv l11_3.c5])]) (wk_of (by kernel_rfl)) (Jk29 h)
            · rcases br_inv h with ⟨b16_5, h⟩ | ⟨b16_5, h⟩
              · refine WK.rs (g := [.i 4]) (l' := [(.t 0, [.data (.slc false none 2 (List.map TA2_uint8.en l11_0))]), (.t 4, [.ptr 4 0]), (.t 5, [iv l11_2]), (.t 6, [iv (w64 (1 + (w64 (Int.tmod x14_1.c0 5))))]), (.t 7, [iv (w64 (1 + (w64 (Int.tmod x14_4.c1 20))))]), (.t 8, [.data (.slc false none 3 (List.map TSeat.en r15_1))]), (.t 9, [bv r15_2]), (.t 54, [bv (!(r15_2 == (decide ((w64 (1 + (w64 (Int.tmod x14_4.c1 20)))) > l11_3.c4))))]), (.o 4, [iv l11_3.c0, iv l11_3.c1, iv l11_3.c2, iv l11_3.c3, iv l11_3.c4, iv l11_3.c5])]) (by kernel_rfl) (.cons (c_ib (j := 4) (n := 6) b16_5 (Eq.refl true)) (.cons (c_ii (j := 4) b16_5) .nil)) (by kernel_rfl) ?_
                rcases br_inv h with ⟨b25_0, h⟩ | ⟨b25_0, h⟩
                · refine WK.ct (b := (!(r15_2 == (decide ((w64 (1 + (w64 (Int.tmod x14_4.c1 20)))) > l11_3.c4))))) (by kernel_rfl) b25_0 ?_
                  refine WK.rs (g := []) (l' := [(.t 2, [bv false])]) (by kernel_rfl) .nil (by kernel_rfl) ?_
                  refine WK.weak (l := [(.t 2, [bv false])]) (wk_of (by kernel_rfl)) ?_
                  refine WK.ret (by kernel_rfl) ?_
                  cases some_inj h
                  exact WKe.fin (e' := .ret) (by kernel_rfl) ⟨rfl, rfl⟩
                · refine WK.ce (b := (!(r15_2 == (decide ((w64 (1 + (w64 (Int.tmod x14_4.c1 20)))) > l11_3.c4))))) (by kernel_rfl) b25_0 ?_
                  refine WK.skip (by kernel_rfl) ?_
                  refine WKe.code (y := (cR (cR (cR (cB (cL (cR (cB (cB (cR (cL (cR (cR (cR (cR (cR bd4)))))))))))))))) (ks' := [.blk 1, .seq (cR (cR (cB (cB (cR (cL (cR (cR (cR (cR (cR bd4))))))))))), .lp (cB (cR (cL (cR (cR (cR (cR (cR bd4))))))))]) (by kernel_rfl) ?_
                  exact WK.weak (l := [(.t 0, [.data (.slc false none 2 (List.map TA2_uint8.en l11_0))]), (.t 4, [.ptr 4 0]), (.t 5, [iv l11_2]), (.t 6, [iv (w64 (1 + (w64 (Int.tmod x14_1.c0 5))))]), (.t 7, [iv (w64 (1 + (w64 (Int.tmod x14_4.c1 20))))]), (.t 8, [.data (.slc false none 3 (List.map TSeat.en r15_1))]), (.t 9, [bv r15_2]), (.o 4, [iv l11_3.c0, iv l11_3.c1, iv l11_3.c2, iv l11_3.c3, iv l11_3.c4, iv l11_3.c5])]) (wk_of (by kernel_rfl)) (Jk29 h)
              · rcases br_inv h with ⟨b16_6, h⟩ | ⟨b16_6, h⟩
                · refine WK.rs (g := [.i 5]) (l' := [(.t 0, [.data (.slc false none 2 (List.map TA2_uint8.en l11_0))]), (.t 4, [.ptr 4 0]), (.t 5, [iv l11_2]), (.t 6, [iv (w64 (1 + (w64 (Int.tmod x14_1.c0 5))))]), (.t 7, [iv (w64 (1 + (w64 (Int.tmod x14_4.c1 20))))]), (.t 8, [.data (.slc false none 3 (List.map TSeat.en r15_1))]), (.t 9, [bv r15_2]), (.t 54, [bv (!(r15_2 == (decide ((w64 (1 + (w64 (Int.tmod x14_4.c1 20)))) > l11_3.c5))))]), (.o 4, [iv l11_3.c0, iv l11_3.c1, iv l11_3.c2, iv l11_3.c3, iv l11_3.c4, iv l11_3.c5])]) (by kernel_rfl) (.cons (c_ib (j := 5) (n := 6) b16_6 (Eq.refl true)) (.cons (c_ii (j := 5) b16_6) .nil)) (by kernel_rfl) ?_
                  rcases br_inv h with ⟨b27_0, h⟩ | ⟨b27_0, h⟩
                  · refine WK.ct (b := (!(r15_2 == (decide ((w64 (1 + (w64 (Int.tmod x14_4.c1 20)))) > l11_3.c5))))) (by kernel_rfl) b27_0 ?_
                    refine WK.rs (g := []) (l' := [(.t 2, [bv false])]) (by kernel_rfl) .nil (by kernel_rfl) ?_
                    refine WK.weak (l := [(.t 2, [bv false])]) (wk_of (by kernel_rfl)) ?_
                    refine WK.ret (by kernel_rfl) ?_
                    cases some_inj h
                    exact WKe.fin (e' := .ret) (by kernel_rfl) ⟨rfl, rfl⟩
                  · refine WK.ce (b := (!(r15_2 == (decide ((w64 (1 + (w64 (Int.tmod x14_4.c1 20)))) > l11_3.c5))))) (by kernel_rfl) b27_0 ?_
                    refine WK.skip (by kernel_rfl) ?_
                    refine WKe.code (y := (cR (cR (cR (cB (cL (cR (cB (cB (cR (cL (cR (cR (cR (cR (cR bd4)))))))))))))))) (ks' := [.blk 1, .seq (cR (cR (cB (cB (cR (cL (cR (cR (cR (cR (cR bd4))))))))))), .lp (cB (cR (cL (cR (cR (cR (cR (cR bd4))))))))]) (by kernel_rfl) ?_
                    exact WK.weak (l := [(.t 0, [.data (.slc false none 2 (List.map TA2_uint8.en l11_0))]), (.t 4, [.ptr 4 0]), (.t 5, [iv l11_2]), (.t 6, [iv (w64 (1 + (w64 (Int.tmod x14_1.c0 5))))]), (.t 7, [iv (w64 (1 + (w64 (Int.tmod x14_4.c1 20))))]), (.t 8, [.data (.slc false none 3 (List.map TSeat.en r15_1))]), (.t 9, [bv r15_2]), (.o 4, [iv l11_3.c0, iv l11_3.c1, iv l11_3.c2, iv l11_3.c3, iv l11_3.c4, iv l11_3.c5])]) (wk_of (by kernel_rfl)) (Jk29 h)
                · exact no_none h
    · refine WK.ce (b := (decide (l11_2 < (l11_0.length : Int)))) (by kernel_rfl) b13_0 ?_
      refine WK.weak (l := []) (wk_of (by kernel_rfl)) ?_
      refine WK.exit (n := 0) (by kernel_rfl) ?_
      cases some_inj h
      exact WKe.fin (e' := .exit 0) (by kernel_rfl) ⟨rfl, rfl⟩
noncomputable def diwanlaw17_SeatOnce (fu : Nat) (l : List TA2_uint8) : Option Bool :=
  bd (diwanlaw17_begun fu) fun r2_1 =>
  br (!r2_1)
    (some false)
    (br (decide ((l.length : Int) > 60))
      (some true)
      (bd (diwanlaw17_SeatOnce.lp11 fu l fu [] 0 (TA6_int.mk 0 0 0 0 0 0)) fun o_ => (match o_ with
      | .inl _ =>
        some true
      | .inr _ =>
        some false)))
theorem diwanlaw17_SeatOnce.meets (fu : Nat) (l : List TA2_uint8) (z0 : Bool) (h : diwanlaw17_SeatOnce fu l = some z0) : Meets Try.prog ⟨4, [.data (.slc false none 2 (List.map TA2_uint8.en l))], []⟩ ⟨bv z0, []⟩ := by
  refine meets_of (O := diwanlaw17_SeatOnce.O) hmix (fn := Try.f4) (code := bd4) (by kernel_rfl) ?_
  refine WK.weak (l := [(.t 0, [.data (.slc false none 2 (List.map TA2_uint8.en l))])]) (wk_of (by kernel_rfl)) ?_
  unfold diwanlaw17_SeatOnce at h
  refine WK.rs (g := []) (l' := [(.t 0, [.data (.slc false none 2 (List.map TA2_uint8.en l))])]) (by kernel_rfl) .nil (by kernel_rfl) ?_
  refine WK.seq (by kernel_rfl) ?_
  obtain ⟨r2_1, h2_2, h⟩ := bd_inv h
  refine WK.rs (g := [.a ⟨bv r2_1, []⟩]) (l' := [(.t 0, [.data (.slc false none 2 (List.map TA2_uint8.en l))]), (.t 13, [bv (!r2_1)])]) (by kernel_rfl) (.cons (Asks.of (C := Meets Try.prog) (diwanlaw17_begun.meets fu _ h2_2)) .nil) (by kernel_rfl) ?_
  rcases br_inv h with ⟨b3_0, h⟩ | ⟨b3_0, h⟩
  · refine WK.ct (b := (!r2_1)) (by kernel_rfl) b3_0 ?_
    refine WK.rs (g := []) (l' := [(.t 2, [bv false])]) (by kernel_rfl) .nil (by kernel_rfl) ?_
    refine WK.weak (l := [(.t 2, [bv false])]) (wk_of (by kernel_rfl)) ?_
    refine WK.ret (by kernel_rfl) ?_
    cases some_inj h
    exact WKe.fin (e' := .ret) (by kernel_rfl) (fin_of (g := []) (by first | exact .inl rfl | exact .inr rfl) .nil (by kernel_rfl))
  · refine WK.ce (b := (!r2_1)) (by kernel_rfl) b3_0 ?_
    refine WK.skip (by kernel_rfl) ?_
    refine WKe.code (y := (cR (cR bd4))) (ks' := []) (by kernel_rfl) ?_
    refine WK.seq (by kernel_rfl) ?_
    refine WK.rs (g := [.s (.t 15) [iv (l.length : Int)]]) (l' := [(.t 0, [.data (.slc false none 2 (List.map TA2_uint8.en l))]), (.t 16, [bv (decide ((l.length : Int) > 60))])]) (by kernel_rfl) (.cons (c_len (e := TA2_uint8.en) (l := l)) .nil) (by kernel_rfl) ?_
    rcases br_inv h with ⟨b6_0, h⟩ | ⟨b6_0, h⟩
    · refine WK.ct (b := (decide ((l.length : Int) > 60))) (by kernel_rfl) b6_0 ?_
      refine WK.rs (g := []) (l' := [(.t 2, [bv true])]) (by kernel_rfl) .nil (by kernel_rfl) ?_
      refine WK.weak (l := [(.t 2, [bv true])]) (wk_of (by kernel_rfl)) ?_
      refine WK.ret (by kernel_rfl) ?_
      cases some_inj h
      exact WKe.fin (e' := .ret) (by kernel_rfl) (fin_of (g := []) (by first | exact .inl rfl | exact .inr rfl) .nil (by kernel_rfl))
    · refine WK.ce (b := (decide ((l.length : Int) > 60))) (by kernel_rfl) b6_0 ?_
      refine WK.skip (by kernel_rfl) ?_
      refine WKe.code (y := (cR (cR (cR bd4)))) (ks' := []) (by kernel_rfl) ?_
      refine WK.rs (g := []) (l' := [(.t 0, [.data (.slc false none 2 (List.map TA2_uint8.en l))]), (.t 3, [.data (.slc true (some true) 3 (List.map TSeat.en []))])]) (by kernel_rfl) .nil (by kernel_rfl) ?_
      refine WK.rs (g := []) (l' := [(.t 0, [.data (.slc false none 2 (List.map TA2_uint8.en l))]), (.t 3, [.data (.slc true (some true) 3 (List.map TSeat.en []))]), (.t 4, [.ptr 4 0]), (.o 4, [iv 0, iv 0, iv 0, iv 0, iv 0, iv 0])]) (by kernel_rfl) .nil (by kernel_rfl) ?_
      refine WK.seq (by kernel_rfl) ?_
      refine WK.rs (g := []) (l' := [(.t 0, [.data (.slc false none 2 (List.map TA2_uint8.en l))]), (.t 3, [.data (.slc true (some true) 3 (List.map TSeat.en []))]), (.t 4, [.ptr 4 0]), (.t 5, [iv 0]), (.o 4, [iv 0, iv 0, iv 0, iv 0, iv 0, iv 0])]) (by kernel_rfl) .nil (by kernel_rfl) ?_
      refine WK.block (n := 0) (by kernel_rfl) ?_
      refine WK.share (x := .tmp 3) (l' := [(.t 0, [.data (.slc false none 2 (List.map TA2_uint8.en l))]), (.t 3, [.data (.slc false (some true) 3 (List.map TSeat.en []))]), (.t 4, [.ptr 4 0]), (.t 5, [iv 0]), (.o 4, [iv 0, iv 0, iv 0, iv 0, iv 0, iv 0])]) (by kernel_rfl) ?_
      obtain ⟨o79, ho79, h⟩ := bd_inv h
      refine WK.weak (l := [(.t 0, [.data (.slc false none 2 (List.map TA2_uint8.en l))]), (.t 3, [.data (.slc false none 3 (List.map TSeat.en []))]), (.t 4, [.ptr 4 0]), (.t 5, [iv 0]), (.o 4, [iv ((TA6_int.mk 0 0 0 0 0 0).c0), iv ((TA6_int.mk 0 0 0 0 0 0).c1), iv ((TA6_int.mk 0 0 0 0 0 0).c2), iv ((TA6_int.mk 0 0 0 0 0 0).c3), iv ((TA6_int.mk 0 0 0 0 0 0).c4), iv ((TA6_int.mk 0 0 0 0 0 0).c5)])]) (wk_of (by kernel_rfl)) ?_
      refine WK.use (diwanlaw17_SeatOnce.lp11_ok fu l _ [] 0 (TA6_int.mk 0 0 0 0 0 0) _ ho79) ?_
      intro e_ τ_ hp_
      rcases o79 with o79 | o79
      · obtain ⟨⟩ := o79
        obtain ⟨rfl, rfl⟩ := hp_
        refine WKe.code (y := (cR (cR (cR (cR (cR (cR bd4))))))) (ks' := []) (by kernel_rfl) ?_
        refine WK.rs (g := []) (l' := [(.t 2, [bv true])]) (by kernel_rfl) .nil (by kernel_rfl) ?_
        refine WK.weak (l := [(.t 2, [bv true])]) (wk_of (by kernel_rfl)) ?_
        refine WK.ret (by kernel_rfl) ?_
        cases some_inj h
        exact WKe.fin (e' := .ret) (by kernel_rfl) (fin_of (g := []) (by first | exact .inl rfl | exact .inr rfl) .nil (by kernel_rfl))
      · obtain ⟨⟩ := o79
        obtain ⟨rfl, rfl⟩ := hp_
        cases some_inj h
        exact WKe.fin (e' := .ret) (by kernel_rfl) (fin_of (g := []) (by first | exact .inl rfl | exact .inr rfl) .nil (by kernel_rfl))
end Go.Proofs.Ytabhhjfciemcaaa.Told
