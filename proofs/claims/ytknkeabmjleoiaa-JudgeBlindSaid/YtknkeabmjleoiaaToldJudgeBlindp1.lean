/- Functions of the program told as Lean functions, with the walks of their code in the machine by value. -/
import Derived.Test.YtknkeabmjleoiaaProg
import Derived.Test.YtknkeabmjleoiaaVam2
import Derived.Test.YtknkeabmjleoiaaIns36
import Derived.Test.YtknkeabmjleoiaaIns43
namespace Go.Proofs.Ytknkeabmjleoiaa.Told
open Go Go.Proofs Go.Proofs.Ytknkeabmjleoiaa Go.Proofs.Ytknkeabmjleoiaa.Vam
set_option linter.unusedVariables false
set_option maxRecDepth 100000
theorem hmix : Try.prog.follows .mixedOrders = true := by kernel_rfl
structure TRead where
  Key : ByteArray
  Version : Int
  Val : ByteArray
  There : Bool
def TRead.en (x : TRead) : List DV := [.val (.string x.Key), .val (.int .i64 x.Version), .val (.string x.Val), .val (.bool x.There)]
structure TWrite where
  Key : ByteArray
  Val : ByteArray
  Gone : Bool
def TWrite.en (x : TWrite) : List DV := [.val (.string x.Key), .val (.string x.Val), .val (.bool x.Gone)]
structure TTxn where
  Session : Int
  Seq : Int
  Reads : (List TRead)
  Writes : (List TWrite)
def TTxn.en (x : TTxn) : List DV := [.val (.int .i64 x.Session), .val (.int .i64 x.Seq), .slc false none 4 (List.map TRead.en x.Reads), .slc false none 3 (List.map TWrite.en x.Writes)]
structure TVersion where
  Pos : Int
  Val : ByteArray
  Gone : Bool
def TVersion.en (x : TVersion) : List DV := [.val (.int .i64 x.Pos), .val (.string x.Val), .val (.bool x.Gone)]
structure TChain where
  Key : ByteArray
  L : (List TVersion)
def TChain.en (x : TChain) : List DV := [.val (.string x.Key), .slc false none 3 (List.map TVersion.en x.L)]
structure TSeat where
  Session : Int
  Seq : Int
  Pos : Int
def TSeat.en (x : TSeat) : List DV := [.val (.int .i64 x.Session), .val (.int .i64 x.Seq), .val (.int .i64 x.Pos)]
structure TStore where
  Chains : (List TChain)
  Mark : Int
def TStore.en (x : TStore) : List DV := [.slc false none 2 (List.map TChain.en x.Chains), .val (.int .i64 x.Mark)]
structure TBench where
  said : (List Int)
  store : TStore
  seats : (List TSeat)
def TBench.en (x : TBench) : List DV := [.slc false none 1 (List.map e_i64 x.said), .slc false none 2 (List.map TChain.en x.store.Chains), .val (.int .i64 x.store.Mark), .slc false none 3 (List.map TSeat.en x.seats)]
structure TPicks where
  l : (List Int)
  n : Int
def TPicks.en (x : TPicks) : List DV := [.slc false none 1 (List.map e_u8 x.l), .val (.int .i64 x.n)]
structure TA10_int where
  c0 : Int
  c1 : Int
  c2 : Int
  c3 : Int
  c4 : Int
  c5 : Int
  c6 : Int
  c7 : Int
  c8 : Int
  c9 : Int
def TA10_int.en (x : TA10_int) : List DV := [.val (.int .i64 x.c0), .val (.int .i64 x.c1), .val (.int .i64 x.c2), .val (.int .i64 x.c3), .val (.int .i64 x.c4), .val (.int .i64 x.c5), .val (.int .i64 x.c6), .val (.int .i64 x.c7), .val (.int .i64 x.c8), .val (.int .i64 x.c9)]
def TTxn.ag (x : TTxn) : DV := .agg [.val (.int .i64 x.Session), .val (.int .i64 x.Seq), .slc false none 4 (List.map TRead.en x.Reads), .slc false none 3 (List.map TWrite.en x.Writes)]
def TTxn.ag_0011 (x : TTxn) : DV := .agg [.val (.int .i64 x.Session), .val (.int .i64 x.Seq), .slc true none 4 (List.map TRead.en x.Reads), .slc true none 3 (List.map TWrite.en x.Writes)]
def TTxn.ob (x : TTxn) : List AV := [.data (.val (.int .i64 x.Session)), .data (.val (.int .i64 x.Seq)), .data (.slc false none 4 (List.map TRead.en x.Reads)), .data (.slc false none 3 (List.map TWrite.en x.Writes))]
def TTxn.ob_0011 (x : TTxn) : List AV := [.data (.val (.int .i64 x.Session)), .data (.val (.int .i64 x.Seq)), .data (.slc true none 4 (List.map TRead.en x.Reads)), .data (.slc true none 3 (List.map TWrite.en x.Writes))]
def TRead.ag (x : TRead) : DV := .agg [.val (.string x.Key), .val (.int .i64 x.Version), .val (.string x.Val), .val (.bool x.There)]
def TRead.ob (x : TRead) : List AV := [.data (.val (.string x.Key)), .data (.val (.int .i64 x.Version)), .data (.val (.string x.Val)), .data (.val (.bool x.There))]
def TWrite.ob (x : TWrite) : List AV := [.data (.val (.string x.Key)), .data (.val (.string x.Val)), .data (.val (.bool x.Gone))]
def TVersion.ag (x : TVersion) : DV := .agg [.val (.int .i64 x.Pos), .val (.string x.Val), .val (.bool x.Gone)]
def TVersion.ob (x : TVersion) : List AV := [.data (.val (.int .i64 x.Pos)), .data (.val (.string x.Val)), .data (.val (.bool x.Gone))]
def TSeat.ag (x : TSeat) : DV := .agg [.val (.int .i64 x.Session), .val (.int .i64 x.Seq), .val (.int .i64 x.Pos)]
def TSeat.ob (x : TSeat) : List AV := [.data (.val (.int .i64 x.Session)), .data (.val (.int .i64 x.Seq)), .data (.val (.int .i64 x.Pos))]
def TA10_int.ob (x : TA10_int) : List AV := [.data (.val (.int .i64 x.c0)), .data (.val (.int .i64 x.c1)), .data (.val (.int .i64 x.c2)), .data (.val (.int .i64 x.c3)), .data (.val (.int .i64 x.c4)), .data (.val (.int .i64 x.c5)), .data (.val (.int .i64 x.c6)), .data (.val (.int .i64 x.c7)), .data (.val (.int .i64 x.c8)), .data (.val (.int .i64 x.c9))]
def TBench.ob (x : TBench) : List AV := [.data (.slc false none 1 (List.map e_i64 x.said)), .data (.slc false none 2 (List.map TChain.en x.store.Chains)), .data (.val (.int .i64 x.store.Mark)), .data (.slc false none 3 (List.map TSeat.en x.seats))]
def TBench.ob_01 (x : TBench) : List AV := [.data (.slc false none 1 (List.map e_i64 x.said)), .data (.slc true none 2 (List.map TChain.en x.store.Chains)), .data (.val (.int .i64 x.store.Mark)), .data (.slc false none 3 (List.map TSeat.en x.seats))]
def TBench.ob_1 (x : TBench) : List AV := [.data (.slc true none 1 (List.map e_i64 x.said)), .data (.slc false none 2 (List.map TChain.en x.store.Chains)), .data (.val (.int .i64 x.store.Mark)), .data (.slc false none 3 (List.map TSeat.en x.seats))]
def TBench.ob_11 (x : TBench) : List AV := [.data (.slc true none 1 (List.map e_i64 x.said)), .data (.slc true none 2 (List.map TChain.en x.store.Chains)), .data (.val (.int .i64 x.store.Mark)), .data (.slc false none 3 (List.map TSeat.en x.seats))]
def TBench.ob_1101 (x : TBench) : List AV := [.data (.slc true none 1 (List.map e_i64 x.said)), .data (.slc true none 2 (List.map TChain.en x.store.Chains)), .data (.val (.int .i64 x.store.Mark)), .data (.slc true none 3 (List.map TSeat.en x.seats))]
/-- cmp.isNaN[int] -/
noncomputable def bd58 : Code := (Try.f58.body).getD .skip
def cmp_isNaN_int.O : Nat → Nat := fun t => bif ([2] : List Nat).any (Nat.beq t) then 1 else 0
noncomputable def cmp_isNaN_int (x_v : Int) : Option Bool :=
  some (x_v != x_v)
theorem cmp_isNaN_int.meets (x_v : Int) (z0 : Bool) (h : cmp_isNaN_int x_v = some z0) : Meets Try.prog ⟨58, [iv x_v], []⟩ ⟨bv z0, []⟩ := by
  refine meets_of (O := cmp_isNaN_int.O) hmix (fn := Try.f58) (code := bd58) (by kernel_rfl) ?_
  refine WK.weak (l := [(.t 0, [iv x_v])]) (wk_of (by kernel_rfl)) ?_
  unfold cmp_isNaN_int at h
  refine WK.rs (g := []) (l' := [(.t 0, [iv x_v])]) (by kernel_rfl) .nil (by kernel_rfl) ?_
  refine WK.rs (g := []) (l' := [(.t 2, [bv (x_v != x_v)])]) (by kernel_rfl) .nil (by kernel_rfl) ?_
  refine WK.weak (l := [(.t 2, [bv (x_v != x_v)])]) (wk_of (by kernel_rfl)) ?_
  refine WK.ret (by kernel_rfl) ?_
  have h_ := some_inj h
  subst h_
  exact WKe.fin (e' := .ret) (by kernel_rfl) (fin_of (g := []) (by first | exact .inl rfl | exact .inr rfl) .nil (by kernel_rfl))
/-- cmp.Compare[int] -/
noncomputable def bd46 : Code := (Try.f46.body).getD .skip
def cmp_Compare_int.O : Nat → Nat := fun t => bif ([4, 5, 6] : List Nat).any (Nat.beq t) then 1 else 0
noncomputable def cmp_Compare_int (x_v : Int) (y_v : Int) : Option Int :=
  bd (cmp_isNaN_int x_v) fun r2_1 =>
  bd (cmp_isNaN_int y_v) fun r3_1 =>
  br r2_1
    (br r3_1
      (some 0)
      (some (-1)))
    (br r3_1
      (some 1)
      (br (decide (x_v < y_v))
        (some (-1))
        (br (decide (x_v > y_v))
          (some 1)
          (some 0))))
theorem cmp_Compare_int.meets (x_v : Int) (y_v : Int) (z0 : Int) (h : cmp_Compare_int x_v y_v = some z0) : Meets Try.prog ⟨46, [iv x_v, iv y_v], []⟩ ⟨iv z0, []⟩ := by
  refine meets_of (O := cmp_Compare_int.O) hmix (fn := Try.f46) (code := bd46) (by kernel_rfl) ?_
  refine WK.weak (l := [(.t 0, [iv x_v]), (.t 1, [iv y_v])]) (wk_of (by kernel_rfl)) ?_
  unfold cmp_Compare_int at h
  refine WK.rs (g := []) (l' := [(.t 0, [iv x_v]), (.t 1, [iv y_v])]) (by kernel_rfl) .nil (by kernel_rfl) ?_
  obtain ⟨r2_1, h2_2, h⟩ := bd_inv h
  refine WK.rs (g := [.a ⟨bv r2_1, []⟩]) (l' := [(.t 0, [iv x_v]), (.t 1, [iv y_v]), (.t 5, [bv r2_1])]) (by kernel_rfl) (.cons (Asks.of (C := Meets Try.prog) (cmp_isNaN_int.meets x_v _ h2_2)) .nil) (by kernel_rfl) ?_
  obtain ⟨r3_1, h3_2, h⟩ := bd_inv h
  refine WK.rs (g := [.a ⟨bv r3_1, []⟩]) (l' := [(.t 0, [iv x_v]), (.t 1, [iv y_v]), (.t 5, [bv r2_1]), (.t 6, [bv r3_1])]) (by kernel_rfl) (.cons (Asks.of (C := Meets Try.prog) (cmp_isNaN_int.meets y_v _ h3_2)) .nil) (by kernel_rfl) ?_
  refine WK.seq (by kernel_rfl) ?_
  refine WK.rs (g := []) (l' := [(.t 0, [iv x_v]), (.t 1, [iv y_v]), (.t 6, [bv r3_1]), (.t 11, [bv r2_1])]) (by kernel_rfl) .nil (by kernel_rfl) ?_
  rcases br_inv h with ⟨b5_0, h⟩ | ⟨b5_0, h⟩
  · refine WK.ct (b := r2_1) (by kernel_rfl) b5_0 ?_
    refine WK.seq (by kernel_rfl) ?_
    refine WK.rs (g := []) (l' := [(.t 12, [bv r3_1])]) (by kernel_rfl) .nil (by kernel_rfl) ?_
    rcases br_inv h with ⟨b7_0, h⟩ | ⟨b7_0, h⟩
    · refine WK.ct (b := r3_1) (by kernel_rfl) b7_0 ?_
      refine WK.rs (g := []) (l' := [(.t 4, [iv 0])]) (by kernel_rfl) .nil (by kernel_rfl) ?_
      refine WK.weak (l := [(.t 4, [iv 0])]) (wk_of (by kernel_rfl)) ?_
      refine WK.ret (by kernel_rfl) ?_
      have h_ := some_inj h
      subst h_
      exact WKe.fin (e' := .ret) (by kernel_rfl) (fin_of (g := []) (by first | exact .inl rfl | exact .inr rfl) .nil (by kernel_rfl))
    · refine WK.ce (b := r3_1) (by kernel_rfl) b7_0 ?_
      refine WK.skip (by kernel_rfl) ?_
      refine WKe.code (y := (cR (cT (cR (cL (cR (cR (cR bd46)))))))) (ks' := [.seq (cR (cR (cR (cR bd46))))]) (by kernel_rfl) ?_
      refine WK.rs (g := []) (l' := [(.t 4, [iv (-1)])]) (by kernel_rfl) .nil (by kernel_rfl) ?_
      refine WK.weak (l := [(.t 4, [iv (-1)])]) (wk_of (by kernel_rfl)) ?_
      refine WK.ret (by kernel_rfl) ?_
      have h_ := some_inj h
      subst h_
      exact WKe.fin (e' := .ret) (by kernel_rfl) (fin_of (g := []) (by first | exact .inl rfl | exact .inr rfl) .nil (by kernel_rfl))
  · refine WK.ce (b := r2_1) (by kernel_rfl) b5_0 ?_
    refine WK.skip (by kernel_rfl) ?_
    refine WKe.code (y := (cR (cR (cR (cR bd46))))) (ks' := []) (by kernel_rfl) ?_
    refine WK.seq (by kernel_rfl) ?_
    refine WK.rs (g := []) (l' := [(.t 0, [iv x_v]), (.t 1, [iv y_v]), (.t 13, [bv r3_1])]) (by kernel_rfl) .nil (by kernel_rfl) ?_
    rcases br_inv h with ⟨b11_0, h⟩ | ⟨b11_0, h⟩
    · refine WK.ct (b := r3_1) (by kernel_rfl) b11_0 ?_
      refine WK.rs (g := []) (l' := [(.t 4, [iv 1])]) (by kernel_rfl) .nil (by kernel_rfl) ?_
      refine WK.weak (l := [(.t 4, [iv 1])]) (wk_of (by kernel_rfl)) ?_
      refine WK.ret (by kernel_rfl) ?_
      have h_ := some_inj h
      subst h_
      exact WKe.fin (e' := .ret) (by kernel_rfl) (fin_of (g := []) (by first | exact .inl rfl | exact .inr rfl) .nil (by kernel_rfl))
    · refine WK.ce (b := r3_1) (by kernel_rfl) b11_0 ?_
      refine WK.skip (by kernel_rfl) ?_
      refine WKe.code (y := (cR (cR (cR (cR (cR bd46)))))) (ks' := []) (by kernel_rfl) ?_
      refine WK.seq (by kernel_rfl) ?_
      refine WK.rs (g := []) (l' := [(.t 0, [iv x_v]), (.t 1, [iv y_v]), (.t 16, [bv (decide (x_v < y_v))])]) (by kernel_rfl) .nil (by kernel_rfl) ?_
      rcases br_inv h with ⟨b14_0, h⟩ | ⟨b14_0, h⟩
      · refine WK.ct (b := (decide (x_v < y_v))) (by kernel_rfl) b14_0 ?_
        refine WK.rs (g := []) (l' := [(.t 4, [iv (-1)])]) (by kernel_rfl) .nil (by kernel_rfl) ?_
        refine WK.weak (l := [(.t 4, [iv (-1)])]) (wk_of (by kernel_rfl)) ?_
        refine WK.ret (by kernel_rfl) ?_
        have h_ := some_inj h
        subst h_
        exact WKe.fin (e' := .ret) (by kernel_rfl) (fin_of (g := []) (by first | exact .inl rfl | exact .inr rfl) .nil (by kernel_rfl))
      · refine WK.ce (b := (decide (x_v < y_v))) (by kernel_rfl) b14_0 ?_
        refine WK.skip (by kernel_rfl) ?_
        refine WKe.code (y := (cR (cR (cR (cR (cR (cR bd46))))))) (ks' := []) (by kernel_rfl) ?_
        refine WK.seq (by kernel_rfl) ?_
        refine WK.rs (g := []) (l' := [(.t 19, [bv (decide (x_v > y_v))])]) (by kernel_rfl) .nil (by kernel_rfl) ?_
        rcases br_inv h with ⟨b17_0, h⟩ | ⟨b17_0, h⟩
        · refine WK.ct (b := (decide (x_v > y_v))) (by kernel_rfl) b17_0 ?_
          refine WK.rs (g := []) (l' := [(.t 4, [iv 1])]) (by kernel_rfl) .nil (by kernel_rfl) ?_
          refine WK.weak (l := [(.t 4, [iv 1])]) (wk_of (by kernel_rfl)) ?_
          refine WK.ret (by kernel_rfl) ?_
          have h_ := some_inj h
          subst h_
          exact WKe.fin (e' := .ret) (by kernel_rfl) (fin_of (g := []) (by first | exact .inl rfl | exact .inr rfl) .nil (by kernel_rfl))
        · refine WK.ce (b := (decide (x_v > y_v))) (by kernel_rfl) b17_0 ?_
          refine WK.skip (by kernel_rfl) ?_
          refine WKe.code (y := (cR (cR (cR (cR (cR (cR (cR bd46)))))))) (ks' := []) (by kernel_rfl) ?_
          refine WK.rs (g := []) (l' := [(.t 4, [iv 0])]) (by kernel_rfl) .nil (by kernel_rfl) ?_
          refine WK.weak (l := [(.t 4, [iv 0])]) (wk_of (by kernel_rfl)) ?_
          refine WK.ret (by kernel_rfl) ?_
          have h_ := some_inj h
          subst h_
          exact WKe.fin (e' := .ret) (by kernel_rfl) (fin_of (g := []) (by first | exact .inl rfl | exact .inr rfl) .nil (by kernel_rfl))
/-- (diwan/seat.seats).find$1 -/
noncomputable def bd45 : Code := (Try.f45.body).getD .skip
def seat_seats_find_1.O : Nat → Nat := fun t => bif ([2, 4] : List Nat).any (Nat.beq t) then 1 else 0
noncomputable def seat_seats_find_1 (s : TSeat) (session : Int) : Option Int :=
  bd (cmp_Compare_int s.Session session) fun r2_1 =>
  some r2_1
theorem seat_seats_find_1.meets (s : TSeat) (session : Int) (z0 : Int) (h : seat_seats_find_1 s session = some z0) : Meets Try.prog ⟨45, [.data (TSeat.ag s), iv session], []⟩ ⟨iv z0, []⟩ := by
  refine meets_of (O := seat_seats_find_1.O) hmix (fn := Try.f45) (code := bd45) (by kernel_rfl) ?_
  refine WK.weak (l := [(.t 0, [.data (TSeat.ag s)]), (.t 1, [iv session])]) (wk_of (by kernel_rfl)) ?_
  unfold seat_seats_find_1 at h
  refine WK.rs (g := []) (l' := [(.t 1, [iv session]), (.t 2, [.ptr 2 0]), (.o 2, (TSeat.ob s))]) (by kernel_rfl) .nil (by kernel_rfl) ?_
  obtain ⟨r2_1, h2_2, h⟩ := bd_inv h
  refine WK.rs (g := [.a ⟨iv r2_1, []⟩]) (l' := [(.t 4, [iv r2_1])]) (by kernel_rfl) (.cons (Asks.of (C := Meets Try.prog) (cmp_Compare_int.meets s.Session session _ h2_2)) .nil) (by kernel_rfl) ?_
  refine WK.weak (l := [(.t 4, [iv r2_1])]) (wk_of (by kernel_rfl)) ?_
  refine WK.ret (by kernel_rfl) ?_
  have h_ := some_inj h
  subst h_
  exact WKe.fin (e' := .ret) (by kernel_rfl) (fin_of (g := []) (by first | exact .inl rfl | exact .inr rfl) .nil (by kernel_rfl))
/-- slices.BinarySearchFunc[diwan/seat.seats,diwan/api.Seat,int] -/
noncomputable def bd44 : Code := (Try.f44.body).getD .skip
def slices_BinarySearchFunc_api_Seat_int.O : Nat → Nat := fun t => bif ([6, 7, 8, 9, 10, 11] : List Nat).any (Nat.beq t) then 1 else 0
noncomputable def slices_BinarySearchFunc_api_Seat_int.lp4 (fu : Nat) (l4_0 : List TSeat) (l4_1 : Int) (l4_2 : Int) : Nat → Int → Int → Option Int
  | 0, _, _ => none
  | n_ + 1, l4_3, l4_4 =>
    br (decide (l4_3 < l4_4))
      (ix l4_0 (w64 (vshr .u64 (IntKind.u64.wrap (w64 (l4_3 + l4_4))) 1)) fun x8_1 =>
      bd (seat_seats_find_1 x8_1 l4_1) fun r8_4 =>
      br (decide (r8_4 < 0))
        (slices_BinarySearchFunc_api_Seat_int.lp4 fu l4_0 l4_1 l4_2 n_ (w64 ((w64 (vshr .u64 (IntKind.u64.wrap (w64 (l4_3 + l4_4))) 1)) + 1)) l4_4)
        (slices_BinarySearchFunc_api_Seat_int.lp4 fu l4_0 l4_1 l4_2 n_ l4_3 (w64 (vshr .u64 (IntKind.u64.wrap (w64 (l4_3 + l4_4))) 1))))
      (some l4_3)
noncomputable def slices_BinarySearchFunc_api_Seat_int.lp4_post (l4_0 : List TSeat) (l4_1 : Int) (l4_2 : Int) (r_ : Int) : Wy → St → Prop := fun e τ => match r_ with
  | y0 => e = .exit 0 ∧ τ = ofL [(.t 0, [.data (.slc false none 3 (List.map TSeat.en l4_0))]), (.t 1, [iv l4_1]), (.t 2, [.fn (.func 45) [] []]), (.t 8, [iv l4_2]), (.t 9, [iv y0])]
theorem slices_BinarySearchFunc_api_Seat_int.lp4_ok (fu : Nat) (l4_0 : List TSeat) (l4_1 : Int) (l4_2 : Int) : ∀ (n_ : Nat) (l4_3 : Int) (l4_4 : Int) (r_ : Int), slices_BinarySearchFunc_api_Seat_int.lp4 fu l4_0 l4_1 l4_2 n_ l4_3 l4_4 = some r_ → WK Try.prog slices_BinarySearchFunc_api_Seat_int.O (Ck Try.prog) (cB (cL (cR (cR (cR bd44))))) [] (ofL [(.t 0, [.data (.slc false none 3 (List.map TSeat.en l4_0))]), (.t 1, [iv l4_1]), (.t 2, [.fn (.func 45) [] []]), (.t 8, [iv l4_2]), (.t 9, [iv l4_3]), (.t 10, [iv l4_4])]) (slices_BinarySearchFunc_api_Seat_int.lp4_post l4_0 l4_1 l4_2 r_) := by
  intro n_
  induction n_ with
  | zero => intro l4_3 l4_4 r_ h; exact no_none h
  | succ n_ ih =>
    intro l4_3 l4_4 r_ h
    refine WK.loop (by kernel_rfl) ?_
    refine WK.seq (by kernel_rfl) ?_
    refine WK.rs (g := []) (l' := [(.t 0, [.data (.slc false none 3 (List.map TSeat.en l4_0))]), (.t 1, [iv l4_1]), (.t 2, [.fn (.func 45) [] []]), (.t 8, [iv l4_2]), (.t 9, [iv l4_3]), (.t 10, [iv l4_4]), (.t 17, [bv (decide (l4_3 < l4_4))])]) (by kernel_rfl) .nil (by kernel_rfl) ?_
    rcases br_inv h with ⟨b6_0, h⟩ | ⟨b6_0, h⟩
    · refine WK.ct (b := (decide (l4_3 < l4_4))) (by kernel_rfl) b6_0 ?_
      refine WK.skip (by kernel_rfl) ?_
      refine WKe.code (y := (cR (cB (cB (cL (cR (cR (cR bd44)))))))) (ks' := [.lp (cB (cL (cR (cR (cR bd44)))))]) (by kernel_rfl) ?_
      refine WK.block (n := 1) (by kernel_rfl) ?_
      refine WK.rs (g := []) (l' := [(.t 0, [.data (.slc false none 3 (List.map TSeat.en l4_0))]), (.t 1, [iv l4_1]), (.t 2, [.fn (.func 45) [] []]), (.t 8, [iv l4_2]), (.t 9, [iv l4_3]), (.t 10, [iv l4_4]), (.t 11, [iv (w64 (vshr .u64 (IntKind.u64.wrap (w64 (l4_3 + l4_4))) 1))])]) (by kernel_rfl) (.cons (Eq.refl true) .nil) (by kernel_rfl) ?_
      obtain ⟨x8_1, a8_2, e8_3, h⟩ := ix_inv h
      obtain ⟨r8_4, h8_5, h⟩ := bd_inv h
      refine WK.rs (g := [.c (TSeat.en x8_1), .a ⟨iv r8_4, []⟩]) (l' := [(.t 0, [.data (.slc false none 3 (List.map TSeat.en l4_0))]), (.t 1, [iv l4_1]), (.t 2, [.fn (.func 45) [] []]), (.t 8, [iv l4_2]), (.t 9, [iv l4_3]), (.t 10, [iv l4_4]), (.t 11, [iv (w64 (vshr .u64 (IntKind.u64.wrap (w64 (l4_3 + l4_4))) 1))]), (.t 31, [bv (decide (r8_4 < 0))])]) (by kernel_rfl) (.cons (c_ix (e := TSeat.en) a8_2 e8_3) (.cons (c_el (e := TSeat.en) e8_3) (.cons (Asks.of (C := Meets Try.prog) (seat_seats_find_1.meets x8_1 l4_1 _ h8_5)) .nil))) (by kernel_rfl) ?_
      rcases br_inv h with ⟨b9_0, h⟩ | ⟨b9_0, h⟩
      · refine WK.ct (b := (decide (r8_4 < 0))) (by kernel_rfl) b9_0 ?_
        refine WK.rc (g := []) (l' := [(.t 0, [.data (.slc false none 3 (List.map TSeat.en l4_0))]), (.t 1, [iv l4_1]), (.t 2, [.fn (.func 45) [] []]), (.t 8, [iv l4_2]), (.t 9, [iv (w64 ((w64 (vshr .u64 (IntKind.u64.wrap (w64 (l4_3 + l4_4))) 1)) + 1))]), (.t 10, [iv l4_4])]) .nil (by kernel_rfl) (y := (cB (cL (cR (cR (cR bd44)))))) (ks' := []) (by kernel_rfl) ?_
        exact WK.weak (l := [(.t 0, [.data (.slc false none 3 (List.map TSeat.en l4_0))]), (.t 1, [iv l4_1]), (.t 2, [.fn (.func 45) [] []]), (.t 8, [iv l4_2]), (.t 9, [iv (w64 ((w64 (vshr .u64 (IntKind.u64.wrap (w64 (l4_3 + l4_4))) 1)) + 1))]), (.t 10, [iv l4_4])]) (wk_of (by kernel_rfl)) (ih (w64 ((w64 (vshr .u64 (IntKind.u64.wrap (w64 (l4_3 + l4_4))) 1)) + 1)) l4_4 _ h)
      · refine WK.ce (b := (decide (r8_4 < 0))) (by kernel_rfl) b9_0 ?_
        refine WK.rc (g := []) (l' := [(.t 0, [.data (.slc false none 3 (List.map TSeat.en l4_0))]), (.t 1, [iv l4_1]), (.t 2, [.fn (.func 45) [] []]), (.t 8, [iv l4_2]), (.t 9, [iv l4_3]), (.t 10, [iv (w64 (vshr .u64 (IntKind.u64.wrap (w64 (l4_3 + l4_4))) 1))])]) .nil (by kernel_rfl) (y := (cB (cL (cR (cR (cR bd44)))))) (ks' := []) (by kernel_rfl) ?_
        exact WK.weak (l := [(.t 0, [.data (.slc false none 3 (List.map TSeat.en l4_0))]), (.t 1, [iv l4_1]), (.t 2, [.fn (.func 45) [] []]), (.t 8, [iv l4_2]), (.t 9, [iv l4_3]), (.t 10, [iv (w64 (vshr .u64 (IntKind.u64.wrap (w64 (l4_3 + l4_4))) 1))])]) (wk_of (by kernel_rfl)) (ih l4_3 (w64 (vshr .u64 (IntKind.u64.wrap (w64 (l4_3 + l4_4))) 1)) _ h)
    · refine WK.ce (b := (decide (l4_3 < l4_4))) (by kernel_rfl) b6_0 ?_
      refine WK.weak (l := [(.t 0, [.data (.slc false none 3 (List.map TSeat.en l4_0))]), (.t 1, [iv l4_1]), (.t 2, [.fn (.func 45) [] []]), (.t 8, [iv l4_2]), (.t 9, [iv l4_3])]) (wk_of (by kernel_rfl)) ?_
      refine WK.exit (n := 0) (by kernel_rfl) ?_
      cases some_inj h
      exact WKe.fin (e' := .exit 0) (by kernel_rfl) ⟨rfl, rfl⟩
noncomputable def slices_BinarySearchFunc_api_Seat_int (fu : Nat) (x_v : List TSeat) (target : Int) : Option (Int × Bool) :=
  bd (slices_BinarySearchFunc_api_Seat_int.lp4 fu x_v target (x_v.length : Int) fu 0 (x_v.length : Int)) fun y12_0 =>
  br (decide (y12_0 < (x_v.length : Int)))
    (ix x_v y12_0 fun x13_2 =>
    bd (seat_seats_find_1 x13_2 target) fun r13_5 =>
    some (y12_0, (r13_5 == 0)))
    (some (y12_0, false))
theorem slices_BinarySearchFunc_api_Seat_int.meets (fu : Nat) (x_v : List TSeat) (target : Int) (z0 : Int) (z1 : Bool) (h : slices_BinarySearchFunc_api_Seat_int fu x_v target = some (z0, z1)) : Meets Try.prog ⟨44, [.data (.slc false none 3 (List.map TSeat.en x_v)), iv target, .fn (.func 45) [] []], []⟩ ⟨.tup [iv z0, bv z1], []⟩ := by
  refine meets_of (O := slices_BinarySearchFunc_api_Seat_int.O) hmix (fn := Try.f44) (code := bd44) (by kernel_rfl) ?_
  refine WK.weak (l := [(.t 0, [.data (.slc false none 3 (List.map TSeat.en x_v))]), (.t 1, [iv target]), (.t 2, [.fn (.func 45) [] []])]) (wk_of (by kernel_rfl)) ?_
  unfold slices_BinarySearchFunc_api_Seat_int at h
  refine WK.rs (g := []) (l' := [(.t 0, [.data (.slc false none 3 (List.map TSeat.en x_v))]), (.t 1, [iv target]), (.t 2, [.fn (.func 45) [] []])]) (by kernel_rfl) .nil (by kernel_rfl) ?_
  refine WK.rs (g := [.s (.t 13) [iv (x_v.length : Int)]]) (l' := [(.t 0, [.data (.slc false none 3 (List.map TSeat.en x_v))]), (.t 1, [iv target]), (.t 2, [.fn (.func 45) [] []]), (.t 8, [iv (x_v.length : Int)])]) (by kernel_rfl) (.cons (c_len (e := TSeat.en) (l := x_v)) .nil) (by kernel_rfl) ?_
  refine WK.rs (g := []) (l' := [(.t 0, [.data (.slc false none 3 (List.map TSeat.en x_v))]), (.t 1, [iv target]), (.t 2, [.fn (.func 45) [] []]), (.t 8, [iv (x_v.length : Int)]), (.t 9, [iv 0]), (.t 10, [iv (x_v.length : Int)])]) (by kernel_rfl) .nil (by kernel_rfl) ?_
  refine WK.seq (by kernel_rfl) ?_
  refine WK.block (n := 0) (by kernel_rfl) ?_
  obtain ⟨o12, ho12, h⟩ := bd_inv h
  refine WK.weak (l := [(.t 0, [.data (.slc false none 3 (List.map TSeat.en x_v))]), (.t 1, [iv target]), (.t 2, [.fn (.func 45) [] []]), (.t 8, [iv (x_v.length : Int)]), (.t 9, [iv 0]), (.t 10, [iv (x_v.length : Int)])]) (wk_of (by kernel_rfl)) ?_
  refine WK.use (slices_BinarySearchFunc_api_Seat_int.lp4_ok fu x_v target (x_v.length : Int) _ 0 (x_v.length : Int) _ ho12) ?_
  intro e_ τ_ hp_
  obtain ⟨y12_0, rfl⟩ : ∃ y, y = o12 := ⟨_, rfl⟩
  obtain ⟨rfl, rfl⟩ := hp_
  refine WKe.code (y := (cR (cR (cR (cR bd44))))) (ks' := []) (by kernel_rfl) ?_
  rcases br_inv h with ⟨b13_1, h⟩ | ⟨b13_1, h⟩
  · obtain ⟨x13_2, a13_3, e13_4, h⟩ := ix_inv h
    obtain ⟨r13_5, h13_6, h⟩ := bd_inv h
    refine WK.rs (g := [.b true, .b true, .b true, .b true, .c (TSeat.en x13_2), .b true, .b true, .b true, .a ⟨iv r13_5, []⟩, .b true, .b true]) (l' := [(.t 6, [iv y12_0]), (.t 7, [bv (r13_5 == 0)])]) (by kernel_rfl) (.cons b13_1 (.cons b13_1 (.cons b13_1 (.cons b13_1 (.cons (c_ix (e := TSeat.en) a13_3 e13_4) (.cons (c_el (e := TSeat.en) e13_4) (.cons b13_1 (.cons b13_1 (.cons b13_1 (.cons (Asks.of (C := Meets Try.prog) (seat_seats_find_1.meets x13_2 target _ h13_6)) (.cons b13_1 (.cons b13_1 .nil)))))))))))) (by kernel_rfl) ?_
    refine WK.weak (l := [(.t 6, [iv y12_0]), (.t 7, [bv (r13_5 == 0)])]) (wk_of (by kernel_rfl)) ?_
    refine WK.ret (by kernel_rfl) ?_
    have h_0 := some_inj h
    obtain ⟨g_1, h_1⟩ := Prod.mk.inj h_0
    subst g_1
    subst h_1
    exact WKe.fin (e' := .ret) (by kernel_rfl) (fin_of (g := []) (by first | exact .inl rfl | exact .inr rfl) .nil (by kernel_rfl))
  · refine WK.rs (g := [.b false, .b false, .b false, .b false, .b false, .b false, .b false, .b false, .b false]) (l' := [(.t 6, [iv y12_0]), (.t 7, [bv false])]) (by kernel_rfl) (.cons b13_1 (.cons b13_1 (.cons b13_1 (.cons b13_1 (.cons b13_1 (.cons b13_1 (.cons b13_1 (.cons b13_1 (.cons b13_1 .nil))))))))) (by kernel_rfl) ?_
    refine WK.weak (l := [(.t 6, [iv y12_0]), (.t 7, [bv false])]) (wk_of (by kernel_rfl)) ?_
    refine WK.ret (by kernel_rfl) ?_
    have h_0 := some_inj h
    obtain ⟨g_1, h_1⟩ := Prod.mk.inj h_0
    subst g_1
    subst h_1
    exact WKe.fin (e' := .ret) (by kernel_rfl) (fin_of (g := []) (by first | exact .inl rfl | exact .inr rfl) .nil (by kernel_rfl))
/-- (diwan/seat.seats).find -/
noncomputable def bd34 : Code := (Try.f34.body).getD .skip
def seat_seats_find.O : Nat → Nat := fun t => bif ([4, 5] : List Nat).any (Nat.beq t) then 1 else 0
noncomputable def seat_seats_find (fu : Nat) (l : List TSeat) (session : Int) : Option (Int × Bool) :=
  bd (slices_BinarySearchFunc_api_Seat_int fu l session) fun (r2_1, r2_2) =>
  some (r2_1, r2_2)
theorem seat_seats_find.meets (fu : Nat) (l : List TSeat) (session : Int) (z0 : Int) (z1 : Bool) (h : seat_seats_find fu l session = some (z0, z1)) : Meets Try.prog ⟨34, [.data (.slc false none 3 (List.map TSeat.en l)), iv session], []⟩ ⟨.tup [iv z0, bv z1], []⟩ := by
  refine meets_of (O := seat_seats_find.O) hmix (fn := Try.f34) (code := bd34) (by kernel_rfl) ?_
  refine WK.weak (l := [(.t 0, [.data (.slc false none 3 (List.map TSeat.en l))]), (.t 1, [iv session])]) (wk_of (by kernel_rfl)) ?_
  unfold seat_seats_find at h
  refine WK.rs (g := []) (l' := [(.t 0, [.data (.slc false none 3 (List.map TSeat.en l))]), (.t 1, [iv session])]) (by kernel_rfl) .nil (by kernel_rfl) ?_
  obtain ⟨⟨r2_1, r2_2⟩, h2_3, h⟩ := bd_inv h
  refine WK.rs (g := [.a ⟨.tup [iv r2_1, bv r2_2], []⟩]) (l' := [(.t 4, [iv r2_1]), (.t 5, [bv r2_2])]) (by kernel_rfl) (.cons (Asks.of (C := Meets Try.prog) (slices_BinarySearchFunc_api_Seat_int.meets fu l session _ _ h2_3)) .nil) (by kernel_rfl) ?_
  refine WK.weak (l := [(.t 4, [iv r2_1]), (.t 5, [bv r2_2])]) (wk_of (by kernel_rfl)) ?_
  refine WK.ret (by kernel_rfl) ?_
  have h_0 := some_inj h
  obtain ⟨g_1, h_1⟩ := Prod.mk.inj h_0
  subst g_1
  subst h_1
  exact WKe.fin (e' := .ret) (by kernel_rfl) (fin_of (g := []) (by first | exact .inl rfl | exact .inr rfl) .nil (by kernel_rfl))
/-- slices.Clone[[]diwan/api.Seat,diwan/api.Seat] -/
noncomputable def bd35 : Code := (Try.f35.body).getD .skip
def slices_Clone_api_Seat.O : Nat → Nat := fun t => bif ([2, 5] : List Nat).any (Nat.beq t) then 1 else 0
noncomputable def slices_Clone_api_Seat (s : List TSeat) : Option (List TSeat) :=
  gd (decide (([] : List TSeat).length + s.length ≤ 4294967296)) <|
  some s
theorem slices_Clone_api_Seat.meets1 (s : List TSeat) (z0 : List TSeat) (h : slices_Clone_api_Seat s = some z0) : Meets Try.prog ⟨35, [.data (.slc false (some false) 3 (List.map TSeat.en s))], []⟩ ⟨.data (.slc true none 3 (List.map TSeat.en z0)), []⟩ := by
  refine meets_of (O := slices_Clone_api_Seat.O) hmix (fn := Try.f35) (code := bd35) (by kernel_rfl) ?_
  refine WK.weak (l := [(.t 0, [.data (.slc false (some false) 3 (List.map TSeat.en s))])]) (wk_of (by kernel_rfl)) ?_
  unfold slices_Clone_api_Seat at h
  refine WK.rs (g := []) (l' := [(.t 0, [.data (.slc false (some false) 3 (List.map TSeat.en s))])]) (by kernel_rfl) .nil (by kernel_rfl) ?_
  refine WK.seq (by kernel_rfl) ?_
  refine WK.rs (g := []) (l' := [(.t 0, [.data (.slc false (some false) 3 (List.map TSeat.en s))]), (.t 4, [bv false])]) (by kernel_rfl) .nil (by kernel_rfl) ?_
  refine WK.ce (b := false) (by kernel_rfl) rfl ?_
  refine WK.skip (by kernel_rfl) ?_
  refine WKe.code (y := (cR (cR bd35))) (ks' := []) (by kernel_rfl) ?_
  obtain ⟨c5_1, h⟩ := gd_inv h
  refine WK.rs (g := []) (l' := [(.t 2, [.data (.slc true none 3 (List.map TSeat.en s))])]) (by kernel_rfl) (.cons (c_al (e := TSeat.en) (f := TSeat.en) c5_1) .nil) (by kernel_rfl) ?_
  refine WK.weak (l := [(.t 2, [.data (.slc true none 3 (List.map TSeat.en s))])]) (wk_of (by kernel_rfl)) ?_
  refine WK.ret (by kernel_rfl) ?_
  have h_ := some_inj h
  subst h_
  exact WKe.fin (e' := .ret) (by kernel_rfl) (fin_of (g := []) (by first | exact .inl rfl | exact .inr rfl) .nil (by kernel_rfl))
noncomputable def slices_Clone_api_Seat_nil : Option (List TSeat) :=
  some []
theorem slices_Clone_api_Seat.meets0 (z0 : List TSeat) (h : slices_Clone_api_Seat_nil = some z0) : Meets Try.prog ⟨35, [.data (.slc false (some true) 3 (List.map TSeat.en []))], []⟩ ⟨.data (.slc true none 3 (List.map TSeat.en z0)), []⟩ := by
  refine meets_of (O := slices_Clone_api_Seat.O) hmix (fn := Try.f35) (code := bd35) (by kernel_rfl) ?_
  refine WK.weak (l := [(.t 0, [.data (.slc false (some true) 3 (List.map TSeat.en []))])]) (wk_of (by kernel_rfl)) ?_
  unfold slices_Clone_api_Seat_nil at h
  refine WK.rs (g := []) (l' := [(.t 0, [.data (.slc false (some true) 3 (List.map TSeat.en []))])]) (by kernel_rfl) .nil (by kernel_rfl) ?_
  refine WK.seq (by kernel_rfl) ?_
  refine WK.rs (g := []) (l' := [(.t 0, [.data (.slc false (some true) 3 (List.map TSeat.en []))]), (.t 4, [bv true])]) (by kernel_rfl) .nil (by kernel_rfl) ?_
  refine WK.ct (b := true) (by kernel_rfl) rfl ?_
  refine WK.rs (g := []) (l' := [(.t 2, [.data (.slc true (some true) 3 (List.map TSeat.en []))])]) (by kernel_rfl) .nil (by kernel_rfl) ?_
  refine WK.weak (l := [(.t 2, [.data (.slc true none 3 (List.map TSeat.en []))])]) (wk_of (by kernel_rfl)) ?_
  refine WK.ret (by kernel_rfl) ?_
  have h_ := some_inj h
  subst h_
  exact WKe.fin (e' := .ret) (by kernel_rfl) (fin_of (g := []) (by first | exact .inl rfl | exact .inr rfl) .nil (by kernel_rfl))
theorem slices_Clone_api_Seat.nil_eq : slices_Clone_api_Seat [] = slices_Clone_api_Seat_nil := by kernel_rfl
theorem slices_Clone_api_Seat.meets (s : List TSeat) (z0 : List TSeat) (h : slices_Clone_api_Seat s = some z0) : Meets Try.prog ⟨35, [.data (.slc false none 3 (List.map TSeat.en s))], []⟩ ⟨.data (.slc true none 3 (List.map TSeat.en z0)), []⟩ := by
  refine asks_ok (C := Meets Try.prog) (fun _ _ h => h) (Asks.nil (args1 := []) (args2 := []) (sz := 3) (es := List.map TSeat.en s) (fun e => .of ?_) (.of (slices_Clone_api_Seat.meets1 s z0 h)))
  obtain rfl : s = [] := List.map_eq_nil_iff.1 e
  exact slices_Clone_api_Seat.meets0 z0 (slices_Clone_api_Seat.nil_eq  ▸ h)
/-- slices.Insert[[]diwan/api.Seat,diwan/api.Seat] -/
noncomputable def bd36 : Code := (Try.f36.body).getD .skip
def slices_Insert_api_Seat_part.O : Nat → Nat := fun t => bif ([0, 6, 7, 8, 9, 17, 23, 25, 53, 60] : List Nat).any (Nat.beq t) then 1 else bif ([12] : List Nat).any (Nat.beq t) then 5 else 0
noncomputable def slices_Insert_api_Seat_part (s : List TSeat) (i : Int) (v : List TSeat) : Option (List TSeat) :=
  gd (decide ((0 : Int) ≤ i ∧ i ≤ (s.length : Int))) <|
  br ((v.length : Int) == 0)
    (some s)
    (br (i == (s.length : Int))
      (gd (decide (s.length + v.length ≤ 4294967296)) <|
      some (s ++ v))
      (none))
theorem slices_Insert_api_Seat_part.meets (s : List TSeat) (i : Int) (v : List TSeat) (z0 : List TSeat) (h : slices_Insert_api_Seat_part s i v = some z0) : Meets Try.prog ⟨36, [.data (.slc true none 3 (List.map TSeat.en s)), iv i, .data (.slc false none 3 (List.map TSeat.en v))], []⟩ ⟨.data (.slc true none 3 (List.map TSeat.en z0)), []⟩ := by
  refine meets_of (O := slices_Insert_api_Seat_part.O) hmix (fn := Try.f36) (code := bd36) (by kernel_rfl) ?_
  refine WK.weak (l := [(.t 0, [.data (.slc true none 3 (List.map TSeat.en s))]), (.t 1, [iv i]), (.t 2, [.data (.slc false none 3 (List.map TSeat.en v))])]) (wk_of (by kernel_rfl)) ?_
  unfold slices_Insert_api_Seat_part at h
  refine WK.rs (g := []) (l' := [(.t 0, [.data (.slc true none 3 (List.map TSeat.en s))]), (.t 1, [iv i]), (.t 2, [.data (.slc false none 3 (List.map TSeat.en v))])]) (by kernel_rfl) .nil (by kernel_rfl) ?_
  obtain ⟨c2_1, h⟩ := gd_inv h
  refine WK.rs (g := []) (l' := [(.t 0, [.data (.slc true none 3 (List.map TSeat.en s))]), (.t 1, [iv i]), (.t 2, [.data (.slc false none 3 (List.map TSeat.en v))])]) (by kernel_rfl) (.cons (c_cbL (e := TSeat.en) c2_1) .nil) (by kernel_rfl) ?_
  refine WK.rs (g := [.s (.t 14) [iv (v.length : Int)]]) (l' := [(.t 0, [.data (.slc true none 3 (List.map TSeat.en s))]), (.t 1, [iv i]), (.t 2, [.data (.slc false none 3 (List.map TSeat.en v))]), (.t 7, [iv (v.length : Int)])]) (by kernel_rfl) (.cons (c_len (e := TSeat.en) (l := v)) .nil) (by kernel_rfl) ?_
  refine WK.seq (by kernel_rfl) ?_
  refine WK.rs (g := []) (l' := [(.t 0, [.data (.slc true none 3 (List.map TSeat.en s))]), (.t 1, [iv i]), (.t 2, [.data (.slc false none 3 (List.map TSeat.en v))]), (.t 7, [iv (v.length : Int)]), (.t 16, [bv ((v.length : Int) == 0)])]) (by kernel_rfl) .nil (by kernel_rfl) ?_
  rcases br_inv h with ⟨b5_0, h⟩ | ⟨b5_0, h⟩
  · refine WK.ct (b := ((v.length : Int) == 0)) (by kernel_rfl) b5_0 ?_
    refine WK.rs (g := []) (l' := [(.t 6, [.data (.slc true none 3 (List.map TSeat.en s))])]) (by kernel_rfl) .nil (by kernel_rfl) ?_
    refine WK.weak (l := [(.t 6, [.data (.slc true none 3 (List.map TSeat.en s))])]) (wk_of (by kernel_rfl)) ?_
    refine WK.ret (by kernel_rfl) ?_
    have h_ := some_inj h
    subst h_
    exact WKe.fin (e' := .ret) (by kernel_rfl) (fin_of (g := []) (by first | exact .inl rfl | exact .inr rfl) .nil (by kernel_rfl))
  · refine WK.ce (b := ((v.length : Int) == 0)) (by kernel_rfl) b5_0 ?_
    refine WK.skip (by kernel_rfl) ?_
    refine WKe.code (y := (cR (cR (cR (cR bd36))))) (ks' := []) (by kernel_rfl) ?_
    refine WK.rs (g := [.s (.t 19) [iv (s.length : Int)]]) (l' := [(.t 0, [.data (.slc true none 3 (List.map TSeat.en s))]), (.t 1, [iv i]), (.t 2, [.data (.slc false none 3 (List.map TSeat.en v))]), (.t 7, [iv (v.length : Int)]), (.t 8, [iv (s.length : Int)])]) (by kernel_rfl) (.cons (c_len (e := TSeat.en) (l := s)) .nil) (by kernel_rfl) ?_
    refine WK.seq (by kernel_rfl) ?_
    refine WK.rs (g := []) (l' := [(.t 0, [.data (.slc true none 3 (List.map TSeat.en s))]), (.t 1, [iv i]), (.t 2, [.data (.slc false none 3 (List.map TSeat.en v))]), (.t 7, [iv (v.length : Int)]), (.t 8, [iv (s.length : Int)]), (.t 22, [bv (i == (s.length : Int))])]) (by kernel_rfl) .nil (by kernel_rfl) ?_
    rcases br_inv h with ⟨b9_0, h⟩ | ⟨b9_0, h⟩
    · refine WK.ct (b := (i == (s.length : Int))) (by kernel_rfl) b9_0 ?_
      obtain ⟨c10_1, h⟩ := gd_inv h
      refine WK.rs (g := [.s (.t 25) [.data (.slc true none 3 (List.map TSeat.en (s ++ v)))]]) (l' := [(.t 6, [.data (.slc true none 3 (List.map TSeat.en (s ++ v)))])]) (by kernel_rfl) (.cons (c_al (e := TSeat.en) (f := TSeat.en) c10_1) (.cons (congrArg (fun d : DV => [AV.data d]) (c_app (e := TSeat.en) (s := 3) (l := s) (m := v))) .nil)) (by kernel_rfl) ?_
      refine WK.weak (l := [(.t 6, [.data (.slc true none 3 (List.map TSeat.en (s ++ v)))])]) (wk_of (by kernel_rfl)) ?_
      refine WK.ret (by kernel_rfl) ?_
      have h_ := some_inj h
      subst h_
      exact WKe.fin (e' := .ret) (by kernel_rfl) (fin_of (g := []) (by first | exact .inl rfl | exact .inr rfl) .nil (by kernel_rfl))
    · refine WK.ce (b := (i == (s.length : Int))) (by kernel_rfl) b9_0 ?_
      refine WK.skip (by kernel_rfl) ?_
      refine WKe.code (y := (cR (cR (cR (cR (cR (cR bd36))))))) (ks' := []) (by kernel_rfl) ?_
      refine WK.seq (by kernel_rfl) ?_
      exact no_none h
/-- slices.Insert[[]diwan/api.Seat,diwan/api.Seat], as a whole. -/
noncomputable def slices_Insert_api_Seat (s : List TSeat) (i : Int) (v : List TSeat) : Option (List TSeat) :=
  br (decide (0 ≤ i ∧ i < (s.length : Int) ∧ 0 < v.length ∧ s.length + v.length ≤ 4294967296))
    (some (List.take i.toNat s ++ v ++ List.drop i.toNat s))
    (slices_Insert_api_Seat_part s i v)
theorem slices_Insert_api_Seat.meets (s : List TSeat) (i : Int) (v : List TSeat) (z0 : List TSeat) (h : slices_Insert_api_Seat s i v = some z0) : Meets Try.prog ⟨36, [.data (.slc true none 3 (List.map TSeat.en s)), iv i, .data (.slc false none 3 (List.map TSeat.en v))], []⟩ ⟨.data (.slc true none 3 (List.map TSeat.en z0)), []⟩ := by
  rcases br_inv h with ⟨hb, h⟩ | ⟨hb, h⟩
  · cases some_inj h
    exact ins_meetsT (e := TSeat.en) Try.func36 (by kernel_rfl) (by kernel_rfl) (by kernel_rfl) (by kernel_rfl) Ins36.walk hb
  · exact slices_Insert_api_Seat_part.meets s i v _ h
/-- diwan/seat.Turn -/
noncomputable def bd28 : Code := (Try.f28.body).getD .skip
def seat_Turn.O : Nat → Nat := fun t => bif ([8, 9, 10, 11, 12, 13, 24, 36, 42, 43, 49, 54, 55] : List Nat).any (Nat.beq t) then 1 else bif ([56] : List Nat).any (Nat.beq t) then 4 else 0
noncomputable def seat_Turn (fu : Nat) (l : List TSeat) (session : Int) (seq : Int) (pos : Int) : Option (List TSeat × Bool) :=
  bd (seat_seats_find fu l session) fun (r3_1, r3_2) =>
  bd (slices_Clone_api_Seat l) fun r4_1 =>
  br r3_2
    (ix l r3_1 fun x5_2 =>
    br (decide (x5_2.Seq ≥ seq))
      (some (r4_1, false))
      (br r3_2
        (ix r4_1 r3_1 fun x10_1 =>
        ix (r4_1.set r3_1.toNat (TSeat.mk x10_1.Session seq x10_1.Pos)) r3_1 fun x10_4 =>
        some (((r4_1.set r3_1.toNat (TSeat.mk x10_1.Session seq x10_1.Pos)).set r3_1.toNat (TSeat.mk x10_4.Session x10_4.Seq pos)), true))
        (bd (slices_Insert_api_Seat r4_1 r3_1 ([(TSeat.mk session seq pos)] : List TSeat)) fun r12_1 =>
        some (r12_1, true))))
    (br r3_2
      (ix r4_1 r3_1 fun x15_1 =>
      ix (r4_1.set r3_1.toNat (TSeat.mk x15_1.Session seq x15_1.Pos)) r3_1 fun x15_4 =>
      some (((r4_1.set r3_1.toNat (TSeat.mk x15_1.Session seq x15_1.Pos)).set r3_1.toNat (TSeat.mk x15_4.Session x15_4.Seq pos)), true))
      (bd (slices_Insert_api_Seat r4_1 r3_1 ([(TSeat.mk session seq pos)] : List TSeat)) fun r17_1 =>
      some (r17_1, true)))
theorem seat_Turn.meets (fu : Nat) (l : List TSeat) (session : Int) (seq : Int) (pos : Int) (z0 : List TSeat) (z1 : Bool) (h : seat_Turn fu l session seq pos = some (z0, z1)) : Meets Try.prog ⟨28, [.data (.slc false none 3 (List.map TSeat.en l)), iv session, iv seq, iv pos], []⟩ ⟨.tup [.data (.slc false none 3 (List.map TSeat.en z0)), bv z1], []⟩ := by
  refine meets_of (O := seat_Turn.O) hmix (fn := Try.f28) (code := bd28) (by kernel_rfl) ?_
  refine WK.weak (l := [(.t 0, [.data (.slc false none 3 (List.map TSeat.en l))]), (.t 1, [iv session]), (.t 2, [iv seq]), (.t 3, [iv pos])]) (wk_of (by kernel_rfl)) ?_
  unfold seat_Turn at h
  refine WK.rs (g := []) (l' := [(.t 0, [.data (.slc false none 3 (List.map TSeat.en l))]), (.t 1, [iv session]), (.t 2, [iv seq]), (.t 3, [iv pos])]) (by kernel_rfl) .nil (by kernel_rfl) ?_
  refine WK.rs (g := []) (l' := [(.t 0, [.data (.slc false none 3 (List.map TSeat.en l))]), (.t 1, [iv session]), (.t 2, [iv seq]), (.t 3, [iv pos]), (.t 10, [.fn (.func 34) [.data (.slc false none 3 (List.map TSeat.en l))] []])]) (by kernel_rfl) .nil (by kernel_rfl) ?_
  obtain ⟨⟨r3_1, r3_2⟩, h3_3, h⟩ := bd_inv h
  refine WK.rs (g := [.a ⟨.tup [iv r3_1, bv r3_2], []⟩]) (l' := [(.t 0, [.data (.slc false none 3 (List.map TSeat.en l))]), (.t 1, [iv session]), (.t 2, [iv seq]), (.t 3, [iv pos]), (.t 11, [iv r3_1]), (.t 12, [bv r3_2])]) (by kernel_rfl) (.cons (Asks.of (C := Meets Try.prog) (seat_seats_find.meets fu l session _ _ h3_3)) .nil) (by kernel_rfl) ?_
  obtain ⟨r4_1, h4_2, h⟩ := bd_inv h
  refine WK.rs (g := [.a ⟨.data (.slc true none 3 (List.map TSeat.en r4_1)), []⟩]) (l' := [(.t 0, [.data (.slc false none 3 (List.map TSeat.en l))]), (.t 1, [iv session]), (.t 2, [iv seq]), (.t 3, [iv pos]), (.t 11, [iv r3_1]), (.t 12, [bv r3_2]), (.t 13, [.data (.slc true none 3 (List.map TSeat.en r4_1))])]) (by kernel_rfl) (.cons (Asks.of (C := Meets Try.prog) (slices_Clone_api_Seat.meets l _ h4_2)) .nil) (by kernel_rfl) ?_
  refine WK.seq (by kernel_rfl) ?_
  refine WK.block (n := 0) (by kernel_rfl) ?_
  rcases br_inv h with ⟨b5_1, h⟩ | ⟨b5_1, h⟩
  · obtain ⟨x5_2, a5_3, e5_4, h⟩ := ix_inv h
    refine WK.rs (g := [.b true, .b true, .b true, .c (TSeat.en x5_2), .b true, .b true, .b true, .b true, .b true]) (l' := [(.t 1, [iv session]), (.t 2, [iv seq]), (.t 3, [iv pos]), (.t 11, [iv r3_1]), (.t 12, [bv r3_2]), (.t 13, [.data (.slc true none 3 (List.map TSeat.en r4_1))]), (.t 24, [bv (decide (x5_2.Seq ≥ seq))])]) (by kernel_rfl) (.cons b5_1 (.cons b5_1 (.cons b5_1 (.cons (c_ix (e := TSeat.en) a5_3 e5_4) (.cons (c_el (e := TSeat.en) e5_4) (.cons b5_1 (.cons b5_1 (.cons b5_1 (.cons b5_1 (.cons b5_1 .nil)))))))))) (by kernel_rfl) ?_
    rcases br_inv h with ⟨b6_0, h⟩ | ⟨b6_0, h⟩
    · refine WK.ct (b := (decide (x5_2.Seq ≥ seq))) (by kernel_rfl) b6_0 ?_
      refine WK.rs (g := []) (l' := [(.t 8, [.data (.slc true none 3 (List.map TSeat.en r4_1))]), (.t 9, [bv false])]) (by kernel_rfl) .nil (by kernel_rfl) ?_
      refine WK.weak (l := [(.t 8, [.data (.slc true none 3 (List.map TSeat.en r4_1))]), (.t 9, [bv false])]) (wk_of (by kernel_rfl)) ?_
      refine WK.ret (by kernel_rfl) ?_
      have h_0 := some_inj h
      obtain ⟨g_1, h_1⟩ := Prod.mk.inj h_0
      subst g_1
      subst h_1
      exact WKe.fin (e' := .ret) (by kernel_rfl) (fin_of (g := []) (by first | exact .inl rfl | exact .inr rfl) .nil (by kernel_rfl))
    · refine WK.ce (b := (decide (x5_2.Seq ≥ seq))) (by kernel_rfl) b6_0 ?_
      refine WK.rs (g := []) (l' := [(.t 1, [iv session]), (.t 2, [iv seq]), (.t 3, [iv pos]), (.t 11, [iv r3_1]), (.t 13, [.data (.slc true none 3 (List.map TSeat.en r4_1))]), (.t 36, [bv r3_2])]) (by kernel_rfl) .nil (by kernel_rfl) ?_
      rcases br_inv h with ⟨b9_0, h⟩ | ⟨b9_0, h⟩
      · refine WK.ct (b := r3_2) (by kernel_rfl) b9_0 ?_
        obtain ⟨x10_1, a10_2, e10_3, h⟩ := ix_inv h
        obtain ⟨x10_4, a10_5, e10_6, h⟩ := ix_inv h
        refine WK.rs (g := [.c (TSeat.en x10_1), .s (.t 13) [.data (.slc true none 3 (List.map TSeat.en (r4_1.set r3_1.toNat (TSeat.mk x10_1.Session seq x10_1.Pos))))], .c (TSeat.en x10_4), .s (.t 13) [.data (.slc true none 3 (List.map TSeat.en ((r4_1.set r3_1.toNat (TSeat.mk x10_1.Session seq x10_1.Pos)).set r3_1.toNat (TSeat.mk x10_4.Session x10_4.Seq pos))))]]) (l' := [(.t 13, [.data (.slc true none 3 (List.map TSeat.en ((r4_1.set r3_1.toNat (TSeat.mk x10_1.Session seq x10_1.Pos)).set r3_1.toNat (TSeat.mk x10_4.Session x10_4.Seq pos))))])]) (by kernel_rfl) (.cons (c_ix (e := TSeat.en) a10_2 e10_3) (.cons (c_el (e := TSeat.en) e10_3) (.cons (congrArg (fun d : DV => [AV.data d]) (c_set (e := TSeat.en) (s := 3) (nl := none) (l := r4_1) (i := r3_1.toNat) (x := (TSeat.mk x10_1.Session seq x10_1.Pos)))) (.cons (c_ix (e := TSeat.en) a10_5 e10_6) (.cons (c_el (e := TSeat.en) e10_6) (.cons (congrArg (fun d : DV => [AV.data d]) (c_set (e := TSeat.en) (s := 3) (nl := none) (l := (r4_1.set r3_1.toNat (TSeat.mk x10_1.Session seq x10_1.Pos))) (i := r3_1.toNat) (x := (TSeat.mk x10_4.Session x10_4.Seq pos)))) .nil)))))) (by kernel_rfl) ?_
        refine WK.rs (g := []) (l' := [(.t 8, [.data (.slc true none 3 (List.map TSeat.en ((r4_1.set r3_1.toNat (TSeat.mk x10_1.Session seq x10_1.Pos)).set r3_1.toNat (TSeat.mk x10_4.Session x10_4.Seq pos))))]), (.t 9, [bv true])]) (by kernel_rfl) .nil (by kernel_rfl) ?_
        refine WK.weak (l := [(.t 8, [.data (.slc true none 3 (List.map TSeat.en ((r4_1.set r3_1.toNat (TSeat.mk x10_1.Session seq x10_1.Pos)).set r3_1.toNat (TSeat.mk x10_4.Session x10_4.Seq pos))))]), (.t 9, [bv true])]) (wk_of (by kernel_rfl)) ?_
        refine WK.ret (by kernel_rfl) ?_
        have h_0 := some_inj h
        obtain ⟨g_1, h_1⟩ := Prod.mk.inj h_0
        subst g_1
        subst h_1
        exact WKe.fin (e' := .ret) (by kernel_rfl) (fin_of (g := []) (by first | exact .inl rfl | exact .inr rfl) .nil (by kernel_rfl))
      · refine WK.ce (b := r3_2) (by kernel_rfl) b9_0 ?_
        refine WK.skip (by kernel_rfl) ?_
        refine WKe.code (y := (cR (cR (cR (cR (cR bd28)))))) (ks' := []) (by kernel_rfl) ?_
        obtain ⟨r12_1, h12_2, h⟩ := bd_inv h
        refine WK.rs (g := [.a ⟨.data (.slc true none 3 (List.map TSeat.en r12_1)), []⟩]) (l' := [(.t 8, [.data (.slc true none 3 (List.map TSeat.en r12_1))]), (.t 9, [bv true])]) (by kernel_rfl) (.cons (Asks.fg (args1 := [.data (.slc true none 3 (List.map TSeat.en r4_1)), iv r3_1]) (args2 := []) (nl := some false) (sz := 3) (es := List.map TSeat.en ([(TSeat.mk session seq pos)] : List TSeat)) (Asks.of (C := Meets Try.prog) (slices_Insert_api_Seat.meets r4_1 r3_1 ([(TSeat.mk session seq pos)] : List TSeat) _ h12_2))) .nil) (by kernel_rfl) ?_
        refine WK.weak (l := [(.t 8, [.data (.slc true none 3 (List.map TSeat.en r12_1))]), (.t 9, [bv true])]) (wk_of (by kernel_rfl)) ?_
        refine WK.ret (by kernel_rfl) ?_
        have h_0 := some_inj h
        obtain ⟨g_1, h_1⟩ := Prod.mk.inj h_0
        subst g_1
        subst h_1
        exact WKe.fin (e' := .ret) (by kernel_rfl) (fin_of (g := []) (by first | exact .inl rfl | exact .inr rfl) .nil (by kernel_rfl))
  · refine WK.rs (g := [.b false, .b false, .b false, .b false, .b false, .b false, .b false, .b false]) (l' := [(.t 1, [iv session]), (.t 2, [iv seq]), (.t 3, [iv pos]), (.t 11, [iv r3_1]), (.t 12, [bv r3_2]), (.t 13, [.data (.slc true none 3 (List.map TSeat.en r4_1))]), (.t 24, [bv false])]) (by kernel_rfl) (.cons b5_1 (.cons b5_1 (.cons b5_1 (.cons b5_1 (.cons b5_1 (.cons b5_1 (.cons b5_1 (.cons b5_1 .nil)))))))) (by kernel_rfl) ?_
    refine WK.ce (b := false) (by kernel_rfl) rfl ?_
    refine WK.rs (g := []) (l' := [(.t 1, [iv session]), (.t 2, [iv seq]), (.t 3, [iv pos]), (.t 11, [iv r3_1]), (.t 13, [.data (.slc true none 3 (List.map TSeat.en r4_1))]), (.t 36, [bv r3_2])]) (by kernel_rfl) .nil (by kernel_rfl) ?_
    rcases br_inv h with ⟨b14_0, h⟩ | ⟨b14_0, h⟩
    · refine WK.ct (b := r3_2) (by kernel_rfl) b14_0 ?_
      obtain ⟨x15_1, a15_2, e15_3, h⟩ := ix_inv h
      obtain ⟨x15_4, a15_5, e15_6, h⟩ := ix_inv h
      refine WK.rs (g := [.c (TSeat.en x15_1), .s (.t 13) [.data (.slc true none 3 (List.map TSeat.en (r4_1.set r3_1.toNat (TSeat.mk x15_1.Session seq x15_1.Pos))))], .c (TSeat.en x15_4), .s (.t 13) [.data (.slc true none 3 (List.map TSeat.en ((r4_1.set r3_1.toNat (TSeat.mk x15_1.Session seq x15_1.Pos)).set r3_1.toNat (TSeat.mk x15_4.Session x15_4.Seq pos))))]]) (l' := [(.t 13, [.data (.slc true none 3 (List.map TSeat.en ((r4_1.set r3_1.toNat (TSeat.mk x15_1.Session seq x15_1.Pos)).set r3_1.toNat (TSeat.mk x15_4.Session x15_4.Seq pos))))])]) (by kernel_rfl) (.cons (c_ix (e := TSeat.en) a15_2 e15_3) (.cons (c_el (e := TSeat.en) e15_3) (.cons (congrArg (fun d : DV => [AV.data d]) (c_set (e := TSeat.en) (s := 3) (nl := none) (l := r4_1) (i := r3_1.toNat) (x := (TSeat.mk x15_1.Session seq x15_1.Pos)))) (.cons (c_ix (e := TSeat.en) a15_5 e15_6) (.cons (c_el (e := TSeat.en) e15_6) (.cons (congrArg (fun d : DV => [AV.data d]) (c_set (e := TSeat.en) (s := 3) (nl := none) (l := (r4_1.set r3_1.toNat (TSeat.mk x15_1.Session seq x15_1.Pos))) (i := r3_1.toNat) (x := (TSeat.mk x15_4.Session x15_4.Seq pos)))) .nil)))))) (by kernel_rfl) ?_
      refine WK.rs (g := []) (l' := [(.t 8, [.data (.slc true none 3 (List.map TSeat.en ((r4_1.set r3_1.toNat (TSeat.mk x15_1.Session seq x15_1.Pos)).set r3_1.toNat (TSeat.mk x15_4.Session x15_4.Seq pos))))]), (.t 9, [bv true])]) (by kernel_rfl) .nil (by kernel_rfl) ?_
      refine WK.weak (l := [(.t 8, [.data (.slc true none 3 (List.map TSeat.en ((r4_1.set r3_1.toNat (TSeat.mk x15_1.Session seq x15_1.Pos)).set r3_1.toNat (TSeat.mk x15_4.Session x15_4.Seq pos))))]), (.t 9, [bv true])]) (wk_of (by kernel_rfl)) ?_
      refine WK.ret (by kernel_rfl) ?_
      have h_0 := some_inj h
      obtain ⟨g_1, h_1⟩ := Prod.mk.inj h_0
      subst g_1
      subst h_1
      exact WKe.fin (e' := .ret) (by kernel_rfl) (fin_of (g := []) (by first | exact .inl rfl | exact .inr rfl) .nil (by kernel_rfl))
    · refine WK.ce (b := r3_2) (by kernel_rfl) b14_0 ?_
      refine WK.skip (by kernel_rfl) ?_
      refine WKe.code (y := (cR (cR (cR (cR (cR bd28)))))) (ks' := []) (by kernel_rfl) ?_
      obtain ⟨r17_1, h17_2, h⟩ := bd_inv h
      refine WK.rs (g := [.a ⟨.data (.slc true none 3 (List.map TSeat.en r17_1)), []⟩]) (l' := [(.t 8, [.data (.slc true none 3 (List.map TSeat.en r17_1))]), (.t 9, [bv true])]) (by kernel_rfl) (.cons (Asks.fg (args1 := [.data (.slc true none 3 (List.map TSeat.en r4_1)), iv r3_1]) (args2 := []) (nl := some false) (sz := 3) (es := List.map TSeat.en ([(TSeat.mk session seq pos)] : List TSeat)) (Asks.of (C := Meets Try.prog) (slices_Insert_api_Seat.meets r4_1 r3_1 ([(TSeat.mk session seq pos)] : List TSeat) _ h17_2))) .nil) (by kernel_rfl) ?_
      refine WK.weak (l := [(.t 8, [.data (.slc true none 3 (List.map TSeat.en r17_1))]), (.t 9, [bv true])]) (wk_of (by kernel_rfl)) ?_
      refine WK.ret (by kernel_rfl) ?_
      have h_0 := some_inj h
      obtain ⟨g_1, h_1⟩ := Prod.mk.inj h_0
      subst g_1
      subst h_1
      exact WKe.fin (e' := .ret) (by kernel_rfl) (fin_of (g := []) (by first | exact .inl rfl | exact .inr rfl) .nil (by kernel_rfl))
/-- (diwan/store.keeper).find$1 -/
noncomputable def bd55 : Code := (Try.f55.body).getD .skip
def store_keeper_find_1.O : Nat → Nat := fun t => bif ([2, 4, 5, 10] : List Nat).any (Nat.beq t) then 1 else 0
noncomputable def store_keeper_find_1 (c : TChain) (k_v : ByteArray) : Option Int :=
  br (Op.bytesLess c.Key.toList k_v.toList)
    (some (-1))
    (br (!((Op.bytesLess c.Key.toList k_v.toList) || (c.Key.toList == k_v.toList)))
      (some 1)
      (some 0))
theorem store_keeper_find_1.meets (c : TChain) (k_v : ByteArray) (z0 : Int) (h : store_keeper_find_1 c k_v = some z0) : Meets Try.prog ⟨55, [.data (.agg [.val (.string c.Key), .slc false none 3 (List.map TVersion.en c.L)]), sv k_v], []⟩ ⟨iv z0, []⟩ := by
  refine meets_of (O := store_keeper_find_1.O) hmix (fn := Try.f55) (code := bd55) (by kernel_rfl) ?_
  refine WK.weak (l := [(.t 0, [.data (.agg [.val (.string c.Key), .slc false none 3 (List.map TVersion.en c.L)])]), (.t 1, [sv k_v])]) (wk_of (by kernel_rfl)) ?_
  unfold store_keeper_find_1 at h
  refine WK.rs (g := []) (l' := [(.t 1, [sv k_v]), (.t 2, [.ptr 2 0]), (.o 2, [sv c.Key, .data (.slc false none 3 (List.map TVersion.en c.L))])]) (by kernel_rfl) .nil (by kernel_rfl) ?_
  refine WK.seq (by kernel_rfl) ?_
  refine WK.block (n := 0) (by kernel_rfl) ?_
  refine WK.rs (g := []) (l' := [(.t 1, [sv k_v]), (.t 2, [.ptr 2 0]), (.t 5, [bv (Op.bytesLess c.Key.toList k_v.toList)]), (.o 2, [sv c.Key, .data (.slc false none 3 (List.map TVersion.en c.L))])]) (by kernel_rfl) .nil (by kernel_rfl) ?_
  rcases br_inv h with ⟨b3_0, h⟩ | ⟨b3_0, h⟩
  · refine WK.ct (b := (Op.bytesLess c.Key.toList k_v.toList)) (by kernel_rfl) b3_0 ?_
    refine WK.rs (g := []) (l' := [(.t 4, [iv (-1)])]) (by kernel_rfl) .nil (by kernel_rfl) ?_
    refine WK.weak (l := [(.t 4, [iv (-1)])]) (wk_of (by kernel_rfl)) ?_
    refine WK.ret (by kernel_rfl) ?_
    have h_ := some_inj h
    subst h_
    exact WKe.fin (e' := .ret) (by kernel_rfl) (fin_of (g := []) (by first | exact .inl rfl | exact .inr rfl) .nil (by kernel_rfl))
  · refine WK.ce (b := (Op.bytesLess c.Key.toList k_v.toList)) (by kernel_rfl) b3_0 ?_
    refine WK.rs (g := []) (l' := [(.t 10, [bv (!((Op.bytesLess c.Key.toList k_v.toList) || (c.Key.toList == k_v.toList)))])]) (by kernel_rfl) .nil (by kernel_rfl) ?_
    rcases br_inv h with ⟨b6_0, h⟩ | ⟨b6_0, h⟩
    · refine WK.ct (b := (!((Op.bytesLess c.Key.toList k_v.toList) || (c.Key.toList == k_v.toList)))) (by kernel_rfl) b6_0 ?_
      refine WK.rs (g := []) (l' := [(.t 4, [iv 1])]) (by kernel_rfl) .nil (by kernel_rfl) ?_
      refine WK.weak (l := [(.t 4, [iv 1])]) (wk_of (by kernel_rfl)) ?_
      refine WK.ret (by kernel_rfl) ?_
      have h_ := some_inj h
      subst h_
      exact WKe.fin (e' := .ret) (by kernel_rfl) (fin_of (g := []) (by first | exact .inl rfl | exact .inr rfl) .nil (by kernel_rfl))
    · refine WK.ce (b := (!((Op.bytesLess c.Key.toList k_v.toList) || (c.Key.toList == k_v.toList)))) (by kernel_rfl) b6_0 ?_
      refine WK.skip (by kernel_rfl) ?_
      refine WKe.code (y := (cR (cR bd55))) (ks' := []) (by kernel_rfl) ?_
      refine WK.rs (g := []) (l' := [(.t 4, [iv 0])]) (by kernel_rfl) .nil (by kernel_rfl) ?_
      refine WK.weak (l := [(.t 4, [iv 0])]) (wk_of (by kernel_rfl)) ?_
      refine WK.ret (by kernel_rfl) ?_
      have h_ := some_inj h
      subst h_
      exact WKe.fin (e' := .ret) (by kernel_rfl) (fin_of (g := []) (by first | exact .inl rfl | exact .inr rfl) .nil (by kernel_rfl))
/-- slices.BinarySearchFunc[[]diwan/api.Chain,diwan/api.Chain,string] -/
noncomputable def bd54 : Code := (Try.f54.body).getD .skip
def slices_BinarySearchFunc_api_Chain_string.O : Nat → Nat := fun t => bif ([6, 7, 8, 9, 10, 11] : List Nat).any (Nat.beq t) then 1 else 0
noncomputable def slices_BinarySearchFunc_api_Chain_string.lp4 (fu : Nat) (l4_0 : List TChain) (l4_1 : ByteArray) (l4_2 : Int) : Nat → Int → Int → Option Int
  | 0, _, _ => none
  | n_ + 1, l4_3, l4_4 =>
    br (decide (l4_3 < l4_4))
      (ix l4_0 (w64 (vshr .u64 (IntKind.u64.wrap (w64 (l4_3 + l4_4))) 1)) fun x8_1 =>
      bd (store_keeper_find_1 x8_1 l4_1) fun r8_4 =>
      br (decide (r8_4 < 0))
        (slices_BinarySearchFunc_api_Chain_string.lp4 fu l4_0 l4_1 l4_2 n_ (w64 ((w64 (vshr .u64 (IntKind.u64.wrap (w64 (l4_3 + l4_4))) 1)) + 1)) l4_4)
        (slices_BinarySearchFunc_api_Chain_string.lp4 fu l4_0 l4_1 l4_2 n_ l4_3 (w64 (vshr .u64 (IntKind.u64.wrap (w64 (l4_3 + l4_4))) 1))))
      (some l4_3)
noncomputable def slices_BinarySearchFunc_api_Chain_string.lp4_post (l4_0 : List TChain) (l4_1 : ByteArray) (l4_2 : Int) (r_ : Int) : Wy → St → Prop := fun e τ => match r_ with
  | y0 => e = .exit 0 ∧ τ = ofL [(.t 0, [.data (.slc false none 2 (List.map TChain.en l4_0))]), (.t 1, [sv l4_1]), (.t 2, [.fn (.func 55) [] []]), (.t 8, [iv l4_2]), (.t 9, [iv y0])]
theorem slices_BinarySearchFunc_api_Chain_string.lp4_ok (fu : Nat) (l4_0 : List TChain) (l4_1 : ByteArray) (l4_2 : Int) : ∀ (n_ : Nat) (l4_3 : Int) (l4_4 : Int) (r_ : Int), slices_BinarySearchFunc_api_Chain_string.lp4 fu l4_0 l4_1 l4_2 n_ l4_3 l4_4 = some r_ → WK Try.prog slices_BinarySearchFunc_api_Chain_string.O (Ck Try.prog) (cB (cL (cR (cR (cR bd54))))) [] (ofL [(.t 0, [.data (.slc false none 2 (List.map TChain.en l4_0))]), (.t 1, [sv l4_1]), (.t 2, [.fn (.func 55) [] []]), (.t 8, [iv l4_2]), (.t 9, [iv l4_3]), (.t 10, [iv l4_4])]) (slices_BinarySearchFunc_api_Chain_string.lp4_post l4_0 l4_1 l4_2 r_) := by
  intro n_
  induction n_ with
  | zero => intro l4_3 l4_4 r_ h; exact no_none h
  | succ n_ ih =>
    intro l4_3 l4_4 r_ h
    refine WK.loop (by kernel_rfl) ?_
    refine WK.seq (by kernel_rfl) ?_
    refine WK.rs (g := []) (l' := [(.t 0, [.data (.slc false none 2 (List.map TChain.en l4_0))]), (.t 1, [sv l4_1]), (.t 2, [.fn (.func 55) [] []]), (.t 8, [iv l4_2]), (.t 9, [iv l4_3]), (.t 10, [iv l4_4]), (.t 17, [bv (decide (l4_3 < l4_4))])]) (by kernel_rfl) .nil (by kernel_rfl) ?_
    rcases br_inv h with ⟨b6_0, h⟩ | ⟨b6_0, h⟩
    · refine WK.ct (b := (decide (l4_3 < l4_4))) (by kernel_rfl) b6_0 ?_
      refine WK.skip (by kernel_rfl) ?_
      refine WKe.code (y := (cR (cB (cB (cL (cR (cR (cR bd54)))))))) (ks' := [.lp (cB (cL (cR (cR (cR bd54)))))]) (by kernel_rfl) ?_
      refine WK.block (n := 1) (by kernel_rfl) ?_
      refine WK.rs (g := []) (l' := [(.t 0, [.data (.slc false none 2 (List.map TChain.en l4_0))]), (.t 1, [sv l4_1]), (.t 2, [.fn (.func 55) [] []]), (.t 8, [iv l4_2]), (.t 9, [iv l4_3]), (.t 10, [iv l4_4]), (.t 11, [iv (w64 (vshr .u64 (IntKind.u64.wrap (w64 (l4_3 + l4_4))) 1))])]) (by kernel_rfl) (.cons (Eq.refl true) .nil) (by kernel_rfl) ?_
      obtain ⟨x8_1, a8_2, e8_3, h⟩ := ix_inv h
      obtain ⟨r8_4, h8_5, h⟩ := bd_inv h
      refine WK.rs (g := [.c (TChain.en x8_1), .a ⟨iv r8_4, []⟩]) (l' := [(.t 0, [.data (.slc false none 2 (List.map TChain.en l4_0))]), (.t 1, [sv l4_1]), (.t 2, [.fn (.func 55) [] []]), (.t 8, [iv l4_2]), (.t 9, [iv l4_3]), (.t 10, [iv l4_4]), (.t 11, [iv (w64 (vshr .u64 (IntKind.u64.wrap (w64 (l4_3 + l4_4))) 1))]), (.t 31, [bv (decide (r8_4 < 0))])]) (by kernel_rfl) (.cons (c_ix (e := TChain.en) a8_2 e8_3) (.cons (c_el (e := TChain.en) e8_3) (.cons (Asks.of (C := Meets Try.prog) (store_keeper_find_1.meets x8_1 l4_1 _ h8_5)) .nil))) (by kernel_rfl) ?_
      rcases br_inv h with ⟨b9_0, h⟩ | ⟨b9_0, h⟩
      · refine WK.ct (b := (decide (r8_4 < 0))) (by kernel_rfl) b9_0 ?_
        refine WK.rc (g := []) (l' := [(.t 0, [.data (.slc false none 2 (List.map TChain.en l4_0))]), (.t 1, [sv l4_1]), (.t 2, [.fn (.func 55) [] []]), (.t 8, [iv l4_2]), (.t 9, [iv (w64 ((w64 (vshr .u64 (IntKind.u64.wrap (w64 (l4_3 + l4_4))) 1)) + 1))]), (.t 10, [iv l4_4])]) .nil (by kernel_rfl) (y := (cB (cL (cR (cR (cR bd54)))))) (ks' := []) (by kernel_rfl) ?_
        exact WK.weak (l := [(.t 0, [.data (.slc false none 2 (List.map TChain.en l4_0))]), (.t 1, [sv l4_1]), (.t 2, [.fn (.func 55) [] []]), (.t 8, [iv l4_2]), (.t 9, [iv (w64 ((w64 (vshr .u64 (IntKind.u64.wrap (w64 (l4_3 + l4_4))) 1)) + 1))]), (.t 10, [iv l4_4])]) (wk_of (by kernel_rfl)) (ih (w64 ((w64 (vshr .u64 (IntKind.u64.wrap (w64 (l4_3 + l4_4))) 1)) + 1)) l4_4 _ h)
      · refine WK.ce (b := (decide (r8_4 < 0))) (by kernel_rfl) b9_0 ?_
        refine WK.rc (g := []) (l' := [(.t 0, [.data (.slc false none 2 (List.map TChain.en l4_0))]), (.t 1, [sv l4_1]), (.t 2, [.fn (.func 55) [] []]), (.t 8, [iv l4_2]), (.t 9, [iv l4_3]), (.t 10, [iv (w64 (vshr .u64 (IntKind.u64.wrap (w64 (l4_3 + l4_4))) 1))])]) .nil (by kernel_rfl) (y := (cB (cL (cR (cR (cR bd54)))))) (ks' := []) (by kernel_rfl) ?_
        exact WK.weak (l := [(.t 0, [.data (.slc false none 2 (List.map TChain.en l4_0))]), (.t 1, [sv l4_1]), (.t 2, [.fn (.func 55) [] []]), (.t 8, [iv l4_2]), (.t 9, [iv l4_3]), (.t 10, [iv (w64 (vshr .u64 (IntKind.u64.wrap (w64 (l4_3 + l4_4))) 1))])]) (wk_of (by kernel_rfl)) (ih l4_3 (w64 (vshr .u64 (IntKind.u64.wrap (w64 (l4_3 + l4_4))) 1)) _ h)
    · refine WK.ce (b := (decide (l4_3 < l4_4))) (by kernel_rfl) b6_0 ?_
      refine WK.weak (l := [(.t 0, [.data (.slc false none 2 (List.map TChain.en l4_0))]), (.t 1, [sv l4_1]), (.t 2, [.fn (.func 55) [] []]), (.t 8, [iv l4_2]), (.t 9, [iv l4_3])]) (wk_of (by kernel_rfl)) ?_
      refine WK.exit (n := 0) (by kernel_rfl) ?_
      cases some_inj h
      exact WKe.fin (e' := .exit 0) (by kernel_rfl) ⟨rfl, rfl⟩
noncomputable def slices_BinarySearchFunc_api_Chain_string (fu : Nat) (x_v : List TChain) (target : ByteArray) : Option (Int × Bool) :=
  bd (slices_BinarySearchFunc_api_Chain_string.lp4 fu x_v target (x_v.length : Int) fu 0 (x_v.length : Int)) fun y12_0 =>
  br (decide (y12_0 < (x_v.length : Int)))
    (ix x_v y12_0 fun x13_2 =>
    bd (store_keeper_find_1 x13_2 target) fun r13_5 =>
    some (y12_0, (r13_5 == 0)))
    (some (y12_0, false))
theorem slices_BinarySearchFunc_api_Chain_string.meets (fu : Nat) (x_v : List TChain) (target : ByteArray) (z0 : Int) (z1 : Bool) (h : slices_BinarySearchFunc_api_Chain_string fu x_v target = some (z0, z1)) : Meets Try.prog ⟨54, [.data (.slc false none 2 (List.map TChain.en x_v)), sv target, .fn (.func 55) [] []], []⟩ ⟨.tup [iv z0, bv z1], []⟩ := by
  refine meets_of (O := slices_BinarySearchFunc_api_Chain_string.O) hmix (fn := Try.f54) (code := bd54) (by kernel_rfl) ?_
  refine WK.weak (l := [(.t 0, [.data (.slc false none 2 (List.map TChain.en x_v))]), (.t 1, [sv target]), (.t 2, [.fn (.func 55) [] []])]) (wk_of (by kernel_rfl)) ?_
  unfold slices_BinarySearchFunc_api_Chain_string at h
  refine WK.rs (g := []) (l' := [(.t 0, [.data (.slc false none 2 (List.map TChain.en x_v))]), (.t 1, [sv target]), (.t 2, [.fn (.func 55) [] []])]) (by kernel_rfl) .nil (by kernel_rfl) ?_
  refine WK.rs (g := [.s (.t 13) [iv (x_v.length : Int)]]) (l' := [(.t 0, [.data (.slc false none 2 (List.map TChain.en x_v))]), (.t 1, [sv target]), (.t 2, [.fn (.func 55) [] []]), (.t 8, [iv (x_v.length : Int)])]) (by kernel_rfl) (.cons (c_len (e := TChain.en) (l := x_v)) .nil) (by kernel_rfl) ?_
  refine WK.rs (g := []) (l' := [(.t 0, [.data (.slc false none 2 (List.map TChain.en x_v))]), (.t 1, [sv target]), (.t 2, [.fn (.func 55) [] []]), (.t 8, [iv (x_v.length : Int)]), (.t 9, [iv 0]), (.t 10, [iv (x_v.length : Int)])]) (by kernel_rfl) .nil (by kernel_rfl) ?_
  refine WK.seq (by kernel_rfl) ?_
  refine WK.block (n := 0) (by kernel_rfl) ?_
  obtain ⟨o12, ho12, h⟩ := bd_inv h
  refine WK.weak (l := [(.t 0, [.data (.slc false none 2 (List.map TChain.en x_v))]), (.t 1, [sv target]), (.t 2, [.fn (.func 55) [] []]), (.t 8, [iv (x_v.length : Int)]), (.t 9, [iv 0]), (.t 10, [iv (x_v.length : Int)])]) (wk_of (by kernel_rfl)) ?_
  refine WK.use (slices_BinarySearchFunc_api_Chain_string.lp4_ok fu x_v target (x_v.length : Int) _ 0 (x_v.length : Int) _ ho12) ?_
  intro e_ τ_ hp_
  obtain ⟨y12_0, rfl⟩ : ∃ y, y = o12 := ⟨_, rfl⟩
  obtain ⟨rfl, rfl⟩ := hp_
  refine WKe.code (y := (cR (cR (cR (cR bd54))))) (ks' := []) (by kernel_rfl) ?_
  rcases br_inv h with ⟨b13_1, h⟩ | ⟨b13_1, h⟩
  · obtain ⟨x13_2, a13_3, e13_4, h⟩ := ix_inv h
    obtain ⟨r13_5, h13_6, h⟩ := bd_inv h
    refine WK.rs (g := [.b true, .b true, .b true, .b true, .c (TChain.en x13_2), .b true, .b true, .b true, .a ⟨iv r13_5, []⟩, .b true, .b true]) (l' := [(.t 6, [iv y12_0]), (.t 7, [bv (r13_5 == 0)])]) (by kernel_rfl) (.cons b13_1 (.cons b13_1 (.cons b13_1 (.cons b13_1 (.cons (c_ix (e := TChain.en) a13_3 e13_4) (.cons (c_el (e := TChain.en) e13_4) (.cons b13_1 (.cons b13_1 (.cons b13_1 (.cons (Asks.of (C := Meets Try.prog) (store_keeper_find_1.meets x13_2 target _ h13_6)) (.cons b13_1 (.cons b13_1 .nil)))))))))))) (by kernel_rfl) ?_
    refine WK.weak (l := [(.t 6, [iv y12_0]), (.t 7, [bv (r13_5 == 0)])]) (wk_of (by kernel_rfl)) ?_
    refine WK.ret (by kernel_rfl) ?_
    have h_0 := some_inj h
    obtain ⟨g_1, h_1⟩ := Prod.mk.inj h_0
    subst g_1
    subst h_1
    exact WKe.fin (e' := .ret) (by kernel_rfl) (fin_of (g := []) (by first | exact .inl rfl | exact .inr rfl) .nil (by kernel_rfl))
  · refine WK.rs (g := [.b false, .b false, .b false, .b false, .b false, .b false, .b false, .b false, .b false]) (l' := [(.t 6, [iv y12_0]), (.t 7, [bv false])]) (by kernel_rfl) (.cons b13_1 (.cons b13_1 (.cons b13_1 (.cons b13_1 (.cons b13_1 (.cons b13_1 (.cons b13_1 (.cons b13_1 (.cons b13_1 .nil))))))))) (by kernel_rfl) ?_
    refine WK.weak (l := [(.t 6, [iv y12_0]), (.t 7, [bv false])]) (wk_of (by kernel_rfl)) ?_
    refine WK.ret (by kernel_rfl) ?_
    have h_0 := some_inj h
    obtain ⟨g_1, h_1⟩ := Prod.mk.inj h_0
    subst g_1
    subst h_1
    exact WKe.fin (e' := .ret) (by kernel_rfl) (fin_of (g := []) (by first | exact .inl rfl | exact .inr rfl) .nil (by kernel_rfl))
/-- (diwan/store.keeper).find -/
noncomputable def bd41 : Code := (Try.f41.body).getD .skip
def store_keeper_find.O : Nat → Nat := fun t => bif ([2, 4, 5] : List Nat).any (Nat.beq t) then 1 else 0
noncomputable def store_keeper_find (fu : Nat) (s : TStore) (k_v : ByteArray) : Option (Int × Bool) :=
  bd (slices_BinarySearchFunc_api_Chain_string fu s.Chains k_v) fun (r2_1, r2_2) =>
  some (r2_1, r2_2)
theorem store_keeper_find.meets (fu : Nat) (s : TStore) (k_v : ByteArray) (z0 : Int) (z1 : Bool) (h : store_keeper_find fu s k_v = some (z0, z1)) : Meets Try.prog ⟨41, [.data (.agg [.slc false none 2 (List.map TChain.en s.Chains), .val (.int .i64 s.Mark)]), sv k_v], []⟩ ⟨.tup [iv z0, bv z1], []⟩ := by
  refine meets_of (O := store_keeper_find.O) hmix (fn := Try.f41) (code := bd41) (by kernel_rfl) ?_
  refine WK.weak (l := [(.t 0, [.data (.agg [.slc false none 2 (List.map TChain.en s.Chains), .val (.int .i64 s.Mark)])]), (.t 1, [sv k_v])]) (wk_of (by kernel_rfl)) ?_
  unfold store_keeper_find at h
  refine WK.rs (g := []) (l' := [(.t 1, [sv k_v]), (.t 2, [.ptr 2 0]), (.o 2, [.data (.slc false none 2 (List.map TChain.en s.Chains)), iv s.Mark])]) (by kernel_rfl) .nil (by kernel_rfl) ?_
  obtain ⟨⟨r2_1, r2_2⟩, h2_3, h⟩ := bd_inv h
  refine WK.rs (g := [.a ⟨.tup [iv r2_1, bv r2_2], []⟩]) (l' := [(.t 4, [iv r2_1]), (.t 5, [bv r2_2])]) (by kernel_rfl) (.cons (Asks.of (C := Meets Try.prog) (slices_BinarySearchFunc_api_Chain_string.meets fu s.Chains k_v _ _ h2_3)) .nil) (by kernel_rfl) ?_
  refine WK.weak (l := [(.t 4, [iv r2_1]), (.t 5, [bv r2_2])]) (wk_of (by kernel_rfl)) ?_
  refine WK.ret (by kernel_rfl) ?_
  have h_0 := some_inj h
  obtain ⟨g_1, h_1⟩ := Prod.mk.inj h_0
  subst g_1
  subst h_1
  exact WKe.fin (e' := .ret) (by kernel_rfl) (fin_of (g := []) (by first | exact .inl rfl | exact .inr rfl) .nil (by kernel_rfl))
/-- (diwan/store.keeper).chain -/
noncomputable def bd50 : Code := (Try.f50.body).getD .skip
def store_keeper_chain.O : Nat → Nat := fun t => bif ([2, 5, 6] : List Nat).any (Nat.beq t) then 1 else bif ([4] : List Nat).any (Nat.beq t) then 2 else 0
noncomputable def store_keeper_chain (fu : Nat) (s : TStore) (k_v : ByteArray) : Option (List TVersion) :=
  bd (store_keeper_find fu s k_v) fun (r2_1, r2_2) =>
  br r2_2
    (ix s.Chains r2_1 fun x5_1 =>
    some x5_1.L)
    (some [])
theorem store_keeper_chain.meets (fu : Nat) (s : TStore) (k_v : ByteArray) (z0 : List TVersion) (h : store_keeper_chain fu s k_v = some z0) : Meets Try.prog ⟨50, [.data (.agg [.slc false none 2 (List.map TChain.en s.Chains), .val (.int .i64 s.Mark)]), sv k_v], []⟩ ⟨.data (.slc false none 3 (List.map TVersion.en z0)), []⟩ := by
  refine meets_of (O := store_keeper_chain.O) hmix (fn := Try.f50) (code := bd50) (by kernel_rfl) ?_
  refine WK.weak (l := [(.t 0, [.data (.agg [.slc false none 2 (List.map TChain.en s.Chains), .val (.int .i64 s.Mark)])]), (.t 1, [sv k_v])]) (wk_of (by kernel_rfl)) ?_
  unfold store_keeper_chain at h
  refine WK.rs (g := []) (l' := [(.t 1, [sv k_v]), (.t 2, [.ptr 2 0]), (.o 2, [.data (.slc false none 2 (List.map TChain.en s.Chains)), iv s.Mark])]) (by kernel_rfl) .nil (by kernel_rfl) ?_
  refine WK.seq (by kernel_rfl) ?_
  obtain ⟨⟨r2_1, r2_2⟩, h2_3, h⟩ := bd_inv h
  refine WK.rs (g := [.a ⟨.tup [iv r2_1, bv r2_2], []⟩]) (l' := [(.t 2, [.ptr 2 0]), (.t 5, [iv r2_1]), (.t 6, [bv r2_2]), (.o 2, [.data (.slc false none 2 (List.map TChain.en s.Chains)), iv s.Mark])]) (by kernel_rfl) (.cons (Asks.of (C := Meets Try.prog) (store_keeper_find.meets fu s k_v _ _ h2_3)) .nil) (by kernel_rfl) ?_
  refine WK.rs (g := []) (l' := [(.t 2, [.ptr 2 0]), (.t 5, [iv r2_1]), (.t 13, [bv r2_2]), (.o 2, [.data (.slc false none 2 (List.map TChain.en s.Chains)), iv s.Mark])]) (by kernel_rfl) .nil (by kernel_rfl) ?_
  rcases br_inv h with ⟨b4_0, h⟩ | ⟨b4_0, h⟩
  · refine WK.ct (b := r2_2) (by kernel_rfl) b4_0 ?_
    obtain ⟨x5_1, a5_2, e5_3, h⟩ := ix_inv h
    refine WK.rs (g := [.c (TChain.en x5_1)]) (l' := [(.t 4, [.data (.slc false none 3 (List.map TVersion.en x5_1.L))])]) (by kernel_rfl) (.cons (c_ix (e := TChain.en) a5_2 e5_3) (.cons (c_el (e := TChain.en) e5_3) .nil)) (by kernel_rfl) ?_
    refine WK.weak (l := [(.t 4, [.data (.slc false none 3 (List.map TVersion.en x5_1.L))])]) (wk_of (by kernel_rfl)) ?_
    refine WK.ret (by kernel_rfl) ?_
    have h_ := some_inj h
    subst h_
    exact WKe.fin (e' := .ret) (by kernel_rfl) (fin_of (g := []) (by first | exact .inl rfl | exact .inr rfl) .nil (by kernel_rfl))
  · refine WK.ce (b := r2_2) (by kernel_rfl) b4_0 ?_
    refine WK.skip (by kernel_rfl) ?_
    refine WKe.code (y := (cR (cR bd50))) (ks' := []) (by kernel_rfl) ?_
    refine WK.rs (g := []) (l' := [(.t 4, [.data (.slc false (some true) 3 (List.map TVersion.en []))])]) (by kernel_rfl) .nil (by kernel_rfl) ?_
    refine WK.weak (l := [(.t 4, [.data (.slc false none 3 (List.map TVersion.en []))])]) (wk_of (by kernel_rfl)) ?_
    refine WK.ret (by kernel_rfl) ?_
    have h_ := some_inj h
    subst h_
    exact WKe.fin (e' := .ret) (by kernel_rfl) (fin_of (g := []) (by first | exact .inl rfl | exact .inr rfl) .nil (by kernel_rfl))
/-- (diwan/chain.versions).last -/
noncomputable def bd60 : Code := (Try.f60.body).getD .skip
def chain_versions_last.O : Nat → Nat := fun t => bif ([2] : List Nat).any (Nat.beq t) then 1 else 0
noncomputable def chain_versions_last (l : List TVersion) : Option Int :=
  br ((l.length : Int) == 0)
    (some 0)
    (ix l (w64 ((l.length : Int) - 1)) fun x5_1 =>
    some x5_1.Pos)
theorem chain_versions_last.meets (l : List TVersion) (z0 : Int) (h : chain_versions_last l = some z0) : Meets Try.prog ⟨60, [.data (.slc false none 3 (List.map TVersion.en l))], []⟩ ⟨iv z0, []⟩ := by
  refine meets_of (O := chain_versions_last.O) hmix (fn := Try.f60) (code := bd60) (by kernel_rfl) ?_
  refine WK.weak (l := [(.t 0, [.data (.slc false none 3 (List.map TVersion.en l))])]) (wk_of (by kernel_rfl)) ?_
  unfold chain_versions_last at h
  refine WK.rs (g := []) (l' := [(.t 0, [.data (.slc false none 3 (List.map TVersion.en l))])]) (by kernel_rfl) .nil (by kernel_rfl) ?_
  refine WK.seq (by kernel_rfl) ?_
  refine WK.rs (g := [.s (.t 4) [iv (l.length : Int)]]) (l' := [(.t 0, [.data (.slc false none 3 (List.map TVersion.en l))]), (.t 5, [bv ((l.length : Int) == 0)])]) (by kernel_rfl) (.cons (c_len (e := TVersion.en) (l := l)) .nil) (by kernel_rfl) ?_
  rcases br_inv h with ⟨b3_0, h⟩ | ⟨b3_0, h⟩
  · refine WK.ct (b := ((l.length : Int) == 0)) (by kernel_rfl) b3_0 ?_
    refine WK.rs (g := []) (l' := [(.t 2, [iv 0])]) (by kernel_rfl) .nil (by kernel_rfl) ?_
    refine WK.weak (l := [(.t 2, [iv 0])]) (wk_of (by kernel_rfl)) ?_
    refine WK.ret (by kernel_rfl) ?_
    have h_ := some_inj h
    subst h_
    exact WKe.fin (e' := .ret) (by kernel_rfl) (fin_of (g := []) (by first | exact .inl rfl | exact .inr rfl) .nil (by kernel_rfl))
  · refine WK.ce (b := ((l.length : Int) == 0)) (by kernel_rfl) b3_0 ?_
    refine WK.skip (by kernel_rfl) ?_
    refine WKe.code (y := (cR (cR bd60))) (ks' := []) (by kernel_rfl) ?_
    obtain ⟨x5_1, a5_2, e5_3, h⟩ := ix_inv h
    refine WK.rs (g := [.s (.t 8) [iv (l.length : Int)], .c (TVersion.en x5_1)]) (l' := [(.t 2, [iv x5_1.Pos])]) (by kernel_rfl) (.cons (c_len (e := TVersion.en) (l := l)) (.cons (c_ix (e := TVersion.en) a5_2 e5_3) (.cons (c_el (e := TVersion.en) e5_3) .nil))) (by kernel_rfl) ?_
    refine WK.weak (l := [(.t 2, [iv x5_1.Pos])]) (wk_of (by kernel_rfl)) ?_
    refine WK.ret (by kernel_rfl) ?_
    have h_ := some_inj h
    subst h_
    exact WKe.fin (e' := .ret) (by kernel_rfl) (fin_of (g := []) (by first | exact .inl rfl | exact .inr rfl) .nil (by kernel_rfl))
/-- diwan/chain.Last -/
noncomputable def bd51 : Code := (Try.f51.body).getD .skip
def chain_Last.O : Nat → Nat := fun t => bif ([2, 3] : List Nat).any (Nat.beq t) then 1 else 0
noncomputable def chain_Last (l : List TVersion) : Option Int :=
  bd (chain_versions_last l) fun r3_1 =>
  some r3_1
theorem chain_Last.meets (l : List TVersion) (z0 : Int) (h : chain_Last l = some z0) : Meets Try.prog ⟨51, [.data (.slc false none 3 (List.map TVersion.en l))], []⟩ ⟨iv z0, []⟩ := by
  refine meets_of (O := chain_Last.O) hmix (fn := Try.f51) (code := bd51) (by kernel_rfl) ?_
  refine WK.weak (l := [(.t 0, [.data (.slc false none 3 (List.map TVersion.en l))])]) (wk_of (by kernel_rfl)) ?_
  unfold chain_Last at h
  refine WK.rs (g := []) (l' := [(.t 0, [.data (.slc false none 3 (List.map TVersion.en l))])]) (by kernel_rfl) .nil (by kernel_rfl) ?_
  refine WK.rs (g := []) (l' := [(.t 3, [.fn (.func 60) [.data (.slc false none 3 (List.map TVersion.en l))] []])]) (by kernel_rfl) .nil (by kernel_rfl) ?_
  obtain ⟨r3_1, h3_2, h⟩ := bd_inv h
  refine WK.rs (g := [.a ⟨iv r3_1, []⟩]) (l' := [(.t 2, [iv r3_1])]) (by kernel_rfl) (.cons (Asks.of (C := Meets Try.prog) (chain_versions_last.meets l _ h3_2)) .nil) (by kernel_rfl) ?_
  refine WK.weak (l := [(.t 2, [iv r3_1])]) (wk_of (by kernel_rfl)) ?_
  refine WK.ret (by kernel_rfl) ?_
  have h_ := some_inj h
  subst h_
  exact WKe.fin (e' := .ret) (by kernel_rfl) (fin_of (g := []) (by first | exact .inl rfl | exact .inr rfl) .nil (by kernel_rfl))
/-- diwan/store.Last -/
noncomputable def bd39 : Code := (Try.f39.body).getD .skip
def store_Last.O : Nat → Nat := fun t => bif ([2, 4, 5] : List Nat).any (Nat.beq t) then 1 else 0
noncomputable def store_Last (fu : Nat) (s : TStore) (k_v : ByteArray) : Option Int :=
  bd (store_keeper_chain fu s k_v) fun r3_1 =>
  bd (chain_Last r3_1) fun r3_3 =>
  some r3_3
theorem store_Last.meets (fu : Nat) (s : TStore) (k_v : ByteArray) (z0 : Int) (h : store_Last fu s k_v = some z0) : Meets Try.prog ⟨39, [.data (.agg [.slc false none 2 (List.map TChain.en s.Chains), .val (.int .i64 s.Mark)]), sv k_v], []⟩ ⟨iv z0, []⟩ := by
  refine meets_of (O := store_Last.O) hmix (fn := Try.f39) (code := bd39) (by kernel_rfl) ?_
  refine WK.weak (l := [(.t 0, [.data (.agg [.slc false none 2 (List.map TChain.en s.Chains), .val (.int .i64 s.Mark)])]), (.t 1, [sv k_v])]) (wk_of (by kernel_rfl)) ?_
  unfold store_Last at h
  refine WK.rs (g := []) (l' := [(.t 1, [sv k_v]), (.t 2, [.ptr 2 0]), (.o 2, [.data (.slc false none 2 (List.map TChain.en s.Chains)), iv s.Mark])]) (by kernel_rfl) .nil (by kernel_rfl) ?_
  refine WK.rs (g := []) (l' := [(.t 1, [sv k_v]), (.t 2, [.ptr 2 0]), (.t 5, [.fn (.func 50) [] []]), (.o 2, [.data (.slc false none 2 (List.map TChain.en s.Chains)), iv s.Mark])]) (by kernel_rfl) .nil (by kernel_rfl) ?_
  obtain ⟨r3_1, h3_2, h⟩ := bd_inv h
  obtain ⟨r3_3, h3_4, h⟩ := bd_inv h
  refine WK.rs (g := [.a ⟨.data (.slc false none 3 (List.map TVersion.en r3_1)), []⟩, .a ⟨iv r3_3, []⟩]) (l' := [(.t 4, [iv r3_3])]) (by kernel_rfl) (.cons (Asks.of (C := Meets Try.prog) (store_keeper_chain.meets fu s k_v _ h3_2)) (.cons (Asks.of (C := Meets Try.prog) (chain_Last.meets r3_1 _ h3_4)) .nil)) (by kernel_rfl) ?_
  refine WK.weak (l := [(.t 4, [iv r3_3])]) (wk_of (by kernel_rfl)) ?_
  refine WK.ret (by kernel_rfl) ?_
  have h_ := some_inj h
  subst h_
  exact WKe.fin (e' := .ret) (by kernel_rfl) (fin_of (g := []) (by first | exact .inl rfl | exact .inr rfl) .nil (by kernel_rfl))
/-- (*diwan/judge.bench).holds$1 -/
noncomputable def bd38 : Code := (Try.f38.body).getD .skip
def judge_bench_holds_1.O : Nat → Nat := fun t => bif ([2, 3] : List Nat).any (Nat.beq t) then 1 else 0
noncomputable def judge_bench_holds_1 (fu : Nat) (r_v : TRead) (o1_v : TBench) : Option Bool :=
  bd (store_Last fu o1_v.store r_v.Key) fun r2_1 =>
  some (r_v.Version != r2_1)
theorem judge_bench_holds_1.meets (fu : Nat) (r_v : TRead) (o1_v : TBench) (z0 : Bool) (h : judge_bench_holds_1 fu r_v o1_v = some z0) : Meets Try.prog ⟨38, [.data (TRead.ag r_v), .ptr 1000 0], [[.ptr 1001 0], (TBench.ob_11 o1_v)]⟩ ⟨bv z0, [[.ptr 1001 0], (TBench.ob_11 o1_v)]⟩ := by
  refine meets_of (O := judge_bench_holds_1.O) hmix (fn := Try.f38) (code := bd38) (by kernel_rfl) ?_
  refine WK.weak (l := [(.t 0, [.data (TRead.ag r_v)]), (.t 1, [.ptr 1000 0]), (.o 1000, [.ptr 1001 0]), (.o 1001, (TBench.ob_11 o1_v))]) (wk_of (by kernel_rfl)) ?_
  unfold judge_bench_holds_1 at h
  refine WK.rs (g := []) (l' := [(.t 1, [.ptr 1000 0]), (.t 2, [.ptr 2 0]), (.o 2, (TRead.ob r_v)), (.o 1000, [.ptr 1001 0]), (.o 1001, (TBench.ob_11 o1_v))]) (by kernel_rfl) .nil (by kernel_rfl) ?_
  obtain ⟨r2_1, h2_2, h⟩ := bd_inv h
  refine WK.rs (g := [.a ⟨iv r2_1, []⟩]) (l' := [(.t 3, [bv (r_v.Version != r2_1)]), (.o 1000, [.ptr 1001 0]), (.o 1001, (TBench.ob_11 o1_v))]) (by kernel_rfl) (.cons (Asks.of (C := Meets Try.prog) (store_Last.meets fu o1_v.store r_v.Key _ h2_2)) (.cons (Eq.refl true) .nil)) (by kernel_rfl) ?_
  refine WK.weak (l := [(.t 3, [bv (r_v.Version != r2_1)]), (.o 1000, [.ptr 1001 0]), (.o 1001, (TBench.ob_11 o1_v))]) (wk_of (by kernel_rfl)) ?_
  refine WK.ret (by kernel_rfl) ?_
  have h_ := some_inj h
  subst h_
  exact WKe.fin (e' := .ret) (by kernel_rfl) (fin_of (g := []) (by first | exact .inl rfl | exact .inr rfl) .nil (by kernel_rfl))
/-- slices.IndexFunc[[]diwan/api.Read,diwan/api.Read] -/
noncomputable def bd49 : Code := (Try.f49.body).getD .skip
def slices_IndexFunc_api_Read.O : Nat → Nat := fun t => bif ([4, 5] : List Nat).any (Nat.beq t) then 1 else 0
noncomputable def slices_IndexFunc_api_Read.lp3 (fu : Nat) (l3_0 : List TRead) (l3_1 : Int) (l3_3 : TBench) : Nat → Int → Option (Unit ⊕ Int)
  | 0, _ => none
  | n_ + 1, l3_2 =>
    br (decide (l3_2 < l3_1))
      (ix l3_0 l3_2 fun x7_1 =>
      bd (judge_bench_holds_1 fu x7_1 l3_3) fun r7_4 =>
      br r7_4
        (some (.inr l3_2))
        (slices_IndexFunc_api_Read.lp3 fu l3_0 l3_1 l3_3 n_ (w64 (l3_2 + 1))))
      (some (.inl ()))
noncomputable def slices_IndexFunc_api_Read.lp3_post (l3_0 : List TRead) (l3_1 : Int) (l3_3 : TBench) (r_ : (Unit ⊕ Int)) : Wy → St → Prop := fun e τ => match r_ with
  | .inl _ => e = .exit 0 ∧ τ = ofL [(.o 1000, [.ptr 1001 0]), (.o 1001, (TBench.ob_11 l3_3))]
  | .inr y0 => e = .ret ∧ τ = ofL [(.t 4, [iv y0]), (.o 1000, [.ptr 1001 0]), (.o 1001, (TBench.ob_11 l3_3))]
theorem slices_IndexFunc_api_Read.lp3_ok (fu : Nat) (l3_0 : List TRead) (l3_1 : Int) (l3_3 : TBench) : ∀ (n_ : Nat) (l3_2 : Int) (r_ : (Unit ⊕ Int)), slices_IndexFunc_api_Read.lp3 fu l3_0 l3_1 l3_3 n_ l3_2 = some r_ → WK Try.prog slices_IndexFunc_api_Read.O (Ck Try.prog) (cB (cR (cL (cR bd49)))) [] (ofL [(.t 0, [.data (.slc false none 4 (List.map TRead.en l3_0))]), (.t 1, [.fn (.func 38) [] [.ptr 1000 0]]), (.t 7, [iv l3_1]), (.t 8, [iv l3_2]), (.o 1000, [.ptr 1001 0]), (.o 1001, (TBench.ob_11 l3_3))]) (slices_IndexFunc_api_Read.lp3_post l3_0 l3_1 l3_3 r_) := by
  intro n_
  induction n_ with
  | zero => intro l3_2 r_ h; exact no_none h
  | succ n_ ih =>
    intro l3_2 r_ h
    refine WK.loop (by kernel_rfl) ?_
    refine WK.rs (g := []) (l' := [(.t 0, [.data (.slc false none 4 (List.map TRead.en l3_0))]), (.t 1, [.fn (.func 38) [] [.ptr 1000 0]]), (.t 7, [iv l3_1]), (.t 8, [iv l3_2]), (.t 9, [bv (decide (l3_2 < l3_1))]), (.o 1000, [.ptr 1001 0]), (.o 1001, (TBench.ob_11 l3_3))]) (by kernel_rfl) .nil (by kernel_rfl) ?_
    refine WK.seq (by kernel_rfl) ?_
    rcases br_inv h with ⟨b5_0, h⟩ | ⟨b5_0, h⟩
    · refine WK.ct (b := (decide (l3_2 < l3_1))) (by kernel_rfl) b5_0 ?_
      refine WK.skip (by kernel_rfl) ?_
      refine WKe.code (y := (cR (cR (cB (cB (cR (cL (cR bd49)))))))) (ks' := [.lp (cB (cR (cL (cR bd49))))]) (by kernel_rfl) ?_
      refine WK.seq (by kernel_rfl) ?_
      refine WK.block (n := 1) (by kernel_rfl) ?_
      refine WK.rs (g := []) (l' := [(.t 0, [.data (.slc false none 4 (List.map TRead.en l3_0))]), (.t 1, [.fn (.func 38) [] [.ptr 1000 0]]), (.t 5, [iv l3_2]), (.t 7, [iv l3_1]), (.t 8, [iv l3_2]), (.o 1000, [.ptr 1001 0]), (.o 1001, (TBench.ob_11 l3_3))]) (by kernel_rfl) .nil (by kernel_rfl) ?_
      obtain ⟨x7_1, a7_2, e7_3, h⟩ := ix_inv h
      obtain ⟨r7_4, h7_5, h⟩ := bd_inv h
      refine WK.rs (g := [.c (TRead.en x7_1), .a ⟨bv r7_4, [[.ptr 1001 0], (TBench.ob_11 l3_3)]⟩]) (l' := [(.t 0, [.data (.slc false none 4 (List.map TRead.en l3_0))]), (.t 1, [.fn (.func 38) [] [.ptr 1000 0]]), (.t 5, [iv l3_2]), (.t 7, [iv l3_1]), (.t 8, [iv l3_2]), (.t 16, [bv r7_4]), (.o 1000, [.ptr 1001 0]), (.o 1001, (TBench.ob_11 l3_3))]) (by kernel_rfl) (.cons (c_ix (e := TRead.en) a7_2 e7_3) (.cons (c_el (e := TRead.en) e7_3) (.cons (Asks.of (C := Meets Try.prog) (judge_bench_holds_1.meets fu x7_1 l3_3 _ h7_5)) .nil))) (by kernel_rfl) ?_
      rcases br_inv h with ⟨b8_0, h⟩ | ⟨b8_0, h⟩
      · refine WK.ct (b := r7_4) (by kernel_rfl) b8_0 ?_
        refine WK.rs (g := []) (l' := [(.t 4, [iv l3_2]), (.o 1000, [.ptr 1001 0]), (.o 1001, (TBench.ob_11 l3_3))]) (by kernel_rfl) .nil (by kernel_rfl) ?_
        refine WK.weak (l := [(.t 4, [iv l3_2]), (.o 1000, [.ptr 1001 0]), (.o 1001, (TBench.ob_11 l3_3))]) (wk_of (by kernel_rfl)) ?_
        refine WK.ret (by kernel_rfl) ?_
        cases some_inj h
        exact WKe.fin (e' := .ret) (by kernel_rfl) ⟨rfl, rfl⟩
      · refine WK.ce (b := r7_4) (by kernel_rfl) b8_0 ?_
        refine WK.skip (by kernel_rfl) ?_
        refine WKe.code (y := (cR (cR (cR (cB (cB (cR (cL (cR bd49))))))))) (ks' := [.lp (cB (cR (cL (cR bd49))))]) (by kernel_rfl) ?_
        refine WK.rc (g := []) (l' := [(.t 0, [.data (.slc false none 4 (List.map TRead.en l3_0))]), (.t 1, [.fn (.func 38) [] [.ptr 1000 0]]), (.t 7, [iv l3_1]), (.t 8, [iv (w64 (l3_2 + 1))]), (.o 1000, [.ptr 1001 0]), (.o 1001, (TBench.ob_11 l3_3))]) .nil (by kernel_rfl) (y := (cB (cR (cL (cR bd49))))) (ks' := []) (by kernel_rfl) ?_
        exact WK.weak (l := [(.t 0, [.data (.slc false none 4 (List.map TRead.en l3_0))]), (.t 1, [.fn (.func 38) [] [.ptr 1000 0]]), (.t 7, [iv l3_1]), (.t 8, [iv (w64 (l3_2 + 1))]), (.o 1000, [.ptr 1001 0]), (.o 1001, (TBench.ob_11 l3_3))]) (wk_of (by kernel_rfl)) (ih (w64 (l3_2 + 1)) _ h)
    · refine WK.ce (b := (decide (l3_2 < l3_1))) (by kernel_rfl) b5_0 ?_
      refine WK.weak (l := [(.o 1000, [.ptr 1001 0]), (.o 1001, (TBench.ob_11 l3_3))]) (wk_of (by kernel_rfl)) ?_
      refine WK.exit (n := 0) (by kernel_rfl) ?_
      cases some_inj h
      exact WKe.fin (e' := .exit 0) (by kernel_rfl) ⟨rfl, rfl⟩
noncomputable def slices_IndexFunc_api_Read (fu : Nat) (s : List TRead) (o1_v : TBench) : Option Int :=
  bd (slices_IndexFunc_api_Read.lp3 fu s (s.length : Int) o1_v fu 0) fun o_ => (match o_ with
  | .inl _ =>
    some (-1)
  | .inr y11_0 =>
    some y11_0)
theorem slices_IndexFunc_api_Read.meets (fu : Nat) (s : List TRead) (o1_v : TBench) (z0 : Int) (h : slices_IndexFunc_api_Read fu s o1_v = some z0) : Meets Try.prog ⟨49, [.data (.slc false none 4 (List.map TRead.en s)), .fn (.func 38) [] [.ptr 1000 0]], [[.ptr 1001 0], (TBench.ob_11 o1_v)]⟩ ⟨iv z0, [[.ptr 1001 0], (TBench.ob_11 o1_v)]⟩ := by
  refine meets_of (O := slices_IndexFunc_api_Read.O) hmix (fn := Try.f49) (code := bd49) (by kernel_rfl) ?_
  refine WK.weak (l := [(.t 0, [.data (.slc false none 4 (List.map TRead.en s))]), (.t 1, [.fn (.func 38) [] [.ptr 1000 0]]), (.o 1000, [.ptr 1001 0]), (.o 1001, (TBench.ob_11 o1_v))]) (wk_of (by kernel_rfl)) ?_
  unfold slices_IndexFunc_api_Read at h
  refine WK.rs (g := []) (l' := [(.t 0, [.data (.slc false none 4 (List.map TRead.en s))]), (.t 1, [.fn (.func 38) [] [.ptr 1000 0]]), (.o 1000, [.ptr 1001 0]), (.o 1001, (TBench.ob_11 o1_v))]) (by kernel_rfl) .nil (by kernel_rfl) ?_
  refine WK.seq (by kernel_rfl) ?_
  refine WK.rs (g := [.s (.t 7) [iv (s.length : Int)]]) (l' := [(.t 0, [.data (.slc false none 4 (List.map TRead.en s))]), (.t 1, [.fn (.func 38) [] [.ptr 1000 0]]), (.t 7, [iv (s.length : Int)]), (.t 8, [iv 0]), (.o 1000, [.ptr 1001 0]), (.o 1001, (TBench.ob_11 o1_v))]) (by kernel_rfl) (.cons (c_len (e := TRead.en) (l := s)) .nil) (by kernel_rfl) ?_
  refine WK.block (n := 0) (by kernel_rfl) ?_
  obtain ⟨o11, ho11, h⟩ := bd_inv h
  refine WK.weak (l := [(.t 0, [.data (.slc false none 4 (List.map TRead.en s))]), (.t 1, [.fn (.func 38) [] [.ptr 1000 0]]), (.t 7, [iv (s.length : Int)]), (.t 8, [iv 0]), (.o 1000, [.ptr 1001 0]), (.o 1001, (TBench.ob_11 o1_v))]) (wk_of (by kernel_rfl)) ?_
  refine WK.use (slices_IndexFunc_api_Read.lp3_ok fu s (s.length : Int) o1_v _ 0 _ ho11) ?_
  intro e_ τ_ hp_
  rcases o11 with o11 | o11
  · obtain ⟨⟩ := o11
    obtain ⟨rfl, rfl⟩ := hp_
    refine WKe.code (y := (cR (cR bd49))) (ks' := []) (by kernel_rfl) ?_
    refine WK.rs (g := []) (l' := [(.t 4, [iv (-1)]), (.o 1000, [.ptr 1001 0]), (.o 1001, (TBench.ob_11 o1_v))]) (by kernel_rfl) .nil (by kernel_rfl) ?_
    refine WK.weak (l := [(.t 4, [iv (-1)]), (.o 1000, [.ptr 1001 0]), (.o 1001, (TBench.ob_11 o1_v))]) (wk_of (by kernel_rfl)) ?_
    refine WK.ret (by kernel_rfl) ?_
    have h_ := some_inj h
    subst h_
    exact WKe.fin (e' := .ret) (by kernel_rfl) (fin_of (g := []) (by first | exact .inl rfl | exact .inr rfl) .nil (by kernel_rfl))
  · obtain ⟨y11_0, rfl⟩ : ∃ y, y = o11 := ⟨_, rfl⟩
    obtain ⟨rfl, rfl⟩ := hp_
    have h_ := some_inj h
    subst h_
    exact WKe.fin (e' := .ret) (by kernel_rfl) (fin_of (g := []) (by first | exact .inl rfl | exact .inr rfl) .nil (by kernel_rfl))
/-- slices.ContainsFunc[[]diwan/api.Read,diwan/api.Read] -/
noncomputable def bd37 : Code := (Try.f37.body).getD .skip
def slices_ContainsFunc_api_Read.O : Nat → Nat := fun t => bif ([4] : List Nat).any (Nat.beq t) then 1 else 0
noncomputable def slices_ContainsFunc_api_Read (fu : Nat) (s : List TRead) (o1_v : TBench) : Option Bool :=
  bd (slices_IndexFunc_api_Read fu s o1_v) fun r2_1 =>
  some (decide (r2_1 ≥ 0))
theorem slices_ContainsFunc_api_Read.meets (fu : Nat) (s : List TRead) (o1_v : TBench) (z0 : Bool) (h : slices_ContainsFunc_api_Read fu s o1_v = some z0) : Meets Try.prog ⟨37, [.data (.slc false none 4 (List.map TRead.en s)), .fn (.func 38) [] [.ptr 1000 0]], [[.ptr 1001 0], (TBench.ob_11 o1_v)]⟩ ⟨bv z0, [[.ptr 1001 0], (TBench.ob_11 o1_v)]⟩ := by
  refine meets_of (O := slices_ContainsFunc_api_Read.O) hmix (fn := Try.f37) (code := bd37) (by kernel_rfl) ?_
  refine WK.weak (l := [(.t 0, [.data (.slc false none 4 (List.map TRead.en s))]), (.t 1, [.fn (.func 38) [] [.ptr 1000 0]]), (.o 1000, [.ptr 1001 0]), (.o 1001, (TBench.ob_11 o1_v))]) (wk_of (by kernel_rfl)) ?_
  unfold slices_ContainsFunc_api_Read at h
  refine WK.rs (g := []) (l' := [(.t 0, [.data (.slc false none 4 (List.map TRead.en s))]), (.t 1, [.fn (.func 38) [] [.ptr 1000 0]]), (.o 1000, [.ptr 1001 0]), (.o 1001, (TBench.ob_11 o1_v))]) (by kernel_rfl) .nil (by kernel_rfl) ?_
  obtain ⟨r2_1, h2_2, h⟩ := bd_inv h
  refine WK.rs (g := [.a ⟨iv r2_1, [[.ptr 1001 0], (TBench.ob_11 o1_v)]⟩]) (l' := [(.t 4, [bv (decide (r2_1 ≥ 0))]), (.o 1000, [.ptr 1001 0]), (.o 1001, (TBench.ob_11 o1_v))]) (by kernel_rfl) (.cons (Asks.of (C := Meets Try.prog) (slices_IndexFunc_api_Read.meets fu s o1_v _ h2_2)) .nil) (by kernel_rfl) ?_
  refine WK.weak (l := [(.t 4, [bv (decide (r2_1 ≥ 0))]), (.o 1000, [.ptr 1001 0]), (.o 1001, (TBench.ob_11 o1_v))]) (wk_of (by kernel_rfl)) ?_
  refine WK.ret (by kernel_rfl) ?_
  have h_ := some_inj h
  subst h_
  exact WKe.fin (e' := .ret) (by kernel_rfl) (fin_of (g := []) (by first | exact .inl rfl | exact .inr rfl) .nil (by kernel_rfl))
/-- (*diwan/judge.bench).holds -/
noncomputable def bd29 : Code := (Try.f29.body).getD .skip
def judge_bench_holds.O : Nat → Nat := fun t => bif ([2, 3, 4] : List Nat).any (Nat.beq t) then 1 else 0
noncomputable def judge_bench_holds (fu : Nat) (t : TTxn) (o0_v : TBench) : Option Bool :=
  bd (slices_ContainsFunc_api_Read fu t.Reads o0_v) fun r2_1 =>
  some (!r2_1)
theorem judge_bench_holds.meets (fu : Nat) (t : TTxn) (o0_v : TBench) (z0 : Bool) (h : judge_bench_holds fu t o0_v = some z0) : Meets Try.prog ⟨29, [.ptr 1000 0, .data (TTxn.ag t)], [(TBench.ob_11 o0_v)]⟩ ⟨bv z0, [(TBench.ob_11 o0_v)]⟩ := by
  refine meets_of (O := judge_bench_holds.O) hmix (fn := Try.f29) (code := bd29) (by kernel_rfl) ?_
  refine WK.weak (l := [(.t 0, [.ptr 1000 0]), (.t 1, [.data (TTxn.ag t)]), (.o 1000, (TBench.ob_11 o0_v))]) (wk_of (by kernel_rfl)) ?_
  unfold judge_bench_holds at h
  refine WK.rs (g := []) (l' := [(.t 2, [.ptr 2 0]), (.t 3, [.ptr 3 0]), (.o 2, [.ptr 1000 0]), (.o 3, (TTxn.ob t)), (.o 1000, (TBench.ob_11 o0_v))]) (by kernel_rfl) .nil (by kernel_rfl) ?_
  obtain ⟨r2_1, h2_2, h⟩ := bd_inv h
  refine WK.rs (g := [.a ⟨bv r2_1, [[.ptr 1001 0], (TBench.ob_11 o0_v)]⟩]) (l' := [(.t 4, [bv (!r2_1)]), (.o 1000, (TBench.ob_11 o0_v))]) (by kernel_rfl) (.cons (Asks.of (C := Meets Try.prog) (slices_ContainsFunc_api_Read.meets fu t.Reads o0_v _ h2_2)) .nil) (by kernel_rfl) ?_
  refine WK.weak (l := [(.t 4, [bv (!r2_1)]), (.o 1000, (TBench.ob_11 o0_v))]) (wk_of (by kernel_rfl)) ?_
  refine WK.ret (by kernel_rfl) ?_
  have h_ := some_inj h
  subst h_
  exact WKe.fin (e' := .ret) (by kernel_rfl) (fin_of (g := []) (by first | exact .inl rfl | exact .inr rfl) .nil (by kernel_rfl))
/-- slices.Clone[[]diwan/api.Chain,diwan/api.Chain] -/
noncomputable def bd52 : Code := (Try.f52.body).getD .skip
def slices_Clone_api_Chain.O : Nat → Nat := fun t => bif ([2, 5] : List Nat).any (Nat.beq t) then 1 else 0
noncomputable def slices_Clone_api_Chain (s : List TChain) : Option (List TChain) :=
  gd (decide (([] : List TChain).length + s.length ≤ 4294967296)) <|
  some s
theorem slices_Clone_api_Chain.meets1 (s : List TChain) (z0 : List TChain) (h : slices_Clone_api_Chain s = some z0) : Meets Try.prog ⟨52, [.data (.slc false (some false) 2 (List.map TChain.en s))], []⟩ ⟨.data (.slc true none 2 (List.map TChain.en z0)), []⟩ := by
  refine meets_of (O := slices_Clone_api_Chain.O) hmix (fn := Try.f52) (code := bd52) (by kernel_rfl) ?_
  refine WK.weak (l := [(.t 0, [.data (.slc false (some false) 2 (List.map TChain.en s))])]) (wk_of (by kernel_rfl)) ?_
  unfold slices_Clone_api_Chain at h
  refine WK.rs (g := []) (l' := [(.t 0, [.data (.slc false (some false) 2 (List.map TChain.en s))])]) (by kernel_rfl) .nil (by kernel_rfl) ?_
  refine WK.seq (by kernel_rfl) ?_
  refine WK.rs (g := []) (l' := [(.t 0, [.data (.slc false (some false) 2 (List.map TChain.en s))]), (.t 4, [bv false])]) (by kernel_rfl) .nil (by kernel_rfl) ?_
  refine WK.ce (b := false) (by kernel_rfl) rfl ?_
  refine WK.skip (by kernel_rfl) ?_
  refine WKe.code (y := (cR (cR bd52))) (ks' := []) (by kernel_rfl) ?_
  obtain ⟨c5_1, h⟩ := gd_inv h
  refine WK.rs (g := []) (l' := [(.t 2, [.data (.slc true none 2 (List.map TChain.en s))])]) (by kernel_rfl) (.cons (c_al (e := TChain.en) (f := TChain.en) c5_1) .nil) (by kernel_rfl) ?_
  refine WK.weak (l := [(.t 2, [.data (.slc true none 2 (List.map TChain.en s))])]) (wk_of (by kernel_rfl)) ?_
  refine WK.ret (by kernel_rfl) ?_
  have h_ := some_inj h
  subst h_
  exact WKe.fin (e' := .ret) (by kernel_rfl) (fin_of (g := []) (by first | exact .inl rfl | exact .inr rfl) .nil (by kernel_rfl))
noncomputable def slices_Clone_api_Chain_nil : Option (List TChain) :=
  some []
theorem slices_Clone_api_Chain.meets0 (z0 : List TChain) (h : slices_Clone_api_Chain_nil = some z0) : Meets Try.prog ⟨52, [.data (.slc false (some true) 2 (List.map TChain.en []))], []⟩ ⟨.data (.slc true none 2 (List.map TChain.en z0)), []⟩ := by
  refine meets_of (O := slices_Clone_api_Chain.O) hmix (fn := Try.f52) (code := bd52) (by kernel_rfl) ?_
  refine WK.weak (l := [(.t 0, [.data (.slc false (some true) 2 (List.map TChain.en []))])]) (wk_of (by kernel_rfl)) ?_
  unfold slices_Clone_api_Chain_nil at h
  refine WK.rs (g := []) (l' := [(.t 0, [.data (.slc false (some true) 2 (List.map TChain.en []))])]) (by kernel_rfl) .nil (by kernel_rfl) ?_
  refine WK.seq (by kernel_rfl) ?_
  refine WK.rs (g := []) (l' := [(.t 0, [.data (.slc false (some true) 2 (List.map TChain.en []))]), (.t 4, [bv true])]) (by kernel_rfl) .nil (by kernel_rfl) ?_
  refine WK.ct (b := true) (by kernel_rfl) rfl ?_
  refine WK.rs (g := []) (l' := [(.t 2, [.data (.slc true (some true) 2 (List.map TChain.en []))])]) (by kernel_rfl) .nil (by kernel_rfl) ?_
  refine WK.weak (l := [(.t 2, [.data (.slc true none 2 (List.map TChain.en []))])]) (wk_of (by kernel_rfl)) ?_
  refine WK.ret (by kernel_rfl) ?_
  have h_ := some_inj h
  subst h_
  exact WKe.fin (e' := .ret) (by kernel_rfl) (fin_of (g := []) (by first | exact .inl rfl | exact .inr rfl) .nil (by kernel_rfl))
theorem slices_Clone_api_Chain.nil_eq : slices_Clone_api_Chain [] = slices_Clone_api_Chain_nil := by kernel_rfl
theorem slices_Clone_api_Chain.meets (s : List TChain) (z0 : List TChain) (h : slices_Clone_api_Chain s = some z0) : Meets Try.prog ⟨52, [.data (.slc false none 2 (List.map TChain.en s))], []⟩ ⟨.data (.slc true none 2 (List.map TChain.en z0)), []⟩ := by
  refine asks_ok (C := Meets Try.prog) (fun _ _ h => h) (Asks.nil (args1 := []) (args2 := []) (sz := 2) (es := List.map TChain.en s) (fun e => .of ?_) (.of (slices_Clone_api_Chain.meets1 s z0 h)))
  obtain rfl : s = [] := List.map_eq_nil_iff.1 e
  exact slices_Clone_api_Chain.meets0 z0 (slices_Clone_api_Chain.nil_eq  ▸ h)
/-- slices.Clone[[]diwan/api.Version,diwan/api.Version] -/
noncomputable def bd53 : Code := (Try.f53.body).getD .skip
def slices_Clone_api_Version.O : Nat → Nat := fun t => bif ([2, 5] : List Nat).any (Nat.beq t) then 1 else 0
noncomputable def slices_Clone_api_Version (s : List TVersion) : Option (List TVersion) :=
  gd (decide (([] : List TVersion).length + s.length ≤ 4294967296)) <|
  some s
theorem slices_Clone_api_Version.meets1 (s : List TVersion) (z0 : List TVersion) (h : slices_Clone_api_Version s = some z0) : Meets Try.prog ⟨53, [.data (.slc false (some false) 3 (List.map TVersion.en s))], []⟩ ⟨.data (.slc true none 3 (List.map TVersion.en z0)), []⟩ := by
  refine meets_of (O := slices_Clone_api_Version.O) hmix (fn := Try.f53) (code := bd53) (by kernel_rfl) ?_
  refine WK.weak (l := [(.t 0, [.data (.slc false (some false) 3 (List.map TVersion.en s))])]) (wk_of (by kernel_rfl)) ?_
  unfold slices_Clone_api_Version at h
  refine WK.rs (g := []) (l' := [(.t 0, [.data (.slc false (some false) 3 (List.map TVersion.en s))])]) (by kernel_rfl) .nil (by kernel_rfl) ?_
  refine WK.seq (by kernel_rfl) ?_
  refine WK.rs (g := []) (l' := [(.t 0, [.data (.slc false (some false) 3 (List.map TVersion.en s))]), (.t 4, [bv false])]) (by kernel_rfl) .nil (by kernel_rfl) ?_
  refine WK.ce (b := false) (by kernel_rfl) rfl ?_
  refine WK.skip (by kernel_rfl) ?_
  refine WKe.code (y := (cR (cR bd53))) (ks' := []) (by kernel_rfl) ?_
  obtain ⟨c5_1, h⟩ := gd_inv h
  refine WK.rs (g := []) (l' := [(.t 2, [.data (.slc true none 3 (List.map TVersion.en s))])]) (by kernel_rfl) (.cons (c_al (e := TVersion.en) (f := TVersion.en) c5_1) .nil) (by kernel_rfl) ?_
  refine WK.weak (l := [(.t 2, [.data (.slc true none 3 (List.map TVersion.en s))])]) (wk_of (by kernel_rfl)) ?_
  refine WK.ret (by kernel_rfl) ?_
  have h_ := some_inj h
  subst h_
  exact WKe.fin (e' := .ret) (by kernel_rfl) (fin_of (g := []) (by first | exact .inl rfl | exact .inr rfl) .nil (by kernel_rfl))
noncomputable def slices_Clone_api_Version_nil : Option (List TVersion) :=
  some []
theorem slices_Clone_api_Version.meets0 (z0 : List TVersion) (h : slices_Clone_api_Version_nil = some z0) : Meets Try.prog ⟨53, [.data (.slc false (some true) 3 (List.map TVersion.en []))], []⟩ ⟨.data (.slc true none 3 (List.map TVersion.en z0)), []⟩ := by
  refine meets_of (O := slices_Clone_api_Version.O) hmix (fn := Try.f53) (code := bd53) (by kernel_rfl) ?_
  refine WK.weak (l := [(.t 0, [.data (.slc false (some true) 3 (List.map TVersion.en []))])]) (wk_of (by kernel_rfl)) ?_
  unfold slices_Clone_api_Version_nil at h
  refine WK.rs (g := []) (l' := [(.t 0, [.data (.slc false (some true) 3 (List.map TVersion.en []))])]) (by kernel_rfl) .nil (by kernel_rfl) ?_
  refine WK.seq (by kernel_rfl) ?_
  refine WK.rs (g := []) (l' := [(.t 0, [.data (.slc false (some true) 3 (List.map TVersion.en []))]), (.t 4, [bv true])]) (by kernel_rfl) .nil (by kernel_rfl) ?_
  refine WK.ct (b := true) (by kernel_rfl) rfl ?_
  refine WK.rs (g := []) (l' := [(.t 2, [.data (.slc true (some true) 3 (List.map TVersion.en []))])]) (by kernel_rfl) .nil (by kernel_rfl) ?_
  refine WK.weak (l := [(.t 2, [.data (.slc true none 3 (List.map TVersion.en []))])]) (wk_of (by kernel_rfl)) ?_
  refine WK.ret (by kernel_rfl) ?_
  have h_ := some_inj h
  subst h_
  exact WKe.fin (e' := .ret) (by kernel_rfl) (fin_of (g := []) (by first | exact .inl rfl | exact .inr rfl) .nil (by kernel_rfl))
theorem slices_Clone_api_Version.nil_eq : slices_Clone_api_Version [] = slices_Clone_api_Version_nil := by kernel_rfl
theorem slices_Clone_api_Version.meets (s : List TVersion) (z0 : List TVersion) (h : slices_Clone_api_Version s = some z0) : Meets Try.prog ⟨53, [.data (.slc false none 3 (List.map TVersion.en s))], []⟩ ⟨.data (.slc true none 3 (List.map TVersion.en z0)), []⟩ := by
  refine asks_ok (C := Meets Try.prog) (fun _ _ h => h) (Asks.nil (args1 := []) (args2 := []) (sz := 3) (es := List.map TVersion.en s) (fun e => .of ?_) (.of (slices_Clone_api_Version.meets1 s z0 h)))
  obtain rfl : s = [] := List.map_eq_nil_iff.1 e
  exact slices_Clone_api_Version.meets0 z0 (slices_Clone_api_Version.nil_eq  ▸ h)
/-- diwan/store.twin -/
noncomputable def bd40 : Code := (Try.f40.body).getD .skip
def store_twin.O : Nat → Nat := fun t => bif ([1, 2, 3, 4, 7, 26] : List Nat).any (Nat.beq t) then 1 else bif ([22] : List Nat).any (Nat.beq t) then 2 else 0
noncomputable def store_twin.lp4 (fu : Nat) (l4_0 : Int) (l4_3 : TStore) : Nat → Int → TStore → Option TStore
  | 0, _, _ => none
  | n_ + 1, l4_1, l4_2 =>
    br (decide (l4_1 < l4_0))
      (ix l4_2.Chains l4_1 fun x7_1 =>
      bd (slices_Clone_api_Version x7_1.L) fun r8_1 =>
      ix l4_2.Chains l4_1 fun x8_3 =>
      store_twin.lp4 fu l4_0 l4_3 n_ (w64 (l4_1 + 1)) (TStore.mk (l4_2.Chains.set l4_1.toNat (TChain.mk x8_3.Key r8_1)) l4_2.Mark))
      (some l4_2)
noncomputable def store_twin.lp4_post (l4_0 : Int) (l4_3 : TStore) (r_ : TStore) : Wy → St → Prop := fun e τ => match r_ with
  | y0 => e = .exit 0 ∧ τ = ofL [(.t 1, [.ptr 1 0]), (.t 2, [.ptr 2 0]), (.o 1, [.data (.slc true none 2 (List.map TChain.en y0.Chains)), iv y0.Mark]), (.o 2, [.data (.slc true none 2 (List.map TChain.en l4_3.Chains)), iv l4_3.Mark])]
theorem store_twin.lp4_ok (fu : Nat) (l4_0 : Int) (l4_3 : TStore) : ∀ (n_ : Nat) (l4_1 : Int) (l4_2 : TStore) (r_ : TStore), store_twin.lp4 fu l4_0 l4_3 n_ l4_1 l4_2 = some r_ → WK Try.prog store_twin.O (Ck Try.prog) (cB (cR (cL (cR (cR bd40))))) [] (ofL [(.t 1, [.ptr 1 0]), (.t 2, [.ptr 2 0]), (.t 10, [.ref (.o 1) 0 0 none]), (.t 11, [iv l4_0]), (.t 12, [iv l4_1]), (.o 1, [.data (.slc true none 2 (List.map TChain.en l4_2.Chains)), iv l4_2.Mark]), (.o 2, [.data (.slc true none 2 (List.map TChain.en l4_3.Chains)), iv l4_3.Mark])]) (store_twin.lp4_post l4_0 l4_3 r_) := by
  intro n_
  induction n_ with
  | zero => intro l4_1 l4_2 r_ h; exact no_none h
  | succ n_ ih =>
    intro l4_1 l4_2 r_ h
    refine WK.loop (by kernel_rfl) ?_
    refine WK.rs (g := []) (l' := [(.t 1, [.ptr 1 0]), (.t 2, [.ptr 2 0]), (.t 10, [.ref (.o 1) 0 0 none]), (.t 11, [iv l4_0]), (.t 12, [iv l4_1]), (.t 13, [bv (decide (l4_1 < l4_0))]), (.o 1, [.data (.slc true none 2 (List.map TChain.en l4_2.Chains)), iv l4_2.Mark]), (.o 2, [.data (.slc true none 2 (List.map TChain.en l4_3.Chains)), iv l4_3.Mark])]) (by kernel_rfl) .nil (by kernel_rfl) ?_
    refine WK.seq (by kernel_rfl) ?_
    rcases br_inv h with ⟨b6_0, h⟩ | ⟨b6_0, h⟩
    · refine WK.ct (b := (decide (l4_1 < l4_0))) (by kernel_rfl) b6_0 ?_
      refine WK.skip (by kernel_rfl) ?_
      refine WKe.code (y := (cR (cR (cB (cB (cR (cL (cR (cR bd40))))))))) (ks' := [.lp (cB (cR (cL (cR (cR bd40)))))]) (by kernel_rfl) ?_
      refine WK.seq (by kernel_rfl) ?_
      refine WK.block (n := 1) (by kernel_rfl) ?_
      obtain ⟨x7_1, a7_2, e7_3, h⟩ := ix_inv h
      refine WK.rs (g := [.c (TChain.en x7_1)]) (l' := [(.t 1, [.ptr 1 0]), (.t 2, [.ptr 2 0]), (.t 3, [iv l4_1]), (.t 4, [.ptr 4 0]), (.t 10, [.ref (.o 1) 0 0 none]), (.t 11, [iv l4_0]), (.t 12, [iv l4_1]), (.o 1, [.data (.slc true none 2 (List.map TChain.en l4_2.Chains)), iv l4_2.Mark]), (.o 2, [.data (.slc true none 2 (List.map TChain.en l4_3.Chains)), iv l4_3.Mark]), (.o 4, [sv x7_1.Key, .data (.slc false none 3 (List.map TVersion.en x7_1.L))])]) (by kernel_rfl) (.cons (c_ix (e := TChain.en) a7_2 e7_3) (.cons (c_el (e := TChain.en) e7_3) .nil)) (by kernel_rfl) ?_
      obtain ⟨r8_1, h8_2, h⟩ := bd_inv h
      obtain ⟨x8_3, a8_4, e8_5, h⟩ := ix_inv h
      refine WK.rc (g := [.a ⟨.data (.slc true none 3 (List.map TVersion.en r8_1)), []⟩, .c (TChain.en x8_3), .s (.o 1) [.data (.slc true none 2 (List.map TChain.en (l4_2.Chains.set l4_1.toNat (TChain.mk x8_3.Key r8_1)))), iv l4_2.Mark]]) (l' := [(.t 1, [.ptr 1 0]), (.t 2, [.ptr 2 0]), (.t 10, [.ref (.o 1) 0 0 none]), (.t 11, [iv l4_0]), (.t 12, [iv l4_1]), (.o 1, [.data (.slc true none 2 (List.map TChain.en (l4_2.Chains.set l4_1.toNat (TChain.mk x8_3.Key r8_1)))), iv l4_2.Mark]), (.o 2, [.data (.slc true none 2 (List.map TChain.en l4_3.Chains)), iv l4_3.Mark])]) (.cons (Asks.of (C := Meets Try.prog) (slices_Clone_api_Version.meets x7_1.L _ h8_2)) (.cons (c_ix (e := TChain.en) a8_4 e8_5) (.cons (c_el (e := TChain.en) e8_5) (.cons (congrArg (fun d : DV => [AV.data d, iv l4_2.Mark]) (c_set (e := TChain.en) (s := 2) (nl := none) (l := l4_2.Chains) (i := l4_1.toNat) (x := (TChain.mk x8_3.Key r8_1)))) (.cons (Eq.refl true) .nil))))) (by kernel_rfl) (y := (cR (cR (cR (cB (cB (cR (cL (cR (cR bd40)))))))))) (ks' := [.lp (cB (cR (cL (cR (cR bd40)))))]) (by kernel_rfl) ?_
      refine WK.rc (g := []) (l' := [(.t 1, [.ptr 1 0]), (.t 2, [.ptr 2 0]), (.t 10, [.ref (.o 1) 0 0 none]), (.t 11, [iv l4_0]), (.t 12, [iv (w64 (l4_1 + 1))]), (.o 1, [.data (.slc true none 2 (List.map TChain.en (l4_2.Chains.set l4_1.toNat (TChain.mk x8_3.Key r8_1)))), iv l4_2.Mark]), (.o 2, [.data (.slc true none 2 (List.map TChain.en l4_3.Chains)), iv l4_3.Mark])]) .nil (by kernel_rfl) (y := (cB (cR (cL (cR (cR bd40)))))) (ks' := []) (by kernel_rfl) ?_
      exact WK.weak (l := [(.t 1, [.ptr 1 0]), (.t 2, [.ptr 2 0]), (.t 10, [.ref (.o 1) 0 0 none]), (.t 11, [iv l4_0]), (.t 12, [iv (w64 (l4_1 + 1))]), (.o 1, [.data (.slc true none 2 (List.map TChain.en (l4_2.Chains.set l4_1.toNat (TChain.mk x8_3.Key r8_1)))), iv l4_2.Mark]), (.o 2, [.data (.slc true none 2 (List.map TChain.en l4_3.Chains)), iv l4_3.Mark])]) (wk_of (by kernel_rfl)) (ih (w64 (l4_1 + 1)) (TStore.mk (l4_2.Chains.set l4_1.toNat (TChain.mk x8_3.Key r8_1)) l4_2.Mark) _ h)
    · refine WK.ce (b := (decide (l4_1 < l4_0))) (by kernel_rfl) b6_0 ?_
      refine WK.weak (l := [(.t 1, [.ptr 1 0]), (.t 2, [.ptr 2 0]), (.o 1, [.data (.slc true none 2 (List.map TChain.en l4_2.Chains)), iv l4_2.Mark]), (.o 2, [.data (.slc true none 2 (List.map TChain.en l4_3.Chains)), iv l4_3.Mark])]) (wk_of (by kernel_rfl)) ?_
      refine WK.exit (n := 0) (by kernel_rfl) ?_
      cases some_inj h
      exact WKe.fin (e' := .exit 0) (by kernel_rfl) ⟨rfl, rfl⟩
noncomputable def store_twin (fu : Nat) (s : TStore) : Option TStore :=
  bd (slices_Clone_api_Chain s.Chains) fun r2_1 =>
  bd (store_twin.lp4 fu (r2_1.length : Int) (TStore.mk [] 0) fu 0 (TStore.mk r2_1 s.Mark)) fun y10_0 =>
  some y10_0
theorem store_twin.meets (fu : Nat) (s : TStore) (z0 : TStore) (h : store_twin fu s = some z0) : Meets Try.prog ⟨40, [.data (.agg [.slc false none 2 (List.map TChain.en s.Chains), .val (.int .i64 s.Mark)])], []⟩ ⟨.data (.agg [.slc true none 2 (List.map TChain.en z0.Chains), .val (.int .i64 z0.Mark)]), []⟩ := by
  refine meets_of (O := store_twin.O) hmix (fn := Try.f40) (code := bd40) (by kernel_rfl) ?_
  refine WK.weak (l := [(.t 0, [.data (.agg [.slc false none 2 (List.map TChain.en s.Chains), .val (.int .i64 s.Mark)])])]) (wk_of (by kernel_rfl)) ?_
  unfold store_twin at h
  refine WK.rs (g := []) (l' := [(.t 1, [.ptr 1 0]), (.t 2, [.ptr 2 0]), (.o 1, [.data (.slc false none 2 (List.map TChain.en s.Chains)), iv s.Mark]), (.o 2, [.data (.slc true none 2 (List.map TChain.en [])), iv 0])]) (by kernel_rfl) .nil (by kernel_rfl) ?_
  obtain ⟨r2_1, h2_2, h⟩ := bd_inv h
  refine WK.rs (g := [.a ⟨.data (.slc true none 2 (List.map TChain.en r2_1)), []⟩]) (l' := [(.t 1, [.ptr 1 0]), (.t 2, [.ptr 2 0]), (.o 1, [.data (.slc true none 2 (List.map TChain.en r2_1)), iv s.Mark]), (.o 2, [.data (.slc true none 2 (List.map TChain.en [])), iv 0])]) (by kernel_rfl) (.cons (Asks.of (C := Meets Try.prog) (slices_Clone_api_Chain.meets s.Chains _ h2_2)) .nil) (by kernel_rfl) ?_
  refine WK.seq (by kernel_rfl) ?_
  refine WK.rs (g := [.s (.t 11) [iv (r2_1.length : Int)]]) (l' := [(.t 1, [.ptr 1 0]), (.t 2, [.ptr 2 0]), (.t 10, [.ref (.o 1) 0 0 none]), (.t 11, [iv (r2_1.length : Int)]), (.t 12, [iv 0]), (.o 1, [.data (.slc true none 2 (List.map TChain.en r2_1)), iv s.Mark]), (.o 2, [.data (.slc true none 2 (List.map TChain.en [])), iv 0])]) (by kernel_rfl) (.cons (c_len (e := TChain.en) (l := r2_1)) .nil) (by kernel_rfl) ?_
  refine WK.block (n := 0) (by kernel_rfl) ?_
  obtain ⟨o10, ho10, h⟩ := bd_inv h
  refine WK.weak (l := [(.t 1, [.ptr 1 0]), (.t 2, [.ptr 2 0]), (.t 10, [.ref (.o 1) 0 0 none]), (.t 11, [iv (r2_1.length : Int)]), (.t 12, [iv 0]), (.o 1, [.data (.slc true none 2 (List.map TChain.en r2_1)), iv s.Mark]), (.o 2, [.data (.slc true none 2 (List.map TChain.en [])), iv 0])]) (wk_of (by kernel_rfl)) ?_
  refine WK.use (store_twin.lp4_ok fu (r2_1.length : Int) (TStore.mk [] 0) _ 0 (TStore.mk r2_1 s.Mark) _ ho10) ?_
  intro e_ τ_ hp_
  obtain ⟨y10_0, rfl⟩ : ∃ y, y = o10 := ⟨_, rfl⟩
  obtain ⟨rfl, rfl⟩ := hp_
  refine WKe.code (y := (cR (cR (cR bd40)))) (ks' := []) (by kernel_rfl) ?_
  refine WK.rs (g := []) (l' := [(.t 2, [.ptr 2 0]), (.o 2, [.data (.slc true none 2 (List.map TChain.en y10_0.Chains)), iv y10_0.Mark])]) (by kernel_rfl) .nil (by kernel_rfl) ?_
  refine WK.weak (l := [(.t 2, [.ptr 2 0]), (.o 2, [.data (.slc true none 2 (List.map TChain.en y10_0.Chains)), iv y10_0.Mark])]) (wk_of (by kernel_rfl)) ?_
  refine WK.ret (by kernel_rfl) ?_
  have h_ := some_inj h
  subst h_
  exact WKe.fin (e' := .ret) (by kernel_rfl) (fin_of (g := []) (by first | exact .inl rfl | exact .inr rfl) .nil (by kernel_rfl))
/-- diwan/chain.Add -/
noncomputable def bd42 : Code := (Try.f42.body).getD .skip
def chain_Add.O : Nat → Nat := fun t => bif ([3, 4, 15] : List Nat).any (Nat.beq t) then 1 else 0
noncomputable def chain_Add (l : List TVersion) (v : TVersion) : Option (List TVersion) :=
  bd (chain_Last l) fun r2_1 =>
  br (decide (v.Pos ≤ r2_1))
    (bd (slices_Clone_api_Version l) fun r4_1 =>
    some r4_1)
    (bd (slices_Clone_api_Version l) fun r5_1 =>
    gd (decide (r5_1.length + ([v] : List TVersion).length ≤ 4294967296)) <|
    some (r5_1 ++ ([v] : List TVersion)))
theorem chain_Add.meets (l : List TVersion) (v : TVersion) (z0 : List TVersion) (h : chain_Add l v = some z0) : Meets Try.prog ⟨42, [.data (.slc false none 3 (List.map TVersion.en l)), .data (TVersion.ag v)], []⟩ ⟨.data (.slc true none 3 (List.map TVersion.en z0)), []⟩ := by
  refine meets_of (O := chain_Add.O) hmix (fn := Try.f42) (code := bd42) (by kernel_rfl) ?_
  refine WK.weak (l := [(.t 0, [.data (.slc false none 3 (List.map TVersion.en l))]), (.t 1, [.data (TVersion.ag v)])]) (wk_of (by kernel_rfl)) ?_
  unfold chain_Add at h
  refine WK.rs (g := []) (l' := [(.t 0, [.data (.slc false none 3 (List.map TVersion.en l))]), (.t 3, [.ptr 3 0]), (.o 3, (TVersion.ob v))]) (by kernel_rfl) .nil (by kernel_rfl) ?_
  refine WK.seq (by kernel_rfl) ?_
  obtain ⟨r2_1, h2_2, h⟩ := bd_inv h
  refine WK.rs (g := [.a ⟨iv r2_1, []⟩]) (l' := [(.t 0, [.data (.slc false none 3 (List.map TVersion.en l))]), (.t 3, [.ptr 3 0]), (.t 9, [bv (decide (v.Pos ≤ r2_1))]), (.o 3, (TVersion.ob v))]) (by kernel_rfl) (.cons (Asks.of (C := Meets Try.prog) (chain_Last.meets l _ h2_2)) (.cons (Eq.refl true) .nil)) (by kernel_rfl) ?_
  rcases br_inv h with ⟨b3_0, h⟩ | ⟨b3_0, h⟩
  · refine WK.ct (b := (decide (v.Pos ≤ r2_1))) (by kernel_rfl) b3_0 ?_
    obtain ⟨r4_1, h4_2, h⟩ := bd_inv h
    refine WK.rs (g := [.a ⟨.data (.slc true none 3 (List.map TVersion.en r4_1)), []⟩]) (l' := [(.t 4, [.data (.slc true none 3 (List.map TVersion.en r4_1))])]) (by kernel_rfl) (.cons (Asks.of (C := Meets Try.prog) (slices_Clone_api_Version.meets l _ h4_2)) .nil) (by kernel_rfl) ?_
    refine WK.weak (l := [(.t 4, [.data (.slc true none 3 (List.map TVersion.en r4_1))])]) (wk_of (by kernel_rfl)) ?_
    refine WK.ret (by kernel_rfl) ?_
    have h_ := some_inj h
    subst h_
    exact WKe.fin (e' := .ret) (by kernel_rfl) (fin_of (g := []) (by first | exact .inl rfl | exact .inr rfl) .nil (by kernel_rfl))
  · refine WK.ce (b := (decide (v.Pos ≤ r2_1))) (by kernel_rfl) b3_0 ?_
    refine WK.skip (by kernel_rfl) ?_
    refine WKe.code (y := (cR (cR bd42))) (ks' := []) (by kernel_rfl) ?_
    obtain ⟨r5_1, h5_2, h⟩ := bd_inv h
    obtain ⟨c5_3, h⟩ := gd_inv h
    refine WK.rs (g := [.a ⟨.data (.slc true none 3 (List.map TVersion.en r5_1)), []⟩, .s (.t 16) [.data (.slc true none 3 (List.map TVersion.en (r5_1 ++ ([v] : List TVersion))))]]) (l' := [(.t 4, [.data (.slc true none 3 (List.map TVersion.en (r5_1 ++ ([v] : List TVersion))))])]) (by kernel_rfl) (.cons (Asks.of (C := Meets Try.prog) (slices_Clone_api_Version.meets l _ h5_2)) (.cons (c_al (e := TVersion.en) (f := TVersion.en) c5_3) (.cons (congrArg (fun d : DV => [AV.data d]) (c_app (e := TVersion.en) (s := 3) (l := r5_1) (m := ([v] : List TVersion)))) (.cons (Eq.refl true) .nil)))) (by kernel_rfl) ?_
    refine WK.weak (l := [(.t 4, [.data (.slc true none 3 (List.map TVersion.en (r5_1 ++ ([v] : List TVersion))))])]) (wk_of (by kernel_rfl)) ?_
    refine WK.ret (by kernel_rfl) ?_
    have h_ := some_inj h
    subst h_
    exact WKe.fin (e' := .ret) (by kernel_rfl) (fin_of (g := []) (by first | exact .inl rfl | exact .inr rfl) .nil (by kernel_rfl))
/-- slices.Insert[[]diwan/api.Chain,diwan/api.Chain] -/
noncomputable def bd43 : Code := (Try.f43.body).getD .skip
def slices_Insert_api_Chain_part.O : Nat → Nat := fun t => bif ([0, 6, 7, 8, 9, 17, 23, 25, 53, 60] : List Nat).any (Nat.beq t) then 1 else bif ([12] : List Nat).any (Nat.beq t) then 5 else 0
noncomputable def slices_Insert_api_Chain_part (s : List TChain) (i : Int) (v : List TChain) : Option (List TChain) :=
  gd (decide ((0 : Int) ≤ i ∧ i ≤ (s.length : Int))) <|
  br ((v.length : Int) == 0)
    (some s)
    (br (i == (s.length : Int))
      (gd (decide (s.length + v.length ≤ 4294967296)) <|
      some (s ++ v))
      (none))
theorem slices_Insert_api_Chain_part.meets (s : List TChain) (i : Int) (v : List TChain) (z0 : List TChain) (h : slices_Insert_api_Chain_part s i v = some z0) : Meets Try.prog ⟨43, [.data (.slc true none 2 (List.map TChain.en s)), iv i, .data (.slc false none 2 (List.map TChain.en v))], []⟩ ⟨.data (.slc true none 2 (List.map TChain.en z0)), []⟩ := by
  refine meets_of (O := slices_Insert_api_Chain_part.O) hmix (fn := Try.f43) (code := bd43) (by kernel_rfl) ?_
  refine WK.weak (l := [(.t 0, [.data (.slc true none 2 (List.map TChain.en s))]), (.t 1, [iv i]), (.t 2, [.data (.slc false none 2 (List.map TChain.en v))])]) (wk_of (by kernel_rfl)) ?_
  unfold slices_Insert_api_Chain_part at h
  refine WK.rs (g := []) (l' := [(.t 0, [.data (.slc true none 2 (List.map TChain.en s))]), (.t 1, [iv i]), (.t 2, [.data (.slc false none 2 (List.map TChain.en v))])]) (by kernel_rfl) .nil (by kernel_rfl) ?_
  obtain ⟨c2_1, h⟩ := gd_inv h
  refine WK.rs (g := []) (l' := [(.t 0, [.data (.slc true none 2 (List.map TChain.en s))]), (.t 1, [iv i]), (.t 2, [.data (.slc false none 2 (List.map TChain.en v))])]) (by kernel_rfl) (.cons (c_cbL (e := TChain.en) c2_1) .nil) (by kernel_rfl) ?_
  refine WK.rs (g := [.s (.t 14) [iv (v.length : Int)]]) (l' := [(.t 0, [.data (.slc true none 2 (List.map TChain.en s))]), (.t 1, [iv i]), (.t 2, [.data (.slc false none 2 (List.map TChain.en v))]), (.t 7, [iv (v.length : Int)])]) (by kernel_rfl) (.cons (c_len (e := TChain.en) (l := v)) .nil) (by kernel_rfl) ?_
  refine WK.seq (by kernel_rfl) ?_
  refine WK.rs (g := []) (l' := [(.t 0, [.data (.slc true none 2 (List.map TChain.en s))]), (.t 1, [iv i]), (.t 2, [.data (.slc false none 2 (List.map TChain.en v))]), (.t 7, [iv (v.length : Int)]), (.t 16, [bv ((v.length : Int) == 0)])]) (by kernel_rfl) .nil (by kernel_rfl) ?_
  rcases br_inv h with ⟨b5_0, h⟩ | ⟨b5_0, h⟩
  · refine WK.ct (b := ((v.length : Int) == 0)) (by kernel_rfl) b5_0 ?_
    refine WK.rs (g := []) (l' := [(.t 6, [.data (.slc true none 2 (List.map TChain.en s))])]) (by kernel_rfl) .nil (by kernel_rfl) ?_
    refine WK.weak (l := [(.t 6, [.data (.slc true none 2 (List.map TChain.en s))])]) (wk_of (by kernel_rfl)) ?_
    refine WK.ret (by kernel_rfl) ?_
    have h_ := some_inj h
    subst h_
    exact WKe.fin (e' := .ret) (by kernel_rfl) (fin_of (g := []) (by first | exact .inl rfl | exact .inr rfl) .nil (by kernel_rfl))
  · refine WK.ce (b := ((v.length : Int) == 0)) (by kernel_rfl) b5_0 ?_
    refine WK.skip (by kernel_rfl) ?_
    refine WKe.code (y := (cR (cR (cR (cR bd43))))) (ks' := []) (by kernel_rfl) ?_
    refine WK.rs (g := [.s (.t 19) [iv (s.length : Int)]]) (l' := [(.t 0, [.data (.slc true none 2 (List.map TChain.en s))]), (.t 1, [iv i]), (.t 2, [.data (.slc false none 2 (List.map TChain.en v))]), (.t 7, [iv (v.length : Int)]), (.t 8, [iv (s.length : Int)])]) (by kernel_rfl) (.cons (c_len (e := TChain.en) (l := s)) .nil) (by kernel_rfl) ?_
    refine WK.seq (by kernel_rfl) ?_
    refine WK.rs (g := []) (l' := [(.t 0, [.data (.slc true none 2 (List.map TChain.en s))]), (.t 1, [iv i]), (.t 2, [.data (.slc false none 2 (List.map TChain.en v))]), (.t 7, [iv (v.length : Int)]), (.t 8, [iv (s.length : Int)]), (.t 22, [bv (i == (s.length : Int))])]) (by kernel_rfl) .nil (by kernel_rfl) ?_
    rcases br_inv h with ⟨b9_0, h⟩ | ⟨b9_0, h⟩
    · refine WK.ct (b := (i == (s.length : Int))) (by kernel_rfl) b9_0 ?_
      obtain ⟨c10_1, h⟩ := gd_inv h
      refine WK.rs (g := [.s (.t 25) [.data (.slc true none 2 (List.map TChain.en (s ++ v)))]]) (l' := [(.t 6, [.data (.slc true none 2 (List.map TChain.en (s ++ v)))])]) (by kernel_rfl) (.cons (c_al (e := TChain.en) (f := TChain.en) c10_1) (.cons (congrArg (fun d : DV => [AV.data d]) (c_app (e := TChain.en) (s := 2) (l := s) (m := v))) .nil)) (by kernel_rfl) ?_
      refine WK.weak (l := [(.t 6, [.data (.slc true none 2 (List.map TChain.en (s ++ v)))])]) (wk_of (by kernel_rfl)) ?_
      refine WK.ret (by kernel_rfl) ?_
      have h_ := some_inj h
      subst h_
      exact WKe.fin (e' := .ret) (by kernel_rfl) (fin_of (g := []) (by first | exact .inl rfl | exact .inr rfl) .nil (by kernel_rfl))
    · refine WK.ce (b := (i == (s.length : Int))) (by kernel_rfl) b9_0 ?_
      refine WK.skip (by kernel_rfl) ?_
      refine WKe.code (y := (cR (cR (cR (cR (cR (cR bd43))))))) (ks' := []) (by kernel_rfl) ?_
      refine WK.seq (by kernel_rfl) ?_
      exact no_none h
/-- slices.Insert[[]diwan/api.Chain,diwan/api.Chain], as a whole. -/
noncomputable def slices_Insert_api_Chain (s : List TChain) (i : Int) (v : List TChain) : Option (List TChain) :=
  br (decide (0 ≤ i ∧ i < (s.length : Int) ∧ 0 < v.length ∧ s.length + v.length ≤ 4294967296))
    (some (List.take i.toNat s ++ v ++ List.drop i.toNat s))
    (slices_Insert_api_Chain_part s i v)
theorem slices_Insert_api_Chain.meets (s : List TChain) (i : Int) (v : List TChain) (z0 : List TChain) (h : slices_Insert_api_Chain s i v = some z0) : Meets Try.prog ⟨43, [.data (.slc true none 2 (List.map TChain.en s)), iv i, .data (.slc false none 2 (List.map TChain.en v))], []⟩ ⟨.data (.slc true none 2 (List.map TChain.en z0)), []⟩ := by
  rcases br_inv h with ⟨hb, h⟩ | ⟨hb, h⟩
  · cases some_inj h
    exact ins_meetsT (e := TChain.en) Try.func43 (by kernel_rfl) (by kernel_rfl) (by kernel_rfl) (by kernel_rfl) Ins43.walk hb
  · exact slices_Insert_api_Chain_part.meets s i v _ h
/-- diwan/store.Write -/
noncomputable def bd30 : Code := (Try.f30.body).getD .skip
def store_Write.O : Nat → Nat := fun t => bif ([3, 6, 8, 9, 10, 11, 12, 14, 26, 47, 48, 65] : List Nat).any (Nat.beq t) then 1 else bif ([61] : List Nat).any (Nat.beq t) then 2 else bif ([49] : List Nat).any (Nat.beq t) then 4 else 0
noncomputable def store_Write.lp4 (fu : Nat) (l4_0 : Int) (l4_1 : List TWrite) (l4_2 : Int) (l4_5 : TStore) : Nat → Int → TStore → Option TStore
  | 0, _, _ => none
  | n_ + 1, l4_3, l4_4 =>
    br (decide (l4_3 < l4_2))
      (ix l4_1 l4_3 fun x7_1 =>
      bd (store_keeper_find fu l4_4 x7_1.Key) fun (r9_1, r9_2) =>
      br (!r9_2)
        (jn (fun (j16_4 : TStore) =>
          store_Write.lp4 fu l4_0 l4_1 l4_2 l4_5 n_ (w64 (l4_3 + 1)) j16_4) fun k16 =>
        bd (chain_Add [] (TVersion.mk l4_0 x7_1.Val x7_1.Gone)) fun r12_1 =>
        br (decide ((r12_1.length : Int) > 0))
          (bd (slices_Insert_api_Chain l4_4.Chains r9_1 ([(TChain.mk x7_1.Key r12_1)] : List TChain)) fun r15_1 =>
          k16 (TStore.mk r15_1 l4_4.Mark))
          (k16 l4_4))
        (ix l4_4.Chains r9_1 fun x18_1 =>
        bd (chain_Add x18_1.L (TVersion.mk l4_0 x7_1.Val x7_1.Gone)) fun r18_4 =>
        ix l4_4.Chains r9_1 fun x18_6 =>
        store_Write.lp4 fu l4_0 l4_1 l4_2 l4_5 n_ (w64 (l4_3 + 1)) (TStore.mk (l4_4.Chains.set r9_1.toNat (TChain.mk x18_6.Key r18_4)) l4_4.Mark)))
      (some l4_4)
noncomputable def store_Write.lp4_post (l4_0 : Int) (l4_1 : List TWrite) (l4_2 : Int) (l4_5 : TStore) (r_ : TStore) : Wy → St → Prop := fun e τ => match r_ with
  | y0 => e = .exit 0 ∧ τ = ofL [(.t 3, [.ptr 3 0]), (.t 6, [.ptr 6 0]), (.o 3, [.data (.slc true none 2 (List.map TChain.en y0.Chains)), iv y0.Mark]), (.o 6, [.data (.slc true none 2 (List.map TChain.en l4_5.Chains)), iv l4_5.Mark])]
theorem store_Write.lp4_ok (fu : Nat) (l4_0 : Int) (l4_1 : List TWrite) (l4_2 : Int) (l4_5 : TStore) : ∀ (n_ : Nat) (l4_3 : Int) (l4_4 : TStore) (r_ : TStore), store_Write.lp4 fu l4_0 l4_1 l4_2 l4_5 n_ l4_3 l4_4 = some r_ → WK Try.prog store_Write.O (Ck Try.prog) (cB (cR (cL (cR (cR bd30))))) [] (ofL [(.t 1, [iv l4_0]), (.t 3, [.ptr 3 0]), (.t 6, [.ptr 6 0]), (.t 15, [.data (.slc false none 3 (List.map TWrite.en l4_1))]), (.t 16, [iv l4_2]), (.t 17, [iv l4_3]), (.o 3, [.data (.slc true none 2 (List.map TChain.en l4_4.Chains)), iv l4_4.Mark]), (.o 6, [.data (.slc true none 2 (List.map TChain.en l4_5.Chains)), iv l4_5.Mark])]) (store_Write.lp4_post l4_0 l4_1 l4_2 l4_5 r_) := by
  intro n_
  induction n_ with
  | zero => intro l4_3 l4_4 r_ h; exact no_none h
  | succ n_ ih =>
    intro l4_3 l4_4 r_ h
    refine WK.loop (by kernel_rfl) ?_
    refine WK.rs (g := []) (l' := [(.t 1, [iv l4_0]), (.t 3, [.ptr 3 0]), (.t 6, [.ptr 6 0]), (.t 15, [.data (.slc false none 3 (List.map TWrite.en l4_1))]), (.t 16, [iv l4_2]), (.t 17, [iv l4_3]), (.t 18, [bv (decide (l4_3 < l4_2))]), (.o 3, [.data (.slc true none 2 (List.map TChain.en l4_4.Chains)), iv l4_4.Mark]), (.o 6, [.data (.slc true none 2 (List.map TChain.en l4_5.Chains)), iv l4_5.Mark])]) (by kernel_rfl) .nil (by kernel_rfl) ?_
    refine WK.seq (by kernel_rfl) ?_
    rcases br_inv h with ⟨b6_0, h⟩ | ⟨b6_0, h⟩
    · refine WK.ct (b := (decide (l4_3 < l4_2))) (by kernel_rfl) b6_0 ?_
      refine WK.skip (by kernel_rfl) ?_
      refine WKe.code (y := (cR (cR (cB (cB (cR (cL (cR (cR bd30))))))))) (ks' := [.lp (cB (cR (cL (cR (cR bd30)))))]) (by kernel_rfl) ?_
      refine WK.seq (by kernel_rfl) ?_
      refine WK.block (n := 1) (by kernel_rfl) ?_
      obtain ⟨x7_1, a7_2, e7_3, h⟩ := ix_inv h
      refine WK.rs (g := [.c (TWrite.en x7_1)]) (l' := [(.t 1, [iv l4_0]), (.t 3, [.ptr 3 0]), (.t 6, [.ptr 6 0]), (.t 8, [.ptr 8 0]), (.t 15, [.data (.slc false none 3 (List.map TWrite.en l4_1))]), (.t 16, [iv l4_2]), (.t 17, [iv l4_3]), (.o 3, [.data (.slc true none 2 (List.map TChain.en l4_4.Chains)), iv l4_4.Mark]), (.o 6, [.data (.slc true none 2 (List.map TChain.en l4_5.Chains)), iv l4_5.Mark]), (.o 8, (TWrite.ob x7_1))]) (by kernel_rfl) (.cons (c_ix (e := TWrite.en) a7_2 e7_3) (.cons (c_el (e := TWrite.en) e7_3) .nil)) (by kernel_rfl) ?_
      refine WK.rs (g := []) (l' := [(.t 1, [iv l4_0]), (.t 3, [.ptr 3 0]), (.t 6, [.ptr 6 0]), (.t 8, [.ptr 8 0]), (.t 9, [.ptr 9 0]), (.t 15, [.data (.slc false none 3 (List.map TWrite.en l4_1))]), (.t 16, [iv l4_2]), (.t 17, [iv l4_3]), (.o 3, [.data (.slc true none 2 (List.map TChain.en l4_4.Chains)), iv l4_4.Mark]), (.o 6, [.data (.slc true none 2 (List.map TChain.en l4_5.Chains)), iv l4_5.Mark]), (.o 8, (TWrite.ob x7_1)), (.o 9, (TVersion.ob (TVersion.mk l4_0 x7_1.Val x7_1.Gone)))]) (by kernel_rfl) .nil (by kernel_rfl) ?_
      obtain ⟨⟨r9_1, r9_2⟩, h9_3, h⟩ := bd_inv h
      refine WK.rs (g := [.a ⟨.tup [iv r9_1, bv r9_2], []⟩]) (l' := [(.t 1, [iv l4_0]), (.t 3, [.ptr 3 0]), (.t 6, [.ptr 6 0]), (.t 8, [.ptr 8 0]), (.t 9, [.ptr 9 0]), (.t 10, [iv r9_1]), (.t 11, [bv r9_2]), (.t 15, [.data (.slc false none 3 (List.map TWrite.en l4_1))]), (.t 16, [iv l4_2]), (.t 17, [iv l4_3]), (.o 3, [.data (.slc true none 2 (List.map TChain.en l4_4.Chains)), iv l4_4.Mark]), (.o 6, [.data (.slc true none 2 (List.map TChain.en l4_5.Chains)), iv l4_5.Mark]), (.o 8, (TWrite.ob x7_1)), (.o 9, (TVersion.ob (TVersion.mk l4_0 x7_1.Val x7_1.Gone)))]) (by kernel_rfl) (.cons (Asks.of (C := Meets Try.prog) (store_keeper_find.meets fu l4_4 x7_1.Key _ _ h9_3)) .nil) (by kernel_rfl) ?_
      refine WK.seq (by kernel_rfl) ?_
      refine WK.rs (g := []) (l' := [(.t 1, [iv l4_0]), (.t 3, [.ptr 3 0]), (.t 6, [.ptr 6 0]), (.t 8, [.ptr 8 0]), (.t 9, [.ptr 9 0]), (.t 10, [iv r9_1]), (.t 15, [.data (.slc false none 3 (List.map TWrite.en l4_1))]), (.t 16, [iv l4_2]), (.t 17, [iv l4_3]), (.t 35, [bv (!r9_2)]), (.o 3, [.data (.slc true none 2 (List.map TChain.en l4_4.Chains)), iv l4_4.Mark]), (.o 6, [.data (.slc true none 2 (List.map TChain.en l4_5.Chains)), iv l4_5.Mark]), (.o 8, (TWrite.ob x7_1)), (.o 9, (TVersion.ob (TVersion.mk l4_0 x7_1.Val x7_1.Gone)))]) (by kernel_rfl) .nil (by kernel_rfl) ?_
      rcases br_inv h with ⟨b11_0, h⟩ | ⟨b11_0, h⟩
      · refine WK.ct (b := (!r9_2)) (by kernel_rfl) b11_0 ?_
        obtain ⟨k16, hk16, h⟩ := jn_inv h
        have Jk16 : ∀ (j16_4 : TStore), k16 j16_4 = some r_ → WK Try.prog store_Write.O (Ck Try.prog) (cR (cT (cR (cL (cR (cR (cR (cB (cL (cR (cR (cB (cB (cR (cL (cR (cR bd30))))))))))))))))) [.seq (cR (cR (cR (cR (cB (cL (cR (cR (cB (cB (cR (cL (cR (cR bd30)))))))))))))), .blk 1, .seq (cR (cR (cR (cB (cB (cR (cL (cR (cR bd30))))))))), .lp (cB (cR (cL (cR (cR bd30)))))] (ofL [(.t 1, [iv l4_0]), (.t 3, [.ptr 3 0]), (.t 6, [.ptr 6 0]), (.t 15, [.data (.slc false none 3 (List.map TWrite.en l4_1))]), (.t 16, [iv l4_2]), (.t 17, [iv l4_3]), (.o 3, [.data (.slc true none 2 (List.map TChain.en j16_4.Chains)), iv j16_4.Mark]), (.o 6, [.data (.slc true none 2 (List.map TChain.en l4_5.Chains)), iv l4_5.Mark])]) (store_Write.lp4_post l4_0 l4_1 l4_2 l4_5 r_) := by
          intro j16_4 h
          rw [hk16] at h
          refine WK.exit (n := 1) (by kernel_rfl) ?_
          refine WKe.code (y := (cR (cR (cR (cB (cB (cR (cL (cR (cR bd30)))))))))) (ks' := [.lp (cB (cR (cL (cR (cR bd30)))))]) (by kernel_rfl) ?_
          refine WK.rc (g := []) (l' := [(.t 1, [iv l4_0]), (.t 3, [.ptr 3 0]), (.t 6, [.ptr 6 0]), (.t 15, [.data (.slc false none 3 (List.map TWrite.en l4_1))]), (.t 16, [iv l4_2]), (.t 17, [iv (w64 (l4_3 + 1))]), (.o 3, [.data (.slc true none 2 (List.map TChain.en j16_4.Chains)), iv j16_4.Mark]), (.o 6, [.data (.slc true none 2 (List.map TChain.en l4_5.Chains)), iv l4_5.Mark])]) .nil (by kernel_rfl) (y := (cB (cR (cL (cR (cR bd30)))))) (ks' := []) (by kernel_rfl) ?_
          exact WK.weak (l := [(.t 1, [iv l4_0]), (.t 3, [.ptr 3 0]), (.t 6, [.ptr 6 0]), (.t 15, [.data (.slc false none 3 (List.map TWrite.en l4_1))]), (.t 16, [iv l4_2]), (.t 17, [iv (w64 (l4_3 + 1))]), (.o 3, [.data (.slc true none 2 (List.map TChain.en j16_4.Chains)), iv j16_4.Mark]), (.o 6, [.data (.slc true none 2 (List.map TChain.en l4_5.Chains)), iv l4_5.Mark])]) (wk_of (by kernel_rfl)) (ih (w64 (l4_3 + 1)) j16_4 _ h)
        clear hk16
        refine WK.seq (by kernel_rfl) ?_
        obtain ⟨r12_1, h12_2, h⟩ := bd_inv h
        refine WK.rs (g := [.a ⟨.data (.slc true none 3 (List.map TVersion.en r12_1)), []⟩]) (l' := [(.t 1, [iv l4_0]), (.t 3, [.ptr 3 0]), (.t 6, [.ptr 6 0]), (.t 8, [.ptr 8 0]), (.t 10, [iv r9_1]), (.t 12, [.data (.slc true none 3 (List.map TVersion.en r12_1))]), (.t 15, [.data (.slc false none 3 (List.map TWrite.en l4_1))]), (.t 16, [iv l4_2]), (.t 17, [iv l4_3]), (.o 3, [.data (.slc true none 2 (List.map TChain.en l4_4.Chains)), iv l4_4.Mark]), (.o 6, [.data (.slc true none 2 (List.map TChain.en l4_5.Chains)), iv l4_5.Mark]), (.o 8, (TWrite.ob x7_1))]) (by kernel_rfl) (.cons (Asks.fg (args1 := []) (args2 := [.data (TVersion.ag (TVersion.mk l4_0 x7_1.Val x7_1.Gone))]) (nl := some true) (sz := 3) (es := List.map TVersion.en []) (Asks.of (C := Meets Try.prog) (chain_Add.meets [] (TVersion.mk l4_0 x7_1.Val x7_1.Gone) _ h12_2))) .nil) (by kernel_rfl) ?_
        refine WK.rs (g := [.s (.t 39) [iv (r12_1.length : Int)]]) (l' := [(.t 1, [iv l4_0]), (.t 3, [.ptr 3 0]), (.t 6, [.ptr 6 0]), (.t 8, [.ptr 8 0]), (.t 10, [iv r9_1]), (.t 12, [.data (.slc true none 3 (List.map TVersion.en r12_1))]), (.t 15, [.data (.slc false none 3 (List.map TWrite.en l4_1))]), (.t 16, [iv l4_2]), (.t 17, [iv l4_3]), (.t 40, [bv (decide ((r12_1.length : Int) > 0))]), (.o 3, [.data (.slc true none 2 (List.map TChain.en l4_4.Chains)), iv l4_4.Mark]), (.o 6, [.data (.slc true none 2 (List.map TChain.en l4_5.Chains)), iv l4_5.Mark]), (.o 8, (TWrite.ob x7_1))]) (by kernel_rfl) (.cons (c_len (e := TVersion.en) (l := r12_1)) .nil) (by kernel_rfl) ?_
        rcases br_inv h with ⟨b14_0, h⟩ | ⟨b14_0, h⟩
        · refine WK.ct (b := (decide ((r12_1.length : Int) > 0))) (by kernel_rfl) b14_0 ?_
          obtain ⟨r15_1, h15_2, h⟩ := bd_inv h
          refine WK.rc (g := [.a ⟨.data (.slc true none 2 (List.map TChain.en r15_1)), []⟩]) (l' := [(.t 1, [iv l4_0]), (.t 3, [.ptr 3 0]), (.t 6, [.ptr 6 0]), (.t 15, [.data (.slc false none 3 (List.map TWrite.en l4_1))]), (.t 16, [iv l4_2]), (.t 17, [iv l4_3]), (.o 3, [.data (.slc true none 2 (List.map TChain.en r15_1)), iv l4_4.Mark]), (.o 6, [.data (.slc true none 2 (List.map TChain.en l4_5.Chains)), iv l4_5.Mark])]) (.cons (Asks.fg (args1 := [.data (.slc true none 2 (List.map TChain.en l4_4.Chains)), iv r9_1]) (args2 := []) (nl := some false) (sz := 2) (es := List.map TChain.en ([(TChain.mk x7_1.Key r12_1)] : List TChain)) (Asks.of (C := Meets Try.prog) (slices_Insert_api_Chain.meets l4_4.Chains r9_1 ([(TChain.mk x7_1.Key r12_1)] : List TChain) _ h15_2))) .nil) (by kernel_rfl) (y := (cR (cT (cR (cL (cR (cR (cR (cB (cL (cR (cR (cB (cB (cR (cL (cR (cR bd30)))))))))))))))))) (ks' := [.seq (cR (cR (cR (cR (cB (cL (cR (cR (cB (cB (cR (cL (cR (cR bd30)))))))))))))), .blk 1, .seq (cR (cR (cR (cB (cB (cR (cL (cR (cR bd30))))))))), .lp (cB (cR (cL (cR (cR bd30)))))]) (by kernel_rfl) ?_
          exact WK.weak (l := [(.t 1, [iv l4_0]), (.t 3, [.ptr 3 0]), (.t 6, [.ptr 6 0]), (.t 15, [.data (.slc false none 3 (List.map TWrite.en l4_1))]), (.t 16, [iv l4_2]), (.t 17, [iv l4_3]), (.o 3, [.data (.slc true none 2 (List.map TChain.en r15_1)), iv l4_4.Mark]), (.o 6, [.data (.slc true none 2 (List.map TChain.en l4_5.Chains)), iv l4_5.Mark])]) (wk_of (by kernel_rfl)) (Jk16 (TStore.mk r15_1 l4_4.Mark) h)
        · refine WK.ce (b := (decide ((r12_1.length : Int) > 0))) (by kernel_rfl) b14_0 ?_
          refine WK.skip (by kernel_rfl) ?_
          refine WKe.code (y := (cR (cT (cR (cL (cR (cR (cR (cB (cL (cR (cR (cB (cB (cR (cL (cR (cR bd30)))))))))))))))))) (ks' := [.seq (cR (cR (cR (cR (cB (cL (cR (cR (cB (cB (cR (cL (cR (cR bd30)))))))))))))), .blk 1, .seq (cR (cR (cR (cB (cB (cR (cL (cR (cR bd30))))))))), .lp (cB (cR (cL (cR (cR bd30)))))]) (by kernel_rfl) ?_
          exact WK.weak (l := [(.t 1, [iv l4_0]), (.t 3, [.ptr 3 0]), (.t 6, [.ptr 6 0]), (.t 15, [.data (.slc false none 3 (List.map TWrite.en l4_1))]), (.t 16, [iv l4_2]), (.t 17, [iv l4_3]), (.o 3, [.data (.slc true none 2 (List.map TChain.en l4_4.Chains)), iv l4_4.Mark]), (.o 6, [.data (.slc true none 2 (List.map TChain.en l4_5.Chains)), iv l4_5.Mark])]) (wk_of (by kernel_rfl)) (Jk16 l4_4 h)
      · refine WK.ce (b := (!r9_2)) (by kernel_rfl) b11_0 ?_
        refine WK.skip (by kernel_rfl) ?_
        refine WKe.code (y := (cR (cR (cR (cR (cB (cL (cR (cR (cB (cB (cR (cL (cR (cR bd30))))))))))))))) (ks' := [.blk 1, .seq (cR (cR (cR (cB (cB (cR (cL (cR (cR bd30))))))))), .lp (cB (cR (cL (cR (cR bd30)))))]) (by kernel_rfl) ?_
        obtain ⟨x18_1, a18_2, e18_3, h⟩ := ix_inv h
        obtain ⟨r18_4, h18_5, h⟩ := bd_inv h
        obtain ⟨x18_6, a18_7, e18_8, h⟩ := ix_inv h
        refine WK.rc (g := [.c (TChain.en x18_1), .a ⟨.data (.slc true none 3 (List.map TVersion.en r18_4)), []⟩, .c (TChain.en x18_6), .s (.o 3) [.data (.slc true none 2 (List.map TChain.en (l4_4.Chains.set r9_1.toNat (TChain.mk x18_6.Key r18_4)))), iv l4_4.Mark]]) (l' := [(.t 1, [iv l4_0]), (.t 3, [.ptr 3 0]), (.t 6, [.ptr 6 0]), (.t 15, [.data (.slc false none 3 (List.map TWrite.en l4_1))]), (.t 16, [iv l4_2]), (.t 17, [iv l4_3]), (.o 3, [.data (.slc true none 2 (List.map TChain.en (l4_4.Chains.set r9_1.toNat (TChain.mk x18_6.Key r18_4)))), iv l4_4.Mark]), (.o 6, [.data (.slc true none 2 (List.map TChain.en l4_5.Chains)), iv l4_5.Mark])]) (.cons (c_ix (e := TChain.en) a18_2 e18_3) (.cons (c_el (e := TChain.en) e18_3) (.cons (Asks.of (C := Meets Try.prog) (chain_Add.meets x18_1.L (TVersion.mk l4_0 x7_1.Val x7_1.Gone) _ h18_5)) (.cons (c_ix (e := TChain.en) a18_7 e18_8) (.cons (c_el (e := TChain.en) e18_8) (.cons (congrArg (fun d : DV => [AV.data d, iv l4_4.Mark]) (c_set (e := TChain.en) (s := 2) (nl := none) (l := l4_4.Chains) (i := r9_1.toNat) (x := (TChain.mk x18_6.Key r18_4)))) (.cons (Eq.refl true) .nil))))))) (by kernel_rfl) (y := (cR (cR (cR (cB (cB (cR (cL (cR (cR bd30)))))))))) (ks' := [.lp (cB (cR (cL (cR (cR bd30)))))]) (by kernel_rfl) ?_
        refine WK.rc (g := []) (l' := [(.t 1, [iv l4_0]), (.t 3, [.ptr 3 0]), (.t 6, [.ptr 6 0]), (.t 15, [.data (.slc false none 3 (List.map TWrite.en l4_1))]), (.t 16, [iv l4_2]), (.t 17, [iv (w64 (l4_3 + 1))]), (.o 3, [.data (.slc true none 2 (List.map TChain.en (l4_4.Chains.set r9_1.toNat (TChain.mk x18_6.Key r18_4)))), iv l4_4.Mark]), (.o 6, [.data (.slc true none 2 (List.map TChain.en l4_5.Chains)), iv l4_5.Mark])]) .nil (by kernel_rfl) (y := (cB (cR (cL (cR (cR bd30)))))) (ks' := []) (by kernel_rfl) ?_
        exact WK.weak (l := [(.t 1, [iv l4_0]), (.t 3, [.ptr 3 0]), (.t 6, [.ptr 6 0]), (.t 15, [.data (.slc false none 3 (List.map TWrite.en l4_1))]), (.t 16, [iv l4_2]), (.t 17, [iv (w64 (l4_3 + 1))]), (.o 3, [.data (.slc true none 2 (List.map TChain.en (l4_4.Chains.set r9_1.toNat (TChain.mk x18_6.Key r18_4)))), iv l4_4.Mark]), (.o 6, [.data (.slc true none 2 (List.map TChain.en l4_5.Chains)), iv l4_5.Mark])]) (wk_of (by kernel_rfl)) (ih (w64 (l4_3 + 1)) (TStore.mk (l4_4.Chains.set r9_1.toNat (TChain.mk x18_6.Key r18_4)) l4_4.Mark) _ h)
    · refine WK.ce (b := (decide (l4_3 < l4_2))) (by kernel_rfl) b6_0 ?_
      refine WK.weak (l := [(.t 3, [.ptr 3 0]), (.t 6, [.ptr 6 0]), (.o 3, [.data (.slc true none 2 (List.map TChain.en l4_4.Chains)), iv l4_4.Mark]), (.o 6, [.data (.slc true none 2 (List.map TChain.en l4_5.Chains)), iv l4_5.Mark])]) (wk_of (by kernel_rfl)) ?_
      refine WK.exit (n := 0) (by kernel_rfl) ?_
      cases some_inj h
      exact WKe.fin (e' := .exit 0) (by kernel_rfl) ⟨rfl, rfl⟩
noncomputable def store_Write (fu : Nat) (s : TStore) (pos : Int) (l : List TWrite) : Option TStore :=
  bd (store_twin fu s) fun r2_1 =>
  bd (store_Write.lp4 fu pos l (l.length : Int) (TStore.mk [] 0) fu 0 r2_1) fun y20_0 =>
  some y20_0
theorem store_Write.meets (fu : Nat) (s : TStore) (pos : Int) (l : List TWrite) (z0 : TStore) (h : store_Write fu s pos l = some z0) : Meets Try.prog ⟨30, [.data (.agg [.slc false none 2 (List.map TChain.en s.Chains), .val (.int .i64 s.Mark)]), iv pos, .data (.slc false none 3 (List.map TWrite.en l))], []⟩ ⟨.data (.agg [.slc true none 2 (List.map TChain.en z0.Chains), .val (.int .i64 z0.Mark)]), []⟩ := by
  refine meets_of (O := store_Write.O) hmix (fn := Try.f30) (code := bd30) (by kernel_rfl) ?_
  refine WK.weak (l := [(.t 0, [.data (.agg [.slc false none 2 (List.map TChain.en s.Chains), .val (.int .i64 s.Mark)])]), (.t 1, [iv pos]), (.t 2, [.data (.slc false none 3 (List.map TWrite.en l))])]) (wk_of (by kernel_rfl)) ?_
  unfold store_Write at h
  refine WK.rs (g := []) (l' := [(.t 1, [iv pos]), (.t 2, [.data (.slc false none 3 (List.map TWrite.en l))]), (.t 3, [.ptr 3 0]), (.t 6, [.ptr 6 0]), (.o 3, [.data (.slc false none 2 (List.map TChain.en s.Chains)), iv s.Mark]), (.o 6, [.data (.slc true none 2 (List.map TChain.en [])), iv 0])]) (by kernel_rfl) .nil (by kernel_rfl) ?_
  obtain ⟨r2_1, h2_2, h⟩ := bd_inv h
  refine WK.rs (g := [.a ⟨.data (.agg [.slc true none 2 (List.map TChain.en r2_1.Chains), .val (.int .i64 r2_1.Mark)]), []⟩]) (l' := [(.t 1, [iv pos]), (.t 2, [.data (.slc false none 3 (List.map TWrite.en l))]), (.t 3, [.ptr 3 0]), (.t 6, [.ptr 6 0]), (.o 3, [.data (.slc true none 2 (List.map TChain.en r2_1.Chains)), iv r2_1.Mark]), (.o 6, [.data (.slc true none 2 (List.map TChain.en [])), iv 0])]) (by kernel_rfl) (.cons (Asks.of (C := Meets Try.prog) (store_twin.meets fu s _ h2_2)) .nil) (by kernel_rfl) ?_
  refine WK.seq (by kernel_rfl) ?_
  refine WK.rs (g := [.s (.t 16) [iv (l.length : Int)]]) (l' := [(.t 1, [iv pos]), (.t 3, [.ptr 3 0]), (.t 6, [.ptr 6 0]), (.t 15, [.data (.slc false none 3 (List.map TWrite.en l))]), (.t 16, [iv (l.length : Int)]), (.t 17, [iv 0]), (.o 3, [.data (.slc true none 2 (List.map TChain.en r2_1.Chains)), iv r2_1.Mark]), (.o 6, [.data (.slc true none 2 (List.map TChain.en [])), iv 0])]) (by kernel_rfl) (.cons (c_len (e := TWrite.en) (l := l)) .nil) (by kernel_rfl) ?_
  refine WK.block (n := 0) (by kernel_rfl) ?_
  obtain ⟨o20, ho20, h⟩ := bd_inv h
  refine WK.weak (l := [(.t 1, [iv pos]), (.t 3, [.ptr 3 0]), (.t 6, [.ptr 6 0]), (.t 15, [.data (.slc false none 3 (List.map TWrite.en l))]), (.t 16, [iv (l.length : Int)]), (.t 17, [iv 0]), (.o 3, [.data (.slc true none 2 (List.map TChain.en r2_1.Chains)), iv r2_1.Mark]), (.o 6, [.data (.slc true none 2 (List.map TChain.en [])), iv 0])]) (wk_of (by kernel_rfl)) ?_
  refine WK.use (store_Write.lp4_ok fu pos l (l.length : Int) (TStore.mk [] 0) _ 0 r2_1 _ ho20) ?_
  intro e_ τ_ hp_
  obtain ⟨y20_0, rfl⟩ : ∃ y, y = o20 := ⟨_, rfl⟩
  obtain ⟨rfl, rfl⟩ := hp_
  refine WKe.code (y := (cR (cR (cR bd30)))) (ks' := []) (by kernel_rfl) ?_
  refine WK.rs (g := []) (l' := [(.t 6, [.ptr 6 0]), (.o 6, [.data (.slc true none 2 (List.map TChain.en y20_0.Chains)), iv y20_0.Mark])]) (by kernel_rfl) .nil (by kernel_rfl) ?_
  refine WK.weak (l := [(.t 6, [.ptr 6 0]), (.o 6, [.data (.slc true none 2 (List.map TChain.en y20_0.Chains)), iv y20_0.Mark])]) (wk_of (by kernel_rfl)) ?_
  refine WK.ret (by kernel_rfl) ?_
  have h_ := some_inj h
  subst h_
  exact WKe.fin (e' := .ret) (by kernel_rfl) (fin_of (g := []) (by first | exact .inl rfl | exact .inr rfl) .nil (by kernel_rfl))
/-- (*diwan/judge.bench).judge -/
noncomputable def bd21 : Code := (Try.f21.body).getD .skip
def judge_bench_judge.O : Nat → Nat := fun t => bif ([3, 4, 5, 6, 27, 35, 36, 39, 47, 48, 51, 63, 71, 72] : List Nat).any (Nat.beq t) then 1 else 0
noncomputable def judge_bench_judge (fu : Nat) (t : TTxn) (o0_v : TBench) : Option TBench :=
  bd (seat_Turn fu o0_v.seats t.Session t.Seq (w64 ((o0_v.said.length : Int) + 1))) fun (r3_1, r3_2) =>
  br (!r3_2)
    (gd (decide (o0_v.said.length + ([3] : List Int).length ≤ 4294967296)) <|
    some (TBench.mk (o0_v.said ++ ([3] : List Int)) o0_v.store r3_1))
    (bd (judge_bench_holds fu t (TBench.mk o0_v.said o0_v.store r3_1)) fun r8_1 =>
    br r8_1
      (bd (store_Write fu (TStore.mk ((TBench.mk o0_v.said o0_v.store r3_1).store.Chains) ((TBench.mk o0_v.said o0_v.store r3_1).store.Mark)) (w64 ((o0_v.said.length : Int) + 1)) t.Writes) fun r10_1 =>
      gd (decide (((TBench.mk o0_v.said o0_v.store r3_1).said).length + ([1] : List Int).length ≤ 4294967296)) <|
      some (TBench.mk ((TBench.mk o0_v.said o0_v.store r3_1).said ++ ([1] : List Int)) r10_1 ((TBench.mk o0_v.said o0_v.store r3_1).seats)))
      (gd (decide (((TBench.mk o0_v.said o0_v.store r3_1).said).length + ([2] : List Int).length ≤ 4294967296)) <|
      some (TBench.mk ((TBench.mk o0_v.said o0_v.store r3_1).said ++ ([2] : List Int)) (TStore.mk ((TBench.mk o0_v.said o0_v.store r3_1).store.Chains) ((TBench.mk o0_v.said o0_v.store r3_1).store.Mark)) ((TBench.mk o0_v.said o0_v.store r3_1).seats))))
theorem judge_bench_judge.meets (fu : Nat) (t : TTxn) (o0_v : TBench) (z0 : TBench) (h : judge_bench_judge fu t o0_v = some z0) : Meets Try.prog ⟨21, [.ptr 1000 0, .data (TTxn.ag t)], [(TBench.ob_1101 o0_v)]⟩ ⟨.tup [], [(TBench.ob_11 z0)]⟩ := by
  refine meets_of (O := judge_bench_judge.O) hmix (fn := Try.f21) (code := bd21) (by kernel_rfl) ?_
  refine WK.weak (l := [(.t 0, [.ptr 1000 0]), (.t 1, [.data (TTxn.ag t)]), (.o 1000, (TBench.ob_1101 o0_v))]) (wk_of (by kernel_rfl)) ?_
  unfold judge_bench_judge at h
  refine WK.rs (g := []) (l' := [(.t 0, [.ptr 1000 0]), (.t 3, [.ptr 3 0]), (.o 3, (TTxn.ob t)), (.o 1000, (TBench.ob_1101 o0_v))]) (by kernel_rfl) .nil (by kernel_rfl) ?_
  refine WK.rs (g := [.s (.t 11) [iv (o0_v.said.length : Int)]]) (l' := [(.t 0, [.ptr 1000 0]), (.t 3, [.ptr 3 0]), (.t 4, [iv (w64 ((o0_v.said.length : Int) + 1))]), (.o 3, (TTxn.ob t)), (.o 1000, (TBench.ob_1101 o0_v))]) (by kernel_rfl) (.cons (c_len (e := e_i64) (l := o0_v.said)) .nil) (by kernel_rfl) ?_
  refine WK.shareO (i := 1000) (cc := 3) (l' := [(.t 0, [.ptr 1000 0]), (.t 3, [.ptr 3 0]), (.t 4, [iv (w64 ((o0_v.said.length : Int) + 1))]), (.o 3, (TTxn.ob t)), (.o 1000, (TBench.ob_11 o0_v))]) (by kernel_rfl) (by kernel_rfl) (by kernel_rfl) ?_
  obtain ⟨⟨r3_1, r3_2⟩, h3_3, h⟩ := bd_inv h
  refine WK.rs (g := [.a ⟨.tup [.data (.slc false none 3 (List.map TSeat.en r3_1)), bv r3_2], []⟩]) (l' := [(.t 0, [.ptr 1000 0]), (.t 3, [.ptr 3 0]), (.t 4, [iv (w64 ((o0_v.said.length : Int) + 1))]), (.t 5, [.data (.slc false none 3 (List.map TSeat.en r3_1))]), (.t 6, [bv r3_2]), (.o 3, (TTxn.ob t)), (.o 1000, (TBench.ob_11 o0_v))]) (by kernel_rfl) (.cons (Asks.of (C := Meets Try.prog) (seat_Turn.meets fu o0_v.seats t.Session t.Seq (w64 ((o0_v.said.length : Int) + 1)) _ _ h3_3)) (.cons (Eq.refl true) .nil)) (by kernel_rfl) ?_
  refine WK.rs (g := []) (l' := [(.t 0, [.ptr 1000 0]), (.t 3, [.ptr 3 0]), (.t 4, [iv (w64 ((o0_v.said.length : Int) + 1))]), (.t 6, [bv r3_2]), (.o 3, (TTxn.ob t)), (.o 1000, (TBench.ob_11 (TBench.mk o0_v.said o0_v.store r3_1)))]) (by kernel_rfl) .nil (by kernel_rfl) ?_
  refine WK.block (n := 0) (by kernel_rfl) ?_
  refine WK.rs (g := []) (l' := [(.t 0, [.ptr 1000 0]), (.t 3, [.ptr 3 0]), (.t 4, [iv (w64 ((o0_v.said.length : Int) + 1))]), (.t 39, [bv (!r3_2)]), (.o 3, (TTxn.ob t)), (.o 1000, (TBench.ob_11 (TBench.mk o0_v.said o0_v.store r3_1)))]) (by kernel_rfl) .nil (by kernel_rfl) ?_
  rcases br_inv h with ⟨b6_0, h⟩ | ⟨b6_0, h⟩
  · refine WK.ct (b := (!r3_2)) (by kernel_rfl) b6_0 ?_
    obtain ⟨c7_1, h⟩ := gd_inv h
    have h_ := some_inj h
    subst h_
    exact WK.rf (g := [.s (.t 48) [.data (.slc true none 1 (List.map e_i64 (o0_v.said ++ ([3] : List Int))))]]) (.cons (c_al (e := e_i64) (f := e_i64) c7_1) (.cons (congrArg (fun d : DV => [AV.data d]) (c_app (e := e_i64) (s := 1) (l := o0_v.said) (m := ([3] : List Int)))) .nil)) (by kernel_rfl) (by kernel_rfl)
  · refine WK.ce (b := (!r3_2)) (by kernel_rfl) b6_0 ?_
    obtain ⟨r8_1, h8_2, h⟩ := bd_inv h
    refine WK.rs (g := [.a ⟨bv r8_1, [(TBench.ob_11 (TBench.mk ((TBench.mk o0_v.said o0_v.store r3_1).said) (TStore.mk ((TBench.mk o0_v.said o0_v.store r3_1).store.Chains) ((TBench.mk o0_v.said o0_v.store r3_1).store.Mark)) ((TBench.mk o0_v.said o0_v.store r3_1).seats)))]⟩]) (l' := [(.t 0, [.ptr 1000 0]), (.t 3, [.ptr 3 0]), (.t 4, [iv (w64 ((o0_v.said.length : Int) + 1))]), (.t 51, [bv r8_1]), (.o 3, (TTxn.ob t)), (.o 1000, (TBench.ob_11 (TBench.mk ((TBench.mk o0_v.said o0_v.store r3_1).said) (TStore.mk ((TBench.mk o0_v.said o0_v.store r3_1).store.Chains) ((TBench.mk o0_v.said o0_v.store r3_1).store.Mark)) ((TBench.mk o0_v.said o0_v.store r3_1).seats))))]) (by kernel_rfl) (.cons (Asks.of (C := Meets Try.prog) (judge_bench_holds.meets fu t (TBench.mk o0_v.said o0_v.store r3_1) _ h8_2)) .nil) (by kernel_rfl) ?_
    rcases br_inv h with ⟨b9_0, h⟩ | ⟨b9_0, h⟩
    · refine WK.ct (b := r8_1) (by kernel_rfl) b9_0 ?_
      refine WK.shareO (i := 1000) (cc := 1) (l' := [(.t 0, [.ptr 1000 0]), (.t 3, [.ptr 3 0]), (.t 4, [iv (w64 ((o0_v.said.length : Int) + 1))]), (.o 3, (TTxn.ob t)), (.o 1000, (TBench.ob_1 (TBench.mk ((TBench.mk o0_v.said o0_v.store r3_1).said) (TStore.mk ((TBench.mk o0_v.said o0_v.store r3_1).store.Chains) ((TBench.mk o0_v.said o0_v.store r3_1).store.Mark)) ((TBench.mk o0_v.said o0_v.store r3_1).seats))))]) (by kernel_rfl) (by kernel_rfl) (by kernel_rfl) ?_
      obtain ⟨r10_1, h10_2, h⟩ := bd_inv h
      refine WK.rs (g := [.a ⟨.data (.agg [.slc true none 2 (List.map TChain.en r10_1.Chains), .val (.int .i64 r10_1.Mark)]), []⟩]) (l' := [(.t 0, [.ptr 1000 0]), (.o 1000, (TBench.ob_11 (TBench.mk ((TBench.mk o0_v.said o0_v.store r3_1).said) r10_1 ((TBench.mk o0_v.said o0_v.store r3_1).seats))))]) (by kernel_rfl) (.cons (Asks.of (C := Meets Try.prog) (store_Write.meets fu (TStore.mk ((TBench.mk o0_v.said o0_v.store r3_1).store.Chains) ((TBench.mk o0_v.said o0_v.store r3_1).store.Mark)) (w64 ((o0_v.said.length : Int) + 1)) t.Writes _ h10_2)) (.cons (Eq.refl true) .nil)) (by kernel_rfl) ?_
      obtain ⟨c11_1, h⟩ := gd_inv h
      have h_ := some_inj h
      subst h_
      exact WK.rf (g := [.s (.t 72) [.data (.slc true none 1 (List.map e_i64 ((TBench.mk o0_v.said o0_v.store r3_1).said ++ ([1] : List Int))))]]) (.cons (c_al (e := e_i64) (f := e_i64) c11_1) (.cons (congrArg (fun d : DV => [AV.data d]) (c_app (e := e_i64) (s := 1) (l := ((TBench.mk o0_v.said o0_v.store r3_1).said)) (m := ([1] : List Int)))) .nil)) (by kernel_rfl) (by kernel_rfl)
    · refine WK.ce (b := r8_1) (by kernel_rfl) b9_0 ?_
      obtain ⟨c12_1, h⟩ := gd_inv h
      have h_ := some_inj h
      subst h_
      exact WK.rf (g := [.s (.t 36) [.data (.slc true none 1 (List.map e_i64 ((TBench.mk o0_v.said o0_v.store r3_1).said ++ ([2] : List Int))))]]) (.cons (c_al (e := e_i64) (f := e_i64) c12_1) (.cons (congrArg (fun d : DV => [AV.data d]) (c_app (e := e_i64) (s := 1) (l := ((TBench.mk o0_v.said o0_v.store r3_1).said)) (m := ([2] : List Int)))) .nil)) (by kernel_rfl) (by kernel_rfl)
/-- (*diwan/judge.bench).judge -/
def judge_bench_judge_2.O : Nat → Nat := fun t => bif ([3, 4, 5, 6, 27, 35, 36, 39, 47, 48, 51, 63, 71, 72] : List Nat).any (Nat.beq t) then 1 else 0
noncomputable def judge_bench_judge_2 (fu : Nat) (t : TTxn) (o0_v : TBench) : Option TBench :=
  bd (seat_Turn fu o0_v.seats t.Session t.Seq (w64 ((o0_v.said.length : Int) + 1))) fun (r3_1, r3_2) =>
  br (!r3_2)
    (gd (decide (o0_v.said.length + ([3] : List Int).length ≤ 4294967296)) <|
    some (TBench.mk (o0_v.said ++ ([3] : List Int)) o0_v.store r3_1))
    (bd (judge_bench_holds fu t (TBench.mk o0_v.said o0_v.store r3_1)) fun r8_1 =>
    br r8_1
      (bd (store_Write fu (TStore.mk ((TBench.mk o0_v.said o0_v.store r3_1).store.Chains) ((TBench.mk o0_v.said o0_v.store r3_1).store.Mark)) (w64 ((o0_v.said.length : Int) + 1)) t.Writes) fun r10_1 =>
      gd (decide (((TBench.mk o0_v.said o0_v.store r3_1).said).length + ([1] : List Int).length ≤ 4294967296)) <|
      some (TBench.mk ((TBench.mk o0_v.said o0_v.store r3_1).said ++ ([1] : List Int)) r10_1 ((TBench.mk o0_v.said o0_v.store r3_1).seats)))
      (gd (decide (((TBench.mk o0_v.said o0_v.store r3_1).said).length + ([2] : List Int).length ≤ 4294967296)) <|
      some (TBench.mk ((TBench.mk o0_v.said o0_v.store r3_1).said ++ ([2] : List Int)) (TStore.mk ((TBench.mk o0_v.said o0_v.store r3_1).store.Chains) ((TBench.mk o0_v.said o0_v.store r3_1).store.Mark)) ((TBench.mk o0_v.said o0_v.store r3_1).seats))))
theorem judge_bench_judge_2.meets (fu : Nat) (t : TTxn) (o0_v : TBench) (z0 : TBench) (h : judge_bench_judge_2 fu t o0_v = some z0) : Meets Try.prog ⟨21, [.ptr 1000 0, .data (TTxn.ag t)], [(TBench.ob_11 o0_v)]⟩ ⟨.tup [], [(TBench.ob_11 z0)]⟩ := by
  refine meets_of (O := judge_bench_judge_2.O) hmix (fn := Try.f21) (code := bd21) (by kernel_rfl) ?_
  refine WK.weak (l := [(.t 0, [.ptr 1000 0]), (.t 1, [.data (TTxn.ag t)]), (.o 1000, (TBench.ob_11 o0_v))]) (wk_of (by kernel_rfl)) ?_
  unfold judge_bench_judge_2 at h
  refine WK.rs (g := []) (l' := [(.t 0, [.ptr 1000 0]), (.t 3, [.ptr 3 0]), (.o 3, (TTxn.ob t)), (.o 1000, (TBench.ob_11 o0_v))]) (by kernel_rfl) .nil (by kernel_rfl) ?_
  refine WK.rs (g := [.s (.t 11) [iv (o0_v.said.length : Int)]]) (l' := [(.t 0, [.ptr 1000 0]), (.t 3, [.ptr 3 0]), (.t 4, [iv (w64 ((o0_v.said.length : Int) + 1))]), (.o 3, (TTxn.ob t)), (.o 1000, (TBench.ob_11 o0_v))]) (by kernel_rfl) (.cons (c_len (e := e_i64) (l := o0_v.said)) .nil) (by kernel_rfl) ?_
  obtain ⟨⟨r3_1, r3_2⟩, h3_3, h⟩ := bd_inv h
  refine WK.rs (g := [.a ⟨.tup [.data (.slc false none 3 (List.map TSeat.en r3_1)), bv r3_2], []⟩]) (l' := [(.t 0, [.ptr 1000 0]), (.t 3, [.ptr 3 0]), (.t 4, [iv (w64 ((o0_v.said.length : Int) + 1))]), (.t 5, [.data (.slc false none 3 (List.map TSeat.en r3_1))]), (.t 6, [bv r3_2]), (.o 3, (TTxn.ob t)), (.o 1000, (TBench.ob_11 o0_v))]) (by kernel_rfl) (.cons (Asks.of (C := Meets Try.prog) (seat_Turn.meets fu o0_v.seats t.Session t.Seq (w64 ((o0_v.said.length : Int) + 1)) _ _ h3_3)) (.cons (Eq.refl true) .nil)) (by kernel_rfl) ?_
  refine WK.rs (g := []) (l' := [(.t 0, [.ptr 1000 0]), (.t 3, [.ptr 3 0]), (.t 4, [iv (w64 ((o0_v.said.length : Int) + 1))]), (.t 6, [bv r3_2]), (.o 3, (TTxn.ob t)), (.o 1000, (TBench.ob_11 (TBench.mk o0_v.said o0_v.store r3_1)))]) (by kernel_rfl) .nil (by kernel_rfl) ?_
  refine WK.block (n := 0) (by kernel_rfl) ?_
  refine WK.rs (g := []) (l' := [(.t 0, [.ptr 1000 0]), (.t 3, [.ptr 3 0]), (.t 4, [iv (w64 ((o0_v.said.length : Int) + 1))]), (.t 39, [bv (!r3_2)]), (.o 3, (TTxn.ob t)), (.o 1000, (TBench.ob_11 (TBench.mk o0_v.said o0_v.store r3_1)))]) (by kernel_rfl) .nil (by kernel_rfl) ?_
  rcases br_inv h with ⟨b6_0, h⟩ | ⟨b6_0, h⟩
  · refine WK.ct (b := (!r3_2)) (by kernel_rfl) b6_0 ?_
    obtain ⟨c7_1, h⟩ := gd_inv h
    have h_ := some_inj h
    subst h_
    exact WK.rf (g := [.s (.t 48) [.data (.slc true none 1 (List.map e_i64 (o0_v.said ++ ([3] : List Int))))]]) (.cons (c_al (e := e_i64) (f := e_i64) c7_1) (.cons (congrArg (fun d : DV => [AV.data d]) (c_app (e := e_i64) (s := 1) (l := o0_v.said) (m := ([3] : List Int)))) .nil)) (by kernel_rfl) (by kernel_rfl)
  · refine WK.ce (b := (!r3_2)) (by kernel_rfl) b6_0 ?_
    obtain ⟨r8_1, h8_2, h⟩ := bd_inv h
    refine WK.rs (g := [.a ⟨bv r8_1, [(TBench.ob_11 (TBench.mk ((TBench.mk o0_v.said o0_v.store r3_1).said) (TStore.mk ((TBench.mk o0_v.said o0_v.store r3_1).store.Chains) ((TBench.mk o0_v.said o0_v.store r3_1).store.Mark)) ((TBench.mk o0_v.said o0_v.store r3_1).seats)))]⟩]) (l' := [(.t 0, [.ptr 1000 0]), (.t 3, [.ptr 3 0]), (.t 4, [iv (w64 ((o0_v.said.length : Int) + 1))]), (.t 51, [bv r8_1]), (.o 3, (TTxn.ob t)), (.o 1000, (TBench.ob_11 (TBench.mk ((TBench.mk o0_v.said o0_v.store r3_1).said) (TStore.mk ((TBench.mk o0_v.said o0_v.store r3_1).store.Chains) ((TBench.mk o0_v.said o0_v.store r3_1).store.Mark)) ((TBench.mk o0_v.said o0_v.store r3_1).seats))))]) (by kernel_rfl) (.cons (Asks.of (C := Meets Try.prog) (judge_bench_holds.meets fu t (TBench.mk o0_v.said o0_v.store r3_1) _ h8_2)) .nil) (by kernel_rfl) ?_
    rcases br_inv h with ⟨b9_0, h⟩ | ⟨b9_0, h⟩
    · refine WK.ct (b := r8_1) (by kernel_rfl) b9_0 ?_
      refine WK.shareO (i := 1000) (cc := 1) (l' := [(.t 0, [.ptr 1000 0]), (.t 3, [.ptr 3 0]), (.t 4, [iv (w64 ((o0_v.said.length : Int) + 1))]), (.o 3, (TTxn.ob t)), (.o 1000, (TBench.ob_1 (TBench.mk ((TBench.mk o0_v.said o0_v.store r3_1).said) (TStore.mk ((TBench.mk o0_v.said o0_v.store r3_1).store.Chains) ((TBench.mk o0_v.said o0_v.store r3_1).store.Mark)) ((TBench.mk o0_v.said o0_v.store r3_1).seats))))]) (by kernel_rfl) (by kernel_rfl) (by kernel_rfl) ?_
      obtain ⟨r10_1, h10_2, h⟩ := bd_inv h
      refine WK.rs (g := [.a ⟨.data (.agg [.slc true none 2 (List.map TChain.en r10_1.Chains), .val (.int .i64 r10_1.Mark)]), []⟩]) (l' := [(.t 0, [.ptr 1000 0]), (.o 1000, (TBench.ob_11 (TBench.mk ((TBench.mk o0_v.said o0_v.store r3_1).said) r10_1 ((TBench.mk o0_v.said o0_v.store r3_1).seats))))]) (by kernel_rfl) (.cons (Asks.of (C := Meets Try.prog) (store_Write.meets fu (TStore.mk ((TBench.mk o0_v.said o0_v.store r3_1).store.Chains) ((TBench.mk o0_v.said o0_v.store r3_1).store.Mark)) (w64 ((o0_v.said.length : Int) + 1)) t.Writes _ h10_2)) (.cons (Eq.refl true) .nil)) (by kernel_rfl) ?_
      obtain ⟨c11_1, h⟩ := gd_inv h
      have h_ := some_inj h
      subst h_
      exact WK.rf (g := [.s (.t 72) [.data (.slc true none 1 (List.map e_i64 ((TBench.mk o0_v.said o0_v.store r3_1).said ++ ([1] : List Int))))]]) (.cons (c_al (e := e_i64) (f := e_i64) c11_1) (.cons (congrArg (fun d : DV => [AV.data d]) (c_app (e := e_i64) (s := 1) (l := ((TBench.mk o0_v.said o0_v.store r3_1).said)) (m := ([1] : List Int)))) .nil)) (by kernel_rfl) (by kernel_rfl)
    · refine WK.ce (b := r8_1) (by kernel_rfl) b9_0 ?_
      obtain ⟨c12_1, h⟩ := gd_inv h
      have h_ := some_inj h
      subst h_
      exact WK.rf (g := [.s (.t 36) [.data (.slc true none 1 (List.map e_i64 ((TBench.mk o0_v.said o0_v.store r3_1).said ++ ([2] : List Int))))]]) (.cons (c_al (e := e_i64) (f := e_i64) c12_1) (.cons (congrArg (fun d : DV => [AV.data d]) (c_app (e := e_i64) (s := 1) (l := ((TBench.mk o0_v.said o0_v.store r3_1).said)) (m := ([2] : List Int)))) .nil)) (by kernel_rfl) (by kernel_rfl)
/-- diwan/judge.Fold -/
noncomputable def bd12 : Code := (Try.f12.body).getD .skip
def judge_Fold.O : Nat → Nat := fun t => bif ([3, 5, 6, 8, 9, 10] : List Nat).any (Nat.beq t) then 1 else 0
noncomputable def judge_Fold.lp5 (fu : Nat) (l5_0 : List TTxn) (l5_1 : Int) (l5_3 : TStore) : Nat → Int → TBench → Option TBench
  | 0, _, _ => none
  | n_ + 1, l5_2, l5_4 =>
    br (decide (l5_2 < l5_1))
      (ix l5_0 l5_2 fun x8_1 =>
      bd (judge_bench_judge_2 fu x8_1 l5_4) fun r9_1 =>
      judge_Fold.lp5 fu l5_0 l5_1 l5_3 n_ (w64 (l5_2 + 1)) r9_1)
      (some l5_4)
noncomputable def judge_Fold.lp5_post (l5_0 : List TTxn) (l5_1 : Int) (l5_3 : TStore) (r_ : TBench) : Wy → St → Prop := fun e τ => match r_ with
  | y0 => e = .exit 0 ∧ τ = ofL [(.t 3, [.ptr 3 0]), (.t 5, [.ptr 10 0]), (.o 3, [.data (.slc true none 2 (List.map TChain.en l5_3.Chains)), iv l5_3.Mark]), (.o 10, (TBench.ob_11 y0))]
theorem judge_Fold.lp5_ok (fu : Nat) (l5_0 : List TTxn) (l5_1 : Int) (l5_3 : TStore) : ∀ (n_ : Nat) (l5_2 : Int) (l5_4 : TBench) (r_ : TBench), judge_Fold.lp5 fu l5_0 l5_1 l5_3 n_ l5_2 l5_4 = some r_ → WK Try.prog judge_Fold.O (Ck Try.prog) (cB (cR (cL (cR (cR (cR bd12)))))) [] (ofL [(.t 3, [.ptr 3 0]), (.t 5, [.ptr 10 0]), (.t 6, [.fn (.func 21) [.ptr 10 0] []]), (.t 13, [.data (.slc false none 4 (List.map TTxn.en l5_0))]), (.t 14, [iv l5_1]), (.t 15, [iv l5_2]), (.o 3, [.data (.slc true none 2 (List.map TChain.en l5_3.Chains)), iv l5_3.Mark]), (.o 10, (TBench.ob_11 l5_4))]) (judge_Fold.lp5_post l5_0 l5_1 l5_3 r_) := by
  intro n_
  induction n_ with
  | zero => intro l5_2 l5_4 r_ h; exact no_none h
  | succ n_ ih =>
    intro l5_2 l5_4 r_ h
    refine WK.loop (by kernel_rfl) ?_
    refine WK.rs (g := []) (l' := [(.t 3, [.ptr 3 0]), (.t 5, [.ptr 10 0]), (.t 6, [.fn (.func 21) [.ptr 10 0] []]), (.t 13, [.data (.slc false none 4 (List.map TTxn.en l5_0))]), (.t 14, [iv l5_1]), (.t 15, [iv l5_2]), (.t 16, [bv (decide (l5_2 < l5_1))]), (.o 3, [.data (.slc true none 2 (List.map TChain.en l5_3.Chains)), iv l5_3.Mark]), (.o 10, (TBench.ob_11 l5_4))]) (by kernel_rfl) .nil (by kernel_rfl) ?_
    refine WK.seq (by kernel_rfl) ?_
    rcases br_inv h with ⟨b7_0, h⟩ | ⟨b7_0, h⟩
    · refine WK.ct (b := (decide (l5_2 < l5_1))) (by kernel_rfl) b7_0 ?_
      refine WK.skip (by kernel_rfl) ?_
      refine WKe.code (y := (cR (cR (cB (cB (cR (cL (cR (cR (cR bd12)))))))))) (ks' := [.lp (cB (cR (cL (cR (cR (cR bd12))))))]) (by kernel_rfl) ?_
      refine WK.seq (by kernel_rfl) ?_
      refine WK.block (n := 1) (by kernel_rfl) ?_
      obtain ⟨x8_1, a8_2, e8_3, h⟩ := ix_inv h
      refine WK.rs (g := [.c (TTxn.en x8_1)]) (l' := [(.t 3, [.ptr 3 0]), (.t 5, [.ptr 10 0]), (.t 6, [.fn (.func 21) [.ptr 10 0] []]), (.t 8, [.ptr 8 0]), (.t 13, [.data (.slc false none 4 (List.map TTxn.en l5_0))]), (.t 14, [iv l5_1]), (.t 15, [iv l5_2]), (.o 3, [.data (.slc true none 2 (List.map TChain.en l5_3.Chains)), iv l5_3.Mark]), (.o 8, (TTxn.ob x8_1)), (.o 10, (TBench.ob_11 l5_4))]) (by kernel_rfl) (.cons (c_ix (e := TTxn.en) a8_2 e8_3) (.cons (c_el (e := TTxn.en) e8_3) .nil)) (by kernel_rfl) ?_
      obtain ⟨r9_1, h9_2, h⟩ := bd_inv h
      refine WK.rc (g := [.a ⟨.tup [], [(TBench.ob_11 r9_1)]⟩]) (l' := [(.t 3, [.ptr 3 0]), (.t 5, [.ptr 10 0]), (.t 6, [.fn (.func 21) [.ptr 10 0] []]), (.t 13, [.data (.slc false none 4 (List.map TTxn.en l5_0))]), (.t 14, [iv l5_1]), (.t 15, [iv l5_2]), (.o 3, [.data (.slc true none 2 (List.map TChain.en l5_3.Chains)), iv l5_3.Mark]), (.o 10, (TBench.ob_11 r9_1))]) (.cons (Asks.of (C := Meets Try.prog) (judge_bench_judge_2.meets fu x8_1 l5_4 _ h9_2)) .nil) (by kernel_rfl) (y := (cR (cR (cR (cB (cB (cR (cL (cR (cR (cR bd12))))))))))) (ks' := [.lp (cB (cR (cL (cR (cR (cR bd12))))))]) (by kernel_rfl) ?_
      refine WK.rc (g := []) (l' := [(.t 3, [.ptr 3 0]), (.t 5, [.ptr 10 0]), (.t 6, [.fn (.func 21) [.ptr 10 0] []]), (.t 13, [.data (.slc false none 4 (List.map TTxn.en l5_0))]), (.t 14, [iv l5_1]), (.t 15, [iv (w64 (l5_2 + 1))]), (.o 3, [.data (.slc true none 2 (List.map TChain.en l5_3.Chains)), iv l5_3.Mark]), (.o 10, (TBench.ob_11 r9_1))]) .nil (by kernel_rfl) (y := (cB (cR (cL (cR (cR (cR bd12))))))) (ks' := []) (by kernel_rfl) ?_
      exact WK.weak (l := [(.t 3, [.ptr 3 0]), (.t 5, [.ptr 10 0]), (.t 6, [.fn (.func 21) [.ptr 10 0] []]), (.t 13, [.data (.slc false none 4 (List.map TTxn.en l5_0))]), (.t 14, [iv l5_1]), (.t 15, [iv (w64 (l5_2 + 1))]), (.o 3, [.data (.slc true none 2 (List.map TChain.en l5_3.Chains)), iv l5_3.Mark]), (.o 10, (TBench.ob_11 r9_1))]) (wk_of (by kernel_rfl)) (ih (w64 (l5_2 + 1)) r9_1 _ h)
    · refine WK.ce (b := (decide (l5_2 < l5_1))) (by kernel_rfl) b7_0 ?_
      refine WK.weak (l := [(.t 3, [.ptr 3 0]), (.t 5, [.ptr 10 0]), (.o 3, [.data (.slc true none 2 (List.map TChain.en l5_3.Chains)), iv l5_3.Mark]), (.o 10, (TBench.ob_11 l5_4))]) (wk_of (by kernel_rfl)) ?_
      refine WK.exit (n := 0) (by kernel_rfl) ?_
      cases some_inj h
      exact WKe.fin (e' := .exit 0) (by kernel_rfl) ⟨rfl, rfl⟩
noncomputable def judge_Fold (fu : Nat) (l : List TTxn) : Option (List Int × TStore × List TSeat) :=
  bd (judge_Fold.lp5 fu l (l.length : Int) (TStore.mk [] 0) fu 0 (TBench.mk [] (TStore.mk [] 0) [])) fun y11_0 =>
  some (y11_0.said, y11_0.store, y11_0.seats)
theorem judge_Fold.meets (fu : Nat) (l : List TTxn) (z0 : List Int) (z1 : TStore) (z2 : List TSeat) (h : judge_Fold fu l = some (z0, z1, z2)) : Meets Try.prog ⟨12, [.data (.slc false none 4 (List.map TTxn.en l))], []⟩ ⟨.tup [.data (.slc false none 1 (List.map e_i64 z0)), .data (.agg [.slc false none 2 (List.map TChain.en z1.Chains), .val (.int .i64 z1.Mark)]), .data (.slc false none 3 (List.map TSeat.en z2))], []⟩ := by
  refine meets_of (O := judge_Fold.O) hmix (fn := Try.f12) (code := bd12) (by kernel_rfl) ?_
  refine WK.weak (l := [(.t 0, [.data (.slc false none 4 (List.map TTxn.en l))])]) (wk_of (by kernel_rfl)) ?_
  unfold judge_Fold at h
  refine WK.rs (g := []) (l' := [(.t 0, [.data (.slc false none 4 (List.map TTxn.en l))]), (.t 3, [.ptr 3 0]), (.o 3, [.data (.slc true none 2 (List.map TChain.en [])), iv 0])]) (by kernel_rfl) .nil (by kernel_rfl) ?_
  refine WK.rs (g := []) (l' := [(.t 0, [.data (.slc false none 4 (List.map TTxn.en l))]), (.t 3, [.ptr 3 0]), (.t 5, [.ptr 10 0]), (.o 3, [.data (.slc true none 2 (List.map TChain.en [])), iv 0]), (.o 10, (TBench.ob_1101 (TBench.mk [] (TStore.mk [] 0) [])))]) (by kernel_rfl) .nil (by kernel_rfl) ?_
  refine WK.rs (g := []) (l' := [(.t 0, [.data (.slc false none 4 (List.map TTxn.en l))]), (.t 3, [.ptr 3 0]), (.t 5, [.ptr 10 0]), (.t 6, [.fn (.func 21) [.ptr 10 0] []]), (.o 3, [.data (.slc true none 2 (List.map TChain.en [])), iv 0]), (.o 10, (TBench.ob_1101 (TBench.mk [] (TStore.mk [] 0) [])))]) (by kernel_rfl) .nil (by kernel_rfl) ?_
  refine WK.seq (by kernel_rfl) ?_
  refine WK.rs (g := [.s (.t 14) [iv (l.length : Int)]]) (l' := [(.t 3, [.ptr 3 0]), (.t 5, [.ptr 10 0]), (.t 6, [.fn (.func 21) [.ptr 10 0] []]), (.t 13, [.data (.slc false none 4 (List.map TTxn.en l))]), (.t 14, [iv (l.length : Int)]), (.t 15, [iv 0]), (.o 3, [.data (.slc true none 2 (List.map TChain.en [])), iv 0]), (.o 10, (TBench.ob_1101 (TBench.mk [] (TStore.mk [] 0) [])))]) (by kernel_rfl) (.cons (c_len (e := TTxn.en) (l := l)) .nil) (by kernel_rfl) ?_
  refine WK.block (n := 0) (by kernel_rfl) ?_
  obtain ⟨o11, ho11, h⟩ := bd_inv h
  refine WK.shareO (i := 10) (cc := 3) (l' := [(.t 3, [.ptr 3 0]), (.t 5, [.ptr 10 0]), (.t 6, [.fn (.func 21) [.ptr 10 0] []]), (.t 13, [.data (.slc false none 4 (List.map TTxn.en l))]), (.t 14, [iv (l.length : Int)]), (.t 15, [iv 0]), (.o 3, [.data (.slc true none 2 (List.map TChain.en [])), iv 0]), (.o 10, (TBench.ob_11 (TBench.mk [] (TStore.mk [] 0) [])))]) (by kernel_rfl) (by kernel_rfl) (by kernel_rfl) ?_
  refine WK.weak (l := [(.t 3, [.ptr 3 0]), (.t 5, [.ptr 10 0]), (.t 6, [.fn (.func 21) [.ptr 10 0] []]), (.t 13, [.data (.slc false none 4 (List.map TTxn.en l))]), (.t 14, [iv (l.length : Int)]), (.t 15, [iv 0]), (.o 3, [.data (.slc true none 2 (List.map TChain.en [])), iv 0]), (.o 10, (TBench.ob_11 (TBench.mk [] (TStore.mk [] 0) [])))]) (wk_of (by kernel_rfl)) ?_
  refine WK.use (judge_Fold.lp5_ok fu l (l.length : Int) (TStore.mk [] 0) _ 0 (TBench.mk [] (TStore.mk [] 0) []) _ ho11) ?_
  intro e_ τ_ hp_
  obtain ⟨y11_0, rfl⟩ : ∃ y, y = o11 := ⟨_, rfl⟩
  obtain ⟨rfl, rfl⟩ := hp_
  refine WKe.code (y := (cR (cR (cR (cR bd12))))) (ks' := []) (by kernel_rfl) ?_
  refine WK.shareO (i := 10) (cc := 0) (l' := [(.t 3, [.ptr 3 0]), (.t 5, [.ptr 10 0]), (.o 3, [.data (.slc true none 2 (List.map TChain.en [])), iv 0]), (.o 10, (TBench.ob_01 y11_0))]) (by kernel_rfl) (by kernel_rfl) (by kernel_rfl) ?_
  refine WK.shareO (i := 10) (cc := 1) (l' := [(.t 3, [.ptr 3 0]), (.t 5, [.ptr 10 0]), (.o 3, [.data (.slc true none 2 (List.map TChain.en [])), iv 0]), (.o 10, (TBench.ob y11_0))]) (by kernel_rfl) (by kernel_rfl) (by kernel_rfl) ?_
  refine WK.rs (g := []) (l' := [(.t 2, [.data (.slc false none 1 (List.map e_i64 y11_0.said))]), (.t 3, [.ptr 3 0]), (.t 4, [.data (.slc false none 3 (List.map TSeat.en y11_0.seats))]), (.o 3, [.data (.slc false none 2 (List.map TChain.en y11_0.store.Chains)), iv y11_0.store.Mark])]) (by kernel_rfl) (.cons (Eq.refl true) .nil) (by kernel_rfl) ?_
  refine WK.weak (l := [(.t 2, [.data (.slc false none 1 (List.map e_i64 y11_0.said))]), (.t 3, [.ptr 3 0]), (.t 4, [.data (.slc false none 3 (List.map TSeat.en y11_0.seats))]), (.o 3, [.data (.slc false none 2 (List.map TChain.en y11_0.store.Chains)), iv y11_0.store.Mark])]) (wk_of (by kernel_rfl)) ?_
  refine WK.ret (by kernel_rfl) ?_
  have h_0 := some_inj h
  obtain ⟨g_1, h_1⟩ := Prod.mk.inj h_0
  obtain ⟨g_2, h_2⟩ := Prod.mk.inj h_1
  subst g_1
  subst g_2
  subst h_2
  exact WKe.fin (e' := .ret) (by kernel_rfl) (fin_of (g := []) (by first | exact .inl rfl | exact .inr rfl) .nil (by kernel_rfl))
/-- diwan/diwanlaw18.begun -/
noncomputable def bd9 : Code := (Try.f9.body).getD .skip
def diwanlaw18_begun.O : Nat → Nat := fun t => bif ([0, 1, 2, 3, 4, 5, 6, 7, 8, 9, 10, 17, 20] : List Nat).any (Nat.beq t) then 1 else 0
noncomputable def diwanlaw18_begun (fu : Nat) : Option Bool :=
  bd (judge_Fold fu ([(TTxn.mk 1 1 ([(TRead.mk (⟨#[97]⟩ : ByteArray) 0 ByteArray.empty false)] : List TRead) ([(TWrite.mk (⟨#[97]⟩ : ByteArray) (⟨#[118]⟩ : ByteArray) false)] : List TWrite)), (TTxn.mk 2 1 ([(TRead.mk (⟨#[97]⟩ : ByteArray) 0 ByteArray.empty false)] : List TRead) ([(TWrite.mk (⟨#[97]⟩ : ByteArray) (⟨#[118]⟩ : ByteArray) false)] : List TWrite)), (TTxn.mk 1 1 ([(TRead.mk (⟨#[97]⟩ : ByteArray) 0 ByteArray.empty false)] : List TRead) ([(TWrite.mk (⟨#[97]⟩ : ByteArray) (⟨#[118]⟩ : ByteArray) false)] : List TWrite))] : List TTxn)) fun (r5_1, r5_2, r5_3) =>
  br ((r5_1.length : Int) == 3)
    (ix r5_1 0 fun x6_2 =>
    br (x6_2 == 1)
      (ix r5_1 1 fun x6_6 =>
      br (x6_6 == 2)
        (ix r5_1 2 fun x6_10 =>
        br (x6_10 == 3)
          (br ((r5_2.Chains.length : Int) == 1)
            (some ((r5_3.length : Int) == 2))
            (some false))
          (some false))
        (some false))
      (some false))
    (some false)
theorem diwanlaw18_begun.meets (fu : Nat) (z0 : Bool) (h : diwanlaw18_begun fu = some z0) : Meets Try.prog ⟨9, [], []⟩ ⟨bv z0, []⟩ := by
  refine meets_of (O := diwanlaw18_begun.O) hmix (fn := Try.f9) (code := bd9) (by kernel_rfl) ?_
  refine WK.weak (l := []) (wk_of (by kernel_rfl)) ?_
  unfold diwanlaw18_begun at h
  refine WK.rs (g := []) (l' := []) (by kernel_rfl) .nil (by kernel_rfl) ?_
  refine WK.rs (g := []) (l' := [(.t 1, [.ptr 1 0]), (.o 1, (TTxn.ob_0011 (TTxn.mk 1 1 ([(TRead.mk (⟨#[97]⟩ : ByteArray) 0 ByteArray.empty false)] : List TRead) ([(TWrite.mk (⟨#[97]⟩ : ByteArray) (⟨#[118]⟩ : ByteArray) false)] : List TWrite))))]) (by kernel_rfl) .nil (by kernel_rfl) ?_
  refine WK.rs (g := []) (l' := [(.t 1, [.ptr 1 0]), (.t 2, [.ptr 2 0]), (.o 1, (TTxn.ob (TTxn.mk 1 1 ([(TRead.mk (⟨#[97]⟩ : ByteArray) 0 ByteArray.empty false)] : List TRead) ([(TWrite.mk (⟨#[97]⟩ : ByteArray) (⟨#[118]⟩ : ByteArray) false)] : List TWrite)))), (.o 2, (TTxn.ob (TTxn.mk 1 1 ([(TRead.mk (⟨#[97]⟩ : ByteArray) 0 ByteArray.empty false)] : List TRead) ([(TWrite.mk (⟨#[97]⟩ : ByteArray) (⟨#[118]⟩ : ByteArray) false)] : List TWrite))))]) (by kernel_rfl) .nil (by kernel_rfl) ?_
  refine WK.rs (g := []) (l' := [(.t 1, [.ptr 1 0]), (.t 2, [.ptr 2 0]), (.o 1, (TTxn.ob (TTxn.mk 1 1 ([(TRead.mk (⟨#[97]⟩ : ByteArray) 0 ByteArray.empty false)] : List TRead) ([(TWrite.mk (⟨#[97]⟩ : ByteArray) (⟨#[118]⟩ : ByteArray) false)] : List TWrite)))), (.o 2, (TTxn.ob (TTxn.mk 2 1 ([(TRead.mk (⟨#[97]⟩ : ByteArray) 0 ByteArray.empty false)] : List TRead) ([(TWrite.mk (⟨#[97]⟩ : ByteArray) (⟨#[118]⟩ : ByteArray) false)] : List TWrite))))]) (by kernel_rfl) .nil (by kernel_rfl) ?_
  obtain ⟨⟨r5_1, r5_2, r5_3⟩, h5_4, h⟩ := bd_inv h
  refine WK.rs (g := [.a ⟨.tup [.data (.slc false none 1 (List.map e_i64 r5_1)), .data (.agg [.slc false none 2 (List.map TChain.en r5_2.Chains), .val (.int .i64 r5_2.Mark)]), .data (.slc false none 3 (List.map TSeat.en r5_3))], []⟩]) (l' := [(.t 3, [.data (.slc false none 1 (List.map e_i64 r5_1))]), (.t 4, [.ptr 4 0]), (.t 5, [.data (.slc false none 3 (List.map TSeat.en r5_3))]), (.o 4, [.data (.slc false none 2 (List.map TChain.en r5_2.Chains)), iv r5_2.Mark])]) (by kernel_rfl) (.cons (Asks.fg (args1 := []) (args2 := []) (nl := some false) (sz := 4) (es := List.map TTxn.en ([(TTxn.mk 1 1 ([(TRead.mk (⟨#[97]⟩ : ByteArray) 0 ByteArray.empty false)] : List TRead) ([(TWrite.mk (⟨#[97]⟩ : ByteArray) (⟨#[118]⟩ : ByteArray) false)] : List TWrite)), (TTxn.mk 2 1 ([(TRead.mk (⟨#[97]⟩ : ByteArray) 0 ByteArray.empty false)] : List TRead) ([(TWrite.mk (⟨#[97]⟩ : ByteArray) (⟨#[118]⟩ : ByteArray) false)] : List TWrite)), (TTxn.mk 1 1 ([(TRead.mk (⟨#[97]⟩ : ByteArray) 0 ByteArray.empty false)] : List TRead) ([(TWrite.mk (⟨#[97]⟩ : ByteArray) (⟨#[118]⟩ : ByteArray) false)] : List TWrite))] : List TTxn)) (Asks.of (C := Meets Try.prog) (judge_Fold.meets fu ([(TTxn.mk 1 1 ([(TRead.mk (⟨#[97]⟩ : ByteArray) 0 ByteArray.empty false)] : List TRead) ([(TWrite.mk (⟨#[97]⟩ : ByteArray) (⟨#[118]⟩ : ByteArray) false)] : List TWrite)), (TTxn.mk 2 1 ([(TRead.mk (⟨#[97]⟩ : ByteArray) 0 ByteArray.empty false)] : List TRead) ([(TWrite.mk (⟨#[97]⟩ : ByteArray) (⟨#[118]⟩ : ByteArray) false)] : List TWrite)), (TTxn.mk 1 1 ([(TRead.mk (⟨#[97]⟩ : ByteArray) 0 ByteArray.empty false)] : List TRead) ([(TWrite.mk (⟨#[97]⟩ : ByteArray) (⟨#[118]⟩ : ByteArray) false)] : List TWrite))] : List TTxn) _ _ _ h5_4))) .nil) (by kernel_rfl) ?_
  rcases br_inv h with ⟨b6_1, h⟩ | ⟨b6_1, h⟩
  · obtain ⟨x6_2, a6_3, e6_4, h⟩ := ix_inv h
    rcases br_inv h with ⟨b6_5, h⟩ | ⟨b6_5, h⟩
    · obtain ⟨x6_6, a6_7, e6_8, h⟩ := ix_inv h
      rcases br_inv h with ⟨b6_9, h⟩ | ⟨b6_9, h⟩
      · obtain ⟨x6_10, a6_11, e6_12, h⟩ := ix_inv h
        rcases br_inv h with ⟨b6_13, h⟩ | ⟨b6_13, h⟩
        · rcases br_inv h with ⟨b6_14, h⟩ | ⟨b6_14, h⟩
          · refine WK.rs (g := [.s (.t 23) [iv (r5_1.length : Int)], .b true, .b true, .c (e_i64 x6_2), .b true, .b true, .b true, .b true, .b true, .c (e_i64 x6_6), .b true, .b true, .b true, .b true, .b true, .c (e_i64 x6_10), .b true, .b true, .b true, .b true, .b true, .b true, .s (.t 46) [iv (r5_2.Chains.length : Int)], .b true, .b true, .b true, .b true, .s (.t 51) [iv (r5_3.length : Int)], .b true, .b true]) (l' := [(.t 0, [bv ((r5_3.length : Int) == 2)])]) (by kernel_rfl) (.cons (c_len (e := e_i64) (l := r5_1)) (.cons b6_1 (.cons b6_1 (.cons (c_ix (e := e_i64) a6_3 e6_4) (.cons (c_el (e := e_i64) e6_4) (.cons b6_1 (.cons b6_1 (.cons b6_1 (.cons b6_5 (.cons b6_5 (.cons (c_ix (e := e_i64) a6_7 e6_8) (.cons (c_el (e := e_i64) e6_8) (.cons b6_5 (.cons b6_5 (.cons b6_5 (.cons b6_9 (.cons b6_9 (.cons (c_ix (e := e_i64) a6_11 e6_12) (.cons (c_el (e := e_i64) e6_12) (.cons b6_9 (.cons b6_9 (.cons b6_9 (.cons b6_13 (.cons b6_13 (.cons b6_13 (.cons (c_len (e := TChain.en) (l := r5_2.Chains)) (.cons b6_13 (.cons b6_13 (.cons b6_14 (.cons b6_14 (.cons (c_len (e := TSeat.en) (l := r5_3)) (.cons b6_14 (.cons b6_14 .nil))))))))))))))))))))))))))))))))) (by kernel_rfl) ?_
            refine WK.weak (l := [(.t 0, [bv ((r5_3.length : Int) == 2)])]) (wk_of (by kernel_rfl)) ?_
            refine WK.ret (by kernel_rfl) ?_
            have h_ := some_inj h
            subst h_
            exact WKe.fin (e' := .ret) (by kernel_rfl) (fin_of (g := []) (by first | exact .inl rfl | exact .inr rfl) .nil (by kernel_rfl))
          · refine WK.rs (g := [.s (.t 23) [iv (r5_1.length : Int)], .b true, .b true, .c (e_i64 x6_2), .b true, .b true, .b true, .b true, .b true, .c (e_i64 x6_6), .b true, .b true, .b true, .b true, .b true, .c (e_i64 x6_10), .b true, .b true, .b true, .b true, .b true, .b true, .s (.t 46) [iv (r5_2.Chains.length : Int)], .b true, .b true, .b false, .b false, .b false, .b false]) (l' := [(.t 0, [bv false])]) (by kernel_rfl) (.cons (c_len (e := e_i64) (l := r5_1)) (.cons b6_1 (.cons b6_1 (.cons (c_ix (e := e_i64) a6_3 e6_4) (.cons (c_el (e := e_i64) e6_4) (.cons b6_1 (.cons b6_1 (.cons b6_1 (.cons b6_5 (.cons b6_5 (.cons (c_ix (e := e_i64) a6_7 e6_8) (.cons (c_el (e := e_i64) e6_8) (.cons b6_5 (.cons b6_5 (.cons b6_5 (.cons b6_9 (.cons b6_9 (.cons (c_ix (e := e_i64) a6_11 e6_12) (.cons (c_el (e := e_i64) e6_12) (.cons b6_9 (.cons b6_9 (.cons b6_9 (.cons b6_13 (.cons b6_13 (.cons b6_13 (.cons (c_len (e := TChain.en) (l := r5_2.Chains)) (.cons b6_13 (.cons b6_13 (.cons b6_14 (.cons b6_14 (.cons b6_14 (.cons b6_14 .nil)))))))))))))))))))))))))))))))) (by kernel_rfl) ?_
            refine WK.weak (l := [(.t 0, [bv false])]) (wk_of (by kernel_rfl)) ?_
            refine WK.ret (by kernel_rfl) ?_
            have h_ := some_inj h
            subst h_
            exact WKe.fin (e' := .ret) (by kernel_rfl) (fin_of (g := []) (by first | exact .inl rfl | exact .inr rfl) .nil (by kernel_rfl))
        · refine WK.rs (g := [.s (.t 23) [iv (r5_1.length : Int)], .b true, .b true, .c (e_i64 x6_2), .b true, .b true, .b true, .b true, .b true, .c (e_i64 x6_6), .b true, .b true, .b true, .b true, .b true, .c (e_i64 x6_10), .b true, .b true, .b true, .b false, .b false, .b false, .b false, .b false, .b false, .b false, .b false, .b false]) (l' := [(.t 0, [bv false])]) (by kernel_rfl) (.cons (c_len (e := e_i64) (l := r5_1)) (.cons b6_1 (.cons b6_1 (.cons (c_ix (e := e_i64) a6_3 e6_4) (.cons (c_el (e := e_i64) e6_4) (.cons b6_1 (.cons b6_1 (.cons b6_1 (.cons b6_5 (.cons b6_5 (.cons (c_ix (e := e_i64) a6_7 e6_8) (.cons (c_el (e := e_i64) e6_8) (.cons b6_5 (.cons b6_5 (.cons b6_5 (.cons b6_9 (.cons b6_9 (.cons (c_ix (e := e_i64) a6_11 e6_12) (.cons (c_el (e := e_i64) e6_12) (.cons b6_9 (.cons b6_9 (.cons b6_9 (.cons b6_13 (.cons b6_13 (.cons b6_13 (.cons b6_13 (.cons b6_13 (.cons (Eq.refl false) (.cons (Eq.refl false) (.cons (Eq.refl false) (.cons (Eq.refl false) .nil))))))))))))))))))))))))))))))) (by kernel_rfl) ?_
          refine WK.weak (l := [(.t 0, [bv false])]) (wk_of (by kernel_rfl)) ?_
          refine WK.ret (by kernel_rfl) ?_
          have h_ := some_inj h
          subst h_
          exact WKe.fin (e' := .ret) (by kernel_rfl) (fin_of (g := []) (by first | exact .inl rfl | exact .inr rfl) .nil (by kernel_rfl))
      · refine WK.rs (g := [.s (.t 23) [iv (r5_1.length : Int)], .b true, .b true, .c (e_i64 x6_2), .b true, .b true, .b true, .b true, .b true, .c (e_i64 x6_6), .b true, .b true, .b true, .b false, .b false, .b false, .b false, .b false, .b false, .b false, .b false, .b false, .b false, .b false, .b false, .b false, .b false]) (l' := [(.t 0, [bv false])]) (by kernel_rfl) (.cons (c_len (e := e_i64) (l := r5_1)) (.cons b6_1 (.cons b6_1 (.cons (c_ix (e := e_i64) a6_3 e6_4) (.cons (c_el (e := e_i64) e6_4) (.cons b6_1 (.cons b6_1 (.cons b6_1 (.cons b6_5 (.cons b6_5 (.cons (c_ix (e := e_i64) a6_7 e6_8) (.cons (c_el (e := e_i64) e6_8) (.cons b6_5 (.cons b6_5 (.cons b6_5 (.cons b6_9 (.cons b6_9 (.cons b6_9 (.cons b6_9 (.cons b6_9 (.cons (Eq.refl false) (.cons (Eq.refl false) (.cons (Eq.refl false) (.cons (Eq.refl false) (.cons (Eq.refl false) (.cons (Eq.refl false) (.cons (Eq.refl false) (.cons (Eq.refl false) (.cons (Eq.refl false) .nil))))))))))))))))))))))))))))) (by kernel_rfl) ?_
        refine WK.weak (l := [(.t 0, [bv false])]) (wk_of (by kernel_rfl)) ?_
        refine WK.ret (by kernel_rfl) ?_
        have h_ := some_inj h
        subst h_
        exact WKe.fin (e' := .ret) (by kernel_rfl) (fin_of (g := []) (by first | exact .inl rfl | exact .inr rfl) .nil (by kernel_rfl))
    · refine WK.rs (g := [.s (.t 23) [iv (r5_1.length : Int)], .b true, .b true, .c (e_i64 x6_2), .b true, .b true, .b true, .b false, .b false, .b false, .b false, .b false, .b false, .b false, .b false, .b false, .b false, .b false, .b false, .b false, .b false, .b false, .b false, .b false, .b false, .b false]) (l' := [(.t 0, [bv false])]) (by kernel_rfl) (.cons (c_len (e := e_i64) (l := r5_1)) (.cons b6_1 (.cons b6_1 (.cons (c_ix (e := e_i64) a6_3 e6_4) (.cons (c_el (e := e_i64) e6_4) (.cons b6_1 (.cons b6_1 (.cons b6_1 (.cons b6_5 (.cons b6_5 (.cons b6_5 (.cons b6_5 (.cons b6_5 (.cons (Eq.refl false) (.cons (Eq.refl false) (.cons (Eq.refl false) (.cons (Eq.refl false) (.cons (Eq.refl false) (.cons (Eq.refl false) (.cons (Eq.refl false) (.cons (Eq.refl false) (.cons (Eq.refl false) (.cons (Eq.refl false) (.cons (Eq.refl false) (.cons (Eq.refl false) (.cons (Eq.refl false) (.cons (Eq.refl false) .nil))))))))))))))))))))))))))) (by kernel_rfl) ?_
      refine WK.weak (l := [(.t 0, [bv false])]) (wk_of (by kernel_rfl)) ?_
      refine WK.ret (by kernel_rfl) ?_
      have h_ := some_inj h
      subst h_
      exact WKe.fin (e' := .ret) (by kernel_rfl) (fin_of (g := []) (by first | exact .inl rfl | exact .inr rfl) .nil (by kernel_rfl))
  · refine WK.rs (g := [.s (.t 23) [iv (r5_1.length : Int)], .b false, .b false, .b false, .b false, .b false, .b false, .b false, .b false, .b false, .b false, .b false, .b false, .b false, .b false, .b false, .b false, .b false, .b false, .b false, .b false, .b false, .b false, .b false, .b false]) (l' := [(.t 0, [bv false])]) (by kernel_rfl) (.cons (c_len (e := e_i64) (l := r5_1)) (.cons b6_1 (.cons b6_1 (.cons b6_1 (.cons b6_1 (.cons b6_1 (.cons (Eq.refl false) (.cons (Eq.refl false) (.cons (Eq.refl false) (.cons (Eq.refl false) (.cons (Eq.refl false) (.cons (Eq.refl false) (.cons (Eq.refl false) (.cons (Eq.refl false) (.cons (Eq.refl false) (.cons (Eq.refl false) (.cons (Eq.refl false) (.cons (Eq.refl false) (.cons (Eq.refl false) (.cons (Eq.refl false) (.cons (Eq.refl false) (.cons (Eq.refl false) (.cons (Eq.refl false) (.cons (Eq.refl false) (.cons (Eq.refl false) .nil))))))))))))))))))))))))) (by kernel_rfl) ?_
    refine WK.weak (l := [(.t 0, [bv false])]) (wk_of (by kernel_rfl)) ?_
    refine WK.ret (by kernel_rfl) ?_
    have h_ := some_inj h
    subst h_
    exact WKe.fin (e' := .ret) (by kernel_rfl) (fin_of (g := []) (by first | exact .inl rfl | exact .inr rfl) .nil (by kernel_rfl))
/-- diwan/diwanplay.Made -/
noncomputable def bd10 : Code := (Try.f10.body).getD .skip
def diwanplay_Made.O : Nat → Nat := fun t => bif ([2, 4, 5] : List Nat).any (Nat.beq t) then 1 else 0
noncomputable def diwanplay_Made (l : List Int) : Option TPicks :=
  some (TPicks.mk l 0)
theorem diwanplay_Made.meets (l : List Int) (z0 : TPicks) (h : diwanplay_Made l = some z0) : Meets Try.prog ⟨10, [.data (.slc false none 1 (List.map e_u8 l))], []⟩ ⟨.ptr 1000 0, [[.data (.slc false none 1 (List.map e_u8 z0.l)), iv z0.n]]⟩ := by
  refine meets_of (O := diwanplay_Made.O) hmix (fn := Try.f10) (code := bd10) (by kernel_rfl) ?_
  refine WK.weak (l := [(.t 0, [.data (.slc false none 1 (List.map e_u8 l))])]) (wk_of (by kernel_rfl)) ?_
  unfold diwanplay_Made at h
  refine WK.rs (g := []) (l' := [(.t 0, [.data (.slc false none 1 (List.map e_u8 l))])]) (by kernel_rfl) .nil (by kernel_rfl) ?_
  refine WK.rs (g := []) (l' := [(.t 2, [.ptr 5 0]), (.o 5, [.data (.slc false none 1 (List.map e_u8 l)), iv 0])]) (by kernel_rfl) .nil (by kernel_rfl) ?_
  refine WK.weak (l := [(.t 2, [.ptr 5 0]), (.o 5, [.data (.slc false none 1 (List.map e_u8 l)), iv 0])]) (wk_of (by kernel_rfl)) ?_
  refine WK.ret (by kernel_rfl) ?_
  have h_ := some_inj h
  subst h_
  exact WKe.fin (e' := .ret) (by kernel_rfl) (fin_of (g := []) (by first | exact .inl rfl | exact .inr rfl) .nil (by kernel_rfl))
/-- (*diwan/diwanplay.Picks).Num -/
noncomputable def bd20 : Code := (Try.f20.body).getD .skip
def diwanplay_Picks_Num.O : Nat → Nat := fun t => bif ([4, 19] : List Nat).any (Nat.beq t) then 1 else 0
noncomputable def diwanplay_Picks_Num (m : Int) (o0_v : TPicks) : Option (Int × TPicks) :=
  br (decide (o0_v.n ≥ (o0_v.l.length : Int)))
    (some (0, o0_v))
    (ix o0_v.l (w64 ((w64 (o0_v.n + 1)) - 1)) fun x6_1 =>
    gd (!decide (m = 0)) <|
    some ((Int.tmod (w64 x6_1) m), (TPicks.mk o0_v.l (w64 (o0_v.n + 1)))))
theorem diwanplay_Picks_Num.meets (m : Int) (o0_v : TPicks) (z0 : Int) (z1 : TPicks) (h : diwanplay_Picks_Num m o0_v = some (z0, z1)) : Meets Try.prog ⟨20, [.ptr 1000 0, iv m], [[.data (.slc false none 1 (List.map e_u8 o0_v.l)), iv o0_v.n]]⟩ ⟨iv z0, [[.data (.slc false none 1 (List.map e_u8 z1.l)), iv z1.n]]⟩ := by
  refine meets_of (O := diwanplay_Picks_Num.O) hmix (fn := Try.f20) (code := bd20) (by kernel_rfl) ?_
  refine WK.weak (l := [(.t 0, [.ptr 1000 0]), (.t 1, [iv m]), (.o 1000, [.data (.slc false none 1 (List.map e_u8 o0_v.l)), iv o0_v.n])]) (wk_of (by kernel_rfl)) ?_
  unfold diwanplay_Picks_Num at h
  refine WK.rs (g := []) (l' := [(.t 0, [.ptr 1000 0]), (.t 1, [iv m]), (.o 1000, [.data (.slc false none 1 (List.map e_u8 o0_v.l)), iv o0_v.n])]) (by kernel_rfl) .nil (by kernel_rfl) ?_
  refine WK.seq (by kernel_rfl) ?_
  refine WK.rs (g := [.s (.t 13) [iv (o0_v.l.length : Int)]]) (l' := [(.t 0, [.ptr 1000 0]), (.t 1, [iv m]), (.t 14, [bv (decide (o0_v.n ≥ (o0_v.l.length : Int)))]), (.o 1000, [.data (.slc false none 1 (List.map e_u8 o0_v.l)), iv o0_v.n])]) (by kernel_rfl) (.cons (c_len (e := e_u8) (l := o0_v.l)) (.cons (Eq.refl true) .nil)) (by kernel_rfl) ?_
  rcases br_inv h with ⟨b3_0, h⟩ | ⟨b3_0, h⟩
  · refine WK.ct (b := (decide (o0_v.n ≥ (o0_v.l.length : Int)))) (by kernel_rfl) b3_0 ?_
    refine WK.rs (g := []) (l' := [(.t 4, [iv 0]), (.o 1000, [.data (.slc false none 1 (List.map e_u8 o0_v.l)), iv o0_v.n])]) (by kernel_rfl) .nil (by kernel_rfl) ?_
    refine WK.weak (l := [(.t 4, [iv 0]), (.o 1000, [.data (.slc false none 1 (List.map e_u8 o0_v.l)), iv o0_v.n])]) (wk_of (by kernel_rfl)) ?_
    refine WK.ret (by kernel_rfl) ?_
    have h_0 := some_inj h
    obtain ⟨g_1, h_1⟩ := Prod.mk.inj h_0
    subst g_1
    subst h_1
    exact WKe.fin (e' := .ret) (by kernel_rfl) (fin_of (g := []) (by first | exact .inl rfl | exact .inr rfl) .nil (by kernel_rfl))
  · refine WK.ce (b := (decide (o0_v.n ≥ (o0_v.l.length : Int)))) (by kernel_rfl) b3_0 ?_
    refine WK.skip (by kernel_rfl) ?_
    refine WKe.code (y := (cR (cR bd20))) (ks' := []) (by kernel_rfl) ?_
    refine WK.rs (g := []) (l' := [(.t 0, [.ptr 1000 0]), (.t 1, [iv m]), (.o 1000, [.data (.slc false none 1 (List.map e_u8 o0_v.l)), iv (w64 (o0_v.n + 1))])]) (by kernel_rfl) .nil (by kernel_rfl) ?_
    obtain ⟨x6_1, a6_2, e6_3, h⟩ := ix_inv h
    obtain ⟨c6_4, h⟩ := gd_inv h
    refine WK.rs (g := [.c (e_u8 x6_1)]) (l' := [(.t 4, [iv (Int.tmod (w64 x6_1) m)]), (.o 1000, [.data (.slc false none 1 (List.map e_u8 o0_v.l)), iv (w64 (o0_v.n + 1))])]) (by kernel_rfl) (.cons (c_ix (e := e_u8) a6_2 e6_3) (.cons (c_el (e := e_u8) e6_3) (.cons c6_4 (.cons (Eq.refl true) .nil)))) (by kernel_rfl) ?_
    refine WK.weak (l := [(.t 4, [iv (Int.tmod (w64 x6_1) m)]), (.o 1000, [.data (.slc false none 1 (List.map e_u8 o0_v.l)), iv (w64 (o0_v.n + 1))])]) (wk_of (by kernel_rfl)) ?_
    refine WK.ret (by kernel_rfl) ?_
    have h_0 := some_inj h
    obtain ⟨g_1, h_1⟩ := Prod.mk.inj h_0
    subst g_1
    subst h_1
    exact WKe.fin (e' := .ret) (by kernel_rfl) (fin_of (g := []) (by first | exact .inl rfl | exact .inr rfl) .nil (by kernel_rfl))
/-- diwan/diwanplay.keys -/
noncomputable def bd33 : Code := (Try.f33.body).getD .skip
def diwanplay_keys.O : Nat → Nat := fun t => bif ([0, 1] : List Nat).any (Nat.beq t) then 1 else 0
noncomputable def diwanplay_keys : Option Unit :=
  some ()
theorem diwanplay_keys.meets (h : diwanplay_keys = some ()) : Meets Try.prog ⟨33, [], []⟩ ⟨.data (.slc true (some false) 1 (List.map e_s ([(⟨#[97]⟩ : ByteArray), (⟨#[98]⟩ : ByteArray), (⟨#[99]⟩ : ByteArray), (⟨#[100]⟩ : ByteArray), (⟨#[101, 101]⟩ : ByteArray), (⟨#[102, 102]⟩ : ByteArray)] : List ByteArray))), []⟩ := by
  refine meets_of (O := diwanplay_keys.O) hmix (fn := Try.f33) (code := bd33) (by kernel_rfl) ?_
  refine WK.weak (l := []) (wk_of (by kernel_rfl)) ?_
  unfold diwanplay_keys at h
  refine WK.rs (g := []) (l' := []) (by kernel_rfl) .nil (by kernel_rfl) ?_
  refine WK.rs (g := []) (l' := [(.t 0, [.data (.slc true (some false) 1 (List.map e_s ([(⟨#[97]⟩ : ByteArray), (⟨#[98]⟩ : ByteArray), (⟨#[99]⟩ : ByteArray), (⟨#[100]⟩ : ByteArray), (⟨#[101, 101]⟩ : ByteArray), (⟨#[102, 102]⟩ : ByteArray)] : List ByteArray)))])]) (by kernel_rfl) .nil (by kernel_rfl) ?_
  refine WK.weak (l := [(.t 0, [.data (.slc true (some false) 1 (List.map e_s ([(⟨#[97]⟩ : ByteArray), (⟨#[98]⟩ : ByteArray), (⟨#[99]⟩ : ByteArray), (⟨#[100]⟩ : ByteArray), (⟨#[101, 101]⟩ : ByteArray), (⟨#[102, 102]⟩ : ByteArray)] : List ByteArray)))])]) (wk_of (by kernel_rfl)) ?_
  refine WK.ret (by kernel_rfl) ?_
  cases some_inj h
  exact WKe.fin (e' := .ret) (by kernel_rfl) (fin_of (g := []) (by first | exact .inl rfl | exact .inr rfl) .nil (by kernel_rfl))
/-- (*diwan/diwanplay.Picks).Keys -/
noncomputable def bd26 : Code := (Try.f26.body).getD .skip
def diwanplay_Picks_Keys.O : Nat → Nat := fun t => bif ([4, 5, 6, 7, 8, 32] : List Nat).any (Nat.beq t) then 1 else 0
noncomputable def diwanplay_Picks_Keys.lp6 (fu : Nat) (l6_0 : Int) (l6_3 : List ByteArray) (l6_5 : TPicks) : Nat → (List ByteArray) → Int → Int → Option (List ByteArray)
  | 0, _, _, _ => none
  | n_ + 1, l6_1, l6_2, l6_4 =>
    br (decide (l6_4 < (l6_3.length : Int)))
      (br (decide ((l6_1.length : Int) < l6_0))
        (br ((Int.tmod l6_2 2) == 1)
          (ix l6_3 l6_4 fun x11_1 =>
          gd (decide (l6_1.length + ([x11_1] : List ByteArray).length ≤ 4294967296)) <|
          diwanplay_Picks_Keys.lp6 fu l6_0 l6_3 l6_5 n_ (l6_1 ++ ([x11_1] : List ByteArray)) (w64 (Int.tdiv l6_2 2)) (w64 (l6_4 + 1)))
          (diwanplay_Picks_Keys.lp6 fu l6_0 l6_3 l6_5 n_ l6_1 (w64 (Int.tdiv l6_2 2)) (w64 (l6_4 + 1))))
        (some l6_1))
      (some l6_1)
noncomputable def diwanplay_Picks_Keys.lp6_post (l6_0 : Int) (l6_3 : List ByteArray) (l6_5 : TPicks) (r_ : (List ByteArray)) : Wy → St → Prop := fun e τ => match r_ with
  | y0 => e = .exit 0 ∧ τ = ofL [(.t 5, [.data (.slc true none 1 (List.map e_s y0))]), (.o 1000, [.data (.slc false none 1 (List.map e_u8 l6_5.l)), iv l6_5.n])]
theorem diwanplay_Picks_Keys.lp6_ok (fu : Nat) (l6_0 : Int) (l6_3 : List ByteArray) (l6_5 : TPicks) : ∀ (n_ : Nat) (l6_1 : List ByteArray) (l6_2 : Int) (l6_4 : Int) (r_ : (List ByteArray)), diwanplay_Picks_Keys.lp6 fu l6_0 l6_3 l6_5 n_ l6_1 l6_2 l6_4 = some r_ → WK Try.prog diwanplay_Picks_Keys.O (Ck Try.prog) (cB (cR (cL (cR (cR (cR (cR bd26))))))) [] (ofL [(.t 1, [iv l6_0]), (.t 5, [.data (.slc true none 1 (List.map e_s l6_1))]), (.t 6, [iv l6_2]), (.t 7, [.data (.slc true (some false) 1 (List.map e_s l6_3))]), (.t 8, [iv l6_4]), (.o 1000, [.data (.slc false none 1 (List.map e_u8 l6_5.l)), iv l6_5.n])]) (diwanplay_Picks_Keys.lp6_post l6_0 l6_3 l6_5 r_) := by
  intro n_
  induction n_ with
  | zero => intro l6_1 l6_2 l6_4 r_ h; exact no_none h
  | succ n_ ih =>
    intro l6_1 l6_2 l6_4 r_ h
    refine WK.loop (by kernel_rfl) ?_
    refine WK.seq (by kernel_rfl) ?_
    rcases br_inv h with ⟨b7_1, h⟩ | ⟨b7_1, h⟩
    · refine WK.rs (g := [.s (.t 14) [iv (l6_3.length : Int)], .b true, .b true, .s (.t 18) [iv (l6_1.length : Int)], .b true, .b true, .b true]) (l' := [(.t 1, [iv l6_0]), (.t 5, [.data (.slc true none 1 (List.map e_s l6_1))]), (.t 6, [iv l6_2]), (.t 7, [.data (.slc true (some false) 1 (List.map e_s l6_3))]), (.t 8, [iv l6_4]), (.t 21, [bv (decide ((l6_1.length : Int) < l6_0))]), (.o 1000, [.data (.slc false none 1 (List.map e_u8 l6_5.l)), iv l6_5.n])]) (by kernel_rfl) (.cons (c_len (e := e_s) (l := l6_3)) (.cons b7_1 (.cons b7_1 (.cons (c_len (e := e_s) (l := l6_1)) (.cons b7_1 (.cons b7_1 (.cons b7_1 .nil))))))) (by kernel_rfl) ?_
      rcases br_inv h with ⟨b8_0, h⟩ | ⟨b8_0, h⟩
      · refine WK.ct (b := (decide ((l6_1.length : Int) < l6_0))) (by kernel_rfl) b8_0 ?_
        refine WK.skip (by kernel_rfl) ?_
        refine WKe.code (y := (cR (cB (cB (cR (cL (cR (cR (cR (cR bd26)))))))))) (ks' := [.lp (cB (cR (cL (cR (cR (cR (cR bd26)))))))]) (by kernel_rfl) ?_
        refine WK.seq (by kernel_rfl) ?_
        refine WK.block (n := 1) (by kernel_rfl) ?_
        refine WK.seq (by kernel_rfl) ?_
        refine WK.rs (g := []) (l' := [(.t 1, [iv l6_0]), (.t 5, [.data (.slc true none 1 (List.map e_s l6_1))]), (.t 6, [iv l6_2]), (.t 7, [.data (.slc true (some false) 1 (List.map e_s l6_3))]), (.t 8, [iv l6_4]), (.t 26, [bv ((Int.tmod l6_2 2) == 1)]), (.o 1000, [.data (.slc false none 1 (List.map e_u8 l6_5.l)), iv l6_5.n])]) (by kernel_rfl) (.cons (Eq.refl true) .nil) (by kernel_rfl) ?_
        rcases br_inv h with ⟨b10_0, h⟩ | ⟨b10_0, h⟩
        · refine WK.ct (b := ((Int.tmod l6_2 2) == 1)) (by kernel_rfl) b10_0 ?_
          obtain ⟨x11_1, a11_2, e11_3, h⟩ := ix_inv h
          obtain ⟨c11_4, h⟩ := gd_inv h
          refine WK.rc (g := [.c (e_s x11_1), .s (.t 33) [.data (.slc true none 1 (List.map e_s (l6_1 ++ ([x11_1] : List ByteArray))))]]) (l' := [(.t 1, [iv l6_0]), (.t 5, [.data (.slc true none 1 (List.map e_s (l6_1 ++ ([x11_1] : List ByteArray))))]), (.t 6, [iv l6_2]), (.t 7, [.data (.slc true (some false) 1 (List.map e_s l6_3))]), (.t 8, [iv l6_4]), (.o 1000, [.data (.slc false none 1 (List.map e_u8 l6_5.l)), iv l6_5.n])]) (.cons (c_ix (e := e_s) a11_2 e11_3) (.cons (c_el (e := e_s) e11_3) (.cons (c_al (e := e_s) (f := e_s) c11_4) (.cons (congrArg (fun d : DV => [AV.data d]) (c_app (e := e_s) (s := 1) (l := l6_1) (m := ([x11_1] : List ByteArray)))) .nil)))) (by kernel_rfl) (y := (cR (cB (cL (cR (cB (cB (cR (cL (cR (cR (cR (cR bd26))))))))))))) (ks' := [.blk 1, .seq (cR (cR (cB (cB (cR (cL (cR (cR (cR (cR bd26)))))))))), .lp (cB (cR (cL (cR (cR (cR (cR bd26)))))))]) (by kernel_rfl) ?_
          refine WK.rc (g := []) (l' := [(.t 1, [iv l6_0]), (.t 5, [.data (.slc true none 1 (List.map e_s (l6_1 ++ ([x11_1] : List ByteArray))))]), (.t 6, [iv (w64 (Int.tdiv l6_2 2))]), (.t 7, [.data (.slc true (some false) 1 (List.map e_s l6_3))]), (.t 8, [iv l6_4]), (.o 1000, [.data (.slc false none 1 (List.map e_u8 l6_5.l)), iv l6_5.n])]) (.cons (Eq.refl true) .nil) (by kernel_rfl) (y := (cR (cR (cB (cB (cR (cL (cR (cR (cR (cR bd26))))))))))) (ks' := [.lp (cB (cR (cL (cR (cR (cR (cR bd26)))))))]) (by kernel_rfl) ?_
          refine WK.rc (g := []) (l' := [(.t 1, [iv l6_0]), (.t 5, [.data (.slc true none 1 (List.map e_s (l6_1 ++ ([x11_1] : List ByteArray))))]), (.t 6, [iv (w64 (Int.tdiv l6_2 2))]), (.t 7, [.data (.slc true (some false) 1 (List.map e_s l6_3))]), (.t 8, [iv (w64 (l6_4 + 1))]), (.o 1000, [.data (.slc false none 1 (List.map e_u8 l6_5.l)), iv l6_5.n])]) .nil (by kernel_rfl) (y := (cB (cR (cL (cR (cR (cR (cR bd26)))))))) (ks' := []) (by kernel_rfl) ?_
          exact WK.weak (l := [(.t 1, [iv l6_0]), (.t 5, [.data (.slc true none 1 (List.map e_s (l6_1 ++ ([x11_1] : List ByteArray))))]), (.t 6, [iv (w64 (Int.tdiv l6_2 2))]), (.t 7, [.data (.slc true (some false) 1 (List.map e_s l6_3))]), (.t 8, [iv (w64 (l6_4 + 1))]), (.o 1000, [.data (.slc false none 1 (List.map e_u8 l6_5.l)), iv l6_5.n])]) (wk_of (by kernel_rfl)) (ih (l6_1 ++ ([x11_1] : List ByteArray)) (w64 (Int.tdiv l6_2 2)) (w64 (l6_4 + 1)) _ h)
        · refine WK.ce (b := ((Int.tmod l6_2 2) == 1)) (by kernel_rfl) b10_0 ?_
          refine WK.skip (by kernel_rfl) ?_
          refine WKe.code (y := (cR (cB (cL (cR (cB (cB (cR (cL (cR (cR (cR (cR bd26))))))))))))) (ks' := [.blk 1, .seq (cR (cR (cB (cB (cR (cL (cR (cR (cR (cR bd26)))))))))), .lp (cB (cR (cL (cR (cR (cR (cR bd26)))))))]) (by kernel_rfl) ?_
          refine WK.rc (g := []) (l' := [(.t 1, [iv l6_0]), (.t 5, [.data (.slc true none 1 (List.map e_s l6_1))]), (.t 6, [iv (w64 (Int.tdiv l6_2 2))]), (.t 7, [.data (.slc true (some false) 1 (List.map e_s l6_3))]), (.t 8, [iv l6_4]), (.o 1000, [.data (.slc false none 1 (List.map e_u8 l6_5.l)), iv l6_5.n])]) (.cons (Eq.refl true) .nil) (by kernel_rfl) (y := (cR (cR (cB (cB (cR (cL (cR (cR (cR (cR bd26))))))))))) (ks' := [.lp (cB (cR (cL (cR (cR (cR (cR bd26)))))))]) (by kernel_rfl) ?_
          refine WK.rc (g := []) (l' := [(.t 1, [iv l6_0]), (.t 5, [.data (.slc true none 1 (List.map e_s l6_1))]), (.t 6, [iv (w64 (Int.tdiv l6_2 2))]), (.t 7, [.data (.slc true (some false) 1 (List.map e_s l6_3))]), (.t 8, [iv (w64 (l6_4 + 1))]), (.o 1000, [.data (.slc false none 1 (List.map e_u8 l6_5.l)), iv l6_5.n])]) .nil (by kernel_rfl) (y := (cB (cR (cL (cR (cR (cR (cR bd26)))))))) (ks' := []) (by kernel_rfl) ?_
          exact WK.weak (l := [(.t 1, [iv l6_0]), (.t 5, [.data (.slc true none 1 (List.map e_s l6_1))]), (.t 6, [iv (w64 (Int.tdiv l6_2 2))]), (.t 7, [.data (.slc true (some false) 1 (List.map e_s l6_3))]), (.t 8, [iv (w64 (l6_4 + 1))]), (.o 1000, [.data (.slc false none 1 (List.map e_u8 l6_5.l)), iv l6_5.n])]) (wk_of (by kernel_rfl)) (ih l6_1 (w64 (Int.tdiv l6_2 2)) (w64 (l6_4 + 1)) _ h)
      · refine WK.ce (b := (decide ((l6_1.length : Int) < l6_0))) (by kernel_rfl) b8_0 ?_
        refine WK.weak (l := [(.t 5, [.data (.slc true none 1 (List.map e_s l6_1))]), (.o 1000, [.data (.slc false none 1 (List.map e_u8 l6_5.l)), iv l6_5.n])]) (wk_of (by kernel_rfl)) ?_
        refine WK.exit (n := 0) (by kernel_rfl) ?_
        cases some_inj h
        exact WKe.fin (e' := .exit 0) (by kernel_rfl) ⟨rfl, rfl⟩
    · refine WK.rs (g := [.s (.t 14) [iv (l6_3.length : Int)], .b false, .b false, .b false, .b false, .b false]) (l' := [(.t 1, [iv l6_0]), (.t 5, [.data (.slc true none 1 (List.map e_s l6_1))]), (.t 6, [iv l6_2]), (.t 7, [.data (.slc true (some false) 1 (List.map e_s l6_3))]), (.t 8, [iv l6_4]), (.t 21, [bv false]), (.o 1000, [.data (.slc false none 1 (List.map e_u8 l6_5.l)), iv l6_5.n])]) (by kernel_rfl) (.cons (c_len (e := e_s) (l := l6_3)) (.cons b7_1 (.cons b7_1 (.cons b7_1 (.cons b7_1 (.cons b7_1 .nil)))))) (by kernel_rfl) ?_
      refine WK.ce (b := false) (by kernel_rfl) rfl ?_
      refine WK.weak (l := [(.t 5, [.data (.slc true none 1 (List.map e_s l6_1))]), (.o 1000, [.data (.slc false none 1 (List.map e_u8 l6_5.l)), iv l6_5.n])]) (wk_of (by kernel_rfl)) ?_
      refine WK.exit (n := 0) (by kernel_rfl) ?_
      cases some_inj h
      exact WKe.fin (e' := .exit 0) (by kernel_rfl) ⟨rfl, rfl⟩
noncomputable def diwanplay_Picks_Keys (fu : Nat) (most : Int) (o0_v : TPicks) : Option (List ByteArray × TPicks) :=
  bd (diwanplay_Picks_Num 64 o0_v) fun (r3_1, r3_2) =>
  bd (diwanplay_keys) fun _ =>
  bd (diwanplay_Picks_Keys.lp6 fu most ([(⟨#[97]⟩ : ByteArray), (⟨#[98]⟩ : ByteArray), (⟨#[99]⟩ : ByteArray), (⟨#[100]⟩ : ByteArray), (⟨#[101, 101]⟩ : ByteArray), (⟨#[102, 102]⟩ : ByteArray)] : List ByteArray) r3_2 fu [] r3_1 0) fun y16_0 =>
  some (y16_0, r3_2)
theorem diwanplay_Picks_Keys.meets (fu : Nat) (most : Int) (o0_v : TPicks) (z0 : List ByteArray) (z1 : TPicks) (h : diwanplay_Picks_Keys fu most o0_v = some (z0, z1)) : Meets Try.prog ⟨26, [.ptr 1000 0, iv most], [[.data (.slc false none 1 (List.map e_u8 o0_v.l)), iv o0_v.n]]⟩ ⟨.data (.slc true none 1 (List.map e_s z0)), [[.data (.slc false none 1 (List.map e_u8 z1.l)), iv z1.n]]⟩ := by
  refine meets_of (O := diwanplay_Picks_Keys.O) hmix (fn := Try.f26) (code := bd26) (by kernel_rfl) ?_
  refine WK.weak (l := [(.t 0, [.ptr 1000 0]), (.t 1, [iv most]), (.o 1000, [.data (.slc false none 1 (List.map e_u8 o0_v.l)), iv o0_v.n])]) (wk_of (by kernel_rfl)) ?_
  unfold diwanplay_Picks_Keys at h
  refine WK.rs (g := []) (l' := [(.t 0, [.ptr 1000 0]), (.t 1, [iv most]), (.o 1000, [.data (.slc false none 1 (List.map e_u8 o0_v.l)), iv o0_v.n])]) (by kernel_rfl) .nil (by kernel_rfl) ?_
  refine WK.rs (g := []) (l' := [(.t 0, [.ptr 1000 0]), (.t 1, [iv most]), (.t 5, [.data (.slc true (some true) 1 (List.map e_s []))]), (.o 1000, [.data (.slc false none 1 (List.map e_u8 o0_v.l)), iv o0_v.n])]) (by kernel_rfl) .nil (by kernel_rfl) ?_
  obtain ⟨⟨r3_1, r3_2⟩, h3_3, h⟩ := bd_inv h
  refine WK.rs (g := [.a ⟨iv r3_1, [[.data (.slc false none 1 (List.map e_u8 r3_2.l)), iv r3_2.n]]⟩]) (l' := [(.t 1, [iv most]), (.t 5, [.data (.slc true (some true) 1 (List.map e_s []))]), (.t 6, [iv r3_1]), (.o 1000, [.data (.slc false none 1 (List.map e_u8 r3_2.l)), iv r3_2.n])]) (by kernel_rfl) (.cons (Asks.of (C := Meets Try.prog) (diwanplay_Picks_Num.meets 64 o0_v _ _ h3_3)) .nil) (by kernel_rfl) ?_
  obtain ⟨_, h4_1, h⟩ := bd_inv h
  refine WK.rs (g := [.a ⟨.data (.slc true (some false) 1 (List.map e_s ([(⟨#[97]⟩ : ByteArray), (⟨#[98]⟩ : ByteArray), (⟨#[99]⟩ : ByteArray), (⟨#[100]⟩ : ByteArray), (⟨#[101, 101]⟩ : ByteArray), (⟨#[102, 102]⟩ : ByteArray)] : List ByteArray))), []⟩]) (l' := [(.t 1, [iv most]), (.t 5, [.data (.slc true (some true) 1 (List.map e_s []))]), (.t 6, [iv r3_1]), (.t 7, [.data (.slc true (some false) 1 (List.map e_s ([(⟨#[97]⟩ : ByteArray), (⟨#[98]⟩ : ByteArray), (⟨#[99]⟩ : ByteArray), (⟨#[100]⟩ : ByteArray), (⟨#[101, 101]⟩ : ByteArray), (⟨#[102, 102]⟩ : ByteArray)] : List ByteArray)))]), (.o 1000, [.data (.slc false none 1 (List.map e_u8 r3_2.l)), iv r3_2.n])]) (by kernel_rfl) (.cons (Asks.of (C := Meets Try.prog) (diwanplay_keys.meets  h4_1)) .nil) (by kernel_rfl) ?_
  refine WK.seq (by kernel_rfl) ?_
  refine WK.rs (g := []) (l' := [(.t 1, [iv most]), (.t 5, [.data (.slc true (some true) 1 (List.map e_s []))]), (.t 6, [iv r3_1]), (.t 7, [.data (.slc true (some false) 1 (List.map e_s ([(⟨#[97]⟩ : ByteArray), (⟨#[98]⟩ : ByteArray), (⟨#[99]⟩ : ByteArray), (⟨#[100]⟩ : ByteArray), (⟨#[101, 101]⟩ : ByteArray), (⟨#[102, 102]⟩ : ByteArray)] : List ByteArray)))]), (.t 8, [iv 0]), (.o 1000, [.data (.slc false none 1 (List.map e_u8 r3_2.l)), iv r3_2.n])]) (by kernel_rfl) .nil (by kernel_rfl) ?_
  refine WK.block (n := 0) (by kernel_rfl) ?_
  obtain ⟨o16, ho16, h⟩ := bd_inv h
  refine WK.weak (l := [(.t 1, [iv most]), (.t 5, [.data (.slc true none 1 (List.map e_s []))]), (.t 6, [iv r3_1]), (.t 7, [.data (.slc true (some false) 1 (List.map e_s ([(⟨#[97]⟩ : ByteArray), (⟨#[98]⟩ : ByteArray), (⟨#[99]⟩ : ByteArray), (⟨#[100]⟩ : ByteArray), (⟨#[101, 101]⟩ : ByteArray), (⟨#[102, 102]⟩ : ByteArray)] : List ByteArray)))]), (.t 8, [iv 0]), (.o 1000, [.data (.slc false none 1 (List.map e_u8 r3_2.l)), iv r3_2.n])]) (wk_of (by kernel_rfl)) ?_
  refine WK.use (diwanplay_Picks_Keys.lp6_ok fu most ([(⟨#[97]⟩ : ByteArray), (⟨#[98]⟩ : ByteArray), (⟨#[99]⟩ : ByteArray), (⟨#[100]⟩ : ByteArray), (⟨#[101, 101]⟩ : ByteArray), (⟨#[102, 102]⟩ : ByteArray)] : List ByteArray) r3_2 _ [] r3_1 0 _ ho16) ?_
  intro e_ τ_ hp_
  obtain ⟨y16_0, rfl⟩ : ∃ y, y = o16 := ⟨_, rfl⟩
  obtain ⟨rfl, rfl⟩ := hp_
  refine WKe.code (y := (cR (cR (cR (cR (cR bd26)))))) (ks' := []) (by kernel_rfl) ?_
  refine WK.rs (g := []) (l' := [(.t 4, [.data (.slc true none 1 (List.map e_s y16_0))]), (.o 1000, [.data (.slc false none 1 (List.map e_u8 r3_2.l)), iv r3_2.n])]) (by kernel_rfl) .nil (by kernel_rfl) ?_
  refine WK.weak (l := [(.t 4, [.data (.slc true none 1 (List.map e_s y16_0))]), (.o 1000, [.data (.slc false none 1 (List.map e_u8 r3_2.l)), iv r3_2.n])]) (wk_of (by kernel_rfl)) ?_
  refine WK.ret (by kernel_rfl) ?_
  have h_0 := some_inj h
  obtain ⟨g_1, h_1⟩ := Prod.mk.inj h_0
  subst g_1
  subst h_1
  exact WKe.fin (e' := .ret) (by kernel_rfl) (fin_of (g := []) (by first | exact .inl rfl | exact .inr rfl) .nil (by kernel_rfl))
/-- (*diwan/diwanplay.Picks).Val -/
noncomputable def bd27 : Code := (Try.f27.body).getD .skip
def diwanplay_Picks_Val.O : Nat → Nat := fun t => bif ([2, 3] : List Nat).any (Nat.beq t) then 1 else 0
noncomputable def diwanplay_Picks_Val (o0_v : TPicks) : Option (ByteArray × TPicks) :=
  bd (diwanplay_Picks_Num 5 o0_v) fun (r2_1, r2_2) =>
  ix ([ByteArray.empty, (⟨#[118]⟩ : ByteArray), (⟨#[119]⟩ : ByteArray), (⟨#[120, 120]⟩ : ByteArray), (⟨#[115, 105, 120, 116, 101, 101, 110, 45, 98, 121, 116, 101, 115, 45, 111, 107]⟩ : ByteArray)] : List ByteArray) r2_1 fun x2_4 =>
  some (x2_4, r2_2)
theorem diwanplay_Picks_Val.meets (o0_v : TPicks) (z0 : ByteArray) (z1 : TPicks) (h : diwanplay_Picks_Val o0_v = some (z0, z1)) : Meets Try.prog ⟨27, [.ptr 1000 0], [[.data (.slc false none 1 (List.map e_u8 o0_v.l)), iv o0_v.n]]⟩ ⟨sv z0, [[.data (.slc false none 1 (List.map e_u8 z1.l)), iv z1.n]]⟩ := by
  refine meets_of (O := diwanplay_Picks_Val.O) hmix (fn := Try.f27) (code := bd27) (by kernel_rfl) ?_
  refine WK.weak (l := [(.t 0, [.ptr 1000 0]), (.o 1000, [.data (.slc false none 1 (List.map e_u8 o0_v.l)), iv o0_v.n])]) (wk_of (by kernel_rfl)) ?_
  unfold diwanplay_Picks_Val at h
  refine WK.rs (g := []) (l' := [(.t 0, [.ptr 1000 0]), (.o 1000, [.data (.slc false none 1 (List.map e_u8 o0_v.l)), iv o0_v.n])]) (by kernel_rfl) .nil (by kernel_rfl) ?_
  obtain ⟨⟨r2_1, r2_2⟩, h2_3, h⟩ := bd_inv h
  obtain ⟨x2_4, a2_5, e2_6, h⟩ := ix_inv h
  refine WK.rs (g := [.a ⟨iv r2_1, [[.data (.slc false none 1 (List.map e_u8 r2_2.l)), iv r2_2.n]]⟩, .c (e_s x2_4)]) (l' := [(.t 2, [sv x2_4]), (.o 1000, [.data (.slc false none 1 (List.map e_u8 r2_2.l)), iv r2_2.n])]) (by kernel_rfl) (.cons (Asks.of (C := Meets Try.prog) (diwanplay_Picks_Num.meets 5 o0_v _ _ h2_3)) (.cons (c_ix (e := e_s) a2_5 e2_6) (.cons (c_el (e := e_s) e2_6) .nil))) (by kernel_rfl) ?_
  refine WK.weak (l := [(.t 2, [sv x2_4]), (.o 1000, [.data (.slc false none 1 (List.map e_u8 r2_2.l)), iv r2_2.n])]) (wk_of (by kernel_rfl)) ?_
  refine WK.ret (by kernel_rfl) ?_
  have h_0 := some_inj h
  obtain ⟨g_1, h_1⟩ := Prod.mk.inj h_0
  subst g_1
  subst h_1
  exact WKe.fin (e' := .ret) (by kernel_rfl) (fin_of (g := []) (by first | exact .inl rfl | exact .inr rfl) .nil (by kernel_rfl))
/-- (*diwan/diwanplay.Picks).Txn -/
noncomputable def bd19 : Code := (Try.f19.body).getD .skip
def diwanplay_Picks_Txn.O : Nat → Nat := fun t => bif ([4, 5, 6, 7, 8, 9, 10, 11, 18, 35, 45, 51, 52, 68, 77, 78, 80] : List Nat).any (Nat.beq t) then 1 else 0
noncomputable def diwanplay_Picks_Txn.lp5 (fu : Nat) (l5_0 : Int) (l5_1 : List ByteArray) (l5_3 : TTxn) : Nat → Int → TTxn → TPicks → Option (TTxn × TPicks)
  | 0, _, _, _ => none
  | n_ + 1, l5_2, l5_4, l5_5 =>
    br (decide (l5_2 < (l5_1.length : Int)))
      (ix l5_1 l5_2 fun x8_1 =>
      bd (diwanplay_Picks_Num (if l5_0 < 1 then 1 else l5_0) l5_5) fun (r8_4, r8_5) =>
      jn (fun (j12_5 : TRead) (j12_6 : TPicks) =>
        gd (decide (l5_4.Reads.length + ([j12_5] : List TRead).length ≤ 4294967296)) <|
        diwanplay_Picks_Txn.lp5 fu l5_0 l5_1 l5_3 n_ (w64 (l5_2 + 1)) (TTxn.mk l5_4.Session l5_4.Seq (l5_4.Reads ++ ([j12_5] : List TRead)) l5_4.Writes) j12_6) fun k12 =>
      br (decide (r8_4 > 0))
        (bd (diwanplay_Picks_Num 4 r8_5) fun (r9_2, r9_3) =>
        br (decide (r9_2 > 0))
          (bd (diwanplay_Picks_Val r9_3) fun (r11_1, r11_2) =>
          k12 (TRead.mk x8_1 r8_4 r11_1 true) r11_2)
          (k12 (TRead.mk x8_1 r8_4 ByteArray.empty false) r9_3))
        (k12 (TRead.mk x8_1 r8_4 ByteArray.empty false) r8_5))
      (some (l5_4, l5_5))
noncomputable def diwanplay_Picks_Txn.lp5_post (l5_0 : Int) (l5_1 : List ByteArray) (l5_3 : TTxn) (r_ : (TTxn × TPicks)) : Wy → St → Prop := fun e τ => match r_ with
  | (y0, y1) => e = .exit 0 ∧ τ = ofL [(.t 0, [.ptr 1000 0]), (.t 4, [.ptr 4 0]), (.t 5, [.ptr 5 0]), (.o 4, (TTxn.ob_0011 l5_3)), (.o 5, (TTxn.ob_0011 y0)), (.o 1000, [.data (.slc false none 1 (List.map e_u8 y1.l)), iv y1.n])]
theorem diwanplay_Picks_Txn.lp5_ok (fu : Nat) (l5_0 : Int) (l5_1 : List ByteArray) (l5_3 : TTxn) : ∀ (n_ : Nat) (l5_2 : Int) (l5_4 : TTxn) (l5_5 : TPicks) (r_ : (TTxn × TPicks)), diwanplay_Picks_Txn.lp5 fu l5_0 l5_1 l5_3 n_ l5_2 l5_4 l5_5 = some r_ → WK Try.prog diwanplay_Picks_Txn.O (Ck Try.prog) (cB (cR (cL (cR (cR (cR bd19)))))) [] (ofL [(.t 0, [.ptr 1000 0]), (.t 1, [iv l5_0]), (.t 4, [.ptr 4 0]), (.t 5, [.ptr 5 0]), (.t 6, [.data (.slc true none 1 (List.map e_s l5_1))]), (.t 7, [iv l5_2]), (.o 4, (TTxn.ob_0011 l5_3)), (.o 5, (TTxn.ob_0011 l5_4)), (.o 1000, [.data (.slc false none 1 (List.map e_u8 l5_5.l)), iv l5_5.n])]) (diwanplay_Picks_Txn.lp5_post l5_0 l5_1 l5_3 r_) := by
  intro n_
  induction n_ with
  | zero => intro l5_2 l5_4 l5_5 r_ h; exact no_none h
  | succ n_ ih =>
    intro l5_2 l5_4 l5_5 r_ h
    refine WK.loop (by kernel_rfl) ?_
    refine WK.seq (by kernel_rfl) ?_
    refine WK.rs (g := [.s (.t 23) [iv (l5_1.length : Int)]]) (l' := [(.t 0, [.ptr 1000 0]), (.t 1, [iv l5_0]), (.t 4, [.ptr 4 0]), (.t 5, [.ptr 5 0]), (.t 6, [.data (.slc true none 1 (List.map e_s l5_1))]), (.t 7, [iv l5_2]), (.t 24, [bv (decide (l5_2 < (l5_1.length : Int)))]), (.o 4, (TTxn.ob_0011 l5_3)), (.o 5, (TTxn.ob_0011 l5_4)), (.o 1000, [.data (.slc false none 1 (List.map e_u8 l5_5.l)), iv l5_5.n])]) (by kernel_rfl) (.cons (c_len (e := e_s) (l := l5_1)) .nil) (by kernel_rfl) ?_
    rcases br_inv h with ⟨b7_0, h⟩ | ⟨b7_0, h⟩
    · refine WK.ct (b := (decide (l5_2 < (l5_1.length : Int)))) (by kernel_rfl) b7_0 ?_
      refine WK.skip (by kernel_rfl) ?_
      refine WKe.code (y := (cR (cB (cB (cR (cL (cR (cR (cR bd19))))))))) (ks' := [.lp (cB (cR (cL (cR (cR (cR bd19))))))]) (by kernel_rfl) ?_
      refine WK.seq (by kernel_rfl) ?_
      refine WK.block (n := 1) (by kernel_rfl) ?_
      obtain ⟨x8_1, a8_2, e8_3, h⟩ := ix_inv h
      obtain ⟨⟨r8_4, r8_5⟩, h8_6, h⟩ := bd_inv h
      refine WK.rs (g := [.c (e_s x8_1), .a ⟨iv r8_4, [[.data (.slc false none 1 (List.map e_u8 r8_5.l)), iv r8_5.n]]⟩]) (l' := [(.t 0, [.ptr 1000 0]), (.t 1, [iv l5_0]), (.t 4, [.ptr 4 0]), (.t 5, [.ptr 5 0]), (.t 6, [.data (.slc true none 1 (List.map e_s l5_1))]), (.t 7, [iv l5_2]), (.t 8, [.ptr 8 0]), (.o 4, (TTxn.ob_0011 l5_3)), (.o 5, (TTxn.ob_0011 l5_4)), (.o 8, (TRead.ob (TRead.mk x8_1 r8_4 ByteArray.empty false))), (.o 1000, [.data (.slc false none 1 (List.map e_u8 r8_5.l)), iv r8_5.n])]) (by kernel_rfl) (.cons (c_ix (e := e_s) a8_2 e8_3) (.cons (c_el (e := e_s) e8_3) (.cons (Asks.of (C := Meets Try.prog) (diwanplay_Picks_Num.meets (if l5_0 < 1 then 1 else l5_0) l5_5 _ _ h8_6)) (.cons (Eq.refl true) .nil)))) (by kernel_rfl) ?_
      obtain ⟨k12, hk12, h⟩ := jn_inv h
      have Jk12 : ∀ (j12_5 : TRead) (j12_6 : TPicks), k12 j12_5 j12_6 = some r_ → WK Try.prog diwanplay_Picks_Txn.O (Ck Try.prog) (cR (cR (cB (cL (cR (cB (cB (cR (cL (cR (cR (cR bd19)))))))))))) [.blk 1, .seq (cR (cR (cB (cB (cR (cL (cR (cR (cR bd19))))))))), .lp (cB (cR (cL (cR (cR (cR bd19))))))] (ofL [(.t 0, [.ptr 1000 0]), (.t 1, [iv l5_0]), (.t 4, [.ptr 4 0]), (.t 5, [.ptr 5 0]), (.t 6, [.data (.slc true none 1 (List.map e_s l5_1))]), (.t 7, [iv l5_2]), (.t 8, [.ptr 8 0]), (.o 4, (TTxn.ob_0011 l5_3)), (.o 5, (TTxn.ob_0011 l5_4)), (.o 8, (TRead.ob j12_5)), (.o 1000, [.data (.slc false none 1 (List.map e_u8 j12_6.l)), iv j12_6.n])]) (diwanplay_Picks_Txn.lp5_post l5_0 l5_1 l5_3 r_) := by
        intro j12_5 j12_6 h
        rw [hk12] at h
        obtain ⟨c13_1, h⟩ := gd_inv h
        refine WK.rc (g := [.s (.t 52) [.data (.slc true none 4 (List.map TRead.en (l5_4.Reads ++ ([j12_5] : List TRead))))]]) (l' := [(.t 0, [.ptr 1000 0]), (.t 1, [iv l5_0]), (.t 4, [.ptr 4 0]), (.t 5, [.ptr 5 0]), (.t 6, [.data (.slc true none 1 (List.map e_s l5_1))]), (.t 7, [iv l5_2]), (.o 4, (TTxn.ob_0011 l5_3)), (.o 5, (TTxn.ob_0011 (TTxn.mk l5_4.Session l5_4.Seq (l5_4.Reads ++ ([j12_5] : List TRead)) l5_4.Writes))), (.o 1000, [.data (.slc false none 1 (List.map e_u8 j12_6.l)), iv j12_6.n])]) (.cons (c_al (e := TRead.en) (f := TRead.en) c13_1) (.cons (congrArg (fun d : DV => [AV.data d]) (c_app (e := TRead.en) (s := 4) (l := l5_4.Reads) (m := ([j12_5] : List TRead)))) .nil)) (by kernel_rfl) (y := (cR (cR (cB (cB (cR (cL (cR (cR (cR bd19)))))))))) (ks' := [.lp (cB (cR (cL (cR (cR (cR bd19))))))]) (by kernel_rfl) ?_
        refine WK.rc (g := []) (l' := [(.t 0, [.ptr 1000 0]), (.t 1, [iv l5_0]), (.t 4, [.ptr 4 0]), (.t 5, [.ptr 5 0]), (.t 6, [.data (.slc true none 1 (List.map e_s l5_1))]), (.t 7, [iv (w64 (l5_2 + 1))]), (.o 4, (TTxn.ob_0011 l5_3)), (.o 5, (TTxn.ob_0011 (TTxn.mk l5_4.Session l5_4.Seq (l5_4.Reads ++ ([j12_5] : List TRead)) l5_4.Writes))), (.o 1000, [.data (.slc false none 1 (List.map e_u8 j12_6.l)), iv j12_6.n])]) .nil (by kernel_rfl) (y := (cB (cR (cL (cR (cR (cR bd19))))))) (ks' := []) (by kernel_rfl) ?_
        exact WK.weak (l := [(.t 0, [.ptr 1000 0]), (.t 1, [iv l5_0]), (.t 4, [.ptr 4 0]), (.t 5, [.ptr 5 0]), (.t 6, [.data (.slc true none 1 (List.map e_s l5_1))]), (.t 7, [iv (w64 (l5_2 + 1))]), (.o 4, (TTxn.ob_0011 l5_3)), (.o 5, (TTxn.ob_0011 (TTxn.mk l5_4.Session l5_4.Seq (l5_4.Reads ++ ([j12_5] : List TRead)) l5_4.Writes))), (.o 1000, [.data (.slc false none 1 (List.map e_u8 j12_6.l)), iv j12_6.n])]) (wk_of (by kernel_rfl)) (ih (w64 (l5_2 + 1)) (TTxn.mk l5_4.Session l5_4.Seq (l5_4.Reads ++ ([j12_5] : List TRead)) l5_4.Writes) j12_6 _ h)
      clear hk12
      refine WK.seq (by kernel_rfl) ?_
      rcases br_inv h with ⟨b9_1, h⟩ | ⟨b9_1, h⟩
      · obtain ⟨⟨r9_2, r9_3⟩, h9_4, h⟩ := bd_inv h
        refine WK.rs (g := [.b true, .b true, .a ⟨iv r9_2, [[.data (.slc false none 1 (List.map e_u8 r9_3.l)), iv r9_3.n]]⟩, .b true, .b true]) (l' := [(.t 0, [.ptr 1000 0]), (.t 1, [iv l5_0]), (.t 4, [.ptr 4 0]), (.t 5, [.ptr 5 0]), (.t 6, [.data (.slc true none 1 (List.map e_s l5_1))]), (.t 7, [iv l5_2]), (.t 8, [.ptr 8 0]), (.t 43, [bv (decide (r9_2 > 0))]), (.o 4, (TTxn.ob_0011 l5_3)), (.o 5, (TTxn.ob_0011 l5_4)), (.o 8, (TRead.ob (TRead.mk x8_1 r8_4 ByteArray.empty false))), (.o 1000, [.data (.slc false none 1 (List.map e_u8 r9_3.l)), iv r9_3.n])]) (by kernel_rfl) (.cons b9_1 (.cons b9_1 (.cons (Asks.of (C := Meets Try.prog) (diwanplay_Picks_Num.meets 4 r8_5 _ _ h9_4)) (.cons b9_1 (.cons b9_1 .nil))))) (by kernel_rfl) ?_
        rcases br_inv h with ⟨b10_0, h⟩ | ⟨b10_0, h⟩
        · refine WK.ct (b := (decide (r9_2 > 0))) (by kernel_rfl) b10_0 ?_
          obtain ⟨⟨r11_1, r11_2⟩, h11_3, h⟩ := bd_inv h
          refine WK.rc (g := [.a ⟨sv r11_1, [[.data (.slc false none 1 (List.map e_u8 r11_2.l)), iv r11_2.n]]⟩]) (l' := [(.t 0, [.ptr 1000 0]), (.t 1, [iv l5_0]), (.t 4, [.ptr 4 0]), (.t 5, [.ptr 5 0]), (.t 6, [.data (.slc true none 1 (List.map e_s l5_1))]), (.t 7, [iv l5_2]), (.t 8, [.ptr 8 0]), (.o 4, (TTxn.ob_0011 l5_3)), (.o 5, (TTxn.ob_0011 l5_4)), (.o 8, (TRead.ob (TRead.mk x8_1 r8_4 r11_1 true))), (.o 1000, [.data (.slc false none 1 (List.map e_u8 r11_2.l)), iv r11_2.n])]) (.cons (Asks.of (C := Meets Try.prog) (diwanplay_Picks_Val.meets r9_3 _ _ h11_3)) .nil) (by kernel_rfl) (y := (cR (cR (cB (cL (cR (cB (cB (cR (cL (cR (cR (cR bd19))))))))))))) (ks' := [.blk 1, .seq (cR (cR (cB (cB (cR (cL (cR (cR (cR bd19))))))))), .lp (cB (cR (cL (cR (cR (cR bd19))))))]) (by kernel_rfl) ?_
          exact WK.weak (l := [(.t 0, [.ptr 1000 0]), (.t 1, [iv l5_0]), (.t 4, [.ptr 4 0]), (.t 5, [.ptr 5 0]), (.t 6, [.data (.slc true none 1 (List.map e_s l5_1))]), (.t 7, [iv l5_2]), (.t 8, [.ptr 8 0]), (.o 4, (TTxn.ob_0011 l5_3)), (.o 5, (TTxn.ob_0011 l5_4)), (.o 8, (TRead.ob (TRead.mk x8_1 r8_4 r11_1 true))), (.o 1000, [.data (.slc false none 1 (List.map e_u8 r11_2.l)), iv r11_2.n])]) (wk_of (by kernel_rfl)) (Jk12 (TRead.mk x8_1 r8_4 r11_1 true) r11_2 h)
        · refine WK.ce (b := (decide (r9_2 > 0))) (by kernel_rfl) b10_0 ?_
          refine WK.skip (by kernel_rfl) ?_
          refine WKe.code (y := (cR (cR (cB (cL (cR (cB (cB (cR (cL (cR (cR (cR bd19))))))))))))) (ks' := [.blk 1, .seq (cR (cR (cB (cB (cR (cL (cR (cR (cR bd19))))))))), .lp (cB (cR (cL (cR (cR (cR bd19))))))]) (by kernel_rfl) ?_
          exact WK.weak (l := [(.t 0, [.ptr 1000 0]), (.t 1, [iv l5_0]), (.t 4, [.ptr 4 0]), (.t 5, [.ptr 5 0]), (.t 6, [.data (.slc true none 1 (List.map e_s l5_1))]), (.t 7, [iv l5_2]), (.t 8, [.ptr 8 0]), (.o 4, (TTxn.ob_0011 l5_3)), (.o 5, (TTxn.ob_0011 l5_4)), (.o 8, (TRead.ob (TRead.mk x8_1 r8_4 ByteArray.empty false))), (.o 1000, [.data (.slc false none 1 (List.map e_u8 r9_3.l)), iv r9_3.n])]) (wk_of (by kernel_rfl)) (Jk12 (TRead.mk x8_1 r8_4 ByteArray.empty false) r9_3 h)
      · refine WK.rs (g := [.b false, .b false, .b false, .b false]) (l' := [(.t 0, [.ptr 1000 0]), (.t 1, [iv l5_0]), (.t 4, [.ptr 4 0]), (.t 5, [.ptr 5 0]), (.t 6, [.data (.slc true none 1 (List.map e_s l5_1))]), (.t 7, [iv l5_2]), (.t 8, [.ptr 8 0]), (.t 43, [bv false]), (.o 4, (TTxn.ob_0011 l5_3)), (.o 5, (TTxn.ob_0011 l5_4)), (.o 8, (TRead.ob (TRead.mk x8_1 r8_4 ByteArray.empty false))), (.o 1000, [.data (.slc false none 1 (List.map e_u8 r8_5.l)), iv r8_5.n])]) (by kernel_rfl) (.cons b9_1 (.cons b9_1 (.cons b9_1 (.cons b9_1 .nil)))) (by kernel_rfl) ?_
        refine WK.ce (b := false) (by kernel_rfl) rfl ?_
        refine WK.skip (by kernel_rfl) ?_
        refine WKe.code (y := (cR (cR (cB (cL (cR (cB (cB (cR (cL (cR (cR (cR bd19))))))))))))) (ks' := [.blk 1, .seq (cR (cR (cB (cB (cR (cL (cR (cR (cR bd19))))))))), .lp (cB (cR (cL (cR (cR (cR bd19))))))]) (by kernel_rfl) ?_
        exact WK.weak (l := [(.t 0, [.ptr 1000 0]), (.t 1, [iv l5_0]), (.t 4, [.ptr 4 0]), (.t 5, [.ptr 5 0]), (.t 6, [.data (.slc true none 1 (List.map e_s l5_1))]), (.t 7, [iv l5_2]), (.t 8, [.ptr 8 0]), (.o 4, (TTxn.ob_0011 l5_3)), (.o 5, (TTxn.ob_0011 l5_4)), (.o 8, (TRead.ob (TRead.mk x8_1 r8_4 ByteArray.empty false))), (.o 1000, [.data (.slc false none 1 (List.map e_u8 r8_5.l)), iv r8_5.n])]) (wk_of (by kernel_rfl)) (Jk12 (TRead.mk x8_1 r8_4 ByteArray.empty false) r8_5 h)
    · refine WK.ce (b := (decide (l5_2 < (l5_1.length : Int)))) (by kernel_rfl) b7_0 ?_
      refine WK.weak (l := [(.t 0, [.ptr 1000 0]), (.t 4, [.ptr 4 0]), (.t 5, [.ptr 5 0]), (.o 4, (TTxn.ob_0011 l5_3)), (.o 5, (TTxn.ob_0011 l5_4)), (.o 1000, [.data (.slc false none 1 (List.map e_u8 l5_5.l)), iv l5_5.n])]) (wk_of (by kernel_rfl)) ?_
      refine WK.exit (n := 0) (by kernel_rfl) ?_
      cases some_inj h
      exact WKe.fin (e' := .exit 0) (by kernel_rfl) ⟨rfl, rfl⟩
noncomputable def diwanplay_Picks_Txn.lp18 (fu : Nat) (l18_0 : List ByteArray) (l18_2 : TTxn) : Nat → Int → TTxn → TPicks → Option (TTxn × TPicks)
  | 0, _, _, _ => none
  | n_ + 1, l18_1, l18_3, l18_4 =>
    br (decide (l18_1 < (l18_0.length : Int)))
      (ix l18_0 l18_1 fun x21_1 =>
      bd (diwanplay_Picks_Val l18_4) fun (r21_4, r21_5) =>
      jn (fun (j25_4 : TWrite) (j25_5 : TPicks) =>
        gd (decide (l18_3.Writes.length + ([j25_4] : List TWrite).length ≤ 4294967296)) <|
        diwanplay_Picks_Txn.lp18 fu l18_0 l18_2 n_ (w64 (l18_1 + 1)) (TTxn.mk l18_3.Session l18_3.Seq l18_3.Reads (l18_3.Writes ++ ([j25_4] : List TWrite))) j25_5) fun k25 =>
      bd (diwanplay_Picks_Num 4 r21_5) fun (r22_1, r22_2) =>
      br (r22_1 == 0)
        (k25 (TWrite.mk x21_1 ByteArray.empty true) r22_2)
        (k25 (TWrite.mk x21_1 r21_4 false) r22_2))
      (some (l18_3, l18_4))
noncomputable def diwanplay_Picks_Txn.lp18_post (l18_0 : List ByteArray) (l18_2 : TTxn) (r_ : (TTxn × TPicks)) : Wy → St → Prop := fun e τ => match r_ with
  | (y0, y1) => e = .exit 2 ∧ τ = ofL [(.t 4, [.ptr 4 0]), (.t 5, [.ptr 5 0]), (.o 4, (TTxn.ob_0011 l18_2)), (.o 5, (TTxn.ob_0011 y0)), (.o 1000, [.data (.slc false none 1 (List.map e_u8 y1.l)), iv y1.n])]
theorem diwanplay_Picks_Txn.lp18_ok (fu : Nat) (l18_0 : List ByteArray) (l18_2 : TTxn) : ∀ (n_ : Nat) (l18_1 : Int) (l18_3 : TTxn) (l18_4 : TPicks) (r_ : (TTxn × TPicks)), diwanplay_Picks_Txn.lp18 fu l18_0 l18_2 n_ l18_1 l18_3 l18_4 = some r_ → WK Try.prog diwanplay_Picks_Txn.O (Ck Try.prog) (cB (cR (cL (cR (cR (cR (cR (cR bd19)))))))) [] (ofL [(.t 0, [.ptr 1000 0]), (.t 4, [.ptr 4 0]), (.t 5, [.ptr 5 0]), (.t 9, [.data (.slc true none 1 (List.map e_s l18_0))]), (.t 10, [iv l18_1]), (.o 4, (TTxn.ob_0011 l18_2)), (.o 5, (TTxn.ob_0011 l18_3)), (.o 1000, [.data (.slc false none 1 (List.map e_u8 l18_4.l)), iv l18_4.n])]) (diwanplay_Picks_Txn.lp18_post l18_0 l18_2 r_) := by
  intro n_
  induction n_ with
  | zero => intro l18_1 l18_3 l18_4 r_ h; exact no_none h
  | succ n_ ih =>
    intro l18_1 l18_3 l18_4 r_ h
    refine WK.loop (by kernel_rfl) ?_
    refine WK.seq (by kernel_rfl) ?_
    refine WK.rs (g := [.s (.t 58) [iv (l18_0.length : Int)]]) (l' := [(.t 0, [.ptr 1000 0]), (.t 4, [.ptr 4 0]), (.t 5, [.ptr 5 0]), (.t 9, [.data (.slc true none 1 (List.map e_s l18_0))]), (.t 10, [iv l18_1]), (.t 59, [bv (decide (l18_1 < (l18_0.length : Int)))]), (.o 4, (TTxn.ob_0011 l18_2)), (.o 5, (TTxn.ob_0011 l18_3)), (.o 1000, [.data (.slc false none 1 (List.map e_u8 l18_4.l)), iv l18_4.n])]) (by kernel_rfl) (.cons (c_len (e := e_s) (l := l18_0)) .nil) (by kernel_rfl) ?_
    rcases br_inv h with ⟨b20_0, h⟩ | ⟨b20_0, h⟩
    · refine WK.ct (b := (decide (l18_1 < (l18_0.length : Int)))) (by kernel_rfl) b20_0 ?_
      refine WK.skip (by kernel_rfl) ?_
      refine WKe.code (y := (cR (cB (cB (cR (cL (cR (cR (cR (cR (cR bd19))))))))))) (ks' := [.lp (cB (cR (cL (cR (cR (cR (cR (cR bd19))))))))]) (by kernel_rfl) ?_
      refine WK.seq (by kernel_rfl) ?_
      refine WK.block (n := 3) (by kernel_rfl) ?_
      obtain ⟨x21_1, a21_2, e21_3, h⟩ := ix_inv h
      obtain ⟨⟨r21_4, r21_5⟩, h21_6, h⟩ := bd_inv h
      refine WK.rs (g := [.c (e_s x21_1), .a ⟨sv r21_4, [[.data (.slc false none 1 (List.map e_u8 r21_5.l)), iv r21_5.n]]⟩]) (l' := [(.t 0, [.ptr 1000 0]), (.t 4, [.ptr 4 0]), (.t 5, [.ptr 5 0]), (.t 9, [.data (.slc true none 1 (List.map e_s l18_0))]), (.t 10, [iv l18_1]), (.t 11, [.ptr 11 0]), (.o 4, (TTxn.ob_0011 l18_2)), (.o 5, (TTxn.ob_0011 l18_3)), (.o 11, (TWrite.ob (TWrite.mk x21_1 r21_4 false))), (.o 1000, [.data (.slc false none 1 (List.map e_u8 r21_5.l)), iv r21_5.n])]) (by kernel_rfl) (.cons (c_ix (e := e_s) a21_2 e21_3) (.cons (c_el (e := e_s) e21_3) (.cons (Asks.of (C := Meets Try.prog) (diwanplay_Picks_Val.meets l18_4 _ _ h21_6)) (.cons (Eq.refl true) .nil)))) (by kernel_rfl) ?_
      obtain ⟨k25, hk25, h⟩ := jn_inv h
      have Jk25 : ∀ (j25_4 : TWrite) (j25_5 : TPicks), k25 j25_4 j25_5 = some r_ → WK Try.prog diwanplay_Picks_Txn.O (Ck Try.prog) (cR (cR (cB (cL (cR (cB (cB (cR (cL (cR (cR (cR (cR (cR bd19)))))))))))))) [.blk 3, .seq (cR (cR (cB (cB (cR (cL (cR (cR (cR (cR (cR bd19))))))))))), .lp (cB (cR (cL (cR (cR (cR (cR (cR bd19))))))))] (ofL [(.t 0, [.ptr 1000 0]), (.t 4, [.ptr 4 0]), (.t 5, [.ptr 5 0]), (.t 9, [.data (.slc true none 1 (List.map e_s l18_0))]), (.t 10, [iv l18_1]), (.t 11, [.ptr 11 0]), (.o 4, (TTxn.ob_0011 l18_2)), (.o 5, (TTxn.ob_0011 l18_3)), (.o 11, (TWrite.ob j25_4)), (.o 1000, [.data (.slc false none 1 (List.map e_u8 j25_5.l)), iv j25_5.n])]) (diwanplay_Picks_Txn.lp18_post l18_0 l18_2 r_) := by
        intro j25_4 j25_5 h
        rw [hk25] at h
        obtain ⟨c26_1, h⟩ := gd_inv h
        refine WK.rc (g := [.s (.t 78) [.data (.slc true none 3 (List.map TWrite.en (l18_3.Writes ++ ([j25_4] : List TWrite))))]]) (l' := [(.t 0, [.ptr 1000 0]), (.t 4, [.ptr 4 0]), (.t 5, [.ptr 5 0]), (.t 9, [.data (.slc true none 1 (List.map e_s l18_0))]), (.t 10, [iv l18_1]), (.o 4, (TTxn.ob_0011 l18_2)), (.o 5, (TTxn.ob_0011 (TTxn.mk l18_3.Session l18_3.Seq l18_3.Reads (l18_3.Writes ++ ([j25_4] : List TWrite))))), (.o 1000, [.data (.slc false none 1 (List.map e_u8 j25_5.l)), iv j25_5.n])]) (.cons (c_al (e := TWrite.en) (f := TWrite.en) c26_1) (.cons (congrArg (fun d : DV => [AV.data d]) (c_app (e := TWrite.en) (s := 3) (l := l18_3.Writes) (m := ([j25_4] : List TWrite)))) .nil)) (by kernel_rfl) (y := (cR (cR (cB (cB (cR (cL (cR (cR (cR (cR (cR bd19)))))))))))) (ks' := [.lp (cB (cR (cL (cR (cR (cR (cR (cR bd19))))))))]) (by kernel_rfl) ?_
        refine WK.rc (g := []) (l' := [(.t 0, [.ptr 1000 0]), (.t 4, [.ptr 4 0]), (.t 5, [.ptr 5 0]), (.t 9, [.data (.slc true none 1 (List.map e_s l18_0))]), (.t 10, [iv (w64 (l18_1 + 1))]), (.o 4, (TTxn.ob_0011 l18_2)), (.o 5, (TTxn.ob_0011 (TTxn.mk l18_3.Session l18_3.Seq l18_3.Reads (l18_3.Writes ++ ([j25_4] : List TWrite))))), (.o 1000, [.data (.slc false none 1 (List.map e_u8 j25_5.l)), iv j25_5.n])]) .nil (by kernel_rfl) (y := (cB (cR (cL (cR (cR (cR (cR (cR bd19))))))))) (ks' := []) (by kernel_rfl) ?_
        exact WK.weak (l := [(.t 0, [.ptr 1000 0]), (.t 4, [.ptr 4 0]), (.t 5, [.ptr 5 0]), (.t 9, [.data (.slc true none 1 (List.map e_s l18_0))]), (.t 10, [iv (w64 (l18_1 + 1))]), (.o 4, (TTxn.ob_0011 l18_2)), (.o 5, (TTxn.ob_0011 (TTxn.mk l18_3.Session l18_3.Seq l18_3.Reads (l18_3.Writes ++ ([j25_4] : List TWrite))))), (.o 1000, [.data (.slc false none 1 (List.map e_u8 j25_5.l)), iv j25_5.n])]) (wk_of (by kernel_rfl)) (ih (w64 (l18_1 + 1)) (TTxn.mk l18_3.Session l18_3.Seq l18_3.Reads (l18_3.Writes ++ ([j25_4] : List TWrite))) j25_5 _ h)
      clear hk25
      refine WK.seq (by kernel_rfl) ?_
      obtain ⟨⟨r22_1, r22_2⟩, h22_3, h⟩ := bd_inv h
      refine WK.rs (g := [.a ⟨iv r22_1, [[.data (.slc false none 1 (List.map e_u8 r22_2.l)), iv r22_2.n]]⟩]) (l' := [(.t 0, [.ptr 1000 0]), (.t 4, [.ptr 4 0]), (.t 5, [.ptr 5 0]), (.t 9, [.data (.slc true none 1 (List.map e_s l18_0))]), (.t 10, [iv l18_1]), (.t 11, [.ptr 11 0]), (.t 71, [bv (r22_1 == 0)]), (.o 4, (TTxn.ob_0011 l18_2)), (.o 5, (TTxn.ob_0011 l18_3)), (.o 11, (TWrite.ob (TWrite.mk x21_1 r21_4 false))), (.o 1000, [.data (.slc false none 1 (List.map e_u8 r22_2.l)), iv r22_2.n])]) (by kernel_rfl) (.cons (Asks.of (C := Meets Try.prog) (diwanplay_Picks_Num.meets 4 r21_5 _ _ h22_3)) .nil) (by kernel_rfl) ?_
      rcases br_inv h with ⟨b23_0, h⟩ | ⟨b23_0, h⟩
      · refine WK.ct (b := (r22_1 == 0)) (by kernel_rfl) b23_0 ?_
        refine WK.rc (g := []) (l' := [(.t 0, [.ptr 1000 0]), (.t 4, [.ptr 4 0]), (.t 5, [.ptr 5 0]), (.t 9, [.data (.slc true none 1 (List.map e_s l18_0))]), (.t 10, [iv l18_1]), (.t 11, [.ptr 11 0]), (.o 4, (TTxn.ob_0011 l18_2)), (.o 5, (TTxn.ob_0011 l18_3)), (.o 11, (TWrite.ob (TWrite.mk x21_1 ByteArray.empty true))), (.o 1000, [.data (.slc false none 1 (List.map e_u8 r22_2.l)), iv r22_2.n])]) .nil (by kernel_rfl) (y := (cR (cR (cB (cL (cR (cB (cB (cR (cL (cR (cR (cR (cR (cR bd19))))))))))))))) (ks' := [.blk 3, .seq (cR (cR (cB (cB (cR (cL (cR (cR (cR (cR (cR bd19))))))))))), .lp (cB (cR (cL (cR (cR (cR (cR (cR bd19))))))))]) (by kernel_rfl) ?_
        exact WK.weak (l := [(.t 0, [.ptr 1000 0]), (.t 4, [.ptr 4 0]), (.t 5, [.ptr 5 0]), (.t 9, [.data (.slc true none 1 (List.map e_s l18_0))]), (.t 10, [iv l18_1]), (.t 11, [.ptr 11 0]), (.o 4, (TTxn.ob_0011 l18_2)), (.o 5, (TTxn.ob_0011 l18_3)), (.o 11, (TWrite.ob (TWrite.mk x21_1 ByteArray.empty true))), (.o 1000, [.data (.slc false none 1 (List.map e_u8 r22_2.l)), iv r22_2.n])]) (wk_of (by kernel_rfl)) (Jk25 (TWrite.mk x21_1 ByteArray.empty true) r22_2 h)
      · refine WK.ce (b := (r22_1 == 0)) (by kernel_rfl) b23_0 ?_
        refine WK.skip (by kernel_rfl) ?_
        refine WKe.code (y := (cR (cR (cB (cL (cR (cB (cB (cR (cL (cR (cR (cR (cR (cR bd19))))))))))))))) (ks' := [.blk 3, .seq (cR (cR (cB (cB (cR (cL (cR (cR (cR (cR (cR bd19))))))))))), .lp (cB (cR (cL (cR (cR (cR (cR (cR bd19))))))))]) (by kernel_rfl) ?_
        exact WK.weak (l := [(.t 0, [.ptr 1000 0]), (.t 4, [.ptr 4 0]), (.t 5, [.ptr 5 0]), (.t 9, [.data (.slc true none 1 (List.map e_s l18_0))]), (.t 10, [iv l18_1]), (.t 11, [.ptr 11 0]), (.o 4, (TTxn.ob_0011 l18_2)), (.o 5, (TTxn.ob_0011 l18_3)), (.o 11, (TWrite.ob (TWrite.mk x21_1 r21_4 false))), (.o 1000, [.data (.slc false none 1 (List.map e_u8 r22_2.l)), iv r22_2.n])]) (wk_of (by kernel_rfl)) (Jk25 (TWrite.mk x21_1 r21_4 false) r22_2 h)
    · refine WK.ce (b := (decide (l18_1 < (l18_0.length : Int)))) (by kernel_rfl) b20_0 ?_
      refine WK.weak (l := [(.t 4, [.ptr 4 0]), (.t 5, [.ptr 5 0]), (.o 4, (TTxn.ob_0011 l18_2)), (.o 5, (TTxn.ob_0011 l18_3)), (.o 1000, [.data (.slc false none 1 (List.map e_u8 l18_4.l)), iv l18_4.n])]) (wk_of (by kernel_rfl)) ?_
      refine WK.exit (n := 2) (by kernel_rfl) ?_
      cases some_inj h
      exact WKe.fin (e' := .exit 2) (by kernel_rfl) ⟨rfl, rfl⟩
noncomputable def diwanplay_Picks_Txn (fu : Nat) (most : Int) (o0_v : TPicks) : Option (TTxn × TPicks) :=
  bd (diwanplay_Picks_Num 3 o0_v) fun (r2_1, r2_2) =>
  bd (diwanplay_Picks_Num 6 r2_2) fun (r2_4, r2_5) =>
  bd (diwanplay_Picks_Keys fu 3 r2_5) fun (r3_1, r3_2) =>
  bd (diwanplay_Picks_Txn.lp5 fu most r3_1 (TTxn.mk 0 0 [] []) fu 0 (TTxn.mk (w64 (1 + r2_1)) (w64 (1 + r2_4)) [] []) r3_2) fun (y15_0, y15_1) =>
  bd (diwanplay_Picks_Keys fu 3 y15_1) fun (r16_1, r16_2) =>
  bd (diwanplay_Picks_Txn.lp18 fu r16_1 (TTxn.mk 0 0 [] []) fu 0 y15_0 r16_2) fun (y28_0, y28_1) =>
  some (y28_0, y28_1)
theorem diwanplay_Picks_Txn.meets (fu : Nat) (most : Int) (o0_v : TPicks) (z0 : TTxn) (z1 : TPicks) (h : diwanplay_Picks_Txn fu most o0_v = some (z0, z1)) : Meets Try.prog ⟨19, [.ptr 1000 0, iv most], [[.data (.slc false none 1 (List.map e_u8 o0_v.l)), iv o0_v.n]]⟩ ⟨.data (TTxn.ag_0011 z0), [[.data (.slc false none 1 (List.map e_u8 z1.l)), iv z1.n]]⟩ := by
  refine meets_of (O := diwanplay_Picks_Txn.O) hmix (fn := Try.f19) (code := bd19) (by kernel_rfl) ?_
  refine WK.weak (l := [(.t 0, [.ptr 1000 0]), (.t 1, [iv most]), (.o 1000, [.data (.slc false none 1 (List.map e_u8 o0_v.l)), iv o0_v.n])]) (wk_of (by kernel_rfl)) ?_
  unfold diwanplay_Picks_Txn at h
  refine WK.rs (g := []) (l' := [(.t 0, [.ptr 1000 0]), (.t 1, [iv most]), (.t 4, [.ptr 4 0]), (.o 4, (TTxn.ob_0011 (TTxn.mk 0 0 [] []))), (.o 1000, [.data (.slc false none 1 (List.map e_u8 o0_v.l)), iv o0_v.n])]) (by kernel_rfl) .nil (by kernel_rfl) ?_
  obtain ⟨⟨r2_1, r2_2⟩, h2_3, h⟩ := bd_inv h
  obtain ⟨⟨r2_4, r2_5⟩, h2_6, h⟩ := bd_inv h
  refine WK.rs (g := [.a ⟨iv r2_1, [[.data (.slc false none 1 (List.map e_u8 r2_2.l)), iv r2_2.n]]⟩, .a ⟨iv r2_4, [[.data (.slc false none 1 (List.map e_u8 r2_5.l)), iv r2_5.n]]⟩]) (l' := [(.t 0, [.ptr 1000 0]), (.t 1, [iv most]), (.t 4, [.ptr 4 0]), (.t 5, [.ptr 5 0]), (.o 4, (TTxn.ob_0011 (TTxn.mk 0 0 [] []))), (.o 5, (TTxn.ob_0011 (TTxn.mk (w64 (1 + r2_1)) (w64 (1 + r2_4)) [] []))), (.o 1000, [.data (.slc false none 1 (List.map e_u8 r2_5.l)), iv r2_5.n])]) (by kernel_rfl) (.cons (Asks.of (C := Meets Try.prog) (diwanplay_Picks_Num.meets 3 o0_v _ _ h2_3)) (.cons (Asks.of (C := Meets Try.prog) (diwanplay_Picks_Num.meets 6 r2_2 _ _ h2_6)) .nil)) (by kernel_rfl) ?_
  obtain ⟨⟨r3_1, r3_2⟩, h3_3, h⟩ := bd_inv h
  refine WK.rs (g := [.a ⟨.data (.slc true none 1 (List.map e_s r3_1)), [[.data (.slc false none 1 (List.map e_u8 r3_2.l)), iv r3_2.n]]⟩]) (l' := [(.t 0, [.ptr 1000 0]), (.t 1, [iv most]), (.t 4, [.ptr 4 0]), (.t 5, [.ptr 5 0]), (.t 6, [.data (.slc true none 1 (List.map e_s r3_1))]), (.o 4, (TTxn.ob_0011 (TTxn.mk 0 0 [] []))), (.o 5, (TTxn.ob_0011 (TTxn.mk (w64 (1 + r2_1)) (w64 (1 + r2_4)) [] []))), (.o 1000, [.data (.slc false none 1 (List.map e_u8 r3_2.l)), iv r3_2.n])]) (by kernel_rfl) (.cons (Asks.of (C := Meets Try.prog) (diwanplay_Picks_Keys.meets fu 3 r2_5 _ _ h3_3)) .nil) (by kernel_rfl) ?_
  refine WK.seq (by kernel_rfl) ?_
  refine WK.rs (g := []) (l' := [(.t 0, [.ptr 1000 0]), (.t 1, [iv most]), (.t 4, [.ptr 4 0]), (.t 5, [.ptr 5 0]), (.t 6, [.data (.slc true none 1 (List.map e_s r3_1))]), (.t 7, [iv 0]), (.o 4, (TTxn.ob_0011 (TTxn.mk 0 0 [] []))), (.o 5, (TTxn.ob_0011 (TTxn.mk (w64 (1 + r2_1)) (w64 (1 + r2_4)) [] []))), (.o 1000, [.data (.slc false none 1 (List.map e_u8 r3_2.l)), iv r3_2.n])]) (by kernel_rfl) .nil (by kernel_rfl) ?_
  refine WK.block (n := 0) (by kernel_rfl) ?_
  obtain ⟨o15, ho15, h⟩ := bd_inv h
  refine WK.weak (l := [(.t 0, [.ptr 1000 0]), (.t 1, [iv most]), (.t 4, [.ptr 4 0]), (.t 5, [.ptr 5 0]), (.t 6, [.data (.slc true none 1 (List.map e_s r3_1))]), (.t 7, [iv 0]), (.o 4, (TTxn.ob_0011 (TTxn.mk 0 0 [] []))), (.o 5, (TTxn.ob_0011 (TTxn.mk (w64 (1 + r2_1)) (w64 (1 + r2_4)) [] []))), (.o 1000, [.data (.slc false none 1 (List.map e_u8 r3_2.l)), iv r3_2.n])]) (wk_of (by kernel_rfl)) ?_
  refine WK.use (diwanplay_Picks_Txn.lp5_ok fu most r3_1 (TTxn.mk 0 0 [] []) _ 0 (TTxn.mk (w64 (1 + r2_1)) (w64 (1 + r2_4)) [] []) r3_2 _ ho15) ?_
  intro e_ τ_ hp_
  obtain ⟨y15_0, y15_1⟩ := o15
  obtain ⟨rfl, rfl⟩ := hp_
  refine WKe.code (y := (cR (cR (cR (cR bd19))))) (ks' := []) (by kernel_rfl) ?_
  obtain ⟨⟨r16_1, r16_2⟩, h16_3, h⟩ := bd_inv h
  refine WK.rs (g := [.a ⟨.data (.slc true none 1 (List.map e_s r16_1)), [[.data (.slc false none 1 (List.map e_u8 r16_2.l)), iv r16_2.n]]⟩]) (l' := [(.t 0, [.ptr 1000 0]), (.t 4, [.ptr 4 0]), (.t 5, [.ptr 5 0]), (.t 9, [.data (.slc true none 1 (List.map e_s r16_1))]), (.o 4, (TTxn.ob_0011 (TTxn.mk 0 0 [] []))), (.o 5, (TTxn.ob_0011 y15_0)), (.o 1000, [.data (.slc false none 1 (List.map e_u8 r16_2.l)), iv r16_2.n])]) (by kernel_rfl) (.cons (Asks.of (C := Meets Try.prog) (diwanplay_Picks_Keys.meets fu 3 y15_1 _ _ h16_3)) .nil) (by kernel_rfl) ?_
  refine WK.seq (by kernel_rfl) ?_
  refine WK.rs (g := []) (l' := [(.t 0, [.ptr 1000 0]), (.t 4, [.ptr 4 0]), (.t 5, [.ptr 5 0]), (.t 9, [.data (.slc true none 1 (List.map e_s r16_1))]), (.t 10, [iv 0]), (.o 4, (TTxn.ob_0011 (TTxn.mk 0 0 [] []))), (.o 5, (TTxn.ob_0011 y15_0)), (.o 1000, [.data (.slc false none 1 (List.map e_u8 r16_2.l)), iv r16_2.n])]) (by kernel_rfl) .nil (by kernel_rfl) ?_
  refine WK.block (n := 2) (by kernel_rfl) ?_
  obtain ⟨o28, ho28, h⟩ := bd_inv h
  refine WK.weak (l := [(.t 0, [.ptr 1000 0]), (.t 4, [.ptr 4 0]), (.t 5, [.ptr 5 0]), (.t 9, [.data (.slc true none 1 (List.map e_s r16_1))]), (.t 10, [iv 0]), (.o 4, (TTxn.ob_0011 (TTxn.mk 0 0 [] []))), (.o 5, (TTxn.ob_0011 y15_0)), (.o 1000, [.data (.slc false none 1 (List.map e_u8 r16_2.l)), iv r16_2.n])]) (wk_of (by kernel_rfl)) ?_
  refine WK.use (diwanplay_Picks_Txn.lp18_ok fu r16_1 (TTxn.mk 0 0 [] []) _ 0 y15_0 r16_2 _ ho28) ?_
  intro e_ τ_ hp_
  obtain ⟨y28_0, y28_1⟩ := o28
  obtain ⟨rfl, rfl⟩ := hp_
  refine WKe.code (y := (cR (cR (cR (cR (cR (cR bd19))))))) (ks' := []) (by kernel_rfl) ?_
  refine WK.rs (g := []) (l' := [(.t 4, [.ptr 4 0]), (.o 4, (TTxn.ob_0011 y28_0)), (.o 1000, [.data (.slc false none 1 (List.map e_u8 y28_1.l)), iv y28_1.n])]) (by kernel_rfl) .nil (by kernel_rfl) ?_
  refine WK.weak (l := [(.t 4, [.ptr 4 0]), (.o 4, (TTxn.ob_0011 y28_0)), (.o 1000, [.data (.slc false none 1 (List.map e_u8 y28_1.l)), iv y28_1.n])]) (wk_of (by kernel_rfl)) ?_
  refine WK.ret (by kernel_rfl) ?_
  have h_0 := some_inj h
  obtain ⟨g_1, h_1⟩ := Prod.mk.inj h_0
  subst g_1
  subst h_1
  exact WKe.fin (e' := .ret) (by kernel_rfl) (fin_of (g := []) (by first | exact .inl rfl | exact .inr rfl) .nil (by kernel_rfl))
/-- (*diwan/diwanplay.Picks).Txns -/
noncomputable def bd11 : Code := (Try.f11.body).getD .skip
def diwanplay_Picks_Txns.O : Nat → Nat := fun t => bif ([4, 5, 6, 7, 8, 9, 10, 18, 24, 43, 55, 81] : List Nat).any (Nat.beq t) then 1 else 0
noncomputable def diwanplay_Picks_Txns.lp11 (fu : Nat) (l11_0 : Int) (l11_1 : List TTxn) (l11_2 : List (ByteArray × Int)) (l11_3 : Int) : Nat → Int → TTxn → TPicks → Option (TTxn × TPicks)
  | 0, _, _, _ => none
  | n_ + 1, l11_4, l11_5, l11_6 =>
    br (decide (l11_4 < (l11_5.Reads.length : Int)))
      (ix l11_5.Reads l11_4 fun x14_1 =>
      ix l11_5.Reads l11_4 fun x14_4 =>
      bd (diwanplay_Picks_Num 8 l11_6) fun (r15_1, r15_2) =>
      br (r15_1 == 0)
        (bd (diwanplay_Picks_Num (w64 (l11_3 + 1)) r15_2) fun (r17_1, r17_2) =>
        ix (l11_5.Reads.set l11_4.toNat (TRead.mk x14_4.Key ((alook eqS l11_2 x14_1.Key).getD 0) x14_4.Val x14_4.There)) l11_4 fun x17_4 =>
        diwanplay_Picks_Txns.lp11 fu l11_0 l11_1 l11_2 l11_3 n_ (w64 (l11_4 + 1)) (TTxn.mk l11_5.Session l11_5.Seq ((l11_5.Reads.set l11_4.toNat (TRead.mk x14_4.Key ((alook eqS l11_2 x14_1.Key).getD 0) x14_4.Val x14_4.There)).set l11_4.toNat (TRead.mk x17_4.Key r17_1 x17_4.Val x17_4.There)) l11_5.Writes) r17_2)
        (diwanplay_Picks_Txns.lp11 fu l11_0 l11_1 l11_2 l11_3 n_ (w64 (l11_4 + 1)) (TTxn.mk l11_5.Session l11_5.Seq (l11_5.Reads.set l11_4.toNat (TRead.mk x14_4.Key ((alook eqS l11_2 x14_1.Key).getD 0) x14_4.Val x14_4.There)) l11_5.Writes) r15_2))
      (some (l11_5, l11_6))
noncomputable def diwanplay_Picks_Txns.lp11_post (l11_0 : Int) (l11_1 : List TTxn) (l11_2 : List (ByteArray × Int)) (l11_3 : Int) (r_ : (TTxn × TPicks)) : Wy → St → Prop := fun e τ => match r_ with
  | (y0, y1) => e = .exit 2 ∧ τ = ofL [(.t 0, [.ptr 1000 0]), (.t 1, [iv l11_0]), (.t 5, [.data (.slc true none 4 (List.map TTxn.en l11_1))]), (.t 6, [.data (.mp 1 (mpe kvS kvI l11_2))]), (.t 7, [iv l11_3]), (.t 8, [.ptr 8 0]), (.o 8, (TTxn.ob_0011 y0)), (.o 1000, [.data (.slc false none 1 (List.map e_u8 y1.l)), iv y1.n])]
theorem diwanplay_Picks_Txns.lp11_ok (fu : Nat) (l11_0 : Int) (l11_1 : List TTxn) (l11_2 : List (ByteArray × Int)) (l11_3 : Int) : ∀ (n_ : Nat) (l11_4 : Int) (l11_5 : TTxn) (l11_6 : TPicks) (r_ : (TTxn × TPicks)), diwanplay_Picks_Txns.lp11 fu l11_0 l11_1 l11_2 l11_3 n_ l11_4 l11_5 l11_6 = some r_ → WK Try.prog diwanplay_Picks_Txns.O (Ck Try.prog) (cB (cR (cL (cR (cR (cB (cL (cR (cB (cB (cR (cL (cR (cR (cR bd11))))))))))))))) [] (ofL [(.t 0, [.ptr 1000 0]), (.t 1, [iv l11_0]), (.t 5, [.data (.slc true none 4 (List.map TTxn.en l11_1))]), (.t 6, [.data (.mp 1 (mpe kvS kvI l11_2))]), (.t 7, [iv l11_3]), (.t 8, [.ptr 8 0]), (.t 9, [iv l11_4]), (.o 8, (TTxn.ob_0011 l11_5)), (.o 1000, [.data (.slc false none 1 (List.map e_u8 l11_6.l)), iv l11_6.n])]) (diwanplay_Picks_Txns.lp11_post l11_0 l11_1 l11_2 l11_3 r_) := by
  intro n_
  induction n_ with
  | zero => intro l11_4 l11_5 l11_6 r_ h; exact no_none h
  | succ n_ ih =>
    intro l11_4 l11_5 l11_6 r_ h
    refine WK.loop (by kernel_rfl) ?_
    refine WK.seq (by kernel_rfl) ?_
    refine WK.rs (g := [.s (.t 29) [iv (l11_5.Reads.length : Int)]]) (l' := [(.t 0, [.ptr 1000 0]), (.t 1, [iv l11_0]), (.t 5, [.data (.slc true none 4 (List.map TTxn.en l11_1))]), (.t 6, [.data (.mp 1 (mpe kvS kvI l11_2))]), (.t 7, [iv l11_3]), (.t 8, [.ptr 8 0]), (.t 9, [iv l11_4]), (.t 30, [bv (decide (l11_4 < (l11_5.Reads.length : Int)))]), (.o 8, (TTxn.ob_0011 l11_5)), (.o 1000, [.data (.slc false none 1 (List.map e_u8 l11_6.l)), iv l11_6.n])]) (by kernel_rfl) (.cons (c_len (e := TRead.en) (l := l11_5.Reads)) .nil) (by kernel_rfl) ?_
    rcases br_inv h with ⟨b13_0, h⟩ | ⟨b13_0, h⟩
    · refine WK.ct (b := (decide (l11_4 < (l11_5.Reads.length : Int)))) (by kernel_rfl) b13_0 ?_
      refine WK.skip (by kernel_rfl) ?_
      refine WKe.code (y := (cR (cB (cB (cR (cL (cR (cR (cB (cL (cR (cB (cB (cR (cL (cR (cR (cR bd11)))))))))))))))))) (ks' := [.lp (cB (cR (cL (cR (cR (cB (cL (cR (cB (cB (cR (cL (cR (cR (cR bd11)))))))))))))))]) (by kernel_rfl) ?_
      refine WK.seq (by kernel_rfl) ?_
      refine WK.block (n := 3) (by kernel_rfl) ?_
      obtain ⟨x14_1, a14_2, e14_3, h⟩ := ix_inv h
      obtain ⟨x14_4, a14_5, e14_6, h⟩ := ix_inv h
      refine WK.rs (g := [.c (TRead.en x14_1), .s (.t 43) [iv ((alook eqS l11_2 x14_1.Key).getD 0)], .c (TRead.en x14_4), .s (.o 8) (TTxn.ob_0011 (TTxn.mk l11_5.Session l11_5.Seq (l11_5.Reads.set l11_4.toNat (TRead.mk x14_4.Key ((alook eqS l11_2 x14_1.Key).getD 0) x14_4.Val x14_4.There)) l11_5.Writes))]) (l' := [(.t 0, [.ptr 1000 0]), (.t 1, [iv l11_0]), (.t 5, [.data (.slc true none 4 (List.map TTxn.en l11_1))]), (.t 6, [.data (.mp 1 (mpe kvS kvI l11_2))]), (.t 7, [iv l11_3]), (.t 8, [.ptr 8 0]), (.t 9, [iv l11_4]), (.o 8, (TTxn.ob_0011 (TTxn.mk l11_5.Session l11_5.Seq (l11_5.Reads.set l11_4.toNat (TRead.mk x14_4.Key ((alook eqS l11_2 x14_1.Key).getD 0) x14_4.Val x14_4.There)) l11_5.Writes))), (.o 1000, [.data (.slc false none 1 (List.map e_u8 l11_6.l)), iv l11_6.n])]) (by kernel_rfl) (.cons (c_ix (e := TRead.en) a14_2 e14_3) (.cons (c_el (e := TRead.en) e14_3) (.cons (c_mget (f := kvS) (g := kvI) (eq := eqS) (fun _ _ => rfl) (l := l11_2) (k := x14_1.Key) (z := 0)) (.cons (c_ix (e := TRead.en) a14_5 e14_6) (.cons (c_el (e := TRead.en) e14_6) (.cons (congrArg (fun d : DV => (TTxn.ob_0011 (TTxn.mk l11_5.Session l11_5.Seq (l11_5.Reads.set l11_4.toNat (TRead.mk x14_4.Key ((alook eqS l11_2 x14_1.Key).getD 0) x14_4.Val x14_4.There)) l11_5.Writes)).set 2 (AV.data d)) (c_set (e := TRead.en) (s := 4) (nl := none) (l := l11_5.Reads) (i := l11_4.toNat) (x := (TRead.mk x14_4.Key ((alook eqS l11_2 x14_1.Key).getD 0) x14_4.Val x14_4.There)))) (.cons (Eq.refl true) .nil))))))) (by kernel_rfl) ?_
      obtain ⟨⟨r15_1, r15_2⟩, h15_3, h⟩ := bd_inv h
      refine WK.rs (g := [.a ⟨iv r15_1, [[.data (.slc false none 1 (List.map e_u8 r15_2.l)), iv r15_2.n]]⟩]) (l' := [(.t 0, [.ptr 1000 0]), (.t 1, [iv l11_0]), (.t 5, [.data (.slc true none 4 (List.map TTxn.en l11_1))]), (.t 6, [.data (.mp 1 (mpe kvS kvI l11_2))]), (.t 7, [iv l11_3]), (.t 8, [.ptr 8 0]), (.t 9, [iv l11_4]), (.t 48, [bv (r15_1 == 0)]), (.o 8, (TTxn.ob_0011 (TTxn.mk l11_5.Session l11_5.Seq (l11_5.Reads.set l11_4.toNat (TRead.mk x14_4.Key ((alook eqS l11_2 x14_1.Key).getD 0) x14_4.Val x14_4.There)) l11_5.Writes))), (.o 1000, [.data (.slc false none 1 (List.map e_u8 r15_2.l)), iv r15_2.n])]) (by kernel_rfl) (.cons (Asks.of (C := Meets Try.prog) (diwanplay_Picks_Num.meets 8 l11_6 _ _ h15_3)) .nil) (by kernel_rfl) ?_
      rcases br_inv h with ⟨b16_0, h⟩ | ⟨b16_0, h⟩
      · refine WK.ct (b := (r15_1 == 0)) (by kernel_rfl) b16_0 ?_
        obtain ⟨⟨r17_1, r17_2⟩, h17_3, h⟩ := bd_inv h
        obtain ⟨x17_4, a17_5, e17_6, h⟩ := ix_inv h
        refine WK.rc (g := [.a ⟨iv r17_1, [[.data (.slc false none 1 (List.map e_u8 r17_2.l)), iv r17_2.n]]⟩, .c (TRead.en x17_4), .s (.o 8) (TTxn.ob_0011 (TTxn.mk l11_5.Session l11_5.Seq ((l11_5.Reads.set l11_4.toNat (TRead.mk x14_4.Key ((alook eqS l11_2 x14_1.Key).getD 0) x14_4.Val x14_4.There)).set l11_4.toNat (TRead.mk x17_4.Key r17_1 x17_4.Val x17_4.There)) l11_5.Writes))]) (l' := [(.t 0, [.ptr 1000 0]), (.t 1, [iv l11_0]), (.t 5, [.data (.slc true none 4 (List.map TTxn.en l11_1))]), (.t 6, [.data (.mp 1 (mpe kvS kvI l11_2))]), (.t 7, [iv l11_3]), (.t 8, [.ptr 8 0]), (.t 9, [iv l11_4]), (.o 8, (TTxn.ob_0011 (TTxn.mk l11_5.Session l11_5.Seq ((l11_5.Reads.set l11_4.toNat (TRead.mk x14_4.Key ((alook eqS l11_2 x14_1.Key).getD 0) x14_4.Val x14_4.There)).set l11_4.toNat (TRead.mk x17_4.Key r17_1 x17_4.Val x17_4.There)) l11_5.Writes))), (.o 1000, [.data (.slc false none 1 (List.map e_u8 r17_2.l)), iv r17_2.n])]) (.cons (Asks.of (C := Meets Try.prog) (diwanplay_Picks_Num.meets (w64 (l11_3 + 1)) r15_2 _ _ h17_3)) (.cons (c_ix (e := TRead.en) a17_5 e17_6) (.cons (c_el (e := TRead.en) e17_6) (.cons (congrArg (fun d : DV => (TTxn.ob_0011 (TTxn.mk l11_5.Session l11_5.Seq ((l11_5.Reads.set l11_4.toNat (TRead.mk x14_4.Key ((alook eqS l11_2 x14_1.Key).getD 0) x14_4.Val x14_4.There)).set l11_4.toNat (TRead.mk x17_4.Key r17_1 x17_4.Val x17_4.There)) l11_5.Writes)).set 2 (AV.data d)) (c_set (e := TRead.en) (s := 4) (nl := none) (l := (l11_5.Reads.set l11_4.toNat (TRead.mk x14_4.Key ((alook eqS l11_2 x14_1.Key).getD 0) x14_4.Val x14_4.There))) (i := l11_4.toNat) (x := (TRead.mk x17_4.Key r17_1 x17_4.Val x17_4.There)))) (.cons (Eq.refl true) .nil))))) (by kernel_rfl) (y := (cR (cR (cB (cB (cR (cL (cR (cR (cB (cL (cR (cB (cB (cR (cL (cR (cR (cR bd11))))))))))))))))))) (ks' := [.lp (cB (cR (cL (cR (cR (cB (cL (cR (cB (cB (cR (cL (cR (cR (cR bd11)))))))))))))))]) (by kernel_rfl) ?_
        refine WK.rc (g := []) (l' := [(.t 0, [.ptr 1000 0]), (.t 1, [iv l11_0]), (.t 5, [.data (.slc true none 4 (List.map TTxn.en l11_1))]), (.t 6, [.data (.mp 1 (mpe kvS kvI l11_2))]), (.t 7, [iv l11_3]), (.t 8, [.ptr 8 0]), (.t 9, [iv (w64 (l11_4 + 1))]), (.o 8, (TTxn.ob_0011 (TTxn.mk l11_5.Session l11_5.Seq ((l11_5.Reads.set l11_4.toNat (TRead.mk x14_4.Key ((alook eqS l11_2 x14_1.Key).getD 0) x14_4.Val x14_4.There)).set l11_4.toNat (TRead.mk x17_4.Key r17_1 x17_4.Val x17_4.There)) l11_5.Writes))), (.o 1000, [.data (.slc false none 1 (List.map e_u8 r17_2.l)), iv r17_2.n])]) .nil (by kernel_rfl) (y := (cB (cR (cL (cR (cR (cB (cL (cR (cB (cB (cR (cL (cR (cR (cR bd11)))))))))))))))) (ks' := []) (by kernel_rfl) ?_
        exact WK.weak (l := [(.t 0, [.ptr 1000 0]), (.t 1, [iv l11_0]), (.t 5, [.data (.slc true none 4 (List.map TTxn.en l11_1))]), (.t 6, [.data (.mp 1 (mpe kvS kvI l11_2))]), (.t 7, [iv l11_3]), (.t 8, [.ptr 8 0]), (.t 9, [iv (w64 (l11_4 + 1))]), (.o 8, (TTxn.ob_0011 (TTxn.mk l11_5.Session l11_5.Seq ((l11_5.Reads.set l11_4.toNat (TRead.mk x14_4.Key ((alook eqS l11_2 x14_1.Key).getD 0) x14_4.Val x14_4.There)).set l11_4.toNat (TRead.mk x17_4.Key r17_1 x17_4.Val x17_4.There)) l11_5.Writes))), (.o 1000, [.data (.slc false none 1 (List.map e_u8 r17_2.l)), iv r17_2.n])]) (wk_of (by kernel_rfl)) (ih (w64 (l11_4 + 1)) (TTxn.mk l11_5.Session l11_5.Seq ((l11_5.Reads.set l11_4.toNat (TRead.mk x14_4.Key ((alook eqS l11_2 x14_1.Key).getD 0) x14_4.Val x14_4.There)).set l11_4.toNat (TRead.mk x17_4.Key r17_1 x17_4.Val x17_4.There)) l11_5.Writes) r17_2 _ h)
      · refine WK.ce (b := (r15_1 == 0)) (by kernel_rfl) b16_0 ?_
        refine WK.skip (by kernel_rfl) ?_
        refine WKe.code (y := (cR (cR (cB (cB (cR (cL (cR (cR (cB (cL (cR (cB (cB (cR (cL (cR (cR (cR bd11))))))))))))))))))) (ks' := [.lp (cB (cR (cL (cR (cR (cB (cL (cR (cB (cB (cR (cL (cR (cR (cR bd11)))))))))))))))]) (by kernel_rfl) ?_
        refine WK.rc (g := []) (l' := [(.t 0, [.ptr 1000 0]), (.t 1, [iv l11_0]), (.t 5, [.data (.slc true none 4 (List.map TTxn.en l11_1))]), (.t 6, [.data (.mp 1 (mpe kvS kvI l11_2))]), (.t 7, [iv l11_3]), (.t 8, [.ptr 8 0]), (.t 9, [iv (w64 (l11_4 + 1))]), (.o 8, (TTxn.ob_0011 (TTxn.mk l11_5.Session l11_5.Seq (l11_5.Reads.set l11_4.toNat (TRead.mk x14_4.Key ((alook eqS l11_2 x14_1.Key).getD 0) x14_4.Val x14_4.There)) l11_5.Writes))), (.o 1000, [.data (.slc false none 1 (List.map e_u8 r15_2.l)), iv r15_2.n])]) .nil (by kernel_rfl) (y := (cB (cR (cL (cR (cR (cB (cL (cR (cB (cB (cR (cL (cR (cR (cR bd11)))))))))))))))) (ks' := []) (by kernel_rfl) ?_
        exact WK.weak (l := [(.t 0, [.ptr 1000 0]), (.t 1, [iv l11_0]), (.t 5, [.data (.slc true none 4 (List.map TTxn.en l11_1))]), (.t 6, [.data (.mp 1 (mpe kvS kvI l11_2))]), (.t 7, [iv l11_3]), (.t 8, [.ptr 8 0]), (.t 9, [iv (w64 (l11_4 + 1))]), (.o 8, (TTxn.ob_0011 (TTxn.mk l11_5.Session l11_5.Seq (l11_5.Reads.set l11_4.toNat (TRead.mk x14_4.Key ((alook eqS l11_2 x14_1.Key).getD 0) x14_4.Val x14_4.There)) l11_5.Writes))), (.o 1000, [.data (.slc false none 1 (List.map e_u8 r15_2.l)), iv r15_2.n])]) (wk_of (by kernel_rfl)) (ih (w64 (l11_4 + 1)) (TTxn.mk l11_5.Session l11_5.Seq (l11_5.Reads.set l11_4.toNat (TRead.mk x14_4.Key ((alook eqS l11_2 x14_1.Key).getD 0) x14_4.Val x14_4.There)) l11_5.Writes) r15_2 _ h)
    · refine WK.ce (b := (decide (l11_4 < (l11_5.Reads.length : Int)))) (by kernel_rfl) b13_0 ?_
      refine WK.weak (l := [(.t 0, [.ptr 1000 0]), (.t 1, [iv l11_0]), (.t 5, [.data (.slc true none 4 (List.map TTxn.en l11_1))]), (.t 6, [.data (.mp 1 (mpe kvS kvI l11_2))]), (.t 7, [iv l11_3]), (.t 8, [.ptr 8 0]), (.o 8, (TTxn.ob_0011 l11_5)), (.o 1000, [.data (.slc false none 1 (List.map e_u8 l11_6.l)), iv l11_6.n])]) (wk_of (by kernel_rfl)) ?_
      refine WK.exit (n := 2) (by kernel_rfl) ?_
      cases some_inj h
      exact WKe.fin (e' := .exit 2) (by kernel_rfl) ⟨rfl, rfl⟩
noncomputable def diwanplay_Picks_Txns.lp22 (fu : Nat) (l22_0 : Int) (l22_1 : List TTxn) (l22_3 : Int) (l22_5 : TTxn) : Nat → (List (ByteArray × Int)) → Int → TPicks → Option (List (ByteArray × Int) × TPicks)
  | 0, _, _, _ => none
  | n_ + 1, l22_2, l22_4, l22_6 =>
    br (decide (l22_4 < (l22_5.Writes.length : Int)))
      (bd (diwanplay_Picks_Num 9 l22_6) fun (r23_2, r23_3) =>
      br (decide (r23_2 > 0))
        (ix l22_5.Writes l22_4 fun x25_1 =>
        diwanplay_Picks_Txns.lp22 fu l22_0 l22_1 l22_3 l22_5 n_ (aput eqS l22_2 x25_1.Key (w64 (l22_3 + 1))) (w64 (l22_4 + 1)) r23_3)
        (some (l22_2, r23_3)))
      (some (l22_2, l22_6))
noncomputable def diwanplay_Picks_Txns.lp22_post (l22_0 : Int) (l22_1 : List TTxn) (l22_3 : Int) (l22_5 : TTxn) (r_ : (List (ByteArray × Int) × TPicks)) : Wy → St → Prop := fun e τ => match r_ with
  | (y0, y1) => e = .exit 4 ∧ τ = ofL [(.t 0, [.ptr 1000 0]), (.t 1, [iv l22_0]), (.t 5, [.data (.slc true none 4 (List.map TTxn.en l22_1))]), (.t 6, [.data (.mp 1 (mpe kvS kvI y0))]), (.t 7, [iv l22_3]), (.t 8, [.ptr 8 0]), (.o 8, (TTxn.ob_0011 l22_5)), (.o 1000, [.data (.slc false none 1 (List.map e_u8 y1.l)), iv y1.n])]
theorem diwanplay_Picks_Txns.lp22_ok (fu : Nat) (l22_0 : Int) (l22_1 : List TTxn) (l22_3 : Int) (l22_5 : TTxn) : ∀ (n_ : Nat) (l22_2 : List (ByteArray × Int)) (l22_4 : Int) (l22_6 : TPicks) (r_ : (List (ByteArray × Int) × TPicks)), diwanplay_Picks_Txns.lp22 fu l22_0 l22_1 l22_3 l22_5 n_ l22_2 l22_4 l22_6 = some r_ → WK Try.prog diwanplay_Picks_Txns.O (Ck Try.prog) (cB (cR (cL (cR (cR (cR (cB (cL (cR (cB (cB (cR (cL (cR (cR (cR bd11)))))))))))))))) [] (ofL [(.t 0, [.ptr 1000 0]), (.t 1, [iv l22_0]), (.t 5, [.data (.slc true none 4 (List.map TTxn.en l22_1))]), (.t 6, [.data (.mp 1 (mpe kvS kvI l22_2))]), (.t 7, [iv l22_3]), (.t 8, [.ptr 8 0]), (.t 10, [iv l22_4]), (.o 8, (TTxn.ob_0011 l22_5)), (.o 1000, [.data (.slc false none 1 (List.map e_u8 l22_6.l)), iv l22_6.n])]) (diwanplay_Picks_Txns.lp22_post l22_0 l22_1 l22_3 l22_5 r_) := by
  intro n_
  induction n_ with
  | zero => intro l22_2 l22_4 l22_6 r_ h; exact no_none h
  | succ n_ ih =>
    intro l22_2 l22_4 l22_6 r_ h
    refine WK.loop (by kernel_rfl) ?_
    refine WK.seq (by kernel_rfl) ?_
    rcases br_inv h with ⟨b23_1, h⟩ | ⟨b23_1, h⟩
    · obtain ⟨⟨r23_2, r23_3⟩, h23_4, h⟩ := bd_inv h
      refine WK.rs (g := [.s (.t 61) [iv (l22_5.Writes.length : Int)], .b true, .b true, .a ⟨iv r23_2, [[.data (.slc false none 1 (List.map e_u8 r23_3.l)), iv r23_3.n]]⟩, .b true, .b true]) (l' := [(.t 0, [.ptr 1000 0]), (.t 1, [iv l22_0]), (.t 5, [.data (.slc true none 4 (List.map TTxn.en l22_1))]), (.t 6, [.data (.mp 1 (mpe kvS kvI l22_2))]), (.t 7, [iv l22_3]), (.t 8, [.ptr 8 0]), (.t 10, [iv l22_4]), (.t 67, [bv (decide (r23_2 > 0))]), (.o 8, (TTxn.ob_0011 l22_5)), (.o 1000, [.data (.slc false none 1 (List.map e_u8 r23_3.l)), iv r23_3.n])]) (by kernel_rfl) (.cons (c_len (e := TWrite.en) (l := l22_5.Writes)) (.cons b23_1 (.cons b23_1 (.cons (Asks.of (C := Meets Try.prog) (diwanplay_Picks_Num.meets 9 l22_6 _ _ h23_4)) (.cons b23_1 (.cons b23_1 .nil)))))) (by kernel_rfl) ?_
      rcases br_inv h with ⟨b24_0, h⟩ | ⟨b24_0, h⟩
      · refine WK.ct (b := (decide (r23_2 > 0))) (by kernel_rfl) b24_0 ?_
        refine WK.skip (by kernel_rfl) ?_
        refine WKe.code (y := (cR (cB (cB (cR (cL (cR (cR (cR (cB (cL (cR (cB (cB (cR (cL (cR (cR (cR bd11))))))))))))))))))) (ks' := [.lp (cB (cR (cL (cR (cR (cR (cB (cL (cR (cB (cB (cR (cL (cR (cR (cR bd11))))))))))))))))]) (by kernel_rfl) ?_
        refine WK.seq (by kernel_rfl) ?_
        refine WK.block (n := 5) (by kernel_rfl) ?_
        obtain ⟨x25_1, a25_2, e25_3, h⟩ := ix_inv h
        refine WK.rc (g := [.c (TWrite.en x25_1), .s (.t 6) [.data (.mp 1 (mpe kvS kvI (aput eqS l22_2 x25_1.Key (w64 (l22_3 + 1)))))]]) (l' := [(.t 0, [.ptr 1000 0]), (.t 1, [iv l22_0]), (.t 5, [.data (.slc true none 4 (List.map TTxn.en l22_1))]), (.t 6, [.data (.mp 1 (mpe kvS kvI (aput eqS l22_2 x25_1.Key (w64 (l22_3 + 1)))))]), (.t 7, [iv l22_3]), (.t 8, [.ptr 8 0]), (.t 10, [iv l22_4]), (.o 8, (TTxn.ob_0011 l22_5)), (.o 1000, [.data (.slc false none 1 (List.map e_u8 r23_3.l)), iv r23_3.n])]) (.cons (c_ix (e := TWrite.en) a25_2 e25_3) (.cons (c_el (e := TWrite.en) e25_3) (.cons (congrArg (fun d : DV => [AV.data d]) (c_mput (f := kvS) (g := kvI) (eq := eqS) (fun _ _ => rfl) (kd := 1) (l := l22_2) (k := x25_1.Key) (v := (w64 (l22_3 + 1))))) .nil))) (by kernel_rfl) (y := (cR (cR (cB (cB (cR (cL (cR (cR (cR (cB (cL (cR (cB (cB (cR (cL (cR (cR (cR bd11)))))))))))))))))))) (ks' := [.lp (cB (cR (cL (cR (cR (cR (cB (cL (cR (cB (cB (cR (cL (cR (cR (cR bd11))))))))))))))))]) (by kernel_rfl) ?_
        refine WK.rc (g := []) (l' := [(.t 0, [.ptr 1000 0]), (.t 1, [iv l22_0]), (.t 5, [.data (.slc true none 4 (List.map TTxn.en l22_1))]), (.t 6, [.data (.mp 1 (mpe kvS kvI (aput eqS l22_2 x25_1.Key (w64 (l22_3 + 1)))))]), (.t 7, [iv l22_3]), (.t 8, [.ptr 8 0]), (.t 10, [iv (w64 (l22_4 + 1))]), (.o 8, (TTxn.ob_0011 l22_5)), (.o 1000, [.data (.slc false none 1 (List.map e_u8 r23_3.l)), iv r23_3.n])]) .nil (by kernel_rfl) (y := (cB (cR (cL (cR (cR (cR (cB (cL (cR (cB (cB (cR (cL (cR (cR (cR bd11))))))))))))))))) (ks' := []) (by kernel_rfl) ?_
        exact WK.weak (l := [(.t 0, [.ptr 1000 0]), (.t 1, [iv l22_0]), (.t 5, [.data (.slc true none 4 (List.map TTxn.en l22_1))]), (.t 6, [.data (.mp 1 (mpe kvS kvI (aput eqS l22_2 x25_1.Key (w64 (l22_3 + 1)))))]), (.t 7, [iv l22_3]), (.t 8, [.ptr 8 0]), (.t 10, [iv (w64 (l22_4 + 1))]), (.o 8, (TTxn.ob_0011 l22_5)), (.o 1000, [.data (.slc false none 1 (List.map e_u8 r23_3.l)), iv r23_3.n])]) (wk_of (by kernel_rfl)) (ih (aput eqS l22_2 x25_1.Key (w64 (l22_3 + 1))) (w64 (l22_4 + 1)) r23_3 _ h)
      · refine WK.ce (b := (decide (r23_2 > 0))) (by kernel_rfl) b24_0 ?_
        refine WK.weak (l := [(.t 0, [.ptr 1000 0]), (.t 1, [iv l22_0]), (.t 5, [.data (.slc true none 4 (List.map TTxn.en l22_1))]), (.t 6, [.data (.mp 1 (mpe kvS kvI l22_2))]), (.t 7, [iv l22_3]), (.t 8, [.ptr 8 0]), (.o 8, (TTxn.ob_0011 l22_5)), (.o 1000, [.data (.slc false none 1 (List.map e_u8 r23_3.l)), iv r23_3.n])]) (wk_of (by kernel_rfl)) ?_
        refine WK.exit (n := 4) (by kernel_rfl) ?_
        cases some_inj h
        exact WKe.fin (e' := .exit 4) (by kernel_rfl) ⟨rfl, rfl⟩
    · refine WK.rs (g := [.s (.t 61) [iv (l22_5.Writes.length : Int)], .b false, .b false, .b false, .b false]) (l' := [(.t 0, [.ptr 1000 0]), (.t 1, [iv l22_0]), (.t 5, [.data (.slc true none 4 (List.map TTxn.en l22_1))]), (.t 6, [.data (.mp 1 (mpe kvS kvI l22_2))]), (.t 7, [iv l22_3]), (.t 8, [.ptr 8 0]), (.t 10, [iv l22_4]), (.t 67, [bv false]), (.o 8, (TTxn.ob_0011 l22_5)), (.o 1000, [.data (.slc false none 1 (List.map e_u8 l22_6.l)), iv l22_6.n])]) (by kernel_rfl) (.cons (c_len (e := TWrite.en) (l := l22_5.Writes)) (.cons b23_1 (.cons b23_1 (.cons b23_1 (.cons b23_1 .nil))))) (by kernel_rfl) ?_
      refine WK.ce (b := false) (by kernel_rfl) rfl ?_
      refine WK.weak (l := [(.t 0, [.ptr 1000 0]), (.t 1, [iv l22_0]), (.t 5, [.data (.slc true none 4 (List.map TTxn.en l22_1))]), (.t 6, [.data (.mp 1 (mpe kvS kvI l22_2))]), (.t 7, [iv l22_3]), (.t 8, [.ptr 8 0]), (.o 8, (TTxn.ob_0011 l22_5)), (.o 1000, [.data (.slc false none 1 (List.map e_u8 l22_6.l)), iv l22_6.n])]) (wk_of (by kernel_rfl)) ?_
      refine WK.exit (n := 4) (by kernel_rfl) ?_
      cases some_inj h
      exact WKe.fin (e' := .exit 4) (by kernel_rfl) ⟨rfl, rfl⟩
noncomputable def diwanplay_Picks_Txns.lp5 (fu : Nat) (l5_0 : Int) : Nat → (List TTxn) → (List (ByteArray × Int)) → Int → TPicks → Option (List TTxn × TPicks)
  | 0, _, _, _, _ => none
  | n_ + 1, l5_1, l5_2, l5_3, l5_4 =>
    br (decide (l5_3 < l5_0))
      (bd (diwanplay_Picks_Txn fu 1 l5_4) fun (r8_1, r8_2) =>
      bd (diwanplay_Picks_Num 2 r8_2) fun (r9_1, r9_2) =>
      bd (diwanplay_Picks_Txns.lp11 fu l5_0 l5_1 l5_2 l5_3 fu 0 (TTxn.mk r8_1.Session (w64 ((w64 (1 + (w64 (Int.tdiv l5_3 2)))) + r9_1)) r8_1.Reads r8_1.Writes) r9_2) fun (y20_0, y20_1) =>
      bd (diwanplay_Picks_Txns.lp22 fu l5_0 l5_1 l5_3 y20_0 fu l5_2 0 y20_1) fun (y27_0, y27_1) =>
      gd (decide (l5_1.length + ([y20_0] : List TTxn).length ≤ 4294967296)) <|
      diwanplay_Picks_Txns.lp5 fu l5_0 n_ (l5_1 ++ ([y20_0] : List TTxn)) y27_0 (w64 (l5_3 + 1)) y27_1)
      (some (l5_1, l5_4))
noncomputable def diwanplay_Picks_Txns.lp5_post (l5_0 : Int) (r_ : (List TTxn × TPicks)) : Wy → St → Prop := fun e τ => match r_ with
  | (y0, y1) => e = .exit 0 ∧ τ = ofL [(.t 5, [.data (.slc true none 4 (List.map TTxn.en y0))]), (.o 1000, [.data (.slc false none 1 (List.map e_u8 y1.l)), iv y1.n])]
theorem diwanplay_Picks_Txns.lp5_ok (fu : Nat) (l5_0 : Int) : ∀ (n_ : Nat) (l5_1 : List TTxn) (l5_2 : List (ByteArray × Int)) (l5_3 : Int) (l5_4 : TPicks) (r_ : (List TTxn × TPicks)), diwanplay_Picks_Txns.lp5 fu l5_0 n_ l5_1 l5_2 l5_3 l5_4 = some r_ → WK Try.prog diwanplay_Picks_Txns.O (Ck Try.prog) (cB (cR (cL (cR (cR (cR bd11)))))) [] (ofL [(.t 0, [.ptr 1000 0]), (.t 1, [iv l5_0]), (.t 5, [.data (.slc true none 4 (List.map TTxn.en l5_1))]), (.t 6, [.data (.mp 1 (mpe kvS kvI l5_2))]), (.t 7, [iv l5_3]), (.o 1000, [.data (.slc false none 1 (List.map e_u8 l5_4.l)), iv l5_4.n])]) (diwanplay_Picks_Txns.lp5_post l5_0 r_) := by
  intro n_
  induction n_ with
  | zero => intro l5_1 l5_2 l5_3 l5_4 r_ h; exact no_none h
  | succ n_ ih =>
    intro l5_1 l5_2 l5_3 l5_4 r_ h
    refine WK.loop (by kernel_rfl) ?_
    refine WK.seq (by kernel_rfl) ?_
    refine WK.rs (g := []) (l' := [(.t 0, [.ptr 1000 0]), (.t 1, [iv l5_0]), (.t 5, [.data (.slc true none 4 (List.map TTxn.en l5_1))]), (.t 6, [.data (.mp 1 (mpe kvS kvI l5_2))]), (.t 7, [iv l5_3]), (.t 14, [bv (decide (l5_3 < l5_0))]), (.o 1000, [.data (.slc false none 1 (List.map e_u8 l5_4.l)), iv l5_4.n])]) (by kernel_rfl) .nil (by kernel_rfl) ?_
    rcases br_inv h with ⟨b7_0, h⟩ | ⟨b7_0, h⟩
    · refine WK.ct (b := (decide (l5_3 < l5_0))) (by kernel_rfl) b7_0 ?_
      refine WK.skip (by kernel_rfl) ?_
      refine WKe.code (y := (cR (cB (cB (cR (cL (cR (cR (cR bd11))))))))) (ks' := [.lp (cB (cR (cL (cR (cR (cR bd11))))))]) (by kernel_rfl) ?_
      refine WK.seq (by kernel_rfl) ?_
      refine WK.block (n := 1) (by kernel_rfl) ?_
      obtain ⟨⟨r8_1, r8_2⟩, h8_3, h⟩ := bd_inv h
      refine WK.rs (g := [.a ⟨.data (TTxn.ag_0011 r8_1), [[.data (.slc false none 1 (List.map e_u8 r8_2.l)), iv r8_2.n]]⟩]) (l' := [(.t 0, [.ptr 1000 0]), (.t 1, [iv l5_0]), (.t 5, [.data (.slc true none 4 (List.map TTxn.en l5_1))]), (.t 6, [.data (.mp 1 (mpe kvS kvI l5_2))]), (.t 7, [iv l5_3]), (.t 8, [.ptr 8 0]), (.o 8, (TTxn.ob_0011 r8_1)), (.o 1000, [.data (.slc false none 1 (List.map e_u8 r8_2.l)), iv r8_2.n])]) (by kernel_rfl) (.cons (Asks.of (C := Meets Try.prog) (diwanplay_Picks_Txn.meets fu 1 l5_4 _ _ h8_3)) .nil) (by kernel_rfl) ?_
      obtain ⟨⟨r9_1, r9_2⟩, h9_3, h⟩ := bd_inv h
      refine WK.rs (g := [.a ⟨iv r9_1, [[.data (.slc false none 1 (List.map e_u8 r9_2.l)), iv r9_2.n]]⟩]) (l' := [(.t 0, [.ptr 1000 0]), (.t 1, [iv l5_0]), (.t 5, [.data (.slc true none 4 (List.map TTxn.en l5_1))]), (.t 6, [.data (.mp 1 (mpe kvS kvI l5_2))]), (.t 7, [iv l5_3]), (.t 8, [.ptr 8 0]), (.o 8, (TTxn.ob_0011 (TTxn.mk r8_1.Session (w64 ((w64 (1 + (w64 (Int.tdiv l5_3 2)))) + r9_1)) r8_1.Reads r8_1.Writes))), (.o 1000, [.data (.slc false none 1 (List.map e_u8 r9_2.l)), iv r9_2.n])]) (by kernel_rfl) (.cons (Eq.refl true) (.cons (Asks.of (C := Meets Try.prog) (diwanplay_Picks_Num.meets 2 r8_2 _ _ h9_3)) .nil)) (by kernel_rfl) ?_
      refine WK.seq (by kernel_rfl) ?_
      refine WK.rs (g := []) (l' := [(.t 0, [.ptr 1000 0]), (.t 1, [iv l5_0]), (.t 5, [.data (.slc true none 4 (List.map TTxn.en l5_1))]), (.t 6, [.data (.mp 1 (mpe kvS kvI l5_2))]), (.t 7, [iv l5_3]), (.t 8, [.ptr 8 0]), (.t 9, [iv 0]), (.o 8, (TTxn.ob_0011 (TTxn.mk r8_1.Session (w64 ((w64 (1 + (w64 (Int.tdiv l5_3 2)))) + r9_1)) r8_1.Reads r8_1.Writes))), (.o 1000, [.data (.slc false none 1 (List.map e_u8 r9_2.l)), iv r9_2.n])]) (by kernel_rfl) .nil (by kernel_rfl) ?_
      refine WK.block (n := 2) (by kernel_rfl) ?_
      obtain ⟨o20, ho20, h⟩ := bd_inv h
      refine WK.weak (l := [(.t 0, [.ptr 1000 0]), (.t 1, [iv l5_0]), (.t 5, [.data (.slc true none 4 (List.map TTxn.en l5_1))]), (.t 6, [.data (.mp 1 (mpe kvS kvI l5_2))]), (.t 7, [iv l5_3]), (.t 8, [.ptr 8 0]), (.t 9, [iv 0]), (.o 8, (TTxn.ob_0011 (TTxn.mk r8_1.Session (w64 ((w64 (1 + (w64 (Int.tdiv l5_3 2)))) + r9_1)) r8_1.Reads r8_1.Writes))), (.o 1000, [.data (.slc false none 1 (List.map e_u8 r9_2.l)), iv r9_2.n])]) (wk_of (by kernel_rfl)) ?_
      refine WK.use (diwanplay_Picks_Txns.lp11_ok fu l5_0 l5_1 l5_2 l5_3 _ 0 (TTxn.mk r8_1.Session (w64 ((w64 (1 + (w64 (Int.tdiv l5_3 2)))) + r9_1)) r8_1.Reads r8_1.Writes) r9_2 _ ho20) ?_
      intro e_ τ_ hp_
      obtain ⟨y20_0, y20_1⟩ := o20
      obtain ⟨rfl, rfl⟩ := hp_
      refine WKe.code (y := (cR (cR (cR (cB (cL (cR (cB (cB (cR (cL (cR (cR (cR bd11)))))))))))))) (ks' := [.blk 1, .seq (cR (cR (cB (cB (cR (cL (cR (cR (cR bd11))))))))), .lp (cB (cR (cL (cR (cR (cR bd11))))))]) (by kernel_rfl) ?_
      refine WK.seq (by kernel_rfl) ?_
      refine WK.rs (g := []) (l' := [(.t 0, [.ptr 1000 0]), (.t 1, [iv l5_0]), (.t 5, [.data (.slc true none 4 (List.map TTxn.en l5_1))]), (.t 6, [.data (.mp 1 (mpe kvS kvI l5_2))]), (.t 7, [iv l5_3]), (.t 8, [.ptr 8 0]), (.t 10, [iv 0]), (.o 8, (TTxn.ob_0011 y20_0)), (.o 1000, [.data (.slc false none 1 (List.map e_u8 y20_1.l)), iv y20_1.n])]) (by kernel_rfl) .nil (by kernel_rfl) ?_
      refine WK.block (n := 4) (by kernel_rfl) ?_
      obtain ⟨o27, ho27, h⟩ := bd_inv h
      refine WK.weak (l := [(.t 0, [.ptr 1000 0]), (.t 1, [iv l5_0]), (.t 5, [.data (.slc true none 4 (List.map TTxn.en l5_1))]), (.t 6, [.data (.mp 1 (mpe kvS kvI l5_2))]), (.t 7, [iv l5_3]), (.t 8, [.ptr 8 0]), (.t 10, [iv 0]), (.o 8, (TTxn.ob_0011 y20_0)), (.o 1000, [.data (.slc false none 1 (List.map e_u8 y20_1.l)), iv y20_1.n])]) (wk_of (by kernel_rfl)) ?_
      refine WK.use (diwanplay_Picks_Txns.lp22_ok fu l5_0 l5_1 l5_3 y20_0 _ l5_2 0 y20_1 _ ho27) ?_
      intro e_ τ_ hp_
      obtain ⟨y27_0, y27_1⟩ := o27
      obtain ⟨rfl, rfl⟩ := hp_
      refine WKe.code (y := (cR (cR (cR (cR (cB (cL (cR (cB (cB (cR (cL (cR (cR (cR bd11))))))))))))))) (ks' := [.blk 1, .seq (cR (cR (cB (cB (cR (cL (cR (cR (cR bd11))))))))), .lp (cB (cR (cL (cR (cR (cR bd11))))))]) (by kernel_rfl) ?_
      obtain ⟨c28_1, h⟩ := gd_inv h
      refine WK.rc (g := [.s (.t 82) [.data (.slc true none 4 (List.map TTxn.en (l5_1 ++ ([y20_0] : List TTxn))))]]) (l' := [(.t 0, [.ptr 1000 0]), (.t 1, [iv l5_0]), (.t 5, [.data (.slc true none 4 (List.map TTxn.en (l5_1 ++ ([y20_0] : List TTxn))))]), (.t 6, [.data (.mp 1 (mpe kvS kvI y27_0))]), (.t 7, [iv l5_3]), (.o 1000, [.data (.slc false none 1 (List.map e_u8 y27_1.l)), iv y27_1.n])]) (.cons (c_al (e := TTxn.en) (f := TTxn.en) c28_1) (.cons (congrArg (fun d : DV => [AV.data d]) (c_app (e := TTxn.en) (s := 4) (l := l5_1) (m := ([y20_0] : List TTxn)))) .nil)) (by kernel_rfl) (y := (cR (cR (cB (cB (cR (cL (cR (cR (cR bd11)))))))))) (ks' := [.lp (cB (cR (cL (cR (cR (cR bd11))))))]) (by kernel_rfl) ?_
      refine WK.rc (g := []) (l' := [(.t 0, [.ptr 1000 0]), (.t 1, [iv l5_0]), (.t 5, [.data (.slc true none 4 (List.map TTxn.en (l5_1 ++ ([y20_0] : List TTxn))))]), (.t 6, [.data (.mp 1 (mpe kvS kvI y27_0))]), (.t 7, [iv (w64 (l5_3 + 1))]), (.o 1000, [.data (.slc false none 1 (List.map e_u8 y27_1.l)), iv y27_1.n])]) .nil (by kernel_rfl) (y := (cB (cR (cL (cR (cR (cR bd11))))))) (ks' := []) (by kernel_rfl) ?_
      exact WK.weak (l := [(.t 0, [.ptr 1000 0]), (.t 1, [iv l5_0]), (.t 5, [.data (.slc true none 4 (List.map TTxn.en (l5_1 ++ ([y20_0] : List TTxn))))]), (.t 6, [.data (.mp 1 (mpe kvS kvI y27_0))]), (.t 7, [iv (w64 (l5_3 + 1))]), (.o 1000, [.data (.slc false none 1 (List.map e_u8 y27_1.l)), iv y27_1.n])]) (wk_of (by kernel_rfl)) (ih (l5_1 ++ ([y20_0] : List TTxn)) y27_0 (w64 (l5_3 + 1)) y27_1 _ h)
    · refine WK.ce (b := (decide (l5_3 < l5_0))) (by kernel_rfl) b7_0 ?_
      refine WK.weak (l := [(.t 5, [.data (.slc true none 4 (List.map TTxn.en l5_1))]), (.o 1000, [.data (.slc false none 1 (List.map e_u8 l5_4.l)), iv l5_4.n])]) (wk_of (by kernel_rfl)) ?_
      refine WK.exit (n := 0) (by kernel_rfl) ?_
      cases some_inj h
      exact WKe.fin (e' := .exit 0) (by kernel_rfl) ⟨rfl, rfl⟩
noncomputable def diwanplay_Picks_Txns (fu : Nat) (n_v : Int) (o0_v : TPicks) : Option (List TTxn × TPicks) :=
  bd (diwanplay_Picks_Txns.lp5 fu n_v fu [] [] 0 o0_v) fun (y30_0, y30_1) =>
  some (y30_0, y30_1)
theorem diwanplay_Picks_Txns.meets (fu : Nat) (n_v : Int) (o0_v : TPicks) (z0 : List TTxn) (z1 : TPicks) (h : diwanplay_Picks_Txns fu n_v o0_v = some (z0, z1)) : Meets Try.prog ⟨11, [.ptr 1000 0, iv n_v], [[.data (.slc false none 1 (List.map e_u8 o0_v.l)), iv o0_v.n]]⟩ ⟨.data (.slc true none 4 (List.map TTxn.en z0)), [[.data (.slc false none 1 (List.map e_u8 z1.l)), iv z1.n]]⟩ := by
  refine meets_of (O := diwanplay_Picks_Txns.O) hmix (fn := Try.f11) (code := bd11) (by kernel_rfl) ?_
  refine WK.weak (l := [(.t 0, [.ptr 1000 0]), (.t 1, [iv n_v]), (.o 1000, [.data (.slc false none 1 (List.map e_u8 o0_v.l)), iv o0_v.n])]) (wk_of (by kernel_rfl)) ?_
  unfold diwanplay_Picks_Txns at h
  refine WK.rs (g := []) (l' := [(.t 0, [.ptr 1000 0]), (.t 1, [iv n_v]), (.o 1000, [.data (.slc false none 1 (List.map e_u8 o0_v.l)), iv o0_v.n])]) (by kernel_rfl) .nil (by kernel_rfl) ?_
  refine WK.rs (g := []) (l' := [(.t 0, [.ptr 1000 0]), (.t 1, [iv n_v]), (.t 5, [.data (.slc true (some true) 4 (List.map TTxn.en []))]), (.o 1000, [.data (.slc false none 1 (List.map e_u8 o0_v.l)), iv o0_v.n])]) (by kernel_rfl) .nil (by kernel_rfl) ?_
  refine WK.rs (g := []) (l' := [(.t 0, [.ptr 1000 0]), (.t 1, [iv n_v]), (.t 5, [.data (.slc true (some true) 4 (List.map TTxn.en []))]), (.t 6, [.data (.mp 1 (mpe kvS kvI []))]), (.o 1000, [.data (.slc false none 1 (List.map e_u8 o0_v.l)), iv o0_v.n])]) (by kernel_rfl) .nil (by kernel_rfl) ?_
  refine WK.seq (by kernel_rfl) ?_
  refine WK.rs (g := []) (l' := [(.t 0, [.ptr 1000 0]), (.t 1, [iv n_v]), (.t 5, [.data (.slc true (some true) 4 (List.map TTxn.en []))]), (.t 6, [.data (.mp 1 (mpe kvS kvI []))]), (.t 7, [iv 0]), (.o 1000, [.data (.slc false none 1 (List.map e_u8 o0_v.l)), iv o0_v.n])]) (by kernel_rfl) .nil (by kernel_rfl) ?_
  refine WK.block (n := 0) (by kernel_rfl) ?_
  obtain ⟨o30, ho30, h⟩ := bd_inv h
  refine WK.weak (l := [(.t 0, [.ptr 1000 0]), (.t 1, [iv n_v]), (.t 5, [.data (.slc true none 4 (List.map TTxn.en []))]), (.t 6, [.data (.mp 1 (mpe kvS kvI []))]), (.t 7, [iv 0]), (.o 1000, [.data (.slc false none 1 (List.map e_u8 o0_v.l)), iv o0_v.n])]) (wk_of (by kernel_rfl)) ?_
  refine WK.use (diwanplay_Picks_Txns.lp5_ok fu n_v _ [] [] 0 o0_v _ ho30) ?_
  intro e_ τ_ hp_
  obtain ⟨y30_0, y30_1⟩ := o30
  obtain ⟨rfl, rfl⟩ := hp_
  refine WKe.code (y := (cR (cR (cR (cR bd11))))) (ks' := []) (by kernel_rfl) ?_
  refine WK.rs (g := []) (l' := [(.t 4, [.data (.slc true none 4 (List.map TTxn.en y30_0))]), (.o 1000, [.data (.slc false none 1 (List.map e_u8 y30_1.l)), iv y30_1.n])]) (by kernel_rfl) .nil (by kernel_rfl) ?_
  refine WK.weak (l := [(.t 4, [.data (.slc true none 4 (List.map TTxn.en y30_0))]), (.o 1000, [.data (.slc false none 1 (List.map e_u8 y30_1.l)), iv y30_1.n])]) (wk_of (by kernel_rfl)) ?_
  refine WK.ret (by kernel_rfl) ?_
  have h_0 := some_inj h
  obtain ⟨g_1, h_1⟩ := Prod.mk.inj h_0
  subst g_1
  subst h_1
  exact WKe.fin (e' := .ret) (by kernel_rfl) (fin_of (g := []) (by first | exact .inl rfl | exact .inr rfl) .nil (by kernel_rfl))
end Go.Proofs.Ytknkeabmjleoiaa.Told
