/- Functions of the program told as Lean functions, with the walks of their code in the machine by value. -/
import Derived.Test.YtfhnapifgniiiaaProg
import Derived.Test.YtfhnapifgniiiaaVam2
namespace Go.Proofs.Ytfhnapifgniiiaa.Told
open Go Go.Proofs Go.Proofs.Ytfhnapifgniiiaa Go.Proofs.Ytfhnapifgniiiaa.Vam
set_option linter.unusedVariables false
set_option maxRecDepth 100000
theorem hmix : Try.prog.follows .mixedOrders = true := by kernel_rfl
structure TA5_bool where
  c0 : Bool
  c1 : Bool
  c2 : Bool
  c3 : Bool
  c4 : Bool
def TA5_bool.en (x : TA5_bool) : List DV := [.val (.bool x.c0), .val (.bool x.c1), .val (.bool x.c2), .val (.bool x.c3), .val (.bool x.c4)]
structure TRead where
  Key : ByteArray
  Version : Int
  Val : ByteArray
  There : Bool
def TRead.en (x : TRead) : List DV := [.val (.string x.Key), .val (.int .i64 x.Version), .val (.string x.Val), .val (.bool x.There)]
structure TWrite where
  Key : ByteArray
  Val : ByteArray
  Gone : Bool
def TWrite.en (x : TWrite) : List DV := [.val (.string x.Key), .val (.string x.Val), .val (.bool x.Gone)]
structure TTxn where
  Session : Int
  Seq : Int
  Reads : (List TRead)
  Writes : (List TWrite)
def TTxn.en (x : TTxn) : List DV := [.val (.int .i64 x.Session), .val (.int .i64 x.Seq), .slc false none 4 (List.map TRead.en x.Reads), .slc false none 3 (List.map TWrite.en x.Writes)]
structure TEntry where
  Term : Int
  Seal : Bool
  T : TTxn
def TEntry.en (x : TEntry) : List DV := [.val (.int .i64 x.Term), .val (.bool x.Seal), .val (.int .i64 x.T.Session), .val (.int .i64 x.T.Seq), .slc false none 4 (List.map TRead.en x.T.Reads), .slc false none 3 (List.map TWrite.en x.T.Writes)]
/-- diwan/ballot.Majority -/
noncomputable def bd13 : Code := (Try.f13.body).getD .skip
def ballot_Majority.O : Nat → Nat := fun t => bif ([2] : List Nat).any (Nat.beq t) then 1 else 0
noncomputable def ballot_Majority (n_v : Int) : Option Int :=
  some (w64 ((w64 (Int.tdiv n_v 2)) + 1))
theorem ballot_Majority.meets (n_v : Int) (z0 : Int) (h : ballot_Majority n_v = some z0) : Meets Try.prog ⟨13, [iv n_v], []⟩ ⟨iv z0, []⟩ := by
  refine meets_of (O := ballot_Majority.O) hmix (fn := Try.f13) (code := bd13) (by kernel_rfl) ?_
  refine WK.weak (l := [(.t 0, [iv n_v])]) (wk_of (by kernel_rfl)) ?_
  unfold ballot_Majority at h
  refine WK.rs (g := []) (l' := [(.t 0, [iv n_v])]) (by kernel_rfl) .nil (by kernel_rfl) ?_
  refine WK.rs (g := []) (l' := [(.t 2, [iv (w64 ((w64 (Int.tdiv n_v 2)) + 1))])]) (by kernel_rfl) (.cons (Eq.refl true) .nil) (by kernel_rfl) ?_
  refine WK.weak (l := [(.t 2, [iv (w64 ((w64 (Int.tdiv n_v 2)) + 1))])]) (wk_of (by kernel_rfl)) ?_
  refine WK.ret (by kernel_rfl) ?_
  cases some_inj h
  exact WKe.fin (e' := .ret) (by kernel_rfl) (fin_of (g := []) (by first | exact .inl rfl | exact .inr rfl) .nil (by kernel_rfl))
/-- diwan/ballot.Many -/
noncomputable def bd14 : Code := (Try.f14.body).getD .skip
def ballot_Many.O : Nat → Nat := fun t => bif ([2] : List Nat).any (Nat.beq t) then 1 else 0
noncomputable def ballot_Many.lp3 (fu : Nat) (l3_1 : List Bool) (l3_2 : Int) : Nat → Int → Int → Option Int
  | 0, _, _ => none
  | n_ + 1, l3_0, l3_3 =>
    br (decide (l3_3 < l3_2))
      (ix l3_1 l3_3 fun x6_1 =>
      br x6_1
        (ballot_Many.lp3 fu l3_1 l3_2 n_ (w64 (l3_0 + 1)) (w64 (l3_3 + 1)))
        (ballot_Many.lp3 fu l3_1 l3_2 n_ l3_0 (w64 (l3_3 + 1))))
      (some l3_0)
noncomputable def ballot_Many.lp3_post (l3_1 : List Bool) (l3_2 : Int) (r_ : Int) : Wy → St → Prop := fun e τ => match r_ with
  | y0 => e = .exit 0 ∧ τ = ofL [(.t 2, [iv y0])]
theorem ballot_Many.lp3_ok (fu : Nat) (l3_1 : List Bool) (l3_2 : Int) : ∀ (n_ : Nat) (l3_0 : Int) (l3_3 : Int) (r_ : Int), ballot_Many.lp3 fu l3_1 l3_2 n_ l3_0 l3_3 = some r_ → WK Try.prog ballot_Many.O (Ck Try.prog) (cB (cR (cL (cR bd14)))) [] (ofL [(.t 2, [iv l3_0]), (.t 5, [.data (.slc false none 1 (List.map e_b l3_1))]), (.t 6, [iv l3_2]), (.t 7, [iv l3_3])]) (ballot_Many.lp3_post l3_1 l3_2 r_) := by
  intro n_
  induction n_ with
  | zero => intro l3_0 l3_3 r_ h; exact no_none h
  | succ n_ ih =>
    intro l3_0 l3_3 r_ h
    refine WK.loop (by kernel_rfl) ?_
    refine WK.rs (g := []) (l' := [(.t 2, [iv l3_0]), (.t 5, [.data (.slc false none 1 (List.map e_b l3_1))]), (.t 6, [iv l3_2]), (.t 7, [iv l3_3]), (.t 8, [bv (decide (l3_3 < l3_2))])]) (by kernel_rfl) .nil (by kernel_rfl) ?_
    refine WK.seq (by kernel_rfl) ?_
    rcases br_inv h with ⟨b5_0, h⟩ | ⟨b5_0, h⟩
    · refine WK.ct (b := (decide (l3_3 < l3_2))) (by kernel_rfl) b5_0 ?_
      refine WK.skip (by kernel_rfl) ?_
      refine WKe.code (y := (cR (cR (cB (cB (cR (cL (cR bd14)))))))) (ks' := [.lp (cB (cR (cL (cR bd14))))]) (by kernel_rfl) ?_
      refine WK.seq (by kernel_rfl) ?_
      refine WK.block (n := 1) (by kernel_rfl) ?_
      obtain ⟨x6_1, a6_2, e6_3, h⟩ := ix_inv h
      refine WK.rs (g := [.c (e_b x6_1)]) (l' := [(.t 2, [iv l3_0]), (.t 4, [bv x6_1]), (.t 5, [.data (.slc false none 1 (List.map e_b l3_1))]), (.t 6, [iv l3_2]), (.t 7, [iv l3_3])]) (by kernel_rfl) (.cons (c_ix (e := e_b) a6_2 e6_3) (.cons (c_el (e := e_b) e6_3) .nil)) (by kernel_rfl) ?_
      refine WK.rs (g := []) (l' := [(.t 2, [iv l3_0]), (.t 5, [.data (.slc false none 1 (List.map e_b l3_1))]), (.t 6, [iv l3_2]), (.t 7, [iv l3_3]), (.t 11, [bv x6_1])]) (by kernel_rfl) .nil (by kernel_rfl) ?_
      rcases br_inv h with ⟨b8_0, h⟩ | ⟨b8_0, h⟩
      · refine WK.ct (b := x6_1) (by kernel_rfl) b8_0 ?_
        refine WK.rc (g := []) (l' := [(.t 2, [iv (w64 (l3_0 + 1))]), (.t 5, [.data (.slc false none 1 (List.map e_b l3_1))]), (.t 6, [iv l3_2]), (.t 7, [iv l3_3])]) .nil (by kernel_rfl) (y := (cR (cR (cR (cB (cB (cR (cL (cR bd14))))))))) (ks' := [.lp (cB (cR (cL (cR bd14))))]) (by kernel_rfl) ?_
        refine WK.rc (g := []) (l' := [(.t 2, [iv (w64 (l3_0 + 1))]), (.t 5, [.data (.slc false none 1 (List.map e_b l3_1))]), (.t 6, [iv l3_2]), (.t 7, [iv (w64 (l3_3 + 1))])]) .nil (by kernel_rfl) (y := (cB (cR (cL (cR bd14))))) (ks' := []) (by kernel_rfl) ?_
        exact WK.weak (l := [(.t 2, [iv (w64 (l3_0 + 1))]), (.t 5, [.data (.slc false none 1 (List.map e_b l3_1))]), (.t 6, [iv l3_2]), (.t 7, [iv (w64 (l3_3 + 1))])]) (wk_of (by kernel_rfl)) (ih (w64 (l3_0 + 1)) (w64 (l3_3 + 1)) _ h)
      · refine WK.ce (b := x6_1) (by kernel_rfl) b8_0 ?_
        refine WK.skip (by kernel_rfl) ?_
        refine WKe.code (y := (cR (cR (cR (cB (cB (cR (cL (cR bd14))))))))) (ks' := [.lp (cB (cR (cL (cR bd14))))]) (by kernel_rfl) ?_
        refine WK.rc (g := []) (l' := [(.t 2, [iv l3_0]), (.t 5, [.data (.slc false none 1 (List.map e_b l3_1))]), (.t 6, [iv l3_2]), (.t 7, [iv (w64 (l3_3 + 1))])]) .nil (by kernel_rfl) (y := (cB (cR (cL (cR bd14))))) (ks' := []) (by kernel_rfl) ?_
        exact WK.weak (l := [(.t 2, [iv l3_0]), (.t 5, [.data (.slc false none 1 (List.map e_b l3_1))]), (.t 6, [iv l3_2]), (.t 7, [iv (w64 (l3_3 + 1))])]) (wk_of (by kernel_rfl)) (ih l3_0 (w64 (l3_3 + 1)) _ h)
    · refine WK.ce (b := (decide (l3_3 < l3_2))) (by kernel_rfl) b5_0 ?_
      refine WK.weak (l := [(.t 2, [iv l3_0])]) (wk_of (by kernel_rfl)) ?_
      refine WK.exit (n := 0) (by kernel_rfl) ?_
      cases some_inj h
      exact WKe.fin (e' := .exit 0) (by kernel_rfl) ⟨rfl, rfl⟩
noncomputable def ballot_Many (fu : Nat) (votes : List Bool) : Option Int :=
  bd (ballot_Many.lp3 fu votes (votes.length : Int) fu 0 0) fun y12_0 =>
  some y12_0
theorem ballot_Many.meets (fu : Nat) (votes : List Bool) (z0 : Int) (h : ballot_Many fu votes = some z0) : Meets Try.prog ⟨14, [.data (.slc false none 1 (List.map e_b votes))], []⟩ ⟨iv z0, []⟩ := by
  refine meets_of (O := ballot_Many.O) hmix (fn := Try.f14) (code := bd14) (by kernel_rfl) ?_
  refine WK.weak (l := [(.t 0, [.data (.slc false none 1 (List.map e_b votes))])]) (wk_of (by kernel_rfl)) ?_
  unfold ballot_Many at h
  refine WK.rs (g := []) (l' := [(.t 0, [.data (.slc false none 1 (List.map e_b votes))]), (.t 2, [iv 0])]) (by kernel_rfl) .nil (by kernel_rfl) ?_
  refine WK.seq (by kernel_rfl) ?_
  refine WK.rs (g := [.s (.t 6) [iv (votes.length : Int)]]) (l' := [(.t 2, [iv 0]), (.t 5, [.data (.slc false none 1 (List.map e_b votes))]), (.t 6, [iv (votes.length : Int)]), (.t 7, [iv 0])]) (by kernel_rfl) (.cons (c_len (e := e_b) (l := votes)) .nil) (by kernel_rfl) ?_
  refine WK.block (n := 0) (by kernel_rfl) ?_
  obtain ⟨o12, ho12, h⟩ := bd_inv h
  refine WK.weak (l := [(.t 2, [iv 0]), (.t 5, [.data (.slc false none 1 (List.map e_b votes))]), (.t 6, [iv (votes.length : Int)]), (.t 7, [iv 0])]) (wk_of (by kernel_rfl)) ?_
  refine WK.use (ballot_Many.lp3_ok fu votes (votes.length : Int) _ 0 0 _ ho12) ?_
  intro e_ τ_ hp_
  obtain ⟨y12_0, rfl⟩ : ∃ y, y = o12 := ⟨_, rfl⟩
  obtain ⟨rfl, rfl⟩ := hp_
  refine WKe.code (y := (cR (cR bd14))) (ks' := []) (by kernel_rfl) ?_
  refine WK.rs (g := []) (l' := [(.t 2, [iv y12_0])]) (by kernel_rfl) .nil (by kernel_rfl) ?_
  refine WK.weak (l := [(.t 2, [iv y12_0])]) (wk_of (by kernel_rfl)) ?_
  refine WK.ret (by kernel_rfl) ?_
  cases some_inj h
  exact WKe.fin (e' := .ret) (by kernel_rfl) (fin_of (g := []) (by first | exact .inl rfl | exact .inr rfl) .nil (by kernel_rfl))
/-- slices.Clone[[]int,int] -/
noncomputable def bd22 : Code := (Try.f22.body).getD .skip
def slices_Clone_int_int.O : Nat → Nat := fun t => bif ([2, 5] : List Nat).any (Nat.beq t) then 1 else 0
noncomputable def slices_Clone_int_int (s : List Int) : Option (List Int) :=
  gd (decide (([] : List Int).length + s.length ≤ 4294967296)) <|
  some s
theorem slices_Clone_int_int.meets1 (s : List Int) (z0 : List Int) (h : slices_Clone_int_int s = some z0) : Meets Try.prog ⟨22, [.data (.slc false (some false) 1 (List.map e_i64 s))], []⟩ ⟨.data (.slc true none 1 (List.map e_i64 z0)), []⟩ := by
  refine meets_of (O := slices_Clone_int_int.O) hmix (fn := Try.f22) (code := bd22) (by kernel_rfl) ?_
  refine WK.weak (l := [(.t 0, [.data (.slc false (some false) 1 (List.map e_i64 s))])]) (wk_of (by kernel_rfl)) ?_
  unfold slices_Clone_int_int at h
  refine WK.rs (g := []) (l' := [(.t 0, [.data (.slc false (some false) 1 (List.map e_i64 s))])]) (by kernel_rfl) .nil (by kernel_rfl) ?_
  refine WK.seq (by kernel_rfl) ?_
  refine WK.rs (g := []) (l' := [(.t 0, [.data (.slc false (some false) 1 (List.map e_i64 s))]), (.t 4, [bv false])]) (by kernel_rfl) .nil (by kernel_rfl) ?_
  refine WK.ce (b := false) (by kernel_rfl) rfl ?_
  refine WK.skip (by kernel_rfl) ?_
  refine WKe.code (y := (cR (cR bd22))) (ks' := []) (by kernel_rfl) ?_
  obtain ⟨c5_1, h⟩ := gd_inv h
  refine WK.rs (g := []) (l' := [(.t 2, [.data (.slc true none 1 (List.map e_i64 s))])]) (by kernel_rfl) (.cons (c_al (e := e_i64) (f := e_i64) c5_1) .nil) (by kernel_rfl) ?_
  refine WK.weak (l := [(.t 2, [.data (.slc true none 1 (List.map e_i64 s))])]) (wk_of (by kernel_rfl)) ?_
  refine WK.ret (by kernel_rfl) ?_
  cases some_inj h
  exact WKe.fin (e' := .ret) (by kernel_rfl) (fin_of (g := []) (by first | exact .inl rfl | exact .inr rfl) .nil (by kernel_rfl))
noncomputable def slices_Clone_int_int_nil : Option (List Int) :=
  some []
theorem slices_Clone_int_int.meets0 (z0 : List Int) (h : slices_Clone_int_int_nil = some z0) : Meets Try.prog ⟨22, [.data (.slc false (some true) 1 (List.map e_i64 []))], []⟩ ⟨.data (.slc true none 1 (List.map e_i64 z0)), []⟩ := by
  refine meets_of (O := slices_Clone_int_int.O) hmix (fn := Try.f22) (code := bd22) (by kernel_rfl) ?_
  refine WK.weak (l := [(.t 0, [.data (.slc false (some true) 1 (List.map e_i64 []))])]) (wk_of (by kernel_rfl)) ?_
  unfold slices_Clone_int_int_nil at h
  refine WK.rs (g := []) (l' := [(.t 0, [.data (.slc false (some true) 1 (List.map e_i64 []))])]) (by kernel_rfl) .nil (by kernel_rfl) ?_
  refine WK.seq (by kernel_rfl) ?_
  refine WK.rs (g := []) (l' := [(.t 0, [.data (.slc false (some true) 1 (List.map e_i64 []))]), (.t 4, [bv true])]) (by kernel_rfl) .nil (by kernel_rfl) ?_
  refine WK.ct (b := true) (by kernel_rfl) rfl ?_
  refine WK.rs (g := []) (l' := [(.t 2, [.data (.slc true (some true) 1 (List.map e_i64 []))])]) (by kernel_rfl) .nil (by kernel_rfl) ?_
  refine WK.weak (l := [(.t 2, [.data (.slc true none 1 (List.map e_i64 []))])]) (wk_of (by kernel_rfl)) ?_
  refine WK.ret (by kernel_rfl) ?_
  cases some_inj h
  exact WKe.fin (e' := .ret) (by kernel_rfl) (fin_of (g := []) (by first | exact .inl rfl | exact .inr rfl) .nil (by kernel_rfl))
theorem slices_Clone_int_int.nil_eq : slices_Clone_int_int [] = slices_Clone_int_int_nil := by kernel_rfl
theorem slices_Clone_int_int.meets (s : List Int) (z0 : List Int) (h : slices_Clone_int_int s = some z0) : Meets Try.prog ⟨22, [.data (.slc false none 1 (List.map e_i64 s))], []⟩ ⟨.data (.slc true none 1 (List.map e_i64 z0)), []⟩ := by
  refine asks_ok (C := Meets Try.prog) (fun _ _ h => h) (Asks.nil (args1 := []) (args2 := []) (sz := 1) (es := List.map e_i64 s) (fun e => .of ?_) (.of (slices_Clone_int_int.meets1 s z0 h)))
  obtain rfl : s = [] := List.map_eq_nil_iff.1 e
  exact slices_Clone_int_int.meets0 z0 (slices_Clone_int_int.nil_eq  ▸ h)
/-- (diwan/ballot.heads).Len -/
noncomputable def bd24 : Code := (Try.f24.body).getD .skip
def ballot_heads_Len.O : Nat → Nat := fun t => bif ([2] : List Nat).any (Nat.beq t) then 1 else 0
noncomputable def ballot_heads_Len (h_v : List Int) : Option Int :=
  some (h_v.length : Int)
theorem ballot_heads_Len.meets (h_v : List Int) (z0 : Int) (h : ballot_heads_Len h_v = some z0) : Meets Try.prog ⟨24, [.data (.slc false none 1 (List.map e_i64 h_v))], []⟩ ⟨iv z0, []⟩ := by
  refine meets_of (O := ballot_heads_Len.O) hmix (fn := Try.f24) (code := bd24) (by kernel_rfl) ?_
  refine WK.weak (l := [(.t 0, [.data (.slc false none 1 (List.map e_i64 h_v))])]) (wk_of (by kernel_rfl)) ?_
  unfold ballot_heads_Len at h
  refine WK.rs (g := []) (l' := [(.t 0, [.data (.slc false none 1 (List.map e_i64 h_v))])]) (by kernel_rfl) .nil (by kernel_rfl) ?_
  refine WK.rs (g := [.s (.t 4) [iv (h_v.length : Int)]]) (l' := [(.t 2, [iv (h_v.length : Int)])]) (by kernel_rfl) (.cons (c_len (e := e_i64) (l := h_v)) .nil) (by kernel_rfl) ?_
  refine WK.weak (l := [(.t 2, [iv (h_v.length : Int)])]) (wk_of (by kernel_rfl)) ?_
  refine WK.ret (by kernel_rfl) ?_
  cases some_inj h
  exact WKe.fin (e' := .ret) (by kernel_rfl) (fin_of (g := []) (by first | exact .inl rfl | exact .inr rfl) .nil (by kernel_rfl))
/-- (diwan/ballot.heads).Less -/
noncomputable def bd49 : Code := (Try.f49.body).getD .skip
def ballot_heads_Less.O : Nat → Nat := fun t => bif ([6] : List Nat).any (Nat.beq t) then 1 else 0
noncomputable def ballot_heads_Less (h_v : List Int) (i : Int) (k_v : Int) : Option Bool :=
  ix h_v i fun x2_1 =>
  ix h_v k_v fun x2_4 =>
  some (decide (x2_1 > x2_4))
theorem ballot_heads_Less.meets (h_v : List Int) (i : Int) (k_v : Int) (z0 : Bool) (h : ballot_heads_Less h_v i k_v = some z0) : Meets Try.prog ⟨49, [.data (.slc false none 1 (List.map e_i64 h_v)), iv i, iv k_v], []⟩ ⟨bv z0, []⟩ := by
  refine meets_of (O := ballot_heads_Less.O) hmix (fn := Try.f49) (code := bd49) (by kernel_rfl) ?_
  refine WK.weak (l := [(.t 0, [.data (.slc false none 1 (List.map e_i64 h_v))]), (.t 1, [iv i]), (.t 2, [iv k_v])]) (wk_of (by kernel_rfl)) ?_
  unfold ballot_heads_Less at h
  refine WK.rs (g := []) (l' := [(.t 0, [.data (.slc false none 1 (List.map e_i64 h_v))]), (.t 1, [iv i]), (.t 2, [iv k_v])]) (by kernel_rfl) .nil (by kernel_rfl) ?_
  obtain ⟨x2_1, a2_2, e2_3, h⟩ := ix_inv h
  obtain ⟨x2_4, a2_5, e2_6, h⟩ := ix_inv h
  refine WK.rs (g := [.c (e_i64 x2_1), .c (e_i64 x2_4)]) (l' := [(.t 6, [bv (decide (x2_1 > x2_4))])]) (by kernel_rfl) (.cons (c_ix (e := e_i64) a2_2 e2_3) (.cons (c_el (e := e_i64) e2_3) (.cons (c_ix (e := e_i64) a2_5 e2_6) (.cons (c_el (e := e_i64) e2_6) (.cons (Eq.refl true) .nil))))) (by kernel_rfl) ?_
  refine WK.weak (l := [(.t 6, [bv (decide (x2_1 > x2_4))])]) (wk_of (by kernel_rfl)) ?_
  refine WK.ret (by kernel_rfl) ?_
  cases some_inj h
  exact WKe.fin (e' := .ret) (by kernel_rfl) (fin_of (g := []) (by first | exact .inl rfl | exact .inr rfl) .nil (by kernel_rfl))
/-- (diwan/ballot.heads).Swap -/
noncomputable def bd50 : Code := (Try.f50.body).getD .skip
def ballot_heads_Swap.O : Nat → Nat := fun t => bif ([] : List Nat).any (Nat.beq t) then 1 else 0
noncomputable def ballot_heads_Swap (i : Int) (k_v : Int) (o0_v : List Int) : Option (List Int) :=
  ix o0_v k_v fun x1_1 =>
  ix o0_v i fun x1_4 =>
  ix o0_v i fun x1_7 =>
  ix (o0_v.set i.toNat x1_1) k_v fun x1_10 =>
  some ((o0_v.set i.toNat x1_1).set k_v.toNat x1_4)
theorem ballot_heads_Swap.meets (i : Int) (k_v : Int) (o0_v : List Int) (z0 : List Int) (h : ballot_heads_Swap i k_v o0_v = some z0) : Meets Try.prog ⟨50, [.ref (.o 1000) 0 0 none, iv i, iv k_v], [[.data (.slc true none 1 (List.map e_i64 o0_v))]]⟩ ⟨.tup [], [[.data (.slc true none 1 (List.map e_i64 z0))]]⟩ := by
  refine meets_of (O := ballot_heads_Swap.O) hmix (fn := Try.f50) (code := bd50) (by kernel_rfl) ?_
  refine WK.weak (l := [(.t 0, [.ref (.o 1000) 0 0 none]), (.t 1, [iv i]), (.t 2, [iv k_v]), (.o 1000, [.data (.slc true none 1 (List.map e_i64 o0_v))])]) (wk_of (by kernel_rfl)) ?_
  unfold ballot_heads_Swap at h
  obtain ⟨x1_1, a1_2, e1_3, h⟩ := ix_inv h
  obtain ⟨x1_4, a1_5, e1_6, h⟩ := ix_inv h
  obtain ⟨x1_7, a1_8, e1_9, h⟩ := ix_inv h
  obtain ⟨x1_10, a1_11, e1_12, h⟩ := ix_inv h
  cases some_inj h
  exact WK.rf (g := [.c (e_i64 x1_1), .c (e_i64 x1_4), .c (e_i64 x1_7), .s (.o 1000) [.data (.slc true none 1 (List.map e_i64 (o0_v.set i.toNat x1_1)))], .c (e_i64 x1_10), .s (.o 1000) [.data (.slc true none 1 (List.map e_i64 ((o0_v.set i.toNat x1_1).set k_v.toNat x1_4)))]]) (.cons (c_ix (e := e_i64) a1_2 e1_3) (.cons (c_el (e := e_i64) e1_3) (.cons (c_ix (e := e_i64) a1_5 e1_6) (.cons (c_el (e := e_i64) e1_6) (.cons (c_ix (e := e_i64) a1_8 e1_9) (.cons (c_el (e := e_i64) e1_9) (.cons (congrArg (fun d : DV => [AV.data d]) (c_set (e := e_i64) (s := 1) (nl := none) (l := o0_v) (i := i.toNat) (x := x1_1))) (.cons (c_ix (e := e_i64) a1_11 e1_12) (.cons (c_el (e := e_i64) e1_12) (.cons (congrArg (fun d : DV => [AV.data d]) (c_set (e := e_i64) (s := 1) (nl := none) (l := (o0_v.set i.toNat x1_1)) (i := k_v.toNat) (x := x1_4))) (.cons (Eq.refl true) .nil))))))))))) (by kernel_rfl) (by kernel_rfl)
/-- container/heap.down -/
noncomputable def bd30 : Code := (Try.f30.body).getD .skip
def heap_down.O : Nat → Nat := fun t => bif ([6, 8, 10] : List Nat).any (Nat.beq t) then 1 else bif ([43] : List Nat).any (Nat.beq t) then 3 else 0
noncomputable def heap_down.lp3 (fu : Nat) (l3_0 : Int) (l3_1 : Int) : Nat → Int → (List Int) → Option (Int × List Int)
  | 0, _, _ => none
  | n_ + 1, l3_2, l3_3 =>
    br (decide ((w64 ((w64 (2 * l3_2)) + 1)) ≥ l3_1))
      (some (l3_2, l3_3))
      (br (decide ((w64 ((w64 (2 * l3_2)) + 1)) < 0))
        (some (l3_2, l3_3))
        (jn (fun (j12_3 : Int) =>
          bd (ballot_heads_Less l3_3 j12_3 l3_2) fun r13_1 =>
          br (!r13_1)
            (some (l3_2, l3_3))
            (bd (ballot_heads_Swap l3_2 j12_3 l3_3) fun r15_1 =>
            heap_down.lp3 fu l3_0 l3_1 n_ j12_3 r15_1)) fun k12 =>
        br (decide ((w64 ((w64 ((w64 (2 * l3_2)) + 1)) + 1)) < l3_1))
          (bd (ballot_heads_Less l3_3 (w64 ((w64 ((w64 (2 * l3_2)) + 1)) + 1)) (w64 ((w64 (2 * l3_2)) + 1))) fun r9_2 =>
          br r9_2
            (k12 (w64 ((w64 ((w64 (2 * l3_2)) + 1)) + 1)))
            (k12 (w64 ((w64 (2 * l3_2)) + 1))))
          (k12 (w64 ((w64 (2 * l3_2)) + 1)))))
noncomputable def heap_down.lp3_post (l3_0 : Int) (l3_1 : Int) (r_ : (Int × List Int)) : Wy → St → Prop := fun e τ => match r_ with
  | (y0, y1) => e = .exit 0 ∧ τ = ofL [(.t 1, [iv l3_0]), (.t 7, [iv y0]), (.o 1000, [.data (.slc true none 1 (List.map e_i64 y1))])]
theorem heap_down.lp3_ok (fu : Nat) (l3_0 : Int) (l3_1 : Int) : ∀ (n_ : Nat) (l3_2 : Int) (l3_3 : List Int) (r_ : (Int × List Int)), heap_down.lp3 fu l3_0 l3_1 n_ l3_2 l3_3 = some r_ → WK Try.prog heap_down.O (Ck Try.prog) (cB (cL (cR (cR bd30)))) [] (ofL [(.t 0, [.ifc 53 (.ptr 1000 0)]), (.t 1, [iv l3_0]), (.t 2, [iv l3_1]), (.t 7, [iv l3_2]), (.o 1000, [.data (.slc true none 1 (List.map e_i64 l3_3))])]) (heap_down.lp3_post l3_0 l3_1 r_) := by
  intro n_
  induction n_ with
  | zero => intro l3_2 l3_3 r_ h; exact no_none h
  | succ n_ ih =>
    intro l3_2 l3_3 r_ h
    refine WK.loop (by kernel_rfl) ?_
    refine WK.block (n := 1) (by kernel_rfl) ?_
    refine WK.rs (g := []) (l' := [(.t 0, [.ifc 53 (.ptr 1000 0)]), (.t 1, [iv l3_0]), (.t 2, [iv l3_1]), (.t 7, [iv l3_2]), (.t 8, [iv (w64 ((w64 (2 * l3_2)) + 1))]), (.o 1000, [.data (.slc true none 1 (List.map e_i64 l3_3))])]) (by kernel_rfl) .nil (by kernel_rfl) ?_
    refine WK.seq (by kernel_rfl) ?_
    rcases br_inv h with ⟨b5_1, h⟩ | ⟨b5_1, h⟩
    · refine WK.rs (g := [.b true, .b true, .b true]) (l' := [(.t 0, [.ifc 53 (.ptr 1000 0)]), (.t 1, [iv l3_0]), (.t 2, [iv l3_1]), (.t 7, [iv l3_2]), (.t 8, [iv (w64 ((w64 (2 * l3_2)) + 1))]), (.t 21, [bv true]), (.o 1000, [.data (.slc true none 1 (List.map e_i64 l3_3))])]) (by kernel_rfl) (.cons b5_1 (.cons b5_1 (.cons b5_1 .nil))) (by kernel_rfl) ?_
      refine WK.ct (b := true) (by kernel_rfl) rfl ?_
      refine WK.weak (l := [(.t 1, [iv l3_0]), (.t 7, [iv l3_2]), (.o 1000, [.data (.slc true none 1 (List.map e_i64 l3_3))])]) (wk_of (by kernel_rfl)) ?_
      refine WK.exit (n := 0) (by kernel_rfl) ?_
      cases some_inj h
      exact WKe.fin (e' := .exit 0) (by kernel_rfl) ⟨rfl, rfl⟩
    · refine WK.rs (g := [.b false, .b false, .b false]) (l' := [(.t 0, [.ifc 53 (.ptr 1000 0)]), (.t 1, [iv l3_0]), (.t 2, [iv l3_1]), (.t 7, [iv l3_2]), (.t 8, [iv (w64 ((w64 (2 * l3_2)) + 1))]), (.t 21, [bv (decide ((w64 ((w64 (2 * l3_2)) + 1)) < 0))]), (.o 1000, [.data (.slc true none 1 (List.map e_i64 l3_3))])]) (by kernel_rfl) (.cons b5_1 (.cons b5_1 (.cons b5_1 .nil))) (by kernel_rfl) ?_
      rcases br_inv h with ⟨b6_0, h⟩ | ⟨b6_0, h⟩
      · refine WK.ct (b := (decide ((w64 ((w64 (2 * l3_2)) + 1)) < 0))) (by kernel_rfl) b6_0 ?_
        refine WK.weak (l := [(.t 1, [iv l3_0]), (.t 7, [iv l3_2]), (.o 1000, [.data (.slc true none 1 (List.map e_i64 l3_3))])]) (wk_of (by kernel_rfl)) ?_
        refine WK.exit (n := 0) (by kernel_rfl) ?_
        cases some_inj h
        exact WKe.fin (e' := .exit 0) (by kernel_rfl) ⟨rfl, rfl⟩
      · refine WK.ce (b := (decide ((w64 ((w64 (2 * l3_2)) + 1)) < 0))) (by kernel_rfl) b6_0 ?_
        refine WK.skip (by kernel_rfl) ?_
        refine WKe.code (y := (cR (cR (cB (cB (cB (cL (cR (cR bd30))))))))) (ks' := [.blk 1, .lp (cB (cL (cR (cR bd30))))]) (by kernel_rfl) ?_
        refine WK.rs (g := []) (l' := [(.t 0, [.ifc 53 (.ptr 1000 0)]), (.t 1, [iv l3_0]), (.t 2, [iv l3_1]), (.t 7, [iv l3_2]), (.t 8, [iv (w64 ((w64 (2 * l3_2)) + 1))]), (.t 9, [iv (w64 ((w64 (2 * l3_2)) + 1))]), (.o 1000, [.data (.slc true none 1 (List.map e_i64 l3_3))])]) (by kernel_rfl) .nil (by kernel_rfl) ?_
        obtain ⟨k12, hk12, h⟩ := jn_inv h
        have Jk12 : ∀ (j12_3 : Int), k12 j12_3 = some r_ → WK Try.prog heap_down.O (Ck Try.prog) (cR (cR (cR (cR (cB (cB (cB (cL (cR (cR bd30)))))))))) [.blk 1, .lp (cB (cL (cR (cR bd30))))] (ofL [(.t 0, [.ifc 53 (.ptr 1000 0)]), (.t 1, [iv l3_0]), (.t 2, [iv l3_1]), (.t 7, [iv l3_2]), (.t 9, [iv j12_3]), (.o 1000, [.data (.slc true none 1 (List.map e_i64 l3_3))])]) (heap_down.lp3_post l3_0 l3_1 r_) := by
          intro j12_3 h
          rw [hk12] at h
          refine WK.seq (by kernel_rfl) ?_
          obtain ⟨r13_1, h13_2, h⟩ := bd_inv h
          refine WK.rs (g := [.a ⟨bv r13_1, []⟩]) (l' := [(.t 0, [.ifc 53 (.ptr 1000 0)]), (.t 1, [iv l3_0]), (.t 2, [iv l3_1]), (.t 7, [iv l3_2]), (.t 9, [iv j12_3]), (.t 39, [bv (!r13_1)]), (.o 1000, [.data (.slc true none 1 (List.map e_i64 l3_3))])]) (by kernel_rfl) (.cons (Asks.of (C := Meets Try.prog) (ballot_heads_Less.meets l3_3 j12_3 l3_2 _ h13_2)) .nil) (by kernel_rfl) ?_
          rcases br_inv h with ⟨b14_0, h⟩ | ⟨b14_0, h⟩
          · refine WK.ct (b := (!r13_1)) (by kernel_rfl) b14_0 ?_
            refine WK.weak (l := [(.t 1, [iv l3_0]), (.t 7, [iv l3_2]), (.o 1000, [.data (.slc true none 1 (List.map e_i64 l3_3))])]) (wk_of (by kernel_rfl)) ?_
            refine WK.exit (n := 0) (by kernel_rfl) ?_
            cases some_inj h
            exact WKe.fin (e' := .exit 0) (by kernel_rfl) ⟨rfl, rfl⟩
          · refine WK.ce (b := (!r13_1)) (by kernel_rfl) b14_0 ?_
            refine WK.skip (by kernel_rfl) ?_
            refine WKe.code (y := (cR (cR (cR (cR (cR (cB (cB (cB (cL (cR (cR bd30)))))))))))) (ks' := [.blk 1, .lp (cB (cL (cR (cR bd30))))]) (by kernel_rfl) ?_
            obtain ⟨r15_1, h15_2, h⟩ := bd_inv h
            refine WK.rs (g := [.a ⟨.tup [], [[.data (.slc true none 1 (List.map e_i64 r15_1))]]⟩]) (l' := [(.t 0, [.ifc 53 (.ptr 1000 0)]), (.t 1, [iv l3_0]), (.t 2, [iv l3_1]), (.t 9, [iv j12_3]), (.o 1000, [.data (.slc true none 1 (List.map e_i64 r15_1))])]) (by kernel_rfl) (.cons (Asks.of (C := Meets Try.prog) (ballot_heads_Swap.meets l3_2 j12_3 l3_3 _ h15_2)) .nil) (by kernel_rfl) ?_
            refine WK.rc (g := []) (l' := [(.t 0, [.ifc 53 (.ptr 1000 0)]), (.t 1, [iv l3_0]), (.t 2, [iv l3_1]), (.t 7, [iv j12_3]), (.o 1000, [.data (.slc true none 1 (List.map e_i64 r15_1))])]) .nil (by kernel_rfl) (y := (cB (cL (cR (cR bd30))))) (ks' := []) (by kernel_rfl) ?_
            exact WK.weak (l := [(.t 0, [.ifc 53 (.ptr 1000 0)]), (.t 1, [iv l3_0]), (.t 2, [iv l3_1]), (.t 7, [iv j12_3]), (.o 1000, [.data (.slc true none 1 (List.map e_i64 r15_1))])]) (wk_of (by kernel_rfl)) (ih j12_3 r15_1 _ h)
        clear hk12
        refine WK.seq (by kernel_rfl) ?_
        refine WK.rs (g := []) (l' := [(.t 0, [.ifc 53 (.ptr 1000 0)]), (.t 1, [iv l3_0]), (.t 2, [iv l3_1]), (.t 7, [iv l3_2]), (.t 8, [iv (w64 ((w64 (2 * l3_2)) + 1))]), (.t 9, [iv (w64 ((w64 (2 * l3_2)) + 1))]), (.t 10, [iv (w64 ((w64 ((w64 (2 * l3_2)) + 1)) + 1))]), (.o 1000, [.data (.slc true none 1 (List.map e_i64 l3_3))])]) (by kernel_rfl) .nil (by kernel_rfl) ?_
        rcases br_inv h with ⟨b9_1, h⟩ | ⟨b9_1, h⟩
        · obtain ⟨r9_2, h9_3, h⟩ := bd_inv h
          refine WK.rs (g := [.b true, .b true, .b true, .b true, .a ⟨bv r9_2, []⟩, .b true]) (l' := [(.t 0, [.ifc 53 (.ptr 1000 0)]), (.t 1, [iv l3_0]), (.t 2, [iv l3_1]), (.t 7, [iv l3_2]), (.t 9, [iv (w64 ((w64 (2 * l3_2)) + 1))]), (.t 10, [iv (w64 ((w64 ((w64 (2 * l3_2)) + 1)) + 1))]), (.t 33, [bv r9_2]), (.o 1000, [.data (.slc true none 1 (List.map e_i64 l3_3))])]) (by kernel_rfl) (.cons b9_1 (.cons b9_1 (.cons b9_1 (.cons b9_1 (.cons (Asks.of (C := Meets Try.prog) (ballot_heads_Less.meets l3_3 (w64 ((w64 ((w64 (2 * l3_2)) + 1)) + 1)) (w64 ((w64 (2 * l3_2)) + 1)) _ h9_3)) (.cons b9_1 .nil)))))) (by kernel_rfl) ?_
          rcases br_inv h with ⟨b10_0, h⟩ | ⟨b10_0, h⟩
          · refine WK.ct (b := r9_2) (by kernel_rfl) b10_0 ?_
            refine WK.rc (g := []) (l' := [(.t 0, [.ifc 53 (.ptr 1000 0)]), (.t 1, [iv l3_0]), (.t 2, [iv l3_1]), (.t 7, [iv l3_2]), (.t 9, [iv (w64 ((w64 ((w64 (2 * l3_2)) + 1)) + 1))]), (.o 1000, [.data (.slc true none 1 (List.map e_i64 l3_3))])]) .nil (by kernel_rfl) (y := (cR (cR (cR (cR (cB (cB (cB (cL (cR (cR bd30))))))))))) (ks' := [.blk 1, .lp (cB (cL (cR (cR bd30))))]) (by kernel_rfl) ?_
            exact WK.weak (l := [(.t 0, [.ifc 53 (.ptr 1000 0)]), (.t 1, [iv l3_0]), (.t 2, [iv l3_1]), (.t 7, [iv l3_2]), (.t 9, [iv (w64 ((w64 ((w64 (2 * l3_2)) + 1)) + 1))]), (.o 1000, [.data (.slc true none 1 (List.map e_i64 l3_3))])]) (wk_of (by kernel_rfl)) (Jk12 (w64 ((w64 ((w64 (2 * l3_2)) + 1)) + 1)) h)
          · refine WK.ce (b := r9_2) (by kernel_rfl) b10_0 ?_
            refine WK.skip (by kernel_rfl) ?_
            refine WKe.code (y := (cR (cR (cR (cR (cB (cB (cB (cL (cR (cR bd30))))))))))) (ks' := [.blk 1, .lp (cB (cL (cR (cR bd30))))]) (by kernel_rfl) ?_
            exact WK.weak (l := [(.t 0, [.ifc 53 (.ptr 1000 0)]), (.t 1, [iv l3_0]), (.t 2, [iv l3_1]), (.t 7, [iv l3_2]), (.t 9, [iv (w64 ((w64 (2 * l3_2)) + 1))]), (.o 1000, [.data (.slc true none 1 (List.map e_i64 l3_3))])]) (wk_of (by kernel_rfl)) (Jk12 (w64 ((w64 (2 * l3_2)) + 1)) h)
        · refine WK.rs (g := [.b false, .b false, .b false, .b false, .b false]) (l' := [(.t 0, [.ifc 53 (.ptr 1000 0)]), (.t 1, [iv l3_0]), (.t 2, [iv l3_1]), (.t 7, [iv l3_2]), (.t 9, [iv (w64 ((w64 (2 * l3_2)) + 1))]), (.t 10, [iv (w64 ((w64 ((w64 (2 * l3_2)) + 1)) + 1))]), (.t 33, [bv false]), (.o 1000, [.data (.slc true none 1 (List.map e_i64 l3_3))])]) (by kernel_rfl) (.cons b9_1 (.cons b9_1 (.cons b9_1 (.cons b9_1 (.cons b9_1 .nil))))) (by kernel_rfl) ?_
          refine WK.ce (b := false) (by kernel_rfl) rfl ?_
          refine WK.skip (by kernel_rfl) ?_
          refine WKe.code (y := (cR (cR (cR (cR (cB (cB (cB (cL (cR (cR bd30))))))))))) (ks' := [.blk 1, .lp (cB (cL (cR (cR bd30))))]) (by kernel_rfl) ?_
          exact WK.weak (l := [(.t 0, [.ifc 53 (.ptr 1000 0)]), (.t 1, [iv l3_0]), (.t 2, [iv l3_1]), (.t 7, [iv l3_2]), (.t 9, [iv (w64 ((w64 (2 * l3_2)) + 1))]), (.o 1000, [.data (.slc true none 1 (List.map e_i64 l3_3))])]) (wk_of (by kernel_rfl)) (Jk12 (w64 ((w64 (2 * l3_2)) + 1)) h)
noncomputable def heap_down (fu : Nat) (i0 : Int) (n_v : Int) (o0_v : List Int) : Option (Bool × List Int) :=
  bd (heap_down.lp3 fu i0 n_v fu i0 o0_v) fun (y17_0, y17_1) =>
  some ((decide (y17_0 > i0)), y17_1)
theorem heap_down.meets (fu : Nat) (i0 : Int) (n_v : Int) (o0_v : List Int) (z0 : Bool) (z1 : List Int) (h : heap_down fu i0 n_v o0_v = some (z0, z1)) : Meets Try.prog ⟨30, [.ifc 53 (.ptr 1000 0), iv i0, iv n_v], [[.data (.slc true none 1 (List.map e_i64 o0_v))]]⟩ ⟨bv z0, [[.data (.slc true none 1 (List.map e_i64 z1))]]⟩ := by
  refine meets_of (O := heap_down.O) hmix (fn := Try.f30) (code := bd30) (by kernel_rfl) ?_
  refine WK.weak (l := [(.t 0, [.ifc 53 (.ptr 1000 0)]), (.t 1, [iv i0]), (.t 2, [iv n_v]), (.o 1000, [.data (.slc true none 1 (List.map e_i64 o0_v))])]) (wk_of (by kernel_rfl)) ?_
  unfold heap_down at h
  refine WK.rs (g := []) (l' := [(.t 0, [.ifc 53 (.ptr 1000 0)]), (.t 1, [iv i0]), (.t 2, [iv n_v]), (.o 1000, [.data (.slc true none 1 (List.map e_i64 o0_v))])]) (by kernel_rfl) .nil (by kernel_rfl) ?_
  refine WK.rs (g := []) (l' := [(.t 0, [.ifc 53 (.ptr 1000 0)]), (.t 1, [iv i0]), (.t 2, [iv n_v]), (.t 7, [iv i0]), (.o 1000, [.data (.slc true none 1 (List.map e_i64 o0_v))])]) (by kernel_rfl) .nil (by kernel_rfl) ?_
  refine WK.seq (by kernel_rfl) ?_
  refine WK.block (n := 0) (by kernel_rfl) ?_
  obtain ⟨o17, ho17, h⟩ := bd_inv h
  refine WK.weak (l := [(.t 0, [.ifc 53 (.ptr 1000 0)]), (.t 1, [iv i0]), (.t 2, [iv n_v]), (.t 7, [iv i0]), (.o 1000, [.data (.slc true none 1 (List.map e_i64 o0_v))])]) (wk_of (by kernel_rfl)) ?_
  refine WK.use (heap_down.lp3_ok fu i0 n_v _ i0 o0_v _ ho17) ?_
  intro e_ τ_ hp_
  obtain ⟨y17_0, y17_1⟩ := o17
  obtain ⟨rfl, rfl⟩ := hp_
  refine WKe.code (y := (cR (cR (cR bd30)))) (ks' := []) (by kernel_rfl) ?_
  refine WK.rs (g := []) (l' := [(.t 6, [bv (decide (y17_0 > i0))]), (.o 1000, [.data (.slc true none 1 (List.map e_i64 y17_1))])]) (by kernel_rfl) .nil (by kernel_rfl) ?_
  refine WK.weak (l := [(.t 6, [bv (decide (y17_0 > i0))]), (.o 1000, [.data (.slc true none 1 (List.map e_i64 y17_1))])]) (wk_of (by kernel_rfl)) ?_
  refine WK.ret (by kernel_rfl) ?_
  cases some_inj h
  exact WKe.fin (e' := .ret) (by kernel_rfl) (fin_of (g := []) (by first | exact .inl rfl | exact .inr rfl) .nil (by kernel_rfl))
/-- container/heap.Init -/
noncomputable def bd23 : Code := (Try.f23.body).getD .skip
def heap_Init.O : Nat → Nat := fun t => bif ([2, 3] : List Nat).any (Nat.beq t) then 1 else 0
noncomputable def heap_Init.lp3 (fu : Nat) (l3_0 : Int) : Nat → Int → (List Int) → Option (List Int)
  | 0, _, _ => none
  | n_ + 1, l3_1, l3_2 =>
    br (decide (l3_1 ≥ 0))
      (bd (heap_down fu l3_1 l3_0 l3_2) fun (r6_1, r6_2) =>
      heap_Init.lp3 fu l3_0 n_ (w64 (l3_1 - 1)) r6_2)
      (some l3_2)
noncomputable def heap_Init.lp3_post (l3_0 : Int) (r_ : (List Int)) : Wy → St → Prop := fun e τ => match r_ with
  | y0 => e = .exit 0 ∧ τ = ofL [(.o 1000, [.data (.slc true none 1 (List.map e_i64 y0))])]
theorem heap_Init.lp3_ok (fu : Nat) (l3_0 : Int) : ∀ (n_ : Nat) (l3_1 : Int) (l3_2 : List Int) (r_ : (List Int)), heap_Init.lp3 fu l3_0 n_ l3_1 l3_2 = some r_ → WK Try.prog heap_Init.O (Ck Try.prog) (cB (cR (cR bd23))) [] (ofL [(.t 0, [.ifc 53 (.ptr 1000 0)]), (.t 2, [iv l3_0]), (.t 3, [iv l3_1]), (.o 1000, [.data (.slc true none 1 (List.map e_i64 l3_2))])]) (heap_Init.lp3_post l3_0 r_) := by
  intro n_
  induction n_ with
  | zero => intro l3_1 l3_2 r_ h; exact no_none h
  | succ n_ ih =>
    intro l3_1 l3_2 r_ h
    refine WK.loop (by kernel_rfl) ?_
    refine WK.seq (by kernel_rfl) ?_
    refine WK.rs (g := []) (l' := [(.t 0, [.ifc 53 (.ptr 1000 0)]), (.t 2, [iv l3_0]), (.t 3, [iv l3_1]), (.t 10, [bv (decide (l3_1 ≥ 0))]), (.o 1000, [.data (.slc true none 1 (List.map e_i64 l3_2))])]) (by kernel_rfl) .nil (by kernel_rfl) ?_
    rcases br_inv h with ⟨b5_0, h⟩ | ⟨b5_0, h⟩
    · refine WK.ct (b := (decide (l3_1 ≥ 0))) (by kernel_rfl) b5_0 ?_
      refine WK.skip (by kernel_rfl) ?_
      refine WKe.code (y := (cR (cB (cB (cR (cR bd23)))))) (ks' := [.lp (cB (cR (cR bd23)))]) (by kernel_rfl) ?_
      refine WK.seq (by kernel_rfl) ?_
      refine WK.block (n := 1) (by kernel_rfl) ?_
      obtain ⟨⟨r6_1, r6_2⟩, h6_3, h⟩ := bd_inv h
      refine WK.rc (g := [.a ⟨bv r6_1, [[.data (.slc true none 1 (List.map e_i64 r6_2))]]⟩]) (l' := [(.t 0, [.ifc 53 (.ptr 1000 0)]), (.t 2, [iv l3_0]), (.t 3, [iv l3_1]), (.o 1000, [.data (.slc true none 1 (List.map e_i64 r6_2))])]) (.cons (Asks.of (C := Meets Try.prog) (heap_down.meets fu l3_1 l3_0 l3_2 _ _ h6_3)) .nil) (by kernel_rfl) (y := (cR (cR (cB (cB (cR (cR bd23))))))) (ks' := [.lp (cB (cR (cR bd23)))]) (by kernel_rfl) ?_
      refine WK.rc (g := []) (l' := [(.t 0, [.ifc 53 (.ptr 1000 0)]), (.t 2, [iv l3_0]), (.t 3, [iv (w64 (l3_1 - 1))]), (.o 1000, [.data (.slc true none 1 (List.map e_i64 r6_2))])]) .nil (by kernel_rfl) (y := (cB (cR (cR bd23)))) (ks' := []) (by kernel_rfl) ?_
      exact WK.weak (l := [(.t 0, [.ifc 53 (.ptr 1000 0)]), (.t 2, [iv l3_0]), (.t 3, [iv (w64 (l3_1 - 1))]), (.o 1000, [.data (.slc true none 1 (List.map e_i64 r6_2))])]) (wk_of (by kernel_rfl)) (ih (w64 (l3_1 - 1)) r6_2 _ h)
    · refine WK.ce (b := (decide (l3_1 ≥ 0))) (by kernel_rfl) b5_0 ?_
      refine WK.weak (l := [(.o 1000, [.data (.slc true none 1 (List.map e_i64 l3_2))])]) (wk_of (by kernel_rfl)) ?_
      refine WK.exit (n := 0) (by kernel_rfl) ?_
      cases some_inj h
      exact WKe.fin (e' := .exit 0) (by kernel_rfl) ⟨rfl, rfl⟩
noncomputable def heap_Init (fu : Nat) (o0_v : List Int) : Option (List Int) :=
  bd (ballot_heads_Len o0_v) fun r1_1 =>
  bd (heap_Init.lp3 fu r1_1 fu (w64 ((w64 (Int.tdiv r1_1 2)) - 1)) o0_v) fun y8_0 =>
  some y8_0
theorem heap_Init.meets (fu : Nat) (o0_v : List Int) (z0 : List Int) (h : heap_Init fu o0_v = some z0) : Meets Try.prog ⟨23, [.ifc 53 (.ptr 1000 0)], [[.data (.slc true none 1 (List.map e_i64 o0_v))]]⟩ ⟨.tup [], [[.data (.slc true none 1 (List.map e_i64 z0))]]⟩ := by
  refine meets_of (O := heap_Init.O) hmix (fn := Try.f23) (code := bd23) (by kernel_rfl) ?_
  refine WK.weak (l := [(.t 0, [.ifc 53 (.ptr 1000 0)]), (.o 1000, [.data (.slc true none 1 (List.map e_i64 o0_v))])]) (wk_of (by kernel_rfl)) ?_
  unfold heap_Init at h
  obtain ⟨r1_1, h1_2, h⟩ := bd_inv h
  refine WK.rs (g := [.a ⟨iv r1_1, []⟩]) (l' := [(.t 0, [.ifc 53 (.ptr 1000 0)]), (.t 2, [iv r1_1]), (.o 1000, [.data (.slc true none 1 (List.map e_i64 o0_v))])]) (by kernel_rfl) (.cons (Asks.of (C := Meets Try.prog) (ballot_heads_Len.meets o0_v _ h1_2)) .nil) (by kernel_rfl) ?_
  refine WK.rs (g := []) (l' := [(.t 0, [.ifc 53 (.ptr 1000 0)]), (.t 2, [iv r1_1]), (.t 3, [iv (w64 ((w64 (Int.tdiv r1_1 2)) - 1))]), (.o 1000, [.data (.slc true none 1 (List.map e_i64 o0_v))])]) (by kernel_rfl) (.cons (Eq.refl true) .nil) (by kernel_rfl) ?_
  refine WK.block (n := 0) (by kernel_rfl) ?_
  obtain ⟨o8, ho8, h⟩ := bd_inv h
  refine WK.weak (l := [(.t 0, [.ifc 53 (.ptr 1000 0)]), (.t 2, [iv r1_1]), (.t 3, [iv (w64 ((w64 (Int.tdiv r1_1 2)) - 1))]), (.o 1000, [.data (.slc true none 1 (List.map e_i64 o0_v))])]) (wk_of (by kernel_rfl)) ?_
  refine WK.use (heap_Init.lp3_ok fu r1_1 _ (w64 ((w64 (Int.tdiv r1_1 2)) - 1)) o0_v _ ho8) ?_
  intro e_ τ_ hp_
  obtain ⟨y8_0, rfl⟩ : ∃ y, y = o8 := ⟨_, rfl⟩
  obtain ⟨rfl, rfl⟩ := hp_
  cases some_inj h
  exact WKe.fin (e' := .normal) (by kernel_rfl) (fin_of (g := []) (by first | exact .inl rfl | exact .inr rfl) .nil (by kernel_rfl))
/-- (*diwan/ballot.heads).Pop -/
noncomputable def bd51 : Code := (Try.f51.body).getD .skip
def ballot_heads_Pop.O : Nat → Nat := fun t => bif ([2, 3, 19] : List Nat).any (Nat.beq t) then 1 else 0
noncomputable def ballot_heads_Pop (o0_v : List Int) : Option (Int × List Int) :=
  ix o0_v (w64 ((o0_v.length : Int) - 1)) fun x3_1 =>
  gd (decide ((0 : Int) ≤ (w64 ((o0_v.length : Int) - 1)) ∧ (w64 ((o0_v.length : Int) - 1)) ≤ (o0_v.length : Int))) <|
  some (x3_1, (List.take (w64 ((o0_v.length : Int) - 1)).toNat o0_v))
theorem ballot_heads_Pop.meets (o0_v : List Int) (z0 : Int) (z1 : List Int) (h : ballot_heads_Pop o0_v = some (z0, z1)) : Meets Try.prog ⟨51, [.ptr 1000 0], [[.data (.slc true none 1 (List.map e_i64 o0_v))]]⟩ ⟨.ifc 3 (iv z0), [[.data (.slc true none 1 (List.map e_i64 z1))]]⟩ := by
  refine meets_of (O := ballot_heads_Pop.O) hmix (fn := Try.f51) (code := bd51) (by kernel_rfl) ?_
  refine WK.weak (l := [(.t 0, [.ptr 1000 0]), (.o 1000, [.data (.slc true none 1 (List.map e_i64 o0_v))])]) (wk_of (by kernel_rfl)) ?_
  unfold ballot_heads_Pop at h
  refine WK.rs (g := []) (l' := [(.t 0, [.ptr 1000 0]), (.o 1000, [.data (.slc true none 1 (List.map e_i64 o0_v))])]) (by kernel_rfl) .nil (by kernel_rfl) ?_
  refine WK.rs (g := []) (l' := [(.t 0, [.ptr 1000 0]), (.t 3, [.data (.slc true none 1 (List.map e_i64 o0_v))]), (.o 1000, [.dead])]) (by kernel_rfl) .nil (by kernel_rfl) ?_
  obtain ⟨x3_1, a3_2, e3_3, h⟩ := ix_inv h
  refine WK.rs (g := [.s (.t 10) [iv (o0_v.length : Int)], .c (e_i64 x3_1)]) (l' := [(.t 0, [.ptr 1000 0]), (.t 3, [.data (.slc true none 1 (List.map e_i64 o0_v))]), (.t 4, [iv x3_1]), (.o 1000, [.dead])]) (by kernel_rfl) (.cons (c_len (e := e_i64) (l := o0_v)) (.cons (c_ix (e := e_i64) a3_2 e3_3) (.cons (c_el (e := e_i64) e3_3) .nil))) (by kernel_rfl) ?_
  obtain ⟨c4_1, h⟩ := gd_inv h
  refine WK.rs (g := [.s (.t 17) [iv (o0_v.length : Int)], .s (.t 19) [.data (.slc true none 1 (List.map e_i64 (List.take (w64 ((o0_v.length : Int) - 1)).toNat o0_v)))]]) (l' := [(.t 4, [iv x3_1]), (.o 1000, [.data (.slc true none 1 (List.map e_i64 (List.take (w64 ((o0_v.length : Int) - 1)).toNat o0_v)))])]) (by kernel_rfl) (.cons (c_len (e := e_i64) (l := o0_v)) (.cons (c_cbH (e := e_i64) c4_1) (.cons (congrArg (fun d : DV => [AV.data d]) (c_cutH (own := true) (nl := none) (s := 1) (e := e_i64) (l := o0_v) (h := (w64 ((o0_v.length : Int) - 1)).toNat))) .nil))) (by kernel_rfl) ?_
  refine WK.rs (g := []) (l' := [(.t 2, [.ifc 3 (iv x3_1)]), (.o 1000, [.data (.slc true none 1 (List.map e_i64 (List.take (w64 ((o0_v.length : Int) - 1)).toNat o0_v)))])]) (by kernel_rfl) .nil (by kernel_rfl) ?_
  refine WK.weak (l := [(.t 2, [.ifc 3 (iv x3_1)]), (.o 1000, [.data (.slc true none 1 (List.map e_i64 (List.take (w64 ((o0_v.length : Int) - 1)).toNat o0_v)))])]) (wk_of (by kernel_rfl)) ?_
  refine WK.ret (by kernel_rfl) ?_
  cases some_inj h
  exact WKe.fin (e' := .ret) (by kernel_rfl) (fin_of (g := []) (by first | exact .inl rfl | exact .inr rfl) .nil (by kernel_rfl))
/-- container/heap.Pop -/
noncomputable def bd25 : Code := (Try.f25.body).getD .skip
def heap_Pop.O : Nat → Nat := fun t => bif ([2, 3] : List Nat).any (Nat.beq t) then 1 else bif ([9] : List Nat).any (Nat.beq t) then 3 else 0
noncomputable def heap_Pop (fu : Nat) (o0_v : List Int) : Option (Int × List Int) :=
  bd (ballot_heads_Len o0_v) fun r2_1 =>
  bd (ballot_heads_Swap 0 (w64 (r2_1 - 1)) o0_v) fun r3_1 =>
  bd (heap_down fu 0 (w64 (r2_1 - 1)) r3_1) fun (r4_1, r4_2) =>
  bd (ballot_heads_Pop r4_2) fun (r5_1, r5_2) =>
  some (r5_1, r5_2)
theorem heap_Pop.meets (fu : Nat) (o0_v : List Int) (z0 : Int) (z1 : List Int) (h : heap_Pop fu o0_v = some (z0, z1)) : Meets Try.prog ⟨25, [.ifc 53 (.ptr 1000 0)], [[.data (.slc true none 1 (List.map e_i64 o0_v))]]⟩ ⟨.ifc 3 (iv z0), [[.data (.slc true none 1 (List.map e_i64 z1))]]⟩ := by
  refine meets_of (O := heap_Pop.O) hmix (fn := Try.f25) (code := bd25) (by kernel_rfl) ?_
  refine WK.weak (l := [(.t 0, [.ifc 53 (.ptr 1000 0)]), (.o 1000, [.data (.slc true none 1 (List.map e_i64 o0_v))])]) (wk_of (by kernel_rfl)) ?_
  unfold heap_Pop at h
  refine WK.rs (g := []) (l' := [(.t 0, [.ifc 53 (.ptr 1000 0)]), (.o 1000, [.data (.slc true none 1 (List.map e_i64 o0_v))])]) (by kernel_rfl) .nil (by kernel_rfl) ?_
  obtain ⟨r2_1, h2_2, h⟩ := bd_inv h
  refine WK.rs (g := [.a ⟨iv r2_1, []⟩]) (l' := [(.t 0, [.ifc 53 (.ptr 1000 0)]), (.t 3, [iv (w64 (r2_1 - 1))]), (.o 1000, [.data (.slc true none 1 (List.map e_i64 o0_v))])]) (by kernel_rfl) (.cons (Asks.of (C := Meets Try.prog) (ballot_heads_Len.meets o0_v _ h2_2)) .nil) (by kernel_rfl) ?_
  obtain ⟨r3_1, h3_2, h⟩ := bd_inv h
  refine WK.rs (g := [.a ⟨.tup [], [[.data (.slc true none 1 (List.map e_i64 r3_1))]]⟩]) (l' := [(.t 0, [.ifc 53 (.ptr 1000 0)]), (.t 3, [iv (w64 (r2_1 - 1))]), (.o 1000, [.data (.slc true none 1 (List.map e_i64 r3_1))])]) (by kernel_rfl) (.cons (Asks.of (C := Meets Try.prog) (ballot_heads_Swap.meets 0 (w64 (r2_1 - 1)) o0_v _ h3_2)) .nil) (by kernel_rfl) ?_
  obtain ⟨⟨r4_1, r4_2⟩, h4_3, h⟩ := bd_inv h
  refine WK.rs (g := [.a ⟨bv r4_1, [[.data (.slc true none 1 (List.map e_i64 r4_2))]]⟩]) (l' := [(.t 0, [.ifc 53 (.ptr 1000 0)]), (.o 1000, [.data (.slc true none 1 (List.map e_i64 r4_2))])]) (by kernel_rfl) (.cons (Asks.of (C := Meets Try.prog) (heap_down.meets fu 0 (w64 (r2_1 - 1)) r3_1 _ _ h4_3)) .nil) (by kernel_rfl) ?_
  obtain ⟨⟨r5_1, r5_2⟩, h5_3, h⟩ := bd_inv h
  refine WK.rs (g := [.a ⟨.ifc 3 (iv r5_1), [[.data (.slc true none 1 (List.map e_i64 r5_2))]]⟩]) (l' := [(.t 2, [.ifc 3 (iv r5_1)]), (.o 1000, [.data (.slc true none 1 (List.map e_i64 r5_2))])]) (by kernel_rfl) (.cons (Asks.of (C := Meets Try.prog) (ballot_heads_Pop.meets r4_2 _ _ h5_3)) .nil) (by kernel_rfl) ?_
  refine WK.weak (l := [(.t 2, [.ifc 3 (iv r5_1)]), (.o 1000, [.data (.slc true none 1 (List.map e_i64 r5_2))])]) (wk_of (by kernel_rfl)) ?_
  refine WK.ret (by kernel_rfl) ?_
  cases some_inj h
  exact WKe.fin (e' := .ret) (by kernel_rfl) (fin_of (g := []) (by first | exact .inl rfl | exact .inr rfl) .nil (by kernel_rfl))
/-- diwan/ballot.Most -/
noncomputable def bd16 : Code := (Try.f16.body).getD .skip
def ballot_Most.O : Nat → Nat := fun t => bif ([2, 3, 4, 6] : List Nat).any (Nat.beq t) then 1 else 0
noncomputable def ballot_Most.lp5 (fu : Nat) (l5_0 : List Int) : Nat → Int → Int → (List Int) → Option Int
  | 0, _, _, _ => none
  | n_ + 1, l5_1, l5_2, l5_3 =>
    bd (ballot_Majority (l5_0.length : Int)) fun r6_1 =>
    br (decide (l5_2 < r6_1))
      (bd (ballot_heads_Len l5_3) fun r6_4 =>
      br (decide (r6_4 > 0))
        (bd (heap_Pop fu l5_3) fun (r8_1, r8_2) =>
        ballot_Most.lp5 fu l5_0 n_ (if r8_1 < 0 then 0 else r8_1) (w64 (l5_2 + 1)) r8_2)
        (some l5_1))
      (some l5_1)
noncomputable def ballot_Most.lp5_post (l5_0 : List Int) (r_ : Int) : Wy → St → Prop := fun e τ => match r_ with
  | y0 => e = .exit 0 ∧ τ = ofL [(.t 2, [iv y0])]
theorem ballot_Most.lp5_ok (fu : Nat) (l5_0 : List Int) : ∀ (n_ : Nat) (l5_1 : Int) (l5_2 : Int) (l5_3 : List Int) (r_ : Int), ballot_Most.lp5 fu l5_0 n_ l5_1 l5_2 l5_3 = some r_ → WK Try.prog ballot_Most.O (Ck Try.prog) (cB (cR (cL (cR (cR (cR bd16)))))) [] (ofL [(.t 0, [.data (.slc false none 1 (List.map e_i64 l5_0))]), (.t 2, [iv l5_1]), (.t 3, [.ptr 3 0]), (.t 4, [iv l5_2]), (.o 3, [.data (.slc true none 1 (List.map e_i64 l5_3))])]) (ballot_Most.lp5_post l5_0 r_) := by
  intro n_
  induction n_ with
  | zero => intro l5_1 l5_2 l5_3 r_ h; exact no_none h
  | succ n_ ih =>
    intro l5_1 l5_2 l5_3 r_ h
    refine WK.loop (by kernel_rfl) ?_
    refine WK.seq (by kernel_rfl) ?_
    obtain ⟨r6_1, h6_2, h⟩ := bd_inv h
    rcases br_inv h with ⟨b6_3, h⟩ | ⟨b6_3, h⟩
    · obtain ⟨r6_4, h6_5, h⟩ := bd_inv h
      refine WK.rs (g := [.s (.t 11) [iv (l5_0.length : Int)], .a ⟨iv r6_1, []⟩, .b true, .b true, .a ⟨iv r6_4, []⟩, .b true, .b true]) (l' := [(.t 0, [.data (.slc false none 1 (List.map e_i64 l5_0))]), (.t 2, [iv l5_1]), (.t 3, [.ptr 3 0]), (.t 4, [iv l5_2]), (.t 18, [bv (decide (r6_4 > 0))]), (.o 3, [.data (.slc true none 1 (List.map e_i64 l5_3))])]) (by kernel_rfl) (.cons (c_len (e := e_i64) (l := l5_0)) (.cons (Asks.of (C := Meets Try.prog) (ballot_Majority.meets (l5_0.length : Int) _ h6_2)) (.cons b6_3 (.cons b6_3 (.cons (Asks.of (C := Meets Try.prog) (ballot_heads_Len.meets l5_3 _ h6_5)) (.cons b6_3 (.cons b6_3 .nil))))))) (by kernel_rfl) ?_
      rcases br_inv h with ⟨b7_0, h⟩ | ⟨b7_0, h⟩
      · refine WK.ct (b := (decide (r6_4 > 0))) (by kernel_rfl) b7_0 ?_
        refine WK.skip (by kernel_rfl) ?_
        refine WKe.code (y := (cR (cB (cB (cR (cL (cR (cR (cR bd16))))))))) (ks' := [.lp (cB (cR (cL (cR (cR (cR bd16))))))]) (by kernel_rfl) ?_
        refine WK.seq (by kernel_rfl) ?_
        refine WK.block (n := 1) (by kernel_rfl) ?_
        obtain ⟨⟨r8_1, r8_2⟩, h8_3, h⟩ := bd_inv h
        refine WK.rc (g := [.a ⟨.ifc 3 (iv r8_1), [[.data (.slc true none 1 (List.map e_i64 r8_2))]]⟩]) (l' := [(.t 0, [.data (.slc false none 1 (List.map e_i64 l5_0))]), (.t 2, [iv (if r8_1 < 0 then 0 else r8_1)]), (.t 3, [.ptr 3 0]), (.t 4, [iv l5_2]), (.o 3, [.data (.slc true none 1 (List.map e_i64 r8_2))])]) (.cons (Asks.of (C := Meets Try.prog) (heap_Pop.meets fu l5_3 _ _ h8_3)) .nil) (by kernel_rfl) (y := (cR (cR (cB (cB (cR (cL (cR (cR (cR bd16)))))))))) (ks' := [.lp (cB (cR (cL (cR (cR (cR bd16))))))]) (by kernel_rfl) ?_
        refine WK.rc (g := []) (l' := [(.t 0, [.data (.slc false none 1 (List.map e_i64 l5_0))]), (.t 2, [iv (if r8_1 < 0 then 0 else r8_1)]), (.t 3, [.ptr 3 0]), (.t 4, [iv (w64 (l5_2 + 1))]), (.o 3, [.data (.slc true none 1 (List.map e_i64 r8_2))])]) .nil (by kernel_rfl) (y := (cB (cR (cL (cR (cR (cR bd16))))))) (ks' := []) (by kernel_rfl) ?_
        exact WK.weak (l := [(.t 0, [.data (.slc false none 1 (List.map e_i64 l5_0))]), (.t 2, [iv (if r8_1 < 0 then 0 else r8_1)]), (.t 3, [.ptr 3 0]), (.t 4, [iv (w64 (l5_2 + 1))]), (.o 3, [.data (.slc true none 1 (List.map e_i64 r8_2))])]) (wk_of (by kernel_rfl)) (ih (if r8_1 < 0 then 0 else r8_1) (w64 (l5_2 + 1)) r8_2 _ h)
      · refine WK.ce (b := (decide (r6_4 > 0))) (by kernel_rfl) b7_0 ?_
        refine WK.weak (l := [(.t 2, [iv l5_1])]) (wk_of (by kernel_rfl)) ?_
        refine WK.exit (n := 0) (by kernel_rfl) ?_
        cases some_inj h
        exact WKe.fin (e' := .exit 0) (by kernel_rfl) ⟨rfl, rfl⟩
    · refine WK.rs (g := [.s (.t 11) [iv (l5_0.length : Int)], .a ⟨iv r6_1, []⟩, .b false, .b false, .b false, .b false]) (l' := [(.t 0, [.data (.slc false none 1 (List.map e_i64 l5_0))]), (.t 2, [iv l5_1]), (.t 3, [.ptr 3 0]), (.t 4, [iv l5_2]), (.t 18, [bv false]), (.o 3, [.data (.slc true none 1 (List.map e_i64 l5_3))])]) (by kernel_rfl) (.cons (c_len (e := e_i64) (l := l5_0)) (.cons (Asks.of (C := Meets Try.prog) (ballot_Majority.meets (l5_0.length : Int) _ h6_2)) (.cons b6_3 (.cons b6_3 (.cons b6_3 (.cons b6_3 .nil)))))) (by kernel_rfl) ?_
      refine WK.ce (b := false) (by kernel_rfl) rfl ?_
      refine WK.weak (l := [(.t 2, [iv l5_1])]) (wk_of (by kernel_rfl)) ?_
      refine WK.exit (n := 0) (by kernel_rfl) ?_
      cases some_inj h
      exact WKe.fin (e' := .exit 0) (by kernel_rfl) ⟨rfl, rfl⟩
noncomputable def ballot_Most (fu : Nat) (match_v : List Int) : Option Int :=
  bd (slices_Clone_int_int match_v) fun r2_1 =>
  bd (heap_Init fu r2_1) fun r3_1 =>
  bd (ballot_Most.lp5 fu match_v fu 0 0 r3_1) fun y10_0 =>
  some y10_0
theorem ballot_Most.meets (fu : Nat) (match_v : List Int) (z0 : Int) (h : ballot_Most fu match_v = some z0) : Meets Try.prog ⟨16, [.data (.slc false none 1 (List.map e_i64 match_v))], []⟩ ⟨iv z0, []⟩ := by
  refine meets_of (O := ballot_Most.O) hmix (fn := Try.f16) (code := bd16) (by kernel_rfl) ?_
  refine WK.weak (l := [(.t 0, [.data (.slc false none 1 (List.map e_i64 match_v))])]) (wk_of (by kernel_rfl)) ?_
  unfold ballot_Most at h
  refine WK.rs (g := []) (l' := [(.t 0, [.data (.slc false none 1 (List.map e_i64 match_v))]), (.t 2, [iv 0])]) (by kernel_rfl) .nil (by kernel_rfl) ?_
  obtain ⟨r2_1, h2_2, h⟩ := bd_inv h
  refine WK.rs (g := [.a ⟨.data (.slc true none 1 (List.map e_i64 r2_1)), []⟩]) (l' := [(.t 0, [.data (.slc false none 1 (List.map e_i64 match_v))]), (.t 2, [iv 0]), (.t 3, [.ptr 3 0]), (.o 3, [.data (.slc true none 1 (List.map e_i64 r2_1))])]) (by kernel_rfl) (.cons (Asks.of (C := Meets Try.prog) (slices_Clone_int_int.meets match_v _ h2_2)) .nil) (by kernel_rfl) ?_
  obtain ⟨r3_1, h3_2, h⟩ := bd_inv h
  refine WK.rs (g := [.a ⟨.tup [], [[.data (.slc true none 1 (List.map e_i64 r3_1))]]⟩]) (l' := [(.t 0, [.data (.slc false none 1 (List.map e_i64 match_v))]), (.t 2, [iv 0]), (.t 3, [.ptr 3 0]), (.o 3, [.data (.slc true none 1 (List.map e_i64 r3_1))])]) (by kernel_rfl) (.cons (Asks.of (C := Meets Try.prog) (heap_Init.meets fu r2_1 _ h3_2)) .nil) (by kernel_rfl) ?_
  refine WK.seq (by kernel_rfl) ?_
  refine WK.rs (g := []) (l' := [(.t 0, [.data (.slc false none 1 (List.map e_i64 match_v))]), (.t 2, [iv 0]), (.t 3, [.ptr 3 0]), (.t 4, [iv 0]), (.o 3, [.data (.slc true none 1 (List.map e_i64 r3_1))])]) (by kernel_rfl) .nil (by kernel_rfl) ?_
  refine WK.block (n := 0) (by kernel_rfl) ?_
  obtain ⟨o10, ho10, h⟩ := bd_inv h
  refine WK.weak (l := [(.t 0, [.data (.slc false none 1 (List.map e_i64 match_v))]), (.t 2, [iv 0]), (.t 3, [.ptr 3 0]), (.t 4, [iv 0]), (.o 3, [.data (.slc true none 1 (List.map e_i64 r3_1))])]) (wk_of (by kernel_rfl)) ?_
  refine WK.use (ballot_Most.lp5_ok fu match_v _ 0 0 r3_1 _ ho10) ?_
  intro e_ τ_ hp_
  obtain ⟨y10_0, rfl⟩ : ∃ y, y = o10 := ⟨_, rfl⟩
  obtain ⟨rfl, rfl⟩ := hp_
  refine WKe.code (y := (cR (cR (cR (cR bd16))))) (ks' := []) (by kernel_rfl) ?_
  refine WK.rs (g := []) (l' := [(.t 2, [iv y10_0])]) (by kernel_rfl) .nil (by kernel_rfl) ?_
  refine WK.weak (l := [(.t 2, [iv y10_0])]) (wk_of (by kernel_rfl)) ?_
  refine WK.ret (by kernel_rfl) ?_
  cases some_inj h
  exact WKe.fin (e' := .ret) (by kernel_rfl) (fin_of (g := []) (by first | exact .inl rfl | exact .inr rfl) .nil (by kernel_rfl))
/-- (diwan/ulog.entries).term -/
noncomputable def bd29 : Code := (Try.f29.body).getD .skip
def ulog_entries_term.O : Nat → Nat := fun t => bif ([4] : List Nat).any (Nat.beq t) then 1 else 0
noncomputable def ulog_entries_term (l : List TEntry) (i : Int) : Option Int :=
  br (decide (i < 1))
    (some 0)
    (br (decide (i > (l.length : Int)))
      (some 0)
      (ix l (w64 (i - 1)) fun x6_1 =>
      some x6_1.Term))
theorem ulog_entries_term.meets (l : List TEntry) (i : Int) (z0 : Int) (h : ulog_entries_term l i = some z0) : Meets Try.prog ⟨29, [.data (.slc false none 6 (List.map TEntry.en l)), iv i], []⟩ ⟨iv z0, []⟩ := by
  refine meets_of (O := ulog_entries_term.O) hmix (fn := Try.f29) (code := bd29) (by kernel_rfl) ?_
  refine WK.weak (l := [(.t 0, [.data (.slc false none 6 (List.map TEntry.en l))]), (.t 1, [iv i])]) (wk_of (by kernel_rfl)) ?_
  unfold ulog_entries_term at h
  refine WK.rs (g := []) (l' := [(.t 0, [.data (.slc false none 6 (List.map TEntry.en l))]), (.t 1, [iv i])]) (by kernel_rfl) .nil (by kernel_rfl) ?_
  refine WK.seq (by kernel_rfl) ?_
  rcases br_inv h with ⟨b2_1, h⟩ | ⟨b2_1, h⟩
  · refine WK.rs (g := [.b true, .b true, .b true, .b true, .b true]) (l' := [(.t 0, [.data (.slc false none 6 (List.map TEntry.en l))]), (.t 1, [iv i]), (.t 12, [bv true])]) (by kernel_rfl) (.cons b2_1 (.cons b2_1 (.cons b2_1 (.cons b2_1 (.cons b2_1 .nil))))) (by kernel_rfl) ?_
    refine WK.ct (b := true) (by kernel_rfl) rfl ?_
    refine WK.rs (g := []) (l' := [(.t 4, [iv 0])]) (by kernel_rfl) .nil (by kernel_rfl) ?_
    refine WK.weak (l := [(.t 4, [iv 0])]) (wk_of (by kernel_rfl)) ?_
    refine WK.ret (by kernel_rfl) ?_
    cases some_inj h
    exact WKe.fin (e' := .ret) (by kernel_rfl) (fin_of (g := []) (by first | exact .inl rfl | exact .inr rfl) .nil (by kernel_rfl))
  · refine WK.rs (g := [.b false, .b false, .b false, .s (.t 10) [iv (l.length : Int)], .b false, .b false]) (l' := [(.t 0, [.data (.slc false none 6 (List.map TEntry.en l))]), (.t 1, [iv i]), (.t 12, [bv (decide (i > (l.length : Int)))])]) (by kernel_rfl) (.cons b2_1 (.cons b2_1 (.cons b2_1 (.cons (c_len (e := TEntry.en) (l := l)) (.cons b2_1 (.cons b2_1 .nil)))))) (by kernel_rfl) ?_
    rcases br_inv h with ⟨b4_0, h⟩ | ⟨b4_0, h⟩
    · refine WK.ct (b := (decide (i > (l.length : Int)))) (by kernel_rfl) b4_0 ?_
      refine WK.rs (g := []) (l' := [(.t 4, [iv 0])]) (by kernel_rfl) .nil (by kernel_rfl) ?_
      refine WK.weak (l := [(.t 4, [iv 0])]) (wk_of (by kernel_rfl)) ?_
      refine WK.ret (by kernel_rfl) ?_
      cases some_inj h
      exact WKe.fin (e' := .ret) (by kernel_rfl) (fin_of (g := []) (by first | exact .inl rfl | exact .inr rfl) .nil (by kernel_rfl))
    · refine WK.ce (b := (decide (i > (l.length : Int)))) (by kernel_rfl) b4_0 ?_
      refine WK.skip (by kernel_rfl) ?_
      refine WKe.code (y := (cR (cR bd29))) (ks' := []) (by kernel_rfl) ?_
      obtain ⟨x6_1, a6_2, e6_3, h⟩ := ix_inv h
      refine WK.rs (g := [.c (TEntry.en x6_1)]) (l' := [(.t 4, [iv x6_1.Term])]) (by kernel_rfl) (.cons (c_ix (e := TEntry.en) a6_2 e6_3) (.cons (c_el (e := TEntry.en) e6_3) .nil)) (by kernel_rfl) ?_
      refine WK.weak (l := [(.t 4, [iv x6_1.Term])]) (wk_of (by kernel_rfl)) ?_
      refine WK.ret (by kernel_rfl) ?_
      cases some_inj h
      exact WKe.fin (e' := .ret) (by kernel_rfl) (fin_of (g := []) (by first | exact .inl rfl | exact .inr rfl) .nil (by kernel_rfl))
/-- diwan/ulog.Term -/
noncomputable def bd21 : Code := (Try.f21.body).getD .skip
def ulog_Term.O : Nat → Nat := fun t => bif ([4, 5] : List Nat).any (Nat.beq t) then 1 else 0
noncomputable def ulog_Term (l : List TEntry) (i : Int) : Option Int :=
  bd (ulog_entries_term l i) fun r3_1 =>
  some r3_1
theorem ulog_Term.meets (l : List TEntry) (i : Int) (z0 : Int) (h : ulog_Term l i = some z0) : Meets Try.prog ⟨21, [.data (.slc false none 6 (List.map TEntry.en l)), iv i], []⟩ ⟨iv z0, []⟩ := by
  refine meets_of (O := ulog_Term.O) hmix (fn := Try.f21) (code := bd21) (by kernel_rfl) ?_
  refine WK.weak (l := [(.t 0, [.data (.slc false none 6 (List.map TEntry.en l))]), (.t 1, [iv i])]) (wk_of (by kernel_rfl)) ?_
  unfold ulog_Term at h
  refine WK.rs (g := []) (l' := [(.t 0, [.data (.slc false none 6 (List.map TEntry.en l))]), (.t 1, [iv i])]) (by kernel_rfl) .nil (by kernel_rfl) ?_
  refine WK.rs (g := []) (l' := [(.t 0, [.data (.slc false none 6 (List.map TEntry.en l))]), (.t 1, [iv i]), (.t 5, [.fn (.func 29) [] []])]) (by kernel_rfl) .nil (by kernel_rfl) ?_
  obtain ⟨r3_1, h3_2, h⟩ := bd_inv h
  refine WK.rs (g := [.a ⟨iv r3_1, []⟩]) (l' := [(.t 4, [iv r3_1])]) (by kernel_rfl) (.cons (Asks.of (C := Meets Try.prog) (ulog_entries_term.meets l i _ h3_2)) .nil) (by kernel_rfl) ?_
  refine WK.weak (l := [(.t 4, [iv r3_1])]) (wk_of (by kernel_rfl)) ?_
  refine WK.ret (by kernel_rfl) ?_
  cases some_inj h
  exact WKe.fin (e' := .ret) (by kernel_rfl) (fin_of (g := []) (by first | exact .inl rfl | exact .inr rfl) .nil (by kernel_rfl))
/-- diwan/ballot.Next -/
noncomputable def bd11 : Code := (Try.f11.body).getD .skip
def ballot_Next.O : Nat → Nat := fun t => bif ([8, 9] : List Nat).any (Nat.beq t) then 1 else 0
noncomputable def ballot_Next (fu : Nat) (match_v : List Int) (l : List TEntry) (term : Int) (commit : Int) : Option Int :=
  bd (ballot_Most fu match_v) fun r2_1 =>
  br (decide (r2_1 > commit))
    (br (decide (r2_1 ≤ (l.length : Int)))
      (bd (ulog_Term l r2_1) fun r3_3 =>
      br (r3_3 == term)
        (some r2_1)
        (some commit))
      (some commit))
    (some commit)
theorem ballot_Next.meets (fu : Nat) (match_v : List Int) (l : List TEntry) (term : Int) (commit : Int) (z0 : Int) (h : ballot_Next fu match_v l term commit = some z0) : Meets Try.prog ⟨11, [.data (.slc false none 1 (List.map e_i64 match_v)), .data (.slc false none 6 (List.map TEntry.en l)), iv term, iv commit], []⟩ ⟨iv z0, []⟩ := by
  refine meets_of (O := ballot_Next.O) hmix (fn := Try.f11) (code := bd11) (by kernel_rfl) ?_
  refine WK.weak (l := [(.t 0, [.data (.slc false none 1 (List.map e_i64 match_v))]), (.t 1, [.data (.slc false none 6 (List.map TEntry.en l))]), (.t 2, [iv term]), (.t 3, [iv commit])]) (wk_of (by kernel_rfl)) ?_
  unfold ballot_Next at h
  refine WK.rs (g := []) (l' := [(.t 0, [.data (.slc false none 1 (List.map e_i64 match_v))]), (.t 1, [.data (.slc false none 6 (List.map TEntry.en l))]), (.t 2, [iv term]), (.t 3, [iv commit])]) (by kernel_rfl) .nil (by kernel_rfl) ?_
  refine WK.seq (by kernel_rfl) ?_
  obtain ⟨r2_1, h2_2, h⟩ := bd_inv h
  refine WK.rs (g := [.a ⟨iv r2_1, []⟩]) (l' := [(.t 1, [.data (.slc false none 6 (List.map TEntry.en l))]), (.t 2, [iv term]), (.t 3, [iv commit]), (.t 9, [iv r2_1])]) (by kernel_rfl) (.cons (Asks.of (C := Meets Try.prog) (ballot_Most.meets fu match_v _ h2_2)) .nil) (by kernel_rfl) ?_
  rcases br_inv h with ⟨b3_1, h⟩ | ⟨b3_1, h⟩
  · rcases br_inv h with ⟨b3_2, h⟩ | ⟨b3_2, h⟩
    · obtain ⟨r3_3, h3_4, h⟩ := bd_inv h
      refine WK.rs (g := [.b true, .b true, .b true, .s (.t 18) [iv (l.length : Int)], .b true, .b true, .b true, .b true, .b true, .a ⟨iv r3_3, []⟩, .b true, .b true, .b true]) (l' := [(.t 3, [iv commit]), (.t 9, [iv r2_1]), (.t 27, [bv (r3_3 == term)])]) (by kernel_rfl) (.cons b3_1 (.cons b3_1 (.cons b3_1 (.cons (c_len (e := TEntry.en) (l := l)) (.cons b3_1 (.cons b3_1 (.cons b3_2 (.cons b3_2 (.cons b3_2 (.cons (Asks.of (C := Meets Try.prog) (ulog_Term.meets l r2_1 _ h3_4)) (.cons b3_2 (.cons b3_2 (.cons b3_2 .nil))))))))))))) (by kernel_rfl) ?_
      rcases br_inv h with ⟨b4_0, h⟩ | ⟨b4_0, h⟩
      · refine WK.ct (b := (r3_3 == term)) (by kernel_rfl) b4_0 ?_
        refine WK.rs (g := []) (l' := [(.t 8, [iv r2_1])]) (by kernel_rfl) .nil (by kernel_rfl) ?_
        refine WK.weak (l := [(.t 8, [iv r2_1])]) (wk_of (by kernel_rfl)) ?_
        refine WK.ret (by kernel_rfl) ?_
        cases some_inj h
        exact WKe.fin (e' := .ret) (by kernel_rfl) (fin_of (g := []) (by first | exact .inl rfl | exact .inr rfl) .nil (by kernel_rfl))
      · refine WK.ce (b := (r3_3 == term)) (by kernel_rfl) b4_0 ?_
        refine WK.skip (by kernel_rfl) ?_
        refine WKe.code (y := (cR (cR bd11))) (ks' := []) (by kernel_rfl) ?_
        refine WK.rs (g := []) (l' := [(.t 8, [iv commit])]) (by kernel_rfl) .nil (by kernel_rfl) ?_
        refine WK.weak (l := [(.t 8, [iv commit])]) (wk_of (by kernel_rfl)) ?_
        refine WK.ret (by kernel_rfl) ?_
        cases some_inj h
        exact WKe.fin (e' := .ret) (by kernel_rfl) (fin_of (g := []) (by first | exact .inl rfl | exact .inr rfl) .nil (by kernel_rfl))
    · refine WK.rs (g := [.b true, .b true, .b true, .s (.t 18) [iv (l.length : Int)], .b true, .b true, .b false, .b false, .b false, .b false, .b false, .b false]) (l' := [(.t 3, [iv commit]), (.t 9, [iv r2_1]), (.t 27, [bv false])]) (by kernel_rfl) (.cons b3_1 (.cons b3_1 (.cons b3_1 (.cons (c_len (e := TEntry.en) (l := l)) (.cons b3_1 (.cons b3_1 (.cons b3_2 (.cons b3_2 (.cons b3_2 (.cons b3_2 (.cons b3_2 (.cons b3_2 .nil)))))))))))) (by kernel_rfl) ?_
      refine WK.ce (b := false) (by kernel_rfl) rfl ?_
      refine WK.skip (by kernel_rfl) ?_
      refine WKe.code (y := (cR (cR bd11))) (ks' := []) (by kernel_rfl) ?_
      refine WK.rs (g := []) (l' := [(.t 8, [iv commit])]) (by kernel_rfl) .nil (by kernel_rfl) ?_
      refine WK.weak (l := [(.t 8, [iv commit])]) (wk_of (by kernel_rfl)) ?_
      refine WK.ret (by kernel_rfl) ?_
      cases some_inj h
      exact WKe.fin (e' := .ret) (by kernel_rfl) (fin_of (g := []) (by first | exact .inl rfl | exact .inr rfl) .nil (by kernel_rfl))
  · refine WK.rs (g := [.b false, .b false, .b false, .b false, .b false, .b false, .b false, .b false, .b false, .b false, .b false]) (l' := [(.t 3, [iv commit]), (.t 9, [iv r2_1]), (.t 27, [bv false])]) (by kernel_rfl) (.cons b3_1 (.cons b3_1 (.cons b3_1 (.cons b3_1 (.cons b3_1 (.cons (Eq.refl false) (.cons (Eq.refl false) (.cons (Eq.refl false) (.cons (Eq.refl false) (.cons (Eq.refl false) (.cons (Eq.refl false) .nil))))))))))) (by kernel_rfl) ?_
    refine WK.ce (b := false) (by kernel_rfl) rfl ?_
    refine WK.skip (by kernel_rfl) ?_
    refine WKe.code (y := (cR (cR bd11))) (ks' := []) (by kernel_rfl) ?_
    refine WK.rs (g := []) (l' := [(.t 8, [iv commit])]) (by kernel_rfl) .nil (by kernel_rfl) ?_
    refine WK.weak (l := [(.t 8, [iv commit])]) (wk_of (by kernel_rfl)) ?_
    refine WK.ret (by kernel_rfl) ?_
    cases some_inj h
    exact WKe.fin (e' := .ret) (by kernel_rfl) (fin_of (g := []) (by first | exact .inl rfl | exact .inr rfl) .nil (by kernel_rfl))
/-- diwan/diwanlaw10.begun -/
noncomputable def bd8 : Code := (Try.f8.body).getD .skip
def diwanlaw10_begun.O : Nat → Nat := fun t => bif ([0, 1, 2, 3, 4, 12, 17, 22, 28] : List Nat).any (Nat.beq t) then 1 else 0
noncomputable def diwanlaw10_begun (fu : Nat) : Option Bool :=
  bd (ballot_Majority 5) fun r3_1 =>
  br (r3_1 == 3)
    (bd (ballot_Majority 4) fun r3_4 =>
    br (r3_4 == 3)
      (bd (ballot_Many fu ([true, false, true] : List Bool)) fun r3_7 =>
      br (r3_7 == 2)
        (bd (ballot_Most fu ([1, 2, 2] : List Int)) fun r3_10 =>
        br (r3_10 == 2)
          (bd (ballot_Next fu ([2, 2, 0] : List Int) ([(TEntry.mk 1 true (TTxn.mk 0 0 [] [])), (TEntry.mk 2 true (TTxn.mk 0 0 [] []))] : List TEntry) 2 1) fun r3_13 =>
          br (r3_13 == 2)
            (bd (ballot_Next fu ([1, 1, 0] : List Int) ([(TEntry.mk 1 true (TTxn.mk 0 0 [] [])), (TEntry.mk 2 true (TTxn.mk 0 0 [] []))] : List TEntry) 2 0) fun r3_16 =>
            some (r3_16 == 0))
            (some false))
          (some false))
        (some false))
      (some false))
    (some false)
theorem diwanlaw10_begun.meets (fu : Nat) (z0 : Bool) (h : diwanlaw10_begun fu = some z0) : Meets Try.prog ⟨8, [], []⟩ ⟨bv z0, []⟩ := by
  refine meets_of (O := diwanlaw10_begun.O) hmix (fn := Try.f8) (code := bd8) (by kernel_rfl) ?_
  refine WK.weak (l := []) (wk_of (by kernel_rfl)) ?_
  unfold diwanlaw10_begun at h
  refine WK.rs (g := []) (l' := []) (by kernel_rfl) .nil (by kernel_rfl) ?_
  refine WK.rs (g := []) (l' := [(.t 1, [.data (.slc true (some false) 6 (List.map TEntry.en ([(TEntry.mk 1 true (TTxn.mk 0 0 [] [])), (TEntry.mk 2 true (TTxn.mk 0 0 [] []))] : List TEntry)))])]) (by kernel_rfl) .nil (by kernel_rfl) ?_
  obtain ⟨r3_1, h3_2, h⟩ := bd_inv h
  rcases br_inv h with ⟨b3_3, h⟩ | ⟨b3_3, h⟩
  · obtain ⟨r3_4, h3_5, h⟩ := bd_inv h
    rcases br_inv h with ⟨b3_6, h⟩ | ⟨b3_6, h⟩
    · obtain ⟨r3_7, h3_8, h⟩ := bd_inv h
      rcases br_inv h with ⟨b3_9, h⟩ | ⟨b3_9, h⟩
      · obtain ⟨r3_10, h3_11, h⟩ := bd_inv h
        rcases br_inv h with ⟨b3_12, h⟩ | ⟨b3_12, h⟩
        · obtain ⟨r3_13, h3_14, h⟩ := bd_inv h
          rcases br_inv h with ⟨b3_15, h⟩ | ⟨b3_15, h⟩
          · obtain ⟨r3_16, h3_17, h⟩ := bd_inv h
            refine WK.rs (g := [.a ⟨iv r3_1, []⟩, .b true, .a ⟨iv r3_4, []⟩, .b true, .b true, .b true, .b true, .a ⟨iv r3_7, []⟩, .b true, .b true, .b true, .b true, .a ⟨iv r3_10, []⟩, .b true, .b true, .b true, .b true, .b true, .a ⟨iv r3_13, []⟩, .b true, .b true, .b true, .b true, .b true, .a ⟨iv r3_16, []⟩, .b true, .b true]) (l' := [(.t 0, [bv (r3_16 == 0)])]) (by kernel_rfl) (.cons (Asks.of (C := Meets Try.prog) (ballot_Majority.meets 5 _ h3_2)) (.cons b3_3 (.cons (Asks.of (C := Meets Try.prog) (ballot_Majority.meets 4 _ h3_5)) (.cons b3_3 (.cons b3_3 (.cons b3_6 (.cons b3_6 (.cons (Asks.fg (args1 := []) (args2 := []) (nl := some false) (sz := 1) (es := List.map e_b ([true, false, true] : List Bool)) (Asks.of (C := Meets Try.prog) (ballot_Many.meets fu ([true, false, true] : List Bool) _ h3_8))) (.cons b3_6 (.cons b3_6 (.cons b3_9 (.cons b3_9 (.cons (Asks.fg (args1 := []) (args2 := []) (nl := some false) (sz := 1) (es := List.map e_i64 ([1, 2, 2] : List Int)) (Asks.of (C := Meets Try.prog) (ballot_Most.meets fu ([1, 2, 2] : List Int) _ h3_11))) (.cons b3_9 (.cons b3_9 (.cons b3_12 (.cons b3_12 (.cons b3_12 (.cons (Asks.fg (args1 := [.data (.slc false (some false) 1 (List.map e_i64 ([2, 2, 0] : List Int)))]) (args2 := [iv 2, iv 1]) (nl := some false) (sz := 6) (es := List.map TEntry.en ([(TEntry.mk 1 true (TTxn.mk 0 0 [] [])), (TEntry.mk 2 true (TTxn.mk 0 0 [] []))] : List TEntry)) (Asks.fg (args1 := []) (args2 := [.data (.slc false none 6 (List.map TEntry.en ([(TEntry.mk 1 true (TTxn.mk 0 0 [] [])), (TEntry.mk 2 true (TTxn.mk 0 0 [] []))] : List TEntry))), iv 2, iv 1]) (nl := some false) (sz := 1) (es := List.map e_i64 ([2, 2, 0] : List Int)) (Asks.of (C := Meets Try.prog) (ballot_Next.meets fu ([2, 2, 0] : List Int) ([(TEntry.mk 1 true (TTxn.mk 0 0 [] [])), (TEntry.mk 2 true (TTxn.mk 0 0 [] []))] : List TEntry) 2 1 _ h3_14)))) (.cons b3_12 (.cons b3_12 (.cons b3_15 (.cons b3_15 (.cons b3_15 (.cons (Asks.fg (args1 := [.data (.slc false (some false) 1 (List.map e_i64 ([1, 1, 0] : List Int)))]) (args2 := [iv 2, iv 0]) (nl := some false) (sz := 6) (es := List.map TEntry.en ([(TEntry.mk 1 true (TTxn.mk 0 0 [] [])), (TEntry.mk 2 true (TTxn.mk 0 0 [] []))] : List TEntry)) (Asks.fg (args1 := []) (args2 := [.data (.slc false none 6 (List.map TEntry.en ([(TEntry.mk 1 true (TTxn.mk 0 0 [] [])), (TEntry.mk 2 true (TTxn.mk 0 0 [] []))] : List TEntry))), iv 2, iv 0]) (nl := some false) (sz := 1) (es := List.map e_i64 ([1, 1, 0] : List Int)) (Asks.of (C := Meets Try.prog) (ballot_Next.meets fu ([1, 1, 0] : List Int) ([(TEntry.mk 1 true (TTxn.mk 0 0 [] [])), (TEntry.mk 2 true (TTxn.mk 0 0 [] []))] : List TEntry) 2 0 _ h3_17)))) (.cons b3_15 (.cons b3_15 .nil))))))))))))))))))))))))))) (by kernel_rfl) ?_
            refine WK.weak (l := [(.t 0, [bv (r3_16 == 0)])]) (wk_of (by kernel_rfl)) ?_
            refine WK.ret (by kernel_rfl) ?_
            cases some_inj h
            exact WKe.fin (e' := .ret) (by kernel_rfl) (fin_of (g := []) (by first | exact .inl rfl | exact .inr rfl) .nil (by kernel_rfl))
          · refine WK.rs (g := [.a ⟨iv r3_1, []⟩, .b true, .a ⟨iv r3_4, []⟩, .b true, .b true, .b true, .b true, .a ⟨iv r3_7, []⟩, .b true, .b true, .b true, .b true, .a ⟨iv r3_10, []⟩, .b true, .b true, .b true, .b true, .b true, .a ⟨iv r3_13, []⟩, .b true, .b true, .b false, .b false, .b false, .b false, .b false]) (l' := [(.t 0, [bv false])]) (by kernel_rfl) (.cons (Asks.of (C := Meets Try.prog) (ballot_Majority.meets 5 _ h3_2)) (.cons b3_3 (.cons (Asks.of (C := Meets Try.prog) (ballot_Majority.meets 4 _ h3_5)) (.cons b3_3 (.cons b3_3 (.cons b3_6 (.cons b3_6 (.cons (Asks.fg (args1 := []) (args2 := []) (nl := some false) (sz := 1) (es := List.map e_b ([true, false, true] : List Bool)) (Asks.of (C := Meets Try.prog) (ballot_Many.meets fu ([true, false, true] : List Bool) _ h3_8))) (.cons b3_6 (.cons b3_6 (.cons b3_9 (.cons b3_9 (.cons (Asks.fg (args1 := []) (args2 := []) (nl := some false) (sz := 1) (es := List.map e_i64 ([1, 2, 2] : List Int)) (Asks.of (C := Meets Try.prog) (ballot_Most.meets fu ([1, 2, 2] : List Int) _ h3_11))) (.cons b3_9 (.cons b3_9 (.cons b3_12 (.cons b3_12 (.cons b3_12 (.cons (Asks.fg (args1 := [.data (.slc false (some false) 1 (List.map e_i64 ([2, 2, 0] : List Int)))]) (args2 := [iv 2, iv 1]) (nl := some false) (sz := 6) (es := List.map TEntry.en ([(TEntry.mk 1 true (TTxn.mk 0 0 [] [])), (TEntry.mk 2 true (TTxn.mk 0 0 [] []))] : List TEntry)) (Asks.fg (args1 := []) (args2 := [.data (.slc false none 6 (List.map TEntry.en ([(TEntry.mk 1 true (TTxn.mk 0 0 [] [])), (TEntry.mk 2 true (TTxn.mk 0 0 [] []))] : List TEntry))), iv 2, iv 1]) (nl := some false) (sz := 1) (es := List.map e_i64 ([2, 2, 0] : List Int)) (Asks.of (C := Meets Try.prog) (ballot_Next.meets fu ([2, 2, 0] : List Int) ([(TEntry.mk 1 true (TTxn.mk 0 0 [] [])), (TEntry.mk 2 true (TTxn.mk 0 0 [] []))] : List TEntry) 2 1 _ h3_14)))) (.cons b3_12 (.cons b3_12 (.cons b3_15 (.cons b3_15 (.cons b3_15 (.cons b3_15 (.cons b3_15 .nil)))))))))))))))))))))))))) (by kernel_rfl) ?_
            refine WK.weak (l := [(.t 0, [bv false])]) (wk_of (by kernel_rfl)) ?_
            refine WK.ret (by kernel_rfl) ?_
            cases some_inj h
            exact WKe.fin (e' := .ret) (by kernel_rfl) (fin_of (g := []) (by first | exact .inl rfl | exact .inr rfl) .nil (by kernel_rfl))
        · refine WK.rs (g := [.a ⟨iv r3_1, []⟩, .b true, .a ⟨iv r3_4, []⟩, .b true, .b true, .b true, .b true, .a ⟨iv r3_7, []⟩, .b true, .b true, .b true, .b true, .a ⟨iv r3_10, []⟩, .b true, .b true, .b false, .b false, .b false, .b false, .b false, .b false, .b false, .b false, .b false, .b false]) (l' := [(.t 0, [bv false])]) (by kernel_rfl) (.cons (Asks.of (C := Meets Try.prog) (ballot_Majority.meets 5 _ h3_2)) (.cons b3_3 (.cons (Asks.of (C := Meets Try.prog) (ballot_Majority.meets 4 _ h3_5)) (.cons b3_3 (.cons b3_3 (.cons b3_6 (.cons b3_6 (.cons (Asks.fg (args1 := []) (args2 := []) (nl := some false) (sz := 1) (es := List.map e_b ([true, false, true] : List Bool)) (Asks.of (C := Meets Try.prog) (ballot_Many.meets fu ([true, false, true] : List Bool) _ h3_8))) (.cons b3_6 (.cons b3_6 (.cons b3_9 (.cons b3_9 (.cons (Asks.fg (args1 := []) (args2 := []) (nl := some false) (sz := 1) (es := List.map e_i64 ([1, 2, 2] : List Int)) (Asks.of (C := Meets Try.prog) (ballot_Most.meets fu ([1, 2, 2] : List Int) _ h3_11))) (.cons b3_9 (.cons b3_9 (.cons b3_12 (.cons b3_12 (.cons b3_12 (.cons b3_12 (.cons b3_12 (.cons (Eq.refl false) (.cons (Eq.refl false) (.cons (Eq.refl false) (.cons (Eq.refl false) (.cons (Eq.refl false) .nil))))))))))))))))))))))))) (by kernel_rfl) ?_
          refine WK.weak (l := [(.t 0, [bv false])]) (wk_of (by kernel_rfl)) ?_
          refine WK.ret (by kernel_rfl) ?_
          cases some_inj h
          exact WKe.fin (e' := .ret) (by kernel_rfl) (fin_of (g := []) (by first | exact .inl rfl | exact .inr rfl) .nil (by kernel_rfl))
      · refine WK.rs (g := [.a ⟨iv r3_1, []⟩, .b true, .a ⟨iv r3_4, []⟩, .b true, .b true, .b true, .b true, .a ⟨iv r3_7, []⟩, .b true, .b true, .b false, .b false, .b false, .b false, .b false, .b false, .b false, .b false, .b false, .b false, .b false, .b false, .b false, .b false]) (l' := [(.t 0, [bv false])]) (by kernel_rfl) (.cons (Asks.of (C := Meets Try.prog) (ballot_Majority.meets 5 _ h3_2)) (.cons b3_3 (.cons (Asks.of (C := Meets Try.prog) (ballot_Majority.meets 4 _ h3_5)) (.cons b3_3 (.cons b3_3 (.cons b3_6 (.cons b3_6 (.cons (Asks.fg (args1 := []) (args2 := []) (nl := some false) (sz := 1) (es := List.map e_b ([true, false, true] : List Bool)) (Asks.of (C := Meets Try.prog) (ballot_Many.meets fu ([true, false, true] : List Bool) _ h3_8))) (.cons b3_6 (.cons b3_6 (.cons b3_9 (.cons b3_9 (.cons b3_9 (.cons b3_9 (.cons (Eq.refl false) (.cons (Eq.refl false) (.cons (Eq.refl false) (.cons (Eq.refl false) (.cons (Eq.refl false) (.cons (Eq.refl false) (.cons (Eq.refl false) (.cons (Eq.refl false) (.cons (Eq.refl false) (.cons (Eq.refl false) .nil)))))))))))))))))))))))) (by kernel_rfl) ?_
        refine WK.weak (l := [(.t 0, [bv false])]) (wk_of (by kernel_rfl)) ?_
        refine WK.ret (by kernel_rfl) ?_
        cases some_inj h
        exact WKe.fin (e' := .ret) (by kernel_rfl) (fin_of (g := []) (by first | exact .inl rfl | exact .inr rfl) .nil (by kernel_rfl))
    · refine WK.rs (g := [.a ⟨iv r3_1, []⟩, .b true, .a ⟨iv r3_4, []⟩, .b true, .b true, .b false, .b false, .b false, .b false, .b false, .b false, .b false, .b false, .b false, .b false, .b false, .b false, .b false, .b false, .b false, .b false, .b false, .b false]) (l' := [(.t 0, [bv false])]) (by kernel_rfl) (.cons (Asks.of (C := Meets Try.prog) (ballot_Majority.meets 5 _ h3_2)) (.cons b3_3 (.cons (Asks.of (C := Meets Try.prog) (ballot_Majority.meets 4 _ h3_5)) (.cons b3_3 (.cons b3_3 (.cons b3_6 (.cons b3_6 (.cons b3_6 (.cons b3_6 (.cons (Eq.refl false) (.cons (Eq.refl false) (.cons (Eq.refl false) (.cons (Eq.refl false) (.cons (Eq.refl false) (.cons (Eq.refl false) (.cons (Eq.refl false) (.cons (Eq.refl false) (.cons (Eq.refl false) (.cons (Eq.refl false) (.cons (Eq.refl false) (.cons (Eq.refl false) (.cons (Eq.refl false) (.cons (Eq.refl false) .nil))))))))))))))))))))))) (by kernel_rfl) ?_
      refine WK.weak (l := [(.t 0, [bv false])]) (wk_of (by kernel_rfl)) ?_
      refine WK.ret (by kernel_rfl) ?_
      cases some_inj h
      exact WKe.fin (e' := .ret) (by kernel_rfl) (fin_of (g := []) (by first | exact .inl rfl | exact .inr rfl) .nil (by kernel_rfl))
  · refine WK.rs (g := [.a ⟨iv r3_1, []⟩, .b false, .b false, .b false, .b false, .b false, .b false, .b false, .b false, .b false, .b false, .b false, .b false, .b false, .b false, .b false, .b false, .b false, .b false, .b false, .b false, .b false]) (l' := [(.t 0, [bv false])]) (by kernel_rfl) (.cons (Asks.of (C := Meets Try.prog) (ballot_Majority.meets 5 _ h3_2)) (.cons b3_3 (.cons b3_3 (.cons b3_3 (.cons (Eq.refl false) (.cons (Eq.refl false) (.cons (Eq.refl false) (.cons (Eq.refl false) (.cons (Eq.refl false) (.cons (Eq.refl false) (.cons (Eq.refl false) (.cons (Eq.refl false) (.cons (Eq.refl false) (.cons (Eq.refl false) (.cons (Eq.refl false) (.cons (Eq.refl false) (.cons (Eq.refl false) (.cons (Eq.refl false) (.cons (Eq.refl false) (.cons (Eq.refl false) (.cons (Eq.refl false) (.cons (Eq.refl false) .nil)))))))))))))))))))))) (by kernel_rfl) ?_
    refine WK.weak (l := [(.t 0, [bv false])]) (wk_of (by kernel_rfl)) ?_
    refine WK.ret (by kernel_rfl) ?_
    cases some_inj h
    exact WKe.fin (e' := .ret) (by kernel_rfl) (fin_of (g := []) (by first | exact .inl rfl | exact .inr rfl) .nil (by kernel_rfl))
/-- diwan/diwanlaw10.BallotMeet -/
noncomputable def bd4 : Code := (Try.f4.body).getD .skip
def diwanlaw10_BallotMeet.O : Nat → Nat := fun t => bif ([3, 4, 6, 7, 8, 9, 10, 11, 12] : List Nat).any (Nat.beq t) then 1 else 0
noncomputable def diwanlaw10_BallotMeet.lp8 (fu : Nat) (l8_0 : Bool) (l8_1 : Bool) (l8_2 : Bool) (l8_3 : Bool) (l8_4 : Bool) (l8_5 : Bool) (l8_6 : Bool) (l8_7 : Bool) (l8_8 : Bool) (l8_9 : Bool) (l8_10 : Int) (l8_11 : Int) (l8_12 : Int) : Nat → Int → Int → Option Int
  | 0, _, _ => none
  | n_ + 1, l8_13, l8_14 =>
    br (decide (l8_14 < l8_10))
      (br (l8_14 == 0)
        (br l8_0
          (br l8_5
            (diwanlaw10_BallotMeet.lp8 fu l8_0 l8_1 l8_2 l8_3 l8_4 l8_5 l8_6 l8_7 l8_8 l8_9 l8_10 l8_11 l8_12 n_ (w64 (l8_13 + 1)) (w64 (l8_14 + 1)))
            (diwanlaw10_BallotMeet.lp8 fu l8_0 l8_1 l8_2 l8_3 l8_4 l8_5 l8_6 l8_7 l8_8 l8_9 l8_10 l8_11 l8_12 n_ l8_13 (w64 (l8_14 + 1))))
          (diwanlaw10_BallotMeet.lp8 fu l8_0 l8_1 l8_2 l8_3 l8_4 l8_5 l8_6 l8_7 l8_8 l8_9 l8_10 l8_11 l8_12 n_ l8_13 (w64 (l8_14 + 1))))
        (br (l8_14 == 1)
          (br l8_1
            (br l8_6
              (diwanlaw10_BallotMeet.lp8 fu l8_0 l8_1 l8_2 l8_3 l8_4 l8_5 l8_6 l8_7 l8_8 l8_9 l8_10 l8_11 l8_12 n_ (w64 (l8_13 + 1)) (w64 (l8_14 + 1)))
              (diwanlaw10_BallotMeet.lp8 fu l8_0 l8_1 l8_2 l8_3 l8_4 l8_5 l8_6 l8_7 l8_8 l8_9 l8_10 l8_11 l8_12 n_ l8_13 (w64 (l8_14 + 1))))
            (diwanlaw10_BallotMeet.lp8 fu l8_0 l8_1 l8_2 l8_3 l8_4 l8_5 l8_6 l8_7 l8_8 l8_9 l8_10 l8_11 l8_12 n_ l8_13 (w64 (l8_14 + 1))))
          (br (l8_14 == 2)
            (br l8_2
              (br l8_7
                (diwanlaw10_BallotMeet.lp8 fu l8_0 l8_1 l8_2 l8_3 l8_4 l8_5 l8_6 l8_7 l8_8 l8_9 l8_10 l8_11 l8_12 n_ (w64 (l8_13 + 1)) (w64 (l8_14 + 1)))
                (diwanlaw10_BallotMeet.lp8 fu l8_0 l8_1 l8_2 l8_3 l8_4 l8_5 l8_6 l8_7 l8_8 l8_9 l8_10 l8_11 l8_12 n_ l8_13 (w64 (l8_14 + 1))))
              (diwanlaw10_BallotMeet.lp8 fu l8_0 l8_1 l8_2 l8_3 l8_4 l8_5 l8_6 l8_7 l8_8 l8_9 l8_10 l8_11 l8_12 n_ l8_13 (w64 (l8_14 + 1))))
            (br (l8_14 == 3)
              (br l8_3
                (br l8_8
                  (diwanlaw10_BallotMeet.lp8 fu l8_0 l8_1 l8_2 l8_3 l8_4 l8_5 l8_6 l8_7 l8_8 l8_9 l8_10 l8_11 l8_12 n_ (w64 (l8_13 + 1)) (w64 (l8_14 + 1)))
                  (diwanlaw10_BallotMeet.lp8 fu l8_0 l8_1 l8_2 l8_3 l8_4 l8_5 l8_6 l8_7 l8_8 l8_9 l8_10 l8_11 l8_12 n_ l8_13 (w64 (l8_14 + 1))))
                (diwanlaw10_BallotMeet.lp8 fu l8_0 l8_1 l8_2 l8_3 l8_4 l8_5 l8_6 l8_7 l8_8 l8_9 l8_10 l8_11 l8_12 n_ l8_13 (w64 (l8_14 + 1))))
              (br (l8_14 == 4)
                (br l8_4
                  (br l8_9
                    (diwanlaw10_BallotMeet.lp8 fu l8_0 l8_1 l8_2 l8_3 l8_4 l8_5 l8_6 l8_7 l8_8 l8_9 l8_10 l8_11 l8_12 n_ (w64 (l8_13 + 1)) (w64 (l8_14 + 1)))
                    (diwanlaw10_BallotMeet.lp8 fu l8_0 l8_1 l8_2 l8_3 l8_4 l8_5 l8_6 l8_7 l8_8 l8_9 l8_10 l8_11 l8_12 n_ l8_13 (w64 (l8_14 + 1))))
                  (diwanlaw10_BallotMeet.lp8 fu l8_0 l8_1 l8_2 l8_3 l8_4 l8_5 l8_6 l8_7 l8_8 l8_9 l8_10 l8_11 l8_12 n_ l8_13 (w64 (l8_14 + 1))))
                (none))))))
      (some l8_13)
noncomputable def diwanlaw10_BallotMeet.lp8_post (l8_0 : Bool) (l8_1 : Bool) (l8_2 : Bool) (l8_3 : Bool) (l8_4 : Bool) (l8_5 : Bool) (l8_6 : Bool) (l8_7 : Bool) (l8_8 : Bool) (l8_9 : Bool) (l8_10 : Int) (l8_11 : Int) (l8_12 : Int) (r_ : Int) : Wy → St → Prop := fun e τ => match r_ with
  | y0 => e = .exit 0 ∧ τ = ofL [(.t 7, [iv l8_10]), (.t 8, [iv l8_11]), (.t 9, [iv l8_12]), (.t 10, [iv y0])]
theorem diwanlaw10_BallotMeet.lp8_ok (fu : Nat) (l8_0 : Bool) (l8_1 : Bool) (l8_2 : Bool) (l8_3 : Bool) (l8_4 : Bool) (l8_5 : Bool) (l8_6 : Bool) (l8_7 : Bool) (l8_8 : Bool) (l8_9 : Bool) (l8_10 : Int) (l8_11 : Int) (l8_12 : Int) : ∀ (n_ : Nat) (l8_13 : Int) (l8_14 : Int) (r_ : Int), diwanlaw10_BallotMeet.lp8 fu l8_0 l8_1 l8_2 l8_3 l8_4 l8_5 l8_6 l8_7 l8_8 l8_9 l8_10 l8_11 l8_12 n_ l8_13 l8_14 = some r_ → WK Try.prog diwanlaw10_BallotMeet.O (Ck Try.prog) (cB (cR (cL (cR (cR (cR (cR bd4))))))) [] (ofL [(.t 3, [.cptr [.val (.bool l8_0), .val (.bool l8_1), .val (.bool l8_2), .val (.bool l8_3), .val (.bool l8_4)]]), (.t 4, [.cptr [.val (.bool l8_5), .val (.bool l8_6), .val (.bool l8_7), .val (.bool l8_8), .val (.bool l8_9)]]), (.t 7, [iv l8_10]), (.t 8, [iv l8_11]), (.t 9, [iv l8_12]), (.t 10, [iv l8_13]), (.t 11, [iv l8_14])]) (diwanlaw10_BallotMeet.lp8_post l8_0 l8_1 l8_2 l8_3 l8_4 l8_5 l8_6 l8_7 l8_8 l8_9 l8_10 l8_11 l8_12 r_) := by
  intro n_
  induction n_ with
  | zero => intro l8_13 l8_14 r_ h; exact no_none h
  | succ n_ ih =>
    intro l8_13 l8_14 r_ h
    refine WK.loop (by kernel_rfl) ?_
    refine WK.seq (by kernel_rfl) ?_
    refine WK.rs (g := []) (l' := [(.t 3, [.cptr [.val (.bool l8_0), .val (.bool l8_1), .val (.bool l8_2), .val (.bool l8_3), .val (.bool l8_4)]]), (.t 4, [.cptr [.val (.bool l8_5), .val (.bool l8_6), .val (.bool l8_7), .val (.bool l8_8), .val (.bool l8_9)]]), (.t 7, [iv l8_10]), (.t 8, [iv l8_11]), (.t 9, [iv l8_12]), (.t 10, [iv l8_13]), (.t 11, [iv l8_14]), (.t 27, [bv (decide (l8_14 < l8_10))])]) (by kernel_rfl) .nil (by kernel_rfl) ?_
    rcases br_inv h with ⟨b10_0, h⟩ | ⟨b10_0, h⟩
    · refine WK.ct (b := (decide (l8_14 < l8_10))) (by kernel_rfl) b10_0 ?_
      refine WK.skip (by kernel_rfl) ?_
      refine WKe.code (y := (cR (cB (cB (cR (cL (cR (cR (cR (cR bd4)))))))))) (ks' := [.lp (cB (cR (cL (cR (cR (cR (cR bd4)))))))]) (by kernel_rfl) ?_
      refine WK.seq (by kernel_rfl) ?_
      refine WK.block (n := 1) (by kernel_rfl) ?_
      rcases br_inv h with ⟨b11_1, h⟩ | ⟨b11_1, h⟩
      · rcases br_inv h with ⟨b11_2, h⟩ | ⟨b11_2, h⟩
        · refine WK.rs (g := [.i 0, .b true, .b true, .i 0, .b true, .b true]) (l' := [(.t 3, [.cptr [.val (.bool l8_0), .val (.bool l8_1), .val (.bool l8_2), .val (.bool l8_3), .val (.bool l8_4)]]), (.t 4, [.cptr [.val (.bool l8_5), .val (.bool l8_6), .val (.bool l8_7), .val (.bool l8_8), .val (.bool l8_9)]]), (.t 7, [iv l8_10]), (.t 8, [iv l8_11]), (.t 9, [iv l8_12]), (.t 10, [iv l8_13]), (.t 11, [iv l8_14]), (.t 37, [bv l8_5])]) (by kernel_rfl) (.cons (c_ib (j := 0) (n := 5) b11_1 (Eq.refl true)) (.cons (c_ii (j := 0) b11_1) (.cons b11_2 (.cons b11_2 (.cons (c_ib (j := 0) (n := 5) b11_1 (Eq.refl true)) (.cons (c_ii (j := 0) b11_1) (.cons b11_2 (.cons b11_2 .nil)))))))) (by kernel_rfl) ?_
          rcases br_inv h with ⟨b12_0, h⟩ | ⟨b12_0, h⟩
          · refine WK.ct (b := l8_5) (by kernel_rfl) b12_0 ?_
            refine WK.rc (g := []) (l' := [(.t 3, [.cptr [.val (.bool l8_0), .val (.bool l8_1), .val (.bool l8_2), .val (.bool l8_3), .val (.bool l8_4)]]), (.t 4, [.cptr [.val (.bool l8_5), .val (.bool l8_6), .val (.bool l8_7), .val (.bool l8_8), .val (.bool l8_9)]]), (.t 7, [iv l8_10]), (.t 8, [iv l8_11]), (.t 9, [iv l8_12]), (.t 10, [iv (w64 (l8_13 + 1))]), (.t 11, [iv l8_14])]) .nil (by kernel_rfl) (y := (cR (cR (cB (cB (cR (cL (cR (cR (cR (cR bd4))))))))))) (ks' := [.lp (cB (cR (cL (cR (cR (cR (cR bd4)))))))]) (by kernel_rfl) ?_
            refine WK.rc (g := []) (l' := [(.t 3, [.cptr [.val (.bool l8_0), .val (.bool l8_1), .val (.bool l8_2), .val (.bool l8_3), .val (.bool l8_4)]]), (.t 4, [.cptr [.val (.bool l8_5), .val (.bool l8_6), .val (.bool l8_7), .val (.bool l8_8), .val (.bool l8_9)]]), (.t 7, [iv l8_10]), (.t 8, [iv l8_11]), (.t 9, [iv l8_12]), (.t 10, [iv (w64 (l8_13 + 1))]), (.t 11, [iv (w64 (l8_14 + 1))])]) .nil (by kernel_rfl) (y := (cB (cR (cL (cR (cR (cR (cR bd4)))))))) (ks' := []) (by kernel_rfl) ?_
            exact WK.weak (l := [(.t 3, [.cptr [.val (.bool l8_0), .val (.bool l8_1), .val (.bool l8_2), .val (.bool l8_3), .val (.bool l8_4)]]), (.t 4, [.cptr [.val (.bool l8_5), .val (.bool l8_6), .val (.bool l8_7), .val (.bool l8_8), .val (.bool l8_9)]]), (.t 7, [iv l8_10]), (.t 8, [iv l8_11]), (.t 9, [iv l8_12]), (.t 10, [iv (w64 (l8_13 + 1))]), (.t 11, [iv (w64 (l8_14 + 1))])]) (wk_of (by kernel_rfl)) (ih (w64 (l8_13 + 1)) (w64 (l8_14 + 1)) _ h)
          · refine WK.ce (b := l8_5) (by kernel_rfl) b12_0 ?_
            refine WK.skip (by kernel_rfl) ?_
            refine WKe.code (y := (cR (cR (cB (cB (cR (cL (cR (cR (cR (cR bd4))))))))))) (ks' := [.lp (cB (cR (cL (cR (cR (cR (cR bd4)))))))]) (by kernel_rfl) ?_
            refine WK.rc (g := []) (l' := [(.t 3, [.cptr [.val (.bool l8_0), .val (.bool l8_1), .val (.bool l8_2), .val (.bool l8_3), .val (.bool l8_4)]]), (.t 4, [.cptr [.val (.bool l8_5), .val (.bool l8_6), .val (.bool l8_7), .val (.bool l8_8), .val (.bool l8_9)]]), (.t 7, [iv l8_10]), (.t 8, [iv l8_11]), (.t 9, [iv l8_12]), (.t 10, [iv l8_13]), (.t 11, [iv (w64 (l8_14 + 1))])]) .nil (by kernel_rfl) (y := (cB (cR (cL (cR (cR (cR (cR bd4)))))))) (ks' := []) (by kernel_rfl) ?_
            exact WK.weak (l := [(.t 3, [.cptr [.val (.bool l8_0), .val (.bool l8_1), .val (.bool l8_2), .val (.bool l8_3), .val (.bool l8_4)]]), (.t 4, [.cptr [.val (.bool l8_5), .val (.bool l8_6), .val (.bool l8_7), .val (.bool l8_8), .val (.bool l8_9)]]), (.t 7, [iv l8_10]), (.t 8, [iv l8_11]), (.t 9, [iv l8_12]), (.t 10, [iv l8_13]), (.t 11, [iv (w64 (l8_14 + 1))])]) (wk_of (by kernel_rfl)) (ih l8_13 (w64 (l8_14 + 1)) _ h)
        · refine WK.rs (g := [.i 0, .b false, .b false, .b false, .b false]) (l' := [(.t 3, [.cptr [.val (.bool l8_0), .val (.bool l8_1), .val (.bool l8_2), .val (.bool l8_3), .val (.bool l8_4)]]), (.t 4, [.cptr [.val (.bool l8_5), .val (.bool l8_6), .val (.bool l8_7), .val (.bool l8_8), .val (.bool l8_9)]]), (.t 7, [iv l8_10]), (.t 8, [iv l8_11]), (.t 9, [iv l8_12]), (.t 10, [iv l8_13]), (.t 11, [iv l8_14]), (.t 37, [bv false])]) (by kernel_rfl) (.cons (c_ib (j := 0) (n := 5) b11_1 (Eq.refl true)) (.cons (c_ii (j := 0) b11_1) (.cons b11_2 (.cons b11_2 (.cons b11_2 (.cons b11_2 .nil)))))) (by kernel_rfl) ?_
          refine WK.ce (b := false) (by kernel_rfl) rfl ?_
          refine WK.skip (by kernel_rfl) ?_
          refine WKe.code (y := (cR (cR (cB (cB (cR (cL (cR (cR (cR (cR bd4))))))))))) (ks' := [.lp (cB (cR (cL (cR (cR (cR (cR bd4)))))))]) (by kernel_rfl) ?_
          refine WK.rc (g := []) (l' := [(.t 3, [.cptr [.val (.bool l8_0), .val (.bool l8_1), .val (.bool l8_2), .val (.bool l8_3), .val (.bool l8_4)]]), (.t 4, [.cptr [.val (.bool l8_5), .val (.bool l8_6), .val (.bool l8_7), .val (.bool l8_8), .val (.bool l8_9)]]), (.t 7, [iv l8_10]), (.t 8, [iv l8_11]), (.t 9, [iv l8_12]), (.t 10, [iv l8_13]), (.t 11, [iv (w64 (l8_14 + 1))])]) .nil (by kernel_rfl) (y := (cB (cR (cL (cR (cR (cR (cR bd4)))))))) (ks' := []) (by kernel_rfl) ?_
          exact WK.weak (l := [(.t 3, [.cptr [.val (.bool l8_0), .val (.bool l8_1), .val (.bool l8_2), .val (.bool l8_3), .val (.bool l8_4)]]), (.t 4, [.cptr [.val (.bool l8_5), .val (.bool l8_6), .val (.bool l8_7), .val (.bool l8_8), .val (.bool l8_9)]]), (.t 7, [iv l8_10]), (.t 8, [iv l8_11]), (.t 9, [iv l8_12]), (.t 10, [iv l8_13]), (.t 11, [iv (w64 (l8_14 + 1))])]) (wk_of (by kernel_rfl)) (ih l8_13 (w64 (l8_14 + 1)) _ h)
      · rcases br_inv h with ⟨b11_2, h⟩ | ⟨b11_2, h⟩
        · rcases br_inv h with ⟨b11_3, h⟩ | ⟨b11_3, h⟩
          · refine WK.rs (g := [.i 1, .b true, .b true, .i 1, .b true, .b true]) (l' := [(.t 3, [.cptr [.val (.bool l8_0), .val (.bool l8_1), .val (.bool l8_2), .val (.bool l8_3), .val (.bool l8_4)]]), (.t 4, [.cptr [.val (.bool l8_5), .val (.bool l8_6), .val (.bool l8_7), .val (.bool l8_8), .val (.bool l8_9)]]), (.t 7, [iv l8_10]), (.t 8, [iv l8_11]), (.t 9, [iv l8_12]), (.t 10, [iv l8_13]), (.t 11, [iv l8_14]), (.t 37, [bv l8_6])]) (by kernel_rfl) (.cons (c_ib (j := 1) (n := 5) b11_2 (Eq.refl true)) (.cons (c_ii (j := 1) b11_2) (.cons b11_3 (.cons b11_3 (.cons (c_ib (j := 1) (n := 5) b11_2 (Eq.refl true)) (.cons (c_ii (j := 1) b11_2) (.cons b11_3 (.cons b11_3 .nil)))))))) (by kernel_rfl) ?_
            rcases br_inv h with ⟨b17_0, h⟩ | ⟨b17_0, h⟩
            · refine WK.ct (b := l8_6) (by kernel_rfl) b17_0 ?_
              refine WK.rc (g := []) (l' := [(.t 3, [.cptr [.val (.bool l8_0), .val (.bool l8_1), .val (.bool l8_2), .val (.bool l8_3), .val (.bool l8_4)]]), (.t 4, [.cptr [.val (.bool l8_5), .val (.bool l8_6), .val (.bool l8_7), .val (.bool l8_8), .val (.bool l8_9)]]), (.t 7, [iv l8_10]), (.t 8, [iv l8_11]), (.t 9, [iv l8_12]), (.t 10, [iv (w64 (l8_13 + 1))]), (.t 11, [iv l8_14])]) .nil (by kernel_rfl) (y := (cR (cR (cB (cB (cR (cL (cR (cR (cR (cR bd4))))))))))) (ks' := [.lp (cB (cR (cL (cR (cR (cR (cR bd4)))))))]) (by kernel_rfl) ?_
              refine WK.rc (g := []) (l' := [(.t 3, [.cptr [.val (.bool l8_0), .val (.bool l8_1), .val (.bool l8_2), .val (.bool l8_3), .val (.bool l8_4)]]), (.t 4, [.cptr [.val (.bool l8_5), .val (.bool l8_6), .val (.bool l8_7), .val (.bool l8_8), .val (.bool l8_9)]]), (.t 7, [iv l8_10]), (.t 8, [iv l8_11]), (.t 9, [iv l8_12]), (.t 10, [iv (w64 (l8_13 + 1))]), (.t 11, [iv (w64 (l8_14 + 1))])]) .nil (by kernel_rfl) (y := (cB (cR (cL (cR (cR (cR (cR bd4)))))))) (ks' := []) (by kernel_rfl) ?_
              exact WK.weak (l := [(.t 3, [.cptr [.val (.bool l8_0), .val (.bool l8_1), .val (.bool l8_2), .val (.bool l8_3), .val (.bool l8_4)]]), (.t 4, [.cptr [.val (.bool l8_5), .val (.bool l8_6), .val (.bool l8_7), .val (.bool l8_8), .val (.bool l8_9)]]), (.t 7, [iv l8_10]), (.t 8, [iv l8_11]), (.t 9, [iv l8_12]), (.t 10, [iv (w64 (l8_13 + 1))]), (.t 11, [iv (w64 (l8_14 + 1))])]) (wk_of (by kernel_rfl)) (ih (w64 (l8_13 + 1)) (w64 (l8_14 + 1)) _ h)
            · refine WK.ce (b := l8_6) (by kernel_rfl) b17_0 ?_
              refine WK.skip (by kernel_rfl) ?_
              refine WKe.code (y := (cR (cR (cB (cB (cR (cL (cR (cR (cR (cR bd4))))))))))) (ks' := [.lp (cB (cR (cL (cR (cR (cR (cR bd4)))))))]) (by kernel_rfl) ?_
              refine WK.rc (g := []) (l' := [(.t 3, [.cptr [.val (.bool l8_0), .val (.bool l8_1), .val (.bool l8_2), .val (.bool l8_3), .val (.bool l8_4)]]), (.t 4, [.cptr [.val (.bool l8_5), .val (.bool l8_6), .val (.bool l8_7), .val (.bool l8_8), .val (.bool l8_9)]]), (.t 7, [iv l8_10]), (.t 8, [iv l8_11]), (.t 9, [iv l8_12]), (.t 10, [iv l8_13]), (.t 11, [iv (w64 (l8_14 + 1))])]) .nil (by kernel_rfl) (y := (cB (cR (cL (cR (cR (cR (cR bd4)))))))) (ks' := []) (by kernel_rfl) ?_
              exact WK.weak (l := [(.t 3, [.cptr [.val (.bool l8_0), .val (.bool l8_1), .val (.bool l8_2), .val (.bool l8_3), .val (.bool l8_4)]]), (.t 4, [.cptr [.val (.bool l8_5), .val (.bool l8_6), .val (.bool l8_7), .val (.bool l8_8), .val (.bool l8_9)]]), (.t 7, [iv l8_10]), (.t 8, [iv l8_11]), (.t 9, [iv l8_12]), (.t 10, [iv l8_13]), (.t 11, [iv (w64 (l8_14 + 1))])]) (wk_of (by kernel_rfl)) (ih l8_13 (w64 (l8_14 + 1)) _ h)
          · refine WK.rs (g := [.i 1, .b false, .b false, .b false, .b false]) (l' := [(.t 3, [.cptr [.val (.bool l8_0), .val (.bool l8_1), .val (.bool l8_2), .val (.bool l8_3), .val (.bool l8_4)]]), (.t 4, [.cptr [.val (.bool l8_5), .val (.bool l8_6), .val (.bool l8_7), .val (.bool l8_8), .val (.bool l8_9)]]), (.t 7, [iv l8_10]), (.t 8, [iv l8_11]), (.t 9, [iv l8_12]), (.t 10, [iv l8_13]), (.t 11, [iv l8_14]), (.t 37, [bv false])]) (by kernel_rfl) (.cons (c_ib (j := 1) (n := 5) b11_2 (Eq.refl true)) (.cons (c_ii (j := 1) b11_2) (.cons b11_3 (.cons b11_3 (.cons b11_3 (.cons b11_3 .nil)))))) (by kernel_rfl) ?_
            refine WK.ce (b := false) (by kernel_rfl) rfl ?_
            refine WK.skip (by kernel_rfl) ?_
            refine WKe.code (y := (cR (cR (cB (cB (cR (cL (cR (cR (cR (cR bd4))))))))))) (ks' := [.lp (cB (cR (cL (cR (cR (cR (cR bd4)))))))]) (by kernel_rfl) ?_
            refine WK.rc (g := []) (l' := [(.t 3, [.cptr [.val (.bool l8_0), .val (.bool l8_1), .val (.bool l8_2), .val (.bool l8_3), .val (.bool l8_4)]]), (.t 4, [.cptr [.val (.bool l8_5), .val (.bool l8_6), .val (.bool l8_7), .val (.bool l8_8), .val (.bool l8_9)]]), (.t 7, [iv l8_10]), (.t 8, [iv l8_11]), (.t 9, [iv l8_12]), (.t 10, [iv l8_13]), (.t 11, [iv (w64 (l8_14 + 1))])]) .nil (by kernel_rfl) (y := (cB (cR (cL (cR (cR (cR (cR bd4)))))))) (ks' := []) (by kernel_rfl) ?_
            exact WK.weak (l := [(.t 3, [.cptr [.val (.bool l8_0), .val (.bool l8_1), .val (.bool l8_2), .val (.bool l8_3), .val (.bool l8_4)]]), (.t 4, [.cptr [.val (.bool l8_5), .val (.bool l8_6), .val (.bool l8_7), .val (.bool l8_8), .val (.bool l8_9)]]), (.t 7, [iv l8_10]), (.t 8, [iv l8_11]), (.t 9, [iv l8_12]), (.t 10, [iv l8_13]), (.t 11, [iv (w64 (l8_14 + 1))])]) (wk_of (by kernel_rfl)) (ih l8_13 (w64 (l8_14 + 1)) _ h)
        · rcases br_inv h with ⟨b11_3, h⟩ | ⟨b11_3, h⟩
          · rcases br_inv h with ⟨b11_4, h⟩ | ⟨b11_4, h⟩
            · refine WK.rs (g := [.i 2, .b true, .b true, .i 2, .b true, .b true]) (l' := [(.t 3, [.cptr [.val (.bool l8_0), .val (.bool l8_1), .val (.bool l8_2), .val (.bool l8_3), .val (.bool l8_4)]]), (.t 4, [.cptr [.val (.bool l8_5), .val (.bool l8_6), .val (.bool l8_7), .val (.bool l8_8), .val (.bool l8_9)]]), (.t 7, [iv l8_10]), (.t 8, [iv l8_11]), (.t 9, [iv l8_12]), (.t 10, [iv l8_13]), (.t 11, [iv l8_14]), (.t 37, [bv l8_7])]) (by kernel_rfl) (.cons (c_ib (j := 2) (n := 5) b11_3 (Eq.refl true)) (.cons (c_ii (j := 2) b11_3) (.cons b11_4 (.cons b11_4 (.cons (c_ib (j := 2) (n := 5) b11_3 (Eq.refl true)) (.cons (c_ii (j := 2) b11_3) (.cons b11_4 (.cons b11_4 .nil)))))))) (by kernel_rfl) ?_
              rcases br_inv h with ⟨b22_0, h⟩ | ⟨b22_0, h⟩
              · refine WK.ct (b := l8_7) (by kernel_rfl) b22_0 ?_
                refine WK.rc (g := []) (l' := [(.t 3, [.cptr [.val (.bool l8_0), .val (.bool l8_1), .val (.bool l8_2), .val (.bool l8_3), .val (.bool l8_4)]]), (.t 4, [.cptr [.val (.bool l8_5), .val (.bool l8_6), .val (.bool l8_7), .val (.bool l8_8), .val (.bool l8_9)]]), (.t 7, [iv l8_10]), (.t 8, [iv l8_11]), (.t 9, [iv l8_12]), (.t 10, [iv (w64 (l8_13 + 1))]), (.t 11, [iv l8_14])]) .nil (by kernel_rfl) (y := (cR (cR (cB (cB (cR (cL (cR (cR (cR (cR bd4))))))))))) (ks' := [.lp (cB (cR (cL (cR (cR (cR (cR bd4)))))))]) (by kernel_rfl) ?_
                refine WK.rc (g := []) (l' := [(.t 3, [.cptr [.val (.bool l8_0), .val (.bool l8_1), .val (.bool l8_2), .val (.bool l8_3), .val (.bool l8_4)]]), (.t 4, [.cptr [.val (.bool l8_5), .val (.bool l8_6), .val (.bool l8_7), .val (.bool l8_8), .val (.bool l8_9)]]), (.t 7, [iv l8_10]), (.t 8, [iv l8_11]), (.t 9, [iv l8_12]), (.t 10, [iv (w64 (l8_13 + 1))]), (.t 11, [iv (w64 (l8_14 + 1))])]) .nil (by kernel_rfl) (y := (cB (cR (cL (cR (cR (cR (cR bd4)))))))) (ks' := []) (by kernel_rfl) ?_
                exact WK.weak (l := [(.t 3, [.cptr [.val (.bool l8_0), .val (.bool l8_1), .val (.bool l8_2), .val (.bool l8_3), .val (.bool l8_4)]]), (.t 4, [.cptr [.val (.bool l8_5), .val (.bool l8_6), .val (.bool l8_7), .val (.bool l8_8), .val (.bool l8_9)]]), (.t 7, [iv l8_10]), (.t 8, [iv l8_11]), (.t 9, [iv l8_12]), (.t 10, [iv (w64 (l8_13 + 1))]), (.t 11, [iv (w64 (l8_14 + 1))])]) (wk_of (by kernel_rfl)) (ih (w64 (l8_13 + 1)) (w64 (l8_14 + 1)) _ h)
              · refine WK.ce (b := l8_7) (by kernel_rfl) b22_0 ?_
                refine WK.skip (by kernel_rfl) ?_
                refine WKe.code (y := (cR (cR (cB (cB (cR (cL (cR (cR (cR (cR bd4))))))))))) (ks' := [.lp (cB (cR (cL (cR (cR (cR (cR bd4)))))))]) (by kernel_rfl) ?_
                refine WK.rc (g := []) (l' := [(.t 3, [.cptr [.val (.bool l8_0), .val (.bool l8_1), .val (.bool l8_2), .val (.bool l8_3), .val (.bool l8_4)]]), (.t 4, [.cptr [.val (.bool l8_5), .val (.bool l8_6), .val (.bool l8_7), .val (.bool l8_8), .val (.bool l8_9)]]), (.t 7, [iv l8_10]), (.t 8, [iv l8_11]), (.t 9, [iv l8_12]), (.t 10, [iv l8_13]), (.t 11, [iv (w64 (l8_14 + 1))])]) .nil (by kernel_rfl) (y := (cB (cR (cL (cR (cR (cR (cR bd4)))))))) (ks' := []) (by kernel_rfl) ?_
                exact WK.weak (l := [(.t 3, [.cptr [.val (.bool l8_0), .val (.bool l8_1), .val (.bool l8_2), .val (.bool l8_3), .val (.bool l8_4)]]), (.t 4, [.cptr [.val (.bool l8_5), .val (.bool l8_6), .val (.bool l8_7), .val (.bool l8_8), .val (.bool l8_9)]]), (.t 7, [iv l8_10]), (.t 8, [iv l8_11]), (.t 9, [iv l8_12]), (.t 10, [iv l8_13]), (.t 11, [iv (w64 (l8_14 + 1))])]) (wk_of (by kernel_rfl)) (ih l8_13 (w64 (l8_14 + 1)) _ h)
            · refine WK.rs (g := [.i 2, .b false, .b false, .b false, .b false]) (l' := [(.t 3, [.cptr [.val (.bool l8_0), .val (.bool l8_1), .val (.bool l8_2), .val (.bool l8_3), .val (.bool l8_4)]]), (.t 4, [.cptr [.val (.bool l8_5), .val (.bool l8_6), .val (.bool l8_7), .val (.bool l8_8), .val (.bool l8_9)]]), (.t 7, [iv l8_10]), (.t 8, [iv l8_11]), (.t 9, [iv l8_12]), (.t 10, [iv l8_13]), (.t 11, [iv l8_14]), (.t 37, [bv false])]) (by kernel_rfl) (.cons (c_ib (j := 2) (n := 5) b11_3 (Eq.refl true)) (.cons (c_ii (j := 2) b11_3) (.cons b11_4 (.cons b11_4 (.cons b11_4 (.cons b11_4 .nil)))))) (by kernel_rfl) ?_
              refine WK.ce (b := false) (by kernel_rfl) rfl ?_
              refine WK.skip (by kernel_rfl) ?_
              refine WKe.code (y := (cR (cR (cB (cB (cR (cL (cR (cR (cR (cR bd4))))))))))) (ks' := [.lp (cB (cR (cL (cR (cR (cR (cR bd4)))))))]) (by kernel_rfl) ?_
              refine WK.rc (g := []) (l' := [(.t 3, [.cptr [.val (.bool l8_0), .val (.bool l8_1), .val (.bool l8_2), .val (.bool l8_3), .val (.bool l8_4)]]), (.t 4, [.cptr [.val (.bool l8_5), .val (.bool l8_6), .val (.bool l8_7), .val (.bool l8_8), .val (.bool l8_9)]]), (.t 7, [iv l8_10]), (.t 8, [iv l8_11]), (.t 9, [iv l8_12]), (.t 10, [iv l8_13]), (.t 11, [iv (w64 (l8_14 + 1))])]) .nil (by kernel_rfl) (y := (cB (cR (cL (cR (cR (cR (cR bd4)))))))) (ks' := []) (by kernel_rfl) ?_
              exact WK.weak (l := [(.t 3, [.cptr [.val (.bool l8_0), .val (.bool l8_1), .val (.bool l8_2), .val (.bool l8_3), .val (.bool l8_4)]]), (.t 4, [.cptr [.val (.bool l8_5), .val (.bool l8_6), .val (.bool l8_7), .val (.bool l8_8), .val (.bool l8_9)]]), (.t 7, [iv l8_10]), (.t 8, [iv l8_11]), (.t 9, [iv l8_12]), (.t 10, [iv l8_13]), (.t 11, [iv (w64 (l8_14 + 1))])]) (wk_of (by kernel_rfl)) (ih l8_13 (w64 (l8_14 + 1)) _ h)
          · rcases br_inv h with ⟨b11_4, h⟩ | ⟨b11_4, h⟩
            · rcases br_inv h with ⟨b11_5, h⟩ | ⟨b11_5, h⟩
              · refine WK.rs (g := [.i 3, .b true, .b true, .i 3, .b true, .b true]) (l' := [(.t 3, [.cptr [.val (.bool l8_0), .val (.bool l8_1), .val (.bool l8_2), .val (.bool l8_3), .val (.bool l8_4)]]), (.t 4, [.cptr [.val (.bool l8_5), .val (.bool l8_6), .val (.bool l8_7), .val (.bool l8_8), .val (.bool l8_9)]]), (.t 7, [iv l8_10]), (.t 8, [iv l8_11]), (.t 9, [iv l8_12]), (.t 10, [iv l8_13]), (.t 11, [iv l8_14]), (.t 37, [bv l8_8])]) (by kernel_rfl) (.cons (c_ib (j := 3) (n := 5) b11_4 (Eq.refl true)) (.cons (c_ii (j := 3) b11_4) (.cons b11_5 (.cons b11_5 (.cons (c_ib (j := 3) (n := 5) b11_4 (Eq.refl true)) (.cons (c_ii (j := 3) b11_4) (.cons b11_5 (.cons b11_5 .nil)))))))) (by kernel_rfl) ?_
                rcases br_inv h with ⟨b27_0, h⟩ | ⟨b27_0, h⟩
                · refine WK.ct (b := l8_8) (by kernel_rfl) b27_0 ?_
                  refine WK.rc (g := []) (l' := [(.t 3, [.cptr [.val (.bool l8_0), .val (.bool l8_1), .val (.bool l8_2), .val (.bool l8_3), .val (.bool l8_4)]]), (.t 4, [.cptr [.val (.bool l8_5), .val (.bool l8_6), .val (.bool l8_7), .val (.bool l8_8), .val (.bool l8_9)]]), (.t 7, [iv l8_10]), (.t 8, [iv l8_11]), (.t 9, [iv l8_12]), (.t 10, [iv (w64 (l8_13 + 1))]), (.t 11, [iv l8_14])]) .nil (by kernel_rfl) (y := (cR (cR (cB (cB (cR (cL (cR (cR (cR (cR bd4))))))))))) (ks' := [.lp (cB (cR (cL (cR (cR (cR (cR bd4)))))))]) (by kernel_rfl) ?_
                  refine WK.rc (g := []) (l' := [(.t 3, [.cptr [.val (.bool l8_0), .val (.bool l8_1), .val (.bool l8_2), .val (.bool l8_3), .val (.bool l8_4)]]), (.t 4, [.cptr [.val (.bool l8_5), .val (.bool l8_6), .val (.bool l8_7), .val (.bool l8_8), .val (.bool l8_9)]]), (.t 7, [iv l8_10]), (.t 8, [iv l8_11]), (.t 9, [iv l8_12]), (.t 10, [iv (w64 (l8_13 + 1))]), (.t 11, [iv (w64 (l8_14 + 1))])]) .nil (by kernel_rfl) (y := (cB (cR (cL (cR (cR (cR (cR bd4)))))))) (ks' := []) (by kernel_rfl) ?_
                  exact WK.weak (l := [(.t 3, [.cptr [.val (.bool l8_0), .val (.bool l8_1), .val (.bool l8_2), .val (.bool l8_3), .val (.bool l8_4)]]), (.t 4, [.cptr [.val (.bool l8_5), .val (.bool l8_6), .val (.bool l8_7), .val (.bool l8_8), .val (.bool l8_9)]]), (.t 7, [iv l8_10]), (.t 8, [iv l8_11]), (.t 9, [iv l8_12]), (.t 10, [iv (w64 (l8_13 + 1))]), (.t 11, [iv (w64 (l8_14 + 1))])]) (wk_of (by kernel_rfl)) (ih (w64 (l8_13 + 1)) (w64 (l8_14 + 1)) _ h)
                · refine WK.ce (b := l8_8) (by kernel_rfl) b27_0 ?_
                  refine WK.skip (by kernel_rfl) ?_
                  refine WKe.code (y := (cR (cR (cB (cB (cR (cL (cR (cR (cR (cR bd4))))))))))) (ks' := [.lp (cB (cR (cL (cR (cR (cR (cR bd4)))))))]) (by kernel_rfl) ?_
                  refine WK.rc (g := []) (l' := [(.t 3, [.cptr [.val (.bool l8_0), .val (.bool l8_1), .val (.bool l8_2), .val (.bool l8_3), .val (.bool l8_4)]]), (.t 4, [.cptr [.val (.bool l8_5), .val (.bool l8_6), .val (.bool l8_7), .val (.bool l8_8), .val (.bool l8_9)]]), (.t 7, [iv l8_10]), (.t 8, [iv l8_11]), (.t 9, [iv l8_12]), (.t 10, [iv l8_13]), (.t 11, [iv (w64 (l8_14 + 1))])]) .nil (by kernel_rfl) (y := (cB (cR (cL (cR (cR (cR (cR bd4)))))))) (ks' := []) (by kernel_rfl) ?_
                  exact WK.weak (l := [(.t 3, [.cptr [.val (.bool l8_0), .val (.bool l8_1), .val (.bool l8_2), .val (.bool l8_3), .val (.bool l8_4)]]), (.t 4, [.cptr [.val (.bool l8_5), .val (.bool l8_6), .val (.bool l8_7), .val (.bool l8_8), .val (.bool l8_9)]]), (.t 7, [iv l8_10]), (.t 8, [iv l8_11]), (.t 9, [iv l8_12]), (.t 10, [iv l8_13]), (.t 11, [iv (w64 (l8_14 + 1))])]) (wk_of (by kernel_rfl)) (ih l8_13 (w64 (l8_14 + 1)) _ h)
              · refine WK.rs (g := [.i 3, .b false, .b false, .b false, .b false]) (l' := [(.t 3, [.cptr [.val (.bool l8_0), .val (.bool l8_1), .val (.bool l8_2), .val (.bool l8_3), .val (.bool l8_4)]]), (.t 4, [.cptr [.val (.bool l8_5), .val (.bool l8_6), .val (.bool l8_7), .val (.bool l8_8), .val (.bool l8_9)]]), (.t 7, [iv l8_10]), (.t 8, [iv l8_11]), (.t 9, [iv l8_12]), (.t 10, [iv l8_13]), (.t 11, [iv l8_14]), (.t 37, [bv false])]) (by kernel_rfl) (.cons (c_ib (j := 3) (n := 5) b11_4 (Eq.refl true)) (.cons (c_ii (j := 3) b11_4) (.cons b11_5 (.cons b11_5 (.cons b11_5 (.cons b11_5 .nil)))))) (by kernel_rfl) ?_
                refine WK.ce (b := false) (by kernel_rfl) rfl ?_
                refine WK.skip (by kernel_rfl) ?_
                refine WKe.code (y := (cR (cR (cB (cB (cR (cL (cR (cR (cR (cR bd4))))))))))) (ks' := [.lp (cB (cR (cL (cR (cR (cR (cR bd4)))))))]) (by kernel_rfl) ?_
                refine WK.rc (g := []) (l' := [(.t 3, [.cptr [.val (.bool l8_0), .val (.bool l8_1), .val (.bool l8_2), .val (.bool l8_3), .val (.bool l8_4)]]), (.t 4, [.cptr [.val (.bool l8_5), .val (.bool l8_6), .val (.bool l8_7), .val (.bool l8_8), .val (.bool l8_9)]]), (.t 7, [iv l8_10]), (.t 8, [iv l8_11]), (.t 9, [iv l8_12]), (.t 10, [iv l8_13]), (.t 11, [iv (w64 (l8_14 + 1))])]) .nil (by kernel_rfl) (y := (cB (cR (cL (cR (cR (cR (cR bd4)))))))) (ks' := []) (by kernel_rfl) ?_
                exact WK.weak (l := [(.t 3, [.cptr [.val (.bool l8_0), .val (.bool l8_1), .val (.bool l8_2), .val (.bool l8_3), .val (.bool l8_4)]]), (.t 4, [.cptr [.val (.bool l8_5), .val (.bool l8_6), .val (.bool l8_7), .val (.bool l8_8), .val (.bool l8_9)]]), (.t 7, [iv l8_10]), (.t 8, [iv l8_11]), (.t 9, [iv l8_12]), (.t 10, [iv l8_13]), (.t 11, [iv (w64 (l8_14 + 1))])]) (wk_of (by kernel_rfl)) (ih l8_13 (w64 (l8_14 + 1)) _ h)
            · rcases br_inv h with ⟨b11_5, h⟩ | ⟨b11_5, h⟩
              · rcases br_inv h with ⟨b11_6, h⟩ | ⟨b11_6, h⟩
                · refine WK.rs (g := [.i 4, .b true, .b true, .i 4, .b true, .b true]) (l' := [(.t 3, [.cptr [.val (.bool l8_0), .val (.bool l8_1), .val (.bool l8_2), .val (.bool l8_3), .val (.bool l8_4)]]), (.t 4, [.cptr [.val (.bool l8_5), .val (.bool l8_6), .val (.bool l8_7), .val (.bool l8_8), .val (.bool l8_9)]]), (.t 7, [iv l8_10]), (.t 8, [iv l8_11]), (.t 9, [iv l8_12]), (.t 10, [iv l8_13]), (.t 11, [iv l8_14]), (.t 37, [bv l8_9])]) (by kernel_rfl) (.cons (c_ib (j := 4) (n := 5) b11_5 (Eq.refl true)) (.cons (c_ii (j := 4) b11_5) (.cons b11_6 (.cons b11_6 (.cons (c_ib (j := 4) (n := 5) b11_5 (Eq.refl true)) (.cons (c_ii (j := 4) b11_5) (.cons b11_6 (.cons b11_6 .nil)))))))) (by kernel_rfl) ?_
                  rcases br_inv h with ⟨b32_0, h⟩ | ⟨b32_0, h⟩
                  · refine WK.ct (b := l8_9) (by kernel_rfl) b32_0 ?_
                    refine WK.rc (g := []) (l' := [(.t 3, [.cptr [.val (.bool l8_0), .val (.bool l8_1), .val (.bool l8_2), .val (.bool l8_3), .val (.bool l8_4)]]), (.t 4, [.cptr [.val (.bool l8_5), .val (.bool l8_6), .val (.bool l8_7), .val (.bool l8_8), .val (.bool l8_9)]]), (.t 7, [iv l8_10]), (.t 8, [iv l8_11]), (.t 9, [iv l8_12]), (.t 10, [iv (w64 (l8_13 + 1))]), (.t 11, [iv l8_14])]) .nil (by kernel_rfl) (y := (cR (cR (cB (cB (cR (cL (cR (cR (cR (cR bd4))))))))))) (ks' := [.lp (cB (cR (cL (cR (cR (cR (cR bd4)))))))]) (by kernel_rfl) ?_
                    refine WK.rc (g := []) (l' := [(.t 3, [.cptr [.val (.bool l8_0), .val (.bool l8_1), .val (.bool l8_2), .val (.bool l8_3), .val (.bool l8_4)]]), (.t 4, [.cptr [.val (.bool l8_5), .val (.bool l8_6), .val (.bool l8_7), .val (.bool l8_8), .val (.bool l8_9)]]), (.t 7, [iv l8_10]), (.t 8, [iv l8_11]), (.t 9, [iv l8_12]), (.t 10, [iv (w64 (l8_13 + 1))]), (.t 11, [iv (w64 (l8_14 + 1))])]) .nil (by kernel_rfl) (y := (cB (cR (cL (cR (cR (cR (cR bd4)))))))) (ks' := []) (by kernel_rfl) ?_
                    exact WK.weak (l := [(.t 3, [.cptr [.val (.bool l8_0), .val (.bool l8_1), .val (.bool l8_2), .val (.bool l8_3), .val (.bool l8_4)]]), (.t 4, [.cptr [.val (.bool l8_5), .val (.bool l8_6), .val (.bool l8_7), .val (.bool l8_8), .val (.bool l8_9)]]), (.t 7, [iv l8_10]), (.t 8, [iv l8_11]), (.t 9, [iv l8_12]), (.t 10, [iv (w64 (l8_13 + 1))]), (.t 11, [iv (w64 (l8_14 + 1))])]) (wk_of (by kernel_rfl)) (ih (w64 (l8_13 + 1)) (w64 (l8_14 + 1)) _ h)
                  · refine WK.ce (b := l8_9) (by kernel_rfl) b32_0 ?_
                    refine WK.skip (by kernel_rfl) ?_
                    refine WKe.code (y := (cR (cR (cB (cB (cR (cL (cR (cR (cR (cR bd4))))))))))) (ks' := [.lp (cB (cR (cL (cR (cR (cR (cR bd4)))))))]) (by kernel_rfl) ?_
                    refine WK.rc (g := []) (l' := [(.t 3, [.cptr [.val (.bool l8_0), .val (.bool l8_1), .val (.bool l8_2), .val (.bool l8_3), .val (.bool l8_4)]]), (.t 4, [.cptr [.val (.bool l8_5), .val (.bool l8_6), .val (.bool l8_7), .val (.bool l8_8), .val (.bool l8_9)]]), (.t 7, [iv l8_10]), (.t 8, [iv l8_11]), (.t 9, [iv l8_12]), (.t 10, [iv l8_13]), (.t 11, [iv (w64 (l8_14 + 1))])]) .nil (by kernel_rfl) (y := (cB (cR (cL (cR (cR (cR (cR bd4)))))))) (ks' := []) (by kernel_rfl) ?_
                    exact WK.weak (l := [(.t 3, [.cptr [.val (.bool l8_0), .val (.bool l8_1), .val (.bool l8_2), .val (.bool l8_3), .val (.bool l8_4)]]), (.t 4, [.cptr [.val (.bool l8_5), .val (.bool l8_6), .val (.bool l8_7), .val (.bool l8_8), .val (.bool l8_9)]]), (.t 7, [iv l8_10]), (.t 8, [iv l8_11]), (.t 9, [iv l8_12]), (.t 10, [iv l8_13]), (.t 11, [iv (w64 (l8_14 + 1))])]) (wk_of (by kernel_rfl)) (ih l8_13 (w64 (l8_14 + 1)) _ h)
                · refine WK.rs (g := [.i 4, .b false, .b false, .b false, .b false]) (l' := [(.t 3, [.cptr [.val (.bool l8_0), .val (.bool l8_1), .val (.bool l8_2), .val (.bool l8_3), .val (.bool l8_4)]]), (.t 4, [.cptr [.val (.bool l8_5), .val (.bool l8_6), .val (.bool l8_7), .val (.bool l8_8), .val (.bool l8_9)]]), (.t 7, [iv l8_10]), (.t 8, [iv l8_11]), (.t 9, [iv l8_12]), (.t 10, [iv l8_13]), (.t 11, [iv l8_14]), (.t 37, [bv false])]) (by kernel_rfl) (.cons (c_ib (j := 4) (n := 5) b11_5 (Eq.refl true)) (.cons (c_ii (j := 4) b11_5) (.cons b11_6 (.cons b11_6 (.cons b11_6 (.cons b11_6 .nil)))))) (by kernel_rfl) ?_
                  refine WK.ce (b := false) (by kernel_rfl) rfl ?_
                  refine WK.skip (by kernel_rfl) ?_
                  refine WKe.code (y := (cR (cR (cB (cB (cR (cL (cR (cR (cR (cR bd4))))))))))) (ks' := [.lp (cB (cR (cL (cR (cR (cR (cR bd4)))))))]) (by kernel_rfl) ?_
                  refine WK.rc (g := []) (l' := [(.t 3, [.cptr [.val (.bool l8_0), .val (.bool l8_1), .val (.bool l8_2), .val (.bool l8_3), .val (.bool l8_4)]]), (.t 4, [.cptr [.val (.bool l8_5), .val (.bool l8_6), .val (.bool l8_7), .val (.bool l8_8), .val (.bool l8_9)]]), (.t 7, [iv l8_10]), (.t 8, [iv l8_11]), (.t 9, [iv l8_12]), (.t 10, [iv l8_13]), (.t 11, [iv (w64 (l8_14 + 1))])]) .nil (by kernel_rfl) (y := (cB (cR (cL (cR (cR (cR (cR bd4)))))))) (ks' := []) (by kernel_rfl) ?_
                  exact WK.weak (l := [(.t 3, [.cptr [.val (.bool l8_0), .val (.bool l8_1), .val (.bool l8_2), .val (.bool l8_3), .val (.bool l8_4)]]), (.t 4, [.cptr [.val (.bool l8_5), .val (.bool l8_6), .val (.bool l8_7), .val (.bool l8_8), .val (.bool l8_9)]]), (.t 7, [iv l8_10]), (.t 8, [iv l8_11]), (.t 9, [iv l8_12]), (.t 10, [iv l8_13]), (.t 11, [iv (w64 (l8_14 + 1))])]) (wk_of (by kernel_rfl)) (ih l8_13 (w64 (l8_14 + 1)) _ h)
              · exact no_none h
    · refine WK.ce (b := (decide (l8_14 < l8_10))) (by kernel_rfl) b10_0 ?_
      refine WK.weak (l := [(.t 7, [iv l8_10]), (.t 8, [iv l8_11]), (.t 9, [iv l8_12]), (.t 10, [iv l8_13])]) (wk_of (by kernel_rfl)) ?_
      refine WK.exit (n := 0) (by kernel_rfl) ?_
      cases some_inj h
      exact WKe.fin (e' := .exit 0) (by kernel_rfl) ⟨rfl, rfl⟩
noncomputable def diwanlaw10_BallotMeet (fu : Nat) (a : TA5_bool) (b : TA5_bool) (n_v : Int) : Option Bool :=
  bd (diwanlaw10_begun fu) fun r2_1 =>
  br (!r2_1)
    (some false)
    (gd (decide ((0 : Int) ≤ (w64 (1 + (w64 (Int.tmod n_v 5)))) ∧ (w64 (1 + (w64 (Int.tmod n_v 5)))) ≤ (([a.c0, a.c1, a.c2, a.c3, a.c4] : List Bool).length : Int))) <|
    bd (ballot_Many fu (List.take (w64 (1 + (w64 (Int.tmod n_v 5)))).toNat ([a.c0, a.c1, a.c2, a.c3, a.c4] : List Bool))) fun r6_2 =>
    gd (decide ((0 : Int) ≤ (w64 (1 + (w64 (Int.tmod n_v 5)))) ∧ (w64 (1 + (w64 (Int.tmod n_v 5)))) ≤ (([b.c0, b.c1, b.c2, b.c3, b.c4] : List Bool).length : Int))) <|
    bd (ballot_Many fu (List.take (w64 (1 + (w64 (Int.tmod n_v 5)))).toNat ([b.c0, b.c1, b.c2, b.c3, b.c4] : List Bool))) fun r6_5 =>
    bd (diwanlaw10_BallotMeet.lp8 fu a.c0 a.c1 a.c2 a.c3 a.c4 b.c0 b.c1 b.c2 b.c3 b.c4 (w64 (1 + (w64 (Int.tmod n_v 5)))) r6_2 r6_5 fu 0 0) fun y37_0 =>
    bd (ballot_Majority (w64 (1 + (w64 (Int.tmod n_v 5))))) fun r38_1 =>
    br (decide (r6_2 < r38_1))
      (br (decide ((w64 (2 * r38_1)) > (w64 (1 + (w64 (Int.tmod n_v 5))))))
        (some (decide ((w64 (2 * (w64 (r38_1 - 1)))) ≤ (w64 (1 + (w64 (Int.tmod n_v 5)))))))
        (some false))
      (br (decide (r6_5 < r38_1))
        (br (decide ((w64 (2 * r38_1)) > (w64 (1 + (w64 (Int.tmod n_v 5))))))
          (some (decide ((w64 (2 * (w64 (r38_1 - 1)))) ≤ (w64 (1 + (w64 (Int.tmod n_v 5)))))))
          (some false))
        (br (decide (y37_0 > 0))
          (br (decide ((w64 (2 * r38_1)) > (w64 (1 + (w64 (Int.tmod n_v 5))))))
            (some (decide ((w64 (2 * (w64 (r38_1 - 1)))) ≤ (w64 (1 + (w64 (Int.tmod n_v 5)))))))
            (some false))
          (some false))))
theorem diwanlaw10_BallotMeet.meets (fu : Nat) (a : TA5_bool) (b : TA5_bool) (n_v : Int) (z0 : Bool) (h : diwanlaw10_BallotMeet fu a b n_v = some z0) : Meets Try.prog ⟨4, [.data (.agg [.val (.bool a.c0), .val (.bool a.c1), .val (.bool a.c2), .val (.bool a.c3), .val (.bool a.c4)]), .data (.agg [.val (.bool b.c0), .val (.bool b.c1), .val (.bool b.c2), .val (.bool b.c3), .val (.bool b.c4)]), .data (.val (.int .u8 n_v))], []⟩ ⟨bv z0, []⟩ := by
  refine meets_of (O := diwanlaw10_BallotMeet.O) hmix (fn := Try.f4) (code := bd4) (by kernel_rfl) ?_
  refine WK.weak (l := [(.t 0, [.data (.agg [.val (.bool a.c0), .val (.bool a.c1), .val (.bool a.c2), .val (.bool a.c3), .val (.bool a.c4)])]), (.t 1, [.data (.agg [.val (.bool b.c0), .val (.bool b.c1), .val (.bool b.c2), .val (.bool b.c3), .val (.bool b.c4)])]), (.t 2, [.data (.val (.int .u8 n_v))])]) (wk_of (by kernel_rfl)) ?_
  unfold diwanlaw10_BallotMeet at h
  refine WK.rs (g := []) (l' := [(.t 2, [.data (.val (.int .u8 n_v))]), (.t 3, [.ptr 3 0]), (.t 4, [.ptr 4 0]), (.o 3, [bv a.c0, bv a.c1, bv a.c2, bv a.c3, bv a.c4]), (.o 4, [bv b.c0, bv b.c1, bv b.c2, bv b.c3, bv b.c4])]) (by kernel_rfl) .nil (by kernel_rfl) ?_
  refine WK.seq (by kernel_rfl) ?_
  obtain ⟨r2_1, h2_2, h⟩ := bd_inv h
  refine WK.rs (g := [.a ⟨bv r2_1, []⟩]) (l' := [(.t 2, [.data (.val (.int .u8 n_v))]), (.t 3, [.ptr 3 0]), (.t 4, [.ptr 4 0]), (.t 14, [bv (!r2_1)]), (.o 3, [bv a.c0, bv a.c1, bv a.c2, bv a.c3, bv a.c4]), (.o 4, [bv b.c0, bv b.c1, bv b.c2, bv b.c3, bv b.c4])]) (by kernel_rfl) (.cons (Asks.of (C := Meets Try.prog) (diwanlaw10_begun.meets fu _ h2_2)) .nil) (by kernel_rfl) ?_
  rcases br_inv h with ⟨b3_0, h⟩ | ⟨b3_0, h⟩
  · refine WK.ct (b := (!r2_1)) (by kernel_rfl) b3_0 ?_
    refine WK.rs (g := []) (l' := [(.t 6, [bv false])]) (by kernel_rfl) .nil (by kernel_rfl) ?_
    refine WK.weak (l := [(.t 6, [bv false])]) (wk_of (by kernel_rfl)) ?_
    refine WK.ret (by kernel_rfl) ?_
    cases some_inj h
    exact WKe.fin (e' := .ret) (by kernel_rfl) (fin_of (g := []) (by first | exact .inl rfl | exact .inr rfl) .nil (by kernel_rfl))
  · refine WK.ce (b := (!r2_1)) (by kernel_rfl) b3_0 ?_
    refine WK.skip (by kernel_rfl) ?_
    refine WKe.code (y := (cR (cR bd4))) (ks' := []) (by kernel_rfl) ?_
    refine WK.rs (g := []) (l' := [(.t 3, [.ptr 3 0]), (.t 4, [.ptr 4 0]), (.t 7, [iv (w64 (1 + (w64 (Int.tmod n_v 5))))]), (.o 3, [bv a.c0, bv a.c1, bv a.c2, bv a.c3, bv a.c4]), (.o 4, [bv b.c0, bv b.c1, bv b.c2, bv b.c3, bv b.c4])]) (by kernel_rfl) (.cons (Eq.refl true) .nil) (by kernel_rfl) ?_
    refine WK.freeze (t := 3) (i := 3) (ds := [.val (.bool a.c0), .val (.bool a.c1), .val (.bool a.c2), .val (.bool a.c3), .val (.bool a.c4)]) (l1 := [(.t 4, [.ptr 4 0]), (.t 7, [iv (w64 (1 + (w64 (Int.tmod n_v 5))))]), (.o 4, [bv b.c0, bv b.c1, bv b.c2, bv b.c3, bv b.c4])]) (l' := [(.t 3, [.cptr [.val (.bool a.c0), .val (.bool a.c1), .val (.bool a.c2), .val (.bool a.c3), .val (.bool a.c4)]]), (.t 4, [.ptr 4 0]), (.t 7, [iv (w64 (1 + (w64 (Int.tmod n_v 5))))]), (.o 4, [bv b.c0, bv b.c1, bv b.c2, bv b.c3, bv b.c4])]) (by kernel_rfl) (by kernel_rfl) (by kernel_rfl) (by kernel_rfl) (wk_of (by kernel_rfl)) (by kernel_rfl) (wk_of (by kernel_rfl)) ?_
    refine WK.freeze (t := 4) (i := 4) (ds := [.val (.bool b.c0), .val (.bool b.c1), .val (.bool b.c2), .val (.bool b.c3), .val (.bool b.c4)]) (l1 := [(.t 3, [.cptr [.val (.bool a.c0), .val (.bool a.c1), .val (.bool a.c2), .val (.bool a.c3), .val (.bool a.c4)]]), (.t 7, [iv (w64 (1 + (w64 (Int.tmod n_v 5))))])]) (l' := [(.t 3, [.cptr [.val (.bool a.c0), .val (.bool a.c1), .val (.bool a.c2), .val (.bool a.c3), .val (.bool a.c4)]]), (.t 4, [.cptr [.val (.bool b.c0), .val (.bool b.c1), .val (.bool b.c2), .val (.bool b.c3), .val (.bool b.c4)]]), (.t 7, [iv (w64 (1 + (w64 (Int.tmod n_v 5))))])]) (by kernel_rfl) (by kernel_rfl) (by kernel_rfl) (by kernel_rfl) (wk_of (by kernel_rfl)) (by kernel_rfl) (wk_of (by kernel_rfl)) ?_
    obtain ⟨c6_1, h⟩ := gd_inv h
    obtain ⟨r6_2, h6_3, h⟩ := bd_inv h
    obtain ⟨c6_4, h⟩ := gd_inv h
    obtain ⟨r6_5, h6_6, h⟩ := bd_inv h
    refine WK.rs (g := [.s (.t 20) [.data (.slc false (some false) 1 (List.map e_b (List.take (w64 (1 + (w64 (Int.tmod n_v 5)))).toNat ([a.c0, a.c1, a.c2, a.c3, a.c4] : List Bool))))], .a ⟨iv r6_2, []⟩, .s (.t 23) [.data (.slc false (some false) 1 (List.map e_b (List.take (w64 (1 + (w64 (Int.tmod n_v 5)))).toNat ([b.c0, b.c1, b.c2, b.c3, b.c4] : List Bool))))], .a ⟨iv r6_5, []⟩]) (l' := [(.t 3, [.cptr [.val (.bool a.c0), .val (.bool a.c1), .val (.bool a.c2), .val (.bool a.c3), .val (.bool a.c4)]]), (.t 4, [.cptr [.val (.bool b.c0), .val (.bool b.c1), .val (.bool b.c2), .val (.bool b.c3), .val (.bool b.c4)]]), (.t 7, [iv (w64 (1 + (w64 (Int.tmod n_v 5))))]), (.t 8, [iv r6_2]), (.t 9, [iv r6_5]), (.t 10, [iv 0])]) (by kernel_rfl) (.cons (c_cbH (e := e_b) c6_1) (.cons (congrArg (fun d : DV => [AV.data d]) (c_cutH (own := false) (nl := some false) (s := 1) (e := e_b) (l := ([a.c0, a.c1, a.c2, a.c3, a.c4] : List Bool)) (h := (w64 (1 + (w64 (Int.tmod n_v 5)))).toNat))) (.cons (Asks.fg (args1 := []) (args2 := []) (nl := some false) (sz := 1) (es := List.map e_b (List.take (w64 (1 + (w64 (Int.tmod n_v 5)))).toNat ([a.c0, a.c1, a.c2, a.c3, a.c4] : List Bool))) (Asks.of (C := Meets Try.prog) (ballot_Many.meets fu (List.take (w64 (1 + (w64 (Int.tmod n_v 5)))).toNat ([a.c0, a.c1, a.c2, a.c3, a.c4] : List Bool)) _ h6_3))) (.cons (c_cbH (e := e_b) c6_4) (.cons (congrArg (fun d : DV => [AV.data d]) (c_cutH (own := false) (nl := some false) (s := 1) (e := e_b) (l := ([b.c0, b.c1, b.c2, b.c3, b.c4] : List Bool)) (h := (w64 (1 + (w64 (Int.tmod n_v 5)))).toNat))) (.cons (Asks.fg (args1 := []) (args2 := []) (nl := some false) (sz := 1) (es := List.map e_b (List.take (w64 (1 + (w64 (Int.tmod n_v 5)))).toNat ([b.c0, b.c1, b.c2, b.c3, b.c4] : List Bool))) (Asks.of (C := Meets Try.prog) (ballot_Many.meets fu (List.take (w64 (1 + (w64 (Int.tmod n_v 5)))).toNat ([b.c0, b.c1, b.c2, b.c3, b.c4] : List Bool)) _ h6_6))) (.cons (Eq.refl true) .nil))))))) (by kernel_rfl) ?_
    refine WK.seq (by kernel_rfl) ?_
    refine WK.rs (g := []) (l' := [(.t 3, [.cptr [.val (.bool a.c0), .val (.bool a.c1), .val (.bool a.c2), .val (.bool a.c3), .val (.bool a.c4)]]), (.t 4, [.cptr [.val (.bool b.c0), .val (.bool b.c1), .val (.bool b.c2), .val (.bool b.c3), .val (.bool b.c4)]]), (.t 7, [iv (w64 (1 + (w64 (Int.tmod n_v 5))))]), (.t 8, [iv r6_2]), (.t 9, [iv r6_5]), (.t 10, [iv 0]), (.t 11, [iv 0])]) (by kernel_rfl) .nil (by kernel_rfl) ?_
    refine WK.block (n := 0) (by kernel_rfl) ?_
    obtain ⟨o37, ho37, h⟩ := bd_inv h
    refine WK.weak (l := [(.t 3, [.cptr [.val (.bool a.c0), .val (.bool a.c1), .val (.bool a.c2), .val (.bool a.c3), .val (.bool a.c4)]]), (.t 4, [.cptr [.val (.bool b.c0), .val (.bool b.c1), .val (.bool b.c2), .val (.bool b.c3), .val (.bool b.c4)]]), (.t 7, [iv (w64 (1 + (w64 (Int.tmod n_v 5))))]), (.t 8, [iv r6_2]), (.t 9, [iv r6_5]), (.t 10, [iv 0]), (.t 11, [iv 0])]) (wk_of (by kernel_rfl)) ?_
    refine WK.use (diwanlaw10_BallotMeet.lp8_ok fu a.c0 a.c1 a.c2 a.c3 a.c4 b.c0 b.c1 b.c2 b.c3 b.c4 (w64 (1 + (w64 (Int.tmod n_v 5)))) r6_2 r6_5 _ 0 0 _ ho37) ?_
    intro e_ τ_ hp_
    obtain ⟨y37_0, rfl⟩ : ∃ y, y = o37 := ⟨_, rfl⟩
    obtain ⟨rfl, rfl⟩ := hp_
    refine WKe.code (y := (cR (cR (cR (cR (cR bd4)))))) (ks' := []) (by kernel_rfl) ?_
    obtain ⟨r38_1, h38_2, h⟩ := bd_inv h
    refine WK.rs (g := [.a ⟨iv r38_1, []⟩]) (l' := [(.t 7, [iv (w64 (1 + (w64 (Int.tmod n_v 5))))]), (.t 8, [iv r6_2]), (.t 9, [iv r6_5]), (.t 10, [iv y37_0]), (.t 12, [iv r38_1])]) (by kernel_rfl) (.cons (Asks.of (C := Meets Try.prog) (ballot_Majority.meets (w64 (1 + (w64 (Int.tmod n_v 5)))) _ h38_2)) .nil) (by kernel_rfl) ?_
    rcases br_inv h with ⟨b39_1, h⟩ | ⟨b39_1, h⟩
    · rcases br_inv h with ⟨b39_2, h⟩ | ⟨b39_2, h⟩
      · refine WK.rs (g := [.b true, .b true, .b true, .b true, .b true, .b true, .b true, .b true, .b true, .b true, .b true, .b true, .b true, .b true, .b true, .b true, .b true, .b true]) (l' := [(.t 6, [bv (decide ((w64 (2 * (w64 (r38_1 - 1)))) ≤ (w64 (1 + (w64 (Int.tmod n_v 5))))))])]) (by kernel_rfl) (.cons b39_1 (.cons b39_1 (.cons b39_1 (.cons b39_1 (.cons (Eq.refl true) (.cons (Eq.refl true) (.cons (Eq.refl true) (.cons (Eq.refl true) (.cons (Eq.refl true) (.cons (Eq.refl true) (.cons (Eq.refl true) (.cons (Eq.refl true) (.cons b39_2 (.cons b39_2 (.cons b39_2 (.cons b39_2 (.cons b39_2 (.cons b39_2 .nil)))))))))))))))))) (by kernel_rfl) ?_
        refine WK.weak (l := [(.t 6, [bv (decide ((w64 (2 * (w64 (r38_1 - 1)))) ≤ (w64 (1 + (w64 (Int.tmod n_v 5))))))])]) (wk_of (by kernel_rfl)) ?_
        refine WK.ret (by kernel_rfl) ?_
        cases some_inj h
        exact WKe.fin (e' := .ret) (by kernel_rfl) (fin_of (g := []) (by first | exact .inl rfl | exact .inr rfl) .nil (by kernel_rfl))
      · refine WK.rs (g := [.b true, .b true, .b true, .b true, .b true, .b true, .b true, .b true, .b true, .b true, .b true, .b true, .b false, .b false, .b false, .b false, .b false, .b false]) (l' := [(.t 6, [bv false])]) (by kernel_rfl) (.cons b39_1 (.cons b39_1 (.cons b39_1 (.cons b39_1 (.cons (Eq.refl true) (.cons (Eq.refl true) (.cons (Eq.refl true) (.cons (Eq.refl true) (.cons (Eq.refl true) (.cons (Eq.refl true) (.cons (Eq.refl true) (.cons (Eq.refl true) (.cons b39_2 (.cons b39_2 (.cons b39_2 (.cons b39_2 (.cons b39_2 (.cons b39_2 .nil)))))))))))))))))) (by kernel_rfl) ?_
        refine WK.weak (l := [(.t 6, [bv false])]) (wk_of (by kernel_rfl)) ?_
        refine WK.ret (by kernel_rfl) ?_
        cases some_inj h
        exact WKe.fin (e' := .ret) (by kernel_rfl) (fin_of (g := []) (by first | exact .inl rfl | exact .inr rfl) .nil (by kernel_rfl))
    · rcases br_inv h with ⟨b39_2, h⟩ | ⟨b39_2, h⟩
      · rcases br_inv h with ⟨b39_3, h⟩ | ⟨b39_3, h⟩
        · refine WK.rs (g := [.b false, .b false, .b false, .b false, .b true, .b true, .b true, .b true, .b true, .b true, .b true, .b true, .b true, .b true, .b true, .b true, .b true, .b true]) (l' := [(.t 6, [bv (decide ((w64 (2 * (w64 (r38_1 - 1)))) ≤ (w64 (1 + (w64 (Int.tmod n_v 5))))))])]) (by kernel_rfl) (.cons b39_1 (.cons b39_1 (.cons b39_1 (.cons b39_1 (.cons b39_2 (.cons b39_2 (.cons b39_2 (.cons (Eq.refl true) (.cons (Eq.refl true) (.cons (Eq.refl true) (.cons (Eq.refl true) (.cons (Eq.refl true) (.cons b39_3 (.cons b39_3 (.cons b39_3 (.cons b39_3 (.cons b39_3 (.cons b39_3 .nil)))))))))))))))))) (by kernel_rfl) ?_
          refine WK.weak (l := [(.t 6, [bv (decide ((w64 (2 * (w64 (r38_1 - 1)))) ≤ (w64 (1 + (w64 (Int.tmod n_v 5))))))])]) (wk_of (by kernel_rfl)) ?_
          refine WK.ret (by kernel_rfl) ?_
          cases some_inj h
          exact WKe.fin (e' := .ret) (by kernel_rfl) (fin_of (g := []) (by first | exact .inl rfl | exact .inr rfl) .nil (by kernel_rfl))
        · refine WK.rs (g := [.b false, .b false, .b false, .b false, .b true, .b true, .b true, .b true, .b true, .b true, .b true, .b true, .b false, .b false, .b false, .b false, .b false, .b false]) (l' := [(.t 6, [bv false])]) (by kernel_rfl) (.cons b39_1 (.cons b39_1 (.cons b39_1 (.cons b39_1 (.cons b39_2 (.cons b39_2 (.cons b39_2 (.cons (Eq.refl true) (.cons (Eq.refl true) (.cons (Eq.refl true) (.cons (Eq.refl true) (.cons (Eq.refl true) (.cons b39_3 (.cons b39_3 (.cons b39_3 (.cons b39_3 (.cons b39_3 (.cons b39_3 .nil)))))))))))))))))) (by kernel_rfl) ?_
          refine WK.weak (l := [(.t 6, [bv false])]) (wk_of (by kernel_rfl)) ?_
          refine WK.ret (by kernel_rfl) ?_
          cases some_inj h
          exact WKe.fin (e' := .ret) (by kernel_rfl) (fin_of (g := []) (by first | exact .inl rfl | exact .inr rfl) .nil (by kernel_rfl))
      · rcases br_inv h with ⟨b39_3, h⟩ | ⟨b39_3, h⟩
        · rcases br_inv h with ⟨b39_4, h⟩ | ⟨b39_4, h⟩
          · refine WK.rs (g := [.b false, .b false, .b false, .b false, .b false, .b false, .b false, .b true, .b true, .b true, .b true, .b true, .b true, .b true, .b true, .b true, .b true, .b true]) (l' := [(.t 6, [bv (decide ((w64 (2 * (w64 (r38_1 - 1)))) ≤ (w64 (1 + (w64 (Int.tmod n_v 5))))))])]) (by kernel_rfl) (.cons b39_1 (.cons b39_1 (.cons b39_1 (.cons b39_1 (.cons b39_2 (.cons b39_2 (.cons b39_2 (.cons b39_3 (.cons b39_3 (.cons b39_3 (.cons b39_3 (.cons b39_3 (.cons b39_4 (.cons b39_4 (.cons b39_4 (.cons b39_4 (.cons b39_4 (.cons b39_4 .nil)))))))))))))))))) (by kernel_rfl) ?_
            refine WK.weak (l := [(.t 6, [bv (decide ((w64 (2 * (w64 (r38_1 - 1)))) ≤ (w64 (1 + (w64 (Int.tmod n_v 5))))))])]) (wk_of (by kernel_rfl)) ?_
            refine WK.ret (by kernel_rfl) ?_
            cases some_inj h
            exact WKe.fin (e' := .ret) (by kernel_rfl) (fin_of (g := []) (by first | exact .inl rfl | exact .inr rfl) .nil (by kernel_rfl))
          · refine WK.rs (g := [.b false, .b false, .b false, .b false, .b false, .b false, .b false, .b true, .b true, .b true, .b true, .b true, .b false, .b false, .b false, .b false, .b false, .b false]) (l' := [(.t 6, [bv false])]) (by kernel_rfl) (.cons b39_1 (.cons b39_1 (.cons b39_1 (.cons b39_1 (.cons b39_2 (.cons b39_2 (.cons b39_2 (.cons b39_3 (.cons b39_3 (.cons b39_3 (.cons b39_3 (.cons b39_3 (.cons b39_4 (.cons b39_4 (.cons b39_4 (.cons b39_4 (.cons b39_4 (.cons b39_4 .nil)))))))))))))))))) (by kernel_rfl) ?_
            refine WK.weak (l := [(.t 6, [bv false])]) (wk_of (by kernel_rfl)) ?_
            refine WK.ret (by kernel_rfl) ?_
            cases some_inj h
            exact WKe.fin (e' := .ret) (by kernel_rfl) (fin_of (g := []) (by first | exact .inl rfl | exact .inr rfl) .nil (by kernel_rfl))
        · refine WK.rs (g := [.b false, .b false, .b false, .b false, .b false, .b false, .b false, .b false, .b false, .b false, .b false, .b false, .b false, .b false, .b false, .b false, .b false, .b false]) (l' := [(.t 6, [bv false])]) (by kernel_rfl) (.cons b39_1 (.cons b39_1 (.cons b39_1 (.cons b39_1 (.cons b39_2 (.cons b39_2 (.cons b39_2 (.cons b39_3 (.cons b39_3 (.cons b39_3 (.cons b39_3 (.cons b39_3 (.cons (Eq.refl false) (.cons (Eq.refl false) (.cons (Eq.refl false) (.cons (Eq.refl false) (.cons (Eq.refl false) (.cons (Eq.refl false) .nil)))))))))))))))))) (by kernel_rfl) ?_
          refine WK.weak (l := [(.t 6, [bv false])]) (wk_of (by kernel_rfl)) ?_
          refine WK.ret (by kernel_rfl) ?_
          cases some_inj h
          exact WKe.fin (e' := .ret) (by kernel_rfl) (fin_of (g := []) (by first | exact .inl rfl | exact .inr rfl) .nil (by kernel_rfl))
end Go.Proofs.Ytfhnapifgniiiaa.Told
