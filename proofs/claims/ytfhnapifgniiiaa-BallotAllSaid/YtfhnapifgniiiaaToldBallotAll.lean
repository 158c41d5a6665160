/- Functions of the program told as Lean functions, with the walks of their code in the machine by value. -/
import Derived.Test.YtfhnapifgniiiaaProg
import Derived.Test.YtfhnapifgniiiaaVam2
namespace Go.Proofs.Ytfhnapifgniiiaa.Told
open Go Go.Proofs Go.Proofs.Ytfhnapifgniiiaa Go.Proofs.Ytfhnapifgniiiaa.Vam
set_option linter.unusedVariables false
set_option maxRecDepth 100000
theorem hmix : Try.prog.follows .mixedOrders = true := by kernel_rfl
structure TRead where
  Key : ByteArray
  Version : Int
  Val : ByteArray
  There : Bool
def TRead.en (x : TRead) : List DV := [.val (.string x.Key), .val (.int .i64 x.Version), .val (.string x.Val), .val (.bool x.There)]
structure TWrite where
  Key : ByteArray
  Val : ByteArray
  Gone : Bool
def TWrite.en (x : TWrite) : List DV := [.val (.string x.Key), .val (.string x.Val), .val (.bool x.Gone)]
structure TTxn where
  Session : Int
  Seq : Int
  Reads : (List TRead)
  Writes : (List TWrite)
def TTxn.en (x : TTxn) : List DV := [.val (.int .i64 x.Session), .val (.int .i64 x.Seq), .slc false none 4 (List.map TRead.en x.Reads), .slc false none 3 (List.map TWrite.en x.Writes)]
structure TEntry where
  Term : Int
  Seal : Bool
  T : TTxn
def TEntry.en (x : TEntry) : List DV := [.val (.int .i64 x.Term), .val (.bool x.Seal), .val (.int .i64 x.T.Session), .val (.int .i64 x.T.Seq), .slc false none 4 (List.map TRead.en x.T.Reads), .slc false none 3 (List.map TWrite.en x.T.Writes)]
structure TPicks where
  l : (List Int)
  n : Int
def TPicks.en (x : TPicks) : List DV := [.slc false none 1 (List.map e_u8 x.l), .val (.int .i64 x.n)]
/-- diwan/ballot.Majority -/
noncomputable def bd13 : Code := (Try.f13.body).getD .skip
def ballot_Majority.O : Nat → Nat := fun t => bif ([2] : List Nat).any (Nat.beq t) then 1 else 0
noncomputable def ballot_Majority (n_v : Int) : Option Int :=
  some (w64 ((w64 (Int.tdiv n_v 2)) + 1))
theorem ballot_Majority.meets (n_v : Int) (z0 : Int) (h : ballot_Majority n_v = some z0) : Meets Try.prog ⟨13, [iv n_v], []⟩ ⟨iv z0, []⟩ := by
  refine meets_of (O := ballot_Majority.O) hmix (fn := Try.f13) (code := bd13) (by kernel_rfl) ?_
  refine WK.weak (l := [(.t 0, [iv n_v])]) (wk_of (by kernel_rfl)) ?_
  unfold ballot_Majority at h
  refine WK.rs (g := []) (l' := [(.t 0, [iv n_v])]) (by kernel_rfl) .nil (by kernel_rfl) ?_
  refine WK.rs (g := []) (l' := [(.t 2, [iv (w64 ((w64 (Int.tdiv n_v 2)) + 1))])]) (by kernel_rfl) (.cons (Eq.refl true) .nil) (by kernel_rfl) ?_
  refine WK.weak (l := [(.t 2, [iv (w64 ((w64 (Int.tdiv n_v 2)) + 1))])]) (wk_of (by kernel_rfl)) ?_
  refine WK.ret (by kernel_rfl) ?_
  cases some_inj h
  exact WKe.fin (e' := .ret) (by kernel_rfl) (fin_of (g := []) (by first | exact .inl rfl | exact .inr rfl) .nil (by kernel_rfl))
/-- diwan/ballot.Many -/
noncomputable def bd14 : Code := (Try.f14.body).getD .skip
def ballot_Many.O : Nat → Nat := fun t => bif ([2] : List Nat).any (Nat.beq t) then 1 else 0
noncomputable def ballot_Many.lp3 (fu : Nat) (l3_1 : List Bool) (l3_2 : Int) : Nat → Int → Int → Option Int
  | 0, _, _ => none
  | n_ + 1, l3_0, l3_3 =>
    br (decide (l3_3 < l3_2))
      (ix l3_1 l3_3 fun x6_1 =>
      br x6_1
        (ballot_Many.lp3 fu l3_1 l3_2 n_ (w64 (l3_0 + 1)) (w64 (l3_3 + 1)))
        (ballot_Many.lp3 fu l3_1 l3_2 n_ l3_0 (w64 (l3_3 + 1))))
      (some l3_0)
noncomputable def ballot_Many.lp3_post (l3_1 : List Bool) (l3_2 : Int) (r_ : Int) : Wy → St → Prop := fun e τ => match r_ with
  | y0 => e = .exit 0 ∧ τ = ofL [(.t 2, [iv y0])]
theorem ballot_Many.lp3_ok (fu : Nat) (l3_1 : List Bool) (l3_2 : Int) : ∀ (n_ : Nat) (l3_0 : Int) (l3_3 : Int) (r_ : Int), ballot_Many.lp3 fu l3_1 l3_2 n_ l3_0 l3_3 = some r_ → WK Try.prog ballot_Many.O (Ck Try.prog) (cB (cR (cL (cR bd14)))) [] (ofL [(.t 2, [iv l3_0]), (.t 5, [.data (.slc false none 1 (List.map e_b l3_1))]), (.t 6, [iv l3_2]), (.t 7, [iv l3_3])]) (ballot_Many.lp3_post l3_1 l3_2 r_) := by
  intro n_
  induction n_ with
  | zero => intro l3_0 l3_3 r_ h; exact no_none h
  | succ n_ ih =>
    intro l3_0 l3_3 r_ h
    refine WK.loop (by kernel_rfl) ?_
    refine WK.rs (g := []) (l' := [(.t 2, [iv l3_0]), (.t 5, [.data (.slc false none 1 (List.map e_b l3_1))]), (.t 6, [iv l3_2]), (.t 7, [iv l3_3]), (.t 8, [bv (decide (l3_3 < l3_2))])]) (by kernel_rfl) .nil (by kernel_rfl) ?_
    refine WK.seq (by kernel_rfl) ?_
    rcases br_inv h with ⟨b5_0, h⟩ | ⟨b5_0, h⟩
    · refine WK.ct (b := (decide (l3_3 < l3_2))) (by kernel_rfl) b5_0 ?_
      refine WK.skip (by kernel_rfl) ?_
      refine WKe.code (y := (cR (cR (cB (cB (cR (cL (cR bd14)))))))) (ks' := [.lp (cB (cR (cL (cR bd14))))]) (by kernel_rfl) ?_
      refine WK.seq (by kernel_rfl) ?_
      refine WK.block (n := 1) (by kernel_rfl) ?_
      obtain ⟨x6_1, a6_2, e6_3, h⟩ := ix_inv h
      refine WK.rs (g := [.c (e_b x6_1)]) (l' := [(.t 2, [iv l3_0]), (.t 4, [bv x6_1]), (.t 5, [.data (.slc false none 1 (List.map e_b l3_1))]), (.t 6, [iv l3_2]), (.t 7, [iv l3_3])]) (by kernel_rfl) (.cons (c_ix (e := e_b) a6_2 e6_3) (.cons (c_el (e := e_b) e6_3) .nil)) (by kernel_rfl) ?_
      refine WK.rs (g := []) (l' := [(.t 2, [iv l3_0]), (.t 5, [.data (.slc false none 1 (List.map e_b l3_1))]), (.t 6, [iv l3_2]), (.t 7, [iv l3_3]), (.t 11, [bv x6_1])]) (by kernel_rfl) .nil (by kernel_rfl) ?_
      rcases br_inv h with ⟨b8_0, h⟩ | ⟨b8_0, h⟩
      · refine WK.ct (b := x6_1) (by kernel_rfl) b8_0 ?_
        refine WK.rc (g := []) (l' := [(.t 2, [iv (w64 (l3_0 + 1))]), (.t 5, [.data (.slc false none 1 (List.map e_b l3_1))]), (.t 6, [iv l3_2]), (.t 7, [iv l3_3])]) .nil (by kernel_rfl) (y := (cR (cR (cR (cB (cB (cR (cL (cR bd14))))))))) (ks' := [.lp (cB (cR (cL (cR bd14))))]) (by kernel_rfl) ?_
        refine WK.rc (g := []) (l' := [(.t 2, [iv (w64 (l3_0 + 1))]), (.t 5, [.data (.slc false none 1 (List.map e_b l3_1))]), (.t 6, [iv l3_2]), (.t 7, [iv (w64 (l3_3 + 1))])]) .nil (by kernel_rfl) (y := (cB (cR (cL (cR bd14))))) (ks' := []) (by kernel_rfl) ?_
        exact WK.weak (l := [(.t 2, [iv (w64 (l3_0 + 1))]), (.t 5, [.data (.slc false none 1 (List.map e_b l3_1))]), (.t 6, [iv l3_2]), (.t 7, [iv (w64 (l3_3 + 1))])]) (wk_of (by kernel_rfl)) (ih (w64 (l3_0 + 1)) (w64 (l3_3 + 1)) _ h)
      · refine WK.ce (b := x6_1) (by kernel_rfl) b8_0 ?_
        refine WK.skip (by kernel_rfl) ?_
        refine WKe.code (y := (cR (cR (cR (cB (cB (cR (cL (cR bd14))))))))) (ks' := [.lp (cB (cR (cL (cR bd14))))]) (by kernel_rfl) ?_
        refine WK.rc (g := []) (l' := [(.t 2, [iv l3_0]), (.t 5, [.data (.slc false none 1 (List.map e_b l3_1))]), (.t 6, [iv l3_2]), (.t 7, [iv (w64 (l3_3 + 1))])]) .nil (by kernel_rfl) (y := (cB (cR (cL (cR bd14))))) (ks' := []) (by kernel_rfl) ?_
        exact WK.weak (l := [(.t 2, [iv l3_0]), (.t 5, [.data (.slc false none 1 (List.map e_b l3_1))]), (.t 6, [iv l3_2]), (.t 7, [iv (w64 (l3_3 + 1))])]) (wk_of (by kernel_rfl)) (ih l3_0 (w64 (l3_3 + 1)) _ h)
    · refine WK.ce (b := (decide (l3_3 < l3_2))) (by kernel_rfl) b5_0 ?_
      refine WK.weak (l := [(.t 2, [iv l3_0])]) (wk_of (by kernel_rfl)) ?_
      refine WK.exit (n := 0) (by kernel_rfl) ?_
      cases some_inj h
      exact WKe.fin (e' := .exit 0) (by kernel_rfl) ⟨rfl, rfl⟩
noncomputable def ballot_Many (fu : Nat) (votes : List Bool) : Option Int :=
  bd (ballot_Many.lp3 fu votes (votes.length : Int) fu 0 0) fun y12_0 =>
  some y12_0
theorem ballot_Many.meets (fu : Nat) (votes : List Bool) (z0 : Int) (h : ballot_Many fu votes = some z0) : Meets Try.prog ⟨14, [.data (.slc false none 1 (List.map e_b votes))], []⟩ ⟨iv z0, []⟩ := by
  refine meets_of (O := ballot_Many.O) hmix (fn := Try.f14) (code := bd14) (by kernel_rfl) ?_
  refine WK.weak (l := [(.t 0, [.data (.slc false none 1 (List.map e_b votes))])]) (wk_of (by kernel_rfl)) ?_
  unfold ballot_Many at h
  refine WK.rs (g := []) (l' := [(.t 0, [.data (.slc false none 1 (List.map e_b votes))]), (.t 2, [iv 0])]) (by kernel_rfl) .nil (by kernel_rfl) ?_
  refine WK.seq (by kernel_rfl) ?_
  refine WK.rs (g := [.s (.t 6) [iv (votes.length : Int)]]) (l' := [(.t 2, [iv 0]), (.t 5, [.data (.slc false none 1 (List.map e_b votes))]), (.t 6, [iv (votes.length : Int)]), (.t 7, [iv 0])]) (by kernel_rfl) (.cons (c_len (e := e_b) (l := votes)) .nil) (by kernel_rfl) ?_
  refine WK.block (n := 0) (by kernel_rfl) ?_
  obtain ⟨o12, ho12, h⟩ := bd_inv h
  refine WK.weak (l := [(.t 2, [iv 0]), (.t 5, [.data (.slc false none 1 (List.map e_b votes))]), (.t 6, [iv (votes.length : Int)]), (.t 7, [iv 0])]) (wk_of (by kernel_rfl)) ?_
  refine WK.use (ballot_Many.lp3_ok fu votes (votes.length : Int) _ 0 0 _ ho12) ?_
  intro e_ τ_ hp_
  obtain ⟨y12_0, rfl⟩ : ∃ y, y = o12 := ⟨_, rfl⟩
  obtain ⟨rfl, rfl⟩ := hp_
  refine WKe.code (y := (cR (cR bd14))) (ks' := []) (by kernel_rfl) ?_
  refine WK.rs (g := []) (l' := [(.t 2, [iv y12_0])]) (by kernel_rfl) .nil (by kernel_rfl) ?_
  refine WK.weak (l := [(.t 2, [iv y12_0])]) (wk_of (by kernel_rfl)) ?_
  refine WK.ret (by kernel_rfl) ?_
  cases some_inj h
  exact WKe.fin (e' := .ret) (by kernel_rfl) (fin_of (g := []) (by first | exact .inl rfl | exact .inr rfl) .nil (by kernel_rfl))
/-- slices.Clone[[]int,int] -/
noncomputable def bd22 : Code := (Try.f22.body).getD .skip
def slices_Clone_int_int.O : Nat → Nat := fun t => bif ([2, 5] : List Nat).any (Nat.beq t) then 1 else 0
noncomputable def slices_Clone_int_int (s : List Int) : Option (List Int) :=
  gd (decide (([] : List Int).length + s.length ≤ 4294967296)) <|
  some s
theorem slices_Clone_int_int.meets1 (s : List Int) (z0 : List Int) (h : slices_Clone_int_int s = some z0) : Meets Try.prog ⟨22, [.data (.slc false (some false) 1 (List.map e_i64 s))], []⟩ ⟨.data (.slc true none 1 (List.map e_i64 z0)), []⟩ := by
  refine meets_of (O := slices_Clone_int_int.O) hmix (fn := Try.f22) (code := bd22) (by kernel_rfl) ?_
  refine WK.weak (l := [(.t 0, [.data (.slc false (some false) 1 (List.map e_i64 s))])]) (wk_of (by kernel_rfl)) ?_
  unfold slices_Clone_int_int at h
  refine WK.rs (g := []) (l' := [(.t 0, [.data (.slc false (some false) 1 (List.map e_i64 s))])]) (by kernel_rfl) .nil (by kernel_rfl) ?_
  refine WK.seq (by kernel_rfl) ?_
  refine WK.rs (g := []) (l' := [(.t 0, [.data (.slc false (some false) 1 (List.map e_i64 s))]), (.t 4, [bv false])]) (by kernel_rfl) .nil (by kernel_rfl) ?_
  refine WK.ce (b := false) (by kernel_rfl) rfl ?_
  refine WK.skip (by kernel_rfl) ?_
  refine WKe.code (y := (cR (cR bd22))) (ks' := []) (by kernel_rfl) ?_
  obtain ⟨c5_1, h⟩ := gd_inv h
  refine WK.rs (g := []) (l' := [(.t 2, [.data (.slc true none 1 (List.map e_i64 s))])]) (by kernel_rfl) (.cons (c_al (e := e_i64) (f := e_i64) c5_1) .nil) (by kernel_rfl) ?_
  refine WK.weak (l := [(.t 2, [.data (.slc true none 1 (List.map e_i64 s))])]) (wk_of (by kernel_rfl)) ?_
  refine WK.ret (by kernel_rfl) ?_
  cases some_inj h
  exact WKe.fin (e' := .ret) (by kernel_rfl) (fin_of (g := []) (by first | exact .inl rfl | exact .inr rfl) .nil (by kernel_rfl))
noncomputable def slices_Clone_int_int_nil : Option (List Int) :=
  some []
theorem slices_Clone_int_int.meets0 (z0 : List Int) (h : slices_Clone_int_int_nil = some z0) : Meets Try.prog ⟨22, [.data (.slc false (some true) 1 (List.map e_i64 []))], []⟩ ⟨.data (.slc true none 1 (List.map e_i64 z0)), []⟩ := by
  refine meets_of (O := slices_Clone_int_int.O) hmix (fn := Try.f22) (code := bd22) (by kernel_rfl) ?_
  refine WK.weak (l := [(.t 0, [.data (.slc false (some true) 1 (List.map e_i64 []))])]) (wk_of (by kernel_rfl)) ?_
  unfold slices_Clone_int_int_nil at h
  refine WK.rs (g := []) (l' := [(.t 0, [.data (.slc false (some true) 1 (List.map e_i64 []))])]) (by kernel_rfl) .nil (by kernel_rfl) ?_
  refine WK.seq (by kernel_rfl) ?_
  refine WK.rs (g := []) (l' := [(.t 0, [.data (.slc false (some true) 1 (List.map e_i64 []))]), (.t 4, [bv true])]) (by kernel_rfl) .nil (by kernel_rfl) ?_
  refine WK.ct (b := true) (by kernel_rfl) rfl ?_
  refine WK.rs (g := []) (l' := [(.t 2, [.data (.slc true (some true) 1 (List.map e_i64 []))])]) (by kernel_rfl) .nil (by kernel_rfl) ?_
  refine WK.weak (l := [(.t 2, [.data (.slc true none 1 (List.map e_i64 []))])]) (wk_of (by kernel_rfl)) ?_
  refine WK.ret (by kernel_rfl) ?_
  cases some_inj h
  exact WKe.fin (e' := .ret) (by kernel_rfl) (fin_of (g := []) (by first | exact .inl rfl | exact .inr rfl) .nil (by kernel_rfl))
theorem slices_Clone_int_int.nil_eq : slices_Clone_int_int [] = slices_Clone_int_int_nil := by kernel_rfl
theorem slices_Clone_int_int.meets (s : List Int) (z0 : List Int) (h : slices_Clone_int_int s = some z0) : Meets Try.prog ⟨22, [.data (.slc false none 1 (List.map e_i64 s))], []⟩ ⟨.data (.slc true none 1 (List.map e_i64 z0)), []⟩ := by
  refine asks_ok (C := Meets Try.prog) (fun _ _ h => h) (Asks.nil (args1 := []) (args2 := []) (sz := 1) (es := List.map e_i64 s) (fun e => .of ?_) (.of (slices_Clone_int_int.meets1 s z0 h)))
  obtain rfl : s = [] := List.map_eq_nil_iff.1 e
  exact slices_Clone_int_int.meets0 z0 (slices_Clone_int_int.nil_eq  ▸ h)
/-- (diwan/ballot.heads).Len -/
noncomputable def bd24 : Code := (Try.f24.body).getD .skip
def ballot_heads_Len.O : Nat → Nat := fun t => bif ([2] : List Nat).any (Nat.beq t) then 1 else 0
noncomputable def ballot_heads_Len (h_v : List Int) : Option Int :=
  some (h_v.length : Int)
theorem ballot_heads_Len.meets (h_v : List Int) (z0 : Int) (h : ballot_heads_Len h_v = some z0) : Meets Try.prog ⟨24, [.data (.slc false none 1 (List.map e_i64 h_v))], []⟩ ⟨iv z0, []⟩ := by
  refine meets_of (O := ballot_heads_Len.O) hmix (fn := Try.f24) (code := bd24) (by kernel_rfl) ?_
  refine WK.weak (l := [(.t 0, [.data (.slc false none 1 (List.map e_i64 h_v))])]) (wk_of (by kernel_rfl)) ?_
  unfold ballot_heads_Len at h
  refine WK.rs (g := []) (l' := [(.t 0, [.data (.slc false none 1 (List.map e_i64 h_v))])]) (by kernel_rfl) .nil (by kernel_rfl) ?_
  refine WK.rs (g := [.s (.t 4) [iv (h_v.length : Int)]]) (l' := [(.t 2, [iv (h_v.length : Int)])]) (by kernel_rfl) (.cons (c_len (e := e_i64) (l := h_v)) .nil) (by kernel_rfl) ?_
  refine WK.weak (l := [(.t 2, [iv (h_v.length : Int)])]) (wk_of (by kernel_rfl)) ?_
  refine WK.ret (by kernel_rfl) ?_
  cases some_inj h
  exact WKe.fin (e' := .ret) (by kernel_rfl) (fin_of (g := []) (by first | exact .inl rfl | exact .inr rfl) .nil (by kernel_rfl))
/-- (diwan/ballot.heads).Less -/
noncomputable def bd49 : Code := (Try.f49.body).getD .skip
def ballot_heads_Less.O : Nat → Nat := fun t => bif ([6] : List Nat).any (Nat.beq t) then 1 else 0
noncomputable def ballot_heads_Less (h_v : List Int) (i : Int) (k_v : Int) : Option Bool :=
  ix h_v i fun x2_1 =>
  ix h_v k_v fun x2_4 =>
  some (decide (x2_1 > x2_4))
theorem ballot_heads_Less.meets (h_v : List Int) (i : Int) (k_v : Int) (z0 : Bool) (h : ballot_heads_Less h_v i k_v = some z0) : Meets Try.prog ⟨49, [.data (.slc false none 1 (List.map e_i64 h_v)), iv i, iv k_v], []⟩ ⟨bv z0, []⟩ := by
  refine meets_of (O := ballot_heads_Less.O) hmix (fn := Try.f49) (code := bd49) (by kernel_rfl) ?_
  refine WK.weak (l := [(.t 0, [.data (.slc false none 1 (List.map e_i64 h_v))]), (.t 1, [iv i]), (.t 2, [iv k_v])]) (wk_of (by kernel_rfl)) ?_
  unfold ballot_heads_Less at h
  refine WK.rs (g := []) (l' := [(.t 0, [.data (.slc false none 1 (List.map e_i64 h_v))]), (.t 1, [iv i]), (.t 2, [iv k_v])]) (by kernel_rfl) .nil (by kernel_rfl) ?_
  obtain ⟨x2_1, a2_2, e2_3, h⟩ := ix_inv h
  obtain ⟨x2_4, a2_5, e2_6, h⟩ := ix_inv h
  refine WK.rs (g := [.c (e_i64 x2_1), .c (e_i64 x2_4)]) (l' := [(.t 6, [bv (decide (x2_1 > x2_4))])]) (by kernel_rfl) (.cons (c_ix (e := e_i64) a2_2 e2_3) (.cons (c_el (e := e_i64) e2_3) (.cons (c_ix (e := e_i64) a2_5 e2_6) (.cons (c_el (e := e_i64) e2_6) (.cons (Eq.refl true) .nil))))) (by kernel_rfl) ?_
  refine WK.weak (l := [(.t 6, [bv (decide (x2_1 > x2_4))])]) (wk_of (by kernel_rfl)) ?_
  refine WK.ret (by kernel_rfl) ?_
  cases some_inj h
  exact WKe.fin (e' := .ret) (by kernel_rfl) (fin_of (g := []) (by first | exact .inl rfl | exact .inr rfl) .nil (by kernel_rfl))
/-- (diwan/ballot.heads).Swap -/
noncomputable def bd50 : Code := (Try.f50.body).getD .skip
def ballot_heads_Swap.O : Nat → Nat := fun t => bif ([] : List Nat).any (Nat.beq t) then 1 else 0
noncomputable def ballot_heads_Swap (i : Int) (k_v : Int) (o0_v : List Int) : Option (List Int) :=
  ix o0_v k_v fun x1_1 =>
  ix o0_v i fun x1_4 =>
  ix o0_v i fun x1_7 =>
  ix (o0_v.set i.toNat x1_1) k_v fun x1_10 =>
  some ((o0_v.set i.toNat x1_1).set k_v.toNat x1_4)
theorem ballot_heads_Swap.meets (i : Int) (k_v : Int) (o0_v : List Int) (z0 : List Int) (h : ballot_heads_Swap i k_v o0_v = some z0) : Meets Try.prog ⟨50, [.ref (.o 1000) 0 0 none, iv i, iv k_v], [[.data (.slc true none 1 (List.map e_i64 o0_v))]]⟩ ⟨.tup [], [[.data (.slc true none 1 (List.map e_i64 z0))]]⟩ := by
  refine meets_of (O := ballot_heads_Swap.O) hmix (fn := Try.f50) (code := bd50) (by kernel_rfl) ?_
  refine WK.weak (l := [(.t 0, [.ref (.o 1000) 0 0 none]), (.t 1, [iv i]), (.t 2, [iv k_v]), (.o 1000, [.data (.slc true none 1 (List.map e_i64 o0_v))])]) (wk_of (by kernel_rfl)) ?_
  unfold ballot_heads_Swap at h
  obtain ⟨x1_1, a1_2, e1_3, h⟩ := ix_inv h
  obtain ⟨x1_4, a1_5, e1_6, h⟩ := ix_inv h
  obtain ⟨x1_7, a1_8, e1_9, h⟩ := ix_inv h
  obtain ⟨x1_10, a1_11, e1_12, h⟩ := ix_inv h
  cases some_inj h
  exact WK.rf (g := [.c (e_i64 x1_1), .c (e_i64 x1_4), .c (e_i64 x1_7), .s (.o 1000) [.data (.slc true none 1 (List.map e_i64 (o0_v.set i.toNat x1_1)))], .c (e_i64 x1_10), .s (.o 1000) [.data (.slc true none 1 (List.map e_i64 ((o0_v.set i.toNat x1_1).set k_v.toNat x1_4)))]]) (.cons (c_ix (e := e_i64) a1_2 e1_3) (.cons (c_el (e := e_i64) e1_3) (.cons (c_ix (e := e_i64) a1_5 e1_6) (.cons (c_el (e := e_i64) e1_6) (.cons (c_ix (e := e_i64) a1_8 e1_9) (.cons (c_el (e := e_i64) e1_9) (.cons (congrArg (fun d : DV => [AV.data d]) (c_set (e := e_i64) (s := 1) (nl := none) (l := o0_v) (i := i.toNat) (x := x1_1))) (.cons (c_ix (e := e_i64) a1_11 e1_12) (.cons (c_el (e := e_i64) e1_12) (.cons (congrArg (fun d : DV => [AV.data d]) (c_set (e := e_i64) (s := 1) (nl := none) (l := (o0_v.set i.toNat x1_1)) (i := k_v.toNat) (x := x1_4))) (.cons (Eq.refl true) .nil))))))))))) (by kernel_rfl) (by kernel_rfl)
/-- container/heap.down -/
noncomputable def bd30 : Code := (Try.f30.body).getD .skip
def heap_down.O : Nat → Nat := fun t => bif ([6, 8, 10] : List Nat).any (Nat.beq t) then 1 else bif ([43] : List Nat).any (Nat.beq t) then 3 else 0
noncomputable def heap_down.lp3 (fu : Nat) (l3_0 : Int) (l3_1 : Int) : Nat → Int → (List Int) → Option (Int × List Int)
  | 0, _, _ => none
  | n_ + 1, l3_2, l3_3 =>
    br (decide ((w64 ((w64 (2 * l3_2)) + 1)) ≥ l3_1))
      (some (l3_2, l3_3))
      (br (decide ((w64 ((w64 (2 * l3_2)) + 1)) < 0))
        (some (l3_2, l3_3))
        (jn (fun (j12_3 : Int) =>
          bd (ballot_heads_Less l3_3 j12_3 l3_2) fun r13_1 =>
          br (!r13_1)
            (some (l3_2, l3_3))
            (bd (ballot_heads_Swap l3_2 j12_3 l3_3) fun r15_1 =>
            heap_down.lp3 fu l3_0 l3_1 n_ j12_3 r15_1)) fun k12 =>
        br (decide ((w64 ((w64 ((w64 (2 * l3_2)) + 1)) + 1)) < l3_1))
          (bd (ballot_heads_Less l3_3 (w64 ((w64 ((w64 (2 * l3_2)) + 1)) + 1)) (w64 ((w64 (2 * l3_2)) + 1))) fun r9_2 =>
          br r9_2
            (k12 (w64 ((w64 ((w64 (2 * l3_2)) + 1)) + 1)))
            (k12 (w64 ((w64 (2 * l3_2)) + 1))))
          (k12 (w64 ((w64 (2 * l3_2)) + 1)))))
noncomputable def heap_down.lp3_post (l3_0 : Int) (l3_1 : Int) (r_ : (Int × List Int)) : Wy → St → Prop := fun e τ => match r_ with
  | (y0, y1) => e = .exit 0 ∧ τ = ofL [(.t 1, [iv l3_0]), (.t 7, [iv y0]), (.o 1000, [.data (.slc true none 1 (List.map e_i64 y1))])]
theorem heap_down.lp3_ok (fu : Nat) (l3_0 : Int) (l3_1 : Int) : ∀ (n_ : Nat) (l3_2 : Int) (l3_3 : List Int) (r_ : (Int × List Int)), heap_down.lp3 fu l3_0 l3_1 n_ l3_2 l3_3 = some r_ → WK Try.prog heap_down.O (Ck Try.prog) (cB (cL (cR (cR bd30)))) [] (ofL [(.t 0, [.ifc 53 (.ptr 1000 0)]), (.t 1, [iv l3_0]), (.t 2, [iv l3_1]), (.t 7, [iv l3_2]), (.o 1000, [.data (.slc true none 1 (List.map e_i64 l3_3))])]) (heap_down.lp3_post l3_0 l3_1 r_) := by
  intro n_
  induction n_ with
  | zero => intro l3_2 l3_3 r_ h; exact no_none h
  | succ n_ ih =>
    intro l3_2 l3_3 r_ h
    refine WK.loop (by kernel_rfl) ?_
    refine WK.block (n := 1) (by kernel_rfl) ?_
    refine WK.rs (g := []) (l' := [(.t 0, [.ifc 53 (.ptr 1000 0)]), (.t 1, [iv l3_0]), (.t 2, [iv l3_1]), (.t 7, [iv l3_2]), (.t 8, [iv (w64 ((w64 (2 * l3_2)) + 1))]), (.o 1000, [.data (.slc true none 1 (List.map e_i64 l3_3))])]) (by kernel_rfl) .nil (by kernel_rfl) ?_
    refine WK.seq (by kernel_rfl) ?_
    rcases br_inv h with ⟨b5_1, h⟩ | ⟨b5_1, h⟩
    · refine WK.rs (g := [.b true, .b true, .b true]) (l' := [(.t 0, [.ifc 53 (.ptr 1000 0)]), (.t 1, [iv l3_0]), (.t 2, [iv l3_1]), (.t 7, [iv l3_2]), (.t 8, [iv (w64 ((w64 (2 * l3_2)) + 1))]), (.t 21, [bv true]), (.o 1000, [.data (.slc true none 1 (List.map e_i64 l3_3))])]) (by kernel_rfl) (.cons b5_1 (.cons b5_1 (.cons b5_1 .nil))) (by kernel_rfl) ?_
      refine WK.ct (b := true) (by kernel_rfl) rfl ?_
      refine WK.weak (l := [(.t 1, [iv l3_0]), (.t 7, [iv l3_2]), (.o 1000, [.data (.slc true none 1 (List.map e_i64 l3_3))])]) (wk_of (by kernel_rfl)) ?_
      refine WK.exit (n := 0) (by kernel_rfl) ?_
      cases some_inj h
      exact WKe.fin (e' := .exit 0) (by kernel_rfl) ⟨rfl, rfl⟩
    · refine WK.rs (g := [.b false, .b false, .b false]) (l' := [(.t 0, [.ifc 53 (.ptr 1000 0)]), (.t 1, [iv l3_0]), (.t 2, [iv l3_1]), (.t 7, [iv l3_2]), (.t 8, [iv (w64 ((w64 (2 * l3_2)) + 1))]), (.t 21, [bv (decide ((w64 ((w64 (2 * l3_2)) + 1)) < 0))]), (.o 1000, [.data (.slc true none 1 (List.map e_i64 l3_3))])]) (by kernel_rfl) (.cons b5_1 (.cons b5_1 (.cons b5_1 .nil))) (by kernel_rfl) ?_
      rcases br_inv h with ⟨b6_0, h⟩ | ⟨b6_0, h⟩
      · refine WK.ct (b := (decide ((w64 ((w64 (2 * l3_2)) + 1)) < 0))) (by kernel_rfl) b6_0 ?_
        refine WK.weak (l := [(.t 1, [iv l3_0]), (.t 7, [iv l3_2]), (.o 1000, [.data (.slc true none 1 (List.map e_i64 l3_3))])]) (wk_of (by kernel_rfl)) ?_
        refine WK.exit (n := 0) (by kernel_rfl) ?_
        cases some_inj h
        exact WKe.fin (e' := .exit 0) (by kernel_rfl) ⟨rfl, rfl⟩
      · refine WK.ce (b := (decide ((w64 ((w64 (2 * l3_2)) + 1)) < 0))) (by kernel_rfl) b6_0 ?_
        refine WK.skip (by kernel_rfl) ?_
        refine WKe.code (y := (cR (cR (cB (cB (cB (cL (cR (cR bd30))))))))) (ks' := [.blk 1, .lp (cB (cL (cR (cR bd30))))]) (by kernel_rfl) ?_
        refine WK.rs (g := []) (l' := [(.t 0, [.ifc 53 (.ptr 1000 0)]), (.t 1, [iv l3_0]), (.t 2, [iv l3_1]), (.t 7, [iv l3_2]), (.t 8, [iv (w64 ((w64 (2 * l3_2)) + 1))]), (.t 9, [iv (w64 ((w64 (2 * l3_2)) + 1))]), (.o 1000, [.data (.slc true none 1 (List.map e_i64 l3_3))])]) (by kernel_rfl) .nil (by kernel_rfl) ?_
        obtain ⟨k12, hk12, h⟩ := jn_inv h
        have Jk12 : ∀ (j12_3 : Int), k12 j12_3 = some r_ → WK Try.prog heap_down.O (Ck Try.prog) (cR (cR (cR (cR (cB (cB (cB (cL (cR (cR bd30)))))))))) [.blk 1, .lp (cB (cL (cR (cR bd30))))] (ofL [(.t 0, [.ifc 53 (.ptr 1000 0)]), (.t 1, [iv l3_0]), (.t 2, [iv l3_1]), (.t 7, [iv l3_2]), (.t 9, [iv j12_3]), (.o 1000, [.data (.slc true none 1 (List.map e_i64 l3_3))])]) (heap_down.lp3_post l3_0 l3_1 r_) := by
          intro j12_3 h
          rw [hk12] at h
          refine WK.seq (by kernel_rfl) ?_
          obtain ⟨r13_1, h13_2, h⟩ := bd_inv h
          refine WK.rs (g := [.a ⟨bv r13_1, []⟩]) (l' := [(.t 0, [.ifc 53 (.ptr 1000 0)]), (.t 1, [iv l3_0]), (.t 2, [iv l3_1]), (.t 7, [iv l3_2]), (.t 9, [iv j12_3]), (.t 39, [bv (!r13_1)]), (.o 1000, [.data (.slc true none 1 (List.map e_i64 l3_3))])]) (by kernel_rfl) (.cons (Asks.of (C := Meets Try.prog) (ballot_heads_Less.meets l3_3 j12_3 l3_2 _ h13_2)) .nil) (by kernel_rfl) ?_
          rcases br_inv h with ⟨b14_0, h⟩ | ⟨b14_0, h⟩
          · refine WK.ct (b := (!r13_1)) (by kernel_rfl) b14_0 ?_
            refine WK.weak (l := [(.t 1, [iv l3_0]), (.t 7, [iv l3_2]), (.o 1000, [.data (.slc true none 1 (List.map e_i64 l3_3))])]) (wk_of (by kernel_rfl)) ?_
            refine WK.exit (n := 0) (by kernel_rfl) ?_
            cases some_inj h
            exact WKe.fin (e' := .exit 0) (by kernel_rfl) ⟨rfl, rfl⟩
          · refine WK.ce (b := (!r13_1)) (by kernel_rfl) b14_0 ?_
            refine WK.skip (by kernel_rfl) ?_
            refine WKe.code (y := (cR (cR (cR (cR (cR (cB (cB (cB (cL (cR (cR bd30)))))))))))) (ks' := [.blk 1, .lp (cB (cL (cR (cR bd30))))]) (by kernel_rfl) ?_
            obtain ⟨r15_1, h15_2, h⟩ := bd_inv h
            refine WK.rs (g := [.a ⟨.tup [], [[.data (.slc true none 1 (List.map e_i64 r15_1))]]⟩]) (l' := [(.t 0, [.ifc 53 (.ptr 1000 0)]), (.t 1, [iv l3_0]), (.t 2, [iv l3_1]), (.t 9, [iv j12_3]), (.o 1000, [.data (.slc true none 1 (List.map e_i64 r15_1))])]) (by kernel_rfl) (.cons (Asks.of (C := Meets Try.prog) (ballot_heads_Swap.meets l3_2 j12_3 l3_3 _ h15_2)) .nil) (by kernel_rfl) ?_
            refine WK.rc (g := []) (l' := [(.t 0, [.ifc 53 (.ptr 1000 0)]), (.t 1, [iv l3_0]), (.t 2, [iv l3_1]), (.t 7, [iv j12_3]), (.o 1000, [.data (.slc true none 1 (List.map e_i64 r15_1))])]) .nil (by kernel_rfl) (y := (cB (cL (cR (cR bd30))))) (ks' := []) (by kernel_rfl) ?_
            exact WK.weak (l := [(.t 0, [.ifc 53 (.ptr 1000 0)]), (.t 1, [iv l3_0]), (.t 2, [iv l3_1]), (.t 7, [iv j12_3]), (.o 1000, [.data (.slc true none 1 (List.map e_i64 r15_1))])]) (wk_of (by kernel_rfl)) (ih j12_3 r15_1 _ h)
        clear hk12
        refine WK.seq (by kernel_rfl) ?_
        refine WK.rs (g := []) (l' := [(.t 0, [.ifc 53 (.ptr 1000 0)]), (.t 1, [iv l3_0]), (.t 2, [iv l3_1]), (.t 7, [iv l3_2]), (.t 8, [iv (w64 ((w64 (2 * l3_2)) + 1))]), (.t 9, [iv (w64 ((w64 (2 * l3_2)) + 1))]), (.t 10, [iv (w64 ((w64 ((w64 (2 * l3_2)) + 1)) + 1))]), (.o 1000, [.data (.slc true none 1 (List.map e_i64 l3_3))])]) (by kernel_rfl) .nil (by kernel_rfl) ?_
        rcases br_inv h with ⟨b9_1, h⟩ | ⟨b9_1, h⟩
        · obtain ⟨r9_2, h9_3, h⟩ := bd_inv h
          refine WK.rs (g := [.b true, .b true, .b true, .b true, .a ⟨bv r9_2, []⟩, .b true]) (l' := [(.t 0, [.ifc 53 (.ptr 1000 0)]), (.t 1, [iv l3_0]), (.t 2, [iv l3_1]), (.t 7, [iv l3_2]), (.t 9, [iv (w64 ((w64 (2 * l3_2)) + 1))]), (.t 10, [iv (w64 ((w64 ((w64 (2 * l3_2)) + 1)) + 1))]), (.t 33, [bv r9_2]), (.o 1000, [.data (.slc true none 1 (List.map e_i64 l3_3))])]) (by kernel_rfl) (.cons b9_1 (.cons b9_1 (.cons b9_1 (.cons b9_1 (.cons (Asks.of (C := Meets Try.prog) (ballot_heads_Less.meets l3_3 (w64 ((w64 ((w64 (2 * l3_2)) + 1)) + 1)) (w64 ((w64 (2 * l3_2)) + 1)) _ h9_3)) (.cons b9_1 .nil)))))) (by kernel_rfl) ?_
          rcases br_inv h with ⟨b10_0, h⟩ | ⟨b10_0, h⟩
          · refine WK.ct (b := r9_2) (by kernel_rfl) b10_0 ?_
            refine WK.rc (g := []) (l' := [(.t 0, [.ifc 53 (.ptr 1000 0)]), (.t 1, [iv l3_0]), (.t 2, [iv l3_1]), (.t 7, [iv l3_2]), (.t 9, [iv (w64 ((w64 ((w64 (2 * l3_2)) + 1)) + 1))]), (.o 1000, [.data (.slc true none 1 (List.map e_i64 l3_3))])]) .nil (by kernel_rfl) (y := (cR (cR (cR (cR (cB (cB (cB (cL (cR (cR bd30))))))))))) (ks' := [.blk 1, .lp (cB (cL (cR (cR bd30))))]) (by kernel_rfl) ?_
            exact WK.weak (l := [(.t 0, [.ifc 53 (.ptr 1000 0)]), (.t 1, [iv l3_0]), (.t 2, [iv l3_1]), (.t 7, [iv l3_2]), (.t 9, [iv (w64 ((w64 ((w64 (2 * l3_2)) + 1)) + 1))]), (.o 1000, [.data (.slc true none 1 (List.map e_i64 l3_3))])]) (wk_of (by kernel_rfl)) (Jk12 (w64 ((w64 ((w64 (2 * l3_2)) + 1)) + 1)) h)
          · refine WK.ce (b := r9_2) (by kernel_rfl) b10_0 ?_
            refine WK.skip (by kernel_rfl) ?_
            refine WKe.code (y := (cR (cR (cR (cR (cB (cB (cB (cL (cR (cR bd30))))))))))) (ks' := [.blk 1, .lp (cB (cL (cR (cR bd30))))]) (by kernel_rfl) ?_
            exact WK.weak (l := [(.t 0, [.ifc 53 (.ptr 1000 0)]), (.t 1, [iv l3_0]), (.t 2, [iv l3_1]), (.t 7, [iv l3_2]), (.t 9, [iv (w64 ((w64 (2 * l3_2)) + 1))]), (.o 1000, [.data (.slc true none 1 (List.map e_i64 l3_3))])]) (wk_of (by kernel_rfl)) (Jk12 (w64 ((w64 (2 * l3_2)) + 1)) h)
        · refine WK.rs (g := [.b false, .b false, .b false, .b false, .b false]) (l' := [(.t 0, [.ifc 53 (.ptr 1000 0)]), (.t 1, [iv l3_0]), (.t 2, [iv l3_1]), (.t 7, [iv l3_2]), (.t 9, [iv (w64 ((w64 (2 * l3_2)) + 1))]), (.t 10, [iv (w64 ((w64 ((w64 (2 * l3_2)) + 1)) + 1))]), (.t 33, [bv false]), (.o 1000, [.data (.slc true none 1 (List.map e_i64 l3_3))])]) (by kernel_rfl) (.cons b9_1 (.cons b9_1 (.cons b9_1 (.cons b9_1 (.cons b9_1 .nil))))) (by kernel_rfl) ?_
          refine WK.ce (b := false) (by kernel_rfl) rfl ?_
          refine WK.skip (by kernel_rfl) ?_
          refine WKe.code (y := (cR (cR (cR (cR (cB (cB (cB (cL (cR (cR bd30))))))))))) (ks' := [.blk 1, .lp (cB (cL (cR (cR bd30))))]) (by kernel_rfl) ?_
          exact WK.weak (l := [(.t 0, [.ifc 53 (.ptr 1000 0)]), (.t 1, [iv l3_0]), (.t 2, [iv l3_1]), (.t 7, [iv l3_2]), (.t 9, [iv (w64 ((w64 (2 * l3_2)) + 1))]), (.o 1000, [.data (.slc true none 1 (List.map e_i64 l3_3))])]) (wk_of (by kernel_rfl)) (Jk12 (w64 ((w64 (2 * l3_2)) + 1)) h)
noncomputable def heap_down (fu : Nat) (i0 : Int) (n_v : Int) (o0_v : List Int) : Option (Bool × List Int) :=
  bd (heap_down.lp3 fu i0 n_v fu i0 o0_v) fun (y17_0, y17_1) =>
  some ((decide (y17_0 > i0)), y17_1)
theorem heap_down.meets (fu : Nat) (i0 : Int) (n_v : Int) (o0_v : List Int) (z0 : Bool) (z1 : List Int) (h : heap_down fu i0 n_v o0_v = some (z0, z1)) : Meets Try.prog ⟨30, [.ifc 53 (.ptr 1000 0), iv i0, iv n_v], [[.data (.slc true none 1 (List.map e_i64 o0_v))]]⟩ ⟨bv z0, [[.data (.slc true none 1 (List.map e_i64 z1))]]⟩ := by
  refine meets_of (O := heap_down.O) hmix (fn := Try.f30) (code := bd30) (by kernel_rfl) ?_
  refine WK.weak (l := [(.t 0, [.ifc 53 (.ptr 1000 0)]), (.t 1, [iv i0]), (.t 2, [iv n_v]), (.o 1000, [.data (.slc true none 1 (List.map e_i64 o0_v))])]) (wk_of (by kernel_rfl)) ?_
  unfold heap_down at h
  refine WK.rs (g := []) (l' := [(.t 0, [.ifc 53 (.ptr 1000 0)]), (.t 1, [iv i0]), (.t 2, [iv n_v]), (.o 1000, [.data (.slc true none 1 (List.map e_i64 o0_v))])]) (by kernel_rfl) .nil (by kernel_rfl) ?_
  refine WK.rs (g := []) (l' := [(.t 0, [.ifc 53 (.ptr 1000 0)]), (.t 1, [iv i0]), (.t 2, [iv n_v]), (.t 7, [iv i0]), (.o 1000, [.data (.slc true none 1 (List.map e_i64 o0_v))])]) (by kernel_rfl) .nil (by kernel_rfl) ?_
  refine WK.seq (by kernel_rfl) ?_
  refine WK.block (n := 0) (by kernel_rfl) ?_
  obtain ⟨o17, ho17, h⟩ := bd_inv h
  refine WK.weak (l := [(.t 0, [.ifc 53 (.ptr 1000 0)]), (.t 1, [iv i0]), (.t 2, [iv n_v]), (.t 7, [iv i0]), (.o 1000, [.data (.slc true none 1 (List.map e_i64 o0_v))])]) (wk_of (by kernel_rfl)) ?_
  refine WK.use (heap_down.lp3_ok fu i0 n_v _ i0 o0_v _ ho17) ?_
  intro e_ τ_ hp_
  obtain ⟨y17_0, y17_1⟩ := o17
  obtain ⟨rfl, rfl⟩ := hp_
  refine WKe.code (y := (cR (cR (cR bd30)))) (ks' := []) (by kernel_rfl) ?_
  refine WK.rs (g := []) (l' := [(.t 6, [bv (decide (y17_0 > i0))]), (.o 1000, [.data (.slc true none 1 (List.map e_i64 y17_1))])]) (by kernel_rfl) .nil (by kernel_rfl) ?_
  refine WK.weak (l := [(.t 6, [bv (decide (y17_0 > i0))]), (.o 1000, [.data (.slc true none 1 (List.map e_i64 y17_1))])]) (wk_of (by kernel_rfl)) ?_
  refine WK.ret (by kernel_rfl) ?_
  cases some_inj h
  exact WKe.fin (e' := .ret) (by kernel_rfl) (fin_of (g := []) (by first | exact .inl rfl | exact .inr rfl) .nil (by kernel_rfl))
/-- container/heap.Init -/
noncomputable def bd23 : Code := (Try.f23.body).getD .skip
def heap_Init.O : Nat → Nat := fun t => bif ([2, 3] : List Nat).any (Nat.beq t) then 1 else 0
noncomputable def heap_Init.lp3 (fu : Nat) (l3_0 : Int) : Nat → Int → (List Int) → Option (List Int)
  | 0, _, _ => none
  | n_ + 1, l3_1, l3_2 =>
    br (decide (l3_1 ≥ 0))
      (bd (heap_down fu l3_1 l3_0 l3_2) fun (r6_1, r6_2) =>
      heap_Init.lp3 fu l3_0 n_ (w64 (l3_1 - 1)) r6_2)
      (some l3_2)
noncomputable def heap_Init.lp3_post (l3_0 : Int) (r_ : (List Int)) : Wy → St → Prop := fun e τ => match r_ with
  | y0 => e = .exit 0 ∧ τ = ofL [(.o 1000, [.data (.slc true none 1 (List.map e_i64 y0))])]
theorem heap_Init.lp3_ok (fu : Nat) (l3_0 : Int) : ∀ (n_ : Nat) (l3_1 : Int) (l3_2 : List Int) (r_ : (List Int)), heap_Init.lp3 fu l3_0 n_ l3_1 l3_2 = some r_ → WK Try.prog heap_Init.O (Ck Try.prog) (cB (cR (cR bd23))) [] (ofL [(.t 0, [.ifc 53 (.ptr 1000 0)]), (.t 2, [iv l3_0]), (.t 3, [iv l3_1]), (.o 1000, [.data (.slc true none 1 (List.map e_i64 l3_2))])]) (heap_Init.lp3_post l3_0 r_) := by
  intro n_
  induction n_ with
  | zero => intro l3_1 l3_2 r_ h; exact no_none h
  | succ n_ ih =>
    intro l3_1 l3_2 r_ h
    refine WK.loop (by kernel_rfl) ?_
    refine WK.seq (by kernel_rfl) ?_
    refine WK.rs (g := []) (l' := [(.t 0, [.ifc 53 (.ptr 1000 0)]), (.t 2, [iv l3_0]), (.t 3, [iv l3_1]), (.t 10, [bv (decide (l3_1 ≥ 0))]), (.o 1000, [.data (.slc true none 1 (List.map e_i64 l3_2))])]) (by kernel_rfl) .nil (by kernel_rfl) ?_
    rcases br_inv h with ⟨b5_0, h⟩ | ⟨b5_0, h⟩
    · refine WK.ct (b := (decide (l3_1 ≥ 0))) (by kernel_rfl) b5_0 ?_
      refine WK.skip (by kernel_rfl) ?_
      refine WKe.code (y := (cR (cB (cB (cR (cR bd23)))))) (ks' := [.lp (cB (cR (cR bd23)))]) (by kernel_rfl) ?_
      refine WK.seq (by kernel_rfl) ?_
      refine WK.block (n := 1) (by kernel_rfl) ?_
      obtain ⟨⟨r6_1, r6_2⟩, h6_3, h⟩ := bd_inv h
      refine WK.rc (g := [.a ⟨bv r6_1, [[.data (.slc true none 1 (List.map e_i64 r6_2))]]⟩]) (l' := [(.t 0, [.ifc 53 (.ptr 1000 0)]), (.t 2, [iv l3_0]), (.t 3, [iv l3_1]), (.o 1000, [.data (.slc true none 1 (List.map e_i64 r6_2))])]) (.cons (Asks.of (C := Meets Try.prog) (heap_down.meets fu l3_1 l3_0 l3_2 _ _ h6_3)) .nil) (by kernel_rfl) (y := (cR (cR (cB (cB (cR (cR bd23))))))) (ks' := [.lp (cB (cR (cR bd23)))]) (by kernel_rfl) ?_
      refine WK.rc (g := []) (l' := [(.t 0, [.ifc 53 (.ptr 1000 0)]), (.t 2, [iv l3_0]), (.t 3, [iv (w64 (l3_1 - 1))]), (.o 1000, [.data (.slc true none 1 (List.map e_i64 r6_2))])]) .nil (by kernel_rfl) (y := (cB (cR (cR bd23)))) (ks' := []) (by kernel_rfl) ?_
      exact WK.weak (l := [(.t 0, [.ifc 53 (.ptr 1000 0)]), (.t 2, [iv l3_0]), (.t 3, [iv (w64 (l3_1 - 1))]), (.o 1000, [.data (.slc true none 1 (List.map e_i64 r6_2))])]) (wk_of (by kernel_rfl)) (ih (w64 (l3_1 - 1)) r6_2 _ h)
    · refine WK.ce (b := (decide (l3_1 ≥ 0))) (by kernel_rfl) b5_0 ?_
      refine WK.weak (l := [(.o 1000, [.data (.slc true none 1 (List.map e_i64 l3_2))])]) (wk_of (by kernel_rfl)) ?_
      refine WK.exit (n := 0) (by kernel_rfl) ?_
      cases some_inj h
      exact WKe.fin (e' := .exit 0) (by kernel_rfl) ⟨rfl, rfl⟩
noncomputable def heap_Init (fu : Nat) (o0_v : List Int) : Option (List Int) :=
  bd (ballot_heads_Len o0_v) fun r1_1 =>
  bd (heap_Init.lp3 fu r1_1 fu (w64 ((w64 (Int.tdiv r1_1 2)) - 1)) o0_v) fun y8_0 =>
  some y8_0
theorem heap_Init.meets (fu : Nat) (o0_v : List Int) (z0 : List Int) (h : heap_Init fu o0_v = some z0) : Meets Try.prog ⟨23, [.ifc 53 (.ptr 1000 0)], [[.data (.slc true none 1 (List.map e_i64 o0_v))]]⟩ ⟨.tup [], [[.data (.slc true none 1 (List.map e_i64 z0))]]⟩ := by
  refine meets_of (O := heap_Init.O) hmix (fn := Try.f23) (code := bd23) (by kernel_rfl) ?_
  refine WK.weak (l := [(.t 0, [.ifc 53 (.ptr 1000 0)]), (.o 1000, [.data (.slc true none 1 (List.map e_i64 o0_v))])]) (wk_of (by kernel_rfl)) ?_
  unfold heap_Init at h
  obtain ⟨r1_1, h1_2, h⟩ := bd_inv h
  refine WK.rs (g := [.a ⟨iv r1_1, []⟩]) (l' := [(.t 0, [.ifc 53 (.ptr 1000 0)]), (.t 2, [iv r1_1]), (.o 1000, [.data (.slc true none 1 (List.map e_i64 o0_v))])]) (by kernel_rfl) (.cons (Asks.of (C := Meets Try.prog) (ballot_heads_Len.meets o0_v _ h1_2)) .nil) (by kernel_rfl) ?_
  refine WK.rs (g := []) (l' := [(.t 0, [.ifc 53 (.ptr 1000 0)]), (.t 2, [iv r1_1]), (.t 3, [iv (w64 ((w64 (Int.tdiv r1_1 2)) - 1))]), (.o 1000, [.data (.slc true none 1 (List.map e_i64 o0_v))])]) (by kernel_rfl) (.cons (Eq.refl true) .nil) (by kernel_rfl) ?_
  refine WK.block (n := 0) (by kernel_rfl) ?_
  obtain ⟨o8, ho8, h⟩ := bd_inv h
  refine WK.weak (l := [(.t 0, [.ifc 53 (.ptr 1000 0)]), (.t 2, [iv r1_1]), (.t 3, [iv (w64 ((w64 (Int.tdiv r1_1 2)) - 1))]), (.o 1000, [.data (.slc true none 1 (List.map e_i64 o0_v))])]) (wk_of (by kernel_rfl)) ?_
  refine WK.use (heap_Init.lp3_ok fu r1_1 _ (w64 ((w64 (Int.tdiv r1_1 2)) - 1)) o0_v _ ho8) ?_
  intro e_ τ_ hp_
  obtain ⟨y8_0, rfl⟩ : ∃ y, y = o8 := ⟨_, rfl⟩
  obtain ⟨rfl, rfl⟩ := hp_
  cases some_inj h
  exact WKe.fin (e' := .normal) (by kernel_rfl) (fin_of (g := []) (by first | exact .inl rfl | exact .inr rfl) .nil (by kernel_rfl))
/-- (*diwan/ballot.heads).Pop -/
noncomputable def bd51 : Code := (Try.f51.body).getD .skip
def ballot_heads_Pop.O : Nat → Nat := fun t => bif ([2, 3, 19] : List Nat).any (Nat.beq t) then 1 else 0
noncomputable def ballot_heads_Pop (o0_v : List Int) : Option (Int × List Int) :=
  ix o0_v (w64 ((o0_v.length : Int) - 1)) fun x3_1 =>
  gd (decide ((0 : Int) ≤ (w64 ((o0_v.length : Int) - 1)) ∧ (w64 ((o0_v.length : Int) - 1)) ≤ (o0_v.length : Int))) <|
  some (x3_1, (List.take (w64 ((o0_v.length : Int) - 1)).toNat o0_v))
theorem ballot_heads_Pop.meets (o0_v : List Int) (z0 : Int) (z1 : List Int) (h : ballot_heads_Pop o0_v = some (z0, z1)) : Meets Try.prog ⟨51, [.ptr 1000 0], [[.data (.slc true none 1 (List.map e_i64 o0_v))]]⟩ ⟨.ifc 3 (iv z0), [[.data (.slc true none 1 (List.map e_i64 z1))]]⟩ := by
  refine meets_of (O := ballot_heads_Pop.O) hmix (fn := Try.f51) (code := bd51) (by kernel_rfl) ?_
  refine WK.weak (l := [(.t 0, [.ptr 1000 0]), (.o 1000, [.data (.slc true none 1 (List.map e_i64 o0_v))])]) (wk_of (by kernel_rfl)) ?_
  unfold ballot_heads_Pop at h
  refine WK.rs (g := []) (l' := [(.t 0, [.ptr 1000 0]), (.o 1000, [.data (.slc true none 1 (List.map e_i64 o0_v))])]) (by kernel_rfl) .nil (by kernel_rfl) ?_
  refine WK.rs (g := []) (l' := [(.t 0, [.ptr 1000 0]), (.t 3, [.data (.slc true none 1 (List.map e_i64 o0_v))]), (.o 1000, [.dead])]) (by kernel_rfl) .nil (by kernel_rfl) ?_
  obtain ⟨x3_1, a3_2, e3_3, h⟩ := ix_inv h
  refine WK.rs (g := [.s (.t 10) [iv (o0_v.length : Int)], .c (e_i64 x3_1)]) (l' := [(.t 0, [.ptr 1000 0]), (.t 3, [.data (.slc true none 1 (List.map e_i64 o0_v))]), (.t 4, [iv x3_1]), (.o 1000, [.dead])]) (by kernel_rfl) (.cons (c_len (e := e_i64) (l := o0_v)) (.cons (c_ix (e := e_i64) a3_2 e3_3) (.cons (c_el (e := e_i64) e3_3) .nil))) (by kernel_rfl) ?_
  obtain ⟨c4_1, h⟩ := gd_inv h
  refine WK.rs (g := [.s (.t 17) [iv (o0_v.length : Int)], .s (.t 19) [.data (.slc true none 1 (List.map e_i64 (List.take (w64 ((o0_v.length : Int) - 1)).toNat o0_v)))]]) (l' := [(.t 4, [iv x3_1]), (.o 1000, [.data (.slc true none 1 (List.map e_i64 (List.take (w64 ((o0_v.length : Int) - 1)).toNat o0_v)))])]) (by kernel_rfl) (.cons (c_len (e := e_i64) (l := o0_v)) (.cons (c_cbH (e := e_i64) c4_1) (.cons (congrArg (fun d : DV => [AV.data d]) (c_cutH (own := true) (nl := none) (s := 1) (e := e_i64) (l := o0_v) (h := (w64 ((o0_v.length : Int) - 1)).toNat))) .nil))) (by kernel_rfl) ?_
  refine WK.rs (g := []) (l' := [(.t 2, [.ifc 3 (iv x3_1)]), (.o 1000, [.data (.slc true none 1 (List.map e_i64 (List.take (w64 ((o0_v.length : Int) - 1)).toNat o0_v)))])]) (by kernel_rfl) .nil (by kernel_rfl) ?_
  refine WK.weak (l := [(.t 2, [.ifc 3 (iv x3_1)]), (.o 1000, [.data (.slc true none 1 (List.map e_i64 (List.take (w64 ((o0_v.length : Int) - 1)).toNat o0_v)))])]) (wk_of (by kernel_rfl)) ?_
  refine WK.ret (by kernel_rfl) ?_
  cases some_inj h
  exact WKe.fin (e' := .ret) (by kernel_rfl) (fin_of (g := []) (by first | exact .inl rfl | exact .inr rfl) .nil (by kernel_rfl))
/-- container/heap.Pop -/
noncomputable def bd25 : Code := (Try.f25.body).getD .skip
def heap_Pop.O : Nat → Nat := fun t => bif ([2, 3] : List Nat).any (Nat.beq t) then 1 else bif ([9] : List Nat).any (Nat.beq t) then 3 else 0
noncomputable def heap_Pop (fu : Nat) (o0_v : List Int) : Option (Int × List Int) :=
  bd (ballot_heads_Len o0_v) fun r2_1 =>
  bd (ballot_heads_Swap 0 (w64 (r2_1 - 1)) o0_v) fun r3_1 =>
  bd (heap_down fu 0 (w64 (r2_1 - 1)) r3_1) fun (r4_1, r4_2) =>
  bd (ballot_heads_Pop r4_2) fun (r5_1, r5_2) =>
  some (r5_1, r5_2)
theorem heap_Pop.meets (fu : Nat) (o0_v : List Int) (z0 : Int) (z1 : List Int) (h : heap_Pop fu o0_v = some (z0, z1)) : Meets Try.prog ⟨25, [.ifc 53 (.ptr 1000 0)], [[.data (.slc true none 1 (List.map e_i64 o0_v))]]⟩ ⟨.ifc 3 (iv z0), [[.data (.slc true none 1 (List.map e_i64 z1))]]⟩ := by
  refine meets_of (O := heap_Pop.O) hmix (fn := Try.f25) (code := bd25) (by kernel_rfl) ?_
  refine WK.weak (l := [(.t 0, [.ifc 53 (.ptr 1000 0)]), (.o 1000, [.data (.slc true none 1 (List.map e_i64 o0_v))])]) (wk_of (by kernel_rfl)) ?_
  unfold heap_Pop at h
  refine WK.rs (g := []) (l' := [(.t 0, [.ifc 53 (.ptr 1000 0)]), (.o 1000, [.data (.slc true none 1 (List.map e_i64 o0_v))])]) (by kernel_rfl) .nil (by kernel_rfl) ?_
  obtain ⟨r2_1, h2_2, h⟩ := bd_inv h
  refine WK.rs (g := [.a ⟨iv r2_1, []⟩]) (l' := [(.t 0, [.ifc 53 (.ptr 1000 0)]), (.t 3, [iv (w64 (r2_1 - 1))]), (.o 1000, [.data (.slc true none 1 (List.map e_i64 o0_v))])]) (by kernel_rfl) (.cons (Asks.of (C := Meets Try.prog) (ballot_heads_Len.meets o0_v _ h2_2)) .nil) (by kernel_rfl) ?_
  obtain ⟨r3_1, h3_2, h⟩ := bd_inv h
  refine WK.rs (g := [.a ⟨.tup [], [[.data (.slc true none 1 (List.map e_i64 r3_1))]]⟩]) (l' := [(.t 0, [.ifc 53 (.ptr 1000 0)]), (.t 3, [iv (w64 (r2_1 - 1))]), (.o 1000, [.data (.slc true none 1 (List.map e_i64 r3_1))])]) (by kernel_rfl) (.cons (Asks.of (C := Meets Try.prog) (ballot_heads_Swap.meets 0 (w64 (r2_1 - 1)) o0_v _ h3_2)) .nil) (by kernel_rfl) ?_
  obtain ⟨⟨r4_1, r4_2⟩, h4_3, h⟩ := bd_inv h
  refine WK.rs (g := [.a ⟨bv r4_1, [[.data (.slc true none 1 (List.map e_i64 r4_2))]]⟩]) (l' := [(.t 0, [.ifc 53 (.ptr 1000 0)]), (.o 1000, [.data (.slc true none 1 (List.map e_i64 r4_2))])]) (by kernel_rfl) (.cons (Asks.of (C := Meets Try.prog) (heap_down.meets fu 0 (w64 (r2_1 - 1)) r3_1 _ _ h4_3)) .nil) (by kernel_rfl) ?_
  obtain ⟨⟨r5_1, r5_2⟩, h5_3, h⟩ := bd_inv h
  refine WK.rs (g := [.a ⟨.ifc 3 (iv r5_1), [[.data (.slc true none 1 (List.map e_i64 r5_2))]]⟩]) (l' := [(.t 2, [.ifc 3 (iv r5_1)]), (.o 1000, [.data (.slc true none 1 (List.map e_i64 r5_2))])]) (by kernel_rfl) (.cons (Asks.of (C := Meets Try.prog) (ballot_heads_Pop.meets r4_2 _ _ h5_3)) .nil) (by kernel_rfl) ?_
  refine WK.weak (l := [(.t 2, [.ifc 3 (iv r5_1)]), (.o 1000, [.data (.slc true none 1 (List.map e_i64 r5_2))])]) (wk_of (by kernel_rfl)) ?_
  refine WK.ret (by kernel_rfl) ?_
  cases some_inj h
  exact WKe.fin (e' := .ret) (by kernel_rfl) (fin_of (g := []) (by first | exact .inl rfl | exact .inr rfl) .nil (by kernel_rfl))
/-- diwan/ballot.Most -/
noncomputable def bd16 : Code := (Try.f16.body).getD .skip
def ballot_Most.O : Nat → Nat := fun t => bif ([2, 3, 4, 6] : List Nat).any (Nat.beq t) then 1 else 0
noncomputable def ballot_Most.lp5 (fu : Nat) (l5_0 : List Int) : Nat → Int → Int → (List Int) → Option Int
  | 0, _, _, _ => none
  | n_ + 1, l5_1, l5_2, l5_3 =>
    bd (ballot_Majority (l5_0.length : Int)) fun r6_1 =>
    br (decide (l5_2 < r6_1))
      (bd (ballot_heads_Len l5_3) fun r6_4 =>
      br (decide (r6_4 > 0))
        (bd (heap_Pop fu l5_3) fun (r8_1, r8_2) =>
        ballot_Most.lp5 fu l5_0 n_ (if r8_1 < 0 then 0 else r8_1) (w64 (l5_2 + 1)) r8_2)
        (some l5_1))
      (some l5_1)
noncomputable def ballot_Most.lp5_post (l5_0 : List Int) (r_ : Int) : Wy → St → Prop := fun e τ => match r_ with
  | y0 => e = .exit 0 ∧ τ = ofL [(.t 2, [iv y0])]
theorem ballot_Most.lp5_ok (fu : Nat) (l5_0 : List Int) : ∀ (n_ : Nat) (l5_1 : Int) (l5_2 : Int) (l5_3 : List Int) (r_ : Int), ballot_Most.lp5 fu l5_0 n_ l5_1 l5_2 l5_3 = some r_ → WK Try.prog ballot_Most.O (Ck Try.prog) (cB (cR (cL (cR (cR (cR bd16)))))) [] (ofL [(.t 0, [.data (.slc false none 1 (List.map e_i64 l5_0))]), (.t 2, [iv l5_1]), (.t 3, [.ptr 3 0]), (.t 4, [iv l5_2]), (.o 3, [.data (.slc true none 1 (List.map e_i64 l5_3))])]) (ballot_Most.lp5_post l5_0 r_) := by
  intro n_
  induction n_ with
  | zero => intro l5_1 l5_2 l5_3 r_ h; exact no_none h
  | succ n_ ih =>
    intro l5_1 l5_2 l5_3 r_ h
    refine WK.loop (by kernel_rfl) ?_
    refine WK.seq (by kernel_rfl) ?_
    obtain ⟨r6_1, h6_2, h⟩ := bd_inv h
    rcases br_inv h with ⟨b6_3, h⟩ | ⟨b6_3, h⟩
    · obtain ⟨r6_4, h6_5, h⟩ := bd_inv h
      refine WK.rs (g := [.s (.t 11) [iv (l5_0.length : Int)], .a ⟨iv r6_1, []⟩, .b true, .b true, .a ⟨iv r6_4, []⟩, .b true, .b true]) (l' := [(.t 0, [.data (.slc false none 1 (List.map e_i64 l5_0))]), (.t 2, [iv l5_1]), (.t 3, [.ptr 3 0]), (.t 4, [iv l5_2]), (.t 18, [bv (decide (r6_4 > 0))]), (.o 3, [.data (.slc true none 1 (List.map e_i64 l5_3))])]) (by kernel_rfl) (.cons (c_len (e := e_i64) (l := l5_0)) (.cons (Asks.of (C := Meets Try.prog) (ballot_Majority.meets (l5_0.length : Int) _ h6_2)) (.cons b6_3 (.cons b6_3 (.cons (Asks.of (C := Meets Try.prog) (ballot_heads_Len.meets l5_3 _ h6_5)) (.cons b6_3 (.cons b6_3 .nil))))))) (by kernel_rfl) ?_
      rcases br_inv h with ⟨b7_0, h⟩ | ⟨b7_0, h⟩
      · refine WK.ct (b := (decide (r6_4 > 0))) (by kernel_rfl) b7_0 ?_
        refine WK.skip (by kernel_rfl) ?_
        refine WKe.code (y := (cR (cB (cB (cR (cL (cR (cR (cR bd16))))))))) (ks' := [.lp (cB (cR (cL (cR (cR (cR bd16))))))]) (by kernel_rfl) ?_
        refine WK.seq (by kernel_rfl) ?_
        refine WK.block (n := 1) (by kernel_rfl) ?_
        obtain ⟨⟨r8_1, r8_2⟩, h8_3, h⟩ := bd_inv h
        refine WK.rc (g := [.a ⟨.ifc 3 (iv r8_1), [[.data (.slc true none 1 (List.map e_i64 r8_2))]]⟩]) (l' := [(.t 0, [.data (.slc false none 1 (List.map e_i64 l5_0))]), (.t 2, [iv (if r8_1 < 0 then 0 else r8_1)]), (.t 3, [.ptr 3 0]), (.t 4, [iv l5_2]), (.o 3, [.data (.slc true none 1 (List.map e_i64 r8_2))])]) (.cons (Asks.of (C := Meets Try.prog) (heap_Pop.meets fu l5_3 _ _ h8_3)) .nil) (by kernel_rfl) (y := (cR (cR (cB (cB (cR (cL (cR (cR (cR bd16)))))))))) (ks' := [.lp (cB (cR (cL (cR (cR (cR bd16))))))]) (by kernel_rfl) ?_
        refine WK.rc (g := []) (l' := [(.t 0, [.data (.slc false none 1 (List.map e_i64 l5_0))]), (.t 2, [iv (if r8_1 < 0 then 0 else r8_1)]), (.t 3, [.ptr 3 0]), (.t 4, [iv (w64 (l5_2 + 1))]), (.o 3, [.data (.slc true none 1 (List.map e_i64 r8_2))])]) .nil (by kernel_rfl) (y := (cB (cR (cL (cR (cR (cR bd16))))))) (ks' := []) (by kernel_rfl) ?_
        exact WK.weak (l := [(.t 0, [.data (.slc false none 1 (List.map e_i64 l5_0))]), (.t 2, [iv (if r8_1 < 0 then 0 else r8_1)]), (.t 3, [.ptr 3 0]), (.t 4, [iv (w64 (l5_2 + 1))]), (.o 3, [.data (.slc true none 1 (List.map e_i64 r8_2))])]) (wk_of (by kernel_rfl)) (ih (if r8_1 < 0 then 0 else r8_1) (w64 (l5_2 + 1)) r8_2 _ h)
      · refine WK.ce (b := (decide (r6_4 > 0))) (by kernel_rfl) b7_0 ?_
        refine WK.weak (l := [(.t 2, [iv l5_1])]) (wk_of (by kernel_rfl)) ?_
        refine WK.exit (n := 0) (by kernel_rfl) ?_
        cases some_inj h
        exact WKe.fin (e' := .exit 0) (by kernel_rfl) ⟨rfl, rfl⟩
    · refine WK.rs (g := [.s (.t 11) [iv (l5_0.length : Int)], .a ⟨iv r6_1, []⟩, .b false, .b false, .b false, .b false]) (l' := [(.t 0, [.data (.slc false none 1 (List.map e_i64 l5_0))]), (.t 2, [iv l5_1]), (.t 3, [.ptr 3 0]), (.t 4, [iv l5_2]), (.t 18, [bv false]), (.o 3, [.data (.slc true none 1 (List.map e_i64 l5_3))])]) (by kernel_rfl) (.cons (c_len (e := e_i64) (l := l5_0)) (.cons (Asks.of (C := Meets Try.prog) (ballot_Majority.meets (l5_0.length : Int) _ h6_2)) (.cons b6_3 (.cons b6_3 (.cons b6_3 (.cons b6_3 .nil)))))) (by kernel_rfl) ?_
      refine WK.ce (b := false) (by kernel_rfl) rfl ?_
      refine WK.weak (l := [(.t 2, [iv l5_1])]) (wk_of (by kernel_rfl)) ?_
      refine WK.exit (n := 0) (by kernel_rfl) ?_
      cases some_inj h
      exact WKe.fin (e' := .exit 0) (by kernel_rfl) ⟨rfl, rfl⟩
noncomputable def ballot_Most (fu : Nat) (match_v : List Int) : Option Int :=
  bd (slices_Clone_int_int match_v) fun r2_1 =>
  bd (heap_Init fu r2_1) fun r3_1 =>
  bd (ballot_Most.lp5 fu match_v fu 0 0 r3_1) fun y10_0 =>
  some y10_0
theorem ballot_Most.meets (fu : Nat) (match_v : List Int) (z0 : Int) (h : ballot_Most fu match_v = some z0) : Meets Try.prog ⟨16, [.data (.slc false none 1 (List.map e_i64 match_v))], []⟩ ⟨iv z0, []⟩ := by
  refine meets_of (O := ballot_Most.O) hmix (fn := Try.f16) (code := bd16) (by kernel_rfl) ?_
  refine WK.weak (l := [(.t 0, [.data (.slc false none 1 (List.map e_i64 match_v))])]) (wk_of (by kernel_rfl)) ?_
  unfold ballot_Most at h
  refine WK.rs (g := []) (l' := [(.t 0, [.data (.slc false none 1 (List.map e_i64 match_v))]), (.t 2, [iv 0])]) (by kernel_rfl) .nil (by kernel_rfl) ?_
  obtain ⟨r2_1, h2_2, h⟩ := bd_inv h
  refine WK.rs (g := [.a ⟨.data (.slc true none 1 (List.map e_i64 r2_1)), []⟩]) (l' := [(.t 0, [.data (.slc false none 1 (List.map e_i64 match_v))]), (.t 2, [iv 0]), (.t 3, [.ptr 3 0]), (.o 3, [.data (.slc true none 1 (List.map e_i64 r2_1))])]) (by kernel_rfl) (.cons (Asks.of (C := Meets Try.prog) (slices_Clone_int_int.meets match_v _ h2_2)) .nil) (by kernel_rfl) ?_
  obtain ⟨r3_1, h3_2, h⟩ := bd_inv h
  refine WK.rs (g := [.a ⟨.tup [], [[.data (.slc true none 1 (List.map e_i64 r3_1))]]⟩]) (l' := [(.t 0, [.data (.slc false none 1 (List.map e_i64 match_v))]), (.t 2, [iv 0]), (.t 3, [.ptr 3 0]), (.o 3, [.data (.slc true none 1 (List.map e_i64 r3_1))])]) (by kernel_rfl) (.cons (Asks.of (C := Meets Try.prog) (heap_Init.meets fu r2_1 _ h3_2)) .nil) (by kernel_rfl) ?_
  refine WK.seq (by kernel_rfl) ?_
  refine WK.rs (g := []) (l' := [(.t 0, [.data (.slc false none 1 (List.map e_i64 match_v))]), (.t 2, [iv 0]), (.t 3, [.ptr 3 0]), (.t 4, [iv 0]), (.o 3, [.data (.slc true none 1 (List.map e_i64 r3_1))])]) (by kernel_rfl) .nil (by kernel_rfl) ?_
  refine WK.block (n := 0) (by kernel_rfl) ?_
  obtain ⟨o10, ho10, h⟩ := bd_inv h
  refine WK.weak (l := [(.t 0, [.data (.slc false none 1 (List.map e_i64 match_v))]), (.t 2, [iv 0]), (.t 3, [.ptr 3 0]), (.t 4, [iv 0]), (.o 3, [.data (.slc true none 1 (List.map e_i64 r3_1))])]) (wk_of (by kernel_rfl)) ?_
  refine WK.use (ballot_Most.lp5_ok fu match_v _ 0 0 r3_1 _ ho10) ?_
  intro e_ τ_ hp_
  obtain ⟨y10_0, rfl⟩ : ∃ y, y = o10 := ⟨_, rfl⟩
  obtain ⟨rfl, rfl⟩ := hp_
  refine WKe.code (y := (cR (cR (cR (cR bd16))))) (ks' := []) (by kernel_rfl) ?_
  refine WK.rs (g := []) (l' := [(.t 2, [iv y10_0])]) (by kernel_rfl) .nil (by kernel_rfl) ?_
  refine WK.weak (l := [(.t 2, [iv y10_0])]) (wk_of (by kernel_rfl)) ?_
  refine WK.ret (by kernel_rfl) ?_
  cases some_inj h
  exact WKe.fin (e' := .ret) (by kernel_rfl) (fin_of (g := []) (by first | exact .inl rfl | exact .inr rfl) .nil (by kernel_rfl))
/-- (diwan/ulog.entries).term -/
noncomputable def bd29 : Code := (Try.f29.body).getD .skip
def ulog_entries_term.O : Nat → Nat := fun t => bif ([4] : List Nat).any (Nat.beq t) then 1 else 0
noncomputable def ulog_entries_term (l : List TEntry) (i : Int) : Option Int :=
  br (decide (i < 1))
    (some 0)
    (br (decide (i > (l.length : Int)))
      (some 0)
      (ix l (w64 (i - 1)) fun x6_1 =>
      some x6_1.Term))
theorem ulog_entries_term.meets (l : List TEntry) (i : Int) (z0 : Int) (h : ulog_entries_term l i = some z0) : Meets Try.prog ⟨29, [.data (.slc false none 6 (List.map TEntry.en l)), iv i], []⟩ ⟨iv z0, []⟩ := by
  refine meets_of (O := ulog_entries_term.O) hmix (fn := Try.f29) (code := bd29) (by kernel_rfl) ?_
  refine WK.weak (l := [(.t 0, [.data (.slc false none 6 (List.map TEntry.en l))]), (.t 1, [iv i])]) (wk_of (by kernel_rfl)) ?_
  unfold ulog_entries_term at h
  refine WK.rs (g := []) (l' := [(.t 0, [.data (.slc false none 6 (List.map TEntry.en l))]), (.t 1, [iv i])]) (by kernel_rfl) .nil (by kernel_rfl) ?_
  refine WK.seq (by kernel_rfl) ?_
  rcases br_inv h with ⟨b2_1, h⟩ | ⟨b2_1, h⟩
  · refine WK.rs (g := [.b true, .b true, .b true, .b true, .b true]) (l' := [(.t 0, [.data (.slc false none 6 (List.map TEntry.en l))]), (.t 1, [iv i]), (.t 12, [bv true])]) (by kernel_rfl) (.cons b2_1 (.cons b2_1 (.cons b2_1 (.cons b2_1 (.cons b2_1 .nil))))) (by kernel_rfl) ?_
    refine WK.ct (b := true) (by kernel_rfl) rfl ?_
    refine WK.rs (g := []) (l' := [(.t 4, [iv 0])]) (by kernel_rfl) .nil (by kernel_rfl) ?_
    refine WK.weak (l := [(.t 4, [iv 0])]) (wk_of (by kernel_rfl)) ?_
    refine WK.ret (by kernel_rfl) ?_
    cases some_inj h
    exact WKe.fin (e' := .ret) (by kernel_rfl) (fin_of (g := []) (by first | exact .inl rfl | exact .inr rfl) .nil (by kernel_rfl))
  · refine WK.rs (g := [.b false, .b false, .b false, .s (.t 10) [iv (l.length : Int)], .b false, .b false]) (l' := [(.t 0, [.data (.slc false none 6 (List.map TEntry.en l))]), (.t 1, [iv i]), (.t 12, [bv (decide (i > (l.length : Int)))])]) (by kernel_rfl) (.cons b2_1 (.cons b2_1 (.cons b2_1 (.cons (c_len (e := TEntry.en) (l := l)) (.cons b2_1 (.cons b2_1 .nil)))))) (by kernel_rfl) ?_
    rcases br_inv h with ⟨b4_0, h⟩ | ⟨b4_0, h⟩
    · refine WK.ct (b := (decide (i > (l.length : Int)))) (by kernel_rfl) b4_0 ?_
      refine WK.rs (g := []) (l' := [(.t 4, [iv 0])]) (by kernel_rfl) .nil (by kernel_rfl) ?_
      refine WK.weak (l := [(.t 4, [iv 0])]) (wk_of (by kernel_rfl)) ?_
      refine WK.ret (by kernel_rfl) ?_
      cases some_inj h
      exact WKe.fin (e' := .ret) (by kernel_rfl) (fin_of (g := []) (by first | exact .inl rfl | exact .inr rfl) .nil (by kernel_rfl))
    · refine WK.ce (b := (decide (i > (l.length : Int)))) (by kernel_rfl) b4_0 ?_
      refine WK.skip (by kernel_rfl) ?_
      refine WKe.code (y := (cR (cR bd29))) (ks' := []) (by kernel_rfl) ?_
      obtain ⟨x6_1, a6_2, e6_3, h⟩ := ix_inv h
      refine WK.rs (g := [.c (TEntry.en x6_1)]) (l' := [(.t 4, [iv x6_1.Term])]) (by kernel_rfl) (.cons (c_ix (e := TEntry.en) a6_2 e6_3) (.cons (c_el (e := TEntry.en) e6_3) .nil)) (by kernel_rfl) ?_
      refine WK.weak (l := [(.t 4, [iv x6_1.Term])]) (wk_of (by kernel_rfl)) ?_
      refine WK.ret (by kernel_rfl) ?_
      cases some_inj h
      exact WKe.fin (e' := .ret) (by kernel_rfl) (fin_of (g := []) (by first | exact .inl rfl | exact .inr rfl) .nil (by kernel_rfl))
/-- diwan/ulog.Term -/
noncomputable def bd21 : Code := (Try.f21.body).getD .skip
def ulog_Term.O : Nat → Nat := fun t => bif ([4, 5] : List Nat).any (Nat.beq t) then 1 else 0
noncomputable def ulog_Term (l : List TEntry) (i : Int) : Option Int :=
  bd (ulog_entries_term l i) fun r3_1 =>
  some r3_1
theorem ulog_Term.meets (l : List TEntry) (i : Int) (z0 : Int) (h : ulog_Term l i = some z0) : Meets Try.prog ⟨21, [.data (.slc false none 6 (List.map TEntry.en l)), iv i], []⟩ ⟨iv z0, []⟩ := by
  refine meets_of (O := ulog_Term.O) hmix (fn := Try.f21) (code := bd21) (by kernel_rfl) ?_
  refine WK.weak (l := [(.t 0, [.data (.slc false none 6 (List.map TEntry.en l))]), (.t 1, [iv i])]) (wk_of (by kernel_rfl)) ?_
  unfold ulog_Term at h
  refine WK.rs (g := []) (l' := [(.t 0, [.data (.slc false none 6 (List.map TEntry.en l))]), (.t 1, [iv i])]) (by kernel_rfl) .nil (by kernel_rfl) ?_
  refine WK.rs (g := []) (l' := [(.t 0, [.data (.slc false none 6 (List.map TEntry.en l))]), (.t 1, [iv i]), (.t 5, [.fn (.func 29) [] []])]) (by kernel_rfl) .nil (by kernel_rfl) ?_
  obtain ⟨r3_1, h3_2, h⟩ := bd_inv h
  refine WK.rs (g := [.a ⟨iv r3_1, []⟩]) (l' := [(.t 4, [iv r3_1])]) (by kernel_rfl) (.cons (Asks.of (C := Meets Try.prog) (ulog_entries_term.meets l i _ h3_2)) .nil) (by kernel_rfl) ?_
  refine WK.weak (l := [(.t 4, [iv r3_1])]) (wk_of (by kernel_rfl)) ?_
  refine WK.ret (by kernel_rfl) ?_
  cases some_inj h
  exact WKe.fin (e' := .ret) (by kernel_rfl) (fin_of (g := []) (by first | exact .inl rfl | exact .inr rfl) .nil (by kernel_rfl))
/-- diwan/ballot.Next -/
noncomputable def bd11 : Code := (Try.f11.body).getD .skip
def ballot_Next.O : Nat → Nat := fun t => bif ([8, 9] : List Nat).any (Nat.beq t) then 1 else 0
noncomputable def ballot_Next (fu : Nat) (match_v : List Int) (l : List TEntry) (term : Int) (commit : Int) : Option Int :=
  bd (ballot_Most fu match_v) fun r2_1 =>
  br (decide (r2_1 > commit))
    (br (decide (r2_1 ≤ (l.length : Int)))
      (bd (ulog_Term l r2_1) fun r3_3 =>
      br (r3_3 == term)
        (some r2_1)
        (some commit))
      (some commit))
    (some commit)
theorem ballot_Next.meets (fu : Nat) (match_v : List Int) (l : List TEntry) (term : Int) (commit : Int) (z0 : Int) (h : ballot_Next fu match_v l term commit = some z0) : Meets Try.prog ⟨11, [.data (.slc false none 1 (List.map e_i64 match_v)), .data (.slc false none 6 (List.map TEntry.en l)), iv term, iv commit], []⟩ ⟨iv z0, []⟩ := by
  refine meets_of (O := ballot_Next.O) hmix (fn := Try.f11) (code := bd11) (by kernel_rfl) ?_
  refine WK.weak (l := [(.t 0, [.data (.slc false none 1 (List.map e_i64 match_v))]), (.t 1, [.data (.slc false none 6 (List.map TEntry.en l))]), (.t 2, [iv term]), (.t 3, [iv commit])]) (wk_of (by kernel_rfl)) ?_
  unfold ballot_Next at h
  refine WK.rs (g := []) (l' := [(.t 0, [.data (.slc false none 1 (List.map e_i64 match_v))]), (.t 1, [.data (.slc false none 6 (List.map TEntry.en l))]), (.t 2, [iv term]), (.t 3, [iv commit])]) (by kernel_rfl) .nil (by kernel_rfl) ?_
  refine WK.seq (by kernel_rfl) ?_
  obtain ⟨r2_1, h2_2, h⟩ := bd_inv h
  refine WK.rs (g := [.a ⟨iv r2_1, []⟩]) (l' := [(.t 1, [.data (.slc false none 6 (List.map TEntry.en l))]), (.t 2, [iv term]), (.t 3, [iv commit]), (.t 9, [iv r2_1])]) (by kernel_rfl) (.cons (Asks.of (C := Meets Try.prog) (ballot_Most.meets fu match_v _ h2_2)) .nil) (by kernel_rfl) ?_
  rcases br_inv h with ⟨b3_1, h⟩ | ⟨b3_1, h⟩
  · rcases br_inv h with ⟨b3_2, h⟩ | ⟨b3_2, h⟩
    · obtain ⟨r3_3, h3_4, h⟩ := bd_inv h
      refine WK.rs (g := [.b true, .b true, .b true, .s (.t 18) [iv (l.length : Int)], .b true, .b true, .b true, .b true, .b true, .a ⟨iv r3_3, []⟩, .b true, .b true, .b true]) (l' := [(.t 3, [iv commit]), (.t 9, [iv r2_1]), (.t 27, [bv (r3_3 == term)])]) (by kernel_rfl) (.cons b3_1 (.cons b3_1 (.cons b3_1 (.cons (c_len (e := TEntry.en) (l := l)) (.cons b3_1 (.cons b3_1 (.cons b3_2 (.cons b3_2 (.cons b3_2 (.cons (Asks.of (C := Meets Try.prog) (ulog_Term.meets l r2_1 _ h3_4)) (.cons b3_2 (.cons b3_2 (.cons b3_2 .nil))))))))))))) (by kernel_rfl) ?_
      rcases br_inv h with ⟨b4_0, h⟩ | ⟨b4_0, h⟩
      · refine WK.ct (b := (r3_3 == term)) (by kernel_rfl) b4_0 ?_
        refine WK.rs (g := []) (l' := [(.t 8, [iv r2_1])]) (by kernel_rfl) .nil (by kernel_rfl) ?_
        refine WK.weak (l := [(.t 8, [iv r2_1])]) (wk_of (by kernel_rfl)) ?_
        refine WK.ret (by kernel_rfl) ?_
        cases some_inj h
        exact WKe.fin (e' := .ret) (by kernel_rfl) (fin_of (g := []) (by first | exact .inl rfl | exact .inr rfl) .nil (by kernel_rfl))
      · refine WK.ce (b := (r3_3 == term)) (by kernel_rfl) b4_0 ?_
        refine WK.skip (by kernel_rfl) ?_
        refine WKe.code (y := (cR (cR bd11))) (ks' := []) (by kernel_rfl) ?_
        refine WK.rs (g := []) (l' := [(.t 8, [iv commit])]) (by kernel_rfl) .nil (by kernel_rfl) ?_
        refine WK.weak (l := [(.t 8, [iv commit])]) (wk_of (by kernel_rfl)) ?_
        refine WK.ret (by kernel_rfl) ?_
        cases some_inj h
        exact WKe.fin (e' := .ret) (by kernel_rfl) (fin_of (g := []) (by first | exact .inl rfl | exact .inr rfl) .nil (by kernel_rfl))
    · refine WK.rs (g := [.b true, .b true, .b true, .s (.t 18) [iv (l.length : Int)], .b true, .b true, .b false, .b false, .b false, .b false, .b false, .b false]) (l' := [(.t 3, [iv commit]), (.t 9, [iv r2_1]), (.t 27, [bv false])]) (by kernel_rfl) (.cons b3_1 (.cons b3_1 (.cons b3_1 (.cons (c_len (e := TEntry.en) (l := l)) (.cons b3_1 (.cons b3_1 (.cons b3_2 (.cons b3_2 (.cons b3_2 (.cons b3_2 (.cons b3_2 (.cons b3_2 .nil)))))))))))) (by kernel_rfl) ?_
      refine WK.ce (b := false) (by kernel_rfl) rfl ?_
      refine WK.skip (by kernel_rfl) ?_
      refine WKe.code (y := (cR (cR bd11))) (ks' := []) (by kernel_rfl) ?_
      refine WK.rs (g := []) (l' := [(.t 8, [iv commit])]) (by kernel_rfl) .nil (by kernel_rfl) ?_
      refine WK.weak (l := [(.t 8, [iv commit])]) (wk_of (by kernel_rfl)) ?_
      refine WK.ret (by kernel_rfl) ?_
      cases some_inj h
      exact WKe.fin (e' := .ret) (by kernel_rfl) (fin_of (g := []) (by first | exact .inl rfl | exact .inr rfl) .nil (by kernel_rfl))
  · refine WK.rs (g := [.b false, .b false, .b false, .b false, .b false, .b false, .b false, .b false, .b false, .b false, .b false]) (l' := [(.t 3, [iv commit]), (.t 9, [iv r2_1]), (.t 27, [bv false])]) (by kernel_rfl) (.cons b3_1 (.cons b3_1 (.cons b3_1 (.cons b3_1 (.cons b3_1 (.cons (Eq.refl false) (.cons (Eq.refl false) (.cons (Eq.refl false) (.cons (Eq.refl false) (.cons (Eq.refl false) (.cons (Eq.refl false) .nil))))))))))) (by kernel_rfl) ?_
    refine WK.ce (b := false) (by kernel_rfl) rfl ?_
    refine WK.skip (by kernel_rfl) ?_
    refine WKe.code (y := (cR (cR bd11))) (ks' := []) (by kernel_rfl) ?_
    refine WK.rs (g := []) (l' := [(.t 8, [iv commit])]) (by kernel_rfl) .nil (by kernel_rfl) ?_
    refine WK.weak (l := [(.t 8, [iv commit])]) (wk_of (by kernel_rfl)) ?_
    refine WK.ret (by kernel_rfl) ?_
    cases some_inj h
    exact WKe.fin (e' := .ret) (by kernel_rfl) (fin_of (g := []) (by first | exact .inl rfl | exact .inr rfl) .nil (by kernel_rfl))
/-- diwan/diwanlaw10.begun -/
noncomputable def bd8 : Code := (Try.f8.body).getD .skip
def diwanlaw10_begun.O : Nat → Nat := fun t => bif ([0, 1, 2, 3, 4, 12, 17, 22, 28] : List Nat).any (Nat.beq t) then 1 else 0
noncomputable def diwanlaw10_begun (fu : Nat) : Option Bool :=
  bd (ballot_Majority 5) fun r3_1 =>
  br (r3_1 == 3)
    (bd (ballot_Majority 4) fun r3_4 =>
    br (r3_4 == 3)
      (bd (ballot_Many fu ([true, false, true] : List Bool)) fun r3_7 =>
      br (r3_7 == 2)
        (bd (ballot_Most fu ([1, 2, 2] : List Int)) fun r3_10 =>
        br (r3_10 == 2)
          (bd (ballot_Next fu ([2, 2, 0] : List Int) ([(TEntry.mk 1 true (TTxn.mk 0 0 [] [])), (TEntry.mk 2 true (TTxn.mk 0 0 [] []))] : List TEntry) 2 1) fun r3_13 =>
          br (r3_13 == 2)
            (bd (ballot_Next fu ([1, 1, 0] : List Int) ([(TEntry.mk 1 true (TTxn.mk 0 0 [] [])), (TEntry.mk 2 true (TTxn.mk 0 0 [] []))] : List TEntry) 2 0) fun r3_16 =>
            some (r3_16 == 0))
            (some false))
          (some false))
        (some false))
      (some false))
    (some false)
theorem diwanlaw10_begun.meets (fu : Nat) (z0 : Bool) (h : diwanlaw10_begun fu = some z0) : Meets Try.prog ⟨8, [], []⟩ ⟨bv z0, []⟩ := by
  refine meets_of (O := diwanlaw10_begun.O) hmix (fn := Try.f8) (code := bd8) (by kernel_rfl) ?_
  refine WK.weak (l := []) (wk_of (by kernel_rfl)) ?_
  unfold diwanlaw10_begun at h
  refine WK.rs (g := []) (l' := []) (by kernel_rfl) .nil (by kernel_rfl) ?_
  refine WK.rs (g := []) (l' := [(.t 1, [.data (.slc true (some false) 6 (List.map TEntry.en ([(TEntry.mk 1 true (TTxn.mk 0 0 [] [])), (TEntry.mk 2 true (TTxn.mk 0 0 [] []))] : List TEntry)))])]) (by kernel_rfl) .nil (by kernel_rfl) ?_
  obtain ⟨r3_1, h3_2, h⟩ := bd_inv h
  rcases br_inv h with ⟨b3_3, h⟩ | ⟨b3_3, h⟩
  · obtain ⟨r3_4, h3_5, h⟩ := bd_inv h
    rcases br_inv h with ⟨b3_6, h⟩ | ⟨b3_6, h⟩
    · obtain ⟨r3_7, h3_8, h⟩ := bd_inv h
      rcases br_inv h with ⟨b3_9, h⟩ | ⟨b3_9, h⟩
      · obtain ⟨r3_10, h3_11, h⟩ := bd_inv h
        rcases br_inv h with ⟨b3_12, h⟩ | ⟨b3_12, h⟩
        · obtain ⟨r3_13, h3_14, h⟩ := bd_inv h
          rcases br_inv h with ⟨b3_15, h⟩ | ⟨b3_15, h⟩
          · obtain ⟨r3_16, h3_17, h⟩ := bd_inv h
            refine WK.rs (g := [.a ⟨iv r3_1, []⟩, .b true, .a ⟨iv r3_4, []⟩, .b true, .b true, .b true, .b true, .a ⟨iv r3_7, []⟩, .b true, .b true, .b true, .b true, .a ⟨iv r3_10, []⟩, .b true, .b true, .b true, .b true, .b true, .a ⟨iv r3_13, []⟩, .b true, .b true, .b true, .b true, .b true, .a ⟨iv r3_16, []⟩, .b true, .b true]) (l' := [(.t 0, [bv (r3_16 == 0)])]) (by kernel_rfl) (.cons (Asks.of (C := Meets Try.prog) (ballot_Majority.meets 5 _ h3_2)) (.cons b3_3 (.cons (Asks.of (C := Meets Try.prog) (ballot_Majority.meets 4 _ h3_5)) (.cons b3_3 (.cons b3_3 (.cons b3_6 (.cons b3_6 (.cons (Asks.fg (args1 := []) (args2 := []) (nl := some false) (sz := 1) (es := List.map e_b ([true, false, true] : List Bool)) (Asks.of (C := Meets Try.prog) (ballot_Many.meets fu ([true, false, true] : List Bool) _ h3_8))) (.cons b3_6 (.cons b3_6 (.cons b3_9 (.cons b3_9 (.cons (Asks.fg (args1 := []) (args2 := []) (nl := some false) (sz := 1) (es := List.map e_i64 ([1, 2, 2] : List Int)) (Asks.of (C := Meets Try.prog) (ballot_Most.meets fu ([1, 2, 2] : List Int) _ h3_11))) (.cons b3_9 (.cons b3_9 (.cons b3_12 (.cons b3_12 (.cons b3_12 (.cons (Asks.fg (args1 := [.data (.slc false (some false) 1 (List.map e_i64 ([2, 2, 0] : List Int)))]) (args2 := [iv 2, iv 1]) (nl := some false) (sz := 6) (es := List.map TEntry.en ([(TEntry.mk 1 true (TTxn.mk 0 0 [] [])), (TEntry.mk 2 true (TTxn.mk 0 0 [] []))] : List TEntry)) (Asks.fg (args1 := []) (args2 := [.data (.slc false none 6 (List.map TEntry.en ([(TEntry.mk 1 true (TTxn.mk 0 0 [] [])), (TEntry.mk 2 true (TTxn.mk 0 0 [] []))] : List TEntry))), iv 2, iv 1]) (nl := some false) (sz := 1) (es := List.map e_i64 ([2, 2, 0] : List Int)) (Asks.of (C := Meets Try.prog) (ballot_Next.meets fu ([2, 2, 0] : List Int) ([(TEntry.mk 1 true (TTxn.mk 0 0 [] [])), (TEntry.mk 2 true (TTxn.mk 0 0 [] []))] : List TEntry) 2 1 _ h3_14)))) (.cons b3_12 (.cons b3_12 (.cons b3_15 (.cons b3_15 (.cons b3_15 (.cons (Asks.fg (args1 := [.data (.slc false (some false) 1 (List.map e_i64 ([1, 1, 0] : List Int)))]) (args2 := [iv 2, iv 0]) (nl := some false) (sz := 6) (es := List.map TEntry.en ([(TEntry.mk 1 true (TTxn.mk 0 0 [] [])), (TEntry.mk 2 true (TTxn.mk 0 0 [] []))] : List TEntry)) (Asks.fg (args1 := []) (args2 := [.data (.slc false none 6 (List.map TEntry.en ([(TEntry.mk 1 true (TTxn.mk 0 0 [] [])), (TEntry.mk 2 true (TTxn.mk 0 0 [] []))] : List TEntry))), iv 2, iv 0]) (nl := some false) (sz := 1) (es := List.map e_i64 ([1, 1, 0] : List Int)) (Asks.of (C := Meets Try.prog) (ballot_Next.meets fu ([1, 1, 0] : List Int) ([(TEntry.mk 1 true (TTxn.mk 0 0 [] [])), (TEntry.mk 2 true (TTxn.mk 0 0 [] []))] : List TEntry) 2 0 _ h3_17)))) (.cons b3_15 (.cons b3_15 .nil))))))))))))))))))))))))))) (by kernel_rfl) ?_
            refine WK.weak (l := [(.t 0, [bv (r3_16 == 0)])]) (wk_of (by kernel_rfl)) ?_
            refine WK.ret (by kernel_rfl) ?_
            cases some_inj h
            exact WKe.fin (e' := .ret) (by kernel_rfl) (fin_of (g := []) (by first | exact .inl rfl | exact .inr rfl) .nil (by kernel_rfl))
          · refine WK.rs (g := [.a ⟨iv r3_1, []⟩, .b true, .a ⟨iv r3_4, []⟩, .b true, .b true, .b true, .b true, .a ⟨iv r3_7, []⟩, .b true, .b true, .b true, .b true, .a ⟨iv r3_10, []⟩, .b true, .b true, .b true, .b true, .b true, .a ⟨iv r3_13, []⟩, .b true, .b true, .b false, .b false, .b false, .b false, .b false]) (l' := [(.t 0, [bv false])]) (by kernel_rfl) (.cons (Asks.of (C := Meets Try.prog) (ballot_Majority.meets 5 _ h3_2)) (.cons b3_3 (.cons (Asks.of (C := Meets Try.prog) (ballot_Majority.meets 4 _ h3_5)) (.cons b3_3 (.cons b3_3 (.cons b3_6 (.cons b3_6 (.cons (Asks.fg (args1 := []) (args2 := []) (nl := some false) (sz := 1) (es := List.map e_b ([true, false, true] : List Bool)) (Asks.of (C := Meets Try.prog) (ballot_Many.meets fu ([true, false, true] : List Bool) _ h3_8))) (.cons b3_6 (.cons b3_6 (.cons b3_9 (.cons b3_9 (.cons (Asks.fg (args1 := []) (args2 := []) (nl := some false) (sz := 1) (es := List.map e_i64 ([1, 2, 2] : List Int)) (Asks.of (C := Meets Try.prog) (ballot_Most.meets fu ([1, 2, 2] : List Int) _ h3_11))) (.cons b3_9 (.cons b3_9 (.cons b3_12 (.cons b3_12 (.cons b3_12 (.cons (Asks.fg (args1 := [.data (.slc false (some false) 1 (List.map e_i64 ([2, 2, 0] : List Int)))]) (args2 := [iv 2, iv 1]) (nl := some false) (sz := 6) (es := List.map TEntry.en ([(TEntry.mk 1 true (TTxn.mk 0 0 [] [])), (TEntry.mk 2 true (TTxn.mk 0 0 [] []))] : List TEntry)) (Asks.fg (args1 := []) (args2 := [.data (.slc false none 6 (List.map TEntry.en ([(TEntry.mk 1 true (TTxn.mk 0 0 [] [])), (TEntry.mk 2 true (TTxn.mk 0 0 [] []))] : List TEntry))), iv 2, iv 1]) (nl := some false) (sz := 1) (es := List.map e_i64 ([2, 2, 0] : List Int)) (Asks.of (C := Meets Try.prog) (ballot_Next.meets fu ([2, 2, 0] : List Int) ([(TEntry.mk 1 true (TTxn.mk 0 0 [] [])), (TEntry.mk 2 true (TTxn.mk 0 0 [] []))] : List TEntry) 2 1 _ h3_14)))) (.cons b3_12 (.cons b3_12 (.cons b3_15 (.cons b3_15 (.cons b3_15 (.cons b3_15 (.cons b3_15 .nil)))))))))))))))))))))))))) (by kernel_rfl) ?_
            refine WK.weak (l := [(.t 0, [bv false])]) (wk_of (by kernel_rfl)) ?_
            refine WK.ret (by kernel_rfl) ?_
            cases some_inj h
            exact WKe.fin (e' := .ret) (by kernel_rfl) (fin_of (g := []) (by first | exact .inl rfl | exact .inr rfl) .nil (by kernel_rfl))
        · refine WK.rs (g := [.a ⟨iv r3_1, []⟩, .b true, .a ⟨iv r3_4, []⟩, .b true, .b true, .b true, .b true, .a ⟨iv r3_7, []⟩, .b true, .b true, .b true, .b true, .a ⟨iv r3_10, []⟩, .b true, .b true, .b false, .b false, .b false, .b false, .b false, .b false, .b false, .b false, .b false, .b false]) (l' := [(.t 0, [bv false])]) (by kernel_rfl) (.cons (Asks.of (C := Meets Try.prog) (ballot_Majority.meets 5 _ h3_2)) (.cons b3_3 (.cons (Asks.of (C := Meets Try.prog) (ballot_Majority.meets 4 _ h3_5)) (.cons b3_3 (.cons b3_3 (.cons b3_6 (.cons b3_6 (.cons (Asks.fg (args1 := []) (args2 := []) (nl := some false) (sz := 1) (es := List.map e_b ([true, false, true] : List Bool)) (Asks.of (C := Meets Try.prog) (ballot_Many.meets fu ([true, false, true] : List Bool) _ h3_8))) (.cons b3_6 (.cons b3_6 (.cons b3_9 (.cons b3_9 (.cons (Asks.fg (args1 := []) (args2 := []) (nl := some false) (sz := 1) (es := List.map e_i64 ([1, 2, 2] : List Int)) (Asks.of (C := Meets Try.prog) (ballot_Most.meets fu ([1, 2, 2] : List Int) _ h3_11))) (.cons b3_9 (.cons b3_9 (.cons b3_12 (.cons b3_12 (.cons b3_12 (.cons b3_12 (.cons b3_12 (.cons (Eq.refl false) (.cons (Eq.refl false) (.cons (Eq.refl false) (.cons (Eq.refl false) (.cons (Eq.refl false) .nil))))))))))))))))))))))))) (by kernel_rfl) ?_
          refine WK.weak (l := [(.t 0, [bv false])]) (wk_of (by kernel_rfl)) ?_
          refine WK.ret (by kernel_rfl) ?_
          cases some_inj h
          exact WKe.fin (e' := .ret) (by kernel_rfl) (fin_of (g := []) (by first | exact .inl rfl | exact .inr rfl) .nil (by kernel_rfl))
      · refine WK.rs (g := [.a ⟨iv r3_1, []⟩, .b true, .a ⟨iv r3_4, []⟩, .b true, .b true, .b true, .b true, .a ⟨iv r3_7, []⟩, .b true, .b true, .b false, .b false, .b false, .b false, .b false, .b false, .b false, .b false, .b false, .b false, .b false, .b false, .b false, .b false]) (l' := [(.t 0, [bv false])]) (by kernel_rfl) (.cons (Asks.of (C := Meets Try.prog) (ballot_Majority.meets 5 _ h3_2)) (.cons b3_3 (.cons (Asks.of (C := Meets Try.prog) (ballot_Majority.meets 4 _ h3_5)) (.cons b3_3 (.cons b3_3 (.cons b3_6 (.cons b3_6 (.cons (Asks.fg (args1 := []) (args2 := []) (nl := some false) (sz := 1) (es := List.map e_b ([true, false, true] : List Bool)) (Asks.of (C := Meets Try.prog) (ballot_Many.meets fu ([true, false, true] : List Bool) _ h3_8))) (.cons b3_6 (.cons b3_6 (.cons b3_9 (.cons b3_9 (.cons b3_9 (.cons b3_9 (.cons (Eq.refl false) (.cons (Eq.refl false) (.cons (Eq.refl false) (.cons (Eq.refl false) (.cons (Eq.refl false) (.cons (Eq.refl false) (.cons (Eq.refl false) (.cons (Eq.refl false) (.cons (Eq.refl false) (.cons (Eq.refl false) .nil)))))))))))))))))))))))) (by kernel_rfl) ?_
        refine WK.weak (l := [(.t 0, [bv false])]) (wk_of (by kernel_rfl)) ?_
        refine WK.ret (by kernel_rfl) ?_
        cases some_inj h
        exact WKe.fin (e' := .ret) (by kernel_rfl) (fin_of (g := []) (by first | exact .inl rfl | exact .inr rfl) .nil (by kernel_rfl))
    · refine WK.rs (g := [.a ⟨iv r3_1, []⟩, .b true, .a ⟨iv r3_4, []⟩, .b true, .b true, .b false, .b false, .b false, .b false, .b false, .b false, .b false, .b false, .b false, .b false, .b false, .b false, .b false, .b false, .b false, .b false, .b false, .b false]) (l' := [(.t 0, [bv false])]) (by kernel_rfl) (.cons (Asks.of (C := Meets Try.prog) (ballot_Majority.meets 5 _ h3_2)) (.cons b3_3 (.cons (Asks.of (C := Meets Try.prog) (ballot_Majority.meets 4 _ h3_5)) (.cons b3_3 (.cons b3_3 (.cons b3_6 (.cons b3_6 (.cons b3_6 (.cons b3_6 (.cons (Eq.refl false) (.cons (Eq.refl false) (.cons (Eq.refl false) (.cons (Eq.refl false) (.cons (Eq.refl false) (.cons (Eq.refl false) (.cons (Eq.refl false) (.cons (Eq.refl false) (.cons (Eq.refl false) (.cons (Eq.refl false) (.cons (Eq.refl false) (.cons (Eq.refl false) (.cons (Eq.refl false) (.cons (Eq.refl false) .nil))))))))))))))))))))))) (by kernel_rfl) ?_
      refine WK.weak (l := [(.t 0, [bv false])]) (wk_of (by kernel_rfl)) ?_
      refine WK.ret (by kernel_rfl) ?_
      cases some_inj h
      exact WKe.fin (e' := .ret) (by kernel_rfl) (fin_of (g := []) (by first | exact .inl rfl | exact .inr rfl) .nil (by kernel_rfl))
  · refine WK.rs (g := [.a ⟨iv r3_1, []⟩, .b false, .b false, .b false, .b false, .b false, .b false, .b false, .b false, .b false, .b false, .b false, .b false, .b false, .b false, .b false, .b false, .b false, .b false, .b false, .b false, .b false]) (l' := [(.t 0, [bv false])]) (by kernel_rfl) (.cons (Asks.of (C := Meets Try.prog) (ballot_Majority.meets 5 _ h3_2)) (.cons b3_3 (.cons b3_3 (.cons b3_3 (.cons (Eq.refl false) (.cons (Eq.refl false) (.cons (Eq.refl false) (.cons (Eq.refl false) (.cons (Eq.refl false) (.cons (Eq.refl false) (.cons (Eq.refl false) (.cons (Eq.refl false) (.cons (Eq.refl false) (.cons (Eq.refl false) (.cons (Eq.refl false) (.cons (Eq.refl false) (.cons (Eq.refl false) (.cons (Eq.refl false) (.cons (Eq.refl false) (.cons (Eq.refl false) (.cons (Eq.refl false) (.cons (Eq.refl false) .nil)))))))))))))))))))))) (by kernel_rfl) ?_
    refine WK.weak (l := [(.t 0, [bv false])]) (wk_of (by kernel_rfl)) ?_
    refine WK.ret (by kernel_rfl) ?_
    cases some_inj h
    exact WKe.fin (e' := .ret) (by kernel_rfl) (fin_of (g := []) (by first | exact .inl rfl | exact .inr rfl) .nil (by kernel_rfl))
/-- diwan/diwanplay.Made -/
noncomputable def bd9 : Code := (Try.f9.body).getD .skip
def diwanplay_Made.O : Nat → Nat := fun t => bif ([2, 4, 5] : List Nat).any (Nat.beq t) then 1 else 0
noncomputable def diwanplay_Made (l : List Int) : Option TPicks :=
  some (TPicks.mk l 0)
theorem diwanplay_Made.meets (l : List Int) (z0 : TPicks) (h : diwanplay_Made l = some z0) : Meets Try.prog ⟨9, [.data (.slc false none 1 (List.map e_u8 l))], []⟩ ⟨.ptr 1000 0, [[.data (.slc false none 1 (List.map e_u8 z0.l)), iv z0.n]]⟩ := by
  refine meets_of (O := diwanplay_Made.O) hmix (fn := Try.f9) (code := bd9) (by kernel_rfl) ?_
  refine WK.weak (l := [(.t 0, [.data (.slc false none 1 (List.map e_u8 l))])]) (wk_of (by kernel_rfl)) ?_
  unfold diwanplay_Made at h
  refine WK.rs (g := []) (l' := [(.t 0, [.data (.slc false none 1 (List.map e_u8 l))])]) (by kernel_rfl) .nil (by kernel_rfl) ?_
  refine WK.rs (g := []) (l' := [(.t 2, [.ptr 5 0]), (.o 5, [.data (.slc false none 1 (List.map e_u8 l)), iv 0])]) (by kernel_rfl) .nil (by kernel_rfl) ?_
  refine WK.weak (l := [(.t 2, [.ptr 5 0]), (.o 5, [.data (.slc false none 1 (List.map e_u8 ((TPicks.mk l 0).l))), iv ((TPicks.mk l 0).n)])]) (wk_of (by kernel_rfl)) ?_
  refine WK.ret (by kernel_rfl) ?_
  cases some_inj h
  exact WKe.fin (e' := .ret) (by kernel_rfl) (fin_of (g := []) (by first | exact .inl rfl | exact .inr rfl) .nil (by kernel_rfl))
/-- (*diwan/diwanplay.Picks).Num -/
noncomputable def bd19 : Code := (Try.f19.body).getD .skip
def diwanplay_Picks_Num.O : Nat → Nat := fun t => bif ([4, 19] : List Nat).any (Nat.beq t) then 1 else 0
noncomputable def diwanplay_Picks_Num (m : Int) (o0_v : TPicks) : Option (Int × TPicks) :=
  br (decide (o0_v.n ≥ (o0_v.l.length : Int)))
    (some (0, o0_v))
    (ix o0_v.l (w64 ((w64 (o0_v.n + 1)) - 1)) fun x6_1 =>
    gd (!decide (m = 0)) <|
    some ((Int.tmod (w64 x6_1) m), (TPicks.mk o0_v.l (w64 (o0_v.n + 1)))))
theorem diwanplay_Picks_Num.meets (m : Int) (o0_v : TPicks) (z0 : Int) (z1 : TPicks) (h : diwanplay_Picks_Num m o0_v = some (z0, z1)) : Meets Try.prog ⟨19, [.ptr 1000 0, iv m], [[.data (.slc false none 1 (List.map e_u8 o0_v.l)), iv o0_v.n]]⟩ ⟨iv z0, [[.data (.slc false none 1 (List.map e_u8 z1.l)), iv z1.n]]⟩ := by
  refine meets_of (O := diwanplay_Picks_Num.O) hmix (fn := Try.f19) (code := bd19) (by kernel_rfl) ?_
  refine WK.weak (l := [(.t 0, [.ptr 1000 0]), (.t 1, [iv m]), (.o 1000, [.data (.slc false none 1 (List.map e_u8 o0_v.l)), iv o0_v.n])]) (wk_of (by kernel_rfl)) ?_
  unfold diwanplay_Picks_Num at h
  refine WK.rs (g := []) (l' := [(.t 0, [.ptr 1000 0]), (.t 1, [iv m]), (.o 1000, [.data (.slc false none 1 (List.map e_u8 o0_v.l)), iv o0_v.n])]) (by kernel_rfl) .nil (by kernel_rfl) ?_
  refine WK.seq (by kernel_rfl) ?_
  refine WK.rs (g := [.s (.t 13) [iv (o0_v.l.length : Int)]]) (l' := [(.t 0, [.ptr 1000 0]), (.t 1, [iv m]), (.t 14, [bv (decide (o0_v.n ≥ (o0_v.l.length : Int)))]), (.o 1000, [.data (.slc false none 1 (List.map e_u8 o0_v.l)), iv o0_v.n])]) (by kernel_rfl) (.cons (c_len (e := e_u8) (l := o0_v.l)) (.cons (Eq.refl true) .nil)) (by kernel_rfl) ?_
  rcases br_inv h with ⟨b3_0, h⟩ | ⟨b3_0, h⟩
  · refine WK.ct (b := (decide (o0_v.n ≥ (o0_v.l.length : Int)))) (by kernel_rfl) b3_0 ?_
    refine WK.rs (g := []) (l' := [(.t 4, [iv 0]), (.o 1000, [.data (.slc false none 1 (List.map e_u8 o0_v.l)), iv o0_v.n])]) (by kernel_rfl) .nil (by kernel_rfl) ?_
    refine WK.weak (l := [(.t 4, [iv 0]), (.o 1000, [.data (.slc false none 1 (List.map e_u8 o0_v.l)), iv o0_v.n])]) (wk_of (by kernel_rfl)) ?_
    refine WK.ret (by kernel_rfl) ?_
    cases some_inj h
    exact WKe.fin (e' := .ret) (by kernel_rfl) (fin_of (g := []) (by first | exact .inl rfl | exact .inr rfl) .nil (by kernel_rfl))
  · refine WK.ce (b := (decide (o0_v.n ≥ (o0_v.l.length : Int)))) (by kernel_rfl) b3_0 ?_
    refine WK.skip (by kernel_rfl) ?_
    refine WKe.code (y := (cR (cR bd19))) (ks' := []) (by kernel_rfl) ?_
    refine WK.rs (g := []) (l' := [(.t 0, [.ptr 1000 0]), (.t 1, [iv m]), (.o 1000, [.data (.slc false none 1 (List.map e_u8 o0_v.l)), iv (w64 (o0_v.n + 1))])]) (by kernel_rfl) .nil (by kernel_rfl) ?_
    obtain ⟨x6_1, a6_2, e6_3, h⟩ := ix_inv h
    obtain ⟨c6_4, h⟩ := gd_inv h
    refine WK.rs (g := [.c (e_u8 x6_1)]) (l' := [(.t 4, [iv (Int.tmod (w64 x6_1) m)]), (.o 1000, [.data (.slc false none 1 (List.map e_u8 o0_v.l)), iv (w64 (o0_v.n + 1))])]) (by kernel_rfl) (.cons (c_ix (e := e_u8) a6_2 e6_3) (.cons (c_el (e := e_u8) e6_3) (.cons c6_4 (.cons (Eq.refl true) .nil)))) (by kernel_rfl) ?_
    refine WK.weak (l := [(.t 4, [iv (Int.tmod (w64 x6_1) m)]), (.o 1000, [.data (.slc false none 1 (List.map e_u8 ((TPicks.mk o0_v.l (w64 (o0_v.n + 1))).l))), iv ((TPicks.mk o0_v.l (w64 (o0_v.n + 1))).n)])]) (wk_of (by kernel_rfl)) ?_
    refine WK.ret (by kernel_rfl) ?_
    cases some_inj h
    exact WKe.fin (e' := .ret) (by kernel_rfl) (fin_of (g := []) (by first | exact .inl rfl | exact .inr rfl) .nil (by kernel_rfl))
/-- diwan/diwanplay.keys -/
noncomputable def bd31 : Code := (Try.f31.body).getD .skip
def diwanplay_keys.O : Nat → Nat := fun t => bif ([0, 1] : List Nat).any (Nat.beq t) then 1 else 0
noncomputable def diwanplay_keys : Option Unit :=
  some ()
theorem diwanplay_keys.meets (h : diwanplay_keys = some ()) : Meets Try.prog ⟨31, [], []⟩ ⟨.data (.slc true (some false) 1 (List.map e_s ([(⟨#[97]⟩ : ByteArray), (⟨#[98]⟩ : ByteArray), (⟨#[99]⟩ : ByteArray), (⟨#[100]⟩ : ByteArray), (⟨#[101, 101]⟩ : ByteArray), (⟨#[102, 102]⟩ : ByteArray)] : List ByteArray))), []⟩ := by
  refine meets_of (O := diwanplay_keys.O) hmix (fn := Try.f31) (code := bd31) (by kernel_rfl) ?_
  refine WK.weak (l := []) (wk_of (by kernel_rfl)) ?_
  unfold diwanplay_keys at h
  refine WK.rs (g := []) (l' := []) (by kernel_rfl) .nil (by kernel_rfl) ?_
  refine WK.rs (g := []) (l' := [(.t 0, [.data (.slc true (some false) 1 (List.map e_s ([(⟨#[97]⟩ : ByteArray), (⟨#[98]⟩ : ByteArray), (⟨#[99]⟩ : ByteArray), (⟨#[100]⟩ : ByteArray), (⟨#[101, 101]⟩ : ByteArray), (⟨#[102, 102]⟩ : ByteArray)] : List ByteArray)))])]) (by kernel_rfl) .nil (by kernel_rfl) ?_
  refine WK.weak (l := [(.t 0, [.data (.slc true (some false) 1 (List.map e_s ([(⟨#[97]⟩ : ByteArray), (⟨#[98]⟩ : ByteArray), (⟨#[99]⟩ : ByteArray), (⟨#[100]⟩ : ByteArray), (⟨#[101, 101]⟩ : ByteArray), (⟨#[102, 102]⟩ : ByteArray)] : List ByteArray)))])]) (wk_of (by kernel_rfl)) ?_
  refine WK.ret (by kernel_rfl) ?_
  cases some_inj h
  exact WKe.fin (e' := .ret) (by kernel_rfl) (fin_of (g := []) (by first | exact .inl rfl | exact .inr rfl) .nil (by kernel_rfl))
/-- (*diwan/diwanplay.Picks).Keys -/
noncomputable def bd27 : Code := (Try.f27.body).getD .skip
def diwanplay_Picks_Keys.O : Nat → Nat := fun t => bif ([4, 5, 6, 7, 8] : List Nat).any (Nat.beq t) then 1 else 0
noncomputable def diwanplay_Picks_Keys.lp6 (fu : Nat) (l6_0 : Int) (l6_3 : List ByteArray) (l6_5 : TPicks) : Nat → (List ByteArray) → Int → Int → Option (List ByteArray)
  | 0, _, _, _ => none
  | n_ + 1, l6_1, l6_2, l6_4 =>
    br (decide (l6_4 < (l6_3.length : Int)))
      (br (decide ((l6_1.length : Int) < l6_0))
        (br ((Int.tmod l6_2 2) == 1)
          (ix l6_3 l6_4 fun x11_1 =>
          gd (decide (l6_1.length + ([x11_1] : List ByteArray).length ≤ 4294967296)) <|
          diwanplay_Picks_Keys.lp6 fu l6_0 l6_3 l6_5 n_ (l6_1 ++ ([x11_1] : List ByteArray)) (w64 (Int.tdiv l6_2 2)) (w64 (l6_4 + 1)))
          (diwanplay_Picks_Keys.lp6 fu l6_0 l6_3 l6_5 n_ l6_1 (w64 (Int.tdiv l6_2 2)) (w64 (l6_4 + 1))))
        (some l6_1))
      (some l6_1)
noncomputable def diwanplay_Picks_Keys.lp6_post (l6_0 : Int) (l6_3 : List ByteArray) (l6_5 : TPicks) (r_ : (List ByteArray)) : Wy → St → Prop := fun e τ => match r_ with
  | y0 => e = .exit 0 ∧ τ = ofL [(.t 5, [.data (.slc true none 1 (List.map e_s y0))]), (.o 1000, [.data (.slc false none 1 (List.map e_u8 l6_5.l)), iv l6_5.n])]
theorem diwanplay_Picks_Keys.lp6_ok (fu : Nat) (l6_0 : Int) (l6_3 : List ByteArray) (l6_5 : TPicks) : ∀ (n_ : Nat) (l6_1 : List ByteArray) (l6_2 : Int) (l6_4 : Int) (r_ : (List ByteArray)), diwanplay_Picks_Keys.lp6 fu l6_0 l6_3 l6_5 n_ l6_1 l6_2 l6_4 = some r_ → WK Try.prog diwanplay_Picks_Keys.O (Ck Try.prog) (cB (cR (cL (cR (cR (cR (cR bd27))))))) [] (ofL [(.t 1, [iv l6_0]), (.t 5, [.data (.slc true none 1 (List.map e_s l6_1))]), (.t 6, [iv l6_2]), (.t 7, [.data (.slc true (some false) 1 (List.map e_s l6_3))]), (.t 8, [iv l6_4]), (.o 1000, [.data (.slc false none 1 (List.map e_u8 l6_5.l)), iv l6_5.n])]) (diwanplay_Picks_Keys.lp6_post l6_0 l6_3 l6_5 r_) := by
  intro n_
  induction n_ with
  | zero => intro l6_1 l6_2 l6_4 r_ h; exact no_none h
  | succ n_ ih =>
    intro l6_1 l6_2 l6_4 r_ h
    refine WK.loop (by kernel_rfl) ?_
    refine WK.seq (by kernel_rfl) ?_
    rcases br_inv h with ⟨b7_1, h⟩ | ⟨b7_1, h⟩
    · refine WK.rs (g := [.s (.t 14) [iv (l6_3.length : Int)], .b true, .b true, .s (.t 18) [iv (l6_1.length : Int)], .b true, .b true, .b true]) (l' := [(.t 1, [iv l6_0]), (.t 5, [.data (.slc true none 1 (List.map e_s l6_1))]), (.t 6, [iv l6_2]), (.t 7, [.data (.slc true (some false) 1 (List.map e_s l6_3))]), (.t 8, [iv l6_4]), (.t 21, [bv (decide ((l6_1.length : Int) < l6_0))]), (.o 1000, [.data (.slc false none 1 (List.map e_u8 l6_5.l)), iv l6_5.n])]) (by kernel_rfl) (.cons (c_len (e := e_s) (l := l6_3)) (.cons b7_1 (.cons b7_1 (.cons (c_len (e := e_s) (l := l6_1)) (.cons b7_1 (.cons b7_1 (.cons b7_1 .nil))))))) (by kernel_rfl) ?_
      rcases br_inv h with ⟨b8_0, h⟩ | ⟨b8_0, h⟩
      · refine WK.ct (b := (decide ((l6_1.length : Int) < l6_0))) (by kernel_rfl) b8_0 ?_
        refine WK.skip (by kernel_rfl) ?_
        refine WKe.code (y := (cR (cB (cB (cR (cL (cR (cR (cR (cR bd27)))))))))) (ks' := [.lp (cB (cR (cL (cR (cR (cR (cR bd27)))))))]) (by kernel_rfl) ?_
        refine WK.seq (by kernel_rfl) ?_
        refine WK.block (n := 1) (by kernel_rfl) ?_
        refine WK.seq (by kernel_rfl) ?_
        refine WK.rs (g := []) (l' := [(.t 1, [iv l6_0]), (.t 5, [.data (.slc true none 1 (List.map e_s l6_1))]), (.t 6, [iv l6_2]), (.t 7, [.data (.slc true (some false) 1 (List.map e_s l6_3))]), (.t 8, [iv l6_4]), (.t 26, [bv ((Int.tmod l6_2 2) == 1)]), (.o 1000, [.data (.slc false none 1 (List.map e_u8 l6_5.l)), iv l6_5.n])]) (by kernel_rfl) (.cons (Eq.refl true) .nil) (by kernel_rfl) ?_
        rcases br_inv h with ⟨b10_0, h⟩ | ⟨b10_0, h⟩
        · refine WK.ct (b := ((Int.tmod l6_2 2) == 1)) (by kernel_rfl) b10_0 ?_
          obtain ⟨x11_1, a11_2, e11_3, h⟩ := ix_inv h
          obtain ⟨c11_4, h⟩ := gd_inv h
          refine WK.rc (g := [.c (e_s x11_1), .s (.t 33) [.data (.slc true none 1 (List.map e_s (l6_1 ++ ([x11_1] : List ByteArray))))]]) (l' := [(.t 1, [iv l6_0]), (.t 5, [.data (.slc true none 1 (List.map e_s (l6_1 ++ ([x11_1] : List ByteArray))))]), (.t 6, [iv l6_2]), (.t 7, [.data (.slc true (some false) 1 (List.map e_s l6_3))]), (.t 8, [iv l6_4]), (.o 1000, [.data (.slc false none 1 (List.map e_u8 l6_5.l)), iv l6_5.n])]) (.cons (c_ix (e := e_s) a11_2 e11_3) (.cons (c_el (e := e_s) e11_3) (.cons (c_al (e := e_s) (f := e_s) c11_4) (.cons (congrArg (fun d : DV => [AV.data d]) (c_app (e := e_s) (s := 1) (l := l6_1) (m := ([x11_1] : List ByteArray)))) .nil)))) (by kernel_rfl) (y := (cR (cB (cL (cR (cB (cB (cR (cL (cR (cR (cR (cR bd27))))))))))))) (ks' := [.blk 1, .seq (cR (cR (cB (cB (cR (cL (cR (cR (cR (cR bd27)))))))))), .lp (cB (cR (cL (cR (cR (cR (cR bd27)))))))]) (by kernel_rfl) ?_
          refine WK.rc (g := []) (l' := [(.t 1, [iv l6_0]), (.t 5, [.data (.slc true none 1 (List.map e_s (l6_1 ++ ([x11_1] : List ByteArray))))]), (.t 6, [iv (w64 (Int.tdiv l6_2 2))]), (.t 7, [.data (.slc true (some false) 1 (List.map e_s l6_3))]), (.t 8, [iv l6_4]), (.o 1000, [.data (.slc false none 1 (List.map e_u8 l6_5.l)), iv l6_5.n])]) (.cons (Eq.refl true) .nil) (by kernel_rfl) (y := (cR (cR (cB (cB (cR (cL (cR (cR (cR (cR bd27))))))))))) (ks' := [.lp (cB (cR (cL (cR (cR (cR (cR bd27)))))))]) (by kernel_rfl) ?_
          refine WK.rc (g := []) (l' := [(.t 1, [iv l6_0]), (.t 5, [.data (.slc true none 1 (List.map e_s (l6_1 ++ ([x11_1] : List ByteArray))))]), (.t 6, [iv (w64 (Int.tdiv l6_2 2))]), (.t 7, [.data (.slc true (some false) 1 (List.map e_s l6_3))]), (.t 8, [iv (w64 (l6_4 + 1))]), (.o 1000, [.data (.slc false none 1 (List.map e_u8 l6_5.l)), iv l6_5.n])]) .nil (by kernel_rfl) (y := (cB (cR (cL (cR (cR (cR (cR bd27)))))))) (ks' := []) (by kernel_rfl) ?_
          exact WK.weak (l := [(.t 1, [iv l6_0]), (.t 5, [.data (.slc true none 1 (List.map e_s (l6_1 ++ ([x11_1] : List ByteArray))))]), (.t 6, [iv (w64 (Int.tdiv l6_2 2))]), (.t 7, [.data (.slc true (some false) 1 (List.map e_s l6_3))]), (.t 8, [iv (w64 (l6_4 + 1))]), (.o 1000, [.data (.slc false none 1 (List.map e_u8 l6_5.l)), iv l6_5.n])]) (wk_of (by kernel_rfl)) (ih (l6_1 ++ ([x11_1] : List ByteArray)) (w64 (Int.tdiv l6_2 2)) (w64 (l6_4 + 1)) _ h)
        · refine WK.ce (b := ((Int.tmod l6_2 2) == 1)) (by kernel_rfl) b10_0 ?_
          refine WK.skip (by kernel_rfl) ?_
          refine WKe.code (y := (cR (cB (cL (cR (cB (cB (cR (cL (cR (cR (cR (cR bd27))))))))))))) (ks' := [.blk 1, .seq (cR (cR (cB (cB (cR (cL (cR (cR (cR (cR bd27)))))))))), .lp (cB (cR (cL (cR (cR (cR (cR bd27)))))))]) (by kernel_rfl) ?_
          refine WK.rc (g := []) (l' := [(.t 1, [iv l6_0]), (.t 5, [.data (.slc true none 1 (List.map e_s l6_1))]), (.t 6, [iv (w64 (Int.tdiv l6_2 2))]), (.t 7, [.data (.slc true (some false) 1 (List.map e_s l6_3))]), (.t 8, [iv l6_4]), (.o 1000, [.data (.slc false none 1 (List.map e_u8 l6_5.l)), iv l6_5.n])]) (.cons (Eq.refl true) .nil) (by kernel_rfl) (y := (cR (cR (cB (cB (cR (cL (cR (cR (cR (cR bd27))))))))))) (ks' := [.lp (cB (cR (cL (cR (cR (cR (cR bd27)))))))]) (by kernel_rfl) ?_
          refine WK.rc (g := []) (l' := [(.t 1, [iv l6_0]), (.t 5, [.data (.slc true none 1 (List.map e_s l6_1))]), (.t 6, [iv (w64 (Int.tdiv l6_2 2))]), (.t 7, [.data (.slc true (some false) 1 (List.map e_s l6_3))]), (.t 8, [iv (w64 (l6_4 + 1))]), (.o 1000, [.data (.slc false none 1 (List.map e_u8 l6_5.l)), iv l6_5.n])]) .nil (by kernel_rfl) (y := (cB (cR (cL (cR (cR (cR (cR bd27)))))))) (ks' := []) (by kernel_rfl) ?_
          exact WK.weak (l := [(.t 1, [iv l6_0]), (.t 5, [.data (.slc true none 1 (List.map e_s l6_1))]), (.t 6, [iv (w64 (Int.tdiv l6_2 2))]), (.t 7, [.data (.slc true (some false) 1 (List.map e_s l6_3))]), (.t 8, [iv (w64 (l6_4 + 1))]), (.o 1000, [.data (.slc false none 1 (List.map e_u8 l6_5.l)), iv l6_5.n])]) (wk_of (by kernel_rfl)) (ih l6_1 (w64 (Int.tdiv l6_2 2)) (w64 (l6_4 + 1)) _ h)
      · refine WK.ce (b := (decide ((l6_1.length : Int) < l6_0))) (by kernel_rfl) b8_0 ?_
        refine WK.weak (l := [(.t 5, [.data (.slc true none 1 (List.map e_s l6_1))]), (.o 1000, [.data (.slc false none 1 (List.map e_u8 l6_5.l)), iv l6_5.n])]) (wk_of (by kernel_rfl)) ?_
        refine WK.exit (n := 0) (by kernel_rfl) ?_
        cases some_inj h
        exact WKe.fin (e' := .exit 0) (by kernel_rfl) ⟨rfl, rfl⟩
    · refine WK.rs (g := [.s (.t 14) [iv (l6_3.length : Int)], .b false, .b false, .b false, .b false, .b false]) (l' := [(.t 1, [iv l6_0]), (.t 5, [.data (.slc true none 1 (List.map e_s l6_1))]), (.t 6, [iv l6_2]), (.t 7, [.data (.slc true (some false) 1 (List.map e_s l6_3))]), (.t 8, [iv l6_4]), (.t 21, [bv false]), (.o 1000, [.data (.slc false none 1 (List.map e_u8 l6_5.l)), iv l6_5.n])]) (by kernel_rfl) (.cons (c_len (e := e_s) (l := l6_3)) (.cons b7_1 (.cons b7_1 (.cons b7_1 (.cons b7_1 (.cons b7_1 .nil)))))) (by kernel_rfl) ?_
      refine WK.ce (b := false) (by kernel_rfl) rfl ?_
      refine WK.weak (l := [(.t 5, [.data (.slc true none 1 (List.map e_s l6_1))]), (.o 1000, [.data (.slc false none 1 (List.map e_u8 l6_5.l)), iv l6_5.n])]) (wk_of (by kernel_rfl)) ?_
      refine WK.exit (n := 0) (by kernel_rfl) ?_
      cases some_inj h
      exact WKe.fin (e' := .exit 0) (by kernel_rfl) ⟨rfl, rfl⟩
noncomputable def diwanplay_Picks_Keys (fu : Nat) (most : Int) (o0_v : TPicks) : Option (List ByteArray × TPicks) :=
  bd (diwanplay_Picks_Num 64 o0_v) fun (r3_1, r3_2) =>
  bd (diwanplay_keys) fun _ =>
  bd (diwanplay_Picks_Keys.lp6 fu most ([(⟨#[97]⟩ : ByteArray), (⟨#[98]⟩ : ByteArray), (⟨#[99]⟩ : ByteArray), (⟨#[100]⟩ : ByteArray), (⟨#[101, 101]⟩ : ByteArray), (⟨#[102, 102]⟩ : ByteArray)] : List ByteArray) r3_2 fu [] r3_1 0) fun y16_0 =>
  some (y16_0, r3_2)
theorem diwanplay_Picks_Keys.meets (fu : Nat) (most : Int) (o0_v : TPicks) (z0 : List ByteArray) (z1 : TPicks) (h : diwanplay_Picks_Keys fu most o0_v = some (z0, z1)) : Meets Try.prog ⟨27, [.ptr 1000 0, iv most], [[.data (.slc false none 1 (List.map e_u8 o0_v.l)), iv o0_v.n]]⟩ ⟨.data (.slc true none 1 (List.map e_s z0)), [[.data (.slc false none 1 (List.map e_u8 z1.l)), iv z1.n]]⟩ := by
  refine meets_of (O := diwanplay_Picks_Keys.O) hmix (fn := Try.f27) (code := bd27) (by kernel_rfl) ?_
  refine WK.weak (l := [(.t 0, [.ptr 1000 0]), (.t 1, [iv most]), (.o 1000, [.data (.slc false none 1 (List.map e_u8 o0_v.l)), iv o0_v.n])]) (wk_of (by kernel_rfl)) ?_
  unfold diwanplay_Picks_Keys at h
  refine WK.rs (g := []) (l' := [(.t 0, [.ptr 1000 0]), (.t 1, [iv most]), (.o 1000, [.data (.slc false none 1 (List.map e_u8 o0_v.l)), iv o0_v.n])]) (by kernel_rfl) .nil (by kernel_rfl) ?_
  refine WK.rs (g := []) (l' := [(.t 0, [.ptr 1000 0]), (.t 1, [iv most]), (.t 5, [.data (.slc true (some true) 1 (List.map e_s []))]), (.o 1000, [.data (.slc false none 1 (List.map e_u8 o0_v.l)), iv o0_v.n])]) (by kernel_rfl) .nil (by kernel_rfl) ?_
  obtain ⟨⟨r3_1, r3_2⟩, h3_3, h⟩ := bd_inv h
  refine WK.rs (g := [.a ⟨iv r3_1, [[.data (.slc false none 1 (List.map e_u8 r3_2.l)), iv r3_2.n]]⟩]) (l' := [(.t 1, [iv most]), (.t 5, [.data (.slc true (some true) 1 (List.map e_s []))]), (.t 6, [iv r3_1]), (.o 1000, [.data (.slc false none 1 (List.map e_u8 r3_2.l)), iv r3_2.n])]) (by kernel_rfl) (.cons (Asks.of (C := Meets Try.prog) (diwanplay_Picks_Num.meets 64 o0_v _ _ h3_3)) .nil) (by kernel_rfl) ?_
  obtain ⟨_, h4_1, h⟩ := bd_inv h
  refine WK.rs (g := [.a ⟨.data (.slc true (some false) 1 (List.map e_s ([(⟨#[97]⟩ : ByteArray), (⟨#[98]⟩ : ByteArray), (⟨#[99]⟩ : ByteArray), (⟨#[100]⟩ : ByteArray), (⟨#[101, 101]⟩ : ByteArray), (⟨#[102, 102]⟩ : ByteArray)] : List ByteArray))), []⟩]) (l' := [(.t 1, [iv most]), (.t 5, [.data (.slc true (some true) 1 (List.map e_s []))]), (.t 6, [iv r3_1]), (.t 7, [.data (.slc true (some false) 1 (List.map e_s ([(⟨#[97]⟩ : ByteArray), (⟨#[98]⟩ : ByteArray), (⟨#[99]⟩ : ByteArray), (⟨#[100]⟩ : ByteArray), (⟨#[101, 101]⟩ : ByteArray), (⟨#[102, 102]⟩ : ByteArray)] : List ByteArray)))]), (.o 1000, [.data (.slc false none 1 (List.map e_u8 r3_2.l)), iv r3_2.n])]) (by kernel_rfl) (.cons (Asks.of (C := Meets Try.prog) (diwanplay_keys.meets  h4_1)) .nil) (by kernel_rfl) ?_
  refine WK.seq (by kernel_rfl) ?_
  refine WK.rs (g := []) (l' := [(.t 1, [iv most]), (.t 5, [.data (.slc true (some true) 1 (List.map e_s []))]), (.t 6, [iv r3_1]), (.t 7, [.data (.slc true (some false) 1 (List.map e_s ([(⟨#[97]⟩ : ByteArray), (⟨#[98]⟩ : ByteArray), (⟨#[99]⟩ : ByteArray), (⟨#[100]⟩ : ByteArray), (⟨#[101, 101]⟩ : ByteArray), (⟨#[102, 102]⟩ : ByteArray)] : List ByteArray)))]), (.t 8, [iv 0]), (.o 1000, [.data (.slc false none 1 (List.map e_u8 r3_2.l)), iv r3_2.n])]) (by kernel_rfl) .nil (by kernel_rfl) ?_
  refine WK.block (n := 0) (by kernel_rfl) ?_
  obtain ⟨o16, ho16, h⟩ := bd_inv h
  refine WK.weak (l := [(.t 1, [iv most]), (.t 5, [.data (.slc true none 1 (List.map e_s []))]), (.t 6, [iv r3_1]), (.t 7, [.data (.slc true (some false) 1 (List.map e_s ([(⟨#[97]⟩ : ByteArray), (⟨#[98]⟩ : ByteArray), (⟨#[99]⟩ : ByteArray), (⟨#[100]⟩ : ByteArray), (⟨#[101, 101]⟩ : ByteArray), (⟨#[102, 102]⟩ : ByteArray)] : List ByteArray)))]), (.t 8, [iv 0]), (.o 1000, [.data (.slc false none 1 (List.map e_u8 r3_2.l)), iv r3_2.n])]) (wk_of (by kernel_rfl)) ?_
  refine WK.use (diwanplay_Picks_Keys.lp6_ok fu most ([(⟨#[97]⟩ : ByteArray), (⟨#[98]⟩ : ByteArray), (⟨#[99]⟩ : ByteArray), (⟨#[100]⟩ : ByteArray), (⟨#[101, 101]⟩ : ByteArray), (⟨#[102, 102]⟩ : ByteArray)] : List ByteArray) r3_2 _ [] r3_1 0 _ ho16) ?_
  intro e_ τ_ hp_
  obtain ⟨y16_0, rfl⟩ : ∃ y, y = o16 := ⟨_, rfl⟩
  obtain ⟨rfl, rfl⟩ := hp_
  refine WKe.code (y := (cR (cR (cR (cR (cR bd27)))))) (ks' := []) (by kernel_rfl) ?_
  refine WK.rs (g := []) (l' := [(.t 4, [.data (.slc true none 1 (List.map e_s y16_0))]), (.o 1000, [.data (.slc false none 1 (List.map e_u8 r3_2.l)), iv r3_2.n])]) (by kernel_rfl) .nil (by kernel_rfl) ?_
  refine WK.weak (l := [(.t 4, [.data (.slc true none 1 (List.map e_s y16_0))]), (.o 1000, [.data (.slc false none 1 (List.map e_u8 r3_2.l)), iv r3_2.n])]) (wk_of (by kernel_rfl)) ?_
  refine WK.ret (by kernel_rfl) ?_
  cases some_inj h
  exact WKe.fin (e' := .ret) (by kernel_rfl) (fin_of (g := []) (by first | exact .inl rfl | exact .inr rfl) .nil (by kernel_rfl))
/-- (*diwan/diwanplay.Picks).Val -/
noncomputable def bd28 : Code := (Try.f28.body).getD .skip
def diwanplay_Picks_Val.O : Nat → Nat := fun t => bif ([2, 3] : List Nat).any (Nat.beq t) then 1 else 0
noncomputable def diwanplay_Picks_Val (o0_v : TPicks) : Option (ByteArray × TPicks) :=
  bd (diwanplay_Picks_Num 5 o0_v) fun (r2_1, r2_2) =>
  ix ([ByteArray.empty, (⟨#[118]⟩ : ByteArray), (⟨#[119]⟩ : ByteArray), (⟨#[120, 120]⟩ : ByteArray), (⟨#[115, 105, 120, 116, 101, 101, 110, 45, 98, 121, 116, 101, 115, 45, 111, 107]⟩ : ByteArray)] : List ByteArray) r2_1 fun x2_4 =>
  some (x2_4, r2_2)
theorem diwanplay_Picks_Val.meets (o0_v : TPicks) (z0 : ByteArray) (z1 : TPicks) (h : diwanplay_Picks_Val o0_v = some (z0, z1)) : Meets Try.prog ⟨28, [.ptr 1000 0], [[.data (.slc false none 1 (List.map e_u8 o0_v.l)), iv o0_v.n]]⟩ ⟨sv z0, [[.data (.slc false none 1 (List.map e_u8 z1.l)), iv z1.n]]⟩ := by
  refine meets_of (O := diwanplay_Picks_Val.O) hmix (fn := Try.f28) (code := bd28) (by kernel_rfl) ?_
  refine WK.weak (l := [(.t 0, [.ptr 1000 0]), (.o 1000, [.data (.slc false none 1 (List.map e_u8 o0_v.l)), iv o0_v.n])]) (wk_of (by kernel_rfl)) ?_
  unfold diwanplay_Picks_Val at h
  refine WK.rs (g := []) (l' := [(.t 0, [.ptr 1000 0]), (.o 1000, [.data (.slc false none 1 (List.map e_u8 o0_v.l)), iv o0_v.n])]) (by kernel_rfl) .nil (by kernel_rfl) ?_
  obtain ⟨⟨r2_1, r2_2⟩, h2_3, h⟩ := bd_inv h
  obtain ⟨x2_4, a2_5, e2_6, h⟩ := ix_inv h
  refine WK.rs (g := [.a ⟨iv r2_1, [[.data (.slc false none 1 (List.map e_u8 r2_2.l)), iv r2_2.n]]⟩, .c (e_s x2_4)]) (l' := [(.t 2, [sv x2_4]), (.o 1000, [.data (.slc false none 1 (List.map e_u8 r2_2.l)), iv r2_2.n])]) (by kernel_rfl) (.cons (Asks.of (C := Meets Try.prog) (diwanplay_Picks_Num.meets 5 o0_v _ _ h2_3)) (.cons (c_ix (e := e_s) a2_5 e2_6) (.cons (c_el (e := e_s) e2_6) .nil))) (by kernel_rfl) ?_
  refine WK.weak (l := [(.t 2, [sv x2_4]), (.o 1000, [.data (.slc false none 1 (List.map e_u8 r2_2.l)), iv r2_2.n])]) (wk_of (by kernel_rfl)) ?_
  refine WK.ret (by kernel_rfl) ?_
  cases some_inj h
  exact WKe.fin (e' := .ret) (by kernel_rfl) (fin_of (g := []) (by first | exact .inl rfl | exact .inr rfl) .nil (by kernel_rfl))
/-- (*diwan/diwanplay.Picks).Txn -/
noncomputable def bd20 : Code := (Try.f20.body).getD .skip
def diwanplay_Picks_Txn.O : Nat → Nat := fun t => bif ([4, 5, 6, 7, 8, 9, 10, 11, 18, 45, 52, 78] : List Nat).any (Nat.beq t) then 1 else 0
noncomputable def diwanplay_Picks_Txn.lp5 (fu : Nat) (l5_0 : Int) (l5_1 : List ByteArray) (l5_3 : TTxn) : Nat → Int → TTxn → TPicks → Option (TTxn × TPicks)
  | 0, _, _, _ => none
  | n_ + 1, l5_2, l5_4, l5_5 =>
    br (decide (l5_2 < (l5_1.length : Int)))
      (ix l5_1 l5_2 fun x8_1 =>
      bd (diwanplay_Picks_Num (if l5_0 < 1 then 1 else l5_0) l5_5) fun (r8_4, r8_5) =>
      jn (fun (j12_5 : TRead) (j12_6 : TPicks) =>
        gd (decide (l5_4.Reads.length + ([j12_5] : List TRead).length ≤ 4294967296)) <|
        diwanplay_Picks_Txn.lp5 fu l5_0 l5_1 l5_3 n_ (w64 (l5_2 + 1)) (TTxn.mk l5_4.Session l5_4.Seq (l5_4.Reads ++ ([j12_5] : List TRead)) l5_4.Writes) j12_6) fun k12 =>
      br (decide (r8_4 > 0))
        (bd (diwanplay_Picks_Num 4 r8_5) fun (r9_2, r9_3) =>
        br (decide (r9_2 > 0))
          (bd (diwanplay_Picks_Val r9_3) fun (r11_1, r11_2) =>
          k12 (TRead.mk x8_1 r8_4 r11_1 true) r11_2)
          (k12 (TRead.mk x8_1 r8_4 ByteArray.empty false) r9_3))
        (k12 (TRead.mk x8_1 r8_4 ByteArray.empty false) r8_5))
      (some (l5_4, l5_5))
noncomputable def diwanplay_Picks_Txn.lp5_post (l5_0 : Int) (l5_1 : List ByteArray) (l5_3 : TTxn) (r_ : (TTxn × TPicks)) : Wy → St → Prop := fun e τ => match r_ with
  | (y0, y1) => e = .exit 0 ∧ τ = ofL [(.t 0, [.ptr 1000 0]), (.t 4, [.ptr 4 0]), (.t 5, [.ptr 5 0]), (.o 4, [iv l5_3.Session, iv l5_3.Seq, .data (.slc true none 4 (List.map TRead.en l5_3.Reads)), .data (.slc true none 3 (List.map TWrite.en l5_3.Writes))]), (.o 5, [iv y0.Session, iv y0.Seq, .data (.slc true none 4 (List.map TRead.en y0.Reads)), .data (.slc true none 3 (List.map TWrite.en y0.Writes))]), (.o 1000, [.data (.slc false none 1 (List.map e_u8 y1.l)), iv y1.n])]
theorem diwanplay_Picks_Txn.lp5_ok (fu : Nat) (l5_0 : Int) (l5_1 : List ByteArray) (l5_3 : TTxn) : ∀ (n_ : Nat) (l5_2 : Int) (l5_4 : TTxn) (l5_5 : TPicks) (r_ : (TTxn × TPicks)), diwanplay_Picks_Txn.lp5 fu l5_0 l5_1 l5_3 n_ l5_2 l5_4 l5_5 = some r_ → WK Try.prog diwanplay_Picks_Txn.O (Ck Try.prog) (cB (cR (cL (cR (cR (cR bd20)))))) [] (ofL [(.t 0, [.ptr 1000 0]), (.t 1, [iv l5_0]), (.t 4, [.ptr 4 0]), (.t 5, [.ptr 5 0]), (.t 6, [.data (.slc true none 1 (List.map e_s l5_1))]), (.t 7, [iv l5_2]), (.o 4, [iv l5_3.Session, iv l5_3.Seq, .data (.slc true none 4 (List.map TRead.en l5_3.Reads)), .data (.slc true none 3 (List.map TWrite.en l5_3.Writes))]), (.o 5, [iv l5_4.Session, iv l5_4.Seq, .data (.slc true none 4 (List.map TRead.en l5_4.Reads)), .data (.slc true none 3 (List.map TWrite.en l5_4.Writes))]), (.o 1000, [.data (.slc false none 1 (List.map e_u8 l5_5.l)), iv l5_5.n])]) (diwanplay_Picks_Txn.lp5_post l5_0 l5_1 l5_3 r_) := by
  intro n_
  induction n_ with
  | zero => intro l5_2 l5_4 l5_5 r_ h; exact no_none h
  | succ n_ ih =>
    intro l5_2 l5_4 l5_5 r_ h
    refine WK.loop (by kernel_rfl) ?_
    refine WK.seq (by kernel_rfl) ?_
    refine WK.rs (g := [.s (.t 23) [iv (l5_1.length : Int)]]) (l' := [(.t 0, [.ptr 1000 0]), (.t 1, [iv l5_0]), (.t 4, [.ptr 4 0]), (.t 5, [.ptr 5 0]), (.t 6, [.data (.slc true none 1 (List.map e_s l5_1))]), (.t 7, [iv l5_2]), (.t 24, [bv (decide (l5_2 < (l5_1.length : Int)))]), (.o 4, [iv l5_3.Session, iv l5_3.Seq, .data (.slc true none 4 (List.map TRead.en l5_3.Reads)), .data (.slc true none 3 (List.map TWrite.en l5_3.Writes))]), (.o 5, [iv l5_4.Session, iv l5_4.Seq, .data (.slc true none 4 (List.map TRead.en l5_4.Reads)), .data (.slc true none 3 (List.map TWrite.en l5_4.Writes))]), (.o 1000, [.data (.slc false none 1 (List.map e_u8 l5_5.l)), iv l5_5.n])]) (by kernel_rfl) (.cons (c_len (e := e_s) (l := l5_1)) .nil) (by kernel_rfl) ?_
    rcases br_inv h with ⟨b7_0, h⟩ | ⟨b7_0, h⟩
    · refine WK.ct (b := (decide (l5_2 < (l5_1.length : Int)))) (by kernel_rfl) b7_0 ?_
      refine WK.skip (by kernel_rfl) ?_
      refine WKe.code (y := (cR (cB (cB (cR (cL (cR (cR (cR bd20))))))))) (ks' := [.lp (cB (cR (cL (cR (cR (cR bd20))))))]) (by kernel_rfl) ?_
      refine WK.seq (by kernel_rfl) ?_
      refine WK.block (n := 1) (by kernel_rfl) ?_
      obtain ⟨x8_1, a8_2, e8_3, h⟩ := ix_inv h
      obtain ⟨⟨r8_4, r8_5⟩, h8_6, h⟩ := bd_inv h
      refine WK.rs (g := [.c (e_s x8_1), .a ⟨iv r8_4, [[.data (.slc false none 1 (List.map e_u8 r8_5.l)), iv r8_5.n]]⟩]) (l' := [(.t 0, [.ptr 1000 0]), (.t 1, [iv l5_0]), (.t 4, [.ptr 4 0]), (.t 5, [.ptr 5 0]), (.t 6, [.data (.slc true none 1 (List.map e_s l5_1))]), (.t 7, [iv l5_2]), (.t 8, [.ptr 8 0]), (.o 4, [iv l5_3.Session, iv l5_3.Seq, .data (.slc true none 4 (List.map TRead.en l5_3.Reads)), .data (.slc true none 3 (List.map TWrite.en l5_3.Writes))]), (.o 5, [iv l5_4.Session, iv l5_4.Seq, .data (.slc true none 4 (List.map TRead.en l5_4.Reads)), .data (.slc true none 3 (List.map TWrite.en l5_4.Writes))]), (.o 8, [sv x8_1, iv r8_4, sv ByteArray.empty, bv false]), (.o 1000, [.data (.slc false none 1 (List.map e_u8 r8_5.l)), iv r8_5.n])]) (by kernel_rfl) (.cons (c_ix (e := e_s) a8_2 e8_3) (.cons (c_el (e := e_s) e8_3) (.cons (Asks.of (C := Meets Try.prog) (diwanplay_Picks_Num.meets (if l5_0 < 1 then 1 else l5_0) l5_5 _ _ h8_6)) (.cons (Eq.refl true) .nil)))) (by kernel_rfl) ?_
      obtain ⟨k12, hk12, h⟩ := jn_inv h
      have Jk12 : ∀ (j12_5 : TRead) (j12_6 : TPicks), k12 j12_5 j12_6 = some r_ → WK Try.prog diwanplay_Picks_Txn.O (Ck Try.prog) (cR (cR (cB (cL (cR (cB (cB (cR (cL (cR (cR (cR bd20)))))))))))) [.blk 1, .seq (cR (cR (cB (cB (cR (cL (cR (cR (cR bd20))))))))), .lp (cB (cR (cL (cR (cR (cR bd20))))))] (ofL [(.t 0, [.ptr 1000 0]), (.t 1, [iv l5_0]), (.t 4, [.ptr 4 0]), (.t 5, [.ptr 5 0]), (.t 6, [.data (.slc true none 1 (List.map e_s l5_1))]), (.t 7, [iv l5_2]), (.t 8, [.ptr 8 0]), (.o 4, [iv l5_3.Session, iv l5_3.Seq, .data (.slc true none 4 (List.map TRead.en l5_3.Reads)), .data (.slc true none 3 (List.map TWrite.en l5_3.Writes))]), (.o 5, [iv l5_4.Session, iv l5_4.Seq, .data (.slc true none 4 (List.map TRead.en l5_4.Reads)), .data (.slc true none 3 (List.map TWrite.en l5_4.Writes))]), (.o 8, [sv j12_5.Key, iv j12_5.Version, sv j12_5.Val, bv j12_5.There]), (.o 1000, [.data (.slc false none 1 (List.map e_u8 j12_6.l)), iv j12_6.n])]) (diwanplay_Picks_Txn.lp5_post l5_0 l5_1 l5_3 r_) := by
        intro j12_5 j12_6 h
        rw [hk12] at h
        obtain ⟨c13_1, h⟩ := gd_inv h
        refine WK.rc (g := [.s (.t 52) [.data (.slc true none 4 (List.map TRead.en (l5_4.Reads ++ ([j12_5] : List TRead))))]]) (l' := [(.t 0, [.ptr 1000 0]), (.t 1, [iv l5_0]), (.t 4, [.ptr 4 0]), (.t 5, [.ptr 5 0]), (.t 6, [.data (.slc true none 1 (List.map e_s l5_1))]), (.t 7, [iv l5_2]), (.o 4, [iv l5_3.Session, iv l5_3.Seq, .data (.slc true none 4 (List.map TRead.en l5_3.Reads)), .data (.slc true none 3 (List.map TWrite.en l5_3.Writes))]), (.o 5, [iv l5_4.Session, iv l5_4.Seq, .data (.slc true none 4 (List.map TRead.en (l5_4.Reads ++ ([j12_5] : List TRead)))), .data (.slc true none 3 (List.map TWrite.en l5_4.Writes))]), (.o 1000, [.data (.slc false none 1 (List.map e_u8 j12_6.l)), iv j12_6.n])]) (.cons (c_al (e := TRead.en) (f := TRead.en) c13_1) (.cons (congrArg (fun d : DV => [AV.data d]) (c_app (e := TRead.en) (s := 4) (l := l5_4.Reads) (m := ([j12_5] : List TRead)))) .nil)) (by kernel_rfl) (y := (cR (cR (cB (cB (cR (cL (cR (cR (cR bd20)))))))))) (ks' := [.lp (cB (cR (cL (cR (cR (cR bd20))))))]) (by kernel_rfl) ?_
        refine WK.rc (g := []) (l' := [(.t 0, [.ptr 1000 0]), (.t 1, [iv l5_0]), (.t 4, [.ptr 4 0]), (.t 5, [.ptr 5 0]), (.t 6, [.data (.slc true none 1 (List.map e_s l5_1))]), (.t 7, [iv (w64 (l5_2 + 1))]), (.o 4, [iv l5_3.Session, iv l5_3.Seq, .data (.slc true none 4 (List.map TRead.en l5_3.Reads)), .data (.slc true none 3 (List.map TWrite.en l5_3.Writes))]), (.o 5, [iv l5_4.Session, iv l5_4.Seq, .data (.slc true none 4 (List.map TRead.en (l5_4.Reads ++ ([j12_5] : List TRead)))), .data (.slc true none 3 (List.map TWrite.en l5_4.Writes))]), (.o 1000, [.data (.slc false none 1 (List.map e_u8 j12_6.l)), iv j12_6.n])]) .nil (by kernel_rfl) (y := (cB (cR (cL (cR (cR (cR bd20))))))) (ks' := []) (by kernel_rfl) ?_
        exact WK.weak (l := [(.t 0, [.ptr 1000 0]), (.t 1, [iv l5_0]), (.t 4, [.ptr 4 0]), (.t 5, [.ptr 5 0]), (.t 6, [.data (.slc true none 1 (List.map e_s l5_1))]), (.t 7, [iv (w64 (l5_2 + 1))]), (.o 4, [iv l5_3.Session, iv l5_3.Seq, .data (.slc true none 4 (List.map TRead.en l5_3.Reads)), .data (.slc true none 3 (List.map TWrite.en l5_3.Writes))]), (.o 5, [iv ((TTxn.mk l5_4.Session l5_4.Seq (l5_4.Reads ++ ([j12_5] : List TRead)) l5_4.Writes).Session), iv ((TTxn.mk l5_4.Session l5_4.Seq (l5_4.Reads ++ ([j12_5] : List TRead)) l5_4.Writes).Seq), .data (.slc true none 4 (List.map TRead.en ((TTxn.mk l5_4.Session l5_4.Seq (l5_4.Reads ++ ([j12_5] : List TRead)) l5_4.Writes).Reads))), .data (.slc true none 3 (List.map TWrite.en ((TTxn.mk l5_4.Session l5_4.Seq (l5_4.Reads ++ ([j12_5] : List TRead)) l5_4.Writes).Writes)))]), (.o 1000, [.data (.slc false none 1 (List.map e_u8 j12_6.l)), iv j12_6.n])]) (wk_of (by kernel_rfl)) (ih (w64 (l5_2 + 1)) (TTxn.mk l5_4.Session l5_4.Seq (l5_4.Reads ++ ([j12_5] : List TRead)) l5_4.Writes) j12_6 _ h)
      clear hk12
      refine WK.seq (by kernel_rfl) ?_
      rcases br_inv h with ⟨b9_1, h⟩ | ⟨b9_1, h⟩
      · obtain ⟨⟨r9_2, r9_3⟩, h9_4, h⟩ := bd_inv h
        refine WK.rs (g := [.b true, .b true, .a ⟨iv r9_2, [[.data (.slc false none 1 (List.map e_u8 r9_3.l)), iv r9_3.n]]⟩, .b true, .b true]) (l' := [(.t 0, [.ptr 1000 0]), (.t 1, [iv l5_0]), (.t 4, [.ptr 4 0]), (.t 5, [.ptr 5 0]), (.t 6, [.data (.slc true none 1 (List.map e_s l5_1))]), (.t 7, [iv l5_2]), (.t 8, [.ptr 8 0]), (.t 43, [bv (decide (r9_2 > 0))]), (.o 4, [iv l5_3.Session, iv l5_3.Seq, .data (.slc true none 4 (List.map TRead.en l5_3.Reads)), .data (.slc true none 3 (List.map TWrite.en l5_3.Writes))]), (.o 5, [iv l5_4.Session, iv l5_4.Seq, .data (.slc true none 4 (List.map TRead.en l5_4.Reads)), .data (.slc true none 3 (List.map TWrite.en l5_4.Writes))]), (.o 8, [sv x8_1, iv r8_4, sv ByteArray.empty, bv false]), (.o 1000, [.data (.slc false none 1 (List.map e_u8 r9_3.l)), iv r9_3.n])]) (by kernel_rfl) (.cons b9_1 (.cons b9_1 (.cons (Asks.of (C := Meets Try.prog) (diwanplay_Picks_Num.meets 4 r8_5 _ _ h9_4)) (.cons b9_1 (.cons b9_1 .nil))))) (by kernel_rfl) ?_
        rcases br_inv h with ⟨b10_0, h⟩ | ⟨b10_0, h⟩
        · refine WK.ct (b := (decide (r9_2 > 0))) (by kernel_rfl) b10_0 ?_
          obtain ⟨⟨r11_1, r11_2⟩, h11_3, h⟩ := bd_inv h
          refine WK.rc (g := [.a ⟨sv r11_1, [[.data (.slc false none 1 (List.map e_u8 r11_2.l)), iv r11_2.n]]⟩]) (l' := [(.t 0, [.ptr 1000 0]), (.t 1, [iv l5_0]), (.t 4, [.ptr 4 0]), (.t 5, [.ptr 5 0]), (.t 6, [.data (.slc true none 1 (List.map e_s l5_1))]), (.t 7, [iv l5_2]), (.t 8, [.ptr 8 0]), (.o 4, [iv l5_3.Session, iv l5_3.Seq, .data (.slc true none 4 (List.map TRead.en l5_3.Reads)), .data (.slc true none 3 (List.map TWrite.en l5_3.Writes))]), (.o 5, [iv l5_4.Session, iv l5_4.Seq, .data (.slc true none 4 (List.map TRead.en l5_4.Reads)), .data (.slc true none 3 (List.map TWrite.en l5_4.Writes))]), (.o 8, [sv x8_1, iv r8_4, sv r11_1, bv true]), (.o 1000, [.data (.slc false none 1 (List.map e_u8 r11_2.l)), iv r11_2.n])]) (.cons (Asks.of (C := Meets Try.prog) (diwanplay_Picks_Val.meets r9_3 _ _ h11_3)) .nil) (by kernel_rfl) (y := (cR (cR (cB (cL (cR (cB (cB (cR (cL (cR (cR (cR bd20))))))))))))) (ks' := [.blk 1, .seq (cR (cR (cB (cB (cR (cL (cR (cR (cR bd20))))))))), .lp (cB (cR (cL (cR (cR (cR bd20))))))]) (by kernel_rfl) ?_
          exact WK.weak (l := [(.t 0, [.ptr 1000 0]), (.t 1, [iv l5_0]), (.t 4, [.ptr 4 0]), (.t 5, [.ptr 5 0]), (.t 6, [.data (.slc true none 1 (List.map e_s l5_1))]), (.t 7, [iv l5_2]), (.t 8, [.ptr 8 0]), (.o 4, [iv l5_3.Session, iv l5_3.Seq, .data (.slc true none 4 (List.map TRead.en l5_3.Reads)), .data (.slc true none 3 (List.map TWrite.en l5_3.Writes))]), (.o 5, [iv l5_4.Session, iv l5_4.Seq, .data (.slc true none 4 (List.map TRead.en l5_4.Reads)), .data (.slc true none 3 (List.map TWrite.en l5_4.Writes))]), (.o 8, [sv ((TRead.mk x8_1 r8_4 r11_1 true).Key), iv ((TRead.mk x8_1 r8_4 r11_1 true).Version), sv ((TRead.mk x8_1 r8_4 r11_1 true).Val), bv ((TRead.mk x8_1 r8_4 r11_1 true).There)]), (.o 1000, [.data (.slc false none 1 (List.map e_u8 r11_2.l)), iv r11_2.n])]) (wk_of (by kernel_rfl)) (Jk12 (TRead.mk x8_1 r8_4 r11_1 true) r11_2 h)
        · refine WK.ce (b := (decide (r9_2 > 0))) (by kernel_rfl) b10_0 ?_
          refine WK.skip (by kernel_rfl) ?_
          refine WKe.code (y := (cR (cR (cB (cL (cR (cB (cB (cR (cL (cR (cR (cR bd20))))))))))))) (ks' := [.blk 1, .seq (cR (cR (cB (cB (cR (cL (cR (cR (cR bd20))))))))), .lp (cB (cR (cL (cR (cR (cR bd20))))))]) (by kernel_rfl) ?_
          exact WK.weak (l := [(.t 0, [.ptr 1000 0]), (.t 1, [iv l5_0]), (.t 4, [.ptr 4 0]), (.t 5, [.ptr 5 0]), (.t 6, [.data (.slc true none 1 (List.map e_s l5_1))]), (.t 7, [iv l5_2]), (.t 8, [.ptr 8 0]), (.o 4, [iv l5_3.Session, iv l5_3.Seq, .data (.slc true none 4 (List.map TRead.en l5_3.Reads)), .data (.slc true none 3 (List.map TWrite.en l5_3.Writes))]), (.o 5, [iv l5_4.Session, iv l5_4.Seq, .data (.slc true none 4 (List.map TRead.en l5_4.Reads)), .data (.slc true none 3 (List.map TWrite.en l5_4.Writes))]), (.o 8, [sv ((TRead.mk x8_1 r8_4 ByteArray.empty false).Key), iv ((TRead.mk x8_1 r8_4 ByteArray.empty false).Version), sv ((TRead.mk x8_1 r8_4 ByteArray.empty false).Val), bv ((TRead.mk x8_1 r8_4 ByteArray.empty false).There)]), (.o 1000, [.data (.slc false none 1 (List.map e_u8 r9_3.l)), iv r9_3.n])]) (wk_of (by kernel_rfl)) (Jk12 (TRead.mk x8_1 r8_4 ByteArray.empty false) r9_3 h)
      · refine WK.rs (g := [.b false, .b false, .b false, .b false]) (l' := [(.t 0, [.ptr 1000 0]), (.t 1, [iv l5_0]), (.t 4, [.ptr 4 0]), (.t 5, [.ptr 5 0]), (.t 6, [.data (.slc true none 1 (List.map e_s l5_1))]), (.t 7, [iv l5_2]), (.t 8, [.ptr 8 0]), (.t 43, [bv false]), (.o 4, [iv l5_3.Session, iv l5_3.Seq, .data (.slc true none 4 (List.map TRead.en l5_3.Reads)), .data (.slc true none 3 (List.map TWrite.en l5_3.Writes))]), (.o 5, [iv l5_4.Session, iv l5_4.Seq, .data (.slc true none 4 (List.map TRead.en l5_4.Reads)), .data (.slc true none 3 (List.map TWrite.en l5_4.Writes))]), (.o 8, [sv x8_1, iv r8_4, sv ByteArray.empty, bv false]), (.o 1000, [.data (.slc false none 1 (List.map e_u8 r8_5.l)), iv r8_5.n])]) (by kernel_rfl) (.cons b9_1 (.cons b9_1 (.cons b9_1 (.cons b9_1 .nil)))) (by kernel_rfl) ?_
        refine WK.ce (b := false) (by kernel_rfl) rfl ?_
        refine WK.skip (by kernel_rfl) ?_
        refine WKe.code (y := (cR (cR (cB (cL (cR (cB (cB (cR (cL (cR (cR (cR bd20))))))))))))) (ks' := [.blk 1, .seq (cR (cR (cB (cB (cR (cL (cR (cR (cR bd20))))))))), .lp (cB (cR (cL (cR (cR (cR bd20))))))]) (by kernel_rfl) ?_
        exact WK.weak (l := [(.t 0, [.ptr 1000 0]), (.t 1, [iv l5_0]), (.t 4, [.ptr 4 0]), (.t 5, [.ptr 5 0]), (.t 6, [.data (.slc true none 1 (List.map e_s l5_1))]), (.t 7, [iv l5_2]), (.t 8, [.ptr 8 0]), (.o 4, [iv l5_3.Session, iv l5_3.Seq, .data (.slc true none 4 (List.map TRead.en l5_3.Reads)), .data (.slc true none 3 (List.map TWrite.en l5_3.Writes))]), (.o 5, [iv l5_4.Session, iv l5_4.Seq, .data (.slc true none 4 (List.map TRead.en l5_4.Reads)), .data (.slc true none 3 (List.map TWrite.en l5_4.Writes))]), (.o 8, [sv ((TRead.mk x8_1 r8_4 ByteArray.empty false).Key), iv ((TRead.mk x8_1 r8_4 ByteArray.empty false).Version), sv ((TRead.mk x8_1 r8_4 ByteArray.empty false).Val), bv ((TRead.mk x8_1 r8_4 ByteArray.empty false).There)]), (.o 1000, [.data (.slc false none 1 (List.map e_u8 r8_5.l)), iv r8_5.n])]) (wk_of (by kernel_rfl)) (Jk12 (TRead.mk x8_1 r8_4 ByteArray.empty false) r8_5 h)
    · refine WK.ce (b := (decide (l5_2 < (l5_1.length : Int)))) (by kernel_rfl) b7_0 ?_
      refine WK.weak (l := [(.t 0, [.ptr 1000 0]), (.t 4, [.ptr 4 0]), (.t 5, [.ptr 5 0]), (.o 4, [iv l5_3.Session, iv l5_3.Seq, .data (.slc true none 4 (List.map TRead.en l5_3.Reads)), .data (.slc true none 3 (List.map TWrite.en l5_3.Writes))]), (.o 5, [iv l5_4.Session, iv l5_4.Seq, .data (.slc true none 4 (List.map TRead.en l5_4.Reads)), .data (.slc true none 3 (List.map TWrite.en l5_4.Writes))]), (.o 1000, [.data (.slc false none 1 (List.map e_u8 l5_5.l)), iv l5_5.n])]) (wk_of (by kernel_rfl)) ?_
      refine WK.exit (n := 0) (by kernel_rfl) ?_
      cases some_inj h
      exact WKe.fin (e' := .exit 0) (by kernel_rfl) ⟨rfl, rfl⟩
noncomputable def diwanplay_Picks_Txn.lp18 (fu : Nat) (l18_0 : List ByteArray) (l18_2 : TTxn) : Nat → Int → TTxn → TPicks → Option (TTxn × TPicks)
  | 0, _, _, _ => none
  | n_ + 1, l18_1, l18_3, l18_4 =>
    br (decide (l18_1 < (l18_0.length : Int)))
      (ix l18_0 l18_1 fun x21_1 =>
      bd (diwanplay_Picks_Val l18_4) fun (r21_4, r21_5) =>
      jn (fun (j25_4 : TWrite) (j25_5 : TPicks) =>
        gd (decide (l18_3.Writes.length + ([j25_4] : List TWrite).length ≤ 4294967296)) <|
        diwanplay_Picks_Txn.lp18 fu l18_0 l18_2 n_ (w64 (l18_1 + 1)) (TTxn.mk l18_3.Session l18_3.Seq l18_3.Reads (l18_3.Writes ++ ([j25_4] : List TWrite))) j25_5) fun k25 =>
      bd (diwanplay_Picks_Num 4 r21_5) fun (r22_1, r22_2) =>
      br (r22_1 == 0)
        (k25 (TWrite.mk x21_1 ByteArray.empty true) r22_2)
        (k25 (TWrite.mk x21_1 r21_4 false) r22_2))
      (some (l18_3, l18_4))
noncomputable def diwanplay_Picks_Txn.lp18_post (l18_0 : List ByteArray) (l18_2 : TTxn) (r_ : (TTxn × TPicks)) : Wy → St → Prop := fun e τ => match r_ with
  | (y0, y1) => e = .exit 2 ∧ τ = ofL [(.t 4, [.ptr 4 0]), (.t 5, [.ptr 5 0]), (.o 4, [iv l18_2.Session, iv l18_2.Seq, .data (.slc true none 4 (List.map TRead.en l18_2.Reads)), .data (.slc true none 3 (List.map TWrite.en l18_2.Writes))]), (.o 5, [iv y0.Session, iv y0.Seq, .data (.slc true none 4 (List.map TRead.en y0.Reads)), .data (.slc true none 3 (List.map TWrite.en y0.Writes))]), (.o 1000, [.data (.slc false none 1 (List.map e_u8 y1.l)), iv y1.n])]
theorem diwanplay_Picks_Txn.lp18_ok (fu : Nat) (l18_0 : List ByteArray) (l18_2 : TTxn) : ∀ (n_ : Nat) (l18_1 : Int) (l18_3 : TTxn) (l18_4 : TPicks) (r_ : (TTxn × TPicks)), diwanplay_Picks_Txn.lp18 fu l18_0 l18_2 n_ l18_1 l18_3 l18_4 = some r_ → WK Try.prog diwanplay_Picks_Txn.O (Ck Try.prog) (cB (cR (cL (cR (cR (cR (cR (cR bd20)))))))) [] (ofL [(.t 0, [.ptr 1000 0]), (.t 4, [.ptr 4 0]), (.t 5, [.ptr 5 0]), (.t 9, [.data (.slc true none 1 (List.map e_s l18_0))]), (.t 10, [iv l18_1]), (.o 4, [iv l18_2.Session, iv l18_2.Seq, .data (.slc true none 4 (List.map TRead.en l18_2.Reads)), .data (.slc true none 3 (List.map TWrite.en l18_2.Writes))]), (.o 5, [iv l18_3.Session, iv l18_3.Seq, .data (.slc true none 4 (List.map TRead.en l18_3.Reads)), .data (.slc true none 3 (List.map TWrite.en l18_3.Writes))]), (.o 1000, [.data (.slc false none 1 (List.map e_u8 l18_4.l)), iv l18_4.n])]) (diwanplay_Picks_Txn.lp18_post l18_0 l18_2 r_) := by
  intro n_
  induction n_ with
  | zero => intro l18_1 l18_3 l18_4 r_ h; exact no_none h
  | succ n_ ih =>
    intro l18_1 l18_3 l18_4 r_ h
    refine WK.loop (by kernel_rfl) ?_
    refine WK.seq (by kernel_rfl) ?_
    refine WK.rs (g := [.s (.t 58) [iv (l18_0.length : Int)]]) (l' := [(.t 0, [.ptr 1000 0]), (.t 4, [.ptr 4 0]), (.t 5, [.ptr 5 0]), (.t 9, [.data (.slc true none 1 (List.map e_s l18_0))]), (.t 10, [iv l18_1]), (.t 59, [bv (decide (l18_1 < (l18_0.length : Int)))]), (.o 4, [iv l18_2.Session, iv l18_2.Seq, .data (.slc true none 4 (List.map TRead.en l18_2.Reads)), .data (.slc true none 3 (List.map TWrite.en l18_2.Writes))]), (.o 5, [iv l18_3.Session, iv l18_3.Seq, .data (.slc true none 4 (List.map TRead.en l18_3.Reads)), .data (.slc true none 3 (List.map TWrite.en l18_3.Writes))]), (.o 1000, [.data (.slc false none 1 (List.map e_u8 l18_4.l)), iv l18_4.n])]) (by kernel_rfl) (.cons (c_len (e := e_s) (l := l18_0)) .nil) (by kernel_rfl) ?_
    rcases br_inv h with ⟨b20_0, h⟩ | ⟨b20_0, h⟩
    · refine WK.ct (b := (decide (l18_1 < (l18_0.length : Int)))) (by kernel_rfl) b20_0 ?_
      refine WK.skip (by kernel_rfl) ?_
      refine WKe.code (y := (cR (cB (cB (cR (cL (cR (cR (cR (cR (cR bd20))))))))))) (ks' := [.lp (cB (cR (cL (cR (cR (cR (cR (cR bd20))))))))]) (by kernel_rfl) ?_
      refine WK.seq (by kernel_rfl) ?_
      refine WK.block (n := 3) (by kernel_rfl) ?_
      obtain ⟨x21_1, a21_2, e21_3, h⟩ := ix_inv h
      obtain ⟨⟨r21_4, r21_5⟩, h21_6, h⟩ := bd_inv h
      refine WK.rs (g := [.c (e_s x21_1), .a ⟨sv r21_4, [[.data (.slc false none 1 (List.map e_u8 r21_5.l)), iv r21_5.n]]⟩]) (l' := [(.t 0, [.ptr 1000 0]), (.t 4, [.ptr 4 0]), (.t 5, [.ptr 5 0]), (.t 9, [.data (.slc true none 1 (List.map e_s l18_0))]), (.t 10, [iv l18_1]), (.t 11, [.ptr 11 0]), (.o 4, [iv l18_2.Session, iv l18_2.Seq, .data (.slc true none 4 (List.map TRead.en l18_2.Reads)), .data (.slc true none 3 (List.map TWrite.en l18_2.Writes))]), (.o 5, [iv l18_3.Session, iv l18_3.Seq, .data (.slc true none 4 (List.map TRead.en l18_3.Reads)), .data (.slc true none 3 (List.map TWrite.en l18_3.Writes))]), (.o 11, [sv x21_1, sv r21_4, bv false]), (.o 1000, [.data (.slc false none 1 (List.map e_u8 r21_5.l)), iv r21_5.n])]) (by kernel_rfl) (.cons (c_ix (e := e_s) a21_2 e21_3) (.cons (c_el (e := e_s) e21_3) (.cons (Asks.of (C := Meets Try.prog) (diwanplay_Picks_Val.meets l18_4 _ _ h21_6)) (.cons (Eq.refl true) .nil)))) (by kernel_rfl) ?_
      obtain ⟨k25, hk25, h⟩ := jn_inv h
      have Jk25 : ∀ (j25_4 : TWrite) (j25_5 : TPicks), k25 j25_4 j25_5 = some r_ → WK Try.prog diwanplay_Picks_Txn.O (Ck Try.prog) (cR (cR (cB (cL (cR (cB (cB (cR (cL (cR (cR (cR (cR (cR bd20)))))))))))))) [.blk 3, .seq (cR (cR (cB (cB (cR (cL (cR (cR (cR (cR (cR bd20))))))))))), .lp (cB (cR (cL (cR (cR (cR (cR (cR bd20))))))))] (ofL [(.t 0, [.ptr 1000 0]), (.t 4, [.ptr 4 0]), (.t 5, [.ptr 5 0]), (.t 9, [.data (.slc true none 1 (List.map e_s l18_0))]), (.t 10, [iv l18_1]), (.t 11, [.ptr 11 0]), (.o 4, [iv l18_2.Session, iv l18_2.Seq, .data (.slc true none 4 (List.map TRead.en l18_2.Reads)), .data (.slc true none 3 (List.map TWrite.en l18_2.Writes))]), (.o 5, [iv l18_3.Session, iv l18_3.Seq, .data (.slc true none 4 (List.map TRead.en l18_3.Reads)), .data (.slc true none 3 (List.map TWrite.en l18_3.Writes))]), (.o 11, [sv j25_4.Key, sv j25_4.Val, bv j25_4.Gone]), (.o 1000, [.data (.slc false none 1 (List.map e_u8 j25_5.l)), iv j25_5.n])]) (diwanplay_Picks_Txn.lp18_post l18_0 l18_2 r_) := by
        intro j25_4 j25_5 h
        rw [hk25] at h
        obtain ⟨c26_1, h⟩ := gd_inv h
        refine WK.rc (g := [.s (.t 78) [.data (.slc true none 3 (List.map TWrite.en (l18_3.Writes ++ ([j25_4] : List TWrite))))]]) (l' := [(.t 0, [.ptr 1000 0]), (.t 4, [.ptr 4 0]), (.t 5, [.ptr 5 0]), (.t 9, [.data (.slc true none 1 (List.map e_s l18_0))]), (.t 10, [iv l18_1]), (.o 4, [iv l18_2.Session, iv l18_2.Seq, .data (.slc true none 4 (List.map TRead.en l18_2.Reads)), .data (.slc true none 3 (List.map TWrite.en l18_2.Writes))]), (.o 5, [iv l18_3.Session, iv l18_3.Seq, .data (.slc true none 4 (List.map TRead.en l18_3.Reads)), .data (.slc true none 3 (List.map TWrite.en (l18_3.Writes ++ ([j25_4] : List TWrite))))]), (.o 1000, [.data (.slc false none 1 (List.map e_u8 j25_5.l)), iv j25_5.n])]) (.cons (c_al (e := TWrite.en) (f := TWrite.en) c26_1) (.cons (congrArg (fun d : DV => [AV.data d]) (c_app (e := TWrite.en) (s := 3) (l := l18_3.Writes) (m := ([j25_4] : List TWrite)))) .nil)) (by kernel_rfl) (y := (cR (cR (cB (cB (cR (cL (cR (cR (cR (cR (cR bd20)))))))))))) (ks' := [.lp (cB (cR (cL (cR (cR (cR (cR (cR bd20))))))))]) (by kernel_rfl) ?_
        refine WK.rc (g := []) (l' := [(.t 0, [.ptr 1000 0]), (.t 4, [.ptr 4 0]), (.t 5, [.ptr 5 0]), (.t 9, [.data (.slc true none 1 (List.map e_s l18_0))]), (.t 10, [iv (w64 (l18_1 + 1))]), (.o 4, [iv l18_2.Session, iv l18_2.Seq, .data (.slc true none 4 (List.map TRead.en l18_2.Reads)), .data (.slc true none 3 (List.map TWrite.en l18_2.Writes))]), (.o 5, [iv l18_3.Session, iv l18_3.Seq, .data (.slc true none 4 (List.map TRead.en l18_3.Reads)), .data (.slc true none 3 (List.map TWrite.en (l18_3.Writes ++ ([j25_4] : List TWrite))))]), (.o 1000, [.data (.slc false none 1 (List.map e_u8 j25_5.l)), iv j25_5.n])]) .nil (by kernel_rfl) (y := (cB (cR (cL (cR (cR (cR (cR (cR bd20))))))))) (ks' := []) (by kernel_rfl) ?_
        exact WK.weak (l := [(.t 0, [.ptr 1000 0]), (.t 4, [.ptr 4 0]), (.t 5, [.ptr 5 0]), (.t 9, [.data (.slc true none 1 (List.map e_s l18_0))]), (.t 10, [iv (w64 (l18_1 + 1))]), (.o 4, [iv l18_2.Session, iv l18_2.Seq, .data (.slc true none 4 (List.map TRead.en l18_2.Reads)), .data (.slc true none 3 (List.map TWrite.en l18_2.Writes))]), (.o 5, [iv ((TTxn.mk l18_3.Session l18_3.Seq l18_3.Reads (l18_3.Writes ++ ([j25_4] : List TWrite))).Session), iv ((TTxn.mk l18_3.Session l18_3.Seq l18_3.Reads (l18_3.Writes ++ ([j25_4] : List TWrite))).Seq), .data (.slc true none 4 (List.map TRead.en ((TTxn.mk l18_3.Session l18_3.Seq l18_3.Reads (l18_3.Writes ++ ([j25_4] : List TWrite))).Reads))), .data (.slc true none 3 (List.map TWrite.en ((TTxn.mk l18_3.Session l18_3.Seq l18_3.Reads (l18_3.Writes ++ ([j25_4] : List TWrite))).Writes)))]), (.o 1000, [.data (.slc false none 1 (List.map e_u8 j25_5.l)), iv j25_5.n])]) (wk_of (by kernel_rfl)) (ih (w64 (l18_1 + 1)) (TTxn.mk l18_3.Session l18_3.Seq l18_3.Reads (l18_3.Writes ++ ([j25_4] : List TWrite))) j25_5 _ h)
      clear hk25
      refine WK.seq (by kernel_rfl) ?_
      obtain ⟨⟨r22_1, r22_2⟩, h22_3, h⟩ := bd_inv h
      refine WK.rs (g := [.a ⟨iv r22_1, [[.data (.slc false none 1 (List.map e_u8 r22_2.l)), iv r22_2.n]]⟩]) (l' := [(.t 0, [.ptr 1000 0]), (.t 4, [.ptr 4 0]), (.t 5, [.ptr 5 0]), (.t 9, [.data (.slc true none 1 (List.map e_s l18_0))]), (.t 10, [iv l18_1]), (.t 11, [.ptr 11 0]), (.t 71, [bv (r22_1 == 0)]), (.o 4, [iv l18_2.Session, iv l18_2.Seq, .data (.slc true none 4 (List.map TRead.en l18_2.Reads)), .data (.slc true none 3 (List.map TWrite.en l18_2.Writes))]), (.o 5, [iv l18_3.Session, iv l18_3.Seq, .data (.slc true none 4 (List.map TRead.en l18_3.Reads)), .data (.slc true none 3 (List.map TWrite.en l18_3.Writes))]), (.o 11, [sv x21_1, sv r21_4, bv false]), (.o 1000, [.data (.slc false none 1 (List.map e_u8 r22_2.l)), iv r22_2.n])]) (by kernel_rfl) (.cons (Asks.of (C := Meets Try.prog) (diwanplay_Picks_Num.meets 4 r21_5 _ _ h22_3)) .nil) (by kernel_rfl) ?_
      rcases br_inv h with ⟨b23_0, h⟩ | ⟨b23_0, h⟩
      · refine WK.ct (b := (r22_1 == 0)) (by kernel_rfl) b23_0 ?_
        refine WK.rc (g := []) (l' := [(.t 0, [.ptr 1000 0]), (.t 4, [.ptr 4 0]), (.t 5, [.ptr 5 0]), (.t 9, [.data (.slc true none 1 (List.map e_s l18_0))]), (.t 10, [iv l18_1]), (.t 11, [.ptr 11 0]), (.o 4, [iv l18_2.Session, iv l18_2.Seq, .data (.slc true none 4 (List.map TRead.en l18_2.Reads)), .data (.slc true none 3 (List.map TWrite.en l18_2.Writes))]), (.o 5, [iv l18_3.Session, iv l18_3.Seq, .data (.slc true none 4 (List.map TRead.en l18_3.Reads)), .data (.slc true none 3 (List.map TWrite.en l18_3.Writes))]), (.o 11, [sv x21_1, sv ByteArray.empty, bv true]), (.o 1000, [.data (.slc false none 1 (List.map e_u8 r22_2.l)), iv r22_2.n])]) .nil (by kernel_rfl) (y := (cR (cR (cB (cL (cR (cB (cB (cR (cL (cR (cR (cR (cR (cR bd20))))))))))))))) (ks' := [.blk 3, .seq (cR (cR (cB (cB (cR (cL (cR (cR (cR (cR (cR bd20))))))))))), .lp (cB (cR (cL (cR (cR (cR (cR (cR bd20))))))))]) (by kernel_rfl) ?_
        exact WK.weak (l := [(.t 0, [.ptr 1000 0]), (.t 4, [.ptr 4 0]), (.t 5, [.ptr 5 0]), (.t 9, [.data (.slc true none 1 (List.map e_s l18_0))]), (.t 10, [iv l18_1]), (.t 11, [.ptr 11 0]), (.o 4, [iv l18_2.Session, iv l18_2.Seq, .data (.slc true none 4 (List.map TRead.en l18_2.Reads)), .data (.slc true none 3 (List.map TWrite.en l18_2.Writes))]), (.o 5, [iv l18_3.Session, iv l18_3.Seq, .data (.slc true none 4 (List.map TRead.en l18_3.Reads)), .data (.slc true none 3 (List.map TWrite.en l18_3.Writes))]), (.o 11, [sv ((TWrite.mk x21_1 ByteArray.empty true).Key), sv ((TWrite.mk x21_1 ByteArray.empty true).Val), bv ((TWrite.mk x21_1 ByteArray.empty true).Gone)]), (.o 1000, [.data (.slc false none 1 (List.map e_u8 r22_2.l)), iv r22_2.n])]) (wk_of (by kernel_rfl)) (Jk25 (TWrite.mk x21_1 ByteArray.empty true) r22_2 h)
      · refine WK.ce (b := (r22_1 == 0)) (by kernel_rfl) b23_0 ?_
        refine WK.skip (by kernel_rfl) ?_
        refine WKe.code (y := (cR (cR (cB (cL (cR (cB (cB (cR (cL (cR (cR (cR (cR (cR bd20))))))))))))))) (ks' := [.blk 3, .seq (cR (cR (cB (cB (cR (cL (cR (cR (cR (cR (cR bd20))))))))))), .lp (cB (cR (cL (cR (cR (cR (cR (cR bd20))))))))]) (by kernel_rfl) ?_
        exact WK.weak (l := [(.t 0, [.ptr 1000 0]), (.t 4, [.ptr 4 0]), (.t 5, [.ptr 5 0]), (.t 9, [.data (.slc true none 1 (List.map e_s l18_0))]), (.t 10, [iv l18_1]), (.t 11, [.ptr 11 0]), (.o 4, [iv l18_2.Session, iv l18_2.Seq, .data (.slc true none 4 (List.map TRead.en l18_2.Reads)), .data (.slc true none 3 (List.map TWrite.en l18_2.Writes))]), (.o 5, [iv l18_3.Session, iv l18_3.Seq, .data (.slc true none 4 (List.map TRead.en l18_3.Reads)), .data (.slc true none 3 (List.map TWrite.en l18_3.Writes))]), (.o 11, [sv ((TWrite.mk x21_1 r21_4 false).Key), sv ((TWrite.mk x21_1 r21_4 false).Val), bv ((TWrite.mk x21_1 r21_4 false).Gone)]), (.o 1000, [.data (.slc false none 1 (List.map e_u8 r22_2.l)), iv r22_2.n])]) (wk_of (by kernel_rfl)) (Jk25 (TWrite.mk x21_1 r21_4 false) r22_2 h)
    · refine WK.ce (b := (decide (l18_1 < (l18_0.length : Int)))) (by kernel_rfl) b20_0 ?_
      refine WK.weak (l := [(.t 4, [.ptr 4 0]), (.t 5, [.ptr 5 0]), (.o 4, [iv l18_2.Session, iv l18_2.Seq, .data (.slc true none 4 (List.map TRead.en l18_2.Reads)), .data (.slc true none 3 (List.map TWrite.en l18_2.Writes))]), (.o 5, [iv l18_3.Session, iv l18_3.Seq, .data (.slc true none 4 (List.map TRead.en l18_3.Reads)), .data (.slc true none 3 (List.map TWrite.en l18_3.Writes))]), (.o 1000, [.data (.slc false none 1 (List.map e_u8 l18_4.l)), iv l18_4.n])]) (wk_of (by kernel_rfl)) ?_
      refine WK.exit (n := 2) (by kernel_rfl) ?_
      cases some_inj h
      exact WKe.fin (e' := .exit 2) (by kernel_rfl) ⟨rfl, rfl⟩
noncomputable def diwanplay_Picks_Txn (fu : Nat) (most : Int) (o0_v : TPicks) : Option (TTxn × TPicks) :=
  bd (diwanplay_Picks_Num 3 o0_v) fun (r2_1, r2_2) =>
  bd (diwanplay_Picks_Num 6 r2_2) fun (r2_4, r2_5) =>
  bd (diwanplay_Picks_Keys fu 3 r2_5) fun (r3_1, r3_2) =>
  bd (diwanplay_Picks_Txn.lp5 fu most r3_1 (TTxn.mk 0 0 [] []) fu 0 (TTxn.mk (w64 (1 + r2_1)) (w64 (1 + r2_4)) [] []) r3_2) fun (y15_0, y15_1) =>
  bd (diwanplay_Picks_Keys fu 3 y15_1) fun (r16_1, r16_2) =>
  bd (diwanplay_Picks_Txn.lp18 fu r16_1 (TTxn.mk ((TTxn.mk 0 0 [] []).Session) ((TTxn.mk 0 0 [] []).Seq) ((TTxn.mk 0 0 [] []).Reads) ((TTxn.mk 0 0 [] []).Writes)) fu 0 y15_0 r16_2) fun (y28_0, y28_1) =>
  some (y28_0, y28_1)
theorem diwanplay_Picks_Txn.meets (fu : Nat) (most : Int) (o0_v : TPicks) (z0 : TTxn) (z1 : TPicks) (h : diwanplay_Picks_Txn fu most o0_v = some (z0, z1)) : Meets Try.prog ⟨20, [.ptr 1000 0, iv most], [[.data (.slc false none 1 (List.map e_u8 o0_v.l)), iv o0_v.n]]⟩ ⟨.data (.agg [.val (.int .i64 z0.Session), .val (.int .i64 z0.Seq), .slc false none 4 (List.map TRead.en z0.Reads), .slc false none 3 (List.map TWrite.en z0.Writes)]), [[.data (.slc false none 1 (List.map e_u8 z1.l)), iv z1.n]]⟩ := by
  refine meets_of (O := diwanplay_Picks_Txn.O) hmix (fn := Try.f20) (code := bd20) (by kernel_rfl) ?_
  refine WK.weak (l := [(.t 0, [.ptr 1000 0]), (.t 1, [iv most]), (.o 1000, [.data (.slc false none 1 (List.map e_u8 o0_v.l)), iv o0_v.n])]) (wk_of (by kernel_rfl)) ?_
  unfold diwanplay_Picks_Txn at h
  refine WK.rs (g := []) (l' := [(.t 0, [.ptr 1000 0]), (.t 1, [iv most]), (.t 4, [.ptr 4 0]), (.o 4, [iv 0, iv 0, .data (.slc true none 4 (List.map TRead.en [])), .data (.slc true none 3 (List.map TWrite.en []))]), (.o 1000, [.data (.slc false none 1 (List.map e_u8 o0_v.l)), iv o0_v.n])]) (by kernel_rfl) .nil (by kernel_rfl) ?_
  obtain ⟨⟨r2_1, r2_2⟩, h2_3, h⟩ := bd_inv h
  obtain ⟨⟨r2_4, r2_5⟩, h2_6, h⟩ := bd_inv h
  refine WK.rs (g := [.a ⟨iv r2_1, [[.data (.slc false none 1 (List.map e_u8 r2_2.l)), iv r2_2.n]]⟩, .a ⟨iv r2_4, [[.data (.slc false none 1 (List.map e_u8 r2_5.l)), iv r2_5.n]]⟩]) (l' := [(.t 0, [.ptr 1000 0]), (.t 1, [iv most]), (.t 4, [.ptr 4 0]), (.t 5, [.ptr 5 0]), (.o 4, [iv 0, iv 0, .data (.slc true none 4 (List.map TRead.en [])), .data (.slc true none 3 (List.map TWrite.en []))]), (.o 5, [iv (w64 (1 + r2_1)), iv (w64 (1 + r2_4)), .data (.slc true none 4 (List.map TRead.en [])), .data (.slc true none 3 (List.map TWrite.en []))]), (.o 1000, [.data (.slc false none 1 (List.map e_u8 r2_5.l)), iv r2_5.n])]) (by kernel_rfl) (.cons (Asks.of (C := Meets Try.prog) (diwanplay_Picks_Num.meets 3 o0_v _ _ h2_3)) (.cons (Asks.of (C := Meets Try.prog) (diwanplay_Picks_Num.meets 6 r2_2 _ _ h2_6)) .nil)) (by kernel_rfl) ?_
  obtain ⟨⟨r3_1, r3_2⟩, h3_3, h⟩ := bd_inv h
  refine WK.rs (g := [.a ⟨.data (.slc true none 1 (List.map e_s r3_1)), [[.data (.slc false none 1 (List.map e_u8 r3_2.l)), iv r3_2.n]]⟩]) (l' := [(.t 0, [.ptr 1000 0]), (.t 1, [iv most]), (.t 4, [.ptr 4 0]), (.t 5, [.ptr 5 0]), (.t 6, [.data (.slc true none 1 (List.map e_s r3_1))]), (.o 4, [iv 0, iv 0, .data (.slc true none 4 (List.map TRead.en [])), .data (.slc true none 3 (List.map TWrite.en []))]), (.o 5, [iv (w64 (1 + r2_1)), iv (w64 (1 + r2_4)), .data (.slc true none 4 (List.map TRead.en [])), .data (.slc true none 3 (List.map TWrite.en []))]), (.o 1000, [.data (.slc false none 1 (List.map e_u8 r3_2.l)), iv r3_2.n])]) (by kernel_rfl) (.cons (Asks.of (C := Meets Try.prog) (diwanplay_Picks_Keys.meets fu 3 r2_5 _ _ h3_3)) .nil) (by kernel_rfl) ?_
  refine WK.seq (by kernel_rfl) ?_
  refine WK.rs (g := []) (l' := [(.t 0, [.ptr 1000 0]), (.t 1, [iv most]), (.t 4, [.ptr 4 0]), (.t 5, [.ptr 5 0]), (.t 6, [.data (.slc true none 1 (List.map e_s r3_1))]), (.t 7, [iv 0]), (.o 4, [iv 0, iv 0, .data (.slc true none 4 (List.map TRead.en [])), .data (.slc true none 3 (List.map TWrite.en []))]), (.o 5, [iv (w64 (1 + r2_1)), iv (w64 (1 + r2_4)), .data (.slc true none 4 (List.map TRead.en [])), .data (.slc true none 3 (List.map TWrite.en []))]), (.o 1000, [.data (.slc false none 1 (List.map e_u8 r3_2.l)), iv r3_2.n])]) (by kernel_rfl) .nil (by kernel_rfl) ?_
  refine WK.block (n := 0) (by kernel_rfl) ?_
  obtain ⟨o15, ho15, h⟩ := bd_inv h
  refine WK.weak (l := [(.t 0, [.ptr 1000 0]), (.t 1, [iv most]), (.t 4, [.ptr 4 0]), (.t 5, [.ptr 5 0]), (.t 6, [.data (.slc true none 1 (List.map e_s r3_1))]), (.t 7, [iv 0]), (.o 4, [iv ((TTxn.mk 0 0 [] []).Session), iv ((TTxn.mk 0 0 [] []).Seq), .data (.slc true none 4 (List.map TRead.en ((TTxn.mk 0 0 [] []).Reads))), .data (.slc true none 3 (List.map TWrite.en ((TTxn.mk 0 0 [] []).Writes)))]), (.o 5, [iv ((TTxn.mk (w64 (1 + r2_1)) (w64 (1 + r2_4)) [] []).Session), iv ((TTxn.mk (w64 (1 + r2_1)) (w64 (1 + r2_4)) [] []).Seq), .data (.slc true none 4 (List.map TRead.en ((TTxn.mk (w64 (1 + r2_1)) (w64 (1 + r2_4)) [] []).Reads))), .data (.slc true none 3 (List.map TWrite.en ((TTxn.mk (w64 (1 + r2_1)) (w64 (1 + r2_4)) [] []).Writes)))]), (.o 1000, [.data (.slc false none 1 (List.map e_u8 r3_2.l)), iv r3_2.n])]) (wk_of (by kernel_rfl)) ?_
  refine WK.use (diwanplay_Picks_Txn.lp5_ok fu most r3_1 (TTxn.mk 0 0 [] []) _ 0 (TTxn.mk (w64 (1 + r2_1)) (w64 (1 + r2_4)) [] []) r3_2 _ ho15) ?_
  intro e_ τ_ hp_
  obtain ⟨y15_0, y15_1⟩ := o15
  obtain ⟨rfl, rfl⟩ := hp_
  refine WKe.code (y := (cR (cR (cR (cR bd20))))) (ks' := []) (by kernel_rfl) ?_
  obtain ⟨⟨r16_1, r16_2⟩, h16_3, h⟩ := bd_inv h
  refine WK.rs (g := [.a ⟨.data (.slc true none 1 (List.map e_s r16_1)), [[.data (.slc false none 1 (List.map e_u8 r16_2.l)), iv r16_2.n]]⟩]) (l' := [(.t 0, [.ptr 1000 0]), (.t 4, [.ptr 4 0]), (.t 5, [.ptr 5 0]), (.t 9, [.data (.slc true none 1 (List.map e_s r16_1))]), (.o 4, [iv ((TTxn.mk 0 0 [] []).Session), iv ((TTxn.mk 0 0 [] []).Seq), .data (.slc true none 4 (List.map TRead.en ((TTxn.mk 0 0 [] []).Reads))), .data (.slc true none 3 (List.map TWrite.en ((TTxn.mk 0 0 [] []).Writes)))]), (.o 5, [iv y15_0.Session, iv y15_0.Seq, .data (.slc true none 4 (List.map TRead.en y15_0.Reads)), .data (.slc true none 3 (List.map TWrite.en y15_0.Writes))]), (.o 1000, [.data (.slc false none 1 (List.map e_u8 r16_2.l)), iv r16_2.n])]) (by kernel_rfl) (.cons (Asks.of (C := Meets Try.prog) (diwanplay_Picks_Keys.meets fu 3 y15_1 _ _ h16_3)) .nil) (by kernel_rfl) ?_
  refine WK.seq (by kernel_rfl) ?_
  refine WK.rs (g := []) (l' := [(.t 0, [.ptr 1000 0]), (.t 4, [.ptr 4 0]), (.t 5, [.ptr 5 0]), (.t 9, [.data (.slc true none 1 (List.map e_s r16_1))]), (.t 10, [iv 0]), (.o 4, [iv ((TTxn.mk 0 0 [] []).Session), iv ((TTxn.mk 0 0 [] []).Seq), .data (.slc true none 4 (List.map TRead.en ((TTxn.mk 0 0 [] []).Reads))), .data (.slc true none 3 (List.map TWrite.en ((TTxn.mk 0 0 [] []).Writes)))]), (.o 5, [iv y15_0.Session, iv y15_0.Seq, .data (.slc true none 4 (List.map TRead.en y15_0.Reads)), .data (.slc true none 3 (List.map TWrite.en y15_0.Writes))]), (.o 1000, [.data (.slc false none 1 (List.map e_u8 r16_2.l)), iv r16_2.n])]) (by kernel_rfl) .nil (by kernel_rfl) ?_
  refine WK.block (n := 2) (by kernel_rfl) ?_
  obtain ⟨o28, ho28, h⟩ := bd_inv h
  refine WK.weak (l := [(.t 0, [.ptr 1000 0]), (.t 4, [.ptr 4 0]), (.t 5, [.ptr 5 0]), (.t 9, [.data (.slc true none 1 (List.map e_s r16_1))]), (.t 10, [iv 0]), (.o 4, [iv ((TTxn.mk ((TTxn.mk 0 0 [] []).Session) ((TTxn.mk 0 0 [] []).Seq) ((TTxn.mk 0 0 [] []).Reads) ((TTxn.mk 0 0 [] []).Writes)).Session), iv ((TTxn.mk ((TTxn.mk 0 0 [] []).Session) ((TTxn.mk 0 0 [] []).Seq) ((TTxn.mk 0 0 [] []).Reads) ((TTxn.mk 0 0 [] []).Writes)).Seq), .data (.slc true none 4 (List.map TRead.en ((TTxn.mk ((TTxn.mk 0 0 [] []).Session) ((TTxn.mk 0 0 [] []).Seq) ((TTxn.mk 0 0 [] []).Reads) ((TTxn.mk 0 0 [] []).Writes)).Reads))), .data (.slc true none 3 (List.map TWrite.en ((TTxn.mk ((TTxn.mk 0 0 [] []).Session) ((TTxn.mk 0 0 [] []).Seq) ((TTxn.mk 0 0 [] []).Reads) ((TTxn.mk 0 0 [] []).Writes)).Writes)))]), (.o 5, [iv y15_0.Session, iv y15_0.Seq, .data (.slc true none 4 (List.map TRead.en y15_0.Reads)), .data (.slc true none 3 (List.map TWrite.en y15_0.Writes))]), (.o 1000, [.data (.slc false none 1 (List.map e_u8 r16_2.l)), iv r16_2.n])]) (wk_of (by kernel_rfl)) ?_
  refine WK.use (diwanplay_Picks_Txn.lp18_ok fu r16_1 (TTxn.mk ((TTxn.mk 0 0 [] []).Session) ((TTxn.mk 0 0 [] []).Seq) ((TTxn.mk 0 0 [] []).Reads) ((TTxn.mk 0 0 [] []).Writes)) _ 0 y15_0 r16_2 _ ho28) ?_
  intro e_ τ_ hp_
  obtain ⟨y28_0, y28_1⟩ := o28
  obtain ⟨rfl, rfl⟩ := hp_
  refine WKe.code (y := (cR (cR (cR (cR (cR (cR bd20))))))) (ks' := []) (by kernel_rfl) ?_
  refine WK.rs (g := []) (l' := [(.t 4, [.ptr 4 0]), (.o 4, [iv y28_0.Session, iv y28_0.Seq, .data (.slc false none 4 (List.map TRead.en y28_0.Reads)), .data (.slc false none 3 (List.map TWrite.en y28_0.Writes))]), (.o 1000, [.data (.slc false none 1 (List.map e_u8 y28_1.l)), iv y28_1.n])]) (by kernel_rfl) .nil (by kernel_rfl) ?_
  refine WK.weak (l := [(.t 4, [.ptr 4 0]), (.o 4, [iv y28_0.Session, iv y28_0.Seq, .data (.slc false none 4 (List.map TRead.en y28_0.Reads)), .data (.slc false none 3 (List.map TWrite.en y28_0.Writes))]), (.o 1000, [.data (.slc false none 1 (List.map e_u8 y28_1.l)), iv y28_1.n])]) (wk_of (by kernel_rfl)) ?_
  refine WK.ret (by kernel_rfl) ?_
  cases some_inj h
  exact WKe.fin (e' := .ret) (by kernel_rfl) (fin_of (g := []) (by first | exact .inl rfl | exact .inr rfl) .nil (by kernel_rfl))
/-- (*diwan/diwanplay.Picks).Log -/
noncomputable def bd10 : Code := (Try.f10.body).getD .skip
def diwanplay_Picks_Log.O : Nat → Nat := fun t => bif ([4, 5, 6, 7, 8, 30] : List Nat).any (Nat.beq t) then 1 else 0
noncomputable def diwanplay_Picks_Log.lp5 (fu : Nat) (l5_0 : Int) : Nat → (List TEntry) → Int → Int → TPicks → Option (List TEntry × TPicks)
  | 0, _, _, _, _ => none
  | n_ + 1, l5_1, l5_2, l5_3, l5_4 =>
    br (decide (l5_3 < l5_0))
      (jn (fun (j11_2 : Int) (j11_4 : TPicks) =>
        bd (diwanplay_Picks_Num 3 j11_4) fun (r12_1, r12_2) =>
        br (!(r12_1 == 0))
          (bd (diwanplay_Picks_Txn fu (w64 (l5_3 + 1)) r12_2) fun (r15_1, r15_2) =>
          gd (decide (l5_1.length + ([(TEntry.mk j11_2 (r12_1 == 0) r15_1)] : List TEntry).length ≤ 4294967296)) <|
          diwanplay_Picks_Log.lp5 fu l5_0 n_ (l5_1 ++ ([(TEntry.mk j11_2 (r12_1 == 0) r15_1)] : List TEntry)) j11_2 (w64 (l5_3 + 1)) r15_2)
          (gd (decide (l5_1.length + ([(TEntry.mk j11_2 (r12_1 == 0) (TTxn.mk 0 0 [] []))] : List TEntry).length ≤ 4294967296)) <|
          diwanplay_Picks_Log.lp5 fu l5_0 n_ (l5_1 ++ ([(TEntry.mk j11_2 (r12_1 == 0) (TTxn.mk 0 0 [] []))] : List TEntry)) j11_2 (w64 (l5_3 + 1)) r12_2)) fun k11 =>
      bd (diwanplay_Picks_Num 4 l5_4) fun (r8_1, r8_2) =>
      br (r8_1 == 0)
        (k11 (w64 (l5_2 + 1)) r8_2)
        (k11 l5_2 r8_2))
      (some (l5_1, l5_4))
noncomputable def diwanplay_Picks_Log.lp5_post (l5_0 : Int) (r_ : (List TEntry × TPicks)) : Wy → St → Prop := fun e τ => match r_ with
  | (y0, y1) => e = .exit 0 ∧ τ = ofL [(.t 5, [.data (.slc true none 6 (List.map TEntry.en y0))]), (.o 1000, [.data (.slc false none 1 (List.map e_u8 y1.l)), iv y1.n])]
theorem diwanplay_Picks_Log.lp5_ok (fu : Nat) (l5_0 : Int) : ∀ (n_ : Nat) (l5_1 : List TEntry) (l5_2 : Int) (l5_3 : Int) (l5_4 : TPicks) (r_ : (List TEntry × TPicks)), diwanplay_Picks_Log.lp5 fu l5_0 n_ l5_1 l5_2 l5_3 l5_4 = some r_ → WK Try.prog diwanplay_Picks_Log.O (Ck Try.prog) (cB (cR (cL (cR (cR (cR bd10)))))) [] (ofL [(.t 0, [.ptr 1000 0]), (.t 1, [iv l5_0]), (.t 5, [.data (.slc true none 6 (List.map TEntry.en l5_1))]), (.t 6, [iv l5_2]), (.t 7, [iv l5_3]), (.o 1000, [.data (.slc false none 1 (List.map e_u8 l5_4.l)), iv l5_4.n])]) (diwanplay_Picks_Log.lp5_post l5_0 r_) := by
  intro n_
  induction n_ with
  | zero => intro l5_1 l5_2 l5_3 l5_4 r_ h; exact no_none h
  | succ n_ ih =>
    intro l5_1 l5_2 l5_3 l5_4 r_ h
    refine WK.loop (by kernel_rfl) ?_
    refine WK.seq (by kernel_rfl) ?_
    refine WK.rs (g := []) (l' := [(.t 0, [.ptr 1000 0]), (.t 1, [iv l5_0]), (.t 5, [.data (.slc true none 6 (List.map TEntry.en l5_1))]), (.t 6, [iv l5_2]), (.t 7, [iv l5_3]), (.t 11, [bv (decide (l5_3 < l5_0))]), (.o 1000, [.data (.slc false none 1 (List.map e_u8 l5_4.l)), iv l5_4.n])]) (by kernel_rfl) .nil (by kernel_rfl) ?_
    rcases br_inv h with ⟨b7_0, h⟩ | ⟨b7_0, h⟩
    · refine WK.ct (b := (decide (l5_3 < l5_0))) (by kernel_rfl) b7_0 ?_
      refine WK.skip (by kernel_rfl) ?_
      refine WKe.code (y := (cR (cB (cB (cR (cL (cR (cR (cR bd10))))))))) (ks' := [.lp (cB (cR (cL (cR (cR (cR bd10))))))]) (by kernel_rfl) ?_
      refine WK.seq (by kernel_rfl) ?_
      refine WK.block (n := 1) (by kernel_rfl) ?_
      obtain ⟨k11, hk11, h⟩ := jn_inv h
      have Jk11 : ∀ (j11_2 : Int) (j11_4 : TPicks), k11 j11_2 j11_4 = some r_ → WK Try.prog diwanplay_Picks_Log.O (Ck Try.prog) (cR (cB (cL (cR (cB (cB (cR (cL (cR (cR (cR bd10))))))))))) [.blk 1, .seq (cR (cR (cB (cB (cR (cL (cR (cR (cR bd10))))))))), .lp (cB (cR (cL (cR (cR (cR bd10))))))] (ofL [(.t 0, [.ptr 1000 0]), (.t 1, [iv l5_0]), (.t 5, [.data (.slc true none 6 (List.map TEntry.en l5_1))]), (.t 6, [iv j11_2]), (.t 7, [iv l5_3]), (.o 1000, [.data (.slc false none 1 (List.map e_u8 j11_4.l)), iv j11_4.n])]) (diwanplay_Picks_Log.lp5_post l5_0 r_) := by
        intro j11_2 j11_4 h
        rw [hk11] at h
        obtain ⟨⟨r12_1, r12_2⟩, h12_3, h⟩ := bd_inv h
        refine WK.rs (g := [.a ⟨iv r12_1, [[.data (.slc false none 1 (List.map e_u8 r12_2.l)), iv r12_2.n]]⟩]) (l' := [(.t 0, [.ptr 1000 0]), (.t 1, [iv l5_0]), (.t 5, [.data (.slc true none 6 (List.map TEntry.en l5_1))]), (.t 6, [iv j11_2]), (.t 7, [iv l5_3]), (.t 8, [.ptr 8 0]), (.o 8, [iv j11_2, bv (r12_1 == 0), iv 0, iv 0, .data (.slc false none 4 (List.map TRead.en [])), .data (.slc false none 3 (List.map TWrite.en []))]), (.o 1000, [.data (.slc false none 1 (List.map e_u8 r12_2.l)), iv r12_2.n])]) (by kernel_rfl) (.cons (Asks.of (C := Meets Try.prog) (diwanplay_Picks_Num.meets 3 j11_4 _ _ h12_3)) .nil) (by kernel_rfl) ?_
        refine WK.seq (by kernel_rfl) ?_
        refine WK.rs (g := []) (l' := [(.t 0, [.ptr 1000 0]), (.t 1, [iv l5_0]), (.t 5, [.data (.slc true none 6 (List.map TEntry.en l5_1))]), (.t 6, [iv j11_2]), (.t 7, [iv l5_3]), (.t 8, [.ptr 8 0]), (.t 26, [bv (!(r12_1 == 0))]), (.o 8, [iv j11_2, bv (r12_1 == 0), iv 0, iv 0, .data (.slc false none 4 (List.map TRead.en [])), .data (.slc false none 3 (List.map TWrite.en []))]), (.o 1000, [.data (.slc false none 1 (List.map e_u8 r12_2.l)), iv r12_2.n])]) (by kernel_rfl) .nil (by kernel_rfl) ?_
        rcases br_inv h with ⟨b14_0, h⟩ | ⟨b14_0, h⟩
        · refine WK.ct (b := (!(r12_1 == 0))) (by kernel_rfl) b14_0 ?_
          obtain ⟨⟨r15_1, r15_2⟩, h15_3, h⟩ := bd_inv h
          refine WK.rc (g := [.a ⟨.data (.agg [.val (.int .i64 r15_1.Session), .val (.int .i64 r15_1.Seq), .slc false none 4 (List.map TRead.en r15_1.Reads), .slc false none 3 (List.map TWrite.en r15_1.Writes)]), [[.data (.slc false none 1 (List.map e_u8 r15_2.l)), iv r15_2.n]]⟩]) (l' := [(.t 0, [.ptr 1000 0]), (.t 1, [iv l5_0]), (.t 5, [.data (.slc true none 6 (List.map TEntry.en l5_1))]), (.t 6, [iv j11_2]), (.t 7, [iv l5_3]), (.t 8, [.ptr 8 0]), (.o 8, [iv j11_2, bv (r12_1 == 0), iv r15_1.Session, iv r15_1.Seq, .data (.slc false none 4 (List.map TRead.en r15_1.Reads)), .data (.slc false none 3 (List.map TWrite.en r15_1.Writes))]), (.o 1000, [.data (.slc false none 1 (List.map e_u8 r15_2.l)), iv r15_2.n])]) (.cons (Asks.of (C := Meets Try.prog) (diwanplay_Picks_Txn.meets fu (w64 (l5_3 + 1)) r12_2 _ _ h15_3)) .nil) (by kernel_rfl) (y := (cR (cR (cR (cB (cL (cR (cB (cB (cR (cL (cR (cR (cR bd10)))))))))))))) (ks' := [.blk 1, .seq (cR (cR (cB (cB (cR (cL (cR (cR (cR bd10))))))))), .lp (cB (cR (cL (cR (cR (cR bd10))))))]) (by kernel_rfl) ?_
          obtain ⟨c16_1, h⟩ := gd_inv h
          refine WK.rc (g := [.s (.t 35) [.data (.slc true none 6 (List.map TEntry.en (l5_1 ++ ([(TEntry.mk j11_2 (r12_1 == 0) r15_1)] : List TEntry))))]]) (l' := [(.t 0, [.ptr 1000 0]), (.t 1, [iv l5_0]), (.t 5, [.data (.slc true none 6 (List.map TEntry.en (l5_1 ++ ([(TEntry.mk j11_2 (r12_1 == 0) r15_1)] : List TEntry))))]), (.t 6, [iv j11_2]), (.t 7, [iv l5_3]), (.o 1000, [.data (.slc false none 1 (List.map e_u8 r15_2.l)), iv r15_2.n])]) (.cons (c_al (e := TEntry.en) (f := TEntry.en) c16_1) (.cons (congrArg (fun d : DV => [AV.data d]) (c_app (e := TEntry.en) (s := 6) (l := l5_1) (m := ([(TEntry.mk j11_2 (r12_1 == 0) r15_1)] : List TEntry)))) .nil)) (by kernel_rfl) (y := (cR (cR (cB (cB (cR (cL (cR (cR (cR bd10)))))))))) (ks' := [.lp (cB (cR (cL (cR (cR (cR bd10))))))]) (by kernel_rfl) ?_
          refine WK.rc (g := []) (l' := [(.t 0, [.ptr 1000 0]), (.t 1, [iv l5_0]), (.t 5, [.data (.slc true none 6 (List.map TEntry.en (l5_1 ++ ([(TEntry.mk j11_2 (r12_1 == 0) r15_1)] : List TEntry))))]), (.t 6, [iv j11_2]), (.t 7, [iv (w64 (l5_3 + 1))]), (.o 1000, [.data (.slc false none 1 (List.map e_u8 r15_2.l)), iv r15_2.n])]) .nil (by kernel_rfl) (y := (cB (cR (cL (cR (cR (cR bd10))))))) (ks' := []) (by kernel_rfl) ?_
          exact WK.weak (l := [(.t 0, [.ptr 1000 0]), (.t 1, [iv l5_0]), (.t 5, [.data (.slc true none 6 (List.map TEntry.en (l5_1 ++ ([(TEntry.mk j11_2 (r12_1 == 0) r15_1)] : List TEntry))))]), (.t 6, [iv j11_2]), (.t 7, [iv (w64 (l5_3 + 1))]), (.o 1000, [.data (.slc false none 1 (List.map e_u8 r15_2.l)), iv r15_2.n])]) (wk_of (by kernel_rfl)) (ih (l5_1 ++ ([(TEntry.mk j11_2 (r12_1 == 0) r15_1)] : List TEntry)) j11_2 (w64 (l5_3 + 1)) r15_2 _ h)
        · refine WK.ce (b := (!(r12_1 == 0))) (by kernel_rfl) b14_0 ?_
          refine WK.skip (by kernel_rfl) ?_
          refine WKe.code (y := (cR (cR (cR (cB (cL (cR (cB (cB (cR (cL (cR (cR (cR bd10)))))))))))))) (ks' := [.blk 1, .seq (cR (cR (cB (cB (cR (cL (cR (cR (cR bd10))))))))), .lp (cB (cR (cL (cR (cR (cR bd10))))))]) (by kernel_rfl) ?_
          obtain ⟨c18_1, h⟩ := gd_inv h
          refine WK.rc (g := [.s (.t 35) [.data (.slc true none 6 (List.map TEntry.en (l5_1 ++ ([(TEntry.mk j11_2 (r12_1 == 0) (TTxn.mk 0 0 [] []))] : List TEntry))))]]) (l' := [(.t 0, [.ptr 1000 0]), (.t 1, [iv l5_0]), (.t 5, [.data (.slc true none 6 (List.map TEntry.en (l5_1 ++ ([(TEntry.mk j11_2 (r12_1 == 0) (TTxn.mk 0 0 [] []))] : List TEntry))))]), (.t 6, [iv j11_2]), (.t 7, [iv l5_3]), (.o 1000, [.data (.slc false none 1 (List.map e_u8 r12_2.l)), iv r12_2.n])]) (.cons (c_al (e := TEntry.en) (f := TEntry.en) c18_1) (.cons (congrArg (fun d : DV => [AV.data d]) (c_app (e := TEntry.en) (s := 6) (l := l5_1) (m := ([(TEntry.mk j11_2 (r12_1 == 0) (TTxn.mk 0 0 [] []))] : List TEntry)))) .nil)) (by kernel_rfl) (y := (cR (cR (cB (cB (cR (cL (cR (cR (cR bd10)))))))))) (ks' := [.lp (cB (cR (cL (cR (cR (cR bd10))))))]) (by kernel_rfl) ?_
          refine WK.rc (g := []) (l' := [(.t 0, [.ptr 1000 0]), (.t 1, [iv l5_0]), (.t 5, [.data (.slc true none 6 (List.map TEntry.en (l5_1 ++ ([(TEntry.mk j11_2 (r12_1 == 0) (TTxn.mk 0 0 [] []))] : List TEntry))))]), (.t 6, [iv j11_2]), (.t 7, [iv (w64 (l5_3 + 1))]), (.o 1000, [.data (.slc false none 1 (List.map e_u8 r12_2.l)), iv r12_2.n])]) .nil (by kernel_rfl) (y := (cB (cR (cL (cR (cR (cR bd10))))))) (ks' := []) (by kernel_rfl) ?_
          exact WK.weak (l := [(.t 0, [.ptr 1000 0]), (.t 1, [iv l5_0]), (.t 5, [.data (.slc true none 6 (List.map TEntry.en (l5_1 ++ ([(TEntry.mk j11_2 (r12_1 == 0) (TTxn.mk 0 0 [] []))] : List TEntry))))]), (.t 6, [iv j11_2]), (.t 7, [iv (w64 (l5_3 + 1))]), (.o 1000, [.data (.slc false none 1 (List.map e_u8 r12_2.l)), iv r12_2.n])]) (wk_of (by kernel_rfl)) (ih (l5_1 ++ ([(TEntry.mk j11_2 (r12_1 == 0) (TTxn.mk 0 0 [] []))] : List TEntry)) j11_2 (w64 (l5_3 + 1)) r12_2 _ h)
      clear hk11
      refine WK.seq (by kernel_rfl) ?_
      obtain ⟨⟨r8_1, r8_2⟩, h8_3, h⟩ := bd_inv h
      refine WK.rs (g := [.a ⟨iv r8_1, [[.data (.slc false none 1 (List.map e_u8 r8_2.l)), iv r8_2.n]]⟩]) (l' := [(.t 0, [.ptr 1000 0]), (.t 1, [iv l5_0]), (.t 5, [.data (.slc true none 6 (List.map TEntry.en l5_1))]), (.t 6, [iv l5_2]), (.t 7, [iv l5_3]), (.t 16, [bv (r8_1 == 0)]), (.o 1000, [.data (.slc false none 1 (List.map e_u8 r8_2.l)), iv r8_2.n])]) (by kernel_rfl) (.cons (Asks.of (C := Meets Try.prog) (diwanplay_Picks_Num.meets 4 l5_4 _ _ h8_3)) .nil) (by kernel_rfl) ?_
      rcases br_inv h with ⟨b9_0, h⟩ | ⟨b9_0, h⟩
      · refine WK.ct (b := (r8_1 == 0)) (by kernel_rfl) b9_0 ?_
        refine WK.rc (g := []) (l' := [(.t 0, [.ptr 1000 0]), (.t 1, [iv l5_0]), (.t 5, [.data (.slc true none 6 (List.map TEntry.en l5_1))]), (.t 6, [iv (w64 (l5_2 + 1))]), (.t 7, [iv l5_3]), (.o 1000, [.data (.slc false none 1 (List.map e_u8 r8_2.l)), iv r8_2.n])]) .nil (by kernel_rfl) (y := (cR (cB (cL (cR (cB (cB (cR (cL (cR (cR (cR bd10)))))))))))) (ks' := [.blk 1, .seq (cR (cR (cB (cB (cR (cL (cR (cR (cR bd10))))))))), .lp (cB (cR (cL (cR (cR (cR bd10))))))]) (by kernel_rfl) ?_
        exact WK.weak (l := [(.t 0, [.ptr 1000 0]), (.t 1, [iv l5_0]), (.t 5, [.data (.slc true none 6 (List.map TEntry.en l5_1))]), (.t 6, [iv (w64 (l5_2 + 1))]), (.t 7, [iv l5_3]), (.o 1000, [.data (.slc false none 1 (List.map e_u8 r8_2.l)), iv r8_2.n])]) (wk_of (by kernel_rfl)) (Jk11 (w64 (l5_2 + 1)) r8_2 h)
      · refine WK.ce (b := (r8_1 == 0)) (by kernel_rfl) b9_0 ?_
        refine WK.skip (by kernel_rfl) ?_
        refine WKe.code (y := (cR (cB (cL (cR (cB (cB (cR (cL (cR (cR (cR bd10)))))))))))) (ks' := [.blk 1, .seq (cR (cR (cB (cB (cR (cL (cR (cR (cR bd10))))))))), .lp (cB (cR (cL (cR (cR (cR bd10))))))]) (by kernel_rfl) ?_
        exact WK.weak (l := [(.t 0, [.ptr 1000 0]), (.t 1, [iv l5_0]), (.t 5, [.data (.slc true none 6 (List.map TEntry.en l5_1))]), (.t 6, [iv l5_2]), (.t 7, [iv l5_3]), (.o 1000, [.data (.slc false none 1 (List.map e_u8 r8_2.l)), iv r8_2.n])]) (wk_of (by kernel_rfl)) (Jk11 l5_2 r8_2 h)
    · refine WK.ce (b := (decide (l5_3 < l5_0))) (by kernel_rfl) b7_0 ?_
      refine WK.weak (l := [(.t 5, [.data (.slc true none 6 (List.map TEntry.en l5_1))]), (.o 1000, [.data (.slc false none 1 (List.map e_u8 l5_4.l)), iv l5_4.n])]) (wk_of (by kernel_rfl)) ?_
      refine WK.exit (n := 0) (by kernel_rfl) ?_
      cases some_inj h
      exact WKe.fin (e' := .exit 0) (by kernel_rfl) ⟨rfl, rfl⟩
noncomputable def diwanplay_Picks_Log (fu : Nat) (n_v : Int) (o0_v : TPicks) : Option (List TEntry × TPicks) :=
  bd (diwanplay_Picks_Log.lp5 fu n_v fu [] 1 0 o0_v) fun (y20_0, y20_1) =>
  some (y20_0, y20_1)
theorem diwanplay_Picks_Log.meets (fu : Nat) (n_v : Int) (o0_v : TPicks) (z0 : List TEntry) (z1 : TPicks) (h : diwanplay_Picks_Log fu n_v o0_v = some (z0, z1)) : Meets Try.prog ⟨10, [.ptr 1000 0, iv n_v], [[.data (.slc false none 1 (List.map e_u8 o0_v.l)), iv o0_v.n]]⟩ ⟨.data (.slc true none 6 (List.map TEntry.en z0)), [[.data (.slc false none 1 (List.map e_u8 z1.l)), iv z1.n]]⟩ := by
  refine meets_of (O := diwanplay_Picks_Log.O) hmix (fn := Try.f10) (code := bd10) (by kernel_rfl) ?_
  refine WK.weak (l := [(.t 0, [.ptr 1000 0]), (.t 1, [iv n_v]), (.o 1000, [.data (.slc false none 1 (List.map e_u8 o0_v.l)), iv o0_v.n])]) (wk_of (by kernel_rfl)) ?_
  unfold diwanplay_Picks_Log at h
  refine WK.rs (g := []) (l' := [(.t 0, [.ptr 1000 0]), (.t 1, [iv n_v]), (.o 1000, [.data (.slc false none 1 (List.map e_u8 o0_v.l)), iv o0_v.n])]) (by kernel_rfl) .nil (by kernel_rfl) ?_
  refine WK.rs (g := []) (l' := [(.t 0, [.ptr 1000 0]), (.t 1, [iv n_v]), (.t 5, [.data (.slc true (some true) 6 (List.map TEntry.en []))]), (.o 1000, [.data (.slc false none 1 (List.map e_u8 o0_v.l)), iv o0_v.n])]) (by kernel_rfl) .nil (by kernel_rfl) ?_
  refine WK.rs (g := []) (l' := [(.t 0, [.ptr 1000 0]), (.t 1, [iv n_v]), (.t 5, [.data (.slc true (some true) 6 (List.map TEntry.en []))]), (.t 6, [iv 1]), (.o 1000, [.data (.slc false none 1 (List.map e_u8 o0_v.l)), iv o0_v.n])]) (by kernel_rfl) .nil (by kernel_rfl) ?_
  refine WK.seq (by kernel_rfl) ?_
  refine WK.rs (g := []) (l' := [(.t 0, [.ptr 1000 0]), (.t 1, [iv n_v]), (.t 5, [.data (.slc true (some true) 6 (List.map TEntry.en []))]), (.t 6, [iv 1]), (.t 7, [iv 0]), (.o 1000, [.data (.slc false none 1 (List.map e_u8 o0_v.l)), iv o0_v.n])]) (by kernel_rfl) .nil (by kernel_rfl) ?_
  refine WK.block (n := 0) (by kernel_rfl) ?_
  obtain ⟨o20, ho20, h⟩ := bd_inv h
  refine WK.weak (l := [(.t 0, [.ptr 1000 0]), (.t 1, [iv n_v]), (.t 5, [.data (.slc true none 6 (List.map TEntry.en []))]), (.t 6, [iv 1]), (.t 7, [iv 0]), (.o 1000, [.data (.slc false none 1 (List.map e_u8 o0_v.l)), iv o0_v.n])]) (wk_of (by kernel_rfl)) ?_
  refine WK.use (diwanplay_Picks_Log.lp5_ok fu n_v _ [] 1 0 o0_v _ ho20) ?_
  intro e_ τ_ hp_
  obtain ⟨y20_0, y20_1⟩ := o20
  obtain ⟨rfl, rfl⟩ := hp_
  refine WKe.code (y := (cR (cR (cR (cR bd10))))) (ks' := []) (by kernel_rfl) ?_
  refine WK.rs (g := []) (l' := [(.t 4, [.data (.slc true none 6 (List.map TEntry.en y20_0))]), (.o 1000, [.data (.slc false none 1 (List.map e_u8 y20_1.l)), iv y20_1.n])]) (by kernel_rfl) .nil (by kernel_rfl) ?_
  refine WK.weak (l := [(.t 4, [.data (.slc true none 6 (List.map TEntry.en y20_0))]), (.o 1000, [.data (.slc false none 1 (List.map e_u8 y20_1.l)), iv y20_1.n])]) (wk_of (by kernel_rfl)) ?_
  refine WK.ret (by kernel_rfl) ?_
  cases some_inj h
  exact WKe.fin (e' := .ret) (by kernel_rfl) (fin_of (g := []) (by first | exact .inl rfl | exact .inr rfl) .nil (by kernel_rfl))
/-- diwan/diwanref1.Majority -/
noncomputable def bd26 : Code := (Try.f26.body).getD .skip
def diwanref1_Majority.O : Nat → Nat := fun t => bif ([2] : List Nat).any (Nat.beq t) then 1 else 0
noncomputable def diwanref1_Majority (n_v : Int) : Option Int :=
  some (w64 ((w64 (Int.tdiv n_v 2)) + 1))
theorem diwanref1_Majority.meets (n_v : Int) (z0 : Int) (h : diwanref1_Majority n_v = some z0) : Meets Try.prog ⟨26, [iv n_v], []⟩ ⟨iv z0, []⟩ := by
  refine meets_of (O := diwanref1_Majority.O) hmix (fn := Try.f26) (code := bd26) (by kernel_rfl) ?_
  refine WK.weak (l := [(.t 0, [iv n_v])]) (wk_of (by kernel_rfl)) ?_
  unfold diwanref1_Majority at h
  refine WK.rs (g := []) (l' := [(.t 0, [iv n_v])]) (by kernel_rfl) .nil (by kernel_rfl) ?_
  refine WK.rs (g := []) (l' := [(.t 2, [iv (w64 ((w64 (Int.tdiv n_v 2)) + 1))])]) (by kernel_rfl) (.cons (Eq.refl true) .nil) (by kernel_rfl) ?_
  refine WK.weak (l := [(.t 2, [iv (w64 ((w64 (Int.tdiv n_v 2)) + 1))])]) (wk_of (by kernel_rfl)) ?_
  refine WK.ret (by kernel_rfl) ?_
  cases some_inj h
  exact WKe.fin (e' := .ret) (by kernel_rfl) (fin_of (g := []) (by first | exact .inl rfl | exact .inr rfl) .nil (by kernel_rfl))
/-- diwan/diwanref1.Most -/
noncomputable def bd17 : Code := (Try.f17.body).getD .skip
def diwanref1_Most.O : Nat → Nat := fun t => bif ([2, 3, 4, 5, 6] : List Nat).any (Nat.beq t) then 1 else 0
noncomputable def diwanref1_Most.lp9 (fu : Nat) (l9_0 : List Int) (l9_1 : Int) (l9_2 : Int) : Nat → Int → Int → Option Int
  | 0, _, _ => none
  | n_ + 1, l9_3, l9_4 =>
    br (decide (l9_4 < (l9_0.length : Int)))
      (ix l9_0 l9_4 fun x12_1 =>
      ix l9_0 l9_2 fun x12_4 =>
      br (decide (x12_1 ≥ x12_4))
        (diwanref1_Most.lp9 fu l9_0 l9_1 l9_2 n_ (w64 (l9_3 + 1)) (w64 (l9_4 + 1)))
        (diwanref1_Most.lp9 fu l9_0 l9_1 l9_2 n_ l9_3 (w64 (l9_4 + 1))))
      (some l9_3)
noncomputable def diwanref1_Most.lp9_post (l9_0 : List Int) (l9_1 : Int) (l9_2 : Int) (r_ : Int) : Wy → St → Prop := fun e τ => match r_ with
  | y0 => e = .exit 2 ∧ τ = ofL [(.t 0, [.data (.slc false none 1 (List.map e_i64 l9_0))]), (.t 3, [iv l9_1]), (.t 4, [iv l9_2]), (.t 5, [iv y0])]
theorem diwanref1_Most.lp9_ok (fu : Nat) (l9_0 : List Int) (l9_1 : Int) (l9_2 : Int) : ∀ (n_ : Nat) (l9_3 : Int) (l9_4 : Int) (r_ : Int), diwanref1_Most.lp9 fu l9_0 l9_1 l9_2 n_ l9_3 l9_4 = some r_ → WK Try.prog diwanref1_Most.O (Ck Try.prog) (cB (cR (cL (cR (cB (cL (cR (cB (cB (cR (cL (cR (cR bd17))))))))))))) [] (ofL [(.t 0, [.data (.slc false none 1 (List.map e_i64 l9_0))]), (.t 3, [iv l9_1]), (.t 4, [iv l9_2]), (.t 5, [iv l9_3]), (.t 6, [iv l9_4])]) (diwanref1_Most.lp9_post l9_0 l9_1 l9_2 r_) := by
  intro n_
  induction n_ with
  | zero => intro l9_3 l9_4 r_ h; exact no_none h
  | succ n_ ih =>
    intro l9_3 l9_4 r_ h
    refine WK.loop (by kernel_rfl) ?_
    refine WK.seq (by kernel_rfl) ?_
    refine WK.rs (g := [.s (.t 15) [iv (l9_0.length : Int)]]) (l' := [(.t 0, [.data (.slc false none 1 (List.map e_i64 l9_0))]), (.t 3, [iv l9_1]), (.t 4, [iv l9_2]), (.t 5, [iv l9_3]), (.t 6, [iv l9_4]), (.t 16, [bv (decide (l9_4 < (l9_0.length : Int)))])]) (by kernel_rfl) (.cons (c_len (e := e_i64) (l := l9_0)) .nil) (by kernel_rfl) ?_
    rcases br_inv h with ⟨b11_0, h⟩ | ⟨b11_0, h⟩
    · refine WK.ct (b := (decide (l9_4 < (l9_0.length : Int)))) (by kernel_rfl) b11_0 ?_
      refine WK.skip (by kernel_rfl) ?_
      refine WKe.code (y := (cR (cB (cB (cR (cL (cR (cB (cL (cR (cB (cB (cR (cL (cR (cR bd17)))))))))))))))) (ks' := [.lp (cB (cR (cL (cR (cB (cL (cR (cB (cB (cR (cL (cR (cR bd17)))))))))))))]) (by kernel_rfl) ?_
      refine WK.seq (by kernel_rfl) ?_
      refine WK.block (n := 3) (by kernel_rfl) ?_
      obtain ⟨x12_1, a12_2, e12_3, h⟩ := ix_inv h
      obtain ⟨x12_4, a12_5, e12_6, h⟩ := ix_inv h
      refine WK.rs (g := [.c (e_i64 x12_1), .c (e_i64 x12_4)]) (l' := [(.t 0, [.data (.slc false none 1 (List.map e_i64 l9_0))]), (.t 3, [iv l9_1]), (.t 4, [iv l9_2]), (.t 5, [iv l9_3]), (.t 6, [iv l9_4]), (.t 27, [bv (decide (x12_1 ≥ x12_4))])]) (by kernel_rfl) (.cons (c_ix (e := e_i64) a12_2 e12_3) (.cons (c_el (e := e_i64) e12_3) (.cons (c_ix (e := e_i64) a12_5 e12_6) (.cons (c_el (e := e_i64) e12_6) (.cons (Eq.refl true) .nil))))) (by kernel_rfl) ?_
      rcases br_inv h with ⟨b13_0, h⟩ | ⟨b13_0, h⟩
      · refine WK.ct (b := (decide (x12_1 ≥ x12_4))) (by kernel_rfl) b13_0 ?_
        refine WK.rc (g := []) (l' := [(.t 0, [.data (.slc false none 1 (List.map e_i64 l9_0))]), (.t 3, [iv l9_1]), (.t 4, [iv l9_2]), (.t 5, [iv (w64 (l9_3 + 1))]), (.t 6, [iv l9_4])]) .nil (by kernel_rfl) (y := (cR (cR (cB (cB (cR (cL (cR (cB (cL (cR (cB (cB (cR (cL (cR (cR bd17))))))))))))))))) (ks' := [.lp (cB (cR (cL (cR (cB (cL (cR (cB (cB (cR (cL (cR (cR bd17)))))))))))))]) (by kernel_rfl) ?_
        refine WK.rc (g := []) (l' := [(.t 0, [.data (.slc false none 1 (List.map e_i64 l9_0))]), (.t 3, [iv l9_1]), (.t 4, [iv l9_2]), (.t 5, [iv (w64 (l9_3 + 1))]), (.t 6, [iv (w64 (l9_4 + 1))])]) .nil (by kernel_rfl) (y := (cB (cR (cL (cR (cB (cL (cR (cB (cB (cR (cL (cR (cR bd17)))))))))))))) (ks' := []) (by kernel_rfl) ?_
        exact WK.weak (l := [(.t 0, [.data (.slc false none 1 (List.map e_i64 l9_0))]), (.t 3, [iv l9_1]), (.t 4, [iv l9_2]), (.t 5, [iv (w64 (l9_3 + 1))]), (.t 6, [iv (w64 (l9_4 + 1))])]) (wk_of (by kernel_rfl)) (ih (w64 (l9_3 + 1)) (w64 (l9_4 + 1)) _ h)
      · refine WK.ce (b := (decide (x12_1 ≥ x12_4))) (by kernel_rfl) b13_0 ?_
        refine WK.skip (by kernel_rfl) ?_
        refine WKe.code (y := (cR (cR (cB (cB (cR (cL (cR (cB (cL (cR (cB (cB (cR (cL (cR (cR bd17))))))))))))))))) (ks' := [.lp (cB (cR (cL (cR (cB (cL (cR (cB (cB (cR (cL (cR (cR bd17)))))))))))))]) (by kernel_rfl) ?_
        refine WK.rc (g := []) (l' := [(.t 0, [.data (.slc false none 1 (List.map e_i64 l9_0))]), (.t 3, [iv l9_1]), (.t 4, [iv l9_2]), (.t 5, [iv l9_3]), (.t 6, [iv (w64 (l9_4 + 1))])]) .nil (by kernel_rfl) (y := (cB (cR (cL (cR (cB (cL (cR (cB (cB (cR (cL (cR (cR bd17)))))))))))))) (ks' := []) (by kernel_rfl) ?_
        exact WK.weak (l := [(.t 0, [.data (.slc false none 1 (List.map e_i64 l9_0))]), (.t 3, [iv l9_1]), (.t 4, [iv l9_2]), (.t 5, [iv l9_3]), (.t 6, [iv (w64 (l9_4 + 1))])]) (wk_of (by kernel_rfl)) (ih l9_3 (w64 (l9_4 + 1)) _ h)
    · refine WK.ce (b := (decide (l9_4 < (l9_0.length : Int)))) (by kernel_rfl) b11_0 ?_
      refine WK.weak (l := [(.t 0, [.data (.slc false none 1 (List.map e_i64 l9_0))]), (.t 3, [iv l9_1]), (.t 4, [iv l9_2]), (.t 5, [iv l9_3])]) (wk_of (by kernel_rfl)) ?_
      refine WK.exit (n := 2) (by kernel_rfl) ?_
      cases some_inj h
      exact WKe.fin (e' := .exit 2) (by kernel_rfl) ⟨rfl, rfl⟩
noncomputable def diwanref1_Most.lp4 (fu : Nat) (l4_0 : List Int) : Nat → Int → Int → Option Int
  | 0, _, _ => none
  | n_ + 1, l4_1, l4_2 =>
    br (decide (l4_2 < (l4_0.length : Int)))
      (bd (diwanref1_Most.lp9 fu l4_0 l4_1 l4_2 fu 0 0) fun y17_0 =>
      bd (diwanref1_Majority (l4_0.length : Int)) fun r18_1 =>
      br (decide (y17_0 ≥ r18_1))
        (ix l4_0 l4_2 fun x20_1 =>
        diwanref1_Most.lp4 fu l4_0 n_ (if l4_1 < x20_1 then x20_1 else l4_1) (w64 (l4_2 + 1)))
        (diwanref1_Most.lp4 fu l4_0 n_ l4_1 (w64 (l4_2 + 1))))
      (some l4_1)
noncomputable def diwanref1_Most.lp4_post (l4_0 : List Int) (r_ : Int) : Wy → St → Prop := fun e τ => match r_ with
  | y0 => e = .exit 0 ∧ τ = ofL [(.t 3, [iv y0])]
theorem diwanref1_Most.lp4_ok (fu : Nat) (l4_0 : List Int) : ∀ (n_ : Nat) (l4_1 : Int) (l4_2 : Int) (r_ : Int), diwanref1_Most.lp4 fu l4_0 n_ l4_1 l4_2 = some r_ → WK Try.prog diwanref1_Most.O (Ck Try.prog) (cB (cR (cL (cR (cR bd17))))) [] (ofL [(.t 0, [.data (.slc false none 1 (List.map e_i64 l4_0))]), (.t 3, [iv l4_1]), (.t 4, [iv l4_2])]) (diwanref1_Most.lp4_post l4_0 r_) := by
  intro n_
  induction n_ with
  | zero => intro l4_1 l4_2 r_ h; exact no_none h
  | succ n_ ih =>
    intro l4_1 l4_2 r_ h
    refine WK.loop (by kernel_rfl) ?_
    refine WK.seq (by kernel_rfl) ?_
    refine WK.rs (g := [.s (.t 9) [iv (l4_0.length : Int)]]) (l' := [(.t 0, [.data (.slc false none 1 (List.map e_i64 l4_0))]), (.t 3, [iv l4_1]), (.t 4, [iv l4_2]), (.t 10, [bv (decide (l4_2 < (l4_0.length : Int)))])]) (by kernel_rfl) (.cons (c_len (e := e_i64) (l := l4_0)) .nil) (by kernel_rfl) ?_
    rcases br_inv h with ⟨b6_0, h⟩ | ⟨b6_0, h⟩
    · refine WK.ct (b := (decide (l4_2 < (l4_0.length : Int)))) (by kernel_rfl) b6_0 ?_
      refine WK.skip (by kernel_rfl) ?_
      refine WKe.code (y := (cR (cB (cB (cR (cL (cR (cR bd17)))))))) (ks' := [.lp (cB (cR (cL (cR (cR bd17)))))]) (by kernel_rfl) ?_
      refine WK.seq (by kernel_rfl) ?_
      refine WK.block (n := 1) (by kernel_rfl) ?_
      refine WK.rs (g := []) (l' := [(.t 0, [.data (.slc false none 1 (List.map e_i64 l4_0))]), (.t 3, [iv l4_1]), (.t 4, [iv l4_2]), (.t 5, [iv 0])]) (by kernel_rfl) .nil (by kernel_rfl) ?_
      refine WK.seq (by kernel_rfl) ?_
      refine WK.rs (g := []) (l' := [(.t 0, [.data (.slc false none 1 (List.map e_i64 l4_0))]), (.t 3, [iv l4_1]), (.t 4, [iv l4_2]), (.t 5, [iv 0]), (.t 6, [iv 0])]) (by kernel_rfl) .nil (by kernel_rfl) ?_
      refine WK.block (n := 2) (by kernel_rfl) ?_
      obtain ⟨o17, ho17, h⟩ := bd_inv h
      refine WK.weak (l := [(.t 0, [.data (.slc false none 1 (List.map e_i64 l4_0))]), (.t 3, [iv l4_1]), (.t 4, [iv l4_2]), (.t 5, [iv 0]), (.t 6, [iv 0])]) (wk_of (by kernel_rfl)) ?_
      refine WK.use (diwanref1_Most.lp9_ok fu l4_0 l4_1 l4_2 _ 0 0 _ ho17) ?_
      intro e_ τ_ hp_
      obtain ⟨y17_0, rfl⟩ : ∃ y, y = o17 := ⟨_, rfl⟩
      obtain ⟨rfl, rfl⟩ := hp_
      refine WKe.code (y := (cR (cR (cB (cL (cR (cB (cB (cR (cL (cR (cR bd17)))))))))))) (ks' := [.blk 1, .seq (cR (cR (cB (cB (cR (cL (cR (cR bd17)))))))), .lp (cB (cR (cL (cR (cR bd17)))))]) (by kernel_rfl) ?_
      obtain ⟨r18_1, h18_2, h⟩ := bd_inv h
      refine WK.rs (g := [.s (.t 32) [iv (l4_0.length : Int)], .a ⟨iv r18_1, []⟩]) (l' := [(.t 0, [.data (.slc false none 1 (List.map e_i64 l4_0))]), (.t 3, [iv l4_1]), (.t 4, [iv l4_2]), (.t 34, [bv (decide (y17_0 ≥ r18_1))])]) (by kernel_rfl) (.cons (c_len (e := e_i64) (l := l4_0)) (.cons (Asks.of (C := Meets Try.prog) (diwanref1_Majority.meets (l4_0.length : Int) _ h18_2)) .nil)) (by kernel_rfl) ?_
      rcases br_inv h with ⟨b19_0, h⟩ | ⟨b19_0, h⟩
      · refine WK.ct (b := (decide (y17_0 ≥ r18_1))) (by kernel_rfl) b19_0 ?_
        obtain ⟨x20_1, a20_2, e20_3, h⟩ := ix_inv h
        refine WK.rc (g := [.c (e_i64 x20_1)]) (l' := [(.t 0, [.data (.slc false none 1 (List.map e_i64 l4_0))]), (.t 3, [iv (if l4_1 < x20_1 then x20_1 else l4_1)]), (.t 4, [iv l4_2])]) (.cons (c_ix (e := e_i64) a20_2 e20_3) (.cons (c_el (e := e_i64) e20_3) .nil)) (by kernel_rfl) (y := (cR (cR (cB (cB (cR (cL (cR (cR bd17))))))))) (ks' := [.lp (cB (cR (cL (cR (cR bd17)))))]) (by kernel_rfl) ?_
        refine WK.rc (g := []) (l' := [(.t 0, [.data (.slc false none 1 (List.map e_i64 l4_0))]), (.t 3, [iv (if l4_1 < x20_1 then x20_1 else l4_1)]), (.t 4, [iv (w64 (l4_2 + 1))])]) .nil (by kernel_rfl) (y := (cB (cR (cL (cR (cR bd17)))))) (ks' := []) (by kernel_rfl) ?_
        exact WK.weak (l := [(.t 0, [.data (.slc false none 1 (List.map e_i64 l4_0))]), (.t 3, [iv (if l4_1 < x20_1 then x20_1 else l4_1)]), (.t 4, [iv (w64 (l4_2 + 1))])]) (wk_of (by kernel_rfl)) (ih (if l4_1 < x20_1 then x20_1 else l4_1) (w64 (l4_2 + 1)) _ h)
      · refine WK.ce (b := (decide (y17_0 ≥ r18_1))) (by kernel_rfl) b19_0 ?_
        refine WK.skip (by kernel_rfl) ?_
        refine WKe.code (y := (cR (cR (cB (cB (cR (cL (cR (cR bd17))))))))) (ks' := [.lp (cB (cR (cL (cR (cR bd17)))))]) (by kernel_rfl) ?_
        refine WK.rc (g := []) (l' := [(.t 0, [.data (.slc false none 1 (List.map e_i64 l4_0))]), (.t 3, [iv l4_1]), (.t 4, [iv (w64 (l4_2 + 1))])]) .nil (by kernel_rfl) (y := (cB (cR (cL (cR (cR bd17)))))) (ks' := []) (by kernel_rfl) ?_
        exact WK.weak (l := [(.t 0, [.data (.slc false none 1 (List.map e_i64 l4_0))]), (.t 3, [iv l4_1]), (.t 4, [iv (w64 (l4_2 + 1))])]) (wk_of (by kernel_rfl)) (ih l4_1 (w64 (l4_2 + 1)) _ h)
    · refine WK.ce (b := (decide (l4_2 < (l4_0.length : Int)))) (by kernel_rfl) b6_0 ?_
      refine WK.weak (l := [(.t 3, [iv l4_1])]) (wk_of (by kernel_rfl)) ?_
      refine WK.exit (n := 0) (by kernel_rfl) ?_
      cases some_inj h
      exact WKe.fin (e' := .exit 0) (by kernel_rfl) ⟨rfl, rfl⟩
noncomputable def diwanref1_Most (fu : Nat) (match_v : List Int) : Option Int :=
  bd (diwanref1_Most.lp4 fu match_v fu 0 0) fun y23_0 =>
  some y23_0
theorem diwanref1_Most.meets (fu : Nat) (match_v : List Int) (z0 : Int) (h : diwanref1_Most fu match_v = some z0) : Meets Try.prog ⟨17, [.data (.slc false none 1 (List.map e_i64 match_v))], []⟩ ⟨iv z0, []⟩ := by
  refine meets_of (O := diwanref1_Most.O) hmix (fn := Try.f17) (code := bd17) (by kernel_rfl) ?_
  refine WK.weak (l := [(.t 0, [.data (.slc false none 1 (List.map e_i64 match_v))])]) (wk_of (by kernel_rfl)) ?_
  unfold diwanref1_Most at h
  refine WK.rs (g := []) (l' := [(.t 0, [.data (.slc false none 1 (List.map e_i64 match_v))])]) (by kernel_rfl) .nil (by kernel_rfl) ?_
  refine WK.rs (g := []) (l' := [(.t 0, [.data (.slc false none 1 (List.map e_i64 match_v))]), (.t 3, [iv 0])]) (by kernel_rfl) .nil (by kernel_rfl) ?_
  refine WK.seq (by kernel_rfl) ?_
  refine WK.rs (g := []) (l' := [(.t 0, [.data (.slc false none 1 (List.map e_i64 match_v))]), (.t 3, [iv 0]), (.t 4, [iv 0])]) (by kernel_rfl) .nil (by kernel_rfl) ?_
  refine WK.block (n := 0) (by kernel_rfl) ?_
  obtain ⟨o23, ho23, h⟩ := bd_inv h
  refine WK.weak (l := [(.t 0, [.data (.slc false none 1 (List.map e_i64 match_v))]), (.t 3, [iv 0]), (.t 4, [iv 0])]) (wk_of (by kernel_rfl)) ?_
  refine WK.use (diwanref1_Most.lp4_ok fu match_v _ 0 0 _ ho23) ?_
  intro e_ τ_ hp_
  obtain ⟨y23_0, rfl⟩ : ∃ y, y = o23 := ⟨_, rfl⟩
  obtain ⟨rfl, rfl⟩ := hp_
  refine WKe.code (y := (cR (cR (cR bd17)))) (ks' := []) (by kernel_rfl) ?_
  refine WK.rs (g := []) (l' := [(.t 2, [iv y23_0])]) (by kernel_rfl) .nil (by kernel_rfl) ?_
  refine WK.weak (l := [(.t 2, [iv y23_0])]) (wk_of (by kernel_rfl)) ?_
  refine WK.ret (by kernel_rfl) ?_
  cases some_inj h
  exact WKe.fin (e' := .ret) (by kernel_rfl) (fin_of (g := []) (by first | exact .inl rfl | exact .inr rfl) .nil (by kernel_rfl))
/-- diwan/diwanref1.Term -/
noncomputable def bd18 : Code := (Try.f18.body).getD .skip
def diwanref1_Term.O : Nat → Nat := fun t => bif ([4] : List Nat).any (Nat.beq t) then 1 else 0
noncomputable def diwanref1_Term (l : List TEntry) (i : Int) : Option Int :=
  br (decide (i < 1))
    (some 0)
    (br (decide (i > (l.length : Int)))
      (some 0)
      (ix l (w64 (i - 1)) fun x6_1 =>
      some x6_1.Term))
theorem diwanref1_Term.meets (l : List TEntry) (i : Int) (z0 : Int) (h : diwanref1_Term l i = some z0) : Meets Try.prog ⟨18, [.data (.slc false none 6 (List.map TEntry.en l)), iv i], []⟩ ⟨iv z0, []⟩ := by
  refine meets_of (O := diwanref1_Term.O) hmix (fn := Try.f18) (code := bd18) (by kernel_rfl) ?_
  refine WK.weak (l := [(.t 0, [.data (.slc false none 6 (List.map TEntry.en l))]), (.t 1, [iv i])]) (wk_of (by kernel_rfl)) ?_
  unfold diwanref1_Term at h
  refine WK.rs (g := []) (l' := [(.t 0, [.data (.slc false none 6 (List.map TEntry.en l))]), (.t 1, [iv i])]) (by kernel_rfl) .nil (by kernel_rfl) ?_
  refine WK.seq (by kernel_rfl) ?_
  rcases br_inv h with ⟨b2_1, h⟩ | ⟨b2_1, h⟩
  · refine WK.rs (g := [.b true, .b true, .b true, .b true, .b true]) (l' := [(.t 0, [.data (.slc false none 6 (List.map TEntry.en l))]), (.t 1, [iv i]), (.t 12, [bv true])]) (by kernel_rfl) (.cons b2_1 (.cons b2_1 (.cons b2_1 (.cons b2_1 (.cons b2_1 .nil))))) (by kernel_rfl) ?_
    refine WK.ct (b := true) (by kernel_rfl) rfl ?_
    refine WK.rs (g := []) (l' := [(.t 4, [iv 0])]) (by kernel_rfl) .nil (by kernel_rfl) ?_
    refine WK.weak (l := [(.t 4, [iv 0])]) (wk_of (by kernel_rfl)) ?_
    refine WK.ret (by kernel_rfl) ?_
    cases some_inj h
    exact WKe.fin (e' := .ret) (by kernel_rfl) (fin_of (g := []) (by first | exact .inl rfl | exact .inr rfl) .nil (by kernel_rfl))
  · refine WK.rs (g := [.b false, .b false, .b false, .s (.t 10) [iv (l.length : Int)], .b false, .b false]) (l' := [(.t 0, [.data (.slc false none 6 (List.map TEntry.en l))]), (.t 1, [iv i]), (.t 12, [bv (decide (i > (l.length : Int)))])]) (by kernel_rfl) (.cons b2_1 (.cons b2_1 (.cons b2_1 (.cons (c_len (e := TEntry.en) (l := l)) (.cons b2_1 (.cons b2_1 .nil)))))) (by kernel_rfl) ?_
    rcases br_inv h with ⟨b4_0, h⟩ | ⟨b4_0, h⟩
    · refine WK.ct (b := (decide (i > (l.length : Int)))) (by kernel_rfl) b4_0 ?_
      refine WK.rs (g := []) (l' := [(.t 4, [iv 0])]) (by kernel_rfl) .nil (by kernel_rfl) ?_
      refine WK.weak (l := [(.t 4, [iv 0])]) (wk_of (by kernel_rfl)) ?_
      refine WK.ret (by kernel_rfl) ?_
      cases some_inj h
      exact WKe.fin (e' := .ret) (by kernel_rfl) (fin_of (g := []) (by first | exact .inl rfl | exact .inr rfl) .nil (by kernel_rfl))
    · refine WK.ce (b := (decide (i > (l.length : Int)))) (by kernel_rfl) b4_0 ?_
      refine WK.skip (by kernel_rfl) ?_
      refine WKe.code (y := (cR (cR bd18))) (ks' := []) (by kernel_rfl) ?_
      obtain ⟨x6_1, a6_2, e6_3, h⟩ := ix_inv h
      refine WK.rs (g := [.c (TEntry.en x6_1)]) (l' := [(.t 4, [iv x6_1.Term])]) (by kernel_rfl) (.cons (c_ix (e := TEntry.en) a6_2 e6_3) (.cons (c_el (e := TEntry.en) e6_3) .nil)) (by kernel_rfl) ?_
      refine WK.weak (l := [(.t 4, [iv x6_1.Term])]) (wk_of (by kernel_rfl)) ?_
      refine WK.ret (by kernel_rfl) ?_
      cases some_inj h
      exact WKe.fin (e' := .ret) (by kernel_rfl) (fin_of (g := []) (by first | exact .inl rfl | exact .inr rfl) .nil (by kernel_rfl))
/-- diwan/diwanref1.Next -/
noncomputable def bd12 : Code := (Try.f12.body).getD .skip
def diwanref1_Next.O : Nat → Nat := fun t => bif ([8, 9] : List Nat).any (Nat.beq t) then 1 else 0
noncomputable def diwanref1_Next (fu : Nat) (match_v : List Int) (l : List TEntry) (term : Int) (commit : Int) : Option Int :=
  bd (diwanref1_Most fu match_v) fun r2_1 =>
  br (decide (r2_1 > commit))
    (br (decide (r2_1 ≤ (l.length : Int)))
      (bd (diwanref1_Term l r2_1) fun r3_3 =>
      br (r3_3 == term)
        (some r2_1)
        (some commit))
      (some commit))
    (some commit)
theorem diwanref1_Next.meets (fu : Nat) (match_v : List Int) (l : List TEntry) (term : Int) (commit : Int) (z0 : Int) (h : diwanref1_Next fu match_v l term commit = some z0) : Meets Try.prog ⟨12, [.data (.slc false none 1 (List.map e_i64 match_v)), .data (.slc false none 6 (List.map TEntry.en l)), iv term, iv commit], []⟩ ⟨iv z0, []⟩ := by
  refine meets_of (O := diwanref1_Next.O) hmix (fn := Try.f12) (code := bd12) (by kernel_rfl) ?_
  refine WK.weak (l := [(.t 0, [.data (.slc false none 1 (List.map e_i64 match_v))]), (.t 1, [.data (.slc false none 6 (List.map TEntry.en l))]), (.t 2, [iv term]), (.t 3, [iv commit])]) (wk_of (by kernel_rfl)) ?_
  unfold diwanref1_Next at h
  refine WK.rs (g := []) (l' := [(.t 0, [.data (.slc false none 1 (List.map e_i64 match_v))]), (.t 1, [.data (.slc false none 6 (List.map TEntry.en l))]), (.t 2, [iv term]), (.t 3, [iv commit])]) (by kernel_rfl) .nil (by kernel_rfl) ?_
  obtain ⟨r2_1, h2_2, h⟩ := bd_inv h
  refine WK.rs (g := [.a ⟨iv r2_1, []⟩]) (l' := [(.t 1, [.data (.slc false none 6 (List.map TEntry.en l))]), (.t 2, [iv term]), (.t 3, [iv commit]), (.t 9, [iv r2_1])]) (by kernel_rfl) (.cons (Asks.of (C := Meets Try.prog) (diwanref1_Most.meets fu match_v _ h2_2)) .nil) (by kernel_rfl) ?_
  refine WK.seq (by kernel_rfl) ?_
  rcases br_inv h with ⟨b3_1, h⟩ | ⟨b3_1, h⟩
  · rcases br_inv h with ⟨b3_2, h⟩ | ⟨b3_2, h⟩
    · obtain ⟨r3_3, h3_4, h⟩ := bd_inv h
      refine WK.rs (g := [.b true, .b true, .b true, .s (.t 18) [iv (l.length : Int)], .b true, .b true, .b true, .b true, .b true, .a ⟨iv r3_3, []⟩, .b true, .b true, .b true]) (l' := [(.t 3, [iv commit]), (.t 9, [iv r2_1]), (.t 27, [bv (r3_3 == term)])]) (by kernel_rfl) (.cons b3_1 (.cons b3_1 (.cons b3_1 (.cons (c_len (e := TEntry.en) (l := l)) (.cons b3_1 (.cons b3_1 (.cons b3_2 (.cons b3_2 (.cons b3_2 (.cons (Asks.of (C := Meets Try.prog) (diwanref1_Term.meets l r2_1 _ h3_4)) (.cons b3_2 (.cons b3_2 (.cons b3_2 .nil))))))))))))) (by kernel_rfl) ?_
      rcases br_inv h with ⟨b4_0, h⟩ | ⟨b4_0, h⟩
      · refine WK.ct (b := (r3_3 == term)) (by kernel_rfl) b4_0 ?_
        refine WK.rs (g := []) (l' := [(.t 8, [iv r2_1])]) (by kernel_rfl) .nil (by kernel_rfl) ?_
        refine WK.weak (l := [(.t 8, [iv r2_1])]) (wk_of (by kernel_rfl)) ?_
        refine WK.ret (by kernel_rfl) ?_
        cases some_inj h
        exact WKe.fin (e' := .ret) (by kernel_rfl) (fin_of (g := []) (by first | exact .inl rfl | exact .inr rfl) .nil (by kernel_rfl))
      · refine WK.ce (b := (r3_3 == term)) (by kernel_rfl) b4_0 ?_
        refine WK.skip (by kernel_rfl) ?_
        refine WKe.code (y := (cR (cR (cR bd12)))) (ks' := []) (by kernel_rfl) ?_
        refine WK.rs (g := []) (l' := [(.t 8, [iv commit])]) (by kernel_rfl) .nil (by kernel_rfl) ?_
        refine WK.weak (l := [(.t 8, [iv commit])]) (wk_of (by kernel_rfl)) ?_
        refine WK.ret (by kernel_rfl) ?_
        cases some_inj h
        exact WKe.fin (e' := .ret) (by kernel_rfl) (fin_of (g := []) (by first | exact .inl rfl | exact .inr rfl) .nil (by kernel_rfl))
    · refine WK.rs (g := [.b true, .b true, .b true, .s (.t 18) [iv (l.length : Int)], .b true, .b true, .b false, .b false, .b false, .b false, .b false, .b false]) (l' := [(.t 3, [iv commit]), (.t 9, [iv r2_1]), (.t 27, [bv false])]) (by kernel_rfl) (.cons b3_1 (.cons b3_1 (.cons b3_1 (.cons (c_len (e := TEntry.en) (l := l)) (.cons b3_1 (.cons b3_1 (.cons b3_2 (.cons b3_2 (.cons b3_2 (.cons b3_2 (.cons b3_2 (.cons b3_2 .nil)))))))))))) (by kernel_rfl) ?_
      refine WK.ce (b := false) (by kernel_rfl) rfl ?_
      refine WK.skip (by kernel_rfl) ?_
      refine WKe.code (y := (cR (cR (cR bd12)))) (ks' := []) (by kernel_rfl) ?_
      refine WK.rs (g := []) (l' := [(.t 8, [iv commit])]) (by kernel_rfl) .nil (by kernel_rfl) ?_
      refine WK.weak (l := [(.t 8, [iv commit])]) (wk_of (by kernel_rfl)) ?_
      refine WK.ret (by kernel_rfl) ?_
      cases some_inj h
      exact WKe.fin (e' := .ret) (by kernel_rfl) (fin_of (g := []) (by first | exact .inl rfl | exact .inr rfl) .nil (by kernel_rfl))
  · refine WK.rs (g := [.b false, .b false, .b false, .b false, .b false, .b false, .b false, .b false, .b false, .b false, .b false]) (l' := [(.t 3, [iv commit]), (.t 9, [iv r2_1]), (.t 27, [bv false])]) (by kernel_rfl) (.cons b3_1 (.cons b3_1 (.cons b3_1 (.cons b3_1 (.cons b3_1 (.cons (Eq.refl false) (.cons (Eq.refl false) (.cons (Eq.refl false) (.cons (Eq.refl false) (.cons (Eq.refl false) (.cons (Eq.refl false) .nil))))))))))) (by kernel_rfl) ?_
    refine WK.ce (b := false) (by kernel_rfl) rfl ?_
    refine WK.skip (by kernel_rfl) ?_
    refine WKe.code (y := (cR (cR (cR bd12)))) (ks' := []) (by kernel_rfl) ?_
    refine WK.rs (g := []) (l' := [(.t 8, [iv commit])]) (by kernel_rfl) .nil (by kernel_rfl) ?_
    refine WK.weak (l := [(.t 8, [iv commit])]) (wk_of (by kernel_rfl)) ?_
    refine WK.ret (by kernel_rfl) ?_
    cases some_inj h
    exact WKe.fin (e' := .ret) (by kernel_rfl) (fin_of (g := []) (by first | exact .inl rfl | exact .inr rfl) .nil (by kernel_rfl))
/-- diwan/diwanref1.Many -/
noncomputable def bd15 : Code := (Try.f15.body).getD .skip
def diwanref1_Many.O : Nat → Nat := fun t => bif ([2, 3, 4] : List Nat).any (Nat.beq t) then 1 else 0
noncomputable def diwanref1_Many.lp4 (fu : Nat) (l4_0 : List Bool) : Nat → Int → Int → Option Int
  | 0, _, _ => none
  | n_ + 1, l4_1, l4_2 =>
    br (decide (l4_2 < (l4_0.length : Int)))
      (ix l4_0 l4_2 fun x7_1 =>
      br x7_1
        (diwanref1_Many.lp4 fu l4_0 n_ (w64 (l4_1 + 1)) (w64 (l4_2 + 1)))
        (diwanref1_Many.lp4 fu l4_0 n_ l4_1 (w64 (l4_2 + 1))))
      (some l4_1)
noncomputable def diwanref1_Many.lp4_post (l4_0 : List Bool) (r_ : Int) : Wy → St → Prop := fun e τ => match r_ with
  | y0 => e = .exit 0 ∧ τ = ofL [(.t 3, [iv y0])]
theorem diwanref1_Many.lp4_ok (fu : Nat) (l4_0 : List Bool) : ∀ (n_ : Nat) (l4_1 : Int) (l4_2 : Int) (r_ : Int), diwanref1_Many.lp4 fu l4_0 n_ l4_1 l4_2 = some r_ → WK Try.prog diwanref1_Many.O (Ck Try.prog) (cB (cR (cL (cR (cR bd15))))) [] (ofL [(.t 0, [.data (.slc false none 1 (List.map e_b l4_0))]), (.t 3, [iv l4_1]), (.t 4, [iv l4_2])]) (diwanref1_Many.lp4_post l4_0 r_) := by
  intro n_
  induction n_ with
  | zero => intro l4_1 l4_2 r_ h; exact no_none h
  | succ n_ ih =>
    intro l4_1 l4_2 r_ h
    refine WK.loop (by kernel_rfl) ?_
    refine WK.seq (by kernel_rfl) ?_
    refine WK.rs (g := [.s (.t 7) [iv (l4_0.length : Int)]]) (l' := [(.t 0, [.data (.slc false none 1 (List.map e_b l4_0))]), (.t 3, [iv l4_1]), (.t 4, [iv l4_2]), (.t 8, [bv (decide (l4_2 < (l4_0.length : Int)))])]) (by kernel_rfl) (.cons (c_len (e := e_b) (l := l4_0)) .nil) (by kernel_rfl) ?_
    rcases br_inv h with ⟨b6_0, h⟩ | ⟨b6_0, h⟩
    · refine WK.ct (b := (decide (l4_2 < (l4_0.length : Int)))) (by kernel_rfl) b6_0 ?_
      refine WK.skip (by kernel_rfl) ?_
      refine WKe.code (y := (cR (cB (cB (cR (cL (cR (cR bd15)))))))) (ks' := [.lp (cB (cR (cL (cR (cR bd15)))))]) (by kernel_rfl) ?_
      refine WK.seq (by kernel_rfl) ?_
      refine WK.block (n := 1) (by kernel_rfl) ?_
      obtain ⟨x7_1, a7_2, e7_3, h⟩ := ix_inv h
      refine WK.rs (g := [.c (e_b x7_1)]) (l' := [(.t 0, [.data (.slc false none 1 (List.map e_b l4_0))]), (.t 3, [iv l4_1]), (.t 4, [iv l4_2]), (.t 14, [bv x7_1])]) (by kernel_rfl) (.cons (c_ix (e := e_b) a7_2 e7_3) (.cons (c_el (e := e_b) e7_3) .nil)) (by kernel_rfl) ?_
      rcases br_inv h with ⟨b8_0, h⟩ | ⟨b8_0, h⟩
      · refine WK.ct (b := x7_1) (by kernel_rfl) b8_0 ?_
        refine WK.rc (g := []) (l' := [(.t 0, [.data (.slc false none 1 (List.map e_b l4_0))]), (.t 3, [iv (w64 (l4_1 + 1))]), (.t 4, [iv l4_2])]) .nil (by kernel_rfl) (y := (cR (cR (cB (cB (cR (cL (cR (cR bd15))))))))) (ks' := [.lp (cB (cR (cL (cR (cR bd15)))))]) (by kernel_rfl) ?_
        refine WK.rc (g := []) (l' := [(.t 0, [.data (.slc false none 1 (List.map e_b l4_0))]), (.t 3, [iv (w64 (l4_1 + 1))]), (.t 4, [iv (w64 (l4_2 + 1))])]) .nil (by kernel_rfl) (y := (cB (cR (cL (cR (cR bd15)))))) (ks' := []) (by kernel_rfl) ?_
        exact WK.weak (l := [(.t 0, [.data (.slc false none 1 (List.map e_b l4_0))]), (.t 3, [iv (w64 (l4_1 + 1))]), (.t 4, [iv (w64 (l4_2 + 1))])]) (wk_of (by kernel_rfl)) (ih (w64 (l4_1 + 1)) (w64 (l4_2 + 1)) _ h)
      · refine WK.ce (b := x7_1) (by kernel_rfl) b8_0 ?_
        refine WK.skip (by kernel_rfl) ?_
        refine WKe.code (y := (cR (cR (cB (cB (cR (cL (cR (cR bd15))))))))) (ks' := [.lp (cB (cR (cL (cR (cR bd15)))))]) (by kernel_rfl) ?_
        refine WK.rc (g := []) (l' := [(.t 0, [.data (.slc false none 1 (List.map e_b l4_0))]), (.t 3, [iv l4_1]), (.t 4, [iv (w64 (l4_2 + 1))])]) .nil (by kernel_rfl) (y := (cB (cR (cL (cR (cR bd15)))))) (ks' := []) (by kernel_rfl) ?_
        exact WK.weak (l := [(.t 0, [.data (.slc false none 1 (List.map e_b l4_0))]), (.t 3, [iv l4_1]), (.t 4, [iv (w64 (l4_2 + 1))])]) (wk_of (by kernel_rfl)) (ih l4_1 (w64 (l4_2 + 1)) _ h)
    · refine WK.ce (b := (decide (l4_2 < (l4_0.length : Int)))) (by kernel_rfl) b6_0 ?_
      refine WK.weak (l := [(.t 3, [iv l4_1])]) (wk_of (by kernel_rfl)) ?_
      refine WK.exit (n := 0) (by kernel_rfl) ?_
      cases some_inj h
      exact WKe.fin (e' := .exit 0) (by kernel_rfl) ⟨rfl, rfl⟩
noncomputable def diwanref1_Many (fu : Nat) (v : List Bool) : Option Int :=
  bd (diwanref1_Many.lp4 fu v fu 0 0) fun y12_0 =>
  some y12_0
theorem diwanref1_Many.meets (fu : Nat) (v : List Bool) (z0 : Int) (h : diwanref1_Many fu v = some z0) : Meets Try.prog ⟨15, [.data (.slc false none 1 (List.map e_b v))], []⟩ ⟨iv z0, []⟩ := by
  refine meets_of (O := diwanref1_Many.O) hmix (fn := Try.f15) (code := bd15) (by kernel_rfl) ?_
  refine WK.weak (l := [(.t 0, [.data (.slc false none 1 (List.map e_b v))])]) (wk_of (by kernel_rfl)) ?_
  unfold diwanref1_Many at h
  refine WK.rs (g := []) (l' := [(.t 0, [.data (.slc false none 1 (List.map e_b v))])]) (by kernel_rfl) .nil (by kernel_rfl) ?_
  refine WK.rs (g := []) (l' := [(.t 0, [.data (.slc false none 1 (List.map e_b v))]), (.t 3, [iv 0])]) (by kernel_rfl) .nil (by kernel_rfl) ?_
  refine WK.seq (by kernel_rfl) ?_
  refine WK.rs (g := []) (l' := [(.t 0, [.data (.slc false none 1 (List.map e_b v))]), (.t 3, [iv 0]), (.t 4, [iv 0])]) (by kernel_rfl) .nil (by kernel_rfl) ?_
  refine WK.block (n := 0) (by kernel_rfl) ?_
  obtain ⟨o12, ho12, h⟩ := bd_inv h
  refine WK.weak (l := [(.t 0, [.data (.slc false none 1 (List.map e_b v))]), (.t 3, [iv 0]), (.t 4, [iv 0])]) (wk_of (by kernel_rfl)) ?_
  refine WK.use (diwanref1_Many.lp4_ok fu v _ 0 0 _ ho12) ?_
  intro e_ τ_ hp_
  obtain ⟨y12_0, rfl⟩ : ∃ y, y = o12 := ⟨_, rfl⟩
  obtain ⟨rfl, rfl⟩ := hp_
  refine WKe.code (y := (cR (cR (cR bd15)))) (ks' := []) (by kernel_rfl) ?_
  refine WK.rs (g := []) (l' := [(.t 2, [iv y12_0])]) (by kernel_rfl) .nil (by kernel_rfl) ?_
  refine WK.weak (l := [(.t 2, [iv y12_0])]) (wk_of (by kernel_rfl)) ?_
  refine WK.ret (by kernel_rfl) ?_
  cases some_inj h
  exact WKe.fin (e' := .ret) (by kernel_rfl) (fin_of (g := []) (by first | exact .inl rfl | exact .inr rfl) .nil (by kernel_rfl))
/-- diwan/diwanlaw10.BallotAll -/
noncomputable def bd3 : Code := (Try.f3.body).getD .skip
def diwanlaw10_BallotAll.O : Nat → Nat := fun t => bif ([12, 13, 14, 15, 16, 45] : List Nat).any (Nat.beq t) then 1 else 0
noncomputable def diwanlaw10_BallotAll.lp12 (fu : Nat) (l12_0 : Int) (l12_1 : List Bool) (l12_2 : List Int) (l12_3 : List Int) (l12_4 : Int) (l12_5 : Int) : Nat → (List Int) → Int → Option (List Int)
  | 0, _, _ => none
  | n_ + 1, l12_6, l12_7 =>
    br (decide (l12_7 < (l12_2.length : Int)))
      (ix l12_2 l12_7 fun x15_1 =>
      gd (decide (l12_6.length + ([(w64 (Int.tmod x15_1 12))] : List Int).length ≤ 4294967296)) <|
      diwanlaw10_BallotAll.lp12 fu l12_0 l12_1 l12_2 l12_3 l12_4 l12_5 n_ (l12_6 ++ ([(w64 (Int.tmod x15_1 12))] : List Int)) (w64 (l12_7 + 1)))
      (some l12_6)
noncomputable def diwanlaw10_BallotAll.lp12_post (l12_0 : Int) (l12_1 : List Bool) (l12_2 : List Int) (l12_3 : List Int) (l12_4 : Int) (l12_5 : Int) (r_ : (List Int)) : Wy → St → Prop := fun e τ => match r_ with
  | y0 => e = .exit 0 ∧ τ = ofL [(.t 0, [.data (.val (.int .u8 l12_0))]), (.t 1, [.data (.slc false none 1 (List.map e_b l12_1))]), (.t 3, [.data (.slc false none 1 (List.map e_u8 l12_3))]), (.t 4, [.data (.val (.int .u8 l12_4))]), (.t 5, [.data (.val (.int .u8 l12_5))]), (.t 13, [.data (.slc true none 1 (List.map e_i64 y0))])]
theorem diwanlaw10_BallotAll.lp12_ok (fu : Nat) (l12_0 : Int) (l12_1 : List Bool) (l12_2 : List Int) (l12_3 : List Int) (l12_4 : Int) (l12_5 : Int) : ∀ (n_ : Nat) (l12_6 : List Int) (l12_7 : Int) (r_ : (List Int)), diwanlaw10_BallotAll.lp12 fu l12_0 l12_1 l12_2 l12_3 l12_4 l12_5 n_ l12_6 l12_7 = some r_ → WK Try.prog diwanlaw10_BallotAll.O (Ck Try.prog) (cB (cR (cL (cR (cR (cR (cR bd3))))))) [] (ofL [(.t 0, [.data (.val (.int .u8 l12_0))]), (.t 1, [.data (.slc false none 1 (List.map e_b l12_1))]), (.t 2, [.data (.slc false none 1 (List.map e_u8 l12_2))]), (.t 3, [.data (.slc false none 1 (List.map e_u8 l12_3))]), (.t 4, [.data (.val (.int .u8 l12_4))]), (.t 5, [.data (.val (.int .u8 l12_5))]), (.t 13, [.data (.slc true none 1 (List.map e_i64 l12_6))]), (.t 14, [iv l12_7])]) (diwanlaw10_BallotAll.lp12_post l12_0 l12_1 l12_2 l12_3 l12_4 l12_5 r_) := by
  intro n_
  induction n_ with
  | zero => intro l12_6 l12_7 r_ h; exact no_none h
  | succ n_ ih =>
    intro l12_6 l12_7 r_ h
    refine WK.loop (by kernel_rfl) ?_
    refine WK.seq (by kernel_rfl) ?_
    refine WK.rs (g := [.s (.t 34) [iv (l12_2.length : Int)]]) (l' := [(.t 0, [.data (.val (.int .u8 l12_0))]), (.t 1, [.data (.slc false none 1 (List.map e_b l12_1))]), (.t 2, [.data (.slc false none 1 (List.map e_u8 l12_2))]), (.t 3, [.data (.slc false none 1 (List.map e_u8 l12_3))]), (.t 4, [.data (.val (.int .u8 l12_4))]), (.t 5, [.data (.val (.int .u8 l12_5))]), (.t 13, [.data (.slc true none 1 (List.map e_i64 l12_6))]), (.t 14, [iv l12_7]), (.t 35, [bv (decide (l12_7 < (l12_2.length : Int)))])]) (by kernel_rfl) (.cons (c_len (e := e_u8) (l := l12_2)) .nil) (by kernel_rfl) ?_
    rcases br_inv h with ⟨b14_0, h⟩ | ⟨b14_0, h⟩
    · refine WK.ct (b := (decide (l12_7 < (l12_2.length : Int)))) (by kernel_rfl) b14_0 ?_
      refine WK.skip (by kernel_rfl) ?_
      refine WKe.code (y := (cR (cB (cB (cR (cL (cR (cR (cR (cR bd3)))))))))) (ks' := [.lp (cB (cR (cL (cR (cR (cR (cR bd3)))))))]) (by kernel_rfl) ?_
      refine WK.seq (by kernel_rfl) ?_
      refine WK.block (n := 1) (by kernel_rfl) ?_
      obtain ⟨x15_1, a15_2, e15_3, h⟩ := ix_inv h
      obtain ⟨c15_4, h⟩ := gd_inv h
      refine WK.rc (g := [.c (e_u8 x15_1), .s (.t 46) [.data (.slc true none 1 (List.map e_i64 (l12_6 ++ ([(w64 (Int.tmod x15_1 12))] : List Int))))]]) (l' := [(.t 0, [.data (.val (.int .u8 l12_0))]), (.t 1, [.data (.slc false none 1 (List.map e_b l12_1))]), (.t 2, [.data (.slc false none 1 (List.map e_u8 l12_2))]), (.t 3, [.data (.slc false none 1 (List.map e_u8 l12_3))]), (.t 4, [.data (.val (.int .u8 l12_4))]), (.t 5, [.data (.val (.int .u8 l12_5))]), (.t 13, [.data (.slc true none 1 (List.map e_i64 (l12_6 ++ ([(w64 (Int.tmod x15_1 12))] : List Int))))]), (.t 14, [iv l12_7])]) (.cons (c_ix (e := e_u8) a15_2 e15_3) (.cons (c_el (e := e_u8) e15_3) (.cons (Eq.refl true) (.cons (c_al (e := e_i64) (f := e_i64) c15_4) (.cons (congrArg (fun d : DV => [AV.data d]) (c_app (e := e_i64) (s := 1) (l := l12_6) (m := ([(w64 (Int.tmod x15_1 12))] : List Int)))) .nil))))) (by kernel_rfl) (y := (cR (cR (cB (cB (cR (cL (cR (cR (cR (cR bd3))))))))))) (ks' := [.lp (cB (cR (cL (cR (cR (cR (cR bd3)))))))]) (by kernel_rfl) ?_
      refine WK.rc (g := []) (l' := [(.t 0, [.data (.val (.int .u8 l12_0))]), (.t 1, [.data (.slc false none 1 (List.map e_b l12_1))]), (.t 2, [.data (.slc false none 1 (List.map e_u8 l12_2))]), (.t 3, [.data (.slc false none 1 (List.map e_u8 l12_3))]), (.t 4, [.data (.val (.int .u8 l12_4))]), (.t 5, [.data (.val (.int .u8 l12_5))]), (.t 13, [.data (.slc true none 1 (List.map e_i64 (l12_6 ++ ([(w64 (Int.tmod x15_1 12))] : List Int))))]), (.t 14, [iv (w64 (l12_7 + 1))])]) .nil (by kernel_rfl) (y := (cB (cR (cL (cR (cR (cR (cR bd3)))))))) (ks' := []) (by kernel_rfl) ?_
      exact WK.weak (l := [(.t 0, [.data (.val (.int .u8 l12_0))]), (.t 1, [.data (.slc false none 1 (List.map e_b l12_1))]), (.t 2, [.data (.slc false none 1 (List.map e_u8 l12_2))]), (.t 3, [.data (.slc false none 1 (List.map e_u8 l12_3))]), (.t 4, [.data (.val (.int .u8 l12_4))]), (.t 5, [.data (.val (.int .u8 l12_5))]), (.t 13, [.data (.slc true none 1 (List.map e_i64 (l12_6 ++ ([(w64 (Int.tmod x15_1 12))] : List Int))))]), (.t 14, [iv (w64 (l12_7 + 1))])]) (wk_of (by kernel_rfl)) (ih (l12_6 ++ ([(w64 (Int.tmod x15_1 12))] : List Int)) (w64 (l12_7 + 1)) _ h)
    · refine WK.ce (b := (decide (l12_7 < (l12_2.length : Int)))) (by kernel_rfl) b14_0 ?_
      refine WK.weak (l := [(.t 0, [.data (.val (.int .u8 l12_0))]), (.t 1, [.data (.slc false none 1 (List.map e_b l12_1))]), (.t 3, [.data (.slc false none 1 (List.map e_u8 l12_3))]), (.t 4, [.data (.val (.int .u8 l12_4))]), (.t 5, [.data (.val (.int .u8 l12_5))]), (.t 13, [.data (.slc true none 1 (List.map e_i64 l12_6))])]) (wk_of (by kernel_rfl)) ?_
      refine WK.exit (n := 0) (by kernel_rfl) ?_
      cases some_inj h
      exact WKe.fin (e' := .exit 0) (by kernel_rfl) ⟨rfl, rfl⟩
noncomputable def diwanlaw10_BallotAll.lp20 (fu : Nat) (l20_0 : Int) (l20_1 : List Bool) (l20_2 : Int) (l20_3 : Int) (l20_4 : List Int) (l20_5 : List TEntry) : Nat → Int → Option (Unit ⊕ Unit)
  | 0, _ => none
  | n_ + 1, l20_6 =>
    br (decide (l20_6 < 6))
      (bd (ballot_Next fu l20_4 l20_5 l20_6 (w64 (Int.tmod l20_3 9))) fun r23_1 =>
      bd (diwanref1_Next fu l20_4 l20_5 l20_6 (w64 (Int.tmod l20_3 9))) fun r23_3 =>
      br (r23_1 != r23_3)
        (some (.inr ()))
        (diwanlaw10_BallotAll.lp20 fu l20_0 l20_1 l20_2 l20_3 l20_4 l20_5 n_ (w64 (l20_6 + 1))))
      (some (.inl ()))
noncomputable def diwanlaw10_BallotAll.lp20_post (l20_0 : Int) (l20_1 : List Bool) (l20_2 : Int) (l20_3 : Int) (l20_4 : List Int) (l20_5 : List TEntry) (r_ : (Unit ⊕ Unit)) : Wy → St → Prop := fun e τ => match r_ with
  | .inl _ => e = .exit 2 ∧ τ = ofL [(.t 0, [.data (.val (.int .u8 l20_0))]), (.t 1, [.data (.slc false none 1 (List.map e_b l20_1))]), (.t 4, [.data (.val (.int .u8 l20_2))]), (.t 5, [.data (.val (.int .u8 l20_3))]), (.t 13, [.data (.slc true none 1 (List.map e_i64 l20_4))]), (.t 15, [.data (.slc true none 6 (List.map TEntry.en l20_5))])]
  | .inr _ => e = .ret ∧ τ = ofL [(.t 12, [bv false])]
theorem diwanlaw10_BallotAll.lp20_ok (fu : Nat) (l20_0 : Int) (l20_1 : List Bool) (l20_2 : Int) (l20_3 : Int) (l20_4 : List Int) (l20_5 : List TEntry) : ∀ (n_ : Nat) (l20_6 : Int) (r_ : (Unit ⊕ Unit)), diwanlaw10_BallotAll.lp20 fu l20_0 l20_1 l20_2 l20_3 l20_4 l20_5 n_ l20_6 = some r_ → WK Try.prog diwanlaw10_BallotAll.O (Ck Try.prog) (cB (cR (cL (cR (cR (cR (cR (cR (cR bd3))))))))) [] (ofL [(.t 0, [.data (.val (.int .u8 l20_0))]), (.t 1, [.data (.slc false none 1 (List.map e_b l20_1))]), (.t 4, [.data (.val (.int .u8 l20_2))]), (.t 5, [.data (.val (.int .u8 l20_3))]), (.t 13, [.data (.slc true none 1 (List.map e_i64 l20_4))]), (.t 15, [.data (.slc true none 6 (List.map TEntry.en l20_5))]), (.t 16, [iv l20_6])]) (diwanlaw10_BallotAll.lp20_post l20_0 l20_1 l20_2 l20_3 l20_4 l20_5 r_) := by
  intro n_
  induction n_ with
  | zero => intro l20_6 r_ h; exact no_none h
  | succ n_ ih =>
    intro l20_6 r_ h
    refine WK.loop (by kernel_rfl) ?_
    refine WK.seq (by kernel_rfl) ?_
    refine WK.rs (g := []) (l' := [(.t 0, [.data (.val (.int .u8 l20_0))]), (.t 1, [.data (.slc false none 1 (List.map e_b l20_1))]), (.t 4, [.data (.val (.int .u8 l20_2))]), (.t 5, [.data (.val (.int .u8 l20_3))]), (.t 13, [.data (.slc true none 1 (List.map e_i64 l20_4))]), (.t 15, [.data (.slc true none 6 (List.map TEntry.en l20_5))]), (.t 16, [iv l20_6]), (.t 51, [bv (decide (l20_6 < 6))])]) (by kernel_rfl) .nil (by kernel_rfl) ?_
    rcases br_inv h with ⟨b22_0, h⟩ | ⟨b22_0, h⟩
    · refine WK.ct (b := (decide (l20_6 < 6))) (by kernel_rfl) b22_0 ?_
      refine WK.skip (by kernel_rfl) ?_
      refine WKe.code (y := (cR (cB (cB (cR (cL (cR (cR (cR (cR (cR (cR bd3)))))))))))) (ks' := [.lp (cB (cR (cL (cR (cR (cR (cR (cR (cR bd3)))))))))]) (by kernel_rfl) ?_
      refine WK.seq (by kernel_rfl) ?_
      refine WK.block (n := 3) (by kernel_rfl) ?_
      obtain ⟨r23_1, h23_2, h⟩ := bd_inv h
      obtain ⟨r23_3, h23_4, h⟩ := bd_inv h
      refine WK.rs (g := [.a ⟨iv r23_1, []⟩, .a ⟨iv r23_3, []⟩]) (l' := [(.t 0, [.data (.val (.int .u8 l20_0))]), (.t 1, [.data (.slc false none 1 (List.map e_b l20_1))]), (.t 4, [.data (.val (.int .u8 l20_2))]), (.t 5, [.data (.val (.int .u8 l20_3))]), (.t 13, [.data (.slc true none 1 (List.map e_i64 l20_4))]), (.t 15, [.data (.slc true none 6 (List.map TEntry.en l20_5))]), (.t 16, [iv l20_6]), (.t 68, [bv (r23_1 != r23_3)])]) (by kernel_rfl) (.cons (Eq.refl true) (.cons (Asks.of (C := Meets Try.prog) (ballot_Next.meets fu l20_4 l20_5 l20_6 (w64 (Int.tmod l20_3 9)) _ h23_2)) (.cons (Eq.refl true) (.cons (Asks.of (C := Meets Try.prog) (diwanref1_Next.meets fu l20_4 l20_5 l20_6 (w64 (Int.tmod l20_3 9)) _ h23_4)) .nil)))) (by kernel_rfl) ?_
      rcases br_inv h with ⟨b24_0, h⟩ | ⟨b24_0, h⟩
      · refine WK.ct (b := (r23_1 != r23_3)) (by kernel_rfl) b24_0 ?_
        refine WK.rs (g := []) (l' := [(.t 12, [bv false])]) (by kernel_rfl) .nil (by kernel_rfl) ?_
        refine WK.weak (l := [(.t 12, [bv false])]) (wk_of (by kernel_rfl)) ?_
        refine WK.ret (by kernel_rfl) ?_
        cases some_inj h
        exact WKe.fin (e' := .ret) (by kernel_rfl) ⟨rfl, rfl⟩
      · refine WK.ce (b := (r23_1 != r23_3)) (by kernel_rfl) b24_0 ?_
        refine WK.skip (by kernel_rfl) ?_
        refine WKe.code (y := (cR (cR (cB (cB (cR (cL (cR (cR (cR (cR (cR (cR bd3))))))))))))) (ks' := [.lp (cB (cR (cL (cR (cR (cR (cR (cR (cR bd3)))))))))]) (by kernel_rfl) ?_
        refine WK.rc (g := []) (l' := [(.t 0, [.data (.val (.int .u8 l20_0))]), (.t 1, [.data (.slc false none 1 (List.map e_b l20_1))]), (.t 4, [.data (.val (.int .u8 l20_2))]), (.t 5, [.data (.val (.int .u8 l20_3))]), (.t 13, [.data (.slc true none 1 (List.map e_i64 l20_4))]), (.t 15, [.data (.slc true none 6 (List.map TEntry.en l20_5))]), (.t 16, [iv (w64 (l20_6 + 1))])]) .nil (by kernel_rfl) (y := (cB (cR (cL (cR (cR (cR (cR (cR (cR bd3)))))))))) (ks' := []) (by kernel_rfl) ?_
        exact WK.weak (l := [(.t 0, [.data (.val (.int .u8 l20_0))]), (.t 1, [.data (.slc false none 1 (List.map e_b l20_1))]), (.t 4, [.data (.val (.int .u8 l20_2))]), (.t 5, [.data (.val (.int .u8 l20_3))]), (.t 13, [.data (.slc true none 1 (List.map e_i64 l20_4))]), (.t 15, [.data (.slc true none 6 (List.map TEntry.en l20_5))]), (.t 16, [iv (w64 (l20_6 + 1))])]) (wk_of (by kernel_rfl)) (ih (w64 (l20_6 + 1)) _ h)
    · refine WK.ce (b := (decide (l20_6 < 6))) (by kernel_rfl) b22_0 ?_
      refine WK.weak (l := [(.t 0, [.data (.val (.int .u8 l20_0))]), (.t 1, [.data (.slc false none 1 (List.map e_b l20_1))]), (.t 4, [.data (.val (.int .u8 l20_2))]), (.t 5, [.data (.val (.int .u8 l20_3))]), (.t 13, [.data (.slc true none 1 (List.map e_i64 l20_4))]), (.t 15, [.data (.slc true none 6 (List.map TEntry.en l20_5))])]) (wk_of (by kernel_rfl)) ?_
      refine WK.exit (n := 2) (by kernel_rfl) ?_
      cases some_inj h
      exact WKe.fin (e' := .exit 2) (by kernel_rfl) ⟨rfl, rfl⟩
noncomputable def diwanlaw10_BallotAll (fu : Nat) (n_v : Int) (votes : List Bool) (match_v : List Int) (picks : List Int) (term : Int) (commit : Int) : Option Bool :=
  bd (diwanlaw10_begun fu) fun r2_1 =>
  br (!r2_1)
    (some false)
    (br (decide ((votes.length : Int) > 9))
      (some true)
      (br (decide ((match_v.length : Int) > 9))
        (some true)
        (br (decide ((picks.length : Int) > 80))
          (some true)
          (bd (diwanlaw10_BallotAll.lp12 fu n_v votes match_v picks term commit fu [] 0) fun y17_0 =>
          bd (diwanplay_Made picks) fun r18_1 =>
          bd (diwanplay_Picks_Log fu 8 r18_1) fun (r18_3, r18_4) =>
          bd (diwanlaw10_BallotAll.lp20 fu n_v votes term commit y17_0 r18_3 fu 0) fun o_ => (match o_ with
          | .inl _ =>
            bd (ballot_Majority (w64 n_v)) fun r28_1 =>
            br (r28_1 == (w64 ((w64 (Int.tdiv (w64 n_v) 2)) + 1)))
              (bd (ballot_Many fu votes) fun r28_4 =>
              bd (diwanref1_Many fu votes) fun r28_6 =>
              br (r28_4 == r28_6)
                (bd (ballot_Most fu y17_0) fun r28_9 =>
                bd (diwanref1_Most fu y17_0) fun r28_11 =>
                br (r28_9 == r28_11)
                  (bd (ballot_Next fu y17_0 r18_3 (w64 term) (w64 commit)) fun r28_14 =>
                  bd (diwanref1_Next fu y17_0 r18_3 (w64 term) (w64 commit)) fun r28_16 =>
                  some (r28_14 == r28_16))
                  (some false))
                (some false))
              (some false)
          | .inr _ =>
            some false)))))
theorem diwanlaw10_BallotAll.meets (fu : Nat) (n_v : Int) (votes : List Bool) (match_v : List Int) (picks : List Int) (term : Int) (commit : Int) (z0 : Bool) (h : diwanlaw10_BallotAll fu n_v votes match_v picks term commit = some z0) : Meets Try.prog ⟨3, [.data (.val (.int .u8 n_v)), .data (.slc false none 1 (List.map e_b votes)), .data (.slc false none 1 (List.map e_u8 match_v)), .data (.slc false none 1 (List.map e_u8 picks)), .data (.val (.int .u8 term)), .data (.val (.int .u8 commit))], []⟩ ⟨bv z0, []⟩ := by
  refine meets_of (O := diwanlaw10_BallotAll.O) hmix (fn := Try.f3) (code := bd3) (by kernel_rfl) ?_
  refine WK.weak (l := [(.t 0, [.data (.val (.int .u8 n_v))]), (.t 1, [.data (.slc false none 1 (List.map e_b votes))]), (.t 2, [.data (.slc false none 1 (List.map e_u8 match_v))]), (.t 3, [.data (.slc false none 1 (List.map e_u8 picks))]), (.t 4, [.data (.val (.int .u8 term))]), (.t 5, [.data (.val (.int .u8 commit))])]) (wk_of (by kernel_rfl)) ?_
  unfold diwanlaw10_BallotAll at h
  refine WK.rs (g := []) (l' := [(.t 0, [.data (.val (.int .u8 n_v))]), (.t 1, [.data (.slc false none 1 (List.map e_b votes))]), (.t 2, [.data (.slc false none 1 (List.map e_u8 match_v))]), (.t 3, [.data (.slc false none 1 (List.map e_u8 picks))]), (.t 4, [.data (.val (.int .u8 term))]), (.t 5, [.data (.val (.int .u8 commit))])]) (by kernel_rfl) .nil (by kernel_rfl) ?_
  refine WK.seq (by kernel_rfl) ?_
  obtain ⟨r2_1, h2_2, h⟩ := bd_inv h
  refine WK.rs (g := [.a ⟨bv r2_1, []⟩]) (l' := [(.t 0, [.data (.val (.int .u8 n_v))]), (.t 1, [.data (.slc false none 1 (List.map e_b votes))]), (.t 2, [.data (.slc false none 1 (List.map e_u8 match_v))]), (.t 3, [.data (.slc false none 1 (List.map e_u8 picks))]), (.t 4, [.data (.val (.int .u8 term))]), (.t 5, [.data (.val (.int .u8 commit))]), (.t 18, [bv (!r2_1)])]) (by kernel_rfl) (.cons (Asks.of (C := Meets Try.prog) (diwanlaw10_begun.meets fu _ h2_2)) .nil) (by kernel_rfl) ?_
  rcases br_inv h with ⟨b3_0, h⟩ | ⟨b3_0, h⟩
  · refine WK.ct (b := (!r2_1)) (by kernel_rfl) b3_0 ?_
    refine WK.rs (g := []) (l' := [(.t 12, [bv false])]) (by kernel_rfl) .nil (by kernel_rfl) ?_
    refine WK.weak (l := [(.t 12, [bv false])]) (wk_of (by kernel_rfl)) ?_
    refine WK.ret (by kernel_rfl) ?_
    cases some_inj h
    exact WKe.fin (e' := .ret) (by kernel_rfl) (fin_of (g := []) (by first | exact .inl rfl | exact .inr rfl) .nil (by kernel_rfl))
  · refine WK.ce (b := (!r2_1)) (by kernel_rfl) b3_0 ?_
    refine WK.skip (by kernel_rfl) ?_
    refine WKe.code (y := (cR (cR bd3))) (ks' := []) (by kernel_rfl) ?_
    refine WK.seq (by kernel_rfl) ?_
    rcases br_inv h with ⟨b5_1, h⟩ | ⟨b5_1, h⟩
    · refine WK.rs (g := [.s (.t 20) [iv (votes.length : Int)], .b true, .b true, .b true, .b true, .b true, .b true, .b true, .b true]) (l' := [(.t 0, [.data (.val (.int .u8 n_v))]), (.t 1, [.data (.slc false none 1 (List.map e_b votes))]), (.t 2, [.data (.slc false none 1 (List.map e_u8 match_v))]), (.t 3, [.data (.slc false none 1 (List.map e_u8 picks))]), (.t 4, [.data (.val (.int .u8 term))]), (.t 5, [.data (.val (.int .u8 commit))]), (.t 31, [bv true])]) (by kernel_rfl) (.cons (c_len (e := e_b) (l := votes)) (.cons b5_1 (.cons b5_1 (.cons b5_1 (.cons b5_1 (.cons (Eq.refl true) (.cons (Eq.refl true) (.cons (Eq.refl true) (.cons (Eq.refl true) .nil))))))))) (by kernel_rfl) ?_
      refine WK.ct (b := true) (by kernel_rfl) rfl ?_
      refine WK.rs (g := []) (l' := [(.t 12, [bv true])]) (by kernel_rfl) .nil (by kernel_rfl) ?_
      refine WK.weak (l := [(.t 12, [bv true])]) (wk_of (by kernel_rfl)) ?_
      refine WK.ret (by kernel_rfl) ?_
      cases some_inj h
      exact WKe.fin (e' := .ret) (by kernel_rfl) (fin_of (g := []) (by first | exact .inl rfl | exact .inr rfl) .nil (by kernel_rfl))
    · rcases br_inv h with ⟨b5_2, h⟩ | ⟨b5_2, h⟩
      · refine WK.rs (g := [.s (.t 20) [iv (votes.length : Int)], .b false, .b false, .s (.t 24) [iv (match_v.length : Int)], .b false, .b false, .b true, .b true, .b true, .b true]) (l' := [(.t 0, [.data (.val (.int .u8 n_v))]), (.t 1, [.data (.slc false none 1 (List.map e_b votes))]), (.t 2, [.data (.slc false none 1 (List.map e_u8 match_v))]), (.t 3, [.data (.slc false none 1 (List.map e_u8 picks))]), (.t 4, [.data (.val (.int .u8 term))]), (.t 5, [.data (.val (.int .u8 commit))]), (.t 31, [bv true])]) (by kernel_rfl) (.cons (c_len (e := e_b) (l := votes)) (.cons b5_1 (.cons b5_1 (.cons (c_len (e := e_u8) (l := match_v)) (.cons b5_1 (.cons b5_1 (.cons b5_2 (.cons b5_2 (.cons b5_2 (.cons b5_2 .nil)))))))))) (by kernel_rfl) ?_
        refine WK.ct (b := true) (by kernel_rfl) rfl ?_
        refine WK.rs (g := []) (l' := [(.t 12, [bv true])]) (by kernel_rfl) .nil (by kernel_rfl) ?_
        refine WK.weak (l := [(.t 12, [bv true])]) (wk_of (by kernel_rfl)) ?_
        refine WK.ret (by kernel_rfl) ?_
        cases some_inj h
        exact WKe.fin (e' := .ret) (by kernel_rfl) (fin_of (g := []) (by first | exact .inl rfl | exact .inr rfl) .nil (by kernel_rfl))
      · refine WK.rs (g := [.s (.t 20) [iv (votes.length : Int)], .b false, .b false, .s (.t 24) [iv (match_v.length : Int)], .b false, .b false, .b false, .b false, .s (.t 29) [iv (picks.length : Int)], .b false, .b false]) (l' := [(.t 0, [.data (.val (.int .u8 n_v))]), (.t 1, [.data (.slc false none 1 (List.map e_b votes))]), (.t 2, [.data (.slc false none 1 (List.map e_u8 match_v))]), (.t 3, [.data (.slc false none 1 (List.map e_u8 picks))]), (.t 4, [.data (.val (.int .u8 term))]), (.t 5, [.data (.val (.int .u8 commit))]), (.t 31, [bv (decide ((picks.length : Int) > 80))])]) (by kernel_rfl) (.cons (c_len (e := e_b) (l := votes)) (.cons b5_1 (.cons b5_1 (.cons (c_len (e := e_u8) (l := match_v)) (.cons b5_1 (.cons b5_1 (.cons b5_2 (.cons b5_2 (.cons (c_len (e := e_u8) (l := picks)) (.cons b5_2 (.cons b5_2 .nil))))))))))) (by kernel_rfl) ?_
        rcases br_inv h with ⟨b8_0, h⟩ | ⟨b8_0, h⟩
        · refine WK.ct (b := (decide ((picks.length : Int) > 80))) (by kernel_rfl) b8_0 ?_
          refine WK.rs (g := []) (l' := [(.t 12, [bv true])]) (by kernel_rfl) .nil (by kernel_rfl) ?_
          refine WK.weak (l := [(.t 12, [bv true])]) (wk_of (by kernel_rfl)) ?_
          refine WK.ret (by kernel_rfl) ?_
          cases some_inj h
          exact WKe.fin (e' := .ret) (by kernel_rfl) (fin_of (g := []) (by first | exact .inl rfl | exact .inr rfl) .nil (by kernel_rfl))
        · refine WK.ce (b := (decide ((picks.length : Int) > 80))) (by kernel_rfl) b8_0 ?_
          refine WK.skip (by kernel_rfl) ?_
          refine WKe.code (y := (cR (cR (cR bd3)))) (ks' := []) (by kernel_rfl) ?_
          refine WK.rs (g := []) (l' := [(.t 0, [.data (.val (.int .u8 n_v))]), (.t 1, [.data (.slc false none 1 (List.map e_b votes))]), (.t 2, [.data (.slc false none 1 (List.map e_u8 match_v))]), (.t 3, [.data (.slc false none 1 (List.map e_u8 picks))]), (.t 4, [.data (.val (.int .u8 term))]), (.t 5, [.data (.val (.int .u8 commit))]), (.t 13, [.data (.slc true (some true) 1 (List.map e_i64 []))])]) (by kernel_rfl) .nil (by kernel_rfl) ?_
          refine WK.seq (by kernel_rfl) ?_
          refine WK.rs (g := []) (l' := [(.t 0, [.data (.val (.int .u8 n_v))]), (.t 1, [.data (.slc false none 1 (List.map e_b votes))]), (.t 2, [.data (.slc false none 1 (List.map e_u8 match_v))]), (.t 3, [.data (.slc false none 1 (List.map e_u8 picks))]), (.t 4, [.data (.val (.int .u8 term))]), (.t 5, [.data (.val (.int .u8 commit))]), (.t 13, [.data (.slc true (some true) 1 (List.map e_i64 []))]), (.t 14, [iv 0])]) (by kernel_rfl) .nil (by kernel_rfl) ?_
          refine WK.block (n := 0) (by kernel_rfl) ?_
          obtain ⟨o17, ho17, h⟩ := bd_inv h
          refine WK.weak (l := [(.t 0, [.data (.val (.int .u8 n_v))]), (.t 1, [.data (.slc false none 1 (List.map e_b votes))]), (.t 2, [.data (.slc false none 1 (List.map e_u8 match_v))]), (.t 3, [.data (.slc false none 1 (List.map e_u8 picks))]), (.t 4, [.data (.val (.int .u8 term))]), (.t 5, [.data (.val (.int .u8 commit))]), (.t 13, [.data (.slc true none 1 (List.map e_i64 []))]), (.t 14, [iv 0])]) (wk_of (by kernel_rfl)) ?_
          refine WK.use (diwanlaw10_BallotAll.lp12_ok fu n_v votes match_v picks term commit _ [] 0 _ ho17) ?_
          intro e_ τ_ hp_
          obtain ⟨y17_0, rfl⟩ : ∃ y, y = o17 := ⟨_, rfl⟩
          obtain ⟨rfl, rfl⟩ := hp_
          refine WKe.code (y := (cR (cR (cR (cR (cR bd3)))))) (ks' := []) (by kernel_rfl) ?_
          obtain ⟨r18_1, h18_2, h⟩ := bd_inv h
          obtain ⟨⟨r18_3, r18_4⟩, h18_5, h⟩ := bd_inv h
          refine WK.rs (g := [.a ⟨.ptr 1000 0, [[.data (.slc false none 1 (List.map e_u8 r18_1.l)), iv r18_1.n]]⟩, .a ⟨.data (.slc true none 6 (List.map TEntry.en r18_3)), [[.data (.slc false none 1 (List.map e_u8 r18_4.l)), iv r18_4.n]]⟩]) (l' := [(.t 0, [.data (.val (.int .u8 n_v))]), (.t 1, [.data (.slc false none 1 (List.map e_b votes))]), (.t 4, [.data (.val (.int .u8 term))]), (.t 5, [.data (.val (.int .u8 commit))]), (.t 13, [.data (.slc true none 1 (List.map e_i64 y17_0))]), (.t 15, [.data (.slc true none 6 (List.map TEntry.en r18_3))])]) (by kernel_rfl) (.cons (Asks.of (C := Meets Try.prog) (diwanplay_Made.meets picks _ h18_2)) (.cons (Asks.of (C := Meets Try.prog) (diwanplay_Picks_Log.meets fu 8 r18_1 _ _ h18_5)) .nil)) (by kernel_rfl) ?_
          refine WK.seq (by kernel_rfl) ?_
          refine WK.rs (g := []) (l' := [(.t 0, [.data (.val (.int .u8 n_v))]), (.t 1, [.data (.slc false none 1 (List.map e_b votes))]), (.t 4, [.data (.val (.int .u8 term))]), (.t 5, [.data (.val (.int .u8 commit))]), (.t 13, [.data (.slc true none 1 (List.map e_i64 y17_0))]), (.t 15, [.data (.slc true none 6 (List.map TEntry.en r18_3))]), (.t 16, [iv 0])]) (by kernel_rfl) .nil (by kernel_rfl) ?_
          refine WK.block (n := 2) (by kernel_rfl) ?_
          obtain ⟨o27, ho27, h⟩ := bd_inv h
          refine WK.weak (l := [(.t 0, [.data (.val (.int .u8 n_v))]), (.t 1, [.data (.slc false none 1 (List.map e_b votes))]), (.t 4, [.data (.val (.int .u8 term))]), (.t 5, [.data (.val (.int .u8 commit))]), (.t 13, [.data (.slc true none 1 (List.map e_i64 y17_0))]), (.t 15, [.data (.slc true none 6 (List.map TEntry.en r18_3))]), (.t 16, [iv 0])]) (wk_of (by kernel_rfl)) ?_
          refine WK.use (diwanlaw10_BallotAll.lp20_ok fu n_v votes term commit y17_0 r18_3 _ 0 _ ho27) ?_
          intro e_ τ_ hp_
          rcases o27 with o27 | o27
          · obtain ⟨⟩ := o27
            obtain ⟨rfl, rfl⟩ := hp_
            refine WKe.code (y := (cR (cR (cR (cR (cR (cR (cR bd3)))))))) (ks' := []) (by kernel_rfl) ?_
            obtain ⟨r28_1, h28_2, h⟩ := bd_inv h
            rcases br_inv h with ⟨b28_3, h⟩ | ⟨b28_3, h⟩
            · obtain ⟨r28_4, h28_5, h⟩ := bd_inv h
              obtain ⟨r28_6, h28_7, h⟩ := bd_inv h
              rcases br_inv h with ⟨b28_8, h⟩ | ⟨b28_8, h⟩
              · obtain ⟨r28_9, h28_10, h⟩ := bd_inv h
                obtain ⟨r28_11, h28_12, h⟩ := bd_inv h
                rcases br_inv h with ⟨b28_13, h⟩ | ⟨b28_13, h⟩
                · obtain ⟨r28_14, h28_15, h⟩ := bd_inv h
                  obtain ⟨r28_16, h28_17, h⟩ := bd_inv h
                  refine WK.rs (g := [.a ⟨iv r28_1, []⟩, .b true, .b true, .a ⟨iv r28_4, []⟩, .b true, .b true, .a ⟨iv r28_6, []⟩, .b true, .b true, .b true, .b true, .a ⟨iv r28_9, []⟩, .b true, .b true, .a ⟨iv r28_11, []⟩, .b true, .b true, .b true, .b true, .b true, .b true, .b true, .b true, .b true, .a ⟨iv r28_14, []⟩, .b true, .b true, .b true, .b true, .b true, .b true, .b true, .a ⟨iv r28_16, []⟩, .b true, .b true]) (l' := [(.t 12, [bv (r28_14 == r28_16)])]) (by kernel_rfl) (.cons (Asks.of (C := Meets Try.prog) (ballot_Majority.meets (w64 n_v) _ h28_2)) (.cons (Eq.refl true) (.cons b28_3 (.cons b28_3 (.cons (Asks.of (C := Meets Try.prog) (ballot_Many.meets fu votes _ h28_5)) (.cons b28_3 (.cons b28_3 (.cons (Asks.of (C := Meets Try.prog) (diwanref1_Many.meets fu votes _ h28_7)) (.cons b28_3 (.cons b28_3 (.cons b28_8 (.cons b28_8 (.cons (Asks.of (C := Meets Try.prog) (ballot_Most.meets fu y17_0 _ h28_10)) (.cons b28_8 (.cons b28_8 (.cons (Asks.of (C := Meets Try.prog) (diwanref1_Most.meets fu y17_0 _ h28_12)) (.cons b28_8 (.cons b28_8 (.cons b28_13 (.cons b28_13 (.cons b28_13 (.cons b28_13 (.cons b28_13 (.cons b28_13 (.cons b28_13 (.cons (Asks.of (C := Meets Try.prog) (ballot_Next.meets fu y17_0 r18_3 (w64 term) (w64 commit) _ h28_15)) (.cons b28_13 (.cons b28_13 (.cons b28_13 (.cons b28_13 (.cons b28_13 (.cons b28_13 (.cons b28_13 (.cons (Asks.of (C := Meets Try.prog) (diwanref1_Next.meets fu y17_0 r18_3 (w64 term) (w64 commit) _ h28_17)) (.cons b28_13 (.cons b28_13 .nil)))))))))))))))))))))))))))))))))))) (by kernel_rfl) ?_
                  refine WK.weak (l := [(.t 12, [bv (r28_14 == r28_16)])]) (wk_of (by kernel_rfl)) ?_
                  refine WK.ret (by kernel_rfl) ?_
                  cases some_inj h
                  exact WKe.fin (e' := .ret) (by kernel_rfl) (fin_of (g := []) (by first | exact .inl rfl | exact .inr rfl) .nil (by kernel_rfl))
                · refine WK.rs (g := [.a ⟨iv r28_1, []⟩, .b true, .b true, .a ⟨iv r28_4, []⟩, .b true, .b true, .a ⟨iv r28_6, []⟩, .b true, .b true, .b true, .b true, .a ⟨iv r28_9, []⟩, .b true, .b true, .a ⟨iv r28_11, []⟩, .b true, .b true, .b false, .b false, .b false, .b false, .b false, .b false, .b false, .b false, .b false, .b false, .b false, .b false, .b false, .b false, .b false, .b false]) (l' := [(.t 12, [bv false])]) (by kernel_rfl) (.cons (Asks.of (C := Meets Try.prog) (ballot_Majority.meets (w64 n_v) _ h28_2)) (.cons (Eq.refl true) (.cons b28_3 (.cons b28_3 (.cons (Asks.of (C := Meets Try.prog) (ballot_Many.meets fu votes _ h28_5)) (.cons b28_3 (.cons b28_3 (.cons (Asks.of (C := Meets Try.prog) (diwanref1_Many.meets fu votes _ h28_7)) (.cons b28_3 (.cons b28_3 (.cons b28_8 (.cons b28_8 (.cons (Asks.of (C := Meets Try.prog) (ballot_Most.meets fu y17_0 _ h28_10)) (.cons b28_8 (.cons b28_8 (.cons (Asks.of (C := Meets Try.prog) (diwanref1_Most.meets fu y17_0 _ h28_12)) (.cons b28_8 (.cons b28_8 (.cons b28_13 (.cons b28_13 (.cons b28_13 (.cons b28_13 (.cons b28_13 (.cons b28_13 (.cons b28_13 (.cons b28_13 (.cons b28_13 (.cons b28_13 (.cons b28_13 (.cons b28_13 (.cons b28_13 (.cons b28_13 (.cons b28_13 (.cons b28_13 .nil)))))))))))))))))))))))))))))))))) (by kernel_rfl) ?_
                  refine WK.weak (l := [(.t 12, [bv false])]) (wk_of (by kernel_rfl)) ?_
                  refine WK.ret (by kernel_rfl) ?_
                  cases some_inj h
                  exact WKe.fin (e' := .ret) (by kernel_rfl) (fin_of (g := []) (by first | exact .inl rfl | exact .inr rfl) .nil (by kernel_rfl))
              · refine WK.rs (g := [.a ⟨iv r28_1, []⟩, .b true, .b true, .a ⟨iv r28_4, []⟩, .b true, .b true, .a ⟨iv r28_6, []⟩, .b true, .b true, .b false, .b false, .b false, .b false, .b false, .b false, .b false, .b false, .b false, .b false, .b false, .b false, .b false, .b false, .b false, .b false, .b false, .b false, .b false, .b false, .b false, .b false]) (l' := [(.t 12, [bv false])]) (by kernel_rfl) (.cons (Asks.of (C := Meets Try.prog) (ballot_Majority.meets (w64 n_v) _ h28_2)) (.cons (Eq.refl true) (.cons b28_3 (.cons b28_3 (.cons (Asks.of (C := Meets Try.prog) (ballot_Many.meets fu votes _ h28_5)) (.cons b28_3 (.cons b28_3 (.cons (Asks.of (C := Meets Try.prog) (diwanref1_Many.meets fu votes _ h28_7)) (.cons b28_3 (.cons b28_3 (.cons b28_8 (.cons b28_8 (.cons b28_8 (.cons b28_8 (.cons b28_8 (.cons b28_8 (.cons (Eq.refl false) (.cons (Eq.refl false) (.cons (Eq.refl false) (.cons (Eq.refl false) (.cons (Eq.refl false) (.cons (Eq.refl false) (.cons (Eq.refl false) (.cons (Eq.refl false) (.cons (Eq.refl false) (.cons (Eq.refl false) (.cons (Eq.refl false) (.cons (Eq.refl false) (.cons (Eq.refl false) (.cons (Eq.refl false) (.cons (Eq.refl false) (.cons (Eq.refl false) .nil)))))))))))))))))))))))))))))))) (by kernel_rfl) ?_
                refine WK.weak (l := [(.t 12, [bv false])]) (wk_of (by kernel_rfl)) ?_
                refine WK.ret (by kernel_rfl) ?_
                cases some_inj h
                exact WKe.fin (e' := .ret) (by kernel_rfl) (fin_of (g := []) (by first | exact .inl rfl | exact .inr rfl) .nil (by kernel_rfl))
            · refine WK.rs (g := [.a ⟨iv r28_1, []⟩, .b false, .b false, .b false, .b false, .b false, .b false, .b false, .b false, .b false, .b false, .b false, .b false, .b false, .b false, .b false, .b false, .b false, .b false, .b false, .b false, .b false, .b false, .b false, .b false, .b false, .b false, .b false, .b false]) (l' := [(.t 12, [bv false])]) (by kernel_rfl) (.cons (Asks.of (C := Meets Try.prog) (ballot_Majority.meets (w64 n_v) _ h28_2)) (.cons (Eq.refl true) (.cons b28_3 (.cons b28_3 (.cons b28_3 (.cons b28_3 (.cons b28_3 (.cons b28_3 (.cons (Eq.refl false) (.cons (Eq.refl false) (.cons (Eq.refl false) (.cons (Eq.refl false) (.cons (Eq.refl false) (.cons (Eq.refl false) (.cons (Eq.refl false) (.cons (Eq.refl false) (.cons (Eq.refl false) (.cons (Eq.refl false) (.cons (Eq.refl false) (.cons (Eq.refl false) (.cons (Eq.refl false) (.cons (Eq.refl false) (.cons (Eq.refl false) (.cons (Eq.refl false) (.cons (Eq.refl false) (.cons (Eq.refl false) (.cons (Eq.refl false) (.cons (Eq.refl false) (.cons (Eq.refl false) (.cons (Eq.refl false) .nil)))))))))))))))))))))))))))))) (by kernel_rfl) ?_
              refine WK.weak (l := [(.t 12, [bv false])]) (wk_of (by kernel_rfl)) ?_
              refine WK.ret (by kernel_rfl) ?_
              cases some_inj h
              exact WKe.fin (e' := .ret) (by kernel_rfl) (fin_of (g := []) (by first | exact .inl rfl | exact .inr rfl) .nil (by kernel_rfl))
          · obtain ⟨⟩ := o27
            obtain ⟨rfl, rfl⟩ := hp_
            cases some_inj h
            exact WKe.fin (e' := .ret) (by kernel_rfl) (fin_of (g := []) (by first | exact .inl rfl | exact .inr rfl) .nil (by kernel_rfl))
end Go.Proofs.Ytfhnapifgniiiaa.Told
