/- Functions of the program told as Lean functions, with the walks of their code in the machine by value. -/
import Derived.Test.YtjahlppmahjplaaProg
import Derived.Test.YtjahlppmahjplaaVam2
import Derived.Test.YtjahlppmahjplaaIns49
namespace Go.Proofs.Ytjahlppmahjplaa.Told
open Go Go.Proofs Go.Proofs.Ytjahlppmahjplaa Go.Proofs.Ytjahlppmahjplaa.Vam
set_option linter.unusedVariables false
set_option maxRecDepth 100000
theorem hmix : Try.prog.follows .mixedOrders = true := by kernel_rfl
structure TWrite where
  Key : ByteArray
  Val : ByteArray
  Gone : Bool
def TWrite.en (x : TWrite) : List DV := [.val (.string x.Key), .val (.string x.Val), .val (.bool x.Gone)]
structure TVersion where
  Pos : Int
  Val : ByteArray
  Gone : Bool
def TVersion.en (x : TVersion) : List DV := [.val (.int .i64 x.Pos), .val (.string x.Val), .val (.bool x.Gone)]
structure TChain where
  Key : ByteArray
  L : (List TVersion)
def TChain.en (x : TChain) : List DV := [.val (.string x.Key), .slc false none 3 (List.map TVersion.en x.L)]
structure TStore where
  Chains : (List TChain)
  Mark : Int
def TStore.en (x : TStore) : List DV := [.slc false none 2 (List.map TChain.en x.Chains), .val (.int .i64 x.Mark)]
structure TRead where
  Key : ByteArray
  Version : Int
  Val : ByteArray
  There : Bool
def TRead.en (x : TRead) : List DV := [.val (.string x.Key), .val (.int .i64 x.Version), .val (.string x.Val), .val (.bool x.There)]
structure TPicks where
  l : (List Int)
  n : Int
def TPicks.en (x : TPicks) : List DV := [.slc false none 1 (List.map e_u8 x.l), .val (.int .i64 x.n)]
structure TTxn where
  Session : Int
  Seq : Int
  Reads : (List TRead)
  Writes : (List TWrite)
def TTxn.en (x : TTxn) : List DV := [.val (.int .i64 x.Session), .val (.int .i64 x.Seq), .slc false none 4 (List.map TRead.en x.Reads), .slc false none 3 (List.map TWrite.en x.Writes)]
def TTxn.ag_0011 (x : TTxn) : DV := .agg [.val (.int .i64 x.Session), .val (.int .i64 x.Seq), .slc true none 4 (List.map TRead.en x.Reads), .slc true none 3 (List.map TWrite.en x.Writes)]
def TTxn.ob_0011 (x : TTxn) : List AV := [.data (.val (.int .i64 x.Session)), .data (.val (.int .i64 x.Seq)), .data (.slc true none 4 (List.map TRead.en x.Reads)), .data (.slc true none 3 (List.map TWrite.en x.Writes))]
def TRead.ag (x : TRead) : DV := .agg [.val (.string x.Key), .val (.int .i64 x.Version), .val (.string x.Val), .val (.bool x.There)]
def TRead.ob (x : TRead) : List AV := [.data (.val (.string x.Key)), .data (.val (.int .i64 x.Version)), .data (.val (.string x.Val)), .data (.val (.bool x.There))]
def TVersion.ag (x : TVersion) : DV := .agg [.val (.int .i64 x.Pos), .val (.string x.Val), .val (.bool x.Gone)]
def TVersion.ob (x : TVersion) : List AV := [.data (.val (.int .i64 x.Pos)), .data (.val (.string x.Val)), .data (.val (.bool x.Gone))]
def TWrite.ob (x : TWrite) : List AV := [.data (.val (.string x.Key)), .data (.val (.string x.Val)), .data (.val (.bool x.Gone))]
/-- slices.Clone[[]diwan/api.Chain,diwan/api.Chain] -/
noncomputable def bd58 : Code := (Try.f58.body).getD .skip
def slices_Clone_api_Chain.O : Nat → Nat := fun t => bif ([2, 5] : List Nat).any (Nat.beq t) then 1 else 0
noncomputable def slices_Clone_api_Chain (s : List TChain) : Option (List TChain) :=
  gd (decide (([] : List TChain).length + s.length ≤ 4294967296)) <|
  some s
theorem slices_Clone_api_Chain.meets1 (s : List TChain) (z0 : List TChain) (h : slices_Clone_api_Chain s = some z0) : Meets Try.prog ⟨58, [.data (.slc false (some false) 2 (List.map TChain.en s))], []⟩ ⟨.data (.slc true none 2 (List.map TChain.en z0)), []⟩ := by
  refine meets_of (O := slices_Clone_api_Chain.O) hmix (fn := Try.f58) (code := bd58) (by kernel_rfl) ?_
  refine WK.weak (l := [(.t 0, [.data (.slc false (some false) 2 (List.map TChain.en s))])]) (wk_of (by kernel_rfl)) ?_
  unfold slices_Clone_api_Chain at h
  refine WK.rs (g := []) (l' := [(.t 0, [.data (.slc false (some false) 2 (List.map TChain.en s))])]) (by kernel_rfl) .nil (by kernel_rfl) ?_
  refine WK.seq (by kernel_rfl) ?_
  refine WK.rs (g := []) (l' := [(.t 0, [.data (.slc false (some false) 2 (List.map TChain.en s))]), (.t 4, [bv false])]) (by kernel_rfl) .nil (by kernel_rfl) ?_
  refine WK.ce (b := false) (by kernel_rfl) rfl ?_
  refine WK.skip (by kernel_rfl) ?_
  refine WKe.code (y := (cR (cR bd58))) (ks' := []) (by kernel_rfl) ?_
  obtain ⟨c5_1, h⟩ := gd_inv h
  refine WK.rs (g := []) (l' := [(.t 2, [.data (.slc true none 2 (List.map TChain.en s))])]) (by kernel_rfl) (.cons (c_al (e := TChain.en) (f := TChain.en) c5_1) .nil) (by kernel_rfl) ?_
  refine WK.weak (l := [(.t 2, [.data (.slc true none 2 (List.map TChain.en s))])]) (wk_of (by kernel_rfl)) ?_
  refine WK.ret (by kernel_rfl) ?_
  have h_ := some_inj h
  subst h_
  exact WKe.fin (e' := .ret) (by kernel_rfl) (fin_of (g := []) (by first | exact .inl rfl | exact .inr rfl) .nil (by kernel_rfl))
noncomputable def slices_Clone_api_Chain_nil : Option (List TChain) :=
  some []
theorem slices_Clone_api_Chain.meets0 (z0 : List TChain) (h : slices_Clone_api_Chain_nil = some z0) : Meets Try.prog ⟨58, [.data (.slc false (some true) 2 (List.map TChain.en []))], []⟩ ⟨.data (.slc true none 2 (List.map TChain.en z0)), []⟩ := by
  refine meets_of (O := slices_Clone_api_Chain.O) hmix (fn := Try.f58) (code := bd58) (by kernel_rfl) ?_
  refine WK.weak (l := [(.t 0, [.data (.slc false (some true) 2 (List.map TChain.en []))])]) (wk_of (by kernel_rfl)) ?_
  unfold slices_Clone_api_Chain_nil at h
  refine WK.rs (g := []) (l' := [(.t 0, [.data (.slc false (some true) 2 (List.map TChain.en []))])]) (by kernel_rfl) .nil (by kernel_rfl) ?_
  refine WK.seq (by kernel_rfl) ?_
  refine WK.rs (g := []) (l' := [(.t 0, [.data (.slc false (some true) 2 (List.map TChain.en []))]), (.t 4, [bv true])]) (by kernel_rfl) .nil (by kernel_rfl) ?_
  refine WK.ct (b := true) (by kernel_rfl) rfl ?_
  refine WK.rs (g := []) (l' := [(.t 2, [.data (.slc true (some true) 2 (List.map TChain.en []))])]) (by kernel_rfl) .nil (by kernel_rfl) ?_
  refine WK.weak (l := [(.t 2, [.data (.slc true none 2 (List.map TChain.en []))])]) (wk_of (by kernel_rfl)) ?_
  refine WK.ret (by kernel_rfl) ?_
  have h_ := some_inj h
  subst h_
  exact WKe.fin (e' := .ret) (by kernel_rfl) (fin_of (g := []) (by first | exact .inl rfl | exact .inr rfl) .nil (by kernel_rfl))
theorem slices_Clone_api_Chain.nil_eq : slices_Clone_api_Chain [] = slices_Clone_api_Chain_nil := by kernel_rfl
theorem slices_Clone_api_Chain.meets (s : List TChain) (z0 : List TChain) (h : slices_Clone_api_Chain s = some z0) : Meets Try.prog ⟨58, [.data (.slc false none 2 (List.map TChain.en s))], []⟩ ⟨.data (.slc true none 2 (List.map TChain.en z0)), []⟩ := by
  refine asks_ok (C := Meets Try.prog) (fun _ _ h => h) (Asks.nil (args1 := []) (args2 := []) (sz := 2) (es := List.map TChain.en s) (fun e => .of ?_) (.of (slices_Clone_api_Chain.meets1 s z0 h)))
  obtain rfl : s = [] := List.map_eq_nil_iff.1 e
  exact slices_Clone_api_Chain.meets0 z0 (slices_Clone_api_Chain.nil_eq  ▸ h)
/-- slices.Clone[[]diwan/api.Version,diwan/api.Version] -/
noncomputable def bd59 : Code := (Try.f59.body).getD .skip
def slices_Clone_api_Version.O : Nat → Nat := fun t => bif ([2, 5] : List Nat).any (Nat.beq t) then 1 else 0
noncomputable def slices_Clone_api_Version (s : List TVersion) : Option (List TVersion) :=
  gd (decide (([] : List TVersion).length + s.length ≤ 4294967296)) <|
  some s
theorem slices_Clone_api_Version.meets1 (s : List TVersion) (z0 : List TVersion) (h : slices_Clone_api_Version s = some z0) : Meets Try.prog ⟨59, [.data (.slc false (some false) 3 (List.map TVersion.en s))], []⟩ ⟨.data (.slc true none 3 (List.map TVersion.en z0)), []⟩ := by
  refine meets_of (O := slices_Clone_api_Version.O) hmix (fn := Try.f59) (code := bd59) (by kernel_rfl) ?_
  refine WK.weak (l := [(.t 0, [.data (.slc false (some false) 3 (List.map TVersion.en s))])]) (wk_of (by kernel_rfl)) ?_
  unfold slices_Clone_api_Version at h
  refine WK.rs (g := []) (l' := [(.t 0, [.data (.slc false (some false) 3 (List.map TVersion.en s))])]) (by kernel_rfl) .nil (by kernel_rfl) ?_
  refine WK.seq (by kernel_rfl) ?_
  refine WK.rs (g := []) (l' := [(.t 0, [.data (.slc false (some false) 3 (List.map TVersion.en s))]), (.t 4, [bv false])]) (by kernel_rfl) .nil (by kernel_rfl) ?_
  refine WK.ce (b := false) (by kernel_rfl) rfl ?_
  refine WK.skip (by kernel_rfl) ?_
  refine WKe.code (y := (cR (cR bd59))) (ks' := []) (by kernel_rfl) ?_
  obtain ⟨c5_1, h⟩ := gd_inv h
  refine WK.rs (g := []) (l' := [(.t 2, [.data (.slc true none 3 (List.map TVersion.en s))])]) (by kernel_rfl) (.cons (c_al (e := TVersion.en) (f := TVersion.en) c5_1) .nil) (by kernel_rfl) ?_
  refine WK.weak (l := [(.t 2, [.data (.slc true none 3 (List.map TVersion.en s))])]) (wk_of (by kernel_rfl)) ?_
  refine WK.ret (by kernel_rfl) ?_
  have h_ := some_inj h
  subst h_
  exact WKe.fin (e' := .ret) (by kernel_rfl) (fin_of (g := []) (by first | exact .inl rfl | exact .inr rfl) .nil (by kernel_rfl))
noncomputable def slices_Clone_api_Version_nil : Option (List TVersion) :=
  some []
theorem slices_Clone_api_Version.meets0 (z0 : List TVersion) (h : slices_Clone_api_Version_nil = some z0) : Meets Try.prog ⟨59, [.data (.slc false (some true) 3 (List.map TVersion.en []))], []⟩ ⟨.data (.slc true none 3 (List.map TVersion.en z0)), []⟩ := by
  refine meets_of (O := slices_Clone_api_Version.O) hmix (fn := Try.f59) (code := bd59) (by kernel_rfl) ?_
  refine WK.weak (l := [(.t 0, [.data (.slc false (some true) 3 (List.map TVersion.en []))])]) (wk_of (by kernel_rfl)) ?_
  unfold slices_Clone_api_Version_nil at h
  refine WK.rs (g := []) (l' := [(.t 0, [.data (.slc false (some true) 3 (List.map TVersion.en []))])]) (by kernel_rfl) .nil (by kernel_rfl) ?_
  refine WK.seq (by kernel_rfl) ?_
  refine WK.rs (g := []) (l' := [(.t 0, [.data (.slc false (some true) 3 (List.map TVersion.en []))]), (.t 4, [bv true])]) (by kernel_rfl) .nil (by kernel_rfl) ?_
  refine WK.ct (b := true) (by kernel_rfl) rfl ?_
  refine WK.rs (g := []) (l' := [(.t 2, [.data (.slc true (some true) 3 (List.map TVersion.en []))])]) (by kernel_rfl) .nil (by kernel_rfl) ?_
  refine WK.weak (l := [(.t 2, [.data (.slc true none 3 (List.map TVersion.en []))])]) (wk_of (by kernel_rfl)) ?_
  refine WK.ret (by kernel_rfl) ?_
  have h_ := some_inj h
  subst h_
  exact WKe.fin (e' := .ret) (by kernel_rfl) (fin_of (g := []) (by first | exact .inl rfl | exact .inr rfl) .nil (by kernel_rfl))
theorem slices_Clone_api_Version.nil_eq : slices_Clone_api_Version [] = slices_Clone_api_Version_nil := by kernel_rfl
theorem slices_Clone_api_Version.meets (s : List TVersion) (z0 : List TVersion) (h : slices_Clone_api_Version s = some z0) : Meets Try.prog ⟨59, [.data (.slc false none 3 (List.map TVersion.en s))], []⟩ ⟨.data (.slc true none 3 (List.map TVersion.en z0)), []⟩ := by
  refine asks_ok (C := Meets Try.prog) (fun _ _ h => h) (Asks.nil (args1 := []) (args2 := []) (sz := 3) (es := List.map TVersion.en s) (fun e => .of ?_) (.of (slices_Clone_api_Version.meets1 s z0 h)))
  obtain rfl : s = [] := List.map_eq_nil_iff.1 e
  exact slices_Clone_api_Version.meets0 z0 (slices_Clone_api_Version.nil_eq  ▸ h)
/-- diwan/store.twin -/
noncomputable def bd44 : Code := (Try.f44.body).getD .skip
def store_twin.O : Nat → Nat := fun t => bif ([1, 2, 3, 4, 7, 26] : List Nat).any (Nat.beq t) then 1 else bif ([22] : List Nat).any (Nat.beq t) then 2 else 0
noncomputable def store_twin.lp4 (fu : Nat) (l4_0 : Int) (l4_3 : TStore) : Nat → Int → TStore → Option TStore
  | 0, _, _ => none
  | n_ + 1, l4_1, l4_2 =>
    br (decide (l4_1 < l4_0))
      (ix l4_2.Chains l4_1 fun x7_1 =>
      bd (slices_Clone_api_Version x7_1.L) fun r8_1 =>
      ix l4_2.Chains l4_1 fun x8_3 =>
      store_twin.lp4 fu l4_0 l4_3 n_ (w64 (l4_1 + 1)) (TStore.mk (l4_2.Chains.set l4_1.toNat (TChain.mk x8_3.Key r8_1)) l4_2.Mark))
      (some l4_2)
noncomputable def store_twin.lp4_post (l4_0 : Int) (l4_3 : TStore) (r_ : TStore) : Wy → St → Prop := fun e τ => match r_ with
  | y0 => e = .exit 0 ∧ τ = ofL [(.t 1, [.ptr 1 0]), (.t 2, [.ptr 2 0]), (.o 1, [.data (.slc true none 2 (List.map TChain.en y0.Chains)), iv y0.Mark]), (.o 2, [.data (.slc true none 2 (List.map TChain.en l4_3.Chains)), iv l4_3.Mark])]
theorem store_twin.lp4_ok (fu : Nat) (l4_0 : Int) (l4_3 : TStore) : ∀ (n_ : Nat) (l4_1 : Int) (l4_2 : TStore) (r_ : TStore), store_twin.lp4 fu l4_0 l4_3 n_ l4_1 l4_2 = some r_ → WK Try.prog store_twin.O (Ck Try.prog) (cB (cR (cL (cR (cR bd44))))) [] (ofL [(.t 1, [.ptr 1 0]), (.t 2, [.ptr 2 0]), (.t 10, [.ref (.o 1) 0 0 none]), (.t 11, [iv l4_0]), (.t 12, [iv l4_1]), (.o 1, [.data (.slc true none 2 (List.map TChain.en l4_2.Chains)), iv l4_2.Mark]), (.o 2, [.data (.slc true none 2 (List.map TChain.en l4_3.Chains)), iv l4_3.Mark])]) (store_twin.lp4_post l4_0 l4_3 r_) := by
  intro n_
  induction n_ with
  | zero => intro l4_1 l4_2 r_ h; exact no_none h
  | succ n_ ih =>
    intro l4_1 l4_2 r_ h
    refine WK.loop (by kernel_rfl) ?_
    refine WK.rs (g := []) (l' := [(.t 1, [.ptr 1 0]), (.t 2, [.ptr 2 0]), (.t 10, [.ref (.o 1) 0 0 none]), (.t 11, [iv l4_0]), (.t 12, [iv l4_1]), (.t 13, [bv (decide (l4_1 < l4_0))]), (.o 1, [.data (.slc true none 2 (List.map TChain.en l4_2.Chains)), iv l4_2.Mark]), (.o 2, [.data (.slc true none 2 (List.map TChain.en l4_3.Chains)), iv l4_3.Mark])]) (by kernel_rfl) .nil (by kernel_rfl) ?_
    refine WK.seq (by kernel_rfl) ?_
    rcases br_inv h with ⟨b6_0, h⟩ | ⟨b6_0, h⟩
    · refine WK.ct (b := (decide (l4_1 < l4_0))) (by kernel_rfl) b6_0 ?_
      refine WK.skip (by kernel_rfl) ?_
      refine WKe.code (y := (cR (cR (cB (cB (cR (cL (cR (cR bd44))))))))) (ks' := [.lp (cB (cR (cL (cR (cR bd44)))))]) (by kernel_rfl) ?_
      refine WK.seq (by kernel_rfl) ?_
      refine WK.block (n := 1) (by kernel_rfl) ?_
      obtain ⟨x7_1, a7_2, e7_3, h⟩ := ix_inv h
      refine WK.rs (g := [.c (TChain.en x7_1)]) (l' := [(.t 1, [.ptr 1 0]), (.t 2, [.ptr 2 0]), (.t 3, [iv l4_1]), (.t 4, [.ptr 4 0]), (.t 10, [.ref (.o 1) 0 0 none]), (.t 11, [iv l4_0]), (.t 12, [iv l4_1]), (.o 1, [.data (.slc true none 2 (List.map TChain.en l4_2.Chains)), iv l4_2.Mark]), (.o 2, [.data (.slc true none 2 (List.map TChain.en l4_3.Chains)), iv l4_3.Mark]), (.o 4, [sv x7_1.Key, .data (.slc false none 3 (List.map TVersion.en x7_1.L))])]) (by kernel_rfl) (.cons (c_ix (e := TChain.en) a7_2 e7_3) (.cons (c_el (e := TChain.en) e7_3) .nil)) (by kernel_rfl) ?_
      obtain ⟨r8_1, h8_2, h⟩ := bd_inv h
      obtain ⟨x8_3, a8_4, e8_5, h⟩ := ix_inv h
      refine WK.rc (g := [.a ⟨.data (.slc true none 3 (List.map TVersion.en r8_1)), []⟩, .c (TChain.en x8_3), .s (.o 1) [.data (.slc true none 2 (List.map TChain.en (l4_2.Chains.set l4_1.toNat (TChain.mk x8_3.Key r8_1)))), iv l4_2.Mark]]) (l' := [(.t 1, [.ptr 1 0]), (.t 2, [.ptr 2 0]), (.t 10, [.ref (.o 1) 0 0 none]), (.t 11, [iv l4_0]), (.t 12, [iv l4_1]), (.o 1, [.data (.slc true none 2 (List.map TChain.en (l4_2.Chains.set l4_1.toNat (TChain.mk x8_3.Key r8_1)))), iv l4_2.Mark]), (.o 2, [.data (.slc true none 2 (List.map TChain.en l4_3.Chains)), iv l4_3.Mark])]) (.cons (Asks.of (C := Meets Try.prog) (slices_Clone_api_Version.meets x7_1.L _ h8_2)) (.cons (c_ix (e := TChain.en) a8_4 e8_5) (.cons (c_el (e := TChain.en) e8_5) (.cons (congrArg (fun d : DV => [AV.data d, iv l4_2.Mark]) (c_set (e := TChain.en) (s := 2) (nl := none) (l := l4_2.Chains) (i := l4_1.toNat) (x := (TChain.mk x8_3.Key r8_1)))) (.cons (Eq.refl true) .nil))))) (by kernel_rfl) (y := (cR (cR (cR (cB (cB (cR (cL (cR (cR bd44)))))))))) (ks' := [.lp (cB (cR (cL (cR (cR bd44)))))]) (by kernel_rfl) ?_
      refine WK.rc (g := []) (l' := [(.t 1, [.ptr 1 0]), (.t 2, [.ptr 2 0]), (.t 10, [.ref (.o 1) 0 0 none]), (.t 11, [iv l4_0]), (.t 12, [iv (w64 (l4_1 + 1))]), (.o 1, [.data (.slc true none 2 (List.map TChain.en (l4_2.Chains.set l4_1.toNat (TChain.mk x8_3.Key r8_1)))), iv l4_2.Mark]), (.o 2, [.data (.slc true none 2 (List.map TChain.en l4_3.Chains)), iv l4_3.Mark])]) .nil (by kernel_rfl) (y := (cB (cR (cL (cR (cR bd44)))))) (ks' := []) (by kernel_rfl) ?_
      exact WK.weak (l := [(.t 1, [.ptr 1 0]), (.t 2, [.ptr 2 0]), (.t 10, [.ref (.o 1) 0 0 none]), (.t 11, [iv l4_0]), (.t 12, [iv (w64 (l4_1 + 1))]), (.o 1, [.data (.slc true none 2 (List.map TChain.en (l4_2.Chains.set l4_1.toNat (TChain.mk x8_3.Key r8_1)))), iv l4_2.Mark]), (.o 2, [.data (.slc true none 2 (List.map TChain.en l4_3.Chains)), iv l4_3.Mark])]) (wk_of (by kernel_rfl)) (ih (w64 (l4_1 + 1)) (TStore.mk (l4_2.Chains.set l4_1.toNat (TChain.mk x8_3.Key r8_1)) l4_2.Mark) _ h)
    · refine WK.ce (b := (decide (l4_1 < l4_0))) (by kernel_rfl) b6_0 ?_
      refine WK.weak (l := [(.t 1, [.ptr 1 0]), (.t 2, [.ptr 2 0]), (.o 1, [.data (.slc true none 2 (List.map TChain.en l4_2.Chains)), iv l4_2.Mark]), (.o 2, [.data (.slc true none 2 (List.map TChain.en l4_3.Chains)), iv l4_3.Mark])]) (wk_of (by kernel_rfl)) ?_
      refine WK.exit (n := 0) (by kernel_rfl) ?_
      cases some_inj h
      exact WKe.fin (e' := .exit 0) (by kernel_rfl) ⟨rfl, rfl⟩
noncomputable def store_twin (fu : Nat) (s : TStore) : Option TStore :=
  bd (slices_Clone_api_Chain s.Chains) fun r2_1 =>
  bd (store_twin.lp4 fu (r2_1.length : Int) (TStore.mk [] 0) fu 0 (TStore.mk r2_1 s.Mark)) fun y10_0 =>
  some y10_0
theorem store_twin.meets (fu : Nat) (s : TStore) (z0 : TStore) (h : store_twin fu s = some z0) : Meets Try.prog ⟨44, [.data (.agg [.slc false none 2 (List.map TChain.en s.Chains), .val (.int .i64 s.Mark)])], []⟩ ⟨.data (.agg [.slc true none 2 (List.map TChain.en z0.Chains), .val (.int .i64 z0.Mark)]), []⟩ := by
  refine meets_of (O := store_twin.O) hmix (fn := Try.f44) (code := bd44) (by kernel_rfl) ?_
  refine WK.weak (l := [(.t 0, [.data (.agg [.slc false none 2 (List.map TChain.en s.Chains), .val (.int .i64 s.Mark)])])]) (wk_of (by kernel_rfl)) ?_
  unfold store_twin at h
  refine WK.rs (g := []) (l' := [(.t 1, [.ptr 1 0]), (.t 2, [.ptr 2 0]), (.o 1, [.data (.slc false none 2 (List.map TChain.en s.Chains)), iv s.Mark]), (.o 2, [.data (.slc true none 2 (List.map TChain.en [])), iv 0])]) (by kernel_rfl) .nil (by kernel_rfl) ?_
  obtain ⟨r2_1, h2_2, h⟩ := bd_inv h
  refine WK.rs (g := [.a ⟨.data (.slc true none 2 (List.map TChain.en r2_1)), []⟩]) (l' := [(.t 1, [.ptr 1 0]), (.t 2, [.ptr 2 0]), (.o 1, [.data (.slc true none 2 (List.map TChain.en r2_1)), iv s.Mark]), (.o 2, [.data (.slc true none 2 (List.map TChain.en [])), iv 0])]) (by kernel_rfl) (.cons (Asks.of (C := Meets Try.prog) (slices_Clone_api_Chain.meets s.Chains _ h2_2)) .nil) (by kernel_rfl) ?_
  refine WK.seq (by kernel_rfl) ?_
  refine WK.rs (g := [.s (.t 11) [iv (r2_1.length : Int)]]) (l' := [(.t 1, [.ptr 1 0]), (.t 2, [.ptr 2 0]), (.t 10, [.ref (.o 1) 0 0 none]), (.t 11, [iv (r2_1.length : Int)]), (.t 12, [iv 0]), (.o 1, [.data (.slc true none 2 (List.map TChain.en r2_1)), iv s.Mark]), (.o 2, [.data (.slc true none 2 (List.map TChain.en [])), iv 0])]) (by kernel_rfl) (.cons (c_len (e := TChain.en) (l := r2_1)) .nil) (by kernel_rfl) ?_
  refine WK.block (n := 0) (by kernel_rfl) ?_
  obtain ⟨o10, ho10, h⟩ := bd_inv h
  refine WK.weak (l := [(.t 1, [.ptr 1 0]), (.t 2, [.ptr 2 0]), (.t 10, [.ref (.o 1) 0 0 none]), (.t 11, [iv (r2_1.length : Int)]), (.t 12, [iv 0]), (.o 1, [.data (.slc true none 2 (List.map TChain.en r2_1)), iv s.Mark]), (.o 2, [.data (.slc true none 2 (List.map TChain.en [])), iv 0])]) (wk_of (by kernel_rfl)) ?_
  refine WK.use (store_twin.lp4_ok fu (r2_1.length : Int) (TStore.mk [] 0) _ 0 (TStore.mk r2_1 s.Mark) _ ho10) ?_
  intro e_ τ_ hp_
  obtain ⟨y10_0, rfl⟩ : ∃ y, y = o10 := ⟨_, rfl⟩
  obtain ⟨rfl, rfl⟩ := hp_
  refine WKe.code (y := (cR (cR (cR bd44)))) (ks' := []) (by kernel_rfl) ?_
  refine WK.rs (g := []) (l' := [(.t 2, [.ptr 2 0]), (.o 2, [.data (.slc true none 2 (List.map TChain.en y10_0.Chains)), iv y10_0.Mark])]) (by kernel_rfl) .nil (by kernel_rfl) ?_
  refine WK.weak (l := [(.t 2, [.ptr 2 0]), (.o 2, [.data (.slc true none 2 (List.map TChain.en y10_0.Chains)), iv y10_0.Mark])]) (wk_of (by kernel_rfl)) ?_
  refine WK.ret (by kernel_rfl) ?_
  have h_ := some_inj h
  subst h_
  exact WKe.fin (e' := .ret) (by kernel_rfl) (fin_of (g := []) (by first | exact .inl rfl | exact .inr rfl) .nil (by kernel_rfl))
/-- (diwan/store.keeper).find$1 -/
noncomputable def bd62 : Code := (Try.f62.body).getD .skip
def store_keeper_find_1.O : Nat → Nat := fun t => bif ([2, 4, 5, 10] : List Nat).any (Nat.beq t) then 1 else 0
noncomputable def store_keeper_find_1 (c : TChain) (k_v : ByteArray) : Option Int :=
  br (Op.bytesLess c.Key.toList k_v.toList)
    (some (-1))
    (br (!((Op.bytesLess c.Key.toList k_v.toList) || (c.Key.toList == k_v.toList)))
      (some 1)
      (some 0))
theorem store_keeper_find_1.meets (c : TChain) (k_v : ByteArray) (z0 : Int) (h : store_keeper_find_1 c k_v = some z0) : Meets Try.prog ⟨62, [.data (.agg [.val (.string c.Key), .slc false none 3 (List.map TVersion.en c.L)]), sv k_v], []⟩ ⟨iv z0, []⟩ := by
  refine meets_of (O := store_keeper_find_1.O) hmix (fn := Try.f62) (code := bd62) (by kernel_rfl) ?_
  refine WK.weak (l := [(.t 0, [.data (.agg [.val (.string c.Key), .slc false none 3 (List.map TVersion.en c.L)])]), (.t 1, [sv k_v])]) (wk_of (by kernel_rfl)) ?_
  unfold store_keeper_find_1 at h
  refine WK.rs (g := []) (l' := [(.t 1, [sv k_v]), (.t 2, [.ptr 2 0]), (.o 2, [sv c.Key, .data (.slc false none 3 (List.map TVersion.en c.L))])]) (by kernel_rfl) .nil (by kernel_rfl) ?_
  refine WK.seq (by kernel_rfl) ?_
  refine WK.block (n := 0) (by kernel_rfl) ?_
  refine WK.rs (g := []) (l' := [(.t 1, [sv k_v]), (.t 2, [.ptr 2 0]), (.t 5, [bv (Op.bytesLess c.Key.toList k_v.toList)]), (.o 2, [sv c.Key, .data (.slc false none 3 (List.map TVersion.en c.L))])]) (by kernel_rfl) .nil (by kernel_rfl) ?_
  rcases br_inv h with ⟨b3_0, h⟩ | ⟨b3_0, h⟩
  · refine WK.ct (b := (Op.bytesLess c.Key.toList k_v.toList)) (by kernel_rfl) b3_0 ?_
    refine WK.rs (g := []) (l' := [(.t 4, [iv (-1)])]) (by kernel_rfl) .nil (by kernel_rfl) ?_
    refine WK.weak (l := [(.t 4, [iv (-1)])]) (wk_of (by kernel_rfl)) ?_
    refine WK.ret (by kernel_rfl) ?_
    have h_ := some_inj h
    subst h_
    exact WKe.fin (e' := .ret) (by kernel_rfl) (fin_of (g := []) (by first | exact .inl rfl | exact .inr rfl) .nil (by kernel_rfl))
  · refine WK.ce (b := (Op.bytesLess c.Key.toList k_v.toList)) (by kernel_rfl) b3_0 ?_
    refine WK.rs (g := []) (l' := [(.t 10, [bv (!((Op.bytesLess c.Key.toList k_v.toList) || (c.Key.toList == k_v.toList)))])]) (by kernel_rfl) .nil (by kernel_rfl) ?_
    rcases br_inv h with ⟨b6_0, h⟩ | ⟨b6_0, h⟩
    · refine WK.ct (b := (!((Op.bytesLess c.Key.toList k_v.toList) || (c.Key.toList == k_v.toList)))) (by kernel_rfl) b6_0 ?_
      refine WK.rs (g := []) (l' := [(.t 4, [iv 1])]) (by kernel_rfl) .nil (by kernel_rfl) ?_
      refine WK.weak (l := [(.t 4, [iv 1])]) (wk_of (by kernel_rfl)) ?_
      refine WK.ret (by kernel_rfl) ?_
      have h_ := some_inj h
      subst h_
      exact WKe.fin (e' := .ret) (by kernel_rfl) (fin_of (g := []) (by first | exact .inl rfl | exact .inr rfl) .nil (by kernel_rfl))
    · refine WK.ce (b := (!((Op.bytesLess c.Key.toList k_v.toList) || (c.Key.toList == k_v.toList)))) (by kernel_rfl) b6_0 ?_
      refine WK.skip (by kernel_rfl) ?_
      refine WKe.code (y := (cR (cR bd62))) (ks' := []) (by kernel_rfl) ?_
      refine WK.rs (g := []) (l' := [(.t 4, [iv 0])]) (by kernel_rfl) .nil (by kernel_rfl) ?_
      refine WK.weak (l := [(.t 4, [iv 0])]) (wk_of (by kernel_rfl)) ?_
      refine WK.ret (by kernel_rfl) ?_
      have h_ := some_inj h
      subst h_
      exact WKe.fin (e' := .ret) (by kernel_rfl) (fin_of (g := []) (by first | exact .inl rfl | exact .inr rfl) .nil (by kernel_rfl))
/-- slices.BinarySearchFunc[[]diwan/api.Chain,diwan/api.Chain,string] -/
noncomputable def bd61 : Code := (Try.f61.body).getD .skip
def slices_BinarySearchFunc_api_Chain_string.O : Nat → Nat := fun t => bif ([6, 7, 8, 9, 10, 11] : List Nat).any (Nat.beq t) then 1 else 0
noncomputable def slices_BinarySearchFunc_api_Chain_string.lp4 (fu : Nat) (l4_0 : List TChain) (l4_1 : ByteArray) (l4_2 : Int) : Nat → Int → Int → Option Int
  | 0, _, _ => none
  | n_ + 1, l4_3, l4_4 =>
    br (decide (l4_3 < l4_4))
      (ix l4_0 (w64 (vshr .u64 (IntKind.u64.wrap (w64 (l4_3 + l4_4))) 1)) fun x8_1 =>
      bd (store_keeper_find_1 x8_1 l4_1) fun r8_4 =>
      br (decide (r8_4 < 0))
        (slices_BinarySearchFunc_api_Chain_string.lp4 fu l4_0 l4_1 l4_2 n_ (w64 ((w64 (vshr .u64 (IntKind.u64.wrap (w64 (l4_3 + l4_4))) 1)) + 1)) l4_4)
        (slices_BinarySearchFunc_api_Chain_string.lp4 fu l4_0 l4_1 l4_2 n_ l4_3 (w64 (vshr .u64 (IntKind.u64.wrap (w64 (l4_3 + l4_4))) 1))))
      (some l4_3)
noncomputable def slices_BinarySearchFunc_api_Chain_string.lp4_post (l4_0 : List TChain) (l4_1 : ByteArray) (l4_2 : Int) (r_ : Int) : Wy → St → Prop := fun e τ => match r_ with
  | y0 => e = .exit 0 ∧ τ = ofL [(.t 0, [.data (.slc false none 2 (List.map TChain.en l4_0))]), (.t 1, [sv l4_1]), (.t 2, [.fn (.func 62) [] []]), (.t 8, [iv l4_2]), (.t 9, [iv y0])]
theorem slices_BinarySearchFunc_api_Chain_string.lp4_ok (fu : Nat) (l4_0 : List TChain) (l4_1 : ByteArray) (l4_2 : Int) : ∀ (n_ : Nat) (l4_3 : Int) (l4_4 : Int) (r_ : Int), slices_BinarySearchFunc_api_Chain_string.lp4 fu l4_0 l4_1 l4_2 n_ l4_3 l4_4 = some r_ → WK Try.prog slices_BinarySearchFunc_api_Chain_string.O (Ck Try.prog) (cB (cL (cR (cR (cR bd61))))) [] (ofL [(.t 0, [.data (.slc false none 2 (List.map TChain.en l4_0))]), (.t 1, [sv l4_1]), (.t 2, [.fn (.func 62) [] []]), (.t 8, [iv l4_2]), (.t 9, [iv l4_3]), (.t 10, [iv l4_4])]) (slices_BinarySearchFunc_api_Chain_string.lp4_post l4_0 l4_1 l4_2 r_) := by
  intro n_
  induction n_ with
  | zero => intro l4_3 l4_4 r_ h; exact no_none h
  | succ n_ ih =>
    intro l4_3 l4_4 r_ h
    refine WK.loop (by kernel_rfl) ?_
    refine WK.seq (by kernel_rfl) ?_
    refine WK.rs (g := []) (l' := [(.t 0, [.data (.slc false none 2 (List.map TChain.en l4_0))]), (.t 1, [sv l4_1]), (.t 2, [.fn (.func 62) [] []]), (.t 8, [iv l4_2]), (.t 9, [iv l4_3]), (.t 10, [iv l4_4]), (.t 17, [bv (decide (l4_3 < l4_4))])]) (by kernel_rfl) .nil (by kernel_rfl) ?_
    rcases br_inv h with ⟨b6_0, h⟩ | ⟨b6_0, h⟩
    · refine WK.ct (b := (decide (l4_3 < l4_4))) (by kernel_rfl) b6_0 ?_
      refine WK.skip (by kernel_rfl) ?_
      refine WKe.code (y := (cR (cB (cB (cL (cR (cR (cR bd61)))))))) (ks' := [.lp (cB (cL (cR (cR (cR bd61)))))]) (by kernel_rfl) ?_
      refine WK.block (n := 1) (by kernel_rfl) ?_
      refine WK.rs (g := []) (l' := [(.t 0, [.data (.slc false none 2 (List.map TChain.en l4_0))]), (.t 1, [sv l4_1]), (.t 2, [.fn (.func 62) [] []]), (.t 8, [iv l4_2]), (.t 9, [iv l4_3]), (.t 10, [iv l4_4]), (.t 11, [iv (w64 (vshr .u64 (IntKind.u64.wrap (w64 (l4_3 + l4_4))) 1))])]) (by kernel_rfl) (.cons (Eq.refl true) .nil) (by kernel_rfl) ?_
      obtain ⟨x8_1, a8_2, e8_3, h⟩ := ix_inv h
      obtain ⟨r8_4, h8_5, h⟩ := bd_inv h
      refine WK.rs (g := [.c (TChain.en x8_1), .a ⟨iv r8_4, []⟩]) (l' := [(.t 0, [.data (.slc false none 2 (List.map TChain.en l4_0))]), (.t 1, [sv l4_1]), (.t 2, [.fn (.func 62) [] []]), (.t 8, [iv l4_2]), (.t 9, [iv l4_3]), (.t 10, [iv l4_4]), (.t 11, [iv (w64 (vshr .u64 (IntKind.u64.wrap (w64 (l4_3 + l4_4))) 1))]), (.t 31, [bv (decide (r8_4 < 0))])]) (by kernel_rfl) (.cons (c_ix (e := TChain.en) a8_2 e8_3) (.cons (c_el (e := TChain.en) e8_3) (.cons (Asks.of (C := Meets Try.prog) (store_keeper_find_1.meets x8_1 l4_1 _ h8_5)) .nil))) (by kernel_rfl) ?_
      rcases br_inv h with ⟨b9_0, h⟩ | ⟨b9_0, h⟩
      · refine WK.ct (b := (decide (r8_4 < 0))) (by kernel_rfl) b9_0 ?_
        refine WK.rc (g := []) (l' := [(.t 0, [.data (.slc false none 2 (List.map TChain.en l4_0))]), (.t 1, [sv l4_1]), (.t 2, [.fn (.func 62) [] []]), (.t 8, [iv l4_2]), (.t 9, [iv (w64 ((w64 (vshr .u64 (IntKind.u64.wrap (w64 (l4_3 + l4_4))) 1)) + 1))]), (.t 10, [iv l4_4])]) .nil (by kernel_rfl) (y := (cB (cL (cR (cR (cR bd61)))))) (ks' := []) (by kernel_rfl) ?_
        exact WK.weak (l := [(.t 0, [.data (.slc false none 2 (List.map TChain.en l4_0))]), (.t 1, [sv l4_1]), (.t 2, [.fn (.func 62) [] []]), (.t 8, [iv l4_2]), (.t 9, [iv (w64 ((w64 (vshr .u64 (IntKind.u64.wrap (w64 (l4_3 + l4_4))) 1)) + 1))]), (.t 10, [iv l4_4])]) (wk_of (by kernel_rfl)) (ih (w64 ((w64 (vshr .u64 (IntKind.u64.wrap (w64 (l4_3 + l4_4))) 1)) + 1)) l4_4 _ h)
      · refine WK.ce (b := (decide (r8_4 < 0))) (by kernel_rfl) b9_0 ?_
        refine WK.rc (g := []) (l' := [(.t 0, [.data (.slc false none 2 (List.map TChain.en l4_0))]), (.t 1, [sv l4_1]), (.t 2, [.fn (.func 62) [] []]), (.t 8, [iv l4_2]), (.t 9, [iv l4_3]), (.t 10, [iv (w64 (vshr .u64 (IntKind.u64.wrap (w64 (l4_3 + l4_4))) 1))])]) .nil (by kernel_rfl) (y := (cB (cL (cR (cR (cR bd61)))))) (ks' := []) (by kernel_rfl) ?_
        exact WK.weak (l := [(.t 0, [.data (.slc false none 2 (List.map TChain.en l4_0))]), (.t 1, [sv l4_1]), (.t 2, [.fn (.func 62) [] []]), (.t 8, [iv l4_2]), (.t 9, [iv l4_3]), (.t 10, [iv (w64 (vshr .u64 (IntKind.u64.wrap (w64 (l4_3 + l4_4))) 1))])]) (wk_of (by kernel_rfl)) (ih l4_3 (w64 (vshr .u64 (IntKind.u64.wrap (w64 (l4_3 + l4_4))) 1)) _ h)
    · refine WK.ce (b := (decide (l4_3 < l4_4))) (by kernel_rfl) b6_0 ?_
      refine WK.weak (l := [(.t 0, [.data (.slc false none 2 (List.map TChain.en l4_0))]), (.t 1, [sv l4_1]), (.t 2, [.fn (.func 62) [] []]), (.t 8, [iv l4_2]), (.t 9, [iv l4_3])]) (wk_of (by kernel_rfl)) ?_
      refine WK.exit (n := 0) (by kernel_rfl) ?_
      cases some_inj h
      exact WKe.fin (e' := .exit 0) (by kernel_rfl) ⟨rfl, rfl⟩
noncomputable def slices_BinarySearchFunc_api_Chain_string (fu : Nat) (x_v : List TChain) (target : ByteArray) : Option (Int × Bool) :=
  bd (slices_BinarySearchFunc_api_Chain_string.lp4 fu x_v target (x_v.length : Int) fu 0 (x_v.length : Int)) fun y12_0 =>
  br (decide (y12_0 < (x_v.length : Int)))
    (ix x_v y12_0 fun x13_2 =>
    bd (store_keeper_find_1 x13_2 target) fun r13_5 =>
    some (y12_0, (r13_5 == 0)))
    (some (y12_0, false))
theorem slices_BinarySearchFunc_api_Chain_string.meets (fu : Nat) (x_v : List TChain) (target : ByteArray) (z0 : Int) (z1 : Bool) (h : slices_BinarySearchFunc_api_Chain_string fu x_v target = some (z0, z1)) : Meets Try.prog ⟨61, [.data (.slc false none 2 (List.map TChain.en x_v)), sv target, .fn (.func 62) [] []], []⟩ ⟨.tup [iv z0, bv z1], []⟩ := by
  refine meets_of (O := slices_BinarySearchFunc_api_Chain_string.O) hmix (fn := Try.f61) (code := bd61) (by kernel_rfl) ?_
  refine WK.weak (l := [(.t 0, [.data (.slc false none 2 (List.map TChain.en x_v))]), (.t 1, [sv target]), (.t 2, [.fn (.func 62) [] []])]) (wk_of (by kernel_rfl)) ?_
  unfold slices_BinarySearchFunc_api_Chain_string at h
  refine WK.rs (g := []) (l' := [(.t 0, [.data (.slc false none 2 (List.map TChain.en x_v))]), (.t 1, [sv target]), (.t 2, [.fn (.func 62) [] []])]) (by kernel_rfl) .nil (by kernel_rfl) ?_
  refine WK.rs (g := [.s (.t 13) [iv (x_v.length : Int)]]) (l' := [(.t 0, [.data (.slc false none 2 (List.map TChain.en x_v))]), (.t 1, [sv target]), (.t 2, [.fn (.func 62) [] []]), (.t 8, [iv (x_v.length : Int)])]) (by kernel_rfl) (.cons (c_len (e := TChain.en) (l := x_v)) .nil) (by kernel_rfl) ?_
  refine WK.rs (g := []) (l' := [(.t 0, [.data (.slc false none 2 (List.map TChain.en x_v))]), (.t 1, [sv target]), (.t 2, [.fn (.func 62) [] []]), (.t 8, [iv (x_v.length : Int)]), (.t 9, [iv 0]), (.t 10, [iv (x_v.length : Int)])]) (by kernel_rfl) .nil (by kernel_rfl) ?_
  refine WK.seq (by kernel_rfl) ?_
  refine WK.block (n := 0) (by kernel_rfl) ?_
  obtain ⟨o12, ho12, h⟩ := bd_inv h
  refine WK.weak (l := [(.t 0, [.data (.slc false none 2 (List.map TChain.en x_v))]), (.t 1, [sv target]), (.t 2, [.fn (.func 62) [] []]), (.t 8, [iv (x_v.length : Int)]), (.t 9, [iv 0]), (.t 10, [iv (x_v.length : Int)])]) (wk_of (by kernel_rfl)) ?_
  refine WK.use (slices_BinarySearchFunc_api_Chain_string.lp4_ok fu x_v target (x_v.length : Int) _ 0 (x_v.length : Int) _ ho12) ?_
  intro e_ τ_ hp_
  obtain ⟨y12_0, rfl⟩ : ∃ y, y = o12 := ⟨_, rfl⟩
  obtain ⟨rfl, rfl⟩ := hp_
  refine WKe.code (y := (cR (cR (cR (cR bd61))))) (ks' := []) (by kernel_rfl) ?_
  rcases br_inv h with ⟨b13_1, h⟩ | ⟨b13_1, h⟩
  · obtain ⟨x13_2, a13_3, e13_4, h⟩ := ix_inv h
    obtain ⟨r13_5, h13_6, h⟩ := bd_inv h
    refine WK.rs (g := [.b true, .b true, .b true, .b true, .c (TChain.en x13_2), .b true, .b true, .b true, .a ⟨iv r13_5, []⟩, .b true, .b true]) (l' := [(.t 6, [iv y12_0]), (.t 7, [bv (r13_5 == 0)])]) (by kernel_rfl) (.cons b13_1 (.cons b13_1 (.cons b13_1 (.cons b13_1 (.cons (c_ix (e := TChain.en) a13_3 e13_4) (.cons (c_el (e := TChain.en) e13_4) (.cons b13_1 (.cons b13_1 (.cons b13_1 (.cons (Asks.of (C := Meets Try.prog) (store_keeper_find_1.meets x13_2 target _ h13_6)) (.cons b13_1 (.cons b13_1 .nil)))))))))))) (by kernel_rfl) ?_
    refine WK.weak (l := [(.t 6, [iv y12_0]), (.t 7, [bv (r13_5 == 0)])]) (wk_of (by kernel_rfl)) ?_
    refine WK.ret (by kernel_rfl) ?_
    have h_0 := some_inj h
    obtain ⟨g_1, h_1⟩ := Prod.mk.inj h_0
    subst g_1
    subst h_1
    exact WKe.fin (e' := .ret) (by kernel_rfl) (fin_of (g := []) (by first | exact .inl rfl | exact .inr rfl) .nil (by kernel_rfl))
  · refine WK.rs (g := [.b false, .b false, .b false, .b false, .b false, .b false, .b false, .b false, .b false]) (l' := [(.t 6, [iv y12_0]), (.t 7, [bv false])]) (by kernel_rfl) (.cons b13_1 (.cons b13_1 (.cons b13_1 (.cons b13_1 (.cons b13_1 (.cons b13_1 (.cons b13_1 (.cons b13_1 (.cons b13_1 .nil))))))))) (by kernel_rfl) ?_
    refine WK.weak (l := [(.t 6, [iv y12_0]), (.t 7, [bv false])]) (wk_of (by kernel_rfl)) ?_
    refine WK.ret (by kernel_rfl) ?_
    have h_0 := some_inj h
    obtain ⟨g_1, h_1⟩ := Prod.mk.inj h_0
    subst g_1
    subst h_1
    exact WKe.fin (e' := .ret) (by kernel_rfl) (fin_of (g := []) (by first | exact .inl rfl | exact .inr rfl) .nil (by kernel_rfl))
/-- (diwan/store.keeper).find -/
noncomputable def bd47 : Code := (Try.f47.body).getD .skip
def store_keeper_find.O : Nat → Nat := fun t => bif ([2, 4, 5] : List Nat).any (Nat.beq t) then 1 else 0
noncomputable def store_keeper_find (fu : Nat) (s : TStore) (k_v : ByteArray) : Option (Int × Bool) :=
  bd (slices_BinarySearchFunc_api_Chain_string fu s.Chains k_v) fun (r2_1, r2_2) =>
  some (r2_1, r2_2)
theorem store_keeper_find.meets (fu : Nat) (s : TStore) (k_v : ByteArray) (z0 : Int) (z1 : Bool) (h : store_keeper_find fu s k_v = some (z0, z1)) : Meets Try.prog ⟨47, [.data (.agg [.slc false none 2 (List.map TChain.en s.Chains), .val (.int .i64 s.Mark)]), sv k_v], []⟩ ⟨.tup [iv z0, bv z1], []⟩ := by
  refine meets_of (O := store_keeper_find.O) hmix (fn := Try.f47) (code := bd47) (by kernel_rfl) ?_
  refine WK.weak (l := [(.t 0, [.data (.agg [.slc false none 2 (List.map TChain.en s.Chains), .val (.int .i64 s.Mark)])]), (.t 1, [sv k_v])]) (wk_of (by kernel_rfl)) ?_
  unfold store_keeper_find at h
  refine WK.rs (g := []) (l' := [(.t 1, [sv k_v]), (.t 2, [.ptr 2 0]), (.o 2, [.data (.slc false none 2 (List.map TChain.en s.Chains)), iv s.Mark])]) (by kernel_rfl) .nil (by kernel_rfl) ?_
  obtain ⟨⟨r2_1, r2_2⟩, h2_3, h⟩ := bd_inv h
  refine WK.rs (g := [.a ⟨.tup [iv r2_1, bv r2_2], []⟩]) (l' := [(.t 4, [iv r2_1]), (.t 5, [bv r2_2])]) (by kernel_rfl) (.cons (Asks.of (C := Meets Try.prog) (slices_BinarySearchFunc_api_Chain_string.meets fu s.Chains k_v _ _ h2_3)) .nil) (by kernel_rfl) ?_
  refine WK.weak (l := [(.t 4, [iv r2_1]), (.t 5, [bv r2_2])]) (wk_of (by kernel_rfl)) ?_
  refine WK.ret (by kernel_rfl) ?_
  have h_0 := some_inj h
  obtain ⟨g_1, h_1⟩ := Prod.mk.inj h_0
  subst g_1
  subst h_1
  exact WKe.fin (e' := .ret) (by kernel_rfl) (fin_of (g := []) (by first | exact .inl rfl | exact .inr rfl) .nil (by kernel_rfl))
/-- (diwan/chain.versions).last -/
noncomputable def bd57 : Code := (Try.f57.body).getD .skip
def chain_versions_last.O : Nat → Nat := fun t => bif ([2] : List Nat).any (Nat.beq t) then 1 else 0
noncomputable def chain_versions_last (l : List TVersion) : Option Int :=
  br ((l.length : Int) == 0)
    (some 0)
    (ix l (w64 ((l.length : Int) - 1)) fun x5_1 =>
    some x5_1.Pos)
theorem chain_versions_last.meets (l : List TVersion) (z0 : Int) (h : chain_versions_last l = some z0) : Meets Try.prog ⟨57, [.data (.slc false none 3 (List.map TVersion.en l))], []⟩ ⟨iv z0, []⟩ := by
  refine meets_of (O := chain_versions_last.O) hmix (fn := Try.f57) (code := bd57) (by kernel_rfl) ?_
  refine WK.weak (l := [(.t 0, [.data (.slc false none 3 (List.map TVersion.en l))])]) (wk_of (by kernel_rfl)) ?_
  unfold chain_versions_last at h
  refine WK.rs (g := []) (l' := [(.t 0, [.data (.slc false none 3 (List.map TVersion.en l))])]) (by kernel_rfl) .nil (by kernel_rfl) ?_
  refine WK.seq (by kernel_rfl) ?_
  refine WK.rs (g := [.s (.t 4) [iv (l.length : Int)]]) (l' := [(.t 0, [.data (.slc false none 3 (List.map TVersion.en l))]), (.t 5, [bv ((l.length : Int) == 0)])]) (by kernel_rfl) (.cons (c_len (e := TVersion.en) (l := l)) .nil) (by kernel_rfl) ?_
  rcases br_inv h with ⟨b3_0, h⟩ | ⟨b3_0, h⟩
  · refine WK.ct (b := ((l.length : Int) == 0)) (by kernel_rfl) b3_0 ?_
    refine WK.rs (g := []) (l' := [(.t 2, [iv 0])]) (by kernel_rfl) .nil (by kernel_rfl) ?_
    refine WK.weak (l := [(.t 2, [iv 0])]) (wk_of (by kernel_rfl)) ?_
    refine WK.ret (by kernel_rfl) ?_
    have h_ := some_inj h
    subst h_
    exact WKe.fin (e' := .ret) (by kernel_rfl) (fin_of (g := []) (by first | exact .inl rfl | exact .inr rfl) .nil (by kernel_rfl))
  · refine WK.ce (b := ((l.length : Int) == 0)) (by kernel_rfl) b3_0 ?_
    refine WK.skip (by kernel_rfl) ?_
    refine WKe.code (y := (cR (cR bd57))) (ks' := []) (by kernel_rfl) ?_
    obtain ⟨x5_1, a5_2, e5_3, h⟩ := ix_inv h
    refine WK.rs (g := [.s (.t 8) [iv (l.length : Int)], .c (TVersion.en x5_1)]) (l' := [(.t 2, [iv x5_1.Pos])]) (by kernel_rfl) (.cons (c_len (e := TVersion.en) (l := l)) (.cons (c_ix (e := TVersion.en) a5_2 e5_3) (.cons (c_el (e := TVersion.en) e5_3) .nil))) (by kernel_rfl) ?_
    refine WK.weak (l := [(.t 2, [iv x5_1.Pos])]) (wk_of (by kernel_rfl)) ?_
    refine WK.ret (by kernel_rfl) ?_
    have h_ := some_inj h
    subst h_
    exact WKe.fin (e' := .ret) (by kernel_rfl) (fin_of (g := []) (by first | exact .inl rfl | exact .inr rfl) .nil (by kernel_rfl))
/-- diwan/chain.Last -/
noncomputable def bd38 : Code := (Try.f38.body).getD .skip
def chain_Last.O : Nat → Nat := fun t => bif ([2, 3] : List Nat).any (Nat.beq t) then 1 else 0
noncomputable def chain_Last (l : List TVersion) : Option Int :=
  bd (chain_versions_last l) fun r3_1 =>
  some r3_1
theorem chain_Last.meets (l : List TVersion) (z0 : Int) (h : chain_Last l = some z0) : Meets Try.prog ⟨38, [.data (.slc false none 3 (List.map TVersion.en l))], []⟩ ⟨iv z0, []⟩ := by
  refine meets_of (O := chain_Last.O) hmix (fn := Try.f38) (code := bd38) (by kernel_rfl) ?_
  refine WK.weak (l := [(.t 0, [.data (.slc false none 3 (List.map TVersion.en l))])]) (wk_of (by kernel_rfl)) ?_
  unfold chain_Last at h
  refine WK.rs (g := []) (l' := [(.t 0, [.data (.slc false none 3 (List.map TVersion.en l))])]) (by kernel_rfl) .nil (by kernel_rfl) ?_
  refine WK.rs (g := []) (l' := [(.t 3, [.fn (.func 57) [.data (.slc false none 3 (List.map TVersion.en l))] []])]) (by kernel_rfl) .nil (by kernel_rfl) ?_
  obtain ⟨r3_1, h3_2, h⟩ := bd_inv h
  refine WK.rs (g := [.a ⟨iv r3_1, []⟩]) (l' := [(.t 2, [iv r3_1])]) (by kernel_rfl) (.cons (Asks.of (C := Meets Try.prog) (chain_versions_last.meets l _ h3_2)) .nil) (by kernel_rfl) ?_
  refine WK.weak (l := [(.t 2, [iv r3_1])]) (wk_of (by kernel_rfl)) ?_
  refine WK.ret (by kernel_rfl) ?_
  have h_ := some_inj h
  subst h_
  exact WKe.fin (e' := .ret) (by kernel_rfl) (fin_of (g := []) (by first | exact .inl rfl | exact .inr rfl) .nil (by kernel_rfl))
/-- diwan/chain.Add -/
noncomputable def bd48 : Code := (Try.f48.body).getD .skip
def chain_Add.O : Nat → Nat := fun t => bif ([3, 4, 15] : List Nat).any (Nat.beq t) then 1 else 0
noncomputable def chain_Add (l : List TVersion) (v : TVersion) : Option (List TVersion) :=
  bd (chain_Last l) fun r2_1 =>
  br (decide (v.Pos ≤ r2_1))
    (bd (slices_Clone_api_Version l) fun r4_1 =>
    some r4_1)
    (bd (slices_Clone_api_Version l) fun r5_1 =>
    gd (decide (r5_1.length + ([v] : List TVersion).length ≤ 4294967296)) <|
    some (r5_1 ++ ([v] : List TVersion)))
theorem chain_Add.meets (l : List TVersion) (v : TVersion) (z0 : List TVersion) (h : chain_Add l v = some z0) : Meets Try.prog ⟨48, [.data (.slc false none 3 (List.map TVersion.en l)), .data (TVersion.ag v)], []⟩ ⟨.data (.slc true none 3 (List.map TVersion.en z0)), []⟩ := by
  refine meets_of (O := chain_Add.O) hmix (fn := Try.f48) (code := bd48) (by kernel_rfl) ?_
  refine WK.weak (l := [(.t 0, [.data (.slc false none 3 (List.map TVersion.en l))]), (.t 1, [.data (TVersion.ag v)])]) (wk_of (by kernel_rfl)) ?_
  unfold chain_Add at h
  refine WK.rs (g := []) (l' := [(.t 0, [.data (.slc false none 3 (List.map TVersion.en l))]), (.t 3, [.ptr 3 0]), (.o 3, (TVersion.ob v))]) (by kernel_rfl) .nil (by kernel_rfl) ?_
  refine WK.seq (by kernel_rfl) ?_
  obtain ⟨r2_1, h2_2, h⟩ := bd_inv h
  refine WK.rs (g := [.a ⟨iv r2_1, []⟩]) (l' := [(.t 0, [.data (.slc false none 3 (List.map TVersion.en l))]), (.t 3, [.ptr 3 0]), (.t 9, [bv (decide (v.Pos ≤ r2_1))]), (.o 3, (TVersion.ob v))]) (by kernel_rfl) (.cons (Asks.of (C := Meets Try.prog) (chain_Last.meets l _ h2_2)) (.cons (Eq.refl true) .nil)) (by kernel_rfl) ?_
  rcases br_inv h with ⟨b3_0, h⟩ | ⟨b3_0, h⟩
  · refine WK.ct (b := (decide (v.Pos ≤ r2_1))) (by kernel_rfl) b3_0 ?_
    obtain ⟨r4_1, h4_2, h⟩ := bd_inv h
    refine WK.rs (g := [.a ⟨.data (.slc true none 3 (List.map TVersion.en r4_1)), []⟩]) (l' := [(.t 4, [.data (.slc true none 3 (List.map TVersion.en r4_1))])]) (by kernel_rfl) (.cons (Asks.of (C := Meets Try.prog) (slices_Clone_api_Version.meets l _ h4_2)) .nil) (by kernel_rfl) ?_
    refine WK.weak (l := [(.t 4, [.data (.slc true none 3 (List.map TVersion.en r4_1))])]) (wk_of (by kernel_rfl)) ?_
    refine WK.ret (by kernel_rfl) ?_
    have h_ := some_inj h
    subst h_
    exact WKe.fin (e' := .ret) (by kernel_rfl) (fin_of (g := []) (by first | exact .inl rfl | exact .inr rfl) .nil (by kernel_rfl))
  · refine WK.ce (b := (decide (v.Pos ≤ r2_1))) (by kernel_rfl) b3_0 ?_
    refine WK.skip (by kernel_rfl) ?_
    refine WKe.code (y := (cR (cR bd48))) (ks' := []) (by kernel_rfl) ?_
    obtain ⟨r5_1, h5_2, h⟩ := bd_inv h
    obtain ⟨c5_3, h⟩ := gd_inv h
    refine WK.rs (g := [.a ⟨.data (.slc true none 3 (List.map TVersion.en r5_1)), []⟩, .s (.t 16) [.data (.slc true none 3 (List.map TVersion.en (r5_1 ++ ([v] : List TVersion))))]]) (l' := [(.t 4, [.data (.slc true none 3 (List.map TVersion.en (r5_1 ++ ([v] : List TVersion))))])]) (by kernel_rfl) (.cons (Asks.of (C := Meets Try.prog) (slices_Clone_api_Version.meets l _ h5_2)) (.cons (c_al (e := TVersion.en) (f := TVersion.en) c5_3) (.cons (congrArg (fun d : DV => [AV.data d]) (c_app (e := TVersion.en) (s := 3) (l := r5_1) (m := ([v] : List TVersion)))) (.cons (Eq.refl true) .nil)))) (by kernel_rfl) ?_
    refine WK.weak (l := [(.t 4, [.data (.slc true none 3 (List.map TVersion.en (r5_1 ++ ([v] : List TVersion))))])]) (wk_of (by kernel_rfl)) ?_
    refine WK.ret (by kernel_rfl) ?_
    have h_ := some_inj h
    subst h_
    exact WKe.fin (e' := .ret) (by kernel_rfl) (fin_of (g := []) (by first | exact .inl rfl | exact .inr rfl) .nil (by kernel_rfl))
/-- slices.Insert[[]diwan/api.Chain,diwan/api.Chain] -/
noncomputable def bd49 : Code := (Try.f49.body).getD .skip
def slices_Insert_api_Chain_part.O : Nat → Nat := fun t => bif ([0, 6, 7, 8, 9, 17, 23, 25, 53, 60] : List Nat).any (Nat.beq t) then 1 else bif ([12] : List Nat).any (Nat.beq t) then 5 else 0
noncomputable def slices_Insert_api_Chain_part (s : List TChain) (i : Int) (v : List TChain) : Option (List TChain) :=
  gd (decide ((0 : Int) ≤ i ∧ i ≤ (s.length : Int))) <|
  br ((v.length : Int) == 0)
    (some s)
    (br (i == (s.length : Int))
      (gd (decide (s.length + v.length ≤ 4294967296)) <|
      some (s ++ v))
      (none))
theorem slices_Insert_api_Chain_part.meets (s : List TChain) (i : Int) (v : List TChain) (z0 : List TChain) (h : slices_Insert_api_Chain_part s i v = some z0) : Meets Try.prog ⟨49, [.data (.slc true none 2 (List.map TChain.en s)), iv i, .data (.slc false none 2 (List.map TChain.en v))], []⟩ ⟨.data (.slc true none 2 (List.map TChain.en z0)), []⟩ := by
  refine meets_of (O := slices_Insert_api_Chain_part.O) hmix (fn := Try.f49) (code := bd49) (by kernel_rfl) ?_
  refine WK.weak (l := [(.t 0, [.data (.slc true none 2 (List.map TChain.en s))]), (.t 1, [iv i]), (.t 2, [.data (.slc false none 2 (List.map TChain.en v))])]) (wk_of (by kernel_rfl)) ?_
  unfold slices_Insert_api_Chain_part at h
  refine WK.rs (g := []) (l' := [(.t 0, [.data (.slc true none 2 (List.map TChain.en s))]), (.t 1, [iv i]), (.t 2, [.data (.slc false none 2 (List.map TChain.en v))])]) (by kernel_rfl) .nil (by kernel_rfl) ?_
  obtain ⟨c2_1, h⟩ := gd_inv h
  refine WK.rs (g := []) (l' := [(.t 0, [.data (.slc true none 2 (List.map TChain.en s))]), (.t 1, [iv i]), (.t 2, [.data (.slc false none 2 (List.map TChain.en v))])]) (by kernel_rfl) (.cons (c_cbL (e := TChain.en) c2_1) .nil) (by kernel_rfl) ?_
  refine WK.rs (g := [.s (.t 14) [iv (v.length : Int)]]) (l' := [(.t 0, [.data (.slc true none 2 (List.map TChain.en s))]), (.t 1, [iv i]), (.t 2, [.data (.slc false none 2 (List.map TChain.en v))]), (.t 7, [iv (v.length : Int)])]) (by kernel_rfl) (.cons (c_len (e := TChain.en) (l := v)) .nil) (by kernel_rfl) ?_
  refine WK.seq (by kernel_rfl) ?_
  refine WK.rs (g := []) (l' := [(.t 0, [.data (.slc true none 2 (List.map TChain.en s))]), (.t 1, [iv i]), (.t 2, [.data (.slc false none 2 (List.map TChain.en v))]), (.t 7, [iv (v.length : Int)]), (.t 16, [bv ((v.length : Int) == 0)])]) (by kernel_rfl) .nil (by kernel_rfl) ?_
  rcases br_inv h with ⟨b5_0, h⟩ | ⟨b5_0, h⟩
  · refine WK.ct (b := ((v.length : Int) == 0)) (by kernel_rfl) b5_0 ?_
    refine WK.rs (g := []) (l' := [(.t 6, [.data (.slc true none 2 (List.map TChain.en s))])]) (by kernel_rfl) .nil (by kernel_rfl) ?_
    refine WK.weak (l := [(.t 6, [.data (.slc true none 2 (List.map TChain.en s))])]) (wk_of (by kernel_rfl)) ?_
    refine WK.ret (by kernel_rfl) ?_
    have h_ := some_inj h
    subst h_
    exact WKe.fin (e' := .ret) (by kernel_rfl) (fin_of (g := []) (by first | exact .inl rfl | exact .inr rfl) .nil (by kernel_rfl))
  · refine WK.ce (b := ((v.length : Int) == 0)) (by kernel_rfl) b5_0 ?_
    refine WK.skip (by kernel_rfl) ?_
    refine WKe.code (y := (cR (cR (cR (cR bd49))))) (ks' := []) (by kernel_rfl) ?_
    refine WK.rs (g := [.s (.t 19) [iv (s.length : Int)]]) (l' := [(.t 0, [.data (.slc true none 2 (List.map TChain.en s))]), (.t 1, [iv i]), (.t 2, [.data (.slc false none 2 (List.map TChain.en v))]), (.t 7, [iv (v.length : Int)]), (.t 8, [iv (s.length : Int)])]) (by kernel_rfl) (.cons (c_len (e := TChain.en) (l := s)) .nil) (by kernel_rfl) ?_
    refine WK.seq (by kernel_rfl) ?_
    refine WK.rs (g := []) (l' := [(.t 0, [.data (.slc true none 2 (List.map TChain.en s))]), (.t 1, [iv i]), (.t 2, [.data (.slc false none 2 (List.map TChain.en v))]), (.t 7, [iv (v.length : Int)]), (.t 8, [iv (s.length : Int)]), (.t 22, [bv (i == (s.length : Int))])]) (by kernel_rfl) .nil (by kernel_rfl) ?_
    rcases br_inv h with ⟨b9_0, h⟩ | ⟨b9_0, h⟩
    · refine WK.ct (b := (i == (s.length : Int))) (by kernel_rfl) b9_0 ?_
      obtain ⟨c10_1, h⟩ := gd_inv h
      refine WK.rs (g := [.s (.t 25) [.data (.slc true none 2 (List.map TChain.en (s ++ v)))]]) (l' := [(.t 6, [.data (.slc true none 2 (List.map TChain.en (s ++ v)))])]) (by kernel_rfl) (.cons (c_al (e := TChain.en) (f := TChain.en) c10_1) (.cons (congrArg (fun d : DV => [AV.data d]) (c_app (e := TChain.en) (s := 2) (l := s) (m := v))) .nil)) (by kernel_rfl) ?_
      refine WK.weak (l := [(.t 6, [.data (.slc true none 2 (List.map TChain.en (s ++ v)))])]) (wk_of (by kernel_rfl)) ?_
      refine WK.ret (by kernel_rfl) ?_
      have h_ := some_inj h
      subst h_
      exact WKe.fin (e' := .ret) (by kernel_rfl) (fin_of (g := []) (by first | exact .inl rfl | exact .inr rfl) .nil (by kernel_rfl))
    · refine WK.ce (b := (i == (s.length : Int))) (by kernel_rfl) b9_0 ?_
      refine WK.skip (by kernel_rfl) ?_
      refine WKe.code (y := (cR (cR (cR (cR (cR (cR bd49))))))) (ks' := []) (by kernel_rfl) ?_
      refine WK.seq (by kernel_rfl) ?_
      exact no_none h
/-- slices.Insert[[]diwan/api.Chain,diwan/api.Chain], as a whole. -/
noncomputable def slices_Insert_api_Chain (s : List TChain) (i : Int) (v : List TChain) : Option (List TChain) :=
  br (decide (0 ≤ i ∧ i < (s.length : Int) ∧ 0 < v.length ∧ s.length + v.length ≤ 4294967296))
    (some (List.take i.toNat s ++ v ++ List.drop i.toNat s))
    (slices_Insert_api_Chain_part s i v)
theorem slices_Insert_api_Chain.meets (s : List TChain) (i : Int) (v : List TChain) (z0 : List TChain) (h : slices_Insert_api_Chain s i v = some z0) : Meets Try.prog ⟨49, [.data (.slc true none 2 (List.map TChain.en s)), iv i, .data (.slc false none 2 (List.map TChain.en v))], []⟩ ⟨.data (.slc true none 2 (List.map TChain.en z0)), []⟩ := by
  rcases br_inv h with ⟨hb, h⟩ | ⟨hb, h⟩
  · cases some_inj h
    exact ins_meetsT (e := TChain.en) Try.func49 (by kernel_rfl) (by kernel_rfl) (by kernel_rfl) (by kernel_rfl) Ins49.walk hb
  · exact slices_Insert_api_Chain_part.meets s i v _ h
/-- diwan/store.Write -/
noncomputable def bd23 : Code := (Try.f23.body).getD .skip
def store_Write.O : Nat → Nat := fun t => bif ([3, 6, 8, 9, 10, 11, 12, 14, 26, 47, 48, 65] : List Nat).any (Nat.beq t) then 1 else bif ([61] : List Nat).any (Nat.beq t) then 2 else bif ([49] : List Nat).any (Nat.beq t) then 4 else 0
noncomputable def store_Write.lp4 (fu : Nat) (l4_0 : Int) (l4_1 : List TWrite) (l4_2 : Int) (l4_5 : TStore) : Nat → Int → TStore → Option TStore
  | 0, _, _ => none
  | n_ + 1, l4_3, l4_4 =>
    br (decide (l4_3 < l4_2))
      (ix l4_1 l4_3 fun x7_1 =>
      bd (store_keeper_find fu l4_4 x7_1.Key) fun (r9_1, r9_2) =>
      br (!r9_2)
        (jn (fun (j16_4 : TStore) =>
          store_Write.lp4 fu l4_0 l4_1 l4_2 l4_5 n_ (w64 (l4_3 + 1)) j16_4) fun k16 =>
        bd (chain_Add [] (TVersion.mk l4_0 x7_1.Val x7_1.Gone)) fun r12_1 =>
        br (decide ((r12_1.length : Int) > 0))
          (bd (slices_Insert_api_Chain l4_4.Chains r9_1 ([(TChain.mk x7_1.Key r12_1)] : List TChain)) fun r15_1 =>
          k16 (TStore.mk r15_1 l4_4.Mark))
          (k16 l4_4))
        (ix l4_4.Chains r9_1 fun x18_1 =>
        bd (chain_Add x18_1.L (TVersion.mk l4_0 x7_1.Val x7_1.Gone)) fun r18_4 =>
        ix l4_4.Chains r9_1 fun x18_6 =>
        store_Write.lp4 fu l4_0 l4_1 l4_2 l4_5 n_ (w64 (l4_3 + 1)) (TStore.mk (l4_4.Chains.set r9_1.toNat (TChain.mk x18_6.Key r18_4)) l4_4.Mark)))
      (some l4_4)
noncomputable def store_Write.lp4_post (l4_0 : Int) (l4_1 : List TWrite) (l4_2 : Int) (l4_5 : TStore) (r_ : TStore) : Wy → St → Prop := fun e τ => match r_ with
  | y0 => e = .exit 0 ∧ τ = ofL [(.t 3, [.ptr 3 0]), (.t 6, [.ptr 6 0]), (.o 3, [.data (.slc true none 2 (List.map TChain.en y0.Chains)), iv y0.Mark]), (.o 6, [.data (.slc true none 2 (List.map TChain.en l4_5.Chains)), iv l4_5.Mark])]
theorem store_Write.lp4_ok (fu : Nat) (l4_0 : Int) (l4_1 : List TWrite) (l4_2 : Int) (l4_5 : TStore) : ∀ (n_ : Nat) (l4_3 : Int) (l4_4 : TStore) (r_ : TStore), store_Write.lp4 fu l4_0 l4_1 l4_2 l4_5 n_ l4_3 l4_4 = some r_ → WK Try.prog store_Write.O (Ck Try.prog) (cB (cR (cL (cR (cR bd23))))) [] (ofL [(.t 1, [iv l4_0]), (.t 3, [.ptr 3 0]), (.t 6, [.ptr 6 0]), (.t 15, [.data (.slc false none 3 (List.map TWrite.en l4_1))]), (.t 16, [iv l4_2]), (.t 17, [iv l4_3]), (.o 3, [.data (.slc true none 2 (List.map TChain.en l4_4.Chains)), iv l4_4.Mark]), (.o 6, [.data (.slc true none 2 (List.map TChain.en l4_5.Chains)), iv l4_5.Mark])]) (store_Write.lp4_post l4_0 l4_1 l4_2 l4_5 r_) := by
  intro n_
  induction n_ with
  | zero => intro l4_3 l4_4 r_ h; exact no_none h
  | succ n_ ih =>
    intro l4_3 l4_4 r_ h
    refine WK.loop (by kernel_rfl) ?_
    refine WK.rs (g := []) (l' := [(.t 1, [iv l4_0]), (.t 3, [.ptr 3 0]), (.t 6, [.ptr 6 0]), (.t 15, [.data (.slc false none 3 (List.map TWrite.en l4_1))]), (.t 16, [iv l4_2]), (.t 17, [iv l4_3]), (.t 18, [bv (decide (l4_3 < l4_2))]), (.o 3, [.data (.slc true none 2 (List.map TChain.en l4_4.Chains)), iv l4_4.Mark]), (.o 6, [.data (.slc true none 2 (List.map TChain.en l4_5.Chains)), iv l4_5.Mark])]) (by kernel_rfl) .nil (by kernel_rfl) ?_
    refine WK.seq (by kernel_rfl) ?_
    rcases br_inv h with ⟨b6_0, h⟩ | ⟨b6_0, h⟩
    · refine WK.ct (b := (decide (l4_3 < l4_2))) (by kernel_rfl) b6_0 ?_
      refine WK.skip (by kernel_rfl) ?_
      refine WKe.code (y := (cR (cR (cB (cB (cR (cL (cR (cR bd23))))))))) (ks' := [.lp (cB (cR (cL (cR (cR bd23)))))]) (by kernel_rfl) ?_
      refine WK.seq (by kernel_rfl) ?_
      refine WK.block (n := 1) (by kernel_rfl) ?_
      obtain ⟨x7_1, a7_2, e7_3, h⟩ := ix_inv h
      refine WK.rs (g := [.c (TWrite.en x7_1)]) (l' := [(.t 1, [iv l4_0]), (.t 3, [.ptr 3 0]), (.t 6, [.ptr 6 0]), (.t 8, [.ptr 8 0]), (.t 15, [.data (.slc false none 3 (List.map TWrite.en l4_1))]), (.t 16, [iv l4_2]), (.t 17, [iv l4_3]), (.o 3, [.data (.slc true none 2 (List.map TChain.en l4_4.Chains)), iv l4_4.Mark]), (.o 6, [.data (.slc true none 2 (List.map TChain.en l4_5.Chains)), iv l4_5.Mark]), (.o 8, (TWrite.ob x7_1))]) (by kernel_rfl) (.cons (c_ix (e := TWrite.en) a7_2 e7_3) (.cons (c_el (e := TWrite.en) e7_3) .nil)) (by kernel_rfl) ?_
      refine WK.rs (g := []) (l' := [(.t 1, [iv l4_0]), (.t 3, [.ptr 3 0]), (.t 6, [.ptr 6 0]), (.t 8, [.ptr 8 0]), (.t 9, [.ptr 9 0]), (.t 15, [.data (.slc false none 3 (List.map TWrite.en l4_1))]), (.t 16, [iv l4_2]), (.t 17, [iv l4_3]), (.o 3, [.data (.slc true none 2 (List.map TChain.en l4_4.Chains)), iv l4_4.Mark]), (.o 6, [.data (.slc true none 2 (List.map TChain.en l4_5.Chains)), iv l4_5.Mark]), (.o 8, (TWrite.ob x7_1)), (.o 9, (TVersion.ob (TVersion.mk l4_0 x7_1.Val x7_1.Gone)))]) (by kernel_rfl) .nil (by kernel_rfl) ?_
      obtain ⟨⟨r9_1, r9_2⟩, h9_3, h⟩ := bd_inv h
      refine WK.rs (g := [.a ⟨.tup [iv r9_1, bv r9_2], []⟩]) (l' := [(.t 1, [iv l4_0]), (.t 3, [.ptr 3 0]), (.t 6, [.ptr 6 0]), (.t 8, [.ptr 8 0]), (.t 9, [.ptr 9 0]), (.t 10, [iv r9_1]), (.t 11, [bv r9_2]), (.t 15, [.data (.slc false none 3 (List.map TWrite.en l4_1))]), (.t 16, [iv l4_2]), (.t 17, [iv l4_3]), (.o 3, [.data (.slc true none 2 (List.map TChain.en l4_4.Chains)), iv l4_4.Mark]), (.o 6, [.data (.slc true none 2 (List.map TChain.en l4_5.Chains)), iv l4_5.Mark]), (.o 8, (TWrite.ob x7_1)), (.o 9, (TVersion.ob (TVersion.mk l4_0 x7_1.Val x7_1.Gone)))]) (by kernel_rfl) (.cons (Asks.of (C := Meets Try.prog) (store_keeper_find.meets fu l4_4 x7_1.Key _ _ h9_3)) .nil) (by kernel_rfl) ?_
      refine WK.seq (by kernel_rfl) ?_
      refine WK.rs (g := []) (l' := [(.t 1, [iv l4_0]), (.t 3, [.ptr 3 0]), (.t 6, [.ptr 6 0]), (.t 8, [.ptr 8 0]), (.t 9, [.ptr 9 0]), (.t 10, [iv r9_1]), (.t 15, [.data (.slc false none 3 (List.map TWrite.en l4_1))]), (.t 16, [iv l4_2]), (.t 17, [iv l4_3]), (.t 35, [bv (!r9_2)]), (.o 3, [.data (.slc true none 2 (List.map TChain.en l4_4.Chains)), iv l4_4.Mark]), (.o 6, [.data (.slc true none 2 (List.map TChain.en l4_5.Chains)), iv l4_5.Mark]), (.o 8, (TWrite.ob x7_1)), (.o 9, (TVersion.ob (TVersion.mk l4_0 x7_1.Val x7_1.Gone)))]) (by kernel_rfl) .nil (by kernel_rfl) ?_
      rcases br_inv h with ⟨b11_0, h⟩ | ⟨b11_0, h⟩
      · refine WK.ct (b := (!r9_2)) (by kernel_rfl) b11_0 ?_
        obtain ⟨k16, hk16, h⟩ := jn_inv h
        have Jk16 : ∀ (j16_4 : TStore), k16 j16_4 = some r_ → WK Try.prog store_Write.O (Ck Try.prog) (cR (cT (cR (cL (cR (cR (cR (cB (cL (cR (cR (cB (cB (cR (cL (cR (cR bd23))))))))))))))))) [.seq (cR (cR (cR (cR (cB (cL (cR (cR (cB (cB (cR (cL (cR (cR bd23)))))))))))))), .blk 1, .seq (cR (cR (cR (cB (cB (cR (cL (cR (cR bd23))))))))), .lp (cB (cR (cL (cR (cR bd23)))))] (ofL [(.t 1, [iv l4_0]), (.t 3, [.ptr 3 0]), (.t 6, [.ptr 6 0]), (.t 15, [.data (.slc false none 3 (List.map TWrite.en l4_1))]), (.t 16, [iv l4_2]), (.t 17, [iv l4_3]), (.o 3, [.data (.slc true none 2 (List.map TChain.en j16_4.Chains)), iv j16_4.Mark]), (.o 6, [.data (.slc true none 2 (List.map TChain.en l4_5.Chains)), iv l4_5.Mark])]) (store_Write.lp4_post l4_0 l4_1 l4_2 l4_5 r_) := by
          intro j16_4 h
          rw [hk16] at h
          refine WK.exit (n := 1) (by kernel_rfl) ?_
          refine WKe.code (y := (cR (cR (cR (cB (cB (cR (cL (cR (cR bd23)))))))))) (ks' := [.lp (cB (cR (cL (cR (cR bd23)))))]) (by kernel_rfl) ?_
          refine WK.rc (g := []) (l' := [(.t 1, [iv l4_0]), (.t 3, [.ptr 3 0]), (.t 6, [.ptr 6 0]), (.t 15, [.data (.slc false none 3 (List.map TWrite.en l4_1))]), (.t 16, [iv l4_2]), (.t 17, [iv (w64 (l4_3 + 1))]), (.o 3, [.data (.slc true none 2 (List.map TChain.en j16_4.Chains)), iv j16_4.Mark]), (.o 6, [.data (.slc true none 2 (List.map TChain.en l4_5.Chains)), iv l4_5.Mark])]) .nil (by kernel_rfl) (y := (cB (cR (cL (cR (cR bd23)))))) (ks' := []) (by kernel_rfl) ?_
          exact WK.weak (l := [(.t 1, [iv l4_0]), (.t 3, [.ptr 3 0]), (.t 6, [.ptr 6 0]), (.t 15, [.data (.slc false none 3 (List.map TWrite.en l4_1))]), (.t 16, [iv l4_2]), (.t 17, [iv (w64 (l4_3 + 1))]), (.o 3, [.data (.slc true none 2 (List.map TChain.en j16_4.Chains)), iv j16_4.Mark]), (.o 6, [.data (.slc true none 2 (List.map TChain.en l4_5.Chains)), iv l4_5.Mark])]) (wk_of (by kernel_rfl)) (ih (w64 (l4_3 + 1)) j16_4 _ h)
        clear hk16
        refine WK.seq (by kernel_rfl) ?_
        obtain ⟨r12_1, h12_2, h⟩ := bd_inv h
        refine WK.rs (g := [.a ⟨.data (.slc true none 3 (List.map TVersion.en r12_1)), []⟩]) (l' := [(.t 1, [iv l4_0]), (.t 3, [.ptr 3 0]), (.t 6, [.ptr 6 0]), (.t 8, [.ptr 8 0]), (.t 10, [iv r9_1]), (.t 12, [.data (.slc true none 3 (List.map TVersion.en r12_1))]), (.t 15, [.data (.slc false none 3 (List.map TWrite.en l4_1))]), (.t 16, [iv l4_2]), (.t 17, [iv l4_3]), (.o 3, [.data (.slc true none 2 (List.map TChain.en l4_4.Chains)), iv l4_4.Mark]), (.o 6, [.data (.slc true none 2 (List.map TChain.en l4_5.Chains)), iv l4_5.Mark]), (.o 8, (TWrite.ob x7_1))]) (by kernel_rfl) (.cons (Asks.fg (args1 := []) (args2 := [.data (TVersion.ag (TVersion.mk l4_0 x7_1.Val x7_1.Gone))]) (nl := some true) (sz := 3) (es := List.map TVersion.en []) (Asks.of (C := Meets Try.prog) (chain_Add.meets [] (TVersion.mk l4_0 x7_1.Val x7_1.Gone) _ h12_2))) .nil) (by kernel_rfl) ?_
        refine WK.rs (g := [.s (.t 39) [iv (r12_1.length : Int)]]) (l' := [(.t 1, [iv l4_0]), (.t 3, [.ptr 3 0]), (.t 6, [.ptr 6 0]), (.t 8, [.ptr 8 0]), (.t 10, [iv r9_1]), (.t 12, [.data (.slc true none 3 (List.map TVersion.en r12_1))]), (.t 15, [.data (.slc false none 3 (List.map TWrite.en l4_1))]), (.t 16, [iv l4_2]), (.t 17, [iv l4_3]), (.t 40, [bv (decide ((r12_1.length : Int) > 0))]), (.o 3, [.data (.slc true none 2 (List.map TChain.en l4_4.Chains)), iv l4_4.Mark]), (.o 6, [.data (.slc true none 2 (List.map TChain.en l4_5.Chains)), iv l4_5.Mark]), (.o 8, (TWrite.ob x7_1))]) (by kernel_rfl) (.cons (c_len (e := TVersion.en) (l := r12_1)) .nil) (by kernel_rfl) ?_
        rcases br_inv h with ⟨b14_0, h⟩ | ⟨b14_0, h⟩
        · refine WK.ct (b := (decide ((r12_1.length : Int) > 0))) (by kernel_rfl) b14_0 ?_
          obtain ⟨r15_1, h15_2, h⟩ := bd_inv h
          refine WK.rc (g := [.a ⟨.data (.slc true none 2 (List.map TChain.en r15_1)), []⟩]) (l' := [(.t 1, [iv l4_0]), (.t 3, [.ptr 3 0]), (.t 6, [.ptr 6 0]), (.t 15, [.data (.slc false none 3 (List.map TWrite.en l4_1))]), (.t 16, [iv l4_2]), (.t 17, [iv l4_3]), (.o 3, [.data (.slc true none 2 (List.map TChain.en r15_1)), iv l4_4.Mark]), (.o 6, [.data (.slc true none 2 (List.map TChain.en l4_5.Chains)), iv l4_5.Mark])]) (.cons (Asks.fg (args1 := [.data (.slc true none 2 (List.map TChain.en l4_4.Chains)), iv r9_1]) (args2 := []) (nl := some false) (sz := 2) (es := List.map TChain.en ([(TChain.mk x7_1.Key r12_1)] : List TChain)) (Asks.of (C := Meets Try.prog) (slices_Insert_api_Chain.meets l4_4.Chains r9_1 ([(TChain.mk x7_1.Key r12_1)] : List TChain) _ h15_2))) .nil) (by kernel_rfl) (y := (cR (cT (cR (cL (cR (cR (cR (cB (cL (cR (cR (cB (cB (cR (cL (cR (cR bd23)))))))))))))))))) (ks' := [.seq (cR (cR (cR (cR (cB (cL (cR (cR (cB (cB (cR (cL (cR (cR bd23)))))))))))))), .blk 1, .seq (cR (cR (cR (cB (cB (cR (cL (cR (cR bd23))))))))), .lp (cB (cR (cL (cR (cR bd23)))))]) (by kernel_rfl) ?_
          exact WK.weak (l := [(.t 1, [iv l4_0]), (.t 3, [.ptr 3 0]), (.t 6, [.ptr 6 0]), (.t 15, [.data (.slc false none 3 (List.map TWrite.en l4_1))]), (.t 16, [iv l4_2]), (.t 17, [iv l4_3]), (.o 3, [.data (.slc true none 2 (List.map TChain.en r15_1)), iv l4_4.Mark]), (.o 6, [.data (.slc true none 2 (List.map TChain.en l4_5.Chains)), iv l4_5.Mark])]) (wk_of (by kernel_rfl)) (Jk16 (TStore.mk r15_1 l4_4.Mark) h)
        · refine WK.ce (b := (decide ((r12_1.length : Int) > 0))) (by kernel_rfl) b14_0 ?_
          refine WK.skip (by kernel_rfl) ?_
          refine WKe.code (y := (cR (cT (cR (cL (cR (cR (cR (cB (cL (cR (cR (cB (cB (cR (cL (cR (cR bd23)))))))))))))))))) (ks' := [.seq (cR (cR (cR (cR (cB (cL (cR (cR (cB (cB (cR (cL (cR (cR bd23)))))))))))))), .blk 1, .seq (cR (cR (cR (cB (cB (cR (cL (cR (cR bd23))))))))), .lp (cB (cR (cL (cR (cR bd23)))))]) (by kernel_rfl) ?_
          exact WK.weak (l := [(.t 1, [iv l4_0]), (.t 3, [.ptr 3 0]), (.t 6, [.ptr 6 0]), (.t 15, [.data (.slc false none 3 (List.map TWrite.en l4_1))]), (.t 16, [iv l4_2]), (.t 17, [iv l4_3]), (.o 3, [.data (.slc true none 2 (List.map TChain.en l4_4.Chains)), iv l4_4.Mark]), (.o 6, [.data (.slc true none 2 (List.map TChain.en l4_5.Chains)), iv l4_5.Mark])]) (wk_of (by kernel_rfl)) (Jk16 l4_4 h)
      · refine WK.ce (b := (!r9_2)) (by kernel_rfl) b11_0 ?_
        refine WK.skip (by kernel_rfl) ?_
        refine WKe.code (y := (cR (cR (cR (cR (cB (cL (cR (cR (cB (cB (cR (cL (cR (cR bd23))))))))))))))) (ks' := [.blk 1, .seq (cR (cR (cR (cB (cB (cR (cL (cR (cR bd23))))))))), .lp (cB (cR (cL (cR (cR bd23)))))]) (by kernel_rfl) ?_
        obtain ⟨x18_1, a18_2, e18_3, h⟩ := ix_inv h
        obtain ⟨r18_4, h18_5, h⟩ := bd_inv h
        obtain ⟨x18_6, a18_7, e18_8, h⟩ := ix_inv h
        refine WK.rc (g := [.c (TChain.en x18_1), .a ⟨.data (.slc true none 3 (List.map TVersion.en r18_4)), []⟩, .c (TChain.en x18_6), .s (.o 3) [.data (.slc true none 2 (List.map TChain.en (l4_4.Chains.set r9_1.toNat (TChain.mk x18_6.Key r18_4)))), iv l4_4.Mark]]) (l' := [(.t 1, [iv l4_0]), (.t 3, [.ptr 3 0]), (.t 6, [.ptr 6 0]), (.t 15, [.data (.slc false none 3 (List.map TWrite.en l4_1))]), (.t 16, [iv l4_2]), (.t 17, [iv l4_3]), (.o 3, [.data (.slc true none 2 (List.map TChain.en (l4_4.Chains.set r9_1.toNat (TChain.mk x18_6.Key r18_4)))), iv l4_4.Mark]), (.o 6, [.data (.slc true none 2 (List.map TChain.en l4_5.Chains)), iv l4_5.Mark])]) (.cons (c_ix (e := TChain.en) a18_2 e18_3) (.cons (c_el (e := TChain.en) e18_3) (.cons (Asks.of (C := Meets Try.prog) (chain_Add.meets x18_1.L (TVersion.mk l4_0 x7_1.Val x7_1.Gone) _ h18_5)) (.cons (c_ix (e := TChain.en) a18_7 e18_8) (.cons (c_el (e := TChain.en) e18_8) (.cons (congrArg (fun d : DV => [AV.data d, iv l4_4.Mark]) (c_set (e := TChain.en) (s := 2) (nl := none) (l := l4_4.Chains) (i := r9_1.toNat) (x := (TChain.mk x18_6.Key r18_4)))) (.cons (Eq.refl true) .nil))))))) (by kernel_rfl) (y := (cR (cR (cR (cB (cB (cR (cL (cR (cR bd23)))))))))) (ks' := [.lp (cB (cR (cL (cR (cR bd23)))))]) (by kernel_rfl) ?_
        refine WK.rc (g := []) (l' := [(.t 1, [iv l4_0]), (.t 3, [.ptr 3 0]), (.t 6, [.ptr 6 0]), (.t 15, [.data (.slc false none 3 (List.map TWrite.en l4_1))]), (.t 16, [iv l4_2]), (.t 17, [iv (w64 (l4_3 + 1))]), (.o 3, [.data (.slc true none 2 (List.map TChain.en (l4_4.Chains.set r9_1.toNat (TChain.mk x18_6.Key r18_4)))), iv l4_4.Mark]), (.o 6, [.data (.slc true none 2 (List.map TChain.en l4_5.Chains)), iv l4_5.Mark])]) .nil (by kernel_rfl) (y := (cB (cR (cL (cR (cR bd23)))))) (ks' := []) (by kernel_rfl) ?_
        exact WK.weak (l := [(.t 1, [iv l4_0]), (.t 3, [.ptr 3 0]), (.t 6, [.ptr 6 0]), (.t 15, [.data (.slc false none 3 (List.map TWrite.en l4_1))]), (.t 16, [iv l4_2]), (.t 17, [iv (w64 (l4_3 + 1))]), (.o 3, [.data (.slc true none 2 (List.map TChain.en (l4_4.Chains.set r9_1.toNat (TChain.mk x18_6.Key r18_4)))), iv l4_4.Mark]), (.o 6, [.data (.slc true none 2 (List.map TChain.en l4_5.Chains)), iv l4_5.Mark])]) (wk_of (by kernel_rfl)) (ih (w64 (l4_3 + 1)) (TStore.mk (l4_4.Chains.set r9_1.toNat (TChain.mk x18_6.Key r18_4)) l4_4.Mark) _ h)
    · refine WK.ce (b := (decide (l4_3 < l4_2))) (by kernel_rfl) b6_0 ?_
      refine WK.weak (l := [(.t 3, [.ptr 3 0]), (.t 6, [.ptr 6 0]), (.o 3, [.data (.slc true none 2 (List.map TChain.en l4_4.Chains)), iv l4_4.Mark]), (.o 6, [.data (.slc true none 2 (List.map TChain.en l4_5.Chains)), iv l4_5.Mark])]) (wk_of (by kernel_rfl)) ?_
      refine WK.exit (n := 0) (by kernel_rfl) ?_
      cases some_inj h
      exact WKe.fin (e' := .exit 0) (by kernel_rfl) ⟨rfl, rfl⟩
noncomputable def store_Write (fu : Nat) (s : TStore) (pos : Int) (l : List TWrite) : Option TStore :=
  bd (store_twin fu s) fun r2_1 =>
  bd (store_Write.lp4 fu pos l (l.length : Int) (TStore.mk [] 0) fu 0 r2_1) fun y20_0 =>
  some y20_0
theorem store_Write.meets (fu : Nat) (s : TStore) (pos : Int) (l : List TWrite) (z0 : TStore) (h : store_Write fu s pos l = some z0) : Meets Try.prog ⟨23, [.data (.agg [.slc false none 2 (List.map TChain.en s.Chains), .val (.int .i64 s.Mark)]), iv pos, .data (.slc false none 3 (List.map TWrite.en l))], []⟩ ⟨.data (.agg [.slc true none 2 (List.map TChain.en z0.Chains), .val (.int .i64 z0.Mark)]), []⟩ := by
  refine meets_of (O := store_Write.O) hmix (fn := Try.f23) (code := bd23) (by kernel_rfl) ?_
  refine WK.weak (l := [(.t 0, [.data (.agg [.slc false none 2 (List.map TChain.en s.Chains), .val (.int .i64 s.Mark)])]), (.t 1, [iv pos]), (.t 2, [.data (.slc false none 3 (List.map TWrite.en l))])]) (wk_of (by kernel_rfl)) ?_
  unfold store_Write at h
  refine WK.rs (g := []) (l' := [(.t 1, [iv pos]), (.t 2, [.data (.slc false none 3 (List.map TWrite.en l))]), (.t 3, [.ptr 3 0]), (.t 6, [.ptr 6 0]), (.o 3, [.data (.slc false none 2 (List.map TChain.en s.Chains)), iv s.Mark]), (.o 6, [.data (.slc true none 2 (List.map TChain.en [])), iv 0])]) (by kernel_rfl) .nil (by kernel_rfl) ?_
  obtain ⟨r2_1, h2_2, h⟩ := bd_inv h
  refine WK.rs (g := [.a ⟨.data (.agg [.slc true none 2 (List.map TChain.en r2_1.Chains), .val (.int .i64 r2_1.Mark)]), []⟩]) (l' := [(.t 1, [iv pos]), (.t 2, [.data (.slc false none 3 (List.map TWrite.en l))]), (.t 3, [.ptr 3 0]), (.t 6, [.ptr 6 0]), (.o 3, [.data (.slc true none 2 (List.map TChain.en r2_1.Chains)), iv r2_1.Mark]), (.o 6, [.data (.slc true none 2 (List.map TChain.en [])), iv 0])]) (by kernel_rfl) (.cons (Asks.of (C := Meets Try.prog) (store_twin.meets fu s _ h2_2)) .nil) (by kernel_rfl) ?_
  refine WK.seq (by kernel_rfl) ?_
  refine WK.rs (g := [.s (.t 16) [iv (l.length : Int)]]) (l' := [(.t 1, [iv pos]), (.t 3, [.ptr 3 0]), (.t 6, [.ptr 6 0]), (.t 15, [.data (.slc false none 3 (List.map TWrite.en l))]), (.t 16, [iv (l.length : Int)]), (.t 17, [iv 0]), (.o 3, [.data (.slc true none 2 (List.map TChain.en r2_1.Chains)), iv r2_1.Mark]), (.o 6, [.data (.slc true none 2 (List.map TChain.en [])), iv 0])]) (by kernel_rfl) (.cons (c_len (e := TWrite.en) (l := l)) .nil) (by kernel_rfl) ?_
  refine WK.block (n := 0) (by kernel_rfl) ?_
  obtain ⟨o20, ho20, h⟩ := bd_inv h
  refine WK.weak (l := [(.t 1, [iv pos]), (.t 3, [.ptr 3 0]), (.t 6, [.ptr 6 0]), (.t 15, [.data (.slc false none 3 (List.map TWrite.en l))]), (.t 16, [iv (l.length : Int)]), (.t 17, [iv 0]), (.o 3, [.data (.slc true none 2 (List.map TChain.en r2_1.Chains)), iv r2_1.Mark]), (.o 6, [.data (.slc true none 2 (List.map TChain.en [])), iv 0])]) (wk_of (by kernel_rfl)) ?_
  refine WK.use (store_Write.lp4_ok fu pos l (l.length : Int) (TStore.mk [] 0) _ 0 r2_1 _ ho20) ?_
  intro e_ τ_ hp_
  obtain ⟨y20_0, rfl⟩ : ∃ y, y = o20 := ⟨_, rfl⟩
  obtain ⟨rfl, rfl⟩ := hp_
  refine WKe.code (y := (cR (cR (cR bd23)))) (ks' := []) (by kernel_rfl) ?_
  refine WK.rs (g := []) (l' := [(.t 6, [.ptr 6 0]), (.o 6, [.data (.slc true none 2 (List.map TChain.en y20_0.Chains)), iv y20_0.Mark])]) (by kernel_rfl) .nil (by kernel_rfl) ?_
  refine WK.weak (l := [(.t 6, [.ptr 6 0]), (.o 6, [.data (.slc true none 2 (List.map TChain.en y20_0.Chains)), iv y20_0.Mark])]) (wk_of (by kernel_rfl)) ?_
  refine WK.ret (by kernel_rfl) ?_
  have h_ := some_inj h
  subst h_
  exact WKe.fin (e' := .ret) (by kernel_rfl) (fin_of (g := []) (by first | exact .inl rfl | exact .inr rfl) .nil (by kernel_rfl))
/-- (diwan/store.keeper).chain -/
noncomputable def bd35 : Code := (Try.f35.body).getD .skip
def store_keeper_chain.O : Nat → Nat := fun t => bif ([2, 5, 6] : List Nat).any (Nat.beq t) then 1 else bif ([4] : List Nat).any (Nat.beq t) then 2 else 0
noncomputable def store_keeper_chain (fu : Nat) (s : TStore) (k_v : ByteArray) : Option (List TVersion) :=
  bd (store_keeper_find fu s k_v) fun (r2_1, r2_2) =>
  br r2_2
    (ix s.Chains r2_1 fun x5_1 =>
    some x5_1.L)
    (some [])
theorem store_keeper_chain.meets (fu : Nat) (s : TStore) (k_v : ByteArray) (z0 : List TVersion) (h : store_keeper_chain fu s k_v = some z0) : Meets Try.prog ⟨35, [.data (.agg [.slc false none 2 (List.map TChain.en s.Chains), .val (.int .i64 s.Mark)]), sv k_v], []⟩ ⟨.data (.slc false none 3 (List.map TVersion.en z0)), []⟩ := by
  refine meets_of (O := store_keeper_chain.O) hmix (fn := Try.f35) (code := bd35) (by kernel_rfl) ?_
  refine WK.weak (l := [(.t 0, [.data (.agg [.slc false none 2 (List.map TChain.en s.Chains), .val (.int .i64 s.Mark)])]), (.t 1, [sv k_v])]) (wk_of (by kernel_rfl)) ?_
  unfold store_keeper_chain at h
  refine WK.rs (g := []) (l' := [(.t 1, [sv k_v]), (.t 2, [.ptr 2 0]), (.o 2, [.data (.slc false none 2 (List.map TChain.en s.Chains)), iv s.Mark])]) (by kernel_rfl) .nil (by kernel_rfl) ?_
  refine WK.seq (by kernel_rfl) ?_
  obtain ⟨⟨r2_1, r2_2⟩, h2_3, h⟩ := bd_inv h
  refine WK.rs (g := [.a ⟨.tup [iv r2_1, bv r2_2], []⟩]) (l' := [(.t 2, [.ptr 2 0]), (.t 5, [iv r2_1]), (.t 6, [bv r2_2]), (.o 2, [.data (.slc false none 2 (List.map TChain.en s.Chains)), iv s.Mark])]) (by kernel_rfl) (.cons (Asks.of (C := Meets Try.prog) (store_keeper_find.meets fu s k_v _ _ h2_3)) .nil) (by kernel_rfl) ?_
  refine WK.rs (g := []) (l' := [(.t 2, [.ptr 2 0]), (.t 5, [iv r2_1]), (.t 13, [bv r2_2]), (.o 2, [.data (.slc false none 2 (List.map TChain.en s.Chains)), iv s.Mark])]) (by kernel_rfl) .nil (by kernel_rfl) ?_
  rcases br_inv h with ⟨b4_0, h⟩ | ⟨b4_0, h⟩
  · refine WK.ct (b := r2_2) (by kernel_rfl) b4_0 ?_
    obtain ⟨x5_1, a5_2, e5_3, h⟩ := ix_inv h
    refine WK.rs (g := [.c (TChain.en x5_1)]) (l' := [(.t 4, [.data (.slc false none 3 (List.map TVersion.en x5_1.L))])]) (by kernel_rfl) (.cons (c_ix (e := TChain.en) a5_2 e5_3) (.cons (c_el (e := TChain.en) e5_3) .nil)) (by kernel_rfl) ?_
    refine WK.weak (l := [(.t 4, [.data (.slc false none 3 (List.map TVersion.en x5_1.L))])]) (wk_of (by kernel_rfl)) ?_
    refine WK.ret (by kernel_rfl) ?_
    have h_ := some_inj h
    subst h_
    exact WKe.fin (e' := .ret) (by kernel_rfl) (fin_of (g := []) (by first | exact .inl rfl | exact .inr rfl) .nil (by kernel_rfl))
  · refine WK.ce (b := r2_2) (by kernel_rfl) b4_0 ?_
    refine WK.skip (by kernel_rfl) ?_
    refine WKe.code (y := (cR (cR bd35))) (ks' := []) (by kernel_rfl) ?_
    refine WK.rs (g := []) (l' := [(.t 4, [.data (.slc false (some true) 3 (List.map TVersion.en []))])]) (by kernel_rfl) .nil (by kernel_rfl) ?_
    refine WK.weak (l := [(.t 4, [.data (.slc false none 3 (List.map TVersion.en []))])]) (wk_of (by kernel_rfl)) ?_
    refine WK.ret (by kernel_rfl) ?_
    have h_ := some_inj h
    subst h_
    exact WKe.fin (e' := .ret) (by kernel_rfl) (fin_of (g := []) (by first | exact .inl rfl | exact .inr rfl) .nil (by kernel_rfl))
/-- (diwan/chain.versions).upto -/
noncomputable def bd60 : Code := (Try.f60.body).getD .skip
def chain_versions_upto.O : Nat → Nat := fun t => bif ([4, 5, 6, 7] : List Nat).any (Nat.beq t) then 1 else 0
noncomputable def chain_versions_upto.lp4 (fu : Nat) (l4_0 : Int) (l4_2 : List TVersion) (l4_3 : Int) : Nat → Int → Int → Option Int
  | 0, _, _ => none
  | n_ + 1, l4_1, l4_4 =>
    br (decide (l4_4 < l4_3))
      (ix l4_2 l4_4 fun x7_1 =>
      br (decide (x7_1.Pos ≤ l4_0))
        (chain_versions_upto.lp4 fu l4_0 l4_2 l4_3 n_ (w64 (l4_4 + 1)) (w64 (l4_4 + 1)))
        (chain_versions_upto.lp4 fu l4_0 l4_2 l4_3 n_ l4_1 (w64 (l4_4 + 1))))
      (some l4_1)
noncomputable def chain_versions_upto.lp4_post (l4_0 : Int) (l4_2 : List TVersion) (l4_3 : Int) (r_ : Int) : Wy → St → Prop := fun e τ => match r_ with
  | y0 => e = .exit 0 ∧ τ = ofL [(.t 5, [iv y0])]
theorem chain_versions_upto.lp4_ok (fu : Nat) (l4_0 : Int) (l4_2 : List TVersion) (l4_3 : Int) : ∀ (n_ : Nat) (l4_1 : Int) (l4_4 : Int) (r_ : Int), chain_versions_upto.lp4 fu l4_0 l4_2 l4_3 n_ l4_1 l4_4 = some r_ → WK Try.prog chain_versions_upto.O (Ck Try.prog) (cB (cR (cL (cR (cR bd60))))) [] (ofL [(.t 1, [iv l4_0]), (.t 5, [iv l4_1]), (.t 8, [.data (.slc false none 3 (List.map TVersion.en l4_2))]), (.t 9, [iv l4_3]), (.t 10, [iv l4_4])]) (chain_versions_upto.lp4_post l4_0 l4_2 l4_3 r_) := by
  intro n_
  induction n_ with
  | zero => intro l4_1 l4_4 r_ h; exact no_none h
  | succ n_ ih =>
    intro l4_1 l4_4 r_ h
    refine WK.loop (by kernel_rfl) ?_
    refine WK.rs (g := []) (l' := [(.t 1, [iv l4_0]), (.t 5, [iv l4_1]), (.t 8, [.data (.slc false none 3 (List.map TVersion.en l4_2))]), (.t 9, [iv l4_3]), (.t 10, [iv l4_4]), (.t 11, [bv (decide (l4_4 < l4_3))])]) (by kernel_rfl) .nil (by kernel_rfl) ?_
    refine WK.seq (by kernel_rfl) ?_
    rcases br_inv h with ⟨b6_0, h⟩ | ⟨b6_0, h⟩
    · refine WK.ct (b := (decide (l4_4 < l4_3))) (by kernel_rfl) b6_0 ?_
      refine WK.skip (by kernel_rfl) ?_
      refine WKe.code (y := (cR (cR (cB (cB (cR (cL (cR (cR bd60))))))))) (ks' := [.lp (cB (cR (cL (cR (cR bd60)))))]) (by kernel_rfl) ?_
      refine WK.seq (by kernel_rfl) ?_
      refine WK.block (n := 1) (by kernel_rfl) ?_
      obtain ⟨x7_1, a7_2, e7_3, h⟩ := ix_inv h
      refine WK.rs (g := [.c (TVersion.en x7_1)]) (l' := [(.t 1, [iv l4_0]), (.t 5, [iv l4_1]), (.t 6, [iv l4_4]), (.t 7, [.ptr 7 0]), (.t 8, [.data (.slc false none 3 (List.map TVersion.en l4_2))]), (.t 9, [iv l4_3]), (.t 10, [iv l4_4]), (.o 7, (TVersion.ob x7_1))]) (by kernel_rfl) (.cons (c_ix (e := TVersion.en) a7_2 e7_3) (.cons (c_el (e := TVersion.en) e7_3) .nil)) (by kernel_rfl) ?_
      refine WK.rs (g := []) (l' := [(.t 1, [iv l4_0]), (.t 5, [iv l4_1]), (.t 6, [iv l4_4]), (.t 8, [.data (.slc false none 3 (List.map TVersion.en l4_2))]), (.t 9, [iv l4_3]), (.t 10, [iv l4_4]), (.t 18, [bv (decide (x7_1.Pos ≤ l4_0))])]) (by kernel_rfl) .nil (by kernel_rfl) ?_
      rcases br_inv h with ⟨b9_0, h⟩ | ⟨b9_0, h⟩
      · refine WK.ct (b := (decide (x7_1.Pos ≤ l4_0))) (by kernel_rfl) b9_0 ?_
        refine WK.rc (g := []) (l' := [(.t 1, [iv l4_0]), (.t 5, [iv (w64 (l4_4 + 1))]), (.t 8, [.data (.slc false none 3 (List.map TVersion.en l4_2))]), (.t 9, [iv l4_3]), (.t 10, [iv l4_4])]) .nil (by kernel_rfl) (y := (cR (cR (cR (cB (cB (cR (cL (cR (cR bd60)))))))))) (ks' := [.lp (cB (cR (cL (cR (cR bd60)))))]) (by kernel_rfl) ?_
        refine WK.rc (g := []) (l' := [(.t 1, [iv l4_0]), (.t 5, [iv (w64 (l4_4 + 1))]), (.t 8, [.data (.slc false none 3 (List.map TVersion.en l4_2))]), (.t 9, [iv l4_3]), (.t 10, [iv (w64 (l4_4 + 1))])]) .nil (by kernel_rfl) (y := (cB (cR (cL (cR (cR bd60)))))) (ks' := []) (by kernel_rfl) ?_
        exact WK.weak (l := [(.t 1, [iv l4_0]), (.t 5, [iv (w64 (l4_4 + 1))]), (.t 8, [.data (.slc false none 3 (List.map TVersion.en l4_2))]), (.t 9, [iv l4_3]), (.t 10, [iv (w64 (l4_4 + 1))])]) (wk_of (by kernel_rfl)) (ih (w64 (l4_4 + 1)) (w64 (l4_4 + 1)) _ h)
      · refine WK.ce (b := (decide (x7_1.Pos ≤ l4_0))) (by kernel_rfl) b9_0 ?_
        refine WK.skip (by kernel_rfl) ?_
        refine WKe.code (y := (cR (cR (cR (cB (cB (cR (cL (cR (cR bd60)))))))))) (ks' := [.lp (cB (cR (cL (cR (cR bd60)))))]) (by kernel_rfl) ?_
        refine WK.rc (g := []) (l' := [(.t 1, [iv l4_0]), (.t 5, [iv l4_1]), (.t 8, [.data (.slc false none 3 (List.map TVersion.en l4_2))]), (.t 9, [iv l4_3]), (.t 10, [iv (w64 (l4_4 + 1))])]) .nil (by kernel_rfl) (y := (cB (cR (cL (cR (cR bd60)))))) (ks' := []) (by kernel_rfl) ?_
        exact WK.weak (l := [(.t 1, [iv l4_0]), (.t 5, [iv l4_1]), (.t 8, [.data (.slc false none 3 (List.map TVersion.en l4_2))]), (.t 9, [iv l4_3]), (.t 10, [iv (w64 (l4_4 + 1))])]) (wk_of (by kernel_rfl)) (ih l4_1 (w64 (l4_4 + 1)) _ h)
    · refine WK.ce (b := (decide (l4_4 < l4_3))) (by kernel_rfl) b6_0 ?_
      refine WK.weak (l := [(.t 5, [iv l4_1])]) (wk_of (by kernel_rfl)) ?_
      refine WK.exit (n := 0) (by kernel_rfl) ?_
      cases some_inj h
      exact WKe.fin (e' := .exit 0) (by kernel_rfl) ⟨rfl, rfl⟩
noncomputable def chain_versions_upto (fu : Nat) (l : List TVersion) (pos : Int) : Option Int :=
  bd (chain_versions_upto.lp4 fu pos l (l.length : Int) fu 0 0) fun y13_0 =>
  some y13_0
theorem chain_versions_upto.meets (fu : Nat) (l : List TVersion) (pos : Int) (z0 : Int) (h : chain_versions_upto fu l pos = some z0) : Meets Try.prog ⟨60, [.data (.slc false none 3 (List.map TVersion.en l)), iv pos], []⟩ ⟨iv z0, []⟩ := by
  refine meets_of (O := chain_versions_upto.O) hmix (fn := Try.f60) (code := bd60) (by kernel_rfl) ?_
  refine WK.weak (l := [(.t 0, [.data (.slc false none 3 (List.map TVersion.en l))]), (.t 1, [iv pos])]) (wk_of (by kernel_rfl)) ?_
  unfold chain_versions_upto at h
  refine WK.rs (g := []) (l' := [(.t 0, [.data (.slc false none 3 (List.map TVersion.en l))]), (.t 1, [iv pos])]) (by kernel_rfl) .nil (by kernel_rfl) ?_
  refine WK.rs (g := []) (l' := [(.t 0, [.data (.slc false none 3 (List.map TVersion.en l))]), (.t 1, [iv pos]), (.t 5, [iv 0])]) (by kernel_rfl) .nil (by kernel_rfl) ?_
  refine WK.seq (by kernel_rfl) ?_
  refine WK.rs (g := [.s (.t 9) [iv (l.length : Int)]]) (l' := [(.t 1, [iv pos]), (.t 5, [iv 0]), (.t 8, [.data (.slc false none 3 (List.map TVersion.en l))]), (.t 9, [iv (l.length : Int)]), (.t 10, [iv 0])]) (by kernel_rfl) (.cons (c_len (e := TVersion.en) (l := l)) .nil) (by kernel_rfl) ?_
  refine WK.block (n := 0) (by kernel_rfl) ?_
  obtain ⟨o13, ho13, h⟩ := bd_inv h
  refine WK.weak (l := [(.t 1, [iv pos]), (.t 5, [iv 0]), (.t 8, [.data (.slc false none 3 (List.map TVersion.en l))]), (.t 9, [iv (l.length : Int)]), (.t 10, [iv 0])]) (wk_of (by kernel_rfl)) ?_
  refine WK.use (chain_versions_upto.lp4_ok fu pos l (l.length : Int) _ 0 0 _ ho13) ?_
  intro e_ τ_ hp_
  obtain ⟨y13_0, rfl⟩ : ∃ y, y = o13 := ⟨_, rfl⟩
  obtain ⟨rfl, rfl⟩ := hp_
  refine WKe.code (y := (cR (cR (cR bd60)))) (ks' := []) (by kernel_rfl) ?_
  refine WK.rs (g := []) (l' := [(.t 4, [iv y13_0])]) (by kernel_rfl) .nil (by kernel_rfl) ?_
  refine WK.weak (l := [(.t 4, [iv y13_0])]) (wk_of (by kernel_rfl)) ?_
  refine WK.ret (by kernel_rfl) ?_
  have h_ := some_inj h
  subst h_
  exact WKe.fin (e' := .ret) (by kernel_rfl) (fin_of (g := []) (by first | exact .inl rfl | exact .inr rfl) .nil (by kernel_rfl))
/-- diwan/chain.At -/
noncomputable def bd55 : Code := (Try.f55.body).getD .skip
def chain_At.O : Nat → Nat := fun t => bif ([4, 5, 6, 7, 15] : List Nat).any (Nat.beq t) then 1 else 0
noncomputable def chain_At (fu : Nat) (l : List TVersion) (pos : Int) : Option (TVersion × Bool) :=
  bd (chain_versions_upto fu l pos) fun r3_1 =>
  br (r3_1 == 0)
    (some ((TVersion.mk 0 ByteArray.empty false), false))
    (ix l (w64 (r3_1 - 1)) fun x7_1 =>
    some (x7_1, true))
theorem chain_At.meets (fu : Nat) (l : List TVersion) (pos : Int) (z0 : TVersion) (z1 : Bool) (h : chain_At fu l pos = some (z0, z1)) : Meets Try.prog ⟨55, [.data (.slc false none 3 (List.map TVersion.en l)), iv pos], []⟩ ⟨.tup [.data (TVersion.ag z0), bv z1], []⟩ := by
  refine meets_of (O := chain_At.O) hmix (fn := Try.f55) (code := bd55) (by kernel_rfl) ?_
  refine WK.weak (l := [(.t 0, [.data (.slc false none 3 (List.map TVersion.en l))]), (.t 1, [iv pos])]) (wk_of (by kernel_rfl)) ?_
  unfold chain_At at h
  refine WK.rs (g := []) (l' := [(.t 0, [.data (.slc false none 3 (List.map TVersion.en l))]), (.t 1, [iv pos]), (.t 4, [.ptr 4 0]), (.o 4, (TVersion.ob (TVersion.mk 0 ByteArray.empty false)))]) (by kernel_rfl) .nil (by kernel_rfl) ?_
  refine WK.rs (g := []) (l' := [(.t 0, [.data (.slc false none 3 (List.map TVersion.en l))]), (.t 1, [iv pos]), (.t 4, [.ptr 4 0]), (.t 6, [.fn (.func 60) [.data (.slc false none 3 (List.map TVersion.en l))] []]), (.o 4, (TVersion.ob (TVersion.mk 0 ByteArray.empty false)))]) (by kernel_rfl) .nil (by kernel_rfl) ?_
  obtain ⟨r3_1, h3_2, h⟩ := bd_inv h
  refine WK.rs (g := [.a ⟨iv r3_1, []⟩]) (l' := [(.t 0, [.data (.slc false none 3 (List.map TVersion.en l))]), (.t 4, [.ptr 4 0]), (.t 7, [iv r3_1]), (.o 4, (TVersion.ob (TVersion.mk 0 ByteArray.empty false)))]) (by kernel_rfl) (.cons (Asks.of (C := Meets Try.prog) (chain_versions_upto.meets fu l pos _ h3_2)) .nil) (by kernel_rfl) ?_
  refine WK.seq (by kernel_rfl) ?_
  refine WK.rs (g := []) (l' := [(.t 0, [.data (.slc false none 3 (List.map TVersion.en l))]), (.t 4, [.ptr 4 0]), (.t 7, [iv r3_1]), (.t 14, [bv (r3_1 == 0)]), (.o 4, (TVersion.ob (TVersion.mk 0 ByteArray.empty false)))]) (by kernel_rfl) .nil (by kernel_rfl) ?_
  rcases br_inv h with ⟨b5_0, h⟩ | ⟨b5_0, h⟩
  · refine WK.ct (b := (r3_1 == 0)) (by kernel_rfl) b5_0 ?_
    refine WK.rs (g := []) (l' := [(.t 4, [.ptr 4 0]), (.t 5, [bv false]), (.o 4, (TVersion.ob (TVersion.mk 0 ByteArray.empty false)))]) (by kernel_rfl) .nil (by kernel_rfl) ?_
    refine WK.weak (l := [(.t 4, [.ptr 4 0]), (.t 5, [bv false]), (.o 4, (TVersion.ob (TVersion.mk 0 ByteArray.empty false)))]) (wk_of (by kernel_rfl)) ?_
    refine WK.ret (by kernel_rfl) ?_
    have h_0 := some_inj h
    obtain ⟨g_1, h_1⟩ := Prod.mk.inj h_0
    subst g_1
    subst h_1
    exact WKe.fin (e' := .ret) (by kernel_rfl) (fin_of (g := []) (by first | exact .inl rfl | exact .inr rfl) .nil (by kernel_rfl))
  · refine WK.ce (b := (r3_1 == 0)) (by kernel_rfl) b5_0 ?_
    refine WK.skip (by kernel_rfl) ?_
    refine WKe.code (y := (cR (cR (cR (cR bd55))))) (ks' := []) (by kernel_rfl) ?_
    obtain ⟨x7_1, a7_2, e7_3, h⟩ := ix_inv h
    refine WK.rs (g := [.c (TVersion.en x7_1)]) (l' := [(.t 4, [.ptr 4 0]), (.t 5, [bv true]), (.o 4, (TVersion.ob x7_1))]) (by kernel_rfl) (.cons (c_ix (e := TVersion.en) a7_2 e7_3) (.cons (c_el (e := TVersion.en) e7_3) .nil)) (by kernel_rfl) ?_
    refine WK.weak (l := [(.t 4, [.ptr 4 0]), (.t 5, [bv true]), (.o 4, (TVersion.ob x7_1))]) (wk_of (by kernel_rfl)) ?_
    refine WK.ret (by kernel_rfl) ?_
    have h_0 := some_inj h
    obtain ⟨g_1, h_1⟩ := Prod.mk.inj h_0
    subst g_1
    subst h_1
    exact WKe.fin (e' := .ret) (by kernel_rfl) (fin_of (g := []) (by first | exact .inl rfl | exact .inr rfl) .nil (by kernel_rfl))
/-- diwan/store.read -/
noncomputable def bd36 : Code := (Try.f36.body).getD .skip
def store_read.O : Nat → Nat := fun t => bif ([6, 7, 8, 13, 26] : List Nat).any (Nat.beq t) then 1 else 0
noncomputable def store_read (fu : Nat) (k_v : ByteArray) (l : List TVersion) (pos : Int) : Option TRead :=
  bd (chain_At fu l pos) fun (r2_1, r2_2) =>
  br r2_2
    (some (TRead.mk k_v r2_1.Pos r2_1.Val (!r2_1.Gone)))
    (some (TRead.mk k_v r2_1.Pos r2_1.Val false))
theorem store_read.meets (fu : Nat) (k_v : ByteArray) (l : List TVersion) (pos : Int) (z0 : TRead) (h : store_read fu k_v l pos = some z0) : Meets Try.prog ⟨36, [sv k_v, .data (.slc false none 3 (List.map TVersion.en l)), iv pos], []⟩ ⟨.data (TRead.ag z0), []⟩ := by
  refine meets_of (O := store_read.O) hmix (fn := Try.f36) (code := bd36) (by kernel_rfl) ?_
  refine WK.weak (l := [(.t 0, [sv k_v]), (.t 1, [.data (.slc false none 3 (List.map TVersion.en l))]), (.t 2, [iv pos])]) (wk_of (by kernel_rfl)) ?_
  unfold store_read at h
  refine WK.rs (g := []) (l' := [(.t 0, [sv k_v]), (.t 1, [.data (.slc false none 3 (List.map TVersion.en l))]), (.t 2, [iv pos]), (.t 6, [.ptr 6 0]), (.o 6, (TRead.ob (TRead.mk ByteArray.empty 0 ByteArray.empty false)))]) (by kernel_rfl) .nil (by kernel_rfl) ?_
  obtain ⟨⟨r2_1, r2_2⟩, h2_3, h⟩ := bd_inv h
  refine WK.rs (g := [.a ⟨.tup [.data (TVersion.ag r2_1), bv r2_2], []⟩]) (l' := [(.t 0, [sv k_v]), (.t 6, [.ptr 6 0]), (.t 7, [.ptr 7 0]), (.t 8, [bv r2_2]), (.o 6, (TRead.ob (TRead.mk ByteArray.empty 0 ByteArray.empty false))), (.o 7, (TVersion.ob r2_1))]) (by kernel_rfl) (.cons (Asks.of (C := Meets Try.prog) (chain_At.meets fu l pos _ _ h2_3)) .nil) (by kernel_rfl) ?_
  rcases br_inv h with ⟨b3_1, h⟩ | ⟨b3_1, h⟩
  · refine WK.rs (g := [.b true, .b true, .b true, .b true]) (l' := [(.t 6, [.ptr 6 0]), (.o 6, (TRead.ob (TRead.mk k_v r2_1.Pos r2_1.Val (!r2_1.Gone))))]) (by kernel_rfl) (.cons b3_1 (.cons b3_1 (.cons b3_1 (.cons b3_1 .nil)))) (by kernel_rfl) ?_
    refine WK.weak (l := [(.t 6, [.ptr 6 0]), (.o 6, (TRead.ob (TRead.mk k_v r2_1.Pos r2_1.Val (!r2_1.Gone))))]) (wk_of (by kernel_rfl)) ?_
    refine WK.ret (by kernel_rfl) ?_
    have h_ := some_inj h
    subst h_
    exact WKe.fin (e' := .ret) (by kernel_rfl) (fin_of (g := []) (by first | exact .inl rfl | exact .inr rfl) .nil (by kernel_rfl))
  · refine WK.rs (g := [.b false, .b false, .b false, .b false]) (l' := [(.t 6, [.ptr 6 0]), (.o 6, (TRead.ob (TRead.mk k_v r2_1.Pos r2_1.Val false)))]) (by kernel_rfl) (.cons b3_1 (.cons b3_1 (.cons b3_1 (.cons b3_1 .nil)))) (by kernel_rfl) ?_
    refine WK.weak (l := [(.t 6, [.ptr 6 0]), (.o 6, (TRead.ob (TRead.mk k_v r2_1.Pos r2_1.Val false)))]) (wk_of (by kernel_rfl)) ?_
    refine WK.ret (by kernel_rfl) ?_
    have h_ := some_inj h
    subst h_
    exact WKe.fin (e' := .ret) (by kernel_rfl) (fin_of (g := []) (by first | exact .inl rfl | exact .inr rfl) .nil (by kernel_rfl))
/-- diwan/store.Get -/
noncomputable def bd14 : Code := (Try.f14.body).getD .skip
def store_Get.O : Nat → Nat := fun t => bif ([3, 6, 7, 8, 13, 20] : List Nat).any (Nat.beq t) then 1 else 0
noncomputable def store_Get (fu : Nat) (s : TStore) (k_v : ByteArray) (pos : Int) : Option (TRead × Int) :=
  br (decide (pos < s.Mark))
    (some ((TRead.mk ByteArray.empty 0 ByteArray.empty false), 4))
    (bd (store_keeper_chain fu s k_v) fun r6_1 =>
    bd (store_read fu k_v r6_1 pos) fun r6_3 =>
    some (r6_3, 0))
theorem store_Get.meets (fu : Nat) (s : TStore) (k_v : ByteArray) (pos : Int) (z0 : TRead) (z1 : Int) (h : store_Get fu s k_v pos = some (z0, z1)) : Meets Try.prog ⟨14, [.data (.agg [.slc false none 2 (List.map TChain.en s.Chains), .val (.int .i64 s.Mark)]), sv k_v, iv pos], []⟩ ⟨.tup [.data (TRead.ag z0), iv z1], []⟩ := by
  refine meets_of (O := store_Get.O) hmix (fn := Try.f14) (code := bd14) (by kernel_rfl) ?_
  refine WK.weak (l := [(.t 0, [.data (.agg [.slc false none 2 (List.map TChain.en s.Chains), .val (.int .i64 s.Mark)])]), (.t 1, [sv k_v]), (.t 2, [iv pos])]) (wk_of (by kernel_rfl)) ?_
  unfold store_Get at h
  refine WK.rs (g := []) (l' := [(.t 1, [sv k_v]), (.t 2, [iv pos]), (.t 3, [.ptr 3 0]), (.t 6, [.ptr 6 0]), (.o 3, [.data (.slc false none 2 (List.map TChain.en s.Chains)), iv s.Mark]), (.o 6, (TRead.ob (TRead.mk ByteArray.empty 0 ByteArray.empty false)))]) (by kernel_rfl) .nil (by kernel_rfl) ?_
  refine WK.seq (by kernel_rfl) ?_
  refine WK.rs (g := []) (l' := [(.t 1, [sv k_v]), (.t 2, [iv pos]), (.t 3, [.ptr 3 0]), (.t 6, [.ptr 6 0]), (.t 12, [bv (decide (pos < s.Mark))]), (.o 3, [.data (.slc false none 2 (List.map TChain.en s.Chains)), iv s.Mark]), (.o 6, (TRead.ob (TRead.mk ByteArray.empty 0 ByteArray.empty false)))]) (by kernel_rfl) .nil (by kernel_rfl) ?_
  rcases br_inv h with ⟨b3_0, h⟩ | ⟨b3_0, h⟩
  · refine WK.ct (b := (decide (pos < s.Mark))) (by kernel_rfl) b3_0 ?_
    refine WK.rs (g := []) (l' := [(.t 6, [.ptr 6 0]), (.t 7, [iv 4]), (.o 6, (TRead.ob (TRead.mk ByteArray.empty 0 ByteArray.empty false)))]) (by kernel_rfl) .nil (by kernel_rfl) ?_
    refine WK.weak (l := [(.t 6, [.ptr 6 0]), (.t 7, [iv 4]), (.o 6, (TRead.ob (TRead.mk ByteArray.empty 0 ByteArray.empty false)))]) (wk_of (by kernel_rfl)) ?_
    refine WK.ret (by kernel_rfl) ?_
    have h_0 := some_inj h
    obtain ⟨g_1, h_1⟩ := Prod.mk.inj h_0
    subst g_1
    subst h_1
    exact WKe.fin (e' := .ret) (by kernel_rfl) (fin_of (g := []) (by first | exact .inl rfl | exact .inr rfl) .nil (by kernel_rfl))
  · refine WK.ce (b := (decide (pos < s.Mark))) (by kernel_rfl) b3_0 ?_
    refine WK.skip (by kernel_rfl) ?_
    refine WKe.code (y := (cR (cR bd14))) (ks' := []) (by kernel_rfl) ?_
    refine WK.rs (g := []) (l' := [(.t 1, [sv k_v]), (.t 2, [iv pos]), (.t 3, [.ptr 3 0]), (.t 6, [.ptr 6 0]), (.t 8, [.fn (.func 35) [] []]), (.o 3, [.data (.slc false none 2 (List.map TChain.en s.Chains)), iv s.Mark]), (.o 6, (TRead.ob (TRead.mk ByteArray.empty 0 ByteArray.empty false)))]) (by kernel_rfl) .nil (by kernel_rfl) ?_
    obtain ⟨r6_1, h6_2, h⟩ := bd_inv h
    obtain ⟨r6_3, h6_4, h⟩ := bd_inv h
    refine WK.rs (g := [.a ⟨.data (.slc false none 3 (List.map TVersion.en r6_1)), []⟩, .a ⟨.data (TRead.ag r6_3), []⟩]) (l' := [(.t 6, [.ptr 6 0]), (.t 7, [iv 0]), (.o 6, (TRead.ob r6_3))]) (by kernel_rfl) (.cons (Asks.of (C := Meets Try.prog) (store_keeper_chain.meets fu s k_v _ h6_2)) (.cons (Asks.of (C := Meets Try.prog) (store_read.meets fu k_v r6_1 pos _ h6_4)) .nil)) (by kernel_rfl) ?_
    refine WK.weak (l := [(.t 6, [.ptr 6 0]), (.t 7, [iv 0]), (.o 6, (TRead.ob r6_3))]) (wk_of (by kernel_rfl)) ?_
    refine WK.ret (by kernel_rfl) ?_
    have h_0 := some_inj h
    obtain ⟨g_1, h_1⟩ := Prod.mk.inj h_0
    subst g_1
    subst h_1
    exact WKe.fin (e' := .ret) (by kernel_rfl) (fin_of (g := []) (by first | exact .inl rfl | exact .inr rfl) .nil (by kernel_rfl))
/-- diwan/key.Within -/
noncomputable def bd41 : Code := (Try.f41.body).getD .skip
def key_Within.O : Nat → Nat := fun t => bif ([6] : List Nat).any (Nat.beq t) then 1 else 0
noncomputable def key_Within (k_v : ByteArray) (from_v : ByteArray) (to : ByteArray) : Option Bool :=
  br ((Op.bytesLess from_v.toList k_v.toList) || (from_v.toList == k_v.toList))
    (br (to.toList == ByteArray.empty.toList)
      (some true)
      (some (Op.bytesLess k_v.toList to.toList)))
    (some false)
theorem key_Within.meets (k_v : ByteArray) (from_v : ByteArray) (to : ByteArray) (z0 : Bool) (h : key_Within k_v from_v to = some z0) : Meets Try.prog ⟨41, [sv k_v, sv from_v, sv to], []⟩ ⟨bv z0, []⟩ := by
  refine meets_of (O := key_Within.O) hmix (fn := Try.f41) (code := bd41) (by kernel_rfl) ?_
  refine WK.weak (l := [(.t 0, [sv k_v]), (.t 1, [sv from_v]), (.t 2, [sv to])]) (wk_of (by kernel_rfl)) ?_
  unfold key_Within at h
  refine WK.rs (g := []) (l' := [(.t 0, [sv k_v]), (.t 1, [sv from_v]), (.t 2, [sv to])]) (by kernel_rfl) .nil (by kernel_rfl) ?_
  rcases br_inv h with ⟨b2_1, h⟩ | ⟨b2_1, h⟩
  · rcases br_inv h with ⟨b2_2, h⟩ | ⟨b2_2, h⟩
    · refine WK.rs (g := [.b true, .b true, .b true, .b true, .b true, .b true, .b true, .b true, .b true]) (l' := [(.t 6, [bv true])]) (by kernel_rfl) (.cons b2_1 (.cons b2_1 (.cons b2_1 (.cons b2_2 (.cons b2_2 (.cons b2_2 (.cons b2_1 (.cons b2_2 (.cons b2_1 .nil))))))))) (by kernel_rfl) ?_
      refine WK.weak (l := [(.t 6, [bv true])]) (wk_of (by kernel_rfl)) ?_
      refine WK.ret (by kernel_rfl) ?_
      have h_ := some_inj h
      subst h_
      exact WKe.fin (e' := .ret) (by kernel_rfl) (fin_of (g := []) (by first | exact .inl rfl | exact .inr rfl) .nil (by kernel_rfl))
    · refine WK.rs (g := [.b true, .b true, .b true, .b false, .b false, .b false, .b true, .b false, .b true]) (l' := [(.t 6, [bv (Op.bytesLess k_v.toList to.toList)])]) (by kernel_rfl) (.cons b2_1 (.cons b2_1 (.cons b2_1 (.cons b2_2 (.cons b2_2 (.cons b2_2 (.cons b2_1 (.cons b2_2 (.cons b2_1 .nil))))))))) (by kernel_rfl) ?_
      refine WK.weak (l := [(.t 6, [bv (Op.bytesLess k_v.toList to.toList)])]) (wk_of (by kernel_rfl)) ?_
      refine WK.ret (by kernel_rfl) ?_
      have h_ := some_inj h
      subst h_
      exact WKe.fin (e' := .ret) (by kernel_rfl) (fin_of (g := []) (by first | exact .inl rfl | exact .inr rfl) .nil (by kernel_rfl))
  · refine WK.rs (g := [.b false, .b false, .b false, .b false, .b false]) (l' := [(.t 6, [bv false])]) (by kernel_rfl) (.cons b2_1 (.cons b2_1 (.cons b2_1 (.cons b2_1 (.cons b2_1 .nil))))) (by kernel_rfl) ?_
    refine WK.weak (l := [(.t 6, [bv false])]) (wk_of (by kernel_rfl)) ?_
    refine WK.ret (by kernel_rfl) ?_
    have h_ := some_inj h
    subst h_
    exact WKe.fin (e' := .ret) (by kernel_rfl) (fin_of (g := []) (by first | exact .inl rfl | exact .inr rfl) .nil (by kernel_rfl))
/-- diwan/store.Span -/
noncomputable def bd18 : Code := (Try.f18.body).getD .skip
def store_Span.O : Nat → Nat := fun t => bif ([4, 8, 9, 11, 12, 29, 41] : List Nat).any (Nat.beq t) then 1 else 0
noncomputable def store_Span.lp6 (fu : Nat) (l6_0 : ByteArray) (l6_1 : ByteArray) (l6_2 : Int) (l6_4 : List TChain) (l6_5 : Int) : Nat → (List TRead) → Int → Option (List TRead)
  | 0, _, _ => none
  | n_ + 1, l6_3, l6_6 =>
    br (decide (l6_6 < l6_5))
      (ix l6_4 l6_6 fun x9_1 =>
      bd (store_read fu x9_1.Key x9_1.L l6_2) fun r10_1 =>
      br r10_1.There
        (bd (key_Within x9_1.Key l6_0 l6_1) fun r11_2 =>
        br r11_2
          (gd (decide (l6_3.length + ([r10_1] : List TRead).length ≤ 4294967296)) <|
          store_Span.lp6 fu l6_0 l6_1 l6_2 l6_4 l6_5 n_ (l6_3 ++ ([r10_1] : List TRead)) (w64 (l6_6 + 1)))
          (store_Span.lp6 fu l6_0 l6_1 l6_2 l6_4 l6_5 n_ l6_3 (w64 (l6_6 + 1))))
        (store_Span.lp6 fu l6_0 l6_1 l6_2 l6_4 l6_5 n_ l6_3 (w64 (l6_6 + 1))))
      (some l6_3)
noncomputable def store_Span.lp6_post (l6_0 : ByteArray) (l6_1 : ByteArray) (l6_2 : Int) (l6_4 : List TChain) (l6_5 : Int) (r_ : (List TRead)) : Wy → St → Prop := fun e τ => match r_ with
  | y0 => e = .exit 0 ∧ τ = ofL [(.t 8, [.data (.slc true none 4 (List.map TRead.en y0))])]
theorem store_Span.lp6_ok (fu : Nat) (l6_0 : ByteArray) (l6_1 : ByteArray) (l6_2 : Int) (l6_4 : List TChain) (l6_5 : Int) : ∀ (n_ : Nat) (l6_3 : List TRead) (l6_6 : Int) (r_ : (List TRead)), store_Span.lp6 fu l6_0 l6_1 l6_2 l6_4 l6_5 n_ l6_3 l6_6 = some r_ → WK Try.prog store_Span.O (Ck Try.prog) (cB (cR (cL (cR (cR bd18))))) [] (ofL [(.t 1, [sv l6_0]), (.t 2, [sv l6_1]), (.t 3, [iv l6_2]), (.t 8, [.data (.slc true none 4 (List.map TRead.en l6_3))]), (.t 18, [.data (.slc false none 2 (List.map TChain.en l6_4))]), (.t 19, [iv l6_5]), (.t 20, [iv l6_6])]) (store_Span.lp6_post l6_0 l6_1 l6_2 l6_4 l6_5 r_) := by
  intro n_
  induction n_ with
  | zero => intro l6_3 l6_6 r_ h; exact no_none h
  | succ n_ ih =>
    intro l6_3 l6_6 r_ h
    refine WK.loop (by kernel_rfl) ?_
    refine WK.rs (g := []) (l' := [(.t 1, [sv l6_0]), (.t 2, [sv l6_1]), (.t 3, [iv l6_2]), (.t 8, [.data (.slc true none 4 (List.map TRead.en l6_3))]), (.t 18, [.data (.slc false none 2 (List.map TChain.en l6_4))]), (.t 19, [iv l6_5]), (.t 20, [iv l6_6]), (.t 21, [bv (decide (l6_6 < l6_5))])]) (by kernel_rfl) .nil (by kernel_rfl) ?_
    refine WK.seq (by kernel_rfl) ?_
    rcases br_inv h with ⟨b8_0, h⟩ | ⟨b8_0, h⟩
    · refine WK.ct (b := (decide (l6_6 < l6_5))) (by kernel_rfl) b8_0 ?_
      refine WK.skip (by kernel_rfl) ?_
      refine WKe.code (y := (cR (cR (cB (cB (cR (cL (cR (cR bd18))))))))) (ks' := [.lp (cB (cR (cL (cR (cR bd18)))))]) (by kernel_rfl) ?_
      refine WK.seq (by kernel_rfl) ?_
      refine WK.block (n := 1) (by kernel_rfl) ?_
      obtain ⟨x9_1, a9_2, e9_3, h⟩ := ix_inv h
      refine WK.rs (g := [.c (TChain.en x9_1)]) (l' := [(.t 1, [sv l6_0]), (.t 2, [sv l6_1]), (.t 3, [iv l6_2]), (.t 8, [.data (.slc true none 4 (List.map TRead.en l6_3))]), (.t 11, [.ptr 11 0]), (.t 18, [.data (.slc false none 2 (List.map TChain.en l6_4))]), (.t 19, [iv l6_5]), (.t 20, [iv l6_6]), (.o 11, [sv x9_1.Key, .data (.slc false none 3 (List.map TVersion.en x9_1.L))])]) (by kernel_rfl) (.cons (c_ix (e := TChain.en) a9_2 e9_3) (.cons (c_el (e := TChain.en) e9_3) .nil)) (by kernel_rfl) ?_
      obtain ⟨r10_1, h10_2, h⟩ := bd_inv h
      refine WK.rs (g := [.a ⟨.data (TRead.ag r10_1), []⟩]) (l' := [(.t 1, [sv l6_0]), (.t 2, [sv l6_1]), (.t 3, [iv l6_2]), (.t 8, [.data (.slc true none 4 (List.map TRead.en l6_3))]), (.t 11, [.ptr 11 0]), (.t 12, [.ptr 12 0]), (.t 18, [.data (.slc false none 2 (List.map TChain.en l6_4))]), (.t 19, [iv l6_5]), (.t 20, [iv l6_6]), (.o 11, [sv x9_1.Key, .data (.slc false none 3 (List.map TVersion.en x9_1.L))]), (.o 12, (TRead.ob r10_1))]) (by kernel_rfl) (.cons (Asks.of (C := Meets Try.prog) (store_read.meets fu x9_1.Key x9_1.L l6_2 _ h10_2)) .nil) (by kernel_rfl) ?_
      rcases br_inv h with ⟨b11_1, h⟩ | ⟨b11_1, h⟩
      · obtain ⟨r11_2, h11_3, h⟩ := bd_inv h
        refine WK.rs (g := [.b true, .b true, .b true, .b true, .b true, .a ⟨bv r11_2, []⟩, .b true]) (l' := [(.t 1, [sv l6_0]), (.t 2, [sv l6_1]), (.t 3, [iv l6_2]), (.t 8, [.data (.slc true none 4 (List.map TRead.en l6_3))]), (.t 12, [.ptr 12 0]), (.t 18, [.data (.slc false none 2 (List.map TChain.en l6_4))]), (.t 19, [iv l6_5]), (.t 20, [iv l6_6]), (.t 38, [bv r11_2]), (.o 12, (TRead.ob r10_1))]) (by kernel_rfl) (.cons b11_1 (.cons b11_1 (.cons b11_1 (.cons b11_1 (.cons b11_1 (.cons (Asks.of (C := Meets Try.prog) (key_Within.meets x9_1.Key l6_0 l6_1 _ h11_3)) (.cons b11_1 .nil))))))) (by kernel_rfl) ?_
        rcases br_inv h with ⟨b12_0, h⟩ | ⟨b12_0, h⟩
        · refine WK.ct (b := r11_2) (by kernel_rfl) b12_0 ?_
          obtain ⟨c13_1, h⟩ := gd_inv h
          refine WK.rc (g := [.s (.t 42) [.data (.slc true none 4 (List.map TRead.en (l6_3 ++ ([r10_1] : List TRead))))]]) (l' := [(.t 1, [sv l6_0]), (.t 2, [sv l6_1]), (.t 3, [iv l6_2]), (.t 8, [.data (.slc true none 4 (List.map TRead.en (l6_3 ++ ([r10_1] : List TRead))))]), (.t 18, [.data (.slc false none 2 (List.map TChain.en l6_4))]), (.t 19, [iv l6_5]), (.t 20, [iv l6_6])]) (.cons (c_al (e := TRead.en) (f := TRead.en) c13_1) (.cons (congrArg (fun d : DV => [AV.data d]) (c_app (e := TRead.en) (s := 4) (l := l6_3) (m := ([r10_1] : List TRead)))) .nil)) (by kernel_rfl) (y := (cR (cR (cR (cB (cB (cR (cL (cR (cR bd18)))))))))) (ks' := [.lp (cB (cR (cL (cR (cR bd18)))))]) (by kernel_rfl) ?_
          refine WK.rc (g := []) (l' := [(.t 1, [sv l6_0]), (.t 2, [sv l6_1]), (.t 3, [iv l6_2]), (.t 8, [.data (.slc true none 4 (List.map TRead.en (l6_3 ++ ([r10_1] : List TRead))))]), (.t 18, [.data (.slc false none 2 (List.map TChain.en l6_4))]), (.t 19, [iv l6_5]), (.t 20, [iv (w64 (l6_6 + 1))])]) .nil (by kernel_rfl) (y := (cB (cR (cL (cR (cR bd18)))))) (ks' := []) (by kernel_rfl) ?_
          exact WK.weak (l := [(.t 1, [sv l6_0]), (.t 2, [sv l6_1]), (.t 3, [iv l6_2]), (.t 8, [.data (.slc true none 4 (List.map TRead.en (l6_3 ++ ([r10_1] : List TRead))))]), (.t 18, [.data (.slc false none 2 (List.map TChain.en l6_4))]), (.t 19, [iv l6_5]), (.t 20, [iv (w64 (l6_6 + 1))])]) (wk_of (by kernel_rfl)) (ih (l6_3 ++ ([r10_1] : List TRead)) (w64 (l6_6 + 1)) _ h)
        · refine WK.ce (b := r11_2) (by kernel_rfl) b12_0 ?_
          refine WK.skip (by kernel_rfl) ?_
          refine WKe.code (y := (cR (cR (cR (cB (cB (cR (cL (cR (cR bd18)))))))))) (ks' := [.lp (cB (cR (cL (cR (cR bd18)))))]) (by kernel_rfl) ?_
          refine WK.rc (g := []) (l' := [(.t 1, [sv l6_0]), (.t 2, [sv l6_1]), (.t 3, [iv l6_2]), (.t 8, [.data (.slc true none 4 (List.map TRead.en l6_3))]), (.t 18, [.data (.slc false none 2 (List.map TChain.en l6_4))]), (.t 19, [iv l6_5]), (.t 20, [iv (w64 (l6_6 + 1))])]) .nil (by kernel_rfl) (y := (cB (cR (cL (cR (cR bd18)))))) (ks' := []) (by kernel_rfl) ?_
          exact WK.weak (l := [(.t 1, [sv l6_0]), (.t 2, [sv l6_1]), (.t 3, [iv l6_2]), (.t 8, [.data (.slc true none 4 (List.map TRead.en l6_3))]), (.t 18, [.data (.slc false none 2 (List.map TChain.en l6_4))]), (.t 19, [iv l6_5]), (.t 20, [iv (w64 (l6_6 + 1))])]) (wk_of (by kernel_rfl)) (ih l6_3 (w64 (l6_6 + 1)) _ h)
      · refine WK.rs (g := [.b false, .b false, .b false, .b false, .b false, .b false]) (l' := [(.t 1, [sv l6_0]), (.t 2, [sv l6_1]), (.t 3, [iv l6_2]), (.t 8, [.data (.slc true none 4 (List.map TRead.en l6_3))]), (.t 12, [.ptr 12 0]), (.t 18, [.data (.slc false none 2 (List.map TChain.en l6_4))]), (.t 19, [iv l6_5]), (.t 20, [iv l6_6]), (.t 38, [bv false]), (.o 12, (TRead.ob r10_1))]) (by kernel_rfl) (.cons b11_1 (.cons b11_1 (.cons b11_1 (.cons b11_1 (.cons b11_1 (.cons b11_1 .nil)))))) (by kernel_rfl) ?_
        refine WK.ce (b := false) (by kernel_rfl) rfl ?_
        refine WK.skip (by kernel_rfl) ?_
        refine WKe.code (y := (cR (cR (cR (cB (cB (cR (cL (cR (cR bd18)))))))))) (ks' := [.lp (cB (cR (cL (cR (cR bd18)))))]) (by kernel_rfl) ?_
        refine WK.rc (g := []) (l' := [(.t 1, [sv l6_0]), (.t 2, [sv l6_1]), (.t 3, [iv l6_2]), (.t 8, [.data (.slc true none 4 (List.map TRead.en l6_3))]), (.t 18, [.data (.slc false none 2 (List.map TChain.en l6_4))]), (.t 19, [iv l6_5]), (.t 20, [iv (w64 (l6_6 + 1))])]) .nil (by kernel_rfl) (y := (cB (cR (cL (cR (cR bd18)))))) (ks' := []) (by kernel_rfl) ?_
        exact WK.weak (l := [(.t 1, [sv l6_0]), (.t 2, [sv l6_1]), (.t 3, [iv l6_2]), (.t 8, [.data (.slc true none 4 (List.map TRead.en l6_3))]), (.t 18, [.data (.slc false none 2 (List.map TChain.en l6_4))]), (.t 19, [iv l6_5]), (.t 20, [iv (w64 (l6_6 + 1))])]) (wk_of (by kernel_rfl)) (ih l6_3 (w64 (l6_6 + 1)) _ h)
    · refine WK.ce (b := (decide (l6_6 < l6_5))) (by kernel_rfl) b8_0 ?_
      refine WK.weak (l := [(.t 8, [.data (.slc true none 4 (List.map TRead.en l6_3))])]) (wk_of (by kernel_rfl)) ?_
      refine WK.exit (n := 0) (by kernel_rfl) ?_
      cases some_inj h
      exact WKe.fin (e' := .exit 0) (by kernel_rfl) ⟨rfl, rfl⟩
noncomputable def store_Span (fu : Nat) (s : TStore) (from_v : ByteArray) (to : ByteArray) (pos : Int) : Option (List TRead × Int) :=
  br (decide (pos < s.Mark))
    (some ([], 4))
    (bd (store_Span.lp6 fu from_v to pos s.Chains (s.Chains.length : Int) fu [] 0) fun y17_0 =>
    some (y17_0, 0))
theorem store_Span.meets (fu : Nat) (s : TStore) (from_v : ByteArray) (to : ByteArray) (pos : Int) (z0 : List TRead) (z1 : Int) (h : store_Span fu s from_v to pos = some (z0, z1)) : Meets Try.prog ⟨18, [.data (.agg [.slc false none 2 (List.map TChain.en s.Chains), .val (.int .i64 s.Mark)]), sv from_v, sv to, iv pos], []⟩ ⟨.tup [.data (.slc false none 4 (List.map TRead.en z0)), iv z1], []⟩ := by
  refine meets_of (O := store_Span.O) hmix (fn := Try.f18) (code := bd18) (by kernel_rfl) ?_
  refine WK.weak (l := [(.t 0, [.data (.agg [.slc false none 2 (List.map TChain.en s.Chains), .val (.int .i64 s.Mark)])]), (.t 1, [sv from_v]), (.t 2, [sv to]), (.t 3, [iv pos])]) (wk_of (by kernel_rfl)) ?_
  unfold store_Span at h
  refine WK.rs (g := []) (l' := [(.t 1, [sv from_v]), (.t 2, [sv to]), (.t 3, [iv pos]), (.t 4, [.ptr 4 0]), (.t 8, [.data (.slc true (some true) 4 (List.map TRead.en []))]), (.o 4, [.data (.slc false none 2 (List.map TChain.en s.Chains)), iv s.Mark])]) (by kernel_rfl) .nil (by kernel_rfl) ?_
  refine WK.seq (by kernel_rfl) ?_
  refine WK.rs (g := []) (l' := [(.t 1, [sv from_v]), (.t 2, [sv to]), (.t 3, [iv pos]), (.t 4, [.ptr 4 0]), (.t 8, [.data (.slc true (some true) 4 (List.map TRead.en []))]), (.t 16, [bv (decide (pos < s.Mark))]), (.o 4, [.data (.slc false none 2 (List.map TChain.en s.Chains)), iv s.Mark])]) (by kernel_rfl) .nil (by kernel_rfl) ?_
  rcases br_inv h with ⟨b3_0, h⟩ | ⟨b3_0, h⟩
  · refine WK.ct (b := (decide (pos < s.Mark))) (by kernel_rfl) b3_0 ?_
    refine WK.rs (g := []) (l' := [(.t 8, [.data (.slc true (some true) 4 (List.map TRead.en []))]), (.t 9, [iv 4])]) (by kernel_rfl) .nil (by kernel_rfl) ?_
    refine WK.weak (l := [(.t 8, [.data (.slc true none 4 (List.map TRead.en []))]), (.t 9, [iv 4])]) (wk_of (by kernel_rfl)) ?_
    refine WK.ret (by kernel_rfl) ?_
    have h_0 := some_inj h
    obtain ⟨g_1, h_1⟩ := Prod.mk.inj h_0
    subst g_1
    subst h_1
    exact WKe.fin (e' := .ret) (by kernel_rfl) (fin_of (g := []) (by first | exact .inl rfl | exact .inr rfl) .nil (by kernel_rfl))
  · refine WK.ce (b := (decide (pos < s.Mark))) (by kernel_rfl) b3_0 ?_
    refine WK.skip (by kernel_rfl) ?_
    refine WKe.code (y := (cR (cR bd18))) (ks' := []) (by kernel_rfl) ?_
    refine WK.seq (by kernel_rfl) ?_
    refine WK.rs (g := [.s (.t 19) [iv (s.Chains.length : Int)]]) (l' := [(.t 1, [sv from_v]), (.t 2, [sv to]), (.t 3, [iv pos]), (.t 8, [.data (.slc true (some true) 4 (List.map TRead.en []))]), (.t 18, [.data (.slc false none 2 (List.map TChain.en s.Chains))]), (.t 19, [iv (s.Chains.length : Int)]), (.t 20, [iv 0])]) (by kernel_rfl) (.cons (c_len (e := TChain.en) (l := s.Chains)) .nil) (by kernel_rfl) ?_
    refine WK.block (n := 0) (by kernel_rfl) ?_
    obtain ⟨o17, ho17, h⟩ := bd_inv h
    refine WK.weak (l := [(.t 1, [sv from_v]), (.t 2, [sv to]), (.t 3, [iv pos]), (.t 8, [.data (.slc true none 4 (List.map TRead.en []))]), (.t 18, [.data (.slc false none 2 (List.map TChain.en s.Chains))]), (.t 19, [iv (s.Chains.length : Int)]), (.t 20, [iv 0])]) (wk_of (by kernel_rfl)) ?_
    refine WK.use (store_Span.lp6_ok fu from_v to pos s.Chains (s.Chains.length : Int) _ [] 0 _ ho17) ?_
    intro e_ τ_ hp_
    obtain ⟨y17_0, rfl⟩ : ∃ y, y = o17 := ⟨_, rfl⟩
    obtain ⟨rfl, rfl⟩ := hp_
    refine WKe.code (y := (cR (cR (cR bd18)))) (ks' := []) (by kernel_rfl) ?_
    refine WK.rs (g := []) (l' := [(.t 8, [.data (.slc true none 4 (List.map TRead.en y17_0))]), (.t 9, [iv 0])]) (by kernel_rfl) .nil (by kernel_rfl) ?_
    refine WK.weak (l := [(.t 8, [.data (.slc true none 4 (List.map TRead.en y17_0))]), (.t 9, [iv 0])]) (wk_of (by kernel_rfl)) ?_
    refine WK.ret (by kernel_rfl) ?_
    have h_0 := some_inj h
    obtain ⟨g_1, h_1⟩ := Prod.mk.inj h_0
    subst g_1
    subst h_1
    exact WKe.fin (e' := .ret) (by kernel_rfl) (fin_of (g := []) (by first | exact .inl rfl | exact .inr rfl) .nil (by kernel_rfl))
/-- diwan/chain.Trim -/
noncomputable def bd45 : Code := (Try.f45.body).getD .skip
def chain_Trim.O : Nat → Nat := fun t => bif ([4, 5, 14] : List Nat).any (Nat.beq t) then 1 else 0
noncomputable def chain_Trim (fu : Nat) (l : List TVersion) (mark : Int) : Option (List TVersion) :=
  bd (chain_versions_upto fu l mark) fun r3_1 =>
  gd (decide ((0 : Int) ≤ (if (w64 (r3_1 - 1)) < 0 then 0 else (w64 (r3_1 - 1))) ∧ (if (w64 (r3_1 - 1)) < 0 then 0 else (w64 (r3_1 - 1))) ≤ (l.length : Int))) <|
  bd (slices_Clone_api_Version (List.drop (if (w64 (r3_1 - 1)) < 0 then 0 else (w64 (r3_1 - 1))).toNat l)) fun r3_4 =>
  some r3_4
theorem chain_Trim.meets (fu : Nat) (l : List TVersion) (mark : Int) (z0 : List TVersion) (h : chain_Trim fu l mark = some z0) : Meets Try.prog ⟨45, [.data (.slc false none 3 (List.map TVersion.en l)), iv mark], []⟩ ⟨.data (.slc true none 3 (List.map TVersion.en z0)), []⟩ := by
  refine meets_of (O := chain_Trim.O) hmix (fn := Try.f45) (code := bd45) (by kernel_rfl) ?_
  refine WK.weak (l := [(.t 0, [.data (.slc false none 3 (List.map TVersion.en l))]), (.t 1, [iv mark])]) (wk_of (by kernel_rfl)) ?_
  unfold chain_Trim at h
  refine WK.rs (g := []) (l' := [(.t 0, [.data (.slc false none 3 (List.map TVersion.en l))]), (.t 1, [iv mark])]) (by kernel_rfl) .nil (by kernel_rfl) ?_
  refine WK.rs (g := []) (l' := [(.t 0, [.data (.slc false none 3 (List.map TVersion.en l))]), (.t 1, [iv mark]), (.t 5, [.fn (.func 60) [.data (.slc false none 3 (List.map TVersion.en l))] []])]) (by kernel_rfl) .nil (by kernel_rfl) ?_
  obtain ⟨r3_1, h3_2, h⟩ := bd_inv h
  obtain ⟨c3_3, h⟩ := gd_inv h
  obtain ⟨r3_4, h3_5, h⟩ := bd_inv h
  refine WK.rs (g := [.a ⟨iv r3_1, []⟩, .s (.t 14) [.data (.slc false none 3 (List.map TVersion.en (List.drop (if (w64 (r3_1 - 1)) < 0 then 0 else (w64 (r3_1 - 1))).toNat l)))], .a ⟨.data (.slc true none 3 (List.map TVersion.en r3_4)), []⟩]) (l' := [(.t 4, [.data (.slc true none 3 (List.map TVersion.en r3_4))])]) (by kernel_rfl) (.cons (Asks.of (C := Meets Try.prog) (chain_versions_upto.meets fu l mark _ h3_2)) (.cons (c_cbL (e := TVersion.en) c3_3) (.cons (congrArg (fun d : DV => [AV.data d]) (c_cutL (own := false) (nl := none) (s := 3) (e := TVersion.en) (l := l) (lo := (if (w64 (r3_1 - 1)) < 0 then 0 else (w64 (r3_1 - 1))).toNat))) (.cons (Asks.of (C := Meets Try.prog) (slices_Clone_api_Version.meets (List.drop (if (w64 (r3_1 - 1)) < 0 then 0 else (w64 (r3_1 - 1))).toNat l) _ h3_5)) .nil)))) (by kernel_rfl) ?_
  refine WK.weak (l := [(.t 4, [.data (.slc true none 3 (List.map TVersion.en r3_4))])]) (wk_of (by kernel_rfl)) ?_
  refine WK.ret (by kernel_rfl) ?_
  have h_ := some_inj h
  subst h_
  exact WKe.fin (e' := .ret) (by kernel_rfl) (fin_of (g := []) (by first | exact .inl rfl | exact .inr rfl) .nil (by kernel_rfl))
/-- diwan/store.Trim -/
noncomputable def bd21 : Code := (Try.f21.body).getD .skip
def store_Trim.O : Nat → Nat := fun t => bif ([2, 4, 5, 6, 8, 13, 32, 34] : List Nat).any (Nat.beq t) then 1 else bif ([28] : List Nat).any (Nat.beq t) then 2 else 0
noncomputable def store_Trim.lp7 (fu : Nat) (l7_0 : Int) (l7_1 : Int) (l7_4 : TStore) : Nat → Int → TStore → Option TStore
  | 0, _, _ => none
  | n_ + 1, l7_2, l7_3 =>
    br (decide (l7_2 < l7_1))
      (ix l7_3.Chains l7_2 fun x10_1 =>
      bd (chain_Trim fu x10_1.L l7_0) fun r11_1 =>
      ix l7_3.Chains l7_2 fun x11_3 =>
      store_Trim.lp7 fu l7_0 l7_1 l7_4 n_ (w64 (l7_2 + 1)) (TStore.mk (l7_3.Chains.set l7_2.toNat (TChain.mk x11_3.Key r11_1)) l7_3.Mark))
      (some l7_3)
noncomputable def store_Trim.lp7_post (l7_0 : Int) (l7_1 : Int) (l7_4 : TStore) (r_ : TStore) : Wy → St → Prop := fun e τ => match r_ with
  | y0 => e = .exit 0 ∧ τ = ofL [(.t 1, [iv l7_0]), (.t 2, [.ptr 2 0]), (.t 4, [.ptr 4 0]), (.o 2, [.data (.slc true none 2 (List.map TChain.en y0.Chains)), iv y0.Mark]), (.o 4, [.data (.slc true none 2 (List.map TChain.en l7_4.Chains)), iv l7_4.Mark])]
theorem store_Trim.lp7_ok (fu : Nat) (l7_0 : Int) (l7_1 : Int) (l7_4 : TStore) : ∀ (n_ : Nat) (l7_2 : Int) (l7_3 : TStore) (r_ : TStore), store_Trim.lp7 fu l7_0 l7_1 l7_4 n_ l7_2 l7_3 = some r_ → WK Try.prog store_Trim.O (Ck Try.prog) (cB (cR (cL (cR (cR (cR bd21)))))) [] (ofL [(.t 1, [iv l7_0]), (.t 2, [.ptr 2 0]), (.t 4, [.ptr 4 0]), (.t 15, [.ref (.o 2) 0 0 none]), (.t 16, [iv l7_1]), (.t 17, [iv l7_2]), (.o 2, [.data (.slc true none 2 (List.map TChain.en l7_3.Chains)), iv l7_3.Mark]), (.o 4, [.data (.slc true none 2 (List.map TChain.en l7_4.Chains)), iv l7_4.Mark])]) (store_Trim.lp7_post l7_0 l7_1 l7_4 r_) := by
  intro n_
  induction n_ with
  | zero => intro l7_2 l7_3 r_ h; exact no_none h
  | succ n_ ih =>
    intro l7_2 l7_3 r_ h
    refine WK.loop (by kernel_rfl) ?_
    refine WK.rs (g := []) (l' := [(.t 1, [iv l7_0]), (.t 2, [.ptr 2 0]), (.t 4, [.ptr 4 0]), (.t 15, [.ref (.o 2) 0 0 none]), (.t 16, [iv l7_1]), (.t 17, [iv l7_2]), (.t 18, [bv (decide (l7_2 < l7_1))]), (.o 2, [.data (.slc true none 2 (List.map TChain.en l7_3.Chains)), iv l7_3.Mark]), (.o 4, [.data (.slc true none 2 (List.map TChain.en l7_4.Chains)), iv l7_4.Mark])]) (by kernel_rfl) .nil (by kernel_rfl) ?_
    refine WK.seq (by kernel_rfl) ?_
    rcases br_inv h with ⟨b9_0, h⟩ | ⟨b9_0, h⟩
    · refine WK.ct (b := (decide (l7_2 < l7_1))) (by kernel_rfl) b9_0 ?_
      refine WK.skip (by kernel_rfl) ?_
      refine WKe.code (y := (cR (cR (cB (cB (cR (cL (cR (cR (cR bd21)))))))))) (ks' := [.lp (cB (cR (cL (cR (cR (cR bd21))))))]) (by kernel_rfl) ?_
      refine WK.seq (by kernel_rfl) ?_
      refine WK.block (n := 1) (by kernel_rfl) ?_
      obtain ⟨x10_1, a10_2, e10_3, h⟩ := ix_inv h
      refine WK.rs (g := [.c (TChain.en x10_1)]) (l' := [(.t 1, [iv l7_0]), (.t 2, [.ptr 2 0]), (.t 4, [.ptr 4 0]), (.t 5, [iv l7_2]), (.t 6, [.ptr 6 0]), (.t 15, [.ref (.o 2) 0 0 none]), (.t 16, [iv l7_1]), (.t 17, [iv l7_2]), (.o 2, [.data (.slc true none 2 (List.map TChain.en l7_3.Chains)), iv l7_3.Mark]), (.o 4, [.data (.slc true none 2 (List.map TChain.en l7_4.Chains)), iv l7_4.Mark]), (.o 6, [sv x10_1.Key, .data (.slc false none 3 (List.map TVersion.en x10_1.L))])]) (by kernel_rfl) (.cons (c_ix (e := TChain.en) a10_2 e10_3) (.cons (c_el (e := TChain.en) e10_3) .nil)) (by kernel_rfl) ?_
      obtain ⟨r11_1, h11_2, h⟩ := bd_inv h
      obtain ⟨x11_3, a11_4, e11_5, h⟩ := ix_inv h
      refine WK.rc (g := [.a ⟨.data (.slc true none 3 (List.map TVersion.en r11_1)), []⟩, .c (TChain.en x11_3), .s (.o 2) [.data (.slc true none 2 (List.map TChain.en (l7_3.Chains.set l7_2.toNat (TChain.mk x11_3.Key r11_1)))), iv l7_3.Mark]]) (l' := [(.t 1, [iv l7_0]), (.t 2, [.ptr 2 0]), (.t 4, [.ptr 4 0]), (.t 15, [.ref (.o 2) 0 0 none]), (.t 16, [iv l7_1]), (.t 17, [iv l7_2]), (.o 2, [.data (.slc true none 2 (List.map TChain.en (l7_3.Chains.set l7_2.toNat (TChain.mk x11_3.Key r11_1)))), iv l7_3.Mark]), (.o 4, [.data (.slc true none 2 (List.map TChain.en l7_4.Chains)), iv l7_4.Mark])]) (.cons (Asks.of (C := Meets Try.prog) (chain_Trim.meets fu x10_1.L l7_0 _ h11_2)) (.cons (c_ix (e := TChain.en) a11_4 e11_5) (.cons (c_el (e := TChain.en) e11_5) (.cons (congrArg (fun d : DV => [AV.data d, iv l7_3.Mark]) (c_set (e := TChain.en) (s := 2) (nl := none) (l := l7_3.Chains) (i := l7_2.toNat) (x := (TChain.mk x11_3.Key r11_1)))) (.cons (Eq.refl true) .nil))))) (by kernel_rfl) (y := (cR (cR (cR (cB (cB (cR (cL (cR (cR (cR bd21))))))))))) (ks' := [.lp (cB (cR (cL (cR (cR (cR bd21))))))]) (by kernel_rfl) ?_
      refine WK.rc (g := []) (l' := [(.t 1, [iv l7_0]), (.t 2, [.ptr 2 0]), (.t 4, [.ptr 4 0]), (.t 15, [.ref (.o 2) 0 0 none]), (.t 16, [iv l7_1]), (.t 17, [iv (w64 (l7_2 + 1))]), (.o 2, [.data (.slc true none 2 (List.map TChain.en (l7_3.Chains.set l7_2.toNat (TChain.mk x11_3.Key r11_1)))), iv l7_3.Mark]), (.o 4, [.data (.slc true none 2 (List.map TChain.en l7_4.Chains)), iv l7_4.Mark])]) .nil (by kernel_rfl) (y := (cB (cR (cL (cR (cR (cR bd21))))))) (ks' := []) (by kernel_rfl) ?_
      exact WK.weak (l := [(.t 1, [iv l7_0]), (.t 2, [.ptr 2 0]), (.t 4, [.ptr 4 0]), (.t 15, [.ref (.o 2) 0 0 none]), (.t 16, [iv l7_1]), (.t 17, [iv (w64 (l7_2 + 1))]), (.o 2, [.data (.slc true none 2 (List.map TChain.en (l7_3.Chains.set l7_2.toNat (TChain.mk x11_3.Key r11_1)))), iv l7_3.Mark]), (.o 4, [.data (.slc true none 2 (List.map TChain.en l7_4.Chains)), iv l7_4.Mark])]) (wk_of (by kernel_rfl)) (ih (w64 (l7_2 + 1)) (TStore.mk (l7_3.Chains.set l7_2.toNat (TChain.mk x11_3.Key r11_1)) l7_3.Mark) _ h)
    · refine WK.ce (b := (decide (l7_2 < l7_1))) (by kernel_rfl) b9_0 ?_
      refine WK.weak (l := [(.t 1, [iv l7_0]), (.t 2, [.ptr 2 0]), (.t 4, [.ptr 4 0]), (.o 2, [.data (.slc true none 2 (List.map TChain.en l7_3.Chains)), iv l7_3.Mark]), (.o 4, [.data (.slc true none 2 (List.map TChain.en l7_4.Chains)), iv l7_4.Mark])]) (wk_of (by kernel_rfl)) ?_
      refine WK.exit (n := 0) (by kernel_rfl) ?_
      cases some_inj h
      exact WKe.fin (e' := .exit 0) (by kernel_rfl) ⟨rfl, rfl⟩
noncomputable def store_Trim (fu : Nat) (s : TStore) (mark : Int) : Option TStore :=
  bd (store_twin fu s) fun r2_1 =>
  br (decide (mark ≤ r2_1.Mark))
    (some r2_1)
    (bd (store_Trim.lp7 fu mark (r2_1.Chains.length : Int) (TStore.mk [] 0) fu 0 r2_1) fun y13_0 =>
    some (TStore.mk y13_0.Chains mark))
theorem store_Trim.meets (fu : Nat) (s : TStore) (mark : Int) (z0 : TStore) (h : store_Trim fu s mark = some z0) : Meets Try.prog ⟨21, [.data (.agg [.slc false none 2 (List.map TChain.en s.Chains), .val (.int .i64 s.Mark)]), iv mark], []⟩ ⟨.data (.agg [.slc true none 2 (List.map TChain.en z0.Chains), .val (.int .i64 z0.Mark)]), []⟩ := by
  refine meets_of (O := store_Trim.O) hmix (fn := Try.f21) (code := bd21) (by kernel_rfl) ?_
  refine WK.weak (l := [(.t 0, [.data (.agg [.slc false none 2 (List.map TChain.en s.Chains), .val (.int .i64 s.Mark)])]), (.t 1, [iv mark])]) (wk_of (by kernel_rfl)) ?_
  unfold store_Trim at h
  refine WK.rs (g := []) (l' := [(.t 1, [iv mark]), (.t 2, [.ptr 2 0]), (.t 4, [.ptr 4 0]), (.o 2, [.data (.slc false none 2 (List.map TChain.en s.Chains)), iv s.Mark]), (.o 4, [.data (.slc true none 2 (List.map TChain.en [])), iv 0])]) (by kernel_rfl) .nil (by kernel_rfl) ?_
  obtain ⟨r2_1, h2_2, h⟩ := bd_inv h
  refine WK.rs (g := [.a ⟨.data (.agg [.slc true none 2 (List.map TChain.en r2_1.Chains), .val (.int .i64 r2_1.Mark)]), []⟩]) (l' := [(.t 1, [iv mark]), (.t 2, [.ptr 2 0]), (.t 4, [.ptr 4 0]), (.o 2, [.data (.slc true none 2 (List.map TChain.en r2_1.Chains)), iv r2_1.Mark]), (.o 4, [.data (.slc true none 2 (List.map TChain.en [])), iv 0])]) (by kernel_rfl) (.cons (Asks.of (C := Meets Try.prog) (store_twin.meets fu s _ h2_2)) .nil) (by kernel_rfl) ?_
  refine WK.seq (by kernel_rfl) ?_
  refine WK.rs (g := []) (l' := [(.t 1, [iv mark]), (.t 2, [.ptr 2 0]), (.t 4, [.ptr 4 0]), (.t 12, [bv (decide (mark ≤ r2_1.Mark))]), (.o 2, [.data (.slc true none 2 (List.map TChain.en r2_1.Chains)), iv r2_1.Mark]), (.o 4, [.data (.slc true none 2 (List.map TChain.en [])), iv 0])]) (by kernel_rfl) .nil (by kernel_rfl) ?_
  rcases br_inv h with ⟨b4_0, h⟩ | ⟨b4_0, h⟩
  · refine WK.ct (b := (decide (mark ≤ r2_1.Mark))) (by kernel_rfl) b4_0 ?_
    refine WK.rs (g := []) (l' := [(.t 4, [.ptr 4 0]), (.o 4, [.data (.slc true none 2 (List.map TChain.en r2_1.Chains)), iv r2_1.Mark])]) (by kernel_rfl) .nil (by kernel_rfl) ?_
    refine WK.weak (l := [(.t 4, [.ptr 4 0]), (.o 4, [.data (.slc true none 2 (List.map TChain.en r2_1.Chains)), iv r2_1.Mark])]) (wk_of (by kernel_rfl)) ?_
    refine WK.ret (by kernel_rfl) ?_
    have h_ := some_inj h
    subst h_
    exact WKe.fin (e' := .ret) (by kernel_rfl) (fin_of (g := []) (by first | exact .inl rfl | exact .inr rfl) .nil (by kernel_rfl))
  · refine WK.ce (b := (decide (mark ≤ r2_1.Mark))) (by kernel_rfl) b4_0 ?_
    refine WK.skip (by kernel_rfl) ?_
    refine WKe.code (y := (cR (cR (cR bd21)))) (ks' := []) (by kernel_rfl) ?_
    refine WK.seq (by kernel_rfl) ?_
    refine WK.rs (g := [.s (.t 16) [iv (r2_1.Chains.length : Int)]]) (l' := [(.t 1, [iv mark]), (.t 2, [.ptr 2 0]), (.t 4, [.ptr 4 0]), (.t 15, [.ref (.o 2) 0 0 none]), (.t 16, [iv (r2_1.Chains.length : Int)]), (.t 17, [iv 0]), (.o 2, [.data (.slc true none 2 (List.map TChain.en r2_1.Chains)), iv r2_1.Mark]), (.o 4, [.data (.slc true none 2 (List.map TChain.en [])), iv 0])]) (by kernel_rfl) (.cons (c_len (e := TChain.en) (l := r2_1.Chains)) .nil) (by kernel_rfl) ?_
    refine WK.block (n := 0) (by kernel_rfl) ?_
    obtain ⟨o13, ho13, h⟩ := bd_inv h
    refine WK.weak (l := [(.t 1, [iv mark]), (.t 2, [.ptr 2 0]), (.t 4, [.ptr 4 0]), (.t 15, [.ref (.o 2) 0 0 none]), (.t 16, [iv (r2_1.Chains.length : Int)]), (.t 17, [iv 0]), (.o 2, [.data (.slc true none 2 (List.map TChain.en r2_1.Chains)), iv r2_1.Mark]), (.o 4, [.data (.slc true none 2 (List.map TChain.en [])), iv 0])]) (wk_of (by kernel_rfl)) ?_
    refine WK.use (store_Trim.lp7_ok fu mark (r2_1.Chains.length : Int) (TStore.mk [] 0) _ 0 r2_1 _ ho13) ?_
    intro e_ τ_ hp_
    obtain ⟨y13_0, rfl⟩ : ∃ y, y = o13 := ⟨_, rfl⟩
    obtain ⟨rfl, rfl⟩ := hp_
    refine WKe.code (y := (cR (cR (cR (cR bd21))))) (ks' := []) (by kernel_rfl) ?_
    refine WK.rs (g := []) (l' := [(.t 2, [.ptr 2 0]), (.t 4, [.ptr 4 0]), (.o 2, [.data (.slc true none 2 (List.map TChain.en y13_0.Chains)), iv mark]), (.o 4, [.data (.slc true none 2 (List.map TChain.en [])), iv 0])]) (by kernel_rfl) .nil (by kernel_rfl) ?_
    refine WK.rs (g := []) (l' := [(.t 4, [.ptr 4 0]), (.o 4, [.data (.slc true none 2 (List.map TChain.en y13_0.Chains)), iv mark])]) (by kernel_rfl) .nil (by kernel_rfl) ?_
    refine WK.weak (l := [(.t 4, [.ptr 4 0]), (.o 4, [.data (.slc true none 2 (List.map TChain.en y13_0.Chains)), iv mark])]) (wk_of (by kernel_rfl)) ?_
    refine WK.ret (by kernel_rfl) ?_
    have h_ := some_inj h
    subst h_
    exact WKe.fin (e' := .ret) (by kernel_rfl) (fin_of (g := []) (by first | exact .inl rfl | exact .inr rfl) .nil (by kernel_rfl))
/-- diwan/store.Last -/
noncomputable def bd16 : Code := (Try.f16.body).getD .skip
def store_Last.O : Nat → Nat := fun t => bif ([2, 4, 5] : List Nat).any (Nat.beq t) then 1 else 0
noncomputable def store_Last (fu : Nat) (s : TStore) (k_v : ByteArray) : Option Int :=
  bd (store_keeper_chain fu s k_v) fun r3_1 =>
  bd (chain_Last r3_1) fun r3_3 =>
  some r3_3
theorem store_Last.meets (fu : Nat) (s : TStore) (k_v : ByteArray) (z0 : Int) (h : store_Last fu s k_v = some z0) : Meets Try.prog ⟨16, [.data (.agg [.slc false none 2 (List.map TChain.en s.Chains), .val (.int .i64 s.Mark)]), sv k_v], []⟩ ⟨iv z0, []⟩ := by
  refine meets_of (O := store_Last.O) hmix (fn := Try.f16) (code := bd16) (by kernel_rfl) ?_
  refine WK.weak (l := [(.t 0, [.data (.agg [.slc false none 2 (List.map TChain.en s.Chains), .val (.int .i64 s.Mark)])]), (.t 1, [sv k_v])]) (wk_of (by kernel_rfl)) ?_
  unfold store_Last at h
  refine WK.rs (g := []) (l' := [(.t 1, [sv k_v]), (.t 2, [.ptr 2 0]), (.o 2, [.data (.slc false none 2 (List.map TChain.en s.Chains)), iv s.Mark])]) (by kernel_rfl) .nil (by kernel_rfl) ?_
  refine WK.rs (g := []) (l' := [(.t 1, [sv k_v]), (.t 2, [.ptr 2 0]), (.t 5, [.fn (.func 35) [] []]), (.o 2, [.data (.slc false none 2 (List.map TChain.en s.Chains)), iv s.Mark])]) (by kernel_rfl) .nil (by kernel_rfl) ?_
  obtain ⟨r3_1, h3_2, h⟩ := bd_inv h
  obtain ⟨r3_3, h3_4, h⟩ := bd_inv h
  refine WK.rs (g := [.a ⟨.data (.slc false none 3 (List.map TVersion.en r3_1)), []⟩, .a ⟨iv r3_3, []⟩]) (l' := [(.t 4, [iv r3_3])]) (by kernel_rfl) (.cons (Asks.of (C := Meets Try.prog) (store_keeper_chain.meets fu s k_v _ h3_2)) (.cons (Asks.of (C := Meets Try.prog) (chain_Last.meets r3_1 _ h3_4)) .nil)) (by kernel_rfl) ?_
  refine WK.weak (l := [(.t 4, [iv r3_3])]) (wk_of (by kernel_rfl)) ?_
  refine WK.ret (by kernel_rfl) ?_
  have h_ := some_inj h
  subst h_
  exact WKe.fin (e' := .ret) (by kernel_rfl) (fin_of (g := []) (by first | exact .inl rfl | exact .inr rfl) .nil (by kernel_rfl))
/-- diwan/chain.May -/
noncomputable def bd30 : Code := (Try.f30.body).getD .skip
def chain_May.O : Nat → Nat := fun t => bif ([2, 3, 5] : List Nat).any (Nat.beq t) then 1 else 0
noncomputable def chain_May.lp4 (fu : Nat) (l4_1 : List TVersion) (l4_2 : Int) : Nat → Int → Int → Option (Unit ⊕ Unit)
  | 0, _, _ => none
  | n_ + 1, l4_0, l4_3 =>
    br (decide (l4_3 < l4_2))
      (ix l4_1 l4_3 fun x7_1 =>
      br (decide (x7_1.Pos ≤ l4_0))
        (some (.inr ()))
        (br (decide ((x7_1.Val.size : Int) > 16))
          (some (.inr ()))
          (br x7_1.Gone
            (br (!(x7_1.Val.toList == ByteArray.empty.toList))
              (some (.inr ()))
              (chain_May.lp4 fu l4_1 l4_2 n_ x7_1.Pos (w64 (l4_3 + 1))))
            (chain_May.lp4 fu l4_1 l4_2 n_ x7_1.Pos (w64 (l4_3 + 1))))))
      (some (.inl ()))
noncomputable def chain_May.lp4_post (l4_1 : List TVersion) (l4_2 : Int) (r_ : (Unit ⊕ Unit)) : Wy → St → Prop := fun e τ => match r_ with
  | .inl _ => e = .exit 0 ∧ τ = ofL []
  | .inr _ => e = .ret ∧ τ = ofL [(.t 2, [bv false])]
theorem chain_May.lp4_ok (fu : Nat) (l4_1 : List TVersion) (l4_2 : Int) : ∀ (n_ : Nat) (l4_0 : Int) (l4_3 : Int) (r_ : (Unit ⊕ Unit)), chain_May.lp4 fu l4_1 l4_2 n_ l4_0 l4_3 = some r_ → WK Try.prog chain_May.O (Ck Try.prog) (cB (cR (cL (cR (cR bd30))))) [] (ofL [(.t 3, [iv l4_0]), (.t 6, [.data (.slc false none 3 (List.map TVersion.en l4_1))]), (.t 7, [iv l4_2]), (.t 8, [iv l4_3])]) (chain_May.lp4_post l4_1 l4_2 r_) := by
  intro n_
  induction n_ with
  | zero => intro l4_0 l4_3 r_ h; exact no_none h
  | succ n_ ih =>
    intro l4_0 l4_3 r_ h
    refine WK.loop (by kernel_rfl) ?_
    refine WK.rs (g := []) (l' := [(.t 3, [iv l4_0]), (.t 6, [.data (.slc false none 3 (List.map TVersion.en l4_1))]), (.t 7, [iv l4_2]), (.t 8, [iv l4_3]), (.t 9, [bv (decide (l4_3 < l4_2))])]) (by kernel_rfl) .nil (by kernel_rfl) ?_
    refine WK.seq (by kernel_rfl) ?_
    rcases br_inv h with ⟨b6_0, h⟩ | ⟨b6_0, h⟩
    · refine WK.ct (b := (decide (l4_3 < l4_2))) (by kernel_rfl) b6_0 ?_
      refine WK.skip (by kernel_rfl) ?_
      refine WKe.code (y := (cR (cR (cB (cB (cR (cL (cR (cR bd30))))))))) (ks' := [.lp (cB (cR (cL (cR (cR bd30)))))]) (by kernel_rfl) ?_
      refine WK.seq (by kernel_rfl) ?_
      refine WK.block (n := 1) (by kernel_rfl) ?_
      obtain ⟨x7_1, a7_2, e7_3, h⟩ := ix_inv h
      refine WK.rs (g := [.c (TVersion.en x7_1)]) (l' := [(.t 3, [iv l4_0]), (.t 5, [.ptr 5 0]), (.t 6, [.data (.slc false none 3 (List.map TVersion.en l4_1))]), (.t 7, [iv l4_2]), (.t 8, [iv l4_3]), (.o 5, (TVersion.ob x7_1))]) (by kernel_rfl) (.cons (c_ix (e := TVersion.en) a7_2 e7_3) (.cons (c_el (e := TVersion.en) e7_3) .nil)) (by kernel_rfl) ?_
      refine WK.seq (by kernel_rfl) ?_
      rcases br_inv h with ⟨b8_1, h⟩ | ⟨b8_1, h⟩
      · refine WK.rs (g := [.b true, .b true, .b true, .b true, .b true, .b true, .b true, .b true, .b true, .b true]) (l' := [(.t 5, [.ptr 5 0]), (.t 6, [.data (.slc false none 3 (List.map TVersion.en l4_1))]), (.t 7, [iv l4_2]), (.t 8, [iv l4_3]), (.t 30, [bv true]), (.o 5, (TVersion.ob x7_1))]) (by kernel_rfl) (.cons b8_1 (.cons b8_1 (.cons b8_1 (.cons b8_1 (.cons b8_1 (.cons (Eq.refl true) (.cons (Eq.refl true) (.cons (Eq.refl true) (.cons (Eq.refl true) (.cons (Eq.refl true) .nil)))))))))) (by kernel_rfl) ?_
        refine WK.ct (b := true) (by kernel_rfl) rfl ?_
        refine WK.rs (g := []) (l' := [(.t 2, [bv false])]) (by kernel_rfl) .nil (by kernel_rfl) ?_
        refine WK.weak (l := [(.t 2, [bv false])]) (wk_of (by kernel_rfl)) ?_
        refine WK.ret (by kernel_rfl) ?_
        cases some_inj h
        exact WKe.fin (e' := .ret) (by kernel_rfl) ⟨rfl, rfl⟩
      · rcases br_inv h with ⟨b8_2, h⟩ | ⟨b8_2, h⟩
        · refine WK.rs (g := [.b false, .b false, .b false, .b false, .b false, .b true, .b true, .b true, .b true, .b true]) (l' := [(.t 5, [.ptr 5 0]), (.t 6, [.data (.slc false none 3 (List.map TVersion.en l4_1))]), (.t 7, [iv l4_2]), (.t 8, [iv l4_3]), (.t 30, [bv true]), (.o 5, (TVersion.ob x7_1))]) (by kernel_rfl) (.cons b8_1 (.cons b8_1 (.cons b8_1 (.cons b8_1 (.cons b8_1 (.cons b8_2 (.cons b8_2 (.cons b8_2 (.cons b8_2 (.cons b8_2 .nil)))))))))) (by kernel_rfl) ?_
          refine WK.ct (b := true) (by kernel_rfl) rfl ?_
          refine WK.rs (g := []) (l' := [(.t 2, [bv false])]) (by kernel_rfl) .nil (by kernel_rfl) ?_
          refine WK.weak (l := [(.t 2, [bv false])]) (wk_of (by kernel_rfl)) ?_
          refine WK.ret (by kernel_rfl) ?_
          cases some_inj h
          exact WKe.fin (e' := .ret) (by kernel_rfl) ⟨rfl, rfl⟩
        · rcases br_inv h with ⟨b8_3, h⟩ | ⟨b8_3, h⟩
          · refine WK.rs (g := [.b false, .b false, .b false, .b false, .b false, .b false, .b false, .b false, .b true, .b true, .b true, .b false, .b true, .b false]) (l' := [(.t 5, [.ptr 5 0]), (.t 6, [.data (.slc false none 3 (List.map TVersion.en l4_1))]), (.t 7, [iv l4_2]), (.t 8, [iv l4_3]), (.t 30, [bv (!(x7_1.Val.toList == ByteArray.empty.toList))]), (.o 5, (TVersion.ob x7_1))]) (by kernel_rfl) (.cons b8_1 (.cons b8_1 (.cons b8_1 (.cons b8_1 (.cons b8_1 (.cons b8_2 (.cons b8_2 (.cons b8_2 (.cons b8_3 (.cons b8_3 (.cons b8_3 (.cons b8_2 (.cons b8_3 (.cons b8_2 .nil)))))))))))))) (by kernel_rfl) ?_
            rcases br_inv h with ⟨b11_0, h⟩ | ⟨b11_0, h⟩
            · refine WK.ct (b := (!(x7_1.Val.toList == ByteArray.empty.toList))) (by kernel_rfl) b11_0 ?_
              refine WK.rs (g := []) (l' := [(.t 2, [bv false])]) (by kernel_rfl) .nil (by kernel_rfl) ?_
              refine WK.weak (l := [(.t 2, [bv false])]) (wk_of (by kernel_rfl)) ?_
              refine WK.ret (by kernel_rfl) ?_
              cases some_inj h
              exact WKe.fin (e' := .ret) (by kernel_rfl) ⟨rfl, rfl⟩
            · refine WK.ce (b := (!(x7_1.Val.toList == ByteArray.empty.toList))) (by kernel_rfl) b11_0 ?_
              refine WK.skip (by kernel_rfl) ?_
              refine WKe.code (y := (cR (cR (cB (cL (cR (cR (cB (cB (cR (cL (cR (cR bd30))))))))))))) (ks' := [.blk 1, .seq (cR (cR (cR (cB (cB (cR (cL (cR (cR bd30))))))))), .lp (cB (cR (cL (cR (cR bd30)))))]) (by kernel_rfl) ?_
              refine WK.rc (g := []) (l' := [(.t 3, [iv x7_1.Pos]), (.t 6, [.data (.slc false none 3 (List.map TVersion.en l4_1))]), (.t 7, [iv l4_2]), (.t 8, [iv l4_3])]) .nil (by kernel_rfl) (y := (cR (cR (cR (cB (cB (cR (cL (cR (cR bd30)))))))))) (ks' := [.lp (cB (cR (cL (cR (cR bd30)))))]) (by kernel_rfl) ?_
              refine WK.rc (g := []) (l' := [(.t 3, [iv x7_1.Pos]), (.t 6, [.data (.slc false none 3 (List.map TVersion.en l4_1))]), (.t 7, [iv l4_2]), (.t 8, [iv (w64 (l4_3 + 1))])]) .nil (by kernel_rfl) (y := (cB (cR (cL (cR (cR bd30)))))) (ks' := []) (by kernel_rfl) ?_
              exact WK.weak (l := [(.t 3, [iv x7_1.Pos]), (.t 6, [.data (.slc false none 3 (List.map TVersion.en l4_1))]), (.t 7, [iv l4_2]), (.t 8, [iv (w64 (l4_3 + 1))])]) (wk_of (by kernel_rfl)) (ih x7_1.Pos (w64 (l4_3 + 1)) _ h)
          · refine WK.rs (g := [.b false, .b false, .b false, .b false, .b false, .b false, .b false, .b false, .b false, .b false, .b false, .b false, .b false, .b false]) (l' := [(.t 5, [.ptr 5 0]), (.t 6, [.data (.slc false none 3 (List.map TVersion.en l4_1))]), (.t 7, [iv l4_2]), (.t 8, [iv l4_3]), (.t 30, [bv false]), (.o 5, (TVersion.ob x7_1))]) (by kernel_rfl) (.cons b8_1 (.cons b8_1 (.cons b8_1 (.cons b8_1 (.cons b8_1 (.cons b8_2 (.cons b8_2 (.cons b8_2 (.cons b8_3 (.cons b8_3 (.cons b8_3 (.cons b8_2 (.cons b8_3 (.cons b8_2 .nil)))))))))))))) (by kernel_rfl) ?_
            refine WK.ce (b := false) (by kernel_rfl) rfl ?_
            refine WK.skip (by kernel_rfl) ?_
            refine WKe.code (y := (cR (cR (cB (cL (cR (cR (cB (cB (cR (cL (cR (cR bd30))))))))))))) (ks' := [.blk 1, .seq (cR (cR (cR (cB (cB (cR (cL (cR (cR bd30))))))))), .lp (cB (cR (cL (cR (cR bd30)))))]) (by kernel_rfl) ?_
            refine WK.rc (g := []) (l' := [(.t 3, [iv x7_1.Pos]), (.t 6, [.data (.slc false none 3 (List.map TVersion.en l4_1))]), (.t 7, [iv l4_2]), (.t 8, [iv l4_3])]) .nil (by kernel_rfl) (y := (cR (cR (cR (cB (cB (cR (cL (cR (cR bd30)))))))))) (ks' := [.lp (cB (cR (cL (cR (cR bd30)))))]) (by kernel_rfl) ?_
            refine WK.rc (g := []) (l' := [(.t 3, [iv x7_1.Pos]), (.t 6, [.data (.slc false none 3 (List.map TVersion.en l4_1))]), (.t 7, [iv l4_2]), (.t 8, [iv (w64 (l4_3 + 1))])]) .nil (by kernel_rfl) (y := (cB (cR (cL (cR (cR bd30)))))) (ks' := []) (by kernel_rfl) ?_
            exact WK.weak (l := [(.t 3, [iv x7_1.Pos]), (.t 6, [.data (.slc false none 3 (List.map TVersion.en l4_1))]), (.t 7, [iv l4_2]), (.t 8, [iv (w64 (l4_3 + 1))])]) (wk_of (by kernel_rfl)) (ih x7_1.Pos (w64 (l4_3 + 1)) _ h)
    · refine WK.ce (b := (decide (l4_3 < l4_2))) (by kernel_rfl) b6_0 ?_
      refine WK.weak (l := []) (wk_of (by kernel_rfl)) ?_
      refine WK.exit (n := 0) (by kernel_rfl) ?_
      cases some_inj h
      exact WKe.fin (e' := .exit 0) (by kernel_rfl) ⟨rfl, rfl⟩
noncomputable def chain_May (fu : Nat) (l : List TVersion) : Option Bool :=
  bd (chain_May.lp4 fu l (l.length : Int) fu 0 0) fun o_ => (match o_ with
  | .inl _ =>
    some true
  | .inr _ =>
    some false)
theorem chain_May.meets (fu : Nat) (l : List TVersion) (z0 : Bool) (h : chain_May fu l = some z0) : Meets Try.prog ⟨30, [.data (.slc false none 3 (List.map TVersion.en l))], []⟩ ⟨bv z0, []⟩ := by
  refine meets_of (O := chain_May.O) hmix (fn := Try.f30) (code := bd30) (by kernel_rfl) ?_
  refine WK.weak (l := [(.t 0, [.data (.slc false none 3 (List.map TVersion.en l))])]) (wk_of (by kernel_rfl)) ?_
  unfold chain_May at h
  refine WK.rs (g := []) (l' := [(.t 0, [.data (.slc false none 3 (List.map TVersion.en l))])]) (by kernel_rfl) .nil (by kernel_rfl) ?_
  refine WK.rs (g := []) (l' := [(.t 0, [.data (.slc false none 3 (List.map TVersion.en l))]), (.t 3, [iv 0])]) (by kernel_rfl) .nil (by kernel_rfl) ?_
  refine WK.seq (by kernel_rfl) ?_
  refine WK.rs (g := [.s (.t 7) [iv (l.length : Int)]]) (l' := [(.t 3, [iv 0]), (.t 6, [.data (.slc false none 3 (List.map TVersion.en l))]), (.t 7, [iv (l.length : Int)]), (.t 8, [iv 0])]) (by kernel_rfl) (.cons (c_len (e := TVersion.en) (l := l)) .nil) (by kernel_rfl) ?_
  refine WK.block (n := 0) (by kernel_rfl) ?_
  obtain ⟨o17, ho17, h⟩ := bd_inv h
  refine WK.weak (l := [(.t 3, [iv 0]), (.t 6, [.data (.slc false none 3 (List.map TVersion.en l))]), (.t 7, [iv (l.length : Int)]), (.t 8, [iv 0])]) (wk_of (by kernel_rfl)) ?_
  refine WK.use (chain_May.lp4_ok fu l (l.length : Int) _ 0 0 _ ho17) ?_
  intro e_ τ_ hp_
  rcases o17 with o17 | o17
  · obtain ⟨⟩ := o17
    obtain ⟨rfl, rfl⟩ := hp_
    refine WKe.code (y := (cR (cR (cR bd30)))) (ks' := []) (by kernel_rfl) ?_
    refine WK.rs (g := []) (l' := [(.t 2, [bv true])]) (by kernel_rfl) .nil (by kernel_rfl) ?_
    refine WK.weak (l := [(.t 2, [bv true])]) (wk_of (by kernel_rfl)) ?_
    refine WK.ret (by kernel_rfl) ?_
    have h_ := some_inj h
    subst h_
    exact WKe.fin (e' := .ret) (by kernel_rfl) (fin_of (g := []) (by first | exact .inl rfl | exact .inr rfl) .nil (by kernel_rfl))
  · obtain ⟨⟩ := o17
    obtain ⟨rfl, rfl⟩ := hp_
    have h_ := some_inj h
    subst h_
    exact WKe.fin (e' := .ret) (by kernel_rfl) (fin_of (g := []) (by first | exact .inl rfl | exact .inr rfl) .nil (by kernel_rfl))
/-- diwan/key.sign -/
noncomputable def bd66 : Code := (Try.f66.body).getD .skip
def key_sign.O : Nat → Nat := fun t => bif ([2] : List Nat).any (Nat.beq t) then 1 else 0
noncomputable def key_sign (c : Int) : Option Bool :=
  br (decide (c ≥ 33))
    (some (decide (c ≤ 126)))
    (some false)
theorem key_sign.meets (c : Int) (z0 : Bool) (h : key_sign c = some z0) : Meets Try.prog ⟨66, [.data (.val (.int .u8 c))], []⟩ ⟨bv z0, []⟩ := by
  refine meets_of (O := key_sign.O) hmix (fn := Try.f66) (code := bd66) (by kernel_rfl) ?_
  refine WK.weak (l := [(.t 0, [.data (.val (.int .u8 c))])]) (wk_of (by kernel_rfl)) ?_
  unfold key_sign at h
  refine WK.rs (g := []) (l' := [(.t 0, [.data (.val (.int .u8 c))])]) (by kernel_rfl) .nil (by kernel_rfl) ?_
  rcases br_inv h with ⟨b2_1, h⟩ | ⟨b2_1, h⟩
  · refine WK.rs (g := [.b true, .b true, .b true]) (l' := [(.t 2, [bv (decide (c ≤ 126))])]) (by kernel_rfl) (.cons b2_1 (.cons b2_1 (.cons b2_1 .nil))) (by kernel_rfl) ?_
    refine WK.weak (l := [(.t 2, [bv (decide (c ≤ 126))])]) (wk_of (by kernel_rfl)) ?_
    refine WK.ret (by kernel_rfl) ?_
    have h_ := some_inj h
    subst h_
    exact WKe.fin (e' := .ret) (by kernel_rfl) (fin_of (g := []) (by first | exact .inl rfl | exact .inr rfl) .nil (by kernel_rfl))
  · refine WK.rs (g := [.b false, .b false, .b false]) (l' := [(.t 2, [bv false])]) (by kernel_rfl) (.cons b2_1 (.cons b2_1 (.cons b2_1 .nil))) (by kernel_rfl) ?_
    refine WK.weak (l := [(.t 2, [bv false])]) (wk_of (by kernel_rfl)) ?_
    refine WK.ret (by kernel_rfl) ?_
    have h_ := some_inj h
    subst h_
    exact WKe.fin (e' := .ret) (by kernel_rfl) (fin_of (g := []) (by first | exact .inl rfl | exact .inr rfl) .nil (by kernel_rfl))
/-- (diwan/key.name).may -/
noncomputable def bd54 : Code := (Try.f54.body).getD .skip
def key_name_may.O : Nat → Nat := fun t => bif ([2, 3] : List Nat).any (Nat.beq t) then 1 else 0
noncomputable def key_name_may.lp3 (fu : Nat) (l3_0 : ByteArray) (l3_1 : Int) : Nat → Int → Option (Unit ⊕ Unit)
  | 0, _ => none
  | n_ + 1, l3_2 =>
    br (decide (l3_2 < l3_1))
      (gd (decide ((0 : Int) ≤ l3_2 ∧ l3_2 < (l3_0.size : Int))) <|
      bd (key_sign (byteAt l3_0 l3_2)) fun r7_2 =>
      br (!r7_2)
        (some (.inr ()))
        (key_name_may.lp3 fu l3_0 l3_1 n_ (w64 (l3_2 + 1))))
      (some (.inl ()))
noncomputable def key_name_may.lp3_post (l3_0 : ByteArray) (l3_1 : Int) (r_ : (Unit ⊕ Unit)) : Wy → St → Prop := fun e τ => match r_ with
  | .inl _ => e = .exit 0 ∧ τ = ofL [(.t 0, [sv l3_0])]
  | .inr _ => e = .ret ∧ τ = ofL [(.t 2, [bv false])]
theorem key_name_may.lp3_ok (fu : Nat) (l3_0 : ByteArray) (l3_1 : Int) : ∀ (n_ : Nat) (l3_2 : Int) (r_ : (Unit ⊕ Unit)), key_name_may.lp3 fu l3_0 l3_1 n_ l3_2 = some r_ → WK Try.prog key_name_may.O (Ck Try.prog) (cB (cR (cL (cR bd54)))) [] (ofL [(.t 0, [sv l3_0]), (.t 5, [iv l3_1]), (.t 6, [iv l3_2])]) (key_name_may.lp3_post l3_0 l3_1 r_) := by
  intro n_
  induction n_ with
  | zero => intro l3_2 r_ h; exact no_none h
  | succ n_ ih =>
    intro l3_2 r_ h
    refine WK.loop (by kernel_rfl) ?_
    refine WK.rs (g := []) (l' := [(.t 0, [sv l3_0]), (.t 5, [iv l3_1]), (.t 6, [iv l3_2]), (.t 7, [bv (decide (l3_2 < l3_1))])]) (by kernel_rfl) .nil (by kernel_rfl) ?_
    refine WK.seq (by kernel_rfl) ?_
    rcases br_inv h with ⟨b5_0, h⟩ | ⟨b5_0, h⟩
    · refine WK.ct (b := (decide (l3_2 < l3_1))) (by kernel_rfl) b5_0 ?_
      refine WK.skip (by kernel_rfl) ?_
      refine WKe.code (y := (cR (cR (cB (cB (cR (cL (cR bd54)))))))) (ks' := [.lp (cB (cR (cL (cR bd54))))]) (by kernel_rfl) ?_
      refine WK.seq (by kernel_rfl) ?_
      refine WK.block (n := 1) (by kernel_rfl) ?_
      refine WK.rs (g := []) (l' := [(.t 0, [sv l3_0]), (.t 3, [iv l3_2]), (.t 5, [iv l3_1]), (.t 6, [iv l3_2])]) (by kernel_rfl) .nil (by kernel_rfl) ?_
      obtain ⟨c7_1, h⟩ := gd_inv h
      obtain ⟨r7_2, h7_3, h⟩ := bd_inv h
      refine WK.rs (g := [.a ⟨bv r7_2, []⟩]) (l' := [(.t 0, [sv l3_0]), (.t 5, [iv l3_1]), (.t 6, [iv l3_2]), (.t 13, [bv (!r7_2)])]) (by kernel_rfl) (.cons c7_1 (.cons (Asks.of (C := Meets Try.prog) (key_sign.meets (byteAt l3_0 l3_2) _ h7_3)) .nil)) (by kernel_rfl) ?_
      rcases br_inv h with ⟨b8_0, h⟩ | ⟨b8_0, h⟩
      · refine WK.ct (b := (!r7_2)) (by kernel_rfl) b8_0 ?_
        refine WK.rs (g := []) (l' := [(.t 2, [bv false])]) (by kernel_rfl) .nil (by kernel_rfl) ?_
        refine WK.weak (l := [(.t 2, [bv false])]) (wk_of (by kernel_rfl)) ?_
        refine WK.ret (by kernel_rfl) ?_
        cases some_inj h
        exact WKe.fin (e' := .ret) (by kernel_rfl) ⟨rfl, rfl⟩
      · refine WK.ce (b := (!r7_2)) (by kernel_rfl) b8_0 ?_
        refine WK.skip (by kernel_rfl) ?_
        refine WKe.code (y := (cR (cR (cR (cB (cB (cR (cL (cR bd54))))))))) (ks' := [.lp (cB (cR (cL (cR bd54))))]) (by kernel_rfl) ?_
        refine WK.rc (g := []) (l' := [(.t 0, [sv l3_0]), (.t 5, [iv l3_1]), (.t 6, [iv (w64 (l3_2 + 1))])]) .nil (by kernel_rfl) (y := (cB (cR (cL (cR bd54))))) (ks' := []) (by kernel_rfl) ?_
        exact WK.weak (l := [(.t 0, [sv l3_0]), (.t 5, [iv l3_1]), (.t 6, [iv (w64 (l3_2 + 1))])]) (wk_of (by kernel_rfl)) (ih (w64 (l3_2 + 1)) _ h)
    · refine WK.ce (b := (decide (l3_2 < l3_1))) (by kernel_rfl) b5_0 ?_
      refine WK.weak (l := [(.t 0, [sv l3_0])]) (wk_of (by kernel_rfl)) ?_
      refine WK.exit (n := 0) (by kernel_rfl) ?_
      cases some_inj h
      exact WKe.fin (e' := .exit 0) (by kernel_rfl) ⟨rfl, rfl⟩
noncomputable def key_name_may (fu : Nat) (k_v : ByteArray) : Option Bool :=
  bd (key_name_may.lp3 fu k_v (k_v.size : Int) fu 0) fun o_ => (match o_ with
  | .inl _ =>
    br (decide ((k_v.size : Int) ≥ 1))
      (some (decide ((k_v.size : Int) ≤ 8)))
      (some false)
  | .inr _ =>
    some false)
theorem key_name_may.meets (fu : Nat) (k_v : ByteArray) (z0 : Bool) (h : key_name_may fu k_v = some z0) : Meets Try.prog ⟨54, [sv k_v], []⟩ ⟨bv z0, []⟩ := by
  refine meets_of (O := key_name_may.O) hmix (fn := Try.f54) (code := bd54) (by kernel_rfl) ?_
  refine WK.weak (l := [(.t 0, [sv k_v])]) (wk_of (by kernel_rfl)) ?_
  unfold key_name_may at h
  refine WK.rs (g := []) (l' := [(.t 0, [sv k_v])]) (by kernel_rfl) .nil (by kernel_rfl) ?_
  refine WK.seq (by kernel_rfl) ?_
  refine WK.rs (g := []) (l' := [(.t 0, [sv k_v]), (.t 5, [iv (k_v.size : Int)]), (.t 6, [iv 0])]) (by kernel_rfl) .nil (by kernel_rfl) ?_
  refine WK.block (n := 0) (by kernel_rfl) ?_
  obtain ⟨o11, ho11, h⟩ := bd_inv h
  refine WK.weak (l := [(.t 0, [sv k_v]), (.t 5, [iv (k_v.size : Int)]), (.t 6, [iv 0])]) (wk_of (by kernel_rfl)) ?_
  refine WK.use (key_name_may.lp3_ok fu k_v (k_v.size : Int) _ 0 _ ho11) ?_
  intro e_ τ_ hp_
  rcases o11 with o11 | o11
  · obtain ⟨⟩ := o11
    obtain ⟨rfl, rfl⟩ := hp_
    refine WKe.code (y := (cR (cR bd54))) (ks' := []) (by kernel_rfl) ?_
    rcases br_inv h with ⟨b12_1, h⟩ | ⟨b12_1, h⟩
    · refine WK.rs (g := [.b true, .b true, .b true, .b true]) (l' := [(.t 2, [bv (decide ((k_v.size : Int) ≤ 8))])]) (by kernel_rfl) (.cons b12_1 (.cons b12_1 (.cons b12_1 (.cons b12_1 .nil)))) (by kernel_rfl) ?_
      refine WK.weak (l := [(.t 2, [bv (decide ((k_v.size : Int) ≤ 8))])]) (wk_of (by kernel_rfl)) ?_
      refine WK.ret (by kernel_rfl) ?_
      have h_ := some_inj h
      subst h_
      exact WKe.fin (e' := .ret) (by kernel_rfl) (fin_of (g := []) (by first | exact .inl rfl | exact .inr rfl) .nil (by kernel_rfl))
    · refine WK.rs (g := [.b false, .b false, .b false, .b false]) (l' := [(.t 2, [bv false])]) (by kernel_rfl) (.cons b12_1 (.cons b12_1 (.cons b12_1 (.cons b12_1 .nil)))) (by kernel_rfl) ?_
      refine WK.weak (l := [(.t 2, [bv false])]) (wk_of (by kernel_rfl)) ?_
      refine WK.ret (by kernel_rfl) ?_
      have h_ := some_inj h
      subst h_
      exact WKe.fin (e' := .ret) (by kernel_rfl) (fin_of (g := []) (by first | exact .inl rfl | exact .inr rfl) .nil (by kernel_rfl))
  · obtain ⟨⟩ := o11
    obtain ⟨rfl, rfl⟩ := hp_
    have h_ := some_inj h
    subst h_
    exact WKe.fin (e' := .ret) (by kernel_rfl) (fin_of (g := []) (by first | exact .inl rfl | exact .inr rfl) .nil (by kernel_rfl))
/-- diwan/key.Rising -/
noncomputable def bd31 : Code := (Try.f31.body).getD .skip
def key_Rising.O : Nat → Nat := fun t => bif ([2, 3, 4, 5] : List Nat).any (Nat.beq t) then 1 else 0
noncomputable def key_Rising.lp4 (fu : Nat) (l4_0 : List ByteArray) (l4_1 : List ByteArray) (l4_2 : Int) : Nat → Int → Option (Unit ⊕ Unit)
  | 0, _ => none
  | n_ + 1, l4_3 =>
    br (decide (l4_3 < l4_2))
      (ix l4_1 l4_3 fun x7_1 =>
      bd (key_name_may fu x7_1) fun r8_1 =>
      br (!r8_1)
        (some (.inr ()))
        (br (decide (l4_3 > 0))
          (ix l4_0 (w64 (l4_3 - 1)) fun x8_5 =>
          br (!(Op.bytesLess x8_5.toList x7_1.toList))
            (some (.inr ()))
            (key_Rising.lp4 fu l4_0 l4_1 l4_2 n_ (w64 (l4_3 + 1))))
          (key_Rising.lp4 fu l4_0 l4_1 l4_2 n_ (w64 (l4_3 + 1)))))
      (some (.inl ()))
noncomputable def key_Rising.lp4_post (l4_0 : List ByteArray) (l4_1 : List ByteArray) (l4_2 : Int) (r_ : (Unit ⊕ Unit)) : Wy → St → Prop := fun e τ => match r_ with
  | .inl _ => e = .exit 0 ∧ τ = ofL []
  | .inr _ => e = .ret ∧ τ = ofL [(.t 2, [bv false])]
theorem key_Rising.lp4_ok (fu : Nat) (l4_0 : List ByteArray) (l4_1 : List ByteArray) (l4_2 : Int) : ∀ (n_ : Nat) (l4_3 : Int) (r_ : (Unit ⊕ Unit)), key_Rising.lp4 fu l4_0 l4_1 l4_2 n_ l4_3 = some r_ → WK Try.prog key_Rising.O (Ck Try.prog) (cB (cR (cL (cR (cR bd31))))) [] (ofL [(.t 0, [.data (.slc false none 1 (List.map e_s l4_0))]), (.t 3, [.fn (.func 54) [] []]), (.t 6, [.data (.slc false none 1 (List.map e_s l4_1))]), (.t 7, [iv l4_2]), (.t 8, [iv l4_3])]) (key_Rising.lp4_post l4_0 l4_1 l4_2 r_) := by
  intro n_
  induction n_ with
  | zero => intro l4_3 r_ h; exact no_none h
  | succ n_ ih =>
    intro l4_3 r_ h
    refine WK.loop (by kernel_rfl) ?_
    refine WK.rs (g := []) (l' := [(.t 0, [.data (.slc false none 1 (List.map e_s l4_0))]), (.t 3, [.fn (.func 54) [] []]), (.t 6, [.data (.slc false none 1 (List.map e_s l4_1))]), (.t 7, [iv l4_2]), (.t 8, [iv l4_3]), (.t 9, [bv (decide (l4_3 < l4_2))])]) (by kernel_rfl) .nil (by kernel_rfl) ?_
    refine WK.seq (by kernel_rfl) ?_
    rcases br_inv h with ⟨b6_0, h⟩ | ⟨b6_0, h⟩
    · refine WK.ct (b := (decide (l4_3 < l4_2))) (by kernel_rfl) b6_0 ?_
      refine WK.skip (by kernel_rfl) ?_
      refine WKe.code (y := (cR (cR (cB (cB (cR (cL (cR (cR bd31))))))))) (ks' := [.lp (cB (cR (cL (cR (cR bd31)))))]) (by kernel_rfl) ?_
      refine WK.seq (by kernel_rfl) ?_
      refine WK.block (n := 1) (by kernel_rfl) ?_
      obtain ⟨x7_1, a7_2, e7_3, h⟩ := ix_inv h
      refine WK.rs (g := [.c (e_s x7_1)]) (l' := [(.t 0, [.data (.slc false none 1 (List.map e_s l4_0))]), (.t 3, [.fn (.func 54) [] []]), (.t 4, [iv l4_3]), (.t 5, [sv x7_1]), (.t 6, [.data (.slc false none 1 (List.map e_s l4_1))]), (.t 7, [iv l4_2]), (.t 8, [iv l4_3])]) (by kernel_rfl) (.cons (c_ix (e := e_s) a7_2 e7_3) (.cons (c_el (e := e_s) e7_3) .nil)) (by kernel_rfl) ?_
      obtain ⟨r8_1, h8_2, h⟩ := bd_inv h
      rcases br_inv h with ⟨b8_3, h⟩ | ⟨b8_3, h⟩
      · refine WK.rs (g := [.a ⟨bv r8_1, []⟩, .b true, .b true, .b true, .b true, .b true]) (l' := [(.t 0, [.data (.slc false none 1 (List.map e_s l4_0))]), (.t 3, [.fn (.func 54) [] []]), (.t 6, [.data (.slc false none 1 (List.map e_s l4_1))]), (.t 7, [iv l4_2]), (.t 8, [iv l4_3]), (.t 29, [bv true])]) (by kernel_rfl) (.cons (Asks.of (C := Meets Try.prog) (key_name_may.meets fu x7_1 _ h8_2)) (.cons b8_3 (.cons b8_3 (.cons b8_3 (.cons b8_3 (.cons b8_3 .nil)))))) (by kernel_rfl) ?_
        refine WK.ct (b := true) (by kernel_rfl) rfl ?_
        refine WK.rs (g := []) (l' := [(.t 2, [bv false])]) (by kernel_rfl) .nil (by kernel_rfl) ?_
        refine WK.weak (l := [(.t 2, [bv false])]) (wk_of (by kernel_rfl)) ?_
        refine WK.ret (by kernel_rfl) ?_
        cases some_inj h
        exact WKe.fin (e' := .ret) (by kernel_rfl) ⟨rfl, rfl⟩
      · rcases br_inv h with ⟨b8_4, h⟩ | ⟨b8_4, h⟩
        · obtain ⟨x8_5, a8_6, e8_7, h⟩ := ix_inv h
          refine WK.rs (g := [.a ⟨bv r8_1, []⟩, .b false, .b false, .b false, .b true, .b true, .b true, .b true, .c (e_s x8_5), .b true, .b true, .b true, .b false, .b true, .b false]) (l' := [(.t 0, [.data (.slc false none 1 (List.map e_s l4_0))]), (.t 3, [.fn (.func 54) [] []]), (.t 6, [.data (.slc false none 1 (List.map e_s l4_1))]), (.t 7, [iv l4_2]), (.t 8, [iv l4_3]), (.t 29, [bv (!(Op.bytesLess x8_5.toList x7_1.toList))])]) (by kernel_rfl) (.cons (Asks.of (C := Meets Try.prog) (key_name_may.meets fu x7_1 _ h8_2)) (.cons b8_3 (.cons b8_3 (.cons b8_3 (.cons b8_4 (.cons b8_4 (.cons b8_4 (.cons b8_4 (.cons (c_ix (e := e_s) a8_6 e8_7) (.cons (c_el (e := e_s) e8_7) (.cons b8_4 (.cons b8_4 (.cons b8_4 (.cons b8_3 (.cons b8_4 (.cons b8_3 .nil)))))))))))))))) (by kernel_rfl) ?_
          rcases br_inv h with ⟨b10_0, h⟩ | ⟨b10_0, h⟩
          · refine WK.ct (b := (!(Op.bytesLess x8_5.toList x7_1.toList))) (by kernel_rfl) b10_0 ?_
            refine WK.rs (g := []) (l' := [(.t 2, [bv false])]) (by kernel_rfl) .nil (by kernel_rfl) ?_
            refine WK.weak (l := [(.t 2, [bv false])]) (wk_of (by kernel_rfl)) ?_
            refine WK.ret (by kernel_rfl) ?_
            cases some_inj h
            exact WKe.fin (e' := .ret) (by kernel_rfl) ⟨rfl, rfl⟩
          · refine WK.ce (b := (!(Op.bytesLess x8_5.toList x7_1.toList))) (by kernel_rfl) b10_0 ?_
            refine WK.skip (by kernel_rfl) ?_
            refine WKe.code (y := (cR (cR (cR (cB (cB (cR (cL (cR (cR bd31)))))))))) (ks' := [.lp (cB (cR (cL (cR (cR bd31)))))]) (by kernel_rfl) ?_
            refine WK.rc (g := []) (l' := [(.t 0, [.data (.slc false none 1 (List.map e_s l4_0))]), (.t 3, [.fn (.func 54) [] []]), (.t 6, [.data (.slc false none 1 (List.map e_s l4_1))]), (.t 7, [iv l4_2]), (.t 8, [iv (w64 (l4_3 + 1))])]) .nil (by kernel_rfl) (y := (cB (cR (cL (cR (cR bd31)))))) (ks' := []) (by kernel_rfl) ?_
            exact WK.weak (l := [(.t 0, [.data (.slc false none 1 (List.map e_s l4_0))]), (.t 3, [.fn (.func 54) [] []]), (.t 6, [.data (.slc false none 1 (List.map e_s l4_1))]), (.t 7, [iv l4_2]), (.t 8, [iv (w64 (l4_3 + 1))])]) (wk_of (by kernel_rfl)) (ih (w64 (l4_3 + 1)) _ h)
        · refine WK.rs (g := [.a ⟨bv r8_1, []⟩, .b false, .b false, .b false, .b false, .b false, .b false, .b false, .b false, .b false, .b false, .b false, .b false, .b false]) (l' := [(.t 0, [.data (.slc false none 1 (List.map e_s l4_0))]), (.t 3, [.fn (.func 54) [] []]), (.t 6, [.data (.slc false none 1 (List.map e_s l4_1))]), (.t 7, [iv l4_2]), (.t 8, [iv l4_3]), (.t 29, [bv false])]) (by kernel_rfl) (.cons (Asks.of (C := Meets Try.prog) (key_name_may.meets fu x7_1 _ h8_2)) (.cons b8_3 (.cons b8_3 (.cons b8_3 (.cons b8_4 (.cons b8_4 (.cons b8_4 (.cons b8_4 (.cons b8_4 (.cons b8_4 (.cons b8_4 (.cons b8_3 (.cons b8_4 (.cons b8_3 .nil)))))))))))))) (by kernel_rfl) ?_
          refine WK.ce (b := false) (by kernel_rfl) rfl ?_
          refine WK.skip (by kernel_rfl) ?_
          refine WKe.code (y := (cR (cR (cR (cB (cB (cR (cL (cR (cR bd31)))))))))) (ks' := [.lp (cB (cR (cL (cR (cR bd31)))))]) (by kernel_rfl) ?_
          refine WK.rc (g := []) (l' := [(.t 0, [.data (.slc false none 1 (List.map e_s l4_0))]), (.t 3, [.fn (.func 54) [] []]), (.t 6, [.data (.slc false none 1 (List.map e_s l4_1))]), (.t 7, [iv l4_2]), (.t 8, [iv (w64 (l4_3 + 1))])]) .nil (by kernel_rfl) (y := (cB (cR (cL (cR (cR bd31)))))) (ks' := []) (by kernel_rfl) ?_
          exact WK.weak (l := [(.t 0, [.data (.slc false none 1 (List.map e_s l4_0))]), (.t 3, [.fn (.func 54) [] []]), (.t 6, [.data (.slc false none 1 (List.map e_s l4_1))]), (.t 7, [iv l4_2]), (.t 8, [iv (w64 (l4_3 + 1))])]) (wk_of (by kernel_rfl)) (ih (w64 (l4_3 + 1)) _ h)
    · refine WK.ce (b := (decide (l4_3 < l4_2))) (by kernel_rfl) b6_0 ?_
      refine WK.weak (l := []) (wk_of (by kernel_rfl)) ?_
      refine WK.exit (n := 0) (by kernel_rfl) ?_
      cases some_inj h
      exact WKe.fin (e' := .exit 0) (by kernel_rfl) ⟨rfl, rfl⟩
noncomputable def key_Rising (fu : Nat) (l : List ByteArray) : Option Bool :=
  bd (key_Rising.lp4 fu l l (l.length : Int) fu 0) fun o_ => (match o_ with
  | .inl _ =>
    some true
  | .inr _ =>
    some false)
theorem key_Rising.meets (fu : Nat) (l : List ByteArray) (z0 : Bool) (h : key_Rising fu l = some z0) : Meets Try.prog ⟨31, [.data (.slc false none 1 (List.map e_s l))], []⟩ ⟨bv z0, []⟩ := by
  refine meets_of (O := key_Rising.O) hmix (fn := Try.f31) (code := bd31) (by kernel_rfl) ?_
  refine WK.weak (l := [(.t 0, [.data (.slc false none 1 (List.map e_s l))])]) (wk_of (by kernel_rfl)) ?_
  unfold key_Rising at h
  refine WK.rs (g := []) (l' := [(.t 0, [.data (.slc false none 1 (List.map e_s l))])]) (by kernel_rfl) .nil (by kernel_rfl) ?_
  refine WK.rs (g := []) (l' := [(.t 0, [.data (.slc false none 1 (List.map e_s l))]), (.t 3, [.fn (.func 54) [] []])]) (by kernel_rfl) .nil (by kernel_rfl) ?_
  refine WK.seq (by kernel_rfl) ?_
  refine WK.rs (g := [.s (.t 7) [iv (l.length : Int)]]) (l' := [(.t 0, [.data (.slc false none 1 (List.map e_s l))]), (.t 3, [.fn (.func 54) [] []]), (.t 6, [.data (.slc false none 1 (List.map e_s l))]), (.t 7, [iv (l.length : Int)]), (.t 8, [iv 0])]) (by kernel_rfl) (.cons (c_len (e := e_s) (l := l)) .nil) (by kernel_rfl) ?_
  refine WK.block (n := 0) (by kernel_rfl) ?_
  obtain ⟨o14, ho14, h⟩ := bd_inv h
  refine WK.weak (l := [(.t 0, [.data (.slc false none 1 (List.map e_s l))]), (.t 3, [.fn (.func 54) [] []]), (.t 6, [.data (.slc false none 1 (List.map e_s l))]), (.t 7, [iv (l.length : Int)]), (.t 8, [iv 0])]) (wk_of (by kernel_rfl)) ?_
  refine WK.use (key_Rising.lp4_ok fu l l (l.length : Int) _ 0 _ ho14) ?_
  intro e_ τ_ hp_
  rcases o14 with o14 | o14
  · obtain ⟨⟩ := o14
    obtain ⟨rfl, rfl⟩ := hp_
    refine WKe.code (y := (cR (cR (cR bd31)))) (ks' := []) (by kernel_rfl) ?_
    refine WK.rs (g := []) (l' := [(.t 2, [bv true])]) (by kernel_rfl) .nil (by kernel_rfl) ?_
    refine WK.weak (l := [(.t 2, [bv true])]) (wk_of (by kernel_rfl)) ?_
    refine WK.ret (by kernel_rfl) ?_
    have h_ := some_inj h
    subst h_
    exact WKe.fin (e' := .ret) (by kernel_rfl) (fin_of (g := []) (by first | exact .inl rfl | exact .inr rfl) .nil (by kernel_rfl))
  · obtain ⟨⟩ := o14
    obtain ⟨rfl, rfl⟩ := hp_
    have h_ := some_inj h
    subst h_
    exact WKe.fin (e' := .ret) (by kernel_rfl) (fin_of (g := []) (by first | exact .inl rfl | exact .inr rfl) .nil (by kernel_rfl))
/-- diwan/store.May -/
noncomputable def bd12 : Code := (Try.f12.body).getD .skip
def store_May.O : Nat → Nat := fun t => bif ([1, 2, 3, 5, 6, 27] : List Nat).any (Nat.beq t) then 1 else 0
noncomputable def store_May.lp4 (fu : Nat) (l4_1 : List TChain) (l4_2 : Int) (l4_4 : TStore) : Nat → (List ByteArray) → Int → Option ((List ByteArray) ⊕ Unit)
  | 0, _, _ => none
  | n_ + 1, l4_0, l4_3 =>
    br (decide (l4_3 < l4_2))
      (ix l4_1 l4_3 fun x7_1 =>
      br ((x7_1.L.length : Int) == 0)
        (some (.inr ()))
        (bd (chain_May fu x7_1.L) fun r8_2 =>
        br (!r8_2)
          (some (.inr ()))
          (gd (decide (l4_0.length + ([x7_1.Key] : List ByteArray).length ≤ 4294967296)) <|
          store_May.lp4 fu l4_1 l4_2 l4_4 n_ (l4_0 ++ ([x7_1.Key] : List ByteArray)) (w64 (l4_3 + 1)))))
      (some (.inl l4_0))
noncomputable def store_May.lp4_post (l4_1 : List TChain) (l4_2 : Int) (l4_4 : TStore) (r_ : ((List ByteArray) ⊕ Unit)) : Wy → St → Prop := fun e τ => match r_ with
  | .inl y0 => e = .exit 0 ∧ τ = ofL [(.t 1, [.ptr 1 0]), (.t 3, [.data (.slc true none 1 (List.map e_s y0))]), (.o 1, [.data (.slc false none 2 (List.map TChain.en l4_4.Chains)), iv l4_4.Mark])]
  | .inr _ => e = .ret ∧ τ = ofL [(.t 2, [bv false])]
theorem store_May.lp4_ok (fu : Nat) (l4_1 : List TChain) (l4_2 : Int) (l4_4 : TStore) : ∀ (n_ : Nat) (l4_0 : List ByteArray) (l4_3 : Int) (r_ : ((List ByteArray) ⊕ Unit)), store_May.lp4 fu l4_1 l4_2 l4_4 n_ l4_0 l4_3 = some r_ → WK Try.prog store_May.O (Ck Try.prog) (cB (cR (cL (cR (cR bd12))))) [] (ofL [(.t 1, [.ptr 1 0]), (.t 3, [.data (.slc true none 1 (List.map e_s l4_0))]), (.t 8, [.data (.slc false none 2 (List.map TChain.en l4_1))]), (.t 9, [iv l4_2]), (.t 10, [iv l4_3]), (.o 1, [.data (.slc false none 2 (List.map TChain.en l4_4.Chains)), iv l4_4.Mark])]) (store_May.lp4_post l4_1 l4_2 l4_4 r_) := by
  intro n_
  induction n_ with
  | zero => intro l4_0 l4_3 r_ h; exact no_none h
  | succ n_ ih =>
    intro l4_0 l4_3 r_ h
    refine WK.loop (by kernel_rfl) ?_
    refine WK.rs (g := []) (l' := [(.t 1, [.ptr 1 0]), (.t 3, [.data (.slc true none 1 (List.map e_s l4_0))]), (.t 8, [.data (.slc false none 2 (List.map TChain.en l4_1))]), (.t 9, [iv l4_2]), (.t 10, [iv l4_3]), (.t 11, [bv (decide (l4_3 < l4_2))]), (.o 1, [.data (.slc false none 2 (List.map TChain.en l4_4.Chains)), iv l4_4.Mark])]) (by kernel_rfl) .nil (by kernel_rfl) ?_
    refine WK.seq (by kernel_rfl) ?_
    rcases br_inv h with ⟨b6_0, h⟩ | ⟨b6_0, h⟩
    · refine WK.ct (b := (decide (l4_3 < l4_2))) (by kernel_rfl) b6_0 ?_
      refine WK.skip (by kernel_rfl) ?_
      refine WKe.code (y := (cR (cR (cB (cB (cR (cL (cR (cR bd12))))))))) (ks' := [.lp (cB (cR (cL (cR (cR bd12)))))]) (by kernel_rfl) ?_
      refine WK.seq (by kernel_rfl) ?_
      refine WK.block (n := 1) (by kernel_rfl) ?_
      obtain ⟨x7_1, a7_2, e7_3, h⟩ := ix_inv h
      refine WK.rs (g := [.c (TChain.en x7_1)]) (l' := [(.t 1, [.ptr 1 0]), (.t 3, [.data (.slc true none 1 (List.map e_s l4_0))]), (.t 5, [.ptr 5 0]), (.t 8, [.data (.slc false none 2 (List.map TChain.en l4_1))]), (.t 9, [iv l4_2]), (.t 10, [iv l4_3]), (.o 1, [.data (.slc false none 2 (List.map TChain.en l4_4.Chains)), iv l4_4.Mark]), (.o 5, [sv x7_1.Key, .data (.slc false none 3 (List.map TVersion.en x7_1.L))])]) (by kernel_rfl) (.cons (c_ix (e := TChain.en) a7_2 e7_3) (.cons (c_el (e := TChain.en) e7_3) .nil)) (by kernel_rfl) ?_
      refine WK.seq (by kernel_rfl) ?_
      rcases br_inv h with ⟨b8_1, h⟩ | ⟨b8_1, h⟩
      · refine WK.rs (g := [.s (.t 16) [iv (x7_1.L.length : Int)], .b true, .b true, .b true, .b true, .b true]) (l' := [(.t 1, [.ptr 1 0]), (.t 3, [.data (.slc true none 1 (List.map e_s l4_0))]), (.t 5, [.ptr 5 0]), (.t 8, [.data (.slc false none 2 (List.map TChain.en l4_1))]), (.t 9, [iv l4_2]), (.t 10, [iv l4_3]), (.t 23, [bv true]), (.o 1, [.data (.slc false none 2 (List.map TChain.en l4_4.Chains)), iv l4_4.Mark]), (.o 5, [sv x7_1.Key, .data (.slc false none 3 (List.map TVersion.en x7_1.L))])]) (by kernel_rfl) (.cons (c_len (e := TVersion.en) (l := x7_1.L)) (.cons b8_1 (.cons b8_1 (.cons b8_1 (.cons b8_1 (.cons b8_1 .nil)))))) (by kernel_rfl) ?_
        refine WK.ct (b := true) (by kernel_rfl) rfl ?_
        refine WK.rs (g := []) (l' := [(.t 2, [bv false])]) (by kernel_rfl) .nil (by kernel_rfl) ?_
        refine WK.weak (l := [(.t 2, [bv false])]) (wk_of (by kernel_rfl)) ?_
        refine WK.ret (by kernel_rfl) ?_
        cases some_inj h
        exact WKe.fin (e' := .ret) (by kernel_rfl) ⟨rfl, rfl⟩
      · obtain ⟨r8_2, h8_3, h⟩ := bd_inv h
        refine WK.rs (g := [.s (.t 16) [iv (x7_1.L.length : Int)], .b false, .b false, .b false, .a ⟨bv r8_2, []⟩, .b false, .b false]) (l' := [(.t 1, [.ptr 1 0]), (.t 3, [.data (.slc true none 1 (List.map e_s l4_0))]), (.t 5, [.ptr 5 0]), (.t 8, [.data (.slc false none 2 (List.map TChain.en l4_1))]), (.t 9, [iv l4_2]), (.t 10, [iv l4_3]), (.t 23, [bv (!r8_2)]), (.o 1, [.data (.slc false none 2 (List.map TChain.en l4_4.Chains)), iv l4_4.Mark]), (.o 5, [sv x7_1.Key, .data (.slc false none 3 (List.map TVersion.en x7_1.L))])]) (by kernel_rfl) (.cons (c_len (e := TVersion.en) (l := x7_1.L)) (.cons b8_1 (.cons b8_1 (.cons b8_1 (.cons (Asks.of (C := Meets Try.prog) (chain_May.meets fu x7_1.L _ h8_3)) (.cons b8_1 (.cons b8_1 .nil))))))) (by kernel_rfl) ?_
        rcases br_inv h with ⟨b10_0, h⟩ | ⟨b10_0, h⟩
        · refine WK.ct (b := (!r8_2)) (by kernel_rfl) b10_0 ?_
          refine WK.rs (g := []) (l' := [(.t 2, [bv false])]) (by kernel_rfl) .nil (by kernel_rfl) ?_
          refine WK.weak (l := [(.t 2, [bv false])]) (wk_of (by kernel_rfl)) ?_
          refine WK.ret (by kernel_rfl) ?_
          cases some_inj h
          exact WKe.fin (e' := .ret) (by kernel_rfl) ⟨rfl, rfl⟩
        · refine WK.ce (b := (!r8_2)) (by kernel_rfl) b10_0 ?_
          refine WK.skip (by kernel_rfl) ?_
          refine WKe.code (y := (cR (cR (cB (cL (cR (cR (cB (cB (cR (cL (cR (cR bd12))))))))))))) (ks' := [.blk 1, .seq (cR (cR (cR (cB (cB (cR (cL (cR (cR bd12))))))))), .lp (cB (cR (cL (cR (cR bd12)))))]) (by kernel_rfl) ?_
          obtain ⟨c12_1, h⟩ := gd_inv h
          refine WK.rc (g := [.s (.t 28) [.data (.slc true none 1 (List.map e_s (l4_0 ++ ([x7_1.Key] : List ByteArray))))]]) (l' := [(.t 1, [.ptr 1 0]), (.t 3, [.data (.slc true none 1 (List.map e_s (l4_0 ++ ([x7_1.Key] : List ByteArray))))]), (.t 8, [.data (.slc false none 2 (List.map TChain.en l4_1))]), (.t 9, [iv l4_2]), (.t 10, [iv l4_3]), (.o 1, [.data (.slc false none 2 (List.map TChain.en l4_4.Chains)), iv l4_4.Mark])]) (.cons (c_al (e := e_s) (f := e_s) c12_1) (.cons (congrArg (fun d : DV => [AV.data d]) (c_app (e := e_s) (s := 1) (l := l4_0) (m := ([x7_1.Key] : List ByteArray)))) .nil)) (by kernel_rfl) (y := (cR (cR (cR (cB (cB (cR (cL (cR (cR bd12)))))))))) (ks' := [.lp (cB (cR (cL (cR (cR bd12)))))]) (by kernel_rfl) ?_
          refine WK.rc (g := []) (l' := [(.t 1, [.ptr 1 0]), (.t 3, [.data (.slc true none 1 (List.map e_s (l4_0 ++ ([x7_1.Key] : List ByteArray))))]), (.t 8, [.data (.slc false none 2 (List.map TChain.en l4_1))]), (.t 9, [iv l4_2]), (.t 10, [iv (w64 (l4_3 + 1))]), (.o 1, [.data (.slc false none 2 (List.map TChain.en l4_4.Chains)), iv l4_4.Mark])]) .nil (by kernel_rfl) (y := (cB (cR (cL (cR (cR bd12)))))) (ks' := []) (by kernel_rfl) ?_
          exact WK.weak (l := [(.t 1, [.ptr 1 0]), (.t 3, [.data (.slc true none 1 (List.map e_s (l4_0 ++ ([x7_1.Key] : List ByteArray))))]), (.t 8, [.data (.slc false none 2 (List.map TChain.en l4_1))]), (.t 9, [iv l4_2]), (.t 10, [iv (w64 (l4_3 + 1))]), (.o 1, [.data (.slc false none 2 (List.map TChain.en l4_4.Chains)), iv l4_4.Mark])]) (wk_of (by kernel_rfl)) (ih (l4_0 ++ ([x7_1.Key] : List ByteArray)) (w64 (l4_3 + 1)) _ h)
    · refine WK.ce (b := (decide (l4_3 < l4_2))) (by kernel_rfl) b6_0 ?_
      refine WK.weak (l := [(.t 1, [.ptr 1 0]), (.t 3, [.data (.slc true none 1 (List.map e_s l4_0))]), (.o 1, [.data (.slc false none 2 (List.map TChain.en l4_4.Chains)), iv l4_4.Mark])]) (wk_of (by kernel_rfl)) ?_
      refine WK.exit (n := 0) (by kernel_rfl) ?_
      cases some_inj h
      exact WKe.fin (e' := .exit 0) (by kernel_rfl) ⟨rfl, rfl⟩
noncomputable def store_May (fu : Nat) (s : TStore) : Option Bool :=
  bd (store_May.lp4 fu s.Chains (s.Chains.length : Int) s fu [] 0) fun o_ => (match o_ with
  | .inl y14_0 =>
    bd (key_Rising fu y14_0) fun r15_1 =>
    br r15_1
      (some (decide (s.Mark ≥ 0)))
      (some false)
  | .inr _ =>
    some false)
theorem store_May.meets (fu : Nat) (s : TStore) (z0 : Bool) (h : store_May fu s = some z0) : Meets Try.prog ⟨12, [.data (.agg [.slc false none 2 (List.map TChain.en s.Chains), .val (.int .i64 s.Mark)])], []⟩ ⟨bv z0, []⟩ := by
  refine meets_of (O := store_May.O) hmix (fn := Try.f12) (code := bd12) (by kernel_rfl) ?_
  refine WK.weak (l := [(.t 0, [.data (.agg [.slc false none 2 (List.map TChain.en s.Chains), .val (.int .i64 s.Mark)])])]) (wk_of (by kernel_rfl)) ?_
  unfold store_May at h
  refine WK.rs (g := []) (l' := [(.t 1, [.ptr 1 0]), (.o 1, [.data (.slc false none 2 (List.map TChain.en s.Chains)), iv s.Mark])]) (by kernel_rfl) .nil (by kernel_rfl) ?_
  refine WK.rs (g := []) (l' := [(.t 1, [.ptr 1 0]), (.t 3, [.data (.slc true (some false) 1 (List.map e_s []))]), (.o 1, [.data (.slc false none 2 (List.map TChain.en s.Chains)), iv s.Mark])]) (by kernel_rfl) .nil (by kernel_rfl) ?_
  refine WK.seq (by kernel_rfl) ?_
  refine WK.rs (g := [.s (.t 9) [iv (s.Chains.length : Int)]]) (l' := [(.t 1, [.ptr 1 0]), (.t 3, [.data (.slc true (some false) 1 (List.map e_s []))]), (.t 8, [.data (.slc false none 2 (List.map TChain.en s.Chains))]), (.t 9, [iv (s.Chains.length : Int)]), (.t 10, [iv 0]), (.o 1, [.data (.slc false none 2 (List.map TChain.en s.Chains)), iv s.Mark])]) (by kernel_rfl) (.cons (c_len (e := TChain.en) (l := s.Chains)) .nil) (by kernel_rfl) ?_
  refine WK.block (n := 0) (by kernel_rfl) ?_
  obtain ⟨o14, ho14, h⟩ := bd_inv h
  refine WK.weak (l := [(.t 1, [.ptr 1 0]), (.t 3, [.data (.slc true none 1 (List.map e_s []))]), (.t 8, [.data (.slc false none 2 (List.map TChain.en s.Chains))]), (.t 9, [iv (s.Chains.length : Int)]), (.t 10, [iv 0]), (.o 1, [.data (.slc false none 2 (List.map TChain.en s.Chains)), iv s.Mark])]) (wk_of (by kernel_rfl)) ?_
  refine WK.use (store_May.lp4_ok fu s.Chains (s.Chains.length : Int) s _ [] 0 _ ho14) ?_
  intro e_ τ_ hp_
  rcases o14 with o14 | o14
  · obtain ⟨y14_0, rfl⟩ : ∃ y, y = o14 := ⟨_, rfl⟩
    obtain ⟨rfl, rfl⟩ := hp_
    refine WKe.code (y := (cR (cR (cR bd12)))) (ks' := []) (by kernel_rfl) ?_
    obtain ⟨r15_1, h15_2, h⟩ := bd_inv h
    rcases br_inv h with ⟨b15_3, h⟩ | ⟨b15_3, h⟩
    · refine WK.rs (g := [.a ⟨bv r15_1, []⟩, .b true, .b true, .b true, .b true]) (l' := [(.t 2, [bv (decide (s.Mark ≥ 0))])]) (by kernel_rfl) (.cons (Asks.of (C := Meets Try.prog) (key_Rising.meets fu y14_0 _ h15_2)) (.cons b15_3 (.cons b15_3 (.cons b15_3 (.cons b15_3 .nil))))) (by kernel_rfl) ?_
      refine WK.weak (l := [(.t 2, [bv (decide (s.Mark ≥ 0))])]) (wk_of (by kernel_rfl)) ?_
      refine WK.ret (by kernel_rfl) ?_
      have h_ := some_inj h
      subst h_
      exact WKe.fin (e' := .ret) (by kernel_rfl) (fin_of (g := []) (by first | exact .inl rfl | exact .inr rfl) .nil (by kernel_rfl))
    · refine WK.rs (g := [.a ⟨bv r15_1, []⟩, .b false, .b false, .b false, .b false]) (l' := [(.t 2, [bv false])]) (by kernel_rfl) (.cons (Asks.of (C := Meets Try.prog) (key_Rising.meets fu y14_0 _ h15_2)) (.cons b15_3 (.cons b15_3 (.cons b15_3 (.cons b15_3 .nil))))) (by kernel_rfl) ?_
      refine WK.weak (l := [(.t 2, [bv false])]) (wk_of (by kernel_rfl)) ?_
      refine WK.ret (by kernel_rfl) ?_
      have h_ := some_inj h
      subst h_
      exact WKe.fin (e' := .ret) (by kernel_rfl) (fin_of (g := []) (by first | exact .inl rfl | exact .inr rfl) .nil (by kernel_rfl))
  · obtain ⟨⟩ := o14
    obtain ⟨rfl, rfl⟩ := hp_
    have h_ := some_inj h
    subst h_
    exact WKe.fin (e' := .ret) (by kernel_rfl) (fin_of (g := []) (by first | exact .inl rfl | exact .inr rfl) .nil (by kernel_rfl))
/-- slices.Equal[[]diwan/api.Version,diwan/api.Version] -/
noncomputable def bd34 : Code := (Try.f34.body).getD .skip
def slices_Equal_api_Version.O : Nat → Nat := fun t => bif ([4, 5] : List Nat).any (Nat.beq t) then 1 else 0
noncomputable def slices_Equal_api_Version.lp6 (fu : Nat) (l6_0 : List TVersion) (l6_1 : List TVersion) (l6_2 : Int) : Nat → Int → Option (Unit ⊕ Unit)
  | 0, _ => none
  | n_ + 1, l6_3 =>
    br (decide (l6_3 < l6_2))
      (ix l6_0 l6_3 fun x10_1 =>
      ix l6_1 l6_3 fun x10_4 =>
      br (!((x10_1.Pos == x10_4.Pos) && ((x10_1.Val.toList == x10_4.Val.toList) && ((x10_1.Gone == x10_4.Gone) && true))))
        (some (.inr ()))
        (slices_Equal_api_Version.lp6 fu l6_0 l6_1 l6_2 n_ (w64 (l6_3 + 1))))
      (some (.inl ()))
noncomputable def slices_Equal_api_Version.lp6_post (l6_0 : List TVersion) (l6_1 : List TVersion) (l6_2 : Int) (r_ : (Unit ⊕ Unit)) : Wy → St → Prop := fun e τ => match r_ with
  | .inl _ => e = .exit 0 ∧ τ = ofL []
  | .inr _ => e = .ret ∧ τ = ofL [(.t 4, [bv false])]
theorem slices_Equal_api_Version.lp6_ok (fu : Nat) (l6_0 : List TVersion) (l6_1 : List TVersion) (l6_2 : Int) : ∀ (n_ : Nat) (l6_3 : Int) (r_ : (Unit ⊕ Unit)), slices_Equal_api_Version.lp6 fu l6_0 l6_1 l6_2 n_ l6_3 = some r_ → WK Try.prog slices_Equal_api_Version.O (Ck Try.prog) (cB (cR (cL (cR (cR bd34))))) [] (ofL [(.t 0, [.data (.slc false none 3 (List.map TVersion.en l6_0))]), (.t 1, [.data (.slc false none 3 (List.map TVersion.en l6_1))]), (.t 12, [iv l6_2]), (.t 13, [iv l6_3])]) (slices_Equal_api_Version.lp6_post l6_0 l6_1 l6_2 r_) := by
  intro n_
  induction n_ with
  | zero => intro l6_3 r_ h; exact no_none h
  | succ n_ ih =>
    intro l6_3 r_ h
    refine WK.loop (by kernel_rfl) ?_
    refine WK.rs (g := []) (l' := [(.t 0, [.data (.slc false none 3 (List.map TVersion.en l6_0))]), (.t 1, [.data (.slc false none 3 (List.map TVersion.en l6_1))]), (.t 12, [iv l6_2]), (.t 13, [iv l6_3]), (.t 14, [bv (decide (l6_3 < l6_2))])]) (by kernel_rfl) .nil (by kernel_rfl) ?_
    refine WK.seq (by kernel_rfl) ?_
    rcases br_inv h with ⟨b8_0, h⟩ | ⟨b8_0, h⟩
    · refine WK.ct (b := (decide (l6_3 < l6_2))) (by kernel_rfl) b8_0 ?_
      refine WK.skip (by kernel_rfl) ?_
      refine WKe.code (y := (cR (cR (cB (cB (cR (cL (cR (cR bd34))))))))) (ks' := [.lp (cB (cR (cL (cR (cR bd34)))))]) (by kernel_rfl) ?_
      refine WK.seq (by kernel_rfl) ?_
      refine WK.block (n := 1) (by kernel_rfl) ?_
      refine WK.rs (g := []) (l' := [(.t 0, [.data (.slc false none 3 (List.map TVersion.en l6_0))]), (.t 1, [.data (.slc false none 3 (List.map TVersion.en l6_1))]), (.t 5, [iv l6_3]), (.t 12, [iv l6_2]), (.t 13, [iv l6_3])]) (by kernel_rfl) .nil (by kernel_rfl) ?_
      obtain ⟨x10_1, a10_2, e10_3, h⟩ := ix_inv h
      obtain ⟨x10_4, a10_5, e10_6, h⟩ := ix_inv h
      refine WK.rs (g := [.c (TVersion.en x10_1), .c (TVersion.en x10_4)]) (l' := [(.t 0, [.data (.slc false none 3 (List.map TVersion.en l6_0))]), (.t 1, [.data (.slc false none 3 (List.map TVersion.en l6_1))]), (.t 12, [iv l6_2]), (.t 13, [iv l6_3]), (.t 24, [bv (!((x10_1.Pos == x10_4.Pos) && ((x10_1.Val.toList == x10_4.Val.toList) && ((x10_1.Gone == x10_4.Gone) && true))))])]) (by kernel_rfl) (.cons (c_ix (e := TVersion.en) a10_2 e10_3) (.cons (c_el (e := TVersion.en) e10_3) (.cons (c_ix (e := TVersion.en) a10_5 e10_6) (.cons (c_el (e := TVersion.en) e10_6) (.cons (Eq.refl true) .nil))))) (by kernel_rfl) ?_
      rcases br_inv h with ⟨b11_0, h⟩ | ⟨b11_0, h⟩
      · refine WK.ct (b := (!((x10_1.Pos == x10_4.Pos) && ((x10_1.Val.toList == x10_4.Val.toList) && ((x10_1.Gone == x10_4.Gone) && true))))) (by kernel_rfl) b11_0 ?_
        refine WK.rs (g := []) (l' := [(.t 4, [bv false])]) (by kernel_rfl) .nil (by kernel_rfl) ?_
        refine WK.weak (l := [(.t 4, [bv false])]) (wk_of (by kernel_rfl)) ?_
        refine WK.ret (by kernel_rfl) ?_
        cases some_inj h
        exact WKe.fin (e' := .ret) (by kernel_rfl) ⟨rfl, rfl⟩
      · refine WK.ce (b := (!((x10_1.Pos == x10_4.Pos) && ((x10_1.Val.toList == x10_4.Val.toList) && ((x10_1.Gone == x10_4.Gone) && true))))) (by kernel_rfl) b11_0 ?_
        refine WK.skip (by kernel_rfl) ?_
        refine WKe.code (y := (cR (cR (cR (cB (cB (cR (cL (cR (cR bd34)))))))))) (ks' := [.lp (cB (cR (cL (cR (cR bd34)))))]) (by kernel_rfl) ?_
        refine WK.rc (g := []) (l' := [(.t 0, [.data (.slc false none 3 (List.map TVersion.en l6_0))]), (.t 1, [.data (.slc false none 3 (List.map TVersion.en l6_1))]), (.t 12, [iv l6_2]), (.t 13, [iv (w64 (l6_3 + 1))])]) .nil (by kernel_rfl) (y := (cB (cR (cL (cR (cR bd34)))))) (ks' := []) (by kernel_rfl) ?_
        exact WK.weak (l := [(.t 0, [.data (.slc false none 3 (List.map TVersion.en l6_0))]), (.t 1, [.data (.slc false none 3 (List.map TVersion.en l6_1))]), (.t 12, [iv l6_2]), (.t 13, [iv (w64 (l6_3 + 1))])]) (wk_of (by kernel_rfl)) (ih (w64 (l6_3 + 1)) _ h)
    · refine WK.ce (b := (decide (l6_3 < l6_2))) (by kernel_rfl) b8_0 ?_
      refine WK.weak (l := []) (wk_of (by kernel_rfl)) ?_
      refine WK.exit (n := 0) (by kernel_rfl) ?_
      cases some_inj h
      exact WKe.fin (e' := .exit 0) (by kernel_rfl) ⟨rfl, rfl⟩
noncomputable def slices_Equal_api_Version (fu : Nat) (s1 : List TVersion) (s2 : List TVersion) : Option Bool :=
  br ((s1.length : Int) != (s2.length : Int))
    (some false)
    (bd (slices_Equal_api_Version.lp6 fu s1 s2 (s1.length : Int) fu 0) fun o_ => (match o_ with
    | .inl _ =>
      some true
    | .inr _ =>
      some false))
theorem slices_Equal_api_Version.meets (fu : Nat) (s1 : List TVersion) (s2 : List TVersion) (z0 : Bool) (h : slices_Equal_api_Version fu s1 s2 = some z0) : Meets Try.prog ⟨34, [.data (.slc false none 3 (List.map TVersion.en s1)), .data (.slc false none 3 (List.map TVersion.en s2))], []⟩ ⟨bv z0, []⟩ := by
  refine meets_of (O := slices_Equal_api_Version.O) hmix (fn := Try.f34) (code := bd34) (by kernel_rfl) ?_
  refine WK.weak (l := [(.t 0, [.data (.slc false none 3 (List.map TVersion.en s1))]), (.t 1, [.data (.slc false none 3 (List.map TVersion.en s2))])]) (wk_of (by kernel_rfl)) ?_
  unfold slices_Equal_api_Version at h
  refine WK.rs (g := []) (l' := [(.t 0, [.data (.slc false none 3 (List.map TVersion.en s1))]), (.t 1, [.data (.slc false none 3 (List.map TVersion.en s2))])]) (by kernel_rfl) .nil (by kernel_rfl) ?_
  refine WK.seq (by kernel_rfl) ?_
  refine WK.rs (g := [.s (.t 7) [iv (s1.length : Int)], .s (.t 9) [iv (s2.length : Int)]]) (l' := [(.t 0, [.data (.slc false none 3 (List.map TVersion.en s1))]), (.t 1, [.data (.slc false none 3 (List.map TVersion.en s2))]), (.t 10, [bv ((s1.length : Int) != (s2.length : Int))])]) (by kernel_rfl) (.cons (c_len (e := TVersion.en) (l := s1)) (.cons (c_len (e := TVersion.en) (l := s2)) .nil)) (by kernel_rfl) ?_
  rcases br_inv h with ⟨b3_0, h⟩ | ⟨b3_0, h⟩
  · refine WK.ct (b := ((s1.length : Int) != (s2.length : Int))) (by kernel_rfl) b3_0 ?_
    refine WK.rs (g := []) (l' := [(.t 4, [bv false])]) (by kernel_rfl) .nil (by kernel_rfl) ?_
    refine WK.weak (l := [(.t 4, [bv false])]) (wk_of (by kernel_rfl)) ?_
    refine WK.ret (by kernel_rfl) ?_
    have h_ := some_inj h
    subst h_
    exact WKe.fin (e' := .ret) (by kernel_rfl) (fin_of (g := []) (by first | exact .inl rfl | exact .inr rfl) .nil (by kernel_rfl))
  · refine WK.ce (b := ((s1.length : Int) != (s2.length : Int))) (by kernel_rfl) b3_0 ?_
    refine WK.skip (by kernel_rfl) ?_
    refine WKe.code (y := (cR (cR bd34))) (ks' := []) (by kernel_rfl) ?_
    refine WK.seq (by kernel_rfl) ?_
    refine WK.rs (g := [.s (.t 12) [iv (s1.length : Int)]]) (l' := [(.t 0, [.data (.slc false none 3 (List.map TVersion.en s1))]), (.t 1, [.data (.slc false none 3 (List.map TVersion.en s2))]), (.t 12, [iv (s1.length : Int)]), (.t 13, [iv 0])]) (by kernel_rfl) (.cons (c_len (e := TVersion.en) (l := s1)) .nil) (by kernel_rfl) ?_
    refine WK.block (n := 0) (by kernel_rfl) ?_
    obtain ⟨o14, ho14, h⟩ := bd_inv h
    refine WK.weak (l := [(.t 0, [.data (.slc false none 3 (List.map TVersion.en s1))]), (.t 1, [.data (.slc false none 3 (List.map TVersion.en s2))]), (.t 12, [iv (s1.length : Int)]), (.t 13, [iv 0])]) (wk_of (by kernel_rfl)) ?_
    refine WK.use (slices_Equal_api_Version.lp6_ok fu s1 s2 (s1.length : Int) _ 0 _ ho14) ?_
    intro e_ τ_ hp_
    rcases o14 with o14 | o14
    · obtain ⟨⟩ := o14
      obtain ⟨rfl, rfl⟩ := hp_
      refine WKe.code (y := (cR (cR (cR bd34)))) (ks' := []) (by kernel_rfl) ?_
      refine WK.rs (g := []) (l' := [(.t 4, [bv true])]) (by kernel_rfl) .nil (by kernel_rfl) ?_
      refine WK.weak (l := [(.t 4, [bv true])]) (wk_of (by kernel_rfl)) ?_
      refine WK.ret (by kernel_rfl) ?_
      have h_ := some_inj h
      subst h_
      exact WKe.fin (e' := .ret) (by kernel_rfl) (fin_of (g := []) (by first | exact .inl rfl | exact .inr rfl) .nil (by kernel_rfl))
    · obtain ⟨⟩ := o14
      obtain ⟨rfl, rfl⟩ := hp_
      have h_ := some_inj h
      subst h_
      exact WKe.fin (e' := .ret) (by kernel_rfl) (fin_of (g := []) (by first | exact .inl rfl | exact .inr rfl) .nil (by kernel_rfl))
/-- diwan/store.Same$1 -/
noncomputable def bd33 : Code := (Try.f33.body).getD .skip
def store_Same_1.O : Nat → Nat := fun t => bif ([2, 3, 4] : List Nat).any (Nat.beq t) then 1 else 0
noncomputable def store_Same_1 (fu : Nat) (x_v : TChain) (y_v : TChain) : Option Bool :=
  br (x_v.Key.toList == y_v.Key.toList)
    (bd (slices_Equal_api_Version fu x_v.L y_v.L) fun r2_2 =>
    some r2_2)
    (some false)
theorem store_Same_1.meets (fu : Nat) (x_v : TChain) (y_v : TChain) (z0 : Bool) (h : store_Same_1 fu x_v y_v = some z0) : Meets Try.prog ⟨33, [.data (.agg [.val (.string x_v.Key), .slc false none 3 (List.map TVersion.en x_v.L)]), .data (.agg [.val (.string y_v.Key), .slc false none 3 (List.map TVersion.en y_v.L)])], []⟩ ⟨bv z0, []⟩ := by
  refine meets_of (O := store_Same_1.O) hmix (fn := Try.f33) (code := bd33) (by kernel_rfl) ?_
  refine WK.weak (l := [(.t 0, [.data (.agg [.val (.string x_v.Key), .slc false none 3 (List.map TVersion.en x_v.L)])]), (.t 1, [.data (.agg [.val (.string y_v.Key), .slc false none 3 (List.map TVersion.en y_v.L)])])]) (wk_of (by kernel_rfl)) ?_
  unfold store_Same_1 at h
  refine WK.rs (g := []) (l' := [(.t 2, [.ptr 2 0]), (.t 3, [.ptr 3 0]), (.o 2, [sv x_v.Key, .data (.slc false none 3 (List.map TVersion.en x_v.L))]), (.o 3, [sv y_v.Key, .data (.slc false none 3 (List.map TVersion.en y_v.L))])]) (by kernel_rfl) .nil (by kernel_rfl) ?_
  rcases br_inv h with ⟨b2_1, h⟩ | ⟨b2_1, h⟩
  · obtain ⟨r2_2, h2_3, h⟩ := bd_inv h
    refine WK.rs (g := [.b true, .b true, .b true, .b true, .b true, .a ⟨bv r2_2, []⟩, .b true]) (l' := [(.t 4, [bv r2_2])]) (by kernel_rfl) (.cons b2_1 (.cons b2_1 (.cons b2_1 (.cons b2_1 (.cons b2_1 (.cons (Asks.of (C := Meets Try.prog) (slices_Equal_api_Version.meets fu x_v.L y_v.L _ h2_3)) (.cons b2_1 .nil))))))) (by kernel_rfl) ?_
    refine WK.weak (l := [(.t 4, [bv r2_2])]) (wk_of (by kernel_rfl)) ?_
    refine WK.ret (by kernel_rfl) ?_
    have h_ := some_inj h
    subst h_
    exact WKe.fin (e' := .ret) (by kernel_rfl) (fin_of (g := []) (by first | exact .inl rfl | exact .inr rfl) .nil (by kernel_rfl))
  · refine WK.rs (g := [.b false, .b false, .b false, .b false, .b false, .b false]) (l' := [(.t 4, [bv false])]) (by kernel_rfl) (.cons b2_1 (.cons b2_1 (.cons b2_1 (.cons b2_1 (.cons b2_1 (.cons b2_1 .nil)))))) (by kernel_rfl) ?_
    refine WK.weak (l := [(.t 4, [bv false])]) (wk_of (by kernel_rfl)) ?_
    refine WK.ret (by kernel_rfl) ?_
    have h_ := some_inj h
    subst h_
    exact WKe.fin (e' := .ret) (by kernel_rfl) (fin_of (g := []) (by first | exact .inl rfl | exact .inr rfl) .nil (by kernel_rfl))
/-- slices.EqualFunc[[]diwan/api.Chain,[]diwan/api.Chain,diwan/api.Chain,diwan/api.Chain] -/
noncomputable def bd32 : Code := (Try.f32.body).getD .skip
def slices_EqualFunc_api_Chain.O : Nat → Nat := fun t => bif ([6, 7, 8, 9] : List Nat).any (Nat.beq t) then 1 else 0
noncomputable def slices_EqualFunc_api_Chain.lp6 (fu : Nat) (l6_0 : List TChain) (l6_1 : List TChain) (l6_2 : Int) : Nat → Int → Option (Unit ⊕ Unit)
  | 0, _ => none
  | n_ + 1, l6_3 =>
    br (decide (l6_3 < l6_2))
      (ix l6_1 l6_3 fun x9_1 =>
      ix l6_0 l6_3 fun x10_1 =>
      bd (store_Same_1 fu x9_1 x10_1) fun r11_1 =>
      br (!r11_1)
        (some (.inr ()))
        (slices_EqualFunc_api_Chain.lp6 fu l6_0 l6_1 l6_2 n_ (w64 (l6_3 + 1))))
      (some (.inl ()))
noncomputable def slices_EqualFunc_api_Chain.lp6_post (l6_0 : List TChain) (l6_1 : List TChain) (l6_2 : Int) (r_ : (Unit ⊕ Unit)) : Wy → St → Prop := fun e τ => match r_ with
  | .inl _ => e = .exit 0 ∧ τ = ofL []
  | .inr _ => e = .ret ∧ τ = ofL [(.t 6, [bv false])]
theorem slices_EqualFunc_api_Chain.lp6_ok (fu : Nat) (l6_0 : List TChain) (l6_1 : List TChain) (l6_2 : Int) : ∀ (n_ : Nat) (l6_3 : Int) (r_ : (Unit ⊕ Unit)), slices_EqualFunc_api_Chain.lp6 fu l6_0 l6_1 l6_2 n_ l6_3 = some r_ → WK Try.prog slices_EqualFunc_api_Chain.O (Ck Try.prog) (cB (cR (cL (cR (cR bd32))))) [] (ofL [(.t 1, [.data (.slc false none 2 (List.map TChain.en l6_0))]), (.t 2, [.fn (.func 33) [] []]), (.t 15, [.data (.slc false none 2 (List.map TChain.en l6_1))]), (.t 16, [iv l6_2]), (.t 17, [iv l6_3])]) (slices_EqualFunc_api_Chain.lp6_post l6_0 l6_1 l6_2 r_) := by
  intro n_
  induction n_ with
  | zero => intro l6_3 r_ h; exact no_none h
  | succ n_ ih =>
    intro l6_3 r_ h
    refine WK.loop (by kernel_rfl) ?_
    refine WK.rs (g := []) (l' := [(.t 1, [.data (.slc false none 2 (List.map TChain.en l6_0))]), (.t 2, [.fn (.func 33) [] []]), (.t 15, [.data (.slc false none 2 (List.map TChain.en l6_1))]), (.t 16, [iv l6_2]), (.t 17, [iv l6_3]), (.t 18, [bv (decide (l6_3 < l6_2))])]) (by kernel_rfl) .nil (by kernel_rfl) ?_
    refine WK.seq (by kernel_rfl) ?_
    rcases br_inv h with ⟨b8_0, h⟩ | ⟨b8_0, h⟩
    · refine WK.ct (b := (decide (l6_3 < l6_2))) (by kernel_rfl) b8_0 ?_
      refine WK.skip (by kernel_rfl) ?_
      refine WKe.code (y := (cR (cR (cB (cB (cR (cL (cR (cR bd32))))))))) (ks' := [.lp (cB (cR (cL (cR (cR bd32)))))]) (by kernel_rfl) ?_
      refine WK.seq (by kernel_rfl) ?_
      refine WK.block (n := 1) (by kernel_rfl) ?_
      obtain ⟨x9_1, a9_2, e9_3, h⟩ := ix_inv h
      refine WK.rs (g := [.c (TChain.en x9_1)]) (l' := [(.t 1, [.data (.slc false none 2 (List.map TChain.en l6_0))]), (.t 2, [.fn (.func 33) [] []]), (.t 7, [iv l6_3]), (.t 8, [.ptr 8 0]), (.t 15, [.data (.slc false none 2 (List.map TChain.en l6_1))]), (.t 16, [iv l6_2]), (.t 17, [iv l6_3]), (.o 8, [sv x9_1.Key, .data (.slc false none 3 (List.map TVersion.en x9_1.L))])]) (by kernel_rfl) (.cons (c_ix (e := TChain.en) a9_2 e9_3) (.cons (c_el (e := TChain.en) e9_3) .nil)) (by kernel_rfl) ?_
      obtain ⟨x10_1, a10_2, e10_3, h⟩ := ix_inv h
      refine WK.rs (g := [.c (TChain.en x10_1)]) (l' := [(.t 1, [.data (.slc false none 2 (List.map TChain.en l6_0))]), (.t 2, [.fn (.func 33) [] []]), (.t 8, [.ptr 8 0]), (.t 9, [.ptr 9 0]), (.t 15, [.data (.slc false none 2 (List.map TChain.en l6_1))]), (.t 16, [iv l6_2]), (.t 17, [iv l6_3]), (.o 8, [sv x9_1.Key, .data (.slc false none 3 (List.map TVersion.en x9_1.L))]), (.o 9, [sv x10_1.Key, .data (.slc false none 3 (List.map TVersion.en x10_1.L))])]) (by kernel_rfl) (.cons (c_ix (e := TChain.en) a10_2 e10_3) (.cons (c_el (e := TChain.en) e10_3) .nil)) (by kernel_rfl) ?_
      obtain ⟨r11_1, h11_2, h⟩ := bd_inv h
      refine WK.rs (g := [.a ⟨bv r11_1, []⟩]) (l' := [(.t 1, [.data (.slc false none 2 (List.map TChain.en l6_0))]), (.t 2, [.fn (.func 33) [] []]), (.t 15, [.data (.slc false none 2 (List.map TChain.en l6_1))]), (.t 16, [iv l6_2]), (.t 17, [iv l6_3]), (.t 30, [bv (!r11_1)])]) (by kernel_rfl) (.cons (Asks.of (C := Meets Try.prog) (store_Same_1.meets fu x9_1 x10_1 _ h11_2)) .nil) (by kernel_rfl) ?_
      rcases br_inv h with ⟨b12_0, h⟩ | ⟨b12_0, h⟩
      · refine WK.ct (b := (!r11_1)) (by kernel_rfl) b12_0 ?_
        refine WK.rs (g := []) (l' := [(.t 6, [bv false])]) (by kernel_rfl) .nil (by kernel_rfl) ?_
        refine WK.weak (l := [(.t 6, [bv false])]) (wk_of (by kernel_rfl)) ?_
        refine WK.ret (by kernel_rfl) ?_
        cases some_inj h
        exact WKe.fin (e' := .ret) (by kernel_rfl) ⟨rfl, rfl⟩
      · refine WK.ce (b := (!r11_1)) (by kernel_rfl) b12_0 ?_
        refine WK.skip (by kernel_rfl) ?_
        refine WKe.code (y := (cR (cR (cR (cB (cB (cR (cL (cR (cR bd32)))))))))) (ks' := [.lp (cB (cR (cL (cR (cR bd32)))))]) (by kernel_rfl) ?_
        refine WK.rc (g := []) (l' := [(.t 1, [.data (.slc false none 2 (List.map TChain.en l6_0))]), (.t 2, [.fn (.func 33) [] []]), (.t 15, [.data (.slc false none 2 (List.map TChain.en l6_1))]), (.t 16, [iv l6_2]), (.t 17, [iv (w64 (l6_3 + 1))])]) .nil (by kernel_rfl) (y := (cB (cR (cL (cR (cR bd32)))))) (ks' := []) (by kernel_rfl) ?_
        exact WK.weak (l := [(.t 1, [.data (.slc false none 2 (List.map TChain.en l6_0))]), (.t 2, [.fn (.func 33) [] []]), (.t 15, [.data (.slc false none 2 (List.map TChain.en l6_1))]), (.t 16, [iv l6_2]), (.t 17, [iv (w64 (l6_3 + 1))])]) (wk_of (by kernel_rfl)) (ih (w64 (l6_3 + 1)) _ h)
    · refine WK.ce (b := (decide (l6_3 < l6_2))) (by kernel_rfl) b8_0 ?_
      refine WK.weak (l := []) (wk_of (by kernel_rfl)) ?_
      refine WK.exit (n := 0) (by kernel_rfl) ?_
      cases some_inj h
      exact WKe.fin (e' := .exit 0) (by kernel_rfl) ⟨rfl, rfl⟩
noncomputable def slices_EqualFunc_api_Chain (fu : Nat) (s1 : List TChain) (s2 : List TChain) : Option Bool :=
  br ((s1.length : Int) != (s2.length : Int))
    (some false)
    (bd (slices_EqualFunc_api_Chain.lp6 fu s2 s1 (s1.length : Int) fu 0) fun o_ => (match o_ with
    | .inl _ =>
      some true
    | .inr _ =>
      some false))
theorem slices_EqualFunc_api_Chain.meets (fu : Nat) (s1 : List TChain) (s2 : List TChain) (z0 : Bool) (h : slices_EqualFunc_api_Chain fu s1 s2 = some z0) : Meets Try.prog ⟨32, [.data (.slc false none 2 (List.map TChain.en s1)), .data (.slc false none 2 (List.map TChain.en s2)), .fn (.func 33) [] []], []⟩ ⟨bv z0, []⟩ := by
  refine meets_of (O := slices_EqualFunc_api_Chain.O) hmix (fn := Try.f32) (code := bd32) (by kernel_rfl) ?_
  refine WK.weak (l := [(.t 0, [.data (.slc false none 2 (List.map TChain.en s1))]), (.t 1, [.data (.slc false none 2 (List.map TChain.en s2))]), (.t 2, [.fn (.func 33) [] []])]) (wk_of (by kernel_rfl)) ?_
  unfold slices_EqualFunc_api_Chain at h
  refine WK.rs (g := []) (l' := [(.t 0, [.data (.slc false none 2 (List.map TChain.en s1))]), (.t 1, [.data (.slc false none 2 (List.map TChain.en s2))]), (.t 2, [.fn (.func 33) [] []])]) (by kernel_rfl) .nil (by kernel_rfl) ?_
  refine WK.seq (by kernel_rfl) ?_
  refine WK.rs (g := [.s (.t 11) [iv (s1.length : Int)], .s (.t 13) [iv (s2.length : Int)]]) (l' := [(.t 0, [.data (.slc false none 2 (List.map TChain.en s1))]), (.t 1, [.data (.slc false none 2 (List.map TChain.en s2))]), (.t 2, [.fn (.func 33) [] []]), (.t 14, [bv ((s1.length : Int) != (s2.length : Int))])]) (by kernel_rfl) (.cons (c_len (e := TChain.en) (l := s1)) (.cons (c_len (e := TChain.en) (l := s2)) .nil)) (by kernel_rfl) ?_
  rcases br_inv h with ⟨b3_0, h⟩ | ⟨b3_0, h⟩
  · refine WK.ct (b := ((s1.length : Int) != (s2.length : Int))) (by kernel_rfl) b3_0 ?_
    refine WK.rs (g := []) (l' := [(.t 6, [bv false])]) (by kernel_rfl) .nil (by kernel_rfl) ?_
    refine WK.weak (l := [(.t 6, [bv false])]) (wk_of (by kernel_rfl)) ?_
    refine WK.ret (by kernel_rfl) ?_
    have h_ := some_inj h
    subst h_
    exact WKe.fin (e' := .ret) (by kernel_rfl) (fin_of (g := []) (by first | exact .inl rfl | exact .inr rfl) .nil (by kernel_rfl))
  · refine WK.ce (b := ((s1.length : Int) != (s2.length : Int))) (by kernel_rfl) b3_0 ?_
    refine WK.skip (by kernel_rfl) ?_
    refine WKe.code (y := (cR (cR bd32))) (ks' := []) (by kernel_rfl) ?_
    refine WK.seq (by kernel_rfl) ?_
    refine WK.rs (g := [.s (.t 16) [iv (s1.length : Int)]]) (l' := [(.t 1, [.data (.slc false none 2 (List.map TChain.en s2))]), (.t 2, [.fn (.func 33) [] []]), (.t 15, [.data (.slc false none 2 (List.map TChain.en s1))]), (.t 16, [iv (s1.length : Int)]), (.t 17, [iv 0])]) (by kernel_rfl) (.cons (c_len (e := TChain.en) (l := s1)) .nil) (by kernel_rfl) ?_
    refine WK.block (n := 0) (by kernel_rfl) ?_
    obtain ⟨o15, ho15, h⟩ := bd_inv h
    refine WK.weak (l := [(.t 1, [.data (.slc false none 2 (List.map TChain.en s2))]), (.t 2, [.fn (.func 33) [] []]), (.t 15, [.data (.slc false none 2 (List.map TChain.en s1))]), (.t 16, [iv (s1.length : Int)]), (.t 17, [iv 0])]) (wk_of (by kernel_rfl)) ?_
    refine WK.use (slices_EqualFunc_api_Chain.lp6_ok fu s2 s1 (s1.length : Int) _ 0 _ ho15) ?_
    intro e_ τ_ hp_
    rcases o15 with o15 | o15
    · obtain ⟨⟩ := o15
      obtain ⟨rfl, rfl⟩ := hp_
      refine WKe.code (y := (cR (cR (cR bd32)))) (ks' := []) (by kernel_rfl) ?_
      refine WK.rs (g := []) (l' := [(.t 6, [bv true])]) (by kernel_rfl) .nil (by kernel_rfl) ?_
      refine WK.weak (l := [(.t 6, [bv true])]) (wk_of (by kernel_rfl)) ?_
      refine WK.ret (by kernel_rfl) ?_
      have h_ := some_inj h
      subst h_
      exact WKe.fin (e' := .ret) (by kernel_rfl) (fin_of (g := []) (by first | exact .inl rfl | exact .inr rfl) .nil (by kernel_rfl))
    · obtain ⟨⟩ := o15
      obtain ⟨rfl, rfl⟩ := hp_
      have h_ := some_inj h
      subst h_
      exact WKe.fin (e' := .ret) (by kernel_rfl) (fin_of (g := []) (by first | exact .inl rfl | exact .inr rfl) .nil (by kernel_rfl))
/-- diwan/store.Same -/
noncomputable def bd13 : Code := (Try.f13.body).getD .skip
def store_Same.O : Nat → Nat := fun t => bif ([2, 3, 4] : List Nat).any (Nat.beq t) then 1 else 0
noncomputable def store_Same (fu : Nat) (a : TStore) (b : TStore) : Option Bool :=
  br (a.Mark == b.Mark)
    (bd (slices_EqualFunc_api_Chain fu a.Chains b.Chains) fun r2_2 =>
    some r2_2)
    (some false)
theorem store_Same.meets (fu : Nat) (a : TStore) (b : TStore) (z0 : Bool) (h : store_Same fu a b = some z0) : Meets Try.prog ⟨13, [.data (.agg [.slc false none 2 (List.map TChain.en a.Chains), .val (.int .i64 a.Mark)]), .data (.agg [.slc false none 2 (List.map TChain.en b.Chains), .val (.int .i64 b.Mark)])], []⟩ ⟨bv z0, []⟩ := by
  refine meets_of (O := store_Same.O) hmix (fn := Try.f13) (code := bd13) (by kernel_rfl) ?_
  refine WK.weak (l := [(.t 0, [.data (.agg [.slc false none 2 (List.map TChain.en a.Chains), .val (.int .i64 a.Mark)])]), (.t 1, [.data (.agg [.slc false none 2 (List.map TChain.en b.Chains), .val (.int .i64 b.Mark)])])]) (wk_of (by kernel_rfl)) ?_
  unfold store_Same at h
  refine WK.rs (g := []) (l' := [(.t 2, [.ptr 2 0]), (.t 3, [.ptr 3 0]), (.o 2, [.data (.slc false none 2 (List.map TChain.en a.Chains)), iv a.Mark]), (.o 3, [.data (.slc false none 2 (List.map TChain.en b.Chains)), iv b.Mark])]) (by kernel_rfl) .nil (by kernel_rfl) ?_
  rcases br_inv h with ⟨b2_1, h⟩ | ⟨b2_1, h⟩
  · obtain ⟨r2_2, h2_3, h⟩ := bd_inv h
    refine WK.rs (g := [.b true, .b true, .b true, .b true, .b true, .a ⟨bv r2_2, []⟩, .b true]) (l' := [(.t 4, [bv r2_2])]) (by kernel_rfl) (.cons b2_1 (.cons b2_1 (.cons b2_1 (.cons b2_1 (.cons b2_1 (.cons (Asks.of (C := Meets Try.prog) (slices_EqualFunc_api_Chain.meets fu a.Chains b.Chains _ h2_3)) (.cons b2_1 .nil))))))) (by kernel_rfl) ?_
    refine WK.weak (l := [(.t 4, [bv r2_2])]) (wk_of (by kernel_rfl)) ?_
    refine WK.ret (by kernel_rfl) ?_
    have h_ := some_inj h
    subst h_
    exact WKe.fin (e' := .ret) (by kernel_rfl) (fin_of (g := []) (by first | exact .inl rfl | exact .inr rfl) .nil (by kernel_rfl))
  · refine WK.rs (g := [.b false, .b false, .b false, .b false, .b false, .b false]) (l' := [(.t 4, [bv false])]) (by kernel_rfl) (.cons b2_1 (.cons b2_1 (.cons b2_1 (.cons b2_1 (.cons b2_1 (.cons b2_1 .nil)))))) (by kernel_rfl) ?_
    refine WK.weak (l := [(.t 4, [bv false])]) (wk_of (by kernel_rfl)) ?_
    refine WK.ret (by kernel_rfl) ?_
    have h_ := some_inj h
    subst h_
    exact WKe.fin (e' := .ret) (by kernel_rfl) (fin_of (g := []) (by first | exact .inl rfl | exact .inr rfl) .nil (by kernel_rfl))
/-- diwan/diwanlaw16.begun -/
noncomputable def bd8 : Code := (Try.f8.body).getD .skip
def diwanlaw16_begun.O : Nat → Nat := fun t => bif ([0, 1, 2, 3, 4, 5, 6, 7, 8, 9, 10, 11, 12, 13, 17, 25, 29, 49] : List Nat).any (Nat.beq t) then 1 else 0
noncomputable def diwanlaw16_begun (fu : Nat) : Option Bool :=
  bd (store_Write fu (TStore.mk [] 0) 3 ([(TWrite.mk (⟨#[98]⟩ : ByteArray) (⟨#[118]⟩ : ByteArray) false), (TWrite.mk (⟨#[97]⟩ : ByteArray) ByteArray.empty true)] : List TWrite)) fun r2_1 =>
  bd (store_Get fu r2_1 (⟨#[98]⟩ : ByteArray) 3) fun (r3_1, r3_2) =>
  bd (store_Span fu r2_1 ByteArray.empty ByteArray.empty 5) fun (r4_1, r4_2) =>
  bd (store_Trim fu r2_1 9) fun r5_1 =>
  bd (store_Get fu r5_1 (⟨#[98]⟩ : ByteArray) 8) fun (r6_1, r6_2) =>
  br ((r2_1.Chains.length : Int) == 2)
    (ix r2_1.Chains 0 fun x7_2 =>
    br (x7_2.Key.toList == (⟨#[97]⟩ : ByteArray).toList)
      (br (r3_2 == 0)
        (br ((r3_1.Key.toList == (⟨#[98]⟩ : ByteArray).toList) && ((r3_1.Version == 3) && ((r3_1.Val.toList == (⟨#[118]⟩ : ByteArray).toList) && ((r3_1.There == true) && true))))
          (br (r4_2 == 0)
            (br ((r4_1.length : Int) == 1)
              (br (r5_1.Mark == 9)
                (br (r6_2 == 4)
                  (bd (store_Last fu r2_1 (⟨#[97]⟩ : ByteArray)) fun r7_12 =>
                  br (r7_12 == 3)
                    (bd (store_May fu r2_1) fun r7_15 =>
                    br r7_15
                      (bd (store_Same fu r2_1 r2_1) fun r7_18 =>
                      br r7_18
                        (bd (store_Same fu r2_1 r5_1) fun r7_21 =>
                        some (!r7_21))
                        (some false))
                      (some false))
                    (some false))
                  (some false))
                (some false))
              (some false))
            (some false))
          (some false))
        (some false))
      (some false))
    (some false)
theorem diwanlaw16_begun.meets (fu : Nat) (z0 : Bool) (h : diwanlaw16_begun fu = some z0) : Meets Try.prog ⟨8, [], []⟩ ⟨bv z0, []⟩ := by
  refine meets_of (O := diwanlaw16_begun.O) hmix (fn := Try.f8) (code := bd8) (by kernel_rfl) ?_
  refine WK.weak (l := []) (wk_of (by kernel_rfl)) ?_
  unfold diwanlaw16_begun at h
  refine WK.rs (g := []) (l' := []) (by kernel_rfl) .nil (by kernel_rfl) ?_
  obtain ⟨r2_1, h2_2, h⟩ := bd_inv h
  refine WK.rs (g := [.a ⟨.data (.agg [.slc true none 2 (List.map TChain.en r2_1.Chains), .val (.int .i64 r2_1.Mark)]), []⟩]) (l' := [(.t 1, [.ptr 1 0]), (.o 1, [.data (.slc true none 2 (List.map TChain.en r2_1.Chains)), iv r2_1.Mark])]) (by kernel_rfl) (.cons (Asks.fg (args1 := [.data (.agg [.slc false none 2 (List.map TChain.en []), .val (.int .i64 0)]), iv 3]) (args2 := []) (nl := some false) (sz := 3) (es := List.map TWrite.en ([(TWrite.mk (⟨#[98]⟩ : ByteArray) (⟨#[118]⟩ : ByteArray) false), (TWrite.mk (⟨#[97]⟩ : ByteArray) ByteArray.empty true)] : List TWrite)) (Asks.of (C := Meets Try.prog) (store_Write.meets fu (TStore.mk [] 0) 3 ([(TWrite.mk (⟨#[98]⟩ : ByteArray) (⟨#[118]⟩ : ByteArray) false), (TWrite.mk (⟨#[97]⟩ : ByteArray) ByteArray.empty true)] : List TWrite) _ h2_2))) .nil) (by kernel_rfl) ?_
  obtain ⟨⟨r3_1, r3_2⟩, h3_3, h⟩ := bd_inv h
  refine WK.rs (g := [.a ⟨.tup [.data (TRead.ag r3_1), iv r3_2], []⟩]) (l' := [(.t 1, [.ptr 1 0]), (.t 2, [.ptr 2 0]), (.t 3, [iv r3_2]), (.o 1, [.data (.slc false none 2 (List.map TChain.en r2_1.Chains)), iv r2_1.Mark]), (.o 2, (TRead.ob r3_1))]) (by kernel_rfl) (.cons (Asks.of (C := Meets Try.prog) (store_Get.meets fu r2_1 (⟨#[98]⟩ : ByteArray) 3 _ _ h3_3)) .nil) (by kernel_rfl) ?_
  obtain ⟨⟨r4_1, r4_2⟩, h4_3, h⟩ := bd_inv h
  refine WK.rs (g := [.a ⟨.tup [.data (.slc false none 4 (List.map TRead.en r4_1)), iv r4_2], []⟩]) (l' := [(.t 1, [.ptr 1 0]), (.t 2, [.ptr 2 0]), (.t 3, [iv r3_2]), (.t 4, [.data (.slc false none 4 (List.map TRead.en r4_1))]), (.t 5, [iv r4_2]), (.o 1, [.data (.slc false none 2 (List.map TChain.en r2_1.Chains)), iv r2_1.Mark]), (.o 2, (TRead.ob r3_1))]) (by kernel_rfl) (.cons (Asks.of (C := Meets Try.prog) (store_Span.meets fu r2_1 ByteArray.empty ByteArray.empty 5 _ _ h4_3)) .nil) (by kernel_rfl) ?_
  obtain ⟨r5_1, h5_2, h⟩ := bd_inv h
  refine WK.rs (g := [.a ⟨.data (.agg [.slc true none 2 (List.map TChain.en r5_1.Chains), .val (.int .i64 r5_1.Mark)]), []⟩]) (l' := [(.t 1, [.ptr 1 0]), (.t 2, [.ptr 2 0]), (.t 3, [iv r3_2]), (.t 4, [.data (.slc false none 4 (List.map TRead.en r4_1))]), (.t 5, [iv r4_2]), (.t 6, [.ptr 6 0]), (.o 1, [.data (.slc false none 2 (List.map TChain.en r2_1.Chains)), iv r2_1.Mark]), (.o 2, (TRead.ob r3_1)), (.o 6, [.data (.slc true none 2 (List.map TChain.en r5_1.Chains)), iv r5_1.Mark])]) (by kernel_rfl) (.cons (Asks.of (C := Meets Try.prog) (store_Trim.meets fu r2_1 9 _ h5_2)) .nil) (by kernel_rfl) ?_
  obtain ⟨⟨r6_1, r6_2⟩, h6_3, h⟩ := bd_inv h
  refine WK.rs (g := [.a ⟨.tup [.data (TRead.ag r6_1), iv r6_2], []⟩]) (l' := [(.t 1, [.ptr 1 0]), (.t 2, [.ptr 2 0]), (.t 3, [iv r3_2]), (.t 4, [.data (.slc false none 4 (List.map TRead.en r4_1))]), (.t 5, [iv r4_2]), (.t 6, [.ptr 6 0]), (.t 8, [iv r6_2]), (.o 1, [.data (.slc false none 2 (List.map TChain.en r2_1.Chains)), iv r2_1.Mark]), (.o 2, (TRead.ob r3_1)), (.o 6, [.data (.slc false none 2 (List.map TChain.en r5_1.Chains)), iv r5_1.Mark])]) (by kernel_rfl) (.cons (Asks.of (C := Meets Try.prog) (store_Get.meets fu r5_1 (⟨#[98]⟩ : ByteArray) 8 _ _ h6_3)) .nil) (by kernel_rfl) ?_
  rcases br_inv h with ⟨b7_1, h⟩ | ⟨b7_1, h⟩
  · obtain ⟨x7_2, a7_3, e7_4, h⟩ := ix_inv h
    rcases br_inv h with ⟨b7_5, h⟩ | ⟨b7_5, h⟩
    · rcases br_inv h with ⟨b7_6, h⟩ | ⟨b7_6, h⟩
      · rcases br_inv h with ⟨b7_7, h⟩ | ⟨b7_7, h⟩
        · rcases br_inv h with ⟨b7_8, h⟩ | ⟨b7_8, h⟩
          · rcases br_inv h with ⟨b7_9, h⟩ | ⟨b7_9, h⟩
            · rcases br_inv h with ⟨b7_10, h⟩ | ⟨b7_10, h⟩
              · rcases br_inv h with ⟨b7_11, h⟩ | ⟨b7_11, h⟩
                · obtain ⟨r7_12, h7_13, h⟩ := bd_inv h
                  rcases br_inv h with ⟨b7_14, h⟩ | ⟨b7_14, h⟩
                  · obtain ⟨r7_15, h7_16, h⟩ := bd_inv h
                    rcases br_inv h with ⟨b7_17, h⟩ | ⟨b7_17, h⟩
                    · obtain ⟨r7_18, h7_19, h⟩ := bd_inv h
                      rcases br_inv h with ⟨b7_20, h⟩ | ⟨b7_20, h⟩
                      · obtain ⟨r7_21, h7_22, h⟩ := bd_inv h
                        refine WK.rs (g := [.s (.t 33) [iv (r2_1.Chains.length : Int)], .b true, .b true, .b true, .c (TChain.en x7_2), .b true, .b true, .b true, .b true, .b true, .b true, .b true, .b true, .b true, .b true, .b true, .b true, .b true, .b true, .b true, .b true, .s (.t 58) [iv (r4_1.length : Int)], .b true, .b true, .b true, .b true, .b true, .b true, .b true, .b true, .b true, .b true, .b true, .a ⟨iv r7_12, []⟩, .b true, .b true, .b true, .b true, .a ⟨bv r7_15, []⟩, .b true, .b true, .b true, .b true, .a ⟨bv r7_18, []⟩, .b true, .b true, .b true, .b true, .a ⟨bv r7_21, []⟩, .b true, .b true]) (l' := [(.t 0, [bv (!r7_21)])]) (by kernel_rfl) (.cons (c_len (e := TChain.en) (l := r2_1.Chains)) (.cons b7_1 (.cons b7_1 (.cons b7_1 (.cons (c_ix (e := TChain.en) a7_3 e7_4) (.cons (c_el (e := TChain.en) e7_4) (.cons b7_1 (.cons b7_1 (.cons b7_1 (.cons b7_1 (.cons b7_5 (.cons b7_5 (.cons b7_5 (.cons b7_6 (.cons b7_6 (.cons b7_6 (.cons b7_6 (.cons b7_7 (.cons b7_7 (.cons b7_7 (.cons b7_8 (.cons b7_8 (.cons (c_len (e := TRead.en) (l := r4_1)) (.cons b7_8 (.cons b7_8 (.cons b7_9 (.cons b7_9 (.cons b7_9 (.cons b7_9 (.cons b7_10 (.cons b7_10 (.cons b7_10 (.cons b7_11 (.cons b7_11 (.cons (Asks.of (C := Meets Try.prog) (store_Last.meets fu r2_1 (⟨#[97]⟩ : ByteArray) _ h7_13)) (.cons b7_11 (.cons b7_11 (.cons b7_14 (.cons b7_14 (.cons (Asks.of (C := Meets Try.prog) (store_May.meets fu r2_1 _ h7_16)) (.cons b7_14 (.cons b7_17 (.cons b7_17 (.cons b7_17 (.cons (Asks.of (C := Meets Try.prog) (store_Same.meets fu r2_1 r2_1 _ h7_19)) (.cons b7_17 (.cons b7_20 (.cons b7_20 (.cons b7_20 (.cons (Asks.of (C := Meets Try.prog) (store_Same.meets fu r2_1 r5_1 _ h7_22)) (.cons b7_20 (.cons b7_20 .nil)))))))))))))))))))))))))))))))))))))))))))))))))))) (by kernel_rfl) ?_
                        refine WK.weak (l := [(.t 0, [bv (!r7_21)])]) (wk_of (by kernel_rfl)) ?_
                        refine WK.ret (by kernel_rfl) ?_
                        have h_ := some_inj h
                        subst h_
                        exact WKe.fin (e' := .ret) (by kernel_rfl) (fin_of (g := []) (by first | exact .inl rfl | exact .inr rfl) .nil (by kernel_rfl))
                      · refine WK.rs (g := [.s (.t 33) [iv (r2_1.Chains.length : Int)], .b true, .b true, .b true, .c (TChain.en x7_2), .b true, .b true, .b true, .b true, .b true, .b true, .b true, .b true, .b true, .b true, .b true, .b true, .b true, .b true, .b true, .b true, .s (.t 58) [iv (r4_1.length : Int)], .b true, .b true, .b true, .b true, .b true, .b true, .b true, .b true, .b true, .b true, .b true, .a ⟨iv r7_12, []⟩, .b true, .b true, .b true, .b true, .a ⟨bv r7_15, []⟩, .b true, .b true, .b true, .b true, .a ⟨bv r7_18, []⟩, .b true, .b false, .b false, .b false, .b false, .b false]) (l' := [(.t 0, [bv false])]) (by kernel_rfl) (.cons (c_len (e := TChain.en) (l := r2_1.Chains)) (.cons b7_1 (.cons b7_1 (.cons b7_1 (.cons (c_ix (e := TChain.en) a7_3 e7_4) (.cons (c_el (e := TChain.en) e7_4) (.cons b7_1 (.cons b7_1 (.cons b7_1 (.cons b7_1 (.cons b7_5 (.cons b7_5 (.cons b7_5 (.cons b7_6 (.cons b7_6 (.cons b7_6 (.cons b7_6 (.cons b7_7 (.cons b7_7 (.cons b7_7 (.cons b7_8 (.cons b7_8 (.cons (c_len (e := TRead.en) (l := r4_1)) (.cons b7_8 (.cons b7_8 (.cons b7_9 (.cons b7_9 (.cons b7_9 (.cons b7_9 (.cons b7_10 (.cons b7_10 (.cons b7_10 (.cons b7_11 (.cons b7_11 (.cons (Asks.of (C := Meets Try.prog) (store_Last.meets fu r2_1 (⟨#[97]⟩ : ByteArray) _ h7_13)) (.cons b7_11 (.cons b7_11 (.cons b7_14 (.cons b7_14 (.cons (Asks.of (C := Meets Try.prog) (store_May.meets fu r2_1 _ h7_16)) (.cons b7_14 (.cons b7_17 (.cons b7_17 (.cons b7_17 (.cons (Asks.of (C := Meets Try.prog) (store_Same.meets fu r2_1 r2_1 _ h7_19)) (.cons b7_17 (.cons b7_20 (.cons b7_20 (.cons b7_20 (.cons b7_20 (.cons b7_20 .nil))))))))))))))))))))))))))))))))))))))))))))))))))) (by kernel_rfl) ?_
                        refine WK.weak (l := [(.t 0, [bv false])]) (wk_of (by kernel_rfl)) ?_
                        refine WK.ret (by kernel_rfl) ?_
                        have h_ := some_inj h
                        subst h_
                        exact WKe.fin (e' := .ret) (by kernel_rfl) (fin_of (g := []) (by first | exact .inl rfl | exact .inr rfl) .nil (by kernel_rfl))
                    · refine WK.rs (g := [.s (.t 33) [iv (r2_1.Chains.length : Int)], .b true, .b true, .b true, .c (TChain.en x7_2), .b true, .b true, .b true, .b true, .b true, .b true, .b true, .b true, .b true, .b true, .b true, .b true, .b true, .b true, .b true, .b true, .s (.t 58) [iv (r4_1.length : Int)], .b true, .b true, .b true, .b true, .b true, .b true, .b true, .b true, .b true, .b true, .b true, .a ⟨iv r7_12, []⟩, .b true, .b true, .b true, .b true, .a ⟨bv r7_15, []⟩, .b true, .b false, .b false, .b false, .b false, .b false, .b false, .b false, .b false, .b false]) (l' := [(.t 0, [bv false])]) (by kernel_rfl) (.cons (c_len (e := TChain.en) (l := r2_1.Chains)) (.cons b7_1 (.cons b7_1 (.cons b7_1 (.cons (c_ix (e := TChain.en) a7_3 e7_4) (.cons (c_el (e := TChain.en) e7_4) (.cons b7_1 (.cons b7_1 (.cons b7_1 (.cons b7_1 (.cons b7_5 (.cons b7_5 (.cons b7_5 (.cons b7_6 (.cons b7_6 (.cons b7_6 (.cons b7_6 (.cons b7_7 (.cons b7_7 (.cons b7_7 (.cons b7_8 (.cons b7_8 (.cons (c_len (e := TRead.en) (l := r4_1)) (.cons b7_8 (.cons b7_8 (.cons b7_9 (.cons b7_9 (.cons b7_9 (.cons b7_9 (.cons b7_10 (.cons b7_10 (.cons b7_10 (.cons b7_11 (.cons b7_11 (.cons (Asks.of (C := Meets Try.prog) (store_Last.meets fu r2_1 (⟨#[97]⟩ : ByteArray) _ h7_13)) (.cons b7_11 (.cons b7_11 (.cons b7_14 (.cons b7_14 (.cons (Asks.of (C := Meets Try.prog) (store_May.meets fu r2_1 _ h7_16)) (.cons b7_14 (.cons b7_17 (.cons b7_17 (.cons b7_17 (.cons b7_17 (.cons (Eq.refl false) (.cons (Eq.refl false) (.cons (Eq.refl false) (.cons (Eq.refl false) (.cons (Eq.refl false) .nil)))))))))))))))))))))))))))))))))))))))))))))))))) (by kernel_rfl) ?_
                      refine WK.weak (l := [(.t 0, [bv false])]) (wk_of (by kernel_rfl)) ?_
                      refine WK.ret (by kernel_rfl) ?_
                      have h_ := some_inj h
                      subst h_
                      exact WKe.fin (e' := .ret) (by kernel_rfl) (fin_of (g := []) (by first | exact .inl rfl | exact .inr rfl) .nil (by kernel_rfl))
                  · refine WK.rs (g := [.s (.t 33) [iv (r2_1.Chains.length : Int)], .b true, .b true, .b true, .c (TChain.en x7_2), .b true, .b true, .b true, .b true, .b true, .b true, .b true, .b true, .b true, .b true, .b true, .b true, .b true, .b true, .b true, .b true, .s (.t 58) [iv (r4_1.length : Int)], .b true, .b true, .b true, .b true, .b true, .b true, .b true, .b true, .b true, .b true, .b true, .a ⟨iv r7_12, []⟩, .b true, .b true, .b false, .b false, .b false, .b false, .b false, .b false, .b false, .b false, .b false, .b false, .b false, .b false]) (l' := [(.t 0, [bv false])]) (by kernel_rfl) (.cons (c_len (e := TChain.en) (l := r2_1.Chains)) (.cons b7_1 (.cons b7_1 (.cons b7_1 (.cons (c_ix (e := TChain.en) a7_3 e7_4) (.cons (c_el (e := TChain.en) e7_4) (.cons b7_1 (.cons b7_1 (.cons b7_1 (.cons b7_1 (.cons b7_5 (.cons b7_5 (.cons b7_5 (.cons b7_6 (.cons b7_6 (.cons b7_6 (.cons b7_6 (.cons b7_7 (.cons b7_7 (.cons b7_7 (.cons b7_8 (.cons b7_8 (.cons (c_len (e := TRead.en) (l := r4_1)) (.cons b7_8 (.cons b7_8 (.cons b7_9 (.cons b7_9 (.cons b7_9 (.cons b7_9 (.cons b7_10 (.cons b7_10 (.cons b7_10 (.cons b7_11 (.cons b7_11 (.cons (Asks.of (C := Meets Try.prog) (store_Last.meets fu r2_1 (⟨#[97]⟩ : ByteArray) _ h7_13)) (.cons b7_11 (.cons b7_11 (.cons b7_14 (.cons b7_14 (.cons b7_14 (.cons (Eq.refl false) (.cons (Eq.refl false) (.cons (Eq.refl false) (.cons (Eq.refl false) (.cons (Eq.refl false) (.cons (Eq.refl false) (.cons (Eq.refl false) (.cons (Eq.refl false) (.cons (Eq.refl false) .nil))))))))))))))))))))))))))))))))))))))))))))))))) (by kernel_rfl) ?_
                    refine WK.weak (l := [(.t 0, [bv false])]) (wk_of (by kernel_rfl)) ?_
                    refine WK.ret (by kernel_rfl) ?_
                    have h_ := some_inj h
                    subst h_
                    exact WKe.fin (e' := .ret) (by kernel_rfl) (fin_of (g := []) (by first | exact .inl rfl | exact .inr rfl) .nil (by kernel_rfl))
                · refine WK.rs (g := [.s (.t 33) [iv (r2_1.Chains.length : Int)], .b true, .b true, .b true, .c (TChain.en x7_2), .b true, .b true, .b true, .b true, .b true, .b true, .b true, .b true, .b true, .b true, .b true, .b true, .b true, .b true, .b true, .b true, .s (.t 58) [iv (r4_1.length : Int)], .b true, .b true, .b true, .b true, .b true, .b true, .b true, .b true, .b true, .b false, .b false, .b false, .b false, .b false, .b false, .b false, .b false, .b false, .b false, .b false, .b false, .b false, .b false, .b false, .b false]) (l' := [(.t 0, [bv false])]) (by kernel_rfl) (.cons (c_len (e := TChain.en) (l := r2_1.Chains)) (.cons b7_1 (.cons b7_1 (.cons b7_1 (.cons (c_ix (e := TChain.en) a7_3 e7_4) (.cons (c_el (e := TChain.en) e7_4) (.cons b7_1 (.cons b7_1 (.cons b7_1 (.cons b7_1 (.cons b7_5 (.cons b7_5 (.cons b7_5 (.cons b7_6 (.cons b7_6 (.cons b7_6 (.cons b7_6 (.cons b7_7 (.cons b7_7 (.cons b7_7 (.cons b7_8 (.cons b7_8 (.cons (c_len (e := TRead.en) (l := r4_1)) (.cons b7_8 (.cons b7_8 (.cons b7_9 (.cons b7_9 (.cons b7_9 (.cons b7_9 (.cons b7_10 (.cons b7_10 (.cons b7_10 (.cons b7_11 (.cons b7_11 (.cons b7_11 (.cons b7_11 (.cons (Eq.refl false) (.cons (Eq.refl false) (.cons (Eq.refl false) (.cons (Eq.refl false) (.cons (Eq.refl false) (.cons (Eq.refl false) (.cons (Eq.refl false) (.cons (Eq.refl false) (.cons (Eq.refl false) (.cons (Eq.refl false) (.cons (Eq.refl false) (.cons (Eq.refl false) .nil)))))))))))))))))))))))))))))))))))))))))))))))) (by kernel_rfl) ?_
                  refine WK.weak (l := [(.t 0, [bv false])]) (wk_of (by kernel_rfl)) ?_
                  refine WK.ret (by kernel_rfl) ?_
                  have h_ := some_inj h
                  subst h_
                  exact WKe.fin (e' := .ret) (by kernel_rfl) (fin_of (g := []) (by first | exact .inl rfl | exact .inr rfl) .nil (by kernel_rfl))
              · refine WK.rs (g := [.s (.t 33) [iv (r2_1.Chains.length : Int)], .b true, .b true, .b true, .c (TChain.en x7_2), .b true, .b true, .b true, .b true, .b true, .b true, .b true, .b true, .b true, .b true, .b true, .b true, .b true, .b true, .b true, .b true, .s (.t 58) [iv (r4_1.length : Int)], .b true, .b true, .b true, .b true, .b true, .b true, .b false, .b false, .b false, .b false, .b false, .b false, .b false, .b false, .b false, .b false, .b false, .b false, .b false, .b false, .b false, .b false, .b false, .b false, .b false]) (l' := [(.t 0, [bv false])]) (by kernel_rfl) (.cons (c_len (e := TChain.en) (l := r2_1.Chains)) (.cons b7_1 (.cons b7_1 (.cons b7_1 (.cons (c_ix (e := TChain.en) a7_3 e7_4) (.cons (c_el (e := TChain.en) e7_4) (.cons b7_1 (.cons b7_1 (.cons b7_1 (.cons b7_1 (.cons b7_5 (.cons b7_5 (.cons b7_5 (.cons b7_6 (.cons b7_6 (.cons b7_6 (.cons b7_6 (.cons b7_7 (.cons b7_7 (.cons b7_7 (.cons b7_8 (.cons b7_8 (.cons (c_len (e := TRead.en) (l := r4_1)) (.cons b7_8 (.cons b7_8 (.cons b7_9 (.cons b7_9 (.cons b7_9 (.cons b7_9 (.cons b7_10 (.cons b7_10 (.cons b7_10 (.cons (Eq.refl false) (.cons (Eq.refl false) (.cons (Eq.refl false) (.cons (Eq.refl false) (.cons (Eq.refl false) (.cons (Eq.refl false) (.cons (Eq.refl false) (.cons (Eq.refl false) (.cons (Eq.refl false) (.cons (Eq.refl false) (.cons (Eq.refl false) (.cons (Eq.refl false) (.cons (Eq.refl false) (.cons (Eq.refl false) (.cons (Eq.refl false) (.cons (Eq.refl false) .nil)))))))))))))))))))))))))))))))))))))))))))))))) (by kernel_rfl) ?_
                refine WK.weak (l := [(.t 0, [bv false])]) (wk_of (by kernel_rfl)) ?_
                refine WK.ret (by kernel_rfl) ?_
                have h_ := some_inj h
                subst h_
                exact WKe.fin (e' := .ret) (by kernel_rfl) (fin_of (g := []) (by first | exact .inl rfl | exact .inr rfl) .nil (by kernel_rfl))
            · refine WK.rs (g := [.s (.t 33) [iv (r2_1.Chains.length : Int)], .b true, .b true, .b true, .c (TChain.en x7_2), .b true, .b true, .b true, .b true, .b true, .b true, .b true, .b true, .b true, .b true, .b true, .b true, .b true, .b true, .b true, .b true, .s (.t 58) [iv (r4_1.length : Int)], .b true, .b true, .b false, .b false, .b false, .b false, .b false, .b false, .b false, .b false, .b false, .b false, .b false, .b false, .b false, .b false, .b false, .b false, .b false, .b false, .b false, .b false, .b false, .b false, .b false]) (l' := [(.t 0, [bv false])]) (by kernel_rfl) (.cons (c_len (e := TChain.en) (l := r2_1.Chains)) (.cons b7_1 (.cons b7_1 (.cons b7_1 (.cons (c_ix (e := TChain.en) a7_3 e7_4) (.cons (c_el (e := TChain.en) e7_4) (.cons b7_1 (.cons b7_1 (.cons b7_1 (.cons b7_1 (.cons b7_5 (.cons b7_5 (.cons b7_5 (.cons b7_6 (.cons b7_6 (.cons b7_6 (.cons b7_6 (.cons b7_7 (.cons b7_7 (.cons b7_7 (.cons b7_8 (.cons b7_8 (.cons (c_len (e := TRead.en) (l := r4_1)) (.cons b7_8 (.cons b7_8 (.cons b7_9 (.cons b7_9 (.cons b7_9 (.cons b7_9 (.cons (Eq.refl false) (.cons (Eq.refl false) (.cons (Eq.refl false) (.cons (Eq.refl false) (.cons (Eq.refl false) (.cons (Eq.refl false) (.cons (Eq.refl false) (.cons (Eq.refl false) (.cons (Eq.refl false) (.cons (Eq.refl false) (.cons (Eq.refl false) (.cons (Eq.refl false) (.cons (Eq.refl false) (.cons (Eq.refl false) (.cons (Eq.refl false) (.cons (Eq.refl false) (.cons (Eq.refl false) (.cons (Eq.refl false) (.cons (Eq.refl false) .nil)))))))))))))))))))))))))))))))))))))))))))))))) (by kernel_rfl) ?_
              refine WK.weak (l := [(.t 0, [bv false])]) (wk_of (by kernel_rfl)) ?_
              refine WK.ret (by kernel_rfl) ?_
              have h_ := some_inj h
              subst h_
              exact WKe.fin (e' := .ret) (by kernel_rfl) (fin_of (g := []) (by first | exact .inl rfl | exact .inr rfl) .nil (by kernel_rfl))
          · refine WK.rs (g := [.s (.t 33) [iv (r2_1.Chains.length : Int)], .b true, .b true, .b true, .c (TChain.en x7_2), .b true, .b true, .b true, .b true, .b true, .b true, .b true, .b true, .b true, .b true, .b true, .b true, .b true, .b true, .b false, .b false, .b false, .b false, .b false, .b false, .b false, .b false, .b false, .b false, .b false, .b false, .b false, .b false, .b false, .b false, .b false, .b false, .b false, .b false, .b false, .b false, .b false, .b false, .b false, .b false, .b false]) (l' := [(.t 0, [bv false])]) (by kernel_rfl) (.cons (c_len (e := TChain.en) (l := r2_1.Chains)) (.cons b7_1 (.cons b7_1 (.cons b7_1 (.cons (c_ix (e := TChain.en) a7_3 e7_4) (.cons (c_el (e := TChain.en) e7_4) (.cons b7_1 (.cons b7_1 (.cons b7_1 (.cons b7_1 (.cons b7_5 (.cons b7_5 (.cons b7_5 (.cons b7_6 (.cons b7_6 (.cons b7_6 (.cons b7_6 (.cons b7_7 (.cons b7_7 (.cons b7_7 (.cons b7_8 (.cons b7_8 (.cons b7_8 (.cons b7_8 (.cons (Eq.refl false) (.cons (Eq.refl false) (.cons (Eq.refl false) (.cons (Eq.refl false) (.cons (Eq.refl false) (.cons (Eq.refl false) (.cons (Eq.refl false) (.cons (Eq.refl false) (.cons (Eq.refl false) (.cons (Eq.refl false) (.cons (Eq.refl false) (.cons (Eq.refl false) (.cons (Eq.refl false) (.cons (Eq.refl false) (.cons (Eq.refl false) (.cons (Eq.refl false) (.cons (Eq.refl false) (.cons (Eq.refl false) (.cons (Eq.refl false) (.cons (Eq.refl false) (.cons (Eq.refl false) (.cons (Eq.refl false) (.cons (Eq.refl false) .nil))))))))))))))))))))))))))))))))))))))))))))))) (by kernel_rfl) ?_
            refine WK.weak (l := [(.t 0, [bv false])]) (wk_of (by kernel_rfl)) ?_
            refine WK.ret (by kernel_rfl) ?_
            have h_ := some_inj h
            subst h_
            exact WKe.fin (e' := .ret) (by kernel_rfl) (fin_of (g := []) (by first | exact .inl rfl | exact .inr rfl) .nil (by kernel_rfl))
        · refine WK.rs (g := [.s (.t 33) [iv (r2_1.Chains.length : Int)], .b true, .b true, .b true, .c (TChain.en x7_2), .b true, .b true, .b true, .b true, .b true, .b true, .b true, .b true, .b true, .b true, .b true, .b false, .b false, .b false, .b false, .b false, .b false, .b false, .b false, .b false, .b false, .b false, .b false, .b false, .b false, .b false, .b false, .b false, .b false, .b false, .b false, .b false, .b false, .b false, .b false, .b false, .b false, .b false, .b false, .b false, .b false]) (l' := [(.t 0, [bv false])]) (by kernel_rfl) (.cons (c_len (e := TChain.en) (l := r2_1.Chains)) (.cons b7_1 (.cons b7_1 (.cons b7_1 (.cons (c_ix (e := TChain.en) a7_3 e7_4) (.cons (c_el (e := TChain.en) e7_4) (.cons b7_1 (.cons b7_1 (.cons b7_1 (.cons b7_1 (.cons b7_5 (.cons b7_5 (.cons b7_5 (.cons b7_6 (.cons b7_6 (.cons b7_6 (.cons b7_6 (.cons b7_7 (.cons b7_7 (.cons b7_7 (.cons (Eq.refl false) (.cons (Eq.refl false) (.cons (Eq.refl false) (.cons (Eq.refl false) (.cons (Eq.refl false) (.cons (Eq.refl false) (.cons (Eq.refl false) (.cons (Eq.refl false) (.cons (Eq.refl false) (.cons (Eq.refl false) (.cons (Eq.refl false) (.cons (Eq.refl false) (.cons (Eq.refl false) (.cons (Eq.refl false) (.cons (Eq.refl false) (.cons (Eq.refl false) (.cons (Eq.refl false) (.cons (Eq.refl false) (.cons (Eq.refl false) (.cons (Eq.refl false) (.cons (Eq.refl false) (.cons (Eq.refl false) (.cons (Eq.refl false) (.cons (Eq.refl false) (.cons (Eq.refl false) (.cons (Eq.refl false) (.cons (Eq.refl false) .nil))))))))))))))))))))))))))))))))))))))))))))))) (by kernel_rfl) ?_
          refine WK.weak (l := [(.t 0, [bv false])]) (wk_of (by kernel_rfl)) ?_
          refine WK.ret (by kernel_rfl) ?_
          have h_ := some_inj h
          subst h_
          exact WKe.fin (e' := .ret) (by kernel_rfl) (fin_of (g := []) (by first | exact .inl rfl | exact .inr rfl) .nil (by kernel_rfl))
      · refine WK.rs (g := [.s (.t 33) [iv (r2_1.Chains.length : Int)], .b true, .b true, .b true, .c (TChain.en x7_2), .b true, .b true, .b true, .b true, .b true, .b true, .b true, .b false, .b false, .b false, .b false, .b false, .b false, .b false, .b false, .b false, .b false, .b false, .b false, .b false, .b false, .b false, .b false, .b false, .b false, .b false, .b false, .b false, .b false, .b false, .b false, .b false, .b false, .b false, .b false, .b false, .b false, .b false, .b false, .b false, .b false]) (l' := [(.t 0, [bv false])]) (by kernel_rfl) (.cons (c_len (e := TChain.en) (l := r2_1.Chains)) (.cons b7_1 (.cons b7_1 (.cons b7_1 (.cons (c_ix (e := TChain.en) a7_3 e7_4) (.cons (c_el (e := TChain.en) e7_4) (.cons b7_1 (.cons b7_1 (.cons b7_1 (.cons b7_1 (.cons b7_5 (.cons b7_5 (.cons b7_5 (.cons b7_6 (.cons b7_6 (.cons b7_6 (.cons b7_6 (.cons (Eq.refl false) (.cons (Eq.refl false) (.cons (Eq.refl false) (.cons (Eq.refl false) (.cons (Eq.refl false) (.cons (Eq.refl false) (.cons (Eq.refl false) (.cons (Eq.refl false) (.cons (Eq.refl false) (.cons (Eq.refl false) (.cons (Eq.refl false) (.cons (Eq.refl false) (.cons (Eq.refl false) (.cons (Eq.refl false) (.cons (Eq.refl false) (.cons (Eq.refl false) (.cons (Eq.refl false) (.cons (Eq.refl false) (.cons (Eq.refl false) (.cons (Eq.refl false) (.cons (Eq.refl false) (.cons (Eq.refl false) (.cons (Eq.refl false) (.cons (Eq.refl false) (.cons (Eq.refl false) (.cons (Eq.refl false) (.cons (Eq.refl false) (.cons (Eq.refl false) (.cons (Eq.refl false) (.cons (Eq.refl false) .nil))))))))))))))))))))))))))))))))))))))))))))))) (by kernel_rfl) ?_
        refine WK.weak (l := [(.t 0, [bv false])]) (wk_of (by kernel_rfl)) ?_
        refine WK.ret (by kernel_rfl) ?_
        have h_ := some_inj h
        subst h_
        exact WKe.fin (e' := .ret) (by kernel_rfl) (fin_of (g := []) (by first | exact .inl rfl | exact .inr rfl) .nil (by kernel_rfl))
    · refine WK.rs (g := [.s (.t 33) [iv (r2_1.Chains.length : Int)], .b true, .b true, .b true, .c (TChain.en x7_2), .b true, .b true, .b true, .b true, .b false, .b false, .b false, .b false, .b false, .b false, .b false, .b false, .b false, .b false, .b false, .b false, .b false, .b false, .b false, .b false, .b false, .b false, .b false, .b false, .b false, .b false, .b false, .b false, .b false, .b false, .b false, .b false, .b false, .b false, .b false, .b false, .b false, .b false, .b false, .b false, .b false]) (l' := [(.t 0, [bv false])]) (by kernel_rfl) (.cons (c_len (e := TChain.en) (l := r2_1.Chains)) (.cons b7_1 (.cons b7_1 (.cons b7_1 (.cons (c_ix (e := TChain.en) a7_3 e7_4) (.cons (c_el (e := TChain.en) e7_4) (.cons b7_1 (.cons b7_1 (.cons b7_1 (.cons b7_1 (.cons b7_5 (.cons b7_5 (.cons b7_5 (.cons (Eq.refl false) (.cons (Eq.refl false) (.cons (Eq.refl false) (.cons (Eq.refl false) (.cons (Eq.refl false) (.cons (Eq.refl false) (.cons (Eq.refl false) (.cons (Eq.refl false) (.cons (Eq.refl false) (.cons (Eq.refl false) (.cons (Eq.refl false) (.cons (Eq.refl false) (.cons (Eq.refl false) (.cons (Eq.refl false) (.cons (Eq.refl false) (.cons (Eq.refl false) (.cons (Eq.refl false) (.cons (Eq.refl false) (.cons (Eq.refl false) (.cons (Eq.refl false) (.cons (Eq.refl false) (.cons (Eq.refl false) (.cons (Eq.refl false) (.cons (Eq.refl false) (.cons (Eq.refl false) (.cons (Eq.refl false) (.cons (Eq.refl false) (.cons (Eq.refl false) (.cons (Eq.refl false) (.cons (Eq.refl false) (.cons (Eq.refl false) (.cons (Eq.refl false) (.cons (Eq.refl false) (.cons (Eq.refl false) .nil))))))))))))))))))))))))))))))))))))))))))))))) (by kernel_rfl) ?_
      refine WK.weak (l := [(.t 0, [bv false])]) (wk_of (by kernel_rfl)) ?_
      refine WK.ret (by kernel_rfl) ?_
      have h_ := some_inj h
      subst h_
      exact WKe.fin (e' := .ret) (by kernel_rfl) (fin_of (g := []) (by first | exact .inl rfl | exact .inr rfl) .nil (by kernel_rfl))
  · refine WK.rs (g := [.s (.t 33) [iv (r2_1.Chains.length : Int)], .b false, .b false, .b false, .b false, .b false, .b false, .b false, .b false, .b false, .b false, .b false, .b false, .b false, .b false, .b false, .b false, .b false, .b false, .b false, .b false, .b false, .b false, .b false, .b false, .b false, .b false, .b false, .b false, .b false, .b false, .b false, .b false, .b false, .b false, .b false, .b false, .b false, .b false, .b false, .b false, .b false, .b false, .b false, .b false]) (l' := [(.t 0, [bv false])]) (by kernel_rfl) (.cons (c_len (e := TChain.en) (l := r2_1.Chains)) (.cons b7_1 (.cons b7_1 (.cons b7_1 (.cons b7_1 (.cons b7_1 (.cons b7_1 (.cons b7_1 (.cons (Eq.refl false) (.cons (Eq.refl false) (.cons (Eq.refl false) (.cons (Eq.refl false) (.cons (Eq.refl false) (.cons (Eq.refl false) (.cons (Eq.refl false) (.cons (Eq.refl false) (.cons (Eq.refl false) (.cons (Eq.refl false) (.cons (Eq.refl false) (.cons (Eq.refl false) (.cons (Eq.refl false) (.cons (Eq.refl false) (.cons (Eq.refl false) (.cons (Eq.refl false) (.cons (Eq.refl false) (.cons (Eq.refl false) (.cons (Eq.refl false) (.cons (Eq.refl false) (.cons (Eq.refl false) (.cons (Eq.refl false) (.cons (Eq.refl false) (.cons (Eq.refl false) (.cons (Eq.refl false) (.cons (Eq.refl false) (.cons (Eq.refl false) (.cons (Eq.refl false) (.cons (Eq.refl false) (.cons (Eq.refl false) (.cons (Eq.refl false) (.cons (Eq.refl false) (.cons (Eq.refl false) (.cons (Eq.refl false) (.cons (Eq.refl false) (.cons (Eq.refl false) (.cons (Eq.refl false) .nil))))))))))))))))))))))))))))))))))))))))))))) (by kernel_rfl) ?_
    refine WK.weak (l := [(.t 0, [bv false])]) (wk_of (by kernel_rfl)) ?_
    refine WK.ret (by kernel_rfl) ?_
    have h_ := some_inj h
    subst h_
    exact WKe.fin (e' := .ret) (by kernel_rfl) (fin_of (g := []) (by first | exact .inl rfl | exact .inr rfl) .nil (by kernel_rfl))
/-- diwan/diwanplay.Made -/
noncomputable def bd10 : Code := (Try.f10.body).getD .skip
def diwanplay_Made.O : Nat → Nat := fun t => bif ([2, 4, 5] : List Nat).any (Nat.beq t) then 1 else 0
noncomputable def diwanplay_Made (l : List Int) : Option TPicks :=
  some (TPicks.mk l 0)
theorem diwanplay_Made.meets (l : List Int) (z0 : TPicks) (h : diwanplay_Made l = some z0) : Meets Try.prog ⟨10, [.data (.slc false none 1 (List.map e_u8 l))], []⟩ ⟨.ptr 1000 0, [[.data (.slc false none 1 (List.map e_u8 z0.l)), iv z0.n]]⟩ := by
  refine meets_of (O := diwanplay_Made.O) hmix (fn := Try.f10) (code := bd10) (by kernel_rfl) ?_
  refine WK.weak (l := [(.t 0, [.data (.slc false none 1 (List.map e_u8 l))])]) (wk_of (by kernel_rfl)) ?_
  unfold diwanplay_Made at h
  refine WK.rs (g := []) (l' := [(.t 0, [.data (.slc false none 1 (List.map e_u8 l))])]) (by kernel_rfl) .nil (by kernel_rfl) ?_
  refine WK.rs (g := []) (l' := [(.t 2, [.ptr 5 0]), (.o 5, [.data (.slc false none 1 (List.map e_u8 l)), iv 0])]) (by kernel_rfl) .nil (by kernel_rfl) ?_
  refine WK.weak (l := [(.t 2, [.ptr 5 0]), (.o 5, [.data (.slc false none 1 (List.map e_u8 l)), iv 0])]) (wk_of (by kernel_rfl)) ?_
  refine WK.ret (by kernel_rfl) ?_
  have h_ := some_inj h
  subst h_
  exact WKe.fin (e' := .ret) (by kernel_rfl) (fin_of (g := []) (by first | exact .inl rfl | exact .inr rfl) .nil (by kernel_rfl))
/-- (*diwan/diwanplay.Picks).Over -/
noncomputable def bd26 : Code := (Try.f26.body).getD .skip
def diwanplay_Picks_Over.O : Nat → Nat := fun t => bif ([2] : List Nat).any (Nat.beq t) then 1 else 0
noncomputable def diwanplay_Picks_Over (o0_v : TPicks) : Option Bool :=
  some (decide (o0_v.n ≥ (o0_v.l.length : Int)))
theorem diwanplay_Picks_Over.meets (o0_v : TPicks) (z0 : Bool) (h : diwanplay_Picks_Over o0_v = some z0) : Meets Try.prog ⟨26, [.ptr 1000 0], [[.data (.slc false none 1 (List.map e_u8 o0_v.l)), iv o0_v.n]]⟩ ⟨bv z0, [[.data (.slc false none 1 (List.map e_u8 o0_v.l)), iv o0_v.n]]⟩ := by
  refine meets_of (O := diwanplay_Picks_Over.O) hmix (fn := Try.f26) (code := bd26) (by kernel_rfl) ?_
  refine WK.weak (l := [(.t 0, [.ptr 1000 0]), (.o 1000, [.data (.slc false none 1 (List.map e_u8 o0_v.l)), iv o0_v.n])]) (wk_of (by kernel_rfl)) ?_
  unfold diwanplay_Picks_Over at h
  refine WK.rs (g := []) (l' := [(.t 0, [.ptr 1000 0]), (.o 1000, [.data (.slc false none 1 (List.map e_u8 o0_v.l)), iv o0_v.n])]) (by kernel_rfl) .nil (by kernel_rfl) ?_
  refine WK.rs (g := [.s (.t 11) [iv (o0_v.l.length : Int)]]) (l' := [(.t 2, [bv (decide (o0_v.n ≥ (o0_v.l.length : Int)))]), (.o 1000, [.data (.slc false none 1 (List.map e_u8 o0_v.l)), iv o0_v.n])]) (by kernel_rfl) (.cons (c_len (e := e_u8) (l := o0_v.l)) (.cons (Eq.refl true) .nil)) (by kernel_rfl) ?_
  refine WK.weak (l := [(.t 2, [bv (decide (o0_v.n ≥ (o0_v.l.length : Int)))]), (.o 1000, [.data (.slc false none 1 (List.map e_u8 o0_v.l)), iv o0_v.n])]) (wk_of (by kernel_rfl)) ?_
  refine WK.ret (by kernel_rfl) ?_
  have h_ := some_inj h
  subst h_
  exact WKe.fin (e' := .ret) (by kernel_rfl) (fin_of (g := []) (by first | exact .inl rfl | exact .inr rfl) .nil (by kernel_rfl))
/-- (*diwan/diwanplay.Picks).Num -/
noncomputable def bd27 : Code := (Try.f27.body).getD .skip
def diwanplay_Picks_Num.O : Nat → Nat := fun t => bif ([4, 19] : List Nat).any (Nat.beq t) then 1 else 0
noncomputable def diwanplay_Picks_Num (m : Int) (o0_v : TPicks) : Option (Int × TPicks) :=
  br (decide (o0_v.n ≥ (o0_v.l.length : Int)))
    (some (0, o0_v))
    (ix o0_v.l (w64 ((w64 (o0_v.n + 1)) - 1)) fun x6_1 =>
    gd (!decide (m = 0)) <|
    some ((Int.tmod (w64 x6_1) m), (TPicks.mk o0_v.l (w64 (o0_v.n + 1)))))
theorem diwanplay_Picks_Num.meets (m : Int) (o0_v : TPicks) (z0 : Int) (z1 : TPicks) (h : diwanplay_Picks_Num m o0_v = some (z0, z1)) : Meets Try.prog ⟨27, [.ptr 1000 0, iv m], [[.data (.slc false none 1 (List.map e_u8 o0_v.l)), iv o0_v.n]]⟩ ⟨iv z0, [[.data (.slc false none 1 (List.map e_u8 z1.l)), iv z1.n]]⟩ := by
  refine meets_of (O := diwanplay_Picks_Num.O) hmix (fn := Try.f27) (code := bd27) (by kernel_rfl) ?_
  refine WK.weak (l := [(.t 0, [.ptr 1000 0]), (.t 1, [iv m]), (.o 1000, [.data (.slc false none 1 (List.map e_u8 o0_v.l)), iv o0_v.n])]) (wk_of (by kernel_rfl)) ?_
  unfold diwanplay_Picks_Num at h
  refine WK.rs (g := []) (l' := [(.t 0, [.ptr 1000 0]), (.t 1, [iv m]), (.o 1000, [.data (.slc false none 1 (List.map e_u8 o0_v.l)), iv o0_v.n])]) (by kernel_rfl) .nil (by kernel_rfl) ?_
  refine WK.seq (by kernel_rfl) ?_
  refine WK.rs (g := [.s (.t 13) [iv (o0_v.l.length : Int)]]) (l' := [(.t 0, [.ptr 1000 0]), (.t 1, [iv m]), (.t 14, [bv (decide (o0_v.n ≥ (o0_v.l.length : Int)))]), (.o 1000, [.data (.slc false none 1 (List.map e_u8 o0_v.l)), iv o0_v.n])]) (by kernel_rfl) (.cons (c_len (e := e_u8) (l := o0_v.l)) (.cons (Eq.refl true) .nil)) (by kernel_rfl) ?_
  rcases br_inv h with ⟨b3_0, h⟩ | ⟨b3_0, h⟩
  · refine WK.ct (b := (decide (o0_v.n ≥ (o0_v.l.length : Int)))) (by kernel_rfl) b3_0 ?_
    refine WK.rs (g := []) (l' := [(.t 4, [iv 0]), (.o 1000, [.data (.slc false none 1 (List.map e_u8 o0_v.l)), iv o0_v.n])]) (by kernel_rfl) .nil (by kernel_rfl) ?_
    refine WK.weak (l := [(.t 4, [iv 0]), (.o 1000, [.data (.slc false none 1 (List.map e_u8 o0_v.l)), iv o0_v.n])]) (wk_of (by kernel_rfl)) ?_
    refine WK.ret (by kernel_rfl) ?_
    have h_0 := some_inj h
    obtain ⟨g_1, h_1⟩ := Prod.mk.inj h_0
    subst g_1
    subst h_1
    exact WKe.fin (e' := .ret) (by kernel_rfl) (fin_of (g := []) (by first | exact .inl rfl | exact .inr rfl) .nil (by kernel_rfl))
  · refine WK.ce (b := (decide (o0_v.n ≥ (o0_v.l.length : Int)))) (by kernel_rfl) b3_0 ?_
    refine WK.skip (by kernel_rfl) ?_
    refine WKe.code (y := (cR (cR bd27))) (ks' := []) (by kernel_rfl) ?_
    refine WK.rs (g := []) (l' := [(.t 0, [.ptr 1000 0]), (.t 1, [iv m]), (.o 1000, [.data (.slc false none 1 (List.map e_u8 o0_v.l)), iv (w64 (o0_v.n + 1))])]) (by kernel_rfl) .nil (by kernel_rfl) ?_
    obtain ⟨x6_1, a6_2, e6_3, h⟩ := ix_inv h
    obtain ⟨c6_4, h⟩ := gd_inv h
    refine WK.rs (g := [.c (e_u8 x6_1)]) (l' := [(.t 4, [iv (Int.tmod (w64 x6_1) m)]), (.o 1000, [.data (.slc false none 1 (List.map e_u8 o0_v.l)), iv (w64 (o0_v.n + 1))])]) (by kernel_rfl) (.cons (c_ix (e := e_u8) a6_2 e6_3) (.cons (c_el (e := e_u8) e6_3) (.cons c6_4 (.cons (Eq.refl true) .nil)))) (by kernel_rfl) ?_
    refine WK.weak (l := [(.t 4, [iv (Int.tmod (w64 x6_1) m)]), (.o 1000, [.data (.slc false none 1 (List.map e_u8 o0_v.l)), iv (w64 (o0_v.n + 1))])]) (wk_of (by kernel_rfl)) ?_
    refine WK.ret (by kernel_rfl) ?_
    have h_0 := some_inj h
    obtain ⟨g_1, h_1⟩ := Prod.mk.inj h_0
    subst g_1
    subst h_1
    exact WKe.fin (e' := .ret) (by kernel_rfl) (fin_of (g := []) (by first | exact .inl rfl | exact .inr rfl) .nil (by kernel_rfl))
/-- diwan/diwanplay.keys -/
noncomputable def bd53 : Code := (Try.f53.body).getD .skip
def diwanplay_keys.O : Nat → Nat := fun t => bif ([0, 1] : List Nat).any (Nat.beq t) then 1 else 0
noncomputable def diwanplay_keys : Option Unit :=
  some ()
theorem diwanplay_keys.meets (h : diwanplay_keys = some ()) : Meets Try.prog ⟨53, [], []⟩ ⟨.data (.slc true (some false) 1 (List.map e_s ([(⟨#[97]⟩ : ByteArray), (⟨#[98]⟩ : ByteArray), (⟨#[99]⟩ : ByteArray), (⟨#[100]⟩ : ByteArray), (⟨#[101, 101]⟩ : ByteArray), (⟨#[102, 102]⟩ : ByteArray)] : List ByteArray))), []⟩ := by
  refine meets_of (O := diwanplay_keys.O) hmix (fn := Try.f53) (code := bd53) (by kernel_rfl) ?_
  refine WK.weak (l := []) (wk_of (by kernel_rfl)) ?_
  unfold diwanplay_keys at h
  refine WK.rs (g := []) (l' := []) (by kernel_rfl) .nil (by kernel_rfl) ?_
  refine WK.rs (g := []) (l' := [(.t 0, [.data (.slc true (some false) 1 (List.map e_s ([(⟨#[97]⟩ : ByteArray), (⟨#[98]⟩ : ByteArray), (⟨#[99]⟩ : ByteArray), (⟨#[100]⟩ : ByteArray), (⟨#[101, 101]⟩ : ByteArray), (⟨#[102, 102]⟩ : ByteArray)] : List ByteArray)))])]) (by kernel_rfl) .nil (by kernel_rfl) ?_
  refine WK.weak (l := [(.t 0, [.data (.slc true (some false) 1 (List.map e_s ([(⟨#[97]⟩ : ByteArray), (⟨#[98]⟩ : ByteArray), (⟨#[99]⟩ : ByteArray), (⟨#[100]⟩ : ByteArray), (⟨#[101, 101]⟩ : ByteArray), (⟨#[102, 102]⟩ : ByteArray)] : List ByteArray)))])]) (wk_of (by kernel_rfl)) ?_
  refine WK.ret (by kernel_rfl) ?_
  cases some_inj h
  exact WKe.fin (e' := .ret) (by kernel_rfl) (fin_of (g := []) (by first | exact .inl rfl | exact .inr rfl) .nil (by kernel_rfl))
/-- (*diwan/diwanplay.Picks).Keys -/
noncomputable def bd28 : Code := (Try.f28.body).getD .skip
def diwanplay_Picks_Keys.O : Nat → Nat := fun t => bif ([4, 5, 6, 7, 8, 32] : List Nat).any (Nat.beq t) then 1 else 0
noncomputable def diwanplay_Picks_Keys.lp6 (fu : Nat) (l6_0 : Int) (l6_3 : List ByteArray) (l6_5 : TPicks) : Nat → (List ByteArray) → Int → Int → Option (List ByteArray)
  | 0, _, _, _ => none
  | n_ + 1, l6_1, l6_2, l6_4 =>
    br (decide (l6_4 < (l6_3.length : Int)))
      (br (decide ((l6_1.length : Int) < l6_0))
        (br ((Int.tmod l6_2 2) == 1)
          (ix l6_3 l6_4 fun x11_1 =>
          gd (decide (l6_1.length + ([x11_1] : List ByteArray).length ≤ 4294967296)) <|
          diwanplay_Picks_Keys.lp6 fu l6_0 l6_3 l6_5 n_ (l6_1 ++ ([x11_1] : List ByteArray)) (w64 (Int.tdiv l6_2 2)) (w64 (l6_4 + 1)))
          (diwanplay_Picks_Keys.lp6 fu l6_0 l6_3 l6_5 n_ l6_1 (w64 (Int.tdiv l6_2 2)) (w64 (l6_4 + 1))))
        (some l6_1))
      (some l6_1)
noncomputable def diwanplay_Picks_Keys.lp6_post (l6_0 : Int) (l6_3 : List ByteArray) (l6_5 : TPicks) (r_ : (List ByteArray)) : Wy → St → Prop := fun e τ => match r_ with
  | y0 => e = .exit 0 ∧ τ = ofL [(.t 5, [.data (.slc true none 1 (List.map e_s y0))]), (.o 1000, [.data (.slc false none 1 (List.map e_u8 l6_5.l)), iv l6_5.n])]
theorem diwanplay_Picks_Keys.lp6_ok (fu : Nat) (l6_0 : Int) (l6_3 : List ByteArray) (l6_5 : TPicks) : ∀ (n_ : Nat) (l6_1 : List ByteArray) (l6_2 : Int) (l6_4 : Int) (r_ : (List ByteArray)), diwanplay_Picks_Keys.lp6 fu l6_0 l6_3 l6_5 n_ l6_1 l6_2 l6_4 = some r_ → WK Try.prog diwanplay_Picks_Keys.O (Ck Try.prog) (cB (cR (cL (cR (cR (cR (cR bd28))))))) [] (ofL [(.t 1, [iv l6_0]), (.t 5, [.data (.slc true none 1 (List.map e_s l6_1))]), (.t 6, [iv l6_2]), (.t 7, [.data (.slc true (some false) 1 (List.map e_s l6_3))]), (.t 8, [iv l6_4]), (.o 1000, [.data (.slc false none 1 (List.map e_u8 l6_5.l)), iv l6_5.n])]) (diwanplay_Picks_Keys.lp6_post l6_0 l6_3 l6_5 r_) := by
  intro n_
  induction n_ with
  | zero => intro l6_1 l6_2 l6_4 r_ h; exact no_none h
  | succ n_ ih =>
    intro l6_1 l6_2 l6_4 r_ h
    refine WK.loop (by kernel_rfl) ?_
    refine WK.seq (by kernel_rfl) ?_
    rcases br_inv h with ⟨b7_1, h⟩ | ⟨b7_1, h⟩
    · refine WK.rs (g := [.s (.t 14) [iv (l6_3.length : Int)], .b true, .b true, .s (.t 18) [iv (l6_1.length : Int)], .b true, .b true, .b true]) (l' := [(.t 1, [iv l6_0]), (.t 5, [.data (.slc true none 1 (List.map e_s l6_1))]), (.t 6, [iv l6_2]), (.t 7, [.data (.slc true (some false) 1 (List.map e_s l6_3))]), (.t 8, [iv l6_4]), (.t 21, [bv (decide ((l6_1.length : Int) < l6_0))]), (.o 1000, [.data (.slc false none 1 (List.map e_u8 l6_5.l)), iv l6_5.n])]) (by kernel_rfl) (.cons (c_len (e := e_s) (l := l6_3)) (.cons b7_1 (.cons b7_1 (.cons (c_len (e := e_s) (l := l6_1)) (.cons b7_1 (.cons b7_1 (.cons b7_1 .nil))))))) (by kernel_rfl) ?_
      rcases br_inv h with ⟨b8_0, h⟩ | ⟨b8_0, h⟩
      · refine WK.ct (b := (decide ((l6_1.length : Int) < l6_0))) (by kernel_rfl) b8_0 ?_
        refine WK.skip (by kernel_rfl) ?_
        refine WKe.code (y := (cR (cB (cB (cR (cL (cR (cR (cR (cR bd28)))))))))) (ks' := [.lp (cB (cR (cL (cR (cR (cR (cR bd28)))))))]) (by kernel_rfl) ?_
        refine WK.seq (by kernel_rfl) ?_
        refine WK.block (n := 1) (by kernel_rfl) ?_
        refine WK.seq (by kernel_rfl) ?_
        refine WK.rs (g := []) (l' := [(.t 1, [iv l6_0]), (.t 5, [.data (.slc true none 1 (List.map e_s l6_1))]), (.t 6, [iv l6_2]), (.t 7, [.data (.slc true (some false) 1 (List.map e_s l6_3))]), (.t 8, [iv l6_4]), (.t 26, [bv ((Int.tmod l6_2 2) == 1)]), (.o 1000, [.data (.slc false none 1 (List.map e_u8 l6_5.l)), iv l6_5.n])]) (by kernel_rfl) (.cons (Eq.refl true) .nil) (by kernel_rfl) ?_
        rcases br_inv h with ⟨b10_0, h⟩ | ⟨b10_0, h⟩
        · refine WK.ct (b := ((Int.tmod l6_2 2) == 1)) (by kernel_rfl) b10_0 ?_
          obtain ⟨x11_1, a11_2, e11_3, h⟩ := ix_inv h
          obtain ⟨c11_4, h⟩ := gd_inv h
          refine WK.rc (g := [.c (e_s x11_1), .s (.t 33) [.data (.slc true none 1 (List.map e_s (l6_1 ++ ([x11_1] : List ByteArray))))]]) (l' := [(.t 1, [iv l6_0]), (.t 5, [.data (.slc true none 1 (List.map e_s (l6_1 ++ ([x11_1] : List ByteArray))))]), (.t 6, [iv l6_2]), (.t 7, [.data (.slc true (some false) 1 (List.map e_s l6_3))]), (.t 8, [iv l6_4]), (.o 1000, [.data (.slc false none 1 (List.map e_u8 l6_5.l)), iv l6_5.n])]) (.cons (c_ix (e := e_s) a11_2 e11_3) (.cons (c_el (e := e_s) e11_3) (.cons (c_al (e := e_s) (f := e_s) c11_4) (.cons (congrArg (fun d : DV => [AV.data d]) (c_app (e := e_s) (s := 1) (l := l6_1) (m := ([x11_1] : List ByteArray)))) .nil)))) (by kernel_rfl) (y := (cR (cB (cL (cR (cB (cB (cR (cL (cR (cR (cR (cR bd28))))))))))))) (ks' := [.blk 1, .seq (cR (cR (cB (cB (cR (cL (cR (cR (cR (cR bd28)))))))))), .lp (cB (cR (cL (cR (cR (cR (cR bd28)))))))]) (by kernel_rfl) ?_
          refine WK.rc (g := []) (l' := [(.t 1, [iv l6_0]), (.t 5, [.data (.slc true none 1 (List.map e_s (l6_1 ++ ([x11_1] : List ByteArray))))]), (.t 6, [iv (w64 (Int.tdiv l6_2 2))]), (.t 7, [.data (.slc true (some false) 1 (List.map e_s l6_3))]), (.t 8, [iv l6_4]), (.o 1000, [.data (.slc false none 1 (List.map e_u8 l6_5.l)), iv l6_5.n])]) (.cons (Eq.refl true) .nil) (by kernel_rfl) (y := (cR (cR (cB (cB (cR (cL (cR (cR (cR (cR bd28))))))))))) (ks' := [.lp (cB (cR (cL (cR (cR (cR (cR bd28)))))))]) (by kernel_rfl) ?_
          refine WK.rc (g := []) (l' := [(.t 1, [iv l6_0]), (.t 5, [.data (.slc true none 1 (List.map e_s (l6_1 ++ ([x11_1] : List ByteArray))))]), (.t 6, [iv (w64 (Int.tdiv l6_2 2))]), (.t 7, [.data (.slc true (some false) 1 (List.map e_s l6_3))]), (.t 8, [iv (w64 (l6_4 + 1))]), (.o 1000, [.data (.slc false none 1 (List.map e_u8 l6_5.l)), iv l6_5.n])]) .nil (by kernel_rfl) (y := (cB (cR (cL (cR (cR (cR (cR bd28)))))))) (ks' := []) (by kernel_rfl) ?_
          exact WK.weak (l := [(.t 1, [iv l6_0]), (.t 5, [.data (.slc true none 1 (List.map e_s (l6_1 ++ ([x11_1] : List ByteArray))))]), (.t 6, [iv (w64 (Int.tdiv l6_2 2))]), (.t 7, [.data (.slc true (some false) 1 (List.map e_s l6_3))]), (.t 8, [iv (w64 (l6_4 + 1))]), (.o 1000, [.data (.slc false none 1 (List.map e_u8 l6_5.l)), iv l6_5.n])]) (wk_of (by kernel_rfl)) (ih (l6_1 ++ ([x11_1] : List ByteArray)) (w64 (Int.tdiv l6_2 2)) (w64 (l6_4 + 1)) _ h)
        · refine WK.ce (b := ((Int.tmod l6_2 2) == 1)) (by kernel_rfl) b10_0 ?_
          refine WK.skip (by kernel_rfl) ?_
          refine WKe.code (y := (cR (cB (cL (cR (cB (cB (cR (cL (cR (cR (cR (cR bd28))))))))))))) (ks' := [.blk 1, .seq (cR (cR (cB (cB (cR (cL (cR (cR (cR (cR bd28)))))))))), .lp (cB (cR (cL (cR (cR (cR (cR bd28)))))))]) (by kernel_rfl) ?_
          refine WK.rc (g := []) (l' := [(.t 1, [iv l6_0]), (.t 5, [.data (.slc true none 1 (List.map e_s l6_1))]), (.t 6, [iv (w64 (Int.tdiv l6_2 2))]), (.t 7, [.data (.slc true (some false) 1 (List.map e_s l6_3))]), (.t 8, [iv l6_4]), (.o 1000, [.data (.slc false none 1 (List.map e_u8 l6_5.l)), iv l6_5.n])]) (.cons (Eq.refl true) .nil) (by kernel_rfl) (y := (cR (cR (cB (cB (cR (cL (cR (cR (cR (cR bd28))))))))))) (ks' := [.lp (cB (cR (cL (cR (cR (cR (cR bd28)))))))]) (by kernel_rfl) ?_
          refine WK.rc (g := []) (l' := [(.t 1, [iv l6_0]), (.t 5, [.data (.slc true none 1 (List.map e_s l6_1))]), (.t 6, [iv (w64 (Int.tdiv l6_2 2))]), (.t 7, [.data (.slc true (some false) 1 (List.map e_s l6_3))]), (.t 8, [iv (w64 (l6_4 + 1))]), (.o 1000, [.data (.slc false none 1 (List.map e_u8 l6_5.l)), iv l6_5.n])]) .nil (by kernel_rfl) (y := (cB (cR (cL (cR (cR (cR (cR bd28)))))))) (ks' := []) (by kernel_rfl) ?_
          exact WK.weak (l := [(.t 1, [iv l6_0]), (.t 5, [.data (.slc true none 1 (List.map e_s l6_1))]), (.t 6, [iv (w64 (Int.tdiv l6_2 2))]), (.t 7, [.data (.slc true (some false) 1 (List.map e_s l6_3))]), (.t 8, [iv (w64 (l6_4 + 1))]), (.o 1000, [.data (.slc false none 1 (List.map e_u8 l6_5.l)), iv l6_5.n])]) (wk_of (by kernel_rfl)) (ih l6_1 (w64 (Int.tdiv l6_2 2)) (w64 (l6_4 + 1)) _ h)
      · refine WK.ce (b := (decide ((l6_1.length : Int) < l6_0))) (by kernel_rfl) b8_0 ?_
        refine WK.weak (l := [(.t 5, [.data (.slc true none 1 (List.map e_s l6_1))]), (.o 1000, [.data (.slc false none 1 (List.map e_u8 l6_5.l)), iv l6_5.n])]) (wk_of (by kernel_rfl)) ?_
        refine WK.exit (n := 0) (by kernel_rfl) ?_
        cases some_inj h
        exact WKe.fin (e' := .exit 0) (by kernel_rfl) ⟨rfl, rfl⟩
    · refine WK.rs (g := [.s (.t 14) [iv (l6_3.length : Int)], .b false, .b false, .b false, .b false, .b false]) (l' := [(.t 1, [iv l6_0]), (.t 5, [.data (.slc true none 1 (List.map e_s l6_1))]), (.t 6, [iv l6_2]), (.t 7, [.data (.slc true (some false) 1 (List.map e_s l6_3))]), (.t 8, [iv l6_4]), (.t 21, [bv false]), (.o 1000, [.data (.slc false none 1 (List.map e_u8 l6_5.l)), iv l6_5.n])]) (by kernel_rfl) (.cons (c_len (e := e_s) (l := l6_3)) (.cons b7_1 (.cons b7_1 (.cons b7_1 (.cons b7_1 (.cons b7_1 .nil)))))) (by kernel_rfl) ?_
      refine WK.ce (b := false) (by kernel_rfl) rfl ?_
      refine WK.weak (l := [(.t 5, [.data (.slc true none 1 (List.map e_s l6_1))]), (.o 1000, [.data (.slc false none 1 (List.map e_u8 l6_5.l)), iv l6_5.n])]) (wk_of (by kernel_rfl)) ?_
      refine WK.exit (n := 0) (by kernel_rfl) ?_
      cases some_inj h
      exact WKe.fin (e' := .exit 0) (by kernel_rfl) ⟨rfl, rfl⟩
noncomputable def diwanplay_Picks_Keys (fu : Nat) (most : Int) (o0_v : TPicks) : Option (List ByteArray × TPicks) :=
  bd (diwanplay_Picks_Num 64 o0_v) fun (r3_1, r3_2) =>
  bd (diwanplay_keys) fun _ =>
  bd (diwanplay_Picks_Keys.lp6 fu most ([(⟨#[97]⟩ : ByteArray), (⟨#[98]⟩ : ByteArray), (⟨#[99]⟩ : ByteArray), (⟨#[100]⟩ : ByteArray), (⟨#[101, 101]⟩ : ByteArray), (⟨#[102, 102]⟩ : ByteArray)] : List ByteArray) r3_2 fu [] r3_1 0) fun y16_0 =>
  some (y16_0, r3_2)
theorem diwanplay_Picks_Keys.meets (fu : Nat) (most : Int) (o0_v : TPicks) (z0 : List ByteArray) (z1 : TPicks) (h : diwanplay_Picks_Keys fu most o0_v = some (z0, z1)) : Meets Try.prog ⟨28, [.ptr 1000 0, iv most], [[.data (.slc false none 1 (List.map e_u8 o0_v.l)), iv o0_v.n]]⟩ ⟨.data (.slc true none 1 (List.map e_s z0)), [[.data (.slc false none 1 (List.map e_u8 z1.l)), iv z1.n]]⟩ := by
  refine meets_of (O := diwanplay_Picks_Keys.O) hmix (fn := Try.f28) (code := bd28) (by kernel_rfl) ?_
  refine WK.weak (l := [(.t 0, [.ptr 1000 0]), (.t 1, [iv most]), (.o 1000, [.data (.slc false none 1 (List.map e_u8 o0_v.l)), iv o0_v.n])]) (wk_of (by kernel_rfl)) ?_
  unfold diwanplay_Picks_Keys at h
  refine WK.rs (g := []) (l' := [(.t 0, [.ptr 1000 0]), (.t 1, [iv most]), (.o 1000, [.data (.slc false none 1 (List.map e_u8 o0_v.l)), iv o0_v.n])]) (by kernel_rfl) .nil (by kernel_rfl) ?_
  refine WK.rs (g := []) (l' := [(.t 0, [.ptr 1000 0]), (.t 1, [iv most]), (.t 5, [.data (.slc true (some true) 1 (List.map e_s []))]), (.o 1000, [.data (.slc false none 1 (List.map e_u8 o0_v.l)), iv o0_v.n])]) (by kernel_rfl) .nil (by kernel_rfl) ?_
  obtain ⟨⟨r3_1, r3_2⟩, h3_3, h⟩ := bd_inv h
  refine WK.rs (g := [.a ⟨iv r3_1, [[.data (.slc false none 1 (List.map e_u8 r3_2.l)), iv r3_2.n]]⟩]) (l' := [(.t 1, [iv most]), (.t 5, [.data (.slc true (some true) 1 (List.map e_s []))]), (.t 6, [iv r3_1]), (.o 1000, [.data (.slc false none 1 (List.map e_u8 r3_2.l)), iv r3_2.n])]) (by kernel_rfl) (.cons (Asks.of (C := Meets Try.prog) (diwanplay_Picks_Num.meets 64 o0_v _ _ h3_3)) .nil) (by kernel_rfl) ?_
  obtain ⟨_, h4_1, h⟩ := bd_inv h
  refine WK.rs (g := [.a ⟨.data (.slc true (some false) 1 (List.map e_s ([(⟨#[97]⟩ : ByteArray), (⟨#[98]⟩ : ByteArray), (⟨#[99]⟩ : ByteArray), (⟨#[100]⟩ : ByteArray), (⟨#[101, 101]⟩ : ByteArray), (⟨#[102, 102]⟩ : ByteArray)] : List ByteArray))), []⟩]) (l' := [(.t 1, [iv most]), (.t 5, [.data (.slc true (some true) 1 (List.map e_s []))]), (.t 6, [iv r3_1]), (.t 7, [.data (.slc true (some false) 1 (List.map e_s ([(⟨#[97]⟩ : ByteArray), (⟨#[98]⟩ : ByteArray), (⟨#[99]⟩ : ByteArray), (⟨#[100]⟩ : ByteArray), (⟨#[101, 101]⟩ : ByteArray), (⟨#[102, 102]⟩ : ByteArray)] : List ByteArray)))]), (.o 1000, [.data (.slc false none 1 (List.map e_u8 r3_2.l)), iv r3_2.n])]) (by kernel_rfl) (.cons (Asks.of (C := Meets Try.prog) (diwanplay_keys.meets  h4_1)) .nil) (by kernel_rfl) ?_
  refine WK.seq (by kernel_rfl) ?_
  refine WK.rs (g := []) (l' := [(.t 1, [iv most]), (.t 5, [.data (.slc true (some true) 1 (List.map e_s []))]), (.t 6, [iv r3_1]), (.t 7, [.data (.slc true (some false) 1 (List.map e_s ([(⟨#[97]⟩ : ByteArray), (⟨#[98]⟩ : ByteArray), (⟨#[99]⟩ : ByteArray), (⟨#[100]⟩ : ByteArray), (⟨#[101, 101]⟩ : ByteArray), (⟨#[102, 102]⟩ : ByteArray)] : List ByteArray)))]), (.t 8, [iv 0]), (.o 1000, [.data (.slc false none 1 (List.map e_u8 r3_2.l)), iv r3_2.n])]) (by kernel_rfl) .nil (by kernel_rfl) ?_
  refine WK.block (n := 0) (by kernel_rfl) ?_
  obtain ⟨o16, ho16, h⟩ := bd_inv h
  refine WK.weak (l := [(.t 1, [iv most]), (.t 5, [.data (.slc true none 1 (List.map e_s []))]), (.t 6, [iv r3_1]), (.t 7, [.data (.slc true (some false) 1 (List.map e_s ([(⟨#[97]⟩ : ByteArray), (⟨#[98]⟩ : ByteArray), (⟨#[99]⟩ : ByteArray), (⟨#[100]⟩ : ByteArray), (⟨#[101, 101]⟩ : ByteArray), (⟨#[102, 102]⟩ : ByteArray)] : List ByteArray)))]), (.t 8, [iv 0]), (.o 1000, [.data (.slc false none 1 (List.map e_u8 r3_2.l)), iv r3_2.n])]) (wk_of (by kernel_rfl)) ?_
  refine WK.use (diwanplay_Picks_Keys.lp6_ok fu most ([(⟨#[97]⟩ : ByteArray), (⟨#[98]⟩ : ByteArray), (⟨#[99]⟩ : ByteArray), (⟨#[100]⟩ : ByteArray), (⟨#[101, 101]⟩ : ByteArray), (⟨#[102, 102]⟩ : ByteArray)] : List ByteArray) r3_2 _ [] r3_1 0 _ ho16) ?_
  intro e_ τ_ hp_
  obtain ⟨y16_0, rfl⟩ : ∃ y, y = o16 := ⟨_, rfl⟩
  obtain ⟨rfl, rfl⟩ := hp_
  refine WKe.code (y := (cR (cR (cR (cR (cR bd28)))))) (ks' := []) (by kernel_rfl) ?_
  refine WK.rs (g := []) (l' := [(.t 4, [.data (.slc true none 1 (List.map e_s y16_0))]), (.o 1000, [.data (.slc false none 1 (List.map e_u8 r3_2.l)), iv r3_2.n])]) (by kernel_rfl) .nil (by kernel_rfl) ?_
  refine WK.weak (l := [(.t 4, [.data (.slc true none 1 (List.map e_s y16_0))]), (.o 1000, [.data (.slc false none 1 (List.map e_u8 r3_2.l)), iv r3_2.n])]) (wk_of (by kernel_rfl)) ?_
  refine WK.ret (by kernel_rfl) ?_
  have h_0 := some_inj h
  obtain ⟨g_1, h_1⟩ := Prod.mk.inj h_0
  subst g_1
  subst h_1
  exact WKe.fin (e' := .ret) (by kernel_rfl) (fin_of (g := []) (by first | exact .inl rfl | exact .inr rfl) .nil (by kernel_rfl))
/-- (*diwan/diwanplay.Picks).Val -/
noncomputable def bd29 : Code := (Try.f29.body).getD .skip
def diwanplay_Picks_Val.O : Nat → Nat := fun t => bif ([2, 3] : List Nat).any (Nat.beq t) then 1 else 0
noncomputable def diwanplay_Picks_Val (o0_v : TPicks) : Option (ByteArray × TPicks) :=
  bd (diwanplay_Picks_Num 5 o0_v) fun (r2_1, r2_2) =>
  ix ([ByteArray.empty, (⟨#[118]⟩ : ByteArray), (⟨#[119]⟩ : ByteArray), (⟨#[120, 120]⟩ : ByteArray), (⟨#[115, 105, 120, 116, 101, 101, 110, 45, 98, 121, 116, 101, 115, 45, 111, 107]⟩ : ByteArray)] : List ByteArray) r2_1 fun x2_4 =>
  some (x2_4, r2_2)
theorem diwanplay_Picks_Val.meets (o0_v : TPicks) (z0 : ByteArray) (z1 : TPicks) (h : diwanplay_Picks_Val o0_v = some (z0, z1)) : Meets Try.prog ⟨29, [.ptr 1000 0], [[.data (.slc false none 1 (List.map e_u8 o0_v.l)), iv o0_v.n]]⟩ ⟨sv z0, [[.data (.slc false none 1 (List.map e_u8 z1.l)), iv z1.n]]⟩ := by
  refine meets_of (O := diwanplay_Picks_Val.O) hmix (fn := Try.f29) (code := bd29) (by kernel_rfl) ?_
  refine WK.weak (l := [(.t 0, [.ptr 1000 0]), (.o 1000, [.data (.slc false none 1 (List.map e_u8 o0_v.l)), iv o0_v.n])]) (wk_of (by kernel_rfl)) ?_
  unfold diwanplay_Picks_Val at h
  refine WK.rs (g := []) (l' := [(.t 0, [.ptr 1000 0]), (.o 1000, [.data (.slc false none 1 (List.map e_u8 o0_v.l)), iv o0_v.n])]) (by kernel_rfl) .nil (by kernel_rfl) ?_
  obtain ⟨⟨r2_1, r2_2⟩, h2_3, h⟩ := bd_inv h
  obtain ⟨x2_4, a2_5, e2_6, h⟩ := ix_inv h
  refine WK.rs (g := [.a ⟨iv r2_1, [[.data (.slc false none 1 (List.map e_u8 r2_2.l)), iv r2_2.n]]⟩, .c (e_s x2_4)]) (l' := [(.t 2, [sv x2_4]), (.o 1000, [.data (.slc false none 1 (List.map e_u8 r2_2.l)), iv r2_2.n])]) (by kernel_rfl) (.cons (Asks.of (C := Meets Try.prog) (diwanplay_Picks_Num.meets 5 o0_v _ _ h2_3)) (.cons (c_ix (e := e_s) a2_5 e2_6) (.cons (c_el (e := e_s) e2_6) .nil))) (by kernel_rfl) ?_
  refine WK.weak (l := [(.t 2, [sv x2_4]), (.o 1000, [.data (.slc false none 1 (List.map e_u8 r2_2.l)), iv r2_2.n])]) (wk_of (by kernel_rfl)) ?_
  refine WK.ret (by kernel_rfl) ?_
  have h_0 := some_inj h
  obtain ⟨g_1, h_1⟩ := Prod.mk.inj h_0
  subst g_1
  subst h_1
  exact WKe.fin (e' := .ret) (by kernel_rfl) (fin_of (g := []) (by first | exact .inl rfl | exact .inr rfl) .nil (by kernel_rfl))
end Go.Proofs.Ytjahlppmahjplaa.Told
