/- Functions of the program told as Lean functions, with the walks of their code in the machine by value. -/
import Derived.Test.YtknkeabmjleoiaaProg
import Derived.Test.YtknkeabmjleoiaaVam2
import Derived.Test.YtknkeabmjleoiaaIns36
import Derived.Test.YtknkeabmjleoiaaIns43
import Derived.Test.YtknkeabmjleoiaaToldJudgeBlindp1
namespace Go.Proofs.Ytknkeabmjleoiaa.Told
open Go Go.Proofs Go.Proofs.Ytknkeabmjleoiaa Go.Proofs.Ytknkeabmjleoiaa.Vam
set_option linter.unusedVariables false
set_option maxRecDepth 100000
/-- diwan/diwanlaw18.JudgeBlind -/
noncomputable def bd7 : Code := (Try.f7.body).getD .skip
def diwanlaw18_JudgeBlind.O : Nat → Nat := fun t => bif ([2, 3, 4, 5, 6, 7, 8, 9, 10, 33, 82] : List Nat).any (Nat.beq t) then 1 else 0
noncomputable def diwanlaw18_JudgeBlind.lp11 (fu : Nat) (l11_2 : TA10_int) : Nat → (List TTxn) → Int → Option (List TTxn)
  | 0, _, _ => none
  | n_ + 1, l11_0, l11_1 =>
    br (decide (l11_1 < (l11_0.length : Int)))
      (ix l11_0 l11_1 fun x14_1 =>
      diwanlaw18_JudgeBlind.lp11 fu l11_2 n_ (l11_0.set l11_1.toNat (TTxn.mk x14_1.Session x14_1.Seq [] x14_1.Writes)) (w64 (l11_1 + 1)))
      (some l11_0)
noncomputable def diwanlaw18_JudgeBlind.lp11_post (l11_2 : TA10_int) (r_ : (List TTxn)) : Wy → St → Prop := fun e τ => match r_ with
  | y0 => e = .exit 0 ∧ τ = ofL [(.t 3, [.data (.slc true none 4 (List.map TTxn.en y0))]), (.t 4, [.ptr 4 0]), (.o 4, (TA10_int.ob l11_2))]
theorem diwanlaw18_JudgeBlind.lp11_ok (fu : Nat) (l11_2 : TA10_int) : ∀ (n_ : Nat) (l11_0 : List TTxn) (l11_1 : Int) (r_ : (List TTxn)), diwanlaw18_JudgeBlind.lp11 fu l11_2 n_ l11_0 l11_1 = some r_ → WK Try.prog diwanlaw18_JudgeBlind.O (Ck Try.prog) (cB (cR (cL (cR (cR (cR (cR (cR bd7)))))))) [] (ofL [(.t 3, [.data (.slc true none 4 (List.map TTxn.en l11_0))]), (.t 4, [.ptr 4 0]), (.t 5, [iv l11_1]), (.o 4, (TA10_int.ob l11_2))]) (diwanlaw18_JudgeBlind.lp11_post l11_2 r_) := by
  intro n_
  induction n_ with
  | zero => intro l11_0 l11_1 r_ h; exact no_none h
  | succ n_ ih =>
    intro l11_0 l11_1 r_ h
    refine WK.loop (by kernel_rfl) ?_
    refine WK.seq (by kernel_rfl) ?_
    refine WK.rs (g := [.s (.t 21) [iv (l11_0.length : Int)]]) (l' := [(.t 3, [.data (.slc true none 4 (List.map TTxn.en l11_0))]), (.t 4, [.ptr 4 0]), (.t 5, [iv l11_1]), (.t 22, [bv (decide (l11_1 < (l11_0.length : Int)))]), (.o 4, (TA10_int.ob l11_2))]) (by kernel_rfl) (.cons (c_len (e := TTxn.en) (l := l11_0)) .nil) (by kernel_rfl) ?_
    rcases br_inv h with ⟨b13_0, h⟩ | ⟨b13_0, h⟩
    · refine WK.ct (b := (decide (l11_1 < (l11_0.length : Int)))) (by kernel_rfl) b13_0 ?_
      refine WK.skip (by kernel_rfl) ?_
      refine WKe.code (y := (cR (cB (cB (cR (cL (cR (cR (cR (cR (cR bd7))))))))))) (ks' := [.lp (cB (cR (cL (cR (cR (cR (cR (cR bd7))))))))]) (by kernel_rfl) ?_
      refine WK.seq (by kernel_rfl) ?_
      refine WK.block (n := 1) (by kernel_rfl) ?_
      obtain ⟨x14_1, a14_2, e14_3, h⟩ := ix_inv h
      refine WK.rc (g := [.c (TTxn.en x14_1), .s (.t 3) [.data (.slc true none 4 (List.map TTxn.en (l11_0.set l11_1.toNat (TTxn.mk x14_1.Session x14_1.Seq [] x14_1.Writes))))]]) (l' := [(.t 3, [.data (.slc true none 4 (List.map TTxn.en (l11_0.set l11_1.toNat (TTxn.mk x14_1.Session x14_1.Seq [] x14_1.Writes))))]), (.t 4, [.ptr 4 0]), (.t 5, [iv l11_1]), (.o 4, (TA10_int.ob l11_2))]) (.cons (c_ix (e := TTxn.en) a14_2 e14_3) (.cons (c_el (e := TTxn.en) e14_3) (.cons (congrArg (fun d : DV => [AV.data d]) (c_set (e := TTxn.en) (s := 4) (nl := none) (l := l11_0) (i := l11_1.toNat) (x := (TTxn.mk x14_1.Session x14_1.Seq [] x14_1.Writes)))) .nil))) (by kernel_rfl) (y := (cR (cR (cB (cB (cR (cL (cR (cR (cR (cR (cR bd7)))))))))))) (ks' := [.lp (cB (cR (cL (cR (cR (cR (cR (cR bd7))))))))]) (by kernel_rfl) ?_
      refine WK.rc (g := []) (l' := [(.t 3, [.data (.slc true none 4 (List.map TTxn.en (l11_0.set l11_1.toNat (TTxn.mk x14_1.Session x14_1.Seq [] x14_1.Writes))))]), (.t 4, [.ptr 4 0]), (.t 5, [iv (w64 (l11_1 + 1))]), (.o 4, (TA10_int.ob l11_2))]) .nil (by kernel_rfl) (y := (cB (cR (cL (cR (cR (cR (cR (cR bd7))))))))) (ks' := []) (by kernel_rfl) ?_
      exact WK.weak (l := [(.t 3, [.data (.slc true none 4 (List.map TTxn.en (l11_0.set l11_1.toNat (TTxn.mk x14_1.Session x14_1.Seq [] x14_1.Writes))))]), (.t 4, [.ptr 4 0]), (.t 5, [iv (w64 (l11_1 + 1))]), (.o 4, (TA10_int.ob l11_2))]) (wk_of (by kernel_rfl)) (ih (l11_0.set l11_1.toNat (TTxn.mk x14_1.Session x14_1.Seq [] x14_1.Writes)) (w64 (l11_1 + 1)) _ h)
    · refine WK.ce (b := (decide (l11_1 < (l11_0.length : Int)))) (by kernel_rfl) b13_0 ?_
      refine WK.weak (l := [(.t 3, [.data (.slc true none 4 (List.map TTxn.en l11_0))]), (.t 4, [.ptr 4 0]), (.o 4, (TA10_int.ob l11_2))]) (wk_of (by kernel_rfl)) ?_
      refine WK.exit (n := 0) (by kernel_rfl) ?_
      cases some_inj h
      exact WKe.fin (e' := .exit 0) (by kernel_rfl) ⟨rfl, rfl⟩
noncomputable def diwanlaw18_JudgeBlind.lp22 (fu : Nat) (l22_0 : List TTxn) (l22_1 : List Int) : Nat → Int → TA10_int → Option (Unit ⊕ Unit)
  | 0, _, _ => none
  | n_ + 1, l22_2, l22_3 =>
    br (decide (l22_2 < (l22_0.length : Int)))
      (ix l22_0 l22_2 fun x25_1 =>
      jn (
        br (x25_1.Session == 0)
          (ix l22_0 l22_2 fun x58_2 =>
          diwanlaw18_JudgeBlind.lp22 fu l22_0 l22_1 n_ (w64 (l22_2 + 1)) (TA10_int.mk (if l22_3.c0 < x58_2.Seq then x58_2.Seq else l22_3.c0) l22_3.c1 l22_3.c2 l22_3.c3 l22_3.c4 l22_3.c5 l22_3.c6 l22_3.c7 l22_3.c8 l22_3.c9))
          (br (x25_1.Session == 1)
            (ix l22_0 l22_2 fun x58_3 =>
            diwanlaw18_JudgeBlind.lp22 fu l22_0 l22_1 n_ (w64 (l22_2 + 1)) (TA10_int.mk l22_3.c0 (if l22_3.c1 < x58_3.Seq then x58_3.Seq else l22_3.c1) l22_3.c2 l22_3.c3 l22_3.c4 l22_3.c5 l22_3.c6 l22_3.c7 l22_3.c8 l22_3.c9))
            (br (x25_1.Session == 2)
              (ix l22_0 l22_2 fun x58_4 =>
              diwanlaw18_JudgeBlind.lp22 fu l22_0 l22_1 n_ (w64 (l22_2 + 1)) (TA10_int.mk l22_3.c0 l22_3.c1 (if l22_3.c2 < x58_4.Seq then x58_4.Seq else l22_3.c2) l22_3.c3 l22_3.c4 l22_3.c5 l22_3.c6 l22_3.c7 l22_3.c8 l22_3.c9))
              (br (x25_1.Session == 3)
                (ix l22_0 l22_2 fun x58_5 =>
                diwanlaw18_JudgeBlind.lp22 fu l22_0 l22_1 n_ (w64 (l22_2 + 1)) (TA10_int.mk l22_3.c0 l22_3.c1 l22_3.c2 (if l22_3.c3 < x58_5.Seq then x58_5.Seq else l22_3.c3) l22_3.c4 l22_3.c5 l22_3.c6 l22_3.c7 l22_3.c8 l22_3.c9))
                (br (x25_1.Session == 4)
                  (ix l22_0 l22_2 fun x58_6 =>
                  diwanlaw18_JudgeBlind.lp22 fu l22_0 l22_1 n_ (w64 (l22_2 + 1)) (TA10_int.mk l22_3.c0 l22_3.c1 l22_3.c2 l22_3.c3 (if l22_3.c4 < x58_6.Seq then x58_6.Seq else l22_3.c4) l22_3.c5 l22_3.c6 l22_3.c7 l22_3.c8 l22_3.c9))
                  (br (x25_1.Session == 5)
                    (ix l22_0 l22_2 fun x58_7 =>
                    diwanlaw18_JudgeBlind.lp22 fu l22_0 l22_1 n_ (w64 (l22_2 + 1)) (TA10_int.mk l22_3.c0 l22_3.c1 l22_3.c2 l22_3.c3 l22_3.c4 (if l22_3.c5 < x58_7.Seq then x58_7.Seq else l22_3.c5) l22_3.c6 l22_3.c7 l22_3.c8 l22_3.c9))
                    (br (x25_1.Session == 6)
                      (ix l22_0 l22_2 fun x58_8 =>
                      diwanlaw18_JudgeBlind.lp22 fu l22_0 l22_1 n_ (w64 (l22_2 + 1)) (TA10_int.mk l22_3.c0 l22_3.c1 l22_3.c2 l22_3.c3 l22_3.c4 l22_3.c5 (if l22_3.c6 < x58_8.Seq then x58_8.Seq else l22_3.c6) l22_3.c7 l22_3.c8 l22_3.c9))
                      (br (x25_1.Session == 7)
                        (ix l22_0 l22_2 fun x58_9 =>
                        diwanlaw18_JudgeBlind.lp22 fu l22_0 l22_1 n_ (w64 (l22_2 + 1)) (TA10_int.mk l22_3.c0 l22_3.c1 l22_3.c2 l22_3.c3 l22_3.c4 l22_3.c5 l22_3.c6 (if l22_3.c7 < x58_9.Seq then x58_9.Seq else l22_3.c7) l22_3.c8 l22_3.c9))
                        (br (x25_1.Session == 8)
                          (ix l22_0 l22_2 fun x58_10 =>
                          diwanlaw18_JudgeBlind.lp22 fu l22_0 l22_1 n_ (w64 (l22_2 + 1)) (TA10_int.mk l22_3.c0 l22_3.c1 l22_3.c2 l22_3.c3 l22_3.c4 l22_3.c5 l22_3.c6 l22_3.c7 (if l22_3.c8 < x58_10.Seq then x58_10.Seq else l22_3.c8) l22_3.c9))
                          (br (x25_1.Session == 9)
                            (ix l22_0 l22_2 fun x58_11 =>
                            diwanlaw18_JudgeBlind.lp22 fu l22_0 l22_1 n_ (w64 (l22_2 + 1)) (TA10_int.mk l22_3.c0 l22_3.c1 l22_3.c2 l22_3.c3 l22_3.c4 l22_3.c5 l22_3.c6 l22_3.c7 l22_3.c8 (if l22_3.c9 < x58_11.Seq then x58_11.Seq else l22_3.c9)))
                            (none))))))))))) fun k57 =>
      ix l22_1 l22_2 fun x26_1 =>
      ix l22_0 l22_2 fun x26_4 =>
      br (x25_1.Session == 0)
        (br (!((x26_1 == 1) == (decide (x26_4.Seq > l22_3.c0))))
          (some (.inr ()))
          (ix l22_1 l22_2 fun x26_9 =>
          br (x26_9 == 2)
            (some (.inr ()))
            (k57)))
        (br (x25_1.Session == 1)
          (br (!((x26_1 == 1) == (decide (x26_4.Seq > l22_3.c1))))
            (some (.inr ()))
            (ix l22_1 l22_2 fun x26_10 =>
            br (x26_10 == 2)
              (some (.inr ()))
              (k57)))
          (br (x25_1.Session == 2)
            (br (!((x26_1 == 1) == (decide (x26_4.Seq > l22_3.c2))))
              (some (.inr ()))
              (ix l22_1 l22_2 fun x26_11 =>
              br (x26_11 == 2)
                (some (.inr ()))
                (k57)))
            (br (x25_1.Session == 3)
              (br (!((x26_1 == 1) == (decide (x26_4.Seq > l22_3.c3))))
                (some (.inr ()))
                (ix l22_1 l22_2 fun x26_12 =>
                br (x26_12 == 2)
                  (some (.inr ()))
                  (k57)))
              (br (x25_1.Session == 4)
                (br (!((x26_1 == 1) == (decide (x26_4.Seq > l22_3.c4))))
                  (some (.inr ()))
                  (ix l22_1 l22_2 fun x26_13 =>
                  br (x26_13 == 2)
                    (some (.inr ()))
                    (k57)))
                (br (x25_1.Session == 5)
                  (br (!((x26_1 == 1) == (decide (x26_4.Seq > l22_3.c5))))
                    (some (.inr ()))
                    (ix l22_1 l22_2 fun x26_14 =>
                    br (x26_14 == 2)
                      (some (.inr ()))
                      (k57)))
                  (br (x25_1.Session == 6)
                    (br (!((x26_1 == 1) == (decide (x26_4.Seq > l22_3.c6))))
                      (some (.inr ()))
                      (ix l22_1 l22_2 fun x26_15 =>
                      br (x26_15 == 2)
                        (some (.inr ()))
                        (k57)))
                    (br (x25_1.Session == 7)
                      (br (!((x26_1 == 1) == (decide (x26_4.Seq > l22_3.c7))))
                        (some (.inr ()))
                        (ix l22_1 l22_2 fun x26_16 =>
                        br (x26_16 == 2)
                          (some (.inr ()))
                          (k57)))
                      (br (x25_1.Session == 8)
                        (br (!((x26_1 == 1) == (decide (x26_4.Seq > l22_3.c8))))
                          (some (.inr ()))
                          (ix l22_1 l22_2 fun x26_17 =>
                          br (x26_17 == 2)
                            (some (.inr ()))
                            (k57)))
                        (br (x25_1.Session == 9)
                          (br (!((x26_1 == 1) == (decide (x26_4.Seq > l22_3.c9))))
                            (some (.inr ()))
                            (ix l22_1 l22_2 fun x26_18 =>
                            br (x26_18 == 2)
                              (some (.inr ()))
                              (k57)))
                          (none)))))))))))
      (some (.inl ()))
noncomputable def diwanlaw18_JudgeBlind.lp22_post (l22_0 : List TTxn) (l22_1 : List Int) (r_ : (Unit ⊕ Unit)) : Wy → St → Prop := fun e τ => match r_ with
  | .inl _ => e = .exit 2 ∧ τ = ofL []
  | .inr _ => e = .ret ∧ τ = ofL [(.t 2, [bv false])]
theorem diwanlaw18_JudgeBlind.lp22_ok (fu : Nat) (l22_0 : List TTxn) (l22_1 : List Int) : ∀ (n_ : Nat) (l22_2 : Int) (l22_3 : TA10_int) (r_ : (Unit ⊕ Unit)), diwanlaw18_JudgeBlind.lp22 fu l22_0 l22_1 n_ l22_2 l22_3 = some r_ → WK Try.prog diwanlaw18_JudgeBlind.O (Ck Try.prog) (cB (cR (cL (cR (cR (cR (cR (cR (cR (cR (cR bd7))))))))))) [] (ofL [(.t 3, [.data (.slc false none 4 (List.map TTxn.en l22_0))]), (.t 4, [.ptr 4 0]), (.t 6, [.data (.slc false none 1 (List.map e_i64 l22_1))]), (.t 9, [iv l22_2]), (.o 4, (TA10_int.ob l22_3))]) (diwanlaw18_JudgeBlind.lp22_post l22_0 l22_1 r_) := by
  intro n_
  induction n_ with
  | zero => intro l22_2 l22_3 r_ h; exact no_none h
  | succ n_ ih =>
    intro l22_2 l22_3 r_ h
    refine WK.loop (by kernel_rfl) ?_
    refine WK.seq (by kernel_rfl) ?_
    refine WK.rs (g := [.s (.t 42) [iv (l22_0.length : Int)]]) (l' := [(.t 3, [.data (.slc false none 4 (List.map TTxn.en l22_0))]), (.t 4, [.ptr 4 0]), (.t 6, [.data (.slc false none 1 (List.map e_i64 l22_1))]), (.t 9, [iv l22_2]), (.t 43, [bv (decide (l22_2 < (l22_0.length : Int)))]), (.o 4, (TA10_int.ob l22_3))]) (by kernel_rfl) (.cons (c_len (e := TTxn.en) (l := l22_0)) .nil) (by kernel_rfl) ?_
    rcases br_inv h with ⟨b24_0, h⟩ | ⟨b24_0, h⟩
    · refine WK.ct (b := (decide (l22_2 < (l22_0.length : Int)))) (by kernel_rfl) b24_0 ?_
      refine WK.skip (by kernel_rfl) ?_
      refine WKe.code (y := (cR (cB (cB (cR (cL (cR (cR (cR (cR (cR (cR (cR (cR bd7)))))))))))))) (ks' := [.lp (cB (cR (cL (cR (cR (cR (cR (cR (cR (cR (cR bd7)))))))))))]) (by kernel_rfl) ?_
      refine WK.seq (by kernel_rfl) ?_
      refine WK.block (n := 3) (by kernel_rfl) ?_
      obtain ⟨x25_1, a25_2, e25_3, h⟩ := ix_inv h
      refine WK.rs (g := [.c (TTxn.en x25_1)]) (l' := [(.t 3, [.data (.slc false none 4 (List.map TTxn.en l22_0))]), (.t 4, [.ptr 4 0]), (.t 6, [.data (.slc false none 1 (List.map e_i64 l22_1))]), (.t 9, [iv l22_2]), (.t 10, [iv x25_1.Session]), (.o 4, (TA10_int.ob l22_3))]) (by kernel_rfl) (.cons (c_ix (e := TTxn.en) a25_2 e25_3) (.cons (c_el (e := TTxn.en) e25_3) .nil)) (by kernel_rfl) ?_
      obtain ⟨k57, hk57, h⟩ := jn_inv h
      have Jk57 : k57 = some r_ → WK Try.prog diwanlaw18_JudgeBlind.O (Ck Try.prog) (cR (cR (cB (cL (cR (cB (cB (cR (cL (cR (cR (cR (cR (cR (cR (cR (cR bd7))))))))))))))))) [.blk 3, .seq (cR (cR (cB (cB (cR (cL (cR (cR (cR (cR (cR (cR (cR (cR bd7)))))))))))))), .lp (cB (cR (cL (cR (cR (cR (cR (cR (cR (cR (cR bd7)))))))))))] (ofL [(.t 3, [.data (.slc false none 4 (List.map TTxn.en l22_0))]), (.t 4, [.ptr 4 0]), (.t 6, [.data (.slc false none 1 (List.map e_i64 l22_1))]), (.t 9, [iv l22_2]), (.t 10, [iv x25_1.Session]), (.o 4, (TA10_int.ob l22_3))]) (diwanlaw18_JudgeBlind.lp22_post l22_0 l22_1 r_) := by
        intro h
        rw [hk57] at h
        rcases br_inv h with ⟨b58_1, h⟩ | ⟨b58_1, h⟩
        · obtain ⟨x58_2, a58_3, e58_4, h⟩ := ix_inv h
          refine WK.rc (g := [.i 0, .c (TTxn.en x58_2), .i 0]) (l' := [(.t 3, [.data (.slc false none 4 (List.map TTxn.en l22_0))]), (.t 4, [.ptr 4 0]), (.t 6, [.data (.slc false none 1 (List.map e_i64 l22_1))]), (.t 9, [iv l22_2]), (.o 4, (TA10_int.ob (TA10_int.mk (if l22_3.c0 < x58_2.Seq then x58_2.Seq else l22_3.c0) l22_3.c1 l22_3.c2 l22_3.c3 l22_3.c4 l22_3.c5 l22_3.c6 l22_3.c7 l22_3.c8 l22_3.c9)))]) (.cons (c_ib (j := 0) (n := 10) b58_1 (Eq.refl true)) (.cons (c_ii (j := 0) b58_1) (.cons (c_ix (e := TTxn.en) a58_3 e58_4) (.cons (c_el (e := TTxn.en) e58_4) (.cons (c_ib (j := 0) (n := 10) b58_1 (Eq.refl true)) (.cons (c_ii (j := 0) b58_1) (.cons (Eq.refl true) .nil))))))) (by kernel_rfl) (y := (cR (cR (cB (cB (cR (cL (cR (cR (cR (cR (cR (cR (cR (cR bd7))))))))))))))) (ks' := [.lp (cB (cR (cL (cR (cR (cR (cR (cR (cR (cR (cR bd7)))))))))))]) (by kernel_rfl) ?_
          refine WK.rc (g := []) (l' := [(.t 3, [.data (.slc false none 4 (List.map TTxn.en l22_0))]), (.t 4, [.ptr 4 0]), (.t 6, [.data (.slc false none 1 (List.map e_i64 l22_1))]), (.t 9, [iv (w64 (l22_2 + 1))]), (.o 4, (TA10_int.ob (TA10_int.mk (if l22_3.c0 < x58_2.Seq then x58_2.Seq else l22_3.c0) l22_3.c1 l22_3.c2 l22_3.c3 l22_3.c4 l22_3.c5 l22_3.c6 l22_3.c7 l22_3.c8 l22_3.c9)))]) .nil (by kernel_rfl) (y := (cB (cR (cL (cR (cR (cR (cR (cR (cR (cR (cR bd7)))))))))))) (ks' := []) (by kernel_rfl) ?_
          exact WK.weak (l := [(.t 3, [.data (.slc false none 4 (List.map TTxn.en l22_0))]), (.t 4, [.ptr 4 0]), (.t 6, [.data (.slc false none 1 (List.map e_i64 l22_1))]), (.t 9, [iv (w64 (l22_2 + 1))]), (.o 4, (TA10_int.ob (TA10_int.mk (if l22_3.c0 < x58_2.Seq then x58_2.Seq else l22_3.c0) l22_3.c1 l22_3.c2 l22_3.c3 l22_3.c4 l22_3.c5 l22_3.c6 l22_3.c7 l22_3.c8 l22_3.c9)))]) (wk_of (by kernel_rfl)) (ih (w64 (l22_2 + 1)) (TA10_int.mk (if l22_3.c0 < x58_2.Seq then x58_2.Seq else l22_3.c0) l22_3.c1 l22_3.c2 l22_3.c3 l22_3.c4 l22_3.c5 l22_3.c6 l22_3.c7 l22_3.c8 l22_3.c9) _ h)
        · rcases br_inv h with ⟨b58_2, h⟩ | ⟨b58_2, h⟩
          · obtain ⟨x58_3, a58_4, e58_5, h⟩ := ix_inv h
            refine WK.rc (g := [.i 1, .c (TTxn.en x58_3), .i 1]) (l' := [(.t 3, [.data (.slc false none 4 (List.map TTxn.en l22_0))]), (.t 4, [.ptr 4 0]), (.t 6, [.data (.slc false none 1 (List.map e_i64 l22_1))]), (.t 9, [iv l22_2]), (.o 4, (TA10_int.ob (TA10_int.mk l22_3.c0 (if l22_3.c1 < x58_3.Seq then x58_3.Seq else l22_3.c1) l22_3.c2 l22_3.c3 l22_3.c4 l22_3.c5 l22_3.c6 l22_3.c7 l22_3.c8 l22_3.c9)))]) (.cons (c_ib (j := 1) (n := 10) b58_2 (Eq.refl true)) (.cons (c_ii (j := 1) b58_2) (.cons (c_ix (e := TTxn.en) a58_4 e58_5) (.cons (c_el (e := TTxn.en) e58_5) (.cons (c_ib (j := 1) (n := 10) b58_2 (Eq.refl true)) (.cons (c_ii (j := 1) b58_2) (.cons (Eq.refl true) .nil))))))) (by kernel_rfl) (y := (cR (cR (cB (cB (cR (cL (cR (cR (cR (cR (cR (cR (cR (cR bd7))))))))))))))) (ks' := [.lp (cB (cR (cL (cR (cR (cR (cR (cR (cR (cR (cR bd7)))))))))))]) (by kernel_rfl) ?_
            refine WK.rc (g := []) (l' := [(.t 3, [.data (.slc false none 4 (List.map TTxn.en l22_0))]), (.t 4, [.ptr 4 0]), (.t 6, [.data (.slc false none 1 (List.map e_i64 l22_1))]), (.t 9, [iv (w64 (l22_2 + 1))]), (.o 4, (TA10_int.ob (TA10_int.mk l22_3.c0 (if l22_3.c1 < x58_3.Seq then x58_3.Seq else l22_3.c1) l22_3.c2 l22_3.c3 l22_3.c4 l22_3.c5 l22_3.c6 l22_3.c7 l22_3.c8 l22_3.c9)))]) .nil (by kernel_rfl) (y := (cB (cR (cL (cR (cR (cR (cR (cR (cR (cR (cR bd7)))))))))))) (ks' := []) (by kernel_rfl) ?_
            exact WK.weak (l := [(.t 3, [.data (.slc false none 4 (List.map TTxn.en l22_0))]), (.t 4, [.ptr 4 0]), (.t 6, [.data (.slc false none 1 (List.map e_i64 l22_1))]), (.t 9, [iv (w64 (l22_2 + 1))]), (.o 4, (TA10_int.ob (TA10_int.mk l22_3.c0 (if l22_3.c1 < x58_3.Seq then x58_3.Seq else l22_3.c1) l22_3.c2 l22_3.c3 l22_3.c4 l22_3.c5 l22_3.c6 l22_3.c7 l22_3.c8 l22_3.c9)))]) (wk_of (by kernel_rfl)) (ih (w64 (l22_2 + 1)) (TA10_int.mk l22_3.c0 (if l22_3.c1 < x58_3.Seq then x58_3.Seq else l22_3.c1) l22_3.c2 l22_3.c3 l22_3.c4 l22_3.c5 l22_3.c6 l22_3.c7 l22_3.c8 l22_3.c9) _ h)
          · rcases br_inv h with ⟨b58_3, h⟩ | ⟨b58_3, h⟩
            · obtain ⟨x58_4, a58_5, e58_6, h⟩ := ix_inv h
              refine WK.rc (g := [.i 2, .c (TTxn.en x58_4), .i 2]) (l' := [(.t 3, [.data (.slc false none 4 (List.map TTxn.en l22_0))]), (.t 4, [.ptr 4 0]), (.t 6, [.data (.slc false none 1 (List.map e_i64 l22_1))]), (.t 9, [iv l22_2]), (.o 4, (TA10_int.ob (TA10_int.mk l22_3.c0 l22_3.c1 (if l22_3.c2 < x58_4.Seq then x58_4.Seq else l22_3.c2) l22_3.c3 l22_3.c4 l22_3.c5 l22_3.c6 l22_3.c7 l22_3.c8 l22_3.c9)))]) (.cons (c_ib (j := 2) (n := 10) b58_3 (Eq.refl true)) (.cons (c_ii (j := 2) b58_3) (.cons (c_ix (e := TTxn.en) a58_5 e58_6) (.cons (c_el (e := TTxn.en) e58_6) (.cons (c_ib (j := 2) (n := 10) b58_3 (Eq.refl true)) (.cons (c_ii (j := 2) b58_3) (.cons (Eq.refl true) .nil))))))) (by kernel_rfl) (y := (cR (cR (cB (cB (cR (cL (cR (cR (cR (cR (cR (cR (cR (cR bd7))))))))))))))) (ks' := [.lp (cB (cR (cL (cR (cR (cR (cR (cR (cR (cR (cR bd7)))))))))))]) (by kernel_rfl) ?_
              refine WK.rc (g := []) (l' := [(.t 3, [.data (.slc false none 4 (List.map TTxn.en l22_0))]), (.t 4, [.ptr 4 0]), (.t 6, [.data (.slc false none 1 (List.map e_i64 l22_1))]), (.t 9, [iv (w64 (l22_2 + 1))]), (.o 4, (TA10_int.ob (TA10_int.mk l22_3.c0 l22_3.c1 (if l22_3.c2 < x58_4.Seq then x58_4.Seq else l22_3.c2) l22_3.c3 l22_3.c4 l22_3.c5 l22_3.c6 l22_3.c7 l22_3.c8 l22_3.c9)))]) .nil (by kernel_rfl) (y := (cB (cR (cL (cR (cR (cR (cR (cR (cR (cR (cR bd7)))))))))))) (ks' := []) (by kernel_rfl) ?_
              exact WK.weak (l := [(.t 3, [.data (.slc false none 4 (List.map TTxn.en l22_0))]), (.t 4, [.ptr 4 0]), (.t 6, [.data (.slc false none 1 (List.map e_i64 l22_1))]), (.t 9, [iv (w64 (l22_2 + 1))]), (.o 4, (TA10_int.ob (TA10_int.mk l22_3.c0 l22_3.c1 (if l22_3.c2 < x58_4.Seq then x58_4.Seq else l22_3.c2) l22_3.c3 l22_3.c4 l22_3.c5 l22_3.c6 l22_3.c7 l22_3.c8 l22_3.c9)))]) (wk_of (by kernel_rfl)) (ih (w64 (l22_2 + 1)) (TA10_int.mk l22_3.c0 l22_3.c1 (if l22_3.c2 < x58_4.Seq then x58_4.Seq else l22_3.c2) l22_3.c3 l22_3.c4 l22_3.c5 l22_3.c6 l22_3.c7 l22_3.c8 l22_3.c9) _ h)
            · rcases br_inv h with ⟨b58_4, h⟩ | ⟨b58_4, h⟩
              · obtain ⟨x58_5, a58_6, e58_7, h⟩ := ix_inv h
                refine WK.rc (g := [.i 3, .c (TTxn.en x58_5), .i 3]) (l' := [(.t 3, [.data (.slc false none 4 (List.map TTxn.en l22_0))]), (.t 4, [.ptr 4 0]), (.t 6, [.data (.slc false none 1 (List.map e_i64 l22_1))]), (.t 9, [iv l22_2]), (.o 4, (TA10_int.ob (TA10_int.mk l22_3.c0 l22_3.c1 l22_3.c2 (if l22_3.c3 < x58_5.Seq then x58_5.Seq else l22_3.c3) l22_3.c4 l22_3.c5 l22_3.c6 l22_3.c7 l22_3.c8 l22_3.c9)))]) (.cons (c_ib (j := 3) (n := 10) b58_4 (Eq.refl true)) (.cons (c_ii (j := 3) b58_4) (.cons (c_ix (e := TTxn.en) a58_6 e58_7) (.cons (c_el (e := TTxn.en) e58_7) (.cons (c_ib (j := 3) (n := 10) b58_4 (Eq.refl true)) (.cons (c_ii (j := 3) b58_4) (.cons (Eq.refl true) .nil))))))) (by kernel_rfl) (y := (cR (cR (cB (cB (cR (cL (cR (cR (cR (cR (cR (cR (cR (cR bd7))))))))))))))) (ks' := [.lp (cB (cR (cL (cR (cR (cR (cR (cR (cR (cR (cR bd7)))))))))))]) (by kernel_rfl) ?_
                refine WK.rc (g := []) (l' := [(.t 3, [.data (.slc false none 4 (List.map TTxn.en l22_0))]), (.t 4, [.ptr 4 0]), (.t 6, [.data (.slc false none 1 (List.map e_i64 l22_1))]), (.t 9, [iv (w64 (l22_2 + 1))]), (.o 4, (TA10_int.ob (TA10_int.mk l22_3.c0 l22_3.c1 l22_3.c2 (if l22_3.c3 < x58_5.Seq then x58_5.Seq else l22_3.c3) l22_3.c4 l22_3.c5 l22_3.c6 l22_3.c7 l22_3.c8 l22_3.c9)))]) .nil (by kernel_rfl) (y := (cB (cR (cL (cR (cR (cR (cR (cR (cR (cR (cR bd7)))))))))))) (ks' := []) (by kernel_rfl) ?_
                exact WK.weak (l := [(.t 3, [.data (.slc false none 4 (List.map TTxn.en l22_0))]), (.t 4, [.ptr 4 0]), (.t 6, [.data (.slc false none 1 (List.map e_i64 l22_1))]), (.t 9, [iv (w64 (l22_2 + 1))]), (.o 4, (TA10_int.ob (TA10_int.mk l22_3.c0 l22_3.c1 l22_3.c2 (if l22_3.c3 < x58_5.Seq then x58_5.Seq else l22_3.c3) l22_3.c4 l22_3.c5 l22_3.c6 l22_3.c7 l22_3.c8 l22_3.c9)))]) (wk_of (by kernel_rfl)) (ih (w64 (l22_2 + 1)) (TA10_int.mk l22_3.c0 l22_3.c1 l22_3.c2 (if l22_3.c3 < x58_5.Seq then x58_5.Seq else l22_3.c3) l22_3.c4 l22_3.c5 l22_3.c6 l22_3.c7 l22_3.c8 l22_3.c9) _ h)
              · rcases br_inv h with ⟨b58_5, h⟩ | ⟨b58_5, h⟩
                · obtain ⟨x58_6, a58_7, e58_8, h⟩ := ix_inv h
                  refine WK.rc (g := [.i 4, .c (TTxn.en x58_6), .i 4]) (l' := [(.t 3, [.data (.slc false none 4 (List.map TTxn.en l22_0))]), (.t 4, [.ptr 4 0]), (.t 6, [.data (.slc false none 1 (List.map e_i64 l22_1))]), (.t 9, [iv l22_2]), (.o 4, (TA10_int.ob (TA10_int.mk l22_3.c0 l22_3.c1 l22_3.c2 l22_3.c3 (if l22_3.c4 < x58_6.Seq then x58_6.Seq else l22_3.c4) l22_3.c5 l22_3.c6 l22_3.c7 l22_3.c8 l22_3.c9)))]) (.cons (c_ib (j := 4) (n := 10) b58_5 (Eq.refl true)) (.cons (c_ii (j := 4) b58_5) (.cons (c_ix (e := TTxn.en) a58_7 e58_8) (.cons (c_el (e := TTxn.en) e58_8) (.cons (c_ib (j := 4) (n := 10) b58_5 (Eq.refl true)) (.cons (c_ii (j := 4) b58_5) (.cons (Eq.refl true) .nil))))))) (by kernel_rfl) (y := (cR (cR (cB (cB (cR (cL (cR (cR (cR (cR (cR (cR (cR (cR bd7))))))))))))))) (ks' := [.lp (cB (cR (cL (cR (cR (cR (cR (cR (cR (cR (cR bd7)))))))))))]) (by kernel_rfl) ?_
                  refine WK.rc (g := []) (l' := [(.t 3, [.data (.slc false none 4 (List.map TTxn.en l22_0))]), (.t 4, [.ptr 4 0]), (.t 6, [.data (.slc false none 1 (List.map e_i64 l22_1))]), (.t 9, [iv (w64 (l22_2 + 1))]), (.o 4, (TA10_int.ob (TA10_int.mk l22_3.c0 l22_3.c1 l22_3.c2 l22_3.c3 (if l22_3.c4 < x58_6.Seq then x58_6.Seq else l22_3.c4) l22_3.c5 l22_3.c6 l22_3.c7 l22_3.c8 l22_3.c9)))]) .nil (by kernel_rfl) (y := (cB (cR (cL (cR (cR (cR (cR (cR (cR (cR (cR bd7)))))))))))) (ks' := []) (by kernel_rfl) ?_
                  exact WK.weak (l := [(.t 3, [.data (.slc false none 4 (List.map TTxn.en l22_0))]), (.t 4, [.ptr 4 0]), (.t 6, [.data (.slc false none 1 (List.map e_i64 l22_1))]), (.t 9, [iv (w64 (l22_2 + 1))]), (.o 4, (TA10_int.ob (TA10_int.mk l22_3.c0 l22_3.c1 l22_3.c2 l22_3.c3 (if l22_3.c4 < x58_6.Seq then x58_6.Seq else l22_3.c4) l22_3.c5 l22_3.c6 l22_3.c7 l22_3.c8 l22_3.c9)))]) (wk_of (by kernel_rfl)) (ih (w64 (l22_2 + 1)) (TA10_int.mk l22_3.c0 l22_3.c1 l22_3.c2 l22_3.c3 (if l22_3.c4 < x58_6.Seq then x58_6.Seq else l22_3.c4) l22_3.c5 l22_3.c6 l22_3.c7 l22_3.c8 l22_3.c9) _ h)
                · rcases br_inv h with ⟨b58_6, h⟩ | ⟨b58_6, h⟩
                  · obtain ⟨x58_7, a58_8, e58_9, h⟩ := ix_inv h
                    refine WK.rc (g := [.i 5, .c (TTxn.en x58_7), .i 5]) (l' := [(.t 3, [.data (.slc false none 4 (List.map TTxn.en l22_0))]), (.t 4, [.ptr 4 0]), (.t 6, [.data (.slc false none 1 (List.map e_i64 l22_1))]), (.t 9, [iv l22_2]), (.o 4, (TA10_int.ob (TA10_int.mk l22_3.c0 l22_3.c1 l22_3.c2 l22_3.c3 l22_3.c4 (if l22_3.c5 < x58_7.Seq then x58_7.Seq else l22_3.c5) l22_3.c6 l22_3.c7 l22_3.c8 l22_3.c9)))]) (.cons (c_ib (j := 5) (n := 10) b58_6 (Eq.refl true)) (.cons (c_ii (j := 5) b58_6) (.cons (c_ix (e := TTxn.en) a58_8 e58_9) (.cons (c_el (e := TTxn.en) e58_9) (.cons (c_ib (j := 5) (n := 10) b58_6 (Eq.refl true)) (.cons (c_ii (j := 5) b58_6) (.cons (Eq.refl true) .nil))))))) (by kernel_rfl) (y := (cR (cR (cB (cB (cR (cL (cR (cR (cR (cR (cR (cR (cR (cR bd7))))))))))))))) (ks' := [.lp (cB (cR (cL (cR (cR (cR (cR (cR (cR (cR (cR bd7)))))))))))]) (by kernel_rfl) ?_
                    refine WK.rc (g := []) (l' := [(.t 3, [.data (.slc false none 4 (List.map TTxn.en l22_0))]), (.t 4, [.ptr 4 0]), (.t 6, [.data (.slc false none 1 (List.map e_i64 l22_1))]), (.t 9, [iv (w64 (l22_2 + 1))]), (.o 4, (TA10_int.ob (TA10_int.mk l22_3.c0 l22_3.c1 l22_3.c2 l22_3.c3 l22_3.c4 (if l22_3.c5 < x58_7.Seq then x58_7.Seq else l22_3.c5) l22_3.c6 l22_3.c7 l22_3.c8 l22_3.c9)))]) .nil (by kernel_rfl) (y := (cB (cR (cL (cR (cR (cR (cR (cR (cR (cR (cR bd7)))))))))))) (ks' := []) (by kernel_rfl) ?_
                    exact WK.weak (l := [(.t 3, [.data (.slc false none 4 (List.map TTxn.en l22_0))]), (.t 4, [.ptr 4 0]), (.t 6, [.data (.slc false none 1 (List.map e_i64 l22_1))]), (.t 9, [iv (w64 (l22_2 + 1))]), (.o 4, (TA10_int.ob (TA10_int.mk l22_3.c0 l22_3.c1 l22_3.c2 l22_3.c3 l22_3.c4 (if l22_3.c5 < x58_7.Seq then x58_7.Seq else l22_3.c5) l22_3.c6 l22_3.c7 l22_3.c8 l22_3.c9)))]) (wk_of (by kernel_rfl)) (ih (w64 (l22_2 + 1)) (TA10_int.mk l22_3.c0 l22_3.c1 l22_3.c2 l22_3.c3 l22_3.c4 (if l22_3.c5 < x58_7.Seq then x58_7.Seq else l22_3.c5) l22_3.c6 l22_3.c7 l22_3.c8 l22_3.c9) _ h)
                  · rcases br_inv h with ⟨b58_7, h⟩ | ⟨b58_7, h⟩
                    · obtain ⟨x58_8, a58_9, e58_10, h⟩ := ix_inv h
                      refine WK.rc (g := [.i 6, .c (TTxn.en x58_8), .i 6]) (l' := [(.t 3, [.data (.slc false none 4 (List.map TTxn.en l22_0))]), (.t 4, [.ptr 4 0]), (.t 6, [.data (.slc false none 1 (List.map e_i64 l22_1))]), (.t 9, [iv l22_2]), (.o 4, (TA10_int.ob (TA10_int.mk l22_3.c0 l22_3.c1 l22_3.c2 l22_3.c3 l22_3.c4 l22_3.c5 (if l22_3.c6 < x58_8.Seq then x58_8.Seq else l22_3.c6) l22_3.c7 l22_3.c8 l22_3.c9)))]) (.cons (c_ib (j := 6) (n := 10) b58_7 (Eq.refl true)) (.cons (c_ii (j := 6) b58_7) (.cons (c_ix (e := TTxn.en) a58_9 e58_10) (.cons (c_el (e := TTxn.en) e58_10) (.cons (c_ib (j := 6) (n := 10) b58_7 (Eq.refl true)) (.cons (c_ii (j := 6) b58_7) (.cons (Eq.refl true) .nil))))))) (by kernel_rfl) (y := (cR (cR (cB (cB (cR (cL (cR (cR (cR (cR (cR (cR (cR (cR bd7))))))))))))))) (ks' := [.lp (cB (cR (cL (cR (cR (cR (cR (cR (cR (cR (cR bd7)))))))))))]) (by kernel_rfl) ?_
                      refine WK.rc (g := []) (l' := [(.t 3, [.data (.slc false none 4 (List.map TTxn.en l22_0))]), (.t 4, [.ptr 4 0]), (.t 6, [.data (.slc false none 1 (List.map e_i64 l22_1))]), (.t 9, [iv (w64 (l22_2 + 1))]), (.o 4, (TA10_int.ob (TA10_int.mk l22_3.c0 l22_3.c1 l22_3.c2 l22_3.c3 l22_3.c4 l22_3.c5 (if l22_3.c6 < x58_8.Seq then x58_8.Seq else l22_3.c6) l22_3.c7 l22_3.c8 l22_3.c9)))]) .nil (by kernel_rfl) (y := (cB (cR (cL (cR (cR (cR (cR (cR (cR (cR (cR bd7)))))))))))) (ks' := []) (by kernel_rfl) ?_
                      exact WK.weak (l := [(.t 3, [.data (.slc false none 4 (List.map TTxn.en l22_0))]), (.t 4, [.ptr 4 0]), (.t 6, [.data (.slc false none 1 (List.map e_i64 l22_1))]), (.t 9, [iv (w64 (l22_2 + 1))]), (.o 4, (TA10_int.ob (TA10_int.mk l22_3.c0 l22_3.c1 l22_3.c2 l22_3.c3 l22_3.c4 l22_3.c5 (if l22_3.c6 < x58_8.Seq then x58_8.Seq else l22_3.c6) l22_3.c7 l22_3.c8 l22_3.c9)))]) (wk_of (by kernel_rfl)) (ih (w64 (l22_2 + 1)) (TA10_int.mk l22_3.c0 l22_3.c1 l22_3.c2 l22_3.c3 l22_3.c4 l22_3.c5 (if l22_3.c6 < x58_8.Seq then x58_8.Seq else l22_3.c6) l22_3.c7 l22_3.c8 l22_3.c9) _ h)
                    · rcases br_inv h with ⟨b58_8, h⟩ | ⟨b58_8, h⟩
                      · obtain ⟨x58_9, a58_10, e58_11, h⟩ := ix_inv h
                        refine WK.rc (g := [.i 7, .c (TTxn.en x58_9), .i 7]) (l' := [(.t 3, [.data (.slc false none 4 (List.map TTxn.en l22_0))]), (.t 4, [.ptr 4 0]), (.t 6, [.data (.slc false none 1 (List.map e_i64 l22_1))]), (.t 9, [iv l22_2]), (.o 4, (TA10_int.ob (TA10_int.mk l22_3.c0 l22_3.c1 l22_3.c2 l22_3.c3 l22_3.c4 l22_3.c5 l22_3.c6 (if l22_3.c7 < x58_9.Seq then x58_9.Seq else l22_3.c7) l22_3.c8 l22_3.c9)))]) (.cons (c_ib (j := 7) (n := 10) b58_8 (Eq.refl true)) (.cons (c_ii (j := 7) b58_8) (.cons (c_ix (e := TTxn.en) a58_10 e58_11) (.cons (c_el (e := TTxn.en) e58_11) (.cons (c_ib (j := 7) (n := 10) b58_8 (Eq.refl true)) (.cons (c_ii (j := 7) b58_8) (.cons (Eq.refl true) .nil))))))) (by kernel_rfl) (y := (cR (cR (cB (cB (cR (cL (cR (cR (cR (cR (cR (cR (cR (cR bd7))))))))))))))) (ks' := [.lp (cB (cR (cL (cR (cR (cR (cR (cR (cR (cR (cR bd7)))))))))))]) (by kernel_rfl) ?_
                        refine WK.rc (g := []) (l' := [(.t 3, [.data (.slc false none 4 (List.map TTxn.en l22_0))]), (.t 4, [.ptr 4 0]), (.t 6, [.data (.slc false none 1 (List.map e_i64 l22_1))]), (.t 9, [iv (w64 (l22_2 + 1))]), (.o 4, (TA10_int.ob (TA10_int.mk l22_3.c0 l22_3.c1 l22_3.c2 l22_3.c3 l22_3.c4 l22_3.c5 l22_3.c6 (if l22_3.c7 < x58_9.Seq then x58_9.Seq else l22_3.c7) l22_3.c8 l22_3.c9)))]) .nil (by kernel_rfl) (y := (cB (cR (cL (cR (cR (cR (cR (cR (cR (cR (cR bd7)))))))))))) (ks' := []) (by kernel_rfl) ?_
                        exact WK.weak (l := [(.t 3, [.data (.slc false none 4 (List.map TTxn.en l22_0))]), (.t 4, [.ptr 4 0]), (.t 6, [.data (.slc false none 1 (List.map e_i64 l22_1))]), (.t 9, [iv (w64 (l22_2 + 1))]), (.o 4, (TA10_int.ob (TA10_int.mk l22_3.c0 l22_3.c1 l22_3.c2 l22_3.c3 l22_3.c4 l22_3.c5 l22_3.c6 (if l22_3.c7 < x58_9.Seq then x58_9.Seq else l22_3.c7) l22_3.c8 l22_3.c9)))]) (wk_of (by kernel_rfl)) (ih (w64 (l22_2 + 1)) (TA10_int.mk l22_3.c0 l22_3.c1 l22_3.c2 l22_3.c3 l22_3.c4 l22_3.c5 l22_3.c6 (if l22_3.c7 < x58_9.Seq then x58_9.Seq else l22_3.c7) l22_3.c8 l22_3.c9) _ h)
                      · rcases br_inv h with ⟨b58_9, h⟩ | ⟨b58_9, h⟩
                        · obtain ⟨x58_10, a58_11, e58_12, h⟩ := ix_inv h
                          refine WK.rc (g := [.i 8, .c (TTxn.en x58_10), .i 8]) (l' := [(.t 3, [.data (.slc false none 4 (List.map TTxn.en l22_0))]), (.t 4, [.ptr 4 0]), (.t 6, [.data (.slc false none 1 (List.map e_i64 l22_1))]), (.t 9, [iv l22_2]), (.o 4, (TA10_int.ob (TA10_int.mk l22_3.c0 l22_3.c1 l22_3.c2 l22_3.c3 l22_3.c4 l22_3.c5 l22_3.c6 l22_3.c7 (if l22_3.c8 < x58_10.Seq then x58_10.Seq else l22_3.c8) l22_3.c9)))]) (.cons (c_ib (j := 8) (n := 10) b58_9 (Eq.refl true)) (.cons (c_ii (j := 8) b58_9) (.cons (c_ix (e := TTxn.en) a58_11 e58_12) (.cons (c_el (e := TTxn.en) e58_12) (.cons (c_ib (j := 8) (n := 10) b58_9 (Eq.refl true)) (.cons (c_ii (j := 8) b58_9) (.cons (Eq.refl true) .nil))))))) (by kernel_rfl) (y := (cR (cR (cB (cB (cR (cL (cR (cR (cR (cR (cR (cR (cR (cR bd7))))))))))))))) (ks' := [.lp (cB (cR (cL (cR (cR (cR (cR (cR (cR (cR (cR bd7)))))))))))]) (by kernel_rfl) ?_
                          refine WK.rc (g := []) (l' := [(.t 3, [.data (.slc false none 4 (List.map TTxn.en l22_0))]), (.t 4, [.ptr 4 0]), (.t 6, [.data (.slc false none 1 (List.map e_i64 l22_1))]), (.t 9, [iv (w64 (l22_2 + 1))]), (.o 4, (TA10_int.ob (TA10_int.mk l22_3.c0 l22_3.c1 l22_3.c2 l22_3.c3 l22_3.c4 l22_3.c5 l22_3.c6 l22_3.c7 (if l22_3.c8 < x58_10.Seq then x58_10.Seq else l22_3.c8) l22_3.c9)))]) .nil (by kernel_rfl) (y := (cB (cR (cL (cR (cR (cR (cR (cR (cR (cR (cR bd7)))))))))))) (ks' := []) (by kernel_rfl) ?_
                          exact WK.weak (l := [(.t 3, [.data (.slc false none 4 (List.map TTxn.en l22_0))]), (.t 4, [.ptr 4 0]), (.t 6, [.data (.slc false none 1 (List.map e_i64 l22_1))]), (.t 9, [iv (w64 (l22_2 + 1))]), (.o 4, (TA10_int.ob (TA10_int.mk l22_3.c0 l22_3.c1 l22_3.c2 l22_3.c3 l22_3.c4 l22_3.c5 l22_3.c6 l22_3.c7 (if l22_3.c8 < x58_10.Seq then x58_10.Seq else l22_3.c8) l22_3.c9)))]) (wk_of (by kernel_rfl)) (ih (w64 (l22_2 + 1)) (TA10_int.mk l22_3.c0 l22_3.c1 l22_3.c2 l22_3.c3 l22_3.c4 l22_3.c5 l22_3.c6 l22_3.c7 (if l22_3.c8 < x58_10.Seq then x58_10.Seq else l22_3.c8) l22_3.c9) _ h)
                        · rcases br_inv h with ⟨b58_10, h⟩ | ⟨b58_10, h⟩
                          · obtain ⟨x58_11, a58_12, e58_13, h⟩ := ix_inv h
                            refine WK.rc (g := [.i 9, .c (TTxn.en x58_11), .i 9]) (l' := [(.t 3, [.data (.slc false none 4 (List.map TTxn.en l22_0))]), (.t 4, [.ptr 4 0]), (.t 6, [.data (.slc false none 1 (List.map e_i64 l22_1))]), (.t 9, [iv l22_2]), (.o 4, (TA10_int.ob (TA10_int.mk l22_3.c0 l22_3.c1 l22_3.c2 l22_3.c3 l22_3.c4 l22_3.c5 l22_3.c6 l22_3.c7 l22_3.c8 (if l22_3.c9 < x58_11.Seq then x58_11.Seq else l22_3.c9))))]) (.cons (c_ib (j := 9) (n := 10) b58_10 (Eq.refl true)) (.cons (c_ii (j := 9) b58_10) (.cons (c_ix (e := TTxn.en) a58_12 e58_13) (.cons (c_el (e := TTxn.en) e58_13) (.cons (c_ib (j := 9) (n := 10) b58_10 (Eq.refl true)) (.cons (c_ii (j := 9) b58_10) (.cons (Eq.refl true) .nil))))))) (by kernel_rfl) (y := (cR (cR (cB (cB (cR (cL (cR (cR (cR (cR (cR (cR (cR (cR bd7))))))))))))))) (ks' := [.lp (cB (cR (cL (cR (cR (cR (cR (cR (cR (cR (cR bd7)))))))))))]) (by kernel_rfl) ?_
                            refine WK.rc (g := []) (l' := [(.t 3, [.data (.slc false none 4 (List.map TTxn.en l22_0))]), (.t 4, [.ptr 4 0]), (.t 6, [.data (.slc false none 1 (List.map e_i64 l22_1))]), (.t 9, [iv (w64 (l22_2 + 1))]), (.o 4, (TA10_int.ob (TA10_int.mk l22_3.c0 l22_3.c1 l22_3.c2 l22_3.c3 l22_3.c4 l22_3.c5 l22_3.c6 l22_3.c7 l22_3.c8 (if l22_3.c9 < x58_11.Seq then x58_11.Seq else l22_3.c9))))]) .nil (by kernel_rfl) (y := (cB (cR (cL (cR (cR (cR (cR (cR (cR (cR (cR bd7)))))))))))) (ks' := []) (by kernel_rfl) ?_
                            exact WK.weak (l := [(.t 3, [.data (.slc false none 4 (List.map TTxn.en l22_0))]), (.t 4, [.ptr 4 0]), (.t 6, [.data (.slc false none 1 (List.map e_i64 l22_1))]), (.t 9, [iv (w64 (l22_2 + 1))]), (.o 4, (TA10_int.ob (TA10_int.mk l22_3.c0 l22_3.c1 l22_3.c2 l22_3.c3 l22_3.c4 l22_3.c5 l22_3.c6 l22_3.c7 l22_3.c8 (if l22_3.c9 < x58_11.Seq then x58_11.Seq else l22_3.c9))))]) (wk_of (by kernel_rfl)) (ih (w64 (l22_2 + 1)) (TA10_int.mk l22_3.c0 l22_3.c1 l22_3.c2 l22_3.c3 l22_3.c4 l22_3.c5 l22_3.c6 l22_3.c7 l22_3.c8 (if l22_3.c9 < x58_11.Seq then x58_11.Seq else l22_3.c9)) _ h)
                          · exact no_none h
      clear hk57
      refine WK.seq (by kernel_rfl) ?_
      obtain ⟨x26_1, a26_2, e26_3, h⟩ := ix_inv h
      obtain ⟨x26_4, a26_5, e26_6, h⟩ := ix_inv h
      rcases br_inv h with ⟨b26_7, h⟩ | ⟨b26_7, h⟩
      · rcases br_inv h with ⟨b26_8, h⟩ | ⟨b26_8, h⟩
        · refine WK.rs (g := [.c (e_i64 x26_1), .c (TTxn.en x26_4), .i 0, .b true, .b true, .b true, .b true, .b true, .b true]) (l' := [(.t 3, [.data (.slc false none 4 (List.map TTxn.en l22_0))]), (.t 4, [.ptr 4 0]), (.t 6, [.data (.slc false none 1 (List.map e_i64 l22_1))]), (.t 9, [iv l22_2]), (.t 10, [iv x25_1.Session]), (.t 72, [bv true]), (.o 4, (TA10_int.ob l22_3))]) (by kernel_rfl) (.cons (c_ix (e := e_i64) a26_2 e26_3) (.cons (c_el (e := e_i64) e26_3) (.cons (c_ix (e := TTxn.en) a26_5 e26_6) (.cons (c_el (e := TTxn.en) e26_6) (.cons (c_ib (j := 0) (n := 10) b26_7 (Eq.refl true)) (.cons (c_ii (j := 0) b26_7) (.cons b26_8 (.cons b26_8 (.cons b26_8 (.cons b26_8 (.cons b26_8 (.cons b26_8 (.cons (Eq.refl true) .nil))))))))))))) (by kernel_rfl) ?_
          refine WK.ct (b := true) (by kernel_rfl) rfl ?_
          refine WK.rs (g := []) (l' := [(.t 2, [bv false])]) (by kernel_rfl) .nil (by kernel_rfl) ?_
          refine WK.weak (l := [(.t 2, [bv false])]) (wk_of (by kernel_rfl)) ?_
          refine WK.ret (by kernel_rfl) ?_
          cases some_inj h
          exact WKe.fin (e' := .ret) (by kernel_rfl) ⟨rfl, rfl⟩
        · obtain ⟨x26_9, a26_10, e26_11, h⟩ := ix_inv h
          refine WK.rs (g := [.c (e_i64 x26_1), .c (TTxn.en x26_4), .i 0, .b false, .b false, .b false, .c (e_i64 x26_9), .b false, .b false, .b false]) (l' := [(.t 3, [.data (.slc false none 4 (List.map TTxn.en l22_0))]), (.t 4, [.ptr 4 0]), (.t 6, [.data (.slc false none 1 (List.map e_i64 l22_1))]), (.t 9, [iv l22_2]), (.t 10, [iv x25_1.Session]), (.t 72, [bv (x26_9 == 2)]), (.o 4, (TA10_int.ob l22_3))]) (by kernel_rfl) (.cons (c_ix (e := e_i64) a26_2 e26_3) (.cons (c_el (e := e_i64) e26_3) (.cons (c_ix (e := TTxn.en) a26_5 e26_6) (.cons (c_el (e := TTxn.en) e26_6) (.cons (c_ib (j := 0) (n := 10) b26_7 (Eq.refl true)) (.cons (c_ii (j := 0) b26_7) (.cons b26_8 (.cons b26_8 (.cons b26_8 (.cons (c_ix (e := e_i64) a26_10 e26_11) (.cons (c_el (e := e_i64) e26_11) (.cons b26_8 (.cons b26_8 (.cons b26_8 (.cons (Eq.refl true) .nil))))))))))))))) (by kernel_rfl) ?_
          rcases br_inv h with ⟨b28_0, h⟩ | ⟨b28_0, h⟩
          · refine WK.ct (b := (x26_9 == 2)) (by kernel_rfl) b28_0 ?_
            refine WK.rs (g := []) (l' := [(.t 2, [bv false])]) (by kernel_rfl) .nil (by kernel_rfl) ?_
            refine WK.weak (l := [(.t 2, [bv false])]) (wk_of (by kernel_rfl)) ?_
            refine WK.ret (by kernel_rfl) ?_
            cases some_inj h
            exact WKe.fin (e' := .ret) (by kernel_rfl) ⟨rfl, rfl⟩
          · refine WK.ce (b := (x26_9 == 2)) (by kernel_rfl) b28_0 ?_
            refine WK.skip (by kernel_rfl) ?_
            refine WKe.code (y := (cR (cR (cB (cL (cR (cB (cB (cR (cL (cR (cR (cR (cR (cR (cR (cR (cR bd7)))))))))))))))))) (ks' := [.blk 3, .seq (cR (cR (cB (cB (cR (cL (cR (cR (cR (cR (cR (cR (cR (cR bd7)))))))))))))), .lp (cB (cR (cL (cR (cR (cR (cR (cR (cR (cR (cR bd7)))))))))))]) (by kernel_rfl) ?_
            exact WK.weak (l := [(.t 3, [.data (.slc false none 4 (List.map TTxn.en l22_0))]), (.t 4, [.ptr 4 0]), (.t 6, [.data (.slc false none 1 (List.map e_i64 l22_1))]), (.t 9, [iv l22_2]), (.t 10, [iv x25_1.Session]), (.o 4, (TA10_int.ob l22_3))]) (wk_of (by kernel_rfl)) (Jk57 h)
      · rcases br_inv h with ⟨b26_8, h⟩ | ⟨b26_8, h⟩
        · rcases br_inv h with ⟨b26_9, h⟩ | ⟨b26_9, h⟩
          · refine WK.rs (g := [.c (e_i64 x26_1), .c (TTxn.en x26_4), .i 1, .b true, .b true, .b true, .b true, .b true, .b true]) (l' := [(.t 3, [.data (.slc false none 4 (List.map TTxn.en l22_0))]), (.t 4, [.ptr 4 0]), (.t 6, [.data (.slc false none 1 (List.map e_i64 l22_1))]), (.t 9, [iv l22_2]), (.t 10, [iv x25_1.Session]), (.t 72, [bv true]), (.o 4, (TA10_int.ob l22_3))]) (by kernel_rfl) (.cons (c_ix (e := e_i64) a26_2 e26_3) (.cons (c_el (e := e_i64) e26_3) (.cons (c_ix (e := TTxn.en) a26_5 e26_6) (.cons (c_el (e := TTxn.en) e26_6) (.cons (c_ib (j := 1) (n := 10) b26_8 (Eq.refl true)) (.cons (c_ii (j := 1) b26_8) (.cons b26_9 (.cons b26_9 (.cons b26_9 (.cons b26_9 (.cons b26_9 (.cons b26_9 (.cons (Eq.refl true) .nil))))))))))))) (by kernel_rfl) ?_
            refine WK.ct (b := true) (by kernel_rfl) rfl ?_
            refine WK.rs (g := []) (l' := [(.t 2, [bv false])]) (by kernel_rfl) .nil (by kernel_rfl) ?_
            refine WK.weak (l := [(.t 2, [bv false])]) (wk_of (by kernel_rfl)) ?_
            refine WK.ret (by kernel_rfl) ?_
            cases some_inj h
            exact WKe.fin (e' := .ret) (by kernel_rfl) ⟨rfl, rfl⟩
          · obtain ⟨x26_10, a26_11, e26_12, h⟩ := ix_inv h
            refine WK.rs (g := [.c (e_i64 x26_1), .c (TTxn.en x26_4), .i 1, .b false, .b false, .b false, .c (e_i64 x26_10), .b false, .b false, .b false]) (l' := [(.t 3, [.data (.slc false none 4 (List.map TTxn.en l22_0))]), (.t 4, [.ptr 4 0]), (.t 6, [.data (.slc false none 1 (List.map e_i64 l22_1))]), (.t 9, [iv l22_2]), (.t 10, [iv x25_1.Session]), (.t 72, [bv (x26_10 == 2)]), (.o 4, (TA10_int.ob l22_3))]) (by kernel_rfl) (.cons (c_ix (e := e_i64) a26_2 e26_3) (.cons (c_el (e := e_i64) e26_3) (.cons (c_ix (e := TTxn.en) a26_5 e26_6) (.cons (c_el (e := TTxn.en) e26_6) (.cons (c_ib (j := 1) (n := 10) b26_8 (Eq.refl true)) (.cons (c_ii (j := 1) b26_8) (.cons b26_9 (.cons b26_9 (.cons b26_9 (.cons (c_ix (e := e_i64) a26_11 e26_12) (.cons (c_el (e := e_i64) e26_12) (.cons b26_9 (.cons b26_9 (.cons b26_9 (.cons (Eq.refl true) .nil))))))))))))))) (by kernel_rfl) ?_
            rcases br_inv h with ⟨b31_0, h⟩ | ⟨b31_0, h⟩
            · refine WK.ct (b := (x26_10 == 2)) (by kernel_rfl) b31_0 ?_
              refine WK.rs (g := []) (l' := [(.t 2, [bv false])]) (by kernel_rfl) .nil (by kernel_rfl) ?_
              refine WK.weak (l := [(.t 2, [bv false])]) (wk_of (by kernel_rfl)) ?_
              refine WK.ret (by kernel_rfl) ?_
              cases some_inj h
              exact WKe.fin (e' := .ret) (by kernel_rfl) ⟨rfl, rfl⟩
            · refine WK.ce (b := (x26_10 == 2)) (by kernel_rfl) b31_0 ?_
              refine WK.skip (by kernel_rfl) ?_
              refine WKe.code (y := (cR (cR (cB (cL (cR (cB (cB (cR (cL (cR (cR (cR (cR (cR (cR (cR (cR bd7)))))))))))))))))) (ks' := [.blk 3, .seq (cR (cR (cB (cB (cR (cL (cR (cR (cR (cR (cR (cR (cR (cR bd7)))))))))))))), .lp (cB (cR (cL (cR (cR (cR (cR (cR (cR (cR (cR bd7)))))))))))]) (by kernel_rfl) ?_
              exact WK.weak (l := [(.t 3, [.data (.slc false none 4 (List.map TTxn.en l22_0))]), (.t 4, [.ptr 4 0]), (.t 6, [.data (.slc false none 1 (List.map e_i64 l22_1))]), (.t 9, [iv l22_2]), (.t 10, [iv x25_1.Session]), (.o 4, (TA10_int.ob l22_3))]) (wk_of (by kernel_rfl)) (Jk57 h)
        · rcases br_inv h with ⟨b26_9, h⟩ | ⟨b26_9, h⟩
          · rcases br_inv h with ⟨b26_10, h⟩ | ⟨b26_10, h⟩
            · refine WK.rs (g := [.c (e_i64 x26_1), .c (TTxn.en x26_4), .i 2, .b true, .b true, .b true, .b true, .b true, .b true]) (l' := [(.t 3, [.data (.slc false none 4 (List.map TTxn.en l22_0))]), (.t 4, [.ptr 4 0]), (.t 6, [.data (.slc false none 1 (List.map e_i64 l22_1))]), (.t 9, [iv l22_2]), (.t 10, [iv x25_1.Session]), (.t 72, [bv true]), (.o 4, (TA10_int.ob l22_3))]) (by kernel_rfl) (.cons (c_ix (e := e_i64) a26_2 e26_3) (.cons (c_el (e := e_i64) e26_3) (.cons (c_ix (e := TTxn.en) a26_5 e26_6) (.cons (c_el (e := TTxn.en) e26_6) (.cons (c_ib (j := 2) (n := 10) b26_9 (Eq.refl true)) (.cons (c_ii (j := 2) b26_9) (.cons b26_10 (.cons b26_10 (.cons b26_10 (.cons b26_10 (.cons b26_10 (.cons b26_10 (.cons (Eq.refl true) .nil))))))))))))) (by kernel_rfl) ?_
              refine WK.ct (b := true) (by kernel_rfl) rfl ?_
              refine WK.rs (g := []) (l' := [(.t 2, [bv false])]) (by kernel_rfl) .nil (by kernel_rfl) ?_
              refine WK.weak (l := [(.t 2, [bv false])]) (wk_of (by kernel_rfl)) ?_
              refine WK.ret (by kernel_rfl) ?_
              cases some_inj h
              exact WKe.fin (e' := .ret) (by kernel_rfl) ⟨rfl, rfl⟩
            · obtain ⟨x26_11, a26_12, e26_13, h⟩ := ix_inv h
              refine WK.rs (g := [.c (e_i64 x26_1), .c (TTxn.en x26_4), .i 2, .b false, .b false, .b false, .c (e_i64 x26_11), .b false, .b false, .b false]) (l' := [(.t 3, [.data (.slc false none 4 (List.map TTxn.en l22_0))]), (.t 4, [.ptr 4 0]), (.t 6, [.data (.slc false none 1 (List.map e_i64 l22_1))]), (.t 9, [iv l22_2]), (.t 10, [iv x25_1.Session]), (.t 72, [bv (x26_11 == 2)]), (.o 4, (TA10_int.ob l22_3))]) (by kernel_rfl) (.cons (c_ix (e := e_i64) a26_2 e26_3) (.cons (c_el (e := e_i64) e26_3) (.cons (c_ix (e := TTxn.en) a26_5 e26_6) (.cons (c_el (e := TTxn.en) e26_6) (.cons (c_ib (j := 2) (n := 10) b26_9 (Eq.refl true)) (.cons (c_ii (j := 2) b26_9) (.cons b26_10 (.cons b26_10 (.cons b26_10 (.cons (c_ix (e := e_i64) a26_12 e26_13) (.cons (c_el (e := e_i64) e26_13) (.cons b26_10 (.cons b26_10 (.cons b26_10 (.cons (Eq.refl true) .nil))))))))))))))) (by kernel_rfl) ?_
              rcases br_inv h with ⟨b34_0, h⟩ | ⟨b34_0, h⟩
              · refine WK.ct (b := (x26_11 == 2)) (by kernel_rfl) b34_0 ?_
                refine WK.rs (g := []) (l' := [(.t 2, [bv false])]) (by kernel_rfl) .nil (by kernel_rfl) ?_
                refine WK.weak (l := [(.t 2, [bv false])]) (wk_of (by kernel_rfl)) ?_
                refine WK.ret (by kernel_rfl) ?_
                cases some_inj h
                exact WKe.fin (e' := .ret) (by kernel_rfl) ⟨rfl, rfl⟩
              · refine WK.ce (b := (x26_11 == 2)) (by kernel_rfl) b34_0 ?_
                refine WK.skip (by kernel_rfl) ?_
                refine WKe.code (y := (cR (cR (cB (cL (cR (cB (cB (cR (cL (cR (cR (cR (cR (cR (cR (cR (cR bd7)))))))))))))))))) (ks' := [.blk 3, .seq (cR (cR (cB (cB (cR (cL (cR (cR (cR (cR (cR (cR (cR (cR bd7)))))))))))))), .lp (cB (cR (cL (cR (cR (cR (cR (cR (cR (cR (cR bd7)))))))))))]) (by kernel_rfl) ?_
                exact WK.weak (l := [(.t 3, [.data (.slc false none 4 (List.map TTxn.en l22_0))]), (.t 4, [.ptr 4 0]), (.t 6, [.data (.slc false none 1 (List.map e_i64 l22_1))]), (.t 9, [iv l22_2]), (.t 10, [iv x25_1.Session]), (.o 4, (TA10_int.ob l22_3))]) (wk_of (by kernel_rfl)) (Jk57 h)
          · rcases br_inv h with ⟨b26_10, h⟩ | ⟨b26_10, h⟩
            · rcases br_inv h with ⟨b26_11, h⟩ | ⟨b26_11, h⟩
              · refine WK.rs (g := [.c (e_i64 x26_1), .c (TTxn.en x26_4), .i 3, .b true, .b true, .b true, .b true, .b true, .b true]) (l' := [(.t 3, [.data (.slc false none 4 (List.map TTxn.en l22_0))]), (.t 4, [.ptr 4 0]), (.t 6, [.data (.slc false none 1 (List.map e_i64 l22_1))]), (.t 9, [iv l22_2]), (.t 10, [iv x25_1.Session]), (.t 72, [bv true]), (.o 4, (TA10_int.ob l22_3))]) (by kernel_rfl) (.cons (c_ix (e := e_i64) a26_2 e26_3) (.cons (c_el (e := e_i64) e26_3) (.cons (c_ix (e := TTxn.en) a26_5 e26_6) (.cons (c_el (e := TTxn.en) e26_6) (.cons (c_ib (j := 3) (n := 10) b26_10 (Eq.refl true)) (.cons (c_ii (j := 3) b26_10) (.cons b26_11 (.cons b26_11 (.cons b26_11 (.cons b26_11 (.cons b26_11 (.cons b26_11 (.cons (Eq.refl true) .nil))))))))))))) (by kernel_rfl) ?_
                refine WK.ct (b := true) (by kernel_rfl) rfl ?_
                refine WK.rs (g := []) (l' := [(.t 2, [bv false])]) (by kernel_rfl) .nil (by kernel_rfl) ?_
                refine WK.weak (l := [(.t 2, [bv false])]) (wk_of (by kernel_rfl)) ?_
                refine WK.ret (by kernel_rfl) ?_
                cases some_inj h
                exact WKe.fin (e' := .ret) (by kernel_rfl) ⟨rfl, rfl⟩
              · obtain ⟨x26_12, a26_13, e26_14, h⟩ := ix_inv h
                refine WK.rs (g := [.c (e_i64 x26_1), .c (TTxn.en x26_4), .i 3, .b false, .b false, .b false, .c (e_i64 x26_12), .b false, .b false, .b false]) (l' := [(.t 3, [.data (.slc false none 4 (List.map TTxn.en l22_0))]), (.t 4, [.ptr 4 0]), (.t 6, [.data (.slc false none 1 (List.map e_i64 l22_1))]), (.t 9, [iv l22_2]), (.t 10, [iv x25_1.Session]), (.t 72, [bv (x26_12 == 2)]), (.o 4, (TA10_int.ob l22_3))]) (by kernel_rfl) (.cons (c_ix (e := e_i64) a26_2 e26_3) (.cons (c_el (e := e_i64) e26_3) (.cons (c_ix (e := TTxn.en) a26_5 e26_6) (.cons (c_el (e := TTxn.en) e26_6) (.cons (c_ib (j := 3) (n := 10) b26_10 (Eq.refl true)) (.cons (c_ii (j := 3) b26_10) (.cons b26_11 (.cons b26_11 (.cons b26_11 (.cons (c_ix (e := e_i64) a26_13 e26_14) (.cons (c_el (e := e_i64) e26_14) (.cons b26_11 (.cons b26_11 (.cons b26_11 (.cons (Eq.refl true) .nil))))))))))))))) (by kernel_rfl) ?_
                rcases br_inv h with ⟨b37_0, h⟩ | ⟨b37_0, h⟩
                · refine WK.ct (b := (x26_12 == 2)) (by kernel_rfl) b37_0 ?_
                  refine WK.rs (g := []) (l' := [(.t 2, [bv false])]) (by kernel_rfl) .nil (by kernel_rfl) ?_
                  refine WK.weak (l := [(.t 2, [bv false])]) (wk_of (by kernel_rfl)) ?_
                  refine WK.ret (by kernel_rfl) ?_
                  cases some_inj h
                  exact WKe.fin (e' := .ret) (by kernel_rfl) ⟨rfl, rfl⟩
                · refine WK.ce (b := (x26_12 == 2)) (by kernel_rfl) b37_0 ?_
                  refine WK.skip (by kernel_rfl) ?_
                  refine WKe.code (y := (cR (cR (cB (cL (cR (cB (cB (cR (cL (cR (cR (cR (cR (cR (cR (cR (cR bd7)))))))))))))))))) (ks' := [.blk 3, .seq (cR (cR (cB (cB (cR (cL (cR (cR (cR (cR (cR (cR (cR (cR bd7)))))))))))))), .lp (cB (cR (cL (cR (cR (cR (cR (cR (cR (cR (cR bd7)))))))))))]) (by kernel_rfl) ?_
                  exact WK.weak (l := [(.t 3, [.data (.slc false none 4 (List.map TTxn.en l22_0))]), (.t 4, [.ptr 4 0]), (.t 6, [.data (.slc false none 1 (List.map e_i64 l22_1))]), (.t 9, [iv l22_2]), (.t 10, [iv x25_1.Session]), (.o 4, (TA10_int.ob l22_3))]) (wk_of (by kernel_rfl)) (Jk57 h)
            · rcases br_inv h with ⟨b26_11, h⟩ | ⟨b26_11, h⟩
              · rcases br_inv h with ⟨b26_12, h⟩ | ⟨b26_12, h⟩
                · refine WK.rs (g := [.c (e_i64 x26_1), .c (TTxn.en x26_4), .i 4, .b true, .b true, .b true, .b true, .b true, .b true]) (l' := [(.t 3, [.data (.slc false none 4 (List.map TTxn.en l22_0))]), (.t 4, [.ptr 4 0]), (.t 6, [.data (.slc false none 1 (List.map e_i64 l22_1))]), (.t 9, [iv l22_2]), (.t 10, [iv x25_1.Session]), (.t 72, [bv true]), (.o 4, (TA10_int.ob l22_3))]) (by kernel_rfl) (.cons (c_ix (e := e_i64) a26_2 e26_3) (.cons (c_el (e := e_i64) e26_3) (.cons (c_ix (e := TTxn.en) a26_5 e26_6) (.cons (c_el (e := TTxn.en) e26_6) (.cons (c_ib (j := 4) (n := 10) b26_11 (Eq.refl true)) (.cons (c_ii (j := 4) b26_11) (.cons b26_12 (.cons b26_12 (.cons b26_12 (.cons b26_12 (.cons b26_12 (.cons b26_12 (.cons (Eq.refl true) .nil))))))))))))) (by kernel_rfl) ?_
                  refine WK.ct (b := true) (by kernel_rfl) rfl ?_
                  refine WK.rs (g := []) (l' := [(.t 2, [bv false])]) (by kernel_rfl) .nil (by kernel_rfl) ?_
                  refine WK.weak (l := [(.t 2, [bv false])]) (wk_of (by kernel_rfl)) ?_
                  refine WK.ret (by kernel_rfl) ?_
                  cases some_inj h
                  exact WKe.fin (e' := .ret) (by kernel_rfl) ⟨rfl, rfl⟩
                · obtain ⟨x26_13, a26_14, e26_15, h⟩ := ix_inv h
                  refine WK.rs (g := [.c (e_i64 x26_1), .c (TTxn.en x26_4), .i 4, .b false, .b false, .b false, .c (e_i64 x26_13), .b false, .b false, .b false]) (l' := [(.t 3, [.data (.slc false none 4 (List.map TTxn.en l22_0))]), (.t 4, [.ptr 4 0]), (.t 6, [.data (.slc false none 1 (List.map e_i64 l22_1))]), (.t 9, [iv l22_2]), (.t 10, [iv x25_1.Session]), (.t 72, [bv (x26_13 == 2)]), (.o 4, (TA10_int.ob l22_3))]) (by kernel_rfl) (.cons (c_ix (e := e_i64) a26_2 e26_3) (.cons (c_el (e := e_i64) e26_3) (.cons (c_ix (e := TTxn.en) a26_5 e26_6) (.cons (c_el (e := TTxn.en) e26_6) (.cons (c_ib (j := 4) (n := 10) b26_11 (Eq.refl true)) (.cons (c_ii (j := 4) b26_11) (.cons b26_12 (.cons b26_12 (.cons b26_12 (.cons (c_ix (e := e_i64) a26_14 e26_15) (.cons (c_el (e := e_i64) e26_15) (.cons b26_12 (.cons b26_12 (.cons b26_12 (.cons (Eq.refl true) .nil))))))))))))))) (by kernel_rfl) ?_
                  rcases br_inv h with ⟨b40_0, h⟩ | ⟨b40_0, h⟩
                  · refine WK.ct (b := (x26_13 == 2)) (by kernel_rfl) b40_0 ?_
                    refine WK.rs (g := []) (l' := [(.t 2, [bv false])]) (by kernel_rfl) .nil (by kernel_rfl) ?_
                    refine WK.weak (l := [(.t 2, [bv false])]) (wk_of (by kernel_rfl)) ?_
                    refine WK.ret (by kernel_rfl) ?_
                    cases some_inj h
                    exact WKe.fin (e' := .ret) (by kernel_rfl) ⟨rfl, rfl⟩
                  · refine WK.ce (b := (x26_13 == 2)) (by kernel_rfl) b40_0 ?_
                    refine WK.skip (by kernel_rfl) ?_
                    refine WKe.code (y := (cR (cR (cB (cL (cR (cB (cB (cR (cL (cR (cR (cR (cR (cR (cR (cR (cR bd7)))))))))))))))))) (ks' := [.blk 3, .seq (cR (cR (cB (cB (cR (cL (cR (cR (cR (cR (cR (cR (cR (cR bd7)))))))))))))), .lp (cB (cR (cL (cR (cR (cR (cR (cR (cR (cR (cR bd7)))))))))))]) (by kernel_rfl) ?_
                    exact WK.weak (l := [(.t 3, [.data (.slc false none 4 (List.map TTxn.en l22_0))]), (.t 4, [.ptr 4 0]), (.t 6, [.data (.slc false none 1 (List.map e_i64 l22_1))]), (.t 9, [iv l22_2]), (.t 10, [iv x25_1.Session]), (.o 4, (TA10_int.ob l22_3))]) (wk_of (by kernel_rfl)) (Jk57 h)
              · rcases br_inv h with ⟨b26_12, h⟩ | ⟨b26_12, h⟩
                · rcases br_inv h with ⟨b26_13, h⟩ | ⟨b26_13, h⟩
                  · refine WK.rs (g := [.c (e_i64 x26_1), .c (TTxn.en x26_4), .i 5, .b true, .b true, .b true, .b true, .b true, .b true]) (l' := [(.t 3, [.data (.slc false none 4 (List.map TTxn.en l22_0))]), (.t 4, [.ptr 4 0]), (.t 6, [.data (.slc false none 1 (List.map e_i64 l22_1))]), (.t 9, [iv l22_2]), (.t 10, [iv x25_1.Session]), (.t 72, [bv true]), (.o 4, (TA10_int.ob l22_3))]) (by kernel_rfl) (.cons (c_ix (e := e_i64) a26_2 e26_3) (.cons (c_el (e := e_i64) e26_3) (.cons (c_ix (e := TTxn.en) a26_5 e26_6) (.cons (c_el (e := TTxn.en) e26_6) (.cons (c_ib (j := 5) (n := 10) b26_12 (Eq.refl true)) (.cons (c_ii (j := 5) b26_12) (.cons b26_13 (.cons b26_13 (.cons b26_13 (.cons b26_13 (.cons b26_13 (.cons b26_13 (.cons (Eq.refl true) .nil))))))))))))) (by kernel_rfl) ?_
                    refine WK.ct (b := true) (by kernel_rfl) rfl ?_
                    refine WK.rs (g := []) (l' := [(.t 2, [bv false])]) (by kernel_rfl) .nil (by kernel_rfl) ?_
                    refine WK.weak (l := [(.t 2, [bv false])]) (wk_of (by kernel_rfl)) ?_
                    refine WK.ret (by kernel_rfl) ?_
                    cases some_inj h
                    exact WKe.fin (e' := .ret) (by kernel_rfl) ⟨rfl, rfl⟩
                  · obtain ⟨x26_14, a26_15, e26_16, h⟩ := ix_inv h
                    refine WK.rs (g := [.c (e_i64 x26_1), .c (TTxn.en x26_4), .i 5, .b false, .b false, .b false, .c (e_i64 x26_14), .b false, .b false, .b false]) (l' := [(.t 3, [.data (.slc false none 4 (List.map TTxn.en l22_0))]), (.t 4, [.ptr 4 0]), (.t 6, [.data (.slc false none 1 (List.map e_i64 l22_1))]), (.t 9, [iv l22_2]), (.t 10, [iv x25_1.Session]), (.t 72, [bv (x26_14 == 2)]), (.o 4, (TA10_int.ob l22_3))]) (by kernel_rfl) (.cons (c_ix (e := e_i64) a26_2 e26_3) (.cons (c_el (e := e_i64) e26_3) (.cons (c_ix (e := TTxn.en) a26_5 e26_6) (.cons (c_el (e := TTxn.en) e26_6) (.cons (c_ib (j := 5) (n := 10) b26_12 (Eq.refl true)) (.cons (c_ii (j := 5) b26_12) (.cons b26_13 (.cons b26_13 (.cons b26_13 (.cons (c_ix (e := e_i64) a26_15 e26_16) (.cons (c_el (e := e_i64) e26_16) (.cons b26_13 (.cons b26_13 (.cons b26_13 (.cons (Eq.refl true) .nil))))))))))))))) (by kernel_rfl) ?_
                    rcases br_inv h with ⟨b43_0, h⟩ | ⟨b43_0, h⟩
                    · refine WK.ct (b := (x26_14 == 2)) (by kernel_rfl) b43_0 ?_
                      refine WK.rs (g := []) (l' := [(.t 2, [bv false])]) (by kernel_rfl) .nil (by kernel_rfl) ?_
                      refine WK.weak (l := [(.t 2, [bv false])]) (wk_of (by kernel_rfl)) ?_
                      refine WK.ret (by kernel_rfl) ?_
                      cases some_inj h
                      exact WKe.fin (e' := .ret) (by kernel_rfl) ⟨rfl, rfl⟩
                    · refine WK.ce (b := (x26_14 == 2)) (by kernel_rfl) b43_0 ?_
                      refine WK.skip (by kernel_rfl) ?_
                      refine WKe.code (y := (cR (cR (cB (cL (cR (cB (cB (cR (cL (cR (cR (cR (cR (cR (cR (cR (cR bd7)))))))))))))))))) (ks' := [.blk 3, .seq (cR (cR (cB (cB (cR (cL (cR (cR (cR (cR (cR (cR (cR (cR bd7)))))))))))))), .lp (cB (cR (cL (cR (cR (cR (cR (cR (cR (cR (cR bd7)))))))))))]) (by kernel_rfl) ?_
                      exact WK.weak (l := [(.t 3, [.data (.slc false none 4 (List.map TTxn.en l22_0))]), (.t 4, [.ptr 4 0]), (.t 6, [.data (.slc false none 1 (List.map e_i64 l22_1))]), (.t 9, [iv l22_2]), (.t 10, [iv x25_1.Session]), (.o 4, (TA10_int.ob l22_3))]) (wk_of (by kernel_rfl)) (Jk57 h)
                · rcases br_inv h with ⟨b26_13, h⟩ | ⟨b26_13, h⟩
                  · rcases br_inv h with ⟨b26_14, h⟩ | ⟨b26_14, h⟩
                    · refine WK.rs (g := [.c (e_i64 x26_1), .c (TTxn.en x26_4), .i 6, .b true, .b true, .b true, .b true, .b true, .b true]) (l' := [(.t 3, [.data (.slc false none 4 (List.map TTxn.en l22_0))]), (.t 4, [.ptr 4 0]), (.t 6, [.data (.slc false none 1 (List.map e_i64 l22_1))]), (.t 9, [iv l22_2]), (.t 10, [iv x25_1.Session]), (.t 72, [bv true]), (.o 4, (TA10_int.ob l22_3))]) (by kernel_rfl) (.cons (c_ix (e := e_i64) a26_2 e26_3) (.cons (c_el (e := e_i64) e26_3) (.cons (c_ix (e := TTxn.en) a26_5 e26_6) (.cons (c_el (e := TTxn.en) e26_6) (.cons (c_ib (j := 6) (n := 10) b26_13 (Eq.refl true)) (.cons (c_ii (j := 6) b26_13) (.cons b26_14 (.cons b26_14 (.cons b26_14 (.cons b26_14 (.cons b26_14 (.cons b26_14 (.cons (Eq.refl true) .nil))))))))))))) (by kernel_rfl) ?_
                      refine WK.ct (b := true) (by kernel_rfl) rfl ?_
                      refine WK.rs (g := []) (l' := [(.t 2, [bv false])]) (by kernel_rfl) .nil (by kernel_rfl) ?_
                      refine WK.weak (l := [(.t 2, [bv false])]) (wk_of (by kernel_rfl)) ?_
                      refine WK.ret (by kernel_rfl) ?_
                      cases some_inj h
                      exact WKe.fin (e' := .ret) (by kernel_rfl) ⟨rfl, rfl⟩
                    · obtain ⟨x26_15, a26_16, e26_17, h⟩ := ix_inv h
                      refine WK.rs (g := [.c (e_i64 x26_1), .c (TTxn.en x26_4), .i 6, .b false, .b false, .b false, .c (e_i64 x26_15), .b false, .b false, .b false]) (l' := [(.t 3, [.data (.slc false none 4 (List.map TTxn.en l22_0))]), (.t 4, [.ptr 4 0]), (.t 6, [.data (.slc false none 1 (List.map e_i64 l22_1))]), (.t 9, [iv l22_2]), (.t 10, [iv x25_1.Session]), (.t 72, [bv (x26_15 == 2)]), (.o 4, (TA10_int.ob l22_3))]) (by kernel_rfl) (.cons (c_ix (e := e_i64) a26_2 e26_3) (.cons (c_el (e := e_i64) e26_3) (.cons (c_ix (e := TTxn.en) a26_5 e26_6) (.cons (c_el (e := TTxn.en) e26_6) (.cons (c_ib (j := 6) (n := 10) b26_13 (Eq.refl true)) (.cons (c_ii (j := 6) b26_13) (.cons b26_14 (.cons b26_14 (.cons b26_14 (.cons (c_ix (e := e_i64) a26_16 e26_17) (.cons (c_el (e := e_i64) e26_17) (.cons b26_14 (.cons b26_14 (.cons b26_14 (.cons (Eq.refl true) .nil))))))))))))))) (by kernel_rfl) ?_
                      rcases br_inv h with ⟨b46_0, h⟩ | ⟨b46_0, h⟩
                      · refine WK.ct (b := (x26_15 == 2)) (by kernel_rfl) b46_0 ?_
                        refine WK.rs (g := []) (l' := [(.t 2, [bv false])]) (by kernel_rfl) .nil (by kernel_rfl) ?_
                        refine WK.weak (l := [(.t 2, [bv false])]) (wk_of (by kernel_rfl)) ?_
                        refine WK.ret (by kernel_rfl) ?_
                        cases some_inj h
                        exact WKe.fin (e' := .ret) (by kernel_rfl) ⟨rfl, rfl⟩
                      · refine WK.ce (b := (x26_15 == 2)) (by kernel_rfl) b46_0 ?_
                        refine WK.skip (by kernel_rfl) ?_
                        refine WKe.code (y := (cR (cR (cB (cL (cR (cB (cB (cR (cL (cR (cR (cR (cR (cR (cR (cR (cR bd7)))))))))))))))))) (ks' := [.blk 3, .seq (cR (cR (cB (cB (cR (cL (cR (cR (cR (cR (cR (cR (cR (cR bd7)))))))))))))), .lp (cB (cR (cL (cR (cR (cR (cR (cR (cR (cR (cR bd7)))))))))))]) (by kernel_rfl) ?_
                        exact WK.weak (l := [(.t 3, [.data (.slc false none 4 (List.map TTxn.en l22_0))]), (.t 4, [.ptr 4 0]), (.t 6, [.data (.slc false none 1 (List.map e_i64 l22_1))]), (.t 9, [iv l22_2]), (.t 10, [iv x25_1.Session]), (.o 4, (TA10_int.ob l22_3))]) (wk_of (by kernel_rfl)) (Jk57 h)
                  · rcases br_inv h with ⟨b26_14, h⟩ | ⟨b26_14, h⟩
                    · rcases br_inv h with ⟨b26_15, h⟩ | ⟨b26_15, h⟩
                      · refine WK.rs (g := [.c (e_i64 x26_1), .c (TTxn.en x26_4), .i 7, .b true, .b true, .b true, .b true, .b true, .b true]) (l' := [(.t 3, [.data (.slc false none 4 (List.map TTxn.en l22_0))]), (.t 4, [.ptr 4 0]), (.t 6, [.data (.slc false none 1 (List.map e_i64 l22_1))]), (.t 9, [iv l22_2]), (.t 10, [iv x25_1.Session]), (.t 72, [bv true]), (.o 4, (TA10_int.ob l22_3))]) (by kernel_rfl) (.cons (c_ix (e := e_i64) a26_2 e26_3) (.cons (c_el (e := e_i64) e26_3) (.cons (c_ix (e := TTxn.en) a26_5 e26_6) (.cons (c_el (e := TTxn.en) e26_6) (.cons (c_ib (j := 7) (n := 10) b26_14 (Eq.refl true)) (.cons (c_ii (j := 7) b26_14) (.cons b26_15 (.cons b26_15 (.cons b26_15 (.cons b26_15 (.cons b26_15 (.cons b26_15 (.cons (Eq.refl true) .nil))))))))))))) (by kernel_rfl) ?_
                        refine WK.ct (b := true) (by kernel_rfl) rfl ?_
                        refine WK.rs (g := []) (l' := [(.t 2, [bv false])]) (by kernel_rfl) .nil (by kernel_rfl) ?_
                        refine WK.weak (l := [(.t 2, [bv false])]) (wk_of (by kernel_rfl)) ?_
                        refine WK.ret (by kernel_rfl) ?_
                        cases some_inj h
                        exact WKe.fin (e' := .ret) (by kernel_rfl) ⟨rfl, rfl⟩
                      · obtain ⟨x26_16, a26_17, e26_18, h⟩ := ix_inv h
                        refine WK.rs (g := [.c (e_i64 x26_1), .c (TTxn.en x26_4), .i 7, .b false, .b false, .b false, .c (e_i64 x26_16), .b false, .b false, .b false]) (l' := [(.t 3, [.data (.slc false none 4 (List.map TTxn.en l22_0))]), (.t 4, [.ptr 4 0]), (.t 6, [.data (.slc false none 1 (List.map e_i64 l22_1))]), (.t 9, [iv l22_2]), (.t 10, [iv x25_1.Session]), (.t 72, [bv (x26_16 == 2)]), (.o 4, (TA10_int.ob l22_3))]) (by kernel_rfl) (.cons (c_ix (e := e_i64) a26_2 e26_3) (.cons (c_el (e := e_i64) e26_3) (.cons (c_ix (e := TTxn.en) a26_5 e26_6) (.cons (c_el (e := TTxn.en) e26_6) (.cons (c_ib (j := 7) (n := 10) b26_14 (Eq.refl true)) (.cons (c_ii (j := 7) b26_14) (.cons b26_15 (.cons b26_15 (.cons b26_15 (.cons (c_ix (e := e_i64) a26_17 e26_18) (.cons (c_el (e := e_i64) e26_18) (.cons b26_15 (.cons b26_15 (.cons b26_15 (.cons (Eq.refl true) .nil))))))))))))))) (by kernel_rfl) ?_
                        rcases br_inv h with ⟨b49_0, h⟩ | ⟨b49_0, h⟩
                        · refine WK.ct (b := (x26_16 == 2)) (by kernel_rfl) b49_0 ?_
                          refine WK.rs (g := []) (l' := [(.t 2, [bv false])]) (by kernel_rfl) .nil (by kernel_rfl) ?_
                          refine WK.weak (l := [(.t 2, [bv false])]) (wk_of (by kernel_rfl)) ?_
                          refine WK.ret (by kernel_rfl) ?_
                          cases some_inj h
                          exact WKe.fin (e' := .ret) (by kernel_rfl) ⟨rfl, rfl⟩
                        · refine WK.ce (b := (x26_16 == 2)) (by kernel_rfl) b49_0 ?_
                          refine WK.skip (by kernel_rfl) ?_
                          refine WKe.code (y := (cR (cR (cB (cL (cR (cB (cB (cR (cL (cR (cR (cR (cR (cR (cR (cR (cR bd7)))))))))))))))))) (ks' := [.blk 3, .seq (cR (cR (cB (cB (cR (cL (cR (cR (cR (cR (cR (cR (cR (cR bd7)))))))))))))), .lp (cB (cR (cL (cR (cR (cR (cR (cR (cR (cR (cR bd7)))))))))))]) (by kernel_rfl) ?_
                          exact WK.weak (l := [(.t 3, [.data (.slc false none 4 (List.map TTxn.en l22_0))]), (.t 4, [.ptr 4 0]), (.t 6, [.data (.slc false none 1 (List.map e_i64 l22_1))]), (.t 9, [iv l22_2]), (.t 10, [iv x25_1.Session]), (.o 4, (TA10_int.ob l22_3))]) (wk_of (by kernel_rfl)) (Jk57 h)
                    · rcases br_inv h with ⟨b26_15, h⟩ | ⟨b26_15, h⟩
                      · rcases br_inv h with ⟨b26_16, h⟩ | ⟨b26_16, h⟩
                        · refine WK.rs (g := [.c (e_i64 x26_1), .c (TTxn.en x26_4), .i 8, .b true, .b true, .b true, .b true, .b true, .b true]) (l' := [(.t 3, [.data (.slc false none 4 (List.map TTxn.en l22_0))]), (.t 4, [.ptr 4 0]), (.t 6, [.data (.slc false none 1 (List.map e_i64 l22_1))]), (.t 9, [iv l22_2]), (.t 10, [iv x25_1.Session]), (.t 72, [bv true]), (.o 4, (TA10_int.ob l22_3))]) (by kernel_rfl) (.cons (c_ix (e := e_i64) a26_2 e26_3) (.cons (c_el (e := e_i64) e26_3) (.cons (c_ix (e := TTxn.en) a26_5 e26_6) (.cons (c_el (e := TTxn.en) e26_6) (.cons (c_ib (j := 8) (n := 10) b26_15 (Eq.refl true)) (.cons (c_ii (j := 8) b26_15) (.cons b26_16 (.cons b26_16 (.cons b26_16 (.cons b26_16 (.cons b26_16 (.cons b26_16 (.cons (Eq.refl true) .nil))))))))))))) (by kernel_rfl) ?_
                          refine WK.ct (b := true) (by kernel_rfl) rfl ?_
                          refine WK.rs (g := []) (l' := [(.t 2, [bv false])]) (by kernel_rfl) .nil (by kernel_rfl) ?_
                          refine WK.weak (l := [(.t 2, [bv false])]) (wk_of (by kernel_rfl)) ?_
                          refine WK.ret (by kernel_rfl) ?_
                          cases some_inj h
                          exact WKe.fin (e' := .ret) (by kernel_rfl) ⟨rfl, rfl⟩
                        · obtain ⟨x26_17, a26_18, e26_19, h⟩ := ix_inv h
                          refine WK.rs (g := [.c (e_i64 x26_1), .c (TTxn.en x26_4), .i 8, .b false, .b false, .b false, .c (e_i64 x26_17), .b false, .b false, .b false]) (l' := [(.t 3, [.data (.slc false none 4 (List.map TTxn.en l22_0))]), (.t 4, [.ptr 4 0]), (.t 6, [.data (.slc false none 1 (List.map e_i64 l22_1))]), (.t 9, [iv l22_2]), (.t 10, [iv x25_1.Session]), (.t 72, [bv (x26_17 == 2)]), (.o 4, (TA10_int.ob l22_3))]) (by kernel_rfl) (.cons (c_ix (e := e_i64) a26_2 e26_3) (.cons (c_el (e := e_i64) e26_3) (.cons (c_ix (e := TTxn.en) a26_5 e26_6) (.cons (c_el (e := TTxn.en) e26_6) (.cons (c_ib (j := 8) (n := 10) b26_15 (Eq.refl true)) (.cons (c_ii (j := 8) b26_15) (.cons b26_16 (.cons b26_16 (.cons b26_16 (.cons (c_ix (e := e_i64) a26_18 e26_19) (.cons (c_el (e := e_i64) e26_19) (.cons b26_16 (.cons b26_16 (.cons b26_16 (.cons (Eq.refl true) .nil))))))))))))))) (by kernel_rfl) ?_
                          rcases br_inv h with ⟨b52_0, h⟩ | ⟨b52_0, h⟩
                          · refine WK.ct (b := (x26_17 == 2)) (by kernel_rfl) b52_0 ?_
                            refine WK.rs (g := []) (l' := [(.t 2, [bv false])]) (by kernel_rfl) .nil (by kernel_rfl) ?_
                            refine WK.weak (l := [(.t 2, [bv false])]) (wk_of (by kernel_rfl)) ?_
                            refine WK.ret (by kernel_rfl) ?_
                            cases some_inj h
                            exact WKe.fin (e' := .ret) (by kernel_rfl) ⟨rfl, rfl⟩
                          · refine WK.ce (b := (x26_17 == 2)) (by kernel_rfl) b52_0 ?_
                            refine WK.skip (by kernel_rfl) ?_
                            refine WKe.code (y := (cR (cR (cB (cL (cR (cB (cB (cR (cL (cR (cR (cR (cR (cR (cR (cR (cR bd7)))))))))))))))))) (ks' := [.blk 3, .seq (cR (cR (cB (cB (cR (cL (cR (cR (cR (cR (cR (cR (cR (cR bd7)))))))))))))), .lp (cB (cR (cL (cR (cR (cR (cR (cR (cR (cR (cR bd7)))))))))))]) (by kernel_rfl) ?_
                            exact WK.weak (l := [(.t 3, [.data (.slc false none 4 (List.map TTxn.en l22_0))]), (.t 4, [.ptr 4 0]), (.t 6, [.data (.slc false none 1 (List.map e_i64 l22_1))]), (.t 9, [iv l22_2]), (.t 10, [iv x25_1.Session]), (.o 4, (TA10_int.ob l22_3))]) (wk_of (by kernel_rfl)) (Jk57 h)
                      · rcases br_inv h with ⟨b26_16, h⟩ | ⟨b26_16, h⟩
                        · rcases br_inv h with ⟨b26_17, h⟩ | ⟨b26_17, h⟩
                          · refine WK.rs (g := [.c (e_i64 x26_1), .c (TTxn.en x26_4), .i 9, .b true, .b true, .b true, .b true, .b true, .b true]) (l' := [(.t 3, [.data (.slc false none 4 (List.map TTxn.en l22_0))]), (.t 4, [.ptr 4 0]), (.t 6, [.data (.slc false none 1 (List.map e_i64 l22_1))]), (.t 9, [iv l22_2]), (.t 10, [iv x25_1.Session]), (.t 72, [bv true]), (.o 4, (TA10_int.ob l22_3))]) (by kernel_rfl) (.cons (c_ix (e := e_i64) a26_2 e26_3) (.cons (c_el (e := e_i64) e26_3) (.cons (c_ix (e := TTxn.en) a26_5 e26_6) (.cons (c_el (e := TTxn.en) e26_6) (.cons (c_ib (j := 9) (n := 10) b26_16 (Eq.refl true)) (.cons (c_ii (j := 9) b26_16) (.cons b26_17 (.cons b26_17 (.cons b26_17 (.cons b26_17 (.cons b26_17 (.cons b26_17 (.cons (Eq.refl true) .nil))))))))))))) (by kernel_rfl) ?_
                            refine WK.ct (b := true) (by kernel_rfl) rfl ?_
                            refine WK.rs (g := []) (l' := [(.t 2, [bv false])]) (by kernel_rfl) .nil (by kernel_rfl) ?_
                            refine WK.weak (l := [(.t 2, [bv false])]) (wk_of (by kernel_rfl)) ?_
                            refine WK.ret (by kernel_rfl) ?_
                            cases some_inj h
                            exact WKe.fin (e' := .ret) (by kernel_rfl) ⟨rfl, rfl⟩
                          · obtain ⟨x26_18, a26_19, e26_20, h⟩ := ix_inv h
                            refine WK.rs (g := [.c (e_i64 x26_1), .c (TTxn.en x26_4), .i 9, .b false, .b false, .b false, .c (e_i64 x26_18), .b false, .b false, .b false]) (l' := [(.t 3, [.data (.slc false none 4 (List.map TTxn.en l22_0))]), (.t 4, [.ptr 4 0]), (.t 6, [.data (.slc false none 1 (List.map e_i64 l22_1))]), (.t 9, [iv l22_2]), (.t 10, [iv x25_1.Session]), (.t 72, [bv (x26_18 == 2)]), (.o 4, (TA10_int.ob l22_3))]) (by kernel_rfl) (.cons (c_ix (e := e_i64) a26_2 e26_3) (.cons (c_el (e := e_i64) e26_3) (.cons (c_ix (e := TTxn.en) a26_5 e26_6) (.cons (c_el (e := TTxn.en) e26_6) (.cons (c_ib (j := 9) (n := 10) b26_16 (Eq.refl true)) (.cons (c_ii (j := 9) b26_16) (.cons b26_17 (.cons b26_17 (.cons b26_17 (.cons (c_ix (e := e_i64) a26_19 e26_20) (.cons (c_el (e := e_i64) e26_20) (.cons b26_17 (.cons b26_17 (.cons b26_17 (.cons (Eq.refl true) .nil))))))))))))))) (by kernel_rfl) ?_
                            rcases br_inv h with ⟨b55_0, h⟩ | ⟨b55_0, h⟩
                            · refine WK.ct (b := (x26_18 == 2)) (by kernel_rfl) b55_0 ?_
                              refine WK.rs (g := []) (l' := [(.t 2, [bv false])]) (by kernel_rfl) .nil (by kernel_rfl) ?_
                              refine WK.weak (l := [(.t 2, [bv false])]) (wk_of (by kernel_rfl)) ?_
                              refine WK.ret (by kernel_rfl) ?_
                              cases some_inj h
                              exact WKe.fin (e' := .ret) (by kernel_rfl) ⟨rfl, rfl⟩
                            · refine WK.ce (b := (x26_18 == 2)) (by kernel_rfl) b55_0 ?_
                              refine WK.skip (by kernel_rfl) ?_
                              refine WKe.code (y := (cR (cR (cB (cL (cR (cB (cB (cR (cL (cR (cR (cR (cR (cR (cR (cR (cR bd7)))))))))))))))))) (ks' := [.blk 3, .seq (cR (cR (cB (cB (cR (cL (cR (cR (cR (cR (cR (cR (cR (cR bd7)))))))))))))), .lp (cB (cR (cL (cR (cR (cR (cR (cR (cR (cR (cR bd7)))))))))))]) (by kernel_rfl) ?_
                              exact WK.weak (l := [(.t 3, [.data (.slc false none 4 (List.map TTxn.en l22_0))]), (.t 4, [.ptr 4 0]), (.t 6, [.data (.slc false none 1 (List.map e_i64 l22_1))]), (.t 9, [iv l22_2]), (.t 10, [iv x25_1.Session]), (.o 4, (TA10_int.ob l22_3))]) (wk_of (by kernel_rfl)) (Jk57 h)
                        · exact no_none h
    · refine WK.ce (b := (decide (l22_2 < (l22_0.length : Int)))) (by kernel_rfl) b24_0 ?_
      refine WK.weak (l := []) (wk_of (by kernel_rfl)) ?_
      refine WK.exit (n := 2) (by kernel_rfl) ?_
      cases some_inj h
      exact WKe.fin (e' := .exit 2) (by kernel_rfl) ⟨rfl, rfl⟩
noncomputable def diwanlaw18_JudgeBlind (fu : Nat) (picks : List Int) : Option Bool :=
  bd (diwanlaw18_begun fu) fun r2_1 =>
  br (!r2_1)
    (some false)
    (br (decide ((picks.length : Int) > 250))
      (some true)
      (bd (diwanplay_Made picks) fun r8_1 =>
      bd (diwanplay_Picks_Txns fu 20 r8_1) fun (r8_3, r8_4) =>
      bd (diwanlaw18_JudgeBlind.lp11 fu (TA10_int.mk 0 0 0 0 0 0 0 0 0 0) fu r8_3 0) fun y16_0 =>
      bd (judge_Fold fu y16_0) fun (r17_1, r17_2, r17_3) =>
      br ((r17_1.length : Int) != (y16_0.length : Int))
        (some false)
        (bd (diwanlaw18_JudgeBlind.lp22 fu y16_0 r17_1 fu 0 (TA10_int.mk 0 0 0 0 0 0 0 0 0 0)) fun o_ => (match o_ with
        | .inl _ =>
          some true
        | .inr _ =>
          some false))))
theorem diwanlaw18_JudgeBlind.meets (fu : Nat) (picks : List Int) (z0 : Bool) (h : diwanlaw18_JudgeBlind fu picks = some z0) : Meets Try.prog ⟨7, [.data (.slc false none 1 (List.map e_u8 picks))], []⟩ ⟨bv z0, []⟩ := by
  refine meets_of (O := diwanlaw18_JudgeBlind.O) hmix (fn := Try.f7) (code := bd7) (by kernel_rfl) ?_
  refine WK.weak (l := [(.t 0, [.data (.slc false none 1 (List.map e_u8 picks))])]) (wk_of (by kernel_rfl)) ?_
  unfold diwanlaw18_JudgeBlind at h
  refine WK.rs (g := []) (l' := [(.t 0, [.data (.slc false none 1 (List.map e_u8 picks))])]) (by kernel_rfl) .nil (by kernel_rfl) ?_
  refine WK.seq (by kernel_rfl) ?_
  obtain ⟨r2_1, h2_2, h⟩ := bd_inv h
  refine WK.rs (g := [.a ⟨bv r2_1, []⟩]) (l' := [(.t 0, [.data (.slc false none 1 (List.map e_u8 picks))]), (.t 12, [bv (!r2_1)])]) (by kernel_rfl) (.cons (Asks.of (C := Meets Try.prog) (diwanlaw18_begun.meets fu _ h2_2)) .nil) (by kernel_rfl) ?_
  rcases br_inv h with ⟨b3_0, h⟩ | ⟨b3_0, h⟩
  · refine WK.ct (b := (!r2_1)) (by kernel_rfl) b3_0 ?_
    refine WK.rs (g := []) (l' := [(.t 2, [bv false])]) (by kernel_rfl) .nil (by kernel_rfl) ?_
    refine WK.weak (l := [(.t 2, [bv false])]) (wk_of (by kernel_rfl)) ?_
    refine WK.ret (by kernel_rfl) ?_
    have h_ := some_inj h
    subst h_
    exact WKe.fin (e' := .ret) (by kernel_rfl) (fin_of (g := []) (by first | exact .inl rfl | exact .inr rfl) .nil (by kernel_rfl))
  · refine WK.ce (b := (!r2_1)) (by kernel_rfl) b3_0 ?_
    refine WK.skip (by kernel_rfl) ?_
    refine WKe.code (y := (cR (cR bd7))) (ks' := []) (by kernel_rfl) ?_
    refine WK.seq (by kernel_rfl) ?_
    refine WK.rs (g := [.s (.t 14) [iv (picks.length : Int)]]) (l' := [(.t 0, [.data (.slc false none 1 (List.map e_u8 picks))]), (.t 15, [bv (decide ((picks.length : Int) > 250))])]) (by kernel_rfl) (.cons (c_len (e := e_u8) (l := picks)) .nil) (by kernel_rfl) ?_
    rcases br_inv h with ⟨b6_0, h⟩ | ⟨b6_0, h⟩
    · refine WK.ct (b := (decide ((picks.length : Int) > 250))) (by kernel_rfl) b6_0 ?_
      refine WK.rs (g := []) (l' := [(.t 2, [bv true])]) (by kernel_rfl) .nil (by kernel_rfl) ?_
      refine WK.weak (l := [(.t 2, [bv true])]) (wk_of (by kernel_rfl)) ?_
      refine WK.ret (by kernel_rfl) ?_
      have h_ := some_inj h
      subst h_
      exact WKe.fin (e' := .ret) (by kernel_rfl) (fin_of (g := []) (by first | exact .inl rfl | exact .inr rfl) .nil (by kernel_rfl))
    · refine WK.ce (b := (decide ((picks.length : Int) > 250))) (by kernel_rfl) b6_0 ?_
      refine WK.skip (by kernel_rfl) ?_
      refine WKe.code (y := (cR (cR (cR bd7)))) (ks' := []) (by kernel_rfl) ?_
      obtain ⟨r8_1, h8_2, h⟩ := bd_inv h
      obtain ⟨⟨r8_3, r8_4⟩, h8_5, h⟩ := bd_inv h
      refine WK.rs (g := [.a ⟨.ptr 1000 0, [[.data (.slc false none 1 (List.map e_u8 r8_1.l)), iv r8_1.n]]⟩, .a ⟨.data (.slc true none 4 (List.map TTxn.en r8_3)), [[.data (.slc false none 1 (List.map e_u8 r8_4.l)), iv r8_4.n]]⟩]) (l' := [(.t 3, [.data (.slc true none 4 (List.map TTxn.en r8_3))])]) (by kernel_rfl) (.cons (Asks.of (C := Meets Try.prog) (diwanplay_Made.meets picks _ h8_2)) (.cons (Asks.of (C := Meets Try.prog) (diwanplay_Picks_Txns.meets fu 20 r8_1 _ _ h8_5)) .nil)) (by kernel_rfl) ?_
      refine WK.rs (g := []) (l' := [(.t 3, [.data (.slc true none 4 (List.map TTxn.en r8_3))]), (.t 4, [.ptr 4 0]), (.o 4, (TA10_int.ob (TA10_int.mk 0 0 0 0 0 0 0 0 0 0)))]) (by kernel_rfl) .nil (by kernel_rfl) ?_
      refine WK.seq (by kernel_rfl) ?_
      refine WK.rs (g := []) (l' := [(.t 3, [.data (.slc true none 4 (List.map TTxn.en r8_3))]), (.t 4, [.ptr 4 0]), (.t 5, [iv 0]), (.o 4, (TA10_int.ob (TA10_int.mk 0 0 0 0 0 0 0 0 0 0)))]) (by kernel_rfl) .nil (by kernel_rfl) ?_
      refine WK.block (n := 0) (by kernel_rfl) ?_
      obtain ⟨o16, ho16, h⟩ := bd_inv h
      refine WK.weak (l := [(.t 3, [.data (.slc true none 4 (List.map TTxn.en r8_3))]), (.t 4, [.ptr 4 0]), (.t 5, [iv 0]), (.o 4, (TA10_int.ob (TA10_int.mk 0 0 0 0 0 0 0 0 0 0)))]) (wk_of (by kernel_rfl)) ?_
      refine WK.use (diwanlaw18_JudgeBlind.lp11_ok fu (TA10_int.mk 0 0 0 0 0 0 0 0 0 0) _ r8_3 0 _ ho16) ?_
      intro e_ τ_ hp_
      obtain ⟨y16_0, rfl⟩ : ∃ y, y = o16 := ⟨_, rfl⟩
      obtain ⟨rfl, rfl⟩ := hp_
      refine WKe.code (y := (cR (cR (cR (cR (cR (cR bd7))))))) (ks' := []) (by kernel_rfl) ?_
      obtain ⟨⟨r17_1, r17_2, r17_3⟩, h17_4, h⟩ := bd_inv h
      refine WK.rs (g := [.a ⟨.tup [.data (.slc false none 1 (List.map e_i64 r17_1)), .data (.agg [.slc false none 2 (List.map TChain.en r17_2.Chains), .val (.int .i64 r17_2.Mark)]), .data (.slc false none 3 (List.map TSeat.en r17_3))], []⟩]) (l' := [(.t 3, [.data (.slc false none 4 (List.map TTxn.en y16_0))]), (.t 4, [.ptr 4 0]), (.t 6, [.data (.slc false none 1 (List.map e_i64 r17_1))]), (.o 4, (TA10_int.ob (TA10_int.mk 0 0 0 0 0 0 0 0 0 0)))]) (by kernel_rfl) (.cons (Asks.of (C := Meets Try.prog) (judge_Fold.meets fu y16_0 _ _ _ h17_4)) .nil) (by kernel_rfl) ?_
      refine WK.seq (by kernel_rfl) ?_
      refine WK.rs (g := [.s (.t 36) [iv (r17_1.length : Int)], .s (.t 38) [iv (y16_0.length : Int)]]) (l' := [(.t 3, [.data (.slc false none 4 (List.map TTxn.en y16_0))]), (.t 4, [.ptr 4 0]), (.t 6, [.data (.slc false none 1 (List.map e_i64 r17_1))]), (.t 39, [bv ((r17_1.length : Int) != (y16_0.length : Int))]), (.o 4, (TA10_int.ob (TA10_int.mk 0 0 0 0 0 0 0 0 0 0)))]) (by kernel_rfl) (.cons (c_len (e := e_i64) (l := r17_1)) (.cons (c_len (e := TTxn.en) (l := y16_0)) .nil)) (by kernel_rfl) ?_
      rcases br_inv h with ⟨b19_0, h⟩ | ⟨b19_0, h⟩
      · refine WK.ct (b := ((r17_1.length : Int) != (y16_0.length : Int))) (by kernel_rfl) b19_0 ?_
        refine WK.rs (g := []) (l' := [(.t 2, [bv false])]) (by kernel_rfl) .nil (by kernel_rfl) ?_
        refine WK.weak (l := [(.t 2, [bv false])]) (wk_of (by kernel_rfl)) ?_
        refine WK.ret (by kernel_rfl) ?_
        have h_ := some_inj h
        subst h_
        exact WKe.fin (e' := .ret) (by kernel_rfl) (fin_of (g := []) (by first | exact .inl rfl | exact .inr rfl) .nil (by kernel_rfl))
      · refine WK.ce (b := ((r17_1.length : Int) != (y16_0.length : Int))) (by kernel_rfl) b19_0 ?_
        refine WK.skip (by kernel_rfl) ?_
        refine WKe.code (y := (cR (cR (cR (cR (cR (cR (cR (cR bd7))))))))) (ks' := []) (by kernel_rfl) ?_
        refine WK.seq (by kernel_rfl) ?_
        refine WK.rs (g := []) (l' := [(.t 3, [.data (.slc false none 4 (List.map TTxn.en y16_0))]), (.t 4, [.ptr 4 0]), (.t 6, [.data (.slc false none 1 (List.map e_i64 r17_1))]), (.t 9, [iv 0]), (.o 4, (TA10_int.ob (TA10_int.mk 0 0 0 0 0 0 0 0 0 0)))]) (by kernel_rfl) .nil (by kernel_rfl) ?_
        refine WK.block (n := 2) (by kernel_rfl) ?_
        obtain ⟨o69, ho69, h⟩ := bd_inv h
        refine WK.weak (l := [(.t 3, [.data (.slc false none 4 (List.map TTxn.en y16_0))]), (.t 4, [.ptr 4 0]), (.t 6, [.data (.slc false none 1 (List.map e_i64 r17_1))]), (.t 9, [iv 0]), (.o 4, (TA10_int.ob (TA10_int.mk 0 0 0 0 0 0 0 0 0 0)))]) (wk_of (by kernel_rfl)) ?_
        refine WK.use (diwanlaw18_JudgeBlind.lp22_ok fu y16_0 r17_1 _ 0 (TA10_int.mk 0 0 0 0 0 0 0 0 0 0) _ ho69) ?_
        intro e_ τ_ hp_
        rcases o69 with o69 | o69
        · obtain ⟨⟩ := o69
          obtain ⟨rfl, rfl⟩ := hp_
          refine WKe.code (y := (cR (cR (cR (cR (cR (cR (cR (cR (cR bd7)))))))))) (ks' := []) (by kernel_rfl) ?_
          refine WK.rs (g := []) (l' := [(.t 2, [bv true])]) (by kernel_rfl) .nil (by kernel_rfl) ?_
          refine WK.weak (l := [(.t 2, [bv true])]) (wk_of (by kernel_rfl)) ?_
          refine WK.ret (by kernel_rfl) ?_
          have h_ := some_inj h
          subst h_
          exact WKe.fin (e' := .ret) (by kernel_rfl) (fin_of (g := []) (by first | exact .inl rfl | exact .inr rfl) .nil (by kernel_rfl))
        · obtain ⟨⟩ := o69
          obtain ⟨rfl, rfl⟩ := hp_
          have h_ := some_inj h
          subst h_
          exact WKe.fin (e' := .ret) (by kernel_rfl) (fin_of (g := []) (by first | exact .inl rfl | exact .inr rfl) .nil (by kernel_rfl))
/-- diwan/diwanref13.Turn -/
noncomputable def bd22 : Code := (Try.f22.body).getD .skip
def diwanref13_Turn.O : Nat → Nat := fun t => bif ([8, 9, 10, 11, 12, 56, 59, 67, 68, 72] : List Nat).any (Nat.beq t) then 1 else 0
noncomputable def diwanref13_Turn.lp4 (fu : Nat) (l4_0 : Int) (l4_1 : Int) (l4_2 : Int) (l4_3 : List TSeat) : Nat → Int → Option Int
  | 0, _ => none
  | n_ + 1, l4_4 =>
    br (decide (l4_4 < (l4_3.length : Int)))
      (ix l4_3 l4_4 fun x5_2 =>
      br (decide (x5_2.Session < l4_0))
        (diwanref13_Turn.lp4 fu l4_0 l4_1 l4_2 l4_3 n_ (w64 (l4_4 + 1)))
        (some l4_4))
      (some l4_4)
noncomputable def diwanref13_Turn.lp4_post (l4_0 : Int) (l4_1 : Int) (l4_2 : Int) (l4_3 : List TSeat) (r_ : Int) : Wy → St → Prop := fun e τ => match r_ with
  | y0 => e = .exit 0 ∧ τ = ofL [(.t 1, [iv l4_0]), (.t 2, [iv l4_1]), (.t 3, [iv l4_2]), (.t 10, [.data (.slc true none 3 (List.map TSeat.en l4_3))]), (.t 11, [iv y0])]
theorem diwanref13_Turn.lp4_ok (fu : Nat) (l4_0 : Int) (l4_1 : Int) (l4_2 : Int) (l4_3 : List TSeat) : ∀ (n_ : Nat) (l4_4 : Int) (r_ : Int), diwanref13_Turn.lp4 fu l4_0 l4_1 l4_2 l4_3 n_ l4_4 = some r_ → WK Try.prog diwanref13_Turn.O (Ck Try.prog) (cB (cL (cR (cR (cR bd22))))) [] (ofL [(.t 1, [iv l4_0]), (.t 2, [iv l4_1]), (.t 3, [iv l4_2]), (.t 10, [.data (.slc true none 3 (List.map TSeat.en l4_3))]), (.t 11, [iv l4_4])]) (diwanref13_Turn.lp4_post l4_0 l4_1 l4_2 l4_3 r_) := by
  intro n_
  induction n_ with
  | zero => intro l4_4 r_ h; exact no_none h
  | succ n_ ih =>
    intro l4_4 r_ h
    refine WK.loop (by kernel_rfl) ?_
    refine WK.seq (by kernel_rfl) ?_
    rcases br_inv h with ⟨b5_1, h⟩ | ⟨b5_1, h⟩
    · obtain ⟨x5_2, a5_3, e5_4, h⟩ := ix_inv h
      refine WK.rs (g := [.s (.t 17) [iv (l4_3.length : Int)], .b true, .b true, .b true, .b true, .b true, .c (TSeat.en x5_2), .b true, .b true, .b true]) (l' := [(.t 1, [iv l4_0]), (.t 2, [iv l4_1]), (.t 3, [iv l4_2]), (.t 10, [.data (.slc true none 3 (List.map TSeat.en l4_3))]), (.t 11, [iv l4_4]), (.t 27, [bv (decide (x5_2.Session < l4_0))])]) (by kernel_rfl) (.cons (c_len (e := TSeat.en) (l := l4_3)) (.cons b5_1 (.cons b5_1 (.cons b5_1 (.cons (c_ix (e := TSeat.en) a5_3 e5_4) (.cons b5_1 (.cons b5_1 (.cons (c_el (e := TSeat.en) e5_4) (.cons b5_1 (.cons b5_1 (.cons b5_1 .nil))))))))))) (by kernel_rfl) ?_
      rcases br_inv h with ⟨b6_0, h⟩ | ⟨b6_0, h⟩
      · refine WK.ct (b := (decide (x5_2.Session < l4_0))) (by kernel_rfl) b6_0 ?_
        refine WK.skip (by kernel_rfl) ?_
        refine WKe.code (y := (cR (cB (cB (cL (cR (cR (cR bd22)))))))) (ks' := [.lp (cB (cL (cR (cR (cR bd22)))))]) (by kernel_rfl) ?_
        refine WK.block (n := 1) (by kernel_rfl) ?_
        refine WK.rc (g := []) (l' := [(.t 1, [iv l4_0]), (.t 2, [iv l4_1]), (.t 3, [iv l4_2]), (.t 10, [.data (.slc true none 3 (List.map TSeat.en l4_3))]), (.t 11, [iv (w64 (l4_4 + 1))])]) .nil (by kernel_rfl) (y := (cB (cL (cR (cR (cR bd22)))))) (ks' := []) (by kernel_rfl) ?_
        exact WK.weak (l := [(.t 1, [iv l4_0]), (.t 2, [iv l4_1]), (.t 3, [iv l4_2]), (.t 10, [.data (.slc true none 3 (List.map TSeat.en l4_3))]), (.t 11, [iv (w64 (l4_4 + 1))])]) (wk_of (by kernel_rfl)) (ih (w64 (l4_4 + 1)) _ h)
      · refine WK.ce (b := (decide (x5_2.Session < l4_0))) (by kernel_rfl) b6_0 ?_
        refine WK.weak (l := [(.t 1, [iv l4_0]), (.t 2, [iv l4_1]), (.t 3, [iv l4_2]), (.t 10, [.data (.slc true none 3 (List.map TSeat.en l4_3))]), (.t 11, [iv l4_4])]) (wk_of (by kernel_rfl)) ?_
        refine WK.exit (n := 0) (by kernel_rfl) ?_
        cases some_inj h
        exact WKe.fin (e' := .exit 0) (by kernel_rfl) ⟨rfl, rfl⟩
    · refine WK.rs (g := [.s (.t 17) [iv (l4_3.length : Int)], .b false, .b false, .b false, .b false, .b false, .b false, .b false, .b false]) (l' := [(.t 1, [iv l4_0]), (.t 2, [iv l4_1]), (.t 3, [iv l4_2]), (.t 10, [.data (.slc true none 3 (List.map TSeat.en l4_3))]), (.t 11, [iv l4_4]), (.t 27, [bv false])]) (by kernel_rfl) (.cons (c_len (e := TSeat.en) (l := l4_3)) (.cons b5_1 (.cons b5_1 (.cons b5_1 (.cons b5_1 (.cons b5_1 (.cons b5_1 (.cons b5_1 (.cons b5_1 .nil))))))))) (by kernel_rfl) ?_
      refine WK.ce (b := false) (by kernel_rfl) rfl ?_
      refine WK.weak (l := [(.t 1, [iv l4_0]), (.t 2, [iv l4_1]), (.t 3, [iv l4_2]), (.t 10, [.data (.slc true none 3 (List.map TSeat.en l4_3))]), (.t 11, [iv l4_4])]) (wk_of (by kernel_rfl)) ?_
      refine WK.exit (n := 0) (by kernel_rfl) ?_
      cases some_inj h
      exact WKe.fin (e' := .exit 0) (by kernel_rfl) ⟨rfl, rfl⟩
noncomputable def diwanref13_Turn (fu : Nat) (l : List TSeat) (session : Int) (seq : Int) (pos : Int) : Option (List TSeat × Bool) :=
  gd (decide (([] : List TSeat).length + l.length ≤ 4294967296)) <|
  bd (diwanref13_Turn.lp4 fu session seq pos l fu 0) fun y8_0 =>
  jn (
    gd (decide ((0 : Int) ≤ y8_0 ∧ y8_0 ≤ (l.length : Int))) <|
    gd (decide (([] : List TSeat).length + (List.take y8_0.toNat l).length ≤ 4294967296)) <|
    gd (decide ((List.take y8_0.toNat l).length + ([(TSeat.mk session seq pos)] : List TSeat).length ≤ 4294967296)) <|
    gd (decide ((0 : Int) ≤ y8_0 ∧ y8_0 ≤ (l.length : Int))) <|
    gd (decide (((List.take y8_0.toNat l) ++ ([(TSeat.mk session seq pos)] : List TSeat)).length + (List.drop y8_0.toNat l).length ≤ 4294967296)) <|
    some ((((List.take y8_0.toNat l) ++ ([(TSeat.mk session seq pos)] : List TSeat)) ++ (List.drop y8_0.toNat l)), true)) fun k16 =>
  br (decide (y8_0 < (l.length : Int)))
    (ix l y8_0 fun x9_2 =>
    br (x9_2.Session == session)
      (ix l y8_0 fun x11_1 =>
      br (decide (seq ≤ x11_1.Seq))
        (some (l, false))
        (ix l y8_0 fun x14_1 =>
        some ((l.set y8_0.toNat (TSeat.mk session seq pos)), true)))
      (k16))
    (k16)
theorem diwanref13_Turn.meets (fu : Nat) (l : List TSeat) (session : Int) (seq : Int) (pos : Int) (z0 : List TSeat) (z1 : Bool) (h : diwanref13_Turn fu l session seq pos = some (z0, z1)) : Meets Try.prog ⟨22, [.data (.slc false none 3 (List.map TSeat.en l)), iv session, iv seq, iv pos], []⟩ ⟨.tup [.data (.slc false none 3 (List.map TSeat.en z0)), bv z1], []⟩ := by
  refine meets_of (O := diwanref13_Turn.O) hmix (fn := Try.f22) (code := bd22) (by kernel_rfl) ?_
  refine WK.weak (l := [(.t 0, [.data (.slc false none 3 (List.map TSeat.en l))]), (.t 1, [iv session]), (.t 2, [iv seq]), (.t 3, [iv pos])]) (wk_of (by kernel_rfl)) ?_
  unfold diwanref13_Turn at h
  refine WK.rs (g := []) (l' := [(.t 0, [.data (.slc false none 3 (List.map TSeat.en l))]), (.t 1, [iv session]), (.t 2, [iv seq]), (.t 3, [iv pos])]) (by kernel_rfl) .nil (by kernel_rfl) ?_
  obtain ⟨c2_1, h⟩ := gd_inv h
  refine WK.rs (g := []) (l' := [(.t 1, [iv session]), (.t 2, [iv seq]), (.t 3, [iv pos]), (.t 10, [.data (.slc true none 3 (List.map TSeat.en l))])]) (by kernel_rfl) (.cons (c_al (e := TSeat.en) (f := TSeat.en) c2_1) .nil) (by kernel_rfl) ?_
  refine WK.rs (g := []) (l' := [(.t 1, [iv session]), (.t 2, [iv seq]), (.t 3, [iv pos]), (.t 10, [.data (.slc true none 3 (List.map TSeat.en l))]), (.t 11, [iv 0])]) (by kernel_rfl) .nil (by kernel_rfl) ?_
  refine WK.seq (by kernel_rfl) ?_
  refine WK.block (n := 0) (by kernel_rfl) ?_
  obtain ⟨o8, ho8, h⟩ := bd_inv h
  refine WK.weak (l := [(.t 1, [iv session]), (.t 2, [iv seq]), (.t 3, [iv pos]), (.t 10, [.data (.slc true none 3 (List.map TSeat.en l))]), (.t 11, [iv 0])]) (wk_of (by kernel_rfl)) ?_
  refine WK.use (diwanref13_Turn.lp4_ok fu session seq pos l _ 0 _ ho8) ?_
  intro e_ τ_ hp_
  obtain ⟨y8_0, rfl⟩ : ∃ y, y = o8 := ⟨_, rfl⟩
  obtain ⟨rfl, rfl⟩ := hp_
  refine WKe.code (y := (cR (cR (cR (cR bd22))))) (ks' := []) (by kernel_rfl) ?_
  obtain ⟨k16, hk16, h⟩ := jn_inv h
  have Jk16 : k16 = some (z0, z1) → WK Try.prog diwanref13_Turn.O (Ck Try.prog) (cR (cR (cR (cR (cR bd22))))) [] (ofL [(.t 1, [iv session]), (.t 2, [iv seq]), (.t 3, [iv pos]), (.t 10, [.data (.slc true none 3 (List.map TSeat.en l))]), (.t 11, [iv y8_0])]) (Fin Try.prog diwanref13_Turn.O Try.f22 0 ⟨.tup [.data (.slc false none 3 (List.map TSeat.en z0)), bv z1], []⟩) := by
    intro h
    rw [hk16] at h
    refine WK.share (x := .tmp 10) (l' := [(.t 1, [iv session]), (.t 2, [iv seq]), (.t 3, [iv pos]), (.t 10, [.data (.slc false none 3 (List.map TSeat.en l))]), (.t 11, [iv y8_0])]) (by kernel_rfl) ?_
    obtain ⟨c17_1, h⟩ := gd_inv h
    obtain ⟨c17_2, h⟩ := gd_inv h
    obtain ⟨c17_3, h⟩ := gd_inv h
    obtain ⟨c17_4, h⟩ := gd_inv h
    obtain ⟨c17_5, h⟩ := gd_inv h
    refine WK.rs (g := [.s (.t 62) [.data (.slc false none 3 (List.map TSeat.en (List.take y8_0.toNat l)))], .s (.t 69) [.data (.slc true none 3 (List.map TSeat.en ((List.take y8_0.toNat l) ++ ([(TSeat.mk session seq pos)] : List TSeat))))], .s (.t 72) [.data (.slc false none 3 (List.map TSeat.en (List.drop y8_0.toNat l)))], .s (.t 73) [.data (.slc true none 3 (List.map TSeat.en (((List.take y8_0.toNat l) ++ ([(TSeat.mk session seq pos)] : List TSeat)) ++ (List.drop y8_0.toNat l))))]]) (l' := [(.t 8, [.data (.slc true none 3 (List.map TSeat.en (((List.take y8_0.toNat l) ++ ([(TSeat.mk session seq pos)] : List TSeat)) ++ (List.drop y8_0.toNat l))))]), (.t 9, [bv true])]) (by kernel_rfl) (.cons (c_cbH (e := TSeat.en) c17_1) (.cons (congrArg (fun d : DV => [AV.data d]) (c_cutH (own := false) (nl := none) (s := 3) (e := TSeat.en) (l := l) (h := y8_0.toNat))) (.cons (c_al (e := TSeat.en) (f := TSeat.en) c17_2) (.cons (c_al (e := TSeat.en) (f := TSeat.en) c17_3) (.cons (congrArg (fun d : DV => [AV.data d]) (c_app (e := TSeat.en) (s := 3) (l := (List.take y8_0.toNat l)) (m := ([(TSeat.mk session seq pos)] : List TSeat)))) (.cons (c_cbL (e := TSeat.en) c17_4) (.cons (congrArg (fun d : DV => [AV.data d]) (c_cutL (own := false) (nl := none) (s := 3) (e := TSeat.en) (l := l) (lo := y8_0.toNat))) (.cons (c_al (e := TSeat.en) (f := TSeat.en) c17_5) (.cons (congrArg (fun d : DV => [AV.data d]) (c_app (e := TSeat.en) (s := 3) (l := ((List.take y8_0.toNat l) ++ ([(TSeat.mk session seq pos)] : List TSeat))) (m := (List.drop y8_0.toNat l)))) (.cons (Eq.refl true) .nil)))))))))) (by kernel_rfl) ?_
    refine WK.weak (l := [(.t 8, [.data (.slc true none 3 (List.map TSeat.en (((List.take y8_0.toNat l) ++ ([(TSeat.mk session seq pos)] : List TSeat)) ++ (List.drop y8_0.toNat l))))]), (.t 9, [bv true])]) (wk_of (by kernel_rfl)) ?_
    refine WK.ret (by kernel_rfl) ?_
    have h_0 := some_inj h
    obtain ⟨g_1, h_1⟩ := Prod.mk.inj h_0
    subst g_1
    subst h_1
    exact WKe.fin (e' := .ret) (by kernel_rfl) (fin_of (g := []) (by first | exact .inl rfl | exact .inr rfl) .nil (by kernel_rfl))
  clear hk16
  refine WK.seq (by kernel_rfl) ?_
  rcases br_inv h with ⟨b9_1, h⟩ | ⟨b9_1, h⟩
  · obtain ⟨x9_2, a9_3, e9_4, h⟩ := ix_inv h
    refine WK.rs (g := [.s (.t 32) [iv (l.length : Int)], .b true, .b true, .b true, .b true, .b true, .c (TSeat.en x9_2), .b true, .b true, .b true]) (l' := [(.t 1, [iv session]), (.t 2, [iv seq]), (.t 3, [iv pos]), (.t 10, [.data (.slc true none 3 (List.map TSeat.en l))]), (.t 11, [iv y8_0]), (.t 42, [bv (x9_2.Session == session)])]) (by kernel_rfl) (.cons (c_len (e := TSeat.en) (l := l)) (.cons b9_1 (.cons b9_1 (.cons b9_1 (.cons (c_ix (e := TSeat.en) a9_3 e9_4) (.cons b9_1 (.cons b9_1 (.cons (c_el (e := TSeat.en) e9_4) (.cons b9_1 (.cons b9_1 (.cons b9_1 .nil))))))))))) (by kernel_rfl) ?_
    rcases br_inv h with ⟨b10_0, h⟩ | ⟨b10_0, h⟩
    · refine WK.ct (b := (x9_2.Session == session)) (by kernel_rfl) b10_0 ?_
      refine WK.seq (by kernel_rfl) ?_
      obtain ⟨x11_1, a11_2, e11_3, h⟩ := ix_inv h
      refine WK.rs (g := [.c (TSeat.en x11_1)]) (l' := [(.t 1, [iv session]), (.t 2, [iv seq]), (.t 3, [iv pos]), (.t 10, [.data (.slc true none 3 (List.map TSeat.en l))]), (.t 11, [iv y8_0]), (.t 49, [bv (decide (seq ≤ x11_1.Seq))])]) (by kernel_rfl) (.cons (c_ix (e := TSeat.en) a11_2 e11_3) (.cons (c_el (e := TSeat.en) e11_3) .nil)) (by kernel_rfl) ?_
      rcases br_inv h with ⟨b12_0, h⟩ | ⟨b12_0, h⟩
      · refine WK.ct (b := (decide (seq ≤ x11_1.Seq))) (by kernel_rfl) b12_0 ?_
        refine WK.rs (g := []) (l' := [(.t 8, [.data (.slc true none 3 (List.map TSeat.en l))]), (.t 9, [bv false])]) (by kernel_rfl) .nil (by kernel_rfl) ?_
        refine WK.weak (l := [(.t 8, [.data (.slc true none 3 (List.map TSeat.en l))]), (.t 9, [bv false])]) (wk_of (by kernel_rfl)) ?_
        refine WK.ret (by kernel_rfl) ?_
        have h_0 := some_inj h
        obtain ⟨g_1, h_1⟩ := Prod.mk.inj h_0
        subst g_1
        subst h_1
        exact WKe.fin (e' := .ret) (by kernel_rfl) (fin_of (g := []) (by first | exact .inl rfl | exact .inr rfl) .nil (by kernel_rfl))
      · refine WK.ce (b := (decide (seq ≤ x11_1.Seq))) (by kernel_rfl) b12_0 ?_
        refine WK.skip (by kernel_rfl) ?_
        refine WKe.code (y := (cR (cT (cR (cL (cR (cR (cR (cR bd22))))))))) (ks' := [.seq (cR (cR (cR (cR (cR bd22)))))]) (by kernel_rfl) ?_
        obtain ⟨x14_1, a14_2, e14_3, h⟩ := ix_inv h
        refine WK.rs (g := [.c (TSeat.en x14_1), .s (.t 10) [.data (.slc true none 3 (List.map TSeat.en (l.set y8_0.toNat (TSeat.mk session seq pos))))]]) (l' := [(.t 10, [.data (.slc true none 3 (List.map TSeat.en (l.set y8_0.toNat (TSeat.mk session seq pos))))])]) (by kernel_rfl) (.cons (c_ix (e := TSeat.en) a14_2 e14_3) (.cons (c_el (e := TSeat.en) e14_3) (.cons (congrArg (fun d : DV => [AV.data d]) (c_set (e := TSeat.en) (s := 3) (nl := none) (l := l) (i := y8_0.toNat) (x := (TSeat.mk session seq pos)))) .nil))) (by kernel_rfl) ?_
        refine WK.rs (g := []) (l' := [(.t 8, [.data (.slc true none 3 (List.map TSeat.en (l.set y8_0.toNat (TSeat.mk session seq pos))))]), (.t 9, [bv true])]) (by kernel_rfl) .nil (by kernel_rfl) ?_
        refine WK.weak (l := [(.t 8, [.data (.slc true none 3 (List.map TSeat.en (l.set y8_0.toNat (TSeat.mk session seq pos))))]), (.t 9, [bv true])]) (wk_of (by kernel_rfl)) ?_
        refine WK.ret (by kernel_rfl) ?_
        have h_0 := some_inj h
        obtain ⟨g_1, h_1⟩ := Prod.mk.inj h_0
        subst g_1
        subst h_1
        exact WKe.fin (e' := .ret) (by kernel_rfl) (fin_of (g := []) (by first | exact .inl rfl | exact .inr rfl) .nil (by kernel_rfl))
    · refine WK.ce (b := (x9_2.Session == session)) (by kernel_rfl) b10_0 ?_
      refine WK.skip (by kernel_rfl) ?_
      refine WKe.code (y := (cR (cR (cR (cR (cR bd22)))))) (ks' := []) (by kernel_rfl) ?_
      exact WK.weak (l := [(.t 1, [iv session]), (.t 2, [iv seq]), (.t 3, [iv pos]), (.t 10, [.data (.slc true none 3 (List.map TSeat.en l))]), (.t 11, [iv y8_0])]) (wk_of (by kernel_rfl)) (Jk16 h)
  · refine WK.rs (g := [.s (.t 32) [iv (l.length : Int)], .b false, .b false, .b false, .b false, .b false, .b false, .b false, .b false]) (l' := [(.t 1, [iv session]), (.t 2, [iv seq]), (.t 3, [iv pos]), (.t 10, [.data (.slc true none 3 (List.map TSeat.en l))]), (.t 11, [iv y8_0]), (.t 42, [bv false])]) (by kernel_rfl) (.cons (c_len (e := TSeat.en) (l := l)) (.cons b9_1 (.cons b9_1 (.cons b9_1 (.cons b9_1 (.cons b9_1 (.cons b9_1 (.cons b9_1 (.cons b9_1 .nil))))))))) (by kernel_rfl) ?_
    refine WK.ce (b := false) (by kernel_rfl) rfl ?_
    refine WK.skip (by kernel_rfl) ?_
    refine WKe.code (y := (cR (cR (cR (cR (cR bd22)))))) (ks' := []) (by kernel_rfl) ?_
    exact WK.weak (l := [(.t 1, [iv session]), (.t 2, [iv seq]), (.t 3, [iv pos]), (.t 10, [.data (.slc true none 3 (List.map TSeat.en l))]), (.t 11, [iv y8_0])]) (wk_of (by kernel_rfl)) (Jk16 h)
/-- diwan/diwanref13.chain -/
noncomputable def bd31 : Code := (Try.f31.body).getD .skip
def diwanref13_chain.O : Nat → Nat := fun t => bif ([2, 5] : List Nat).any (Nat.beq t) then 1 else bif ([4] : List Nat).any (Nat.beq t) then 2 else 0
noncomputable def diwanref13_chain.lp3 (fu : Nat) (l3_0 : ByteArray) (l3_2 : TStore) : Nat → Int → Option (Unit ⊕ (List TVersion))
  | 0, _ => none
  | n_ + 1, l3_1 =>
    br (decide (l3_1 < (l3_2.Chains.length : Int)))
      (ix l3_2.Chains l3_1 fun x6_1 =>
      br (x6_1.Key.toList == l3_0.toList)
        (ix l3_2.Chains l3_1 fun x8_1 =>
        some (.inr x8_1.L))
        (diwanref13_chain.lp3 fu l3_0 l3_2 n_ (w64 (l3_1 + 1))))
      (some (.inl ()))
noncomputable def diwanref13_chain.lp3_post (l3_0 : ByteArray) (l3_2 : TStore) (r_ : (Unit ⊕ (List TVersion))) : Wy → St → Prop := fun e τ => match r_ with
  | .inl _ => e = .exit 0 ∧ τ = ofL []
  | .inr y0 => e = .ret ∧ τ = ofL [(.t 4, [.data (.slc false none 3 (List.map TVersion.en y0))])]
theorem diwanref13_chain.lp3_ok (fu : Nat) (l3_0 : ByteArray) (l3_2 : TStore) : ∀ (n_ : Nat) (l3_1 : Int) (r_ : (Unit ⊕ (List TVersion))), diwanref13_chain.lp3 fu l3_0 l3_2 n_ l3_1 = some r_ → WK Try.prog diwanref13_chain.O (Ck Try.prog) (cB (cR (cL (cR bd31)))) [] (ofL [(.t 1, [sv l3_0]), (.t 2, [.ptr 2 0]), (.t 5, [iv l3_1]), (.o 2, [.data (.slc false none 2 (List.map TChain.en l3_2.Chains)), iv l3_2.Mark])]) (diwanref13_chain.lp3_post l3_0 l3_2 r_) := by
  intro n_
  induction n_ with
  | zero => intro l3_1 r_ h; exact no_none h
  | succ n_ ih =>
    intro l3_1 r_ h
    refine WK.loop (by kernel_rfl) ?_
    refine WK.seq (by kernel_rfl) ?_
    refine WK.rs (g := [.s (.t 9) [iv (l3_2.Chains.length : Int)]]) (l' := [(.t 1, [sv l3_0]), (.t 2, [.ptr 2 0]), (.t 5, [iv l3_1]), (.t 10, [bv (decide (l3_1 < (l3_2.Chains.length : Int)))]), (.o 2, [.data (.slc false none 2 (List.map TChain.en l3_2.Chains)), iv l3_2.Mark])]) (by kernel_rfl) (.cons (c_len (e := TChain.en) (l := l3_2.Chains)) .nil) (by kernel_rfl) ?_
    rcases br_inv h with ⟨b5_0, h⟩ | ⟨b5_0, h⟩
    · refine WK.ct (b := (decide (l3_1 < (l3_2.Chains.length : Int)))) (by kernel_rfl) b5_0 ?_
      refine WK.skip (by kernel_rfl) ?_
      refine WKe.code (y := (cR (cB (cB (cR (cL (cR bd31))))))) (ks' := [.lp (cB (cR (cL (cR bd31))))]) (by kernel_rfl) ?_
      refine WK.seq (by kernel_rfl) ?_
      refine WK.block (n := 1) (by kernel_rfl) ?_
      obtain ⟨x6_1, a6_2, e6_3, h⟩ := ix_inv h
      refine WK.rs (g := [.c (TChain.en x6_1)]) (l' := [(.t 1, [sv l3_0]), (.t 2, [.ptr 2 0]), (.t 5, [iv l3_1]), (.t 20, [bv (x6_1.Key.toList == l3_0.toList)]), (.o 2, [.data (.slc false none 2 (List.map TChain.en l3_2.Chains)), iv l3_2.Mark])]) (by kernel_rfl) (.cons (c_ix (e := TChain.en) a6_2 e6_3) (.cons (c_el (e := TChain.en) e6_3) .nil)) (by kernel_rfl) ?_
      rcases br_inv h with ⟨b7_0, h⟩ | ⟨b7_0, h⟩
      · refine WK.ct (b := (x6_1.Key.toList == l3_0.toList)) (by kernel_rfl) b7_0 ?_
        obtain ⟨x8_1, a8_2, e8_3, h⟩ := ix_inv h
        refine WK.rs (g := [.c (TChain.en x8_1)]) (l' := [(.t 4, [.data (.slc false none 3 (List.map TVersion.en x8_1.L))])]) (by kernel_rfl) (.cons (c_ix (e := TChain.en) a8_2 e8_3) (.cons (c_el (e := TChain.en) e8_3) .nil)) (by kernel_rfl) ?_
        refine WK.weak (l := [(.t 4, [.data (.slc false none 3 (List.map TVersion.en x8_1.L))])]) (wk_of (by kernel_rfl)) ?_
        refine WK.ret (by kernel_rfl) ?_
        cases some_inj h
        exact WKe.fin (e' := .ret) (by kernel_rfl) ⟨rfl, rfl⟩
      · refine WK.ce (b := (x6_1.Key.toList == l3_0.toList)) (by kernel_rfl) b7_0 ?_
        refine WK.skip (by kernel_rfl) ?_
        refine WKe.code (y := (cR (cR (cB (cB (cR (cL (cR bd31)))))))) (ks' := [.lp (cB (cR (cL (cR bd31))))]) (by kernel_rfl) ?_
        refine WK.rc (g := []) (l' := [(.t 1, [sv l3_0]), (.t 2, [.ptr 2 0]), (.t 5, [iv (w64 (l3_1 + 1))]), (.o 2, [.data (.slc false none 2 (List.map TChain.en l3_2.Chains)), iv l3_2.Mark])]) .nil (by kernel_rfl) (y := (cB (cR (cL (cR bd31))))) (ks' := []) (by kernel_rfl) ?_
        exact WK.weak (l := [(.t 1, [sv l3_0]), (.t 2, [.ptr 2 0]), (.t 5, [iv (w64 (l3_1 + 1))]), (.o 2, [.data (.slc false none 2 (List.map TChain.en l3_2.Chains)), iv l3_2.Mark])]) (wk_of (by kernel_rfl)) (ih (w64 (l3_1 + 1)) _ h)
    · refine WK.ce (b := (decide (l3_1 < (l3_2.Chains.length : Int)))) (by kernel_rfl) b5_0 ?_
      refine WK.weak (l := []) (wk_of (by kernel_rfl)) ?_
      refine WK.exit (n := 0) (by kernel_rfl) ?_
      cases some_inj h
      exact WKe.fin (e' := .exit 0) (by kernel_rfl) ⟨rfl, rfl⟩
noncomputable def diwanref13_chain (fu : Nat) (s : TStore) (key : ByteArray) : Option (List TVersion) :=
  bd (diwanref13_chain.lp3 fu key s fu 0) fun o_ => (match o_ with
  | .inl _ =>
    some []
  | .inr y10_0 =>
    some y10_0)
theorem diwanref13_chain.meets (fu : Nat) (s : TStore) (key : ByteArray) (z0 : List TVersion) (h : diwanref13_chain fu s key = some z0) : Meets Try.prog ⟨31, [.data (.agg [.slc false none 2 (List.map TChain.en s.Chains), .val (.int .i64 s.Mark)]), sv key], []⟩ ⟨.data (.slc false none 3 (List.map TVersion.en z0)), []⟩ := by
  refine meets_of (O := diwanref13_chain.O) hmix (fn := Try.f31) (code := bd31) (by kernel_rfl) ?_
  refine WK.weak (l := [(.t 0, [.data (.agg [.slc false none 2 (List.map TChain.en s.Chains), .val (.int .i64 s.Mark)])]), (.t 1, [sv key])]) (wk_of (by kernel_rfl)) ?_
  unfold diwanref13_chain at h
  refine WK.rs (g := []) (l' := [(.t 1, [sv key]), (.t 2, [.ptr 2 0]), (.o 2, [.data (.slc false none 2 (List.map TChain.en s.Chains)), iv s.Mark])]) (by kernel_rfl) .nil (by kernel_rfl) ?_
  refine WK.seq (by kernel_rfl) ?_
  refine WK.rs (g := []) (l' := [(.t 1, [sv key]), (.t 2, [.ptr 2 0]), (.t 5, [iv 0]), (.o 2, [.data (.slc false none 2 (List.map TChain.en s.Chains)), iv s.Mark])]) (by kernel_rfl) .nil (by kernel_rfl) ?_
  refine WK.block (n := 0) (by kernel_rfl) ?_
  obtain ⟨o10, ho10, h⟩ := bd_inv h
  refine WK.weak (l := [(.t 1, [sv key]), (.t 2, [.ptr 2 0]), (.t 5, [iv 0]), (.o 2, [.data (.slc false none 2 (List.map TChain.en s.Chains)), iv s.Mark])]) (wk_of (by kernel_rfl)) ?_
  refine WK.use (diwanref13_chain.lp3_ok fu key s _ 0 _ ho10) ?_
  intro e_ τ_ hp_
  rcases o10 with o10 | o10
  · obtain ⟨⟩ := o10
    obtain ⟨rfl, rfl⟩ := hp_
    refine WKe.code (y := (cR (cR bd31))) (ks' := []) (by kernel_rfl) ?_
    refine WK.rs (g := []) (l' := [(.t 4, [.data (.slc false (some true) 3 (List.map TVersion.en []))])]) (by kernel_rfl) .nil (by kernel_rfl) ?_
    refine WK.weak (l := [(.t 4, [.data (.slc false none 3 (List.map TVersion.en []))])]) (wk_of (by kernel_rfl)) ?_
    refine WK.ret (by kernel_rfl) ?_
    have h_ := some_inj h
    subst h_
    exact WKe.fin (e' := .ret) (by kernel_rfl) (fin_of (g := []) (by first | exact .inl rfl | exact .inr rfl) .nil (by kernel_rfl))
  · obtain ⟨y10_0, rfl⟩ : ∃ y, y = o10 := ⟨_, rfl⟩
    obtain ⟨rfl, rfl⟩ := hp_
    have h_ := some_inj h
    subst h_
    exact WKe.fin (e' := .ret) (by kernel_rfl) (fin_of (g := []) (by first | exact .inl rfl | exact .inr rfl) .nil (by kernel_rfl))
/-- diwan/diwanref13.LastOf -/
noncomputable def bd17 : Code := (Try.f17.body).getD .skip
def diwanref13_LastOf.O : Nat → Nat := fun t => bif ([2] : List Nat).any (Nat.beq t) then 1 else 0
noncomputable def diwanref13_LastOf (l : List TVersion) : Option Int :=
  br ((l.length : Int) == 0)
    (some 0)
    (ix l (w64 ((l.length : Int) - 1)) fun x5_1 =>
    some x5_1.Pos)
theorem diwanref13_LastOf.meets (l : List TVersion) (z0 : Int) (h : diwanref13_LastOf l = some z0) : Meets Try.prog ⟨17, [.data (.slc false none 3 (List.map TVersion.en l))], []⟩ ⟨iv z0, []⟩ := by
  refine meets_of (O := diwanref13_LastOf.O) hmix (fn := Try.f17) (code := bd17) (by kernel_rfl) ?_
  refine WK.weak (l := [(.t 0, [.data (.slc false none 3 (List.map TVersion.en l))])]) (wk_of (by kernel_rfl)) ?_
  unfold diwanref13_LastOf at h
  refine WK.rs (g := []) (l' := [(.t 0, [.data (.slc false none 3 (List.map TVersion.en l))])]) (by kernel_rfl) .nil (by kernel_rfl) ?_
  refine WK.seq (by kernel_rfl) ?_
  refine WK.rs (g := [.s (.t 4) [iv (l.length : Int)]]) (l' := [(.t 0, [.data (.slc false none 3 (List.map TVersion.en l))]), (.t 5, [bv ((l.length : Int) == 0)])]) (by kernel_rfl) (.cons (c_len (e := TVersion.en) (l := l)) .nil) (by kernel_rfl) ?_
  rcases br_inv h with ⟨b3_0, h⟩ | ⟨b3_0, h⟩
  · refine WK.ct (b := ((l.length : Int) == 0)) (by kernel_rfl) b3_0 ?_
    refine WK.rs (g := []) (l' := [(.t 2, [iv 0])]) (by kernel_rfl) .nil (by kernel_rfl) ?_
    refine WK.weak (l := [(.t 2, [iv 0])]) (wk_of (by kernel_rfl)) ?_
    refine WK.ret (by kernel_rfl) ?_
    have h_ := some_inj h
    subst h_
    exact WKe.fin (e' := .ret) (by kernel_rfl) (fin_of (g := []) (by first | exact .inl rfl | exact .inr rfl) .nil (by kernel_rfl))
  · refine WK.ce (b := ((l.length : Int) == 0)) (by kernel_rfl) b3_0 ?_
    refine WK.skip (by kernel_rfl) ?_
    refine WKe.code (y := (cR (cR bd17))) (ks' := []) (by kernel_rfl) ?_
    obtain ⟨x5_1, a5_2, e5_3, h⟩ := ix_inv h
    refine WK.rs (g := [.s (.t 8) [iv (l.length : Int)], .c (TVersion.en x5_1)]) (l' := [(.t 2, [iv x5_1.Pos])]) (by kernel_rfl) (.cons (c_len (e := TVersion.en) (l := l)) (.cons (c_ix (e := TVersion.en) a5_2 e5_3) (.cons (c_el (e := TVersion.en) e5_3) .nil))) (by kernel_rfl) ?_
    refine WK.weak (l := [(.t 2, [iv x5_1.Pos])]) (wk_of (by kernel_rfl)) ?_
    refine WK.ret (by kernel_rfl) ?_
    have h_ := some_inj h
    subst h_
    exact WKe.fin (e' := .ret) (by kernel_rfl) (fin_of (g := []) (by first | exact .inl rfl | exact .inr rfl) .nil (by kernel_rfl))
/-- diwan/diwanref13.Last -/
noncomputable def bd23 : Code := (Try.f23.body).getD .skip
def diwanref13_Last.O : Nat → Nat := fun t => bif ([2, 4] : List Nat).any (Nat.beq t) then 1 else 0
noncomputable def diwanref13_Last (fu : Nat) (s : TStore) (key : ByteArray) : Option Int :=
  bd (diwanref13_chain fu s key) fun r2_1 =>
  bd (diwanref13_LastOf r2_1) fun r2_3 =>
  some r2_3
theorem diwanref13_Last.meets (fu : Nat) (s : TStore) (key : ByteArray) (z0 : Int) (h : diwanref13_Last fu s key = some z0) : Meets Try.prog ⟨23, [.data (.agg [.slc false none 2 (List.map TChain.en s.Chains), .val (.int .i64 s.Mark)]), sv key], []⟩ ⟨iv z0, []⟩ := by
  refine meets_of (O := diwanref13_Last.O) hmix (fn := Try.f23) (code := bd23) (by kernel_rfl) ?_
  refine WK.weak (l := [(.t 0, [.data (.agg [.slc false none 2 (List.map TChain.en s.Chains), .val (.int .i64 s.Mark)])]), (.t 1, [sv key])]) (wk_of (by kernel_rfl)) ?_
  unfold diwanref13_Last at h
  refine WK.rs (g := []) (l' := [(.t 1, [sv key]), (.t 2, [.ptr 2 0]), (.o 2, [.data (.slc false none 2 (List.map TChain.en s.Chains)), iv s.Mark])]) (by kernel_rfl) .nil (by kernel_rfl) ?_
  obtain ⟨r2_1, h2_2, h⟩ := bd_inv h
  obtain ⟨r2_3, h2_4, h⟩ := bd_inv h
  refine WK.rs (g := [.a ⟨.data (.slc false none 3 (List.map TVersion.en r2_1)), []⟩, .a ⟨iv r2_3, []⟩]) (l' := [(.t 4, [iv r2_3])]) (by kernel_rfl) (.cons (Asks.of (C := Meets Try.prog) (diwanref13_chain.meets fu s key _ h2_2)) (.cons (Asks.of (C := Meets Try.prog) (diwanref13_LastOf.meets r2_1 _ h2_4)) .nil)) (by kernel_rfl) ?_
  refine WK.weak (l := [(.t 4, [iv r2_3])]) (wk_of (by kernel_rfl)) ?_
  refine WK.ret (by kernel_rfl) ?_
  have h_ := some_inj h
  subst h_
  exact WKe.fin (e' := .ret) (by kernel_rfl) (fin_of (g := []) (by first | exact .inl rfl | exact .inr rfl) .nil (by kernel_rfl))
/-- diwan/diwanref13.Add -/
noncomputable def bd32 : Code := (Try.f32.body).getD .skip
def diwanref13_Add.O : Nat → Nat := fun t => bif ([3, 4, 5, 6, 17] : List Nat).any (Nat.beq t) then 1 else 0
noncomputable def diwanref13_Add (l : List TVersion) (v : TVersion) : Option (List TVersion) :=
  gd (decide (([] : List TVersion).length + l.length ≤ 4294967296)) <|
  bd (diwanref13_LastOf l) fun r3_1 =>
  br (decide (v.Pos ≤ r3_1))
    (some l)
    (gd (decide (l.length + ([v] : List TVersion).length ≤ 4294967296)) <|
    some (l ++ ([v] : List TVersion)))
theorem diwanref13_Add.meets (l : List TVersion) (v : TVersion) (z0 : List TVersion) (h : diwanref13_Add l v = some z0) : Meets Try.prog ⟨32, [.data (.slc false none 3 (List.map TVersion.en l)), .data (TVersion.ag v)], []⟩ ⟨.data (.slc true none 3 (List.map TVersion.en z0)), []⟩ := by
  refine meets_of (O := diwanref13_Add.O) hmix (fn := Try.f32) (code := bd32) (by kernel_rfl) ?_
  refine WK.weak (l := [(.t 0, [.data (.slc false none 3 (List.map TVersion.en l))]), (.t 1, [.data (TVersion.ag v)])]) (wk_of (by kernel_rfl)) ?_
  unfold diwanref13_Add at h
  refine WK.rs (g := []) (l' := [(.t 0, [.data (.slc false none 3 (List.map TVersion.en l))]), (.t 3, [.ptr 3 0]), (.o 3, (TVersion.ob v))]) (by kernel_rfl) .nil (by kernel_rfl) ?_
  obtain ⟨c2_1, h⟩ := gd_inv h
  refine WK.rs (g := []) (l' := [(.t 0, [.data (.slc false none 3 (List.map TVersion.en l))]), (.t 3, [.ptr 3 0]), (.t 5, [.data (.slc true none 3 (List.map TVersion.en l))]), (.o 3, (TVersion.ob v))]) (by kernel_rfl) (.cons (c_al (e := TVersion.en) (f := TVersion.en) c2_1) .nil) (by kernel_rfl) ?_
  refine WK.seq (by kernel_rfl) ?_
  obtain ⟨r3_1, h3_2, h⟩ := bd_inv h
  refine WK.rs (g := [.a ⟨iv r3_1, []⟩]) (l' := [(.t 3, [.ptr 3 0]), (.t 5, [.data (.slc true none 3 (List.map TVersion.en l))]), (.t 13, [bv (decide (v.Pos ≤ r3_1))]), (.o 3, (TVersion.ob v))]) (by kernel_rfl) (.cons (Asks.of (C := Meets Try.prog) (diwanref13_LastOf.meets l _ h3_2)) (.cons (Eq.refl true) .nil)) (by kernel_rfl) ?_
  rcases br_inv h with ⟨b4_0, h⟩ | ⟨b4_0, h⟩
  · refine WK.ct (b := (decide (v.Pos ≤ r3_1))) (by kernel_rfl) b4_0 ?_
    refine WK.rs (g := []) (l' := [(.t 4, [.data (.slc true none 3 (List.map TVersion.en l))])]) (by kernel_rfl) .nil (by kernel_rfl) ?_
    refine WK.weak (l := [(.t 4, [.data (.slc true none 3 (List.map TVersion.en l))])]) (wk_of (by kernel_rfl)) ?_
    refine WK.ret (by kernel_rfl) ?_
    have h_ := some_inj h
    subst h_
    exact WKe.fin (e' := .ret) (by kernel_rfl) (fin_of (g := []) (by first | exact .inl rfl | exact .inr rfl) .nil (by kernel_rfl))
  · refine WK.ce (b := (decide (v.Pos ≤ r3_1))) (by kernel_rfl) b4_0 ?_
    refine WK.skip (by kernel_rfl) ?_
    refine WKe.code (y := (cR (cR (cR bd32)))) (ks' := []) (by kernel_rfl) ?_
    obtain ⟨c6_1, h⟩ := gd_inv h
    refine WK.rs (g := [.s (.t 18) [.data (.slc true none 3 (List.map TVersion.en (l ++ ([v] : List TVersion))))]]) (l' := [(.t 4, [.data (.slc true none 3 (List.map TVersion.en (l ++ ([v] : List TVersion))))])]) (by kernel_rfl) (.cons (c_al (e := TVersion.en) (f := TVersion.en) c6_1) (.cons (congrArg (fun d : DV => [AV.data d]) (c_app (e := TVersion.en) (s := 3) (l := l) (m := ([v] : List TVersion)))) .nil)) (by kernel_rfl) ?_
    refine WK.weak (l := [(.t 4, [.data (.slc true none 3 (List.map TVersion.en (l ++ ([v] : List TVersion))))])]) (wk_of (by kernel_rfl)) ?_
    refine WK.ret (by kernel_rfl) ?_
    have h_ := some_inj h
    subst h_
    exact WKe.fin (e' := .ret) (by kernel_rfl) (fin_of (g := []) (by first | exact .inl rfl | exact .inr rfl) .nil (by kernel_rfl))
/-- diwan/diwanref13.Write -/
noncomputable def bd24 : Code := (Try.f24.body).getD .skip
def diwanref13_Write.O : Nat → Nat := fun t => bif ([3, 6, 7, 8, 9, 10, 13, 17, 64, 72, 73, 79, 95, 99] : List Nat).any (Nat.beq t) then 1 else bif ([96] : List Nat).any (Nat.beq t) then 2 else 0
noncomputable def diwanref13_Write.lp9 (fu : Nat) (l9_0 : Int) (l9_1 : List TWrite) (l9_2 : Int) (l9_4 : TStore) (l9_5 : TStore) (l9_6 : TWrite) : Nat → Int → Option Int
  | 0, _ => none
  | n_ + 1, l9_3 =>
    br (decide (l9_3 < (l9_5.Chains.length : Int)))
      (ix l9_5.Chains l9_3 fun x10_2 =>
      br (Op.bytesLess x10_2.Key.toList l9_6.Key.toList)
        (diwanref13_Write.lp9 fu l9_0 l9_1 l9_2 l9_4 l9_5 l9_6 n_ (w64 (l9_3 + 1)))
        (some l9_3))
      (some l9_3)
noncomputable def diwanref13_Write.lp9_post (l9_0 : Int) (l9_1 : List TWrite) (l9_2 : Int) (l9_4 : TStore) (l9_5 : TStore) (l9_6 : TWrite) (r_ : Int) : Wy → St → Prop := fun e τ => match r_ with
  | y0 => e = .exit 2 ∧ τ = ofL [(.t 1, [iv l9_0]), (.t 2, [.data (.slc false none 3 (List.map TWrite.en l9_1))]), (.t 6, [.ptr 6 0]), (.t 7, [.ptr 7 0]), (.t 8, [iv l9_2]), (.t 9, [.ptr 9 0]), (.t 10, [iv y0]), (.o 6, [.data (.slc true none 2 (List.map TChain.en l9_4.Chains)), iv l9_4.Mark]), (.o 7, [.data (.slc true none 2 (List.map TChain.en l9_5.Chains)), iv l9_5.Mark]), (.o 9, (TWrite.ob l9_6))]
theorem diwanref13_Write.lp9_ok (fu : Nat) (l9_0 : Int) (l9_1 : List TWrite) (l9_2 : Int) (l9_4 : TStore) (l9_5 : TStore) (l9_6 : TWrite) : ∀ (n_ : Nat) (l9_3 : Int) (r_ : Int), diwanref13_Write.lp9 fu l9_0 l9_1 l9_2 l9_4 l9_5 l9_6 n_ l9_3 = some r_ → WK Try.prog diwanref13_Write.O (Ck Try.prog) (cB (cL (cR (cR (cB (cL (cR (cB (cB (cR (cL (cR (cR bd24))))))))))))) [] (ofL [(.t 1, [iv l9_0]), (.t 2, [.data (.slc false none 3 (List.map TWrite.en l9_1))]), (.t 6, [.ptr 6 0]), (.t 7, [.ptr 7 0]), (.t 8, [iv l9_2]), (.t 9, [.ptr 9 0]), (.t 10, [iv l9_3]), (.o 6, [.data (.slc true none 2 (List.map TChain.en l9_4.Chains)), iv l9_4.Mark]), (.o 7, [.data (.slc true none 2 (List.map TChain.en l9_5.Chains)), iv l9_5.Mark]), (.o 9, (TWrite.ob l9_6))]) (diwanref13_Write.lp9_post l9_0 l9_1 l9_2 l9_4 l9_5 l9_6 r_) := by
  intro n_
  induction n_ with
  | zero => intro l9_3 r_ h; exact no_none h
  | succ n_ ih =>
    intro l9_3 r_ h
    refine WK.loop (by kernel_rfl) ?_
    refine WK.seq (by kernel_rfl) ?_
    rcases br_inv h with ⟨b10_1, h⟩ | ⟨b10_1, h⟩
    · obtain ⟨x10_2, a10_3, e10_4, h⟩ := ix_inv h
      refine WK.rs (g := [.s (.t 31) [iv (l9_5.Chains.length : Int)], .b true, .b true, .b true, .b true, .b true, .b true, .c (TChain.en x10_2), .b true, .b true, .b true, .b true]) (l' := [(.t 1, [iv l9_0]), (.t 2, [.data (.slc false none 3 (List.map TWrite.en l9_1))]), (.t 6, [.ptr 6 0]), (.t 7, [.ptr 7 0]), (.t 8, [iv l9_2]), (.t 9, [.ptr 9 0]), (.t 10, [iv l9_3]), (.t 43, [bv (Op.bytesLess x10_2.Key.toList l9_6.Key.toList)]), (.o 6, [.data (.slc true none 2 (List.map TChain.en l9_4.Chains)), iv l9_4.Mark]), (.o 7, [.data (.slc true none 2 (List.map TChain.en l9_5.Chains)), iv l9_5.Mark]), (.o 9, (TWrite.ob l9_6))]) (by kernel_rfl) (.cons (c_len (e := TChain.en) (l := l9_5.Chains)) (.cons b10_1 (.cons b10_1 (.cons b10_1 (.cons b10_1 (.cons (c_ix (e := TChain.en) a10_3 e10_4) (.cons b10_1 (.cons b10_1 (.cons (c_el (e := TChain.en) e10_4) (.cons b10_1 (.cons b10_1 (.cons b10_1 (.cons b10_1 (.cons (Eq.refl true) .nil)))))))))))))) (by kernel_rfl) ?_
      rcases br_inv h with ⟨b11_0, h⟩ | ⟨b11_0, h⟩
      · refine WK.ct (b := (Op.bytesLess x10_2.Key.toList l9_6.Key.toList)) (by kernel_rfl) b11_0 ?_
        refine WK.skip (by kernel_rfl) ?_
        refine WKe.code (y := (cR (cB (cB (cL (cR (cR (cB (cL (cR (cB (cB (cR (cL (cR (cR bd24)))))))))))))))) (ks' := [.lp (cB (cL (cR (cR (cB (cL (cR (cB (cB (cR (cL (cR (cR bd24)))))))))))))]) (by kernel_rfl) ?_
        refine WK.block (n := 3) (by kernel_rfl) ?_
        refine WK.rc (g := []) (l' := [(.t 1, [iv l9_0]), (.t 2, [.data (.slc false none 3 (List.map TWrite.en l9_1))]), (.t 6, [.ptr 6 0]), (.t 7, [.ptr 7 0]), (.t 8, [iv l9_2]), (.t 9, [.ptr 9 0]), (.t 10, [iv (w64 (l9_3 + 1))]), (.o 6, [.data (.slc true none 2 (List.map TChain.en l9_4.Chains)), iv l9_4.Mark]), (.o 7, [.data (.slc true none 2 (List.map TChain.en l9_5.Chains)), iv l9_5.Mark]), (.o 9, (TWrite.ob l9_6))]) .nil (by kernel_rfl) (y := (cB (cL (cR (cR (cB (cL (cR (cB (cB (cR (cL (cR (cR bd24)))))))))))))) (ks' := []) (by kernel_rfl) ?_
        exact WK.weak (l := [(.t 1, [iv l9_0]), (.t 2, [.data (.slc false none 3 (List.map TWrite.en l9_1))]), (.t 6, [.ptr 6 0]), (.t 7, [.ptr 7 0]), (.t 8, [iv l9_2]), (.t 9, [.ptr 9 0]), (.t 10, [iv (w64 (l9_3 + 1))]), (.o 6, [.data (.slc true none 2 (List.map TChain.en l9_4.Chains)), iv l9_4.Mark]), (.o 7, [.data (.slc true none 2 (List.map TChain.en l9_5.Chains)), iv l9_5.Mark]), (.o 9, (TWrite.ob l9_6))]) (wk_of (by kernel_rfl)) (ih (w64 (l9_3 + 1)) _ h)
      · refine WK.ce (b := (Op.bytesLess x10_2.Key.toList l9_6.Key.toList)) (by kernel_rfl) b11_0 ?_
        refine WK.weak (l := [(.t 1, [iv l9_0]), (.t 2, [.data (.slc false none 3 (List.map TWrite.en l9_1))]), (.t 6, [.ptr 6 0]), (.t 7, [.ptr 7 0]), (.t 8, [iv l9_2]), (.t 9, [.ptr 9 0]), (.t 10, [iv l9_3]), (.o 6, [.data (.slc true none 2 (List.map TChain.en l9_4.Chains)), iv l9_4.Mark]), (.o 7, [.data (.slc true none 2 (List.map TChain.en l9_5.Chains)), iv l9_5.Mark]), (.o 9, (TWrite.ob l9_6))]) (wk_of (by kernel_rfl)) ?_
        refine WK.exit (n := 2) (by kernel_rfl) ?_
        cases some_inj h
        exact WKe.fin (e' := .exit 2) (by kernel_rfl) ⟨rfl, rfl⟩
    · refine WK.rs (g := [.s (.t 31) [iv (l9_5.Chains.length : Int)], .b false, .b false, .b false, .b false, .b false, .b false, .b false, .b false, .b false, .b false]) (l' := [(.t 1, [iv l9_0]), (.t 2, [.data (.slc false none 3 (List.map TWrite.en l9_1))]), (.t 6, [.ptr 6 0]), (.t 7, [.ptr 7 0]), (.t 8, [iv l9_2]), (.t 9, [.ptr 9 0]), (.t 10, [iv l9_3]), (.t 43, [bv false]), (.o 6, [.data (.slc true none 2 (List.map TChain.en l9_4.Chains)), iv l9_4.Mark]), (.o 7, [.data (.slc true none 2 (List.map TChain.en l9_5.Chains)), iv l9_5.Mark]), (.o 9, (TWrite.ob l9_6))]) (by kernel_rfl) (.cons (c_len (e := TChain.en) (l := l9_5.Chains)) (.cons b10_1 (.cons b10_1 (.cons b10_1 (.cons b10_1 (.cons b10_1 (.cons b10_1 (.cons b10_1 (.cons b10_1 (.cons b10_1 (.cons b10_1 (.cons (Eq.refl true) .nil)))))))))))) (by kernel_rfl) ?_
      refine WK.ce (b := false) (by kernel_rfl) rfl ?_
      refine WK.weak (l := [(.t 1, [iv l9_0]), (.t 2, [.data (.slc false none 3 (List.map TWrite.en l9_1))]), (.t 6, [.ptr 6 0]), (.t 7, [.ptr 7 0]), (.t 8, [iv l9_2]), (.t 9, [.ptr 9 0]), (.t 10, [iv l9_3]), (.o 6, [.data (.slc true none 2 (List.map TChain.en l9_4.Chains)), iv l9_4.Mark]), (.o 7, [.data (.slc true none 2 (List.map TChain.en l9_5.Chains)), iv l9_5.Mark]), (.o 9, (TWrite.ob l9_6))]) (wk_of (by kernel_rfl)) ?_
      refine WK.exit (n := 2) (by kernel_rfl) ?_
      cases some_inj h
      exact WKe.fin (e' := .exit 2) (by kernel_rfl) ⟨rfl, rfl⟩
noncomputable def diwanref13_Write.lp4 (fu : Nat) (l4_0 : Int) (l4_1 : List TWrite) (l4_3 : TStore) : Nat → Int → TStore → Option TStore
  | 0, _, _ => none
  | n_ + 1, l4_2, l4_4 =>
    br (decide (l4_2 < (l4_1.length : Int)))
      (ix l4_1 l4_2 fun x7_1 =>
      bd (diwanref13_Write.lp9 fu l4_0 l4_1 l4_2 l4_3 l4_4 x7_1 fu 0) fun y13_0 =>
      jn (fun (j24_5 : TStore) =>
        ix j24_5.Chains y13_0 fun x25_1 =>
        bd (diwanref13_Add x25_1.L (TVersion.mk l4_0 x7_1.Val x7_1.Gone)) fun r25_4 =>
        ix j24_5.Chains y13_0 fun x25_6 =>
        diwanref13_Write.lp4 fu l4_0 l4_1 l4_3 n_ (w64 (l4_2 + 1)) (TStore.mk (j24_5.Chains.set y13_0.toNat (TChain.mk x25_6.Key r25_4)) j24_5.Mark)) fun k24 =>
      br (y13_0 == (l4_4.Chains.length : Int))
        (br (decide (l4_0 < 1))
          (diwanref13_Write.lp4 fu l4_0 l4_1 l4_3 n_ (w64 (l4_2 + 1)) l4_4)
          (gd (decide ((0 : Int) ≤ y13_0 ∧ y13_0 ≤ (l4_4.Chains.length : Int))) <|
          gd (decide (([] : List TChain).length + (List.take y13_0.toNat l4_4.Chains).length ≤ 4294967296)) <|
          gd (decide ((List.take y13_0.toNat l4_4.Chains).length + ([(TChain.mk x7_1.Key [])] : List TChain).length ≤ 4294967296)) <|
          gd (decide ((0 : Int) ≤ y13_0 ∧ y13_0 ≤ (l4_4.Chains.length : Int))) <|
          gd (decide (((List.take y13_0.toNat l4_4.Chains) ++ ([(TChain.mk x7_1.Key [])] : List TChain)).length + (List.drop y13_0.toNat l4_4.Chains).length ≤ 4294967296)) <|
          k24 (TStore.mk (((List.take y13_0.toNat l4_4.Chains) ++ ([(TChain.mk x7_1.Key [])] : List TChain)) ++ (List.drop y13_0.toNat l4_4.Chains)) l4_4.Mark)))
        (ix l4_4.Chains y13_0 fun x14_2 =>
        br (!(x14_2.Key.toList == x7_1.Key.toList))
          (br (decide (l4_0 < 1))
            (diwanref13_Write.lp4 fu l4_0 l4_1 l4_3 n_ (w64 (l4_2 + 1)) l4_4)
            (gd (decide ((0 : Int) ≤ y13_0 ∧ y13_0 ≤ (l4_4.Chains.length : Int))) <|
            gd (decide (([] : List TChain).length + (List.take y13_0.toNat l4_4.Chains).length ≤ 4294967296)) <|
            gd (decide ((List.take y13_0.toNat l4_4.Chains).length + ([(TChain.mk x7_1.Key [])] : List TChain).length ≤ 4294967296)) <|
            gd (decide ((0 : Int) ≤ y13_0 ∧ y13_0 ≤ (l4_4.Chains.length : Int))) <|
            gd (decide (((List.take y13_0.toNat l4_4.Chains) ++ ([(TChain.mk x7_1.Key [])] : List TChain)).length + (List.drop y13_0.toNat l4_4.Chains).length ≤ 4294967296)) <|
            k24 (TStore.mk (((List.take y13_0.toNat l4_4.Chains) ++ ([(TChain.mk x7_1.Key [])] : List TChain)) ++ (List.drop y13_0.toNat l4_4.Chains)) l4_4.Mark)))
          (k24 l4_4)))
      (some l4_4)
noncomputable def diwanref13_Write.lp4_post (l4_0 : Int) (l4_1 : List TWrite) (l4_3 : TStore) (r_ : TStore) : Wy → St → Prop := fun e τ => match r_ with
  | y0 => e = .exit 0 ∧ τ = ofL [(.t 6, [.ptr 6 0]), (.t 7, [.ptr 7 0]), (.o 6, [.data (.slc true none 2 (List.map TChain.en l4_3.Chains)), iv l4_3.Mark]), (.o 7, [.data (.slc true none 2 (List.map TChain.en y0.Chains)), iv y0.Mark])]
theorem diwanref13_Write.lp4_ok (fu : Nat) (l4_0 : Int) (l4_1 : List TWrite) (l4_3 : TStore) : ∀ (n_ : Nat) (l4_2 : Int) (l4_4 : TStore) (r_ : TStore), diwanref13_Write.lp4 fu l4_0 l4_1 l4_3 n_ l4_2 l4_4 = some r_ → WK Try.prog diwanref13_Write.O (Ck Try.prog) (cB (cR (cL (cR (cR bd24))))) [] (ofL [(.t 1, [iv l4_0]), (.t 2, [.data (.slc false none 3 (List.map TWrite.en l4_1))]), (.t 6, [.ptr 6 0]), (.t 7, [.ptr 7 0]), (.t 8, [iv l4_2]), (.o 6, [.data (.slc true none 2 (List.map TChain.en l4_3.Chains)), iv l4_3.Mark]), (.o 7, [.data (.slc true none 2 (List.map TChain.en l4_4.Chains)), iv l4_4.Mark])]) (diwanref13_Write.lp4_post l4_0 l4_1 l4_3 r_) := by
  intro n_
  induction n_ with
  | zero => intro l4_2 l4_4 r_ h; exact no_none h
  | succ n_ ih =>
    intro l4_2 l4_4 r_ h
    refine WK.loop (by kernel_rfl) ?_
    refine WK.seq (by kernel_rfl) ?_
    refine WK.rs (g := [.s (.t 20) [iv (l4_1.length : Int)]]) (l' := [(.t 1, [iv l4_0]), (.t 2, [.data (.slc false none 3 (List.map TWrite.en l4_1))]), (.t 6, [.ptr 6 0]), (.t 7, [.ptr 7 0]), (.t 8, [iv l4_2]), (.t 21, [bv (decide (l4_2 < (l4_1.length : Int)))]), (.o 6, [.data (.slc true none 2 (List.map TChain.en l4_3.Chains)), iv l4_3.Mark]), (.o 7, [.data (.slc true none 2 (List.map TChain.en l4_4.Chains)), iv l4_4.Mark])]) (by kernel_rfl) (.cons (c_len (e := TWrite.en) (l := l4_1)) .nil) (by kernel_rfl) ?_
    rcases br_inv h with ⟨b6_0, h⟩ | ⟨b6_0, h⟩
    · refine WK.ct (b := (decide (l4_2 < (l4_1.length : Int)))) (by kernel_rfl) b6_0 ?_
      refine WK.skip (by kernel_rfl) ?_
      refine WKe.code (y := (cR (cB (cB (cR (cL (cR (cR bd24)))))))) (ks' := [.lp (cB (cR (cL (cR (cR bd24)))))]) (by kernel_rfl) ?_
      refine WK.seq (by kernel_rfl) ?_
      refine WK.block (n := 1) (by kernel_rfl) ?_
      obtain ⟨x7_1, a7_2, e7_3, h⟩ := ix_inv h
      refine WK.rs (g := [.c (TWrite.en x7_1)]) (l' := [(.t 1, [iv l4_0]), (.t 2, [.data (.slc false none 3 (List.map TWrite.en l4_1))]), (.t 6, [.ptr 6 0]), (.t 7, [.ptr 7 0]), (.t 8, [iv l4_2]), (.t 9, [.ptr 9 0]), (.o 6, [.data (.slc true none 2 (List.map TChain.en l4_3.Chains)), iv l4_3.Mark]), (.o 7, [.data (.slc true none 2 (List.map TChain.en l4_4.Chains)), iv l4_4.Mark]), (.o 9, (TWrite.ob x7_1))]) (by kernel_rfl) (.cons (c_ix (e := TWrite.en) a7_2 e7_3) (.cons (c_el (e := TWrite.en) e7_3) .nil)) (by kernel_rfl) ?_
      refine WK.rs (g := []) (l' := [(.t 1, [iv l4_0]), (.t 2, [.data (.slc false none 3 (List.map TWrite.en l4_1))]), (.t 6, [.ptr 6 0]), (.t 7, [.ptr 7 0]), (.t 8, [iv l4_2]), (.t 9, [.ptr 9 0]), (.t 10, [iv 0]), (.o 6, [.data (.slc true none 2 (List.map TChain.en l4_3.Chains)), iv l4_3.Mark]), (.o 7, [.data (.slc true none 2 (List.map TChain.en l4_4.Chains)), iv l4_4.Mark]), (.o 9, (TWrite.ob x7_1))]) (by kernel_rfl) .nil (by kernel_rfl) ?_
      refine WK.seq (by kernel_rfl) ?_
      refine WK.block (n := 2) (by kernel_rfl) ?_
      obtain ⟨o13, ho13, h⟩ := bd_inv h
      refine WK.weak (l := [(.t 1, [iv l4_0]), (.t 2, [.data (.slc false none 3 (List.map TWrite.en l4_1))]), (.t 6, [.ptr 6 0]), (.t 7, [.ptr 7 0]), (.t 8, [iv l4_2]), (.t 9, [.ptr 9 0]), (.t 10, [iv 0]), (.o 6, [.data (.slc true none 2 (List.map TChain.en l4_3.Chains)), iv l4_3.Mark]), (.o 7, [.data (.slc true none 2 (List.map TChain.en l4_4.Chains)), iv l4_4.Mark]), (.o 9, (TWrite.ob x7_1))]) (wk_of (by kernel_rfl)) ?_
      refine WK.use (diwanref13_Write.lp9_ok fu l4_0 l4_1 l4_2 l4_3 l4_4 x7_1 _ 0 _ ho13) ?_
      intro e_ τ_ hp_
      obtain ⟨y13_0, rfl⟩ : ∃ y, y = o13 := ⟨_, rfl⟩
      obtain ⟨rfl, rfl⟩ := hp_
      refine WKe.code (y := (cR (cR (cR (cB (cL (cR (cB (cB (cR (cL (cR (cR bd24))))))))))))) (ks' := [.blk 1, .seq (cR (cR (cB (cB (cR (cL (cR (cR bd24)))))))), .lp (cB (cR (cL (cR (cR bd24)))))]) (by kernel_rfl) ?_
      obtain ⟨k24, hk24, h⟩ := jn_inv h
      have Jk24 : ∀ (j24_5 : TStore), k24 j24_5 = some r_ → WK Try.prog diwanref13_Write.O (Ck Try.prog) (cR (cR (cR (cR (cB (cL (cR (cB (cB (cR (cL (cR (cR bd24))))))))))))) [.blk 1, .seq (cR (cR (cB (cB (cR (cL (cR (cR bd24)))))))), .lp (cB (cR (cL (cR (cR bd24)))))] (ofL [(.t 1, [iv l4_0]), (.t 2, [.data (.slc false none 3 (List.map TWrite.en l4_1))]), (.t 6, [.ptr 6 0]), (.t 7, [.ptr 7 0]), (.t 8, [iv l4_2]), (.t 9, [.ptr 9 0]), (.t 10, [iv y13_0]), (.o 6, [.data (.slc true none 2 (List.map TChain.en l4_3.Chains)), iv l4_3.Mark]), (.o 7, [.data (.slc true none 2 (List.map TChain.en j24_5.Chains)), iv j24_5.Mark]), (.o 9, (TWrite.ob x7_1))]) (diwanref13_Write.lp4_post l4_0 l4_1 l4_3 r_) := by
        intro j24_5 h
        rw [hk24] at h
        obtain ⟨x25_1, a25_2, e25_3, h⟩ := ix_inv h
        obtain ⟨r25_4, h25_5, h⟩ := bd_inv h
        obtain ⟨x25_6, a25_7, e25_8, h⟩ := ix_inv h
        refine WK.rc (g := [.c (TChain.en x25_1), .a ⟨.data (.slc true none 3 (List.map TVersion.en r25_4)), []⟩, .c (TChain.en x25_6), .s (.o 7) [.data (.slc true none 2 (List.map TChain.en (j24_5.Chains.set y13_0.toNat (TChain.mk x25_6.Key r25_4)))), iv j24_5.Mark]]) (l' := [(.t 1, [iv l4_0]), (.t 2, [.data (.slc false none 3 (List.map TWrite.en l4_1))]), (.t 6, [.ptr 6 0]), (.t 7, [.ptr 7 0]), (.t 8, [iv l4_2]), (.o 6, [.data (.slc true none 2 (List.map TChain.en l4_3.Chains)), iv l4_3.Mark]), (.o 7, [.data (.slc true none 2 (List.map TChain.en (j24_5.Chains.set y13_0.toNat (TChain.mk x25_6.Key r25_4)))), iv j24_5.Mark])]) (.cons (c_ix (e := TChain.en) a25_2 e25_3) (.cons (c_el (e := TChain.en) e25_3) (.cons (Asks.of (C := Meets Try.prog) (diwanref13_Add.meets x25_1.L (TVersion.mk l4_0 x7_1.Val x7_1.Gone) _ h25_5)) (.cons (c_ix (e := TChain.en) a25_7 e25_8) (.cons (c_el (e := TChain.en) e25_8) (.cons (congrArg (fun d : DV => [AV.data d, iv j24_5.Mark]) (c_set (e := TChain.en) (s := 2) (nl := none) (l := j24_5.Chains) (i := y13_0.toNat) (x := (TChain.mk x25_6.Key r25_4)))) (.cons (Eq.refl true) .nil))))))) (by kernel_rfl) (y := (cR (cR (cB (cB (cR (cL (cR (cR bd24))))))))) (ks' := [.lp (cB (cR (cL (cR (cR bd24)))))]) (by kernel_rfl) ?_
        refine WK.rc (g := []) (l' := [(.t 1, [iv l4_0]), (.t 2, [.data (.slc false none 3 (List.map TWrite.en l4_1))]), (.t 6, [.ptr 6 0]), (.t 7, [.ptr 7 0]), (.t 8, [iv (w64 (l4_2 + 1))]), (.o 6, [.data (.slc true none 2 (List.map TChain.en l4_3.Chains)), iv l4_3.Mark]), (.o 7, [.data (.slc true none 2 (List.map TChain.en (j24_5.Chains.set y13_0.toNat (TChain.mk x25_6.Key r25_4)))), iv j24_5.Mark])]) .nil (by kernel_rfl) (y := (cB (cR (cL (cR (cR bd24)))))) (ks' := []) (by kernel_rfl) ?_
        exact WK.weak (l := [(.t 1, [iv l4_0]), (.t 2, [.data (.slc false none 3 (List.map TWrite.en l4_1))]), (.t 6, [.ptr 6 0]), (.t 7, [.ptr 7 0]), (.t 8, [iv (w64 (l4_2 + 1))]), (.o 6, [.data (.slc true none 2 (List.map TChain.en l4_3.Chains)), iv l4_3.Mark]), (.o 7, [.data (.slc true none 2 (List.map TChain.en (j24_5.Chains.set y13_0.toNat (TChain.mk x25_6.Key r25_4)))), iv j24_5.Mark])]) (wk_of (by kernel_rfl)) (ih (w64 (l4_2 + 1)) (TStore.mk (j24_5.Chains.set y13_0.toNat (TChain.mk x25_6.Key r25_4)) j24_5.Mark) _ h)
      clear hk24
      refine WK.seq (by kernel_rfl) ?_
      rcases br_inv h with ⟨b14_1, h⟩ | ⟨b14_1, h⟩
      · refine WK.rs (g := [.s (.t 49) [iv (l4_4.Chains.length : Int)], .b true, .b true, .b true, .b true, .b true, .b true, .b true, .b true, .b true, .b true]) (l' := [(.t 1, [iv l4_0]), (.t 2, [.data (.slc false none 3 (List.map TWrite.en l4_1))]), (.t 6, [.ptr 6 0]), (.t 7, [.ptr 7 0]), (.t 8, [iv l4_2]), (.t 9, [.ptr 9 0]), (.t 10, [iv y13_0]), (.t 61, [bv true]), (.o 6, [.data (.slc true none 2 (List.map TChain.en l4_3.Chains)), iv l4_3.Mark]), (.o 7, [.data (.slc true none 2 (List.map TChain.en l4_4.Chains)), iv l4_4.Mark]), (.o 9, (TWrite.ob x7_1))]) (by kernel_rfl) (.cons (c_len (e := TChain.en) (l := l4_4.Chains)) (.cons b14_1 (.cons b14_1 (.cons b14_1 (.cons b14_1 (.cons b14_1 (.cons b14_1 (.cons b14_1 (.cons b14_1 (.cons b14_1 (.cons b14_1 (.cons (Eq.refl true) .nil)))))))))))) (by kernel_rfl) ?_
        refine WK.ct (b := true) (by kernel_rfl) rfl ?_
        refine WK.seq (by kernel_rfl) ?_
        refine WK.rs (g := []) (l' := [(.t 1, [iv l4_0]), (.t 2, [.data (.slc false none 3 (List.map TWrite.en l4_1))]), (.t 6, [.ptr 6 0]), (.t 7, [.ptr 7 0]), (.t 8, [iv l4_2]), (.t 9, [.ptr 9 0]), (.t 10, [iv y13_0]), (.t 63, [bv (decide (l4_0 < 1))]), (.o 6, [.data (.slc true none 2 (List.map TChain.en l4_3.Chains)), iv l4_3.Mark]), (.o 7, [.data (.slc true none 2 (List.map TChain.en l4_4.Chains)), iv l4_4.Mark]), (.o 9, (TWrite.ob x7_1))]) (by kernel_rfl) .nil (by kernel_rfl) ?_
        rcases br_inv h with ⟨b16_0, h⟩ | ⟨b16_0, h⟩
        · refine WK.ct (b := (decide (l4_0 < 1))) (by kernel_rfl) b16_0 ?_
          refine WK.exit (n := 1) (by kernel_rfl) ?_
          refine WKe.code (y := (cR (cR (cB (cB (cR (cL (cR (cR bd24))))))))) (ks' := [.lp (cB (cR (cL (cR (cR bd24)))))]) (by kernel_rfl) ?_
          refine WK.rc (g := []) (l' := [(.t 1, [iv l4_0]), (.t 2, [.data (.slc false none 3 (List.map TWrite.en l4_1))]), (.t 6, [.ptr 6 0]), (.t 7, [.ptr 7 0]), (.t 8, [iv (w64 (l4_2 + 1))]), (.o 6, [.data (.slc true none 2 (List.map TChain.en l4_3.Chains)), iv l4_3.Mark]), (.o 7, [.data (.slc true none 2 (List.map TChain.en l4_4.Chains)), iv l4_4.Mark])]) .nil (by kernel_rfl) (y := (cB (cR (cL (cR (cR bd24)))))) (ks' := []) (by kernel_rfl) ?_
          exact WK.weak (l := [(.t 1, [iv l4_0]), (.t 2, [.data (.slc false none 3 (List.map TWrite.en l4_1))]), (.t 6, [.ptr 6 0]), (.t 7, [.ptr 7 0]), (.t 8, [iv (w64 (l4_2 + 1))]), (.o 6, [.data (.slc true none 2 (List.map TChain.en l4_3.Chains)), iv l4_3.Mark]), (.o 7, [.data (.slc true none 2 (List.map TChain.en l4_4.Chains)), iv l4_4.Mark])]) (wk_of (by kernel_rfl)) (ih (w64 (l4_2 + 1)) l4_4 _ h)
        · refine WK.ce (b := (decide (l4_0 < 1))) (by kernel_rfl) b16_0 ?_
          refine WK.skip (by kernel_rfl) ?_
          refine WKe.code (y := (cR (cT (cR (cL (cR (cR (cR (cB (cL (cR (cB (cB (cR (cL (cR (cR bd24))))))))))))))))) (ks' := [.seq (cR (cR (cR (cR (cB (cL (cR (cB (cB (cR (cL (cR (cR bd24))))))))))))), .blk 1, .seq (cR (cR (cB (cB (cR (cL (cR (cR bd24)))))))), .lp (cB (cR (cL (cR (cR bd24)))))]) (by kernel_rfl) ?_
          refine WK.shareO (i := 7) (cc := 0) (l' := [(.t 1, [iv l4_0]), (.t 2, [.data (.slc false none 3 (List.map TWrite.en l4_1))]), (.t 6, [.ptr 6 0]), (.t 7, [.ptr 7 0]), (.t 8, [iv l4_2]), (.t 9, [.ptr 9 0]), (.t 10, [iv y13_0]), (.o 6, [.data (.slc true none 2 (List.map TChain.en l4_3.Chains)), iv l4_3.Mark]), (.o 7, [.data (.slc false none 2 (List.map TChain.en l4_4.Chains)), iv l4_4.Mark]), (.o 9, (TWrite.ob x7_1))]) (by kernel_rfl) (by kernel_rfl) (by kernel_rfl) ?_
          obtain ⟨c18_1, h⟩ := gd_inv h
          obtain ⟨c18_2, h⟩ := gd_inv h
          obtain ⟨c18_3, h⟩ := gd_inv h
          obtain ⟨c18_4, h⟩ := gd_inv h
          obtain ⟨c18_5, h⟩ := gd_inv h
          refine WK.rc (g := [.s (.t 68) [.data (.slc false none 2 (List.map TChain.en (List.take y13_0.toNat l4_4.Chains)))], .s (.t 74) [.data (.slc true none 2 (List.map TChain.en ((List.take y13_0.toNat l4_4.Chains) ++ ([(TChain.mk x7_1.Key [])] : List TChain))))], .s (.t 78) [.data (.slc false none 2 (List.map TChain.en (List.drop y13_0.toNat l4_4.Chains)))], .s (.t 79) [.data (.slc true none 2 (List.map TChain.en (((List.take y13_0.toNat l4_4.Chains) ++ ([(TChain.mk x7_1.Key [])] : List TChain)) ++ (List.drop y13_0.toNat l4_4.Chains))))]]) (l' := [(.t 1, [iv l4_0]), (.t 2, [.data (.slc false none 3 (List.map TWrite.en l4_1))]), (.t 6, [.ptr 6 0]), (.t 7, [.ptr 7 0]), (.t 8, [iv l4_2]), (.t 9, [.ptr 9 0]), (.t 10, [iv y13_0]), (.o 6, [.data (.slc true none 2 (List.map TChain.en l4_3.Chains)), iv l4_3.Mark]), (.o 7, [.data (.slc true none 2 (List.map TChain.en (((List.take y13_0.toNat l4_4.Chains) ++ ([(TChain.mk x7_1.Key [])] : List TChain)) ++ (List.drop y13_0.toNat l4_4.Chains)))), iv l4_4.Mark]), (.o 9, (TWrite.ob x7_1))]) (.cons (c_cbH (e := TChain.en) c18_1) (.cons (congrArg (fun d : DV => [AV.data d]) (c_cutH (own := false) (nl := none) (s := 2) (e := TChain.en) (l := l4_4.Chains) (h := y13_0.toNat))) (.cons (c_al (e := TChain.en) (f := TChain.en) c18_2) (.cons (c_al (e := TChain.en) (f := TChain.en) c18_3) (.cons (congrArg (fun d : DV => [AV.data d]) (c_app (e := TChain.en) (s := 2) (l := (List.take y13_0.toNat l4_4.Chains)) (m := ([(TChain.mk x7_1.Key [])] : List TChain)))) (.cons (c_cbL (e := TChain.en) c18_4) (.cons (congrArg (fun d : DV => [AV.data d]) (c_cutL (own := false) (nl := none) (s := 2) (e := TChain.en) (l := l4_4.Chains) (lo := y13_0.toNat))) (.cons (c_al (e := TChain.en) (f := TChain.en) c18_5) (.cons (congrArg (fun d : DV => [AV.data d]) (c_app (e := TChain.en) (s := 2) (l := ((List.take y13_0.toNat l4_4.Chains) ++ ([(TChain.mk x7_1.Key [])] : List TChain))) (m := (List.drop y13_0.toNat l4_4.Chains)))) (.cons (Eq.refl true) .nil)))))))))) (by kernel_rfl) (y := (cR (cR (cR (cR (cB (cL (cR (cB (cB (cR (cL (cR (cR bd24)))))))))))))) (ks' := [.blk 1, .seq (cR (cR (cB (cB (cR (cL (cR (cR bd24)))))))), .lp (cB (cR (cL (cR (cR bd24)))))]) (by kernel_rfl) ?_
          exact WK.weak (l := [(.t 1, [iv l4_0]), (.t 2, [.data (.slc false none 3 (List.map TWrite.en l4_1))]), (.t 6, [.ptr 6 0]), (.t 7, [.ptr 7 0]), (.t 8, [iv l4_2]), (.t 9, [.ptr 9 0]), (.t 10, [iv y13_0]), (.o 6, [.data (.slc true none 2 (List.map TChain.en l4_3.Chains)), iv l4_3.Mark]), (.o 7, [.data (.slc true none 2 (List.map TChain.en (((List.take y13_0.toNat l4_4.Chains) ++ ([(TChain.mk x7_1.Key [])] : List TChain)) ++ (List.drop y13_0.toNat l4_4.Chains)))), iv l4_4.Mark]), (.o 9, (TWrite.ob x7_1))]) (wk_of (by kernel_rfl)) (Jk24 (TStore.mk (((List.take y13_0.toNat l4_4.Chains) ++ ([(TChain.mk x7_1.Key [])] : List TChain)) ++ (List.drop y13_0.toNat l4_4.Chains)) l4_4.Mark) h)
      · obtain ⟨x14_2, a14_3, e14_4, h⟩ := ix_inv h
        refine WK.rs (g := [.s (.t 49) [iv (l4_4.Chains.length : Int)], .b false, .b false, .b false, .b false, .b false, .b false, .c (TChain.en x14_2), .b false, .b false, .b false, .b false]) (l' := [(.t 1, [iv l4_0]), (.t 2, [.data (.slc false none 3 (List.map TWrite.en l4_1))]), (.t 6, [.ptr 6 0]), (.t 7, [.ptr 7 0]), (.t 8, [iv l4_2]), (.t 9, [.ptr 9 0]), (.t 10, [iv y13_0]), (.t 61, [bv (!(x14_2.Key.toList == x7_1.Key.toList))]), (.o 6, [.data (.slc true none 2 (List.map TChain.en l4_3.Chains)), iv l4_3.Mark]), (.o 7, [.data (.slc true none 2 (List.map TChain.en l4_4.Chains)), iv l4_4.Mark]), (.o 9, (TWrite.ob x7_1))]) (by kernel_rfl) (.cons (c_len (e := TChain.en) (l := l4_4.Chains)) (.cons b14_1 (.cons b14_1 (.cons b14_1 (.cons b14_1 (.cons (c_ix (e := TChain.en) a14_3 e14_4) (.cons b14_1 (.cons b14_1 (.cons (c_el (e := TChain.en) e14_4) (.cons b14_1 (.cons b14_1 (.cons b14_1 (.cons b14_1 (.cons (Eq.refl true) .nil)))))))))))))) (by kernel_rfl) ?_
        rcases br_inv h with ⟨b19_0, h⟩ | ⟨b19_0, h⟩
        · refine WK.ct (b := (!(x14_2.Key.toList == x7_1.Key.toList))) (by kernel_rfl) b19_0 ?_
          refine WK.seq (by kernel_rfl) ?_
          refine WK.rs (g := []) (l' := [(.t 1, [iv l4_0]), (.t 2, [.data (.slc false none 3 (List.map TWrite.en l4_1))]), (.t 6, [.ptr 6 0]), (.t 7, [.ptr 7 0]), (.t 8, [iv l4_2]), (.t 9, [.ptr 9 0]), (.t 10, [iv y13_0]), (.t 63, [bv (decide (l4_0 < 1))]), (.o 6, [.data (.slc true none 2 (List.map TChain.en l4_3.Chains)), iv l4_3.Mark]), (.o 7, [.data (.slc true none 2 (List.map TChain.en l4_4.Chains)), iv l4_4.Mark]), (.o 9, (TWrite.ob x7_1))]) (by kernel_rfl) .nil (by kernel_rfl) ?_
          rcases br_inv h with ⟨b21_0, h⟩ | ⟨b21_0, h⟩
          · refine WK.ct (b := (decide (l4_0 < 1))) (by kernel_rfl) b21_0 ?_
            refine WK.exit (n := 1) (by kernel_rfl) ?_
            refine WKe.code (y := (cR (cR (cB (cB (cR (cL (cR (cR bd24))))))))) (ks' := [.lp (cB (cR (cL (cR (cR bd24)))))]) (by kernel_rfl) ?_
            refine WK.rc (g := []) (l' := [(.t 1, [iv l4_0]), (.t 2, [.data (.slc false none 3 (List.map TWrite.en l4_1))]), (.t 6, [.ptr 6 0]), (.t 7, [.ptr 7 0]), (.t 8, [iv (w64 (l4_2 + 1))]), (.o 6, [.data (.slc true none 2 (List.map TChain.en l4_3.Chains)), iv l4_3.Mark]), (.o 7, [.data (.slc true none 2 (List.map TChain.en l4_4.Chains)), iv l4_4.Mark])]) .nil (by kernel_rfl) (y := (cB (cR (cL (cR (cR bd24)))))) (ks' := []) (by kernel_rfl) ?_
            exact WK.weak (l := [(.t 1, [iv l4_0]), (.t 2, [.data (.slc false none 3 (List.map TWrite.en l4_1))]), (.t 6, [.ptr 6 0]), (.t 7, [.ptr 7 0]), (.t 8, [iv (w64 (l4_2 + 1))]), (.o 6, [.data (.slc true none 2 (List.map TChain.en l4_3.Chains)), iv l4_3.Mark]), (.o 7, [.data (.slc true none 2 (List.map TChain.en l4_4.Chains)), iv l4_4.Mark])]) (wk_of (by kernel_rfl)) (ih (w64 (l4_2 + 1)) l4_4 _ h)
          · refine WK.ce (b := (decide (l4_0 < 1))) (by kernel_rfl) b21_0 ?_
            refine WK.skip (by kernel_rfl) ?_
            refine WKe.code (y := (cR (cT (cR (cL (cR (cR (cR (cB (cL (cR (cB (cB (cR (cL (cR (cR bd24))))))))))))))))) (ks' := [.seq (cR (cR (cR (cR (cB (cL (cR (cB (cB (cR (cL (cR (cR bd24))))))))))))), .blk 1, .seq (cR (cR (cB (cB (cR (cL (cR (cR bd24)))))))), .lp (cB (cR (cL (cR (cR bd24)))))]) (by kernel_rfl) ?_
            refine WK.shareO (i := 7) (cc := 0) (l' := [(.t 1, [iv l4_0]), (.t 2, [.data (.slc false none 3 (List.map TWrite.en l4_1))]), (.t 6, [.ptr 6 0]), (.t 7, [.ptr 7 0]), (.t 8, [iv l4_2]), (.t 9, [.ptr 9 0]), (.t 10, [iv y13_0]), (.o 6, [.data (.slc true none 2 (List.map TChain.en l4_3.Chains)), iv l4_3.Mark]), (.o 7, [.data (.slc false none 2 (List.map TChain.en l4_4.Chains)), iv l4_4.Mark]), (.o 9, (TWrite.ob x7_1))]) (by kernel_rfl) (by kernel_rfl) (by kernel_rfl) ?_
            obtain ⟨c23_1, h⟩ := gd_inv h
            obtain ⟨c23_2, h⟩ := gd_inv h
            obtain ⟨c23_3, h⟩ := gd_inv h
            obtain ⟨c23_4, h⟩ := gd_inv h
            obtain ⟨c23_5, h⟩ := gd_inv h
            refine WK.rc (g := [.s (.t 68) [.data (.slc false none 2 (List.map TChain.en (List.take y13_0.toNat l4_4.Chains)))], .s (.t 74) [.data (.slc true none 2 (List.map TChain.en ((List.take y13_0.toNat l4_4.Chains) ++ ([(TChain.mk x7_1.Key [])] : List TChain))))], .s (.t 78) [.data (.slc false none 2 (List.map TChain.en (List.drop y13_0.toNat l4_4.Chains)))], .s (.t 79) [.data (.slc true none 2 (List.map TChain.en (((List.take y13_0.toNat l4_4.Chains) ++ ([(TChain.mk x7_1.Key [])] : List TChain)) ++ (List.drop y13_0.toNat l4_4.Chains))))]]) (l' := [(.t 1, [iv l4_0]), (.t 2, [.data (.slc false none 3 (List.map TWrite.en l4_1))]), (.t 6, [.ptr 6 0]), (.t 7, [.ptr 7 0]), (.t 8, [iv l4_2]), (.t 9, [.ptr 9 0]), (.t 10, [iv y13_0]), (.o 6, [.data (.slc true none 2 (List.map TChain.en l4_3.Chains)), iv l4_3.Mark]), (.o 7, [.data (.slc true none 2 (List.map TChain.en (((List.take y13_0.toNat l4_4.Chains) ++ ([(TChain.mk x7_1.Key [])] : List TChain)) ++ (List.drop y13_0.toNat l4_4.Chains)))), iv l4_4.Mark]), (.o 9, (TWrite.ob x7_1))]) (.cons (c_cbH (e := TChain.en) c23_1) (.cons (congrArg (fun d : DV => [AV.data d]) (c_cutH (own := false) (nl := none) (s := 2) (e := TChain.en) (l := l4_4.Chains) (h := y13_0.toNat))) (.cons (c_al (e := TChain.en) (f := TChain.en) c23_2) (.cons (c_al (e := TChain.en) (f := TChain.en) c23_3) (.cons (congrArg (fun d : DV => [AV.data d]) (c_app (e := TChain.en) (s := 2) (l := (List.take y13_0.toNat l4_4.Chains)) (m := ([(TChain.mk x7_1.Key [])] : List TChain)))) (.cons (c_cbL (e := TChain.en) c23_4) (.cons (congrArg (fun d : DV => [AV.data d]) (c_cutL (own := false) (nl := none) (s := 2) (e := TChain.en) (l := l4_4.Chains) (lo := y13_0.toNat))) (.cons (c_al (e := TChain.en) (f := TChain.en) c23_5) (.cons (congrArg (fun d : DV => [AV.data d]) (c_app (e := TChain.en) (s := 2) (l := ((List.take y13_0.toNat l4_4.Chains) ++ ([(TChain.mk x7_1.Key [])] : List TChain))) (m := (List.drop y13_0.toNat l4_4.Chains)))) (.cons (Eq.refl true) .nil)))))))))) (by kernel_rfl) (y := (cR (cR (cR (cR (cB (cL (cR (cB (cB (cR (cL (cR (cR bd24)))))))))))))) (ks' := [.blk 1, .seq (cR (cR (cB (cB (cR (cL (cR (cR bd24)))))))), .lp (cB (cR (cL (cR (cR bd24)))))]) (by kernel_rfl) ?_
            exact WK.weak (l := [(.t 1, [iv l4_0]), (.t 2, [.data (.slc false none 3 (List.map TWrite.en l4_1))]), (.t 6, [.ptr 6 0]), (.t 7, [.ptr 7 0]), (.t 8, [iv l4_2]), (.t 9, [.ptr 9 0]), (.t 10, [iv y13_0]), (.o 6, [.data (.slc true none 2 (List.map TChain.en l4_3.Chains)), iv l4_3.Mark]), (.o 7, [.data (.slc true none 2 (List.map TChain.en (((List.take y13_0.toNat l4_4.Chains) ++ ([(TChain.mk x7_1.Key [])] : List TChain)) ++ (List.drop y13_0.toNat l4_4.Chains)))), iv l4_4.Mark]), (.o 9, (TWrite.ob x7_1))]) (wk_of (by kernel_rfl)) (Jk24 (TStore.mk (((List.take y13_0.toNat l4_4.Chains) ++ ([(TChain.mk x7_1.Key [])] : List TChain)) ++ (List.drop y13_0.toNat l4_4.Chains)) l4_4.Mark) h)
        · refine WK.ce (b := (!(x14_2.Key.toList == x7_1.Key.toList))) (by kernel_rfl) b19_0 ?_
          refine WK.skip (by kernel_rfl) ?_
          refine WKe.code (y := (cR (cR (cR (cR (cB (cL (cR (cB (cB (cR (cL (cR (cR bd24)))))))))))))) (ks' := [.blk 1, .seq (cR (cR (cB (cB (cR (cL (cR (cR bd24)))))))), .lp (cB (cR (cL (cR (cR bd24)))))]) (by kernel_rfl) ?_
          exact WK.weak (l := [(.t 1, [iv l4_0]), (.t 2, [.data (.slc false none 3 (List.map TWrite.en l4_1))]), (.t 6, [.ptr 6 0]), (.t 7, [.ptr 7 0]), (.t 8, [iv l4_2]), (.t 9, [.ptr 9 0]), (.t 10, [iv y13_0]), (.o 6, [.data (.slc true none 2 (List.map TChain.en l4_3.Chains)), iv l4_3.Mark]), (.o 7, [.data (.slc true none 2 (List.map TChain.en l4_4.Chains)), iv l4_4.Mark]), (.o 9, (TWrite.ob x7_1))]) (wk_of (by kernel_rfl)) (Jk24 l4_4 h)
    · refine WK.ce (b := (decide (l4_2 < (l4_1.length : Int)))) (by kernel_rfl) b6_0 ?_
      refine WK.weak (l := [(.t 6, [.ptr 6 0]), (.t 7, [.ptr 7 0]), (.o 6, [.data (.slc true none 2 (List.map TChain.en l4_3.Chains)), iv l4_3.Mark]), (.o 7, [.data (.slc true none 2 (List.map TChain.en l4_4.Chains)), iv l4_4.Mark])]) (wk_of (by kernel_rfl)) ?_
      refine WK.exit (n := 0) (by kernel_rfl) ?_
      cases some_inj h
      exact WKe.fin (e' := .exit 0) (by kernel_rfl) ⟨rfl, rfl⟩
noncomputable def diwanref13_Write (fu : Nat) (s : TStore) (pos : Int) (l : List TWrite) : Option TStore :=
  gd (decide (([] : List TChain).length + s.Chains.length ≤ 4294967296)) <|
  bd (diwanref13_Write.lp4 fu pos l (TStore.mk [] 0) fu 0 s) fun y27_0 =>
  some y27_0
theorem diwanref13_Write.meets (fu : Nat) (s : TStore) (pos : Int) (l : List TWrite) (z0 : TStore) (h : diwanref13_Write fu s pos l = some z0) : Meets Try.prog ⟨24, [.data (.agg [.slc false none 2 (List.map TChain.en s.Chains), .val (.int .i64 s.Mark)]), iv pos, .data (.slc false none 3 (List.map TWrite.en l))], []⟩ ⟨.data (.agg [.slc true none 2 (List.map TChain.en z0.Chains), .val (.int .i64 z0.Mark)]), []⟩ := by
  refine meets_of (O := diwanref13_Write.O) hmix (fn := Try.f24) (code := bd24) (by kernel_rfl) ?_
  refine WK.weak (l := [(.t 0, [.data (.agg [.slc false none 2 (List.map TChain.en s.Chains), .val (.int .i64 s.Mark)])]), (.t 1, [iv pos]), (.t 2, [.data (.slc false none 3 (List.map TWrite.en l))])]) (wk_of (by kernel_rfl)) ?_
  unfold diwanref13_Write at h
  refine WK.rs (g := []) (l' := [(.t 1, [iv pos]), (.t 2, [.data (.slc false none 3 (List.map TWrite.en l))]), (.t 3, [.ptr 3 0]), (.t 6, [.ptr 6 0]), (.o 3, [.data (.slc false none 2 (List.map TChain.en s.Chains)), iv s.Mark]), (.o 6, [.data (.slc true none 2 (List.map TChain.en [])), iv 0])]) (by kernel_rfl) .nil (by kernel_rfl) ?_
  obtain ⟨c2_1, h⟩ := gd_inv h
  refine WK.rs (g := []) (l' := [(.t 1, [iv pos]), (.t 2, [.data (.slc false none 3 (List.map TWrite.en l))]), (.t 6, [.ptr 6 0]), (.t 7, [.ptr 7 0]), (.o 6, [.data (.slc true none 2 (List.map TChain.en [])), iv 0]), (.o 7, [.data (.slc true none 2 (List.map TChain.en s.Chains)), iv s.Mark])]) (by kernel_rfl) (.cons (c_al (e := TChain.en) (f := TChain.en) c2_1) (.cons (Eq.refl true) .nil)) (by kernel_rfl) ?_
  refine WK.seq (by kernel_rfl) ?_
  refine WK.rs (g := []) (l' := [(.t 1, [iv pos]), (.t 2, [.data (.slc false none 3 (List.map TWrite.en l))]), (.t 6, [.ptr 6 0]), (.t 7, [.ptr 7 0]), (.t 8, [iv 0]), (.o 6, [.data (.slc true none 2 (List.map TChain.en [])), iv 0]), (.o 7, [.data (.slc true none 2 (List.map TChain.en s.Chains)), iv s.Mark])]) (by kernel_rfl) .nil (by kernel_rfl) ?_
  refine WK.block (n := 0) (by kernel_rfl) ?_
  obtain ⟨o27, ho27, h⟩ := bd_inv h
  refine WK.weak (l := [(.t 1, [iv pos]), (.t 2, [.data (.slc false none 3 (List.map TWrite.en l))]), (.t 6, [.ptr 6 0]), (.t 7, [.ptr 7 0]), (.t 8, [iv 0]), (.o 6, [.data (.slc true none 2 (List.map TChain.en [])), iv 0]), (.o 7, [.data (.slc true none 2 (List.map TChain.en s.Chains)), iv s.Mark])]) (wk_of (by kernel_rfl)) ?_
  refine WK.use (diwanref13_Write.lp4_ok fu pos l (TStore.mk [] 0) _ 0 s _ ho27) ?_
  intro e_ τ_ hp_
  obtain ⟨y27_0, rfl⟩ : ∃ y, y = o27 := ⟨_, rfl⟩
  obtain ⟨rfl, rfl⟩ := hp_
  refine WKe.code (y := (cR (cR (cR bd24)))) (ks' := []) (by kernel_rfl) ?_
  refine WK.rs (g := []) (l' := [(.t 6, [.ptr 6 0]), (.o 6, [.data (.slc true none 2 (List.map TChain.en y27_0.Chains)), iv y27_0.Mark])]) (by kernel_rfl) .nil (by kernel_rfl) ?_
  refine WK.weak (l := [(.t 6, [.ptr 6 0]), (.o 6, [.data (.slc true none 2 (List.map TChain.en y27_0.Chains)), iv y27_0.Mark])]) (wk_of (by kernel_rfl)) ?_
  refine WK.ret (by kernel_rfl) ?_
  have h_ := some_inj h
  subst h_
  exact WKe.fin (e' := .ret) (by kernel_rfl) (fin_of (g := []) (by first | exact .inl rfl | exact .inr rfl) .nil (by kernel_rfl))
/-- diwan/diwanref13.Fold -/
noncomputable def bd13 : Code := (Try.f13.body).getD .skip
def diwanref13_Fold.O : Nat → Nat := fun t => bif ([2, 3, 4, 5, 6, 7, 8, 9, 10, 11, 12, 13, 14, 72, 75, 78] : List Nat).any (Nat.beq t) then 1 else 0
noncomputable def diwanref13_Fold.lp18 (fu : Nat) (l18_0 : List TTxn) (l18_1 : List TSeat) (l18_2 : List Int) (l18_3 : Int) (l18_6 : TStore) (l18_7 : TStore) (l18_8 : TTxn) : Nat → Int → Int → Option Int
  | 0, _, _ => none
  | n_ + 1, l18_4, l18_5 =>
    br (decide (l18_5 < (l18_8.Reads.length : Int)))
      (br (l18_4 == 1)
        (ix l18_8.Reads l18_5 fun x21_1 =>
        bd (diwanref13_Last fu l18_7 x21_1.Key) fun r21_4 =>
        ix l18_8.Reads l18_5 fun x21_6 =>
        br (r21_4 != x21_6.Version)
          (diwanref13_Fold.lp18 fu l18_0 l18_1 l18_2 l18_3 l18_6 l18_7 l18_8 n_ 2 (w64 (l18_5 + 1)))
          (diwanref13_Fold.lp18 fu l18_0 l18_1 l18_2 l18_3 l18_6 l18_7 l18_8 n_ l18_4 (w64 (l18_5 + 1))))
        (some l18_4))
      (some l18_4)
noncomputable def diwanref13_Fold.lp18_post (l18_0 : List TTxn) (l18_1 : List TSeat) (l18_2 : List Int) (l18_3 : Int) (l18_6 : TStore) (l18_7 : TStore) (l18_8 : TTxn) (r_ : Int) : Wy → St → Prop := fun e τ => match r_ with
  | y0 => e = .exit 2 ∧ τ = ofL [(.t 0, [.data (.slc false none 4 (List.map TTxn.en l18_0))]), (.t 3, [.ptr 3 0]), (.t 5, [.ptr 5 0]), (.t 6, [.data (.slc false none 3 (List.map TSeat.en l18_1))]), (.t 7, [.data (.slc true none 1 (List.map e_i64 l18_2))]), (.t 8, [iv l18_3]), (.t 9, [.ptr 9 0]), (.t 12, [iv y0]), (.o 3, [.data (.slc true none 2 (List.map TChain.en l18_6.Chains)), iv l18_6.Mark]), (.o 5, [.data (.slc true none 2 (List.map TChain.en l18_7.Chains)), iv l18_7.Mark]), (.o 9, (TTxn.ob l18_8))]
theorem diwanref13_Fold.lp18_ok (fu : Nat) (l18_0 : List TTxn) (l18_1 : List TSeat) (l18_2 : List Int) (l18_3 : Int) (l18_6 : TStore) (l18_7 : TStore) (l18_8 : TTxn) : ∀ (n_ : Nat) (l18_4 : Int) (l18_5 : Int) (r_ : Int), diwanref13_Fold.lp18 fu l18_0 l18_1 l18_2 l18_3 l18_6 l18_7 l18_8 n_ l18_4 l18_5 = some r_ → WK Try.prog diwanref13_Fold.O (Ck Try.prog) (cB (cR (cL (cR (cR (cR (cR (cR (cB (cL (cR (cB (cB (cR (cL (cR (cR (cR (cR bd13))))))))))))))))))) [] (ofL [(.t 0, [.data (.slc false none 4 (List.map TTxn.en l18_0))]), (.t 3, [.ptr 3 0]), (.t 5, [.ptr 5 0]), (.t 6, [.data (.slc false none 3 (List.map TSeat.en l18_1))]), (.t 7, [.data (.slc true none 1 (List.map e_i64 l18_2))]), (.t 8, [iv l18_3]), (.t 9, [.ptr 9 0]), (.t 12, [iv l18_4]), (.t 13, [iv l18_5]), (.o 3, [.data (.slc true none 2 (List.map TChain.en l18_6.Chains)), iv l18_6.Mark]), (.o 5, [.data (.slc true none 2 (List.map TChain.en l18_7.Chains)), iv l18_7.Mark]), (.o 9, (TTxn.ob l18_8))]) (diwanref13_Fold.lp18_post l18_0 l18_1 l18_2 l18_3 l18_6 l18_7 l18_8 r_) := by
  intro n_
  induction n_ with
  | zero => intro l18_4 l18_5 r_ h; exact no_none h
  | succ n_ ih =>
    intro l18_4 l18_5 r_ h
    refine WK.loop (by kernel_rfl) ?_
    refine WK.seq (by kernel_rfl) ?_
    rcases br_inv h with ⟨b19_1, h⟩ | ⟨b19_1, h⟩
    · refine WK.rs (g := [.s (.t 42) [iv (l18_8.Reads.length : Int)], .b true, .b true, .b true]) (l' := [(.t 0, [.data (.slc false none 4 (List.map TTxn.en l18_0))]), (.t 3, [.ptr 3 0]), (.t 5, [.ptr 5 0]), (.t 6, [.data (.slc false none 3 (List.map TSeat.en l18_1))]), (.t 7, [.data (.slc true none 1 (List.map e_i64 l18_2))]), (.t 8, [iv l18_3]), (.t 9, [.ptr 9 0]), (.t 12, [iv l18_4]), (.t 13, [iv l18_5]), (.t 47, [bv (l18_4 == 1)]), (.o 3, [.data (.slc true none 2 (List.map TChain.en l18_6.Chains)), iv l18_6.Mark]), (.o 5, [.data (.slc true none 2 (List.map TChain.en l18_7.Chains)), iv l18_7.Mark]), (.o 9, (TTxn.ob l18_8))]) (by kernel_rfl) (.cons (c_len (e := TRead.en) (l := l18_8.Reads)) (.cons b19_1 (.cons b19_1 (.cons b19_1 .nil)))) (by kernel_rfl) ?_
      rcases br_inv h with ⟨b20_0, h⟩ | ⟨b20_0, h⟩
      · refine WK.ct (b := (l18_4 == 1)) (by kernel_rfl) b20_0 ?_
        refine WK.skip (by kernel_rfl) ?_
        refine WKe.code (y := (cR (cB (cB (cR (cL (cR (cR (cR (cR (cR (cB (cL (cR (cB (cB (cR (cL (cR (cR (cR (cR bd13)))))))))))))))))))))) (ks' := [.lp (cB (cR (cL (cR (cR (cR (cR (cR (cB (cL (cR (cB (cB (cR (cL (cR (cR (cR (cR bd13)))))))))))))))))))]) (by kernel_rfl) ?_
        refine WK.seq (by kernel_rfl) ?_
        refine WK.block (n := 3) (by kernel_rfl) ?_
        obtain ⟨x21_1, a21_2, e21_3, h⟩ := ix_inv h
        obtain ⟨r21_4, h21_5, h⟩ := bd_inv h
        obtain ⟨x21_6, a21_7, e21_8, h⟩ := ix_inv h
        refine WK.rs (g := [.c (TRead.en x21_1), .a ⟨iv r21_4, []⟩, .c (TRead.en x21_6)]) (l' := [(.t 0, [.data (.slc false none 4 (List.map TTxn.en l18_0))]), (.t 3, [.ptr 3 0]), (.t 5, [.ptr 5 0]), (.t 6, [.data (.slc false none 3 (List.map TSeat.en l18_1))]), (.t 7, [.data (.slc true none 1 (List.map e_i64 l18_2))]), (.t 8, [iv l18_3]), (.t 9, [.ptr 9 0]), (.t 12, [iv l18_4]), (.t 13, [iv l18_5]), (.t 64, [bv (r21_4 != x21_6.Version)]), (.o 3, [.data (.slc true none 2 (List.map TChain.en l18_6.Chains)), iv l18_6.Mark]), (.o 5, [.data (.slc true none 2 (List.map TChain.en l18_7.Chains)), iv l18_7.Mark]), (.o 9, (TTxn.ob l18_8))]) (by kernel_rfl) (.cons (c_ix (e := TRead.en) a21_2 e21_3) (.cons (c_el (e := TRead.en) e21_3) (.cons (Asks.of (C := Meets Try.prog) (diwanref13_Last.meets fu l18_7 x21_1.Key _ h21_5)) (.cons (c_ix (e := TRead.en) a21_7 e21_8) (.cons (c_el (e := TRead.en) e21_8) (.cons (Eq.refl true) .nil)))))) (by kernel_rfl) ?_
        rcases br_inv h with ⟨b22_0, h⟩ | ⟨b22_0, h⟩
        · refine WK.ct (b := (r21_4 != x21_6.Version)) (by kernel_rfl) b22_0 ?_
          refine WK.rc (g := []) (l' := [(.t 0, [.data (.slc false none 4 (List.map TTxn.en l18_0))]), (.t 3, [.ptr 3 0]), (.t 5, [.ptr 5 0]), (.t 6, [.data (.slc false none 3 (List.map TSeat.en l18_1))]), (.t 7, [.data (.slc true none 1 (List.map e_i64 l18_2))]), (.t 8, [iv l18_3]), (.t 9, [.ptr 9 0]), (.t 12, [iv 2]), (.t 13, [iv l18_5]), (.o 3, [.data (.slc true none 2 (List.map TChain.en l18_6.Chains)), iv l18_6.Mark]), (.o 5, [.data (.slc true none 2 (List.map TChain.en l18_7.Chains)), iv l18_7.Mark]), (.o 9, (TTxn.ob l18_8))]) .nil (by kernel_rfl) (y := (cR (cR (cB (cB (cR (cL (cR (cR (cR (cR (cR (cB (cL (cR (cB (cB (cR (cL (cR (cR (cR (cR bd13))))))))))))))))))))))) (ks' := [.lp (cB (cR (cL (cR (cR (cR (cR (cR (cB (cL (cR (cB (cB (cR (cL (cR (cR (cR (cR bd13)))))))))))))))))))]) (by kernel_rfl) ?_
          refine WK.rc (g := []) (l' := [(.t 0, [.data (.slc false none 4 (List.map TTxn.en l18_0))]), (.t 3, [.ptr 3 0]), (.t 5, [.ptr 5 0]), (.t 6, [.data (.slc false none 3 (List.map TSeat.en l18_1))]), (.t 7, [.data (.slc true none 1 (List.map e_i64 l18_2))]), (.t 8, [iv l18_3]), (.t 9, [.ptr 9 0]), (.t 12, [iv 2]), (.t 13, [iv (w64 (l18_5 + 1))]), (.o 3, [.data (.slc true none 2 (List.map TChain.en l18_6.Chains)), iv l18_6.Mark]), (.o 5, [.data (.slc true none 2 (List.map TChain.en l18_7.Chains)), iv l18_7.Mark]), (.o 9, (TTxn.ob l18_8))]) .nil (by kernel_rfl) (y := (cB (cR (cL (cR (cR (cR (cR (cR (cB (cL (cR (cB (cB (cR (cL (cR (cR (cR (cR bd13)))))))))))))))))))) (ks' := []) (by kernel_rfl) ?_
          exact WK.weak (l := [(.t 0, [.data (.slc false none 4 (List.map TTxn.en l18_0))]), (.t 3, [.ptr 3 0]), (.t 5, [.ptr 5 0]), (.t 6, [.data (.slc false none 3 (List.map TSeat.en l18_1))]), (.t 7, [.data (.slc true none 1 (List.map e_i64 l18_2))]), (.t 8, [iv l18_3]), (.t 9, [.ptr 9 0]), (.t 12, [iv 2]), (.t 13, [iv (w64 (l18_5 + 1))]), (.o 3, [.data (.slc true none 2 (List.map TChain.en l18_6.Chains)), iv l18_6.Mark]), (.o 5, [.data (.slc true none 2 (List.map TChain.en l18_7.Chains)), iv l18_7.Mark]), (.o 9, (TTxn.ob l18_8))]) (wk_of (by kernel_rfl)) (ih 2 (w64 (l18_5 + 1)) _ h)
        · refine WK.ce (b := (r21_4 != x21_6.Version)) (by kernel_rfl) b22_0 ?_
          refine WK.skip (by kernel_rfl) ?_
          refine WKe.code (y := (cR (cR (cB (cB (cR (cL (cR (cR (cR (cR (cR (cB (cL (cR (cB (cB (cR (cL (cR (cR (cR (cR bd13))))))))))))))))))))))) (ks' := [.lp (cB (cR (cL (cR (cR (cR (cR (cR (cB (cL (cR (cB (cB (cR (cL (cR (cR (cR (cR bd13)))))))))))))))))))]) (by kernel_rfl) ?_
          refine WK.rc (g := []) (l' := [(.t 0, [.data (.slc false none 4 (List.map TTxn.en l18_0))]), (.t 3, [.ptr 3 0]), (.t 5, [.ptr 5 0]), (.t 6, [.data (.slc false none 3 (List.map TSeat.en l18_1))]), (.t 7, [.data (.slc true none 1 (List.map e_i64 l18_2))]), (.t 8, [iv l18_3]), (.t 9, [.ptr 9 0]), (.t 12, [iv l18_4]), (.t 13, [iv (w64 (l18_5 + 1))]), (.o 3, [.data (.slc true none 2 (List.map TChain.en l18_6.Chains)), iv l18_6.Mark]), (.o 5, [.data (.slc true none 2 (List.map TChain.en l18_7.Chains)), iv l18_7.Mark]), (.o 9, (TTxn.ob l18_8))]) .nil (by kernel_rfl) (y := (cB (cR (cL (cR (cR (cR (cR (cR (cB (cL (cR (cB (cB (cR (cL (cR (cR (cR (cR bd13)))))))))))))))))))) (ks' := []) (by kernel_rfl) ?_
          exact WK.weak (l := [(.t 0, [.data (.slc false none 4 (List.map TTxn.en l18_0))]), (.t 3, [.ptr 3 0]), (.t 5, [.ptr 5 0]), (.t 6, [.data (.slc false none 3 (List.map TSeat.en l18_1))]), (.t 7, [.data (.slc true none 1 (List.map e_i64 l18_2))]), (.t 8, [iv l18_3]), (.t 9, [.ptr 9 0]), (.t 12, [iv l18_4]), (.t 13, [iv (w64 (l18_5 + 1))]), (.o 3, [.data (.slc true none 2 (List.map TChain.en l18_6.Chains)), iv l18_6.Mark]), (.o 5, [.data (.slc true none 2 (List.map TChain.en l18_7.Chains)), iv l18_7.Mark]), (.o 9, (TTxn.ob l18_8))]) (wk_of (by kernel_rfl)) (ih l18_4 (w64 (l18_5 + 1)) _ h)
      · refine WK.ce (b := (l18_4 == 1)) (by kernel_rfl) b20_0 ?_
        refine WK.weak (l := [(.t 0, [.data (.slc false none 4 (List.map TTxn.en l18_0))]), (.t 3, [.ptr 3 0]), (.t 5, [.ptr 5 0]), (.t 6, [.data (.slc false none 3 (List.map TSeat.en l18_1))]), (.t 7, [.data (.slc true none 1 (List.map e_i64 l18_2))]), (.t 8, [iv l18_3]), (.t 9, [.ptr 9 0]), (.t 12, [iv l18_4]), (.o 3, [.data (.slc true none 2 (List.map TChain.en l18_6.Chains)), iv l18_6.Mark]), (.o 5, [.data (.slc true none 2 (List.map TChain.en l18_7.Chains)), iv l18_7.Mark]), (.o 9, (TTxn.ob l18_8))]) (wk_of (by kernel_rfl)) ?_
        refine WK.exit (n := 2) (by kernel_rfl) ?_
        cases some_inj h
        exact WKe.fin (e' := .exit 2) (by kernel_rfl) ⟨rfl, rfl⟩
    · refine WK.rs (g := [.s (.t 42) [iv (l18_8.Reads.length : Int)], .b false, .b false, .b false]) (l' := [(.t 0, [.data (.slc false none 4 (List.map TTxn.en l18_0))]), (.t 3, [.ptr 3 0]), (.t 5, [.ptr 5 0]), (.t 6, [.data (.slc false none 3 (List.map TSeat.en l18_1))]), (.t 7, [.data (.slc true none 1 (List.map e_i64 l18_2))]), (.t 8, [iv l18_3]), (.t 9, [.ptr 9 0]), (.t 12, [iv l18_4]), (.t 13, [iv l18_5]), (.t 47, [bv false]), (.o 3, [.data (.slc true none 2 (List.map TChain.en l18_6.Chains)), iv l18_6.Mark]), (.o 5, [.data (.slc true none 2 (List.map TChain.en l18_7.Chains)), iv l18_7.Mark]), (.o 9, (TTxn.ob l18_8))]) (by kernel_rfl) (.cons (c_len (e := TRead.en) (l := l18_8.Reads)) (.cons b19_1 (.cons b19_1 (.cons b19_1 .nil)))) (by kernel_rfl) ?_
      refine WK.ce (b := false) (by kernel_rfl) rfl ?_
      refine WK.weak (l := [(.t 0, [.data (.slc false none 4 (List.map TTxn.en l18_0))]), (.t 3, [.ptr 3 0]), (.t 5, [.ptr 5 0]), (.t 6, [.data (.slc false none 3 (List.map TSeat.en l18_1))]), (.t 7, [.data (.slc true none 1 (List.map e_i64 l18_2))]), (.t 8, [iv l18_3]), (.t 9, [.ptr 9 0]), (.t 12, [iv l18_4]), (.o 3, [.data (.slc true none 2 (List.map TChain.en l18_6.Chains)), iv l18_6.Mark]), (.o 5, [.data (.slc true none 2 (List.map TChain.en l18_7.Chains)), iv l18_7.Mark]), (.o 9, (TTxn.ob l18_8))]) (wk_of (by kernel_rfl)) ?_
      refine WK.exit (n := 2) (by kernel_rfl) ?_
      cases some_inj h
      exact WKe.fin (e' := .exit 2) (by kernel_rfl) ⟨rfl, rfl⟩
noncomputable def diwanref13_Fold.lp6 (fu : Nat) (l6_0 : List TTxn) (l6_4 : TStore) : Nat → (List TSeat) → (List Int) → Int → TStore → Option (List TSeat × List Int × TStore)
  | 0, _, _, _, _ => none
  | n_ + 1, l6_1, l6_2, l6_3, l6_5 =>
    br (decide (l6_3 < (l6_0.length : Int)))
      (ix l6_0 l6_3 fun x9_1 =>
      bd (diwanref13_Turn fu l6_1 x9_1.Session x9_1.Seq (w64 (l6_3 + 1))) fun (r10_1, r10_2) =>
      jn (fun (j16_4 : Int) =>
        bd (diwanref13_Fold.lp18 fu l6_0 r10_1 l6_2 l6_3 l6_4 l6_5 x9_1 fu j16_4 0) fun y26_0 =>
        br (y26_0 == 1)
          (bd (diwanref13_Write fu l6_5 (w64 (l6_3 + 1)) x9_1.Writes) fun r29_1 =>
          gd (decide (l6_2.length + ([y26_0] : List Int).length ≤ 4294967296)) <|
          diwanref13_Fold.lp6 fu l6_0 l6_4 n_ r10_1 (l6_2 ++ ([y26_0] : List Int)) (w64 (l6_3 + 1)) r29_1)
          (gd (decide (l6_2.length + ([y26_0] : List Int).length ≤ 4294967296)) <|
          diwanref13_Fold.lp6 fu l6_0 l6_4 n_ r10_1 (l6_2 ++ ([y26_0] : List Int)) (w64 (l6_3 + 1)) l6_5)) fun k16 =>
      br (!r10_2)
        (k16 3)
        (k16 1))
      (some (l6_1, l6_2, l6_5))
noncomputable def diwanref13_Fold.lp6_post (l6_0 : List TTxn) (l6_4 : TStore) (r_ : (List TSeat × List Int × TStore)) : Wy → St → Prop := fun e τ => match r_ with
  | (y0, y1, y2) => e = .exit 0 ∧ τ = ofL [(.t 3, [.ptr 3 0]), (.t 5, [.ptr 5 0]), (.t 6, [.data (.slc false none 3 (List.map TSeat.en y0))]), (.t 7, [.data (.slc true none 1 (List.map e_i64 y1))]), (.o 3, [.data (.slc true none 2 (List.map TChain.en l6_4.Chains)), iv l6_4.Mark]), (.o 5, [.data (.slc true none 2 (List.map TChain.en y2.Chains)), iv y2.Mark])]
theorem diwanref13_Fold.lp6_ok (fu : Nat) (l6_0 : List TTxn) (l6_4 : TStore) : ∀ (n_ : Nat) (l6_1 : List TSeat) (l6_2 : List Int) (l6_3 : Int) (l6_5 : TStore) (r_ : (List TSeat × List Int × TStore)), diwanref13_Fold.lp6 fu l6_0 l6_4 n_ l6_1 l6_2 l6_3 l6_5 = some r_ → WK Try.prog diwanref13_Fold.O (Ck Try.prog) (cB (cR (cL (cR (cR (cR (cR bd13))))))) [] (ofL [(.t 0, [.data (.slc false none 4 (List.map TTxn.en l6_0))]), (.t 3, [.ptr 3 0]), (.t 5, [.ptr 5 0]), (.t 6, [.data (.slc false none 3 (List.map TSeat.en l6_1))]), (.t 7, [.data (.slc true none 1 (List.map e_i64 l6_2))]), (.t 8, [iv l6_3]), (.o 3, [.data (.slc true none 2 (List.map TChain.en l6_4.Chains)), iv l6_4.Mark]), (.o 5, [.data (.slc true none 2 (List.map TChain.en l6_5.Chains)), iv l6_5.Mark])]) (diwanref13_Fold.lp6_post l6_0 l6_4 r_) := by
  intro n_
  induction n_ with
  | zero => intro l6_1 l6_2 l6_3 l6_5 r_ h; exact no_none h
  | succ n_ ih =>
    intro l6_1 l6_2 l6_3 l6_5 r_ h
    refine WK.loop (by kernel_rfl) ?_
    refine WK.seq (by kernel_rfl) ?_
    refine WK.rs (g := [.s (.t 17) [iv (l6_0.length : Int)]]) (l' := [(.t 0, [.data (.slc false none 4 (List.map TTxn.en l6_0))]), (.t 3, [.ptr 3 0]), (.t 5, [.ptr 5 0]), (.t 6, [.data (.slc false none 3 (List.map TSeat.en l6_1))]), (.t 7, [.data (.slc true none 1 (List.map e_i64 l6_2))]), (.t 8, [iv l6_3]), (.t 18, [bv (decide (l6_3 < (l6_0.length : Int)))]), (.o 3, [.data (.slc true none 2 (List.map TChain.en l6_4.Chains)), iv l6_4.Mark]), (.o 5, [.data (.slc true none 2 (List.map TChain.en l6_5.Chains)), iv l6_5.Mark])]) (by kernel_rfl) (.cons (c_len (e := TTxn.en) (l := l6_0)) .nil) (by kernel_rfl) ?_
    rcases br_inv h with ⟨b8_0, h⟩ | ⟨b8_0, h⟩
    · refine WK.ct (b := (decide (l6_3 < (l6_0.length : Int)))) (by kernel_rfl) b8_0 ?_
      refine WK.skip (by kernel_rfl) ?_
      refine WKe.code (y := (cR (cB (cB (cR (cL (cR (cR (cR (cR bd13)))))))))) (ks' := [.lp (cB (cR (cL (cR (cR (cR (cR bd13)))))))]) (by kernel_rfl) ?_
      refine WK.seq (by kernel_rfl) ?_
      refine WK.block (n := 1) (by kernel_rfl) ?_
      obtain ⟨x9_1, a9_2, e9_3, h⟩ := ix_inv h
      refine WK.rs (g := [.c (TTxn.en x9_1)]) (l' := [(.t 0, [.data (.slc false none 4 (List.map TTxn.en l6_0))]), (.t 3, [.ptr 3 0]), (.t 5, [.ptr 5 0]), (.t 6, [.data (.slc false none 3 (List.map TSeat.en l6_1))]), (.t 7, [.data (.slc true none 1 (List.map e_i64 l6_2))]), (.t 8, [iv l6_3]), (.t 9, [.ptr 9 0]), (.o 3, [.data (.slc true none 2 (List.map TChain.en l6_4.Chains)), iv l6_4.Mark]), (.o 5, [.data (.slc true none 2 (List.map TChain.en l6_5.Chains)), iv l6_5.Mark]), (.o 9, (TTxn.ob x9_1))]) (by kernel_rfl) (.cons (c_ix (e := TTxn.en) a9_2 e9_3) (.cons (c_el (e := TTxn.en) e9_3) .nil)) (by kernel_rfl) ?_
      obtain ⟨⟨r10_1, r10_2⟩, h10_3, h⟩ := bd_inv h
      refine WK.rs (g := [.a ⟨.tup [.data (.slc false none 3 (List.map TSeat.en r10_1)), bv r10_2], []⟩]) (l' := [(.t 0, [.data (.slc false none 4 (List.map TTxn.en l6_0))]), (.t 3, [.ptr 3 0]), (.t 5, [.ptr 5 0]), (.t 7, [.data (.slc true none 1 (List.map e_i64 l6_2))]), (.t 8, [iv l6_3]), (.t 9, [.ptr 9 0]), (.t 10, [.data (.slc false none 3 (List.map TSeat.en r10_1))]), (.t 11, [bv r10_2]), (.o 3, [.data (.slc true none 2 (List.map TChain.en l6_4.Chains)), iv l6_4.Mark]), (.o 5, [.data (.slc true none 2 (List.map TChain.en l6_5.Chains)), iv l6_5.Mark]), (.o 9, (TTxn.ob x9_1))]) (by kernel_rfl) (.cons (Asks.of (C := Meets Try.prog) (diwanref13_Turn.meets fu l6_1 x9_1.Session x9_1.Seq (w64 (l6_3 + 1)) _ _ h10_3)) .nil) (by kernel_rfl) ?_
      refine WK.rs (g := []) (l' := [(.t 0, [.data (.slc false none 4 (List.map TTxn.en l6_0))]), (.t 3, [.ptr 3 0]), (.t 5, [.ptr 5 0]), (.t 6, [.data (.slc false none 3 (List.map TSeat.en r10_1))]), (.t 7, [.data (.slc true none 1 (List.map e_i64 l6_2))]), (.t 8, [iv l6_3]), (.t 9, [.ptr 9 0]), (.t 11, [bv r10_2]), (.o 3, [.data (.slc true none 2 (List.map TChain.en l6_4.Chains)), iv l6_4.Mark]), (.o 5, [.data (.slc true none 2 (List.map TChain.en l6_5.Chains)), iv l6_5.Mark]), (.o 9, (TTxn.ob x9_1))]) (by kernel_rfl) .nil (by kernel_rfl) ?_
      refine WK.rs (g := []) (l' := [(.t 0, [.data (.slc false none 4 (List.map TTxn.en l6_0))]), (.t 3, [.ptr 3 0]), (.t 5, [.ptr 5 0]), (.t 6, [.data (.slc false none 3 (List.map TSeat.en r10_1))]), (.t 7, [.data (.slc true none 1 (List.map e_i64 l6_2))]), (.t 8, [iv l6_3]), (.t 9, [.ptr 9 0]), (.t 11, [bv r10_2]), (.t 12, [iv 1]), (.o 3, [.data (.slc true none 2 (List.map TChain.en l6_4.Chains)), iv l6_4.Mark]), (.o 5, [.data (.slc true none 2 (List.map TChain.en l6_5.Chains)), iv l6_5.Mark]), (.o 9, (TTxn.ob x9_1))]) (by kernel_rfl) .nil (by kernel_rfl) ?_
      obtain ⟨k16, hk16, h⟩ := jn_inv h
      have Jk16 : ∀ (j16_4 : Int), k16 j16_4 = some r_ → WK Try.prog diwanref13_Fold.O (Ck Try.prog) (cR (cR (cR (cR (cR (cB (cL (cR (cB (cB (cR (cL (cR (cR (cR (cR bd13)))))))))))))))) [.blk 1, .seq (cR (cR (cB (cB (cR (cL (cR (cR (cR (cR bd13)))))))))), .lp (cB (cR (cL (cR (cR (cR (cR bd13)))))))] (ofL [(.t 0, [.data (.slc false none 4 (List.map TTxn.en l6_0))]), (.t 3, [.ptr 3 0]), (.t 5, [.ptr 5 0]), (.t 6, [.data (.slc false none 3 (List.map TSeat.en r10_1))]), (.t 7, [.data (.slc true none 1 (List.map e_i64 l6_2))]), (.t 8, [iv l6_3]), (.t 9, [.ptr 9 0]), (.t 12, [iv j16_4]), (.o 3, [.data (.slc true none 2 (List.map TChain.en l6_4.Chains)), iv l6_4.Mark]), (.o 5, [.data (.slc true none 2 (List.map TChain.en l6_5.Chains)), iv l6_5.Mark]), (.o 9, (TTxn.ob x9_1))]) (diwanref13_Fold.lp6_post l6_0 l6_4 r_) := by
        intro j16_4 h
        rw [hk16] at h
        refine WK.seq (by kernel_rfl) ?_
        refine WK.rs (g := []) (l' := [(.t 0, [.data (.slc false none 4 (List.map TTxn.en l6_0))]), (.t 3, [.ptr 3 0]), (.t 5, [.ptr 5 0]), (.t 6, [.data (.slc false none 3 (List.map TSeat.en r10_1))]), (.t 7, [.data (.slc true none 1 (List.map e_i64 l6_2))]), (.t 8, [iv l6_3]), (.t 9, [.ptr 9 0]), (.t 12, [iv j16_4]), (.t 13, [iv 0]), (.o 3, [.data (.slc true none 2 (List.map TChain.en l6_4.Chains)), iv l6_4.Mark]), (.o 5, [.data (.slc true none 2 (List.map TChain.en l6_5.Chains)), iv l6_5.Mark]), (.o 9, (TTxn.ob x9_1))]) (by kernel_rfl) .nil (by kernel_rfl) ?_
        refine WK.block (n := 2) (by kernel_rfl) ?_
        obtain ⟨o26, ho26, h⟩ := bd_inv h
        refine WK.weak (l := [(.t 0, [.data (.slc false none 4 (List.map TTxn.en l6_0))]), (.t 3, [.ptr 3 0]), (.t 5, [.ptr 5 0]), (.t 6, [.data (.slc false none 3 (List.map TSeat.en r10_1))]), (.t 7, [.data (.slc true none 1 (List.map e_i64 l6_2))]), (.t 8, [iv l6_3]), (.t 9, [.ptr 9 0]), (.t 12, [iv j16_4]), (.t 13, [iv 0]), (.o 3, [.data (.slc true none 2 (List.map TChain.en l6_4.Chains)), iv l6_4.Mark]), (.o 5, [.data (.slc true none 2 (List.map TChain.en l6_5.Chains)), iv l6_5.Mark]), (.o 9, (TTxn.ob x9_1))]) (wk_of (by kernel_rfl)) ?_
        refine WK.use (diwanref13_Fold.lp18_ok fu l6_0 r10_1 l6_2 l6_3 l6_4 l6_5 x9_1 _ j16_4 0 _ ho26) ?_
        intro e_ τ_ hp_
        obtain ⟨y26_0, rfl⟩ : ∃ y, y = o26 := ⟨_, rfl⟩
        obtain ⟨rfl, rfl⟩ := hp_
        refine WKe.code (y := (cR (cR (cR (cR (cR (cR (cB (cL (cR (cB (cB (cR (cL (cR (cR (cR (cR bd13)))))))))))))))))) (ks' := [.blk 1, .seq (cR (cR (cB (cB (cR (cL (cR (cR (cR (cR bd13)))))))))), .lp (cB (cR (cL (cR (cR (cR (cR bd13)))))))]) (by kernel_rfl) ?_
        refine WK.seq (by kernel_rfl) ?_
        refine WK.rs (g := []) (l' := [(.t 0, [.data (.slc false none 4 (List.map TTxn.en l6_0))]), (.t 3, [.ptr 3 0]), (.t 5, [.ptr 5 0]), (.t 6, [.data (.slc false none 3 (List.map TSeat.en r10_1))]), (.t 7, [.data (.slc true none 1 (List.map e_i64 l6_2))]), (.t 8, [iv l6_3]), (.t 9, [.ptr 9 0]), (.t 12, [iv y26_0]), (.t 66, [bv (y26_0 == 1)]), (.o 3, [.data (.slc true none 2 (List.map TChain.en l6_4.Chains)), iv l6_4.Mark]), (.o 5, [.data (.slc true none 2 (List.map TChain.en l6_5.Chains)), iv l6_5.Mark]), (.o 9, (TTxn.ob x9_1))]) (by kernel_rfl) .nil (by kernel_rfl) ?_
        rcases br_inv h with ⟨b28_0, h⟩ | ⟨b28_0, h⟩
        · refine WK.ct (b := (y26_0 == 1)) (by kernel_rfl) b28_0 ?_
          obtain ⟨r29_1, h29_2, h⟩ := bd_inv h
          refine WK.rc (g := [.a ⟨.data (.agg [.slc true none 2 (List.map TChain.en r29_1.Chains), .val (.int .i64 r29_1.Mark)]), []⟩]) (l' := [(.t 0, [.data (.slc false none 4 (List.map TTxn.en l6_0))]), (.t 3, [.ptr 3 0]), (.t 5, [.ptr 5 0]), (.t 6, [.data (.slc false none 3 (List.map TSeat.en r10_1))]), (.t 7, [.data (.slc true none 1 (List.map e_i64 l6_2))]), (.t 8, [iv l6_3]), (.t 12, [iv y26_0]), (.o 3, [.data (.slc true none 2 (List.map TChain.en l6_4.Chains)), iv l6_4.Mark]), (.o 5, [.data (.slc true none 2 (List.map TChain.en r29_1.Chains)), iv r29_1.Mark])]) (.cons (Asks.of (C := Meets Try.prog) (diwanref13_Write.meets fu l6_5 (w64 (l6_3 + 1)) x9_1.Writes _ h29_2)) .nil) (by kernel_rfl) (y := (cR (cR (cR (cR (cR (cR (cR (cB (cL (cR (cB (cB (cR (cL (cR (cR (cR (cR bd13))))))))))))))))))) (ks' := [.blk 1, .seq (cR (cR (cB (cB (cR (cL (cR (cR (cR (cR bd13)))))))))), .lp (cB (cR (cL (cR (cR (cR (cR bd13)))))))]) (by kernel_rfl) ?_
          obtain ⟨c30_1, h⟩ := gd_inv h
          refine WK.rc (g := [.s (.t 76) [.data (.slc true none 1 (List.map e_i64 (l6_2 ++ ([y26_0] : List Int))))]]) (l' := [(.t 0, [.data (.slc false none 4 (List.map TTxn.en l6_0))]), (.t 3, [.ptr 3 0]), (.t 5, [.ptr 5 0]), (.t 6, [.data (.slc false none 3 (List.map TSeat.en r10_1))]), (.t 7, [.data (.slc true none 1 (List.map e_i64 (l6_2 ++ ([y26_0] : List Int))))]), (.t 8, [iv l6_3]), (.o 3, [.data (.slc true none 2 (List.map TChain.en l6_4.Chains)), iv l6_4.Mark]), (.o 5, [.data (.slc true none 2 (List.map TChain.en r29_1.Chains)), iv r29_1.Mark])]) (.cons (c_al (e := e_i64) (f := e_i64) c30_1) (.cons (congrArg (fun d : DV => [AV.data d]) (c_app (e := e_i64) (s := 1) (l := l6_2) (m := ([y26_0] : List Int)))) .nil)) (by kernel_rfl) (y := (cR (cR (cB (cB (cR (cL (cR (cR (cR (cR bd13))))))))))) (ks' := [.lp (cB (cR (cL (cR (cR (cR (cR bd13)))))))]) (by kernel_rfl) ?_
          refine WK.rc (g := []) (l' := [(.t 0, [.data (.slc false none 4 (List.map TTxn.en l6_0))]), (.t 3, [.ptr 3 0]), (.t 5, [.ptr 5 0]), (.t 6, [.data (.slc false none 3 (List.map TSeat.en r10_1))]), (.t 7, [.data (.slc true none 1 (List.map e_i64 (l6_2 ++ ([y26_0] : List Int))))]), (.t 8, [iv (w64 (l6_3 + 1))]), (.o 3, [.data (.slc true none 2 (List.map TChain.en l6_4.Chains)), iv l6_4.Mark]), (.o 5, [.data (.slc true none 2 (List.map TChain.en r29_1.Chains)), iv r29_1.Mark])]) .nil (by kernel_rfl) (y := (cB (cR (cL (cR (cR (cR (cR bd13)))))))) (ks' := []) (by kernel_rfl) ?_
          exact WK.weak (l := [(.t 0, [.data (.slc false none 4 (List.map TTxn.en l6_0))]), (.t 3, [.ptr 3 0]), (.t 5, [.ptr 5 0]), (.t 6, [.data (.slc false none 3 (List.map TSeat.en r10_1))]), (.t 7, [.data (.slc true none 1 (List.map e_i64 (l6_2 ++ ([y26_0] : List Int))))]), (.t 8, [iv (w64 (l6_3 + 1))]), (.o 3, [.data (.slc true none 2 (List.map TChain.en l6_4.Chains)), iv l6_4.Mark]), (.o 5, [.data (.slc true none 2 (List.map TChain.en r29_1.Chains)), iv r29_1.Mark])]) (wk_of (by kernel_rfl)) (ih r10_1 (l6_2 ++ ([y26_0] : List Int)) (w64 (l6_3 + 1)) r29_1 _ h)
        · refine WK.ce (b := (y26_0 == 1)) (by kernel_rfl) b28_0 ?_
          refine WK.skip (by kernel_rfl) ?_
          refine WKe.code (y := (cR (cR (cR (cR (cR (cR (cR (cB (cL (cR (cB (cB (cR (cL (cR (cR (cR (cR bd13))))))))))))))))))) (ks' := [.blk 1, .seq (cR (cR (cB (cB (cR (cL (cR (cR (cR (cR bd13)))))))))), .lp (cB (cR (cL (cR (cR (cR (cR bd13)))))))]) (by kernel_rfl) ?_
          obtain ⟨c32_1, h⟩ := gd_inv h
          refine WK.rc (g := [.s (.t 76) [.data (.slc true none 1 (List.map e_i64 (l6_2 ++ ([y26_0] : List Int))))]]) (l' := [(.t 0, [.data (.slc false none 4 (List.map TTxn.en l6_0))]), (.t 3, [.ptr 3 0]), (.t 5, [.ptr 5 0]), (.t 6, [.data (.slc false none 3 (List.map TSeat.en r10_1))]), (.t 7, [.data (.slc true none 1 (List.map e_i64 (l6_2 ++ ([y26_0] : List Int))))]), (.t 8, [iv l6_3]), (.o 3, [.data (.slc true none 2 (List.map TChain.en l6_4.Chains)), iv l6_4.Mark]), (.o 5, [.data (.slc true none 2 (List.map TChain.en l6_5.Chains)), iv l6_5.Mark])]) (.cons (c_al (e := e_i64) (f := e_i64) c32_1) (.cons (congrArg (fun d : DV => [AV.data d]) (c_app (e := e_i64) (s := 1) (l := l6_2) (m := ([y26_0] : List Int)))) .nil)) (by kernel_rfl) (y := (cR (cR (cB (cB (cR (cL (cR (cR (cR (cR bd13))))))))))) (ks' := [.lp (cB (cR (cL (cR (cR (cR (cR bd13)))))))]) (by kernel_rfl) ?_
          refine WK.rc (g := []) (l' := [(.t 0, [.data (.slc false none 4 (List.map TTxn.en l6_0))]), (.t 3, [.ptr 3 0]), (.t 5, [.ptr 5 0]), (.t 6, [.data (.slc false none 3 (List.map TSeat.en r10_1))]), (.t 7, [.data (.slc true none 1 (List.map e_i64 (l6_2 ++ ([y26_0] : List Int))))]), (.t 8, [iv (w64 (l6_3 + 1))]), (.o 3, [.data (.slc true none 2 (List.map TChain.en l6_4.Chains)), iv l6_4.Mark]), (.o 5, [.data (.slc true none 2 (List.map TChain.en l6_5.Chains)), iv l6_5.Mark])]) .nil (by kernel_rfl) (y := (cB (cR (cL (cR (cR (cR (cR bd13)))))))) (ks' := []) (by kernel_rfl) ?_
          exact WK.weak (l := [(.t 0, [.data (.slc false none 4 (List.map TTxn.en l6_0))]), (.t 3, [.ptr 3 0]), (.t 5, [.ptr 5 0]), (.t 6, [.data (.slc false none 3 (List.map TSeat.en r10_1))]), (.t 7, [.data (.slc true none 1 (List.map e_i64 (l6_2 ++ ([y26_0] : List Int))))]), (.t 8, [iv (w64 (l6_3 + 1))]), (.o 3, [.data (.slc true none 2 (List.map TChain.en l6_4.Chains)), iv l6_4.Mark]), (.o 5, [.data (.slc true none 2 (List.map TChain.en l6_5.Chains)), iv l6_5.Mark])]) (wk_of (by kernel_rfl)) (ih r10_1 (l6_2 ++ ([y26_0] : List Int)) (w64 (l6_3 + 1)) l6_5 _ h)
      clear hk16
      refine WK.seq (by kernel_rfl) ?_
      refine WK.rs (g := []) (l' := [(.t 0, [.data (.slc false none 4 (List.map TTxn.en l6_0))]), (.t 3, [.ptr 3 0]), (.t 5, [.ptr 5 0]), (.t 6, [.data (.slc false none 3 (List.map TSeat.en r10_1))]), (.t 7, [.data (.slc true none 1 (List.map e_i64 l6_2))]), (.t 8, [iv l6_3]), (.t 9, [.ptr 9 0]), (.t 12, [iv 1]), (.t 38, [bv (!r10_2)]), (.o 3, [.data (.slc true none 2 (List.map TChain.en l6_4.Chains)), iv l6_4.Mark]), (.o 5, [.data (.slc true none 2 (List.map TChain.en l6_5.Chains)), iv l6_5.Mark]), (.o 9, (TTxn.ob x9_1))]) (by kernel_rfl) .nil (by kernel_rfl) ?_
      rcases br_inv h with ⟨b14_0, h⟩ | ⟨b14_0, h⟩
      · refine WK.ct (b := (!r10_2)) (by kernel_rfl) b14_0 ?_
        refine WK.rc (g := []) (l' := [(.t 0, [.data (.slc false none 4 (List.map TTxn.en l6_0))]), (.t 3, [.ptr 3 0]), (.t 5, [.ptr 5 0]), (.t 6, [.data (.slc false none 3 (List.map TSeat.en r10_1))]), (.t 7, [.data (.slc true none 1 (List.map e_i64 l6_2))]), (.t 8, [iv l6_3]), (.t 9, [.ptr 9 0]), (.t 12, [iv 3]), (.o 3, [.data (.slc true none 2 (List.map TChain.en l6_4.Chains)), iv l6_4.Mark]), (.o 5, [.data (.slc true none 2 (List.map TChain.en l6_5.Chains)), iv l6_5.Mark]), (.o 9, (TTxn.ob x9_1))]) .nil (by kernel_rfl) (y := (cR (cR (cR (cR (cR (cB (cL (cR (cB (cB (cR (cL (cR (cR (cR (cR bd13))))))))))))))))) (ks' := [.blk 1, .seq (cR (cR (cB (cB (cR (cL (cR (cR (cR (cR bd13)))))))))), .lp (cB (cR (cL (cR (cR (cR (cR bd13)))))))]) (by kernel_rfl) ?_
        exact WK.weak (l := [(.t 0, [.data (.slc false none 4 (List.map TTxn.en l6_0))]), (.t 3, [.ptr 3 0]), (.t 5, [.ptr 5 0]), (.t 6, [.data (.slc false none 3 (List.map TSeat.en r10_1))]), (.t 7, [.data (.slc true none 1 (List.map e_i64 l6_2))]), (.t 8, [iv l6_3]), (.t 9, [.ptr 9 0]), (.t 12, [iv 3]), (.o 3, [.data (.slc true none 2 (List.map TChain.en l6_4.Chains)), iv l6_4.Mark]), (.o 5, [.data (.slc true none 2 (List.map TChain.en l6_5.Chains)), iv l6_5.Mark]), (.o 9, (TTxn.ob x9_1))]) (wk_of (by kernel_rfl)) (Jk16 3 h)
      · refine WK.ce (b := (!r10_2)) (by kernel_rfl) b14_0 ?_
        refine WK.skip (by kernel_rfl) ?_
        refine WKe.code (y := (cR (cR (cR (cR (cR (cB (cL (cR (cB (cB (cR (cL (cR (cR (cR (cR bd13))))))))))))))))) (ks' := [.blk 1, .seq (cR (cR (cB (cB (cR (cL (cR (cR (cR (cR bd13)))))))))), .lp (cB (cR (cL (cR (cR (cR (cR bd13)))))))]) (by kernel_rfl) ?_
        exact WK.weak (l := [(.t 0, [.data (.slc false none 4 (List.map TTxn.en l6_0))]), (.t 3, [.ptr 3 0]), (.t 5, [.ptr 5 0]), (.t 6, [.data (.slc false none 3 (List.map TSeat.en r10_1))]), (.t 7, [.data (.slc true none 1 (List.map e_i64 l6_2))]), (.t 8, [iv l6_3]), (.t 9, [.ptr 9 0]), (.t 12, [iv 1]), (.o 3, [.data (.slc true none 2 (List.map TChain.en l6_4.Chains)), iv l6_4.Mark]), (.o 5, [.data (.slc true none 2 (List.map TChain.en l6_5.Chains)), iv l6_5.Mark]), (.o 9, (TTxn.ob x9_1))]) (wk_of (by kernel_rfl)) (Jk16 1 h)
    · refine WK.ce (b := (decide (l6_3 < (l6_0.length : Int)))) (by kernel_rfl) b8_0 ?_
      refine WK.weak (l := [(.t 3, [.ptr 3 0]), (.t 5, [.ptr 5 0]), (.t 6, [.data (.slc false none 3 (List.map TSeat.en l6_1))]), (.t 7, [.data (.slc true none 1 (List.map e_i64 l6_2))]), (.o 3, [.data (.slc true none 2 (List.map TChain.en l6_4.Chains)), iv l6_4.Mark]), (.o 5, [.data (.slc true none 2 (List.map TChain.en l6_5.Chains)), iv l6_5.Mark])]) (wk_of (by kernel_rfl)) ?_
      refine WK.exit (n := 0) (by kernel_rfl) ?_
      cases some_inj h
      exact WKe.fin (e' := .exit 0) (by kernel_rfl) ⟨rfl, rfl⟩
noncomputable def diwanref13_Fold (fu : Nat) (l : List TTxn) : Option (List Int × TStore × List TSeat) :=
  bd (diwanref13_Fold.lp6 fu l (TStore.mk [] 0) fu [] [] 0 (TStore.mk [] 0)) fun (y34_0, y34_1, y34_2) =>
  some (y34_1, y34_2, y34_0)
theorem diwanref13_Fold.meets (fu : Nat) (l : List TTxn) (z0 : List Int) (z1 : TStore) (z2 : List TSeat) (h : diwanref13_Fold fu l = some (z0, z1, z2)) : Meets Try.prog ⟨13, [.data (.slc false none 4 (List.map TTxn.en l))], []⟩ ⟨.tup [.data (.slc false none 1 (List.map e_i64 z0)), .data (.agg [.slc false none 2 (List.map TChain.en z1.Chains), .val (.int .i64 z1.Mark)]), .data (.slc false none 3 (List.map TSeat.en z2))], []⟩ := by
  refine meets_of (O := diwanref13_Fold.O) hmix (fn := Try.f13) (code := bd13) (by kernel_rfl) ?_
  refine WK.weak (l := [(.t 0, [.data (.slc false none 4 (List.map TTxn.en l))])]) (wk_of (by kernel_rfl)) ?_
  unfold diwanref13_Fold at h
  refine WK.rs (g := []) (l' := [(.t 0, [.data (.slc false none 4 (List.map TTxn.en l))]), (.t 3, [.ptr 3 0]), (.o 3, [.data (.slc true none 2 (List.map TChain.en [])), iv 0])]) (by kernel_rfl) .nil (by kernel_rfl) ?_
  refine WK.rs (g := []) (l' := [(.t 0, [.data (.slc false none 4 (List.map TTxn.en l))]), (.t 3, [.ptr 3 0]), (.t 5, [.ptr 5 0]), (.o 3, [.data (.slc true none 2 (List.map TChain.en [])), iv 0]), (.o 5, [.data (.slc true none 2 (List.map TChain.en [])), iv 0])]) (by kernel_rfl) .nil (by kernel_rfl) ?_
  refine WK.rs (g := []) (l' := [(.t 0, [.data (.slc false none 4 (List.map TTxn.en l))]), (.t 3, [.ptr 3 0]), (.t 5, [.ptr 5 0]), (.t 6, [.data (.slc true (some true) 3 (List.map TSeat.en []))]), (.o 3, [.data (.slc true none 2 (List.map TChain.en [])), iv 0]), (.o 5, [.data (.slc true none 2 (List.map TChain.en [])), iv 0])]) (by kernel_rfl) .nil (by kernel_rfl) ?_
  refine WK.rs (g := []) (l' := [(.t 0, [.data (.slc false none 4 (List.map TTxn.en l))]), (.t 3, [.ptr 3 0]), (.t 5, [.ptr 5 0]), (.t 6, [.data (.slc true (some true) 3 (List.map TSeat.en []))]), (.t 7, [.data (.slc true (some true) 1 (List.map e_i64 []))]), (.o 3, [.data (.slc true none 2 (List.map TChain.en [])), iv 0]), (.o 5, [.data (.slc true none 2 (List.map TChain.en [])), iv 0])]) (by kernel_rfl) .nil (by kernel_rfl) ?_
  refine WK.seq (by kernel_rfl) ?_
  refine WK.rs (g := []) (l' := [(.t 0, [.data (.slc false none 4 (List.map TTxn.en l))]), (.t 3, [.ptr 3 0]), (.t 5, [.ptr 5 0]), (.t 6, [.data (.slc true (some true) 3 (List.map TSeat.en []))]), (.t 7, [.data (.slc true (some true) 1 (List.map e_i64 []))]), (.t 8, [iv 0]), (.o 3, [.data (.slc true none 2 (List.map TChain.en [])), iv 0]), (.o 5, [.data (.slc true none 2 (List.map TChain.en [])), iv 0])]) (by kernel_rfl) .nil (by kernel_rfl) ?_
  refine WK.block (n := 0) (by kernel_rfl) ?_
  refine WK.share (x := .tmp 6) (l' := [(.t 0, [.data (.slc false none 4 (List.map TTxn.en l))]), (.t 3, [.ptr 3 0]), (.t 5, [.ptr 5 0]), (.t 6, [.data (.slc false (some true) 3 (List.map TSeat.en []))]), (.t 7, [.data (.slc true (some true) 1 (List.map e_i64 []))]), (.t 8, [iv 0]), (.o 3, [.data (.slc true none 2 (List.map TChain.en [])), iv 0]), (.o 5, [.data (.slc true none 2 (List.map TChain.en [])), iv 0])]) (by kernel_rfl) ?_
  obtain ⟨o34, ho34, h⟩ := bd_inv h
  refine WK.weak (l := [(.t 0, [.data (.slc false none 4 (List.map TTxn.en l))]), (.t 3, [.ptr 3 0]), (.t 5, [.ptr 5 0]), (.t 6, [.data (.slc false none 3 (List.map TSeat.en []))]), (.t 7, [.data (.slc true none 1 (List.map e_i64 []))]), (.t 8, [iv 0]), (.o 3, [.data (.slc true none 2 (List.map TChain.en [])), iv 0]), (.o 5, [.data (.slc true none 2 (List.map TChain.en [])), iv 0])]) (wk_of (by kernel_rfl)) ?_
  refine WK.use (diwanref13_Fold.lp6_ok fu l (TStore.mk [] 0) _ [] [] 0 (TStore.mk [] 0) _ ho34) ?_
  intro e_ τ_ hp_
  obtain ⟨y34_0, y34_1, y34_2⟩ := o34
  obtain ⟨rfl, rfl⟩ := hp_
  refine WKe.code (y := (cR (cR (cR (cR (cR bd13)))))) (ks' := []) (by kernel_rfl) ?_
  refine WK.rs (g := []) (l' := [(.t 2, [.data (.slc true none 1 (List.map e_i64 y34_1))]), (.t 3, [.ptr 3 0]), (.t 4, [.data (.slc false none 3 (List.map TSeat.en y34_0))]), (.o 3, [.data (.slc true none 2 (List.map TChain.en y34_2.Chains)), iv y34_2.Mark])]) (by kernel_rfl) (.cons (Eq.refl true) .nil) (by kernel_rfl) ?_
  refine WK.weak (l := [(.t 2, [.data (.slc true none 1 (List.map e_i64 y34_1))]), (.t 3, [.ptr 3 0]), (.t 4, [.data (.slc false none 3 (List.map TSeat.en y34_0))]), (.o 3, [.data (.slc true none 2 (List.map TChain.en y34_2.Chains)), iv y34_2.Mark])]) (wk_of (by kernel_rfl)) ?_
  refine WK.ret (by kernel_rfl) ?_
  have h_0 := some_inj h
  obtain ⟨g_1, h_1⟩ := Prod.mk.inj h_0
  obtain ⟨g_2, h_2⟩ := Prod.mk.inj h_1
  subst g_1
  subst g_2
  subst h_2
  exact WKe.fin (e' := .ret) (by kernel_rfl) (fin_of (g := []) (by first | exact .inl rfl | exact .inr rfl) .nil (by kernel_rfl))
/-- diwan/diwanref13.SameInts -/
noncomputable def bd14 : Code := (Try.f14.body).getD .skip
def diwanref13_SameInts.O : Nat → Nat := fun t => bif ([4, 5] : List Nat).any (Nat.beq t) then 1 else 0
noncomputable def diwanref13_SameInts.lp6 (fu : Nat) (l6_0 : List Int) (l6_1 : List Int) : Nat → Int → Option (Unit ⊕ Unit)
  | 0, _ => none
  | n_ + 1, l6_2 =>
    br (decide (l6_2 < (l6_0.length : Int)))
      (ix l6_0 l6_2 fun x9_1 =>
      ix l6_1 l6_2 fun x9_4 =>
      br (x9_1 != x9_4)
        (some (.inr ()))
        (diwanref13_SameInts.lp6 fu l6_0 l6_1 n_ (w64 (l6_2 + 1))))
      (some (.inl ()))
noncomputable def diwanref13_SameInts.lp6_post (l6_0 : List Int) (l6_1 : List Int) (r_ : (Unit ⊕ Unit)) : Wy → St → Prop := fun e τ => match r_ with
  | .inl _ => e = .exit 0 ∧ τ = ofL []
  | .inr _ => e = .ret ∧ τ = ofL [(.t 4, [bv false])]
theorem diwanref13_SameInts.lp6_ok (fu : Nat) (l6_0 : List Int) (l6_1 : List Int) : ∀ (n_ : Nat) (l6_2 : Int) (r_ : (Unit ⊕ Unit)), diwanref13_SameInts.lp6 fu l6_0 l6_1 n_ l6_2 = some r_ → WK Try.prog diwanref13_SameInts.O (Ck Try.prog) (cB (cR (cL (cR (cR bd14))))) [] (ofL [(.t 0, [.data (.slc false none 1 (List.map e_i64 l6_0))]), (.t 1, [.data (.slc false none 1 (List.map e_i64 l6_1))]), (.t 5, [iv l6_2])]) (diwanref13_SameInts.lp6_post l6_0 l6_1 r_) := by
  intro n_
  induction n_ with
  | zero => intro l6_2 r_ h; exact no_none h
  | succ n_ ih =>
    intro l6_2 r_ h
    refine WK.loop (by kernel_rfl) ?_
    refine WK.seq (by kernel_rfl) ?_
    refine WK.rs (g := [.s (.t 13) [iv (l6_0.length : Int)]]) (l' := [(.t 0, [.data (.slc false none 1 (List.map e_i64 l6_0))]), (.t 1, [.data (.slc false none 1 (List.map e_i64 l6_1))]), (.t 5, [iv l6_2]), (.t 14, [bv (decide (l6_2 < (l6_0.length : Int)))])]) (by kernel_rfl) (.cons (c_len (e := e_i64) (l := l6_0)) .nil) (by kernel_rfl) ?_
    rcases br_inv h with ⟨b8_0, h⟩ | ⟨b8_0, h⟩
    · refine WK.ct (b := (decide (l6_2 < (l6_0.length : Int)))) (by kernel_rfl) b8_0 ?_
      refine WK.skip (by kernel_rfl) ?_
      refine WKe.code (y := (cR (cB (cB (cR (cL (cR (cR bd14)))))))) (ks' := [.lp (cB (cR (cL (cR (cR bd14)))))]) (by kernel_rfl) ?_
      refine WK.seq (by kernel_rfl) ?_
      refine WK.block (n := 1) (by kernel_rfl) ?_
      obtain ⟨x9_1, a9_2, e9_3, h⟩ := ix_inv h
      obtain ⟨x9_4, a9_5, e9_6, h⟩ := ix_inv h
      refine WK.rs (g := [.c (e_i64 x9_1), .c (e_i64 x9_4)]) (l' := [(.t 0, [.data (.slc false none 1 (List.map e_i64 l6_0))]), (.t 1, [.data (.slc false none 1 (List.map e_i64 l6_1))]), (.t 5, [iv l6_2]), (.t 25, [bv (x9_1 != x9_4)])]) (by kernel_rfl) (.cons (c_ix (e := e_i64) a9_2 e9_3) (.cons (c_el (e := e_i64) e9_3) (.cons (c_ix (e := e_i64) a9_5 e9_6) (.cons (c_el (e := e_i64) e9_6) (.cons (Eq.refl true) .nil))))) (by kernel_rfl) ?_
      rcases br_inv h with ⟨b10_0, h⟩ | ⟨b10_0, h⟩
      · refine WK.ct (b := (x9_1 != x9_4)) (by kernel_rfl) b10_0 ?_
        refine WK.rs (g := []) (l' := [(.t 4, [bv false])]) (by kernel_rfl) .nil (by kernel_rfl) ?_
        refine WK.weak (l := [(.t 4, [bv false])]) (wk_of (by kernel_rfl)) ?_
        refine WK.ret (by kernel_rfl) ?_
        cases some_inj h
        exact WKe.fin (e' := .ret) (by kernel_rfl) ⟨rfl, rfl⟩
      · refine WK.ce (b := (x9_1 != x9_4)) (by kernel_rfl) b10_0 ?_
        refine WK.skip (by kernel_rfl) ?_
        refine WKe.code (y := (cR (cR (cB (cB (cR (cL (cR (cR bd14))))))))) (ks' := [.lp (cB (cR (cL (cR (cR bd14)))))]) (by kernel_rfl) ?_
        refine WK.rc (g := []) (l' := [(.t 0, [.data (.slc false none 1 (List.map e_i64 l6_0))]), (.t 1, [.data (.slc false none 1 (List.map e_i64 l6_1))]), (.t 5, [iv (w64 (l6_2 + 1))])]) .nil (by kernel_rfl) (y := (cB (cR (cL (cR (cR bd14)))))) (ks' := []) (by kernel_rfl) ?_
        exact WK.weak (l := [(.t 0, [.data (.slc false none 1 (List.map e_i64 l6_0))]), (.t 1, [.data (.slc false none 1 (List.map e_i64 l6_1))]), (.t 5, [iv (w64 (l6_2 + 1))])]) (wk_of (by kernel_rfl)) (ih (w64 (l6_2 + 1)) _ h)
    · refine WK.ce (b := (decide (l6_2 < (l6_0.length : Int)))) (by kernel_rfl) b8_0 ?_
      refine WK.weak (l := []) (wk_of (by kernel_rfl)) ?_
      refine WK.exit (n := 0) (by kernel_rfl) ?_
      cases some_inj h
      exact WKe.fin (e' := .exit 0) (by kernel_rfl) ⟨rfl, rfl⟩
noncomputable def diwanref13_SameInts (fu : Nat) (a : List Int) (b : List Int) : Option Bool :=
  br ((a.length : Int) != (b.length : Int))
    (some false)
    (bd (diwanref13_SameInts.lp6 fu a b fu 0) fun o_ => (match o_ with
    | .inl _ =>
      some true
    | .inr _ =>
      some false))
theorem diwanref13_SameInts.meets (fu : Nat) (a : List Int) (b : List Int) (z0 : Bool) (h : diwanref13_SameInts fu a b = some z0) : Meets Try.prog ⟨14, [.data (.slc false none 1 (List.map e_i64 a)), .data (.slc false none 1 (List.map e_i64 b))], []⟩ ⟨bv z0, []⟩ := by
  refine meets_of (O := diwanref13_SameInts.O) hmix (fn := Try.f14) (code := bd14) (by kernel_rfl) ?_
  refine WK.weak (l := [(.t 0, [.data (.slc false none 1 (List.map e_i64 a))]), (.t 1, [.data (.slc false none 1 (List.map e_i64 b))])]) (wk_of (by kernel_rfl)) ?_
  unfold diwanref13_SameInts at h
  refine WK.rs (g := []) (l' := [(.t 0, [.data (.slc false none 1 (List.map e_i64 a))]), (.t 1, [.data (.slc false none 1 (List.map e_i64 b))])]) (by kernel_rfl) .nil (by kernel_rfl) ?_
  refine WK.seq (by kernel_rfl) ?_
  refine WK.rs (g := [.s (.t 7) [iv (a.length : Int)], .s (.t 9) [iv (b.length : Int)]]) (l' := [(.t 0, [.data (.slc false none 1 (List.map e_i64 a))]), (.t 1, [.data (.slc false none 1 (List.map e_i64 b))]), (.t 10, [bv ((a.length : Int) != (b.length : Int))])]) (by kernel_rfl) (.cons (c_len (e := e_i64) (l := a)) (.cons (c_len (e := e_i64) (l := b)) .nil)) (by kernel_rfl) ?_
  rcases br_inv h with ⟨b3_0, h⟩ | ⟨b3_0, h⟩
  · refine WK.ct (b := ((a.length : Int) != (b.length : Int))) (by kernel_rfl) b3_0 ?_
    refine WK.rs (g := []) (l' := [(.t 4, [bv false])]) (by kernel_rfl) .nil (by kernel_rfl) ?_
    refine WK.weak (l := [(.t 4, [bv false])]) (wk_of (by kernel_rfl)) ?_
    refine WK.ret (by kernel_rfl) ?_
    have h_ := some_inj h
    subst h_
    exact WKe.fin (e' := .ret) (by kernel_rfl) (fin_of (g := []) (by first | exact .inl rfl | exact .inr rfl) .nil (by kernel_rfl))
  · refine WK.ce (b := ((a.length : Int) != (b.length : Int))) (by kernel_rfl) b3_0 ?_
    refine WK.skip (by kernel_rfl) ?_
    refine WKe.code (y := (cR (cR bd14))) (ks' := []) (by kernel_rfl) ?_
    refine WK.seq (by kernel_rfl) ?_
    refine WK.rs (g := []) (l' := [(.t 0, [.data (.slc false none 1 (List.map e_i64 a))]), (.t 1, [.data (.slc false none 1 (List.map e_i64 b))]), (.t 5, [iv 0])]) (by kernel_rfl) .nil (by kernel_rfl) ?_
    refine WK.block (n := 0) (by kernel_rfl) ?_
    obtain ⟨o13, ho13, h⟩ := bd_inv h
    refine WK.weak (l := [(.t 0, [.data (.slc false none 1 (List.map e_i64 a))]), (.t 1, [.data (.slc false none 1 (List.map e_i64 b))]), (.t 5, [iv 0])]) (wk_of (by kernel_rfl)) ?_
    refine WK.use (diwanref13_SameInts.lp6_ok fu a b _ 0 _ ho13) ?_
    intro e_ τ_ hp_
    rcases o13 with o13 | o13
    · obtain ⟨⟩ := o13
      obtain ⟨rfl, rfl⟩ := hp_
      refine WKe.code (y := (cR (cR (cR bd14)))) (ks' := []) (by kernel_rfl) ?_
      refine WK.rs (g := []) (l' := [(.t 4, [bv true])]) (by kernel_rfl) .nil (by kernel_rfl) ?_
      refine WK.weak (l := [(.t 4, [bv true])]) (wk_of (by kernel_rfl)) ?_
      refine WK.ret (by kernel_rfl) ?_
      have h_ := some_inj h
      subst h_
      exact WKe.fin (e' := .ret) (by kernel_rfl) (fin_of (g := []) (by first | exact .inl rfl | exact .inr rfl) .nil (by kernel_rfl))
    · obtain ⟨⟩ := o13
      obtain ⟨rfl, rfl⟩ := hp_
      have h_ := some_inj h
      subst h_
      exact WKe.fin (e' := .ret) (by kernel_rfl) (fin_of (g := []) (by first | exact .inl rfl | exact .inr rfl) .nil (by kernel_rfl))
/-- diwan/diwanref13.SameChain -/
noncomputable def bd25 : Code := (Try.f25.body).getD .skip
def diwanref13_SameChain.O : Nat → Nat := fun t => bif ([4, 5] : List Nat).any (Nat.beq t) then 1 else 0
noncomputable def diwanref13_SameChain.lp6 (fu : Nat) (l6_0 : List TVersion) (l6_1 : List TVersion) : Nat → Int → Option (Unit ⊕ Unit)
  | 0, _ => none
  | n_ + 1, l6_2 =>
    br (decide (l6_2 < (l6_0.length : Int)))
      (ix l6_0 l6_2 fun x9_1 =>
      ix l6_1 l6_2 fun x9_4 =>
      br (!((x9_1.Pos == x9_4.Pos) && ((x9_1.Val.toList == x9_4.Val.toList) && ((x9_1.Gone == x9_4.Gone) && true))))
        (some (.inr ()))
        (diwanref13_SameChain.lp6 fu l6_0 l6_1 n_ (w64 (l6_2 + 1))))
      (some (.inl ()))
noncomputable def diwanref13_SameChain.lp6_post (l6_0 : List TVersion) (l6_1 : List TVersion) (r_ : (Unit ⊕ Unit)) : Wy → St → Prop := fun e τ => match r_ with
  | .inl _ => e = .exit 0 ∧ τ = ofL []
  | .inr _ => e = .ret ∧ τ = ofL [(.t 4, [bv false])]
theorem diwanref13_SameChain.lp6_ok (fu : Nat) (l6_0 : List TVersion) (l6_1 : List TVersion) : ∀ (n_ : Nat) (l6_2 : Int) (r_ : (Unit ⊕ Unit)), diwanref13_SameChain.lp6 fu l6_0 l6_1 n_ l6_2 = some r_ → WK Try.prog diwanref13_SameChain.O (Ck Try.prog) (cB (cR (cL (cR (cR bd25))))) [] (ofL [(.t 0, [.data (.slc false none 3 (List.map TVersion.en l6_0))]), (.t 1, [.data (.slc false none 3 (List.map TVersion.en l6_1))]), (.t 5, [iv l6_2])]) (diwanref13_SameChain.lp6_post l6_0 l6_1 r_) := by
  intro n_
  induction n_ with
  | zero => intro l6_2 r_ h; exact no_none h
  | succ n_ ih =>
    intro l6_2 r_ h
    refine WK.loop (by kernel_rfl) ?_
    refine WK.seq (by kernel_rfl) ?_
    refine WK.rs (g := [.s (.t 13) [iv (l6_0.length : Int)]]) (l' := [(.t 0, [.data (.slc false none 3 (List.map TVersion.en l6_0))]), (.t 1, [.data (.slc false none 3 (List.map TVersion.en l6_1))]), (.t 5, [iv l6_2]), (.t 14, [bv (decide (l6_2 < (l6_0.length : Int)))])]) (by kernel_rfl) (.cons (c_len (e := TVersion.en) (l := l6_0)) .nil) (by kernel_rfl) ?_
    rcases br_inv h with ⟨b8_0, h⟩ | ⟨b8_0, h⟩
    · refine WK.ct (b := (decide (l6_2 < (l6_0.length : Int)))) (by kernel_rfl) b8_0 ?_
      refine WK.skip (by kernel_rfl) ?_
      refine WKe.code (y := (cR (cB (cB (cR (cL (cR (cR bd25)))))))) (ks' := [.lp (cB (cR (cL (cR (cR bd25)))))]) (by kernel_rfl) ?_
      refine WK.seq (by kernel_rfl) ?_
      refine WK.block (n := 1) (by kernel_rfl) ?_
      obtain ⟨x9_1, a9_2, e9_3, h⟩ := ix_inv h
      obtain ⟨x9_4, a9_5, e9_6, h⟩ := ix_inv h
      refine WK.rs (g := [.c (TVersion.en x9_1), .c (TVersion.en x9_4)]) (l' := [(.t 0, [.data (.slc false none 3 (List.map TVersion.en l6_0))]), (.t 1, [.data (.slc false none 3 (List.map TVersion.en l6_1))]), (.t 5, [iv l6_2]), (.t 25, [bv (!((x9_1.Pos == x9_4.Pos) && ((x9_1.Val.toList == x9_4.Val.toList) && ((x9_1.Gone == x9_4.Gone) && true))))])]) (by kernel_rfl) (.cons (c_ix (e := TVersion.en) a9_2 e9_3) (.cons (c_el (e := TVersion.en) e9_3) (.cons (c_ix (e := TVersion.en) a9_5 e9_6) (.cons (c_el (e := TVersion.en) e9_6) (.cons (Eq.refl true) .nil))))) (by kernel_rfl) ?_
      rcases br_inv h with ⟨b10_0, h⟩ | ⟨b10_0, h⟩
      · refine WK.ct (b := (!((x9_1.Pos == x9_4.Pos) && ((x9_1.Val.toList == x9_4.Val.toList) && ((x9_1.Gone == x9_4.Gone) && true))))) (by kernel_rfl) b10_0 ?_
        refine WK.rs (g := []) (l' := [(.t 4, [bv false])]) (by kernel_rfl) .nil (by kernel_rfl) ?_
        refine WK.weak (l := [(.t 4, [bv false])]) (wk_of (by kernel_rfl)) ?_
        refine WK.ret (by kernel_rfl) ?_
        cases some_inj h
        exact WKe.fin (e' := .ret) (by kernel_rfl) ⟨rfl, rfl⟩
      · refine WK.ce (b := (!((x9_1.Pos == x9_4.Pos) && ((x9_1.Val.toList == x9_4.Val.toList) && ((x9_1.Gone == x9_4.Gone) && true))))) (by kernel_rfl) b10_0 ?_
        refine WK.skip (by kernel_rfl) ?_
        refine WKe.code (y := (cR (cR (cB (cB (cR (cL (cR (cR bd25))))))))) (ks' := [.lp (cB (cR (cL (cR (cR bd25)))))]) (by kernel_rfl) ?_
        refine WK.rc (g := []) (l' := [(.t 0, [.data (.slc false none 3 (List.map TVersion.en l6_0))]), (.t 1, [.data (.slc false none 3 (List.map TVersion.en l6_1))]), (.t 5, [iv (w64 (l6_2 + 1))])]) .nil (by kernel_rfl) (y := (cB (cR (cL (cR (cR bd25)))))) (ks' := []) (by kernel_rfl) ?_
        exact WK.weak (l := [(.t 0, [.data (.slc false none 3 (List.map TVersion.en l6_0))]), (.t 1, [.data (.slc false none 3 (List.map TVersion.en l6_1))]), (.t 5, [iv (w64 (l6_2 + 1))])]) (wk_of (by kernel_rfl)) (ih (w64 (l6_2 + 1)) _ h)
    · refine WK.ce (b := (decide (l6_2 < (l6_0.length : Int)))) (by kernel_rfl) b8_0 ?_
      refine WK.weak (l := []) (wk_of (by kernel_rfl)) ?_
      refine WK.exit (n := 0) (by kernel_rfl) ?_
      cases some_inj h
      exact WKe.fin (e' := .exit 0) (by kernel_rfl) ⟨rfl, rfl⟩
noncomputable def diwanref13_SameChain (fu : Nat) (a : List TVersion) (b : List TVersion) : Option Bool :=
  br ((a.length : Int) != (b.length : Int))
    (some false)
    (bd (diwanref13_SameChain.lp6 fu a b fu 0) fun o_ => (match o_ with
    | .inl _ =>
      some true
    | .inr _ =>
      some false))
theorem diwanref13_SameChain.meets (fu : Nat) (a : List TVersion) (b : List TVersion) (z0 : Bool) (h : diwanref13_SameChain fu a b = some z0) : Meets Try.prog ⟨25, [.data (.slc false none 3 (List.map TVersion.en a)), .data (.slc false none 3 (List.map TVersion.en b))], []⟩ ⟨bv z0, []⟩ := by
  refine meets_of (O := diwanref13_SameChain.O) hmix (fn := Try.f25) (code := bd25) (by kernel_rfl) ?_
  refine WK.weak (l := [(.t 0, [.data (.slc false none 3 (List.map TVersion.en a))]), (.t 1, [.data (.slc false none 3 (List.map TVersion.en b))])]) (wk_of (by kernel_rfl)) ?_
  unfold diwanref13_SameChain at h
  refine WK.rs (g := []) (l' := [(.t 0, [.data (.slc false none 3 (List.map TVersion.en a))]), (.t 1, [.data (.slc false none 3 (List.map TVersion.en b))])]) (by kernel_rfl) .nil (by kernel_rfl) ?_
  refine WK.seq (by kernel_rfl) ?_
  refine WK.rs (g := [.s (.t 7) [iv (a.length : Int)], .s (.t 9) [iv (b.length : Int)]]) (l' := [(.t 0, [.data (.slc false none 3 (List.map TVersion.en a))]), (.t 1, [.data (.slc false none 3 (List.map TVersion.en b))]), (.t 10, [bv ((a.length : Int) != (b.length : Int))])]) (by kernel_rfl) (.cons (c_len (e := TVersion.en) (l := a)) (.cons (c_len (e := TVersion.en) (l := b)) .nil)) (by kernel_rfl) ?_
  rcases br_inv h with ⟨b3_0, h⟩ | ⟨b3_0, h⟩
  · refine WK.ct (b := ((a.length : Int) != (b.length : Int))) (by kernel_rfl) b3_0 ?_
    refine WK.rs (g := []) (l' := [(.t 4, [bv false])]) (by kernel_rfl) .nil (by kernel_rfl) ?_
    refine WK.weak (l := [(.t 4, [bv false])]) (wk_of (by kernel_rfl)) ?_
    refine WK.ret (by kernel_rfl) ?_
    have h_ := some_inj h
    subst h_
    exact WKe.fin (e' := .ret) (by kernel_rfl) (fin_of (g := []) (by first | exact .inl rfl | exact .inr rfl) .nil (by kernel_rfl))
  · refine WK.ce (b := ((a.length : Int) != (b.length : Int))) (by kernel_rfl) b3_0 ?_
    refine WK.skip (by kernel_rfl) ?_
    refine WKe.code (y := (cR (cR bd25))) (ks' := []) (by kernel_rfl) ?_
    refine WK.seq (by kernel_rfl) ?_
    refine WK.rs (g := []) (l' := [(.t 0, [.data (.slc false none 3 (List.map TVersion.en a))]), (.t 1, [.data (.slc false none 3 (List.map TVersion.en b))]), (.t 5, [iv 0])]) (by kernel_rfl) .nil (by kernel_rfl) ?_
    refine WK.block (n := 0) (by kernel_rfl) ?_
    obtain ⟨o13, ho13, h⟩ := bd_inv h
    refine WK.weak (l := [(.t 0, [.data (.slc false none 3 (List.map TVersion.en a))]), (.t 1, [.data (.slc false none 3 (List.map TVersion.en b))]), (.t 5, [iv 0])]) (wk_of (by kernel_rfl)) ?_
    refine WK.use (diwanref13_SameChain.lp6_ok fu a b _ 0 _ ho13) ?_
    intro e_ τ_ hp_
    rcases o13 with o13 | o13
    · obtain ⟨⟩ := o13
      obtain ⟨rfl, rfl⟩ := hp_
      refine WKe.code (y := (cR (cR (cR bd25)))) (ks' := []) (by kernel_rfl) ?_
      refine WK.rs (g := []) (l' := [(.t 4, [bv true])]) (by kernel_rfl) .nil (by kernel_rfl) ?_
      refine WK.weak (l := [(.t 4, [bv true])]) (wk_of (by kernel_rfl)) ?_
      refine WK.ret (by kernel_rfl) ?_
      have h_ := some_inj h
      subst h_
      exact WKe.fin (e' := .ret) (by kernel_rfl) (fin_of (g := []) (by first | exact .inl rfl | exact .inr rfl) .nil (by kernel_rfl))
    · obtain ⟨⟩ := o13
      obtain ⟨rfl, rfl⟩ := hp_
      have h_ := some_inj h
      subst h_
      exact WKe.fin (e' := .ret) (by kernel_rfl) (fin_of (g := []) (by first | exact .inl rfl | exact .inr rfl) .nil (by kernel_rfl))
/-- diwan/diwanref13.SameStore -/
noncomputable def bd15 : Code := (Try.f15.body).getD .skip
def diwanref13_SameStore.O : Nat → Nat := fun t => bif ([2, 3, 4, 5] : List Nat).any (Nat.beq t) then 1 else 0
noncomputable def diwanref13_SameStore.lp7 (fu : Nat) (l7_1 : TStore) (l7_2 : TStore) : Nat → Int → Option (Unit ⊕ Unit)
  | 0, _ => none
  | n_ + 1, l7_0 =>
    br (decide (l7_0 < (l7_1.Chains.length : Int)))
      (ix l7_1.Chains l7_0 fun x10_1 =>
      ix l7_2.Chains l7_0 fun x10_4 =>
      br (!(x10_1.Key.toList == x10_4.Key.toList))
        (some (.inr ()))
        (ix l7_1.Chains l7_0 fun x10_8 =>
        ix l7_2.Chains l7_0 fun x10_11 =>
        bd (diwanref13_SameChain fu x10_8.L x10_11.L) fun r10_14 =>
        br (!r10_14)
          (some (.inr ()))
          (diwanref13_SameStore.lp7 fu l7_1 l7_2 n_ (w64 (l7_0 + 1)))))
      (some (.inl ()))
noncomputable def diwanref13_SameStore.lp7_post (l7_1 : TStore) (l7_2 : TStore) (r_ : (Unit ⊕ Unit)) : Wy → St → Prop := fun e τ => match r_ with
  | .inl _ => e = .exit 0 ∧ τ = ofL []
  | .inr _ => e = .ret ∧ τ = ofL [(.t 4, [bv false])]
theorem diwanref13_SameStore.lp7_ok (fu : Nat) (l7_1 : TStore) (l7_2 : TStore) : ∀ (n_ : Nat) (l7_0 : Int) (r_ : (Unit ⊕ Unit)), diwanref13_SameStore.lp7 fu l7_1 l7_2 n_ l7_0 = some r_ → WK Try.prog diwanref13_SameStore.O (Ck Try.prog) (cB (cR (cL (cR (cR bd15))))) [] (ofL [(.t 2, [.ptr 2 0]), (.t 3, [.ptr 3 0]), (.t 5, [iv l7_0]), (.o 2, [.data (.slc false none 2 (List.map TChain.en l7_1.Chains)), iv l7_1.Mark]), (.o 3, [.data (.slc false none 2 (List.map TChain.en l7_2.Chains)), iv l7_2.Mark])]) (diwanref13_SameStore.lp7_post l7_1 l7_2 r_) := by
  intro n_
  induction n_ with
  | zero => intro l7_0 r_ h; exact no_none h
  | succ n_ ih =>
    intro l7_0 r_ h
    refine WK.loop (by kernel_rfl) ?_
    refine WK.seq (by kernel_rfl) ?_
    refine WK.rs (g := [.s (.t 23) [iv (l7_1.Chains.length : Int)]]) (l' := [(.t 2, [.ptr 2 0]), (.t 3, [.ptr 3 0]), (.t 5, [iv l7_0]), (.t 24, [bv (decide (l7_0 < (l7_1.Chains.length : Int)))]), (.o 2, [.data (.slc false none 2 (List.map TChain.en l7_1.Chains)), iv l7_1.Mark]), (.o 3, [.data (.slc false none 2 (List.map TChain.en l7_2.Chains)), iv l7_2.Mark])]) (by kernel_rfl) (.cons (c_len (e := TChain.en) (l := l7_1.Chains)) .nil) (by kernel_rfl) ?_
    rcases br_inv h with ⟨b9_0, h⟩ | ⟨b9_0, h⟩
    · refine WK.ct (b := (decide (l7_0 < (l7_1.Chains.length : Int)))) (by kernel_rfl) b9_0 ?_
      refine WK.skip (by kernel_rfl) ?_
      refine WKe.code (y := (cR (cB (cB (cR (cL (cR (cR bd15)))))))) (ks' := [.lp (cB (cR (cL (cR (cR bd15)))))]) (by kernel_rfl) ?_
      refine WK.seq (by kernel_rfl) ?_
      refine WK.block (n := 1) (by kernel_rfl) ?_
      obtain ⟨x10_1, a10_2, e10_3, h⟩ := ix_inv h
      obtain ⟨x10_4, a10_5, e10_6, h⟩ := ix_inv h
      rcases br_inv h with ⟨b10_7, h⟩ | ⟨b10_7, h⟩
      · refine WK.rs (g := [.c (TChain.en x10_1), .c (TChain.en x10_4), .b true, .b true, .b true, .b true, .b true, .b true, .b true, .b true, .b true, .b true, .b true, .b true, .b true, .b true, .b true]) (l' := [(.t 2, [.ptr 2 0]), (.t 3, [.ptr 3 0]), (.t 5, [iv l7_0]), (.t 55, [bv true]), (.o 2, [.data (.slc false none 2 (List.map TChain.en l7_1.Chains)), iv l7_1.Mark]), (.o 3, [.data (.slc false none 2 (List.map TChain.en l7_2.Chains)), iv l7_2.Mark])]) (by kernel_rfl) (.cons (c_ix (e := TChain.en) a10_2 e10_3) (.cons (c_el (e := TChain.en) e10_3) (.cons (c_ix (e := TChain.en) a10_5 e10_6) (.cons (c_el (e := TChain.en) e10_6) (.cons b10_7 (.cons b10_7 (.cons b10_7 (.cons b10_7 (.cons b10_7 (.cons b10_7 (.cons b10_7 (.cons b10_7 (.cons b10_7 (.cons b10_7 (.cons b10_7 (.cons b10_7 (.cons b10_7 (.cons b10_7 (.cons b10_7 (.cons (Eq.refl true) .nil)))))))))))))))))))) (by kernel_rfl) ?_
        refine WK.ct (b := true) (by kernel_rfl) rfl ?_
        refine WK.rs (g := []) (l' := [(.t 4, [bv false])]) (by kernel_rfl) .nil (by kernel_rfl) ?_
        refine WK.weak (l := [(.t 4, [bv false])]) (wk_of (by kernel_rfl)) ?_
        refine WK.ret (by kernel_rfl) ?_
        cases some_inj h
        exact WKe.fin (e' := .ret) (by kernel_rfl) ⟨rfl, rfl⟩
      · obtain ⟨x10_8, a10_9, e10_10, h⟩ := ix_inv h
        obtain ⟨x10_11, a10_12, e10_13, h⟩ := ix_inv h
        obtain ⟨r10_14, h10_15, h⟩ := bd_inv h
        refine WK.rs (g := [.c (TChain.en x10_1), .c (TChain.en x10_4), .b false, .b false, .b false, .b false, .c (TChain.en x10_8), .b false, .b false, .b false, .b false, .b false, .b false, .c (TChain.en x10_11), .b false, .b false, .b false, .a ⟨bv r10_14, []⟩, .b false, .b false]) (l' := [(.t 2, [.ptr 2 0]), (.t 3, [.ptr 3 0]), (.t 5, [iv l7_0]), (.t 55, [bv (!r10_14)]), (.o 2, [.data (.slc false none 2 (List.map TChain.en l7_1.Chains)), iv l7_1.Mark]), (.o 3, [.data (.slc false none 2 (List.map TChain.en l7_2.Chains)), iv l7_2.Mark])]) (by kernel_rfl) (.cons (c_ix (e := TChain.en) a10_2 e10_3) (.cons (c_el (e := TChain.en) e10_3) (.cons (c_ix (e := TChain.en) a10_5 e10_6) (.cons (c_el (e := TChain.en) e10_6) (.cons b10_7 (.cons b10_7 (.cons b10_7 (.cons b10_7 (.cons (c_ix (e := TChain.en) a10_9 e10_10) (.cons (c_el (e := TChain.en) e10_10) (.cons b10_7 (.cons b10_7 (.cons b10_7 (.cons b10_7 (.cons b10_7 (.cons b10_7 (.cons (c_ix (e := TChain.en) a10_12 e10_13) (.cons (c_el (e := TChain.en) e10_13) (.cons b10_7 (.cons b10_7 (.cons b10_7 (.cons (Asks.of (C := Meets Try.prog) (diwanref13_SameChain.meets fu x10_8.L x10_11.L _ h10_15)) (.cons b10_7 (.cons b10_7 (.cons (Eq.refl true) .nil))))))))))))))))))))))))) (by kernel_rfl) ?_
        rcases br_inv h with ⟨b12_0, h⟩ | ⟨b12_0, h⟩
        · refine WK.ct (b := (!r10_14)) (by kernel_rfl) b12_0 ?_
          refine WK.rs (g := []) (l' := [(.t 4, [bv false])]) (by kernel_rfl) .nil (by kernel_rfl) ?_
          refine WK.weak (l := [(.t 4, [bv false])]) (wk_of (by kernel_rfl)) ?_
          refine WK.ret (by kernel_rfl) ?_
          cases some_inj h
          exact WKe.fin (e' := .ret) (by kernel_rfl) ⟨rfl, rfl⟩
        · refine WK.ce (b := (!r10_14)) (by kernel_rfl) b12_0 ?_
          refine WK.skip (by kernel_rfl) ?_
          refine WKe.code (y := (cR (cR (cB (cB (cR (cL (cR (cR bd15))))))))) (ks' := [.lp (cB (cR (cL (cR (cR bd15)))))]) (by kernel_rfl) ?_
          refine WK.rc (g := []) (l' := [(.t 2, [.ptr 2 0]), (.t 3, [.ptr 3 0]), (.t 5, [iv (w64 (l7_0 + 1))]), (.o 2, [.data (.slc false none 2 (List.map TChain.en l7_1.Chains)), iv l7_1.Mark]), (.o 3, [.data (.slc false none 2 (List.map TChain.en l7_2.Chains)), iv l7_2.Mark])]) .nil (by kernel_rfl) (y := (cB (cR (cL (cR (cR bd15)))))) (ks' := []) (by kernel_rfl) ?_
          exact WK.weak (l := [(.t 2, [.ptr 2 0]), (.t 3, [.ptr 3 0]), (.t 5, [iv (w64 (l7_0 + 1))]), (.o 2, [.data (.slc false none 2 (List.map TChain.en l7_1.Chains)), iv l7_1.Mark]), (.o 3, [.data (.slc false none 2 (List.map TChain.en l7_2.Chains)), iv l7_2.Mark])]) (wk_of (by kernel_rfl)) (ih (w64 (l7_0 + 1)) _ h)
    · refine WK.ce (b := (decide (l7_0 < (l7_1.Chains.length : Int)))) (by kernel_rfl) b9_0 ?_
      refine WK.weak (l := []) (wk_of (by kernel_rfl)) ?_
      refine WK.exit (n := 0) (by kernel_rfl) ?_
      cases some_inj h
      exact WKe.fin (e' := .exit 0) (by kernel_rfl) ⟨rfl, rfl⟩
noncomputable def diwanref13_SameStore (fu : Nat) (a : TStore) (b : TStore) : Option Bool :=
  br (a.Mark != b.Mark)
    (some false)
    (br ((a.Chains.length : Int) != (b.Chains.length : Int))
      (some false)
      (bd (diwanref13_SameStore.lp7 fu a b fu 0) fun o_ => (match o_ with
      | .inl _ =>
        some true
      | .inr _ =>
        some false)))
theorem diwanref13_SameStore.meets (fu : Nat) (a : TStore) (b : TStore) (z0 : Bool) (h : diwanref13_SameStore fu a b = some z0) : Meets Try.prog ⟨15, [.data (.agg [.slc false none 2 (List.map TChain.en a.Chains), .val (.int .i64 a.Mark)]), .data (.agg [.slc false none 2 (List.map TChain.en b.Chains), .val (.int .i64 b.Mark)])], []⟩ ⟨bv z0, []⟩ := by
  refine meets_of (O := diwanref13_SameStore.O) hmix (fn := Try.f15) (code := bd15) (by kernel_rfl) ?_
  refine WK.weak (l := [(.t 0, [.data (.agg [.slc false none 2 (List.map TChain.en a.Chains), .val (.int .i64 a.Mark)])]), (.t 1, [.data (.agg [.slc false none 2 (List.map TChain.en b.Chains), .val (.int .i64 b.Mark)])])]) (wk_of (by kernel_rfl)) ?_
  unfold diwanref13_SameStore at h
  refine WK.rs (g := []) (l' := [(.t 2, [.ptr 2 0]), (.t 3, [.ptr 3 0]), (.o 2, [.data (.slc false none 2 (List.map TChain.en a.Chains)), iv a.Mark]), (.o 3, [.data (.slc false none 2 (List.map TChain.en b.Chains)), iv b.Mark])]) (by kernel_rfl) .nil (by kernel_rfl) ?_
  refine WK.seq (by kernel_rfl) ?_
  rcases br_inv h with ⟨b2_1, h⟩ | ⟨b2_1, h⟩
  · refine WK.rs (g := [.b true, .b true, .b true, .b true, .b true, .b true, .b true, .b true]) (l' := [(.t 2, [.ptr 2 0]), (.t 3, [.ptr 3 0]), (.t 19, [bv true]), (.o 2, [.data (.slc false none 2 (List.map TChain.en a.Chains)), iv a.Mark]), (.o 3, [.data (.slc false none 2 (List.map TChain.en b.Chains)), iv b.Mark])]) (by kernel_rfl) (.cons b2_1 (.cons b2_1 (.cons b2_1 (.cons b2_1 (.cons b2_1 (.cons b2_1 (.cons b2_1 (.cons b2_1 .nil)))))))) (by kernel_rfl) ?_
    refine WK.ct (b := true) (by kernel_rfl) rfl ?_
    refine WK.rs (g := []) (l' := [(.t 4, [bv false])]) (by kernel_rfl) .nil (by kernel_rfl) ?_
    refine WK.weak (l := [(.t 4, [bv false])]) (wk_of (by kernel_rfl)) ?_
    refine WK.ret (by kernel_rfl) ?_
    have h_ := some_inj h
    subst h_
    exact WKe.fin (e' := .ret) (by kernel_rfl) (fin_of (g := []) (by first | exact .inl rfl | exact .inr rfl) .nil (by kernel_rfl))
  · refine WK.rs (g := [.b false, .b false, .b false, .s (.t 14) [iv (a.Chains.length : Int)], .b false, .b false, .b false, .s (.t 17) [iv (b.Chains.length : Int)], .b false, .b false]) (l' := [(.t 2, [.ptr 2 0]), (.t 3, [.ptr 3 0]), (.t 19, [bv ((a.Chains.length : Int) != (b.Chains.length : Int))]), (.o 2, [.data (.slc false none 2 (List.map TChain.en a.Chains)), iv a.Mark]), (.o 3, [.data (.slc false none 2 (List.map TChain.en b.Chains)), iv b.Mark])]) (by kernel_rfl) (.cons b2_1 (.cons b2_1 (.cons b2_1 (.cons (c_len (e := TChain.en) (l := a.Chains)) (.cons b2_1 (.cons b2_1 (.cons b2_1 (.cons (c_len (e := TChain.en) (l := b.Chains)) (.cons b2_1 (.cons b2_1 .nil)))))))))) (by kernel_rfl) ?_
    rcases br_inv h with ⟨b4_0, h⟩ | ⟨b4_0, h⟩
    · refine WK.ct (b := ((a.Chains.length : Int) != (b.Chains.length : Int))) (by kernel_rfl) b4_0 ?_
      refine WK.rs (g := []) (l' := [(.t 4, [bv false])]) (by kernel_rfl) .nil (by kernel_rfl) ?_
      refine WK.weak (l := [(.t 4, [bv false])]) (wk_of (by kernel_rfl)) ?_
      refine WK.ret (by kernel_rfl) ?_
      have h_ := some_inj h
      subst h_
      exact WKe.fin (e' := .ret) (by kernel_rfl) (fin_of (g := []) (by first | exact .inl rfl | exact .inr rfl) .nil (by kernel_rfl))
    · refine WK.ce (b := ((a.Chains.length : Int) != (b.Chains.length : Int))) (by kernel_rfl) b4_0 ?_
      refine WK.skip (by kernel_rfl) ?_
      refine WKe.code (y := (cR (cR bd15))) (ks' := []) (by kernel_rfl) ?_
      refine WK.seq (by kernel_rfl) ?_
      refine WK.rs (g := []) (l' := [(.t 2, [.ptr 2 0]), (.t 3, [.ptr 3 0]), (.t 5, [iv 0]), (.o 2, [.data (.slc false none 2 (List.map TChain.en a.Chains)), iv a.Mark]), (.o 3, [.data (.slc false none 2 (List.map TChain.en b.Chains)), iv b.Mark])]) (by kernel_rfl) .nil (by kernel_rfl) ?_
      refine WK.block (n := 0) (by kernel_rfl) ?_
      obtain ⟨o15, ho15, h⟩ := bd_inv h
      refine WK.weak (l := [(.t 2, [.ptr 2 0]), (.t 3, [.ptr 3 0]), (.t 5, [iv 0]), (.o 2, [.data (.slc false none 2 (List.map TChain.en a.Chains)), iv a.Mark]), (.o 3, [.data (.slc false none 2 (List.map TChain.en b.Chains)), iv b.Mark])]) (wk_of (by kernel_rfl)) ?_
      refine WK.use (diwanref13_SameStore.lp7_ok fu a b _ 0 _ ho15) ?_
      intro e_ τ_ hp_
      rcases o15 with o15 | o15
      · obtain ⟨⟩ := o15
        obtain ⟨rfl, rfl⟩ := hp_
        refine WKe.code (y := (cR (cR (cR bd15)))) (ks' := []) (by kernel_rfl) ?_
        refine WK.rs (g := []) (l' := [(.t 4, [bv true])]) (by kernel_rfl) .nil (by kernel_rfl) ?_
        refine WK.weak (l := [(.t 4, [bv true])]) (wk_of (by kernel_rfl)) ?_
        refine WK.ret (by kernel_rfl) ?_
        have h_ := some_inj h
        subst h_
        exact WKe.fin (e' := .ret) (by kernel_rfl) (fin_of (g := []) (by first | exact .inl rfl | exact .inr rfl) .nil (by kernel_rfl))
      · obtain ⟨⟩ := o15
        obtain ⟨rfl, rfl⟩ := hp_
        have h_ := some_inj h
        subst h_
        exact WKe.fin (e' := .ret) (by kernel_rfl) (fin_of (g := []) (by first | exact .inl rfl | exact .inr rfl) .nil (by kernel_rfl))
/-- diwan/diwanref13.SameSeats -/
noncomputable def bd16 : Code := (Try.f16.body).getD .skip
def diwanref13_SameSeats.O : Nat → Nat := fun t => bif ([4, 5] : List Nat).any (Nat.beq t) then 1 else 0
noncomputable def diwanref13_SameSeats.lp6 (fu : Nat) (l6_0 : List TSeat) (l6_1 : List TSeat) : Nat → Int → Option (Unit ⊕ Unit)
  | 0, _ => none
  | n_ + 1, l6_2 =>
    br (decide (l6_2 < (l6_0.length : Int)))
      (ix l6_0 l6_2 fun x9_1 =>
      ix l6_1 l6_2 fun x9_4 =>
      br (!((x9_1.Session == x9_4.Session) && ((x9_1.Seq == x9_4.Seq) && ((x9_1.Pos == x9_4.Pos) && true))))
        (some (.inr ()))
        (diwanref13_SameSeats.lp6 fu l6_0 l6_1 n_ (w64 (l6_2 + 1))))
      (some (.inl ()))
noncomputable def diwanref13_SameSeats.lp6_post (l6_0 : List TSeat) (l6_1 : List TSeat) (r_ : (Unit ⊕ Unit)) : Wy → St → Prop := fun e τ => match r_ with
  | .inl _ => e = .exit 0 ∧ τ = ofL []
  | .inr _ => e = .ret ∧ τ = ofL [(.t 4, [bv false])]
theorem diwanref13_SameSeats.lp6_ok (fu : Nat) (l6_0 : List TSeat) (l6_1 : List TSeat) : ∀ (n_ : Nat) (l6_2 : Int) (r_ : (Unit ⊕ Unit)), diwanref13_SameSeats.lp6 fu l6_0 l6_1 n_ l6_2 = some r_ → WK Try.prog diwanref13_SameSeats.O (Ck Try.prog) (cB (cR (cL (cR (cR bd16))))) [] (ofL [(.t 0, [.data (.slc false none 3 (List.map TSeat.en l6_0))]), (.t 1, [.data (.slc false none 3 (List.map TSeat.en l6_1))]), (.t 5, [iv l6_2])]) (diwanref13_SameSeats.lp6_post l6_0 l6_1 r_) := by
  intro n_
  induction n_ with
  | zero => intro l6_2 r_ h; exact no_none h
  | succ n_ ih =>
    intro l6_2 r_ h
    refine WK.loop (by kernel_rfl) ?_
    refine WK.seq (by kernel_rfl) ?_
    refine WK.rs (g := [.s (.t 13) [iv (l6_0.length : Int)]]) (l' := [(.t 0, [.data (.slc false none 3 (List.map TSeat.en l6_0))]), (.t 1, [.data (.slc false none 3 (List.map TSeat.en l6_1))]), (.t 5, [iv l6_2]), (.t 14, [bv (decide (l6_2 < (l6_0.length : Int)))])]) (by kernel_rfl) (.cons (c_len (e := TSeat.en) (l := l6_0)) .nil) (by kernel_rfl) ?_
    rcases br_inv h with ⟨b8_0, h⟩ | ⟨b8_0, h⟩
    · refine WK.ct (b := (decide (l6_2 < (l6_0.length : Int)))) (by kernel_rfl) b8_0 ?_
      refine WK.skip (by kernel_rfl) ?_
      refine WKe.code (y := (cR (cB (cB (cR (cL (cR (cR bd16)))))))) (ks' := [.lp (cB (cR (cL (cR (cR bd16)))))]) (by kernel_rfl) ?_
      refine WK.seq (by kernel_rfl) ?_
      refine WK.block (n := 1) (by kernel_rfl) ?_
      obtain ⟨x9_1, a9_2, e9_3, h⟩ := ix_inv h
      obtain ⟨x9_4, a9_5, e9_6, h⟩ := ix_inv h
      refine WK.rs (g := [.c (TSeat.en x9_1), .c (TSeat.en x9_4)]) (l' := [(.t 0, [.data (.slc false none 3 (List.map TSeat.en l6_0))]), (.t 1, [.data (.slc false none 3 (List.map TSeat.en l6_1))]), (.t 5, [iv l6_2]), (.t 25, [bv (!((x9_1.Session == x9_4.Session) && ((x9_1.Seq == x9_4.Seq) && ((x9_1.Pos == x9_4.Pos) && true))))])]) (by kernel_rfl) (.cons (c_ix (e := TSeat.en) a9_2 e9_3) (.cons (c_el (e := TSeat.en) e9_3) (.cons (c_ix (e := TSeat.en) a9_5 e9_6) (.cons (c_el (e := TSeat.en) e9_6) (.cons (Eq.refl true) .nil))))) (by kernel_rfl) ?_
      rcases br_inv h with ⟨b10_0, h⟩ | ⟨b10_0, h⟩
      · refine WK.ct (b := (!((x9_1.Session == x9_4.Session) && ((x9_1.Seq == x9_4.Seq) && ((x9_1.Pos == x9_4.Pos) && true))))) (by kernel_rfl) b10_0 ?_
        refine WK.rs (g := []) (l' := [(.t 4, [bv false])]) (by kernel_rfl) .nil (by kernel_rfl) ?_
        refine WK.weak (l := [(.t 4, [bv false])]) (wk_of (by kernel_rfl)) ?_
        refine WK.ret (by kernel_rfl) ?_
        cases some_inj h
        exact WKe.fin (e' := .ret) (by kernel_rfl) ⟨rfl, rfl⟩
      · refine WK.ce (b := (!((x9_1.Session == x9_4.Session) && ((x9_1.Seq == x9_4.Seq) && ((x9_1.Pos == x9_4.Pos) && true))))) (by kernel_rfl) b10_0 ?_
        refine WK.skip (by kernel_rfl) ?_
        refine WKe.code (y := (cR (cR (cB (cB (cR (cL (cR (cR bd16))))))))) (ks' := [.lp (cB (cR (cL (cR (cR bd16)))))]) (by kernel_rfl) ?_
        refine WK.rc (g := []) (l' := [(.t 0, [.data (.slc false none 3 (List.map TSeat.en l6_0))]), (.t 1, [.data (.slc false none 3 (List.map TSeat.en l6_1))]), (.t 5, [iv (w64 (l6_2 + 1))])]) .nil (by kernel_rfl) (y := (cB (cR (cL (cR (cR bd16)))))) (ks' := []) (by kernel_rfl) ?_
        exact WK.weak (l := [(.t 0, [.data (.slc false none 3 (List.map TSeat.en l6_0))]), (.t 1, [.data (.slc false none 3 (List.map TSeat.en l6_1))]), (.t 5, [iv (w64 (l6_2 + 1))])]) (wk_of (by kernel_rfl)) (ih (w64 (l6_2 + 1)) _ h)
    · refine WK.ce (b := (decide (l6_2 < (l6_0.length : Int)))) (by kernel_rfl) b8_0 ?_
      refine WK.weak (l := []) (wk_of (by kernel_rfl)) ?_
      refine WK.exit (n := 0) (by kernel_rfl) ?_
      cases some_inj h
      exact WKe.fin (e' := .exit 0) (by kernel_rfl) ⟨rfl, rfl⟩
noncomputable def diwanref13_SameSeats (fu : Nat) (a : List TSeat) (b : List TSeat) : Option Bool :=
  br ((a.length : Int) != (b.length : Int))
    (some false)
    (bd (diwanref13_SameSeats.lp6 fu a b fu 0) fun o_ => (match o_ with
    | .inl _ =>
      some true
    | .inr _ =>
      some false))
theorem diwanref13_SameSeats.meets (fu : Nat) (a : List TSeat) (b : List TSeat) (z0 : Bool) (h : diwanref13_SameSeats fu a b = some z0) : Meets Try.prog ⟨16, [.data (.slc false none 3 (List.map TSeat.en a)), .data (.slc false none 3 (List.map TSeat.en b))], []⟩ ⟨bv z0, []⟩ := by
  refine meets_of (O := diwanref13_SameSeats.O) hmix (fn := Try.f16) (code := bd16) (by kernel_rfl) ?_
  refine WK.weak (l := [(.t 0, [.data (.slc false none 3 (List.map TSeat.en a))]), (.t 1, [.data (.slc false none 3 (List.map TSeat.en b))])]) (wk_of (by kernel_rfl)) ?_
  unfold diwanref13_SameSeats at h
  refine WK.rs (g := []) (l' := [(.t 0, [.data (.slc false none 3 (List.map TSeat.en a))]), (.t 1, [.data (.slc false none 3 (List.map TSeat.en b))])]) (by kernel_rfl) .nil (by kernel_rfl) ?_
  refine WK.seq (by kernel_rfl) ?_
  refine WK.rs (g := [.s (.t 7) [iv (a.length : Int)], .s (.t 9) [iv (b.length : Int)]]) (l' := [(.t 0, [.data (.slc false none 3 (List.map TSeat.en a))]), (.t 1, [.data (.slc false none 3 (List.map TSeat.en b))]), (.t 10, [bv ((a.length : Int) != (b.length : Int))])]) (by kernel_rfl) (.cons (c_len (e := TSeat.en) (l := a)) (.cons (c_len (e := TSeat.en) (l := b)) .nil)) (by kernel_rfl) ?_
  rcases br_inv h with ⟨b3_0, h⟩ | ⟨b3_0, h⟩
  · refine WK.ct (b := ((a.length : Int) != (b.length : Int))) (by kernel_rfl) b3_0 ?_
    refine WK.rs (g := []) (l' := [(.t 4, [bv false])]) (by kernel_rfl) .nil (by kernel_rfl) ?_
    refine WK.weak (l := [(.t 4, [bv false])]) (wk_of (by kernel_rfl)) ?_
    refine WK.ret (by kernel_rfl) ?_
    have h_ := some_inj h
    subst h_
    exact WKe.fin (e' := .ret) (by kernel_rfl) (fin_of (g := []) (by first | exact .inl rfl | exact .inr rfl) .nil (by kernel_rfl))
  · refine WK.ce (b := ((a.length : Int) != (b.length : Int))) (by kernel_rfl) b3_0 ?_
    refine WK.skip (by kernel_rfl) ?_
    refine WKe.code (y := (cR (cR bd16))) (ks' := []) (by kernel_rfl) ?_
    refine WK.seq (by kernel_rfl) ?_
    refine WK.rs (g := []) (l' := [(.t 0, [.data (.slc false none 3 (List.map TSeat.en a))]), (.t 1, [.data (.slc false none 3 (List.map TSeat.en b))]), (.t 5, [iv 0])]) (by kernel_rfl) .nil (by kernel_rfl) ?_
    refine WK.block (n := 0) (by kernel_rfl) ?_
    obtain ⟨o13, ho13, h⟩ := bd_inv h
    refine WK.weak (l := [(.t 0, [.data (.slc false none 3 (List.map TSeat.en a))]), (.t 1, [.data (.slc false none 3 (List.map TSeat.en b))]), (.t 5, [iv 0])]) (wk_of (by kernel_rfl)) ?_
    refine WK.use (diwanref13_SameSeats.lp6_ok fu a b _ 0 _ ho13) ?_
    intro e_ τ_ hp_
    rcases o13 with o13 | o13
    · obtain ⟨⟩ := o13
      obtain ⟨rfl, rfl⟩ := hp_
      refine WKe.code (y := (cR (cR (cR bd16)))) (ks' := []) (by kernel_rfl) ?_
      refine WK.rs (g := []) (l' := [(.t 4, [bv true])]) (by kernel_rfl) .nil (by kernel_rfl) ?_
      refine WK.weak (l := [(.t 4, [bv true])]) (wk_of (by kernel_rfl)) ?_
      refine WK.ret (by kernel_rfl) ?_
      have h_ := some_inj h
      subst h_
      exact WKe.fin (e' := .ret) (by kernel_rfl) (fin_of (g := []) (by first | exact .inl rfl | exact .inr rfl) .nil (by kernel_rfl))
    · obtain ⟨⟩ := o13
      obtain ⟨rfl, rfl⟩ := hp_
      have h_ := some_inj h
      subst h_
      exact WKe.fin (e' := .ret) (by kernel_rfl) (fin_of (g := []) (by first | exact .inl rfl | exact .inr rfl) .nil (by kernel_rfl))
/-- diwan/diwanlaw18.JudgeAll -/
noncomputable def bd3 : Code := (Try.f3.body).getD .skip
def diwanlaw18_JudgeAll.O : Nat → Nat := fun t => bif ([2, 3, 4, 5, 6, 7, 8, 9, 22, 28] : List Nat).any (Nat.beq t) then 1 else 0
noncomputable def diwanlaw18_JudgeAll (fu : Nat) (picks : List Int) : Option Bool :=
  bd (diwanlaw18_begun fu) fun r2_1 =>
  br (!r2_1)
    (some false)
    (br (decide ((picks.length : Int) > 250))
      (some true)
      (bd (diwanplay_Made picks) fun r8_1 =>
      bd (diwanplay_Picks_Txns fu 25 r8_1) fun (r8_3, r8_4) =>
      bd (judge_Fold fu r8_3) fun (r9_1, r9_2, r9_3) =>
      bd (diwanref13_Fold fu r8_3) fun (r10_1, r10_2, r10_3) =>
      bd (diwanref13_SameInts fu r9_1 r10_1) fun r11_1 =>
      br r11_1
        (bd (diwanref13_SameStore fu r9_2 r10_2) fun r11_4 =>
        br r11_4
          (bd (diwanref13_SameSeats fu r9_3 r10_3) fun r11_7 =>
          some r11_7)
          (some false))
        (some false)))
theorem diwanlaw18_JudgeAll.meets (fu : Nat) (picks : List Int) (z0 : Bool) (h : diwanlaw18_JudgeAll fu picks = some z0) : Meets Try.prog ⟨3, [.data (.slc false none 1 (List.map e_u8 picks))], []⟩ ⟨bv z0, []⟩ := by
  refine meets_of (O := diwanlaw18_JudgeAll.O) hmix (fn := Try.f3) (code := bd3) (by kernel_rfl) ?_
  refine WK.weak (l := [(.t 0, [.data (.slc false none 1 (List.map e_u8 picks))])]) (wk_of (by kernel_rfl)) ?_
  unfold diwanlaw18_JudgeAll at h
  refine WK.rs (g := []) (l' := [(.t 0, [.data (.slc false none 1 (List.map e_u8 picks))])]) (by kernel_rfl) .nil (by kernel_rfl) ?_
  refine WK.seq (by kernel_rfl) ?_
  obtain ⟨r2_1, h2_2, h⟩ := bd_inv h
  refine WK.rs (g := [.a ⟨bv r2_1, []⟩]) (l' := [(.t 0, [.data (.slc false none 1 (List.map e_u8 picks))]), (.t 11, [bv (!r2_1)])]) (by kernel_rfl) (.cons (Asks.of (C := Meets Try.prog) (diwanlaw18_begun.meets fu _ h2_2)) .nil) (by kernel_rfl) ?_
  rcases br_inv h with ⟨b3_0, h⟩ | ⟨b3_0, h⟩
  · refine WK.ct (b := (!r2_1)) (by kernel_rfl) b3_0 ?_
    refine WK.rs (g := []) (l' := [(.t 2, [bv false])]) (by kernel_rfl) .nil (by kernel_rfl) ?_
    refine WK.weak (l := [(.t 2, [bv false])]) (wk_of (by kernel_rfl)) ?_
    refine WK.ret (by kernel_rfl) ?_
    have h_ := some_inj h
    subst h_
    exact WKe.fin (e' := .ret) (by kernel_rfl) (fin_of (g := []) (by first | exact .inl rfl | exact .inr rfl) .nil (by kernel_rfl))
  · refine WK.ce (b := (!r2_1)) (by kernel_rfl) b3_0 ?_
    refine WK.skip (by kernel_rfl) ?_
    refine WKe.code (y := (cR (cR bd3))) (ks' := []) (by kernel_rfl) ?_
    refine WK.seq (by kernel_rfl) ?_
    refine WK.rs (g := [.s (.t 13) [iv (picks.length : Int)]]) (l' := [(.t 0, [.data (.slc false none 1 (List.map e_u8 picks))]), (.t 14, [bv (decide ((picks.length : Int) > 250))])]) (by kernel_rfl) (.cons (c_len (e := e_u8) (l := picks)) .nil) (by kernel_rfl) ?_
    rcases br_inv h with ⟨b6_0, h⟩ | ⟨b6_0, h⟩
    · refine WK.ct (b := (decide ((picks.length : Int) > 250))) (by kernel_rfl) b6_0 ?_
      refine WK.rs (g := []) (l' := [(.t 2, [bv true])]) (by kernel_rfl) .nil (by kernel_rfl) ?_
      refine WK.weak (l := [(.t 2, [bv true])]) (wk_of (by kernel_rfl)) ?_
      refine WK.ret (by kernel_rfl) ?_
      have h_ := some_inj h
      subst h_
      exact WKe.fin (e' := .ret) (by kernel_rfl) (fin_of (g := []) (by first | exact .inl rfl | exact .inr rfl) .nil (by kernel_rfl))
    · refine WK.ce (b := (decide ((picks.length : Int) > 250))) (by kernel_rfl) b6_0 ?_
      refine WK.skip (by kernel_rfl) ?_
      refine WKe.code (y := (cR (cR (cR bd3)))) (ks' := []) (by kernel_rfl) ?_
      obtain ⟨r8_1, h8_2, h⟩ := bd_inv h
      obtain ⟨⟨r8_3, r8_4⟩, h8_5, h⟩ := bd_inv h
      refine WK.rs (g := [.a ⟨.ptr 1000 0, [[.data (.slc false none 1 (List.map e_u8 r8_1.l)), iv r8_1.n]]⟩, .a ⟨.data (.slc true none 4 (List.map TTxn.en r8_3)), [[.data (.slc false none 1 (List.map e_u8 r8_4.l)), iv r8_4.n]]⟩]) (l' := [(.t 3, [.data (.slc true none 4 (List.map TTxn.en r8_3))])]) (by kernel_rfl) (.cons (Asks.of (C := Meets Try.prog) (diwanplay_Made.meets picks _ h8_2)) (.cons (Asks.of (C := Meets Try.prog) (diwanplay_Picks_Txns.meets fu 25 r8_1 _ _ h8_5)) .nil)) (by kernel_rfl) ?_
      obtain ⟨⟨r9_1, r9_2, r9_3⟩, h9_4, h⟩ := bd_inv h
      refine WK.rs (g := [.a ⟨.tup [.data (.slc false none 1 (List.map e_i64 r9_1)), .data (.agg [.slc false none 2 (List.map TChain.en r9_2.Chains), .val (.int .i64 r9_2.Mark)]), .data (.slc false none 3 (List.map TSeat.en r9_3))], []⟩]) (l' := [(.t 3, [.data (.slc false none 4 (List.map TTxn.en r8_3))]), (.t 4, [.data (.slc false none 1 (List.map e_i64 r9_1))]), (.t 5, [.ptr 5 0]), (.t 6, [.data (.slc false none 3 (List.map TSeat.en r9_3))]), (.o 5, [.data (.slc false none 2 (List.map TChain.en r9_2.Chains)), iv r9_2.Mark])]) (by kernel_rfl) (.cons (Asks.of (C := Meets Try.prog) (judge_Fold.meets fu r8_3 _ _ _ h9_4)) .nil) (by kernel_rfl) ?_
      obtain ⟨⟨r10_1, r10_2, r10_3⟩, h10_4, h⟩ := bd_inv h
      refine WK.rs (g := [.a ⟨.tup [.data (.slc false none 1 (List.map e_i64 r10_1)), .data (.agg [.slc false none 2 (List.map TChain.en r10_2.Chains), .val (.int .i64 r10_2.Mark)]), .data (.slc false none 3 (List.map TSeat.en r10_3))], []⟩]) (l' := [(.t 4, [.data (.slc false none 1 (List.map e_i64 r9_1))]), (.t 5, [.ptr 5 0]), (.t 6, [.data (.slc false none 3 (List.map TSeat.en r9_3))]), (.t 7, [.data (.slc false none 1 (List.map e_i64 r10_1))]), (.t 8, [.ptr 8 0]), (.t 9, [.data (.slc false none 3 (List.map TSeat.en r10_3))]), (.o 5, [.data (.slc false none 2 (List.map TChain.en r9_2.Chains)), iv r9_2.Mark]), (.o 8, [.data (.slc false none 2 (List.map TChain.en r10_2.Chains)), iv r10_2.Mark])]) (by kernel_rfl) (.cons (Asks.of (C := Meets Try.prog) (diwanref13_Fold.meets fu r8_3 _ _ _ h10_4)) .nil) (by kernel_rfl) ?_
      obtain ⟨r11_1, h11_2, h⟩ := bd_inv h
      rcases br_inv h with ⟨b11_3, h⟩ | ⟨b11_3, h⟩
      · obtain ⟨r11_4, h11_5, h⟩ := bd_inv h
        rcases br_inv h with ⟨b11_6, h⟩ | ⟨b11_6, h⟩
        · obtain ⟨r11_7, h11_8, h⟩ := bd_inv h
          refine WK.rs (g := [.a ⟨bv r11_1, []⟩, .b true, .b true, .b true, .a ⟨bv r11_4, []⟩, .b true, .b true, .b true, .b true, .a ⟨bv r11_7, []⟩, .b true]) (l' := [(.t 2, [bv r11_7])]) (by kernel_rfl) (.cons (Asks.of (C := Meets Try.prog) (diwanref13_SameInts.meets fu r9_1 r10_1 _ h11_2)) (.cons b11_3 (.cons b11_3 (.cons b11_3 (.cons (Asks.of (C := Meets Try.prog) (diwanref13_SameStore.meets fu r9_2 r10_2 _ h11_5)) (.cons b11_3 (.cons b11_6 (.cons b11_6 (.cons b11_6 (.cons (Asks.of (C := Meets Try.prog) (diwanref13_SameSeats.meets fu r9_3 r10_3 _ h11_8)) (.cons b11_6 .nil))))))))))) (by kernel_rfl) ?_
          refine WK.weak (l := [(.t 2, [bv r11_7])]) (wk_of (by kernel_rfl)) ?_
          refine WK.ret (by kernel_rfl) ?_
          have h_ := some_inj h
          subst h_
          exact WKe.fin (e' := .ret) (by kernel_rfl) (fin_of (g := []) (by first | exact .inl rfl | exact .inr rfl) .nil (by kernel_rfl))
        · refine WK.rs (g := [.a ⟨bv r11_1, []⟩, .b true, .b true, .b true, .a ⟨bv r11_4, []⟩, .b true, .b false, .b false, .b false, .b false]) (l' := [(.t 2, [bv false])]) (by kernel_rfl) (.cons (Asks.of (C := Meets Try.prog) (diwanref13_SameInts.meets fu r9_1 r10_1 _ h11_2)) (.cons b11_3 (.cons b11_3 (.cons b11_3 (.cons (Asks.of (C := Meets Try.prog) (diwanref13_SameStore.meets fu r9_2 r10_2 _ h11_5)) (.cons b11_3 (.cons b11_6 (.cons b11_6 (.cons b11_6 (.cons b11_6 .nil)))))))))) (by kernel_rfl) ?_
          refine WK.weak (l := [(.t 2, [bv false])]) (wk_of (by kernel_rfl)) ?_
          refine WK.ret (by kernel_rfl) ?_
          have h_ := some_inj h
          subst h_
          exact WKe.fin (e' := .ret) (by kernel_rfl) (fin_of (g := []) (by first | exact .inl rfl | exact .inr rfl) .nil (by kernel_rfl))
      · refine WK.rs (g := [.a ⟨bv r11_1, []⟩, .b false, .b false, .b false, .b false, .b false, .b false, .b false, .b false]) (l' := [(.t 2, [bv false])]) (by kernel_rfl) (.cons (Asks.of (C := Meets Try.prog) (diwanref13_SameInts.meets fu r9_1 r10_1 _ h11_2)) (.cons b11_3 (.cons b11_3 (.cons b11_3 (.cons b11_3 (.cons (Eq.refl false) (.cons (Eq.refl false) (.cons (Eq.refl false) (.cons (Eq.refl false) .nil))))))))) (by kernel_rfl) ?_
        refine WK.weak (l := [(.t 2, [bv false])]) (wk_of (by kernel_rfl)) ?_
        refine WK.ret (by kernel_rfl) ?_
        have h_ := some_inj h
        subst h_
        exact WKe.fin (e' := .ret) (by kernel_rfl) (fin_of (g := []) (by first | exact .inl rfl | exact .inr rfl) .nil (by kernel_rfl))
end Go.Proofs.Ytknkeabmjleoiaa.Told
