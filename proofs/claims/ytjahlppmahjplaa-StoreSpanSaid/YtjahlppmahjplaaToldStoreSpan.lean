/- Functions of the program told as Lean functions, with the walks of their code in the machine by value. -/
import Derived.Test.YtjahlppmahjplaaProg
import Derived.Test.YtjahlppmahjplaaVam2
import Derived.Test.YtjahlppmahjplaaIns49
import Derived.Test.YtjahlppmahjplaaToldStoreSpanp1
namespace Go.Proofs.Ytjahlppmahjplaa.Told
open Go Go.Proofs Go.Proofs.Ytjahlppmahjplaa Go.Proofs.Ytjahlppmahjplaa.Vam
set_option linter.unusedVariables false
set_option maxRecDepth 100000
/-- (*diwan/diwanplay.Picks).Txn -/
noncomputable def bd11 : Code := (Try.f11.body).getD .skip
def diwanplay_Picks_Txn.O : Nat → Nat := fun t => bif ([4, 5, 6, 7, 8, 9, 10, 11, 18, 35, 45, 51, 52, 68, 77, 78, 80] : List Nat).any (Nat.beq t) then 1 else 0
noncomputable def diwanplay_Picks_Txn.lp5 (fu : Nat) (l5_0 : Int) (l5_1 : List ByteArray) (l5_3 : TTxn) : Nat → Int → TTxn → TPicks → Option (TTxn × TPicks)
  | 0, _, _, _ => none
  | n_ + 1, l5_2, l5_4, l5_5 =>
    br (decide (l5_2 < (l5_1.length : Int)))
      (ix l5_1 l5_2 fun x8_1 =>
      bd (diwanplay_Picks_Num (if l5_0 < 1 then 1 else l5_0) l5_5) fun (r8_4, r8_5) =>
      jn (fun (j12_5 : TRead) (j12_6 : TPicks) =>
        gd (decide (l5_4.Reads.length + ([j12_5] : List TRead).length ≤ 4294967296)) <|
        diwanplay_Picks_Txn.lp5 fu l5_0 l5_1 l5_3 n_ (w64 (l5_2 + 1)) (TTxn.mk l5_4.Session l5_4.Seq (l5_4.Reads ++ ([j12_5] : List TRead)) l5_4.Writes) j12_6) fun k12 =>
      br (decide (r8_4 > 0))
        (bd (diwanplay_Picks_Num 4 r8_5) fun (r9_2, r9_3) =>
        br (decide (r9_2 > 0))
          (bd (diwanplay_Picks_Val r9_3) fun (r11_1, r11_2) =>
          k12 (TRead.mk x8_1 r8_4 r11_1 true) r11_2)
          (k12 (TRead.mk x8_1 r8_4 ByteArray.empty false) r9_3))
        (k12 (TRead.mk x8_1 r8_4 ByteArray.empty false) r8_5))
      (some (l5_4, l5_5))
noncomputable def diwanplay_Picks_Txn.lp5_post (l5_0 : Int) (l5_1 : List ByteArray) (l5_3 : TTxn) (r_ : (TTxn × TPicks)) : Wy → St → Prop := fun e τ => match r_ with
  | (y0, y1) => e = .exit 0 ∧ τ = ofL [(.t 0, [.ptr 1000 0]), (.t 4, [.ptr 4 0]), (.t 5, [.ptr 5 0]), (.o 4, (TTxn.ob_0011 l5_3)), (.o 5, (TTxn.ob_0011 y0)), (.o 1000, [.data (.slc false none 1 (List.map e_u8 y1.l)), iv y1.n])]
theorem diwanplay_Picks_Txn.lp5_ok (fu : Nat) (l5_0 : Int) (l5_1 : List ByteArray) (l5_3 : TTxn) : ∀ (n_ : Nat) (l5_2 : Int) (l5_4 : TTxn) (l5_5 : TPicks) (r_ : (TTxn × TPicks)), diwanplay_Picks_Txn.lp5 fu l5_0 l5_1 l5_3 n_ l5_2 l5_4 l5_5 = some r_ → WK Try.prog diwanplay_Picks_Txn.O (Ck Try.prog) (cB (cR (cL (cR (cR (cR bd11)))))) [] (ofL [(.t 0, [.ptr 1000 0]), (.t 1, [iv l5_0]), (.t 4, [.ptr 4 0]), (.t 5, [.ptr 5 0]), (.t 6, [.data (.slc true none 1 (List.map e_s l5_1))]), (.t 7, [iv l5_2]), (.o 4, (TTxn.ob_0011 l5_3)), (.o 5, (TTxn.ob_0011 l5_4)), (.o 1000, [.data (.slc false none 1 (List.map e_u8 l5_5.l)), iv l5_5.n])]) (diwanplay_Picks_Txn.lp5_post l5_0 l5_1 l5_3 r_) := by
  intro n_
  induction n_ with
  | zero => intro l5_2 l5_4 l5_5 r_ h; exact no_none h
  | succ n_ ih =>
    intro l5_2 l5_4 l5_5 r_ h
    refine WK.loop (by kernel_rfl) ?_
    refine WK.seq (by kernel_rfl) ?_
    refine WK.rs (g := [.s (.t 23) [iv (l5_1.length : Int)]]) (l' := [(.t 0, [.ptr 1000 0]), (.t 1, [iv l5_0]), (.t 4, [.ptr 4 0]), (.t 5, [.ptr 5 0]), (.t 6, [.data (.slc true none 1 (List.map e_s l5_1))]), (.t 7, [iv l5_2]), (.t 24, [bv (decide (l5_2 < (l5_1.length : Int)))]), (.o 4, (TTxn.ob_0011 l5_3)), (.o 5, (TTxn.ob_0011 l5_4)), (.o 1000, [.data (.slc false none 1 (List.map e_u8 l5_5.l)), iv l5_5.n])]) (by kernel_rfl) (.cons (c_len (e := e_s) (l := l5_1)) .nil) (by kernel_rfl) ?_
    rcases br_inv h with ⟨b7_0, h⟩ | ⟨b7_0, h⟩
    · refine WK.ct (b := (decide (l5_2 < (l5_1.length : Int)))) (by kernel_rfl) b7_0 ?_
      refine WK.skip (by kernel_rfl) ?_
      refine WKe.code (y := (cR (cB (cB (cR (cL (cR (cR (cR bd11))))))))) (ks' := [.lp (cB (cR (cL (cR (cR (cR bd11))))))]) (by kernel_rfl) ?_
      refine WK.seq (by kernel_rfl) ?_
      refine WK.block (n := 1) (by kernel_rfl) ?_
      obtain ⟨x8_1, a8_2, e8_3, h⟩ := ix_inv h
      obtain ⟨⟨r8_4, r8_5⟩, h8_6, h⟩ := bd_inv h
      refine WK.rs (g := [.c (e_s x8_1), .a ⟨iv r8_4, [[.data (.slc false none 1 (List.map e_u8 r8_5.l)), iv r8_5.n]]⟩]) (l' := [(.t 0, [.ptr 1000 0]), (.t 1, [iv l5_0]), (.t 4, [.ptr 4 0]), (.t 5, [.ptr 5 0]), (.t 6, [.data (.slc true none 1 (List.map e_s l5_1))]), (.t 7, [iv l5_2]), (.t 8, [.ptr 8 0]), (.o 4, (TTxn.ob_0011 l5_3)), (.o 5, (TTxn.ob_0011 l5_4)), (.o 8, (TRead.ob (TRead.mk x8_1 r8_4 ByteArray.empty false))), (.o 1000, [.data (.slc false none 1 (List.map e_u8 r8_5.l)), iv r8_5.n])]) (by kernel_rfl) (.cons (c_ix (e := e_s) a8_2 e8_3) (.cons (c_el (e := e_s) e8_3) (.cons (Asks.of (C := Meets Try.prog) (diwanplay_Picks_Num.meets (if l5_0 < 1 then 1 else l5_0) l5_5 _ _ h8_6)) (.cons (Eq.refl true) .nil)))) (by kernel_rfl) ?_
      obtain ⟨k12, hk12, h⟩ := jn_inv h
      have Jk12 : ∀ (j12_5 : TRead) (j12_6 : TPicks), k12 j12_5 j12_6 = some r_ → WK Try.prog diwanplay_Picks_Txn.O (Ck Try.prog) (cR (cR (cB (cL (cR (cB (cB (cR (cL (cR (cR (cR bd11)))))))))))) [.blk 1, .seq (cR (cR (cB (cB (cR (cL (cR (cR (cR bd11))))))))), .lp (cB (cR (cL (cR (cR (cR bd11))))))] (ofL [(.t 0, [.ptr 1000 0]), (.t 1, [iv l5_0]), (.t 4, [.ptr 4 0]), (.t 5, [.ptr 5 0]), (.t 6, [.data (.slc true none 1 (List.map e_s l5_1))]), (.t 7, [iv l5_2]), (.t 8, [.ptr 8 0]), (.o 4, (TTxn.ob_0011 l5_3)), (.o 5, (TTxn.ob_0011 l5_4)), (.o 8, (TRead.ob j12_5)), (.o 1000, [.data (.slc false none 1 (List.map e_u8 j12_6.l)), iv j12_6.n])]) (diwanplay_Picks_Txn.lp5_post l5_0 l5_1 l5_3 r_) := by
        intro j12_5 j12_6 h
        rw [hk12] at h
        obtain ⟨c13_1, h⟩ := gd_inv h
        refine WK.rc (g := [.s (.t 52) [.data (.slc true none 4 (List.map TRead.en (l5_4.Reads ++ ([j12_5] : List TRead))))]]) (l' := [(.t 0, [.ptr 1000 0]), (.t 1, [iv l5_0]), (.t 4, [.ptr 4 0]), (.t 5, [.ptr 5 0]), (.t 6, [.data (.slc true none 1 (List.map e_s l5_1))]), (.t 7, [iv l5_2]), (.o 4, (TTxn.ob_0011 l5_3)), (.o 5, (TTxn.ob_0011 (TTxn.mk l5_4.Session l5_4.Seq (l5_4.Reads ++ ([j12_5] : List TRead)) l5_4.Writes))), (.o 1000, [.data (.slc false none 1 (List.map e_u8 j12_6.l)), iv j12_6.n])]) (.cons (c_al (e := TRead.en) (f := TRead.en) c13_1) (.cons (congrArg (fun d : DV => [AV.data d]) (c_app (e := TRead.en) (s := 4) (l := l5_4.Reads) (m := ([j12_5] : List TRead)))) .nil)) (by kernel_rfl) (y := (cR (cR (cB (cB (cR (cL (cR (cR (cR bd11)))))))))) (ks' := [.lp (cB (cR (cL (cR (cR (cR bd11))))))]) (by kernel_rfl) ?_
        refine WK.rc (g := []) (l' := [(.t 0, [.ptr 1000 0]), (.t 1, [iv l5_0]), (.t 4, [.ptr 4 0]), (.t 5, [.ptr 5 0]), (.t 6, [.data (.slc true none 1 (List.map e_s l5_1))]), (.t 7, [iv (w64 (l5_2 + 1))]), (.o 4, (TTxn.ob_0011 l5_3)), (.o 5, (TTxn.ob_0011 (TTxn.mk l5_4.Session l5_4.Seq (l5_4.Reads ++ ([j12_5] : List TRead)) l5_4.Writes))), (.o 1000, [.data (.slc false none 1 (List.map e_u8 j12_6.l)), iv j12_6.n])]) .nil (by kernel_rfl) (y := (cB (cR (cL (cR (cR (cR bd11))))))) (ks' := []) (by kernel_rfl) ?_
        exact WK.weak (l := [(.t 0, [.ptr 1000 0]), (.t 1, [iv l5_0]), (.t 4, [.ptr 4 0]), (.t 5, [.ptr 5 0]), (.t 6, [.data (.slc true none 1 (List.map e_s l5_1))]), (.t 7, [iv (w64 (l5_2 + 1))]), (.o 4, (TTxn.ob_0011 l5_3)), (.o 5, (TTxn.ob_0011 (TTxn.mk l5_4.Session l5_4.Seq (l5_4.Reads ++ ([j12_5] : List TRead)) l5_4.Writes))), (.o 1000, [.data (.slc false none 1 (List.map e_u8 j12_6.l)), iv j12_6.n])]) (wk_of (by kernel_rfl)) (ih (w64 (l5_2 + 1)) (TTxn.mk l5_4.Session l5_4.Seq (l5_4.Reads ++ ([j12_5] : List TRead)) l5_4.Writes) j12_6 _ h)
      clear hk12
      refine WK.seq (by kernel_rfl) ?_
      rcases br_inv h with ⟨b9_1, h⟩ | ⟨b9_1, h⟩
      · obtain ⟨⟨r9_2, r9_3⟩, h9_4, h⟩ := bd_inv h
        refine WK.rs (g := [.b true, .b true, .a ⟨iv r9_2, [[.data (.slc false none 1 (List.map e_u8 r9_3.l)), iv r9_3.n]]⟩, .b true, .b true]) (l' := [(.t 0, [.ptr 1000 0]), (.t 1, [iv l5_0]), (.t 4, [.ptr 4 0]), (.t 5, [.ptr 5 0]), (.t 6, [.data (.slc true none 1 (List.map e_s l5_1))]), (.t 7, [iv l5_2]), (.t 8, [.ptr 8 0]), (.t 43, [bv (decide (r9_2 > 0))]), (.o 4, (TTxn.ob_0011 l5_3)), (.o 5, (TTxn.ob_0011 l5_4)), (.o 8, (TRead.ob (TRead.mk x8_1 r8_4 ByteArray.empty false))), (.o 1000, [.data (.slc false none 1 (List.map e_u8 r9_3.l)), iv r9_3.n])]) (by kernel_rfl) (.cons b9_1 (.cons b9_1 (.cons (Asks.of (C := Meets Try.prog) (diwanplay_Picks_Num.meets 4 r8_5 _ _ h9_4)) (.cons b9_1 (.cons b9_1 .nil))))) (by kernel_rfl) ?_
        rcases br_inv h with ⟨b10_0, h⟩ | ⟨b10_0, h⟩
        · refine WK.ct (b := (decide (r9_2 > 0))) (by kernel_rfl) b10_0 ?_
          obtain ⟨⟨r11_1, r11_2⟩, h11_3, h⟩ := bd_inv h
          refine WK.rc (g := [.a ⟨sv r11_1, [[.data (.slc false none 1 (List.map e_u8 r11_2.l)), iv r11_2.n]]⟩]) (l' := [(.t 0, [.ptr 1000 0]), (.t 1, [iv l5_0]), (.t 4, [.ptr 4 0]), (.t 5, [.ptr 5 0]), (.t 6, [.data (.slc true none 1 (List.map e_s l5_1))]), (.t 7, [iv l5_2]), (.t 8, [.ptr 8 0]), (.o 4, (TTxn.ob_0011 l5_3)), (.o 5, (TTxn.ob_0011 l5_4)), (.o 8, (TRead.ob (TRead.mk x8_1 r8_4 r11_1 true))), (.o 1000, [.data (.slc false none 1 (List.map e_u8 r11_2.l)), iv r11_2.n])]) (.cons (Asks.of (C := Meets Try.prog) (diwanplay_Picks_Val.meets r9_3 _ _ h11_3)) .nil) (by kernel_rfl) (y := (cR (cR (cB (cL (cR (cB (cB (cR (cL (cR (cR (cR bd11))))))))))))) (ks' := [.blk 1, .seq (cR (cR (cB (cB (cR (cL (cR (cR (cR bd11))))))))), .lp (cB (cR (cL (cR (cR (cR bd11))))))]) (by kernel_rfl) ?_
          exact WK.weak (l := [(.t 0, [.ptr 1000 0]), (.t 1, [iv l5_0]), (.t 4, [.ptr 4 0]), (.t 5, [.ptr 5 0]), (.t 6, [.data (.slc true none 1 (List.map e_s l5_1))]), (.t 7, [iv l5_2]), (.t 8, [.ptr 8 0]), (.o 4, (TTxn.ob_0011 l5_3)), (.o 5, (TTxn.ob_0011 l5_4)), (.o 8, (TRead.ob (TRead.mk x8_1 r8_4 r11_1 true))), (.o 1000, [.data (.slc false none 1 (List.map e_u8 r11_2.l)), iv r11_2.n])]) (wk_of (by kernel_rfl)) (Jk12 (TRead.mk x8_1 r8_4 r11_1 true) r11_2 h)
        · refine WK.ce (b := (decide (r9_2 > 0))) (by kernel_rfl) b10_0 ?_
          refine WK.skip (by kernel_rfl) ?_
          refine WKe.code (y := (cR (cR (cB (cL (cR (cB (cB (cR (cL (cR (cR (cR bd11))))))))))))) (ks' := [.blk 1, .seq (cR (cR (cB (cB (cR (cL (cR (cR (cR bd11))))))))), .lp (cB (cR (cL (cR (cR (cR bd11))))))]) (by kernel_rfl) ?_
          exact WK.weak (l := [(.t 0, [.ptr 1000 0]), (.t 1, [iv l5_0]), (.t 4, [.ptr 4 0]), (.t 5, [.ptr 5 0]), (.t 6, [.data (.slc true none 1 (List.map e_s l5_1))]), (.t 7, [iv l5_2]), (.t 8, [.ptr 8 0]), (.o 4, (TTxn.ob_0011 l5_3)), (.o 5, (TTxn.ob_0011 l5_4)), (.o 8, (TRead.ob (TRead.mk x8_1 r8_4 ByteArray.empty false))), (.o 1000, [.data (.slc false none 1 (List.map e_u8 r9_3.l)), iv r9_3.n])]) (wk_of (by kernel_rfl)) (Jk12 (TRead.mk x8_1 r8_4 ByteArray.empty false) r9_3 h)
      · refine WK.rs (g := [.b false, .b false, .b false, .b false]) (l' := [(.t 0, [.ptr 1000 0]), (.t 1, [iv l5_0]), (.t 4, [.ptr 4 0]), (.t 5, [.ptr 5 0]), (.t 6, [.data (.slc true none 1 (List.map e_s l5_1))]), (.t 7, [iv l5_2]), (.t 8, [.ptr 8 0]), (.t 43, [bv false]), (.o 4, (TTxn.ob_0011 l5_3)), (.o 5, (TTxn.ob_0011 l5_4)), (.o 8, (TRead.ob (TRead.mk x8_1 r8_4 ByteArray.empty false))), (.o 1000, [.data (.slc false none 1 (List.map e_u8 r8_5.l)), iv r8_5.n])]) (by kernel_rfl) (.cons b9_1 (.cons b9_1 (.cons b9_1 (.cons b9_1 .nil)))) (by kernel_rfl) ?_
        refine WK.ce (b := false) (by kernel_rfl) rfl ?_
        refine WK.skip (by kernel_rfl) ?_
        refine WKe.code (y := (cR (cR (cB (cL (cR (cB (cB (cR (cL (cR (cR (cR bd11))))))))))))) (ks' := [.blk 1, .seq (cR (cR (cB (cB (cR (cL (cR (cR (cR bd11))))))))), .lp (cB (cR (cL (cR (cR (cR bd11))))))]) (by kernel_rfl) ?_
        exact WK.weak (l := [(.t 0, [.ptr 1000 0]), (.t 1, [iv l5_0]), (.t 4, [.ptr 4 0]), (.t 5, [.ptr 5 0]), (.t 6, [.data (.slc true none 1 (List.map e_s l5_1))]), (.t 7, [iv l5_2]), (.t 8, [.ptr 8 0]), (.o 4, (TTxn.ob_0011 l5_3)), (.o 5, (TTxn.ob_0011 l5_4)), (.o 8, (TRead.ob (TRead.mk x8_1 r8_4 ByteArray.empty false))), (.o 1000, [.data (.slc false none 1 (List.map e_u8 r8_5.l)), iv r8_5.n])]) (wk_of (by kernel_rfl)) (Jk12 (TRead.mk x8_1 r8_4 ByteArray.empty false) r8_5 h)
    · refine WK.ce (b := (decide (l5_2 < (l5_1.length : Int)))) (by kernel_rfl) b7_0 ?_
      refine WK.weak (l := [(.t 0, [.ptr 1000 0]), (.t 4, [.ptr 4 0]), (.t 5, [.ptr 5 0]), (.o 4, (TTxn.ob_0011 l5_3)), (.o 5, (TTxn.ob_0011 l5_4)), (.o 1000, [.data (.slc false none 1 (List.map e_u8 l5_5.l)), iv l5_5.n])]) (wk_of (by kernel_rfl)) ?_
      refine WK.exit (n := 0) (by kernel_rfl) ?_
      cases some_inj h
      exact WKe.fin (e' := .exit 0) (by kernel_rfl) ⟨rfl, rfl⟩
noncomputable def diwanplay_Picks_Txn.lp18 (fu : Nat) (l18_0 : List ByteArray) (l18_2 : TTxn) : Nat → Int → TTxn → TPicks → Option (TTxn × TPicks)
  | 0, _, _, _ => none
  | n_ + 1, l18_1, l18_3, l18_4 =>
    br (decide (l18_1 < (l18_0.length : Int)))
      (ix l18_0 l18_1 fun x21_1 =>
      bd (diwanplay_Picks_Val l18_4) fun (r21_4, r21_5) =>
      jn (fun (j25_4 : TWrite) (j25_5 : TPicks) =>
        gd (decide (l18_3.Writes.length + ([j25_4] : List TWrite).length ≤ 4294967296)) <|
        diwanplay_Picks_Txn.lp18 fu l18_0 l18_2 n_ (w64 (l18_1 + 1)) (TTxn.mk l18_3.Session l18_3.Seq l18_3.Reads (l18_3.Writes ++ ([j25_4] : List TWrite))) j25_5) fun k25 =>
      bd (diwanplay_Picks_Num 4 r21_5) fun (r22_1, r22_2) =>
      br (r22_1 == 0)
        (k25 (TWrite.mk x21_1 ByteArray.empty true) r22_2)
        (k25 (TWrite.mk x21_1 r21_4 false) r22_2))
      (some (l18_3, l18_4))
noncomputable def diwanplay_Picks_Txn.lp18_post (l18_0 : List ByteArray) (l18_2 : TTxn) (r_ : (TTxn × TPicks)) : Wy → St → Prop := fun e τ => match r_ with
  | (y0, y1) => e = .exit 2 ∧ τ = ofL [(.t 4, [.ptr 4 0]), (.t 5, [.ptr 5 0]), (.o 4, (TTxn.ob_0011 l18_2)), (.o 5, (TTxn.ob_0011 y0)), (.o 1000, [.data (.slc false none 1 (List.map e_u8 y1.l)), iv y1.n])]
theorem diwanplay_Picks_Txn.lp18_ok (fu : Nat) (l18_0 : List ByteArray) (l18_2 : TTxn) : ∀ (n_ : Nat) (l18_1 : Int) (l18_3 : TTxn) (l18_4 : TPicks) (r_ : (TTxn × TPicks)), diwanplay_Picks_Txn.lp18 fu l18_0 l18_2 n_ l18_1 l18_3 l18_4 = some r_ → WK Try.prog diwanplay_Picks_Txn.O (Ck Try.prog) (cB (cR (cL (cR (cR (cR (cR (cR bd11)))))))) [] (ofL [(.t 0, [.ptr 1000 0]), (.t 4, [.ptr 4 0]), (.t 5, [.ptr 5 0]), (.t 9, [.data (.slc true none 1 (List.map e_s l18_0))]), (.t 10, [iv l18_1]), (.o 4, (TTxn.ob_0011 l18_2)), (.o 5, (TTxn.ob_0011 l18_3)), (.o 1000, [.data (.slc false none 1 (List.map e_u8 l18_4.l)), iv l18_4.n])]) (diwanplay_Picks_Txn.lp18_post l18_0 l18_2 r_) := by
  intro n_
  induction n_ with
  | zero => intro l18_1 l18_3 l18_4 r_ h; exact no_none h
  | succ n_ ih =>
    intro l18_1 l18_3 l18_4 r_ h
    refine WK.loop (by kernel_rfl) ?_
    refine WK.seq (by kernel_rfl) ?_
    refine WK.rs (g := [.s (.t 58) [iv (l18_0.length : Int)]]) (l' := [(.t 0, [.ptr 1000 0]), (.t 4, [.ptr 4 0]), (.t 5, [.ptr 5 0]), (.t 9, [.data (.slc true none 1 (List.map e_s l18_0))]), (.t 10, [iv l18_1]), (.t 59, [bv (decide (l18_1 < (l18_0.length : Int)))]), (.o 4, (TTxn.ob_0011 l18_2)), (.o 5, (TTxn.ob_0011 l18_3)), (.o 1000, [.data (.slc false none 1 (List.map e_u8 l18_4.l)), iv l18_4.n])]) (by kernel_rfl) (.cons (c_len (e := e_s) (l := l18_0)) .nil) (by kernel_rfl) ?_
    rcases br_inv h with ⟨b20_0, h⟩ | ⟨b20_0, h⟩
    · refine WK.ct (b := (decide (l18_1 < (l18_0.length : Int)))) (by kernel_rfl) b20_0 ?_
      refine WK.skip (by kernel_rfl) ?_
      refine WKe.code (y := (cR (cB (cB (cR (cL (cR (cR (cR (cR (cR bd11))))))))))) (ks' := [.lp (cB (cR (cL (cR (cR (cR (cR (cR bd11))))))))]) (by kernel_rfl) ?_
      refine WK.seq (by kernel_rfl) ?_
      refine WK.block (n := 3) (by kernel_rfl) ?_
      obtain ⟨x21_1, a21_2, e21_3, h⟩ := ix_inv h
      obtain ⟨⟨r21_4, r21_5⟩, h21_6, h⟩ := bd_inv h
      refine WK.rs (g := [.c (e_s x21_1), .a ⟨sv r21_4, [[.data (.slc false none 1 (List.map e_u8 r21_5.l)), iv r21_5.n]]⟩]) (l' := [(.t 0, [.ptr 1000 0]), (.t 4, [.ptr 4 0]), (.t 5, [.ptr 5 0]), (.t 9, [.data (.slc true none 1 (List.map e_s l18_0))]), (.t 10, [iv l18_1]), (.t 11, [.ptr 11 0]), (.o 4, (TTxn.ob_0011 l18_2)), (.o 5, (TTxn.ob_0011 l18_3)), (.o 11, (TWrite.ob (TWrite.mk x21_1 r21_4 false))), (.o 1000, [.data (.slc false none 1 (List.map e_u8 r21_5.l)), iv r21_5.n])]) (by kernel_rfl) (.cons (c_ix (e := e_s) a21_2 e21_3) (.cons (c_el (e := e_s) e21_3) (.cons (Asks.of (C := Meets Try.prog) (diwanplay_Picks_Val.meets l18_4 _ _ h21_6)) (.cons (Eq.refl true) .nil)))) (by kernel_rfl) ?_
      obtain ⟨k25, hk25, h⟩ := jn_inv h
      have Jk25 : ∀ (j25_4 : TWrite) (j25_5 : TPicks), k25 j25_4 j25_5 = some r_ → WK Try.prog diwanplay_Picks_Txn.O (Ck Try.prog) (cR (cR (cB (cL (cR (cB (cB (cR (cL (cR (cR (cR (cR (cR bd11)))))))))))))) [.blk 3, .seq (cR (cR (cB (cB (cR (cL (cR (cR (cR (cR (cR bd11))))))))))), .lp (cB (cR (cL (cR (cR (cR (cR (cR bd11))))))))] (ofL [(.t 0, [.ptr 1000 0]), (.t 4, [.ptr 4 0]), (.t 5, [.ptr 5 0]), (.t 9, [.data (.slc true none 1 (List.map e_s l18_0))]), (.t 10, [iv l18_1]), (.t 11, [.ptr 11 0]), (.o 4, (TTxn.ob_0011 l18_2)), (.o 5, (TTxn.ob_0011 l18_3)), (.o 11, (TWrite.ob j25_4)), (.o 1000, [.data (.slc false none 1 (List.map e_u8 j25_5.l)), iv j25_5.n])]) (diwanplay_Picks_Txn.lp18_post l18_0 l18_2 r_) := by
        intro j25_4 j25_5 h
        rw [hk25] at h
        obtain ⟨c26_1, h⟩ := gd_inv h
        refine WK.rc (g := [.s (.t 78) [.data (.slc true none 3 (List.map TWrite.en (l18_3.Writes ++ ([j25_4] : List TWrite))))]]) (l' := [(.t 0, [.ptr 1000 0]), (.t 4, [.ptr 4 0]), (.t 5, [.ptr 5 0]), (.t 9, [.data (.slc true none 1 (List.map e_s l18_0))]), (.t 10, [iv l18_1]), (.o 4, (TTxn.ob_0011 l18_2)), (.o 5, (TTxn.ob_0011 (TTxn.mk l18_3.Session l18_3.Seq l18_3.Reads (l18_3.Writes ++ ([j25_4] : List TWrite))))), (.o 1000, [.data (.slc false none 1 (List.map e_u8 j25_5.l)), iv j25_5.n])]) (.cons (c_al (e := TWrite.en) (f := TWrite.en) c26_1) (.cons (congrArg (fun d : DV => [AV.data d]) (c_app (e := TWrite.en) (s := 3) (l := l18_3.Writes) (m := ([j25_4] : List TWrite)))) .nil)) (by kernel_rfl) (y := (cR (cR (cB (cB (cR (cL (cR (cR (cR (cR (cR bd11)))))))))))) (ks' := [.lp (cB (cR (cL (cR (cR (cR (cR (cR bd11))))))))]) (by kernel_rfl) ?_
        refine WK.rc (g := []) (l' := [(.t 0, [.ptr 1000 0]), (.t 4, [.ptr 4 0]), (.t 5, [.ptr 5 0]), (.t 9, [.data (.slc true none 1 (List.map e_s l18_0))]), (.t 10, [iv (w64 (l18_1 + 1))]), (.o 4, (TTxn.ob_0011 l18_2)), (.o 5, (TTxn.ob_0011 (TTxn.mk l18_3.Session l18_3.Seq l18_3.Reads (l18_3.Writes ++ ([j25_4] : List TWrite))))), (.o 1000, [.data (.slc false none 1 (List.map e_u8 j25_5.l)), iv j25_5.n])]) .nil (by kernel_rfl) (y := (cB (cR (cL (cR (cR (cR (cR (cR bd11))))))))) (ks' := []) (by kernel_rfl) ?_
        exact WK.weak (l := [(.t 0, [.ptr 1000 0]), (.t 4, [.ptr 4 0]), (.t 5, [.ptr 5 0]), (.t 9, [.data (.slc true none 1 (List.map e_s l18_0))]), (.t 10, [iv (w64 (l18_1 + 1))]), (.o 4, (TTxn.ob_0011 l18_2)), (.o 5, (TTxn.ob_0011 (TTxn.mk l18_3.Session l18_3.Seq l18_3.Reads (l18_3.Writes ++ ([j25_4] : List TWrite))))), (.o 1000, [.data (.slc false none 1 (List.map e_u8 j25_5.l)), iv j25_5.n])]) (wk_of (by kernel_rfl)) (ih (w64 (l18_1 + 1)) (TTxn.mk l18_3.Session l18_3.Seq l18_3.Reads (l18_3.Writes ++ ([j25_4] : List TWrite))) j25_5 _ h)
      clear hk25
      refine WK.seq (by kernel_rfl) ?_
      obtain ⟨⟨r22_1, r22_2⟩, h22_3, h⟩ := bd_inv h
      refine WK.rs (g := [.a ⟨iv r22_1, [[.data (.slc false none 1 (List.map e_u8 r22_2.l)), iv r22_2.n]]⟩]) (l' := [(.t 0, [.ptr 1000 0]), (.t 4, [.ptr 4 0]), (.t 5, [.ptr 5 0]), (.t 9, [.data (.slc true none 1 (List.map e_s l18_0))]), (.t 10, [iv l18_1]), (.t 11, [.ptr 11 0]), (.t 71, [bv (r22_1 == 0)]), (.o 4, (TTxn.ob_0011 l18_2)), (.o 5, (TTxn.ob_0011 l18_3)), (.o 11, (TWrite.ob (TWrite.mk x21_1 r21_4 false))), (.o 1000, [.data (.slc false none 1 (List.map e_u8 r22_2.l)), iv r22_2.n])]) (by kernel_rfl) (.cons (Asks.of (C := Meets Try.prog) (diwanplay_Picks_Num.meets 4 r21_5 _ _ h22_3)) .nil) (by kernel_rfl) ?_
      rcases br_inv h with ⟨b23_0, h⟩ | ⟨b23_0, h⟩
      · refine WK.ct (b := (r22_1 == 0)) (by kernel_rfl) b23_0 ?_
        refine WK.rc (g := []) (l' := [(.t 0, [.ptr 1000 0]), (.t 4, [.ptr 4 0]), (.t 5, [.ptr 5 0]), (.t 9, [.data (.slc true none 1 (List.map e_s l18_0))]), (.t 10, [iv l18_1]), (.t 11, [.ptr 11 0]), (.o 4, (TTxn.ob_0011 l18_2)), (.o 5, (TTxn.ob_0011 l18_3)), (.o 11, (TWrite.ob (TWrite.mk x21_1 ByteArray.empty true))), (.o 1000, [.data (.slc false none 1 (List.map e_u8 r22_2.l)), iv r22_2.n])]) .nil (by kernel_rfl) (y := (cR (cR (cB (cL (cR (cB (cB (cR (cL (cR (cR (cR (cR (cR bd11))))))))))))))) (ks' := [.blk 3, .seq (cR (cR (cB (cB (cR (cL (cR (cR (cR (cR (cR bd11))))))))))), .lp (cB (cR (cL (cR (cR (cR (cR (cR bd11))))))))]) (by kernel_rfl) ?_
        exact WK.weak (l := [(.t 0, [.ptr 1000 0]), (.t 4, [.ptr 4 0]), (.t 5, [.ptr 5 0]), (.t 9, [.data (.slc true none 1 (List.map e_s l18_0))]), (.t 10, [iv l18_1]), (.t 11, [.ptr 11 0]), (.o 4, (TTxn.ob_0011 l18_2)), (.o 5, (TTxn.ob_0011 l18_3)), (.o 11, (TWrite.ob (TWrite.mk x21_1 ByteArray.empty true))), (.o 1000, [.data (.slc false none 1 (List.map e_u8 r22_2.l)), iv r22_2.n])]) (wk_of (by kernel_rfl)) (Jk25 (TWrite.mk x21_1 ByteArray.empty true) r22_2 h)
      · refine WK.ce (b := (r22_1 == 0)) (by kernel_rfl) b23_0 ?_
        refine WK.skip (by kernel_rfl) ?_
        refine WKe.code (y := (cR (cR (cB (cL (cR (cB (cB (cR (cL (cR (cR (cR (cR (cR bd11))))))))))))))) (ks' := [.blk 3, .seq (cR (cR (cB (cB (cR (cL (cR (cR (cR (cR (cR bd11))))))))))), .lp (cB (cR (cL (cR (cR (cR (cR (cR bd11))))))))]) (by kernel_rfl) ?_
        exact WK.weak (l := [(.t 0, [.ptr 1000 0]), (.t 4, [.ptr 4 0]), (.t 5, [.ptr 5 0]), (.t 9, [.data (.slc true none 1 (List.map e_s l18_0))]), (.t 10, [iv l18_1]), (.t 11, [.ptr 11 0]), (.o 4, (TTxn.ob_0011 l18_2)), (.o 5, (TTxn.ob_0011 l18_3)), (.o 11, (TWrite.ob (TWrite.mk x21_1 r21_4 false))), (.o 1000, [.data (.slc false none 1 (List.map e_u8 r22_2.l)), iv r22_2.n])]) (wk_of (by kernel_rfl)) (Jk25 (TWrite.mk x21_1 r21_4 false) r22_2 h)
    · refine WK.ce (b := (decide (l18_1 < (l18_0.length : Int)))) (by kernel_rfl) b20_0 ?_
      refine WK.weak (l := [(.t 4, [.ptr 4 0]), (.t 5, [.ptr 5 0]), (.o 4, (TTxn.ob_0011 l18_2)), (.o 5, (TTxn.ob_0011 l18_3)), (.o 1000, [.data (.slc false none 1 (List.map e_u8 l18_4.l)), iv l18_4.n])]) (wk_of (by kernel_rfl)) ?_
      refine WK.exit (n := 2) (by kernel_rfl) ?_
      cases some_inj h
      exact WKe.fin (e' := .exit 2) (by kernel_rfl) ⟨rfl, rfl⟩
noncomputable def diwanplay_Picks_Txn (fu : Nat) (most : Int) (o0_v : TPicks) : Option (TTxn × TPicks) :=
  bd (diwanplay_Picks_Num 3 o0_v) fun (r2_1, r2_2) =>
  bd (diwanplay_Picks_Num 6 r2_2) fun (r2_4, r2_5) =>
  bd (diwanplay_Picks_Keys fu 3 r2_5) fun (r3_1, r3_2) =>
  bd (diwanplay_Picks_Txn.lp5 fu most r3_1 (TTxn.mk 0 0 [] []) fu 0 (TTxn.mk (w64 (1 + r2_1)) (w64 (1 + r2_4)) [] []) r3_2) fun (y15_0, y15_1) =>
  bd (diwanplay_Picks_Keys fu 3 y15_1) fun (r16_1, r16_2) =>
  bd (diwanplay_Picks_Txn.lp18 fu r16_1 (TTxn.mk 0 0 [] []) fu 0 y15_0 r16_2) fun (y28_0, y28_1) =>
  some (y28_0, y28_1)
theorem diwanplay_Picks_Txn.meets (fu : Nat) (most : Int) (o0_v : TPicks) (z0 : TTxn) (z1 : TPicks) (h : diwanplay_Picks_Txn fu most o0_v = some (z0, z1)) : Meets Try.prog ⟨11, [.ptr 1000 0, iv most], [[.data (.slc false none 1 (List.map e_u8 o0_v.l)), iv o0_v.n]]⟩ ⟨.data (TTxn.ag_0011 z0), [[.data (.slc false none 1 (List.map e_u8 z1.l)), iv z1.n]]⟩ := by
  refine meets_of (O := diwanplay_Picks_Txn.O) hmix (fn := Try.f11) (code := bd11) (by kernel_rfl) ?_
  refine WK.weak (l := [(.t 0, [.ptr 1000 0]), (.t 1, [iv most]), (.o 1000, [.data (.slc false none 1 (List.map e_u8 o0_v.l)), iv o0_v.n])]) (wk_of (by kernel_rfl)) ?_
  unfold diwanplay_Picks_Txn at h
  refine WK.rs (g := []) (l' := [(.t 0, [.ptr 1000 0]), (.t 1, [iv most]), (.t 4, [.ptr 4 0]), (.o 4, (TTxn.ob_0011 (TTxn.mk 0 0 [] []))), (.o 1000, [.data (.slc false none 1 (List.map e_u8 o0_v.l)), iv o0_v.n])]) (by kernel_rfl) .nil (by kernel_rfl) ?_
  obtain ⟨⟨r2_1, r2_2⟩, h2_3, h⟩ := bd_inv h
  obtain ⟨⟨r2_4, r2_5⟩, h2_6, h⟩ := bd_inv h
  refine WK.rs (g := [.a ⟨iv r2_1, [[.data (.slc false none 1 (List.map e_u8 r2_2.l)), iv r2_2.n]]⟩, .a ⟨iv r2_4, [[.data (.slc false none 1 (List.map e_u8 r2_5.l)), iv r2_5.n]]⟩]) (l' := [(.t 0, [.ptr 1000 0]), (.t 1, [iv most]), (.t 4, [.ptr 4 0]), (.t 5, [.ptr 5 0]), (.o 4, (TTxn.ob_0011 (TTxn.mk 0 0 [] []))), (.o 5, (TTxn.ob_0011 (TTxn.mk (w64 (1 + r2_1)) (w64 (1 + r2_4)) [] []))), (.o 1000, [.data (.slc false none 1 (List.map e_u8 r2_5.l)), iv r2_5.n])]) (by kernel_rfl) (.cons (Asks.of (C := Meets Try.prog) (diwanplay_Picks_Num.meets 3 o0_v _ _ h2_3)) (.cons (Asks.of (C := Meets Try.prog) (diwanplay_Picks_Num.meets 6 r2_2 _ _ h2_6)) .nil)) (by kernel_rfl) ?_
  obtain ⟨⟨r3_1, r3_2⟩, h3_3, h⟩ := bd_inv h
  refine WK.rs (g := [.a ⟨.data (.slc true none 1 (List.map e_s r3_1)), [[.data (.slc false none 1 (List.map e_u8 r3_2.l)), iv r3_2.n]]⟩]) (l' := [(.t 0, [.ptr 1000 0]), (.t 1, [iv most]), (.t 4, [.ptr 4 0]), (.t 5, [.ptr 5 0]), (.t 6, [.data (.slc true none 1 (List.map e_s r3_1))]), (.o 4, (TTxn.ob_0011 (TTxn.mk 0 0 [] []))), (.o 5, (TTxn.ob_0011 (TTxn.mk (w64 (1 + r2_1)) (w64 (1 + r2_4)) [] []))), (.o 1000, [.data (.slc false none 1 (List.map e_u8 r3_2.l)), iv r3_2.n])]) (by kernel_rfl) (.cons (Asks.of (C := Meets Try.prog) (diwanplay_Picks_Keys.meets fu 3 r2_5 _ _ h3_3)) .nil) (by kernel_rfl) ?_
  refine WK.seq (by kernel_rfl) ?_
  refine WK.rs (g := []) (l' := [(.t 0, [.ptr 1000 0]), (.t 1, [iv most]), (.t 4, [.ptr 4 0]), (.t 5, [.ptr 5 0]), (.t 6, [.data (.slc true none 1 (List.map e_s r3_1))]), (.t 7, [iv 0]), (.o 4, (TTxn.ob_0011 (TTxn.mk 0 0 [] []))), (.o 5, (TTxn.ob_0011 (TTxn.mk (w64 (1 + r2_1)) (w64 (1 + r2_4)) [] []))), (.o 1000, [.data (.slc false none 1 (List.map e_u8 r3_2.l)), iv r3_2.n])]) (by kernel_rfl) .nil (by kernel_rfl) ?_
  refine WK.block (n := 0) (by kernel_rfl) ?_
  obtain ⟨o15, ho15, h⟩ := bd_inv h
  refine WK.weak (l := [(.t 0, [.ptr 1000 0]), (.t 1, [iv most]), (.t 4, [.ptr 4 0]), (.t 5, [.ptr 5 0]), (.t 6, [.data (.slc true none 1 (List.map e_s r3_1))]), (.t 7, [iv 0]), (.o 4, (TTxn.ob_0011 (TTxn.mk 0 0 [] []))), (.o 5, (TTxn.ob_0011 (TTxn.mk (w64 (1 + r2_1)) (w64 (1 + r2_4)) [] []))), (.o 1000, [.data (.slc false none 1 (List.map e_u8 r3_2.l)), iv r3_2.n])]) (wk_of (by kernel_rfl)) ?_
  refine WK.use (diwanplay_Picks_Txn.lp5_ok fu most r3_1 (TTxn.mk 0 0 [] []) _ 0 (TTxn.mk (w64 (1 + r2_1)) (w64 (1 + r2_4)) [] []) r3_2 _ ho15) ?_
  intro e_ τ_ hp_
  obtain ⟨y15_0, y15_1⟩ := o15
  obtain ⟨rfl, rfl⟩ := hp_
  refine WKe.code (y := (cR (cR (cR (cR bd11))))) (ks' := []) (by kernel_rfl) ?_
  obtain ⟨⟨r16_1, r16_2⟩, h16_3, h⟩ := bd_inv h
  refine WK.rs (g := [.a ⟨.data (.slc true none 1 (List.map e_s r16_1)), [[.data (.slc false none 1 (List.map e_u8 r16_2.l)), iv r16_2.n]]⟩]) (l' := [(.t 0, [.ptr 1000 0]), (.t 4, [.ptr 4 0]), (.t 5, [.ptr 5 0]), (.t 9, [.data (.slc true none 1 (List.map e_s r16_1))]), (.o 4, (TTxn.ob_0011 (TTxn.mk 0 0 [] []))), (.o 5, (TTxn.ob_0011 y15_0)), (.o 1000, [.data (.slc false none 1 (List.map e_u8 r16_2.l)), iv r16_2.n])]) (by kernel_rfl) (.cons (Asks.of (C := Meets Try.prog) (diwanplay_Picks_Keys.meets fu 3 y15_1 _ _ h16_3)) .nil) (by kernel_rfl) ?_
  refine WK.seq (by kernel_rfl) ?_
  refine WK.rs (g := []) (l' := [(.t 0, [.ptr 1000 0]), (.t 4, [.ptr 4 0]), (.t 5, [.ptr 5 0]), (.t 9, [.data (.slc true none 1 (List.map e_s r16_1))]), (.t 10, [iv 0]), (.o 4, (TTxn.ob_0011 (TTxn.mk 0 0 [] []))), (.o 5, (TTxn.ob_0011 y15_0)), (.o 1000, [.data (.slc false none 1 (List.map e_u8 r16_2.l)), iv r16_2.n])]) (by kernel_rfl) .nil (by kernel_rfl) ?_
  refine WK.block (n := 2) (by kernel_rfl) ?_
  obtain ⟨o28, ho28, h⟩ := bd_inv h
  refine WK.weak (l := [(.t 0, [.ptr 1000 0]), (.t 4, [.ptr 4 0]), (.t 5, [.ptr 5 0]), (.t 9, [.data (.slc true none 1 (List.map e_s r16_1))]), (.t 10, [iv 0]), (.o 4, (TTxn.ob_0011 (TTxn.mk 0 0 [] []))), (.o 5, (TTxn.ob_0011 y15_0)), (.o 1000, [.data (.slc false none 1 (List.map e_u8 r16_2.l)), iv r16_2.n])]) (wk_of (by kernel_rfl)) ?_
  refine WK.use (diwanplay_Picks_Txn.lp18_ok fu r16_1 (TTxn.mk 0 0 [] []) _ 0 y15_0 r16_2 _ ho28) ?_
  intro e_ τ_ hp_
  obtain ⟨y28_0, y28_1⟩ := o28
  obtain ⟨rfl, rfl⟩ := hp_
  refine WKe.code (y := (cR (cR (cR (cR (cR (cR bd11))))))) (ks' := []) (by kernel_rfl) ?_
  refine WK.rs (g := []) (l' := [(.t 4, [.ptr 4 0]), (.o 4, (TTxn.ob_0011 y28_0)), (.o 1000, [.data (.slc false none 1 (List.map e_u8 y28_1.l)), iv y28_1.n])]) (by kernel_rfl) .nil (by kernel_rfl) ?_
  refine WK.weak (l := [(.t 4, [.ptr 4 0]), (.o 4, (TTxn.ob_0011 y28_0)), (.o 1000, [.data (.slc false none 1 (List.map e_u8 y28_1.l)), iv y28_1.n])]) (wk_of (by kernel_rfl)) ?_
  refine WK.ret (by kernel_rfl) ?_
  have h_0 := some_inj h
  obtain ⟨g_1, h_1⟩ := Prod.mk.inj h_0
  subst g_1
  subst h_1
  exact WKe.fin (e' := .ret) (by kernel_rfl) (fin_of (g := []) (by first | exact .inl rfl | exact .inr rfl) .nil (by kernel_rfl))
/-- diwan/diwanref13.LastOf -/
noncomputable def bd39 : Code := (Try.f39.body).getD .skip
def diwanref13_LastOf.O : Nat → Nat := fun t => bif ([2] : List Nat).any (Nat.beq t) then 1 else 0
noncomputable def diwanref13_LastOf (l : List TVersion) : Option Int :=
  br ((l.length : Int) == 0)
    (some 0)
    (ix l (w64 ((l.length : Int) - 1)) fun x5_1 =>
    some x5_1.Pos)
theorem diwanref13_LastOf.meets (l : List TVersion) (z0 : Int) (h : diwanref13_LastOf l = some z0) : Meets Try.prog ⟨39, [.data (.slc false none 3 (List.map TVersion.en l))], []⟩ ⟨iv z0, []⟩ := by
  refine meets_of (O := diwanref13_LastOf.O) hmix (fn := Try.f39) (code := bd39) (by kernel_rfl) ?_
  refine WK.weak (l := [(.t 0, [.data (.slc false none 3 (List.map TVersion.en l))])]) (wk_of (by kernel_rfl)) ?_
  unfold diwanref13_LastOf at h
  refine WK.rs (g := []) (l' := [(.t 0, [.data (.slc false none 3 (List.map TVersion.en l))])]) (by kernel_rfl) .nil (by kernel_rfl) ?_
  refine WK.seq (by kernel_rfl) ?_
  refine WK.rs (g := [.s (.t 4) [iv (l.length : Int)]]) (l' := [(.t 0, [.data (.slc false none 3 (List.map TVersion.en l))]), (.t 5, [bv ((l.length : Int) == 0)])]) (by kernel_rfl) (.cons (c_len (e := TVersion.en) (l := l)) .nil) (by kernel_rfl) ?_
  rcases br_inv h with ⟨b3_0, h⟩ | ⟨b3_0, h⟩
  · refine WK.ct (b := ((l.length : Int) == 0)) (by kernel_rfl) b3_0 ?_
    refine WK.rs (g := []) (l' := [(.t 2, [iv 0])]) (by kernel_rfl) .nil (by kernel_rfl) ?_
    refine WK.weak (l := [(.t 2, [iv 0])]) (wk_of (by kernel_rfl)) ?_
    refine WK.ret (by kernel_rfl) ?_
    have h_ := some_inj h
    subst h_
    exact WKe.fin (e' := .ret) (by kernel_rfl) (fin_of (g := []) (by first | exact .inl rfl | exact .inr rfl) .nil (by kernel_rfl))
  · refine WK.ce (b := ((l.length : Int) == 0)) (by kernel_rfl) b3_0 ?_
    refine WK.skip (by kernel_rfl) ?_
    refine WKe.code (y := (cR (cR bd39))) (ks' := []) (by kernel_rfl) ?_
    obtain ⟨x5_1, a5_2, e5_3, h⟩ := ix_inv h
    refine WK.rs (g := [.s (.t 8) [iv (l.length : Int)], .c (TVersion.en x5_1)]) (l' := [(.t 2, [iv x5_1.Pos])]) (by kernel_rfl) (.cons (c_len (e := TVersion.en) (l := l)) (.cons (c_ix (e := TVersion.en) a5_2 e5_3) (.cons (c_el (e := TVersion.en) e5_3) .nil))) (by kernel_rfl) ?_
    refine WK.weak (l := [(.t 2, [iv x5_1.Pos])]) (wk_of (by kernel_rfl)) ?_
    refine WK.ret (by kernel_rfl) ?_
    have h_ := some_inj h
    subst h_
    exact WKe.fin (e' := .ret) (by kernel_rfl) (fin_of (g := []) (by first | exact .inl rfl | exact .inr rfl) .nil (by kernel_rfl))
/-- diwan/diwanref13.Add -/
noncomputable def bd50 : Code := (Try.f50.body).getD .skip
def diwanref13_Add.O : Nat → Nat := fun t => bif ([3, 4, 5, 6, 17] : List Nat).any (Nat.beq t) then 1 else 0
noncomputable def diwanref13_Add (l : List TVersion) (v : TVersion) : Option (List TVersion) :=
  gd (decide (([] : List TVersion).length + l.length ≤ 4294967296)) <|
  bd (diwanref13_LastOf l) fun r3_1 =>
  br (decide (v.Pos ≤ r3_1))
    (some l)
    (gd (decide (l.length + ([v] : List TVersion).length ≤ 4294967296)) <|
    some (l ++ ([v] : List TVersion)))
theorem diwanref13_Add.meets (l : List TVersion) (v : TVersion) (z0 : List TVersion) (h : diwanref13_Add l v = some z0) : Meets Try.prog ⟨50, [.data (.slc false none 3 (List.map TVersion.en l)), .data (TVersion.ag v)], []⟩ ⟨.data (.slc true none 3 (List.map TVersion.en z0)), []⟩ := by
  refine meets_of (O := diwanref13_Add.O) hmix (fn := Try.f50) (code := bd50) (by kernel_rfl) ?_
  refine WK.weak (l := [(.t 0, [.data (.slc false none 3 (List.map TVersion.en l))]), (.t 1, [.data (TVersion.ag v)])]) (wk_of (by kernel_rfl)) ?_
  unfold diwanref13_Add at h
  refine WK.rs (g := []) (l' := [(.t 0, [.data (.slc false none 3 (List.map TVersion.en l))]), (.t 3, [.ptr 3 0]), (.o 3, (TVersion.ob v))]) (by kernel_rfl) .nil (by kernel_rfl) ?_
  obtain ⟨c2_1, h⟩ := gd_inv h
  refine WK.rs (g := []) (l' := [(.t 0, [.data (.slc false none 3 (List.map TVersion.en l))]), (.t 3, [.ptr 3 0]), (.t 5, [.data (.slc true none 3 (List.map TVersion.en l))]), (.o 3, (TVersion.ob v))]) (by kernel_rfl) (.cons (c_al (e := TVersion.en) (f := TVersion.en) c2_1) .nil) (by kernel_rfl) ?_
  refine WK.seq (by kernel_rfl) ?_
  obtain ⟨r3_1, h3_2, h⟩ := bd_inv h
  refine WK.rs (g := [.a ⟨iv r3_1, []⟩]) (l' := [(.t 3, [.ptr 3 0]), (.t 5, [.data (.slc true none 3 (List.map TVersion.en l))]), (.t 13, [bv (decide (v.Pos ≤ r3_1))]), (.o 3, (TVersion.ob v))]) (by kernel_rfl) (.cons (Asks.of (C := Meets Try.prog) (diwanref13_LastOf.meets l _ h3_2)) (.cons (Eq.refl true) .nil)) (by kernel_rfl) ?_
  rcases br_inv h with ⟨b4_0, h⟩ | ⟨b4_0, h⟩
  · refine WK.ct (b := (decide (v.Pos ≤ r3_1))) (by kernel_rfl) b4_0 ?_
    refine WK.rs (g := []) (l' := [(.t 4, [.data (.slc true none 3 (List.map TVersion.en l))])]) (by kernel_rfl) .nil (by kernel_rfl) ?_
    refine WK.weak (l := [(.t 4, [.data (.slc true none 3 (List.map TVersion.en l))])]) (wk_of (by kernel_rfl)) ?_
    refine WK.ret (by kernel_rfl) ?_
    have h_ := some_inj h
    subst h_
    exact WKe.fin (e' := .ret) (by kernel_rfl) (fin_of (g := []) (by first | exact .inl rfl | exact .inr rfl) .nil (by kernel_rfl))
  · refine WK.ce (b := (decide (v.Pos ≤ r3_1))) (by kernel_rfl) b4_0 ?_
    refine WK.skip (by kernel_rfl) ?_
    refine WKe.code (y := (cR (cR (cR bd50)))) (ks' := []) (by kernel_rfl) ?_
    obtain ⟨c6_1, h⟩ := gd_inv h
    refine WK.rs (g := [.s (.t 18) [.data (.slc true none 3 (List.map TVersion.en (l ++ ([v] : List TVersion))))]]) (l' := [(.t 4, [.data (.slc true none 3 (List.map TVersion.en (l ++ ([v] : List TVersion))))])]) (by kernel_rfl) (.cons (c_al (e := TVersion.en) (f := TVersion.en) c6_1) (.cons (congrArg (fun d : DV => [AV.data d]) (c_app (e := TVersion.en) (s := 3) (l := l) (m := ([v] : List TVersion)))) .nil)) (by kernel_rfl) ?_
    refine WK.weak (l := [(.t 4, [.data (.slc true none 3 (List.map TVersion.en (l ++ ([v] : List TVersion))))])]) (wk_of (by kernel_rfl)) ?_
    refine WK.ret (by kernel_rfl) ?_
    have h_ := some_inj h
    subst h_
    exact WKe.fin (e' := .ret) (by kernel_rfl) (fin_of (g := []) (by first | exact .inl rfl | exact .inr rfl) .nil (by kernel_rfl))
/-- diwan/diwanref13.Write -/
noncomputable def bd24 : Code := (Try.f24.body).getD .skip
def diwanref13_Write.O : Nat → Nat := fun t => bif ([3, 6, 7, 8, 9, 10, 13, 17, 64, 72, 73, 79, 95, 99] : List Nat).any (Nat.beq t) then 1 else bif ([96] : List Nat).any (Nat.beq t) then 2 else 0
noncomputable def diwanref13_Write.lp9 (fu : Nat) (l9_0 : Int) (l9_1 : List TWrite) (l9_2 : Int) (l9_4 : TStore) (l9_5 : TStore) (l9_6 : TWrite) : Nat → Int → Option Int
  | 0, _ => none
  | n_ + 1, l9_3 =>
    br (decide (l9_3 < (l9_5.Chains.length : Int)))
      (ix l9_5.Chains l9_3 fun x10_2 =>
      br (Op.bytesLess x10_2.Key.toList l9_6.Key.toList)
        (diwanref13_Write.lp9 fu l9_0 l9_1 l9_2 l9_4 l9_5 l9_6 n_ (w64 (l9_3 + 1)))
        (some l9_3))
      (some l9_3)
noncomputable def diwanref13_Write.lp9_post (l9_0 : Int) (l9_1 : List TWrite) (l9_2 : Int) (l9_4 : TStore) (l9_5 : TStore) (l9_6 : TWrite) (r_ : Int) : Wy → St → Prop := fun e τ => match r_ with
  | y0 => e = .exit 2 ∧ τ = ofL [(.t 1, [iv l9_0]), (.t 2, [.data (.slc false none 3 (List.map TWrite.en l9_1))]), (.t 6, [.ptr 6 0]), (.t 7, [.ptr 7 0]), (.t 8, [iv l9_2]), (.t 9, [.ptr 9 0]), (.t 10, [iv y0]), (.o 6, [.data (.slc true none 2 (List.map TChain.en l9_4.Chains)), iv l9_4.Mark]), (.o 7, [.data (.slc true none 2 (List.map TChain.en l9_5.Chains)), iv l9_5.Mark]), (.o 9, (TWrite.ob l9_6))]
theorem diwanref13_Write.lp9_ok (fu : Nat) (l9_0 : Int) (l9_1 : List TWrite) (l9_2 : Int) (l9_4 : TStore) (l9_5 : TStore) (l9_6 : TWrite) : ∀ (n_ : Nat) (l9_3 : Int) (r_ : Int), diwanref13_Write.lp9 fu l9_0 l9_1 l9_2 l9_4 l9_5 l9_6 n_ l9_3 = some r_ → WK Try.prog diwanref13_Write.O (Ck Try.prog) (cB (cL (cR (cR (cB (cL (cR (cB (cB (cR (cL (cR (cR bd24))))))))))))) [] (ofL [(.t 1, [iv l9_0]), (.t 2, [.data (.slc false none 3 (List.map TWrite.en l9_1))]), (.t 6, [.ptr 6 0]), (.t 7, [.ptr 7 0]), (.t 8, [iv l9_2]), (.t 9, [.ptr 9 0]), (.t 10, [iv l9_3]), (.o 6, [.data (.slc true none 2 (List.map TChain.en l9_4.Chains)), iv l9_4.Mark]), (.o 7, [.data (.slc true none 2 (List.map TChain.en l9_5.Chains)), iv l9_5.Mark]), (.o 9, (TWrite.ob l9_6))]) (diwanref13_Write.lp9_post l9_0 l9_1 l9_2 l9_4 l9_5 l9_6 r_) := by
  intro n_
  induction n_ with
  | zero => intro l9_3 r_ h; exact no_none h
  | succ n_ ih =>
    intro l9_3 r_ h
    refine WK.loop (by kernel_rfl) ?_
    refine WK.seq (by kernel_rfl) ?_
    rcases br_inv h with ⟨b10_1, h⟩ | ⟨b10_1, h⟩
    · obtain ⟨x10_2, a10_3, e10_4, h⟩ := ix_inv h
      refine WK.rs (g := [.s (.t 31) [iv (l9_5.Chains.length : Int)], .b true, .b true, .b true, .b true, .b true, .b true, .c (TChain.en x10_2), .b true, .b true, .b true, .b true]) (l' := [(.t 1, [iv l9_0]), (.t 2, [.data (.slc false none 3 (List.map TWrite.en l9_1))]), (.t 6, [.ptr 6 0]), (.t 7, [.ptr 7 0]), (.t 8, [iv l9_2]), (.t 9, [.ptr 9 0]), (.t 10, [iv l9_3]), (.t 43, [bv (Op.bytesLess x10_2.Key.toList l9_6.Key.toList)]), (.o 6, [.data (.slc true none 2 (List.map TChain.en l9_4.Chains)), iv l9_4.Mark]), (.o 7, [.data (.slc true none 2 (List.map TChain.en l9_5.Chains)), iv l9_5.Mark]), (.o 9, (TWrite.ob l9_6))]) (by kernel_rfl) (.cons (c_len (e := TChain.en) (l := l9_5.Chains)) (.cons b10_1 (.cons b10_1 (.cons b10_1 (.cons b10_1 (.cons (c_ix (e := TChain.en) a10_3 e10_4) (.cons b10_1 (.cons b10_1 (.cons (c_el (e := TChain.en) e10_4) (.cons b10_1 (.cons b10_1 (.cons b10_1 (.cons b10_1 (.cons (Eq.refl true) .nil)))))))))))))) (by kernel_rfl) ?_
      rcases br_inv h with ⟨b11_0, h⟩ | ⟨b11_0, h⟩
      · refine WK.ct (b := (Op.bytesLess x10_2.Key.toList l9_6.Key.toList)) (by kernel_rfl) b11_0 ?_
        refine WK.skip (by kernel_rfl) ?_
        refine WKe.code (y := (cR (cB (cB (cL (cR (cR (cB (cL (cR (cB (cB (cR (cL (cR (cR bd24)))))))))))))))) (ks' := [.lp (cB (cL (cR (cR (cB (cL (cR (cB (cB (cR (cL (cR (cR bd24)))))))))))))]) (by kernel_rfl) ?_
        refine WK.block (n := 3) (by kernel_rfl) ?_
        refine WK.rc (g := []) (l' := [(.t 1, [iv l9_0]), (.t 2, [.data (.slc false none 3 (List.map TWrite.en l9_1))]), (.t 6, [.ptr 6 0]), (.t 7, [.ptr 7 0]), (.t 8, [iv l9_2]), (.t 9, [.ptr 9 0]), (.t 10, [iv (w64 (l9_3 + 1))]), (.o 6, [.data (.slc true none 2 (List.map TChain.en l9_4.Chains)), iv l9_4.Mark]), (.o 7, [.data (.slc true none 2 (List.map TChain.en l9_5.Chains)), iv l9_5.Mark]), (.o 9, (TWrite.ob l9_6))]) .nil (by kernel_rfl) (y := (cB (cL (cR (cR (cB (cL (cR (cB (cB (cR (cL (cR (cR bd24)))))))))))))) (ks' := []) (by kernel_rfl) ?_
        exact WK.weak (l := [(.t 1, [iv l9_0]), (.t 2, [.data (.slc false none 3 (List.map TWrite.en l9_1))]), (.t 6, [.ptr 6 0]), (.t 7, [.ptr 7 0]), (.t 8, [iv l9_2]), (.t 9, [.ptr 9 0]), (.t 10, [iv (w64 (l9_3 + 1))]), (.o 6, [.data (.slc true none 2 (List.map TChain.en l9_4.Chains)), iv l9_4.Mark]), (.o 7, [.data (.slc true none 2 (List.map TChain.en l9_5.Chains)), iv l9_5.Mark]), (.o 9, (TWrite.ob l9_6))]) (wk_of (by kernel_rfl)) (ih (w64 (l9_3 + 1)) _ h)
      · refine WK.ce (b := (Op.bytesLess x10_2.Key.toList l9_6.Key.toList)) (by kernel_rfl) b11_0 ?_
        refine WK.weak (l := [(.t 1, [iv l9_0]), (.t 2, [.data (.slc false none 3 (List.map TWrite.en l9_1))]), (.t 6, [.ptr 6 0]), (.t 7, [.ptr 7 0]), (.t 8, [iv l9_2]), (.t 9, [.ptr 9 0]), (.t 10, [iv l9_3]), (.o 6, [.data (.slc true none 2 (List.map TChain.en l9_4.Chains)), iv l9_4.Mark]), (.o 7, [.data (.slc true none 2 (List.map TChain.en l9_5.Chains)), iv l9_5.Mark]), (.o 9, (TWrite.ob l9_6))]) (wk_of (by kernel_rfl)) ?_
        refine WK.exit (n := 2) (by kernel_rfl) ?_
        cases some_inj h
        exact WKe.fin (e' := .exit 2) (by kernel_rfl) ⟨rfl, rfl⟩
    · refine WK.rs (g := [.s (.t 31) [iv (l9_5.Chains.length : Int)], .b false, .b false, .b false, .b false, .b false, .b false, .b false, .b false, .b false, .b false]) (l' := [(.t 1, [iv l9_0]), (.t 2, [.data (.slc false none 3 (List.map TWrite.en l9_1))]), (.t 6, [.ptr 6 0]), (.t 7, [.ptr 7 0]), (.t 8, [iv l9_2]), (.t 9, [.ptr 9 0]), (.t 10, [iv l9_3]), (.t 43, [bv false]), (.o 6, [.data (.slc true none 2 (List.map TChain.en l9_4.Chains)), iv l9_4.Mark]), (.o 7, [.data (.slc true none 2 (List.map TChain.en l9_5.Chains)), iv l9_5.Mark]), (.o 9, (TWrite.ob l9_6))]) (by kernel_rfl) (.cons (c_len (e := TChain.en) (l := l9_5.Chains)) (.cons b10_1 (.cons b10_1 (.cons b10_1 (.cons b10_1 (.cons b10_1 (.cons b10_1 (.cons b10_1 (.cons b10_1 (.cons b10_1 (.cons b10_1 (.cons (Eq.refl true) .nil)))))))))))) (by kernel_rfl) ?_
      refine WK.ce (b := false) (by kernel_rfl) rfl ?_
      refine WK.weak (l := [(.t 1, [iv l9_0]), (.t 2, [.data (.slc false none 3 (List.map TWrite.en l9_1))]), (.t 6, [.ptr 6 0]), (.t 7, [.ptr 7 0]), (.t 8, [iv l9_2]), (.t 9, [.ptr 9 0]), (.t 10, [iv l9_3]), (.o 6, [.data (.slc true none 2 (List.map TChain.en l9_4.Chains)), iv l9_4.Mark]), (.o 7, [.data (.slc true none 2 (List.map TChain.en l9_5.Chains)), iv l9_5.Mark]), (.o 9, (TWrite.ob l9_6))]) (wk_of (by kernel_rfl)) ?_
      refine WK.exit (n := 2) (by kernel_rfl) ?_
      cases some_inj h
      exact WKe.fin (e' := .exit 2) (by kernel_rfl) ⟨rfl, rfl⟩
noncomputable def diwanref13_Write.lp4 (fu : Nat) (l4_0 : Int) (l4_1 : List TWrite) (l4_3 : TStore) : Nat → Int → TStore → Option TStore
  | 0, _, _ => none
  | n_ + 1, l4_2, l4_4 =>
    br (decide (l4_2 < (l4_1.length : Int)))
      (ix l4_1 l4_2 fun x7_1 =>
      bd (diwanref13_Write.lp9 fu l4_0 l4_1 l4_2 l4_3 l4_4 x7_1 fu 0) fun y13_0 =>
      jn (fun (j24_5 : TStore) =>
        ix j24_5.Chains y13_0 fun x25_1 =>
        bd (diwanref13_Add x25_1.L (TVersion.mk l4_0 x7_1.Val x7_1.Gone)) fun r25_4 =>
        ix j24_5.Chains y13_0 fun x25_6 =>
        diwanref13_Write.lp4 fu l4_0 l4_1 l4_3 n_ (w64 (l4_2 + 1)) (TStore.mk (j24_5.Chains.set y13_0.toNat (TChain.mk x25_6.Key r25_4)) j24_5.Mark)) fun k24 =>
      br (y13_0 == (l4_4.Chains.length : Int))
        (br (decide (l4_0 < 1))
          (diwanref13_Write.lp4 fu l4_0 l4_1 l4_3 n_ (w64 (l4_2 + 1)) l4_4)
          (gd (decide ((0 : Int) ≤ y13_0 ∧ y13_0 ≤ (l4_4.Chains.length : Int))) <|
          gd (decide (([] : List TChain).length + (List.take y13_0.toNat l4_4.Chains).length ≤ 4294967296)) <|
          gd (decide ((List.take y13_0.toNat l4_4.Chains).length + ([(TChain.mk x7_1.Key [])] : List TChain).length ≤ 4294967296)) <|
          gd (decide ((0 : Int) ≤ y13_0 ∧ y13_0 ≤ (l4_4.Chains.length : Int))) <|
          gd (decide (((List.take y13_0.toNat l4_4.Chains) ++ ([(TChain.mk x7_1.Key [])] : List TChain)).length + (List.drop y13_0.toNat l4_4.Chains).length ≤ 4294967296)) <|
          k24 (TStore.mk (((List.take y13_0.toNat l4_4.Chains) ++ ([(TChain.mk x7_1.Key [])] : List TChain)) ++ (List.drop y13_0.toNat l4_4.Chains)) l4_4.Mark)))
        (ix l4_4.Chains y13_0 fun x14_2 =>
        br (!(x14_2.Key.toList == x7_1.Key.toList))
          (br (decide (l4_0 < 1))
            (diwanref13_Write.lp4 fu l4_0 l4_1 l4_3 n_ (w64 (l4_2 + 1)) l4_4)
            (gd (decide ((0 : Int) ≤ y13_0 ∧ y13_0 ≤ (l4_4.Chains.length : Int))) <|
            gd (decide (([] : List TChain).length + (List.take y13_0.toNat l4_4.Chains).length ≤ 4294967296)) <|
            gd (decide ((List.take y13_0.toNat l4_4.Chains).length + ([(TChain.mk x7_1.Key [])] : List TChain).length ≤ 4294967296)) <|
            gd (decide ((0 : Int) ≤ y13_0 ∧ y13_0 ≤ (l4_4.Chains.length : Int))) <|
            gd (decide (((List.take y13_0.toNat l4_4.Chains) ++ ([(TChain.mk x7_1.Key [])] : List TChain)).length + (List.drop y13_0.toNat l4_4.Chains).length ≤ 4294967296)) <|
            k24 (TStore.mk (((List.take y13_0.toNat l4_4.Chains) ++ ([(TChain.mk x7_1.Key [])] : List TChain)) ++ (List.drop y13_0.toNat l4_4.Chains)) l4_4.Mark)))
          (k24 l4_4)))
      (some l4_4)
noncomputable def diwanref13_Write.lp4_post (l4_0 : Int) (l4_1 : List TWrite) (l4_3 : TStore) (r_ : TStore) : Wy → St → Prop := fun e τ => match r_ with
  | y0 => e = .exit 0 ∧ τ = ofL [(.t 6, [.ptr 6 0]), (.t 7, [.ptr 7 0]), (.o 6, [.data (.slc true none 2 (List.map TChain.en l4_3.Chains)), iv l4_3.Mark]), (.o 7, [.data (.slc true none 2 (List.map TChain.en y0.Chains)), iv y0.Mark])]
theorem diwanref13_Write.lp4_ok (fu : Nat) (l4_0 : Int) (l4_1 : List TWrite) (l4_3 : TStore) : ∀ (n_ : Nat) (l4_2 : Int) (l4_4 : TStore) (r_ : TStore), diwanref13_Write.lp4 fu l4_0 l4_1 l4_3 n_ l4_2 l4_4 = some r_ → WK Try.prog diwanref13_Write.O (Ck Try.prog) (cB (cR (cL (cR (cR bd24))))) [] (ofL [(.t 1, [iv l4_0]), (.t 2, [.data (.slc false none 3 (List.map TWrite.en l4_1))]), (.t 6, [.ptr 6 0]), (.t 7, [.ptr 7 0]), (.t 8, [iv l4_2]), (.o 6, [.data (.slc true none 2 (List.map TChain.en l4_3.Chains)), iv l4_3.Mark]), (.o 7, [.data (.slc true none 2 (List.map TChain.en l4_4.Chains)), iv l4_4.Mark])]) (diwanref13_Write.lp4_post l4_0 l4_1 l4_3 r_) := by
  intro n_
  induction n_ with
  | zero => intro l4_2 l4_4 r_ h; exact no_none h
  | succ n_ ih =>
    intro l4_2 l4_4 r_ h
    refine WK.loop (by kernel_rfl) ?_
    refine WK.seq (by kernel_rfl) ?_
    refine WK.rs (g := [.s (.t 20) [iv (l4_1.length : Int)]]) (l' := [(.t 1, [iv l4_0]), (.t 2, [.data (.slc false none 3 (List.map TWrite.en l4_1))]), (.t 6, [.ptr 6 0]), (.t 7, [.ptr 7 0]), (.t 8, [iv l4_2]), (.t 21, [bv (decide (l4_2 < (l4_1.length : Int)))]), (.o 6, [.data (.slc true none 2 (List.map TChain.en l4_3.Chains)), iv l4_3.Mark]), (.o 7, [.data (.slc true none 2 (List.map TChain.en l4_4.Chains)), iv l4_4.Mark])]) (by kernel_rfl) (.cons (c_len (e := TWrite.en) (l := l4_1)) .nil) (by kernel_rfl) ?_
    rcases br_inv h with ⟨b6_0, h⟩ | ⟨b6_0, h⟩
    · refine WK.ct (b := (decide (l4_2 < (l4_1.length : Int)))) (by kernel_rfl) b6_0 ?_
      refine WK.skip (by kernel_rfl) ?_
      refine WKe.code (y := (cR (cB (cB (cR (cL (cR (cR bd24)))))))) (ks' := [.lp (cB (cR (cL (cR (cR bd24)))))]) (by kernel_rfl) ?_
      refine WK.seq (by kernel_rfl) ?_
      refine WK.block (n := 1) (by kernel_rfl) ?_
      obtain ⟨x7_1, a7_2, e7_3, h⟩ := ix_inv h
      refine WK.rs (g := [.c (TWrite.en x7_1)]) (l' := [(.t 1, [iv l4_0]), (.t 2, [.data (.slc false none 3 (List.map TWrite.en l4_1))]), (.t 6, [.ptr 6 0]), (.t 7, [.ptr 7 0]), (.t 8, [iv l4_2]), (.t 9, [.ptr 9 0]), (.o 6, [.data (.slc true none 2 (List.map TChain.en l4_3.Chains)), iv l4_3.Mark]), (.o 7, [.data (.slc true none 2 (List.map TChain.en l4_4.Chains)), iv l4_4.Mark]), (.o 9, (TWrite.ob x7_1))]) (by kernel_rfl) (.cons (c_ix (e := TWrite.en) a7_2 e7_3) (.cons (c_el (e := TWrite.en) e7_3) .nil)) (by kernel_rfl) ?_
      refine WK.rs (g := []) (l' := [(.t 1, [iv l4_0]), (.t 2, [.data (.slc false none 3 (List.map TWrite.en l4_1))]), (.t 6, [.ptr 6 0]), (.t 7, [.ptr 7 0]), (.t 8, [iv l4_2]), (.t 9, [.ptr 9 0]), (.t 10, [iv 0]), (.o 6, [.data (.slc true none 2 (List.map TChain.en l4_3.Chains)), iv l4_3.Mark]), (.o 7, [.data (.slc true none 2 (List.map TChain.en l4_4.Chains)), iv l4_4.Mark]), (.o 9, (TWrite.ob x7_1))]) (by kernel_rfl) .nil (by kernel_rfl) ?_
      refine WK.seq (by kernel_rfl) ?_
      refine WK.block (n := 2) (by kernel_rfl) ?_
      obtain ⟨o13, ho13, h⟩ := bd_inv h
      refine WK.weak (l := [(.t 1, [iv l4_0]), (.t 2, [.data (.slc false none 3 (List.map TWrite.en l4_1))]), (.t 6, [.ptr 6 0]), (.t 7, [.ptr 7 0]), (.t 8, [iv l4_2]), (.t 9, [.ptr 9 0]), (.t 10, [iv 0]), (.o 6, [.data (.slc true none 2 (List.map TChain.en l4_3.Chains)), iv l4_3.Mark]), (.o 7, [.data (.slc true none 2 (List.map TChain.en l4_4.Chains)), iv l4_4.Mark]), (.o 9, (TWrite.ob x7_1))]) (wk_of (by kernel_rfl)) ?_
      refine WK.use (diwanref13_Write.lp9_ok fu l4_0 l4_1 l4_2 l4_3 l4_4 x7_1 _ 0 _ ho13) ?_
      intro e_ τ_ hp_
      obtain ⟨y13_0, rfl⟩ : ∃ y, y = o13 := ⟨_, rfl⟩
      obtain ⟨rfl, rfl⟩ := hp_
      refine WKe.code (y := (cR (cR (cR (cB (cL (cR (cB (cB (cR (cL (cR (cR bd24))))))))))))) (ks' := [.blk 1, .seq (cR (cR (cB (cB (cR (cL (cR (cR bd24)))))))), .lp (cB (cR (cL (cR (cR bd24)))))]) (by kernel_rfl) ?_
      obtain ⟨k24, hk24, h⟩ := jn_inv h
      have Jk24 : ∀ (j24_5 : TStore), k24 j24_5 = some r_ → WK Try.prog diwanref13_Write.O (Ck Try.prog) (cR (cR (cR (cR (cB (cL (cR (cB (cB (cR (cL (cR (cR bd24))))))))))))) [.blk 1, .seq (cR (cR (cB (cB (cR (cL (cR (cR bd24)))))))), .lp (cB (cR (cL (cR (cR bd24)))))] (ofL [(.t 1, [iv l4_0]), (.t 2, [.data (.slc false none 3 (List.map TWrite.en l4_1))]), (.t 6, [.ptr 6 0]), (.t 7, [.ptr 7 0]), (.t 8, [iv l4_2]), (.t 9, [.ptr 9 0]), (.t 10, [iv y13_0]), (.o 6, [.data (.slc true none 2 (List.map TChain.en l4_3.Chains)), iv l4_3.Mark]), (.o 7, [.data (.slc true none 2 (List.map TChain.en j24_5.Chains)), iv j24_5.Mark]), (.o 9, (TWrite.ob x7_1))]) (diwanref13_Write.lp4_post l4_0 l4_1 l4_3 r_) := by
        intro j24_5 h
        rw [hk24] at h
        obtain ⟨x25_1, a25_2, e25_3, h⟩ := ix_inv h
        obtain ⟨r25_4, h25_5, h⟩ := bd_inv h
        obtain ⟨x25_6, a25_7, e25_8, h⟩ := ix_inv h
        refine WK.rc (g := [.c (TChain.en x25_1), .a ⟨.data (.slc true none 3 (List.map TVersion.en r25_4)), []⟩, .c (TChain.en x25_6), .s (.o 7) [.data (.slc true none 2 (List.map TChain.en (j24_5.Chains.set y13_0.toNat (TChain.mk x25_6.Key r25_4)))), iv j24_5.Mark]]) (l' := [(.t 1, [iv l4_0]), (.t 2, [.data (.slc false none 3 (List.map TWrite.en l4_1))]), (.t 6, [.ptr 6 0]), (.t 7, [.ptr 7 0]), (.t 8, [iv l4_2]), (.o 6, [.data (.slc true none 2 (List.map TChain.en l4_3.Chains)), iv l4_3.Mark]), (.o 7, [.data (.slc true none 2 (List.map TChain.en (j24_5.Chains.set y13_0.toNat (TChain.mk x25_6.Key r25_4)))), iv j24_5.Mark])]) (.cons (c_ix (e := TChain.en) a25_2 e25_3) (.cons (c_el (e := TChain.en) e25_3) (.cons (Asks.of (C := Meets Try.prog) (diwanref13_Add.meets x25_1.L (TVersion.mk l4_0 x7_1.Val x7_1.Gone) _ h25_5)) (.cons (c_ix (e := TChain.en) a25_7 e25_8) (.cons (c_el (e := TChain.en) e25_8) (.cons (congrArg (fun d : DV => [AV.data d, iv j24_5.Mark]) (c_set (e := TChain.en) (s := 2) (nl := none) (l := j24_5.Chains) (i := y13_0.toNat) (x := (TChain.mk x25_6.Key r25_4)))) (.cons (Eq.refl true) .nil))))))) (by kernel_rfl) (y := (cR (cR (cB (cB (cR (cL (cR (cR bd24))))))))) (ks' := [.lp (cB (cR (cL (cR (cR bd24)))))]) (by kernel_rfl) ?_
        refine WK.rc (g := []) (l' := [(.t 1, [iv l4_0]), (.t 2, [.data (.slc false none 3 (List.map TWrite.en l4_1))]), (.t 6, [.ptr 6 0]), (.t 7, [.ptr 7 0]), (.t 8, [iv (w64 (l4_2 + 1))]), (.o 6, [.data (.slc true none 2 (List.map TChain.en l4_3.Chains)), iv l4_3.Mark]), (.o 7, [.data (.slc true none 2 (List.map TChain.en (j24_5.Chains.set y13_0.toNat (TChain.mk x25_6.Key r25_4)))), iv j24_5.Mark])]) .nil (by kernel_rfl) (y := (cB (cR (cL (cR (cR bd24)))))) (ks' := []) (by kernel_rfl) ?_
        exact WK.weak (l := [(.t 1, [iv l4_0]), (.t 2, [.data (.slc false none 3 (List.map TWrite.en l4_1))]), (.t 6, [.ptr 6 0]), (.t 7, [.ptr 7 0]), (.t 8, [iv (w64 (l4_2 + 1))]), (.o 6, [.data (.slc true none 2 (List.map TChain.en l4_3.Chains)), iv l4_3.Mark]), (.o 7, [.data (.slc true none 2 (List.map TChain.en (j24_5.Chains.set y13_0.toNat (TChain.mk x25_6.Key r25_4)))), iv j24_5.Mark])]) (wk_of (by kernel_rfl)) (ih (w64 (l4_2 + 1)) (TStore.mk (j24_5.Chains.set y13_0.toNat (TChain.mk x25_6.Key r25_4)) j24_5.Mark) _ h)
      clear hk24
      refine WK.seq (by kernel_rfl) ?_
      rcases br_inv h with ⟨b14_1, h⟩ | ⟨b14_1, h⟩
      · refine WK.rs (g := [.s (.t 49) [iv (l4_4.Chains.length : Int)], .b true, .b true, .b true, .b true, .b true, .b true, .b true, .b true, .b true, .b true]) (l' := [(.t 1, [iv l4_0]), (.t 2, [.data (.slc false none 3 (List.map TWrite.en l4_1))]), (.t 6, [.ptr 6 0]), (.t 7, [.ptr 7 0]), (.t 8, [iv l4_2]), (.t 9, [.ptr 9 0]), (.t 10, [iv y13_0]), (.t 61, [bv true]), (.o 6, [.data (.slc true none 2 (List.map TChain.en l4_3.Chains)), iv l4_3.Mark]), (.o 7, [.data (.slc true none 2 (List.map TChain.en l4_4.Chains)), iv l4_4.Mark]), (.o 9, (TWrite.ob x7_1))]) (by kernel_rfl) (.cons (c_len (e := TChain.en) (l := l4_4.Chains)) (.cons b14_1 (.cons b14_1 (.cons b14_1 (.cons b14_1 (.cons b14_1 (.cons b14_1 (.cons b14_1 (.cons b14_1 (.cons b14_1 (.cons b14_1 (.cons (Eq.refl true) .nil)))))))))))) (by kernel_rfl) ?_
        refine WK.ct (b := true) (by kernel_rfl) rfl ?_
        refine WK.seq (by kernel_rfl) ?_
        refine WK.rs (g := []) (l' := [(.t 1, [iv l4_0]), (.t 2, [.data (.slc false none 3 (List.map TWrite.en l4_1))]), (.t 6, [.ptr 6 0]), (.t 7, [.ptr 7 0]), (.t 8, [iv l4_2]), (.t 9, [.ptr 9 0]), (.t 10, [iv y13_0]), (.t 63, [bv (decide (l4_0 < 1))]), (.o 6, [.data (.slc true none 2 (List.map TChain.en l4_3.Chains)), iv l4_3.Mark]), (.o 7, [.data (.slc true none 2 (List.map TChain.en l4_4.Chains)), iv l4_4.Mark]), (.o 9, (TWrite.ob x7_1))]) (by kernel_rfl) .nil (by kernel_rfl) ?_
        rcases br_inv h with ⟨b16_0, h⟩ | ⟨b16_0, h⟩
        · refine WK.ct (b := (decide (l4_0 < 1))) (by kernel_rfl) b16_0 ?_
          refine WK.exit (n := 1) (by kernel_rfl) ?_
          refine WKe.code (y := (cR (cR (cB (cB (cR (cL (cR (cR bd24))))))))) (ks' := [.lp (cB (cR (cL (cR (cR bd24)))))]) (by kernel_rfl) ?_
          refine WK.rc (g := []) (l' := [(.t 1, [iv l4_0]), (.t 2, [.data (.slc false none 3 (List.map TWrite.en l4_1))]), (.t 6, [.ptr 6 0]), (.t 7, [.ptr 7 0]), (.t 8, [iv (w64 (l4_2 + 1))]), (.o 6, [.data (.slc true none 2 (List.map TChain.en l4_3.Chains)), iv l4_3.Mark]), (.o 7, [.data (.slc true none 2 (List.map TChain.en l4_4.Chains)), iv l4_4.Mark])]) .nil (by kernel_rfl) (y := (cB (cR (cL (cR (cR bd24)))))) (ks' := []) (by kernel_rfl) ?_
          exact WK.weak (l := [(.t 1, [iv l4_0]), (.t 2, [.data (.slc false none 3 (List.map TWrite.en l4_1))]), (.t 6, [.ptr 6 0]), (.t 7, [.ptr 7 0]), (.t 8, [iv (w64 (l4_2 + 1))]), (.o 6, [.data (.slc true none 2 (List.map TChain.en l4_3.Chains)), iv l4_3.Mark]), (.o 7, [.data (.slc true none 2 (List.map TChain.en l4_4.Chains)), iv l4_4.Mark])]) (wk_of (by kernel_rfl)) (ih (w64 (l4_2 + 1)) l4_4 _ h)
        · refine WK.ce (b := (decide (l4_0 < 1))) (by kernel_rfl) b16_0 ?_
          refine WK.skip (by kernel_rfl) ?_
          refine WKe.code (y := (cR (cT (cR (cL (cR (cR (cR (cB (cL (cR (cB (cB (cR (cL (cR (cR bd24))))))))))))))))) (ks' := [.seq (cR (cR (cR (cR (cB (cL (cR (cB (cB (cR (cL (cR (cR bd24))))))))))))), .blk 1, .seq (cR (cR (cB (cB (cR (cL (cR (cR bd24)))))))), .lp (cB (cR (cL (cR (cR bd24)))))]) (by kernel_rfl) ?_
          refine WK.shareO (i := 7) (cc := 0) (l' := [(.t 1, [iv l4_0]), (.t 2, [.data (.slc false none 3 (List.map TWrite.en l4_1))]), (.t 6, [.ptr 6 0]), (.t 7, [.ptr 7 0]), (.t 8, [iv l4_2]), (.t 9, [.ptr 9 0]), (.t 10, [iv y13_0]), (.o 6, [.data (.slc true none 2 (List.map TChain.en l4_3.Chains)), iv l4_3.Mark]), (.o 7, [.data (.slc false none 2 (List.map TChain.en l4_4.Chains)), iv l4_4.Mark]), (.o 9, (TWrite.ob x7_1))]) (by kernel_rfl) (by kernel_rfl) (by kernel_rfl) ?_
          obtain ⟨c18_1, h⟩ := gd_inv h
          obtain ⟨c18_2, h⟩ := gd_inv h
          obtain ⟨c18_3, h⟩ := gd_inv h
          obtain ⟨c18_4, h⟩ := gd_inv h
          obtain ⟨c18_5, h⟩ := gd_inv h
          refine WK.rc (g := [.s (.t 68) [.data (.slc false none 2 (List.map TChain.en (List.take y13_0.toNat l4_4.Chains)))], .s (.t 74) [.data (.slc true none 2 (List.map TChain.en ((List.take y13_0.toNat l4_4.Chains) ++ ([(TChain.mk x7_1.Key [])] : List TChain))))], .s (.t 78) [.data (.slc false none 2 (List.map TChain.en (List.drop y13_0.toNat l4_4.Chains)))], .s (.t 79) [.data (.slc true none 2 (List.map TChain.en (((List.take y13_0.toNat l4_4.Chains) ++ ([(TChain.mk x7_1.Key [])] : List TChain)) ++ (List.drop y13_0.toNat l4_4.Chains))))]]) (l' := [(.t 1, [iv l4_0]), (.t 2, [.data (.slc false none 3 (List.map TWrite.en l4_1))]), (.t 6, [.ptr 6 0]), (.t 7, [.ptr 7 0]), (.t 8, [iv l4_2]), (.t 9, [.ptr 9 0]), (.t 10, [iv y13_0]), (.o 6, [.data (.slc true none 2 (List.map TChain.en l4_3.Chains)), iv l4_3.Mark]), (.o 7, [.data (.slc true none 2 (List.map TChain.en (((List.take y13_0.toNat l4_4.Chains) ++ ([(TChain.mk x7_1.Key [])] : List TChain)) ++ (List.drop y13_0.toNat l4_4.Chains)))), iv l4_4.Mark]), (.o 9, (TWrite.ob x7_1))]) (.cons (c_cbH (e := TChain.en) c18_1) (.cons (congrArg (fun d : DV => [AV.data d]) (c_cutH (own := false) (nl := none) (s := 2) (e := TChain.en) (l := l4_4.Chains) (h := y13_0.toNat))) (.cons (c_al (e := TChain.en) (f := TChain.en) c18_2) (.cons (c_al (e := TChain.en) (f := TChain.en) c18_3) (.cons (congrArg (fun d : DV => [AV.data d]) (c_app (e := TChain.en) (s := 2) (l := (List.take y13_0.toNat l4_4.Chains)) (m := ([(TChain.mk x7_1.Key [])] : List TChain)))) (.cons (c_cbL (e := TChain.en) c18_4) (.cons (congrArg (fun d : DV => [AV.data d]) (c_cutL (own := false) (nl := none) (s := 2) (e := TChain.en) (l := l4_4.Chains) (lo := y13_0.toNat))) (.cons (c_al (e := TChain.en) (f := TChain.en) c18_5) (.cons (congrArg (fun d : DV => [AV.data d]) (c_app (e := TChain.en) (s := 2) (l := ((List.take y13_0.toNat l4_4.Chains) ++ ([(TChain.mk x7_1.Key [])] : List TChain))) (m := (List.drop y13_0.toNat l4_4.Chains)))) (.cons (Eq.refl true) .nil)))))))))) (by kernel_rfl) (y := (cR (cR (cR (cR (cB (cL (cR (cB (cB (cR (cL (cR (cR bd24)))))))))))))) (ks' := [.blk 1, .seq (cR (cR (cB (cB (cR (cL (cR (cR bd24)))))))), .lp (cB (cR (cL (cR (cR bd24)))))]) (by kernel_rfl) ?_
          exact WK.weak (l := [(.t 1, [iv l4_0]), (.t 2, [.data (.slc false none 3 (List.map TWrite.en l4_1))]), (.t 6, [.ptr 6 0]), (.t 7, [.ptr 7 0]), (.t 8, [iv l4_2]), (.t 9, [.ptr 9 0]), (.t 10, [iv y13_0]), (.o 6, [.data (.slc true none 2 (List.map TChain.en l4_3.Chains)), iv l4_3.Mark]), (.o 7, [.data (.slc true none 2 (List.map TChain.en (((List.take y13_0.toNat l4_4.Chains) ++ ([(TChain.mk x7_1.Key [])] : List TChain)) ++ (List.drop y13_0.toNat l4_4.Chains)))), iv l4_4.Mark]), (.o 9, (TWrite.ob x7_1))]) (wk_of (by kernel_rfl)) (Jk24 (TStore.mk (((List.take y13_0.toNat l4_4.Chains) ++ ([(TChain.mk x7_1.Key [])] : List TChain)) ++ (List.drop y13_0.toNat l4_4.Chains)) l4_4.Mark) h)
      · obtain ⟨x14_2, a14_3, e14_4, h⟩ := ix_inv h
        refine WK.rs (g := [.s (.t 49) [iv (l4_4.Chains.length : Int)], .b false, .b false, .b false, .b false, .b false, .b false, .c (TChain.en x14_2), .b false, .b false, .b false, .b false]) (l' := [(.t 1, [iv l4_0]), (.t 2, [.data (.slc false none 3 (List.map TWrite.en l4_1))]), (.t 6, [.ptr 6 0]), (.t 7, [.ptr 7 0]), (.t 8, [iv l4_2]), (.t 9, [.ptr 9 0]), (.t 10, [iv y13_0]), (.t 61, [bv (!(x14_2.Key.toList == x7_1.Key.toList))]), (.o 6, [.data (.slc true none 2 (List.map TChain.en l4_3.Chains)), iv l4_3.Mark]), (.o 7, [.data (.slc true none 2 (List.map TChain.en l4_4.Chains)), iv l4_4.Mark]), (.o 9, (TWrite.ob x7_1))]) (by kernel_rfl) (.cons (c_len (e := TChain.en) (l := l4_4.Chains)) (.cons b14_1 (.cons b14_1 (.cons b14_1 (.cons b14_1 (.cons (c_ix (e := TChain.en) a14_3 e14_4) (.cons b14_1 (.cons b14_1 (.cons (c_el (e := TChain.en) e14_4) (.cons b14_1 (.cons b14_1 (.cons b14_1 (.cons b14_1 (.cons (Eq.refl true) .nil)))))))))))))) (by kernel_rfl) ?_
        rcases br_inv h with ⟨b19_0, h⟩ | ⟨b19_0, h⟩
        · refine WK.ct (b := (!(x14_2.Key.toList == x7_1.Key.toList))) (by kernel_rfl) b19_0 ?_
          refine WK.seq (by kernel_rfl) ?_
          refine WK.rs (g := []) (l' := [(.t 1, [iv l4_0]), (.t 2, [.data (.slc false none 3 (List.map TWrite.en l4_1))]), (.t 6, [.ptr 6 0]), (.t 7, [.ptr 7 0]), (.t 8, [iv l4_2]), (.t 9, [.ptr 9 0]), (.t 10, [iv y13_0]), (.t 63, [bv (decide (l4_0 < 1))]), (.o 6, [.data (.slc true none 2 (List.map TChain.en l4_3.Chains)), iv l4_3.Mark]), (.o 7, [.data (.slc true none 2 (List.map TChain.en l4_4.Chains)), iv l4_4.Mark]), (.o 9, (TWrite.ob x7_1))]) (by kernel_rfl) .nil (by kernel_rfl) ?_
          rcases br_inv h with ⟨b21_0, h⟩ | ⟨b21_0, h⟩
          · refine WK.ct (b := (decide (l4_0 < 1))) (by kernel_rfl) b21_0 ?_
            refine WK.exit (n := 1) (by kernel_rfl) ?_
            refine WKe.code (y := (cR (cR (cB (cB (cR (cL (cR (cR bd24))))))))) (ks' := [.lp (cB (cR (cL (cR (cR bd24)))))]) (by kernel_rfl) ?_
            refine WK.rc (g := []) (l' := [(.t 1, [iv l4_0]), (.t 2, [.data (.slc false none 3 (List.map TWrite.en l4_1))]), (.t 6, [.ptr 6 0]), (.t 7, [.ptr 7 0]), (.t 8, [iv (w64 (l4_2 + 1))]), (.o 6, [.data (.slc true none 2 (List.map TChain.en l4_3.Chains)), iv l4_3.Mark]), (.o 7, [.data (.slc true none 2 (List.map TChain.en l4_4.Chains)), iv l4_4.Mark])]) .nil (by kernel_rfl) (y := (cB (cR (cL (cR (cR bd24)))))) (ks' := []) (by kernel_rfl) ?_
            exact WK.weak (l := [(.t 1, [iv l4_0]), (.t 2, [.data (.slc false none 3 (List.map TWrite.en l4_1))]), (.t 6, [.ptr 6 0]), (.t 7, [.ptr 7 0]), (.t 8, [iv (w64 (l4_2 + 1))]), (.o 6, [.data (.slc true none 2 (List.map TChain.en l4_3.Chains)), iv l4_3.Mark]), (.o 7, [.data (.slc true none 2 (List.map TChain.en l4_4.Chains)), iv l4_4.Mark])]) (wk_of (by kernel_rfl)) (ih (w64 (l4_2 + 1)) l4_4 _ h)
          · refine WK.ce (b := (decide (l4_0 < 1))) (by kernel_rfl) b21_0 ?_
            refine WK.skip (by kernel_rfl) ?_
            refine WKe.code (y := (cR (cT (cR (cL (cR (cR (cR (cB (cL (cR (cB (cB (cR (cL (cR (cR bd24))))))))))))))))) (ks' := [.seq (cR (cR (cR (cR (cB (cL (cR (cB (cB (cR (cL (cR (cR bd24))))))))))))), .blk 1, .seq (cR (cR (cB (cB (cR (cL (cR (cR bd24)))))))), .lp (cB (cR (cL (cR (cR bd24)))))]) (by kernel_rfl) ?_
            refine WK.shareO (i := 7) (cc := 0) (l' := [(.t 1, [iv l4_0]), (.t 2, [.data (.slc false none 3 (List.map TWrite.en l4_1))]), (.t 6, [.ptr 6 0]), (.t 7, [.ptr 7 0]), (.t 8, [iv l4_2]), (.t 9, [.ptr 9 0]), (.t 10, [iv y13_0]), (.o 6, [.data (.slc true none 2 (List.map TChain.en l4_3.Chains)), iv l4_3.Mark]), (.o 7, [.data (.slc false none 2 (List.map TChain.en l4_4.Chains)), iv l4_4.Mark]), (.o 9, (TWrite.ob x7_1))]) (by kernel_rfl) (by kernel_rfl) (by kernel_rfl) ?_
            obtain ⟨c23_1, h⟩ := gd_inv h
            obtain ⟨c23_2, h⟩ := gd_inv h
            obtain ⟨c23_3, h⟩ := gd_inv h
            obtain ⟨c23_4, h⟩ := gd_inv h
            obtain ⟨c23_5, h⟩ := gd_inv h
            refine WK.rc (g := [.s (.t 68) [.data (.slc false none 2 (List.map TChain.en (List.take y13_0.toNat l4_4.Chains)))], .s (.t 74) [.data (.slc true none 2 (List.map TChain.en ((List.take y13_0.toNat l4_4.Chains) ++ ([(TChain.mk x7_1.Key [])] : List TChain))))], .s (.t 78) [.data (.slc false none 2 (List.map TChain.en (List.drop y13_0.toNat l4_4.Chains)))], .s (.t 79) [.data (.slc true none 2 (List.map TChain.en (((List.take y13_0.toNat l4_4.Chains) ++ ([(TChain.mk x7_1.Key [])] : List TChain)) ++ (List.drop y13_0.toNat l4_4.Chains))))]]) (l' := [(.t 1, [iv l4_0]), (.t 2, [.data (.slc false none 3 (List.map TWrite.en l4_1))]), (.t 6, [.ptr 6 0]), (.t 7, [.ptr 7 0]), (.t 8, [iv l4_2]), (.t 9, [.ptr 9 0]), (.t 10, [iv y13_0]), (.o 6, [.data (.slc true none 2 (List.map TChain.en l4_3.Chains)), iv l4_3.Mark]), (.o 7, [.data (.slc true none 2 (List.map TChain.en (((List.take y13_0.toNat l4_4.Chains) ++ ([(TChain.mk x7_1.Key [])] : List TChain)) ++ (List.drop y13_0.toNat l4_4.Chains)))), iv l4_4.Mark]), (.o 9, (TWrite.ob x7_1))]) (.cons (c_cbH (e := TChain.en) c23_1) (.cons (congrArg (fun d : DV => [AV.data d]) (c_cutH (own := false) (nl := none) (s := 2) (e := TChain.en) (l := l4_4.Chains) (h := y13_0.toNat))) (.cons (c_al (e := TChain.en) (f := TChain.en) c23_2) (.cons (c_al (e := TChain.en) (f := TChain.en) c23_3) (.cons (congrArg (fun d : DV => [AV.data d]) (c_app (e := TChain.en) (s := 2) (l := (List.take y13_0.toNat l4_4.Chains)) (m := ([(TChain.mk x7_1.Key [])] : List TChain)))) (.cons (c_cbL (e := TChain.en) c23_4) (.cons (congrArg (fun d : DV => [AV.data d]) (c_cutL (own := false) (nl := none) (s := 2) (e := TChain.en) (l := l4_4.Chains) (lo := y13_0.toNat))) (.cons (c_al (e := TChain.en) (f := TChain.en) c23_5) (.cons (congrArg (fun d : DV => [AV.data d]) (c_app (e := TChain.en) (s := 2) (l := ((List.take y13_0.toNat l4_4.Chains) ++ ([(TChain.mk x7_1.Key [])] : List TChain))) (m := (List.drop y13_0.toNat l4_4.Chains)))) (.cons (Eq.refl true) .nil)))))))))) (by kernel_rfl) (y := (cR (cR (cR (cR (cB (cL (cR (cB (cB (cR (cL (cR (cR bd24)))))))))))))) (ks' := [.blk 1, .seq (cR (cR (cB (cB (cR (cL (cR (cR bd24)))))))), .lp (cB (cR (cL (cR (cR bd24)))))]) (by kernel_rfl) ?_
            exact WK.weak (l := [(.t 1, [iv l4_0]), (.t 2, [.data (.slc false none 3 (List.map TWrite.en l4_1))]), (.t 6, [.ptr 6 0]), (.t 7, [.ptr 7 0]), (.t 8, [iv l4_2]), (.t 9, [.ptr 9 0]), (.t 10, [iv y13_0]), (.o 6, [.data (.slc true none 2 (List.map TChain.en l4_3.Chains)), iv l4_3.Mark]), (.o 7, [.data (.slc true none 2 (List.map TChain.en (((List.take y13_0.toNat l4_4.Chains) ++ ([(TChain.mk x7_1.Key [])] : List TChain)) ++ (List.drop y13_0.toNat l4_4.Chains)))), iv l4_4.Mark]), (.o 9, (TWrite.ob x7_1))]) (wk_of (by kernel_rfl)) (Jk24 (TStore.mk (((List.take y13_0.toNat l4_4.Chains) ++ ([(TChain.mk x7_1.Key [])] : List TChain)) ++ (List.drop y13_0.toNat l4_4.Chains)) l4_4.Mark) h)
        · refine WK.ce (b := (!(x14_2.Key.toList == x7_1.Key.toList))) (by kernel_rfl) b19_0 ?_
          refine WK.skip (by kernel_rfl) ?_
          refine WKe.code (y := (cR (cR (cR (cR (cB (cL (cR (cB (cB (cR (cL (cR (cR bd24)))))))))))))) (ks' := [.blk 1, .seq (cR (cR (cB (cB (cR (cL (cR (cR bd24)))))))), .lp (cB (cR (cL (cR (cR bd24)))))]) (by kernel_rfl) ?_
          exact WK.weak (l := [(.t 1, [iv l4_0]), (.t 2, [.data (.slc false none 3 (List.map TWrite.en l4_1))]), (.t 6, [.ptr 6 0]), (.t 7, [.ptr 7 0]), (.t 8, [iv l4_2]), (.t 9, [.ptr 9 0]), (.t 10, [iv y13_0]), (.o 6, [.data (.slc true none 2 (List.map TChain.en l4_3.Chains)), iv l4_3.Mark]), (.o 7, [.data (.slc true none 2 (List.map TChain.en l4_4.Chains)), iv l4_4.Mark]), (.o 9, (TWrite.ob x7_1))]) (wk_of (by kernel_rfl)) (Jk24 l4_4 h)
    · refine WK.ce (b := (decide (l4_2 < (l4_1.length : Int)))) (by kernel_rfl) b6_0 ?_
      refine WK.weak (l := [(.t 6, [.ptr 6 0]), (.t 7, [.ptr 7 0]), (.o 6, [.data (.slc true none 2 (List.map TChain.en l4_3.Chains)), iv l4_3.Mark]), (.o 7, [.data (.slc true none 2 (List.map TChain.en l4_4.Chains)), iv l4_4.Mark])]) (wk_of (by kernel_rfl)) ?_
      refine WK.exit (n := 0) (by kernel_rfl) ?_
      cases some_inj h
      exact WKe.fin (e' := .exit 0) (by kernel_rfl) ⟨rfl, rfl⟩
noncomputable def diwanref13_Write (fu : Nat) (s : TStore) (pos : Int) (l : List TWrite) : Option TStore :=
  gd (decide (([] : List TChain).length + s.Chains.length ≤ 4294967296)) <|
  bd (diwanref13_Write.lp4 fu pos l (TStore.mk [] 0) fu 0 s) fun y27_0 =>
  some y27_0
theorem diwanref13_Write.meets (fu : Nat) (s : TStore) (pos : Int) (l : List TWrite) (z0 : TStore) (h : diwanref13_Write fu s pos l = some z0) : Meets Try.prog ⟨24, [.data (.agg [.slc false none 2 (List.map TChain.en s.Chains), .val (.int .i64 s.Mark)]), iv pos, .data (.slc false none 3 (List.map TWrite.en l))], []⟩ ⟨.data (.agg [.slc true none 2 (List.map TChain.en z0.Chains), .val (.int .i64 z0.Mark)]), []⟩ := by
  refine meets_of (O := diwanref13_Write.O) hmix (fn := Try.f24) (code := bd24) (by kernel_rfl) ?_
  refine WK.weak (l := [(.t 0, [.data (.agg [.slc false none 2 (List.map TChain.en s.Chains), .val (.int .i64 s.Mark)])]), (.t 1, [iv pos]), (.t 2, [.data (.slc false none 3 (List.map TWrite.en l))])]) (wk_of (by kernel_rfl)) ?_
  unfold diwanref13_Write at h
  refine WK.rs (g := []) (l' := [(.t 1, [iv pos]), (.t 2, [.data (.slc false none 3 (List.map TWrite.en l))]), (.t 3, [.ptr 3 0]), (.t 6, [.ptr 6 0]), (.o 3, [.data (.slc false none 2 (List.map TChain.en s.Chains)), iv s.Mark]), (.o 6, [.data (.slc true none 2 (List.map TChain.en [])), iv 0])]) (by kernel_rfl) .nil (by kernel_rfl) ?_
  obtain ⟨c2_1, h⟩ := gd_inv h
  refine WK.rs (g := []) (l' := [(.t 1, [iv pos]), (.t 2, [.data (.slc false none 3 (List.map TWrite.en l))]), (.t 6, [.ptr 6 0]), (.t 7, [.ptr 7 0]), (.o 6, [.data (.slc true none 2 (List.map TChain.en [])), iv 0]), (.o 7, [.data (.slc true none 2 (List.map TChain.en s.Chains)), iv s.Mark])]) (by kernel_rfl) (.cons (c_al (e := TChain.en) (f := TChain.en) c2_1) (.cons (Eq.refl true) .nil)) (by kernel_rfl) ?_
  refine WK.seq (by kernel_rfl) ?_
  refine WK.rs (g := []) (l' := [(.t 1, [iv pos]), (.t 2, [.data (.slc false none 3 (List.map TWrite.en l))]), (.t 6, [.ptr 6 0]), (.t 7, [.ptr 7 0]), (.t 8, [iv 0]), (.o 6, [.data (.slc true none 2 (List.map TChain.en [])), iv 0]), (.o 7, [.data (.slc true none 2 (List.map TChain.en s.Chains)), iv s.Mark])]) (by kernel_rfl) .nil (by kernel_rfl) ?_
  refine WK.block (n := 0) (by kernel_rfl) ?_
  obtain ⟨o27, ho27, h⟩ := bd_inv h
  refine WK.weak (l := [(.t 1, [iv pos]), (.t 2, [.data (.slc false none 3 (List.map TWrite.en l))]), (.t 6, [.ptr 6 0]), (.t 7, [.ptr 7 0]), (.t 8, [iv 0]), (.o 6, [.data (.slc true none 2 (List.map TChain.en [])), iv 0]), (.o 7, [.data (.slc true none 2 (List.map TChain.en s.Chains)), iv s.Mark])]) (wk_of (by kernel_rfl)) ?_
  refine WK.use (diwanref13_Write.lp4_ok fu pos l (TStore.mk [] 0) _ 0 s _ ho27) ?_
  intro e_ τ_ hp_
  obtain ⟨y27_0, rfl⟩ : ∃ y, y = o27 := ⟨_, rfl⟩
  obtain ⟨rfl, rfl⟩ := hp_
  refine WKe.code (y := (cR (cR (cR bd24)))) (ks' := []) (by kernel_rfl) ?_
  refine WK.rs (g := []) (l' := [(.t 6, [.ptr 6 0]), (.o 6, [.data (.slc true none 2 (List.map TChain.en y27_0.Chains)), iv y27_0.Mark])]) (by kernel_rfl) .nil (by kernel_rfl) ?_
  refine WK.weak (l := [(.t 6, [.ptr 6 0]), (.o 6, [.data (.slc true none 2 (List.map TChain.en y27_0.Chains)), iv y27_0.Mark])]) (wk_of (by kernel_rfl)) ?_
  refine WK.ret (by kernel_rfl) ?_
  have h_ := some_inj h
  subst h_
  exact WKe.fin (e' := .ret) (by kernel_rfl) (fin_of (g := []) (by first | exact .inl rfl | exact .inr rfl) .nil (by kernel_rfl))
/-- diwan/diwanref13.TrimChain -/
noncomputable def bd46 : Code := (Try.f46.body).getD .skip
def diwanref13_TrimChain.O : Nat → Nat := fun t => bif ([4, 5, 6] : List Nat).any (Nat.beq t) then 1 else 0
noncomputable def diwanref13_TrimChain.lp4 (fu : Nat) (l4_0 : List TVersion) (l4_1 : Int) : Nat → (List TVersion) → Int → Option (List TVersion)
  | 0, _, _ => none
  | n_ + 1, l4_2, l4_3 =>
    br (decide (l4_3 < (l4_0.length : Int)))
      (jn (
        ix l4_0 l4_3 fun x11_1 =>
        gd (decide (l4_2.length + ([x11_1] : List TVersion).length ≤ 4294967296)) <|
        diwanref13_TrimChain.lp4 fu l4_0 l4_1 n_ (l4_2 ++ ([x11_1] : List TVersion)) (w64 (l4_3 + 1))) fun k10 =>
      br (decide ((w64 (l4_3 + 1)) < (l4_0.length : Int)))
        (ix l4_0 (w64 (l4_3 + 1)) fun x7_2 =>
        br (decide (x7_2.Pos ≤ l4_1))
          (diwanref13_TrimChain.lp4 fu l4_0 l4_1 n_ l4_2 (w64 (l4_3 + 1)))
          (k10))
        (k10))
      (some l4_2)
noncomputable def diwanref13_TrimChain.lp4_post (l4_0 : List TVersion) (l4_1 : Int) (r_ : (List TVersion)) : Wy → St → Prop := fun e τ => match r_ with
  | y0 => e = .exit 0 ∧ τ = ofL [(.t 5, [.data (.slc true none 3 (List.map TVersion.en y0))])]
theorem diwanref13_TrimChain.lp4_ok (fu : Nat) (l4_0 : List TVersion) (l4_1 : Int) : ∀ (n_ : Nat) (l4_2 : List TVersion) (l4_3 : Int) (r_ : (List TVersion)), diwanref13_TrimChain.lp4 fu l4_0 l4_1 n_ l4_2 l4_3 = some r_ → WK Try.prog diwanref13_TrimChain.O (Ck Try.prog) (cB (cR (cL (cR (cR bd46))))) [] (ofL [(.t 0, [.data (.slc false none 3 (List.map TVersion.en l4_0))]), (.t 1, [iv l4_1]), (.t 5, [.data (.slc true none 3 (List.map TVersion.en l4_2))]), (.t 6, [iv l4_3])]) (diwanref13_TrimChain.lp4_post l4_0 l4_1 r_) := by
  intro n_
  induction n_ with
  | zero => intro l4_2 l4_3 r_ h; exact no_none h
  | succ n_ ih =>
    intro l4_2 l4_3 r_ h
    refine WK.loop (by kernel_rfl) ?_
    refine WK.seq (by kernel_rfl) ?_
    refine WK.rs (g := [.s (.t 9) [iv (l4_0.length : Int)]]) (l' := [(.t 0, [.data (.slc false none 3 (List.map TVersion.en l4_0))]), (.t 1, [iv l4_1]), (.t 5, [.data (.slc true none 3 (List.map TVersion.en l4_2))]), (.t 6, [iv l4_3]), (.t 10, [bv (decide (l4_3 < (l4_0.length : Int)))])]) (by kernel_rfl) (.cons (c_len (e := TVersion.en) (l := l4_0)) .nil) (by kernel_rfl) ?_
    rcases br_inv h with ⟨b6_0, h⟩ | ⟨b6_0, h⟩
    · refine WK.ct (b := (decide (l4_3 < (l4_0.length : Int)))) (by kernel_rfl) b6_0 ?_
      refine WK.skip (by kernel_rfl) ?_
      refine WKe.code (y := (cR (cB (cB (cR (cL (cR (cR bd46)))))))) (ks' := [.lp (cB (cR (cL (cR (cR bd46)))))]) (by kernel_rfl) ?_
      refine WK.seq (by kernel_rfl) ?_
      refine WK.block (n := 1) (by kernel_rfl) ?_
      obtain ⟨k10, hk10, h⟩ := jn_inv h
      have Jk10 : k10 = some r_ → WK Try.prog diwanref13_TrimChain.O (Ck Try.prog) (cR (cB (cL (cR (cB (cB (cR (cL (cR (cR bd46)))))))))) [.blk 1, .seq (cR (cR (cB (cB (cR (cL (cR (cR bd46)))))))), .lp (cB (cR (cL (cR (cR bd46)))))] (ofL [(.t 0, [.data (.slc false none 3 (List.map TVersion.en l4_0))]), (.t 1, [iv l4_1]), (.t 5, [.data (.slc true none 3 (List.map TVersion.en l4_2))]), (.t 6, [iv l4_3])]) (diwanref13_TrimChain.lp4_post l4_0 l4_1 r_) := by
        intro h
        rw [hk10] at h
        obtain ⟨x11_1, a11_2, e11_3, h⟩ := ix_inv h
        obtain ⟨c11_4, h⟩ := gd_inv h
        refine WK.rc (g := [.c (TVersion.en x11_1), .s (.t 34) [.data (.slc true none 3 (List.map TVersion.en (l4_2 ++ ([x11_1] : List TVersion))))]]) (l' := [(.t 0, [.data (.slc false none 3 (List.map TVersion.en l4_0))]), (.t 1, [iv l4_1]), (.t 5, [.data (.slc true none 3 (List.map TVersion.en (l4_2 ++ ([x11_1] : List TVersion))))]), (.t 6, [iv l4_3])]) (.cons (c_ix (e := TVersion.en) a11_2 e11_3) (.cons (c_el (e := TVersion.en) e11_3) (.cons (c_al (e := TVersion.en) (f := TVersion.en) c11_4) (.cons (congrArg (fun d : DV => [AV.data d]) (c_app (e := TVersion.en) (s := 3) (l := l4_2) (m := ([x11_1] : List TVersion)))) .nil)))) (by kernel_rfl) (y := (cR (cR (cB (cB (cR (cL (cR (cR bd46))))))))) (ks' := [.lp (cB (cR (cL (cR (cR bd46)))))]) (by kernel_rfl) ?_
        refine WK.rc (g := []) (l' := [(.t 0, [.data (.slc false none 3 (List.map TVersion.en l4_0))]), (.t 1, [iv l4_1]), (.t 5, [.data (.slc true none 3 (List.map TVersion.en (l4_2 ++ ([x11_1] : List TVersion))))]), (.t 6, [iv (w64 (l4_3 + 1))])]) .nil (by kernel_rfl) (y := (cB (cR (cL (cR (cR bd46)))))) (ks' := []) (by kernel_rfl) ?_
        exact WK.weak (l := [(.t 0, [.data (.slc false none 3 (List.map TVersion.en l4_0))]), (.t 1, [iv l4_1]), (.t 5, [.data (.slc true none 3 (List.map TVersion.en (l4_2 ++ ([x11_1] : List TVersion))))]), (.t 6, [iv (w64 (l4_3 + 1))])]) (wk_of (by kernel_rfl)) (ih (l4_2 ++ ([x11_1] : List TVersion)) (w64 (l4_3 + 1)) _ h)
      clear hk10
      refine WK.seq (by kernel_rfl) ?_
      rcases br_inv h with ⟨b7_1, h⟩ | ⟨b7_1, h⟩
      · obtain ⟨x7_2, a7_3, e7_4, h⟩ := ix_inv h
        refine WK.rs (g := [.s (.t 16) [iv (l4_0.length : Int)], .b true, .b true, .b true, .b true, .c (TVersion.en x7_2), .b true, .b true, .b true, .b true, .b true]) (l' := [(.t 0, [.data (.slc false none 3 (List.map TVersion.en l4_0))]), (.t 1, [iv l4_1]), (.t 5, [.data (.slc true none 3 (List.map TVersion.en l4_2))]), (.t 6, [iv l4_3]), (.t 27, [bv (decide (x7_2.Pos ≤ l4_1))])]) (by kernel_rfl) (.cons (c_len (e := TVersion.en) (l := l4_0)) (.cons b7_1 (.cons b7_1 (.cons b7_1 (.cons b7_1 (.cons (c_ix (e := TVersion.en) a7_3 e7_4) (.cons (c_el (e := TVersion.en) e7_4) (.cons b7_1 (.cons b7_1 (.cons b7_1 (.cons b7_1 (.cons b7_1 .nil)))))))))))) (by kernel_rfl) ?_
        rcases br_inv h with ⟨b8_0, h⟩ | ⟨b8_0, h⟩
        · refine WK.ct (b := (decide (x7_2.Pos ≤ l4_1))) (by kernel_rfl) b8_0 ?_
          refine WK.exit (n := 1) (by kernel_rfl) ?_
          refine WKe.code (y := (cR (cR (cB (cB (cR (cL (cR (cR bd46))))))))) (ks' := [.lp (cB (cR (cL (cR (cR bd46)))))]) (by kernel_rfl) ?_
          refine WK.rc (g := []) (l' := [(.t 0, [.data (.slc false none 3 (List.map TVersion.en l4_0))]), (.t 1, [iv l4_1]), (.t 5, [.data (.slc true none 3 (List.map TVersion.en l4_2))]), (.t 6, [iv (w64 (l4_3 + 1))])]) .nil (by kernel_rfl) (y := (cB (cR (cL (cR (cR bd46)))))) (ks' := []) (by kernel_rfl) ?_
          exact WK.weak (l := [(.t 0, [.data (.slc false none 3 (List.map TVersion.en l4_0))]), (.t 1, [iv l4_1]), (.t 5, [.data (.slc true none 3 (List.map TVersion.en l4_2))]), (.t 6, [iv (w64 (l4_3 + 1))])]) (wk_of (by kernel_rfl)) (ih l4_2 (w64 (l4_3 + 1)) _ h)
        · refine WK.ce (b := (decide (x7_2.Pos ≤ l4_1))) (by kernel_rfl) b8_0 ?_
          refine WK.skip (by kernel_rfl) ?_
          refine WKe.code (y := (cR (cB (cL (cR (cB (cB (cR (cL (cR (cR bd46))))))))))) (ks' := [.blk 1, .seq (cR (cR (cB (cB (cR (cL (cR (cR bd46)))))))), .lp (cB (cR (cL (cR (cR bd46)))))]) (by kernel_rfl) ?_
          exact WK.weak (l := [(.t 0, [.data (.slc false none 3 (List.map TVersion.en l4_0))]), (.t 1, [iv l4_1]), (.t 5, [.data (.slc true none 3 (List.map TVersion.en l4_2))]), (.t 6, [iv l4_3])]) (wk_of (by kernel_rfl)) (Jk10 h)
      · refine WK.rs (g := [.s (.t 16) [iv (l4_0.length : Int)], .b false, .b false, .b false, .b false, .b false, .b false, .b false, .b false, .b false]) (l' := [(.t 0, [.data (.slc false none 3 (List.map TVersion.en l4_0))]), (.t 1, [iv l4_1]), (.t 5, [.data (.slc true none 3 (List.map TVersion.en l4_2))]), (.t 6, [iv l4_3]), (.t 27, [bv false])]) (by kernel_rfl) (.cons (c_len (e := TVersion.en) (l := l4_0)) (.cons b7_1 (.cons b7_1 (.cons b7_1 (.cons b7_1 (.cons b7_1 (.cons b7_1 (.cons b7_1 (.cons b7_1 (.cons b7_1 .nil)))))))))) (by kernel_rfl) ?_
        refine WK.ce (b := false) (by kernel_rfl) rfl ?_
        refine WK.skip (by kernel_rfl) ?_
        refine WKe.code (y := (cR (cB (cL (cR (cB (cB (cR (cL (cR (cR bd46))))))))))) (ks' := [.blk 1, .seq (cR (cR (cB (cB (cR (cL (cR (cR bd46)))))))), .lp (cB (cR (cL (cR (cR bd46)))))]) (by kernel_rfl) ?_
        exact WK.weak (l := [(.t 0, [.data (.slc false none 3 (List.map TVersion.en l4_0))]), (.t 1, [iv l4_1]), (.t 5, [.data (.slc true none 3 (List.map TVersion.en l4_2))]), (.t 6, [iv l4_3])]) (wk_of (by kernel_rfl)) (Jk10 h)
    · refine WK.ce (b := (decide (l4_3 < (l4_0.length : Int)))) (by kernel_rfl) b6_0 ?_
      refine WK.weak (l := [(.t 5, [.data (.slc true none 3 (List.map TVersion.en l4_2))])]) (wk_of (by kernel_rfl)) ?_
      refine WK.exit (n := 0) (by kernel_rfl) ?_
      cases some_inj h
      exact WKe.fin (e' := .exit 0) (by kernel_rfl) ⟨rfl, rfl⟩
noncomputable def diwanref13_TrimChain (fu : Nat) (l : List TVersion) (mark : Int) : Option (List TVersion) :=
  bd (diwanref13_TrimChain.lp4 fu l mark fu [] 0) fun y13_0 =>
  some y13_0
theorem diwanref13_TrimChain.meets (fu : Nat) (l : List TVersion) (mark : Int) (z0 : List TVersion) (h : diwanref13_TrimChain fu l mark = some z0) : Meets Try.prog ⟨46, [.data (.slc false none 3 (List.map TVersion.en l)), iv mark], []⟩ ⟨.data (.slc true none 3 (List.map TVersion.en z0)), []⟩ := by
  refine meets_of (O := diwanref13_TrimChain.O) hmix (fn := Try.f46) (code := bd46) (by kernel_rfl) ?_
  refine WK.weak (l := [(.t 0, [.data (.slc false none 3 (List.map TVersion.en l))]), (.t 1, [iv mark])]) (wk_of (by kernel_rfl)) ?_
  unfold diwanref13_TrimChain at h
  refine WK.rs (g := []) (l' := [(.t 0, [.data (.slc false none 3 (List.map TVersion.en l))]), (.t 1, [iv mark])]) (by kernel_rfl) .nil (by kernel_rfl) ?_
  refine WK.rs (g := []) (l' := [(.t 0, [.data (.slc false none 3 (List.map TVersion.en l))]), (.t 1, [iv mark]), (.t 5, [.data (.slc true (some true) 3 (List.map TVersion.en []))])]) (by kernel_rfl) .nil (by kernel_rfl) ?_
  refine WK.seq (by kernel_rfl) ?_
  refine WK.rs (g := []) (l' := [(.t 0, [.data (.slc false none 3 (List.map TVersion.en l))]), (.t 1, [iv mark]), (.t 5, [.data (.slc true (some true) 3 (List.map TVersion.en []))]), (.t 6, [iv 0])]) (by kernel_rfl) .nil (by kernel_rfl) ?_
  refine WK.block (n := 0) (by kernel_rfl) ?_
  obtain ⟨o13, ho13, h⟩ := bd_inv h
  refine WK.weak (l := [(.t 0, [.data (.slc false none 3 (List.map TVersion.en l))]), (.t 1, [iv mark]), (.t 5, [.data (.slc true none 3 (List.map TVersion.en []))]), (.t 6, [iv 0])]) (wk_of (by kernel_rfl)) ?_
  refine WK.use (diwanref13_TrimChain.lp4_ok fu l mark _ [] 0 _ ho13) ?_
  intro e_ τ_ hp_
  obtain ⟨y13_0, rfl⟩ : ∃ y, y = o13 := ⟨_, rfl⟩
  obtain ⟨rfl, rfl⟩ := hp_
  refine WKe.code (y := (cR (cR (cR bd46)))) (ks' := []) (by kernel_rfl) ?_
  refine WK.rs (g := []) (l' := [(.t 4, [.data (.slc true none 3 (List.map TVersion.en y13_0))])]) (by kernel_rfl) .nil (by kernel_rfl) ?_
  refine WK.weak (l := [(.t 4, [.data (.slc true none 3 (List.map TVersion.en y13_0))])]) (wk_of (by kernel_rfl)) ?_
  refine WK.ret (by kernel_rfl) ?_
  have h_ := some_inj h
  subst h_
  exact WKe.fin (e' := .ret) (by kernel_rfl) (fin_of (g := []) (by first | exact .inl rfl | exact .inr rfl) .nil (by kernel_rfl))
/-- diwan/diwanref13.Trim -/
noncomputable def bd22 : Code := (Try.f22.body).getD .skip
def diwanref13_Trim.O : Nat → Nat := fun t => bif ([2, 5, 6, 11, 13, 37, 38, 39, 41] : List Nat).any (Nat.beq t) then 1 else bif ([4] : List Nat).any (Nat.beq t) then 2 else 0
noncomputable def diwanref13_Trim.lp7 (fu : Nat) (l7_0 : Int) (l7_2 : TStore) (l7_3 : TStore) : Nat → Int → TStore → Option TStore
  | 0, _, _ => none
  | n_ + 1, l7_1, l7_4 =>
    br (decide (l7_1 < (l7_2.Chains.length : Int)))
      (ix l7_2.Chains l7_1 fun x10_1 =>
      ix l7_2.Chains l7_1 fun x10_4 =>
      bd (diwanref13_TrimChain fu x10_4.L l7_0) fun r10_7 =>
      gd (decide (l7_4.Chains.length + ([(TChain.mk x10_1.Key r10_7)] : List TChain).length ≤ 4294967296)) <|
      diwanref13_Trim.lp7 fu l7_0 l7_2 l7_3 n_ (w64 (l7_1 + 1)) (TStore.mk (l7_4.Chains ++ ([(TChain.mk x10_1.Key r10_7)] : List TChain)) l7_4.Mark))
      (some l7_4)
noncomputable def diwanref13_Trim.lp7_post (l7_0 : Int) (l7_2 : TStore) (l7_3 : TStore) (r_ : TStore) : Wy → St → Prop := fun e τ => match r_ with
  | y0 => e = .exit 0 ∧ τ = ofL [(.t 4, [.ptr 4 0]), (.t 5, [.ptr 5 0]), (.o 4, [.data (.slc false none 2 (List.map TChain.en l7_3.Chains)), iv l7_3.Mark]), (.o 5, [.data (.slc true none 2 (List.map TChain.en y0.Chains)), iv y0.Mark])]
theorem diwanref13_Trim.lp7_ok (fu : Nat) (l7_0 : Int) (l7_2 : TStore) (l7_3 : TStore) : ∀ (n_ : Nat) (l7_1 : Int) (l7_4 : TStore) (r_ : TStore), diwanref13_Trim.lp7 fu l7_0 l7_2 l7_3 n_ l7_1 l7_4 = some r_ → WK Try.prog diwanref13_Trim.O (Ck Try.prog) (cB (cR (cL (cR (cR (cR bd22)))))) [] (ofL [(.t 1, [iv l7_0]), (.t 2, [.ptr 2 0]), (.t 4, [.ptr 4 0]), (.t 5, [.ptr 5 0]), (.t 6, [iv l7_1]), (.o 2, [.data (.slc false none 2 (List.map TChain.en l7_2.Chains)), iv l7_2.Mark]), (.o 4, [.data (.slc false none 2 (List.map TChain.en l7_3.Chains)), iv l7_3.Mark]), (.o 5, [.data (.slc true none 2 (List.map TChain.en l7_4.Chains)), iv l7_4.Mark])]) (diwanref13_Trim.lp7_post l7_0 l7_2 l7_3 r_) := by
  intro n_
  induction n_ with
  | zero => intro l7_1 l7_4 r_ h; exact no_none h
  | succ n_ ih =>
    intro l7_1 l7_4 r_ h
    refine WK.loop (by kernel_rfl) ?_
    refine WK.seq (by kernel_rfl) ?_
    refine WK.rs (g := [.s (.t 17) [iv (l7_2.Chains.length : Int)]]) (l' := [(.t 1, [iv l7_0]), (.t 2, [.ptr 2 0]), (.t 4, [.ptr 4 0]), (.t 5, [.ptr 5 0]), (.t 6, [iv l7_1]), (.t 18, [bv (decide (l7_1 < (l7_2.Chains.length : Int)))]), (.o 2, [.data (.slc false none 2 (List.map TChain.en l7_2.Chains)), iv l7_2.Mark]), (.o 4, [.data (.slc false none 2 (List.map TChain.en l7_3.Chains)), iv l7_3.Mark]), (.o 5, [.data (.slc true none 2 (List.map TChain.en l7_4.Chains)), iv l7_4.Mark])]) (by kernel_rfl) (.cons (c_len (e := TChain.en) (l := l7_2.Chains)) .nil) (by kernel_rfl) ?_
    rcases br_inv h with ⟨b9_0, h⟩ | ⟨b9_0, h⟩
    · refine WK.ct (b := (decide (l7_1 < (l7_2.Chains.length : Int)))) (by kernel_rfl) b9_0 ?_
      refine WK.skip (by kernel_rfl) ?_
      refine WKe.code (y := (cR (cB (cB (cR (cL (cR (cR (cR bd22))))))))) (ks' := [.lp (cB (cR (cL (cR (cR (cR bd22))))))]) (by kernel_rfl) ?_
      refine WK.seq (by kernel_rfl) ?_
      refine WK.block (n := 1) (by kernel_rfl) ?_
      obtain ⟨x10_1, a10_2, e10_3, h⟩ := ix_inv h
      obtain ⟨x10_4, a10_5, e10_6, h⟩ := ix_inv h
      obtain ⟨r10_7, h10_8, h⟩ := bd_inv h
      obtain ⟨c10_9, h⟩ := gd_inv h
      refine WK.rc (g := [.c (TChain.en x10_1), .c (TChain.en x10_4), .a ⟨.data (.slc true none 3 (List.map TVersion.en r10_7)), []⟩, .s (.t 39) [.data (.slc true none 2 (List.map TChain.en (l7_4.Chains ++ ([(TChain.mk x10_1.Key r10_7)] : List TChain))))]]) (l' := [(.t 1, [iv l7_0]), (.t 2, [.ptr 2 0]), (.t 4, [.ptr 4 0]), (.t 5, [.ptr 5 0]), (.t 6, [iv l7_1]), (.o 2, [.data (.slc false none 2 (List.map TChain.en l7_2.Chains)), iv l7_2.Mark]), (.o 4, [.data (.slc false none 2 (List.map TChain.en l7_3.Chains)), iv l7_3.Mark]), (.o 5, [.data (.slc true none 2 (List.map TChain.en (l7_4.Chains ++ ([(TChain.mk x10_1.Key r10_7)] : List TChain)))), iv l7_4.Mark])]) (.cons (c_ix (e := TChain.en) a10_2 e10_3) (.cons (c_el (e := TChain.en) e10_3) (.cons (c_ix (e := TChain.en) a10_5 e10_6) (.cons (c_el (e := TChain.en) e10_6) (.cons (Asks.of (C := Meets Try.prog) (diwanref13_TrimChain.meets fu x10_4.L l7_0 _ h10_8)) (.cons (c_al (e := TChain.en) (f := TChain.en) c10_9) (.cons (congrArg (fun d : DV => [AV.data d]) (c_app (e := TChain.en) (s := 2) (l := l7_4.Chains) (m := ([(TChain.mk x10_1.Key r10_7)] : List TChain)))) (.cons (Eq.refl true) .nil)))))))) (by kernel_rfl) (y := (cR (cR (cB (cB (cR (cL (cR (cR (cR bd22)))))))))) (ks' := [.lp (cB (cR (cL (cR (cR (cR bd22))))))]) (by kernel_rfl) ?_
      refine WK.rc (g := []) (l' := [(.t 1, [iv l7_0]), (.t 2, [.ptr 2 0]), (.t 4, [.ptr 4 0]), (.t 5, [.ptr 5 0]), (.t 6, [iv (w64 (l7_1 + 1))]), (.o 2, [.data (.slc false none 2 (List.map TChain.en l7_2.Chains)), iv l7_2.Mark]), (.o 4, [.data (.slc false none 2 (List.map TChain.en l7_3.Chains)), iv l7_3.Mark]), (.o 5, [.data (.slc true none 2 (List.map TChain.en (l7_4.Chains ++ ([(TChain.mk x10_1.Key r10_7)] : List TChain)))), iv l7_4.Mark])]) .nil (by kernel_rfl) (y := (cB (cR (cL (cR (cR (cR bd22))))))) (ks' := []) (by kernel_rfl) ?_
      exact WK.weak (l := [(.t 1, [iv l7_0]), (.t 2, [.ptr 2 0]), (.t 4, [.ptr 4 0]), (.t 5, [.ptr 5 0]), (.t 6, [iv (w64 (l7_1 + 1))]), (.o 2, [.data (.slc false none 2 (List.map TChain.en l7_2.Chains)), iv l7_2.Mark]), (.o 4, [.data (.slc false none 2 (List.map TChain.en l7_3.Chains)), iv l7_3.Mark]), (.o 5, [.data (.slc true none 2 (List.map TChain.en (l7_4.Chains ++ ([(TChain.mk x10_1.Key r10_7)] : List TChain)))), iv l7_4.Mark])]) (wk_of (by kernel_rfl)) (ih (w64 (l7_1 + 1)) (TStore.mk (l7_4.Chains ++ ([(TChain.mk x10_1.Key r10_7)] : List TChain)) l7_4.Mark) _ h)
    · refine WK.ce (b := (decide (l7_1 < (l7_2.Chains.length : Int)))) (by kernel_rfl) b9_0 ?_
      refine WK.weak (l := [(.t 4, [.ptr 4 0]), (.t 5, [.ptr 5 0]), (.o 4, [.data (.slc false none 2 (List.map TChain.en l7_3.Chains)), iv l7_3.Mark]), (.o 5, [.data (.slc true none 2 (List.map TChain.en l7_4.Chains)), iv l7_4.Mark])]) (wk_of (by kernel_rfl)) ?_
      refine WK.exit (n := 0) (by kernel_rfl) ?_
      cases some_inj h
      exact WKe.fin (e' := .exit 0) (by kernel_rfl) ⟨rfl, rfl⟩
noncomputable def diwanref13_Trim (fu : Nat) (s : TStore) (mark : Int) : Option TStore :=
  br (decide (mark ≤ s.Mark))
    (some s)
    (bd (diwanref13_Trim.lp7 fu mark s (TStore.mk [] 0) fu 0 (TStore.mk [] mark)) fun y12_0 =>
    some y12_0)
theorem diwanref13_Trim.meets (fu : Nat) (s : TStore) (mark : Int) (z0 : TStore) (h : diwanref13_Trim fu s mark = some z0) : Meets Try.prog ⟨22, [.data (.agg [.slc false none 2 (List.map TChain.en s.Chains), .val (.int .i64 s.Mark)]), iv mark], []⟩ ⟨.data (.agg [.slc false none 2 (List.map TChain.en z0.Chains), .val (.int .i64 z0.Mark)]), []⟩ := by
  refine meets_of (O := diwanref13_Trim.O) hmix (fn := Try.f22) (code := bd22) (by kernel_rfl) ?_
  refine WK.weak (l := [(.t 0, [.data (.agg [.slc false none 2 (List.map TChain.en s.Chains), .val (.int .i64 s.Mark)])]), (.t 1, [iv mark])]) (wk_of (by kernel_rfl)) ?_
  unfold diwanref13_Trim at h
  refine WK.rs (g := []) (l' := [(.t 1, [iv mark]), (.t 2, [.ptr 2 0]), (.t 4, [.ptr 4 0]), (.o 2, [.data (.slc false none 2 (List.map TChain.en s.Chains)), iv s.Mark]), (.o 4, [.data (.slc false none 2 (List.map TChain.en [])), iv 0])]) (by kernel_rfl) .nil (by kernel_rfl) ?_
  refine WK.seq (by kernel_rfl) ?_
  refine WK.rs (g := []) (l' := [(.t 1, [iv mark]), (.t 2, [.ptr 2 0]), (.t 4, [.ptr 4 0]), (.t 10, [bv (decide (mark ≤ s.Mark))]), (.o 2, [.data (.slc false none 2 (List.map TChain.en s.Chains)), iv s.Mark]), (.o 4, [.data (.slc false none 2 (List.map TChain.en [])), iv 0])]) (by kernel_rfl) .nil (by kernel_rfl) ?_
  rcases br_inv h with ⟨b3_0, h⟩ | ⟨b3_0, h⟩
  · refine WK.ct (b := (decide (mark ≤ s.Mark))) (by kernel_rfl) b3_0 ?_
    refine WK.rs (g := []) (l' := [(.t 4, [.ptr 4 0]), (.o 4, [.data (.slc false none 2 (List.map TChain.en s.Chains)), iv s.Mark])]) (by kernel_rfl) .nil (by kernel_rfl) ?_
    refine WK.weak (l := [(.t 4, [.ptr 4 0]), (.o 4, [.data (.slc false none 2 (List.map TChain.en s.Chains)), iv s.Mark])]) (wk_of (by kernel_rfl)) ?_
    refine WK.ret (by kernel_rfl) ?_
    have h_ := some_inj h
    subst h_
    exact WKe.fin (e' := .ret) (by kernel_rfl) (fin_of (g := []) (by first | exact .inl rfl | exact .inr rfl) .nil (by kernel_rfl))
  · refine WK.ce (b := (decide (mark ≤ s.Mark))) (by kernel_rfl) b3_0 ?_
    refine WK.skip (by kernel_rfl) ?_
    refine WKe.code (y := (cR (cR bd22))) (ks' := []) (by kernel_rfl) ?_
    refine WK.rs (g := []) (l' := [(.t 1, [iv mark]), (.t 2, [.ptr 2 0]), (.t 4, [.ptr 4 0]), (.t 5, [.ptr 5 0]), (.o 2, [.data (.slc false none 2 (List.map TChain.en s.Chains)), iv s.Mark]), (.o 4, [.data (.slc false none 2 (List.map TChain.en [])), iv 0]), (.o 5, [.data (.slc true none 2 (List.map TChain.en [])), iv mark])]) (by kernel_rfl) .nil (by kernel_rfl) ?_
    refine WK.seq (by kernel_rfl) ?_
    refine WK.rs (g := []) (l' := [(.t 1, [iv mark]), (.t 2, [.ptr 2 0]), (.t 4, [.ptr 4 0]), (.t 5, [.ptr 5 0]), (.t 6, [iv 0]), (.o 2, [.data (.slc false none 2 (List.map TChain.en s.Chains)), iv s.Mark]), (.o 4, [.data (.slc false none 2 (List.map TChain.en [])), iv 0]), (.o 5, [.data (.slc true none 2 (List.map TChain.en [])), iv mark])]) (by kernel_rfl) .nil (by kernel_rfl) ?_
    refine WK.block (n := 0) (by kernel_rfl) ?_
    obtain ⟨o12, ho12, h⟩ := bd_inv h
    refine WK.weak (l := [(.t 1, [iv mark]), (.t 2, [.ptr 2 0]), (.t 4, [.ptr 4 0]), (.t 5, [.ptr 5 0]), (.t 6, [iv 0]), (.o 2, [.data (.slc false none 2 (List.map TChain.en s.Chains)), iv s.Mark]), (.o 4, [.data (.slc false none 2 (List.map TChain.en [])), iv 0]), (.o 5, [.data (.slc true none 2 (List.map TChain.en [])), iv mark])]) (wk_of (by kernel_rfl)) ?_
    refine WK.use (diwanref13_Trim.lp7_ok fu mark s (TStore.mk [] 0) _ 0 (TStore.mk [] mark) _ ho12) ?_
    intro e_ τ_ hp_
    obtain ⟨y12_0, rfl⟩ : ∃ y, y = o12 := ⟨_, rfl⟩
    obtain ⟨rfl, rfl⟩ := hp_
    refine WKe.code (y := (cR (cR (cR (cR bd22))))) (ks' := []) (by kernel_rfl) ?_
    refine WK.rs (g := []) (l' := [(.t 4, [.ptr 4 0]), (.o 4, [.data (.slc true none 2 (List.map TChain.en y12_0.Chains)), iv y12_0.Mark])]) (by kernel_rfl) .nil (by kernel_rfl) ?_
    refine WK.weak (l := [(.t 4, [.ptr 4 0]), (.o 4, [.data (.slc true none 2 (List.map TChain.en y12_0.Chains)), iv y12_0.Mark])]) (wk_of (by kernel_rfl)) ?_
    refine WK.ret (by kernel_rfl) ?_
    have h_ := some_inj h
    subst h_
    exact WKe.fin (e' := .ret) (by kernel_rfl) (fin_of (g := []) (by first | exact .inl rfl | exact .inr rfl) .nil (by kernel_rfl))
/-- diwan/diwanlaw16.made -/
noncomputable def bd9 : Code := (Try.f9.body).getD .skip
def diwanlaw16_made.O : Nat → Nat := fun t => bif ([2, 3, 4, 5, 6, 9, 29, 38, 39] : List Nat).any (Nat.beq t) then 1 else 0
noncomputable def diwanlaw16_made.lp6 (fu : Nat) (l6_2 : TStore) : Nat → Int → Int → TStore → TPicks → Option TStore
  | 0, _, _, _, _ => none
  | n_ + 1, l6_0, l6_1, l6_3, l6_4 =>
    br (decide (l6_1 < 12))
      (bd (diwanplay_Picks_Over l6_4) fun r7_2 =>
      br (!r7_2)
        (bd (diwanplay_Picks_Num 3 l6_4) fun (r9_1, r9_2) =>
        bd (diwanplay_Picks_Txn fu 1 r9_2) fun (r10_1, r10_2) =>
        bd (diwanref13_Write fu l6_3 (w64 ((w64 (l6_0 + 1)) + r9_1)) r10_1.Writes) fun r10_4 =>
        bd (diwanplay_Picks_Num 9 r10_2) fun (r11_1, r11_2) =>
        br (r11_1 == 0)
          (bd (diwanplay_Picks_Num (w64 ((w64 ((w64 (l6_0 + 1)) + r9_1)) + 1)) r11_2) fun (r13_1, r13_2) =>
          bd (diwanref13_Trim fu r10_4 r13_1) fun r13_4 =>
          diwanlaw16_made.lp6 fu l6_2 n_ (w64 ((w64 (l6_0 + 1)) + r9_1)) (w64 (l6_1 + 1)) r13_4 r13_2)
          (diwanlaw16_made.lp6 fu l6_2 n_ (w64 ((w64 (l6_0 + 1)) + r9_1)) (w64 (l6_1 + 1)) r10_4 r11_2))
        (some l6_3))
      (some l6_3)
noncomputable def diwanlaw16_made.lp6_post (l6_2 : TStore) (r_ : TStore) : Wy → St → Prop := fun e τ => match r_ with
  | y0 => e = .exit 0 ∧ τ = ofL [(.t 2, [.ptr 2 0]), (.t 4, [.ptr 4 0]), (.o 2, [.data (.slc true none 2 (List.map TChain.en l6_2.Chains)), iv l6_2.Mark]), (.o 4, [.data (.slc false none 2 (List.map TChain.en y0.Chains)), iv y0.Mark])]
theorem diwanlaw16_made.lp6_ok (fu : Nat) (l6_2 : TStore) : ∀ (n_ : Nat) (l6_0 : Int) (l6_1 : Int) (l6_3 : TStore) (l6_4 : TPicks) (r_ : TStore), diwanlaw16_made.lp6 fu l6_2 n_ l6_0 l6_1 l6_3 l6_4 = some r_ → WK Try.prog diwanlaw16_made.O (Ck Try.prog) (cB (cR (cL (cR (cR (cR (cR bd9))))))) [] (ofL [(.t 2, [.ptr 2 0]), (.t 3, [.ptr 2064 0]), (.t 4, [.ptr 4 0]), (.t 5, [iv l6_0]), (.t 6, [iv l6_1]), (.o 2, [.data (.slc true none 2 (List.map TChain.en l6_2.Chains)), iv l6_2.Mark]), (.o 4, [.data (.slc false none 2 (List.map TChain.en l6_3.Chains)), iv l6_3.Mark]), (.o 2064, [.data (.slc false none 1 (List.map e_u8 l6_4.l)), iv l6_4.n])]) (diwanlaw16_made.lp6_post l6_2 r_) := by
  intro n_
  induction n_ with
  | zero => intro l6_0 l6_1 l6_3 l6_4 r_ h; exact no_none h
  | succ n_ ih =>
    intro l6_0 l6_1 l6_3 l6_4 r_ h
    refine WK.loop (by kernel_rfl) ?_
    refine WK.seq (by kernel_rfl) ?_
    rcases br_inv h with ⟨b7_1, h⟩ | ⟨b7_1, h⟩
    · obtain ⟨r7_2, h7_3, h⟩ := bd_inv h
      refine WK.rs (g := [.b true, .b true, .a ⟨bv r7_2, [[.data (.slc false none 1 (List.map e_u8 l6_4.l)), iv l6_4.n]]⟩, .b true, .b true]) (l' := [(.t 2, [.ptr 2 0]), (.t 3, [.ptr 2064 0]), (.t 4, [.ptr 4 0]), (.t 5, [iv l6_0]), (.t 6, [iv l6_1]), (.t 16, [bv (!r7_2)]), (.o 2, [.data (.slc true none 2 (List.map TChain.en l6_2.Chains)), iv l6_2.Mark]), (.o 4, [.data (.slc false none 2 (List.map TChain.en l6_3.Chains)), iv l6_3.Mark]), (.o 2064, [.data (.slc false none 1 (List.map e_u8 l6_4.l)), iv l6_4.n])]) (by kernel_rfl) (.cons b7_1 (.cons b7_1 (.cons (Asks.of (C := Meets Try.prog) (diwanplay_Picks_Over.meets l6_4 _ h7_3)) (.cons b7_1 (.cons b7_1 .nil))))) (by kernel_rfl) ?_
      rcases br_inv h with ⟨b8_0, h⟩ | ⟨b8_0, h⟩
      · refine WK.ct (b := (!r7_2)) (by kernel_rfl) b8_0 ?_
        refine WK.skip (by kernel_rfl) ?_
        refine WKe.code (y := (cR (cB (cB (cR (cL (cR (cR (cR (cR bd9)))))))))) (ks' := [.lp (cB (cR (cL (cR (cR (cR (cR bd9)))))))]) (by kernel_rfl) ?_
        refine WK.seq (by kernel_rfl) ?_
        refine WK.block (n := 1) (by kernel_rfl) ?_
        obtain ⟨⟨r9_1, r9_2⟩, h9_3, h⟩ := bd_inv h
        refine WK.rs (g := [.a ⟨iv r9_1, [[.data (.slc false none 1 (List.map e_u8 r9_2.l)), iv r9_2.n]]⟩]) (l' := [(.t 2, [.ptr 2 0]), (.t 3, [.ptr 2064 0]), (.t 4, [.ptr 4 0]), (.t 5, [iv (w64 ((w64 (l6_0 + 1)) + r9_1))]), (.t 6, [iv l6_1]), (.o 2, [.data (.slc true none 2 (List.map TChain.en l6_2.Chains)), iv l6_2.Mark]), (.o 4, [.data (.slc false none 2 (List.map TChain.en l6_3.Chains)), iv l6_3.Mark]), (.o 2064, [.data (.slc false none 1 (List.map e_u8 r9_2.l)), iv r9_2.n])]) (by kernel_rfl) (.cons (Asks.of (C := Meets Try.prog) (diwanplay_Picks_Num.meets 3 l6_4 _ _ h9_3)) .nil) (by kernel_rfl) ?_
        obtain ⟨⟨r10_1, r10_2⟩, h10_3, h⟩ := bd_inv h
        obtain ⟨r10_4, h10_5, h⟩ := bd_inv h
        refine WK.rs (g := [.a ⟨.data (TTxn.ag_0011 r10_1), [[.data (.slc false none 1 (List.map e_u8 r10_2.l)), iv r10_2.n]]⟩, .a ⟨.data (.agg [.slc true none 2 (List.map TChain.en r10_4.Chains), .val (.int .i64 r10_4.Mark)]), []⟩]) (l' := [(.t 2, [.ptr 2 0]), (.t 3, [.ptr 2064 0]), (.t 4, [.ptr 4 0]), (.t 5, [iv (w64 ((w64 (l6_0 + 1)) + r9_1))]), (.t 6, [iv l6_1]), (.o 2, [.data (.slc true none 2 (List.map TChain.en l6_2.Chains)), iv l6_2.Mark]), (.o 4, [.data (.slc true none 2 (List.map TChain.en r10_4.Chains)), iv r10_4.Mark]), (.o 2064, [.data (.slc false none 1 (List.map e_u8 r10_2.l)), iv r10_2.n])]) (by kernel_rfl) (.cons (Asks.of (C := Meets Try.prog) (diwanplay_Picks_Txn.meets fu 1 r9_2 _ _ h10_3)) (.cons (Asks.of (C := Meets Try.prog) (diwanref13_Write.meets fu l6_3 (w64 ((w64 (l6_0 + 1)) + r9_1)) r10_1.Writes _ h10_5)) (.cons (Eq.refl true) .nil))) (by kernel_rfl) ?_
        obtain ⟨⟨r11_1, r11_2⟩, h11_3, h⟩ := bd_inv h
        refine WK.rs (g := [.a ⟨iv r11_1, [[.data (.slc false none 1 (List.map e_u8 r11_2.l)), iv r11_2.n]]⟩]) (l' := [(.t 2, [.ptr 2 0]), (.t 3, [.ptr 2064 0]), (.t 4, [.ptr 4 0]), (.t 5, [iv (w64 ((w64 (l6_0 + 1)) + r9_1))]), (.t 6, [iv l6_1]), (.t 32, [bv (r11_1 == 0)]), (.o 2, [.data (.slc true none 2 (List.map TChain.en l6_2.Chains)), iv l6_2.Mark]), (.o 4, [.data (.slc true none 2 (List.map TChain.en r10_4.Chains)), iv r10_4.Mark]), (.o 2064, [.data (.slc false none 1 (List.map e_u8 r11_2.l)), iv r11_2.n])]) (by kernel_rfl) (.cons (Asks.of (C := Meets Try.prog) (diwanplay_Picks_Num.meets 9 r10_2 _ _ h11_3)) .nil) (by kernel_rfl) ?_
        rcases br_inv h with ⟨b12_0, h⟩ | ⟨b12_0, h⟩
        · refine WK.ct (b := (r11_1 == 0)) (by kernel_rfl) b12_0 ?_
          refine WK.shareO (i := 4) (cc := 0) (l' := [(.t 2, [.ptr 2 0]), (.t 3, [.ptr 2064 0]), (.t 4, [.ptr 4 0]), (.t 5, [iv (w64 ((w64 (l6_0 + 1)) + r9_1))]), (.t 6, [iv l6_1]), (.o 2, [.data (.slc true none 2 (List.map TChain.en l6_2.Chains)), iv l6_2.Mark]), (.o 4, [.data (.slc false none 2 (List.map TChain.en r10_4.Chains)), iv r10_4.Mark]), (.o 2064, [.data (.slc false none 1 (List.map e_u8 r11_2.l)), iv r11_2.n])]) (by kernel_rfl) (by kernel_rfl) (by kernel_rfl) ?_
          obtain ⟨⟨r13_1, r13_2⟩, h13_3, h⟩ := bd_inv h
          obtain ⟨r13_4, h13_5, h⟩ := bd_inv h
          refine WK.rc (g := [.a ⟨iv r13_1, [[.data (.slc false none 1 (List.map e_u8 r13_2.l)), iv r13_2.n]]⟩, .a ⟨.data (.agg [.slc false none 2 (List.map TChain.en r13_4.Chains), .val (.int .i64 r13_4.Mark)]), []⟩]) (l' := [(.t 2, [.ptr 2 0]), (.t 3, [.ptr 2064 0]), (.t 4, [.ptr 4 0]), (.t 5, [iv (w64 ((w64 (l6_0 + 1)) + r9_1))]), (.t 6, [iv l6_1]), (.o 2, [.data (.slc true none 2 (List.map TChain.en l6_2.Chains)), iv l6_2.Mark]), (.o 4, [.data (.slc false none 2 (List.map TChain.en r13_4.Chains)), iv r13_4.Mark]), (.o 2064, [.data (.slc false none 1 (List.map e_u8 r13_2.l)), iv r13_2.n])]) (.cons (Asks.of (C := Meets Try.prog) (diwanplay_Picks_Num.meets (w64 ((w64 ((w64 (l6_0 + 1)) + r9_1)) + 1)) r11_2 _ _ h13_3)) (.cons (Asks.of (C := Meets Try.prog) (diwanref13_Trim.meets fu r10_4 r13_1 _ h13_5)) (.cons (Eq.refl true) .nil))) (by kernel_rfl) (y := (cR (cR (cB (cB (cR (cL (cR (cR (cR (cR bd9))))))))))) (ks' := [.lp (cB (cR (cL (cR (cR (cR (cR bd9)))))))]) (by kernel_rfl) ?_
          refine WK.rc (g := []) (l' := [(.t 2, [.ptr 2 0]), (.t 3, [.ptr 2064 0]), (.t 4, [.ptr 4 0]), (.t 5, [iv (w64 ((w64 (l6_0 + 1)) + r9_1))]), (.t 6, [iv (w64 (l6_1 + 1))]), (.o 2, [.data (.slc true none 2 (List.map TChain.en l6_2.Chains)), iv l6_2.Mark]), (.o 4, [.data (.slc false none 2 (List.map TChain.en r13_4.Chains)), iv r13_4.Mark]), (.o 2064, [.data (.slc false none 1 (List.map e_u8 r13_2.l)), iv r13_2.n])]) .nil (by kernel_rfl) (y := (cB (cR (cL (cR (cR (cR (cR bd9)))))))) (ks' := []) (by kernel_rfl) ?_
          exact WK.weak (l := [(.t 2, [.ptr 2 0]), (.t 3, [.ptr 2064 0]), (.t 4, [.ptr 4 0]), (.t 5, [iv (w64 ((w64 (l6_0 + 1)) + r9_1))]), (.t 6, [iv (w64 (l6_1 + 1))]), (.o 2, [.data (.slc true none 2 (List.map TChain.en l6_2.Chains)), iv l6_2.Mark]), (.o 4, [.data (.slc false none 2 (List.map TChain.en r13_4.Chains)), iv r13_4.Mark]), (.o 2064, [.data (.slc false none 1 (List.map e_u8 r13_2.l)), iv r13_2.n])]) (wk_of (by kernel_rfl)) (ih (w64 ((w64 (l6_0 + 1)) + r9_1)) (w64 (l6_1 + 1)) r13_4 r13_2 _ h)
        · refine WK.ce (b := (r11_1 == 0)) (by kernel_rfl) b12_0 ?_
          refine WK.skip (by kernel_rfl) ?_
          refine WKe.code (y := (cR (cR (cB (cB (cR (cL (cR (cR (cR (cR bd9))))))))))) (ks' := [.lp (cB (cR (cL (cR (cR (cR (cR bd9)))))))]) (by kernel_rfl) ?_
          refine WK.rc (g := []) (l' := [(.t 2, [.ptr 2 0]), (.t 3, [.ptr 2064 0]), (.t 4, [.ptr 4 0]), (.t 5, [iv (w64 ((w64 (l6_0 + 1)) + r9_1))]), (.t 6, [iv (w64 (l6_1 + 1))]), (.o 2, [.data (.slc true none 2 (List.map TChain.en l6_2.Chains)), iv l6_2.Mark]), (.o 4, [.data (.slc true none 2 (List.map TChain.en r10_4.Chains)), iv r10_4.Mark]), (.o 2064, [.data (.slc false none 1 (List.map e_u8 r11_2.l)), iv r11_2.n])]) .nil (by kernel_rfl) (y := (cB (cR (cL (cR (cR (cR (cR bd9)))))))) (ks' := []) (by kernel_rfl) ?_
          refine WK.shareO (i := 4) (cc := 0) (l' := [(.t 2, [.ptr 2 0]), (.t 3, [.ptr 2064 0]), (.t 4, [.ptr 4 0]), (.t 5, [iv (w64 ((w64 (l6_0 + 1)) + r9_1))]), (.t 6, [iv (w64 (l6_1 + 1))]), (.o 2, [.data (.slc true none 2 (List.map TChain.en l6_2.Chains)), iv l6_2.Mark]), (.o 4, [.data (.slc false none 2 (List.map TChain.en r10_4.Chains)), iv r10_4.Mark]), (.o 2064, [.data (.slc false none 1 (List.map e_u8 r11_2.l)), iv r11_2.n])]) (by kernel_rfl) (by kernel_rfl) (by kernel_rfl) ?_
          exact WK.weak (l := [(.t 2, [.ptr 2 0]), (.t 3, [.ptr 2064 0]), (.t 4, [.ptr 4 0]), (.t 5, [iv (w64 ((w64 (l6_0 + 1)) + r9_1))]), (.t 6, [iv (w64 (l6_1 + 1))]), (.o 2, [.data (.slc true none 2 (List.map TChain.en l6_2.Chains)), iv l6_2.Mark]), (.o 4, [.data (.slc false none 2 (List.map TChain.en r10_4.Chains)), iv r10_4.Mark]), (.o 2064, [.data (.slc false none 1 (List.map e_u8 r11_2.l)), iv r11_2.n])]) (wk_of (by kernel_rfl)) (ih (w64 ((w64 (l6_0 + 1)) + r9_1)) (w64 (l6_1 + 1)) r10_4 r11_2 _ h)
      · refine WK.ce (b := (!r7_2)) (by kernel_rfl) b8_0 ?_
        refine WK.weak (l := [(.t 2, [.ptr 2 0]), (.t 4, [.ptr 4 0]), (.o 2, [.data (.slc true none 2 (List.map TChain.en l6_2.Chains)), iv l6_2.Mark]), (.o 4, [.data (.slc false none 2 (List.map TChain.en l6_3.Chains)), iv l6_3.Mark])]) (wk_of (by kernel_rfl)) ?_
        refine WK.exit (n := 0) (by kernel_rfl) ?_
        cases some_inj h
        exact WKe.fin (e' := .exit 0) (by kernel_rfl) ⟨rfl, rfl⟩
    · refine WK.rs (g := [.b false, .b false, .b false, .b false]) (l' := [(.t 2, [.ptr 2 0]), (.t 3, [.ptr 2064 0]), (.t 4, [.ptr 4 0]), (.t 5, [iv l6_0]), (.t 6, [iv l6_1]), (.t 16, [bv false]), (.o 2, [.data (.slc true none 2 (List.map TChain.en l6_2.Chains)), iv l6_2.Mark]), (.o 4, [.data (.slc false none 2 (List.map TChain.en l6_3.Chains)), iv l6_3.Mark]), (.o 2064, [.data (.slc false none 1 (List.map e_u8 l6_4.l)), iv l6_4.n])]) (by kernel_rfl) (.cons b7_1 (.cons b7_1 (.cons b7_1 (.cons b7_1 .nil)))) (by kernel_rfl) ?_
      refine WK.ce (b := false) (by kernel_rfl) rfl ?_
      refine WK.weak (l := [(.t 2, [.ptr 2 0]), (.t 4, [.ptr 4 0]), (.o 2, [.data (.slc true none 2 (List.map TChain.en l6_2.Chains)), iv l6_2.Mark]), (.o 4, [.data (.slc false none 2 (List.map TChain.en l6_3.Chains)), iv l6_3.Mark])]) (wk_of (by kernel_rfl)) ?_
      refine WK.exit (n := 0) (by kernel_rfl) ?_
      cases some_inj h
      exact WKe.fin (e' := .exit 0) (by kernel_rfl) ⟨rfl, rfl⟩
noncomputable def diwanlaw16_made (fu : Nat) (picks : List Int) : Option TStore :=
  bd (diwanplay_Made picks) fun r2_1 =>
  bd (diwanlaw16_made.lp6 fu (TStore.mk [] 0) fu 0 0 (TStore.mk [] 0) r2_1) fun y16_0 =>
  some y16_0
theorem diwanlaw16_made.meets (fu : Nat) (picks : List Int) (z0 : TStore) (h : diwanlaw16_made fu picks = some z0) : Meets Try.prog ⟨9, [.data (.slc false none 1 (List.map e_u8 picks))], []⟩ ⟨.data (.agg [.slc false none 2 (List.map TChain.en z0.Chains), .val (.int .i64 z0.Mark)]), []⟩ := by
  refine meets_of (O := diwanlaw16_made.O) hmix (fn := Try.f9) (code := bd9) (by kernel_rfl) ?_
  refine WK.weak (l := [(.t 0, [.data (.slc false none 1 (List.map e_u8 picks))])]) (wk_of (by kernel_rfl)) ?_
  unfold diwanlaw16_made at h
  refine WK.rs (g := []) (l' := [(.t 0, [.data (.slc false none 1 (List.map e_u8 picks))]), (.t 2, [.ptr 2 0]), (.o 2, [.data (.slc true none 2 (List.map TChain.en [])), iv 0])]) (by kernel_rfl) .nil (by kernel_rfl) ?_
  obtain ⟨r2_1, h2_2, h⟩ := bd_inv h
  refine WK.rs (g := [.a ⟨.ptr 1000 0, [[.data (.slc false none 1 (List.map e_u8 r2_1.l)), iv r2_1.n]]⟩]) (l' := [(.t 2, [.ptr 2 0]), (.t 3, [.ptr 2064 0]), (.o 2, [.data (.slc true none 2 (List.map TChain.en [])), iv 0]), (.o 2064, [.data (.slc false none 1 (List.map e_u8 r2_1.l)), iv r2_1.n])]) (by kernel_rfl) (.cons (Asks.of (C := Meets Try.prog) (diwanplay_Made.meets picks _ h2_2)) .nil) (by kernel_rfl) ?_
  refine WK.rs (g := []) (l' := [(.t 2, [.ptr 2 0]), (.t 3, [.ptr 2064 0]), (.t 4, [.ptr 4 0]), (.o 2, [.data (.slc true none 2 (List.map TChain.en [])), iv 0]), (.o 4, [.data (.slc true none 2 (List.map TChain.en [])), iv 0]), (.o 2064, [.data (.slc false none 1 (List.map e_u8 r2_1.l)), iv r2_1.n])]) (by kernel_rfl) .nil (by kernel_rfl) ?_
  refine WK.rs (g := []) (l' := [(.t 2, [.ptr 2 0]), (.t 3, [.ptr 2064 0]), (.t 4, [.ptr 4 0]), (.t 5, [iv 0]), (.o 2, [.data (.slc true none 2 (List.map TChain.en [])), iv 0]), (.o 4, [.data (.slc true none 2 (List.map TChain.en [])), iv 0]), (.o 2064, [.data (.slc false none 1 (List.map e_u8 r2_1.l)), iv r2_1.n])]) (by kernel_rfl) .nil (by kernel_rfl) ?_
  refine WK.seq (by kernel_rfl) ?_
  refine WK.rs (g := []) (l' := [(.t 2, [.ptr 2 0]), (.t 3, [.ptr 2064 0]), (.t 4, [.ptr 4 0]), (.t 5, [iv 0]), (.t 6, [iv 0]), (.o 2, [.data (.slc true none 2 (List.map TChain.en [])), iv 0]), (.o 4, [.data (.slc true none 2 (List.map TChain.en [])), iv 0]), (.o 2064, [.data (.slc false none 1 (List.map e_u8 r2_1.l)), iv r2_1.n])]) (by kernel_rfl) .nil (by kernel_rfl) ?_
  refine WK.block (n := 0) (by kernel_rfl) ?_
  obtain ⟨o16, ho16, h⟩ := bd_inv h
  refine WK.shareO (i := 4) (cc := 0) (l' := [(.t 2, [.ptr 2 0]), (.t 3, [.ptr 2064 0]), (.t 4, [.ptr 4 0]), (.t 5, [iv 0]), (.t 6, [iv 0]), (.o 2, [.data (.slc true none 2 (List.map TChain.en [])), iv 0]), (.o 4, [.data (.slc false none 2 (List.map TChain.en [])), iv 0]), (.o 2064, [.data (.slc false none 1 (List.map e_u8 r2_1.l)), iv r2_1.n])]) (by kernel_rfl) (by kernel_rfl) (by kernel_rfl) ?_
  refine WK.weak (l := [(.t 2, [.ptr 2 0]), (.t 3, [.ptr 2064 0]), (.t 4, [.ptr 4 0]), (.t 5, [iv 0]), (.t 6, [iv 0]), (.o 2, [.data (.slc true none 2 (List.map TChain.en [])), iv 0]), (.o 4, [.data (.slc false none 2 (List.map TChain.en [])), iv 0]), (.o 2064, [.data (.slc false none 1 (List.map e_u8 r2_1.l)), iv r2_1.n])]) (wk_of (by kernel_rfl)) ?_
  refine WK.use (diwanlaw16_made.lp6_ok fu (TStore.mk [] 0) _ 0 0 (TStore.mk [] 0) r2_1 _ ho16) ?_
  intro e_ τ_ hp_
  obtain ⟨y16_0, rfl⟩ : ∃ y, y = o16 := ⟨_, rfl⟩
  obtain ⟨rfl, rfl⟩ := hp_
  refine WKe.code (y := (cR (cR (cR (cR (cR bd9)))))) (ks' := []) (by kernel_rfl) ?_
  refine WK.rs (g := []) (l' := [(.t 2, [.ptr 2 0]), (.o 2, [.data (.slc false none 2 (List.map TChain.en y16_0.Chains)), iv y16_0.Mark])]) (by kernel_rfl) .nil (by kernel_rfl) ?_
  refine WK.weak (l := [(.t 2, [.ptr 2 0]), (.o 2, [.data (.slc false none 2 (List.map TChain.en y16_0.Chains)), iv y16_0.Mark])]) (wk_of (by kernel_rfl)) ?_
  refine WK.ret (by kernel_rfl) ?_
  have h_ := some_inj h
  subst h_
  exact WKe.fin (e' := .ret) (by kernel_rfl) (fin_of (g := []) (by first | exact .inl rfl | exact .inr rfl) .nil (by kernel_rfl))
/-- diwan/diwanlaw16.StoreSpan -/
noncomputable def bd6 : Code := (Try.f6.body).getD .skip
def diwanlaw16_StoreSpan.O : Nat → Nat := fun t => bif ([8, 9, 10, 11, 12, 13, 14, 15, 16, 17, 18, 19, 26, 27, 64] : List Nat).any (Nat.beq t) then 1 else 0
noncomputable def diwanlaw16_StoreSpan.lp15 (fu : Nat) (l15_0 : List ByteArray) (l15_1 : ByteArray) (l15_2 : ByteArray) (l15_3 : Int) (l15_4 : List TRead) (l15_5 : Int) (l15_8 : TStore) : Nat → Int → Int → Option (Int ⊕ Unit)
  | 0, _, _ => none
  | n_ + 1, l15_6, l15_7 =>
    br (decide (l15_7 < 7))
      (ix l15_0 l15_7 fun x18_1 =>
      bd (store_Get fu l15_8 x18_1 l15_3) fun (r18_4, r18_5) =>
      br (r18_5 != 0)
        (some (.inr ()))
        (ix l15_0 l15_7 fun x19_2 =>
        br (!(r18_4.Key.toList == x19_2.toList))
          (some (.inr ()))
          (jn (
            br (decide (l15_6 ≥ (l15_4.length : Int)))
              (some (.inr ()))
              (ix l15_4 l15_6 fun x29_2 =>
              br (!((x29_2.Key.toList == r18_4.Key.toList) && ((x29_2.Version == r18_4.Version) && ((x29_2.Val.toList == r18_4.Val.toList) && ((x29_2.There == r18_4.There) && true)))))
                (some (.inr ()))
                (diwanlaw16_StoreSpan.lp15 fu l15_0 l15_1 l15_2 l15_3 l15_4 l15_5 l15_8 n_ (w64 (l15_6 + 1)) (w64 (l15_7 + 1))))) fun k28 =>
          br (!r18_4.There)
            (diwanlaw16_StoreSpan.lp15 fu l15_0 l15_1 l15_2 l15_3 l15_4 l15_5 l15_8 n_ l15_6 (w64 (l15_7 + 1)))
            (ix l15_0 l15_7 fun x23_2 =>
            br (Op.bytesLess x23_2.toList l15_1.toList)
              (diwanlaw16_StoreSpan.lp15 fu l15_0 l15_1 l15_2 l15_3 l15_4 l15_5 l15_8 n_ l15_6 (w64 (l15_7 + 1)))
              (br (!(l15_2.toList == ByteArray.empty.toList))
                (ix l15_0 l15_7 fun x23_7 =>
                br (!(Op.bytesLess x23_7.toList l15_2.toList))
                  (diwanlaw16_StoreSpan.lp15 fu l15_0 l15_1 l15_2 l15_3 l15_4 l15_5 l15_8 n_ l15_6 (w64 (l15_7 + 1)))
                  (k28))
                (k28))))))
      (some (.inl l15_6))
noncomputable def diwanlaw16_StoreSpan.lp15_post (l15_0 : List ByteArray) (l15_1 : ByteArray) (l15_2 : ByteArray) (l15_3 : Int) (l15_4 : List TRead) (l15_5 : Int) (l15_8 : TStore) (r_ : (Int ⊕ Unit)) : Wy → St → Prop := fun e τ => match r_ with
  | .inl y0 => e = .exit 0 ∧ τ = ofL [(.t 14, [.data (.slc false none 4 (List.map TRead.en l15_4))]), (.t 15, [iv l15_5]), (.t 16, [iv y0])]
  | .inr _ => e = .ret ∧ τ = ofL [(.t 8, [bv false])]
theorem diwanlaw16_StoreSpan.lp15_ok (fu : Nat) (l15_0 : List ByteArray) (l15_1 : ByteArray) (l15_2 : ByteArray) (l15_3 : Int) (l15_4 : List TRead) (l15_5 : Int) (l15_8 : TStore) : ∀ (n_ : Nat) (l15_6 : Int) (l15_7 : Int) (r_ : (Int ⊕ Unit)), diwanlaw16_StoreSpan.lp15 fu l15_0 l15_1 l15_2 l15_3 l15_4 l15_5 l15_8 n_ l15_6 l15_7 = some r_ → WK Try.prog diwanlaw16_StoreSpan.O (Ck Try.prog) (cB (cR (cL (cR (cR (cR (cR (cR (cR (cR (cR (cR bd6)))))))))))) [] (ofL [(.t 9, [.ptr 9 0]), (.t 10, [.data (.slc true (some false) 1 (List.map e_s l15_0))]), (.t 11, [sv l15_1]), (.t 12, [sv l15_2]), (.t 13, [iv l15_3]), (.t 14, [.data (.slc false none 4 (List.map TRead.en l15_4))]), (.t 15, [iv l15_5]), (.t 16, [iv l15_6]), (.t 17, [iv l15_7]), (.o 9, [.data (.slc false none 2 (List.map TChain.en l15_8.Chains)), iv l15_8.Mark])]) (diwanlaw16_StoreSpan.lp15_post l15_0 l15_1 l15_2 l15_3 l15_4 l15_5 l15_8 r_) := by
  intro n_
  induction n_ with
  | zero => intro l15_6 l15_7 r_ h; exact no_none h
  | succ n_ ih =>
    intro l15_6 l15_7 r_ h
    refine WK.loop (by kernel_rfl) ?_
    refine WK.seq (by kernel_rfl) ?_
    refine WK.rs (g := []) (l' := [(.t 9, [.ptr 9 0]), (.t 10, [.data (.slc true (some false) 1 (List.map e_s l15_0))]), (.t 11, [sv l15_1]), (.t 12, [sv l15_2]), (.t 13, [iv l15_3]), (.t 14, [.data (.slc false none 4 (List.map TRead.en l15_4))]), (.t 15, [iv l15_5]), (.t 16, [iv l15_6]), (.t 17, [iv l15_7]), (.t 53, [bv (decide (l15_7 < 7))]), (.o 9, [.data (.slc false none 2 (List.map TChain.en l15_8.Chains)), iv l15_8.Mark])]) (by kernel_rfl) .nil (by kernel_rfl) ?_
    rcases br_inv h with ⟨b17_0, h⟩ | ⟨b17_0, h⟩
    · refine WK.ct (b := (decide (l15_7 < 7))) (by kernel_rfl) b17_0 ?_
      refine WK.skip (by kernel_rfl) ?_
      refine WKe.code (y := (cR (cB (cB (cR (cL (cR (cR (cR (cR (cR (cR (cR (cR (cR bd6))))))))))))))) (ks' := [.lp (cB (cR (cL (cR (cR (cR (cR (cR (cR (cR (cR (cR bd6))))))))))))]) (by kernel_rfl) ?_
      refine WK.seq (by kernel_rfl) ?_
      refine WK.block (n := 1) (by kernel_rfl) ?_
      obtain ⟨x18_1, a18_2, e18_3, h⟩ := ix_inv h
      obtain ⟨⟨r18_4, r18_5⟩, h18_6, h⟩ := bd_inv h
      refine WK.rs (g := [.c (e_s x18_1), .a ⟨.tup [.data (TRead.ag r18_4), iv r18_5], []⟩]) (l' := [(.t 9, [.ptr 9 0]), (.t 10, [.data (.slc true (some false) 1 (List.map e_s l15_0))]), (.t 11, [sv l15_1]), (.t 12, [sv l15_2]), (.t 13, [iv l15_3]), (.t 14, [.data (.slc false none 4 (List.map TRead.en l15_4))]), (.t 15, [iv l15_5]), (.t 16, [iv l15_6]), (.t 17, [iv l15_7]), (.t 18, [.ptr 18 0]), (.t 19, [iv r18_5]), (.o 9, [.data (.slc false none 2 (List.map TChain.en l15_8.Chains)), iv l15_8.Mark]), (.o 18, (TRead.ob r18_4))]) (by kernel_rfl) (.cons (c_ix (e := e_s) a18_2 e18_3) (.cons (c_el (e := e_s) e18_3) (.cons (Asks.of (C := Meets Try.prog) (store_Get.meets fu l15_8 x18_1 l15_3 _ _ h18_6)) (.cons (Eq.refl true) .nil)))) (by kernel_rfl) ?_
      refine WK.seq (by kernel_rfl) ?_
      rcases br_inv h with ⟨b19_1, h⟩ | ⟨b19_1, h⟩
      · refine WK.rs (g := [.b true, .b true, .b true, .b true, .b true, .b true, .b true, .b true]) (l' := [(.t 9, [.ptr 9 0]), (.t 10, [.data (.slc true (some false) 1 (List.map e_s l15_0))]), (.t 11, [sv l15_1]), (.t 12, [sv l15_2]), (.t 13, [iv l15_3]), (.t 14, [.data (.slc false none 4 (List.map TRead.en l15_4))]), (.t 15, [iv l15_5]), (.t 16, [iv l15_6]), (.t 17, [iv l15_7]), (.t 18, [.ptr 18 0]), (.t 76, [bv true]), (.o 9, [.data (.slc false none 2 (List.map TChain.en l15_8.Chains)), iv l15_8.Mark]), (.o 18, (TRead.ob r18_4))]) (by kernel_rfl) (.cons b19_1 (.cons b19_1 (.cons b19_1 (.cons b19_1 (.cons b19_1 (.cons b19_1 (.cons b19_1 (.cons b19_1 (.cons (Eq.refl true) .nil))))))))) (by kernel_rfl) ?_
        refine WK.ct (b := true) (by kernel_rfl) rfl ?_
        refine WK.rs (g := []) (l' := [(.t 8, [bv false])]) (by kernel_rfl) .nil (by kernel_rfl) ?_
        refine WK.weak (l := [(.t 8, [bv false])]) (wk_of (by kernel_rfl)) ?_
        refine WK.ret (by kernel_rfl) ?_
        cases some_inj h
        exact WKe.fin (e' := .ret) (by kernel_rfl) ⟨rfl, rfl⟩
      · obtain ⟨x19_2, a19_3, e19_4, h⟩ := ix_inv h
        refine WK.rs (g := [.b false, .b false, .b false, .b false, .b false, .b false, .c (e_s x19_2), .b false, .b false]) (l' := [(.t 9, [.ptr 9 0]), (.t 10, [.data (.slc true (some false) 1 (List.map e_s l15_0))]), (.t 11, [sv l15_1]), (.t 12, [sv l15_2]), (.t 13, [iv l15_3]), (.t 14, [.data (.slc false none 4 (List.map TRead.en l15_4))]), (.t 15, [iv l15_5]), (.t 16, [iv l15_6]), (.t 17, [iv l15_7]), (.t 18, [.ptr 18 0]), (.t 76, [bv (!(r18_4.Key.toList == x19_2.toList))]), (.o 9, [.data (.slc false none 2 (List.map TChain.en l15_8.Chains)), iv l15_8.Mark]), (.o 18, (TRead.ob r18_4))]) (by kernel_rfl) (.cons b19_1 (.cons b19_1 (.cons b19_1 (.cons b19_1 (.cons b19_1 (.cons (c_ix (e := e_s) a19_3 e19_4) (.cons b19_1 (.cons (c_el (e := e_s) e19_4) (.cons b19_1 (.cons b19_1 (.cons (Eq.refl true) .nil))))))))))) (by kernel_rfl) ?_
        rcases br_inv h with ⟨b21_0, h⟩ | ⟨b21_0, h⟩
        · refine WK.ct (b := (!(r18_4.Key.toList == x19_2.toList))) (by kernel_rfl) b21_0 ?_
          refine WK.rs (g := []) (l' := [(.t 8, [bv false])]) (by kernel_rfl) .nil (by kernel_rfl) ?_
          refine WK.weak (l := [(.t 8, [bv false])]) (wk_of (by kernel_rfl)) ?_
          refine WK.ret (by kernel_rfl) ?_
          cases some_inj h
          exact WKe.fin (e' := .ret) (by kernel_rfl) ⟨rfl, rfl⟩
        · refine WK.ce (b := (!(r18_4.Key.toList == x19_2.toList))) (by kernel_rfl) b21_0 ?_
          refine WK.skip (by kernel_rfl) ?_
          refine WKe.code (y := (cR (cR (cB (cL (cR (cB (cB (cR (cL (cR (cR (cR (cR (cR (cR (cR (cR (cR bd6))))))))))))))))))) (ks' := [.blk 1, .seq (cR (cR (cB (cB (cR (cL (cR (cR (cR (cR (cR (cR (cR (cR (cR bd6))))))))))))))), .lp (cB (cR (cL (cR (cR (cR (cR (cR (cR (cR (cR (cR bd6))))))))))))]) (by kernel_rfl) ?_
          obtain ⟨k28, hk28, h⟩ := jn_inv h
          have Jk28 : k28 = some r_ → WK Try.prog diwanlaw16_StoreSpan.O (Ck Try.prog) (cR (cR (cR (cB (cL (cR (cB (cB (cR (cL (cR (cR (cR (cR (cR (cR (cR (cR (cR bd6))))))))))))))))))) [.blk 1, .seq (cR (cR (cB (cB (cR (cL (cR (cR (cR (cR (cR (cR (cR (cR (cR bd6))))))))))))))), .lp (cB (cR (cL (cR (cR (cR (cR (cR (cR (cR (cR (cR bd6))))))))))))] (ofL [(.t 9, [.ptr 9 0]), (.t 10, [.data (.slc true (some false) 1 (List.map e_s l15_0))]), (.t 11, [sv l15_1]), (.t 12, [sv l15_2]), (.t 13, [iv l15_3]), (.t 14, [.data (.slc false none 4 (List.map TRead.en l15_4))]), (.t 15, [iv l15_5]), (.t 16, [iv l15_6]), (.t 17, [iv l15_7]), (.t 18, [.ptr 18 0]), (.o 9, [.data (.slc false none 2 (List.map TChain.en l15_8.Chains)), iv l15_8.Mark]), (.o 18, (TRead.ob r18_4))]) (diwanlaw16_StoreSpan.lp15_post l15_0 l15_1 l15_2 l15_3 l15_4 l15_5 l15_8 r_) := by
            intro h
            rw [hk28] at h
            refine WK.seq (by kernel_rfl) ?_
            rcases br_inv h with ⟨b29_1, h⟩ | ⟨b29_1, h⟩
            · refine WK.rs (g := [.s (.t 102) [iv (l15_4.length : Int)], .b true, .b true, .b true, .b true, .b true, .b true, .b true]) (l' := [(.t 9, [.ptr 9 0]), (.t 10, [.data (.slc true (some false) 1 (List.map e_s l15_0))]), (.t 11, [sv l15_1]), (.t 12, [sv l15_2]), (.t 13, [iv l15_3]), (.t 14, [.data (.slc false none 4 (List.map TRead.en l15_4))]), (.t 15, [iv l15_5]), (.t 16, [iv l15_6]), (.t 17, [iv l15_7]), (.t 111, [bv true]), (.o 9, [.data (.slc false none 2 (List.map TChain.en l15_8.Chains)), iv l15_8.Mark])]) (by kernel_rfl) (.cons (c_len (e := TRead.en) (l := l15_4)) (.cons b29_1 (.cons b29_1 (.cons b29_1 (.cons b29_1 (.cons b29_1 (.cons b29_1 (.cons b29_1 (.cons (Eq.refl true) .nil))))))))) (by kernel_rfl) ?_
              refine WK.ct (b := true) (by kernel_rfl) rfl ?_
              refine WK.rs (g := []) (l' := [(.t 8, [bv false])]) (by kernel_rfl) .nil (by kernel_rfl) ?_
              refine WK.weak (l := [(.t 8, [bv false])]) (wk_of (by kernel_rfl)) ?_
              refine WK.ret (by kernel_rfl) ?_
              cases some_inj h
              exact WKe.fin (e' := .ret) (by kernel_rfl) ⟨rfl, rfl⟩
            · obtain ⟨x29_2, a29_3, e29_4, h⟩ := ix_inv h
              refine WK.rs (g := [.s (.t 102) [iv (l15_4.length : Int)], .b false, .b false, .b false, .c (TRead.en x29_2), .b false, .b false, .b false, .b false]) (l' := [(.t 9, [.ptr 9 0]), (.t 10, [.data (.slc true (some false) 1 (List.map e_s l15_0))]), (.t 11, [sv l15_1]), (.t 12, [sv l15_2]), (.t 13, [iv l15_3]), (.t 14, [.data (.slc false none 4 (List.map TRead.en l15_4))]), (.t 15, [iv l15_5]), (.t 16, [iv l15_6]), (.t 17, [iv l15_7]), (.t 111, [bv (!((x29_2.Key.toList == r18_4.Key.toList) && ((x29_2.Version == r18_4.Version) && ((x29_2.Val.toList == r18_4.Val.toList) && ((x29_2.There == r18_4.There) && true)))))]), (.o 9, [.data (.slc false none 2 (List.map TChain.en l15_8.Chains)), iv l15_8.Mark])]) (by kernel_rfl) (.cons (c_len (e := TRead.en) (l := l15_4)) (.cons b29_1 (.cons b29_1 (.cons b29_1 (.cons (c_ix (e := TRead.en) a29_3 e29_4) (.cons (c_el (e := TRead.en) e29_4) (.cons b29_1 (.cons b29_1 (.cons b29_1 (.cons b29_1 (.cons (Eq.refl true) .nil))))))))))) (by kernel_rfl) ?_
              rcases br_inv h with ⟨b31_0, h⟩ | ⟨b31_0, h⟩
              · refine WK.ct (b := (!((x29_2.Key.toList == r18_4.Key.toList) && ((x29_2.Version == r18_4.Version) && ((x29_2.Val.toList == r18_4.Val.toList) && ((x29_2.There == r18_4.There) && true)))))) (by kernel_rfl) b31_0 ?_
                refine WK.rs (g := []) (l' := [(.t 8, [bv false])]) (by kernel_rfl) .nil (by kernel_rfl) ?_
                refine WK.weak (l := [(.t 8, [bv false])]) (wk_of (by kernel_rfl)) ?_
                refine WK.ret (by kernel_rfl) ?_
                cases some_inj h
                exact WKe.fin (e' := .ret) (by kernel_rfl) ⟨rfl, rfl⟩
              · refine WK.ce (b := (!((x29_2.Key.toList == r18_4.Key.toList) && ((x29_2.Version == r18_4.Version) && ((x29_2.Val.toList == r18_4.Val.toList) && ((x29_2.There == r18_4.There) && true)))))) (by kernel_rfl) b31_0 ?_
                refine WK.skip (by kernel_rfl) ?_
                refine WKe.code (y := (cR (cR (cR (cR (cB (cL (cR (cB (cB (cR (cL (cR (cR (cR (cR (cR (cR (cR (cR (cR bd6))))))))))))))))))))) (ks' := [.blk 1, .seq (cR (cR (cB (cB (cR (cL (cR (cR (cR (cR (cR (cR (cR (cR (cR bd6))))))))))))))), .lp (cB (cR (cL (cR (cR (cR (cR (cR (cR (cR (cR (cR bd6))))))))))))]) (by kernel_rfl) ?_
                refine WK.rc (g := []) (l' := [(.t 9, [.ptr 9 0]), (.t 10, [.data (.slc true (some false) 1 (List.map e_s l15_0))]), (.t 11, [sv l15_1]), (.t 12, [sv l15_2]), (.t 13, [iv l15_3]), (.t 14, [.data (.slc false none 4 (List.map TRead.en l15_4))]), (.t 15, [iv l15_5]), (.t 16, [iv (w64 (l15_6 + 1))]), (.t 17, [iv l15_7]), (.o 9, [.data (.slc false none 2 (List.map TChain.en l15_8.Chains)), iv l15_8.Mark])]) .nil (by kernel_rfl) (y := (cR (cR (cB (cB (cR (cL (cR (cR (cR (cR (cR (cR (cR (cR (cR bd6)))))))))))))))) (ks' := [.lp (cB (cR (cL (cR (cR (cR (cR (cR (cR (cR (cR (cR bd6))))))))))))]) (by kernel_rfl) ?_
                refine WK.rc (g := []) (l' := [(.t 9, [.ptr 9 0]), (.t 10, [.data (.slc true (some false) 1 (List.map e_s l15_0))]), (.t 11, [sv l15_1]), (.t 12, [sv l15_2]), (.t 13, [iv l15_3]), (.t 14, [.data (.slc false none 4 (List.map TRead.en l15_4))]), (.t 15, [iv l15_5]), (.t 16, [iv (w64 (l15_6 + 1))]), (.t 17, [iv (w64 (l15_7 + 1))]), (.o 9, [.data (.slc false none 2 (List.map TChain.en l15_8.Chains)), iv l15_8.Mark])]) .nil (by kernel_rfl) (y := (cB (cR (cL (cR (cR (cR (cR (cR (cR (cR (cR (cR bd6))))))))))))) (ks' := []) (by kernel_rfl) ?_
                exact WK.weak (l := [(.t 9, [.ptr 9 0]), (.t 10, [.data (.slc true (some false) 1 (List.map e_s l15_0))]), (.t 11, [sv l15_1]), (.t 12, [sv l15_2]), (.t 13, [iv l15_3]), (.t 14, [.data (.slc false none 4 (List.map TRead.en l15_4))]), (.t 15, [iv l15_5]), (.t 16, [iv (w64 (l15_6 + 1))]), (.t 17, [iv (w64 (l15_7 + 1))]), (.o 9, [.data (.slc false none 2 (List.map TChain.en l15_8.Chains)), iv l15_8.Mark])]) (wk_of (by kernel_rfl)) (ih (w64 (l15_6 + 1)) (w64 (l15_7 + 1)) _ h)
          clear hk28
          refine WK.seq (by kernel_rfl) ?_
          rcases br_inv h with ⟨b23_1, h⟩ | ⟨b23_1, h⟩
          · refine WK.rs (g := [.b true, .b true, .b true, .b true, .b true, .b true, .b true, .b true, .b true, .b true, .b true, .b true]) (l' := [(.t 9, [.ptr 9 0]), (.t 10, [.data (.slc true (some false) 1 (List.map e_s l15_0))]), (.t 11, [sv l15_1]), (.t 12, [sv l15_2]), (.t 13, [iv l15_3]), (.t 14, [.data (.slc false none 4 (List.map TRead.en l15_4))]), (.t 15, [iv l15_5]), (.t 16, [iv l15_6]), (.t 17, [iv l15_7]), (.t 18, [.ptr 18 0]), (.t 99, [bv true]), (.o 9, [.data (.slc false none 2 (List.map TChain.en l15_8.Chains)), iv l15_8.Mark]), (.o 18, (TRead.ob r18_4))]) (by kernel_rfl) (.cons b23_1 (.cons b23_1 (.cons b23_1 (.cons b23_1 (.cons b23_1 (.cons b23_1 (.cons b23_1 (.cons (Eq.refl true) (.cons (Eq.refl true) (.cons (Eq.refl true) (.cons (Eq.refl true) (.cons (Eq.refl true) .nil)))))))))))) (by kernel_rfl) ?_
            refine WK.ct (b := true) (by kernel_rfl) rfl ?_
            refine WK.exit (n := 1) (by kernel_rfl) ?_
            refine WKe.code (y := (cR (cR (cB (cB (cR (cL (cR (cR (cR (cR (cR (cR (cR (cR (cR bd6)))))))))))))))) (ks' := [.lp (cB (cR (cL (cR (cR (cR (cR (cR (cR (cR (cR (cR bd6))))))))))))]) (by kernel_rfl) ?_
            refine WK.rc (g := []) (l' := [(.t 9, [.ptr 9 0]), (.t 10, [.data (.slc true (some false) 1 (List.map e_s l15_0))]), (.t 11, [sv l15_1]), (.t 12, [sv l15_2]), (.t 13, [iv l15_3]), (.t 14, [.data (.slc false none 4 (List.map TRead.en l15_4))]), (.t 15, [iv l15_5]), (.t 16, [iv l15_6]), (.t 17, [iv (w64 (l15_7 + 1))]), (.o 9, [.data (.slc false none 2 (List.map TChain.en l15_8.Chains)), iv l15_8.Mark])]) .nil (by kernel_rfl) (y := (cB (cR (cL (cR (cR (cR (cR (cR (cR (cR (cR (cR bd6))))))))))))) (ks' := []) (by kernel_rfl) ?_
            exact WK.weak (l := [(.t 9, [.ptr 9 0]), (.t 10, [.data (.slc true (some false) 1 (List.map e_s l15_0))]), (.t 11, [sv l15_1]), (.t 12, [sv l15_2]), (.t 13, [iv l15_3]), (.t 14, [.data (.slc false none 4 (List.map TRead.en l15_4))]), (.t 15, [iv l15_5]), (.t 16, [iv l15_6]), (.t 17, [iv (w64 (l15_7 + 1))]), (.o 9, [.data (.slc false none 2 (List.map TChain.en l15_8.Chains)), iv l15_8.Mark])]) (wk_of (by kernel_rfl)) (ih l15_6 (w64 (l15_7 + 1)) _ h)
          · obtain ⟨x23_2, a23_3, e23_4, h⟩ := ix_inv h
            rcases br_inv h with ⟨b23_5, h⟩ | ⟨b23_5, h⟩
            · refine WK.rs (g := [.b false, .b false, .b false, .b false, .c (e_s x23_2), .b false, .b false, .b false, .b true, .b true, .b true, .b true, .b true]) (l' := [(.t 9, [.ptr 9 0]), (.t 10, [.data (.slc true (some false) 1 (List.map e_s l15_0))]), (.t 11, [sv l15_1]), (.t 12, [sv l15_2]), (.t 13, [iv l15_3]), (.t 14, [.data (.slc false none 4 (List.map TRead.en l15_4))]), (.t 15, [iv l15_5]), (.t 16, [iv l15_6]), (.t 17, [iv l15_7]), (.t 18, [.ptr 18 0]), (.t 99, [bv true]), (.o 9, [.data (.slc false none 2 (List.map TChain.en l15_8.Chains)), iv l15_8.Mark]), (.o 18, (TRead.ob r18_4))]) (by kernel_rfl) (.cons b23_1 (.cons b23_1 (.cons b23_1 (.cons (c_ix (e := e_s) a23_3 e23_4) (.cons b23_1 (.cons (c_el (e := e_s) e23_4) (.cons b23_1 (.cons b23_1 (.cons b23_1 (.cons b23_5 (.cons b23_5 (.cons b23_5 (.cons b23_5 (.cons b23_5 .nil)))))))))))))) (by kernel_rfl) ?_
              refine WK.ct (b := true) (by kernel_rfl) rfl ?_
              refine WK.exit (n := 1) (by kernel_rfl) ?_
              refine WKe.code (y := (cR (cR (cB (cB (cR (cL (cR (cR (cR (cR (cR (cR (cR (cR (cR bd6)))))))))))))))) (ks' := [.lp (cB (cR (cL (cR (cR (cR (cR (cR (cR (cR (cR (cR bd6))))))))))))]) (by kernel_rfl) ?_
              refine WK.rc (g := []) (l' := [(.t 9, [.ptr 9 0]), (.t 10, [.data (.slc true (some false) 1 (List.map e_s l15_0))]), (.t 11, [sv l15_1]), (.t 12, [sv l15_2]), (.t 13, [iv l15_3]), (.t 14, [.data (.slc false none 4 (List.map TRead.en l15_4))]), (.t 15, [iv l15_5]), (.t 16, [iv l15_6]), (.t 17, [iv (w64 (l15_7 + 1))]), (.o 9, [.data (.slc false none 2 (List.map TChain.en l15_8.Chains)), iv l15_8.Mark])]) .nil (by kernel_rfl) (y := (cB (cR (cL (cR (cR (cR (cR (cR (cR (cR (cR (cR bd6))))))))))))) (ks' := []) (by kernel_rfl) ?_
              exact WK.weak (l := [(.t 9, [.ptr 9 0]), (.t 10, [.data (.slc true (some false) 1 (List.map e_s l15_0))]), (.t 11, [sv l15_1]), (.t 12, [sv l15_2]), (.t 13, [iv l15_3]), (.t 14, [.data (.slc false none 4 (List.map TRead.en l15_4))]), (.t 15, [iv l15_5]), (.t 16, [iv l15_6]), (.t 17, [iv (w64 (l15_7 + 1))]), (.o 9, [.data (.slc false none 2 (List.map TChain.en l15_8.Chains)), iv l15_8.Mark])]) (wk_of (by kernel_rfl)) (ih l15_6 (w64 (l15_7 + 1)) _ h)
            · rcases br_inv h with ⟨b23_6, h⟩ | ⟨b23_6, h⟩
              · obtain ⟨x23_7, a23_8, e23_9, h⟩ := ix_inv h
                refine WK.rs (g := [.b false, .b false, .b false, .b false, .c (e_s x23_2), .b false, .b false, .b false, .b false, .b false, .b false, .b true, .b true, .b true, .b true, .c (e_s x23_7), .b true, .b true, .b false, .b true, .b false]) (l' := [(.t 9, [.ptr 9 0]), (.t 10, [.data (.slc true (some false) 1 (List.map e_s l15_0))]), (.t 11, [sv l15_1]), (.t 12, [sv l15_2]), (.t 13, [iv l15_3]), (.t 14, [.data (.slc false none 4 (List.map TRead.en l15_4))]), (.t 15, [iv l15_5]), (.t 16, [iv l15_6]), (.t 17, [iv l15_7]), (.t 18, [.ptr 18 0]), (.t 99, [bv (!(Op.bytesLess x23_7.toList l15_2.toList))]), (.o 9, [.data (.slc false none 2 (List.map TChain.en l15_8.Chains)), iv l15_8.Mark]), (.o 18, (TRead.ob r18_4))]) (by kernel_rfl) (.cons b23_1 (.cons b23_1 (.cons b23_1 (.cons (c_ix (e := e_s) a23_3 e23_4) (.cons b23_1 (.cons (c_el (e := e_s) e23_4) (.cons b23_1 (.cons b23_1 (.cons b23_1 (.cons b23_5 (.cons b23_5 (.cons b23_5 (.cons b23_6 (.cons b23_6 (.cons b23_6 (.cons (c_ix (e := e_s) a23_8 e23_9) (.cons b23_6 (.cons (c_el (e := e_s) e23_9) (.cons b23_6 (.cons b23_6 (.cons b23_5 (.cons b23_6 (.cons b23_5 .nil))))))))))))))))))))))) (by kernel_rfl) ?_
                rcases br_inv h with ⟨b26_0, h⟩ | ⟨b26_0, h⟩
                · refine WK.ct (b := (!(Op.bytesLess x23_7.toList l15_2.toList))) (by kernel_rfl) b26_0 ?_
                  refine WK.exit (n := 1) (by kernel_rfl) ?_
                  refine WKe.code (y := (cR (cR (cB (cB (cR (cL (cR (cR (cR (cR (cR (cR (cR (cR (cR bd6)))))))))))))))) (ks' := [.lp (cB (cR (cL (cR (cR (cR (cR (cR (cR (cR (cR (cR bd6))))))))))))]) (by kernel_rfl) ?_
                  refine WK.rc (g := []) (l' := [(.t 9, [.ptr 9 0]), (.t 10, [.data (.slc true (some false) 1 (List.map e_s l15_0))]), (.t 11, [sv l15_1]), (.t 12, [sv l15_2]), (.t 13, [iv l15_3]), (.t 14, [.data (.slc false none 4 (List.map TRead.en l15_4))]), (.t 15, [iv l15_5]), (.t 16, [iv l15_6]), (.t 17, [iv (w64 (l15_7 + 1))]), (.o 9, [.data (.slc false none 2 (List.map TChain.en l15_8.Chains)), iv l15_8.Mark])]) .nil (by kernel_rfl) (y := (cB (cR (cL (cR (cR (cR (cR (cR (cR (cR (cR (cR bd6))))))))))))) (ks' := []) (by kernel_rfl) ?_
                  exact WK.weak (l := [(.t 9, [.ptr 9 0]), (.t 10, [.data (.slc true (some false) 1 (List.map e_s l15_0))]), (.t 11, [sv l15_1]), (.t 12, [sv l15_2]), (.t 13, [iv l15_3]), (.t 14, [.data (.slc false none 4 (List.map TRead.en l15_4))]), (.t 15, [iv l15_5]), (.t 16, [iv l15_6]), (.t 17, [iv (w64 (l15_7 + 1))]), (.o 9, [.data (.slc false none 2 (List.map TChain.en l15_8.Chains)), iv l15_8.Mark])]) (wk_of (by kernel_rfl)) (ih l15_6 (w64 (l15_7 + 1)) _ h)
                · refine WK.ce (b := (!(Op.bytesLess x23_7.toList l15_2.toList))) (by kernel_rfl) b26_0 ?_
                  refine WK.skip (by kernel_rfl) ?_
                  refine WKe.code (y := (cR (cR (cR (cB (cL (cR (cB (cB (cR (cL (cR (cR (cR (cR (cR (cR (cR (cR (cR bd6)))))))))))))))))))) (ks' := [.blk 1, .seq (cR (cR (cB (cB (cR (cL (cR (cR (cR (cR (cR (cR (cR (cR (cR bd6))))))))))))))), .lp (cB (cR (cL (cR (cR (cR (cR (cR (cR (cR (cR (cR bd6))))))))))))]) (by kernel_rfl) ?_
                  exact WK.weak (l := [(.t 9, [.ptr 9 0]), (.t 10, [.data (.slc true (some false) 1 (List.map e_s l15_0))]), (.t 11, [sv l15_1]), (.t 12, [sv l15_2]), (.t 13, [iv l15_3]), (.t 14, [.data (.slc false none 4 (List.map TRead.en l15_4))]), (.t 15, [iv l15_5]), (.t 16, [iv l15_6]), (.t 17, [iv l15_7]), (.t 18, [.ptr 18 0]), (.o 9, [.data (.slc false none 2 (List.map TChain.en l15_8.Chains)), iv l15_8.Mark]), (.o 18, (TRead.ob r18_4))]) (wk_of (by kernel_rfl)) (Jk28 h)
              · refine WK.rs (g := [.b false, .b false, .b false, .b false, .c (e_s x23_2), .b false, .b false, .b false, .b false, .b false, .b false, .b false, .b false, .b false, .b false, .b false, .b false, .b false, .b false, .b false]) (l' := [(.t 9, [.ptr 9 0]), (.t 10, [.data (.slc true (some false) 1 (List.map e_s l15_0))]), (.t 11, [sv l15_1]), (.t 12, [sv l15_2]), (.t 13, [iv l15_3]), (.t 14, [.data (.slc false none 4 (List.map TRead.en l15_4))]), (.t 15, [iv l15_5]), (.t 16, [iv l15_6]), (.t 17, [iv l15_7]), (.t 18, [.ptr 18 0]), (.t 99, [bv false]), (.o 9, [.data (.slc false none 2 (List.map TChain.en l15_8.Chains)), iv l15_8.Mark]), (.o 18, (TRead.ob r18_4))]) (by kernel_rfl) (.cons b23_1 (.cons b23_1 (.cons b23_1 (.cons (c_ix (e := e_s) a23_3 e23_4) (.cons b23_1 (.cons (c_el (e := e_s) e23_4) (.cons b23_1 (.cons b23_1 (.cons b23_1 (.cons b23_5 (.cons b23_5 (.cons b23_5 (.cons b23_6 (.cons b23_6 (.cons b23_6 (.cons b23_6 (.cons b23_6 (.cons b23_6 (.cons b23_5 (.cons b23_6 (.cons b23_5 .nil))))))))))))))))))))) (by kernel_rfl) ?_
                refine WK.ce (b := false) (by kernel_rfl) rfl ?_
                refine WK.skip (by kernel_rfl) ?_
                refine WKe.code (y := (cR (cR (cR (cB (cL (cR (cB (cB (cR (cL (cR (cR (cR (cR (cR (cR (cR (cR (cR bd6)))))))))))))))))))) (ks' := [.blk 1, .seq (cR (cR (cB (cB (cR (cL (cR (cR (cR (cR (cR (cR (cR (cR (cR bd6))))))))))))))), .lp (cB (cR (cL (cR (cR (cR (cR (cR (cR (cR (cR (cR bd6))))))))))))]) (by kernel_rfl) ?_
                exact WK.weak (l := [(.t 9, [.ptr 9 0]), (.t 10, [.data (.slc true (some false) 1 (List.map e_s l15_0))]), (.t 11, [sv l15_1]), (.t 12, [sv l15_2]), (.t 13, [iv l15_3]), (.t 14, [.data (.slc false none 4 (List.map TRead.en l15_4))]), (.t 15, [iv l15_5]), (.t 16, [iv l15_6]), (.t 17, [iv l15_7]), (.t 18, [.ptr 18 0]), (.o 9, [.data (.slc false none 2 (List.map TChain.en l15_8.Chains)), iv l15_8.Mark]), (.o 18, (TRead.ob r18_4))]) (wk_of (by kernel_rfl)) (Jk28 h)
    · refine WK.ce (b := (decide (l15_7 < 7))) (by kernel_rfl) b17_0 ?_
      refine WK.weak (l := [(.t 14, [.data (.slc false none 4 (List.map TRead.en l15_4))]), (.t 15, [iv l15_5]), (.t 16, [iv l15_6])]) (wk_of (by kernel_rfl)) ?_
      refine WK.exit (n := 0) (by kernel_rfl) ?_
      cases some_inj h
      exact WKe.fin (e' := .exit 0) (by kernel_rfl) ⟨rfl, rfl⟩
noncomputable def diwanlaw16_StoreSpan (fu : Nat) (picks : List Int) (a : Int) (b : Int) (pos : Int) : Option Bool :=
  bd (diwanlaw16_begun fu) fun r2_1 =>
  br (!r2_1)
    (some false)
    (br (decide ((picks.length : Int) > 150))
      (some true)
      (bd (diwanlaw16_made fu picks) fun r8_1 =>
      ix ([ByteArray.empty, (⟨#[97]⟩ : ByteArray), (⟨#[98]⟩ : ByteArray), (⟨#[99]⟩ : ByteArray), (⟨#[100]⟩ : ByteArray), (⟨#[101, 101]⟩ : ByteArray), (⟨#[102, 102]⟩ : ByteArray), (⟨#[122]⟩ : ByteArray)] : List ByteArray) (Int.tmod a 8) fun x10_1 =>
      ix ([ByteArray.empty, (⟨#[97]⟩ : ByteArray), (⟨#[98]⟩ : ByteArray), (⟨#[99]⟩ : ByteArray), (⟨#[100]⟩ : ByteArray), (⟨#[101, 101]⟩ : ByteArray), (⟨#[102, 102]⟩ : ByteArray), (⟨#[122]⟩ : ByteArray)] : List ByteArray) (Int.tmod b 8) fun x10_4 =>
      bd (store_Span fu r8_1 x10_1 x10_4 (w64 (r8_1.Mark + (w64 (Int.tmod pos 30))))) fun (r12_1, r12_2) =>
      bd (diwanlaw16_StoreSpan.lp15 fu ([ByteArray.empty, (⟨#[97]⟩ : ByteArray), (⟨#[98]⟩ : ByteArray), (⟨#[99]⟩ : ByteArray), (⟨#[100]⟩ : ByteArray), (⟨#[101, 101]⟩ : ByteArray), (⟨#[102, 102]⟩ : ByteArray), (⟨#[122]⟩ : ByteArray)] : List ByteArray) x10_1 x10_4 (w64 (r8_1.Mark + (w64 (Int.tmod pos 30)))) r12_1 r12_2 r8_1 fu 0 1) fun o_ => (match o_ with
      | .inl y35_0 =>
        br (r12_2 == 0)
          (some (y35_0 == (r12_1.length : Int)))
          (some false)
      | .inr _ =>
        some false)))
theorem diwanlaw16_StoreSpan.meets (fu : Nat) (picks : List Int) (a : Int) (b : Int) (pos : Int) (z0 : Bool) (h : diwanlaw16_StoreSpan fu picks a b pos = some z0) : Meets Try.prog ⟨6, [.data (.slc false none 1 (List.map e_u8 picks)), .data (.val (.int .u8 a)), .data (.val (.int .u8 b)), .data (.val (.int .u8 pos))], []⟩ ⟨bv z0, []⟩ := by
  refine meets_of (O := diwanlaw16_StoreSpan.O) hmix (fn := Try.f6) (code := bd6) (by kernel_rfl) ?_
  refine WK.weak (l := [(.t 0, [.data (.slc false none 1 (List.map e_u8 picks))]), (.t 1, [.data (.val (.int .u8 a))]), (.t 2, [.data (.val (.int .u8 b))]), (.t 3, [.data (.val (.int .u8 pos))])]) (wk_of (by kernel_rfl)) ?_
  unfold diwanlaw16_StoreSpan at h
  refine WK.rs (g := []) (l' := [(.t 0, [.data (.slc false none 1 (List.map e_u8 picks))]), (.t 1, [.data (.val (.int .u8 a))]), (.t 2, [.data (.val (.int .u8 b))]), (.t 3, [.data (.val (.int .u8 pos))])]) (by kernel_rfl) .nil (by kernel_rfl) ?_
  refine WK.seq (by kernel_rfl) ?_
  obtain ⟨r2_1, h2_2, h⟩ := bd_inv h
  refine WK.rs (g := [.a ⟨bv r2_1, []⟩]) (l' := [(.t 0, [.data (.slc false none 1 (List.map e_u8 picks))]), (.t 1, [.data (.val (.int .u8 a))]), (.t 2, [.data (.val (.int .u8 b))]), (.t 3, [.data (.val (.int .u8 pos))]), (.t 21, [bv (!r2_1)])]) (by kernel_rfl) (.cons (Asks.of (C := Meets Try.prog) (diwanlaw16_begun.meets fu _ h2_2)) .nil) (by kernel_rfl) ?_
  rcases br_inv h with ⟨b3_0, h⟩ | ⟨b3_0, h⟩
  · refine WK.ct (b := (!r2_1)) (by kernel_rfl) b3_0 ?_
    refine WK.rs (g := []) (l' := [(.t 8, [bv false])]) (by kernel_rfl) .nil (by kernel_rfl) ?_
    refine WK.weak (l := [(.t 8, [bv false])]) (wk_of (by kernel_rfl)) ?_
    refine WK.ret (by kernel_rfl) ?_
    have h_ := some_inj h
    subst h_
    exact WKe.fin (e' := .ret) (by kernel_rfl) (fin_of (g := []) (by first | exact .inl rfl | exact .inr rfl) .nil (by kernel_rfl))
  · refine WK.ce (b := (!r2_1)) (by kernel_rfl) b3_0 ?_
    refine WK.skip (by kernel_rfl) ?_
    refine WKe.code (y := (cR (cR bd6))) (ks' := []) (by kernel_rfl) ?_
    refine WK.seq (by kernel_rfl) ?_
    refine WK.rs (g := [.s (.t 23) [iv (picks.length : Int)]]) (l' := [(.t 0, [.data (.slc false none 1 (List.map e_u8 picks))]), (.t 1, [.data (.val (.int .u8 a))]), (.t 2, [.data (.val (.int .u8 b))]), (.t 3, [.data (.val (.int .u8 pos))]), (.t 24, [bv (decide ((picks.length : Int) > 150))])]) (by kernel_rfl) (.cons (c_len (e := e_u8) (l := picks)) .nil) (by kernel_rfl) ?_
    rcases br_inv h with ⟨b6_0, h⟩ | ⟨b6_0, h⟩
    · refine WK.ct (b := (decide ((picks.length : Int) > 150))) (by kernel_rfl) b6_0 ?_
      refine WK.rs (g := []) (l' := [(.t 8, [bv true])]) (by kernel_rfl) .nil (by kernel_rfl) ?_
      refine WK.weak (l := [(.t 8, [bv true])]) (wk_of (by kernel_rfl)) ?_
      refine WK.ret (by kernel_rfl) ?_
      have h_ := some_inj h
      subst h_
      exact WKe.fin (e' := .ret) (by kernel_rfl) (fin_of (g := []) (by first | exact .inl rfl | exact .inr rfl) .nil (by kernel_rfl))
    · refine WK.ce (b := (decide ((picks.length : Int) > 150))) (by kernel_rfl) b6_0 ?_
      refine WK.skip (by kernel_rfl) ?_
      refine WKe.code (y := (cR (cR (cR bd6)))) (ks' := []) (by kernel_rfl) ?_
      obtain ⟨r8_1, h8_2, h⟩ := bd_inv h
      refine WK.rs (g := [.a ⟨.data (.agg [.slc false none 2 (List.map TChain.en r8_1.Chains), .val (.int .i64 r8_1.Mark)]), []⟩]) (l' := [(.t 1, [.data (.val (.int .u8 a))]), (.t 2, [.data (.val (.int .u8 b))]), (.t 3, [.data (.val (.int .u8 pos))]), (.t 9, [.ptr 9 0]), (.o 9, [.data (.slc false none 2 (List.map TChain.en r8_1.Chains)), iv r8_1.Mark])]) (by kernel_rfl) (.cons (Asks.of (C := Meets Try.prog) (diwanlaw16_made.meets fu picks _ h8_2)) .nil) (by kernel_rfl) ?_
      refine WK.rs (g := []) (l' := [(.t 1, [.data (.val (.int .u8 a))]), (.t 2, [.data (.val (.int .u8 b))]), (.t 3, [.data (.val (.int .u8 pos))]), (.t 9, [.ptr 9 0]), (.t 10, [.data (.slc true (some false) 1 (List.map e_s ([ByteArray.empty, (⟨#[97]⟩ : ByteArray), (⟨#[98]⟩ : ByteArray), (⟨#[99]⟩ : ByteArray), (⟨#[100]⟩ : ByteArray), (⟨#[101, 101]⟩ : ByteArray), (⟨#[102, 102]⟩ : ByteArray), (⟨#[122]⟩ : ByteArray)] : List ByteArray)))]), (.o 9, [.data (.slc false none 2 (List.map TChain.en r8_1.Chains)), iv r8_1.Mark])]) (by kernel_rfl) .nil (by kernel_rfl) ?_
      obtain ⟨x10_1, a10_2, e10_3, h⟩ := ix_inv h
      obtain ⟨x10_4, a10_5, e10_6, h⟩ := ix_inv h
      refine WK.rs (g := [.c (e_s x10_1), .c (e_s x10_4)]) (l' := [(.t 3, [.data (.val (.int .u8 pos))]), (.t 9, [.ptr 9 0]), (.t 10, [.data (.slc true (some false) 1 (List.map e_s ([ByteArray.empty, (⟨#[97]⟩ : ByteArray), (⟨#[98]⟩ : ByteArray), (⟨#[99]⟩ : ByteArray), (⟨#[100]⟩ : ByteArray), (⟨#[101, 101]⟩ : ByteArray), (⟨#[102, 102]⟩ : ByteArray), (⟨#[122]⟩ : ByteArray)] : List ByteArray)))]), (.t 11, [sv x10_1]), (.t 12, [sv x10_4]), (.o 9, [.data (.slc false none 2 (List.map TChain.en r8_1.Chains)), iv r8_1.Mark])]) (by kernel_rfl) (.cons (Eq.refl true) (.cons (c_ix (e := e_s) a10_2 e10_3) (.cons (c_el (e := e_s) e10_3) (.cons (Eq.refl true) (.cons (c_ix (e := e_s) a10_5 e10_6) (.cons (c_el (e := e_s) e10_6) (.cons (Eq.refl true) .nil))))))) (by kernel_rfl) ?_
      refine WK.rs (g := []) (l' := [(.t 9, [.ptr 9 0]), (.t 10, [.data (.slc true (some false) 1 (List.map e_s ([ByteArray.empty, (⟨#[97]⟩ : ByteArray), (⟨#[98]⟩ : ByteArray), (⟨#[99]⟩ : ByteArray), (⟨#[100]⟩ : ByteArray), (⟨#[101, 101]⟩ : ByteArray), (⟨#[102, 102]⟩ : ByteArray), (⟨#[122]⟩ : ByteArray)] : List ByteArray)))]), (.t 11, [sv x10_1]), (.t 12, [sv x10_4]), (.t 13, [iv (w64 (r8_1.Mark + (w64 (Int.tmod pos 30))))]), (.o 9, [.data (.slc false none 2 (List.map TChain.en r8_1.Chains)), iv r8_1.Mark])]) (by kernel_rfl) (.cons (Eq.refl true) .nil) (by kernel_rfl) ?_
      obtain ⟨⟨r12_1, r12_2⟩, h12_3, h⟩ := bd_inv h
      refine WK.rs (g := [.a ⟨.tup [.data (.slc false none 4 (List.map TRead.en r12_1)), iv r12_2], []⟩]) (l' := [(.t 9, [.ptr 9 0]), (.t 10, [.data (.slc true (some false) 1 (List.map e_s ([ByteArray.empty, (⟨#[97]⟩ : ByteArray), (⟨#[98]⟩ : ByteArray), (⟨#[99]⟩ : ByteArray), (⟨#[100]⟩ : ByteArray), (⟨#[101, 101]⟩ : ByteArray), (⟨#[102, 102]⟩ : ByteArray), (⟨#[122]⟩ : ByteArray)] : List ByteArray)))]), (.t 11, [sv x10_1]), (.t 12, [sv x10_4]), (.t 13, [iv (w64 (r8_1.Mark + (w64 (Int.tmod pos 30))))]), (.t 14, [.data (.slc false none 4 (List.map TRead.en r12_1))]), (.t 15, [iv r12_2]), (.o 9, [.data (.slc false none 2 (List.map TChain.en r8_1.Chains)), iv r8_1.Mark])]) (by kernel_rfl) (.cons (Asks.of (C := Meets Try.prog) (store_Span.meets fu r8_1 x10_1 x10_4 (w64 (r8_1.Mark + (w64 (Int.tmod pos 30)))) _ _ h12_3)) .nil) (by kernel_rfl) ?_
      refine WK.rs (g := []) (l' := [(.t 9, [.ptr 9 0]), (.t 10, [.data (.slc true (some false) 1 (List.map e_s ([ByteArray.empty, (⟨#[97]⟩ : ByteArray), (⟨#[98]⟩ : ByteArray), (⟨#[99]⟩ : ByteArray), (⟨#[100]⟩ : ByteArray), (⟨#[101, 101]⟩ : ByteArray), (⟨#[102, 102]⟩ : ByteArray), (⟨#[122]⟩ : ByteArray)] : List ByteArray)))]), (.t 11, [sv x10_1]), (.t 12, [sv x10_4]), (.t 13, [iv (w64 (r8_1.Mark + (w64 (Int.tmod pos 30))))]), (.t 14, [.data (.slc false none 4 (List.map TRead.en r12_1))]), (.t 15, [iv r12_2]), (.t 16, [iv 0]), (.o 9, [.data (.slc false none 2 (List.map TChain.en r8_1.Chains)), iv r8_1.Mark])]) (by kernel_rfl) .nil (by kernel_rfl) ?_
      refine WK.seq (by kernel_rfl) ?_
      refine WK.rs (g := []) (l' := [(.t 9, [.ptr 9 0]), (.t 10, [.data (.slc true (some false) 1 (List.map e_s ([ByteArray.empty, (⟨#[97]⟩ : ByteArray), (⟨#[98]⟩ : ByteArray), (⟨#[99]⟩ : ByteArray), (⟨#[100]⟩ : ByteArray), (⟨#[101, 101]⟩ : ByteArray), (⟨#[102, 102]⟩ : ByteArray), (⟨#[122]⟩ : ByteArray)] : List ByteArray)))]), (.t 11, [sv x10_1]), (.t 12, [sv x10_4]), (.t 13, [iv (w64 (r8_1.Mark + (w64 (Int.tmod pos 30))))]), (.t 14, [.data (.slc false none 4 (List.map TRead.en r12_1))]), (.t 15, [iv r12_2]), (.t 16, [iv 0]), (.t 17, [iv 1]), (.o 9, [.data (.slc false none 2 (List.map TChain.en r8_1.Chains)), iv r8_1.Mark])]) (by kernel_rfl) .nil (by kernel_rfl) ?_
      refine WK.block (n := 0) (by kernel_rfl) ?_
      obtain ⟨o35, ho35, h⟩ := bd_inv h
      refine WK.weak (l := [(.t 9, [.ptr 9 0]), (.t 10, [.data (.slc true (some false) 1 (List.map e_s ([ByteArray.empty, (⟨#[97]⟩ : ByteArray), (⟨#[98]⟩ : ByteArray), (⟨#[99]⟩ : ByteArray), (⟨#[100]⟩ : ByteArray), (⟨#[101, 101]⟩ : ByteArray), (⟨#[102, 102]⟩ : ByteArray), (⟨#[122]⟩ : ByteArray)] : List ByteArray)))]), (.t 11, [sv x10_1]), (.t 12, [sv x10_4]), (.t 13, [iv (w64 (r8_1.Mark + (w64 (Int.tmod pos 30))))]), (.t 14, [.data (.slc false none 4 (List.map TRead.en r12_1))]), (.t 15, [iv r12_2]), (.t 16, [iv 0]), (.t 17, [iv 1]), (.o 9, [.data (.slc false none 2 (List.map TChain.en r8_1.Chains)), iv r8_1.Mark])]) (wk_of (by kernel_rfl)) ?_
      refine WK.use (diwanlaw16_StoreSpan.lp15_ok fu ([ByteArray.empty, (⟨#[97]⟩ : ByteArray), (⟨#[98]⟩ : ByteArray), (⟨#[99]⟩ : ByteArray), (⟨#[100]⟩ : ByteArray), (⟨#[101, 101]⟩ : ByteArray), (⟨#[102, 102]⟩ : ByteArray), (⟨#[122]⟩ : ByteArray)] : List ByteArray) x10_1 x10_4 (w64 (r8_1.Mark + (w64 (Int.tmod pos 30)))) r12_1 r12_2 r8_1 _ 0 1 _ ho35) ?_
      intro e_ τ_ hp_
      rcases o35 with o35 | o35
      · obtain ⟨y35_0, rfl⟩ : ∃ y, y = o35 := ⟨_, rfl⟩
        obtain ⟨rfl, rfl⟩ := hp_
        refine WKe.code (y := (cR (cR (cR (cR (cR (cR (cR (cR (cR (cR bd6))))))))))) (ks' := []) (by kernel_rfl) ?_
        rcases br_inv h with ⟨b36_1, h⟩ | ⟨b36_1, h⟩
        · refine WK.rs (g := [.b true, .b true, .b true, .s (.t 119) [iv (r12_1.length : Int)], .b true, .b true]) (l' := [(.t 8, [bv (y35_0 == (r12_1.length : Int))])]) (by kernel_rfl) (.cons b36_1 (.cons b36_1 (.cons b36_1 (.cons (c_len (e := TRead.en) (l := r12_1)) (.cons b36_1 (.cons b36_1 .nil)))))) (by kernel_rfl) ?_
          refine WK.weak (l := [(.t 8, [bv (y35_0 == (r12_1.length : Int))])]) (wk_of (by kernel_rfl)) ?_
          refine WK.ret (by kernel_rfl) ?_
          have h_ := some_inj h
          subst h_
          exact WKe.fin (e' := .ret) (by kernel_rfl) (fin_of (g := []) (by first | exact .inl rfl | exact .inr rfl) .nil (by kernel_rfl))
        · refine WK.rs (g := [.b false, .b false, .b false, .b false, .b false]) (l' := [(.t 8, [bv false])]) (by kernel_rfl) (.cons b36_1 (.cons b36_1 (.cons b36_1 (.cons b36_1 (.cons b36_1 .nil))))) (by kernel_rfl) ?_
          refine WK.weak (l := [(.t 8, [bv false])]) (wk_of (by kernel_rfl)) ?_
          refine WK.ret (by kernel_rfl) ?_
          have h_ := some_inj h
          subst h_
          exact WKe.fin (e' := .ret) (by kernel_rfl) (fin_of (g := []) (by first | exact .inl rfl | exact .inr rfl) .nil (by kernel_rfl))
      · obtain ⟨⟩ := o35
        obtain ⟨rfl, rfl⟩ := hp_
        have h_ := some_inj h
        subst h_
        exact WKe.fin (e' := .ret) (by kernel_rfl) (fin_of (g := []) (by first | exact .inl rfl | exact .inr rfl) .nil (by kernel_rfl))
end Go.Proofs.Ytjahlppmahjplaa.Told
