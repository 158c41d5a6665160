/- Functions of the program told as Lean functions, with the walks of their code in the machine by value. -/
import Derived.Test.YthpokjkbcdfhiaaProg
import Derived.Test.YthpokjkbcdfhiaaVam2
import Derived.Test.YthpokjkbcdfhiaaToldRaftFormsp2
namespace Go.Proofs.Ythpokjkbcdfhiaa.Told
open Go Go.Proofs Go.Proofs.Ythpokjkbcdfhiaa Go.Proofs.Ythpokjkbcdfhiaa.Vam
set_option linter.unusedVariables false
set_option maxRecDepth 100000
/-- diwan/raft.Take -/
noncomputable def bd25 : Code := (Try.f25.body).getD .skip
def raft_Take.O : Nat → Nat := fun t => bif ([2, 3, 4, 6, 7, 8, 9, 14, 15] : List Nat).any (Nat.beq t) then 1 else bif ([20] : List Nat).any (Nat.beq t) then 6 else 0
noncomputable def raft_Take (fu : Nat) (r_v : TRaft) (m : TMsg) : Option (TRaft × List TMsg) :=
  bd (raft_twin fu r_v) fun r3_1 =>
  br (m.Kind == 1)
    (bd (raft_May fu r_v) fun r5_1 =>
    br (!r5_1)
      (some (r3_1, []))
      (br (decide (m.From < 1))
        (some (r3_1, []))
        (br (decide (m.From > r_v.Nodes))
          (some (r3_1, []))
          (br (m.From == r_v.Me)
            (some (r3_1, []))
            (br (m.To != r_v.Me)
              (some (r3_1, []))
              (jn (fun (j15_2 : TMember) =>
                bd (raft_member_askVote m j15_2) fun r16_1 =>
                some (r16_1.Raft, r16_1.out)) fun k15 =>
              br (decide (m.Term > r3_1.Term))
                (bd (raft_member_yields m.Term (TMember.mk r3_1 [])) fun r14_1 =>
                k15 r14_1)
                (k15 (TMember.mk r3_1 []))))))))
    (br (m.Kind == 2)
      (bd (raft_May fu r_v) fun r18_1 =>
      br (!r18_1)
        (some (r3_1, []))
        (br (decide (m.From < 1))
          (some (r3_1, []))
          (br (decide (m.From > r_v.Nodes))
            (some (r3_1, []))
            (br (m.From == r_v.Me)
              (some (r3_1, []))
              (br (m.To != r_v.Me)
                (some (r3_1, []))
                (jn (fun (j28_2 : TMember) =>
                  bd (raft_member_vote fu m j28_2) fun r29_1 =>
                  some (r29_1.Raft, r29_1.out)) fun k28 =>
                br (decide (m.Term > r3_1.Term))
                  (bd (raft_member_yields m.Term (TMember.mk r3_1 [])) fun r27_1 =>
                  k28 r27_1)
                  (k28 (TMember.mk r3_1 []))))))))
      (br (m.Kind == 3)
        (bd (raft_May fu r_v) fun r31_1 =>
        br (!r31_1)
          (some (r3_1, []))
          (br (decide (m.From < 1))
            (some (r3_1, []))
            (br (decide (m.From > r_v.Nodes))
              (some (r3_1, []))
              (br (m.From == r_v.Me)
                (some (r3_1, []))
                (br (m.To != r_v.Me)
                  (some (r3_1, []))
                  (jn (fun (j41_2 : TMember) =>
                    bd (raft_member_append fu m j41_2) fun r42_1 =>
                    some (r42_1.Raft, r42_1.out)) fun k41 =>
                  br (decide (m.Term > r3_1.Term))
                    (bd (raft_member_yields m.Term (TMember.mk r3_1 [])) fun r40_1 =>
                    k41 r40_1)
                    (k41 (TMember.mk r3_1 []))))))))
        (br (m.Kind == 4)
          (bd (raft_May fu r_v) fun r44_1 =>
          br (!r44_1)
            (some (r3_1, []))
            (br (decide (m.From < 1))
              (some (r3_1, []))
              (br (decide (m.From > r_v.Nodes))
                (some (r3_1, []))
                (br (m.From == r_v.Me)
                  (some (r3_1, []))
                  (br (m.To != r_v.Me)
                    (some (r3_1, []))
                    (jn (fun (j54_2 : TMember) =>
                      bd (raft_member_appended fu m j54_2) fun r55_1 =>
                      some (r55_1.Raft, r55_1.out)) fun k54 =>
                    br (decide (m.Term > r3_1.Term))
                      (bd (raft_member_yields m.Term (TMember.mk r3_1 [])) fun r53_1 =>
                      k54 r53_1)
                      (k54 (TMember.mk r3_1 []))))))))
          (some (r3_1, [])))))
theorem raft_Take.meets (fu : Nat) (r_v : TRaft) (m : TMsg) (z0 : TRaft) (z1 : List TMsg) (h : raft_Take fu r_v m = some (z0, z1)) : Meets Try.prog ⟨25, [.data (TRaft.ag r_v), .data (TMsg.ag m)], []⟩ ⟨.tup [.data (TRaft.ag z0), .data (.slc false none 24 (List.map TMsg.en z1))], []⟩ := by
  refine meets_of (O := raft_Take.O) hmix (fn := Try.f25) (code := bd25) (by kernel_rfl) ?_
  refine WK.weak (l := [(.t 0, [.data (TRaft.ag r_v)]), (.t 1, [.data (TMsg.ag m)])]) (wk_of (by kernel_rfl)) ?_
  unfold raft_Take at h
  refine WK.rs (g := []) (l' := [(.t 2, [.ptr 2 0]), (.t 3, [.ptr 3 0]), (.t 4, [.ptr 4 0]), (.o 2, (TRaft.ob r_v)), (.o 3, (TMsg.ob m)), (.o 4, (TRaft.ob_000001000111 (TRaft.mk 0 0 0 0 0 [] 0 0 0 [] [] [] 0)))]) (by kernel_rfl) .nil (by kernel_rfl) ?_
  refine WK.rs (g := []) (l' := [(.t 2, [.ptr 2 0]), (.t 3, [.ptr 3 0]), (.t 4, [.ptr 4 0]), (.t 6, [.data (.mp 2 [(.int .i64 1, .func (.func 50) #[] #[]), (.int .i64 2, .func (.func 51) #[] #[]), (.int .i64 3, .func (.func 52) #[] #[]), (.int .i64 4, .func (.func 53) #[] #[])])]), (.o 2, (TRaft.ob r_v)), (.o 3, (TMsg.ob m)), (.o 4, (TRaft.ob_000001000111 (TRaft.mk 0 0 0 0 0 [] 0 0 0 [] [] [] 0)))]) (by kernel_rfl) .nil (by kernel_rfl) ?_
  obtain ⟨r3_1, h3_2, h⟩ := bd_inv h
  refine WK.rs (g := [.a ⟨.data (TRaft.ag_000001000111 r3_1), []⟩]) (l' := [(.t 2, [.ptr 2 0]), (.t 3, [.ptr 3 0]), (.t 4, [.ptr 4 0]), (.t 6, [.data (.mp 2 [(.int .i64 1, .func (.func 50) #[] #[]), (.int .i64 2, .func (.func 51) #[] #[]), (.int .i64 3, .func (.func 52) #[] #[]), (.int .i64 4, .func (.func 53) #[] #[])])]), (.t 7, [.ptr 15 0]), (.o 2, (TRaft.ob r_v)), (.o 3, (TMsg.ob m)), (.o 4, (TRaft.ob_000001000111 (TRaft.mk 0 0 0 0 0 [] 0 0 0 [] [] [] 0))), (.o 15, (TMember.ob_00000100011101 (TMember.mk r3_1 [])))]) (by kernel_rfl) (.cons (Asks.of (C := Meets Try.prog) (raft_twin.meets fu r_v _ h3_2)) .nil) (by kernel_rfl) ?_
  rcases br_inv h with ⟨b4_1, h⟩ | ⟨b4_1, h⟩
  · refine WK.rs (g := [.b true]) (l' := [(.t 2, [.ptr 2 0]), (.t 3, [.ptr 3 0]), (.t 4, [.ptr 4 0]), (.t 7, [.ptr 15 0]), (.t 8, [.fn (.func 50) [] []]), (.t 9, [bv true]), (.o 2, (TRaft.ob r_v)), (.o 3, (TMsg.ob m)), (.o 4, (TRaft.ob_000001000111 (TRaft.mk 0 0 0 0 0 [] 0 0 0 [] [] [] 0))), (.o 15, (TMember.ob_00000100011101 (TMember.mk r3_1 [])))]) (by kernel_rfl) (.cons b4_1 .nil) (by kernel_rfl) ?_
    refine WK.seq (by kernel_rfl) ?_
    obtain ⟨r5_1, h5_2, h⟩ := bd_inv h
    rcases br_inv h with ⟨b5_3, h⟩ | ⟨b5_3, h⟩
    · refine WK.rs (g := [.b false, .b false, .a ⟨bv r5_1, []⟩, .b false, .b false, .b true, .b true, .b true, .b true, .b true, .b true, .b true, .b true, .b true, .b true, .b true, .b true, .b true, .b true, .b true, .b true, .b true, .b true, .b true, .b true, .b true, .b true]) (l' := [(.t 3, [.ptr 3 0]), (.t 4, [.ptr 4 0]), (.t 7, [.ptr 15 0]), (.t 8, [.fn (.func 50) [] []]), (.t 55, [bv true]), (.o 3, (TMsg.ob m)), (.o 4, (TRaft.ob_000001000111 (TRaft.mk 0 0 0 0 0 [] 0 0 0 [] [] [] 0))), (.o 15, (TMember.ob_00000100011101 (TMember.mk r3_1 [])))]) (by kernel_rfl) (.cons (Eq.refl false) (.cons (Eq.refl false) (.cons (Asks.of (C := Meets Try.prog) (raft_May.meets fu r_v _ h5_2)) (.cons (Eq.refl false) (.cons (Eq.refl false) (.cons b5_3 (.cons b5_3 (.cons b5_3 (.cons b5_3 (.cons (Eq.refl true) (.cons (Eq.refl true) (.cons (Eq.refl true) (.cons (Eq.refl true) (.cons (Eq.refl true) (.cons (Eq.refl true) (.cons (Eq.refl true) (.cons (Eq.refl true) (.cons (Eq.refl true) (.cons (Eq.refl true) (.cons (Eq.refl true) (.cons (Eq.refl true) (.cons (Eq.refl true) (.cons (Eq.refl true) (.cons (Eq.refl true) (.cons (Eq.refl true) (.cons (Eq.refl true) (.cons (Eq.refl true) .nil))))))))))))))))))))))))))) (by kernel_rfl) ?_
      refine WK.ct (b := true) (by kernel_rfl) rfl ?_
      refine WK.rs (g := []) (l' := [(.t 4, [.ptr 4 0]), (.t 5, [.data (.slc false (some true) 24 (List.map TMsg.en []))]), (.o 4, (TRaft.ob r3_1))]) (by kernel_rfl) .nil (by kernel_rfl) ?_
      refine WK.weak (l := [(.t 4, [.ptr 4 0]), (.t 5, [.data (.slc false none 24 (List.map TMsg.en []))]), (.o 4, (TRaft.ob r3_1))]) (wk_of (by kernel_rfl)) ?_
      refine WK.ret (by kernel_rfl) ?_
      have h_0 := some_inj h
      obtain ⟨g_1, h_1⟩ := Prod.mk.inj h_0
      subst g_1
      subst h_1
      exact WKe.fin (e' := .ret) (by kernel_rfl) (fin_of (g := []) (by first | exact .inl rfl | exact .inr rfl) .nil (by kernel_rfl))
    · rcases br_inv h with ⟨b5_4, h⟩ | ⟨b5_4, h⟩
      · refine WK.rs (g := [.b false, .b false, .a ⟨bv r5_1, []⟩, .b false, .b false, .b false, .b false, .b false, .b false, .b true, .b true, .b true, .b true, .b true, .b true, .b true, .b true, .b true, .b true, .b true, .b true, .b true, .b true, .b true, .b true, .b true, .b true]) (l' := [(.t 3, [.ptr 3 0]), (.t 4, [.ptr 4 0]), (.t 7, [.ptr 15 0]), (.t 8, [.fn (.func 50) [] []]), (.t 55, [bv true]), (.o 3, (TMsg.ob m)), (.o 4, (TRaft.ob_000001000111 (TRaft.mk 0 0 0 0 0 [] 0 0 0 [] [] [] 0))), (.o 15, (TMember.ob_00000100011101 (TMember.mk r3_1 [])))]) (by kernel_rfl) (.cons (Eq.refl false) (.cons (Eq.refl false) (.cons (Asks.of (C := Meets Try.prog) (raft_May.meets fu r_v _ h5_2)) (.cons (Eq.refl false) (.cons (Eq.refl false) (.cons b5_3 (.cons b5_3 (.cons b5_3 (.cons b5_3 (.cons b5_4 (.cons b5_4 (.cons b5_4 (.cons b5_4 (.cons b5_4 (.cons b5_4 (.cons (Eq.refl true) (.cons (Eq.refl true) (.cons (Eq.refl true) (.cons (Eq.refl true) (.cons (Eq.refl true) (.cons (Eq.refl true) (.cons (Eq.refl true) (.cons (Eq.refl true) (.cons (Eq.refl true) (.cons (Eq.refl true) (.cons (Eq.refl true) (.cons (Eq.refl true) .nil))))))))))))))))))))))))))) (by kernel_rfl) ?_
        refine WK.ct (b := true) (by kernel_rfl) rfl ?_
        refine WK.rs (g := []) (l' := [(.t 4, [.ptr 4 0]), (.t 5, [.data (.slc false (some true) 24 (List.map TMsg.en []))]), (.o 4, (TRaft.ob r3_1))]) (by kernel_rfl) .nil (by kernel_rfl) ?_
        refine WK.weak (l := [(.t 4, [.ptr 4 0]), (.t 5, [.data (.slc false none 24 (List.map TMsg.en []))]), (.o 4, (TRaft.ob r3_1))]) (wk_of (by kernel_rfl)) ?_
        refine WK.ret (by kernel_rfl) ?_
        have h_0 := some_inj h
        obtain ⟨g_1, h_1⟩ := Prod.mk.inj h_0
        subst g_1
        subst h_1
        exact WKe.fin (e' := .ret) (by kernel_rfl) (fin_of (g := []) (by first | exact .inl rfl | exact .inr rfl) .nil (by kernel_rfl))
      · rcases br_inv h with ⟨b5_5, h⟩ | ⟨b5_5, h⟩
        · refine WK.rs (g := [.b false, .b false, .a ⟨bv r5_1, []⟩, .b false, .b false, .b false, .b false, .b false, .b false, .b false, .b false, .b false, .b false, .b false, .b false, .b true, .b true, .b true, .b true, .b true, .b true, .b true, .b true, .b true, .b true, .b true, .b true]) (l' := [(.t 3, [.ptr 3 0]), (.t 4, [.ptr 4 0]), (.t 7, [.ptr 15 0]), (.t 8, [.fn (.func 50) [] []]), (.t 55, [bv true]), (.o 3, (TMsg.ob m)), (.o 4, (TRaft.ob_000001000111 (TRaft.mk 0 0 0 0 0 [] 0 0 0 [] [] [] 0))), (.o 15, (TMember.ob_00000100011101 (TMember.mk r3_1 [])))]) (by kernel_rfl) (.cons (Eq.refl false) (.cons (Eq.refl false) (.cons (Asks.of (C := Meets Try.prog) (raft_May.meets fu r_v _ h5_2)) (.cons (Eq.refl false) (.cons (Eq.refl false) (.cons b5_3 (.cons b5_3 (.cons b5_3 (.cons b5_3 (.cons b5_4 (.cons b5_4 (.cons b5_4 (.cons b5_4 (.cons b5_4 (.cons b5_4 (.cons b5_5 (.cons b5_5 (.cons b5_5 (.cons b5_5 (.cons b5_5 (.cons b5_5 (.cons (Eq.refl true) (.cons (Eq.refl true) (.cons (Eq.refl true) (.cons (Eq.refl true) (.cons (Eq.refl true) (.cons (Eq.refl true) .nil))))))))))))))))))))))))))) (by kernel_rfl) ?_
          refine WK.ct (b := true) (by kernel_rfl) rfl ?_
          refine WK.rs (g := []) (l' := [(.t 4, [.ptr 4 0]), (.t 5, [.data (.slc false (some true) 24 (List.map TMsg.en []))]), (.o 4, (TRaft.ob r3_1))]) (by kernel_rfl) .nil (by kernel_rfl) ?_
          refine WK.weak (l := [(.t 4, [.ptr 4 0]), (.t 5, [.data (.slc false none 24 (List.map TMsg.en []))]), (.o 4, (TRaft.ob r3_1))]) (wk_of (by kernel_rfl)) ?_
          refine WK.ret (by kernel_rfl) ?_
          have h_0 := some_inj h
          obtain ⟨g_1, h_1⟩ := Prod.mk.inj h_0
          subst g_1
          subst h_1
          exact WKe.fin (e' := .ret) (by kernel_rfl) (fin_of (g := []) (by first | exact .inl rfl | exact .inr rfl) .nil (by kernel_rfl))
        · rcases br_inv h with ⟨b5_6, h⟩ | ⟨b5_6, h⟩
          · refine WK.rs (g := [.b false, .b false, .a ⟨bv r5_1, []⟩, .b false, .b false, .b false, .b false, .b false, .b false, .b false, .b false, .b false, .b false, .b false, .b false, .b false, .b false, .b false, .b false, .b false, .b false, .b true, .b true, .b true, .b true, .b true, .b true]) (l' := [(.t 3, [.ptr 3 0]), (.t 4, [.ptr 4 0]), (.t 7, [.ptr 15 0]), (.t 8, [.fn (.func 50) [] []]), (.t 55, [bv true]), (.o 3, (TMsg.ob m)), (.o 4, (TRaft.ob_000001000111 (TRaft.mk 0 0 0 0 0 [] 0 0 0 [] [] [] 0))), (.o 15, (TMember.ob_00000100011101 (TMember.mk r3_1 [])))]) (by kernel_rfl) (.cons (Eq.refl false) (.cons (Eq.refl false) (.cons (Asks.of (C := Meets Try.prog) (raft_May.meets fu r_v _ h5_2)) (.cons (Eq.refl false) (.cons (Eq.refl false) (.cons b5_3 (.cons b5_3 (.cons b5_3 (.cons b5_3 (.cons b5_4 (.cons b5_4 (.cons b5_4 (.cons b5_4 (.cons b5_4 (.cons b5_4 (.cons b5_5 (.cons b5_5 (.cons b5_5 (.cons b5_5 (.cons b5_5 (.cons b5_5 (.cons b5_6 (.cons b5_6 (.cons b5_6 (.cons b5_6 (.cons b5_6 (.cons b5_6 .nil))))))))))))))))))))))))))) (by kernel_rfl) ?_
            refine WK.ct (b := true) (by kernel_rfl) rfl ?_
            refine WK.rs (g := []) (l' := [(.t 4, [.ptr 4 0]), (.t 5, [.data (.slc false (some true) 24 (List.map TMsg.en []))]), (.o 4, (TRaft.ob r3_1))]) (by kernel_rfl) .nil (by kernel_rfl) ?_
            refine WK.weak (l := [(.t 4, [.ptr 4 0]), (.t 5, [.data (.slc false none 24 (List.map TMsg.en []))]), (.o 4, (TRaft.ob r3_1))]) (wk_of (by kernel_rfl)) ?_
            refine WK.ret (by kernel_rfl) ?_
            have h_0 := some_inj h
            obtain ⟨g_1, h_1⟩ := Prod.mk.inj h_0
            subst g_1
            subst h_1
            exact WKe.fin (e' := .ret) (by kernel_rfl) (fin_of (g := []) (by first | exact .inl rfl | exact .inr rfl) .nil (by kernel_rfl))
          · refine WK.rs (g := [.b false, .b false, .a ⟨bv r5_1, []⟩, .b false, .b false, .b false, .b false, .b false, .b false, .b false, .b false, .b false, .b false, .b false, .b false, .b false, .b false, .b false, .b false, .b false, .b false, .b false, .b false, .b false, .b false, .b false, .b false]) (l' := [(.t 3, [.ptr 3 0]), (.t 4, [.ptr 4 0]), (.t 7, [.ptr 15 0]), (.t 8, [.fn (.func 50) [] []]), (.t 55, [bv (m.To != r_v.Me)]), (.o 3, (TMsg.ob m)), (.o 4, (TRaft.ob_000001000111 (TRaft.mk 0 0 0 0 0 [] 0 0 0 [] [] [] 0))), (.o 15, (TMember.ob_00000100011101 (TMember.mk r3_1 [])))]) (by kernel_rfl) (.cons (Eq.refl false) (.cons (Eq.refl false) (.cons (Asks.of (C := Meets Try.prog) (raft_May.meets fu r_v _ h5_2)) (.cons (Eq.refl false) (.cons (Eq.refl false) (.cons b5_3 (.cons b5_3 (.cons b5_3 (.cons b5_3 (.cons b5_4 (.cons b5_4 (.cons b5_4 (.cons b5_4 (.cons b5_4 (.cons b5_4 (.cons b5_5 (.cons b5_5 (.cons b5_5 (.cons b5_5 (.cons b5_5 (.cons b5_5 (.cons b5_6 (.cons b5_6 (.cons b5_6 (.cons b5_6 (.cons b5_6 (.cons b5_6 .nil))))))))))))))))))))))))))) (by kernel_rfl) ?_
            rcases br_inv h with ⟨b10_0, h⟩ | ⟨b10_0, h⟩
            · refine WK.ct (b := (m.To != r_v.Me)) (by kernel_rfl) b10_0 ?_
              refine WK.rs (g := []) (l' := [(.t 4, [.ptr 4 0]), (.t 5, [.data (.slc false (some true) 24 (List.map TMsg.en []))]), (.o 4, (TRaft.ob r3_1))]) (by kernel_rfl) .nil (by kernel_rfl) ?_
              refine WK.weak (l := [(.t 4, [.ptr 4 0]), (.t 5, [.data (.slc false none 24 (List.map TMsg.en []))]), (.o 4, (TRaft.ob r3_1))]) (wk_of (by kernel_rfl)) ?_
              refine WK.ret (by kernel_rfl) ?_
              have h_0 := some_inj h
              obtain ⟨g_1, h_1⟩ := Prod.mk.inj h_0
              subst g_1
              subst h_1
              exact WKe.fin (e' := .ret) (by kernel_rfl) (fin_of (g := []) (by first | exact .inl rfl | exact .inr rfl) .nil (by kernel_rfl))
            · refine WK.ce (b := (m.To != r_v.Me)) (by kernel_rfl) b10_0 ?_
              refine WK.skip (by kernel_rfl) ?_
              refine WKe.code (y := (cR (cR (cR (cR (cR bd25)))))) (ks' := []) (by kernel_rfl) ?_
              obtain ⟨k15, hk15, h⟩ := jn_inv h
              have Jk15 : ∀ (j15_2 : TMember), k15 j15_2 = some (z0, z1) → WK Try.prog raft_Take.O (Ck Try.prog) (cR (cR (cR (cR (cR (cR bd25)))))) [] (ofL [(.t 3, [.ptr 3 0]), (.t 4, [.ptr 4 0]), (.t 7, [.ptr 15 0]), (.t 8, [.fn (.func 50) [] []]), (.o 3, (TMsg.ob m)), (.o 4, (TRaft.ob_000001000111 (TRaft.mk 0 0 0 0 0 [] 0 0 0 [] [] [] 0))), (.o 15, (TMember.ob_00000100011101 j15_2))]) (Fin Try.prog raft_Take.O Try.f25 0 ⟨.tup [.data (TRaft.ag z0), .data (.slc false none 24 (List.map TMsg.en z1))], []⟩) := by
                intro j15_2 h
                rw [hk15] at h
                obtain ⟨r16_1, h16_2, h⟩ := bd_inv h
                refine WK.rs (g := [.a ⟨.tup [], [(TMember.ob_00000100011101 r16_1)]⟩]) (l' := [(.t 4, [.ptr 4 0]), (.t 7, [.ptr 15 0]), (.o 4, (TRaft.ob_000001000111 (TRaft.mk 0 0 0 0 0 [] 0 0 0 [] [] [] 0))), (.o 15, (TMember.ob_00000100011101 r16_1))]) (by kernel_rfl) (.cons (Asks.of (C := Meets Try.prog) (raft_member_askVote.meets m j15_2 _ h16_2)) .nil) (by kernel_rfl) ?_
                refine WK.shareO (i := 15) (cc := 10) (l' := [(.t 4, [.ptr 4 0]), (.t 7, [.ptr 15 0]), (.o 4, (TRaft.ob_000001000111 (TRaft.mk 0 0 0 0 0 [] 0 0 0 [] [] [] 0))), (.o 15, (TMember.ob_00000100010101 r16_1))]) (by kernel_rfl) (by kernel_rfl) (by kernel_rfl) ?_
                refine WK.shareO (i := 15) (cc := 11) (l' := [(.t 4, [.ptr 4 0]), (.t 7, [.ptr 15 0]), (.o 4, (TRaft.ob_000001000111 (TRaft.mk 0 0 0 0 0 [] 0 0 0 [] [] [] 0))), (.o 15, (TMember.ob_00000100010001 r16_1))]) (by kernel_rfl) (by kernel_rfl) (by kernel_rfl) ?_
                refine WK.shareO (i := 15) (cc := 13) (l' := [(.t 4, [.ptr 4 0]), (.t 7, [.ptr 15 0]), (.o 4, (TRaft.ob_000001000111 (TRaft.mk 0 0 0 0 0 [] 0 0 0 [] [] [] 0))), (.o 15, (TMember.ob_0000010001 r16_1))]) (by kernel_rfl) (by kernel_rfl) (by kernel_rfl) ?_
                refine WK.shareO (i := 15) (cc := 5) (l' := [(.t 4, [.ptr 4 0]), (.t 7, [.ptr 15 0]), (.o 4, (TRaft.ob_000001000111 (TRaft.mk 0 0 0 0 0 [] 0 0 0 [] [] [] 0))), (.o 15, (TMember.ob_0000000001 r16_1))]) (by kernel_rfl) (by kernel_rfl) (by kernel_rfl) ?_
                refine WK.shareO (i := 15) (cc := 9) (l' := [(.t 4, [.ptr 4 0]), (.t 7, [.ptr 15 0]), (.o 4, (TRaft.ob_000001000111 (TRaft.mk 0 0 0 0 0 [] 0 0 0 [] [] [] 0))), (.o 15, (TMember.ob r16_1))]) (by kernel_rfl) (by kernel_rfl) (by kernel_rfl) ?_
                refine WK.rs (g := []) (l' := [(.t 4, [.ptr 4 0]), (.t 5, [.data (.slc false none 24 (List.map TMsg.en r16_1.out))]), (.o 4, (TRaft.ob r16_1.Raft))]) (by kernel_rfl) (.cons (Eq.refl true) .nil) (by kernel_rfl) ?_
                refine WK.weak (l := [(.t 4, [.ptr 4 0]), (.t 5, [.data (.slc false none 24 (List.map TMsg.en r16_1.out))]), (.o 4, (TRaft.ob r16_1.Raft))]) (wk_of (by kernel_rfl)) ?_
                refine WK.ret (by kernel_rfl) ?_
                have h_0 := some_inj h
                obtain ⟨g_1, h_1⟩ := Prod.mk.inj h_0
                subst g_1
                subst h_1
                exact WKe.fin (e' := .ret) (by kernel_rfl) (fin_of (g := []) (by first | exact .inl rfl | exact .inr rfl) .nil (by kernel_rfl))
              clear hk15
              refine WK.seq (by kernel_rfl) ?_
              refine WK.rs (g := []) (l' := [(.t 3, [.ptr 3 0]), (.t 4, [.ptr 4 0]), (.t 7, [.ptr 15 0]), (.t 8, [.fn (.func 50) [] []]), (.t 67, [bv (decide (m.Term > r3_1.Term))]), (.o 3, (TMsg.ob m)), (.o 4, (TRaft.ob_000001000111 (TRaft.mk 0 0 0 0 0 [] 0 0 0 [] [] [] 0))), (.o 15, (TMember.ob_00000100011101 (TMember.mk r3_1 [])))]) (by kernel_rfl) (.cons (Eq.refl true) .nil) (by kernel_rfl) ?_
              rcases br_inv h with ⟨b13_0, h⟩ | ⟨b13_0, h⟩
              · refine WK.ct (b := (decide (m.Term > r3_1.Term))) (by kernel_rfl) b13_0 ?_
                obtain ⟨r14_1, h14_2, h⟩ := bd_inv h
                refine WK.rc (g := [.a ⟨.tup [], [(TMember.ob_00000100011101 r14_1)]⟩]) (l' := [(.t 3, [.ptr 3 0]), (.t 4, [.ptr 4 0]), (.t 7, [.ptr 15 0]), (.t 8, [.fn (.func 50) [] []]), (.o 3, (TMsg.ob m)), (.o 4, (TRaft.ob_000001000111 (TRaft.mk 0 0 0 0 0 [] 0 0 0 [] [] [] 0))), (.o 15, (TMember.ob_00000100011101 r14_1))]) (.cons (Asks.of (C := Meets Try.prog) (raft_member_yields.meets m.Term (TMember.mk r3_1 []) _ h14_2)) .nil) (by kernel_rfl) (y := (cR (cR (cR (cR (cR (cR bd25))))))) (ks' := []) (by kernel_rfl) ?_
                exact WK.weak (l := [(.t 3, [.ptr 3 0]), (.t 4, [.ptr 4 0]), (.t 7, [.ptr 15 0]), (.t 8, [.fn (.func 50) [] []]), (.o 3, (TMsg.ob m)), (.o 4, (TRaft.ob_000001000111 (TRaft.mk 0 0 0 0 0 [] 0 0 0 [] [] [] 0))), (.o 15, (TMember.ob_00000100011101 r14_1))]) (wk_of (by kernel_rfl)) (Jk15 r14_1 h)
              · refine WK.ce (b := (decide (m.Term > r3_1.Term))) (by kernel_rfl) b13_0 ?_
                refine WK.skip (by kernel_rfl) ?_
                refine WKe.code (y := (cR (cR (cR (cR (cR (cR bd25))))))) (ks' := []) (by kernel_rfl) ?_
                exact WK.weak (l := [(.t 3, [.ptr 3 0]), (.t 4, [.ptr 4 0]), (.t 7, [.ptr 15 0]), (.t 8, [.fn (.func 50) [] []]), (.o 3, (TMsg.ob m)), (.o 4, (TRaft.ob_000001000111 (TRaft.mk 0 0 0 0 0 [] 0 0 0 [] [] [] 0))), (.o 15, (TMember.ob_00000100011101 (TMember.mk r3_1 [])))]) (wk_of (by kernel_rfl)) (Jk15 (TMember.mk r3_1 []) h)
  · rcases br_inv h with ⟨b4_2, h⟩ | ⟨b4_2, h⟩
    · refine WK.rs (g := [.b false, .b true]) (l' := [(.t 2, [.ptr 2 0]), (.t 3, [.ptr 3 0]), (.t 4, [.ptr 4 0]), (.t 7, [.ptr 15 0]), (.t 8, [.fn (.func 51) [] []]), (.t 9, [bv true]), (.o 2, (TRaft.ob r_v)), (.o 3, (TMsg.ob m)), (.o 4, (TRaft.ob_000001000111 (TRaft.mk 0 0 0 0 0 [] 0 0 0 [] [] [] 0))), (.o 15, (TMember.ob_00000100011101 (TMember.mk r3_1 [])))]) (by kernel_rfl) (.cons b4_1 (.cons b4_2 .nil)) (by kernel_rfl) ?_
      refine WK.seq (by kernel_rfl) ?_
      obtain ⟨r18_1, h18_2, h⟩ := bd_inv h
      rcases br_inv h with ⟨b18_3, h⟩ | ⟨b18_3, h⟩
      · refine WK.rs (g := [.b false, .b false, .a ⟨bv r18_1, []⟩, .b false, .b false, .b true, .b true, .b true, .b true, .b true, .b true, .b true, .b true, .b true, .b true, .b true, .b true, .b true, .b true, .b true, .b true, .b true, .b true, .b true, .b true, .b true, .b true]) (l' := [(.t 3, [.ptr 3 0]), (.t 4, [.ptr 4 0]), (.t 7, [.ptr 15 0]), (.t 8, [.fn (.func 51) [] []]), (.t 55, [bv true]), (.o 3, (TMsg.ob m)), (.o 4, (TRaft.ob_000001000111 (TRaft.mk 0 0 0 0 0 [] 0 0 0 [] [] [] 0))), (.o 15, (TMember.ob_00000100011101 (TMember.mk r3_1 [])))]) (by kernel_rfl) (.cons (Eq.refl false) (.cons (Eq.refl false) (.cons (Asks.of (C := Meets Try.prog) (raft_May.meets fu r_v _ h18_2)) (.cons (Eq.refl false) (.cons (Eq.refl false) (.cons b18_3 (.cons b18_3 (.cons b18_3 (.cons b18_3 (.cons (Eq.refl true) (.cons (Eq.refl true) (.cons (Eq.refl true) (.cons (Eq.refl true) (.cons (Eq.refl true) (.cons (Eq.refl true) (.cons (Eq.refl true) (.cons (Eq.refl true) (.cons (Eq.refl true) (.cons (Eq.refl true) (.cons (Eq.refl true) (.cons (Eq.refl true) (.cons (Eq.refl true) (.cons (Eq.refl true) (.cons (Eq.refl true) (.cons (Eq.refl true) (.cons (Eq.refl true) (.cons (Eq.refl true) .nil))))))))))))))))))))))))))) (by kernel_rfl) ?_
        refine WK.ct (b := true) (by kernel_rfl) rfl ?_
        refine WK.rs (g := []) (l' := [(.t 4, [.ptr 4 0]), (.t 5, [.data (.slc false (some true) 24 (List.map TMsg.en []))]), (.o 4, (TRaft.ob r3_1))]) (by kernel_rfl) .nil (by kernel_rfl) ?_
        refine WK.weak (l := [(.t 4, [.ptr 4 0]), (.t 5, [.data (.slc false none 24 (List.map TMsg.en []))]), (.o 4, (TRaft.ob r3_1))]) (wk_of (by kernel_rfl)) ?_
        refine WK.ret (by kernel_rfl) ?_
        have h_0 := some_inj h
        obtain ⟨g_1, h_1⟩ := Prod.mk.inj h_0
        subst g_1
        subst h_1
        exact WKe.fin (e' := .ret) (by kernel_rfl) (fin_of (g := []) (by first | exact .inl rfl | exact .inr rfl) .nil (by kernel_rfl))
      · rcases br_inv h with ⟨b18_4, h⟩ | ⟨b18_4, h⟩
        · refine WK.rs (g := [.b false, .b false, .a ⟨bv r18_1, []⟩, .b false, .b false, .b false, .b false, .b false, .b false, .b true, .b true, .b true, .b true, .b true, .b true, .b true, .b true, .b true, .b true, .b true, .b true, .b true, .b true, .b true, .b true, .b true, .b true]) (l' := [(.t 3, [.ptr 3 0]), (.t 4, [.ptr 4 0]), (.t 7, [.ptr 15 0]), (.t 8, [.fn (.func 51) [] []]), (.t 55, [bv true]), (.o 3, (TMsg.ob m)), (.o 4, (TRaft.ob_000001000111 (TRaft.mk 0 0 0 0 0 [] 0 0 0 [] [] [] 0))), (.o 15, (TMember.ob_00000100011101 (TMember.mk r3_1 [])))]) (by kernel_rfl) (.cons (Eq.refl false) (.cons (Eq.refl false) (.cons (Asks.of (C := Meets Try.prog) (raft_May.meets fu r_v _ h18_2)) (.cons (Eq.refl false) (.cons (Eq.refl false) (.cons b18_3 (.cons b18_3 (.cons b18_3 (.cons b18_3 (.cons b18_4 (.cons b18_4 (.cons b18_4 (.cons b18_4 (.cons b18_4 (.cons b18_4 (.cons (Eq.refl true) (.cons (Eq.refl true) (.cons (Eq.refl true) (.cons (Eq.refl true) (.cons (Eq.refl true) (.cons (Eq.refl true) (.cons (Eq.refl true) (.cons (Eq.refl true) (.cons (Eq.refl true) (.cons (Eq.refl true) (.cons (Eq.refl true) (.cons (Eq.refl true) .nil))))))))))))))))))))))))))) (by kernel_rfl) ?_
          refine WK.ct (b := true) (by kernel_rfl) rfl ?_
          refine WK.rs (g := []) (l' := [(.t 4, [.ptr 4 0]), (.t 5, [.data (.slc false (some true) 24 (List.map TMsg.en []))]), (.o 4, (TRaft.ob r3_1))]) (by kernel_rfl) .nil (by kernel_rfl) ?_
          refine WK.weak (l := [(.t 4, [.ptr 4 0]), (.t 5, [.data (.slc false none 24 (List.map TMsg.en []))]), (.o 4, (TRaft.ob r3_1))]) (wk_of (by kernel_rfl)) ?_
          refine WK.ret (by kernel_rfl) ?_
          have h_0 := some_inj h
          obtain ⟨g_1, h_1⟩ := Prod.mk.inj h_0
          subst g_1
          subst h_1
          exact WKe.fin (e' := .ret) (by kernel_rfl) (fin_of (g := []) (by first | exact .inl rfl | exact .inr rfl) .nil (by kernel_rfl))
        · rcases br_inv h with ⟨b18_5, h⟩ | ⟨b18_5, h⟩
          · refine WK.rs (g := [.b false, .b false, .a ⟨bv r18_1, []⟩, .b false, .b false, .b false, .b false, .b false, .b false, .b false, .b false, .b false, .b false, .b false, .b false, .b true, .b true, .b true, .b true, .b true, .b true, .b true, .b true, .b true, .b true, .b true, .b true]) (l' := [(.t 3, [.ptr 3 0]), (.t 4, [.ptr 4 0]), (.t 7, [.ptr 15 0]), (.t 8, [.fn (.func 51) [] []]), (.t 55, [bv true]), (.o 3, (TMsg.ob m)), (.o 4, (TRaft.ob_000001000111 (TRaft.mk 0 0 0 0 0 [] 0 0 0 [] [] [] 0))), (.o 15, (TMember.ob_00000100011101 (TMember.mk r3_1 [])))]) (by kernel_rfl) (.cons (Eq.refl false) (.cons (Eq.refl false) (.cons (Asks.of (C := Meets Try.prog) (raft_May.meets fu r_v _ h18_2)) (.cons (Eq.refl false) (.cons (Eq.refl false) (.cons b18_3 (.cons b18_3 (.cons b18_3 (.cons b18_3 (.cons b18_4 (.cons b18_4 (.cons b18_4 (.cons b18_4 (.cons b18_4 (.cons b18_4 (.cons b18_5 (.cons b18_5 (.cons b18_5 (.cons b18_5 (.cons b18_5 (.cons b18_5 (.cons (Eq.refl true) (.cons (Eq.refl true) (.cons (Eq.refl true) (.cons (Eq.refl true) (.cons (Eq.refl true) (.cons (Eq.refl true) .nil))))))))))))))))))))))))))) (by kernel_rfl) ?_
            refine WK.ct (b := true) (by kernel_rfl) rfl ?_
            refine WK.rs (g := []) (l' := [(.t 4, [.ptr 4 0]), (.t 5, [.data (.slc false (some true) 24 (List.map TMsg.en []))]), (.o 4, (TRaft.ob r3_1))]) (by kernel_rfl) .nil (by kernel_rfl) ?_
            refine WK.weak (l := [(.t 4, [.ptr 4 0]), (.t 5, [.data (.slc false none 24 (List.map TMsg.en []))]), (.o 4, (TRaft.ob r3_1))]) (wk_of (by kernel_rfl)) ?_
            refine WK.ret (by kernel_rfl) ?_
            have h_0 := some_inj h
            obtain ⟨g_1, h_1⟩ := Prod.mk.inj h_0
            subst g_1
            subst h_1
            exact WKe.fin (e' := .ret) (by kernel_rfl) (fin_of (g := []) (by first | exact .inl rfl | exact .inr rfl) .nil (by kernel_rfl))
          · rcases br_inv h with ⟨b18_6, h⟩ | ⟨b18_6, h⟩
            · refine WK.rs (g := [.b false, .b false, .a ⟨bv r18_1, []⟩, .b false, .b false, .b false, .b false, .b false, .b false, .b false, .b false, .b false, .b false, .b false, .b false, .b false, .b false, .b false, .b false, .b false, .b false, .b true, .b true, .b true, .b true, .b true, .b true]) (l' := [(.t 3, [.ptr 3 0]), (.t 4, [.ptr 4 0]), (.t 7, [.ptr 15 0]), (.t 8, [.fn (.func 51) [] []]), (.t 55, [bv true]), (.o 3, (TMsg.ob m)), (.o 4, (TRaft.ob_000001000111 (TRaft.mk 0 0 0 0 0 [] 0 0 0 [] [] [] 0))), (.o 15, (TMember.ob_00000100011101 (TMember.mk r3_1 [])))]) (by kernel_rfl) (.cons (Eq.refl false) (.cons (Eq.refl false) (.cons (Asks.of (C := Meets Try.prog) (raft_May.meets fu r_v _ h18_2)) (.cons (Eq.refl false) (.cons (Eq.refl false) (.cons b18_3 (.cons b18_3 (.cons b18_3 (.cons b18_3 (.cons b18_4 (.cons b18_4 (.cons b18_4 (.cons b18_4 (.cons b18_4 (.cons b18_4 (.cons b18_5 (.cons b18_5 (.cons b18_5 (.cons b18_5 (.cons b18_5 (.cons b18_5 (.cons b18_6 (.cons b18_6 (.cons b18_6 (.cons b18_6 (.cons b18_6 (.cons b18_6 .nil))))))))))))))))))))))))))) (by kernel_rfl) ?_
              refine WK.ct (b := true) (by kernel_rfl) rfl ?_
              refine WK.rs (g := []) (l' := [(.t 4, [.ptr 4 0]), (.t 5, [.data (.slc false (some true) 24 (List.map TMsg.en []))]), (.o 4, (TRaft.ob r3_1))]) (by kernel_rfl) .nil (by kernel_rfl) ?_
              refine WK.weak (l := [(.t 4, [.ptr 4 0]), (.t 5, [.data (.slc false none 24 (List.map TMsg.en []))]), (.o 4, (TRaft.ob r3_1))]) (wk_of (by kernel_rfl)) ?_
              refine WK.ret (by kernel_rfl) ?_
              have h_0 := some_inj h
              obtain ⟨g_1, h_1⟩ := Prod.mk.inj h_0
              subst g_1
              subst h_1
              exact WKe.fin (e' := .ret) (by kernel_rfl) (fin_of (g := []) (by first | exact .inl rfl | exact .inr rfl) .nil (by kernel_rfl))
            · refine WK.rs (g := [.b false, .b false, .a ⟨bv r18_1, []⟩, .b false, .b false, .b false, .b false, .b false, .b false, .b false, .b false, .b false, .b false, .b false, .b false, .b false, .b false, .b false, .b false, .b false, .b false, .b false, .b false, .b false, .b false, .b false, .b false]) (l' := [(.t 3, [.ptr 3 0]), (.t 4, [.ptr 4 0]), (.t 7, [.ptr 15 0]), (.t 8, [.fn (.func 51) [] []]), (.t 55, [bv (m.To != r_v.Me)]), (.o 3, (TMsg.ob m)), (.o 4, (TRaft.ob_000001000111 (TRaft.mk 0 0 0 0 0 [] 0 0 0 [] [] [] 0))), (.o 15, (TMember.ob_00000100011101 (TMember.mk r3_1 [])))]) (by kernel_rfl) (.cons (Eq.refl false) (.cons (Eq.refl false) (.cons (Asks.of (C := Meets Try.prog) (raft_May.meets fu r_v _ h18_2)) (.cons (Eq.refl false) (.cons (Eq.refl false) (.cons b18_3 (.cons b18_3 (.cons b18_3 (.cons b18_3 (.cons b18_4 (.cons b18_4 (.cons b18_4 (.cons b18_4 (.cons b18_4 (.cons b18_4 (.cons b18_5 (.cons b18_5 (.cons b18_5 (.cons b18_5 (.cons b18_5 (.cons b18_5 (.cons b18_6 (.cons b18_6 (.cons b18_6 (.cons b18_6 (.cons b18_6 (.cons b18_6 .nil))))))))))))))))))))))))))) (by kernel_rfl) ?_
              rcases br_inv h with ⟨b23_0, h⟩ | ⟨b23_0, h⟩
              · refine WK.ct (b := (m.To != r_v.Me)) (by kernel_rfl) b23_0 ?_
                refine WK.rs (g := []) (l' := [(.t 4, [.ptr 4 0]), (.t 5, [.data (.slc false (some true) 24 (List.map TMsg.en []))]), (.o 4, (TRaft.ob r3_1))]) (by kernel_rfl) .nil (by kernel_rfl) ?_
                refine WK.weak (l := [(.t 4, [.ptr 4 0]), (.t 5, [.data (.slc false none 24 (List.map TMsg.en []))]), (.o 4, (TRaft.ob r3_1))]) (wk_of (by kernel_rfl)) ?_
                refine WK.ret (by kernel_rfl) ?_
                have h_0 := some_inj h
                obtain ⟨g_1, h_1⟩ := Prod.mk.inj h_0
                subst g_1
                subst h_1
                exact WKe.fin (e' := .ret) (by kernel_rfl) (fin_of (g := []) (by first | exact .inl rfl | exact .inr rfl) .nil (by kernel_rfl))
              · refine WK.ce (b := (m.To != r_v.Me)) (by kernel_rfl) b23_0 ?_
                refine WK.skip (by kernel_rfl) ?_
                refine WKe.code (y := (cR (cR (cR (cR (cR bd25)))))) (ks' := []) (by kernel_rfl) ?_
                obtain ⟨k28, hk28, h⟩ := jn_inv h
                have Jk28 : ∀ (j28_2 : TMember), k28 j28_2 = some (z0, z1) → WK Try.prog raft_Take.O (Ck Try.prog) (cR (cR (cR (cR (cR (cR bd25)))))) [] (ofL [(.t 3, [.ptr 3 0]), (.t 4, [.ptr 4 0]), (.t 7, [.ptr 15 0]), (.t 8, [.fn (.func 51) [] []]), (.o 3, (TMsg.ob m)), (.o 4, (TRaft.ob_000001000111 (TRaft.mk 0 0 0 0 0 [] 0 0 0 [] [] [] 0))), (.o 15, (TMember.ob_00000100011101 j28_2))]) (Fin Try.prog raft_Take.O Try.f25 0 ⟨.tup [.data (TRaft.ag z0), .data (.slc false none 24 (List.map TMsg.en z1))], []⟩) := by
                  intro j28_2 h
                  rw [hk28] at h
                  obtain ⟨r29_1, h29_2, h⟩ := bd_inv h
                  refine WK.rs (g := [.a ⟨.tup [], [(TMember.ob_00000000011101 r29_1)]⟩]) (l' := [(.t 4, [.ptr 4 0]), (.t 7, [.ptr 15 0]), (.o 4, (TRaft.ob_000001000111 (TRaft.mk 0 0 0 0 0 [] 0 0 0 [] [] [] 0))), (.o 15, (TMember.ob_00000000011101 r29_1))]) (by kernel_rfl) (.cons (Asks.of (C := Meets Try.prog) (raft_member_vote.meets fu m j28_2 _ h29_2)) .nil) (by kernel_rfl) ?_
                  refine WK.shareO (i := 15) (cc := 10) (l' := [(.t 4, [.ptr 4 0]), (.t 7, [.ptr 15 0]), (.o 4, (TRaft.ob_000001000111 (TRaft.mk 0 0 0 0 0 [] 0 0 0 [] [] [] 0))), (.o 15, (TMember.ob_00000000010101 r29_1))]) (by kernel_rfl) (by kernel_rfl) (by kernel_rfl) ?_
                  refine WK.shareO (i := 15) (cc := 11) (l' := [(.t 4, [.ptr 4 0]), (.t 7, [.ptr 15 0]), (.o 4, (TRaft.ob_000001000111 (TRaft.mk 0 0 0 0 0 [] 0 0 0 [] [] [] 0))), (.o 15, (TMember.ob_00000000010001 r29_1))]) (by kernel_rfl) (by kernel_rfl) (by kernel_rfl) ?_
                  refine WK.shareO (i := 15) (cc := 13) (l' := [(.t 4, [.ptr 4 0]), (.t 7, [.ptr 15 0]), (.o 4, (TRaft.ob_000001000111 (TRaft.mk 0 0 0 0 0 [] 0 0 0 [] [] [] 0))), (.o 15, (TMember.ob_0000000001 r29_1))]) (by kernel_rfl) (by kernel_rfl) (by kernel_rfl) ?_
                  refine WK.shareO (i := 15) (cc := 9) (l' := [(.t 4, [.ptr 4 0]), (.t 7, [.ptr 15 0]), (.o 4, (TRaft.ob_000001000111 (TRaft.mk 0 0 0 0 0 [] 0 0 0 [] [] [] 0))), (.o 15, (TMember.ob r29_1))]) (by kernel_rfl) (by kernel_rfl) (by kernel_rfl) ?_
                  refine WK.rs (g := []) (l' := [(.t 4, [.ptr 4 0]), (.t 5, [.data (.slc false none 24 (List.map TMsg.en r29_1.out))]), (.o 4, (TRaft.ob r29_1.Raft))]) (by kernel_rfl) (.cons (Eq.refl true) .nil) (by kernel_rfl) ?_
                  refine WK.weak (l := [(.t 4, [.ptr 4 0]), (.t 5, [.data (.slc false none 24 (List.map TMsg.en r29_1.out))]), (.o 4, (TRaft.ob r29_1.Raft))]) (wk_of (by kernel_rfl)) ?_
                  refine WK.ret (by kernel_rfl) ?_
                  have h_0 := some_inj h
                  obtain ⟨g_1, h_1⟩ := Prod.mk.inj h_0
                  subst g_1
                  subst h_1
                  exact WKe.fin (e' := .ret) (by kernel_rfl) (fin_of (g := []) (by first | exact .inl rfl | exact .inr rfl) .nil (by kernel_rfl))
                clear hk28
                refine WK.seq (by kernel_rfl) ?_
                refine WK.rs (g := []) (l' := [(.t 3, [.ptr 3 0]), (.t 4, [.ptr 4 0]), (.t 7, [.ptr 15 0]), (.t 8, [.fn (.func 51) [] []]), (.t 67, [bv (decide (m.Term > r3_1.Term))]), (.o 3, (TMsg.ob m)), (.o 4, (TRaft.ob_000001000111 (TRaft.mk 0 0 0 0 0 [] 0 0 0 [] [] [] 0))), (.o 15, (TMember.ob_00000100011101 (TMember.mk r3_1 [])))]) (by kernel_rfl) (.cons (Eq.refl true) .nil) (by kernel_rfl) ?_
                rcases br_inv h with ⟨b26_0, h⟩ | ⟨b26_0, h⟩
                · refine WK.ct (b := (decide (m.Term > r3_1.Term))) (by kernel_rfl) b26_0 ?_
                  obtain ⟨r27_1, h27_2, h⟩ := bd_inv h
                  refine WK.rc (g := [.a ⟨.tup [], [(TMember.ob_00000100011101 r27_1)]⟩]) (l' := [(.t 3, [.ptr 3 0]), (.t 4, [.ptr 4 0]), (.t 7, [.ptr 15 0]), (.t 8, [.fn (.func 51) [] []]), (.o 3, (TMsg.ob m)), (.o 4, (TRaft.ob_000001000111 (TRaft.mk 0 0 0 0 0 [] 0 0 0 [] [] [] 0))), (.o 15, (TMember.ob_00000100011101 r27_1))]) (.cons (Asks.of (C := Meets Try.prog) (raft_member_yields.meets m.Term (TMember.mk r3_1 []) _ h27_2)) .nil) (by kernel_rfl) (y := (cR (cR (cR (cR (cR (cR bd25))))))) (ks' := []) (by kernel_rfl) ?_
                  exact WK.weak (l := [(.t 3, [.ptr 3 0]), (.t 4, [.ptr 4 0]), (.t 7, [.ptr 15 0]), (.t 8, [.fn (.func 51) [] []]), (.o 3, (TMsg.ob m)), (.o 4, (TRaft.ob_000001000111 (TRaft.mk 0 0 0 0 0 [] 0 0 0 [] [] [] 0))), (.o 15, (TMember.ob_00000100011101 r27_1))]) (wk_of (by kernel_rfl)) (Jk28 r27_1 h)
                · refine WK.ce (b := (decide (m.Term > r3_1.Term))) (by kernel_rfl) b26_0 ?_
                  refine WK.skip (by kernel_rfl) ?_
                  refine WKe.code (y := (cR (cR (cR (cR (cR (cR bd25))))))) (ks' := []) (by kernel_rfl) ?_
                  exact WK.weak (l := [(.t 3, [.ptr 3 0]), (.t 4, [.ptr 4 0]), (.t 7, [.ptr 15 0]), (.t 8, [.fn (.func 51) [] []]), (.o 3, (TMsg.ob m)), (.o 4, (TRaft.ob_000001000111 (TRaft.mk 0 0 0 0 0 [] 0 0 0 [] [] [] 0))), (.o 15, (TMember.ob_00000100011101 (TMember.mk r3_1 [])))]) (wk_of (by kernel_rfl)) (Jk28 (TMember.mk r3_1 []) h)
    · rcases br_inv h with ⟨b4_3, h⟩ | ⟨b4_3, h⟩
      · refine WK.rs (g := [.b false, .b false, .b true]) (l' := [(.t 2, [.ptr 2 0]), (.t 3, [.ptr 3 0]), (.t 4, [.ptr 4 0]), (.t 7, [.ptr 15 0]), (.t 8, [.fn (.func 52) [] []]), (.t 9, [bv true]), (.o 2, (TRaft.ob r_v)), (.o 3, (TMsg.ob m)), (.o 4, (TRaft.ob_000001000111 (TRaft.mk 0 0 0 0 0 [] 0 0 0 [] [] [] 0))), (.o 15, (TMember.ob_00000100011101 (TMember.mk r3_1 [])))]) (by kernel_rfl) (.cons b4_1 (.cons b4_2 (.cons b4_3 .nil))) (by kernel_rfl) ?_
        refine WK.seq (by kernel_rfl) ?_
        obtain ⟨r31_1, h31_2, h⟩ := bd_inv h
        rcases br_inv h with ⟨b31_3, h⟩ | ⟨b31_3, h⟩
        · refine WK.rs (g := [.b false, .b false, .a ⟨bv r31_1, []⟩, .b false, .b false, .b true, .b true, .b true, .b true, .b true, .b true, .b true, .b true, .b true, .b true, .b true, .b true, .b true, .b true, .b true, .b true, .b true, .b true, .b true, .b true, .b true, .b true]) (l' := [(.t 3, [.ptr 3 0]), (.t 4, [.ptr 4 0]), (.t 7, [.ptr 15 0]), (.t 8, [.fn (.func 52) [] []]), (.t 55, [bv true]), (.o 3, (TMsg.ob m)), (.o 4, (TRaft.ob_000001000111 (TRaft.mk 0 0 0 0 0 [] 0 0 0 [] [] [] 0))), (.o 15, (TMember.ob_00000100011101 (TMember.mk r3_1 [])))]) (by kernel_rfl) (.cons (Eq.refl false) (.cons (Eq.refl false) (.cons (Asks.of (C := Meets Try.prog) (raft_May.meets fu r_v _ h31_2)) (.cons (Eq.refl false) (.cons (Eq.refl false) (.cons b31_3 (.cons b31_3 (.cons b31_3 (.cons b31_3 (.cons (Eq.refl true) (.cons (Eq.refl true) (.cons (Eq.refl true) (.cons (Eq.refl true) (.cons (Eq.refl true) (.cons (Eq.refl true) (.cons (Eq.refl true) (.cons (Eq.refl true) (.cons (Eq.refl true) (.cons (Eq.refl true) (.cons (Eq.refl true) (.cons (Eq.refl true) (.cons (Eq.refl true) (.cons (Eq.refl true) (.cons (Eq.refl true) (.cons (Eq.refl true) (.cons (Eq.refl true) (.cons (Eq.refl true) .nil))))))))))))))))))))))))))) (by kernel_rfl) ?_
          refine WK.ct (b := true) (by kernel_rfl) rfl ?_
          refine WK.rs (g := []) (l' := [(.t 4, [.ptr 4 0]), (.t 5, [.data (.slc false (some true) 24 (List.map TMsg.en []))]), (.o 4, (TRaft.ob r3_1))]) (by kernel_rfl) .nil (by kernel_rfl) ?_
          refine WK.weak (l := [(.t 4, [.ptr 4 0]), (.t 5, [.data (.slc false none 24 (List.map TMsg.en []))]), (.o 4, (TRaft.ob r3_1))]) (wk_of (by kernel_rfl)) ?_
          refine WK.ret (by kernel_rfl) ?_
          have h_0 := some_inj h
          obtain ⟨g_1, h_1⟩ := Prod.mk.inj h_0
          subst g_1
          subst h_1
          exact WKe.fin (e' := .ret) (by kernel_rfl) (fin_of (g := []) (by first | exact .inl rfl | exact .inr rfl) .nil (by kernel_rfl))
        · rcases br_inv h with ⟨b31_4, h⟩ | ⟨b31_4, h⟩
          · refine WK.rs (g := [.b false, .b false, .a ⟨bv r31_1, []⟩, .b false, .b false, .b false, .b false, .b false, .b false, .b true, .b true, .b true, .b true, .b true, .b true, .b true, .b true, .b true, .b true, .b true, .b true, .b true, .b true, .b true, .b true, .b true, .b true]) (l' := [(.t 3, [.ptr 3 0]), (.t 4, [.ptr 4 0]), (.t 7, [.ptr 15 0]), (.t 8, [.fn (.func 52) [] []]), (.t 55, [bv true]), (.o 3, (TMsg.ob m)), (.o 4, (TRaft.ob_000001000111 (TRaft.mk 0 0 0 0 0 [] 0 0 0 [] [] [] 0))), (.o 15, (TMember.ob_00000100011101 (TMember.mk r3_1 [])))]) (by kernel_rfl) (.cons (Eq.refl false) (.cons (Eq.refl false) (.cons (Asks.of (C := Meets Try.prog) (raft_May.meets fu r_v _ h31_2)) (.cons (Eq.refl false) (.cons (Eq.refl false) (.cons b31_3 (.cons b31_3 (.cons b31_3 (.cons b31_3 (.cons b31_4 (.cons b31_4 (.cons b31_4 (.cons b31_4 (.cons b31_4 (.cons b31_4 (.cons (Eq.refl true) (.cons (Eq.refl true) (.cons (Eq.refl true) (.cons (Eq.refl true) (.cons (Eq.refl true) (.cons (Eq.refl true) (.cons (Eq.refl true) (.cons (Eq.refl true) (.cons (Eq.refl true) (.cons (Eq.refl true) (.cons (Eq.refl true) (.cons (Eq.refl true) .nil))))))))))))))))))))))))))) (by kernel_rfl) ?_
            refine WK.ct (b := true) (by kernel_rfl) rfl ?_
            refine WK.rs (g := []) (l' := [(.t 4, [.ptr 4 0]), (.t 5, [.data (.slc false (some true) 24 (List.map TMsg.en []))]), (.o 4, (TRaft.ob r3_1))]) (by kernel_rfl) .nil (by kernel_rfl) ?_
            refine WK.weak (l := [(.t 4, [.ptr 4 0]), (.t 5, [.data (.slc false none 24 (List.map TMsg.en []))]), (.o 4, (TRaft.ob r3_1))]) (wk_of (by kernel_rfl)) ?_
            refine WK.ret (by kernel_rfl) ?_
            have h_0 := some_inj h
            obtain ⟨g_1, h_1⟩ := Prod.mk.inj h_0
            subst g_1
            subst h_1
            exact WKe.fin (e' := .ret) (by kernel_rfl) (fin_of (g := []) (by first | exact .inl rfl | exact .inr rfl) .nil (by kernel_rfl))
          · rcases br_inv h with ⟨b31_5, h⟩ | ⟨b31_5, h⟩
            · refine WK.rs (g := [.b false, .b false, .a ⟨bv r31_1, []⟩, .b false, .b false, .b false, .b false, .b false, .b false, .b false, .b false, .b false, .b false, .b false, .b false, .b true, .b true, .b true, .b true, .b true, .b true, .b true, .b true, .b true, .b true, .b true, .b true]) (l' := [(.t 3, [.ptr 3 0]), (.t 4, [.ptr 4 0]), (.t 7, [.ptr 15 0]), (.t 8, [.fn (.func 52) [] []]), (.t 55, [bv true]), (.o 3, (TMsg.ob m)), (.o 4, (TRaft.ob_000001000111 (TRaft.mk 0 0 0 0 0 [] 0 0 0 [] [] [] 0))), (.o 15, (TMember.ob_00000100011101 (TMember.mk r3_1 [])))]) (by kernel_rfl) (.cons (Eq.refl false) (.cons (Eq.refl false) (.cons (Asks.of (C := Meets Try.prog) (raft_May.meets fu r_v _ h31_2)) (.cons (Eq.refl false) (.cons (Eq.refl false) (.cons b31_3 (.cons b31_3 (.cons b31_3 (.cons b31_3 (.cons b31_4 (.cons b31_4 (.cons b31_4 (.cons b31_4 (.cons b31_4 (.cons b31_4 (.cons b31_5 (.cons b31_5 (.cons b31_5 (.cons b31_5 (.cons b31_5 (.cons b31_5 (.cons (Eq.refl true) (.cons (Eq.refl true) (.cons (Eq.refl true) (.cons (Eq.refl true) (.cons (Eq.refl true) (.cons (Eq.refl true) .nil))))))))))))))))))))))))))) (by kernel_rfl) ?_
              refine WK.ct (b := true) (by kernel_rfl) rfl ?_
              refine WK.rs (g := []) (l' := [(.t 4, [.ptr 4 0]), (.t 5, [.data (.slc false (some true) 24 (List.map TMsg.en []))]), (.o 4, (TRaft.ob r3_1))]) (by kernel_rfl) .nil (by kernel_rfl) ?_
              refine WK.weak (l := [(.t 4, [.ptr 4 0]), (.t 5, [.data (.slc false none 24 (List.map TMsg.en []))]), (.o 4, (TRaft.ob r3_1))]) (wk_of (by kernel_rfl)) ?_
              refine WK.ret (by kernel_rfl) ?_
              have h_0 := some_inj h
              obtain ⟨g_1, h_1⟩ := Prod.mk.inj h_0
              subst g_1
              subst h_1
              exact WKe.fin (e' := .ret) (by kernel_rfl) (fin_of (g := []) (by first | exact .inl rfl | exact .inr rfl) .nil (by kernel_rfl))
            · rcases br_inv h with ⟨b31_6, h⟩ | ⟨b31_6, h⟩
              · refine WK.rs (g := [.b false, .b false, .a ⟨bv r31_1, []⟩, .b false, .b false, .b false, .b false, .b false, .b false, .b false, .b false, .b false, .b false, .b false, .b false, .b false, .b false, .b false, .b false, .b false, .b false, .b true, .b true, .b true, .b true, .b true, .b true]) (l' := [(.t 3, [.ptr 3 0]), (.t 4, [.ptr 4 0]), (.t 7, [.ptr 15 0]), (.t 8, [.fn (.func 52) [] []]), (.t 55, [bv true]), (.o 3, (TMsg.ob m)), (.o 4, (TRaft.ob_000001000111 (TRaft.mk 0 0 0 0 0 [] 0 0 0 [] [] [] 0))), (.o 15, (TMember.ob_00000100011101 (TMember.mk r3_1 [])))]) (by kernel_rfl) (.cons (Eq.refl false) (.cons (Eq.refl false) (.cons (Asks.of (C := Meets Try.prog) (raft_May.meets fu r_v _ h31_2)) (.cons (Eq.refl false) (.cons (Eq.refl false) (.cons b31_3 (.cons b31_3 (.cons b31_3 (.cons b31_3 (.cons b31_4 (.cons b31_4 (.cons b31_4 (.cons b31_4 (.cons b31_4 (.cons b31_4 (.cons b31_5 (.cons b31_5 (.cons b31_5 (.cons b31_5 (.cons b31_5 (.cons b31_5 (.cons b31_6 (.cons b31_6 (.cons b31_6 (.cons b31_6 (.cons b31_6 (.cons b31_6 .nil))))))))))))))))))))))))))) (by kernel_rfl) ?_
                refine WK.ct (b := true) (by kernel_rfl) rfl ?_
                refine WK.rs (g := []) (l' := [(.t 4, [.ptr 4 0]), (.t 5, [.data (.slc false (some true) 24 (List.map TMsg.en []))]), (.o 4, (TRaft.ob r3_1))]) (by kernel_rfl) .nil (by kernel_rfl) ?_
                refine WK.weak (l := [(.t 4, [.ptr 4 0]), (.t 5, [.data (.slc false none 24 (List.map TMsg.en []))]), (.o 4, (TRaft.ob r3_1))]) (wk_of (by kernel_rfl)) ?_
                refine WK.ret (by kernel_rfl) ?_
                have h_0 := some_inj h
                obtain ⟨g_1, h_1⟩ := Prod.mk.inj h_0
                subst g_1
                subst h_1
                exact WKe.fin (e' := .ret) (by kernel_rfl) (fin_of (g := []) (by first | exact .inl rfl | exact .inr rfl) .nil (by kernel_rfl))
              · refine WK.rs (g := [.b false, .b false, .a ⟨bv r31_1, []⟩, .b false, .b false, .b false, .b false, .b false, .b false, .b false, .b false, .b false, .b false, .b false, .b false, .b false, .b false, .b false, .b false, .b false, .b false, .b false, .b false, .b false, .b false, .b false, .b false]) (l' := [(.t 3, [.ptr 3 0]), (.t 4, [.ptr 4 0]), (.t 7, [.ptr 15 0]), (.t 8, [.fn (.func 52) [] []]), (.t 55, [bv (m.To != r_v.Me)]), (.o 3, (TMsg.ob m)), (.o 4, (TRaft.ob_000001000111 (TRaft.mk 0 0 0 0 0 [] 0 0 0 [] [] [] 0))), (.o 15, (TMember.ob_00000100011101 (TMember.mk r3_1 [])))]) (by kernel_rfl) (.cons (Eq.refl false) (.cons (Eq.refl false) (.cons (Asks.of (C := Meets Try.prog) (raft_May.meets fu r_v _ h31_2)) (.cons (Eq.refl false) (.cons (Eq.refl false) (.cons b31_3 (.cons b31_3 (.cons b31_3 (.cons b31_3 (.cons b31_4 (.cons b31_4 (.cons b31_4 (.cons b31_4 (.cons b31_4 (.cons b31_4 (.cons b31_5 (.cons b31_5 (.cons b31_5 (.cons b31_5 (.cons b31_5 (.cons b31_5 (.cons b31_6 (.cons b31_6 (.cons b31_6 (.cons b31_6 (.cons b31_6 (.cons b31_6 .nil))))))))))))))))))))))))))) (by kernel_rfl) ?_
                rcases br_inv h with ⟨b36_0, h⟩ | ⟨b36_0, h⟩
                · refine WK.ct (b := (m.To != r_v.Me)) (by kernel_rfl) b36_0 ?_
                  refine WK.rs (g := []) (l' := [(.t 4, [.ptr 4 0]), (.t 5, [.data (.slc false (some true) 24 (List.map TMsg.en []))]), (.o 4, (TRaft.ob r3_1))]) (by kernel_rfl) .nil (by kernel_rfl) ?_
                  refine WK.weak (l := [(.t 4, [.ptr 4 0]), (.t 5, [.data (.slc false none 24 (List.map TMsg.en []))]), (.o 4, (TRaft.ob r3_1))]) (wk_of (by kernel_rfl)) ?_
                  refine WK.ret (by kernel_rfl) ?_
                  have h_0 := some_inj h
                  obtain ⟨g_1, h_1⟩ := Prod.mk.inj h_0
                  subst g_1
                  subst h_1
                  exact WKe.fin (e' := .ret) (by kernel_rfl) (fin_of (g := []) (by first | exact .inl rfl | exact .inr rfl) .nil (by kernel_rfl))
                · refine WK.ce (b := (m.To != r_v.Me)) (by kernel_rfl) b36_0 ?_
                  refine WK.skip (by kernel_rfl) ?_
                  refine WKe.code (y := (cR (cR (cR (cR (cR bd25)))))) (ks' := []) (by kernel_rfl) ?_
                  obtain ⟨k41, hk41, h⟩ := jn_inv h
                  have Jk41 : ∀ (j41_2 : TMember), k41 j41_2 = some (z0, z1) → WK Try.prog raft_Take.O (Ck Try.prog) (cR (cR (cR (cR (cR (cR bd25)))))) [] (ofL [(.t 3, [.ptr 3 0]), (.t 4, [.ptr 4 0]), (.t 7, [.ptr 15 0]), (.t 8, [.fn (.func 52) [] []]), (.o 3, (TMsg.ob m)), (.o 4, (TRaft.ob_000001000111 (TRaft.mk 0 0 0 0 0 [] 0 0 0 [] [] [] 0))), (.o 15, (TMember.ob_00000100011101 j41_2))]) (Fin Try.prog raft_Take.O Try.f25 0 ⟨.tup [.data (TRaft.ag z0), .data (.slc false none 24 (List.map TMsg.en z1))], []⟩) := by
                    intro j41_2 h
                    rw [hk41] at h
                    obtain ⟨r42_1, h42_2, h⟩ := bd_inv h
                    refine WK.rs (g := [.a ⟨.tup [], [(TMember.ob_00000000011101 r42_1)]⟩]) (l' := [(.t 4, [.ptr 4 0]), (.t 7, [.ptr 15 0]), (.o 4, (TRaft.ob_000001000111 (TRaft.mk 0 0 0 0 0 [] 0 0 0 [] [] [] 0))), (.o 15, (TMember.ob_00000000011101 r42_1))]) (by kernel_rfl) (.cons (Asks.of (C := Meets Try.prog) (raft_member_append.meets fu m j41_2 _ h42_2)) .nil) (by kernel_rfl) ?_
                    refine WK.shareO (i := 15) (cc := 10) (l' := [(.t 4, [.ptr 4 0]), (.t 7, [.ptr 15 0]), (.o 4, (TRaft.ob_000001000111 (TRaft.mk 0 0 0 0 0 [] 0 0 0 [] [] [] 0))), (.o 15, (TMember.ob_00000000010101 r42_1))]) (by kernel_rfl) (by kernel_rfl) (by kernel_rfl) ?_
                    refine WK.shareO (i := 15) (cc := 11) (l' := [(.t 4, [.ptr 4 0]), (.t 7, [.ptr 15 0]), (.o 4, (TRaft.ob_000001000111 (TRaft.mk 0 0 0 0 0 [] 0 0 0 [] [] [] 0))), (.o 15, (TMember.ob_00000000010001 r42_1))]) (by kernel_rfl) (by kernel_rfl) (by kernel_rfl) ?_
                    refine WK.shareO (i := 15) (cc := 13) (l' := [(.t 4, [.ptr 4 0]), (.t 7, [.ptr 15 0]), (.o 4, (TRaft.ob_000001000111 (TRaft.mk 0 0 0 0 0 [] 0 0 0 [] [] [] 0))), (.o 15, (TMember.ob_0000000001 r42_1))]) (by kernel_rfl) (by kernel_rfl) (by kernel_rfl) ?_
                    refine WK.shareO (i := 15) (cc := 9) (l' := [(.t 4, [.ptr 4 0]), (.t 7, [.ptr 15 0]), (.o 4, (TRaft.ob_000001000111 (TRaft.mk 0 0 0 0 0 [] 0 0 0 [] [] [] 0))), (.o 15, (TMember.ob r42_1))]) (by kernel_rfl) (by kernel_rfl) (by kernel_rfl) ?_
                    refine WK.rs (g := []) (l' := [(.t 4, [.ptr 4 0]), (.t 5, [.data (.slc false none 24 (List.map TMsg.en r42_1.out))]), (.o 4, (TRaft.ob r42_1.Raft))]) (by kernel_rfl) (.cons (Eq.refl true) .nil) (by kernel_rfl) ?_
                    refine WK.weak (l := [(.t 4, [.ptr 4 0]), (.t 5, [.data (.slc false none 24 (List.map TMsg.en r42_1.out))]), (.o 4, (TRaft.ob r42_1.Raft))]) (wk_of (by kernel_rfl)) ?_
                    refine WK.ret (by kernel_rfl) ?_
                    have h_0 := some_inj h
                    obtain ⟨g_1, h_1⟩ := Prod.mk.inj h_0
                    subst g_1
                    subst h_1
                    exact WKe.fin (e' := .ret) (by kernel_rfl) (fin_of (g := []) (by first | exact .inl rfl | exact .inr rfl) .nil (by kernel_rfl))
                  clear hk41
                  refine WK.seq (by kernel_rfl) ?_
                  refine WK.rs (g := []) (l' := [(.t 3, [.ptr 3 0]), (.t 4, [.ptr 4 0]), (.t 7, [.ptr 15 0]), (.t 8, [.fn (.func 52) [] []]), (.t 67, [bv (decide (m.Term > r3_1.Term))]), (.o 3, (TMsg.ob m)), (.o 4, (TRaft.ob_000001000111 (TRaft.mk 0 0 0 0 0 [] 0 0 0 [] [] [] 0))), (.o 15, (TMember.ob_00000100011101 (TMember.mk r3_1 [])))]) (by kernel_rfl) (.cons (Eq.refl true) .nil) (by kernel_rfl) ?_
                  rcases br_inv h with ⟨b39_0, h⟩ | ⟨b39_0, h⟩
                  · refine WK.ct (b := (decide (m.Term > r3_1.Term))) (by kernel_rfl) b39_0 ?_
                    obtain ⟨r40_1, h40_2, h⟩ := bd_inv h
                    refine WK.rc (g := [.a ⟨.tup [], [(TMember.ob_00000100011101 r40_1)]⟩]) (l' := [(.t 3, [.ptr 3 0]), (.t 4, [.ptr 4 0]), (.t 7, [.ptr 15 0]), (.t 8, [.fn (.func 52) [] []]), (.o 3, (TMsg.ob m)), (.o 4, (TRaft.ob_000001000111 (TRaft.mk 0 0 0 0 0 [] 0 0 0 [] [] [] 0))), (.o 15, (TMember.ob_00000100011101 r40_1))]) (.cons (Asks.of (C := Meets Try.prog) (raft_member_yields.meets m.Term (TMember.mk r3_1 []) _ h40_2)) .nil) (by kernel_rfl) (y := (cR (cR (cR (cR (cR (cR bd25))))))) (ks' := []) (by kernel_rfl) ?_
                    exact WK.weak (l := [(.t 3, [.ptr 3 0]), (.t 4, [.ptr 4 0]), (.t 7, [.ptr 15 0]), (.t 8, [.fn (.func 52) [] []]), (.o 3, (TMsg.ob m)), (.o 4, (TRaft.ob_000001000111 (TRaft.mk 0 0 0 0 0 [] 0 0 0 [] [] [] 0))), (.o 15, (TMember.ob_00000100011101 r40_1))]) (wk_of (by kernel_rfl)) (Jk41 r40_1 h)
                  · refine WK.ce (b := (decide (m.Term > r3_1.Term))) (by kernel_rfl) b39_0 ?_
                    refine WK.skip (by kernel_rfl) ?_
                    refine WKe.code (y := (cR (cR (cR (cR (cR (cR bd25))))))) (ks' := []) (by kernel_rfl) ?_
                    exact WK.weak (l := [(.t 3, [.ptr 3 0]), (.t 4, [.ptr 4 0]), (.t 7, [.ptr 15 0]), (.t 8, [.fn (.func 52) [] []]), (.o 3, (TMsg.ob m)), (.o 4, (TRaft.ob_000001000111 (TRaft.mk 0 0 0 0 0 [] 0 0 0 [] [] [] 0))), (.o 15, (TMember.ob_00000100011101 (TMember.mk r3_1 [])))]) (wk_of (by kernel_rfl)) (Jk41 (TMember.mk r3_1 []) h)
      · rcases br_inv h with ⟨b4_4, h⟩ | ⟨b4_4, h⟩
        · refine WK.rs (g := [.b false, .b false, .b false, .b true]) (l' := [(.t 2, [.ptr 2 0]), (.t 3, [.ptr 3 0]), (.t 4, [.ptr 4 0]), (.t 7, [.ptr 15 0]), (.t 8, [.fn (.func 53) [] []]), (.t 9, [bv true]), (.o 2, (TRaft.ob r_v)), (.o 3, (TMsg.ob m)), (.o 4, (TRaft.ob_000001000111 (TRaft.mk 0 0 0 0 0 [] 0 0 0 [] [] [] 0))), (.o 15, (TMember.ob_00000100011101 (TMember.mk r3_1 [])))]) (by kernel_rfl) (.cons b4_1 (.cons b4_2 (.cons b4_3 (.cons b4_4 .nil)))) (by kernel_rfl) ?_
          refine WK.seq (by kernel_rfl) ?_
          obtain ⟨r44_1, h44_2, h⟩ := bd_inv h
          rcases br_inv h with ⟨b44_3, h⟩ | ⟨b44_3, h⟩
          · refine WK.rs (g := [.b false, .b false, .a ⟨bv r44_1, []⟩, .b false, .b false, .b true, .b true, .b true, .b true, .b true, .b true, .b true, .b true, .b true, .b true, .b true, .b true, .b true, .b true, .b true, .b true, .b true, .b true, .b true, .b true, .b true, .b true]) (l' := [(.t 3, [.ptr 3 0]), (.t 4, [.ptr 4 0]), (.t 7, [.ptr 15 0]), (.t 8, [.fn (.func 53) [] []]), (.t 55, [bv true]), (.o 3, (TMsg.ob m)), (.o 4, (TRaft.ob_000001000111 (TRaft.mk 0 0 0 0 0 [] 0 0 0 [] [] [] 0))), (.o 15, (TMember.ob_00000100011101 (TMember.mk r3_1 [])))]) (by kernel_rfl) (.cons (Eq.refl false) (.cons (Eq.refl false) (.cons (Asks.of (C := Meets Try.prog) (raft_May.meets fu r_v _ h44_2)) (.cons (Eq.refl false) (.cons (Eq.refl false) (.cons b44_3 (.cons b44_3 (.cons b44_3 (.cons b44_3 (.cons (Eq.refl true) (.cons (Eq.refl true) (.cons (Eq.refl true) (.cons (Eq.refl true) (.cons (Eq.refl true) (.cons (Eq.refl true) (.cons (Eq.refl true) (.cons (Eq.refl true) (.cons (Eq.refl true) (.cons (Eq.refl true) (.cons (Eq.refl true) (.cons (Eq.refl true) (.cons (Eq.refl true) (.cons (Eq.refl true) (.cons (Eq.refl true) (.cons (Eq.refl true) (.cons (Eq.refl true) (.cons (Eq.refl true) .nil))))))))))))))))))))))))))) (by kernel_rfl) ?_
            refine WK.ct (b := true) (by kernel_rfl) rfl ?_
            refine WK.rs (g := []) (l' := [(.t 4, [.ptr 4 0]), (.t 5, [.data (.slc false (some true) 24 (List.map TMsg.en []))]), (.o 4, (TRaft.ob r3_1))]) (by kernel_rfl) .nil (by kernel_rfl) ?_
            refine WK.weak (l := [(.t 4, [.ptr 4 0]), (.t 5, [.data (.slc false none 24 (List.map TMsg.en []))]), (.o 4, (TRaft.ob r3_1))]) (wk_of (by kernel_rfl)) ?_
            refine WK.ret (by kernel_rfl) ?_
            have h_0 := some_inj h
            obtain ⟨g_1, h_1⟩ := Prod.mk.inj h_0
            subst g_1
            subst h_1
            exact WKe.fin (e' := .ret) (by kernel_rfl) (fin_of (g := []) (by first | exact .inl rfl | exact .inr rfl) .nil (by kernel_rfl))
          · rcases br_inv h with ⟨b44_4, h⟩ | ⟨b44_4, h⟩
            · refine WK.rs (g := [.b false, .b false, .a ⟨bv r44_1, []⟩, .b false, .b false, .b false, .b false, .b false, .b false, .b true, .b true, .b true, .b true, .b true, .b true, .b true, .b true, .b true, .b true, .b true, .b true, .b true, .b true, .b true, .b true, .b true, .b true]) (l' := [(.t 3, [.ptr 3 0]), (.t 4, [.ptr 4 0]), (.t 7, [.ptr 15 0]), (.t 8, [.fn (.func 53) [] []]), (.t 55, [bv true]), (.o 3, (TMsg.ob m)), (.o 4, (TRaft.ob_000001000111 (TRaft.mk 0 0 0 0 0 [] 0 0 0 [] [] [] 0))), (.o 15, (TMember.ob_00000100011101 (TMember.mk r3_1 [])))]) (by kernel_rfl) (.cons (Eq.refl false) (.cons (Eq.refl false) (.cons (Asks.of (C := Meets Try.prog) (raft_May.meets fu r_v _ h44_2)) (.cons (Eq.refl false) (.cons (Eq.refl false) (.cons b44_3 (.cons b44_3 (.cons b44_3 (.cons b44_3 (.cons b44_4 (.cons b44_4 (.cons b44_4 (.cons b44_4 (.cons b44_4 (.cons b44_4 (.cons (Eq.refl true) (.cons (Eq.refl true) (.cons (Eq.refl true) (.cons (Eq.refl true) (.cons (Eq.refl true) (.cons (Eq.refl true) (.cons (Eq.refl true) (.cons (Eq.refl true) (.cons (Eq.refl true) (.cons (Eq.refl true) (.cons (Eq.refl true) (.cons (Eq.refl true) .nil))))))))))))))))))))))))))) (by kernel_rfl) ?_
              refine WK.ct (b := true) (by kernel_rfl) rfl ?_
              refine WK.rs (g := []) (l' := [(.t 4, [.ptr 4 0]), (.t 5, [.data (.slc false (some true) 24 (List.map TMsg.en []))]), (.o 4, (TRaft.ob r3_1))]) (by kernel_rfl) .nil (by kernel_rfl) ?_
              refine WK.weak (l := [(.t 4, [.ptr 4 0]), (.t 5, [.data (.slc false none 24 (List.map TMsg.en []))]), (.o 4, (TRaft.ob r3_1))]) (wk_of (by kernel_rfl)) ?_
              refine WK.ret (by kernel_rfl) ?_
              have h_0 := some_inj h
              obtain ⟨g_1, h_1⟩ := Prod.mk.inj h_0
              subst g_1
              subst h_1
              exact WKe.fin (e' := .ret) (by kernel_rfl) (fin_of (g := []) (by first | exact .inl rfl | exact .inr rfl) .nil (by kernel_rfl))
            · rcases br_inv h with ⟨b44_5, h⟩ | ⟨b44_5, h⟩
              · refine WK.rs (g := [.b false, .b false, .a ⟨bv r44_1, []⟩, .b false, .b false, .b false, .b false, .b false, .b false, .b false, .b false, .b false, .b false, .b false, .b false, .b true, .b true, .b true, .b true, .b true, .b true, .b true, .b true, .b true, .b true, .b true, .b true]) (l' := [(.t 3, [.ptr 3 0]), (.t 4, [.ptr 4 0]), (.t 7, [.ptr 15 0]), (.t 8, [.fn (.func 53) [] []]), (.t 55, [bv true]), (.o 3, (TMsg.ob m)), (.o 4, (TRaft.ob_000001000111 (TRaft.mk 0 0 0 0 0 [] 0 0 0 [] [] [] 0))), (.o 15, (TMember.ob_00000100011101 (TMember.mk r3_1 [])))]) (by kernel_rfl) (.cons (Eq.refl false) (.cons (Eq.refl false) (.cons (Asks.of (C := Meets Try.prog) (raft_May.meets fu r_v _ h44_2)) (.cons (Eq.refl false) (.cons (Eq.refl false) (.cons b44_3 (.cons b44_3 (.cons b44_3 (.cons b44_3 (.cons b44_4 (.cons b44_4 (.cons b44_4 (.cons b44_4 (.cons b44_4 (.cons b44_4 (.cons b44_5 (.cons b44_5 (.cons b44_5 (.cons b44_5 (.cons b44_5 (.cons b44_5 (.cons (Eq.refl true) (.cons (Eq.refl true) (.cons (Eq.refl true) (.cons (Eq.refl true) (.cons (Eq.refl true) (.cons (Eq.refl true) .nil))))))))))))))))))))))))))) (by kernel_rfl) ?_
                refine WK.ct (b := true) (by kernel_rfl) rfl ?_
                refine WK.rs (g := []) (l' := [(.t 4, [.ptr 4 0]), (.t 5, [.data (.slc false (some true) 24 (List.map TMsg.en []))]), (.o 4, (TRaft.ob r3_1))]) (by kernel_rfl) .nil (by kernel_rfl) ?_
                refine WK.weak (l := [(.t 4, [.ptr 4 0]), (.t 5, [.data (.slc false none 24 (List.map TMsg.en []))]), (.o 4, (TRaft.ob r3_1))]) (wk_of (by kernel_rfl)) ?_
                refine WK.ret (by kernel_rfl) ?_
                have h_0 := some_inj h
                obtain ⟨g_1, h_1⟩ := Prod.mk.inj h_0
                subst g_1
                subst h_1
                exact WKe.fin (e' := .ret) (by kernel_rfl) (fin_of (g := []) (by first | exact .inl rfl | exact .inr rfl) .nil (by kernel_rfl))
              · rcases br_inv h with ⟨b44_6, h⟩ | ⟨b44_6, h⟩
                · refine WK.rs (g := [.b false, .b false, .a ⟨bv r44_1, []⟩, .b false, .b false, .b false, .b false, .b false, .b false, .b false, .b false, .b false, .b false, .b false, .b false, .b false, .b false, .b false, .b false, .b false, .b false, .b true, .b true, .b true, .b true, .b true, .b true]) (l' := [(.t 3, [.ptr 3 0]), (.t 4, [.ptr 4 0]), (.t 7, [.ptr 15 0]), (.t 8, [.fn (.func 53) [] []]), (.t 55, [bv true]), (.o 3, (TMsg.ob m)), (.o 4, (TRaft.ob_000001000111 (TRaft.mk 0 0 0 0 0 [] 0 0 0 [] [] [] 0))), (.o 15, (TMember.ob_00000100011101 (TMember.mk r3_1 [])))]) (by kernel_rfl) (.cons (Eq.refl false) (.cons (Eq.refl false) (.cons (Asks.of (C := Meets Try.prog) (raft_May.meets fu r_v _ h44_2)) (.cons (Eq.refl false) (.cons (Eq.refl false) (.cons b44_3 (.cons b44_3 (.cons b44_3 (.cons b44_3 (.cons b44_4 (.cons b44_4 (.cons b44_4 (.cons b44_4 (.cons b44_4 (.cons b44_4 (.cons b44_5 (.cons b44_5 (.cons b44_5 (.cons b44_5 (.cons b44_5 (.cons b44_5 (.cons b44_6 (.cons b44_6 (.cons b44_6 (.cons b44_6 (.cons b44_6 (.cons b44_6 .nil))))))))))))))))))))))))))) (by kernel_rfl) ?_
                  refine WK.ct (b := true) (by kernel_rfl) rfl ?_
                  refine WK.rs (g := []) (l' := [(.t 4, [.ptr 4 0]), (.t 5, [.data (.slc false (some true) 24 (List.map TMsg.en []))]), (.o 4, (TRaft.ob r3_1))]) (by kernel_rfl) .nil (by kernel_rfl) ?_
                  refine WK.weak (l := [(.t 4, [.ptr 4 0]), (.t 5, [.data (.slc false none 24 (List.map TMsg.en []))]), (.o 4, (TRaft.ob r3_1))]) (wk_of (by kernel_rfl)) ?_
                  refine WK.ret (by kernel_rfl) ?_
                  have h_0 := some_inj h
                  obtain ⟨g_1, h_1⟩ := Prod.mk.inj h_0
                  subst g_1
                  subst h_1
                  exact WKe.fin (e' := .ret) (by kernel_rfl) (fin_of (g := []) (by first | exact .inl rfl | exact .inr rfl) .nil (by kernel_rfl))
                · refine WK.rs (g := [.b false, .b false, .a ⟨bv r44_1, []⟩, .b false, .b false, .b false, .b false, .b false, .b false, .b false, .b false, .b false, .b false, .b false, .b false, .b false, .b false, .b false, .b false, .b false, .b false, .b false, .b false, .b false, .b false, .b false, .b false]) (l' := [(.t 3, [.ptr 3 0]), (.t 4, [.ptr 4 0]), (.t 7, [.ptr 15 0]), (.t 8, [.fn (.func 53) [] []]), (.t 55, [bv (m.To != r_v.Me)]), (.o 3, (TMsg.ob m)), (.o 4, (TRaft.ob_000001000111 (TRaft.mk 0 0 0 0 0 [] 0 0 0 [] [] [] 0))), (.o 15, (TMember.ob_00000100011101 (TMember.mk r3_1 [])))]) (by kernel_rfl) (.cons (Eq.refl false) (.cons (Eq.refl false) (.cons (Asks.of (C := Meets Try.prog) (raft_May.meets fu r_v _ h44_2)) (.cons (Eq.refl false) (.cons (Eq.refl false) (.cons b44_3 (.cons b44_3 (.cons b44_3 (.cons b44_3 (.cons b44_4 (.cons b44_4 (.cons b44_4 (.cons b44_4 (.cons b44_4 (.cons b44_4 (.cons b44_5 (.cons b44_5 (.cons b44_5 (.cons b44_5 (.cons b44_5 (.cons b44_5 (.cons b44_6 (.cons b44_6 (.cons b44_6 (.cons b44_6 (.cons b44_6 (.cons b44_6 .nil))))))))))))))))))))))))))) (by kernel_rfl) ?_
                  rcases br_inv h with ⟨b49_0, h⟩ | ⟨b49_0, h⟩
                  · refine WK.ct (b := (m.To != r_v.Me)) (by kernel_rfl) b49_0 ?_
                    refine WK.rs (g := []) (l' := [(.t 4, [.ptr 4 0]), (.t 5, [.data (.slc false (some true) 24 (List.map TMsg.en []))]), (.o 4, (TRaft.ob r3_1))]) (by kernel_rfl) .nil (by kernel_rfl) ?_
                    refine WK.weak (l := [(.t 4, [.ptr 4 0]), (.t 5, [.data (.slc false none 24 (List.map TMsg.en []))]), (.o 4, (TRaft.ob r3_1))]) (wk_of (by kernel_rfl)) ?_
                    refine WK.ret (by kernel_rfl) ?_
                    have h_0 := some_inj h
                    obtain ⟨g_1, h_1⟩ := Prod.mk.inj h_0
                    subst g_1
                    subst h_1
                    exact WKe.fin (e' := .ret) (by kernel_rfl) (fin_of (g := []) (by first | exact .inl rfl | exact .inr rfl) .nil (by kernel_rfl))
                  · refine WK.ce (b := (m.To != r_v.Me)) (by kernel_rfl) b49_0 ?_
                    refine WK.skip (by kernel_rfl) ?_
                    refine WKe.code (y := (cR (cR (cR (cR (cR bd25)))))) (ks' := []) (by kernel_rfl) ?_
                    obtain ⟨k54, hk54, h⟩ := jn_inv h
                    have Jk54 : ∀ (j54_2 : TMember), k54 j54_2 = some (z0, z1) → WK Try.prog raft_Take.O (Ck Try.prog) (cR (cR (cR (cR (cR (cR bd25)))))) [] (ofL [(.t 3, [.ptr 3 0]), (.t 4, [.ptr 4 0]), (.t 7, [.ptr 15 0]), (.t 8, [.fn (.func 53) [] []]), (.o 3, (TMsg.ob m)), (.o 4, (TRaft.ob_000001000111 (TRaft.mk 0 0 0 0 0 [] 0 0 0 [] [] [] 0))), (.o 15, (TMember.ob_00000100011101 j54_2))]) (Fin Try.prog raft_Take.O Try.f25 0 ⟨.tup [.data (TRaft.ag z0), .data (.slc false none 24 (List.map TMsg.en z1))], []⟩) := by
                      intro j54_2 h
                      rw [hk54] at h
                      obtain ⟨r55_1, h55_2, h⟩ := bd_inv h
                      refine WK.rs (g := [.a ⟨.tup [], [(TMember.ob_00000000011101 r55_1)]⟩]) (l' := [(.t 4, [.ptr 4 0]), (.t 7, [.ptr 15 0]), (.o 4, (TRaft.ob_000001000111 (TRaft.mk 0 0 0 0 0 [] 0 0 0 [] [] [] 0))), (.o 15, (TMember.ob_00000000011101 r55_1))]) (by kernel_rfl) (.cons (Asks.of (C := Meets Try.prog) (raft_member_appended.meets fu m j54_2 _ h55_2)) .nil) (by kernel_rfl) ?_
                      refine WK.shareO (i := 15) (cc := 10) (l' := [(.t 4, [.ptr 4 0]), (.t 7, [.ptr 15 0]), (.o 4, (TRaft.ob_000001000111 (TRaft.mk 0 0 0 0 0 [] 0 0 0 [] [] [] 0))), (.o 15, (TMember.ob_00000000010101 r55_1))]) (by kernel_rfl) (by kernel_rfl) (by kernel_rfl) ?_
                      refine WK.shareO (i := 15) (cc := 11) (l' := [(.t 4, [.ptr 4 0]), (.t 7, [.ptr 15 0]), (.o 4, (TRaft.ob_000001000111 (TRaft.mk 0 0 0 0 0 [] 0 0 0 [] [] [] 0))), (.o 15, (TMember.ob_00000000010001 r55_1))]) (by kernel_rfl) (by kernel_rfl) (by kernel_rfl) ?_
                      refine WK.shareO (i := 15) (cc := 13) (l' := [(.t 4, [.ptr 4 0]), (.t 7, [.ptr 15 0]), (.o 4, (TRaft.ob_000001000111 (TRaft.mk 0 0 0 0 0 [] 0 0 0 [] [] [] 0))), (.o 15, (TMember.ob_0000000001 r55_1))]) (by kernel_rfl) (by kernel_rfl) (by kernel_rfl) ?_
                      refine WK.shareO (i := 15) (cc := 9) (l' := [(.t 4, [.ptr 4 0]), (.t 7, [.ptr 15 0]), (.o 4, (TRaft.ob_000001000111 (TRaft.mk 0 0 0 0 0 [] 0 0 0 [] [] [] 0))), (.o 15, (TMember.ob r55_1))]) (by kernel_rfl) (by kernel_rfl) (by kernel_rfl) ?_
                      refine WK.rs (g := []) (l' := [(.t 4, [.ptr 4 0]), (.t 5, [.data (.slc false none 24 (List.map TMsg.en r55_1.out))]), (.o 4, (TRaft.ob r55_1.Raft))]) (by kernel_rfl) (.cons (Eq.refl true) .nil) (by kernel_rfl) ?_
                      refine WK.weak (l := [(.t 4, [.ptr 4 0]), (.t 5, [.data (.slc false none 24 (List.map TMsg.en r55_1.out))]), (.o 4, (TRaft.ob r55_1.Raft))]) (wk_of (by kernel_rfl)) ?_
                      refine WK.ret (by kernel_rfl) ?_
                      have h_0 := some_inj h
                      obtain ⟨g_1, h_1⟩ := Prod.mk.inj h_0
                      subst g_1
                      subst h_1
                      exact WKe.fin (e' := .ret) (by kernel_rfl) (fin_of (g := []) (by first | exact .inl rfl | exact .inr rfl) .nil (by kernel_rfl))
                    clear hk54
                    refine WK.seq (by kernel_rfl) ?_
                    refine WK.rs (g := []) (l' := [(.t 3, [.ptr 3 0]), (.t 4, [.ptr 4 0]), (.t 7, [.ptr 15 0]), (.t 8, [.fn (.func 53) [] []]), (.t 67, [bv (decide (m.Term > r3_1.Term))]), (.o 3, (TMsg.ob m)), (.o 4, (TRaft.ob_000001000111 (TRaft.mk 0 0 0 0 0 [] 0 0 0 [] [] [] 0))), (.o 15, (TMember.ob_00000100011101 (TMember.mk r3_1 [])))]) (by kernel_rfl) (.cons (Eq.refl true) .nil) (by kernel_rfl) ?_
                    rcases br_inv h with ⟨b52_0, h⟩ | ⟨b52_0, h⟩
                    · refine WK.ct (b := (decide (m.Term > r3_1.Term))) (by kernel_rfl) b52_0 ?_
                      obtain ⟨r53_1, h53_2, h⟩ := bd_inv h
                      refine WK.rc (g := [.a ⟨.tup [], [(TMember.ob_00000100011101 r53_1)]⟩]) (l' := [(.t 3, [.ptr 3 0]), (.t 4, [.ptr 4 0]), (.t 7, [.ptr 15 0]), (.t 8, [.fn (.func 53) [] []]), (.o 3, (TMsg.ob m)), (.o 4, (TRaft.ob_000001000111 (TRaft.mk 0 0 0 0 0 [] 0 0 0 [] [] [] 0))), (.o 15, (TMember.ob_00000100011101 r53_1))]) (.cons (Asks.of (C := Meets Try.prog) (raft_member_yields.meets m.Term (TMember.mk r3_1 []) _ h53_2)) .nil) (by kernel_rfl) (y := (cR (cR (cR (cR (cR (cR bd25))))))) (ks' := []) (by kernel_rfl) ?_
                      exact WK.weak (l := [(.t 3, [.ptr 3 0]), (.t 4, [.ptr 4 0]), (.t 7, [.ptr 15 0]), (.t 8, [.fn (.func 53) [] []]), (.o 3, (TMsg.ob m)), (.o 4, (TRaft.ob_000001000111 (TRaft.mk 0 0 0 0 0 [] 0 0 0 [] [] [] 0))), (.o 15, (TMember.ob_00000100011101 r53_1))]) (wk_of (by kernel_rfl)) (Jk54 r53_1 h)
                    · refine WK.ce (b := (decide (m.Term > r3_1.Term))) (by kernel_rfl) b52_0 ?_
                      refine WK.skip (by kernel_rfl) ?_
                      refine WKe.code (y := (cR (cR (cR (cR (cR (cR bd25))))))) (ks' := []) (by kernel_rfl) ?_
                      exact WK.weak (l := [(.t 3, [.ptr 3 0]), (.t 4, [.ptr 4 0]), (.t 7, [.ptr 15 0]), (.t 8, [.fn (.func 53) [] []]), (.o 3, (TMsg.ob m)), (.o 4, (TRaft.ob_000001000111 (TRaft.mk 0 0 0 0 0 [] 0 0 0 [] [] [] 0))), (.o 15, (TMember.ob_00000100011101 (TMember.mk r3_1 [])))]) (wk_of (by kernel_rfl)) (Jk54 (TMember.mk r3_1 []) h)
        · refine WK.rs (g := [.b false, .b false, .b false, .b false]) (l' := [(.t 2, [.ptr 2 0]), (.t 3, [.ptr 3 0]), (.t 4, [.ptr 4 0]), (.t 7, [.ptr 15 0]), (.t 8, [.data (.val .nilFunc)]), (.t 9, [bv false]), (.o 2, (TRaft.ob r_v)), (.o 3, (TMsg.ob m)), (.o 4, (TRaft.ob_000001000111 (TRaft.mk 0 0 0 0 0 [] 0 0 0 [] [] [] 0))), (.o 15, (TMember.ob_00000100011101 (TMember.mk r3_1 [])))]) (by kernel_rfl) (.cons b4_1 (.cons b4_2 (.cons b4_3 (.cons b4_4 .nil)))) (by kernel_rfl) ?_
          refine WK.seq (by kernel_rfl) ?_
          refine WK.rs (g := [.b true, .b true, .b true, .b true, .b true, .b true, .b true, .b true, .b true, .b true, .b true, .b true, .b true, .b true, .b true, .b true, .b true, .b true, .b true, .b true, .b true, .b true, .b true, .b true, .b true, .b true]) (l' := [(.t 3, [.ptr 3 0]), (.t 4, [.ptr 4 0]), (.t 7, [.ptr 15 0]), (.t 8, [.data (.val .nilFunc)]), (.t 55, [bv true]), (.o 3, (TMsg.ob m)), (.o 4, (TRaft.ob_000001000111 (TRaft.mk 0 0 0 0 0 [] 0 0 0 [] [] [] 0))), (.o 15, (TMember.ob_00000100011101 (TMember.mk r3_1 [])))]) (by kernel_rfl) (.cons (Eq.refl true) (.cons (Eq.refl true) (.cons (Eq.refl true) (.cons (Eq.refl true) (.cons (Eq.refl true) (.cons (Eq.refl true) (.cons (Eq.refl true) (.cons (Eq.refl true) (.cons (Eq.refl true) (.cons (Eq.refl true) (.cons (Eq.refl true) (.cons (Eq.refl true) (.cons (Eq.refl true) (.cons (Eq.refl true) (.cons (Eq.refl true) (.cons (Eq.refl true) (.cons (Eq.refl true) (.cons (Eq.refl true) (.cons (Eq.refl true) (.cons (Eq.refl true) (.cons (Eq.refl true) (.cons (Eq.refl true) (.cons (Eq.refl true) (.cons (Eq.refl true) (.cons (Eq.refl true) (.cons (Eq.refl true) .nil)))))))))))))))))))))))))) (by kernel_rfl) ?_
          refine WK.ct (b := true) (by kernel_rfl) rfl ?_
          refine WK.rs (g := []) (l' := [(.t 4, [.ptr 4 0]), (.t 5, [.data (.slc false (some true) 24 (List.map TMsg.en []))]), (.o 4, (TRaft.ob r3_1))]) (by kernel_rfl) .nil (by kernel_rfl) ?_
          refine WK.weak (l := [(.t 4, [.ptr 4 0]), (.t 5, [.data (.slc false none 24 (List.map TMsg.en []))]), (.o 4, (TRaft.ob r3_1))]) (wk_of (by kernel_rfl)) ?_
          refine WK.ret (by kernel_rfl) ?_
          have h_0 := some_inj h
          obtain ⟨g_1, h_1⟩ := Prod.mk.inj h_0
          subst g_1
          subst h_1
          exact WKe.fin (e' := .ret) (by kernel_rfl) (fin_of (g := []) (by first | exact .inl rfl | exact .inr rfl) .nil (by kernel_rfl))
/-- diwan/diwanlaw11.RaftForms -/
noncomputable def bd6 : Code := (Try.f6.body).getD .skip
def diwanlaw11_RaftForms.O : Nat → Nat := fun t => bif ([0, 1, 2, 3, 4, 7, 8, 19, 75, 110, 184, 232, 271, 312] : List Nat).any (Nat.beq t) then 1 else 0
noncomputable def diwanlaw11_RaftForms.lp8 (fu : Nat) (l8_3 : TRaft) : Nat → (List TMsg) → Int → TRaft → Option ((List TMsg × TRaft) ⊕ Unit)
  | 0, _, _, _ => none
  | n_ + 1, l8_0, l8_1, l8_2 =>
    br (decide (l8_1 < 3))
      (br (decide ((l8_0.length : Int) > 0))
        (some (.inr ()))
        (bd (raft_Tick fu l8_2) fun (r14_1, r14_2) =>
        diwanlaw11_RaftForms.lp8 fu l8_3 n_ r14_2 (w64 (l8_1 + 1)) r14_1))
      (some (.inl (l8_0, l8_2)))
noncomputable def diwanlaw11_RaftForms.lp8_post (l8_3 : TRaft) (r_ : ((List TMsg × TRaft) ⊕ Unit)) : Wy → St → Prop := fun e τ => match r_ with
  | .inl (y0, y1) => e = .exit 0 ∧ τ = ofL [(.t 1, [.ptr 1 0]), (.t 2, [.ptr 2 0]), (.t 3, [.data (.slc false none 24 (List.map TMsg.en y0))]), (.o 1, (TRaft.ob y1)), (.o 2, (TRaft.ob_000001000111 l8_3))]
  | .inr _ => e = .ret ∧ τ = ofL [(.t 0, [bv false])]
theorem diwanlaw11_RaftForms.lp8_ok (fu : Nat) (l8_3 : TRaft) : ∀ (n_ : Nat) (l8_0 : List TMsg) (l8_1 : Int) (l8_2 : TRaft) (r_ : ((List TMsg × TRaft) ⊕ Unit)), diwanlaw11_RaftForms.lp8 fu l8_3 n_ l8_0 l8_1 l8_2 = some r_ → WK Try.prog diwanlaw11_RaftForms.O (Ck Try.prog) (cB (cR (cL (cR (cR (cR (cR bd6))))))) [] (ofL [(.t 1, [.ptr 1 0]), (.t 2, [.ptr 2 0]), (.t 3, [.data (.slc false none 24 (List.map TMsg.en l8_0))]), (.t 4, [iv l8_1]), (.o 1, (TRaft.ob l8_2)), (.o 2, (TRaft.ob_000001000111 l8_3))]) (diwanlaw11_RaftForms.lp8_post l8_3 r_) := by
  intro n_
  induction n_ with
  | zero => intro l8_0 l8_1 l8_2 r_ h; exact no_none h
  | succ n_ ih =>
    intro l8_0 l8_1 l8_2 r_ h
    refine WK.loop (by kernel_rfl) ?_
    refine WK.seq (by kernel_rfl) ?_
    refine WK.rs (g := []) (l' := [(.t 1, [.ptr 1 0]), (.t 2, [.ptr 2 0]), (.t 3, [.data (.slc false none 24 (List.map TMsg.en l8_0))]), (.t 4, [iv l8_1]), (.t 10, [bv (decide (l8_1 < 3))]), (.o 1, (TRaft.ob l8_2)), (.o 2, (TRaft.ob_000001000111 l8_3))]) (by kernel_rfl) .nil (by kernel_rfl) ?_
    rcases br_inv h with ⟨b10_0, h⟩ | ⟨b10_0, h⟩
    · refine WK.ct (b := (decide (l8_1 < 3))) (by kernel_rfl) b10_0 ?_
      refine WK.skip (by kernel_rfl) ?_
      refine WKe.code (y := (cR (cB (cB (cR (cL (cR (cR (cR (cR bd6)))))))))) (ks' := [.lp (cB (cR (cL (cR (cR (cR (cR bd6)))))))]) (by kernel_rfl) ?_
      refine WK.seq (by kernel_rfl) ?_
      refine WK.block (n := 1) (by kernel_rfl) ?_
      refine WK.seq (by kernel_rfl) ?_
      refine WK.rs (g := [.s (.t 14) [iv (l8_0.length : Int)]]) (l' := [(.t 1, [.ptr 1 0]), (.t 2, [.ptr 2 0]), (.t 4, [iv l8_1]), (.t 15, [bv (decide ((l8_0.length : Int) > 0))]), (.o 1, (TRaft.ob l8_2)), (.o 2, (TRaft.ob_000001000111 l8_3))]) (by kernel_rfl) (.cons (c_len (e := TMsg.en) (l := l8_0)) .nil) (by kernel_rfl) ?_
      rcases br_inv h with ⟨b12_0, h⟩ | ⟨b12_0, h⟩
      · refine WK.ct (b := (decide ((l8_0.length : Int) > 0))) (by kernel_rfl) b12_0 ?_
        refine WK.rs (g := []) (l' := [(.t 0, [bv false])]) (by kernel_rfl) .nil (by kernel_rfl) ?_
        refine WK.weak (l := [(.t 0, [bv false])]) (wk_of (by kernel_rfl)) ?_
        refine WK.ret (by kernel_rfl) ?_
        cases some_inj h
        exact WKe.fin (e' := .ret) (by kernel_rfl) ⟨rfl, rfl⟩
      · refine WK.ce (b := (decide ((l8_0.length : Int) > 0))) (by kernel_rfl) b12_0 ?_
        refine WK.skip (by kernel_rfl) ?_
        refine WKe.code (y := (cR (cB (cL (cR (cB (cB (cR (cL (cR (cR (cR (cR bd6))))))))))))) (ks' := [.blk 1, .seq (cR (cR (cB (cB (cR (cL (cR (cR (cR (cR bd6)))))))))), .lp (cB (cR (cL (cR (cR (cR (cR bd6)))))))]) (by kernel_rfl) ?_
        obtain ⟨⟨r14_1, r14_2⟩, h14_3, h⟩ := bd_inv h
        refine WK.rc (g := [.a ⟨.tup [.data (TRaft.ag r14_1), .data (.slc false none 24 (List.map TMsg.en r14_2))], []⟩]) (l' := [(.t 1, [.ptr 1 0]), (.t 2, [.ptr 2 0]), (.t 3, [.data (.slc false none 24 (List.map TMsg.en r14_2))]), (.t 4, [iv l8_1]), (.o 1, (TRaft.ob r14_1)), (.o 2, (TRaft.ob_000001000111 l8_3))]) (.cons (Asks.of (C := Meets Try.prog) (raft_Tick.meets fu l8_2 _ _ h14_3)) .nil) (by kernel_rfl) (y := (cR (cR (cB (cB (cR (cL (cR (cR (cR (cR bd6))))))))))) (ks' := [.lp (cB (cR (cL (cR (cR (cR (cR bd6)))))))]) (by kernel_rfl) ?_
        refine WK.rc (g := []) (l' := [(.t 1, [.ptr 1 0]), (.t 2, [.ptr 2 0]), (.t 3, [.data (.slc false none 24 (List.map TMsg.en r14_2))]), (.t 4, [iv (w64 (l8_1 + 1))]), (.o 1, (TRaft.ob r14_1)), (.o 2, (TRaft.ob_000001000111 l8_3))]) .nil (by kernel_rfl) (y := (cB (cR (cL (cR (cR (cR (cR bd6)))))))) (ks' := []) (by kernel_rfl) ?_
        exact WK.weak (l := [(.t 1, [.ptr 1 0]), (.t 2, [.ptr 2 0]), (.t 3, [.data (.slc false none 24 (List.map TMsg.en r14_2))]), (.t 4, [iv (w64 (l8_1 + 1))]), (.o 1, (TRaft.ob r14_1)), (.o 2, (TRaft.ob_000001000111 l8_3))]) (wk_of (by kernel_rfl)) (ih r14_2 (w64 (l8_1 + 1)) r14_1 _ h)
    · refine WK.ce (b := (decide (l8_1 < 3))) (by kernel_rfl) b10_0 ?_
      refine WK.weak (l := [(.t 1, [.ptr 1 0]), (.t 2, [.ptr 2 0]), (.t 3, [.data (.slc false none 24 (List.map TMsg.en l8_0))]), (.o 1, (TRaft.ob l8_2)), (.o 2, (TRaft.ob_000001000111 l8_3))]) (wk_of (by kernel_rfl)) ?_
      refine WK.exit (n := 0) (by kernel_rfl) ?_
      cases some_inj h
      exact WKe.fin (e' := .exit 0) (by kernel_rfl) ⟨rfl, rfl⟩
noncomputable def diwanlaw11_RaftForms (fu : Nat) : Option Bool :=
  bd (diwanlaw11_begun fu) fun r2_1 =>
  br (!r2_1)
    (some false)
    (bd (raft_New 1 3 3) fun r5_1 =>
    bd (raft_New 2 3 5) fun r5_3 =>
    bd (diwanlaw11_RaftForms.lp8 fu r5_3 fu [] 0 r5_1) fun o_ => (match o_ with
    | .inl (y16_0, y16_1) =>
      br ((y16_0.length : Int) != 2)
        (some false)
        (ix y16_0 0 fun x17_2 =>
        br (x17_2.Kind != 1)
          (some false)
          (ix y16_0 0 fun x17_6 =>
          br (x17_6.From != 1)
            (some false)
            (ix y16_0 0 fun x17_10 =>
            br (x17_10.To != 2)
              (some false)
              (ix y16_0 1 fun x17_14 =>
              br (x17_14.To != 3)
                (some false)
                (ix y16_0 0 fun x17_18 =>
                br (x17_18.Term != 1)
                  (some false)
                  (br (y16_1.Role != 1)
                    (some false)
                    (br (y16_1.Vote != 1)
                      (some false)
                      (ix y16_0 0 fun x27_1 =>
                      bd (raft_Take fu r5_3 x27_1) fun (r27_4, r27_5) =>
                      br ((r27_5.length : Int) != 1)
                        (some false)
                        (ix r27_5 0 fun x28_2 =>
                        br (x28_2.Kind != 2)
                          (some false)
                          (ix r27_5 0 fun x28_6 =>
                          br (!x28_6.OK)
                            (some false)
                            (br (r27_4.Vote != 1)
                              (some false)
                              (br (r27_4.Term != 1)
                                (some false)
                                (ix r27_5 0 fun x35_1 =>
                                bd (raft_Take fu y16_1 x35_1) fun (r35_4, r35_5) =>
                                br ((r35_5.length : Int) != 2)
                                  (some false)
                                  (ix r35_5 0 fun x36_2 =>
                                  br (x36_2.Kind != 3)
                                    (some false)
                                    (ix r35_5 0 fun x36_6 =>
                                    br (x36_6.Index != 0)
                                      (some false)
                                      (ix r35_5 0 fun x36_10 =>
                                      br ((x36_10.Entries.length : Int) != 1)
                                        (some false)
                                        (ix r35_5 0 fun x36_14 =>
                                        ix x36_14.Entries 0 fun x36_17 =>
                                        br (!x36_17.Seal)
                                          (some false)
                                          (ix r35_5 0 fun x36_21 =>
                                          ix x36_21.Entries 0 fun x36_24 =>
                                          br (x36_24.Term != 1)
                                            (some false)
                                            (br (r35_4.Role != 2)
                                              (some false)
                                              (br (r35_4.Leader != 1)
                                                (some false)
                                                (br ((r35_4.Log.length : Int) != 1)
                                                  (some false)
                                                  (br (r35_4.Commit != 0)
                                                    (some false)
                                                    (ix r35_5 0 fun x48_1 =>
                                                    bd (raft_Take fu r27_4 x48_1) fun (r48_4, r48_5) =>
                                                    br ((r48_5.length : Int) != 1)
                                                      (some false)
                                                      (ix r48_5 0 fun x49_2 =>
                                                      br (x49_2.Kind != 4)
                                                        (some false)
                                                        (ix r48_5 0 fun x49_6 =>
                                                        br (!x49_6.OK)
                                                          (some false)
                                                          (ix r48_5 0 fun x49_10 =>
                                                          br (x49_10.Index != 1)
                                                            (some false)
                                                            (br (r48_4.Leader != 1)
                                                              (some false)
                                                              (br ((r48_4.Log.length : Int) != 1)
                                                                (some false)
                                                                (br (r48_4.Commit != 0)
                                                                  (some false)
                                                                  (ix r48_5 0 fun x58_1 =>
                                                                  bd (raft_Take fu r35_4 x58_1) fun (r58_4, r58_5) =>
                                                                  br ((r58_5.length : Int) != 0)
                                                                    (some false)
                                                                    (br (r58_4.Commit != 1)
                                                                      (some false)
                                                                      (br ((r58_4.Match.length : Int) != 3)
                                                                        (some false)
                                                                        (br ((r58_4.Next.length : Int) != 3)
                                                                          (some false)
                                                                          (ix r58_4.Match 1 fun x59_5 =>
                                                                          br (x59_5 != 1)
                                                                            (some false)
                                                                            (ix r58_4.Next 1 fun x59_9 =>
                                                                            br (x59_9 != 2)
                                                                              (some false)
                                                                              (bd (raft_Tick fu r58_4) fun (r67_1, r67_2) =>
                                                                              br ((r67_2.length : Int) != 2)
                                                                                (some false)
                                                                                (ix r67_2 0 fun x68_2 =>
                                                                                br (x68_2.Commit != 1)
                                                                                  (some false)
                                                                                  (ix r67_2 0 fun x68_6 =>
                                                                                  br (x68_6.Index != 1)
                                                                                    (some false)
                                                                                    (ix r67_2 0 fun x68_10 =>
                                                                                    br ((x68_10.Entries.length : Int) != 0)
                                                                                      (some false)
                                                                                      (ix r67_2 1 fun x68_14 =>
                                                                                      br ((x68_14.Entries.length : Int) != 1)
                                                                                        (some false)
                                                                                        (ix r67_2 0 fun x75_1 =>
                                                                                        bd (raft_Take fu r48_4 x75_1) fun (r75_4, r75_5) =>
                                                                                        br (r75_4.Commit == 1)
                                                                                          (br ((r75_5.length : Int) == 1)
                                                                                            (ix r75_5 0 fun x76_3 =>
                                                                                            br (x76_3.Index == 1)
                                                                                              (some (r67_1.Clock == 0))
                                                                                              (some false))
                                                                                            (some false))
                                                                                          (some false))))))))))))))))))))))))))))))))))))))))))
    | .inr _ =>
      some false))
theorem diwanlaw11_RaftForms.meets (fu : Nat) (z0 : Bool) (h : diwanlaw11_RaftForms fu = some z0) : Meets Try.prog ⟨6, [], []⟩ ⟨bv z0, []⟩ := by
  refine meets_of (O := diwanlaw11_RaftForms.O) hmix (fn := Try.f6) (code := bd6) (by kernel_rfl) ?_
  refine WK.weak (l := []) (wk_of (by kernel_rfl)) ?_
  unfold diwanlaw11_RaftForms at h
  refine WK.rs (g := []) (l' := []) (by kernel_rfl) .nil (by kernel_rfl) ?_
  refine WK.seq (by kernel_rfl) ?_
  obtain ⟨r2_1, h2_2, h⟩ := bd_inv h
  refine WK.rs (g := [.a ⟨bv r2_1, []⟩]) (l' := [(.t 6, [bv (!r2_1)])]) (by kernel_rfl) (.cons (Asks.of (C := Meets Try.prog) (diwanlaw11_begun.meets fu _ h2_2)) .nil) (by kernel_rfl) ?_
  rcases br_inv h with ⟨b3_0, h⟩ | ⟨b3_0, h⟩
  · refine WK.ct (b := (!r2_1)) (by kernel_rfl) b3_0 ?_
    refine WK.rs (g := []) (l' := [(.t 0, [bv false])]) (by kernel_rfl) .nil (by kernel_rfl) ?_
    refine WK.weak (l := [(.t 0, [bv false])]) (wk_of (by kernel_rfl)) ?_
    refine WK.ret (by kernel_rfl) ?_
    have h_ := some_inj h
    subst h_
    exact WKe.fin (e' := .ret) (by kernel_rfl) (fin_of (g := []) (by first | exact .inl rfl | exact .inr rfl) .nil (by kernel_rfl))
  · refine WK.ce (b := (!r2_1)) (by kernel_rfl) b3_0 ?_
    refine WK.skip (by kernel_rfl) ?_
    refine WKe.code (y := (cR (cR bd6))) (ks' := []) (by kernel_rfl) ?_
    obtain ⟨r5_1, h5_2, h⟩ := bd_inv h
    obtain ⟨r5_3, h5_4, h⟩ := bd_inv h
    refine WK.rs (g := [.a ⟨.data (TRaft.ag_000001000111 r5_1), []⟩, .a ⟨.data (TRaft.ag_000001000111 r5_3), []⟩]) (l' := [(.t 1, [.ptr 1 0]), (.t 2, [.ptr 2 0]), (.o 1, (TRaft.ob_000001000111 r5_1)), (.o 2, (TRaft.ob_000001000111 r5_3))]) (by kernel_rfl) (.cons (Asks.of (C := Meets Try.prog) (raft_New.meets 1 3 3 _ h5_2)) (.cons (Asks.of (C := Meets Try.prog) (raft_New.meets 2 3 5 _ h5_4)) .nil)) (by kernel_rfl) ?_
    refine WK.rs (g := []) (l' := [(.t 1, [.ptr 1 0]), (.t 2, [.ptr 2 0]), (.t 3, [.data (.slc true (some true) 24 (List.map TMsg.en []))]), (.o 1, (TRaft.ob_000001000111 r5_1)), (.o 2, (TRaft.ob_000001000111 r5_3))]) (by kernel_rfl) .nil (by kernel_rfl) ?_
    refine WK.seq (by kernel_rfl) ?_
    refine WK.rs (g := []) (l' := [(.t 1, [.ptr 1 0]), (.t 2, [.ptr 2 0]), (.t 3, [.data (.slc true (some true) 24 (List.map TMsg.en []))]), (.t 4, [iv 0]), (.o 1, (TRaft.ob_000001000111 r5_1)), (.o 2, (TRaft.ob_000001000111 r5_3))]) (by kernel_rfl) .nil (by kernel_rfl) ?_
    refine WK.block (n := 0) (by kernel_rfl) ?_
    refine WK.share (x := .tmp 3) (l' := [(.t 1, [.ptr 1 0]), (.t 2, [.ptr 2 0]), (.t 3, [.data (.slc false (some true) 24 (List.map TMsg.en []))]), (.t 4, [iv 0]), (.o 1, (TRaft.ob_000001000111 r5_1)), (.o 2, (TRaft.ob_000001000111 r5_3))]) (by kernel_rfl) ?_
    obtain ⟨o16, ho16, h⟩ := bd_inv h
    refine WK.shareO (i := 1) (cc := 5) (l' := [(.t 1, [.ptr 1 0]), (.t 2, [.ptr 2 0]), (.t 3, [.data (.slc false (some true) 24 (List.map TMsg.en []))]), (.t 4, [iv 0]), (.o 1, (TRaft.ob_000000000111 r5_1)), (.o 2, (TRaft.ob_000001000111 r5_3))]) (by kernel_rfl) (by kernel_rfl) (by kernel_rfl) ?_
    refine WK.shareO (i := 1) (cc := 9) (l' := [(.t 1, [.ptr 1 0]), (.t 2, [.ptr 2 0]), (.t 3, [.data (.slc false (some true) 24 (List.map TMsg.en []))]), (.t 4, [iv 0]), (.o 1, (TRaft.ob_000000000011 r5_1)), (.o 2, (TRaft.ob_000001000111 r5_3))]) (by kernel_rfl) (by kernel_rfl) (by kernel_rfl) ?_
    refine WK.shareO (i := 1) (cc := 10) (l' := [(.t 1, [.ptr 1 0]), (.t 2, [.ptr 2 0]), (.t 3, [.data (.slc false (some true) 24 (List.map TMsg.en []))]), (.t 4, [iv 0]), (.o 1, (TRaft.ob_000000000001 r5_1)), (.o 2, (TRaft.ob_000001000111 r5_3))]) (by kernel_rfl) (by kernel_rfl) (by kernel_rfl) ?_
    refine WK.shareO (i := 1) (cc := 11) (l' := [(.t 1, [.ptr 1 0]), (.t 2, [.ptr 2 0]), (.t 3, [.data (.slc false (some true) 24 (List.map TMsg.en []))]), (.t 4, [iv 0]), (.o 1, (TRaft.ob r5_1)), (.o 2, (TRaft.ob_000001000111 r5_3))]) (by kernel_rfl) (by kernel_rfl) (by kernel_rfl) ?_
    refine WK.weak (l := [(.t 1, [.ptr 1 0]), (.t 2, [.ptr 2 0]), (.t 3, [.data (.slc false none 24 (List.map TMsg.en []))]), (.t 4, [iv 0]), (.o 1, (TRaft.ob r5_1)), (.o 2, (TRaft.ob_000001000111 r5_3))]) (wk_of (by kernel_rfl)) ?_
    refine WK.use (diwanlaw11_RaftForms.lp8_ok fu r5_3 _ [] 0 r5_1 _ ho16) ?_
    intro e_ τ_ hp_
    rcases o16 with o16 | o16
    · obtain ⟨y16_0, y16_1⟩ := o16
      obtain ⟨rfl, rfl⟩ := hp_
      refine WKe.code (y := (cR (cR (cR (cR (cR bd6)))))) (ks' := []) (by kernel_rfl) ?_
      refine WK.seq (by kernel_rfl) ?_
      rcases br_inv h with ⟨b17_1, h⟩ | ⟨b17_1, h⟩
      · refine WK.rs (g := [.s (.t 22) [iv (y16_0.length : Int)], .b true, .b true, .b true, .b true, .b true, .b true, .b true, .b true, .b true, .b true, .b true, .b true, .b true, .b true, .b true, .b true, .b true, .b true, .b true, .b true, .b true, .b true, .b true, .b true, .b true, .b true, .b true, .b true, .b true, .b true, .b true, .b true, .b true, .b true, .b true, .b true, .b true, .b true]) (l' := [(.t 1, [.ptr 1 0]), (.t 2, [.ptr 2 0]), (.t 3, [.data (.slc false none 24 (List.map TMsg.en y16_0))]), (.t 68, [bv true]), (.o 1, (TRaft.ob y16_1)), (.o 2, (TRaft.ob_000001000111 r5_3))]) (by kernel_rfl) (.cons (c_len (e := TMsg.en) (l := y16_0)) (.cons b17_1 (.cons b17_1 (.cons b17_1 (.cons b17_1 (.cons b17_1 (.cons b17_1 (.cons (Eq.refl true) (.cons (Eq.refl true) (.cons (Eq.refl true) (.cons (Eq.refl true) (.cons (Eq.refl true) (.cons (Eq.refl true) (.cons (Eq.refl true) (.cons (Eq.refl true) (.cons (Eq.refl true) (.cons (Eq.refl true) (.cons (Eq.refl true) (.cons (Eq.refl true) (.cons (Eq.refl true) (.cons (Eq.refl true) (.cons (Eq.refl true) (.cons (Eq.refl true) (.cons (Eq.refl true) (.cons (Eq.refl true) (.cons (Eq.refl true) (.cons (Eq.refl true) (.cons (Eq.refl true) (.cons (Eq.refl true) (.cons (Eq.refl true) (.cons (Eq.refl true) (.cons (Eq.refl true) (.cons (Eq.refl true) (.cons (Eq.refl true) (.cons (Eq.refl true) (.cons (Eq.refl true) (.cons (Eq.refl true) (.cons (Eq.refl true) (.cons (Eq.refl true) .nil))))))))))))))))))))))))))))))))))))))) (by kernel_rfl) ?_
        refine WK.ct (b := true) (by kernel_rfl) rfl ?_
        refine WK.rs (g := []) (l' := [(.t 0, [bv false])]) (by kernel_rfl) .nil (by kernel_rfl) ?_
        refine WK.weak (l := [(.t 0, [bv false])]) (wk_of (by kernel_rfl)) ?_
        refine WK.ret (by kernel_rfl) ?_
        have h_ := some_inj h
        subst h_
        exact WKe.fin (e' := .ret) (by kernel_rfl) (fin_of (g := []) (by first | exact .inl rfl | exact .inr rfl) .nil (by kernel_rfl))
      · obtain ⟨x17_2, a17_3, e17_4, h⟩ := ix_inv h
        rcases br_inv h with ⟨b17_5, h⟩ | ⟨b17_5, h⟩
        · refine WK.rs (g := [.s (.t 22) [iv (y16_0.length : Int)], .b false, .b false, .c (TMsg.en x17_2), .b false, .b false, .b false, .b false, .b true, .b true, .b true, .b true, .b true, .b true, .b true, .b true, .b true, .b true, .b true, .b true, .b true, .b true, .b true, .b true, .b true, .b true, .b true, .b true, .b true, .b true, .b true, .b true, .b true, .b true, .b true, .b true, .b true, .b true, .b true, .b true]) (l' := [(.t 1, [.ptr 1 0]), (.t 2, [.ptr 2 0]), (.t 3, [.data (.slc false none 24 (List.map TMsg.en y16_0))]), (.t 68, [bv true]), (.o 1, (TRaft.ob y16_1)), (.o 2, (TRaft.ob_000001000111 r5_3))]) (by kernel_rfl) (.cons (c_len (e := TMsg.en) (l := y16_0)) (.cons b17_1 (.cons b17_1 (.cons (c_ix (e := TMsg.en) a17_3 e17_4) (.cons (c_el (e := TMsg.en) e17_4) (.cons b17_1 (.cons b17_1 (.cons b17_1 (.cons b17_1 (.cons b17_5 (.cons b17_5 (.cons b17_5 (.cons b17_5 (.cons b17_5 (.cons b17_5 (.cons (Eq.refl true) (.cons (Eq.refl true) (.cons (Eq.refl true) (.cons (Eq.refl true) (.cons (Eq.refl true) (.cons (Eq.refl true) (.cons (Eq.refl true) (.cons (Eq.refl true) (.cons (Eq.refl true) (.cons (Eq.refl true) (.cons (Eq.refl true) (.cons (Eq.refl true) (.cons (Eq.refl true) (.cons (Eq.refl true) (.cons (Eq.refl true) (.cons (Eq.refl true) (.cons (Eq.refl true) (.cons (Eq.refl true) (.cons (Eq.refl true) (.cons (Eq.refl true) (.cons (Eq.refl true) (.cons (Eq.refl true) (.cons (Eq.refl true) (.cons (Eq.refl true) (.cons (Eq.refl true) (.cons (Eq.refl true) .nil))))))))))))))))))))))))))))))))))))))))) (by kernel_rfl) ?_
          refine WK.ct (b := true) (by kernel_rfl) rfl ?_
          refine WK.rs (g := []) (l' := [(.t 0, [bv false])]) (by kernel_rfl) .nil (by kernel_rfl) ?_
          refine WK.weak (l := [(.t 0, [bv false])]) (wk_of (by kernel_rfl)) ?_
          refine WK.ret (by kernel_rfl) ?_
          have h_ := some_inj h
          subst h_
          exact WKe.fin (e' := .ret) (by kernel_rfl) (fin_of (g := []) (by first | exact .inl rfl | exact .inr rfl) .nil (by kernel_rfl))
        · obtain ⟨x17_6, a17_7, e17_8, h⟩ := ix_inv h
          rcases br_inv h with ⟨b17_9, h⟩ | ⟨b17_9, h⟩
          · refine WK.rs (g := [.s (.t 22) [iv (y16_0.length : Int)], .b false, .b false, .c (TMsg.en x17_2), .b false, .b false, .b false, .b false, .b false, .b false, .c (TMsg.en x17_6), .b false, .b false, .b false, .b false, .b true, .b true, .b true, .b true, .b true, .b true, .b true, .b true, .b true, .b true, .b true, .b true, .b true, .b true, .b true, .b true, .b true, .b true, .b true, .b true, .b true, .b true, .b true, .b true, .b true, .b true]) (l' := [(.t 1, [.ptr 1 0]), (.t 2, [.ptr 2 0]), (.t 3, [.data (.slc false none 24 (List.map TMsg.en y16_0))]), (.t 68, [bv true]), (.o 1, (TRaft.ob y16_1)), (.o 2, (TRaft.ob_000001000111 r5_3))]) (by kernel_rfl) (.cons (c_len (e := TMsg.en) (l := y16_0)) (.cons b17_1 (.cons b17_1 (.cons (c_ix (e := TMsg.en) a17_3 e17_4) (.cons (c_el (e := TMsg.en) e17_4) (.cons b17_1 (.cons b17_1 (.cons b17_1 (.cons b17_1 (.cons b17_5 (.cons b17_5 (.cons (c_ix (e := TMsg.en) a17_7 e17_8) (.cons (c_el (e := TMsg.en) e17_8) (.cons b17_5 (.cons b17_5 (.cons b17_5 (.cons b17_5 (.cons b17_9 (.cons b17_9 (.cons b17_9 (.cons b17_9 (.cons b17_9 (.cons b17_9 (.cons (Eq.refl true) (.cons (Eq.refl true) (.cons (Eq.refl true) (.cons (Eq.refl true) (.cons (Eq.refl true) (.cons (Eq.refl true) (.cons (Eq.refl true) (.cons (Eq.refl true) (.cons (Eq.refl true) (.cons (Eq.refl true) (.cons (Eq.refl true) (.cons (Eq.refl true) (.cons (Eq.refl true) (.cons (Eq.refl true) (.cons (Eq.refl true) (.cons (Eq.refl true) (.cons (Eq.refl true) (.cons (Eq.refl true) (.cons (Eq.refl true) (.cons (Eq.refl true) .nil))))))))))))))))))))))))))))))))))))))))))) (by kernel_rfl) ?_
            refine WK.ct (b := true) (by kernel_rfl) rfl ?_
            refine WK.rs (g := []) (l' := [(.t 0, [bv false])]) (by kernel_rfl) .nil (by kernel_rfl) ?_
            refine WK.weak (l := [(.t 0, [bv false])]) (wk_of (by kernel_rfl)) ?_
            refine WK.ret (by kernel_rfl) ?_
            have h_ := some_inj h
            subst h_
            exact WKe.fin (e' := .ret) (by kernel_rfl) (fin_of (g := []) (by first | exact .inl rfl | exact .inr rfl) .nil (by kernel_rfl))
          · obtain ⟨x17_10, a17_11, e17_12, h⟩ := ix_inv h
            rcases br_inv h with ⟨b17_13, h⟩ | ⟨b17_13, h⟩
            · refine WK.rs (g := [.s (.t 22) [iv (y16_0.length : Int)], .b false, .b false, .c (TMsg.en x17_2), .b false, .b false, .b false, .b false, .b false, .b false, .c (TMsg.en x17_6), .b false, .b false, .b false, .b false, .b false, .b false, .c (TMsg.en x17_10), .b false, .b false, .b false, .b false, .b true, .b true, .b true, .b true, .b true, .b true, .b true, .b true, .b true, .b true, .b true, .b true, .b true, .b true, .b true, .b true, .b true, .b true, .b true, .b true]) (l' := [(.t 1, [.ptr 1 0]), (.t 2, [.ptr 2 0]), (.t 3, [.data (.slc false none 24 (List.map TMsg.en y16_0))]), (.t 68, [bv true]), (.o 1, (TRaft.ob y16_1)), (.o 2, (TRaft.ob_000001000111 r5_3))]) (by kernel_rfl) (.cons (c_len (e := TMsg.en) (l := y16_0)) (.cons b17_1 (.cons b17_1 (.cons (c_ix (e := TMsg.en) a17_3 e17_4) (.cons (c_el (e := TMsg.en) e17_4) (.cons b17_1 (.cons b17_1 (.cons b17_1 (.cons b17_1 (.cons b17_5 (.cons b17_5 (.cons (c_ix (e := TMsg.en) a17_7 e17_8) (.cons (c_el (e := TMsg.en) e17_8) (.cons b17_5 (.cons b17_5 (.cons b17_5 (.cons b17_5 (.cons b17_9 (.cons b17_9 (.cons (c_ix (e := TMsg.en) a17_11 e17_12) (.cons (c_el (e := TMsg.en) e17_12) (.cons b17_9 (.cons b17_9 (.cons b17_9 (.cons b17_9 (.cons b17_13 (.cons b17_13 (.cons b17_13 (.cons b17_13 (.cons b17_13 (.cons b17_13 (.cons (Eq.refl true) (.cons (Eq.refl true) (.cons (Eq.refl true) (.cons (Eq.refl true) (.cons (Eq.refl true) (.cons (Eq.refl true) (.cons (Eq.refl true) (.cons (Eq.refl true) (.cons (Eq.refl true) (.cons (Eq.refl true) (.cons (Eq.refl true) (.cons (Eq.refl true) (.cons (Eq.refl true) (.cons (Eq.refl true) .nil))))))))))))))))))))))))))))))))))))))))))))) (by kernel_rfl) ?_
              refine WK.ct (b := true) (by kernel_rfl) rfl ?_
              refine WK.rs (g := []) (l' := [(.t 0, [bv false])]) (by kernel_rfl) .nil (by kernel_rfl) ?_
              refine WK.weak (l := [(.t 0, [bv false])]) (wk_of (by kernel_rfl)) ?_
              refine WK.ret (by kernel_rfl) ?_
              have h_ := some_inj h
              subst h_
              exact WKe.fin (e' := .ret) (by kernel_rfl) (fin_of (g := []) (by first | exact .inl rfl | exact .inr rfl) .nil (by kernel_rfl))
            · obtain ⟨x17_14, a17_15, e17_16, h⟩ := ix_inv h
              rcases br_inv h with ⟨b17_17, h⟩ | ⟨b17_17, h⟩
              · refine WK.rs (g := [.s (.t 22) [iv (y16_0.length : Int)], .b false, .b false, .c (TMsg.en x17_2), .b false, .b false, .b false, .b false, .b false, .b false, .c (TMsg.en x17_6), .b false, .b false, .b false, .b false, .b false, .b false, .c (TMsg.en x17_10), .b false, .b false, .b false, .b false, .b false, .b false, .c (TMsg.en x17_14), .b false, .b false, .b false, .b false, .b true, .b true, .b true, .b true, .b true, .b true, .b true, .b true, .b true, .b true, .b true, .b true, .b true, .b true]) (l' := [(.t 1, [.ptr 1 0]), (.t 2, [.ptr 2 0]), (.t 3, [.data (.slc false none 24 (List.map TMsg.en y16_0))]), (.t 68, [bv true]), (.o 1, (TRaft.ob y16_1)), (.o 2, (TRaft.ob_000001000111 r5_3))]) (by kernel_rfl) (.cons (c_len (e := TMsg.en) (l := y16_0)) (.cons b17_1 (.cons b17_1 (.cons (c_ix (e := TMsg.en) a17_3 e17_4) (.cons (c_el (e := TMsg.en) e17_4) (.cons b17_1 (.cons b17_1 (.cons b17_1 (.cons b17_1 (.cons b17_5 (.cons b17_5 (.cons (c_ix (e := TMsg.en) a17_7 e17_8) (.cons (c_el (e := TMsg.en) e17_8) (.cons b17_5 (.cons b17_5 (.cons b17_5 (.cons b17_5 (.cons b17_9 (.cons b17_9 (.cons (c_ix (e := TMsg.en) a17_11 e17_12) (.cons (c_el (e := TMsg.en) e17_12) (.cons b17_9 (.cons b17_9 (.cons b17_9 (.cons b17_9 (.cons b17_13 (.cons b17_13 (.cons (c_ix (e := TMsg.en) a17_15 e17_16) (.cons (c_el (e := TMsg.en) e17_16) (.cons b17_13 (.cons b17_13 (.cons b17_13 (.cons b17_13 (.cons b17_17 (.cons b17_17 (.cons b17_17 (.cons b17_17 (.cons b17_17 (.cons b17_17 (.cons (Eq.refl true) (.cons (Eq.refl true) (.cons (Eq.refl true) (.cons (Eq.refl true) (.cons (Eq.refl true) (.cons (Eq.refl true) (.cons (Eq.refl true) (.cons (Eq.refl true) .nil))))))))))))))))))))))))))))))))))))))))))))))) (by kernel_rfl) ?_
                refine WK.ct (b := true) (by kernel_rfl) rfl ?_
                refine WK.rs (g := []) (l' := [(.t 0, [bv false])]) (by kernel_rfl) .nil (by kernel_rfl) ?_
                refine WK.weak (l := [(.t 0, [bv false])]) (wk_of (by kernel_rfl)) ?_
                refine WK.ret (by kernel_rfl) ?_
                have h_ := some_inj h
                subst h_
                exact WKe.fin (e' := .ret) (by kernel_rfl) (fin_of (g := []) (by first | exact .inl rfl | exact .inr rfl) .nil (by kernel_rfl))
              · obtain ⟨x17_18, a17_19, e17_20, h⟩ := ix_inv h
                rcases br_inv h with ⟨b17_21, h⟩ | ⟨b17_21, h⟩
                · refine WK.rs (g := [.s (.t 22) [iv (y16_0.length : Int)], .b false, .b false, .c (TMsg.en x17_2), .b false, .b false, .b false, .b false, .b false, .b false, .c (TMsg.en x17_6), .b false, .b false, .b false, .b false, .b false, .b false, .c (TMsg.en x17_10), .b false, .b false, .b false, .b false, .b false, .b false, .c (TMsg.en x17_14), .b false, .b false, .b false, .b false, .b false, .b false, .c (TMsg.en x17_18), .b false, .b false, .b false, .b false, .b true, .b true, .b true, .b true, .b true, .b true, .b true, .b true]) (l' := [(.t 1, [.ptr 1 0]), (.t 2, [.ptr 2 0]), (.t 3, [.data (.slc false none 24 (List.map TMsg.en y16_0))]), (.t 68, [bv true]), (.o 1, (TRaft.ob y16_1)), (.o 2, (TRaft.ob_000001000111 r5_3))]) (by kernel_rfl) (.cons (c_len (e := TMsg.en) (l := y16_0)) (.cons b17_1 (.cons b17_1 (.cons (c_ix (e := TMsg.en) a17_3 e17_4) (.cons (c_el (e := TMsg.en) e17_4) (.cons b17_1 (.cons b17_1 (.cons b17_1 (.cons b17_1 (.cons b17_5 (.cons b17_5 (.cons (c_ix (e := TMsg.en) a17_7 e17_8) (.cons (c_el (e := TMsg.en) e17_8) (.cons b17_5 (.cons b17_5 (.cons b17_5 (.cons b17_5 (.cons b17_9 (.cons b17_9 (.cons (c_ix (e := TMsg.en) a17_11 e17_12) (.cons (c_el (e := TMsg.en) e17_12) (.cons b17_9 (.cons b17_9 (.cons b17_9 (.cons b17_9 (.cons b17_13 (.cons b17_13 (.cons (c_ix (e := TMsg.en) a17_15 e17_16) (.cons (c_el (e := TMsg.en) e17_16) (.cons b17_13 (.cons b17_13 (.cons b17_13 (.cons b17_13 (.cons b17_17 (.cons b17_17 (.cons (c_ix (e := TMsg.en) a17_19 e17_20) (.cons (c_el (e := TMsg.en) e17_20) (.cons b17_17 (.cons b17_17 (.cons b17_17 (.cons b17_17 (.cons b17_21 (.cons b17_21 (.cons b17_21 (.cons b17_21 (.cons (Eq.refl true) (.cons (Eq.refl true) (.cons (Eq.refl true) (.cons (Eq.refl true) .nil))))))))))))))))))))))))))))))))))))))))))))))))) (by kernel_rfl) ?_
                  refine WK.ct (b := true) (by kernel_rfl) rfl ?_
                  refine WK.rs (g := []) (l' := [(.t 0, [bv false])]) (by kernel_rfl) .nil (by kernel_rfl) ?_
                  refine WK.weak (l := [(.t 0, [bv false])]) (wk_of (by kernel_rfl)) ?_
                  refine WK.ret (by kernel_rfl) ?_
                  have h_ := some_inj h
                  subst h_
                  exact WKe.fin (e' := .ret) (by kernel_rfl) (fin_of (g := []) (by first | exact .inl rfl | exact .inr rfl) .nil (by kernel_rfl))
                · rcases br_inv h with ⟨b17_22, h⟩ | ⟨b17_22, h⟩
                  · refine WK.rs (g := [.s (.t 22) [iv (y16_0.length : Int)], .b false, .b false, .c (TMsg.en x17_2), .b false, .b false, .b false, .b false, .b false, .b false, .c (TMsg.en x17_6), .b false, .b false, .b false, .b false, .b false, .b false, .c (TMsg.en x17_10), .b false, .b false, .b false, .b false, .b false, .b false, .c (TMsg.en x17_14), .b false, .b false, .b false, .b false, .b false, .b false, .c (TMsg.en x17_18), .b false, .b false, .b false, .b false, .b false, .b false, .b false, .b false, .b true, .b true, .b true, .b true]) (l' := [(.t 1, [.ptr 1 0]), (.t 2, [.ptr 2 0]), (.t 3, [.data (.slc false none 24 (List.map TMsg.en y16_0))]), (.t 68, [bv true]), (.o 1, (TRaft.ob y16_1)), (.o 2, (TRaft.ob_000001000111 r5_3))]) (by kernel_rfl) (.cons (c_len (e := TMsg.en) (l := y16_0)) (.cons b17_1 (.cons b17_1 (.cons (c_ix (e := TMsg.en) a17_3 e17_4) (.cons (c_el (e := TMsg.en) e17_4) (.cons b17_1 (.cons b17_1 (.cons b17_1 (.cons b17_1 (.cons b17_5 (.cons b17_5 (.cons (c_ix (e := TMsg.en) a17_7 e17_8) (.cons (c_el (e := TMsg.en) e17_8) (.cons b17_5 (.cons b17_5 (.cons b17_5 (.cons b17_5 (.cons b17_9 (.cons b17_9 (.cons (c_ix (e := TMsg.en) a17_11 e17_12) (.cons (c_el (e := TMsg.en) e17_12) (.cons b17_9 (.cons b17_9 (.cons b17_9 (.cons b17_9 (.cons b17_13 (.cons b17_13 (.cons (c_ix (e := TMsg.en) a17_15 e17_16) (.cons (c_el (e := TMsg.en) e17_16) (.cons b17_13 (.cons b17_13 (.cons b17_13 (.cons b17_13 (.cons b17_17 (.cons b17_17 (.cons (c_ix (e := TMsg.en) a17_19 e17_20) (.cons (c_el (e := TMsg.en) e17_20) (.cons b17_17 (.cons b17_17 (.cons b17_17 (.cons b17_17 (.cons b17_21 (.cons b17_21 (.cons b17_21 (.cons b17_21 (.cons b17_22 (.cons b17_22 (.cons b17_22 (.cons b17_22 .nil))))))))))))))))))))))))))))))))))))))))))))))))) (by kernel_rfl) ?_
                    refine WK.ct (b := true) (by kernel_rfl) rfl ?_
                    refine WK.rs (g := []) (l' := [(.t 0, [bv false])]) (by kernel_rfl) .nil (by kernel_rfl) ?_
                    refine WK.weak (l := [(.t 0, [bv false])]) (wk_of (by kernel_rfl)) ?_
                    refine WK.ret (by kernel_rfl) ?_
                    have h_ := some_inj h
                    subst h_
                    exact WKe.fin (e' := .ret) (by kernel_rfl) (fin_of (g := []) (by first | exact .inl rfl | exact .inr rfl) .nil (by kernel_rfl))
                  · refine WK.rs (g := [.s (.t 22) [iv (y16_0.length : Int)], .b false, .b false, .c (TMsg.en x17_2), .b false, .b false, .b false, .b false, .b false, .b false, .c (TMsg.en x17_6), .b false, .b false, .b false, .b false, .b false, .b false, .c (TMsg.en x17_10), .b false, .b false, .b false, .b false, .b false, .b false, .c (TMsg.en x17_14), .b false, .b false, .b false, .b false, .b false, .b false, .c (TMsg.en x17_18), .b false, .b false, .b false, .b false, .b false, .b false, .b false, .b false, .b false, .b false, .b false, .b false]) (l' := [(.t 1, [.ptr 1 0]), (.t 2, [.ptr 2 0]), (.t 3, [.data (.slc false none 24 (List.map TMsg.en y16_0))]), (.t 68, [bv (y16_1.Vote != 1)]), (.o 1, (TRaft.ob y16_1)), (.o 2, (TRaft.ob_000001000111 r5_3))]) (by kernel_rfl) (.cons (c_len (e := TMsg.en) (l := y16_0)) (.cons b17_1 (.cons b17_1 (.cons (c_ix (e := TMsg.en) a17_3 e17_4) (.cons (c_el (e := TMsg.en) e17_4) (.cons b17_1 (.cons b17_1 (.cons b17_1 (.cons b17_1 (.cons b17_5 (.cons b17_5 (.cons (c_ix (e := TMsg.en) a17_7 e17_8) (.cons (c_el (e := TMsg.en) e17_8) (.cons b17_5 (.cons b17_5 (.cons b17_5 (.cons b17_5 (.cons b17_9 (.cons b17_9 (.cons (c_ix (e := TMsg.en) a17_11 e17_12) (.cons (c_el (e := TMsg.en) e17_12) (.cons b17_9 (.cons b17_9 (.cons b17_9 (.cons b17_9 (.cons b17_13 (.cons b17_13 (.cons (c_ix (e := TMsg.en) a17_15 e17_16) (.cons (c_el (e := TMsg.en) e17_16) (.cons b17_13 (.cons b17_13 (.cons b17_13 (.cons b17_13 (.cons b17_17 (.cons b17_17 (.cons (c_ix (e := TMsg.en) a17_19 e17_20) (.cons (c_el (e := TMsg.en) e17_20) (.cons b17_17 (.cons b17_17 (.cons b17_17 (.cons b17_17 (.cons b17_21 (.cons b17_21 (.cons b17_21 (.cons b17_21 (.cons b17_22 (.cons b17_22 (.cons b17_22 (.cons b17_22 .nil))))))))))))))))))))))))))))))))))))))))))))))))) (by kernel_rfl) ?_
                    rcases br_inv h with ⟨b25_0, h⟩ | ⟨b25_0, h⟩
                    · refine WK.ct (b := (y16_1.Vote != 1)) (by kernel_rfl) b25_0 ?_
                      refine WK.rs (g := []) (l' := [(.t 0, [bv false])]) (by kernel_rfl) .nil (by kernel_rfl) ?_
                      refine WK.weak (l := [(.t 0, [bv false])]) (wk_of (by kernel_rfl)) ?_
                      refine WK.ret (by kernel_rfl) ?_
                      have h_ := some_inj h
                      subst h_
                      exact WKe.fin (e' := .ret) (by kernel_rfl) (fin_of (g := []) (by first | exact .inl rfl | exact .inr rfl) .nil (by kernel_rfl))
                    · refine WK.ce (b := (y16_1.Vote != 1)) (by kernel_rfl) b25_0 ?_
                      refine WK.skip (by kernel_rfl) ?_
                      refine WKe.code (y := (cR (cR (cR (cR (cR (cR bd6))))))) (ks' := []) (by kernel_rfl) ?_
                      refine WK.shareO (i := 2) (cc := 10) (l' := [(.t 1, [.ptr 1 0]), (.t 2, [.ptr 2 0]), (.t 3, [.data (.slc false none 24 (List.map TMsg.en y16_0))]), (.o 1, (TRaft.ob y16_1)), (.o 2, (TRaft.ob_000001000101 r5_3))]) (by kernel_rfl) (by kernel_rfl) (by kernel_rfl) ?_
                      refine WK.shareO (i := 2) (cc := 11) (l' := [(.t 1, [.ptr 1 0]), (.t 2, [.ptr 2 0]), (.t 3, [.data (.slc false none 24 (List.map TMsg.en y16_0))]), (.o 1, (TRaft.ob y16_1)), (.o 2, (TRaft.ob_0000010001 r5_3))]) (by kernel_rfl) (by kernel_rfl) (by kernel_rfl) ?_
                      refine WK.shareO (i := 2) (cc := 5) (l' := [(.t 1, [.ptr 1 0]), (.t 2, [.ptr 2 0]), (.t 3, [.data (.slc false none 24 (List.map TMsg.en y16_0))]), (.o 1, (TRaft.ob y16_1)), (.o 2, (TRaft.ob_0000000001 r5_3))]) (by kernel_rfl) (by kernel_rfl) (by kernel_rfl) ?_
                      refine WK.shareO (i := 2) (cc := 9) (l' := [(.t 1, [.ptr 1 0]), (.t 2, [.ptr 2 0]), (.t 3, [.data (.slc false none 24 (List.map TMsg.en y16_0))]), (.o 1, (TRaft.ob y16_1)), (.o 2, (TRaft.ob r5_3))]) (by kernel_rfl) (by kernel_rfl) (by kernel_rfl) ?_
                      obtain ⟨x27_1, a27_2, e27_3, h⟩ := ix_inv h
                      obtain ⟨⟨r27_4, r27_5⟩, h27_6, h⟩ := bd_inv h
                      refine WK.rs (g := [.c (TMsg.en x27_1), .a ⟨.tup [.data (TRaft.ag r27_4), .data (.slc false none 24 (List.map TMsg.en r27_5))], []⟩]) (l' := [(.t 1, [.ptr 1 0]), (.t 2, [.ptr 2 0]), (.t 3, [.data (.slc false none 24 (List.map TMsg.en r27_5))]), (.o 1, (TRaft.ob y16_1)), (.o 2, (TRaft.ob r27_4))]) (by kernel_rfl) (.cons (c_ix (e := TMsg.en) a27_2 e27_3) (.cons (c_el (e := TMsg.en) e27_3) (.cons (Asks.of (C := Meets Try.prog) (raft_Take.meets fu r5_3 x27_1 _ _ h27_6)) (.cons (Eq.refl true) .nil)))) (by kernel_rfl) ?_
                      refine WK.seq (by kernel_rfl) ?_
                      rcases br_inv h with ⟨b28_1, h⟩ | ⟨b28_1, h⟩
                      · refine WK.rs (g := [.s (.t 78) [iv (r27_5.length : Int)], .b true, .b true, .b true, .b true, .b true, .b true, .b true, .b true, .b true, .b true, .b true, .b true, .b true, .b true, .b true, .b true, .b true, .b true, .b true, .b true]) (l' := [(.t 1, [.ptr 1 0]), (.t 2, [.ptr 2 0]), (.t 3, [.data (.slc false none 24 (List.map TMsg.en r27_5))]), (.t 103, [bv true]), (.o 1, (TRaft.ob y16_1)), (.o 2, (TRaft.ob r27_4))]) (by kernel_rfl) (.cons (c_len (e := TMsg.en) (l := r27_5)) (.cons b28_1 (.cons b28_1 (.cons b28_1 (.cons b28_1 (.cons b28_1 (.cons b28_1 (.cons (Eq.refl true) (.cons (Eq.refl true) (.cons (Eq.refl true) (.cons (Eq.refl true) (.cons (Eq.refl true) (.cons (Eq.refl true) (.cons (Eq.refl true) (.cons (Eq.refl true) (.cons (Eq.refl true) (.cons (Eq.refl true) (.cons (Eq.refl true) (.cons (Eq.refl true) (.cons (Eq.refl true) (.cons (Eq.refl true) .nil))))))))))))))))))))) (by kernel_rfl) ?_
                        refine WK.ct (b := true) (by kernel_rfl) rfl ?_
                        refine WK.rs (g := []) (l' := [(.t 0, [bv false])]) (by kernel_rfl) .nil (by kernel_rfl) ?_
                        refine WK.weak (l := [(.t 0, [bv false])]) (wk_of (by kernel_rfl)) ?_
                        refine WK.ret (by kernel_rfl) ?_
                        have h_ := some_inj h
                        subst h_
                        exact WKe.fin (e' := .ret) (by kernel_rfl) (fin_of (g := []) (by first | exact .inl rfl | exact .inr rfl) .nil (by kernel_rfl))
                      · obtain ⟨x28_2, a28_3, e28_4, h⟩ := ix_inv h
                        rcases br_inv h with ⟨b28_5, h⟩ | ⟨b28_5, h⟩
                        · refine WK.rs (g := [.s (.t 78) [iv (r27_5.length : Int)], .b false, .b false, .c (TMsg.en x28_2), .b false, .b false, .b false, .b false, .b true, .b true, .b true, .b true, .b true, .b true, .b true, .b true, .b true, .b true, .b true, .b true, .b true, .b true]) (l' := [(.t 1, [.ptr 1 0]), (.t 2, [.ptr 2 0]), (.t 3, [.data (.slc false none 24 (List.map TMsg.en r27_5))]), (.t 103, [bv true]), (.o 1, (TRaft.ob y16_1)), (.o 2, (TRaft.ob r27_4))]) (by kernel_rfl) (.cons (c_len (e := TMsg.en) (l := r27_5)) (.cons b28_1 (.cons b28_1 (.cons (c_ix (e := TMsg.en) a28_3 e28_4) (.cons (c_el (e := TMsg.en) e28_4) (.cons b28_1 (.cons b28_1 (.cons b28_1 (.cons b28_1 (.cons b28_5 (.cons b28_5 (.cons b28_5 (.cons b28_5 (.cons b28_5 (.cons b28_5 (.cons (Eq.refl true) (.cons (Eq.refl true) (.cons (Eq.refl true) (.cons (Eq.refl true) (.cons (Eq.refl true) (.cons (Eq.refl true) (.cons (Eq.refl true) (.cons (Eq.refl true) .nil))))))))))))))))))))))) (by kernel_rfl) ?_
                          refine WK.ct (b := true) (by kernel_rfl) rfl ?_
                          refine WK.rs (g := []) (l' := [(.t 0, [bv false])]) (by kernel_rfl) .nil (by kernel_rfl) ?_
                          refine WK.weak (l := [(.t 0, [bv false])]) (wk_of (by kernel_rfl)) ?_
                          refine WK.ret (by kernel_rfl) ?_
                          have h_ := some_inj h
                          subst h_
                          exact WKe.fin (e' := .ret) (by kernel_rfl) (fin_of (g := []) (by first | exact .inl rfl | exact .inr rfl) .nil (by kernel_rfl))
                        · obtain ⟨x28_6, a28_7, e28_8, h⟩ := ix_inv h
                          rcases br_inv h with ⟨b28_9, h⟩ | ⟨b28_9, h⟩
                          · refine WK.rs (g := [.s (.t 78) [iv (r27_5.length : Int)], .b false, .b false, .c (TMsg.en x28_2), .b false, .b false, .b false, .b false, .b false, .b false, .c (TMsg.en x28_6), .b false, .b false, .b false, .b false, .b true, .b true, .b true, .b true, .b true, .b true, .b true, .b true]) (l' := [(.t 1, [.ptr 1 0]), (.t 2, [.ptr 2 0]), (.t 3, [.data (.slc false none 24 (List.map TMsg.en r27_5))]), (.t 103, [bv true]), (.o 1, (TRaft.ob y16_1)), (.o 2, (TRaft.ob r27_4))]) (by kernel_rfl) (.cons (c_len (e := TMsg.en) (l := r27_5)) (.cons b28_1 (.cons b28_1 (.cons (c_ix (e := TMsg.en) a28_3 e28_4) (.cons (c_el (e := TMsg.en) e28_4) (.cons b28_1 (.cons b28_1 (.cons b28_1 (.cons b28_1 (.cons b28_5 (.cons b28_5 (.cons (c_ix (e := TMsg.en) a28_7 e28_8) (.cons (c_el (e := TMsg.en) e28_8) (.cons b28_5 (.cons b28_5 (.cons b28_5 (.cons b28_5 (.cons b28_9 (.cons b28_9 (.cons b28_9 (.cons b28_9 (.cons (Eq.refl true) (.cons (Eq.refl true) (.cons (Eq.refl true) (.cons (Eq.refl true) .nil))))))))))))))))))))))))) (by kernel_rfl) ?_
                            refine WK.ct (b := true) (by kernel_rfl) rfl ?_
                            refine WK.rs (g := []) (l' := [(.t 0, [bv false])]) (by kernel_rfl) .nil (by kernel_rfl) ?_
                            refine WK.weak (l := [(.t 0, [bv false])]) (wk_of (by kernel_rfl)) ?_
                            refine WK.ret (by kernel_rfl) ?_
                            have h_ := some_inj h
                            subst h_
                            exact WKe.fin (e' := .ret) (by kernel_rfl) (fin_of (g := []) (by first | exact .inl rfl | exact .inr rfl) .nil (by kernel_rfl))
                          · rcases br_inv h with ⟨b28_10, h⟩ | ⟨b28_10, h⟩
                            · refine WK.rs (g := [.s (.t 78) [iv (r27_5.length : Int)], .b false, .b false, .c (TMsg.en x28_2), .b false, .b false, .b false, .b false, .b false, .b false, .c (TMsg.en x28_6), .b false, .b false, .b false, .b false, .b false, .b false, .b false, .b false, .b true, .b true, .b true, .b true]) (l' := [(.t 1, [.ptr 1 0]), (.t 2, [.ptr 2 0]), (.t 3, [.data (.slc false none 24 (List.map TMsg.en r27_5))]), (.t 103, [bv true]), (.o 1, (TRaft.ob y16_1)), (.o 2, (TRaft.ob r27_4))]) (by kernel_rfl) (.cons (c_len (e := TMsg.en) (l := r27_5)) (.cons b28_1 (.cons b28_1 (.cons (c_ix (e := TMsg.en) a28_3 e28_4) (.cons (c_el (e := TMsg.en) e28_4) (.cons b28_1 (.cons b28_1 (.cons b28_1 (.cons b28_1 (.cons b28_5 (.cons b28_5 (.cons (c_ix (e := TMsg.en) a28_7 e28_8) (.cons (c_el (e := TMsg.en) e28_8) (.cons b28_5 (.cons b28_5 (.cons b28_5 (.cons b28_5 (.cons b28_9 (.cons b28_9 (.cons b28_9 (.cons b28_9 (.cons b28_10 (.cons b28_10 (.cons b28_10 (.cons b28_10 .nil))))))))))))))))))))))))) (by kernel_rfl) ?_
                              refine WK.ct (b := true) (by kernel_rfl) rfl ?_
                              refine WK.rs (g := []) (l' := [(.t 0, [bv false])]) (by kernel_rfl) .nil (by kernel_rfl) ?_
                              refine WK.weak (l := [(.t 0, [bv false])]) (wk_of (by kernel_rfl)) ?_
                              refine WK.ret (by kernel_rfl) ?_
                              have h_ := some_inj h
                              subst h_
                              exact WKe.fin (e' := .ret) (by kernel_rfl) (fin_of (g := []) (by first | exact .inl rfl | exact .inr rfl) .nil (by kernel_rfl))
                            · refine WK.rs (g := [.s (.t 78) [iv (r27_5.length : Int)], .b false, .b false, .c (TMsg.en x28_2), .b false, .b false, .b false, .b false, .b false, .b false, .c (TMsg.en x28_6), .b false, .b false, .b false, .b false, .b false, .b false, .b false, .b false, .b false, .b false, .b false, .b false]) (l' := [(.t 1, [.ptr 1 0]), (.t 2, [.ptr 2 0]), (.t 3, [.data (.slc false none 24 (List.map TMsg.en r27_5))]), (.t 103, [bv (r27_4.Term != 1)]), (.o 1, (TRaft.ob y16_1)), (.o 2, (TRaft.ob r27_4))]) (by kernel_rfl) (.cons (c_len (e := TMsg.en) (l := r27_5)) (.cons b28_1 (.cons b28_1 (.cons (c_ix (e := TMsg.en) a28_3 e28_4) (.cons (c_el (e := TMsg.en) e28_4) (.cons b28_1 (.cons b28_1 (.cons b28_1 (.cons b28_1 (.cons b28_5 (.cons b28_5 (.cons (c_ix (e := TMsg.en) a28_7 e28_8) (.cons (c_el (e := TMsg.en) e28_8) (.cons b28_5 (.cons b28_5 (.cons b28_5 (.cons b28_5 (.cons b28_9 (.cons b28_9 (.cons b28_9 (.cons b28_9 (.cons b28_10 (.cons b28_10 (.cons b28_10 (.cons b28_10 .nil))))))))))))))))))))))))) (by kernel_rfl) ?_
                              rcases br_inv h with ⟨b33_0, h⟩ | ⟨b33_0, h⟩
                              · refine WK.ct (b := (r27_4.Term != 1)) (by kernel_rfl) b33_0 ?_
                                refine WK.rs (g := []) (l' := [(.t 0, [bv false])]) (by kernel_rfl) .nil (by kernel_rfl) ?_
                                refine WK.weak (l := [(.t 0, [bv false])]) (wk_of (by kernel_rfl)) ?_
                                refine WK.ret (by kernel_rfl) ?_
                                have h_ := some_inj h
                                subst h_
                                exact WKe.fin (e' := .ret) (by kernel_rfl) (fin_of (g := []) (by first | exact .inl rfl | exact .inr rfl) .nil (by kernel_rfl))
                              · refine WK.ce (b := (r27_4.Term != 1)) (by kernel_rfl) b33_0 ?_
                                refine WK.skip (by kernel_rfl) ?_
                                refine WKe.code (y := (cR (cR (cR (cR (cR (cR (cR (cR bd6))))))))) (ks' := []) (by kernel_rfl) ?_
                                obtain ⟨x35_1, a35_2, e35_3, h⟩ := ix_inv h
                                obtain ⟨⟨r35_4, r35_5⟩, h35_6, h⟩ := bd_inv h
                                refine WK.rs (g := [.c (TMsg.en x35_1), .a ⟨.tup [.data (TRaft.ag r35_4), .data (.slc false none 24 (List.map TMsg.en r35_5))], []⟩]) (l' := [(.t 1, [.ptr 1 0]), (.t 2, [.ptr 2 0]), (.t 3, [.data (.slc false none 24 (List.map TMsg.en r35_5))]), (.o 1, (TRaft.ob r35_4)), (.o 2, (TRaft.ob r27_4))]) (by kernel_rfl) (.cons (c_ix (e := TMsg.en) a35_2 e35_3) (.cons (c_el (e := TMsg.en) e35_3) (.cons (Asks.of (C := Meets Try.prog) (raft_Take.meets fu y16_1 x35_1 _ _ h35_6)) (.cons (Eq.refl true) .nil)))) (by kernel_rfl) ?_
                                refine WK.seq (by kernel_rfl) ?_
                                rcases br_inv h with ⟨b36_1, h⟩ | ⟨b36_1, h⟩
                                · refine WK.rs (g := [.s (.t 113) [iv (r35_5.length : Int)], .b true, .b true, .b true, .b true, .b true, .b true, .b true, .b true, .b true, .b true, .b true, .b true, .b true, .b true, .b true, .b true, .b true, .b true, .b true, .b true, .b true, .b true, .b true, .b true, .b true, .b true, .b true, .b true, .b true, .b true, .b true, .b true, .b true, .b true, .b true, .b true, .b true, .b true, .b true, .b true, .b true, .b true, .b true, .b true, .b true, .b true, .b true, .b true, .b true, .b true, .b true, .b true, .b true, .b true]) (l' := [(.t 1, [.ptr 1 0]), (.t 2, [.ptr 2 0]), (.t 3, [.data (.slc false none 24 (List.map TMsg.en r35_5))]), (.t 177, [bv true]), (.o 1, (TRaft.ob r35_4)), (.o 2, (TRaft.ob r27_4))]) (by kernel_rfl) (.cons (c_len (e := TMsg.en) (l := r35_5)) (.cons b36_1 (.cons b36_1 (.cons b36_1 (.cons b36_1 (.cons b36_1 (.cons b36_1 (.cons (Eq.refl true) (.cons (Eq.refl true) (.cons (Eq.refl true) (.cons (Eq.refl true) (.cons (Eq.refl true) (.cons (Eq.refl true) (.cons (Eq.refl true) (.cons (Eq.refl true) (.cons (Eq.refl true) (.cons (Eq.refl true) (.cons (Eq.refl true) (.cons (Eq.refl true) (.cons (Eq.refl true) (.cons (Eq.refl true) (.cons (Eq.refl true) (.cons (Eq.refl true) (.cons (Eq.refl true) (.cons (Eq.refl true) (.cons (Eq.refl true) (.cons (Eq.refl true) (.cons (Eq.refl true) (.cons (Eq.refl true) (.cons (Eq.refl true) (.cons (Eq.refl true) (.cons (Eq.refl true) (.cons (Eq.refl true) (.cons (Eq.refl true) (.cons (Eq.refl true) (.cons (Eq.refl true) (.cons (Eq.refl true) (.cons (Eq.refl true) (.cons (Eq.refl true) (.cons (Eq.refl true) (.cons (Eq.refl true) (.cons (Eq.refl true) (.cons (Eq.refl true) (.cons (Eq.refl true) (.cons (Eq.refl true) (.cons (Eq.refl true) (.cons (Eq.refl true) (.cons (Eq.refl true) (.cons (Eq.refl true) (.cons (Eq.refl true) (.cons (Eq.refl true) (.cons (Eq.refl true) (.cons (Eq.refl true) (.cons (Eq.refl true) (.cons (Eq.refl true) .nil))))))))))))))))))))))))))))))))))))))))))))))))))))))) (by kernel_rfl) ?_
                                  refine WK.ct (b := true) (by kernel_rfl) rfl ?_
                                  refine WK.rs (g := []) (l' := [(.t 0, [bv false])]) (by kernel_rfl) .nil (by kernel_rfl) ?_
                                  refine WK.weak (l := [(.t 0, [bv false])]) (wk_of (by kernel_rfl)) ?_
                                  refine WK.ret (by kernel_rfl) ?_
                                  have h_ := some_inj h
                                  subst h_
                                  exact WKe.fin (e' := .ret) (by kernel_rfl) (fin_of (g := []) (by first | exact .inl rfl | exact .inr rfl) .nil (by kernel_rfl))
                                · obtain ⟨x36_2, a36_3, e36_4, h⟩ := ix_inv h
                                  rcases br_inv h with ⟨b36_5, h⟩ | ⟨b36_5, h⟩
                                  · refine WK.rs (g := [.s (.t 113) [iv (r35_5.length : Int)], .b false, .b false, .c (TMsg.en x36_2), .b false, .b false, .b false, .b false, .b true, .b true, .b true, .b true, .b true, .b true, .b true, .b true, .b true, .b true, .b true, .b true, .b true, .b true, .b true, .b true, .b true, .b true, .b true, .b true, .b true, .b true, .b true, .b true, .b true, .b true, .b true, .b true, .b true, .b true, .b true, .b true, .b true, .b true, .b true, .b true, .b true, .b true, .b true, .b true, .b true, .b true, .b true, .b true, .b true, .b true, .b true, .b true]) (l' := [(.t 1, [.ptr 1 0]), (.t 2, [.ptr 2 0]), (.t 3, [.data (.slc false none 24 (List.map TMsg.en r35_5))]), (.t 177, [bv true]), (.o 1, (TRaft.ob r35_4)), (.o 2, (TRaft.ob r27_4))]) (by kernel_rfl) (.cons (c_len (e := TMsg.en) (l := r35_5)) (.cons b36_1 (.cons b36_1 (.cons (c_ix (e := TMsg.en) a36_3 e36_4) (.cons (c_el (e := TMsg.en) e36_4) (.cons b36_1 (.cons b36_1 (.cons b36_1 (.cons b36_1 (.cons b36_5 (.cons b36_5 (.cons b36_5 (.cons b36_5 (.cons b36_5 (.cons b36_5 (.cons (Eq.refl true) (.cons (Eq.refl true) (.cons (Eq.refl true) (.cons (Eq.refl true) (.cons (Eq.refl true) (.cons (Eq.refl true) (.cons (Eq.refl true) (.cons (Eq.refl true) (.cons (Eq.refl true) (.cons (Eq.refl true) (.cons (Eq.refl true) (.cons (Eq.refl true) (.cons (Eq.refl true) (.cons (Eq.refl true) (.cons (Eq.refl true) (.cons (Eq.refl true) (.cons (Eq.refl true) (.cons (Eq.refl true) (.cons (Eq.refl true) (.cons (Eq.refl true) (.cons (Eq.refl true) (.cons (Eq.refl true) (.cons (Eq.refl true) (.cons (Eq.refl true) (.cons (Eq.refl true) (.cons (Eq.refl true) (.cons (Eq.refl true) (.cons (Eq.refl true) (.cons (Eq.refl true) (.cons (Eq.refl true) (.cons (Eq.refl true) (.cons (Eq.refl true) (.cons (Eq.refl true) (.cons (Eq.refl true) (.cons (Eq.refl true) (.cons (Eq.refl true) (.cons (Eq.refl true) (.cons (Eq.refl true) (.cons (Eq.refl true) (.cons (Eq.refl true) (.cons (Eq.refl true) (.cons (Eq.refl true) .nil))))))))))))))))))))))))))))))))))))))))))))))))))))))))) (by kernel_rfl) ?_
                                    refine WK.ct (b := true) (by kernel_rfl) rfl ?_
                                    refine WK.rs (g := []) (l' := [(.t 0, [bv false])]) (by kernel_rfl) .nil (by kernel_rfl) ?_
                                    refine WK.weak (l := [(.t 0, [bv false])]) (wk_of (by kernel_rfl)) ?_
                                    refine WK.ret (by kernel_rfl) ?_
                                    have h_ := some_inj h
                                    subst h_
                                    exact WKe.fin (e' := .ret) (by kernel_rfl) (fin_of (g := []) (by first | exact .inl rfl | exact .inr rfl) .nil (by kernel_rfl))
                                  · obtain ⟨x36_6, a36_7, e36_8, h⟩ := ix_inv h
                                    rcases br_inv h with ⟨b36_9, h⟩ | ⟨b36_9, h⟩
                                    · refine WK.rs (g := [.s (.t 113) [iv (r35_5.length : Int)], .b false, .b false, .c (TMsg.en x36_2), .b false, .b false, .b false, .b false, .b false, .b false, .c (TMsg.en x36_6), .b false, .b false, .b false, .b false, .b true, .b true, .b true, .b true, .b true, .b true, .b true, .b true, .b true, .b true, .b true, .b true, .b true, .b true, .b true, .b true, .b true, .b true, .b true, .b true, .b true, .b true, .b true, .b true, .b true, .b true, .b true, .b true, .b true, .b true, .b true, .b true, .b true, .b true, .b true, .b true, .b true, .b true, .b true, .b true, .b true, .b true]) (l' := [(.t 1, [.ptr 1 0]), (.t 2, [.ptr 2 0]), (.t 3, [.data (.slc false none 24 (List.map TMsg.en r35_5))]), (.t 177, [bv true]), (.o 1, (TRaft.ob r35_4)), (.o 2, (TRaft.ob r27_4))]) (by kernel_rfl) (.cons (c_len (e := TMsg.en) (l := r35_5)) (.cons b36_1 (.cons b36_1 (.cons (c_ix (e := TMsg.en) a36_3 e36_4) (.cons (c_el (e := TMsg.en) e36_4) (.cons b36_1 (.cons b36_1 (.cons b36_1 (.cons b36_1 (.cons b36_5 (.cons b36_5 (.cons (c_ix (e := TMsg.en) a36_7 e36_8) (.cons (c_el (e := TMsg.en) e36_8) (.cons b36_5 (.cons b36_5 (.cons b36_5 (.cons b36_5 (.cons b36_9 (.cons b36_9 (.cons b36_9 (.cons b36_9 (.cons b36_9 (.cons b36_9 (.cons b36_9 (.cons (Eq.refl true) (.cons (Eq.refl true) (.cons (Eq.refl true) (.cons (Eq.refl true) (.cons (Eq.refl true) (.cons (Eq.refl true) (.cons (Eq.refl true) (.cons (Eq.refl true) (.cons (Eq.refl true) (.cons (Eq.refl true) (.cons (Eq.refl true) (.cons (Eq.refl true) (.cons (Eq.refl true) (.cons (Eq.refl true) (.cons (Eq.refl true) (.cons (Eq.refl true) (.cons (Eq.refl true) (.cons (Eq.refl true) (.cons (Eq.refl true) (.cons (Eq.refl true) (.cons (Eq.refl true) (.cons (Eq.refl true) (.cons (Eq.refl true) (.cons (Eq.refl true) (.cons (Eq.refl true) (.cons (Eq.refl true) (.cons (Eq.refl true) (.cons (Eq.refl true) (.cons (Eq.refl true) (.cons (Eq.refl true) (.cons (Eq.refl true) (.cons (Eq.refl true) (.cons (Eq.refl true) (.cons (Eq.refl true) (.cons (Eq.refl true) .nil))))))))))))))))))))))))))))))))))))))))))))))))))))))))))) (by kernel_rfl) ?_
                                      refine WK.ct (b := true) (by kernel_rfl) rfl ?_
                                      refine WK.rs (g := []) (l' := [(.t 0, [bv false])]) (by kernel_rfl) .nil (by kernel_rfl) ?_
                                      refine WK.weak (l := [(.t 0, [bv false])]) (wk_of (by kernel_rfl)) ?_
                                      refine WK.ret (by kernel_rfl) ?_
                                      have h_ := some_inj h
                                      subst h_
                                      exact WKe.fin (e' := .ret) (by kernel_rfl) (fin_of (g := []) (by first | exact .inl rfl | exact .inr rfl) .nil (by kernel_rfl))
                                    · obtain ⟨x36_10, a36_11, e36_12, h⟩ := ix_inv h
                                      rcases br_inv h with ⟨b36_13, h⟩ | ⟨b36_13, h⟩
                                      · refine WK.rs (g := [.s (.t 113) [iv (r35_5.length : Int)], .b false, .b false, .c (TMsg.en x36_2), .b false, .b false, .b false, .b false, .b false, .b false, .c (TMsg.en x36_6), .b false, .b false, .b false, .b false, .b false, .b false, .c (TMsg.en x36_10), .b false, .b false, .b false, .s (.t 134) [iv (x36_10.Entries.length : Int)], .b false, .b false, .b true, .b true, .b true, .b true, .b true, .b true, .b true, .b true, .b true, .b true, .b true, .b true, .b true, .b true, .b true, .b true, .b true, .b true, .b true, .b true, .b true, .b true, .b true, .b true, .b true, .b true, .b true, .b true, .b true, .b true, .b true, .b true, .b true, .b true, .b true]) (l' := [(.t 1, [.ptr 1 0]), (.t 2, [.ptr 2 0]), (.t 3, [.data (.slc false none 24 (List.map TMsg.en r35_5))]), (.t 177, [bv true]), (.o 1, (TRaft.ob r35_4)), (.o 2, (TRaft.ob r27_4))]) (by kernel_rfl) (.cons (c_len (e := TMsg.en) (l := r35_5)) (.cons b36_1 (.cons b36_1 (.cons (c_ix (e := TMsg.en) a36_3 e36_4) (.cons (c_el (e := TMsg.en) e36_4) (.cons b36_1 (.cons b36_1 (.cons b36_1 (.cons b36_1 (.cons b36_5 (.cons b36_5 (.cons (c_ix (e := TMsg.en) a36_7 e36_8) (.cons (c_el (e := TMsg.en) e36_8) (.cons b36_5 (.cons b36_5 (.cons b36_5 (.cons b36_5 (.cons b36_9 (.cons b36_9 (.cons (c_ix (e := TMsg.en) a36_11 e36_12) (.cons (c_el (e := TMsg.en) e36_12) (.cons b36_9 (.cons b36_9 (.cons b36_9 (.cons (c_len (e := TEntry.en) (l := x36_10.Entries)) (.cons b36_9 (.cons b36_9 (.cons b36_13 (.cons b36_13 (.cons b36_13 (.cons b36_13 (.cons b36_13 (.cons b36_13 (.cons b36_13 (.cons b36_13 (.cons b36_13 (.cons (Eq.refl true) (.cons (Eq.refl true) (.cons (Eq.refl true) (.cons (Eq.refl true) (.cons (Eq.refl true) (.cons (Eq.refl true) (.cons (Eq.refl true) (.cons (Eq.refl true) (.cons (Eq.refl true) (.cons (Eq.refl true) (.cons (Eq.refl true) (.cons (Eq.refl true) (.cons (Eq.refl true) (.cons (Eq.refl true) (.cons (Eq.refl true) (.cons (Eq.refl true) (.cons (Eq.refl true) (.cons (Eq.refl true) (.cons (Eq.refl true) (.cons (Eq.refl true) (.cons (Eq.refl true) (.cons (Eq.refl true) (.cons (Eq.refl true) (.cons (Eq.refl true) (.cons (Eq.refl true) (.cons (Eq.refl true) .nil)))))))))))))))))))))))))))))))))))))))))))))))))))))))))))))) (by kernel_rfl) ?_
                                        refine WK.ct (b := true) (by kernel_rfl) rfl ?_
                                        refine WK.rs (g := []) (l' := [(.t 0, [bv false])]) (by kernel_rfl) .nil (by kernel_rfl) ?_
                                        refine WK.weak (l := [(.t 0, [bv false])]) (wk_of (by kernel_rfl)) ?_
                                        refine WK.ret (by kernel_rfl) ?_
                                        have h_ := some_inj h
                                        subst h_
                                        exact WKe.fin (e' := .ret) (by kernel_rfl) (fin_of (g := []) (by first | exact .inl rfl | exact .inr rfl) .nil (by kernel_rfl))
                                      · obtain ⟨x36_14, a36_15, e36_16, h⟩ := ix_inv h
                                        obtain ⟨x36_17, a36_18, e36_19, h⟩ := ix_inv h
                                        rcases br_inv h with ⟨b36_20, h⟩ | ⟨b36_20, h⟩
                                        · refine WK.rs (g := [.s (.t 113) [iv (r35_5.length : Int)], .b false, .b false, .c (TMsg.en x36_2), .b false, .b false, .b false, .b false, .b false, .b false, .c (TMsg.en x36_6), .b false, .b false, .b false, .b false, .b false, .b false, .c (TMsg.en x36_10), .b false, .b false, .b false, .s (.t 134) [iv (x36_10.Entries.length : Int)], .b false, .b false, .b false, .b false, .c (TMsg.en x36_14), .b false, .b false, .b false, .c (TEntry.en x36_17), .b false, .b false, .b false, .b false, .b true, .b true, .b true, .b true, .b true, .b true, .b true, .b true, .b true, .b true, .b true, .b true, .b true, .b true, .b true, .b true, .b true, .b true, .b true, .b true, .b true, .b true, .b true, .b true, .b true, .b true]) (l' := [(.t 1, [.ptr 1 0]), (.t 2, [.ptr 2 0]), (.t 3, [.data (.slc false none 24 (List.map TMsg.en r35_5))]), (.t 177, [bv true]), (.o 1, (TRaft.ob r35_4)), (.o 2, (TRaft.ob r27_4))]) (by kernel_rfl) (.cons (c_len (e := TMsg.en) (l := r35_5)) (.cons b36_1 (.cons b36_1 (.cons (c_ix (e := TMsg.en) a36_3 e36_4) (.cons (c_el (e := TMsg.en) e36_4) (.cons b36_1 (.cons b36_1 (.cons b36_1 (.cons b36_1 (.cons b36_5 (.cons b36_5 (.cons (c_ix (e := TMsg.en) a36_7 e36_8) (.cons (c_el (e := TMsg.en) e36_8) (.cons b36_5 (.cons b36_5 (.cons b36_5 (.cons b36_5 (.cons b36_9 (.cons b36_9 (.cons (c_ix (e := TMsg.en) a36_11 e36_12) (.cons (c_el (e := TMsg.en) e36_12) (.cons b36_9 (.cons b36_9 (.cons b36_9 (.cons (c_len (e := TEntry.en) (l := x36_10.Entries)) (.cons b36_9 (.cons b36_9 (.cons b36_13 (.cons b36_13 (.cons (c_ix (e := TMsg.en) a36_15 e36_16) (.cons (c_el (e := TMsg.en) e36_16) (.cons b36_13 (.cons b36_13 (.cons b36_13 (.cons (c_ix (e := TEntry.en) a36_18 e36_19) (.cons (c_el (e := TEntry.en) e36_19) (.cons b36_13 (.cons b36_13 (.cons b36_13 (.cons b36_13 (.cons b36_20 (.cons b36_20 (.cons b36_20 (.cons b36_20 (.cons b36_20 (.cons b36_20 (.cons b36_20 (.cons b36_20 (.cons b36_20 (.cons (Eq.refl true) (.cons (Eq.refl true) (.cons (Eq.refl true) (.cons (Eq.refl true) (.cons (Eq.refl true) (.cons (Eq.refl true) (.cons (Eq.refl true) (.cons (Eq.refl true) (.cons (Eq.refl true) (.cons (Eq.refl true) (.cons (Eq.refl true) (.cons (Eq.refl true) (.cons (Eq.refl true) (.cons (Eq.refl true) (.cons (Eq.refl true) (.cons (Eq.refl true) (.cons (Eq.refl true) .nil)))))))))))))))))))))))))))))))))))))))))))))))))))))))))))))))))) (by kernel_rfl) ?_
                                          refine WK.ct (b := true) (by kernel_rfl) rfl ?_
                                          refine WK.rs (g := []) (l' := [(.t 0, [bv false])]) (by kernel_rfl) .nil (by kernel_rfl) ?_
                                          refine WK.weak (l := [(.t 0, [bv false])]) (wk_of (by kernel_rfl)) ?_
                                          refine WK.ret (by kernel_rfl) ?_
                                          have h_ := some_inj h
                                          subst h_
                                          exact WKe.fin (e' := .ret) (by kernel_rfl) (fin_of (g := []) (by first | exact .inl rfl | exact .inr rfl) .nil (by kernel_rfl))
                                        · obtain ⟨x36_21, a36_22, e36_23, h⟩ := ix_inv h
                                          obtain ⟨x36_24, a36_25, e36_26, h⟩ := ix_inv h
                                          rcases br_inv h with ⟨b36_27, h⟩ | ⟨b36_27, h⟩
                                          · refine WK.rs (g := [.s (.t 113) [iv (r35_5.length : Int)], .b false, .b false, .c (TMsg.en x36_2), .b false, .b false, .b false, .b false, .b false, .b false, .c (TMsg.en x36_6), .b false, .b false, .b false, .b false, .b false, .b false, .c (TMsg.en x36_10), .b false, .b false, .b false, .s (.t 134) [iv (x36_10.Entries.length : Int)], .b false, .b false, .b false, .b false, .c (TMsg.en x36_14), .b false, .b false, .b false, .c (TEntry.en x36_17), .b false, .b false, .b false, .b false, .b false, .b false, .c (TMsg.en x36_21), .b false, .b false, .b false, .c (TEntry.en x36_24), .b false, .b false, .b false, .b false, .b true, .b true, .b true, .b true, .b true, .b true, .b true, .b true, .b true, .b true, .b true, .b true, .b true, .b true, .b true, .b true, .b true]) (l' := [(.t 1, [.ptr 1 0]), (.t 2, [.ptr 2 0]), (.t 3, [.data (.slc false none 24 (List.map TMsg.en r35_5))]), (.t 177, [bv true]), (.o 1, (TRaft.ob r35_4)), (.o 2, (TRaft.ob r27_4))]) (by kernel_rfl) (.cons (c_len (e := TMsg.en) (l := r35_5)) (.cons b36_1 (.cons b36_1 (.cons (c_ix (e := TMsg.en) a36_3 e36_4) (.cons (c_el (e := TMsg.en) e36_4) (.cons b36_1 (.cons b36_1 (.cons b36_1 (.cons b36_1 (.cons b36_5 (.cons b36_5 (.cons (c_ix (e := TMsg.en) a36_7 e36_8) (.cons (c_el (e := TMsg.en) e36_8) (.cons b36_5 (.cons b36_5 (.cons b36_5 (.cons b36_5 (.cons b36_9 (.cons b36_9 (.cons (c_ix (e := TMsg.en) a36_11 e36_12) (.cons (c_el (e := TMsg.en) e36_12) (.cons b36_9 (.cons b36_9 (.cons b36_9 (.cons (c_len (e := TEntry.en) (l := x36_10.Entries)) (.cons b36_9 (.cons b36_9 (.cons b36_13 (.cons b36_13 (.cons (c_ix (e := TMsg.en) a36_15 e36_16) (.cons (c_el (e := TMsg.en) e36_16) (.cons b36_13 (.cons b36_13 (.cons b36_13 (.cons (c_ix (e := TEntry.en) a36_18 e36_19) (.cons (c_el (e := TEntry.en) e36_19) (.cons b36_13 (.cons b36_13 (.cons b36_13 (.cons b36_13 (.cons b36_20 (.cons b36_20 (.cons (c_ix (e := TMsg.en) a36_22 e36_23) (.cons (c_el (e := TMsg.en) e36_23) (.cons b36_20 (.cons b36_20 (.cons b36_20 (.cons (c_ix (e := TEntry.en) a36_25 e36_26) (.cons (c_el (e := TEntry.en) e36_26) (.cons b36_20 (.cons b36_20 (.cons b36_20 (.cons b36_20 (.cons b36_27 (.cons b36_27 (.cons b36_27 (.cons b36_27 (.cons (Eq.refl true) (.cons (Eq.refl true) (.cons (Eq.refl true) (.cons (Eq.refl true) (.cons (Eq.refl true) (.cons (Eq.refl true) (.cons (Eq.refl true) (.cons (Eq.refl true) (.cons (Eq.refl true) (.cons (Eq.refl true) (.cons (Eq.refl true) (.cons (Eq.refl true) (.cons (Eq.refl true) .nil)))))))))))))))))))))))))))))))))))))))))))))))))))))))))))))))))))))) (by kernel_rfl) ?_
                                            refine WK.ct (b := true) (by kernel_rfl) rfl ?_
                                            refine WK.rs (g := []) (l' := [(.t 0, [bv false])]) (by kernel_rfl) .nil (by kernel_rfl) ?_
                                            refine WK.weak (l := [(.t 0, [bv false])]) (wk_of (by kernel_rfl)) ?_
                                            refine WK.ret (by kernel_rfl) ?_
                                            have h_ := some_inj h
                                            subst h_
                                            exact WKe.fin (e' := .ret) (by kernel_rfl) (fin_of (g := []) (by first | exact .inl rfl | exact .inr rfl) .nil (by kernel_rfl))
                                          · rcases br_inv h with ⟨b36_28, h⟩ | ⟨b36_28, h⟩
                                            · refine WK.rs (g := [.s (.t 113) [iv (r35_5.length : Int)], .b false, .b false, .c (TMsg.en x36_2), .b false, .b false, .b false, .b false, .b false, .b false, .c (TMsg.en x36_6), .b false, .b false, .b false, .b false, .b false, .b false, .c (TMsg.en x36_10), .b false, .b false, .b false, .s (.t 134) [iv (x36_10.Entries.length : Int)], .b false, .b false, .b false, .b false, .c (TMsg.en x36_14), .b false, .b false, .b false, .c (TEntry.en x36_17), .b false, .b false, .b false, .b false, .b false, .b false, .c (TMsg.en x36_21), .b false, .b false, .b false, .c (TEntry.en x36_24), .b false, .b false, .b false, .b false, .b false, .b false, .b false, .b false, .b true, .b true, .b true, .b true, .b true, .b true, .b true, .b true, .b true, .b true, .b true, .b true, .b true]) (l' := [(.t 1, [.ptr 1 0]), (.t 2, [.ptr 2 0]), (.t 3, [.data (.slc false none 24 (List.map TMsg.en r35_5))]), (.t 177, [bv true]), (.o 1, (TRaft.ob r35_4)), (.o 2, (TRaft.ob r27_4))]) (by kernel_rfl) (.cons (c_len (e := TMsg.en) (l := r35_5)) (.cons b36_1 (.cons b36_1 (.cons (c_ix (e := TMsg.en) a36_3 e36_4) (.cons (c_el (e := TMsg.en) e36_4) (.cons b36_1 (.cons b36_1 (.cons b36_1 (.cons b36_1 (.cons b36_5 (.cons b36_5 (.cons (c_ix (e := TMsg.en) a36_7 e36_8) (.cons (c_el (e := TMsg.en) e36_8) (.cons b36_5 (.cons b36_5 (.cons b36_5 (.cons b36_5 (.cons b36_9 (.cons b36_9 (.cons (c_ix (e := TMsg.en) a36_11 e36_12) (.cons (c_el (e := TMsg.en) e36_12) (.cons b36_9 (.cons b36_9 (.cons b36_9 (.cons (c_len (e := TEntry.en) (l := x36_10.Entries)) (.cons b36_9 (.cons b36_9 (.cons b36_13 (.cons b36_13 (.cons (c_ix (e := TMsg.en) a36_15 e36_16) (.cons (c_el (e := TMsg.en) e36_16) (.cons b36_13 (.cons b36_13 (.cons b36_13 (.cons (c_ix (e := TEntry.en) a36_18 e36_19) (.cons (c_el (e := TEntry.en) e36_19) (.cons b36_13 (.cons b36_13 (.cons b36_13 (.cons b36_13 (.cons b36_20 (.cons b36_20 (.cons (c_ix (e := TMsg.en) a36_22 e36_23) (.cons (c_el (e := TMsg.en) e36_23) (.cons b36_20 (.cons b36_20 (.cons b36_20 (.cons (c_ix (e := TEntry.en) a36_25 e36_26) (.cons (c_el (e := TEntry.en) e36_26) (.cons b36_20 (.cons b36_20 (.cons b36_20 (.cons b36_20 (.cons b36_27 (.cons b36_27 (.cons b36_27 (.cons b36_27 (.cons b36_28 (.cons b36_28 (.cons b36_28 (.cons b36_28 (.cons (Eq.refl true) (.cons (Eq.refl true) (.cons (Eq.refl true) (.cons (Eq.refl true) (.cons (Eq.refl true) (.cons (Eq.refl true) (.cons (Eq.refl true) (.cons (Eq.refl true) (.cons (Eq.refl true) .nil)))))))))))))))))))))))))))))))))))))))))))))))))))))))))))))))))))))) (by kernel_rfl) ?_
                                              refine WK.ct (b := true) (by kernel_rfl) rfl ?_
                                              refine WK.rs (g := []) (l' := [(.t 0, [bv false])]) (by kernel_rfl) .nil (by kernel_rfl) ?_
                                              refine WK.weak (l := [(.t 0, [bv false])]) (wk_of (by kernel_rfl)) ?_
                                              refine WK.ret (by kernel_rfl) ?_
                                              have h_ := some_inj h
                                              subst h_
                                              exact WKe.fin (e' := .ret) (by kernel_rfl) (fin_of (g := []) (by first | exact .inl rfl | exact .inr rfl) .nil (by kernel_rfl))
                                            · rcases br_inv h with ⟨b36_29, h⟩ | ⟨b36_29, h⟩
                                              · refine WK.rs (g := [.s (.t 113) [iv (r35_5.length : Int)], .b false, .b false, .c (TMsg.en x36_2), .b false, .b false, .b false, .b false, .b false, .b false, .c (TMsg.en x36_6), .b false, .b false, .b false, .b false, .b false, .b false, .c (TMsg.en x36_10), .b false, .b false, .b false, .s (.t 134) [iv (x36_10.Entries.length : Int)], .b false, .b false, .b false, .b false, .c (TMsg.en x36_14), .b false, .b false, .b false, .c (TEntry.en x36_17), .b false, .b false, .b false, .b false, .b false, .b false, .c (TMsg.en x36_21), .b false, .b false, .b false, .c (TEntry.en x36_24), .b false, .b false, .b false, .b false, .b false, .b false, .b false, .b false, .b false, .b false, .b false, .b false, .b true, .b true, .b true, .b true, .b true, .b true, .b true, .b true, .b true]) (l' := [(.t 1, [.ptr 1 0]), (.t 2, [.ptr 2 0]), (.t 3, [.data (.slc false none 24 (List.map TMsg.en r35_5))]), (.t 177, [bv true]), (.o 1, (TRaft.ob r35_4)), (.o 2, (TRaft.ob r27_4))]) (by kernel_rfl) (.cons (c_len (e := TMsg.en) (l := r35_5)) (.cons b36_1 (.cons b36_1 (.cons (c_ix (e := TMsg.en) a36_3 e36_4) (.cons (c_el (e := TMsg.en) e36_4) (.cons b36_1 (.cons b36_1 (.cons b36_1 (.cons b36_1 (.cons b36_5 (.cons b36_5 (.cons (c_ix (e := TMsg.en) a36_7 e36_8) (.cons (c_el (e := TMsg.en) e36_8) (.cons b36_5 (.cons b36_5 (.cons b36_5 (.cons b36_5 (.cons b36_9 (.cons b36_9 (.cons (c_ix (e := TMsg.en) a36_11 e36_12) (.cons (c_el (e := TMsg.en) e36_12) (.cons b36_9 (.cons b36_9 (.cons b36_9 (.cons (c_len (e := TEntry.en) (l := x36_10.Entries)) (.cons b36_9 (.cons b36_9 (.cons b36_13 (.cons b36_13 (.cons (c_ix (e := TMsg.en) a36_15 e36_16) (.cons (c_el (e := TMsg.en) e36_16) (.cons b36_13 (.cons b36_13 (.cons b36_13 (.cons (c_ix (e := TEntry.en) a36_18 e36_19) (.cons (c_el (e := TEntry.en) e36_19) (.cons b36_13 (.cons b36_13 (.cons b36_13 (.cons b36_13 (.cons b36_20 (.cons b36_20 (.cons (c_ix (e := TMsg.en) a36_22 e36_23) (.cons (c_el (e := TMsg.en) e36_23) (.cons b36_20 (.cons b36_20 (.cons b36_20 (.cons (c_ix (e := TEntry.en) a36_25 e36_26) (.cons (c_el (e := TEntry.en) e36_26) (.cons b36_20 (.cons b36_20 (.cons b36_20 (.cons b36_20 (.cons b36_27 (.cons b36_27 (.cons b36_27 (.cons b36_27 (.cons b36_28 (.cons b36_28 (.cons b36_28 (.cons b36_28 (.cons b36_29 (.cons b36_29 (.cons b36_29 (.cons b36_29 (.cons b36_29 (.cons (Eq.refl true) (.cons (Eq.refl true) (.cons (Eq.refl true) (.cons (Eq.refl true) .nil)))))))))))))))))))))))))))))))))))))))))))))))))))))))))))))))))))))) (by kernel_rfl) ?_
                                                refine WK.ct (b := true) (by kernel_rfl) rfl ?_
                                                refine WK.rs (g := []) (l' := [(.t 0, [bv false])]) (by kernel_rfl) .nil (by kernel_rfl) ?_
                                                refine WK.weak (l := [(.t 0, [bv false])]) (wk_of (by kernel_rfl)) ?_
                                                refine WK.ret (by kernel_rfl) ?_
                                                have h_ := some_inj h
                                                subst h_
                                                exact WKe.fin (e' := .ret) (by kernel_rfl) (fin_of (g := []) (by first | exact .inl rfl | exact .inr rfl) .nil (by kernel_rfl))
                                              · rcases br_inv h with ⟨b36_30, h⟩ | ⟨b36_30, h⟩
                                                · refine WK.rs (g := [.s (.t 113) [iv (r35_5.length : Int)], .b false, .b false, .c (TMsg.en x36_2), .b false, .b false, .b false, .b false, .b false, .b false, .c (TMsg.en x36_6), .b false, .b false, .b false, .b false, .b false, .b false, .c (TMsg.en x36_10), .b false, .b false, .b false, .s (.t 134) [iv (x36_10.Entries.length : Int)], .b false, .b false, .b false, .b false, .c (TMsg.en x36_14), .b false, .b false, .b false, .c (TEntry.en x36_17), .b false, .b false, .b false, .b false, .b false, .b false, .c (TMsg.en x36_21), .b false, .b false, .b false, .c (TEntry.en x36_24), .b false, .b false, .b false, .b false, .b false, .b false, .b false, .b false, .b false, .b false, .b false, .b false, .b false, .b false, .b false, .s (.t 170) [iv (r35_4.Log.length : Int)], .b false, .b false, .b true, .b true, .b true, .b true]) (l' := [(.t 1, [.ptr 1 0]), (.t 2, [.ptr 2 0]), (.t 3, [.data (.slc false none 24 (List.map TMsg.en r35_5))]), (.t 177, [bv true]), (.o 1, (TRaft.ob r35_4)), (.o 2, (TRaft.ob r27_4))]) (by kernel_rfl) (.cons (c_len (e := TMsg.en) (l := r35_5)) (.cons b36_1 (.cons b36_1 (.cons (c_ix (e := TMsg.en) a36_3 e36_4) (.cons (c_el (e := TMsg.en) e36_4) (.cons b36_1 (.cons b36_1 (.cons b36_1 (.cons b36_1 (.cons b36_5 (.cons b36_5 (.cons (c_ix (e := TMsg.en) a36_7 e36_8) (.cons (c_el (e := TMsg.en) e36_8) (.cons b36_5 (.cons b36_5 (.cons b36_5 (.cons b36_5 (.cons b36_9 (.cons b36_9 (.cons (c_ix (e := TMsg.en) a36_11 e36_12) (.cons (c_el (e := TMsg.en) e36_12) (.cons b36_9 (.cons b36_9 (.cons b36_9 (.cons (c_len (e := TEntry.en) (l := x36_10.Entries)) (.cons b36_9 (.cons b36_9 (.cons b36_13 (.cons b36_13 (.cons (c_ix (e := TMsg.en) a36_15 e36_16) (.cons (c_el (e := TMsg.en) e36_16) (.cons b36_13 (.cons b36_13 (.cons b36_13 (.cons (c_ix (e := TEntry.en) a36_18 e36_19) (.cons (c_el (e := TEntry.en) e36_19) (.cons b36_13 (.cons b36_13 (.cons b36_13 (.cons b36_13 (.cons b36_20 (.cons b36_20 (.cons (c_ix (e := TMsg.en) a36_22 e36_23) (.cons (c_el (e := TMsg.en) e36_23) (.cons b36_20 (.cons b36_20 (.cons b36_20 (.cons (c_ix (e := TEntry.en) a36_25 e36_26) (.cons (c_el (e := TEntry.en) e36_26) (.cons b36_20 (.cons b36_20 (.cons b36_20 (.cons b36_20 (.cons b36_27 (.cons b36_27 (.cons b36_27 (.cons b36_27 (.cons b36_28 (.cons b36_28 (.cons b36_28 (.cons b36_28 (.cons b36_29 (.cons b36_29 (.cons b36_29 (.cons (c_len (e := TEntry.en) (l := r35_4.Log)) (.cons b36_29 (.cons b36_29 (.cons b36_30 (.cons b36_30 (.cons b36_30 (.cons b36_30 .nil))))))))))))))))))))))))))))))))))))))))))))))))))))))))))))))))))))))) (by kernel_rfl) ?_
                                                  refine WK.ct (b := true) (by kernel_rfl) rfl ?_
                                                  refine WK.rs (g := []) (l' := [(.t 0, [bv false])]) (by kernel_rfl) .nil (by kernel_rfl) ?_
                                                  refine WK.weak (l := [(.t 0, [bv false])]) (wk_of (by kernel_rfl)) ?_
                                                  refine WK.ret (by kernel_rfl) ?_
                                                  have h_ := some_inj h
                                                  subst h_
                                                  exact WKe.fin (e' := .ret) (by kernel_rfl) (fin_of (g := []) (by first | exact .inl rfl | exact .inr rfl) .nil (by kernel_rfl))
                                                · refine WK.rs (g := [.s (.t 113) [iv (r35_5.length : Int)], .b false, .b false, .c (TMsg.en x36_2), .b false, .b false, .b false, .b false, .b false, .b false, .c (TMsg.en x36_6), .b false, .b false, .b false, .b false, .b false, .b false, .c (TMsg.en x36_10), .b false, .b false, .b false, .s (.t 134) [iv (x36_10.Entries.length : Int)], .b false, .b false, .b false, .b false, .c (TMsg.en x36_14), .b false, .b false, .b false, .c (TEntry.en x36_17), .b false, .b false, .b false, .b false, .b false, .b false, .c (TMsg.en x36_21), .b false, .b false, .b false, .c (TEntry.en x36_24), .b false, .b false, .b false, .b false, .b false, .b false, .b false, .b false, .b false, .b false, .b false, .b false, .b false, .b false, .b false, .s (.t 170) [iv (r35_4.Log.length : Int)], .b false, .b false, .b false, .b false, .b false, .b false]) (l' := [(.t 1, [.ptr 1 0]), (.t 2, [.ptr 2 0]), (.t 3, [.data (.slc false none 24 (List.map TMsg.en r35_5))]), (.t 177, [bv (r35_4.Commit != 0)]), (.o 1, (TRaft.ob r35_4)), (.o 2, (TRaft.ob r27_4))]) (by kernel_rfl) (.cons (c_len (e := TMsg.en) (l := r35_5)) (.cons b36_1 (.cons b36_1 (.cons (c_ix (e := TMsg.en) a36_3 e36_4) (.cons (c_el (e := TMsg.en) e36_4) (.cons b36_1 (.cons b36_1 (.cons b36_1 (.cons b36_1 (.cons b36_5 (.cons b36_5 (.cons (c_ix (e := TMsg.en) a36_7 e36_8) (.cons (c_el (e := TMsg.en) e36_8) (.cons b36_5 (.cons b36_5 (.cons b36_5 (.cons b36_5 (.cons b36_9 (.cons b36_9 (.cons (c_ix (e := TMsg.en) a36_11 e36_12) (.cons (c_el (e := TMsg.en) e36_12) (.cons b36_9 (.cons b36_9 (.cons b36_9 (.cons (c_len (e := TEntry.en) (l := x36_10.Entries)) (.cons b36_9 (.cons b36_9 (.cons b36_13 (.cons b36_13 (.cons (c_ix (e := TMsg.en) a36_15 e36_16) (.cons (c_el (e := TMsg.en) e36_16) (.cons b36_13 (.cons b36_13 (.cons b36_13 (.cons (c_ix (e := TEntry.en) a36_18 e36_19) (.cons (c_el (e := TEntry.en) e36_19) (.cons b36_13 (.cons b36_13 (.cons b36_13 (.cons b36_13 (.cons b36_20 (.cons b36_20 (.cons (c_ix (e := TMsg.en) a36_22 e36_23) (.cons (c_el (e := TMsg.en) e36_23) (.cons b36_20 (.cons b36_20 (.cons b36_20 (.cons (c_ix (e := TEntry.en) a36_25 e36_26) (.cons (c_el (e := TEntry.en) e36_26) (.cons b36_20 (.cons b36_20 (.cons b36_20 (.cons b36_20 (.cons b36_27 (.cons b36_27 (.cons b36_27 (.cons b36_27 (.cons b36_28 (.cons b36_28 (.cons b36_28 (.cons b36_28 (.cons b36_29 (.cons b36_29 (.cons b36_29 (.cons (c_len (e := TEntry.en) (l := r35_4.Log)) (.cons b36_29 (.cons b36_29 (.cons b36_30 (.cons b36_30 (.cons b36_30 (.cons b36_30 .nil))))))))))))))))))))))))))))))))))))))))))))))))))))))))))))))))))))))) (by kernel_rfl) ?_
                                                  rcases br_inv h with ⟨b46_0, h⟩ | ⟨b46_0, h⟩
                                                  · refine WK.ct (b := (r35_4.Commit != 0)) (by kernel_rfl) b46_0 ?_
                                                    refine WK.rs (g := []) (l' := [(.t 0, [bv false])]) (by kernel_rfl) .nil (by kernel_rfl) ?_
                                                    refine WK.weak (l := [(.t 0, [bv false])]) (wk_of (by kernel_rfl)) ?_
                                                    refine WK.ret (by kernel_rfl) ?_
                                                    have h_ := some_inj h
                                                    subst h_
                                                    exact WKe.fin (e' := .ret) (by kernel_rfl) (fin_of (g := []) (by first | exact .inl rfl | exact .inr rfl) .nil (by kernel_rfl))
                                                  · refine WK.ce (b := (r35_4.Commit != 0)) (by kernel_rfl) b46_0 ?_
                                                    refine WK.skip (by kernel_rfl) ?_
                                                    refine WKe.code (y := (cR (cR (cR (cR (cR (cR (cR (cR (cR (cR bd6))))))))))) (ks' := []) (by kernel_rfl) ?_
                                                    obtain ⟨x48_1, a48_2, e48_3, h⟩ := ix_inv h
                                                    obtain ⟨⟨r48_4, r48_5⟩, h48_6, h⟩ := bd_inv h
                                                    refine WK.rs (g := [.c (TMsg.en x48_1), .a ⟨.tup [.data (TRaft.ag r48_4), .data (.slc false none 24 (List.map TMsg.en r48_5))], []⟩]) (l' := [(.t 1, [.ptr 1 0]), (.t 2, [.ptr 2 0]), (.t 3, [.data (.slc false none 24 (List.map TMsg.en r48_5))]), (.o 1, (TRaft.ob r35_4)), (.o 2, (TRaft.ob r48_4))]) (by kernel_rfl) (.cons (c_ix (e := TMsg.en) a48_2 e48_3) (.cons (c_el (e := TMsg.en) e48_3) (.cons (Asks.of (C := Meets Try.prog) (raft_Take.meets fu r27_4 x48_1 _ _ h48_6)) (.cons (Eq.refl true) .nil)))) (by kernel_rfl) ?_
                                                    refine WK.seq (by kernel_rfl) ?_
                                                    rcases br_inv h with ⟨b49_1, h⟩ | ⟨b49_1, h⟩
                                                    · refine WK.rs (g := [.s (.t 187) [iv (r48_5.length : Int)], .b true, .b true, .b true, .b true, .b true, .b true, .b true, .b true, .b true, .b true, .b true, .b true, .b true, .b true, .b true, .b true, .b true, .b true, .b true, .b true, .b true, .b true, .b true, .b true, .b true, .b true, .b true, .b true, .b true, .b true, .b true]) (l' := [(.t 1, [.ptr 1 0]), (.t 2, [.ptr 2 0]), (.t 3, [.data (.slc false none 24 (List.map TMsg.en r48_5))]), (.t 225, [bv true]), (.o 1, (TRaft.ob r35_4)), (.o 2, (TRaft.ob r48_4))]) (by kernel_rfl) (.cons (c_len (e := TMsg.en) (l := r48_5)) (.cons b49_1 (.cons b49_1 (.cons b49_1 (.cons b49_1 (.cons b49_1 (.cons b49_1 (.cons (Eq.refl true) (.cons (Eq.refl true) (.cons (Eq.refl true) (.cons (Eq.refl true) (.cons (Eq.refl true) (.cons (Eq.refl true) (.cons (Eq.refl true) (.cons (Eq.refl true) (.cons (Eq.refl true) (.cons (Eq.refl true) (.cons (Eq.refl true) (.cons (Eq.refl true) (.cons (Eq.refl true) (.cons (Eq.refl true) (.cons (Eq.refl true) (.cons (Eq.refl true) (.cons (Eq.refl true) (.cons (Eq.refl true) (.cons (Eq.refl true) (.cons (Eq.refl true) (.cons (Eq.refl true) (.cons (Eq.refl true) (.cons (Eq.refl true) (.cons (Eq.refl true) (.cons (Eq.refl true) .nil)))))))))))))))))))))))))))))))) (by kernel_rfl) ?_
                                                      refine WK.ct (b := true) (by kernel_rfl) rfl ?_
                                                      refine WK.rs (g := []) (l' := [(.t 0, [bv false])]) (by kernel_rfl) .nil (by kernel_rfl) ?_
                                                      refine WK.weak (l := [(.t 0, [bv false])]) (wk_of (by kernel_rfl)) ?_
                                                      refine WK.ret (by kernel_rfl) ?_
                                                      have h_ := some_inj h
                                                      subst h_
                                                      exact WKe.fin (e' := .ret) (by kernel_rfl) (fin_of (g := []) (by first | exact .inl rfl | exact .inr rfl) .nil (by kernel_rfl))
                                                    · obtain ⟨x49_2, a49_3, e49_4, h⟩ := ix_inv h
                                                      rcases br_inv h with ⟨b49_5, h⟩ | ⟨b49_5, h⟩
                                                      · refine WK.rs (g := [.s (.t 187) [iv (r48_5.length : Int)], .b false, .b false, .c (TMsg.en x49_2), .b false, .b false, .b false, .b false, .b true, .b true, .b true, .b true, .b true, .b true, .b true, .b true, .b true, .b true, .b true, .b true, .b true, .b true, .b true, .b true, .b true, .b true, .b true, .b true, .b true, .b true, .b true, .b true, .b true]) (l' := [(.t 1, [.ptr 1 0]), (.t 2, [.ptr 2 0]), (.t 3, [.data (.slc false none 24 (List.map TMsg.en r48_5))]), (.t 225, [bv true]), (.o 1, (TRaft.ob r35_4)), (.o 2, (TRaft.ob r48_4))]) (by kernel_rfl) (.cons (c_len (e := TMsg.en) (l := r48_5)) (.cons b49_1 (.cons b49_1 (.cons (c_ix (e := TMsg.en) a49_3 e49_4) (.cons (c_el (e := TMsg.en) e49_4) (.cons b49_1 (.cons b49_1 (.cons b49_1 (.cons b49_1 (.cons b49_5 (.cons b49_5 (.cons b49_5 (.cons b49_5 (.cons b49_5 (.cons b49_5 (.cons (Eq.refl true) (.cons (Eq.refl true) (.cons (Eq.refl true) (.cons (Eq.refl true) (.cons (Eq.refl true) (.cons (Eq.refl true) (.cons (Eq.refl true) (.cons (Eq.refl true) (.cons (Eq.refl true) (.cons (Eq.refl true) (.cons (Eq.refl true) (.cons (Eq.refl true) (.cons (Eq.refl true) (.cons (Eq.refl true) (.cons (Eq.refl true) (.cons (Eq.refl true) (.cons (Eq.refl true) (.cons (Eq.refl true) (.cons (Eq.refl true) .nil)))))))))))))))))))))))))))))))))) (by kernel_rfl) ?_
                                                        refine WK.ct (b := true) (by kernel_rfl) rfl ?_
                                                        refine WK.rs (g := []) (l' := [(.t 0, [bv false])]) (by kernel_rfl) .nil (by kernel_rfl) ?_
                                                        refine WK.weak (l := [(.t 0, [bv false])]) (wk_of (by kernel_rfl)) ?_
                                                        refine WK.ret (by kernel_rfl) ?_
                                                        have h_ := some_inj h
                                                        subst h_
                                                        exact WKe.fin (e' := .ret) (by kernel_rfl) (fin_of (g := []) (by first | exact .inl rfl | exact .inr rfl) .nil (by kernel_rfl))
                                                      · obtain ⟨x49_6, a49_7, e49_8, h⟩ := ix_inv h
                                                        rcases br_inv h with ⟨b49_9, h⟩ | ⟨b49_9, h⟩
                                                        · refine WK.rs (g := [.s (.t 187) [iv (r48_5.length : Int)], .b false, .b false, .c (TMsg.en x49_2), .b false, .b false, .b false, .b false, .b false, .b false, .c (TMsg.en x49_6), .b false, .b false, .b false, .b false, .b true, .b true, .b true, .b true, .b true, .b true, .b true, .b true, .b true, .b true, .b true, .b true, .b true, .b true, .b true, .b true, .b true, .b true, .b true]) (l' := [(.t 1, [.ptr 1 0]), (.t 2, [.ptr 2 0]), (.t 3, [.data (.slc false none 24 (List.map TMsg.en r48_5))]), (.t 225, [bv true]), (.o 1, (TRaft.ob r35_4)), (.o 2, (TRaft.ob r48_4))]) (by kernel_rfl) (.cons (c_len (e := TMsg.en) (l := r48_5)) (.cons b49_1 (.cons b49_1 (.cons (c_ix (e := TMsg.en) a49_3 e49_4) (.cons (c_el (e := TMsg.en) e49_4) (.cons b49_1 (.cons b49_1 (.cons b49_1 (.cons b49_1 (.cons b49_5 (.cons b49_5 (.cons (c_ix (e := TMsg.en) a49_7 e49_8) (.cons (c_el (e := TMsg.en) e49_8) (.cons b49_5 (.cons b49_5 (.cons b49_5 (.cons b49_5 (.cons b49_9 (.cons b49_9 (.cons b49_9 (.cons b49_9 (.cons b49_9 (.cons b49_9 (.cons (Eq.refl true) (.cons (Eq.refl true) (.cons (Eq.refl true) (.cons (Eq.refl true) (.cons (Eq.refl true) (.cons (Eq.refl true) (.cons (Eq.refl true) (.cons (Eq.refl true) (.cons (Eq.refl true) (.cons (Eq.refl true) (.cons (Eq.refl true) (.cons (Eq.refl true) (.cons (Eq.refl true) .nil)))))))))))))))))))))))))))))))))))) (by kernel_rfl) ?_
                                                          refine WK.ct (b := true) (by kernel_rfl) rfl ?_
                                                          refine WK.rs (g := []) (l' := [(.t 0, [bv false])]) (by kernel_rfl) .nil (by kernel_rfl) ?_
                                                          refine WK.weak (l := [(.t 0, [bv false])]) (wk_of (by kernel_rfl)) ?_
                                                          refine WK.ret (by kernel_rfl) ?_
                                                          have h_ := some_inj h
                                                          subst h_
                                                          exact WKe.fin (e' := .ret) (by kernel_rfl) (fin_of (g := []) (by first | exact .inl rfl | exact .inr rfl) .nil (by kernel_rfl))
                                                        · obtain ⟨x49_10, a49_11, e49_12, h⟩ := ix_inv h
                                                          rcases br_inv h with ⟨b49_13, h⟩ | ⟨b49_13, h⟩
                                                          · refine WK.rs (g := [.s (.t 187) [iv (r48_5.length : Int)], .b false, .b false, .c (TMsg.en x49_2), .b false, .b false, .b false, .b false, .b false, .b false, .c (TMsg.en x49_6), .b false, .b false, .b false, .b false, .b false, .b false, .c (TMsg.en x49_10), .b false, .b false, .b false, .b false, .b true, .b true, .b true, .b true, .b true, .b true, .b true, .b true, .b true, .b true, .b true, .b true, .b true]) (l' := [(.t 1, [.ptr 1 0]), (.t 2, [.ptr 2 0]), (.t 3, [.data (.slc false none 24 (List.map TMsg.en r48_5))]), (.t 225, [bv true]), (.o 1, (TRaft.ob r35_4)), (.o 2, (TRaft.ob r48_4))]) (by kernel_rfl) (.cons (c_len (e := TMsg.en) (l := r48_5)) (.cons b49_1 (.cons b49_1 (.cons (c_ix (e := TMsg.en) a49_3 e49_4) (.cons (c_el (e := TMsg.en) e49_4) (.cons b49_1 (.cons b49_1 (.cons b49_1 (.cons b49_1 (.cons b49_5 (.cons b49_5 (.cons (c_ix (e := TMsg.en) a49_7 e49_8) (.cons (c_el (e := TMsg.en) e49_8) (.cons b49_5 (.cons b49_5 (.cons b49_5 (.cons b49_5 (.cons b49_9 (.cons b49_9 (.cons (c_ix (e := TMsg.en) a49_11 e49_12) (.cons (c_el (e := TMsg.en) e49_12) (.cons b49_9 (.cons b49_9 (.cons b49_9 (.cons b49_9 (.cons b49_13 (.cons b49_13 (.cons b49_13 (.cons b49_13 (.cons (Eq.refl true) (.cons (Eq.refl true) (.cons (Eq.refl true) (.cons (Eq.refl true) (.cons (Eq.refl true) (.cons (Eq.refl true) (.cons (Eq.refl true) (.cons (Eq.refl true) (.cons (Eq.refl true) .nil)))))))))))))))))))))))))))))))))))))) (by kernel_rfl) ?_
                                                            refine WK.ct (b := true) (by kernel_rfl) rfl ?_
                                                            refine WK.rs (g := []) (l' := [(.t 0, [bv false])]) (by kernel_rfl) .nil (by kernel_rfl) ?_
                                                            refine WK.weak (l := [(.t 0, [bv false])]) (wk_of (by kernel_rfl)) ?_
                                                            refine WK.ret (by kernel_rfl) ?_
                                                            have h_ := some_inj h
                                                            subst h_
                                                            exact WKe.fin (e' := .ret) (by kernel_rfl) (fin_of (g := []) (by first | exact .inl rfl | exact .inr rfl) .nil (by kernel_rfl))
                                                          · rcases br_inv h with ⟨b49_14, h⟩ | ⟨b49_14, h⟩
                                                            · refine WK.rs (g := [.s (.t 187) [iv (r48_5.length : Int)], .b false, .b false, .c (TMsg.en x49_2), .b false, .b false, .b false, .b false, .b false, .b false, .c (TMsg.en x49_6), .b false, .b false, .b false, .b false, .b false, .b false, .c (TMsg.en x49_10), .b false, .b false, .b false, .b false, .b false, .b false, .b false, .b false, .b true, .b true, .b true, .b true, .b true, .b true, .b true, .b true, .b true]) (l' := [(.t 1, [.ptr 1 0]), (.t 2, [.ptr 2 0]), (.t 3, [.data (.slc false none 24 (List.map TMsg.en r48_5))]), (.t 225, [bv true]), (.o 1, (TRaft.ob r35_4)), (.o 2, (TRaft.ob r48_4))]) (by kernel_rfl) (.cons (c_len (e := TMsg.en) (l := r48_5)) (.cons b49_1 (.cons b49_1 (.cons (c_ix (e := TMsg.en) a49_3 e49_4) (.cons (c_el (e := TMsg.en) e49_4) (.cons b49_1 (.cons b49_1 (.cons b49_1 (.cons b49_1 (.cons b49_5 (.cons b49_5 (.cons (c_ix (e := TMsg.en) a49_7 e49_8) (.cons (c_el (e := TMsg.en) e49_8) (.cons b49_5 (.cons b49_5 (.cons b49_5 (.cons b49_5 (.cons b49_9 (.cons b49_9 (.cons (c_ix (e := TMsg.en) a49_11 e49_12) (.cons (c_el (e := TMsg.en) e49_12) (.cons b49_9 (.cons b49_9 (.cons b49_9 (.cons b49_9 (.cons b49_13 (.cons b49_13 (.cons b49_13 (.cons b49_13 (.cons b49_14 (.cons b49_14 (.cons b49_14 (.cons b49_14 (.cons b49_14 (.cons (Eq.refl true) (.cons (Eq.refl true) (.cons (Eq.refl true) (.cons (Eq.refl true) .nil)))))))))))))))))))))))))))))))))))))) (by kernel_rfl) ?_
                                                              refine WK.ct (b := true) (by kernel_rfl) rfl ?_
                                                              refine WK.rs (g := []) (l' := [(.t 0, [bv false])]) (by kernel_rfl) .nil (by kernel_rfl) ?_
                                                              refine WK.weak (l := [(.t 0, [bv false])]) (wk_of (by kernel_rfl)) ?_
                                                              refine WK.ret (by kernel_rfl) ?_
                                                              have h_ := some_inj h
                                                              subst h_
                                                              exact WKe.fin (e' := .ret) (by kernel_rfl) (fin_of (g := []) (by first | exact .inl rfl | exact .inr rfl) .nil (by kernel_rfl))
                                                            · rcases br_inv h with ⟨b49_15, h⟩ | ⟨b49_15, h⟩
                                                              · refine WK.rs (g := [.s (.t 187) [iv (r48_5.length : Int)], .b false, .b false, .c (TMsg.en x49_2), .b false, .b false, .b false, .b false, .b false, .b false, .c (TMsg.en x49_6), .b false, .b false, .b false, .b false, .b false, .b false, .c (TMsg.en x49_10), .b false, .b false, .b false, .b false, .b false, .b false, .b false, .b false, .b false, .b false, .b false, .s (.t 218) [iv (r48_4.Log.length : Int)], .b false, .b false, .b true, .b true, .b true, .b true]) (l' := [(.t 1, [.ptr 1 0]), (.t 2, [.ptr 2 0]), (.t 3, [.data (.slc false none 24 (List.map TMsg.en r48_5))]), (.t 225, [bv true]), (.o 1, (TRaft.ob r35_4)), (.o 2, (TRaft.ob r48_4))]) (by kernel_rfl) (.cons (c_len (e := TMsg.en) (l := r48_5)) (.cons b49_1 (.cons b49_1 (.cons (c_ix (e := TMsg.en) a49_3 e49_4) (.cons (c_el (e := TMsg.en) e49_4) (.cons b49_1 (.cons b49_1 (.cons b49_1 (.cons b49_1 (.cons b49_5 (.cons b49_5 (.cons (c_ix (e := TMsg.en) a49_7 e49_8) (.cons (c_el (e := TMsg.en) e49_8) (.cons b49_5 (.cons b49_5 (.cons b49_5 (.cons b49_5 (.cons b49_9 (.cons b49_9 (.cons (c_ix (e := TMsg.en) a49_11 e49_12) (.cons (c_el (e := TMsg.en) e49_12) (.cons b49_9 (.cons b49_9 (.cons b49_9 (.cons b49_9 (.cons b49_13 (.cons b49_13 (.cons b49_13 (.cons b49_13 (.cons b49_14 (.cons b49_14 (.cons b49_14 (.cons (c_len (e := TEntry.en) (l := r48_4.Log)) (.cons b49_14 (.cons b49_14 (.cons b49_15 (.cons b49_15 (.cons b49_15 (.cons b49_15 .nil))))))))))))))))))))))))))))))))))))))) (by kernel_rfl) ?_
                                                                refine WK.ct (b := true) (by kernel_rfl) rfl ?_
                                                                refine WK.rs (g := []) (l' := [(.t 0, [bv false])]) (by kernel_rfl) .nil (by kernel_rfl) ?_
                                                                refine WK.weak (l := [(.t 0, [bv false])]) (wk_of (by kernel_rfl)) ?_
                                                                refine WK.ret (by kernel_rfl) ?_
                                                                have h_ := some_inj h
                                                                subst h_
                                                                exact WKe.fin (e' := .ret) (by kernel_rfl) (fin_of (g := []) (by first | exact .inl rfl | exact .inr rfl) .nil (by kernel_rfl))
                                                              · refine WK.rs (g := [.s (.t 187) [iv (r48_5.length : Int)], .b false, .b false, .c (TMsg.en x49_2), .b false, .b false, .b false, .b false, .b false, .b false, .c (TMsg.en x49_6), .b false, .b false, .b false, .b false, .b false, .b false, .c (TMsg.en x49_10), .b false, .b false, .b false, .b false, .b false, .b false, .b false, .b false, .b false, .b false, .b false, .s (.t 218) [iv (r48_4.Log.length : Int)], .b false, .b false, .b false, .b false, .b false, .b false]) (l' := [(.t 1, [.ptr 1 0]), (.t 2, [.ptr 2 0]), (.t 3, [.data (.slc false none 24 (List.map TMsg.en r48_5))]), (.t 225, [bv (r48_4.Commit != 0)]), (.o 1, (TRaft.ob r35_4)), (.o 2, (TRaft.ob r48_4))]) (by kernel_rfl) (.cons (c_len (e := TMsg.en) (l := r48_5)) (.cons b49_1 (.cons b49_1 (.cons (c_ix (e := TMsg.en) a49_3 e49_4) (.cons (c_el (e := TMsg.en) e49_4) (.cons b49_1 (.cons b49_1 (.cons b49_1 (.cons b49_1 (.cons b49_5 (.cons b49_5 (.cons (c_ix (e := TMsg.en) a49_7 e49_8) (.cons (c_el (e := TMsg.en) e49_8) (.cons b49_5 (.cons b49_5 (.cons b49_5 (.cons b49_5 (.cons b49_9 (.cons b49_9 (.cons (c_ix (e := TMsg.en) a49_11 e49_12) (.cons (c_el (e := TMsg.en) e49_12) (.cons b49_9 (.cons b49_9 (.cons b49_9 (.cons b49_9 (.cons b49_13 (.cons b49_13 (.cons b49_13 (.cons b49_13 (.cons b49_14 (.cons b49_14 (.cons b49_14 (.cons (c_len (e := TEntry.en) (l := r48_4.Log)) (.cons b49_14 (.cons b49_14 (.cons b49_15 (.cons b49_15 (.cons b49_15 (.cons b49_15 .nil))))))))))))))))))))))))))))))))))))))) (by kernel_rfl) ?_
                                                                rcases br_inv h with ⟨b56_0, h⟩ | ⟨b56_0, h⟩
                                                                · refine WK.ct (b := (r48_4.Commit != 0)) (by kernel_rfl) b56_0 ?_
                                                                  refine WK.rs (g := []) (l' := [(.t 0, [bv false])]) (by kernel_rfl) .nil (by kernel_rfl) ?_
                                                                  refine WK.weak (l := [(.t 0, [bv false])]) (wk_of (by kernel_rfl)) ?_
                                                                  refine WK.ret (by kernel_rfl) ?_
                                                                  have h_ := some_inj h
                                                                  subst h_
                                                                  exact WKe.fin (e' := .ret) (by kernel_rfl) (fin_of (g := []) (by first | exact .inl rfl | exact .inr rfl) .nil (by kernel_rfl))
                                                                · refine WK.ce (b := (r48_4.Commit != 0)) (by kernel_rfl) b56_0 ?_
                                                                  refine WK.skip (by kernel_rfl) ?_
                                                                  refine WKe.code (y := (cR (cR (cR (cR (cR (cR (cR (cR (cR (cR (cR (cR bd6))))))))))))) (ks' := []) (by kernel_rfl) ?_
                                                                  obtain ⟨x58_1, a58_2, e58_3, h⟩ := ix_inv h
                                                                  obtain ⟨⟨r58_4, r58_5⟩, h58_6, h⟩ := bd_inv h
                                                                  refine WK.rs (g := [.c (TMsg.en x58_1), .a ⟨.tup [.data (TRaft.ag r58_4), .data (.slc false none 24 (List.map TMsg.en r58_5))], []⟩]) (l' := [(.t 1, [.ptr 1 0]), (.t 2, [.ptr 2 0]), (.t 3, [.data (.slc false none 24 (List.map TMsg.en r58_5))]), (.o 1, (TRaft.ob r58_4)), (.o 2, (TRaft.ob r48_4))]) (by kernel_rfl) (.cons (c_ix (e := TMsg.en) a58_2 e58_3) (.cons (c_el (e := TMsg.en) e58_3) (.cons (Asks.of (C := Meets Try.prog) (raft_Take.meets fu r35_4 x58_1 _ _ h58_6)) (.cons (Eq.refl true) .nil)))) (by kernel_rfl) ?_
                                                                  refine WK.seq (by kernel_rfl) ?_
                                                                  rcases br_inv h with ⟨b59_1, h⟩ | ⟨b59_1, h⟩
                                                                  · refine WK.rs (g := [.s (.t 235) [iv (r58_5.length : Int)], .b true, .b true, .b true, .b true, .b true, .b true, .b true, .b true, .b true, .b true, .b true, .b true, .b true, .b true, .b true, .b true, .b true, .b true, .b true, .b true, .b true, .b true, .b true, .b true, .b true, .b true]) (l' := [(.t 1, [.ptr 1 0]), (.t 2, [.ptr 2 0]), (.t 267, [bv true]), (.o 1, (TRaft.ob r58_4)), (.o 2, (TRaft.ob r48_4))]) (by kernel_rfl) (.cons (c_len (e := TMsg.en) (l := r58_5)) (.cons b59_1 (.cons b59_1 (.cons b59_1 (.cons b59_1 (.cons (Eq.refl true) (.cons (Eq.refl true) (.cons (Eq.refl true) (.cons (Eq.refl true) (.cons (Eq.refl true) (.cons (Eq.refl true) (.cons (Eq.refl true) (.cons (Eq.refl true) (.cons (Eq.refl true) (.cons (Eq.refl true) (.cons (Eq.refl true) (.cons (Eq.refl true) (.cons (Eq.refl true) (.cons (Eq.refl true) (.cons (Eq.refl true) (.cons (Eq.refl true) (.cons (Eq.refl true) (.cons (Eq.refl true) (.cons (Eq.refl true) (.cons (Eq.refl true) (.cons (Eq.refl true) (.cons (Eq.refl true) .nil))))))))))))))))))))))))))) (by kernel_rfl) ?_
                                                                    refine WK.ct (b := true) (by kernel_rfl) rfl ?_
                                                                    refine WK.rs (g := []) (l' := [(.t 0, [bv false])]) (by kernel_rfl) .nil (by kernel_rfl) ?_
                                                                    refine WK.weak (l := [(.t 0, [bv false])]) (wk_of (by kernel_rfl)) ?_
                                                                    refine WK.ret (by kernel_rfl) ?_
                                                                    have h_ := some_inj h
                                                                    subst h_
                                                                    exact WKe.fin (e' := .ret) (by kernel_rfl) (fin_of (g := []) (by first | exact .inl rfl | exact .inr rfl) .nil (by kernel_rfl))
                                                                  · rcases br_inv h with ⟨b59_2, h⟩ | ⟨b59_2, h⟩
                                                                    · refine WK.rs (g := [.s (.t 235) [iv (r58_5.length : Int)], .b false, .b false, .b false, .b false, .b true, .b true, .b true, .b true, .b true, .b true, .b true, .b true, .b true, .b true, .b true, .b true, .b true, .b true, .b true, .b true, .b true, .b true, .b true, .b true, .b true, .b true]) (l' := [(.t 1, [.ptr 1 0]), (.t 2, [.ptr 2 0]), (.t 267, [bv true]), (.o 1, (TRaft.ob r58_4)), (.o 2, (TRaft.ob r48_4))]) (by kernel_rfl) (.cons (c_len (e := TMsg.en) (l := r58_5)) (.cons b59_1 (.cons b59_1 (.cons b59_1 (.cons b59_1 (.cons b59_2 (.cons b59_2 (.cons b59_2 (.cons b59_2 (.cons b59_2 (.cons (Eq.refl true) (.cons (Eq.refl true) (.cons (Eq.refl true) (.cons (Eq.refl true) (.cons (Eq.refl true) (.cons (Eq.refl true) (.cons (Eq.refl true) (.cons (Eq.refl true) (.cons (Eq.refl true) (.cons (Eq.refl true) (.cons (Eq.refl true) (.cons (Eq.refl true) (.cons (Eq.refl true) (.cons (Eq.refl true) (.cons (Eq.refl true) (.cons (Eq.refl true) (.cons (Eq.refl true) .nil))))))))))))))))))))))))))) (by kernel_rfl) ?_
                                                                      refine WK.ct (b := true) (by kernel_rfl) rfl ?_
                                                                      refine WK.rs (g := []) (l' := [(.t 0, [bv false])]) (by kernel_rfl) .nil (by kernel_rfl) ?_
                                                                      refine WK.weak (l := [(.t 0, [bv false])]) (wk_of (by kernel_rfl)) ?_
                                                                      refine WK.ret (by kernel_rfl) ?_
                                                                      have h_ := some_inj h
                                                                      subst h_
                                                                      exact WKe.fin (e' := .ret) (by kernel_rfl) (fin_of (g := []) (by first | exact .inl rfl | exact .inr rfl) .nil (by kernel_rfl))
                                                                    · rcases br_inv h with ⟨b59_3, h⟩ | ⟨b59_3, h⟩
                                                                      · refine WK.rs (g := [.s (.t 235) [iv (r58_5.length : Int)], .b false, .b false, .b false, .b false, .b false, .b false, .b false, .s (.t 245) [iv (r58_4.Match.length : Int)], .b false, .b false, .b true, .b true, .b true, .b true, .b true, .b true, .b true, .b true, .b true, .b true, .b true, .b true, .b true, .b true, .b true, .b true, .b true]) (l' := [(.t 1, [.ptr 1 0]), (.t 2, [.ptr 2 0]), (.t 267, [bv true]), (.o 1, (TRaft.ob r58_4)), (.o 2, (TRaft.ob r48_4))]) (by kernel_rfl) (.cons (c_len (e := TMsg.en) (l := r58_5)) (.cons b59_1 (.cons b59_1 (.cons b59_1 (.cons b59_1 (.cons b59_2 (.cons b59_2 (.cons b59_2 (.cons (c_len (e := e_i64) (l := r58_4.Match)) (.cons b59_2 (.cons b59_2 (.cons b59_3 (.cons b59_3 (.cons b59_3 (.cons b59_3 (.cons b59_3 (.cons (Eq.refl true) (.cons (Eq.refl true) (.cons (Eq.refl true) (.cons (Eq.refl true) (.cons (Eq.refl true) (.cons (Eq.refl true) (.cons (Eq.refl true) (.cons (Eq.refl true) (.cons (Eq.refl true) (.cons (Eq.refl true) (.cons (Eq.refl true) (.cons (Eq.refl true) .nil)))))))))))))))))))))))))))) (by kernel_rfl) ?_
                                                                        refine WK.ct (b := true) (by kernel_rfl) rfl ?_
                                                                        refine WK.rs (g := []) (l' := [(.t 0, [bv false])]) (by kernel_rfl) .nil (by kernel_rfl) ?_
                                                                        refine WK.weak (l := [(.t 0, [bv false])]) (wk_of (by kernel_rfl)) ?_
                                                                        refine WK.ret (by kernel_rfl) ?_
                                                                        have h_ := some_inj h
                                                                        subst h_
                                                                        exact WKe.fin (e' := .ret) (by kernel_rfl) (fin_of (g := []) (by first | exact .inl rfl | exact .inr rfl) .nil (by kernel_rfl))
                                                                      · rcases br_inv h with ⟨b59_4, h⟩ | ⟨b59_4, h⟩
                                                                        · refine WK.rs (g := [.s (.t 235) [iv (r58_5.length : Int)], .b false, .b false, .b false, .b false, .b false, .b false, .b false, .s (.t 245) [iv (r58_4.Match.length : Int)], .b false, .b false, .b false, .b false, .b false, .s (.t 251) [iv (r58_4.Next.length : Int)], .b false, .b false, .b true, .b true, .b true, .b true, .b true, .b true, .b true, .b true, .b true, .b true, .b true, .b true]) (l' := [(.t 1, [.ptr 1 0]), (.t 2, [.ptr 2 0]), (.t 267, [bv true]), (.o 1, (TRaft.ob r58_4)), (.o 2, (TRaft.ob r48_4))]) (by kernel_rfl) (.cons (c_len (e := TMsg.en) (l := r58_5)) (.cons b59_1 (.cons b59_1 (.cons b59_1 (.cons b59_1 (.cons b59_2 (.cons b59_2 (.cons b59_2 (.cons (c_len (e := e_i64) (l := r58_4.Match)) (.cons b59_2 (.cons b59_2 (.cons b59_3 (.cons b59_3 (.cons b59_3 (.cons (c_len (e := e_i64) (l := r58_4.Next)) (.cons b59_3 (.cons b59_3 (.cons b59_4 (.cons b59_4 (.cons b59_4 (.cons b59_4 (.cons b59_4 (.cons b59_4 (.cons (Eq.refl true) (.cons (Eq.refl true) (.cons (Eq.refl true) (.cons (Eq.refl true) (.cons (Eq.refl true) (.cons (Eq.refl true) .nil))))))))))))))))))))))))))))) (by kernel_rfl) ?_
                                                                          refine WK.ct (b := true) (by kernel_rfl) rfl ?_
                                                                          refine WK.rs (g := []) (l' := [(.t 0, [bv false])]) (by kernel_rfl) .nil (by kernel_rfl) ?_
                                                                          refine WK.weak (l := [(.t 0, [bv false])]) (wk_of (by kernel_rfl)) ?_
                                                                          refine WK.ret (by kernel_rfl) ?_
                                                                          have h_ := some_inj h
                                                                          subst h_
                                                                          exact WKe.fin (e' := .ret) (by kernel_rfl) (fin_of (g := []) (by first | exact .inl rfl | exact .inr rfl) .nil (by kernel_rfl))
                                                                        · obtain ⟨x59_5, a59_6, e59_7, h⟩ := ix_inv h
                                                                          rcases br_inv h with ⟨b59_8, h⟩ | ⟨b59_8, h⟩
                                                                          · refine WK.rs (g := [.s (.t 235) [iv (r58_5.length : Int)], .b false, .b false, .b false, .b false, .b false, .b false, .b false, .s (.t 245) [iv (r58_4.Match.length : Int)], .b false, .b false, .b false, .b false, .b false, .s (.t 251) [iv (r58_4.Next.length : Int)], .b false, .b false, .b false, .b false, .b false, .c (e_i64 x59_5), .b false, .b false, .b false, .b true, .b true, .b true, .b true, .b true, .b true]) (l' := [(.t 1, [.ptr 1 0]), (.t 2, [.ptr 2 0]), (.t 267, [bv true]), (.o 1, (TRaft.ob r58_4)), (.o 2, (TRaft.ob r48_4))]) (by kernel_rfl) (.cons (c_len (e := TMsg.en) (l := r58_5)) (.cons b59_1 (.cons b59_1 (.cons b59_1 (.cons b59_1 (.cons b59_2 (.cons b59_2 (.cons b59_2 (.cons (c_len (e := e_i64) (l := r58_4.Match)) (.cons b59_2 (.cons b59_2 (.cons b59_3 (.cons b59_3 (.cons b59_3 (.cons (c_len (e := e_i64) (l := r58_4.Next)) (.cons b59_3 (.cons b59_3 (.cons b59_4 (.cons b59_4 (.cons b59_4 (.cons (c_ix (e := e_i64) a59_6 e59_7) (.cons (c_el (e := e_i64) e59_7) (.cons b59_4 (.cons b59_4 (.cons b59_4 (.cons b59_8 (.cons b59_8 (.cons b59_8 (.cons b59_8 (.cons b59_8 (.cons b59_8 .nil))))))))))))))))))))))))))))))) (by kernel_rfl) ?_
                                                                            refine WK.ct (b := true) (by kernel_rfl) rfl ?_
                                                                            refine WK.rs (g := []) (l' := [(.t 0, [bv false])]) (by kernel_rfl) .nil (by kernel_rfl) ?_
                                                                            refine WK.weak (l := [(.t 0, [bv false])]) (wk_of (by kernel_rfl)) ?_
                                                                            refine WK.ret (by kernel_rfl) ?_
                                                                            have h_ := some_inj h
                                                                            subst h_
                                                                            exact WKe.fin (e' := .ret) (by kernel_rfl) (fin_of (g := []) (by first | exact .inl rfl | exact .inr rfl) .nil (by kernel_rfl))
                                                                          · obtain ⟨x59_9, a59_10, e59_11, h⟩ := ix_inv h
                                                                            refine WK.rs (g := [.s (.t 235) [iv (r58_5.length : Int)], .b false, .b false, .b false, .b false, .b false, .b false, .b false, .s (.t 245) [iv (r58_4.Match.length : Int)], .b false, .b false, .b false, .b false, .b false, .s (.t 251) [iv (r58_4.Next.length : Int)], .b false, .b false, .b false, .b false, .b false, .c (e_i64 x59_5), .b false, .b false, .b false, .b false, .b false, .b false, .c (e_i64 x59_9), .b false, .b false, .b false]) (l' := [(.t 1, [.ptr 1 0]), (.t 2, [.ptr 2 0]), (.t 267, [bv (x59_9 != 2)]), (.o 1, (TRaft.ob r58_4)), (.o 2, (TRaft.ob r48_4))]) (by kernel_rfl) (.cons (c_len (e := TMsg.en) (l := r58_5)) (.cons b59_1 (.cons b59_1 (.cons b59_1 (.cons b59_1 (.cons b59_2 (.cons b59_2 (.cons b59_2 (.cons (c_len (e := e_i64) (l := r58_4.Match)) (.cons b59_2 (.cons b59_2 (.cons b59_3 (.cons b59_3 (.cons b59_3 (.cons (c_len (e := e_i64) (l := r58_4.Next)) (.cons b59_3 (.cons b59_3 (.cons b59_4 (.cons b59_4 (.cons b59_4 (.cons (c_ix (e := e_i64) a59_6 e59_7) (.cons (c_el (e := e_i64) e59_7) (.cons b59_4 (.cons b59_4 (.cons b59_4 (.cons b59_8 (.cons b59_8 (.cons b59_8 (.cons (c_ix (e := e_i64) a59_10 e59_11) (.cons (c_el (e := e_i64) e59_11) (.cons b59_8 (.cons b59_8 (.cons b59_8 .nil))))))))))))))))))))))))))))))))) (by kernel_rfl) ?_
                                                                            rcases br_inv h with ⟨b65_0, h⟩ | ⟨b65_0, h⟩
                                                                            · refine WK.ct (b := (x59_9 != 2)) (by kernel_rfl) b65_0 ?_
                                                                              refine WK.rs (g := []) (l' := [(.t 0, [bv false])]) (by kernel_rfl) .nil (by kernel_rfl) ?_
                                                                              refine WK.weak (l := [(.t 0, [bv false])]) (wk_of (by kernel_rfl)) ?_
                                                                              refine WK.ret (by kernel_rfl) ?_
                                                                              have h_ := some_inj h
                                                                              subst h_
                                                                              exact WKe.fin (e' := .ret) (by kernel_rfl) (fin_of (g := []) (by first | exact .inl rfl | exact .inr rfl) .nil (by kernel_rfl))
                                                                            · refine WK.ce (b := (x59_9 != 2)) (by kernel_rfl) b65_0 ?_
                                                                              refine WK.skip (by kernel_rfl) ?_
                                                                              refine WKe.code (y := (cR (cR (cR (cR (cR (cR (cR (cR (cR (cR (cR (cR (cR (cR bd6))))))))))))))) (ks' := []) (by kernel_rfl) ?_
                                                                              obtain ⟨⟨r67_1, r67_2⟩, h67_3, h⟩ := bd_inv h
                                                                              refine WK.rs (g := [.a ⟨.tup [.data (TRaft.ag r67_1), .data (.slc false none 24 (List.map TMsg.en r67_2))], []⟩]) (l' := [(.t 1, [.ptr 1 0]), (.t 2, [.ptr 2 0]), (.t 3, [.data (.slc false none 24 (List.map TMsg.en r67_2))]), (.o 1, (TRaft.ob r67_1)), (.o 2, (TRaft.ob r48_4))]) (by kernel_rfl) (.cons (Asks.of (C := Meets Try.prog) (raft_Tick.meets fu r58_4 _ _ h67_3)) .nil) (by kernel_rfl) ?_
                                                                              refine WK.seq (by kernel_rfl) ?_
                                                                              rcases br_inv h with ⟨b68_1, h⟩ | ⟨b68_1, h⟩
                                                                              · refine WK.rs (g := [.s (.t 274) [iv (r67_2.length : Int)], .b true, .b true, .b true, .b true, .b true, .b true, .b true, .b true, .b true, .b true, .b true, .b true, .b true, .b true, .b true, .b true, .b true, .b true, .b true, .b true, .b true, .b true, .b true, .b true, .b true, .b true]) (l' := [(.t 1, [.ptr 1 0]), (.t 2, [.ptr 2 0]), (.t 3, [.data (.slc false none 24 (List.map TMsg.en r67_2))]), (.t 305, [bv true]), (.o 1, (TRaft.ob r67_1)), (.o 2, (TRaft.ob r48_4))]) (by kernel_rfl) (.cons (c_len (e := TMsg.en) (l := r67_2)) (.cons b68_1 (.cons b68_1 (.cons b68_1 (.cons b68_1 (.cons b68_1 (.cons b68_1 (.cons (Eq.refl true) (.cons (Eq.refl true) (.cons (Eq.refl true) (.cons (Eq.refl true) (.cons (Eq.refl true) (.cons (Eq.refl true) (.cons (Eq.refl true) (.cons (Eq.refl true) (.cons (Eq.refl true) (.cons (Eq.refl true) (.cons (Eq.refl true) (.cons (Eq.refl true) (.cons (Eq.refl true) (.cons (Eq.refl true) (.cons (Eq.refl true) (.cons (Eq.refl true) (.cons (Eq.refl true) (.cons (Eq.refl true) (.cons (Eq.refl true) (.cons (Eq.refl true) .nil))))))))))))))))))))))))))) (by kernel_rfl) ?_
                                                                                refine WK.ct (b := true) (by kernel_rfl) rfl ?_
                                                                                refine WK.rs (g := []) (l' := [(.t 0, [bv false])]) (by kernel_rfl) .nil (by kernel_rfl) ?_
                                                                                refine WK.weak (l := [(.t 0, [bv false])]) (wk_of (by kernel_rfl)) ?_
                                                                                refine WK.ret (by kernel_rfl) ?_
                                                                                have h_ := some_inj h
                                                                                subst h_
                                                                                exact WKe.fin (e' := .ret) (by kernel_rfl) (fin_of (g := []) (by first | exact .inl rfl | exact .inr rfl) .nil (by kernel_rfl))
                                                                              · obtain ⟨x68_2, a68_3, e68_4, h⟩ := ix_inv h
                                                                                rcases br_inv h with ⟨b68_5, h⟩ | ⟨b68_5, h⟩
                                                                                · refine WK.rs (g := [.s (.t 274) [iv (r67_2.length : Int)], .b false, .b false, .c (TMsg.en x68_2), .b false, .b false, .b false, .b false, .b true, .b true, .b true, .b true, .b true, .b true, .b true, .b true, .b true, .b true, .b true, .b true, .b true, .b true, .b true, .b true, .b true, .b true, .b true, .b true]) (l' := [(.t 1, [.ptr 1 0]), (.t 2, [.ptr 2 0]), (.t 3, [.data (.slc false none 24 (List.map TMsg.en r67_2))]), (.t 305, [bv true]), (.o 1, (TRaft.ob r67_1)), (.o 2, (TRaft.ob r48_4))]) (by kernel_rfl) (.cons (c_len (e := TMsg.en) (l := r67_2)) (.cons b68_1 (.cons b68_1 (.cons (c_ix (e := TMsg.en) a68_3 e68_4) (.cons (c_el (e := TMsg.en) e68_4) (.cons b68_1 (.cons b68_1 (.cons b68_1 (.cons b68_1 (.cons b68_5 (.cons b68_5 (.cons b68_5 (.cons b68_5 (.cons b68_5 (.cons b68_5 (.cons (Eq.refl true) (.cons (Eq.refl true) (.cons (Eq.refl true) (.cons (Eq.refl true) (.cons (Eq.refl true) (.cons (Eq.refl true) (.cons (Eq.refl true) (.cons (Eq.refl true) (.cons (Eq.refl true) (.cons (Eq.refl true) (.cons (Eq.refl true) (.cons (Eq.refl true) (.cons (Eq.refl true) (.cons (Eq.refl true) .nil))))))))))))))))))))))))))))) (by kernel_rfl) ?_
                                                                                  refine WK.ct (b := true) (by kernel_rfl) rfl ?_
                                                                                  refine WK.rs (g := []) (l' := [(.t 0, [bv false])]) (by kernel_rfl) .nil (by kernel_rfl) ?_
                                                                                  refine WK.weak (l := [(.t 0, [bv false])]) (wk_of (by kernel_rfl)) ?_
                                                                                  refine WK.ret (by kernel_rfl) ?_
                                                                                  have h_ := some_inj h
                                                                                  subst h_
                                                                                  exact WKe.fin (e' := .ret) (by kernel_rfl) (fin_of (g := []) (by first | exact .inl rfl | exact .inr rfl) .nil (by kernel_rfl))
                                                                                · obtain ⟨x68_6, a68_7, e68_8, h⟩ := ix_inv h
                                                                                  rcases br_inv h with ⟨b68_9, h⟩ | ⟨b68_9, h⟩
                                                                                  · refine WK.rs (g := [.s (.t 274) [iv (r67_2.length : Int)], .b false, .b false, .c (TMsg.en x68_2), .b false, .b false, .b false, .b false, .b false, .b false, .c (TMsg.en x68_6), .b false, .b false, .b false, .b false, .b true, .b true, .b true, .b true, .b true, .b true, .b true, .b true, .b true, .b true, .b true, .b true, .b true, .b true]) (l' := [(.t 1, [.ptr 1 0]), (.t 2, [.ptr 2 0]), (.t 3, [.data (.slc false none 24 (List.map TMsg.en r67_2))]), (.t 305, [bv true]), (.o 1, (TRaft.ob r67_1)), (.o 2, (TRaft.ob r48_4))]) (by kernel_rfl) (.cons (c_len (e := TMsg.en) (l := r67_2)) (.cons b68_1 (.cons b68_1 (.cons (c_ix (e := TMsg.en) a68_3 e68_4) (.cons (c_el (e := TMsg.en) e68_4) (.cons b68_1 (.cons b68_1 (.cons b68_1 (.cons b68_1 (.cons b68_5 (.cons b68_5 (.cons (c_ix (e := TMsg.en) a68_7 e68_8) (.cons (c_el (e := TMsg.en) e68_8) (.cons b68_5 (.cons b68_5 (.cons b68_5 (.cons b68_5 (.cons b68_9 (.cons b68_9 (.cons b68_9 (.cons b68_9 (.cons b68_9 (.cons b68_9 (.cons b68_9 (.cons (Eq.refl true) (.cons (Eq.refl true) (.cons (Eq.refl true) (.cons (Eq.refl true) (.cons (Eq.refl true) (.cons (Eq.refl true) (.cons (Eq.refl true) .nil))))))))))))))))))))))))))))))) (by kernel_rfl) ?_
                                                                                    refine WK.ct (b := true) (by kernel_rfl) rfl ?_
                                                                                    refine WK.rs (g := []) (l' := [(.t 0, [bv false])]) (by kernel_rfl) .nil (by kernel_rfl) ?_
                                                                                    refine WK.weak (l := [(.t 0, [bv false])]) (wk_of (by kernel_rfl)) ?_
                                                                                    refine WK.ret (by kernel_rfl) ?_
                                                                                    have h_ := some_inj h
                                                                                    subst h_
                                                                                    exact WKe.fin (e' := .ret) (by kernel_rfl) (fin_of (g := []) (by first | exact .inl rfl | exact .inr rfl) .nil (by kernel_rfl))
                                                                                  · obtain ⟨x68_10, a68_11, e68_12, h⟩ := ix_inv h
                                                                                    rcases br_inv h with ⟨b68_13, h⟩ | ⟨b68_13, h⟩
                                                                                    · refine WK.rs (g := [.s (.t 274) [iv (r67_2.length : Int)], .b false, .b false, .c (TMsg.en x68_2), .b false, .b false, .b false, .b false, .b false, .b false, .c (TMsg.en x68_6), .b false, .b false, .b false, .b false, .b false, .b false, .c (TMsg.en x68_10), .b false, .b false, .b false, .s (.t 295) [iv (x68_10.Entries.length : Int)], .b false, .b false, .b true, .b true, .b true, .b true, .b true, .b true, .b true]) (l' := [(.t 1, [.ptr 1 0]), (.t 2, [.ptr 2 0]), (.t 3, [.data (.slc false none 24 (List.map TMsg.en r67_2))]), (.t 305, [bv true]), (.o 1, (TRaft.ob r67_1)), (.o 2, (TRaft.ob r48_4))]) (by kernel_rfl) (.cons (c_len (e := TMsg.en) (l := r67_2)) (.cons b68_1 (.cons b68_1 (.cons (c_ix (e := TMsg.en) a68_3 e68_4) (.cons (c_el (e := TMsg.en) e68_4) (.cons b68_1 (.cons b68_1 (.cons b68_1 (.cons b68_1 (.cons b68_5 (.cons b68_5 (.cons (c_ix (e := TMsg.en) a68_7 e68_8) (.cons (c_el (e := TMsg.en) e68_8) (.cons b68_5 (.cons b68_5 (.cons b68_5 (.cons b68_5 (.cons b68_9 (.cons b68_9 (.cons (c_ix (e := TMsg.en) a68_11 e68_12) (.cons (c_el (e := TMsg.en) e68_12) (.cons b68_9 (.cons b68_9 (.cons b68_9 (.cons (c_len (e := TEntry.en) (l := x68_10.Entries)) (.cons b68_9 (.cons b68_9 (.cons b68_13 (.cons b68_13 (.cons b68_13 (.cons b68_13 (.cons b68_13 (.cons b68_13 (.cons b68_13 .nil)))))))))))))))))))))))))))))))))) (by kernel_rfl) ?_
                                                                                      refine WK.ct (b := true) (by kernel_rfl) rfl ?_
                                                                                      refine WK.rs (g := []) (l' := [(.t 0, [bv false])]) (by kernel_rfl) .nil (by kernel_rfl) ?_
                                                                                      refine WK.weak (l := [(.t 0, [bv false])]) (wk_of (by kernel_rfl)) ?_
                                                                                      refine WK.ret (by kernel_rfl) ?_
                                                                                      have h_ := some_inj h
                                                                                      subst h_
                                                                                      exact WKe.fin (e' := .ret) (by kernel_rfl) (fin_of (g := []) (by first | exact .inl rfl | exact .inr rfl) .nil (by kernel_rfl))
                                                                                    · obtain ⟨x68_14, a68_15, e68_16, h⟩ := ix_inv h
                                                                                      refine WK.rs (g := [.s (.t 274) [iv (r67_2.length : Int)], .b false, .b false, .c (TMsg.en x68_2), .b false, .b false, .b false, .b false, .b false, .b false, .c (TMsg.en x68_6), .b false, .b false, .b false, .b false, .b false, .b false, .c (TMsg.en x68_10), .b false, .b false, .b false, .s (.t 295) [iv (x68_10.Entries.length : Int)], .b false, .b false, .b false, .b false, .c (TMsg.en x68_14), .b false, .b false, .b false, .s (.t 303) [iv (x68_14.Entries.length : Int)], .b false, .b false]) (l' := [(.t 1, [.ptr 1 0]), (.t 2, [.ptr 2 0]), (.t 3, [.data (.slc false none 24 (List.map TMsg.en r67_2))]), (.t 305, [bv ((x68_14.Entries.length : Int) != 1)]), (.o 1, (TRaft.ob r67_1)), (.o 2, (TRaft.ob r48_4))]) (by kernel_rfl) (.cons (c_len (e := TMsg.en) (l := r67_2)) (.cons b68_1 (.cons b68_1 (.cons (c_ix (e := TMsg.en) a68_3 e68_4) (.cons (c_el (e := TMsg.en) e68_4) (.cons b68_1 (.cons b68_1 (.cons b68_1 (.cons b68_1 (.cons b68_5 (.cons b68_5 (.cons (c_ix (e := TMsg.en) a68_7 e68_8) (.cons (c_el (e := TMsg.en) e68_8) (.cons b68_5 (.cons b68_5 (.cons b68_5 (.cons b68_5 (.cons b68_9 (.cons b68_9 (.cons (c_ix (e := TMsg.en) a68_11 e68_12) (.cons (c_el (e := TMsg.en) e68_12) (.cons b68_9 (.cons b68_9 (.cons b68_9 (.cons (c_len (e := TEntry.en) (l := x68_10.Entries)) (.cons b68_9 (.cons b68_9 (.cons b68_13 (.cons b68_13 (.cons (c_ix (e := TMsg.en) a68_15 e68_16) (.cons (c_el (e := TMsg.en) e68_16) (.cons b68_13 (.cons b68_13 (.cons b68_13 (.cons (c_len (e := TEntry.en) (l := x68_14.Entries)) (.cons b68_13 (.cons b68_13 .nil))))))))))))))))))))))))))))))))))))) (by kernel_rfl) ?_
                                                                                      rcases br_inv h with ⟨b73_0, h⟩ | ⟨b73_0, h⟩
                                                                                      · refine WK.ct (b := ((x68_14.Entries.length : Int) != 1)) (by kernel_rfl) b73_0 ?_
                                                                                        refine WK.rs (g := []) (l' := [(.t 0, [bv false])]) (by kernel_rfl) .nil (by kernel_rfl) ?_
                                                                                        refine WK.weak (l := [(.t 0, [bv false])]) (wk_of (by kernel_rfl)) ?_
                                                                                        refine WK.ret (by kernel_rfl) ?_
                                                                                        have h_ := some_inj h
                                                                                        subst h_
                                                                                        exact WKe.fin (e' := .ret) (by kernel_rfl) (fin_of (g := []) (by first | exact .inl rfl | exact .inr rfl) .nil (by kernel_rfl))
                                                                                      · refine WK.ce (b := ((x68_14.Entries.length : Int) != 1)) (by kernel_rfl) b73_0 ?_
                                                                                        refine WK.skip (by kernel_rfl) ?_
                                                                                        refine WKe.code (y := (cR (cR (cR (cR (cR (cR (cR (cR (cR (cR (cR (cR (cR (cR (cR (cR bd6))))))))))))))))) (ks' := []) (by kernel_rfl) ?_
                                                                                        obtain ⟨x75_1, a75_2, e75_3, h⟩ := ix_inv h
                                                                                        obtain ⟨⟨r75_4, r75_5⟩, h75_6, h⟩ := bd_inv h
                                                                                        refine WK.rs (g := [.c (TMsg.en x75_1), .a ⟨.tup [.data (TRaft.ag r75_4), .data (.slc false none 24 (List.map TMsg.en r75_5))], []⟩]) (l' := [(.t 1, [.ptr 1 0]), (.t 2, [.ptr 2 0]), (.t 3, [.data (.slc false none 24 (List.map TMsg.en r75_5))]), (.o 1, (TRaft.ob r67_1)), (.o 2, (TRaft.ob r75_4))]) (by kernel_rfl) (.cons (c_ix (e := TMsg.en) a75_2 e75_3) (.cons (c_el (e := TMsg.en) e75_3) (.cons (Asks.of (C := Meets Try.prog) (raft_Take.meets fu r48_4 x75_1 _ _ h75_6)) (.cons (Eq.refl true) .nil)))) (by kernel_rfl) ?_
                                                                                        rcases br_inv h with ⟨b76_1, h⟩ | ⟨b76_1, h⟩
                                                                                        · rcases br_inv h with ⟨b76_2, h⟩ | ⟨b76_2, h⟩
                                                                                          · obtain ⟨x76_3, a76_4, e76_5, h⟩ := ix_inv h
                                                                                            rcases br_inv h with ⟨b76_6, h⟩ | ⟨b76_6, h⟩
                                                                                            · refine WK.rs (g := [.b true, .b true, .s (.t 319) [iv (r75_5.length : Int)], .b true, .b true, .b true, .b true, .c (TMsg.en x76_3), .b true, .b true, .b true, .b true, .b true, .b true, .b true, .b true]) (l' := [(.t 0, [bv (r67_1.Clock == 0)])]) (by kernel_rfl) (.cons b76_1 (.cons b76_1 (.cons (c_len (e := TMsg.en) (l := r75_5)) (.cons b76_1 (.cons b76_1 (.cons b76_2 (.cons b76_2 (.cons (c_ix (e := TMsg.en) a76_4 e76_5) (.cons (c_el (e := TMsg.en) e76_5) (.cons b76_2 (.cons b76_2 (.cons b76_2 (.cons b76_2 (.cons b76_6 (.cons b76_6 (.cons b76_6 (.cons b76_6 .nil))))))))))))))))) (by kernel_rfl) ?_
                                                                                              refine WK.weak (l := [(.t 0, [bv (r67_1.Clock == 0)])]) (wk_of (by kernel_rfl)) ?_
                                                                                              refine WK.ret (by kernel_rfl) ?_
                                                                                              have h_ := some_inj h
                                                                                              subst h_
                                                                                              exact WKe.fin (e' := .ret) (by kernel_rfl) (fin_of (g := []) (by first | exact .inl rfl | exact .inr rfl) .nil (by kernel_rfl))
                                                                                            · refine WK.rs (g := [.b true, .b true, .s (.t 319) [iv (r75_5.length : Int)], .b true, .b true, .b true, .b true, .c (TMsg.en x76_3), .b true, .b true, .b true, .b true, .b false, .b false, .b false, .b false]) (l' := [(.t 0, [bv false])]) (by kernel_rfl) (.cons b76_1 (.cons b76_1 (.cons (c_len (e := TMsg.en) (l := r75_5)) (.cons b76_1 (.cons b76_1 (.cons b76_2 (.cons b76_2 (.cons (c_ix (e := TMsg.en) a76_4 e76_5) (.cons (c_el (e := TMsg.en) e76_5) (.cons b76_2 (.cons b76_2 (.cons b76_2 (.cons b76_2 (.cons b76_6 (.cons b76_6 (.cons b76_6 (.cons b76_6 .nil))))))))))))))))) (by kernel_rfl) ?_
                                                                                              refine WK.weak (l := [(.t 0, [bv false])]) (wk_of (by kernel_rfl)) ?_
                                                                                              refine WK.ret (by kernel_rfl) ?_
                                                                                              have h_ := some_inj h
                                                                                              subst h_
                                                                                              exact WKe.fin (e' := .ret) (by kernel_rfl) (fin_of (g := []) (by first | exact .inl rfl | exact .inr rfl) .nil (by kernel_rfl))
                                                                                          · refine WK.rs (g := [.b true, .b true, .s (.t 319) [iv (r75_5.length : Int)], .b true, .b true, .b false, .b false, .b false, .b false, .b false, .b false, .b false, .b false, .b false, .b false]) (l' := [(.t 0, [bv false])]) (by kernel_rfl) (.cons b76_1 (.cons b76_1 (.cons (c_len (e := TMsg.en) (l := r75_5)) (.cons b76_1 (.cons b76_1 (.cons b76_2 (.cons b76_2 (.cons b76_2 (.cons b76_2 (.cons b76_2 (.cons b76_2 (.cons (Eq.refl false) (.cons (Eq.refl false) (.cons (Eq.refl false) (.cons (Eq.refl false) .nil))))))))))))))) (by kernel_rfl) ?_
                                                                                            refine WK.weak (l := [(.t 0, [bv false])]) (wk_of (by kernel_rfl)) ?_
                                                                                            refine WK.ret (by kernel_rfl) ?_
                                                                                            have h_ := some_inj h
                                                                                            subst h_
                                                                                            exact WKe.fin (e' := .ret) (by kernel_rfl) (fin_of (g := []) (by first | exact .inl rfl | exact .inr rfl) .nil (by kernel_rfl))
                                                                                        · refine WK.rs (g := [.b false, .b false, .b false, .b false, .b false, .b false, .b false, .b false, .b false, .b false, .b false, .b false, .b false, .b false]) (l' := [(.t 0, [bv false])]) (by kernel_rfl) (.cons b76_1 (.cons b76_1 (.cons b76_1 (.cons b76_1 (.cons (Eq.refl false) (.cons (Eq.refl false) (.cons (Eq.refl false) (.cons (Eq.refl false) (.cons (Eq.refl false) (.cons (Eq.refl false) (.cons (Eq.refl false) (.cons (Eq.refl false) (.cons (Eq.refl false) (.cons (Eq.refl false) .nil)))))))))))))) (by kernel_rfl) ?_
                                                                                          refine WK.weak (l := [(.t 0, [bv false])]) (wk_of (by kernel_rfl)) ?_
                                                                                          refine WK.ret (by kernel_rfl) ?_
                                                                                          have h_ := some_inj h
                                                                                          subst h_
                                                                                          exact WKe.fin (e' := .ret) (by kernel_rfl) (fin_of (g := []) (by first | exact .inl rfl | exact .inr rfl) .nil (by kernel_rfl))
    · obtain ⟨⟩ := o16
      obtain ⟨rfl, rfl⟩ := hp_
      have h_ := some_inj h
      subst h_
      exact WKe.fin (e' := .ret) (by kernel_rfl) (fin_of (g := []) (by first | exact .inl rfl | exact .inr rfl) .nil (by kernel_rfl))
end Go.Proofs.Ythpokjkbcdfhiaa.Told
