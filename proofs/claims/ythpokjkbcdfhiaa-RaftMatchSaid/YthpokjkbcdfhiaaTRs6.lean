/- A group and its letters: what is known of it at first, and that a step keeps it. -/
import Derived.Test.YthpokjkbcdfhiaaTRs5
import Derived.Test.YthpokjkbcdfhiaaTPk2
namespace Go.Proofs.Ythpokjkbcdfhiaa.Told.RA
open Go Go.Proofs.Ythpokjkbcdfhiaa.Vam Go.Proofs.Ythpokjkbcdfhiaa.Told Go.Proofs.Ythpokjkbcdfhiaa.Told.HP Go.Proofs.Ythpokjkbcdfhiaa.Told.PK
set_option linter.unusedSimpArgs false
set_option linter.unusedVariables false
def newR (me : Int) (n : Nat) (wait : Int) : TRaft := TRaft.mk me n wait 0 0 [] 0 0 0 (List.replicate n false) (List.replicate n 0) (List.replicate n 0) 0
theorem new_e {me nodes wait : Int} {n : Nat} (h : nodes = (n : Int)) (hn : n ≤ 1000) : raft_New me nodes wait = some (newR me n wait) := by
 unfold raft_New newR
 have e : (if (4096 : Int) < (if nodes < 0 then 0 else nodes) then 4096 else (if nodes < 0 then 0 else nodes)) = (n : Int) := by rw [if_neg (show ¬ nodes < 0 by omega), if_neg (by omega)]; exact h
 rw [e, gd_t (decide_eq_true (by omega)), gd_t (decide_eq_true (by omega)), gd_t (decide_eq_true (by omega)), Int.toNat_natCast, h]
theorem again_e {fu : Nat} {r : TRaft} (hb : Bs r) (hf : 300 ≤ fu) : raft_Again fu r = some (againR r) := by
 have := hb.nodes
 have := hb.len
 unfold raft_Again againR
 rw [bd_s (new_e (n := r.Nodes.toNat) (by omega) (by omega)), bd_s (entries_e (by omega) hb.sm (by omega))]
 dsimp only [newR]
 rw [show ((r.Nodes.toNat : Nat) : Int) = r.Nodes by omega]
structure GI (n : Nat) (s : Int) (g : TGroup) (R : Nat → TRaft) (G : Gh) : Prop where
 n1 : 1 ≤ n ∧ n ≤ 5
 len : g.M.length = n
 get : ∀ i, i < n → g.M[i]? = some (R i)
 inv : Inv n R G
 mail : ∀ m ∈ g.Mail, MI n (tm R) G m
 ml : g.Mail.length ≤ 80
 term : ∀ i, i < n → (R i).Term ≤ s
structure Did (n i : Nat) (s : Int) (g g' : TGroup) (R : Nat → TRaft) (y : TRaft) (G G' : Gh) : Prop where
 hi : i < n
 gi : GI n s g' (upd R i y) G'
 le : Le (tm R) (tm (upd R i y)) G G'
 lei : LeI i (tm R) G G'
 lead : ∀ t x, G'.L t = some x → (∃ z, G.L t = some z) ∨ (y.Role = 2 ∧ y.Term = t)
theorem takeP_term (r : TRaft) (m : TMsg) : (takeP r m).1.Term = r.Term := by
 unfold takeP
 split
 ·unfold askVoteP; split <;> rfl
 split
 ·unfold voteP
  split
  ·split
   ·exact (leadR_fields _).1
   ·rfl
  ·rfl
 split
 ·unfold appendP
  split
  ·rfl
  split
  ·rfl
  split
  ·split <;> rfl
  ·rfl
 ·unfold appendedP
  split
  ·rfl
  split <;> rfl
theorem takeF_term (r : TRaft) (m : TMsg) {s : Int} (h : r.Term ≤ s) (k : m.Term ≤ s) : (takeF r m).1.Term ≤ s := by
 unfold takeF
 split
 ·rw [takeP_term]
  unfold stepR
  split
  ·exact k
  ·exact h
 ·exact h
theorem tickF_term (r : TRaft) : (tickF r).1.Term ≤ r.Term + 1 := by
 unfold tickF tickP standP
 split
 ·split
  ·show r.Term ≤ _; omega
  split
  ·split
   ·show (leadR (stand1 r)).Term ≤ _
    rw [(leadR_fields _).1]; exact Int.le_refl _
   ·exact Int.le_refl _
  ·show r.Term ≤ _; omega
 ·show r.Term ≤ _; omega
theorem propF_term (r : TRaft) (e : TEntry) : (propF r e).1.Term = r.Term := by
 unfold propF
 split <;> rfl
section
variable {n : Nat} {s : Int} {g : TGroup} {R : Nat → TRaft} {G : Gh}
theorem GI.set {i : Nat} {y : TRaft} {G' : Gh} {mail : List TMsg} (h : GI n s g R G) (hi : i < n) (inv : Inv n (upd R i y) G') (hm : ∀ m ∈ mail, MI n (tm (upd R i y)) G' m) (hl : mail.length ≤ 80) (ht : y.Term ≤ s + 1) : GI n (s + 1) (TGroup.mk (g.M.set i y) mail) (upd R i y) G' where
 n1 := h.n1
 len := by show (g.M.set i y).length = n; rw [List.length_set]; exact h.len
 get j hj := by
  show (g.M.set i y)[j]? = _
  rw [List.getElem?_set]
  unfold upd
  by_cases c : i = j
  ·subst c; rw [if_pos rfl, if_pos rfl, if_pos (by rw [h.len]; exact hi)]
  ·rw [if_neg c, if_neg (fun g => c g.symm)]; exact h.get j hj
 inv := inv
 mail := hm
 ml := hl
 term j hj := by
  unfold upd
  split
  ·exact ht
  ·have := h.term j hj; omega
theorem GI.did {i : Nat} {y : TRaft × List TMsg} {rest mail : List TMsg} (h : GI n s g R G) (hi : i < n) (ho : Out n i R G y) (ht : y.1.Term ≤ s + 1) (hr : ∀ m ∈ rest, m ∈ g.Mail) (hm : ∀ m ∈ mail, m ∈ rest ∨ m ∈ y.2) (hl : mail.length ≤ 80) : ∃ G', Did n i (s + 1) g (TGroup.mk (g.M.set i y.1) mail) R y.1 G G' := by
 obtain ⟨G', i1, i2, i3, i4, i5⟩ := ho
 exact ⟨G', ⟨hi, h.set hi i1 (fun m hm' => (hm m hm').elim (fun a => (h.mail m (hr m a)).mono i2) (i5 m)) hl ht, i2, i3, i4⟩⟩
theorem GI.did0 {mail : List TMsg} (h : GI n s g R G) (hm : ∀ m ∈ mail, m ∈ g.Mail) (hl : mail.length ≤ 80) : ∃ G', Did n 0 (s + 1) g (TGroup.mk g.M mail) R (R 0) G G' := by
 have hn := h.n1
 have := h.did (i := 0) (y := (R 0, [])) (rest := g.Mail) (mail := mail) (by omega) (out_same h.inv) (by have := h.term 0 (by omega); show (R 0).Term ≤ _; omega) (fun _ h => h) (fun m hm' => .inl (hm m hm')) hl
 have e : g.M.set 0 (R 0) = g.M := by
  have h0 := h.get 0 (by omega)
  obtain ⟨hlt, he⟩ := List.getElem?_eq_some_iff.1 h0
  rw [← he]; exact List.set_getElem_self hlt
 rw [show (R 0, ([] : List TMsg)).1 = R 0 from rfl, e] at this
 exact this
theorem run_e (h : GI n s g R G) (hs : 0 ≤ s ∧ s ≤ 1000000) {o : TPicks} (ho : PInv o) : ∃ g' o' i y G', diwanlaw11_Group_run 600 g o = some (g', o') ∧ Adv o o' ∧ (o.n < (o.l.length : Int) → o.n < o'.n) ∧ Did n i (s + 1) g g' R y G G' := by
 have hn := h.n1
 have hlen := h.len
 have hml := h.ml
 unfold diwanlaw11_Group_run
 obtain ⟨k, o1, e1, p1, k0, k1, _⟩ := num_e ho (m := 13) (by decide)
 obtain ⟨a1, s1⟩ := num_a ho e1
 rw [bd_s e1]
 dsimp only
 obtain ⟨i, o2, e2, p2, i0, i1, _⟩ := num_e p1 (m := (g.M.length : Int)) (by omega)
 obtain ⟨a2, _⟩ := num_a p1 e2
 rw [bd_s e2]
 dsimp only
 rw [jn_e]
 obtain ⟨j, rfl⟩ := Int.eq_ofNat_of_zero_le i0
 have hj : j < n := by omega
 have hx := h.get j hj
 have r := h.inv.r j hj
 have htj := h.term j hj
 have hsm : s1 = s1 := rfl
 -- how it goes on, whatever is at
 have main : ∀ (at_ : Int) (o3 : TPicks), Adv o o3 → (o.n < (o.l.length : Int) → o.n < o3.n) → (0 < g.Mail.length → 0 ≤ at_ ∧ at_ < (g.Mail.length : Int)) → ∃ g' o' i y G',
   jn (fun (j28_0 : List TMsg) (j28_1 : TGroup) (j28_2 : TPicks) =>
br (decide ((j28_1.Mail.length : Int) < 60))
  (br (decide ((j28_0.length : Int) < 20))
   (gd (decide (j28_1.Mail.length + j28_0.length ≤ 4294967296)) <|
   some ((TGroup.mk j28_1.M (j28_1.Mail ++ j28_0)), j28_2))
   (some (j28_1, j28_2)))
  (some (j28_1, j28_2))) (fun k28 =>
 br (decide (k < 3))
  (ix g.M (j : Int) fun x11_1 =>
  bd (raft_Tick 600 x11_1) fun (r11_4, r11_5) =>
  ix g.M (j : Int) fun x11_7 =>
  k28 r11_5 (TGroup.mk (g.M.set (j : Int).toNat r11_4) g.Mail) o3)
  (br (k == 11)
  (ix g.M (j : Int) fun x14_1 =>
  bd (diwanplay_Picks_Txn 600 3 o3) fun (r14_4, r14_5) =>
  bd (raft_Propose 600 x14_1 (TEntry.mk 0 false r14_4)) fun (r14_7, r14_8, r14_9) =>
  ix g.M (j : Int) fun x14_11 =>
  k28 r14_8 (TGroup.mk (g.M.set (j : Int).toNat r14_7) g.Mail) r14_5)
  (br (k == 12)
   (ix g.M (j : Int) fun x17_1 =>
   bd (raft_Again 600 x17_1) fun r17_4 =>
   ix g.M (j : Int) fun x17_6 =>
   k28 [] (TGroup.mk (g.M.set (j : Int).toNat r17_4) g.Mail) o3)
   (br ((g.Mail.length : Int) == 0)
   (k28 [] g o3)
   (br (k == 10)
    (ix g.Mail at_ fun x22_1 =>
    k28 ([x22_1] : List TMsg) g o3)
    (ix g.Mail at_ fun x23_1 =>
    gd (decide ((0 : Int) ≤ at_ ∧ at_ ≤ (g.Mail.length : Int))) <|
    gd (decide (([] : List TMsg).length + (List.take at_.toNat g.Mail).length ≤ 4294967296)) <|
    gd (decide ((0 : Int) ≤ (w64 (at_ + 1)) ∧ (w64 (at_ + 1)) ≤ (g.Mail.length : Int))) <|
    gd (decide ((List.take at_.toNat g.Mail).length + (List.drop (w64 (at_ + 1)).toNat g.Mail).length ≤ 4294967296)) <|
    br (decide (k < 9))
    (br (decide (x23_1.To ≥ 1))
     (br (decide (x23_1.To ≤ (g.M.length : Int)))
     (ix g.M (w64 (x23_1.To - 1)) fun x27_1 =>
     bd (raft_Take 600 x27_1 x23_1) fun (r27_4, r27_5) =>
     ix g.M (w64 (x23_1.To - 1)) fun x27_7 =>
     k28 r27_5 (TGroup.mk (g.M.set (w64 (x23_1.To - 1)).toNat r27_4) ((List.take at_.toNat g.Mail) ++ (List.drop (w64 (at_ + 1)).toNat g.Mail))) o3)
     (k28 [] (TGroup.mk g.M ((List.take at_.toNat g.Mail) ++ (List.drop (w64 (at_ + 1)).toNat g.Mail))) o3))
    (k28 [] (TGroup.mk g.M ((List.take at_.toNat g.Mail) ++ (List.drop (w64 (at_ + 1)).toNat g.Mail))) o3))
    (k28 [] (TGroup.mk g.M ((List.take at_.toNat g.Mail) ++ (List.drop (w64 (at_ + 1)).toNat g.Mail))) o3))))))) = some (g', o') ∧ Adv o o' ∧ (o.n < (o.l.length : Int) → o.n < o'.n) ∧ Did n i (s + 1) g g' R y G G' := by
  intro at_ o3 a3 s3 hat
  rw [jn_e]
  -- letters come to the rest
  have fin : ∀ (out : List TMsg) (M : List TRaft) (rest : List TMsg) (o4 : TPicks), Adv o o4 → (o.n < (o.l.length : Int) → o.n < o4.n) → rest.length ≤ 80 →
    (∀ mail : List TMsg, mail.length ≤ 80 → (∀ m ∈ mail, m ∈ rest ∨ m ∈ out) → ∃ i y G', Did n i (s + 1) g (TGroup.mk M mail) R y G G') →
    ∃ g' o' i y G', (br (decide ((rest.length : Int) < 60))
  (br (decide ((out.length : Int) < 20))
   (gd (decide (rest.length + out.length ≤ 4294967296)) <|
   some ((TGroup.mk M (rest ++ out)), o4))
   (some (TGroup.mk M rest, o4)))
  (some (TGroup.mk M rest, o4))) = some (g', o') ∧ Adv o o' ∧ (o.n < (o.l.length : Int) → o.n < o'.n) ∧ Did n i (s + 1) g g' R y G G' := by
   intro out M rest o4 a4 s4 hr hd
   obtain ⟨i', y', G', d⟩ := hd rest hr (fun m hm => .inl hm)
   by_cases c1 : (rest.length : Int) < 60
   ·rw [br_t (decide_eq_true c1)]
    by_cases c2 : (out.length : Int) < 20
    ·rw [br_t (decide_eq_true c2), gd_t (decide_eq_true (by omega))]
     obtain ⟨i', y', G', d⟩ := hd (rest ++ out) (by simp; omega) (fun m hm => List.mem_append.1 hm)
     exact ⟨_, _, i', y', G', rfl, a4, s4, d⟩
    ·rw [br_f (decide_eq_false c2)]; exact ⟨_, _, i', y', G', rfl, a4, s4, d⟩
   ·rw [br_f (decide_eq_false c1)]; exact ⟨_, _, i', y', G', rfl, a4, s4, d⟩
  by_cases c1 : k < 3
  ·-- a tick
   rw [br_t (decide_eq_true c1), ix_n hx, bd_s (x := ((tickF (R j)).1, (tickF (R j)).2)) (tick_e r.bs (by omega) (by decide))]
   dsimp only
   rw [ix_n hx, Int.toNat_natCast]
   exact fin _ _ g.Mail o3 a3 s3 hml fun mail hl hm => ⟨j, _, h.did hj (tick_inv h.inv hj (by omega)) (by have := tickF_term (R j); omega) (fun _ h => h) hm hl⟩
  rw [br_f (decide_eq_false c1)]
  by_cases c2 : k = 11
  ·-- a proposal
   rw [br_t (beq_iff_eq.2 c2), ix_n hx]
   obtain ⟨t, o4, e4, p4, ht⟩ := txn_e (fu := 600) (by decide) 3 a3.1
   have a4 := txn_a a3.1 e4
   rw [bd_s e4]
   dsimp only
   have he : Smt (TEntry.mk 0 false t) := ⟨ht.rl, ht.wl⟩
   rw [bd_s (x := ((propF (R j) (TEntry.mk 0 false t)).1, (propF (R j) (TEntry.mk 0 false t)).2.1, (propF (R j) (TEntry.mk 0 false t)).2.2)) (propose_e r.bs (fun z hz => by rw [List.mem_singleton.1 hz]; unfold Smt at he; omega) (by decide))]
   dsimp only
   rw [ix_n hx, Int.toNat_natCast]
   exact fin _ _ g.Mail o4 (a3.trans a4) (fun hlt => by have := s3 hlt; have := a4.2.2; omega) hml fun mail hl hm => ⟨j, _, h.did hj (propose_inv h.inv hj he) (by show (propF (R j) _).1.Term ≤ _; rw [propF_term]; omega) (fun _ h => h) hm hl⟩
  rw [br_f (beq_eq_false_iff_ne.2 c2)]
  by_cases c3 : k = 12
  ·-- one comes up anew
   rw [br_t (beq_iff_eq.2 c3), ix_n hx, bd_s (again_e r.bs (by decide)), ix_n hx, Int.toNat_natCast]
   exact fin [] _ g.Mail o3 a3 s3 hml fun mail hl hm => ⟨j, _, h.did (y := (againR (R j), [])) hj (again_inv h.inv hj) (by show (R j).Term ≤ _; omega) (fun _ h => h) hm hl⟩
  rw [br_f (beq_eq_false_iff_ne.2 c3)]
  by_cases c4 : (g.Mail.length : Int) = 0
  ·-- no letters
   rw [br_t (beq_iff_eq.2 c4)]
   obtain ⟨M, Mail⟩ := g
   exact fin [] M Mail o3 a3 s3 hml fun mail hl hm => ⟨0, _, h.did0 (fun m hm' => (hm m hm').elim id (fun g => by cases g)) hl⟩
  rw [br_f (beq_eq_false_iff_ne.2 c4)]
  obtain ⟨b0, b1⟩ := hat (by omega)
  obtain ⟨b, rfl⟩ := Int.eq_ofNat_of_zero_le b0
  have hb : b < g.Mail.length := by omega
  have hmx : g.Mail[b]? = some g.Mail[b] := List.getElem?_eq_getElem hb
  have hmem : g.Mail[b] ∈ g.Mail := List.getElem_mem hb
  generalize g.Mail[b] = m at hmx hmem
  by_cases c5 : k = 10
  ·-- a letter doubled
   rw [br_t (beq_iff_eq.2 c5), ix_n hmx]
   obtain ⟨M, Mail⟩ := g
   exact fin [m] M Mail o3 a3 s3 hml fun mail hl hm => ⟨0, _, h.did0 (fun m' hm' => (hm m' hm').elim id (fun g => by rw [List.mem_singleton.1 g]; exact hmem)) hl⟩
  have hw : w64 ((b : Int) + 1) = ((b + 1 : Nat) : Int) := by rw [w64_id (by omega) (by omega)]; omega
  rw [br_f (beq_eq_false_iff_ne.2 c5), ix_n hmx, gd_t (decide_eq_true (by omega)), gd_t (decide_eq_true (by simp; omega)), hw, gd_t (decide_eq_true (by omega)), gd_t (decide_eq_true (by simp; omega))]
  simp only [Int.toNat_natCast]
  have hrm : ∀ x ∈ List.take b g.Mail ++ List.drop (b + 1) g.Mail, x ∈ g.Mail := fun x hx => (List.mem_append.1 hx).elim List.mem_of_mem_take List.mem_of_mem_drop
  have hrl : (List.take b g.Mail ++ List.drop (b + 1) g.Mail).length ≤ 80 := by simp; omega
  have lost : ∃ g' o' i y G', (br (decide (((List.take b g.Mail ++ List.drop (b + 1) g.Mail).length : Int) < 60))
  (br (decide ((([] : List TMsg).length : Int) < 20))
   (gd (decide ((List.take b g.Mail ++ List.drop (b + 1) g.Mail).length + ([] : List TMsg).length ≤ 4294967296)) <|
   some ((TGroup.mk g.M ((List.take b g.Mail ++ List.drop (b + 1) g.Mail) ++ ([] : List TMsg))), o3))
   (some (TGroup.mk g.M (List.take b g.Mail ++ List.drop (b + 1) g.Mail), o3)))
  (some (TGroup.mk g.M (List.take b g.Mail ++ List.drop (b + 1) g.Mail), o3))) = some (g', o') ∧ Adv o o' ∧ (o.n < (o.l.length : Int) → o.n < o'.n) ∧ Did n i (s + 1) g g' R y G G' :=
   fin [] g.M _ o3 a3 s3 hrl fun mail hl hm => ⟨0, _, h.did0 (fun m' hm' => (hm m' hm').elim (hrm m') (fun g => by cases g)) hl⟩
  by_cases c6 : k < 9
  ·rw [br_t (decide_eq_true c6)]
   have hmi := h.mail m hmem
   have hto := hmi.to
   have hfr := hmi.frm
   rw [br_t (decide_eq_true hto.1), br_t (decide_eq_true (by omega)), w64_id (n := m.To - 1) (by omega) (by omega)]
   obtain ⟨v, hv⟩ : ∃ v : Nat, m.To - 1 = (v : Int) := ⟨(m.To - 1).toNat, by omega⟩
   have hvn : v < n := by omega
   have hxv := h.get v hvn
   have rv := h.inv.r v hvn
   have htv := h.term v hvn
   have htf := h.term (m.From - 1).toNat (by omega)
   have hmt : m.Term ≤ s := by have h2 : m.Term ≤ (R (m.From - 1).toNat).Term := hmi.term.2; omega
   rw [hv, ix_n hxv, bd_s (x := ((takeF (R v) m).1, (takeF (R v) m).2)) (take_e rv.bs hmi.lb (by decide))]
   dsimp only
   rw [ix_n hxv, Int.toNat_natCast]
   exact fin _ _ _ o3 a3 s3 hrl fun mail hl hm => ⟨v, _, h.did hvn (take_inv h.inv hvn hmi (by omega)) (by have := takeF_term (R v) m (s := s) htv hmt; omega) hrm hm hl⟩
  ·rw [br_f (decide_eq_false c6)]; exact lost
 by_cases c0 : (g.Mail.length : Int) > 0
 ·rw [br_t (decide_eq_true c0)]
  obtain ⟨b, o3, e3, p3, b0, b1, _⟩ := num_e p2 (m := (g.Mail.length : Int)) (by omega)
  obtain ⟨a3, _⟩ := num_a p2 e3
  rw [bd_s e3]
  dsimp only
  exact main b o3 ((a1.trans a2).trans a3) (fun hlt => by have := s1 hlt; have := a2.2.2; have := a3.2.2; omega) (fun _ => ⟨b0, b1⟩)
 ·rw [br_f (decide_eq_false c0)]
  exact main 0 o2 (a1.trans a2) (fun hlt => by have := s1 hlt; have := a2.2.2; omega) (fun hlt => by omega)
end
def noG : Gh := ⟨fun _ _ => none, fun _ _ => [], fun _ => none, fun _ _ => 0⟩
theorem noG_wg {n : Nat} {T : Nat → Int} : WG n T noG where
 v t v c X e := by cases e
 s t c := ⟨LogP.nil, fun e he => by cases he⟩
 l t x e := by cases e
 a t v e := by exact absurd e (Nat.lt_irrefl 0)
theorem new_ri {n i : Nat} {w : Int} (hn : 1 ≤ n ∧ n ≤ 5) (hi : i < n) (hw : 1 ≤ w ∧ w ≤ 60) : RI n noG i (newR ((i : Int) + 1) n w) := by
 have z : (0 : Int) ≤ 0 ∧ (0 : Int) ≤ 1152921504606846976 := by omega
 exact { me := rfl, nodes := rfl
         may := ⟨by show 1 ≤ (n : Int) ∧ (n : Int) ≤ 5; omega, by show 1 ≤ (i : Int) + 1 ∧ (i : Int) + 1 ≤ (n : Int); omega, hw, Int.le_refl _, ⟨Int.le_refl _, by show (0 : Int) ≤ (n : Int); omega⟩, ⟨Int.le_refl _, by show (0 : Int) ≤ (n : Int); omega⟩, Nat.zero_le _, ⟨Int.le_refl _, Int.le_refl _⟩, ⟨Int.le_refl _, by show (0 : Int) ≤ 2; decide⟩, Int.le_refl _, by show ((List.replicate _ _).length : Int) = (n : Int); simp, by show ((List.replicate _ _).length : Int) = (n : Int); simp, by show ((List.replicate _ _).length : Int) = (n : Int); simp, trivial⟩
         bs := ⟨by show 1 ≤ (n : Int) ∧ (n : Int) ≤ 5; omega, by show 1 ≤ (i : Int) + 1 ∧ (i : Int) + 1 ≤ (n : Int); omega, by show ((List.replicate _ _).length : Int) = (n : Int); simp, by show ((List.replicate _ _).length : Int) = (n : Int); simp, by show ((List.replicate _ _).length : Int) = (n : Int); simp, Nat.zero_le _, fun e he => (by cases he), z, fun a ha => by rw [List.eq_of_mem_replicate ha]; omega, fun a ha => by rw [List.eq_of_mem_replicate ha]; omega, z⟩
         smt := fun e he => by cases he
         v2 := fun k => absurd rfl k
         v3 := fun _ => rfl
         log := LogP.nil
         snap := fun t _ => Keeps.none rfl
         s1 := fun k => by have : (0 : Int) = 1 := k; omega
         s2 := fun k => by have : (0 : Int) = 1 := k; omega
         l2 := fun k => by have : (0 : Int) = 2 := k; omega
         mt := fun k => by have : (0 : Int) = 2 := k; omega
         c1 := .inl rfl }
def waitOf (i : Nat) : Int := 2 + Int.tmod (((i : Int) + 1) * 3) 7
def newAt (n i : Nat) : TRaft := newR ((i : Int) + 1) n (waitOf i)
theorem group_lp (fu n : Nat) (hn : n ≤ 1000) : ∀ (d i m : Nat), i + d = n → d < m → diwanlaw11_group.lp4 fu (n : Int) m ((i : Int) + 1) (TGroup.mk ((List.range i).map (newAt n)) []) = some (TGroup.mk ((List.range n).map (newAt n)) [])
 | 0, i, m, hid, hm => by
  obtain ⟨m, rfl⟩ : ∃ k, m = k + 1 := ⟨m - 1, by omega⟩
  have : i = n := by omega
  subst this
  rw [diwanlaw11_group.lp4, br_f (decide_eq_false (by omega))]
 | d + 1, i, m, hid, hm => by
  obtain ⟨m, rfl⟩ : ∃ k, m = k + 1 := ⟨m - 1, by omega⟩
  have hq : 0 ≤ Int.tmod (((i : Int) + 1) * 3) 7 ∧ Int.tmod (((i : Int) + 1) * 3) 7 < 7 := by
   rw [Int.tmod_eq_emod_of_nonneg (by omega)]
   exact ⟨Int.emod_nonneg _ (by decide), Int.emod_lt_of_pos _ (by decide)⟩
  rw [diwanlaw11_group.lp4, br_t (decide_eq_true (by omega)), w64_id (n := ((i : Int) + 1) * 3) (by omega) (by omega), w64_id (n := 2 + Int.tmod (((i : Int) + 1) * 3) 7) (by omega) (by omega), bd_s (new_e (n := n) rfl hn), gd_t (decide_eq_true (by simp; omega)), w64_id (n := (i : Int) + 1 + 1) (by omega) (by omega)]
  have := group_lp fu n hn d (i + 1) m (by omega) (by omega)
  rw [List.range_succ, List.map_append] at this
  rw [show (i : Int) + 1 + 1 = ((i + 1 : Nat) : Int) + 1 by omega]
  exact this
theorem group_e {fu n : Nat} (hn : 1 ≤ n ∧ n ≤ 5) (hf : 10 ≤ fu) : ∃ g, diwanlaw11_group fu (n : Int) = some g ∧ GI n 0 g (newAt n) noG := by
 refine ⟨TGroup.mk ((List.range n).map (newAt n)) [], ?_, ?_⟩
 ·unfold diwanlaw11_group
  have := group_lp fu n (by omega) n 0 fu (by omega) (by omega)
  simp only [Int.natCast_zero, Int.zero_add, List.range_zero, List.map_nil] at this
  rw [bd_s this]
 ·have hq : ∀ i, 1 ≤ waitOf i ∧ waitOf i ≤ 60 := fun i => by
   unfold waitOf
   rw [Int.tmod_eq_emod_of_nonneg (by omega)]
   have := Int.emod_nonneg (((i : Int) + 1) * 3) (b := 7) (by decide)
   have := Int.emod_lt_of_pos (((i : Int) + 1) * 3) (b := 7) (by decide)
   omega
  exact { n1 := hn, len := by simp
          get := fun i hi => by show ((List.range n).map (newAt n))[i]? = _; simp [hi]
          inv := ⟨noG_wg, fun i hi => new_ri hn hi (hq i)⟩
          mail := fun m hm => by cases hm
          ml := Nat.zero_le _
          term := fun i hi => Int.le_refl _ }
end Go.Proofs.Ythpokjkbcdfhiaa.Told.RA
