/- A run of a group: a step, and what it costs. -/
import Derived.Test.YthpokjkbcdfhiaaTRc1
namespace Go.Proofs.Ythpokjkbcdfhiaa.Told.RA
open Go Go.Proofs.Ythpokjkbcdfhiaa.Vam Go.Proofs.Ythpokjkbcdfhiaa.Told Go.Proofs.Ythpokjkbcdfhiaa.Told.HP Go.Proofs.Ythpokjkbcdfhiaa.Told.PK
set_option linter.unusedSimpArgs false
set_option linter.unusedVariables false
def Cost (c : Int) (o o' : TPicks) : Prop := o'.l = o.l ∧ o.n ≤ o'.n ∧ (o.n + c ≤ o'.n ∨ (o.l.length : Int) ≤ o'.n)
theorem Cost.trans {a b : Int} {o o1 o2 : TPicks} (h : Cost a o o1) (k : Cost b o1 o2) : Cost (a + b) o o2 := by
 obtain ⟨h1, h2, h3⟩ := h
 obtain ⟨k1, k2, k3⟩ := k
 rw [h1] at k1 k3
 exact ⟨k1, by omega, by omega⟩
theorem Cost.more {a : Int} {o o1 o2 : TPicks} (h : Cost a o o1) (k : Adv o1 o2) : Cost a o o2 := by
 obtain ⟨h1, h2, h3⟩ := h
 exact ⟨k.2.1.trans h1, by have := k.2.2; omega, by have := k.2.2; omega⟩
theorem num_c {m v : Int} {o o' : TPicks} (h : PInv o) (e : diwanplay_Picks_Num m o = some (v, o')) : Cost 1 o o' := by
 obtain ⟨a, s⟩ := num_a h e
 refine ⟨a.2.1, a.2.2, ?_⟩
 by_cases c : o.n < (o.l.length : Int)
 ·have := s c; omega
 ·have := a.2.2; omega
theorem keys_c {fu : Nat} {most : Int} {o o' : TPicks} {ks : List ByteArray} (h : PInv o) (e : diwanplay_Picks_Keys fu most o = some (ks, o')) : Cost 1 o o' := by
 unfold diwanplay_Picks_Keys at e
 obtain ⟨⟨v, o1⟩, h1, e⟩ := bd_i e
 obtain ⟨_, _, e⟩ := bd_i e
 obtain ⟨_, _, e⟩ := bd_i e
 cases e
 exact num_c h h1
theorem txn_c {fu : Nat} {most : Int} {o o' : TPicks} {t : TTxn} (h : PInv o) (e : diwanplay_Picks_Txn fu most o = some (t, o')) : Cost 4 o o' := by
 unfold diwanplay_Picks_Txn at e
 obtain ⟨⟨a, o1⟩, h1, e⟩ := bd_i e
 have a1 := (num_a h h1).1
 have c1 := num_c h h1
 dsimp only at e
 obtain ⟨⟨b, o2⟩, h2, e⟩ := bd_i e
 have a2 := (num_a a1.1 h2).1
 have c2 := num_c a1.1 h2
 dsimp only at e
 obtain ⟨⟨ks, o3⟩, h3, e⟩ := bd_i e
 have a3 := keys_a a2.1 h3
 have c3 := keys_c a2.1 h3
 dsimp only at e
 obtain ⟨⟨t4, o4⟩, h4, e⟩ := bd_i e
 have a4 := reads_a _ _ _ _ _ _ a3.1 h4
 dsimp only at e
 obtain ⟨⟨k5, o5⟩, h5, e⟩ := bd_i e
 have a5 := keys_a a4.1 h5
 have c5 := keys_c a4.1 h5
 dsimp only at e
 obtain ⟨⟨t6, o6⟩, h6, e⟩ := bd_i e
 have a6 := writes_a _ _ _ _ _ _ a5.1 h6
 cases e
 exact (((((c1.trans c2).trans c3).more a4).trans c5).more a6)
def sm (n : Nat) (f : Nat → Int) : Int := ((List.range n).map f).sum
theorem sm_succ (n : Nat) (f : Nat → Int) : sm (n + 1) f = sm n f + f n := by
 unfold sm; rw [List.range_succ]; simp
theorem sm_same : ∀ (n : Nat) (f g : Nat → Int), (∀ j, j < n → f j = g j) → sm n f = sm n g
 | 0, _, _, _ => rfl
 | n + 1, f, g, h => by rw [sm_succ, sm_succ, sm_same n f g (fun j hj => h j (by omega)), h n (by omega)]
theorem sm_upd : ∀ (n i : Nat) (f g : Nat → Int), i < n → (∀ j, j < n → j ≠ i → g j = f j) → sm n g = sm n f - f i + g i
 | 0, _, _, _, h, _ => by omega
 | n + 1, i, f, g, h, hg => by
  rw [sm_succ, sm_succ]
  by_cases c : i = n
  ·subst c
   rw [sm_same i g f (fun j hj => hg j (by omega) (by omega))]; omega
  ·rw [sm_upd n i f g (by omega) (fun j hj hji => hg j (by omega) hji), hg n (by omega) (fun e => c e.symm)]; omega
theorem sm_pos : ∀ (n : Nat) (f : Nat → Int), (∀ j, j < n → 0 ≤ f j) → 0 ≤ sm n f
 | 0, _, _ => Int.le_refl _
 | n + 1, f, h => by
  rw [sm_succ]
  have := sm_pos n f (fun j hj => h j (by omega))
  have := h n (by omega)
  omega
structure GX (n : Nat) (E q : Int) (g : TGroup) (R : Nat → TRaft) : Prop where
 xt : ∀ i, i < n → Xt n i (R i)
 len : ∀ i, i < n → ((R i).Log.length : Int) ≤ E
 ends : ∀ m ∈ g.Mail, m.Kind = 3 → m.Index + (m.Entries.length : Int) ≤ E
 res : 6 * E + sm n (fun i => credit (R i)) ≤ q
 ml : g.Mail.length ≤ 64
def Res (n : Nat) (o o' : TPicks) (g' : TGroup) (R' : Nat → TRaft) : Prop := ∃ E' q', GX n E' q' g' R' ∧ (o'.n < (o.l.length : Int) → q' ≤ o'.n) ∧ q' ≤ (o.l.length : Int) + 5
section
variable {n i : Nat} {E c : Int} {g : TGroup} {R : Nat → TRaft} {o o' : TPicks}
theorem GX.did {y : TRaft} {out rest mail : List TMsg} {M : List TRaft} {E' : Int} (x : GX n E o.n g R) (hi : i < n) (op : Op n i E c (R i) y out E') (hr : ∀ m ∈ rest, m ∈ g.Mail) (hm : ∀ m ∈ mail, m ∈ rest ∨ m ∈ out) (hl : mail.length ≤ 64) (hc : 0 ≤ c ∧ c ≤ 6) (k : Cost c o o') (hlt : o.n < o'.n) (hnot : o.n < (o.l.length : Int)) : Res n o o' (TGroup.mk M mail) (upd R i y) := by
 refine ⟨E', o.n + c, ⟨fun j hj => ?_, fun j hj => ?_, fun m hm' hk => ?_, ?_, hl⟩, fun h => ?_, ?_⟩
 ·unfold upd
  split
  ·rename_i e; subst e; exact op.xt
  ·exact x.xt j hj
 ·unfold upd
  split
  ·exact op.len
  ·have := x.len j hj; have := op.le; omega
 ·rcases hm m hm' with h | h
  ·have := x.ends m (hr m h) hk; have := op.le; omega
  ·exact op.ends m h hk
 ·have h1 := sm_upd n i (fun i => credit (R i)) (fun j => credit (upd R i y j)) hi (fun j _ hji => by rw [upd_ne _ _ hji])
  rw [upd_i] at h1
  rw [h1]
  have := x.res
  have := op.res
  omega
 ·obtain ⟨_, _, k3⟩ := k
  omega
 ·omega
theorem GX.did0 {mail : List TMsg} (x : GX n E o.n g R) (hm : ∀ m ∈ mail, m ∈ g.Mail) (hl : mail.length ≤ 64) (k : Cost c o o') (hlt : o.n < o'.n) (hnot : o.n < (o.l.length : Int)) : Res n o o' (TGroup.mk g.M mail) (upd R 0 (R 0)) := by
 rw [upd_self]
 exact ⟨E, o.n, ⟨x.xt, x.len, fun m h => x.ends m (hm m h), x.res, hl⟩, fun _ => by omega, by omega⟩
end
section
variable {n : Nat} {s : Int} {g : TGroup} {R : Nat → TRaft} {G : Gh}
theorem run_x (h : GI n s g R G) (hs : 0 ≤ s ∧ s ≤ 1000000) {o : TPicks} (ho : PInv o) {E : Int} (hE : E < 200) (gx : GX n E o.n g R) (hnot : o.n < (o.l.length : Int)) : ∃ g' o' i y G', diwanlaw11_Group_run 4000 g o = some (g', o') ∧ Adv o o' ∧ (o.n < (o.l.length : Int) → o.n < o'.n) ∧ Did n i (s + 1) g g' R y G G' ∧ Res n o o' g' (upd R i y) := by
 have hn := h.n1
 have hlen := h.len
 have hml := h.ml
 unfold diwanlaw11_Group_run
 obtain ⟨k, o1, e1, p1, k0, k1, _⟩ := num_e ho (m := 13) (by decide)
 obtain ⟨a1, s1⟩ := num_a ho e1
 have c1_ := num_c ho e1
 rw [bd_s e1]
 dsimp only
 obtain ⟨i, o2, e2, p2, i0, i1, _⟩ := num_e p1 (m := (g.M.length : Int)) (by omega)
 obtain ⟨a2, _⟩ := num_a p1 e2
 have c2_ := c1_.trans (num_c p1 e2)
 rw [bd_s e2]
 dsimp only
 rw [jn_e]
 obtain ⟨j, rfl⟩ := Int.eq_ofNat_of_zero_le i0
 have hj : j < n := by omega
 have hx := h.get j hj
 have r := h.inv.r j hj
 have htj := h.term j hj
 have hsm : s1 = s1 := rfl
 -- how it goes on, whatever is at
 have main : ∀ (at_ : Int) (o3 : TPicks), Adv o o3 → (o.n < (o.l.length : Int) → o.n < o3.n) → Cost 2 o o3 → (0 < g.Mail.length → 0 ≤ at_ ∧ at_ < (g.Mail.length : Int)) → ∃ g' o' i y G',
   jn (fun (j28_0 : List TMsg) (j28_1 : TGroup) (j28_2 : TPicks) =>
br (decide ((j28_1.Mail.length : Int) < 60))
  (br (decide ((j28_0.length : Int) < 20))
   (gd (decide (j28_1.Mail.length + j28_0.length ≤ 4294967296)) <|
   some ((TGroup.mk j28_1.M (j28_1.Mail ++ j28_0)), j28_2))
   (some (j28_1, j28_2)))
  (some (j28_1, j28_2))) (fun k28 =>
 br (decide (k < 3))
  (ix g.M (j : Int) fun x11_1 =>
  bd (raft_Tick 4000 x11_1) fun (r11_4, r11_5) =>
  ix g.M (j : Int) fun x11_7 =>
  k28 r11_5 (TGroup.mk (g.M.set (j : Int).toNat r11_4) g.Mail) o3)
  (br (k == 11)
  (ix g.M (j : Int) fun x14_1 =>
  bd (diwanplay_Picks_Txn 4000 3 o3) fun (r14_4, r14_5) =>
  bd (raft_Propose 4000 x14_1 (TEntry.mk 0 false r14_4)) fun (r14_7, r14_8, r14_9) =>
  ix g.M (j : Int) fun x14_11 =>
  k28 r14_8 (TGroup.mk (g.M.set (j : Int).toNat r14_7) g.Mail) r14_5)
  (br (k == 12)
   (ix g.M (j : Int) fun x17_1 =>
   bd (raft_Again 4000 x17_1) fun r17_4 =>
   ix g.M (j : Int) fun x17_6 =>
   k28 [] (TGroup.mk (g.M.set (j : Int).toNat r17_4) g.Mail) o3)
   (br ((g.Mail.length : Int) == 0)
   (k28 [] g o3)
   (br (k == 10)
    (ix g.Mail at_ fun x22_1 =>
    k28 ([x22_1] : List TMsg) g o3)
    (ix g.Mail at_ fun x23_1 =>
    gd (decide ((0 : Int) ≤ at_ ∧ at_ ≤ (g.Mail.length : Int))) <|
    gd (decide (([] : List TMsg).length + (List.take at_.toNat g.Mail).length ≤ 4294967296)) <|
    gd (decide ((0 : Int) ≤ (w64 (at_ + 1)) ∧ (w64 (at_ + 1)) ≤ (g.Mail.length : Int))) <|
    gd (decide ((List.take at_.toNat g.Mail).length + (List.drop (w64 (at_ + 1)).toNat g.Mail).length ≤ 4294967296)) <|
    br (decide (k < 9))
    (br (decide (x23_1.To ≥ 1))
     (br (decide (x23_1.To ≤ (g.M.length : Int)))
     (ix g.M (w64 (x23_1.To - 1)) fun x27_1 =>
     bd (raft_Take 4000 x27_1 x23_1) fun (r27_4, r27_5) =>
     ix g.M (w64 (x23_1.To - 1)) fun x27_7 =>
     k28 r27_5 (TGroup.mk (g.M.set (w64 (x23_1.To - 1)).toNat r27_4) ((List.take at_.toNat g.Mail) ++ (List.drop (w64 (at_ + 1)).toNat g.Mail))) o3)
     (k28 [] (TGroup.mk g.M ((List.take at_.toNat g.Mail) ++ (List.drop (w64 (at_ + 1)).toNat g.Mail))) o3))
    (k28 [] (TGroup.mk g.M ((List.take at_.toNat g.Mail) ++ (List.drop (w64 (at_ + 1)).toNat g.Mail))) o3))
    (k28 [] (TGroup.mk g.M ((List.take at_.toNat g.Mail) ++ (List.drop (w64 (at_ + 1)).toNat g.Mail))) o3))))))) = some (g', o') ∧ Adv o o' ∧ (o.n < (o.l.length : Int) → o.n < o'.n) ∧ Did n i (s + 1) g g' R y G G' ∧ Res n o o' g' (upd R i y) := by
  intro at_ o3 a3 s3 cc hat
  rw [jn_e]
  -- letters come to the rest
  have fin : ∀ (out : List TMsg) (M : List TRaft) (rest : List TMsg) (o4 : TPicks), Adv o o4 → (o.n < (o.l.length : Int) → o.n < o4.n) → rest.length ≤ 64 → out.length ≤ 5 →
    (∀ mail : List TMsg, mail.length ≤ 64 → (∀ m ∈ mail, m ∈ rest ∨ m ∈ out) → ∃ i y G', Did n i (s + 1) g (TGroup.mk M mail) R y G G' ∧ Res n o o4 (TGroup.mk M mail) (upd R i y)) →
    ∃ g' o' i y G', (br (decide ((rest.length : Int) < 60))
  (br (decide ((out.length : Int) < 20))
   (gd (decide (rest.length + out.length ≤ 4294967296)) <|
   some ((TGroup.mk M (rest ++ out)), o4))
   (some (TGroup.mk M rest, o4)))
  (some (TGroup.mk M rest, o4))) = some (g', o') ∧ Adv o o' ∧ (o.n < (o.l.length : Int) → o.n < o'.n) ∧ Did n i (s + 1) g g' R y G G' ∧ Res n o o' g' (upd R i y) := by
   intro out M rest o4 a4 s4 hr h5 hd
   obtain ⟨i', y', G', d⟩ := hd rest hr (fun m hm => .inl hm)
   by_cases c1 : (rest.length : Int) < 60
   ·rw [br_t (decide_eq_true c1)]
    by_cases c2 : (out.length : Int) < 20
    ·rw [br_t (decide_eq_true c2), gd_t (decide_eq_true (by omega))]
     obtain ⟨i', y', G', d⟩ := hd (rest ++ out) (by simp; omega) (fun m hm => List.mem_append.1 hm)
     exact ⟨_, _, i', y', G', rfl, a4, s4, d⟩
    ·rw [br_f (decide_eq_false c2)]; exact ⟨_, _, i', y', G', rfl, a4, s4, d⟩
   ·rw [br_f (decide_eq_false c1)]; exact ⟨_, _, i', y', G', rfl, a4, s4, d⟩
  by_cases c1 : k < 3
  ·-- a tick
   rw [br_t (decide_eq_true c1), ix_n hx, bd_s (x := ((tickF (R j)).1, (tickF (R j)).2)) (tick_e r.bs (by omega) (by decide))]
   dsimp only
   rw [ix_n hx, Int.toNat_natCast]
   obtain ⟨E', op⟩ := tick_op (gx.xt j hj) r hj (by omega) (gx.len j hj) hE (by omega)
   exact fin _ _ g.Mail o3 a3 s3 gx.ml op.few fun mail hl hm => by
    obtain ⟨G', d⟩ := h.did hj (tick_inv h.inv hj (by omega)) (by have := tickF_term (R j); omega) (fun _ h => h) hm (by omega)
    exact ⟨j, _, G', d, gx.did hj op (fun _ h => h) hm hl (by omega) cc (s3 hnot) hnot⟩
  rw [br_f (decide_eq_false c1)]
  by_cases c2 : k = 11
  ·-- a proposal
   rw [br_t (beq_iff_eq.2 c2), ix_n hx]
   obtain ⟨t, o4, e4, p4, ht⟩ := txn_e (fu := 4000) (by decide) 3 a3.1
   have a4 := txn_a a3.1 e4
   rw [bd_s e4]
   dsimp only
   have he : Smt (TEntry.mk 0 false t) := ⟨ht.rl, ht.wl⟩
   rw [bd_s (x := ((propF (R j) (TEntry.mk 0 false t)).1, (propF (R j) (TEntry.mk 0 false t)).2.1, (propF (R j) (TEntry.mk 0 false t)).2.2)) (propose_e r.bs (fun z hz => by rw [List.mem_singleton.1 hz]; unfold Smt at he; omega) (by decide))]
   dsimp only
   rw [ix_n hx, Int.toNat_natCast]
   obtain ⟨E', op⟩ := prop_op (e := TEntry.mk 0 false t) (gx.xt j hj) r hj (gx.len j hj) hE
   exact fin _ _ g.Mail o4 (a3.trans a4) (fun hlt => by have := s3 hlt; have := a4.2.2; omega) gx.ml op.few fun mail hl hm => by
    obtain ⟨G', d⟩ := h.did hj (propose_inv h.inv hj he) (by show (propF (R j) _).1.Term ≤ _; rw [propF_term]; omega) (fun _ h => h) hm (by omega)
    exact ⟨j, _, G', d, gx.did hj op (fun _ h => h) hm hl (by omega) (cc.trans (txn_c a3.1 e4)) (by have := s3 hnot; have := a4.2.2; omega) hnot⟩
  rw [br_f (beq_eq_false_iff_ne.2 c2)]
  by_cases c3 : k = 12
  ·-- one comes up anew
   rw [br_t (beq_iff_eq.2 c3), ix_n hx, bd_s (again_e r.bs (by decide)), ix_n hx, Int.toNat_natCast]
   exact fin [] _ g.Mail o3 a3 s3 gx.ml (by simp) fun mail hl hm => by
    obtain ⟨G', d⟩ := h.did (y := (againR (R j), [])) hj (again_inv h.inv hj) (by show (R j).Term ≤ _; omega) (fun _ h => h) hm (by omega)
    exact ⟨j, _, G', d, gx.did hj (again_op (gx.xt j hj) r.may.clock (gx.len j hj)) (fun _ h => h) hm hl (by omega) cc (s3 hnot) hnot⟩
  rw [br_f (beq_eq_false_iff_ne.2 c3)]
  by_cases c4 : (g.Mail.length : Int) = 0
  ·-- no letters
   rw [br_t (beq_iff_eq.2 c4)]
   obtain ⟨M, Mail⟩ := g
   exact fin [] M Mail o3 a3 s3 gx.ml (by simp) fun mail hl hm => by
    obtain ⟨G', d⟩ := h.did0 (fun m hm' => (hm m hm').elim id (fun g => by cases g)) (by omega)
    exact ⟨0, _, G', d, gx.did0 (fun m hm' => (hm m hm').elim id (fun g => by cases g)) hl cc (s3 hnot) hnot⟩
  rw [br_f (beq_eq_false_iff_ne.2 c4)]
  obtain ⟨b0, b1⟩ := hat (by omega)
  obtain ⟨b, rfl⟩ := Int.eq_ofNat_of_zero_le b0
  have hb : b < g.Mail.length := by omega
  have hmx : g.Mail[b]? = some g.Mail[b] := List.getElem?_eq_getElem hb
  have hmem : g.Mail[b] ∈ g.Mail := List.getElem_mem hb
  generalize g.Mail[b] = m at hmx hmem
  by_cases c5 : k = 10
  ·-- a letter doubled
   rw [br_t (beq_iff_eq.2 c5), ix_n hmx]
   obtain ⟨M, Mail⟩ := g
   exact fin [m] M Mail o3 a3 s3 gx.ml (by simp) fun mail hl hm => by
    obtain ⟨G', d⟩ := h.did0 (fun m' hm' => (hm m' hm').elim id (fun g => by rw [List.mem_singleton.1 g]; exact hmem)) (by omega)
    exact ⟨0, _, G', d, gx.did0 (fun m' hm' => (hm m' hm').elim id (fun g => by rw [List.mem_singleton.1 g]; exact hmem)) hl cc (s3 hnot) hnot⟩
  have hw : w64 ((b : Int) + 1) = ((b + 1 : Nat) : Int) := by rw [w64_id (by omega) (by omega)]; omega
  rw [br_f (beq_eq_false_iff_ne.2 c5), ix_n hmx, gd_t (decide_eq_true (by omega)), gd_t (decide_eq_true (by simp; omega)), hw, gd_t (decide_eq_true (by omega)), gd_t (decide_eq_true (by simp; omega))]
  simp only [Int.toNat_natCast]
  have hrm : ∀ x ∈ List.take b g.Mail ++ List.drop (b + 1) g.Mail, x ∈ g.Mail := fun x hx => (List.mem_append.1 hx).elim List.mem_of_mem_take List.mem_of_mem_drop
  have hrl : (List.take b g.Mail ++ List.drop (b + 1) g.Mail).length ≤ 64 := by have := gx.ml; simp; omega
  have lost : ∃ g' o' i y G', (br (decide (((List.take b g.Mail ++ List.drop (b + 1) g.Mail).length : Int) < 60))
  (br (decide ((([] : List TMsg).length : Int) < 20))
   (gd (decide ((List.take b g.Mail ++ List.drop (b + 1) g.Mail).length + ([] : List TMsg).length ≤ 4294967296)) <|
   some ((TGroup.mk g.M ((List.take b g.Mail ++ List.drop (b + 1) g.Mail) ++ ([] : List TMsg))), o3))
   (some (TGroup.mk g.M (List.take b g.Mail ++ List.drop (b + 1) g.Mail), o3)))
  (some (TGroup.mk g.M (List.take b g.Mail ++ List.drop (b + 1) g.Mail), o3))) = some (g', o') ∧ Adv o o' ∧ (o.n < (o.l.length : Int) → o.n < o'.n) ∧ Did n i (s + 1) g g' R y G G' ∧ Res n o o' g' (upd R i y) :=
   fin [] g.M _ o3 a3 s3 hrl (by simp) fun mail hl hm => by
    obtain ⟨G', d⟩ := h.did0 (fun m' hm' => (hm m' hm').elim (hrm m') (fun g => by cases g)) (by omega)
    exact ⟨0, _, G', d, gx.did0 (fun m' hm' => (hm m' hm').elim (hrm m') (fun g => by cases g)) hl cc (s3 hnot) hnot⟩
  by_cases c6 : k < 9
  ·rw [br_t (decide_eq_true c6)]
   have hmi := h.mail m hmem
   have hto := hmi.to
   have hfr := hmi.frm
   rw [br_t (decide_eq_true hto.1), br_t (decide_eq_true (by omega)), w64_id (n := m.To - 1) (by omega) (by omega)]
   obtain ⟨v, hv⟩ : ∃ v : Nat, m.To - 1 = (v : Int) := ⟨(m.To - 1).toNat, by omega⟩
   have hvn : v < n := by omega
   have hxv := h.get v hvn
   have rv := h.inv.r v hvn
   have htv := h.term v hvn
   have htf := h.term (m.From - 1).toNat (by omega)
   have hmt : m.Term ≤ s := by have h2 : m.Term ≤ (R (m.From - 1).toNat).Term := hmi.term.2; omega
   rw [hv, ix_n hxv, bd_s (x := ((takeF (R v) m).1, (takeF (R v) m).2)) (take_e rv.bs hmi.lb (by decide))]
   dsimp only
   rw [ix_n hxv, Int.toNat_natCast]
   obtain ⟨E', op⟩ := take_op (gx.xt v hvn) rv hvn (by omega) (gx.len v hvn) hE hmi (gx.ends m hmem) (by omega)
   exact fin _ _ _ o3 a3 s3 hrl op.few fun mail hl hm => by
    obtain ⟨G', d⟩ := h.did hvn (take_inv h.inv hvn hmi (by omega)) (by have := takeF_term (R v) m (s := s) htv hmt; omega) hrm hm (by omega)
    exact ⟨v, _, G', d, gx.did hvn op hrm hm hl (by omega) cc (s3 hnot) hnot⟩
  ·rw [br_f (decide_eq_false c6)]; exact lost
 by_cases c0 : (g.Mail.length : Int) > 0
 ·rw [br_t (decide_eq_true c0)]
  obtain ⟨b, o3, e3, p3, b0, b1, _⟩ := num_e p2 (m := (g.Mail.length : Int)) (by omega)
  obtain ⟨a3, _⟩ := num_a p2 e3
  rw [bd_s e3]
  dsimp only
  exact main b o3 ((a1.trans a2).trans a3) (fun hlt => by have := s1 hlt; have := a2.2.2; have := a3.2.2; omega) (c2_.more a3) (fun _ => ⟨b0, b1⟩)
 ·rw [br_f (decide_eq_false c0)]
  exact main 0 o2 (a1.trans a2) (fun hlt => by have := s1 hlt; have := a2.2.2; omega) c2_ (fun hlt => by omega)
end
end Go.Proofs.Ythpokjkbcdfhiaa.Told.RA
