/- Ticks, one by one: a stable leader, and what it does. -/
import Derived.Test.YthpokjkbcdfhiaaTRc8
namespace Go.Proofs.Ythpokjkbcdfhiaa.Told.RA
open Go Go.Proofs.Ythpokjkbcdfhiaa.Vam Go.Proofs.Ythpokjkbcdfhiaa.Told Go.Proofs.Ythpokjkbcdfhiaa.Told.HP Go.Proofs.Ythpokjkbcdfhiaa.Told.PK
set_option linter.unusedSimpArgs false
set_option linter.unusedVariables false
def MStp (n p : Nat) (R : Nat → TRaft) (s : Int) (Q : (Nat → TRaft) → Prop) : Prop := ∃ s1 : Int, s1 ≤ s + 1 ∧ (∀ j, j < n → (R j).Term ≤ s1) ∧ (tickF (R p)).1.Term ≤ s1 ∧ ∃ J : (Nat → TRaft) → List TMsg → Prop, J (upd R p (tickF (R p)).1) (tickF (R p)).2 ∧
 (∀ R1 G1 m rest, CI n s1 R1 G1 (m :: rest) → (∀ j, j < n → (R1 j).Log.length < 200) → J R1 (m :: rest) → J (nxt R1 m) (rest ++ outs R1 m)) ∧ ∀ R1 G1, CI n s1 R1 G1 [] → J R1 [] → Q R1
section
variable {n : Nat} {s : Int} {R : Nat → TRaft} {G : Gh} {i : Nat}
theorem micro {M : List TRaft} {E : Int} {Q : (Nat → TRaft) → Prop} (C : CI n s R G []) (hg : GM n M R) (hi : i < n) (hs : s ≤ 500000) (h0 : 0 ≤ E) (hE : E ≤ 181) (hl : ∀ j, j < n → ((R j).Log.length : Int) ≤ E) (h : MStp n i R s Q) (a b : Int) (f : Nat) :
  ∃ R' G' M', diwanlaw11_RaftCalm.lp21 4000 a b (f + 1) (i : Int) (TGroup.mk M []) = diwanlaw11_RaftCalm.lp21 4000 a b f ((i + 1 : Nat) : Int) (TGroup.mk M' []) ∧ GM n M' R' ∧ CI n (s + 1) R' G' [] ∧ (∀ j, j < n → ((R' j).Log.length : Int) ≤ E + 1) ∧ Q R' := by
 obtain ⟨s1, q1, q2, q3, J, q4, q5, q6⟩ := h
 have C1 := C.terms q2
 obtain ⟨G', C'⟩ := tick_ci C1 hi (by omega) (E := E) (by omega) hl q3
 obtain ⟨B, _, b3, b4, _⟩ := tick_bd C1 hi C' (by omega) hl
 have hW : 8 * (2 + WW (E + 1)) + 8 * (E + 1) ≤ 3000 := by unfold WW c4; omega
 have hn := C.n1
 have r := C.inv.r i hi
 have hx := hg.2 i hi
 have hT := C.term i hi
 obtain ⟨R', G2, M', e1, e2, e3, e4, e5⟩ := drain (n := n) (s := s1) (L := E + 1) (A := [i]) (by omega) (by omega) (fun R _ mail => J R mail) (fun R G m rest G' c1 c2 c3 c4 c5 => q5 R G m rest c1 (fun j hj => by
  have := (c1.len c2).1 j hj
  have := c2.cap
  omega) c3) a b (i : Int) 3000 0 4000 (upd R i (tickF (R i)).1) G' (M.set i (tickF (R i)).1) (tickF (R i)).2 (hg.set hi) C' B q4 (by omega) (by omega) (by omega)
 refine ⟨R', G2, M', ?_, e2, e3.weak (by omega), fun j hj => ?_, q6 R' G2 e3 e5⟩
 ·rw [diwanlaw11_RaftCalm.lp21]
  dsimp only
  rw [br_t (decide_eq_true (by have := hg.1; omega)), ix_n hx, bd_s (x := ((tickF (R i)).1, (tickF (R i)).2)) (tick_e r.bs (by omega) (by decide))]
  dsimp only
  rw [ix_n hx, gd_t (decide_eq_true (by simp; omega)), Int.toNat_natCast, List.nil_append]
  rw [bd_s (show diwanlaw11_RaftCalm.lp28 4000 a b (i : Int) 4000 0 _ = _ from e1)]
  dsimp only
  rw [br_f (by rfl), w64_id (by omega) (by omega)]; rfl
 ·have := e4.len j hj
  have := cands_pos [i] R'
  omega
def Mic (n i : Nat) (R R' : Nat → TRaft) : Prop := ((R i).Role ≠ 2 ∧ (R i).Clock + 1 < (R i).Wait ∧ R' = upd R i (clockR (R i))) ∨ ∃ T, (((R i).Role = 2 ∧ T = (R i).Term) ∨ ((R i).Role ≠ 2 ∧ T = (R i).Term + 1 ∧ (R i).Wait ≤ (R i).Clock + 1)) ∧ SA n i T R R' [] ∧ SB n i T R R' [] ∧ SC n i T R' []
theorem mstep_tick {Q : (Nat → TRaft) → Prop} {s1 : Int} (C : CI n s R G []) (hi : i < n) (hs : s ≤ 500000) (h200 : ∀ j, j < n → (R j).Log.length < 199) (h1 : s1 ≤ s + 1) (h2 : ∀ j, j < n → (R j).Term ≤ s1) (h3 : ((R i).Role ≠ 2 ∧ (R i).Wait ≤ (R i).Clock + 1) → (R i).Term + 1 ≤ s1) (h : ∀ R' G', CI n s1 R' G' [] → Mic n i R R' → Q R') : MStp n i R s Q := by
 have r := C.inv.r i hi
 have hT := C.term i hi
 have hTb := r.bs.term
 have hbs : Bs (stand1 (R i)) := stand1_bs r.bs (by omega)
 have h199 := h200 i hi
 refine ⟨s1, h1, h2, ?_, fun R' mail => ((R i).Role ≠ 2 ∧ (R i).Clock + 1 < (R i).Wait ∧ R' = upd R i (clockR (R i)) ∧ mail = []) ∨ ∃ T, (((R i).Role = 2 ∧ T = (R i).Term) ∨ ((R i).Role ≠ 2 ∧ T = (R i).Term + 1 ∧ (R i).Wait ≤ (R i).Clock + 1)) ∧ SA n i T R R' mail ∧ SB n i T R R' mail ∧ SC n i T R' mail, ?_, ?_, fun R' G' C' hJ => h R' G' C' ?_⟩
 ·rcases tick_cases C hi (by omega) with ⟨c1, c2, e⟩ | ⟨c1, e⟩ | ⟨c1, c2, c3, e⟩ | ⟨c1, c2, c3, e⟩ <;> rw [e] <;> dsimp only
  ·exact h2 i hi
  ·exact h2 i hi
  ·rw [(leadR_log (r := stand1 (R i)) (by show (R i).Log.length < 200; omega)).2.2.2.2.1]
   exact h3 ⟨c1, c2⟩
  ·exact h3 ⟨c1, c2⟩
 ·rcases tick_cases C hi (by omega) with ⟨c1, c2, e⟩ | ⟨c1, e⟩ | ⟨c1, c2, c3, e⟩ | ⟨c1, c2, c3, e⟩ <;> rw [e] <;> dsimp only
  ·exact .inl ⟨c1, c2, rfl, rfl⟩
  ·rw [upd_self]
   exact .inr ⟨(R i).Term, .inl ⟨c1, rfl⟩, star_lead hi r.bs r.me r.nodes c1 rfl (fun j _ => rfl) (C.xt i hi)⟩
  ·right
   obtain ⟨l1, l2, l3, l4, l5, l6, l7⟩ := leadR_log (r := stand1 (R i)) (by show (R i).Log.length < 200; omega)
   have hbl : Bs (leadR (stand1 (R i))) := leadR_bs hbs
   have hxl : Xt n i (leadR (stand1 (R i))) := by
    have hx := C.xt i hi
    obtain ⟨E', op⟩ := tick_op (E := 199) hx r hi C.n1.2 (by omega) (by omega) (by omega)
    have := op.xt
    rw [e] at this
    exact this
   have := star_lead (n := n) (i := i) (T := (R i).Term + 1) (R0 := R) (R := upd R i (leadR (stand1 (R i)))) hi (by rw [upd_i]; exact hbl) (by rw [upd_i, l6]; exact r.me) (by rw [upd_i, l7]; exact r.nodes) (by rw [upd_i]; exact l2) (by rw [upd_i, l5]; rfl) (fun j hj => upd_ne _ _ hj) (by rw [upd_i]; exact hxl)
   rw [upd_i] at this
   exact ⟨(R i).Term + 1, .inr ⟨c1, rfl, c2⟩, this⟩
  ·right
   exact ⟨(R i).Term + 1, .inr ⟨c1, rfl, c2⟩, star_ask hi hbs r.me r.nodes c1 c3⟩
 ·intro R1 G1 m rest C1 h200' hJ
  rcases hJ with ⟨_, _, _, g⟩ | ⟨T, g, a1, a2, a3⟩
  ·cases g
  ·exact .inr ⟨T, g, a1.step C1 h200', SB.step C1 h200' a1 a2, SC.step C1 h200' a1 a2 a3⟩
 ·rcases hJ with ⟨c1, c2, c3, _⟩ | ⟨T, g⟩
  ·exact .inl ⟨c1, c2, c3⟩
  ·exact .inr ⟨T, g⟩
structure St (n l : Nat) (R : Nat → TRaft) : Prop where
 l1 : l < n
 role : (R l).Role = 2
 com : (R l).Commit = ((R l).Log.length : Int)
 oth : ∀ j, j < n → j ≠ l → (R j).Term = (R l).Term ∧ (R j).Role = 0 ∧ (R j).Leader = (l : Int) + 1 ∧ (R j).Log = (R l).Log
 nx : ∀ j, j < n → j ≠ l → mtOf (R l) ((j : Int) + 1) = ((R l).Log.length : Int) ∧ nextOf (R l) ((j : Int) + 1) = ((R l).Log.length : Int) + 1
theorem stable_of {T : Int} {R0 : Nat → TRaft} (C : CI n s R G []) (S : SA n i T R0 R []) (D : SC n i T R []) (h : (R i).Role = 2) : St n i R ∧ ∀ j, j < n → j ≠ i → (R j).Clock = 0 := by
 have d := D h
 have hi := S.i1
 have r := C.inv.r i hi
 have hx := (C.xt i hi).last h
 have hdone : ∀ j, j < n → j ≠ i → Done i T R j := fun j hj hji => (d.go j hj hji).elim (fun ⟨m, hm, _⟩ => by cases hm) id
 have hmeT : (R i).Term = T := by
  have := S.me
  rcases Int.lt_or_eq_of_le this.1 with g | g
  ·have := this.2 g; omega
  ·exact g.symm
 have hcom : (R i).Commit = ((R i).Log.length : Int) := d.com.elim id (fun ⟨j, _, _, m, hm, _⟩ => by cases hm)
 obtain ⟨x, l1, l2, l3⟩ := r.l2 h
 refine ⟨⟨hi, h, hcom, fun j hj hji => ?_, fun j hj hji => ⟨(hdone j hj hji).1, (hdone j hj hji).2.1⟩⟩, fun j hj hji => (hdone j hj hji).2.2.2.2.2⟩
 obtain ⟨d1, d2, d3, d4, d5, d6⟩ := hdone j hj hji
 refine ⟨by rw [d3, hmeT], d4, d5, ?_⟩
 have rj := C.inv.r j hj
 have hno := r.nodes
 have hA := r.mt h j _ (by have := match_get r.bs (to := (j : Int) + 1) (by omega) (by omega); rw [show ((j : Int) + 1 - 1).toNat = j by omega] at this; exact this)
 have hA2 : ((R i).Log.length : Int) ≤ (G.A (R i).Term j : Int) := by
  have : mtOf (R i) ((j : Int) + 1) = (R i).Match.getD j 0 := by
   unfold mtOf
   rw [show ((j : Int) + 1 - 1).toNat = j by omega]
  omega
 have hs := rj.snap (R i).Term (by rw [d3, hmeT]; exact Int.le_refl _) (R i).Log.length (by omega)
 rw [Gh.ll_of l1, l3, List.take_length] at hs
 have hp : (R i).Log <+: (R j).Log := by
  rcases hs with g | ⟨t2, z, p1, p2, _⟩
  ·exact g
  ·rw [d3] at p2; omega
 refine (List.IsPrefix.eq_of_length hp ?_).symm
 have hle := hp.length_le
 rcases Nat.lt_or_ge (R i).Log.length (R j).Log.length with hlt | hge
 ·exfalso
  obtain ⟨e, he⟩ : ∃ e, (R j).Log[(R i).Log.length]? = some e := ⟨_, List.getElem?_eq_getElem hlt⟩
  obtain ⟨f, hf, hfT⟩ := last_ex hx.2.1
  have hfj := pre_get hp hf
  have g1 := C.inv.w.rise rj.log (show (R i).Log.length - 1 ≤ (R i).Log.length by omega) hfj he
  have g2 := (rj.may.rise.all e (List.mem_of_getElem? he)).2
  have hT := hx.1
  rw [d3] at g2
  have heT : e.Term = (R i).Term := by omega
  obtain ⟨z, z1, z2⟩ := rj.log _ e he
  rw [heT, l1] at z1
  cases z1
  have := z2.length_le
  rw [l3, List.length_take] at this
  omega
 ·omega
structure SD (n l : Nat) (T : Int) (LL : List TEntry) (R : Nat → TRaft) (mail : List TMsg) : Prop where
 l1 : l < n
 me : (R l).Role = 2 ∧ (R l).Term = T ∧ (R l).Log = LL ∧ (R l).Commit = (LL.length : Int)
 nx : ∀ j, j < n → j ≠ l → mtOf (R l) ((j : Int) + 1) = (LL.length : Int) ∧ nextOf (R l) ((j : Int) + 1) = (LL.length : Int) + 1
 oth : ∀ j, j < n → j ≠ l → (R j).Term = T ∧ (R j).Role = 0 ∧ (R j).Leader = (l : Int) + 1 ∧ (R j).Log = LL
 lets : ∀ m ∈ mail, (m.From = (l : Int) + 1 ∧ vto m ≠ l ∧ m.Kind = 3 ∧ m.Term = T ∧ m.Index = (LL.length : Int) ∧ m.LogTerm = lastT LL ∧ m.Commit = (LL.length : Int) ∧ m.Entries = []) ∨ (m.To = (l : Int) + 1 ∧ m.From ≠ (l : Int) + 1 ∧ m.Kind = 4 ∧ m.Term = T)
 got : ∀ j, j < n → j ≠ l → (∃ m ∈ mail, m.Kind = 3 ∧ vto m = j) ∨ ((R j).Commit = (LL.length : Int) ∧ (R j).Clock = 0)
theorem letterE_st {l : Nat} {LL : List TEntry} {y : TRaft} {to : Int} (hme : y.Me = (l : Int) + 1) (hl : y.Log = LL) (hc : y.Commit = (LL.length : Int)) (hx : nextOf y to = (LL.length : Int) + 1) : (letterE y to).From = (l : Int) + 1 ∧ (letterE y to).Kind = 3 ∧ (letterE y to).Term = y.Term ∧ (letterE y to).Index = (LL.length : Int) ∧ (letterE y to).LogTerm = lastT LL ∧ (letterE y to).Commit = (LL.length : Int) ∧ (letterE y to).Entries = [] := by
 have hat : atOf y to = LL.length := by
  unfold atOf
  rw [hx, hl]; omega
 refine ⟨hme, rfl, rfl, ?_, ?_, hc, ?_⟩
 ·show ((atOf y to : Nat) : Int) = _
  rw [hat]
 ·show termAt y.Log ((atOf y to : Nat) : Int) = _
  rw [hat, hl, termAt_last]
 ·show (y.Log.drop (atOf y to)).take 4 = []
  rw [hat, hl, List.drop_length]; rfl
theorem nextC_len {m : List Int} {l : List TEntry} {t c : Int} (h : c = (l.length : Int)) : nextC m l t c = (l.length : Int) := by
 unfold nextC
 rw [if_neg (fun g => by omega)]; exact h
theorem SD.step {l : Nat} {T : Int} {LL : List TEntry} {m : TMsg} {rest : List TMsg} (C : CI n s R G (m :: rest)) (S : SD n l T LL R (m :: rest)) : SD n l T LL (nxt R m) (rest ++ outs R m) := by
 have hm := C.mail m (by simp)
 have hto := hm.to
 have hfr := hm.frm
 have hvn := C.vn
 obtain ⟨m1, m2, m3, m4⟩ := S.me
 rcases S.lets m (by simp) with ⟨hf, hvl, k3, hT, hix, hlt, hcm, hes⟩ | ⟨ht, hfl, k4, hT⟩
 ·have hne := vto_from hf hto.1 hvl
  have hRi : nxt R m l = R l := upd_ne _ _ (fun e => hvl e.symm)
  have hRv : nxt R m (vto m) = (takeF (R (vto m)) m).1 := upd_i _ _ _
  have hRj : ∀ j, j ≠ vto m → nxt R m j = R j := fun j hj => upd_ne _ _ hj
  obtain ⟨o1, o2, o3, o4⟩ := S.oth _ hvn hvl
  have rv := C.inv.r _ hvn
  have hlen := rv.bs.len
  have hcl := rv.may.commit
  rw [o4] at hlen hcl
  have hval : takeF (R (vto m)) m = (tookR (R (vto m)) m.From LL (LL.length : Int), [repA (R (vto m)) m.From true (LL.length : Int)]) := by
   rw [take_open C (by omega) hne]
   have hs : stepR (R (vto m)) m = R (vto m) := by unfold stepR; rw [if_neg (by omega)]
   rw [hs]
   unfold takeP
   rw [if_neg (by omega), if_neg (by omega), if_pos k3]
   unfold appendP
   have hh : hasB (R (vto m)).Log m.Index m.LogTerm = true := by
    rw [o4, hix, hlt]
    unfold hasB
    by_cases e : (LL.length : Int) = 0
    ·rw [beq_iff_eq.2 e]; rfl
    ·rw [decide_eq_true (by omega), decide_eq_true (by omega), termAt_last]; simp
   have hj : joinF (R (vto m)).Log m.Index m.Entries = LL := by
    rw [o4, hix, hes]
    unfold joinF
    rw [if_pos (by omega), Int.toNat_natCast, List.take_length, List.drop_length]
    show LL ++ (jn3 [] []).getD [] = LL
    simp [jn3]
   rw [if_neg (by omega), if_neg (by omega), if_pos hh, hj, if_neg (by omega), hix, hes, hcm]
   have : max (R (vto m)).Commit (min (LL.length : Int) ((LL.length : Int) + (([] : List TEntry).length : Int))) = (LL.length : Int) := by rw [List.length_nil]; omega
   rw [this]; simp
  have hout : outs R m = [repA (R (vto m)) m.From true (LL.length : Int)] := by unfold outs; rw [hval]
  refine ⟨S.l1, by rw [hRi]; exact S.me, by rw [hRi]; exact S.nx, fun j hj hjl => ?_, fun x hx => ?_, fun j hj hjl => ?_⟩
  ·by_cases e : j = vto m
   ·subst e
    rw [hRv, hval]
    exact ⟨o1, rfl, hf, rfl⟩
   ·rw [hRj j e]; exact S.oth j hj hjl
  ·rcases List.mem_append.1 hx with g | g
   ·exact S.lets x (by simp [g])
   ·rw [hout] at g
    rw [List.mem_singleton.1 g]
    right
    refine ⟨hf, ?_, rfl, o1⟩
    show (R (vto m)).Me ≠ _
    rw [rv.me]; omega
  ·by_cases e : j = vto m
   ·subst e
    right
    rw [hRv, hval]
    exact ⟨rfl, rfl⟩
   ·rw [hRj j e]
    exact (S.got j hj hjl).imp (fun g => mem_rest g fun g2 => e g2.2.symm) id
 ·have hvi : vto m = l := by show (m.To - 1).toNat = l; omega
  have hne : m.From ≠ m.To := by omega
  have hRi : nxt R m l = (takeF (R l) m).1 := by unfold nxt; rw [hvi, upd_i]
  have hRj : ∀ j, j ≠ l → nxt R m j = R j := fun j hj => by unfold nxt; rw [hvi]; exact upd_ne _ _ hj
  have hout : outs R m = (takeF (R l) m).2 := by unfold outs; rw [hvi]
  have hlo := left_lo C (.inr k4) hne (by rw [hvi, m2, hT]; exact Int.le_refl _)
  rw [hvi, if_neg (by omega)] at hlo
  have r := C.inv.r l S.l1
  have hno := r.nodes
  obtain ⟨j0, hj0⟩ : ∃ j0 : Nat, m.From = (j0 : Int) + 1 := ⟨(m.From - 1).toNat, by omega⟩
  obtain ⟨x1, x2⟩ := S.nx j0 (by omega) (fun e => hfl (by omega))
  rw [← hj0] at x1 x2
  unfold appendedP at hlo
  rw [if_neg (fun g => g.elim (fun g => by omega) (fun g => g m1))] at hlo
  have fin : ∀ (y : TRaft) (out : List TMsg), takeF (R l) m = (y, out) → y.Role = 2 → y.Term = T → y.Log = LL → y.Commit = (LL.length : Int) → (∀ j, j < n → j ≠ l → mtOf y ((j : Int) + 1) = (LL.length : Int) ∧ nextOf y ((j : Int) + 1) = (LL.length : Int) + 1) → (out = [] ∨ (out = [letterE y m.From] ∧ y.Me = (R l).Me)) → SD n l T LL (nxt R m) (rest ++ outs R m) := by
   intro y out hv y1 y2 y3 y4 y5 y6
   rw [hout, hv]
   rw [hv] at hRi
   refine ⟨S.l1, by rw [hRi]; exact ⟨y1, y2, y3, y4⟩, by rw [hRi]; exact y5, fun j hj hjl => by rw [hRj j hjl]; exact S.oth j hj hjl, fun x hx => ?_, fun j hj hjl => ?_⟩
   ·rcases List.mem_append.1 hx with g | g
    ·exact S.lets x (by simp [g])
    ·rcases y6 with e | ⟨e, e2⟩
     ·dsimp only at g; rw [e] at g; cases g
     ·dsimp only at g
      rw [e] at g
      rw [List.mem_singleton.1 g]
      left
      have hx := (y5 j0 (by omega) (fun e => hfl (by omega))).2
      rw [← hj0] at hx
      obtain ⟨q1, q2, q3, q4, q5, q6, q7⟩ := letterE_st (l := l) (LL := LL) (y := y) (to := m.From) (e2.trans r.me) y3 y4 hx
      refine ⟨q1, ?_, q2, q3.trans y2, q4, q5, q6, q7⟩
      show (m.From - 1).toNat ≠ l
      omega
   ·rw [hRj j hjl]
    exact (S.got j hj hjl).imp (fun g => mem_rest g fun g2 => by omega) id
  cases ho : m.OK
  ·rw [ho, if_neg (by decide)] at hlo
   refine fin _ _ hlo m1 m2 m3 m4 (fun j hj hjl => ?_) (.inr ⟨rfl, rfl⟩)
   obtain ⟨p1, p2⟩ := S.nx j hj hjl
   refine ⟨p1, ?_⟩
   have := (lag_set (a := backN (R l) m) (b := 0) r.bs (f := m.From) (to := (j : Int) + 1) ⟨by omega, by omega⟩ (by omega)).1
   refine this.trans ?_
   split
   ·have hb : backN (R l) m = max (max (min (nextOf (R l) m.From - 1) (m.Index + 1)) (mtOf (R l) m.From + 1)) 1 := rfl
    rw [hb, x1, x2]; omega
   ·exact p2
  ·rw [ho, if_pos rfl] at hlo
   have hfar : farM (R l) m = max (mtOf (R l) m.From) (min m.Index ((R l).Log.length : Int)) := rfl
   have hfl2 : farM (R l) m = (LL.length : Int) := by rw [hfar, x1, m3]; omega
   rw [if_neg (by rw [hfl2, m3]; omega)] at hlo
   refine fin _ _ hlo m1 m2 m3 ?_ (fun j hj hjl => ?_) (.inl rfl)
   ·show nextC _ (R l).Log _ (R l).Commit = _
    rw [nextC_len (by rw [m4, m3]), m3]
   ·obtain ⟨p1, p2⟩ := S.nx j hj hjl
    obtain ⟨e1, e2⟩ := lag_set (a := farM (R l) m + 1) (b := farM (R l) m) r.bs (f := m.From) (to := (j : Int) + 1) ⟨by omega, by omega⟩ (by omega)
    refine ⟨e2.trans ?_, e1.trans ?_⟩
    ·split
     ·exact hfl2
     ·exact p1
    ·split
     ·rw [hfl2]
     ·exact p2
def Tks (l p j : Nat) : Prop := (l < p ∧ l < j ∧ j < p) ∨ (p ≤ l ∧ (j < p ∨ l < j))
def Clk (n l p : Nat) (R : Nat → TRaft) : Prop := ∀ j, j < n → j ≠ l → (R j).Clock ≤ 1 ∧ (¬ Tks l p j → (R j).Clock ≤ 0)
def Cms (n l : Nat) (R : Nat → TRaft) : Prop := ∀ j, j < n → (R j).Commit = ((R l).Log.length : Int)
theorem stb_step {F : Prop} {l p : Nat} (C : CI n s R G []) (hp : p < n) (hs : s ≤ 500000) (h200 : ∀ j, j < n → (R j).Log.length < 199) (h : St n l R) (hc : Clk n l p R) (hm : F → l < p → Cms n l R) : MStp n p R s (fun R' => St n l R' ∧ Clk n l (p + 1) R' ∧ (F → l < p + 1 → Cms n l R')) := by
 by_cases e : p = l
 ·subst e
  have r := C.inv.r p hp
  have hn := C.n1
  have ht : tickF (R p) = (R p, bc letterE (R p)) := by
   rcases tick_cases C hp (by have := h200 p hp; omega) with ⟨c1, _⟩ | ⟨c1, e⟩ | ⟨c1, _⟩ | ⟨c1, _⟩
   ·exact absurd h.role c1
   ·exact e
   ·exact absurd h.role c1
   ·exact absurd h.role c1
  refine ⟨s, by omega, C.term, by rw [ht]; exact C.term p hp, fun R' mail => SD n p (R p).Term (R p).Log R' mail, ?_, fun R1 G1 m rest C1 _ hJ => hJ.step C1, fun R1 G1 C1 hJ => ?_⟩
  ·rw [ht, upd_self]
   dsimp only
   have hno := r.nodes
   refine ⟨hp, ⟨h.role, rfl, rfl, h.com⟩, h.nx, fun j hj hjl => h.oth j hj hjl, fun m hm' => ?_, fun j hj hjl => ?_⟩
   ·left
    have hml := leadR_mail r.bs r.me (g := letterE) (k := 3) (fun to => ⟨rfl, rfl, rfl, rfl⟩) m hm'
    unfold bc at hm'
    obtain ⟨to, hto, rfl⟩ := List.mem_map.1 hm'
    have h5 := (others_mem r.bs).1 hto
    have hmr := r.me
    have hx := (h.nx (to - 1).toNat (by omega) (by omega)).2
    rw [show (((to - 1).toNat : Nat) : Int) + 1 = to by omega] at hx
    obtain ⟨q1, q2, q3, q4, q5, q6, q7⟩ := letterE_st (l := p) (LL := (R p).Log) (y := R p) (to := to) r.me rfl h.com hx
    exact ⟨q1, hml.2.2.2, q2, q3, q4, q5, q6, q7⟩
   ·left
    obtain ⟨x, x1, x2⟩ := bc_all r.bs r.me hno hj hjl letterE (fun to => rfl)
    refine ⟨x, x1, ?_, x2⟩
    unfold bc at x1
    obtain ⟨to, _, rfl⟩ := List.mem_map.1 x1
    rfl
  ·obtain ⟨m1, m2, m3, m4⟩ := hJ.me
   have hgot : ∀ j, j < n → j ≠ p → (R1 j).Commit = ((R p).Log.length : Int) ∧ (R1 j).Clock = 0 := fun j hj hjl => (hJ.got j hj hjl).elim (fun ⟨m, hm, _⟩ => by cases hm) id
   refine ⟨⟨hp, m1, by rw [m4, m3], fun j hj hjl => by rw [m2, m3]; exact hJ.oth j hj hjl, fun j hj hjl => by rw [m3]; exact hJ.nx j hj hjl⟩, fun j hj hjl => ?_, fun _ _ j hj => ?_⟩
   ·have := (hgot j hj hjl).2
    rw [this]; exact ⟨by decide, fun _ => by decide⟩
   ·by_cases e : j = p
    ·subst e; rw [m4, m3]
    ·rw [(hgot j hj e).1, m3]
 ·have r := C.inv.r p hp
  obtain ⟨o1, o2, o3, o4⟩ := h.oth p hp e
  have hw := (C.xt p hp).wait
  have hwb := wait_bd (i := p) (by have := C.n1; omega)
  have hck := (hc p hp e).2 (by unfold Tks; omega)
  have ht : tickF (R p) = (clockR (R p), []) := by
   rcases tick_cases C hp (by have := h200 p hp; omega) with ⟨c1, c2, e⟩ | ⟨c1, _⟩ | ⟨_, c2, _⟩ | ⟨_, c2, _⟩
   ·exact e
   ·omega
   ·omega
   ·omega
  have hne : l ≠ p := fun g => e g.symm
  refine ⟨s, by omega, C.term, by rw [ht]; exact C.term p hp, fun R' mail => mail = [] ∧ R' = upd R p (clockR (R p)), by rw [ht]; exact ⟨rfl, rfl⟩, (fun R1 G1 m rest _ _ hJ => by cases hJ.1), fun R1 G1 C1 hJ => ?_⟩
  obtain ⟨_, rfl⟩ := hJ
  have hl : upd R p (clockR (R p)) l = R l := upd_ne _ _ hne
  refine ⟨⟨h.l1, by rw [hl]; exact h.role, by rw [hl]; exact h.com, fun j hj hjl => ?_, fun j hj hjl => by rw [hl]; exact h.nx j hj hjl⟩, fun j hj hjl => ?_, fun hF hlp j hj => ?_⟩
  ·rw [hl]
   by_cases e2 : j = p
   ·subst e2; rw [upd_i]; exact ⟨o1, o2, o3, o4⟩
   ·rw [upd_ne _ _ e2]; exact h.oth j hj hjl
  ·by_cases e2 : j = p
   ·subst e2
    rw [upd_i]
    refine ⟨by show (R j).Clock + 1 ≤ 1; omega, fun g => absurd ?_ g⟩
    unfold Tks
    omega
   ·rw [upd_ne _ _ e2]
    obtain ⟨c1, c2⟩ := hc j hj hjl
    exact ⟨c1, fun g => c2 (fun g2 => g (by unfold Tks at g2 ⊢; omega))⟩
  ·rw [hl]
   have := hm hF (by omega) j hj
   by_cases e2 : j = p
   ·subst e2; rw [upd_i]; exact this
   ·rw [upd_ne _ _ e2]; exact this
end
end Go.Proofs.Ythpokjkbcdfhiaa.Told.RA
