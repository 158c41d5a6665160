/- A run of a group: members and letters fit the ghosts; what goes on when the ghosts grow. -/
import Derived.Test.YthpokjkbcdfhiaaTRs1
namespace Go.Proofs.Ythpokjkbcdfhiaa.Told.RA
open Go Go.Proofs.Ythpokjkbcdfhiaa.Vam Go.Proofs.Ythpokjkbcdfhiaa.Told Go.Proofs.Ythpokjkbcdfhiaa.Told.HP
set_option linter.unusedSimpArgs false
set_option linter.unusedVariables false
structure RI (n : Nat) (G : Gh) (i : Nat) (r : TRaft) : Prop where
 me : r.Me = (i : Int) + 1
 nodes : r.Nodes = (n : Int)
 may : MayP r
 bs : Bs r
 smt : ∀ e ∈ r.Log, Smt e
 v2 : r.Vote ≠ 0 → ∃ X, G.V r.Term i = some ((r.Vote - 1).toNat, X)
 v3 : r.Vote = 0 → G.V r.Term i = none
 log : LogP G r.Log
 snap : ∀ t, t ≤ r.Term → Keeps G i r.Log t r.Term
 s1 : r.Role = 1 → G.S r.Term i = r.Log ∧ G.V r.Term i = some (i, r.Log) ∧ ∀ x, G.L r.Term = some x → x.who ≠ i
 s2 : r.Role = 1 → ∀ v : Nat, r.Votes[v]? = some true → ∃ X, G.V r.Term v = some (i, X)
 l2 : r.Role = 2 → ∃ x, G.L r.Term = some x ∧ x.who = i ∧ x.LL = r.Log
 mt : r.Role = 2 → ∀ (v : Nat) (a : Int), r.Match[v]? = some a → a ≤ (G.A r.Term v : Int)
 c1 : Dec n G r.Term (r.Log.take r.Commit.toNat)
structure MI (n : Nat) (T : Nat → Int) (G : Gh) (m : TMsg) : Prop where
 frm : 1 ≤ m.From ∧ m.From ≤ n
 to : 1 ≤ m.To ∧ m.To ≤ n
 term : 0 ≤ m.Term ∧ m.Term ≤ T (m.From - 1).toNat
 lb : Lb m
 index : 0 ≤ m.Index
 smt : ∀ e ∈ m.Entries, Smt e
 es : m.Entries.length ≤ 4
 k1 : m.Kind = 1 → m.Index = ((G.S m.Term (m.From - 1).toNat).length : Int) ∧ m.LogTerm = lastT (G.S m.Term (m.From - 1).toNat) ∧ 1 ≤ m.Term
 k2 : m.Kind = 2 → m.OK = true → ∃ X, G.V m.Term (m.From - 1).toNat = some ((m.To - 1).toNat, X)
 k3 : m.Kind = 3 → ∃ x, G.L m.Term = some x ∧ m.Index + (m.Entries.length : Int) ≤ (x.LL.length : Int) ∧ m.LogTerm = termAt x.LL m.Index ∧ m.Entries = (x.LL.drop m.Index.toNat).take m.Entries.length ∧ 0 ≤ m.Commit ∧ m.Commit ≤ (x.LL.length : Int) ∧ Dec n G m.Term (x.LL.take m.Commit.toNat)
 k4 : m.Kind = 4 → m.OK = true → m.Index ≤ (G.A m.Term (m.From - 1).toNat : Int)
structure Le (T T' : Nat → Int) (G G' : Gh) : Prop where
 t : ∀ v, T v ≤ T' v
 v : ∀ t v y, G.V t v = some y → G'.V t v = some y
 s : ∀ t c, t ≤ T c → G'.S t c = G.S t c
 l : ∀ t x, G.L t = some x → ∃ y, G'.L t = some y ∧ y.who = x.who ∧ y.B = x.B ∧ y.Q = x.Q ∧ x.LL <+: y.LL
 a : ∀ t v, G.A t v ≤ G'.A t v
structure LeI (i : Nat) (T : Nat → Int) (G G' : Gh) : Prop where
 v : ∀ t v, v ≠ i → G'.V t v = G.V t v
 l : ∀ t y, G'.L t = some y → y.who ≠ i → G.L t = some y
 a : ∀ t v, v ≠ i → G'.A t v = G.A t v
 f : ∀ t, t < T i → G'.A t i = G.A t i
theorem LeI.trans {i : Nat} {T T' : Nat → Int} {G G' G'' : Gh} (l : Le T T' G G') (h : LeI i T G G') (k : LeI i T' G' G'') : LeI i T G G'' where
 v t v hv := (k.v t v hv).trans (h.v t v hv)
 l t y e hy := h.l t y (k.l t y e hy) hy
 a t v hv := (k.a t v hv).trans (h.a t v hv)
 f t ht := (k.f t (Int.lt_of_lt_of_le ht (l.t i))).trans (h.f t ht)
theorem Le.refl (T : Nat → Int) (G : Gh) : Le T T G G := ⟨fun _ => Int.le_refl _, fun _ _ _ h => h, fun _ _ _ => rfl, fun t x h => ⟨x, h, rfl, rfl, rfl, List.prefix_refl _⟩, fun _ _ => Nat.le_refl _⟩
theorem Le.trans {T T' T'' : Nat → Int} {G G' G'' : Gh} (h : Le T T' G G') (k : Le T' T'' G' G'') : Le T T'' G G'' where
 t v := Int.le_trans (h.t v) (k.t v)
 v t v y e := k.v t v y (h.v t v y e)
 s t c e := by rw [k.s t c (Int.le_trans e (h.t c)), h.s t c e]
 l t x e := by
  obtain ⟨y, h1, h2, h3, h4, h5⟩ := h.l t x e
  obtain ⟨z, k1, k2, k3, k4, k5⟩ := k.l t y h1
  exact ⟨z, k1, k2.trans h2, k3.trans h3, k4.trans h4, h5.trans k5⟩
 a t v := Nat.le_trans (h.a t v) (k.a t v)
section
variable {n i : Nat} {T T' : Nat → Int} {G G' : Gh}
theorem LogP.mono {X : List TEntry} (h : LogP G X) (hl : Le T T' G G') : LogP G' X := fun k e hk => by
 obtain ⟨x, h1, h2⟩ := h k e hk
 obtain ⟨y, k1, _, _, _, k5⟩ := hl.l _ x h1
 exact ⟨y, k1, h2.trans k5⟩
theorem ll_take (hl : Le T T' G G') {t : Int} {k : Nat} (hk : k ≤ (G.ll t).length) : (G'.ll t).take k = (G.ll t).take k := by
 cases h : G.L t with
 | none => rw [Gh.ll_no h] at hk; simp at hk; subst hk; simp
 | some x =>
  obtain ⟨y, k1, _, _, _, k5⟩ := hl.l _ x h
  rw [Gh.ll_of h] at hk ⊢
  rw [Gh.ll_of k1]
  have := take_of_pre (pre_take k5 k)
  rw [List.length_take, Nat.min_eq_left hk, List.take_take, Nat.min_self] at this
  exact this.symm
theorem WG.a_ll (W : WG n T G) (t : Int) (v : Nat) : G.A t v ≤ (G.ll t).length := by
 rcases Nat.eq_zero_or_pos (G.A t v) with h | h
 ·omega
 ·obtain ⟨_, _, x, h1, h2⟩ := W.a t v h
  rw [Gh.ll_of h1]; exact h2
theorem Keeps.mono {v : Nat} {Y : List TEntry} {t hi hi' : Int} (W : WG n T G) (hl : Le T T' G G') (h : Keeps G v Y t hi) (ha : G'.A t v = G.A t v) (hh : hi ≤ hi') : Keeps G' v Y t hi' := fun k hk => by
 rw [ha] at hk
 have hkl : k ≤ (G.ll t).length := Nat.le_trans hk (W.a_ll t v)
 rw [ll_take hl hkl]
 rcases h k hk with g | ⟨t2, x, h1, h2, h3, h4⟩
 ·exact .inl g
 ·obtain ⟨y, k1, _, k3, _⟩ := hl.l _ x h3
  exact .inr ⟨t2, y, h1, by omega, k1, by rw [k3]; exact h4⟩
theorem Chosen.mono {t : Int} {k : Nat} (h : Chosen n G t k) (hl : Le T T' G G') : Chosen n G' t k := by
 obtain ⟨x, h1, h2, h3, ⟨e, h4, h5⟩, h6⟩ := h
 obtain ⟨y, k1, _, _, _, k5⟩ := hl.l _ x h1
 exact ⟨y, k1, h2, Nat.le_trans h3 k5.length_le, ⟨e, pre_get k5 h4, h5⟩, Nat.le_trans h6 (cnt_mono fun v _ hv => decide_eq_true (Nat.le_trans (of_decide_eq_true hv) (hl.a t v)))⟩
theorem Dec.mono {hi hi' : Int} {l : List TEntry} (h : Dec n G hi l) (hl : Le T T' G G') (hh : hi ≤ hi') : Dec n G' hi' l := by
 rcases h with rfl | ⟨t, k, h1, h2, h3⟩
 ·exact .inl rfl
 ·refine .inr ⟨t, k, h1.mono hl, by omega, ?_⟩
  obtain ⟨x, e1, _, e3, _⟩ := h1
  rw [ll_take hl (by rw [Gh.ll_of e1]; exact e3)]
  exact h3
theorem Dec.front {hi : Int} {l m : List TEntry} (h : Dec n G hi l) (hm : m <+: l) : Dec n G hi m := by
 rcases h with rfl | ⟨t, k, h1, h2, h3⟩
 ·exact .inl (List.prefix_nil.1 hm)
 ·exact .inr ⟨t, k, h1, h2, hm.trans h3⟩
theorem MI.mono {m : TMsg} (h : MI n T G m) (hl : Le T T' G G') : MI n T' G' m where
 frm := h.frm
 to := h.to
 term := ⟨h.term.1, Int.le_trans h.term.2 (hl.t _)⟩
 lb := h.lb
 index := h.index
 smt := h.smt
 es := h.es
 k1 k := by rw [hl.s _ _ h.term.2]; exact h.k1 k
 k2 k o := let ⟨X, e⟩ := h.k2 k o; ⟨X, hl.v _ _ _ e⟩
 k3 k := by
  obtain ⟨x, h1, h2, h3, h4, h5, h6, h7⟩ := h.k3 k
  obtain ⟨y, k1, _, _, _, k5⟩ := hl.l _ x h1
  have hlen := k5.length_le
  have hi := h.index
  refine ⟨y, k1, by omega, ?_, ?_, h5, by omega, ?_⟩
  ·rw [h3]
   unfold termAt
   by_cases c : 1 ≤ m.Index
   ·have hx : x.LL[(m.Index - 1).toNat]? = some x.LL[(m.Index - 1).toNat] := List.getElem?_eq_getElem (by omega)
    rw [if_pos c, if_pos c, hx, pre_get k5 hx]
   ·rw [if_neg c, if_neg c]
  ·obtain ⟨w, hw⟩ := k5
   rw [← hw, List.drop_append_of_le_length (by omega), List.take_append_of_le_length (by simp; omega)]
   exact h4
  ·refine (h7.mono hl (Int.le_refl _)).front ?_
   obtain ⟨w, hw⟩ := k5
   rw [← hw, List.take_append_of_le_length (by omega)]
   exact List.prefix_refl _
 k4 k o := by have := h.k4 k o; have := hl.a m.Term (m.From - 1).toNat; omega
theorem RI.mono {j : Nat} {r : TRaft} (W : WG n T G) (h : RI n G j r) (hl : Le T T' G G') (hi : LeI i T G G') (hj : j ≠ i) : RI n G' j r where
 me := h.me
 nodes := h.nodes
 may := h.may
 bs := h.bs
 smt := h.smt
 v2 k := by rw [hi.v _ _ hj]; exact h.v2 k
 v3 k := by rw [hi.v _ _ hj]; exact h.v3 k
 log := h.log.mono hl
 snap t ht := (h.snap t ht).mono W hl (hi.a t j hj) (Int.le_refl _)
 s1 k := by
  obtain ⟨h1, h2, h3⟩ := h.s1 k
  have hw := W.v _ _ _ _ h2
  refine ⟨by rw [hl.s _ _ hw.tv]; exact h1, hl.v _ _ _ h2, fun x hx he => ?_⟩
  exact h3 x (hi.l _ x hx (by rw [he]; exact hj)) he
 s2 k v hv := let ⟨X, e⟩ := h.s2 k v hv; ⟨X, hl.v _ _ _ e⟩
 l2 k := by
  obtain ⟨x, h1, h2, h3⟩ := h.l2 k
  obtain ⟨y, k1, k2, _, _, k5⟩ := hl.l _ x h1
  have := hi.l _ y k1 (by rw [k2, h2]; exact hj)
  rw [h1] at this
  cases this
  exact ⟨x, k1, h2, h3⟩
 mt k v a hv := by have := h.mt k v a hv; have := hl.a r.Term v; omega
 c1 := h.c1.mono hl (Int.le_refl _)
theorem WV.mono {t : Int} {v c : Nat} {X : List TEntry} (W : WG n T G) (h : WV n T G t v c X) (hl : Le T T' G G') (hi : LeI i T G G') : WV n T' G' t v c X where
 hv := h.hv
 hc := h.hc
 tv := Int.le_trans h.tv (hl.t _)
 tc := Int.le_trans h.tc (hl.t _)
 t1 := h.t1
 up := by rw [hl.s _ _ h.tc]; exact h.up
 log := h.log.mono hl
 keep u hu := (h.keep u hu).mono W hl (by
  by_cases e : v = i
  ·subst e; exact hi.f u (by have := h.tv; omega)
  ·exact hi.a u v e) (Int.le_refl _)
theorem WL.mono {t : Int} {x : Ldr} (W : WG n T G) (h : WL n T G t x) (hl : Le T T' G G') (hi : LeI i T G G') : WL n T' G' t x where
 who := h.who
 tw := Int.le_trans h.tw (hl.t _)
 t1 := h.t1
 base := by rw [hl.s _ _ h.tw]; exact h.base
 pre := h.pre
 own := h.own
 log := h.log.mono hl
 rise := h.rise
 smt := h.smt
 len := h.len
 maj := h.maj
 votes v hv hq := by
  obtain ⟨X, e, hk⟩ := h.votes v hv hq
  have hw := W.v _ _ _ _ e
  exact ⟨X, hl.v _ _ _ e, fun u hu => (hk u hu).mono W hl (by
   by_cases e : v = i
   ·subst e; exact hi.f u (by have := hw.tv; omega)
   ·exact hi.a u v e) (Int.le_refl _)⟩
end
def upd (R : Nat → TRaft) (i : Nat) (x : TRaft) : Nat → TRaft := fun j => if j = i then x else R j
theorem upd_i (R : Nat → TRaft) (i : Nat) (x : TRaft) : upd R i x i = x := by unfold upd; rw [if_pos rfl]
theorem upd_ne (R : Nat → TRaft) {i j : Nat} (x : TRaft) (h : j ≠ i) : upd R i x j = R j := by unfold upd; rw [if_neg h]
theorem upd_upd (R : Nat → TRaft) (i : Nat) (x y : TRaft) : upd (upd R i x) i y = upd R i y := by
 funext j; unfold upd; split <;> rfl
theorem upd_self (R : Nat → TRaft) (i : Nat) : upd R i (R i) = R := by
 funext j; unfold upd; split
 ·rename_i h; rw [h]
 ·rfl
def tm (R : Nat → TRaft) : Nat → Int := fun j => (R j).Term
structure Inv (n : Nat) (R : Nat → TRaft) (G : Gh) : Prop where
 w : WG n (tm R) G
 r : ∀ i, i < n → RI n G i (R i)
theorem tm_le {R : Nat → TRaft} {i : Nat} {x : TRaft} (h : (R i).Term ≤ x.Term) (v : Nat) : tm R v ≤ tm (upd R i x) v := by
 unfold tm upd
 split
 ·rename_i e; rw [e]; exact h
 ·exact Int.le_refl _
theorem Inv.step {n i : Nat} {R : Nat → TRaft} {G G' : Gh} {x : TRaft} (I : Inv n R G) (hi : i < n) (hl : Le (tm R) (tm (upd R i x)) G G') (hI : LeI i (tm R) G G') (w : WG n (tm (upd R i x)) G') (r : RI n G' i x) : Inv n (upd R i x) G' := by
 refine ⟨w, fun j hj => ?_⟩
 by_cases e : j = i
 ·subst e; rw [upd_i]; exact r
 ·rw [upd_ne _ _ e]; exact (I.r j hj).mono I.w hl hI e
theorem Le.same {R : Nat → TRaft} {i : Nat} {x : TRaft} (G : Gh) (h : (R i).Term ≤ x.Term) : Le (tm R) (tm (upd R i x)) G G := ⟨tm_le h, fun _ _ _ h => h, fun _ _ _ => rfl, fun t x h => ⟨x, h, rfl, rfl, rfl, List.prefix_refl _⟩, fun _ _ => Nat.le_refl _⟩
theorem LeI.same (i : Nat) (T : Nat → Int) (G : Gh) : LeI i T G G := ⟨fun _ _ _ => rfl, fun _ _ h _ => h, fun _ _ _ => rfl, fun _ _ => rfl⟩
theorem WG.same_g {n i : Nat} {T T' : Nat → Int} {G : Gh} (W : WG n T G) (h : ∀ v, T v ≤ T' v) : WG n T' G := by
 have hl : Le T T' G G := ⟨h, fun _ _ _ h => h, fun _ _ _ => rfl, fun t x h => ⟨x, h, rfl, rfl, rfl, List.prefix_refl _⟩, fun _ _ => Nat.le_refl _⟩
 exact ⟨fun t v c X e => (W.v t v c X e).mono W hl (LeI.same 0 T G), W.s, fun t x e => (W.l t x e).mono W hl (LeI.same 0 T G), fun t v e => let ⟨a, b, c⟩ := W.a t v e; ⟨a, Int.le_trans b (h v), c⟩⟩
theorem Inv.quiet {n i : Nat} {R : Nat → TRaft} {G : Gh} {x : TRaft} (I : Inv n R G) (hi : i < n) (ht : (R i).Term ≤ x.Term) (r : RI n G i x) : Inv n (upd R i x) G :=
 I.step hi (Le.same G ht) (LeI.same i _ G) (WG.same_g (i := 0) I.w (tm_le ht)) r
end Go.Proofs.Ythpokjkbcdfhiaa.Told.RA
