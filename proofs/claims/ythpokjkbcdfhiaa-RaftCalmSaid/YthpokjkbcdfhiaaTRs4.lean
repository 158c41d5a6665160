/- A run of a group, piece by piece: being chosen, proposing, counting votes. -/
import Derived.Test.YthpokjkbcdfhiaaTRs3
namespace Go.Proofs.Ythpokjkbcdfhiaa.Told.RA
open Go Go.Proofs.Ythpokjkbcdfhiaa.Vam Go.Proofs.Ythpokjkbcdfhiaa.Told Go.Proofs.Ythpokjkbcdfhiaa.Told.HP
set_option linter.unusedSimpArgs false
set_option linter.unusedVariables false
section
variable {n i : Nat} {R : Nat → TRaft} {G : Gh}
theorem grow_inv (I : Inv n R G) (hi : i < n) {x : TRaft} {y : Ldr} {t : Int} (ht : (R i).Term = t) (hxt : x.Term = t) (hv : x.Vote = (R i).Vote) (hr : x.Role = 2) (hxl : y.LL = x.Log) (hy : y.who = i)
  (hp : (R i).Log <+: x.Log) (hold : ∀ z, G.L t = some z → y.who = z.who ∧ y.B = z.B ∧ y.Q = z.Q ∧ z.LL <+: y.LL)
  (wl : Le (tm R) (tm R) G (G.grow t i y) → WL n (tm R) (G.grow t i y) t y)
  (hme : x.Me = (R i).Me) (hno : x.Nodes = (R i).Nodes) (may : MayP x) (bs : Bs x) (smt : ∀ e ∈ x.Log, Smt e)
  (mt : ∀ (v : Nat) (a : Int), x.Match[v]? = some a → a ≤ ((G.grow t i y).A t v : Int)) (c1 : Dec n (G.grow t i y) t (x.Log.take x.Commit.toNat)) : Inv n (upd R i x) (G.grow t i y) ∧ Le (tm R) (tm (upd R i x)) G (G.grow t i y) ∧ LeI i (tm R) G (G.grow t i y) := by
 have r := I.r i hi
 have htm : tm (upd R i x) = tm R := by
  funext j; unfold tm upd
  split
  ·rename_i e; rw [e, hxt, ht]
  ·rfl
 have hle : Le (tm R) (tm R) G (G.grow t i y) := grow_le I.w hold
 have hlei : LeI i (tm R) G (G.grow t i y) := grow_lei ht hy
 refine ⟨I.step hi (by rw [htm]; exact hle) hlei (by rw [htm]; exact grow_wg I.w hi ht hy hold (wl hle)) ?_, by rw [htm]; exact hle, hlei⟩
 exact { me := by rw [hme]; exact r.me
         nodes := by rw [hno]; exact r.nodes
         may := may, bs := bs, smt := smt
         v2 := by rw [hv, hxt, ← ht]; exact r.v2
         v3 := by rw [hv, hxt, ← ht]; exact r.v3
         log := by rw [← hxl]; exact (wl hle).log
         snap := fun u hu => by
           rw [hxt] at hu ⊢
           rcases Int.lt_or_eq_of_le hu with h | h
           · have hk := (r.snap u (by omega)).mono I.w hle (hlei.f u (by show u < (R i).Term; omega)) (Int.le_refl _)
             rw [ht] at hk
             exact fun k hkA => (hk k hkA).elim (fun g => .inl (g.trans hp)) .inr
           · subst h
             exact fun k hkA => .inl (by rw [Gh.ll_of grow_L, hxl]; exact List.take_prefix _ _)
         s1 := fun k => by rw [hr] at k; cases k
         s2 := fun k => by rw [hr] at k; cases k
         l2 := fun _ => ⟨y, by rw [hxt]; exact grow_L, hy, hxl⟩
         mt := fun _ => by rw [hxt]; exact mt
         c1 := by rw [hxt]; exact c1 }
theorem prop_inv (I : Inv n R G) (hi : i < n) (hr : (R i).Role = 2) (hl : (R i).Log.length < 200) {e : TEntry} (he : Smt e) : ∃ G', Inv n (upd R i (propR (R i) e)) G' ∧ Le (tm R) (tm (upd R i (propR (R i) e))) G G' ∧ LeI i (tm R) G G' ∧ ∀ t x, G'.L t = some x → ∃ z, G.L t = some z := by
 have r := I.r i hi
 obtain ⟨x, h1, h2, h3⟩ := r.l2 hr
 have wx := I.w.l _ x h1
 have ht1 := wx.t1
 have hes : SmB [e] := fun z hz => by rw [List.mem_singleton.1 hz]; unfold Smt at he; omega
 have hme := r.me
 have hlm := r.bs.lm
 have hno := r.nodes
 let y : Ldr := ⟨i, x.B, (R i).Log ++ [putE (R i) e], x.Q⟩
 have hold : ∀ z, G.L (R i).Term = some z → y.who = z.who ∧ y.B = z.B ∧ y.Q = z.Q ∧ z.LL <+: y.LL := fun z hz => by
  rw [h1] at hz; cases hz
  exact ⟨h2.symm, rfl, rfl, by rw [h3]; exact List.prefix_append _ _⟩
 have hlei : LeI i (tm R) G (G.grow (R i).Term i y) := grow_lei rfl rfl
 have hmt : ∀ (v : Nat) (a : Int), (propR (R i) e).Match[v]? = some a → a ≤ ((G.grow (R i).Term i y).A (R i).Term v : Int) := by
  intro v a hv
  have hv' : ((R i).Match.set ((R i).Me - 1).toNat (((R i).Log ++ [putE (R i) e]).length : Int))[v]? = some a := hv
  rw [show ((R i).Me - 1).toNat = i by omega, List.getElem?_set] at hv'
  by_cases c : i = v
  ·subst c
   rw [if_pos rfl] at hv'
   split at hv'
   ·cases hv'; rw [grow_A]; exact Int.le_refl _
   ·cases hv'
  ·rw [if_neg c] at hv'
   have := r.mt hr v a hv'
   rw [hlei.a _ _ (fun g => c g.symm)]; exact this
 have hc := r.may.commit
 obtain ⟨i1, i2⟩ := grow_inv (x := propR (R i) e) (y := y) I hi rfl rfl rfl hr rfl rfl (List.prefix_append _ _) hold (fun hle => by
   exact { who := hi, tw := Int.le_refl _, t1 := ht1, base := by have := wx.base; rw [h2] at this; exact this
           pre := by show x.B <+: (R i).Log ++ _; rw [← h3]; exact wx.pre.trans (List.prefix_append _ _)
           own := fun k f hk hb => by
             have hk' : ((R i).Log ++ [putE (R i) e])[k]? = some f := hk
             rcases Nat.lt_or_ge k (R i).Log.length with hlt | hge
             · rw [List.getElem?_append_left hlt, ← h3] at hk'
               exact wx.own k f hk' hb
             · rw [List.getElem?_append_right hge] at hk'
               have := List.mem_of_getElem? hk'
               rw [List.mem_singleton.1 this]; rfl
           log := r.log.more hle rfl rfl
           rise := Rise.snoc' (e := putE (R i) e) r.may.rise (Int.le_refl _) ht1
           smt := fun z hz => (List.mem_append.1 hz).elim (r.smt z) fun g => by rw [List.mem_singleton.1 g]; exact he
           len := by show ((R i).Log ++ [putE (R i) e]).length ≤ 200; simp; omega
           maj := wx.maj
           votes := by have := (wx.mono I.w hle hlei).votes; rw [h2] at this; exact this })
  rfl rfl (propR_may r.may hl ht1) (propR_bs r.bs hl hes) (fun z hz => (List.mem_append.1 hz).elim (r.smt z) fun g => by rw [List.mem_singleton.1 g]; exact he) hmt
  (nextC_dec (m := (propR (R i) e).Match) (y := y) grow_L rfl (by have := propR_bs r.bs hl hes; have h5 := this.lm; have h6 : (propR (R i) e).Nodes = (n : Int) := hno; omega) (by omega) (by have := r.may.nodes; omega) (fun a ha => ((propR_bs r.bs hl hes).ms a ha).1) ht1 hmt
   (by
    show Dec n _ _ (((R i).Log ++ [putE (R i) e]).take (R i).Commit.toNat)
    rw [List.take_append_of_le_length (by omega)]
    exact r.c1.mono (grow_le (i := i) I.w hold) (Int.le_refl _)))
 refine ⟨_, i1, i2.1, i2.2, fun t z hz => ?_⟩
 by_cases ht : t = (R i).Term
 ·subst ht; exact ⟨x, h1⟩
 ·have hz' : (if t = (R i).Term then some y else G.L t) = some z := hz
  rw [if_neg ht] at hz'; exact ⟨z, hz'⟩
theorem lead_inv (I : Inv n R G) (hi : i < n) (hr : (R i).Role = 1) (hw : wonB (R i) = true) : ∃ G', Inv n (upd R i (leadR (R i))) G' ∧ Le (tm R) (tm (upd R i (leadR (R i)))) G G' ∧ LeI i (tm R) G G' ∧ ∀ t x, G'.L t = some x → (∃ z, G.L t = some z) ∨ t = (R i).Term := by
 have r := I.r i hi
 have hno := r.nodes
 have hme := r.me
 have hlv := r.bs.lv
 have hN := r.may.nodes
 obtain ⟨s1, s2, s3⟩ := r.s1 hr
 have wv := I.w.v _ _ _ _ s2
 have ht1 := wv.t1
 have hl := r.bs.len
 let Q : Nat → Bool := fun v => (R i).Votes.getD v false
 have hQv : ∀ v, Q v = true → (R i).Votes[v]? = some true := fun v hv => by
  have hv' : (R i).Votes.getD v false = true := hv
  rw [List.getD_eq_getElem?_getD] at hv'
  cases h : (R i).Votes[v]? with
  | none => rw [h] at hv'; cases hv'
  | some b => rw [h] at hv'; simp at hv'; rw [hv']
 have hmaj : n / 2 + 1 ≤ cnt n Q := by
  have h1 : (cntT (R i).Votes : Int) ≥ (R i).Nodes / 2 + 1 := of_decide_eq_true hw
  have h2 : cntT (R i).Votes ≤ cnt n Q := cnt_of (by omega) fun v b hv hb => by
   show (R i).Votes.getD v false = true
   rw [List.getD_eq_getElem?_getD, hv]
   exact hb
  omega
 have hnone : G.L (R i).Term = none := by
  cases h : G.L (R i).Term with
  | none => rfl
  | some z => exact absurd (I.w.one h hmaj fun v _ hv => r.s2 hr v (hQv v hv)) (s3 z h)
 have hlb := leadR_bs r.bs
 obtain ⟨f1, f2, f3, f4⟩ := leadR_fields (R i)
 have fr : (leadR (R i)).Role = 2 := by unfold leadR; split <;> rfl
 have flog : (leadR (R i)).Log = (R i).Log ∨ (leadR (R i)).Log = (R i).Log ++ [TEntry.mk (R i).Term true noT] := by
  unfold leadR
  split
  ·exact .inr rfl
  ·exact .inl rfl
 have fpre : (R i).Log <+: (leadR (R i)).Log := by
  rcases flog with h | h
  ·rw [h]; exact List.prefix_refl _
  ·rw [h]; exact List.prefix_append _ _
 let y : Ldr := ⟨i, (R i).Log, (leadR (R i)).Log, Q⟩
 have hold : ∀ z, G.L (R i).Term = some z → y.who = z.who ∧ y.B = z.B ∧ y.Q = z.Q ∧ z.LL <+: y.LL := fun z hz => by rw [hnone] at hz; cases hz
 have hlei : LeI i (tm R) G (G.grow (R i).Term i y) := grow_lei rfl rfl
 have hsmt : ∀ e ∈ (leadR (R i)).Log, Smt e := by
  rcases flog with h | h
  ·rw [h]; exact r.smt
  ·rw [h]; exact fun z hz => (List.mem_append.1 hz).elim (r.smt z) fun g => by rw [List.mem_singleton.1 g]; exact ⟨Nat.zero_le _, Nat.zero_le _⟩
 have hmt : ∀ (v : Nat) (a : Int), (leadR (R i)).Match[v]? = some a → a ≤ ((G.grow (R i).Term i y).A (R i).Term v : Int) := by
  intro v a hv
  have hi' : ((R i).Me - 1).toNat = i := by omega
  have key : ∀ b : Int, b ≤ (y.LL.length : Int) → ((List.replicate (R i).Nodes.toNat 0).set i b)[v]? = some a → a ≤ ((G.grow (R i).Term i y).A (R i).Term v : Int) := by
   intro b hb hv
   rw [List.getElem?_set] at hv
   by_cases c : i = v
   ·subst c
    rw [if_pos rfl] at hv
    split at hv
    ·cases hv; rw [grow_A]; exact hb
    ·cases hv
   ·rw [if_neg c, List.getElem?_replicate] at hv
    split at hv
    ·cases hv; omega
    ·cases hv
  unfold leadR at hv
  split at hv
  ·rename_i hlt
   have hyl : y.LL.length = (R i).Log.length + 1 := by show (leadR (R i)).Log.length = _; unfold leadR; rw [if_pos hlt]; show ((R i).Log ++ [_]).length = _; simp
   have hv' : (((List.replicate (R i).Nodes.toNat 0).set ((R i).Me - 1).toNat ((R i).Log.length : Int)).set ((R i).Me - 1).toNat (((R i).Log ++ [putE (lead1 (R i)) sealE]).length : Int))[v]? = some a := hv
   rw [List.set_set, hi'] at hv'
   exact key _ (by simp; omega) hv'
  ·rename_i hlt
   have hyl : y.LL.length = (R i).Log.length := by show (leadR (R i)).Log.length = _; unfold leadR; rw [if_neg hlt]; rfl
   have hv' : ((List.replicate (R i).Nodes.toNat 0).set ((R i).Me - 1).toNat ((R i).Log.length : Int))[v]? = some a := hv
   rw [hi'] at hv'
   exact key _ (by omega) hv'
 have hc := r.may.commit
 have hterms := (I.w.s (R i).Term i).2
 rw [s1] at hterms
 have hle0 : Le (tm R) (tm R) G (G.grow (R i).Term i y) := grow_le (i := i) I.w hold
 have hdec0 : Dec n (G.grow (R i).Term i y) (R i).Term ((leadR (R i)).Log.take (R i).Commit.toNat) := by
  obtain ⟨w, hw⟩ := fpre
  rw [← hw, List.take_append_of_le_length (by omega)]
  exact r.c1.mono hle0 (Int.le_refl _)
 obtain ⟨i1, i2⟩ := grow_inv (x := leadR (R i)) (y := y) I hi rfl f1 f4 fr rfl rfl fpre hold (fun hle => by
   exact { who := hi, tw := Int.le_refl _, t1 := ht1, base := s1.symm, pre := fpre
           own := fun k f hk hb => by
             have hk' : (leadR (R i)).Log[k]? = some f := hk
             have hb' : (R i).Log.length ≤ k := hb
             rcases flog with h | h
             · rw [h] at hk'
               have := (List.getElem?_eq_some_iff.1 hk').1
               omega
             · rw [h, List.getElem?_append_right hb'] at hk'
               rw [List.mem_singleton.1 (List.mem_of_getElem? hk')]
           log := by
             rcases flog with h | h
             · show LogP _ (leadR (R i)).Log
               rw [h]; exact r.log.mono hle
             · exact r.log.more hle h rfl
           rise := by
             show Rise 1 (R i).Term (leadR (R i)).Log
             rcases flog with h | h
             · rw [h]; exact r.may.rise
             · rw [h]; exact Rise.snoc' (e := TEntry.mk (R i).Term true noT) r.may.rise (Int.le_refl _) ht1
           smt := hsmt
           len := hlb.len
           maj := hmaj
           votes := fun v hv hq => by
             obtain ⟨X, hX⟩ := r.s2 hr v (hQv v hq)
             have wx := I.w.v _ _ _ _ hX
             refine ⟨X, hX, fun u hu => ?_⟩
             have hk := wx.keep u hu
             have hk2 : Keeps G v X u ((R i).Term - 1) := fun k hkA => (hk k hkA).elim .inl fun ⟨t2, z, h1, h2, h3, h4⟩ => by
               refine .inr ⟨t2, z, h1, ?_, h3, h4⟩
               rcases Int.lt_or_eq_of_le h2 with g | g
               · omega
               · rw [g, hnone] at h3; cases h3
             exact hk2.mono I.w hle (by
               by_cases e : v = i
               · subst e; exact hlei.f u (by show u < (R v).Term; omega)
               · exact hlei.a u v e) (Int.le_refl _) })
  f2 f3 (leadR_may r.may ht1) hlb hsmt hmt (by
   have hms : ∀ a ∈ (leadR (R i)).Match, 0 ≤ a := fun a ha => (hlb.ms a ha).1
   have hml : (leadR (R i)).Match.length = n := by have := hlb.lm; rw [f3] at this; omega
   have hcm : (leadR (R i)).Commit = (R i).Commit ∨ (leadR (R i)).Commit = nextC (leadR (R i)).Match (leadR (R i)).Log (R i).Term (R i).Commit := by
    unfold leadR
    split
    ·exact .inr rfl
    ·exact .inl rfl
   rcases hcm with h | h
   ·rw [h]; exact hdec0
   ·rw [h]
    exact nextC_dec (y := y) grow_L rfl hml (by omega) (by omega) hms ht1 hmt hdec0)
 refine ⟨_, i1, i2.1, i2.2, fun t z hz => ?_⟩
 by_cases ht : t = (R i).Term
 ·exact .inr ht
 ·have hz' : (if t = (R i).Term then some y else G.L t) = some z := hz
  rw [if_neg ht] at hz'; exact .inl ⟨z, hz'⟩
theorem lead_out (I : Inv n R G) (hi : i < n) (hr : (R i).Role = 1) (hw : wonB (R i) = true) : Out n i R G (leadR (R i), bc letterE (leadR (R i))) := by
 obtain ⟨G', i1, i2, i3, i4⟩ := lead_inv I hi hr hw
 have fr : (leadR (R i)).Role = 2 := by unfold leadR; split <;> rfl
 refine ⟨G', i1, i2, i3, fun t x h => (i4 t x h).imp id fun e => ⟨fr, (leadR_fields (R i)).1.trans e.symm⟩, ?_⟩
 have := bc_mi (g := letterE) i1 hi fun to ht => letterE_mi i1 hi (by rw [upd_i]; exact fr) ht
 rw [upd_i] at this
 exact this
theorem Out.after {x : TRaft} {G1 : Gh} {y : TRaft × List TMsg} (I1 : Le (tm R) (tm (upd R i x)) G G1) (I2 : LeI i (tm R) G G1) (I3 : G1.L = G.L) (h : Out n i (upd R i x) G1 y) : Out n i R G y := by
 obtain ⟨G', i1, i2, i3, i4, i5⟩ := h
 rw [upd_upd] at i1 i2 i5
 exact ⟨G', i1, I1.trans i2, LeI.trans I1 I2 i3, fun t x h => by rw [← I3]; exact i4 t x h, i5⟩
theorem vote_inv (I : Inv n R G) (hi : i < n) {m : TMsg} (hm : MI n (tm R) G m) (hk : m.Kind = 2) (hto : m.To = (R i).Me) : Out n i R G (voteP (R i) m) := by
 have r := I.r i hi
 have hme := r.me
 unfold voteP
 split
 ·rename_i h
  obtain ⟨h1, h2, h3⟩ := h
  obtain ⟨X, hX⟩ := hm.k2 hk h3
  rw [h1, hto, hme, show ((i : Int) + 1 - 1).toNat = i by omega] at hX
  have hle : Le (tm R) (tm (upd R i (countR (R i) m.From))) G G := Le.same G (Int.le_refl _)
  have inv : Inv n (upd R i (countR (R i) m.From)) G := I.quiet hi (Int.le_refl _)
   {me := r.me, nodes := r.nodes, may := countR_may r.may, bs := countR_bs r.bs, smt := r.smt, v2 := r.v2, v3 := r.v3, log := r.log, snap := r.snap, s1 := r.s1
    s2 := fun _ v hv => by
     have hv' : ((R i).Votes.set (m.From - 1).toNat true)[v]? = some true := hv
     rw [List.getElem?_set] at hv'
     by_cases c : (m.From - 1).toNat = v
     ·subst c; exact ⟨X, hX⟩
     ·rw [if_neg c] at hv'; exact r.s2 h2 v hv'
    l2 := r.l2, mt := r.mt, c1 := r.c1 }
  split
  ·rename_i hw
   refine Out.after hle (LeI.same _ _ _) rfl ?_
   have := lead_out inv hi (by rw [upd_i]; exact h2) (by rw [upd_i]; exact hw)
   rw [upd_i] at this
   exact this
  ·exact ⟨G, inv, hle, LeI.same _ _ _, fun t x h => .inl ⟨x, h⟩, fun m hm => by cases hm⟩
 ·exact out_same I
theorem tick_inv (I : Inv n R G) (hi : i < n) (hT : (R i).Term < 1152921504606846976) : Out n i R G (tickF (R i)) := by
 have r := I.r i hi
 unfold tickF
 cases hmay : mayB (R i)
 ·rw [if_neg (by decide)]; exact out_same I
 rw [if_pos rfl]
 unfold tickP
 by_cases h2 : (R i).Role = 2
 ·rw [if_pos h2]
  refine ⟨G, by show Inv n (upd R i (R i)) G; rw [upd_self]; exact I, by show Le (tm R) (tm (upd R i (R i))) G G; rw [upd_self]; exact Le.refl _ _, LeI.same _ _ _, fun t x h => .inl ⟨x, h⟩, ?_⟩
  show ∀ m ∈ bc letterE (R i), MI n (tm (upd R i (R i))) G m
  rw [upd_self]
  exact bc_mi I hi fun to ht => letterE_mi I hi h2 ht
 rw [if_neg h2]
 by_cases h3 : (R i).Clock + 1 ≥ (R i).Wait
 ·rw [if_pos h3]
  obtain ⟨G1, i1, i2, i3, i4⟩ := stand_inv I hi hT
  refine Out.after i2 i3 i4 ?_
  unfold standP
  cases hw : wonB (stand1 (R i))
  ·rw [if_neg (by decide)]
   refine ⟨G1, by show Inv n (upd (upd R i (stand1 (R i))) i (stand1 (R i))) G1; rw [upd_upd]; exact i1, by show Le _ (tm (upd (upd R i (stand1 (R i))) i (stand1 (R i)))) G1 G1; rw [upd_upd]; exact Le.refl _ _, LeI.same _ _ _, fun t x h => .inl ⟨x, h⟩, ?_⟩
   show ∀ m ∈ bc askE (stand1 (R i)), MI n (tm (upd (upd R i (stand1 (R i))) i (stand1 (R i)))) G1 m
   rw [upd_upd]
   have r1 := i1.r i hi
   have key := bc_mi (g := askE) i1 hi fun to ht => by
    have hme := r1.me
    have s1 := (r1.s1 (by rw [upd_i]; rfl))
    have he : ((upd R i (stand1 (R i)) i).Me - 1).toNat = i := by omega
    have hl := r1.bs.len
    have wv := i1.w.v _ _ _ _ s1.2.1
    exact { frm := ⟨by show 1 ≤ (upd R i (stand1 (R i)) i).Me; omega, by show (upd R i (stand1 (R i)) i).Me ≤ n; omega⟩, to := ht
            term := ⟨r1.may.term, by show (upd R i (stand1 (R i)) i).Term ≤ tm _ ((upd R i (stand1 (R i)) i).Me - 1).toNat; rw [he]; exact Int.le_refl _⟩
            lb := ⟨r1.bs.term, ⟨by show -1152921504606846976 ≤ ((upd R i (stand1 (R i)) i).Log.length : Int); omega, by show ((upd R i (stand1 (R i)) i).Log.length : Int) ≤ 1152921504606846976; omega⟩, Nat.zero_le _, fun e h => by cases h⟩
            index := by show 0 ≤ ((upd R i (stand1 (R i)) i).Log.length : Int); omega
            smt := fun e h => by cases h
            es := Nat.zero_le _
            k1 := fun _ => by
              show ((upd R i (stand1 (R i)) i).Log.length : Int) = ((G1.S (upd R i (stand1 (R i)) i).Term ((upd R i (stand1 (R i)) i).Me - 1).toNat).length : Int) ∧ termAt (upd R i (stand1 (R i)) i).Log ((upd R i (stand1 (R i)) i).Log.length : Int) = lastT (G1.S (upd R i (stand1 (R i)) i).Term ((upd R i (stand1 (R i)) i).Me - 1).toNat) ∧ _
              rw [he, s1.1]
              exact ⟨rfl, termAt_last _, wv.t1⟩
            k2 := fun k => by cases k
            k3 := fun k => by cases k
            k4 := fun k => by cases k }
   rw [upd_i] at key
   exact key
  ·rw [if_pos rfl]
   have := lead_out i1 hi (by rw [upd_i]; rfl) (by rw [upd_i]; exact hw)
   rw [upd_i] at this
   exact this
 ·rw [if_neg h3]
  have hw := (mayB_iff.1 hmay).wait
  have hc := r.bs.clock
  have hle : Le (tm R) (tm (upd R i (clockR (R i)))) G G := Le.same G (Int.le_refl _)
  refine ⟨G, I.quiet hi (Int.le_refl _) ?_, hle, LeI.same _ _ _, fun t x h => .inl ⟨x, h⟩, fun m hm => by cases hm⟩
  have hmy := r.may
  exact { me := r.me, nodes := r.nodes, may := ⟨hmy.nodes, hmy.me, hmy.wait, hmy.term, hmy.vote, hmy.leader, hmy.len, hmy.commit, hmy.role, by show 0 ≤ (R i).Clock + 1; omega, hmy.votes, hmy.next, hmy.mtch, hmy.rise⟩
          bs := ⟨r.bs.nodes, r.bs.me, r.bs.lv, r.bs.lx, r.bs.lm, r.bs.len, r.bs.sm, r.bs.term, r.bs.xs, r.bs.ms, by show 0 ≤ (R i).Clock + 1 ∧ (R i).Clock + 1 ≤ _; omega⟩
          smt := r.smt, v2 := r.v2, v3 := r.v3, log := r.log, snap := r.snap, s1 := r.s1, s2 := r.s2, l2 := r.l2, mt := r.mt, c1 := r.c1 }
theorem propose_inv (I : Inv n R G) (hi : i < n) {e : TEntry} (he : Smt e) : Out n i R G ((propF (R i) e).1, (propF (R i) e).2.1) := by
 unfold propF
 split
 ·rename_i h
  obtain ⟨G', i1, i2, i3, i4⟩ := prop_inv I hi h.2.1 h.2.2 he
  refine ⟨G', i1, i2, i3, fun t x h => .inl (i4 t x h), ?_⟩
  have := bc_mi (g := letterE) i1 hi fun to ht => letterE_mi i1 hi (by rw [upd_i]; exact h.2.1) ht
  rw [upd_i] at this
  exact this
 ·exact out_same I
def againR (r : TRaft) : TRaft := TRaft.mk r.Me r.Nodes r.Wait r.Term r.Vote r.Log 0 0 0 (List.replicate r.Nodes.toNat false) (List.replicate r.Nodes.toNat 0) (List.replicate r.Nodes.toNat 0) 0
theorem again_inv (I : Inv n R G) (hi : i < n) : Out n i R G (againR (R i), []) := by
 have r := I.r i hi
 have hmy := r.may
 have hN := hmy.nodes
 have hle : Le (tm R) (tm (upd R i (againR (R i)))) G G := Le.same G (Int.le_refl _)
 refine ⟨G, I.quiet hi (Int.le_refl _) ?_, hle, LeI.same _ _ _, fun t x h => .inl ⟨x, h⟩, fun m hm => by cases hm⟩
 have z : (0 : Int) ≤ 0 ∧ (0 : Int) ≤ 1152921504606846976 := by omega
 exact { me := r.me, nodes := r.nodes
         may := ⟨hmy.nodes, hmy.me, hmy.wait, hmy.term, hmy.vote, ⟨Int.le_refl _, by show 0 ≤ (R i).Nodes; omega⟩, hmy.len, ⟨Int.le_refl _, by show (0 : Int) ≤ ((R i).Log.length : Int); omega⟩, ⟨Int.le_refl _, by show (0 : Int) ≤ 2; decide⟩, Int.le_refl _, by show ((List.replicate _ _).length : Int) = (R i).Nodes; simp; omega, by show ((List.replicate _ _).length : Int) = (R i).Nodes; simp; omega, by show ((List.replicate _ _).length : Int) = (R i).Nodes; simp; omega, hmy.rise⟩
         bs := ⟨r.bs.nodes, r.bs.me, by show ((List.replicate _ _).length : Int) = (R i).Nodes; simp; omega, by show ((List.replicate _ _).length : Int) = (R i).Nodes; simp; omega, by show ((List.replicate _ _).length : Int) = (R i).Nodes; simp; omega, r.bs.len, r.bs.sm, r.bs.term, fun a ha => by rw [List.eq_of_mem_replicate ha]; omega, fun a ha => by rw [List.eq_of_mem_replicate ha]; omega, z⟩
         smt := r.smt, v2 := r.v2, v3 := r.v3, log := r.log, snap := r.snap
         s1 := fun k => by have : (0 : Int) = 1 := k; omega
         s2 := fun k => by have : (0 : Int) = 1 := k; omega
         l2 := fun k => by have : (0 : Int) = 2 := k; omega
         mt := fun k => by have : (0 : Int) = 2 := k; omega
         c1 := .inl rfl }
end
end Go.Proofs.Ythpokjkbcdfhiaa.Told.RA
