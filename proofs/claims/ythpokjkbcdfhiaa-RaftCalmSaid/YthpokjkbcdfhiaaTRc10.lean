/- Rounds: one leads soon, and all is told. -/
import Derived.Test.YthpokjkbcdfhiaaTRc9
namespace Go.Proofs.Ythpokjkbcdfhiaa.Told.RA
open Go Go.Proofs.Ythpokjkbcdfhiaa.Vam Go.Proofs.Ythpokjkbcdfhiaa.Told Go.Proofs.Ythpokjkbcdfhiaa.Told.HP Go.Proofs.Ythpokjkbcdfhiaa.Told.PK
set_option linter.unusedSimpArgs false
set_option linter.unusedVariables false
def Stb (n p : Nat) (R : Nat → TRaft) : Prop := ∃ l, St n l R ∧ Clk n l p R
def NoL (n : Nat) (R : Nat → TRaft) : Prop := ∀ j, j < n → (R j).Role ≠ 2
def Evn (n : Nat) (R : Nat → TRaft) : Prop := NoL n R ∧ ∃ t, ∀ j, j < n → (R j).Term = t
def Step (n : Nat) (Q : Nat → (Nat → TRaft) → Prop) : Prop := ∀ p R G s, p < n → s ≤ 500000 → CI n s R G [] → (∀ j, j < n → (R j).Log.length < 199) → Q p R → MStp n p R s (Q (p + 1))
theorem MStp.imp {n p : Nat} {R : Nat → TRaft} {s : Int} {Q Q' : (Nat → TRaft) → Prop} (h : MStp n p R s Q) (k : ∀ R, Q R → Q' R) : MStp n p R s Q' := by
 obtain ⟨s1, h1, h2, h3, J, h4, h5, h6⟩ := h
 exact ⟨s1, h1, h2, h3, J, h4, h5, fun R1 G1 c j => k R1 (h6 R1 G1 c j)⟩
section
variable {n : Nat} {s : Int} {R : Nat → TRaft} {G : Gh} {p : Nat}
theorem stb_stp (C : CI n s R G []) (hp : p < n) (hs : s ≤ 500000) (h200 : ∀ j, j < n → (R j).Log.length < 199) (h : Stb n p R) : MStp n p R s (Stb n (p + 1)) := by
 obtain ⟨l, h1, h2⟩ := h
 exact (stb_step (F := False) C hp hs h200 h1 h2 (fun f => f.elim)).imp fun R' g => ⟨l, g.1, g.2.1⟩
theorem stb_new {T s1 : Int} {R' : Nat → TRaft} {G' : Gh} (C : CI n s1 R' G' []) (S : SA n p T R R' []) (D : SC n p T R' []) (h : (R' p).Role = 2) : Stb n (p + 1) R' := by
 obtain ⟨h1, h2⟩ := stable_of C S D h
 exact ⟨p, h1, fun j hj hji => by rw [h2 j hj hji]; exact ⟨by decide, fun _ => by decide⟩⟩
def Q1 (n p : Nat) (R : Nat → TRaft) : Prop := Stb n p R ∨ ∀ j, j < n → j < p → (R j).Role ≠ 2
theorem Q1.step : Step n (Q1 n) := by
 intro p R G s hp hs C h200 h
 rcases h with h | h
 ·exact (stb_stp C hp hs h200 h).imp fun _ g => .inl g
 ·refine mstep_tick (s1 := s + 1) C hp hs h200 (Int.le_refl _) (fun j hj => by have := C.term j hj; omega) (fun _ => by have := C.term p hp; omega) fun R' G' C' hm => ?_
  rcases hm with ⟨c1, c2, rfl⟩ | ⟨T, c, a1, a2, a3⟩
  ·right
   intro j hj hjp
   by_cases e : j = p
   ·subst e; rw [upd_i]; exact c1
   ·rw [upd_ne _ _ e]; exact h j hj (by omega)
  ·by_cases h2 : (R' p).Role = 2
   ·exact .inl (stb_new C' a1 a3 h2)
   ·right
    intro j hj hjp
    by_cases e : j = p
    ·subst e; exact h2
    ·exact fun g => h j hj (by omega) (a1.role j hj e g)
theorem up_newer {Y X : List TEntry} (h : Up Y X) : newerB X (Y.length : Int) (lastT Y) = true := by
 unfold newerB
 rw [termAt_last]
 rcases h with h | ⟨h1, h2⟩
 ·rw [decide_eq_true (show lastT Y > lastT X from h)]; rfl
 ·rw [beq_iff_eq.2 h1.symm, decide_eq_true (show (Y.length : Int) ≥ (X.length : Int) by omega)]; simp
theorem nw_iff {R : Nat → TRaft} {i j : Nat} : Nw R i j ↔ Up (R i).Log (R j).Log := ⟨newer_up, up_newer⟩
theorem Up.trans {X Y Z : List TEntry} (h : Up X Y) (k : Up Y Z) : Up X Z := by
 unfold Up at *; omega
theorem best_ex (L : Nat → List TEntry) : ∀ n, 0 < n → ∃ b, b < n ∧ ∀ j, j < n → Up (L b) (L j)
 | 0, h => by omega
 | n + 1, _ => by
  rcases Nat.eq_zero_or_pos n with e | e
  ·subst e
   exact ⟨0, by omega, fun j hj => by rw [show j = 0 by omega]; exact Up.refl _⟩
  ·obtain ⟨b, h1, h2⟩ := best_ex L n e
   by_cases c : Up (L b) (L n)
   ·exact ⟨b, by omega, fun j hj => by
     by_cases g : j = n
     ·subst g; exact c
     ·exact h2 j (by omega)⟩
   ·have c' : Up (L n) (L b) := by unfold Up at *; omega
    exact ⟨n, by omega, fun j hj => by
     by_cases g : j = n
     ·subst g; exact Up.refl _
     ·exact c'.trans (h2 j (by omega))⟩
theorem ev_step (C : CI n s R G []) (hp : p < n) (hs : s ≤ 500000) (h200 : ∀ j, j < n → (R j).Log.length < 199) (h : Evn n R) : MStp n p R s (fun R' => Stb n (p + 1) R' ∨ (Evn n R' ∧ (((R p).Clock + 1 < (R p).Wait ∧ R' = upd R p (clockR (R p))) ∨ ((∀ j, j < n → (R' j).Log = (R j).Log) ∧ (∀ j, j < n → j ≠ p → (R' j).Clock = (R j).Clock ∨ Nw R p j) ∧ ∃ j, j < n ∧ j ≠ p ∧ ¬ Nw R p j)))) := by
 obtain ⟨hno, t, ht⟩ := h
 have hts : t ≤ s := by rw [← ht p hp]; exact C.term p hp
 refine mstep_tick (s1 := t + 1) C hp hs h200 (by omega) (fun j hj => by rw [ht j hj]; omega) (fun _ => by rw [ht p hp]; exact Int.le_refl _) fun R' G' C' hm => ?_
 rcases hm with ⟨c1, c2, rfl⟩ | ⟨T, c, a1, a2, a3⟩
 ·right
  refine ⟨⟨fun j hj => ?_, t, fun j hj => ?_⟩, .inl ⟨c2, rfl⟩⟩
  ·by_cases e : j = p
   ·subst e; rw [upd_i]; exact c1
   ·rw [upd_ne _ _ e]; exact hno j hj
  ·by_cases e : j = p
   ·subst e; rw [upd_i]; exact ht j hj
   ·rw [upd_ne _ _ e]; exact ht j hj
 ·have hT : T = t + 1 := by
   rcases c with ⟨c, _⟩ | ⟨_, c, _⟩
   ·exact absurd c (hno p hp)
   ·rw [c, ht p hp]
  by_cases h2 : (R' p).Role = 2
  ·exact .inl (stb_new C' a1 a3 h2)
  ·right
   have hTp : (R' p).Term = T := by have := C'.term p hp; have := a1.me.1; omega
   have hr1 : (R' p).Role = 1 := by
    have := a1.nz hTp
    have := (C'.inv.r p hp).may.role
    omega
   have b := a2 hr1
   refine ⟨⟨fun j hj => ?_, T, fun j hj => ?_⟩, .inr ⟨fun j hj => ?_, fun j hj hji => (b.oth j hj hji).2, ?_⟩⟩
   ·by_cases e : j = p
    ·subst e; exact h2
    ·exact fun g => hno j hj (a1.role j hj e g)
   ·by_cases e : j = p
    ·subst e; exact hTp
    ·exact (a1.dn j hj e (by rw [ht j hj]; omega)).2.elim id fun ⟨m, hm, _⟩ => by cases hm
   ·by_cases e : j = p
    ·subst e; exact b.log
    ·exact (b.oth j hj e).1
   ·-- not all are for it
    by_cases hex : ∃ j, j < n ∧ j ≠ p ∧ ¬ Nw R p j
    ·exact hex
    exfalso
    have hall : ∀ j, j < n → (R' p).Votes[j]? = some true := fun j hj => by
     by_cases e : j = p
     ·subst e; exact b.own
     ·have hnw : Nw R p j := Classical.byContradiction fun g => hex ⟨j, hj, e, g⟩
      rcases b.votes j hj e (by rw [ht j hj]; omega) hnw with ⟨_, m, hm, _⟩ | ⟨m, hm, _⟩ | g
      ·cases hm
      ·cases hm
      ·exact g
    have r' := C'.inv.r p hp
    have hlv := r'.bs.lv
    have hno' := r'.nodes
    have hcnt : cntT (R' p).Votes = (R' p).Votes.length := List.countP_eq_length.2 fun x hx => by
     obtain ⟨k, hk⟩ := List.getElem?_of_mem hx
     have hkl := (List.getElem?_eq_some_iff.1 hk).1
     rw [hall k (by omega)] at hk
     cases hk; rfl
    have := b.notyet
    unfold wonB at this
    have := of_decide_eq_false this
    have := C'.n1
    omega
def Q2 (n : Nat) (c : Int) (p : Nat) (R : Nat → TRaft) : Prop := Stb n p R ∨ Evn n R ∨ ∃ ms, ms < n ∧ NoL n R ∧ (∀ j, j < n → (R j).Term ≤ (R ms).Term) ∧ c + (if ms < p then 1 else 0) ≤ (R ms).Clock ∧ (ms < p → (R ms).Clock < 8)
theorem Q2.step {c : Int} : Step n (Q2 n c) := by
 intro p R G s hp hs C h200 h
 rcases h with h | h | ⟨ms, m1, m2, m3, m4, m5⟩
 ·exact (stb_stp C hp hs h200 h).imp fun _ g => .inl g
 ·exact (ev_step C hp hs h200 h).imp fun R' g => g.imp id fun g => .inl g.1
 ·have hsm := C.term ms m1
  have hsp := C.term p hp
  refine mstep_tick (s1 := max (R ms).Term ((R p).Term + 1)) C hp hs h200 (by omega) (fun j hj => by have := m3 j hj; omega) (fun _ => by omega) fun R' G' C' hm => ?_
  have hn5 := C.n1
  rcases hm with ⟨c1, c2, rfl⟩ | ⟨T, cc, a1, a2, a3⟩
  ·right; right
   have hw := (C.xt p hp).wait
   have hwb := wait_bd (i := p) (by omega)
   have hRms : (upd R p (clockR (R p)) ms).Term = (R ms).Term := by
    by_cases e : ms = p
    ·subst e; rw [upd_i]; rfl
    ·rw [upd_ne _ _ e]
   refine ⟨ms, m1, fun j hj => ?_, fun j hj => ?_, ?_, fun hlt => ?_⟩
   ·by_cases e : j = p
    ·subst e; rw [upd_i]; exact c1
    ·rw [upd_ne _ _ e]; exact m2 j hj
   ·rw [hRms]
    by_cases e : j = p
    ·subst e; rw [upd_i]; exact m3 j hj
    ·rw [upd_ne _ _ e]; exact m3 j hj
   ·by_cases e : ms = p
    ·subst e
     rw [upd_i, if_pos (by omega)]
     rw [if_neg (by omega)] at m4
     show _ ≤ (R ms).Clock + 1
     omega
    ·rw [upd_ne _ _ e]
     by_cases e2 : ms < p
     ·rw [if_pos e2] at m4; rw [if_pos (by omega)]; exact m4
     ·rw [if_neg e2] at m4; rw [if_neg (by omega)]; exact m4
   ·by_cases e : ms = p
    ·subst e
     rw [upd_i]
     show (R ms).Clock + 1 < 8
     omega
    ·rw [upd_ne _ _ e]; exact m5 (by omega)
  ·have hT : T = (R p).Term + 1 := by
    rcases cc with ⟨cc, _⟩ | ⟨_, cc, _⟩
    ·exact absurd cc (m2 p hp)
    ·exact cc
   by_cases h2 : (R' p).Role = 2
   ·exact .inl (stb_new C' a1 a3 h2)
   right
   have hnl : NoL n R' := fun j hj => by
    by_cases e : j = p
    ·subst e; exact h2
    ·exact fun g => m2 j hj (a1.role j hj e g)
   have hup : ∀ j, j < n → j ≠ p → T < (R j).Term → R' j = R j ∧ (R j).Term ≤ (R' p).Term := fun j hj hji hlt => by
    obtain ⟨e, g⟩ := a1.up j hj hji hlt
    rcases g with ⟨m, hm, _⟩ | ⟨m, hm, _⟩ | g
    ·cases hm
    ·cases hm
    ·exact ⟨e, g⟩
   rcases Int.lt_or_eq_of_le a1.me.1 with g | g
   ·right
    have hs1 := C'.term p hp
    have hne : ms ≠ p := fun e => by subst e; omega
    obtain ⟨e1, e2⟩ := hup ms m1 hne (by omega)
    refine ⟨ms, m1, hnl, fun j hj => by have := C'.term j hj; rw [e1]; omega, ?_, fun hlt => ?_⟩
    ·rw [e1]
     by_cases e2 : ms < p
     ·rw [if_pos e2] at m4; rw [if_pos (by omega)]; exact m4
     ·rw [if_neg e2] at m4; rw [if_neg (by omega)]; exact m4
    ·rw [e1]; exact m5 (by omega)
   ·left
    refine ⟨hnl, T, fun j hj => ?_⟩
    by_cases e : j = p
    ·subst e; exact g.symm
    ·rcases Int.lt_or_le T (R j).Term with g2 | g2
     ·have := (hup j hj e g2).2; omega
     ·exact (a1.dn j hj e g2).2.elim id fun ⟨m, hm, _⟩ => by cases hm
def Q3 (n : Nat) (c : Int) (p : Nat) (R : Nat → TRaft) : Prop := Stb n p R ∨ ∃ b, b < n ∧ Evn n R ∧ (∀ j, j < n → Up (R b).Log (R j).Log) ∧ c + (if b < p then 1 else 0) ≤ (R b).Clock ∧ (b < p → (R b).Clock < 8)
theorem Q3.step {c : Int} : Step n (Q3 n c) := by
 intro p R G s hp hs C h200 h
 rcases h with h | ⟨b, b1, b2, b3, b4, b5⟩
 ·exact (stb_stp C hp hs h200 h).imp fun _ g => .inl g
 ·refine (ev_step C hp hs h200 b2).imp fun R' g => g.imp id fun ⟨g1, g2⟩ => ?_
  have hn5 := C.n1
  have hw := (C.xt p hp).wait
  have hwb := wait_bd (i := p) (by omega)
  rcases g2 with ⟨c1, rfl⟩ | ⟨c1, c2, j0, k1, k2, k3⟩
  ·have hlog : ∀ j, (upd R p (clockR (R p)) j).Log = (R j).Log := fun j => by
    by_cases e : j = p
    ·subst e; rw [upd_i]; rfl
    ·rw [upd_ne _ _ e]
   refine ⟨b, b1, g1, fun j hj => by rw [hlog, hlog]; exact b3 j hj, ?_, fun hlt => ?_⟩
   ·by_cases e : b = p
    ·subst e
     rw [upd_i, if_pos (by omega)]
     rw [if_neg (by omega)] at b4
     show _ ≤ (R b).Clock + 1
     omega
    ·rw [upd_ne _ _ e]
     by_cases e2 : b < p
     ·rw [if_pos e2] at b4; rw [if_pos (by omega)]; exact b4
     ·rw [if_neg e2] at b4; rw [if_neg (by omega)]; exact b4
   ·by_cases e : b = p
    ·subst e
     rw [upd_i]
     show (R b).Clock + 1 < 8
     omega
    ·rw [upd_ne _ _ e]; exact b5 (by omega)
  ·have hnb : ¬ Up (R p).Log (R b).Log := fun g => k3 (nw_iff.2 (g.trans (b3 j0 k1)))
   have hne : b ≠ p := fun e => by subst e; exact hnb (Up.refl _)
   have hck : (R' b).Clock = (R b).Clock := (c2 b b1 hne).elim id fun g => absurd (nw_iff.1 g) hnb
   refine ⟨b, b1, g1, fun j hj => by rw [c1 b b1, c1 j hj]; exact b3 j hj, ?_, fun hlt => ?_⟩
   ·rw [hck]
    by_cases e2 : b < p
    ·rw [if_pos e2] at b4; rw [if_pos (by omega)]; exact b4
    ·rw [if_neg e2] at b4; rw [if_neg (by omega)]; exact b4
   ·rw [hck]; exact b5 (by omega)
def Q4 (n p : Nat) (R : Nat → TRaft) : Prop := ∃ l, St n l R ∧ Clk n l p R ∧ (l < p → Cms n l R)
theorem Q4.step : Step n (Q4 n) := by
 intro p R G s hp hs C h200 h
 obtain ⟨l, h1, h2, h3⟩ := h
 exact (stb_step (F := True) C hp hs h200 h1 h2 (fun _ => h3)).imp fun R' g => ⟨l, g.1, g.2.1, g.2.2 trivial⟩
theorem Stb.wrap (h : Stb n n R) : Stb n 0 R := by
 obtain ⟨l, h1, h2⟩ := h
 refine ⟨l, h1, fun j hj hjl => ?_⟩
 obtain ⟨c1, c2⟩ := h2 j hj hjl
 have := h1.l1
 exact ⟨c1, fun g => c2 (fun g2 => g (by unfold Tks at g2 ⊢; omega))⟩
theorem Q4.wrap (h : Q4 n n R) : Q4 n 0 R := by
 obtain ⟨l, h1, h2, h3⟩ := h
 refine ⟨l, h1, fun j hj hjl => ?_, fun g => by omega⟩
 obtain ⟨c1, c2⟩ := h2 j hj hjl
 have := h1.l1
 exact ⟨c1, fun g => c2 (fun g2 => g (by unfold Tks at g2 ⊢; omega))⟩
end
def Rdy (n : Nat) (s E : Int) (M : List TRaft) (R : Nat → TRaft) : Prop := ∃ G, GM n M R ∧ CI n s R G [] ∧ ∀ j, j < n → ((R j).Log.length : Int) ≤ E
theorem round {n : Nat} {Q : Nat → (Nat → TRaft) → Prop} (hq : Step n Q) (a b : Int) : ∀ (d p f : Nat) (s E : Int) (M : List TRaft) (R : Nat → TRaft), p + d = n → d < f → Rdy n s E M R → s + d ≤ 500000 → 0 ≤ E → E + d ≤ 181 → Q p R →
  ∃ R' M', diwanlaw11_RaftCalm.lp21 4000 a b f (p : Int) (TGroup.mk M []) = some (.inl (TGroup.mk M' [])) ∧ Rdy n (s + d) (E + d) M' R' ∧ Q n R'
 | 0, p, f, s, E, M, R, hp, hf, hr, hs, h0, hE, h => by
  obtain ⟨f, rfl⟩ : ∃ k, f = k + 1 := ⟨f - 1, by omega⟩
  obtain ⟨G, g1, g2, g3⟩ := hr
  refine ⟨R, M, ?_, ⟨G, g1, g2.weak (by omega), fun j hj => by have := g3 j hj; omega⟩, by rw [← hp]; exact h⟩
  rw [diwanlaw11_RaftCalm.lp21, br_f (decide_eq_false (by have := g1.1; show ¬ (p : Int) < (M.length : Int); omega))]
 | d + 1, p, f, s, E, M, R, hp, hf, hr, hs, h0, hE, h => by
  obtain ⟨f, rfl⟩ : ∃ k, f = k + 1 := ⟨f - 1, by omega⟩
  obtain ⟨G, g1, g2, g3⟩ := hr
  obtain ⟨R1, G1, M1, e1, e2, e3, e4, e5⟩ := micro g2 g1 (i := p) (by omega) (by omega) h0 (by omega) g3 (hq p R G s (by omega) (by omega) g2 (fun j hj => by have := g3 j hj; omega) h) a b f
  obtain ⟨R', M', k1, k2, k3⟩ := round hq a b d (p + 1) f (s + 1) (E + 1) M1 R1 (by omega) (by omega) ⟨G1, e2, e3, e4⟩ (by omega) (by omega) (by omega) e5
  refine ⟨R', M', by rw [e1]; exact k1, ?_, k3⟩
  rw [show s + ((d + 1 : Nat) : Int) = s + 1 + (d : Int) by omega, show E + ((d + 1 : Nat) : Int) = E + 1 + (d : Int) by omega]
  exact k2
theorem phase {n : Nat} (hn : n ≤ 5) {P : Nat → (Nat → TRaft) → Prop} (D : Nat) (hr : ∀ c, c < D → ∀ R, P c R → (∃ s G, CI n s R G []) → ∃ Q, Step n Q ∧ Q 0 R ∧ ∀ R', (∃ s G, CI n s R' G []) → Q n R' → P (c + 1) R') : ∀ (d c k f : Nat) (s E : Int) (M : List TRaft) (R : Nat → TRaft), c + d = D → k + d ≤ 30 → Rdy n s E M R → s + 5 * d ≤ 500000 → 0 ≤ E → E + 5 * d ≤ 181 → P c R →
  ∃ R' M', diwanlaw11_RaftCalm.lp17 4000 (-1) (f + d) (k : Int) (TGroup.mk M []) = diwanlaw11_RaftCalm.lp17 4000 (-1) f ((k + d : Nat) : Int) (TGroup.mk M' []) ∧ Rdy n (s + 5 * d) (E + 5 * d) M' R' ∧ P D R'
 | 0, c, k, f, s, E, M, R, hc, hk, h, hs, h0, hE, hp => ⟨R, M, rfl, by simpa using h, by rw [← hc]; exact hp⟩
 | d + 1, c, k, f, s, E, M, R, hc, hk, h, hs, h0, hE, hp => by
  have hci : ∃ s G, CI n s R G [] := by
   obtain ⟨G, _, g, _⟩ := h
   exact ⟨s, G, g⟩
  obtain ⟨Q, q1, q2, q3⟩ := hr c (by omega) R hp hci
  obtain ⟨R1, M1, e1, e2, e3⟩ := round q1 (-1) (k : Int) n 0 4000 s E M R (by omega) (by omega) h (by omega) h0 (by omega) q2
  have h1 : Rdy n (s + 5) (E + 5) M1 R1 := by
   obtain ⟨G, g1, g2, g3⟩ := e2
   exact ⟨G, g1, g2.weak (by omega), fun j hj => by have := g3 j hj; omega⟩
  have hci1 : ∃ s G, CI n s R1 G [] := by
   obtain ⟨G, _, g, _⟩ := h1
   exact ⟨_, G, g⟩
  obtain ⟨R', M', k1, k2, k3⟩ := phase hn D hr d (c + 1) (k + 1) f (s + 5) (E + 5) M1 R1 (by omega) (by omega) h1 (by omega) (by omega) (by omega) (q3 R1 hci1 e3)
  refine ⟨R', M', ?_, ?_, k3⟩
  ·rw [show f + (d + 1) = (f + d) + 1 by omega, diwanlaw11_RaftCalm.lp17, br_t (decide_eq_true (by omega)), bd_s (show diwanlaw11_RaftCalm.lp21 4000 (-1) (k : Int) 4000 0 (TGroup.mk M []) = _ from e1)]
   dsimp only
   rw [w64_id (by omega) (by omega), show (k : Int) + 1 = ((k + 1 : Nat) : Int) by omega, k1]
   congr 1; omega
  ·rw [show s + 5 * ((d + 1 : Nat) : Int) = s + 5 + 5 * (d : Int) by omega, show E + 5 * ((d + 1 : Nat) : Int) = E + 5 + 5 * (d : Int) by omega]
   exact k2
theorem calm {n : Nat} (hn : 1 ≤ n ∧ n ≤ 5) {s E : Int} {M : List TRaft} {R : Nat → TRaft} (f : Nat) (h : Rdy n s E M R) (hs : s ≤ 1000) (h0 : 0 ≤ E) (hE : E ≤ 36) :
  ∃ R' M', diwanlaw11_RaftCalm.lp17 4000 (-1) (f + 29) 1 (TGroup.mk M []) = diwanlaw11_RaftCalm.lp17 4000 (-1) f 30 (TGroup.mk M' []) ∧ Rdy n (s + 145) (E + 145) M' R' ∧ Q4 n n R' := by
 have pos : ∀ {R : Nat → TRaft}, (∃ s G, CI n s R G []) → ∀ j, j < n → 0 ≤ (R j).Clock := fun ⟨_, _, C⟩ j hj => (C.inv.r j hj).may.clock
 obtain ⟨R1, M1, a1, a2, a3⟩ := phase hn.2 (P := fun c R => if c = 0 then True else Stb n 0 R ∨ NoL n R) 1 (fun c hc R _ _ => ⟨Q1 n, Q1.step, .inr (fun j _ hj => by omega), fun R' _ h => by
  rw [if_neg (by omega)]
  rcases h with h | h
  ·exact .inl h.wrap
  ·exact .inr fun j hj => h j hj hj⟩) 1 0 1 (f + 28) s E M R (by omega) (by omega) h (by omega) h0 (by omega) (by rw [if_pos rfl]; trivial)
 rw [if_neg (by omega)] at a3
 have hci1 : ∃ s G, CI n s R1 G [] := by
  obtain ⟨G, _, g, _⟩ := a2
  exact ⟨_, G, g⟩
 have q2 : Q2 n 0 0 R1 := by
  rcases a3 with h | h
  ·exact .inl h
  ·right; right
   have mx : ∀ m, 0 < m → ∃ ms, ms < m ∧ ∀ j, j < m → (R1 j).Term ≤ (R1 ms).Term := by
    intro m
    induction m with
    | zero => intro h; omega
    | succ m ih =>
     intro _
     rcases Nat.eq_zero_or_pos m with e | e
     ·subst e; exact ⟨0, by omega, fun j hj => by rw [show j = 0 by omega]; exact Int.le_refl _⟩
     ·obtain ⟨b, h1, h2⟩ := ih e
      rcases Int.lt_or_le (R1 b).Term (R1 m).Term with g | g
      ·exact ⟨m, by omega, fun j hj => by
        by_cases e : j = m
        ·subst e; exact Int.le_refl _
        ·have := h2 j (by omega); omega⟩
      ·exact ⟨b, by omega, fun j hj => by
        by_cases e : j = m
        ·subst e; exact g
        ·exact h2 j (by omega)⟩
   obtain ⟨ms, m1, m2⟩ := mx n (by omega)
   exact ⟨ms, m1, h, m2, by rw [if_neg (by omega)]; exact pos hci1 ms m1, fun g => by omega⟩
 obtain ⟨R2, M2, b1, b2, b3⟩ := phase hn.2 (P := fun c R => Stb n 0 R ∨ Evn n R ∨ ∃ ms, ms < n ∧ NoL n R ∧ (∀ j, j < n → (R j).Term ≤ (R ms).Term) ∧ (c : Int) ≤ (R ms).Clock ∧ (0 < c → (R ms).Clock < 8)) 8 (fun c hc R hp _ => ⟨Q2 n (c : Int), Q2.step, by
  rcases hp with h | h | ⟨ms, m1, m2, m3, m4, m5⟩
  ·exact .inl h
  ·exact .inr (.inl h)
  ·exact .inr (.inr ⟨ms, m1, m2, m3, by rw [if_neg (by omega)]; omega, fun g => by omega⟩), fun R' _ h => by
  rcases h with h | h | ⟨ms, m1, m2, m3, m4, m5⟩
  ·exact .inl h.wrap
  ·exact .inr (.inl h)
  ·exact .inr (.inr ⟨ms, m1, m2, m3, by rw [if_pos m1] at m4; omega, fun _ => m5 m1⟩)⟩) 8 0 2 (f + 20) (s + 5) (E + 5) M1 R1 (by omega) (by omega) (by simpa using a2) (by omega) (by omega) (by omega) (by
  rcases q2 with h | h | ⟨ms, m1, m2, m3, m4, m5⟩
  ·exact .inl h
  ·exact .inr (.inl h)
  ·exact .inr (.inr ⟨ms, m1, m2, m3, pos hci1 ms m1, fun g => by omega⟩))
 have b4 : Stb n 0 R2 ∨ Evn n R2 := by
  rcases b3 with h | h | ⟨ms, m1, m2, m3, m4, m5⟩
  ·exact .inl h
  ·exact .inr h
  ·have := m5 (by omega); omega
 have hci2 : ∃ s G, CI n s R2 G [] := by
  obtain ⟨G, _, g, _⟩ := b2
  exact ⟨_, G, g⟩
 obtain ⟨R3, M3, c1, c2, c3⟩ := phase hn.2 (P := fun c R => Stb n 0 R ∨ ∃ b, b < n ∧ Evn n R ∧ (∀ j, j < n → Up (R b).Log (R j).Log) ∧ (c : Int) ≤ (R b).Clock ∧ (0 < c → (R b).Clock < 8)) 8 (fun c hc R hp _ => ⟨Q3 n (c : Int), Q3.step, by
  rcases hp with h | ⟨b, m1, m2, m3, m4, m5⟩
  ·exact .inl h
  ·exact .inr ⟨b, m1, m2, m3, by rw [if_neg (by omega)]; omega, fun g => by omega⟩, fun R' _ h => by
  rcases h with h | ⟨b, m1, m2, m3, m4, m5⟩
  ·exact .inl h.wrap
  ·exact .inr ⟨b, m1, m2, m3, by rw [if_pos m1] at m4; omega, fun _ => m5 m1⟩⟩) 8 0 10 (f + 12) (s + 5 + 5 * (8 : Nat)) (E + 5 + 5 * (8 : Nat)) M2 R2 (by omega) (by omega) b2 (by omega) (by omega) (by omega) (by
  rcases b4 with h | h
  ·exact .inl h
  ·obtain ⟨b, m1, m2⟩ := best_ex (fun j => (R2 j).Log) n (by omega)
   exact .inr ⟨b, m1, h, m2, pos hci2 b m1, fun g => by omega⟩)
 have c4 : Stb n 0 R3 := by
  rcases c3 with h | ⟨b, m1, m2, m3, m4, m5⟩
  ·exact h
  ·have := m5 (by omega); omega
 obtain ⟨R4, M4, d1, d2, d3⟩ := phase hn.2 (P := fun c R => Q4 n 0 R ∧ (0 < c → Q4 n n R)) 12 (fun c hc R hp _ => ⟨Q4 n, Q4.step, hp.1, fun R' _ h => ⟨h.wrap, fun _ => h⟩⟩) 12 0 18 f (s + 5 + 5 * (8 : Nat) + 5 * (8 : Nat)) (E + 5 + 5 * (8 : Nat) + 5 * (8 : Nat)) M3 R3 (by omega) (by omega) c2 (by omega) (by omega) (by omega) (by
  obtain ⟨l, h1, h2⟩ := c4
  exact ⟨⟨l, h1, h2, fun g => by omega⟩, fun g => by omega⟩)
 refine ⟨R4, M4, ?_, ?_, d3.2 (by omega)⟩
 ·have e1 : f + 29 = f + 28 + 1 := rfl
  have e2 : f + 28 = f + 20 + 8 := rfl
  have e3 : f + 20 = f + 12 + 8 := rfl
  rw [e1]
  refine (show _ = _ from a1).trans ?_
  rw [e2]
  refine (show _ = _ from b1).trans ?_
  rw [e3]
  exact (show _ = _ from c1).trans d1
 ·obtain ⟨G, g1, g2, g3⟩ := d2
  exact ⟨G, g1, g2.weak (by omega), fun j hj => by have := g3 j hj; omega⟩
end Go.Proofs.Ythpokjkbcdfhiaa.Told.RA
