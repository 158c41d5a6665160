/- The plain law of RaftMatch: in any run logs that have one term at one place are the same up to there, and who leads has what was committed. -/
import Derived.Test.YthpokjkbcdfhiaaTRs6
import Derived.Test.YthpokjkbcdfhiaaTRfm
import Derived.Test.YthpokjkbcdfhiaaTRfe
namespace Go.Proofs.Ythpokjkbcdfhiaa.Told.PureRaftMatch
open Go Go.Proofs.Ythpokjkbcdfhiaa.Vam Go.Proofs.Ythpokjkbcdfhiaa.Told Go.Proofs.Ythpokjkbcdfhiaa.Told.PK Go.Proofs.Ythpokjkbcdfhiaa.Told.RA
set_option linter.unusedSimpArgs false
set_option linter.unusedVariables false
theorem begun_e : diwanlaw11_begun 600 = some true := by kernel_rfl
theorem cnt_le : ∀ (n : Nat) (p : Nat → Bool) (i : Nat), (∀ v, v < n → p v = true → v = i) → cnt n p ≤ 1
 | 0, _, _, _ => by simp [cnt]
 | n + 1, p, i, h => by
  have ih := cnt_le n p i fun v hv => h v (by omega)
  unfold cnt at ih ⊢
  rw [List.range_succ, List.countP_append]
  cases hp : p n
  ·simp [hp]; exact ih
  ·have hni := h n (by omega) hp
   have : (List.range n).countP p = 0 := List.countP_eq_zero.2 fun v hv hpv => by
    have := List.mem_range.1 hv
    have := h v (by omega) hpv
    omega
   simp [hp, this]
def Top (G : Gh) (top : Int) : Prop := ∀ t x, G.L t = some x → t ≤ top
theorem dec_top {n i : Nat} {s top hi : Int} {g g' : TGroup} {R : Nat → TRaft} {y : TRaft} {G G' : Gh} {l : List TEntry} (hn : 2 ≤ n) (h : GI n s g R G) (d : Did n i (s + 1) g g' R y G G') (ht : Top G top) (hd : Dec n G' hi l) : Dec n G' top l := by
 rcases hd with rfl | ⟨t, k, hc, hle, hp⟩
 ·exact .inl rfl
 ·refine .inr ⟨t, k, hc, ?_, hp⟩
  obtain ⟨x, h1, h2, h3, h4, h5⟩ := hc
  have h5' : 2 ≤ cnt n (fun v => decide (k ≤ G'.A t v)) := by omega
  have : ¬ ∀ v, v < n → (fun v => decide (k ≤ G'.A t v)) v = true → v = i := fun hall => by
   have := cnt_le n _ i hall
   omega
  obtain ⟨v, hv⟩ := Classical.not_forall.1 this
  obtain ⟨hvn, hv⟩ := Classical.not_imp.1 hv
  obtain ⟨hk, hvi⟩ := Classical.not_imp.1 hv
  have hk : k ≤ G'.A t v := of_decide_eq_true hk
  rw [d.lei.a t v hvi] at hk
  obtain ⟨_, _, z, hz, _⟩ := h.inv.w.a t v (by omega)
  exact ht t z hz
theorem done_lp {n : Nat} {s : Int} {g : TGroup} {R : Nat → TRaft} {G : Gh} (h : GI n s g R G) (top : Int) (o : TPicks) : ∀ (d i m : Nat) (done : List TEntry), i + d = n → d < m → (∃ hi, Dec n G hi done) →
  ∃ done', diwanlaw11_RaftMatch.lp17 600 top g o m done (i : Int) = some (.inl done') ∧ ∃ hi, Dec n G hi done'
 | 0, i, m, done, hid, hm, hd => by
  obtain ⟨m, rfl⟩ : ∃ k, m = k + 1 := ⟨m - 1, by omega⟩
  rw [diwanlaw11_RaftMatch.lp17, br_f (decide_eq_false (by rw [h.len]; omega))]
  exact ⟨_, rfl, hd⟩
 | d + 1, i, m, done, hid, hm, hd => by
  obtain ⟨m, rfl⟩ : ∃ k, m = k + 1 := ⟨m - 1, by omega⟩
  have hn := h.n1
  have hi : i < n := by omega
  have hx := h.get i hi
  have r := h.inv.r i hi
  have hl := r.bs.len
  have hc := r.may.commit
  have hmay := mayB_iff.2 r.may
  have wi : w64 ((i : Int) + 1) = ((i + 1 : Nat) : Int) := by rw [w64_id (by omega) (by omega)]; omega
  rw [diwanlaw11_RaftMatch.lp17, br_t (decide_eq_true (by rw [h.len]; omega)), ix_n hx, bd_s (rmay_e (by omega) (by omega)), hmay, br_f (by rfl), ix_n hx, wi]
  by_cases c : (R i).Commit > (done.length : Int)
  ·rw [br_t (decide_eq_true c), ix_n hx, ix_n hx, gd_t (decide_eq_true (by omega)), gd_t (decide_eq_true (by simp; omega))]
   exact done_lp h top o d (i + 1) m _ (by omega) (by omega) ⟨_, r.c1⟩
  ·rw [br_f (decide_eq_false c)]
   exact done_lp h top o d (i + 1) m _ (by omega) (by omega) hd
theorem same_lp {n : Nat} {G : Gh} {a b : TRaft} {i j : Nat} (ha : RI n G i a) (hb : RI n G j b) (done : List TEntry) (top ii jj : Int) (g : TGroup) (o : TPicks) : ∀ (k m : Nat), k ≤ a.Log.length → k ≤ b.Log.length → k < m → diwanlaw11_RaftMatch.lp40 600 done top ii jj a b g o m (k : Int) = some (.inl ())
 | 0, m, h1, h2, hm => by
  obtain ⟨m, rfl⟩ : ∃ k, m = k + 1 := ⟨m - 1, by omega⟩
  rw [diwanlaw11_RaftMatch.lp40, br_f (decide_eq_false (by omega))]
 | k + 1, m, h1, h2, hm => by
  obtain ⟨m, rfl⟩ : ∃ k, m = k + 1 := ⟨m - 1, by omega⟩
  have hl := ha.bs.len
  have wk : w64 (((k + 1 : Nat) : Int) - 1) = (k : Int) := by rw [w64_id (by omega) (by omega)]; omega
  have xa : a.Log[k]? = some a.Log[k] := List.getElem?_eq_getElem (by omega)
  have xb : b.Log[k]? = some b.Log[k] := List.getElem?_eq_getElem (by omega)
  generalize a.Log[k] = e at xa
  generalize b.Log[k] = f at xb
  rw [diwanlaw11_RaftMatch.lp40, br_t (decide_eq_true (by omega)), wk, ix_n xa, ix_n xb]
  by_cases c : e.Term = f.Term
  ·have hs := ha.log.same hb.log xa xb c
   rw [br_t (beq_iff_eq.2 c), gd_t (decide_eq_true (by omega)), gd_t (decide_eq_true (by omega)), Int.toNat_natCast, hs, bd_s (rsL_e (N := 200) (a := List.take (k + 1) b.Log) (b := List.take (k + 1) b.Log) ⟨by have := hb.bs.len; simp; omega, fun e he => by
     have := hb.smt e (List.mem_of_mem_take he); unfold Smt at this; omega⟩ (by decide) (by decide)), (eqL_iff enB_iff).2 rfl, br_f (by rfl)]
  ·rw [br_f (beq_eq_false_iff_ne.2 c)]
   exact same_lp ha hb done top ii jj g o k m (by omega) (by omega) (by omega)
theorem pairs_lp {n : Nat} {s : Int} {g : TGroup} {R : Nat → TRaft} {G : Gh} (h : GI n s g R G) {i : Nat} (hi : i < n) (done : List TEntry) (top : Int) (o : TPicks) : ∀ (d k m : Nat), k + d = i → d < m → diwanlaw11_RaftMatch.lp35 600 done top (i : Int) (R i) g o m (k : Int) = some (.inl ())
 | 0, k, m, hk, hm => by
  obtain ⟨m, rfl⟩ : ∃ k, m = k + 1 := ⟨m - 1, by omega⟩
  rw [diwanlaw11_RaftMatch.lp35, br_f (decide_eq_false (by omega))]
 | d + 1, k, m, hk, hm => by
  obtain ⟨m, rfl⟩ : ∃ k, m = k + 1 := ⟨m - 1, by omega⟩
  have hn := h.n1
  have hx := h.get k (by omega)
  have ra := h.inv.r i hi
  have rb := h.inv.r k (by omega)
  have la := ra.bs.len
  have lb := rb.bs.len
  have wk : w64 ((k : Int) + 1) = ((k + 1 : Nat) : Int) := by rw [w64_id (by omega) (by omega)]; omega
  obtain ⟨q, hq⟩ : ∃ q : Nat, (if ((R k).Log.length : Int) < ((R i).Log.length : Int) then ((R k).Log.length : Int) else ((R i).Log.length : Int)) = (q : Int) := ⟨min (R k).Log.length (R i).Log.length, by split <;> omega⟩
  have hq1 : q ≤ (R i).Log.length ∧ q ≤ (R k).Log.length := by split at hq <;> omega
  rw [diwanlaw11_RaftMatch.lp35, br_t (decide_eq_true (by omega)), ix_n hx, hq, bd_s (same_lp ra rb done top _ _ g o q 600 hq1.1 hq1.2 (by omega)), wk]
  exact pairs_lp h hi done top o d (k + 1) m (by omega) (by omega)
theorem lead_lp {n : Nat} {s : Int} {g : TGroup} {R : Nat → TRaft} {G : Gh} (h : GI n s g R G) (o : TPicks) {done : List TEntry} {top0 : Int} (hd : Dec n G top0 done) : ∀ (d i m : Nat) (top : Int), i + d = n → d < m → top0 ≤ top →
  ∃ top', diwanlaw11_RaftMatch.lp30 600 done g o m top (i : Int) = some (.inl top') ∧ top ≤ top' ∧ ∀ j, i ≤ j → j < n → (R j).Role = 2 → (R j).Term ≤ top'
 | 0, i, m, top, hid, hm, ht => by
  obtain ⟨m, rfl⟩ : ∃ k, m = k + 1 := ⟨m - 1, by omega⟩
  rw [diwanlaw11_RaftMatch.lp30, br_f (decide_eq_false (by rw [h.len]; omega))]
  exact ⟨_, rfl, Int.le_refl _, fun j h1 h2 => by omega⟩
 | d + 1, i, m, top, hid, hm, ht => by
  obtain ⟨m, rfl⟩ : ∃ k, m = k + 1 := ⟨m - 1, by omega⟩
  have hn := h.n1
  have hi : i < n := by omega
  have hx := h.get i hi
  have r := h.inv.r i hi
  have hl := r.bs.len
  have wi : w64 ((i : Int) + 1) = ((i + 1 : Nat) : Int) := by rw [w64_id (by omega) (by omega)]; omega
  have hp := pairs_lp h hi done top o i 0 600 (by omega) (by omega)
  rw [Int.natCast_zero] at hp
  rw [diwanlaw11_RaftMatch.lp30, br_t (decide_eq_true (by rw [h.len]; omega)), ix_n hx, bd_s hp, wi]
  dsimp only
  have ih := fun top2 (h2 : top0 ≤ top2) => lead_lp h o hd d (i + 1) m top2 (by omega) (by omega) h2
  have skip : (¬ ((R i).Role = 2 ∧ top < (R i).Term)) → ∃ top', diwanlaw11_RaftMatch.lp30 600 done g o m top ((i + 1 : Nat) : Int) = some (.inl top') ∧ top ≤ top' ∧ ∀ j, i ≤ j → j < n → (R j).Role = 2 → (R j).Term ≤ top' := fun hno => by
   obtain ⟨top', e1, e2, e3⟩ := ih top ht
   refine ⟨top', e1, e2, fun j h1 h2 h3 => ?_⟩
   rcases Nat.lt_or_eq_of_le h1 with g | g
   ·exact e3 j g h2 h3
   ·subst g
    have : ¬ top < (R i).Term := fun g => hno ⟨h3, g⟩
    omega
  by_cases c1 : (R i).Role = 2
  ·rw [br_t (beq_iff_eq.2 c1)]
   by_cases c2 : (R i).Term ≥ top
   ·obtain ⟨x, l1, l2, l3⟩ := r.l2 c1
    have pre : done <+: (R i).Log := by
     rw [← l3]; exact h.inv.w.dec_ll hd l1 (by omega)
    have hpl := pre.length_le
    have tk : List.take done.length (R i).Log = done := (List.prefix_iff_eq_take.1 pre).symm
    rw [br_t (decide_eq_true c2), br_f (decide_eq_false (by omega)), gd_t (decide_eq_true (by omega)), Int.toNat_natCast, tk, bd_s (rsL_e (N := 200) (a := done) (b := done) ⟨by omega, fun e he => by
     have := r.smt e (pre.subset he); unfold Smt at this; omega⟩ (by decide) (by decide)), (eqL_iff enB_iff).2 rfl, br_f (by rfl)]
    obtain ⟨top', e1, e2, e3⟩ := ih (R i).Term (by omega)
    refine ⟨top', e1, by omega, fun j h1 h2 h3 => ?_⟩
    rcases Nat.lt_or_eq_of_le h1 with g | g
    ·exact e3 j g h2 h3
    ·subst g; exact e2
   ·rw [br_f (decide_eq_false c2)]
    exact skip (fun g => by omega)
  ·rw [br_f (beq_eq_false_iff_ne.2 c1)]
   exact skip (fun g => c1 g.1)
theorem run_lp {n : Nat} (hn : 2 ≤ n) : ∀ (d m : Nat) (s : Int) (g : TGroup) (R : Nat → TRaft) (G : Gh) (o : TPicks) (done : List TEntry) (top : Int), GI n s g R G → 0 ≤ s → s + d ≤ 1000 → PInv o → ((o.l.length : Int) - o.n).toNat ≤ d → d < m → Top G top → (∃ hi, Dec n G hi done) →
  diwanlaw11_RaftMatch.lp12 600 m done top g o = some (.inl ())
 | d, m, s, g, R, G, o, done, top, h, hs0, hs, ho, hd, hm, ht, hdn => by
  obtain ⟨m, rfl⟩ : ∃ k, m = k + 1 := ⟨m - 1, by omega⟩
  rw [diwanlaw11_RaftMatch.lp12, bd_s (show diwanplay_Picks_Over o = some (decide (o.n ≥ (o.l.length : Int))) from rfl)]
  by_cases c : o.n ≥ (o.l.length : Int)
  ·rw [decide_eq_true c, br_f (by rfl)]
  ·rw [decide_eq_false c, br_t (by rfl)]
   obtain ⟨g', o', i, y, G', e1, a1, s1, dd⟩ := run_e h ⟨hs0, by omega⟩ ho
   have := s1 (by omega)
   obtain ⟨d, rfl⟩ : ∃ k, d = k + 1 := ⟨d - 1, by omega⟩
   rw [bd_s e1]
   dsimp only
   obtain ⟨hi, hd1⟩ := hdn
   have hn1 := h.n1
   obtain ⟨done', e2, hi2, h2⟩ := done_lp dd.gi top o' n 0 600 done (by omega) (by omega) ⟨hi, hd1.mono dd.le (Int.le_refl _)⟩
   rw [Int.natCast_zero] at e2
   rw [bd_s e2]
   dsimp only
   have h3 := dec_top hn h dd ht h2
   obtain ⟨top', e3, t1, t2⟩ := lead_lp dd.gi o' h3 n 0 600 top (by omega) (by omega) (Int.le_refl _)
   rw [Int.natCast_zero] at e3
   rw [bd_s e3]
   dsimp only
   refine run_lp hn d m (s + 1) g' _ G' o' done' top' dd.gi (by omega) (by omega) a1.1 (by rw [a1.2.1]; omega) (by omega) (fun t x e => ?_) ⟨_, h2⟩
   rcases dd.lead t x e with ⟨z, hz⟩ | ⟨q1, q2⟩
   ·exact Int.le_trans (ht t z hz) t1
   ·have := t2 i (Nat.zero_le _) dd.hi (by rw [upd_i]; exact q1)
    rw [upd_i] at this
    omega
theorem holds (picks : List Int) (n_v : Int) (k0 : okL (okI .u8) picks) (k1 : okI .u8 n_v) : ∃ fu, diwanlaw11_RaftMatch fu picks n_v = some true := by
 refine ⟨600, ?_⟩
 unfold diwanlaw11_RaftMatch
 rw [bd_s begun_e, br_f (by rfl)]
 by_cases h1 : (picks.length : Int) > 400
 ·rw [br_t (decide_eq_true h1)]
 rw [br_f (decide_eq_false h1)]
 have hb := okI_u8 k1
 have b0 : 0 ≤ Int.tmod n_v 4 ∧ Int.tmod n_v 4 < 4 := by
  rw [Int.tmod_eq_emod_of_nonneg hb.1]
  exact ⟨Int.emod_nonneg _ (by decide), Int.emod_lt_of_pos _ (by decide)⟩
 obtain ⟨n, hn⟩ : ∃ n : Nat, 2 + Int.tmod n_v 4 = (n : Int) := ⟨(2 + Int.tmod n_v 4).toNat, by omega⟩
 rw [w64_id (n := Int.tmod n_v 4) (by omega) (by omega), w64_id (n := 2 + Int.tmod n_v 4) (by omega) (by omega), hn]
 obtain ⟨g, e1, hg⟩ := group_e (fu := 600) (n := n) (by omega) (by decide)
 rw [bd_s e1]
 unfold diwanplay_Made
 rw [bd_s rfl]
 have := run_lp (n := n) (by omega) 400 600 0 g _ _ (TPicks.mk picks 0) [] 0 hg (by decide) (by decide) (made_inv (l := picks) (fun x hx => k0.2 x hx) (by omega)) (by show ((picks.length : Int) - 0).toNat ≤ 400; omega) (by decide) (fun t x e => by cases e) ⟨0, .inl rfl⟩
 rw [bd_s this]
end Go.Proofs.Ythpokjkbcdfhiaa.Told.PureRaftMatch
