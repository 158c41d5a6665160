/- The plain law of RaftCalm: behind any run, when all letters come, one leads soon, and all have its log. -/
import Derived.Test.YthpokjkbcdfhiaaTRc10
import Derived.Test.YthpokjkbcdfhiaaTRfm
import Derived.Test.YthpokjkbcdfhiaaTRfe
namespace Go.Proofs.Ythpokjkbcdfhiaa.Told.PureRaftCalm
open Go Go.Proofs.Ythpokjkbcdfhiaa.Vam Go.Proofs.Ythpokjkbcdfhiaa.Told Go.Proofs.Ythpokjkbcdfhiaa.Told.PK Go.Proofs.Ythpokjkbcdfhiaa.Told.RA
set_option linter.unusedSimpArgs false
set_option linter.unusedVariables false
theorem begun_e : diwanlaw11_begun 4000 = some true := by kernel_rfl
theorem wl_any {L : Int} {r : TRaft} {m : TMsg} (hl : (r.Log.length : Int) ≤ L) (hi : 0 ≤ m.Index) : wl L r m ≤ 2 + WW L := by
 by_cases k3 : m.Kind = 3
 ·exact (wl_app k3 hl hi).2
 have := c4_pos L
 have := c4_mono (show (r.Log.length : Int) - m.Index ≤ L by omega)
 unfold wl WW
 rw [if_neg k3]
 split
 ·split
  ·omega
  split <;> omega
 split <;> omega
theorem run_lp {n : Nat} : ∀ (d m : Nat) (s : Int) (g : TGroup) (R : Nat → TRaft) (G : Gh) (E q : Int) (o : TPicks), GI n s g R G → GX n E q g R → (o.n < (o.l.length : Int) → q ≤ o.n) → q ≤ (o.l.length : Int) + 5 → o.l.length ≤ 150 → 0 ≤ s → s + d ≤ 900 → PInv o → ((o.l.length : Int) - o.n).toNat ≤ d → d < m →
  ∃ g' s' R' G' E' q', diwanlaw11_RaftCalm.lp10 4000 m g o = some g' ∧ GI n s' g' R' G' ∧ GX n E' q' g' R' ∧ q' ≤ 155 ∧ 0 ≤ s' ∧ s' ≤ 900
 | d, m, s, g, R, G, E, q, o, h, x, hq, hq2, hl, hs0, hs, ho, hd, hm => by
  obtain ⟨m, rfl⟩ : ∃ k, m = k + 1 := ⟨m - 1, by omega⟩
  rw [diwanlaw11_RaftCalm.lp10, bd_s (show diwanplay_Picks_Over o = some (decide (o.n ≥ (o.l.length : Int))) from rfl)]
  by_cases c : o.n ≥ (o.l.length : Int)
  ·rw [decide_eq_true c, br_f (by rfl)]
   exact ⟨g, s, R, G, E, q, rfl, h, x, by omega, hs0, by omega⟩
  ·rw [decide_eq_false c, br_t (by rfl)]
   have hn := h.n1
   have hcr : 0 ≤ sm n (fun i => credit (R i)) := sm_pos n _ fun j hj => credit_pos (h.inv.r j hj).may.clock
   have hE := x.res
   have hqn := hq (by omega)
   obtain ⟨g', o', i, y, G', e1, a1, s1, dd, E', q', x', r1, r2⟩ := run_x h ⟨hs0, by omega⟩ ho (E := E) (by omega) ⟨x.xt, x.len, x.ends, by omega, x.ml⟩ (by omega)
   have := s1 (by omega)
   obtain ⟨d, rfl⟩ : ∃ k, d = k + 1 := ⟨d - 1, by omega⟩
   rw [bd_s e1]
   dsimp only
   exact run_lp d m (s + 1) g' _ G' E' q' o' dd.gi x' (by rw [a1.2.1]; exact r1) (by rw [a1.2.1]; exact r2) (by rw [a1.2.1]; exact hl) (by omega) (by omega) a1.1 (by rw [a1.2.1]; omega) (by omega)
theorem sm_zero : ∀ (n : Nat) (f : Nat → Int), (∀ j, f j = 0) → sm n f = 0
 | 0, _, _ => rfl
 | n + 1, f, h => by rw [sm_succ, sm_zero n f h, h]; rfl
theorem group_x {n : Nat} (hn : 1 ≤ n ∧ n ≤ 5) : ∃ g, diwanlaw11_group 4000 (n : Int) = some g ∧ GI n 0 g (newAt n) noG ∧ GX n 0 0 g (newAt n) := by
 obtain ⟨g, e1, hg⟩ := group_e (fu := 4000) hn (by decide)
 have hg2 : g = TGroup.mk ((List.range n).map (newAt n)) [] := by
  have := group_lp 4000 n (by omega) n 0 4000 (by omega) (by omega)
  simp only [Int.natCast_zero, Int.zero_add, List.range_zero, List.map_nil] at this
  unfold diwanlaw11_group at e1
  rw [bd_s this] at e1
  cases e1; rfl
 have no2 : ∀ {P : Prop}, (0 : Int) = 2 → P := fun e => by omega
 refine ⟨g, e1, hg, ⟨fun i hi => ⟨rfl, fun k => no2 k, fun _ k => no2 k⟩, fun i hi => Int.le_refl _, (fun m hm => by rw [hg2] at hm; cases hm), ?_, by rw [hg2]; exact Nat.zero_le _⟩⟩
 have hz := sm_zero n (fun i => credit (newAt n i)) (fun j => rfl)
 show 6 * (0 : Int) + sm n (fun i => credit (newAt n i)) ≤ 0
 omega
theorem micro0 {n : Nat} {s E q : Int} {g : TGroup} {R : Nat → TRaft} {G : Gh} (h : GI n s g R G) (x : GX n E q g R) (h0 : 0 ≤ E) (hE : E ≤ 25) (hs : 0 ≤ s ∧ s ≤ 900) (a b : Int) (f : Nat) :
  ∃ R' M', diwanlaw11_RaftCalm.lp21 4000 a b (f + 1) 0 g = diwanlaw11_RaftCalm.lp21 4000 a b f 1 (TGroup.mk M' []) ∧ Rdy n (s + 1) 31 M' R' := by
 have hn := h.n1
 have hi : 0 < n := by omega
 have C : CI n s R G [] := ⟨h.n1, h.inv, (fun m hm => by cases hm), h.term, x.xt⟩
 have hT := h.term 0 hi
 have htt := tickF_term (R 0)
 have C1 : CI n (s + 1) R G [] := C.weak (by omega)
 obtain ⟨G2, C2⟩ := tick_ci C1 hi (by omega) (E := E) (by omega) x.len (by omega)
 obtain ⟨B, _, b3, _, b5⟩ := tick_bd C1 hi C2 (by omega) x.len
 obtain ⟨G', i1, i2, i3, i4, i5⟩ := tick_inv h.inv hi (by omega)
 -- all letters
 have hcs : cands (List.range n) (upd R 0 (tickF (R 0)).1) ≤ (n : Int) := by
  have := sum_bd (f := fun j => if (upd R 0 (tickF (R 0)).1 j).Role = 1 then (1 : Int) else 0) (c := 1) (List.range n) (fun j _ => by split <;> omega)
  rw [List.length_range] at this
  unfold cands; omega
 have hcp := cands_pos [0] (upd R 0 (tickF (R 0)).1)
 have hlen : ∀ i, i < n → (((upd R 0 (tickF (R 0)).1 i).Log.length : Nat) : Int) + cands (List.range n) (upd R 0 (tickF (R 0)).1) ≤ 31 := fun i hi' => by
  have h1 := B.len i hi'
  by_cases c1 : n = 1
  ·omega
  ·by_cases e : i = 0
   ·subst e; rw [upd_i]; have := b5 c1; omega
   ·rw [upd_ne _ _ e]; have := x.len i hi'; omega
 have hcr := cands_pos (List.range n) (upd R 0 (tickF (R 0)).1)
 have C3 : CI n (s + 1) (upd R 0 (tickF (R 0)).1) G' (g.Mail ++ (tickF (R 0)).2) := ⟨h.n1, i1, fun m hm => (List.mem_append.1 hm).elim (fun k => (h.mail m k).mono i2) (i5 m), C2.term, C2.xt⟩
 have hown : ∀ m ∈ g.Mail ++ (tickF (R 0)).2, own m < n := fun m hm => by
  have := (C3.mail m hm).frm
  have := (C3.mail m hm).to
  unfold own; split <;> omega
 have B3 : Bd n (List.range n) 31 (upd R 0 (tickF (R 0)).1) (g.Mail ++ (tickF (R 0)).2) := ⟨fun j hj => List.mem_range.1 hj, fun m hm => List.mem_range.2 (hown m hm), hlen, fun m hm k => by
  rcases List.mem_append.1 hm with e | e
  ·have := x.ends m e k; omega
  ·have := B.ends m e k; omega, by decide⟩
 have hphi : Phi (List.range n) 31 (upd R 0 (tickF (R 0)).1) (g.Mail ++ (tickF (R 0)).2) ≤ (3000 : Nat) := by
  have h1 := sum_bd (f := fun m => wl 31 (upd R 0 (tickF (R 0)).1 (own m)) m) (c := 2 + WW 31) (g.Mail ++ (tickF (R 0)).2) (fun m hm => wl_any (by have := hlen _ (hown m hm); omega) (C3.mail m hm).index)
  have h2 := sum_bd (f := fun j => pot 31 (upd R 0 (tickF (R 0)).1 j)) (c := 4 * (2 + WW 31) + 8 * 31) (List.range n) (fun j hj => by
   have hj := List.mem_range.1 hj
   exact pot_any (C3.inv.r j hj).bs (C3.xt j hj) (by have := hlen j hj; omega))
  have hW : WW 31 = 18 := by decide
  rw [hW] at h1 h2
  rw [List.length_range] at h2
  have hml := x.ml
  have h3 : (((g.Mail ++ (tickF (R 0)).2).length : Nat) : Int) ≤ 68 := by rw [List.length_append]; omega
  unfold Phi
  omega
 have r := h.inv.r 0 hi
 have hx := h.get 0 hi
 obtain ⟨R', G3, M', e1, e2, e3, e4, _⟩ := RA.drain (n := n) (s := s + 1) (L := 31) (A := List.range n) (by omega) (by decide) (fun _ _ _ => True) (fun _ _ _ _ _ _ _ _ _ _ => trivial) a b 0 3000 0 4000 _ G' (g.M.set 0 (tickF (R 0)).1) _ (GM.set ⟨h.len, h.get⟩ hi) C3 B3 trivial hphi (by omega) (by omega)
 refine ⟨R', M', ?_, G3, e2, e3, fun j hj => by have := e4.len j hj; have := cands_pos (List.range n) R'; omega⟩
 have hml := x.ml
 rw [diwanlaw11_RaftCalm.lp21, br_t (decide_eq_true (by rw [h.len]; omega)), ix_s (by decide) hx, bd_s (x := ((tickF (R 0)).1, (tickF (R 0)).2)) (tick_e r.bs (by omega) (by decide))]
 dsimp only
 rw [ix_s (by decide) hx, gd_t (decide_eq_true (by omega)), show (0 : Int).toNat = 0 from rfl, bd_s (show diwanlaw11_RaftCalm.lp28 4000 a b 0 4000 0 _ = _ from e1)]
 dsimp only
 rw [br_f (by rfl)]; rfl
theorem lead_lp {n l : Nat} {M : List TRaft} {R : Nat → TRaft} (hg : GM n M R) (hn : n ≤ 5) (h : St n l R) : ∀ (d i m : Nat) (v : Int), i + d = n → d < m → (v = if l < i then (l : Int) else -1) → diwanlaw11_RaftCalm.lp49 4000 (TGroup.mk M []) m v (i : Int) = some (.inl (l : Int))
 | 0, i, m, v, hi, hm, hv => by
  obtain ⟨m, rfl⟩ : ∃ k, m = k + 1 := ⟨m - 1, by omega⟩
  have := h.l1
  rw [if_pos (by omega)] at hv
  rw [diwanlaw11_RaftCalm.lp49, br_f (decide_eq_false (by have := hg.1; show ¬ (i : Int) < (M.length : Int); omega)), hv]
 | d + 1, i, m, v, hi, hm, hv => by
  obtain ⟨m, rfl⟩ : ∃ k, m = k + 1 := ⟨m - 1, by omega⟩
  have hx := hg.2 i (by omega)
  have hw : w64 ((i : Int) + 1) = ((i + 1 : Nat) : Int) := by rw [w64_id (by omega) (by omega)]; omega
  rw [diwanlaw11_RaftCalm.lp49, br_t (decide_eq_true (by have := hg.1; show (i : Int) < (M.length : Int); omega)), ix_n hx, hw]
  by_cases e : i = l
  ·subst e
   rw [if_neg (by omega)] at hv
   subst hv
   rw [br_t (beq_iff_eq.2 h.role), br_f (by rfl)]
   exact lead_lp hg hn h d (i + 1) m _ (by omega) (by omega) (by rw [if_pos (by omega)])
  ·have := (h.oth i (by omega) e).2.1
   rw [br_f (beq_eq_false_iff_ne.2 (by omega))]
   refine lead_lp hg hn h d (i + 1) m _ (by omega) (by omega) ?_
   rw [hv]
   by_cases c : l < i
   ·rw [if_pos c, if_pos (by omega)]
   ·rw [if_neg c, if_neg (by omega)]
theorem same_lp {n l : Nat} {s : Int} {M : List TRaft} {R : Nat → TRaft} {G : Gh} (hg : GM n M R) (C : CI n s R G []) (h : St n l R) (hc : Cms n l R) : ∀ (d i m : Nat), i + d = n → d < m → diwanlaw11_RaftCalm.lp69 4000 (l : Int) (TGroup.mk M []) m (i : Int) = some (.inl ())
 | 0, i, m, hi, hm => by
  obtain ⟨m, rfl⟩ : ∃ k, m = k + 1 := ⟨m - 1, by omega⟩
  rw [diwanlaw11_RaftCalm.lp69, br_f (decide_eq_false (by have := hg.1; show ¬ (i : Int) < (M.length : Int); omega))]
 | d + 1, i, m, hi, hm => by
  obtain ⟨m, rfl⟩ : ∃ k, m = k + 1 := ⟨m - 1, by omega⟩
  have hn := C.n1
  have hi' : i < n := by omega
  have hx := hg.2 i hi'
  have hl := hg.2 l h.l1
  have r := C.inv.r l h.l1
  have hl1 := h.l1
  have hw : w64 ((i : Int) + 1) = ((i + 1 : Nat) : Int) := by rw [w64_id (by omega) (by omega)]; omega
  have hwl : w64 ((l : Int) + 1) = (l : Int) + 1 := w64_id (by omega) (by omega)
  have key : (R i).Leader = (l : Int) + 1 ∧ (R i).Log = (R l).Log := by
   by_cases e : i = l
   ·subst e
    exact ⟨((C.xt i hi').last h.role).2.2.1.trans r.me, rfl⟩
   ·exact (h.oth i hi' e).2.2
  have hlen := r.bs.len
  rw [diwanlaw11_RaftCalm.lp69, br_t (decide_eq_true (by have := hg.1; show (i : Int) < (M.length : Int); omega)), ix_n hx, hwl, br_f (by rw [key.1]; simp), ix_n hx, ix_n hl, key.2,
   bd_s (rsL_e (N := 200) (a := (R l).Log) (b := (R l).Log) ⟨by omega, fun e he => by have := r.smt e he; unfold Smt at this; omega⟩ (by decide) (by decide)), (eqL_iff enB_iff).2 rfl, br_f (by rfl), ix_n hx, ix_n hl, br_f (by rw [hc i hi', hc l h.l1]; simp), hw]
  exact same_lp hg C h hc d (i + 1) m (by omega) (by omega)
theorem holds (picks : List Int) (n_v : Int) (k0 : okL (okI .u8) picks) (k1 : okI .u8 n_v) : ∃ fu, diwanlaw11_RaftCalm fu picks n_v = some true := by
 refine ⟨4000, ?_⟩
 unfold diwanlaw11_RaftCalm
 rw [bd_s begun_e, br_f (by rfl)]
 by_cases h1 : (picks.length : Int) > 150
 ·rw [br_t (decide_eq_true h1)]
 rw [br_f (decide_eq_false h1)]
 have hb := okI_u8 k1
 have b0 : 0 ≤ Int.tmod n_v 5 ∧ Int.tmod n_v 5 < 5 := by
  rw [Int.tmod_eq_emod_of_nonneg hb.1]
  exact ⟨Int.emod_nonneg _ (by decide), Int.emod_lt_of_pos _ (by decide)⟩
 obtain ⟨n, hn⟩ : ∃ n : Nat, 1 + Int.tmod n_v 5 = (n : Int) := ⟨(1 + Int.tmod n_v 5).toNat, by omega⟩
 rw [w64_id (n := Int.tmod n_v 5) (by omega) (by omega), w64_id (n := 1 + Int.tmod n_v 5) (by omega) (by omega), hn]
 have hn5 : 1 ≤ n ∧ n ≤ 5 := by omega
 obtain ⟨g, e1, hg, gx⟩ := group_x hn5
 rw [bd_s e1]
 unfold diwanplay_Made
 rw [bd_s rfl]
 obtain ⟨g', s', R', G', E', q', e2, hg2, x2, hq, hs0, hs9⟩ := run_lp 150 4000 0 g _ _ 0 0 (TPicks.mk picks 0) hg gx (fun _ => Int.le_refl _) (by show (0 : Int) ≤ (picks.length : Int) + 5; omega) (by show picks.length ≤ 150; omega) (by decide) (by decide) (made_inv (l := picks) (fun x hx => k0.2 x hx) (by omega)) (by show ((picks.length : Int) - 0).toNat ≤ 150; omega) (by decide)
 rw [bd_s e2]
 have hE : E' ≤ 25 ∧ 0 ≤ E' := by
  have hcr : 0 ≤ sm n (fun i => credit (R' i)) := sm_pos n _ fun j hj => credit_pos (hg2.inv.r j hj).may.clock
  have := x2.res
  have := x2.len 0 (by omega)
  omega
 obtain ⟨R1, M1, m1, m2⟩ := micro0 hg2 x2 hE.2 hE.1 ⟨hs0, hs9⟩ (-1) 0 3999
 obtain ⟨R2, M2, m3, m4, _⟩ := round (n := n) (Q := fun _ _ => True) (fun p R G s hp hs C h200 _ => mstep_tick (s1 := s + 1) C hp hs h200 (Int.le_refl _) (fun j hj => by have := C.term j hj; omega) (fun _ => by have := C.term p hp; omega) fun _ _ _ _ => trivial) (-1) 0 (n - 1) 1 3999 (s' + 1) 31 M1 R1 (by omega) (by omega) m2 (by omega) (by decide) (by omega) trivial
 obtain ⟨R3, M3, q1, q2, l, q3, q4, q5⟩ := calm hn5 3970 m4 (by omega) (by omega) (by omega)
 have hcms := q5 q3.l1
 have first : diwanlaw11_RaftCalm.lp17 4000 (-1) 4000 0 g' = some (.inl (TGroup.mk M3 [])) := by
  rw [show (4000 : Nat) = (3970 + 29) + 1 from rfl, diwanlaw11_RaftCalm.lp17, br_t (by rfl)]
  rw [show (3970 + 29 + 1 : Nat) = 4000 from rfl, bd_s (show diwanlaw11_RaftCalm.lp21 4000 (-1) 0 4000 0 g' = some (.inl (TGroup.mk M2 [])) from m1.trans m3)]
  dsimp only
  rw [show w64 (0 + 1) = 1 from rfl]
  refine q1.trans ?_
  rw [show (3970 : Nat) = 3969 + 1 from rfl, diwanlaw11_RaftCalm.lp17, br_f (by rfl)]
 rw [bd_s first]
 dsimp only
 obtain ⟨G3, c1, c2, c3⟩ := q2
 have hl1 := q3.l1
 have hxl := c1.2 l hl1
 have r := c2.inv.r l hl1
 have hlen := r.bs.len
 have hmay := mayB_iff.2 r.may
 rw [bd_s (show diwanlaw11_RaftCalm.lp49 4000 (TGroup.mk M3 []) 4000 (-1) 0 = _ from lead_lp c1 hn5.2 q3 n 0 4000 (-1) (by omega) (by omega) (by rw [if_neg (by omega)]))]
 dsimp only
 rw [br_f (decide_eq_false (by omega)), ix_n hxl, bd_s (rmay_e (by omega) (by omega)), hmay, br_f (by rfl), ix_n hxl, ix_n hxl, br_f (by rw [q3.com]; simp),
  bd_s (show diwanlaw11_RaftCalm.lp69 4000 (l : Int) (TGroup.mk M3 []) 4000 0 = _ from same_lp c1 c2 q3 hcms n 0 4000 (by omega) (by omega))]
 dsimp only
 rw [bd_s (half_e (by omega) (by rw [c1.1]; omega)), decide_eq_true (by omega)]
end Go.Proofs.Ythpokjkbcdfhiaa.Told.PureRaftCalm
