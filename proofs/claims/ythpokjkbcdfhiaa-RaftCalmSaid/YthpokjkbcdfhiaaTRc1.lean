/- A run of a group: what it costs to put entries, how long logs are, what a leader's log ends with. -/
import Derived.Test.YthpokjkbcdfhiaaTRs6
namespace Go.Proofs.Ythpokjkbcdfhiaa.Told.RA
open Go Go.Proofs.Ythpokjkbcdfhiaa.Vam Go.Proofs.Ythpokjkbcdfhiaa.Told Go.Proofs.Ythpokjkbcdfhiaa.Told.HP Go.Proofs.Ythpokjkbcdfhiaa.Told.PK
set_option linter.unusedSimpArgs false
set_option linter.unusedVariables false
theorem getD_set {l : List Int} {i j : Nat} {a d : Int} (h : i < l.length) : (l.set i a).getD j d = if i = j then a else l.getD j d := by
 rw [List.getD_eq_getElem?_getD, List.getD_eq_getElem?_getD, List.getElem?_set]
 by_cases c : i = j
 ·subst c; rw [if_pos rfl, if_pos rfl, if_pos h]; rfl
 ·rw [if_neg c, if_neg c]
def credit (r : TRaft) : Int := 2 * min r.Clock 2 + (if r.Role = 1 then 4 else 0)
structure Xt (n i : Nat) (r : TRaft) : Prop where
 wait : r.Wait = waitOf i
 last : r.Role = 2 → lastT r.Log = r.Term ∧ 0 < r.Log.length ∧ r.Leader = r.Me ∧ r.Match.getD (r.Me - 1).toNat 0 = (r.Log.length : Int) ∧ (∀ a ∈ r.Next, a ≤ (r.Log.length : Int) + 1) ∧ ∀ a ∈ r.Match, a ≤ (r.Log.length : Int)
 one : n = 1 → r.Role = 2 → r.Commit = (r.Log.length : Int)
theorem wait_bd {i : Nat} (h : i < 5) : 3 ≤ waitOf i ∧ waitOf i ≤ 8 := by
 have : i = 0 ∨ i = 1 ∨ i = 2 ∨ i = 3 ∨ i = 4 := by omega
 rcases this with rfl | rfl | rfl | rfl | rfl <;> decide
structure Op (n i : Nat) (E c : Int) (r y : TRaft) (out : List TMsg) (E' : Int) : Prop where
 xt : Xt n i y
 len : (y.Log.length : Int) ≤ E'
 ends : ∀ m ∈ out, m.Kind = 3 → m.Index + (m.Entries.length : Int) ≤ E'
 le : E ≤ E'
 res : 6 * E' + credit y ≤ 6 * E + credit r + c
 few : out.length ≤ 5
theorem letterE_end (r : TRaft) (to : Int) : (letterE r to).Index + ((letterE r to).Entries.length : Int) ≤ (r.Log.length : Int) := by
 show ((atOf r to : Nat) : Int) + ((((r.Log.drop (atOf r to)).take 4).length : Nat) : Int) ≤ _
 have : atOf r to ≤ r.Log.length := by unfold atOf; omega
 rw [List.length_take, List.length_drop]; omega
theorem bc_end {r : TRaft} {E : Int} (h : (r.Log.length : Int) ≤ E) : ∀ m ∈ bc letterE r, m.Kind = 3 → m.Index + (m.Entries.length : Int) ≤ E := fun m hm _ => by
 unfold bc at hm
 obtain ⟨to, _, rfl⟩ := List.mem_map.1 hm
 have := letterE_end r to
 omega
theorem bc_ask {r : TRaft} {E : Int} : ∀ m ∈ bc askE r, m.Kind = 3 → m.Index + (m.Entries.length : Int) ≤ E := fun m hm k => by
 unfold bc at hm
 obtain ⟨to, _, rfl⟩ := List.mem_map.1 hm
 have : (1 : Int) = 3 := k
 omega
theorem bc_few {g : TRaft → Int → TMsg} {r : TRaft} (h : 1 ≤ r.Nodes ∧ r.Nodes ≤ 5) : (bc g r).length ≤ 5 := by
 have := bc_len (g := g) h.1
 omega
theorem lastT_snoc (l : List TEntry) (e : TEntry) : lastT (l ++ [e]) = e.Term := by unfold lastT; simp
theorem mostF_one (x : Int) (h : 0 ≤ x) : mostF [x] = x := by
 obtain ⟨_, h2⟩ := most_f (fu := 10) (l := [x]) (by simp) (fun y hy => by rw [List.mem_singleton.1 hy]; exact h) (by simp)
 rcases h2 with ⟨h3, _⟩ | ⟨h3, _⟩
 ·cases h3
 ·exact List.mem_singleton.1 h3
theorem len_one {l : List Int} (h : l.length = 1) : ∃ x, l = [x] := by
 cases l with
 | nil => cases h
 | cons a l => cases l with
  | nil => exact ⟨a, rfl⟩
  | cons b l => simp at h
theorem prop_one {r : TRaft} {e : TEntry} (hN : r.Nodes = 1) (hm : r.Me = 1) (hl : (r.Match.length : Int) = r.Nodes) (hc : r.Commit ≤ (r.Log.length : Int)) : (propR r e).Commit = ((propR r e).Log.length : Int) := by
 obtain ⟨x, hx⟩ := len_one (l := r.Match) (by omega)
 show nextC (r.Match.set (r.Me - 1).toNat ((r.Log ++ [putE r e]).length : Int)) (r.Log ++ [putE r e]) r.Term r.Commit = ((r.Log ++ [putE r e]).length : Int)
 rw [hx, hm, show ((1 : Int) - 1).toNat = 0 from rfl, List.set_cons_zero]
 unfold nextC
 rw [mostF_one _ (by omega)]
 have ht : termAt (r.Log ++ [putE r e]) ((r.Log ++ [putE r e]).length : Int) = r.Term := by
  rw [termAt_last, lastT_snoc]; rfl
 rw [if_pos ⟨by simp; omega, Int.le_refl _, ht⟩]
theorem leadR_log {r : TRaft} (h : r.Log.length < 200) : (leadR r).Log = r.Log ++ [putE (lead1 r) sealE] ∧ (leadR r).Role = 2 ∧ (leadR r).Clock = 0 ∧ (leadR r).Wait = r.Wait ∧ (leadR r).Term = r.Term ∧ (leadR r).Me = r.Me ∧ (leadR r).Nodes = r.Nodes := by
 unfold leadR
 rw [if_pos h]
 exact ⟨rfl, rfl, rfl, rfl, rfl, rfl, rfl⟩
theorem lead_op {n i : Nat} {E c : Int} {r0 r : TRaft} (hw : r.Wait = waitOf i) (hb : Bs r) (hm : MayP r) (hn : r.Nodes = (n : Int)) (hme : r.Me = (i : Int) + 1) (hi : i < n) (hl : (r.Log.length : Int) ≤ E) (hE : E < 200) (hc : 6 ≤ credit r0 + c) : Op n i E c r0 (leadR r) (bc letterE (leadR r)) (E + 1) := by
 obtain ⟨h1, h2, h3, h4, h5, h6, h7⟩ := leadR_log (r := r) (by omega)
 have hlen : ((leadR r).Log.length : Int) ≤ E + 1 := by rw [h1]; simp; omega
 have hld : (leadR r).Leader = (leadR r).Me ∧ (leadR r).Match.getD ((leadR r).Me - 1).toNat 0 = ((leadR r).Log.length : Int) ∧ (∀ a ∈ (leadR r).Next, a ≤ ((leadR r).Log.length : Int) + 1) ∧ ∀ a ∈ (leadR r).Match, a ≤ ((leadR r).Log.length : Int) := by
  have := hb.nodes
  unfold leadR
  rw [if_pos (by omega)]
  have hll : ((propR (lead1 r) sealE).Log.length : Int) = (r.Log.length : Int) + 1 := by show ((r.Log ++ _).length : Int) = _; simp
  refine ⟨rfl, ?_, fun a ha => ?_, fun a ha => ?_⟩
  rotate_left
  ·have ha' : a ∈ List.replicate r.Nodes.toNat ((r.Log.length : Int) + 1) := ha
   rw [List.eq_of_mem_replicate ha', hll]; omega
  ·have ha' : a ∈ ((List.replicate r.Nodes.toNat (0 : Int)).set (r.Me - 1).toNat (r.Log.length : Int)).set (r.Me - 1).toNat ((r.Log ++ [putE (lead1 r) sealE]).length : Int) := ha
   rw [hll]
   refine mem_set' (P := fun a => a ≤ (r.Log.length : Int) + 1) (mem_set' (fun x hx => ?_) (by omega)) (by simp) a ha'
   rw [List.eq_of_mem_replicate hx]; omega
  show (((List.replicate r.Nodes.toNat (0 : Int)).set (r.Me - 1).toNat (r.Log.length : Int)).set (r.Me - 1).toNat ((r.Log ++ [putE (lead1 r) sealE]).length : Int)).getD (r.Me - 1).toNat 0 = _
  rw [getD_set (by simp; omega), if_pos rfl]; rfl
 refine ⟨⟨by rw [h4]; exact hw, fun _ => ⟨by rw [h1, lastT_snoc, h5]; rfl, by rw [h1]; simp, hld⟩, fun h _ => ?_⟩, hlen, bc_end hlen, by omega, ?_, bc_few (by rw [h7]; exact hb.nodes)⟩
 ·have hN := hb.nodes
  unfold leadR
  rw [if_pos (by omega)]
  exact prop_one (r := lead1 r) (by show r.Nodes = 1; omega) (by show r.Me = 1; omega) (lead1_bs hb).lm hm.commit.2
 ·unfold credit
  rw [h2, h3, if_neg (by decide)]
  unfold credit at hc
  omega
theorem credit_pos {r : TRaft} (h : 0 ≤ r.Clock) : 0 ≤ credit r := by
 unfold credit; split <;> omega
theorem tick_op {n i : Nat} {E : Int} {G : Gh} {r : TRaft} (x : Xt n i r) (h : RI n G i r) (hi : i < n) (hn : n ≤ 5) (hl : (r.Log.length : Int) ≤ E) (hE : E < 200) (hT : r.Term < 1152921504606846976) : ∃ E', Op n i E 2 r (tickF r).1 (tickF r).2 E' := by
 have hc := h.may.clock
 have hmay := mayB_iff.2 h.may
 have hwt := wait_bd (i := i) (by omega)
 unfold tickF
 rw [if_pos hmay]
 unfold tickP
 by_cases c1 : r.Role = 2
 ·rw [if_pos c1]
  exact ⟨E, x, hl, bc_end hl, Int.le_refl _, by show 6 * E + credit r ≤ _; omega, bc_few h.may.nodes⟩
 rw [if_neg c1]
 by_cases c2 : r.Clock + 1 ≥ r.Wait
 ·rw [if_pos c2]
  have hcl : r.Clock ≥ 2 := by rw [x.wait] at c2; omega
  have hcr : 4 ≤ credit r := by unfold credit; split <;> omega
  unfold standP
  by_cases c3 : wonB (stand1 r) = true
  ·rw [if_pos c3]
   exact ⟨E + 1, lead_op (r := stand1 r) x.wait (stand1_bs h.bs hT) (stand1_may h.may) h.nodes h.me hi hl hE (by omega)⟩
  ·rw [if_neg c3]
   refine ⟨E, ⟨x.wait, fun k => ?_, fun _ k => ?_⟩, hl, bc_ask, Int.le_refl _, ?_, bc_few h.may.nodes⟩
   ·have : (1 : Int) = 2 := k; omega
   ·have : (1 : Int) = 2 := k; omega
   ·have : credit (stand1 r) = 4 := rfl
    show 6 * E + credit (stand1 r) ≤ _
    omega
 ·rw [if_neg c2]
  refine ⟨E, ⟨x.wait, x.last, x.one⟩, hl, (fun m hm => by cases hm), Int.le_refl _, ?_, by simp⟩
  show 6 * E + credit (clockR r) ≤ _
  unfold credit clockR
  dsimp only
  split <;> omega
theorem prop_op {n i : Nat} {E : Int} {G : Gh} {r : TRaft} {e : TEntry} (x : Xt n i r) (h : RI n G i r) (hi : i < n) (hl : (r.Log.length : Int) ≤ E) (hE : E < 200) : ∃ E', Op n i E 6 r (propF r e).1 (propF r e).2.1 E' := by
 unfold propF
 by_cases c : mayB r = true ∧ canP r
 ·rw [if_pos c]
  have hlen : ((propR r e).Log.length : Int) ≤ E + 1 := by show ((r.Log ++ [putE r e]).length : Int) ≤ _; simp; omega
  refine ⟨E + 1, ⟨x.wait, fun _ => ?_, fun hn1 _ => ?_⟩, hlen, bc_end hlen, by omega, ?_, bc_few h.may.nodes⟩
  ·have hno := h.nodes
   have hme := h.me
   have hlm := h.bs.lm
   refine ⟨by show lastT (r.Log ++ [putE r e]) = r.Term; rw [lastT_snoc]; rfl, by show 0 < (r.Log ++ [putE r e]).length; simp, (x.last c.2.1).2.2.1, ?_, ?_⟩
   rotate_left
   ·have hll : ((propR r e).Log.length : Int) = (r.Log.length : Int) + 1 := by show ((r.Log ++ _).length : Int) = _; simp
    obtain ⟨_, _, _, _, b1, b2⟩ := x.last c.2.1
    rw [hll]
    exact ⟨fun a ha => by have := b1 a ha; omega, fun a ha => mem_set' (P := fun a => a ≤ (r.Log.length : Int) + 1) (fun x hx => by have := b2 x hx; omega) (by simp) a ha⟩
   show (r.Match.set (r.Me - 1).toNat ((r.Log ++ [putE r e]).length : Int)).getD (r.Me - 1).toNat 0 = _
   rw [getD_set (by omega), if_pos rfl]; rfl
  ·have := h.nodes
   have := h.me
   exact prop_one (by omega) (by omega) h.bs.lm h.may.commit.2
  ·show 6 * (E + 1) + credit r ≤ _; omega
 ·rw [if_neg c]
  exact ⟨E, x, hl, (fun m hm => by cases hm), Int.le_refl _, by show 6 * E + credit r ≤ _; omega, by simp⟩
theorem again_op {n i : Nat} {E : Int} {r : TRaft} (x : Xt n i r) (hc : 0 ≤ r.Clock) (hl : (r.Log.length : Int) ≤ E) : Op n i E 2 r (againR r) [] E := by
 refine ⟨⟨x.wait, fun k => ?_, fun _ k => ?_⟩, hl, (fun m hm => by cases hm), Int.le_refl _, ?_, by simp⟩
 ·have : (0 : Int) = 2 := k; omega
 ·have : (0 : Int) = 2 := k; omega
 ·have : credit (againR r) = 0 := rfl
  have := credit_pos hc
  omega
theorem joinF_le {l m : List TEntry} {i : Int} {E : Int} (h1 : (l.length : Int) ≤ E) (h2 : i + (m.length : Int) ≤ E) : ((joinF l i m).length : Int) ≤ E := by
 unfold joinF
 split
 ·rename_i hi
  unfold jn2
  cases h : jn3 (l.drop i.toNat) m with
  | none => rw [Option.getD_none, List.take_append_drop]; exact h1
  | some u =>
   have := jn3_len h
   rw [Option.getD_some, List.length_append, List.length_take]
   omega
 ·exact h1
theorem stepR_fields (r : TRaft) (m : TMsg) : (stepR r m).Wait = r.Wait ∧ (stepR r m).Log = r.Log ∧ (stepR r m).Clock = r.Clock ∧ (stepR r m).Me = r.Me ∧ (stepR r m).Nodes = r.Nodes ∧ (stepR r m).Commit = r.Commit ∧ ((stepR r m).Role = r.Role ∧ (stepR r m).Term = r.Term ∧ stepR r m = r ∨ (stepR r m).Role = 0 ∧ (stepR r m).Term = m.Term ∧ r.Term < m.Term) := by
 unfold stepR
 split
 ·exact ⟨rfl, rfl, rfl, rfl, rfl, rfl, .inr ⟨rfl, rfl, by omega⟩⟩
 ·exact ⟨rfl, rfl, rfl, rfl, rfl, rfl, .inl ⟨rfl, rfl, rfl⟩⟩
theorem credit_step (r : TRaft) (m : TMsg) : credit (stepR r m) ≤ credit r := by
 obtain ⟨_, _, h, _, _, _, k⟩ := stepR_fields r m
 unfold credit
 rw [h]
 rcases k with ⟨k, _⟩ | ⟨k, _⟩
 ·rw [k]; exact Int.le_refl _
 ·rw [k, if_neg (by decide)]; split <;> omega
theorem stepR_may {r : TRaft} {m : TMsg} (h : MayP r) : MayP (stepR r m) := by
 unfold stepR
 split
 ·exact yieldR_may h (by omega)
 ·exact h
theorem take_op {n i : Nat} {E : Int} {T : Nat → Int} {G : Gh} {r : TRaft} {m : TMsg} (x : Xt n i r) (h : RI n G i r) (hi : i < n) (hn : n ≤ 5) (hl : (r.Log.length : Int) ≤ E) (hE : E < 200) (hm : MI n T G m) (hme : m.Kind = 3 → m.Index + (m.Entries.length : Int) ≤ E) (hb : m.Term ≤ 1152921504606846976) : ∃ E', Op n i E 2 r (takeF r m).1 (takeF r m).2 E' := by
 unfold takeF
 by_cases c : (1 ≤ m.Kind ∧ m.Kind ≤ 4) ∧ okL_ r m
 case neg =>
  rw [if_neg c]
  exact ⟨E, x, hl, (fun m hm => by cases hm), Int.le_refl _, by show 6 * E + credit r ≤ _; omega, by simp⟩
 rw [if_pos c]
 obtain ⟨_, _, o1, o2, o3, o4⟩ := c
 have hno := h.nodes
 have hmr := h.me
 have hn1 : n ≠ 1 := fun e => by omega
 obtain ⟨f1, f2, f3, f4, f5, f6, f7⟩ := stepR_fields r m
 have hcs := credit_step r m
 have hrb : Bs (stepR r m) := stepR_bs h.bs ⟨hm.lb.term.1, hb⟩
 have hrm : MayP (stepR r m) := stepR_may h.may
 generalize hr' : stepR r m = r' at f1 f2 f3 f4 f5 f6 f7 hcs hrb hrm ⊢
 have hl' : (r'.Log.length : Int) ≤ E := by rw [f2]; exact hl
 have hw' : r'.Wait = waitOf i := by rw [f1]; exact x.wait
 have hlast : r'.Role = 2 → lastT r'.Log = r'.Term ∧ 0 < r'.Log.length ∧ r'.Leader = r'.Me ∧ r'.Match.getD (r'.Me - 1).toNat 0 = (r'.Log.length : Int) ∧ (∀ a ∈ r'.Next, a ≤ (r'.Log.length : Int) + 1) ∧ ∀ a ∈ r'.Match, a ≤ (r'.Log.length : Int) := fun k => by
  rcases f7 with ⟨g1, g2, g3⟩ | ⟨g1, _⟩
  ·rw [g3]; exact x.last (by rw [← g1]; exact k)
  ·omega
 have x' : Xt n i r' := ⟨hw', hlast, fun e => absurd e hn1⟩
 have hcl : 0 ≤ r'.Clock := by rw [f3]; exact h.may.clock
 unfold takeP
 by_cases k1 : m.Kind = 1
 ·rw [if_pos k1]
  unfold askVoteP
  refine ⟨E, ?_, ?_, fun l hlm k => ?_, Int.le_refl _, ?_, by simp⟩
  ·dsimp only
   split
   ·exact ⟨x'.wait, x'.last, x'.one⟩
   ·exact x'
  ·dsimp only
   split <;> exact hl'
  ·rw [List.mem_singleton.1 hlm] at k
   have : (2 : Int) = 3 := k
   omega
  ·dsimp only
   split
   ·have : credit (voteR r' m.From) ≤ credit r' := by
     unfold credit voteR
     dsimp only
     split <;> omega
    omega
   ·omega
 rw [if_neg k1]
 by_cases k2 : m.Kind = 2
 ·rw [if_pos k2]
  unfold voteP
  split
  ·rename_i g
   split
   ·have hcr : 4 ≤ credit r' := by
     unfold credit; rw [if_pos g.2.1]; omega
    exact ⟨E + 1, lead_op (r := countR r' m.From) hw' (countR_bs hrb) (countR_may hrm) (by rw [← hno]; exact f5) (by rw [← hmr]; exact f4) hi hl' hE (by omega)⟩
   ·exact ⟨E, ⟨x'.wait, x'.last, x'.one⟩, hl', (fun m hm => by cases hm), Int.le_refl _, by show 6 * E + credit r' ≤ _; omega, by simp⟩
  ·exact ⟨E, x', hl', (fun m hm => by cases hm), Int.le_refl _, by show 6 * E + credit r' ≤ _; omega, by simp⟩
 rw [if_neg k2]
 by_cases k3 : m.Kind = 3
 ·rw [if_pos k3]
  have hcz : ∀ {y : TRaft}, y.Clock = 0 → y.Role = 0 → credit y ≤ credit r := fun {y} e1 e2 => by
   have := credit_pos hcl
   unfold credit
   rw [e1, e2, if_neg (by decide)]
   unfold credit at this hcs
   omega
  have rep : ∀ {y : TRaft} {o : Bool} {v : Int}, ∀ l ∈ [repA r' m.From o v], l.Kind = 3 → l.Index + (l.Entries.length : Int) ≤ E := fun l hlm k => by
   rw [List.mem_singleton.1 hlm] at k
   have : (4 : Int) = 3 := k
   omega
  have no2 : ∀ {P : Prop}, (0 : Int) = 2 → P := fun e => by omega
  unfold appendP
  split
  ·exact ⟨E, x', hl', rep (y := r), Int.le_refl _, by show 6 * E + credit r' ≤ _; omega, by simp⟩
  split
  ·exact ⟨E, x', hl', (fun m hm => by cases hm), Int.le_refl _, by show 6 * E + credit r' ≤ _; omega, by simp⟩
  split
  ·split
   ·exact ⟨E, ⟨x'.wait, fun k => no2 k, fun _ k => no2 k⟩, hl', rep (y := r), Int.le_refl _, by have := hcz (y := follR r' m.From) rfl rfl; show 6 * E + credit (follR r' m.From) ≤ _; omega, by simp⟩
   ·refine ⟨E, ⟨x'.wait, fun k => no2 k, fun _ k => no2 k⟩, joinF_le hl' (hme k3), rep (y := r), Int.le_refl _, ?_, by simp⟩
    have := hcz (y := tookR r' m.From (joinF r'.Log m.Index m.Entries) (max r'.Commit (min m.Commit (m.Index + (m.Entries.length : Int))))) rfl rfl
    show 6 * E + credit (tookR r' m.From _ _) ≤ _
    omega
  ·exact ⟨E, ⟨x'.wait, fun k => no2 k, fun _ k => no2 k⟩, hl', rep (y := r), Int.le_refl _, by have := hcz (y := follR r' m.From) rfl rfl; show 6 * E + credit (follR r' m.From) ≤ _; omega, by simp⟩
 ·rw [if_neg k3]
  have one : ∀ {y : TRaft}, (y.Log.length : Int) ≤ E → ∀ l ∈ [letterE y m.From], l.Kind = 3 → l.Index + (l.Entries.length : Int) ≤ E := fun {y} hy l hlm k => by
   rw [List.mem_singleton.1 hlm]
   have := letterE_end y m.From
   omega
  unfold appendedP
  split
  ·exact ⟨E, x', hl', (fun m hm => by cases hm), Int.le_refl _, by show 6 * E + credit r' ≤ _; omega, by simp⟩
  split
  ·refine ⟨E, ⟨x'.wait, fun k => ⟨(hlast k).1, (hlast k).2.1, (hlast k).2.2.1, ?_, ?_, ?_⟩, fun e => absurd e hn1⟩, hl', fun l hlm k => ?_, Int.le_refl _, by show 6 * E + credit r' ≤ _; omega, by dsimp only; split <;> simp⟩
   ·have hlm := hrb.lm
    show (r'.Match.set (m.From - 1).toNat (farM r' m)).getD (r'.Me - 1).toNat 0 = _
    rw [getD_set (by omega), if_neg (by omega)]
    exact (hlast k).2.2.2.1
   ·have hfm : farM r' m ≤ (r'.Log.length : Int) := by
     have := (hlast k).2.2.2.2.2 _ (List.mem_of_getElem? (match_get hrb o1 (by rw [f5]; exact o2)))
     unfold farM; omega
    exact fun a ha => mem_set' (P := fun a => a ≤ (r'.Log.length : Int) + 1) (fun x hx => (hlast k).2.2.2.2.1 x hx) (by omega) a ha
   ·have hfm : farM r' m ≤ (r'.Log.length : Int) := by
     have := (hlast k).2.2.2.2.2 _ (List.mem_of_getElem? (match_get hrb o1 (by rw [f5]; exact o2)))
     unfold farM; omega
    exact fun a ha => mem_set' (P := fun a => a ≤ (r'.Log.length : Int)) (fun x hx => (hlast k).2.2.2.2.2 x hx) hfm a ha
   dsimp only at hlm
   split at hlm
   ·exact one (y := farR r' m) hl' l hlm k
   ·cases hlm
  ·refine ⟨E, ⟨x'.wait, fun k => ⟨(hlast k).1, (hlast k).2.1, (hlast k).2.2.1, (hlast k).2.2.2.1, ?_, (hlast k).2.2.2.2.2⟩, fun e => absurd e hn1⟩, hl', one (y := backR r' m) hl', Int.le_refl _, by show 6 * E + credit r' ≤ _; omega, by simp⟩
   have b1 := (hlast k).2.2.2.2.1 _ (List.mem_of_getElem? (next_get hrb o1 (by rw [f5]; exact o2)))
   have b2 := (hlast k).2.2.2.2.2 _ (List.mem_of_getElem? (match_get hrb o1 (by rw [f5]; exact o2)))
   exact fun a ha => mem_set' (P := fun a => a ≤ (r'.Log.length : Int) + 1) (fun x hx => (hlast k).2.2.2.2.1 x hx) (by unfold backN; omega) a ha
end Go.Proofs.Ythpokjkbcdfhiaa.Told.RA
