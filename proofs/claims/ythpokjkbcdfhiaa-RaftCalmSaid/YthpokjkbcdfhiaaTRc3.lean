/- How many letters come when none are lost: what each letter may lead to, what each member may still write. -/
import Derived.Test.YthpokjkbcdfhiaaTRc2
namespace Go.Proofs.Ythpokjkbcdfhiaa.Told.RA
open Go Go.Proofs.Ythpokjkbcdfhiaa.Vam Go.Proofs.Ythpokjkbcdfhiaa.Told Go.Proofs.Ythpokjkbcdfhiaa.Told.HP Go.Proofs.Ythpokjkbcdfhiaa.Told.PK
set_option linter.unusedSimpArgs false
set_option linter.unusedVariables false
def c4 (x : Int) : Int := (max x 0 + 3) / 4
theorem c4_mono {x y : Int} (h : x ≤ y) : c4 x ≤ c4 y := by unfold c4; omega
theorem c4_pos (x : Int) : 0 ≤ c4 x := by unfold c4; omega
theorem c4_four {x : Int} (h : 0 < x) : c4 (x - min 4 x) + 1 ≤ c4 x := by unfold c4; omega
def WW (L : Int) : Int := 2 + 2 * c4 L
def own (m : TMsg) : Nat := if m.Kind = 1 ∨ m.Kind = 3 then (m.From - 1).toNat else (m.To - 1).toNat
def mtOf (r : TRaft) (to : Int) : Int := r.Match.getD (to - 1).toNat 0
def wl (L : Int) (r : TRaft) (m : TMsg) : Int :=
 if m.Kind = 3 then (if r.Role = 0 then 2 else if r.Role = 2 ∧ m.Term = r.Term ∧ m.Index ≤ mtOf r m.To then 2 + 2 * c4 ((r.Log.length : Int) - (m.Index + (m.Entries.length : Int))) else 2 + WW L)
 else if m.Kind = 4 then (if r.Role = 0 ∨ r.Term < m.Term then 1 else if r.Role = 2 ∧ m.OK = true ∧ m.Term = r.Term then 1 + 2 * c4 ((r.Log.length : Int) - m.Index) else 1 + WW L)
 else if m.Kind = 1 then 2 else 1
def lag (r : TRaft) (to : Int) : Int := 2 * max (nextOf r to - 1 - mtOf r to) 0
def pot (L : Int) (r : TRaft) : Int := if r.Role = 1 then 4 * (2 + WW L) + 8 * L else if r.Role = 2 then ((others r).map (lag r)).sum else 0
section
variable {α : Type}
theorem sum_le {f g : α → Int} : ∀ (l : List α), (∀ x ∈ l, f x ≤ g x) → (l.map f).sum ≤ (l.map g).sum
 | [], _ => Int.le_refl _
 | a :: l, h => by
  have := sum_le l (fun x hx => h x (by simp [hx]))
  have := h a (by simp)
  simp only [List.map_cons, List.sum_cons]; omega
theorem sum_lt {f g : α → Int} {a : α} {c : Int} (hc : 0 ≤ c) : ∀ (l : List α), (∀ x ∈ l, f x ≤ g x) → a ∈ l → f a + c ≤ g a → (l.map f).sum + c ≤ (l.map g).sum
 | [], _, h, _ => by cases h
 | b :: l, h, ha, hac => by
  have hb := h b (by simp)
  simp only [List.map_cons, List.sum_cons]
  by_cases hal : a ∈ l
  ·have := sum_lt hc l (fun x hx => h x (by simp [hx])) hal hac
   omega
  ·have : a = b := by
    rcases List.mem_cons.1 ha with g | g
    ·exact g
    ·exact absurd g hal
   subst this
   have := sum_le l (fun x hx => h x (by simp [hx]))
   omega
theorem sum_bd {f : α → Int} {c : Int} : ∀ (l : List α), (∀ x ∈ l, f x ≤ c) → (l.map f).sum ≤ (l.length : Int) * c
 | [], _ => by simp
 | a :: l, h => by
  have := sum_bd l (fun x hx => h x (by simp [hx]))
  have := h a (by simp)
  simp only [List.map_cons, List.sum_cons, List.length_cons]
  rw [show (((l.length + 1 : Nat)) : Int) * c = (l.length : Int) * c + c by rw [Int.natCast_add, Int.add_mul]; simp]
  omega
theorem sum_pos {f : α → Int} : ∀ (l : List α), (∀ x ∈ l, 0 ≤ f x) → 0 ≤ (l.map f).sum
 | [], _ => Int.le_refl _
 | a :: l, h => by
  have := sum_pos l (fun x hx => h x (by simp [hx]))
  have := h a (by simp)
  simp only [List.map_cons, List.sum_cons]; omega
end
theorem lag_pos (r : TRaft) (to : Int) : 0 ≤ lag r to := by unfold lag; omega
theorem pot_pos {L : Int} (hL : 0 ≤ L) (r : TRaft) : 0 ≤ pot L r := by
 unfold pot
 have := c4_pos L
 split
 ·unfold WW; omega
 split
 ·exact sum_pos _ (fun x _ => lag_pos r x)
 ·exact Int.le_refl _
theorem wl_pos (L : Int) (r : TRaft) (m : TMsg) : 1 ≤ wl L r m := by
 unfold wl WW
 have := c4_pos L
 have := c4_pos ((r.Log.length : Int) - (m.Index + (m.Entries.length : Int)))
 have := c4_pos ((r.Log.length : Int) - m.Index)
 split
 ·split
  ·omega
  split <;> omega
 split
 ·split
  ·omega
  split <;> omega
 split <;> omega
theorem wl_app {L : Int} {r : TRaft} {m : TMsg} (hk : m.Kind = 3) (hl : (r.Log.length : Int) ≤ L) (hi : 0 ≤ m.Index) : 2 ≤ wl L r m ∧ wl L r m ≤ 2 + WW L := by
 unfold wl WW
 rw [if_pos hk]
 have := c4_pos L
 have := c4_pos ((r.Log.length : Int) - (m.Index + (m.Entries.length : Int)))
 have := c4_mono (show (r.Log.length : Int) - (m.Index + (m.Entries.length : Int)) ≤ L by omega)
 split
 ·omega
 split <;> omega
theorem wl_zero {L : Int} {r y : TRaft} (h : y.Role = 0) (m : TMsg) : wl L y m ≤ wl L r m := by
 by_cases k3 : m.Kind = 3
 ·unfold wl
  rw [if_pos k3, if_pos k3, if_pos h]
  have := c4_pos L
  have := c4_pos ((r.Log.length : Int) - (m.Index + (m.Entries.length : Int)))
  unfold WW
  split
  ·omega
  split <;> omega
 by_cases k4 : m.Kind = 4
 ·have := wl_pos L r m
  have e : wl L y m = 1 := by unfold wl; rw [if_neg k3, if_pos k4, if_pos (.inl h)]
  omega
 ·unfold wl
  rw [if_neg k3, if_neg k4, if_neg k3, if_neg k4]; exact Int.le_refl _
theorem wl_same {L : Int} {r y : TRaft} (hr : y.Role = r.Role) (ht : y.Term = r.Term) (hl : y.Log.length = r.Log.length) (hL : (r.Log.length : Int) ≤ L) (hm : ∀ to, mtOf r to ≤ mtOf y to) (m : TMsg) (hi : 0 ≤ m.Index) : wl L y m ≤ wl L r m := by
 by_cases k3 : m.Kind = 3
 ·have hb := wl_app (r := y) k3 (by rw [hl]; exact hL) hi
  by_cases c0 : r.Role = 0
  ·exact wl_zero (by rw [hr]; exact c0) m
  by_cases c1 : r.Role = 2 ∧ m.Term = r.Term ∧ m.Index ≤ mtOf r m.To
  ·have := hm m.To
   unfold wl
   rw [if_pos k3, if_pos k3, if_neg c0, if_pos c1, if_neg (by rw [hr]; exact c0), if_pos ⟨by rw [hr]; exact c1.1, by rw [ht]; exact c1.2.1, by omega⟩, hl]; exact Int.le_refl _
  ·have e : wl L r m = 2 + WW L := by unfold wl; rw [if_pos k3, if_neg c0, if_neg c1]
   omega
 ·unfold wl
  rw [if_neg k3, if_neg k3, hr, ht, hl]; exact Int.le_refl _
theorem wl_lead {L : Int} {r y : TRaft} (hr : r.Role = 1) (hy : y.Role = 2) (ht : y.Term = r.Term) (hL : (y.Log.length : Int) ≤ L) (m : TMsg) (hi : 0 ≤ m.Index) : wl L y m ≤ wl L r m := by
 by_cases k3 : m.Kind = 3
 ·have hb := wl_app (r := y) k3 hL hi
  have e : wl L r m = 2 + WW L := by unfold wl; rw [if_pos k3, if_neg (by omega), if_neg (by omega)]
  omega
 by_cases k4 : m.Kind = 4
 ·unfold wl
  rw [if_neg k3, if_pos k4, if_neg k3, if_pos k4, ht]
  have := c4_mono (show (y.Log.length : Int) - m.Index ≤ L by omega)
  have := c4_pos L
  unfold WW
  by_cases c : r.Term < m.Term
  ·rw [if_pos (.inr c), if_pos (.inr c)]; exact Int.le_refl _
  ·have g0 : ¬ (y.Role = 0 ∨ r.Term < m.Term) := by omega
   have g1 : ¬ (r.Role = 0 ∨ r.Term < m.Term) := by omega
   have g2 : ¬ (r.Role = 2 ∧ m.OK = true ∧ m.Term = r.Term) := fun g => by omega
   rw [if_neg g0, if_neg g1, if_neg g2]
   split <;> omega
 ·unfold wl
  rw [if_neg k3, if_neg k4, if_neg k3, if_neg k4]; exact Int.le_refl _
theorem oth_len' (me : Int) : ∀ (d : Nat) (i : Int), i ≤ me → me < i + d → (oth me d i).length + 1 ≤ d
 | 0, i, h, k => by omega
 | d + 1, i, h, k => by
  unfold oth
  split
  ·have := oth_len me d (i + 1); omega
  ·have := oth_len' me d (i + 1) (by omega) (by omega)
   simp; omega
theorem others_len {r : TRaft} (hb : Bs r) : (others r).length ≤ 4 := by
 have := hb.nodes
 have := hb.me
 have := oth_len' r.Me r.Nodes.toNat 1 (by omega) (by omega)
 unfold others
 omega
theorem others_mem {r : TRaft} (hb : Bs r) {to : Int} : to ∈ others r ↔ 1 ≤ to ∧ to ≤ r.Nodes ∧ to ≠ r.Me := by
 have := hb.nodes
 unfold others
 rw [oth_mem]; omega
theorem pot_lead {L : Int} {r : TRaft} (hb : Bs r) (hl : r.Log.length < 200) (hL : (r.Log.length : Int) ≤ L) : pot L (leadR r) ≤ 8 * L := by
 have hbl := leadR_bs hb
 have hn := hb.nodes
 obtain ⟨_, e2, _, _, _, e6, e7⟩ := leadR_log hl
 unfold pot
 rw [e2, if_neg (by decide), if_pos rfl]
 have h4 := others_len hbl
 have hlag : ∀ to ∈ others (leadR r), lag (leadR r) to ≤ 2 * (r.Log.length : Int) := fun to hto => by
  have hm := (others_mem hbl).1 hto
  rw [e6, e7] at hm
  have hme := hb.me
  have h1 : nextOf (leadR r) to = (r.Log.length : Int) + 1 := by
   unfold nextOf leadR
   rw [if_pos hl]
   show (List.replicate r.Nodes.toNat ((r.Log.length : Int) + 1)).getD (to - 1).toNat 0 = _
   rw [List.getD_eq_getElem?_getD, List.getElem?_replicate_of_lt (by omega)]; rfl
  have h2 : mtOf (leadR r) to = 0 := by
   unfold mtOf leadR
   rw [if_pos hl]
   show ((((List.replicate r.Nodes.toNat (0 : Int)).set (r.Me - 1).toNat (r.Log.length : Int)).set (r.Me - 1).toNat _).getD (to - 1).toNat 0) = 0
   rw [getD_set (by simp; omega), if_neg (by omega), getD_set (by simp; omega), if_neg (by omega), List.getD_eq_getElem?_getD, List.getElem?_replicate_of_lt (by omega)]; rfl
  unfold lag
  rw [h1, h2]; omega
 have := sum_bd _ hlag
 have h5 : ((others (leadR r)).length : Int) * (2 * (r.Log.length : Int)) ≤ 4 * (2 * (r.Log.length : Int)) := Int.mul_le_mul_of_nonneg_right (by omega) (by omega)
 omega
theorem lag_set {r : TRaft} (hb : Bs r) {f to : Int} {a b : Int} (hf : 1 ≤ f ∧ f ≤ r.Nodes) (h1 : 1 ≤ to) : nextOf { r with Next := r.Next.set (f - 1).toNat a, Match := r.Match.set (f - 1).toNat b } to = (if f = to then a else nextOf r to) ∧ mtOf { r with Next := r.Next.set (f - 1).toNat a, Match := r.Match.set (f - 1).toNat b } to = (if f = to then b else mtOf r to) := by
 have := hb.lx
 have := hb.lm
 unfold nextOf mtOf
 dsimp only
 rw [getD_set (by omega), getD_set (by omega)]
 by_cases c : f = to
 ·subst c; rw [if_pos rfl, if_pos rfl, if_pos rfl, if_pos rfl]; exact ⟨rfl, rfl⟩
 ·rw [if_neg (by omega), if_neg c, if_neg (by omega), if_neg c]; exact ⟨rfl, rfl⟩
section
variable {n : Nat} {R : Nat → TRaft} {G : Gh}
theorem match_len (I : Inv n R G) {o : Nat} (ho : o < n) (hr : (R o).Role = 2) {to : Int} (h1 : 1 ≤ to ∧ to ≤ n) : 0 ≤ mtOf (R o) to ∧ mtOf (R o) to ≤ ((R o).Log.length : Int) := by
 have r := I.r o ho
 have hn := r.nodes
 have hg := match_get r.bs h1.1 (by omega)
 have h2 := r.mt hr _ _ hg
 obtain ⟨x, l1, _, l3⟩ := r.l2 hr
 have h3 := I.w.a_ll (R o).Term (to - 1).toNat
 rw [Gh.ll_of l1, l3] at h3
 have h4 := r.bs.ms _ (List.mem_of_getElem? hg)
 unfold mtOf
 omega
theorem has_ok (I : Inv n R G) {m : TMsg} (hm : MI n (tm R) G m) (hk : m.Kind = 3) (hr : (R (m.From - 1).toNat).Role = 2) (hT : m.Term = (R (m.From - 1).toNat).Term) (hle : m.Index ≤ mtOf (R (m.From - 1).toNat) m.To) (hv : (R (m.To - 1).toNat).Term ≤ m.Term) : hasB (R (m.To - 1).toNat).Log m.Index m.LogTerm = true := by
 have hf := hm.frm
 have ht := hm.to
 have hi := hm.index
 have ho : (m.From - 1).toNat < n := by omega
 have hvn : (m.To - 1).toNat < n := by omega
 have r := I.r _ ho
 have rv := I.r _ hvn
 unfold hasB
 by_cases c : m.Index = 0
 ·rw [beq_iff_eq.2 c]; rfl
 have hn := r.nodes
 have hg := match_get r.bs ht.1 (by omega)
 have h2 := r.mt hr _ _ hg
 rw [← hT] at h2
 have hA : m.Index ≤ (G.A m.Term (m.To - 1).toNat : Int) := Int.le_trans hle h2
 obtain ⟨_, hTv, x, k1, k2⟩ := I.w.a m.Term (m.To - 1).toNat (by omega)
 have hTe : (R (m.To - 1).toNat).Term = m.Term := by
  have : m.Term ≤ (R (m.To - 1).toNat).Term := hTv
  omega
 have hs := rv.snap m.Term (by omega) m.Index.toNat (by omega)
 obtain ⟨y, q1, q2, q3, _⟩ := hm.k3 hk
 rw [k1] at q1
 cases q1
 rw [Gh.ll_of k1] at hs
 rcases hs with hp | ⟨t2, z, p1, p2, _⟩
 ·obtain ⟨e, he, het⟩ := termAt_pos (l := x.LL) (i := m.Index) (by omega) (by omega)
  have hX : (R (m.To - 1).toNat).Log[(m.Index - 1).toNat]? = some e := pre_get hp (by rw [List.getElem?_take_of_lt (by omega)]; exact he)
  have hlt := (List.getElem?_eq_some_iff.1 hX).1
  have e2 : termAt (R (m.To - 1).toNat).Log m.Index = e.Term := by
   unfold termAt
   rw [if_pos (by omega), hX]
  rw [beq_eq_false_iff_ne.2 c, Bool.false_or, decide_eq_true (by omega), decide_eq_true (by omega), e2, q3, het]
  simp
 ·omega
end
end Go.Proofs.Ythpokjkbcdfhiaa.Told.RA
