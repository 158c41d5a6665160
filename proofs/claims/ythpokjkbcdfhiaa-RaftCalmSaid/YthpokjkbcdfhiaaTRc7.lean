/- One member ticks when no letters are on their way: who stands, who leads. -/
import Derived.Test.YthpokjkbcdfhiaaTRc6
namespace Go.Proofs.Ythpokjkbcdfhiaa.Told.RA
open Go Go.Proofs.Ythpokjkbcdfhiaa.Vam Go.Proofs.Ythpokjkbcdfhiaa.Told Go.Proofs.Ythpokjkbcdfhiaa.Told.HP Go.Proofs.Ythpokjkbcdfhiaa.Told.PK
set_option linter.unusedSimpArgs false
set_option linter.unusedVariables false
def Nw (R0 : Nat → TRaft) (i j : Nat) : Prop := newerB (R0 j).Log ((R0 i).Log.length : Int) (lastT (R0 i).Log) = true
structure SBk (n i : Nat) (T : Int) (R0 R : Nat → TRaft) (mail : List TMsg) : Prop where
 log : (R i).Log = (R0 i).Log
 kinds : ∀ m ∈ mail, m.Kind = 1 ∨ m.Kind = 2
 asks : ∀ m ∈ mail, m.Kind = 1 → m.Index = ((R0 i).Log.length : Int) ∧ m.LogTerm = lastT (R0 i).Log
 notyet : wonB (R i) = false
 own : (R i).Votes[i]? = some true
 clock : (R i).Clock = 0
 oth : ∀ j, j < n → j ≠ i → (R j).Log = (R0 j).Log ∧ ((R j).Clock = (R0 j).Clock ∨ Nw R0 i j)
 votes : ∀ j, j < n → j ≠ i → (R0 j).Term < T → Nw R0 i j → (R j = R0 j ∧ ∃ m ∈ mail, m.Kind = 1 ∧ vto m = j) ∨ (∃ m ∈ mail, m.Kind = 2 ∧ m.From = (j : Int) + 1 ∧ m.OK = true ∧ m.Term = T) ∨ (R i).Votes[j]? = some true
def SB (n i : Nat) (T : Int) (R0 R : Nat → TRaft) (mail : List TMsg) : Prop := (R i).Role = 1 → SBk n i T R0 R mail
def Alive (mail : List TMsg) (j : Nat) : Prop := ∃ m ∈ mail, (m.Kind = 3 ∧ vto m = j) ∨ (m.Kind = 4 ∧ m.From = (j : Int) + 1)
def Done (i : Nat) (T : Int) (R : Nat → TRaft) (j : Nat) : Prop := mtOf (R i) ((j : Int) + 1) = ((R i).Log.length : Int) ∧ nextOf (R i) ((j : Int) + 1) = ((R i).Log.length : Int) + 1 ∧ Fol i T (R j)
structure SCk (n i : Nat) (T : Int) (R : Nat → TRaft) (mail : List TMsg) : Prop where
 go : ∀ j, j < n → j ≠ i → Alive mail j ∨ Done i T R j
 fol : ∀ j, j < n → j ≠ i → ∀ m ∈ mail, m.Kind = 4 → m.From = (j : Int) + 1 → m.Term = T → Fol i T (R j)
 com : (R i).Commit = ((R i).Log.length : Int) ∨ ∃ j, j < n ∧ j ≠ i ∧ Alive mail j
def SC (n i : Nat) (T : Int) (R : Nat → TRaft) (mail : List TMsg) : Prop := (R i).Role = 2 → SCk n i T R mail
theorem nextC_all {m : List Int} {l : List TEntry} {t c : Int} (h : ∀ a ∈ m, a = (l.length : Int)) (hm : m.length ≤ 900) (h0 : m ≠ []) (ht : lastT l = t) (hc : c ≤ (l.length : Int)) : nextC m l t c = (l.length : Int) := by
 obtain ⟨_, h2⟩ := most_f (fu := 1000) hm (fun a ha => by rw [h a ha]; omega) (by omega)
 have hr : mostF m = (l.length : Int) := by
  rcases h2 with ⟨g, _⟩ | ⟨g, _⟩
  ·exact absurd g h0
  ·exact h _ g
 unfold nextC
 rw [hr]
 by_cases e : (l.length : Int) > c
 ·rw [if_pos ⟨e, Int.le_refl _, by rw [termAt_last]; exact ht⟩]
 ·rw [if_neg (fun g => e g.1)]; omega
section
variable {n : Nat} {s : Int} {R : Nat → TRaft} {G : Gh} {m : TMsg} {rest : List TMsg} {i : Nat} {T : Int} {R0 : Nat → TRaft}
theorem SB.step (C : CI n s R G (m :: rest)) (h200 : ∀ j, j < n → (R j).Log.length < 200) (S : SA n i T R0 R (m :: rest)) (B : SB n i T R0 R (m :: rest)) : SB n i T R0 (nxt R m) (rest ++ outs R m) := by
 have hm := C.mail m (by simp)
 have hto := hm.to
 have hfr := hm.frm
 intro h1
 rcases S.star m (by simp) with ⟨hf, hk, hT, hvi⟩ | ⟨ht, hfi, hk, hT⟩
 ·have hne := vto_from hf hto.1 hvi
  have hRi : nxt R m i = R i := upd_ne _ _ (fun e => hvi e.symm)
  have hRv : nxt R m (vto m) = (takeF (R (vto m)) m).1 := upd_i _ _ _
  have hRj : ∀ j, j ≠ vto m → nxt R m j = R j := fun j hj => upd_ne _ _ hj
  rw [hRi] at h1
  have b := B h1
  have hk1 : m.Kind = 1 := (b.kinds m (by simp)).elim id fun g => by omega
  obtain ⟨hix, hlt⟩ := b.asks m (by simp) hk1
  have hvn := C.vn
  obtain ⟨blog, bclk⟩ := b.oth _ hvn hvi
  -- what the asked one does
  have key : ∃ l, outs R m = [l] ∧ l.Kind = 2 ∧ l.From = m.To ∧ (takeF (R (vto m)) m).1.Log = (R (vto m)).Log ∧ ((takeF (R (vto m)) m).1.Clock = (R (vto m)).Clock ∨ Nw R0 i (vto m)) ∧ ((R (vto m)).Term < T → Nw R0 i (vto m) → l.OK = true ∧ l.Term = T) := by
   rcases Int.lt_or_le m.Term (R (vto m)).Term with hh | hh
   ·obtain ⟨r1, l, r2, r3⟩ := right_hi C hk hne hh
    exact ⟨l, r2, by rw [r3.2.2.2, hk1]; rfl, r3.1, by rw [r1], .inl (by rw [r1]), fun g => by omega⟩
   ·obtain ⟨q1, q2, q3, q4, q5, l, q6, q7, q8⟩ := right_ask C hk1 hne hh
    refine ⟨l, q6, q7.2.2.2, q7.1, q2, q4.imp id fun g => ?_, fun g1 g2 => ⟨q8 (by omega) ?_, by rw [q7.2.2.1]; exact hT⟩⟩
    ·unfold Nw; rw [← hix, ← hlt, ← blog]; exact g.2
    ·unfold Nw at g2; rw [← hix, ← hlt, ← blog] at g2; exact g2
  obtain ⟨l, k1, k2, k3, k4, k5, k6⟩ := key
  refine ⟨by rw [hRi]; exact b.log, fun x hx => ?_, fun x hx hx1 => ?_, by rw [hRi]; exact b.notyet, by rw [hRi]; exact b.own, by rw [hRi]; exact b.clock, fun j hj hji => ?_, fun j hj hji hjT hnw => ?_⟩
  ·rcases List.mem_append.1 hx with g | g
   ·exact b.kinds x (by simp [g])
   ·rw [k1] at g; rw [List.mem_singleton.1 g]; exact .inr k2
  ·rcases List.mem_append.1 hx with g | g
   ·exact b.asks x (by simp [g]) hx1
   ·rw [k1] at g; rw [List.mem_singleton.1 g] at hx1; omega
  ·by_cases e : j = vto m
   ·subst e
    rw [hRv, k4]
    refine ⟨blog, ?_⟩
    rcases k5 with g | g
    ·rw [g]; exact bclk
    ·exact .inr g
   ·rw [hRj j e]; exact b.oth j hj hji
  ·rw [hRi]
   by_cases e : j = vto m
   ·subst e
    rcases b.votes _ hj hji hjT hnw with ⟨g, _⟩ | g | g
    ·right; left
     obtain ⟨g1, g2⟩ := k6 (by rw [g]; exact hjT) hnw
     exact ⟨l, by rw [k1]; simp, k2, by rw [k3]; show m.To = (((m.To - 1).toNat : Nat) : Int) + 1; omega, g1, g2⟩
    ·exact .inr (.inl (mem_rest g fun g2 => by omega))
    ·exact .inr (.inr g)
   ·rw [hRj j e]
    rcases b.votes j hj hji hjT hnw with ⟨g, g2⟩ | g | g
    ·exact .inl ⟨g, mem_rest g2 fun g3 => e g3.2.symm⟩
    ·exact .inr (.inl (mem_rest g fun g2 => by omega))
    ·exact .inr (.inr g)
 ·have hvi : vto m = i := by show (m.To - 1).toNat = i; omega
  have hne : m.From ≠ m.To := by omega
  have hRi : nxt R m i = (takeF (R i) m).1 := by unfold nxt; rw [hvi, upd_i]
  have hRj : ∀ j, j ≠ i → nxt R m j = R j := fun j hj => by unfold nxt; rw [hvi]; exact upd_ne _ _ hj
  have hout : outs R m = (takeF (R i) m).2 := by unfold outs; rw [hvi]
  rw [hRi] at h1
  rcases Int.lt_or_le (R i).Term m.Term with hh | hh
  ·obtain ⟨q1, _⟩ := left_hi C hk hne (by rw [hvi]; exact hh)
   rw [hvi] at q1; omega
  have hlo := left_lo C hk hne (by rw [hvi]; exact hh)
  rw [hvi] at hlo
  have hTe : (R i).Term = T → m.Term = T := fun e => by omega
  -- it stood before
  have hr1 : (R i).Role = 1 := by
   rw [hlo] at h1
   rcases hk with k | k
   ·rw [if_pos k] at h1
    unfold voteP at h1
    split at h1
    ·rename_i g; exact g.2.1
    ·exact h1
   ·rw [if_neg (by omega)] at h1
    unfold appendedP at h1
    split at h1
    ·exact h1
    ·split at h1
     ·exact h1
     ·exact h1
  have b := B hr1
  have hk2 : m.Kind = 2 := (b.kinds m (by simp)).elim (fun g => by omega) id
  rw [if_pos hk2] at hlo
  have hmeT : (R i).Term = T := by
   have := S.me
   rcases Int.lt_or_eq_of_le this.1 with g | g
   ·have := this.2 g; omega
   ·exact g.symm
  have r := C.inv.r i S.i1
  have hlv := r.bs.lv
  have hno := r.nodes
  -- the state behind it
  have key : (takeF (R i) m).2 = [] ∧ (takeF (R i) m).1.Log = (R i).Log ∧ wonB (takeF (R i) m).1 = false ∧ (takeF (R i) m).1.Clock = (R i).Clock ∧ (∀ k : Nat, (R i).Votes[k]? = some true → (takeF (R i) m).1.Votes[k]? = some true) ∧ (m.OK = true → m.Term = T → ∀ j : Nat, m.From = (j : Int) + 1 → (takeF (R i) m).1.Votes[j]? = some true) := by
   rw [hlo] at h1 ⊢
   unfold voteP at h1 ⊢
   split
   ·rename_i g
    rw [if_pos g] at h1
    by_cases hw : wonB (countR (R i) m.From) = true
    ·rw [if_pos hw] at h1
     have := (leadR_log (r := countR (R i) m.From) (h200 i S.i1)).2.1
     dsimp only at h1
     omega
    ·rw [if_neg hw]
     refine ⟨rfl, rfl, by simpa using hw, rfl, fun k hk => ?_, fun _ _ j hj => ?_⟩
     ·show ((R i).Votes.set (m.From - 1).toNat true)[k]? = some true
      rw [List.getElem?_set]
      split
      ·rename_i e
       rw [if_pos (by rw [e]; exact (List.getElem?_eq_some_iff.1 hk).1)]
      ·exact hk
     ·show ((R i).Votes.set (m.From - 1).toNat true)[j]? = some true
      rw [show (m.From - 1).toNat = j by omega, List.getElem?_set_self (by omega)]
   ·rename_i g
    refine ⟨rfl, rfl, b.notyet, rfl, fun _ h => h, fun h2 h3 => absurd ⟨by omega, hr1, h2⟩ g⟩
  obtain ⟨k1, k2, k3, k4, k5, k6⟩ := key
  have happ : rest ++ outs R m = rest := by rw [hout, k1, List.append_nil]
  rw [happ]
  refine ⟨by rw [hRi, k2]; exact b.log, fun x hx => b.kinds x (by simp [hx]), fun x hx => b.asks x (by simp [hx]), by rw [hRi]; exact k3, by rw [hRi]; exact k5 _ b.own, by rw [hRi, k4]; exact b.clock, fun j hj hji => by rw [hRj j hji]; exact b.oth j hj hji, fun j hj hji hjT hnw => ?_⟩
  rw [hRj j hji, hRi]
  rcases b.votes j hj hji hjT hnw with ⟨g, x, hx, g1, g2⟩ | ⟨x, hx, g1, g2, g3, g4⟩ | g
  ·rcases List.mem_cons.1 hx with e | e
   ·rw [e] at g1; omega
   ·exact .inl ⟨g, x, e, g1, g2⟩
  ·rcases List.mem_cons.1 hx with e | e
   ·right; right
    rw [e] at g2 g3 g4
    exact k6 g3 g4 j g2
   ·exact .inr (.inl ⟨x, e, g1, g2, g3, g4⟩)
  ·exact .inr (.inr (k5 j g))
theorem Alive.keep {out : List TMsg} {j : Nat} (h : Alive (m :: rest) j) (hm : ¬ ((m.Kind = 3 ∧ vto m = j) ∨ (m.Kind = 4 ∧ m.From = (j : Int) + 1))) : Alive (rest ++ out) j := mem_rest h hm
theorem SC.step (C : CI n s R G (m :: rest)) (h200 : ∀ j, j < n → (R j).Log.length < 200) (S : SA n i T R0 R (m :: rest)) (B : SB n i T R0 R (m :: rest)) (D : SC n i T R (m :: rest)) : SC n i T (nxt R m) (rest ++ outs R m) := by
 have hm := C.mail m (by simp)
 have hto := hm.to
 have hfr := hm.frm
 intro h1
 rcases S.star m (by simp) with ⟨hf, hk, hT, hvi⟩ | ⟨ht, hfi, hk, hT⟩
 ·have hne := vto_from hf hto.1 hvi
  have hRi : nxt R m i = R i := upd_ne _ _ (fun e => hvi e.symm)
  have hRv : nxt R m (vto m) = (takeF (R (vto m)) m).1 := upd_i _ _ _
  have hRj : ∀ j, j ≠ vto m → nxt R m j = R j := fun j hj => upd_ne _ _ hj
  rw [hRi] at h1
  have d := D h1
  have hvn := C.vn
  have hmeT : (R i).Term = T := by
   have := S.me
   rcases Int.lt_or_eq_of_le this.1 with g | g
   ·have := this.2 g; omega
   ·exact g.symm
  -- one leads a term
  have hnol : ¬ ((R (vto m)).Role = 2 ∧ (R (vto m)).Term = T) := fun ⟨g1, g2⟩ => by
   obtain ⟨x, x1, x2, _⟩ := (C.inv.r _ hvn).l2 g1
   obtain ⟨y, y1, y2, _⟩ := (C.inv.r i S.i1).l2 h1
   rw [g2] at x1
   rw [hmeT, x1] at y1
   cases y1
   omega
  have hFi : ((vto m : Nat) : Int) + 1 = m.To := by show (((m.To - 1).toNat : Nat) : Int) + 1 = m.To; omega
  have key : (Fol i T (R (vto m)) → Fol i T (takeF (R (vto m)) m).1) ∧ (m.Kind = 3 → ∃ l, outs R m = [l] ∧ l.Kind = 4 ∧ l.From = m.To) ∧ (∀ l ∈ outs R m, l.From = m.To ∧ (l.Kind = 4 → m.Kind = 3 ∧ (l.Term = T → Fol i T (takeF (R (vto m)) m).1))) := by
   rcases Int.lt_or_le m.Term (R (vto m)).Term with hh | hh
   ·obtain ⟨r1, l, r2, r3⟩ := right_hi C hk hne hh
    refine ⟨fun g => by rw [r1]; exact g, fun k => ⟨l, r2, by rw [r3.2.2.2, k]; rfl, r3.1⟩, fun x hx => ?_⟩
    rw [r2] at hx
    rw [List.mem_singleton.1 hx]
    refine ⟨r3.1, fun k => ⟨by rw [r3.2.2.2] at k; omega, fun g => ?_⟩⟩
    rw [r3.2.2.1] at g; omega
   ·rcases hk with k | k
    ·obtain ⟨q1, q2, q3, q4, q5, l, q6, q7, q8⟩ := right_ask C k hne hh
     refine ⟨fun g => ?_, fun k3 => by omega, fun x hx => ?_⟩
     ·obtain ⟨e1, e2⟩ := q5 (by rw [g.1]; omega)
      exact ⟨by rw [q1]; exact hT, by rw [e1]; exact g.2.1, by rw [e2]; exact g.2.2.1, q4.elim (fun e => by rw [e]; exact g.2.2.2) (fun e => e.1)⟩
     ·rw [q6] at hx
      rw [List.mem_singleton.1 hx]
      exact ⟨q7.1, fun g => by rw [q7.2.2.2] at g; omega⟩
    ·obtain ⟨q1, q2, q3, q4⟩ := right_app C k hne hh hf
     rw [hT] at q3
     obtain ⟨q5, l, q6, q7⟩ := q3 hnol
     refine ⟨fun _ => q5, fun _ => ⟨l, q6, q7.2.2.2, q7.1⟩, fun x hx => ?_⟩
     rw [q6] at hx
     rw [List.mem_singleton.1 hx]
     exact ⟨q7.1, fun _ => ⟨k, fun _ => q5⟩⟩
  obtain ⟨k1, k2, k3⟩ := key
  have al : ∀ j, Alive (m :: rest) j → Alive (rest ++ outs R m) j := fun j h => by
   by_cases hc : (m.Kind = 3 ∧ vto m = j) ∨ (m.Kind = 4 ∧ m.From = (j : Int) + 1)
   ·rcases hc with ⟨c1, c2⟩ | ⟨c1, _⟩
    ·obtain ⟨l, l1, l2, l3⟩ := k2 c1
     exact ⟨l, by rw [l1]; simp, .inr ⟨l2, by rw [l3, ← hFi, c2]⟩⟩
    ·omega
   ·exact h.keep hc
  have fk : ∀ j, Fol i T (R j) → Fol i T (nxt R m j) := fun j h => by
   by_cases e : j = vto m
   ·subst e; rw [hRv]; exact k1 h
   ·rw [hRj j e]; exact h
  refine ⟨fun j hj hji => (d.go j hj hji).imp (al j) fun g => ?_, fun j hj hji x hx x1 x2 x3 => ?_, ?_⟩
  ·unfold Done at g ⊢
   rw [hRi]
   exact ⟨g.1, g.2.1, fk j g.2.2⟩
  ·rcases List.mem_append.1 hx with g | g
   ·exact fk j (d.fol j hj hji x (by simp [g]) x1 x2 x3)
   ·obtain ⟨g1, g2⟩ := k3 x g
    have : j = vto m := by omega
    subst this
    rw [hRv]
    exact (g2 x1).2 x3
  ·rw [hRi]
   exact d.com.imp id fun ⟨j, g1, g2, g3⟩ => ⟨j, g1, g2, al j g3⟩
 ·have hvi : vto m = i := by show (m.To - 1).toNat = i; omega
  have hne : m.From ≠ m.To := by omega
  have hRi : nxt R m i = (takeF (R i) m).1 := by unfold nxt; rw [hvi, upd_i]
  have hRj : ∀ j, j ≠ i → nxt R m j = R j := fun j hj => by unfold nxt; rw [hvi]; exact upd_ne _ _ hj
  have hout : outs R m = (takeF (R i) m).2 := by unfold outs; rw [hvi]
  rw [hRi] at h1
  rcases Int.lt_or_le (R i).Term m.Term with hh | hh
  ·obtain ⟨q1, _⟩ := left_hi C hk hne (by rw [hvi]; exact hh)
   rw [hvi] at q1; omega
  have hlo := left_lo C hk hne (by rw [hvi]; exact hh)
  rw [hvi] at hlo
  have r := C.inv.r i S.i1
  have hlv := r.bs.lv
  have hlm := r.bs.lm
  have hlx := r.bs.lx
  have hno := r.nodes
  have hmr := r.me
  obtain ⟨j0, hj0⟩ : ∃ j0 : Nat, m.From = (j0 : Int) + 1 := ⟨(m.From - 1).toNat, by omega⟩
  have hj0n : j0 < n := by omega
  have hj0i : j0 ≠ i := fun e => hfi (by omega)
  by_cases hr1 : (R i).Role = 1
  ·-- chosen by this vote
   have b := B hr1
   have hk2 : m.Kind = 2 := (b.kinds m (by simp)).elim (fun g => by omega) id
   rw [if_pos hk2] at hlo
   rw [hlo] at h1
   unfold voteP at h1
   split at h1
   case isFalse => dsimp only at h1; omega
   rename_i g
   by_cases hw : wonB (countR (R i) m.From) = true
   case neg =>
    rw [if_neg hw] at h1
    have : (R i).Role = 2 := h1
    omega
   have hval : takeF (R i) m = (leadR (countR (R i) m.From), bc letterE (leadR (countR (R i) m.From))) := by
    rw [hlo]; unfold voteP; rw [if_pos g, if_pos hw]
   have hbc := countR_bs (v := m.From) r.bs
   obtain ⟨l1, l2, l3, l4, l5, l6, l7⟩ := leadR_log (r := countR (R i) m.From) (h200 i S.i1)
   have hall : ∀ j, j < n → j ≠ i → Alive (rest ++ outs R m) j := fun j hj hji => by
    obtain ⟨l, x1, x2⟩ := bc_all (leadR_bs hbc) (i := i) (n := n) (by rw [l6]; exact hmr) (by rw [l7]; exact hno) hj hji letterE (fun to => rfl)
    have x3 : l.Kind = 3 := by
     unfold bc at x1
     obtain ⟨to, _, rfl⟩ := List.mem_map.1 x1
     rfl
    exact ⟨l, by rw [hout, hval]; simp [x1], .inl ⟨x3, x2⟩⟩
   refine ⟨fun j hj hji => .inl (hall j hj hji), fun j hj hji x hx x1 x2 x3 => ?_, .inr ⟨j0, hj0n, hj0i, hall j0 hj0n hj0i⟩⟩
   rcases List.mem_append.1 hx with e | e
   ·have := b.kinds x (by simp [e]); omega
   ·rw [hout, hval] at e
    unfold bc at e
    obtain ⟨to, _, rfl⟩ := List.mem_map.1 e
    have : (3 : Int) = 4 := x1
    omega
  ·-- it led before
   have hr2 : (R i).Role = 2 := by
    rw [hlo] at h1
    rcases hk with k | k
    ·rw [if_pos k] at h1
     unfold voteP at h1
     rw [if_neg (fun g => hr1 g.2.1)] at h1
     exact h1
    ·rw [if_neg (by omega)] at h1
     unfold appendedP at h1
     split at h1
     ·exact h1
     ·split at h1
      ·exact h1
      ·exact h1
   have d := D hr2
   have hmeT : (R i).Term = T := by
    have := S.me
    rcases Int.lt_or_eq_of_le this.1 with g | g
    ·have := this.2 g; omega
    ·exact g.symm
   have hmT : m.Term = T := by omega
   by_cases k2 : m.Kind = 2
   ·rw [if_pos k2] at hlo
    unfold voteP at hlo
    rw [if_neg (fun g => hr1 g.2.1)] at hlo
    have happ : rest ++ outs R m = rest ++ [] := by rw [hout, hlo]
    have hall : nxt R m = R := by unfold nxt; rw [hvi, hlo]; exact upd_self R i
    rw [happ, hall]
    have al : ∀ j, Alive (m :: rest) j → Alive (rest ++ []) j := fun j h => h.keep (by omega)
    exact ⟨fun j hj hji => (d.go j hj hji).imp (al j) id, fun j hj hji x hx => d.fol j hj hji x (by rw [List.append_nil] at hx; simp [hx]), d.com.imp id fun ⟨j, g1, g2, g3⟩ => ⟨j, g1, g2, al j g3⟩⟩
   ·have k4 : m.Kind = 4 := by omega
    rw [if_neg k2] at hlo
    unfold appendedP at hlo
    rw [if_neg (fun g => g.elim (fun g => by omega) (fun g => g hr2))] at hlo
    have hfol0 := d.fol j0 hj0n hj0i m (by simp) k4 hj0 hmT
    have al : ∀ j, j ≠ j0 → Alive (m :: rest) j → Alive (rest ++ outs R m) j := fun j hj h => h.keep (by omega)
    have hml := match_len C.inv S.i1 hr2 hfr
    have fj : ∀ j, j ≠ i → Fol i T (R j) → Fol i T (nxt R m j) := fun j hji h => by rw [hRj j hji]; exact h
    have folk : ∀ (hk3 : ∀ x ∈ outs R m, x.Kind = 3), ∀ j, j < n → j ≠ i → ∀ x ∈ rest ++ outs R m, x.Kind = 4 → x.From = (j : Int) + 1 → x.Term = T → Fol i T (nxt R m j) := fun hk3 j hj hji x hx x1 x2 x3 => by
     rcases List.mem_append.1 hx with g | g
     ·exact fj j hji (d.fol j hj hji x (by simp [g]) x1 x2 x3)
     ·have := hk3 x g; omega
    cases ho : m.OK
    ·-- it goes back
     rw [ho, if_neg (by decide)] at hlo
     have hl : outs R m = [letterE (backR (R i) m) m.From] := by rw [hout, hlo]
     have ha0 : Alive (rest ++ outs R m) j0 := ⟨letterE (backR (R i) m) m.From, by rw [hl]; simp, .inl ⟨rfl, by show (m.From - 1).toNat = j0; omega⟩⟩
     have hk3 : ∀ x ∈ outs R m, x.Kind = 3 := fun x hx => by rw [hl] at hx; rw [List.mem_singleton.1 hx]; rfl
     refine ⟨fun j hj hji => ?_, folk hk3, .inr ⟨j0, hj0n, hj0i, ha0⟩⟩
     by_cases e : j = j0
     ·subst e; exact .inl ha0
     ·refine (d.go j hj hji).imp (al j e) fun g => ?_
      unfold Done at g ⊢
      rw [hRi, hlo]
      refine ⟨g.1, ?_, fj j hji g.2.2⟩
      have := (lag_set (a := backN (R i) m) (b := 0) r.bs (f := m.From) (to := (j : Int) + 1) ⟨by omega, by omega⟩ (by omega)).1
      rw [if_neg (by omega)] at this
      exact this.trans g.2.1
    ·rw [ho, if_pos rfl] at hlo
     have hfar : farM (R i) m = max (mtOf (R i) m.From) (min m.Index ((R i).Log.length : Int)) := rfl
     have hset : ∀ to, 1 ≤ to → nextOf (farR (R i) m) to = (if m.From = to then farM (R i) m + 1 else nextOf (R i) to) ∧ mtOf (farR (R i) m) to = (if m.From = to then farM (R i) m else mtOf (R i) to) := fun to h1 => lag_set (a := farM (R i) m + 1) (b := farM (R i) m) r.bs ⟨by omega, by omega⟩ h1
     have hdone : ∀ j, j < n → j ≠ i → j ≠ j0 → Done i T R j → Done i T (nxt R m) j := fun j hj hji e g => by
      unfold Done at g ⊢
      rw [hRi, hlo]
      obtain ⟨e1, e2⟩ := hset ((j : Int) + 1) (by omega)
      rw [if_neg (by omega)] at e1 e2
      exact ⟨e2.trans g.1, e1.trans g.2.1, fj j hji g.2.2⟩
     have hk3 : ∀ x ∈ outs R m, x.Kind = 3 := fun x hx => by
      rw [hout, hlo] at hx
      dsimp only at hx
      split at hx
      ·rw [List.mem_singleton.1 hx]; rfl
      ·cases hx
     by_cases hgt : ((R i).Log.length : Int) > farM (R i) m
     ·have hl : outs R m = [letterE (farR (R i) m) m.From] := by rw [hout, hlo]; dsimp only; rw [if_pos hgt]
      have ha0 : Alive (rest ++ outs R m) j0 := ⟨letterE (farR (R i) m) m.From, by rw [hl]; simp, .inl ⟨rfl, by show (m.From - 1).toNat = j0; omega⟩⟩
      refine ⟨fun j hj hji => ?_, folk hk3, .inr ⟨j0, hj0n, hj0i, ha0⟩⟩
      by_cases e : j = j0
      ·subst e; exact .inl ha0
      ·exact (d.go j hj hji).imp (al j e) (hdone j hj hji e)
     ·have hfl : farM (R i) m = ((R i).Log.length : Int) := by omega
      have hd0 : Done i T (nxt R m) j0 := by
       unfold Done
       rw [hRi, hlo]
       obtain ⟨e1, e2⟩ := hset ((j0 : Int) + 1) (by omega)
       rw [if_pos hj0] at e1 e2
       exact ⟨e2.trans hfl, by rw [e1, hfl]; rfl, fj j0 hj0i hfol0⟩
      have hgo : ∀ j, j < n → j ≠ i → Alive (rest ++ outs R m) j ∨ Done i T (nxt R m) j := fun j hj hji => by
       by_cases e : j = j0
       ·subst e; exact .inr hd0
       ·exact (d.go j hj hji).imp (al j e) (hdone j hj hji e)
      refine ⟨hgo, folk hk3, ?_⟩
      by_cases hex : ∃ j, j < n ∧ j ≠ i ∧ Alive (rest ++ outs R m) j
      ·exact .inr hex
      ·left
       rw [hRi, hlo]
       have hx := (C.xt i S.i1).last hr2
       refine nextC_all (fun a ha => ?_) (by rw [List.length_set]; have := r.bs.nodes; omega) (fun e => ?_) hx.1 r.may.commit.2
       ·obtain ⟨k, hk'⟩ := List.getElem?_of_mem ha
        have hkl := (List.getElem?_eq_some_iff.1 hk').1
        rw [List.length_set] at hkl
        have hval : a = mtOf (farR (R i) m) ((k : Int) + 1) := by
         show a = ((R i).Match.set (m.From - 1).toNat (farM (R i) m)).getD ((k : Int) + 1 - 1).toNat 0
         rw [show ((k : Int) + 1 - 1).toNat = k by omega, List.getD_eq_getElem?_getD, hk']; rfl
        rw [hval]
        by_cases eki : k = i
        ·subst eki
         rw [(hset ((k : Int) + 1) (by omega)).2, if_neg (by omega)]
         have := hx.2.2.2.1
         rw [hmr] at this
         exact this
        ·rcases hgo k (by omega) eki with g | g
         ·exact absurd ⟨k, by omega, eki, g⟩ hex
         ·have := g.1
          rw [hRi, hlo] at this
          exact this
       ·have : ((R i).Match.set (m.From - 1).toNat (farM (R i) m)).length = 0 := by rw [e]; rfl
        rw [List.length_set] at this
        have := r.bs.nodes
        omega
end
end Go.Proofs.Ythpokjkbcdfhiaa.Told.RA
