/- States that may be stay such: under ticks, proposals, letters. -/
import Derived.Test.YthpokjkbcdfhiaaTRf6
namespace Go.Proofs.Ythpokjkbcdfhiaa.Told.RA
open Go Go.Proofs.Ythpokjkbcdfhiaa.Vam Go.Proofs.Ythpokjkbcdfhiaa.Told Go.Proofs.Ythpokjkbcdfhiaa.Told.HP
set_option linter.unusedSimpArgs false
set_option linter.unusedVariables false
theorem Rise.snoc' : ∀ {l : List TEntry} {a t : Int} {e : TEntry}, Rise a t l → t ≤ e.Term → a ≤ e.Term → Rise a e.Term (l ++ [e])
 | [], a, t, e, _, _, ha => ⟨ha, Int.le_refl _, trivial⟩
 | x :: l, a, t, e, h, ht, ha => ⟨h.1, Int.le_trans h.2.1 ht, Rise.snoc' h.2.2 ht (Int.le_trans h.2.1 ht)⟩
theorem Rise.app : ∀ {p q : List TEntry} {a b T : Int}, Rise a b p → a ≤ b → b ≤ T → Rise b T q → Rise a T (p ++ q)
 | [], q, a, b, T, _, h, _, k => k.weak h
 | x :: p, q, a, b, T, h, _, hT, k => ⟨h.1, Int.le_trans h.2.1 hT, Rise.app h.2.2 h.2.1 hT k⟩
theorem Rise.take : ∀ {l : List TEntry} {a t : Int} (n : Nat), Rise a t l → Rise a t (l.take n)
 | [], _, _, n, _ => by simp [Rise]
 | x :: l, _, _, 0, _ => trivial
 | x :: l, _, _, n + 1, h => ⟨h.1, h.2.1, Rise.take n h.2.2⟩
theorem Rise.last : ∀ {l : List TEntry} {a t : Int} {x : TEntry}, Rise a t l → l.getLast? = some x → Rise a x.Term l
 | [], _, _, _, _, hx => by simp at hx
 | [e], a, t, x, h, hx => by simp at hx; subst hx; exact ⟨h.1, Int.le_refl _, trivial⟩
 | e :: f :: l, a, t, x, h, hx => by
  have ih := Rise.last (l := f :: l) h.2.2 (by simpa using hx)
  exact ⟨h.1, Int.le_trans ih.1 ih.2.1, ih⟩
theorem jn3_rise : ∀ {s m u : List TEntry} {a T : Int}, jn3 s m = some u → Rise a T m → Rise a T u
 | s, [], u, _, _, h, _ => by cases s <;> simp [jn3] at h
 | [], e :: m, u, _, _, h, k => by simp [jn3] at h; subst h; exact k
 | x :: s, e :: m, u, a, T, h, k => by
  by_cases hT : x.Term = e.Term
  ·rw [jn3, if_pos hT] at h
   cases h3 : jn3 s m with
   | none => rw [h3] at h; cases h
   | some v =>
    rw [h3] at h
    cases h
    exact ⟨hT ▸ k.1, hT ▸ k.2.1, jn3_rise h3 (hT ▸ k.2.2)⟩
  ·rw [jn3, if_neg hT] at h
   cases h
   exact k
theorem jn3_len : ∀ {s m u : List TEntry}, jn3 s m = some u → u.length = m.length
 | s, [], u, h => by cases s <;> simp [jn3] at h
 | [], e :: m, u, h => by simp [jn3] at h; subst h; rfl
 | x :: s, e :: m, u, h => by
  by_cases hT : x.Term = e.Term
  ·rw [jn3, if_pos hT] at h
   cases h3 : jn3 s m with
   | none => rw [h3] at h; cases h
   | some v => rw [h3] at h; cases h; simp [jn3_len h3]
  ·rw [jn3, if_neg hT] at h
   cases h; rfl
theorem jn3_none : ∀ {s m : List TEntry}, (∀ (k : Nat) (e : TEntry), m[k]? = some e → ∃ x : TEntry, s[k]? = some x ∧ x.Term = e.Term) ↔ jn3 s m = none
 | s, [] => by cases s <;> simp [jn3]
 | [], e :: m => by
  simp only [jn3, reduceCtorEq, iff_false]
  intro h
  obtain ⟨x, hx, _⟩ := h 0 e rfl
  simp at hx
 | x :: s, e :: m => by
  constructor
  ·intro h
   obtain ⟨y, hy, hyt⟩ := h 0 e rfl
   simp at hy
   subst hy
   rw [jn3, if_pos hyt, (jn3_none (s := s) (m := m)).1 (fun k f hf => by simpa using h (k + 1) f (by simpa using hf))]; rfl
  ·intro h k f hf
   by_cases hT : x.Term = e.Term
   ·rw [jn3, if_pos hT] at h
    have h3 : jn3 s m = none := by
     cases h3 : jn3 s m with
     | none => rfl
     | some v => rw [h3] at h; cases h
    cases k with
    | zero => simp at hf; subst hf; exact ⟨x, rfl, hT⟩
    | succ k => simpa using jn3_none.2 h3 k f (by simpa using hf)
   ·rw [jn3, if_neg hT] at h; cases h
theorem nextC_bd {m : List Int} {l : List TEntry} {t c : Int} (h : c ≤ (l.length : Int)) : c ≤ nextC m l t c ∧ nextC m l t c ≤ (l.length : Int) := by
 unfold nextC
 split
 ·rename_i g; omega
 ·omega
section
variable {r : TRaft}
theorem propR_may {e : TEntry} (h : MayP r) (hl : r.Log.length < 200) (ht : 1 ≤ r.Term) : MayP (propR r e) where
 nodes := h.nodes
 me := h.me
 wait := h.wait
 term := h.term
 vote := h.vote
 leader := h.leader
 len := by show (r.Log ++ [putE r e]).length ≤ 200; simp; omega
 commit := by
  have hc := h.commit
  have := nextC_bd (m := r.Match.set (r.Me - 1).toNat ((r.Log ++ [putE r e]).length : Int)) (l := r.Log ++ [putE r e]) (t := r.Term) (c := r.Commit) (by simp; omega)
  exact ⟨by show 0 ≤ nextC _ _ _ _; omega, this.2⟩
 role := h.role
 clock := h.clock
 votes := h.votes
 next := h.next
 mtch := by show ((r.Match.set _ _).length : Int) = r.Nodes; rw [List.length_set]; exact h.mtch
 rise := Rise.snoc' (e := putE r e) h.rise (Int.le_refl _) ht
theorem lead1_may (h : MayP r) : MayP (lead1 r) where
 nodes := h.nodes
 me := h.me
 wait := h.wait
 term := h.term
 vote := h.vote
 leader := ⟨by have := h.me; show 0 ≤ r.Me; omega, h.me.2⟩
 len := h.len
 commit := h.commit
 role := ⟨by show (0 : Int) ≤ 2; decide, by show (2 : Int) ≤ 2; decide⟩
 clock := Int.le_refl _
 votes := h.votes
 next := by have := h.nodes; show ((List.replicate _ _).length : Int) = r.Nodes; simp; omega
 mtch := by have := h.nodes; show (((List.replicate _ _).set _ _).length : Int) = r.Nodes; simp; omega
 rise := h.rise
theorem leadR_may (h : MayP r) (ht : 1 ≤ r.Term) : MayP (leadR r) := by
 unfold leadR
 split
 ·exact propR_may (lead1_may h) (by assumption) ht
 ·exact lead1_may h
theorem stand1_may (h : MayP r) : MayP (stand1 r) where
 nodes := h.nodes
 me := h.me
 wait := h.wait
 term := by have := h.term; show 0 ≤ r.Term + 1; omega
 vote := ⟨by have := h.me; show 0 ≤ r.Me; omega, h.me.2⟩
 leader := ⟨Int.le_refl _, by have := h.nodes; show 0 ≤ r.Nodes; omega⟩
 len := h.len
 commit := h.commit
 role := ⟨by show (0 : Int) ≤ 1; decide, by show (1 : Int) ≤ 2; decide⟩
 clock := Int.le_refl _
 votes := by have := h.nodes; show (((List.replicate _ _).set _ _).length : Int) = r.Nodes; simp; omega
 next := h.next
 mtch := h.mtch
 rise := h.rise.up (by show r.Term ≤ r.Term + 1; omega)
theorem yieldR_may {t : Int} (h : MayP r) (ht : r.Term ≤ t) : MayP (yieldR r t) where
 nodes := h.nodes
 me := h.me
 wait := h.wait
 term := by have := h.term; show 0 ≤ t; omega
 vote := ⟨Int.le_refl _, by have := h.nodes; show 0 ≤ r.Nodes; omega⟩
 leader := ⟨Int.le_refl _, by have := h.nodes; show 0 ≤ r.Nodes; omega⟩
 len := h.len
 commit := h.commit
 role := ⟨Int.le_refl _, by show (0 : Int) ≤ 2; decide⟩
 clock := h.clock
 votes := by have := h.nodes; show ((List.replicate _ _).length : Int) = r.Nodes; simp; omega
 next := h.next
 mtch := h.mtch
 rise := h.rise.up ht
theorem voteR_may {v : Int} (h : MayP r) (hv : 0 ≤ v ∧ v ≤ r.Nodes) : MayP (voteR r v) :=
 ⟨h.nodes, h.me, h.wait, h.term, hv, h.leader, h.len, h.commit, h.role, Int.le_refl _, h.votes, h.next, h.mtch, h.rise⟩
theorem countR_may {v : Int} (h : MayP r) : MayP (countR r v) :=
 ⟨h.nodes, h.me, h.wait, h.term, h.vote, h.leader, h.len, h.commit, h.role, h.clock, by show ((r.Votes.set _ _).length : Int) = r.Nodes; rw [List.length_set]; exact h.votes, h.next, h.mtch, h.rise⟩
theorem follR_may {v : Int} (h : MayP r) (hv : 0 ≤ v ∧ v ≤ r.Nodes) : MayP (follR r v) :=
 ⟨h.nodes, h.me, h.wait, h.term, h.vote, hv, h.len, h.commit, ⟨Int.le_refl _, by show (0 : Int) ≤ 2; decide⟩, Int.le_refl _, h.votes, h.next, h.mtch, h.rise⟩
theorem tookR_may {v c : Int} {l : List TEntry} (h : MayP r) (hv : 0 ≤ v ∧ v ≤ r.Nodes) (hl : l.length ≤ 200) (hc : 0 ≤ c ∧ c ≤ (l.length : Int)) (hr : Rise 1 r.Term l) : MayP (tookR r v l c) :=
 ⟨h.nodes, h.me, h.wait, h.term, h.vote, hv, hl, hc, ⟨Int.le_refl _, by show (0 : Int) ≤ 2; decide⟩, Int.le_refl _, h.votes, h.next, h.mtch, hr⟩
theorem backR_may {m : TMsg} (h : MayP r) : MayP (backR r m) :=
 ⟨h.nodes, h.me, h.wait, h.term, h.vote, h.leader, h.len, h.commit, h.role, h.clock, h.votes, by show ((r.Next.set _ _).length : Int) = r.Nodes; rw [List.length_set]; exact h.next, h.mtch, h.rise⟩
theorem farR_may {m : TMsg} (h : MayP r) : MayP (farR r m) :=
 ⟨h.nodes, h.me, h.wait, h.term, h.vote, h.leader, h.len, by have := h.commit; have := nextC_bd (m := r.Match.set (m.From - 1).toNat (farM r m)) (l := r.Log) (t := r.Term) (c := r.Commit) h.commit.2; exact ⟨by show 0 ≤ nextC _ _ _ _; omega, this.2⟩, h.role, h.clock, h.votes, by show ((r.Next.set _ _).length : Int) = r.Nodes; rw [List.length_set]; exact h.next, by show ((r.Match.set _ _).length : Int) = r.Nodes; rw [List.length_set]; exact h.mtch, h.rise⟩
end
structure Fair (r : TRaft) (m : TMsg) : Prop where
 rise : Rise (if m.Index = 0 then 1 else m.LogTerm) m.Term m.Entries
 one : ∀ e ∈ m.Entries, 1 ≤ e.Term
 old : ∀ (k : Nat) (e : TEntry), m.Entries[k]? = some e → m.Index + k + 1 ≤ r.Commit → termAt r.Log (m.Index + k + 1) = e.Term
theorem termAt_pos {l : List TEntry} {i : Int} (h1 : 1 ≤ i) (h2 : i ≤ (l.length : Int)) : ∃ e, l[(i - 1).toNat]? = some e ∧ termAt l i = e.Term := by
 have hx : l[(i - 1).toNat]? = some l[(i - 1).toNat] := List.getElem?_eq_getElem (by omega)
 exact ⟨_, hx, by unfold termAt; rw [if_pos h1, hx]⟩
theorem join_may {r : TRaft} {m : TMsg} (h : MayP r) (hT : r.Term ≤ m.Term) (hi : 0 ≤ m.Index) (hh : hasB r.Log m.Index m.LogTerm = true) (hf : Fair r m) :
  Rise 1 m.Term (joinF r.Log m.Index m.Entries) ∧ r.Commit ≤ ((joinF r.Log m.Index m.Entries).length : Int) ∧ m.Index + (m.Entries.length : Int) ≤ ((joinF r.Log m.Index m.Entries).length : Int) ∧ m.Index ≤ (r.Log.length : Int) := by
 have hc := h.commit
 have hil : m.Index ≤ (r.Log.length : Int) := by
  unfold hasB at hh
  by_cases h0 : m.Index = 0
  ·omega
  ·rw [beq_eq_false_iff_ne.2 h0, Bool.false_or] at hh
   simp only [Bool.and_eq_true, decide_eq_true_eq] at hh
   exact hh.2.1
 unfold joinF jn2
 rw [if_pos ⟨hi, hil⟩]
 have hr := h.rise
 cases h3 : jn3 (r.Log.drop m.Index.toNat) m.Entries with
 | none =>
  rw [Option.getD_none, List.take_append_drop]
  refine ⟨hr.up hT, hc.2, ?_, hil⟩
  have hn := jn3_none.2 h3
  rcases Nat.eq_zero_or_pos m.Entries.length with h0 | h0
  ·omega
  ·obtain ⟨x, hx, _⟩ := hn (m.Entries.length - 1) _ (List.getElem?_eq_getElem (by omega))
   have := (List.getElem?_eq_some_iff.1 hx).1
   simp at this
   omega
 | some u =>
  rw [Option.getD_some]
  have hul := jn3_len h3
  have hlen : ((r.Log.take m.Index.toNat ++ u).length : Int) = m.Index + (m.Entries.length : Int) := by simp; omega
  refine ⟨?_, ?_, by omega, hil⟩
  ·by_cases h0 : m.Index = 0
   ·have := hf.rise
    rw [if_pos h0] at this
    rw [h0]; simpa using jn3_rise h3 this
   ·have hR := hf.rise
    rw [if_neg h0] at hR
    unfold hasB at hh
    rw [beq_eq_false_iff_ne.2 h0, Bool.false_or] at hh
    simp only [Bool.and_eq_true, decide_eq_true_eq, beq_iff_eq] at hh
    obtain ⟨e, he, ht⟩ := termAt_pos hh.1 hil
    have hlast : (r.Log.take m.Index.toNat).getLast? = some e := by
     rw [List.getLast?_eq_getElem?, List.length_take, Nat.min_eq_left (by omega), List.getElem?_take_of_lt (by omega)]
     rw [← he]; congr 1; omega
    have hp := (hr.take m.Index.toNat).last hlast
    have hall := hr.all e (List.mem_of_getElem? he)
    rw [← ht, hh.2.2] at hp
    exact hp.app (by rw [← hh.2.2, ht]; exact hall.1) (by rw [← hh.2.2, ht]; omega) (jn3_rise h3 hR)
  ·rw [hlen]
   rcases Int.lt_or_le (m.Index + (m.Entries.length : Int)) r.Commit with hlt | hle
   ·exfalso
    have : jn3 (r.Log.drop m.Index.toNat) m.Entries = none := jn3_none.1 fun k e he => by
     have hk := (List.getElem?_eq_some_iff.1 he).1
     obtain ⟨x, hx, hxt⟩ := termAt_pos (l := r.Log) (i := m.Index + k + 1) (by omega) (by omega)
     refine ⟨x, ?_, by rw [← hxt]; exact hf.old k e he (by omega)⟩
     rw [List.getElem?_drop, ← hx]; congr 1; omega
    rw [h3] at this; cases this
   ·exact hle
structure Good (r : TRaft) : Prop where
 may : MayP r
 bs : Bs r
 term : 1 ≤ r.Term
theorem bc_len {g : TRaft → Int → TMsg} {r : TRaft} (h : 1 ≤ r.Nodes) : ((bc g r).length : Int) ≤ r.Nodes := by
 have := oth_len r.Me r.Nodes.toNat 1
 unfold bc others
 rw [List.length_map]; omega
structure Goes (r x : TRaft) (out : List TMsg) : Prop where
 good : Good x
 term : r.Term ≤ x.Term
 commit : r.Commit ≤ x.Commit
 me : x.Me = r.Me
 nodes : x.Nodes = r.Nodes
 out : (out.length : Int) ≤ r.Nodes
 vote : x.Term = r.Term → r.Vote ≠ 0 → x.Vote = r.Vote
theorem leadR_fields (r : TRaft) : (leadR r).Term = r.Term ∧ (leadR r).Me = r.Me ∧ (leadR r).Nodes = r.Nodes ∧ (leadR r).Vote = r.Vote := by unfold leadR; split <;> exact ⟨rfl, rfl, rfl, rfl⟩
theorem leadR_commit {r : TRaft} (h : r.Commit ≤ (r.Log.length : Int)) : r.Commit ≤ (leadR r).Commit := by
 unfold leadR
 split
 ·exact (nextC_bd (l := (lead1 r).Log ++ [putE (lead1 r) sealE]) (by show r.Commit ≤ ((r.Log ++ _).length : Int); simp; omega)).1
 ·exact Int.le_refl _
theorem leadR_goes {r : TRaft} (h : Good r) : Goes r (leadR r) (bc letterE (leadR r)) := by
 obtain ⟨f1, f2, f3, f4⟩ := leadR_fields r
 exact ⟨⟨leadR_may h.may h.term, leadR_bs h.bs, by rw [f1]; exact h.term⟩, by rw [f1]; exact Int.le_refl _, leadR_commit h.may.commit.2, f2, f3, by rw [← f3]; exact bc_len (by rw [f3]; exact h.may.nodes.1), fun _ _ => f4⟩
theorem goes_refl {r : TRaft} (h : Good r) (out : List TMsg) (ho : out.length ≤ 1) : Goes r r out := ⟨h, Int.le_refl _, Int.le_refl _, rfl, rfl, by have := h.may.nodes; omega, fun _ _ => rfl⟩
theorem takeP_goes {r : TRaft} {m : TMsg} (h : Good r) (hm : Lb m) (h1 : 1 ≤ m.From) (h2 : m.From ≤ r.Nodes) (ht : m.Term ≤ r.Term) (hi : 0 ≤ m.Index) (hf : m.Kind = 3 → m.Term = r.Term → Fair r m) : Goes r (takeP r m).1 (takeP r m).2 := by
 have hN := h.may.nodes
 unfold takeP
 by_cases k1 : m.Kind = 1
 ·rw [if_pos k1]
  unfold askVoteP
  cases hg : grantB r m
  ·exact goes_refl h _ (by simp)
  ·refine ⟨⟨voteR_may h.may ⟨by omega, h2⟩, ⟨h.bs.nodes, h.bs.me, h.bs.lv, h.bs.lx, h.bs.lm, h.bs.len, h.bs.sm, h.bs.term, h.bs.xs, h.bs.ms, ⟨Int.le_refl _, by show (0 : Int) ≤ _; omega⟩⟩, h.term⟩, Int.le_refl _, Int.le_refl _, rfl, rfl, by show (([_] : List TMsg).length : Int) ≤ _; simp; omega, fun _ hv => ?_⟩
   unfold grantB at hg
   simp only [Bool.and_eq_true, Bool.or_eq_true, beq_iff_eq] at hg
   show m.From = r.Vote
   rcases hg.2.1 with g | g
   ·exact absurd g hv
   ·exact g.symm
 rw [if_neg k1]
 by_cases k2 : m.Kind = 2
 ·rw [if_pos k2]
  unfold voteP
  split
  ·have hgc : Good (countR r m.From) := ⟨countR_may h.may, countR_bs h.bs, h.term⟩
   split
   ·have := leadR_goes hgc
    exact ⟨this.good, this.term, this.commit, this.me, this.nodes, this.out, this.vote⟩
   ·exact ⟨hgc, Int.le_refl _, Int.le_refl _, rfl, rfl, by show (0 : Int) ≤ r.Nodes; omega, fun _ _ => rfl⟩
  ·exact goes_refl h _ (by simp)
 rw [if_neg k2]
 by_cases k3 : m.Kind = 3
 ·rw [if_pos k3]
  unfold appendP
  split
  ·exact goes_refl h _ (by simp)
  rename_i c1
  have hT : m.Term = r.Term := by omega
  split
  ·exact goes_refl h _ (by simp)
  have bsF : ∀ l c, l.length ≤ 200 → SmB l → Bs (tookR r m.From l c) := fun l c hl hs => ⟨h.bs.nodes, h.bs.me, h.bs.lv, h.bs.lx, h.bs.lm, hl, hs, h.bs.term, h.bs.xs, h.bs.ms, ⟨Int.le_refl _, by show (0 : Int) ≤ _; omega⟩⟩
  have gf : Good (follR r m.From) := ⟨follR_may h.may ⟨by omega, h2⟩, bsF r.Log r.Commit h.bs.len h.bs.sm, h.term⟩
  split
  ·rename_i hh
   obtain ⟨j1, j2, j3, j4⟩ := join_may h.may (by omega) hi hh (hf k3 hT)
   split
   ·exact ⟨gf, Int.le_refl _, Int.le_refl _, rfl, rfl, by show (([_] : List TMsg).length : Int) ≤ _; simp; omega, fun _ _ => rfl⟩
   ·rename_i c3
    have hc := h.may.commit
    refine ⟨⟨tookR_may h.may ⟨by omega, h2⟩ (by omega) ⟨by omega, by omega⟩ (hT ▸ j1), bsF _ _ (by omega) (fun e he => (join_mem e he).elim (h.bs.sm e) (hm.sm e)), h.term⟩, Int.le_refl _, by show r.Commit ≤ max _ _; omega, rfl, rfl, by show (([_] : List TMsg).length : Int) ≤ _; simp; omega, fun _ _ => rfl⟩
  ·exact ⟨gf, Int.le_refl _, Int.le_refl _, rfl, rfl, by show (([_] : List TMsg).length : Int) ≤ _; simp; omega, fun _ _ => rfl⟩
 rw [if_neg k3]
 unfold appendedP
 split
 ·exact goes_refl h _ (by simp)
 split
 ·refine ⟨⟨farR_may h.may, farR_bs h.bs h1 h2, h.term⟩, Int.le_refl _, (nextC_bd h.may.commit.2).1, rfl, rfl, ?_, fun _ _ => rfl⟩
  split <;> simp <;> omega
 ·exact ⟨⟨backR_may h.may, backR_bs h.bs hm h1 h2, h.term⟩, Int.le_refl _, Int.le_refl _, rfl, rfl, by show (([_] : List TMsg).length : Int) ≤ _; simp; omega, fun _ _ => rfl⟩
theorem takeF_goes {r : TRaft} {m : TMsg} (h : Good r) (hm : Lb m) (hi : 0 ≤ m.Index) (hf : m.Kind = 3 → Fair r m) : Goes r (takeF r m).1 (takeF r m).2 := by
 unfold takeF
 split
 ·rename_i hk
  unfold stepR
  split
  ·rename_i hT
   have hg : Good (yieldR r m.Term) := ⟨yieldR_may h.may (by omega), yieldR_bs h.bs hm.term.1 hm.term.2, by have := h.term; show 1 ≤ m.Term; omega⟩
   have := takeP_goes hg hm hk.2.2.1 hk.2.2.2.1 (Int.le_refl _) hi (fun k _ => let f := hf k; ⟨f.rise, f.one, f.old⟩)
   refine ⟨this.good, by have h2 : m.Term ≤ _ := this.term; omega, this.commit, this.me, this.nodes, this.out, fun ht _ => ?_⟩
   have h2 : m.Term ≤ _ := this.term
   rw [ht] at h2; omega
  ·rename_i hT
   exact takeP_goes h hm hk.2.2.1 hk.2.2.2.1 (by omega) hi (fun k _ => hf k)
 ·exact goes_refl h _ (by simp)
end Go.Proofs.Ythpokjkbcdfhiaa.Told.RA
