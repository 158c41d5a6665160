/- States that may be stay such: under ticks, proposals, letters. -/
import Derived.Test.YthpokjkbcdfhiaaTRf6
namespace Go.Proofs.Ythpokjkbcdfhiaa.Told.RA
open Go Go.Proofs.Ythpokjkbcdfhiaa.Vam Go.Proofs.Ythpokjkbcdfhiaa.Told Go.Proofs.Ythpokjkbcdfhiaa.Told.HP
set_option linter.unusedSimpArgs false
set_option linter.unusedVariables false
theorem Rise.snoc' : ∀ {l : List TEntry} {a t : Int} {e : TEntry}, Rise a t l → t ≤ e.Term → a ≤ e.Term → Rise a e.Term (l ++ [e])
 | [], a, t, e, _, _, ha => ⟨ha, Int.le_refl _, trivial⟩
 | x :: l, a, t, e, h, ht, ha => ⟨h.1, Int.le_trans h.2.1 ht, Rise.snoc' h.2.2 ht (Int.le_trans h.2.1 ht)⟩
theorem Rise.take : ∀ {l : List TEntry} {a t : Int} (n : Nat), Rise a t l → Rise a t (l.take n)
 | [], _, _, n, _ => by simp [Rise]
 | x :: l, _, _, 0, _ => trivial
 | x :: l, _, _, n + 1, h => ⟨h.1, h.2.1, Rise.take n h.2.2⟩
theorem Rise.last : ∀ {l : List TEntry} {a t : Int} {x : TEntry}, Rise a t l → l.getLast? = some x → Rise a x.Term l
 | [], _, _, _, _, hx => by simp at hx
 | [e], a, t, x, h, hx => by simp at hx; subst hx; exact ⟨h.1, Int.le_refl _, trivial⟩
 | e :: f :: l, a, t, x, h, hx => by
  have ih := Rise.last (l := f :: l) h.2.2 (by simpa using hx)
  exact ⟨h.1, Int.le_trans ih.1 ih.2.1, ih⟩
theorem jn3_len : ∀ {s m u : List TEntry}, jn3 s m = some u → u.length = m.length
 | s, [], u, h => by cases s <;> simp [jn3] at h
 | [], e :: m, u, h => by simp [jn3] at h; subst h; rfl
 | x :: s, e :: m, u, h => by
  by_cases hT : x.Term = e.Term
  ·rw [jn3, if_pos hT] at h
   cases h3 : jn3 s m with
   | none => rw [h3] at h; cases h
   | some v => rw [h3] at h; cases h; simp [jn3_len h3]
  ·rw [jn3, if_neg hT] at h
   cases h; rfl
theorem jn3_none : ∀ {s m : List TEntry}, (∀ (k : Nat) (e : TEntry), m[k]? = some e → ∃ x : TEntry, s[k]? = some x ∧ x.Term = e.Term) ↔ jn3 s m = none
 | s, [] => by cases s <;> simp [jn3]
 | [], e :: m => by
  simp only [jn3, reduceCtorEq, iff_false]
  intro h
  obtain ⟨x, hx, _⟩ := h 0 e rfl
  simp at hx
 | x :: s, e :: m => by
  constructor
  ·intro h
   obtain ⟨y, hy, hyt⟩ := h 0 e rfl
   simp at hy
   subst hy
   rw [jn3, if_pos hyt, (jn3_none (s := s) (m := m)).1 (fun k f hf => by simpa using h (k + 1) f (by simpa using hf))]; rfl
  ·intro h k f hf
   by_cases hT : x.Term = e.Term
   ·rw [jn3, if_pos hT] at h
    have h3 : jn3 s m = none := by
     cases h3 : jn3 s m with
     | none => rfl
     | some v => rw [h3] at h; cases h
    cases k with
    | zero => simp at hf; subst hf; exact ⟨x, rfl, hT⟩
    | succ k => simpa using jn3_none.2 h3 k f (by simpa using hf)
   ·rw [jn3, if_neg hT] at h; cases h
theorem nextC_bd {m : List Int} {l : List TEntry} {t c : Int} (h : c ≤ (l.length : Int)) : c ≤ nextC m l t c ∧ nextC m l t c ≤ (l.length : Int) := by
 unfold nextC
 split
 ·rename_i g; omega
 ·omega
section
variable {r : TRaft}
theorem propR_may {e : TEntry} (h : MayP r) (hl : r.Log.length < 200) (ht : 1 ≤ r.Term) : MayP (propR r e) where
 nodes := h.nodes
 me := h.me
 wait := h.wait
 term := h.term
 vote := h.vote
 leader := h.leader
 len := by show (r.Log ++ [putE r e]).length ≤ 200; simp; omega
 commit := by
  have hc := h.commit
  have := nextC_bd (m := r.Match.set (r.Me - 1).toNat ((r.Log ++ [putE r e]).length : Int)) (l := r.Log ++ [putE r e]) (t := r.Term) (c := r.Commit) (by simp; omega)
  exact ⟨by show 0 ≤ nextC _ _ _ _; omega, this.2⟩
 role := h.role
 clock := h.clock
 votes := h.votes
 next := h.next
 mtch := by show ((r.Match.set _ _).length : Int) = r.Nodes; rw [List.length_set]; exact h.mtch
 rise := Rise.snoc' (e := putE r e) h.rise (Int.le_refl _) ht
theorem lead1_may (h : MayP r) : MayP (lead1 r) where
 nodes := h.nodes
 me := h.me
 wait := h.wait
 term := h.term
 vote := h.vote
 leader := ⟨by have := h.me; show 0 ≤ r.Me; omega, h.me.2⟩
 len := h.len
 commit := h.commit
 role := ⟨by show (0 : Int) ≤ 2; decide, by show (2 : Int) ≤ 2; decide⟩
 clock := Int.le_refl _
 votes := h.votes
 next := by have := h.nodes; show ((List.replicate _ _).length : Int) = r.Nodes; simp; omega
 mtch := by have := h.nodes; show (((List.replicate _ _).set _ _).length : Int) = r.Nodes; simp; omega
 rise := h.rise
theorem leadR_may (h : MayP r) (ht : 1 ≤ r.Term) : MayP (leadR r) := by
 unfold leadR
 split
 ·exact propR_may (lead1_may h) (by assumption) ht
 ·exact lead1_may h
theorem stand1_may (h : MayP r) : MayP (stand1 r) where
 nodes := h.nodes
 me := h.me
 wait := h.wait
 term := by have := h.term; show 0 ≤ r.Term + 1; omega
 vote := ⟨by have := h.me; show 0 ≤ r.Me; omega, h.me.2⟩
 leader := ⟨Int.le_refl _, by have := h.nodes; show 0 ≤ r.Nodes; omega⟩
 len := h.len
 commit := h.commit
 role := ⟨by show (0 : Int) ≤ 1; decide, by show (1 : Int) ≤ 2; decide⟩
 clock := Int.le_refl _
 votes := by have := h.nodes; show (((List.replicate _ _).set _ _).length : Int) = r.Nodes; simp; omega
 next := h.next
 mtch := h.mtch
 rise := h.rise.up (by show r.Term ≤ r.Term + 1; omega)
theorem yieldR_may {t : Int} (h : MayP r) (ht : r.Term ≤ t) : MayP (yieldR r t) where
 nodes := h.nodes
 me := h.me
 wait := h.wait
 term := by have := h.term; show 0 ≤ t; omega
 vote := ⟨Int.le_refl _, by have := h.nodes; show 0 ≤ r.Nodes; omega⟩
 leader := ⟨Int.le_refl _, by have := h.nodes; show 0 ≤ r.Nodes; omega⟩
 len := h.len
 commit := h.commit
 role := ⟨Int.le_refl _, by show (0 : Int) ≤ 2; decide⟩
 clock := h.clock
 votes := by have := h.nodes; show ((List.replicate _ _).length : Int) = r.Nodes; simp; omega
 next := h.next
 mtch := h.mtch
 rise := h.rise.up ht
theorem voteR_may {v : Int} (h : MayP r) (hv : 0 ≤ v ∧ v ≤ r.Nodes) : MayP (voteR r v) :=
 ⟨h.nodes, h.me, h.wait, h.term, hv, h.leader, h.len, h.commit, h.role, Int.le_refl _, h.votes, h.next, h.mtch, h.rise⟩
theorem countR_may {v : Int} (h : MayP r) : MayP (countR r v) :=
 ⟨h.nodes, h.me, h.wait, h.term, h.vote, h.leader, h.len, h.commit, h.role, h.clock, by show ((r.Votes.set _ _).length : Int) = r.Nodes; rw [List.length_set]; exact h.votes, h.next, h.mtch, h.rise⟩
theorem follR_may {v : Int} (h : MayP r) (hv : 0 ≤ v ∧ v ≤ r.Nodes) : MayP (follR r v) :=
 ⟨h.nodes, h.me, h.wait, h.term, h.vote, hv, h.len, h.commit, ⟨Int.le_refl _, by show (0 : Int) ≤ 2; decide⟩, Int.le_refl _, h.votes, h.next, h.mtch, h.rise⟩
theorem tookR_may {v c : Int} {l : List TEntry} (h : MayP r) (hv : 0 ≤ v ∧ v ≤ r.Nodes) (hl : l.length ≤ 200) (hc : 0 ≤ c ∧ c ≤ (l.length : Int)) (hr : Rise 1 r.Term l) : MayP (tookR r v l c) :=
 ⟨h.nodes, h.me, h.wait, h.term, h.vote, hv, hl, hc, ⟨Int.le_refl _, by show (0 : Int) ≤ 2; decide⟩, Int.le_refl _, h.votes, h.next, h.mtch, hr⟩
theorem backR_may {m : TMsg} (h : MayP r) : MayP (backR r m) :=
 ⟨h.nodes, h.me, h.wait, h.term, h.vote, h.leader, h.len, h.commit, h.role, h.clock, h.votes, by show ((r.Next.set _ _).length : Int) = r.Nodes; rw [List.length_set]; exact h.next, h.mtch, h.rise⟩
theorem farR_may {m : TMsg} (h : MayP r) : MayP (farR r m) :=
 ⟨h.nodes, h.me, h.wait, h.term, h.vote, h.leader, h.len, by have := h.commit; have := nextC_bd (m := r.Match.set (m.From - 1).toNat (farM r m)) (l := r.Log) (t := r.Term) (c := r.Commit) h.commit.2; exact ⟨by show 0 ≤ nextC _ _ _ _; omega, this.2⟩, h.role, h.clock, h.votes, by show ((r.Next.set _ _).length : Int) = r.Nodes; rw [List.length_set]; exact h.next, by show ((r.Match.set _ _).length : Int) = r.Nodes; rw [List.length_set]; exact h.mtch, h.rise⟩
end
structure Fair (r : TRaft) (m : TMsg) : Prop where
 rise : Rise (if m.Index = 0 then 1 else m.LogTerm) m.Term m.Entries
 one : ∀ e ∈ m.Entries, 1 ≤ e.Term
 old : ∀ (k : Nat) (e : TEntry), m.Entries[k]? = some e → m.Index + k + 1 ≤ r.Commit → termAt r.Log (m.Index + k + 1) = e.Term
theorem termAt_pos {l : List TEntry} {i : Int} (h1 : 1 ≤ i) (h2 : i ≤ (l.length : Int)) : ∃ e, l[(i - 1).toNat]? = some e ∧ termAt l i = e.Term := by
 have hx : l[(i - 1).toNat]? = some l[(i - 1).toNat] := List.getElem?_eq_getElem (by omega)
 exact ⟨_, hx, by unfold termAt; rw [if_pos h1, hx]⟩
structure Good (r : TRaft) : Prop where
 may : MayP r
 bs : Bs r
 term : 1 ≤ r.Term
theorem bc_len {g : TRaft → Int → TMsg} {r : TRaft} (h : 1 ≤ r.Nodes) : ((bc g r).length : Int) ≤ r.Nodes := by
 have := oth_len r.Me r.Nodes.toNat 1
 unfold bc others
 rw [List.length_map]; omega
structure Goes (r x : TRaft) (out : List TMsg) : Prop where
 good : Good x
 term : r.Term ≤ x.Term
 commit : r.Commit ≤ x.Commit
 me : x.Me = r.Me
 nodes : x.Nodes = r.Nodes
 out : (out.length : Int) ≤ r.Nodes
 vote : x.Term = r.Term → r.Vote ≠ 0 → x.Vote = r.Vote
theorem leadR_fields (r : TRaft) : (leadR r).Term = r.Term ∧ (leadR r).Me = r.Me ∧ (leadR r).Nodes = r.Nodes ∧ (leadR r).Vote = r.Vote := by unfold leadR; split <;> exact ⟨rfl, rfl, rfl, rfl⟩
end Go.Proofs.Ythpokjkbcdfhiaa.Told.RA
