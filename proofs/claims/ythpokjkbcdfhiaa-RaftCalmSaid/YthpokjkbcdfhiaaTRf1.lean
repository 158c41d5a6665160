/- Which states of a member may be: what the program and the document's answer say. -/
import Derived.Test.YthpokjkbcdfhiaaFitRaftCalm
import Derived.Test.YthpokjkbcdfhiaaTMath
namespace Go.Proofs.Ythpokjkbcdfhiaa.Told.RA
open Go Go.Proofs.Ythpokjkbcdfhiaa.Vam Go.Proofs.Ythpokjkbcdfhiaa.Told
set_option linter.unusedSimpArgs false
set_option linter.unusedVariables false
def Rise : Int → Int → List TEntry → Prop
 | _, _, [] => True
 | a, t, e :: l => a ≤ e.Term ∧ e.Term ≤ t ∧ Rise e.Term t l
def riseB : Int → Int → List TEntry → Bool
 | _, _, [] => true
 | a, t, e :: l => decide (a ≤ e.Term) && decide (e.Term ≤ t) && riseB e.Term t l
theorem riseB_iff : ∀ {l : List TEntry} {a t : Int}, riseB a t l = true ↔ Rise a t l
 | [], a, t => by simp [riseB, Rise]
 | e :: l, a, t => by simp [riseB, Rise, riseB_iff (l := l), and_assoc]
theorem Rise.weak : ∀ {l : List TEntry} {a b t : Int}, b ≤ a → Rise a t l → Rise b t l
 | [], _, _, _, _, _ => trivial
 | e :: l, _, _, _, h, k => ⟨Int.le_trans h k.1, k.2⟩
theorem Rise.up : ∀ {l : List TEntry} {a t u : Int}, t ≤ u → Rise a t l → Rise a u l
 | [], _, _, _, _, _ => trivial
 | e :: l, _, _, _, h, k => ⟨k.1, Int.le_trans k.2.1 h, Rise.up h k.2.2⟩
theorem Rise.all : ∀ {l : List TEntry} {a t : Int}, Rise a t l → ∀ e ∈ l, a ≤ e.Term ∧ e.Term ≤ t
 | [], _, _, _, e, he => by simp at he
 | x :: l, a, t, k, e, he => by
  rcases List.mem_cons.1 he with rfl | he
  ·exact ⟨k.1, k.2.1⟩
  ·have := Rise.all k.2.2 e he; have := k.1; omega
def Smt (e : TEntry) : Prop := e.T.Reads.length ≤ 3 ∧ e.T.Writes.length ≤ 3
structure MayP (r : TRaft) : Prop where
 nodes : 1 ≤ r.Nodes ∧ r.Nodes ≤ 5
 me : 1 ≤ r.Me ∧ r.Me ≤ r.Nodes
 wait : 1 ≤ r.Wait ∧ r.Wait ≤ 60
 term : 0 ≤ r.Term
 vote : 0 ≤ r.Vote ∧ r.Vote ≤ r.Nodes
 leader : 0 ≤ r.Leader ∧ r.Leader ≤ r.Nodes
 len : r.Log.length ≤ 200
 commit : 0 ≤ r.Commit ∧ r.Commit ≤ (r.Log.length : Int)
 role : 0 ≤ r.Role ∧ r.Role ≤ 2
 clock : 0 ≤ r.Clock
 votes : (r.Votes.length : Int) = r.Nodes
 next : (r.Next.length : Int) = r.Nodes
 mtch : (r.Match.length : Int) = r.Nodes
 rise : Rise 1 r.Term r.Log
def mayB (r : TRaft) : Bool :=
 riseB 1 r.Term r.Log && (decide (1 ≤ r.Nodes) && decide (r.Nodes ≤ 5) && (decide (1 ≤ r.Me) && decide (r.Me ≤ r.Nodes) && (decide (1 ≤ r.Wait) && decide (r.Wait ≤ 60) && (decide (0 ≤ r.Term) && (decide (0 ≤ r.Vote) && decide (r.Vote ≤ r.Nodes) && (decide (0 ≤ r.Leader) && decide (r.Leader ≤ r.Nodes) &&
 (decide ((r.Log.length : Int) ≤ 200) && (decide (0 ≤ r.Commit) && decide (r.Commit ≤ (r.Log.length : Int)) && (decide (0 ≤ r.Role) && decide (r.Role ≤ 2) && (decide (0 ≤ r.Clock) && (((r.Votes.length : Int) == r.Nodes) && (((r.Next.length : Int) == r.Nodes) && ((r.Match.length : Int) == r.Nodes)))))))))))))
theorem mayB_iff {r : TRaft} : mayB r = true ↔ MayP r := by
 simp only [mayB, Bool.and_eq_true, decide_eq_true_eq, beq_iff_eq, riseB_iff]
 constructor
 ·rintro ⟨a, ⟨b1, b2⟩, ⟨c1, c2⟩, ⟨d1, d2⟩, e, ⟨f1, f2⟩, ⟨g1, g2⟩, h, ⟨i1, i2⟩, ⟨j1, j2⟩, k, l, m, n⟩
  exact ⟨⟨b1, b2⟩, ⟨c1, c2⟩, ⟨d1, d2⟩, e, ⟨f1, f2⟩, ⟨g1, g2⟩, by omega, ⟨i1, i2⟩, ⟨j1, j2⟩, k, l, m, n, a⟩
 ·intro h
  exact ⟨h.rise, h.nodes, h.me, h.wait, h.term, h.vote, h.leader, by have := h.len; omega, h.commit, h.role, h.clock, h.votes, h.next, h.mtch⟩
theorem in_e (v a b : Int) : raft_May_1 v a b = some (decide (a ≤ v) && decide (v ≤ b)) := by
 unfold raft_May_1
 by_cases h : a ≤ v
 ·rw [br_t (decide_eq_true h), decide_eq_true h]; rfl
 ·rw [br_f (decide_eq_false h), decide_eq_false h]; rfl
theorem may_lp (fu : Nat) (r : TRaft) : ∀ (s q : List TEntry) (a : Int) (n : Nat), (q ++ s).length ≤ 1000000 → s.length < n →
  raft_May.lp5 fu (q ++ s) ((q ++ s).length : Int) r n a (q.length : Int) = some (bif riseB a r.Term s then .inl () else .inr ())
 | [], q, a, n, hl, hn => by
  obtain ⟨n, rfl⟩ : ∃ m, n = m + 1 := ⟨n - 1, by omega⟩
  simp only [List.append_nil]
  rw [raft_May.lp5, br_f (nlt_end _)]; rfl
 | e :: s, q, a, n, hl, hn => by
  obtain ⟨n, rfl⟩ : ∃ m, n = m + 1 := ⟨n - 1, by omega⟩
  have eq : q ++ e :: s = (q ++ [e]) ++ s := by simp
  have ih := may_lp fu r s (q ++ [e]) e.Term n (by rw [← eq]; exact hl) (by simp at hn; omega)
  rw [← eq] at ih
  rw [raft_May.lp5, br_t (lt_mid _ _ _), ix_mid, bd_s (in_e _ _ _), w64_len q s e (by omega), ih, riseB]
  cases decide (a ≤ e.Term) <;> cases decide (e.Term ≤ r.Term) <;> rfl
theorem and_br {b : Bool} {x : Bool} {o : Option Bool} (h : o = some x) : br b o (some false) = some (b && x) := by cases b <;> simp [br, h]
theorem may_e {fu : Nat} {r : TRaft} (hl : r.Log.length ≤ 1000000) (hf : r.Log.length < fu) : raft_May fu r = some (mayB r) := by
 have h1 := may_lp fu r r.Log [] 1 fu (by simpa using hl) hf
 simp only [List.nil_append, List.length_nil, Int.natCast_zero] at h1
 unfold raft_May
 rw [bd_s h1]
 unfold mayB
 cases riseB 1 r.Term r.Log
 ·rfl
 ·dsimp only [cond_true]
  rw [Bool.true_and, bd_s (in_e _ _ _)]
  refine and_br ?_
  rw [bd_s (in_e _ _ _)]
  refine and_br ?_
  rw [bd_s (in_e _ _ _)]
  refine and_br ?_
  refine and_br ?_
  rw [bd_s (in_e _ _ _)]
  refine and_br ?_
  rw [bd_s (in_e _ _ _)]
  refine and_br ?_
  refine and_br ?_
  rw [bd_s (in_e _ _ _)]
  refine and_br ?_
  rw [bd_s (in_e _ _ _)]
  refine and_br ?_
  refine and_br ?_
  refine and_br ?_
  refine and_br ?_
  rfl
end Go.Proofs.Ythpokjkbcdfhiaa.Told.RA
