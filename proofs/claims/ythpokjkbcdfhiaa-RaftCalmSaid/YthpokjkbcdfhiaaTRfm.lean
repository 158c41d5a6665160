/- Which states of a member may be: what the document's answer says. -/
import Derived.Test.YthpokjkbcdfhiaaTRf1
namespace Go.Proofs.Ythpokjkbcdfhiaa.Told.RA
open Go Go.Proofs.Ythpokjkbcdfhiaa.Vam Go.Proofs.Ythpokjkbcdfhiaa.Told
set_option linter.unusedSimpArgs false
set_option linter.unusedVariables false
def rlastB : Int → List TEntry → Bool → Int → Bool
 | _, [], _, _ => true
 | t, e :: l, first, a => decide (1 ≤ e.Term) && decide (e.Term ≤ t) && (first || decide (a ≤ e.Term)) && rlastB t l false e.Term
theorem rlast_eq : ∀ (l : List TEntry) (t a : Int), 1 ≤ a → rlastB t l false a = riseB a t l
 | [], _, _, _ => rfl
 | e :: l, t, a, ha => by
  unfold rlastB riseB
  by_cases h : a ≤ e.Term
  ·rw [rlast_eq l t e.Term (by omega), decide_eq_true h, decide_eq_true (show (1 : Int) ≤ e.Term by omega)]
   cases decide (e.Term ≤ t) <;> rfl
  ·rw [decide_eq_false h]
   cases decide ((1 : Int) ≤ e.Term) <;> cases decide (e.Term ≤ t) <;> rfl
theorem rlast_eq1 (l : List TEntry) (t : Int) : rlastB t l true 0 = riseB 1 t l := by
 cases l with
 | nil => rfl
 | cons e l =>
  unfold rlastB riseB
  by_cases h : 1 ≤ e.Term
  ·rw [rlast_eq l t e.Term h, decide_eq_true h]
   cases decide (e.Term ≤ t) <;> rfl
  ·rw [decide_eq_false h]; rfl
def lastOf (q : List TEntry) : Int := match q.getLast? with
 | some e => e.Term
 | none => 0
theorem rmay_lp (fu : Nat) (r : TRaft) : ∀ (s q : List TEntry) (n : Nat), r.Log = q ++ s → r.Log.length ≤ 1000000 → s.length < n →
  diwanref11_May.lp25 fu r n (q.length : Int) = some (bif rlastB r.Term s q.isEmpty (lastOf q) then .inl () else .inr ())
 | [], q, n, hq, hl, hn => by
  obtain ⟨n, rfl⟩ : ∃ m, n = m + 1 := ⟨n - 1, by omega⟩
  rw [diwanref11_May.lp25, br_f (decide_eq_false (by rw [hq]; simp))]; rfl
 | e :: s, q, n, hq, hl, hn => by
  obtain ⟨n, rfl⟩ : ∃ m, n = m + 1 := ⟨n - 1, by omega⟩
  have hlen : r.Log.length = q.length + 1 + s.length := by rw [hq]; simp; omega
  have ih := rmay_lp fu r s (q ++ [e]) n (by rw [hq]; simp) hl (by simp at hn; omega)
  have hx : r.Log[q.length]? = some e := by rw [hq]; simp
  have hE : (q ++ [e]).isEmpty = false := by cases q <;> rfl
  have hL : lastOf (q ++ [e]) = e.Term := by simp [lastOf]
  rw [hE, hL] at ih
  have hw : w64 ((q.length : Int) + 1) = ((q ++ [e]).length : Int) := by rw [w64_id (by omega) (by omega)]; simp
  rw [diwanref11_May.lp25, br_t (decide_eq_true (by omega)), ix_n hx, ix_n hx, ix_n hx, hw, ih, rlastB]
  by_cases h1 : e.Term < 1
  ·rw [br_t (decide_eq_true h1), decide_eq_false (show ¬ (1 : Int) ≤ e.Term by omega)]; rfl
  rw [br_f (decide_eq_false h1), decide_eq_true (show (1 : Int) ≤ e.Term by omega)]
  by_cases h2 : e.Term > r.Term
  ·rw [br_t (decide_eq_true h2), decide_eq_false (show ¬ e.Term ≤ r.Term by omega)]; rfl
  rw [br_f (decide_eq_false h2), decide_eq_true (show e.Term ≤ r.Term by omega)]
  rcases List.eq_nil_or_concat q with rfl | ⟨p, u, hu⟩
  ·rw [br_f (decide_eq_false (by simp))]; rfl
  ·rw [List.concat_eq_append] at hu
   subst hu
   have hy : r.Log[p.length]? = some u := by rw [hq]; simp
   have hpl : (p ++ [u]).length = p.length + 1 := by simp
   have hw2 : w64 (((p ++ [u]).length : Int) - 1) = (p.length : Int) := by rw [w64_id (by omega) (by omega)]; omega
   have hL2 : lastOf (p ++ [u]) = u.Term := by simp [lastOf]
   have hE2 : (p ++ [u]).isEmpty = false := by cases p <;> rfl
   rw [br_t (decide_eq_true (by omega)), hw2, ix_n hy, hL2, hE2]
   by_cases h3 : e.Term < u.Term
   ·rw [br_t (decide_eq_true h3), decide_eq_false (show ¬ u.Term ≤ e.Term by omega)]; rfl
   ·rw [br_f (decide_eq_false h3), decide_eq_true (show u.Term ≤ e.Term by omega)]; rfl
theorem rmay_e {fu : Nat} {r : TRaft} (hl : r.Log.length ≤ 1000000) (hf : r.Log.length < fu) : diwanref11_May fu r = some (mayB r) := by
 have h1 := rmay_lp fu r r.Log [] fu rfl hl hf
 simp only [List.length_nil, Int.natCast_zero] at h1
 rw [show lastOf [] = 0 from rfl, show ([] : List TEntry).isEmpty = true from rfl, rlast_eq1] at h1
 have no : ∀ {p : Prop}, ¬ p → (MayP r → p) → mayB r = false := fun hp h => by
  cases hb : mayB r
  ·rfl
  ·exact absurd (h (mayB_iff.1 hb)) hp
 unfold diwanref11_May
 by_cases c1 : r.Nodes < 1
 ·rw [br_t (decide_eq_true c1), no (p := 1 ≤ r.Nodes) (by omega) fun h => h.nodes.1]
 rw [br_f (decide_eq_false c1)]
 by_cases c2 : r.Nodes > 5
 ·rw [br_t (decide_eq_true c2), no (p := r.Nodes ≤ 5) (by omega) fun h => h.nodes.2]
 rw [br_f (decide_eq_false c2)]
 by_cases c3 : r.Me < 1
 ·rw [br_t (decide_eq_true c3), no (p := 1 ≤ r.Me) (by omega) fun h => h.me.1]
 rw [br_f (decide_eq_false c3)]
 by_cases c4 : r.Me > r.Nodes
 ·rw [br_t (decide_eq_true c4), no (p := r.Me ≤ r.Nodes) (by omega) fun h => h.me.2]
 rw [br_f (decide_eq_false c4)]
 by_cases c5 : r.Wait < 1
 ·rw [br_t (decide_eq_true c5), no (p := 1 ≤ r.Wait) (by omega) fun h => h.wait.1]
 rw [br_f (decide_eq_false c5)]
 by_cases c6 : r.Wait > 60
 ·rw [br_t (decide_eq_true c6), no (p := r.Wait ≤ 60) (by omega) fun h => h.wait.2]
 rw [br_f (decide_eq_false c6)]
 by_cases c7 : r.Term < 0
 ·rw [br_t (decide_eq_true c7), no (p := 0 ≤ r.Term) (by omega) fun h => h.term]
 rw [br_f (decide_eq_false c7)]
 by_cases c8 : r.Vote < 0
 ·rw [br_t (decide_eq_true c8), no (p := 0 ≤ r.Vote) (by omega) fun h => h.vote.1]
 rw [br_f (decide_eq_false c8)]
 by_cases c9 : r.Vote > r.Nodes
 ·rw [br_t (decide_eq_true c9), no (p := r.Vote ≤ r.Nodes) (by omega) fun h => h.vote.2]
 rw [br_f (decide_eq_false c9)]
 by_cases d1 : r.Leader < 0
 ·rw [br_t (decide_eq_true d1), no (p := 0 ≤ r.Leader) (by omega) fun h => h.leader.1]
 rw [br_f (decide_eq_false d1)]
 by_cases d2 : r.Leader > r.Nodes
 ·rw [br_t (decide_eq_true d2), no (p := r.Leader ≤ r.Nodes) (by omega) fun h => h.leader.2]
 rw [br_f (decide_eq_false d2)]
 by_cases d3 : (r.Log.length : Int) > 200
 ·rw [br_t (decide_eq_true d3), no (p := r.Log.length ≤ 200) (by omega) fun h => h.len]
 rw [br_f (decide_eq_false d3)]
 by_cases d4 : r.Commit < 0
 ·rw [br_t (decide_eq_true d4), no (p := 0 ≤ r.Commit) (by omega) fun h => h.commit.1]
 rw [br_f (decide_eq_false d4)]
 by_cases d5 : r.Commit > (r.Log.length : Int)
 ·rw [br_t (decide_eq_true d5), no (p := r.Commit ≤ (r.Log.length : Int)) (by omega) fun h => h.commit.2]
 rw [br_f (decide_eq_false d5)]
 by_cases d6 : r.Role < 0
 ·rw [br_t (decide_eq_true d6), no (p := 0 ≤ r.Role) (by omega) fun h => h.role.1]
 rw [br_f (decide_eq_false d6)]
 by_cases d7 : r.Role > 2
 ·rw [br_t (decide_eq_true d7), no (p := r.Role ≤ 2) (by omega) fun h => h.role.2]
 rw [br_f (decide_eq_false d7)]
 by_cases d8 : ¬ ((r.Votes.length : Int) = r.Nodes)
 ·rw [br_t (by simpa using d8), no d8 fun h => h.votes]
 replace d8 := Decidable.not_not.1 d8
 rw [br_f (by simpa using d8)]
 by_cases d9 : ¬ ((r.Next.length : Int) = r.Nodes)
 ·rw [br_t (by simpa using d9), no d9 fun h => h.next]
 replace d9 := Decidable.not_not.1 d9
 rw [br_f (by simpa using d9)]
 by_cases e1 : ¬ ((r.Match.length : Int) = r.Nodes)
 ·rw [br_t (by simpa using e1), no e1 fun h => h.mtch]
 replace e1 := Decidable.not_not.1 e1
 rw [br_f (by simpa using e1)]
 by_cases e2 : r.Clock < 0
 ·rw [br_t (decide_eq_true e2), no (p := 0 ≤ r.Clock) (by omega) fun h => h.clock]
 rw [br_f (decide_eq_false e2), bd_s h1]
 have hmb : mayB r = riseB 1 r.Term r.Log := by
  cases hb : riseB 1 r.Term r.Log
  ·exact no (p := riseB 1 r.Term r.Log = true) (by rw [hb]; decide) fun h => riseB_iff.2 h.rise
  ·exact mayB_iff.2 ⟨by omega, by omega, by omega, by omega, by omega, by omega, by omega, by omega, by omega, by omega, d8, d9, e1, riseB_iff.1 hb⟩
 rw [hmb]
 cases riseB 1 r.Term r.Log <;> rfl
end Go.Proofs.Ythpokjkbcdfhiaa.Told.RA
