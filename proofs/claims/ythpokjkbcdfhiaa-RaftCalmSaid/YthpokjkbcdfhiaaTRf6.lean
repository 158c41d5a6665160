/- What a tick, a proposal, a letter come to, as plain functions. -/
import Derived.Test.YthpokjkbcdfhiaaTRf5
namespace Go.Proofs.Ythpokjkbcdfhiaa.Told.RA
open Go Go.Proofs.Ythpokjkbcdfhiaa.Vam Go.Proofs.Ythpokjkbcdfhiaa.Told Go.Proofs.Ythpokjkbcdfhiaa.Told.HP
set_option linter.unusedSimpArgs false
set_option linter.unusedVariables false
theorem MayP.bs {r : TRaft} (h : MayP r) (hs : SmB r.Log) (ht : r.Term ≤ 1152921504606846976) (hx : ∀ a ∈ r.Next, -2305843009213693952 ≤ a ∧ a ≤ 2305843009213693952) (hm : ∀ a ∈ r.Match, 0 ≤ a ∧ a ≤ 1152921504606846976) (hc : r.Clock ≤ 1152921504606846976) : Bs r :=
 ⟨h.nodes, h.me, h.votes, h.next, h.mtch, h.len, hs, ⟨h.term, ht⟩, hx, hm, ⟨h.clock, hc⟩⟩
theorem Bs.twin {fu : Nat} {r : TRaft} (h : Bs r) (hf : 300 ≤ fu) : raft_twin fu r = some r := by
 have := h.len
 have := h.lv
 have := h.lx
 have := h.lm
 have := h.nodes
 exact twin_e (by omega) h.sm (by omega) (by omega) (by omega) (by omega)
theorem Bs.may {fu : Nat} {r : TRaft} (h : Bs r) (hf : 300 ≤ fu) : raft_May fu r = some (mayB r) := may_e (by have := h.len; omega) (by have := h.len; omega)
def stand1 (r : TRaft) : TRaft := TRaft.mk r.Me r.Nodes r.Wait (r.Term + 1) r.Me r.Log r.Commit 1 0 ((List.replicate r.Nodes.toNat false).set (r.Me - 1).toNat true) r.Next r.Match 0
theorem stand1_bs {r : TRaft} (hb : Bs r) (ht : r.Term < 1152921504606846976) : Bs (stand1 r) where
 nodes := hb.nodes
 me := hb.me
 lv := by have := hb.nodes; show (((List.replicate _ _).set _ _).length : Int) = r.Nodes; simp; omega
 lx := hb.lx
 lm := hb.lm
 len := hb.len
 sm := hb.sm
 term := by have := hb.term; show 0 ≤ r.Term + 1 ∧ r.Term + 1 ≤ _; omega
 xs := hb.xs
 ms := hb.ms
 clock := ⟨Int.le_refl _, by show (0 : Int) ≤ _; omega⟩
noncomputable def standP (r : TRaft) : TRaft × List TMsg := if wonB (stand1 r) then (leadR (stand1 r), bc letterE (leadR (stand1 r))) else (stand1 r, bc askE (stand1 r))
theorem stands_e {fu : Nat} {r : TRaft} {c : Int} (hb : Bs r) (ht : r.Term < 1152921504606846976) (hf : 300 ≤ fu) : raft_member_stands fu ⟨TRaft.mk r.Me r.Nodes r.Wait r.Term r.Vote r.Log r.Commit r.Role r.Leader r.Votes r.Next r.Match c, []⟩ = some ⟨(standP r).1, (standP r).2⟩ := by
 have hN := hb.nodes
 have hme := hb.me
 have hv := hb.lv
 have hT := hb.term
 have hs := stand1_bs hb ht
 unfold raft_member_stands
 dsimp only
 have e : r.Votes.length = r.Nodes.toNat := by omega
 rw [to_e (r := r) hme.1 (by omega), e, ix_s (by omega) (List.getElem?_eq_getElem (show (r.Me - 1).toNat < (List.replicate r.Nodes.toNat false).length by simp; omega)), w64_id (n := r.Term + 1) (by omega) (by omega)]
 refine (bd_s (elected_e (x := ⟨stand1 r, []⟩) hs (by simp) hf)).trans ?_
 dsimp only
 unfold standP
 cases wonB (stand1 r)
 ·rw [br_t (by rfl)]
  exact bd_s (all3_e (x := ⟨stand1 r, []⟩) hs (by simp) hf)
 ·rw [br_f (by rfl)]; rfl
def clockR (r : TRaft) : TRaft := TRaft.mk r.Me r.Nodes r.Wait r.Term r.Vote r.Log r.Commit r.Role r.Leader r.Votes r.Next r.Match (r.Clock + 1)
noncomputable def tickP (r : TRaft) : TRaft × List TMsg := if r.Role = 2 then (r, bc letterE r) else if r.Clock + 1 ≥ r.Wait then standP r else (clockR r, [])
noncomputable def tickF (r : TRaft) : TRaft × List TMsg := if mayB r then tickP r else (r, [])
theorem tick_e {fu : Nat} {r : TRaft} (hb : Bs r) (ht : r.Term < 1152921504606846976) (hf : 300 ≤ fu) : raft_Tick fu r = some (tickF r) := by
 have hc := hb.clock
 unfold raft_Tick tickF
 rw [bd_s (hb.may hf)]
 cases mayB r
 ·rw [br_t (by rfl), bd_s (hb.twin hf)]; rfl
 rw [br_f (by rfl), bd_s (hb.twin hf), if_pos rfl]
 unfold tickP
 by_cases h2 : r.Role = 2
 ·rw [br_t (by simpa using h2), if_pos h2]
  unfold raft_member_told
  rw [bd_s (all_e (x := ⟨r, []⟩) hb (by simp) hf)]
  rfl
 ·rw [br_f (by simpa using h2), if_neg h2]
  unfold raft_member_waits
  dsimp only
  rw [w64_id (n := r.Clock + 1) (by omega) (by omega)]
  by_cases h3 : r.Clock + 1 ≥ r.Wait
  ·rw [br_t (decide_eq_true h3), if_pos h3, bd_s (stands_e hb ht hf)]; rfl
  ·rw [br_f (decide_eq_false h3), if_neg h3]; rfl
noncomputable def propF (r : TRaft) (e : TEntry) : TRaft × List TMsg × Bool := if mayB r = true ∧ canP r then (propR r e, bc letterE (propR r e), true) else (r, [], false)
theorem propose_e {fu : Nat} {r : TRaft} {e : TEntry} (hb : Bs r) (he : SmB [e]) (hf : 300 ≤ fu) : raft_Propose fu r e = some (propF r e) := by
 unfold raft_Propose propF
 rw [bd_s (hb.twin hf), bd_s (hb.may hf)]
 cases hm : mayB r
 ·rw [br_t (by rfl), if_neg (fun g => by cases g.1)]
 rw [br_f (by rfl), bd_s (prop_e (x := ⟨r, []⟩) hb (by simp) hf he)]
 dsimp only
 by_cases hc : canP r
 ·rw [decide_eq_true hc, if_pos hc, if_pos ⟨rfl, hc⟩, br_f (by rfl)]; rfl
 ·rw [decide_eq_false hc, if_neg hc, if_neg (fun g => hc g.2), br_t (by rfl)]
def yieldR (r : TRaft) (t : Int) : TRaft := TRaft.mk r.Me r.Nodes r.Wait t 0 r.Log r.Commit 0 0 (List.replicate r.Nodes.toNat false) r.Next r.Match r.Clock
theorem yieldR_bs {r : TRaft} {t : Int} (hb : Bs r) (h0 : 0 ≤ t) (ht : t ≤ 1152921504606846976) : Bs (yieldR r t) where
 nodes := hb.nodes
 me := hb.me
 lv := by have := hb.nodes; show ((List.replicate _ _).length : Int) = r.Nodes; simp; omega
 lx := hb.lx
 lm := hb.lm
 len := hb.len
 sm := hb.sm
 term := ⟨h0, ht⟩
 xs := hb.xs
 ms := hb.ms
 clock := hb.clock
def grantB (r : TRaft) (m : TMsg) : Bool := (m.Term == r.Term) && (((r.Vote == 0) || (r.Vote == m.From)) && newerB r.Log m.Index m.LogTerm)
def voteR (r : TRaft) (v : Int) : TRaft := TRaft.mk r.Me r.Nodes r.Wait r.Term v r.Log r.Commit r.Role r.Leader r.Votes r.Next r.Match 0
def askVoteP (r : TRaft) (m : TMsg) : TRaft × List TMsg := (if grantB r m then voteR r m.From else r, [ltr 2 r.Me m.From r.Term 0 0 0 (grantB r m) []])
theorem askVote_e {r : TRaft} {m : TMsg} (hb : Bs r) : raft_member_askVote m ⟨r, []⟩ = some ⟨(askVoteP r m).1, (askVoteP r m).2⟩ := by
 have hl := hb.len
 unfold raft_member_askVote
 rw [jn_e]
 have rest : ∀ b : Bool, b = grantB r m → (br b
  (bd (raft_member_sends_2 m.From (TMsg.mk 2 0 0 0 0 0 0 0 b [] (TTxn.mk 0 0 [] []) 0 0 0 0 false ByteArray.empty ByteArray.empty [] [] 0) (TMember.mk (TRaft.mk r.Me r.Nodes r.Wait r.Term m.From r.Log r.Commit r.Role r.Leader r.Votes r.Next r.Match 0) [])) fun r7_1 =>
  some r7_1)
  (bd (raft_member_sends_2 m.From (TMsg.mk 2 0 0 0 0 0 0 0 b [] (TTxn.mk 0 0 [] []) 0 0 0 0 false ByteArray.empty ByteArray.empty [] [] 0) ⟨r, []⟩) fun r8_1 =>
  some r8_1)) = some ⟨(askVoteP r m).1, (askVoteP r m).2⟩ := by
  intro b hbm
  unfold askVoteP
  rw [← hbm]
  cases b
  ·rw [br_f rfl, bd_s (sends2_e (by simp))]; rfl
  ·rw [br_t rfl, bd_s (sends2_e (by simp))]; rfl
 dsimp only
 unfold grantB at rest
 rw [bd_s (newer_e (by omega))]
 cases h1 : (m.Term == r.Term)
 ·rw [br_f rfl]; exact rest _ (by rw [h1]; rfl)
 ·rw [br_t rfl]
  cases h2 : (r.Vote == 0)
  ·rw [br_f rfl]
   cases h3 : (r.Vote == m.From)
   ·rw [br_f rfl]; exact rest _ (by rw [h1, h2, h3]; rfl)
   ·rw [br_t rfl]; exact rest _ (by rw [h1, h2, h3]; rfl)
  ·rw [br_t rfl]; exact rest _ (by rw [h1, h2]; rfl)
def countR (r : TRaft) (v : Int) : TRaft := TRaft.mk r.Me r.Nodes r.Wait r.Term r.Vote r.Log r.Commit r.Role r.Leader (r.Votes.set (v - 1).toNat true) r.Next r.Match r.Clock
theorem countR_bs {r : TRaft} {v : Int} (hb : Bs r) : Bs (countR r v) :=
 ⟨hb.nodes, hb.me, by show ((r.Votes.set _ _).length : Int) = r.Nodes; rw [List.length_set]; exact hb.lv, hb.lx, hb.lm, hb.len, hb.sm, hb.term, hb.xs, hb.ms, hb.clock⟩
noncomputable def voteP (r : TRaft) (m : TMsg) : TRaft × List TMsg := if m.Term = r.Term ∧ r.Role = 1 ∧ m.OK = true then (if wonB (countR r m.From) then (leadR (countR r m.From), bc letterE (leadR (countR r m.From))) else (countR r m.From, [])) else (r, [])
theorem vote_e {fu : Nat} {r : TRaft} {m : TMsg} (hb : Bs r) (h1 : 1 ≤ m.From) (h2 : m.From ≤ r.Nodes) (hf : 300 ≤ fu) : raft_member_vote fu m ⟨r, []⟩ = some ⟨(voteP r m).1, (voteP r m).2⟩ := by
 have hN := hb.nodes
 have hv := hb.lv
 unfold raft_member_vote voteP
 dsimp only
 by_cases c1 : m.Term = r.Term
 ·rw [br_t (by simpa using c1)]
  by_cases c2 : r.Role = 1
  ·rw [br_t (by simpa using c2)]
   cases c3 : m.OK
   ·rw [br_f rfl, if_neg (fun g => by cases g.2.2)]
   ·rw [br_t rfl, if_pos ⟨c1, c2, rfl⟩, to_e (r := r) h1 (by omega), ix_s (by omega) (List.getElem?_eq_getElem (show (m.From - 1).toNat < r.Votes.length by omega))]
    refine (bd_s (elected_e (x := ⟨countR r m.From, []⟩) (countR_bs hb) (by simp) hf)).trans ?_
    dsimp only
    cases wonB (countR r m.From) <;> rfl
  ·rw [br_f (by simpa using c2), if_neg (fun g => c2 g.2.1)]
 ·rw [br_f (by simpa using c1), if_neg (fun g => c1 g.1)]
def follR (r : TRaft) (v : Int) : TRaft := TRaft.mk r.Me r.Nodes r.Wait r.Term r.Vote r.Log r.Commit 0 v r.Votes r.Next r.Match 0
def tookR (r : TRaft) (v : Int) (l : List TEntry) (c : Int) : TRaft := TRaft.mk r.Me r.Nodes r.Wait r.Term r.Vote l c 0 v r.Votes r.Next r.Match 0
def repA (r : TRaft) (to : Int) (ok : Bool) (i : Int) : TMsg := ltr 4 r.Me to r.Term i 0 0 ok []
def appendP (r : TRaft) (m : TMsg) : TRaft × List TMsg :=
 if m.Term < r.Term then (r, [repA r m.From false 0]) else if r.Role = 2 then (r, []) else
 if hasB r.Log m.Index m.LogTerm = true then
  (if (joinF r.Log m.Index m.Entries).length > 200 then (follR r m.From, [repA r m.From false 0])
   else (tookR r m.From (joinF r.Log m.Index m.Entries) (max r.Commit (min m.Commit (m.Index + (m.Entries.length : Int)))), [repA r m.From true (m.Index + (m.Entries.length : Int))]))
 else (follR r m.From, [repA r m.From false (max (min (m.Index - 1) (r.Log.length : Int)) 0)])
structure Lb (m : TMsg) : Prop where
 term : 0 ≤ m.Term ∧ m.Term ≤ 1152921504606846976
 index : -1152921504606846976 ≤ m.Index ∧ m.Index ≤ 1152921504606846976
 len : m.Entries.length ≤ 200
 sm : SmB m.Entries
theorem joinF_len {l m : List TEntry} {i : Int} : (joinF l i m).length ≤ l.length + m.length := by
 have h3 : ∀ {s m t : List TEntry}, jn3 s m = some t → t.length ≤ s.length + m.length := by
  intro s m
  induction m generalizing s with
  | nil => intro t h; cases s <;> simp [jn3] at h
  | cons a m ih =>
   intro t h
   cases s with
   | nil => simp [jn3] at h; subst h; simp
   | cons x s =>
    by_cases hT : x.Term = a.Term
    ·rw [jn3, if_pos hT] at h
     cases h3 : jn3 s m with
     | none => rw [h3] at h; cases h
     | some u => rw [h3] at h; cases h; have := ih h3; simp; omega
    ·rw [jn3, if_neg hT] at h; cases h; simp
 unfold joinF
 split
 ·unfold jn2
  rename_i hi
  cases h : jn3 (l.drop i.toNat) m with
  | none => simp
  | some t => have := h3 h; simp at this ⊢; omega
 ·omega
theorem append_e {fu : Nat} {r : TRaft} {m : TMsg} (hb : Bs r) (hm : Lb m) (hf : 500 ≤ fu) : raft_member_append fu m ⟨r, []⟩ = some ⟨(appendP r m).1, (appendP r m).2⟩ := by
 have hl := hb.len
 have hi := hm.index
 have hE := hm.len
 unfold raft_member_append appendP
 dsimp only
 by_cases c1 : m.Term < r.Term
 ·rw [br_t (decide_eq_true c1), if_pos c1, bd_s (sends2_e (by simp))]; rfl
 rw [br_f (decide_eq_false c1), if_neg c1]
 by_cases c2 : r.Role = 2
 ·rw [br_t (by simpa using c2), if_pos c2]
 rw [br_f (by simpa using c2), if_neg c2, bd_s (has_e (by omega) (by omega) (by omega))]
 cases hh : hasB r.Log m.Index m.LogTerm
 ·rw [br_t (by rfl), if_neg (show ¬ (false = true) by decide), bd_s (sends2_e (by simp)), w64_id (n := m.Index - 1) (by omega) (by omega), ifmn, ifmx]; rfl
 ·have hjl := joinF_len (l := r.Log) (m := m.Entries) (i := m.Index)
  have hjs : SmB (joinF r.Log m.Index m.Entries) := fun e he => (join_mem e he).elim (hb.sm e) (hm.sm e)
  rw [br_f (by rfl), if_pos rfl, bd_s (join_e (by omega) (by omega) (by omega) (by omega))]
  by_cases c3 : (joinF r.Log m.Index m.Entries).length > 200
  ·rw [br_t (decide_eq_true (by omega)), if_pos c3, bd_s (sends_e (by simp))]; rfl
  ·rw [br_f (decide_eq_false (by omega)), if_neg c3, bd_s (entries_e (by omega) hjs (by omega)), bd_s (sends_e (by simp)), w64_id (n := m.Index + (m.Entries.length : Int)) (by omega) (by omega), ifmn, ifmx]; rfl
def backN (r : TRaft) (m : TMsg) : Int := max (max (min (nextOf r m.From - 1) (m.Index + 1)) (r.Match.getD (m.From - 1).toNat 0 + 1)) 1
def backR (r : TRaft) (m : TMsg) : TRaft := TRaft.mk r.Me r.Nodes r.Wait r.Term r.Vote r.Log r.Commit r.Role r.Leader r.Votes (r.Next.set (m.From - 1).toNat (backN r m)) r.Match r.Clock
def farM (r : TRaft) (m : TMsg) : Int := max (r.Match.getD (m.From - 1).toNat 0) (min m.Index (r.Log.length : Int))
noncomputable def farR (r : TRaft) (m : TMsg) : TRaft := TRaft.mk r.Me r.Nodes r.Wait r.Term r.Vote r.Log (nextC (r.Match.set (m.From - 1).toNat (farM r m)) r.Log r.Term r.Commit) r.Role r.Leader r.Votes (r.Next.set (m.From - 1).toNat (farM r m + 1)) (r.Match.set (m.From - 1).toNat (farM r m)) r.Clock
noncomputable def appendedP (r : TRaft) (m : TMsg) : TRaft × List TMsg :=
 if m.Term < r.Term ∨ r.Role ≠ 2 then (r, []) else
 if m.OK = true then (farR r m, if (r.Log.length : Int) > farM r m then [letterE (farR r m) m.From] else []) else (backR r m, [letterE (backR r m) m.From])
theorem match_get {r : TRaft} (hb : Bs r) {to : Int} (h1 : 1 ≤ to) (h2 : to ≤ r.Nodes) : r.Match[(to - 1).toNat]? = some (r.Match.getD (to - 1).toNat 0) := by
 have := hb.lm
 rw [List.getD_eq_getElem?_getD, List.getElem?_eq_getElem (by omega)]; rfl
theorem backR_bs {r : TRaft} {m : TMsg} (hb : Bs r) (hm : Lb m) (h1 : 1 ≤ m.From) (h2 : m.From ≤ r.Nodes) : Bs (backR r m) := by
 have := next_bd hb h1 h2
 have := hb.ms _ (List.mem_of_getElem? (match_get hb h1 h2))
 have := hm.index
 refine ⟨hb.nodes, hb.me, hb.lv, by show ((r.Next.set _ _).length : Int) = r.Nodes; rw [List.length_set]; exact hb.lx, hb.lm, hb.len, hb.sm, hb.term, mem_set' hb.xs ?_, hb.ms, hb.clock⟩
 unfold backN
 omega
theorem farM_bd {r : TRaft} {m : TMsg} (hb : Bs r) (h1 : 1 ≤ m.From) (h2 : m.From ≤ r.Nodes) : 0 ≤ farM r m ∧ farM r m ≤ 1152921504606846976 := by
 have := hb.ms _ (List.mem_of_getElem? (match_get hb h1 h2))
 have := hb.len
 unfold farM
 omega
theorem farR_bs {r : TRaft} {m : TMsg} (hb : Bs r) (h1 : 1 ≤ m.From) (h2 : m.From ≤ r.Nodes) : Bs (farR r m) := by
 have := farM_bd hb h1 h2
 exact ⟨hb.nodes, hb.me, hb.lv, by show ((r.Next.set _ _).length : Int) = r.Nodes; rw [List.length_set]; exact hb.lx, by show ((r.Match.set _ _).length : Int) = r.Nodes; rw [List.length_set]; exact hb.lm, hb.len, hb.sm, hb.term, mem_set' hb.xs (by omega), mem_set' hb.ms this, hb.clock⟩
theorem appended_e {fu : Nat} {r : TRaft} {m : TMsg} (hb : Bs r) (hm : Lb m) (h1 : 1 ≤ m.From) (h2 : m.From ≤ r.Nodes) (hf : 300 ≤ fu) : raft_member_appended fu m ⟨r, []⟩ = some ⟨(appendedP r m).1, (appendedP r m).2⟩ := by
 have hN := hb.nodes
 have hl := hb.len
 have hx := hb.lx
 have hlm := hb.lm
 have bx := next_bd hb h1 h2
 have bm := hb.ms _ (List.mem_of_getElem? (match_get hb h1 h2))
 have bi := hm.index
 have bf := farM_bd hb h1 h2
 unfold raft_member_appended appendedP
 dsimp only
 by_cases c1 : m.Term < r.Term
 ·rw [br_t (decide_eq_true c1), if_pos (show m.Term < r.Term ∨ r.Role ≠ 2 from .inl c1)]
 rw [br_f (decide_eq_false c1)]
 by_cases c2 : r.Role = 2
 ·rw [br_f (by simpa using c2), if_neg (show ¬ (m.Term < r.Term ∨ r.Role ≠ 2) from fun g => g.elim c1 fun g => g c2), to_e (r := r) h1 (by omega), ix_s (by omega) (next_get hb h1 h2), ix_s (by omega) (match_get hb h1 h2)]
  have w1 : w64 (m.Index + 1) = m.Index + 1 := w64_id (by omega) (by omega)
  have w2 : w64 (nextOf r m.From - 1) = nextOf r m.From - 1 := w64_id (by omega) (by omega)
  have w3 : w64 (r.Match.getD (m.From - 1).toNat 0 + 1) = r.Match.getD (m.From - 1).toNat 0 + 1 := w64_id (by omega) (by omega)
  rw [w1, w2, w3]
  have e1 : (if (if (if m.Index + 1 < nextOf r m.From - 1 then m.Index + 1 else nextOf r m.From - 1) < r.Match.getD (m.From - 1).toNat 0 + 1 then r.Match.getD (m.From - 1).toNat 0 + 1 else (if m.Index + 1 < nextOf r m.From - 1 then m.Index + 1 else nextOf r m.From - 1)) < 1 then 1 else (if (if m.Index + 1 < nextOf r m.From - 1 then m.Index + 1 else nextOf r m.From - 1) < r.Match.getD (m.From - 1).toNat 0 + 1 then r.Match.getD (m.From - 1).toNat 0 + 1 else (if m.Index + 1 < nextOf r m.From - 1 then m.Index + 1 else nextOf r m.From - 1))) = backN r m := by
   rw [ifmn (nextOf r m.From - 1), ifmx, ifmx]; rfl
  have e2 : (if r.Match.getD (m.From - 1).toNat 0 < (if (r.Log.length : Int) < m.Index then (r.Log.length : Int) else m.Index) then (if (r.Log.length : Int) < m.Index then (r.Log.length : Int) else m.Index) else r.Match.getD (m.From - 1).toNat 0) = farM r m := by
   rw [ifmn m.Index, ifmx]; rfl
  rw [e1, e2]
  cases c3 : m.OK
  ·rw [br_t (by rfl), if_neg (show ¬ (false = true) by decide)]
   exact bd_s (more_e (x := ⟨backR r m, []⟩) (backR_bs hb hm h1 h2) h1 h2 (by simp) (by omega))
  ·have g1 : (r.Match.set (m.From - 1).toNat (farM r m))[(m.From - 1).toNat]? = some (farM r m) := by rw [List.getElem?_set_self (by omega)]
   have g2 : (r.Next.set (m.From - 1).toNat (farM r m + 1))[(m.From - 1).toNat]? = some (farM r m + 1) := by rw [List.getElem?_set_self (by omega)]
   rw [br_f (by rfl), if_pos rfl, ix_s (by omega) g1, bd_s (next_e (by omega) (by simp; omega) (fun a ha => (mem_set' hb.ms bf a ha).1) (by simp; omega)), w64_id (n := farM r m + 1) (by omega) (by omega), ix_s (by omega) g2, w64_id (n := farM r m + 1 - 1) (by omega) (by omega), show farM r m + 1 - 1 = farM r m by omega]
   by_cases c4 : (r.Log.length : Int) > farM r m
   ·rw [br_t (decide_eq_true c4), if_pos c4]
    exact bd_s (more_e (x := ⟨farR r m, []⟩) (farR_bs hb h1 h2) h1 h2 (by simp) (by omega))
   ·rw [br_f (decide_eq_false c4), if_neg c4]; rfl
 ·rw [br_t (by simpa using c2), if_pos (show m.Term < r.Term ∨ r.Role ≠ 2 from .inr c2)]
def okL_ (r : TRaft) (m : TMsg) : Prop := mayB r = true ∧ 1 ≤ m.From ∧ m.From ≤ r.Nodes ∧ m.From ≠ r.Me ∧ m.To = r.Me
instance (r : TRaft) (m : TMsg) : Decidable (okL_ r m) := inferInstanceAs (Decidable (_ ∧ _))
def stepR (r : TRaft) (m : TMsg) : TRaft := if m.Term > r.Term then yieldR r m.Term else r
noncomputable def takeP (r : TRaft) (m : TMsg) : TRaft × List TMsg := if m.Kind = 1 then askVoteP r m else if m.Kind = 2 then voteP r m else if m.Kind = 3 then appendP r m else appendedP r m
noncomputable def takeF (r : TRaft) (m : TMsg) : TRaft × List TMsg := if (1 ≤ m.Kind ∧ m.Kind ≤ 4) ∧ okL_ r m then takeP (stepR r m) m else (r, [])
theorem stepR_bs {r : TRaft} {m : TMsg} (hb : Bs r) (hm : 0 ≤ m.Term ∧ m.Term ≤ 1152921504606846976) : Bs (stepR r m) := by
 unfold stepR
 split
 ·exact yieldR_bs hb hm.1 hm.2
 ·exact hb
theorem stepR_nodes (r : TRaft) (m : TMsg) : (stepR r m).Nodes = r.Nodes := by unfold stepR; split <;> rfl
theorem gate {fu : Nat} {r : TRaft} {m : TMsg} (hb : Bs r) (hf : 300 ≤ fu) (f : TMember → Option (TRaft × List TMsg)) (y : TRaft × List TMsg) (hy : okL_ r m → f ⟨stepR r m, []⟩ = some y) :
  (bd (raft_May fu r) fun r5_1 =>
 br (!r5_1)
  (some (r, []))
  (br (decide (m.From < 1))
   (some (r, []))
   (br (decide (m.From > r.Nodes))
   (some (r, []))
   (br (m.From == r.Me)
    (some (r, []))
    (br (m.To != r.Me)
    (some (r, []))
    (jn f fun k15 =>
    br (decide (m.Term > r.Term))
     (bd (raft_member_yields m.Term (TMember.mk r [])) fun r14_1 =>
     k15 r14_1)
     (k15 (TMember.mk r [])))))))) = some (if okL_ r m then y else (r, [])) := by
 have hN := hb.nodes
 have hv := hb.lv
 rw [bd_s (hb.may hf)]
 cases c0 : mayB r
 ·rw [br_t (by rfl), if_neg (fun g => by have := g.1; rw [c0] at this; cases this)]
 rw [br_f (by rfl)]
 by_cases c1 : m.From < 1
 ·rw [br_t (decide_eq_true c1), if_neg (fun g => by have := g.2.1; omega)]
 rw [br_f (decide_eq_false c1)]
 by_cases c2 : m.From > r.Nodes
 ·rw [br_t (decide_eq_true c2), if_neg (fun g => by have := g.2.2.1; omega)]
 rw [br_f (decide_eq_false c2)]
 by_cases c3 : m.From = r.Me
 ·rw [br_t (by simpa using c3), if_neg (fun g => g.2.2.2.1 c3)]
 rw [br_f (by simpa using c3)]
 by_cases c4 : m.To = r.Me
 ·have hk : okL_ r m := ⟨c0, by omega, by omega, c3, c4⟩
  have hy' := hy hk
  rw [br_f (by simpa using c4), if_pos hk, jn_e]
  unfold stepR at hy'
  by_cases c5 : m.Term > r.Term
  ·rw [if_pos c5] at hy'
   rw [br_t (decide_eq_true c5)]
   unfold raft_member_yields
   dsimp only
   rw [bd_s rfl, show r.Votes.length = r.Nodes.toNat by omega]
   exact hy'
  ·rw [if_neg c5] at hy'
   rw [br_f (decide_eq_false c5)]
   exact hy'
 ·rw [br_t (by simpa using c4), if_neg (fun g => c4 g.2.2.2.2)]
theorem take_e {fu : Nat} {r : TRaft} {m : TMsg} (hb : Bs r) (hm : Lb m) (hf : 500 ≤ fu) : raft_Take fu r m = some (takeF r m) := by
 have hs := stepR_bs (m := m) hb hm.term
 have hsn := stepR_nodes r m
 unfold raft_Take
 rw [bd_s (hb.twin (by omega))]
 unfold takeF takeP
 by_cases k1 : m.Kind = 1
 ·rw [br_t (by simpa using k1), if_pos k1]
  refine (gate hb (by omega) _ (askVoteP (stepR r m) m) fun h => ?_).trans ?_
  ·rw [bd_s (askVote_e hs)]
  ·congr 1
   by_cases h : okL_ r m
   ·rw [if_pos h, if_pos ⟨by omega, h⟩]
   ·rw [if_neg h, if_neg (fun g => h g.2)]
 rw [br_f (by simpa using k1), if_neg k1]
 by_cases k2 : m.Kind = 2
 ·rw [br_t (by simpa using k2), if_pos k2]
  refine (gate hb (by omega) _ (voteP (stepR r m) m) fun h => ?_).trans ?_
  ·rw [bd_s (vote_e hs h.2.1 (by rw [hsn]; exact h.2.2.1) (by omega))]
  ·congr 1
   by_cases h : okL_ r m
   ·rw [if_pos h, if_pos ⟨by omega, h⟩]
   ·rw [if_neg h, if_neg (fun g => h g.2)]
 rw [br_f (by simpa using k2), if_neg k2]
 by_cases k3 : m.Kind = 3
 ·rw [br_t (by simpa using k3), if_pos k3]
  refine (gate hb (by omega) _ (appendP (stepR r m) m) fun h => ?_).trans ?_
  ·rw [bd_s (append_e hs hm (by omega))]
  ·congr 1
   by_cases h : okL_ r m
   ·rw [if_pos h, if_pos ⟨by omega, h⟩]
   ·rw [if_neg h, if_neg (fun g => h g.2)]
 rw [br_f (by simpa using k3), if_neg k3]
 by_cases k4 : m.Kind = 4
 ·rw [br_t (by simpa using k4)]
  refine (gate hb (by omega) _ (appendedP (stepR r m) m) fun h => ?_).trans ?_
  ·rw [bd_s (appended_e hs hm h.2.1 (by rw [hsn]; exact h.2.2.1) (by omega))]
  ·congr 1
   by_cases h : okL_ r m
   ·rw [if_pos h, if_pos ⟨by omega, h⟩]
   ·rw [if_neg h, if_neg (fun g => h g.2)]
 ·rw [br_f (by simpa using k4), if_neg (fun g => by have := g.1; omega)]
end Go.Proofs.Ythpokjkbcdfhiaa.Told.RA
