/- What a member does, as plain functions: letters, standing, leading, proposing. -/
import Derived.Test.YthpokjkbcdfhiaaTRf4
namespace Go.Proofs.Ythpokjkbcdfhiaa.Told.RA
open Go Go.Proofs.Ythpokjkbcdfhiaa.Vam Go.Proofs.Ythpokjkbcdfhiaa.Told Go.Proofs.Ythpokjkbcdfhiaa.Told.HP
set_option linter.unusedSimpArgs false
set_option linter.unusedVariables false
structure Bs (r : TRaft) : Prop where
 nodes : 1 ≤ r.Nodes ∧ r.Nodes ≤ 5
 me : 1 ≤ r.Me ∧ r.Me ≤ r.Nodes
 lv : (r.Votes.length : Int) = r.Nodes
 lx : (r.Next.length : Int) = r.Nodes
 lm : (r.Match.length : Int) = r.Nodes
 len : r.Log.length ≤ 200
 sm : SmB r.Log
 term : 0 ≤ r.Term ∧ r.Term ≤ 1152921504606846976
 xs : ∀ a ∈ r.Next, -2305843009213693952 ≤ a ∧ a ≤ 2305843009213693952
 ms : ∀ a ∈ r.Match, 0 ≤ a ∧ a ≤ 1152921504606846976
 clock : 0 ≤ r.Clock ∧ r.Clock ≤ 1152921504606846976
theorem ifmx (a b : Int) : (if a < b then b else a) = max a b := by split <;> omega
theorem ifmn (a b : Int) : (if b < a then b else a) = min a b := by split <;> omega
abbrev noT : TTxn := TTxn.mk 0 0 [] []
def ltr (kind me to term index lt commit : Int) (ok : Bool) (es : List TEntry) : TMsg := TMsg.mk kind me to 0 term index lt commit ok es noT 0 0 0 0 false ByteArray.empty ByteArray.empty [] [] 0
def nextOf (r : TRaft) (to : Int) : Int := r.Next.getD (to - 1).toNat 0
def atOf (r : TRaft) (to : Int) : Nat := min (nextOf r to - 1).toNat r.Log.length
def letterE (r : TRaft) (to : Int) : TMsg := ltr 3 r.Me to r.Term (atOf r to : Int) (termAt r.Log (atOf r to : Int)) r.Commit false ((r.Log.drop (atOf r to)).take 4)
def askE (r : TRaft) (to : Int) : TMsg := ltr 1 r.Me to r.Term (r.Log.length : Int) (termAt r.Log (r.Log.length : Int)) 0 false []
def oth (me : Int) : Nat → Int → List Int
 | 0, _ => []
 | d + 1, i => if i = me then oth me d (i + 1) else i :: oth me d (i + 1)
def others (r : TRaft) : List Int := oth r.Me r.Nodes.toNat 1
def bc (g : TRaft → Int → TMsg) (r : TRaft) : List TMsg := (others r).map (g r)
theorem oth_len (me : Int) : ∀ (d : Nat) (i : Int), (oth me d i).length ≤ d
 | 0, _ => Nat.le_refl _
 | d + 1, i => by
  have := oth_len me d (i + 1)
  unfold oth
  split
  ·omega
  ·simp; omega
theorem oth_mem {me : Int} : ∀ {d : Nat} {i j : Int}, j ∈ oth me d i ↔ i ≤ j ∧ j < i + d ∧ j ≠ me
 | 0, i, j => by simp [oth]; omega
 | d + 1, i, j => by
  unfold oth
  split
  ·rw [oth_mem (d := d)]; omega
  ·rw [List.mem_cons, oth_mem (d := d)]; omega
theorem next_get {r : TRaft} (hb : Bs r) {to : Int} (h1 : 1 ≤ to) (h2 : to ≤ r.Nodes) : r.Next[(to - 1).toNat]? = some (nextOf r to) := by
 have := hb.lx
 unfold nextOf
 rw [List.getD_eq_getElem?_getD, List.getElem?_eq_getElem (by omega)]; rfl
theorem next_bd {r : TRaft} (hb : Bs r) {to : Int} (h1 : 1 ≤ to) (h2 : to ≤ r.Nodes) : -2305843009213693952 ≤ nextOf r to ∧ nextOf r to ≤ 2305843009213693952 := hb.xs _ (List.mem_of_getElem? (next_get hb h1 h2))
theorem sends_e {to : Int} {x : TMember} {kind index lt commit : Int} {ok : Bool} {es : List TEntry} (ho : x.out.length ≤ 1000000) : raft_member_sends to (TMsg.mk kind 0 0 0 0 index lt commit ok es noT 0 0 0 0 false ByteArray.empty ByteArray.empty [] [] 0) x = some ⟨x.Raft, x.out ++ [ltr kind x.Raft.Me to x.Raft.Term index lt commit ok es]⟩ := by
 unfold raft_member_sends
 rw [gd_t (decide_eq_true (by simp; omega))]; rfl
theorem sends2_e {to : Int} {x : TMember} {kind index lt commit : Int} {ok : Bool} {es : List TEntry} (ho : x.out.length ≤ 1000000) : raft_member_sends_2 to (TMsg.mk kind 0 0 0 0 index lt commit ok es noT 0 0 0 0 false ByteArray.empty ByteArray.empty [] [] 0) x = some ⟨x.Raft, x.out ++ [ltr kind x.Raft.Me to x.Raft.Term index lt commit ok es]⟩ := by
 unfold raft_member_sends_2
 rw [gd_t (decide_eq_true (by simp; omega))]; rfl
theorem at_e {r : TRaft} (hb : Bs r) {to : Int} (h1 : 1 ≤ to) (h2 : to ≤ r.Nodes) : (if (r.Log.length : Int) < (if (w64 (nextOf r to - 1)) < 0 then 0 else (w64 (nextOf r to - 1))) then (r.Log.length : Int) else (if (w64 (nextOf r to - 1)) < 0 then 0 else (w64 (nextOf r to - 1)))) = (atOf r to : Int) := by
 have := next_bd hb h1 h2
 rw [w64_id (by omega) (by omega)]
 unfold atOf
 split <;> split at * <;> omega
theorem to_e {r : TRaft} {to : Int} (h1 : 1 ≤ to) (h2 : to ≤ 5) : w64 (to - 1) = to - 1 := w64_id (by omega) (by omega)
theorem cut_e (l : List TEntry) (a : Nat) : List.drop a (List.take (min (a + 4) l.length) l) = (l.drop a).take 4 := by
 rw [List.drop_take]
 rcases Nat.lt_or_ge (a + 4) l.length with h | h
 ·rw [Nat.min_eq_left (by omega), Nat.add_sub_cancel_left]
 ·rw [Nat.min_eq_right h, List.take_of_length_le (by simp), List.take_of_length_le (by simp; omega)]
theorem more_e {fu : Nat} {x : TMember} (hb : Bs x.Raft) {to : Int} (h1 : 1 ≤ to) (h2 : to ≤ x.Raft.Nodes) (ho : x.out.length ≤ 1000000) (hf : 10 ≤ fu) : raft_member_more fu to x = some ⟨x.Raft, x.out ++ [letterE x.Raft to]⟩ := by
 have hn := hb.nodes
 have hl := hb.len
 have hat : atOf x.Raft to ≤ x.Raft.Log.length := by unfold atOf; omega
 unfold raft_member_more
 rw [to_e (r := x.Raft) h1 (by omega), ix_s (by omega) (next_get hb h1 h2), at_e hb h1 h2]
 have e2 : (if (x.Raft.Log.length : Int) < (w64 ((atOf x.Raft to : Int) + 4)) then (x.Raft.Log.length : Int) else (w64 ((atOf x.Raft to : Int) + 4))) = ((min (atOf x.Raft to + 4) x.Raft.Log.length : Nat) : Int) := by
  rw [w64_id (by omega) (by omega)]; split <;> omega
 rw [e2, gd_t (decide_eq_true (by omega)), bd_s (term_e (by omega) (by omega) (by omega)), Int.toNat_natCast, Int.toNat_natCast, cut_e,
  bd_s (entries_e (by simp; omega) ((hb.sm.drop _).take _) (by simp; omega)), bd_s (sends_e ho)]
 rfl
theorem more2_e {fu : Nat} {x : TMember} (hb : Bs x.Raft) {to : Int} (h1 : 1 ≤ to) (h2 : to ≤ x.Raft.Nodes) (ho : x.out.length ≤ 1000000) (hf : 10 ≤ fu) : raft_member_more_2 fu to x = some ⟨x.Raft, x.out ++ [letterE x.Raft to]⟩ := by
 rw [show raft_member_more_2 fu to x = raft_member_more fu to x from rfl]
 exact more_e hb h1 h2 ho hf
theorem asks_e {x : TMember} (hb : Bs x.Raft) {to : Int} (ho : x.out.length ≤ 1000000) : raft_member_stands_1 to x = some ⟨x.Raft, x.out ++ [askE x.Raft to]⟩ := by
 have hl := hb.len
 unfold raft_member_stands_1
 rw [bd_s (term_e (by omega) (by omega) (by omega)), bd_s (sends_e ho)]
 rfl
theorem all_lp {fu : Nat} (hf : 10 ≤ fu) : ∀ (d : Nat) (to : Int) (n : Nat) (x : TMember), Bs x.Raft → to + d = x.Raft.Nodes + 1 → 1 ≤ to → x.out.length + d ≤ 1000000 → d < n → raft_member_all.lp2 fu n to x = some ⟨x.Raft, x.out ++ (oth x.Raft.Me d to).map (letterE x.Raft)⟩
 | 0, to, n, x, hb, hd, h1, ho, hn => by
  obtain ⟨n, rfl⟩ : ∃ m, n = m + 1 := ⟨n - 1, by omega⟩
  rw [raft_member_all.lp2, br_f (decide_eq_false (by omega))]; simp [oth]
 | d + 1, to, n, x, hb, hd, h1, ho, hn => by
  obtain ⟨n, rfl⟩ : ∃ m, n = m + 1 := ⟨n - 1, by omega⟩
  have hN := hb.nodes
  have wt : w64 (to + 1) = to + 1 := w64_id (by omega) (by omega)
  rw [raft_member_all.lp2, br_t (decide_eq_true (by omega)), wt]
  unfold oth
  by_cases hm : to = x.Raft.Me
  ·rw [br_f (by simpa using hm), if_pos hm]
   exact all_lp hf d (to + 1) n x hb (by omega) (by omega) (by omega) (by omega)
  ·rw [br_t (by simpa using hm), if_neg hm, bd_s (more2_e hb h1 (by omega) (by omega) hf), all_lp hf d (to + 1) n ⟨x.Raft, x.out ++ [letterE x.Raft to]⟩ hb (by show to + 1 + (d : Int) = x.Raft.Nodes + 1; omega) (by omega) (by simp; omega) (by omega)]
   simp
theorem all3_lp {fu : Nat} (hf : 10 ≤ fu) : ∀ (d : Nat) (to : Int) (n : Nat) (x : TMember), Bs x.Raft → to + d = x.Raft.Nodes + 1 → 1 ≤ to → x.out.length + d ≤ 1000000 → d < n → raft_member_all_3.lp2 fu n to x = some ⟨x.Raft, x.out ++ (oth x.Raft.Me d to).map (askE x.Raft)⟩
 | 0, to, n, x, hb, hd, h1, ho, hn => by
  obtain ⟨n, rfl⟩ : ∃ m, n = m + 1 := ⟨n - 1, by omega⟩
  rw [raft_member_all_3.lp2, br_f (decide_eq_false (by omega))]; simp [oth]
 | d + 1, to, n, x, hb, hd, h1, ho, hn => by
  obtain ⟨n, rfl⟩ : ∃ m, n = m + 1 := ⟨n - 1, by omega⟩
  have hN := hb.nodes
  have wt : w64 (to + 1) = to + 1 := w64_id (by omega) (by omega)
  rw [raft_member_all_3.lp2, br_t (decide_eq_true (by omega)), wt]
  unfold oth
  by_cases hm : to = x.Raft.Me
  ·rw [br_f (by simpa using hm), if_pos hm]
   exact all3_lp hf d (to + 1) n x hb (by omega) (by omega) (by omega) (by omega)
  ·rw [br_t (by simpa using hm), if_neg hm, bd_s (asks_e hb (by omega)), all3_lp hf d (to + 1) n ⟨x.Raft, x.out ++ [askE x.Raft to]⟩ hb (by show to + 1 + (d : Int) = x.Raft.Nodes + 1; omega) (by omega) (by simp; omega) (by omega)]
   simp
theorem all2_lp {fu : Nat} (hf : 10 ≤ fu) : ∀ (d : Nat) (to : Int) (n : Nat) (x : TMember), Bs x.Raft → to + d = x.Raft.Nodes + 1 → 1 ≤ to → x.out.length + d ≤ 1000000 → d < n → raft_member_all_2.lp2 fu n to x = some ⟨x.Raft, x.out ++ (oth x.Raft.Me d to).map (letterE x.Raft)⟩
 | 0, to, n, x, hb, hd, h1, ho, hn => by
  obtain ⟨n, rfl⟩ : ∃ m, n = m + 1 := ⟨n - 1, by omega⟩
  rw [raft_member_all_2.lp2, br_f (decide_eq_false (by omega))]; simp [oth]
 | d + 1, to, n, x, hb, hd, h1, ho, hn => by
  obtain ⟨n, rfl⟩ : ∃ m, n = m + 1 := ⟨n - 1, by omega⟩
  have hN := hb.nodes
  have wt : w64 (to + 1) = to + 1 := w64_id (by omega) (by omega)
  rw [raft_member_all_2.lp2, br_t (decide_eq_true (by omega)), wt]
  unfold oth
  by_cases hm : to = x.Raft.Me
  ·rw [br_f (by simpa using hm), if_pos hm]
   exact all2_lp hf d (to + 1) n x hb (by omega) (by omega) (by omega) (by omega)
  ·rw [br_t (by simpa using hm), if_neg hm, bd_s (more2_e hb h1 (by omega) (by omega) hf), all2_lp hf d (to + 1) n ⟨x.Raft, x.out ++ [letterE x.Raft to]⟩ hb (by show to + 1 + (d : Int) = x.Raft.Nodes + 1; omega) (by omega) (by simp; omega) (by omega)]
   simp
section
variable {fu : Nat} {x : TMember} (hb : Bs x.Raft) (ho : x.out.length ≤ 1000) (hf : 300 ≤ fu)
include hb ho hf
theorem all_e : raft_member_all fu x = some ⟨x.Raft, x.out ++ bc letterE x.Raft⟩ := by
 have hN := hb.nodes
 unfold raft_member_all
 rw [bd_s (all_lp (by omega) x.Raft.Nodes.toNat 1 fu x hb (by omega) (by omega) (by omega) (by omega))]; rfl
theorem all2_e : raft_member_all_2 fu x = some ⟨x.Raft, x.out ++ bc letterE x.Raft⟩ := by
 have hN := hb.nodes
 unfold raft_member_all_2
 rw [bd_s (all2_lp (by omega) x.Raft.Nodes.toNat 1 fu x hb (by omega) (by omega) (by omega) (by omega))]; rfl
theorem all3_e : raft_member_all_3 fu x = some ⟨x.Raft, x.out ++ bc askE x.Raft⟩ := by
 have hN := hb.nodes
 unfold raft_member_all_3
 rw [bd_s (all3_lp (by omega) x.Raft.Nodes.toNat 1 fu x hb (by omega) (by omega) (by omega) (by omega))]; rfl
end
def cntT (l : List Bool) : Nat := l.countP id
theorem many_lp (fu : Nat) : ∀ (r q : List Bool) (c n : Nat), (q ++ r).length ≤ 1000000 → c ≤ q.length → r.length < n → ballot_Many.lp3 fu (q ++ r) ((q ++ r).length : Int) n (c : Int) (q.length : Int) = some ((c + cntT r : Nat) : Int)
 | [], q, c, n, hl, hc, hn => by
  obtain ⟨n, rfl⟩ : ∃ m, n = m + 1 := ⟨n - 1, by omega⟩
  simp only [List.append_nil]
  rw [ballot_Many.lp3, br_f (nlt_end _)]; simp [cntT]
 | v :: r, q, c, n, hl, hc, hn => by
  obtain ⟨n, rfl⟩ : ∃ m, n = m + 1 := ⟨n - 1, by omega⟩
  have e : q ++ v :: r = (q ++ [v]) ++ r := by simp
  have hl' : q.length + 1 + r.length ≤ 1000000 := by simp at hl; omega
  have ih := fun c h => many_lp fu r (q ++ [v]) c n (by rw [← e]; exact hl) h (by simp at hn; omega)
  rw [← e] at ih
  rw [ballot_Many.lp3, br_t (lt_mid _ _ _), ix_mid, w64_len q r v (by omega), w64_id (n := (c : Int) + 1) (by omega) (by omega), show (c : Int) + 1 = ((c + 1 : Nat) : Int) by omega, ih c (by simp; omega), ih (c + 1) (by simp; omega)]
  cases v
  ·rw [br_f rfl]; simp [cntT]
  ·rw [br_t rfl]; simp [cntT]; omega
theorem many_e {fu : Nat} {l : List Bool} (hl : l.length ≤ 1000000) (hf : l.length < fu) : ballot_Many fu l = some (cntT l : Int) := by
 have := many_lp fu l [] 0 fu (by simpa using hl) (Nat.le_refl _) hf
 simp only [List.nil_append, List.length_nil, Int.natCast_zero] at this
 unfold ballot_Many
 rw [bd_s this]; simp
theorem half_e {n : Int} (h0 : 0 ≤ n) (h1 : n ≤ 1000000) : ballot_Majority n = some (n / 2 + 1) := by
 unfold ballot_Majority
 rw [Int.tdiv_eq_ediv_of_nonneg h0, w64_id (n := n / 2) (by omega) (by omega), w64_id (by omega) (by omega)]
def putE (r : TRaft) (e : TEntry) : TEntry := TEntry.mk r.Term e.Seal e.T
noncomputable def propR (r : TRaft) (e : TEntry) : TRaft :=
 TRaft.mk r.Me r.Nodes r.Wait r.Term r.Vote (r.Log ++ [putE r e]) (nextC (r.Match.set (r.Me - 1).toNat ((r.Log ++ [putE r e]).length : Int)) (r.Log ++ [putE r e]) r.Term r.Commit) r.Role r.Leader r.Votes r.Next (r.Match.set (r.Me - 1).toNat ((r.Log ++ [putE r e]).length : Int)) r.Clock
def canP (r : TRaft) : Prop := r.Role = 2 ∧ r.Log.length < 200
instance (r : TRaft) : Decidable (canP r) := inferInstanceAs (Decidable (_ ∧ _))
theorem mem_set' {P : Int → Prop} {l : List Int} {i : Nat} {a : Int} (h : ∀ x ∈ l, P x) (ha : P a) : ∀ x ∈ l.set i a, P x := fun x hx => by
 rcases List.mem_or_eq_of_mem_set hx with g | g
 ·exact h x g
 ·rw [g]; exact ha
theorem propR_bs {r : TRaft} {e : TEntry} (hb : Bs r) (hl : r.Log.length < 200) (he : SmB [e]) : Bs (propR r e) where
 nodes := hb.nodes
 me := hb.me
 lv := hb.lv
 lx := hb.lx
 lm := by show ((r.Match.set _ _).length : Int) = r.Nodes; rw [List.length_set]; exact hb.lm
 len := by show (r.Log ++ [putE r e]).length ≤ 200; simp; omega
 sm := hb.sm.append fun x hx => by rw [List.mem_singleton.1 hx]; exact he e (by simp)
 term := hb.term
 xs := hb.xs
 ms := mem_set' hb.ms (by simp; omega)
 clock := hb.clock
theorem prop_e {fu : Nat} {x : TMember} {e : TEntry} (hb : Bs x.Raft) (ho : x.out.length ≤ 1000) (hf : 300 ≤ fu) (he : SmB [e]) : raft_member_proposes fu e x = some (decide (canP x.Raft), if canP x.Raft then ⟨propR x.Raft e, x.out ++ bc letterE (propR x.Raft e)⟩ else x) := by
 have hN := hb.nodes
 have hme := hb.me
 have hm := hb.lm
 have hl := hb.len
 unfold raft_member_proposes
 by_cases c1 : x.Raft.Role = 2
 ·rw [br_f (by simpa using c1)]
  by_cases c2 : x.Raft.Log.length < 200
  ·have hp := propR_bs hb c2 he
   have ho' : (⟨propR x.Raft e, x.out⟩ : TMember).out.length ≤ 1000 := ho
   have hput : SmB [putE x.Raft e] := fun y hy => by rw [List.mem_singleton.1 hy]; exact he e (by simp)
   rw [br_f (decide_eq_false (by omega)), show TEntry.mk x.Raft.Term e.Seal e.T = putE x.Raft e from rfl, bd_s (entries_e (l := [putE x.Raft e]) (by simp) hput (by simp; omega)), gd_t (decide_eq_true (by simp; omega)), to_e (r := x.Raft) hme.1 (by omega),
    ix_s (by omega) (List.getElem?_eq_getElem (show (x.Raft.Me - 1).toNat < x.Raft.Match.length by omega)),
    bd_s (next_e (by simp; omega) (by simp; omega) (fun a ha => (mem_set' hb.ms (by simp; omega) a ha).1) (by simp; omega))]
   refine (bd_s (all_e (x := ⟨propR x.Raft e, x.out⟩) hp ho' hf)).trans ?_
   rw [if_pos ⟨c1, c2⟩, decide_eq_true (show canP x.Raft from ⟨c1, c2⟩)]
  ·rw [br_t (decide_eq_true (by omega)), if_neg (fun g => c2 g.2), decide_eq_false (fun g => c2 g.2)]
 ·rw [br_t (by simpa using c1), if_neg (fun g => c1 g.1), decide_eq_false (fun g => c1 g.1)]
def lead1 (r : TRaft) : TRaft := TRaft.mk r.Me r.Nodes r.Wait r.Term r.Vote r.Log r.Commit 2 r.Me r.Votes (List.replicate r.Nodes.toNat ((r.Log.length : Int) + 1)) ((List.replicate r.Nodes.toNat 0).set (r.Me - 1).toNat (r.Log.length : Int)) 0
abbrev sealE : TEntry := TEntry.mk 0 true noT
noncomputable def leadR (r : TRaft) : TRaft := if r.Log.length < 200 then propR (lead1 r) sealE else lead1 r
theorem lead1_bs {r : TRaft} (hb : Bs r) : Bs (lead1 r) where
 nodes := hb.nodes
 me := hb.me
 lv := hb.lv
 lx := by have := hb.nodes; show ((List.replicate _ _).length : Int) = r.Nodes; simp; omega
 lm := by have := hb.nodes; show (((List.replicate _ _).set _ _).length : Int) = r.Nodes; simp; omega
 len := hb.len
 sm := hb.sm
 term := hb.term
 xs := fun a ha => by have := hb.len; rw [List.eq_of_mem_replicate ha]; omega
 ms := mem_set' (fun a ha => by rw [List.eq_of_mem_replicate ha]; omega) (by have := hb.len; omega)
 clock := ⟨Int.le_refl _, by show (0 : Int) ≤ _; omega⟩
theorem seal_sm : SmB [sealE] := fun y hy => by rw [List.mem_singleton.1 hy]; exact ⟨Nat.zero_le _, Nat.zero_le _⟩
theorem leadR_bs {r : TRaft} (hb : Bs r) : Bs (leadR r) := by
 unfold leadR
 split
 ·exact propR_bs (lead1_bs hb) (by assumption) seal_sm
 ·exact lead1_bs hb
theorem leads_lp (fu : Nat) (me nodes wait term vote : Int) (log : List TEntry) (commit role leader clock : Int) (v : List Bool) (out : List TMsg) (hl : log.length ≤ 1000) : ∀ (d i n : Nat) (xs ms : List Int), xs.length = d → ms.length = d → i + d ≤ 1000 → d < n →
  raft_member_leads.lp3 fu ((i + d : Nat) : Int) n (i : Int) ⟨TRaft.mk me nodes wait term vote log commit role leader v (List.replicate i ((log.length : Int) + 1) ++ xs) (List.replicate i 0 ++ ms) clock, out⟩ =
  some ⟨TRaft.mk me nodes wait term vote log commit role leader v (List.replicate (i + d) ((log.length : Int) + 1)) (List.replicate (i + d) 0) clock, out⟩
 | 0, i, n, xs, ms, hx, hm, hi, hn => by
  obtain ⟨n, rfl⟩ : ∃ m, n = m + 1 := ⟨n - 1, by omega⟩
  obtain rfl := List.length_eq_zero_iff.1 hx
  obtain rfl := List.length_eq_zero_iff.1 hm
  rw [raft_member_leads.lp3, br_f (decide_eq_false (by omega))]; simp
 | d + 1, i, n, xs, ms, hx, hm, hi, hn => by
  obtain ⟨n, rfl⟩ : ∃ m, n = m + 1 := ⟨n - 1, by omega⟩
  cases xs with
  | nil => simp at hx
  | cons a xs =>
  cases ms with
  | nil => simp at hm
  | cons b ms =>
  have ih := leads_lp fu me nodes wait term vote log commit role leader clock v out hl d (i + 1) n xs ms (by simpa using hx) (by simpa using hm) (by omega) (by omega)
  rw [show i + 1 + d = i + (d + 1) by omega] at ih
  have r1 : List.replicate (i + 1) ((log.length : Int) + 1) ++ xs = List.replicate i ((log.length : Int) + 1) ++ ((log.length : Int) + 1) :: xs := by rw [List.replicate_succ']; simp
  have r2 : List.replicate (i + 1) (0 : Int) ++ ms = List.replicate i 0 ++ 0 :: ms := by rw [List.replicate_succ']; simp
  rw [r1, r2] at ih
  have s1 := set_mid (List.replicate i ((log.length : Int) + 1)) xs a ((log.length : Int) + 1)
  have s2 := set_mid (List.replicate i (0 : Int)) ms b 0
  rw [List.length_replicate] at s1 s2
  have g1 : (List.replicate i ((log.length : Int) + 1) ++ a :: xs)[i]? = some a := by simp
  have g2 : (List.replicate i (0 : Int) ++ b :: ms)[i]? = some b := by simp
  rw [raft_member_leads.lp3, br_t (decide_eq_true (by omega))]
  dsimp only
  rw [ix_n g1, ix_n g2, Int.toNat_natCast, w64_id (n := (log.length : Int) + 1) (by omega) (by omega), s1, s2, w64_id (n := (i : Int) + 1) (by omega) (by omega), show (i : Int) + 1 = ((i + 1 : Nat) : Int) by omega, ih]
theorem leads_e {fu : Nat} {x : TMember} (hb : Bs x.Raft) (ho : x.out.length ≤ 1000) (hf : 300 ≤ fu) : raft_member_leads fu x = some ⟨leadR x.Raft, x.out ++ bc letterE (leadR x.Raft)⟩ := by
 have hN := hb.nodes
 have hme := hb.me
 have hl := hb.len
 have hx := hb.lx
 have hm := hb.lm
 obtain ⟨k, hk⟩ : ∃ k : Nat, x.Raft.Nodes = (k : Int) := ⟨x.Raft.Nodes.toNat, by omega⟩
 have h3 := leads_lp fu x.Raft.Me x.Raft.Nodes x.Raft.Wait x.Raft.Term x.Raft.Vote x.Raft.Log x.Raft.Commit 2 x.Raft.Me 0 x.Raft.Votes x.out (by omega) k 0 fu x.Raft.Next x.Raft.Match (by omega) (by omega) (by omega) (by omega)
 simp only [Nat.zero_add, List.replicate_zero, List.nil_append, Int.natCast_zero] at h3
 rw [← hk] at h3
 unfold raft_member_leads
 rw [bd_s h3]
 dsimp only
 rw [to_e (r := x.Raft) hme.1 (by omega), ix_s (by omega) (List.getElem?_eq_getElem (show (x.Raft.Me - 1).toNat < (List.replicate k (0 : Int)).length by simp; omega))]
 have hk' : k = x.Raft.Nodes.toNat := by omega
 subst hk'
 have hp := prop_e (fu := fu) (x := ⟨lead1 x.Raft, x.out⟩) (e := sealE) (lead1_bs hb) ho hf seal_sm
 refine (bd_s hp).trans ?_
 dsimp only
 unfold leadR
 by_cases c : x.Raft.Log.length < 200
 ·have : canP (lead1 x.Raft) := ⟨rfl, c⟩
  rw [decide_eq_true this, if_pos this, if_pos c, br_f (by rfl)]
 ·have : ¬ canP (lead1 x.Raft) := fun g => c g.2
  rw [decide_eq_false this, if_neg this, if_neg c, br_t (by rfl), bd_s (all2_e (x := ⟨lead1 x.Raft, x.out⟩) (lead1_bs hb) ho hf)]
def wonB (r : TRaft) : Bool := decide ((cntT r.Votes : Int) ≥ r.Nodes / 2 + 1)
theorem elected_e {fu : Nat} {x : TMember} (hb : Bs x.Raft) (ho : x.out.length ≤ 1000) (hf : 300 ≤ fu) : raft_member_elected fu x = some (wonB x.Raft, if wonB x.Raft then ⟨leadR x.Raft, x.out ++ bc letterE (leadR x.Raft)⟩ else x) := by
 have hN := hb.nodes
 have hv := hb.lv
 unfold raft_member_elected
 rw [bd_s (many_e (by omega) (by omega)), bd_s (half_e (by omega) (by omega))]
 rw [show decide ((cntT x.Raft.Votes : Int) ≥ x.Raft.Nodes / 2 + 1) = wonB x.Raft from rfl]
 cases wonB x.Raft
 ·rw [br_f rfl]; rfl
 ·rw [br_t rfl, bd_s (leads_e hb ho hf)]; rfl
end Go.Proofs.Ythpokjkbcdfhiaa.Told.RA
