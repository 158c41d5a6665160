/- When two states of a member are the same: what the program and the document's answer say. -/
import Derived.Test.YthpokjkbcdfhiaaTRf1
namespace Go.Proofs.Ythpokjkbcdfhiaa.Told.RA
open Go Go.Proofs.Ythpokjkbcdfhiaa.Vam Go.Proofs.Ythpokjkbcdfhiaa.Told
set_option linter.unusedSimpArgs false
set_option linter.unusedVariables false
theorem ba_ext {x y : ByteArray} (h : x.toList = y.toList) : x = y := by
 rw [ByteArray.toList_eq, ByteArray.toList_eq] at h
 cases x; cases y
 simp only [Array.toList_inj] at h
 rw [h]
theorem ba_inj {x y : ByteArray} : x.toList = y.toList ↔ x = y := ⟨ba_ext, fun h => by rw [h]⟩
def bqB (x y : Bool) : Bool := x == y
def bqI (x y : Int) : Bool := x == y
theorem bqB_iff (x y : Bool) : bqB x y = true ↔ x = y := beq_iff_eq
theorem bqI_iff (x y : Int) : bqI x y = true ↔ x = y := beq_iff_eq
def inlB (b : Bool) : Unit ⊕ Unit := bif b then .inl () else .inr ()
def eqL {α : Type} (f : α → α → Bool) : List α → List α → Bool
 | [], [] => true
 | x :: a, y :: b => f x y && eqL f a b
 | _, _ => false
theorem eqL_iff {α : Type} {f : α → α → Bool} (hf : ∀ x y, f x y = true ↔ x = y) : ∀ {a b : List α}, eqL f a b = true ↔ a = b
 | [], [] => by simp [eqL]
 | [], _ :: _ => by simp [eqL]
 | _ :: _, [] => by simp [eqL]
 | x :: a, y :: b => by simp [eqL, hf, eqL_iff hf (a := a)]
theorem eqL_len {α : Type} {f : α → α → Bool} : ∀ {a b : List α}, a.length ≠ b.length → eqL f a b = false
 | [], [], h => absurd rfl h
 | [], _ :: _, _ => rfl
 | _ :: _, [], _ => rfl
 | x :: a, y :: b, h => by simp only [eqL, eqL_len (a := a) (b := b) (by simpa using h), Bool.and_false]
def rdB (x y : TRead) : Bool := (x.Key.toList == y.Key.toList) && ((x.Version == y.Version) && ((x.Val.toList == y.Val.toList) && ((x.There == y.There) && true)))
theorem rdB_iff (x y : TRead) : rdB x y = true ↔ x = y := by
 cases x; cases y; simp only [rdB, Bool.and_eq_true, beq_iff_eq, ba_inj, TRead.mk.injEq, and_true]
def wrB (x y : TWrite) : Bool := (x.Key.toList == y.Key.toList) && ((x.Val.toList == y.Val.toList) && ((x.Gone == y.Gone) && true))
theorem wrB_iff (x y : TWrite) : wrB x y = true ↔ x = y := by
 cases x; cases y; simp only [wrB, Bool.and_eq_true, beq_iff_eq, ba_inj, TWrite.mk.injEq, and_true]
def txB (x y : TTxn) : Bool := (x.Session == y.Session) && ((x.Seq == y.Seq) && (eqL rdB x.Reads y.Reads && eqL wrB x.Writes y.Writes))
theorem txB_iff (x y : TTxn) : txB x y = true ↔ x = y := by
 cases x; cases y; simp only [txB, Bool.and_eq_true, beq_iff_eq, TTxn.mk.injEq, eqL_iff rdB_iff, eqL_iff wrB_iff]
def enB (x y : TEntry) : Bool := (x.Term == y.Term) && ((x.Seal == y.Seal) && txB x.T y.T)
theorem enB_iff (x y : TEntry) : enB x y = true ↔ x = y := by
 cases x; cases y; simp only [enB, Bool.and_eq_true, beq_iff_eq, TEntry.mk.injEq, txB_iff]
def SmE (N : Nat) (l : List TEntry) : Prop := l.length ≤ N ∧ ∀ e ∈ l, e.T.Reads.length ≤ N ∧ e.T.Writes.length ≤ N
theorem eqR_lp (fu : Nat) : ∀ (r s q p : List TRead) (n : Nat), (q ++ r).length ≤ 1000000 → q.length = p.length → r.length = s.length → r.length < n →
  slices_Equal_api_Read.lp6 fu (q ++ r) (p ++ s) ((q ++ r).length : Int) n (q.length : Int) = some (inlB (eqL rdB r s))
 | [], s, q, p, n, hl, hq, hs, hn => by
  obtain ⟨n, rfl⟩ : ∃ m, n = m + 1 := ⟨n - 1, by omega⟩
  have hs' : s = [] := List.length_eq_zero_iff.1 hs.symm
  subst hs'
  simp only [List.append_nil]
  rw [slices_Equal_api_Read.lp6, br_f (nlt_end _)]; rfl
 | v :: r, s, q, p, n, hl, hq, hs, hn => by
  obtain ⟨n, rfl⟩ : ∃ m, n = m + 1 := ⟨n - 1, by omega⟩
  obtain ⟨u, s, rfl⟩ : ∃ u t, s = u :: t := by cases s with
   | nil => simp at hs
   | cons u t => exact ⟨u, t, rfl⟩
  have e1 : q ++ v :: r = (q ++ [v]) ++ r := by simp
  have e2 : p ++ u :: s = (p ++ [u]) ++ s := by simp
  have hx : (p ++ u :: s)[q.length]? = some u := by rw [hq]; simp
  have ih := eqR_lp fu r s (q ++ [v]) (p ++ [u]) n (by rw [← e1]; exact hl) (by simp [hq]) (by simpa using hs) (by simp at hn; omega)
  rw [← e1, ← e2] at ih
  rw [slices_Equal_api_Read.lp6, br_t (lt_mid _ _ _), ix_mid, ix_n hx, w64_len q r v (by omega), ih]
  simp only [eqL]
  cases h : rdB v u
  ·rw [br_t (by show (!rdB v u) = true; rw [h]; rfl)]; rfl
  ·rw [br_f (by show (!rdB v u) = false; rw [h]; rfl)]; rfl
theorem eqR_e {fu : Nat} {a b : List TRead} (hl : a.length ≤ 1000000) (hf : a.length < fu) : slices_Equal_api_Read fu a b = some (eqL rdB a b) := by
 unfold slices_Equal_api_Read
 by_cases h : a.length = b.length
 ·have := eqR_lp fu a b [] [] fu (by simpa using hl) rfl h hf
  simp only [List.nil_append, List.length_nil, Int.natCast_zero] at this
  rw [br_f (by simp [h]), bd_s this]
  cases eqL rdB a b <;> rfl
 ·rw [br_t (by simpa using fun g => h (by omega)), eqL_len h]
theorem eqW_lp (fu : Nat) : ∀ (r s q p : List TWrite) (n : Nat), (q ++ r).length ≤ 1000000 → q.length = p.length → r.length = s.length → r.length < n →
  slices_Equal_api_Write.lp6 fu (q ++ r) (p ++ s) ((q ++ r).length : Int) n (q.length : Int) = some (inlB (eqL wrB r s))
 | [], s, q, p, n, hl, hq, hs, hn => by
  obtain ⟨n, rfl⟩ : ∃ m, n = m + 1 := ⟨n - 1, by omega⟩
  have hs' : s = [] := List.length_eq_zero_iff.1 hs.symm
  subst hs'
  simp only [List.append_nil]
  rw [slices_Equal_api_Write.lp6, br_f (nlt_end _)]; rfl
 | v :: r, s, q, p, n, hl, hq, hs, hn => by
  obtain ⟨n, rfl⟩ : ∃ m, n = m + 1 := ⟨n - 1, by omega⟩
  obtain ⟨u, s, rfl⟩ : ∃ u t, s = u :: t := by cases s with
   | nil => simp at hs
   | cons u t => exact ⟨u, t, rfl⟩
  have e1 : q ++ v :: r = (q ++ [v]) ++ r := by simp
  have e2 : p ++ u :: s = (p ++ [u]) ++ s := by simp
  have hx : (p ++ u :: s)[q.length]? = some u := by rw [hq]; simp
  have ih := eqW_lp fu r s (q ++ [v]) (p ++ [u]) n (by rw [← e1]; exact hl) (by simp [hq]) (by simpa using hs) (by simp at hn; omega)
  rw [← e1, ← e2] at ih
  rw [slices_Equal_api_Write.lp6, br_t (lt_mid _ _ _), ix_mid, ix_n hx, w64_len q r v (by omega), ih]
  simp only [eqL]
  cases h : wrB v u
  ·rw [br_t (by show (!wrB v u) = true; rw [h]; rfl)]; rfl
  ·rw [br_f (by show (!wrB v u) = false; rw [h]; rfl)]; rfl
theorem eqW_e {fu : Nat} {a b : List TWrite} (hl : a.length ≤ 1000000) (hf : a.length < fu) : slices_Equal_api_Write fu a b = some (eqL wrB a b) := by
 unfold slices_Equal_api_Write
 by_cases h : a.length = b.length
 ·have := eqW_lp fu a b [] [] fu (by simpa using hl) rfl h hf
  simp only [List.nil_append, List.length_nil, Int.natCast_zero] at this
  rw [br_f (by simp [h]), bd_s this]
  cases eqL wrB a b <;> rfl
 ·rw [br_t (by simpa using fun g => h (by omega)), eqL_len h]
theorem eqB_lp (fu : Nat) : ∀ (r s q p : List Bool) (n : Nat), (q ++ r).length ≤ 1000000 → q.length = p.length → r.length = s.length → r.length < n →
  slices_Equal_bool_bool.lp6 fu (q ++ r) (p ++ s) ((q ++ r).length : Int) n (q.length : Int) = some (inlB (eqL bqB r s))
 | [], s, q, p, n, hl, hq, hs, hn => by
  obtain ⟨n, rfl⟩ : ∃ m, n = m + 1 := ⟨n - 1, by omega⟩
  have hs' : s = [] := List.length_eq_zero_iff.1 hs.symm
  subst hs'
  simp only [List.append_nil]
  rw [slices_Equal_bool_bool.lp6, br_f (nlt_end _)]; rfl
 | v :: r, s, q, p, n, hl, hq, hs, hn => by
  obtain ⟨n, rfl⟩ : ∃ m, n = m + 1 := ⟨n - 1, by omega⟩
  obtain ⟨u, s, rfl⟩ : ∃ u t, s = u :: t := by cases s with
   | nil => simp at hs
   | cons u t => exact ⟨u, t, rfl⟩
  have e1 : q ++ v :: r = (q ++ [v]) ++ r := by simp
  have e2 : p ++ u :: s = (p ++ [u]) ++ s := by simp
  have hx : (p ++ u :: s)[q.length]? = some u := by rw [hq]; simp
  have ih := eqB_lp fu r s (q ++ [v]) (p ++ [u]) n (by rw [← e1]; exact hl) (by simp [hq]) (by simpa using hs) (by simp at hn; omega)
  rw [← e1, ← e2] at ih
  rw [slices_Equal_bool_bool.lp6, br_t (lt_mid _ _ _), ix_mid, ix_n hx, w64_len q r v (by omega), ih]
  simp only [eqL]
  cases h : bqB v u
  ·rw [br_t (by show (!bqB v u) = true; rw [h]; rfl)]; rfl
  ·rw [br_f (by show (!bqB v u) = false; rw [h]; rfl)]; rfl
theorem eqB_e {fu : Nat} {a b : List Bool} (hl : a.length ≤ 1000000) (hf : a.length < fu) : slices_Equal_bool_bool fu a b = some (eqL bqB a b) := by
 unfold slices_Equal_bool_bool
 by_cases h : a.length = b.length
 ·have := eqB_lp fu a b [] [] fu (by simpa using hl) rfl h hf
  simp only [List.nil_append, List.length_nil, Int.natCast_zero] at this
  rw [br_f (by simp [h]), bd_s this]
  cases eqL bqB a b <;> rfl
 ·rw [br_t (by simpa using fun g => h (by omega)), eqL_len h]
theorem eqI_lp (fu : Nat) : ∀ (r s q p : List Int) (n : Nat), (q ++ r).length ≤ 1000000 → q.length = p.length → r.length = s.length → r.length < n →
  slices_Equal_int_int.lp6 fu (q ++ r) (p ++ s) ((q ++ r).length : Int) n (q.length : Int) = some (inlB (eqL bqI r s))
 | [], s, q, p, n, hl, hq, hs, hn => by
  obtain ⟨n, rfl⟩ : ∃ m, n = m + 1 := ⟨n - 1, by omega⟩
  have hs' : s = [] := List.length_eq_zero_iff.1 hs.symm
  subst hs'
  simp only [List.append_nil]
  rw [slices_Equal_int_int.lp6, br_f (nlt_end _)]; rfl
 | v :: r, s, q, p, n, hl, hq, hs, hn => by
  obtain ⟨n, rfl⟩ : ∃ m, n = m + 1 := ⟨n - 1, by omega⟩
  obtain ⟨u, s, rfl⟩ : ∃ u t, s = u :: t := by cases s with
   | nil => simp at hs
   | cons u t => exact ⟨u, t, rfl⟩
  have e1 : q ++ v :: r = (q ++ [v]) ++ r := by simp
  have e2 : p ++ u :: s = (p ++ [u]) ++ s := by simp
  have hx : (p ++ u :: s)[q.length]? = some u := by rw [hq]; simp
  have ih := eqI_lp fu r s (q ++ [v]) (p ++ [u]) n (by rw [← e1]; exact hl) (by simp [hq]) (by simpa using hs) (by simp at hn; omega)
  rw [← e1, ← e2] at ih
  rw [slices_Equal_int_int.lp6, br_t (lt_mid _ _ _), ix_mid, ix_n hx, w64_len q r v (by omega), ih]
  simp only [eqL]
  cases h : bqI v u
  ·rw [br_t (by show (!bqI v u) = true; rw [h]; rfl)]; rfl
  ·rw [br_f (by show (!bqI v u) = false; rw [h]; rfl)]; rfl
theorem eqI_e {fu : Nat} {a b : List Int} (hl : a.length ≤ 1000000) (hf : a.length < fu) : slices_Equal_int_int fu a b = some (eqL bqI a b) := by
 unfold slices_Equal_int_int
 by_cases h : a.length = b.length
 ·have := eqI_lp fu a b [] [] fu (by simpa using hl) rfl h hf
  simp only [List.nil_append, List.length_nil, Int.natCast_zero] at this
  rw [br_f (by simp [h]), bd_s this]
  cases eqL bqI a b <;> rfl
 ·rw [br_t (by simpa using fun g => h (by omega)), eqL_len h]
theorem and_br' {b : Bool} {x : Bool} {o : Option Bool} (h : o = some x) : br (!b) (some false) o = some (b && x) := by cases b <;> simp [br, h]
theorem sameE_e {fu N : Nat} {a b : TEntry} (h1 : a.T.Reads.length ≤ N) (h2 : a.T.Writes.length ≤ N) (hN : N ≤ 1000000) (hf : N < fu) : ulog_same fu a b = some (enB a b) := by
 unfold ulog_same enB txB
 refine and_br ?_
 refine and_br ?_
 refine and_br ?_
 refine and_br ?_
 rw [bd_s (eqR_e (by omega) (by omega))]
 refine and_br ?_
 rw [bd_s (eqW_e (by omega) (by omega))]
theorem eqE_lp (fu : Nat) {N : Nat} (hN : N ≤ 1000000) (hf : N < fu) : ∀ (r s q p : List TEntry) (n : Nat), (q ++ r).length ≤ 1000000 → q.length = p.length → r.length = s.length → (∀ e ∈ r, e.T.Reads.length ≤ N ∧ e.T.Writes.length ≤ N) → r.length < n →
  slices_EqualFunc_api_Entry.lp6 fu (p ++ s) (q ++ r) ((q ++ r).length : Int) n (q.length : Int) = some (inlB (eqL enB r s))
 | [], s, q, p, n, hl, hq, hs, hr, hn => by
  obtain ⟨n, rfl⟩ : ∃ m, n = m + 1 := ⟨n - 1, by omega⟩
  have hs' : s = [] := List.length_eq_zero_iff.1 hs.symm
  subst hs'
  simp only [List.append_nil]
  rw [slices_EqualFunc_api_Entry.lp6, br_f (nlt_end _)]; rfl
 | v :: r, s, q, p, n, hl, hq, hs, hr, hn => by
  obtain ⟨n, rfl⟩ : ∃ m, n = m + 1 := ⟨n - 1, by omega⟩
  obtain ⟨u, s, rfl⟩ : ∃ u t, s = u :: t := by cases s with
   | nil => simp at hs
   | cons u t => exact ⟨u, t, rfl⟩
  have e1 : q ++ v :: r = (q ++ [v]) ++ r := by simp
  have e2 : p ++ u :: s = (p ++ [u]) ++ s := by simp
  have hx : (p ++ u :: s)[q.length]? = some u := by rw [hq]; simp
  have ih := eqE_lp fu hN hf r s (q ++ [v]) (p ++ [u]) n (by rw [← e1]; exact hl) (by simp [hq]) (by simpa using hs) (fun e h => hr e (by simp [h])) (by simp at hn; omega)
  rw [← e1, ← e2] at ih
  obtain ⟨g1, g2⟩ := hr v (by simp)
  rw [slices_EqualFunc_api_Entry.lp6, br_t (lt_mid _ _ _), ix_mid, ix_n hx, bd_s (sameE_e g1 g2 hN hf), w64_len q r v (by omega), ih]
  simp only [eqL]
  cases enB v u <;> rfl
theorem eqE_e {fu N : Nat} {a b : List TEntry} (h : SmE N a) (hN : N ≤ 1000000) (hf : N < fu) : ulog_Same fu a b = some (eqL enB a b) := by
 unfold ulog_Same slices_EqualFunc_api_Entry
 have hl := h.1
 by_cases e : a.length = b.length
 ·have := eqE_lp fu hN hf a b [] [] fu (by simp; omega) rfl e h.2 (by omega)
  simp only [List.nil_append, List.length_nil, Int.natCast_zero] at this
  rw [br_f (by simp [e]), bd_s (o := bd _ _) (x := eqL enB a b) (by rw [bd_s this]; cases eqL enB a b <;> rfl)]
 ·rw [br_t (by simpa using fun g => e (by omega)), bd_s rfl, eqL_len e]
def sameB (a b : TRaft) : Bool := (a.Me == b.Me) && ((a.Nodes == b.Nodes) && ((a.Wait == b.Wait) && ((a.Term == b.Term) && ((a.Vote == b.Vote) && (eqL enB a.Log b.Log && ((a.Commit == b.Commit) && ((a.Role == b.Role) && ((a.Leader == b.Leader) && (eqL bqB a.Votes b.Votes && (eqL bqI a.Next b.Next && (eqL bqI a.Match b.Match && (a.Clock == b.Clock))))))))))))
theorem sameB_iff {a b : TRaft} : sameB a b = true ↔ a = b := by
 cases a; cases b
 simp only [sameB, Bool.and_eq_true, beq_iff_eq, TRaft.mk.injEq, eqL_iff enB_iff, eqL_iff bqB_iff, eqL_iff bqI_iff]
structure SmR (N : Nat) (r : TRaft) : Prop where
 log : SmE N r.Log
 v : r.Votes.length ≤ N
 n : r.Next.length ≤ N
 m : r.Match.length ≤ N
theorem same_e {fu N : Nat} {a b : TRaft} (h : SmR N a) (hN : N ≤ 1000000) (hf : N < fu) : raft_Same fu a b = some (sameB a b) := by
 have hv := h.v
 have hn := h.n
 have hm := h.m
 unfold raft_Same sameB
 refine and_br ?_
 refine and_br ?_
 refine and_br ?_
 refine and_br ?_
 refine and_br ?_
 rw [bd_s (eqE_e h.log hN hf)]
 refine and_br ?_
 refine and_br ?_
 refine and_br ?_
 refine and_br ?_
 rw [bd_s (eqB_e (by omega) (by omega))]
 refine and_br ?_
 rw [bd_s (eqI_e (by omega) (by omega))]
 refine and_br ?_
 rw [bd_s (eqI_e (by omega) (by omega))]
 exact and_br rfl
end Go.Proofs.Ythpokjkbcdfhiaa.Told.RA
