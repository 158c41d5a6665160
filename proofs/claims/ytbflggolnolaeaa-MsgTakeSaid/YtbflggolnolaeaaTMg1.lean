/- When two letters are the same: what the program and the document's answer say. -/
import Derived.Test.YtbflggolnolaeaaFitMsgTake
import Derived.Test.YtbflggolnolaeaaTMath
namespace Go.Proofs.Ytbflggolnolaeaa.Told.MG
open Go Go.Proofs.Ytbflggolnolaeaa.Vam Go.Proofs.Ytbflggolnolaeaa.Told
set_option linter.unusedSimpArgs false
set_option linter.unusedVariables false
theorem ba_ext {x y : ByteArray} (h : x.toList = y.toList) : x = y := by
 rw [ByteArray.toList_eq, ByteArray.toList_eq] at h
 cases x; cases y
 simp only [Array.toList_inj] at h
 rw [h]
theorem ba_inj {x y : ByteArray} : x.toList = y.toList ↔ x = y := ⟨ba_ext, fun h => by rw [h]⟩
def bqB (x y : Bool) : Bool := x == y
def bqI (x y : Int) : Bool := x == y
theorem bqB_iff (x y : Bool) : bqB x y = true ↔ x = y := beq_iff_eq
theorem bqI_iff (x y : Int) : bqI x y = true ↔ x = y := beq_iff_eq
def inlB (b : Bool) : Unit ⊕ Unit := bif b then .inl () else .inr ()
def eqL {α : Type} (f : α → α → Bool) : List α → List α → Bool
 | [], [] => true
 | x :: a, y :: b => f x y && eqL f a b
 | _, _ => false
theorem eqL_iff {α : Type} {f : α → α → Bool} (hf : ∀ x y, f x y = true ↔ x = y) : ∀ {a b : List α}, eqL f a b = true ↔ a = b
 | [], [] => by simp [eqL]
 | [], _ :: _ => by simp [eqL]
 | _ :: _, [] => by simp [eqL]
 | x :: a, y :: b => by simp [eqL, hf, eqL_iff hf (a := a)]
theorem eqL_len {α : Type} {f : α → α → Bool} : ∀ {a b : List α}, a.length ≠ b.length → eqL f a b = false
 | [], [], h => absurd rfl h
 | [], _ :: _, _ => rfl
 | _ :: _, [], _ => rfl
 | x :: a, y :: b, h => by simp only [eqL, eqL_len (a := a) (b := b) (by simpa using h), Bool.and_false]
def rdB (x y : TRead) : Bool := (x.Key.toList == y.Key.toList) && ((x.Version == y.Version) && ((x.Val.toList == y.Val.toList) && ((x.There == y.There) && true)))
theorem rdB_iff (x y : TRead) : rdB x y = true ↔ x = y := by
 cases x; cases y; simp only [rdB, Bool.and_eq_true, beq_iff_eq, ba_inj, TRead.mk.injEq, and_true]
def wrB (x y : TWrite) : Bool := (x.Key.toList == y.Key.toList) && ((x.Val.toList == y.Val.toList) && ((x.Gone == y.Gone) && true))
theorem wrB_iff (x y : TWrite) : wrB x y = true ↔ x = y := by
 cases x; cases y; simp only [wrB, Bool.and_eq_true, beq_iff_eq, ba_inj, TWrite.mk.injEq, and_true]
def txB (x y : TTxn) : Bool := (x.Session == y.Session) && ((x.Seq == y.Seq) && (eqL rdB x.Reads y.Reads && eqL wrB x.Writes y.Writes))
theorem txB_iff (x y : TTxn) : txB x y = true ↔ x = y := by
 cases x; cases y; simp only [txB, Bool.and_eq_true, beq_iff_eq, TTxn.mk.injEq, eqL_iff rdB_iff, eqL_iff wrB_iff]
def enB (x y : TEntry) : Bool := (x.Term == y.Term) && ((x.Seal == y.Seal) && txB x.T y.T)
theorem enB_iff (x y : TEntry) : enB x y = true ↔ x = y := by
 cases x; cases y; simp only [enB, Bool.and_eq_true, beq_iff_eq, TEntry.mk.injEq, txB_iff]
def SmE (N : Nat) (l : List TEntry) : Prop := l.length ≤ N ∧ ∀ e ∈ l, e.T.Reads.length ≤ N ∧ e.T.Writes.length ≤ N
theorem eqR_lp (fu : Nat) : ∀ (r s q p : List TRead) (n : Nat), (q ++ r).length ≤ 1000000 → q.length = p.length → r.length = s.length → r.length < n →
  slices_Equal_api_Read.lp6 fu (q ++ r) (p ++ s) ((q ++ r).length : Int) n (q.length : Int) = some (inlB (eqL rdB r s))
 | [], s, q, p, n, hl, hq, hs, hn => by
  obtain ⟨n, rfl⟩ : ∃ m, n = m + 1 := ⟨n - 1, by omega⟩
  have hs' : s = [] := List.length_eq_zero_iff.1 hs.symm
  subst hs'
  simp only [List.append_nil]
  rw [slices_Equal_api_Read.lp6, br_f (nlt_end _)]; rfl
 | v :: r, s, q, p, n, hl, hq, hs, hn => by
  obtain ⟨n, rfl⟩ : ∃ m, n = m + 1 := ⟨n - 1, by omega⟩
  obtain ⟨u, s, rfl⟩ : ∃ u t, s = u :: t := by cases s with
   | nil => simp at hs
   | cons u t => exact ⟨u, t, rfl⟩
  have e1 : q ++ v :: r = (q ++ [v]) ++ r := by simp
  have e2 : p ++ u :: s = (p ++ [u]) ++ s := by simp
  have hx : (p ++ u :: s)[q.length]? = some u := by rw [hq]; simp
  have ih := eqR_lp fu r s (q ++ [v]) (p ++ [u]) n (by rw [← e1]; exact hl) (by simp [hq]) (by simpa using hs) (by simp at hn; omega)
  rw [← e1, ← e2] at ih
  rw [slices_Equal_api_Read.lp6, br_t (lt_mid _ _ _), ix_mid, ix_n hx, w64_len q r v (by omega), ih]
  simp only [eqL]
  cases h : rdB v u
  ·rw [br_t (by show (!rdB v u) = true; rw [h]; rfl)]; rfl
  ·rw [br_f (by show (!rdB v u) = false; rw [h]; rfl)]; rfl
theorem eqR_e {fu : Nat} {a b : List TRead} (hl : a.length ≤ 1000000) (hf : a.length < fu) : slices_Equal_api_Read fu a b = some (eqL rdB a b) := by
 unfold slices_Equal_api_Read
 by_cases h : a.length = b.length
 ·have := eqR_lp fu a b [] [] fu (by simpa using hl) rfl h hf
  simp only [List.nil_append, List.length_nil, Int.natCast_zero] at this
  rw [br_f (by simp [h]), bd_s this]
  cases eqL rdB a b <;> rfl
 ·rw [br_t (by simpa using fun g => h (by omega)), eqL_len h]
theorem eqW_lp (fu : Nat) : ∀ (r s q p : List TWrite) (n : Nat), (q ++ r).length ≤ 1000000 → q.length = p.length → r.length = s.length → r.length < n →
  slices_Equal_api_Write.lp6 fu (q ++ r) (p ++ s) ((q ++ r).length : Int) n (q.length : Int) = some (inlB (eqL wrB r s))
 | [], s, q, p, n, hl, hq, hs, hn => by
  obtain ⟨n, rfl⟩ : ∃ m, n = m + 1 := ⟨n - 1, by omega⟩
  have hs' : s = [] := List.length_eq_zero_iff.1 hs.symm
  subst hs'
  simp only [List.append_nil]
  rw [slices_Equal_api_Write.lp6, br_f (nlt_end _)]; rfl
 | v :: r, s, q, p, n, hl, hq, hs, hn => by
  obtain ⟨n, rfl⟩ : ∃ m, n = m + 1 := ⟨n - 1, by omega⟩
  obtain ⟨u, s, rfl⟩ : ∃ u t, s = u :: t := by cases s with
   | nil => simp at hs
   | cons u t => exact ⟨u, t, rfl⟩
  have e1 : q ++ v :: r = (q ++ [v]) ++ r := by simp
  have e2 : p ++ u :: s = (p ++ [u]) ++ s := by simp
  have hx : (p ++ u :: s)[q.length]? = some u := by rw [hq]; simp
  have ih := eqW_lp fu r s (q ++ [v]) (p ++ [u]) n (by rw [← e1]; exact hl) (by simp [hq]) (by simpa using hs) (by simp at hn; omega)
  rw [← e1, ← e2] at ih
  rw [slices_Equal_api_Write.lp6, br_t (lt_mid _ _ _), ix_mid, ix_n hx, w64_len q r v (by omega), ih]
  simp only [eqL]
  cases h : wrB v u
  ·rw [br_t (by show (!wrB v u) = true; rw [h]; rfl)]; rfl
  ·rw [br_f (by show (!wrB v u) = false; rw [h]; rfl)]; rfl
theorem eqW_e {fu : Nat} {a b : List TWrite} (hl : a.length ≤ 1000000) (hf : a.length < fu) : slices_Equal_api_Write fu a b = some (eqL wrB a b) := by
 unfold slices_Equal_api_Write
 by_cases h : a.length = b.length
 ·have := eqW_lp fu a b [] [] fu (by simpa using hl) rfl h hf
  simp only [List.nil_append, List.length_nil, Int.natCast_zero] at this
  rw [br_f (by simp [h]), bd_s this]
  cases eqL wrB a b <;> rfl
 ·rw [br_t (by simpa using fun g => h (by omega)), eqL_len h]
theorem eqI_lp (fu : Nat) : ∀ (r s q p : List Int) (n : Nat), (q ++ r).length ≤ 1000000 → q.length = p.length → r.length = s.length → r.length < n →
  slices_Equal_int_int.lp6 fu (q ++ r) (p ++ s) ((q ++ r).length : Int) n (q.length : Int) = some (inlB (eqL bqI r s))
 | [], s, q, p, n, hl, hq, hs, hn => by
  obtain ⟨n, rfl⟩ : ∃ m, n = m + 1 := ⟨n - 1, by omega⟩
  have hs' : s = [] := List.length_eq_zero_iff.1 hs.symm
  subst hs'
  simp only [List.append_nil]
  rw [slices_Equal_int_int.lp6, br_f (nlt_end _)]; rfl
 | v :: r, s, q, p, n, hl, hq, hs, hn => by
  obtain ⟨n, rfl⟩ : ∃ m, n = m + 1 := ⟨n - 1, by omega⟩
  obtain ⟨u, s, rfl⟩ : ∃ u t, s = u :: t := by cases s with
   | nil => simp at hs
   | cons u t => exact ⟨u, t, rfl⟩
  have e1 : q ++ v :: r = (q ++ [v]) ++ r := by simp
  have e2 : p ++ u :: s = (p ++ [u]) ++ s := by simp
  have hx : (p ++ u :: s)[q.length]? = some u := by rw [hq]; simp
  have ih := eqI_lp fu r s (q ++ [v]) (p ++ [u]) n (by rw [← e1]; exact hl) (by simp [hq]) (by simpa using hs) (by simp at hn; omega)
  rw [← e1, ← e2] at ih
  rw [slices_Equal_int_int.lp6, br_t (lt_mid _ _ _), ix_mid, ix_n hx, w64_len q r v (by omega), ih]
  simp only [eqL]
  cases h : bqI v u
  ·rw [br_t (by show (!bqI v u) = true; rw [h]; rfl)]; rfl
  ·rw [br_f (by show (!bqI v u) = false; rw [h]; rfl)]; rfl
theorem eqI_e {fu : Nat} {a b : List Int} (hl : a.length ≤ 1000000) (hf : a.length < fu) : slices_Equal_int_int fu a b = some (eqL bqI a b) := by
 unfold slices_Equal_int_int
 by_cases h : a.length = b.length
 ·have := eqI_lp fu a b [] [] fu (by simpa using hl) rfl h hf
  simp only [List.nil_append, List.length_nil, Int.natCast_zero] at this
  rw [br_f (by simp [h]), bd_s this]
  cases eqL bqI a b <;> rfl
 ·rw [br_t (by simpa using fun g => h (by omega)), eqL_len h]
def bqS (x y : ByteArray) : Bool := x.toList == y.toList
theorem bqS_iff (x y : ByteArray) : bqS x y = true ↔ x = y := by unfold bqS; rw [beq_iff_eq]; exact ba_inj
theorem eqS_lp (fu : Nat) : ∀ (r s q p : List ByteArray) (n : Nat), (q ++ r).length ≤ 1000000 → q.length = p.length → r.length = s.length → r.length < n →
  slices_Equal_string_string.lp6 fu (q ++ r) (p ++ s) ((q ++ r).length : Int) n (q.length : Int) = some (inlB (eqL bqS r s))
 | [], s, q, p, n, hl, hq, hs, hn => by
  obtain ⟨n, rfl⟩ : ∃ m, n = m + 1 := ⟨n - 1, by omega⟩
  have hs' : s = [] := List.length_eq_zero_iff.1 hs.symm
  subst hs'
  simp only [List.append_nil]
  rw [slices_Equal_string_string.lp6, br_f (nlt_end _)]; rfl
 | v :: r, s, q, p, n, hl, hq, hs, hn => by
  obtain ⟨n, rfl⟩ : ∃ m, n = m + 1 := ⟨n - 1, by omega⟩
  obtain ⟨u, s, rfl⟩ : ∃ u t, s = u :: t := by cases s with
   | nil => simp at hs
   | cons u t => exact ⟨u, t, rfl⟩
  have e1 : q ++ v :: r = (q ++ [v]) ++ r := by simp
  have e2 : p ++ u :: s = (p ++ [u]) ++ s := by simp
  have hx : (p ++ u :: s)[q.length]? = some u := by rw [hq]; simp
  have ih := eqS_lp fu r s (q ++ [v]) (p ++ [u]) n (by rw [← e1]; exact hl) (by simp [hq]) (by simpa using hs) (by simp at hn; omega)
  rw [← e1, ← e2] at ih
  rw [slices_Equal_string_string.lp6, br_t (lt_mid _ _ _), ix_mid, ix_n hx, w64_len q r v (by omega), ih]
  simp only [eqL]
  cases h : bqS v u
  ·rw [br_t (by show (!bqS v u) = true; rw [h]; rfl)]; rfl
  ·rw [br_f (by show (!bqS v u) = false; rw [h]; rfl)]; rfl
theorem eqS_e {fu : Nat} {a b : List ByteArray} (hl : a.length ≤ 1000000) (hf : a.length < fu) : slices_Equal_string_string fu a b = some (eqL bqS a b) := by
 unfold slices_Equal_string_string
 by_cases h : a.length = b.length
 ·have := eqS_lp fu a b [] [] fu (by simpa using hl) rfl h hf
  simp only [List.nil_append, List.length_nil, Int.natCast_zero] at this
  rw [br_f (by simp [h]), bd_s this]
  cases eqL bqS a b <;> rfl
 ·rw [br_t (by simpa using fun g => h (by omega)), eqL_len h]
theorem br_and {b x : Bool} {o : Option Bool} (h : o = some x) : br b o (some false) = some (b && x) := by rw [h]; cases b <;> rfl
theorem br_nand {b x : Bool} {o : Option Bool} (h : o = some x) : br b (some false) o = some (!b && x) := by rw [h]; cases b <;> rfl
theorem br_nn {b x : Bool} {o : Option Bool} (h : o = some x) : br (!b) (some false) o = some (b && x) := by rw [h]; cases b <;> rfl
theorem txS_e {fu N : Nat} {a b : TTxn} (h1 : a.Reads.length ≤ N) (h2 : a.Writes.length ≤ N) (hN : N ≤ 1000000) (hf : N < fu) : txn_Same fu a b = some (txB a b) := by
 unfold txn_Same txB
 refine br_and ?_
 refine br_and ?_
 rw [bd_s (eqR_e (by omega) (by omega))]
 refine br_and ?_
 rw [bd_s (eqW_e (by omega) (by omega))]
theorem sameE_e {fu N : Nat} {a b : TEntry} (h1 : a.T.Reads.length ≤ N) (h2 : a.T.Writes.length ≤ N) (hN : N ≤ 1000000) (hf : N < fu) : msg_same fu a b = some (enB a b) := by
 unfold msg_same enB
 refine br_and ?_
 refine br_and ?_
 rw [bd_s (txS_e h1 h2 hN hf)]
theorem eqE_lp (fu : Nat) {N : Nat} (hN : N ≤ 1000000) (hf : N < fu) : ∀ (r s q p : List TEntry) (n : Nat), (q ++ r).length ≤ 1000000 → q.length = p.length → r.length = s.length → (∀ e ∈ r, e.T.Reads.length ≤ N ∧ e.T.Writes.length ≤ N) → r.length < n →
  slices_EqualFunc_api_Entry.lp6 fu (p ++ s) (q ++ r) ((q ++ r).length : Int) n (q.length : Int) = some (inlB (eqL enB r s))
 | [], s, q, p, n, hl, hq, hs, hr, hn => by
  obtain ⟨n, rfl⟩ : ∃ m, n = m + 1 := ⟨n - 1, by omega⟩
  have hs' : s = [] := List.length_eq_zero_iff.1 hs.symm
  subst hs'
  simp only [List.append_nil]
  rw [slices_EqualFunc_api_Entry.lp6, br_f (nlt_end _)]; rfl
 | v :: r, s, q, p, n, hl, hq, hs, hr, hn => by
  obtain ⟨n, rfl⟩ : ∃ m, n = m + 1 := ⟨n - 1, by omega⟩
  obtain ⟨u, s, rfl⟩ : ∃ u t, s = u :: t := by cases s with
   | nil => simp at hs
   | cons u t => exact ⟨u, t, rfl⟩
  have e1 : q ++ v :: r = (q ++ [v]) ++ r := by simp
  have e2 : p ++ u :: s = (p ++ [u]) ++ s := by simp
  have hx : (p ++ u :: s)[q.length]? = some u := by rw [hq]; simp
  have ih := eqE_lp fu hN hf r s (q ++ [v]) (p ++ [u]) n (by rw [← e1]; exact hl) (by simp [hq]) (by simpa using hs) (fun e h => hr e (by simp [h])) (by simp at hn; omega)
  rw [← e1, ← e2] at ih
  obtain ⟨g1, g2⟩ := hr v (by simp)
  rw [slices_EqualFunc_api_Entry.lp6, br_t (lt_mid _ _ _), ix_mid, ix_n hx, bd_s (sameE_e g1 g2 hN hf), w64_len q r v (by omega), ih]
  simp only [eqL]
  cases enB v u <;> rfl
theorem eqE_e {fu N : Nat} {a b : List TEntry} (h : SmE N a) (hN : N ≤ 1000000) (hf : N < fu) : slices_EqualFunc_api_Entry fu a b = some (eqL enB a b) := by
 unfold slices_EqualFunc_api_Entry
 have hl := h.1
 by_cases e : a.length = b.length
 ·have := eqE_lp fu hN hf a b [] [] fu (by simp; omega) rfl e h.2 (by omega)
  simp only [List.nil_append, List.length_nil, Int.natCast_zero] at this
  rw [br_f (by simp [e]), bd_s this]; cases eqL enB a b <;> rfl
 ·rw [br_t (by simpa using fun g => e (by omega)), eqL_len e]
structure SmM (N : Nat) (m : TMsg) : Prop where
 en : SmE N m.Entries
 tr : m.T.Reads.length ≤ N
 tw : m.T.Writes.length ≤ N
 ks : m.Keys.length ≤ N
 gs : m.Got.length ≤ N
def numsOf (m : TMsg) : List Int := [m.Term, m.Index, m.LogTerm, m.Commit, m.Session, m.Seq, m.Pos, m.Shard]
def msgB (a b : TMsg) : Bool := (a.Kind == b.Kind) && ((a.From == b.From) && ((a.To == b.To) && ((a.Part == b.Part) && (eqL bqI (numsOf a) (numsOf b) && ((a.OK == b.OK) && (eqL enB a.Entries b.Entries && (txB a.T b.T && ((a.Span == b.Span) && (bqS a.FromKey b.FromKey && (bqS a.ToKey b.ToKey && (eqL bqS a.Keys b.Keys && (eqL rdB a.Got b.Got && (a.Err == b.Err)))))))))))))
theorem msgB_iff (a b : TMsg) : msgB a b = true ↔ a = b := by
 cases a; cases b
 simp only [msgB, numsOf, Bool.and_eq_true, beq_iff_eq, TMsg.mk.injEq, eqL_iff bqI_iff, eqL_iff enB_iff, txB_iff, bqS_iff, eqL_iff bqS_iff, eqL_iff rdB_iff, List.cons.injEq, and_true]
 constructor
 ·rintro ⟨h1, h2, h3, h4, ⟨n1, n2, n3, n4, n5, n6, n7, n8⟩, h6, h7, h8, h9, h10, h11, h12, h13, h14⟩
  exact ⟨h1, h2, h3, h4, n1, n2, n3, n4, h6, h7, h8, n5, n6, n7, n8, h9, h10, h11, h12, h13, h14⟩
 ·rintro ⟨h1, h2, h3, h4, n1, n2, n3, n4, h6, h7, h8, n5, n6, n7, n8, h9, h10, h11, h12, h13, h14⟩
  exact ⟨h1, h2, h3, h4, ⟨n1, n2, n3, n4, n5, n6, n7, n8⟩, h6, h7, h8, h9, h10, h11, h12, h13, h14⟩
theorem same_e {fu N : Nat} {a b : TMsg} (h : SmM N a) (hN : N ≤ 1000000) (hf : N < fu) (h8 : 8 < fu) : msg_Same fu a b = some (msgB a b) := by
 have h1 := h.tr
 have h2 := h.tw
 have h3 := h.ks
 have h4 := h.gs
 unfold msg_Same msgB
 refine br_and ?_
 refine br_and ?_
 refine br_and ?_
 refine br_and ?_
 unfold msg_numbers
 rw [bd_s rfl, bd_s rfl, bd_s (eqI_e (by simp) (by simpa using h8))]
 refine br_and ?_
 refine br_and ?_
 rw [bd_s (eqE_e h.en hN hf)]
 refine br_and ?_
 rw [bd_s (txS_e h.tr h.tw hN hf)]
 refine br_and ?_
 refine br_and ?_
 refine br_and ?_
 refine br_and ?_
 rw [bd_s (eqS_e (by omega) (by omega))]
 refine br_and ?_
 rw [bd_s (eqR_e (by omega) (by omega))]
 exact br_and rfl
end Go.Proofs.Ytbflggolnolaeaa.Told.MG
