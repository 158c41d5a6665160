/- What a log's functions come to: copies, terms, joins, how far it is committed. -/
import Derived.Test.YthpokjkbcdfhiaaTRf2
import Derived.Test.YthpokjkbcdfhiaaTMost
namespace Go.Proofs.Ythpokjkbcdfhiaa.Told.RA
open Go Go.Proofs.Ythpokjkbcdfhiaa.Vam Go.Proofs.Ythpokjkbcdfhiaa.Told Go.Proofs.Ythpokjkbcdfhiaa.Told.HP
set_option linter.unusedSimpArgs false
set_option linter.unusedVariables false
def SmB (l : List TEntry) : Prop := ∀ e ∈ l, e.T.Reads.length ≤ 4294967296 ∧ e.T.Writes.length ≤ 4294967296
theorem SmB.append {a b : List TEntry} (h : SmB a) (k : SmB b) : SmB (a ++ b) := fun e he => (List.mem_append.1 he).elim (h e) (k e)
theorem SmB.take {a : List TEntry} (h : SmB a) (n : Nat) : SmB (a.take n) := fun e he => h e (List.mem_of_mem_take he)
theorem SmB.drop {a : List TEntry} (h : SmB a) (n : Nat) : SmB (a.drop n) := fun e he => h e (List.mem_of_mem_drop he)
theorem set_mid {α : Type} (A R : List α) (v u : α) : (A ++ v :: R).set A.length u = A ++ u :: R := by
 rw [List.set_append_right _ _ (Nat.le_refl _)]; simp
theorem entries_lp (fu : Nat) : ∀ (r q : List TEntry) (n : Nat), (q ++ r).length ≤ 1000000 → SmB r → r.length < n → raft_entries.lp4 fu ((q ++ r).length : Int) n (q ++ r) (q.length : Int) = some (q ++ r)
 | [], q, n, hl, hs, hn => by
  obtain ⟨n, rfl⟩ : ∃ m, n = m + 1 := ⟨n - 1, by omega⟩
  simp only [List.append_nil]
  rw [raft_entries.lp4, br_f (nlt_end _)]
 | e :: r, q, n, hl, hs, hn => by
  obtain ⟨n, rfl⟩ : ∃ m, n = m + 1 := ⟨n - 1, by omega⟩
  have e1 : q ++ e :: r = (q ++ [e]) ++ r := by simp
  have hb := hs e (by simp)
  have ih := entries_lp fu r (q ++ [e]) n (by rw [← e1]; exact hl) (fun x hx => hs x (by simp [hx])) (by simp at hn; omega)
  rw [← e1] at ih
  rw [raft_entries.lp4, br_t (lt_mid _ _ _), ix_mid]
  unfold slices_Clone_api_Read slices_Clone_api_Write
  rw [gd_t (decide_eq_true (by simp; omega)), bd_s rfl, gd_t (decide_eq_true (by simp; omega)), bd_s rfl, ix_mid, Int.toNat_natCast, set_mid, ix_mid, set_mid, w64_len q r e (by omega)]
  exact ih
theorem clone_e {l : List TEntry} (hl : l.length ≤ 1000000) : slices_Clone_api_Entry l = some l := by
 unfold slices_Clone_api_Entry
 rw [gd_t (decide_eq_true (by simp; omega))]
theorem entries_e {fu : Nat} {l : List TEntry} (hl : l.length ≤ 1000000) (hs : SmB l) (hf : l.length < fu) : raft_entries fu l = some l := by
 unfold raft_entries
 have := entries_lp fu l [] fu (by simpa using hl) hs hf
 simp only [List.nil_append, List.length_nil, Int.natCast_zero] at this
 rw [bd_s (clone_e hl), bd_s this]
theorem twin_e {fu : Nat} {r : TRaft} (hl : r.Log.length ≤ 1000000) (hs : SmB r.Log) (hv : r.Votes.length ≤ 1000000) (hx : r.Next.length ≤ 1000000) (hm : r.Match.length ≤ 1000000) (hf : r.Log.length < fu) : raft_twin fu r = some r := by
 unfold raft_twin slices_Clone_bool_bool slices_Clone_int_int
 rw [bd_s (entries_e hl hs hf), gd_t (decide_eq_true (by simp; omega)), bd_s rfl, gd_t (decide_eq_true (by simp; omega)), bd_s rfl, gd_t (decide_eq_true (by simp; omega)), bd_s rfl]
def termAt (l : List TEntry) (i : Int) : Int := if 1 ≤ i then (match l[(i - 1).toNat]? with
 | some e => e.Term
 | none => 0) else 0
theorem term_e {l : List TEntry} {i : Int} (hl : l.length ≤ 1000000) (hi : -4611686018427387904 ≤ i) (hi' : i ≤ 4611686018427387904) : ulog_Term l i = some (termAt l i) := by
 unfold ulog_Term ulog_entries_term termAt
 by_cases h1 : i < 1
 ·rw [br_t (decide_eq_true h1), bd_s rfl, if_neg (by omega)]
 rw [br_f (decide_eq_false h1), if_pos (by omega)]
 by_cases h2 : i > (l.length : Int)
 ·rw [br_t (decide_eq_true h2), bd_s rfl, List.getElem?_eq_none (by omega)]
 ·have hx : l[(i - 1).toNat]? = some l[(i - 1).toNat] := List.getElem?_eq_getElem (by omega)
  rw [br_f (decide_eq_false h2), w64_id (by omega) (by omega), ix_s (by omega) hx, bd_s rfl, hx]
def hasB (l : List TEntry) (i t : Int) : Bool := (i == 0) || (decide (1 ≤ i) && (decide (i ≤ (l.length : Int)) && (termAt l i == t)))
theorem has_e {l : List TEntry} {i t : Int} (hl : l.length ≤ 1000000) (hi : -4611686018427387904 ≤ i) (hi' : i ≤ 4611686018427387904) : ulog_Has l i t = some (hasB l i t) := by
 unfold ulog_Has hasB
 rw [bd_s (term_e hl hi hi')]
 by_cases h0 : i = 0
 ·rw [br_t (by simpa using h0), beq_iff_eq.2 h0]; rfl
 rw [br_f (by simpa using h0), beq_eq_false_iff_ne.2 h0]
 by_cases h1 : 1 ≤ i
 ·rw [br_t (decide_eq_true h1), decide_eq_true h1]
  by_cases h2 : i ≤ (l.length : Int)
  ·rw [br_t (decide_eq_true h2), decide_eq_true h2]; rfl
  ·rw [br_f (decide_eq_false h2), decide_eq_false h2]; rfl
 ·rw [br_f (decide_eq_false h1), decide_eq_false h1]; rfl
def newerB (l : List TEntry) (i t : Int) : Bool := decide (t > termAt l l.length) || ((t == termAt l l.length) && decide (i ≥ (l.length : Int)))
theorem newer_e {l : List TEntry} {i t : Int} (hl : l.length ≤ 1000000) : ulog_Newer l i t = some (newerB l i t) := by
 unfold ulog_Newer newerB
 rw [bd_s (term_e hl (by omega) (by omega))]
 cases decide (t > termAt l l.length)
 ·rw [br_f rfl]
  cases (t == termAt l l.length)
  ·rfl
  ·rfl
 ·rfl
def jn3 : List TEntry → List TEntry → Option (List TEntry)
 | _, [] => none
 | [], e :: m => some (e :: m)
 | x :: s, e :: m => if x.Term = e.Term then (jn3 s m).map (x :: ·) else some (e :: m)
def jn2 (s m : List TEntry) : List TEntry := (jn3 s m).getD s
def joinF (l : List TEntry) (i : Int) (more : List TEntry) : List TEntry := if 0 ≤ i ∧ i ≤ (l.length : Int) then l.take i.toNat ++ jn2 (l.drop i.toNat) more else l
theorem grow_e {n : Nat} (h : n ≤ 1000000) : slices_Grow_api_Entry (n : Int) = some [] := by
 unfold slices_Grow_api_Entry
 have e : w64 ((n : Int) - (w64 (0 - 0))) = (n : Int) := by
  rw [w64_id (n := (0 : Int) - 0) (by omega) (by omega), w64_id (by omega) (by omega)]; omega
 rw [br_f (decide_eq_false (by omega)), e]
 by_cases h0 : (n : Int) > 0
 ·rw [br_t (decide_eq_true h0), gd_t (decide_eq_true (by simp)), gd_t (decide_eq_true (by omega)), gd_t (decide_eq_true (by simp; omega)), gd_t (decide_eq_true (by simp))]
  rfl
 ·rw [br_f (decide_eq_false h0)]
theorem concat_e {fu : Nat} {a b : List TEntry} (ha : a.length ≤ 400000) (hb : b.length ≤ 400000) (hf : 10 ≤ fu) : slices_Concat_api_Entry fu [a, b] = some (a ++ b) := by
 obtain ⟨fu, rfl⟩ : ∃ k, fu = k + 3 := ⟨fu - 3, by omega⟩
 have w0 : w64 (0 + 1) = 1 := w64_id (by omega) (by omega)
 have w1 : w64 (1 + 1) = 2 := w64_id (by omega) (by omega)
 have s1 : w64 (0 + (a.length : Int)) = (a.length : Int) := by rw [w64_id (by omega) (by omega)]; omega
 have s2 : w64 ((a.length : Int) + (b.length : Int)) = ((a.length + b.length : Nat) : Int) := by rw [w64_id (by omega) (by omega)]; omega
 have x0 : ([a, b] : List (List TEntry))[(0 : Int).toNat]? = some a := rfl
 have x1 : ([a, b] : List (List TEntry))[(1 : Int).toNat]? = some b := rfl
 have h4 : slices_Concat_api_Entry.lp4 (fu + 3) [a, b] [a, b] (([a, b] : List (List TEntry)).length : Int) (fu + 3) 0 0 = some ((a.length + b.length : Nat) : Int) := by
  rw [slices_Concat_api_Entry.lp4, br_t (by rfl), ix_s (Int.le_refl 0) x0, br_f (decide_eq_false (by omega)), s1, w0,
   slices_Concat_api_Entry.lp4, br_t (by rfl), ix_s (by decide) x1, s2, br_f (decide_eq_false (by omega)), w1,
   slices_Concat_api_Entry.lp4, br_f (by rfl)]
 have h16 : slices_Concat_api_Entry.lp16 (fu + 3) [a, b] (([a, b] : List (List TEntry)).length : Int) (fu + 3) [] 0 = some (a ++ b) := by
  rw [slices_Concat_api_Entry.lp16, br_t (by rfl), ix_s (Int.le_refl 0) x0, gd_t (decide_eq_true (by simp; omega)), w0,
   slices_Concat_api_Entry.lp16, br_t (by rfl), ix_s (by decide) x1, gd_t (decide_eq_true (by simp; omega)), w1,
   slices_Concat_api_Entry.lp16, br_f (by rfl)]
  rfl
 unfold slices_Concat_api_Entry
 rw [bd_s h4, bd_s (grow_e (by omega)), bd_s h16]
theorem join_lp (fu : Nat) (hf : 10 ≤ fu) (l M : List TEntry) (i : Nat) (hl : l.length ≤ 100000) (hM : M.length ≤ 100000) (hi : i ≤ l.length) : ∀ (m mq s lp : List TEntry) (n : Nat), M = mq ++ m → l = lp ++ s → lp.length = i + mq.length → m.length < n →
  ulog_Join.lp7 fu l (i : Int) M M (M.length : Int) n (mq.length : Int) = some (match jn3 s m with
   | none => .inl ()
   | some t => .inr (lp ++ t))
 | [], mq, s, lp, n, h1, h2, h3, hn => by
  obtain ⟨n, rfl⟩ : ∃ m, n = m + 1 := ⟨n - 1, by omega⟩
  rw [ulog_Join.lp7, br_f (decide_eq_false (by rw [h1]; simp))]
  cases s <;> rfl
 | e :: m, mq, s, lp, n, h1, h2, h3, hn => by
  obtain ⟨n, rfl⟩ : ∃ m, n = m + 1 := ⟨n - 1, by omega⟩
  have hlen : M.length = mq.length + 1 + m.length := by rw [h1]; simp; omega
  have hll : l.length = lp.length + s.length := by rw [h2]; simp
  have hx : M[mq.length]? = some e := by rw [h1]; simp
  have wa : w64 ((i : Int) + (mq.length : Int)) = (lp.length : Int) := by rw [w64_id (by omega) (by omega)]; omega
  have ht : List.take lp.length l = lp := by rw [h2]; simp
  have hd : List.drop mq.length M = e :: m := by rw [h1]; simp
  rw [ulog_Join.lp7, br_t (decide_eq_true (by omega)), ix_n hx, wa, Int.toNat_natCast, Int.toNat_natCast, ht, hd]
  have hc : slices_Concat_api_Entry fu [lp, e :: m] = some (lp ++ e :: m) := concat_e (by omega) (by simp; omega) hf
  cases s with
  | nil =>
   have : l.length = lp.length := by simpa using hll
   rw [br_t (decide_eq_true (by omega)), gd_t (decide_eq_true (by omega)), gd_t (decide_eq_true (by omega)), bd_s hc]
   rfl
  | cons x s =>
   have hy : l[lp.length]? = some x := by rw [h2]; simp
   simp only [List.length_cons] at hll
   rw [br_f (decide_eq_false (by omega)), ix_n hy]
   by_cases hT : x.Term = e.Term
   ·have ih := join_lp fu hf l M i hl hM hi m (mq ++ [e]) s (lp ++ [x]) n (by rw [h1]; simp) (by rw [h2]; simp) (by simp; omega) (by simp at hn; omega)
    have wq : w64 ((mq.length : Int) + 1) = ((mq ++ [e]).length : Int) := by rw [w64_id (by omega) (by omega)]; simp
    rw [br_f (by simpa using hT), wq, ih, jn3, if_pos hT]
    cases jn3 s m with
    | none => rfl
    | some t => simp
   ·rw [br_t (by simpa using hT), gd_t (decide_eq_true (by omega)), gd_t (decide_eq_true (by omega)), bd_s hc, jn3, if_neg hT]
theorem join_e {fu : Nat} (hf : 10 ≤ fu) {l M : List TEntry} {i : Int} (hl : l.length ≤ 100000) (hM : M.length ≤ 100000) (hfM : M.length < fu) : ulog_Join fu l i M = some (joinF l i M) := by
 unfold ulog_Join joinF
 by_cases h0 : i < 0
 ·rw [br_t (decide_eq_true h0), bd_s (clone_e (by omega)), if_neg (by omega)]
 rw [br_f (decide_eq_false h0)]
 by_cases h1 : i > (l.length : Int)
 ·rw [br_t (decide_eq_true h1), bd_s (clone_e (by omega)), if_neg (by omega)]
 rw [br_f (decide_eq_false h1), if_pos (by omega)]
 obtain ⟨k, rfl⟩ : ∃ k : Nat, i = (k : Int) := ⟨i.toNat, by omega⟩
 have h7 := join_lp fu hf l M k hl hM (by omega) M [] (l.drop k) (l.take k) fu rfl (by simp) (by simp; omega) hfM
 simp only [List.length_nil, Int.natCast_zero] at h7
 rw [bd_s h7, Int.toNat_natCast]
 unfold jn2
 cases jn3 (l.drop k) M with
 | none => rw [bd_s (clone_e (by omega))]; simp
 | some t => rfl
theorem jn3_mem : ∀ {s m t : List TEntry}, jn3 s m = some t → ∀ e ∈ t, e ∈ s ∨ e ∈ m
 | s, [], t, h, e, he => by cases s <;> simp [jn3] at h
 | [], a :: m, t, h, e, he => by simp [jn3] at h; subst h; exact .inr he
 | x :: s, a :: m, t, h, e, he => by
  by_cases hT : x.Term = a.Term
  ·rw [jn3, if_pos hT] at h
   cases h3 : jn3 s m with
   | none => rw [h3] at h; cases h
   | some u =>
    rw [h3] at h
    cases h
    rcases List.mem_cons.1 he with rfl | he
    ·exact .inl (by simp)
    ·rcases jn3_mem h3 e he with g | g
     ·exact .inl (by simp [g])
     ·exact .inr (by simp [g])
  ·rw [jn3, if_neg hT] at h
   cases h
   exact .inr he
theorem join_mem {l m : List TEntry} {i : Int} : ∀ e ∈ joinF l i m, e ∈ l ∨ e ∈ m := by
 intro e he
 unfold joinF at he
 split at he
 ·rcases List.mem_append.1 he with g | g
  ·exact .inl (List.mem_of_mem_take g)
  ·unfold jn2 at g
   cases h : jn3 (l.drop i.toNat) m with
   | none => rw [h] at g; exact .inl (List.mem_of_mem_drop g)
   | some t =>
    rw [h] at g
    rcases jn3_mem h e g with k | k
    ·exact .inl (List.mem_of_mem_drop k)
    ·exact .inr k
 ·exact .inl he
noncomputable def mostF (l : List Int) : Int := (ballot_Most 1000 l).getD 0
def Mst (l : List Int) (r : Int) : Prop := (l = [] ∧ r = 0) ∨ (r ∈ l ∧ l.length / 2 + 1 ≤ ge r l ∧ mo r l ≤ l.length / 2)
theorem Mst.one {l : List Int} {r s : Int} (h : Mst l r) (k : Mst l s) : r = s := by
 rcases h with ⟨h, h'⟩ | ⟨h1, h2, h3⟩
 ·rcases k with ⟨_, k'⟩ | ⟨k1, _⟩
  ·omega
  ·rw [h] at k1; simp at k1
 ·rcases k with ⟨k, _⟩ | ⟨k1, k2, k3⟩
  ·rw [k] at h1; simp at h1
  ·rcases Int.lt_trichotomy r s with g | g | g
   ·have := ge_le_mo g l; omega
   ·exact g
   ·have := ge_le_mo g l; omega
theorem most_f {fu : Nat} {l : List Int} (hl : l.length ≤ 900) (h0 : ∀ x ∈ l, 0 ≤ x) (hf : l.length + 1 < fu) : ballot_Most fu l = some (mostF l) ∧ Mst l (mostF l) := by
 obtain ⟨r, h1, h2⟩ := most_e (fu := fu) (by omega) h0 hf
 obtain ⟨s, k1, k2⟩ := most_e (fu := 1000) (l := l) (by omega) h0 (by omega)
 have hs : mostF l = s := by unfold mostF; rw [k1]; rfl
 have e := Mst.one (l := l) h2 k2
 rw [hs, h1, e]
 exact ⟨rfl, k2⟩
noncomputable def nextC (m : List Int) (l : List TEntry) (term commit : Int) : Int := if mostF m > commit ∧ mostF m ≤ (l.length : Int) ∧ termAt l (mostF m) = term then mostF m else commit
theorem next_e {fu : Nat} {m : List Int} {l : List TEntry} {term commit : Int} (hl : l.length ≤ 1000000) (hm : m.length ≤ 900) (h0 : ∀ x ∈ m, 0 ≤ x) (hf : m.length + 1 < fu) : ballot_Next fu m l term commit = some (nextC m l term commit) := by
 unfold ballot_Next nextC
 obtain ⟨h1, h2⟩ := most_f (fu := fu) hm h0 hf
 have hpos : 0 ≤ mostF m := by
  rcases h2 with ⟨_, h⟩ | ⟨h, _⟩
  ·omega
  ·exact h0 _ h
 rw [bd_s h1]
 by_cases c1 : mostF m > commit
 ·rw [br_t (decide_eq_true c1)]
  by_cases c2 : mostF m ≤ (l.length : Int)
  ·rw [br_t (decide_eq_true c2), bd_s (term_e hl (by omega) (by omega))]
   by_cases c3 : termAt l (mostF m) = term
   ·rw [br_t (by simpa using c3), if_pos ⟨c1, c2, c3⟩]
   ·rw [br_f (by simpa using c3), if_neg (fun g => c3 g.2.2)]
  ·rw [br_f (decide_eq_false c2), if_neg (fun g => c2 g.2.1)]
 ·rw [br_f (decide_eq_false c1), if_neg (fun g => c1 g.1)]
end Go.Proofs.Ythpokjkbcdfhiaa.Told.RA
