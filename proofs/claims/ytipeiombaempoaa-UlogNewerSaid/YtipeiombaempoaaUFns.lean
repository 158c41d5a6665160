/- What the functions over logs come to, the program's and the document's: terms, joins, likeness. -/
import Derived.Test.YtipeiombaempoaaUMath
import Derived.Test.YtipeiombaempoaaQulogA
import Derived.Test.YtipeiombaempoaaQulogJoin
import Derived.Test.YtipeiombaempoaaQulogSame
import Derived.Test.YtipeiombaempoaaQref1A
import Derived.Test.YtipeiombaempoaaQdiwanref1Join
import Derived.Test.YtipeiombaempoaaQdiwanref1SameEntries
import Derived.Test.YtipeiombaempoaaQdiwanlaw9begun
namespace Go.Proofs.Ytipeiombaempoaa.UMath
open Go Go.RowKit Go.Proofs.Ytipeiombaempoaa.Q Go.Proofs.YtipeiombaempoaaW.PrintWords Go.Proofs.YtipeiombaempoaaW.PrintLast Go.Proofs.YtipeiombaempoaaW.PrintMore

theorem begunT : diwanlaw9_begun.f 4000 = some true := by kernel_rfl
def termOf (l : List S39) (i : Int) : Int := if 1 ≤ i ∧ i ≤ (l.length : Int) then (rd_T39 l (i - 1)).f0 else 0
theorem term_f {l : List S39} {i : Int} {k : Nat} (hk : 1 ≤ k) (hl : l.length ≤ 1000) : ulog_Term.f k l i = some (termOf l i) := by
  obtain ⟨k, rfl⟩ : ∃ m, k = m + 1 := ⟨k - 1, by omega⟩
  unfold ulog_Term.f ulog_entries_term.f termOf
  by_cases h : i < 1
  · rw [if_pos h, if_neg (by omega)]
    simp [ulog_entries_term.j0]
  · rw [if_neg h]
    by_cases h2 : i > (l.length : Int)
    · rw [if_neg (by omega)]
      simp [ulog_entries_term.j0, h2]
    · have e : wrap64 (i - 1) = i - 1 := wid (by omega)
      rw [if_pos (by omega)]
      simp only [ulog_entries_term.j0, h2, decide_false, Bool.false_eq_true, if_false]
      rw [e, if_pos (by omega), if_pos (by omega)]
      rfl
theorem refTerm_f {l : List S39} {i : Int} {k : Nat} (hk : 1 ≤ k) (hl : l.length ≤ 1000) : diwanref1_Term.f k l i = some (termOf l i) := by
  obtain ⟨k, rfl⟩ : ∃ m, k = m + 1 := ⟨k - 1, by omega⟩
  unfold diwanref1_Term.f termOf
  by_cases h : i < 1
  · rw [if_pos h, if_neg (by omega)]
    simp [diwanref1_Term.j0]
  · rw [if_neg h]
    by_cases h2 : i > (l.length : Int)
    · rw [if_neg (by omega)]
      simp [diwanref1_Term.j0, h2]
    · have e : wrap64 (i - 1) = i - 1 := wid (by omega)
      rw [if_pos (by omega)]
      simp only [diwanref1_Term.j0, h2, decide_false, Bool.false_eq_true, if_false]
      rw [e, if_pos (by omega), if_pos (by omega)]
theorem termOf_bound {n : Nat} {l : List S39} (h : LogOk n l) : 0 ≤ termOf l l.length ∧ termOf l l.length ≤ n + 1 := by
  unfold termOf
  split
  · rename_i hc
    obtain ⟨j, hj⟩ : ∃ j : Nat, (l.length : Int) - 1 = (j : Int) := ⟨l.length - 1, by omega⟩
    rw [hj]
    have hjl : j < l.length := by omega
    unfold rd_T39
    rw [Int.toNat_natCast, List.getD_eq_getElem?_getD, List.getElem?_eq_getElem hjl]
    have h1 := h.lo _ (List.getElem_mem hjl)
    have h2 := h.hi _ (List.getElem_mem hjl)
    simp only [Option.getD_some]
    omega
  · omega
def hasOf (l : List S39) (i t : Int) : Bool := if i = 0 then true else if 1 ≤ i ∧ i ≤ (l.length : Int) then termOf l i == t else false
theorem has_f {l : List S39} {i t : Int} {k : Nat} (hk : 1 ≤ k) (hl : l.length ≤ 1000) : ulog_Has.f k l i t = some (hasOf l i t) := by
  unfold ulog_Has.f hasOf
  by_cases h0 : i = 0
  · rw [if_pos h0, if_pos h0]
  · rw [if_neg h0, if_neg h0]
    by_cases h1 : i ≥ 1
    · rw [if_pos h1]
      by_cases h2 : i ≤ (l.length : Int)
      · rw [if_pos h2, if_pos ⟨h1, h2⟩, term_f hk hl]; rfl
      · rw [if_neg h2, if_neg (by omega)]
    · rw [if_neg h1, if_neg (by omega)]
theorem refHas_f {l : List S39} {i t : Int} (hl : l.length ≤ 1000) : diwanref1_Has.f l i t = some (hasOf l i t) := by
  unfold diwanref1_Has.f hasOf
  by_cases h0 : i = 0
  · rw [if_pos h0, if_pos h0]
  · rw [if_neg h0, if_neg h0]
    by_cases h1 : i ≥ 1
    · rw [if_pos h1]
      by_cases h2 : i ≤ (l.length : Int)
      · have e : wrap64 (i - 1) = i - 1 := wid (by omega)
        have e2 : (1 ≤ i ∧ i ≤ (l.length : Int)) := ⟨h1, h2⟩
        rw [if_pos h2, if_pos e2, e, if_pos (by omega), if_pos (by omega)]
        unfold termOf
        rw [if_pos e2]
      · rw [if_neg h2, if_neg (by omega)]
    · rw [if_neg h1, if_neg (by omega)]
def newerOf (l : List S39) (i t : Int) : Bool := if t > termOf l l.length then true else if t = termOf l l.length then decide (i ≥ (l.length : Int)) else false
theorem newer_f {l : List S39} {i t : Int} {k : Nat} (hk : 1 ≤ k) (hl : l.length ≤ 1000) : ulog_Newer.f k l i t = some (newerOf l i t) := by
  unfold ulog_Newer.f newerOf
  rw [term_f hk hl]; simp only [Option.bind_some]
  split
  · rfl
  · split <;> rfl
theorem refNewer_f {l : List S39} {i t : Int} {k : Nat} (hk : 1 ≤ k) (hl : l.length ≤ 1000) : diwanref1_Newer.f k l i t = some (newerOf l i t) := by
  unfold diwanref1_Newer.f newerOf
  rw [refTerm_f hk hl]; simp only [Option.bind_some]
  split
  · rfl
  · split <;> rfl

/-- More behind the front of a log: what is the same by its term stays, from the first other one on all is new. -/
def join0 : List S39 → List S39 → List S39
  | q, [] => q
  | [], b :: bs => b :: bs
  | a :: q, b :: bs => if a.f0 = b.f0 then a :: join0 q bs else b :: bs
def joinS (l : List S39) (i : Int) (m : List S39) : List S39 := if i < 0 ∨ i > (l.length : Int) then l else l.take i.toNat ++ join0 (l.drop i.toNat) m
theorem join0_len : ∀ (q m : List S39), (join0 q m).length ≤ q.length + m.length
  | q, [] => by cases q <;> simp [join0]
  | [], b :: bs => by simp [join0]
  | a :: q, b :: bs => by
    simp only [join0]
    split
    · have := join0_len q bs; simp; omega
    · simp
theorem joinS_len (l : List S39) (i : Int) (m : List S39) : (joinS l i m).length ≤ l.length + m.length := by
  unfold joinS
  split
  · omega
  · have := join0_len (l.drop i.toNat) m
    have h2 : (l.drop i.toNat).length = l.length - i.toNat := by simp
    simp; omega
theorem join0_mem {p : S39 → Prop} : ∀ {q m : List S39}, (∀ e ∈ q, p e) → (∀ e ∈ m, p e) → ∀ e ∈ join0 q m, p e
  | q, [], hq, _, e, he => by
    have : join0 q [] = q := by cases q <;> rfl
    rw [this] at he; exact hq e he
  | [], b :: bs, _, hm, e, he => hm e he
  | a :: q, b :: bs, hq, hm, e, he => by
    simp only [join0] at he
    split at he
    · rcases List.mem_cons.1 he with g | g
      · subst g; exact hq _ List.mem_cons_self
      · exact join0_mem (fun x hx => hq x (List.mem_cons_of_mem _ hx)) (fun x hx => hm x (List.mem_cons_of_mem _ hx)) e g
    · exact hm e he
theorem joinS_mem {l : List S39} {i : Int} {m : List S39} (p : S39 → Prop) (hl : ∀ e ∈ l, p e) (hm : ∀ e ∈ m, p e) : ∀ e ∈ joinS l i m, p e := by
  intro e he
  unfold joinS at he
  split at he
  · exact hl e he
  · rcases List.mem_append.1 he with g | g
    · exact hl e (List.mem_of_mem_take g)
    · exact join0_mem (fun x hx => hl x (List.mem_of_mem_drop hx)) hm e g
theorem clone_f {l : List S39} (hl : l.length ≤ 1000) : slices_Clone_Entry.f l = some l := by
  unfold slices_Clone_Entry.f
  simp only [Option.bind_some, List.length_nil, Nat.zero_add, List.nil_append]
  rw [if_pos (by omega)]
theorem grow_f {n : Nat} (hn : n ≤ 2000) : slices_Grow_Entry.f true (n : Int) = some [] := by
  unfold slices_Grow_Entry.f
  rw [if_neg (by omega)]
  simp only [Option.bind_some, List.length_nil, Nat.zero_add]
  rw [if_pos (by omega), if_pos (by rw [Int.toNat_natCast]; omega)]
  simp
theorem rdL9_0 (a b : List S39) : rd_L9 [a, b] 0 = a := rfl
theorem rdL9_1 (a b : List S39) : rd_L9 [a, b] 1 = b := rfl
theorem concat_f {a b : List S39} {k : Nat} (hk : 8 ≤ k) (ha : a.length ≤ 1000) (hb : b.length ≤ 1000) : slices_Concat_Entry.f k [a, b] = some (a ++ b) := by
  obtain ⟨k, rfl⟩ : ∃ m, k = m + 8 := ⟨k - 8, by omega⟩
  unfold slices_Concat_Entry.f
  have w0 : wrap64 (0 + ((a.length : Nat) : Int)) = ((a.length : Nat) : Int) := by rw [wid (by omega)]; omega
  have w1 : wrap64 (((a.length : Nat) : Int) + ((b.length : Nat) : Int)) = ((a.length + b.length : Nat) : Int) := by rw [wid (by omega)]; omega
  have w2 : wrap64 (0 + 1) = 1 := by rw [wid (by omega)]; rfl
  have w3 : wrap64 (1 + 1) = 2 := by rw [wid (by omega)]; rfl
  have l2 : (([a, b] : List (List S39)).length : Int) = 2 := rfl
  unfold slices_Concat_Entry.l0
  rw [l2, if_pos (by decide), if_pos (by decide), if_pos (by decide), rdL9_0, w0, if_neg (by omega), w2]
  unfold slices_Concat_Entry.l0
  rw [l2, if_pos (by decide), if_pos (by decide), if_pos (by decide), rdL9_1, w1, if_neg (by omega), w3]
  unfold slices_Concat_Entry.l0
  rw [if_neg (by decide), grow_f (by omega)]
  simp only [Option.bind_some, l2]
  unfold slices_Concat_Entry.l1
  rw [l2, if_pos (by decide), if_pos (by decide), if_pos (by decide), rdL9_0, w2, if_pos (by simp; omega)]
  unfold slices_Concat_Entry.l1
  rw [l2, if_pos (by decide), if_pos (by decide), if_pos (by decide), rdL9_1, w3, if_pos (by simp; omega)]
  unfold slices_Concat_Entry.l1
  rw [if_neg (by decide)]
  simp
theorem rd_at (l : List S39) (j : Nat) (h : j < l.length) : rd_T39 l (j : Int) = l[j] := by
  unfold rd_T39
  rw [Int.toNat_natCast, List.getD_eq_getElem?_getD, List.getElem?_eq_getElem h]; rfl
theorem join_l0 {l m : List S39} {i : Nat} (hi : i ≤ l.length) (hl : l.length ≤ 1000) (hm : m.length ≤ 1000) : ∀ (d j k : Nat), j + d = m.length → 2 * d + 20 ≤ k → i + j ≤ l.length →
    ∃ r, ulog_Join.l0 k l (i : Int) m m (m.length : Int) (j : Int) = some r ∧ l.take (i + j) ++ join0 (l.drop (i + j)) (m.drop j) = r
  | d, j, k, hd, hk, hj => by
    obtain ⟨k, rfl⟩ : ∃ q, k = q + 2 := ⟨k - 2, by omega⟩
    unfold ulog_Join.l0
    have ew : wrap64 ((i : Int) + (j : Int)) = ((i + j : Nat) : Int) := by rw [wid (by omega)]; omega
    match d, hd, hk with
    | 0, hd, hk =>
      rw [if_neg (by omega), clone_f hl]
      refine ⟨l, rfl, ?_⟩
      rw [List.drop_eq_nil_of_le (by omega : m.length ≤ j)]
      have : join0 (l.drop (i + j)) [] = l.drop (i + j) := by cases l.drop (i + j) <;> rfl
      rw [this, List.take_append_drop]
    | d + 1, hd, hk =>
      have hjm : j < m.length := by omega
      rw [if_pos (by omega), if_pos (by omega), if_pos (by omega), ew]
      have hmd : m.drop j = m[j] :: m.drop (j + 1) := List.drop_eq_getElem_cons hjm
      have cat : slices_Concat_Entry.f k [l.take (i + j), m.drop j] = some (l.take (i + j) ++ m.drop j) := concat_f (by omega) (by simp; omega) (by simp; omega)
      have stop : ∃ r, ulog_Join.j2 (k + 1) l (i : Int) m (j : Int) ((i + j : Nat) : Int) m (m.length : Int) (j : Int) true = some r ∧ l.take (i + j) ++ m.drop j = r := by
        unfold ulog_Join.j2
        rw [if_pos rfl, if_pos (by omega), if_pos (by omega), if_pos (by omega), if_pos (by omega)]
        simp only [Int.toNat_natCast]
        rw [cat]
        exact ⟨_, rfl, rfl⟩
      by_cases hge : ((i + j : Nat) : Int) ≥ (l.length : Int)
      · rw [if_pos hge]
        have : l.drop (i + j) = [] := List.drop_eq_nil_of_le (by omega)
        rw [this, hmd]
        have : join0 [] (m[j] :: m.drop (j + 1)) = m[j] :: m.drop (j + 1) := rfl
        rw [this, ← hmd]
        exact stop
      · rw [if_neg hge, if_pos (by omega), if_pos (by omega)]
        have hlt : i + j < l.length := by omega
        have hld : l.drop (i + j) = l[i + j] :: l.drop (i + j + 1) := List.drop_eq_getElem_cons hlt
        rw [rd_at l (i + j) hlt, rd_at m j hjm, hld, hmd]
        by_cases he : l[i + j].f0 = m[j].f0
        · have hb : (l[i + j].f0 != m[j].f0) = false := by simp [he]
          rw [hb]
          unfold ulog_Join.j2
          rw [if_neg (by simp)]
          have e : wrap64 ((j : Int) + 1) = ((j + 1 : Nat) : Int) := by rw [wid (by omega)]; omega
          rw [e]
          obtain ⟨r, h1, h2⟩ := join_l0 hi hl hm d (j + 1) k (by omega) (by omega) (by omega)
          refine ⟨r, h1, ?_⟩
          rw [← h2]
          simp only [join0, he, if_true]
          rw [← Nat.add_assoc, List.take_succ_eq_append_getElem hlt, List.append_assoc]
          rfl
        · have hb : (l[i + j].f0 != m[j].f0) = true := by simp [he]
          rw [hb]
          simp only [join0, he, if_false]
          rw [← hmd]
          exact stop
theorem join_f {l m : List S39} {i : Int} {k : Nat} (hk : 3000 ≤ k) (hl : l.length ≤ 1000) (hm : m.length ≤ 1000) : ulog_Join.f k l i m = some (joinS l i m) := by
  obtain ⟨k, rfl⟩ : ∃ q, k = q + 1 := ⟨k - 1, by omega⟩
  unfold ulog_Join.f joinS
  by_cases h : i < 0
  · rw [if_pos h, if_pos (.inl h)]
    simp [ulog_Join.j0, clone_f hl]
  · rw [if_neg h]
    by_cases h2 : i > (l.length : Int)
    · rw [if_pos (.inr h2)]
      simp [ulog_Join.j0, h2, clone_f hl]
    · rw [if_neg (by omega)]
      obtain ⟨n, rfl⟩ := Int.eq_ofNat_of_zero_le (Int.not_lt.1 h)
      obtain ⟨r, g1, g2⟩ := join_l0 (l := l) (m := m) (i := n) (by omega) hl hm m.length 0 k (by omega) (by omega) (by omega)
      simp only [ulog_Join.j0, h2, decide_false, Bool.false_eq_true, if_false, Int.toNat_natCast]
      simp only [Nat.add_zero, List.drop_zero] at g2
      rw [g2]; exact g1
theorem refJoin_l0 {l m : List S39} {i : Nat} (hi : i ≤ l.length) (hl : l.length ≤ 1000) (hm : m.length ≤ 1000) : ∀ (d j k : Nat), j + d = m.length → 2 * d + 20 ≤ k → i + j ≤ l.length →
    ∃ r, diwanref1_Join.l0 k (i : Int) m l (j : Int) = some r ∧ l.take (i + j) ++ join0 (l.drop (i + j)) (m.drop j) = r
  | d, j, k, hd, hk, hj => by
    obtain ⟨k, rfl⟩ : ∃ q, k = q + 2 := ⟨k - 2, by omega⟩
    unfold diwanref1_Join.l0
    have ew : wrap64 ((i : Int) + (j : Int)) = ((i + j : Nat) : Int) := by rw [wid (by omega)]; omega
    match d, hd, hk with
    | 0, hd, hk =>
      rw [if_neg (by omega)]
      refine ⟨l, rfl, ?_⟩
      rw [List.drop_eq_nil_of_le (by omega : m.length ≤ j)]
      have : join0 (l.drop (i + j)) [] = l.drop (i + j) := by cases l.drop (i + j) <;> rfl
      rw [this, List.take_append_drop]
    | d + 1, hd, hk =>
      have hjm : j < m.length := by omega
      rw [if_pos (by omega), ew]
      have hmd : m.drop j = m[j] :: m.drop (j + 1) := List.drop_eq_getElem_cons hjm
      have stop : ∃ r, diwanref1_Join.j2 (k + 1) (i : Int) m l (j : Int) ((i + j : Nat) : Int) false = some r ∧ l.take (i + j) ++ m.drop j = r := by
        unfold diwanref1_Join.j2
        rw [if_neg (by simp)]
        simp only [Option.bind_some, Int.toNat_natCast, List.nil_append, List.length_nil, Nat.zero_add]
        rw [if_pos (by omega), if_pos (by omega), if_pos (by simp; omega), if_pos (by omega), if_pos (by omega), if_pos (by simp; omega)]
        exact ⟨_, rfl, rfl⟩
      by_cases hge : ((i + j : Nat) : Int) < (l.length : Int)
      · rw [if_pos hge, if_pos (by omega), if_pos (by omega)]
        have hlt : i + j < l.length := by omega
        have hld : l.drop (i + j) = l[i + j] :: l.drop (i + j + 1) := List.drop_eq_getElem_cons hlt
        rw [rd_at l (i + j) hlt, rd_at m j hjm, hld, hmd]
        by_cases he : l[i + j].f0 = m[j].f0
        · have hb : (l[i + j].f0 == m[j].f0) = true := by simp [he]
          rw [hb]
          unfold diwanref1_Join.j2
          rw [if_pos rfl]
          have e : wrap64 ((j : Int) + 1) = ((j + 1 : Nat) : Int) := by rw [wid (by omega)]; omega
          rw [e]
          obtain ⟨r, h1, h2⟩ := refJoin_l0 hi hl hm d (j + 1) k (by omega) (by omega) (by omega)
          refine ⟨r, h1, ?_⟩
          rw [← h2]
          simp only [join0, he, if_true]
          rw [← Nat.add_assoc, List.take_succ_eq_append_getElem hlt, List.append_assoc]
          rfl
        · have hb : (l[i + j].f0 == m[j].f0) = false := by simp [he]
          rw [hb]
          simp only [join0, he, if_false]
          rw [← hmd]
          exact stop
      · rw [if_neg hge]
        have : l.drop (i + j) = [] := List.drop_eq_nil_of_le (by omega)
        rw [this, hmd]
        have : join0 [] (m[j] :: m.drop (j + 1)) = m[j] :: m.drop (j + 1) := rfl
        rw [this, ← hmd]
        exact stop
theorem refJoin_f {l m : List S39} {i : Int} {k : Nat} (hk : 3000 ≤ k) (hl : l.length ≤ 1000) (hm : m.length ≤ 1000) : diwanref1_Join.f k l i m = some (joinS l i m) := by
  obtain ⟨k, rfl⟩ : ∃ q, k = q + 1 := ⟨k - 1, by omega⟩
  unfold diwanref1_Join.f joinS
  simp only [Option.bind_some, List.length_nil, Nat.zero_add, List.nil_append]
  rw [if_pos (by omega)]
  by_cases h : i < 0
  · rw [if_pos h, if_pos (.inl h)]
    simp [diwanref1_Join.j0]
  · rw [if_neg h]
    by_cases h2 : i > (l.length : Int)
    · rw [if_pos (.inr h2)]
      simp [diwanref1_Join.j0, h2]
    · rw [if_neg (by omega)]
      obtain ⟨n, rfl⟩ := Int.eq_ofNat_of_zero_le (Int.not_lt.1 h)
      obtain ⟨r, g1, g2⟩ := refJoin_l0 (l := l) (m := m) (i := n) (by omega) hl hm m.length 0 k (by omega) (by omega) (by omega)
      simp only [diwanref1_Join.j0, h2, decide_false, Bool.false_eq_true, if_false, Int.toNat_natCast]
      simp only [Nat.add_zero, List.drop_zero] at g2
      rw [g2]; exact g1

/-! Likeness. -/
theorem ba_eq {a b : ByteArray} : (a.toList == b.toList) = true ↔ a = b := by
  rw [ByteArray.toList_eq, ByteArray.toList_eq]
  constructor
  · intro h
    have h : a.data.toList = b.data.toList := by simpa using h
    cases a; cases b
    simp only at h
    rw [Array.toList_inj.1 h]
  · intro h; rw [h]; simp
theorem s55_eq {a b : S55} : (!((a.f0.toList == b.f0.toList)) || (!(a.f1 == b.f1) || (!(a.f2.toList == b.f2.toList) || !(a.f3 == b.f3)))) = true ↔ ¬ a = b := by
  obtain ⟨a0, a1, a2, a3⟩ := a
  obtain ⟨b0, b1, b2, b3⟩ := b
  simp only [S55.mk.injEq, ← ba_eq]
  cases h0 : (a0.toList == b0.toList) <;> cases h2 : (a2.toList == b2.toList) <;> by_cases h1 : a1 = b1 <;> by_cases h3 : a3 = b3 <;> simp [h1, h3]
theorem s58_eq {a b : S58} : (!((a.f0.toList == b.f0.toList)) || (!(a.f1.toList == b.f1.toList) || !(a.f2 == b.f2))) = true ↔ ¬ a = b := by
  obtain ⟨a0, a1, a2⟩ := a
  obtain ⟨b0, b1, b2⟩ := b
  simp only [S58.mk.injEq, ← ba_eq]
  cases h0 : (a0.toList == b0.toList) <;> cases h2 : (a1.toList == b1.toList) <;> simp

theorem drop_cons {α : Type} {l : List α} {j : Nat} (h : j < l.length) : l.drop j = l[j] :: l.drop (j + 1) := List.drop_eq_getElem_cons h
theorem rd55_at (l : List S55) (j : Nat) (h : j < l.length) : rd_T55 l (j : Int) = l[j] := by
  unfold rd_T55
  rw [Int.toNat_natCast, List.getD_eq_getElem?_getD, List.getElem?_eq_getElem h]; rfl
theorem rd58_at (l : List S58) (j : Nat) (h : j < l.length) : rd_T58 l (j : Int) = l[j] := by
  unfold rd_T58
  rw [Int.toNat_natCast, List.getD_eq_getElem?_getD, List.getElem?_eq_getElem h]; rfl
theorem eqRead_l0 {a b : List S55} (hl : a.length = b.length) (ha : a.length ≤ 1000) : ∀ (d j k : Nat), j + d = a.length → d + 1 ≤ k → ∃ r, slices_Equal_Read.l0 k a b (a.length : Int) (j : Int) = some r ∧ (r = true ↔ a.drop j = b.drop j)
  | d, j, k, hd, hk => by
    obtain ⟨k, rfl⟩ : ∃ q, k = q + 1 := ⟨k - 1, by omega⟩
    unfold slices_Equal_Read.l0
    match d, hd, hk with
    | 0, hd, hk =>
      rw [if_neg (by omega)]
      refine ⟨true, rfl, ?_⟩
      rw [List.drop_eq_nil_of_le (by omega : a.length ≤ j), List.drop_eq_nil_of_le (by omega : b.length ≤ j)]; simp
    | d + 1, hd, hk =>
      have hj : j < a.length := by omega
      have hj2 : j < b.length := by omega
      have e : wrap64 ((j : Int) + 1) = ((j + 1 : Nat) : Int) := by rw [wid (by omega)]; omega
      rw [if_pos (by omega), if_pos (by omega), if_pos (by omega), if_pos (by omega), rd55_at a j hj, rd55_at b j hj2, e, drop_cons hj, drop_cons hj2]
      by_cases h : a[j] = b[j]
      · rw [if_neg (fun g => s55_eq.1 g h)]
        obtain ⟨r, h1, h2⟩ := eqRead_l0 hl ha d (j + 1) k (by omega) (by omega)
        exact ⟨r, h1, by rw [h2, h, List.cons.injEq]; simp only [true_and]⟩
      · rw [if_pos (s55_eq.2 h)]
        exact ⟨false, rfl, by rw [List.cons.injEq]; simp [h]⟩
theorem eqWrite_l0 {a b : List S58} (hl : a.length = b.length) (ha : a.length ≤ 1000) : ∀ (d j k : Nat), j + d = a.length → d + 1 ≤ k → ∃ r, slices_Equal_Write.l0 k a b (a.length : Int) (j : Int) = some r ∧ (r = true ↔ a.drop j = b.drop j)
  | d, j, k, hd, hk => by
    obtain ⟨k, rfl⟩ : ∃ q, k = q + 1 := ⟨k - 1, by omega⟩
    unfold slices_Equal_Write.l0
    match d, hd, hk with
    | 0, hd, hk =>
      rw [if_neg (by omega)]
      refine ⟨true, rfl, ?_⟩
      rw [List.drop_eq_nil_of_le (by omega : a.length ≤ j), List.drop_eq_nil_of_le (by omega : b.length ≤ j)]; simp
    | d + 1, hd, hk =>
      have hj : j < a.length := by omega
      have hj2 : j < b.length := by omega
      have e : wrap64 ((j : Int) + 1) = ((j + 1 : Nat) : Int) := by rw [wid (by omega)]; omega
      rw [if_pos (by omega), if_pos (by omega), if_pos (by omega), if_pos (by omega), rd58_at a j hj, rd58_at b j hj2, e, drop_cons hj, drop_cons hj2]
      by_cases h : a[j] = b[j]
      · rw [if_neg (fun g => s58_eq.1 g h)]
        obtain ⟨r, h1, h2⟩ := eqWrite_l0 hl ha d (j + 1) k (by omega) (by omega)
        exact ⟨r, h1, by rw [h2, h, List.cons.injEq]; simp only [true_and]⟩
      · rw [if_pos (s58_eq.2 h)]
        exact ⟨false, rfl, by rw [List.cons.injEq]; simp [h]⟩
theorem refReads_l0 {a b : List S55} (hl : a.length = b.length) (ha : a.length ≤ 1000) : ∀ (d j k : Nat), j + d = a.length → d + 1 ≤ k → ∃ r, diwanref1_SameReads.l0 k a b (j : Int) = some r ∧ (r = true ↔ a.drop j = b.drop j)
  | d, j, k, hd, hk => by
    obtain ⟨k, rfl⟩ : ∃ q, k = q + 1 := ⟨k - 1, by omega⟩
    unfold diwanref1_SameReads.l0
    match d, hd, hk with
    | 0, hd, hk =>
      rw [if_neg (by omega)]
      refine ⟨true, rfl, ?_⟩
      rw [List.drop_eq_nil_of_le (by omega : a.length ≤ j), List.drop_eq_nil_of_le (by omega : b.length ≤ j)]; simp
    | d + 1, hd, hk =>
      have hj : j < a.length := by omega
      have hj2 : j < b.length := by omega
      have e : wrap64 ((j : Int) + 1) = ((j + 1 : Nat) : Int) := by rw [wid (by omega)]; omega
      rw [if_pos (by omega), if_pos (by omega), if_pos (by omega), rd55_at a j hj, rd55_at b j hj2, e, drop_cons hj, drop_cons hj2]
      by_cases h : a[j] = b[j]
      · rw [if_neg (fun g => s55_eq.1 g h)]
        obtain ⟨r, h1, h2⟩ := refReads_l0 hl ha d (j + 1) k (by omega) (by omega)
        exact ⟨r, h1, by rw [h2, h, List.cons.injEq]; simp only [true_and]⟩
      · rw [if_pos (s55_eq.2 h)]
        exact ⟨false, rfl, by rw [List.cons.injEq]; simp [h]⟩

theorem eqRead_f {a b : List S55} {k : Nat} (hk : 200 ≤ k) (ha : a.length ≤ 100) : ∃ r, slices_Equal_Read.f k a b = some r ∧ (r = true ↔ a = b) := by
  unfold slices_Equal_Read.f
  by_cases h : (a.length : Int) = (b.length : Int)
  · rw [if_pos h]
    have := eqRead_l0 (a := a) (b := b) (by omega) (by omega) a.length 0 k (by omega) (by omega)
    simpa using this
  · rw [if_neg h]; exact ⟨false, rfl, by simp; intro e; exact h (by rw [e])⟩
theorem eqWrite_f {a b : List S58} {k : Nat} (hk : 200 ≤ k) (ha : a.length ≤ 100) : ∃ r, slices_Equal_Write.f k a b = some r ∧ (r = true ↔ a = b) := by
  unfold slices_Equal_Write.f
  by_cases h : (a.length : Int) = (b.length : Int)
  · rw [if_pos h]
    have := eqWrite_l0 (a := a) (b := b) (by omega) (by omega) a.length 0 k (by omega) (by omega)
    simpa using this
  · rw [if_neg h]; exact ⟨false, rfl, by simp; intro e; exact h (by rw [e])⟩
theorem refReads_f {a b : List S55} {k : Nat} (hk : 200 ≤ k) (ha : a.length ≤ 100) : ∃ r, diwanref1_SameReads.f k a b = some r ∧ (r = true ↔ a = b) := by
  unfold diwanref1_SameReads.f
  by_cases h : (a.length : Int) = (b.length : Int)
  · rw [if_pos h]
    have := refReads_l0 (a := a) (b := b) (by omega) (by omega) a.length 0 k (by omega) (by omega)
    simpa using this
  · rw [if_neg h]; exact ⟨false, rfl, by simp; intro e; exact h (by rw [e])⟩
theorem refTxn_l0 {p q p' q' : Int} {u u' : List S55} {a b : List S58} (hl : a.length = b.length) (ha : a.length ≤ 1000) : ∀ (d j k : Nat), j + d = a.length → d + 1 ≤ k → ∃ r, diwanref1_SameTxn.l0 k (j : Int) p q u a p' q' u' b = some r ∧ (r = true ↔ a.drop j = b.drop j)
  | d, j, k, hd, hk => by
    obtain ⟨k, rfl⟩ : ∃ q, k = q + 1 := ⟨k - 1, by omega⟩
    unfold diwanref1_SameTxn.l0
    match d, hd, hk with
    | 0, hd, hk =>
      rw [if_neg (by omega)]
      refine ⟨true, rfl, ?_⟩
      rw [List.drop_eq_nil_of_le (by omega : a.length ≤ j), List.drop_eq_nil_of_le (by omega : b.length ≤ j)]; simp
    | d + 1, hd, hk =>
      have hj : j < a.length := by omega
      have hj2 : j < b.length := by omega
      have e : wrap64 ((j : Int) + 1) = ((j + 1 : Nat) : Int) := by rw [wid (by omega)]; omega
      rw [if_pos (by omega), if_pos (by omega), if_pos (by omega), rd58_at a j hj, rd58_at b j hj2, e, drop_cons hj, drop_cons hj2]
      by_cases h : a[j] = b[j]
      · rw [if_neg (fun g => s58_eq.1 g h)]
        obtain ⟨r, h1, h2⟩ := refTxn_l0 hl ha d (j + 1) k (by omega) (by omega)
        exact ⟨r, h1, by rw [h2, h, List.cons.injEq]; simp only [true_and]⟩
      · rw [if_pos (s58_eq.2 h)]
        exact ⟨false, rfl, by rw [List.cons.injEq]; simp [h]⟩
theorem refTxn_f {p q p' q' : Int} {u u' : List S55} {a b : List S58} {k : Nat} (hk : 300 ≤ k) (hu : u.length ≤ 100) (ha : a.length ≤ 100) : ∃ r, diwanref1_SameTxn.f k p q u a p' q' u' b = some r ∧ (r = true ↔ p = p' ∧ q = q' ∧ u = u' ∧ a = b) := by
  obtain ⟨k, rfl⟩ : ∃ q, k = q + 1 := ⟨k - 1, by omega⟩
  unfold diwanref1_SameTxn.f
  have no : ∃ r, diwanref1_SameTxn.j0 (k + 1) true p q u a p' q' u' b = some r ∧ r = false := ⟨false, by simp [diwanref1_SameTxn.j0], rfl⟩
  obtain ⟨r0, n1, rfl⟩ := no
  by_cases h1 : p = p'
  · rw [if_pos h1]
    by_cases h2 : q = q'
    · rw [if_pos h2]
      by_cases h3 : (a.length : Int) = (b.length : Int)
      · rw [if_pos h3]
        obtain ⟨r, g1, g2⟩ := refReads_f (a := u) (b := u') (k := k + 1) (by omega) hu
        rw [g1]; simp only [Option.bind_some]
        cases r with
        | false =>
          have hne : ¬ u = u' := fun e => by simpa using g2.2 e
          simp only [Bool.not_false]
          exact ⟨false, n1, by simp [hne]⟩
        | true =>
          have heq : u = u' := g2.1 rfl
          simp only [Bool.not_true]
          rw [show diwanref1_SameTxn.j0 (k + 1) false p q u a p' q' u' b = diwanref1_SameTxn.l0 k 0 p q u a p' q' u' b by simp [diwanref1_SameTxn.j0]]
          obtain ⟨r, q1, q2⟩ := refTxn_l0 (p := p) (q := q) (p' := p') (q' := q') (u := u) (u' := u') (a := a) (b := b) (by omega) (by omega) a.length 0 k (by omega) (by omega)
          exact ⟨r, q1, by rw [q2]; simp [h1, h2, heq]⟩
      · rw [if_neg h3]
        exact ⟨false, n1, by simp; intro _ _ _ e; exact h3 (by rw [e])⟩
    · rw [if_neg h2]; exact ⟨false, n1, by simp [h2]⟩
  · rw [if_neg h1]; exact ⟨false, n1, by simp [h1]⟩
theorem s39_ext {a b : S39} : a = b ↔ a.f0 = b.f0 ∧ a.f1 = b.f1 ∧ a.f2.f0 = b.f2.f0 ∧ a.f2.f1 = b.f2.f1 ∧ a.f2.f2 = b.f2.f2 ∧ a.f2.f3 = b.f2.f3 := by
  obtain ⟨a0, a1, c0, c1, c2, c3⟩ := a
  obtain ⟨b0, b1, d0, d1, d2, d3⟩ := b
  simp
theorem same1_f {a b : S39} {k : Nat} (hk : 300 ≤ k) (ha : Sm a) : ∃ r, ulog_same.f k a.f0 a.f1 a.f2.f0 a.f2.f1 a.f2.f2 a.f2.f3 b.f0 b.f1 b.f2.f0 b.f2.f1 b.f2.f2 b.f2.f3 = some r ∧ (r = true ↔ a = b) := by
  unfold ulog_same.f
  simp only [s39_ext]
  by_cases h1 : a.f0 = b.f0
  · rw [if_pos h1]
    by_cases h2 : a.f1 = b.f1
    · rw [if_pos (by simp [h2])]
      by_cases h3 : a.f2.f0 = b.f2.f0
      · rw [if_pos h3]
        by_cases h4 : a.f2.f1 = b.f2.f1
        · rw [if_pos h4]
          obtain ⟨r, g1, g2⟩ := eqRead_f (a := a.f2.f2) (b := b.f2.f2) (k := k) (by omega) ha.1
          rw [g1]; simp only [Option.bind_some]
          cases r with
          | false => exact ⟨false, by simp, by simp; intro _ _ _ _ e; simpa using g2.2 e⟩
          | true =>
            obtain ⟨r, q1, q2⟩ := eqWrite_f (a := a.f2.f3) (b := b.f2.f3) (k := k) (by omega) ha.2
            rw [if_pos rfl, q1]
            exact ⟨r, rfl, by rw [q2]; simp [h1, h2, h3, h4, g2.1 rfl]⟩
        · rw [if_neg h4]; exact ⟨false, rfl, by simp [h4]⟩
      · rw [if_neg h3]; exact ⟨false, rfl, by simp [h3]⟩
    · rw [if_neg (by simp [h2])]; exact ⟨false, rfl, by simp [h2]⟩
  · rw [if_neg h1]; exact ⟨false, rfl, by simp [h1]⟩
theorem refSame1_f {a b : S39} {k : Nat} (hk : 300 ≤ k) (ha : Sm a) : ∃ r, diwanref1_SameEntry.f k a.f0 a.f1 a.f2.f0 a.f2.f1 a.f2.f2 a.f2.f3 b.f0 b.f1 b.f2.f0 b.f2.f1 b.f2.f2 b.f2.f3 = some r ∧ (r = true ↔ a = b) := by
  unfold diwanref1_SameEntry.f
  simp only [s39_ext]
  by_cases h1 : a.f0 = b.f0
  · rw [if_pos h1]
    by_cases h2 : a.f1 = b.f1
    · rw [if_pos (by simp [h2])]
      obtain ⟨r, g1, g2⟩ := refTxn_f (p := a.f2.f0) (q := a.f2.f1) (p' := b.f2.f0) (q' := b.f2.f1) (u := a.f2.f2) (u' := b.f2.f2) (a := a.f2.f3) (b := b.f2.f3) (k := k) hk ha.1 ha.2
      rw [g1]
      exact ⟨r, rfl, by rw [g2]; simp [h1, h2]⟩
    · rw [if_neg (by simp [h2])]; exact ⟨false, rfl, by simp [h2]⟩
  · rw [if_neg h1]; exact ⟨false, rfl, by simp [h1]⟩
theorem same_l0 {a b : List S39} (hl : a.length = b.length) (ha : a.length ≤ 1000) (hs : ∀ e ∈ a, Sm e) : ∀ (d j k : Nat), j + d = a.length → d + 301 ≤ k → ∃ r, slices_EqualFunc_Entry.l0 k b a (a.length : Int) (j : Int) = some r ∧ (r = true ↔ a.drop j = b.drop j)
  | d, j, k, hd, hk => by
    obtain ⟨k, rfl⟩ : ∃ q, k = q + 1 := ⟨k - 1, by omega⟩
    unfold slices_EqualFunc_Entry.l0
    match d, hd, hk with
    | 0, hd, hk =>
      rw [if_neg (by omega)]
      refine ⟨true, rfl, ?_⟩
      rw [List.drop_eq_nil_of_le (by omega : a.length ≤ j), List.drop_eq_nil_of_le (by omega : b.length ≤ j)]; simp
    | d + 1, hd, hk =>
      have hj : j < a.length := by omega
      have hj2 : j < b.length := by omega
      have e : wrap64 ((j : Int) + 1) = ((j + 1 : Nat) : Int) := by rw [wid (by omega)]; omega
      rw [if_pos (by omega), if_pos (by omega), if_pos (by omega), if_pos (by omega), rd_at a j hj, rd_at b j hj2, e, drop_cons hj, drop_cons hj2]
      obtain ⟨r, g1, g2⟩ := same1_f (a := a[j]) (b := b[j]) (k := k) (by omega) (hs _ (List.getElem_mem hj))
      rw [g1]; simp only [Option.bind_some]
      cases r with
      | true =>
        rw [if_pos rfl]
        obtain ⟨r, h1, h2⟩ := same_l0 hl ha hs d (j + 1) k (by omega) (by omega)
        exact ⟨r, h1, by rw [h2, g2.1 rfl, List.cons.injEq]; simp only [true_and]⟩
      | false =>
        have hne : ¬ a[j] = b[j] := fun h => by simpa using g2.2 h
        exact ⟨false, by simp, by rw [List.cons.injEq]; simp [hne]⟩
theorem same_f {a b : List S39} {k : Nat} (hk : 2000 ≤ k) (ha : a.length ≤ 1000) (hs : ∀ e ∈ a, Sm e) : ∃ r, ulog_Same.f k a b = some r ∧ (r = true ↔ a = b) := by
  unfold ulog_Same.f slices_EqualFunc_Entry.f
  by_cases h : (a.length : Int) = (b.length : Int)
  · rw [if_pos h]
    obtain ⟨r, g1, g2⟩ := same_l0 (a := a) (b := b) (by omega) (by omega) hs a.length 0 k (by omega) (by omega)
    exact ⟨r, by rw [show (0 : Int) = ((0 : Nat) : Int) from rfl, g1]; rfl, by simpa using g2⟩
  · rw [if_neg h]; exact ⟨false, rfl, by simp; intro e; exact h (by rw [e])⟩
theorem refSame_l0 {a b : List S39} (hl : a.length = b.length) (ha : a.length ≤ 1000) (hs : ∀ e ∈ a, Sm e) : ∀ (d j k : Nat), j + d = a.length → d + 301 ≤ k → ∃ r, diwanref1_SameEntries.l0 k a b (j : Int) = some r ∧ (r = true ↔ a.drop j = b.drop j)
  | d, j, k, hd, hk => by
    obtain ⟨k, rfl⟩ : ∃ q, k = q + 1 := ⟨k - 1, by omega⟩
    unfold diwanref1_SameEntries.l0
    match d, hd, hk with
    | 0, hd, hk =>
      rw [if_neg (by omega)]
      refine ⟨true, rfl, ?_⟩
      rw [List.drop_eq_nil_of_le (by omega : a.length ≤ j), List.drop_eq_nil_of_le (by omega : b.length ≤ j)]; simp
    | d + 1, hd, hk =>
      have hj : j < a.length := by omega
      have hj2 : j < b.length := by omega
      have e : wrap64 ((j : Int) + 1) = ((j + 1 : Nat) : Int) := by rw [wid (by omega)]; omega
      rw [if_pos (by omega), if_pos (by omega), if_pos (by omega), rd_at a j hj, rd_at b j hj2, e, drop_cons hj, drop_cons hj2]
      obtain ⟨r, g1, g2⟩ := refSame1_f (a := a[j]) (b := b[j]) (k := k) (by omega) (hs _ (List.getElem_mem hj))
      rw [g1]; simp only [Option.bind_some]
      cases r with
      | true =>
        rw [if_pos rfl]
        obtain ⟨r, h1, h2⟩ := refSame_l0 hl ha hs d (j + 1) k (by omega) (by omega)
        exact ⟨r, h1, by rw [h2, g2.1 rfl, List.cons.injEq]; simp only [true_and]⟩
      | false =>
        have hne : ¬ a[j] = b[j] := fun h => by simpa using g2.2 h
        exact ⟨false, by simp, by rw [List.cons.injEq]; simp [hne]⟩
theorem refSame_f {a b : List S39} {k : Nat} (hk : 2000 ≤ k) (ha : a.length ≤ 1000) (hs : ∀ e ∈ a, Sm e) : ∃ r, diwanref1_SameEntries.f k a b = some r ∧ (r = true ↔ a = b) := by
  unfold diwanref1_SameEntries.f
  by_cases h : (a.length : Int) = (b.length : Int)
  · rw [if_pos h]
    obtain ⟨r, g1, g2⟩ := refSame_l0 (a := a) (b := b) (by omega) (by omega) hs a.length 0 k (by omega) (by omega)
    exact ⟨r, by rw [show (0 : Int) = ((0 : Nat) : Int) from rfl, g1], by simpa using g2⟩
  · rw [if_neg h]; exact ⟨false, rfl, by simp; intro e; exact h (by rw [e])⟩
end Go.Proofs.Ytipeiombaempoaa.UMath
