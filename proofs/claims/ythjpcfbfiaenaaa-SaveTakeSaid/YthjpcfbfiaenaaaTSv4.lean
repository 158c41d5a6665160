/- Which shards may be: the program and the reference say the same. -/
import Derived.Test.YthjpcfbfiaenaaaTSv1
import Derived.Test.YthjpcfbfiaenaaaTStore6
namespace Go.Proofs.Ythjpcfbfiaenaaa.Told.SV
open Go Go.Proofs.Ythjpcfbfiaenaaa.Vam Go.Proofs.Ythjpcfbfiaenaaa.Told Go.Proofs.Ythjpcfbfiaenaaa.Told.CF Go.Proofs.Ythjpcfbfiaenaaa.Told.ST
set_option linter.unusedSimpArgs false
set_option linter.unusedVariables false
theorem and_f {b : Bool} {P : Prop} (h : (false && b) = true) : P := by simp at h
def cfO : Unit ⊕ Int → Int
 | .inl _ => -1
 | .inr y => y
def inR (lo hi : Int) (l : List Int) : Bool := l.all fun v => decide (lo ≤ v ∧ v ≤ hi)
theorem cfi_lp (fu : Nat) (lo hi : Int) : ∀ (r q : List Int) (n : Nat), (q ++ r).length ≤ 1000000 → r.length < n → ∃ o, slices_IndexFunc_int_int.lp3 fu (q ++ r) ((q ++ r).length : Int) lo hi n (q.length : Int) = some o ∧ (inR lo hi r = true → o = .inl ()) ∧ (inR lo hi r = false → ∃ j, o = .inr j ∧ 0 ≤ j)
 | [], q, n, hl, hn => by
  obtain ⟨n, rfl⟩ : ∃ m, n = m + 1 := ⟨n - 1, by omega⟩
  simp only [List.append_nil]
  rw [slices_IndexFunc_int_int.lp3, br_f (nlt_end _)]
  exact ⟨_, rfl, fun _ => rfl, fun h => by cases h⟩
 | v :: r, q, n, hl, hn => by
  obtain ⟨n, rfl⟩ : ∃ m, n = m + 1 := ⟨n - 1, by omega⟩
  have e : q ++ v :: r = (q ++ [v]) ++ r := by simp
  obtain ⟨o, g1, g2, g3⟩ := cfi_lp fu lo hi r (q ++ [v]) n (by rw [← e]; exact hl) (by simp at hn; omega)
  rw [← e] at g1
  rw [slices_IndexFunc_int_int.lp3, br_t (lt_mid _ _ _), ix_mid, w64_len q r v (by omega), g1]
  unfold shard_May_1_1
  have hs : inR lo hi (v :: r) = (decide (lo ≤ v ∧ v ≤ hi) && inR lo hi r) := by simp [inR]
  rw [hs]
  by_cases h1 : v < lo
  ·rw [br_t (b := decide (v < lo)) (decide_eq_true h1), bd_s rfl, br_t rfl, decide_eq_false (by omega)]
   exact ⟨_, rfl, fun h => and_f h, fun _ => ⟨_, rfl, by omega⟩⟩
  ·rw [br_f (b := decide (v < lo)) (decide_eq_false h1), bd_s rfl]
   by_cases h2 : v > hi
   ·rw [br_t (decide_eq_true h2), decide_eq_false (by omega)]
    exact ⟨_, rfl, fun h => and_f h, fun _ => ⟨_, rfl, by omega⟩⟩
   ·rw [br_f (decide_eq_false h2), decide_eq_true (by omega)]
    exact ⟨o, rfl, fun h => g2 h, fun h => g3 h⟩
theorem cfi_e {fu : Nat} {l : List Int} (lo hi : Int) (hl : l.length ≤ 1000000) (hf : l.length < fu) : slices_ContainsFunc_int_int fu l lo hi = some (!inR lo hi l) := by
 obtain ⟨o, g1, g2, g3⟩ := cfi_lp fu lo hi l [] fu hl hf
 simp only [List.nil_append, List.length_nil, Int.natCast_zero] at g1
 unfold slices_ContainsFunc_int_int slices_IndexFunc_int_int
 rw [bd_s (o := bd _ _) (x := cfO o) (by rw [bd_s g1]; cases o <;> rfl)]
 cases h : inR lo hi l
 ·obtain ⟨j, hj, hj0⟩ := g3 h
  rw [hj]
  show some (decide (j ≥ 0)) = some true
  rw [decide_eq_true (by omega)]
 ·rw [g2 h]; rfl
def upTo (p : Int) (l : List TVersion) : Bool := l.all fun v => decide (v.Pos ≤ p)
theorem cfv_lp (fu : Nat) (s : TShard) : ∀ (r q : List TVersion) (n : Nat), (q ++ r).length ≤ 1000000 → r.length < n → ∃ o, slices_IndexFunc_api_Version.lp3 fu (q ++ r) ((q ++ r).length : Int) s n (q.length : Int) = some o ∧ (upTo s.Done r = true → o = .inl ()) ∧ (upTo s.Done r = false → ∃ j, o = .inr j ∧ 0 ≤ j)
 | [], q, n, hl, hn => by
  obtain ⟨n, rfl⟩ : ∃ m, n = m + 1 := ⟨n - 1, by omega⟩
  simp only [List.append_nil]
  rw [slices_IndexFunc_api_Version.lp3, br_f (nlt_end _)]
  exact ⟨_, rfl, fun _ => rfl, fun h => by cases h⟩
 | v :: r, q, n, hl, hn => by
  obtain ⟨n, rfl⟩ : ∃ m, n = m + 1 := ⟨n - 1, by omega⟩
  have e : q ++ v :: r = (q ++ [v]) ++ r := by simp
  obtain ⟨o, g1, g2, g3⟩ := cfv_lp fu s r (q ++ [v]) n (by rw [← e]; exact hl) (by simp at hn; omega)
  rw [← e] at g1
  rw [slices_IndexFunc_api_Version.lp3, br_t (lt_mid _ _ _), ix_mid, w64_len q r v (by omega), g1]
  unfold shard_May_2_1
  have hs : upTo s.Done (v :: r) = (decide (v.Pos ≤ s.Done) && upTo s.Done r) := by simp [upTo]
  rw [hs, bd_s rfl]
  by_cases h2 : v.Pos > s.Done
  ·rw [br_t (decide_eq_true h2), decide_eq_false (by omega)]
   exact ⟨_, rfl, fun h => and_f h, fun _ => ⟨_, rfl, by omega⟩⟩
  ·rw [br_f (decide_eq_false h2), decide_eq_true (by omega)]
   exact ⟨o, rfl, fun h => g2 h, fun h => g3 h⟩
theorem cfv_e {fu : Nat} {l : List TVersion} (s : TShard) (hl : l.length ≤ 1000000) (hf : l.length < fu) : slices_ContainsFunc_api_Version fu l s = some (!upTo s.Done l) := by
 obtain ⟨o, g1, g2, g3⟩ := cfv_lp fu s l [] fu hl hf
 simp only [List.nil_append, List.length_nil, Int.natCast_zero] at g1
 unfold slices_ContainsFunc_api_Version slices_IndexFunc_api_Version
 rw [bd_s (o := bd _ _) (x := cfO o) (by rw [bd_s g1]; cases o <;> rfl)]
 cases h : upTo s.Done l
 ·obtain ⟨j, hj, hj0⟩ := g3 h
  rw [hj]
  show some (decide (j ≥ 0)) = some true
  rw [decide_eq_true (by omega)]
 ·rw [g2 h]; rfl
def ours (fu : Nat) (s : TShard) (c : TChain) : Bool := (shN fu c.Key s.Shards == s.ID) && upTo s.Done c.L
theorem may2_e {fu : Nat} {s : TShard} {c : TChain} (hs : 1 ≤ s.Shards ∧ s.Shards ≤ 3) (hk : c.Key.size ≤ 1000000 ∧ c.Key.size < fu) (hl : c.L.length ≤ 1000000 ∧ c.L.length < fu) : shard_May_2 fu c s = some (!ours fu s c) := by
 unfold shard_May_2 shard_part_own ours
 rw [bd_s (shard_e hs hk.1 hk.2).2.1, bd_s rfl, bd_s (cfv_e s hl.1 hl.2)]
 cases (shN fu c.Key s.Shards == s.ID)
 ·rw [br_t (by rfl)]; rfl
 ·rw [br_f (by rfl)]; rfl
theorem cfc_lp (fu : Nat) (s : TShard) (hs : 1 ≤ s.Shards ∧ s.Shards ≤ 3) : ∀ (r q : List TChain) (n : Nat), (q ++ r).length ≤ 1000000 → (∀ c ∈ r, (c.Key.size ≤ 1000000 ∧ c.Key.size < fu) ∧ c.L.length ≤ 1000000 ∧ c.L.length < fu) → r.length < n → ∃ o, slices_IndexFunc_api_Chain.lp3 fu (q ++ r) ((q ++ r).length : Int) s n (q.length : Int) = some o ∧ (r.all (ours fu s) = true → o = .inl ()) ∧ (r.all (ours fu s) = false → ∃ j, o = .inr j ∧ 0 ≤ j)
 | [], q, n, hl, hc, hn => by
  obtain ⟨n, rfl⟩ : ∃ m, n = m + 1 := ⟨n - 1, by omega⟩
  simp only [List.append_nil]
  rw [slices_IndexFunc_api_Chain.lp3, br_f (nlt_end _)]
  exact ⟨_, rfl, fun _ => rfl, fun h => by cases h⟩
 | v :: r, q, n, hl, hc, hn => by
  obtain ⟨n, rfl⟩ : ∃ m, n = m + 1 := ⟨n - 1, by omega⟩
  have e : q ++ v :: r = (q ++ [v]) ++ r := by simp
  obtain ⟨o, g1, g2, g3⟩ := cfc_lp fu s hs r (q ++ [v]) n (by rw [← e]; exact hl) (fun c h => hc c (by simp [h])) (by simp at hn; omega)
  rw [← e] at g1
  obtain ⟨k1, k2⟩ := hc v (by simp)
  rw [slices_IndexFunc_api_Chain.lp3, br_t (lt_mid _ _ _), ix_mid, w64_len q r v (by omega), g1, bd_s (may2_e hs k1 k2), List.all_cons]
  cases ours fu s v
  ·rw [br_t (by rfl)]
   exact ⟨_, rfl, fun h => and_f h, fun _ => ⟨_, rfl, by omega⟩⟩
  ·rw [br_f (by rfl)]
   exact ⟨o, rfl, fun h => g2 h, fun h => g3 h⟩
theorem cfc_e {fu N : Nat} {s : TShard} (hs : 1 ≤ s.Shards ∧ s.Shards ≤ 3) (hm : Sml N s.S.Chains) (hk : ∀ c ∈ s.S.Chains, c.Key.size ≤ 1000000 ∧ c.Key.size < fu) (hN : N < fu) (hN' : N ≤ 1000000) : slices_ContainsFunc_api_Chain fu s.S.Chains s = some (!s.S.Chains.all (ours fu s)) := by
 obtain ⟨o, g1, g2, g3⟩ := cfc_lp fu s hs s.S.Chains [] fu (by have := hm.1; simp; omega) (fun c hc => ⟨hk c hc, by have := hm.2 c hc; omega, by have := hm.2 c hc; omega⟩) (by have := hm.1; omega)
 simp only [List.nil_append, List.length_nil, Int.natCast_zero] at g1
 unfold slices_ContainsFunc_api_Chain slices_IndexFunc_api_Chain
 rw [bd_s (o := bd _ _) (x := cfO o) (by rw [bd_s g1]; cases o <;> rfl)]
 cases h : s.S.Chains.all (ours fu s)
 ·obtain ⟨j, hj, hj0⟩ := g3 h
  rw [hj]
  show some (decide (j ≥ 0)) = some true
  rw [decide_eq_true (by omega)]
 ·rw [g2 h]; rfl
def seP (d : Int) : Int → List TSeat → Bool
 | _, [] => true
 | p, x :: r => decide (p < x.Session ∧ x.Session ≤ 9 ∧ 1 ≤ x.Seq ∧ x.Seq ≤ 1000 ∧ 1 ≤ x.Pos ∧ x.Pos ≤ d) && seP d x.Session r
theorem seats_lp (fu : Nat) (s : TShard) : ∀ (r q : List TSeat) (p : Int) (n : Nat), (q ++ r).length ≤ 1000000 → r.length < n → shard_seats.lp4 fu (q ++ r) ((q ++ r).length : Int) s n p (q.length : Int) = some (bif seP s.Done p r then .inl () else .inr ())
 | [], q, p, n, hl, hn => by
  obtain ⟨n, rfl⟩ : ∃ m, n = m + 1 := ⟨n - 1, by omega⟩
  simp only [List.append_nil]
  rw [shard_seats.lp4, br_f (nlt_end _)]; rfl
 | x :: r, q, p, n, hl, hn => by
  obtain ⟨n, rfl⟩ : ∃ m, n = m + 1 := ⟨n - 1, by omega⟩
  have e : q ++ x :: r = (q ++ [x]) ++ r := by simp
  have ih := seats_lp fu s r (q ++ [x]) x.Session n (by rw [← e]; exact hl) (by simp at hn; omega)
  rw [← e] at ih
  rw [shard_seats.lp4, br_t (lt_mid _ _ _), ix_mid, w64_len q r x (by omega), ih]
  simp only [seP]
  by_cases h1 : x.Session ≤ p
  ·rw [br_t (decide_eq_true h1), decide_eq_false (by omega)]; rfl
  rw [br_f (decide_eq_false h1)]
  by_cases h2 : x.Session > 9
  ·rw [br_t (decide_eq_true h2), decide_eq_false (by omega)]; rfl
  rw [br_f (decide_eq_false h2)]
  by_cases h3 : x.Seq < 1
  ·rw [br_t (decide_eq_true h3), decide_eq_false (by omega)]; rfl
  rw [br_f (decide_eq_false h3)]
  by_cases h4 : x.Seq > 1000
  ·rw [br_t (decide_eq_true h4), decide_eq_false (by omega)]; rfl
  rw [br_f (decide_eq_false h4)]
  by_cases h5 : x.Pos < 1
  ·rw [br_t (decide_eq_true h5), decide_eq_false (by omega)]; rfl
  rw [br_f (decide_eq_false h5)]
  by_cases h6 : x.Pos > s.Done
  ·rw [br_t (decide_eq_true h6), decide_eq_false (by omega)]; rfl
  rw [br_f (decide_eq_false h6), decide_eq_true (by omega)]; rfl
theorem seats_e {fu : Nat} {s : TShard} (hl : s.Seats.length ≤ 1000000) (hf : s.Seats.length < fu) : shard_seats fu s = some (seP s.Done 0 s.Seats) := by
 have := seats_lp fu s s.Seats [] 0 fu hl hf
 simp only [List.nil_append, List.length_nil, Int.natCast_zero] at this
 unfold shard_seats
 rw [bd_s this]
 cases seP s.Done 0 s.Seats <;> rfl
theorem rseats_lp (fu : Nat) (s : TShard) : ∀ (r q : List TSeat) (p : Int) (n : Nat), s.Seats = q ++ r → (q = [] → p = 0) → (∀ y q', q = q' ++ [y] → p = y.Session) → 0 ≤ p → s.Seats.length ≤ 1000000 → r.length < n → diwanref13_MayShard.lp36 fu s n (q.length : Int) = some (bif seP s.Done p r then .inl () else .inr ())
 | [], q, p, n, e, h1, h2, h0, hl, hn => by
  obtain ⟨n, rfl⟩ : ∃ m, n = m + 1 := ⟨n - 1, by omega⟩
  simp only [List.append_nil] at e
  rw [diwanref13_MayShard.lp36, br_f (by rw [e]; exact nlt_end _)]; rfl
 | x :: r, q, p, n, e, h1, h2, h0, hl, hn => by
  obtain ⟨n, rfl⟩ : ∃ m, n = m + 1 := ⟨n - 1, by omega⟩
  have e' : s.Seats = (q ++ [x]) ++ r := by rw [e]; simp
  have hx : s.Seats[q.length]? = some x := by rw [e]; simp
  have hlen : s.Seats.length = q.length + 1 + r.length := by rw [e]; simp; omega
  have ew : w64 ((q.length : Int) + 1) = ((q ++ [x]).length : Int) := by rw [w64_id (by omega) (by omega)]; simp
  rw [diwanref13_MayShard.lp36, br_t (decide_eq_true (by omega)), ix_n hx, ew]
  simp only [seP]
  by_cases g0 : x.Session < 1
  ·rw [br_t (decide_eq_true g0), decide_eq_false (by omega)]; rfl
  have ih := rseats_lp fu s r (q ++ [x]) x.Session n e' (fun g => by simp at g) (fun y q' g => by
   have := List.append_inj' g rfl
   simp at this
   rw [this.2]) (by omega) hl (by simp at hn; omega)
  rw [br_f (decide_eq_false g0), ih]
  by_cases g2 : x.Session > 9
  ·rw [br_t (decide_eq_true g2), decide_eq_false (by omega)]; rfl
  rw [br_f (decide_eq_false g2)]
  have tl : p < x.Session → (br (decide (x.Seq < 1)) (some (.inr ())) (br (decide (x.Seq > 1000)) (some (.inr ())) (br (decide (x.Pos < 1)) (some (.inr ())) (br (decide (x.Pos > s.Done)) (some (.inr ())) (some (bif seP s.Done x.Session r then .inl () else .inr ())))))) = some (bif decide (p < x.Session ∧ x.Session ≤ 9 ∧ 1 ≤ x.Seq ∧ x.Seq ≤ 1000 ∧ 1 ≤ x.Pos ∧ x.Pos ≤ s.Done) && seP s.Done x.Session r then (.inl () : Unit ⊕ Unit) else .inr ()) := fun g1 => by
   by_cases h3 : x.Seq < 1
   ·rw [br_t (decide_eq_true h3), decide_eq_false (by omega)]; rfl
   rw [br_f (decide_eq_false h3)]
   by_cases h4 : x.Seq > 1000
   ·rw [br_t (decide_eq_true h4), decide_eq_false (by omega)]; rfl
   rw [br_f (decide_eq_false h4)]
   by_cases h5 : x.Pos < 1
   ·rw [br_t (decide_eq_true h5), decide_eq_false (by omega)]; rfl
   rw [br_f (decide_eq_false h5)]
   by_cases h6 : x.Pos > s.Done
   ·rw [br_t (decide_eq_true h6), decide_eq_false (by omega)]; rfl
   rw [br_f (decide_eq_false h6), decide_eq_true (by omega)]; rfl
  rcases List.eq_nil_or_concat q with hq | ⟨q', y, hq⟩
  ·have hp := h1 hq
   rw [br_f (decide_eq_false (by rw [hq]; simp))]
   exact tl (by omega)
  ·rw [List.concat_eq_append] at hq
   have hp := h2 y q' hq
   have hql : q.length = q'.length + 1 := by rw [hq]; simp
   have ew2 : w64 ((q.length : Int) - 1) = (q'.length : Int) := by rw [w64_id (by omega) (by omega)]; omega
   have hy : s.Seats[q'.length]? = some y := by rw [e, hq]; simp
   rw [br_t (decide_eq_true (by omega)), ew2, ix_n hy]
   by_cases g3 : x.Session ≤ y.Session
   ·rw [br_t (decide_eq_true g3), decide_eq_false (by omega)]; rfl
   ·rw [br_f (decide_eq_false g3)]
    exact tl (by omega)
theorem rbits_lp (fu : Nat) (s : TShard) (D : Nat) (hD : s.Done = (D : Int)) (hd : D ≤ 1000000) : ∀ (r t q p : List Int) (n : Nat), s.Bits = q ++ r → s.Said = p ++ t → q.length = p.length → r.length = t.length → s.Bits.length = D → r.length < n → diwanref13_MayShard.lp13 fu s n (q.length : Int) = some (bif inR 0 2 r && inR 1 4 t then .inl () else .inr ())
 | [], t, q, p, n, e, e2, hq, hr, hb, hn => by
  obtain ⟨n, rfl⟩ : ∃ m, n = m + 1 := ⟨n - 1, by omega⟩
  have ht : t = [] := List.length_eq_zero_iff.1 hr.symm
  subst ht
  rw [diwanref13_MayShard.lp13, br_f (decide_eq_false (by rw [hD, ← hb, e]; simp))]; rfl
 | v :: r, t, q, p, n, e, e2, hq, hr, hb, hn => by
  obtain ⟨n, rfl⟩ : ∃ m, n = m + 1 := ⟨n - 1, by omega⟩
  obtain ⟨u, t, rfl⟩ : ∃ u t', t = u :: t' := by cases t with
   | nil => simp at hr
   | cons u t => exact ⟨u, t, rfl⟩
  have ih := rbits_lp fu s D hD hd r t (q ++ [v]) (p ++ [u]) n (by rw [e]; simp) (by rw [e2]; simp) (by simp [hq]) (by simpa using hr) hb (by simp at hn; omega)
  have hlen : s.Bits.length = q.length + 1 + r.length := by rw [e]; simp; omega
  have hx : s.Bits[q.length]? = some v := by rw [e]; simp
  have hy : s.Said[q.length]? = some u := by rw [e2, hq]; simp
  have ew : w64 ((q.length : Int) + 1) = ((q ++ [v]).length : Int) := by rw [w64_id (by omega) (by omega)]; simp
  rw [diwanref13_MayShard.lp13, br_t (decide_eq_true (by omega)), ix_n hx, ix_n hx, ix_n hy, ix_n hy, ew, ih]
  have s1 : inR 0 2 (v :: r) = (decide (0 ≤ v ∧ v ≤ 2) && inR 0 2 r) := by simp [inR]
  have s2 : inR 1 4 (u :: t) = (decide (1 ≤ u ∧ u ≤ 4) && inR 1 4 t) := by simp [inR]
  rw [s1, s2]
  by_cases h1 : v < 0
  ·rw [br_t (decide_eq_true h1), decide_eq_false (p := 0 ≤ v ∧ v ≤ 2) (by omega)]; rfl
  rw [br_f (decide_eq_false h1)]
  by_cases h2 : v > 2
  ·rw [br_t (decide_eq_true h2), decide_eq_false (p := 0 ≤ v ∧ v ≤ 2) (by omega)]; rfl
  rw [br_f (decide_eq_false h2), decide_eq_true (p := 0 ≤ v ∧ v ≤ 2) (by omega), Bool.true_and]
  by_cases h3 : u < 1
  ·rw [br_t (decide_eq_true h3), decide_eq_false (p := 1 ≤ u ∧ u ≤ 4) (by omega), Bool.false_and, Bool.and_false]; rfl
  rw [br_f (decide_eq_false h3)]
  by_cases h4 : u > 4
  ·rw [br_t (decide_eq_true h4), decide_eq_false (p := 1 ≤ u ∧ u ≤ 4) (by omega), Bool.false_and, Bool.and_false]; rfl
  rw [br_f (decide_eq_false h4), decide_eq_true (p := 1 ≤ u ∧ u ≤ 4) (by omega), Bool.true_and]
theorem may_last {p d : Int} : ∀ {l : List TVersion}, may p l = true → l ≠ [] → upTo d l = decide (last l ≤ d) := fun {l} h hne => by
 rcases List.eq_nil_or_concat l with e | ⟨q, u, hu⟩
 ·exact absurd e hne
 rw [List.concat_eq_append] at hu
 subst hu
 rw [last_snoc]
 by_cases g : u.Pos ≤ d
 ·rw [decide_eq_true g]
  refine List.all_eq_true.2 fun v hv => decide_eq_true ?_
  rcases List.mem_append.1 hv with k | k
  ·have := (may_rise h (A := q) (v := u) (B := []) rfl).2 v k
   omega
  ·rw [List.mem_singleton.1 k]; exact g
 ·rw [decide_eq_false g]
  exact List.all_eq_false.2 ⟨u, by simp, by simpa using g⟩
theorem rchains_lp (fu N : Nat) (s : TShard) (hs : 1 ≤ s.Shards ∧ s.Shards ≤ 3) (hN : N ≤ 1000000) (hd : 0 ≤ s.Done) : ∀ (r q : List TChain) (n : Nat), s.S.Chains = q ++ r → s.S.Chains.length ≤ 1000000 → (∀ c ∈ r, (c.Key.size ≤ 1000000 ∧ c.Key.size < fu) ∧ c.L.length ≤ N ∧ may 0 c.L = true) → r.length < n → diwanref13_MayShard.lp25 fu s n (q.length : Int) = some (bif r.all (ours fu s) then .inl () else .inr ())
 | [], q, n, e, hl, hc, hn => by
  obtain ⟨n, rfl⟩ : ∃ m, n = m + 1 := ⟨n - 1, by omega⟩
  simp only [List.append_nil] at e
  rw [diwanref13_MayShard.lp25, br_f (by rw [e]; exact nlt_end _)]; rfl
 | c :: r, q, n, e, hl, hc, hn => by
  obtain ⟨n, rfl⟩ : ∃ m, n = m + 1 := ⟨n - 1, by omega⟩
  have ih := rchains_lp fu N s hs hN hd r (q ++ [c]) n (by rw [e]; simp) hl (fun c h => hc c (by simp [h])) (by simp at hn; omega)
  have hlen : s.S.Chains.length = q.length + 1 + r.length := by rw [e]; simp; omega
  have hx : s.S.Chains[q.length]? = some c := by rw [e]; simp
  have ew : w64 ((q.length : Int) + 1) = ((q ++ [c]).length : Int) := by rw [w64_id (by omega) (by omega)]; simp
  obtain ⟨k1, k2, k3⟩ := hc c (by simp)
  have hu : upTo s.Done c.L = decide (last c.L ≤ s.Done) := by
   by_cases hne : c.L = []
   ·rw [hne]; show true = decide ((0 : Int) ≤ s.Done); rw [decide_eq_true hd]
   ·exact may_last k3 hne
  rw [diwanref13_MayShard.lp25, br_t (decide_eq_true (by omega)), ix_n hx, bd_s (shard_e hs k1.1 k1.2).1, bd_s (rlast_e (by omega)), ew, ih, List.all_cons]
  unfold ours
  rw [hu]
  by_cases g : shN fu c.Key s.Shards = s.ID
  ·rw [g, br_f (by simp), beq_self_eq_true, Bool.true_and]
   by_cases g2 : last c.L ≤ s.Done
   ·rw [br_f (decide_eq_false (by omega)), decide_eq_true g2]; rfl
   ·rw [br_t (decide_eq_true (by omega)), decide_eq_false g2]; rfl
  ·rw [br_t (by simpa using g), beq_eq_false_iff_ne.2 g]; rfl
structure MayF (fu : Nat) (s : TShard) : Prop where
 sh : 1 ≤ s.Shards ∧ s.Shards ≤ 3
 id : 0 ≤ s.ID ∧ s.ID < s.Shards
 bl : (s.Bits.length : Int) = s.Done
 sl : (s.Said.length : Int) = s.Done
 bi : inR 0 2 s.Bits = true
 sa : inR 1 4 s.Said = true
 ch : ∀ c ∈ s.S.Chains, may 0 c.L = true ∧ ours fu s c = true
 mark : 0 ≤ s.S.Mark
 se : seP s.Done 0 s.Seats = true
theorem may_eq {fu N : Nat} {s : TShard} (hm : Sml N s.S.Chains) (hk : ∀ c ∈ s.S.Chains, c.Key.size ≤ 1000000 ∧ c.Key.size < fu) (hN : N < fu) (hN' : N ≤ 1000000) (hb : s.Bits.length ≤ 1000000 ∧ s.Bits.length < fu) (hsd : s.Said.length ≤ 1000000 ∧ s.Said.length < fu) (hse : s.Seats.length ≤ 1000000 ∧ s.Seats.length < fu) :
  ∃ b, shard_May fu s = some b ∧ diwanref13_MayShard fu s = some b ∧ (b = true → MayF fu s) := by
 unfold shard_May diwanref13_MayShard
 have no : ∀ {P : Prop}, (false = true → P) := fun h => by cases h
 by_cases h1 : s.Shards < 1
 ·rw [br_f (decide_eq_false (by omega)), br_t (decide_eq_true h1)]; exact ⟨_, rfl, rfl, no⟩
 rw [br_t (decide_eq_true (by omega)), br_f (decide_eq_false h1)]
 by_cases h2 : s.Shards > 3
 ·rw [br_f (decide_eq_false (by omega)), br_t (decide_eq_true h2)]; exact ⟨_, rfl, rfl, no⟩
 rw [br_t (decide_eq_true (by omega)), br_f (decide_eq_false h2)]
 by_cases h3 : s.ID < 0
 ·rw [br_f (decide_eq_false (by omega)), br_t (decide_eq_true h3)]; exact ⟨_, rfl, rfl, no⟩
 rw [br_t (decide_eq_true (by omega)), br_f (decide_eq_false h3)]
 by_cases h4 : s.ID ≥ s.Shards
 ·rw [br_f (decide_eq_false (by omega)), br_t (decide_eq_true h4)]; exact ⟨_, rfl, rfl, no⟩
 rw [br_t (decide_eq_true (by omega)), br_f (decide_eq_false h4)]
 by_cases h5 : s.Done < 0
 ·rw [br_f (decide_eq_false (by omega)), br_t (decide_eq_true h5)]; exact ⟨_, rfl, rfl, no⟩
 rw [br_t (decide_eq_true (by omega)), br_f (decide_eq_false h5)]
 by_cases h6 : ¬ (s.Bits.length : Int) = s.Done
 ·rw [br_f (beq_eq_false_iff_ne.2 h6), br_t (bne_iff_ne.2 h6)]; exact ⟨_, rfl, rfl, no⟩
 have hsh : 1 ≤ s.Shards ∧ s.Shards ≤ 3 := by omega
 have h6 := Decidable.not_not.1 h6
 rw [br_t (beq_iff_eq.2 h6), br_f (b := (s.Bits.length : Int) != s.Done) (by simp [h6]), bd_s (show shard_May_1 0 2 = some () from rfl), bd_s (cfi_e 0 2 hb.1 hb.2), Bool.not_not]
 by_cases h7 : ¬ (s.Said.length : Int) = s.Done
 ·rw [br_t (b := (s.Said.length : Int) != s.Done) (bne_iff_ne.2 h7)]
  cases inR 0 2 s.Bits
  ·exact ⟨false, rfl, rfl, no⟩
  ·rw [br_t rfl, br_f (beq_eq_false_iff_ne.2 h7)]; exact ⟨false, rfl, rfl, no⟩
 have h7 := Decidable.not_not.1 h7
 obtain ⟨D, hD⟩ := Int.eq_ofNat_of_zero_le (show 0 ≤ s.Done by omega)
 obtain ⟨b, q1, q2, q3⟩ := mayS_eq hm hk hN hN'
 have r1 := rbits_lp fu s D hD (by omega) s.Bits s.Said [] [] fu rfl rfl rfl (by omega) (by omega) hb.2
 simp only [List.length_nil, Int.natCast_zero] at r1
 rw [br_f (b := (s.Said.length : Int) != s.Done) (by simp [h7]), bd_s q2, r1]
 have h7' : ((s.Said.length : Int) == s.Done) = true := beq_iff_eq.2 h7
 cases hb1 : inR 0 2 s.Bits
 ·rw [br_f (b := false) rfl]
  cases b
  ·exact ⟨false, rfl, rfl, no⟩
  ·exact ⟨false, rfl, rfl, no⟩
 rw [br_t (b := true) rfl, br_t h7', bd_s (show shard_May_1 1 4 = some () from rfl), bd_s (cfi_e 1 4 hsd.1 hsd.2), Bool.not_not]
 cases hb2 : inR 1 4 s.Said
 ·rw [br_f (b := false) rfl]
  cases b
  ·exact ⟨false, rfl, rfl, no⟩
  ·exact ⟨false, rfl, rfl, no⟩
 rw [br_t (b := true) rfl, bd_s q1]
 cases b
 ·exact ⟨false, rfl, rfl, no⟩
 obtain ⟨q4, q5⟩ := q3 rfl
 have r2 := rchains_lp fu N s hsh hN' (by omega) s.S.Chains [] fu rfl (by have := hm.1; omega) (fun c hc => ⟨hk c hc, hm.2 c hc, q4 c hc⟩) (by have := hm.1; omega)
 have r3 := rseats_lp fu s s.Seats [] 0 fu rfl (fun _ => rfl) (fun y q' g => by simp at g) (Int.le_refl _) hse.1 hse.2
 simp only [List.length_nil, Int.natCast_zero] at r2 r3
 rw [br_t (b := true) rfl, bd_s (cfc_e hsh hm hk hN hN'), Bool.not_not, br_f (b := !true) rfl]
 rw [bd_s rfl, r2, r3]
 cases hc : s.S.Chains.all (ours fu s)
 ·exact ⟨false, rfl, rfl, no⟩
 rw [br_t (b := true) rfl, bd_s (seats_e hse.1 hse.2)]
 dsimp only [cond_true]
 rw [bd_s rfl]
 dsimp only
 cases hs : seP s.Done 0 s.Seats
 ·exact ⟨false, rfl, rfl, no⟩
 ·exact ⟨true, rfl, rfl, fun _ => ⟨hsh, by omega, h6, h7, hb1, hb2, fun c hc' => ⟨q4 c hc', List.all_eq_true.1 hc c hc'⟩, q5, hs⟩⟩
end Go.Proofs.Ythjpcfbfiaenaaa.Told.SV
