/- The places of a log, in the order: they are those of its entries that are no Seals, one behind the other. -/
import Derived.Test.YtepaajbkmkclnaaTMs
namespace Go.Proofs.Ytepaajbkmkclnaa.Told.MH
open Go Go.Proofs.Ytepaajbkmkclnaa.Vam Go.Proofs.Ytepaajbkmkclnaa.Told Go.Proofs.Ytepaajbkmkclnaa.Told.EP Go.Proofs.Ytepaajbkmkclnaa.Told.PK Go.Proofs.Ytepaajbkmkclnaa.Ep
set_option linter.unusedSimpArgs false
set_option linter.unusedVariables false
abbrev sealsOf' (l : List TEntry) : List Bool := sealsOf l
theorem ns_next : ∀ (xs : List Bool) (o : Nat) (q : List Int) (i : Int), q ++ [i] <+: ns o xs → (o : Int) ≤ q.getLastD o ∧ q.getLastD o < i ∧ i ≤ o + xs.length ∧ xs.getD (i - 1 - o).toNat true = false ∧ ∀ k : Int, q.getLastD o < k → k < i → xs.getD (k - 1 - o).toNat false = true
 | [], o, q, i, h => by
  have := h.length_le
  simp [ns] at this
 | true :: xs, o, q, i, h => by
  obtain ⟨h0, h1, h2, h3, h4⟩ := ns_next xs (o + 1) q i h
  have hl : q.getLastD (o : Int) ≤ q.getLastD ((o + 1 : Nat) : Int) ∧ (q ≠ [] → q.getLastD (o : Int) = q.getLastD ((o + 1 : Nat) : Int)) ∧ (o : Int) ≤ q.getLastD (o : Int) := by
   cases q with
   | nil => exact ⟨by show (o : Int) ≤ ((o + 1 : Nat) : Int); omega, fun g => absurd rfl g, Int.le_refl _⟩
   | cons a q => 
    have : (a :: q).getLastD (o : Int) = (a :: q).getLastD ((o + 1 : Nat) : Int) := by simp only [List.getLastD_cons]
    exact ⟨by rw [this]; exact Int.le_refl _, fun _ => this, by rw [this]; omega⟩
  refine ⟨hl.2.2, by omega, by simp only [List.length_cons]; omega, ?_, fun k hk hki => ?_⟩
  ·rw [show (i - 1 - (o : Int)).toNat = (i - 1 - ((o + 1 : Nat) : Int)).toNat + 1 by omega, List.getD_cons_succ]; exact h3
  ·rcases Int.lt_or_le ((o + 1 : Nat) : Int) k with g | g
   ·rw [show (k - 1 - (o : Int)).toNat = (k - 1 - ((o + 1 : Nat) : Int)).toNat + 1 by omega, List.getD_cons_succ]
    refine h4 k ?_ hki
    cases q with
    | nil => exact g
    | cons a q => rw [← hl.2.1 (by simp)]; exact hk
   ·have hz : (k - 1 - (o : Int)).toNat = 0 := by omega
    rw [hz]; rfl
 | false :: xs, o, q, i, h => by
  cases q with
  | nil =>
   have hi : i = (o : Int) + 1 := by
    obtain ⟨t, ht⟩ := h
    simp only [ns, List.nil_append, List.cons_append, List.cons.injEq] at ht
    exact ht.1
   subst hi
   refine ⟨Int.le_refl _, by show (o : Int) < _; omega, by simp only [List.length_cons]; omega, by rw [show ((o : Int) + 1 - 1 - o).toNat = 0 by omega]; rfl, fun k hk hki => ?_⟩
   have : (o : Int) < k := hk
   omega
  | cons a q =>
   obtain ⟨t, ht⟩ := h
   simp only [ns, List.cons_append, List.cons.injEq] at ht
   obtain ⟨ha, ht⟩ := ht
   obtain ⟨h0, h1, h2, h3, h4⟩ := ns_next xs (o + 1) q i ⟨t, ht⟩
   have hl : (a :: q).getLastD (o : Int) = q.getLastD ((o + 1 : Nat) : Int) := by rw [List.getLastD_cons, ha]; rfl
   rw [hl]
   refine ⟨by omega, h1, by simp only [List.length_cons]; omega, ?_, fun k hk hki => ?_⟩
   ·rw [show (i - 1 - (o : Int)).toNat = (i - 1 - ((o + 1 : Nat) : Int)).toNat + 1 by omega, List.getD_cons_succ]; exact h3
   ·rw [show (k - 1 - (o : Int)).toNat = (k - 1 - ((o + 1 : Nat) : Int)).toNat + 1 by omega, List.getD_cons_succ]
    exact h4 k hk hki
theorem seal_at {l : List TEntry} {i : Nat} {e : TEntry} (h : l[i]? = some e) : (sealsOf' l).getD i false = e.Seal := by
 unfold sealsOf' sealsOf
 rw [List.getD_eq_getElem?_getD, List.getElem?_map, h]; rfl
theorem seal_at' {l : List TEntry} {i : Nat} {e : TEntry} (h : l[i]? = some e) : (sealsOf' l).getD i true = e.Seal := by
 unfold sealsOf' sealsOf
 rw [List.getD_eq_getElem?_getD, List.getElem?_map, h]; rfl
def fi (p : Nat) (l : List TPlace) : List Int := (l.filter fun x => x.Part == (p : Int)).map fun x => x.Index
theorem fi_app (p : Nat) (a b : List TPlace) : fi p (a ++ b) = fi p a ++ fi p b := by simp [fi]
theorem fi_plc (L : List (List TEntry)) (p r : Nat) (b : List Int) : fi p (plc L r b) = if r = p then b else [] := by
 unfold fi plc
 rw [List.filter_map, List.map_map]
 by_cases h : r = p
 ·subst h
  rw [if_pos rfl]
  have : List.filter ((fun x => x.Part == (r : Int)) ∘ fun i => TPlace.mk (r : Int) i (enT (lg L r) i)) b = b := List.filter_eq_self.2 fun i _ => by simp
  rw [this]
  exact List.map_id b
 ·rw [if_neg h]
  have : List.filter ((fun x => x.Part == (p : Int)) ∘ fun i => TPlace.mk (r : Int) i (enT (lg L r) i)) b = [] := List.filter_eq_nil_iff.2 fun i _ => by simp; omega
  rw [this]; rfl
def cn (n p t : Nat) : Nat := t / n + if p < t % n then 1 else 0
theorem cn_succ {n p t : Nat} (h0 : 0 < n) (hp : p < n) : (t % n = p → cn n p t = t / n ∧ cn n p (t + 1) = t / n + 1) ∧ (t % n ≠ p → cn n p (t + 1) = cn n p t) := by
 have h1 := Nat.div_add_mod t n
 have h2 := Nat.mod_lt t h0
 unfold cn
 rcases Nat.lt_or_ge (t % n + 1) n with h | h
 ·obtain ⟨e1, e2⟩ := dm (n := n) (b := t / n) (p := t % n + 1) h
  have e3 : n * (t / n) + (t % n + 1) = t + 1 := by omega
  rw [e3] at e1 e2
  rw [e1, e2]
  refine ⟨fun g => ⟨by rw [if_neg (by omega)]; rfl, by rw [if_pos (by omega)]⟩, fun g => ?_⟩
  by_cases c : p < t % n
  ·rw [if_pos c, if_pos (by omega)]
  ·rw [if_neg c, if_neg (by omega)]
 ·obtain ⟨e1, e2⟩ := dm (n := n) (b := t / n + 1) (p := 0) h0
  have e3 : n * (t / n + 1) + 0 = t + 1 := by rw [Nat.mul_add, Nat.mul_one]; omega
  rw [e3] at e1 e2
  rw [e1, e2]
  refine ⟨fun g => ⟨by rw [if_neg (by omega)]; rfl, by rw [if_neg (by omega)]⟩, fun g => ?_⟩
  rw [if_neg (by omega), if_pos (by omega)]
theorem ord_take {L : List (List TEntry)} (h : LG L) {p : Nat} (hp : p < L.length) : ∀ t, (∀ u, u + 1 < t → ¬ stp L u) → fi p (ord L t) = ((cu L p).take (cn L.length p t)).flatten
 | 0, _ => by
  unfold cn
  rw [Nat.zero_div, Nat.zero_mod, if_neg (by omega)]; rfl
 | t + 1, hno => by
  have h0 : 0 < L.length := h.n1.1
  rw [ord_succ, fi_app, ord_take h hp t (fun u hu => hno u (by omega)), fi_plc]
  obtain ⟨c1, c2⟩ := cn_succ (t := t) h0 hp
  by_cases c : t % L.length = p
  ·obtain ⟨d1, d2⟩ := c1 c
   have hb := bat_get h (t := t) (fun u hu => hno u (by omega))
   rw [c] at hb
   rw [if_pos c, d1, d2, List.take_add_one, hb]
   simp
  ·rw [if_neg c, c2 c, List.append_nil]
theorem ord_fi {L : List (List TEntry)} (h : LG L) {p t : Nat} (hp : p < L.length) (hno : ∀ u, u + 1 < t → ¬ stp L u) : fi p (ord L t) <+: ns 0 (sealsOf' (lg L p)) := by
 rw [ord_take h hp t hno]
 have : ns 0 (sealsOf' (lg L p)) = (cu L p).flatten := (cut_flat _).symm
 rw [this]
 refine ⟨((cu L p).drop (cn L.length p t)).flatten, ?_⟩
 rw [← List.flatten_append, List.take_append_drop]
theorem first_lp (fu : Nat) (s q : Int) (l : List TPlace) (hl : l.length ≤ 1000000) (m : Nat) (hm : ∀ x ∈ l.take m, x.T.Session ≠ s) : ∀ (d i n : Nat), i + d = l.length → d < n → ∃ o, slices_IndexFunc_api_Place.lp3 fu l (l.length : Int) s q n (i : Int) = some o ∧ (o = .inl () ∨ ∃ v : Nat, o = .inr (v : Int) ∧ m ≤ v ∧ v < l.length)
 | 0, i, n, hi, hn => by
  obtain ⟨n, rfl⟩ : ∃ m, n = m + 1 := ⟨n - 1, by omega⟩
  rw [slices_IndexFunc_api_Place.lp3, br_f (decide_eq_false (by omega))]
  exact ⟨_, rfl, .inl rfl⟩
 | d + 1, i, n, hi, hn => by
  obtain ⟨n, rfl⟩ : ∃ m, n = m + 1 := ⟨n - 1, by omega⟩
  have hx : l[i]? = some l[i] := List.getElem?_eq_getElem (by omega)
  have hw : w64 ((i : Int) + 1) = ((i + 1 : Nat) : Int) := by rw [w64_id (by omega) (by omega)]; omega
  have ih := first_lp fu s q l hl m hm d (i + 1) n (by omega) (by omega)
  rw [slices_IndexFunc_api_Place.lp3, br_t (decide_eq_true (by omega)), ix_n hx, hw]
  unfold merge_First_1
  by_cases c : l[i].T.Session = s
  ·rw [br_t (by simpa using c), bd_s rfl]
   cases (l[i].T.Seq == q)
   ·rw [br_f rfl]; exact ih
   ·rw [br_t rfl]
    refine ⟨_, rfl, .inr ⟨i, rfl, ?_, by omega⟩⟩
    rcases Nat.lt_or_ge i m with g | g
    ·exact absurd c (hm _ (List.mem_of_getElem? (i := i) (by rw [List.getElem?_take_of_lt g]; exact hx)))
    ·exact g
  ·rw [br_f (by simpa using c), bd_s rfl, br_f rfl]; exact ih
theorem first_e {fu : Nat} {l : List TPlace} {s q : Int} {m : Nat} (hl : l.length ≤ 1000000) (hf : l.length < fu) (hm : ∀ x ∈ l.take m, x.T.Session ≠ s) : ∃ v, merge_First fu l s q = some v ∧ (v = 0 ∨ v > (m : Int)) := by
 obtain ⟨o, h1, h2⟩ := first_lp fu s q l hl m hm l.length 0 fu (by omega) hf
 simp only [Int.natCast_zero] at h1
 unfold merge_First slices_IndexFunc_api_Place
 rw [h1]
 rcases h2 with rfl | ⟨v, rfl, g1, g2⟩
 ·refine ⟨0, rfl, .inl rfl⟩
 ·refine ⟨(v : Int) + 1, ?_, .inr (by omega)⟩
  refine (bd_s (x := (v : Int)) rfl).trans ?_
  rw [w64_id (by omega) (by omega), Int.add_comm]
end Go.Proofs.Ytepaajbkmkclnaa.Told.MH
