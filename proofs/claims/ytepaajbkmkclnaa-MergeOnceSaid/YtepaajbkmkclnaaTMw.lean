/- The walk through batches, log by log: what merge.All and merge.Head come to. -/
import Derived.Test.YtepaajbkmkclnaaTMh
import Derived.Test.YtepaajbkmkclnaaTEp
namespace Go.Proofs.Ytepaajbkmkclnaa.Told.MH
open Go Go.Proofs.Ytepaajbkmkclnaa.Vam Go.Proofs.Ytepaajbkmkclnaa.Told Go.Proofs.Ytepaajbkmkclnaa.Told.EP Go.Proofs.Ytepaajbkmkclnaa.Ep
set_option linter.unusedSimpArgs false
set_option linter.unusedVariables false
def ns : Nat → List Bool → List Int
 | _, [] => []
 | o, true :: xs => ns (o + 1) xs
 | o, false :: xs => ((o : Int) + 1) :: ns (o + 1) xs
theorem ns_bd : ∀ (xs : List Bool) (o : Nat) (i : Int), i ∈ ns o xs → (o : Int) < i ∧ i ≤ o + xs.length
 | [], o, i, h => by simp [ns] at h
 | true :: xs, o, i, h => by
  have := ns_bd xs (o + 1) i h
  simp only [List.length_cons]; omega
 | false :: xs, o, i, h => by
  rcases List.mem_cons.1 h with h | h
  ·simp only [List.length_cons]; omega
  ·have := ns_bd xs (o + 1) i h
   simp only [List.length_cons]; omega
theorem stepR_app (A : List (List Int)) (b : List Int) (p : Int) : stepR (A ++ [b]) p false = A ++ [b ++ [p]] := by
 unfold stepR rd_L9
 have e1 : (A ++ [b]).length - 1 = A.length := by simp
 have e2 : (((A ++ [b]).length : Int) - 1).toNat = A.length := by simp
 rw [cond_false, e1, e2, List.getD_eq_getElem?_getD]
 have e3 : (A ++ [b])[A.length]? = some b := by simp
 rw [e3, List.set_append_right _ _ (Nat.le_refl _)]
 simp
theorem split_last {α : Type} : ∀ (l : List α), 0 < l.length → ∃ A b, l = A ++ [b]
 | l, h => ⟨l.dropLast, l.getLast (by intro e; subst e; simp at h), (List.dropLast_concat_getLast _).symm⟩
theorem run_flat : ∀ (xs : List Bool) (i : Nat) (rows : List (List Int)), 0 < rows.length → (runR i xs rows).flatten = rows.flatten ++ ns i xs
 | [], i, rows, h => by simp [runR, ns]
 | true :: xs, i, rows, h => by
  show (runR (i + 1) xs (stepR rows ((i : Int) + 1) true)).flatten = _
  rw [run_flat xs (i + 1) _ (by simp [stepR])]
  simp [stepR, ns]
 | false :: xs, i, rows, h => by
  obtain ⟨A, b, rfl⟩ := split_last rows h
  show (runR (i + 1) xs (stepR (A ++ [b]) ((i : Int) + 1) false)).flatten = _
  rw [stepR_app, run_flat xs (i + 1) _ (by simp)]
  simp [ns]
theorem cut_flat (l : List TEntry) : (cutB l).flatten = ns 0 (sealsOf l) := by
 unfold cutB
 rw [run_flat _ _ _ (by simp)]; simp
theorem cut_snoc (l : List TEntry) (e : TEntry) : cutB (l ++ [e]) = stepR (cutB l) ((l.length : Int) + 1) e.Seal := by
 have : sealsOf (l ++ [e]) = sealsOf l ++ [e.Seal] := by simp [sealsOf]
 unfold cutB
 rw [this, runR_snoc]
 simp [sealsOf]
def lg (L : List (List TEntry)) (p : Nat) : List TEntry := L.getD p []
def cu (L : List (List TEntry)) (p : Nat) : List (List Int) := cutB (lg L p)
def bat (L : List (List TEntry)) (t : Nat) : List Int := (cu L (t % L.length)).getD (t / L.length) []
def stp (L : List (List TEntry)) (t : Nat) : Prop := t / L.length + 1 = (cu L (t % L.length)).length
instance (L : List (List TEntry)) (t : Nat) : Decidable (stp L t) := inferInstanceAs (Decidable (_ = _))
abbrev noE : TEntry := TEntry.mk 0 false (TTxn.mk 0 0 [] [])
def enT (l : List TEntry) (i : Int) : TTxn := (l.getD (i - 1).toNat noE).T
def plc (L : List (List TEntry)) (p : Nat) (b : List Int) : List TPlace := b.map fun i => TPlace.mk (p : Int) i (enT (lg L p) i)
def ord (L : List (List TEntry)) (t : Nat) : List TPlace := (List.range t).flatMap fun u => plc L (u % L.length) (bat L u)
theorem ord_succ (L : List (List TEntry)) (t : Nat) : ord L (t + 1) = ord L t ++ plc L (t % L.length) (bat L t) := by
 unfold ord; rw [List.range_succ, List.flatMap_append]; simp
structure LG (L : List (List TEntry)) : Prop where
 n1 : 1 ≤ L.length ∧ L.length ≤ 3
 sz : ∀ l ∈ L, l.length ≤ 16
 sm : ∀ l ∈ L, ∀ e ∈ l, e.T.Reads.length ≤ 10 ∧ e.T.Writes.length ≤ 10
section
variable {L : List (List TEntry)}
theorem lg_get {p : Nat} (h : p < L.length) : L[p]? = some (lg L p) := by
 unfold lg
 rw [List.getD_eq_getElem?_getD, List.getElem?_eq_getElem h]; rfl
theorem lg_mem {p : Nat} (h : p < L.length) : lg L p ∈ L := List.mem_of_getElem? (lg_get h)
theorem dm {n b p : Nat} (h : p < n) : (n * b + p) / n = b ∧ (n * b + p) % n = p := by
 have h0 : 0 < n := by omega
 exact ⟨by rw [Nat.mul_add_div h0, Nat.div_eq_of_lt h, Nat.add_zero], by rw [Nat.mul_add_mod, Nat.mod_eq_of_lt h]⟩
theorem cu_pos (p : Nat) : 0 < (cu L p).length := (cut_len _).1
theorem stp_ex (h : LG L) : ∃ D, stp L D ∧ (∀ t, t < D → ¬ stp L t) ∧ D ≤ 48 := by
 have h0 : 0 < L.length := h.n1.1
 have hs : stp L (L.length * ((cu L 0).length - 1) + 0) := by
  unfold stp
  obtain ⟨e1, e2⟩ := dm (n := L.length) (b := (cu L 0).length - 1) (p := 0) h0
  have := cu_pos (L := L) 0
  rw [e1, e2]; omega
 have hle : L.length * ((cu L 0).length - 1) + 0 ≤ 48 := by
  have h1 := (cut_len (lg L 0)).2.1
  have h2 := h.sz _ (lg_mem (L := L) (p := 0) h0)
  have h3 : (cu L 0).length - 1 ≤ 16 := by unfold cu; omega
  have h4 := h.n1.2
  have := Nat.mul_le_mul h4 h3
  omega
 have least : ∀ m, ∀ D, D ≤ m → stp L D → ∃ E, stp L E ∧ (∀ t, t < E → ¬ stp L t) ∧ E ≤ D := by
  intro m
  induction m with
  | zero => exact fun D hD hs => ⟨D, hs, fun t ht => by omega, Nat.le_refl _⟩
  | succ m ih =>
   intro D hD hs
   by_cases hx : ∃ t, t < D ∧ stp L t
   ·obtain ⟨t, ht, hts⟩ := hx
    obtain ⟨E, e1, e2, e3⟩ := ih t (by omega) hts
    exact ⟨E, e1, e2, by omega⟩
   ·exact ⟨D, hs, fun t ht hst => hx ⟨t, ht, hst⟩, Nat.le_refl _⟩
 obtain ⟨E, e1, e2, e3⟩ := least _ _ (Nat.le_refl _) hs
 exact ⟨E, e1, e2, by omega⟩
theorem bat_in {t : Nat} (h : LG L) (hno : ∀ u, u < t → ¬ stp L u) : t / L.length < (cu L (t % L.length)).length := by
 have h0 : 0 < L.length := h.n1.1
 rcases Nat.lt_or_ge (t / L.length) (cu L (t % L.length)).length with hc | hc
 ·exact hc
 exfalso
 have hp : t % L.length < L.length := Nat.mod_lt _ h0
 have hL := cu_pos (L := L) (t % L.length)
 obtain ⟨e1, e2⟩ := dm (n := L.length) (b := (cu L (t % L.length)).length - 1) (p := t % L.length) hp
 have hlt : L.length * ((cu L (t % L.length)).length - 1) < L.length * (t / L.length) := Nat.mul_lt_mul_of_pos_left (by omega) h0
 have ht := Nat.div_add_mod t L.length
 refine hno (L.length * ((cu L (t % L.length)).length - 1) + t % L.length) (by omega) ?_
 unfold stp
 rw [e1, e2]; omega
theorem bat_get {t : Nat} (h : LG L) (hno : ∀ u, u < t → ¬ stp L u) : (cu L (t % L.length))[t / L.length]? = some (bat L t) := by
 have := bat_in h hno
 unfold bat
 rw [List.getD_eq_getElem?_getD, List.getElem?_eq_getElem this]; rfl
theorem bat_mem (t : Nat) : ∀ i ∈ bat L t, i ∈ ns 0 (sealsOf (lg L (t % L.length))) := by
 intro i hi
 rw [← cut_flat]
 unfold bat at hi
 rw [List.getD_eq_getElem?_getD] at hi
 cases hx : (cu L (t % L.length))[t / L.length]? with
 | none => rw [hx] at hi; cases hi
 | some b =>
  rw [hx] at hi
  exact List.mem_flatten.2 ⟨b, List.mem_of_getElem? hx, hi⟩
theorem bat_bd {t : Nat} : ∀ i ∈ bat L t, 1 ≤ i ∧ i ≤ ((lg L (t % L.length)).length : Int) := by
 intro i hi
 have := ns_bd _ _ _ (bat_mem t i hi)
 simp [sealsOf] at this; omega
theorem bat_len (h : LG L) (t : Nat) : (bat L t).length ≤ 16 := by
 have h0 : 0 < L.length := h.n1.1
 have h2 := h.sz _ (lg_mem (L := L) (p := t % L.length) (Nat.mod_lt _ h0))
 unfold bat
 rw [List.getD_eq_getElem?_getD]
 cases hx : (cu L (t % L.length))[t / L.length]? with
 | none => simp
 | some b =>
  have := (cut_len (lg L (t % L.length))).2.2 b (List.mem_of_getElem? hx)
  simp; omega
theorem ord_len (h : LG L) : ∀ t, (ord L t).length ≤ 16 * t
 | 0 => by simp [ord]
 | t + 1 => by
  have := ord_len h t
  have := bat_len h t
  rw [ord_succ, List.length_append]
  simp only [plc, List.length_map]
  omega
theorem enT_get {l : List TEntry} {i : Int} (h1 : 1 ≤ i) (h2 : i ≤ (l.length : Int)) : ∃ e, l[(i - 1).toNat]? = some e ∧ e.T = enT l i := by
 have : (i - 1).toNat < l.length := by omega
 refine ⟨l[(i - 1).toNat], List.getElem?_eq_getElem this, ?_⟩
 unfold enT
 rw [List.getD_eq_getElem?_getD, List.getElem?_eq_getElem this]; rfl
theorem twin_e {t : TTxn} (h1 : t.Reads.length ≤ 1000000) (h2 : t.Writes.length ≤ 1000000) : merge_twin t = some t := by
 unfold merge_twin slices_Clone_api_Read slices_Clone_api_Write
 rw [gd_t (decide_eq_true (by simp; omega)), bd_s rfl, gd_t (decide_eq_true (by simp; omega)), bd_s rfl]
theorem all1_lp (h : LG L) (fu p : Nat) (hp : p < L.length) : ∀ (r q : List Int) (out : List TPlace) (m : Nat), (q ++ r).length ≤ 100000 → (∀ i ∈ r, 1 ≤ i ∧ i ≤ ((lg L p).length : Int)) → out.length + r.length ≤ 1000000 → r.length < m →
  merge_All_1.lp2 fu (p : Int) (q ++ r) ((q ++ r).length : Int) L m (q.length : Int) out = some (out ++ plc L p r)
 | [], q, out, m, hl, hi, ho, hm => by
  obtain ⟨m, rfl⟩ : ∃ k, m = k + 1 := ⟨m - 1, by omega⟩
  simp only [List.append_nil]
  rw [merge_All_1.lp2, br_f (nlt_end _)]; simp [plc]
 | i :: r, q, out, m, hl, hi, ho, hm => by
  obtain ⟨m, rfl⟩ : ∃ k, m = k + 1 := ⟨m - 1, by omega⟩
  obtain ⟨h1, h2⟩ := hi i (by simp)
  have hsz := h.sz _ (lg_mem hp)
  obtain ⟨e, he, hT⟩ := enT_get h1 h2
  have hsm := h.sm _ (lg_mem hp) e (List.mem_of_getElem? he)
  have e1 : q ++ i :: r = (q ++ [i]) ++ r := by simp
  simp only [List.length_cons] at ho hm
  have ih := all1_lp h fu p hp r (q ++ [i]) (out ++ [TPlace.mk (p : Int) i (enT (lg L p) i)]) m (by rw [← e1]; exact hl) (fun j hj => hi j (by simp [hj])) (by simp; omega) (by omega)
  rw [← e1] at ih
  rw [merge_All_1.lp2, br_t (lt_mid _ _ _), ix_mid, ix_n (lg_get hp), w64_id (n := i - 1) (by omega) (by omega), ix_s (by omega) he, bd_s (twin_e (by omega) (by omega)), gd_t (decide_eq_true (by simp; omega)), w64_len q r i (by omega), hT, ih]
  simp [plc]
theorem all1_e (h : LG L) {fu p : Nat} (hp : p < L.length) {b : List Int} {out : List TPlace} (hb : ∀ i ∈ b, 1 ≤ i ∧ i ≤ ((lg L p).length : Int)) (hl : b.length ≤ 16) (ho : out.length ≤ 100000) (hf : 20 ≤ fu) : merge_All_1 fu (p : Int) b out L = some (out ++ plc L p b) := by
 unfold merge_All_1
 have := all1_lp h fu p hp b [] out fu (by simpa using (by omega)) hb (by omega) (by omega)
 simp only [List.nil_append, List.length_nil, Int.natCast_zero] at this
 rw [bd_s this]
def hd (n t : Nat) : THead := THead.mk ((t / n : Nat) : Int) ((t % n : Nat) : Int)
theorem ky_lt {n t u : Nat} (h0 : 0 < n) (hn : n ≤ 8) (h : t < u) : ky (hd n u) < ky (hd n t) := by
 have h1 := Nat.div_add_mod t n
 have h2 := Nat.div_add_mod u n
 have h3 := Nat.mod_lt t h0
 have h4 := Nat.mod_lt u h0
 have h5 : t / n ≤ u / n := Nat.div_le_div_right (by omega)
 unfold ky hd
 dsimp only
 rcases Nat.lt_or_ge (t / n) (u / n) with h6 | h6
 ·omega
 ·have h7 : t / n = u / n := by omega
  rw [h7] at h1 ⊢
  omega
def win (n t : Nat) : List THead := (List.range n).map fun i => hd n (t + i)
theorem win_mem {n t : Nat} {x : THead} (h : x ∈ win n t) : ∃ i, i < n ∧ x = hd n (t + i) := by
 unfold win at h
 obtain ⟨i, h1, h2⟩ := List.mem_map.1 h
 exact ⟨i, List.mem_range.1 h1, h2.symm⟩
theorem win_next (n t : Nat) (h : 0 < n) : ∃ W, win n t = hd n t :: W ∧ win n (t + 1) = W ++ [hd n (t + n)] := by
 obtain ⟨k, rfl⟩ : ∃ k, n = k + 1 := ⟨n - 1, by omega⟩
 refine ⟨(List.range k).map fun i => hd (k + 1) (t + 1 + i), ?_, ?_⟩
 ·unfold win
  rw [List.range_succ_eq_map, List.map_cons, List.map_map, Nat.add_zero]
  congr 1
  apply List.map_congr_left
  intro i _
  show hd (k + 1) (t + (i + 1)) = _
  congr 1; omega
 ·unfold win
  rw [List.range_succ, List.map_append]
  simp only [List.map_cons, List.map_nil]
  congr 3; omega
theorem win_gd {n t : Nat} (h0 : 0 < n) (hn : n ≤ 8) (ht : t + n ≤ 100000) : Gd (win n t) := fun x hx => by
 obtain ⟨i, hi, rfl⟩ := win_mem hx
 have h1 := Nat.mod_lt (t + i) h0
 have h2 := Nat.div_le_self (t + i) n
 exact ⟨Int.natCast_nonneg _, Int.ofNat_lt.2 (show (t + i) % n < 8 by omega), Int.natCast_nonneg _, Int.ofNat_le.2 (show (t + i) / n ≤ 1000000 by omega)⟩
theorem win_len (n t : Nat) : (win n t).length = n := by simp [win]
theorem pop_win {n t fu : Nat} {R : List THead} (h0 : 0 < n) (hn : n ≤ 8) (ht : t + n ≤ 100000) (hf : 20 ≤ fu) (hR : R.Perm (win n t)) (hh : Hf (g R) R.length 0) :
  ∃ R', heap_Pop fu R = some (hd n t, R') ∧ Hf (g R') R'.length 0 ∧ (R' ++ [hd n (t + n)]).Perm (win n (t + 1)) := by
 have hl : R.length = n := by rw [hR.length_eq, win_len]
 obtain ⟨x, R', q1, q2, q3, q4⟩ := pop_e (fu := fu) ((win_gd h0 hn ht).perm hR) (by omega) (by omega) (by omega) (by omega) hh
 obtain ⟨W, w1, w2⟩ := win_next n t h0
 have hx : x = hd n t := by
  have hxw : x ∈ win n t := hR.mem_iff.1 (q2.mem_iff.2 (by simp))
  obtain ⟨i, hi, rfl⟩ := win_mem hxw
  rcases Nat.eq_zero_or_pos i with h1 | h1
  ·subst h1; rfl
  ·exfalso
   have hlt := ky_lt h0 hn (show t < t + i by omega)
   have hin : hd n t ∈ hd n (t + i) :: R' := q2.mem_iff.1 (hR.mem_iff.2 (by rw [w1]; simp))
   rcases List.mem_cons.1 hin with h2 | h2
   ·rw [← h2] at hlt; omega
   ·have := q4 _ h2; omega
 subst hx
 refine ⟨R', q1, q3, ?_⟩
 have hp : (hd n t :: R').Perm (hd n t :: W) := q2.symm.trans (by rw [← w1]; exact hR)
 rw [w2]
 exact List.Perm.append_right _ (List.Perm.cons_inv hp)
theorem build_lp (h : LG L) (fu : Nat) (hf : 20 ≤ fu) (o0 : List TPlace) (o1 : List (List TEntry)) : ∀ (d i m : Nat) (R : List THead), i + d = L.length → d < m → R.Perm ((List.range i).map (hd L.length)) → Hf (g R) R.length 0 →
  ∃ R', merge_walk.lp5 fu L (L.length : Int) o0 o1 m ((L.map cutB).take i) (i : Int) R = some (L.map cutB, R') ∧ merge_walk_2.lp5 fu L (L.length : Int) m ((L.map cutB).take i) (i : Int) R = some (L.map cutB, R') ∧ R'.Perm (win L.length 0) ∧ Hf (g R') R'.length 0
 | 0, i, m, R, hi, hm, hR, hh => by
  obtain ⟨m, rfl⟩ : ∃ k, m = k + 1 := ⟨m - 1, by omega⟩
  have : i = L.length := by omega
  subst this
  rw [merge_walk.lp5, br_f (decide_eq_false (by omega)), merge_walk_2.lp5, br_f (decide_eq_false (by omega)), List.take_of_length_le (by simp)]
  refine ⟨R, rfl, rfl, hR.trans ?_, hh⟩
  unfold win
  simp only [Nat.zero_add]
  exact List.Perm.refl _
 | d + 1, i, m, R, hi, hm, hR, hh => by
  obtain ⟨m, rfl⟩ : ∃ k, m = k + 1 := ⟨m - 1, by omega⟩
  have hn := h.n1
  have hil : i < L.length := by omega
  have hl : R.length = i := by rw [hR.length_eq]; simp
  have hsz := h.sz _ (lg_mem hil)
  have hv : THead.mk 0 (i : Int) = hd L.length i := by
   unfold hd
   rw [Nat.div_eq_of_lt hil, Nat.mod_eq_of_lt hil]; rfl
  have hperm : (R ++ [hd L.length i]).Perm ((List.range (i + 1)).map (hd L.length)) := by
   rw [List.range_succ, List.map_append]
   exact List.Perm.append_right _ hR
  have hG : Gd (R ++ [hd L.length i]) := Gd.perm (h := (List.range (i + 1)).map (hd L.length)) (fun x hx => by
   obtain ⟨j, j1, rfl⟩ := List.mem_map.1 hx
   have j2 := List.mem_range.1 j1
   refine win_gd (n := L.length) (t := 0) hn.1 (by omega) (by omega) _ ?_
   unfold win
   exact List.mem_map.2 ⟨j, List.mem_range.2 (by omega), by rw [Nat.zero_add]⟩) hperm
  obtain ⟨R1, p1, p2, p3⟩ := push_e (fu := fu) hG (by omega) (by omega) (by omega) hh
  obtain ⟨R', r1, r2, r3, r4⟩ := build_lp h fu hf o0 o1 d (i + 1) m R1 (by omega) (by omega) (p2.trans hperm) p3
  have hw : w64 ((i : Int) + 1) = ((i + 1 : Nat) : Int) := by rw [w64_id (by omega) (by omega)]; omega
  have htk : (L.map cutB).take (i + 1) = (L.map cutB).take i ++ [cutB (lg L i)] := by
   rw [List.take_add_one, List.getElem?_map, lg_get hil]; rfl
  have hgl : ((L.map cutB).take i).length ≤ 3 := by simp; omega
  refine ⟨R', ?_, ?_, r3, r4⟩
  ·rw [merge_walk.lp5, br_t (decide_eq_true (by omega)), ix_n (lg_get hil), bd_s (cut_e (by omega)), gd_t (decide_eq_true (by simp; omega)), hv, bd_s p1, hw, ← htk]
   exact r1
  ·rw [merge_walk_2.lp5, br_t (decide_eq_true (by omega)), ix_n (lg_get hil), bd_s (cut_e (by omega)), gd_t (decide_eq_true (by simp; omega)), hv, bd_s p1, hw, ← htk]
   exact r2
theorem walk_lp (h : LG L) (fu : Nat) (hf : 100 ≤ fu) {D : Nat} (hD : stp L D) (hno : ∀ t, t < D → ¬ stp L t) (hD2 : D ≤ 48) : ∀ (d t m : Nat) (R : List THead), t + d = D → d < m → R.Perm (win L.length t) → Hf (g R) R.length 0 →
  merge_walk.lp13 fu (L.map cutB) L m R (ord L t) = some (.inr (((D % L.length : Nat) : Int), ord L (D + 1))) ∧ merge_walk_2.lp13 fu (L.map cutB) m R = some (.inr ((D % L.length : Nat) : Int)) := by
 intro d
 induction d with
 | zero =>
  intro t m R ht hm hR hh
  obtain ⟨m, rfl⟩ : ∃ k, m = k + 1 := ⟨m - 1, by omega⟩
  have : t = D := by omega
  subst this
  have hn := h.n1
  have hl : R.length = L.length := by rw [hR.length_eq, win_len]
  have hp : t % L.length < L.length := Nat.mod_lt _ hn.1
  obtain ⟨R', q1, q2, q3⟩ := pop_win (fu := fu) hn.1 (by omega) (by omega) (by omega) hR hh
  have hc : (L.map cutB)[t % L.length]? = some (cu L (t % L.length)) := by rw [List.getElem?_map, lg_get hp]; rfl
  have hb := bat_get h hno
  have ho := ord_len h t
  have hst : ((t / L.length : Nat) : Int) = w64 (((cu L (t % L.length)).length : Int) - 1) := by
   have hc1 := (cut_len (lg L (t % L.length))).2.1
   have hc2 := h.sz _ (lg_mem hp)
   have : (cu L (t % L.length)).length ≤ 17 := by unfold cu; omega
   unfold stp at hD
   rw [w64_id (by omega) (by omega)]; omega
  constructor
  ·rw [merge_walk.lp13]
   unfold merge_heads_Len
   rw [bd_s rfl, br_t (decide_eq_true (by omega)), bd_s q1]
   dsimp only [hd]
   rw [ix_n hc, ix_n hb, bd_s (all1_e h hp bat_bd (bat_len h t) (by omega) (by omega)), ix_n hc, br_t (beq_iff_eq.2 hst), ord_succ]
  ·rw [merge_walk_2.lp13]
   unfold merge_heads_Len merge_Head_1
   rw [bd_s rfl, br_t (decide_eq_true (by omega)), bd_s q1]
   dsimp only [hd]
   rw [ix_n hc, ix_n hb, bd_s rfl, ix_n hc, br_t (beq_iff_eq.2 hst)]
 | succ d ih =>
  intro t m R ht hm hR hh
  obtain ⟨m, rfl⟩ : ∃ k, m = k + 1 := ⟨m - 1, by omega⟩
  have hn := h.n1
  have hl : R.length = L.length := by rw [hR.length_eq, win_len]
  have hp : t % L.length < L.length := Nat.mod_lt _ hn.1
  obtain ⟨R', q1, q2, q3⟩ := pop_win (fu := fu) hn.1 (by omega) (by omega) (by omega) hR hh
  have hc : (L.map cutB)[t % L.length]? = some (cu L (t % L.length)) := by rw [List.getElem?_map, lg_get hp]; rfl
  have hb := bat_get h (t := t) (fun u hu => hno u (by omega))
  have ho := ord_len h t
  have hc1 := (cut_len (lg L (t % L.length))).2.1
  have hc2 := h.sz _ (lg_mem hp)
  have hc3 : (cu L (t % L.length)).length ≤ 17 := by unfold cu; omega
  have hdl := Nat.div_le_self t L.length
  have hst : ¬ ((t / L.length : Nat) : Int) = w64 (((cu L (t % L.length)).length : Int) - 1) := by
   have := hno t (by omega)
   unfold stp at this
   rw [w64_id (by omega) (by omega)]
   generalize t / L.length = q at this ⊢
   omega
  have hnx : THead.mk (w64 (((t / L.length : Nat) : Int) + 1)) ((t % L.length : Nat) : Int) = hd L.length (t + L.length) := by
   unfold hd
   rw [Nat.add_div_right _ hn.1, Nat.add_mod_right]
   generalize t / L.length = q at hdl
   rw [w64_id (by omega) (by omega)]; rfl
  have hl' : R'.length + 1 = L.length := by have := q3.length_eq; rw [win_len] at this; simpa using this
  obtain ⟨R1, p1, p2, p3⟩ := push_e (fu := fu) (h := R') (v := hd L.length (t + L.length)) (Gd.perm (win_gd hn.1 (by omega) (by omega)) q3) (by omega) (by omega) (by omega) q2
  obtain ⟨i1, i2⟩ := ih (t + 1) m R1 (by omega) (by omega) (p2.trans q3) p3
  constructor
  ·rw [merge_walk.lp13]
   unfold merge_heads_Len
   rw [bd_s rfl, br_t (decide_eq_true (by omega)), bd_s q1]
   dsimp only [hd]
   rw [ix_n hc, ix_n hb, bd_s (all1_e h hp bat_bd (bat_len h t) (by omega) (by omega)), ix_n hc, br_f (beq_eq_false_iff_ne.2 hst), hnx, bd_s p1, ← ord_succ]
   exact i1
  ·rw [merge_walk_2.lp13]
   unfold merge_heads_Len merge_Head_1
   rw [bd_s rfl, br_t (decide_eq_true (by omega)), bd_s q1]
   dsimp only [hd]
   rw [ix_n hc, ix_n hb, bd_s rfl, ix_n hc, br_f (beq_eq_false_iff_ne.2 hst), hnx, bd_s p1]
   exact i2
theorem merge_e (h : LG L) {fu : Nat} (hf : 100 ≤ fu) {D : Nat} (hD : stp L D) (hno : ∀ t, t < D → ¬ stp L t) (hD2 : D ≤ 48) : merge_All fu L = some (ord L (D + 1)) ∧ merge_Head fu L = some ((D % L.length : Nat) : Int) := by
 have hn := h.n1
 obtain ⟨R, b1, b2, b3, b4⟩ := build_lp h fu (by omega) [] L L.length 0 fu [] (by omega) (by omega) (List.Perm.refl _) (fun i c _ _ hc => by simp at hc)
 obtain ⟨b5, b6⟩ := walk_lp h fu hf hD hno hD2 D 0 fu R (by omega) (by omega) b3 b4
 rw [List.take_zero] at b1 b2
 constructor
 ·unfold merge_All merge_walk
  rw [bd_s (show merge_walk.lp5 fu L (L.length : Int) [] L fu [] 0 [] = _ from b1)]
  dsimp only
  rw [bd_s (show merge_walk.lp13 fu (L.map cutB) L fu R [] = _ from b5)]
  rfl
 ·unfold merge_Head merge_walk_2
  rw [bd_s (show merge_walk_2.lp5 fu L (L.length : Int) fu [] 0 [] = _ from b2)]
  dsimp only
  rw [bd_s b6]
  rfl
end
theorem merge_no {fu : Nat} (hf : 10 ≤ fu) : merge_All fu [] = some [] ∧ merge_Head fu [] = some (-1) := by
 obtain ⟨fu, rfl⟩ : ∃ k, fu = k + 10 := ⟨fu - 10, by omega⟩
 exact ⟨rfl, rfl⟩
end Go.Proofs.Ytepaajbkmkclnaa.Told.MH
