/- The plain law of MergeOnce: each transaction has one place, in its log's order, and what comes later stands behind. -/
import Derived.Test.YtepaajbkmkclnaaTMo
namespace Go.Proofs.Ytepaajbkmkclnaa.Told.PureMergeOnce
open Go Go.Proofs.Ytepaajbkmkclnaa.Vam Go.Proofs.Ytepaajbkmkclnaa.Told Go.Proofs.Ytepaajbkmkclnaa.Told.MH Go.Proofs.Ytepaajbkmkclnaa.Told.PK Go.Proofs.Ytepaajbkmkclnaa.Ep
set_option linter.unusedSimpArgs false
set_option linter.unusedVariables false
theorem begun_e : diwanlaw14_begun = some true := rfl
def la (a : TA4_int) (p : Nat) : Int := if p = 0 then a.c0 else if p = 1 then a.c1 else a.c2
theorem seals_lp (fu : Nat) (who : Int) {L : List (List TEntry)} {p : Nat} (hp : p < L.length) (A : List TPlace) (j : Int) (a : TA4_int) (i : Int) (t : TTxn) (hi : i ≤ ((lg L p).length : Int)) (hl : (lg L p).length ≤ 1000) (lo : Int) (h0 : 0 ≤ lo) (hs : ∀ k : Int, lo < k → k < i → (sealsOf' (lg L p)).getD (k - 1).toNat false = true) : ∀ (d : Nat) (k : Int) (m : Nat), k + d = i → lo < k → d < m →
  diwanlaw14_MergeOnce.lp37 fu who L A j a (TPlace.mk (p : Int) i t) m k = some (.inl ())
 | 0, k, m, hk, hlo, hm => by
  obtain ⟨m, rfl⟩ : ∃ n, m = n + 1 := ⟨m - 1, by omega⟩
  rw [diwanlaw14_MergeOnce.lp37, br_f (decide_eq_false (by show ¬ k < i; omega))]
 | d + 1, k, m, hk, hlo, hm => by
  obtain ⟨m, rfl⟩ : ∃ n, m = n + 1 := ⟨m - 1, by omega⟩
  have hx : (lg L p)[(k - 1).toNat]? = some (lg L p)[(k - 1).toNat] := List.getElem?_eq_getElem (by omega)
  have hsl := hs k hlo (by omega)
  rw [seal_at hx] at hsl
  rw [diwanlaw14_MergeOnce.lp37, br_t (decide_eq_true (by show k < i; omega)), ix_n (lg_get hp), w64_id (n := k - 1) (by omega) (by omega), ix_s (by omega) hx, br_f (by rw [hsl]; rfl), w64_id (by omega) (by omega)]
  exact seals_lp fu who hp A j a i t hi hl lo h0 hs d (k + 1) m (by omega) (by omega) (by omega)
theorem step0 {fu : Nat} {who : Int} {L : List (List TEntry)} (hp : 0 < L.length) (q r : List TPlace) (a : TA4_int) (i : Int) {e : TEntry} (he : (lg L 0)[(i - 1).toNat]? = some e) (hsl : e.Seal = false) (hi0 : 1 ≤ i) (hi : i ≤ ((lg L 0).length : Int)) (hl : (lg L 0).length ≤ 1000) (h0 : 0 ≤ a.c0) (h1 : a.c0 < i)
  (hsm : e.T.Reads.length ≤ 10 ∧ e.T.Writes.length ≤ 10) (hn : L.length ≤ 3) (hf : 2000 ≤ fu) (hs : ∀ k : Int, a.c0 < k → k < i → (sealsOf' (lg L 0)).getD (k - 1).toNat false = true) (hlen : (q ++ TPlace.mk 0 i e.T :: r).length ≤ 100000) (m : Nat) :
  diwanlaw14_MergeOnce.lp12 fu who L (q ++ TPlace.mk 0 i e.T :: r) (m + 1) (q.length : Int) a = diwanlaw14_MergeOnce.lp12 fu who L (q ++ TPlace.mk 0 i e.T :: r) m ((q ++ [TPlace.mk 0 i e.T]).length : Int) (TA4_int.mk i a.c1 a.c2 a.c3) := by
 have hg : L[((0 : Int)).toNat]? = some (lg L 0) := lg_get hp
 have lp := seals_lp fu who hp (q ++ TPlace.mk 0 i e.T :: r) (q.length : Int) a i e.T hi hl a.c0 h0 hs (i - (a.c0 + 1)).toNat (a.c0 + 1) fu (by omega) (by omega) (by omega)
 have lp' : diwanlaw14_MergeOnce.lp37 fu who L (q ++ TPlace.mk 0 i e.T :: r) (q.length : Int) a (TPlace.mk 0 i e.T) fu (a.c0 + 1) = some (.inl ()) := lp
 have hlt : ¬ ((0 : Int) ≥ (L.length : Int)) := by omega
 rw [diwanlaw14_MergeOnce.lp12, br_t (lt_mid _ _ _), ix_mid]
 dsimp only
 simp only [jn_e]
 rw [br_f (b := decide ((0 : Int) < 0)) rfl, br_f (decide_eq_false hlt), br_f (decide_eq_false (show ¬ i < 1 by omega)), ix_s (by decide) hg, br_f (decide_eq_false (by omega)), ix_s (by decide) hg, w64_id (n := i - 1) (by omega) (by omega), ix_s (by omega) he, br_f hsl]
 rw [br_t (b := ((0 : Int) == 0)) rfl, br_f (decide_eq_false (show ¬ i ≤ a.c0 by omega)), ix_s (by decide) hg, ix_s (by omega) he, bd_s (same_e hsm.1 hsm.2 (by omega)), br_f (b := !true) rfl]
 rw [br_t (b := ((0 : Int) == 0)) rfl, w64_id (n := a.c0 + 1) (by omega) (by omega), bd_s lp']
 dsimp only
 rw [br_t (b := ((0 : Int) == 0)) rfl, w64_len q r (TPlace.mk 0 i e.T) (by omega)]
theorem step1 {fu : Nat} {who : Int} {L : List (List TEntry)} (hp : 1 < L.length) (q r : List TPlace) (a : TA4_int) (i : Int) {e : TEntry} (he : (lg L 1)[(i - 1).toNat]? = some e) (hsl : e.Seal = false) (hi0 : 1 ≤ i) (hi : i ≤ ((lg L 1).length : Int)) (hl : (lg L 1).length ≤ 1000) (h0 : 0 ≤ a.c1) (h1 : a.c1 < i)
  (hsm : e.T.Reads.length ≤ 10 ∧ e.T.Writes.length ≤ 10) (hn : L.length ≤ 3) (hf : 2000 ≤ fu) (hs : ∀ k : Int, a.c1 < k → k < i → (sealsOf' (lg L 1)).getD (k - 1).toNat false = true) (hlen : (q ++ TPlace.mk 1 i e.T :: r).length ≤ 100000) (m : Nat) :
  diwanlaw14_MergeOnce.lp12 fu who L (q ++ TPlace.mk 1 i e.T :: r) (m + 1) (q.length : Int) a = diwanlaw14_MergeOnce.lp12 fu who L (q ++ TPlace.mk 1 i e.T :: r) m ((q ++ [TPlace.mk 1 i e.T]).length : Int) (TA4_int.mk a.c0 i a.c2 a.c3) := by
 have hg : L[((1 : Int)).toNat]? = some (lg L 1) := lg_get hp
 have lp := seals_lp fu who hp (q ++ TPlace.mk 1 i e.T :: r) (q.length : Int) a i e.T hi hl a.c1 h0 hs (i - (a.c1 + 1)).toNat (a.c1 + 1) fu (by omega) (by omega) (by omega)
 have lp' : diwanlaw14_MergeOnce.lp37 fu who L (q ++ TPlace.mk 1 i e.T :: r) (q.length : Int) a (TPlace.mk 1 i e.T) fu (a.c1 + 1) = some (.inl ()) := lp
 have hlt : ¬ ((1 : Int) ≥ (L.length : Int)) := by omega
 rw [diwanlaw14_MergeOnce.lp12, br_t (lt_mid _ _ _), ix_mid]
 dsimp only
 simp only [jn_e]
 rw [br_f (b := decide ((1 : Int) < 0)) rfl, br_f (decide_eq_false hlt), br_f (decide_eq_false (show ¬ i < 1 by omega)), ix_s (by decide) hg, br_f (decide_eq_false (by omega)), ix_s (by decide) hg, w64_id (n := i - 1) (by omega) (by omega), ix_s (by omega) he, br_f hsl]
 rw [br_f (b := ((1 : Int) == 0)) rfl, br_t (b := ((1 : Int) == 1)) rfl, br_f (decide_eq_false (show ¬ i ≤ a.c1 by omega)), ix_s (by decide) hg, ix_s (by omega) he, bd_s (same_e hsm.1 hsm.2 (by omega)), br_f (b := !true) rfl]
 rw [br_f (b := ((1 : Int) == 0)) rfl, br_t (b := ((1 : Int) == 1)) rfl, w64_id (n := a.c1 + 1) (by omega) (by omega), bd_s lp']
 dsimp only
 rw [br_f (b := ((1 : Int) == 0)) rfl, br_t (b := ((1 : Int) == 1)) rfl, w64_len q r (TPlace.mk 1 i e.T) (by omega)]
theorem step2 {fu : Nat} {who : Int} {L : List (List TEntry)} (hp : 2 < L.length) (q r : List TPlace) (a : TA4_int) (i : Int) {e : TEntry} (he : (lg L 2)[(i - 1).toNat]? = some e) (hsl : e.Seal = false) (hi0 : 1 ≤ i) (hi : i ≤ ((lg L 2).length : Int)) (hl : (lg L 2).length ≤ 1000) (h0 : 0 ≤ a.c2) (h1 : a.c2 < i)
  (hsm : e.T.Reads.length ≤ 10 ∧ e.T.Writes.length ≤ 10) (hn : L.length ≤ 3) (hf : 2000 ≤ fu) (hs : ∀ k : Int, a.c2 < k → k < i → (sealsOf' (lg L 2)).getD (k - 1).toNat false = true) (hlen : (q ++ TPlace.mk 2 i e.T :: r).length ≤ 100000) (m : Nat) :
  diwanlaw14_MergeOnce.lp12 fu who L (q ++ TPlace.mk 2 i e.T :: r) (m + 1) (q.length : Int) a = diwanlaw14_MergeOnce.lp12 fu who L (q ++ TPlace.mk 2 i e.T :: r) m ((q ++ [TPlace.mk 2 i e.T]).length : Int) (TA4_int.mk a.c0 a.c1 i a.c3) := by
 have hg : L[((2 : Int)).toNat]? = some (lg L 2) := lg_get hp
 have lp := seals_lp fu who hp (q ++ TPlace.mk 2 i e.T :: r) (q.length : Int) a i e.T hi hl a.c2 h0 hs (i - (a.c2 + 1)).toNat (a.c2 + 1) fu (by omega) (by omega) (by omega)
 have lp' : diwanlaw14_MergeOnce.lp37 fu who L (q ++ TPlace.mk 2 i e.T :: r) (q.length : Int) a (TPlace.mk 2 i e.T) fu (a.c2 + 1) = some (.inl ()) := lp
 have hlt : ¬ ((2 : Int) ≥ (L.length : Int)) := by omega
 rw [diwanlaw14_MergeOnce.lp12, br_t (lt_mid _ _ _), ix_mid]
 dsimp only
 simp only [jn_e]
 rw [br_f (b := decide ((2 : Int) < 0)) rfl, br_f (decide_eq_false hlt), br_f (decide_eq_false (show ¬ i < 1 by omega)), ix_s (by decide) hg, br_f (decide_eq_false (by omega)), ix_s (by decide) hg, w64_id (n := i - 1) (by omega) (by omega), ix_s (by omega) he, br_f hsl]
 rw [br_f (b := ((2 : Int) == 0)) rfl, br_f (b := ((2 : Int) == 1)) rfl, br_t (b := ((2 : Int) == 2)) rfl, br_f (decide_eq_false (show ¬ i ≤ a.c2 by omega)), ix_s (by decide) hg, ix_s (by omega) he, bd_s (same_e hsm.1 hsm.2 (by omega)), br_f (b := !true) rfl]
 rw [br_f (b := ((2 : Int) == 0)) rfl, br_f (b := ((2 : Int) == 1)) rfl, br_t (b := ((2 : Int) == 2)) rfl, w64_id (n := a.c2 + 1) (by omega) (by omega), bd_s lp']
 dsimp only
 rw [br_f (b := ((2 : Int) == 0)) rfl, br_f (b := ((2 : Int) == 1)) rfl, br_t (b := ((2 : Int) == 2)) rfl, w64_len q r (TPlace.mk 2 i e.T) (by omega)]
theorem loop {fu : Nat} {who : Int} {L : List (List TEntry)} (h : LG L) (hf : 2000 ≤ fu) (A : List TPlace) (hA : A.length ≤ 100000) (hx : ∀ x ∈ A, ∃ p i, p < L.length ∧ x = TPlace.mk (p : Int) i (enT (lg L p) i) ∧ 1 ≤ i ∧ i ≤ ((lg L p).length : Int)) (hpre : ∀ p, p < L.length → fi p A <+: ns 0 (sealsOf' (lg L p))) : ∀ (r q : List TPlace) (m : Nat) (a : TA4_int), q ++ r = A → (∀ p, p < L.length → la a p = (fi p q).getLastD 0) → r.length < m →
  diwanlaw14_MergeOnce.lp12 fu who L A m (q.length : Int) a = some (.inl ())
 | [], q, m, a, hq, ha, hm => by
  obtain ⟨m, rfl⟩ : ∃ n, m = n + 1 := ⟨m - 1, by omega⟩
  rw [List.append_nil] at hq
  subst hq
  rw [diwanlaw14_MergeOnce.lp12, br_f (nlt_end _)]
 | x :: r, q, m, a, hq, ha, hm => by
  obtain ⟨m, rfl⟩ : ∃ n, m = n + 1 := ⟨m - 1, by omega⟩
  obtain ⟨p, i, hp, hxe, hi0, hi⟩ := hx x (by rw [← hq]; simp)
  obtain ⟨e, he, hT⟩ := enT_get hi0 hi
  have hsm := h.sm _ (lg_mem hp) e (List.mem_of_getElem? he)
  have hsz := h.sz _ (lg_mem hp)
  have h3 := h.n1.2
  have hpp := hpre p hp
  rw [← hq, fi_app] at hpp
  have hfx : fi p (x :: r) = i :: fi p r := by rw [hxe]; simp [fi]
  rw [hfx] at hpp
  have hpp2 : fi p q ++ [i] <+: ns 0 (sealsOf' (lg L p)) := (show fi p q ++ [i] <+: fi p q ++ i :: fi p r from ⟨fi p r, by simp⟩).trans hpp
  obtain ⟨n0, n1, n2, n3, n4⟩ := ns_next _ 0 _ _ hpp2
  have hla := ha p hp
  rw [show ((0 : Nat) : Int) = 0 from rfl] at n0 n1 n2 n3 n4
  rw [← hla] at n0 n1 n4
  simp only [Int.sub_zero] at n3 n4
  have hsl : e.Seal = false := by
   rw [seal_at' he] at n3; exact n3
  have hnext : ∀ b : TA4_int, la b p = i → (∀ p', p' ≠ p → p' < 3 → la b p' = la a p') → ∀ p', p' < L.length → la b p' = (fi p' (q ++ [x])).getLastD 0 := by
   intro b hb1 hb2 p' hp'
   rw [fi_app]
   by_cases c : p' = p
   ·subst c
    rw [hb1, hxe]; simp [fi]
   ·rw [hb2 p' c (by omega), ha p' hp', hxe]
    have : fi p' [TPlace.mk (p : Int) i (enT (lg L p) i)] = [] := by
     have : ((p : Int) == (p' : Int)) = false := beq_eq_false_iff_ne.2 (by omega)
     simp [fi, this]
    rw [this, List.append_nil]
  have hlen : (q ++ x :: r).length ≤ 100000 := by rw [hq]; exact hA
  have hqr : (q ++ [x]) ++ r = A := by rw [← hq]; simp
  have hmr : r.length < m := by simp at hm; omega
  have hc : p = 0 ∨ p = 1 ∨ p = 2 := by omega
  rw [← hT] at hxe
  rcases hc with rfl | rfl | rfl
  ·have hxe' : x = TPlace.mk 0 i e.T := hxe
   subst hxe'
   rw [← hq, step0 hp q r a i he hsl hi0 hi (by omega) (by simp [la] at n0; omega) (by simp [la] at n1; omega) hsm h3 hf (by simpa [la] using n4) hlen m, hq]
   exact loop h hf A hA hx hpre r _ m _ hqr (hnext (TA4_int.mk i a.c1 a.c2 a.c3) rfl (fun p' hp' hp3 => by
    have hc : p' = 0 ∨ p' = 1 ∨ p' = 2 := by omega
    rcases hc with rfl | rfl | rfl <;> first | rfl | (exfalso; omega))) hmr
  ·have hxe' : x = TPlace.mk 1 i e.T := hxe
   subst hxe'
   rw [← hq, step1 hp q r a i he hsl hi0 hi (by omega) (by simp [la] at n0; omega) (by simp [la] at n1; omega) hsm h3 hf (by simpa [la] using n4) hlen m, hq]
   exact loop h hf A hA hx hpre r _ m _ hqr (hnext (TA4_int.mk a.c0 i a.c2 a.c3) rfl (fun p' hp' hp3 => by
    have hc : p' = 0 ∨ p' = 1 ∨ p' = 2 := by omega
    rcases hc with rfl | rfl | rfl <;> first | rfl | (exfalso; omega))) hmr
  ·have hxe' : x = TPlace.mk 2 i e.T := hxe
   subst hxe'
   rw [← hq, step2 hp q r a i he hsl hi0 hi (by omega) (by simp [la] at n0; omega) (by simp [la] at n1; omega) hsm h3 hf (by simpa [la] using n4) hlen m, hq]
   exact loop h hf A hA hx hpre r _ m _ hqr (hnext (TA4_int.mk a.c0 a.c1 i a.c3) rfl (fun p' hp' hp3 => by
    have hc : p' = 0 ∨ p' = 1 ∨ p' = 2 := by omega
    rcases hc with rfl | rfl | rfl <;> first | rfl | (exfalso; omega))) hmr
theorem holds (picks : List Int) (who : Int) (k0 : okL (okI .u8) picks) (k1 : okI .u8 who) : ∃ fu, diwanlaw14_MergeOnce fu picks who = some true := by
 refine ⟨2000, ?_⟩
 unfold diwanlaw14_MergeOnce
 rw [bd_s begun_e, br_f (b := !true) rfl]
 by_cases h1 : (picks.length : Int) > 250
 ·rw [br_t (decide_eq_true h1)]
 have hn := okI_u8 k1
 obtain ⟨W, rfl⟩ : ∃ W : Nat, who = (W : Int) := ⟨who.toNat, by omega⟩
 obtain ⟨L, e1, e2, e3⟩ := logs_e (fu := 2000) (by omega) k0.2 (by omega)
 rw [br_f (decide_eq_false h1), bd_s e1]
 by_cases hL : L.length = 0
 ·rw [List.length_eq_zero_iff.1 hL, bd_s (merge_no (by omega)).1]; rfl
 have hLG := e3.lg (by omega) e2
 obtain ⟨D, d1, d2, d3⟩ := stp_ex hLG
 obtain ⟨m1, m2⟩ := merge_e hLG (fu := 2000) (by omega) d1 d2 d3
 have hDn : D % L.length < L.length := Nat.mod_lt _ (by omega)
 have ht : Int.tmod (w64 (W : Int)) (L.length : Int) = ((W % L.length : Nat) : Int) := by
  rw [w64_id (by omega) (by omega)]
  simp [Int.tmod]
 have hk : W % L.length < L.length := Nat.mod_lt _ (by omega)
 have hol := ord_len hLG (D + 1)
 have lp := loop hLG (fu := 2000) (who := (W : Int)) (by omega) (ord L (D + 1)) (by omega) (fun x hx => ord_mem hLG hx) (fun p hp => ord_fi hLG hp (fun u hu => d2 u (by omega))) (ord L (D + 1)) [] 2000 (TA4_int.mk 0 0 0 0) rfl (fun p hp => by simp [la, fi]) (by omega)
 rw [bd_s m1, bd_s (show diwanlaw14_MergeOnce.lp12 2000 (W : Int) L (ord L (D + 1)) 2000 0 (TA4_int.mk 0 0 0 0) = _ from lp)]
 dsimp only
 rw [br_f (beq_eq_false_iff_ne.2 (by omega)), gd_t (by rw [decide_eq_false (by omega)]; rfl), ht]
 generalize W % L.length = k at hk ⊢
 have hlk := e3 _ (lg_mem hk)
 have hset : L.set ((k : Int)).toNat (lg L k ++ [TEntry.mk 9 false (TTxn.mk 9 9 [] [])]) = more L k (TEntry.mk 9 false (TTxn.mk 9 9 [] [])) := by rw [Int.toNat_natCast]; rfl
 rw [gd_t (decide_eq_true (by simp; omega)), ix_n (lg_get hk), gd_t (decide_eq_true (by simp; omega)), gd_t (decide_eq_true (by simp; omega)), ix_n (lg_get hk), hset]
 have hM : LG (more L k (TEntry.mk 9 false (TTxn.mk 9 9 [] []))) := more_LG hLG hk hlk.1 ⟨Nat.zero_le _, Nat.zero_le _⟩
 have hin : ∀ u, u < D → u % L.length = k → u / L.length + 1 < (cu L k).length := fun u hu hk' => by
  have g1 := bat_in hLG (t := u) (fun v hv => d2 v (by omega))
  have g2 := d2 u hu
  unfold stp at g2
  rw [hk'] at g1 g2
  omega
 obtain ⟨n1, _⟩ := merge_e hM (fu := 2000) (by omega) ((stp_false hk rfl D).2 d1) (fun u hu g => d2 u hu ((stp_false hk rfl u).1 g)) d3
 have hpre : ord L (D + 1) <+: ord (more L k (TEntry.mk 9 false (TTxn.mk 9 9 [] []))) (D + 1) := by
  rw [ord_succ, ord_succ, ord_more hk (fun u hu hk' => .inl (hin u hu hk')), more_len]
  refine (List.prefix_append_right_inj _).2 ?_
  by_cases hkD : D % L.length = k
  ·have g1 := bat_in hLG (t := D) d2
   unfold stp at d1
   have hb : bat (more L k (TEntry.mk 9 false (TTxn.mk 9 9 [] []))) D = bat L D ++ [((lg L k).length : Int) + 1] := by
    obtain ⟨A, b, hAb⟩ := split_last (cu L k) (cu_pos k)
    rw [hkD] at d1
    have hA : D / L.length = A.length := by
     rw [hAb] at d1; simp at d1; exact d1
    unfold bat
    rw [more_len, hkD, more_ck hk, hA, hAb]
    show (stepR (A ++ [b]) _ false).getD _ _ = _
    rw [stepR_app]
    simp
   rw [hb]
   have : plc (more L k (TEntry.mk 9 false (TTxn.mk 9 9 [] []))) (D % L.length) (bat L D ++ [((lg L k).length : Int) + 1]) = plc (more L k (TEntry.mk 9 false (TTxn.mk 9 9 [] []))) (D % L.length) (bat L D) ++ plc (more L k (TEntry.mk 9 false (TTxn.mk 9 9 [] []))) (D % L.length) [((lg L k).length : Int) + 1] := by simp [plc]
   rw [this, plc_more hk bat_bd]
   exact List.prefix_append _ _
  ·rw [bat_more hk (fun g => absurd g hkD), plc_more hk bat_bd]
   exact List.prefix_refl _
 have hol2 := ord_len hM (D + 1)
 obtain ⟨v, f1, f2⟩ := first_e (fu := 2000) (l := ord (more L k (TEntry.mk 9 false (TTxn.mk 9 9 [] []))) (D + 1)) (s := 9) (q := 9) (m := (ord L (D + 1)).length) (by omega) (by omega) (fun x hx => by
  rw [← List.prefix_iff_eq_take.1 hpre] at hx
  obtain ⟨l, hl, e, he, hT⟩ := ord_txn hLG hx
  have := ((e3 l hl).2 e he).2.2
  rw [hT]; omega)
 rw [bd_s n1, bd_s f1]
 by_cases hv : v = 0
 ·rw [br_t (by simpa using hv)]
 ·rw [br_f (by simpa using hv), decide_eq_true (by omega)]
end Go.Proofs.Ytepaajbkmkclnaa.Told.PureMergeOnce
