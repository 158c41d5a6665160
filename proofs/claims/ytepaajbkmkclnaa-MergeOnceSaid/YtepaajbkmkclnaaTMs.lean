/- One log goes on by an entry: what becomes of the order. -/
import Derived.Test.YtepaajbkmkclnaaTMl
namespace Go.Proofs.Ytepaajbkmkclnaa.Told.MH
open Go Go.Proofs.Ytepaajbkmkclnaa.Vam Go.Proofs.Ytepaajbkmkclnaa.Told Go.Proofs.Ytepaajbkmkclnaa.Told.EP Go.Proofs.Ytepaajbkmkclnaa.Told.PK Go.Proofs.Ytepaajbkmkclnaa.Ep
set_option linter.unusedSimpArgs false
set_option linter.unusedVariables false
def more (L : List (List TEntry)) (k : Nat) (e : TEntry) : List (List TEntry) := L.set k (lg L k ++ [e])
section
variable {L : List (List TEntry)} {k : Nat} {e : TEntry}
theorem more_len : (more L k e).length = L.length := by simp [more]
theorem more_lg {p : Nat} (h : p ≠ k) : lg (more L k e) p = lg L p := by
 unfold lg more
 rw [List.getD_eq_getElem?_getD, List.getD_eq_getElem?_getD, List.getElem?_set_ne (fun g => h g.symm)]
theorem more_k (h : k < L.length) : lg (more L k e) k = lg L k ++ [e] := by
 unfold more
 rw [lg, List.getD_eq_getElem?_getD, List.getElem?_set_self h]; rfl
theorem more_cu {p : Nat} (h : p ≠ k) : cu (more L k e) p = cu L p := by
 unfold cu; rw [more_lg h]
theorem more_ck (h : k < L.length) : cu (more L k e) k = stepR (cu L k) (((lg L k).length : Int) + 1) e.Seal := by
 unfold cu; rw [more_k h, cut_snoc]
theorem more_LG (h : LG L) (hk : k < L.length) (hl : (lg L k).length ≤ 15) (he : e.T.Reads.length ≤ 10 ∧ e.T.Writes.length ≤ 10) : LG (more L k e) := by
 have hm : ∀ l ∈ more L k e, l ∈ L ∨ l = lg L k ++ [e] := fun l hl => List.mem_or_eq_of_mem_set hl
 refine ⟨by rw [more_len]; exact h.n1, fun l hl' => ?_, fun l hl' x hx => ?_⟩
 ·rcases hm l hl' with g | g
  ·exact h.sz l g
  ·rw [g]; simp; omega
 ·rcases hm l hl' with g | g
  ·exact h.sm l g x hx
  ·rw [g] at hx
   rcases List.mem_append.1 hx with q | q
   ·exact h.sm _ (lg_mem hk) x q
   ·rw [List.mem_singleton.1 q]; exact he
theorem plc_more (hk : k < L.length) {p : Nat} {b : List Int} (hb : ∀ i ∈ b, 1 ≤ i ∧ i ≤ ((lg L p).length : Int)) : plc (more L k e) p b = plc L p b := by
 unfold plc
 apply List.map_congr_left
 intro i hi
 obtain ⟨h1, h2⟩ := hb i hi
 by_cases hp : p = k
 ·subst hp
  rw [more_k hk]
  unfold enT
  rw [List.getD_eq_getElem?_getD, List.getD_eq_getElem?_getD, List.getElem?_append_left (by omega)]
 ·rw [more_lg hp]
theorem bat_more (hk : k < L.length) {u : Nat} (h : u % L.length = k → u / L.length + 1 < (cu L k).length ∨ (e.Seal = true ∧ u / L.length < (cu L k).length)) : bat (more L k e) u = bat L u := by
 unfold bat
 rw [more_len]
 by_cases hp : u % L.length = k
 ·have h1 := h hp
  rw [hp, more_ck hk]
  rw [List.getD_eq_getElem?_getD, List.getD_eq_getElem?_getD]
  unfold stepR
  cases hs : e.Seal
  ·rw [hs] at h1
   have h2 : u / L.length + 1 < (cu L k).length := h1.elim id (fun g => by cases g.1)
   rw [cond_false, List.getElem?_set_ne (by omega)]
  ·have h2 : u / L.length < (cu L k).length := h1.elim (fun g => by omega) (fun g => g.2)
   rw [cond_true, List.getElem?_append_left h2]
 ·rw [more_cu hp]
theorem ord_more (hk : k < L.length) : ∀ {t : Nat}, (∀ u, u < t → u % L.length = k → u / L.length + 1 < (cu L k).length ∨ (e.Seal = true ∧ u / L.length < (cu L k).length)) → ord (more L k e) t = ord L t
 | 0, _ => rfl
 | t + 1, h => by
  rw [ord_succ, ord_succ, ord_more hk (fun u hu => h u (by omega)), bat_more hk (h t (by omega)), more_len, plc_more hk bat_bd]
theorem ord_pre (L : List (List TEntry)) (t : Nat) : ∀ d, ord L t <+: ord L (t + d)
 | 0 => List.prefix_refl _
 | d + 1 => (ord_pre L t d).trans (by rw [show t + (d + 1) = t + d + 1 by omega, ord_succ]; exact List.prefix_append _ _)
theorem stp_ne {u : Nat} (h : u % L.length ≠ k) : stp (more L k e) u ↔ stp L u := by
 unfold stp
 rw [more_len, more_cu h]
theorem step_false_len (A : List (List Int)) (p : Int) : (stepR A p false).length = A.length := by simp [stepR]
theorem stp_false (hk : k < L.length) (he : e.Seal = false) (u : Nat) : stp (more L k e) u ↔ stp L u := by
 by_cases h : u % L.length = k
 ·unfold stp
  rw [more_len, h, more_ck hk, he, step_false_len]
 ·exact stp_ne h
theorem stp_true (hk : k < L.length) (he : e.Seal = true) {u : Nat} (h : u % L.length = k) (hu : u / L.length < (cu L k).length) : ¬ stp (more L k e) u := by
 unfold stp
 rw [more_len, h, more_ck hk, he]
 simp [stepR]; omega
end
end Go.Proofs.Ytepaajbkmkclnaa.Told.MH
