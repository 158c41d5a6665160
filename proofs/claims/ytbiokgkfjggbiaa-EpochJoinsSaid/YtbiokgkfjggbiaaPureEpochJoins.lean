/- The plain law of EpochJoins: behind a Seal the batches begin anew. -/
import Derived.Test.YtbiokgkfjggbiaaTEp
import Derived.Test.YtbiokgkfjggbiaaTPicks
import Derived.Test.YtbiokgkfjggbiaaTInts
namespace Go.Proofs.Ytbiokgkfjggbiaa.Told.PureEpochJoins
open Go Go.Proofs.Ytbiokgkfjggbiaa.Vam Go.Proofs.Ytbiokgkfjggbiaa.Told Go.Proofs.Ytbiokgkfjggbiaa.Told.EP Go.Proofs.Ytbiokgkfjggbiaa.Told.PK Go.Proofs.Ytbiokgkfjggbiaa.Told.JF Go.Proofs.Ytbiokgkfjggbiaa.Ep
set_option linter.unusedSimpArgs false
set_option linter.unusedVariables false
theorem begun_e : diwanlaw13_begun = some true := by kernel_rfl
theorem runR_app : ∀ (xs ys : List Bool) (i : Nat) (A : List (List Int)), runR i (xs ++ ys) A = runR (i + xs.length) ys (runR i xs A)
 | [], ys, i, A => rfl
 | x :: xs, ys, i, A => by
  simp only [List.cons_append, runR, List.length_cons]
  rw [runR_app xs ys (i + 1)]
  congr 1; omega
theorem rd_last (A : List (List Int)) (h : A ≠ []) : rd_L9 A ((A.length : Int) - 1) = A.getD (A.length - 1) [] := by
 have := List.length_pos_iff.2 h
 have it : ((A.length : Int) - 1).toNat = A.length - 1 := by omega
 unfold rd_L9; rw [it]
theorem step_front (A B : List (List Int)) (h : B ≠ []) (p : Int) (s : Bool) : stepR (A ++ B) p s = A ++ stepR B p s := by
 have hB := List.length_pos_iff.2 h
 cases s
 ·have hAB : A ++ B ≠ [] := by simp [h]
  show (A ++ B).set ((A ++ B).length - 1) (rd_L9 (A ++ B) (((A ++ B).length : Int) - 1) ++ [p]) = A ++ B.set (B.length - 1) (rd_L9 B ((B.length : Int) - 1) ++ [p])
  rw [rd_last _ hAB, rd_last _ h]
  have e : (A ++ B).length - 1 = A.length + (B.length - 1) := by rw [List.length_append]; omega
  rw [e, List.set_append_right _ _ (by omega), List.getD_eq_getElem?_getD, List.getD_eq_getElem?_getD, List.getElem?_append_right (by omega), Nat.add_sub_cancel_left]
 ·show A ++ B ++ [[]] = A ++ (B ++ [[]])
  rw [List.append_assoc]
theorem step_ne (B : List (List Int)) (h : B ≠ []) (p : Int) (s : Bool) : stepR B p s ≠ [] := by
 have := (stepR_len B p s).1
 have hB := List.length_pos_iff.2 h
 exact List.length_pos_iff.1 (by omega)
theorem run_front : ∀ (ys : List Bool) (i : Nat) (A B : List (List Int)), B ≠ [] → runR i ys (A ++ B) = A ++ runR i ys B
 | [], i, A, B, h => rfl
 | b :: ys, i, A, B, h => by
  simp only [runR]
  rw [step_front A B h, run_front ys (i + 1) A _ (step_ne B h _ _)]
def sh (k : Int) (B : List (List Int)) : List (List Int) := B.map fun r => r.map fun v => v + k
theorem step_sh (k : Int) (B : List (List Int)) (h : B ≠ []) (p : Int) (s : Bool) : stepR (sh k B) (p + k) s = sh k (stepR B p s) := by
 cases s
 ·have h2 : sh k B ≠ [] := by unfold sh; simp [h]
  show (sh k B).set ((sh k B).length - 1) (rd_L9 (sh k B) (((sh k B).length : Int) - 1) ++ [p + k]) = sh k (B.set (B.length - 1) (rd_L9 B ((B.length : Int) - 1) ++ [p]))
  rw [rd_last _ h2, rd_last _ h]
  have el : (sh k B).length = B.length := by unfold sh; simp
  rw [el]
  unfold sh
  rw [List.map_set, List.map_append]
  congr 2
  rw [List.getD_eq_getElem?_getD, List.getD_eq_getElem?_getD, List.getElem?_map]
  cases B[B.length - 1]? <;> rfl
 ·show sh k B ++ [[]] = sh k (B ++ [[]])
  unfold sh; simp
theorem run_sh (k : Nat) : ∀ (ys : List Bool) (i : Nat) (B : List (List Int)), B ≠ [] → runR (i + k) ys (sh (k : Int) B) = sh (k : Int) (runR i ys B)
 | [], i, B, h => rfl
 | b :: ys, i, B, h => by
  simp only [runR]
  have e : ((i + k : Nat) : Int) + 1 = ((i : Int) + 1) + (k : Int) := by omega
  have e2 : i + k + 1 = (i + 1) + k := by omega
  rw [e, step_sh (k : Int) B h, e2, run_sh k ys (i + 1) _ (step_ne B h _ _)]
theorem cut_join (a b : List TEntry) (x : TEntry) (hx : x.Seal = true) : cutB ((a ++ [x]) ++ b) = cutB a ++ sh ((a.length + 1 : Nat) : Int) (cutB b) := by
 have e : sealsOf ((a ++ [x]) ++ b) = (sealsOf a ++ [true]) ++ sealsOf b := by unfold sealsOf; simp [hx]
 have el : (sealsOf a ++ [true]).length = a.length + 1 := by unfold sealsOf; simp
 unfold cutB
 rw [e, runR_app, runR_snoc, el]
 show runR (0 + (a.length + 1)) (sealsOf b) (runR 0 (sealsOf a) [[]] ++ [[]]) = _
 rw [run_front _ _ _ _ (by simp)]
 congr 1
 have e3 : ([[]] : List (List Int)) = sh ((a.length + 1 : Nat) : Int) [[]] := rfl
 rw [e3, run_sh (a.length + 1) (sealsOf b) 0 [[]] (by simp)]
 rfl
theorem inner (fu : Nat) (l : List TEntry) (A B C : List (List Int)) (i : Nat) (x : List Int) (hi : C[i]? = some (x.map fun v => v + ((l.length + 1 : Nat) : Int))) (hl : l.length ≤ 1000) (hx : ∀ v ∈ x, -1000000 ≤ v ∧ v ≤ 1000000) (hxl : x.length ≤ 1000000) : ∀ (d j n : Nat), j + d = x.length → d < n → diwanlaw13_EpochJoins.lp31 fu l A B C (i : Int) x n (j : Int) = some (.inl ())
 | 0, j, n, h, hn => by
  obtain ⟨n, rfl⟩ : ∃ m, n = m + 1 := ⟨n - 1, by omega⟩
  rw [diwanlaw13_EpochJoins.lp31, br_f (decide_eq_false (by omega))]
 | d + 1, j, n, h, hn => by
  obtain ⟨n, rfl⟩ : ∃ m, n = m + 1 := ⟨n - 1, by omega⟩
  have hj : x[j]? = some x[j] := List.getElem?_eq_getElem (by omega)
  have hj2 : (x.map fun v => v + ((l.length + 1 : Nat) : Int))[j]? = some (x[j] + ((l.length + 1 : Nat) : Int)) := by rw [List.getElem?_map, hj]; rfl
  have hb := hx x[j] (List.getElem_mem (by omega))
  have hw : w64 ((j : Int) + 1) = ((j + 1 : Nat) : Int) := by rw [w64_id (by omega) (by omega)]; omega
  have hv : w64 (w64 (x[j] + (l.length : Int)) + 1) = x[j] + ((l.length + 1 : Nat) : Int) := by
   rw [w64_id (n := x[j] + (l.length : Int)) (by omega) (by omega), w64_id (by omega) (by omega)]; omega
  rw [diwanlaw13_EpochJoins.lp31, br_t (decide_eq_true (by omega)), ix_n hi, ix_n hj2, ix_n hj, hv, br_f (by simp), hw]
  exact inner fu l A B C i x hi hl hx hxl d (j + 1) n (by omega) (by omega)
theorem outer (fu : Nat) (l : List TEntry) (A B : List (List Int)) (hl : l.length ≤ 1000) (hA : A.length ≤ 1000) (hB : B.length ≤ 1000) (hrA : ∀ r ∈ A, r.length ≤ 1000000 ∧ r.length < fu) (hrB : ∀ r ∈ B, (r.length ≤ 1000000 ∧ r.length < fu) ∧ ∀ v ∈ r, -1000000 ≤ v ∧ v ≤ 1000000) : ∀ (d i n : Nat), i + d = A.length + B.length → d < n → diwanlaw13_EpochJoins.lp17 fu l A B (A ++ sh ((l.length + 1 : Nat) : Int) B) n (i : Int) = some (.inl ())
 | 0, i, n, hi, hn => by
  obtain ⟨n, rfl⟩ : ∃ m, n = m + 1 := ⟨n - 1, by omega⟩
  have hlen : (A ++ sh ((l.length + 1 : Nat) : Int) B).length = A.length + B.length := by unfold sh; simp
  rw [diwanlaw13_EpochJoins.lp17, br_f (decide_eq_false (by rw [hlen]; omega))]
 | d + 1, i, n, hi, hn => by
  obtain ⟨n, rfl⟩ : ∃ m, n = m + 1 := ⟨n - 1, by omega⟩
  have hlen : (A ++ sh ((l.length + 1 : Nat) : Int) B).length = A.length + B.length := by unfold sh; simp
  have hw : w64 ((i : Int) + 1) = ((i + 1 : Nat) : Int) := by rw [w64_id (by omega) (by omega)]; omega
  have next := outer fu l A B hl hA hB hrA hrB d (i + 1) n (by omega) (by omega)
  rw [diwanlaw13_EpochJoins.lp17, br_t (decide_eq_true (by rw [hlen]; omega)), hw]
  by_cases hiA : i < A.length
  ·have ha : A[i]? = some A[i] := List.getElem?_eq_getElem hiA
   have hc : (A ++ sh ((l.length + 1 : Nat) : Int) B)[i]? = some A[i] := by rw [List.getElem?_append_left hiA]; exact ha
   obtain ⟨r1, r2⟩ := hrA A[i] (List.getElem_mem hiA)
   rw [br_t (decide_eq_true (by omega)), ix_n hc, ix_n ha, bd_s (ints_e r1 r2), br_f (by rfl)]
   exact next
  ·have hk : i - A.length < B.length := by omega
   have hb : B[i - A.length]? = some B[i - A.length] := List.getElem?_eq_getElem hk
   have hc : (A ++ sh ((l.length + 1 : Nat) : Int) B)[i]? = some (B[i - A.length].map fun v => v + ((l.length + 1 : Nat) : Int)) := by
    rw [List.getElem?_append_right (by omega)]
    unfold sh
    rw [List.getElem?_map, hb]; rfl
   obtain ⟨⟨r1, r2⟩, r3⟩ := hrB B[i - A.length] (List.getElem_mem hk)
   have hsub : w64 ((i : Int) - (A.length : Int)) = ((i - A.length : Nat) : Int) := by rw [w64_id (by omega) (by omega)]; omega
   have inn := inner fu l A B _ i B[i - A.length] hc hl r3 r1 B[i - A.length].length 0 fu (by omega) r2
   simp only [Int.natCast_zero] at inn
   rw [br_f (decide_eq_false (by omega)), hsub, ix_n hb, ix_n hc, br_f (by simp), bd_s inn]
   exact next
theorem stepR_val {rows : List (List Int)} {pos : Int} {sl : Bool} {m : Int} (h : ∀ r ∈ rows, ∀ v ∈ r, 0 ≤ v ∧ v ≤ m) (hp : 0 ≤ pos ∧ pos ≤ m) : ∀ r ∈ stepR rows pos sl, ∀ v ∈ r, 0 ≤ v ∧ v ≤ m := by
 intro r hr v hv
 cases sl
 ·simp only [stepR, cond_false] at hr
  rcases List.mem_or_eq_of_mem_set hr with g | g
  ·exact h r g v hv
  ·subst g
   rcases List.mem_append.1 hv with g | g
   ·unfold rd_L9 at g
    rw [List.getD_eq_getElem?_getD] at g
    cases hx : rows[((rows.length : Int) - 1).toNat]? with
    | none => rw [hx] at g; simp at g
    | some q => rw [hx] at g; exact h q (List.mem_of_getElem? hx) v g
   ·rw [List.mem_singleton.1 g]; exact hp
 ·simp only [stepR, cond_true] at hr
  rcases List.mem_append.1 hr with g | g
  ·exact h r g v hv
  ·rw [List.mem_singleton.1 g] at hv; simp at hv
theorem runR_val : ∀ (xs : List Bool) (i : Nat) (rows : List (List Int)) (m : Int), (∀ r ∈ rows, ∀ v ∈ r, 0 ≤ v ∧ v ≤ m) → ((i + xs.length : Nat) : Int) ≤ m → ∀ r ∈ runR i xs rows, ∀ v ∈ r, 0 ≤ v ∧ v ≤ m
 | [], i, rows, m, h, hm => h
 | b :: xs, i, rows, m, h, hm => by
  simp only [List.length_cons] at hm
  exact runR_val xs (i + 1) _ m (stepR_val h (by omega)) (by omega)
theorem log10 {n : Int} (hn : 0 ≤ n ∧ n < 256) {picks : List Int} (k : ∀ x ∈ picks, okI .u8 x) (hl : picks.length ≤ 1000000) : ∃ l o', diwanplay_Picks_Log 100 (w64 (Int.tmod n 10)) (TPicks.mk picks 0) = some (l, o') ∧ l.length ≤ 9 := by
 obtain ⟨N, rfl⟩ : ∃ N : Nat, n = (N : Int) := ⟨n.toNat, by omega⟩
 have ht : w64 (Int.tmod (N : Int) 10) = ((N % 10 : Nat) : Int) := by
  have : Int.tmod (N : Int) 10 = ((N % 10 : Nat) : Int) := by simp [Int.tmod]
  rw [this, w64_id (by omega) (by omega)]
 obtain ⟨l, o', e1, e2, e3, e4⟩ := log_e (fu := 100) (N := N % 10) (by omega) (by omega) (by omega) (made_inv k hl)
 rw [ht]
 exact ⟨l, o', e1, by omega⟩
theorem holds (a b : List Int) (n_v m : Int) (k0 : okL (okI .u8) a) (k1 : okL (okI .u8) b) (k2 : okI .u8 n_v) (k3 : okI .u8 m) : ∃ fu, diwanlaw13_EpochJoins fu a b n_v m = some true := by
 refine ⟨100, ?_⟩
 unfold diwanlaw13_EpochJoins
 rw [bd_s begun_e, br_f (b := !true) rfl]
 by_cases h1 : (a.length : Int) > 100
 ·rw [br_t (decide_eq_true h1)]
 rw [br_f (decide_eq_false h1)]
 by_cases h2 : (b.length : Int) > 100
 ·rw [br_t (decide_eq_true h2)]
 rw [br_f (decide_eq_false h2)]
 obtain ⟨l1, o1, e1, n1⟩ := log10 (okI_u8 k2) k0.2 (by omega)
 obtain ⟨l2, o2, e2, n2⟩ := log10 (okI_u8 k3) k1.2 (by omega)
 have m1 : diwanplay_Made a = some (TPicks.mk a 0) := rfl
 have m2 : diwanplay_Made b = some (TPicks.mk b 0) := rfl
 rw [bd_s m1, bd_s e1]
 dsimp only
 rw [bd_s m2, bd_s e2]
 dsimp only
 have hj := cut_join l1 l2 (TEntry.mk 9 true (TTxn.mk 0 0 [] [])) rfl
 have hc1 := cut_len l1
 have hc2 := cut_len l2
 have hlen : (cutB l1 ++ sh ((l1.length + 1 : Nat) : Int) (cutB l2)).length = (cutB l1).length + (cutB l2).length := by unfold sh; simp
 have h3 : ((l1 ++ [TEntry.mk 9 true (TTxn.mk 0 0 [] [])]) ++ l2).length ≤ 100000 := by simp; omega
 rw [gd_t (decide_eq_true (by simp; omega)), gd_t (decide_eq_true (by simp; omega)), gd_t (decide_eq_true (by simp; omega)), bd_s (cut_e (by omega)), bd_s (cut_e (by omega)), bd_s (cut_e h3), hj, hlen, w64_id (n := ((cutB l1).length : Int) + ((cutB l2).length : Int)) (by omega) (by omega), br_f (by simp), bd_s (sealed_e h3), hj, hlen, bd_s (sealed_e (by omega)), bd_s (sealed_e (by omega))]
 have hs : w64 (w64 (((cutB l1).length : Int) - 1 + (((cutB l2).length : Int) - 1)) + 1) = (((cutB l1).length + (cutB l2).length : Nat) : Int) - 1 := by
  rw [w64_id (n := ((cutB l1).length : Int) - 1 + (((cutB l2).length : Int) - 1)) (by omega) (by omega), w64_id (by omega) (by omega)]; omega
 rw [hs, br_f (by simp)]
 have hv := runR_val (sealsOf l2) 0 [[]] 1000 (fun r hr v hv => by rw [List.mem_singleton.1 hr] at hv; simp at hv) (by unfold sealsOf; simp; omega)
 have lp := outer 100 l1 (cutB l1) (cutB l2) (by omega) (by omega) (by omega) (fun r hr => by have := hc1.2.2 r hr; omega) (fun r hr => ⟨by have := hc2.2.2 r hr; omega, fun v hvm => by have := hv r hr v hvm; omega⟩) ((cutB l1).length + (cutB l2).length) 0 100 (by omega) (by omega)
 simp only [Int.natCast_zero] at lp
 rw [bd_s lp]
end Go.Proofs.Ytbiokgkfjggbiaa.Told.PureEpochJoins
