/- What Picks' Txns give. -/
import Derived.Test.YtknkeabmjleoiaaTPk1
namespace Go.Proofs.Ytknkeabmjleoiaa.Told.PK
open Go Go.Proofs.Ytknkeabmjleoiaa.Vam Go.Proofs.Ytknkeabmjleoiaa.Told
set_option linter.unusedSimpArgs false
set_option linter.unusedVariables false
theorem txr_lp (fu : Nat) (a : Int) (L : List TTxn) (mp : List (ByteArray × Int)) (j : Int) (hj : 0 ≤ j ∧ j < 1000) : ∀ (d i n : Nat) (t : TTxn) (o : TPicks), i + d = t.Reads.length → t.Reads.length ≤ 1000 → d < n → PInv o →
  ∃ t' o', diwanplay_Picks_Txns.lp11 fu a L mp j n (i : Int) t o = some (t', o') ∧ PInv o' ∧ t'.Reads.length = t.Reads.length ∧ t'.Session = t.Session ∧ t'.Seq = t.Seq ∧ t'.Writes = t.Writes
 | 0, i, n, t, o, h, hl, hn, ho => by
  obtain ⟨n, rfl⟩ : ∃ m, n = m + 1 := ⟨n - 1, by omega⟩
  rw [diwanplay_Picks_Txns.lp11, br_f (decide_eq_false (by omega))]
  exact ⟨t, o, rfl, ho, rfl, rfl, rfl, rfl⟩
 | d + 1, i, n, t, o, h, hl, hn, ho => by
  obtain ⟨n, rfl⟩ : ∃ m, n = m + 1 := ⟨n - 1, by omega⟩
  have hx : t.Reads[i]? = some t.Reads[i] := List.getElem?_eq_getElem (by omega)
  have e1 : w64 ((i : Int) + 1) = ((i + 1 : Nat) : Int) := by rw [w64_id (by omega) (by omega)]; omega
  have e2 : w64 (j + 1) = j + 1 := w64_id (by omega) (by omega)
  rw [diwanplay_Picks_Txns.lp11, br_t (decide_eq_true (by omega)), ix_n hx, ix_n hx, e1, e2]
  obtain ⟨v, o1, h1, i1, _, _, _⟩ := num_e ho (m := 8) (by decide)
  rw [bd_s h1]
  dsimp only
  cases (v == 0)
  ·rw [br_f rfl]
   obtain ⟨t', o', g1, g2, g3, g4, g5, g6⟩ := txr_lp fu a L mp j hj d (i + 1) n (TTxn.mk t.Session t.Seq (t.Reads.set (i : Int).toNat (TRead.mk t.Reads[i].Key ((alook eqS mp t.Reads[i].Key).getD 0) t.Reads[i].Val t.Reads[i].There)) t.Writes) o1 (by simp; omega) (by simpa using hl) (by omega) i1
   exact ⟨t', o', g1, g2, by rw [g3]; simp, g4, g5, g6⟩
  ·rw [br_t rfl]
   obtain ⟨w, o2, h2, i2, _, _, _⟩ := num_e i1 (m := j + 1) (by omega)
   rw [bd_s h2]
   dsimp only
   have hy : (t.Reads.set (i : Int).toNat (TRead.mk t.Reads[i].Key ((alook eqS mp t.Reads[i].Key).getD 0) t.Reads[i].Val t.Reads[i].There))[i]? = some (TRead.mk t.Reads[i].Key ((alook eqS mp t.Reads[i].Key).getD 0) t.Reads[i].Val t.Reads[i].There) := by
    rw [Int.toNat_natCast]; exact List.getElem?_set_self (by omega)
   rw [ix_n hy]
   obtain ⟨t', o', g1, g2, g3, g4, g5, g6⟩ := txr_lp fu a L mp j hj d (i + 1) n (TTxn.mk t.Session t.Seq ((t.Reads.set (i : Int).toNat (TRead.mk t.Reads[i].Key ((alook eqS mp t.Reads[i].Key).getD 0) t.Reads[i].Val t.Reads[i].There)).set (i : Int).toNat (TRead.mk t.Reads[i].Key w t.Reads[i].Val t.Reads[i].There)) t.Writes) o2 (by simp; omega) (by simpa using hl) (by omega) i2
   exact ⟨t', o', g1, g2, by rw [g3]; simp, g4, g5, g6⟩
theorem txw_lp (fu : Nat) (a : Int) (L : List TTxn) (j : Int) (t : TTxn) (hl : t.Writes.length ≤ 1000) : ∀ (d i n : Nat) (mp : List (ByteArray × Int)) (o : TPicks), i + d = t.Writes.length → d < n → PInv o →
  ∃ mp' o', diwanplay_Picks_Txns.lp22 fu a L j t n mp (i : Int) o = some (mp', o') ∧ PInv o'
 | 0, i, n, mp, o, h, hn, ho => by
  obtain ⟨n, rfl⟩ : ∃ m, n = m + 1 := ⟨n - 1, by omega⟩
  rw [diwanplay_Picks_Txns.lp22, br_f (decide_eq_false (by omega))]
  exact ⟨mp, o, rfl, ho⟩
 | d + 1, i, n, mp, o, h, hn, ho => by
  obtain ⟨n, rfl⟩ : ∃ m, n = m + 1 := ⟨n - 1, by omega⟩
  have hx : t.Writes[i]? = some t.Writes[i] := List.getElem?_eq_getElem (by omega)
  have e1 : w64 ((i : Int) + 1) = ((i + 1 : Nat) : Int) := by rw [w64_id (by omega) (by omega)]; omega
  rw [diwanplay_Picks_Txns.lp22, br_t (decide_eq_true (by omega)), e1]
  obtain ⟨v, o1, h1, i1, _, _, _⟩ := num_e ho (m := 9) (by decide)
  rw [bd_s h1]
  dsimp only
  cases decide (v > 0)
  ·rw [br_f rfl]; exact ⟨mp, o1, rfl, i1⟩
  ·rw [br_t rfl, ix_n hx]
   exact txw_lp fu a L j t hl d (i + 1) n _ o1 (by omega) (by omega) i1
structure TOk (t : TTxn) : Prop where
 se : 1 ≤ t.Session ∧ t.Session ≤ 3
 sq : 1 ≤ t.Seq ∧ t.Seq ≤ 1000
 rl : t.Reads.length ≤ 3
 wl : t.Writes.length ≤ 3
 wk : (t.Writes.map (·.Key)).Sublist six
 wv : ∀ w ∈ t.Writes, WrOk w
theorem txs_lp {fu : Nat} (hf : 20 ≤ fu) (N : Nat) (hN : N ≤ 100) : ∀ (d i n : Nat) (l : List TTxn) (mp : List (ByteArray × Int)) (o : TPicks), i + d = N → l.length = i → (∀ t ∈ l, TOk t) → d < n → PInv o →
  ∃ l' o', diwanplay_Picks_Txns.lp5 fu (N : Int) n l mp (i : Int) o = some (l', o') ∧ PInv o' ∧ l'.length = N ∧ ∀ t ∈ l', TOk t
 | 0, i, n, l, mp, o, h, hl, ht, hn, ho => by
  obtain ⟨n, rfl⟩ : ∃ m, n = m + 1 := ⟨n - 1, by omega⟩
  rw [diwanplay_Picks_Txns.lp5, br_f (decide_eq_false (by omega))]
  exact ⟨l, o, rfl, ho, by omega, ht⟩
 | d + 1, i, n, l, mp, o, h, hl, ht, hn, ho => by
  obtain ⟨n, rfl⟩ : ∃ m, n = m + 1 := ⟨n - 1, by omega⟩
  have e1 : w64 ((i : Int) + 1) = ((i + 1 : Nat) : Int) := by rw [w64_id (by omega) (by omega)]; omega
  rw [diwanplay_Picks_Txns.lp5, br_t (decide_eq_true (by omega)), e1]
  obtain ⟨t, o1, h1, i1, tx⟩ := txn_e hf 1 ho
  rw [bd_s h1]
  dsimp only
  obtain ⟨a, o2, h2, i2, a1, a2, _⟩ := num_e i1 (m := 2) (by decide)
  rw [bd_s h2]
  dsimp only
  have q1 : Int.tdiv (i : Int) 2 = (i : Int) / 2 := Int.tdiv_eq_ediv_of_nonneg (by omega)
  have q2 : w64 (w64 (1 + w64 (Int.tdiv (i : Int) 2)) + a) = 1 + (i : Int) / 2 + a := by rw [q1, w64_id (n := (i : Int) / 2) (by omega) (by omega), w64_id (n := 1 + (i : Int) / 2) (by omega) (by omega), w64_id (by omega) (by omega)]
  have hr := tx.rl
  have hw := tx.wl
  obtain ⟨t', o3, g1, g2, g3, g4, g5, g6⟩ := txr_lp fu (N : Int) l mp (i : Int) (by omega) t.Reads.length 0 fu (TTxn.mk t.Session (w64 (w64 (1 + w64 (Int.tdiv (i : Int) 2)) + a)) t.Reads t.Writes) o2 (by simp) (by show t.Reads.length ≤ 1000; omega) (by omega) i2
  simp only [Int.natCast_zero] at g1
  rw [bd_s g1]
  dsimp only
  obtain ⟨mp', o4, k1, k2⟩ := txw_lp fu (N : Int) l (i : Int) t' (by rw [g6]; show t.Writes.length ≤ 1000; omega) t'.Writes.length 0 fu mp o3 (by simp) (by rw [g6]; show t.Writes.length < fu; omega) g2
  simp only [Int.natCast_zero] at k1
  rw [bd_s k1]
  dsimp only
  rw [gd_t (decide_eq_true (by simp; omega))]
  refine txs_lp hf N hN d (i + 1) n (l ++ [t']) mp' o4 (by omega) (by simp; omega) (fun u hu => ?_) (by omega) k2
  rcases List.mem_append.1 hu with hu | hu
  ·exact ht u hu
  ·rw [List.mem_singleton.1 hu]
   simp only at g3 g4 g5 g6
   exact ⟨by rw [g4]; exact tx.se, by rw [g5, q2]; omega, by rw [g3]; exact hr, by rw [g6]; exact hw, by rw [g6]; exact tx.wk, by rw [g6]; exact tx.wv⟩
theorem txs_e {fu : Nat} (hf : 200 ≤ fu) (N : Nat) (hN : N ≤ 100) {o : TPicks} (ho : PInv o) : ∃ l o', diwanplay_Picks_Txns fu (N : Int) o = some (l, o') ∧ PInv o' ∧ l.length = N ∧ ∀ t ∈ l, TOk t := by
 obtain ⟨l, o', h1, h2, h3, h4⟩ := txs_lp (fu := fu) (by omega) N hN N 0 fu [] [] o (by omega) rfl (fun t h => by cases h) (by omega) ho
 simp only [Int.natCast_zero] at h1
 unfold diwanplay_Picks_Txns
 rw [bd_s h1]
 exact ⟨l, o', rfl, h2, h3, h4⟩
end Go.Proofs.Ytknkeabmjleoiaa.Told.PK
