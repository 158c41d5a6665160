/- The picks never fail: numbers, keys, transactions, logs out of bytes. -/
import Derived.Test.YtbiokgkfjggbiaaFitEpochJoins
import Derived.Test.YtbiokgkfjggbiaaTMath
namespace Go.Proofs.Ytbiokgkfjggbiaa.Told.PK
open Go Go.Proofs.Ytbiokgkfjggbiaa.Vam Go.Proofs.Ytbiokgkfjggbiaa.Told
set_option linter.unusedSimpArgs false
set_option linter.unusedVariables false
def PInv (o : TPicks) : Prop := (∀ x ∈ o.l, 0 ≤ x ∧ x < 256) ∧ 0 ≤ o.n ∧ o.l.length ≤ 1000000
theorem num_e {o : TPicks} (h : PInv o) {m : Int} (hm : 1 ≤ m) : ∃ v o', diwanplay_Picks_Num m o = some (v, o') ∧ PInv o' ∧ 0 ≤ v ∧ v < m ∧ v < 256 := by
 obtain ⟨h1, h2, h3⟩ := h
 unfold diwanplay_Picks_Num
 by_cases hn : o.n ≥ (o.l.length : Int)
 ·rw [br_t (decide_eq_true hn)]
  exact ⟨0, o, rfl, ⟨h1, h2, h3⟩, Int.le_refl _, by omega, by omega⟩
 ·have e1 : w64 (o.n + 1) = o.n + 1 := w64_id (by omega) (by omega)
  have e2 : w64 (o.n + 1 - 1) = o.n := by rw [w64_id (by omega) (by omega)]; omega
  have hx : o.l[o.n.toNat]? = some o.l[o.n.toNat] := List.getElem?_eq_getElem (by omega)
  have hb := h1 _ (List.mem_of_getElem? hx)
  rw [br_f (decide_eq_false hn), e1, e2, ix_s h2 hx, gd_t (by simp; omega), w64_id (n := o.l[o.n.toNat]) (by omega) (by omega), Int.tmod_eq_emod_of_nonneg hb.1]
  have q1 := Int.emod_nonneg (o.l[o.n.toNat]) (b := m) (by omega)
  have q2 := Int.emod_lt_of_pos (o.l[o.n.toNat]) (b := m) (by omega)
  have q3 : o.l[o.n.toNat] % m ≤ o.l[o.n.toNat] := by
   have := Int.mul_ediv_add_emod (o.l[o.n.toNat]) m
   have : 0 ≤ m * (o.l[o.n.toNat] / m) := Int.mul_nonneg (by omega) (Int.ediv_nonneg hb.1 (by omega))
   omega
  exact ⟨_, _, rfl, ⟨h1, by show 0 ≤ o.n + 1; omega, h3⟩, q1, q2, by omega⟩
theorem keys_lp (fu : Nat) (most : Int) (p : TPicks) (ks : List ByteArray) (hk : ks.length ≤ 10) : ∀ (d i m : Nat) (out : List ByteArray) (bits : Int), i + d = ks.length → out.length ≤ i → d < m →
  ∃ o, diwanplay_Picks_Keys.lp6 fu most ks p m out bits (i : Int) = some o ∧ o.length ≤ ks.length
 | 0, i, m, out, bits, hid, ho, hm => by
  obtain ⟨m, rfl⟩ : ∃ k, m = k + 1 := ⟨m - 1, by omega⟩
  rw [diwanplay_Picks_Keys.lp6, br_f (decide_eq_false (by omega))]
  exact ⟨_, rfl, by omega⟩
 | d + 1, i, m, out, bits, hid, ho, hm => by
  obtain ⟨m, rfl⟩ : ∃ k, m = k + 1 := ⟨m - 1, by omega⟩
  have hx : ks[i]? = some ks[i] := List.getElem?_eq_getElem (by omega)
  rw [diwanplay_Picks_Keys.lp6, br_t (decide_eq_true (by omega)), ix_n hx, w64_id (n := (i : Int) + 1) (by omega) (by omega), show (i : Int) + 1 = ((i + 1 : Nat) : Int) by omega]
  have ih := fun out bits h => keys_lp fu most p ks hk d (i + 1) m out bits (by omega) h (by omega)
  cases decide ((out.length : Int) < most)
  ·rw [br_f rfl]; exact ⟨_, rfl, by omega⟩
  ·rw [br_t rfl]
   cases (Int.tmod bits 2 == 1)
   ·rw [br_f rfl]; exact ih _ _ (by omega)
   ·rw [br_t rfl, gd_t (decide_eq_true (by simp; omega))]; exact ih _ _ (by simp; omega)
theorem keys_e {fu : Nat} (hf : 20 ≤ fu) (most : Int) {o : TPicks} (h : PInv o) : ∃ ks o', diwanplay_Picks_Keys fu most o = some (ks, o') ∧ PInv o' ∧ ks.length ≤ 6 := by
 unfold diwanplay_Picks_Keys diwanplay_keys
 obtain ⟨v, o', h1, h2, _⟩ := num_e h (m := 64) (by decide)
 rw [bd_s h1]
 dsimp only
 rw [bd_s rfl]
 obtain ⟨ks, k1, k2⟩ := keys_lp fu most o' [(⟨#[97]⟩ : ByteArray), (⟨#[98]⟩ : ByteArray), (⟨#[99]⟩ : ByteArray), (⟨#[100]⟩ : ByteArray), (⟨#[101, 101]⟩ : ByteArray), (⟨#[102, 102]⟩ : ByteArray)] (by decide) 6 0 fu [] v rfl (Nat.le_refl _) (by omega)
 simp only [Int.natCast_zero] at k1
 rw [bd_s k1]
 exact ⟨ks, o', rfl, h2, k2⟩
theorem val_e {o : TPicks} (h : PInv o) : ∃ s o', diwanplay_Picks_Val o = some (s, o') ∧ PInv o' := by
 unfold diwanplay_Picks_Val
 obtain ⟨v, o', h1, h2, h3, h4, _⟩ := num_e h (m := 5) (by decide)
 rw [bd_s h1]
 dsimp only
 obtain ⟨k, rfl⟩ := Int.eq_ofNat_of_zero_le h3
 have hk : k = 0 ∨ k = 1 ∨ k = 2 ∨ k = 3 ∨ k = 4 := by omega
 rcases hk with rfl | rfl | rfl | rfl | rfl
 ·exact ⟨_, o', rfl, h2⟩
 ·exact ⟨_, o', rfl, h2⟩
 ·exact ⟨_, o', rfl, h2⟩
 ·exact ⟨_, o', rfl, h2⟩
 ·exact ⟨_, o', rfl, h2⟩
theorem reads_lp (fu : Nat) (most : Int) (ks : List ByteArray) (z : TTxn) (hk : ks.length ≤ 10) : ∀ (d i m : Nat) (t : TTxn) (o : TPicks), i + d = ks.length → t.Reads.length ≤ i → PInv o → d < m →
  ∃ t' o', diwanplay_Picks_Txn.lp5 fu most ks z m (i : Int) t o = some (t', o') ∧ PInv o' ∧ t'.Reads.length ≤ 10 ∧ t'.Writes = t.Writes ∧ t'.Session = t.Session ∧ t'.Seq = t.Seq
 | 0, i, m, t, o, hid, ht, ho, hm => by
  obtain ⟨m, rfl⟩ : ∃ k, m = k + 1 := ⟨m - 1, by omega⟩
  rw [diwanplay_Picks_Txn.lp5, br_f (decide_eq_false (by omega))]
  exact ⟨_, _, rfl, ho, by omega, rfl, rfl, rfl⟩
 | d + 1, i, m, t, o, hid, ht, ho, hm => by
  obtain ⟨m, rfl⟩ : ∃ k, m = k + 1 := ⟨m - 1, by omega⟩
  have hx : ks[i]? = some ks[i] := List.getElem?_eq_getElem (by omega)
  obtain ⟨v, o1, h1, h2, h3, h4, _⟩ := num_e ho (m := if most < 1 then 1 else most) (by split <;> omega)
  rw [diwanplay_Picks_Txn.lp5, br_t (decide_eq_true (by omega)), ix_n hx, bd_s h1]
  dsimp only
  simp only [jn_e]
  rw [w64_id (n := (i : Int) + 1) (by omega) (by omega), show (i : Int) + 1 = ((i + 1 : Nat) : Int) by omega]
  have ih := fun (r : TRead) (o : TPicks) (h : PInv o) => reads_lp fu most ks z hk d (i + 1) m (TTxn.mk t.Session t.Seq (t.Reads ++ [r]) t.Writes) o (by omega) (by simp; omega) h (by omega)
  have hg : ∀ r : TRead, decide (t.Reads.length + ([r] : List TRead).length ≤ 4294967296) = true := fun r => decide_eq_true (by simp; omega)
  cases decide (v > 0)
  ·rw [br_f rfl, gd_t (hg _)]; exact ih _ _ h2
  ·obtain ⟨u, o2, g1, g2, _⟩ := num_e h2 (m := 4) (by decide)
   rw [br_t rfl, bd_s g1]
   dsimp only
   cases decide (u > 0)
   ·rw [br_f rfl, gd_t (hg _)]; exact ih _ _ g2
   ·obtain ⟨s, o3, k1, k2⟩ := val_e g2
    rw [br_t rfl, bd_s k1]
    dsimp only
    rw [gd_t (hg _)]; exact ih _ _ k2
theorem writes_lp (fu : Nat) (ks : List ByteArray) (z : TTxn) (hk : ks.length ≤ 10) : ∀ (d i m : Nat) (t : TTxn) (o : TPicks), i + d = ks.length → t.Writes.length ≤ i → PInv o → d < m →
  ∃ t' o', diwanplay_Picks_Txn.lp18 fu ks z m (i : Int) t o = some (t', o') ∧ PInv o' ∧ t'.Writes.length ≤ 10 ∧ t'.Reads = t.Reads ∧ t'.Session = t.Session ∧ t'.Seq = t.Seq
 | 0, i, m, t, o, hid, ht, ho, hm => by
  obtain ⟨m, rfl⟩ : ∃ k, m = k + 1 := ⟨m - 1, by omega⟩
  rw [diwanplay_Picks_Txn.lp18, br_f (decide_eq_false (by omega))]
  exact ⟨_, _, rfl, ho, by omega, rfl, rfl, rfl⟩
 | d + 1, i, m, t, o, hid, ht, ho, hm => by
  obtain ⟨m, rfl⟩ : ∃ k, m = k + 1 := ⟨m - 1, by omega⟩
  have hx : ks[i]? = some ks[i] := List.getElem?_eq_getElem (by omega)
  obtain ⟨s, o1, h1, h2⟩ := val_e ho
  obtain ⟨u, o2, g1, g2, _⟩ := num_e h2 (m := 4) (by decide)
  rw [diwanplay_Picks_Txn.lp18, br_t (decide_eq_true (by omega)), ix_n hx, bd_s h1]
  dsimp only
  simp only [jn_e]
  rw [bd_s g1]
  dsimp only
  rw [w64_id (n := (i : Int) + 1) (by omega) (by omega), show (i : Int) + 1 = ((i + 1 : Nat) : Int) by omega]
  have ih := fun (r : TWrite) (o : TPicks) (h : PInv o) => writes_lp fu ks z hk d (i + 1) m (TTxn.mk t.Session t.Seq t.Reads (t.Writes ++ [r])) o (by omega) (by simp; omega) h (by omega)
  have hg : ∀ r : TWrite, decide (t.Writes.length + ([r] : List TWrite).length ≤ 4294967296) = true := fun r => decide_eq_true (by simp; omega)
  cases (u == 0)
  ·rw [br_f rfl, gd_t (hg _)]; exact ih _ _ g2
  ·rw [br_t rfl, gd_t (hg _)]; exact ih _ _ g2
theorem txn_e {fu : Nat} (hf : 20 ≤ fu) (most : Int) {o : TPicks} (h : PInv o) : ∃ t o', diwanplay_Picks_Txn fu most o = some (t, o') ∧ PInv o' ∧ t.Reads.length ≤ 10 ∧ t.Writes.length ≤ 10 := by
 unfold diwanplay_Picks_Txn
 obtain ⟨a, o1, h1, i1, _⟩ := num_e h (m := 3) (by decide)
 rw [bd_s h1]
 dsimp only
 obtain ⟨b, o2, h2, i2, _⟩ := num_e i1 (m := 6) (by decide)
 rw [bd_s h2]
 dsimp only
 obtain ⟨ks, o3, h3, i3, k3⟩ := keys_e hf 3 i2
 rw [bd_s h3]
 dsimp only
 obtain ⟨t4, o4, h4, i4, r4, w4, _⟩ := reads_lp fu most ks (TTxn.mk 0 0 [] []) (by omega) ks.length 0 fu (TTxn.mk (w64 (1 + a)) (w64 (1 + b)) [] []) o3 (by omega) (Nat.le_refl _) i3 (by omega)
 simp only [Int.natCast_zero] at h4
 rw [bd_s h4]
 dsimp only
 obtain ⟨ks2, o5, h5, i5, k5⟩ := keys_e hf 3 i4
 rw [bd_s h5]
 dsimp only
 obtain ⟨t6, o6, h6, i6, w6, r6, _⟩ := writes_lp fu ks2 (TTxn.mk 0 0 [] []) (by omega) ks2.length 0 fu t4 o5 (by omega) (by rw [w4]; exact Nat.le_refl _) i5 (by omega)
 simp only [Int.natCast_zero] at h6
 rw [bd_s h6]
 exact ⟨t6, o6, rfl, i6, by rw [r6]; exact r4, w6⟩
theorem log_lp (fu : Nat) (hf : 20 ≤ fu) (N : Nat) (hN : N ≤ 100000) : ∀ (d i m : Nat) (l : List TEntry) (t : Int) (o : TPicks), i + d = N → l.length = i → PInv o → d < m → 1 ≤ t → t ≤ i + 1 → (∀ e ∈ l, 1 ≤ e.Term ∧ e.Term ≤ i + 1) →
  ∃ l' o', diwanplay_Picks_Log.lp5 fu (N : Int) m l t (i : Int) o = some (l', o') ∧ PInv o' ∧ l'.length = N ∧ ∀ e ∈ l', 1 ≤ e.Term ∧ e.Term ≤ N + 1
 | 0, i, m, l, t, o, hid, hl, ho, hm, t0, t1, he => by
  obtain ⟨m, rfl⟩ : ∃ k, m = k + 1 := ⟨m - 1, by omega⟩
  rw [diwanplay_Picks_Log.lp5, br_f (decide_eq_false (by omega))]
  exact ⟨_, _, rfl, ho, by omega, fun e h => by have := he e h; omega⟩
 | d + 1, i, m, l, t, o, hid, hl, ho, hm, t0, t1, he => by
  obtain ⟨m, rfl⟩ : ∃ k, m = k + 1 := ⟨m - 1, by omega⟩
  obtain ⟨a, o1, h1, i1, _⟩ := num_e ho (m := 4) (by decide)
  rw [diwanplay_Picks_Log.lp5, br_t (decide_eq_true (by omega))]
  simp only [jn_e]
  rw [bd_s h1]
  dsimp only
  rw [w64_id (n := (i : Int) + 1) (by omega) (by omega), show (i : Int) + 1 = ((i + 1 : Nat) : Int) by omega, w64_id (n := t + 1) (by omega) (by omega)]
  have ih := fun (e : TEntry) (t : Int) (o : TPicks) (h : PInv o) (t0 : 1 ≤ t) (t1 : t ≤ i + 2) (hte : e.Term = t) => log_lp fu hf N hN d (i + 1) m (l ++ [e]) t o (by omega) (by simp [hl]) h (by omega) t0 (by omega) fun x hx => by
   rcases List.mem_append.1 hx with g | g
   ·have := he x g; omega
   ·simp at g; subst g; omega
  have hg : ∀ e : TEntry, decide (l.length + ([e] : List TEntry).length ≤ 4294967296) = true := fun e => decide_eq_true (by simp; omega)
  have rest : ∀ t : Int, 1 ≤ t → t ≤ i + 2 → ∃ l' o', (bd (diwanplay_Picks_Num 3 o1) fun (r12_1, r12_2) =>
    br (!(r12_1 == 0))
     (bd (diwanplay_Picks_Txn fu ((i + 1 : Nat) : Int) r12_2) fun (r15_1, r15_2) =>
     gd (decide (l.length + ([(TEntry.mk t (r12_1 == 0) r15_1)] : List TEntry).length ≤ 4294967296)) <|
     diwanplay_Picks_Log.lp5 fu (N : Int) m (l ++ ([(TEntry.mk t (r12_1 == 0) r15_1)] : List TEntry)) t ((i + 1 : Nat) : Int) r15_2)
     (gd (decide (l.length + ([(TEntry.mk t (r12_1 == 0) (TTxn.mk 0 0 [] []))] : List TEntry).length ≤ 4294967296)) <|
     diwanplay_Picks_Log.lp5 fu (N : Int) m (l ++ ([(TEntry.mk t (r12_1 == 0) (TTxn.mk 0 0 [] []))] : List TEntry)) t ((i + 1 : Nat) : Int) r12_2)) = some (l', o') ∧ PInv o' ∧ l'.length = N ∧ ∀ e ∈ l', 1 ≤ e.Term ∧ e.Term ≤ N + 1 := by
   intro t t0 t1
   obtain ⟨b, o2, h2, i2, _⟩ := num_e i1 (m := 3) (by decide)
   rw [bd_s h2]
   dsimp only
   cases (b == 0)
   ·obtain ⟨x, o3, h3, i3, _⟩ := txn_e hf ((i + 1 : Nat) : Int) i2
    rw [br_t (by rfl), bd_s h3]
    dsimp only
    rw [gd_t (hg _)]
    exact ih _ _ _ i3 t0 t1 rfl
   ·rw [br_f (by rfl), gd_t (hg _)]
    exact ih _ _ _ i2 t0 t1 rfl
  cases (a == 0)
  ·rw [br_f rfl]; exact rest t t0 (by omega)
  ·rw [br_t rfl]; exact rest (t + 1) (by omega) (by omega)
theorem log_e {fu N : Nat} (hf : 20 ≤ fu) (hN : N < fu) (hN' : N ≤ 100000) {o : TPicks} (h : PInv o) : ∃ l o', diwanplay_Picks_Log fu (N : Int) o = some (l, o') ∧ PInv o' ∧ l.length = N ∧ ∀ e ∈ l, 1 ≤ e.Term ∧ e.Term ≤ N + 1 := by
 unfold diwanplay_Picks_Log
 obtain ⟨l, o', h1, h2⟩ := log_lp fu hf N hN' N 0 fu [] 1 o (by omega) rfl h (by omega) (by decide) (by omega) (by simp)
 simp only [Int.natCast_zero] at h1
 rw [bd_s h1]
 exact ⟨l, o', rfl, h2⟩
theorem made_inv {l : List Int} (h : ∀ x ∈ l, okI .u8 x) (hl : l.length ≤ 1000000) : PInv (TPicks.mk l 0) := ⟨fun x hx => okI_u8 (h x hx), Int.le_refl _, hl⟩
end Go.Proofs.Ytbiokgkfjggbiaa.Told.PK
