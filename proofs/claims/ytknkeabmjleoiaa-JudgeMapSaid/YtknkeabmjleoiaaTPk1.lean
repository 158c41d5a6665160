/- The picks: numbers, keys, values, transactions, and what they are like. -/
import Derived.Test.YtknkeabmjleoiaaFitJudgeMap
import Derived.Test.YtknkeabmjleoiaaTMath
namespace Go.Proofs.Ytknkeabmjleoiaa.Told.PK
open Go Go.Proofs.Ytknkeabmjleoiaa.Vam Go.Proofs.Ytknkeabmjleoiaa.Told
set_option linter.unusedSimpArgs false
set_option linter.unusedVariables false
def PInv (o : TPicks) : Prop := (∀ x ∈ o.l, 0 ≤ x ∧ x < 256) ∧ 0 ≤ o.n ∧ o.l.length ≤ 1000000
theorem num_e {o : TPicks} (h : PInv o) {m : Int} (hm : 1 ≤ m) : ∃ v o', diwanplay_Picks_Num m o = some (v, o') ∧ PInv o' ∧ 0 ≤ v ∧ v < m ∧ v < 256 := by
 obtain ⟨h1, h2, h3⟩ := h
 unfold diwanplay_Picks_Num
 by_cases hn : o.n ≥ (o.l.length : Int)
 ·rw [br_t (decide_eq_true hn)]
  exact ⟨0, o, rfl, ⟨h1, h2, h3⟩, Int.le_refl _, by omega, by omega⟩
 ·have e1 : w64 (o.n + 1) = o.n + 1 := w64_id (by omega) (by omega)
  have e2 : w64 (o.n + 1 - 1) = o.n := by rw [w64_id (by omega) (by omega)]; omega
  have hx : o.l[o.n.toNat]? = some o.l[o.n.toNat] := List.getElem?_eq_getElem (by omega)
  have hb := h1 _ (List.mem_of_getElem? hx)
  rw [br_f (decide_eq_false hn), e1, e2, ix_s h2 hx, gd_t (by simp; omega), w64_id (n := o.l[o.n.toNat]) (by omega) (by omega), Int.tmod_eq_emod_of_nonneg hb.1]
  have q1 := Int.emod_nonneg (o.l[o.n.toNat]) (b := m) (by omega)
  have q2 := Int.emod_lt_of_pos (o.l[o.n.toNat]) (b := m) (by omega)
  have q3 : o.l[o.n.toNat] % m ≤ o.l[o.n.toNat] := by
   have := Int.mul_ediv_add_emod (o.l[o.n.toNat]) m
   have : 0 ≤ m * (o.l[o.n.toNat] / m) := Int.mul_nonneg (by omega) (Int.ediv_nonneg hb.1 (by omega))
   omega
  exact ⟨_, _, rfl, ⟨h1, by show 0 ≤ o.n + 1; omega, h3⟩, q1, q2, by omega⟩
theorem made_inv {l : List Int} (h : ∀ x ∈ l, okI .u8 x) (hl : l.length ≤ 1000000) : PInv (TPicks.mk l 0) := ⟨fun x hx => okI_u8 (h x hx), Int.le_refl _, hl⟩

def six : List ByteArray := [(⟨#[97]⟩ : ByteArray), (⟨#[98]⟩ : ByteArray), (⟨#[99]⟩ : ByteArray), (⟨#[100]⟩ : ByteArray), (⟨#[101, 101]⟩ : ByteArray), (⟨#[102, 102]⟩ : ByteArray)]
def vals : List ByteArray := [ByteArray.empty, (⟨#[118]⟩ : ByteArray), (⟨#[119]⟩ : ByteArray), (⟨#[120, 120]⟩ : ByteArray), (⟨#[115, 105, 120, 116, 101, 101, 110, 45, 98, 121, 116, 101, 115, 45, 111, 107]⟩ : ByteArray)]
theorem keys_lp (fu : Nat) (most : Int) (p : TPicks) : ∀ (d i m : Nat) (out : List ByteArray) (bits : Int), i + d = 6 → out.Sublist (six.take i) → ((out.length : Int) ≤ most ∨ out = []) → d < m →
  ∃ o, diwanplay_Picks_Keys.lp6 fu most six p m out bits (i : Int) = some o ∧ o.Sublist six ∧ ((o.length : Int) ≤ most ∨ o = [])
 | 0, i, m, out, bits, hid, ho, hl, hm => by
  obtain ⟨m, rfl⟩ : ∃ k, m = k + 1 := ⟨m - 1, by omega⟩
  rw [diwanplay_Picks_Keys.lp6, br_f (decide_eq_false (by show ¬ (i : Int) < 6; omega))]
  exact ⟨_, rfl, ho.trans (List.take_sublist _ _), hl⟩
 | d + 1, i, m, out, bits, hid, ho, hl, hm => by
  obtain ⟨m, rfl⟩ : ∃ k, m = k + 1 := ⟨m - 1, by omega⟩
  have hi : i < six.length := by show i < 6; omega
  have hx : six[i]? = some six[i] := List.getElem?_eq_getElem hi
  have ht : six.take (i + 1) = six.take i ++ [six[i]] := by rw [List.take_add_one, hx]; rfl
  have hlen : out.length ≤ 6 := by have := ho.length_le; have := List.length_take_le i six; omega
  rw [diwanplay_Picks_Keys.lp6, br_t (decide_eq_true (by show (i : Int) < 6; omega)), ix_n hx, w64_id (n := (i : Int) + 1) (by omega) (by omega), show (i : Int) + 1 = ((i + 1 : Nat) : Int) by omega]
  have ih := fun out bits h h' => keys_lp fu most p d (i + 1) m out bits (by omega) h h' (by omega)
  have h0 : out.Sublist (six.take (i + 1)) := by rw [ht]; exact ho.trans (List.sublist_append_left _ _)
  by_cases hlt : (out.length : Int) < most
  ·rw [br_t (decide_eq_true hlt)]
   cases (Int.tmod bits 2 == 1)
   ·rw [br_f rfl]; exact ih _ _ h0 hl
   ·rw [br_t rfl, gd_t (decide_eq_true (by simp; omega))]
    exact ih _ _ (by rw [ht]; exact ho.append (List.Sublist.refl _)) (.inl (by simp; omega))
  ·rw [br_f (decide_eq_false hlt)]; exact ⟨_, rfl, ho.trans (List.take_sublist _ _), hl⟩
theorem keys_e {fu : Nat} (hf : 20 ≤ fu) {most : Int} (hm : 0 ≤ most) {o : TPicks} (h : PInv o) : ∃ ks o', diwanplay_Picks_Keys fu most o = some (ks, o') ∧ PInv o' ∧ ks.Sublist six ∧ (ks.length : Int) ≤ most := by
 unfold diwanplay_Picks_Keys diwanplay_keys
 obtain ⟨v, o', h1, h2, _⟩ := num_e h (m := 64) (by decide)
 rw [bd_s h1]
 dsimp only
 rw [bd_s rfl]
 obtain ⟨ks, k1, k2, k3⟩ := keys_lp fu most o' 6 0 fu [] v rfl (List.nil_sublist _) (.inr rfl) (by omega)
 simp only [Int.natCast_zero] at k1
 rw [show ([(⟨#[97]⟩ : ByteArray), (⟨#[98]⟩ : ByteArray), (⟨#[99]⟩ : ByteArray), (⟨#[100]⟩ : ByteArray), (⟨#[101, 101]⟩ : ByteArray), (⟨#[102, 102]⟩ : ByteArray)] : List ByteArray) = six from rfl, bd_s k1]
 refine ⟨ks, o', rfl, h2, k2, ?_⟩
 rcases k3 with g | rfl
 ·exact g
 ·simpa using hm
theorem val_e {o : TPicks} (h : PInv o) : ∃ s o', diwanplay_Picks_Val o = some (s, o') ∧ PInv o' ∧ s ∈ vals := by
 unfold diwanplay_Picks_Val
 obtain ⟨v, o', h1, h2, h3, h4, _⟩ := num_e h (m := 5) (by decide)
 rw [bd_s h1]
 dsimp only
 obtain ⟨k, rfl⟩ := Int.eq_ofNat_of_zero_le h3
 have hk : k < vals.length := by show k < 5; omega
 have hx : vals[k]? = some vals[k] := List.getElem?_eq_getElem hk
 refine ⟨vals[k], o', ?_, h2, List.getElem_mem hk⟩
 exact ix_n hx
def RdOk (most : Int) (r : TRead) : Prop := 0 ≤ r.Version ∧ r.Version < (if most < 1 then 1 else most) ∧ r.Version < 256 ∧ r.Val ∈ vals ∧ (r.There = false → r.Val = ByteArray.empty) ∧ (r.There = true → 0 < r.Version)
def WrOk (w : TWrite) : Prop := w.Val ∈ vals ∧ (w.Gone = true → w.Val = ByteArray.empty)
theorem reads_lp (fu : Nat) (most : Int) (ks : List ByteArray) (z : TTxn) (hk : ks.length ≤ 10) : ∀ (d i m : Nat) (t : TTxn) (o : TPicks), i + d = ks.length → t.Reads.map (·.Key) = ks.take i → (∀ r ∈ t.Reads, RdOk most r) → PInv o → d < m →
  ∃ t' o', diwanplay_Picks_Txn.lp5 fu most ks z m (i : Int) t o = some (t', o') ∧ PInv o' ∧ t'.Reads.map (·.Key) = ks ∧ (∀ r ∈ t'.Reads, RdOk most r) ∧ t'.Writes = t.Writes ∧ t'.Session = t.Session ∧ t'.Seq = t.Seq
 | 0, i, m, t, o, hid, ht, hr, ho, hm => by
  obtain ⟨m, rfl⟩ : ∃ k, m = k + 1 := ⟨m - 1, by omega⟩
  rw [diwanplay_Picks_Txn.lp5, br_f (decide_eq_false (by omega))]
  exact ⟨_, _, rfl, ho, by rw [ht, List.take_of_length_le (by omega)], hr, rfl, rfl, rfl⟩
 | d + 1, i, m, t, o, hid, ht, hr, ho, hm => by
  obtain ⟨m, rfl⟩ : ∃ k, m = k + 1 := ⟨m - 1, by omega⟩
  have hx : ks[i]? = some ks[i] := List.getElem?_eq_getElem (by omega)
  have htk : ks.take (i + 1) = ks.take i ++ [ks[i]] := by rw [List.take_add_one, hx]; rfl
  have hln : t.Reads.length ≤ i := by have := congrArg List.length ht; simp at this; omega
  obtain ⟨v, o1, h1, h2, h3, h4, h5⟩ := num_e ho (m := if most < 1 then 1 else most) (by split <;> omega)
  rw [diwanplay_Picks_Txn.lp5, br_t (decide_eq_true (by omega)), ix_n hx, bd_s h1]
  dsimp only
  simp only [jn_e]
  rw [w64_id (n := (i : Int) + 1) (by omega) (by omega), show (i : Int) + 1 = ((i + 1 : Nat) : Int) by omega]
  have ih := fun (r : TRead) (o : TPicks) (hkey : r.Key = ks[i]) (hok : RdOk most r) (h : PInv o) => reads_lp fu most ks z hk d (i + 1) m (TTxn.mk t.Session t.Seq (t.Reads ++ [r]) t.Writes) o (by omega) (by simp only [List.map_append, List.map_cons, List.map_nil, ht, hkey, htk]) (fun x hx => by
   rcases List.mem_append.1 hx with g | g
   ·exact hr x g
   ·rw [List.mem_singleton.1 g]; exact hok) h (by omega)
  have hg : ∀ r : TRead, decide (t.Reads.length + ([r] : List TRead).length ≤ 4294967296) = true := fun r => decide_eq_true (by simp; omega)
  have e0 : ByteArray.empty ∈ vals := by simp [vals]
  have okF : RdOk most (TRead.mk ks[i] v ByteArray.empty false) := ⟨h3, h4, h5, e0, fun _ => rfl, fun g => by cases g⟩
  by_cases hv : v > 0
  ·obtain ⟨u, o2, g1, g2, _⟩ := num_e h2 (m := 4) (by decide)
   rw [br_t (decide_eq_true hv), bd_s g1]
   dsimp only
   cases decide (u > 0)
   ·rw [br_f rfl, gd_t (hg _)]; exact ih _ _ rfl okF g2
   ·obtain ⟨s, o3, k1, k2, k3⟩ := val_e g2
    rw [br_t rfl, bd_s k1]
    dsimp only
    rw [gd_t (hg _)]; exact ih _ _ rfl ⟨h3, h4, h5, k3, (fun g => by cases g), fun _ => hv⟩ k2
  ·rw [br_f (decide_eq_false hv), gd_t (hg _)]; exact ih _ _ rfl okF h2
theorem writes_lp (fu : Nat) (ks : List ByteArray) (z : TTxn) (hk : ks.length ≤ 10) : ∀ (d i m : Nat) (t : TTxn) (o : TPicks), i + d = ks.length → t.Writes.map (·.Key) = ks.take i → (∀ r ∈ t.Writes, WrOk r) → PInv o → d < m →
  ∃ t' o', diwanplay_Picks_Txn.lp18 fu ks z m (i : Int) t o = some (t', o') ∧ PInv o' ∧ t'.Writes.map (·.Key) = ks ∧ (∀ r ∈ t'.Writes, WrOk r) ∧ t'.Reads = t.Reads ∧ t'.Session = t.Session ∧ t'.Seq = t.Seq
 | 0, i, m, t, o, hid, ht, hr, ho, hm => by
  obtain ⟨m, rfl⟩ : ∃ k, m = k + 1 := ⟨m - 1, by omega⟩
  rw [diwanplay_Picks_Txn.lp18, br_f (decide_eq_false (by omega))]
  exact ⟨_, _, rfl, ho, by rw [ht, List.take_of_length_le (by omega)], hr, rfl, rfl, rfl⟩
 | d + 1, i, m, t, o, hid, ht, hr, ho, hm => by
  obtain ⟨m, rfl⟩ : ∃ k, m = k + 1 := ⟨m - 1, by omega⟩
  have hx : ks[i]? = some ks[i] := List.getElem?_eq_getElem (by omega)
  have htk : ks.take (i + 1) = ks.take i ++ [ks[i]] := by rw [List.take_add_one, hx]; rfl
  have hln : t.Writes.length ≤ i := by have := congrArg List.length ht; simp at this; omega
  obtain ⟨s, o1, h1, h2, h3⟩ := val_e ho
  obtain ⟨u, o2, g1, g2, _⟩ := num_e h2 (m := 4) (by decide)
  rw [diwanplay_Picks_Txn.lp18, br_t (decide_eq_true (by omega)), ix_n hx, bd_s h1]
  dsimp only
  simp only [jn_e]
  rw [bd_s g1]
  dsimp only
  rw [w64_id (n := (i : Int) + 1) (by omega) (by omega), show (i : Int) + 1 = ((i + 1 : Nat) : Int) by omega]
  have ih := fun (r : TWrite) (o : TPicks) (hkey : r.Key = ks[i]) (hok : WrOk r) (h : PInv o) => writes_lp fu ks z hk d (i + 1) m (TTxn.mk t.Session t.Seq t.Reads (t.Writes ++ [r])) o (by omega) (by simp only [List.map_append, List.map_cons, List.map_nil, ht, hkey, htk]) (fun x hx => by
   rcases List.mem_append.1 hx with g | g
   ·exact hr x g
   ·rw [List.mem_singleton.1 g]; exact hok) h (by omega)
  have hg : ∀ r : TWrite, decide (t.Writes.length + ([r] : List TWrite).length ≤ 4294967296) = true := fun r => decide_eq_true (by simp; omega)
  cases (u == 0)
  ·rw [br_f rfl, gd_t (hg _)]; exact ih _ _ rfl ⟨h3, fun g => by cases g⟩ g2
  ·rw [br_t rfl, gd_t (hg _)]; exact ih _ _ rfl ⟨by simp [vals], fun _ => rfl⟩ g2
structure TxOk (most : Int) (t : TTxn) : Prop where
 se : 1 ≤ t.Session ∧ t.Session ≤ 3
 sq : 1 ≤ t.Seq ∧ t.Seq ≤ 6
 rk : (t.Reads.map (·.Key)).Sublist six
 rl : t.Reads.length ≤ 3
 rv : ∀ r ∈ t.Reads, RdOk most r
 wk : (t.Writes.map (·.Key)).Sublist six
 wl : t.Writes.length ≤ 3
 wv : ∀ w ∈ t.Writes, WrOk w
theorem txn_e {fu : Nat} (hf : 20 ≤ fu) (most : Int) {o : TPicks} (h : PInv o) : ∃ t o', diwanplay_Picks_Txn fu most o = some (t, o') ∧ PInv o' ∧ TxOk most t := by
 unfold diwanplay_Picks_Txn
 obtain ⟨a, o1, h1, i1, a1, a2, _⟩ := num_e h (m := 3) (by decide)
 rw [bd_s h1]
 dsimp only
 obtain ⟨b, o2, h2, i2, b1, b2, _⟩ := num_e i1 (m := 6) (by decide)
 rw [bd_s h2]
 dsimp only
 obtain ⟨ks, o3, h3, i3, k3, l3⟩ := keys_e hf (most := 3) (by decide) i2
 rw [bd_s h3]
 dsimp only
 obtain ⟨t4, o4, h4, i4, r4, v4, w4, s4, q4⟩ := reads_lp fu most ks (TTxn.mk 0 0 [] []) (by omega) ks.length 0 fu (TTxn.mk (w64 (1 + a)) (w64 (1 + b)) [] []) o3 (by omega) rfl (fun r hr => by simp at hr) i3 (by omega)
 simp only [Int.natCast_zero] at h4
 rw [bd_s h4]
 dsimp only
 obtain ⟨ks2, o5, h5, i5, k5, l5⟩ := keys_e hf (most := 3) (by decide) i4
 rw [bd_s h5]
 dsimp only
 obtain ⟨t6, o6, h6, i6, w6, v6, r6, s6, q6⟩ := writes_lp fu ks2 (TTxn.mk 0 0 [] []) (by omega) ks2.length 0 fu t4 o5 (by omega) (by rw [w4]; rfl) (fun r hr => by rw [w4] at hr; simp at hr) i5 (by omega)
 simp only [Int.natCast_zero] at h6
 rw [bd_s h6]
 have e1 : w64 (1 + a) = 1 + a := w64_id (by omega) (by omega)
 have e2 : w64 (1 + b) = 1 + b := w64_id (by omega) (by omega)
 refine ⟨t6, o6, rfl, i6, ⟨?_, ?_, by rw [r6, r4]; exact k3, ?_, by rw [r6]; exact v4, by rw [w6]; exact k5, ?_, v6⟩⟩
 ·rw [s6, s4]; simp only [e1]; omega
 ·rw [q6, q4]; simp only [e2]; omega
 ·have := congrArg List.length (r6 ▸ r4 : t6.Reads.map (·.Key) = ks); simp at this; omega
 ·have := congrArg List.length w6; simp at this; omega
end Go.Proofs.Ytknkeabmjleoiaa.Told.PK
