/- A shard by the reference: what it says of a transaction. -/
import Derived.Test.YthjpcfbfiaenaaaTSv1
import Derived.Test.YthjpcfbfiaenaaaTTxns
import Derived.Test.YthjpcfbfiaenaaaTStore4
import Derived.Test.YthjpcfbfiaenaaaTFoldR
namespace Go.Proofs.Ythjpcfbfiaenaaa.Told.SV
open Go Go.Proofs.Ythjpcfbfiaenaaa.Vam Go.Proofs.Ythjpcfbfiaenaaa.Told Go.Proofs.Ythjpcfbfiaenaaa.Told.CF Go.Proofs.Ythjpcfbfiaenaaa.Told.PK Go.Proofs.Ythjpcfbfiaenaaa.Told.ST
set_option linter.unusedSimpArgs false
set_option linter.unusedVariables false
theorem six_sz {k : ByteArray} (h : k ∈ six) : k.size ≤ 2 := by
 simp only [six, List.mem_cons, List.not_mem_nil, or_false] at h
 rcases h with rfl | rfl | rfl | rfl | rfl | rfl <;> decide
theorem six_shard {fu : Nat} (hf : 10 ≤ fu) {k : ByteArray} (h : k ∈ six) {n : Int} (hn : 1 ≤ n ∧ n ≤ 3) : diwanref1_ShardOf fu k n = some (shN fu k n) ∧ key_Shard fu k n = some (shN fu k n) ∧ 0 ≤ shN fu k n ∧ shN fu k n < n :=
 shard_e hn (by have := six_sz h; omega) (by have := six_sz h; omega)
structure SI (fu N D : Nat) (s : TShard) : Prop where
 sh : 1 ≤ s.Shards ∧ s.Shards ≤ 3
 id : 0 ≤ s.ID ∧ s.ID < s.Shards
 dn : s.Done = (D : Int)
 bl : s.Bits.length = D
 sl : s.Said.length = D
 mi : MI N (D : Int) s.S.Chains
 mark : 0 ≤ s.S.Mark ∧ s.S.Mark ≤ 100
 own : ∀ c ∈ s.S.Chains, shN fu c.Key s.Shards = s.ID
 srt : SF.Srt s.Seats
 sln : s.Seats.length ≤ D
 se : ∀ x ∈ s.Seats, (1 ≤ x.Session ∧ x.Session ≤ 3) ∧ (1 ≤ x.Seq ∧ x.Seq ≤ 1000) ∧ 1 ≤ x.Pos ∧ x.Pos ≤ (D : Int)
 bi : ∀ b ∈ s.Bits, 0 ≤ b ∧ b ≤ 2
 sa : ∀ b ∈ s.Said, 1 ≤ b ∧ b ≤ 4
section
variable {fu N D : Nat} {s : TShard} {t : TTxn}
theorem rd_key (ht : TOk t) {r : TRead} (h : r ∈ t.Reads) : r.Key ∈ six := ht.rk.subset (List.mem_map_of_mem h)
theorem wr_key (ht : TOk t) {r : TWrite} (h : r ∈ t.Writes) : r.Key ∈ six := ht.wk.subset (List.mem_map_of_mem h)
theorem bit_lp (h : SI fu N D s) (ht : TOk t) (hf : 10 ≤ fu) (hN : N < fu) (hN' : N ≤ 1000000) : ∀ (d i n : Nat) (v : Int), i + d = t.Reads.length → d < n → 0 ≤ v ∧ v ≤ 2 → ∃ v', diwanref13_Bit.lp8 fu s t n v (i : Int) = some v' ∧ 0 ≤ v' ∧ v' ≤ 2
 | 0, i, n, v, e, hn, hv => by
  obtain ⟨n, rfl⟩ : ∃ m, n = m + 1 := ⟨n - 1, by omega⟩
  rw [diwanref13_Bit.lp8, br_f (decide_eq_false (by omega))]
  exact ⟨v, rfl, hv⟩
 | d + 1, i, n, v, e, hn, hv => by
  obtain ⟨n, rfl⟩ : ∃ m, n = m + 1 := ⟨n - 1, by omega⟩
  have hrl := ht.rl
  have hx : t.Reads[i]? = some t.Reads[i] := List.getElem?_eq_getElem (by omega)
  have hk := rd_key ht (List.getElem_mem (show i < t.Reads.length by omega))
  have e1 : w64 ((i : Int) + 1) = ((i + 1 : Nat) : Int) := by rw [w64_id (by omega) (by omega)]; omega
  have ih := fun v hv => bit_lp h ht hf hN hN' d (i + 1) n v (by omega) (by omega) hv
  rw [diwanref13_Bit.lp8, br_t (decide_eq_true (by omega)), ix_n hx, bd_s (six_shard hf hk h.sh).1, e1]
  cases (shN fu t.Reads[i].Key s.Shards != s.ID)
  ·rw [br_f rfl]
   have fin : ∀ j : Int, 0 ≤ j ∧ j ≤ 2 → ∃ v', (ix t.Reads (i : Int) fun x18_1 => bd (diwanref13_Last fu s.S x18_1.Key) fun r18_4 => ix t.Reads (i : Int) fun x18_6 => br (r18_4 != x18_6.Version) (diwanref13_Bit.lp8 fu s t n 2 ((i + 1 : Nat) : Int)) (diwanref13_Bit.lp8 fu s t n j ((i + 1 : Nat) : Int))) = some v' ∧ 0 ≤ v' ∧ v' ≤ 2 := fun j hj => by
    rw [ix_n hx, bd_s (rlastS_e _ h.mi.sml hN' hN), ix_n hx]
    cases (last (chainOf t.Reads[i].Key s.S.Chains) != t.Reads[i].Version)
    ·rw [br_f rfl]; exact ih j hj
    ·rw [br_t rfl]; exact ih 2 (by omega)
   simp only [jn_e]
   cases (v == 0)
   ·rw [br_f rfl]; exact fin v hv
   ·rw [br_t rfl]; exact fin 1 (by omega)
  ·rw [br_t rfl]; exact ih v hv
theorem turn_e (h : SI fu N D s) (hD : D ≤ 15) (hf : 30 ≤ fu) (t : TTxn) : diwanref13_Turn fu s.Seats t.Session t.Seq (w64 (s.Done + 1)) = some (JF.turnF s.Seats t.Session t.Seq ((D + 1 : Nat) : Int)) := by
 have e1 : w64 (s.Done + 1) = ((D + 1 : Nat) : Int) := by rw [h.dn, w64_id (by omega) (by omega)]; omega
 rw [e1]
 have := h.sln
 exact JF.rturnF_e _ _ _ h.srt (by omega) (by omega)
theorem bit_e (h : SI fu N D s) (ht : TOk t) (hD : D ≤ 15) (hf : 30 ≤ fu) (hN : N < fu) (hN' : N ≤ 1000000) : ∃ v, diwanref13_Bit fu s t = some v ∧ 0 ≤ v ∧ v ≤ 2 := by
 unfold diwanref13_Bit
 rw [bd_s (turn_e h hD hf t)]
 obtain ⟨q, b⟩ := JF.turnF s.Seats t.Session t.Seq ((D + 1 : Nat) : Int)
 cases b
 ·dsimp only; rw [br_t (by rfl)]; exact ⟨0, rfl, by omega⟩
 ·dsimp only; rw [br_f (by rfl)]
  obtain ⟨v, g1, g2⟩ := bit_lp h ht (by omega) hN hN' t.Reads.length 0 fu 0 (by omega) (by have := ht.rl; omega) (by omega)
  simp only [Int.natCast_zero] at g1
  rw [bd_s g1]
  exact ⟨v, rfl, g2⟩
theorem rs9_lp (ht : TOk t) (hf : 10 ≤ fu) {n : Int} (hn : 1 ≤ n ∧ n ≤ 3) (L : List Int) (x : Int) : ∀ (d i m : Nat) (b : Bool), i + d = t.Reads.length → d < m → ∃ b', diwanref1_ReadShards.lp9 fu n L x t m b (i : Int) = some b'
 | 0, i, m, b, e, hm => by
  obtain ⟨m, rfl⟩ : ∃ j, m = j + 1 := ⟨m - 1, by omega⟩
  rw [diwanref1_ReadShards.lp9, br_f (decide_eq_false (by omega))]
  exact ⟨b, rfl⟩
 | d + 1, i, m, b, e, hm => by
  obtain ⟨m, rfl⟩ : ∃ j, m = j + 1 := ⟨m - 1, by omega⟩
  have hrl := ht.rl
  have hx : t.Reads[i]? = some t.Reads[i] := List.getElem?_eq_getElem (by omega)
  have hk := rd_key ht (List.getElem_mem (show i < t.Reads.length by omega))
  have e1 : w64 ((i : Int) + 1) = ((i + 1 : Nat) : Int) := by rw [w64_id (by omega) (by omega)]; omega
  have ih := fun b => rs9_lp ht hf hn L x d (i + 1) m b (by omega) (by omega)
  rw [diwanref1_ReadShards.lp9, br_t (decide_eq_true (by omega)), e1]
  cases b
  ·rw [br_f rfl, ix_n hx, bd_s (six_shard hf hk hn).1]; exact ih _
  ·rw [br_t rfl]; exact ih _
theorem rs4_lp (ht : TOk t) (hf : 10 ≤ fu) {n : Nat} (hn : 1 ≤ n ∧ n ≤ 3) : ∀ (d i m : Nat) (L : List Int), i + d = n → d < m → L.length ≤ i → (∀ x ∈ L, 0 ≤ x ∧ x < (n : Int)) → ∃ L', diwanref1_ReadShards.lp4 fu (n : Int) t m L (i : Int) = some L' ∧ L'.length ≤ n ∧ ∀ x ∈ L', 0 ≤ x ∧ x < (n : Int)
 | 0, i, m, L, e, hm, hl, hL => by
  obtain ⟨m, rfl⟩ : ∃ j, m = j + 1 := ⟨m - 1, by omega⟩
  rw [diwanref1_ReadShards.lp4, br_f (decide_eq_false (by split <;> omega))]
  exact ⟨L, rfl, by omega, hL⟩
 | d + 1, i, m, L, e, hm, hl, hL => by
  obtain ⟨m, rfl⟩ : ∃ j, m = j + 1 := ⟨m - 1, by omega⟩
  have e1 : w64 ((i : Int) + 1) = ((i + 1 : Nat) : Int) := by rw [w64_id (by omega) (by omega)]; omega
  obtain ⟨b, hb⟩ := rs9_lp ht hf (n := (n : Int)) (by omega) L (i : Int) t.Reads.length 0 fu false (by omega) (by have := ht.rl; omega)
  simp only [Int.natCast_zero] at hb
  rw [diwanref1_ReadShards.lp4, br_t (decide_eq_true (by split <;> omega)), bd_s hb, e1]
  cases b
  ·rw [br_f rfl]
   exact rs4_lp ht hf hn d (i + 1) m L (by omega) (by omega) (by omega) hL
  ·rw [br_t rfl, gd_t (decide_eq_true (by simp; omega))]
   refine rs4_lp ht hf hn d (i + 1) m _ (by omega) (by omega) (by simp; omega) fun x hx => ?_
   rcases List.mem_append.1 hx with g | g
   ·exact hL x g
   ·rw [List.mem_singleton.1 g]; omega
theorem rs_e (ht : TOk t) (hf : 10 ≤ fu) {n : Int} (hn : 1 ≤ n ∧ n ≤ 3) : ∃ L, diwanref1_ReadShards fu t n = some L ∧ L.length ≤ 3 ∧ ∀ x ∈ L, 0 ≤ x ∧ x < n := by
 obtain ⟨k, rfl⟩ := Int.eq_ofNat_of_zero_le (show 0 ≤ n by omega)
 obtain ⟨L, g1, g2, g3⟩ := rs4_lp ht hf (n := k) (by omega) k 0 fu [] (by omega) (by omega) (by simp) (by simp)
 simp only [Int.natCast_zero] at g1
 unfold diwanref1_ReadShards
 rw [bd_s g1]
 exact ⟨L, rfl, by omega, g3⟩
theorem ver_lp (row L : List Int) (hl : L.length ≤ 1000) (hL : ∀ x ∈ L, 0 ≤ x) : ∀ (d i m : Nat) (v : Int), i + d = L.length → d < m → 0 ≤ v ∧ v ≤ 2 → ∃ o, diwanref13_Verdict.lp5 fu row L m v (i : Int) = some o ∧ ∀ v, o = .inl v → 0 ≤ v ∧ v ≤ 2
 | 0, i, m, v, e, hm, hv => by
  obtain ⟨m, rfl⟩ : ∃ j, m = j + 1 := ⟨m - 1, by omega⟩
  rw [diwanref13_Verdict.lp5, br_f (decide_eq_false (by omega))]
  exact ⟨_, rfl, fun u hu => by cases hu; exact hv⟩
 | d + 1, i, m, v, e, hm, hv => by
  obtain ⟨m, rfl⟩ : ∃ j, m = j + 1 := ⟨m - 1, by omega⟩
  have hx : L[i]? = some L[i] := List.getElem?_eq_getElem (by omega)
  have h0 := hL _ (List.getElem_mem (show i < L.length by omega))
  have e1 : w64 ((i : Int) + 1) = ((i + 1 : Nat) : Int) := by rw [w64_id (by omega) (by omega)]; omega
  have ih := fun v hv => ver_lp row L hl hL d (i + 1) m v (by omega) (by omega) hv
  have fin : ∀ j : Int, ∃ o, br (j == 2) (some (.inr ())) (br (j != 1) (diwanref13_Verdict.lp5 fu row L m 0 ((i + 1 : Nat) : Int)) (diwanref13_Verdict.lp5 fu row L m v ((i + 1 : Nat) : Int))) = some o ∧ ∀ v, o = .inl v → 0 ≤ v ∧ v ≤ 2 := fun j => by
   cases (j == 2)
   ·rw [br_f rfl]
    cases (j != 1)
    ·rw [br_f rfl]; exact ih v hv
    ·rw [br_t rfl]; exact ih 0 (by omega)
   ·rw [br_t rfl]; exact ⟨_, rfl, fun v h => by cases h⟩
  rw [diwanref13_Verdict.lp5, br_t (decide_eq_true (by omega)), e1]
  simp only [jn_e]
  rw [ix_n hx]
  by_cases hr : L[i] < (row.length : Int)
  ·rw [br_t (decide_eq_true hr), ix_n hx, ix_s h0 (List.getElem?_eq_getElem (show L[i].toNat < row.length by omega))]
   exact fin _
  ·rw [br_f (decide_eq_false hr)]; exact fin _
theorem ver_e (ht : TOk t) (hf : 10 ≤ fu) {n : Int} (hn : 1 ≤ n ∧ n ≤ 3) (row : List Int) : ∃ v, diwanref13_Verdict fu t n row = some v ∧ 0 ≤ v ∧ v ≤ 2 := by
 obtain ⟨L, g1, g2, g3⟩ := rs_e ht hf hn
 obtain ⟨o, k1, k2⟩ := ver_lp (fu := fu) row L (by omega) (fun x hx => (g3 x hx).1) L.length 0 fu 1 (by omega) (by omega) (by omega)
 simp only [Int.natCast_zero] at k1
 unfold diwanref13_Verdict
 rw [bd_s g1, bd_s k1]
 cases o with
 | inl v => exact ⟨v, rfl, k2 v rfl⟩
 | inr _ => exact ⟨2, rfl, by omega⟩
theorem tor_lp (ht : TOk t) (hf : 10 ≤ fu) {n x : Int} (hn : 1 ≤ n ∧ n ≤ 3) : ∀ (d i m : Nat), i + d = t.Reads.length → d < m → ∃ o, diwanref1_Touches.lp3 fu x n t m (i : Int) = some o
 | 0, i, m, e, hm => by
  obtain ⟨m, rfl⟩ : ∃ j, m = j + 1 := ⟨m - 1, by omega⟩
  rw [diwanref1_Touches.lp3, br_f (decide_eq_false (by omega))]
  exact ⟨_, rfl⟩
 | d + 1, i, m, e, hm => by
  obtain ⟨m, rfl⟩ : ∃ j, m = j + 1 := ⟨m - 1, by omega⟩
  have hrl := ht.rl
  have hx : t.Reads[i]? = some t.Reads[i] := List.getElem?_eq_getElem (by omega)
  have hk := rd_key ht (List.getElem_mem (show i < t.Reads.length by omega))
  have e1 : w64 ((i : Int) + 1) = ((i + 1 : Nat) : Int) := by rw [w64_id (by omega) (by omega)]; omega
  rw [diwanref1_Touches.lp3, br_t (decide_eq_true (by omega)), ix_n hx, bd_s (six_shard hf hk hn).1, e1]
  cases (shN fu t.Reads[i].Key n == x)
  ·rw [br_f rfl]; exact tor_lp ht hf hn d (i + 1) m (by omega) (by omega)
  ·rw [br_t rfl]; exact ⟨_, rfl⟩
theorem tow_lp (ht : TOk t) (hf : 10 ≤ fu) {n x : Int} (hn : 1 ≤ n ∧ n ≤ 3) : ∀ (d i m : Nat), i + d = t.Writes.length → d < m → ∃ o, diwanref1_Touches.lp12 fu x n t m (i : Int) = some o
 | 0, i, m, e, hm => by
  obtain ⟨m, rfl⟩ : ∃ j, m = j + 1 := ⟨m - 1, by omega⟩
  rw [diwanref1_Touches.lp12, br_f (decide_eq_false (by omega))]
  exact ⟨_, rfl⟩
 | d + 1, i, m, e, hm => by
  obtain ⟨m, rfl⟩ : ∃ j, m = j + 1 := ⟨m - 1, by omega⟩
  have hrl := ht.wl
  have hx : t.Writes[i]? = some t.Writes[i] := List.getElem?_eq_getElem (by omega)
  have hk := wr_key ht (List.getElem_mem (show i < t.Writes.length by omega))
  have e1 : w64 ((i : Int) + 1) = ((i + 1 : Nat) : Int) := by rw [w64_id (by omega) (by omega)]; omega
  rw [diwanref1_Touches.lp12, br_t (decide_eq_true (by omega)), ix_n hx, bd_s (six_shard hf hk hn).1, e1]
  cases (shN fu t.Writes[i].Key n == x)
  ·rw [br_f rfl]; exact tow_lp ht hf hn d (i + 1) m (by omega) (by omega)
  ·rw [br_t rfl]; exact ⟨_, rfl⟩
theorem tou_e (ht : TOk t) (hf : 10 ≤ fu) {n x : Int} (hn : 1 ≤ n ∧ n ≤ 3) : ∃ b, diwanref1_Touches fu t x n = some b := by
 obtain ⟨o, g⟩ := tor_lp (x := x) ht hf hn t.Reads.length 0 fu (by omega) (by have := ht.rl; omega)
 obtain ⟨o', g'⟩ := tow_lp (x := x) ht hf hn t.Writes.length 0 fu (by omega) (by have := ht.wl; omega)
 simp only [Int.natCast_zero] at g g'
 unfold diwanref1_Touches
 rw [bd_s g]
 cases o with
 | inl _ =>
  dsimp only
  rw [bd_s g']
  cases o' <;> exact ⟨_, rfl⟩
 | inr _ => exact ⟨_, rfl⟩
theorem row_lp (h : SI fu N D s) (ht : TOk t) (hD : D ≤ 15) (hf : 30 ≤ fu) (hN : N < fu) (hN' : N ≤ 1000000) (bits : List Int) (se : List TSeat) (b : Bool) (z : TShard) : ∀ (d i m : Nat) (row : List Int), i + d = row.length → row.length ≤ 3 → d < m → ∃ row', diwanref13_Advance.lp5 fu bits se b s t z m row (i : Int) = some row'
 | 0, i, m, row, e, hl, hm => by
  obtain ⟨m, rfl⟩ : ∃ j, m = j + 1 := ⟨m - 1, by omega⟩
  rw [diwanref13_Advance.lp5, br_f (decide_eq_false (by omega))]
  exact ⟨_, rfl⟩
 | d + 1, i, m, row, e, hl, hm => by
  obtain ⟨m, rfl⟩ : ∃ j, m = j + 1 := ⟨m - 1, by omega⟩
  have e1 : w64 ((i : Int) + 1) = ((i + 1 : Nat) : Int) := by rw [w64_id (by omega) (by omega)]; omega
  obtain ⟨v, hv, _⟩ := bit_e h ht hD hf hN hN'
  have fin : ∀ r : List Int, r.length = row.length → ∃ row', br ((i : Int) == s.ID) (bd (diwanref13_Bit fu s t) fun r14_1 => ix r (i : Int) fun x14_3 => diwanref13_Advance.lp5 fu bits se b s t z m (r.set (i : Int).toNat r14_1) ((i + 1 : Nat) : Int)) (diwanref13_Advance.lp5 fu bits se b s t z m r ((i + 1 : Nat) : Int)) = some row' := fun r hr => by
   cases ((i : Int) == s.ID)
   ·rw [br_f rfl]; exact row_lp h ht hD hf hN hN' bits se b z d (i + 1) m r (by omega) (by omega) (by omega)
   ·rw [br_t rfl, bd_s hv, ix_n (List.getElem?_eq_getElem (show i < r.length by omega))]
    exact row_lp h ht hD hf hN hN' bits se b z d (i + 1) m _ (by simp; omega) (by simp; omega) (by omega)
  rw [diwanref13_Advance.lp5, br_t (decide_eq_true (by omega)), e1]
  simp only [jn_e]
  by_cases hb : (i : Int) < (bits.length : Int)
  ·rw [br_t (decide_eq_true hb), ix_n (List.getElem?_eq_getElem (show i < bits.length by omega)), ix_n (List.getElem?_eq_getElem (show i < row.length by omega))]
   exact fin _ (by simp)
  ·rw [br_f (decide_eq_false hb)]; exact fin _ rfl
theorem mine_lp (h : SI fu N D s) (ht : TOk t) (hf : 10 ≤ fu) (z z' : TShard) : ∀ (d i m : Nat) (ws : List TWrite), i + d = t.Writes.length → d < m → ws.length ≤ i → (∀ w ∈ ws, w ∈ t.Writes ∧ shN fu w.Key s.Shards = s.ID) →
  ∃ ws', diwanref13_Advance.lp38 fu s t z z' m ws (i : Int) = some ws' ∧ ws'.length ≤ t.Writes.length ∧ ∀ w ∈ ws', w ∈ t.Writes ∧ shN fu w.Key s.Shards = s.ID
 | 0, i, m, ws, e, hm, hl, hw => by
  obtain ⟨m, rfl⟩ : ∃ j, m = j + 1 := ⟨m - 1, by omega⟩
  rw [diwanref13_Advance.lp38, br_f (decide_eq_false (by omega))]
  exact ⟨_, rfl, by omega, hw⟩
 | d + 1, i, m, ws, e, hm, hl, hw => by
  obtain ⟨m, rfl⟩ : ∃ j, m = j + 1 := ⟨m - 1, by omega⟩
  have hwl := ht.wl
  have hx : t.Writes[i]? = some t.Writes[i] := List.getElem?_eq_getElem (by omega)
  have hm' := List.getElem_mem (show i < t.Writes.length by omega)
  have hk := wr_key ht hm'
  have e1 : w64 ((i : Int) + 1) = ((i + 1 : Nat) : Int) := by rw [w64_id (by omega) (by omega)]; omega
  rw [diwanref13_Advance.lp38, br_t (decide_eq_true (by omega)), ix_n hx, bd_s (six_shard hf hk h.sh).1, e1]
  by_cases hq : shN fu t.Writes[i].Key s.Shards = s.ID
  ·rw [br_t (by rw [hq]; exact beq_self_eq_true _), ix_n hx, gd_t (decide_eq_true (by simp; omega))]
   refine mine_lp h ht hf z z' d (i + 1) m _ (by omega) (by omega) (by simp; omega) fun w h => ?_
   rcases List.mem_append.1 h with g | g
   ·exact hw w g
   ·rw [List.mem_singleton.1 g]; exact ⟨hm', hq⟩
  ·rw [br_f (beq_eq_false_iff_ne.2 hq)]
   exact mine_lp h ht hf z z' d (i + 1) m ws (by omega) (by omega) (by omega) hw
end
end Go.Proofs.Ythjpcfbfiaenaaa.Told.SV
