/- The plain law of StoreAll: the program's functions and the reference's come to the same. -/
import Derived.Test.YtjahlppmahjplaaTMade
import Derived.Test.YtjahlppmahjplaaTStore5
import Derived.Test.YtjahlppmahjplaaTStoreR2
import Derived.Test.YtjahlppmahjplaaTStoreR4
namespace Go.Proofs.Ytjahlppmahjplaa.Told.PureStoreAll
open Go Go.Proofs.Ytjahlppmahjplaa.Vam Go.Proofs.Ytjahlppmahjplaa.Told Go.Proofs.Ytjahlppmahjplaa.Told.CF Go.Proofs.Ytjahlppmahjplaa.Told.PK Go.Proofs.Ytjahlppmahjplaa.Told.ST
set_option linter.unusedSimpArgs false
set_option linter.unusedVariables false
theorem rd_same (a : TRead) : (!((a.Key.toList == a.Key.toList) && ((a.Version == a.Version) && ((a.Val.toList == a.Val.toList) && ((a.There == a.There) && true))))) = false := by simp
theorem lp23 {fu : Nat} (hf : 200 ≤ fu) (x y : ByteArray) (ps : List Int) (s : TStore) (t : TTxn) (j : Nat) (p : Int) (hp : ps[j]? = some p) (hs : MI 36 36 s.Chains) : ∀ (r q : List ByteArray) (n : Nat), (q ++ r).length ≤ 1000000 → r.length < n →
    diwanlaw16_StoreAll.lp23 fu x y ps (q ++ r) (j : Int) s t n (q.length : Int) = some (.inl ())
  | [], q, n, hl, hn => by
    obtain ⟨n, rfl⟩ : ∃ m, n = m + 1 := ⟨n - 1, by omega⟩
    simp only [List.append_nil]
    rw [diwanlaw16_StoreAll.lp23, br_f (nlt_end _)]
  | k :: r, q, n, hl, hn => by
    obtain ⟨n, rfl⟩ : ∃ m, n = m + 1 := ⟨n - 1, by omega⟩
    have e : q ++ k :: r = (q ++ [k]) ++ r := by simp
    have ih := lp23 hf x y ps s t j p hp hs r (q ++ [k]) n (by rw [← e]; exact hl) (by simp at hn; omega)
    rw [← e] at ih
    rw [diwanlaw16_StoreAll.lp23, br_t (lt_mid _ _ _), ix_mid, ix_n hp, bd_s (get_e k p hs.srt hs.sml (by decide) (by omega)), w64_len q r k (by omega), ih]
    try dsimp only
    rw [ix_mid, ix_n hp, bd_s (rget_e k p hs.sml (by decide) (by omega))]
    try dsimp only
    rw [br_f (rd_same _), br_f (by simp), ix_mid, bd_s (lastS_e k hs.srt hs.sml (by decide) (by omega)), ix_mid, bd_s (rlastS_e k hs.sml (by decide) (by omega)), br_f (by simp)]
theorem lp45 (fu : Nat) (x y : ByteArray) (ps : List Int) (ks : List ByteArray) (j : Int) (s : TStore) (t : TTxn) : ∀ (r q : List TRead) (n : Nat), (q ++ r).length ≤ 1000000 → r.length < n →
    diwanlaw16_StoreAll.lp45 fu x y ps ks j (q ++ r) (q ++ r) s t n (q.length : Int) = some (.inl ())
  | [], q, n, hl, hn => by
    obtain ⟨n, rfl⟩ : ∃ m, n = m + 1 := ⟨n - 1, by omega⟩
    simp only [List.append_nil]
    rw [diwanlaw16_StoreAll.lp45, br_f (nlt_end _)]
  | k :: r, q, n, hl, hn => by
    obtain ⟨n, rfl⟩ : ∃ m, n = m + 1 := ⟨n - 1, by omega⟩
    have e : q ++ k :: r = (q ++ [k]) ++ r := by simp
    have ih := lp45 fu x y ps ks j s t r (q ++ [k]) n (by rw [← e]; exact hl) (by simp at hn; omega)
    rw [← e] at ih
    rw [diwanlaw16_StoreAll.lp45, br_t (lt_mid _ _ _), ix_mid, ix_mid, w64_len q r k (by omega), ih, br_f (rd_same _)]
theorem lp19 {fu : Nat} (hf : 200 ≤ fu) (x y : ByteArray) (ks : List ByteArray) (s : TStore) (t : TTxn) (hk : ks.length ≤ 100) (hs : MI 36 36 s.Chains) (ht : TxOk 3 t) : ∀ (r q : List Int) (n : Nat), (q ++ r).length ≤ 1000000 → (∀ p ∈ r, -9223372036854775808 ≤ p) → r.length < n →
    diwanlaw16_StoreAll.lp19 fu x y (q ++ r) ks s t n (q.length : Int) = some (.inl ())
  | [], q, n, hl, hb, hn => by
    obtain ⟨n, rfl⟩ : ∃ m, n = m + 1 := ⟨n - 1, by omega⟩
    simp only [List.append_nil]
    rw [diwanlaw16_StoreAll.lp19, br_f (nlt_end _)]
  | p :: r, q, n, hl, hb, hn => by
    obtain ⟨n, rfl⟩ : ∃ m, n = m + 1 := ⟨n - 1, by omega⟩
    have e : q ++ p :: r = (q ++ [p]) ++ r := by simp
    have ih := lp19 hf x y ks s t hk hs ht r (q ++ [p]) n (by rw [← e]; exact hl) (fun p h => hb p (by simp [h])) (by simp at hn; omega)
    rw [← e] at ih
    have h23 := lp23 hf x y (q ++ p :: r) s t q.length p (by simp) hs ks [] fu (by simp; omega) (by omega)
    simp only [List.nil_append, List.length_nil, Int.natCast_zero] at h23
    rw [diwanlaw16_StoreAll.lp19, br_t (lt_mid _ _ _), bd_s h23]
    try dsimp only
    rw [ix_mid, bd_s (span_e x y p hs.sml (by decide) (by omega)), w64_len q r p (by omega), ih]
    try dsimp only
    rw [ix_mid, bd_s (rspan_e x y p hs.srt hs.sml (by decide) (by omega))]
    try dsimp only
    have h45 := lp45 fu x y (q ++ p :: r) ks (q.length : Int) s t (spanS s x y p).1 [] fu (by
      simp only [List.nil_append]
      unfold spanS
      cases decide (p < s.Mark)
      · have := spn_len x y p s.Chains; have := hs.sml.1; show (spn x y p s.Chains).length ≤ _; omega
      · simp) (by
      unfold spanS
      cases decide (p < s.Mark)
      · have := spn_len x y p s.Chains; have := hs.sml.1; show (spn x y p s.Chains).length < _; omega
      · show 0 < fu; omega)
    simp only [List.nil_append, List.length_nil, Int.natCast_zero] at h45
    rw [jn_e, bd_s h45]
    try dsimp only
    rw [br_f (by simp), br_f (by simp), ix_mid, bd_s (trimS_e p hs.sml (by decide) (by omega)), ix_mid, bd_s (rtrimS_e p hs.sml (fun c hc => (hs.ok c hc).2.2.1) (by decide) (by omega)), bd_s (rsameS_e (N := 36) (trimS_mi (p := p) hs).sml (by omega) (by decide)), br_f (by rfl), ix_mid]
    have hw := tx_wr ht
    have hwl := ht.wl
    by_cases hp : p ≥ 1
    · rw [br_t (decide_eq_true hp), ix_mid, bd_s (write_e (N := 36) (hb p (by simp)) hs.srt hs.sml (by omega) (by omega) (by omega)), ix_mid, bd_s (rwrite_e (N := 36) hs.srt hs.sml (by omega) (by omega) (by omega))]
      have hm := hs.puts (pos := p) (Q := if p ≤ 36 then 36 else p) (by split <;> omega) hw (by split <;> omega)
      rw [bd_s (rsameS_e (N := 36 + t.Writes.length) (s := TStore.mk (puts p t.Writes s.Chains) s.Mark) hm.sml (by omega) (by omega)), br_f (by rfl)]
    · rw [br_f (decide_eq_false hp)]
theorem begun_e : diwanlaw16_begun 200 = some true := by kernel_rfl
theorem holds (picks more : List Int) (pos mark : Int) (key from_v to : ByteArray) (k0 : okL (okI .u8) picks) (k1 : okL (okI .u8) more) (k2 : okI .i64 pos) (k3 : okI .i64 mark) (k4 : okS key) (k5 : okS from_v) (k6 : okS to) : ∃ fu, diwanlaw16_StoreAll fu picks more pos mark key from_v to = some true := by
  refine ⟨200, ?_⟩
  unfold diwanlaw16_StoreAll
  rw [bd_s begun_e, br_f (by rfl)]
  by_cases h1 : (picks.length : Int) > 150
  · rw [br_t (decide_eq_true h1)]
  rw [br_f (decide_eq_false h1)]
  by_cases h2 : (more.length : Int) > 20
  · rw [br_t (decide_eq_true h2)]
  rw [br_f (decide_eq_false h2)]
  cases decide (w64 (w64 ((key.size : Int) + from_v.size) + to.size) > 60)
  · rw [br_f rfl]
    obtain ⟨s, m1, hs, hM, _⟩ := made_e (fu := 200) (Nat.le_refl _) (l := picks) k0.2 (by omega)
    rw [bd_s m1]
    unfold diwanplay_Made
    rw [bd_s rfl]
    obtain ⟨t, o, t1, _, tx⟩ := txn_e (fu := 200) (by decide) 3 (made_inv (l := more) k1.2 (by omega))
    rw [bd_s t1]
    try dsimp only
    rw [bd_s (mayS_e hs hM (by decide) (by decide) (by decide)), br_f (by rfl), bd_s (sameS_e hs.sml (by decide) (by decide)), br_f (by rfl)]
    have h19 := lp19 (fu := 200) (Nat.le_refl _) from_v to [key, (⟨#[97]⟩ : ByteArray), (⟨#[98]⟩ : ByteArray), (⟨#[101, 101]⟩ : ByteArray)] s t (by simp) hs tx [pos, 0, 3, 9, 20] [] 200 (by simp) (fun p hp => by
      have := okI_i64 k2
      simp at hp
      omega) (by simp)
    simp only [List.nil_append, List.length_nil, Int.natCast_zero] at h19
    rw [bd_s h19]
  · rw [br_t rfl]
end Go.Proofs.Ytjahlppmahjplaa.Told.PureStoreAll
