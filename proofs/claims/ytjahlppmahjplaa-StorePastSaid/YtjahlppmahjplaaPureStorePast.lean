/- The plain law of StorePast: what is written behind a position is not seen at it. -/
import Derived.Test.YtjahlppmahjplaaTMade
import Derived.Test.YtjahlppmahjplaaTStore5
import Derived.Test.YtjahlppmahjplaaTStore9
namespace Go.Proofs.Ytjahlppmahjplaa.Told.PureStorePast
open Go Go.Proofs.Ytjahlppmahjplaa.Vam Go.Proofs.Ytjahlppmahjplaa.Told Go.Proofs.Ytjahlppmahjplaa.Told.CF Go.Proofs.Ytjahlppmahjplaa.Told.PK Go.Proofs.Ytjahlppmahjplaa.Told.ST
set_option linter.unusedSimpArgs false
set_option linter.unusedVariables false
theorem begun_e : diwanlaw16_begun 200 = some true := by kernel_rfl
theorem rd_same (a : TRead) : (!((a.Key.toList == a.Key.toList) && ((a.Version == a.Version) && ((a.Val.toList == a.Val.toList) && ((a.There == a.There) && true))))) = false := by simp
theorem lp21 {fu N : Nat} (hf : 200 ≤ fu) {t u : TStore} {p : Int} (hN : N ≤ 100) (ht : MI N 100 t.Chains) (hu : MI N 100 u.Chains) (hM : u.Mark ≤ p) (hl : ∀ k, last (chainOf k u.Chains) = last (chainOf k t.Chains)) : ∀ (r q : List TRead) (n : Nat), (q ++ r).length ≤ 1000000 → (∀ x ∈ r, ∃ c ∈ u.Chains, x = rd c.Key c.L p) → r.length < n →
    diwanlaw16_StorePast.lp21 fu p (q ++ r) (q ++ r) t u n (q.length : Int) = some (.inl ())
  | [], q, n, hq, hx, hn => by
    obtain ⟨n, rfl⟩ : ∃ m, n = m + 1 := ⟨n - 1, by omega⟩
    simp only [List.append_nil]
    rw [diwanlaw16_StorePast.lp21, br_f (nlt_end _)]
  | x :: r, q, n, hq, hx, hn => by
    obtain ⟨n, rfl⟩ : ∃ m, n = m + 1 := ⟨n - 1, by omega⟩
    have e : q ++ x :: r = (q ++ [x]) ++ r := by simp
    have ih := lp21 hf hN ht hu hM hl r (q ++ [x]) n (by rw [← e]; exact hq) (fun x h => hx x (by simp [h])) (by simp at hn; omega)
    rw [← e] at ih
    obtain ⟨c, hc, hxc⟩ := hx x (by simp)
    have hk : x.Key = c.Key := by rw [hxc]; rfl
    have hg : getS u x.Key p = (x, 0) := by
      unfold getS
      rw [decide_eq_false (by omega), hk, chainOf_in hu.srt c hc, hxc]; rfl
    have l1 := lastS_e (fu := fu) (N := N) x.Key hu.srt hu.sml (by omega) (by omega)
    have l2 := lastS_e (fu := fu) (N := N) x.Key ht.srt ht.sml (by omega) (by omega)
    rw [diwanlaw16_StorePast.lp21, br_t (lt_mid _ _ _), ix_mid, bd_s (get_e (N := N) x.Key p hu.srt hu.sml (by omega) (by omega)), hg, w64_len q r x (by omega), ih]
    dsimp only
    rw [ix_mid, ix_mid, br_f (rd_same _), br_f (by rfl), ix_mid, br_f (rd_same _), ix_mid, bd_s l1, ix_mid, bd_s l2, hl, br_f (by simp)]
theorem holds (picks more : List Int) (mark pos : Int) (k0 : okL (okI .u8) picks) (k1 : okL (okI .u8) more) (k2 : okI .u8 mark) (k3 : okI .u8 pos) : ∃ fu, diwanlaw16_StorePast fu picks more mark pos = some true := by
  refine ⟨200, ?_⟩
  unfold diwanlaw16_StorePast
  rw [bd_s begun_e, br_f (by rfl)]
  by_cases h1 : (picks.length : Int) > 150
  · rw [br_t (decide_eq_true h1)]
  rw [br_f (decide_eq_false h1)]
  by_cases h2 : (more.length : Int) > 20
  · rw [br_t (decide_eq_true h2)]
  rw [br_f (decide_eq_false h2)]
  obtain ⟨s, m1, hs, hM, hM'⟩ := made_e (fu := 200) (Nat.le_refl _) (l := picks) k0.2 (by omega)
  rw [bd_s m1]
  unfold diwanplay_Made
  rw [bd_s rfl]
  obtain ⟨t, o, t1, _, tx⟩ := txn_e (fu := 200) (by decide) 1 (made_inv (l := more) k1.2 (by omega))
  rw [bd_s t1]
  try dsimp only
  have hw := tx_wr tx
  have hwl := tx.wl
  have hm := okI_u8 k2
  have hp := okI_u8 k3
  obtain ⟨q, hq, hq0, hq1⟩ : ∃ q, w64 (Int.tmod pos 40) = q ∧ 0 ≤ q ∧ q < 40 := by
    have e1 : Int.tmod pos 40 = pos % 40 := Int.tmod_eq_emod_of_nonneg hp.1
    refine ⟨pos % 40, by rw [e1, w64_id (by omega) (by omega)], by omega, by omega⟩
  rw [hq, w64_id (n := mark) (by omega) (by omega)]
  obtain ⟨p, hpe⟩ : ∃ p, p = if s.Mark < q then q else s.Mark := ⟨_, rfl⟩
  rw [← hpe]
  have hp0 : s.Mark ≤ p ∧ p < 40 := by rw [hpe]; split <;> omega
  obtain ⟨m, hme⟩ : ∃ m, m = if p < mark then p else mark := ⟨_, rfl⟩
  rw [← hme]
  have hm0 : 0 ≤ m ∧ m ≤ p := by rw [hme]; split <;> omega
  rw [w64_id (n := p + 1) (by omega) (by omega)]
  have hT : MI 100 100 (puts (p + 1) t.Writes s.Chains) := (hs.puts (pos := p + 1) (Q := 50) (by omega) hw (by omega)).mono (by omega) (by omega)
  rw [bd_s (write_e (N := 36) (by omega) hs.srt hs.sml (by omega) (by omega) (by omega)), bd_s (trimS_e (N := 100) m hT.sml (by omega) (by omega))]
  obtain ⟨T, hTe⟩ : ∃ T, T = TStore.mk (puts (p + 1) t.Writes s.Chains) s.Mark := ⟨_, rfl⟩
  have hT' : MI 100 100 T.Chains := by rw [hTe]; exact hT
  have hsT : spn ByteArray.empty ByteArray.empty p T.Chains = spn ByteArray.empty ByteArray.empty p s.Chains := by rw [hTe]; exact spn_puts (by omega) t.Writes s.Chains
  have hTM : T.Mark = s.Mark := by rw [hTe]
  rw [← hTe]
  clear hTe hT
  have hU : MI 100 100 (trimS T m).Chains := trimS_mi hT'
  have hUM : 0 ≤ (trimS T m).Mark ∧ (trimS T m).Mark ≤ p := by
    unfold trimS
    cases decide (m ≤ T.Mark)
    · exact hm0
    · show 0 ≤ T.Mark ∧ T.Mark ≤ p; omega
  have hsU : spn ByteArray.empty ByteArray.empty p (trimS T m).Chains = spn ByteArray.empty ByteArray.empty p s.Chains := by rw [spn_trimS hm0.2, hsT]
  have hlU := last_trimS T m
  obtain ⟨U, hUe⟩ : ∃ U, U = trimS T m := ⟨_, rfl⟩
  rw [← hUe] at hU hUM hsU ⊢
  have e1 : spanS s ByteArray.empty ByteArray.empty p = (spn ByteArray.empty ByteArray.empty p s.Chains, 0) := by
    unfold spanS; rw [decide_eq_false (by omega)]; rfl
  have e2 : spanS U ByteArray.empty ByteArray.empty p = (spn ByteArray.empty ByteArray.empty p s.Chains, 0) := by
    unfold spanS; rw [decide_eq_false (by omega), hsU]; rfl
  rw [bd_s (span_e (N := 36) _ _ p hs.sml (by decide) (by decide)), bd_s (span_e (N := 100) _ _ p hU.sml (by decide) (by decide)), e1, e2]
  dsimp only
  rw [br_f (by rfl), br_f (by rfl), br_f (by simp)]
  have hln := spn_len ByteArray.empty ByteArray.empty p s.Chains
  have hsl := hs.sml.1
  have h21 := lp21 (fu := 200) (N := 100) (Nat.le_refl _) (t := T) (u := U) (p := p) (Nat.le_refl _) hT' hU hUM.2 (fun k => by rw [hUe]; exact hlU k) (spn ByteArray.empty ByteArray.empty p s.Chains) [] 200 (by simp; omega) (fun x hx => by rw [← hsU] at hx; exact spn_mem hx) (by omega)
  simp only [List.nil_append, List.length_nil, Int.natCast_zero] at h21
  rw [bd_s h21]
  dsimp only
  rw [bd_s (mayS_e hU hUM.1 (by decide) (by decide) (by decide))]
end Go.Proofs.Ytjahlppmahjplaa.Told.PureStorePast
