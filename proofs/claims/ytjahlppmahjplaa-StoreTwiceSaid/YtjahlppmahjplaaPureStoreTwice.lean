/- The plain law of StoreTwice: a second write of the same changes nothing. -/
import Derived.Test.YtjahlppmahjplaaTMade
import Derived.Test.YtjahlppmahjplaaTStore5
import Derived.Test.YtjahlppmahjplaaTStore8
namespace Go.Proofs.Ytjahlppmahjplaa.Told.PureStoreTwice
open Go Go.Proofs.Ytjahlppmahjplaa.Vam Go.Proofs.Ytjahlppmahjplaa.Told Go.Proofs.Ytjahlppmahjplaa.Told.CF Go.Proofs.Ytjahlppmahjplaa.Told.PK Go.Proofs.Ytjahlppmahjplaa.Told.ST
set_option linter.unusedSimpArgs false
set_option linter.unusedVariables false
theorem begun_e : diwanlaw16_begun 200 = some true := by kernel_rfl
theorem lp25 (fu : Nat) (p : Int) (ks : List ByteArray) (j : Nat) (k : ByteArray) (hk : ks[j]? = some k) (s t : TStore) : ∀ (r q : List TWrite) (n : Nat) (b : Bool), (q ++ r).length ≤ 1000000 → r.length < n →
    diwanlaw16_StoreTwice.lp25 fu (q ++ r) p ks (j : Int) s t n b (q.length : Int) = some (b || r.any fun w => w.Key.toList == k.toList)
  | [], q, n, b, hl, hn => by
    obtain ⟨n, rfl⟩ : ∃ m, n = m + 1 := ⟨n - 1, by omega⟩
    simp only [List.append_nil]
    rw [diwanlaw16_StoreTwice.lp25, br_f (nlt_end _)]; simp
  | w :: r, q, n, b, hl, hn => by
    obtain ⟨n, rfl⟩ : ∃ m, n = m + 1 := ⟨n - 1, by omega⟩
    have e : q ++ w :: r = (q ++ [w]) ++ r := by simp
    have ih := fun b => lp25 fu p ks j k hk s t r (q ++ [w]) n b (by rw [← e]; exact hl) (by simp at hn; omega)
    rw [← e] at ih
    rw [diwanlaw16_StoreTwice.lp25, br_t (lt_mid _ _ _), w64_len q r w (by omega)]
    cases b
    · rw [br_f rfl, ix_mid, ix_n hk, ih]; simp
    · rw [br_t rfl, ih]; simp
theorem lp20 {fu N : Nat} (hf : 200 ≤ fu) (W : List TWrite) (hW : W.length ≤ 100) {s t : TStore} {p : Int} (hp : 1 ≤ p) (hs : MI 36 36 s.Chains) (hN : N ≤ 100) (ht : MI N p t.Chains) (he : t.Chains = puts p W s.Chains) : ∀ (r q : List ByteArray) (n : Nat), (q ++ r).length ≤ 1000000 → r.length < n →
    diwanlaw16_StoreTwice.lp20 fu W p (q ++ r) s t n (q.length : Int) = some (.inl ())
  | [], q, n, hl, hn => by
    obtain ⟨n, rfl⟩ : ∃ m, n = m + 1 := ⟨n - 1, by omega⟩
    simp only [List.append_nil]
    rw [diwanlaw16_StoreTwice.lp20, br_f (nlt_end _)]
  | k :: r, q, n, hl, hn => by
    obtain ⟨n, rfl⟩ : ∃ m, n = m + 1 := ⟨n - 1, by omega⟩
    have e : q ++ k :: r = (q ++ [k]) ++ r := by simp
    have ih := lp20 hf W hW hp hs hN ht he r (q ++ [k]) n (by rw [← e]; exact hl) (by simp at hn; omega)
    rw [← e] at ih
    have h25 := lp25 fu p (q ++ k :: r) q.length k (by simp) s t W [] fu false (by simp; omega) (by omega)
    simp only [List.nil_append, List.length_nil, Int.natCast_zero, Bool.false_or] at h25
    have l1 := lastS_e (fu := fu) (N := N) k ht.srt ht.sml (by omega) (by omega)
    have l2 := lastS_e (fu := fu) (N := 36) k hs.srt hs.sml (by omega) (by omega)
    rw [diwanlaw16_StoreTwice.lp20, br_t (lt_mid _ _ _), bd_s h25, w64_len q r k (by omega), ih]
    cases ha : (W.any fun w => w.Key.toList == k.toList)
    · rw [br_f rfl, br_t (by rfl), ix_mid, bd_s l1, ix_mid, bd_s l2, he, puts_else hp k hs.srt (fun w hw => by
        have := List.any_eq_false.1 ha w hw
        simpa using this), br_f (by simp)]
    · obtain ⟨w, hw, hwk⟩ := List.any_eq_true.1 ha
      have h1 := puts_has (pos := p) hp (l := W) hs.srt w hw
      rw [beq_ba.1 hwk, ← he] at h1
      have h2 := ht.last (by omega) k
      rw [br_t rfl, ix_mid, bd_s l1, show CF.last (chainOf k t.Chains) = p by omega, br_f (by simp), br_f (by rfl)]
theorem holds (picks more : List Int) (by_v : Int) (k0 : okL (okI .u8) picks) (k1 : okL (okI .u8) more) (k2 : okI .u8 by_v) : ∃ fu, diwanlaw16_StoreTwice fu picks more by_v = some true := by
  refine ⟨200, ?_⟩
  unfold diwanlaw16_StoreTwice
  rw [bd_s begun_e, br_f (by rfl)]
  by_cases h1 : (picks.length : Int) > 150
  · rw [br_t (decide_eq_true h1)]
  rw [br_f (decide_eq_false h1)]
  by_cases h2 : (more.length : Int) > 20
  · rw [br_t (decide_eq_true h2)]
  rw [br_f (decide_eq_false h2)]
  obtain ⟨s, m1, hs, hM, _⟩ := made_e (fu := 200) (Nat.le_refl _) (l := picks) k0.2 (by omega)
  rw [bd_s m1]
  unfold diwanplay_Made
  rw [bd_s rfl]
  obtain ⟨t, o, t1, _, tx⟩ := txn_e (fu := 200) (by decide) 1 (made_inv (l := more) k1.2 (by omega))
  rw [bd_s t1]
  try dsimp only
  have hb := okI_u8 k2
  have hw := tx_wr tx
  have hwl := tx.wl
  obtain ⟨p, hp⟩ : ∃ p, p = 40 + by_v := ⟨_, rfl⟩
  have ep : w64 (40 + w64 by_v) = p := by rw [w64_id (n := by_v) (by omega) (by omega), w64_id (by omega) (by omega), hp]
  rw [ep]
  have hm : MI (36 + t.Writes.length) p (puts p t.Writes s.Chains) := hs.puts (Int.le_refl _) hw (by omega)
  have hm' : MI 100 p (puts p t.Writes s.Chains) := hm.mono (by omega) (Int.le_refl _)
  rw [bd_s (write_e (N := 36) (by omega) hs.srt hs.sml (by omega) (by omega) (by omega)), bd_s (write_e (N := 100) (by omega) hm'.srt hm'.sml (by omega) (by omega) (by omega))]
  dsimp only
  rw [puts_noop (by omega) hm'.srt (puts_has (by omega) hs.srt), bd_s (sameS_e (s := TStore.mk (puts p t.Writes s.Chains) s.Mark) hm'.sml (by decide) (by decide)), br_f (by rfl), bd_s (mayS_e (s := TStore.mk (puts p t.Writes s.Chains) s.Mark) hm' hM (by decide) (by decide) (by decide)), br_f (by rfl), br_f (by simp)]
  have h20 := lp20 (fu := 200) (N := 100) (Nat.le_refl _) t.Writes (by omega) (s := s) (t := TStore.mk (puts p t.Writes s.Chains) s.Mark) (p := p) (by omega) hs (Nat.le_refl _) hm' rfl six [] 200 (by decide) (by decide)
  simp only [List.nil_append, List.length_nil, Int.natCast_zero] at h20
  rw [six] at h20
  rw [bd_s h20]
end Go.Proofs.Ytjahlppmahjplaa.Told.PureStoreTwice
