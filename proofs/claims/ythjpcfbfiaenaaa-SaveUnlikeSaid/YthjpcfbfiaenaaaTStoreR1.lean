/- A store's functions by the reference: what is written. -/
import Derived.Test.YthjpcfbfiaenaaaTStore1
namespace Go.Proofs.Ythjpcfbfiaenaaa.Told.ST
open Go Go.Proofs.Ythjpcfbfiaenaaa.Vam Go.Proofs.Ythjpcfbfiaenaaa.Told Go.Proofs.Ythjpcfbfiaenaaa.Told.CF
set_option linter.unusedSimpArgs false
set_option linter.unusedVariables false
theorem jn_ind {α β : Type} {k : α} {m : α → β} {P : β → Prop} (h : ∀ k', k' = k → P (m k')) : P (jn k m) := h k rfl
theorem rfind_lp (fu : Nat) (p : Int) (ws : List TWrite) (i : Int) (z : TStore) (w : TWrite) (M : Int) : ∀ (A q B : List TChain) (n : Nat), (q ++ A ++ B).length ≤ 1000000 → (∀ v ∈ A, kl v.Key w.Key = true) → (∀ v ∈ B, kl v.Key w.Key = false) → A.length < n →
  diwanref13_Write.lp9 fu p ws i z (TStore.mk (q ++ A ++ B) M) w n (q.length : Int) = some (((q ++ A).length : Nat) : Int)
 | [], q, B, n, hl, hA, hB, hn => by
  obtain ⟨n, rfl⟩ : ∃ m, n = m + 1 := ⟨n - 1, by omega⟩
  rw [diwanref13_Write.lp9]
  dsimp only
  simp only [List.append_nil]
  cases B with
  | nil => rw [List.append_nil, br_f (nlt_end _)]
  | cons v R =>
   rw [br_t (lt_mid _ _ _), ix_mid]
   show br (kl v.Key w.Key) _ _ = _
   rw [br_f (hB v (by simp))]
 | a :: A, q, B, n, hl, hA, hB, hn => by
  obtain ⟨n, rfl⟩ : ∃ m, n = m + 1 := ⟨n - 1, by omega⟩
  have e : q ++ a :: A = (q ++ [a]) ++ A := by simp
  have ih := rfind_lp fu p ws i z w M A (q ++ [a]) B n (by rw [← e]; exact hl) (fun v h => hA v (by simp [h])) hB (by simp at hn; omega)
  rw [← e] at ih
  rw [diwanref13_Write.lp9]
  dsimp only
  have e2 : q ++ a :: A ++ B = q ++ a :: (A ++ B) := by simp
  rw [e2] at ih hl ⊢
  rw [br_t (lt_mid _ _ _), ix_mid]
  show br (kl a.Key w.Key) _ _ = _
  rw [br_t (hA a (by simp)), w64_len q (A ++ B) a (by omega)]
  exact ih
theorem rwrite_lp (fu : Nat) (pos : Int) (z : TStore) (M : Int) : ∀ (r q : List TWrite) (cs : List TChain) (n N : Nat), (q ++ r).length ≤ 1000 → Srt cs → Sml N cs → N + r.length ≤ 900000 → N + r.length < fu → r.length < n →
  diwanref13_Write.lp4 fu pos (q ++ r) z n (q.length : Int) (TStore.mk cs M) = some (TStore.mk (puts pos r cs) M)
 | [], q, cs, n, N, hl, hs, hm, hN, hf, hn => by
  obtain ⟨n, rfl⟩ : ∃ m, n = m + 1 := ⟨n - 1, by omega⟩
  simp only [List.append_nil]
  rw [diwanref13_Write.lp4, br_f (nlt_end _)]; rfl
 | w :: r, q, cs, n, N, hl, hs, hm, hN, hf, hn => by
  obtain ⟨n, rfl⟩ : ∃ m, n = m + 1 := ⟨n - 1, by omega⟩
  have e : q ++ w :: r = (q ++ [w]) ++ r := by simp
  have hps := put_sml (N := N) pos w (cs := cs)
  have ih := rwrite_lp fu pos z M r (q ++ [w]) (put pos w cs) n (N + 1) (by rw [← e]; exact hl) (put_srt pos w hs) ⟨by have := hps.1; have := hm.1; omega, hps.2 hm.2⟩ (by simp at hN; omega) (by simp at hf; omega) (by simp at hn; omega)
  rw [← e] at ih
  have hg : puts pos (w :: r) cs = puts pos r (put pos w cs) := rfl
  obtain ⟨out, ho⟩ : ∃ o, o = puts pos r (put pos w cs) := ⟨_, rfl⟩
  rw [hg, ← ho]
  rw [← ho] at ih
  clear ho hg
  obtain ⟨A, B, hAB, hA, hB, _⟩ := srt_cut cs w.Key hs
  have hlen : (A ++ B).length ≤ 900000 := by rw [← hAB]; have := hm.1; simp at hN; omega
  have hlf : (A ++ B).length < fu := by rw [← hAB]; have := hm.1; simp at hf; omega
  have hAl : A.length ≤ (A ++ B).length := by simp
  have hput : put pos w cs = A ++ put pos w B := by rw [hAB, put_app pos w A B hA]
  have hfind := rfind_lp fu pos (q ++ w :: r) (q.length : Int) z w M A [] B fu (by simpa using (by omega : (A ++ B).length ≤ 1000000)) hA hB (by omega)
  simp only [List.nil_append, List.length_nil, Int.natCast_zero] at hfind
  rw [diwanref13_Write.lp4, br_t (lt_mid _ _ _), ix_mid, hAB, bd_s hfind, w64_len q r w (by omega)]
  dsimp only
  -- a new key
  have hnew : hit B w.Key = false → ∀ k24 : TStore → Option TStore, (∀ S, k24 S = ix S.Chains (A.length : Int) fun x25_1 => bd (diwanref13_Add x25_1.L (TVersion.mk pos w.Val w.Gone)) fun r25_4 => ix S.Chains (A.length : Int) fun x25_6 =>
        diwanref13_Write.lp4 fu pos (q ++ w :: r) z n ((q ++ [w]).length : Int) (TStore.mk (S.Chains.set (A.length : Int).toNat (TChain.mk x25_6.Key r25_4)) S.Mark)) →
    (br (decide (pos < 1)) (diwanref13_Write.lp4 fu pos (q ++ w :: r) z n ((q ++ [w]).length : Int) (TStore.mk (A ++ B) M))
     (gd (decide ((0 : Int) ≤ (A.length : Int) ∧ (A.length : Int) ≤ ((A ++ B).length : Int))) <|
     gd (decide (([] : List TChain).length + (List.take (A.length : Int).toNat (A ++ B)).length ≤ 4294967296)) <|
     gd (decide ((List.take (A.length : Int).toNat (A ++ B)).length + ([(TChain.mk w.Key [])] : List TChain).length ≤ 4294967296)) <|
     gd (decide ((0 : Int) ≤ (A.length : Int) ∧ (A.length : Int) ≤ ((A ++ B).length : Int))) <|
     gd (decide (((List.take (A.length : Int).toNat (A ++ B)) ++ ([(TChain.mk w.Key [])] : List TChain)).length + (List.drop (A.length : Int).toNat (A ++ B)).length ≤ 4294967296)) <|
     k24 (TStore.mk (((List.take (A.length : Int).toNat (A ++ B)) ++ ([(TChain.mk w.Key [])] : List TChain)) ++ (List.drop (A.length : Int).toNat (A ++ B))) M))) = some (TStore.mk out M) := by
   intro hh k24 hk
   rw [put_new hB hh] at hput
   by_cases hp1 : pos < 1
   ·rw [decide_eq_true hp1] at hput ⊢
    simp only [cond_true] at hput
    rw [br_t rfl, ← hput]; exact ih
   ·rw [decide_eq_false hp1] at hput ⊢
    simp only [cond_false] at hput
    have hlB : (A ++ B).length = A.length + B.length := by simp
    rw [br_f rfl, Int.toNat_natCast, List.take_left' rfl, List.drop_left' rfl]
    rw [gd_t (decide_eq_true ⟨by omega, by omega⟩), gd_t (decide_eq_true (by simp; omega)), gd_t (decide_eq_true (by simp; omega)), gd_t (decide_eq_true ⟨by omega, by omega⟩), gd_t (decide_eq_true (by simp; omega)), hk]
    dsimp only
    rw [List.append_assoc, List.singleton_append, ix_mid, bd_s (radd_e (l := []) _ (by simp)), ix_mid, Int.toNat_natCast, set_mid, add_nil]
    dsimp only
    rw [decide_eq_false hp1]
    simp only [cond_false]
    rw [← hput]; exact ih
  refine jn_ind (P := fun x => x = some (TStore.mk out M)) fun k24 hk24 => ?_
  have hk : ∀ S, k24 S = _ := fun S => congrFun hk24 S
  clear hk24
  cases B with
  | nil =>
   rw [br_t (by simp)]
   exact hnew rfl k24 hk
  | cons v R =>
   rw [br_f (by simp; omega), ix_mid]
   cases hh : (v.Key.toList == w.Key.toList)
   ·rw [br_t (by rfl)]
    exact hnew hh k24 hk
   ·rw [br_f (by rfl)]
    rw [put_old (hB v (by simp)) hh] at hput
    have hvl : v.L.length < 4294967296 := by
     have := hm.2 v (by rw [hAB]; simp)
     simp at hN; omega
    rw [hk]
    dsimp only
    rw [ix_mid, bd_s (radd_e (l := v.L) _ hvl), ix_mid, Int.toNat_natCast, set_mid, ← hput]; exact ih
theorem rwrite_e {fu N : Nat} {s : TStore} {pos : Int} {l : List TWrite} (hs : Srt s.Chains) (hm : Sml N s.Chains) (hl : l.length ≤ 1000) (hN : N + l.length ≤ 900000) (hf : N + l.length < fu) : diwanref13_Write fu s pos l = some (TStore.mk (puts pos l s.Chains) s.Mark) := by
 unfold diwanref13_Write
 rw [gd_t (decide_eq_true (by have := hm.1; simp; omega))]
 have := rwrite_lp fu pos (TStore.mk [] 0) s.Mark l [] s.Chains fu N hl hs hm hN hf (by omega)
 simp only [List.nil_append, List.length_nil, Int.natCast_zero] at this
 rw [show s = TStore.mk s.Chains s.Mark from rfl, bd_s this]
end Go.Proofs.Ythjpcfbfiaenaaa.Told.ST
