/- A row of transactions is judged: the reference. -/
import Derived.Test.YtknkeabmjleoiaaTFold1
import Derived.Test.YtknkeabmjleoiaaTSeatR
import Derived.Test.YtknkeabmjleoiaaTStoreR1
import Derived.Test.YtknkeabmjleoiaaTStoreRC
namespace Go.Proofs.Ytknkeabmjleoiaa.Told.JF
open Go Go.Proofs.Ytknkeabmjleoiaa.Vam Go.Proofs.Ytknkeabmjleoiaa.Told Go.Proofs.Ytknkeabmjleoiaa.Told.CF Go.Proofs.Ytknkeabmjleoiaa.Told.ST
set_option linter.unusedSimpArgs false
set_option linter.unusedVariables false
theorem rturnF_e {fu : Nat} {l : List TSeat} (t s p : Int) (hs : SF.Srt l) (hl : l.length ≤ 1000000) (hf : l.length < fu) : diwanref13_Turn fu l t s p = some (turnF l t s p) := by
  obtain ⟨A, B, e, hA, hB⟩ := SF.srt_cut l t hs
  rw [SF.rturn_e s p e hA hB hl hf, e, turnF_of hA hB]
theorem rh_else (fu : Nat) (L : List TTxn) (S : List TSeat) (D : List Int) (j : Int) (z s : TStore) (t : TTxn) {v : Int} (hv : (v == 1) = false) (n : Nat) (i : Int) : diwanref13_Fold.lp18 fu L S D j z s t (n + 1) v i = some v := by
  rw [diwanref13_Fold.lp18]
  cases decide (i < (t.Reads.length : Int))
  · rw [br_f rfl]
  · rw [br_t rfl, br_f hv]
theorem rh_lp (fu N : Nat) (L : List TTxn) (S : List TSeat) (D : List Int) (j : Int) (z s : TStore) (t : TTxn) (hm : Sml N s.Chains) (hN : N ≤ 1000000) (hf : N < fu) (hl : t.Reads.length ≤ 1000000) : ∀ (r q : List TRead) (n : Nat), t.Reads = q ++ r → r.length + 1 < n →
    diwanref13_Fold.lp18 fu L S D j z s t n 1 (q.length : Int) = some (bif hold r s.Chains then 1 else 2)
  | [], q, n, e, hn => by
    obtain ⟨n, rfl⟩ : ∃ m, n = m + 1 := ⟨n - 1, by omega⟩
    rw [diwanref13_Fold.lp18, e, List.append_nil, br_f (nlt_end _)]; rfl
  | x :: r, q, n, e, hn => by
    obtain ⟨n, rfl⟩ : ∃ m, n = m + 2 := ⟨n - 2, by omega⟩
    have e1 : t.Reads = (q ++ [x]) ++ r := by rw [e]; simp
    have ih := rh_lp fu N L S D j z s t hm hN hf hl r (q ++ [x]) (n + 1) e1 (by simp at hn; omega)
    have hh : hold (x :: r) s.Chains = ((x.Version == last (chainOf x.Key s.Chains)) && hold r s.Chains) := rfl
    have hx : t.Reads[q.length]? = some x := by rw [e]; simp
    have hlt : (q.length : Int) < (t.Reads.length : Int) := by rw [e]; simp; omega
    have hw : w64 ((q.length : Int) + 1) = ((q ++ [x]).length : Int) := by rw [w64_id (by omega) (by omega)]; simp
    rw [diwanref13_Fold.lp18, br_t (decide_eq_true hlt), br_t (by rfl), ix_n hx, bd_s (rlastS_e (N := N) x.Key hm hN hf), ix_n hx, hw, ih, hh]
    cases g : (x.Version == last (chainOf x.Key s.Chains))
    · have g' : (last (chainOf x.Key s.Chains) != x.Version) = true := by
        have := beq_eq_false_iff_ne.1 g
        simp [bne]; omega
      rw [br_t g', rh_else _ _ _ _ _ _ _ _ (by rfl)]; rfl
    · have g' : (last (chainOf x.Key s.Chains) != x.Version) = false := by
        have := beq_iff_eq.1 g
        simp [bne]; omega
      rw [br_f g', Bool.true_and]
theorem rfold_lp {fu : Nat} (z : TStore) : ∀ (r q : List TTxn) (n : Nat) (b : TBench), (q ++ r).length ≤ 1000 → 3 * (q ++ r).length + 10 < fu → (∀ t ∈ r, t.Reads.length ≤ 3 ∧ t.Writes.length ≤ 3) → BInv q.length b → r.length < n →
    diwanref13_Fold.lp6 fu (q ++ r) z n b.seats b.said (q.length : Int) b.store = some ((r.foldl stepF b).seats, (r.foldl stepF b).said, (r.foldl stepF b).store)
  | [], q, n, b, hl, hf, ht, hb, hn => by
    obtain ⟨n, rfl⟩ : ∃ m, n = m + 1 := ⟨n - 1, by omega⟩
    simp only [List.append_nil]
    rw [diwanref13_Fold.lp6, br_f (nlt_end _)]; rfl
  | t :: r, q, n, b, hl, hf, ht, hb, hn => by
    obtain ⟨n, rfl⟩ : ∃ m, n = m + 1 := ⟨n - 1, by omega⟩
    have e : q ++ t :: r = (q ++ [t]) ++ r := by simp
    obtain ⟨h1, h2⟩ := ht t (by simp)
    have hlen : (q ++ t :: r).length = q.length + 1 + r.length := by simp; omega
    have ih := rfold_lp z r (q ++ [t]) n (stepF b t) (by rw [← e]; exact hl) (by rw [← e]; exact hf) (fun t h => ht t (by simp [h])) (by simpa using stepF_inv hb h2) (by simp at hn; omega)
    rw [← e] at ih
    have hsl := hb.sl
    have hsm := hb.sm
    have hp : w64 ((q.length : Int) + 1) = posF b := by rw [w64_id (by omega) (by omega)]; unfold posF; omega
    have hp' : ((q ++ [t]).length : Int) = posF b := by unfold posF; simp; omega
    rw [hp'] at ih
    show diwanref13_Fold.lp6 fu (q ++ t :: r) z (n + 1) b.seats b.said (q.length : Int) b.store = some ((r.foldl stepF (stepF b t)).seats, (r.foldl stepF (stepF b t)).said, (r.foldl stepF (stepF b t)).store)
    obtain ⟨O, hO⟩ : ∃ O, O = r.foldl stepF (stepF b t) := ⟨_, rfl⟩
    rw [← hO] at ih ⊢
    clear hO
    obtain ⟨fu, rfl⟩ : ∃ m, fu = m + 1 := ⟨fu - 1, by omega⟩
    rw [diwanref13_Fold.lp6, br_t (lt_mid _ _ _), ix_mid, hp, bd_s (rturnF_e t.Session t.Seq (posF b) hb.ss (by omega) (by omega))]
    dsimp only
    rw [jn_e]
    unfold stepF at ih
    cases g : (turnF b.seats t.Session t.Seq (posF b)).2
    · rw [g] at ih
      rw [br_t (by rfl)]
      dsimp only
      rw [bd_s (rh_else _ _ _ _ _ _ _ _ (by rfl) _ _), br_f (by rfl), gd_t (decide_eq_true (by simp; omega))]
      exact ih
    · rw [g] at ih
      have hrh := rh_lp (fu + 1) (3 * q.length) (q ++ t :: r) (turnF b.seats t.Session t.Seq (posF b)).1 b.said (q.length : Int) z b.store t hb.cm (by omega) (by omega) (by omega) t.Reads [] (fu + 1) rfl (by omega)
      simp only [List.length_nil, Int.natCast_zero] at hrh
      rw [br_f (by rfl)]
      dsimp only
      rw [bd_s hrh]
      cases g2 : hold t.Reads b.store.Chains
      · rw [g2] at ih
        rw [br_f (by rfl), gd_t (decide_eq_true (by simp; omega))]
        exact ih
      · rw [g2] at ih
        rw [br_t (by rfl), bd_s (rwrite_e (N := 3 * q.length) hb.cs hb.cm (by omega) (by omega) (by omega)), gd_t (decide_eq_true (by simp; omega))]
        exact ih
theorem rfold_e {fu : Nat} {l : List TTxn} (hl : l.length ≤ 1000) (hf : 3 * l.length + 10 < fu) (ht : ∀ t ∈ l, t.Reads.length ≤ 3 ∧ t.Writes.length ≤ 3) : diwanref13_Fold fu l = some ((foldF l).said, (foldF l).store, (foldF l).seats) := by
  have h1 := rfold_lp (fu := fu) (TStore.mk [] 0) l [] fu b0 hl hf ht ⟨rfl, List.Pairwise.nil, ⟨Nat.le_refl _, fun c hc => by cases hc⟩, List.Pairwise.nil, Nat.le_refl _⟩ (by omega)
  simp only [List.nil_append, List.length_nil, Int.natCast_zero] at h1
  unfold diwanref13_Fold
  rw [show ([] : List TSeat) = b0.seats from rfl, show ([] : List Int) = b0.said from rfl, show TStore.mk [] 0 = b0.store from rfl]
  rw [show TStore.mk [] 0 = b0.store from rfl] at h1
  rw [bd_s h1]; rfl
end Go.Proofs.Ytknkeabmjleoiaa.Told.JF
