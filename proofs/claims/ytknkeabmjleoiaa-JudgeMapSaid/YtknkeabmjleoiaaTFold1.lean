/- A row of transactions is judged: the program's functions. -/
import Derived.Test.YtknkeabmjleoiaaTStoreC
import Derived.Test.YtknkeabmjleoiaaTSeat
namespace Go.Proofs.Ytknkeabmjleoiaa.Told.JF
open Go Go.Proofs.Ytknkeabmjleoiaa.Vam Go.Proofs.Ytknkeabmjleoiaa.Told Go.Proofs.Ytknkeabmjleoiaa.Told.CF Go.Proofs.Ytknkeabmjleoiaa.Told.ST
set_option linter.unusedSimpArgs false
set_option linter.unusedVariables false
def turnF : List TSeat → Int → Int → Int → List TSeat × Bool
 | [], t, s, p => ([TSeat.mk t s p], true)
 | v :: R, t, s, p => bif decide (v.Session < t) then (v :: (turnF R t s p).1, (turnF R t s p).2) else bif v.Session == t then (bif decide (v.Seq ≥ s) then (v :: R, false) else (TSeat.mk t s p :: R, true)) else (TSeat.mk t s p :: v :: R, true)
theorem turnF_of {t s p : Int} : ∀ {A B : List TSeat}, (∀ v ∈ A, v.Session < t) → (∀ v ∈ B, t ≤ v.Session) → turnF (A ++ B) t s p = SF.turnOf A B t s p
 | [], [], _, _ => rfl
 | [], v :: R, _, hB => by
  have := hB v (by simp)
  simp only [List.nil_append, turnF]
  rw [decide_eq_false (by omega)]; rfl
 | a :: A, B, hA, hB => by
  have ih := turnF_of (s := s) (p := p) (A := A) (B := B) (fun v h => hA v (by simp [h])) hB
  simp only [List.cons_append, turnF]
  rw [decide_eq_true (hA a (by simp)), ih]
  cases B with
  | nil => rfl
  | cons v R =>
   simp only [SF.turnOf, cond_true]
   cases (v.Session == t)
   ·rfl
   ·cases decide (v.Seq ≥ s) <;> rfl
theorem turnF_e {fu : Nat} {l : List TSeat} (t s p : Int) (hs : SF.Srt l) (hl : l.length ≤ 1000000) (hf : l.length < fu) : seat_Turn fu l t s p = some (turnF l t s p) := by
 obtain ⟨A, B, e, hA, hB⟩ := SF.srt_cut l t hs
 rw [SF.turn_e s p e hA hB hl hf, e, turnF_of hA hB]
theorem turnF_srt {l : List TSeat} (t s p : Int) (hs : SF.Srt l) : SF.Srt (turnF l t s p).1 ∧ (turnF l t s p).1.length ≤ l.length + 1 := by
 obtain ⟨A, B, e, hA, hB⟩ := SF.srt_cut l t hs
 subst e
 rw [turnF_of hA hB]
 exact SF.turn_srt hs hA hB
def hold (rs : List TRead) (cs : List TChain) : Bool := rs.all fun r => r.Version == last (chainOf r.Key cs)
theorem hold_lp (fu N : Nat) (b : TBench) (hs : Srt b.store.Chains) (hm : Sml N b.store.Chains) (hN : N ≤ 1000000) (hf : N < fu) : ∀ (r q : List TRead) (n : Nat), (q ++ r).length ≤ 1000000 → r.length < n →
  ∃ o, slices_IndexFunc_api_Read.lp3 fu (q ++ r) ((q ++ r).length : Int) b n (q.length : Int) = some o ∧ (match o with | .inl _ => hold r b.store.Chains = true | .inr j => hold r b.store.Chains = false ∧ 0 ≤ j)
 | [], q, n, hl, hn => by
  obtain ⟨n, rfl⟩ : ∃ m, n = m + 1 := ⟨n - 1, by omega⟩
  simp only [List.append_nil]
  rw [slices_IndexFunc_api_Read.lp3, br_f (nlt_end _)]
  exact ⟨_, rfl, rfl⟩
 | x :: r, q, n, hl, hn => by
  obtain ⟨n, rfl⟩ : ∃ m, n = m + 1 := ⟨n - 1, by omega⟩
  have e : q ++ x :: r = (q ++ [x]) ++ r := by simp
  obtain ⟨o, ih1, ih2⟩ := hold_lp fu N b hs hm hN hf r (q ++ [x]) n (by rw [← e]; exact hl) (by simp at hn; omega)
  rw [← e] at ih1
  have hj : judge_bench_holds_1 fu x b = some (x.Version != last (chainOf x.Key b.store.Chains)) := by
   unfold judge_bench_holds_1
   rw [bd_s (lastS_e (N := N) x.Key hs hm hN hf)]
  have hh : hold (x :: r) b.store.Chains = ((x.Version == last (chainOf x.Key b.store.Chains)) && hold r b.store.Chains) := rfl
  rw [slices_IndexFunc_api_Read.lp3, br_t (lt_mid _ _ _), ix_mid, bd_s hj, w64_len q r x (by omega), ih1, hh]
  cases g : (x.Version == last (chainOf x.Key b.store.Chains))
  ·rw [br_t (by simpa [bne] using g)]
   exact ⟨_, rfl, rfl, by omega⟩
  ·rw [br_f (by simpa [bne] using g), Bool.true_and]
   exact ⟨o, rfl, ih2⟩
theorem holds_e {fu N : Nat} {b : TBench} (t : TTxn) (hs : Srt b.store.Chains) (hm : Sml N b.store.Chains) (hN : N ≤ 1000000) (hf : N < fu) (hl : t.Reads.length ≤ 1000000) (hr : t.Reads.length < fu) : judge_bench_holds fu t b = some (hold t.Reads b.store.Chains) := by
 unfold judge_bench_holds slices_ContainsFunc_api_Read slices_IndexFunc_api_Read
 obtain ⟨o, h1, h2⟩ := hold_lp fu N b hs hm hN hf t.Reads [] fu hl hr
 simp only [List.nil_append, List.length_nil, Int.natCast_zero] at h1
 rw [bd_s h1]
 cases o with
 | inl _ => dsimp only at h2 ⊢; rw [h2]; rfl
 | inr j =>
  dsimp only at h2 ⊢
  rw [bd_s rfl, bd_s rfl, h2.1, decide_eq_true (by omega)]; rfl
def posF (b : TBench) : Int := (b.said.length : Int) + 1
def stepF (b : TBench) (t : TTxn) : TBench :=
 bif (turnF b.seats t.Session t.Seq (posF b)).2 then
  (bif hold t.Reads b.store.Chains then TBench.mk (b.said ++ [1]) (TStore.mk (puts (posF b) t.Writes b.store.Chains) b.store.Mark) (turnF b.seats t.Session t.Seq (posF b)).1
  else TBench.mk (b.said ++ [2]) b.store (turnF b.seats t.Session t.Seq (posF b)).1)
 else TBench.mk (b.said ++ [3]) b.store (turnF b.seats t.Session t.Seq (posF b)).1
structure BInv (i : Nat) (b : TBench) : Prop where
 sl : b.said.length = i
 cs : Srt b.store.Chains
 cm : Sml (3 * i) b.store.Chains
 ss : SF.Srt b.seats
 sm : b.seats.length ≤ i
theorem puts_inv (pos : Int) : ∀ {l : List TWrite} {cs : List TChain} {N : Nat}, Srt cs → Sml N cs → Srt (puts pos l cs) ∧ Sml (N + l.length) (puts pos l cs)
 | [], cs, N, h, g => ⟨h, g⟩
 | w :: l, cs, N, h, g => by
  have hp := put_sml (N := N) pos w (cs := cs)
  obtain ⟨a, b⟩ := puts_inv pos (l := l) (put_srt pos w h) (N := N + 1) ⟨by have := hp.1; have := g.1; omega, hp.2 g.2⟩
  refine ⟨a, ?_⟩
  rw [show N + (w :: l).length = N + 1 + l.length by simp; omega]
  exact b
theorem Sml.mono {N M : Nat} {cs : List TChain} (h : Sml N cs) (hN : N ≤ M) : Sml M cs := ⟨by have := h.1; omega, fun c hc => by have := h.2 c hc; omega⟩
theorem stepF_inv {i : Nat} {b : TBench} {t : TTxn} (h : BInv i b) (hw : t.Writes.length ≤ 3) : BInv (i + 1) (stepF b t) := by
 obtain ⟨k1, k2⟩ := turnF_srt t.Session t.Seq (posF b) h.ss
 have hm := h.sm
 unfold stepF
 cases (turnF b.seats t.Session t.Seq (posF b)).2
 ·exact ⟨by simp [h.sl], h.cs, Sml.mono h.cm (by omega), k1, by simp only [cond_false]; omega⟩
 ·cases hold t.Reads b.store.Chains
  ·exact ⟨by simp [h.sl], h.cs, Sml.mono h.cm (by omega), k1, by simp only [cond_true, cond_false]; omega⟩
  ·obtain ⟨g1, g2⟩ := puts_inv (posF b) (l := t.Writes) h.cs h.cm
   exact ⟨by simp [h.sl], g1, Sml.mono g2 (by omega), k1, by simp only [cond_true]; omega⟩
theorem judge_e {fu i : Nat} {b : TBench} {t : TTxn} (h : BInv i b) (hi : i ≤ 1000) (hf : 3 * i + 10 < fu) (hr : t.Reads.length ≤ 3) (hw : t.Writes.length ≤ 3) : judge_bench_judge_2 fu t b = some (stepF b t) := by
 have hsl := h.sl
 have hm := h.sm
 have hp : w64 ((b.said.length : Int) + 1) = posF b := by rw [w64_id (by omega) (by omega)]; rfl
 unfold judge_bench_judge_2 stepF
 rw [hp, bd_s (turnF_e t.Session t.Seq (posF b) h.ss (by omega) (by omega))]
 dsimp only
 cases (turnF b.seats t.Session t.Seq (posF b)).2
 ·rw [br_t (by rfl), gd_t (decide_eq_true (by simp; omega))]; rfl
 ·rw [br_f (by rfl), bd_s (holds_e (N := 3 * i) (b := TBench.mk b.said b.store (turnF b.seats t.Session t.Seq (posF b)).1) t h.cs h.cm (by omega) (by omega) (by omega) (by omega))]
  dsimp only
  cases hold t.Reads b.store.Chains
  ·rw [br_f rfl, gd_t (decide_eq_true (by simp; omega))]; rfl
  ·have hpos : -9223372036854775808 ≤ posF b := by unfold posF; omega
   rw [br_t rfl, bd_s (write_e (N := 3 * i) hpos h.cs h.cm (by omega) (by omega) (by omega)), gd_t (decide_eq_true (by simp; omega))]; rfl
def b0 : TBench := TBench.mk [] (TStore.mk [] 0) []
def foldF (l : List TTxn) : TBench := l.foldl stepF b0
theorem fold_lp {fu : Nat} (z : TStore) : ∀ (r q : List TTxn) (n : Nat) (b : TBench), (q ++ r).length ≤ 1000 → 3 * (q ++ r).length + 10 < fu → (∀ t ∈ r, t.Reads.length ≤ 3 ∧ t.Writes.length ≤ 3) → BInv q.length b → r.length < n →
  judge_Fold.lp5 fu (q ++ r) ((q ++ r).length : Int) z n (q.length : Int) b = some (r.foldl stepF b) ∧ BInv (q ++ r).length (r.foldl stepF b)
 | [], q, n, b, hl, hf, ht, hb, hn => by
  obtain ⟨n, rfl⟩ : ∃ m, n = m + 1 := ⟨n - 1, by omega⟩
  simp only [List.append_nil]
  rw [judge_Fold.lp5, br_f (nlt_end _)]
  exact ⟨rfl, hb⟩
 | t :: r, q, n, b, hl, hf, ht, hb, hn => by
  obtain ⟨n, rfl⟩ : ∃ m, n = m + 1 := ⟨n - 1, by omega⟩
  have e : q ++ t :: r = (q ++ [t]) ++ r := by simp
  obtain ⟨h1, h2⟩ := ht t (by simp)
  have hlen : (q ++ t :: r).length = q.length + 1 + r.length := by simp; omega
  have ih := fold_lp z r (q ++ [t]) n (stepF b t) (by rw [← e]; exact hl) (by rw [← e]; exact hf) (fun t h => ht t (by simp [h])) (by simpa using stepF_inv hb h2) (by simp at hn; omega)
  rw [← e] at ih
  refine ⟨?_, ih.2⟩
  rw [judge_Fold.lp5, br_t (lt_mid _ _ _), ix_mid, bd_s (judge_e hb (by omega) (by omega) h1 h2), w64_len q r t (by omega), ih.1]; rfl
theorem fold_e {fu : Nat} {l : List TTxn} (hl : l.length ≤ 1000) (hf : 3 * l.length + 10 < fu) (ht : ∀ t ∈ l, t.Reads.length ≤ 3 ∧ t.Writes.length ≤ 3) : judge_Fold fu l = some ((foldF l).said, (foldF l).store, (foldF l).seats) ∧ BInv l.length (foldF l) := by
 obtain ⟨h1, h2⟩ := fold_lp (TStore.mk [] 0) l [] fu b0 hl hf ht ⟨rfl, List.Pairwise.nil, ⟨Nat.le_refl _, fun c hc => by cases hc⟩, List.Pairwise.nil, Nat.le_refl _⟩ (by omega)
 simp only [List.nil_append, List.length_nil, Int.natCast_zero] at h1 h2
 refine ⟨?_, h2⟩
 unfold judge_Fold
 rw [show TBench.mk [] (TStore.mk [] 0) [] = b0 from rfl, bd_s h1]; rfl
end Go.Proofs.Ytknkeabmjleoiaa.Told.JF
