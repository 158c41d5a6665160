/- Stores that may be: the program says so. -/
import Derived.Test.YthjpcfbfiaenaaaTStore4
namespace Go.Proofs.Ythjpcfbfiaenaaa.Told.ST
open Go Go.Proofs.Ythjpcfbfiaenaaa.Vam Go.Proofs.Ythjpcfbfiaenaaa.Told Go.Proofs.Ythjpcfbfiaenaaa.Told.CF Go.Proofs.Ythjpcfbfiaenaaa.Told.PK
set_option linter.unusedSimpArgs false
set_option linter.unusedVariables false
theorem six_may {fu : Nat} (hf : 10 ≤ fu) {k : ByteArray} (h : k ∈ six) : key_name_may fu k = some true := by
 obtain ⟨n, rfl⟩ : ∃ n, fu = n + 10 := ⟨fu - 10, by omega⟩
 simp only [six, List.mem_cons, List.not_mem_nil, or_false] at h
 rcases h with rfl | rfl | rfl | rfl | rfl | rfl <;> rfl
theorem rising_lp (fu : Nat) (hf : 10 ≤ fu) : ∀ (r q : List ByteArray) (n : Nat), (q ++ r).length ≤ 1000000 → (∀ k ∈ q ++ r, k ∈ six) → (q ++ r).Pairwise (fun a b => kl a b = true) → r.length < n →
  key_Rising.lp4 fu (q ++ r) (q ++ r) ((q ++ r).length : Int) n (q.length : Int) = some (.inl ())
 | [], q, n, hl, hk, hs, hn => by
  obtain ⟨n, rfl⟩ : ∃ m, n = m + 1 := ⟨n - 1, by omega⟩
  simp only [List.append_nil]
  rw [key_Rising.lp4, br_f (nlt_end _)]
 | k :: r, q, n, hl, hk, hs, hn => by
  obtain ⟨n, rfl⟩ : ∃ m, n = m + 1 := ⟨n - 1, by omega⟩
  have e : q ++ k :: r = (q ++ [k]) ++ r := by simp
  have ih := rising_lp fu hf r (q ++ [k]) n (by rw [← e]; exact hl) (by rw [← e]; exact hk) (by rw [← e]; exact hs) (by simp at hn; omega)
  rw [← e] at ih
  rw [key_Rising.lp4, br_t (lt_mid _ _ _), ix_mid, bd_s (six_may hf (hk k (by simp))), br_f (by rfl), w64_len q r k (by omega), ih]
  rcases List.eq_nil_or_concat q with rfl | ⟨q0, u, hu⟩
  ·rw [br_f (by rfl)]
  ·rw [List.concat_eq_append] at hu
   have hlen : q.length = q0.length + 1 := by rw [hu]; simp
   have hw : w64 ((q.length : Int) - 1) = (q0.length : Int) := by rw [w64_id (by omega) (by simp at hl; omega)]; omega
   have hx : (q ++ k :: r)[q0.length]? = some u := by rw [hu]; simp
   have huk : kl u k = true := (List.pairwise_append.1 hs).2.2 u (by rw [hu]; simp) k (by simp)
   rw [br_t (decide_eq_true (by omega)), hw, ix_n hx, br_f (by show (!(kl u k)) = false; rw [huk]; rfl)]
theorem mayS_lp (fu N : Nat) (hf : 10 ≤ fu) (hN : N < fu) (hN' : N ≤ 1000000) (z : TStore) : ∀ (r q : List TChain) (ks : List ByteArray) (n : Nat), (q ++ r).length ≤ 1000000 → (∀ c ∈ r, c.L.length ≤ N ∧ c.L ≠ [] ∧ may 0 c.L = true) → ks.length ≤ q.length → r.length < n →
  store_May.lp4 fu (q ++ r) ((q ++ r).length : Int) z n ks (q.length : Int) = some (.inl (ks ++ r.map (·.Key)))
 | [], q, ks, n, hl, hc, hk, hn => by
  obtain ⟨n, rfl⟩ : ∃ m, n = m + 1 := ⟨n - 1, by omega⟩
  simp only [List.append_nil]
  rw [store_May.lp4, br_f (nlt_end _)]; simp
 | c :: r, q, ks, n, hl, hc, hk, hn => by
  obtain ⟨n, rfl⟩ : ∃ m, n = m + 1 := ⟨n - 1, by omega⟩
  have e : q ++ c :: r = (q ++ [c]) ++ r := by simp
  obtain ⟨h1, h2, h3⟩ := hc c (by simp)
  have hl' : q.length + 1 + r.length ≤ 1000000 := by simp at hl; omega
  have ih := mayS_lp fu N hf hN hN' z r (q ++ [c]) (ks ++ [c.Key]) n (by rw [← e]; exact hl) (fun c h => hc c (by simp [h])) (by simp; omega) (by simp at hn; omega)
  rw [← e] at ih
  have hpos : 0 < c.L.length := List.length_pos_iff.2 h2
  rw [store_May.lp4, br_t (lt_mid _ _ _), ix_mid, br_f (beq_eq_false_iff_ne.2 (by omega)), bd_s (may_e (l := c.L) (by omega) (by omega)), h3, br_f (by rfl), gd_t (decide_eq_true (by simp; omega)), w64_len q r c (by omega), ih]
  simp
theorem mayS_e {fu N : Nat} {P : Int} {s : TStore} (h : MI N P s.Chains) (hM : 0 ≤ s.Mark) (hf : 10 ≤ fu) (hN : N < fu) (hN' : N ≤ 1000000) : store_May fu s = some true := by
 unfold store_May
 have h1 := mayS_lp fu N hf hN hN' s s.Chains [] [] fu (by have := h.sml.1; simp; omega) (fun c hc => ⟨h.sml.2 c hc, (h.ok c hc).2.1, (h.ok c hc).2.2.1⟩) (Nat.le_refl _) (by have := h.sml.1; omega)
 simp only [List.nil_append, List.length_nil, Int.natCast_zero] at h1
 rw [bd_s h1]
 dsimp only
 have h2 := rising_lp fu hf (s.Chains.map (·.Key)) [] fu (by have := h.sml.1; simp; omega) (fun k hk => by
  obtain ⟨c, hc, rfl⟩ := List.mem_map.1 (by simpa using hk)
  exact (h.ok c hc).1) (by
  rw [List.nil_append, List.pairwise_map]; exact h.srt) (by have := h.sml.1; simp; omega)
 simp only [List.nil_append, List.length_nil, Int.natCast_zero] at h2
 unfold key_Rising
 rw [bd_s (o := bd _ _) (x := true) (by rw [bd_s h2]), br_t rfl, decide_eq_true hM]
end Go.Proofs.Ythjpcfbfiaenaaa.Told.ST
