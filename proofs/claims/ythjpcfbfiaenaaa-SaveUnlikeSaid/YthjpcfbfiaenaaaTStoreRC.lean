/- A store's functions by the reference: what a key was. -/
import Derived.Test.YthjpcfbfiaenaaaTStoreC
namespace Go.Proofs.Ythjpcfbfiaenaaa.Told.ST
open Go Go.Proofs.Ythjpcfbfiaenaaa.Vam Go.Proofs.Ythjpcfbfiaenaaa.Told Go.Proofs.Ythjpcfbfiaenaaa.Told.CF
set_option linter.unusedSimpArgs false
set_option linter.unusedVariables false
theorem rchain_lp (fu : Nat) (k : ByteArray) (M : Int) : ∀ (r q : List TChain) (n : Nat), (q ++ r).length ≤ 1000000 → r.length < n →
  ((∀ c ∈ r, (c.Key.toList == k.toList) = false) → diwanref13_chain.lp3 fu k (TStore.mk (q ++ r) M) n (q.length : Int) = some (.inl ())) ∧
  (∀ A c B, r = A ++ c :: B → (∀ c ∈ A, (c.Key.toList == k.toList) = false) → (c.Key.toList == k.toList) = true → diwanref13_chain.lp3 fu k (TStore.mk (q ++ r) M) n (q.length : Int) = some (.inr c.L))
 | [], q, n, hl, hn => by
  obtain ⟨n, rfl⟩ : ∃ m, n = m + 1 := ⟨n - 1, by omega⟩
  simp only [List.append_nil]
  refine ⟨fun _ => ?_, fun A c B e => by simp at e⟩
  rw [diwanref13_chain.lp3]
  dsimp only
  rw [br_f (nlt_end _)]
 | c :: r, q, n, hl, hn => by
  obtain ⟨n, rfl⟩ : ∃ m, n = m + 1 := ⟨n - 1, by omega⟩
  have e : q ++ c :: r = (q ++ [c]) ++ r := by simp
  obtain ⟨ih1, ih2⟩ := rchain_lp fu k M r (q ++ [c]) n (by rw [← e]; exact hl) (by simp at hn; omega)
  rw [← e] at ih1 ih2
  rw [diwanref13_chain.lp3]
  dsimp only
  rw [br_t (lt_mid _ _ _), ix_mid, ix_mid, w64_len q r c (by omega)]
  refine ⟨fun h => ?_, fun A c' B e' hA hc => ?_⟩
  ·rw [br_f (h c (by simp))]
   exact ih1 fun c h' => h c (by simp [h'])
  ·cases A with
   | nil =>
    simp at e'
    obtain ⟨rfl, rfl⟩ := e'
    rw [br_t hc]
   | cons a A =>
    simp at e'
    obtain ⟨rfl, e'⟩ := e'
    rw [br_f (hA c (by simp))]
    exact ih2 A c' B e' (fun c h' => hA c (by simp [h'])) hc
theorem chainOf_split (k : ByteArray) : ∀ cs : List TChain, ((∀ c ∈ cs, (c.Key.toList == k.toList) = false) ∧ chainOf k cs = []) ∨ ∃ A c B, cs = A ++ c :: B ∧ (∀ c ∈ A, (c.Key.toList == k.toList) = false) ∧ (c.Key.toList == k.toList) = true ∧ chainOf k cs = c.L
 | [] => .inl ⟨by simp, rfl⟩
 | c :: r => by
  simp only [chainOf]
  cases h : (c.Key.toList == k.toList)
  ·rcases chainOf_split k r with ⟨h1, h2⟩ | ⟨A, d, B, h1, h2, h3, h4⟩
   ·refine .inl ⟨fun d hd => ?_, h2⟩
    rcases List.mem_cons.1 hd with rfl | hd
    ·exact h
    ·exact h1 d hd
   ·refine .inr ⟨c :: A, d, B, by rw [h1]; rfl, fun e he => ?_, h3, h4⟩
    rcases List.mem_cons.1 he with rfl | he
    ·exact h
    ·exact h2 e he
  ·exact .inr ⟨[], c, r, rfl, by simp, h, rfl⟩
theorem rchain_e {fu : Nat} {s : TStore} (k : ByteArray) (hl : s.Chains.length ≤ 1000000) (hf : s.Chains.length < fu) : diwanref13_chain fu s k = some (chainOf k s.Chains) := by
 unfold diwanref13_chain
 obtain ⟨h1, h2⟩ := rchain_lp fu k s.Mark s.Chains [] fu hl hf
 simp only [List.nil_append, List.length_nil, Int.natCast_zero] at h1 h2
 rcases chainOf_split k s.Chains with ⟨g1, g2⟩ | ⟨A, c, B, g1, g2, g3, g4⟩
 ·rw [show s = TStore.mk s.Chains s.Mark from rfl, bd_s (h1 g1), g2]
 ·rw [show s = TStore.mk s.Chains s.Mark from rfl, bd_s (h2 A c B g1 g2 g3), g4]
theorem rlastS_e {fu N : Nat} {s : TStore} (k : ByteArray) (hm : Sml N s.Chains) (hN : N ≤ 1000000) (hf : N < fu) : diwanref13_Last fu s k = some (last (chainOf k s.Chains)) := by
 unfold diwanref13_Last
 have hc := chainOf_len (k := k) hm.2
 rw [bd_s (rchain_e k (by have := hm.1; omega) (by have := hm.1; omega)), bd_s (rlast_e (by omega))]
end Go.Proofs.Ythjpcfbfiaenaaa.Told.ST
