/- A store's functions by the reference: what a key was. -/
import Derived.Test.YtjahlppmahjplaaTStore2
import Derived.Test.YtjahlppmahjplaaTCh6
namespace Go.Proofs.Ytjahlppmahjplaa.Told.ST
open Go Go.Proofs.Ytjahlppmahjplaa.Vam Go.Proofs.Ytjahlppmahjplaa.Told Go.Proofs.Ytjahlppmahjplaa.Told.CF
set_option linter.unusedSimpArgs false
set_option linter.unusedVariables false
theorem rchain_lp (fu : Nat) (k : ByteArray) (M : Int) : ∀ (r q : List TChain) (n : Nat), (q ++ r).length ≤ 1000000 → r.length < n →
    ((∀ c ∈ r, (c.Key.toList == k.toList) = false) → diwanref13_chain.lp3 fu k (TStore.mk (q ++ r) M) n (q.length : Int) = some (.inl ())) ∧
    (∀ A c B, r = A ++ c :: B → (∀ c ∈ A, (c.Key.toList == k.toList) = false) → (c.Key.toList == k.toList) = true → diwanref13_chain.lp3 fu k (TStore.mk (q ++ r) M) n (q.length : Int) = some (.inr c.L))
  | [], q, n, hl, hn => by
    obtain ⟨n, rfl⟩ : ∃ m, n = m + 1 := ⟨n - 1, by omega⟩
    simp only [List.append_nil]
    refine ⟨fun _ => ?_, fun A c B e => by simp at e⟩
    rw [diwanref13_chain.lp3]
    dsimp only
    rw [br_f (nlt_end _)]
  | c :: r, q, n, hl, hn => by
    obtain ⟨n, rfl⟩ : ∃ m, n = m + 1 := ⟨n - 1, by omega⟩
    have e : q ++ c :: r = (q ++ [c]) ++ r := by simp
    obtain ⟨ih1, ih2⟩ := rchain_lp fu k M r (q ++ [c]) n (by rw [← e]; exact hl) (by simp at hn; omega)
    rw [← e] at ih1 ih2
    rw [diwanref13_chain.lp3]
    dsimp only
    rw [br_t (lt_mid _ _ _), ix_mid, ix_mid, w64_len q r c (by omega)]
    refine ⟨fun h => ?_, fun A c' B e' hA hc => ?_⟩
    · rw [br_f (h c (by simp))]
      exact ih1 fun c h' => h c (by simp [h'])
    · cases A with
      | nil =>
        simp at e'
        obtain ⟨rfl, rfl⟩ := e'
        rw [br_t hc]
      | cons a A =>
        simp at e'
        obtain ⟨rfl, e'⟩ := e'
        rw [br_f (hA c (by simp))]
        exact ih2 A c' B e' (fun c h' => hA c (by simp [h'])) hc
theorem chainOf_split (k : ByteArray) : ∀ cs : List TChain, ((∀ c ∈ cs, (c.Key.toList == k.toList) = false) ∧ chainOf k cs = []) ∨ ∃ A c B, cs = A ++ c :: B ∧ (∀ c ∈ A, (c.Key.toList == k.toList) = false) ∧ (c.Key.toList == k.toList) = true ∧ chainOf k cs = c.L
  | [] => .inl ⟨by simp, rfl⟩
  | c :: r => by
    simp only [chainOf]
    cases h : (c.Key.toList == k.toList)
    · rcases chainOf_split k r with ⟨h1, h2⟩ | ⟨A, d, B, h1, h2, h3, h4⟩
      · refine .inl ⟨fun d hd => ?_, h2⟩
        rcases List.mem_cons.1 hd with rfl | hd
        · exact h
        · exact h1 d hd
      · refine .inr ⟨c :: A, d, B, by rw [h1]; rfl, fun e he => ?_, h3, h4⟩
        rcases List.mem_cons.1 he with rfl | he
        · exact h
        · exact h2 e he
    · exact .inr ⟨[], c, r, rfl, by simp, h, rfl⟩
theorem rchain_e {fu : Nat} {s : TStore} (k : ByteArray) (hl : s.Chains.length ≤ 1000000) (hf : s.Chains.length < fu) : diwanref13_chain fu s k = some (chainOf k s.Chains) := by
  unfold diwanref13_chain
  obtain ⟨h1, h2⟩ := rchain_lp fu k s.Mark s.Chains [] fu hl hf
  simp only [List.nil_append, List.length_nil, Int.natCast_zero] at h1 h2
  rcases chainOf_split k s.Chains with ⟨g1, g2⟩ | ⟨A, c, B, g1, g2, g3, g4⟩
  · rw [show s = TStore.mk s.Chains s.Mark from rfl, bd_s (h1 g1), g2]
  · rw [show s = TStore.mk s.Chains s.Mark from rfl, bd_s (h2 A c B g1 g2 g3), g4]
theorem rat_e {fu : Nat} {l : List TVersion} (p : Int) (hl : l.length ≤ 4611686018427387904) (hf : l.length < fu) : diwanref13_At fu l p = some (atV p l) := by
  rcases cut p l with h | ⟨A, v, B, e, h1, h2⟩
  · rw [rat_hi hl hf h, atV_hi h]
  · rw [rat_lo hl hf e h1 h2, e, atV_lo h1 h2]
theorem one_e {fu N : Nat} {s : TStore} (k : ByteArray) (p : Int) (hm : Sml N s.Chains) (hN : N ≤ 1000000) (hf : N < fu) : diwanref13_one fu s k p = some (rd k (chainOf k s.Chains) p) := by
  unfold diwanref13_one rd
  have hc := chainOf_len (k := k) hm.2
  rw [bd_s (rchain_e k (by have := hm.1; omega) (by have := hm.1; omega)), bd_s (rat_e p (by omega) (by omega))]
  obtain ⟨x, b⟩ := atV p (chainOf k s.Chains)
  dsimp only
  cases b
  · rw [br_f rfl]; rfl
  · rw [br_t rfl]; rfl
theorem rget_e {fu N : Nat} {s : TStore} (k : ByteArray) (p : Int) (hm : Sml N s.Chains) (hN : N ≤ 1000000) (hf : N < fu) : diwanref13_Get fu s k p = some (getS s k p) := by
  unfold diwanref13_Get getS
  cases decide (p < s.Mark)
  · rw [br_f rfl, bd_s (one_e k p hm hN hf)]; rfl
  · rw [br_t rfl]; rfl
theorem rlastS_e {fu N : Nat} {s : TStore} (k : ByteArray) (hm : Sml N s.Chains) (hN : N ≤ 1000000) (hf : N < fu) : diwanref13_Last fu s k = some (last (chainOf k s.Chains)) := by
  unfold diwanref13_Last
  have hc := chainOf_len (k := k) hm.2
  rw [bd_s (rchain_e k (by have := hm.1; omega) (by have := hm.1; omega)), bd_s (last_e (by omega)).2]
theorem rwithin_e (k a b : ByteArray) : diwanref1_Within k a b = some (inn k a b) := by
  unfold diwanref1_Within inn
  cases (Op.bytesLess a.toList k.toList || (a.toList == k.toList))
  · rfl
  · cases (b.toList == ByteArray.empty.toList) <;> rfl
theorem chainOf_mem {cs : List TChain} (h : Srt cs) {c : TChain} (hc : c ∈ cs) : chainOf c.Key cs = c.L := by
  obtain ⟨A, B, rfl⟩ := List.append_of_mem hc
  have hA : ∀ d ∈ A, d.Key ≠ c.Key := fun d hd => kl_ne ((List.pairwise_append.1 h).2.2 d hd c (by simp))
  rw [chainOf_app hA]
  simp only [chainOf]
  rw [beq_ba.2 rfl]; rfl
theorem rspan_lp (fu N : Nat) (a b : ByteArray) (p : Int) (M : Int) (hf : N < fu) (hN : N ≤ 1000000) : ∀ (r q : List TChain) (out : List TRead) (n : Nat), Sml N (q ++ r) → Srt (q ++ r) → out.length ≤ q.length → r.length < n →
    diwanref13_Span.lp7 fu a b p (TStore.mk (q ++ r) M) n out (q.length : Int) = some (out ++ spn a b p r)
  | [], q, out, n, hm, hs, ho, hn => by
    obtain ⟨n, rfl⟩ : ∃ m, n = m + 1 := ⟨n - 1, by omega⟩
    simp only [List.append_nil]
    rw [diwanref13_Span.lp7]
    dsimp only
    rw [br_f (nlt_end _)]; simp [spn]
  | c :: r, q, out, n, hm, hs, ho, hn => by
    obtain ⟨n, rfl⟩ : ∃ m, n = m + 1 := ⟨n - 1, by omega⟩
    have e : q ++ c :: r = (q ++ [c]) ++ r := by simp
    have ih := fun o h => rspan_lp fu N a b p M hf hN r (q ++ [c]) o n (by rw [← e]; exact hm) (by rw [← e]; exact hs) h (by simp at hn; omega)
    rw [← e] at ih
    have hl := hm.1
    have hl' : q.length + 1 + r.length ≤ 1000000 := by simp at hl; omega
    have hone := one_e (fu := fu) (s := TStore.mk (q ++ c :: r) M) c.Key p hm hN hf
    rw [show chainOf c.Key (TStore.mk (q ++ c :: r) M).Chains = c.L from chainOf_mem hs (by simp)] at hone
    rw [diwanref13_Span.lp7]
    dsimp only
    rw [br_t (lt_mid _ _ _), ix_mid, bd_s hone, bd_s (rwithin_e _ _ _), w64_len q r c (by omega)]
    simp only [spn]
    cases inn c.Key a b
    · rw [br_f rfl, ih out (by simp; omega), Bool.and_false]; rfl
    · rw [br_t rfl]
      cases (rd c.Key c.L p).There
      · rw [br_f rfl, ih out (by simp; omega)]; rfl
      · rw [br_t rfl, gd_t (decide_eq_true (by simp; omega)), ih (out ++ [rd c.Key c.L p]) (by simp; omega)]; simp
theorem rspan_e {fu N : Nat} {s : TStore} (a b : ByteArray) (p : Int) (hs : Srt s.Chains) (hm : Sml N s.Chains) (hN : N ≤ 1000000) (hf : N < fu) : diwanref13_Span fu s a b p = some (spanS s a b p) := by
  unfold diwanref13_Span spanS
  cases decide (p < s.Mark)
  · have := rspan_lp fu N a b p s.Mark hf hN s.Chains [] [] fu hm hs (Nat.le_refl _) (by have := hm.1; omega)
    simp only [List.nil_append, List.length_nil, Int.natCast_zero] at this
    rw [br_f rfl, show s = TStore.mk s.Chains s.Mark from rfl, bd_s this]; rfl
  · rw [br_t rfl]; rfl
end Go.Proofs.Ytjahlppmahjplaa.Told.ST
