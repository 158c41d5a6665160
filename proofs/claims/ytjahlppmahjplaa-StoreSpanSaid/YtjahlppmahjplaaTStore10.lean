/- A span is the keys within that are there. -/
import Derived.Test.YtjahlppmahjplaaTStore9
namespace Go.Proofs.Ytjahlppmahjplaa.Told.ST
open Go Go.Proofs.Ytjahlppmahjplaa.Vam Go.Proofs.Ytjahlppmahjplaa.Told Go.Proofs.Ytjahlppmahjplaa.Told.CF Go.Proofs.Ytjahlppmahjplaa.Told.PK
set_option linter.unusedSimpArgs false
set_option linter.unusedVariables false
def selK (a b : ByteArray) (p : Int) (cs : List TChain) : List ByteArray → List TRead
  | [] => []
  | k :: r => bif (rd k (chainOf k cs) p).There && inn k a b then rd k (chainOf k cs) p :: selK a b p cs r else selK a b p cs r
theorem selK_t {a b : ByteArray} {p : Int} {cs : List TChain} {k : ByteArray} {r : List ByteArray} (h1 : (rd k (chainOf k cs) p).There = true) (h2 : inn k a b = true) : selK a b p cs (k :: r) = rd k (chainOf k cs) p :: selK a b p cs r := by
  rw [selK, h1, h2]; rfl
theorem selK_f1 {a b : ByteArray} {p : Int} {cs : List TChain} {k : ByteArray} {r : List ByteArray} (h1 : (rd k (chainOf k cs) p).There = false) : selK a b p cs (k :: r) = selK a b p cs r := by
  rw [selK, h1]; rfl
theorem selK_f2 {a b : ByteArray} {p : Int} {cs : List TChain} {k : ByteArray} {r : List ByteArray} (h2 : inn k a b = false) : selK a b p cs (k :: r) = selK a b p cs r := by
  rw [selK, h2, Bool.and_false]; rfl
theorem rd_nil (k : ByteArray) (p : Int) : (rd k [] p).There = false := rfl
theorem selK_nil (a b : ByteArray) (p : Int) : ∀ ks : List ByteArray, selK a b p [] ks = []
  | [] => rfl
  | k :: r => by
    rw [selK_f1 (cs := []) (rd_nil k p)]; exact selK_nil a b p r
theorem selK_congr {a b : ByteArray} {p : Int} {cs cs' : List TChain} : ∀ {ks : List ByteArray}, (∀ k ∈ ks, chainOf k cs = chainOf k cs') → selK a b p cs ks = selK a b p cs' ks
  | [], _ => rfl
  | k :: r, h => by
    simp only [selK]
    rw [h k (by simp), selK_congr (ks := r) fun k hk => h k (by simp [hk])]
theorem selK_app (a b : ByteArray) (p : Int) (cs : List TChain) : ∀ q r : List ByteArray, selK a b p cs (q ++ r) = selK a b p cs q ++ selK a b p cs r
  | [], r => rfl
  | k :: q, r => by
    simp only [List.cons_append, selK]
    rw [selK_app a b p cs q r]
    cases ((rd k (chainOf k cs) p).There && inn k a b) <;> rfl
theorem spn_sel (a b : ByteArray) (p : Int) : ∀ {ks : List ByteArray} {cs : List TChain}, ks.Pairwise (fun x y => kl x y = true) → Srt cs → (∀ c ∈ cs, c.Key ∈ ks) → spn a b p cs = selK a b p cs ks
  | [], [], _, _, _ => rfl
  | [], c :: cs, _, _, h => by have := h c (by simp); cases this
  | k :: ks, [], _, _, _ => by rw [selK_nil]; rfl
  | k :: ks, c :: cs, hk, hs, h => by
    obtain ⟨k1, k2⟩ := List.pairwise_cons.1 hk
    obtain ⟨s1, s2⟩ := List.pairwise_cons.1 hs
    rcases List.mem_cons.1 (h c (by simp)) with e | e
    · have ih := spn_sel a b p (ks := ks) (cs := cs) k2 s2 fun x hx => by
        rcases List.mem_cons.1 (h x (by simp [hx])) with g | g
        · have := s1 x hx
          rw [g, e, kl_irr] at this; cases this
        · exact g
      have hc : chainOf k (c :: cs) = c.L := by
        simp only [chainOf]
        rw [e, beq_self_eq_true]; rfl
      have hcg : selK a b p (c :: cs) ks = selK a b p cs ks := selK_congr fun j hj => by
        simp only [chainOf]
        rw [beq_baf.2 (by rw [e]; exact kl_ne (k1 j hj))]; rfl
      simp only [spn, selK]
      rw [hc, hcg, ih, e]
    · have hall : ∀ x ∈ c :: cs, x.Key ∈ ks ∧ kl k x.Key = true := fun x hx => by
        have hkc := k1 _ e
        rcases List.mem_cons.1 hx with rfl | hx
        · exact ⟨e, hkc⟩
        · have := kl_trans hkc (s1 x hx)
          rcases List.mem_cons.1 (h x (by simp [hx])) with g | g
          · rw [g, kl_irr] at this; cases this
          · exact ⟨g, this⟩
      rw [spn_sel a b p (ks := ks) (cs := c :: cs) k2 hs fun x hx => (hall x hx).1, selK_f1]
      rw [chainOf_none fun x hx => (kl_ne (hall x hx).2).symm]
      exact rd_nil k p
theorem six_rise : six.Pairwise (fun x y => kl x y = true) := by
  unfold six
  refine List.pairwise_cons.2 ⟨fun y hy => ?_, List.pairwise_cons.2 ⟨fun y hy => ?_, List.pairwise_cons.2 ⟨fun y hy => ?_, List.pairwise_cons.2 ⟨fun y hy => ?_, List.pairwise_cons.2 ⟨fun y hy => ?_, List.pairwise_cons.2 ⟨fun y hy => ?_, List.Pairwise.nil⟩⟩⟩⟩⟩⟩
  all_goals
    simp only [List.mem_cons, List.not_mem_nil, or_false] at hy
  · rcases hy with rfl | rfl | rfl | rfl | rfl <;> kernel_rfl
  · rcases hy with rfl | rfl | rfl | rfl <;> kernel_rfl
  · rcases hy with rfl | rfl | rfl <;> kernel_rfl
  · rcases hy with rfl | rfl <;> kernel_rfl
  · subst hy; kernel_rfl
theorem inn_lo {k a b : ByteArray} (h : kl k a = true) : inn k a b = false := by
  unfold inn
  rw [show Op.bytesLess a.toList k.toList = false from kl_asymm h, beq_baf.2 (kl_ne h).symm]; rfl
theorem inn_hi {k a b : ByteArray} (h : kl k a = false) : inn k a b = bif b.toList == ByteArray.empty.toList then true else kl k b := by
  unfold inn
  rcases kl_tri a k with g | g | g
  · rw [show Op.bytesLess a.toList k.toList = true from g]; rfl
  · rw [beq_ba.2 g, Bool.or_true]; rfl
  · rw [g] at h; cases h
end Go.Proofs.Ytjahlppmahjplaa.Told.ST
