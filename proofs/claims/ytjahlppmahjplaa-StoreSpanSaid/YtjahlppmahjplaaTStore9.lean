/- What is seen at a position: neither what is written behind it nor what is trimmed ahead of it counts. -/
import Derived.Test.YtjahlppmahjplaaTStore8
namespace Go.Proofs.Ytjahlppmahjplaa.Told.ST
open Go Go.Proofs.Ytjahlppmahjplaa.Vam Go.Proofs.Ytjahlppmahjplaa.Told Go.Proofs.Ytjahlppmahjplaa.Told.CF Go.Proofs.Ytjahlppmahjplaa.Told.PK
set_option linter.unusedSimpArgs false
set_option linter.unusedVariables false
theorem atV_consT {p : Int} {v : TVersion} {r : List TVersion} (h : (atV p r).2 = true) : atV p (v :: r) = atV p r := by
  simp only [atV]
  revert h
  obtain ⟨x, b⟩ := atV p r
  intro h
  cases h; rfl
theorem atV_consF {p : Int} {v : TVersion} {r : List TVersion} (h : (atV p r).2 = false) : atV p (v :: r) = bif decide (v.Pos ≤ p) then (v, true) else (none0, false) := by
  simp only [atV]
  revert h
  obtain ⟨x, b⟩ := atV p r
  intro h
  cases h; rfl
theorem atV_mono {m p : Int} (h : m ≤ p) : ∀ {l : List TVersion}, (atV m l).2 = true → (atV p l).2 = true
  | [], e => e
  | v :: r, e => by
    cases g : (atV p r).2
    · rw [atV_consF g]
      cases g' : (atV m r).2
      · rw [atV_consF g'] at e
        by_cases hv : v.Pos ≤ m
        · rw [decide_eq_true (by omega)]; rfl
        · rw [decide_eq_false hv] at e; cases e
      · rw [atV_mono h g'] at g; cases g
    · rw [atV_consT g]; exact g
theorem atV_snoc {p : Int} {v : TVersion} (h : p < v.Pos) : ∀ l : List TVersion, atV p (l ++ [v]) = atV p l
  | [] => by
    show atV p [v] = _
    rw [atV_consF rfl, decide_eq_false (by omega)]; rfl
  | a :: r => by
    rw [List.cons_append, atV, atV_snoc h r, atV]
theorem atV_add {p : Int} {v : TVersion} (h : p < v.Pos) (l : List TVersion) : atV p (addV l v) = atV p l := by
  unfold addV
  cases decide (v.Pos ≤ last l)
  · exact atV_snoc h l
  · rfl
theorem atV_tri {m p : Int} (h : m ≤ p) : ∀ l : List TVersion, atV p (tri m l) = atV p l
  | [] => rfl
  | v :: r => by
    simp only [tri]
    cases g : (atV m r).2
    · rfl
    · simp only [cond_true]
      rw [atV_tri h r, atV_consT (atV_mono h g)]
theorem rd_add {k : ByteArray} {p : Int} {v : TVersion} (h : p < v.Pos) (l : List TVersion) : rd k (addV l v) p = rd k l p := by
  unfold rd; rw [atV_add h]
theorem rd_tri {k : ByteArray} {m p : Int} (h : m ≤ p) (l : List TVersion) : rd k (tri m l) p = rd k l p := by
  unfold rd; rw [atV_tri h]
theorem rd_new {k : ByteArray} {p : Int} {v : TVersion} (h : p < v.Pos) : (rd k [v] p).There = false := by
  unfold rd
  rw [atV_consF rfl, decide_eq_false (by omega)]; rfl
theorem spn_put {a b : ByteArray} {p pos : Int} (h : p < pos) (w : TWrite) : ∀ cs : List TChain, spn a b p (put pos w cs) = spn a b p cs
  | [] => by
    simp only [put]
    cases decide (pos < 1)
    · simp only [cond_false, spn]
      rw [rd_new (v := TVersion.mk pos w.Val w.Gone) h]; rfl
    · rfl
  | c :: r => by
    simp only [put]
    cases kl c.Key w.Key
    · cases (c.Key.toList == w.Key.toList)
      · cases decide (pos < 1)
        · simp only [cond_false]
          rw [spn]
          simp only
          rw [rd_new (v := TVersion.mk pos w.Val w.Gone) h]; rfl
        · rfl
      · simp only [cond_true, cond_false, spn]
        rw [rd_add (v := TVersion.mk pos w.Val w.Gone) h]
    · simp only [cond_true, spn]
      rw [spn_put h w r]
theorem spn_puts {a b : ByteArray} {p pos : Int} (h : p < pos) : ∀ (l : List TWrite) (cs : List TChain), spn a b p (puts pos l cs) = spn a b p cs
  | [], _ => rfl
  | w :: l, cs => by
    show spn a b p (puts pos l (put pos w cs)) = _
    rw [spn_puts h l, spn_put h w]
theorem spn_trs {a b : ByteArray} {m p : Int} (h : m ≤ p) : ∀ cs : List TChain, spn a b p (trs m cs) = spn a b p cs
  | [] => rfl
  | c :: r => by
    show spn a b p (TChain.mk c.Key (tri m c.L) :: trs m r) = _
    simp only [spn]
    rw [rd_tri h, spn_trs h r]
theorem spn_mem {a b : ByteArray} {p : Int} : ∀ {cs : List TChain} {x : TRead}, x ∈ spn a b p cs → ∃ c ∈ cs, x = rd c.Key c.L p
  | [], x, h => by cases h
  | c :: r, x, h => by
    simp only [spn] at h
    cases g : ((rd c.Key c.L p).There && inn c.Key a b) <;> rw [g] at h
    · obtain ⟨c', h1, h2⟩ := spn_mem h
      exact ⟨c', by simp [h1], h2⟩
    · rcases List.mem_cons.1 h with e | h
      · exact ⟨c, by simp, e⟩
      · obtain ⟨c', h1, h2⟩ := spn_mem h
        exact ⟨c', by simp [h1], h2⟩
theorem chainOf_in : ∀ {cs : List TChain}, Srt cs → ∀ c ∈ cs, chainOf c.Key cs = c.L
  | [], _, c, hc => by cases hc
  | a :: r, h, c, hc => by
    obtain ⟨h1, h2⟩ := List.pairwise_cons.1 h
    simp only [chainOf]
    rcases List.mem_cons.1 hc with rfl | hc
    · rw [beq_self_eq_true]; rfl
    · rw [beq_baf.2 (kl_ne (h1 c hc))]
      exact chainOf_in h2 c hc
theorem chainOf_trs (m : Int) (k : ByteArray) : ∀ cs : List TChain, chainOf k (trs m cs) = tri m (chainOf k cs)
  | [] => rfl
  | c :: r => by
    show chainOf k (TChain.mk c.Key (tri m c.L) :: trs m r) = _
    simp only [chainOf]
    rw [chainOf_trs m k r]
    cases (c.Key.toList == k.toList) <;> rfl
theorem last_tri (m : Int) (l : List TVersion) : last (tri m l) = last l := by
  by_cases h : l = []
  · subst h; rfl
  · obtain ⟨A, hA⟩ := tri_sfx m l
    have := last_sfx (A := A) (tri_ne m h)
    rw [← hA] at this
    exact this.symm
theorem last_trimS (s : TStore) (m : Int) (k : ByteArray) : last (chainOf k (trimS s m).Chains) = last (chainOf k s.Chains) := by
  unfold trimS
  cases decide (m ≤ s.Mark)
  · show last (chainOf k (trs m s.Chains)) = _
    rw [chainOf_trs, last_tri]
  · rfl
theorem spn_trimS {a b : ByteArray} {s : TStore} {m p : Int} (h : m ≤ p) : spn a b p (trimS s m).Chains = spn a b p s.Chains := by
  unfold trimS
  cases decide (m ≤ s.Mark)
  · exact spn_trs h s.Chains
  · rfl
end Go.Proofs.Ytjahlppmahjplaa.Told.ST
