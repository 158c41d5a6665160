/- What a write does to a key's versions. -/
import Derived.Test.YtjahlppmahjplaaTStore4
namespace Go.Proofs.Ytjahlppmahjplaa.Told.ST
open Go Go.Proofs.Ytjahlppmahjplaa.Vam Go.Proofs.Ytjahlppmahjplaa.Told Go.Proofs.Ytjahlppmahjplaa.Told.CF Go.Proofs.Ytjahlppmahjplaa.Told.PK
set_option linter.unusedSimpArgs false
set_option linter.unusedVariables false
theorem chainOf_put {pos : Int} (hp : 1 ≤ pos) (w : TWrite) (k : ByteArray) : ∀ {cs : List TChain}, Srt cs → chainOf k (put pos w cs) = bif w.Key.toList == k.toList then addV (chainOf k cs) (TVersion.mk pos w.Val w.Gone) else chainOf k cs
  | [], _ => by
    simp only [put]
    rw [decide_eq_false (by omega)]
    simp only [cond_false, chainOf]
    cases (w.Key.toList == k.toList)
    · rfl
    · simp only [cond_true]; rw [add_nil, decide_eq_false (by show ¬ pos < 1; omega)]; rfl
  | c :: r, h => by
    obtain ⟨h1, h2⟩ := List.pairwise_cons.1 h
    have ih := chainOf_put hp w k h2
    simp only [put]
    cases g1 : kl c.Key w.Key
    · simp only [cond_false]
      cases g2 : (c.Key.toList == w.Key.toList)
      · simp only [cond_false]
        rw [decide_eq_false (by omega)]
        simp only [cond_false]
        rw [chainOf]
        cases g3 : (w.Key.toList == k.toList)
        · simp only [cond_false]
        · simp only [cond_true]
          have hwa : kl w.Key c.Key = true := kl_of_not g1 (beq_baf.1 g2)
          have hk := beq_ba.1 g3
          rw [chainOf_none (cs := c :: r) (fun x hx => by
            rw [← hk]
            rcases List.mem_cons.1 hx with rfl | hx
            · exact (kl_ne hwa).symm
            · exact (kl_ne (kl_trans hwa (h1 x hx))).symm), add_nil, decide_eq_false (by show ¬ pos < 1; omega)]; rfl
      · simp only [cond_true, chainOf]
        have e := beq_ba.1 g2
        rw [← e]
        cases g3 : (c.Key.toList == k.toList)
        · rfl
        · rfl
    · simp only [cond_true, chainOf]
      rw [ih]
      cases g3 : (c.Key.toList == k.toList)
      · rfl
      · have hk := beq_ba.1 g3
        have : (w.Key.toList == k.toList) = false := beq_baf.2 (by rw [← hk]; exact (kl_ne g1).symm)
        rw [this]; rfl
theorem addV_same {l : List TVersion} {v : TVersion} (h : v.Pos ≤ last l) : addV l v = l := by
  unfold addV
  rw [decide_eq_true h]; rfl
theorem addV_last {l : List TVersion} {v : TVersion} : v.Pos ≤ last (addV l v) := by
  unfold addV
  by_cases h : v.Pos ≤ last l
  · rw [decide_eq_true h]; exact h
  · rw [decide_eq_false h]
    simp only [cond_false, last_snoc]; exact Int.le_refl _
theorem put_noop {pos : Int} (hp : 1 ≤ pos) (w : TWrite) : ∀ {cs : List TChain}, Srt cs → pos ≤ last (chainOf w.Key cs) → put pos w cs = cs
  | [], _, hl => by have : last (chainOf w.Key []) = 0 := rfl; omega
  | c :: r, h, hl => by
    obtain ⟨h1, h2⟩ := List.pairwise_cons.1 h
    simp only [put]
    cases g1 : kl c.Key w.Key
    · cases g2 : (c.Key.toList == w.Key.toList)
      · have hwa : kl w.Key c.Key = true := kl_of_not g1 (beq_baf.1 g2)
        rw [chainOf_none (cs := c :: r) (fun x hx => by
          rcases List.mem_cons.1 hx with rfl | hx
          · exact (kl_ne hwa).symm
          · exact (kl_ne (kl_trans hwa (h1 x hx))).symm)] at hl
        have : last ([] : List TVersion) = 0 := rfl
        omega
      · simp only [chainOf] at hl
        rw [g2] at hl
        simp only [cond_true] at hl
        simp only [cond_true, cond_false]
        rw [addV_same (v := TVersion.mk pos w.Val w.Gone) hl]
    · simp only [chainOf] at hl
      rw [beq_baf.2 (kl_ne g1)] at hl
      simp only [cond_true]
      rw [put_noop hp w h2 hl]
theorem puts_srt (pos : Int) : ∀ {l : List TWrite} {cs : List TChain}, Srt cs → Srt (puts pos l cs)
  | [], _, h => h
  | w :: l, cs, h => puts_srt pos (l := l) (put_srt pos w h)
theorem puts_keep {pos : Int} (hp : 1 ≤ pos) (k : ByteArray) : ∀ {l : List TWrite} {cs : List TChain}, Srt cs → pos ≤ last (chainOf k cs) → pos ≤ last (chainOf k (puts pos l cs))
  | [], cs, _, h => h
  | w :: l, cs, hs, h => by
    refine puts_keep hp k (l := l) (put_srt pos w hs) ?_
    rw [chainOf_put hp w k hs]
    cases (w.Key.toList == k.toList)
    · exact h
    · show pos ≤ last (addV _ (TVersion.mk pos w.Val w.Gone))
      rw [addV_same (v := TVersion.mk pos w.Val w.Gone) h]; exact h
theorem puts_has {pos : Int} (hp : 1 ≤ pos) : ∀ {l : List TWrite} {cs : List TChain}, Srt cs → ∀ w ∈ l, pos ≤ last (chainOf w.Key (puts pos l cs))
  | [], cs, _, w, h => by cases h
  | a :: l, cs, hs, w, h => by
    rcases List.mem_cons.1 h with rfl | h
    · refine puts_keep hp w.Key (l := l) (put_srt pos w hs) ?_
      rw [chainOf_put hp w w.Key hs, beq_self_eq_true]
      exact addV_last (v := TVersion.mk pos w.Val w.Gone)
    · exact puts_has hp (l := l) (put_srt pos a hs) w h
theorem puts_noop {pos : Int} (hp : 1 ≤ pos) : ∀ {l : List TWrite} {cs : List TChain}, Srt cs → (∀ w ∈ l, pos ≤ last (chainOf w.Key cs)) → puts pos l cs = cs
  | [], cs, _, _ => rfl
  | w :: l, cs, hs, h => by
    show puts pos l (put pos w cs) = cs
    rw [put_noop hp w hs (h w (by simp)), puts_noop hp hs fun w hw => h w (by simp [hw])]
theorem puts_else {pos : Int} (hp : 1 ≤ pos) (k : ByteArray) : ∀ {l : List TWrite} {cs : List TChain}, Srt cs → (∀ w ∈ l, (w.Key.toList == k.toList) = false) → chainOf k (puts pos l cs) = chainOf k cs
  | [], cs, _, _ => rfl
  | w :: l, cs, hs, h => by
    show chainOf k (puts pos l (put pos w cs)) = _
    rw [puts_else hp k (l := l) (put_srt pos w hs) fun w hw => h w (by simp [hw]), chainOf_put hp w k hs, h w (by simp)]; rfl
theorem last_le {P : Int} (h0 : 0 ≤ P) (k : ByteArray) : ∀ {cs : List TChain}, (∀ c ∈ cs, last c.L ≤ P) → last (chainOf k cs) ≤ P
  | [], _ => h0
  | c :: r, h => by
    simp only [chainOf]
    cases (c.Key.toList == k.toList)
    · exact last_le h0 k fun c hc => h c (by simp [hc])
    · exact h c (by simp)
theorem MI.last {N : Nat} {P : Int} {cs : List TChain} (h : MI N P cs) (h0 : 0 ≤ P) (k : ByteArray) : CF.last (chainOf k cs) ≤ P := last_le h0 k fun c hc => (h.ok c hc).2.2.2
end Go.Proofs.Ytjahlppmahjplaa.Told.ST
