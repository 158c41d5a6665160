/- What is trimmed is seenV the same from the mark on, is not longer, and has its last one. No condition beyond the row's own. -/
import Derived.Test.YthaaadjgjpjjpaaMath
namespace Go.Proofs.Ythaaadjgjpjjpaa.Pure
open Go Go.RowKit Go.Proofs.Ythaaadjgjpjjpaa.Q Go.Proofs.Ythaaadjgjpjjpaa.CMath Go.Proofs.YthaaadjgjpjjpaaW.PrintWords Go.Proofs.YthaaadjgjpjjpaaW.PrintLast Go.Proofs.YthaaadjgjpjjpaaW.PrintMore

theorem trims {l : List S25} (hr : Rise 0 l) (m a : Int) (hma : m ≤ a) : ∃ t A C A' C', t = l.drop (A.length - 1) ∧ Part m l A (C ++ C') ∧ Part m t A' (C ++ C') ∧ t.drop (A'.length - 1) = t ∧
    Part a l (A ++ C) C' ∧ Part a t (A' ++ C) C' ∧ seenV (A ++ C) = seenV (A' ++ C) ∧ lastPos t = lastPos l ∧ Rise 0 t := by
  obtain ⟨A, B, hp⟩ := partV m hr
  obtain ⟨e, h1, h2⟩ := hp
  have hrB := hr
  rw [e] at hrB
  obtain ⟨C, D, g, k1, k2⟩ := partV a hrB.app
  subst g
  subst e
  have plA : Part a (A ++ (C ++ D)) (A ++ C) D := ⟨by simp, fun v hv => by
    rcases List.mem_append.1 hv with x | x
    · have := h1 v x; omega
    · exact k1 v x, k2⟩
  rcases List.eq_nil_or_concat A with n | ⟨A0, v, n⟩
  · subst n
    exact ⟨[] ++ (C ++ D), [], C, [], D, by simp, ⟨rfl, h1, h2⟩, ⟨rfl, h1, h2⟩, by simp, plA, plA, rfl, rfl, hr⟩
  · rw [List.concat_eq_append] at n
    subst n
    have hd : (A0 ++ [v] ++ (C ++ D)).drop ((A0 ++ [v]).length - 1) = [v] ++ (C ++ D) := by
      rw [List.append_assoc, List.drop_left']
      simp
    have hv : v.f0 ≤ m := h1 v (by simp)
    have hr2 : Rise 0 ([v] ++ (C ++ D)) := by
      rw [List.append_assoc] at hr
      have := hr.app
      refine this.weak ?_
      cases hA : A0.getLast? with
      | none => exact Int.le_refl _
      | some u => exact Int.le_of_lt (hr.gt u (List.mem_append_left _ (List.mem_of_getLast? hA)))
    refine ⟨[v] ++ (C ++ D), A0 ++ [v], C, [v], D, hd.symm, ⟨rfl, h1, h2⟩, ⟨rfl, by simpa using hv, h2⟩, by simp, plA, ⟨by simp, ?_, k2⟩, ?_, ?_, hr2⟩
    · intro u hu
      rcases List.mem_append.1 hu with x | x
      · have : u = v := by simpa using x
        subst this; omega
      · exact k1 u x
    · rcases List.eq_nil_or_concat C with z | ⟨C0, c, z⟩
      · subst z; simp [seenV]
      · rw [List.concat_eq_append] at z; subst z
        have g : (v :: (C0 ++ [c])).getLast? = some c := List.getLast?_concat (l := v :: C0) (a := c)
        simp [seenV, g]
    · rcases List.eq_nil_or_concat (C ++ D) with z | ⟨C0, c, z⟩
      · rw [z]; simp [lastPos]
      · rw [List.concat_eq_append] at z; rw [z]
        have g : (v :: (C0 ++ [c])).getLast? = some c := List.getLast?_concat (l := v :: C0) (a := c)
        simp [lastPos, g]

theorem ChainTrim : diwanlaw15_ChainTrim.Pure := by
  intro b m p hb1 hb2 wb wm wp
  have hb : ∀ x ∈ b, 0 ≤ x ∧ x < 256 := fun x hx => wf_u8 (wb x hx)
  have hm := wf_u8 wm
  have hp := wf_u8 wp
  refine ⟨40, ?_⟩
  unfold diwanlaw15_ChainTrim.f
  rw [begunT]; simp only [Option.bind_some, if_true]
  by_cases h15 : (b.length : Int) > 15
  · rw [if_pos h15]
  · rw [if_neg h15]
    obtain ⟨l, e, hr, hl, _, _⟩ := made_f (k := 40) hb (by omega) (by omega)
    obtain ⟨t, A, C, A', D, ht, p1, p2, hu, p3, p4, hs, hlast, hrt⟩ := trims hr m (m + p) (by omega)
    have htl : t.length ≤ l.length := by rw [ht]; simp
    obtain ⟨w1, w2, w3⟩ : wrap64 m = m ∧ wrap64 p = p ∧ wrap64 (m + p) = m + p := ⟨wrap64_id (by omega) (by omega), wrap64_id (by omega) (by omega), wrap64_id (by omega) (by omega)⟩
    rw [e]; simp only [Option.bind_some]
    rw [w1, w2, w3]
    clear w1 w2 w3
    rw [trim_part p1 (by omega) (by omega), ← ht]; simp only [Option.bind_some]
    rw [at_part p3 (by omega) (by omega)]; simp only [Option.bind_some]
    rw [at_part p4 (by omega) (by omega)]; simp only [Option.bind_some]
    rw [trim_part p2 (by omega) (by omega), hu, hs]; simp only [Option.bind_some]
    rw [if_pos (by simp), if_pos (by simp), if_pos (by omega), last_f (by omega)]; simp only [Option.bind_some]
    rw [last_f (by omega)]; simp only [Option.bind_some]
    rw [if_pos hlast, may_f hrt (by omega) (by omega)]; simp only [Option.bind_some, if_true]
    rw [same_f (by omega) (by omega)]; rfl
end Go.Proofs.Ythaaadjgjpjjpaa.Pure
