/- Of two logs one at least is as new as the other, and a log that goes on is newer. No condition beyond the row's own. -/
import Derived.Test.YtipeiombaempoaaQdiwanlaw9UlogNewer
import Derived.Test.YtipeiombaempoaaUFns
namespace Go.Proofs.Ytipeiombaempoaa.Pure
open Go Go.RowKit Go.Proofs.Ytipeiombaempoaa.Q Go.Proofs.Ytipeiombaempoaa.UMath Go.Proofs.YtipeiombaempoaaW.PrintWords Go.Proofs.YtipeiombaempoaaW.PrintLast Go.Proofs.YtipeiombaempoaaW.PrintMore

theorem UlogNewer : diwanlaw9_UlogNewer.Pure := by
  intro a b n m ha1 ha2 ua hb1 hb2 ub un um
  refine ⟨4000, ?_⟩
  unfold diwanlaw9_UlogNewer.f
  rw [begunT]; simp only [Option.bind_some, if_true]
  obtain ⟨k, hk, hk0⟩ : ∃ k, 4000 = k + 1 ∧ 3999 ≤ k := ⟨3999, rfl, by omega⟩
  rw [hk]
  have out : diwanlaw9_UlogNewer.j0 (k + 1) a b n m true = some true := by simp [diwanlaw9_UlogNewer.j0]
  by_cases h1 : (a.length : Int) > 80
  · rw [if_pos h1]; exact out
  · rw [if_neg h1]
    by_cases h2 : (b.length : Int) > 80
    · simp only [h2, decide_true]; exact out
    · simp only [h2, decide_false]
      have hn := wf_u8 un
      have hm := wf_u8 um
      obtain ⟨n, rfl⟩ := Int.eq_ofNat_of_zero_le hn.1
      obtain ⟨m, rfl⟩ := Int.eq_ofNat_of_zero_le hm.1
      have e1 : wrap64 (Int.tmod (n : Int) 9) = ((n % 9 : Nat) : Int) := by
        have : Int.tmod (n : Int) 9 = ((n % 9 : Nat) : Int) := by simp [Int.tmod]
        rw [this]; exact wid (by omega)
      have e2 : wrap64 (Int.tmod (m : Int) 9) = ((m % 9 : Nat) : Int) := by
        have : Int.tmod (m : Int) 9 = ((m % 9 : Nat) : Int) := by simp [Int.tmod]
        rw [this]; exact wid (by omega)
      obtain ⟨l, c, g1, hl⟩ := log_ok (U.of ua) (by omega) (n % 9) (by omega) (k := k) (by omega)
      obtain ⟨p, c', g2, hp⟩ := log_ok (U.of ub) (by omega) (m % 9) (by omega) (k := k) (by omega)
      simp only [diwanlaw9_UlogNewer.j0, Bool.false_eq_true, if_false]
      simp only [diwanplay_Made.f, Option.bind_some]
      rw [e1, g1]; simp only [Option.bind_some]
      rw [e2, g2]; simp only [Option.bind_some]
      have ll : l.length ≤ 1000 := by have := hl.len; omega
      have lp : p.length ≤ 1000 := by have := hp.len; omega
      simp only [term_f (k := k) (by omega) ll, term_f (k := k) (by omega) lp, newer_f (k := k) (by omega) ll, newer_f (k := k) (by omega) lp, Option.bind_some, List.length_nil, Nat.zero_add, List.nil_append]
      have b1 := termOf_bound hl
      have b2 := termOf_bound hp
      generalize ht : termOf l l.length = t at b1
      generalize hu : termOf p p.length = u at b2
      have ew : wrap64 (t + 1) = t + 1 := wid (by omega)
      rw [if_pos (by omega), if_pos (by omega), ew]
      generalize hq : l ++ [(⟨t + 1, true, (⟨0, 0, ([] : List (S55)), ([] : List (S58))⟩ : S37)⟩ : S39)] = q
      have lq : q.length = l.length + 1 := by rw [← hq]; simp
      have tq : termOf q q.length = t + 1 := by
        unfold termOf
        rw [if_pos (by omega), lq, show ((l.length + 1 : Nat) : Int) - 1 = ((l.length : Nat) : Int) by omega, rd_at _ _ (by omega)]
        simp [← hq]
      have lq' : q.length ≤ 1000 := by have := hl.len; omega
      simp only [term_f (k := k) (by omega) lq', newer_f (k := k) (by omega) lq', Option.bind_some, tq]
      have n1 : newerOf l (l.length : Int) t = true := by simp [newerOf, ht]
      have n2 : newerOf l (q.length : Int) (t + 1) = true := by simp [newerOf, ht]; omega
      have n3 : newerOf q (l.length : Int) t = false := by simp [newerOf, tq]; omega
      rw [n1, n2, n3]
      simp only [if_true, Bool.not_false]
      by_cases hx : newerOf l (p.length : Int) u = true
      · rw [if_pos hx]
      · rw [if_neg hx]
        have : newerOf p (l.length : Int) t = true := by
          unfold newerOf at hx ⊢
          rw [ht] at hx
          rw [hu]
          by_cases q1 : u > t
          · rw [if_pos q1] at hx; exact absurd rfl hx
          · rw [if_neg q1] at hx
            by_cases q2 : u = t
            · rw [if_pos q2] at hx
              rw [if_neg (by omega), if_pos q2.symm]
              simp at hx ⊢
              omega
            · rw [if_pos (by omega)]
        rw [if_pos this]
end Go.Proofs.Ytipeiombaempoaa.Pure
