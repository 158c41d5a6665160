/- Which terms entries have, what a log has, what joins come to, and who is newer: the program's answers are the document's. No condition beyond the row's own. -/
import Derived.Test.YtipeiombaempoaaQdiwanlaw9UlogAll
import Derived.Test.YtipeiombaempoaaUFns
namespace Go.Proofs.Ytipeiombaempoaa.Pure
open Go Go.RowKit Go.Proofs.Ytipeiombaempoaa.Q Go.Proofs.Ytipeiombaempoaa.UMath Go.Proofs.YtipeiombaempoaaW.PrintWords Go.Proofs.YtipeiombaempoaaW.PrintLast Go.Proofs.YtipeiombaempoaaW.PrintMore

theorem all_l0 {l m : List S39} {n n' : Nat} (hl : LogOk n l) (hm : LogOk n' m) (hn : n ≤ 100) (hn' : n' ≤ 100) (t : Int) (ps : List Int) (hp : ps.length ≤ 100) : ∀ (d j k : Nat), j + d = ps.length → 2 * d + 3100 ≤ k →
    diwanlaw9_UlogAll.l0 k t l m ps (j : Int) = some true
  | d, j, k, hd, hk => by
    obtain ⟨k, rfl⟩ : ∃ q, k = q + 2 := ⟨k - 2, by omega⟩
    have ll : l.length ≤ 1000 := by have := hl.len; omega
    have lm : m.length ≤ 1000 := by have := hm.len; omega
    have sl := hl.sm
    have sm := hm.sm
    simp only [diwanlaw9_UlogAll.l0]
    match d, hd, hk with
    | 0, hd, hk =>
      rw [if_neg (by omega)]
      obtain ⟨r1, a1, a2⟩ := same_f (a := l) (b := m) (k := k + 1) (by omega) ll sl
      obtain ⟨r2, b1, b2⟩ := refSame_f (a := l) (b := m) (k := k + 1) (by omega) ll sl
      obtain ⟨r3, c1, c2⟩ := same_f (a := l) (b := l) (k := k + 1) (by omega) ll sl
      rw [a1, b1, c1]
      have e : r1 = r2 := by rw [Bool.eq_iff_iff, a2, b2]
      have e3 : r3 = true := c2.2 rfl
      simp [e, e3]
    | d + 1, hd, hk =>
      rw [if_pos (by omega), if_pos (by omega)]
      have hw : ∀ i : Int, (joinS l i m).length ≤ 1000 ∧ ∀ e ∈ joinS l i m, Sm e := fun i => ⟨by have := joinS_len l i m; have := hl.len; have := hm.len; omega, joinS_mem (fun e => Sm e) sl sm⟩
      generalize rd ps (j : Int) = i
      obtain ⟨r1, a1, a2⟩ := refSame_f (a := joinS l i m) (b := joinS l i m) (k := k + 1) (by omega) (hw i).1 (hw i).2
      have hr : r1 = true := a2.2 rfl
      subst hr
      rw [term_f (by omega) ll, refTerm_f (by omega) ll, has_f (by omega) ll, refHas_f ll, has_f (by omega) ll, refHas_f ll, join_f (by omega) ll lm, refJoin_f (by omega) ll lm, newer_f (by omega) ll, refNewer_f (by omega) ll, newer_f (by omega) ll, refNewer_f (by omega) ll]
      simp only [Option.bind_some, bne_self_eq_false, Bool.false_eq_true, if_false, if_true, a1]
      simp only [diwanlaw9_UlogAll.j2, Bool.false_eq_true, if_false]
      have e : wrap64 ((j : Int) + 1) = ((j + 1 : Nat) : Int) := by rw [wid (by omega)]; omega
      rw [e]
      exact all_l0 hl hm hn hn' t ps hp d (j + 1) k (by omega) (by omega)
theorem UlogAll : diwanlaw9_UlogAll.Pure := by
  intro a b n m ha1 ha2 ua hb1 hb2 ub un um
  refine ⟨4000, ?_⟩
  unfold diwanlaw9_UlogAll.f
  rw [begunT]; simp only [Option.bind_some, if_true]
  obtain ⟨k, hk, hk0⟩ : ∃ k, 4000 = k + 1 ∧ 3999 ≤ k := ⟨3999, rfl, by omega⟩
  rw [hk]
  have out : diwanlaw9_UlogAll.j0 (k + 1) a b n m true = some true := by simp [diwanlaw9_UlogAll.j0]
  by_cases h1 : (a.length : Int) > 80
  · rw [if_pos h1]; exact out
  · rw [if_neg h1]
    by_cases h2 : (b.length : Int) > 80
    · simp only [h2, decide_true]; exact out
    · simp only [h2, decide_false]
      obtain ⟨l, c, g1, hl⟩ := log_ok (U.of ua) (by omega) 8 (by omega) (k := k) (by omega)
      obtain ⟨p, c', g2, hp⟩ := log_ok (U.of ub) (by omega) 4 (by omega) (k := k) (by omega)
      simp only [diwanlaw9_UlogAll.j0, Bool.false_eq_true, if_false]
      simp only [diwanplay_Made.f, Option.bind_some]
      have g1' : diwanplay_Picks_Log.f k a 0 8 = some (l, c) := g1
      have g2' : diwanplay_Picks_Log.f k b 0 4 = some (p, c') := g2
      rw [g1']; simp only [Option.bind_some]
      rw [g2']; simp only [Option.bind_some]
      exact all_l0 hl hp (by omega) (by omega) m _ (by simp) 5 0 k rfl (by omega)
end Go.Proofs.Ytipeiombaempoaa.Pure
