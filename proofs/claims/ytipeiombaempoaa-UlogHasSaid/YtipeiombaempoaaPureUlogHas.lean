/- A log has what was joined, at its places, and just its own terms. No condition beyond the row's own. -/
import Derived.Test.YtipeiombaempoaaQdiwanlaw9UlogHas
import Derived.Test.YtipeiombaempoaaUJoin
namespace Go.Proofs.Ytipeiombaempoaa.Pure
open Go Go.RowKit Go.Proofs.Ytipeiombaempoaa.Q Go.Proofs.Ytipeiombaempoaa.UMath Go.Proofs.YtipeiombaempoaaW.PrintWords Go.Proofs.YtipeiombaempoaaW.PrintLast Go.Proofs.YtipeiombaempoaaW.PrintMore

theorem termAt {x : List S39} {j : Nat} (h : j < x.length) : termOf x ((j + 1 : Nat) : Int) = x[j].f0 := by
  unfold termOf
  rw [if_pos (by omega), show ((j + 1 : Nat) : Int) - 1 = (j : Int) by omega, rd_at x j h]
theorem hasAt {x : List S39} {j : Nat} (h : j < x.length) (t : Int) : hasOf x ((j + 1 : Nat) : Int) t = (x[j].f0 == t) := by
  unfold hasOf
  rw [if_neg (by omega), if_pos (by omega), termAt h]
theorem has_l1 {x : List S39} (lx : x.length ≤ 200) (h1 : ∀ e ∈ x, 1 ≤ e.f0) : ∀ (d j k : Nat), j + d = x.length → 2 * d + 10 ≤ k → diwanlaw9_UlogHas.l1 k x ((j + 1 : Nat) : Int) = some true
  | d, j, k, hd, hk => by
    obtain ⟨k, rfl⟩ : ∃ q, k = q + 2 := ⟨k - 2, by omega⟩
    simp only [diwanlaw9_UlogHas.l1]
    match d, hd, hk with
    | 0, hd, hk =>
      have e : wrap64 ((x.length : Int) + 1) = (x.length : Int) + 1 := wid (by omega)
      have hn : hasOf x ((x.length : Int) + 1) 0 = false := by
        unfold hasOf
        rw [if_neg (by omega), if_neg (by omega)]
      rw [if_neg (by omega), e, has_f (by omega) (by omega), hn]
      rfl
    | d + 1, hd, hk =>
      have hj : j < x.length := by omega
      have e : wrap64 (((j + 1 : Nat) : Int) + 1) = ((j + 1 + 1 : Nat) : Int) := by rw [wid (by omega)]; omega
      rw [if_pos (by omega), term_f (by omega) (by omega)]
      simp only [Option.bind_some]
      rw [has_f (by omega) (by omega), hasAt hj, termAt hj]
      simp only [Option.bind_some, beq_self_eq_true, if_true]
      have := h1 _ (List.getElem_mem hj)
      have hd2 : decide (x[j].f0 < 1) = false := decide_eq_false (by omega)
      rw [hd2]
      simp only [diwanlaw9_UlogHas.j4, Bool.false_eq_true, if_false]
      rw [e]
      exact has_l1 lx h1 d (j + 1) k (by omega) (by omega)
theorem has_l0 {m x : List S39} {i : Nat} (lm : m.length ≤ 50) (hm : ∀ e ∈ m, 1 ≤ e.f0 ∧ e.f0 ≤ 51) (li : i ≤ 50) (lx : x.length ≤ 200) (lo : ∀ e ∈ x, 1 ≤ e.f0) (hx : ∀ j (hj : j < m.length), ∃ h : i + j < x.length, x[i + j].f0 = m[j].f0) : ∀ (d j k : Nat), j + d = m.length → 2 * d + 500 ≤ k →
    diwanlaw9_UlogHas.l0 k m (i : Int) x (j : Int) = some true
  | d, j, k, hd, hk => by
    obtain ⟨k, rfl⟩ : ∃ q, k = q + 2 := ⟨k - 2, by omega⟩
    simp only [diwanlaw9_UlogHas.l0]
    match d, hd, hk with
    | 0, hd, hk =>
      rw [if_neg (by omega)]
      exact has_l1 lx lo x.length 0 (k + 1) (by omega) (by omega)
    | d + 1, hd, hk =>
      have hj : j < m.length := by omega
      have f1 : (j : Int) < (m.length : Int) := by omega
      have f2 : (0 : Int) ≤ (j : Int) := Int.natCast_nonneg _
      have hb := hm _ (List.getElem_mem hj)
      have ew : wrap64 (wrap64 ((i : Int) + (j : Int)) + 1) = ((i + j + 1 : Nat) : Int) := by
        have : wrap64 ((i : Int) + (j : Int)) = ((i + j : Nat) : Int) := by rw [wid (by omega)]; omega
        rw [this, wid (by omega)]; omega
      have ex : wrap64 ((j : Int) + 1) = ((j + 1 : Nat) : Int) := by rw [wid (by omega)]; omega
      have hj2 : j + 1 + d = m.length := by omega
      have hk2 : 2 * d + 500 ≤ k := by omega
      have ko : 1 ≤ k + 1 := by omega
      have kl : x.length ≤ 1000 := by omega
      obtain ⟨hlt, h4⟩ := hx j hj
      rw [if_pos f1, if_pos f2, ew, rd_at m j hj]
      generalize m[j].f0 = t at hb h4
      have et : wrap64 (t + 1) = t + 1 := wid (by omega)
      have hne : (t == t + 1) = false := by simp; omega
      rw [et, has_f ko kl, has_f ko kl, hasAt hlt, hasAt hlt, h4]
      simp only [Option.bind_some, beq_self_eq_true, if_true]
      rw [hne]
      simp only [diwanlaw9_UlogHas.j2, Bool.false_eq_true, if_false]
      rw [ex]
      exact has_l0 lm hm li lx lo hx d (j + 1) k hj2 hk2
theorem UlogHas : diwanlaw9_UlogHas.Pure := by
  intro a b n ha1 ha2 ua hb1 hb2 ub un
  refine ⟨4000, ?_⟩
  unfold diwanlaw9_UlogHas.f
  rw [begunT]; simp only [Option.bind_some, if_true]
  obtain ⟨k, hk, hk0⟩ : ∃ k, 4000 = k + 1 ∧ 3999 ≤ k := ⟨3999, rfl, by omega⟩
  rw [hk]
  have out : diwanlaw9_UlogHas.j0 (k + 1) a b n true = some true := by simp [diwanlaw9_UlogHas.j0]
  by_cases h1 : (a.length : Int) > 80
  · rw [if_pos h1]; exact out
  · rw [if_neg h1]
    by_cases h2 : (b.length : Int) > 80
    · simp only [h2, decide_true]; exact out
    · simp only [h2, decide_false]
      obtain ⟨l, c, g1, hl⟩ := log_ok (U.of ua) (by omega) 7 (by omega) (k := k) (by omega)
      obtain ⟨p, c', g2, hp⟩ := log_ok (U.of ub) (by omega) 4 (by omega) (k := k) (by omega)
      have hn := wf_u8 un
      obtain ⟨n, rfl⟩ := Int.eq_ofNat_of_zero_le hn.1
      simp only [diwanlaw9_UlogHas.j0, Bool.false_eq_true, if_false]
      simp only [diwanplay_Made.f, Option.bind_some]
      have g1' : diwanplay_Picks_Log.f k a 0 7 = some (l, c) := g1
      have g2' : diwanplay_Picks_Log.f k b 0 4 = some (p, c') := g2
      rw [g1', Option.bind_some, g2', Option.bind_some]
      dsimp only
      have e8 : wrap64 ((l.length : Int) + 1) = ((8 : Nat) : Int) := by rw [hl.len, wid (by omega)]; rfl
      have en : wrap64 (n : Int) = (n : Int) := wid (by omega)
      have t8 : Int.tmod (n : Int) ((8 : Nat) : Int) = ((n % 8 : Nat) : Int) := by simp [Int.tmod]
      rw [e8, en, t8]
      clear e8 en t8
      have hi : n % 8 ≤ l.length := by have := hl.len; omega
      generalize n % 8 = i at hi
      have ll : l.length ≤ 50 := by have := hl.len; omega
      have lp : p.length ≤ 50 := by have := hp.len; omega
      have lx : (joinS l (i : Int) p).length ≤ 200 := Nat.le_trans (joinS_len l i p) (by omega)
      have lo := joinS_mem (i := (i : Int)) (fun e => 1 ≤ e.f0) hl.lo hp.lo
      have hx : ∀ j (hj : j < p.length), ∃ h : i + j < (joinS l (i : Int) p).length, (joinS l (i : Int) p)[i + j].f0 = p[j].f0 := fun j hj => joinS_has hi hj
      have kj : 3000 ≤ k := by omega
      have l1 : l.length ≤ 1000 := by omega
      have l2 : p.length ≤ 1000 := by omega
      have n8 : ¬ ((8 : Nat) : Int) = 0 := by decide
      rw [if_neg n8, join_f kj l1 l2, Option.bind_some]
      have fin := has_l0 lp (fun e he => ⟨hp.lo e he, by have := hp.hi e he; omega⟩) (by omega) lx lo hx p.length 0 k (by omega) (by omega)
      exact fin
end Go.Proofs.Ytipeiombaempoaa.Pure
