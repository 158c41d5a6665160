/- To join again what was joined, or a front of it, changes nothing, what is ahead stays, and what was joined is there. No condition beyond the row's own. -/
import Derived.Test.YtipeiombaempoaaQdiwanlaw9UlogJoin
import Derived.Test.YtipeiombaempoaaUJoin
namespace Go.Proofs.Ytipeiombaempoaa.Pure
open Go Go.RowKit Go.Proofs.Ytipeiombaempoaa.Q Go.Proofs.Ytipeiombaempoaa.UMath Go.Proofs.YtipeiombaempoaaW.PrintWords Go.Proofs.YtipeiombaempoaaW.PrintLast Go.Proofs.YtipeiombaempoaaW.PrintMore

theorem wadd (a b : Nat) (h : a + b ≤ 1000) : wrap64 ((a : Int) + (b : Int)) = ((a + b : Nat) : Int) := by rw [wid (by omega)]; omega
theorem joinL_l0 {l m x : List S39} {i : Nat} (hi : i ≤ l.length) (ll : l.length ≤ 100) (lm : m.length ≤ 100) (sl : ∀ e ∈ l, Sm e) (lx : x.length ≤ 300) (hx : ∀ j (hj : j < m.length), ∃ h : i + j < x.length, x[i + j].f0 = m[j].f0) : ∀ (d j k : Nat), j + d = m.length → d + 3100 ≤ k →
    diwanlaw9_UlogJoin.l0 k l m (i : Int) x (j : Int) = some true
  | d, j, k, hd, hk => by
    obtain ⟨k, rfl⟩ : ∃ q, k = q + 1 := ⟨k - 1, by omega⟩
    simp only [diwanlaw9_UlogJoin.l0]
    match d, hd, hk with
    | 0, hd, hk =>
      have e2 : joinS l (i : Int) [] = l := by
        unfold joinS
        rw [if_neg (by omega), Int.toNat_natCast]
        have : join0 (l.drop i) [] = l.drop i := by cases l.drop i <;> rfl
        rw [this, List.take_append_drop]
      rw [if_neg (by omega), join_f (by omega) (by omega) (by simp)]
      simp only [Option.bind_some]
      rw [e2]
      obtain ⟨r, a1, a2⟩ := same_f (a := l) (b := l) (k := k) (by omega) (by omega) sl
      rw [a1, a2.2 rfl]; rfl
    | d + 1, hd, hk =>
      have hj : j < m.length := by omega
      have ew : wrap64 ((i : Int) + (j : Int)) = ((i + j : Nat) : Int) := by rw [wid (by omega)]; omega
      have ex : wrap64 ((j : Int) + 1) = ((j + 1 : Nat) : Int) := by rw [wid (by omega)]; omega
      have f1 : (j : Int) < (m.length : Int) := by omega
      have f2 : (0 : Int) ≤ ((i + j : Nat) : Int) := Int.natCast_nonneg _
      have f4 : (0 : Int) ≤ (j : Int) := Int.natCast_nonneg _
      have hj2 : j + 1 + d = m.length := by omega
      have hk2 : d + 3100 ≤ k := by omega
      obtain ⟨hlt, h4⟩ := hx j hj
      rw [if_pos f1, ew, if_pos f2, if_pos (Int.ofNat_lt.2 hlt), if_pos f4, rd_at _ _ hlt, rd_at m j hj, ex, if_pos h4]
      exact joinL_l0 hi ll lm sl lx hx d (j + 1) k hj2 hk2
theorem UlogJoin : diwanlaw9_UlogJoin.Pure := by
  intro a b n m ha1 ha2 ua hb1 hb2 ub un um
  refine ⟨4000, ?_⟩
  unfold diwanlaw9_UlogJoin.f
  rw [begunT]; simp only [Option.bind_some, if_true]
  obtain ⟨k, hk, hk0⟩ : ∃ k, 4000 = k + 1 ∧ 3999 ≤ k := ⟨3999, rfl, by omega⟩
  rw [hk]
  have out : diwanlaw9_UlogJoin.j0 (k + 1) a b n m true = some true := by simp [diwanlaw9_UlogJoin.j0]
  by_cases h1 : (a.length : Int) > 80
  · rw [if_pos h1]; exact out
  · rw [if_neg h1]
    by_cases h2 : (b.length : Int) > 80
    · simp only [h2, decide_true]; exact out
    · simp only [h2, decide_false]
      obtain ⟨l, c, g1, hl⟩ := log_ok (U.of ua) (by omega) 8 (by omega) (k := k) (by omega)
      obtain ⟨p, c', g2, hp⟩ := log_ok (U.of ub) (by omega) 4 (by omega) (k := k) (by omega)
      have hn := wf_u8 un
      have hm := wf_u8 um
      obtain ⟨n, rfl⟩ := Int.eq_ofNat_of_zero_le hn.1
      obtain ⟨m, rfl⟩ := Int.eq_ofNat_of_zero_le hm.1
      simp only [diwanlaw9_UlogJoin.j0, Bool.false_eq_true, if_false]
      simp only [diwanplay_Made.f, Option.bind_some]
      have g1' : diwanplay_Picks_Log.f k a 0 8 = some (l, c) := g1
      have g2' : diwanplay_Picks_Log.f k b 0 4 = some (p, c') := g2
      rw [g1', Option.bind_some, g2', Option.bind_some]
      dsimp only
      have e9 : wrap64 ((l.length : Int) + 1) = ((9 : Nat) : Int) := by rw [hl.len, wid (by omega)]; rfl
      have e5 : wrap64 ((p.length : Int) + 1) = ((5 : Nat) : Int) := by rw [hp.len, wid (by omega)]; rfl
      have en : wrap64 (n : Int) = (n : Int) := wid (by omega)
      have em : wrap64 (m : Int) = (m : Int) := wid (by omega)
      have t9 : Int.tmod (n : Int) ((9 : Nat) : Int) = ((n % 9 : Nat) : Int) := by simp [Int.tmod]
      have t5 : Int.tmod (m : Int) ((5 : Nat) : Int) = ((m % 5 : Nat) : Int) := by simp [Int.tmod]
      rw [e9, e5, en, em, t9, t5]
      clear e9 e5 en em t9 t5
      have ll : l.length ≤ 100 := by have := hl.len; omega
      have lp : p.length ≤ 100 := by have := hp.len; omega
      have hi : n % 9 ≤ l.length := by have := hl.len; omega
      generalize n % 9 = i at hi
      have hm5 : m % 5 ≤ p.length := by have := hp.len; omega
      generalize m % 5 = z at hm5
      have sl := hl.sm
      have sp := hp.sm
      have lx : (joinS l (i : Int) p).length ≤ 300 := Nat.le_trans (joinS_len l i p) (Nat.le_trans (Nat.add_le_add ll lp) (by decide))
      have sx : ∀ e ∈ joinS l (i : Int) p, Sm e := joinS_mem (fun e => Sm e) sl sp
      have hx : ∀ j (hj : j < p.length), ∃ h : i + j < (joinS l (i : Int) p).length, (joinS l (i : Int) p)[i + j].f0 = p[j].f0 := fun j hj => joinS_has hi hj
      have j1 : joinS (joinS l (i : Int) p) (i : Int) p = joinS l (i : Int) p := by
        have := joinAgain (l := l) (m := p) hi p.length
        rwa [List.take_length] at this
      have j2 := joinAgain (l := l) (m := p) hi z
      have e : joinS l (i : Int) p = l.take i ++ join0 (l.drop i) p := by
        unfold joinS
        rw [if_neg (by omega), Int.toNat_natCast]
      have hlen : (l.take i).length = i := by simp; omega
      have tk : (joinS l (i : Int) p).take i = l.take i := by rw [e, List.take_left' hlen]
      have hge : i + p.length ≤ (joinS l (i : Int) p).length := by
        rw [e, List.length_append, hlen]
        exact Nat.add_le_add_left (join0_has.joinLen (l.drop i) p) i
      clear e
      obtain ⟨q, hq, hpq⟩ : ∃ q, k = q + 1 ∧ p.length + 3100 ≤ q := ⟨k - 1, by omega, by omega⟩
      have kj : 3000 ≤ k := by omega
      have kr : 2000 ≤ k := by omega
      have l5 : (l.take i).length ≤ 1000 := by rw [hlen]; omega
      have l1 : l.length ≤ 1000 := by omega
      have l2 : p.length ≤ 1000 := by omega
      have n9 : ¬ ((9 : Nat) : Int) = 0 := by decide
      have n5 : ¬ ((5 : Nat) : Int) = 0 := by decide
      rw [if_neg n9, join_f kj l1 l2, Option.bind_some]
      generalize joinS l (i : Int) p = x at lx sx hx j1 j2 tk hge
      have l3 : x.length ≤ 1000 := Nat.le_trans lx (by decide)
      have ew : wrap64 ((i : Int) + (p.length : Int)) = ((i + p.length : Nat) : Int) := wadd i p.length (Nat.le_trans hge l3)
      have f3 : ¬ (x.length : Int) < ((i + p.length : Nat) : Int) := Int.not_lt.2 (Int.ofNat_le.2 hge)
      have f4 : (0 : Int) ≤ (i : Int) := Int.natCast_nonneg _
      have f5 : (i : Int) ≤ (x.length : Int) := Int.ofNat_le.2 (Nat.le_trans (Nat.le_add_right _ _) hge)
      have f6 : (i : Int) ≤ (l.length : Int) := Int.ofNat_le.2 hi
      have l4 : (p.take z).length ≤ 1000 := Nat.le_trans (List.length_take_le' _ _) l2
      have f1 : (0 : Int) ≤ (z : Int) := Int.natCast_nonneg _
      have f2 : (z : Int) ≤ (p.length : Int) := Int.ofNat_le.2 hm5
      rw [join_f kj l3 l2, Option.bind_some]
      rw [if_neg n5, if_pos f1, if_pos f2, Int.toNat_natCast, join_f kj l3 l4, Option.bind_some]
      rw [j1, j2]
      obtain ⟨r, a1, a2⟩ := same_f (a := x) (b := x) (k := k) kr l3 sx
      rw [a1, a2.2 rfl, Option.bind_some, if_pos rfl, Option.bind_some, if_pos rfl]
      rw [ew, if_neg f3, if_pos f4, if_pos f5, if_pos f6, Int.toNat_natCast, tk]
      obtain ⟨r, b1, b2⟩ := refSame_f (a := l.take i) (b := l.take i) (k := k) kr l5 (fun e he => sl e (List.mem_of_mem_take he))
      rw [b1, b2.2 rfl, Option.bind_some, Bool.not_true]
      clear a1 a2 b1 b2 j1 j2 tk g1 g2 g1' g2'
      rw [hq]
      have j0 : diwanlaw9_UlogJoin.j1 (q + 1) l p (i : Int) x false = diwanlaw9_UlogJoin.l0 q l p (i : Int) x 0 := by simp [diwanlaw9_UlogJoin.j1]
      rw [j0]
      exact joinL_l0 hi ll lp sl lx hx p.length 0 q (Nat.zero_add _) hpq
end Go.Proofs.Ytipeiombaempoaa.Pure
