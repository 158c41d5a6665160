/- Stores that may be, and stay so. -/
import Derived.Test.YthjpcfbfiaenaaaTStore3
import Derived.Test.YthjpcfbfiaenaaaTCh2
import Derived.Test.YthjpcfbfiaenaaaTPk1
namespace Go.Proofs.Ythjpcfbfiaenaaa.Told.ST
open Go Go.Proofs.Ythjpcfbfiaenaaa.Vam Go.Proofs.Ythjpcfbfiaenaaa.Told Go.Proofs.Ythjpcfbfiaenaaa.Told.CF Go.Proofs.Ythjpcfbfiaenaaa.Told.PK
set_option linter.unusedSimpArgs false
set_option linter.unusedVariables false
theorem may_mono : ∀ {l : List TVersion} {p q : Int}, q ≤ p → may p l = true → may q l = true
 | [], _, _, _, _ => rfl
 | v :: r, p, q, h, hm => by
  obtain ⟨h1, h2, h3, h4⟩ := may_cons hm
  simp only [may]
  rw [decide_eq_false (by omega), decide_eq_false (by omega), h4]
  cases hg : v.Gone
  ·rfl
  ·rw [h3 hg]; rfl
def VOk (v : TVersion) : Prop := (v.Val.size : Int) ≤ 16 ∧ (v.Gone = true → (v.Val.toList == ByteArray.empty.toList) = true)
theorem may_one {p : Int} {v : TVersion} (h : p < v.Pos) (hv : VOk v) : may p [v] = true := by
 simp only [may]
 rw [decide_eq_false (by omega), decide_eq_false (by have := hv.1; omega)]
 cases hg : v.Gone
 ·rfl
 ·rw [hv.2 hg]; rfl
theorem may_snoc : ∀ {l : List TVersion} {p : Int} {v : TVersion}, may p l = true → p < v.Pos → last l < v.Pos → VOk v → may p (l ++ [v]) = true
 | [], p, v, _, h, _, hv => may_one h hv
 | a :: r, p, v, hm, h, hl, hv => by
  obtain ⟨h1, h2, h3, h4⟩ := may_cons hm
  have hr : may a.Pos (r ++ [v]) = true := by
   rcases List.eq_nil_or_concat r with rfl | ⟨q, u, hu⟩
   ·exact may_one (by simpa [last] using hl) hv
   ·rw [List.concat_eq_append] at hu
    have e1 : last (a :: r) = u.Pos := by rw [hu, ← List.cons_append]; exact last_snoc _ _
    have e2 : last r = u.Pos := by rw [hu]; exact last_snoc _ _
    refine may_snoc h4 ?_ (by omega) hv
    have := (may_rise h4 (A := q) (B := []) (v := u) (by rw [hu])).1
    omega
  simp only [List.cons_append, may]
  rw [decide_eq_false (by omega), decide_eq_false (by omega), hr]
  cases hg : a.Gone
  ·rfl
  ·rw [h3 hg]; rfl
theorem addV_ok {l : List TVersion} {v : TVersion} (h : may 0 l = true) (hp : 1 ≤ v.Pos) (hv : VOk v) : may 0 (addV l v) = true ∧ addV l v ≠ [] ∧ last (addV l v) = (if v.Pos ≤ last l then last l else v.Pos) := by
 unfold addV
 by_cases g : v.Pos ≤ last l
 ·rw [decide_eq_true g, if_pos g]
  refine ⟨h, fun e => ?_, rfl⟩
  simp only [cond_true] at e
  subst e
  have : last [] = 0 := rfl
  omega
 ·rw [decide_eq_false g, if_neg g]
  exact ⟨may_snoc h (by omega) (by omega) hv, by simp, last_snoc _ _⟩
theorem tri_sfx (p : Int) : ∀ l : List TVersion, ∃ A, l = A ++ tri p l
 | [] => ⟨[], rfl⟩
 | v :: r => by
  simp only [tri]
  cases (atV p r).2
  ·exact ⟨[], rfl⟩
  ·obtain ⟨A, h⟩ := tri_sfx p r
   exact ⟨v :: A, by simp only [cond_true, List.cons_append]; rw [← h]⟩
theorem tri_ne (p : Int) : ∀ {l : List TVersion}, l ≠ [] → tri p l ≠ []
 | [], h => absurd rfl h
 | v :: r, _ => by
  simp only [tri]
  cases h : (atV p r).2
  ·simp
  ·exact tri_ne p (l := r) fun e => by subst e; cases h
theorem may_sfx : ∀ {A B : List TVersion} {p : Int}, may p (A ++ B) = true → may p B = true
 | [], _, _, h => h
 | a :: A, B, p, h => by
  obtain ⟨h1, _, _, h4⟩ := may_cons h
  exact may_mono (by omega) (may_sfx h4)
theorem last_sfx {A B : List TVersion} (h : B ≠ []) : last (A ++ B) = last B := by
 rcases List.eq_nil_or_concat B with rfl | ⟨q, u, hu⟩
 ·exact absurd rfl h
 ·rw [List.concat_eq_append] at hu
  rw [hu, ← List.append_assoc, last_snoc, last_snoc]
structure MI (N : Nat) (P : Int) (cs : List TChain) : Prop where
 srt : Srt cs
 sml : Sml N cs
 ok : ∀ c ∈ cs, c.Key ∈ six ∧ c.L ≠ [] ∧ may 0 c.L = true ∧ last c.L ≤ P
theorem put_mem {pos : Int} {w : TWrite} : ∀ {cs : List TChain} {c : TChain}, c ∈ put pos w cs → c ∈ cs ∨ (1 ≤ pos ∧ c = TChain.mk w.Key [TVersion.mk pos w.Val w.Gone]) ∨ ∃ c' ∈ cs, c = TChain.mk c'.Key (addV c'.L (TVersion.mk pos w.Val w.Gone))
 | [], c, h => by
  simp only [put] at h
  by_cases hp : pos < 1
  ·rw [decide_eq_true hp] at h; cases h
  ·rw [decide_eq_false hp] at h
   exact .inr (.inl ⟨by omega, List.mem_singleton.1 h⟩)
 | a :: r, c, h => by
  simp only [put] at h
  cases h1 : kl a.Key w.Key <;> rw [h1] at h
  ·cases h2 : (a.Key.toList == w.Key.toList) <;> rw [h2] at h
   ·by_cases hp : pos < 1
    ·rw [decide_eq_true hp] at h; exact .inl h
    ·rw [decide_eq_false hp] at h
     rcases List.mem_cons.1 h with g | g
     ·exact .inr (.inl ⟨by omega, g⟩)
     ·exact .inl g
   ·rcases List.mem_cons.1 h with g | g
    ·exact .inr (.inr ⟨a, by simp, g⟩)
    ·exact .inl (by simp [g])
  ·rcases List.mem_cons.1 h with g | g
   ·exact .inl (by simp [g])
   ·rcases put_mem g with q | q | ⟨c', q1, q2⟩
    ·exact .inl (by simp [q])
    ·exact .inr (.inl q)
    ·exact .inr (.inr ⟨c', by simp [q1], q2⟩)
theorem vals_ok {v : ByteArray} (h : v ∈ vals) : (v.size : Int) ≤ 16 := by
 simp only [vals, List.mem_cons, List.not_mem_nil, or_false] at h
 rcases h with rfl | rfl | rfl | rfl | rfl <;> decide
theorem wr_v {w : TWrite} (h : WrOk w) (pos : Int) : VOk (TVersion.mk pos w.Val w.Gone) := ⟨vals_ok h.1, fun g => by show (w.Val.toList == _) = true; rw [h.2 g]; exact beq_self_eq_true _⟩
theorem MI.put {N : Nat} {P Q pos : Int} {w : TWrite} {cs : List TChain} (h : MI N P cs) (hw : WrOk w) (hk : w.Key ∈ six) (hP : P ≤ Q) (hQ : pos ≤ Q) : MI (N + 1) Q (put pos w cs) := by
 have hp := put_sml (N := N) pos w (cs := cs)
 refine ⟨put_srt pos w h.srt, ⟨by have := hp.1; have := h.sml.1; omega, hp.2 h.sml.2⟩, fun c hc => ?_⟩
 rcases put_mem hc with g | ⟨g1, g2⟩ | ⟨c', g1, g2⟩
 ·obtain ⟨a1, a2, a3, a4⟩ := h.ok c g
  exact ⟨a1, a2, a3, by omega⟩
 ·subst g2
  exact ⟨hk, by simp, may_one (by show (0 : Int) < pos; omega) (wr_v hw pos), by show pos ≤ Q; omega⟩
 ·obtain ⟨a1, a2, a3, a4⟩ := h.ok c' g1
  subst g2
  by_cases hp1 : 1 ≤ pos
  ·obtain ⟨b1, b2, b3⟩ := addV_ok (v := TVersion.mk pos w.Val w.Gone) a3 hp1 (wr_v hw pos)
   refine ⟨a1, b2, b1, ?_⟩
   show last (addV c'.L _) ≤ Q
   rw [b3]
   split
   ·omega
   ·exact hQ
  ·have hl : (0 : Int) ≤ last c'.L := by
    rcases List.eq_nil_or_concat c'.L with e | ⟨q, u, hu⟩
    ·exact absurd e a2
    ·rw [List.concat_eq_append] at hu
     rw [hu, last_snoc]
     have := (may_rise a3 (A := q) (B := []) (v := u) hu).1
     omega
   have : addV c'.L (TVersion.mk pos w.Val w.Gone) = c'.L := by
    unfold addV
    rw [decide_eq_true (by show pos ≤ _; omega)]; rfl
   show c'.Key ∈ six ∧ addV c'.L _ ≠ [] ∧ may 0 (addV c'.L _) = true ∧ last (addV c'.L _) ≤ Q
   rw [this]
   exact ⟨a1, a2, a3, by omega⟩
theorem MI.puts {Q pos : Int} (hQ : pos ≤ Q) : ∀ {l : List TWrite} {N : Nat} {P : Int} {cs : List TChain}, MI N P cs → (∀ w ∈ l, WrOk w ∧ w.Key ∈ six) → P ≤ Q → MI (N + l.length) Q (puts pos l cs)
 | [], N, P, cs, h, _, hP => ⟨h.srt, h.sml, fun c hc => let ⟨a, b, d, e⟩ := h.ok c hc; ⟨a, b, d, by omega⟩⟩
 | w :: l, N, P, cs, h, hw, hP => by
  have h1 := h.put (pos := pos) (Q := Q) (hw w (by simp)).1 (hw w (by simp)).2 hP hQ
  have := MI.puts hQ (l := l) h1 (fun w h => hw w (by simp [h])) (Int.le_refl _)
  rw [show N + (w :: l).length = N + 1 + l.length by simp; omega]
  exact this
theorem MI.trs {N : Nat} {P : Int} (p : Int) {cs : List TChain} (h : MI N P cs) : MI N P (trs p cs) := by
 refine ⟨trs_srt p h.srt, trs_sml p h.sml, fun c hc => ?_⟩
 obtain ⟨c', h1, rfl⟩ := List.mem_map.1 hc
 obtain ⟨a1, a2, a3, a4⟩ := h.ok c' h1
 obtain ⟨A, hA⟩ := tri_sfx p c'.L
 have hne := tri_ne p a2
 refine ⟨a1, hne, ?_, ?_⟩
 ·rw [hA] at a3; exact may_sfx a3
 ·show last (tri p c'.L) ≤ P
  rw [hA, last_sfx hne] at a4; exact a4
end Go.Proofs.Ythjpcfbfiaenaaa.Told.ST
