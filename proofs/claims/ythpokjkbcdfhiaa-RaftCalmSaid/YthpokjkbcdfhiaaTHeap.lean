/- container/heap over a row of numbers, the greatest first: what Init, down and Pop come to. -/
import Derived.Test.YthpokjkbcdfhiaaFitRaftCalm
import Derived.Test.YthpokjkbcdfhiaaTMath
namespace Go.Proofs.Ythpokjkbcdfhiaa.Told.HP
open Go Go.Proofs.Ythpokjkbcdfhiaa.Vam Go.Proofs.Ythpokjkbcdfhiaa.Told
set_option linter.unusedSimpArgs false
set_option linter.unusedVariables false
def g (h : List Int) (k : Nat) : Int := h.getD k 0
theorem g_of {h : List Int} {k : Nat} (hk : k < h.length) : h[k]? = some (g h k) := by
 unfold g
 rw [List.getD_eq_getElem?_getD, List.getElem?_eq_getElem hk]; rfl
def Hp (f : Nat → Int) (n s x : Nat) : Prop := ∀ i c, s ≤ i → i ≠ x → (c = 2 * i + 1 ∨ c = 2 * i + 2) → c < n → f c ≤ f i
def Gp (f : Nat → Int) (n s x : Nat) : Prop := ∀ p c, s ≤ p → (x = 2 * p + 1 ∨ x = 2 * p + 2) → (c = 2 * x + 1 ∨ c = 2 * x + 2) → c < n → f c ≤ f p
def Hf (f : Nat → Int) (n s : Nat) : Prop := ∀ i c, s ≤ i → (c = 2 * i + 1 ∨ c = 2 * i + 2) → c < n → f c ≤ f i
def sw (h : List Int) (i j : Nat) : List Int := (h.set i (g h j)).set j (g h i)
theorem g_sw {h : List Int} {i j : Nat} (hi : i < h.length) (hj : j < h.length) (hij : i ≠ j) (k : Nat) : g (sw h i j) k = if k = i then g h j else if k = j then g h i else g h k := by
 unfold sw g
 simp only [List.getD_eq_getElem?_getD, List.getElem?_set, List.length_set]
 by_cases h1 : k = j
 ·subst h1
  rw [if_pos rfl, if_pos hj, if_neg (by omega), if_pos rfl]; rfl
 ·rw [if_neg (fun e => h1 e.symm), if_neg h1]
  by_cases h2 : k = i
  ·subst h2
   rw [if_pos rfl, if_pos hi, if_pos rfl]; rfl
  ·rw [if_neg (fun e => h2 e.symm), if_neg h2]
theorem sw_perm {h : List Int} {i j : Nat} (hi : i < h.length) (hj : j < h.length) : (sw h i j).Perm h := by
 have := List.set_set_perm hi hj
 unfold sw
 have e1 : g h j = h[j] := by have := g_of hj; rw [List.getElem?_eq_getElem hj] at this; exact (Option.some.inj this).symm
 have e2 : g h i = h[i] := by have := g_of hi; rw [List.getElem?_eq_getElem hi] at this; exact (Option.some.inj this).symm
 rw [e1, e2]; exact this
theorem sw_len (h : List Int) (i j : Nat) : (sw h i j).length = h.length := by simp [sw]
theorem step {f f' : Nat → Int} {n s i j o : Nat} (hs : s ≤ i) (hj : (j = 2 * i + 1 ∧ o = 2 * i + 2) ∨ (j = 2 * i + 2 ∧ o = 2 * i + 1)) (hjn : j < n) (hgt : f i < f j) (ho : o < n → f o ≤ f j) (hf : ∀ k, f' k = if k = i then f j else if k = j then f i else f k)
  (h : Hp f n s i) (hg : Gp f n s i) : Hp f' n s j ∧ Gp f' n s j := by
 have fi : f' i = f j := by rw [hf, if_pos rfl]
 have fj : f' j = f i := by rw [hf, if_neg (by omega), if_pos rfl]
 have fk : ∀ k, k ≠ i → k ≠ j → f' k = f k := fun k h1 h2 => by rw [hf, if_neg h1, if_neg h2]
 refine ⟨fun a c ha haj hc hcn => ?_, fun p c hp hpj hc hcn => ?_⟩
 ·by_cases hai : a = i
  ·subst hai
   by_cases hcj : c = j
   ·subst hcj; omega
   ·have hco : c = o := by omega
    rw [fk c (by omega) hcj, fi, hco]
    exact ho (by omega)
  ·rw [fk a hai haj]
   by_cases hci : c = i
   ·subst hci
    rw [fi]; exact hg a j ha hc (by omega) hjn
   ·rw [fk c hci (by omega)]
    exact h a c ha hai hc hcn
 ·have hpi : p = i := by omega
  subst hpi
  rw [fi, fk c (by omega) (by omega)]
  exact h j c (by omega) (by omega) hc hcn
theorem less_e {h : List Int} {a b : Nat} (ha : a < h.length) (hb : b < h.length) : ballot_heads_Less h (a : Int) (b : Int) = some (decide (g h a > g h b)) := by
 unfold ballot_heads_Less
 rw [ix_n (g_of ha), ix_n (g_of hb)]
theorem swap_e {h : List Int} {a b : Nat} (ha : a < h.length) (hb : b < h.length) : ballot_heads_Swap (a : Int) (b : Int) h = some (sw h a b) := by
 unfold ballot_heads_Swap
 simp only [Int.toNat_natCast]
 rw [ix_n (g_of hb), ix_n (g_of ha), ix_n (g_of ha), ix_n (x := (h.set a (g h b)).getD b 0) (by rw [List.getD_eq_getElem?_getD, List.getElem?_eq_getElem (by simpa using hb)]; rfl)]
 rfl
theorem down_lp (fu : Nat) (i0 : Int) (n s : Nat) : ∀ (m i : Nat) (h : List Int), n ≤ h.length → h.length ≤ 1000000 → i ≤ 1000000 → s ≤ i → n - i < m → 0 < m → Hp (g h) n s i → Gp (g h) n s i →
  ∃ j h', heap_down.lp3 fu i0 (n : Int) m (i : Int) h = some (j, h') ∧ h'.Perm h ∧ Hf (g h') n s ∧ (∀ k, n ≤ k → g h' k = g h k)
 | 0, i, h, _, _, _, _, _, hm, _, _ => by omega
 | m + 1, i, h, hn, hl, hi, hs, hm, _, hp, hg => by
  have e1 : w64 ((w64 (2 * (i : Int))) + 1) = ((2 * i + 1 : Nat) : Int) := by rw [w64_id (n := 2 * (i : Int)) (by omega) (by omega), w64_id (by omega) (by omega)]; omega
  have e2 : w64 (((2 * i + 1 : Nat) : Int) + 1) = ((2 * i + 2 : Nat) : Int) := by rw [w64_id (by omega) (by omega)]; omega
  rw [heap_down.lp3, e1, e2]
  by_cases h1 : 2 * i + 1 < n
  ·rw [br_f (decide_eq_false (by omega)), br_f (decide_eq_false (by omega)), jn_e]
   -- with the greater child
   have go : ∀ j o : Nat, ((j = 2 * i + 1 ∧ o = 2 * i + 2) ∨ (j = 2 * i + 2 ∧ o = 2 * i + 1)) → j < n → (o < n → g h o ≤ g h j) →
     ∃ j' h', (bd (ballot_heads_Less h (j : Int) (i : Int)) fun r13_1 =>
     br (!r13_1)
      (some ((i : Int), h))
      (bd (ballot_heads_Swap (i : Int) (j : Int) h) fun r15_1 =>
      heap_down.lp3 fu i0 (n : Int) m (j : Int) r15_1)) = some (j', h') ∧ h'.Perm h ∧ Hf (g h') n s ∧ (∀ k, n ≤ k → g h' k = g h k) := by
    intro j o hj hjn ho
    rw [bd_s (less_e (by omega) (by omega))]
    by_cases hgt : g h j > g h i
    ·rw [br_f (by simp [hgt]), bd_s (swap_e (by omega) (by omega))]
     have hsw := g_sw (h := h) (i := i) (j := j) (by omega) (by omega) (by omega)
     obtain ⟨a1, a2⟩ := step (f := g h) (f' := g (sw h i j)) hs hj hjn hgt ho hsw hp hg
     obtain ⟨j', h', b1, b2, b3, b4⟩ := down_lp fu i0 n s m j (sw h i j) (by rw [sw_len]; exact hn) (by rw [sw_len]; exact hl) (by omega) (by omega) (by omega) (by omega) a1 a2
     exact ⟨j', h', b1, b2.trans (sw_perm (by omega) (by omega)), b3, fun k hk => by rw [b4 k hk, hsw k, if_neg (by omega), if_neg (by omega)]⟩
    ·rw [br_t (by simp; omega)]
     refine ⟨_, _, rfl, List.Perm.refl _, fun a c ha hc hcn => ?_, fun _ _ => rfl⟩
     by_cases hai : a = i
     ·subst hai
      by_cases hcj : c = j
      ·subst hcj; omega
      ·have hco : c = o := by omega
       have := ho (by omega)
       rw [hco]; omega
     ·exact hp a c ha hai hc hcn
   by_cases h2 : 2 * i + 2 < n
   ·rw [br_t (decide_eq_true (by omega)), bd_s (less_e (by omega) (by omega))]
    by_cases h3 : g h (2 * i + 2) > g h (2 * i + 1)
    ·rw [br_t (decide_eq_true h3)]
     exact go (2 * i + 2) (2 * i + 1) (.inr ⟨rfl, rfl⟩) h2 fun _ => by omega
    ·rw [br_f (decide_eq_false h3)]
     exact go (2 * i + 1) (2 * i + 2) (.inl ⟨rfl, rfl⟩) h1 fun _ => by omega
   ·rw [br_f (decide_eq_false (by omega))]
    exact go (2 * i + 1) (2 * i + 2) (.inl ⟨rfl, rfl⟩) h1 fun h => by omega
  ·rw [br_t (decide_eq_true (by omega))]
   refine ⟨_, _, rfl, List.Perm.refl _, fun a c ha hc hcn => ?_, fun _ _ => rfl⟩
   by_cases hai : a = i
   ·omega
   ·exact hp a c ha hai hc hcn
theorem down_e {fu n s : Nat} {h : List Int} (hn : n ≤ h.length) (hl : h.length ≤ 1000000) (hs : s ≤ 1000000) (hf : h.length + 1 < fu) (hp : Hp (g h) n s s) :
  ∃ b h', heap_down fu (s : Int) (n : Int) h = some (b, h') ∧ h'.Perm h ∧ Hf (g h') n s ∧ (∀ k, n ≤ k → g h' k = g h k) := by
 obtain ⟨j, h', b1, b2, b3, b4⟩ := down_lp fu s n s fu s h hn hl hs (Nat.le_refl _) (by omega) (by omega) hp (fun p c hp' hx => by omega)
 unfold heap_down
 rw [bd_s b1]
 exact ⟨_, h', rfl, b2, b3, b4⟩
theorem init_lp (fu n : Nat) (hn : n ≤ 1000000) (hf : n + 1 < fu) : ∀ (s m : Nat) (h : List Int), h.length = n → s ≤ n → s < m → Hf (g h) n s → ∃ h', heap_Init.lp3 fu (n : Int) m ((s : Int) - 1) h = some h' ∧ h'.Perm h ∧ Hf (g h') n 0
 | 0, m, h, hl, hs, hm, hh => by
  obtain ⟨m, rfl⟩ : ∃ k, m = k + 1 := ⟨m - 1, by omega⟩
  rw [heap_Init.lp3, br_f (decide_eq_false (by omega))]
  exact ⟨h, rfl, List.Perm.refl _, hh⟩
 | s + 1, m, h, hl, hs, hm, hh => by
  obtain ⟨m, rfl⟩ : ∃ k, m = k + 1 := ⟨m - 1, by omega⟩
  rw [heap_Init.lp3, show (((s + 1 : Nat) : Int) - 1) = (s : Int) by omega, br_t (decide_eq_true (by omega))]
  obtain ⟨b, h', b1, b2, b3, b4⟩ := down_e (fu := fu) (n := n) (s := s) (h := h) (by omega) (by omega) (by omega) (by omega) fun i c hi hne hc hcn => hh i c (by omega) hc hcn
  rw [bd_s b1]
  dsimp only
  obtain ⟨h'', c1, c2, c3⟩ := init_lp fu n hn hf s m h' (by rw [b2.length_eq]; exact hl) (by omega) (by omega) b3
  rw [w64_id (by omega) (by omega), c1]
  exact ⟨h'', rfl, c2.trans b2, c3⟩
theorem init_e {fu : Nat} {h : List Int} (hl : h.length ≤ 1000000) (hf : h.length + 1 < fu) : ∃ h', heap_Init fu h = some h' ∧ h'.Perm h ∧ Hf (g h') h'.length 0 := by
 unfold heap_Init ballot_heads_Len
 rw [bd_s rfl]
 have e : w64 ((w64 (Int.tdiv (h.length : Int) 2)) - 1) = ((h.length / 2 : Nat) : Int) - 1 := by
  rw [Int.tdiv_eq_ediv_of_nonneg (by omega), w64_id (n := (h.length : Int) / 2) (by omega) (by omega), w64_id (by omega) (by omega)]; omega
 obtain ⟨h', c1, c2, c3⟩ := init_lp fu h.length hl hf (h.length / 2) fu h rfl (by omega) (by omega) fun i c hi hc hcn => by omega
 rw [e, bd_s c1]
 exact ⟨h', rfl, c2, by rw [c2.length_eq]; exact c3⟩
theorem root {f : Nat → Int} {n : Nat} (h : Hf f n 0) : ∀ k, k < n → f k ≤ f 0 := by
 intro k
 induction k using Nat.strongRecOn with
 | ind k ih =>
  intro hk
  rcases Nat.eq_zero_or_pos k with rfl | h0
  ·exact Int.le_refl _
  ·have h1 := ih ((k - 1) / 2) (by omega) (by omega)
   have h2 := h ((k - 1) / 2) k (by omega) (by omega) hk
   omega
theorem mem_g {h : List Int} {x : Int} (hx : x ∈ h) : ∃ k, k < h.length ∧ g h k = x := by
 obtain ⟨k, hk⟩ := List.getElem?_of_mem hx
 have hl := (List.getElem?_eq_some_iff.1 hk).1
 refine ⟨k, hl, ?_⟩
 rw [g_of hl] at hk
 exact Option.some.inj hk
theorem pop_e {fu : Nat} {h : List Int} (h0 : 0 < h.length) (hl : h.length ≤ 1000000) (hf : h.length + 1 < fu) (hh : Hf (g h) h.length 0) :
  ∃ x h', heap_Pop fu h = some (x, h') ∧ h.Perm (x :: h') ∧ Hf (g h') h'.length 0 ∧ ∀ y ∈ h', y ≤ x := by
 obtain ⟨n, hn⟩ : ∃ n, h.length = n + 1 := ⟨h.length - 1, by omega⟩
 unfold heap_Pop ballot_heads_Len
 rw [bd_s rfl]
 have e : w64 ((h.length : Int) - 1) = (n : Int) := by rw [w64_id (by omega) (by omega)]; omega
 have hs : ballot_heads_Swap 0 (n : Int) h = some (sw h 0 n) := swap_e (a := 0) (b := n) (by omega) (by omega)
 rw [e, bd_s hs]
 have hsl := sw_len h 0 n
 have hg : ∀ k, g (sw h 0 n) k = if k = 0 then g h n else if k = n then g h 0 else g h k := by
  by_cases hn0 : n = 0
  ·subst hn0
   intro k
   have : sw h 0 0 = h := by
    unfold sw
    rw [List.set_set]
    apply List.ext_getElem?
    intro k
    rw [List.getElem?_set]
    by_cases hk : 0 = k
    ·subst hk; rw [if_pos rfl, if_pos (by omega), g_of (by omega)]
    ·rw [if_neg hk]
   rw [this]
   split <;> simp_all
  ·exact g_sw (by omega) (by omega) (by omega)
 obtain ⟨b, h2, b1, b2, b3, b4⟩ := down_e (fu := fu) (n := n) (s := 0) (h := sw h 0 n) (by omega) (by omega) (by omega) (by omega) fun i c hi hne hc hcn => by
  rw [hg, hg, if_neg (by omega), if_neg (by omega), if_neg (by omega), if_neg (by omega)]
  exact hh i c (by omega) hc (by omega)
 have hl2 : h2.length = n + 1 := by rw [b2.length_eq, hsl, hn]
 have b1' : heap_down fu 0 (n : Int) (sw h 0 n) = some (b, h2) := b1
 rw [bd_s b1']
 dsimp only
 unfold ballot_heads_Pop
 have e2 : w64 ((h2.length : Int) - 1) = (n : Int) := by rw [w64_id (by omega) (by omega)]; omega
 have hlast : g h2 n = g h 0 := by
  rw [b4 n (Nat.le_refl _), hg]
  by_cases hn0 : n = 0
  ·rw [if_pos hn0, hn0]
  ·rw [if_neg hn0, if_pos rfl]
 rw [e2, ix_n (g_of (by omega)), gd_t (decide_eq_true (by omega)), bd_s rfl]
 dsimp only
 rw [Int.toNat_natCast, hlast]
 have hperm : h.Perm (g h 0 :: h2.take n) := by
  have hsplit : h2 = h2.take n ++ [g h2 n] := by
   apply List.ext_getElem?
   intro k
   rcases Nat.lt_or_ge k n with hk | hk
   ·rw [List.getElem?_append_left (by simp; omega), List.getElem?_take, if_pos hk]
   ·rw [List.getElem?_append_right (by simp; omega)]
    simp only [List.length_take]
    rw [Nat.min_eq_left (by omega)]
    by_cases hkn : k = n
    ·subst hkn; rw [g_of (by omega)]; simp
    ·rw [List.getElem?_eq_none (by omega), List.getElem?_eq_none (by simp; omega)]
  have p1 : h.Perm h2 := ((b2.trans (sw_perm (by omega) (by omega)))).symm
  rw [hsplit, hlast] at p1
  exact p1.trans (List.perm_append_comm)
 refine ⟨_, _, rfl, hperm, fun i c hi hc hcn => ?_, fun y hy => ?_⟩
 ·have ht : ∀ k, k < n → g (h2.take n) k = g h2 k := fun k hk => by
   unfold g
   rw [List.getD_eq_getElem?_getD, List.getD_eq_getElem?_getD, List.getElem?_take, if_pos hk]
  have hcn' : c < n := by simp at hcn; omega
  rw [ht c hcn', ht i (by omega)]
  exact b3 i c hi hc hcn'
 ·have hy' : y ∈ h := hperm.mem_iff.2 (by simp [hy])
  obtain ⟨k, hk, rfl⟩ := mem_g hy'
  exact root hh k hk
end Go.Proofs.Ythpokjkbcdfhiaa.Told.HP
