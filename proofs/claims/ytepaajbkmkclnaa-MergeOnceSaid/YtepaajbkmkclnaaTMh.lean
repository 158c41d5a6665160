/- container/heap over batches of logs, the first one first: what Push, down and Pop come to. -/
import Derived.Test.YtepaajbkmkclnaaFitMergeOnce
import Derived.Test.YtepaajbkmkclnaaTMath
namespace Go.Proofs.Ytepaajbkmkclnaa.Told.MH
open Go Go.Proofs.Ytepaajbkmkclnaa.Vam Go.Proofs.Ytepaajbkmkclnaa.Told
set_option linter.unusedSimpArgs false
set_option linter.unusedVariables false
def e (h : List THead) (k : Nat) : THead := h.getD k (THead.mk 0 0)
theorem e_of {h : List THead} {k : Nat} (hk : k < h.length) : h[k]? = some (e h k) := by
 unfold e
 rw [List.getD_eq_getElem?_getD, List.getElem?_eq_getElem hk]; rfl
def ky (x : THead) : Int := -(x.batch * 8 + x.part)
def g (h : List THead) (k : Nat) : Int := ky (e h k)
def Gd (h : List THead) : Prop := ∀ x ∈ h, 0 ≤ x.part ∧ x.part < 8 ∧ 0 ≤ x.batch ∧ x.batch ≤ 1000000
theorem Gd.perm {h h' : List THead} (k : Gd h) (p : h'.Perm h) : Gd h' := fun x hx => k x (p.mem_iff.1 hx)
theorem Gd.at {h : List THead} (k : Gd h) {i : Nat} (hi : i < h.length) : 0 ≤ (e h i).part ∧ (e h i).part < 8 ∧ 0 ≤ (e h i).batch ∧ (e h i).batch ≤ 1000000 := k _ (List.mem_of_getElem? (e_of hi))
def Hp (f : Nat → Int) (n s x : Nat) : Prop := ∀ i c, s ≤ i → i ≠ x → (c = 2 * i + 1 ∨ c = 2 * i + 2) → c < n → f c ≤ f i
def Gp (f : Nat → Int) (n s x : Nat) : Prop := ∀ p c, s ≤ p → (x = 2 * p + 1 ∨ x = 2 * p + 2) → (c = 2 * x + 1 ∨ c = 2 * x + 2) → c < n → f c ≤ f p
def Hf (f : Nat → Int) (n s : Nat) : Prop := ∀ i c, s ≤ i → (c = 2 * i + 1 ∨ c = 2 * i + 2) → c < n → f c ≤ f i
def sw (h : List THead) (i j : Nat) : List THead := (h.set i (e h j)).set j (e h i)
theorem e_sw {h : List THead} {i j : Nat} (hi : i < h.length) (hj : j < h.length) (hij : i ≠ j) (k : Nat) : e (sw h i j) k = if k = i then e h j else if k = j then e h i else e h k := by
 unfold sw e
 simp only [List.getD_eq_getElem?_getD, List.getElem?_set, List.length_set]
 by_cases h1 : k = j
 ·subst h1
  rw [if_pos rfl, if_pos hj, if_neg (by omega), if_pos rfl]; rfl
 ·rw [if_neg (fun e => h1 e.symm), if_neg h1]
  by_cases h2 : k = i
  ·subst h2
   rw [if_pos rfl, if_pos hi, if_pos rfl]; rfl
  ·rw [if_neg (fun e => h2 e.symm), if_neg h2]
theorem g_sw {h : List THead} {i j : Nat} (hi : i < h.length) (hj : j < h.length) (hij : i ≠ j) (k : Nat) : g (sw h i j) k = if k = i then g h j else if k = j then g h i else g h k := by
 unfold g
 rw [e_sw hi hj hij]
 split
 ·rfl
 split <;> rfl
theorem sw_perm {h : List THead} {i j : Nat} (hi : i < h.length) (hj : j < h.length) : (sw h i j).Perm h := by
 have := List.set_set_perm hi hj
 unfold sw
 have e1 : e h j = h[j] := by have := e_of hj; rw [List.getElem?_eq_getElem hj] at this; exact (Option.some.inj this).symm
 have e2 : e h i = h[i] := by have := e_of hi; rw [List.getElem?_eq_getElem hi] at this; exact (Option.some.inj this).symm
 rw [e1, e2]; exact this
theorem sw_len (h : List THead) (i j : Nat) : (sw h i j).length = h.length := by simp [sw]
theorem step {f f' : Nat → Int} {n s i j o : Nat} (hs : s ≤ i) (hj : (j = 2 * i + 1 ∧ o = 2 * i + 2) ∨ (j = 2 * i + 2 ∧ o = 2 * i + 1)) (hjn : j < n) (hgt : f i < f j) (ho : o < n → f o ≤ f j) (hf : ∀ k, f' k = if k = i then f j else if k = j then f i else f k)
  (h : Hp f n s i) (hg : Gp f n s i) : Hp f' n s j ∧ Gp f' n s j := by
 have fi : f' i = f j := by rw [hf, if_pos rfl]
 have fj : f' j = f i := by rw [hf, if_neg (by omega), if_pos rfl]
 have fk : ∀ k, k ≠ i → k ≠ j → f' k = f k := fun k h1 h2 => by rw [hf, if_neg h1, if_neg h2]
 refine ⟨fun a c ha haj hc hcn => ?_, fun p c hp hpj hc hcn => ?_⟩
 ·by_cases hai : a = i
  ·subst hai
   by_cases hcj : c = j
   ·subst hcj; omega
   ·have hco : c = o := by omega
    rw [fk c (by omega) hcj, fi, hco]
    exact ho (by omega)
  ·rw [fk a hai haj]
   by_cases hci : c = i
   ·subst hci
    rw [fi]; exact hg a j ha hc (by omega) hjn
   ·rw [fk c hci (by omega)]
    exact h a c ha hai hc hcn
 ·have hpi : p = i := by omega
  subst hpi
  rw [fi, fk c (by omega) (by omega)]
  exact h j c (by omega) (by omega) hc hcn
theorem nan_e (x : Int) : cmp_isNaN_int x = some false := by
 unfold cmp_isNaN_int
 simp
theorem cmp_e (x y : Int) : cmp_Compare_int x y = some (if x < y then -1 else if x > y then 1 else 0) := by
 unfold cmp_Compare_int
 rw [bd_s (nan_e x), bd_s (nan_e y), br_f rfl, br_f rfl]
 by_cases h : x < y
 ·rw [br_t (decide_eq_true h), if_pos h]
 ·rw [br_f (decide_eq_false h), if_neg h]
  by_cases k : x > y
  ·rw [br_t (decide_eq_true k), if_pos k]
  ·rw [br_f (decide_eq_false k), if_neg k]
theorem or_e {fu : Nat} (hf : 3 ≤ fu) (a b : Int) : cmp_Or_int fu [a, b] = some (if a ≠ 0 then a else b) := by
 obtain ⟨fu, rfl⟩ : ∃ k, fu = k + 3 := ⟨fu - 3, by omega⟩
 unfold cmp_Or_int
 by_cases ha : a = 0
 ·subst ha
  by_cases hb : b = 0
  ·subst hb; rfl
  ·have h2 : cmp_Or_int.lp4 (fu + 3) 0 [0, b] (([0, b] : List Int).length : Int) (fu + 3) 0 = some (.inr b) := by
    rw [cmp_Or_int.lp4, br_t (by rfl), ix_s (x := 0) (by decide) rfl, br_f (by rfl)]
    show cmp_Or_int.lp4 (fu + 3) 0 [0, b] 2 (fu + 2) 1 = _
    rw [cmp_Or_int.lp4, br_t (by rfl), ix_s (x := b) (by decide) rfl, br_t (by simpa using hb)]
   rw [bd_s h2, if_neg (by decide)]
 ·have h2 : cmp_Or_int.lp4 (fu + 3) 0 [a, b] (([a, b] : List Int).length : Int) (fu + 3) 0 = some (.inr a) := by
   rw [cmp_Or_int.lp4, br_t (by rfl), ix_s (x := a) (by decide) rfl, br_t (by simpa using ha)]
  rw [bd_s h2, if_pos ha]
theorem less_e {fu : Nat} {h : List THead} {a b : Nat} (hf : 3 ≤ fu) (hG : Gd h) (ha : a < h.length) (hb : b < h.length) : merge_heads_Less fu h (a : Int) (b : Int) = some (decide (g h a > g h b)) := by
 have ga := hG.at ha
 have gb := hG.at hb
 unfold merge_heads_Less
 rw [ix_n (e_of ha), ix_n (e_of hb), bd_s (cmp_e _ _), ix_n (e_of ha), ix_n (e_of hb), bd_s (cmp_e _ _), bd_s (or_e hf _ _)]
 unfold g ky
 congr 1
 rw [decide_eq_decide]
 by_cases h1 : (e h a).batch < (e h b).batch
 ·rw [if_pos h1, if_pos (by decide)]; omega
 ·rw [if_neg h1]
  by_cases h2 : (e h a).batch > (e h b).batch
  ·rw [if_pos h2, if_pos (by decide)]; omega
  ·rw [if_neg h2, if_neg (by decide)]
   split
   ·omega
   split <;> omega
theorem swap_e {h : List THead} {a b : Nat} (ha : a < h.length) (hb : b < h.length) : merge_heads_Swap (a : Int) (b : Int) h = some (sw h a b) := by
 unfold merge_heads_Swap
 simp only [Int.toNat_natCast]
 rw [ix_n (e_of hb), ix_n (e_of ha), ix_n (e_of ha), ix_n (x := (h.set a (e h b)).getD b (THead.mk 0 0)) (by rw [List.getD_eq_getElem?_getD, List.getElem?_eq_getElem (by simpa using hb)]; rfl)]
 rfl
theorem down_lp (fu : Nat) (hf : 3 ≤ fu) (i0 : Int) (n s : Nat) : ∀ (m i : Nat) (h : List THead), Gd h → n ≤ h.length → h.length ≤ 1000000 → i ≤ 1000000 → s ≤ i → n - i < m → 0 < m → Hp (g h) n s i → Gp (g h) n s i →
  ∃ j h', heap_down.lp3 fu i0 (n : Int) m (i : Int) h = some (j, h') ∧ h'.Perm h ∧ Hf (g h') n s ∧ (∀ k, n ≤ k → e h' k = e h k)
 | 0, i, h, _, _, _, _, _, _, hm, _, _ => by omega
 | m + 1, i, h, hG, hn, hl, hi, hs, hm, _, hp, hg => by
  have e1 : w64 ((w64 (2 * (i : Int))) + 1) = ((2 * i + 1 : Nat) : Int) := by rw [w64_id (n := 2 * (i : Int)) (by omega) (by omega), w64_id (by omega) (by omega)]; omega
  have e2 : w64 (((2 * i + 1 : Nat) : Int) + 1) = ((2 * i + 2 : Nat) : Int) := by rw [w64_id (by omega) (by omega)]; omega
  rw [heap_down.lp3, e1, e2]
  by_cases h1 : 2 * i + 1 < n
  ·rw [br_f (decide_eq_false (by omega)), br_f (decide_eq_false (by omega)), jn_e]
   -- with the greater child
   have go : ∀ j o : Nat, ((j = 2 * i + 1 ∧ o = 2 * i + 2) ∨ (j = 2 * i + 2 ∧ o = 2 * i + 1)) → j < n → (o < n → g h o ≤ g h j) →
     ∃ j' h', (bd (merge_heads_Less fu h (j : Int) (i : Int)) fun r13_1 =>
     br (!r13_1)
      (some ((i : Int), h))
      (bd (merge_heads_Swap (i : Int) (j : Int) h) fun r15_1 =>
      heap_down.lp3 fu i0 (n : Int) m (j : Int) r15_1)) = some (j', h') ∧ h'.Perm h ∧ Hf (g h') n s ∧ (∀ k, n ≤ k → e h' k = e h k) := by
    intro j o hj hjn ho
    rw [bd_s (less_e hf hG (by omega) (by omega))]
    by_cases hgt : g h j > g h i
    ·rw [br_f (by simp [hgt]), bd_s (swap_e (by omega) (by omega))]
     have hsw := g_sw (h := h) (i := i) (j := j) (by omega) (by omega) (by omega)
     obtain ⟨a1, a2⟩ := step (f := g h) (f' := g (sw h i j)) hs hj hjn hgt ho hsw hp hg
     obtain ⟨j', h', b1, b2, b3, b4⟩ := down_lp fu hf i0 n s m j (sw h i j) (hG.perm (sw_perm (by omega) (by omega))) (by rw [sw_len]; exact hn) (by rw [sw_len]; exact hl) (by omega) (by omega) (by omega) (by omega) a1 a2
     exact ⟨j', h', b1, b2.trans (sw_perm (by omega) (by omega)), b3, fun k hk => by rw [b4 k hk, e_sw (by omega) (by omega) (by omega), if_neg (by omega), if_neg (by omega)]⟩
    ·rw [br_t (by simp; omega)]
     refine ⟨_, _, rfl, List.Perm.refl _, fun a c ha hc hcn => ?_, fun _ _ => rfl⟩
     by_cases hai : a = i
     ·subst hai
      by_cases hcj : c = j
      ·subst hcj; omega
      ·have hco : c = o := by omega
       have := ho (by omega)
       rw [hco]; omega
     ·exact hp a c ha hai hc hcn
   by_cases h2 : 2 * i + 2 < n
   ·rw [br_t (decide_eq_true (by omega)), bd_s (less_e hf hG (by omega) (by omega))]
    by_cases h3 : g h (2 * i + 2) > g h (2 * i + 1)
    ·rw [br_t (decide_eq_true h3)]
     exact go (2 * i + 2) (2 * i + 1) (.inr ⟨rfl, rfl⟩) h2 fun _ => by omega
    ·rw [br_f (decide_eq_false h3)]
     exact go (2 * i + 1) (2 * i + 2) (.inl ⟨rfl, rfl⟩) h1 fun _ => by omega
   ·rw [br_f (decide_eq_false (by omega))]
    exact go (2 * i + 1) (2 * i + 2) (.inl ⟨rfl, rfl⟩) h1 fun h => by omega
  ·rw [br_t (decide_eq_true (by omega))]
   refine ⟨_, _, rfl, List.Perm.refl _, fun a c ha hc hcn => ?_, fun _ _ => rfl⟩
   by_cases hai : a = i
   ·omega
   ·exact hp a c ha hai hc hcn
theorem down_e {fu n s : Nat} {h : List THead} (hG : Gd h) (hf3 : 3 ≤ fu) (hn : n ≤ h.length) (hl : h.length ≤ 1000000) (hs : s ≤ 1000000) (hf : h.length + 1 < fu) (hp : Hp (g h) n s s) :
  ∃ b h', heap_down fu (s : Int) (n : Int) h = some (b, h') ∧ h'.Perm h ∧ Hf (g h') n s ∧ (∀ k, n ≤ k → e h' k = e h k) := by
 obtain ⟨j, h', b1, b2, b3, b4⟩ := down_lp fu hf3 s n s fu s h hG hn hl hs (Nat.le_refl _) (by omega) (by omega) hp (fun p c hp' hx => by omega)
 unfold heap_down
 rw [bd_s b1]
 exact ⟨_, h', rfl, b2, b3, b4⟩
theorem root {f : Nat → Int} {n : Nat} (h : Hf f n 0) : ∀ k, k < n → f k ≤ f 0 := by
 intro k
 induction k using Nat.strongRecOn with
 | ind k ih =>
  intro hk
  rcases Nat.eq_zero_or_pos k with rfl | h0
  ·exact Int.le_refl _
  ·have h1 := ih ((k - 1) / 2) (by omega) (by omega)
   have h2 := h ((k - 1) / 2) k (by omega) (by omega) hk
   omega
theorem mem_g {h : List THead} {x : THead} (hx : x ∈ h) : ∃ k, k < h.length ∧ e h k = x := by
 obtain ⟨k, hk⟩ := List.getElem?_of_mem hx
 have hl := (List.getElem?_eq_some_iff.1 hk).1
 refine ⟨k, hl, ?_⟩
 rw [e_of hl] at hk
 exact Option.some.inj hk
theorem pop_e {fu : Nat} {h : List THead} (hG : Gd h) (hf3 : 3 ≤ fu) (h0 : 0 < h.length) (hl : h.length ≤ 1000000) (hf : h.length + 1 < fu) (hh : Hf (g h) h.length 0) :
  ∃ x h', heap_Pop fu h = some (x, h') ∧ h.Perm (x :: h') ∧ Hf (g h') h'.length 0 ∧ ∀ y ∈ h', ky y ≤ ky x := by
 obtain ⟨n, hn⟩ : ∃ n, h.length = n + 1 := ⟨h.length - 1, by omega⟩
 unfold heap_Pop merge_heads_Len
 rw [bd_s rfl]
 have ew : w64 ((h.length : Int) - 1) = (n : Int) := by rw [w64_id (by omega) (by omega)]; omega
 have hs : merge_heads_Swap 0 (n : Int) h = some (sw h 0 n) := swap_e (a := 0) (b := n) (by omega) (by omega)
 rw [ew, bd_s hs]
 have hsl := sw_len h 0 n
 have he : ∀ k, e (sw h 0 n) k = if k = 0 then e h n else if k = n then e h 0 else e h k := by
  by_cases hn0 : n = 0
  ·subst hn0
   intro k
   have : sw h 0 0 = h := by
    unfold sw
    rw [List.set_set]
    apply List.ext_getElem?
    intro k
    rw [List.getElem?_set]
    by_cases hk : 0 = k
    ·subst hk; rw [if_pos rfl, if_pos (by omega), e_of (by omega)]
    ·rw [if_neg hk]
   rw [this]
   split <;> simp_all
  ·exact e_sw (by omega) (by omega) (by omega)
 have hg : ∀ k, g (sw h 0 n) k = if k = 0 then g h n else if k = n then g h 0 else g h k := fun k => by
  unfold g
  rw [he]
  split
  ·rfl
  split <;> rfl
 obtain ⟨b, h2, b1, b2, b3, b4⟩ := down_e (fu := fu) (n := n) (s := 0) (h := sw h 0 n) (hG.perm (sw_perm (by omega) (by omega))) hf3 (by omega) (by omega) (by omega) (by omega) fun i c hi hne hc hcn => by
  rw [hg, hg, if_neg (by omega), if_neg (by omega), if_neg (by omega), if_neg (by omega)]
  exact hh i c (by omega) hc (by omega)
 have hl2 : h2.length = n + 1 := by rw [b2.length_eq, hsl, hn]
 have b1' : heap_down fu 0 (n : Int) (sw h 0 n) = some (b, h2) := b1
 rw [bd_s b1']
 dsimp only
 unfold merge_heads_Pop
 have e2 : w64 ((h2.length : Int) - 1) = (n : Int) := by rw [w64_id (by omega) (by omega)]; omega
 have hlast : e h2 n = e h 0 := by
  rw [b4 n (Nat.le_refl _), he]
  by_cases hn0 : n = 0
  ·rw [if_pos hn0, hn0]
  ·rw [if_neg hn0, if_pos rfl]
 rw [e2, ix_n (e_of (by omega)), gd_t (decide_eq_true (by omega)), bd_s rfl]
 dsimp only
 rw [Int.toNat_natCast, hlast]
 have hperm : h.Perm (e h 0 :: h2.take n) := by
  have hsplit : h2 = h2.take n ++ [e h2 n] := by
   apply List.ext_getElem?
   intro k
   rcases Nat.lt_or_ge k n with hk | hk
   ·rw [List.getElem?_append_left (by simp; omega), List.getElem?_take, if_pos hk]
   ·rw [List.getElem?_append_right (by simp; omega)]
    simp only [List.length_take]
    rw [Nat.min_eq_left (by omega)]
    by_cases hkn : k = n
    ·subst hkn; rw [e_of (by omega)]; simp
    ·rw [List.getElem?_eq_none (by omega), List.getElem?_eq_none (by simp; omega)]
  have p1 : h.Perm h2 := ((b2.trans (sw_perm (by omega) (by omega)))).symm
  rw [hsplit, hlast] at p1
  exact p1.trans (List.perm_append_comm)
 refine ⟨_, _, rfl, hperm, fun i c hi hc hcn => ?_, fun y hy => ?_⟩
 ·have ht : ∀ k, k < n → g (h2.take n) k = g h2 k := fun k hk => by
   unfold g e
   rw [List.getD_eq_getElem?_getD, List.getD_eq_getElem?_getD, List.getElem?_take, if_pos hk]
  have hcn' : c < n := by simp at hcn; omega
  rw [ht c hcn', ht i (by omega)]
  exact b3 i c hi hc hcn'
 ·have hy' : y ∈ h := hperm.mem_iff.2 (by simp [hy])
  obtain ⟨k, hk, rfl⟩ := mem_g hy'
  exact root hh k hk
def Hu (f : Nat → Int) (n x : Nat) : Prop := ∀ i c, (c = 2 * i + 1 ∨ c = 2 * i + 2) → c < n → c ≠ x → f c ≤ f i
def Gu (f : Nat → Int) (n x : Nat) : Prop := ∀ c p, (c = 2 * x + 1 ∨ c = 2 * x + 2) → c < n → (x = 2 * p + 1 ∨ x = 2 * p + 2) → f c ≤ f p
theorem ustep {f f' : Nat → Int} {n i j : Nat} (hj : j = 2 * i + 1 ∨ j = 2 * i + 2) (hjn : j < n) (hgt : f i < f j) (hf : ∀ k, f' k = if k = i then f j else if k = j then f i else f k) (h : Hu f n j) (hg : Gu f n j) : Hu f' n i ∧ Gu f' n i := by
 have fi : f' i = f j := by rw [hf, if_pos rfl]
 have fj : f' j = f i := by rw [hf, if_neg (by omega), if_pos rfl]
 have fk : ∀ k, k ≠ i → k ≠ j → f' k = f k := fun k h1 h2 => by rw [hf, if_neg h1, if_neg h2]
 refine ⟨fun a c hc hcn hci => ?_, fun c p hc hcn hp => ?_⟩
 ·by_cases hcj : c = j
  ·have : a = i := by omega
   subst this; subst hcj
   omega
  ·rw [fk c hci hcj]
   by_cases hai : a = i
   ·subst hai
    have := h a c hc hcn hcj
    omega
   ·by_cases haj : a = j
    ·subst haj
     rw [fj]
     exact hg c i hc hcn hj
    ·rw [fk a hai haj]
     exact h a c hc hcn hcj
 ·rw [fk p (by omega) (by omega)]
  have hpi := h p i hp (by omega) (by omega)
  by_cases hcj : c = j
  ·subst hcj; rw [fj]; exact hpi
  ·rw [fk c (by omega) hcj]
   have := h i c hc hcn hcj
   omega
theorem up_lp (fu : Nat) (hf : 3 ≤ fu) : ∀ (m j : Nat) (h : List THead), Gd h → h.length ≤ 1000000 → j < h.length → j < m → Hu (g h) h.length j → Gu (g h) h.length j →
  ∃ h', heap_up.lp1 fu m (j : Int) h = some h' ∧ h'.Perm h ∧ Hf (g h') h'.length 0
 | 0, j, h, _, _, _, hm, _, _ => by omega
 | m + 1, j, h, hG, hl, hj, hm, hu, hgu => by
  have e1 : w64 (Int.tdiv (w64 ((j : Int) - 1)) 2) = (((j - 1) / 2 : Nat) : Int) := by
   rw [w64_id (n := (j : Int) - 1) (by omega) (by omega)]
   rcases Nat.eq_zero_or_pos j with h0 | h0
   ·subst h0; decide
   ·rw [Int.tdiv_eq_ediv_of_nonneg (by omega), w64_id (by omega) (by omega)]; omega
  rw [heap_up.lp1, e1]
  by_cases c0 : j = 0
  ·subst c0
   rw [br_t (by simp)]
   exact ⟨h, rfl, List.Perm.refl _, fun i c _ hc hcn => hu i c hc hcn (by omega)⟩
  ·rw [br_f (by simp; omega), bd_s (less_e hf hG hj (by omega))]
   by_cases hgt : g h j > g h ((j - 1) / 2)
   ·have hij : (j - 1) / 2 ≠ j := by omega
    have hsl := sw_len h ((j - 1) / 2) j
    obtain ⟨a1, a2⟩ := ustep (f := g h) (f' := g (sw h ((j - 1) / 2) j)) (i := (j - 1) / 2) (j := j) (n := h.length) (by omega) hj hgt (g_sw (by omega) hj hij) hu hgu
    rw [br_f (by simp [hgt]), bd_s (swap_e (by omega) hj)]
    obtain ⟨h', b1, b2, b3⟩ := up_lp fu hf m ((j - 1) / 2) (sw h ((j - 1) / 2) j) (hG.perm (sw_perm (by omega) hj)) (by omega) (by omega) (by omega) (by rw [hsl]; exact a1) (by rw [hsl]; exact a2)
    exact ⟨h', b1, b2.trans (sw_perm (by omega) hj), b3⟩
   ·rw [br_t (by simp; omega)]
    refine ⟨h, rfl, List.Perm.refl _, fun i c _ hc hcn => ?_⟩
    by_cases hcj : c = j
    ·subst hcj
     have : (c - 1) / 2 = i := by omega
     rw [this] at hgt
     omega
    ·exact hu i c hc hcn hcj
theorem push_e {fu : Nat} {h : List THead} {v : THead} (hG : Gd (h ++ [v])) (hf3 : 3 ≤ fu) (hl : h.length ≤ 100000) (hf : h.length + 1 < fu) (hh : Hf (g h) h.length 0) :
  ∃ h', heap_Push fu v h = some h' ∧ h'.Perm (h ++ [v]) ∧ Hf (g h') h'.length 0 := by
 have ht : ∀ k, k < h.length → g (h ++ [v]) k = g h k := fun k hk => by
  unfold g e
  rw [List.getD_eq_getElem?_getD, List.getD_eq_getElem?_getD, List.getElem?_append_left hk]
 have hlen : (h ++ [v]).length = h.length + 1 := by simp
 unfold heap_Push merge_heads_Push merge_heads_Len
 rw [gd_t (decide_eq_true (by simp; omega)), bd_s rfl, bd_s rfl]
 have ew : w64 (((h ++ [v]).length : Int) - 1) = (h.length : Int) := by rw [hlen, w64_id (by omega) (by omega)]; omega
 rw [ew]
 unfold heap_up
 obtain ⟨h', b1, b2, b3⟩ := up_lp fu hf3 fu h.length (h ++ [v]) hG (by omega) (by omega) (by omega) (fun i c hc hcn hne => by rw [ht i (by omega), ht c (by omega)]; exact hh i c (Nat.zero_le _) hc (by omega)) (fun c p hc hcn hp => by omega)
 rw [bd_s b1, bd_s rfl]
 exact ⟨h', rfl, b2, b3⟩
end Go.Proofs.Ytepaajbkmkclnaa.Told.MH
