/- A store's functions: where a key is, what is written. -/
import Derived.Test.YtknkeabmjleoiaaTCh1
import Derived.Sort.Walk0
namespace Go.Proofs.Ytknkeabmjleoiaa.Told.ST
open Go Go.Proofs.Ytknkeabmjleoiaa.Vam Go.Proofs.Ytknkeabmjleoiaa.Told Go.Proofs.Ytknkeabmjleoiaa.Told.CF
set_option linter.unusedSimpArgs false
set_option linter.unusedVariables false
def kl (a b : ByteArray) : Bool := Op.bytesLess a.toList b.toList
theorem kl_iff {a b : ByteArray} : kl a b = true ↔ a.toList < b.toList := by
 unfold kl; rw [Go.Proofs.bytesLess_eq]; simp
theorem ba_ext {x y : ByteArray} (h : x.toList = y.toList) : x = y := by
 rw [ByteArray.toList_eq, ByteArray.toList_eq] at h
 cases x with | mk x =>
 cases y with | mk y =>
 congr
 exact Array.ext' h
theorem beq_ba {x y : ByteArray} : (x.toList == y.toList) = true ↔ x = y := by
 rw [beq_iff_eq]; exact ⟨ba_ext, fun h => by rw [h]⟩
theorem beq_baf {x y : ByteArray} : (x.toList == y.toList) = false ↔ x ≠ y := by
 rw [beq_eq_false_iff_ne]; exact ⟨fun h g => h (by rw [g]), fun h g => h (ba_ext g)⟩
theorem kl_irr (a : ByteArray) : kl a a = false := by
 cases h : kl a a with
 | false => rfl
 | true => exact absurd (kl_iff.1 h) (List.lt_irrefl _)
theorem kl_trans {a b c : ByteArray} (h : kl a b = true) (h' : kl b c = true) : kl a c = true := kl_iff.2 (List.lt_trans (kl_iff.1 h) (kl_iff.1 h'))
theorem kl_asymm {a b : ByteArray} (h : kl a b = true) : kl b a = false := by
 cases h' : kl b a with
 | false => rfl
 | true => have := kl_trans h h'; rw [kl_irr] at this; cases this
theorem kl_tri (a b : ByteArray) : kl a b = true ∨ a = b ∨ kl b a = true := by
 rcases Nat.lt_trichotomy 0 0 with h | h | h
 ·omega
 ·by_cases h1 : a.toList < b.toList
  ·exact .inl (kl_iff.2 h1)
  ·by_cases h2 : b.toList < a.toList
   ·exact .inr (.inr (kl_iff.2 h2))
   ·exact .inr (.inl (ba_ext (List.le_antisymm (List.not_lt.1 h2) (List.not_lt.1 h1))))
 ·omega
theorem kl_ne {a b : ByteArray} (h : kl a b = true) : a ≠ b := fun e => by subst e; rw [kl_irr] at h; cases h
theorem kl_of_not {a b : ByteArray} (h : kl a b = false) (hn : a ≠ b) : kl b a = true := by
 rcases kl_tri a b with g | g | g
 ·rw [g] at h; cases h
 ·exact absurd g hn
 ·exact g
theorem find1_e (c : TChain) (k : ByteArray) : store_keeper_find_1 c k = some (bif kl c.Key k then -1 else bif c.Key.toList == k.toList then 0 else 1) := by
 unfold store_keeper_find_1
 show br (kl c.Key k) _ (br (!(kl c.Key k || _)) _ _) = _
 cases h : kl c.Key k
 ·rw [br_f rfl]
  cases h' : (c.Key.toList == k.toList)
  ·rw [br_t (by rfl)]; rfl
  ·rw [br_f (by rfl)]; rfl
 ·rw [br_t rfl]; rfl
theorem half {i j : Nat} (h : i + j ≤ 4611686018427387904) : w64 (vshr .u64 (IntKind.u64.wrap (w64 ((i : Int) + (j : Int)))) 1) = (((i + j) / 2 : Nat) : Int) := by
 rw [w64_id (n := (i : Int) + j) (by omega) (by omega)]
 have e1 : IntKind.u64.wrap ((i : Int) + (j : Int)) = ((i + j : Nat) : Int) := by
  simp [IntKind.wrap, IntKind.min, IntKind.max, IntKind.signed, IntKind.bits]; omega
 rw [e1]
 have e2 : vshr .u64 ((i + j : Nat) : Int) 1 = (((i + j) / 2 : Nat) : Int) := by
  show ((i + j : Nat) : Int).fdiv (2 ^ (min (1 : Int).toNat IntKind.u64.bits)) = _
  have : min (1 : Int).toNat IntKind.u64.bits = 1 := rfl
  rw [this, Int.fdiv_eq_ediv_of_nonneg _ (by decide)]
  omega
 rw [e2, w64_id (by omega) (by omega)]
theorem bs (fu : Nat) (A B : List TChain) (t : ByteArray) (L : Int) (hA : ∀ v ∈ A, kl v.Key t = true) (hB : ∀ v ∈ B, kl v.Key t = false) (hl : (A ++ B).length ≤ 1000000) : ∀ (n lo hi : Nat), lo ≤ A.length → A.length ≤ hi → hi ≤ (A ++ B).length → hi - lo < n →
  slices_BinarySearchFunc_api_Chain_string.lp4 fu (A ++ B) t L n (lo : Int) (hi : Int) = some (A.length : Int)
 | 0, lo, hi, h1, h2, h3, hn => by omega
 | n + 1, lo, hi, h1, h2, h3, hn => by
  rw [slices_BinarySearchFunc_api_Chain_string.lp4]
  by_cases h : lo < hi
  ·rw [br_t (decide_eq_true (by omega)), half (by omega)]
   have hh : (lo + hi) / 2 < (A ++ B).length := by omega
   have hx : (A ++ B)[(lo + hi) / 2]? = some (A ++ B)[(lo + hi) / 2] := List.getElem?_eq_getElem hh
   rw [ix_n hx, bd_s (find1_e _ _)]
   by_cases hA' : (lo + hi) / 2 < A.length
   ·have hs : kl (A ++ B)[(lo + hi) / 2].Key t = true := by
     rw [List.getElem_append_left hA']; exact hA _ (List.getElem_mem _)
    rw [hs, br_t (by rfl), w64_id (by omega) (by omega), show (((lo + hi) / 2 : Nat) : Int) + 1 = (((lo + hi) / 2 + 1 : Nat) : Int) by omega]
    exact bs fu A B t L hA hB hl n ((lo + hi) / 2 + 1) hi (by omega) h2 h3 (by omega)
   ·have hs : kl (A ++ B)[(lo + hi) / 2].Key t = false := by
     rw [List.getElem_append_right (by omega)]; exact hB _ (List.getElem_mem _)
    rw [hs, br_f (by cases ((A ++ B)[(lo + hi) / 2].Key.toList == t.toList) <;> rfl)]
    exact bs fu A B t L hA hB hl n lo ((lo + hi) / 2) h1 (by omega) (by omega) (by omega)
  ·rw [br_f (decide_eq_false (by omega))]
   congr 2; omega
def hit (B : List TChain) (t : ByteArray) : Bool := match B with
 | [] => false
 | v :: _ => v.Key.toList == t.toList
theorem find_e {fu : Nat} {A B : List TChain} {M : Int} {t : ByteArray} (hA : ∀ v ∈ A, kl v.Key t = true) (hB : ∀ v ∈ B, kl v.Key t = false) (hl : (A ++ B).length ≤ 1000000) (hf : (A ++ B).length < fu) : store_keeper_find fu (TStore.mk (A ++ B) M) t = some ((A.length : Int), hit B t) := by
 unfold store_keeper_find slices_BinarySearchFunc_api_Chain_string
 have := bs fu A B t ((A ++ B).length : Int) hA hB hl fu 0 (A ++ B).length (Nat.zero_le _) (by simp) (Nat.le_refl _) (by omega)
 simp only [Int.natCast_zero] at this
 dsimp only
 rw [bd_s this]
 cases B with
 | nil => rw [br_f (decide_eq_false (by simp))]; rfl
 | cons v R =>
  rw [br_t (lt_mid A R v), ix_mid, bd_s (find1_e _ _)]
  have hv := hB v (by simp)
  rw [hv]
  simp only [hit, cond_false]
  cases (v.Key.toList == t.toList) <;> rfl
def Srt (l : List TChain) : Prop := l.Pairwise fun a b => kl a.Key b.Key = true
theorem srt_cut : ∀ (l : List TChain) (t : ByteArray), Srt l → ∃ A B, l = A ++ B ∧ (∀ v ∈ A, kl v.Key t = true) ∧ (∀ v ∈ B, kl v.Key t = false) ∧ ∀ v R, B = v :: R → ∀ u ∈ R, kl t u.Key = true
 | [], t, _ => ⟨[], [], rfl, by simp, by simp, fun _ _ e => by cases e⟩
 | a :: l, t, h => by
  obtain ⟨h1, h2⟩ := List.pairwise_cons.1 h
  cases ha : kl a.Key t with
  | true =>
   obtain ⟨A, B, e, g1, g2, g3⟩ := srt_cut l t h2
   refine ⟨a :: A, B, by rw [e]; rfl, fun v hv => ?_, g2, g3⟩
   rcases List.mem_cons.1 hv with rfl | hv
   ·exact ha
   ·exact g1 v hv
  | false =>
   have hta : t = a.Key ∨ kl t a.Key = true := by
    rcases kl_tri a.Key t with g | g | g
    ·rw [g] at ha; cases ha
    ·exact .inl g.symm
    ·exact .inr g
   have hr : ∀ u ∈ l, kl t u.Key = true := fun u hu => by
    rcases hta with rfl | g
    ·exact h1 u hu
    ·exact kl_trans g (h1 u hu)
   refine ⟨[], a :: l, rfl, by simp, fun v hv => ?_, fun v R e u hu => ?_⟩
   ·rcases List.mem_cons.1 hv with rfl | hv
    ·exact ha
    ·exact kl_asymm (hr v hv)
   ·cases e; exact hr u hu
theorem cloneC_e {l : List TChain} (h : l.length ≤ 1000000) : slices_Clone_api_Chain l = some l := by
 unfold slices_Clone_api_Chain
 rw [gd_t (decide_eq_true (by simp; omega))]
theorem set_mid {α : Type} (A R : List α) (v u : α) : (A ++ v :: R).set A.length u = A ++ u :: R := by
 rw [List.set_append_right _ _ (Nat.le_refl _)]; simp
theorem insert_e {A B : List TChain} {u : TChain} (h : (A ++ B).length ≤ 1000000) : slices_Insert_api_Chain (A ++ B) (A.length : Int) [u] = some (A ++ u :: B) := by
 unfold slices_Insert_api_Chain
 have hl : (A ++ B).length = A.length + B.length := by simp
 cases B with
 | nil =>
  have hA : A.length ≤ 1000000 := by simpa using h
  rw [br_f (decide_eq_false (by simp))]
  unfold slices_Insert_api_Chain_part
  rw [gd_t (decide_eq_true (by simp)), br_f (by simp), br_t (by simp), gd_t (decide_eq_true (by simp; omega))]
  simp
 | cons v R =>
  rw [br_t (decide_eq_true (by simp at h ⊢; omega)), Int.toNat_natCast, List.take_left' rfl, List.drop_left' rfl]
  simp
def Sml (N : Nat) (l : List TChain) : Prop := l.length ≤ N ∧ ∀ c ∈ l, c.L.length ≤ N
theorem twin_lp (fu : Nat) (z : TStore) (M : Int) : ∀ (r q : List TChain) (n : Nat), (q ++ r).length ≤ 1000000 → (∀ c ∈ r, c.L.length ≤ 1000000) → r.length < n →
  store_twin.lp4 fu ((q ++ r).length : Int) z n (q.length : Int) (TStore.mk (q ++ r) M) = some (TStore.mk (q ++ r) M)
 | [], q, n, hl, hc, hn => by
  obtain ⟨n, rfl⟩ : ∃ m, n = m + 1 := ⟨n - 1, by omega⟩
  simp only [List.append_nil]
  rw [store_twin.lp4, br_f (nlt_end _)]
 | v :: r, q, n, hl, hc, hn => by
  obtain ⟨n, rfl⟩ : ∃ m, n = m + 1 := ⟨n - 1, by omega⟩
  have e : q ++ v :: r = (q ++ [v]) ++ r := by simp
  have ih := twin_lp fu z M r (q ++ [v]) n (by rw [← e]; exact hl) (fun c h => hc c (by simp [h])) (by simp at hn; omega)
  rw [← e] at ih
  rw [store_twin.lp4, br_t (lt_mid _ _ _)]
  dsimp only
  rw [ix_mid, bd_s (clone_e (l := v.L) (by have := hc v (by simp); omega)), ix_mid, Int.toNat_natCast, set_mid, w64_len q r v (by omega)]
  exact ih
theorem twin_e {fu : Nat} {s : TStore} (h : Sml 1000000 s.Chains) (hf : s.Chains.length < fu) : store_twin fu s = some s := by
 unfold store_twin
 rw [bd_s (cloneC_e h.1)]
 have := twin_lp fu (TStore.mk [] 0) s.Mark s.Chains [] fu h.1 h.2 hf
 simp only [List.nil_append, List.length_nil, Int.natCast_zero] at this
 rw [bd_s this]
def put (pos : Int) (w : TWrite) : List TChain → List TChain
 | [] => bif decide (pos < 1) then [] else [TChain.mk w.Key [TVersion.mk pos w.Val w.Gone]]
 | c :: r => bif kl c.Key w.Key then c :: put pos w r else bif c.Key.toList == w.Key.toList then TChain.mk c.Key (addV c.L (TVersion.mk pos w.Val w.Gone)) :: r else bif decide (pos < 1) then c :: r else TChain.mk w.Key [TVersion.mk pos w.Val w.Gone] :: c :: r
def puts (pos : Int) (l : List TWrite) (cs : List TChain) : List TChain := l.foldl (fun cs w => put pos w cs) cs
theorem put_app (pos : Int) (w : TWrite) : ∀ (A B : List TChain), (∀ v ∈ A, kl v.Key w.Key = true) → put pos w (A ++ B) = A ++ put pos w B
 | [], B, _ => rfl
 | a :: A, B, h => by
  simp only [List.cons_append, put]
  rw [h a (by simp)]
  simp only [cond_true]
  rw [put_app pos w A B fun v hv => h v (by simp [hv])]
theorem put_new {pos : Int} {w : TWrite} {B : List TChain} (hB : ∀ v ∈ B, kl v.Key w.Key = false) (hh : hit B w.Key = false) : put pos w B = bif decide (pos < 1) then B else TChain.mk w.Key [TVersion.mk pos w.Val w.Gone] :: B := by
 cases B with
 | nil => rfl
 | cons v R =>
  simp only [put]
  rw [hB v (by simp), show (v.Key.toList == w.Key.toList) = false from hh]
  rfl
theorem put_old {pos : Int} {w : TWrite} {v : TChain} {R : List TChain} (hB : kl v.Key w.Key = false) (hh : hit (v :: R) w.Key = true) : put pos w (v :: R) = TChain.mk v.Key (addV v.L (TVersion.mk pos w.Val w.Gone)) :: R := by
 simp only [put]
 rw [hB, show (v.Key.toList == w.Key.toList) = true from hh]
 rfl
theorem add_nil (v : TVersion) : addV [] v = bif decide (v.Pos < 1) then [] else [v] := by
 unfold addV
 have : last [] = 0 := rfl
 rw [this]
 by_cases h : v.Pos < 1
 ·rw [decide_eq_true h, decide_eq_true (by omega)]; rfl
 ·rw [decide_eq_false h, decide_eq_false (by omega)]; rfl
theorem addV_len (l : List TVersion) (v : TVersion) : (addV l v).length ≤ l.length + 1 := by
 unfold addV
 cases decide (v.Pos ≤ last l) <;> simp
theorem put_key {pos : Int} {w : TWrite} : ∀ {cs : List TChain} {c : TChain}, c ∈ put pos w cs → c.Key = w.Key ∨ ∃ c' ∈ cs, c'.Key = c.Key
 | [], c, h => by
  simp only [put] at h
  cases hp : decide (pos < 1) <;> rw [hp] at h
  ·simp at h; subst h; exact .inl rfl
  ·cases h
 | a :: r, c, h => by
  simp only [put] at h
  cases h1 : kl a.Key w.Key <;> rw [h1] at h
  ·cases h2 : (a.Key.toList == w.Key.toList) <;> rw [h2] at h
   ·cases hp : decide (pos < 1) <;> rw [hp] at h
    ·rcases List.mem_cons.1 h with rfl | h
     ·exact .inl rfl
     ·exact .inr ⟨c, h, rfl⟩
    ·exact .inr ⟨c, h, rfl⟩
   ·rcases List.mem_cons.1 h with rfl | h
    ·exact .inr ⟨a, by simp, rfl⟩
    ·exact .inr ⟨c, by simp [h], rfl⟩
  ·rcases List.mem_cons.1 h with rfl | h
   ·exact .inr ⟨c, by simp, rfl⟩
   ·rcases put_key h with g | ⟨c', g1, g2⟩
    ·exact .inl g
    ·exact .inr ⟨c', by simp [g1], g2⟩
theorem put_srt (pos : Int) (w : TWrite) : ∀ {cs : List TChain}, Srt cs → Srt (put pos w cs)
 | [], _ => by
  simp only [put]
  cases decide (pos < 1) <;> simp [Srt]
 | a :: r, h => by
  obtain ⟨h1, h2⟩ := List.pairwise_cons.1 h
  simp only [put]
  cases g1 : kl a.Key w.Key
  ·cases g2 : (a.Key.toList == w.Key.toList)
   ·cases decide (pos < 1)
    ·have hwa : kl w.Key a.Key = true := kl_of_not g1 (beq_baf.1 g2)
     refine List.pairwise_cons.2 ⟨fun c hc => ?_, h⟩
     rcases List.mem_cons.1 hc with rfl | hc
     ·exact hwa
     ·exact kl_trans hwa (h1 c hc)
    ·exact h
   ·exact List.pairwise_cons.2 ⟨h1, h2⟩
  ·refine List.pairwise_cons.2 ⟨fun c hc => ?_, put_srt pos w h2⟩
   rcases put_key hc with g | ⟨c', q1, q2⟩
   ·rw [g]; exact g1
   ·rw [← q2]; exact h1 c' q1
theorem put_sml {N : Nat} (pos : Int) (w : TWrite) : ∀ {cs : List TChain}, (put pos w cs).length ≤ cs.length + 1 ∧ ((∀ c ∈ cs, c.L.length ≤ N) → ∀ c ∈ put pos w cs, c.L.length ≤ N + 1)
 | [] => by
  simp only [put]
  cases decide (pos < 1)
  ·simp
  ·simp
 | a :: r => by
  obtain ⟨ih1, ih2⟩ := put_sml (N := N) pos w (cs := r)
  simp only [put]
  cases kl a.Key w.Key
  ·cases (a.Key.toList == w.Key.toList)
   ·cases decide (pos < 1)
    ·refine ⟨by simp, fun h c hc => ?_⟩
     rcases List.mem_cons.1 hc with rfl | hc
     ·simp
     ·have := h c hc; omega
    ·exact ⟨by simp, fun h c hc => by have := h c hc; omega⟩
   ·refine ⟨by simp, fun h c hc => ?_⟩
    rcases List.mem_cons.1 hc with rfl | hc
    ·have := addV_len a.L (TVersion.mk pos w.Val w.Gone)
     have := h a (by simp)
     simp only; omega
    ·have := h c (by simp [hc]); omega
  ·refine ⟨by simpa using ih1, fun h c hc => ?_⟩
   rcases List.mem_cons.1 hc with rfl | hc
   ·have := h c (by simp); omega
   ·exact ih2 (fun c hc => h c (by simp [hc])) c hc
theorem write_lp (fu : Nat) (pos : Int) (z : TStore) (M : Int) (hp : -9223372036854775808 ≤ pos) : ∀ (r q : List TWrite) (cs : List TChain) (n N : Nat), (q ++ r).length ≤ 1000 → Srt cs → Sml N cs → N + r.length ≤ 900000 → N + r.length < fu → r.length < n →
  store_Write.lp4 fu pos (q ++ r) ((q ++ r).length : Int) z n (q.length : Int) (TStore.mk cs M) = some (TStore.mk (puts pos r cs) M)
 | [], q, cs, n, N, hl, hs, hm, hN, hf, hn => by
  obtain ⟨n, rfl⟩ : ∃ m, n = m + 1 := ⟨n - 1, by omega⟩
  simp only [List.append_nil]
  rw [store_Write.lp4, br_f (nlt_end _)]; rfl
 | w :: r, q, cs, n, N, hl, hs, hm, hN, hf, hn => by
  obtain ⟨n, rfl⟩ : ∃ m, n = m + 1 := ⟨n - 1, by omega⟩
  have e : q ++ w :: r = (q ++ [w]) ++ r := by simp
  have hps := put_sml (N := N) pos w (cs := cs)
  have ih := write_lp fu pos z M hp r (q ++ [w]) (put pos w cs) n (N + 1) (by rw [← e]; exact hl) (put_srt pos w hs) ⟨by have := hps.1; have := hm.1; omega, hps.2 hm.2⟩ (by simp at hN; omega) (by simp at hf; omega) (by simp at hn; omega)
  rw [← e] at ih
  have hg : puts pos (w :: r) cs = puts pos r (put pos w cs) := rfl
  obtain ⟨out, ho⟩ : ∃ o, o = puts pos r (put pos w cs) := ⟨_, rfl⟩
  rw [hg, ← ho]
  rw [← ho] at ih
  clear ho hg
  obtain ⟨A, B, hAB, hA, hB, _⟩ := srt_cut cs w.Key hs
  have hlen : (A ++ B).length ≤ 900000 := by rw [← hAB]; have := hm.1; simp at hN; omega
  have hlf : (A ++ B).length < fu := by rw [← hAB]; have := hm.1; simp at hf; omega
  have hput : put pos w cs = A ++ put pos w B := by rw [hAB, put_app pos w A B hA]
  rw [store_Write.lp4, br_t (lt_mid _ _ _), ix_mid, hAB, bd_s (find_e hA hB (by omega) hlf)]
  dsimp only
  rw [w64_len q r w (by omega)]
  cases hh : hit B w.Key
  ·rw [br_t (by rfl), jn_e, bd_s (add_e (l := []) _ (by simp)).1, add_nil]
   rw [put_new hB hh] at hput
   dsimp only
   by_cases hp1 : pos < 1
   ·rw [decide_eq_true hp1] at hput ⊢
    simp only [cond_true] at hput ⊢
    rw [br_f (by simp), ← hput]; exact ih
   ·rw [decide_eq_false hp1] at hput ⊢
    simp only [cond_false] at hput ⊢
    rw [br_t (by simp), bd_s (insert_e (by omega)), ← hput]; exact ih
  ·rw [br_f (by rfl)]
   cases B with
   | nil => cases hh
   | cons v R =>
    rw [put_old (hB v (by simp)) hh] at hput
    have hvl : v.L.length < 4294967296 := by
     have := hm.2 v (by rw [hAB]; simp)
     simp at hN; omega
    rw [ix_mid, bd_s (add_e (l := v.L) _ hvl).1, ix_mid, Int.toNat_natCast, set_mid, ← hput]; exact ih
theorem write_e {fu N : Nat} {s : TStore} {pos : Int} {l : List TWrite} (hp : -9223372036854775808 ≤ pos) (hs : Srt s.Chains) (hm : Sml N s.Chains) (hl : l.length ≤ 1000) (hN : N + l.length ≤ 900000) (hf : N + l.length < fu) : store_Write fu s pos l = some (TStore.mk (puts pos l s.Chains) s.Mark) := by
 unfold store_Write
 rw [bd_s (twin_e ⟨by have := hm.1; omega, fun c hc => by have := hm.2 c hc; omega⟩ (by have := hm.1; omega))]
 have := write_lp fu pos (TStore.mk [] 0) s.Mark hp l [] s.Chains fu N hl hs hm hN hf (by omega)
 simp only [List.nil_append, List.length_nil, Int.natCast_zero] at this
 rw [bd_s this]
end Go.Proofs.Ytknkeabmjleoiaa.Told.ST
