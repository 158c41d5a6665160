/- A run of a group: what is known of terms, votes, leaders and logs (ghosts), and that who leads later has what was decided. -/
import Derived.Test.YthpokjkbcdfhiaaTRf8
namespace Go.Proofs.Ythpokjkbcdfhiaa.Told.RA
open Go Go.Proofs.Ythpokjkbcdfhiaa.Vam Go.Proofs.Ythpokjkbcdfhiaa.Told Go.Proofs.Ythpokjkbcdfhiaa.Told.HP
set_option linter.unusedSimpArgs false
set_option linter.unusedVariables false
theorem pre_get {α : Type} {p q : List α} (h : p <+: q) {k : Nat} {e : α} (hk : p[k]? = some e) : q[k]? = some e := by
 obtain ⟨t, rfl⟩ := h
 rw [List.getElem?_append_left (List.getElem?_eq_some_iff.1 hk).1]; exact hk
theorem pre_of_le {α : Type} {p q r : List α} (h : p <+: r) (k : q <+: r) (hl : p.length ≤ q.length) : p <+: q := List.prefix_of_prefix_length_le h k hl
theorem take_pre_take {α : Type} {l : List α} {a b : Nat} (h : a ≤ b) : l.take a <+: l.take b := List.take_prefix_take_left h
theorem pre_take {α : Type} {p q : List α} (h : p <+: q) (k : Nat) : p.take k <+: q.take k := by
 obtain ⟨t, rfl⟩ := h
 rcases Nat.le_total k p.length with g | g
 ·rw [List.take_append_of_le_length g]; exact List.prefix_refl _
 ·rw [List.take_of_length_le g, List.take_append, List.take_of_length_le g]; exact List.prefix_append _ _
theorem take_of_pre {α : Type} {p q : List α} (h : p <+: q) : p = q.take p.length := List.prefix_iff_eq_take.1 h
def cnt (n : Nat) (p : Nat → Bool) : Nat := (List.range n).countP p
theorem cnt_mono {n : Nat} {p q : Nat → Bool} (h : ∀ v, v < n → p v = true → q v = true) : cnt n p ≤ cnt n q :=
 List.countP_mono_left fun x hx => h x (List.mem_range.1 hx)
theorem countP_both {p q : Nat → Bool} : ∀ l : List Nat, l.countP p + l.countP q ≤ l.length + l.countP (fun x => p x && q x)
 | [] => by simp
 | a :: l => by
  have := countP_both (p := p) (q := q) l
  simp only [List.countP_cons, List.length_cons]
  cases p a <;> cases q a <;> simp <;> omega
theorem meet {n : Nat} {p q : Nat → Bool} (hp : n / 2 + 1 ≤ cnt n p) (hq : n / 2 + 1 ≤ cnt n q) : ∃ v, v < n ∧ p v = true ∧ q v = true := by
 have h := countP_both (p := p) (q := q) (List.range n)
 rw [List.length_range] at h
 unfold cnt at hp hq
 have : 0 < (List.range n).countP (fun x => p x && q x) := by omega
 obtain ⟨v, hv, hv'⟩ := List.countP_pos_iff.1 this
 simp only [Bool.and_eq_true] at hv'
 exact ⟨v, List.mem_range.1 hv, hv'⟩
theorem cnt_list {α : Type} {f : α → Bool} {p : Nat → Bool} : ∀ (l : List α) (o : Nat), (∀ i x, l[i]? = some x → f x = true → p (o + i) = true) → l.countP f ≤ (List.range' o l.length).countP p
 | [], _, _ => by simp
 | a :: l, o, h => by
  have ih := cnt_list l (o + 1) fun i x hx hf => by
   have := h (i + 1) x (by simpa using hx) hf
   rw [show o + 1 + i = o + (i + 1) by omega]; exact this
  have h0 := h 0 a rfl
  simp only [List.length_cons, List.range'_succ, List.countP_cons]
  cases hf : f a
  ·simp; omega
  ·have := h0 hf
   simp at this
   rw [this]; simp; omega
theorem cnt_of {α : Type} {f : α → Bool} {p : Nat → Bool} {l : List α} {n : Nat} (hl : l.length = n) (h : ∀ (i : Nat) (x : α), l[i]? = some x → f x = true → p i = true) : l.countP f ≤ cnt n p := by
 have := cnt_list (f := f) (p := p) l 0 (fun i x hx hf => by rw [Nat.zero_add]; exact h i x hx hf)
 rw [← List.range_eq_range', hl] at this
 exact this
structure Ldr where
 who : Nat
 B : List TEntry
 LL : List TEntry
 Q : Nat → Bool
structure Gh where
 V : Int → Nat → Option (Nat × List TEntry)
 S : Int → Nat → List TEntry
 L : Int → Option Ldr
 A : Int → Nat → Nat
def Gh.ll (G : Gh) (t : Int) : List TEntry := match G.L t with
 | some x => x.LL
 | none => []
theorem Gh.ll_of {G : Gh} {t : Int} {x : Ldr} (h : G.L t = some x) : G.ll t = x.LL := by unfold Gh.ll; rw [h]
theorem Gh.ll_no {G : Gh} {t : Int} (h : G.L t = none) : G.ll t = [] := by unfold Gh.ll; rw [h]
def lastT (l : List TEntry) : Int := match l.getLast? with
 | some e => e.Term
 | none => 0
def Up (Y X : List TEntry) : Prop := lastT X < lastT Y ∨ (lastT X = lastT Y ∧ X.length ≤ Y.length)
def LogP (G : Gh) (X : List TEntry) : Prop := ∀ (k : Nat) (e : TEntry), X[k]? = some e → ∃ x, G.L e.Term = some x ∧ X.take (k + 1) <+: x.LL
def Keeps (G : Gh) (v : Nat) (Y : List TEntry) (t hi : Int) : Prop := ∀ k, k ≤ G.A t v → (G.ll t).take k <+: Y ∨ ∃ t2 x, t < t2 ∧ t2 ≤ hi ∧ G.L t2 = some x ∧ ¬ (G.ll t).take k <+: x.B
def Chosen (n : Nat) (G : Gh) (t : Int) (k : Nat) : Prop := ∃ x, G.L t = some x ∧ 1 ≤ k ∧ k ≤ x.LL.length ∧ (∃ e, x.LL[k - 1]? = some e ∧ e.Term = t) ∧ n / 2 + 1 ≤ cnt n (fun v => decide (k ≤ G.A t v))
def Dec (n : Nat) (G : Gh) (hi : Int) (l : List TEntry) : Prop := l = [] ∨ ∃ t k, Chosen n G t k ∧ t ≤ hi ∧ l <+: (G.ll t).take k
structure WV (n : Nat) (T : Nat → Int) (G : Gh) (t : Int) (v : Nat) (c : Nat) (X : List TEntry) : Prop where
 hv : v < n
 hc : c < n
 tv : t ≤ T v
 tc : t ≤ T c
 t1 : 1 ≤ t
 up : Up (G.S t c) X
 log : LogP G X
 keep : ∀ u, u < t → Keeps G v X u t
structure WL (n : Nat) (T : Nat → Int) (G : Gh) (t : Int) (x : Ldr) : Prop where
 who : x.who < n
 tw : t ≤ T x.who
 t1 : 1 ≤ t
 base : x.B = G.S t x.who
 pre : x.B <+: x.LL
 own : ∀ (k : Nat) (e : TEntry), x.LL[k]? = some e → x.B.length ≤ k → e.Term = t
 log : LogP G x.LL
 rise : Rise 1 t x.LL
 smt : ∀ e ∈ x.LL, Smt e
 len : x.LL.length ≤ 200
 maj : n / 2 + 1 ≤ cnt n x.Q
 votes : ∀ v, v < n → x.Q v = true → ∃ X, G.V t v = some (x.who, X) ∧ ∀ u, u < t → Keeps G v X u (t - 1)
structure WG (n : Nat) (T : Nat → Int) (G : Gh) : Prop where
 v : ∀ t v c X, G.V t v = some (c, X) → WV n T G t v c X
 s : ∀ t c, LogP G (G.S t c) ∧ ∀ e ∈ G.S t c, e.Term < t
 l : ∀ t x, G.L t = some x → WL n T G t x
 a : ∀ t v, 0 < G.A t v → v < n ∧ t ≤ T v ∧ ∃ x, G.L t = some x ∧ G.A t v ≤ x.LL.length
theorem LogP.nil {G : Gh} : LogP G [] := fun k e h => by simp at h
theorem LogP.take {G : Gh} {X : List TEntry} (h : LogP G X) (m : Nat) : LogP G (X.take m) := fun k e hk => by
 have hkm : k < m := by
  have := (List.getElem?_eq_some_iff.1 hk).1
  simp at this; omega
 rw [List.getElem?_take_of_lt hkm] at hk
 obtain ⟨x, h1, h2⟩ := h k e hk
 exact ⟨x, h1, by rw [List.take_take, Nat.min_eq_left (by omega)]; exact h2⟩
theorem lastT_of {l : List TEntry} {e : TEntry} (h : l[l.length - 1]? = some e) : lastT l = e.Term := by
 unfold lastT
 rw [List.getLast?_eq_getElem?, h]
theorem lastT_nil {l : List TEntry} (h : l.length = 0) : lastT l = 0 := by
 rw [List.length_eq_zero_iff.1 h]; rfl
theorem last_ex {l : List TEntry} (h : 0 < l.length) : ∃ e, l[l.length - 1]? = some e ∧ lastT l = e.Term := by
 have : l[l.length - 1]? = some l[l.length - 1] := List.getElem?_eq_getElem (by omega)
 exact ⟨_, this, lastT_of this⟩
theorem LogP.last {G : Gh} {X : List TEntry} (h : LogP G X) (hl : 0 < X.length) : ∃ x, G.L (lastT X) = some x ∧ X <+: x.LL := by
 obtain ⟨e, he, ht⟩ := last_ex hl
 obtain ⟨x, h1, h2⟩ := h _ e he
 rw [ht]
 rw [show X.length - 1 + 1 = X.length by omega, List.take_length] at h2
 exact ⟨x, h1, h2⟩
theorem Rise.get : ∀ {l : List TEntry} {a t : Int}, Rise a t l → ∀ {i j : Nat} {x y : TEntry}, i ≤ j → l[i]? = some x → l[j]? = some y → x.Term ≤ y.Term
 | [], _, _, _, i, j, x, y, _, h, _ => by simp at h
 | e :: l, a, t, h, 0, j, x, y, _, hx, hy => by
  simp at hx; subst hx
  cases j with
  | zero => simp at hy; subst hy; exact Int.le_refl _
  | succ j => exact (h.2.2.all y (List.mem_of_getElem? (by simpa using hy))).1
 | e :: l, a, t, h, i + 1, j, x, y, hij, hx, hy => by
  cases j with
  | zero => omega
  | succ j => exact Rise.get h.2.2 (Nat.le_of_succ_le_succ hij) (by simpa using hx) (by simpa using hy)
section
variable {n : Nat} {T : Nat → Int} {G : Gh} (W : WG n T G)
include W
theorem WG.rise {X : List TEntry} (h : LogP G X) {i j : Nat} {x y : TEntry} (hij : i ≤ j) (hx : X[i]? = some x) (hy : X[j]? = some y) : x.Term ≤ y.Term := by
 obtain ⟨z, h1, h2⟩ := h j y hy
 have hj : (X.take (j + 1))[j]? = some y := by rw [List.getElem?_take_of_lt (by omega)]; exact hy
 have hi : (X.take (j + 1))[i]? = some x := by rw [List.getElem?_take_of_lt (by omega)]; exact hx
 exact (W.l _ _ h1).rise.get hij (pre_get h2 hi) (pre_get h2 hj)
theorem WG.one {t : Int} {x : Ldr} {q : Nat → Bool} {c : Nat} (hx : G.L t = some x) (hq : n / 2 + 1 ≤ cnt n q) (hv : ∀ v, v < n → q v = true → ∃ X, G.V t v = some (c, X)) : x.who = c := by
 obtain ⟨v, h1, h2, h3⟩ := meet (W.l t x hx).maj hq
 obtain ⟨X, e1, _⟩ := (W.l t x hx).votes v h1 h2
 obtain ⟨Y, e2⟩ := hv v h1 h3
 rw [e1] at e2
 cases e2; rfl
theorem WG.has {t : Int} {k : Nat} (hc : Chosen n G t k) : ∀ (d : Nat) (t2 : Int) (x : Ldr), (t2 - t).toNat = d → G.L t2 = some x → t < t2 → (G.ll t).take k <+: x.B := by
 intro d
 induction d using Nat.strongRecOn with
 | ind d ih =>
  intro t2 x hd hx hlt
  obtain ⟨y, hy, k1, hk, ⟨e, he, het⟩, hq⟩ := hc
  have wl := W.l t2 x hx
  obtain ⟨v, hv, hvA, hvQ⟩ := meet hq wl.maj
  have hkA : k ≤ G.A t v := of_decide_eq_true hvA
  obtain ⟨X, hV, hK⟩ := wl.votes v hv hvQ
  have wv := W.v t2 v _ X hV
  rcases hK t hlt k hkA with hin | ⟨t3, z, h1, h2, h3, h4⟩
  ·-- the voter had it
   have hll : G.ll t = y.LL := Gh.ll_of hy
   have hlen : ((G.ll t).take k).length = k := by rw [hll, List.length_take]; omega
   have hXk : X[k - 1]? = some e := pre_get hin (by rw [hll, List.getElem?_take_of_lt (by omega)]; exact he)
   have hXl := (List.getElem?_eq_some_iff.1 hXk).1
   obtain ⟨f, hf, hfT⟩ := last_ex (l := X) (by omega)
   have hle : t ≤ lastT X := by
    have := W.rise wv.log (show k - 1 ≤ X.length - 1 by omega) hXk hf
    omega
   obtain ⟨p, hp1, hp2⟩ := wv.log.last (by omega)
   have hup := wv.up
   rw [← wl.base] at hup
   have hBlog : LogP G x.B := by rw [wl.base]; exact (W.s t2 x.who).1
   rcases hup with hgt | ⟨heq, hlen2⟩
   ·have hBl : 0 < x.B.length := by
     rcases Nat.eq_zero_or_pos x.B.length with h0 | h0
     ·rw [lastT_nil h0] at hgt
      have := (W.l t y hy).t1
      omega
     ·exact h0
    obtain ⟨g, hg, hgT⟩ := last_ex hBl
    obtain ⟨q, hq1, hq2⟩ := hBlog.last hBl
    have hlt2 : lastT x.B < t2 := by
     rw [hgT]
     have := (W.s t2 x.who).2
     rw [← wl.base] at this
     exact this g (List.mem_of_getElem? hg)
    have hrec := ih (lastT x.B - t).toNat (by omega) (lastT x.B) q rfl hq1 (by omega)
    have wq := W.l _ q hq1
    have hqB : q.B.length ≤ x.B.length := by
     rcases Nat.lt_or_ge x.B.length q.B.length with hc2 | hc2
     ·exfalso
      have hpre : x.B <+: q.B := pre_of_le hq2 wq.pre (by omega)
      have := (W.s (lastT x.B) q.who).2 g (by rw [← wq.base]; exact hpre.subset (List.mem_of_getElem? hg))
      omega
     ·exact hc2
    exact hrec.trans (pre_of_le wq.pre hq2 hqB)
   ·have hBl : 0 < x.B.length := by omega
    obtain ⟨q, hq1, hq2⟩ := hBlog.last hBl
    rw [← heq, hp1] at hq1
    cases hq1
    exact hin.trans (pre_of_le hp2 hq2 hlen2)
  ·exfalso
   exact h4 (ih (t3 - t).toNat (by omega) t3 z rfl h3 h1)
theorem WG.later {t t2 : Int} {k : Nat} {x : Ldr} (hc : Chosen n G t k) (hx : G.L t2 = some x) (h : t ≤ t2) : (G.ll t).take k <+: x.LL := by
 rcases Int.lt_or_eq_of_le h with h | h
 ·exact (W.has hc _ t2 x rfl hx h).trans (W.l t2 x hx).pre
 ·subst h
  rw [Gh.ll_of hx]; exact List.take_prefix _ _
theorem WG.dec_ll {hi t2 : Int} {x : Ldr} {l : List TEntry} (hd : Dec n G hi l) (hx : G.L t2 = some x) (h : hi ≤ t2) : l <+: x.LL := by
 rcases hd with rfl | ⟨t, k, hc, hle, hp⟩
 ·exact List.nil_prefix
 ·exact hp.trans (W.later hc hx (by omega))
end
theorem LogP.same {G : Gh} {X Y : List TEntry} (hX : LogP G X) (hY : LogP G Y) {k : Nat} {a b : TEntry} (ha : X[k]? = some a) (hb : Y[k]? = some b) (h : a.Term = b.Term) : X.take (k + 1) = Y.take (k + 1) := by
 obtain ⟨x, h1, h2⟩ := hX k a ha
 obtain ⟨y, h3, h4⟩ := hY k b hb
 rw [h, h3] at h1
 cases h1
 have l1 : (X.take (k + 1)).length = k + 1 := by have := (List.getElem?_eq_some_iff.1 ha).1; rw [List.length_take]; omega
 have l2 : (Y.take (k + 1)).length = k + 1 := by have := (List.getElem?_eq_some_iff.1 hb).1; rw [List.length_take]; omega
 rw [take_of_pre h2, take_of_pre h4, l1, l2]
end Go.Proofs.Ythpokjkbcdfhiaa.Told.RA
