/- The picks go on: what is taken is not given back. -/
import Derived.Test.YthpokjkbcdfhiaaTPk1
namespace Go.Proofs.Ythpokjkbcdfhiaa.Told.PK
open Go Go.Proofs.Ythpokjkbcdfhiaa.Vam Go.Proofs.Ythpokjkbcdfhiaa.Told
set_option linter.unusedSimpArgs false
set_option linter.unusedVariables false
section
variable {α β : Type}
theorem bd_i {o : Option α} {k : α → Option β} {y : β} (h : bd o k = some y) : ∃ x, o = some x ∧ k x = some y := by
 cases o with
 | none => cases h
 | some x => exact ⟨x, rfl, h⟩
theorem br_i {b : Bool} {x y : Option α} {v : α} (h : br b x y = some v) : (b = true ∧ x = some v) ∨ (b = false ∧ y = some v) := by
 cases b
 ·exact .inr ⟨rfl, h⟩
 ·exact .inl ⟨rfl, h⟩
theorem gd_i {b : Bool} {x : Option α} {v : α} (h : gd b x = some v) : x = some v := by
 cases b
 ·cases h
 ·exact h
theorem ix_i {l : List α} {i : Int} {k : α → Option β} {y : β} (h : ix l i k = some y) : ∃ x, l[i.toNat]? = some x ∧ k x = some y := by
 unfold ix at h
 by_cases c : (0 : Int) ≤ i
 ·rw [decide_eq_true c] at h
  cases e : l[i.toNat]? with
  | none => rw [e] at h; cases h
  | some x => rw [e] at h; exact ⟨x, rfl, h⟩
 ·rw [decide_eq_false c] at h
  cases h
end
def Adv (o o' : TPicks) : Prop := PInv o' ∧ o'.l = o.l ∧ o.n ≤ o'.n
theorem Adv.refl {o : TPicks} (h : PInv o) : Adv o o := ⟨h, rfl, Int.le_refl _⟩
theorem Adv.trans {a b c : TPicks} (h : Adv a b) (k : Adv b c) : Adv a c := ⟨k.1, k.2.1.trans h.2.1, Int.le_trans h.2.2 k.2.2⟩
theorem num_a {m v : Int} {o o' : TPicks} (h : PInv o) (e : diwanplay_Picks_Num m o = some (v, o')) : Adv o o' ∧ (o.n < (o.l.length : Int) → o.n < o'.n) := by
 obtain ⟨h1, h2, h3⟩ := h
 unfold diwanplay_Picks_Num at e
 rcases br_i e with ⟨c, e⟩ | ⟨c, e⟩
 ·cases e
  have := of_decide_eq_true c
  exact ⟨Adv.refl ⟨h1, h2, h3⟩, fun _ => by omega⟩
 ·have c := of_decide_eq_false c
  obtain ⟨x, _, e⟩ := ix_i e
  have e := gd_i e
  have e1 : w64 (o.n + 1) = o.n + 1 := w64_id (by omega) (by omega)
  rw [e1] at e
  cases e
  exact ⟨⟨⟨h1, by show 0 ≤ o.n + 1; omega, h3⟩, rfl, by show o.n ≤ o.n + 1; omega⟩, fun _ => by show o.n < o.n + 1; omega⟩
theorem keys_a {fu : Nat} {most : Int} {o o' : TPicks} {ks : List ByteArray} (h : PInv o) (e : diwanplay_Picks_Keys fu most o = some (ks, o')) : Adv o o' := by
 unfold diwanplay_Picks_Keys at e
 obtain ⟨⟨v, o1⟩, h1, e⟩ := bd_i e
 obtain ⟨_, _, e⟩ := bd_i e
 obtain ⟨_, _, e⟩ := bd_i e
 cases e
 exact (num_a h h1).1
theorem val_a {o o' : TPicks} {s : ByteArray} (h : PInv o) (e : diwanplay_Picks_Val o = some (s, o')) : Adv o o' := by
 unfold diwanplay_Picks_Val at e
 obtain ⟨⟨v, o1⟩, h1, e⟩ := bd_i e
 obtain ⟨_, _, e⟩ := ix_i e
 cases e
 exact (num_a h h1).1
theorem reads_a {fu : Nat} {most : Int} {ks : List ByteArray} {z : TTxn} : ∀ (m : Nat) (i : Int) (t : TTxn) (o : TPicks) (t' : TTxn) (o' : TPicks), PInv o → diwanplay_Picks_Txn.lp5 fu most ks z m i t o = some (t', o') → Adv o o'
 | 0, i, t, o, t', o', h, e => by rw [diwanplay_Picks_Txn.lp5] at e; cases e
 | m + 1, i, t, o, t', o', h, e => by
  rw [diwanplay_Picks_Txn.lp5] at e
  rcases br_i e with ⟨_, e⟩ | ⟨_, e⟩
  ·obtain ⟨_, _, e⟩ := ix_i e
   obtain ⟨⟨v, o1⟩, h1, e⟩ := bd_i e
   have a1 := (num_a h h1).1
   dsimp only at e
   simp only [jn_e] at e
   rcases br_i e with ⟨_, e⟩ | ⟨_, e⟩
   ·obtain ⟨⟨u, o2⟩, h2, e⟩ := bd_i e
    have a2 := (num_a a1.1 h2).1
    dsimp only at e
    rcases br_i e with ⟨_, e⟩ | ⟨_, e⟩
    ·obtain ⟨⟨s, o3⟩, h3, e⟩ := bd_i e
     have a3 := val_a a2.1 h3
     dsimp only at e
     exact ((a1.trans a2).trans a3).trans (reads_a m _ _ _ _ _ a3.1 (gd_i e))
    ·exact (a1.trans a2).trans (reads_a m _ _ _ _ _ a2.1 (gd_i e))
   ·exact a1.trans (reads_a m _ _ _ _ _ a1.1 (gd_i e))
  ·cases e; exact Adv.refl h
theorem writes_a {fu : Nat} {ks : List ByteArray} {z : TTxn} : ∀ (m : Nat) (i : Int) (t : TTxn) (o : TPicks) (t' : TTxn) (o' : TPicks), PInv o → diwanplay_Picks_Txn.lp18 fu ks z m i t o = some (t', o') → Adv o o'
 | 0, i, t, o, t', o', h, e => by rw [diwanplay_Picks_Txn.lp18] at e; cases e
 | m + 1, i, t, o, t', o', h, e => by
  rw [diwanplay_Picks_Txn.lp18] at e
  rcases br_i e with ⟨_, e⟩ | ⟨_, e⟩
  ·obtain ⟨_, _, e⟩ := ix_i e
   obtain ⟨⟨s, o1⟩, h1, e⟩ := bd_i e
   have a1 := val_a h h1
   dsimp only at e
   simp only [jn_e] at e
   obtain ⟨⟨u, o2⟩, h2, e⟩ := bd_i e
   have a2 := (num_a a1.1 h2).1
   dsimp only at e
   rcases br_i e with ⟨_, e⟩ | ⟨_, e⟩
   ·exact (a1.trans a2).trans (writes_a m _ _ _ _ _ a2.1 (gd_i e))
   ·exact (a1.trans a2).trans (writes_a m _ _ _ _ _ a2.1 (gd_i e))
  ·cases e; exact Adv.refl h
theorem txn_a {fu : Nat} {most : Int} {o o' : TPicks} {t : TTxn} (h : PInv o) (e : diwanplay_Picks_Txn fu most o = some (t, o')) : Adv o o' := by
 unfold diwanplay_Picks_Txn at e
 obtain ⟨⟨a, o1⟩, h1, e⟩ := bd_i e
 have a1 := (num_a h h1).1
 dsimp only at e
 obtain ⟨⟨b, o2⟩, h2, e⟩ := bd_i e
 have a2 := (num_a a1.1 h2).1
 dsimp only at e
 obtain ⟨⟨ks, o3⟩, h3, e⟩ := bd_i e
 have a3 := keys_a a2.1 h3
 dsimp only at e
 obtain ⟨⟨t4, o4⟩, h4, e⟩ := bd_i e
 have a4 := reads_a _ _ _ _ _ _ a3.1 h4
 dsimp only at e
 obtain ⟨⟨k5, o5⟩, h5, e⟩ := bd_i e
 have a5 := keys_a a4.1 h5
 dsimp only at e
 obtain ⟨⟨t6, o6⟩, h6, e⟩ := bd_i e
 have a6 := writes_a _ _ _ _ _ _ a5.1 h6
 cases e
 exact ((((a1.trans a2).trans a3).trans a4).trans a5).trans a6
end Go.Proofs.Ythpokjkbcdfhiaa.Told.PK
