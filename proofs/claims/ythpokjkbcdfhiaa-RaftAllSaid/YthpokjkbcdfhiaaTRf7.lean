/- A letter that is made of picks: which it is. -/
import Derived.Test.YthpokjkbcdfhiaaTRf3
import Derived.Test.YthpokjkbcdfhiaaTRf6
namespace Go.Proofs.Ythpokjkbcdfhiaa.Told.RA
open Go Go.Proofs.Ythpokjkbcdfhiaa.Vam Go.Proofs.Ythpokjkbcdfhiaa.Told Go.Proofs.Ythpokjkbcdfhiaa.Told.HP Go.Proofs.Ythpokjkbcdfhiaa.Told.PK
set_option linter.unusedSimpArgs false
set_option linter.unusedVariables false
structure LtrOk (r : TRaft) (m : TMsg) : Prop where
 kind : 1 ≤ m.Kind ∧ m.Kind ≤ 4
 frm : 1 ≤ m.From ∧ m.From ≤ r.Nodes
 to : m.To = r.Me
 term : 0 ≤ m.Term ∧ m.Term ≤ r.Term + 1
 index : 0 ≤ m.Index ∧ m.Index ≤ (r.Log.length : Int) + 1
 lt : 0 ≤ m.LogTerm ∧ m.LogTerm ≤ 1000000
 commit : 0 ≤ m.Commit ∧ m.Commit ≤ 300
 len : m.Entries.length ≤ 3
 smt : ∀ e ∈ m.Entries, Smt e
 ets : ∀ e ∈ m.Entries, 1 ≤ e.Term ∧ e.Term ≤ max m.Term 1
theorem LtrOk.lb {r : TRaft} {m : TMsg} (h : LtrOk r m) (hl : r.Log.length ≤ 1000) (ht : r.Term ≤ 1000000) : Lb m :=
 ⟨⟨h.term.1, by have := h.term.2; omega⟩, ⟨by have := h.index.1; omega, by have := h.index.2; omega⟩, by have := h.len; omega, fun e he => by have := h.smt e he; unfold Smt at this; omega⟩
theorem one_le_if (x : Int) : 1 ≤ (if x < 1 then 1 else x) := by split <;> omega
theorem ltr_lp (fu : Nat) (hf : 20 ≤ fu) (z : TMsg) (kind frm to term index lt commit : Int) (ok : Bool) (ht : 0 ≤ term ∧ term ≤ 2000000) (hlt : 0 ≤ lt ∧ lt ≤ 1000000) : ∀ (d n : Nat) (es : List TEntry) (o : TPicks), PInv o → d < n → es.length + d ≤ 100 → (∀ e ∈ es, Smt e ∧ 1 ≤ e.Term ∧ e.Term ≤ max term 1) →
  ∃ es' o', diwanplay_Picks_Letter.lp14 fu z n (d : Int) (ltr kind frm to term index lt commit ok es) o = some (ltr kind frm to term index lt commit ok es', o') ∧ PInv o' ∧ es'.length = es.length + d ∧ ∀ e ∈ es', Smt e ∧ 1 ≤ e.Term ∧ e.Term ≤ max term 1
 | 0, n, es, o, ho, hn, hl, hs => by
  obtain ⟨n, rfl⟩ : ∃ m, n = m + 1 := ⟨n - 1, by omega⟩
  rw [diwanplay_Picks_Letter.lp14, br_f (by rfl)]
  exact ⟨es, o, rfl, ho, rfl, hs⟩
 | d + 1, n, es, o, ho, hn, hl, hs => by
  obtain ⟨n, rfl⟩ : ∃ m, n = m + 1 := ⟨n - 1, by omega⟩
  obtain ⟨a, o1, h1, i1, a0, a1, _⟩ := num_e ho (m := 2) (by decide)
  obtain ⟨b, o2, h2, i2, _⟩ := num_e i1 (m := 2) (by decide)
  rw [diwanplay_Picks_Letter.lp14, br_t (decide_eq_true (by omega)), bd_s h1]
  dsimp only
  rw [bd_s h2]
  dsimp only
  have wd : w64 (((d + 1 : Nat) : Int) - 1) = (d : Int) := by rw [w64_id (by omega) (by omega)]; omega
  rw [wd]
  have ih := fun (e : TEntry) (o : TPicks) (ho : PInv o) (he : Smt e ∧ 1 ≤ e.Term ∧ e.Term ≤ max term 1) => ltr_lp fu hf z kind frm to term index lt commit ok ht hlt d n (es ++ [e]) o ho (by omega) (by simp; omega) (fun x hx => (List.mem_append.1 hx).elim (hs x) fun g => by rw [List.mem_singleton.1 g]; exact he)
  have last : ∀ (t : Int) (s : Bool) (x : TTxn) (o : TPicks), 1 ≤ t ∧ t ≤ max term 1 → PInv o → x.Reads.length ≤ 3 ∧ x.Writes.length ≤ 3 → ∃ es' o', (gd (decide (es.length + ([(TEntry.mk t s x)] : List TEntry).length ≤ 4294967296)) <|
    diwanplay_Picks_Letter.lp14 fu z n (d : Int) (ltr kind frm to term index lt commit ok (es ++ [(TEntry.mk t s x)])) o) = some (ltr kind frm to term index lt commit ok es', o') ∧ PInv o' ∧ es'.length = es.length + (d + 1) ∧ ∀ e ∈ es', Smt e ∧ 1 ≤ e.Term ∧ e.Term ≤ max term 1 := by
   intro t s x o ht' ho hx
   obtain ⟨es', o', g1, g2, g3, g4⟩ := ih (TEntry.mk t s x) o ho ⟨hx, ht'⟩
   rw [gd_t (decide_eq_true (by simp; omega))]
   exact ⟨es', o', g1, g2, by rw [g3]; simp; omega, g4⟩
  have mid : ∀ (e : TEntry) (o : TPicks), 1 ≤ e.Term → PInv o → e.T.Reads.length ≤ 3 ∧ e.T.Writes.length ≤ 3 → ∃ es' o', (jn (fun (j26_3 : TEntry) =>
   gd (decide (es.length + ([(TEntry.mk (if (if term < 1 then 1 else term) < j26_3.Term then (if term < 1 then 1 else term) else j26_3.Term) j26_3.Seal j26_3.T)] : List TEntry).length ≤ 4294967296)) <|
   diwanplay_Picks_Letter.lp14 fu z n (d : Int) (ltr kind frm to term index lt commit ok (es ++ ([(TEntry.mk (if (if term < 1 then 1 else term) < j26_3.Term then (if term < 1 then 1 else term) else j26_3.Term) j26_3.Seal j26_3.T)] : List TEntry))) o) fun k26 =>
  br (decide ((es.length : Int) > 0))
   (ix es (w64 ((es.length : Int) - 1)) fun x25_1 =>
   k26 (TEntry.mk (if e.Term < x25_1.Term then x25_1.Term else e.Term) e.Seal e.T))
   (k26 e)) = some (ltr kind frm to term index lt commit ok es', o') ∧ PInv o' ∧ es'.length = es.length + (d + 1) ∧ ∀ e ∈ es', Smt e ∧ 1 ≤ e.Term ∧ e.Term ≤ max term 1 := by
   intro e o he1 ho hx
   rw [jn_e]
   by_cases c : (es.length : Int) > 0
   ·have we : w64 ((es.length : Int) - 1) = ((es.length - 1 : Nat) : Int) := by rw [w64_id (by omega) (by omega)]; omega
    rw [br_t (decide_eq_true c), we, ix_n (List.getElem?_eq_getElem (show es.length - 1 < es.length by omega))]
    exact last _ _ _ _ (by (try dsimp only); split <;> split <;> (try split) <;> omega) ho hx
   ·rw [br_f (decide_eq_false c)]
    exact last _ _ _ _ (by (try dsimp only); split <;> split <;> (try split) <;> omega) ho hx
  rw [jn_e]
  dsimp only [ltr] at mid ⊢
  cases (b == 0)
  ·obtain ⟨x, o3, h3, i3, hx⟩ := txn_e hf 4 i2
   rw [br_t (by rfl), bd_s h3]
   dsimp only
   exact mid (TEntry.mk _ _ x) o3 (one_le_if _) i3 ⟨hx.rl, hx.wl⟩
  ·rw [br_f (by rfl)]
   exact mid (TEntry.mk _ _ (TTxn.mk 0 0 [] [])) o2 (one_le_if _) i2 ⟨Nat.zero_le _, Nat.zero_le _⟩
theorem letter_e {fu : Nat} (hf : 20 ≤ fu) {r : TRaft} {o : TPicks} (hN : 1 ≤ r.Nodes ∧ r.Nodes ≤ 5) (hl : r.Log.length ≤ 200) (ht : 0 ≤ r.Term ∧ r.Term ≤ 1000000) (he : ∀ e ∈ r.Log, 0 ≤ e.Term ∧ e.Term ≤ 1000000) (h : PInv o) : ∃ m o', diwanplay_Picks_Letter fu r o = some (m, o') ∧ PInv o' ∧ LtrOk r m := by
 unfold diwanplay_Picks_Letter
 obtain ⟨a, o1, h1, i1, a0, a1, _⟩ := num_e h (m := 4) (by decide)
 rw [bd_s h1]
 dsimp only
 obtain ⟨b, o2, h2, i2, b0, b1, _⟩ := num_e i1 (m := r.Nodes) (by omega)
 rw [bd_s h2]
 dsimp only
 obtain ⟨c, o3, h3, i3, c0, c1, _⟩ := num_e i2 (m := 3) (by decide)
 rw [bd_s h3]
 dsimp only
 obtain ⟨d, o4, h4, i4, d0, d1, _⟩ := num_e i3 (m := 3) (by decide)
 rw [bd_s h4]
 dsimp only
 rw [w64_id (n := (r.Log.length : Int) + 2) (by omega) (by omega), w64_id (n := (r.Log.length : Int) + 3) (by omega) (by omega)]
 obtain ⟨e, o5, h5, i5, e0, e1, _⟩ := num_e i4 (m := (r.Log.length : Int) + 2) (by omega)
 rw [bd_s h5]
 dsimp only
 obtain ⟨f, o6, h6, i6, f0, f1, _⟩ := num_e i5 (m := 4) (by decide)
 rw [bd_s h6]
 dsimp only
 obtain ⟨g, o7, h7, i7, g0, g1, _⟩ := num_e i6 (m := (r.Log.length : Int) + 3) (by omega)
 rw [bd_s h7]
 dsimp only
 rw [jn_e]
 obtain ⟨p, o8, h8, i8, _⟩ := num_e i7 (m := 2) (by decide)
 rw [bd_s h8]
 dsimp only
 rw [w64_id (n := 1 + a) (by omega) (by omega), w64_id (n := 1 + b) (by omega) (by omega), w64_id (n := r.Term + c) (by omega) (by omega), w64_id (n := r.Term + c - 1) (by omega) (by omega)]
 generalize hT : (if r.Term + c - 1 < 0 then 0 else r.Term + c - 1) = T
 have hT' : 0 ≤ T ∧ T ≤ r.Term + 1 := by rw [← hT]; split <;> omega
 have fin : ∀ (lt : Int), 0 ≤ lt → lt ≤ 1000000 → ∃ m o', (br ((1 + a) == 3)
  (bd (diwanplay_Picks_Num 4 o8) fun (r13_1, r13_2) =>
  bd (diwanplay_Picks_Letter.lp14 fu (TMsg.mk 0 0 0 0 0 0 0 0 false [] (TTxn.mk 0 0 [] []) 0 0 0 0 false ByteArray.empty ByteArray.empty [] [] 0) fu r13_1 (ltr (1 + a) (1 + b) r.Me T e lt g (decide (d > 0)) []) r13_2) fun (y30_0, y30_1) =>
  some (y30_0, y30_1))
  (some (ltr (1 + a) (1 + b) r.Me T e lt g (decide (d > 0)) [], o8))) = some (m, o') ∧ PInv o' ∧ LtrOk r m := by
  intro lt l0 l1
  by_cases hk : 1 + a = 3
  ·rw [br_t (by simpa using hk)]
   obtain ⟨q, o9, h9, i9, q0, q1, _⟩ := num_e i8 (m := 4) (by decide)
   rw [bd_s h9]
   dsimp only
   obtain ⟨n, rfl⟩ : ∃ n : Nat, q = (n : Int) := ⟨q.toNat, by omega⟩
   obtain ⟨es, oa, k1, k2, k3, k4⟩ := ltr_lp fu hf (TMsg.mk 0 0 0 0 0 0 0 0 false [] (TTxn.mk 0 0 [] []) 0 0 0 0 false ByteArray.empty ByteArray.empty [] [] 0) (1 + a) (1 + b) r.Me T e lt g (decide (d > 0)) ⟨hT'.1, by omega⟩ ⟨l0, l1⟩ n fu [] o9 i9 (by omega) (by simp; omega) (by simp)
   rw [bd_s k1]
   refine ⟨_, oa, rfl, k2, ?_⟩
   exact ⟨⟨by show 1 ≤ 1 + a; omega, by show 1 + a ≤ 4; omega⟩, ⟨by show 1 ≤ 1 + b; omega, by show 1 + b ≤ r.Nodes; omega⟩, rfl, hT', ⟨e0, by show e ≤ _; omega⟩, ⟨l0, l1⟩, ⟨g0, by show g ≤ 300; omega⟩, by show es.length ≤ 3; rw [k3]; simp; omega, fun e he => (k4 e he).1, fun e he => (k4 e he).2⟩
  ·rw [br_f (by simpa using hk)]
   refine ⟨_, o8, rfl, i8, ?_⟩
   exact ⟨⟨by show 1 ≤ 1 + a; omega, by show 1 + a ≤ 4; omega⟩, ⟨by show 1 ≤ 1 + b; omega, by show 1 + b ≤ r.Nodes; omega⟩, rfl, hT', ⟨e0, by show e ≤ _; omega⟩, ⟨l0, l1⟩, ⟨g0, by show g ≤ 300; omega⟩, Nat.zero_le _, (fun x hx => by cases hx), (fun x hx => by cases hx)⟩
 have mid : ∀ (lt : Int), 0 ≤ lt → lt ≤ 1000000 → ∃ m o', (jn (fun (j10_1 : TMsg) =>
  br (j10_1.Kind == 3)
  (bd (diwanplay_Picks_Num 4 o8) fun (r13_1, r13_2) =>
  bd (diwanplay_Picks_Letter.lp14 fu (TMsg.mk 0 0 0 0 0 0 0 0 false [] (TTxn.mk 0 0 [] []) 0 0 0 0 false ByteArray.empty ByteArray.empty [] [] 0) fu r13_1 j10_1 r13_2) fun (y30_0, y30_1) =>
  some (y30_0, y30_1))
  (some (j10_1, o8))) fun k10 =>
 br (e == 0)
  (k10 (ltr (1 + a) (1 + b) r.Me T e 0 g (decide (d > 0)) []))
  (k10 (ltr (1 + a) (1 + b) r.Me T e lt g (decide (d > 0)) []))) = some (m, o') ∧ PInv o' ∧ LtrOk r m := by
  intro lt l0 l1
  rw [jn_e]
  cases (e == 0)
  ·rw [br_f rfl]; exact fin lt l0 l1
  ·rw [br_t rfl]; exact fin 0 (Int.le_refl _) (by decide)
 cases (p == 0)
 ·rw [br_f rfl]; exact mid f (by omega) (by omega)
 rw [br_t rfl]
 by_cases k1 : e ≥ 1
 ·rw [br_t (decide_eq_true k1)]
  by_cases k2 : e ≤ (r.Log.length : Int)
  ·have hx : r.Log[(e - 1).toNat]? = some r.Log[(e - 1).toNat] := List.getElem?_eq_getElem (by omega)
   have := he _ (List.mem_of_getElem? hx)
   rw [br_t (decide_eq_true k2), w64_id (n := e - 1) (by omega) (by omega), ix_s (by omega) hx]
   exact mid _ this.1 this.2
  ·rw [br_f (decide_eq_false k2)]; exact mid f (by omega) (by omega)
 ·rw [br_f (decide_eq_false k1)]; exact mid f (by omega) (by omega)
end Go.Proofs.Ythpokjkbcdfhiaa.Told.RA
