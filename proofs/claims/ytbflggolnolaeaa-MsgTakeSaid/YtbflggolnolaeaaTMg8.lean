/- Reading a transaction: txn.Take on any bytes. -/
import Derived.Test.YtbflggolnolaeaaTMg5
import Derived.Test.YtbflggolnolaeaaTNumTake
namespace Go.Proofs.Ytbflggolnolaeaa.Told.MG
open Go Go.Proofs.Ytbflggolnolaeaa.Vam Go.Proofs.Ytbflggolnolaeaa.Told Go.Proofs.Ytbflggolnolaeaa.Told.ST Go.Proofs.Ytbflggolnolaeaa.Told.NM Go.Proofs.Ytbflggolnolaeaa.Told.NT
set_option linter.unusedSimpArgs false
set_option linter.unusedVariables false
def V (o : TReader') : Nat := (o.b.length - o.n.toNat) + bif o.bad then 0 else 1
structure Rn (o : TReader') : Prop where
 bytes : Bytes o.b
 n0 : 0 ≤ o.n
 n1 : o.n ≤ (o.b.length : Int)
 len : o.b.length ≤ 200
theorem Rn.V {o : TReader'} (h : Rn o) : V o ≤ 201 := by
 have h1 := h.len
 unfold MG.V
 cases o.bad <;> simp <;> omega
theorem tgoes {o : TReader'} (h : Rn o) {k : Nat} {ok : Bool} (hk : k ≤ (List.drop o.n.toNat o.b).length) (h1 : ok = true → 1 ≤ k) :
  ∃ o', txn_reader_goes (k : Int) ok o = some o' ∧ Rn o' ∧ o'.b = o.b ∧ V o' ≤ V o ∧ (o.bad = false → V o' < V o) := by
 obtain ⟨b, n, bad⟩ := o
 obtain ⟨hb, h2, h3, h4⟩ := h
 dsimp only at hb h2 h3 h4 hk
 rw [List.length_drop] at hk
 have hw : w64 (n + (k : Int)) = n + (k : Int) := w64_id (by omega) (by omega)
 unfold txn_reader_goes
 dsimp only
 rw [hw]
 cases bad
 ·rw [br_f rfl]
  refine ⟨_, rfl, ⟨hb, by show 0 ≤ n + (k : Int); omega, by show n + (k : Int) ≤ (b.length : Int); omega, h4⟩, rfl, ?_⟩
  have : V (TReader'.mk b (n + (k : Int)) (!ok)) < V (TReader'.mk b n false) := by
   unfold V
   dsimp only
   cases ok
   ·simp; omega
   ·have := h1 rfl
    simp; omega
  exact ⟨by omega, fun _ => this⟩
 ·rw [br_t rfl]
  refine ⟨_, rfl, ⟨hb, by show 0 ≤ n + (k : Int); omega, by show n + (k : Int) ≤ (b.length : Int); omega, h4⟩, rfl, ?_, fun h => by cases h⟩
  unfold V
  simp; omega
theorem tnum {fu : Nat} (hf : 10 ≤ fu) {o : TReader'} (h : Rn o) : ∃ v o', txn_reader_num fu o = some (v, o') ∧ (0 ≤ v ∧ v < 9223372036854775808) ∧ Rn o' ∧ o'.b = o.b ∧ V o' ≤ V o ∧ (o.bad = false → V o' < V o) := by
 have hd : Bytes (List.drop o.n.toNat o.b) := h.bytes.drop _
 obtain ⟨v, k, ok, e, h1, h2, h3, h4⟩ := tk_is hd
 obtain ⟨o', g1, g2⟩ := tgoes h h3 h4
 refine ⟨v, o', ?_, ⟨h1, h2⟩, g2⟩
 unfold txn_reader_num
 rw [gd_t (decide_eq_true ⟨h.n0, h.n1⟩), bd_s (take hd hf), e]
 dsimp only
 rw [bd_s g1]
theorem ttext {fu : Nat} (hf : 10 ≤ fu) {o : TReader'} (h : Rn o) : ∃ s o', txn_reader_text fu o = some (s, o') ∧ s.size ≤ 201 ∧ Rn o' ∧ o'.b = o.b ∧ V o' ≤ V o ∧ (o.bad = false → V o' < V o) := by
 have hd : Bytes (List.drop o.n.toNat o.b) := h.bytes.drop _
 have hl := h.len
 have hdl : (List.drop o.n.toNat o.b).length ≤ 200 := by rw [List.length_drop]; omega
 obtain ⟨s, k, ok, e, h3, h4, h5⟩ := takeTextG (fu := fu) hd (by omega) hf
 obtain ⟨o', g1, g2⟩ := tgoes h h3 h4
 refine ⟨s, o', ?_, by omega, g2⟩
 unfold txn_reader_text
 rw [gd_t (decide_eq_true ⟨h.n0, h.n1⟩), bd_s e]
 dsimp only
 rw [bd_s g1]
structure TxS (t : TTxn) : Prop where
 r : t.Reads.length ≤ 201
 w : t.Writes.length ≤ 201
 rk : ∀ x ∈ t.Reads, x.Key.size ≤ 201 ∧ x.Version < 9223372036854775808
 wk : ∀ x ∈ t.Writes, x.Key.size ≤ 201
theorem TxS.none : TxS (TTxn.mk 0 0 [] []) := ⟨by simp, by simp, fun x h => by simp at h, fun x h => by simp at h⟩
theorem TxS.f {t : TTxn} (h : TxS t) {fu : Nat} (hf : 300 ≤ fu) : TxF fu t := ⟨by have := h.r; omega, by have := h.w; omega, fun x hx => by have := (h.rk x hx).1; omega, fun x hx => by have := h.wk x hx; omega⟩
theorem TxS.v {t : TTxn} (h : TxS t) : VerT t := fun x hx => (h.rk x hx).2
structure It (B : List Int) (o : TReader') (t : TTxn) : Prop where
 rd : Rn o
 b : o.b = B
 r : t.Reads.length + V o ≤ 201
 w : t.Writes.length + V o ≤ 201
 rk : ∀ x ∈ t.Reads, x.Key.size ≤ 201 ∧ x.Version < 9223372036854775808
 wk : ∀ x ∈ t.Writes, x.Key.size ≤ 201
theorem It.le {B : List Int} {o o' : TReader'} {t : TTxn} (h : It B o t) (hr : Rn o') (hb : o'.b = o.b) (hw : V o' ≤ V o) : It B o' t := by
 obtain ⟨h1, h2, h3, h4, h5, h6⟩ := h
 exact ⟨hr, by rw [hb, h2], by omega, by omega, h5, h6⟩
def stepR (fu : Nat) (t : TTxn) (o : TReader') : Option (TTxn × TReader') :=
 bd (txn_reader_text fu o) fun (r9_1, r9_2) =>
 bd (txn_reader_num fu r9_2) fun (r9_4, r9_5) =>
 bd (txn_reader_text fu r9_5) fun (r9_7, r9_8) =>
 bd (txn_reader_num fu r9_8) fun (r10_1, r10_2) =>
 gd (decide (t.Reads.length + ([(TRead.mk r9_1 r9_4 r9_7 (r10_1 == 1))] : List TRead).length ≤ 4294967296)) <|
 some (TTxn.mk t.Session t.Seq (t.Reads ++ ([(TRead.mk r9_1 r9_4 r9_7 (r10_1 == 1))] : List TRead)) t.Writes, r10_2)
def stepW (fu : Nat) (t : TTxn) (o : TReader') : Option (TTxn × TReader') :=
 bd (txn_reader_text fu o) fun (r18_1, r18_2) =>
 bd (txn_reader_text fu r18_2) fun (r18_4, r18_5) =>
 bd (txn_reader_num fu r18_5) fun (r19_1, r19_2) =>
 gd (decide (t.Writes.length + ([(TWrite.mk r18_1 r18_4 (r19_1 == 1))] : List TWrite).length ≤ 4294967296)) <|
 some (TTxn.mk t.Session t.Seq t.Reads (t.Writes ++ ([(TWrite.mk r18_1 r18_4 (r19_1 == 1))] : List TWrite)), r19_2)
theorem stepR_e {fu : Nat} (hf : 300 ≤ fu) {B : List Int} {o : TReader'} {t : TTxn} (h : It B o t) (hb : o.bad = false) : ∃ t' o', stepR fu t o = some (t', o') ∧ V o' < V o ∧ It B o' t' := by
 obtain ⟨s1, o1, e1, a1, r1, b1, w1, w1'⟩ := ttext (fu := fu) (by omega) h.rd
 obtain ⟨v2, o2, e2, a2, r2, b2, w2, _⟩ := tnum (fu := fu) (by omega) r1
 obtain ⟨s3, o3, e3, a3, r3, b3, w3, _⟩ := ttext (fu := fu) (by omega) r2
 obtain ⟨v4, o4, e4, a4, r4, b4, w4, _⟩ := tnum (fu := fu) (by omega) r3
 have := w1' hb
 obtain ⟨h1, h2, h3, h4, h5, h6⟩ := h
 unfold stepR
 rw [bd_s e1]; dsimp only; rw [bd_s e2]; dsimp only; rw [bd_s e3]; dsimp only; rw [bd_s e4]; dsimp only; rw [gd_t (decide_eq_true (by simp; omega))]
 refine ⟨_, _, rfl, by omega, r4, by rw [b4, b3, b2, b1, h2], ?_, by show t.Writes.length + _ ≤ _; omega, fun x hx => ?_, h6⟩
 ·show (t.Reads ++ [_]).length + _ ≤ _
  rw [List.length_append, List.length_singleton]; omega
 ·rcases List.mem_append.1 hx with hx | hx
  ·exact h5 x hx
  ·rw [List.mem_singleton.1 hx]
   exact ⟨a1, a2.2⟩
theorem stepW_e {fu : Nat} (hf : 300 ≤ fu) {B : List Int} {o : TReader'} {t : TTxn} (h : It B o t) (hb : o.bad = false) : ∃ t' o', stepW fu t o = some (t', o') ∧ V o' < V o ∧ It B o' t' := by
 obtain ⟨s1, o1, e1, a1, r1, b1, w1, w1'⟩ := ttext (fu := fu) (by omega) h.rd
 obtain ⟨s2, o2, e2, a2, r2, b2, w2, _⟩ := ttext (fu := fu) (by omega) r1
 obtain ⟨v3, o3, e3, a3, r3, b3, w3, _⟩ := tnum (fu := fu) (by omega) r2
 have := w1' hb
 obtain ⟨h1, h2, h3, h4, h5, h6⟩ := h
 unfold stepW
 rw [bd_s e1]; dsimp only; rw [bd_s e2]; dsimp only; rw [bd_s e3]; dsimp only; rw [gd_t (decide_eq_true (by simp; omega))]
 refine ⟨_, _, rfl, by omega, r3, by rw [b3, b2, b1, h2], by show t.Reads.length + _ ≤ _; omega, ?_, h5, fun x hx => ?_⟩
 ·show (t.Writes ++ [_]).length + _ ≤ _
  rw [List.length_append, List.length_singleton]; omega
 ·rcases List.mem_append.1 hx with hx | hx
  ·exact h6 x hx
  ·rw [List.mem_singleton.1 hx]
   exact a1
theorem bd_bd {α β γ : Type} {o : Option α} {f : α → Option β} {g : β → Option γ} : bd (bd o f) g = bd o fun x => bd (f x) g := by cases o <;> rfl
theorem gd_bd {β γ : Type} {b : Bool} {o : Option β} {g : β → Option γ} : bd (gd b o) g = gd b (bd o g) := by cases b <;> rfl
theorem lpR (fu : Nat) (B : List Int) (n : Nat) (i : Int) (o : TReader') (s : TTxn) : txn_Take.lp6 fu B (n + 1) i s o = br (decide (i > 0)) (br (!o.bad) (bd (stepR fu s o) fun p => txn_Take.lp6 fu B n (w64 (i - 1)) p.1 p.2) (some (s, o))) (some (s, o)) := by
 rw [txn_Take.lp6]
 unfold stepR
 simp only [bd_bd, gd_bd]
 rfl
theorem lpW (fu : Nat) (B : List Int) (n : Nat) (i : Int) (o : TReader') (s : TTxn) : txn_Take.lp15 fu B (n + 1) i s o = br (decide (i > 0)) (br (!o.bad) (bd (stepW fu s o) fun p => txn_Take.lp15 fu B n (w64 (i - 1)) p.1 p.2) (some (s, o))) (some (s, o)) := by
 rw [txn_Take.lp15]
 unfold stepW
 simp only [bd_bd, gd_bd]
 rfl
theorem putT_any {fu : Nat} (hf : 300 ≤ fu) {t : TTxn} (h : TxS t) : ∃ p, txn_Put fu t = some p := by
 cases hb : txnB fu t
 ·refine ⟨[], ?_⟩
  unfold txn_Put
  rw [bd_s (mayT_e (h.f hf)), hb, br_t (by rfl)]
 ·exact ⟨_, putT_e (by omega) (h.f hf) hb h.v⟩
theorem hasPrefix_e (s p : List Int) : ∃ c, bytes_HasPrefix s p = some c ∧ (c = true → p.length ≤ s.length) := by
 unfold bytes_HasPrefix
 by_cases h : (s.length : Int) ≥ (p.length : Int)
 ·rw [br_t (decide_eq_true h), gd_t (decide_eq_true (by omega))]
  unfold bytes_Equal
  rw [bd_s rfl]
  exact ⟨_, rfl, fun _ => by omega⟩
 ·rw [br_f (decide_eq_false h)]
  exact ⟨false, rfl, fun h => by cases h⟩
theorem takeT_e {fu : Nat} (hf : 300 ≤ fu) {b : List Int} (hb : Bytes b) (hl : b.length ≤ 200) : ∃ (t : TTxn) (n : Nat) (ok : Bool), txn_Take fu b = some (t, (n : Int), ok) ∧ TxS t ∧ n ≤ b.length ∧ (ok = true → 1 ≤ n) := by
 have r0 : Rn (TReader'.mk b 0 false) := ⟨hb, by simp, by simp, hl⟩
 obtain ⟨v1, o1, e1, a1, r1, b1, w1, _⟩ := tnum (fu := fu) (by omega) r0
 obtain ⟨v2, o2, e2, a2, r2, b2, w2, _⟩ := tnum (fu := fu) (by omega) r1
 obtain ⟨v3, o3, e3, a3, r3, b3, w3, _⟩ := tnum (fu := fu) (by omega) r2
 have l3 := r3.V
 have i3 : It b o3 (TTxn.mk v1 v2 [] []) := ⟨r3, by rw [b3, b2, b1], by simpa using l3, by simpa using l3, fun x h => by simp at h, fun x h => by simp at h⟩
 obtain ⟨o4, t4, e4, w4, i4⟩ := manyS (bad := TReader'.bad) (ω := V) (I := It b) (lp := txn_Take.lp6 fu b) (f := stepR fu) (fun n i o s => lpR fu b n i o s) (fun o s hI hb => stepR_e hf hI hb) fu v3 o3 _ a3.1 a3.2 i3 (by omega)
 obtain ⟨v5, o5, e5, a5, r5, b5, w5, _⟩ := tnum (fu := fu) (by omega) i4.rd
 have l5 := r5.V
 obtain ⟨o6, t6, e6, w6, i6⟩ := manyS (bad := TReader'.bad) (ω := V) (I := It b) (lp := txn_Take.lp15 fu b) (f := stepW fu) (fun n i o s => lpW fu b n i o s) (fun o s hI hb => stepW_e hf hI hb) fu v5 o5 t4 a5.1 a5.2 (i4.le r5 b5 w5) (by omega)
 obtain ⟨h1, h2, h3, h4, h5, h6⟩ := i6
 have hs : TxS t6 := ⟨by omega, by omega, h5, h6⟩
 obtain ⟨p, hp⟩ := putT_any hf hs
 obtain ⟨c, hc, hc'⟩ := hasPrefix_e b p
 have hno : ∃ (t : TTxn) (n : Nat) (ok : Bool), some (TTxn.mk 0 0 [] [], (0 : Int), false) = some (t, (n : Int), ok) ∧ TxS t ∧ n ≤ b.length ∧ (ok = true → 1 ≤ n) := ⟨_, 0, false, rfl, TxS.none, Nat.zero_le _, fun h => by cases h⟩
 unfold txn_Take
 rw [bd_s e1]; dsimp only
 rw [bd_s e2]; dsimp only
 rw [bd_s e3]; dsimp only
 rw [bd_s e4]; dsimp only
 rw [bd_s e5]; dsimp only
 rw [bd_s e6]; dsimp only
 rw [bd_s hp]
 cases hbad : o6.bad
 ·rw [br_f rfl]
  cases he : p.isEmpty
  ·rw [br_f rfl, bd_s hc]
   cases c
   ·rw [br_t (by rfl)]; exact hno
   ·rw [br_f (by rfl)]
    have := hc' rfl
    by_cases hn : (p.length : Int) = o6.n
    ·rw [br_f (by simpa using hn), ← hn]
     refine ⟨t6, p.length, true, rfl, hs, this, fun _ => ?_⟩
     cases p with
     | nil => cases he
     | cons => simp
    ·rw [br_t (by simpa using hn)]; exact hno
  ·rw [br_t rfl]; exact hno
 ·rw [br_t rfl]; exact hno
end Go.Proofs.Ytbflggolnolaeaa.Told.MG
