/- Reading a letter: msg.Take on any bytes, up to two hundred. -/
import Derived.Test.YtbflggolnolaeaaTMg8
namespace Go.Proofs.Ytbflggolnolaeaa.Told.MG
open Go Go.Proofs.Ytbflggolnolaeaa.Vam Go.Proofs.Ytbflggolnolaeaa.Told Go.Proofs.Ytbflggolnolaeaa.Told.ST Go.Proofs.Ytbflggolnolaeaa.Told.NM Go.Proofs.Ytbflggolnolaeaa.Told.NT
set_option linter.unusedSimpArgs false
set_option linter.unusedVariables false
def W (o : TReader) : Nat := o.b.length + bif o.bad then 0 else 1
structure Rd (o : TReader) : Prop where
 bytes : Bytes o.b
 len : o.b.length ≤ 200
theorem Rd.W {o : TReader} (h : Rd o) : W o ≤ 201 := by
 have h1 := h.len
 unfold MG.W
 cases o.bad <;> simp <;> omega
theorem mgoes {o : TReader} (h : Rd o) {k : Nat} {ok : Bool} (hk : k ≤ o.b.length) (h1 : ok = true → 1 ≤ k) :
  ∃ o', msg_reader_goes (k : Int) ok o = some o' ∧ Rd o' ∧ W o' ≤ W o ∧ (o.bad = false → W o' < W o) := by
 obtain ⟨b, bad⟩ := o
 obtain ⟨hb, h4⟩ := h
 dsimp only at hb h4 hk
 unfold msg_reader_goes
 dsimp only
 cases bad
 ·rw [br_f rfl, gd_t (decide_eq_true (by omega)), Int.toNat_natCast]
  refine ⟨_, rfl, ⟨hb.drop k, by show (List.drop k b).length ≤ 200; rw [List.length_drop]; omega⟩, ?_⟩
  have : W (TReader.mk (List.drop k b) (!ok)) < W (TReader.mk b false) := by
   unfold W
   dsimp only
   rw [List.length_drop]
   cases ok
   ·simp; omega
   ·have := h1 rfl
    simp; omega
  exact ⟨by omega, fun _ => this⟩
 ·rw [br_t rfl, gd_t (decide_eq_true (by omega)), Int.toNat_natCast]
  refine ⟨_, rfl, ⟨hb.drop k, by show (List.drop k b).length ≤ 200; rw [List.length_drop]; omega⟩, ?_, fun h => by cases h⟩
  unfold W
  dsimp only
  rw [List.length_drop]
  simp
theorem rnum {fu : Nat} (hf : 10 ≤ fu) {o : TReader} (h : Rd o) : ∃ v o', msg_reader_num fu o = some (v, o') ∧ (0 ≤ v ∧ v < 9223372036854775808) ∧ Rd o' ∧ W o' ≤ W o ∧ (o.bad = false → W o' < W o) := by
 obtain ⟨v, k, ok, e, h1, h2, h3, h4⟩ := tk_is h.bytes
 obtain ⟨o', g1, g2⟩ := mgoes h h3 h4
 refine ⟨v, o', ?_, ⟨h1, h2⟩, g2⟩
 unfold msg_reader_num
 rw [bd_s (take h.bytes hf), e]
 dsimp only
 rw [bd_s g1]
theorem rflag {fu : Nat} (hf : 10 ≤ fu) {o : TReader} (h : Rd o) : ∃ v o', msg_reader_flag fu o = some (v, o') ∧ Rd o' ∧ W o' ≤ W o ∧ (o.bad = false → W o' < W o) := by
 obtain ⟨v, o', e, _, g⟩ := rnum hf h
 refine ⟨v == 1, o', ?_, g⟩
 unfold msg_reader_flag
 rw [bd_s e]
theorem rtext {fu : Nat} (hf : 10 ≤ fu) {o : TReader} (h : Rd o) : ∃ s o', msg_reader_text fu o = some (s, o') ∧ s.size ≤ 201 ∧ Rd o' ∧ W o' ≤ W o ∧ (o.bad = false → W o' < W o) := by
 have hl := h.len
 obtain ⟨s, k, ok, e, h3, h4, h5⟩ := takeTextG (fu := fu) h.bytes (by omega) hf
 obtain ⟨o', g1, g2⟩ := mgoes h h3 h4
 refine ⟨s, o', ?_, by omega, g2⟩
 unfold msg_reader_text
 rw [bd_s e]
 dsimp only
 rw [bd_s g1]
theorem rtxn {fu : Nat} (hf : 300 ≤ fu) {o : TReader} (h : Rd o) : ∃ t o', msg_reader_txn fu o = some (t, o') ∧ TxS t ∧ Rd o' ∧ W o' ≤ W o := by
 obtain ⟨t, k, ok, e, hs, h3, h4⟩ := takeT_e hf h.bytes h.len
 obtain ⟨o', g1, g2, g3, g4⟩ := mgoes h h3 h4
 refine ⟨t, o', ?_, hs, g2, g3⟩
 unfold msg_reader_txn
 rw [bd_s e]
 dsimp only
 rw [bd_s g1]
structure Im (o : TReader) (m : TMsg) : Prop where
 rd : Rd o
 en : m.Entries.length + W o ≤ 201
 ks : m.Keys.length + W o ≤ 201
 gs : m.Got.length + W o ≤ 201
 e : ∀ e ∈ m.Entries, TxS e.T
 t : TxS m.T
 k : ∀ k ∈ m.Keys, k.size ≤ 201
 g : ∀ r ∈ m.Got, r.Key.size ≤ 201
theorem Im.le {o o' : TReader} {m : TMsg} (h : Im o m) (hr : Rd o') (hw : W o' ≤ W o) : Im o' m := by
 obtain ⟨h1, h2, h3, h4, h5, h6, h7, h8⟩ := h
 exact ⟨hr, by omega, by omega, by omega, h5, h6, h7, h8⟩
theorem num8 {fu : Nat} (hf : 10 ≤ fu) (b : List Int) (z : TMsg) : ∀ (d i n : Nat) (m : TMsg) (o : TReader), i + d = 8 → Im o m → d < n → ∃ m' o', msg_Take.lp5 fu b 8 z n (i : Int) m o = some (m', o') ∧ Im o' m'
 | 0, i, n, m, o, hi, h, hn => by
  obtain ⟨n, rfl⟩ : ∃ k, n = k + 1 := ⟨n - 1, by omega⟩
  rw [msg_Take.lp5, br_f (decide_eq_false (by omega))]
  exact ⟨m, o, rfl, h⟩
 | d + 1, i, n, m, o, hi, h, hn => by
  obtain ⟨n, rfl⟩ : ∃ k, n = k + 1 := ⟨n - 1, by omega⟩
  obtain ⟨v, o1, e1, _, r1, w1, _⟩ := rnum hf h.rd
  have key : ∃ m1, msg_Take.lp5 fu b 8 z (n + 1) (i : Int) m o = msg_Take.lp5 fu b 8 z n ((i + 1 : Nat) : Int) m1 o1 ∧ Im o1 m1 := by
   obtain ⟨h1, h2, h3, h4, h5, h6, h7, h8⟩ := h.le r1 w1
   have hc : i = 0 ∨ i = 1 ∨ i = 2 ∨ i = 3 ∨ i = 4 ∨ i = 5 ∨ i = 6 ∨ i = 7 := by omega
   rcases hc with rfl | rfl | rfl | rfl | rfl | rfl | rfl | rfl
   ·rw [msg_Take.lp5, br_t (by rfl), br_t (by rfl), bd_s e1]
    exact ⟨_, rfl, h1, h2, h3, h4, h5, h6, h7, h8⟩
   ·rw [msg_Take.lp5, br_t (by rfl), br_f (by rfl), br_t (by rfl), bd_s e1]
    exact ⟨_, rfl, h1, h2, h3, h4, h5, h6, h7, h8⟩
   ·rw [msg_Take.lp5, br_t (by rfl), br_f (by rfl), br_f (by rfl), br_t (by rfl), bd_s e1]
    exact ⟨_, rfl, h1, h2, h3, h4, h5, h6, h7, h8⟩
   ·rw [msg_Take.lp5, br_t (by rfl), br_f (by rfl), br_f (by rfl), br_f (by rfl), br_t (by rfl), bd_s e1]
    exact ⟨_, rfl, h1, h2, h3, h4, h5, h6, h7, h8⟩
   ·rw [msg_Take.lp5, br_t (by rfl), br_f (by rfl), br_f (by rfl), br_f (by rfl), br_f (by rfl), br_t (by rfl), bd_s e1]
    exact ⟨_, rfl, h1, h2, h3, h4, h5, h6, h7, h8⟩
   ·rw [msg_Take.lp5, br_t (by rfl), br_f (by rfl), br_f (by rfl), br_f (by rfl), br_f (by rfl), br_f (by rfl), br_t (by rfl), bd_s e1]
    exact ⟨_, rfl, h1, h2, h3, h4, h5, h6, h7, h8⟩
   ·rw [msg_Take.lp5, br_t (by rfl), br_f (by rfl), br_f (by rfl), br_f (by rfl), br_f (by rfl), br_f (by rfl), br_f (by rfl), br_t (by rfl), bd_s e1]
    exact ⟨_, rfl, h1, h2, h3, h4, h5, h6, h7, h8⟩
   ·rw [msg_Take.lp5, br_t (by rfl), br_f (by rfl), br_f (by rfl), br_f (by rfl), br_f (by rfl), br_f (by rfl), br_f (by rfl), br_f (by rfl), br_t (by rfl), bd_s e1]
    exact ⟨_, rfl, h1, h2, h3, h4, h5, h6, h7, h8⟩
  obtain ⟨m1, g1, g2⟩ := key
  rw [g1]
  exact num8 hf b z d (i + 1) n m1 o1 (by omega) g2 (by omega)
theorem t1 {fu : Nat} (hf : 300 ≤ fu) {o : TReader} {m : TMsg} (h : Im o m) (hb : o.bad = false) : ∃ m' o', msg_Take_1 fu m o = some (m', o') ∧ W o' < W o ∧ Im o' m' := by
 obtain ⟨v1, o1, e1, _, r1, w1, w1'⟩ := rnum (fu := fu) (by omega) h.rd
 obtain ⟨v2, o2, e2, r2, w2, _⟩ := rflag (fu := fu) (by omega) r1
 have := w1' hb
 have fin : ∀ {t : TTxn} {o3 : TReader}, TxS t → Rd o3 → W o3 ≤ W o2 → ∃ m' o', (gd (decide (m.Entries.length + ([(TEntry.mk v1 v2 t)] : List TEntry).length ≤ 4294967296)) <| some ((TMsg.mk m.Kind m.From m.To m.Part m.Term m.Index m.LogTerm m.Commit m.OK (m.Entries ++ ([(TEntry.mk v1 v2 t)] : List TEntry)) m.T m.Session m.Seq m.Pos m.Shard m.Span m.FromKey m.ToKey m.Keys m.Got m.Err), o3)) = some (m', o') ∧ W o' < W o ∧ Im o' m' := by
  intro t o3 hs r3 w3
  obtain ⟨h1, h2, h3, h4, h5, h6, h7, h8⟩ := h
  rw [gd_t (decide_eq_true (by simp; omega))]
  refine ⟨_, _, rfl, by omega, r3, ?_, by show m.Keys.length + _ ≤ _; omega, by show m.Got.length + _ ≤ _; omega, fun x hx => ?_, h6, h7, h8⟩
  ·show (m.Entries ++ [_]).length + _ ≤ _
   rw [List.length_append, List.length_singleton]; omega
  ·rcases List.mem_append.1 hx with hx | hx
   ·exact h5 x hx
   ·rw [List.mem_singleton.1 hx]
    exact hs
 unfold msg_Take_1
 rw [bd_s e1]; dsimp only
 rw [bd_s e2]; dsimp only
 cases v2
 ·obtain ⟨t, o3, e3, hs, r3, w3⟩ := rtxn hf r2
  rw [br_t (by rfl), bd_s e3]
  exact fin hs r3 w3
 ·rw [br_f (by rfl)]
  exact fin TxS.none r2 (Nat.le_refl _)
theorem t2 {fu : Nat} (hf : 300 ≤ fu) {o : TReader} {m : TMsg} (h : Im o m) (hb : o.bad = false) : ∃ m' o', msg_Take_2 fu m o = some (m', o') ∧ W o' < W o ∧ Im o' m' := by
 obtain ⟨s1, o1, e1, a1, r1, w1, w1'⟩ := rtext (fu := fu) (by omega) h.rd
 have := w1' hb
 obtain ⟨h1, h2, h3, h4, h5, h6, h7, h8⟩ := h
 unfold msg_Take_2
 rw [bd_s e1]; dsimp only; rw [gd_t (decide_eq_true (by simp; omega))]
 refine ⟨_, _, rfl, by omega, r1, by show m.Entries.length + _ ≤ _; omega, ?_, by show m.Got.length + _ ≤ _; omega, h5, h6, fun x hx => ?_, h8⟩
 ·show (m.Keys ++ [_]).length + _ ≤ _
  rw [List.length_append, List.length_singleton]; omega
 ·rcases List.mem_append.1 hx with hx | hx
  ·exact h7 x hx
  ·rw [List.mem_singleton.1 hx]
   exact a1
theorem t3 {fu : Nat} (hf : 300 ≤ fu) {o : TReader} {m : TMsg} (h : Im o m) (hb : o.bad = false) : ∃ m' o', msg_Take_3 fu m o = some (m', o') ∧ W o' < W o ∧ Im o' m' := by
 obtain ⟨s1, o1, e1, a1, r1, w1, w1'⟩ := rtext (fu := fu) (by omega) h.rd
 obtain ⟨v2, o2, e2, _, r2, w2, _⟩ := rnum (fu := fu) (by omega) r1
 obtain ⟨s3, o3, e3, a3, r3, w3, _⟩ := rtext (fu := fu) (by omega) r2
 obtain ⟨v4, o4, e4, r4, w4, _⟩ := rflag (fu := fu) (by omega) r3
 have := w1' hb
 obtain ⟨h1, h2, h3, h4, h5, h6, h7, h8⟩ := h
 unfold msg_Take_3
 rw [bd_s e1]; dsimp only; rw [bd_s e2]; dsimp only; rw [bd_s e3]; dsimp only; rw [bd_s e4]; dsimp only; rw [gd_t (decide_eq_true (by simp; omega))]
 refine ⟨_, _, rfl, by omega, r4, by show m.Entries.length + _ ≤ _; omega, by show m.Keys.length + _ ≤ _; omega, ?_, h5, h6, h7, fun x hx => ?_⟩
 ·show (m.Got ++ [_]).length + _ ≤ _
  rw [List.length_append, List.length_singleton]; omega
 ·rcases List.mem_append.1 hx with hx | hx
  ·exact h8 x hx
  ·rw [List.mem_singleton.1 hx]
   exact a1
theorem many1 {fu : Nat} (hf : 300 ≤ fu) {o : TReader} {m : TMsg} (h : Im o m) : ∃ o' m', msg_reader_many fu o m = some (o', m') ∧ Im o' m' := by
 obtain ⟨v, o1, e1, a1, r1, w1, _⟩ := rnum (fu := fu) (by omega) h.rd
 have l1 := r1.W
 obtain ⟨o2, m2, e2, w2, i2⟩ := many (bad := TReader.bad) (ω := W) (I := Im) (lp := msg_reader_many.lp2 fu) (f := msg_Take_1 fu) (fun n i o s => rfl) (fun o s hI hb => t1 hf hI hb) fu v o1 m a1.1 a1.2 (h.le r1 w1) (by omega)
 refine ⟨o2, m2, ?_, i2⟩
 unfold msg_reader_many
 rw [bd_s e1]; dsimp only
 rw [bd_s e2]
theorem many2 {fu : Nat} (hf : 300 ≤ fu) {o : TReader} {m : TMsg} (h : Im o m) : ∃ o' m', msg_reader_many_2 fu o m = some (o', m') ∧ Im o' m' := by
 obtain ⟨v, o1, e1, a1, r1, w1, _⟩ := rnum (fu := fu) (by omega) h.rd
 have l1 := r1.W
 obtain ⟨o2, m2, e2, w2, i2⟩ := many (bad := TReader.bad) (ω := W) (I := Im) (lp := msg_reader_many_2.lp2 fu) (f := msg_Take_2 fu) (fun n i o s => rfl) (fun o s hI hb => t2 hf hI hb) fu v o1 m a1.1 a1.2 (h.le r1 w1) (by omega)
 refine ⟨o2, m2, ?_, i2⟩
 unfold msg_reader_many_2
 rw [bd_s e1]; dsimp only
 rw [bd_s e2]
theorem many3 {fu : Nat} (hf : 300 ≤ fu) {o : TReader} {m : TMsg} (h : Im o m) : ∃ o' m', msg_reader_many_3 fu o m = some (o', m') ∧ Im o' m' := by
 obtain ⟨v, o1, e1, a1, r1, w1, _⟩ := rnum (fu := fu) (by omega) h.rd
 have l1 := r1.W
 obtain ⟨o2, m2, e2, w2, i2⟩ := many (bad := TReader.bad) (ω := W) (I := Im) (lp := msg_reader_many_3.lp2 fu) (f := msg_Take_3 fu) (fun n i o s => rfl) (fun o s hI hb => t3 hf hI hb) fu v o1 m a1.1 a1.2 (h.le r1 w1) (by omega)
 refine ⟨o2, m2, ?_, i2⟩
 unfold msg_reader_many_3
 rw [bd_s e1]; dsimp only
 rw [bd_s e2]
theorem Im.f {o : TReader} {m : TMsg} (h : Im o m) {fu : Nat} (hf : 300 ≤ fu) : MsF fu 201 m ∧ VerM m := by
 obtain ⟨h1, h2, h3, h4, h5, h6, h7, h8⟩ := h
 have hr := h6.r
 have hw := h6.w
 refine ⟨⟨⟨⟨by omega, fun e he => ⟨(h5 e he).r, (h5 e he).w⟩⟩, hr, hw, by omega, by omega⟩, by omega, by omega, by omega, h6.f hf, fun e he => (h5 e he).f hf, fun k hk => by have := h7 k hk; omega, fun r hr => by have := h8 r hr; omega⟩, h6.v, fun e he => (h5 e he).v⟩
theorem Im.put {o : TReader} {m : TMsg} (h : Im o m) {fu : Nat} (hf : 300 ≤ fu) : ∃ c p, msg_May fu m = some c ∧ diwanref1_MayMsg fu m = some c ∧ msg_Put fu m = some p ∧ (c = false → p = []) := by
 obtain ⟨hm, hv⟩ := h.f hf
 by_cases hk : 1 ≤ m.Kind ∧ m.Kind ≤ 9
 ·have m1 := may_e hm hk
  have m2 := rmay_e hm hk
  cases hb : mayM fu m
  ·rw [hb] at m1 m2
   exact ⟨false, [], m1, m2, put_none m1, fun _ => rfl⟩
  ·have hp := (put_some (by omega) hm hk hb hv).1
   rw [hb] at m1 m2
   exact ⟨true, _, m1, m2, hp, fun h => by cases h⟩
 ·obtain ⟨m1, m2⟩ := may_no hm hk
  exact ⟨false, [], m1, m2, put_none m1, fun _ => rfl⟩
def noMsg : TMsg := TMsg.mk 0 0 0 0 0 0 0 0 false [] (TTxn.mk 0 0 [] []) 0 0 0 0 false ByteArray.empty ByteArray.empty [] [] 0
def tailM (fu : Nat) (b : List Int) (j31_2 : TMsg) (j31_3 : TReader) : Option (TMsg × Bool) :=
 bd (msg_reader_flag fu j31_3) fun (r32_1, r32_2) =>
 bd (msg_reader_text fu r32_2) fun (r32_4, r32_5) =>
 bd (msg_reader_text fu r32_5) fun (r32_7, r32_8) =>
 bd (msg_reader_many_2 fu r32_8 (TMsg.mk j31_2.Kind j31_2.From j31_2.To j31_2.Part j31_2.Term j31_2.Index j31_2.LogTerm j31_2.Commit j31_2.OK j31_2.Entries j31_2.T j31_2.Session j31_2.Seq j31_2.Pos j31_2.Shard r32_1 r32_4 r32_7 j31_2.Keys j31_2.Got j31_2.Err)) fun (r33_1, r33_2) =>
 bd (msg_reader_many_3 fu r33_1 r33_2) fun (r34_1, r34_2) =>
 bd (msg_reader_num fu r34_1) fun (r35_1, r35_2) =>
 bd (msg_Put fu (TMsg.mk r34_2.Kind r34_2.From r34_2.To r34_2.Part r34_2.Term r34_2.Index r34_2.LogTerm r34_2.Commit r34_2.OK r34_2.Entries r34_2.T r34_2.Session r34_2.Seq r34_2.Pos r34_2.Shard r34_2.Span r34_2.FromKey r34_2.ToKey r34_2.Keys r34_2.Got r35_1)) fun r36_1 =>
 br r35_2.bad
  (some ((TMsg.mk 0 0 0 0 0 0 0 0 false [] (TTxn.mk 0 0 [] []) 0 0 0 0 false ByteArray.empty ByteArray.empty [] [] 0), false))
  (br r36_1.isEmpty
  (some ((TMsg.mk 0 0 0 0 0 0 0 0 false [] (TTxn.mk 0 0 [] []) 0 0 0 0 false ByteArray.empty ByteArray.empty [] [] 0), false))
  (bd (bytes_Equal r36_1 b) fun r37_3 =>
  br (!r37_3)
   (some ((TMsg.mk 0 0 0 0 0 0 0 0 false [] (TTxn.mk 0 0 [] []) 0 0 0 0 false ByteArray.empty ByteArray.empty [] [] 0), false))
   (some ((TMsg.mk r34_2.Kind r34_2.From r34_2.To r34_2.Part r34_2.Term r34_2.Index r34_2.LogTerm r34_2.Commit r34_2.OK r34_2.Entries r34_2.T r34_2.Session r34_2.Seq r34_2.Pos r34_2.Shard r34_2.Span r34_2.FromKey r34_2.ToKey r34_2.Keys r34_2.Got r35_1), true))))
def Good (fu : Nat) (b : List Int) (r : Option (TMsg × Bool)) : Prop := ∃ m ok, r = some (m, ok) ∧ ((ok = false ∧ m = noMsg) ∨ (ok = true ∧ ∃ p, msg_Put fu m = some p ∧ ((strB p).toList == (strB b).toList) = true ∧ msg_May fu m = some true ∧ diwanref1_MayMsg fu m = some true))
theorem tail_e {fu : Nat} (hf : 300 ≤ fu) (b : List Int) {m : TMsg} {o : TReader} (h : Im o m) : Good fu b (tailM fu b m o) := by
 obtain ⟨v1, o1, e1, r1, w1, _⟩ := rflag (fu := fu) (by omega) h.rd
 obtain ⟨s2, o2, e2, a2, r2, w2, _⟩ := rtext (fu := fu) (by omega) r1
 obtain ⟨s3, o3, e3, a3, r3, w3, _⟩ := rtext (fu := fu) (by omega) r2
 obtain ⟨h1, h2, h3, h4, h5, h6, h7, h8⟩ := h.le r3 (by omega)
 have i3 : Im o3 (TMsg.mk m.Kind m.From m.To m.Part m.Term m.Index m.LogTerm m.Commit m.OK m.Entries m.T m.Session m.Seq m.Pos m.Shard v1 s2 s3 m.Keys m.Got m.Err) := ⟨h1, h2, h3, h4, h5, h6, h7, h8⟩
 obtain ⟨o4, m4, e4, i4⟩ := many2 hf i3
 obtain ⟨o5, m5, e5, i5⟩ := many3 hf i4
 obtain ⟨v6, o6, e6, _, r6, w6, _⟩ := rnum (fu := fu) (by omega) i5.rd
 obtain ⟨g1, g2, g3, g4, g5, g6, g7, g8⟩ := i5.le r6 w6
 have i6 : Im o6 (TMsg.mk m5.Kind m5.From m5.To m5.Part m5.Term m5.Index m5.LogTerm m5.Commit m5.OK m5.Entries m5.T m5.Session m5.Seq m5.Pos m5.Shard m5.Span m5.FromKey m5.ToKey m5.Keys m5.Got v6) := ⟨g1, g2, g3, g4, g5, g6, g7, g8⟩
 obtain ⟨c, p, k1, k2, k3, k4⟩ := i6.put hf
 have hno : Good fu b (some (noMsg, false)) := ⟨noMsg, false, rfl, .inl ⟨rfl, rfl⟩⟩
 unfold tailM
 rw [bd_s e1]; dsimp only
 rw [bd_s e2]; dsimp only
 rw [bd_s e3]; dsimp only
 rw [bd_s e4]; dsimp only
 rw [bd_s e5]; dsimp only
 rw [bd_s e6]; dsimp only
 rw [bd_s k3]
 cases hbad : o6.bad
 ·rw [br_f rfl]
  cases he : p.isEmpty
  ·rw [br_f rfl]
   unfold bytes_Equal
   rw [bd_s rfl]
   cases hq : ((strB p).toList == (strB b).toList)
   ·rw [br_t (by rfl)]; exact hno
   ·rw [br_f (by rfl)]
    cases c
    ·rw [k4 rfl] at he; cases he
    ·exact ⟨_, true, rfl, .inr ⟨rfl, p, k3, hq, k1, k2⟩⟩
  ·rw [br_t rfl]; exact hno
 ·rw [br_t rfl]; exact hno
theorem take_e {fu : Nat} (hf : 300 ≤ fu) {b : List Int} (hb : Bytes b) (hl : b.length ≤ 200) : Good fu b (msg_Take fu b) := by
 have r0 : Rd (TReader.mk b false) := ⟨hb, hl⟩
 obtain ⟨v1, o1, e1, _, r1, _, _⟩ := rnum (fu := fu) (by omega) r0
 obtain ⟨v2, o2, e2, _, r2, _, _⟩ := rnum (fu := fu) (by omega) r1
 obtain ⟨v3, o3, e3, _, r3, _, _⟩ := rnum (fu := fu) (by omega) r2
 obtain ⟨v4, o4, e4, _, r4, _, _⟩ := rnum (fu := fu) (by omega) r3
 have l4 := r4.W
 have i4 : Im o4 (TMsg.mk v1 v2 v3 v4 0 0 0 0 false [] (TTxn.mk 0 0 [] []) 0 0 0 0 false ByteArray.empty ByteArray.empty [] [] 0) := ⟨r4, by simpa using l4, by simpa using l4, by simpa using l4, fun x h => by simp at h, TxS.none, fun x h => by simp at h, fun x h => by simp at h⟩
 obtain ⟨m5, o5, e5, i5⟩ := num8 (fu := fu) (by omega) b (TMsg.mk 0 0 0 0 0 0 0 0 false [] (TTxn.mk 0 0 [] []) 0 0 0 0 false ByteArray.empty ByteArray.empty [] [] 0) 8 0 fu _ o4 rfl i4 (by omega)
 simp only [Int.natCast_zero] at e5
 obtain ⟨v6, o6, e6, r6, w6, _⟩ := rflag (fu := fu) (by omega) i5.rd
 obtain ⟨h1, h2, h3, h4, h5, h6, h7, h8⟩ := i5.le r6 w6
 have i6 : Im o6 (TMsg.mk m5.Kind m5.From m5.To m5.Part m5.Term m5.Index m5.LogTerm m5.Commit v6 m5.Entries m5.T m5.Session m5.Seq m5.Pos m5.Shard m5.Span m5.FromKey m5.ToKey m5.Keys m5.Got m5.Err) := ⟨h1, h2, h3, h4, h5, h6, h7, h8⟩
 obtain ⟨o7, m7, e7, i7⟩ := many1 hf i6
 unfold msg_Take
 rw [bd_s e1]; dsimp only
 rw [bd_s e2]; dsimp only
 rw [bd_s e3]; dsimp only
 rw [bd_s e4]; dsimp only
 rw [bd_s e5]; dsimp only
 rw [bd_s e6]; dsimp only
 rw [bd_s e7]; dsimp only
 rw [jn_e]
 cases hK : (m7.Kind == 5)
 ·rw [br_f rfl]
  exact tail_e hf b i7
 ·obtain ⟨t, o8, e8, hs, r8, w8⟩ := rtxn hf i7.rd
  obtain ⟨g1, g2, g3, g4, g5, g6, g7, g8⟩ := i7.le r8 w8
  rw [br_t rfl, bd_s e8]
  exact tail_e hf b (m := TMsg.mk m7.Kind m7.From m7.To m7.Part m7.Term m7.Index m7.LogTerm m7.Commit m7.OK m7.Entries t m7.Session m7.Seq m7.Pos m7.Shard m7.Span m7.FromKey m7.ToKey m7.Keys m7.Got m7.Err) ⟨g1, g2, g3, g4, g5, hs, g7, g8⟩
end Go.Proofs.Ytbflggolnolaeaa.Told.MG
