/- Reading a shard: save.Take on any bytes, up to two hundred. -/
import Derived.Test.YthjpcfbfiaenaaaTSv5
import Derived.Test.YthjpcfbfiaenaaaTNumTake
namespace Go.Proofs.Ythjpcfbfiaenaaa.Told.SV
open Go Go.Proofs.Ythjpcfbfiaenaaa.Vam Go.Proofs.Ythjpcfbfiaenaaa.Told Go.Proofs.Ythjpcfbfiaenaaa.Told.CF Go.Proofs.Ythjpcfbfiaenaaa.Told.ST Go.Proofs.Ythjpcfbfiaenaaa.Told.NM Go.Proofs.Ythjpcfbfiaenaaa.Told.NT
set_option linter.unusedSimpArgs false
set_option linter.unusedVariables false
def W (o : TReader) : Nat := o.b.length + bif o.bad then 0 else 1
structure Rd (o : TReader) : Prop where
 bytes : Bytes o.b
 len : W o ≤ 201
theorem W_mk {b : List Int} {bad : Bool} : W (TReader.mk b bad) = b.length + bif bad then 0 else 1 := rfl
theorem rd_goes {b : List Int} {bad ok : Bool} {n : Nat} (h : Rd (TReader.mk b bad)) (hn : n ≤ b.length) (h1 : ok = true → 1 ≤ n) {r : Bool} (hr : r = bif bad then true else !ok) :
  Rd (TReader.mk (List.drop n b) r) ∧ W (TReader.mk (List.drop n b) r) ≤ W (TReader.mk b bad) ∧ (bad = false → W (TReader.mk (List.drop n b) r) < W (TReader.mk b bad)) := by
 have hl := h.len
 rw [W_mk] at hl
 have hw : W (TReader.mk (List.drop n b) r) ≤ W (TReader.mk b bad) ∧ (bad = false → W (TReader.mk (List.drop n b) r) < W (TReader.mk b bad)) := by
  subst hr
  rw [W_mk, W_mk, List.length_drop]
  cases bad
  ·cases ok
   ·simp; omega
   ·have := h1 rfl
    simp; omega
  ·simp
 refine ⟨⟨h.bytes.drop n, ?_⟩, hw⟩
 have h2 := h.len
 omega
theorem rnum {fu : Nat} (hf : 10 ≤ fu) {o : TReader} (h : Rd o) : ∃ v o', save_reader_num fu o = some (v, o') ∧ (0 ≤ v ∧ v < 9223372036854775808) ∧ Rd o' ∧ W o' ≤ W o ∧ (o.bad = false → W o' < W o) := by
 obtain ⟨b, bad⟩ := o
 obtain ⟨v, n, ok, e, h1, h2, h3, h4⟩ := tk_is h.bytes
 refine ⟨v, TReader.mk (List.drop n b) (bif bad then true else !ok), ?_, ⟨h1, h2⟩, rd_goes h h3 h4 rfl⟩
 have h3' : n ≤ b.length := h3
 unfold save_reader_num
 rw [bd_s (take h.bytes hf), e]
 cases bad
 ·show gd (decide ((0 : Int) ≤ (n : Int) ∧ (n : Int) ≤ (b.length : Int))) (some (v, TReader.mk (List.drop (n : Int).toNat b) (!ok))) = _
  rw [gd_t (decide_eq_true (by omega)), Int.toNat_natCast]; rfl
 ·show gd (decide ((0 : Int) ≤ (n : Int) ∧ (n : Int) ≤ (b.length : Int))) (some (v, TReader.mk (List.drop (n : Int).toNat b) true)) = _
  rw [gd_t (decide_eq_true (by omega)), Int.toNat_natCast]; rfl
theorem rtext {fu : Nat} (hf : 10 ≤ fu) {o : TReader} (h : Rd o) : ∃ s o', save_reader_text fu o = some (s, o') ∧ s.size ≤ 201 ∧ Rd o' ∧ W o' ≤ W o ∧ (o.bad = false → W o' < W o) := by
 obtain ⟨b, bad⟩ := o
 have hl := h.len
 rw [W_mk] at hl
 obtain ⟨s, n, ok, e, h3, h4, h5⟩ := takeTextG (fu := fu) h.bytes (by show b.length ≤ 1000; omega) hf
 refine ⟨s, TReader.mk (List.drop n b) (bif bad then true else !ok), ?_, by have : s.size ≤ b.length := h5; omega, rd_goes h h3 h4 rfl⟩
 have h3' : n ≤ b.length := h3
 unfold save_reader_text
 rw [bd_s e]
 cases bad
 ·show gd (decide ((0 : Int) ≤ (n : Int) ∧ (n : Int) ≤ (b.length : Int))) (some (s, TReader.mk (List.drop (n : Int).toNat b) (!ok))) = _
  rw [gd_t (decide_eq_true (by omega)), Int.toNat_natCast]; rfl
 ·show gd (decide ((0 : Int) ≤ (n : Int) ∧ (n : Int) ≤ (b.length : Int))) (some (s, TReader.mk (List.drop (n : Int).toNat b) true)) = _
  rw [gd_t (decide_eq_true (by omega)), Int.toNat_natCast]; rfl
structure Ic (o : TReader) (c : TChain) : Prop where
 rd : Rd o
 key : c.Key.size ≤ 201
 len : c.L.length + W o ≤ 201
theorem rver {fu : Nat} (hf : 10 ≤ fu) {o : TReader} {c : TChain} (h : Ic o c) (hb : o.bad = false) : ∃ c' o', save_reader_chain_1 fu c o = some (c', o') ∧ W o' < W o ∧ Ic o' c' := by
 obtain ⟨v1, o1, e1, _, r1, w1, w1'⟩ := rnum hf h.rd
 obtain ⟨v2, o2, e2, _, r2, w2, _⟩ := rnum hf r1
 obtain ⟨v3, o3, e3, _, r3, w3, _⟩ := rtext hf r2
 have := w1' hb
 have := h.len
 unfold save_reader_chain_1
 rw [bd_s e1]; dsimp only; rw [bd_s e2]; dsimp only; rw [bd_s e3]; dsimp only; rw [gd_t (decide_eq_true (by simp; omega))]
 refine ⟨_, _, rfl, by omega, r3, h.key, ?_⟩
 show (c.L ++ [_]).length + W o3 ≤ 201
 rw [List.length_append, List.length_singleton]; omega
theorem rchain {fu : Nat} (hf : 300 ≤ fu) {o : TReader} (h : Rd o) (hb : o.bad = false) : ∃ c' o', save_reader_chain fu o = some (c', o') ∧ W o' < W o ∧ Ic o' c' := by
 obtain ⟨k, o1, e1, hk, r1, w1, w1'⟩ := rtext (fu := fu) (by omega) h
 obtain ⟨v, o2, e2, hv, r2, w2, _⟩ := rnum (fu := fu) (by omega) r1
 have h2 := r2.len
 obtain ⟨o3, c, e3, w3, i3⟩ := many (bad := TReader.bad) (ω := W) (I := Ic) (lp := save_reader_many_2.lp1 fu) (f := save_reader_chain_1 fu) (fun n i o s => rfl) (fun o s hI hb => rver (by omega) hI hb) fu v o2 (TChain.mk k []) hv.1 hv.2 ⟨r2, hk, by simpa using h2⟩ (by omega)
 have := w1' hb
 unfold save_reader_chain save_reader_many_2
 refine ⟨c, o3, ?_, by omega, i3⟩
 rw [bd_s e1]; dsimp only; rw [bd_s e2]; dsimp only; rw [bd_s (x := (o3, c)) (by rw [bd_s e3])]
structure Iv (o : TReader) (s : TShard) : Prop where
 rd : Rd o
 done : 0 ≤ s.Done ∧ s.Done < 9223372036854775808
 mark : s.S.Mark < 9223372036854775808
 key : ∀ c ∈ s.S.Chains, c.Key.size ≤ 201 ∧ c.L.length ≤ 201
 ch : s.S.Chains.length + W o ≤ 201
 se : s.Seats.length + W o ≤ 201
 bi : s.Bits.length + W o ≤ 201
 sa : s.Said.length + W o ≤ 201
theorem Iv.le {o o' : TReader} {s : TShard} (h : Iv o s) (hr : Rd o') (hw : W o' ≤ W o) : Iv o' s := by
 obtain ⟨h1, h2, h3, h4, h5, h6, h7, h8⟩ := h
 exact ⟨hr, h2, h3, h4, by omega, by omega, by omega, by omega⟩
theorem t1 {fu : Nat} (hf : 300 ≤ fu) {o : TReader} {s : TShard} (h : Iv o s) (hb : o.bad = false) : ∃ s' o', save_Take_1 fu s o = some (s', o') ∧ W o' < W o ∧ Iv o' s' := by
 obtain ⟨c, o1, e1, w1, i1⟩ := rchain hf h.rd hb
 obtain ⟨h1, h2, h3, h4, h5, h6, h7, h8⟩ := h
 unfold save_Take_1
 rw [bd_s e1]; dsimp only; rw [gd_t (decide_eq_true (by simp; omega))]
 refine ⟨_, _, rfl, w1, i1.rd, h2, h3, fun c' hc => ?_, ?_, by show s.Seats.length + _ ≤ _; omega, by show s.Bits.length + _ ≤ _; omega, by show s.Said.length + _ ≤ _; omega⟩
 ·rcases List.mem_append.1 hc with hc | hc
  ·exact h4 c' hc
  ·have hc' : c' = c := by simpa using hc
   subst hc'
   have := i1.len
   exact ⟨i1.key, by omega⟩
 ·show (s.S.Chains ++ [c]).length + _ ≤ _
  rw [List.length_append, List.length_singleton]; omega
theorem t2 {fu : Nat} (hf : 300 ≤ fu) {o : TReader} {s : TShard} (h : Iv o s) (hb : o.bad = false) : ∃ s' o', save_Take_2 fu s o = some (s', o') ∧ W o' < W o ∧ Iv o' s' := by
 obtain ⟨v1, o1, e1, _, r1, w1, w1'⟩ := rnum (fu := fu) (by omega) h.rd
 obtain ⟨v2, o2, e2, _, r2, w2, _⟩ := rnum (fu := fu) (by omega) r1
 obtain ⟨v3, o3, e3, _, r3, w3, _⟩ := rnum (fu := fu) (by omega) r2
 have := w1' hb
 obtain ⟨h1, h2, h3, h4, h5, h6, h7, h8⟩ := h
 unfold save_Take_2
 rw [bd_s e1]; dsimp only; rw [bd_s e2]; dsimp only; rw [bd_s e3]; dsimp only; rw [gd_t (decide_eq_true (by simp; omega))]
 refine ⟨_, _, rfl, by omega, r3, h2, h3, h4, by show s.S.Chains.length + _ ≤ _; omega, ?_, by show s.Bits.length + _ ≤ _; omega, by show s.Said.length + _ ≤ _; omega⟩
 show (s.Seats ++ [_]).length + _ ≤ _
 rw [List.length_append, List.length_singleton]; omega
theorem t3 {fu : Nat} (hf : 300 ≤ fu) {o : TReader} {s : TShard} (h : Iv o s) (hb : o.bad = false) : ∃ s' o', save_Take_3 fu s o = some (s', o') ∧ W o' < W o ∧ Iv o' s' := by
 obtain ⟨v1, o1, e1, _, r1, w1, w1'⟩ := rnum (fu := fu) (by omega) h.rd
 have := w1' hb
 obtain ⟨h1, h2, h3, h4, h5, h6, h7, h8⟩ := h
 unfold save_Take_3
 rw [bd_s e1]; dsimp only; rw [gd_t (decide_eq_true (by simp; omega))]
 refine ⟨_, _, rfl, by omega, r1, h2, h3, h4, by show s.S.Chains.length + _ ≤ _; omega, by show s.Seats.length + _ ≤ _; omega, ?_, by show s.Said.length + _ ≤ _; omega⟩
 show (s.Bits ++ [_]).length + _ ≤ _
 rw [List.length_append, List.length_singleton]; omega
theorem t4 {fu : Nat} (hf : 300 ≤ fu) {o : TReader} {s : TShard} (h : Iv o s) (hb : o.bad = false) : ∃ s' o', save_Take_4 fu s o = some (s', o') ∧ W o' < W o ∧ Iv o' s' := by
 obtain ⟨v1, o1, e1, _, r1, w1, w1'⟩ := rnum (fu := fu) (by omega) h.rd
 have := w1' hb
 obtain ⟨h1, h2, h3, h4, h5, h6, h7, h8⟩ := h
 unfold save_Take_4
 rw [bd_s e1]; dsimp only; rw [gd_t (decide_eq_true (by simp; omega))]
 refine ⟨_, _, rfl, by omega, r1, h2, h3, h4, by show s.S.Chains.length + _ ≤ _; omega, by show s.Seats.length + _ ≤ _; omega, by show s.Bits.length + _ ≤ _; omega, ?_⟩
 show (s.Said ++ [_]).length + _ ≤ _
 rw [List.length_append, List.length_singleton]; omega
def noShard : TShard := TShard.mk 0 0 0 (TStore.mk [] 0) [] [] []
theorem take_e {fu : Nat} (hf : 300 ≤ fu) {b : List Int} (hb : Bytes b) (hl : b.length ≤ 200) : ∃ s ok, save_Take fu b = some (s, ok) ∧
  ((ok = false ∧ s = noShard) ∨ (ok = true ∧ ∃ p, save_Put fu s = some p ∧ ((strB p).toList == (strB b).toList) = true ∧ diwanref13_MayShard fu s = some true)) := by
 have r0 : Rd (TReader.mk b false) := ⟨hb, by rw [W_mk]; simp; omega⟩
 obtain ⟨v1, o1, e1, a1, r1, _, _⟩ := rnum (fu := fu) (by omega) r0
 obtain ⟨v2, o2, e2, a2, r2, _, _⟩ := rnum (fu := fu) (by omega) r1
 obtain ⟨v3, o3, e3, a3, r3, _, _⟩ := rnum (fu := fu) (by omega) r2
 obtain ⟨v4, o4, e4, a4, r4, _, _⟩ := rnum (fu := fu) (by omega) r3
 obtain ⟨v5, o5, e5, a5, r5, _, _⟩ := rnum (fu := fu) (by omega) r4
 have l5 := r5.len
 have i5 : Iv o5 (TShard.mk v1 v2 v3 (TStore.mk [] v4) [] [] []) := ⟨r5, a3, a4.2, fun c hc => by simp at hc, by simpa using l5, by simpa using l5, by simpa using l5, by simpa using l5⟩
 obtain ⟨o6, s6, e6, w6, i6⟩ := many (bad := TReader.bad) (ω := W) (I := Iv) (lp := save_reader_many.lp1 fu) (f := save_Take_1 fu) (fun n i o s => rfl) (fun o s hI hb => t1 hf hI hb) fu v5 o5 _ a5.1 a5.2 i5 (by omega)
 obtain ⟨v7, o7, e7, a7, r7, w7, _⟩ := rnum (fu := fu) (by omega) i6.rd
 have l7 := r7.len
 obtain ⟨o8, s8, e8, w8', i8⟩ := many (bad := TReader.bad) (ω := W) (I := Iv) (lp := save_reader_many_3.lp1 fu) (f := save_Take_2 fu) (fun n i o s => rfl) (fun o s hI hb => t2 hf hI hb) fu v7 o7 s6 a7.1 a7.2 (i6.le r7 w7) (by omega)
 have l8 := i8.rd.len
 obtain ⟨o9, s9, e9, w9, i9⟩ := many (bad := TReader.bad) (ω := W) (I := Iv) (lp := save_reader_many_4.lp1 fu) (f := save_Take_3 fu) (fun n i o s => rfl) (fun o s hI hb => t3 hf hI hb) fu s8.Done o8 s8 i8.done.1 i8.done.2 i8 (by omega)
 have l9 := i9.rd.len
 obtain ⟨oa, sa, ea, wa, ia⟩ := many (bad := TReader.bad) (ω := W) (I := Iv) (lp := save_reader_many_5.lp1 fu) (f := save_Take_4 fu) (fun n i o s => rfl) (fun o s hI hb => t4 hf hI hb) fu s9.Done o9 s9 i9.done.1 i9.done.2 i9 (by omega)
 obtain ⟨h1, h2, h3, h4, h5, h6, h7, h8⟩ := ia
 have hm : Sml 201 sa.S.Chains := ⟨by omega, fun c hc => (h4 c hc).2⟩
 obtain ⟨m, g1, g2, g3⟩ := may_eq (fu := fu) (N := 201) hm (fun c hc => by have := (h4 c hc).1; omega) (by omega) (by omega) (by omega) (by omega) (by omega)
 have hput : ∃ p, save_Put fu sa = some p ∧ (m = false → p = []) := by
  cases m
  ·exact ⟨[], put_none g1, fun _ => rfl⟩
  ·exact ⟨_, (put_some g1 (g3 rfl) hm (by omega) (by omega) (by omega) (by omega) h3 (by omega)).1, fun h => by cases h⟩
 obtain ⟨p, hp, hp0⟩ := hput
 unfold save_Take save_reader_many save_reader_many_3 save_reader_many_4 save_reader_many_5
 rw [bd_s e1]; dsimp only
 rw [bd_s e2]; dsimp only
 rw [bd_s e3]; dsimp only
 rw [bd_s e4]; dsimp only
 rw [bd_s e5]; dsimp only
 rw [bd_s (x := (o6, s6)) (by rw [bd_s e6])]; dsimp only
 rw [bd_s e7]; dsimp only
 rw [bd_s (x := (o8, s8)) (by rw [bd_s e8])]; dsimp only
 rw [bd_s (x := (o9, s9)) (by rw [bd_s e9])]; dsimp only
 rw [bd_s (x := (oa, sa)) (by rw [bd_s ea])]; dsimp only
 rw [bd_s hp]
 have hno : ∃ s ok, some (noShard, false) = some (s, ok) ∧ ((ok = false ∧ s = noShard) ∨ (ok = true ∧ ∃ p, save_Put fu s = some p ∧ ((strB p).toList == (strB b).toList) = true ∧ diwanref13_MayShard fu s = some true)) := ⟨noShard, false, rfl, .inl ⟨rfl, rfl⟩⟩
 cases hbad : oa.bad
 ·rw [br_f rfl]
  cases he : p.isEmpty
  ·rw [br_f rfl]
   unfold bytes_Equal
   rw [bd_s rfl]
   cases hq : ((strB p).toList == (strB b).toList)
   ·rw [br_t (by rfl)]; exact hno
   ·rw [br_f (by rfl)]
    refine ⟨sa, true, rfl, .inr ⟨rfl, p, hp, hq, ?_⟩⟩
    cases m
    ·rw [hp0 rfl] at he; cases he
    ·exact g2
  ·rw [br_t rfl]; exact hno
 ·rw [br_t rfl]; exact hno
end Go.Proofs.Ythjpcfbfiaenaaa.Told.SV
