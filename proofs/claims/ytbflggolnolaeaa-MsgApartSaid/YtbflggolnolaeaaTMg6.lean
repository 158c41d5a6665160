/- Unlike letters have unlike bytes. -/
import Derived.Test.YtbflggolnolaeaaTMg5
namespace Go.Proofs.Ytbflggolnolaeaa.Told.MG
open Go Go.Proofs.Ytbflggolnolaeaa.Vam Go.Proofs.Ytbflggolnolaeaa.Told Go.Proofs.Ytbflggolnolaeaa.Told.ST Go.Proofs.Ytbflggolnolaeaa.Told.NM
set_option linter.unusedSimpArgs false
set_option linter.unusedVariables false
theorem flg_cut {a b : Bool} {r s : List Int} (h : [flg a] ++ r = [flg b] ++ s) : a = b ∧ r = s := by
 simp only [List.singleton_append, List.cons.injEq] at h
 refine ⟨?_, h.2⟩
 have := h.1
 cases a <;> cases b <;> first | rfl | (exfalso; revert this; decide)
theorem rdL_cut {a b : TRead} {r s : List Int} (ha : (a.Key.size ≤ 255 ∧ a.Val.size ≤ 255) ∧ 0 ≤ a.Version ∧ a.Version < 9223372036854775808) (hb : (b.Key.size ≤ 255 ∧ b.Val.size ≤ 255) ∧ 0 ≤ b.Version ∧ b.Version < 9223372036854775808) (h : rdL a ++ r = rdL b ++ s) : a = b ∧ r = s := by
 unfold rdL at h
 simp only [List.append_assoc] at h
 obtain ⟨h1, h⟩ := tx_cut ha.1.1 hb.1.1 h
 obtain ⟨h2, h⟩ := nm_cut ha.2 hb.2 h
 obtain ⟨h3, h⟩ := tx_cut ha.1.2 hb.1.2 h
 obtain ⟨h4, hz⟩ := flg_cut h
 cases a; cases b
 dsimp only at h1 h2 h3 h4
 subst h1; subst h2; subst h3; subst h4
 exact ⟨rfl, hz⟩
theorem wrL_cut {a b : TWrite} {r s : List Int} (ha : a.Key.size ≤ 255 ∧ a.Val.size ≤ 255) (hb : b.Key.size ≤ 255 ∧ b.Val.size ≤ 255) (h : wrL a ++ r = wrL b ++ s) : a = b ∧ r = s := by
 unfold wrL at h
 simp only [List.append_assoc] at h
 obtain ⟨h1, h⟩ := tx_cut ha.1 hb.1 h
 obtain ⟨h3, h⟩ := tx_cut ha.2 hb.2 h
 obtain ⟨h4, hz⟩ := flg_cut h
 cases a; cases b
 dsimp only at h1 h3 h4
 subst h1; subst h3; subst h4
 exact ⟨rfl, hz⟩
theorem txnL_cut {fu : Nat} {a b : TTxn} {r s : List Int} (ha : TxM fu a ∧ VerT a) (hb : TxM fu b ∧ VerT b) (h : txnL a ++ r = txnL b ++ s) : a = b ∧ r = s := by
 obtain ⟨ma, va⟩ := ha
 obtain ⟨mb, vb⟩ := hb
 have a1 := ma.se
 have a2 := ma.sq
 have a3 := ma.rl
 have a4 := ma.wl
 have b1 := mb.se
 have b2 := mb.sq
 have b3 := mb.rl
 have b4 := mb.wl
 unfold txnL at h
 simp only [List.append_assoc] at h
 obtain ⟨h1, h⟩ := nms_cut (a := [a.Session, a.Seq, (a.Reads.length : Int)]) (b := [b.Session, b.Seq, (b.Reads.length : Int)]) rfl (fun v hv => by simp at hv; omega) (fun v hv => by simp at hv; omega) h
 simp only [List.cons.injEq, and_true] at h1
 obtain ⟨c1, c2, c3⟩ := h1
 obtain ⟨h2, h⟩ := rows_cut (e := rdL) rdL_cut (by omega) (fun x hx => by have := ma.rk x hx; have := ma.rd x hx; have := va x hx; omega) (fun x hx => by have := mb.rk x hx; have := mb.rd x hx; have := vb x hx; omega) h
 obtain ⟨h3, h⟩ := nms_cut (a := [(a.Writes.length : Int)]) (b := [(b.Writes.length : Int)]) rfl (fun v hv => by simp at hv; omega) (fun v hv => by simp at hv; omega) h
 simp only [List.cons.injEq, and_true] at h3
 obtain ⟨h4, hz⟩ := rows_cut (e := wrL) wrL_cut (by omega) (fun x hx => by have := ma.wk x hx; have := ma.wr x hx; omega) (fun x hx => by have := mb.wk x hx; have := mb.wr x hx; omega) h
 cases a; cases b
 dsimp only at c1 c2 h2 h4
 subst c1; subst c2; subst h2; subst h4
 exact ⟨rfl, hz⟩
theorem entL_cut {fu : Nat} {a b : TEntry} {r s : List Int} (ha : entB fu a = true ∧ VerT a.T) (hb : entB fu b = true ∧ VerT b.T) (h : entL a ++ r = entL b ++ s) : a = b ∧ r = s := by
 obtain ⟨ea, va⟩ := ha
 obtain ⟨eb, vb⟩ := hb
 simp only [entB, Bool.and_eq_true, decide_eq_true_eq] at ea eb
 obtain ⟨a1, a2, a3⟩ := ea
 obtain ⟨b1, b2, b3⟩ := eb
 unfold entL at h
 simp only [List.append_assoc] at h
 obtain ⟨h1, h⟩ := nms_cut (a := [a.Term]) (b := [b.Term]) rfl (fun v hv => by simp at hv; omega) (fun v hv => by simp at hv; omega) h
 simp only [List.cons.injEq, and_true] at h1
 obtain ⟨h2, h⟩ := flg_cut h
 have fin : a.T = b.T → a = b := fun e => by
  cases a; cases b
  dsimp only at h1 h2 e
  subst h1; subst h2; subst e; rfl
 cases hs : a.Seal
 ·have hs' : b.Seal = false := by rw [← h2]; exact hs
  rw [hs] at a1
  rw [hs'] at b1
  rw [hs, hs'] at h
  simp only [cond_false] at h a1 b1
  obtain ⟨h3, h⟩ := txnL_cut (fu := fu) ⟨txnB_m a1, va⟩ ⟨txnB_m b1, vb⟩ h
  exact ⟨fin h3, h⟩
 ·have hs' : b.Seal = true := by rw [← h2]; exact hs
  rw [hs] at a1
  rw [hs'] at b1
  rw [hs, hs'] at h
  simp only [cond_true, List.nil_append] at h a1 b1
  exact ⟨fin (((txB_iff _ _).1 a1).trans ((txB_iff _ _).1 b1).symm), h⟩
theorem gtL_cut {a b : TRead} {r s : List Int} (ha : gtOk a = true ∧ a.Key.size ≤ 8) (hb : gtOk b = true ∧ b.Key.size ≤ 8) (h : gtL a ++ r = gtL b ++ s) : a = b ∧ r = s := by
 obtain ⟨ea, ka⟩ := ha
 obtain ⟨eb, kb⟩ := hb
 simp only [gtOk, Bool.and_eq_true, decide_eq_true_eq] at ea eb
 refine rdL_cut (by omega) (by omega) ?_
 unfold gtL at h
 rw [nms_one, nms_one] at h
 exact h
theorem bare_t {m : TMsg} (hb : bareM m = m) (hk : 1 ≤ m.Kind ∧ m.Kind ≤ 9) (h5 : m.Kind ≠ 5) : m.T = TTxn.mk 0 0 [] [] := by
 rw [← hb]
 unfold bareM diwanref1_bare
 by_cases h1 : m.Kind = 1
 ·rw [br_t (b := m.Kind == 1) (by rw [h1]; rfl)]; rfl
 rw [br_f (b := m.Kind == 1) (beq_eq_false_iff_ne.2 h1)]
 by_cases h2 : m.Kind = 2
 ·rw [br_t (b := m.Kind == 2) (by rw [h2]; rfl)]; rfl
 rw [br_f (b := m.Kind == 2) (beq_eq_false_iff_ne.2 h2)]
 by_cases h3 : m.Kind = 3
 ·rw [br_t (b := m.Kind == 3) (by rw [h3]; rfl)]; rfl
 rw [br_f (b := m.Kind == 3) (beq_eq_false_iff_ne.2 h3)]
 by_cases h4 : m.Kind = 4
 ·rw [br_t (b := m.Kind == 4) (by rw [h4]; rfl)]; rfl
 rw [br_f (b := m.Kind == 4) (beq_eq_false_iff_ne.2 h4), br_f (b := m.Kind == 5) (beq_eq_false_iff_ne.2 h5)]
 by_cases h6 : m.Kind = 6
 ·rw [br_t (b := m.Kind == 6) (by rw [h6]; rfl)]; rfl
 rw [br_f (b := m.Kind == 6) (beq_eq_false_iff_ne.2 h6)]
 by_cases h7 : m.Kind = 7
 ·rw [br_t (b := m.Kind == 7) (by rw [h7]; rfl)]; rfl
 rw [br_f (b := m.Kind == 7) (beq_eq_false_iff_ne.2 h7)]
 by_cases h8 : m.Kind = 8
 ·rw [br_t (b := m.Kind == 8) (by rw [h8]; rfl)]; rfl
 rw [br_f (b := m.Kind == 8) (beq_eq_false_iff_ne.2 h8), br_t (b := m.Kind == 9) (beq_iff_eq.2 (by omega))]; rfl
theorem put_inj {fu : Nat} {x y : TMsg} (hx : MM fu x) (hy : MM fu y) (kx : 1 ≤ x.Kind ∧ x.Kind ≤ 9) (ky : 1 ≤ y.Kind ∧ y.Kind ≤ 9) (vx : VerM x) (vy : VerM y) (h : putM x = putM y) : x = y := by
 have a1 := hx.fr
 have a2 := hx.to
 have a3 := hx.pt
 have a4 := hx.el
 have a5 := hx.kl
 have a6 := hx.gl
 have a7 := hx.er
 have b1 := hy.fr
 have b2 := hy.to
 have b3 := hy.pt
 have b4 := hy.el
 have b5 := hy.kl
 have b6 := hy.gl
 have b7 := hy.er
 have f1 := hx.fk
 have f2 := hx.tk
 have f3 := hy.fk
 have f4 := hy.tk
 unfold putM at h
 simp only [List.append_assoc] at h
 obtain ⟨h1, h⟩ := nms_cut (a := [x.Kind, x.From, x.To, x.Part]) (b := [y.Kind, y.From, y.To, y.Part]) rfl (fun v hv => by simp at hv; omega) (fun v hv => by simp at hv; omega) h
 simp only [List.cons.injEq, and_true] at h1
 obtain ⟨c1, c2, c3, c4⟩ := h1
 obtain ⟨h2, h⟩ := nms_cut (a := numsOf x) (b := numsOf y) rfl (fun v hv => by have := hx.nu v hv; omega) (fun v hv => by have := hy.nu v hv; omega) h
 simp only [numsOf, List.cons.injEq, and_true] at h2
 obtain ⟨d1, d2, d3, d4, d5, d6, d7, d8⟩ := h2
 obtain ⟨c5, h⟩ := flg_cut h
 obtain ⟨h3, h⟩ := nms_cut (a := [(x.Entries.length : Int)]) (b := [(y.Entries.length : Int)]) rfl (fun v hv => by simp at hv; omega) (fun v hv => by simp at hv; omega) h
 simp only [List.cons.injEq, and_true] at h3
 obtain ⟨c6, h⟩ := rows_cut (e := entL) (P := fun e => entB fu e = true ∧ VerT e.T) entL_cut (by omega) (fun e he => ⟨hx.en e he, vx.2 e he⟩) (fun e he => ⟨hy.en e he, vy.2 e he⟩) h
 have ht : x.T = y.T ∧ [flg x.Span] ++ (tx x.FromKey ++ (tx x.ToKey ++ (nms [(x.Keys.length : Int)] ++ ((x.Keys.map tx).flatten ++ (nms [(x.Got.length : Int)] ++ ((x.Got.map gtL).flatten ++ nms [x.Err])))))) = [flg y.Span] ++ (tx y.FromKey ++ (tx y.ToKey ++ (nms [(y.Keys.length : Int)] ++ ((y.Keys.map tx).flatten ++ (nms [(y.Got.length : Int)] ++ ((y.Got.map gtL).flatten ++ nms [y.Err])))))) := by
  by_cases hq : x.Kind = 5
  ·have hq' : y.Kind = 5 := by omega
   rw [hq, hq'] at h
   exact txnL_cut (fu := fu) ⟨txnB_m (hx.t hq), vx.1⟩ ⟨txnB_m (hy.t hq'), vy.1⟩ h
  ·have hq' : y.Kind ≠ 5 := by omega
   rw [beq_eq_false_iff_ne.2 hq, beq_eq_false_iff_ne.2 hq'] at h
   exact ⟨(bare_t hx.bare kx hq).trans (bare_t hy.bare ky hq').symm, h⟩
 obtain ⟨c7, h⟩ := ht
 obtain ⟨c8, h⟩ := flg_cut h
 obtain ⟨c9, h⟩ := tx_cut (by omega) (by omega) h
 obtain ⟨c10, h⟩ := tx_cut (by omega) (by omega) h
 obtain ⟨h4, h⟩ := nms_cut (a := [(x.Keys.length : Int)]) (b := [(y.Keys.length : Int)]) rfl (fun v hv => by simp at hv; omega) (fun v hv => by simp at hv; omega) h
 simp only [List.cons.injEq, and_true] at h4
 obtain ⟨c11, h⟩ := rows_cut (e := tx) (P := fun k => k.size ≤ 255) tx_cut (by omega) (fun k hk => by have := hx.ks k hk; omega) (fun k hk => by have := hy.ks k hk; omega) h
 obtain ⟨h5, h⟩ := nms_cut (a := [(x.Got.length : Int)]) (b := [(y.Got.length : Int)]) rfl (fun v hv => by simp at hv; omega) (fun v hv => by simp at hv; omega) h
 simp only [List.cons.injEq, and_true] at h5
 obtain ⟨c12, h⟩ := rows_cut (e := gtL) (P := fun r => gtOk r = true ∧ r.Key.size ≤ 8) gtL_cut (by omega) (fun r hr => ⟨hx.gt r hr, hx.gk r hr⟩) (fun r hr => ⟨hy.gt r hr, hy.gk r hr⟩) h
 obtain ⟨h6, h⟩ := nms_cut (a := [x.Err]) (b := [y.Err]) (r := []) (s := []) rfl (fun v hv => by simp at hv; omega) (fun v hv => by simp at hv; omega) (by simpa using h)
 simp only [List.cons.injEq, and_true] at h6
 cases x; cases y
 dsimp only at c1 c2 c3 c4 c5 c6 c7 c8 c9 c10 c11 c12 d1 d2 d3 d4 d5 d6 d7 d8 h6
 subst c1; subst c2; subst c3; subst c4; subst c5; subst c6; subst c7; subst c8; subst c9; subst c10; subst c11; subst c12; subst d1; subst d2; subst d3; subst d4; subst d5; subst d6; subst d7; subst d8; subst h6
 rfl
theorem fb (b : Bool) : Bytes [flg b] := fun x hx => by
 have := flg_le b
 simp at hx; omega
theorem txnL_bytes (t : TTxn) : Bytes (txnL t) := (((nms_bytes _).app (rows_bytes (fun r => (((tx_bytes _).app (nm_bytes _)).app (tx_bytes _)).app (fb _)) _)).app (nms_bytes _)).app (rows_bytes (fun w => ((tx_bytes _).app (tx_bytes _)).app (fb _)) _)
theorem entL_bytes (e : TEntry) : Bytes (entL e) := by
 unfold entL
 refine ((nms_bytes _).app (fb _)).app ?_
 cases e.Seal
 ·exact txnL_bytes _
 ·exact Bytes.nil
theorem put_bytes (m : TMsg) : Bytes (putM m) := by
 have h5 : Bytes (bif m.Kind == 5 then txnL m.T else []) := by
  cases (m.Kind == 5)
  ·exact Bytes.nil
  ·exact txnL_bytes _
 exact (((((((((((((nms_bytes _).app (nms_bytes _)).app (fb _)).app (nms_bytes _)).app (rows_bytes entL_bytes _)).app h5).app (fb _)).app (tx_bytes _)).app (tx_bytes _)).app (nms_bytes _)).app (rows_bytes tx_bytes _)).app (nms_bytes _)).app (rows_bytes (fun r => (((tx_bytes _).app (nms_bytes _)).app (tx_bytes _)).app (fb _)) _)).app (nms_bytes _)
end Go.Proofs.Ytbflggolnolaeaa.Told.MG
