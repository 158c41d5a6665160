/- A letter's bytes, as the program writes them. -/
import Derived.Test.YtbflggolnolaeaaTMg4
import Derived.Test.YtbflggolnolaeaaTNumPut
namespace Go.Proofs.Ytbflggolnolaeaa.Told.MG
open Go Go.Proofs.Ytbflggolnolaeaa.Vam Go.Proofs.Ytbflggolnolaeaa.Told Go.Proofs.Ytbflggolnolaeaa.Told.ST Go.Proofs.Ytbflggolnolaeaa.Told.NM
set_option linter.unusedSimpArgs false
set_option linter.unusedVariables false
set_option maxRecDepth 100000
theorem wnum_lp (fu : Nat) (hf : 9 ≤ fu) : ∀ (r q : List Int) (n : Nat) (w : TWriter), (q ++ r).length ≤ 1000000 → (∀ v ∈ r, v < 9223372036854775808) → w.b.length + 9 * r.length ≤ 4294967296 → r.length < n →
  msg_writer_num.lp2 fu (q ++ r) ((q ++ r).length : Int) n (q.length : Int) w = some (TWriter.mk (w.b ++ nms r))
 | [], q, n, w, hl, hv, hw, hn => by
  obtain ⟨n, rfl⟩ : ∃ m, n = m + 1 := ⟨n - 1, by omega⟩
  simp only [List.append_nil]
  rw [msg_writer_num.lp2, br_f (nlt_end _)]
  simp [nms]
 | v :: r, q, n, w, hl, hv, hw, hn => by
  obtain ⟨n, rfl⟩ : ∃ m, n = m + 1 := ⟨n - 1, by omega⟩
  have e : q ++ v :: r = (q ++ [v]) ++ r := by simp
  have h9 := nm_len (hv v (by simp))
  have hw' : w.b.length + 9 * r.length + 9 ≤ 4294967296 := by simp at hw; omega
  have ih := wnum_lp fu hf r (q ++ [v]) n (TWriter.mk (w.b ++ nm v)) (by rw [← e]; exact hl) (fun v h => hv v (by simp [h])) (by simp; omega) (by simp at hn; omega)
  rw [← e] at ih
  rw [msg_writer_num.lp2, br_t (lt_mid _ _ _), ix_mid, bd_s (nm_e (hv v (by simp)) hf), gd_t (decide_eq_true (by omega)), w64_len q r v (by omega), ih, nms_cons, List.append_assoc]
theorem wnum_e {fu : Nat} {l : List Int} {w : TWriter} (hf : 9 ≤ fu) (hl : l.length ≤ 1000000) (hv : ∀ v ∈ l, v < 9223372036854775808) (hw : w.b.length + 9 * l.length ≤ 4294967296) (hn : l.length < fu) : msg_writer_num fu l w = some (TWriter.mk (w.b ++ nms l)) := by
 have := wnum_lp fu hf l [] fu w hl hv hw hn
 simp only [List.nil_append, List.length_nil, Int.natCast_zero] at this
 unfold msg_writer_num
 rw [bd_s this]
theorem wtext_e {fu : Nat} {s : ByteArray} {w : TWriter} (hf : 9 ≤ fu) (hw : w.b.length + 300 ≤ 4294967296) : msg_writer_text fu s w = some (TWriter.mk (w.b ++ tx s)) := by
 have := tx_len s
 unfold msg_writer_text
 rw [bd_s (tx_e hf), gd_t (decide_eq_true (by omega))]
def flg (b : Bool) : Int := bif b then 1 else 0
theorem flg_le (b : Bool) : 0 ≤ flg b ∧ flg b ≤ 1 := by cases b <;> decide
theorem nms_one (v : Int) : nms [v] = nm v := by simp [nms]
theorem nms_flg (b : Bool) : nms [flg b] = [flg b] := by
 rw [nms_one, nm_pos (flg_le b).1]
 cases b
 ·exact enc_lt (by decide)
 ·exact enc_lt (by decide)
theorem wflag_e {fu : Nat} {b : Bool} {w : TWriter} (hf : 9 ≤ fu) (hw : w.b.length + 9 ≤ 4294967296) : msg_writer_flag fu b w = some (TWriter.mk (w.b ++ [flg b])) := by
 unfold msg_writer_flag
 cases b
 ·rw [br_f rfl, bd_s (wnum_e hf (by simp) (fun x hx => by simp at hx; omega) (by simpa using hw) (by simp; omega)), ← nms_flg]; rfl
 ·rw [br_t rfl, bd_s (wnum_e hf (by simp) (fun x hx => by simp at hx; omega) (by simpa using hw) (by simp; omega)), ← nms_flg]; rfl
theorem cc4_lp (fu : Nat) (z : List (List Int)) : ∀ (r q : List (List Int)) (n acc : Nat), (q ++ r).length ≤ 1000 → acc + (r.flatten).length ≤ 100000000 → r.length < n → slices_Concat_byte_byte.lp4 fu z (q ++ r) ((q ++ r).length : Int) n (acc : Int) (q.length : Int) = some ((acc + (r.flatten).length : Nat) : Int)
 | [], q, n, acc, hl, ha, hn => by
  obtain ⟨n, rfl⟩ : ∃ m, n = m + 1 := ⟨n - 1, by omega⟩
  simp only [List.append_nil]
  rw [slices_Concat_byte_byte.lp4, br_f (nlt_end _)]; simp
 | v :: r, q, n, acc, hl, ha, hn => by
  obtain ⟨n, rfl⟩ : ∃ m, n = m + 1 := ⟨n - 1, by omega⟩
  have e : q ++ v :: r = (q ++ [v]) ++ r := by simp
  have hfl : ((v :: r).flatten).length = v.length + (r.flatten).length := by simp
  rw [hfl] at ha ⊢
  have ih := cc4_lp fu z r (q ++ [v]) n (acc + v.length) (by rw [← e]; exact hl) (by omega) (by simp at hn; omega)
  rw [← e] at ih
  have ew : w64 ((acc : Int) + (v.length : Int)) = ((acc + v.length : Nat) : Int) := by rw [w64_id (by omega) (by omega)]; omega
  rw [slices_Concat_byte_byte.lp4, br_t (lt_mid _ _ _), ix_mid, ew, br_f (decide_eq_false (by omega)), w64_len q r v (by omega), ih, Nat.add_assoc]
theorem cc16_lp (fu : Nat) : ∀ (r q : List (List Int)) (n : Nat) (acc : List Int), (q ++ r).length ≤ 1000 → acc.length + (r.flatten).length ≤ 100000000 → r.length < n → slices_Concat_byte_byte.lp16 fu (q ++ r) ((q ++ r).length : Int) n acc (q.length : Int) = some (acc ++ r.flatten)
 | [], q, n, acc, hl, ha, hn => by
  obtain ⟨n, rfl⟩ : ∃ m, n = m + 1 := ⟨n - 1, by omega⟩
  simp only [List.append_nil]
  rw [slices_Concat_byte_byte.lp16, br_f (nlt_end _)]; simp
 | v :: r, q, n, acc, hl, ha, hn => by
  obtain ⟨n, rfl⟩ : ∃ m, n = m + 1 := ⟨n - 1, by omega⟩
  have e : q ++ v :: r = (q ++ [v]) ++ r := by simp
  have hfl : ((v :: r).flatten).length = v.length + (r.flatten).length := by simp
  rw [hfl] at ha
  have ih := cc16_lp fu r (q ++ [v]) n (acc ++ v) (by rw [← e]; exact hl) (by rw [List.length_append]; omega) (by simp at hn; omega)
  rw [← e] at ih
  rw [slices_Concat_byte_byte.lp16, br_t (lt_mid _ _ _), ix_mid, gd_t (decide_eq_true (by omega)), w64_len q r v (by omega), ih]
  simp
theorem cc_e {fu : Nat} {l : List (List Int)} (hl : l.length ≤ 1000) (ht : (l.flatten).length ≤ 100000000) (hf : l.length < fu) : slices_Concat_byte_byte fu l = some l.flatten := by
 have h1 := cc4_lp fu l l [] fu 0 hl (by omega) hf
 have h2 := cc16_lp fu l [] fu [] hl (by simpa using ht) hf
 simp only [List.nil_append, List.length_nil, Int.natCast_zero, Nat.zero_add] at h1 h2
 have hg : slices_Grow_byte_byte ((l.flatten).length : Int) = some [] := by
  have e0 : w64 (0 - 0) = 0 := by rw [w64_id (by omega) (by omega)]; rfl
  have e1 : w64 (((l.flatten).length : Int) - 0) = ((l.flatten).length : Int) := by rw [w64_id (by omega) (by omega)]; omega
  unfold slices_Grow_byte_byte
  rw [br_f (decide_eq_false (by omega)), e0, e1]
  by_cases h : ((l.flatten).length : Int) > 0
  ·rw [br_t (decide_eq_true h), gd_t (decide_eq_true (by simp)), gd_t (decide_eq_true (by omega)), gd_t (decide_eq_true (by show ([] : List Int).length + ((l.flatten).length : Int).toNat ≤ 4294967296; rw [Int.toNat_natCast]; simp only [List.length_nil]; omega)), gd_t (decide_eq_true (by simp))]
   rfl
  ·rw [br_f (decide_eq_false h)]
 unfold slices_Concat_byte_byte
 rw [bd_s h1, bd_s hg, bd_s h2]
def rdL (r : TRead) : List Int := tx r.Key ++ nm r.Version ++ tx r.Val ++ [flg r.There]
def wrL (w : TWrite) : List Int := tx w.Key ++ tx w.Val ++ [flg w.Gone]
def txnL (t : TTxn) : List Int := nms [t.Session, t.Seq, (t.Reads.length : Int)] ++ (t.Reads.map rdL).flatten ++ nms [(t.Writes.length : Int)] ++ (t.Writes.map wrL).flatten
theorem flag_e (b : Bool) : txn_flag b = some (flg b) := by cases b <;> rfl
theorem rdL_len {r : TRead} (h : r.Version < 9223372036854775808) : (rdL r).length ≤ 610 := by
 have := tx_len r.Key
 have := tx_len r.Val
 have := nm_len h
 unfold rdL
 simp only [List.length_append, List.length_cons, List.length_nil]; omega
theorem wrL_len (w : TWrite) : (wrL w).length ≤ 601 := by
 have := tx_len w.Key
 have := tx_len w.Val
 unfold wrL
 simp only [List.length_append, List.length_cons, List.length_nil]; omega
theorem pR_lp (fu : Nat) (hf : 9 ≤ fu) (t : TTxn) : ∀ (r q : List TRead) (n : Nat) (acc : List Int), (q ++ r).length ≤ 1000 → (∀ x ∈ r, x.Version < 9223372036854775808) → acc.length + 610 * r.length ≤ 10000000 → r.length < n → txn_Put.lp7 fu (q ++ r) ((q ++ r).length : Int) t n acc (q.length : Int) = some (acc ++ (r.map rdL).flatten)
 | [], q, n, acc, hl, hv, ha, hn => by
  obtain ⟨n, rfl⟩ : ∃ m, n = m + 1 := ⟨n - 1, by omega⟩
  simp only [List.append_nil]
  rw [txn_Put.lp7, br_f (nlt_end _)]; simp
 | v :: r, q, n, acc, hl, hv, ha, hn => by
  obtain ⟨n, rfl⟩ : ∃ m, n = m + 1 := ⟨n - 1, by omega⟩
  have e : q ++ v :: r = (q ++ [v]) ++ r := by simp
  have hvv := hv v (by simp)
  have h1 := rdL_len hvv
  have ha' : acc.length + 610 * r.length + 610 ≤ 10000000 := by rw [List.length_cons] at ha; omega
  have ih := pR_lp fu hf t r (q ++ [v]) n (acc ++ rdL v) (by rw [← e]; exact hl) (fun x h => hv x (by simp [h])) (by rw [List.length_append]; omega) (by simp at hn; omega)
  rw [← e] at ih
  have hfl : ([acc, tx v.Key, nm v.Version, tx v.Val] : List (List Int)).flatten ++ [flg v.There] = acc ++ rdL v := by simp [rdL]
  have hll : (([acc, tx v.Key, nm v.Version, tx v.Val] : List (List Int)).flatten).length + 1 = acc.length + (rdL v).length := by
   have := congrArg List.length hfl
   simp only [List.length_append, List.length_cons, List.length_nil] at this ⊢
   omega
  rw [txn_Put.lp7, br_t (lt_mid _ _ _), ix_mid, bd_s (tx_e hf), bd_s (nm_e hvv hf), bd_s (tx_e hf), bd_s (cc_e (by simp) (by omega) (by simp; omega)), bd_s (flag_e _), gd_t (decide_eq_true (by simp only [List.length_cons, List.length_nil]; omega)), w64_len q r v (by omega), hfl, ih]
  simp
theorem pW_lp (fu : Nat) (hf : 9 ≤ fu) : ∀ (r q : List TWrite) (n : Nat) (acc : List Int), (q ++ r).length ≤ 1000 → acc.length + 601 * r.length ≤ 10000000 → r.length < n → txn_Put.lp16 fu (q ++ r) ((q ++ r).length : Int) n acc (q.length : Int) = some (acc ++ (r.map wrL).flatten)
 | [], q, n, acc, hl, ha, hn => by
  obtain ⟨n, rfl⟩ : ∃ m, n = m + 1 := ⟨n - 1, by omega⟩
  simp only [List.append_nil]
  rw [txn_Put.lp16, br_f (nlt_end _)]; simp
 | v :: r, q, n, acc, hl, ha, hn => by
  obtain ⟨n, rfl⟩ : ∃ m, n = m + 1 := ⟨n - 1, by omega⟩
  have e : q ++ v :: r = (q ++ [v]) ++ r := by simp
  have h1 := wrL_len v
  have ha' : acc.length + 601 * r.length + 601 ≤ 10000000 := by rw [List.length_cons] at ha; omega
  have ih := pW_lp fu hf r (q ++ [v]) n (acc ++ wrL v) (by rw [← e]; exact hl) (by rw [List.length_append]; omega) (by simp at hn; omega)
  rw [← e] at ih
  have hfl : ([acc, tx v.Key, tx v.Val] : List (List Int)).flatten ++ [flg v.Gone] = acc ++ wrL v := by simp [wrL]
  have hll : (([acc, tx v.Key, tx v.Val] : List (List Int)).flatten).length + 1 = acc.length + (wrL v).length := by
   have := congrArg List.length hfl
   simp only [List.length_append, List.length_cons, List.length_nil] at this ⊢
   omega
  rw [txn_Put.lp16, br_t (lt_mid _ _ _), ix_mid, bd_s (tx_e hf), bd_s (tx_e hf), bd_s (cc_e (by simp) (by omega) (by simp; omega)), bd_s (flag_e _), gd_t (decide_eq_true (by simp only [List.length_cons, List.length_nil]; omega)), w64_len q r v (by omega), hfl, ih]
  simp
structure TxM (fu : Nat) (t : TTxn) : Prop where
 se : 1 ≤ t.Session ∧ t.Session ≤ 9
 sq : 1 ≤ t.Seq ∧ t.Seq ≤ 1000
 rl : t.Reads.length ≤ 6
 wl : t.Writes.length ≤ 4
 rk : ∀ x ∈ t.Reads, x.Key.size ≤ 8
 wk : ∀ x ∈ t.Writes, x.Key.size ≤ 8
 rd : ∀ x ∈ t.Reads, 0 ≤ x.Version ∧ x.Val.size ≤ 16
 wr : ∀ x ∈ t.Writes, x.Val.size ≤ 16
theorem txnB_m {fu : Nat} {t : TTxn} (h : txnB fu t = true) : TxM fu t := by
 simp only [txnB, Bool.and_eq_true, decide_eq_true_eq, List.all_eq_true] at h
 obtain ⟨h1, h2, h3, h4, h5, h6, h7, h8, h9, h10⟩ := h
 refine ⟨⟨h1, h2⟩, ⟨h3, h4⟩, by omega, by omega, fun x hx => ris_size (by simp; omega) h6 _ (List.mem_map_of_mem hx), fun x hx => ris_size (by simp; omega) h8 _ (List.mem_map_of_mem hx), fun x hx => ?_, fun x hx => ?_⟩
 ·have := h9 x hx
  simp only [rdOk, Bool.and_eq_true, decide_eq_true_eq] at this
  omega
 ·have := h10 x hx
  simp only [wrOk, Bool.and_eq_true, decide_eq_true_eq] at this
  omega
theorem rows_len {α : Type} {e : α → List Int} {k : Nat} : ∀ {l : List α}, (∀ x ∈ l, (e x).length ≤ k) → ((l.map e).flatten).length ≤ k * l.length
 | [], _ => by simp
 | x :: l, h => by
  have h1 := h x (by simp)
  have h2 := rows_len (k := k) (l := l) fun y hy => h y (by simp [hy])
  simp only [List.map_cons, List.flatten_cons, List.length_append, List.length_cons, Nat.mul_add]
  omega
def VerT (t : TTxn) : Prop := ∀ x ∈ t.Reads, x.Version < 9223372036854775808
theorem txnL_len {fu : Nat} {t : TTxn} (h : TxM fu t) (hv : VerT t) : (txnL t).length ≤ 7000 := by
 have h1 := nms_len [t.Session, t.Seq, (t.Reads.length : Int)] (fun x hx => by have := h.se; have := h.sq; have := h.rl; simp at hx; omega)
 have h2 := nms_len [(t.Writes.length : Int)] (fun x hx => by have := h.wl; simp at hx; omega)
 have h3 := rows_len (e := rdL) (k := 610) (l := t.Reads) fun x hx => rdL_len (hv x hx)
 have h4 := rows_len (e := wrL) (k := 601) (l := t.Writes) fun x hx => wrL_len x
 have := h.rl
 have := h.wl
 unfold txnL
 simp only [List.length_append, List.length_cons, List.length_nil] at *
 omega
theorem txnL_pos {t : TTxn} (h : 1 ≤ t.Session) : 0 < (txnL t).length := by
 have := enc_pos t.Session.toNat
 unfold txnL
 simp only [List.length_append]
 rw [nms_cons, nm_pos (by omega)]
 simp only [List.length_append]
 omega
theorem putT_e {fu : Nat} {t : TTxn} (hf : 9 ≤ fu) (h : TxF fu t) (hb : txnB fu t = true) (hv : VerT t) : txn_Put fu t = some (txnL t) := by
 have hm := txnB_m hb
 have hse := hm.se
 have hsq := hm.sq
 have hrl := hm.rl
 have hwl := hm.wl
 have h3 := rows_len (e := rdL) (k := 610) (l := t.Reads) fun x hx => rdL_len (hv x hx)
 have g1 := nm_len (v := t.Session) (by omega)
 have g2 := nm_len (v := t.Seq) (by omega)
 have g3 := nm_len (v := (t.Reads.length : Int)) (by omega)
 have g4 := nm_len (v := (t.Writes.length : Int)) (by omega)
 have e0 : ([nm t.Session, nm t.Seq, nm (t.Reads.length : Int)] : List (List Int)).flatten = nms [t.Session, t.Seq, (t.Reads.length : Int)] := rfl
 have l0 : (nms [t.Session, t.Seq, (t.Reads.length : Int)]).length ≤ 27 := by rw [← e0]; simp; omega
 have p1 := pR_lp fu hf t t.Reads [] fu (nms [t.Session, t.Seq, (t.Reads.length : Int)]) (by simp; omega) hv (by omega) h.r.2
 simp only [List.nil_append, List.length_nil, Int.natCast_zero] at p1
 have p2 := pW_lp fu hf t.Writes [] fu (nms [t.Session, t.Seq, (t.Reads.length : Int)] ++ (t.Reads.map rdL).flatten ++ nm (t.Writes.length : Int)) (by simp; omega) (by simp only [List.length_append]; omega) h.w.2
 simp only [List.nil_append, List.length_nil, Int.natCast_zero] at p2
 have e1 : nms [t.Session, t.Seq, (t.Reads.length : Int)] ++ (t.Reads.map rdL).flatten ++ nm (t.Writes.length : Int) ++ (t.Writes.map wrL).flatten = txnL t := by unfold txnL; rw [nms_one]
 rw [e1] at p2
 have hp := txnL_pos hse.1
 unfold txn_Put
 rw [bd_s (mayT_e h), hb, br_f (b := !true) rfl, bd_s (nm_e (by omega) hf), bd_s (nm_e (by omega) hf), bd_s (nm_e (by omega) hf), bd_s (cc_e (by simp) (by rw [e0]; omega) (by simp; omega)), e0, bd_s p1, bd_s (nm_e (by omega) hf), gd_t (decide_eq_true (by simp only [List.length_append]; omega)), bd_s p2, gd_t (by cases hl : txnL t with
  | nil => rw [hl] at hp; simp at hp
  | cons _ _ => rfl)]
def entL (e : TEntry) : List Int := nms [e.Term] ++ [flg e.Seal] ++ (bif e.Seal then [] else txnL e.T)
def gtL (r : TRead) : List Int := tx r.Key ++ nms [r.Version] ++ tx r.Val ++ [flg r.There]
def putM (m : TMsg) : List Int := nms [m.Kind, m.From, m.To, m.Part] ++ nms (numsOf m) ++ [flg m.OK] ++ nms [(m.Entries.length : Int)] ++ (m.Entries.map entL).flatten ++ (bif m.Kind == 5 then txnL m.T else []) ++ [flg m.Span] ++ tx m.FromKey ++ tx m.ToKey ++ nms [(m.Keys.length : Int)] ++ (m.Keys.map tx).flatten ++ nms [(m.Got.length : Int)] ++ (m.Got.map gtL).flatten ++ nms [m.Err]
theorem entL_len {fu : Nat} {e : TEntry} (h : entB fu e = true) (hv : VerT e.T) : (entL e).length ≤ 7010 := by
 simp only [entB, Bool.and_eq_true, decide_eq_true_eq] at h
 obtain ⟨h1, h2, h3⟩ := h
 have h4 := nms_len [e.Term] (fun x hx => by simp at hx; omega)
 unfold entL
 cases hs : e.Seal
 ·rw [hs] at h1
  have := txnL_len (txnB_m h1) hv
  simp only [List.length_append, List.length_cons, List.length_nil, cond_false] at *
  omega
 ·simp only [List.length_append, List.length_cons, List.length_nil, cond_true] at *
  omega
theorem pE_lp (fu : Nat) (hf : 9 ≤ fu) (m : TMsg) : ∀ (r q : List TEntry) (n : Nat) (w : TWriter), (q ++ r).length ≤ 1000 → (∀ e ∈ r, TxF fu e.T ∧ entB fu e = true ∧ VerT e.T) → w.b.length + 7010 * r.length ≤ 10000000 → r.length < n → msg_Put.lp11 fu (q ++ r) ((q ++ r).length : Int) m n (q.length : Int) w = some (TWriter.mk (w.b ++ (r.map entL).flatten))
 | [], q, n, w, hl, hr, hw, hn => by
  obtain ⟨n, rfl⟩ : ∃ m, n = m + 1 := ⟨n - 1, by omega⟩
  simp only [List.append_nil]
  rw [msg_Put.lp11, br_f (nlt_end _)]; simp
 | v :: r, q, n, w, hl, hr, hw, hn => by
  obtain ⟨n, rfl⟩ : ∃ m, n = m + 1 := ⟨n - 1, by omega⟩
  have e : q ++ v :: r = (q ++ [v]) ++ r := by simp
  obtain ⟨k1, k2, k3⟩ := hr v (by simp)
  have h1 := entL_len k2 k3
  have hw' : w.b.length + 7010 * r.length + 7010 ≤ 10000000 := by rw [List.length_cons] at hw; omega
  have ih := pE_lp fu hf m r (q ++ [v]) n (TWriter.mk (w.b ++ entL v)) (by rw [← e]; exact hl) (fun x h => hr x (by simp [h])) (by simp only [List.length_append]; omega) (by simp at hn; omega)
  rw [← e] at ih
  have k2' := k2
  simp only [entB, Bool.and_eq_true, decide_eq_true_eq] at k2'
  obtain ⟨g1, g2, g3⟩ := k2'
  have h4 := nms_len [v.Term] (fun x hx => by simp at hx; omega)
  simp only [List.length_cons, List.length_nil] at h4
  rw [msg_Put.lp11, br_t (lt_mid _ _ _), ix_mid, bd_s (wnum_e hf (by simp) (fun x hx => by simp at hx; omega) (by simp only [List.length_cons, List.length_nil]; omega) (by simp; omega)), bd_s (wflag_e hf (by simp only [List.length_append]; omega)), w64_len q r v (by omega)]
  cases hs : v.Seal
  ·rw [hs] at g1
   have hl7 := txnL_len (txnB_m g1) k3
   have ee : w.b ++ nms [v.Term] ++ [flg false] ++ txnL v.T = w.b ++ entL v := by unfold entL; rw [hs]; simp
   rw [br_t (b := !false) rfl, bd_s (putT_e hf k1 g1 k3), gd_t (decide_eq_true (by simp only [List.length_append, List.length_cons, List.length_nil]; omega)), ee, ih]
   simp
  ·have ee : w.b ++ nms [v.Term] ++ [flg true] = w.b ++ entL v := by unfold entL; rw [hs]; simp
   rw [br_f (b := !true) rfl, ee, ih]
   simp
theorem pK_lp (fu : Nat) (hf : 9 ≤ fu) (m : TMsg) : ∀ (r q : List ByteArray) (n : Nat) (w : TWriter), (q ++ r).length ≤ 1000 → w.b.length + 300 * r.length ≤ 10000000 → r.length < n → msg_Put.lp32 fu (q ++ r) ((q ++ r).length : Int) m n (q.length : Int) w = some (TWriter.mk (w.b ++ (r.map tx).flatten))
 | [], q, n, w, hl, hw, hn => by
  obtain ⟨n, rfl⟩ : ∃ m, n = m + 1 := ⟨n - 1, by omega⟩
  simp only [List.append_nil]
  rw [msg_Put.lp32, br_f (nlt_end _)]; simp
 | v :: r, q, n, w, hl, hw, hn => by
  obtain ⟨n, rfl⟩ : ∃ m, n = m + 1 := ⟨n - 1, by omega⟩
  have e : q ++ v :: r = (q ++ [v]) ++ r := by simp
  have h1 := tx_len v
  have hw' : w.b.length + 300 * r.length + 300 ≤ 10000000 := by rw [List.length_cons] at hw; omega
  have ih := pK_lp fu hf m r (q ++ [v]) n (TWriter.mk (w.b ++ tx v)) (by rw [← e]; exact hl) (by simp only [List.length_append]; omega) (by simp at hn; omega)
  rw [← e] at ih
  rw [msg_Put.lp32, br_t (lt_mid _ _ _), ix_mid, bd_s (wtext_e hf (by omega)), w64_len q r v (by omega), ih]
  simp
theorem gtL_len {r : TRead} (h : gtOk r = true) : (gtL r).length ≤ 610 := by
 simp only [gtOk, Bool.and_eq_true, decide_eq_true_eq] at h
 have := tx_len r.Key
 have := tx_len r.Val
 have h1 := nms_len [r.Version] (fun x hx => by simp at hx; omega)
 unfold gtL
 simp only [List.length_append, List.length_cons, List.length_nil] at *; omega
theorem pG_lp (fu : Nat) (hf : 9 ≤ fu) (m : TMsg) : ∀ (r q : List TRead) (n : Nat) (w : TWriter), (q ++ r).length ≤ 1000 → (∀ x ∈ r, gtOk x = true) → w.b.length + 610 * r.length ≤ 10000000 → r.length < n → msg_Put.lp41 fu (q ++ r) ((q ++ r).length : Int) m n (q.length : Int) w = some (TWriter.mk (w.b ++ (r.map gtL).flatten))
 | [], q, n, w, hl, hr, hw, hn => by
  obtain ⟨n, rfl⟩ : ∃ m, n = m + 1 := ⟨n - 1, by omega⟩
  simp only [List.append_nil]
  rw [msg_Put.lp41, br_f (nlt_end _)]; simp
 | v :: r, q, n, w, hl, hr, hw, hn => by
  obtain ⟨n, rfl⟩ : ∃ m, n = m + 1 := ⟨n - 1, by omega⟩
  have e : q ++ v :: r = (q ++ [v]) ++ r := by simp
  have k := hr v (by simp)
  have h1 := gtL_len k
  have hw' : w.b.length + 610 * r.length + 610 ≤ 10000000 := by rw [List.length_cons] at hw; omega
  have ih := pG_lp fu hf m r (q ++ [v]) n (TWriter.mk (w.b ++ gtL v)) (by rw [← e]; exact hl) (fun x h => hr x (by simp [h])) (by simp only [List.length_append]; omega) (by simp at hn; omega)
  rw [← e] at ih
  have k' := k
  simp only [gtOk, Bool.and_eq_true, decide_eq_true_eq] at k'
  have t1 := tx_len v.Key
  have t2 := tx_len v.Val
  have h4 := nms_len [v.Version] (fun x hx => by simp at hx; omega)
  simp only [List.length_cons, List.length_nil] at h4
  have ee : w.b ++ tx v.Key ++ nms [v.Version] ++ tx v.Val ++ [flg v.There] = w.b ++ gtL v := by unfold gtL; simp
  rw [msg_Put.lp41, br_t (lt_mid _ _ _), ix_mid, bd_s (wtext_e hf (by omega)), bd_s (wnum_e hf (by simp) (fun x hx => by simp at hx; omega) (by simp only [List.length_append, List.length_cons, List.length_nil]; omega) (by simp; omega)), bd_s (wtext_e hf (by simp only [List.length_append]; omega)), bd_s (wflag_e hf (by simp only [List.length_append]; omega)), w64_len q r v (by omega), ee, ih]
  simp
structure MM (fu : Nat) (m : TMsg) : Prop where
 bare : bareM m = m
 fr : 1 ≤ m.From ∧ m.From ≤ 5
 to : 1 ≤ m.To ∧ m.To ≤ 5
 pt : 0 ≤ m.Part ∧ m.Part < 3
 nu : ∀ v ∈ numsOf m, 0 ≤ v ∧ v ≤ 1099511627776
 el : m.Entries.length ≤ 4
 en : ∀ e ∈ m.Entries, entB fu e = true
 t : m.Kind = 5 → txnB fu m.T = true
 kl : m.Keys.length ≤ 6
 ks : ∀ k ∈ m.Keys, k.size ≤ 8
 fk : m.FromKey.size ≤ 8
 tk : m.ToKey.size ≤ 8
 gl : m.Got.length ≤ 64
 gk : ∀ r ∈ m.Got, r.Key.size ≤ 8
 gt : ∀ r ∈ m.Got, gtOk r = true
 er : 0 ≤ m.Err ∧ m.Err ≤ 6
theorem mayM_m {fu : Nat} {m : TMsg} (h : mayM fu m = true) : MM fu m := by
 simp only [mayM, Bool.and_eq_true, decide_eq_true_eq, List.all_eq_true, Bool.not_eq_true', decide_eq_false_iff_not, Bool.or_eq_true, beq_eq_false_iff_ne] at h
 obtain ⟨h1, h2, h3, h4, h5, h6, h7, h8, h9, h10, h11, h12, h13, h14, h15, h16, h17, h18, h19, h20, h21, h22⟩ := h
 refine ⟨(msgB_iff _ _).1 h1, by omega, by omega, by omega, fun v hv => ?_, by omega, h12, fun hk => ?_, by omega, ris_size (by omega) h15, by omega, by omega, by omega, fun r hr => ris_size (by simp; omega) h19 _ (List.mem_map_of_mem hr), h20, by omega⟩
 ·have := h10 v hv
  simp only [nmOk, Bool.and_eq_true, Bool.not_eq_true', decide_eq_false_iff_not] at this
  omega
 ·rcases h13 with g | g
  ·exact absurd hk g
  ·exact g
def VerM (m : TMsg) : Prop := VerT m.T ∧ ∀ e ∈ m.Entries, VerT e.T
theorem put_some {fu N : Nat} {m : TMsg} (hf : 100 ≤ fu) (h : MsF fu N m) (hk : 1 ≤ m.Kind ∧ m.Kind ≤ 9) (hm : mayM fu m = true) (hv : VerM m) : msg_Put fu m = some (putM m) ∧ 0 < (putM m).length := by
 have mm := mayM_m hm
 have m1 := mm.fr
 have m2 := mm.to
 have m3 := mm.pt
 have m4 := mm.el
 have m5 := mm.kl
 have m6 := mm.gl
 have m7 := mm.er
 have hf9 : 9 ≤ fu := by omega
 have n0 := nms_len [m.Kind, m.From, m.To, m.Part] (fun x hx => by simp at hx; omega)
 have n1 := nms_len (numsOf m) (fun x hx => by have := mm.nu x hx; omega)
 have n2 := nms_len [(m.Entries.length : Int)] (fun x hx => by simp at hx; omega)
 have n3 := nms_len [(m.Keys.length : Int)] (fun x hx => by simp at hx; omega)
 have n4 := nms_len [(m.Got.length : Int)] (fun x hx => by simp at hx; omega)
 have t1 := tx_len m.FromKey
 have t2 := tx_len m.ToKey
 have r1 := rows_len (e := entL) (k := 7010) (l := m.Entries) fun x hx => entL_len (mm.en x hx) (hv.2 x hx)
 have r2 := rows_len (e := tx) (k := 300) (l := m.Keys) fun x hx => tx_len x
 have r3 := rows_len (e := gtL) (k := 610) (l := m.Got) fun x hx => gtL_len (mm.gt x hx)
 have nl : (numsOf m).length = 8 := rfl
 rw [nl] at n1
 simp only [List.length_cons, List.length_nil] at n0 n2 n3 n4
 have tl : (bif m.Kind == 5 then txnL m.T else []).length ≤ 7000 := by
  by_cases hq : m.Kind = 5
  ·rw [hq]; exact txnL_len (txnB_m (mm.t hq)) hv.1
  ·rw [beq_eq_false_iff_ne.2 hq]; simp
 have hpos : 0 < (putM m).length := by
  have := enc_pos m.Kind.toNat
  unfold putM
  simp only [List.length_append]
  rw [nms_cons, nm_pos (by omega)]
  simp only [List.length_append]
  omega
 refine ⟨?_, hpos⟩
 generalize hA : nms [m.Kind, m.From, m.To, m.Part] ++ nms (numsOf m) ++ [flg m.OK] ++ nms [(m.Entries.length : Int)] ++ (m.Entries.map entL).flatten = A
 have lA : A.length ≤ 30000 := by
  rw [← hA]
  simp only [List.length_append, List.length_cons, List.length_nil]
  omega
 have p1 := pE_lp fu hf9 m m.Entries [] fu (TWriter.mk (nms [m.Kind, m.From, m.To, m.Part] ++ nms (numsOf m) ++ [flg m.OK] ++ nms [(m.Entries.length : Int)])) (by simp; omega) (fun e he => ⟨h.e e he, mm.en e he, hv.2 e he⟩) (by simp only [List.length_append, List.length_cons, List.length_nil]; omega) (by omega)
 simp only [List.nil_append, List.length_nil, Int.natCast_zero] at p1
 rw [hA] at p1
 have rest : ∀ B : List Int, B.length ≤ 40000 → (bd (msg_writer_flag fu m.Span (TWriter.mk B)) fun r27_1 => bd (msg_writer_text fu m.FromKey r27_1) fun r28_1 => bd (msg_writer_text fu m.ToKey r28_1) fun r29_1 => bd (msg_writer_num fu ([(m.Keys.length : Int)] : List Int) r29_1) fun r30_1 => bd (msg_Put.lp32 fu m.Keys (m.Keys.length : Int) m fu 0 r30_1) fun y38_0 => bd (msg_writer_num fu ([(m.Got.length : Int)] : List Int) y38_0) fun r39_1 => bd (msg_Put.lp41 fu m.Got (m.Got.length : Int) m fu 0 r39_1) fun y50_0 => bd (msg_writer_num fu ([m.Err] : List Int) y50_0) fun r51_1 => gd (!r51_1.b.isEmpty) <| some r51_1.b) = some (B ++ [flg m.Span] ++ tx m.FromKey ++ tx m.ToKey ++ nms [(m.Keys.length : Int)] ++ (m.Keys.map tx).flatten ++ nms [(m.Got.length : Int)] ++ (m.Got.map gtL).flatten ++ nms [m.Err]) := fun B hB => by
  have p2 := pK_lp fu hf9 m m.Keys [] fu (TWriter.mk (B ++ [flg m.Span] ++ tx m.FromKey ++ tx m.ToKey ++ nms [(m.Keys.length : Int)])) (by simp; omega) (by simp only [List.length_append, List.length_cons, List.length_nil]; omega) (by omega)
  have p3 := pG_lp fu hf9 m m.Got [] fu (TWriter.mk (B ++ [flg m.Span] ++ tx m.FromKey ++ tx m.ToKey ++ nms [(m.Keys.length : Int)] ++ (m.Keys.map tx).flatten ++ nms [(m.Got.length : Int)])) (by simp; omega) mm.gt (by simp only [List.length_append, List.length_cons, List.length_nil]; omega) (by omega)
  simp only [List.nil_append, List.length_nil, Int.natCast_zero] at p2 p3
  rw [bd_s (wflag_e hf9 (by show B.length + 9 ≤ _; omega)), bd_s (wtext_e hf9 (by simp only [List.length_append, List.length_cons, List.length_nil]; omega)), bd_s (wtext_e hf9 (by simp only [List.length_append, List.length_cons, List.length_nil]; omega)), bd_s (wnum_e hf9 (by simp) (fun x hx => by simp at hx; omega) (by simp only [List.length_append, List.length_cons, List.length_nil]; omega) (by simp; omega)), bd_s p2, bd_s (wnum_e hf9 (by simp) (fun x hx => by simp at hx; omega) (by simp only [List.length_append, List.length_cons, List.length_nil]; omega) (by simp; omega)), bd_s p3, bd_s (wnum_e hf9 (by simp) (fun x hx => by simp at hx; omega) (by simp only [List.length_append, List.length_cons, List.length_nil]; omega) (by simp; omega)), gd_t]
  have : 0 < (nms [m.Err]).length := by rw [nms_one, nm_pos (by omega)]; exact enc_pos _
  dsimp only
  rw [Bool.not_eq_true', List.isEmpty_eq_false_iff]
  intro e
  have := congrArg List.length e
  simp only [List.length_append, List.length_nil] at this
  omega
 unfold msg_Put
 rw [bd_s (may_e h hk), hm, br_f (b := !true) rfl]
 rw [bd_s (wnum_e (w := TWriter.mk []) hf9 (by simp) (fun x hx => by simp at hx; omega) (by simp) (by simp; omega))]
 unfold msg_numbers
 rw [bd_s rfl]
 have w1 : msg_writer_num fu ([m.Term, m.Index, m.LogTerm, m.Commit, m.Session, m.Seq, m.Pos, m.Shard] : List Int) (TWriter.mk ([] ++ nms [m.Kind, m.From, m.To, m.Part])) = some (TWriter.mk (nms [m.Kind, m.From, m.To, m.Part] ++ nms (numsOf m))) :=
  wnum_e (l := numsOf m) (w := TWriter.mk (nms [m.Kind, m.From, m.To, m.Part])) hf9 (by rw [nl]; omega) (fun x hx => by have := mm.nu x hx; omega) (by rw [nl]; show (nms [m.Kind, m.From, m.To, m.Part]).length + 9 * 8 ≤ _; omega) (by rw [nl]; omega)
 rw [bd_s w1, bd_s (wflag_e hf9 (by simp only [List.length_append]; omega)), bd_s (wnum_e hf9 (by simp) (fun x hx => by simp at hx; omega) (by simp only [List.length_append, List.length_cons, List.length_nil]; omega) (by simp; omega)), bd_s p1]
 simp only [jn_e]
 by_cases hq : m.Kind = 5
 ·have hb := mm.t hq
  have hl7 := txnL_len (txnB_m hb) hv.1
  rw [br_t (by rw [hq]; rfl), bd_s (putT_e hf9 h.t hb hv.1), gd_t (decide_eq_true (by show A.length + _ ≤ _; omega)), rest _ (by simp only [List.length_append]; omega)]
  unfold putM
  rw [← hA, hq]
  simp
 ·rw [br_f (beq_eq_false_iff_ne.2 hq), rest _ (by omega)]
  unfold putM
  rw [← hA, beq_eq_false_iff_ne.2 hq]
  simp
theorem put_none {fu : Nat} {m : TMsg} (h : msg_May fu m = some false) : msg_Put fu m = some [] := by
 unfold msg_Put
 rw [bd_s h]; rfl
end Go.Proofs.Ytbflggolnolaeaa.Told.MG
