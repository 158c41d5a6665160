/- A shard's bytes, as the program writes them. -/
import Derived.Test.YthjpcfbfiaenaaaTSv4
import Derived.Test.YthjpcfbfiaenaaaTNumPut
namespace Go.Proofs.Ythjpcfbfiaenaaa.Told.SV
open Go Go.Proofs.Ythjpcfbfiaenaaa.Vam Go.Proofs.Ythjpcfbfiaenaaa.Told Go.Proofs.Ythjpcfbfiaenaaa.Told.CF Go.Proofs.Ythjpcfbfiaenaaa.Told.ST Go.Proofs.Ythjpcfbfiaenaaa.Told.NM
set_option linter.unusedSimpArgs false
set_option linter.unusedVariables false
theorem wnum_lp (fu : Nat) (hf : 9 ≤ fu) : ∀ (r q : List Int) (n : Nat) (w : TWriter), (q ++ r).length ≤ 1000000 → (∀ v ∈ r, v < 9223372036854775808) → w.b.length + 9 * r.length ≤ 4294967296 → r.length < n →
  save_writer_num.lp2 fu (q ++ r) ((q ++ r).length : Int) n (q.length : Int) w = some (TWriter.mk (w.b ++ nms r))
 | [], q, n, w, hl, hv, hw, hn => by
  obtain ⟨n, rfl⟩ : ∃ m, n = m + 1 := ⟨n - 1, by omega⟩
  simp only [List.append_nil]
  rw [save_writer_num.lp2, br_f (nlt_end _)]
  simp [nms]
 | v :: r, q, n, w, hl, hv, hw, hn => by
  obtain ⟨n, rfl⟩ : ∃ m, n = m + 1 := ⟨n - 1, by omega⟩
  have e : q ++ v :: r = (q ++ [v]) ++ r := by simp
  have h9 := nm_len (hv v (by simp))
  have hw' : w.b.length + 9 * r.length + 9 ≤ 4294967296 := by simp at hw; omega
  have ih := wnum_lp fu hf r (q ++ [v]) n (TWriter.mk (w.b ++ nm v)) (by rw [← e]; exact hl) (fun v h => hv v (by simp [h])) (by simp; omega) (by simp at hn; omega)
  rw [← e] at ih
  rw [save_writer_num.lp2, br_t (lt_mid _ _ _), ix_mid, bd_s (nm_e (hv v (by simp)) hf), gd_t (decide_eq_true (by omega)), w64_len q r v (by omega), ih, nms_cons, List.append_assoc]
theorem wnum_e {fu : Nat} {l : List Int} {w : TWriter} (hf : 9 ≤ fu) (hl : l.length ≤ 1000000) (hv : ∀ v ∈ l, v < 9223372036854775808) (hw : w.b.length + 9 * l.length ≤ 4294967296) (hn : l.length < fu) : save_writer_num fu l w = some (TWriter.mk (w.b ++ nms l)) := by
 have := wnum_lp fu hf l [] fu w hl hv hw hn
 simp only [List.nil_append, List.length_nil, Int.natCast_zero] at this
 unfold save_writer_num
 rw [bd_s this]
theorem wtext_e {fu : Nat} {s : ByteArray} {w : TWriter} (hf : 9 ≤ fu) (hw : w.b.length + 300 ≤ 4294967296) : save_writer_text fu s w = some (TWriter.mk (w.b ++ tx s)) := by
 have := tx_len s
 unfold save_writer_text
 rw [bd_s (tx_e hf), gd_t (decide_eq_true (by omega))]
def gone (v : TVersion) : Int := bif v.Gone then 1 else 0
def verL (v : TVersion) : List Int := nms [v.Pos, gone v] ++ tx v.Val
def chL (c : TChain) : List Int := tx c.Key ++ nms [(c.L.length : Int)] ++ (c.L.map verL).flatten
def seL (x : TSeat) : List Int := nms [x.Session, x.Seq, x.Pos]
def putL (s : TShard) : List Int := nms [s.ID, s.Shards, s.Done, s.S.Mark, (s.S.Chains.length : Int)] ++ (s.S.Chains.map chL).flatten ++ nms [(s.Seats.length : Int)] ++ (s.Seats.map seL).flatten ++ nms s.Bits ++ nms s.Said
theorem gone_le (v : TVersion) : 0 ≤ gone v ∧ gone v ≤ 1 := by unfold gone; cases v.Gone <;> decide
theorem verL_len {v : TVersion} (h : v.Pos < 9223372036854775808) : (verL v).length ≤ 318 := by
 have := tx_len v.Val
 have := gone_le v
 have h2 := nms_len [v.Pos, gone v] (fun x hx => by simp at hx; omega)
 unfold verL
 simp at h2 ⊢; omega
theorem wver_e {fu : Nat} {v : TVersion} {w : TWriter} (hf : 9 ≤ fu) (hv : v.Pos < 9223372036854775808) (hw : w.b.length + 318 ≤ 4294967296) : save_writer_version fu v w = some (TWriter.mk (w.b ++ verL v)) := by
 have hg := gone_le v
 have h2 := nms_len [v.Pos, gone v] (fun x hx => by simp at hx; omega)
 have key : ∀ g, g = gone v → (bd (save_writer_num fu ([v.Pos, g] : List Int) w) fun r7_1 => bd (save_writer_text fu v.Val r7_1) fun r8_1 => some r8_1) = some (TWriter.mk (w.b ++ verL v)) := fun g e => by
  subst e
  rw [bd_s (wnum_e hf (by simp) (fun x hx => by simp at hx; omega) (by simp; omega) (by simp; omega)), bd_s (wtext_e hf (by simp at h2 ⊢; omega))]
  simp [verL]
 unfold save_writer_version
 simp only [jn_e]
 cases h : v.Gone
 ·rw [br_f rfl]; exact key 0 (by unfold gone; rw [h]; rfl)
 ·rw [br_t rfl]; exact key 1 (by unfold gone; rw [h]; rfl)
theorem vers_len : ∀ {l : List TVersion}, (∀ v ∈ l, v.Pos < 9223372036854775808) → ((l.map verL).flatten).length ≤ 318 * l.length
 | [], _ => by simp
 | v :: l, h => by
  have := verL_len (h v (by simp))
  have := vers_len (l := l) fun v hv => h v (by simp [hv])
  simp only [List.map_cons, List.flatten_cons, List.length_append, List.length_cons]; omega
set_option maxRecDepth 100000 in
theorem wvers_lp (fu : Nat) (hf : 9 ≤ fu) (cs : List TChain) (a b : Int) (s : TShard) : ∀ (r q : List TVersion) (n : Nat) (w : TWriter), (q ++ r).length ≤ 1000000 → (∀ v ∈ r, v.Pos < 9223372036854775808) → w.b.length + 318 * r.length ≤ 4294967296 → r.length < n →
  save_Put.lp15 fu cs a b (q ++ r) ((q ++ r).length : Int) s n (q.length : Int) w = some (TWriter.mk (w.b ++ (r.map verL).flatten))
 | [], q, n, w, hl, hv, hw, hn => by
  obtain ⟨n, rfl⟩ : ∃ m, n = m + 1 := ⟨n - 1, by omega⟩
  simp only [List.append_nil]
  rw [save_Put.lp15, br_f (nlt_end _)]
  simp
 | v :: r, q, n, w, hl, hv, hw, hn => by
  obtain ⟨n, rfl⟩ : ∃ m, n = m + 1 := ⟨n - 1, by omega⟩
  have e : q ++ v :: r = (q ++ [v]) ++ r := by simp
  have h9 := verL_len (hv v (by simp))
  have hw' : w.b.length + 318 * r.length + 318 ≤ 4294967296 := by simp at hw; omega
  have ih := wvers_lp fu hf cs a b s r (q ++ [v]) n (TWriter.mk (w.b ++ verL v)) (by rw [← e]; exact hl) (fun v h => hv v (by simp [h])) (by simp; omega) (by simp at hn; omega)
  rw [← e] at ih
  rw [save_Put.lp15, br_t (lt_mid _ _ _), ix_mid, bd_s (wver_e hf (hv v (by simp)) (by omega)), w64_len q r v (by omega), ih]
  simp
theorem chL_len {c : TChain} {N : Nat} (hN : c.L.length ≤ N) (hN' : N ≤ 1000) (h : ∀ v ∈ c.L, v.Pos < 9223372036854775808) : (chL c).length ≤ 309 + 318 * N := by
 have := tx_len c.Key
 have h1 := nms_len [(c.L.length : Int)] (fun x hx => by simp at hx; omega)
 have h2 := vers_len h
 unfold chL
 simp only [List.length_append, List.length_cons, List.length_nil] at h1 ⊢
 omega
theorem wchs_lp (fu N : Nat) (hf : 9 ≤ fu) (hN : N < fu) (hN' : N ≤ 1000) (s : TShard) : ∀ (r q : List TChain) (n : Nat) (w : TWriter), (q ++ r).length ≤ 1000000 → (∀ c ∈ r, c.L.length ≤ N ∧ ∀ v ∈ c.L, v.Pos < 9223372036854775808) → w.b.length + (309 + 318 * N) * r.length ≤ 4294967296 → r.length < n →
  save_Put.lp8 fu (q ++ r) ((q ++ r).length : Int) s n (q.length : Int) w = some (TWriter.mk (w.b ++ (r.map chL).flatten)) ∧ (w.b ++ (r.map chL).flatten).length ≤ w.b.length + (309 + 318 * N) * r.length
 | [], q, n, w, hl, hv, hw, hn => by
  obtain ⟨n, rfl⟩ : ∃ m, n = m + 1 := ⟨n - 1, by omega⟩
  simp only [List.append_nil]
  rw [save_Put.lp8, br_f (nlt_end _)]
  simp
 | c :: r, q, n, w, hl, hv, hw, hn => by
  obtain ⟨n, rfl⟩ : ∃ m, n = m + 1 := ⟨n - 1, by omega⟩
  have e : q ++ c :: r = (q ++ [c]) ++ r := by simp
  obtain ⟨k1, k2⟩ := hv c (by simp)
  have h9 := chL_len k1 hN' k2
  have hmul : (309 + 318 * N) * (c :: r).length = (309 + 318 * N) * r.length + (309 + 318 * N) := by rw [List.length_cons, Nat.mul_add, Nat.mul_one]
  rw [hmul] at hw ⊢
  generalize hM : 309 + 318 * N = M at *
  obtain ⟨ih, ih2⟩ := wchs_lp fu N hf hN hN' s r (q ++ [c]) n (TWriter.mk (w.b ++ chL c)) (by rw [← e]; exact hl) (fun v h => hv v (by simp [h])) (by rw [hM]; simp; omega) (by simp at hn; omega)
  rw [hM] at ih2
  rw [← e] at ih
  have t1 := tx_len c.Key
  have t2 := nms_len [(c.L.length : Int)] (fun x hx => by simp at hx; omega)
  have t3 : 318 * c.L.length ≤ 318 * N := Nat.mul_le_mul_left _ k1
  have t4 := wvers_lp fu hf (q ++ c :: r) ((q ++ c :: r).length : Int) (q.length : Int) s c.L [] fu (TWriter.mk (w.b ++ tx c.Key ++ nms [(c.L.length : Int)])) (by simp; omega) k2 (by simp at t2 ⊢; omega) (by omega)
  simp only [List.nil_append, List.length_nil, Int.natCast_zero] at t4
  have ee : w.b ++ tx c.Key ++ nms [(c.L.length : Int)] ++ (c.L.map verL).flatten = w.b ++ chL c := by simp [chL]
  rw [ee] at t4
  rw [save_Put.lp8, br_t (lt_mid _ _ _), ix_mid, bd_s (wtext_e hf (by omega)), bd_s (wnum_e hf (by simp) (fun x hx => by simp at hx; omega) (by simp only [List.length_append, List.length_cons, List.length_nil]; omega) (by simp; omega)), bd_s t4, w64_len q r c (by omega), ih]
  refine ⟨by simp, ?_⟩
  simp at ih2 ⊢
  omega
theorem wseats_lp (fu : Nat) (hf : 9 ≤ fu) (s : TShard) : ∀ (r q : List TSeat) (n : Nat) (w : TWriter), (q ++ r).length ≤ 1000000 → (∀ x ∈ r, x.Session < 9223372036854775808 ∧ x.Seq < 9223372036854775808 ∧ x.Pos < 9223372036854775808) → w.b.length + 27 * r.length ≤ 4294967296 → r.length < n →
  save_Put.lp26 fu (q ++ r) ((q ++ r).length : Int) s n (q.length : Int) w = some (TWriter.mk (w.b ++ (r.map seL).flatten)) ∧ (w.b ++ (r.map seL).flatten).length ≤ w.b.length + 27 * r.length
 | [], q, n, w, hl, hv, hw, hn => by
  obtain ⟨n, rfl⟩ : ∃ m, n = m + 1 := ⟨n - 1, by omega⟩
  simp only [List.append_nil]
  rw [save_Put.lp26, br_f (nlt_end _)]
  simp
 | x :: r, q, n, w, hl, hv, hw, hn => by
  obtain ⟨n, rfl⟩ : ∃ m, n = m + 1 := ⟨n - 1, by omega⟩
  have e : q ++ x :: r = (q ++ [x]) ++ r := by simp
  have k := hv x (by simp)
  have h9 := nms_len [x.Session, x.Seq, x.Pos] (fun y hy => by simp at hy; omega)
  have h9' : (seL x).length ≤ 27 := by unfold seL; simpa using h9
  have hw' : w.b.length + 27 * r.length + 27 ≤ 4294967296 := by simp at hw; omega
  obtain ⟨ih, ih2⟩ := wseats_lp fu hf s r (q ++ [x]) n (TWriter.mk (w.b ++ seL x)) (by rw [← e]; exact hl) (fun v h => hv v (by simp [h])) (by simp; omega) (by simp at hn; omega)
  rw [← e] at ih
  have t : save_writer_num fu ([x.Session, x.Seq, x.Pos] : List Int) w = some (TWriter.mk (w.b ++ seL x)) := wnum_e hf (by simp) (fun y hy => by simp at hy; omega) (by simp; omega) (by simp; omega)
  rw [save_Put.lp26, br_t (lt_mid _ _ _), ix_mid, bd_s t, w64_len q r x (by omega), ih]
  refine ⟨by simp, ?_⟩
  simp at ih2 ⊢
  omega
theorem upTo_le {p : Int} {l : List TVersion} (h : upTo p l = true) {v : TVersion} (hv : v ∈ l) : v.Pos ≤ p := of_decide_eq_true (List.all_eq_true.1 h v hv)
theorem inR_le {lo hi : Int} {l : List Int} (h : inR lo hi l = true) {v : Int} (hv : v ∈ l) : lo ≤ v ∧ v ≤ hi := of_decide_eq_true (List.all_eq_true.1 h v hv)
theorem seP_le {d : Int} : ∀ {l : List TSeat} {p : Int}, seP d p l = true → ∀ x ∈ l, p < x.Session ∧ x.Session ≤ 9 ∧ 1 ≤ x.Seq ∧ x.Seq ≤ 1000 ∧ 1 ≤ x.Pos ∧ x.Pos ≤ d
 | [], p, _, x, hx => by cases hx
 | y :: l, p, h, x, hx => by
  simp only [seP, Bool.and_eq_true, decide_eq_true_eq] at h
  rcases List.mem_cons.1 hx with rfl | hx
  ·exact h.1
  ·have := seP_le h.2 x hx; omega
theorem put_some {fu N : Nat} {s : TShard} (hmay : shard_May fu s = some true) (h : MayF fu s) (hm : Sml N s.S.Chains) (hN : N < fu) (hN' : N ≤ 1000) (hb : s.Bits.length ≤ 1000000 ∧ s.Bits.length < fu) (hse : s.Seats.length ≤ 1000000 ∧ s.Seats.length < fu) (hM : s.S.Mark < 9223372036854775808) (hf : 9 ≤ fu) :
  save_Put fu s = some (putL s) ∧ 0 < (putL s).length := by
 have hsh := h.sh
 have hid := h.id
 have hbl := h.bl
 have hsl := h.sl
 have hmk := h.mark
 have hcl := hm.1
 have hd0 : 0 ≤ s.Done := by omega
 have hC : (309 + 318 * N) * s.S.Chains.length ≤ 318309 * 1000 := Nat.mul_le_mul (by omega) (by omega)
 have n5 := nms_len [s.ID, s.Shards, s.Done, s.S.Mark, (s.S.Chains.length : Int)] (fun x hx => by simp at hx; omega)
 have n1 := nms_len [(s.Seats.length : Int)] (fun x hx => by simp at hx; omega)
 have nb := nms_len s.Bits (fun x hx => by have := inR_le h.bi hx; omega)
 have ns := nms_len s.Said (fun x hx => by have := inR_le h.sa hx; omega)
 simp only [List.length_cons, List.length_nil] at n5 n1
 unfold save_Put
 rw [bd_s hmay, br_f (b := !true) rfl]
 rw [bd_s (wnum_e (w := TWriter.mk []) hf (by simp) (fun x hx => by simp at hx; omega) (by simp) (by simp; omega))]
 generalize hA : nms [s.ID, s.Shards, s.Done, s.S.Mark, (s.S.Chains.length : Int)] = A at n5
 simp only [List.nil_append]
 obtain ⟨g1, g2⟩ := wchs_lp fu N hf hN hN' s s.S.Chains [] fu (TWriter.mk A) (by simp; omega) (fun c hc => ⟨hm.2 c hc, fun v hv => by
  have := h.ch c hc
  unfold ours at this
  have := upTo_le (Bool.and_eq_true_iff.1 this.2).2 hv
  omega⟩) (by simp; omega) (by omega)
 simp only [List.nil_append, List.length_nil, Int.natCast_zero] at g1 g2
 rw [bd_s g1]
 rw [bd_s (wnum_e hf (by simp) (fun x hx => by simp at hx; omega) (by simp only [List.length_cons, List.length_nil]; omega) (by simp; omega))]
 obtain ⟨g3, g4⟩ := wseats_lp fu hf s s.Seats [] fu (TWriter.mk (A ++ (s.S.Chains.map chL).flatten ++ nms [(s.Seats.length : Int)])) (by simp; omega) (fun x hx => by
  have := seP_le h.se x hx
  omega) (by simp only [List.length_append] at g2 ⊢; omega) hse.2
 simp only [List.nil_append, List.length_nil, Int.natCast_zero] at g3 g4
 rw [bd_s g3]
 rw [bd_s (wnum_e hf hb.1 (fun x hx => by have := inR_le h.bi hx; omega) (by simp only [List.length_append] at g2 g4 ⊢; omega) hb.2)]
 rw [bd_s (wnum_e hf (by omega) (fun x hx => by have := inR_le h.sa hx; omega) (by simp only [List.length_append] at g2 g4 ⊢; omega) (by omega))]
 have hne : 0 < (putL s).length := by
  have : nms [s.ID, s.Shards, s.Done, s.S.Mark, (s.S.Chains.length : Int)] = enc s.ID.toNat ++ nms [s.Shards, s.Done, s.S.Mark, (s.S.Chains.length : Int)] := by rw [nms_cons, nm_pos hid.1]
  have := enc_pos s.ID.toNat
  unfold putL
  simp only [List.length_append]
  rw [nms_cons, nm_pos hid.1]
  simp only [List.length_append]
  omega
 have e : A ++ (s.S.Chains.map chL).flatten ++ nms [(s.Seats.length : Int)] ++ (s.Seats.map seL).flatten ++ nms s.Bits ++ nms s.Said = putL s := by rw [← hA]; rfl
 dsimp only
 rw [e, gd_t (by cases hp : putL s with
  | nil => rw [hp] at hne; simp at hne
  | cons _ _ => rfl)]
 exact ⟨rfl, hne⟩
theorem put_none {fu : Nat} {s : TShard} (hmay : shard_May fu s = some false) : save_Put fu s = some [] := by
 unfold save_Put
 rw [bd_s hmay]; rfl
end Go.Proofs.Ythjpcfbfiaenaaa.Told.SV
