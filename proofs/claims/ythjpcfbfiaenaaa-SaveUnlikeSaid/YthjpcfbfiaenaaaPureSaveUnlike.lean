/- The plain law of SaveUnlike: unlike shards have unlike bytes. -/
import Derived.Test.YthjpcfbfiaenaaaTSv3
import Derived.Test.YthjpcfbfiaenaaaTSv5
import Derived.Test.YthjpcfbfiaenaaaTSv6
import Derived.Test.YthjpcfbfiaenaaaTStore5
namespace Go.Proofs.Ythjpcfbfiaenaaa.Told.PureSaveUnlike
open Go Go.Proofs.Ythjpcfbfiaenaaa.Vam Go.Proofs.Ythjpcfbfiaenaaa.Told Go.Proofs.Ythjpcfbfiaenaaa.Told.CF Go.Proofs.Ythjpcfbfiaenaaa.Told.PK Go.Proofs.Ythjpcfbfiaenaaa.Told.ST Go.Proofs.Ythjpcfbfiaenaaa.Told.SV Go.Proofs.Ythjpcfbfiaenaaa.Told.NM
set_option linter.unusedSimpArgs false
set_option linter.unusedVariables false
theorem begun_e : diwanlaw20_begun 200 = some true := by kernel_rfl
theorem seP_srt {d : Int} : ∀ {l : List TSeat} {p : Int}, SF.Srt l → (∀ x ∈ l, p < x.Session ∧ x.Session ≤ 9 ∧ 1 ≤ x.Seq ∧ x.Seq ≤ 1000 ∧ 1 ≤ x.Pos ∧ x.Pos ≤ d) → seP d p l = true
 | [], _, _, _ => rfl
 | x :: l, p, hs, h => by
  obtain ⟨h1, h2⟩ := List.pairwise_cons.1 hs
  simp only [seP, Bool.and_eq_true, decide_eq_true_eq]
  exact ⟨h x (by simp), seP_srt h2 fun y hy => by have := h y (by simp [hy]); have := h1 y hy; omega⟩
theorem inR_all {lo hi : Int} {l : List Int} (h : ∀ v ∈ l, lo ≤ v ∧ v ≤ hi) : inR lo hi l = true := List.all_eq_true.2 fun v hv => decide_eq_true (h v hv)
theorem ver_sz {c : TChain} {p : Int} (h : may p c.L = true) {v : TVersion} (hv : v ∈ c.L) : p < v.Pos ∧ (v.Val.size : Int) ≤ 16 := by
 have key : ∀ {l : List TVersion} {p : Int}, may p l = true → ∀ v ∈ l, p < v.Pos ∧ (v.Val.size : Int) ≤ 16 := by
  intro l
  induction l with
  | nil => intro p _ v hv; cases hv
  | cons a l ih =>
   intro p h v hv
   obtain ⟨h1, h2, _, h4⟩ := may_cons h
   rcases List.mem_cons.1 hv with rfl | hv
   ·exact ⟨h1, h2⟩
   ·have := ih h4 v hv; exact ⟨by omega, this.2⟩
 exact key h v hv
theorem si_may {s : TShard} {N D : Nat} (h : SI 200 N D s) (hD : D ≤ 15) (hN : N ≤ 45) : shard_May 200 s = some true ∧ MayF 200 s := by
 have hb := h.bl
 have ha := h.sl
 have hsl := h.sln
 have hd := h.dn
 have hup : ∀ c ∈ s.S.Chains, ours 200 s c = true := fun c hc => by
  unfold ours
  obtain ⟨_, k2, k3, k4⟩ := h.mi.ok c hc
  rw [h.own c hc, beq_self_eq_true, Bool.true_and, may_last k3 k2, hd, decide_eq_true k4]
 have hf : MayF 200 s := ⟨h.sh, h.id, by omega, by omega, inR_all h.bi, inR_all h.sa, fun c hc => ⟨(h.mi.ok c hc).2.2.1, hup c hc⟩, h.mark.1, seP_srt h.srt fun x hx => by have := h.se x hx; omega⟩
 refine ⟨?_, hf⟩
 have hsh := h.sh
 have hid := h.id
 unfold shard_May
 rw [br_t (decide_eq_true (by omega)), br_t (decide_eq_true (by omega)), br_t (decide_eq_true (by omega)), br_t (decide_eq_true (by omega)), br_t (decide_eq_true (by omega)), br_t (beq_iff_eq.2 (by omega))]
 rw [bd_s (show shard_May_1 0 2 = some () from rfl), bd_s (cfi_e 0 2 (by omega) (by omega)), hf.bi, br_t (b := !!true) rfl, br_t (beq_iff_eq.2 (by omega))]
 rw [bd_s (show shard_May_1 1 4 = some () from rfl), bd_s (cfi_e 1 4 (by omega) (by omega)), hf.sa, br_t (b := !!true) rfl]
 rw [bd_s (mayS_e h.mi h.mark.1 (by decide) (by omega) (by omega)), br_t (b := true) rfl]
 rw [bd_s (cfc_e h.sh h.mi.sml (fun c hc => by have := six_sz (h.mi.ok c hc).1; omega) (by omega) (by omega)), List.all_eq_true.2 hup, br_t (b := !!true) rfl]
 rw [bd_s (seats_e (by omega) (by omega)), hf.se]
theorem put_inj {s t : TShard} {N D N' D' : Nat} (hs : SI 200 N D s) (ht : SI 200 N' D' t) (hD : D ≤ 15) (hD' : D' ≤ 15) (hN : N ≤ 45) (hN' : N' ≤ 45) (e : putL s = putL t) : s = t := by
 have i1 := hs.sh
 have i2 := ht.sh
 have i3 := hs.id
 have i4 := ht.id
 have i5 := hs.dn
 have i6 := ht.dn
 have i7 := hs.mark
 have i8 := ht.mark
 have i9 := hs.mi.sml.1
 have i10 := ht.mi.sml.1
 have l1 := hs.sln
 have l2 := ht.sln
 unfold putL at e
 simp only [List.append_assoc] at e
 obtain ⟨e1, e⟩ := nms_cut (a := [s.ID, s.Shards, s.Done, s.S.Mark, (s.S.Chains.length : Int)]) (b := [t.ID, t.Shards, t.Done, t.S.Mark, (t.S.Chains.length : Int)]) rfl (fun v hv => by simp at hv; omega) (fun v hv => by simp at hv; omega) e
 simp only [List.cons.injEq, and_true] at e1
 obtain ⟨a1, a2, a3, a4, a5⟩ := e1
 have verc : ∀ {a b : TVersion} {r u : List Int}, (0 ≤ a.Pos ∧ a.Pos < 9223372036854775808 ∧ a.Val.size ≤ 255) → (0 ≤ b.Pos ∧ b.Pos < 9223372036854775808 ∧ b.Val.size ≤ 255) → verL a ++ r = verL b ++ u → a = b ∧ r = u := fun {a b r u} ha hb h => by
  have ga := gone_le a
  have gb := gone_le b
  unfold verL at h
  simp only [List.append_assoc] at h
  obtain ⟨h1, h⟩ := nms_cut (a := [a.Pos, gone a]) (b := [b.Pos, gone b]) rfl (fun v hv => by simp at hv; omega) (fun v hv => by simp at hv; omega) h
  simp only [List.cons.injEq, and_true] at h1
  obtain ⟨h2, h⟩ := tx_cut ha.2.2 hb.2.2 h
  refine ⟨?_, h⟩
  obtain ⟨p, v, g⟩ := a
  obtain ⟨p', v', g'⟩ := b
  obtain ⟨k1, k2⟩ := h1
  unfold gone at k2
  dsimp only at k1 k2 h2
  subst k1; subst h2
  cases g <;> cases g' <;> first | rfl | (exfalso; simp at k2)
 have chc : ∀ {a b : TChain} {r u : List Int}, (a.Key.size ≤ 255 ∧ a.L.length ≤ 1000 ∧ ∀ v ∈ a.L, 0 ≤ v.Pos ∧ v.Pos < 9223372036854775808 ∧ v.Val.size ≤ 255) → (b.Key.size ≤ 255 ∧ b.L.length ≤ 1000 ∧ ∀ v ∈ b.L, 0 ≤ v.Pos ∧ v.Pos < 9223372036854775808 ∧ v.Val.size ≤ 255) → chL a ++ r = chL b ++ u → a = b ∧ r = u := fun {a b r u} ha hb h => by
  unfold chL at h
  simp only [List.append_assoc] at h
  obtain ⟨h1, h⟩ := tx_cut ha.1 hb.1 h
  have la := ha.2.1
  have lb := hb.2.1
  obtain ⟨h2, h⟩ := nms_cut (a := [(a.L.length : Int)]) (b := [(b.L.length : Int)]) rfl (fun v hv => by simp at hv; omega) (fun v hv => by simp at hv; omega) h
  simp only [List.cons.injEq, and_true] at h2
  obtain ⟨h3, h⟩ := rows_cut verc (by omega) ha.2.2 hb.2.2 h
  exact ⟨chain_ext h1 h3, h⟩
 have okc : ∀ {s : TShard} {N D : Nat}, SI 200 N D s → D ≤ 15 → N ≤ 45 → ∀ c ∈ s.S.Chains, c.Key.size ≤ 255 ∧ c.L.length ≤ 1000 ∧ ∀ v ∈ c.L, 0 ≤ v.Pos ∧ v.Pos < 9223372036854775808 ∧ v.Val.size ≤ 255 := fun {s N D} h hD hN c hc => by
  obtain ⟨k1, k2, k3, k4⟩ := h.mi.ok c hc
  have z1 := six_sz k1
  have z2 := h.mi.sml.2 c hc
  refine ⟨by omega, by omega, fun v hv => ?_⟩
  have z3 := ver_sz k3 hv
  have z4 := upTo_le (p := (D : Int)) (by rw [may_last k3 k2, decide_eq_true k4]) hv
  omega
 obtain ⟨b1, e⟩ := rows_cut chc (by omega) (okc hs hD hN) (okc ht hD' hN') e
 obtain ⟨b2, e⟩ := nms_cut (a := [(s.Seats.length : Int)]) (b := [(t.Seats.length : Int)]) rfl (fun v hv => by simp at hv; omega) (fun v hv => by simp at hv; omega) e
 simp only [List.cons.injEq, and_true] at b2
 have sec : ∀ {a b : TSeat} {r u : List Int}, ((0 ≤ a.Session ∧ a.Session < 100) ∧ (0 ≤ a.Seq ∧ a.Seq < 2000) ∧ 0 ≤ a.Pos ∧ a.Pos < 100) → ((0 ≤ b.Session ∧ b.Session < 100) ∧ (0 ≤ b.Seq ∧ b.Seq < 2000) ∧ 0 ≤ b.Pos ∧ b.Pos < 100) → seL a ++ r = seL b ++ u → a = b ∧ r = u := fun {a b r u} ha hb h => by
  unfold seL at h
  obtain ⟨h1, h⟩ := nms_cut (a := [a.Session, a.Seq, a.Pos]) (b := [b.Session, b.Seq, b.Pos]) rfl (fun v hv => by simp at hv; omega) (fun v hv => by simp at hv; omega) h
  simp only [List.cons.injEq, and_true] at h1
  refine ⟨?_, h⟩
  obtain ⟨p, v, g⟩ := a
  obtain ⟨p', v', g'⟩ := b
  obtain ⟨k1, k2, k3⟩ := h1
  dsimp only at k1 k2 k3
  subst k1; subst k2; subst k3; rfl
 obtain ⟨b3, e⟩ := rows_cut sec (by omega) (fun x hx => by have := hs.se x hx; omega) (fun x hx => by have := ht.se x hx; omega) e
 have hbl := hs.bl
 have hbl' := ht.bl
 have hal := hs.sl
 have hal' := ht.sl
 have hDD : D = D' := by omega
 obtain ⟨b4, e⟩ := nms_cut (a := s.Bits) (b := t.Bits) (by omega) (fun v hv => by have := hs.bi v hv; omega) (fun v hv => by have := ht.bi v hv; omega) e
 obtain ⟨b5, e⟩ := nms_cut (a := s.Said) (b := t.Said) (r := []) (s := []) (by omega) (fun v hv => by have := hs.sa v hv; omega) (fun v hv => by have := ht.sa v hv; omega) (by simpa using e)
 obtain ⟨x1, x2, x3, ⟨x4, x5⟩, x6, x7, x8⟩ := s
 obtain ⟨y1, y2, y3, ⟨y4, y5⟩, y6, y7, y8⟩ := t
 dsimp only at a1 a2 a3 a4 b1 b3 b4 b5
 subst a1; subst a2; subst a3; subst a4; subst b1; subst b3; subst b4; subst b5; rfl
theorem ver_bytes (v : TVersion) : Bytes (verL v) := (nms_bytes _).app (tx_bytes _)
theorem ch_bytes (c : TChain) : Bytes (chL c) := ((tx_bytes _).app (nms_bytes _)).app (rows_bytes ver_bytes _)
theorem put_bytes (s : TShard) : Bytes (putL s) := (((((nms_bytes _).app (rows_bytes ch_bytes _)).app (nms_bytes _)).app (rows_bytes (fun x => nms_bytes _) _)).app (nms_bytes _)).app (nms_bytes _)
theorem holds (a b : List Int) (n_v id mark : Int) (k0 : okL (okI .u8) a) (k1 : okL (okI .u8) b) (k2 : okI .u8 n_v) (k3 : okI .u8 id) (k4 : okI .u8 mark) : ∃ fu, diwanlaw20_SaveUnlike fu a b n_v id mark = some true := by
 refine ⟨200, ?_⟩
 unfold diwanlaw20_SaveUnlike
 rw [bd_s begun_e, br_f (b := !true) rfl]
 by_cases h1 : (a.length : Int) > 250
 ·rw [br_t (decide_eq_true h1)]
 rw [br_f (decide_eq_false h1)]
 by_cases h2 : (b.length : Int) > 250
 ·rw [br_t (decide_eq_true h2)]
 rw [br_f (decide_eq_false h2)]
 obtain ⟨s, N, D, g1, g2, g3, g4⟩ := made_e (fu := 200) (Nat.le_refl _) k0 (by omega) k2 k3 k4
 obtain ⟨t, N', D', q1, q2, q3, q4⟩ := made_e (fu := 200) (Nat.le_refl _) k1 (by omega) k2 k3 k4
 have put : ∀ {s : TShard} {N D : Nat}, SI 200 N D s → D ≤ 15 → N ≤ 45 → save_Put 200 s = some (putL s) ∧ 0 < (putL s).length := fun {s N D} h hD hN => by
  obtain ⟨m1, m2⟩ := si_may h hD hN
  have hb := h.bl
  have hsl := h.sln
  have hM := h.mark
  exact put_some m1 m2 h.mi.sml (by omega) (by omega) (by omega) (by omega) (by omega) (by decide)
 obtain ⟨p1, p2⟩ := put g2 g3 g4
 obtain ⟨p3, p4⟩ := put q2 q3 q4
 have hb := g2.bl
 have ha := g2.sl
 have hsl := g2.sln
 obtain ⟨c, w1, w2⟩ := same_e (fu := 200) (b := t) g2.mi.sml (by omega) (by omega) (by omega) (by omega) (by omega)
 have key : ((strB (putL s)).toList == (strB (putL t)).toList) = c := by
  by_cases e : s = t
  ·rw [w2.2 e, e, beq_self_eq_true]
  ·have hc : c = false := by
    cases c
    ·rfl
    ·exact absurd (w2.1 rfl) e
   rw [hc]
   exact beq_eq_false_iff_ne.2 fun g => e (put_inj g2 q2 g3 q3 g4 q4 (str_inj (put_bytes s) (put_bytes t) g))
 rw [bd_s g1, bd_s q1, bd_s p1, bd_s p3, bd_s w1, key, br_t (beq_self_eq_true _), bd_s p1, decide_eq_true (by omega)]
end Go.Proofs.Ythjpcfbfiaenaaa.Told.PureSaveUnlike
