/- The plain law of MsgAll: which letters may be, and are the same. -/
import Derived.Test.YtbflggolnolaeaaTMg5
import Derived.Test.YtbflggolnolaeaaTMg7
namespace Go.Proofs.Ytbflggolnolaeaa.Told.PureMsgAll
open Go Go.Proofs.Ytbflggolnolaeaa.Vam Go.Proofs.Ytbflggolnolaeaa.Told Go.Proofs.Ytbflggolnolaeaa.Told.ST Go.Proofs.Ytbflggolnolaeaa.Told.MG
set_option linter.unusedSimpArgs false
set_option linter.unusedVariables false
theorem begun_e : diwanlaw6_begun 2000000 = some true := by kernel_rfl
theorem light_tot (fu : Nat) (m : TMsg) : ∀ (d i n : Nat), i + d = m.Entries.length → m.Entries.length ≤ 1048576 → (∀ e ∈ m.Entries, e.T.Reads.length ≤ 1048576 ∧ e.T.Writes.length ≤ 1048576) → d < n → ∃ o, diwanlaw6_Light.lp3 fu m n (i : Int) = some o ∧ (o = .inl () → ∀ j, i ≤ j → ∀ e, m.Entries[j]? = some e → e.T.Reads.length ≤ 9 ∧ e.T.Writes.length ≤ 9)
 | 0, i, n, h, hl, he, hn => by
  obtain ⟨n, rfl⟩ : ∃ m, n = m + 1 := ⟨n - 1, by omega⟩
  rw [diwanlaw6_Light.lp3, br_f (decide_eq_false (by omega))]
  refine ⟨_, rfl, fun _ j hj e hx => ?_⟩
  have := (List.getElem?_eq_some_iff.1 hx).1
  omega
 | d + 1, i, n, h, hl, he, hn => by
  obtain ⟨n, rfl⟩ : ∃ m, n = m + 1 := ⟨n - 1, by omega⟩
  have hx : m.Entries[i]? = some m.Entries[i] := List.getElem?_eq_getElem (by omega)
  obtain ⟨g1, g2⟩ := he _ (List.getElem_mem (show i < m.Entries.length by omega))
  obtain ⟨o, k1, k2⟩ := light_tot fu m d (i + 1) n (by omega) hl he (by omega)
  have ew : w64 ((i : Int) + 1) = ((i + 1 : Nat) : Int) := by rw [w64_id (by omega) (by omega)]; omega
  have es : w64 ((m.Entries[i].T.Reads.length : Int) + (m.Entries[i].T.Writes.length : Int)) = (m.Entries[i].T.Reads.length : Int) + (m.Entries[i].T.Writes.length : Int) := w64_id (by omega) (by omega)
  rw [diwanlaw6_Light.lp3, br_t (decide_eq_true (by omega)), ix_n hx, ix_n hx, es, ew, k1]
  by_cases hc : (m.Entries[i].T.Reads.length : Int) + (m.Entries[i].T.Writes.length : Int) > 9
  ·rw [br_t (decide_eq_true hc)]
   exact ⟨_, rfl, fun e => by cases e⟩
  ·rw [br_f (decide_eq_false hc)]
   refine ⟨o, rfl, fun ho j hj e he' => ?_⟩
   by_cases hij : j = i
   ·subst hij
    rw [hx] at he'
    cases he'
    omega
   ·exact k2 ho j (by omega) e he'
theorem light_e {m : TMsg} (h0 : m.Entries.length ≤ 1048576) (he : ∀ e ∈ m.Entries, e.T.Reads.length ≤ 1048576 ∧ e.T.Writes.length ≤ 1048576) (ht : m.T.Reads.length ≤ 1048576 ∧ m.T.Writes.length ≤ 1048576) (hs : m.FromKey.size ≤ 1048576 ∧ m.ToKey.size ≤ 1048576) :
  ∃ b, diwanlaw6_Light 2000000 m = some b ∧ (b = true → SmM 100 m) := by
 obtain ⟨o, k1, k2⟩ := light_tot 2000000 m m.Entries.length 0 2000000 (by omega) h0 he (by omega)
 simp only [Int.natCast_zero] at k1
 have e1 : w64 ((m.T.Reads.length : Int) + (m.T.Writes.length : Int)) = (m.T.Reads.length : Int) + (m.T.Writes.length : Int) := w64_id (by omega) (by omega)
 have e2 : w64 ((m.FromKey.size : Int) + (m.ToKey.size : Int)) = (m.FromKey.size : Int) + (m.ToKey.size : Int) := w64_id (by omega) (by omega)
 unfold diwanlaw6_Light
 rw [bd_s k1]
 cases o with
 | inr _ => exact ⟨false, rfl, fun h => by cases h⟩
 | inl _ =>
  dsimp only
  rw [e1, e2]
  refine ⟨_, br_and (br_and (br_and (br_and rfl))), fun h => ?_⟩
  simp only [Bool.and_eq_true, decide_eq_true_eq] at h
  obtain ⟨h1, h2, h3, h4, h5⟩ := h
  refine ⟨⟨by omega, fun e hm => ?_⟩, by omega, by omega, by omega, by omega⟩
  obtain ⟨j, hj⟩ := List.getElem?_of_mem hm
  have := k2 rfl j (Nat.zero_le _) e hj
  omega
theorem say {m x : TMsg} {N M : Nat} (hm : MsF 2000000 N m) (hx : MsF 2000000 M x) (hv : VerM m) : ∃ b, diwanref1_MayMsg 2000000 m = some b ∧ msg_May 2000000 m = some b ∧ (∃ r, msg_Put 2000000 m = some r ∧ decide ((r.length : Int) > 0) = b) ∧ msg_Same 2000000 m x = some (msgB m x) ∧ diwanref1_SameMsg 2000000 m x = some (msgB m x) := by
 have s1 := same_e (b := x) hm.sm hm.n1 hm.n2 hm.f8
 have s2 := rsame_e (b := x) hm.sm hm.n1 hm.n2
 by_cases hk : 1 ≤ m.Kind ∧ m.Kind ≤ 9
 ·have m1 := may_e hm hk
  have m2 := rmay_e hm hk
  refine ⟨mayM 2000000 m, m2, m1, ?_, s1, s2⟩
  cases hb : mayM 2000000 m
  ·rw [hb] at m1
   exact ⟨[], put_none m1, rfl⟩
  ·obtain ⟨p1, p2⟩ := put_some (by decide) hm hk hb hv
   exact ⟨_, p1, decide_eq_true (by omega)⟩
 ·obtain ⟨m1, m2⟩ := may_no hm hk
  exact ⟨false, m2, m1, ⟨[], put_none m1, rfl⟩, s1, s2⟩
theorem holds (picks : List Int) (m : TMsg) (k0 : okLN 1048576 (okI .u8) picks) (k1 : TMsg.ok m) : ∃ fu, diwanlaw6_MsgAll fu picks m = some true := by
 refine ⟨2000000, ?_⟩
 unfold diwanlaw6_MsgAll
 rw [bd_s begun_e, br_f (b := !true) rfl]
 by_cases h1 : (picks.length : Int) > 60
 ·rw [br_t (decide_eq_true h1)]
 rw [br_f (decide_eq_false h1)]
 obtain ⟨a1, a2, a3, a4, a5, a6, a7, a8, a9, a10, a11, a12, a13, a14, a15, a16, a17, a18, a19, a20, a21, a22, a23, a24⟩ := k1
 obtain ⟨b, l1, l2⟩ := light_e (m := m) a10.1 (fun e he => ⟨(a10.2 e he).2.2.2.2.1.1, (a10.2 e he).2.2.2.2.2.1⟩) ⟨a13.1, a14.1⟩ ⟨a20, a21⟩
 rw [bd_s l1]
 cases b
 ·rw [br_t (b := !false) rfl]
 rw [br_f (b := !true) rfl]
 have hsm := l2 rfl
 have big : ∀ {n : Nat}, n ≤ 1048576 → n ≤ 9223372036854775807 ∧ n < 2000000 := fun h => by omega
 have hm : MsF 2000000 100 m := by
  have z1 := hsm.tr
  have z2 := hsm.tw
  refine ⟨hsm, by decide, by decide, by decide, ⟨by omega, by omega, fun x hx => big (a13.2 x hx).1, fun x hx => big (a14.2 x hx).1⟩, fun e he => ?_, fun k hk => big (a22.2 k hk), fun r hr => big (a23.2 r hr).1⟩
  obtain ⟨_, _, _, _, r1, r2⟩ := a10.2 e he
  have := hsm.en.2 e he
  exact ⟨by omega, by omega, fun x hx => big (r1.2 x hx).1, fun x hx => big (r2.2 x hx).1⟩
 have hv : VerM m := ⟨fun x hx => by have := okI_i64 (a13.2 x hx).2.1; omega, fun e he x hx => by
  obtain ⟨_, _, _, _, r1, _⟩ := a10.2 e he
  have := okI_i64 (r1.2 x hx).2.1; omega⟩
 obtain ⟨x, g1, g2⟩ := made_e (fu := 2000000) (by decide) k0.2 (by omega)
 rw [bd_s g1]
 obtain ⟨y, hy⟩ : ∃ y, y = TMsg.mk x.Kind x.From x.To m.Part m.Term m.Index x.LogTerm x.Commit x.OK x.Entries x.T x.Session x.Seq x.Pos x.Shard x.Span x.FromKey x.ToKey x.Keys x.Got x.Err := ⟨_, rfl⟩
 rw [← hy]
 have hyf : MsF 2000000 100 y := by
  rw [hy]
  exact ⟨⟨g2.f.sm.en, g2.f.sm.tr, g2.f.sm.tw, g2.f.sm.ks, g2.f.sm.gs⟩, by decide, by decide, by decide, g2.f.t, g2.f.e, g2.f.k, g2.f.g⟩
 have hyv : VerM y := by rw [hy]; exact g2.v
 have step : ∀ (i n : Nat) (t : TMsg), i < 3 → ([m, x, y] : List TMsg)[i]? = some t → MsF 2000000 100 t → VerM t → diwanlaw6_MsgAll.lp14 2000000 [m, x, y] x (n + 1) (i : Int) = diwanlaw6_MsgAll.lp14 2000000 [m, x, y] x n ((i + 1 : Nat) : Int) := fun i n t hi hx ht hv => by
  obtain ⟨b, w1, w2, ⟨r, w3, w4⟩, w5, w6⟩ := say ht g2.f hv
  have ew : w64 ((i : Int) + 1) = ((i + 1 : Nat) : Int) := by rw [w64_id (by omega) (by omega)]; omega
  rw [diwanlaw6_MsgAll.lp14, br_t (decide_eq_true (by omega)), ix_n hx, bd_s w1, ix_n hx, bd_s w2, br_f (b := !(b == b)) (by simp), ix_n hx, bd_s w3, w4, br_f (b := !(b == b)) (by simp), ix_n hx, bd_s w5, ix_n hx, bd_s w6, br_f (by simp), ew]
 have s0 := step 0 1999999 m (by decide) rfl hm hv
 have s1 := step 1 1999998 x (by decide) rfl g2.f g2.v
 have s2 := step 2 1999997 y (by decide) rfl hyf hyv
 have s3 : diwanlaw6_MsgAll.lp14 2000000 [m, x, y] x (1999996 + 1) ((2 + 1 : Nat) : Int) = some (.inl ()) := by
  rw [diwanlaw6_MsgAll.lp14, br_f (decide_eq_false (by decide))]
 have all : diwanlaw6_MsgAll.lp14 2000000 [m, x, y] x 2000000 0 = some (.inl ()) := s0.trans (s1.trans (s2.trans s3))
 rw [bd_s all]
 dsimp only
 rw [bd_s (may_e g2.f g2.kd), g2.may]
end Go.Proofs.Ytbflggolnolaeaa.Told.PureMsgAll
