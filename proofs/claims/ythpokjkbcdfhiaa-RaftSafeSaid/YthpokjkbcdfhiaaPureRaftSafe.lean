/- The plain law of RaftSafe: in any run one leads a term, and what is committed is one row. -/
import Derived.Test.YthpokjkbcdfhiaaTRs6
import Derived.Test.YthpokjkbcdfhiaaTRfm
import Derived.Test.YthpokjkbcdfhiaaTRfe
namespace Go.Proofs.Ythpokjkbcdfhiaa.Told.PureRaftSafe
open Go Go.Proofs.Ythpokjkbcdfhiaa.Vam Go.Proofs.Ythpokjkbcdfhiaa.Told Go.Proofs.Ythpokjkbcdfhiaa.Told.PK Go.Proofs.Ythpokjkbcdfhiaa.Told.RA
set_option linter.unusedSimpArgs false
set_option linter.unusedVariables false
theorem begun_e : diwanlaw11_begun 600 = some true := by kernel_rfl
theorem aput_look : ∀ (l : List (Int × Int)) (k v a : Int), alook eqI (aput eqI l k v) a = if a = k then some v else alook eqI l a
 | [], k, v, a => by
  show (bif a == k then some v else none) = if a = k then some v else none
  by_cases h : a = k
  ·subst h; simp
  ·rw [beq_eq_false_iff_ne.2 h, if_neg h]; rfl
 | (p, q) :: l, k, v, a => by
  have ih := aput_look l k v a
  unfold aput
  by_cases hk : k = p
  ·subst hk
   rw [show eqI k (k, q).1 = true from beq_self_eq_true _, cond_true]
   show (bif a == k then some v else alook eqI l a) = _
   by_cases h : a = k
   ·subst h; simp
   ·rw [beq_eq_false_iff_ne.2 h, if_neg h, cond_false]
    show _ = (bif a == k then some q else alook eqI l a)
    rw [beq_eq_false_iff_ne.2 h]; rfl
  ·rw [show eqI k (p, q).1 = false from beq_eq_false_iff_ne.2 hk, cond_false]
   show (bif a == p then some q else alook eqI (aput eqI l k v) a) = _
   rw [ih]
   show _ = if a = k then some v else (bif a == p then some q else alook eqI l a)
   by_cases h : a = p
   ·subst h; rw [beq_self_eq_true, if_neg (fun g => hk g.symm), if_neg (fun g => hk g.symm)]
   ·rw [beq_eq_false_iff_ne.2 h]; rfl
theorem pre_same {α : Type} {p q : List α} (h : p <+: q) {k : Nat} (hk : k ≤ p.length) : q.take k = p.take k := by
 obtain ⟨t, rfl⟩ := h
 exact List.take_append_of_le_length hk
def Seen (G : Gh) (l : List (Int × Int)) : Prop := ∀ t v, alook eqI l t = some v → ∃ x, G.L t = some x ∧ v = (x.who : Int) + 1
theorem Seen.mono {T T' : Nat → Int} {G G' : Gh} {l : List (Int × Int)} (h : Seen G l) (hl : Le T T' G G') : Seen G' l := fun t v e => by
 obtain ⟨x, h1, h2⟩ := h t v e
 obtain ⟨y, k1, k2, _⟩ := hl.l t x h1
 exact ⟨y, k1, by rw [k2]; exact h2⟩
theorem seen_lp {n : Nat} {s : Int} {g : TGroup} {R : Nat → TRaft} {G : Gh} (h : GI n s g R G) (o : TPicks) : ∀ (d i m : Nat) (leads : List (Int × Int)) (done : List TEntry), i + d = n → d < m → Seen G leads → (∃ hi, Dec n G hi done) →
  ∃ leads' done', diwanlaw11_RaftSafe.lp17 600 g o m leads done (i : Int) = some (.inl (leads', done')) ∧ Seen G leads' ∧ ∃ hi, Dec n G hi done'
 | 0, i, m, leads, done, hid, hm, hs, hd => by
  obtain ⟨m, rfl⟩ : ∃ k, m = k + 1 := ⟨m - 1, by omega⟩
  rw [diwanlaw11_RaftSafe.lp17, br_f (decide_eq_false (by rw [h.len]; omega))]
  exact ⟨_, _, rfl, hs, hd⟩
 | d + 1, i, m, leads, done, hid, hm, hs, hd => by
  obtain ⟨m, rfl⟩ : ∃ k, m = k + 1 := ⟨m - 1, by omega⟩
  have hn := h.n1
  have hi : i < n := by omega
  have hx := h.get i hi
  have r := h.inv.r i hi
  have hl := r.bs.len
  have hc := r.may.commit
  have hmay := mayB_iff.2 r.may
  have wi : w64 ((i : Int) + 1) = ((i + 1 : Nat) : Int) := by rw [w64_id (by omega) (by omega)]; omega
  rw [diwanlaw11_RaftSafe.lp17, br_t (decide_eq_true (by rw [h.len]; omega)), ix_n hx, bd_s (r.bs.may (by decide)), hmay, br_f (by rfl), bd_s (rmay_e (by omega) (by omega)), hmay, br_f (by rfl), jn_e, wi]
  obtain ⟨hi1, hd1⟩ := hd
  have dec := r.c1
  have ih := fun leads done h1 h2 => seen_lp h o d (i + 1) m leads done (by omega) (by omega) h1 h2
  -- what was committed is one row
  have rest : ∀ lds, Seen G lds → ∃ leads' done', (gd (decide ((0 : Int) ≤ (if (done.length : Int) < (R i).Commit then (done.length : Int) else (R i).Commit) ∧ (if (done.length : Int) < (R i).Commit then (done.length : Int) else (R i).Commit) ≤ ((R i).Log.length : Int))) <|
   gd (decide ((0 : Int) ≤ (if (done.length : Int) < (R i).Commit then (done.length : Int) else (R i).Commit) ∧ (if (done.length : Int) < (R i).Commit then (done.length : Int) else (R i).Commit) ≤ (done.length : Int))) <|
   bd (diwanref1_SameEntries 600 (List.take (if (done.length : Int) < (R i).Commit then (done.length : Int) else (R i).Commit).toNat (R i).Log) (List.take (if (done.length : Int) < (R i).Commit then (done.length : Int) else (R i).Commit).toNat done)) fun r34_3 =>
   br (!r34_3)
    (some (.inr ()))
    (br (decide ((R i).Commit > (done.length : Int)))
    (gd (decide ((0 : Int) ≤ (R i).Commit ∧ (R i).Commit ≤ ((R i).Log.length : Int))) <|
    gd (decide (([] : List TEntry).length + (List.take (R i).Commit.toNat (R i).Log).length ≤ 4294967296)) <|
    diwanlaw11_RaftSafe.lp17 600 g o m lds (List.take (R i).Commit.toNat (R i).Log) ((i + 1 : Nat) : Int))
    (diwanlaw11_RaftSafe.lp17 600 g o m lds done ((i + 1 : Nat) : Int)))) = some (.inl (leads', done')) ∧ Seen G leads' ∧ ∃ hi, Dec n G hi done' := by
   intro lds hlds
   obtain ⟨k, hk⟩ : ∃ k : Nat, (if (done.length : Int) < (R i).Commit then (done.length : Int) else (R i).Commit) = (k : Int) := ⟨min done.length (R i).Commit.toNat, by split <;> omega⟩
   have hk1 : k ≤ done.length ∧ (k : Int) ≤ (R i).Commit := by rw [← hk]; split at hk <;> omega
   have same : List.take k (R i).Log = List.take k done := by
    have e1 : List.take k (R i).Log = ((R i).Log.take (R i).Commit.toNat).take k := by rw [List.take_take, Nat.min_eq_left (by omega)]
    rw [e1]
    have lk : (((R i).Log.take (R i).Commit.toNat).take k).length = k := by simp; omega
    rcases h.inv.w.dec_two dec hd1 with p | p
    ·exact (pre_same p (by rw [List.length_take] at lk; omega)).symm
    ·exact pre_same p hk1.1
   rw [hk, gd_t (decide_eq_true (by omega)), gd_t (decide_eq_true (by omega)), Int.toNat_natCast, same,
    bd_s (rsL_e (N := 200) (a := List.take k done) (b := List.take k done) ⟨by rw [← same]; simp; omega, fun e he => by
     rw [← same] at he
     have := r.smt e (List.mem_of_mem_take he); unfold Smt at this; omega⟩ (by decide) (by decide)), (eqL_iff enB_iff).2 rfl, br_f (by rfl)]
   by_cases c : (R i).Commit > (done.length : Int)
   ·rw [br_t (decide_eq_true c), gd_t (decide_eq_true (by omega)), gd_t (decide_eq_true (by simp; omega))]
    exact ih _ _ hlds ⟨_, dec⟩
   ·rw [br_f (decide_eq_false c)]
    exact ih _ _ hlds ⟨_, hd1⟩
  by_cases c : (R i).Role = 2
  ·obtain ⟨x, l1, l2, _⟩ := r.l2 c
   have hme := r.me
   have put : Seen G (aput eqI leads (R i).Term (R i).Me) := fun t v e => by
    rw [aput_look] at e
    split at e
    ·rename_i ht
     cases e
     exact ⟨x, by rw [ht]; exact l1, by rw [l2]; exact hme⟩
    ·exact hs t v e
   rw [br_t (beq_iff_eq.2 c)]
   cases ha : alook eqI leads (R i).Term with
   | none =>
    rw [Option.getD_none, br_f (by rfl)]
    exact rest _ put
   | some v =>
    obtain ⟨y, k1, k2⟩ := hs _ _ ha
    rw [l1] at k1
    cases k1
    have hv : v = (R i).Me := by rw [k2, l2]; exact hme.symm
    rw [Option.getD_some, hv, br_t (by rw [bne_iff_ne]; omega), br_f (by simp)]
    exact rest _ put
  ·rw [br_f (beq_eq_false_iff_ne.2 c)]
   exact rest _ hs
theorem run_lp {n : Nat} : ∀ (d m : Nat) (s : Int) (g : TGroup) (R : Nat → TRaft) (G : Gh) (o : TPicks) (leads : List (Int × Int)) (done : List TEntry), GI n s g R G → 0 ≤ s → s + d ≤ 1000 → PInv o → ((o.l.length : Int) - o.n).toNat ≤ d → d < m → Seen G leads → (∃ hi, Dec n G hi done) →
  diwanlaw11_RaftSafe.lp12 600 m leads done g o = some (.inl ())
 | d, m, s, g, R, G, o, leads, done, h, hs0, hs, ho, hd, hm, hl, hdn => by
  obtain ⟨m, rfl⟩ : ∃ k, m = k + 1 := ⟨m - 1, by omega⟩
  rw [diwanlaw11_RaftSafe.lp12, bd_s (show diwanplay_Picks_Over o = some (decide (o.n ≥ (o.l.length : Int))) from rfl)]
  by_cases c : o.n ≥ (o.l.length : Int)
  ·rw [decide_eq_true c, br_f (by rfl)]
  ·rw [decide_eq_false c, br_t (by rfl)]
   obtain ⟨g', o', i, y, G', e1, a1, s1, dd⟩ := run_e h ⟨hs0, by omega⟩ ho
   have := s1 (by omega)
   obtain ⟨d, rfl⟩ : ∃ k, d = k + 1 := ⟨d - 1, by omega⟩
   rw [bd_s e1]
   dsimp only
   obtain ⟨hi, hd1⟩ := hdn
   obtain ⟨leads', done', e2, h2, h3⟩ := seen_lp dd.gi o' n 0 600 leads done (by omega) (by have := h.n1; omega) (hl.mono dd.le) ⟨hi, hd1.mono dd.le (Int.le_refl _)⟩
   rw [Int.natCast_zero] at e2
   rw [bd_s e2]
   dsimp only
   exact run_lp d m (s + 1) g' _ G' o' leads' done' dd.gi (by omega) (by omega) a1.1 (by rw [a1.2.1]; omega) (by omega) h2 h3
theorem holds (picks : List Int) (n_v : Int) (k0 : okL (okI .u8) picks) (k1 : okI .u8 n_v) : ∃ fu, diwanlaw11_RaftSafe fu picks n_v = some true := by
 refine ⟨600, ?_⟩
 unfold diwanlaw11_RaftSafe
 rw [bd_s begun_e, br_f (by rfl)]
 by_cases h1 : (picks.length : Int) > 400
 ·rw [br_t (decide_eq_true h1)]
 rw [br_f (decide_eq_false h1)]
 have hb := okI_u8 k1
 have b0 : 0 ≤ Int.tmod n_v 5 ∧ Int.tmod n_v 5 < 5 := by
  rw [Int.tmod_eq_emod_of_nonneg hb.1]
  exact ⟨Int.emod_nonneg _ (by decide), Int.emod_lt_of_pos _ (by decide)⟩
 obtain ⟨n, hn⟩ : ∃ n : Nat, 1 + Int.tmod n_v 5 = (n : Int) := ⟨(1 + Int.tmod n_v 5).toNat, by omega⟩
 rw [w64_id (n := Int.tmod n_v 5) (by omega) (by omega), w64_id (n := 1 + Int.tmod n_v 5) (by omega) (by omega), hn]
 obtain ⟨g, e1, hg⟩ := group_e (fu := 600) (n := n) (by omega) (by decide)
 rw [bd_s e1]
 unfold diwanplay_Made
 rw [bd_s rfl]
 have := run_lp 400 600 0 g _ _ (TPicks.mk picks 0) [] [] hg (by decide) (by decide) (made_inv (l := picks) (fun x hx => k0.2 x hx) (by omega)) (by show ((picks.length : Int) - 0).toNat ≤ 400; omega) (by decide) (fun t v e => by cases e) ⟨0, .inl rfl⟩
 rw [bd_s this]
end Go.Proofs.Ythpokjkbcdfhiaa.Told.PureRaftSafe
