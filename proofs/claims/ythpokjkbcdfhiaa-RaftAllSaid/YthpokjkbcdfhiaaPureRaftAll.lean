/- The plain law of RaftAll: the program's member and the document's do the same. -/
import Derived.Test.YthpokjkbcdfhiaaTRf7
import Derived.Test.YthpokjkbcdfhiaaTRfs
import Derived.Test.YthpokjkbcdfhiaaTRg2
namespace Go.Proofs.Ythpokjkbcdfhiaa.Told.PureRaftAll
open Go Go.Proofs.Ythpokjkbcdfhiaa.Vam Go.Proofs.Ythpokjkbcdfhiaa.Told Go.Proofs.Ythpokjkbcdfhiaa.Told.PK Go.Proofs.Ythpokjkbcdfhiaa.Told.RA
set_option linter.unusedSimpArgs false
set_option linter.unusedVariables false
theorem begun_e : diwanlaw11_begun 600 = some true := by kernel_rfl
def IsL (m : TMsg) : Prop := ∃ kind me to term index lt commit ok es, m = ltr kind me to term index lt commit ok es ∧ SmE 200 es
theorem isL {kind me to term index lt commit : Int} {ok : Bool} {es : List TEntry} (h : SmE 200 es) : IsL (ltr kind me to term index lt commit ok es) := ⟨_, _, _, _, _, _, _, _, _, rfl, h⟩
theorem sm_nil : SmE 200 [] := ⟨Nat.zero_le _, fun e he => by cases he⟩
theorem txB_refl (t : TTxn) : txB t t = true := (txB_iff t t).2 rfl
theorem sameMsg_e {m : TMsg} (h : IsL m) : diwanref1_SameMsg 600 m m = some true := by
 obtain ⟨kind, me, to, term, index, lt, commit, ok, es, rfl, hs⟩ := h
 unfold diwanref1_SameMsg ltr
 dsimp only
 have k28 : diwanref1_SameMsg.lp28 600 (TMsg.mk kind me to 0 term index lt commit ok es noT 0 0 0 0 false ByteArray.empty ByteArray.empty [] [] 0) (TMsg.mk kind me to 0 term index lt commit ok es noT 0 0 0 0 false ByteArray.empty ByteArray.empty [] [] 0) 600 0 = some (.inl ()) := by
  rw [diwanref1_SameMsg.lp28, br_f (by rfl)]
 rw [br_f (by simp), br_f (by simp), br_f (by simp), br_f (by simp), br_f (by simp), br_f (by simp), br_f (by simp), br_f (by simp), br_f (by simp), br_f (by simp), br_f (by simp), br_f (by simp), br_f (by simp), br_f (by simp), br_f (by simp), br_f (by simp), br_f (by simp),
  bd_s (rsL_e (N := 200) hs (by decide) (by decide)), (eqL_iff enB_iff).2 rfl, br_f (by rfl), bd_s (rsT_e (N := 200) (Nat.zero_le _) (Nat.zero_le _) (by decide) (by decide)), txB_refl, br_f (by rfl), bd_s (rsR_e (by simp) (by simp)), (eqL_iff rdB_iff).2 rfl, br_f (by rfl), br_f (by rfl), bd_s k28]
theorem letters_lp (l : List TMsg) (hl : l.length ≤ 100) (h : ∀ m ∈ l, IsL m) : ∀ (s q : List TMsg) (n : Nat), l = q ++ s → s.length < n → diwanlaw11_sameLetters.lp6 600 l l n (q.length : Int) = some (.inl ())
 | [], q, n, hq, hn => by
  obtain ⟨n, rfl⟩ : ∃ m, n = m + 1 := ⟨n - 1, by omega⟩
  rw [diwanlaw11_sameLetters.lp6, br_f (decide_eq_false (by rw [hq]; simp))]
 | m :: s, q, n, hq, hn => by
  obtain ⟨n, rfl⟩ : ∃ m, n = m + 1 := ⟨n - 1, by omega⟩
  have hlen : l.length = q.length + 1 + s.length := by rw [hq]; simp; omega
  have hx : l[q.length]? = some m := by rw [hq]; simp
  have wq : w64 ((q.length : Int) + 1) = ((q ++ [m]).length : Int) := by rw [w64_id (by omega) (by omega)]; simp
  rw [diwanlaw11_sameLetters.lp6, br_t (decide_eq_true (by omega)), ix_n hx, ix_n hx, bd_s (sameMsg_e (h m (List.mem_of_getElem? hx))), br_f (by rfl), wq]
  exact letters_lp l hl h s (q ++ [m]) n (by rw [hq]; simp) (by simp at hn; omega)
theorem letters_e {l : List TMsg} (hl : l.length ≤ 100) (h : ∀ m ∈ l, IsL m) : diwanlaw11_sameLetters 600 l l = some true := by
 have := letters_lp l hl h l [] 600 rfl (by omega)
 simp only [List.length_nil, Int.natCast_zero] at this
 unfold diwanlaw11_sameLetters
 rw [br_f (by simp), bd_s this]
structure Rv (k : Int) (r : TRaft) : Prop where
 bs : Bs r
 term : 1 ≤ r.Term ∧ r.Term ≤ 10 + k
 smt : ∀ e ∈ r.Log, Smt e ∧ 0 ≤ e.Term ∧ e.Term ≤ 100
structure Okk (k : Int) (x : TRaft × List TMsg) : Prop where
 rv : Rv k x.1
 len : x.2.length ≤ 100
 out : ∀ m ∈ x.2, IsL m
theorem Rv.sm {k : Int} {r : TRaft} (h : Rv k r) : SmR 200 r := by
 have := h.bs.len
 have := h.bs.lv
 have := h.bs.lx
 have := h.bs.lm
 have := h.bs.nodes
 exact ⟨⟨by omega, fun e he => by have := (h.smt e he).1; unfold Smt at this; omega⟩, by omega, by omega, by omega⟩
theorem letE_ok {r : TRaft} (h : ∀ e ∈ r.Log, Smt e ∧ 0 ≤ e.Term ∧ e.Term ≤ 100) (to : Int) : IsL (letterE r to) :=
 isL ⟨by simp; omega, fun e he => by have := (h e (List.mem_of_mem_drop (List.mem_of_mem_take he))).1; unfold Smt at this; omega⟩
theorem bc_ok {k : Int} {r : TRaft} {g : TRaft → Int → TMsg} (h : Rv k r) (hg : ∀ to, IsL (g r to)) : Okk k (r, bc g r) := by
 have := oth_len r.Me r.Nodes.toNat 1
 have := h.bs.nodes
 refine ⟨h, by show (bc g r).length ≤ 100; unfold bc others; rw [List.length_map]; omega, fun m hm => ?_⟩
 unfold bc at hm
 obtain ⟨to, _, rfl⟩ := List.mem_map.1 hm
 exact hg to
theorem one_ok {k : Int} {r : TRaft} {m : TMsg} (h : Rv k r) (hm : IsL m) : Okk k (r, [m]) := ⟨h, by show 1 ≤ 100; decide, fun x hx => by rw [List.mem_singleton.1 hx]; exact hm⟩
theorem no_ok {k : Int} {r : TRaft} (h : Rv k r) : Okk k (r, []) := ⟨h, by show 0 ≤ 100; decide, fun x hx => by cases hx⟩
theorem propR_rv {k : Int} {r : TRaft} {e : TEntry} (hk : k ≤ 20) (h : Rv k r) (hl : r.Log.length < 200) (he : Smt e) : Rv k (propR r e) := by
 refine ⟨propR_bs h.bs hl (fun x hx => by rw [List.mem_singleton.1 hx]; unfold Smt at he; omega), h.term, fun x hx => ?_⟩
 have hT := h.term
 rcases List.mem_append.1 hx with g | g
 ·exact h.smt x g
 ·rw [List.mem_singleton.1 g]; exact ⟨he, by show 0 ≤ r.Term; omega, by show r.Term ≤ 100; omega⟩
theorem leadR_rv {k : Int} {r : TRaft} (hk : k ≤ 20) (h : Rv k r) : Rv k (leadR r) := by
 have h1 : Rv k (lead1 r) := ⟨lead1_bs h.bs, h.term, h.smt⟩
 unfold leadR
 split
 ·exact propR_rv hk h1 (by assumption) ⟨Nat.zero_le _, Nat.zero_le _⟩
 ·exact h1
theorem lead_ok {k : Int} {r : TRaft} (hk : k ≤ 20) (h : Rv k r) : Okk k (leadR r, bc letterE (leadR r)) := bc_ok (leadR_rv hk h) (letE_ok (leadR_rv hk h).smt)
theorem tickF_ok {k : Int} {r : TRaft} (hk : k ≤ 19) (h : Rv k r) : Okk (k + 1) (tickF r) := by
 have hT := h.term
 have hc := h.bs.clock
 have hr : Rv (k + 1) r := ⟨h.bs, by omega, h.smt⟩
 unfold tickF tickP standP
 split
 ·split
  ·exact bc_ok hr (letE_ok h.smt)
  ·split
   ·have hs : Rv (k + 1) (stand1 r) := ⟨stand1_bs h.bs (by omega), ⟨by show 1 ≤ r.Term + 1; omega, by show r.Term + 1 ≤ 10 + (k + 1); omega⟩, h.smt⟩
    split
    ·exact lead_ok (by omega) hs
    ·exact bc_ok hs fun to => isL sm_nil
   ·rename_i h3
    have hs : Rv (k + 1) (clockR r) := ⟨⟨h.bs.nodes, h.bs.me, h.bs.lv, h.bs.lx, h.bs.lm, h.bs.len, h.bs.sm, h.bs.term, h.bs.xs, h.bs.ms, ?_⟩, ⟨hT.1, by show r.Term ≤ 10 + (k + 1); omega⟩, h.smt⟩
    ·exact no_ok hs
    ·rename_i hm _
     have hw := (mayB_iff.1 hm).wait
     show 0 ≤ r.Clock + 1 ∧ r.Clock + 1 ≤ _
     omega
 ·exact no_ok hr
theorem propF_ok {k : Int} {r : TRaft} {e : TEntry} (hk : k ≤ 19) (h : Rv k r) (he : Smt e) : Okk k ((propF r e).1, (propF r e).2.1) := by
 unfold propF
 split
 ·rename_i hc
  have := propR_rv (by omega) h hc.2.2 he
  exact bc_ok this (letE_ok this.smt)
 ·exact no_ok h
theorem takeP_ok {k : Int} {r : TRaft} {m : TMsg} (hk : k ≤ 19) (h : Rv k r) (hm : Lb m) (h1 : 1 ≤ m.From) (h2 : m.From ≤ r.Nodes) (hE : ∀ e ∈ m.Entries, Smt e ∧ 0 ≤ e.Term ∧ e.Term ≤ 100) : Okk k (takeP r m) := by
 have z : (0 : Int) ≤ 0 ∧ (0 : Int) ≤ 1152921504606846976 := by omega
 unfold takeP
 split
 ·unfold askVoteP
  split
  ·exact one_ok ⟨⟨h.bs.nodes, h.bs.me, h.bs.lv, h.bs.lx, h.bs.lm, h.bs.len, h.bs.sm, h.bs.term, h.bs.xs, h.bs.ms, z⟩, h.term, h.smt⟩ (isL sm_nil)
  ·exact one_ok h (isL sm_nil)
 split
 ·unfold voteP
  split
  ·have hc : Rv k (countR r m.From) := ⟨countR_bs h.bs, h.term, h.smt⟩
   split
   ·exact lead_ok (by omega) hc
   ·exact no_ok hc
  ·exact no_ok h
 split
 ·unfold appendP
  split
  ·exact one_ok h (isL sm_nil)
  split
  ·exact no_ok h
  have hfo : Rv k (follR r m.From) := ⟨⟨h.bs.nodes, h.bs.me, h.bs.lv, h.bs.lx, h.bs.lm, h.bs.len, h.bs.sm, h.bs.term, h.bs.xs, h.bs.ms, z⟩, h.term, h.smt⟩
  split
  ·split
   ·exact one_ok hfo (isL sm_nil)
   ·rename_i hl
    refine one_ok ⟨⟨h.bs.nodes, h.bs.me, h.bs.lv, h.bs.lx, h.bs.lm, by show (joinF r.Log m.Index m.Entries).length ≤ 200; omega, fun e he => (join_mem e he).elim (h.bs.sm e) (hm.sm e), h.bs.term, h.bs.xs, h.bs.ms, z⟩, h.term, fun e he => (join_mem e he).elim (h.smt e) (hE e)⟩ (isL sm_nil)
  ·exact one_ok hfo (isL sm_nil)
 unfold appendedP
 split
 ·exact no_ok h
 split
 ·have hfr : Rv k (farR r m) := ⟨farR_bs h.bs h1 h2, h.term, h.smt⟩
  split
  ·exact one_ok hfr (letE_ok hfr.smt _)
  ·exact no_ok hfr
 ·have hbr : Rv k (backR r m) := ⟨backR_bs h.bs hm h1 h2, h.term, h.smt⟩
  exact one_ok hbr (letE_ok hbr.smt _)
theorem takeF_ok {k : Int} {r : TRaft} {m : TMsg} (hk : k ≤ 18) (h : Rv k r) (hl : LtrOk r m) : Okk (k + 1) (takeF r m) := by
 have hT := h.term
 have hlb : Lb m := hl.lb (by have := h.bs.len; omega) (by omega)
 have hmt := hl.term
 have hs : Rv (k + 1) (stepR r m) := by
  refine ⟨stepR_bs h.bs hlb.term, ?_, ?_⟩
  ·unfold stepR
   split
   ·show 1 ≤ m.Term ∧ m.Term ≤ 10 + (k + 1); omega
   ·omega
  ·unfold stepR
   split
   ·exact h.smt
   ·exact h.smt
 unfold takeF
 split
 ·refine takeP_ok (by omega) hs hlb hl.frm.1 (by rw [stepR_nodes]; exact hl.frm.2) fun e he => ?_
  have h1 := hl.smt e he
  have h2 := hl.ets e he
  refine ⟨h1, by omega, ?_⟩
  have : max m.Term 1 ≤ 100 := by omega
  omega
 ·exact no_ok ⟨h.bs, by omega, h.smt⟩
theorem fnew_e {me nodes wait : Int} {n : Nat} (h : nodes = (n : Int)) (hn : n ≤ 1000) : raft_New me nodes wait = some (TRaft.mk me nodes wait 0 0 [] 0 0 0 (List.replicate n false) (List.replicate n 0) (List.replicate n 0) 0) := by
 unfold raft_New
 have e : (if (4096 : Int) < (if nodes < 0 then 0 else nodes) then 4096 else (if nodes < 0 then 0 else nodes)) = (n : Int) := by rw [if_neg (show ¬ nodes < 0 by omega), if_neg (by omega)]; exact h
 rw [e, gd_t (decide_eq_true (by omega)), gd_t (decide_eq_true (by omega)), gd_t (decide_eq_true (by omega)), Int.toNat_natCast]
theorem all_lp : ∀ (d i n : Nat) (r : TRaft) (o : TPicks), i + d = 6 → Rv (i : Int) r → PInv o → d < n → diwanlaw11_RaftAll.lp17 600 n (i : Int) r o = some (.inl ())
 | 0, i, n, r, o, hid, hr, ho, hn => by
  obtain ⟨n, rfl⟩ : ∃ m, n = m + 1 := ⟨n - 1, by omega⟩
  rw [diwanlaw11_RaftAll.lp17, br_f (decide_eq_false (by omega))]
 | d + 1, i, n, r, o, hid, hr, ho, hn => by
  obtain ⟨n, rfl⟩ : ∃ m, n = m + 1 := ⟨n - 1, by omega⟩
  have hT := hr.term
  have hl := hr.bs.len
  obtain ⟨m, o1, h1, i1, hm⟩ := letter_e (fu := 600) (by decide) hr.bs.nodes hl ⟨by omega, by omega⟩ (fun e he => by have := hr.smt e he; omega) ho
  have hlb : Lb m := hm.lb (by omega) (by omega)
  have ht1 : r.Term < 1152921504606846976 := by omega
  rw [diwanlaw11_RaftAll.lp17, br_t (decide_eq_true (by omega)), bd_s h1]
  dsimp only
  have oT := takeF_ok (by omega) hr hm
  have oK := tickF_ok (by omega) hr
  rw [bd_s (x := ((takeF r m).1, (takeF r m).2)) (take_e hr.bs hlb (by decide))]
  dsimp only
  rw [bd_s (x := ((takeF r m).1, (takeF r m).2)) (rtake_e hr.bs hlb (by decide))]
  dsimp only
  rw [bd_s (x := ((tickF r).1, (tickF r).2)) (tick_e hr.bs ht1 (by decide))]
  dsimp only
  rw [bd_s (x := ((tickF r).1, (tickF r).2)) (rtick_e hr.bs ht1 (by decide))]
  dsimp only
  obtain ⟨a, o2, h2, i2, _⟩ := num_e i1 (m := 2) (by decide)
  rw [bd_s h2]
  dsimp only
  obtain ⟨b, o3, h3, i3, _⟩ := num_e i2 (m := 5) (by decide)
  rw [bd_s h3]
  dsimp only
  have wi : w64 ((i : Int) + 1) = ((i + 1 : Nat) : Int) := by rw [w64_id (by omega) (by omega)]; omega
  rw [jn_e, wi]
  have rest : ∀ (e : TEntry) (o : TPicks), Smt e → PInv o → (bd (raft_Propose 600 r e) fun (r30_1, r30_2, r30_3) =>
  bd (diwanref11_Propose 600 r e) fun (r31_1, r31_2, r31_3) =>
  bd (diwanref11_Same 600 (takeF r m).1 (takeF r m).1) fun r32_1 =>
  br (!r32_1)
   (some (.inr ()))
   (bd (diwanlaw11_sameLetters 600 (takeF r m).2 (takeF r m).2) fun r32_4 =>
   br (!r32_4)
   (some (.inr ()))
   (bd (diwanref11_Same 600 (tickF r).1 (tickF r).1) fun r32_7 =>
   br (!r32_7)
    (some (.inr ()))
    (bd (diwanlaw11_sameLetters 600 (tickF r).2 (tickF r).2) fun r32_10 =>
    br (!r32_10)
    (some (.inr ()))
    (bd (diwanref11_Same 600 r30_1 r31_1) fun r32_13 =>
    br (!r32_13)
     (some (.inr ()))
     (bd (diwanlaw11_sameLetters 600 r30_2 r31_2) fun r32_16 =>
     br (!r32_16)
     (some (.inr ()))
     (br (!(r30_3 == r31_3))
      (some (.inr ()))
      (bd (diwanplay_Picks_Num 4 o) fun (r41_1, r41_2) =>
      ix ([(takeF r m).1, (takeF r m).1, (tickF r).1, r31_1] : List TRaft) r41_1 fun x41_4 =>
      diwanlaw11_RaftAll.lp17 600 n ((i + 1 : Nat) : Int) x41_4 r41_2)))))))) = some (.inl () : Unit ⊕ Unit) := by
   intro e o he ho
   have hes : SmB [e] := fun x hx => by rw [List.mem_singleton.1 hx]; unfold Smt at he; omega
   have oP := propF_ok (by omega) hr he
   have self : ∀ {k : Int} {x : TRaft}, Rv k x → diwanref11_Same 600 x x = some true := fun h => by rw [rsame_e h.sm (by decide) (by decide), sameB_iff.2 rfl]
   rw [bd_s (x := ((propF r e).1, (propF r e).2.1, (propF r e).2.2)) (propose_e hr.bs hes (by decide))]
   dsimp only
   rw [bd_s (x := ((propF r e).1, (propF r e).2.1, (propF r e).2.2)) (rpropose_e hr.bs hes (by decide))]
   dsimp only
   rw [bd_s (self oT.rv), br_f (by rfl), bd_s (letters_e oT.len oT.out), br_f (by rfl), bd_s (self oK.rv), br_f (by rfl), bd_s (letters_e oK.len oK.out), br_f (by rfl), bd_s (self oP.rv), br_f (by rfl), bd_s (letters_e oP.len oP.out), br_f (by rfl), br_f (by simp)]
   obtain ⟨c, o4, h4, i4, c0, c1, _⟩ := num_e ho (m := 4) (by decide)
   rw [bd_s h4]
   dsimp only
   have go : ∀ x : TRaft, Rv ((i : Int) + 1) x → diwanlaw11_RaftAll.lp17 600 n ((i + 1 : Nat) : Int) x o4 = some (.inl ()) := fun x hx => all_lp d (i + 1) n x o4 (by omega) (by rw [show ((i + 1 : Nat) : Int) = (i : Int) + 1 by omega]; exact hx) i4 (by omega)
   have hc : c = 0 ∨ c = 1 ∨ c = 2 ∨ c = 3 := by omega
   have up : Rv ((i : Int) + 1) (propF r e).1 := ⟨oP.rv.bs, by have := oP.rv.term; dsimp only at this; omega, oP.rv.smt⟩
   rcases hc with rfl | rfl | rfl | rfl
   ·rw [ix_s (x := (takeF r m).1) (by decide) rfl]; exact go _ oT.rv
   ·rw [ix_s (x := (takeF r m).1) (by decide) rfl]; exact go _ oT.rv
   ·rw [ix_s (x := (tickF r).1) (by decide) rfl]; exact go _ oK.rv
   ·rw [ix_s (x := (propF r e).1) (by decide) rfl]; exact go _ up
  cases (a == 0)
  ·obtain ⟨t, o4, h4, i4, ht⟩ := txn_e (fu := 600) (by decide) 5 i3
   rw [br_t (by rfl), bd_s h4]
   exact rest _ _ ⟨ht.rl, ht.wl⟩ i4
  ·rw [br_f (by rfl)]
   exact rest _ _ ⟨Nat.zero_le _, Nat.zero_le _⟩ i3
theorem holds (picks more : List Int) (k0 : okL (okI .u8) picks) (k1 : okL (okI .u8) more) : ∃ fu, diwanlaw11_RaftAll fu picks more = some true := by
 refine ⟨600, ?_⟩
 unfold diwanlaw11_RaftAll
 rw [bd_s begun_e, br_f (by rfl)]
 by_cases h1 : (picks.length : Int) > 120
 ·rw [br_t (decide_eq_true h1)]
 rw [br_f (decide_eq_false h1)]
 by_cases h2 : (more.length : Int) > 60
 ·rw [br_t (decide_eq_true h2)]
 rw [br_f (decide_eq_false h2)]
 unfold diwanplay_Made
 rw [bd_s rfl]
 obtain ⟨r, o, e1, _, h⟩ := raft_e (fu := 600) (by decide) (made_inv (l := picks) (fun x hx => k0.2 x hx) (by omega))
 rw [bd_s e1]
 dsimp only
 rw [bd_s rfl]
 have hT := h.term
 have hall := h.may.rise.all
 have hN := h.may.nodes
 have hb : Bs r := h.may.bs (fun e he => by have := h.smt e he; unfold Smt at this; omega) (by omega) (fun a ha => by have := h.rows.xs a ha; have := h.len; omega) (fun a ha => by have := h.rows.ms a ha; have := h.len; omega) (by have := h.clock; omega)
 have hv : Rv 0 r := ⟨hb, by omega, fun e he => ⟨h.smt e he, by have := hall e he; omega, by have := hall e he; omega⟩⟩
 have hl := hb.len
 rw [bd_s (hb.may (by decide)), mayB_iff.2 h.may, br_f (by rfl), bd_s (same_e hv.sm (by decide) (by decide)), sameB_iff.2 rfl, br_f (by rfl)]
 have hn : r.Nodes = ((r.Nodes.toNat : Nat) : Int) := by omega
 have ha : raft_Again 600 r = some (TRaft.mk r.Me r.Nodes r.Wait r.Term r.Vote r.Log 0 0 0 (List.replicate r.Nodes.toNat false) (List.replicate r.Nodes.toNat 0) (List.replicate r.Nodes.toNat 0) 0) := by
  unfold raft_Again
  rw [bd_s (fnew_e hn (by omega)), bd_s (entries_e (by omega) hb.sm (by omega))]
 have hra : diwanref11_Again r = some (TRaft.mk r.Me r.Nodes r.Wait r.Term r.Vote r.Log 0 0 0 (List.replicate r.Nodes.toNat false) (List.replicate r.Nodes.toNat 0) (List.replicate r.Nodes.toNat 0) 0) := by
  unfold diwanref11_Again
  rw [bd_s (rnew_e hn (by omega)), gd_t (decide_eq_true (by simp; omega))]
 rw [bd_s ha, bd_s hra, bd_s (rsame_e (N := 200) (show SmR 200 (TRaft.mk r.Me r.Nodes r.Wait r.Term r.Vote r.Log 0 0 0 (List.replicate r.Nodes.toNat false) (List.replicate r.Nodes.toNat 0) (List.replicate r.Nodes.toNat 0) 0) from ⟨hv.sm.log, by simp; omega, by simp; omega, by simp; omega⟩) (by decide) (by decide)), sameB_iff.2 rfl, br_f (by rfl)]
 have := all_lp 6 0 600 r (TPicks.mk more 0) rfl hv (made_inv (l := more) (fun x hx => k1.2 x hx) (by omega)) (by decide)
 simp only [Int.natCast_zero] at this
 rw [bd_s this]
end Go.Proofs.Ythpokjkbcdfhiaa.Told.PureRaftAll
