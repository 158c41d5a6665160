/- What the document's member does, as the same plain functions. -/
import Derived.Test.YthpokjkbcdfhiaaTRg1
import Derived.Test.YthpokjkbcdfhiaaTRfm
namespace Go.Proofs.Ythpokjkbcdfhiaa.Told.RA
open Go Go.Proofs.Ythpokjkbcdfhiaa.Vam Go.Proofs.Ythpokjkbcdfhiaa.Told Go.Proofs.Ythpokjkbcdfhiaa.Told.HP
set_option linter.unusedSimpArgs false
set_option linter.unusedVariables false
theorem Bs.copy {r : TRaft} (h : Bs r) : diwanref11_Copy r = some () := by
 have := h.len
 have := h.lv
 have := h.lx
 have := h.lm
 have := h.nodes
 unfold diwanref11_Copy
 rw [gd_t (decide_eq_true (by simp; omega)), gd_t (decide_eq_true (by simp; omega)), gd_t (decide_eq_true (by simp; omega)), gd_t (decide_eq_true (by simp; omega))]
theorem Bs.rmay {fu : Nat} {r : TRaft} (h : Bs r) (hf : 300 ≤ fu) : diwanref11_May fu r = some (mayB r) := rmay_e (by have := h.len; omega) (by have := h.len; omega)
theorem rsend_e {to : Int} {x : TMachine} {kind term index lt commit : Int} {ok : Bool} {es : List TEntry} (ho : x.out.length ≤ 1000000) : diwanref11_machine_send (TMsg.mk kind 0 0 0 term index lt commit ok es noT 0 0 0 0 false ByteArray.empty ByteArray.empty [] [] 0) to x = some ⟨x.r, x.out ++ [ltr kind x.r.Me to term index lt commit ok es]⟩ := by
 unfold diwanref11_machine_send
 rw [gd_t (decide_eq_true (by simp; omega))]; rfl
theorem rsend2_e {to : Int} {x : TMachine} {kind term index lt commit : Int} {ok : Bool} {es : List TEntry} (ho : x.out.length ≤ 1000000) : diwanref11_machine_send_2 (TMsg.mk kind 0 0 0 term index lt commit ok es noT 0 0 0 0 false ByteArray.empty ByteArray.empty [] [] 0) to x = some ⟨x.r, x.out ++ [ltr kind x.r.Me to term index lt commit ok es]⟩ := by
 unfold diwanref11_machine_send_2
 rw [gd_t (decide_eq_true (by simp; omega))]; rfl
theorem rat_e {r : TRaft} (hb : Bs r) {to : Int} (h1 : 1 ≤ to) (h2 : to ≤ r.Nodes) : (w64 ((if (w64 ((r.Log.length : Int) + 1)) < (if nextOf r to < 1 then 1 else nextOf r to) then (w64 ((r.Log.length : Int) + 1)) else (if nextOf r to < 1 then 1 else nextOf r to)) - 1)) = (atOf r to : Int) := by
 have := next_bd hb h1 h2
 have := hb.len
 rw [w64_id (n := (r.Log.length : Int) + 1) (by omega) (by omega)]
 unfold atOf
 rw [w64_id (by split <;> split <;> omega) (by split <;> split <;> omega)]
 split <;> split <;> omega
theorem rmore_e {x : TMachine} (hb : Bs x.r) {to : Int} (h1 : 1 ≤ to) (h2 : to ≤ x.r.Nodes) (ho : x.out.length ≤ 1000000) : diwanref11_machine_entries to x = some ⟨x.r, x.out ++ [letterE x.r to]⟩ := by
 have hn := hb.nodes
 have hl := hb.len
 have hat : atOf x.r to ≤ x.r.Log.length := by unfold atOf; omega
 unfold diwanref11_machine_entries
 rw [to_e (r := x.r) h1 (by omega), ix_s (by omega) (next_get hb h1 h2), rat_e hb h1 h2, gd_t (decide_eq_true (by omega)), Int.toNat_natCast, gd_t (decide_eq_true (by simp; omega)), jn_e]
 have fin : ∀ es : List TEntry, es = (x.r.Log.drop (atOf x.r to)).take 4 → (bd (diwanref1_Term x.r.Log (atOf x.r to : Int)) fun r7_1 =>
  bd (diwanref11_machine_send_2 (TMsg.mk 3 0 0 0 x.r.Term (atOf x.r to : Int) r7_1 x.r.Commit false es (TTxn.mk 0 0 [] []) 0 0 0 0 false ByteArray.empty ByteArray.empty [] [] 0) to x) fun r7_3 => some r7_3) = some ⟨x.r, x.out ++ [letterE x.r to]⟩ := by
  intro es he
  rw [bd_s (rterm_e (by omega) (by omega) (by omega)), bd_s (rsend2_e ho), he]; rfl
 by_cases c : ((List.drop (atOf x.r to) x.r.Log).length : Int) > 4
 ·rw [br_t (decide_eq_true c), gd_t (decide_eq_true (by omega))]
  exact fin _ rfl
 ·rw [br_f (decide_eq_false c)]
  exact fin _ (by rw [List.take_of_length_le (by omega)])
theorem rmore2_e {x : TMachine} (hb : Bs x.r) {to : Int} (h1 : 1 ≤ to) (h2 : to ≤ x.r.Nodes) (ho : x.out.length ≤ 1000000) : diwanref11_machine_entries_2 to x = some ⟨x.r, x.out ++ [letterE x.r to]⟩ := by
 rw [show diwanref11_machine_entries_2 to x = diwanref11_machine_entries to x from rfl]
 exact rmore_e hb h1 h2 ho
theorem rall_lp (fu : Nat) : ∀ (d : Nat) (to : Int) (n : Nat) (x : TMachine), Bs x.r → to + d = x.r.Nodes + 1 → 1 ≤ to → x.out.length + d ≤ 1000000 → d < n → diwanref11_machine_all.lp2 fu n to x = some ⟨x.r, x.out ++ (oth x.r.Me d to).map (letterE x.r)⟩
 | 0, to, n, x, hb, hd, h1, ho, hn => by
  obtain ⟨n, rfl⟩ : ∃ m, n = m + 1 := ⟨n - 1, by omega⟩
  rw [diwanref11_machine_all.lp2, br_f (decide_eq_false (by omega))]; simp [oth]
 | d + 1, to, n, x, hb, hd, h1, ho, hn => by
  obtain ⟨n, rfl⟩ : ∃ m, n = m + 1 := ⟨n - 1, by omega⟩
  have hN := hb.nodes
  have wt : w64 (to + 1) = to + 1 := w64_id (by omega) (by omega)
  rw [diwanref11_machine_all.lp2, br_t (decide_eq_true (by omega)), wt]
  unfold oth
  by_cases hm : to = x.r.Me
  ·rw [br_f (by simpa using hm), if_pos hm]
   exact rall_lp fu d (to + 1) n x hb (by omega) (by omega) (by omega) (by omega)
  ·rw [br_t (by simpa using hm), if_neg hm, bd_s (rmore2_e hb h1 (by omega) (by omega)), rall_lp fu d (to + 1) n ⟨x.r, x.out ++ [letterE x.r to]⟩ hb (by show to + 1 + (d : Int) = x.r.Nodes + 1; omega) (by omega) (by simp; omega) (by omega)]
   simp
theorem rall2_lp (fu : Nat) : ∀ (d : Nat) (to : Int) (n : Nat) (x : TMachine), Bs x.r → to + d = x.r.Nodes + 1 → 1 ≤ to → x.out.length + d ≤ 1000000 → d < n → diwanref11_machine_all_2.lp2 fu n to x = some ⟨x.r, x.out ++ (oth x.r.Me d to).map (letterE x.r)⟩
 | 0, to, n, x, hb, hd, h1, ho, hn => by
  obtain ⟨n, rfl⟩ : ∃ m, n = m + 1 := ⟨n - 1, by omega⟩
  rw [diwanref11_machine_all_2.lp2, br_f (decide_eq_false (by omega))]; simp [oth]
 | d + 1, to, n, x, hb, hd, h1, ho, hn => by
  obtain ⟨n, rfl⟩ : ∃ m, n = m + 1 := ⟨n - 1, by omega⟩
  have hN := hb.nodes
  have wt : w64 (to + 1) = to + 1 := w64_id (by omega) (by omega)
  rw [diwanref11_machine_all_2.lp2, br_t (decide_eq_true (by omega)), wt]
  unfold oth
  by_cases hm : to = x.r.Me
  ·rw [br_f (by simpa using hm), if_pos hm]
   exact rall2_lp fu d (to + 1) n x hb (by omega) (by omega) (by omega) (by omega)
  ·rw [br_t (by simpa using hm), if_neg hm, bd_s (rmore2_e hb h1 (by omega) (by omega)), rall2_lp fu d (to + 1) n ⟨x.r, x.out ++ [letterE x.r to]⟩ hb (by show to + 1 + (d : Int) = x.r.Nodes + 1; omega) (by omega) (by simp; omega) (by omega)]
   simp
section
variable {fu : Nat} {x : TMachine} (hb : Bs x.r) (ho : x.out.length ≤ 1000) (hf : 300 ≤ fu)
include hb ho hf
theorem rall_e : diwanref11_machine_all fu x = some ⟨x.r, x.out ++ bc letterE x.r⟩ := by
 have hN := hb.nodes
 unfold diwanref11_machine_all
 rw [bd_s (rall_lp fu x.r.Nodes.toNat 1 fu x hb (by omega) (by omega) (by omega) (by omega))]; rfl
theorem rall2_e : diwanref11_machine_all_2 fu x = some ⟨x.r, x.out ++ bc letterE x.r⟩ := by
 have hN := hb.nodes
 unfold diwanref11_machine_all_2
 rw [bd_s (rall2_lp fu x.r.Nodes.toNat 1 fu x hb (by omega) (by omega) (by omega) (by omega))]; rfl
end
theorem rprop_e {fu : Nat} {x : TMachine} {e : TEntry} (hb : Bs x.r) (ho : x.out.length ≤ 1000) (hf : 300 ≤ fu) (he : SmB [e]) : diwanref11_machine_propose fu e x = some (decide (canP x.r), if canP x.r then ⟨propR x.r e, x.out ++ bc letterE (propR x.r e)⟩ else x) := by
 have hN := hb.nodes
 have hme := hb.me
 have hm := hb.lm
 have hl := hb.len
 unfold diwanref11_machine_propose
 by_cases c1 : x.r.Role = 2
 ·rw [br_f (by simpa using c1)]
  by_cases c2 : x.r.Log.length < 200
  ·have hp := propR_bs hb c2 he
   rw [br_f (decide_eq_false (by omega)), show TEntry.mk x.r.Term e.Seal e.T = putE x.r e from rfl, gd_t (decide_eq_true (by simp; omega)), to_e (r := x.r) hme.1 (by omega),
    ix_s (by omega) (List.getElem?_eq_getElem (show (x.r.Me - 1).toNat < x.r.Match.length by omega)),
    bd_s (rnext_e (by simp; omega) (by simp; omega) (fun a ha => (mem_set' hb.ms (by simp; omega) a ha).1) (by simp; omega))]
   refine (bd_s (rall_e (x := ⟨propR x.r e, x.out⟩) hp ho hf)).trans ?_
   rw [if_pos ⟨c1, c2⟩, decide_eq_true (show canP x.r from ⟨c1, c2⟩)]
  ·rw [br_t (decide_eq_true (by omega)), if_neg (fun g => c2 g.2), decide_eq_false (fun g => c2 g.2)]
 ·rw [br_t (by simpa using c1), if_neg (fun g => c1 g.1), decide_eq_false (fun g => c1 g.1)]
theorem rleads_lp (fu : Nat) (me wait term vote : Int) (log : List TEntry) (commit role leader clock : Int) (v : List Bool) (out : List TMsg) (hl : log.length ≤ 1000) : ∀ (d i n : Nat) (xs ms : List Int), xs.length = d → ms.length = d → i + d ≤ 1000 → d < n →
  diwanref11_machine_lead.lp3 fu n (i : Int) ⟨TRaft.mk me ((i + d : Nat) : Int) wait term vote log commit role leader v (List.replicate i ((log.length : Int) + 1) ++ xs) (List.replicate i 0 ++ ms) clock, out⟩ =
  some ⟨TRaft.mk me ((i + d : Nat) : Int) wait term vote log commit role leader v (List.replicate (i + d) ((log.length : Int) + 1)) (List.replicate (i + d) 0) clock, out⟩
 | 0, i, n, xs, ms, hx, hm, hi, hn => by
  obtain ⟨n, rfl⟩ : ∃ m, n = m + 1 := ⟨n - 1, by omega⟩
  obtain rfl := List.length_eq_zero_iff.1 hx
  obtain rfl := List.length_eq_zero_iff.1 hm
  rw [diwanref11_machine_lead.lp3, br_f (decide_eq_false (by dsimp only; omega))]; simp
 | d + 1, i, n, xs, ms, hx, hm, hi, hn => by
  obtain ⟨n, rfl⟩ : ∃ m, n = m + 1 := ⟨n - 1, by omega⟩
  cases xs with
  | nil => simp at hx
  | cons a xs =>
  cases ms with
  | nil => simp at hm
  | cons b ms =>
  have ih := rleads_lp fu me wait term vote log commit role leader clock v out hl d (i + 1) n xs ms (by simpa using hx) (by simpa using hm) (by omega) (by omega)
  rw [show i + 1 + d = i + (d + 1) by omega] at ih
  have r1 : List.replicate (i + 1) ((log.length : Int) + 1) ++ xs = List.replicate i ((log.length : Int) + 1) ++ ((log.length : Int) + 1) :: xs := by rw [List.replicate_succ']; simp
  have r2 : List.replicate (i + 1) (0 : Int) ++ ms = List.replicate i 0 ++ 0 :: ms := by rw [List.replicate_succ']; simp
  rw [r1, r2] at ih
  have s1 := set_mid (List.replicate i ((log.length : Int) + 1)) xs a ((log.length : Int) + 1)
  have s2 := set_mid (List.replicate i (0 : Int)) ms b 0
  rw [List.length_replicate] at s1 s2
  have g1 : (List.replicate i ((log.length : Int) + 1) ++ a :: xs)[i]? = some a := by simp
  have g2 : (List.replicate i (0 : Int) ++ b :: ms)[i]? = some b := by simp
  rw [diwanref11_machine_lead.lp3, br_t (decide_eq_true (by dsimp only; omega))]
  dsimp only
  rw [ix_n g1, ix_n g2, Int.toNat_natCast, w64_id (n := (log.length : Int) + 1) (by omega) (by omega), s1, s2, w64_id (n := (i : Int) + 1) (by omega) (by omega), show (i : Int) + 1 = ((i + 1 : Nat) : Int) by omega, ih]
theorem rleads_e {fu : Nat} {x : TMachine} (hb : Bs x.r) (ho : x.out.length ≤ 1000) (hf : 300 ≤ fu) : diwanref11_machine_lead fu x = some ⟨leadR x.r, x.out ++ bc letterE (leadR x.r)⟩ := by
 have hN := hb.nodes
 have hme := hb.me
 have hl := hb.len
 have hx := hb.lx
 have hm := hb.lm
 obtain ⟨k, hk⟩ : ∃ k : Nat, x.r.Nodes = (k : Int) := ⟨x.r.Nodes.toNat, by omega⟩
 have h3 := rleads_lp fu x.r.Me x.r.Wait x.r.Term x.r.Vote x.r.Log x.r.Commit 2 x.r.Me 0 x.r.Votes x.out (by omega) k 0 fu x.r.Next x.r.Match (by omega) (by omega) (by omega) (by omega)
 simp only [Nat.zero_add, List.replicate_zero, List.nil_append, Int.natCast_zero] at h3
 rw [← hk] at h3
 unfold diwanref11_machine_lead
 rw [bd_s h3]
 dsimp only
 rw [to_e (r := x.r) hme.1 (by omega), ix_s (by omega) (List.getElem?_eq_getElem (show (x.r.Me - 1).toNat < (List.replicate k (0 : Int)).length by simp; omega))]
 have hk' : k = x.r.Nodes.toNat := by omega
 subst hk'
 have hp := rprop_e (fu := fu) (x := ⟨lead1 x.r, x.out⟩) (e := sealE) (lead1_bs hb) ho hf seal_sm
 refine (bd_s hp).trans ?_
 dsimp only
 unfold leadR
 by_cases c : x.r.Log.length < 200
 ·have : canP (lead1 x.r) := ⟨rfl, c⟩
  rw [decide_eq_true this, if_pos this, if_pos c, br_f (by rfl)]
 ·have : ¬ canP (lead1 x.r) := fun g => c g.2
  rw [decide_eq_false this, if_neg this, if_neg c, br_t (by rfl), bd_s (rall2_e (x := ⟨lead1 x.r, x.out⟩) (lead1_bs hb) ho hf)]
theorem rcount_e {fu : Nat} {x : TMachine} (hb : Bs x.r) (ho : x.out.length ≤ 1000) (hf : 300 ≤ fu) : diwanref11_machine_count fu x = some (if wonB x.r then ⟨leadR x.r, x.out ++ bc letterE (leadR x.r)⟩ else x) := by
 have hN := hb.nodes
 have hv := hb.lv
 unfold diwanref11_machine_count
 rw [bd_s (rmany_e (by omega) (by omega)), bd_s (rhalf_e (by omega) (by omega))]
 rw [show decide ((cntT x.r.Votes : Int) ≥ x.r.Nodes / 2 + 1) = wonB x.r from rfl]
 cases wonB x.r
 ·rw [br_f rfl]; rfl
 ·rw [br_t rfl, bd_s (rleads_e hb ho hf)]; rfl
theorem rask_lp (fu : Nat) (r z : TRaft) : ∀ (d : Nat) (to : Int) (n : Nat) (x : TMachine), Bs x.r → r.Nodes = x.r.Nodes → r.Me = x.r.Me → to + d = x.r.Nodes + 1 → 1 ≤ to → x.out.length + d ≤ 1000000 → d < n → diwanref11_Tick.lp23 fu r z n to x = some ⟨x.r, x.out ++ (oth x.r.Me d to).map (askE x.r)⟩
 | 0, to, n, x, hb, hn1, hn2, hd, h1, ho, hn => by
  obtain ⟨n, rfl⟩ : ∃ m, n = m + 1 := ⟨n - 1, by omega⟩
  rw [diwanref11_Tick.lp23, br_f (decide_eq_false (by omega))]; simp [oth]
 | d + 1, to, n, x, hb, hn1, hn2, hd, h1, ho, hn => by
  obtain ⟨n, rfl⟩ : ∃ m, n = m + 1 := ⟨n - 1, by omega⟩
  have hN := hb.nodes
  have hl := hb.len
  have wt : w64 (to + 1) = to + 1 := w64_id (by omega) (by omega)
  rw [diwanref11_Tick.lp23, br_t (decide_eq_true (by omega)), wt]
  unfold oth
  by_cases hm : to = x.r.Me
  ·rw [br_f (by simpa [hn2] using hm), if_pos hm]
   exact rask_lp fu r z d (to + 1) n x hb hn1 hn2 (by omega) (by omega) (by omega) (by omega)
  ·rw [br_t (by simpa [hn2] using hm), if_neg hm, bd_s (rterm_e (by omega) (by omega) (by omega)), bd_s (rsend_e (by omega))]
   refine (rask_lp fu r z d (to + 1) n ⟨x.r, x.out ++ [askE x.r to]⟩ hb hn1 hn2 (by show to + 1 + (d : Int) = x.r.Nodes + 1; omega) (by omega) (by simp; omega) (by omega)).trans ?_
   simp
theorem cnt_one : ∀ (n k : Nat), k < n → cntT ((List.replicate n false).set k true) = 1
 | 0, k, h => by omega
 | n + 1, 0, _ => by simp [cntT, List.replicate_succ]
 | n + 1, k + 1, h => by
  have := cnt_one n k (by omega)
  simpa [cntT, List.replicate_succ] using this
theorem rtick_e {fu : Nat} {r : TRaft} (hb : Bs r) (ht : r.Term < 1152921504606846976) (hf : 300 ≤ fu) : diwanref11_Tick fu r = some (tickF r) := by
 have hc := hb.clock
 have hN := hb.nodes
 have hme := hb.me
 have hT := hb.term
 unfold diwanref11_Tick tickF
 rw [bd_s hb.copy, bd_s (hb.rmay hf)]
 cases mayB r
 ·rw [br_t (by rfl)]; rfl
 rw [br_f (by rfl), if_pos rfl]
 unfold tickP
 by_cases h2 : r.Role = 2
 ·rw [br_t (by simpa using h2), if_pos h2]
  rw [bd_s (rall_e (x := ⟨r, []⟩) hb (by simp) hf)]
  rfl
 ·rw [br_f (by simpa using h2), if_neg h2, w64_id (n := r.Clock + 1) (by omega) (by omega)]
  by_cases h3 : r.Clock + 1 ≥ r.Wait
  ·have hs := stand1_bs hb ht
   rw [br_f (decide_eq_false (by omega)), if_pos h3, gd_t (decide_eq_true (by omega)), to_e (r := r) hme.1 (by omega), ix_s (by omega) (List.getElem?_eq_getElem (show (r.Me - 1).toNat < (List.replicate r.Nodes.toNat false).length by simp; omega)), bd_s (rhalf_e (by omega) (by omega)), w64_id (n := r.Term + 1) (by omega) (by omega)]
   unfold standP
   have hw : wonB (stand1 r) = decide (r.Nodes / 2 + 1 ≤ 1) := by
    have := cnt_one r.Nodes.toNat (r.Me - 1).toNat (by omega)
    unfold wonB
    rw [show cntT (stand1 r).Votes = 1 from this]; rfl
   rw [hw]
   by_cases h4 : r.Nodes / 2 + 1 ≤ 1
   ·rw [br_t (decide_eq_true h4), if_pos (decide_eq_true h4)]
    exact bd_s (rleads_e (x := ⟨stand1 r, []⟩) hs (by simp) hf)
   ·rw [br_f (decide_eq_false h4), if_neg (by simpa using h4)]
    refine (bd_s (rask_lp fu r _ r.Nodes.toNat 1 fu ⟨stand1 r, []⟩ hs rfl rfl (by show 1 + (r.Nodes.toNat : Int) = r.Nodes + 1; omega) (by omega) (by simp; omega) (by omega))).trans ?_
    rfl
  ·rw [br_t (decide_eq_true (by omega)), if_neg h3]; rfl
theorem rpropose_e {fu : Nat} {r : TRaft} {e : TEntry} (hb : Bs r) (he : SmB [e]) (hf : 300 ≤ fu) : diwanref11_Propose fu r e = some (propF r e) := by
 unfold diwanref11_Propose propF
 rw [bd_s hb.copy, bd_s (hb.rmay hf)]
 cases hm : mayB r
 ·rw [br_t (by rfl), if_neg (fun g => by cases g.1)]
 rw [br_f (by rfl), bd_s (rprop_e (x := ⟨r, []⟩) hb (by simp) hf he)]
 dsimp only
 by_cases hc : canP r
 ·rw [decide_eq_true hc, if_pos hc, if_pos ⟨rfl, hc⟩]; rfl
 ·rw [decide_eq_false hc, if_neg hc, if_neg (fun g => hc g.2)]
theorem rappend_e {fu : Nat} {r : TRaft} {m : TMsg} (hb : Bs r) (hm : Lb m) (hT : ¬ m.Term < r.Term) (hf : 500 ≤ fu) : diwanref11_machine_append fu m ⟨r, []⟩ = some ⟨(appendP r m).1, (appendP r m).2⟩ := by
 have hl := hb.len
 have hi := hm.index
 have hE := hm.len
 unfold diwanref11_machine_append appendP
 dsimp only
 rw [if_neg hT]
 by_cases c2 : r.Role = 2
 ·rw [br_t (by simpa using c2), if_pos c2]
 rw [br_f (by simpa using c2), if_neg c2, bd_s (rhas_e (by omega) (by omega) (by omega))]
 cases hh : hasB r.Log m.Index m.LogTerm
 ·rw [br_t (by rfl), if_neg (show ¬ (false = true) by decide), bd_s (rsend_e (by simp)), w64_id (n := m.Index - 1) (by omega) (by omega), ifmn, ifmx]; rfl
 ·rw [br_f (by rfl), if_pos rfl, bd_s (rjoin_e (by omega) (by omega) (by omega))]
  by_cases c3 : (joinF r.Log m.Index m.Entries).length > 200
  ·rw [br_t (decide_eq_true (by omega)), if_pos c3, bd_s (rsend2_e (by simp))]; rfl
  ·rw [br_f (decide_eq_false (by omega)), if_neg c3, bd_s (rsend2_e (by simp)), w64_id (n := m.Index + (m.Entries.length : Int)) (by omega) (by omega), ifmn, ifmx]; rfl
theorem rappended_e {fu : Nat} {r : TRaft} {m : TMsg} (hb : Bs r) (hm : Lb m) (h1 : 1 ≤ m.From) (h2 : m.From ≤ r.Nodes) (hT : ¬ m.Term < r.Term) (hf : 300 ≤ fu) : diwanref11_machine_appended fu m ⟨r, []⟩ = some ⟨(appendedP r m).1, (appendedP r m).2⟩ := by
 have hN := hb.nodes
 have hl := hb.len
 have hx := hb.lx
 have hlm := hb.lm
 have bx := next_bd hb h1 h2
 have bm := hb.ms _ (List.mem_of_getElem? (match_get hb h1 h2))
 have bi := hm.index
 have bf := farM_bd hb h1 h2
 unfold diwanref11_machine_appended appendedP
 dsimp only
 by_cases c2 : r.Role = 2
 ·rw [br_f (by simpa using c2), if_neg (show ¬ (m.Term < r.Term ∨ r.Role ≠ 2) from fun g => g.elim hT fun g => g c2), to_e (r := r) h1 (by omega)]
  have w1 : w64 (m.Index + 1) = m.Index + 1 := w64_id (by omega) (by omega)
  have w2 : w64 (nextOf r m.From - 1) = nextOf r m.From - 1 := w64_id (by omega) (by omega)
  have w3 : w64 (r.Match.getD (m.From - 1).toNat 0 + 1) = r.Match.getD (m.From - 1).toNat 0 + 1 := w64_id (by omega) (by omega)
  have e1 : (if (if (if m.Index + 1 < nextOf r m.From - 1 then m.Index + 1 else nextOf r m.From - 1) < r.Match.getD (m.From - 1).toNat 0 + 1 then r.Match.getD (m.From - 1).toNat 0 + 1 else (if m.Index + 1 < nextOf r m.From - 1 then m.Index + 1 else nextOf r m.From - 1)) < 1 then 1 else (if (if m.Index + 1 < nextOf r m.From - 1 then m.Index + 1 else nextOf r m.From - 1) < r.Match.getD (m.From - 1).toNat 0 + 1 then r.Match.getD (m.From - 1).toNat 0 + 1 else (if m.Index + 1 < nextOf r m.From - 1 then m.Index + 1 else nextOf r m.From - 1))) = backN r m := by
   rw [ifmn (nextOf r m.From - 1), ifmx, ifmx]; rfl
  have e2 : (if r.Match.getD (m.From - 1).toNat 0 < (if (r.Log.length : Int) < m.Index then (r.Log.length : Int) else m.Index) then (if (r.Log.length : Int) < m.Index then (r.Log.length : Int) else m.Index) else r.Match.getD (m.From - 1).toNat 0) = farM r m := by
   rw [ifmn m.Index, ifmx]; rfl
  cases c3 : m.OK
  ·rw [br_t (by rfl), if_neg (show ¬ (false = true) by decide), ix_s (by omega) (next_get hb h1 h2), ix_s (by omega) (match_get hb h1 h2), ix_s (by omega) (next_get hb h1 h2), w1, w2, w3, e1]
   exact bd_s (rmore_e (x := ⟨backR r m, []⟩) (backR_bs hb hm h1 h2) h1 h2 (by simp))
  ·have g1 : (r.Match.set (m.From - 1).toNat (farM r m))[(m.From - 1).toNat]? = some (farM r m) := by rw [List.getElem?_set_self (by omega)]
   have g2 : (r.Next.set (m.From - 1).toNat (farM r m + 1))[(m.From - 1).toNat]? = some (farM r m + 1) := by rw [List.getElem?_set_self (by omega)]
   rw [br_f (by rfl), if_pos rfl, ix_s (by omega) (match_get hb h1 h2), ix_s (by omega) (match_get hb h1 h2), e2, ix_s (by omega) g1, ix_s (by omega) (next_get hb h1 h2), bd_s (rnext_e (by omega) (by simp; omega) (fun a ha => (mem_set' hb.ms bf a ha).1) (by simp; omega)), w64_id (n := farM r m + 1) (by omega) (by omega), ix_s (by omega) g2]
   by_cases c4 : (r.Log.length : Int) > farM r m
   ·rw [br_t (decide_eq_true (by omega)), if_pos c4]
    exact bd_s (rmore_e (x := ⟨farR r m, []⟩) (farR_bs hb h1 h2) h1 h2 (by simp))
   ·rw [br_f (decide_eq_false (by omega)), if_neg c4]; rfl
 ·rw [br_t (by simpa using c2), if_pos (show m.Term < r.Term ∨ r.Role ≠ 2 from .inr c2)]
theorem stepR_ge (r : TRaft) (m : TMsg) : m.Term ≤ (stepR r m).Term := by
 unfold stepR
 split
 ·exact Int.le_refl _
 ·omega
theorem rtake_e {fu : Nat} {r : TRaft} {m : TMsg} (hb : Bs r) (hm : Lb m) (hf : 500 ≤ fu) : diwanref11_Take fu r m = some (takeF r m) := by
 have hN := hb.nodes
 have hs := stepR_bs (m := m) hb hm.term
 have hsn := stepR_nodes r m
 have hge := stepR_ge r m
 unfold diwanref11_Take takeF
 rw [bd_s hb.copy, bd_s (hb.rmay (by omega))]
 cases c0 : mayB r
 ·rw [br_t (by rfl), if_neg (fun g => by have := g.2.1; rw [c0] at this; cases this)]
 rw [br_f (by rfl)]
 by_cases c1 : m.From < 1
 ·rw [br_t (decide_eq_true c1), if_neg (fun g => by have := g.2.2.1; omega)]
 rw [br_f (decide_eq_false c1)]
 by_cases c2 : m.From > r.Nodes
 ·rw [br_t (decide_eq_true c2), if_neg (fun g => by have := g.2.2.2.1; omega)]
 rw [br_f (decide_eq_false c2)]
 by_cases c3 : m.From = r.Me
 ·rw [br_t (by simpa using c3), if_neg (fun g => g.2.2.2.2.1 c3)]
 rw [br_f (by simpa using c3)]
 by_cases c4 : ¬ (m.To = r.Me)
 ·rw [br_t (by simpa using c4), if_neg (fun g => c4 g.2.2.2.2.2)]
 replace c4 := Decidable.not_not.1 c4
 rw [br_f (by simpa using c4)]
 by_cases c5 : m.Kind < 1
 ·rw [br_t (decide_eq_true c5), if_neg (fun g => by have := g.1.1; omega)]
 rw [br_f (decide_eq_false c5)]
 by_cases c6 : m.Kind > 4
 ·rw [br_t (decide_eq_true c6), if_neg (fun g => by have := g.1.2; omega)]
 rw [br_f (decide_eq_false c6), if_pos ⟨⟨by omega, by omega⟩, c0, by omega, by omega, c3, c4⟩, jn_e]
 have h1 : 1 ≤ m.From := by omega
 have h2 : m.From ≤ (stepR r m).Nodes := by rw [hsn]; omega
 -- behind the step
 have rest : ∀ s : TRaft, s = stepR r m → (br (decide (m.Term < s.Term))
         (jn (fun (j22_2 : TMachine) =>
          jn (fun (j26_1 : TMachine) =>
           some (j26_1.r, j26_1.out)) fun k26 =>
          br (m.Kind == 3)
           (bd (diwanref11_machine_send (TMsg.mk 4 0 0 0 j22_2.r.Term 0 0 0 false [] (TTxn.mk 0 0 [] []) 0 0 0 0 false ByteArray.empty ByteArray.empty [] [] 0) m.From j22_2) fun r25_1 =>
           k26 r25_1)
           (k26 j22_2)) fun k22 =>
         br (m.Kind == 1)
          (bd (diwanref11_machine_send (TMsg.mk 2 0 0 0 s.Term 0 0 0 false [] (TTxn.mk 0 0 [] []) 0 0 0 0 false ByteArray.empty ByteArray.empty [] [] 0) m.From (TMachine.mk s [])) fun r21_1 =>
          k22 r21_1)
          (k22 (TMachine.mk s [])))
         (br (m.Kind == 1)
          (jn (fun (j32_0 : Bool) =>
           jn (fun (j36_3 : TMachine) =>
            bd (diwanref11_machine_send (TMsg.mk 2 0 0 0 j36_3.r.Term 0 0 0 j32_0 [] (TTxn.mk 0 0 [] []) 0 0 0 0 false ByteArray.empty ByteArray.empty [] [] 0) m.From j36_3) fun r37_1 =>
            some (r37_1.r, r37_1.out)) fun k36 =>
           br j32_0
            (k36 (TMachine.mk (TRaft.mk s.Me s.Nodes s.Wait s.Term m.From s.Log s.Commit s.Role s.Leader s.Votes s.Next s.Match 0) []))
            (k36 (TMachine.mk s []))) fun k32 =>
          br (s.Vote == 0)
           (bd (diwanref1_Newer s.Log m.Index m.LogTerm) fun r31_2 =>
           k32 r31_2)
           (br (s.Vote == m.From)
            (bd (diwanref1_Newer s.Log m.Index m.LogTerm) fun r31_3 =>
            k32 r31_3)
            (k32 false)))
          (br (m.Kind == 2)
           (br (s.Role == 1)
            (br m.OK
             (ix s.Votes (w64 (m.From - 1)) fun x43_1 =>
             bd (diwanref11_machine_count fu (TMachine.mk (TRaft.mk s.Me s.Nodes s.Wait s.Term s.Vote s.Log s.Commit s.Role s.Leader (s.Votes.set (w64 (m.From - 1)).toNat true) s.Next s.Match s.Clock) [])) fun r44_1 =>
             some (r44_1.r, r44_1.out))
             (some (s, [])))
            (some (s, [])))
           (br (m.Kind == 3)
            (bd (diwanref11_machine_append fu m (TMachine.mk s [])) fun r50_1 =>
            some (r50_1.r, r50_1.out))
            (bd (diwanref11_machine_appended fu m (TMachine.mk s [])) fun r52_1 =>
            some (r52_1.r, r52_1.out)))))) = some (takeP s m) := by
  intro s hse
  rw [← hse] at hs hsn hge h2
  have hsN := hs.nodes
  have hsl := hs.len
  have hsv := hs.lv
  unfold takeP
  by_cases d0 : m.Term < s.Term
  ·rw [br_t (decide_eq_true d0), jn_e]
   by_cases k1 : m.Kind = 1
   ·rw [br_t (by simpa using k1), if_pos k1, bd_s (rsend_e (by simp))]
    dsimp only
    rw [jn_e, br_f (by rw [k1]; rfl)]
    unfold askVoteP grantB
    rw [show (m.Term == s.Term) = false from beq_eq_false_iff_ne.2 (by omega)]; rfl
   rw [br_f (by simpa using k1), if_neg k1]
   dsimp only
   rw [jn_e]
   by_cases k2 : m.Kind = 2
   ·rw [br_f (by rw [k2]; rfl), if_pos k2]
    unfold voteP
    rw [if_neg (fun g => by have := g.1; omega)]
   rw [if_neg k2]
   by_cases k3 : m.Kind = 3
   ·rw [br_t (by simpa using k3), if_pos k3, bd_s (rsend_e (by simp))]
    unfold appendP
    rw [if_pos d0]; rfl
   ·rw [br_f (by simpa using k3), if_neg k3]
    unfold appendedP
    rw [if_pos (.inl d0)]
  rw [br_f (decide_eq_false d0)]
  have hEq : m.Term = s.Term := by omega
  by_cases k1 : m.Kind = 1
  ·rw [br_t (by simpa using k1), if_pos k1, jn_e]
   have fin : ∀ b : Bool, b = grantB s m → (jn (fun (j36_3 : TMachine) =>
          bd (diwanref11_machine_send (TMsg.mk 2 0 0 0 j36_3.r.Term 0 0 0 b [] (TTxn.mk 0 0 [] []) 0 0 0 0 false ByteArray.empty ByteArray.empty [] [] 0) m.From j36_3) fun r37_1 =>
          some (r37_1.r, r37_1.out)) fun k36 =>
         br b
          (k36 (TMachine.mk (TRaft.mk s.Me s.Nodes s.Wait s.Term m.From s.Log s.Commit s.Role s.Leader s.Votes s.Next s.Match 0) []))
          (k36 (TMachine.mk s []))) = some (askVoteP s m) := by
    intro b hbg
    unfold askVoteP
    rw [jn_e, ← hbg]
    cases b
    ·rw [br_f rfl]; dsimp only; rw [bd_s (rsend_e (by simp))]; rfl
    ·rw [br_t rfl]; dsimp only; rw [bd_s (rsend_e (by simp))]; rfl
   unfold grantB at fin
   rw [beq_iff_eq.2 hEq, Bool.true_and] at fin
   rw [bd_s (rnewer_e (by omega))]
   cases e1 : (s.Vote == 0)
   ·rw [br_f rfl]
    cases e2 : (s.Vote == m.From)
    ·rw [br_f rfl]; exact fin _ (by rw [e1, e2]; rfl)
    ·rw [br_t rfl]; exact fin _ (by rw [e1, e2]; rfl)
   ·rw [br_t rfl]; exact fin _ (by rw [e1]; rfl)
  rw [br_f (by simpa using k1), if_neg k1]
  by_cases k2 : m.Kind = 2
  ·rw [br_t (by simpa using k2), if_pos k2]
   unfold voteP
   by_cases e1 : s.Role = 1
   ·rw [br_t (by simpa using e1)]
    cases e2 : m.OK
    ·rw [br_f rfl, if_neg (fun g => by cases g.2.2)]
    ·rw [br_t rfl, if_pos ⟨hEq, e1, rfl⟩, to_e (r := s) h1 (by omega), ix_s (by omega) (List.getElem?_eq_getElem (show (m.From - 1).toNat < s.Votes.length by omega))]
     refine (bd_s (rcount_e (x := ⟨countR s m.From, []⟩) (countR_bs hs) (by simp) (by omega))).trans ?_
     dsimp only
     cases wonB (countR s m.From) <;> rfl
   ·rw [br_f (by simpa using e1), if_neg (fun g => e1 g.2.1)]
  rw [br_f (by simpa using k2), if_neg k2]
  by_cases k3 : m.Kind = 3
  ·rw [br_t (by simpa using k3), if_pos k3, bd_s (rappend_e hs hm d0 (by omega))]
  ·rw [br_f (by simpa using k3), if_neg k3, bd_s (rappended_e hs hm h1 h2 d0 (by omega))]
 by_cases c7 : m.Term > r.Term
 ·rw [br_t (decide_eq_true c7), gd_t (decide_eq_true (by omega))]
  exact (rest (yieldR r m.Term) (by unfold stepR; rw [if_pos c7])).trans (by rw [show stepR r m = yieldR r m.Term from by unfold stepR; rw [if_pos c7]])
 ·rw [br_f (decide_eq_false c7)]
  exact (rest r (by unfold stepR; rw [if_neg c7])).trans (by rw [show stepR r m = r from by unfold stepR; rw [if_neg c7]])
end Go.Proofs.Ythpokjkbcdfhiaa.Told.RA
