/- A group and its letters: what is known of it at first, and that a step keeps it. -/
import Derived.Test.YthpokjkbcdfhiaaTRs5
import Derived.Test.YthpokjkbcdfhiaaTPk2
namespace Go.Proofs.Ythpokjkbcdfhiaa.Told.RA
open Go Go.Proofs.Ythpokjkbcdfhiaa.Vam Go.Proofs.Ythpokjkbcdfhiaa.Told Go.Proofs.Ythpokjkbcdfhiaa.Told.HP Go.Proofs.Ythpokjkbcdfhiaa.Told.PK
set_option linter.unusedSimpArgs false
set_option linter.unusedVariables false
def newR (me : Int) (n : Nat) (wait : Int) : TRaft := TRaft.mk me n wait 0 0 [] 0 0 0 (List.replicate n false) (List.replicate n 0) (List.replicate n 0) 0
theorem new_e {me nodes wait : Int} {n : Nat} (h : nodes = (n : Int)) (hn : n ≤ 1000) : raft_New me nodes wait = some (newR me n wait) := by
 unfold raft_New newR
 have e : (if (4096 : Int) < (if nodes < 0 then 0 else nodes) then 4096 else (if nodes < 0 then 0 else nodes)) = (n : Int) := by rw [if_neg (show ¬ nodes < 0 by omega), if_neg (by omega)]; exact h
 rw [e, gd_t (decide_eq_true (by omega)), gd_t (decide_eq_true (by omega)), gd_t (decide_eq_true (by omega)), Int.toNat_natCast, h]
theorem again_e {fu : Nat} {r : TRaft} (hb : Bs r) (hf : 300 ≤ fu) : raft_Again fu r = some (againR r) := by
 have := hb.nodes
 have := hb.len
 unfold raft_Again againR
 rw [bd_s (new_e (n := r.Nodes.toNat) (by omega) (by omega)), bd_s (entries_e (by omega) hb.sm (by omega))]
 dsimp only [newR]
 rw [show ((r.Nodes.toNat : Nat) : Int) = r.Nodes by omega]
structure GI (n : Nat) (s : Int) (g : TGroup) (R : Nat → TRaft) (G : Gh) : Prop where
 n1 : 1 ≤ n ∧ n ≤ 5
 len : g.M.length = n
 get : ∀ i, i < n → g.M[i]? = some (R i)
 inv : Inv n R G
 mail : ∀ m ∈ g.Mail, MI n (tm R) G m
 ml : g.Mail.length ≤ 80
 term : ∀ i, i < n → (R i).Term ≤ s
structure Did (n i : Nat) (s : Int) (g g' : TGroup) (R : Nat → TRaft) (y : TRaft) (G G' : Gh) : Prop where
 hi : i < n
 gi : GI n s g' (upd R i y) G'
 le : Le (tm R) (tm (upd R i y)) G G'
 lei : LeI i (tm R) G G'
 lead : ∀ t x, G'.L t = some x → (∃ z, G.L t = some z) ∨ (y.Role = 2 ∧ y.Term = t)
theorem takeP_term (r : TRaft) (m : TMsg) : (takeP r m).1.Term = r.Term := by
 unfold takeP
 split
 ·unfold askVoteP; split <;> rfl
 split
 ·unfold voteP
  split
  ·split
   ·exact (leadR_fields _).1
   ·rfl
  ·rfl
 split
 ·unfold appendP
  split
  ·rfl
  split
  ·rfl
  split
  ·split <;> rfl
  ·rfl
 ·unfold appendedP
  split
  ·rfl
  split <;> rfl
theorem takeF_term (r : TRaft) (m : TMsg) {s : Int} (h : r.Term ≤ s) (k : m.Term ≤ s) : (takeF r m).1.Term ≤ s := by
 unfold takeF
 split
 ·rw [takeP_term]
  unfold stepR
  split
  ·exact k
  ·exact h
 ·exact h
theorem tickF_term (r : TRaft) : (tickF r).1.Term ≤ r.Term + 1 := by
 unfold tickF tickP standP
 split
 ·split
  ·show r.Term ≤ _; omega
  split
  ·split
   ·show (leadR (stand1 r)).Term ≤ _
    rw [(leadR_fields _).1]; exact Int.le_refl _
   ·exact Int.le_refl _
  ·show r.Term ≤ _; omega
 ·show r.Term ≤ _; omega
theorem propF_term (r : TRaft) (e : TEntry) : (propF r e).1.Term = r.Term := by
 unfold propF
 split <;> rfl
section
variable {n : Nat} {s : Int} {g : TGroup} {R : Nat → TRaft} {G : Gh}
theorem GI.set {i : Nat} {y : TRaft} {G' : Gh} {mail : List TMsg} (h : GI n s g R G) (hi : i < n) (inv : Inv n (upd R i y) G') (hm : ∀ m ∈ mail, MI n (tm (upd R i y)) G' m) (hl : mail.length ≤ 80) (ht : y.Term ≤ s + 1) : GI n (s + 1) (TGroup.mk (g.M.set i y) mail) (upd R i y) G' where
 n1 := h.n1
 len := by show (g.M.set i y).length = n; rw [List.length_set]; exact h.len
 get j hj := by
  show (g.M.set i y)[j]? = _
  rw [List.getElem?_set]
  unfold upd
  by_cases c : i = j
  ·subst c; rw [if_pos rfl, if_pos rfl, if_pos (by rw [h.len]; exact hi)]
  ·rw [if_neg c, if_neg (fun g => c g.symm)]; exact h.get j hj
 inv := inv
 mail := hm
 ml := hl
 term j hj := by
  unfold upd
  split
  ·exact ht
  ·have := h.term j hj; omega
theorem GI.did {i : Nat} {y : TRaft × List TMsg} {rest mail : List TMsg} (h : GI n s g R G) (hi : i < n) (ho : Out n i R G y) (ht : y.1.Term ≤ s + 1) (hr : ∀ m ∈ rest, m ∈ g.Mail) (hm : ∀ m ∈ mail, m ∈ rest ∨ m ∈ y.2) (hl : mail.length ≤ 80) : ∃ G', Did n i (s + 1) g (TGroup.mk (g.M.set i y.1) mail) R y.1 G G' := by
 obtain ⟨G', i1, i2, i3, i4, i5⟩ := ho
 exact ⟨G', ⟨hi, h.set hi i1 (fun m hm' => (hm m hm').elim (fun a => (h.mail m (hr m a)).mono i2) (i5 m)) hl ht, i2, i3, i4⟩⟩
theorem GI.did0 {mail : List TMsg} (h : GI n s g R G) (hm : ∀ m ∈ mail, m ∈ g.Mail) (hl : mail.length ≤ 80) : ∃ G', Did n 0 (s + 1) g (TGroup.mk g.M mail) R (R 0) G G' := by
 have hn := h.n1
 have := h.did (i := 0) (y := (R 0, [])) (rest := g.Mail) (mail := mail) (by omega) (out_same h.inv) (by have := h.term 0 (by omega); show (R 0).Term ≤ _; omega) (fun _ h => h) (fun m hm' => .inl (hm m hm')) hl
 have e : g.M.set 0 (R 0) = g.M := by
  have h0 := h.get 0 (by omega)
  obtain ⟨hlt, he⟩ := List.getElem?_eq_some_iff.1 h0
  rw [← he]; exact List.set_getElem_self hlt
 rw [show (R 0, ([] : List TMsg)).1 = R 0 from rfl, e] at this
 exact this
end
def noG : Gh := ⟨fun _ _ => none, fun _ _ => [], fun _ => none, fun _ _ => 0⟩
theorem noG_wg {n : Nat} {T : Nat → Int} : WG n T noG where
 v t v c X e := by cases e
 s t c := ⟨LogP.nil, fun e he => by cases he⟩
 l t x e := by cases e
 a t v e := by exact absurd e (Nat.lt_irrefl 0)
theorem new_ri {n i : Nat} {w : Int} (hn : 1 ≤ n ∧ n ≤ 5) (hi : i < n) (hw : 1 ≤ w ∧ w ≤ 60) : RI n noG i (newR ((i : Int) + 1) n w) := by
 have z : (0 : Int) ≤ 0 ∧ (0 : Int) ≤ 1152921504606846976 := by omega
 exact { me := rfl, nodes := rfl
         may := ⟨by show 1 ≤ (n : Int) ∧ (n : Int) ≤ 5; omega, by show 1 ≤ (i : Int) + 1 ∧ (i : Int) + 1 ≤ (n : Int); omega, hw, Int.le_refl _, ⟨Int.le_refl _, by show (0 : Int) ≤ (n : Int); omega⟩, ⟨Int.le_refl _, by show (0 : Int) ≤ (n : Int); omega⟩, Nat.zero_le _, ⟨Int.le_refl _, Int.le_refl _⟩, ⟨Int.le_refl _, by show (0 : Int) ≤ 2; decide⟩, Int.le_refl _, by show ((List.replicate _ _).length : Int) = (n : Int); simp, by show ((List.replicate _ _).length : Int) = (n : Int); simp, by show ((List.replicate _ _).length : Int) = (n : Int); simp, trivial⟩
         bs := ⟨by show 1 ≤ (n : Int) ∧ (n : Int) ≤ 5; omega, by show 1 ≤ (i : Int) + 1 ∧ (i : Int) + 1 ≤ (n : Int); omega, by show ((List.replicate _ _).length : Int) = (n : Int); simp, by show ((List.replicate _ _).length : Int) = (n : Int); simp, by show ((List.replicate _ _).length : Int) = (n : Int); simp, Nat.zero_le _, fun e he => (by cases he), z, fun a ha => by rw [List.eq_of_mem_replicate ha]; omega, fun a ha => by rw [List.eq_of_mem_replicate ha]; omega, z⟩
         smt := fun e he => by cases he
         v2 := fun k => absurd rfl k
         v3 := fun _ => rfl
         log := LogP.nil
         snap := fun t _ => Keeps.none rfl
         s1 := fun k => by have : (0 : Int) = 1 := k; omega
         s2 := fun k => by have : (0 : Int) = 1 := k; omega
         l2 := fun k => by have : (0 : Int) = 2 := k; omega
         mt := fun k => by have : (0 : Int) = 2 := k; omega
         c1 := .inl rfl }
def waitOf (i : Nat) : Int := 2 + Int.tmod (((i : Int) + 1) * 3) 7
def newAt (n i : Nat) : TRaft := newR ((i : Int) + 1) n (waitOf i)
theorem group_lp (fu n : Nat) (hn : n ≤ 1000) : ∀ (d i m : Nat), i + d = n → d < m → diwanlaw11_group.lp4 fu (n : Int) m ((i : Int) + 1) (TGroup.mk ((List.range i).map (newAt n)) []) = some (TGroup.mk ((List.range n).map (newAt n)) [])
 | 0, i, m, hid, hm => by
  obtain ⟨m, rfl⟩ : ∃ k, m = k + 1 := ⟨m - 1, by omega⟩
  have : i = n := by omega
  subst this
  rw [diwanlaw11_group.lp4, br_f (decide_eq_false (by omega))]
 | d + 1, i, m, hid, hm => by
  obtain ⟨m, rfl⟩ : ∃ k, m = k + 1 := ⟨m - 1, by omega⟩
  have hq : 0 ≤ Int.tmod (((i : Int) + 1) * 3) 7 ∧ Int.tmod (((i : Int) + 1) * 3) 7 < 7 := by
   rw [Int.tmod_eq_emod_of_nonneg (by omega)]
   exact ⟨Int.emod_nonneg _ (by decide), Int.emod_lt_of_pos _ (by decide)⟩
  rw [diwanlaw11_group.lp4, br_t (decide_eq_true (by omega)), w64_id (n := ((i : Int) + 1) * 3) (by omega) (by omega), w64_id (n := 2 + Int.tmod (((i : Int) + 1) * 3) 7) (by omega) (by omega), bd_s (new_e (n := n) rfl hn), gd_t (decide_eq_true (by simp; omega)), w64_id (n := (i : Int) + 1 + 1) (by omega) (by omega)]
  have := group_lp fu n hn d (i + 1) m (by omega) (by omega)
  rw [List.range_succ, List.map_append] at this
  rw [show (i : Int) + 1 + 1 = ((i + 1 : Nat) : Int) + 1 by omega]
  exact this
theorem group_e {fu n : Nat} (hn : 1 ≤ n ∧ n ≤ 5) (hf : 10 ≤ fu) : ∃ g, diwanlaw11_group fu (n : Int) = some g ∧ GI n 0 g (newAt n) noG := by
 refine ⟨TGroup.mk ((List.range n).map (newAt n)) [], ?_, ?_⟩
 ·unfold diwanlaw11_group
  have := group_lp fu n (by omega) n 0 fu (by omega) (by omega)
  simp only [Int.natCast_zero, Int.zero_add, List.range_zero, List.map_nil] at this
  rw [bd_s this]
 ·have hq : ∀ i, 1 ≤ waitOf i ∧ waitOf i ≤ 60 := fun i => by
   unfold waitOf
   rw [Int.tmod_eq_emod_of_nonneg (by omega)]
   have := Int.emod_nonneg (((i : Int) + 1) * 3) (b := 7) (by decide)
   have := Int.emod_lt_of_pos (((i : Int) + 1) * 3) (b := 7) (by decide)
   omega
  exact { n1 := hn, len := by simp
          get := fun i hi => by show ((List.range n).map (newAt n))[i]? = _; simp [hi]
          inv := ⟨noG_wg, fun i hi => new_ri hn hi (hq i)⟩
          mail := fun m hm => by cases hm
          ml := Nat.zero_le _
          term := fun i hi => Int.le_refl _ }
end Go.Proofs.Ythpokjkbcdfhiaa.Told.RA
