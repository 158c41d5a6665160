/- All letters are taken, until there are none: that comes to an end. -/
import Derived.Test.YthpokjkbcdfhiaaTRc4
namespace Go.Proofs.Ythpokjkbcdfhiaa.Told.RA
open Go Go.Proofs.Ythpokjkbcdfhiaa.Vam Go.Proofs.Ythpokjkbcdfhiaa.Told Go.Proofs.Ythpokjkbcdfhiaa.Told.HP Go.Proofs.Ythpokjkbcdfhiaa.Told.PK
set_option linter.unusedSimpArgs false
set_option linter.unusedVariables false
structure CI (n : Nat) (s : Int) (R : Nat → TRaft) (G : Gh) (mail : List TMsg) : Prop where
 n1 : 1 ≤ n ∧ n ≤ 5
 inv : Inv n R G
 mail : ∀ m ∈ mail, MI n (tm R) G m
 term : ∀ i, i < n → (R i).Term ≤ s
 xt : ∀ i, i < n → Xt n i (R i)
def cands (A : List Nat) (R : Nat → TRaft) : Int := (A.map fun j => if (R j).Role = 1 then (1 : Int) else 0).sum
structure Bd (n : Nat) (A : List Nat) (L : Int) (R : Nat → TRaft) (mail : List TMsg) : Prop where
 an : ∀ j ∈ A, j < n
 own : ∀ m ∈ mail, own m ∈ A
 len : ∀ i, i < n → ((R i).Log.length : Int) + cands A R ≤ L
 ends : ∀ m ∈ mail, m.Kind = 3 → m.Index + (m.Entries.length : Int) + cands A R ≤ L
 cap : L < 200
def Phi (A : List Nat) (L : Int) (R : Nat → TRaft) (mail : List TMsg) : Int := (mail.map fun m => wl L (R (own m)) m).sum + (A.map fun j => pot L (R j)).sum
theorem cands_pos (A : List Nat) (R : Nat → TRaft) : 0 ≤ cands A R := sum_pos A fun j _ => by split <;> omega
abbrev vto (m : TMsg) : Nat := (m.To - 1).toNat
noncomputable abbrev nxt (R : Nat → TRaft) (m : TMsg) : Nat → TRaft := upd R (vto m) (takeF (R (vto m)) m).1
noncomputable abbrev outs (R : Nat → TRaft) (m : TMsg) : List TMsg := (takeF (R (vto m)) m).2
section
variable {n : Nat} {s L : Int} {R : Nat → TRaft} {G : Gh} {A : List Nat} {m : TMsg} {rest : List TMsg}
theorem CI.vn (C : CI n s R G (m :: rest)) : vto m < n := by
 have := (C.mail m (by simp)).to
 show (m.To - 1).toNat < n
 omega
theorem CI.mterm (C : CI n s R G (m :: rest)) : m.Term ≤ s := by
 have hm := C.mail m (by simp)
 have := hm.frm
 have h := C.term (m.From - 1).toNat (by omega)
 have h2 : m.Term ≤ (R (m.From - 1).toNat).Term := hm.term.2
 omega
theorem CI.len (C : CI n s R G (m :: rest)) (B : Bd n A L R (m :: rest)) : (∀ i, i < n → ((R i).Log.length : Int) ≤ L) ∧ (m.Kind = 3 → m.Index + (m.Entries.length : Int) ≤ L) := by
 have := cands_pos A R
 exact ⟨fun i hi => by have := B.len i hi; omega, fun k => by have := B.ends m (by simp) k; omega⟩
theorem CI.take (C : CI n s R G (m :: rest)) (B : Bd n A L R (m :: rest)) (hs : s ≤ 1152921504606846976) : ∃ G', CI n s (nxt R m) G' (rest ++ outs R m) ∧ Le (tm R) (tm (nxt R m)) G G' ∧ (outs R m).length ≤ 5 := by
 have hv := C.vn
 have hm := C.mail m (by simp)
 have ht := C.mterm
 obtain ⟨l1, l2⟩ := C.len B
 obtain ⟨G', i1, i2, i3, i4, i5⟩ := take_inv C.inv hv hm (by omega)
 obtain ⟨E', op⟩ := take_op (E := L) (C.xt _ hv) (C.inv.r _ hv) hv C.n1.2 (l1 _ hv) B.cap hm l2 (by omega)
 refine ⟨G', ⟨C.n1, i1, fun l hl => ?_, fun i hi => ?_, fun i hi => ?_⟩, i2, op.few⟩
 ·rcases List.mem_append.1 hl with h | h
  ·exact (C.mail l (by simp [h])).mono i2
  ·exact i5 l h
 ·unfold nxt upd
  split
  ·rename_i e
   exact takeF_term _ _ (C.term _ hv) ht
  ·exact C.term i hi
 ·unfold nxt upd
  split
  ·rename_i e; subst e; exact op.xt
  ·exact C.xt i hi
theorem drain_step (C : CI n s R G (m :: rest)) (B : Bd n A L R (m :: rest)) (hs : s ≤ 1152921504606846976) : Bd n A L (nxt R m) (rest ++ outs R m) ∧ Phi A L (nxt R m) (rest ++ outs R m) + 1 ≤ Phi A L R (m :: rest) := by
 have hv := C.vn
 have hm := C.mail m (by simp)
 have ht := C.mterm
 obtain ⟨l1, l2⟩ := C.len B
 have hoA := B.own m (by simp)
 have hon := B.an _ hoA
 have hcp := cands_pos A R
 have hL : 0 ≤ L := by have := l1 _ hv; omega
 have hk2 : m.Kind = 2 ∨ m.Kind = 4 → own m = vto m := fun k => by unfold own; rw [if_neg (by omega)]
 have hc1 : ∀ j ∈ A, (R j).Role = 1 → 1 ≤ cands A R := fun j hj hr => by
  have := sum_lt (f := fun _ => (0 : Int)) (g := fun j => if (R j).Role = 1 then (1 : Int) else 0) (a := j) (c := 1) (by decide) A (fun x _ => by split <;> omega) hj (by rw [if_pos hr]; decide)
  have h0 := sum_pos (f := fun _ => (0 : Int)) A (fun _ _ => Int.le_refl _)
  unfold cands
  omega
 have lc := loc C.inv hm (by omega) B.cap (l1 _ hon) (l1 _ hv) (fun k hr => by
  have := B.len _ hv
  have := hc1 (vto m) (by rw [← hk2 (.inl k)]; exact hoA) hr
  show ((R (vto m)).Log.length : Int) + 1 ≤ L
  omega) l2
 have hyv : nxt R m (vto m) = (takeF (R (vto m)) m).1 := upd_i _ _ _
 have hyn : ∀ j, j ≠ vto m → nxt R m j = R j := fun j hj => upd_ne _ _ hj
 have hcand : cands A (nxt R m) ≤ cands A R := sum_le A fun j hj => by
  by_cases e : j = vto m
  ·subst e
   rw [hyv]
   have := lc.role
   by_cases k : (takeF (R (vto m)) m).1.Role = 1
   ·rw [if_pos k, if_pos (this k)]; exact Int.le_refl _
   ·rw [if_neg k]; split <;> omega
  ·rw [hyn j e]; exact Int.le_refl _
 have hylen : (((takeF (R (vto m)) m).1.Log.length : Nat) : Int) + cands A (nxt R m) ≤ L := by
  rcases lc.len with h | ⟨h1, h2, h3, h4⟩
  ·have g1 := B.len _ hv
   split at h
   ·rename_i k
    have g2 := B.ends m (by simp) k
    change (((takeF (R (vto m)) m).1.Log.length : Nat) : Int) ≤ _ at h
    change ((R (vto m)).Log.length : Int) + _ ≤ _ at g1
    have : max ((R (m.To - 1).toNat).Log.length : Int) (m.Index + (m.Entries.length : Int)) + cands A R ≤ L := by
     change max ((R (vto m)).Log.length : Int) _ + _ ≤ _
     omega
    omega
   ·change (((takeF (R (vto m)) m).1.Log.length : Nat) : Int) ≤ max ((R (vto m)).Log.length : Int) 0 at h
    omega
  ·have g1 := B.len _ hv
   have hvA : vto m ∈ A := by rw [← hk2 (.inl h1)]; exact hoA
   have : cands A (nxt R m) + 1 ≤ cands A R := sum_lt (a := vto m) (c := 1) (by decide) A (fun j hj => by
    by_cases e : j = vto m
    ·subst e
     rw [hyv, if_neg (by change ¬ (takeF (R (vto m)) m).1.Role = 1; rw [show (takeF (R (vto m)) m).1.Role = 2 from h3]; decide)]
     split <;> omega
    ·rw [hyn j e]; exact Int.le_refl _) hvA (by
     rw [hyv, if_neg (by rw [show (takeF (R (vto m)) m).1.Role = 2 from h3]; decide), if_pos (show (R (vto m)).Role = 1 from h2)]; decide)
   change (takeF (R (vto m)) m).1.Log.length ≤ (R (vto m)).Log.length + 1 at h4
   omega
 refine ⟨⟨B.an, fun l hl => ?_, fun i hi => ?_, fun l hl k => ?_, B.cap⟩, ?_⟩
 ·rcases List.mem_append.1 hl with h | h
  ·exact B.own l (by simp [h])
  ·rw [lc.owns l h]; exact hoA
 ·by_cases e : i = vto m
  ·subst e; rw [hyv]; exact hylen
  ·rw [hyn i e]; have := B.len i hi; omega
 ·rcases List.mem_append.1 hl with h | h
  ·have := B.ends l (by simp [h]) k; omega
  ·have h1 := lc.ends l h k
   change _ ≤ (((takeF (R (vto m)) m).1.Log.length : Nat) : Int) at h1
   omega
 -- what may come
 have hrest : (rest.map fun l => wl L (nxt R m (own l)) l).sum ≤ (rest.map fun l => wl L (R (own l)) l).sum := sum_le rest fun l hl => by
  by_cases e : own l = vto m
  ·rw [e, hyv]
   exact lc.mono l (C.mail l (by simp [hl])).index
  ·rw [hyn _ e]; exact Int.le_refl _
 have hpots : ∀ j ∈ A, pot L (nxt R m j) ≤ pot L (R j) := fun j _ => by
  by_cases e : j = vto m
  ·subst e; rw [hyv]; exact lc.potle
  ·rw [hyn j e]; exact Int.le_refl _
 unfold Phi
 rw [List.map_append, List.sum_append, List.map_cons, List.sum_cons]
 by_cases k : m.Kind = 2 ∨ m.Kind = 4
 ·have ho := hk2 k
  have h1 := lc.self k
  have h2 : ((outs R m).map fun l => wl L (nxt R m (own l)) l) = (outs R m).map (wl L (takeF (R (vto m)) m).1) := List.map_congr_left fun l hl => by rw [lc.owns l hl, ho, hyv]
  have h3 := sum_lt (f := fun j => pot L (nxt R m j)) (g := fun j => pot L (R j)) (a := vto m) (c := pot L (R (vto m)) - pot L (takeF (R (vto m)) m).1) (by have := lc.potle; change 0 ≤ pot L (R (m.To - 1).toNat) - pot L (takeF (R (m.To - 1).toNat) m).1; omega) A hpots (by rw [← ho]; exact hoA) (by rw [hyv]; omega)
  rw [h2, ho]
  change ((outs R m).map (wl L (takeF (R (vto m)) m).1)).sum + pot L (takeF (R (vto m)) m).1 + 1 ≤ wl L (R (vto m)) m + pot L (R (vto m)) at h1
  omega
 ·have h1 := lc.other k
  have h2 : ((outs R m).map fun l => wl L (nxt R m (own l)) l) = (outs R m).map (wl L (R (own m))) := by
   rcases lc.ne k with h | ⟨h, hne⟩
   ·change outs R m = [] at h
    rw [h]; rfl
   ·refine List.map_congr_left fun l hl => ?_
    have hfr := hm.frm
    have hto := hm.to
    have hoe : own m = (m.From - 1).toNat := by unfold own; rw [if_pos h]
    rw [lc.owns l hl, hyn (own m) (by rw [hoe]; show (m.From - 1).toNat ≠ (m.To - 1).toNat; omega)]
  have h3 := sum_le (f := fun j => pot L (nxt R m j)) (g := fun j => pot L (R j)) A hpots
  rw [h2]
  change ((outs R m).map (wl L (R (own m)))).sum + 1 ≤ wl L (R (own m)) m at h1
  omega
end
def GM (n : Nat) (M : List TRaft) (R : Nat → TRaft) : Prop := M.length = n ∧ ∀ i, i < n → M[i]? = some (R i)
theorem GM.set {n i : Nat} {M : List TRaft} {R : Nat → TRaft} {y : TRaft} (h : GM n M R) (hi : i < n) : GM n (M.set i y) (upd R i y) := by
 refine ⟨by rw [List.length_set]; exact h.1, fun j hj => ?_⟩
 rw [List.getElem?_set]
 unfold upd
 by_cases c : i = j
 ·subst c; rw [if_pos rfl, if_pos rfl, if_pos (by rw [h.1]; exact hi)]
 ·rw [if_neg c, if_neg (fun g => c g.symm)]; exact h.2 j hj
theorem mail_le {A : List Nat} {L : Int} (hL : 0 ≤ L) (R : Nat → TRaft) : ∀ mail : List TMsg, (mail.length : Int) ≤ Phi A L R mail
 | [] => by
  unfold Phi
  have := sum_pos (f := fun j => pot L (R j)) A (fun j _ => pot_pos hL _)
  simp; exact this
 | m :: mail => by
  have := mail_le hL R mail (A := A)
  have := wl_pos L (R (own m)) m
  unfold Phi at *
  simp only [List.map_cons, List.sum_cons, List.length_cons]
  omega
theorem drain {n : Nat} {s L : Int} {A : List Nat} (hs : s ≤ 1152921504606846976) (hL : 0 ≤ L) (J : (Nat → TRaft) → Gh → List TMsg → Prop)
  (hJ : ∀ R G m rest G', CI n s R G (m :: rest) → Bd n A L R (m :: rest) → J R G (m :: rest) → CI n s (nxt R m) G' (rest ++ outs R m) → Le (tm R) (tm (nxt R m)) G G' → J (nxt R m) G' (rest ++ outs R m)) (a b c : Int) :
  ∀ (d k f : Nat) (R : Nat → TRaft) (G : Gh) (M : List TRaft) (mail : List TMsg), GM n M R → CI n s R G mail → Bd n A L R mail → J R G mail → Phi A L R mail ≤ d → k + d ≤ 3000 → d < f →
  ∃ R' G' M', diwanlaw11_RaftCalm.lp28 4000 a b c f (k : Int) (TGroup.mk M mail) = some (.inl (TGroup.mk M' [])) ∧ GM n M' R' ∧ CI n s R' G' [] ∧ Bd n A L R' [] ∧ J R' G' []
 | d, k, f, R, G, M, [], hg, C, B, hj, hp, hk, hf => by
  obtain ⟨f, rfl⟩ : ∃ e, f = e + 1 := ⟨f - 1, by omega⟩
  refine ⟨R, G, M, ?_, hg, C, B, hj⟩
  rw [diwanlaw11_RaftCalm.lp28]
  by_cases c : (k : Int) < 3000
  ·rw [br_t (decide_eq_true c), br_f (by rfl)]
  ·rw [br_f (decide_eq_false c)]
 | d, k, f, R, G, M, m :: rest, hg, C, B, hj, hp, hk, hf => by
  obtain ⟨f, rfl⟩ : ∃ e, f = e + 1 := ⟨f - 1, by omega⟩
  have hml := mail_le (A := A) hL R (m :: rest)
  simp only [List.length_cons] at hml
  obtain ⟨d, rfl⟩ : ∃ e, d = e + 1 := ⟨d - 1, by omega⟩
  have hm := C.mail m (by simp)
  have hto := hm.to
  have hv := C.vn
  obtain ⟨G', C', hle, hfew⟩ := C.take B hs
  obtain ⟨B', hphi⟩ := drain_step C B hs
  have hj' := hJ R G m rest G' C B hj C' hle
  have r := C.inv.r _ hv
  have hx := hg.2 _ hv
  have hn1 := C.n1
  have hlen : (List.drop (1 : Int).toNat (m :: rest)).length + (takeF (R (vto m)) m).2.length ≤ 4294967296 := by show rest.length + (outs R m).length ≤ _; omega
  obtain ⟨R2, G2, M2, e1, e2, e3, e4, e5⟩ := drain hs hL J hJ a b c d (k + 1) f (nxt R m) G' (M.set (vto m) (takeF (R (vto m)) m).1) (rest ++ outs R m) (hg.set hv) C' B' hj' (by omega) (by omega) (by omega)
  refine ⟨R2, G2, M2, ?_, e2, e3, e4, e5⟩
  have hvi : m.To - 1 = ((vto m : Nat) : Int) := by show _ = (((m.To - 1).toNat : Nat) : Int); omega
  have wk : w64 ((k : Int) + 1) = ((k + 1 : Nat) : Int) := by rw [w64_id (by omega) (by omega)]; omega
  rw [diwanlaw11_RaftCalm.lp28, br_t (decide_eq_true (by omega)), br_t (decide_eq_true (by simp only [List.length_cons]; omega)), ix_s (by decide) (x := m) rfl, gd_t (decide_eq_true (by simp only [List.length_cons]; omega)), br_f (decide_eq_false (by omega)), br_f (decide_eq_false (by have := hg.1; show ¬ m.To > (M.length : Int); omega)), w64_id (n := m.To - 1) (by omega) (by omega), hvi]
  dsimp only
  rw [ix_n hx, bd_s (x := ((takeF (R (vto m)) m).1, (takeF (R (vto m)) m).2)) (take_e r.bs hm.lb (by decide))]
  dsimp only
  rw [ix_n hx, Int.toNat_natCast, wk, gd_t (decide_eq_true hlen)]
  exact e1
end Go.Proofs.Ythpokjkbcdfhiaa.Told.RA
