/- One member ticks when no letters are on their way: how it begins, and that it comes to an end. -/
import Derived.Test.YthpokjkbcdfhiaaTRc7
namespace Go.Proofs.Ythpokjkbcdfhiaa.Told.RA
open Go Go.Proofs.Ythpokjkbcdfhiaa.Vam Go.Proofs.Ythpokjkbcdfhiaa.Told Go.Proofs.Ythpokjkbcdfhiaa.Told.HP Go.Proofs.Ythpokjkbcdfhiaa.Told.PK
set_option linter.unusedSimpArgs false
set_option linter.unusedVariables false
section
variable {n : Nat} {s : Int} {R : Nat → TRaft} {G : Gh} {i : Nat}
theorem CI.terms (C : CI n s R G []) {s1 : Int} (h : ∀ j, j < n → (R j).Term ≤ s1) : CI n s1 R G [] := ⟨C.n1, C.inv, C.mail, h, C.xt⟩
theorem CI.weak {mail : List TMsg} (C : CI n s R G mail) {s1 : Int} (h : s ≤ s1) : CI n s1 R G mail := ⟨C.n1, C.inv, C.mail, fun j hj => by have := C.term j hj; omega, C.xt⟩
theorem tick_ci (C : CI n s R G []) (hi : i < n) (hs : s ≤ 1000000) {E : Int} (hE : E < 200) (hl : ∀ j, j < n → ((R j).Log.length : Int) ≤ E) (ht : (tickF (R i)).1.Term ≤ s) : ∃ G', CI n s (upd R i (tickF (R i)).1) G' (tickF (R i)).2 := by
 have hT := C.term i hi
 obtain ⟨G', i1, i2, i3, i4, i5⟩ := tick_inv C.inv hi (by omega)
 obtain ⟨E', op⟩ := tick_op (C.xt i hi) (C.inv.r i hi) hi C.n1.2 (hl i hi) hE (by omega)
 refine ⟨G', C.n1, i1, i5, fun j hj => ?_, fun j hj => ?_⟩
 ·unfold upd
  split
  ·exact ht
  ·exact C.term j hj
 ·unfold upd
  split
  ·rename_i e; subst e; exact op.xt
  ·exact C.xt j hj
theorem tick_cases (C : CI n s R G []) (hi : i < n) (h200 : (R i).Log.length < 200) :
  ((R i).Role ≠ 2 ∧ (R i).Clock + 1 < (R i).Wait ∧ tickF (R i) = (clockR (R i), [])) ∨ ((R i).Role = 2 ∧ tickF (R i) = (R i, bc letterE (R i))) ∨
  ((R i).Role ≠ 2 ∧ (R i).Wait ≤ (R i).Clock + 1 ∧ wonB (stand1 (R i)) = true ∧ tickF (R i) = (leadR (stand1 (R i)), bc letterE (leadR (stand1 (R i))))) ∨
  ((R i).Role ≠ 2 ∧ (R i).Wait ≤ (R i).Clock + 1 ∧ wonB (stand1 (R i)) = false ∧ tickF (R i) = (stand1 (R i), bc askE (stand1 (R i)))) := by
 have r := C.inv.r i hi
 unfold tickF
 rw [if_pos (mayB_iff.2 r.may)]
 unfold tickP
 by_cases c1 : (R i).Role = 2
 ·rw [if_pos c1]; exact .inr (.inl ⟨c1, rfl⟩)
 rw [if_neg c1]
 by_cases c2 : (R i).Clock + 1 ≥ (R i).Wait
 ·rw [if_pos c2]
  unfold standP
  cases c3 : wonB (stand1 (R i))
  ·rw [if_neg (by decide)]; exact .inr (.inr (.inr ⟨c1, c2, rfl, rfl⟩))
  ·rw [if_pos rfl]; exact .inr (.inr (.inl ⟨c1, c2, rfl, rfl⟩))
 ·rw [if_neg c2]; exact .inl ⟨c1, by omega, rfl⟩
theorem pot_any {L : Int} {r : TRaft} (hb : Bs r) (x : Xt n i r) (hL : (r.Log.length : Int) ≤ L) : pot L r ≤ 4 * (2 + WW L) + 8 * L := by
 have hW : 0 ≤ WW L := by unfold WW; have := c4_pos L; omega
 unfold pot
 split
 ·omega
 split
 ·rename_i h2
  obtain ⟨_, _, _, _, b1, b2⟩ := x.last h2
  have h4 := others_len hb
  have hlag : ∀ to ∈ others r, lag r to ≤ 2 * (r.Log.length : Int) := fun to hto => by
   have hm := (others_mem hb).1 hto
   have g1 := b1 _ (List.mem_of_getElem? (next_get hb hm.1 hm.2.1))
   have g2 := hb.ms _ (List.mem_of_getElem? (match_get hb hm.1 hm.2.1))
   unfold lag mtOf
   omega
  have := sum_bd _ hlag
  have h5 : ((others r).length : Int) * (2 * (r.Log.length : Int)) ≤ 4 * (2 * (r.Log.length : Int)) := Int.mul_le_mul_of_nonneg_right (by omega) (by omega)
  omega
 ·omega
theorem bc_own {r : TRaft} (hb : Bs r) (hme : r.Me = (i : Int) + 1) : (∀ l ∈ bc letterE r, own l = i ∧ 0 ≤ l.Index ∧ l.Kind = 3 ∧ l.Index + (l.Entries.length : Int) ≤ (r.Log.length : Int)) ∧ (∀ l ∈ bc askE r, own l = i ∧ l.Kind = 1) ∧ (∀ g : TRaft → Int → TMsg, (bc g r).length ≤ 4) := by
 refine ⟨fun l hl => ?_, fun l hl => ?_, fun g => ?_⟩
 ·unfold bc at hl
  obtain ⟨to, _, rfl⟩ := List.mem_map.1 hl
  refine ⟨?_, by show (0 : Int) ≤ ((atOf _ _ : Nat) : Int); omega, rfl, letterE_end _ _⟩
  unfold own
  rw [if_pos (.inr rfl)]
  show (r.Me - 1).toNat = i
  omega
 ·unfold bc at hl
  obtain ⟨to, _, rfl⟩ := List.mem_map.1 hl
  refine ⟨?_, rfl⟩
  unfold own
  rw [if_pos (.inl rfl)]
  show (r.Me - 1).toNat = i
  omega
 ·have := others_len hb
  unfold bc
  rw [List.length_map]; exact this
theorem tick_bd (C : CI n s R G []) (hi : i < n) {G' : Gh} (C' : CI n s (upd R i (tickF (R i)).1) G' (tickF (R i)).2) {E : Int} (hE : E ≤ 190) (hl : ∀ j, j < n → ((R j).Log.length : Int) ≤ E) : Bd n [i] (E + 1) (upd R i (tickF (R i)).1) (tickF (R i)).2 ∧ (∀ m ∈ (tickF (R i)).2, wl (E + 1) (upd R i (tickF (R i)).1 (own m)) m ≤ 2 + WW (E + 1)) ∧ (tickF (R i)).2.length ≤ 4 ∧ Phi [i] (E + 1) (upd R i (tickF (R i)).1) (tickF (R i)).2 ≤ 8 * (2 + WW (E + 1)) + 8 * (E + 1) ∧ (n ≠ 1 → ((tickF (R i)).1.Log.length : Int) ≤ E) := by
 have hli := hl i hi
 have r' := C'.inv.r i hi
 have x' := C'.xt i hi
 rw [upd_i] at r' x'
 have hWp : 0 ≤ WW (E + 1) := by unfold WW; have := c4_pos (E + 1); omega
 have r := C.inv.r i hi
 have key : ((tickF (R i)).1.Log.length : Int) + (if (tickF (R i)).1.Role = 1 then (1 : Int) else 0) ≤ E + 1 ∧ (∀ m ∈ (tickF (R i)).2, own m = i ∧ (m.Kind = 3 → 0 ≤ m.Index ∧ m.Index + (m.Entries.length : Int) + (if (tickF (R i)).1.Role = 1 then (1 : Int) else 0) ≤ E + 1) ∧ (m.Kind = 3 ∨ m.Kind = 1)) ∧ (tickF (R i)).2.length ≤ 4 ∧ (n ≠ 1 → ((tickF (R i)).1.Log.length : Int) ≤ E) := by
  rcases tick_cases C hi (by omega) with ⟨c1, c2, e⟩ | ⟨c1, e⟩ | ⟨c1, c2, c3, e⟩ | ⟨c1, c2, c3, e⟩ <;> rw [e] at r' ⊢ <;> dsimp only at r' ⊢
  ·exact ⟨by show ((R i).Log.length : Int) + _ ≤ _; split <;> omega, (fun m hm => by cases hm), by simp, fun _ => hli⟩
  ·obtain ⟨b1, _, b3⟩ := bc_own (i := i) r.bs r.me
   exact ⟨by rw [if_neg (by omega)]; omega, fun m hm => ⟨(b1 m hm).1, fun _ => ⟨(b1 m hm).2.1, by rw [if_neg (by omega)]; have := (b1 m hm).2.2.2; omega⟩, .inl (b1 m hm).2.2.1⟩, b3 _, fun _ => hli⟩
  ·have hs := stand1_bs r.bs (by have := r.bs.term; have := C'.term i hi; rw [upd_i, e] at this; dsimp only at this; have h5 := (leadR_log (r := stand1 (R i)) (by show (R i).Log.length < 200; omega)).2.2.2.2.1; rw [h5] at this; have h6 : (stand1 (R i)).Term = (R i).Term + 1 := rfl; have := r'.bs.term; rw [h5] at this; omega)
   obtain ⟨l1, l2, l3, l4, l5, l6, l7⟩ := leadR_log (r := stand1 (R i)) (by show (R i).Log.length < 200; omega)
   have hll : ((leadR (stand1 (R i))).Log.length : Int) = ((R i).Log.length : Int) + 1 := by rw [l1]; show (((R i).Log ++ _).length : Int) = _; simp
   obtain ⟨b1, _, b3⟩ := bc_own (i := i) r'.bs r'.me
   refine ⟨by rw [if_neg (by omega)]; omega, fun m hm => ⟨(b1 m hm).1, fun _ => ⟨(b1 m hm).2.1, by rw [if_neg (by omega)]; have := (b1 m hm).2.2.2; omega⟩, .inl (b1 m hm).2.2.1⟩, b3 _, fun hn1 => ?_⟩
   -- one vote is a majority for one alone
   exfalso
   unfold wonB at c3
   have hno := r.nodes
   have hme := r.me
   have c3 := of_decide_eq_true c3
   have h1 : cntT (stand1 (R i)).Votes ≤ 1 := by
    show cntT ((List.replicate (R i).Nodes.toNat false).set ((R i).Me - 1).toNat true) ≤ 1
    have gen : ∀ (d k : Nat), cntT ((List.replicate d false).set k true) ≤ 1 := by
     intro d
     induction d with
     | zero => intro k; simp [cntT]
     | succ d ih =>
      intro k
      cases k with
      | zero =>
       show cntT (true :: List.replicate d false) ≤ 1
       have : cntT (List.replicate d false) = 0 := List.countP_eq_zero.2 fun x hx => by rw [List.eq_of_mem_replicate hx]; decide
       unfold cntT at this ⊢
       rw [List.countP_cons, this]; simp
      | succ k =>
       have := ih k
       show cntT (false :: (List.replicate d false).set k true) ≤ 1
       unfold cntT at this ⊢
       rw [List.countP_cons]; simpa using this
    exact gen _ _
   have h2 : (stand1 (R i)).Nodes = (n : Int) := hno
   rw [h2] at c3
   have := C.n1
   omega
  ·obtain ⟨_, b2, b3⟩ := bc_own (i := i) r'.bs r'.me
   exact ⟨by show ((R i).Log.length : Int) + _ ≤ _; split <;> omega, fun m hm => ⟨(b2 m hm).1, fun k => by have := (b2 m hm).2; omega, .inr (b2 m hm).2⟩, b3 _, fun _ => hli⟩
 obtain ⟨k1, k2, k3, k4⟩ := key
 have hc : cands [i] (upd R i (tickF (R i)).1) = if (tickF (R i)).1.Role = 1 then (1 : Int) else 0 := by
  unfold cands
  simp only [List.map_cons, List.map_nil, List.sum_cons, List.sum_nil, upd_i]
  omega
 have hw : ∀ m ∈ (tickF (R i)).2, wl (E + 1) (upd R i (tickF (R i)).1 (own m)) m ≤ 2 + WW (E + 1) := fun m hm => by
  obtain ⟨o1, o2, o3⟩ := k2 m hm
  rw [o1, upd_i]
  have hy : ((tickF (R i)).1.Log.length : Int) ≤ E + 1 := by split at k1 <;> omega
  rcases o3 with o3 | o3
  ·exact (wl_app o3 hy (o2 o3).1).2
  ·have : wl (E + 1) (tickF (R i)).1 m = 2 := by unfold wl; rw [if_neg (by omega), if_neg (by omega), if_pos o3]
   omega
 refine ⟨⟨fun j hj => by rw [List.mem_singleton.1 hj]; exact hi, fun m hm => by rw [(k2 m hm).1]; simp, fun j hj => ?_, fun m hm k => ?_, by omega⟩, hw, k3, ?_, k4⟩
 ·rw [hc]
  by_cases e : j = i
  ·subst e; rw [upd_i]; exact k1
  ·rw [upd_ne _ _ e]
   have := hl j hj
   split <;> omega
 ·rw [hc]; exact ((k2 m hm).2.1 k).2
 ·have h1 := sum_bd (f := fun m => wl (E + 1) (upd R i (tickF (R i)).1 (own m)) m) (c := 2 + WW (E + 1)) _ hw
  have h2 : (((tickF (R i)).2.length : Nat) : Int) * (2 + WW (E + 1)) ≤ 4 * (2 + WW (E + 1)) := Int.mul_le_mul_of_nonneg_right (by omega) (by omega)
  have h3 := pot_any r'.bs x' (L := E + 1) (by split at k1 <;> omega)
  unfold Phi
  simp only [List.map_cons, List.map_nil, List.sum_cons, List.sum_nil, upd_i]
  omega
end
theorem star_lead {n i : Nat} {T : Int} {R0 R : Nat → TRaft} (hi : i < n) (hb : Bs (R i)) (hme : (R i).Me = (i : Int) + 1) (hno : (R i).Nodes = (n : Int)) (h2 : (R i).Role = 2) (hT : (R i).Term = T) (hR : ∀ j, j ≠ i → R j = R0 j) (hx : Xt n i (R i)) : SA n i T R0 R (bc letterE (R i)) ∧ SB n i T R0 R (bc letterE (R i)) ∧ SC n i T R (bc letterE (R i)) := by
 have hall := fun j hj hji => bc_all hb hme hno (j := j) hj hji letterE (fun to => rfl)
 have hml := leadR_mail hb hme (g := letterE) (k := 3) (fun to => ⟨rfl, rfl, rfl, rfl⟩)
 have hto : ∀ j, j < n → j ≠ i → ∃ m ∈ bc letterE (R i), m.From = (i : Int) + 1 ∧ vto m = j := fun j hj hji => by
  obtain ⟨l, x1, x2⟩ := hall j hj hji
  exact ⟨l, x1, (hml l x1).1, x2⟩
 have hal : ∀ j, j < n → j ≠ i → Alive (bc letterE (R i)) j := fun j hj hji => by
  obtain ⟨l, x1, x2⟩ := hall j hj hji
  exact ⟨l, x1, .inl ⟨(hml l x1).2.1, x2⟩⟩
 refine ⟨⟨hi, fun m hm => ?_, ⟨by omega, fun g => by omega⟩, fun j hj hji hu => ⟨hR j hji, .inl (hto j hj hji)⟩, fun j hj hji hd => ⟨by rw [hR j hji]; exact hd, .inr (hto j hj hji)⟩, fun j hj hji hr => by rw [hR j hji] at hr; exact hr, fun _ => by omega, fun _ => by omega⟩, fun g => by omega, fun _ => ⟨fun j hj hji => .inl (hal j hj hji), fun j hj hji m hm k => by have := (hml m hm).2.1; omega, ?_⟩⟩
 ·obtain ⟨q1, q2, q3, q4⟩ := hml m hm
  exact .inl ⟨q1, .inr q2, by rw [q3, hT], q4⟩
 ·by_cases h1 : n = 1
  ·exact .inl (hx.one h1 h2)
  ·right
   by_cases hi0 : i = 0
   ·exact ⟨1, by omega, by omega, hal 1 (by omega) (by omega)⟩
   ·exact ⟨0, by omega, by omega, hal 0 (by omega) (by omega)⟩
theorem star_ask {n i : Nat} {R0 : Nat → TRaft} (hi : i < n) (hb : Bs (stand1 (R0 i))) (hme : (R0 i).Me = (i : Int) + 1) (hno : (R0 i).Nodes = (n : Int)) (hr : (R0 i).Role ≠ 2) (hw : wonB (stand1 (R0 i)) = false) : SA n i ((R0 i).Term + 1) R0 (upd R0 i (stand1 (R0 i))) (bc askE (stand1 (R0 i))) ∧ SB n i ((R0 i).Term + 1) R0 (upd R0 i (stand1 (R0 i))) (bc askE (stand1 (R0 i))) ∧ SC n i ((R0 i).Term + 1) (upd R0 i (stand1 (R0 i))) (bc askE (stand1 (R0 i))) := by
 have hall := fun j hj hji => bc_all hb (n := n) (show (stand1 (R0 i)).Me = (i : Int) + 1 from hme) hno (j := j) hj hji askE (fun to => rfl)
 have hml := leadR_mail hb (show (stand1 (R0 i)).Me = (i : Int) + 1 from hme) (g := askE) (k := 1) (fun to => ⟨rfl, rfl, rfl, rfl⟩)
 have hto : ∀ j, j < n → j ≠ i → ∃ m ∈ bc askE (stand1 (R0 i)), m.From = (i : Int) + 1 ∧ vto m = j := fun j hj hji => by
  obtain ⟨l, x1, x2⟩ := hall j hj hji
  exact ⟨l, x1, (hml l x1).1, x2⟩
 have hT : (stand1 (R0 i)).Term = (R0 i).Term + 1 := rfl
 have hR1 : (stand1 (R0 i)).Role = 1 := rfl
 have hR : ∀ j, j ≠ i → upd R0 i (stand1 (R0 i)) j = R0 j := fun j hj => upd_ne _ _ hj
 refine ⟨⟨hi, fun m hm => ?_, by rw [upd_i, hT]; exact ⟨Int.le_refl _, fun g => by omega⟩, fun j hj hji hu => ⟨hR j hji, .inl (hto j hj hji)⟩, fun j hj hji hd => ⟨by rw [hR j hji]; exact hd, .inr (hto j hj hji)⟩, fun j hj hji hr => by rw [hR j hji] at hr; exact hr, fun _ => by rw [upd_i, hR1]; decide, fun e => absurd e hr⟩, fun _ => ⟨by rw [upd_i]; rfl, fun m hm => .inl (hml m hm).2.1, fun m hm _ => ?_, by rw [upd_i]; exact hw, ?_, by rw [upd_i]; rfl, fun j hj hji => by rw [hR j hji]; exact ⟨rfl, .inl rfl⟩, fun j hj hji hjT hnw => .inl ⟨hR j hji, ?_⟩⟩, fun g => by rw [upd_i, hR1] at g; omega⟩
 ·obtain ⟨q1, q2, q3, q4⟩ := hml m hm
  exact .inl ⟨q1, .inl q2, by rw [q3, hT], q4⟩
 ·unfold bc at hm
  obtain ⟨to, _, rfl⟩ := List.mem_map.1 hm
  refine ⟨rfl, ?_⟩
  show termAt (R0 i).Log ((R0 i).Log.length : Int) = _
  exact termAt_last _
 ·rw [upd_i]
  show ((List.replicate (R0 i).Nodes.toNat false).set ((R0 i).Me - 1).toNat true)[i]? = some true
  rw [show ((R0 i).Me - 1).toNat = i by omega, List.getElem?_set_self (by simp; omega)]
 ·obtain ⟨l, x1, x2⟩ := hall j hj hji
  exact ⟨l, x1, (hml l x1).2.1, x2⟩
end Go.Proofs.Ythpokjkbcdfhiaa.Told.RA
