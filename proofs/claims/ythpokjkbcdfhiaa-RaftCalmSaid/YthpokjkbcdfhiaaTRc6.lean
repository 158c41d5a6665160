/- One member ticks when no letters are on their way: its letters, and the answers. -/
import Derived.Test.YthpokjkbcdfhiaaTRc5
namespace Go.Proofs.Ythpokjkbcdfhiaa.Told.RA
open Go Go.Proofs.Ythpokjkbcdfhiaa.Vam Go.Proofs.Ythpokjkbcdfhiaa.Told Go.Proofs.Ythpokjkbcdfhiaa.Told.HP Go.Proofs.Ythpokjkbcdfhiaa.Told.PK
set_option linter.unusedSimpArgs false
set_option linter.unusedVariables false
section
variable {n : Nat} {s : Int} {R : Nat → TRaft} {G : Gh} {m : TMsg} {rest : List TMsg}
theorem take_open (C : CI n s R G (m :: rest)) (hk : 1 ≤ m.Kind ∧ m.Kind ≤ 4) (hne : m.From ≠ m.To) : takeF (R (vto m)) m = takeP (stepR (R (vto m)) m) m := by
 have hm := C.mail m (by simp)
 have r := C.inv.r _ C.vn
 have h1 := hm.frm
 have h2 := hm.to
 have h3 := r.me
 have h4 := r.nodes
 have h5 : ((vto m : Nat) : Int) = m.To - 1 := by show (((m.To - 1).toNat : Nat) : Int) = _; omega
 unfold takeF
 rw [if_pos ⟨hk, mayB_iff.2 r.may, h1.1, by omega, by omega, by omega⟩]
def Fol (i : Nat) (T : Int) (y : TRaft) : Prop := y.Term = T ∧ y.Role = 0 ∧ y.Leader = (i : Int) + 1 ∧ y.Clock = 0
def Ans (m l : TMsg) (t k : Int) : Prop := l.From = m.To ∧ l.To = m.From ∧ l.Term = t ∧ l.Kind = k
theorem right_hi (C : CI n s R G (m :: rest)) (hk : m.Kind = 1 ∨ m.Kind = 3) (hne : m.From ≠ m.To) (h : m.Term < (R (vto m)).Term) : (takeF (R (vto m)) m).1 = R (vto m) ∧ ∃ l, outs R m = [l] ∧ Ans m l (R (vto m)).Term (m.Kind + 1) := by
 have hm := C.mail m (by simp)
 have r := C.inv.r _ C.vn
 have h2 := hm.to
 have h3 := r.me
 have h5 : (R (vto m)).Me = m.To := by rw [h3]; show (((m.To - 1).toNat : Nat) : Int) + 1 = _; omega
 unfold outs
 rw [take_open C (by omega) hne]
 have hs : stepR (R (vto m)) m = R (vto m) := by unfold stepR; rw [if_neg (by omega)]
 rw [hs]
 unfold takeP
 rcases hk with k | k
 ·rw [if_pos k]
  have hg : grantB (R (vto m)) m = false := by unfold grantB; rw [beq_eq_false_iff_ne.2 (by omega)]; rfl
  unfold askVoteP
  rw [hg, if_neg (by decide)]
  exact ⟨rfl, _, rfl, h5, rfl, rfl, by rw [k]; rfl⟩
 ·rw [if_neg (by omega), if_neg (by omega), if_pos k]
  unfold appendP
  rw [if_pos h]
  exact ⟨rfl, _, rfl, h5, rfl, rfl, by rw [k]; rfl⟩
theorem right_ask (C : CI n s R G (m :: rest)) (hk : m.Kind = 1) (hne : m.From ≠ m.To) (h : (R (vto m)).Term ≤ m.Term) : let y := (takeF (R (vto m)) m).1; y.Term = m.Term ∧ y.Log = (R (vto m)).Log ∧ (y.Role = 2 → (R (vto m)).Role = 2) ∧ (y.Clock = (R (vto m)).Clock ∨ (y.Clock = 0 ∧ newerB (R (vto m)).Log m.Index m.LogTerm = true)) ∧
  ((R (vto m)).Term = m.Term → y.Role = (R (vto m)).Role ∧ y.Leader = (R (vto m)).Leader) ∧ ∃ l, outs R m = [l] ∧ Ans m l m.Term 2 ∧ ((R (vto m)).Term < m.Term → newerB (R (vto m)).Log m.Index m.LogTerm = true → l.OK = true) := by
 have hm := C.mail m (by simp)
 have r := C.inv.r _ C.vn
 have h2 := hm.to
 have h3 := r.me
 have h5 : (R (vto m)).Me = m.To := by rw [h3]; show (((m.To - 1).toNat : Nat) : Int) + 1 = _; omega
 unfold outs
 rw [take_open C (by omega) hne]
 unfold takeP
 rw [if_pos hk]
 obtain ⟨f1, f2, f3, f4, f5, f6, f7⟩ := stepR_fields (R (vto m)) m
 have hT : (stepR (R (vto m)) m).Term = m.Term := by
  unfold stepR
  split
  ·rfl
  ·omega
 unfold askVoteP
 refine ⟨?_, ?_, fun k => ?_, ?_, fun k => ?_, _, rfl, ⟨by show (stepR (R (vto m)) m).Me = _; rw [f4]; exact h5, rfl, hT, rfl⟩, fun hlt hnw => ?_⟩
 ·dsimp only; split
  ·exact hT
  ·exact hT
 ·dsimp only; split
  ·exact f2
  ·exact f2
 ·have k' : (stepR (R (vto m)) m).Role = 2 := by
   dsimp only at k; split at k
   ·exact k
   ·exact k
  rcases f7 with ⟨g, _⟩ | ⟨g, _⟩
  ·rw [← g]; exact k'
  ·omega
 ·dsimp only; split
  ·rename_i hg
   right
   refine ⟨rfl, ?_⟩
   unfold grantB at hg
   simp only [Bool.and_eq_true] at hg
   rw [f2] at hg
   exact hg.2.2
  ·left; exact f3
 ·have hs : stepR (R (vto m)) m = R (vto m) := by unfold stepR; rw [if_neg (by omega)]
  rw [hs]
  dsimp only; split
  ·exact ⟨rfl, rfl⟩
  ·exact ⟨rfl, rfl⟩
 ·show grantB (stepR (R (vto m)) m) m = true
  have hs : stepR (R (vto m)) m = yieldR (R (vto m)) m.Term := by unfold stepR; rw [if_pos (by omega)]
  rw [hs]
  unfold grantB
  show ((m.Term == m.Term) && (((0 : Int) == 0 || (0 : Int) == m.From) && newerB (R (vto m)).Log m.Index m.LogTerm)) = true
  rw [hnw]; simp
theorem right_app (C : CI n s R G (m :: rest)) (hk : m.Kind = 3) (hne : m.From ≠ m.To) (h : (R (vto m)).Term ≤ m.Term) {i : Nat} (hf : m.From = (i : Int) + 1) : let y := (takeF (R (vto m)) m).1; y.Term = m.Term ∧ (y.Role = 2 → (R (vto m)).Role = 2) ∧ (¬ ((R (vto m)).Role = 2 ∧ (R (vto m)).Term = m.Term) → Fol i m.Term y ∧ ∃ l, outs R m = [l] ∧ Ans m l m.Term 4) ∧ (outs R m = [] ∨ ∃ l, outs R m = [l] ∧ Ans m l m.Term 4) := by
 have hm := C.mail m (by simp)
 have r := C.inv.r _ C.vn
 have h2 := hm.to
 have h3 := r.me
 have h5 : (R (vto m)).Me = m.To := by rw [h3]; show (((m.To - 1).toNat : Nat) : Int) + 1 = _; omega
 unfold outs
 rw [take_open C (by omega) hne]
 unfold takeP
 rw [if_neg (by omega), if_neg (by omega), if_pos hk]
 obtain ⟨f1, f2, f3, f4, f5, f6, f7⟩ := stepR_fields (R (vto m)) m
 have hT : (stepR (R (vto m)) m).Term = m.Term := by
  unfold stepR
  split
  ·rfl
  ·omega
 have hme : (stepR (R (vto m)) m).Me = m.To := by rw [f4]; exact h5
 have no2 : ∀ {P : Prop}, (0 : Int) = 2 → P := fun e => by omega
 unfold appendP
 rw [if_neg (by omega)]
 by_cases c2 : (stepR (R (vto m)) m).Role = 2
 ·rw [if_pos c2]
  rcases f7 with ⟨g1, g2, g3⟩ | ⟨g1, _⟩
  ·refine ⟨hT, fun _ => by rw [← g1]; exact c2, fun k => absurd ⟨by rw [← g1]; exact c2, by rw [← g2]; exact hT⟩ k, .inl rfl⟩
  ·omega
 rw [if_neg c2]
 split
 ·split
  ·exact ⟨hT, fun k => no2 k, fun _ => ⟨⟨hT, rfl, hf, rfl⟩, _, rfl, hme, rfl, hT, rfl⟩, .inr ⟨_, rfl, hme, rfl, hT, rfl⟩⟩
  ·exact ⟨hT, fun k => no2 k, fun _ => ⟨⟨hT, rfl, hf, rfl⟩, _, rfl, hme, rfl, hT, rfl⟩, .inr ⟨_, rfl, hme, rfl, hT, rfl⟩⟩
 ·exact ⟨hT, fun k => no2 k, fun _ => ⟨⟨hT, rfl, hf, rfl⟩, _, rfl, hme, rfl, hT, rfl⟩, .inr ⟨_, rfl, hme, rfl, hT, rfl⟩⟩
theorem left_hi (C : CI n s R G (m :: rest)) (hk : m.Kind = 2 ∨ m.Kind = 4) (hne : m.From ≠ m.To) (h : (R (vto m)).Term < m.Term) : (takeF (R (vto m)) m).1.Role = 0 ∧ (takeF (R (vto m)) m).1.Term = m.Term ∧ outs R m = [] := by
 unfold outs
 rw [take_open C (by omega) hne]
 have hs : stepR (R (vto m)) m = yieldR (R (vto m)) m.Term := by unfold stepR; rw [if_pos (by omega)]
 rw [hs]
 have h0 : (yieldR (R (vto m)) m.Term).Role = 0 := rfl
 unfold takeP
 rcases hk with k | k
 ·rw [if_neg (by omega), if_pos k]
  unfold voteP
  rw [if_neg (by rw [h0]; omega)]
  exact ⟨rfl, rfl, rfl⟩
 ·rw [if_neg (by omega), if_neg (by omega), if_neg (by omega)]
  unfold appendedP
  rw [if_pos (by rw [h0]; right; decide)]
  exact ⟨rfl, rfl, rfl⟩
theorem left_lo (C : CI n s R G (m :: rest)) (hk : m.Kind = 2 ∨ m.Kind = 4) (hne : m.From ≠ m.To) (h : m.Term ≤ (R (vto m)).Term) : takeF (R (vto m)) m = if m.Kind = 2 then voteP (R (vto m)) m else appendedP (R (vto m)) m := by
 rw [take_open C (by omega) hne]
 have hs : stepR (R (vto m)) m = R (vto m) := by unfold stepR; rw [if_neg (by omega)]
 rw [hs]
 unfold takeP
 rcases hk with k | k
 ·rw [if_neg (by omega), if_pos k, if_pos k]
 ·rw [if_neg (by omega), if_neg (by omega), if_neg (by omega), if_neg (by omega)]
structure SA (n i : Nat) (T : Int) (R0 R : Nat → TRaft) (mail : List TMsg) : Prop where
 i1 : i < n
 star : ∀ m ∈ mail, (m.From = (i : Int) + 1 ∧ (m.Kind = 1 ∨ m.Kind = 3) ∧ m.Term = T ∧ vto m ≠ i) ∨ (m.To = (i : Int) + 1 ∧ m.From ≠ (i : Int) + 1 ∧ (m.Kind = 2 ∨ m.Kind = 4) ∧ T ≤ m.Term)
 me : T ≤ (R i).Term ∧ (T < (R i).Term → (R i).Role = 0)
 up : ∀ j, j < n → j ≠ i → T < (R0 j).Term → R j = R0 j ∧ ((∃ m ∈ mail, m.From = (i : Int) + 1 ∧ vto m = j) ∨ (∃ m ∈ mail, m.To = (i : Int) + 1 ∧ m.Term = (R0 j).Term) ∨ (R0 j).Term ≤ (R i).Term)
 dn : ∀ j, j < n → j ≠ i → (R0 j).Term ≤ T → (R j).Term ≤ T ∧ ((R j).Term = T ∨ ∃ m ∈ mail, m.From = (i : Int) + 1 ∧ vto m = j)
 role : ∀ j, j < n → j ≠ i → (R j).Role = 2 → (R0 j).Role = 2
 nz : (R i).Term = T → (R i).Role ≠ 0
 ldr : (R0 i).Role = 2 → (R i).Role ≠ 1
theorem mem_rest {P : TMsg → Prop} {out : List TMsg} (h : ∃ x ∈ m :: rest, P x) (hm : ¬ P m) : ∃ x ∈ rest ++ out, P x := by
 obtain ⟨x, hx, hp⟩ := h
 rcases List.mem_cons.1 hx with e | e
 ·exact absurd hp (by rw [e]; exact hm)
 ·exact ⟨x, by simp [e], hp⟩
theorem vto_from {i : Nat} {m : TMsg} (h : m.From = (i : Int) + 1) (ht : 1 ≤ m.To) (hv : vto m ≠ i) : m.From ≠ m.To := fun e => hv (by show (m.To - 1).toNat = i; omega)
theorem leadR_mail {r : TRaft} (hb : Bs r) {i : Nat} (hme : r.Me = (i : Int) + 1) {g : TRaft → Int → TMsg} {k : Int} (hg : ∀ to, (g r to).From = r.Me ∧ (g r to).To = to ∧ (g r to).Term = r.Term ∧ (g r to).Kind = k) : ∀ l ∈ bc g r, l.From = (i : Int) + 1 ∧ l.Kind = k ∧ l.Term = r.Term ∧ vto l ≠ i := fun l hl => by
 unfold bc at hl
 obtain ⟨to, hto, rfl⟩ := List.mem_map.1 hl
 obtain ⟨h1, h2, h3, h4⟩ := hg to
 have h5 := (others_mem hb).1 hto
 refine ⟨h1.trans hme, h4, h3, ?_⟩
 show ((g r to).To - 1).toNat ≠ i
 omega
theorem bc_all {r : TRaft} (hb : Bs r) {i n j : Nat} (hme : r.Me = (i : Int) + 1) (hno : r.Nodes = (n : Int)) (hj : j < n) (hji : j ≠ i) (g : TRaft → Int → TMsg) (hg : ∀ to, (g r to).To = to) : ∃ l ∈ bc g r, vto l = j := by
 refine ⟨g r ((j : Int) + 1), ?_, ?_⟩
 ·unfold bc
  exact List.mem_map.2 ⟨_, (others_mem hb).2 ⟨by omega, by omega, by omega⟩, rfl⟩
 ·show ((g r _).To - 1).toNat = j
  rw [hg]; omega
theorem left_out (C : CI n s R G (m :: rest)) {i : Nat} (hto : m.To = (i : Int) + 1) (hk : m.Kind = 2 ∨ m.Kind = 4) (hne : m.From ≠ m.To) (h : m.Term ≤ (R i).Term) (h200 : (R i).Log.length < 200) : (takeF (R i) m).1.Term = (R i).Term ∧ ((takeF (R i) m).1.Role = 0 ↔ (R i).Role = 0) ∧ ((R i).Role = 0 → (takeF (R i) m).2 = []) ∧ (∀ l ∈ (takeF (R i) m).2, l.From = (i : Int) + 1 ∧ l.Kind = 3 ∧ l.Term = (R i).Term ∧ (m.From ≠ (i : Int) + 1 → vto l ≠ i)) ∧ ((takeF (R i) m).1.Role = 1 → (R i).Role = 1) := by
 have hvi : vto m = i := by show (m.To - 1).toNat = i; omega
 have hm := C.mail m (by simp)
 have r := C.inv.r _ C.vn
 have hlo := left_lo C hk hne (by rw [hvi]; exact h)
 rw [hvi] at hlo r
 have hme := r.me
 have hfr := hm.frm
 rw [hlo]
 rcases hk with k | k
 ·rw [if_pos k]
  unfold voteP
  split
  ·rename_i g
   split
   ·have hbc := countR_bs (v := m.From) r.bs
    obtain ⟨l1, l2, l3, l4, l5, l6, l7⟩ := leadR_log (r := countR (R i) m.From) h200
    refine ⟨l5, ⟨fun e => by dsimp only at e; rw [l2] at e; omega, fun e => by rw [g.2.1] at e; omega⟩, fun e => by rw [g.2.1] at e; omega, fun l hl => ?_, fun _ => g.2.1⟩
    obtain ⟨q1, q2, q3, q4⟩ := leadR_mail (leadR_bs hbc) (i := i) (by rw [l6]; exact hme) (g := letterE) (k := 3) (fun to => ⟨rfl, rfl, rfl, rfl⟩) l hl
    exact ⟨q1, q2, by rw [q3, l5]; rfl, fun _ => q4⟩
   ·exact ⟨rfl, Iff.rfl, fun _ => rfl, (fun l hl => by cases hl), id⟩
  ·exact ⟨rfl, Iff.rfl, fun _ => rfl, (fun l hl => by cases hl), id⟩
 ·rw [if_neg (by omega)]
  have le : ∀ {y : TRaft}, y.Me = (R i).Me → y.Term = (R i).Term → ∀ l ∈ [letterE y m.From], l.From = (i : Int) + 1 ∧ l.Kind = 3 ∧ l.Term = (R i).Term ∧ (m.From ≠ (i : Int) + 1 → vto l ≠ i) := fun {y} h1 h2 l hl => by
   rw [List.mem_singleton.1 hl]
   exact ⟨h1.trans hme, rfl, h2, fun g => by show (m.From - 1).toNat ≠ i; omega⟩
  unfold appendedP
  split
  ·exact ⟨rfl, Iff.rfl, fun _ => rfl, (fun l hl => by cases hl), id⟩
  ·rename_i g
   have hr2 : (R i).Role = 2 := Decidable.not_not.1 fun e => g (.inr e)
   split
   ·refine ⟨rfl, Iff.rfl, fun e => by omega, fun l hl => ?_, id⟩
    dsimp only at hl
    split at hl
    ·exact le (y := farR (R i) m) rfl rfl l hl
    ·cases hl
   ·exact ⟨rfl, Iff.rfl, fun e => by omega, (fun l hl => le (y := backR (R i) m) rfl rfl l hl), id⟩
theorem SA.step {i : Nat} {T : Int} {R0 : Nat → TRaft} (C : CI n s R G (m :: rest)) (h200 : ∀ j, j < n → (R j).Log.length < 200) (S : SA n i T R0 R (m :: rest)) : SA n i T R0 (nxt R m) (rest ++ outs R m) := by
 have hm := C.mail m (by simp)
 have hto := hm.to
 have hfr := hm.frm
 rcases S.star m (by simp) with ⟨hf, hk, hT, hvi⟩ | ⟨ht, hfi, hk, hT⟩
 ·-- to another one
  have hne := vto_from hf hto.1 hvi
  have hRi : nxt R m i = R i := upd_ne _ _ (fun e => hvi e.symm)
  have hRv : nxt R m (vto m) = (takeF (R (vto m)) m).1 := upd_i _ _ _
  have hRj : ∀ j, j ≠ vto m → nxt R m j = R j := fun j hj => upd_ne _ _ hj
  have ans : ∀ {l : TMsg} {t k : Int}, Ans m l t k → T ≤ t → (k = 2 ∨ k = 4) → (l.To = (i : Int) + 1 ∧ l.From ≠ (i : Int) + 1 ∧ (l.Kind = 2 ∨ l.Kind = 4) ∧ T ≤ l.Term) := fun {l t k} a h1 h2 => ⟨by rw [a.2.1]; exact hf, by rw [a.1]; omega, by rw [a.2.2.2]; exact h2, by rw [a.2.2.1]; exact h1⟩
  rcases Int.lt_or_le T (R (vto m)).Term with hh | hh
  ·obtain ⟨r1, l, r2, r3⟩ := right_hi C hk hne (by omega)
   have hall : nxt R m = R := by unfold nxt; rw [r1, upd_self]
   rw [hall, r2]
   refine ⟨S.i1, fun x hx => ?_, S.me, fun j hj hji hu => ?_, fun j hj hji hd => ?_, S.role, S.nz, S.ldr⟩
   ·rcases List.mem_append.1 hx with g | g
    ·exact S.star x (by simp [g])
    ·rw [List.mem_singleton.1 g]
     exact .inr (ans r3 (by omega) (by omega))
   ·obtain ⟨e, hu2⟩ := S.up j hj hji hu
    refine ⟨e, ?_⟩
    by_cases hjv : j = vto m
    ·subst hjv
     exact .inr (.inl ⟨l, by simp, by rw [r3.2.1]; exact hf, by rw [r3.2.2.1, e]⟩)
    ·rcases hu2 with g | g | g
     ·exact .inl (mem_rest g (fun g2 => hjv g2.2.symm))
     ·exact .inr (.inl (mem_rest g (fun g2 => by
       have : vto m = i := by show (m.To - 1).toNat = i; omega
       exact hvi this)))
     ·exact .inr (.inr g)
   ·obtain ⟨e1, e2⟩ := S.dn j hj hji hd
    refine ⟨e1, e2.imp id fun g => mem_rest g fun g2 => ?_⟩
    have := g2.2; subst this; omega
  ·-- its term is no later
   have hy : (takeF (R (vto m)) m).1.Term = T ∧ ((takeF (R (vto m)) m).1.Role = 2 → (R (vto m)).Role = 2) ∧ ∀ l ∈ outs R m, ∃ k, Ans m l T k ∧ (k = 2 ∨ k = 4) := by
    rcases hk with k | k
    ·obtain ⟨q1, q2, q3, q4, q5, l, q6, q7, _⟩ := right_ask C k hne (by omega)
     exact ⟨by rw [q1, hT], q3, fun x hx => by rw [q6] at hx; rw [List.mem_singleton.1 hx]; exact ⟨2, by rw [← hT]; exact q7, .inl rfl⟩⟩
    ·obtain ⟨q1, q2, q3, q4⟩ := right_app C k hne (by omega) hf
     refine ⟨by rw [q1, hT], q2, fun x hx => ?_⟩
     rcases q4 with q4 | ⟨l, q4, q5⟩
     ·rw [q4] at hx; cases hx
     ·rw [q4] at hx; rw [List.mem_singleton.1 hx]; exact ⟨4, by rw [← hT]; exact q5, .inr rfl⟩
   obtain ⟨y1, y2, y3⟩ := hy
   have hvn := C.vn
   refine ⟨S.i1, fun x hx => ?_, by rw [hRi]; exact S.me, fun j hj hji hu => ?_, fun j hj hji hd => ?_, fun j hj hji hr => ?_, by rw [hRi]; exact S.nz, by rw [hRi]; exact S.ldr⟩
   ·rcases List.mem_append.1 hx with g | g
    ·exact S.star x (by simp [g])
    ·obtain ⟨k, a1, a2⟩ := y3 x g
     exact .inr (ans a1 (Int.le_refl _) a2)
   ·obtain ⟨e, hu2⟩ := S.up j hj hji hu
    have hjv : j ≠ vto m := fun e2 => by rw [← e2, e] at hh; omega
    rw [hRj j hjv, hRi]
    refine ⟨e, ?_⟩
    rcases hu2 with g | g | g
    ·exact .inl (mem_rest g (fun g2 => hjv g2.2.symm))
    ·exact .inr (.inl (mem_rest g (fun g2 => by
      have : vto m = i := by show (m.To - 1).toNat = i; omega
      exact hvi this)))
    ·exact .inr (.inr g)
   ·by_cases hjv : j = vto m
    ·subst hjv
     rw [hRv, y1]; exact ⟨Int.le_refl _, .inl rfl⟩
    ·obtain ⟨e1, e2⟩ := S.dn j hj hji hd
     rw [hRj j hjv]
     exact ⟨e1, e2.imp id fun g => mem_rest g fun g2 => hjv g2.2.symm⟩
   ·by_cases hjv : j = vto m
    ·subst hjv
     rw [hRv] at hr
     exact S.role _ hj hji (y2 hr)
    ·rw [hRj j hjv] at hr; exact S.role j hj hji hr
 ·-- to the one that ticked
  have hvi : vto m = i := by show (m.To - 1).toNat = i; omega
  have hne : m.From ≠ m.To := by omega
  have hRi : nxt R m i = (takeF (R i) m).1 := by unfold nxt; rw [hvi, upd_i]
  have hRj : ∀ j, j ≠ i → nxt R m j = R j := fun j hj => by unfold nxt; rw [hvi]; exact upd_ne _ _ hj
  have hout : outs R m = (takeF (R i) m).2 := by unfold outs; rw [hvi]
  have base : T ≤ (takeF (R i) m).1.Term → (T < (takeF (R i) m).1.Term → (takeF (R i) m).1.Role = 0) → m.Term ≤ (takeF (R i) m).1.Term → (R i).Term ≤ (takeF (R i) m).1.Term → (∀ l ∈ outs R m, l.From = (i : Int) + 1 ∧ (l.Kind = 1 ∨ l.Kind = 3) ∧ l.Term = T ∧ vto l ≠ i) → ((takeF (R i) m).1.Term = T → (takeF (R i) m).1.Role ≠ 0) → ((takeF (R i) m).1.Role = 1 → (R i).Role = 1) → SA n i T R0 (nxt R m) (rest ++ outs R m) := fun h1 h2 h3 h3' h4 h5 h6 => by
   refine ⟨S.i1, fun x hx => ?_, by rw [hRi]; exact ⟨h1, h2⟩, fun j hj hji hu => ?_, fun j hj hji hd => ?_, fun j hj hji hr => ?_, by rw [hRi]; exact h5, fun e => by rw [hRi]; exact fun e2 => S.ldr e (h6 e2)⟩
   ·rcases List.mem_append.1 hx with g | g
    ·exact S.star x (by simp [g])
    ·exact .inl (h4 x g)
   ·obtain ⟨e, hu2⟩ := S.up j hj hji hu
    rw [hRj j hji, hRi]
    refine ⟨e, ?_⟩
    rcases hu2 with g | ⟨x, hx, g1, g2⟩ | g
    ·exact .inl (mem_rest g (fun g2 => hfi g2.1))
    ·rcases List.mem_cons.1 hx with g3 | g3
     ·right; right
      rw [← g2, g3]; exact h3
     ·exact .inr (.inl ⟨x, by simp [g3], g1, g2⟩)
    ·right; right
     omega
   ·obtain ⟨e1, e2⟩ := S.dn j hj hji hd
    rw [hRj j hji]
    exact ⟨e1, e2.imp id fun g => mem_rest g fun g2 => hfi g2.1⟩
   ·rw [hRj j hji] at hr; exact S.role j hj hji hr
  rcases Int.lt_or_le (R i).Term m.Term with hh | hh
  ·obtain ⟨q1, q2, q3⟩ := left_hi C hk hne (by rw [hvi]; exact hh)
   rw [hvi] at q1 q2
   exact base (by rw [q2]; exact hT) (fun _ => q1) (by rw [q2]; exact Int.le_refl _) (by omega) (fun l hl => by rw [q3] at hl; cases hl) (fun e => by have := S.me.1; omega) (fun e => by omega)
  ·obtain ⟨q1, q2, q3, q4, q5⟩ := left_out C ht hk hne hh (h200 i S.i1)
   have hme := S.me
   refine base (by rw [q1]; exact hme.1) (fun g => q2.2 (hme.2 (by rw [q1] at g; exact g))) (by rw [q1]; exact hh) (by rw [q1]; exact Int.le_refl _) (fun l hl => ?_) (fun e e2 => S.nz (by rw [← q1]; exact e) (q2.1 e2)) q5
   rw [hout] at hl
   obtain ⟨p1, p2, p3, p4⟩ := q4 l hl
   refine ⟨p1, .inr p2, ?_, p4 hfi⟩
   rw [p3]
   rcases Int.lt_or_eq_of_le hme.1 with g | g
   ·have := q3 (hme.2 g)
    rw [this] at hl; cases hl
   ·exact g.symm
end
end Go.Proofs.Ythpokjkbcdfhiaa.Told.RA
