/- A letter comes: what may come of it is less than what might have. -/
import Derived.Test.YthpokjkbcdfhiaaTRc3
namespace Go.Proofs.Ythpokjkbcdfhiaa.Told.RA
open Go Go.Proofs.Ythpokjkbcdfhiaa.Vam Go.Proofs.Ythpokjkbcdfhiaa.Told Go.Proofs.Ythpokjkbcdfhiaa.Told.HP Go.Proofs.Ythpokjkbcdfhiaa.Told.PK
set_option linter.unusedSimpArgs false
set_option linter.unusedVariables false
structure Loc (L : Int) (ro r : TRaft) (m : TMsg) (y : TRaft) (out : List TMsg) : Prop where
 mono : ∀ l, 0 ≤ l.Index → wl L y l ≤ wl L r l
 owns : ∀ l ∈ out, own l = own m
 idx : ∀ l ∈ out, 0 ≤ l.Index
 potle : pot L y ≤ pot L r
 self : m.Kind = 2 ∨ m.Kind = 4 → (out.map (wl L y)).sum + pot L y + 1 ≤ wl L r m + pot L r
 other : ¬ (m.Kind = 2 ∨ m.Kind = 4) → (out.map (wl L ro)).sum + 1 ≤ wl L ro m
 ne : ¬ (m.Kind = 2 ∨ m.Kind = 4) → out = [] ∨ ((m.Kind = 1 ∨ m.Kind = 3) ∧ m.From ≠ m.To)
 role : y.Role = 1 → r.Role = 1
 len : (y.Log.length : Int) ≤ max (r.Log.length : Int) (if m.Kind = 3 then m.Index + (m.Entries.length : Int) else 0) ∨ (m.Kind = 2 ∧ r.Role = 1 ∧ y.Role = 2 ∧ y.Log.length ≤ r.Log.length + 1)
 ends : ∀ l ∈ out, l.Kind = 3 → l.Index + (l.Entries.length : Int) ≤ (y.Log.length : Int)
theorem rep_le {L : Int} {ro r : TRaft} {m : TMsg} {f idx : Int} {ok : Bool} (hk : m.Kind = 3) (hi : 0 ≤ m.Index) (hL : (ro.Log.length : Int) ≤ L) (hx : 0 ≤ idx)
  (h : m.Term < r.Term ∨ (r.Term = m.Term ∧ ok = false ∧ ¬ (ro.Role = 2 ∧ m.Term = ro.Term ∧ m.Index ≤ mtOf ro m.To)) ∨ (r.Term = m.Term ∧ ok = true ∧ idx = m.Index + (m.Entries.length : Int))) : wl L ro (repA r f ok idx) + 1 ≤ wl L ro m := by
 have e : wl L ro (repA r f ok idx) = if ro.Role = 0 ∨ ro.Term < r.Term then 1 else if ro.Role = 2 ∧ ok = true ∧ r.Term = ro.Term then 1 + 2 * c4 ((ro.Log.length : Int) - idx) else 1 + WW L := by
  unfold wl
  rw [if_neg (show ¬ (repA r f ok idx).Kind = 3 from fun g => by have : (4 : Int) = 3 := g; omega), if_pos (show (repA r f ok idx).Kind = 4 from rfl)]; rfl
 have hw := wl_app (r := ro) hk hL hi
 have hc := c4_mono (show (ro.Log.length : Int) - idx ≤ L by omega)
 have hp := c4_pos L
 rw [e]
 by_cases c0 : ro.Role = 0 ∨ ro.Term < r.Term
 ·rw [if_pos c0]; omega
 rw [if_neg c0]
 by_cases c1 : ro.Role = 2 ∧ m.Term = ro.Term ∧ m.Index ≤ mtOf ro m.To
 ·rcases h with h | ⟨_, _, h⟩ | ⟨h1, h2, h3⟩
  ·omega
  ·exact absurd c1 h
  ·have e2 : wl L ro m = 2 + 2 * c4 ((ro.Log.length : Int) - (m.Index + (m.Entries.length : Int))) := by unfold wl; rw [if_pos hk, if_neg (by omega), if_pos c1]
   rw [if_pos ⟨c1.1, h2, by omega⟩, e2, h3]; omega
 ·have e2 : wl L ro m = 2 + WW L := by unfold wl; rw [if_pos hk, if_neg (by omega), if_neg c1]
  rw [e2]
  unfold WW
  split <;> omega
theorem loc_same {L : Int} {ro r r' : TRaft} {m : TMsg} (hL : 0 ≤ L) (h1 : ∀ l, 0 ≤ l.Index → wl L r' l ≤ wl L r l) (h2 : pot L r' ≤ pot L r) (h3 : r'.Role = 1 → r.Role = 1) (h4 : r'.Log.length = r.Log.length) : Loc L ro r m r' [] :=
 ⟨h1, fun l h => (by cases h), fun l h => (by cases h), h2, fun _ => by have := wl_pos L r m; simp; omega, fun _ => by have := wl_pos L ro m; simp; omega, fun _ => .inl rfl, h3, .inl (by omega), fun l h => (by cases h)⟩
theorem step_calm {L : Int} (hL : 0 ≤ L) (r : TRaft) (m : TMsg) : (∀ l, wl L (stepR r m) l ≤ wl L r l) ∧ pot L (stepR r m) ≤ pot L r ∧ ((stepR r m).Role = 1 → r.Role = 1) := by
 obtain ⟨_, _, _, _, _, _, f7⟩ := stepR_fields r m
 rcases f7 with ⟨_, _, g⟩ | ⟨g, _⟩
 ·rw [g]; exact ⟨fun l => Int.le_refl _, Int.le_refl _, id⟩
 ·refine ⟨fun l => wl_zero g l, ?_, fun k => by omega⟩
  have : pot L (stepR r m) = 0 := by unfold pot; rw [if_neg (by omega), if_neg (by omega)]
  have := pot_pos hL r
  omega
theorem pot_zero {L : Int} (hL : 0 ≤ L) {y r : TRaft} (h : y.Role = 0) : pot L y ≤ pot L r := by
 have : pot L y = 0 := by unfold pot; rw [if_neg (by omega), if_neg (by omega)]
 have := pot_pos hL r
 omega
theorem wl_safe {L : Int} {y : TRaft} {to : Int} (h2 : y.Role = 2) (h : ((atOf y to : Nat) : Int) ≤ mtOf y to) : wl L y (letterE y to) = 2 + 2 * c4 ((y.Log.length : Int) - (((atOf y to : Nat) : Int) + min 4 ((y.Log.length : Int) - ((atOf y to : Nat) : Int)))) := by
 have hle : atOf y to ≤ y.Log.length := by unfold atOf; omega
 have hel : (((letterE y to).Entries.length : Nat) : Int) = min 4 ((y.Log.length : Int) - ((atOf y to : Nat) : Int)) := by
  show ((((y.Log.drop (atOf y to)).take 4).length : Nat) : Int) = _
  rw [List.length_take, List.length_drop]; omega
 unfold wl
 rw [if_pos (show (letterE y to).Kind = 3 from rfl), if_neg (by omega), if_pos ⟨h2, rfl, h⟩, hel]
 rfl
section
variable {n : Nat} {R : Nat → TRaft} {G : Gh}
theorem loc (I : Inv n R G) {m : TMsg} (hm : MI n (tm R) G m) (hb : m.Term ≤ 1152921504606846976) {L : Int} (hL2 : L < 200) (hlo : ((R (own m)).Log.length : Int) ≤ L) (hl : ((R (m.To - 1).toNat).Log.length : Int) ≤ L) (hl1 : m.Kind = 2 → (R (m.To - 1).toNat).Role = 1 → ((R (m.To - 1).toNat).Log.length : Int) + 1 ≤ L)
  (hme : m.Kind = 3 → m.Index + (m.Entries.length : Int) ≤ L) : Loc L (R (own m)) (R (m.To - 1).toNat) m (takeF (R (m.To - 1).toNat) m).1 (takeF (R (m.To - 1).toNat) m).2 := by
 have hto := hm.to
 have hfr := hm.frm
 have hix := hm.index
 have hvn : (m.To - 1).toNat < n := by omega
 have r := I.r _ hvn
 have hL : 0 ≤ L := by omega
 obtain ⟨s1, s2, s3⟩ := step_calm hL (R (m.To - 1).toNat) m
 have hno := r.nodes
 have hmr := r.me
 unfold takeF
 by_cases c : (1 ≤ m.Kind ∧ m.Kind ≤ 4) ∧ okL_ (R (m.To - 1).toNat) m
 case neg =>
  rw [if_neg c]
  exact loc_same hL (fun l _ => Int.le_refl _) (Int.le_refl _) id rfl
 rw [if_pos c]
 obtain ⟨hkind, _, o1, o2, o3, o4⟩ := c
 obtain ⟨f1, f2, f3, f4, f5, f6, f7⟩ := stepR_fields (R (m.To - 1).toNat) m
 have hrb : Bs (stepR (R (m.To - 1).toNat) m) := stepR_bs r.bs ⟨hm.lb.term.1, hb⟩
 have hhas := fun (h3 : m.Kind = 3) hr hT hle hv => has_ok I hm h3 hr hT hle hv
 have hmlen := fun hr => match_len I hvn hr hfr
 have hne : m.From ≠ m.To := fun e => o3 (by omega)
 have hrr : r.bs.len = r.bs.len := rfl
 generalize hR : R (m.To - 1).toNat = rv at *
 generalize hr' : stepR rv m = r' at *
 have hlog : r'.Log.length = rv.Log.length := by rw [f2]
 have hpos := wl_pos L rv m
 unfold takeP
 by_cases k1 : m.Kind = 1
 ·-- a vote is asked for
  rw [if_pos k1]
  have hk : ¬ (m.Kind = 2 ∨ m.Kind = 4) := by omega
  have hw : wl L (R (own m)) m = 2 := by unfold wl; rw [if_neg (by omega), if_neg (by omega), if_pos k1]
  have hown : own m = (m.From - 1).toNat := by unfold own; rw [if_pos (.inl k1)]
  have kk : (ltr 2 r'.Me m.From r'.Term 0 0 0 (grantB r' m) []).Kind = 2 := rfl
  unfold askVoteP
  refine ⟨fun l _ => ?_, fun l hlm => ?_, fun l hlm => ?_, ?_, fun g => absurd g hk, fun _ => ?_, fun _ => .inr ⟨.inl k1, hne⟩, ?_, .inl ?_, fun l hlm k => ?_⟩
  ·dsimp only; split
   ·exact s1 l
   ·exact s1 l
  ·rw [List.mem_singleton.1 hlm, hown]
   unfold own
   rw [if_neg (by rw [kk]; decide)]; rfl
  ·rw [List.mem_singleton.1 hlm]; exact Int.le_refl _
  ·dsimp only; split <;> exact s2
  ·have : wl L (R (own m)) (ltr 2 r'.Me m.From r'.Term 0 0 0 (grantB r' m) []) = 1 := by unfold wl; rw [if_neg (by rw [kk]; decide), if_neg (by rw [kk]; decide), if_neg (by rw [kk]; decide)]
   simp only [List.map_cons, List.map_nil, List.sum_cons, List.sum_nil]
   omega
  ·dsimp only; split <;> exact s3
  ·dsimp only; split
   ·show (r'.Log.length : Int) ≤ _; omega
   ·omega
  ·rw [List.mem_singleton.1 hlm] at k
   have : (2 : Int) = 3 := k
   omega
 rw [if_neg k1]
 by_cases k2 : m.Kind = 2
 ·-- a vote
  rw [if_pos k2]
  have hown : own m = (m.To - 1).toNat := by unfold own; rw [if_neg (by omega)]
  unfold voteP
  split
  ·rename_i g
   rcases f7 with ⟨g1, g2, g3⟩ | ⟨g1, _⟩
   case inr => exact absurd g.2.1 (by omega)
   rw [g3] at g ⊢ s1 s2 s3 hrb
   have hr1 : rv.Role = 1 := g.2.1
   split
   ·-- chosen
    have h200 : (countR rv m.From).Log.length < 200 := by show rv.Log.length < 200; have := hl1 k2 hr1; omega
    obtain ⟨l1, l2, l3, l4, l5, l6, l7⟩ := leadR_log h200
    have hbc := countR_bs (v := m.From) hrb
    have hll : ((leadR (countR rv m.From)).Log.length : Int) ≤ L := by
     rw [l1]
     show ((rv.Log ++ _).length : Int) ≤ L
     have := hl1 k2 hr1
     simp; omega
    have hpl := pot_lead (L := L) hbc h200 (by show (rv.Log.length : Int) ≤ L; omega)
    have hp1 : pot L rv = 4 * (2 + WW L) + 8 * L := by unfold pot; rw [if_pos hr1]
    have hW : 0 ≤ WW L := by unfold WW; have := c4_pos L; omega
    have hbl : ∀ l ∈ bc letterE (leadR (countR rv m.From)), l.Kind = 3 ∧ 0 ≤ l.Index ∧ own l = own m := fun l hlm => by
     unfold bc at hlm
     obtain ⟨to, _, rfl⟩ := List.mem_map.1 hlm
     refine ⟨rfl, ?_, ?_⟩
     ·show (0 : Int) ≤ ((atOf _ _ : Nat) : Int); omega
     ·rw [hown]
      unfold own
      rw [if_pos (.inr rfl)]
      show ((leadR (countR rv m.From)).Me - 1).toNat = _
      rw [l6]
      show (rv.Me - 1).toNat = _
      omega
    have hfew : ((bc letterE (leadR (countR rv m.From))).length : Int) ≤ 4 := by
     have := others_len (leadR_bs hbc)
     unfold bc
     rw [List.length_map]; omega
    refine ⟨fun l hli => wl_lead hr1 l2 (by rw [l5]; rfl) hll l hli, fun l hlm => (hbl l hlm).2.2, fun l hlm => (hbl l hlm).2.1, by show pot L (leadR (countR rv m.From)) ≤ _; rw [hp1]; omega, fun _ => ?_, fun g => absurd (.inl k2) g, fun g => absurd (.inl k2) g, fun k => by dsimp only at k; rw [l2] at k; omega, .inr ⟨k2, hr1, l2, ?_⟩, fun l hlm _ => ?_⟩
    ·have hs := sum_bd (f := wl L (leadR (countR rv m.From))) (c := 2 + WW L) _ (fun l hlm => (wl_app (hbl l hlm).1 hll (hbl l hlm).2.1).2)
     have h5 : ((bc letterE (leadR (countR rv m.From))).length : Int) * (2 + WW L) ≤ 4 * (2 + WW L) := Int.mul_le_mul_of_nonneg_right hfew (by omega)
     rw [hp1]; dsimp only; omega
    ·dsimp only
     rw [l1]
     show (rv.Log ++ _).length ≤ _
     simp
    ·unfold bc at hlm
     obtain ⟨to, _, rfl⟩ := List.mem_map.1 hlm
     exact letterE_end _ _
   ·refine loc_same hL (fun l _ => ?_) ?_ (fun k => hr1) rfl
    ·exact s1 l
    ·exact s2
  ·exact loc_same hL (fun l _ => s1 l) s2 s3 hlog
 rw [if_neg k2]
 by_cases k3 : m.Kind = 3
 ·-- entries
  rw [if_pos k3]
  have hk : ¬ (m.Kind = 2 ∨ m.Kind = 4) := by omega
  have hown : own m = (m.From - 1).toNat := by unfold own; rw [if_pos (.inr k3)]
  have hrep : ∀ {o : Bool} {v : Int}, own (repA r' m.From o v) = own m := fun {o v} => by
   rw [hown]
   unfold own
   rw [if_neg (show ¬ ((repA r' m.From o v).Kind = 1 ∨ (repA r' m.From o v).Kind = 3) from fun g => by rcases g with g | g <;> (have g' : (4 : Int) = _ := g; omega))]; rfl
  have fin : ∀ (y : TRaft) (o : Bool) (v : Int), (∀ l, wl L y l ≤ wl L rv l) → pot L y ≤ pot L rv → (y.Role = 1 → rv.Role = 1) → (y.Log.length : Int) ≤ max (rv.Log.length : Int) (m.Index + (m.Entries.length : Int)) → 0 ≤ v → wl L (R (own m)) (repA r' m.From o v) + 1 ≤ wl L (R (own m)) m → Loc L (R (own m)) rv m y [repA r' m.From o v] := fun y o v h1 h2 h3 h4 h5 h6 =>
   ⟨fun l _ => h1 l, fun l hlm => by rw [List.mem_singleton.1 hlm]; exact hrep, fun l hlm => by rw [List.mem_singleton.1 hlm]; exact h5, h2, fun g => absurd g hk, fun _ => by simp only [List.map_cons, List.map_nil, List.sum_cons, List.sum_nil]; omega, fun _ => .inr ⟨.inr k3, hne⟩, h3, .inl (by rw [if_pos k3]; exact h4), fun l hlm k => by
    rw [List.mem_singleton.1 hlm] at k
    have : (4 : Int) = 3 := k
    omega⟩
  unfold appendP
  by_cases c1 : m.Term < r'.Term
  ·rw [if_pos c1]
   exact fin r' _ _ s1 s2 s3 (by omega) (Int.le_refl _) (rep_le k3 hix hlo (Int.le_refl _) (.inl c1))
  rw [if_neg c1]
  by_cases c2 : r'.Role = 2
  ·rw [if_pos c2]
   exact loc_same hL (fun l _ => s1 l) s2 s3 hlog
  rw [if_neg c2]
  have hTe : r'.Term = m.Term := by
   rcases f7 with ⟨_, g2, _⟩ | ⟨_, g2, _⟩
   ·rw [← hr'] at c1 ⊢
    unfold stepR at c1 ⊢
    split
    ·rfl
    ·rename_i g
     rw [if_neg g] at c1
     omega
   ·exact g2
  have hvT : rv.Term ≤ m.Term := by
   rcases f7 with ⟨_, g2, _⟩ | ⟨_, _, g2⟩ <;> omega
  have no2 : (0 : Int) = 1 → rv.Role = 1 := fun e => by omega
  cases hh : hasB r'.Log m.Index m.LogTerm
  ·rw [if_neg (by decide)]
   refine fin (follR r' m.From) _ _ (fun l => wl_zero rfl l) (pot_zero hL rfl) no2 (by show (r'.Log.length : Int) ≤ _; omega) (by omega) (rep_le k3 hix hlo (by omega) (.inr (.inl ⟨hTe, rfl, fun g => ?_⟩)))
   rw [hown] at g
   have := hhas k3 g.1 g.2.1 g.2.2 hvT
   rw [f2, this] at hh
   cases hh
  ·rw [if_pos rfl]
   have hj := joinF_le (l := r'.Log) (m := m.Entries) (i := m.Index) (E := max (rv.Log.length : Int) (m.Index + (m.Entries.length : Int))) (by omega) (by omega)
   have := hme k3
   rw [if_neg (by omega)]
   exact fin (tookR r' m.From (joinF r'.Log m.Index m.Entries) _) _ _ (fun l => wl_zero rfl l) (pot_zero hL rfl) no2 hj (by omega) (rep_le k3 hix hlo (by omega) (.inr (.inr ⟨hTe, rfl, rfl⟩)))
 ·-- an answer
  rw [if_neg k3]
  have k4 : m.Kind = 4 := by omega
  have hown : own m = (m.To - 1).toNat := by unfold own; rw [if_neg (by omega)]
  unfold appendedP
  by_cases c1 : m.Term < r'.Term ∨ r'.Role ≠ 2
  ·rw [if_pos c1]
   exact loc_same hL (fun l _ => s1 l) s2 s3 hlog
  rw [if_neg c1]
  have hr2 : r'.Role = 2 := Decidable.not_not.1 fun g => c1 (.inr g)
  rcases f7 with ⟨g1, g2, g3⟩ | ⟨g1, _⟩
  case inr => exact absurd hr2 (by omega)
  have hTe : m.Term = r'.Term := by
   rw [← hr'] at c1 ⊢
   unfold stepR at c1 ⊢
   split
   ·rfl
   ·rename_i g
    rw [if_neg g] at c1
    have : ¬ m.Term < rv.Term := fun h => c1 (.inl h)
    omega
  rw [g3] at hr2 hTe hrb ⊢
  have hml := hmlen hr2
  have hW : wl L rv m = if m.OK = true then 1 + 2 * c4 ((rv.Log.length : Int) - m.Index) else 1 + WW L := by
   unfold wl
   rw [if_neg k3, if_pos k4, if_neg (by omega)]
   by_cases ho : m.OK = true
   ·rw [if_pos ⟨hr2, ho, hTe⟩, if_pos ho]
   ·rw [if_neg (fun g => ho g.2.1), if_neg ho]
  have hmem : m.From ∈ others rv := (others_mem hrb).2 ⟨o1, o2, o3⟩
  have hpr : pot L rv = ((others rv).map (lag rv)).sum := by unfold pot; rw [if_neg (by omega), if_pos hr2]
  have hlx := hrb.lx
  have hlm := hrb.lm
  have lE : ∀ {y : TRaft}, y.Me = rv.Me → ∀ l ∈ [letterE y m.From], own l = own m ∧ 0 ≤ l.Index := fun {y} hy l hlm => by
   rw [List.mem_singleton.1 hlm, hown]
   refine ⟨?_, by show (0 : Int) ≤ ((atOf _ _ : Nat) : Int); omega⟩
   unfold own
   rw [if_pos (.inr rfl)]
   show (y.Me - 1).toNat = _
   omega
  by_cases ho : m.OK = true
  ·rw [if_pos ho]
   have hfar : farM rv m = max (mtOf rv m.From) (min m.Index (rv.Log.length : Int)) := rfl
   have hn : ∀ to, 1 ≤ to → nextOf (farR rv m) to = (if m.From = to then farM rv m + 1 else nextOf rv to) ∧ mtOf (farR rv m) to = (if m.From = to then farM rv m else mtOf rv to) := fun to h1 => lag_set (a := farM rv m + 1) (b := farM rv m) hrb ⟨o1, o2⟩ h1
   have hlag : ∀ to ∈ others rv, lag (farR rv m) to ≤ lag rv to := fun to hto => by
    have h1 := ((others_mem hrb).1 hto).1
    obtain ⟨e1, e2⟩ := hn to h1
    unfold lag
    rw [e1, e2]
    split <;> omega
   have hpy : pot L (farR rv m) = ((others rv).map (lag (farR rv m))).sum := by
    have e : (farR rv m).Role = rv.Role := rfl
    unfold pot
    rw [if_neg (by rw [e]; omega), if_pos (by rw [e]; exact hr2)]; rfl
   have hpl : pot L (farR rv m) ≤ pot L rv := by rw [hpy, hpr]; exact sum_le _ hlag
   have hmono : ∀ l, 0 ≤ l.Index → wl L (farR rv m) l ≤ wl L rv l := fun l hli => wl_same (r := rv) (y := farR rv m) rfl rfl rfl hl (fun to => by
    by_cases hx : m.From = to
    ·subst hx
     rw [(hn m.From o1).2, if_pos rfl, hfar]; omega
    ·show mtOf rv to ≤ (rv.Match.set (m.From - 1).toNat (farM rv m)).getD (to - 1).toNat 0
     rw [getD_set (by omega)]
     split
     ·rename_i e
      unfold mtOf
      rw [← e]
      rw [hfar]
      unfold mtOf
      omega
     ·exact Int.le_refl _) l hli
   refine ⟨hmono, fun l hlm => ?_, fun l hlm => ?_, hpl, fun _ => ?_, fun g => absurd (.inr k4) g, fun g => absurd (.inr k4) g, fun k => by have : rv.Role = 1 := k; omega, .inl (by show (rv.Log.length : Int) ≤ _; omega), fun l hlm _ => ?_⟩
   ·dsimp only at hlm; split at hlm
    ·exact (lE (y := farR rv m) rfl l hlm).1
    ·cases hlm
   ·dsimp only at hlm; split at hlm
    ·exact (lE (y := farR rv m) rfl l hlm).2
    ·cases hlm
   ·rw [hW, if_pos ho]
    dsimp only
    have hcp := c4_pos ((rv.Log.length : Int) - m.Index)
    split
    ·rename_i hgt
     have hat : ((atOf (farR rv m) m.From : Nat) : Int) = farM rv m := by
      have e1 := (hn m.From o1).1
      rw [if_pos rfl] at e1
      unfold atOf
      rw [e1]
      show ((min (farM rv m + 1 - 1).toNat rv.Log.length : Nat) : Int) = _
      omega
     have hwl := wl_safe (L := L) (y := farR rv m) (to := m.From) hr2 (by rw [hat, (hn m.From o1).2, if_pos rfl]; exact Int.le_refl _)
     rw [hat, show (farR rv m).Log.length = rv.Log.length from rfl] at hwl
     have h4 := c4_four (x := (rv.Log.length : Int) - farM rv m) (by omega)
     have h5 := c4_mono (show (rv.Log.length : Int) - farM rv m ≤ (rv.Log.length : Int) - m.Index by omega)
     rw [show (rv.Log.length : Int) - farM rv m - min 4 ((rv.Log.length : Int) - farM rv m) = (rv.Log.length : Int) - (farM rv m + min 4 ((rv.Log.length : Int) - farM rv m)) by omega] at h4
     simp only [List.map_cons, List.map_nil, List.sum_cons, List.sum_nil]
     rw [hwl]; omega
    ·simp only [List.map_nil, List.sum_nil]; omega
   ·dsimp only at hlm; split at hlm
    ·rw [List.mem_singleton.1 hlm]; exact letterE_end _ _
    ·cases hlm
  ·rw [if_neg ho]
   have hn : ∀ to, 1 ≤ to → nextOf (backR rv m) to = (if m.From = to then backN rv m else nextOf rv to) := fun to h1 => (lag_set (a := backN rv m) (b := 0) hrb ⟨o1, o2⟩ h1).1
   have hbk : backN rv m = max (max (min (nextOf rv m.From - 1) (m.Index + 1)) (mtOf rv m.From + 1)) 1 := rfl
   have hmt : ∀ to, mtOf (backR rv m) to = mtOf rv to := fun to => rfl
   have hlag : ∀ to ∈ others rv, lag (backR rv m) to ≤ lag rv to := fun to hto => by
    have h1 := ((others_mem hrb).1 hto).1
    unfold lag
    rw [hn to h1, hmt]
    split
    ·rename_i e; subst e; rw [hbk]; omega
    ·exact Int.le_refl _
   have hpy : pot L (backR rv m) = ((others rv).map (lag (backR rv m))).sum := by
    have e : (backR rv m).Role = rv.Role := rfl
    unfold pot
    rw [if_neg (by rw [e]; omega), if_pos (by rw [e]; exact hr2)]; rfl
   have hmono : ∀ l, 0 ≤ l.Index → wl L (backR rv m) l ≤ wl L rv l := fun l hli => wl_same (r := rv) (y := backR rv m) rfl rfl rfl hl (fun to => Int.le_refl _) l hli
   refine ⟨hmono, fun l hlm => (lE (y := backR rv m) rfl l hlm).1, fun l hlm => (lE (y := backR rv m) rfl l hlm).2, by rw [hpy, hpr]; exact sum_le _ hlag, fun _ => ?_, fun g => absurd (.inr k4) g, fun g => absurd (.inr k4) g, fun k => by have : rv.Role = 1 := k; omega, .inl (by show (rv.Log.length : Int) ≤ _; omega), fun l hlm _ => by rw [List.mem_singleton.1 hlm]; exact letterE_end _ _⟩
   rw [hW, if_neg ho, hpy, hpr]
   dsimp only
   simp only [List.map_cons, List.map_nil, List.sum_cons, List.sum_nil]
   have hup := wl_app (L := L) (r := backR rv m) (m := letterE (backR rv m) m.From) rfl hl (lE (y := backR rv m) rfl _ (by simp)).2
   by_cases cn : nextOf rv m.From ≤ mtOf rv m.From + 1
   ·-- it goes on from what was acknowledged
    have hs := sum_le (f := lag (backR rv m)) (g := lag rv) _ hlag
    have hbn : backN rv m = mtOf rv m.From + 1 := by rw [hbk]; omega
    have hat : ((atOf (backR rv m) m.From : Nat) : Int) = mtOf rv m.From := by
     have e1 := hn m.From o1
     rw [if_pos rfl, hbn] at e1
     unfold atOf
     rw [e1]
     show ((min (mtOf rv m.From + 1 - 1).toNat rv.Log.length : Nat) : Int) = _
     omega
    have hwl := wl_safe (L := L) (y := backR rv m) (to := m.From) hr2 (by rw [hat]; exact Int.le_refl _)
    rw [hat, show (backR rv m).Log.length = rv.Log.length from rfl] at hwl
    have h6 := c4_mono (show (rv.Log.length : Int) - (mtOf rv m.From + min 4 ((rv.Log.length : Int) - mtOf rv m.From)) ≤ L by omega)
    have hWW : WW L = 2 + 2 * c4 L := rfl
    omega
   ·have hs := sum_lt (f := lag (backR rv m)) (g := lag rv) (a := m.From) (c := 2) (by decide) _ hlag hmem (by
     unfold lag
     rw [hn m.From o1, if_pos rfl, hmt, hbk]; omega)
    omega
end
end Go.Proofs.Ythpokjkbcdfhiaa.Told.RA
