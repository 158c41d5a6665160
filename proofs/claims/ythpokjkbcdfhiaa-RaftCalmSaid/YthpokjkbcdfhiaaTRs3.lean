/- A run of a group, piece by piece: yielding, voting, standing, leading, proposing. -/
import Derived.Test.YthpokjkbcdfhiaaTRs2
namespace Go.Proofs.Ythpokjkbcdfhiaa.Told.RA
open Go Go.Proofs.Ythpokjkbcdfhiaa.Vam Go.Proofs.Ythpokjkbcdfhiaa.Told Go.Proofs.Ythpokjkbcdfhiaa.Told.HP
set_option linter.unusedSimpArgs false
set_option linter.unusedVariables false
theorem termAt_last (l : List TEntry) : termAt l (l.length : Int) = lastT l := by
 unfold termAt
 rcases Nat.eq_zero_or_pos l.length with h | h
 ·rw [if_neg (by omega), lastT_nil h]
 ·obtain ⟨e, he, ht⟩ := last_ex h
  rw [if_pos (by omega), ht, show ((l.length : Int) - 1).toNat = l.length - 1 by omega, he]
theorem newer_up {l Y : List TEntry} (h : newerB l (Y.length : Int) (lastT Y) = true) : Up Y l := by
 unfold newerB at h
 rw [termAt_last] at h
 simp only [Bool.or_eq_true, Bool.and_eq_true, decide_eq_true_eq, beq_iff_eq] at h
 rcases h with h | ⟨h1, h2⟩
 ·exact .inl h
 ·exact .inr ⟨h1.symm, by omega⟩
theorem Up.refl (l : List TEntry) : Up l l := .inr ⟨rfl, Nat.le_refl _⟩
theorem Keeps.none {G : Gh} {v : Nat} {Y : List TEntry} {t hi : Int} (h : G.A t v = 0) : Keeps G v Y t hi := fun k hk => by
 have : k = 0 := by omega
 subst this
 exact .inl (by simp)
section
variable {n i : Nat} {R : Nat → TRaft} {G : Gh}
theorem snap_up (I : Inv n R G) (hi : i < n) {s : Int} (hs : (R i).Term ≤ s) : ∀ t, t ≤ s → Keeps G i (R i).Log t s := fun t ht => by
 rcases Int.lt_or_le (R i).Term t with h | h
 ·refine Keeps.none ?_
  rcases Nat.eq_zero_or_pos (G.A t i) with e | e
  ·exact e
  ·have := (I.w.a t i e).2.1
   unfold tm at this; omega
 ·exact ((I.r i hi).snap t h).mono I.w (Le.refl (tm R) G) rfl hs
theorem none_later (I : Inv n R G) {t : Int} (h : (R i).Term < t) : G.V t i = none := by
 cases e : G.V t i with
 | none => rfl
 | some y =>
  obtain ⟨c, X⟩ := y
  have := (I.w.v _ _ _ _ e).tv
  unfold tm at this; omega
theorem yield_inv (I : Inv n R G) (hi : i < n) {t : Int} (ht : (R i).Term < t) (hb : t ≤ 1152921504606846976) : Inv n (upd R i (yieldR (R i) t)) G ∧ Le (tm R) (tm (upd R i (yieldR (R i) t))) G G := by
 have r := I.r i hi
 have h0 := r.may.term
 have hle : (R i).Term ≤ (yieldR (R i) t).Term := by show (R i).Term ≤ t; omega
 refine ⟨I.quiet hi hle ?_, Le.same G hle⟩
 exact { me := r.me, nodes := r.nodes, may := yieldR_may r.may (by omega), bs := yieldR_bs r.bs (by omega) hb, smt := r.smt
         v2 := fun k => absurd rfl k
         v3 := fun _ => none_later I ht
         log := r.log
         snap := snap_up I hi (by omega)
         s1 := fun k => by have : (0 : Int) = 1 := k; omega
         s2 := fun k => by have : (0 : Int) = 1 := k; omega
         l2 := fun k => by have : (0 : Int) = 2 := k; omega
         mt := fun k => by have : (0 : Int) = 2 := k; omega
         c1 := r.c1.mono (Le.refl (tm R) G) hle }
def Gh.vote (G : Gh) (t : Int) (i c : Nat) (X : List TEntry) : Gh := { G with V := fun u v => if u = t ∧ v = i then some (c, X) else G.V u v }
theorem vote_le {T T' : Nat → Int} {t : Int} {c : Nat} {X : List TEntry} (hT : ∀ v, T v ≤ T' v) (h : G.V t i = none) : Le T T' G (G.vote t i c X) where
 t := hT
 v u v y e := by
  show (if u = t ∧ v = i then some (c, X) else G.V u v) = some y
  rw [if_neg]
  ·exact e
  ·rintro ⟨rfl, rfl⟩; rw [h] at e; cases e
 s _ _ _ := rfl
 l t x e := ⟨x, e, rfl, rfl, rfl, List.prefix_refl _⟩
 a _ _ := Nat.le_refl _
theorem vote_lei {T : Nat → Int} {t : Int} {c : Nat} {X : List TEntry} : LeI i T G (G.vote t i c X) where
 v u v hv := by show (if u = t ∧ v = i then some (c, X) else G.V u v) = G.V u v; rw [if_neg (fun g => hv g.2)]
 l _ _ e _ := e
 a _ _ _ := rfl
 f _ _ := rfl
theorem vote_new {t : Int} {c : Nat} {X : List TEntry} : (G.vote t i c X).V t i = some (c, X) := by
 show (if t = t ∧ i = i then some (c, X) else G.V t i) = _
 rw [if_pos ⟨rfl, rfl⟩]
theorem vote_wg {T T' : Nat → Int} {t : Int} {c : Nat} {X : List TEntry} (W : WG n T G) (hT : ∀ v, T v ≤ T' v) (h : G.V t i = none) (hw : WV n T' (G.vote t i c X) t i c X) : WG n T' (G.vote t i c X) where
 v u v d Y e := by
  by_cases hc : u = t ∧ v = i
  ·obtain ⟨rfl, rfl⟩ := hc
   rw [vote_new] at e
   cases e; exact hw
  ·have e' : G.V u v = some (d, Y) := by
    have : (if u = t ∧ v = i then some (c, X) else G.V u v) = some (d, Y) := e
    rw [if_neg hc] at this; exact this
   exact (W.v u v d Y e').mono W (vote_le hT h) vote_lei
 s t c := W.s t c
 l t x e := (W.l t x e).mono W (vote_le hT h) vote_lei
 a t v e := let ⟨a, b, c⟩ := W.a t v e; ⟨a, Int.le_trans b (hT v), c⟩
theorem reply_mi {T : Nat → Int} {r : TRaft} {to : Int} {kind ix : Int} {ok : Bool} (hr : RI n G i r) (hi : i < n) (hT : T i = r.Term) (hto : 1 ≤ to ∧ to ≤ n) (hx : 0 ≤ ix ∧ ix ≤ 1000) (h1 : kind = 2 ∨ kind = 4) (k2 : kind = 2 → ok = true → ∃ X, G.V r.Term i = some ((to - 1).toNat, X)) (k4 : kind = 4 → ok = true → ix ≤ (G.A r.Term i : Int)) : MI n T G (ltr kind r.Me to r.Term ix 0 0 ok []) := by
 have hme := hr.me
 have ht := hr.may.term
 have hb := hr.bs.term
 have he : (r.Me - 1).toNat = i := by omega
 exact { frm := ⟨by show 1 ≤ r.Me; omega, by show r.Me ≤ n; omega⟩, to := hto
         term := ⟨ht, by show r.Term ≤ T (r.Me - 1).toNat; rw [he, hT]; exact Int.le_refl _⟩
         lb := ⟨hb, ⟨by show -1152921504606846976 ≤ ix; omega, by show ix ≤ 1152921504606846976; omega⟩, Nat.zero_le _, fun e h => by cases h⟩
         index := hx.1
         smt := fun e h => by cases h
         es := Nat.zero_le _
         k1 := fun k => by have : kind = 1 := k; omega
         k2 := fun k o => by show ∃ X, G.V r.Term (r.Me - 1).toNat = some ((to - 1).toNat, X); rw [he]; exact k2 k o
         k3 := fun k => by have : kind = 3 := k; omega
         k4 := fun k o => by show ix ≤ (G.A r.Term (r.Me - 1).toNat : Int); rw [he]; exact k4 k o }
theorem tm_i (R : Nat → TRaft) (i : Nat) (x : TRaft) : tm (upd R i x) i = x.Term := by unfold tm; rw [upd_i]
def Out (n i : Nat) (R : Nat → TRaft) (G : Gh) (y : TRaft × List TMsg) : Prop := ∃ G', Inv n (upd R i y.1) G' ∧ Le (tm R) (tm (upd R i y.1)) G G' ∧ LeI i (tm R) G G' ∧ (∀ t x, G'.L t = some x → (∃ z, G.L t = some z) ∨ (y.1.Role = 2 ∧ y.1.Term = t)) ∧ ∀ m ∈ y.2, MI n (tm (upd R i y.1)) G' m
theorem out_same (I : Inv n R G) : Out n i R G (R i, []) := ⟨G, by show Inv n (upd R i (R i)) G; rw [upd_self]; exact I, by show Le (tm R) (tm (upd R i (R i))) G G; rw [upd_self]; exact Le.refl _ _, LeI.same _ _ _, fun t x h => .inl ⟨x, h⟩, fun m hm => by cases hm⟩
theorem out_reply (I : Inv n R G) (hi : i < n) {l : TMsg} (hl : MI n (tm R) G l) : Out n i R G (R i, [l]) :=
 ⟨G, by show Inv n (upd R i (R i)) G; rw [upd_self]; exact I, by show Le (tm R) (tm (upd R i (R i))) G G; rw [upd_self]; exact Le.refl _ _, LeI.same _ _ _, fun t x h => .inl ⟨x, h⟩, fun m hm => by rw [List.mem_singleton.1 hm]; show MI n (tm (upd R i (R i))) G l; rw [upd_self]; exact hl⟩
theorem askVote_inv (I : Inv n R G) (hi : i < n) {m : TMsg} (hm : MI n (tm R) G m) (hk : m.Kind = 1) (hne : m.From ≠ (R i).Me) : Out n i R G (askVoteP (R i) m) := by
 have r := I.r i hi
 have hme := r.me
 have hf := hm.frm
 unfold askVoteP
 cases hg : grantB (R i) m
 ·exact out_reply I hi (reply_mi r hi rfl hf (by omega) (.inl rfl) (fun _ o => by cases o) (fun k => by cases k))
 ·unfold grantB at hg
  simp only [Bool.and_eq_true, Bool.or_eq_true, beq_iff_eq] at hg
  obtain ⟨hT, hv, hn⟩ := hg
  obtain ⟨k1, k2, k3⟩ := hm.k1 hk
  rw [k1, k2] at hn
  have hup := newer_up hn
  rw [hT] at hup
  have hcm := hm.term.2
  rw [hT] at hcm
  have hfi : ((m.From - 1).toNat : Int) + 1 = m.From := by omega
  have mkRI : ∀ G', Le (tm R) (tm (upd R i (voteR (R i) m.From))) G G' → (∃ X, G'.V (R i).Term i = some ((m.From - 1).toNat, X)) → G'.L = G.L → G'.A = G.A → (∀ t v, v ≠ i → G'.V t v = G.V t v) → ((R i).Role = 1 → G'.V (R i).Term i = G.V (R i).Term i) → RI n G' i (voteR (R i) m.From) := by
   intro G' hle hV hL hA hVn hVi
   exact { me := r.me, nodes := r.nodes, may := voteR_may r.may (by rw [r.nodes]; omega), bs := ⟨r.bs.nodes, r.bs.me, r.bs.lv, r.bs.lx, r.bs.lm, r.bs.len, r.bs.sm, r.bs.term, r.bs.xs, r.bs.ms, ⟨Int.le_refl _, by show (0 : Int) ≤ _; omega⟩⟩, smt := r.smt
           v2 := fun _ => hV
           v3 := fun k => by have : m.From = 0 := k; omega
           log := r.log.mono hle
           snap := fun t ht => (r.snap t ht).mono I.w hle (by rw [hA]) (Int.le_refl _)
           s1 := fun k => by
             obtain ⟨a, b, c⟩ := r.s1 k
             exact ⟨by rw [hle.s _ _ (by unfold tm; exact Int.le_refl _)]; exact a, (hVi k).trans b, by rw [hL]; exact c⟩
           s2 := fun k v hv => by
             obtain ⟨X, e⟩ := r.s2 k v hv
             exact ⟨X, hle.v _ _ _ e⟩
           l2 := by rw [hL]; exact r.l2
           mt := by rw [hA]; exact r.mt
           c1 := r.c1.mono hle (Int.le_refl _) }
  have hterm : (R i).Term ≤ (voteR (R i) m.From).Term := Int.le_refl _
  by_cases h0 : (R i).Vote = 0
  ·-- a new vote
   have hno := r.v3 h0
   have hle : Le (tm R) (tm (upd R i (voteR (R i) m.From))) G (G.vote (R i).Term i (m.From - 1).toNat (R i).Log) := vote_le (tm_le hterm) hno
   have hnr : (R i).Role ≠ 1 := fun k => by have := (r.s1 k).2.1; rw [hno] at this; cases this
   have ri := mkRI _ hle ⟨_, vote_new⟩ rfl rfl (fun t v hv => vote_lei.v (T := tm R) t v hv) (fun k => absurd k hnr)
   have inv : Inv n (upd R i (voteR (R i) m.From)) (G.vote (R i).Term i (m.From - 1).toNat (R i).Log) := by
    refine I.step hi hle vote_lei (vote_wg I.w (tm_le hterm) hno ?_) ri
    exact { hv := hi, hc := by omega, tv := by rw [tm_i]; exact Int.le_refl _, tc := Int.le_trans hcm (tm_le hterm _), t1 := by omega
            up := hup, log := r.log.mono hle
            keep := fun u hu => (r.snap u (by omega)).mono I.w hle rfl (Int.le_refl _) }
   refine ⟨_, inv, hle, vote_lei, fun t x h => .inl ⟨x, h⟩, fun l hl => ?_⟩
   rw [List.mem_singleton.1 hl]
   exact reply_mi (r := voteR (R i) m.From) (kind := 2) ri hi (tm_i _ _ _) hf (by omega) (.inl rfl) (fun _ _ => ⟨_, vote_new⟩) (fun k => by cases k)
  ·-- the same once more
   have hve : (R i).Vote = m.From := hv.resolve_left h0
   obtain ⟨X, hX⟩ := r.v2 h0
   rw [hve] at hX
   have ri := mkRI G (Le.same G hterm) ⟨X, hX⟩ rfl rfl (fun _ _ _ => rfl) (fun _ => rfl)
   have inv := I.quiet hi hterm ri
   refine ⟨G, inv, Le.same G hterm, LeI.same _ _ _, fun t x h => .inl ⟨x, h⟩, fun l hl => ?_⟩
   rw [List.mem_singleton.1 hl]
   exact reply_mi (r := voteR (R i) m.From) (kind := 2) ri hi (tm_i _ _ _) hf (by omega) (.inl rfl) (fun _ _ => ⟨X, hX⟩) (fun k => by cases k)
def Gh.stand (G : Gh) (t : Int) (i : Nat) (X : List TEntry) : Gh := { G with V := fun u v => if u = t ∧ v = i then some (i, X) else G.V u v, S := fun u c => if u = t ∧ c = i then X else G.S u c }
theorem stand_inv (I : Inv n R G) (hi : i < n) (hT : (R i).Term < 1152921504606846976) : ∃ G', Inv n (upd R i (stand1 (R i))) G' ∧ Le (tm R) (tm (upd R i (stand1 (R i)))) G G' ∧ LeI i (tm R) G G' ∧ G'.L = G.L := by
 have r := I.r i hi
 have h0 := r.may.term
 have hme := r.me
 have hterm : (R i).Term ≤ (stand1 (R i)).Term := by show (R i).Term ≤ (R i).Term + 1; omega
 have hno : G.V ((R i).Term + 1) i = none := none_later I (by omega)
 let G' := G.stand ((R i).Term + 1) i (R i).Log
 have hVn : G'.V ((R i).Term + 1) i = some (i, (R i).Log) := by show (if _ then _ else _) = _; rw [if_pos ⟨rfl, rfl⟩]
 have hSn : G'.S ((R i).Term + 1) i = (R i).Log := by show (if _ then _ else _) = _; rw [if_pos ⟨rfl, rfl⟩]
 have hle : Le (tm R) (tm (upd R i (stand1 (R i)))) G G' := {
  t := tm_le hterm
  v := fun u v y e => by
   show (if u = (R i).Term + 1 ∧ v = i then _ else G.V u v) = some y
   rw [if_neg]
   ·exact e
   ·rintro ⟨rfl, rfl⟩; rw [hno] at e; cases e
  s := fun u c hu => by
   show (if u = (R i).Term + 1 ∧ c = i then _ else G.S u c) = _
   rw [if_neg]
   rintro ⟨rfl, rfl⟩
   unfold tm at hu; omega
  l := fun t x e => ⟨x, e, rfl, rfl, rfl, List.prefix_refl _⟩
  a := fun _ _ => Nat.le_refl _ }
 have hlei : LeI i (tm R) G G' := {
  v := fun u v hv => by show (if u = (R i).Term + 1 ∧ v = i then _ else G.V u v) = _; rw [if_neg (fun g => hv g.2)]
  l := fun _ _ e _ => e
  a := fun _ _ _ => rfl
  f := fun _ _ => rfl }
 have hlog : LogP G' (R i).Log := r.log.mono hle
 have hsn := snap_up I hi (s := (R i).Term + 1) (by omega)
 have hterms : ∀ e ∈ (R i).Log, e.Term < (R i).Term + 1 := fun e he => by have := (r.may.rise.all e he).2; omega
 refine ⟨G', I.step hi hle hlei ?_ ?_, hle, hlei, rfl⟩
 ·exact { v := fun u v c X e => by
            by_cases hc : u = (R i).Term + 1 ∧ v = i
            · obtain ⟨rfl, rfl⟩ := hc
              rw [hVn] at e
              cases e
              exact { hv := hi, hc := hi, tv := by rw [tm_i]; exact Int.le_refl _, tc := by rw [tm_i]; exact Int.le_refl _, t1 := by omega
                      up := by rw [hSn]; exact Up.refl _
                      log := hlog
                      keep := fun w hw => (hsn w (by omega)).mono I.w hle rfl (Int.le_refl _) }
            · have e' : G.V u v = some (c, X) := by
                have : (if u = (R i).Term + 1 ∧ v = i then _ else G.V u v) = some (c, X) := e
                rw [if_neg hc] at this; exact this
              exact (I.w.v u v c X e').mono I.w hle hlei
          s := fun u c => by
            by_cases hc : u = (R i).Term + 1 ∧ c = i
            · obtain ⟨rfl, rfl⟩ := hc
              rw [hSn]; exact ⟨hlog, hterms⟩
            · have e' : G'.S u c = G.S u c := by show (if _ then _ else _) = _; rw [if_neg hc]
              rw [e']; exact ⟨(I.w.s u c).1.mono hle, (I.w.s u c).2⟩
          l := fun t x e => (I.w.l t x e).mono I.w hle hlei
          a := fun t v e => let ⟨a, b, c⟩ := I.w.a t v e; ⟨a, Int.le_trans b (tm_le hterm v), c⟩ }
 ·exact { me := r.me, nodes := r.nodes, may := stand1_may r.may, bs := stand1_bs r.bs hT, smt := r.smt
          v2 := fun _ => ⟨(R i).Log, by rw [show ((stand1 (R i)).Vote - 1).toNat = i by show ((R i).Me - 1).toNat = i; omega]; exact hVn⟩
          v3 := fun k => by have : (R i).Me = 0 := k; omega
          log := hlog
          snap := fun t ht => (hsn t ht).mono I.w hle rfl (Int.le_refl _)
          s1 := fun _ => ⟨hSn, hVn, fun x hx he => by
            have h1 : (R i).Term + 1 ≤ tm R x.who := (I.w.l _ x hx).tw
            rw [he] at h1
            unfold tm at h1; omega⟩
          s2 := fun _ v hv => by
            have hv' : ((List.replicate (R i).Nodes.toNat false).set ((R i).Me - 1).toNat true)[v]? = some true := hv
            rw [show ((R i).Me - 1).toNat = i by omega, List.getElem?_set] at hv'
            by_cases e : i = v
            · subst e; exact ⟨_, hVn⟩
            · rw [if_neg e, List.getElem?_replicate] at hv'
              split at hv' <;> cases hv'
          l2 := fun k => by have : (1 : Int) = 2 := k; omega
          mt := fun k => by have : (1 : Int) = 2 := k; omega
          c1 := r.c1.mono hle hterm }
def Gh.grow (G : Gh) (t : Int) (i : Nat) (y : Ldr) : Gh := { G with L := fun u => if u = t then some y else G.L u, A := fun u v => if u = t ∧ v = i then y.LL.length else G.A u v }
section
variable {T : Nat → Int} {t : Int} {y : Ldr}
theorem grow_L : (G.grow t i y).L t = some y := by show (if t = t then some y else G.L t) = _; rw [if_pos rfl]
theorem grow_A : (G.grow t i y).A t i = y.LL.length := by show (if t = t ∧ i = i then _ else G.A t i) = _; rw [if_pos ⟨rfl, rfl⟩]
theorem grow_le (W : WG n T G) (h : ∀ x, G.L t = some x → y.who = x.who ∧ y.B = x.B ∧ y.Q = x.Q ∧ x.LL <+: y.LL) : Le T T G (G.grow t i y) where
 t _ := Int.le_refl _
 v _ _ _ e := e
 s _ _ _ := rfl
 l u x e := by
  by_cases hu : u = t
  ·subst hu; exact ⟨y, grow_L, h x e⟩
  ·exact ⟨x, by show (if u = t then some y else G.L u) = some x; rw [if_neg hu]; exact e, rfl, rfl, rfl, List.prefix_refl _⟩
 a u v := by
  show G.A u v ≤ (if u = t ∧ v = i then _ else G.A u v)
  split
  ·rename_i hc
   obtain ⟨rfl, rfl⟩ := hc
   rcases Nat.eq_zero_or_pos (G.A u v) with e | e
   ·omega
   ·obtain ⟨_, _, x, h1, h2⟩ := W.a u v e
    have := (h x h1).2.2.2.length_le
    omega
  ·exact Nat.le_refl _
theorem grow_lei (hT : T i = t) (hy : y.who = i) : LeI i T G (G.grow t i y) where
 v _ _ _ := rfl
 l u z e hz := by
  by_cases hu : u = t
  ·subst hu; rw [grow_L] at e; cases e; exact absurd hy hz
  ·have : (if u = t then some y else G.L u) = some z := e
   rw [if_neg hu] at this; exact this
 a u v hv := by show (if u = t ∧ v = i then _ else G.A u v) = _; rw [if_neg (fun g => hv g.2)]
 f u hu := by show (if u = t ∧ i = i then _ else G.A u i) = _; rw [if_neg (fun g => by omega)]
theorem grow_wg (W : WG n T G) (hi : i < n) (hT : T i = t) (hy : y.who = i) (h : ∀ x, G.L t = some x → y.who = x.who ∧ y.B = x.B ∧ y.Q = x.Q ∧ x.LL <+: y.LL) (wl : WL n T (G.grow t i y) t y) : WG n T (G.grow t i y) where
 v u v c X e := (W.v u v c X e).mono W (grow_le W h) (grow_lei hT hy)
 s u c := ⟨(W.s u c).1.mono (grow_le (i := i) W h), (W.s u c).2⟩
 l u x e := by
  by_cases hu : u = t
  ·subst hu; rw [grow_L] at e; cases e; exact wl
  ·have e' : G.L u = some x := by
    have : (if u = t then some y else G.L u) = some x := e
    rw [if_neg hu] at this; exact this
   exact (W.l u x e').mono W (grow_le W h) (grow_lei hT hy)
 a u v e := by
  by_cases hc : u = t ∧ v = i
  ·obtain ⟨rfl, rfl⟩ := hc
   exact ⟨hi, by omega, y, grow_L, by rw [grow_A]; exact Nat.le_refl _⟩
  ·have e' : (G.grow t i y).A u v = G.A u v := by show (if _ then _ else _) = _; rw [if_neg hc]
   rw [e'] at e ⊢
   obtain ⟨a, b, x, h1, h2⟩ := W.a u v e
   obtain ⟨z, k1, _, _, _, k5⟩ := (grow_le (i := i) W h).l u x h1
   exact ⟨a, b, z, k1, Nat.le_trans h2 k5.length_le⟩
theorem LogP.more {X : List TEntry} {e : TEntry} (h : LogP G X) (hl : Le T T G (G.grow t i y)) (hy : y.LL = X ++ [e]) (he : e.Term = t) : LogP (G.grow t i y) y.LL := fun k f hk => by
 rw [hy] at hk ⊢
 rcases Nat.lt_or_ge k X.length with hlt | hge
 ·rw [List.getElem?_append_left hlt] at hk
  obtain ⟨x, h1, h2⟩ := h.mono hl k f hk
  exact ⟨x, h1, by rw [List.take_append_of_le_length (by omega)]; exact h2⟩
 ·have hk' : k = X.length := by
   have := (List.getElem?_eq_some_iff.1 hk).1
   simp at this; omega
  subst hk'
  rw [List.getElem?_append_right (Nat.le_refl _), Nat.sub_self] at hk
  simp at hk
  subst hk
  exact ⟨y, by rw [he]; exact grow_L, by rw [hy]; exact List.take_prefix _ _⟩
end
theorem nextC_dec {G' : Gh} {t c : Int} {m : List Int} {l : List TEntry} {y : Ldr} (hL : G'.L t = some y) (hy : y.LL = l) (hm : m.length = n) (hn : 1 ≤ n) (h900 : n ≤ 900) (h0 : ∀ a ∈ m, 0 ≤ a) (ht1 : 1 ≤ t) (hA : ∀ (v : Nat) (a : Int), m[v]? = some a → a ≤ (G'.A t v : Int)) (hc : Dec n G' t (l.take c.toNat)) : Dec n G' t (l.take (nextC m l t c).toNat) := by
 unfold nextC
 split
 ·rename_i h
  obtain ⟨h1, h2, h3⟩ := h
  obtain ⟨_, hM⟩ := most_f (fu := 1000) (l := m) (by omega) h0 (by omega)
  rcases hM with ⟨hnil, _⟩ | ⟨hin, hge, _⟩
  ·rw [hnil] at hm; simp at hm; omega
  ·have hpos := h0 _ hin
   obtain ⟨k, hk⟩ : ∃ k : Nat, mostF m = (k : Int) := ⟨(mostF m).toNat, by omega⟩
   rw [hk] at h2 h3 hge ⊢
   have hk1 : 1 ≤ k := by
    rcases Nat.eq_zero_or_pos k with e | e
    ·subst e
     unfold termAt at h3
     rw [if_neg (by decide)] at h3
     omega
    ·exact e
   obtain ⟨e, he, het⟩ := termAt_pos (l := l) (i := (k : Int)) (by omega) h2
   refine .inr ⟨t, k, ⟨y, hL, hk1, by rw [hy]; omega, ⟨e, by rw [hy]; rw [show ((k : Int) - 1).toNat = k - 1 by omega] at he; exact he, by rw [← het]; exact h3⟩, ?_⟩, Int.le_refl _, ?_⟩
   ·rw [hm] at hge
    refine Nat.le_trans hge (cnt_of hm fun v a hv ha => ?_)
    have := hA v a hv
    have ha' : (k : Int) ≤ a := of_decide_eq_true ha
    exact decide_eq_true (by omega)
   ·rw [Gh.ll_of hL, hy, Int.toNat_natCast]; exact List.prefix_refl _
 ·exact hc
theorem letterE_mi (I : Inv n R G) (hi : i < n) (hr : (R i).Role = 2) {to : Int} (hto : 1 ≤ to ∧ to ≤ n) : MI n (tm R) G (letterE (R i) to) := by
 have r := I.r i hi
 have hme := r.me
 have he : ((R i).Me - 1).toNat = i := by omega
 have hl := r.bs.len
 have hat : atOf (R i) to ≤ (R i).Log.length := by unfold atOf; omega
 obtain ⟨x, h1, h2, h3⟩ := r.l2 hr
 have hc := r.may.commit
 exact { frm := ⟨by show 1 ≤ (R i).Me; omega, by show (R i).Me ≤ n; omega⟩, to := hto
         term := ⟨r.may.term, by show (R i).Term ≤ tm R ((R i).Me - 1).toNat; rw [he]; exact Int.le_refl _⟩
         lb := ⟨r.bs.term, ⟨by show -1152921504606846976 ≤ (atOf (R i) to : Int); omega, by show (atOf (R i) to : Int) ≤ 1152921504606846976; omega⟩, by show (((R i).Log.drop _).take 4).length ≤ 200; simp; omega, (r.bs.sm.drop _).take _⟩
         index := by show 0 ≤ (atOf (R i) to : Int); omega
         smt := fun e h => r.smt e (List.mem_of_mem_drop (List.mem_of_mem_take h))
         es := by show (((R i).Log.drop _).take 4).length ≤ 4; simp; omega
         k1 := fun k => by cases k
         k2 := fun k => by cases k
         k3 := fun _ => by
           refine ⟨x, h1, ?_, by rw [h3]; rfl, ?_, hc.1, by rw [h3]; exact hc.2, by rw [h3]; exact r.c1⟩
           · show (atOf (R i) to : Int) + ((((R i).Log.drop (atOf (R i) to)).take 4).length : Int) ≤ (x.LL.length : Int)
             rw [h3, List.length_take, List.length_drop]; omega
           · show ((R i).Log.drop (atOf (R i) to)).take 4 = (x.LL.drop ((atOf (R i) to : Int)).toNat).take ((((R i).Log.drop (atOf (R i) to)).take 4).length)
             rw [h3, Int.toNat_natCast, List.length_take]
             rcases Nat.le_total 4 ((R i).Log.drop (atOf (R i) to)).length with g | g
             · rw [Nat.min_eq_left g]
             · rw [Nat.min_eq_right g, List.take_of_length_le g, List.take_of_length_le (Nat.le_refl _)]
         k4 := fun k => by cases k }
theorem bc_mi {g : TRaft → Int → TMsg} (I : Inv n R G) (hi : i < n) (h : ∀ to : Int, 1 ≤ to ∧ to ≤ n → MI n (tm R) G (g (R i) to)) : ∀ m ∈ bc g (R i), MI n (tm R) G m := fun m hm => by
 have r := I.r i hi
 unfold bc others at hm
 obtain ⟨to, ht, rfl⟩ := List.mem_map.1 hm
 have := oth_mem.1 ht
 have hn := r.nodes
 exact h to (by omega)
end
end Go.Proofs.Ythpokjkbcdfhiaa.Told.RA
