/- A run of a group, piece by piece: entries and answers come. -/
import Derived.Test.YthpokjkbcdfhiaaTRs4
namespace Go.Proofs.Ythpokjkbcdfhiaa.Told.RA
open Go Go.Proofs.Ythpokjkbcdfhiaa.Vam Go.Proofs.Ythpokjkbcdfhiaa.Told Go.Proofs.Ythpokjkbcdfhiaa.Told.HP
set_option linter.unusedSimpArgs false
set_option linter.unusedVariables false
theorem jn3_all : ∀ {s m u : List TEntry}, jn3 s m = some u → (∀ (k : Nat) (x e : TEntry), s[k]? = some x → m[k]? = some e → x.Term = e.Term → x = e) → u = m
 | s, [], u, h, _ => by cases s <;> simp [jn3] at h
 | [], e :: m, u, h, _ => by simp [jn3] at h; exact h.symm
 | x :: s, e :: m, u, h, hx => by
  by_cases hT : x.Term = e.Term
  ·rw [jn3, if_pos hT] at h
   cases h3 : jn3 s m with
   | none => rw [h3] at h; cases h
   | some v =>
    rw [h3] at h
    cases h
    rw [hx 0 x e rfl rfl hT, jn3_all h3 fun k a b ha hb hab => hx (k + 1) a b (by simpa using ha) (by simpa using hb) hab]
  ·rw [jn3, if_neg hT] at h
   cases h; rfl
section
variable {n i : Nat} {R : Nat → TRaft} {G : Gh}
theorem join_ll {X LL es : List TEntry} {ix lt : Int} (hX : LogP G X) (hL : LogP G LL) (h0 : 0 ≤ ix) (hend : ix + (es.length : Int) ≤ (LL.length : Int)) (hes : es = (LL.drop ix.toNat).take es.length) (hlt : lt = termAt LL ix) (hh : hasB X ix lt = true) :
  (joinF X ix es = X ∧ LL.take (ix.toNat + es.length) <+: X) ∨ (joinF X ix es = LL.take (ix.toNat + es.length) ∧ ¬ LL.take (ix.toNat + es.length) <+: X) := by
 obtain ⟨p, rfl⟩ : ∃ p : Nat, ix = (p : Int) := ⟨ix.toNat, by omega⟩
 rw [Int.toNat_natCast] at hes ⊢
 have hpX : p ≤ X.length ∧ X.take p = LL.take p := by
  unfold hasB at hh
  rcases Nat.eq_zero_or_pos p with e | e
  ·subst e; exact ⟨Nat.zero_le _, by simp⟩
  ·rw [beq_eq_false_iff_ne.2 (by omega : (p : Int) ≠ 0), Bool.false_or] at hh
   simp only [Bool.and_eq_true, decide_eq_true_eq, beq_iff_eq] at hh
   obtain ⟨g1, g2, g3⟩ := hh
   obtain ⟨a, ha, hat⟩ := termAt_pos g1 g2
   obtain ⟨b, hb, hbt⟩ := termAt_pos (l := LL) g1 (by omega)
   have hs := hX.same hL ha hb (by rw [← hat, ← hbt, g3, hlt])
   rw [show ((p : Int) - 1).toNat + 1 = p by omega] at hs
   exact ⟨by omega, hs⟩
 have hll : LL.take (p + es.length) = X.take p ++ es := by
  rw [List.take_add, hpX.2, ← hes]
 unfold joinF jn2
 rw [if_pos ⟨h0, by omega⟩, Int.toNat_natCast]
 have hLk : ∀ (k : Nat) (e : TEntry), es[k]? = some e → LL[p + k]? = some e := fun k e he => by
  rw [hes] at he
  have hk : k < es.length := by
   have := (List.getElem?_eq_some_iff.1 he).1
   rw [← hes] at this; exact this
  rw [List.getElem?_take_of_lt hk, List.getElem?_drop] at he
  exact he
 cases h3 : jn3 (X.drop p) es with
 | none =>
  refine .inl ⟨by rw [Option.getD_none, List.take_append_drop], ?_⟩
  have hn := jn3_none.2 h3
  rcases Nat.eq_zero_or_pos es.length with e | e
  ·rw [e, Nat.add_zero, ← hpX.2]; exact List.take_prefix _ _
  ·obtain ⟨f, hf⟩ : ∃ f, es[es.length - 1]? = some f := ⟨_, List.getElem?_eq_getElem (by omega)⟩
   obtain ⟨a, ha, hat⟩ := hn _ f hf
   rw [List.getElem?_drop] at ha
   have hs := hX.same hL ha (hLk _ f hf) hat
   rw [show p + (es.length - 1) + 1 = p + es.length by omega] at hs
   rw [← hs]; exact List.take_prefix _ _
 | some u =>
  have hu : u = es := jn3_all h3 fun k a e ha he hae => by
   rw [List.getElem?_drop] at ha
   have hs := hX.same hL ha (hLk k e he) hae
   have h1 : (X.take (p + k + 1))[p + k]? = some a := by rw [List.getElem?_take_of_lt (by omega)]; exact ha
   have h2 : (LL.take (p + k + 1))[p + k]? = some e := by rw [List.getElem?_take_of_lt (by omega)]; exact hLk k e he
   rw [hs, h2] at h1
   exact (Option.some.inj h1).symm
  refine .inr ⟨by rw [Option.getD_some, hu, hll], fun hpre => ?_⟩
  have : jn3 (X.drop p) es = none := jn3_none.1 fun k e he => by
   have hk := (List.getElem?_eq_some_iff.1 he).1
   have h2 : (LL.take (p + es.length))[p + k]? = some e := by rw [List.getElem?_take_of_lt (by omega)]; exact hLk k e he
   exact ⟨e, by rw [List.getElem?_drop]; exact pre_get hpre h2, rfl⟩
  rw [h3] at this; cases this
theorem foll_inv (I : Inv n R G) (hi : i < n) {v : Int} (hv : 0 ≤ v ∧ v ≤ n) : Inv n (upd R i (follR (R i) v)) G ∧ Le (tm R) (tm (upd R i (follR (R i) v))) G G := by
 have r := I.r i hi
 refine ⟨I.quiet hi (Int.le_refl _) ?_, Le.same G (Int.le_refl _)⟩
 exact { me := r.me, nodes := r.nodes, may := follR_may r.may (by rw [r.nodes]; exact hv)
         bs := ⟨r.bs.nodes, r.bs.me, r.bs.lv, r.bs.lx, r.bs.lm, r.bs.len, r.bs.sm, r.bs.term, r.bs.xs, r.bs.ms, ⟨Int.le_refl _, by show (0 : Int) ≤ _; omega⟩⟩
         smt := r.smt, v2 := r.v2, v3 := r.v3, log := r.log, snap := r.snap
         s1 := fun k => by have : (0 : Int) = 1 := k; omega
         s2 := fun k => by have : (0 : Int) = 1 := k; omega
         l2 := fun k => by have : (0 : Int) = 2 := k; omega
         mt := fun k => by have : (0 : Int) = 2 := k; omega
         c1 := r.c1 }
theorem foll_out (I : Inv n R G) (hi : i < n) {v ix : Int} (hv : 1 ≤ v ∧ v ≤ n) (hx : 0 ≤ ix ∧ ix ≤ 1000) : Out n i R G (follR (R i) v, [repA (R i) v false ix]) := by
 obtain ⟨i1, i2⟩ := foll_inv I hi (v := v) (by omega)
 refine ⟨G, i1, i2, LeI.same _ _ _, fun t x h => .inl ⟨x, h⟩, fun m hm => ?_⟩
 rw [List.mem_singleton.1 hm]
 have r := i1.r i hi
 rw [upd_i] at r
 exact reply_mi (r := follR (R i) v) (kind := 4) r hi (tm_i _ _ _) hv hx (.inr rfl) (fun k => by cases k) (fun _ o => by cases o)
def Gh.ack (G : Gh) (t : Int) (i e : Nat) : Gh := { G with A := fun u v => if u = t ∧ v = i then max (G.A u v) e else G.A u v }
theorem append_inv (I : Inv n R G) (hi : i < n) {m : TMsg} (hm : MI n (tm R) G m) (hk : m.Kind = 3) (hT : m.Term ≤ (R i).Term) : Out n i R G (appendP (R i) m) := by
 have r := I.r i hi
 have hf := hm.frm
 have hl := r.bs.len
 have hix := hm.index
 have hno := r.nodes
 unfold appendP
 by_cases c1 : m.Term < (R i).Term
 ·rw [if_pos c1]
  exact out_reply I hi (reply_mi (kind := 4) r hi rfl hf (by omega) (.inr rfl) (fun k => by cases k) (fun _ o => by cases o))
 rw [if_neg c1]
 by_cases c2 : (R i).Role = 2
 ·rw [if_pos c2]; exact out_same I
 rw [if_neg c2]
 cases hh : hasB (R i).Log m.Index m.LogTerm
 ·rw [if_neg (by decide)]
  exact foll_out I hi hf (by omega)
 rw [if_pos rfl]
 by_cases c3 : (joinF (R i).Log m.Index m.Entries).length > 200
 ·rw [if_pos c3]; exact foll_out I hi hf (by omega)
 rw [if_neg c3]
 have hTe : m.Term = (R i).Term := by omega
 obtain ⟨x, k1, k2, k3, k4, k5, k6, k7⟩ := hm.k3 hk
 rw [hTe] at k1 k7
 have wx := I.w.l _ x k1
 obtain ⟨E, hE⟩ : ∃ E : Nat, m.Index.toNat + m.Entries.length = E := ⟨_, rfl⟩
 have hEi : m.Index + (m.Entries.length : Int) = (E : Int) := by omega
 have hEl : E ≤ x.LL.length := by omega
 have hj := join_ll r.log wx.log hix k2 k4 k3 hh
 rw [hE] at hj
 rw [hEi]
 generalize hJ : joinF (R i).Log m.Index m.Entries = J at hj c3 ⊢
 have hJlen : J.length ≤ 200 := by omega
 have hpre : x.LL.take E <+: J := by
  rcases hj with ⟨h1, h2⟩ | ⟨h1, h2⟩
  ·rw [h1]; exact h2
  ·rw [h1]; exact List.prefix_refl _
 have hEJ : E ≤ J.length := by
  have := hpre.length_le
  rw [List.length_take] at this; omega
 let G' := G.ack (R i).Term i E
 have hAn : G'.A (R i).Term i = max (G.A (R i).Term i) E := by show (if _ then _ else _) = _; rw [if_pos ⟨rfl, rfl⟩]
 have hAo : ∀ u v, ¬ (u = (R i).Term ∧ v = i) → G'.A u v = G.A u v := fun u v h => by show (if _ then _ else _) = _; rw [if_neg h]
 let y : TRaft := tookR (R i) m.From J (max (R i).Commit (min m.Commit (E : Int)))
 have hle : Le (tm R) (tm (upd R i y)) G G' := {
  t := tm_le (Int.le_refl _)
  v := fun _ _ _ h => h
  s := fun _ _ _ => rfl
  l := fun t z e => ⟨z, e, rfl, rfl, rfl, List.prefix_refl _⟩
  a := fun u v => by
   by_cases c : u = (R i).Term ∧ v = i
   ·obtain ⟨rfl, rfl⟩ := c; rw [hAn]; omega
   ·rw [hAo u v c]; exact Nat.le_refl _ }
 have hlei : LeI i (tm R) G G' := {
  v := fun _ _ _ => rfl
  l := fun _ _ e _ => e
  a := fun u v hv => hAo u v (fun g => hv g.2)
  f := fun u hu => hAo u i (fun g => by have : u < (R i).Term := hu; omega) }
 have hc := r.may.commit
 have hcl : (R i).Log.take (R i).Commit.toNat <+: x.LL := I.w.dec_ll r.c1 k1 (Int.le_refl _)
 have hcE : (¬ x.LL.take E <+: (R i).Log) → (R i).Commit ≤ (E : Int) := fun hnp => by
  rcases Int.lt_or_le (E : Int) (R i).Commit with h | h
  ·exfalso
   refine hnp ((pre_of_le (List.take_prefix E x.LL) hcl ?_).trans (List.take_prefix _ _))
   simp; omega
  ·exact h
 have hcJ : (R i).Commit ≤ (J.length : Int) := by
  rcases hj with ⟨h1, _⟩ | ⟨h1, h2⟩
  ·rw [h1]; exact hc.2
  ·have := hcE h2; omega
 have hcT : J.take (R i).Commit.toNat = (R i).Log.take (R i).Commit.toNat := by
  rcases hj with ⟨h1, _⟩ | ⟨h1, h2⟩
  ·rw [h1]
  ·have h5 := hcE h2
   have h6 := take_of_pre hcl
   rw [List.length_take, Nat.min_eq_left (by omega)] at h6
   rw [h1, List.take_take, Nat.min_eq_left (by omega), h6]
 have hJr : Rise 1 (R i).Term J := by
  rcases hj with ⟨h1, _⟩ | ⟨h1, _⟩
  ·rw [h1]; exact r.may.rise
  ·rw [h1]; exact wx.rise.take _
 have hJlog : LogP G' J := by
  rcases hj with ⟨h1, _⟩ | ⟨h1, _⟩
  ·rw [h1]; exact r.log.mono hle
  ·rw [h1]; exact (wx.log.take _).mono hle
 have hJsmt : ∀ e ∈ J, Smt e := by
  rcases hj with ⟨h1, _⟩ | ⟨h1, _⟩
  ·rw [h1]; exact r.smt
  ·rw [h1]; exact fun e he => wx.smt e (List.mem_of_mem_take he)
 have hll : ∀ u, G'.ll u = G.ll u := fun u => rfl
 -- what was had stays had
 have hsnap : ∀ u, u ≤ (R i).Term → Keeps G' i J u (R i).Term := by
  intro u hu k hkA
  rcases Int.lt_or_eq_of_le hu with h | h
  ·rw [hAo u i (fun g => by omega)] at hkA
   rcases r.snap u hu k hkA with g | g
   ·rcases hj with ⟨h1, _⟩ | ⟨h1, h2⟩
    ·exact .inl (by rw [h1]; exact g)
    ·by_cases hb : (G.ll u).take k <+: x.B
     ·have hb' := hb.trans wx.pre
      refine .inl ?_
      rw [h1]
      rcases Nat.le_total ((G.ll u).take k).length (x.LL.take E).length with hlen | hlen
      ·exact pre_of_le hb' (List.take_prefix _ _) hlen
      ·exact absurd ((pre_of_le (List.take_prefix _ _) hb' hlen).trans g) h2
     ·exact .inr ⟨(R i).Term, x, h, Int.le_refl _, k1, hb⟩
   ·exact .inr g
  ·subst h
   rw [hAn] at hkA
   rw [hll, Gh.ll_of k1]
   rcases Nat.le_total k E with h | h
   ·exact .inl ((take_pre_take h).trans hpre)
   ·rcases Nat.lt_or_ge (G.A (R i).Term i) k with h' | h'
    ·have : k = E := by omega
     subst this
     exact .inl hpre
    ·rcases r.snap _ hu k h' with g | ⟨t2, z, q1, q2, _⟩
     ·rw [Gh.ll_of k1] at g
      rcases hj with ⟨h1, _⟩ | ⟨h1, h2⟩
      ·exact .inl (by rw [h1]; exact g)
      ·exact absurd ((take_pre_take h).trans g) h2
     ·omega
 have hdec : Dec n G' (R i).Term (J.take (max (R i).Commit (min m.Commit (E : Int))).toNat) := by
  rcases Int.le_total (min m.Commit (E : Int)) (R i).Commit with h | h
  ·rw [Int.max_eq_left h, hcT]
   exact r.c1.mono hle (Int.le_refl _)
  ·rw [Int.max_eq_right h]
   have hmin : (min m.Commit (E : Int)).toNat ≤ E := by omega
   have e1 : J.take (min m.Commit (E : Int)).toNat = x.LL.take (min m.Commit (E : Int)).toNat := by
    have := take_of_pre hpre
    rw [List.length_take, Nat.min_eq_left hEl] at this
    have h7 := congrArg (List.take (min m.Commit (E : Int)).toNat) this
    rw [List.take_take, List.take_take, Nat.min_eq_left hmin] at h7
    exact h7.symm
   rw [e1]
   exact (k7.front (take_pre_take (by omega))).mono hle (Int.le_refl _)
 have wg : WG n (tm (upd R i y)) G' := {
  v := fun u v c X e => (I.w.v u v c X e).mono I.w hle hlei
  s := fun u c => ⟨(I.w.s u c).1.mono hle, (I.w.s u c).2⟩
  l := fun u z e => (I.w.l u z e).mono I.w hle hlei
  a := fun u v e => by
   by_cases c : u = (R i).Term ∧ v = i
   ·obtain ⟨rfl, rfl⟩ := c
    refine ⟨hi, by rw [tm_i]; exact Int.le_refl _, x, k1, ?_⟩
    rw [hAn]
    have := I.w.a_ll (R v).Term v
    rw [Gh.ll_of k1] at this
    omega
   ·rw [hAo u v c] at e ⊢
    obtain ⟨a, b, z, d1, d2⟩ := I.w.a u v e
    exact ⟨a, Int.le_trans b (hle.t v), z, d1, d2⟩ }
 have ri : RI n G' i y := {
  me := r.me, nodes := r.nodes
  may := tookR_may r.may (by rw [r.nodes]; omega) hJlen ⟨by omega, by omega⟩ hJr
  bs := ⟨r.bs.nodes, r.bs.me, r.bs.lv, r.bs.lx, r.bs.lm, hJlen, fun e he => by have := hJsmt e he; unfold Smt at this; omega, r.bs.term, r.bs.xs, r.bs.ms, ⟨Int.le_refl _, by show (0 : Int) ≤ _; omega⟩⟩
  smt := hJsmt, v2 := r.v2, v3 := r.v3, log := hJlog, snap := hsnap
  s1 := fun k => by have : (0 : Int) = 1 := k; omega
  s2 := fun k => by have : (0 : Int) = 1 := k; omega
  l2 := fun k => by have : (0 : Int) = 2 := k; omega
  mt := fun k => by have : (0 : Int) = 2 := k; omega
  c1 := hdec }
 refine ⟨G', I.step hi hle hlei wg ri, hle, hlei, fun t x h => .inl ⟨x, h⟩, fun l hlm => ?_⟩
 rw [List.mem_singleton.1 hlm]
 exact reply_mi (r := y) (kind := 4) ri hi (tm_i _ _ _) hf (by omega) (.inr rfl) (fun k => by cases k) (fun _ _ => by
  show (E : Int) ≤ (G'.A (R i).Term i : Int)
  rw [hAn]; omega)
theorem appended_inv (I : Inv n R G) (hi : i < n) {m : TMsg} (hm : MI n (tm R) G m) (hk : m.Kind = 4) (hT : m.Term ≤ (R i).Term) : Out n i R G (appendedP (R i) m) := by
 have r := I.r i hi
 have hf := hm.frm
 have hno := r.nodes
 have hf2 : m.From ≤ (R i).Nodes := by omega
 unfold appendedP
 by_cases c1 : m.Term < (R i).Term ∨ (R i).Role ≠ 2
 ·rw [if_pos c1]; exact out_same I
 rw [if_neg c1]
 have hr : (R i).Role = 2 := Decidable.not_not.1 fun g => c1 (.inr g)
 have hTe : m.Term = (R i).Term := by
  rcases Int.lt_or_eq_of_le hT with g | g
  ·exact absurd (.inl g) c1
  ·exact g
 cases ho : m.OK
 ·rw [if_neg (by decide)]
  have ri : RI n G i (backR (R i) m) := { me := r.me, nodes := r.nodes, may := backR_may r.may, bs := backR_bs r.bs hm.lb hf.1 hf2, smt := r.smt, v2 := r.v2, v3 := r.v3, log := r.log, snap := r.snap, s1 := r.s1, s2 := r.s2, l2 := r.l2, mt := r.mt, c1 := r.c1 }
  have inv : Inv n (upd R i (backR (R i) m)) G := I.quiet hi (Int.le_refl _) ri
  refine ⟨G, inv, Le.same G (Int.le_refl _), LeI.same _ _ _, fun t x h => .inl ⟨x, h⟩, fun l hl => ?_⟩
  rw [List.mem_singleton.1 hl]
  have := letterE_mi inv hi (by rw [upd_i]; exact hr) hf
  rw [upd_i] at this
  exact this
 ·rw [if_pos rfl]
  have hbs := farR_bs (m := m) r.bs hf.1 hf2
  have hA := hm.k4 hk ho
  rw [hTe] at hA
  obtain ⟨x, l1, l2, l3⟩ := r.l2 hr
  have wx := I.w.l _ x l1
  have hmt : ∀ (v : Nat) (a : Int), (farR (R i) m).Match[v]? = some a → a ≤ (G.A (R i).Term v : Int) := by
   intro v a hv
   have hv' : ((R i).Match.set (m.From - 1).toNat (farM (R i) m))[v]? = some a := hv
   rw [List.getElem?_set] at hv'
   by_cases c : (m.From - 1).toNat = v
   ·subst c
    rw [if_pos rfl] at hv'
    split at hv'
    ·cases hv'
     have h1 := r.mt hr _ _ (match_get r.bs hf.1 hf2)
     unfold farM
     omega
    ·cases hv'
   ·rw [if_neg c] at hv'; exact r.mt hr v a hv'
  have hdec : Dec n G (R i).Term ((R i).Log.take (farR (R i) m).Commit.toNat) :=
   nextC_dec (m := (farR (R i) m).Match) (y := x) l1 l3 (by have := hbs.lm; have h6 : (farR (R i) m).Nodes = (n : Int) := hno; omega) (by omega) (by have := r.may.nodes; omega) (fun a ha => (hbs.ms a ha).1) wx.t1 hmt r.c1
  have ri : RI n G i (farR (R i) m) := { me := r.me, nodes := r.nodes, may := farR_may r.may, bs := hbs, smt := r.smt, v2 := r.v2, v3 := r.v3, log := r.log, snap := r.snap, s1 := r.s1, s2 := r.s2, l2 := r.l2, mt := fun _ => hmt, c1 := hdec }
  have inv : Inv n (upd R i (farR (R i) m)) G := I.quiet hi (Int.le_refl _) ri
  refine ⟨G, inv, Le.same G (Int.le_refl _), LeI.same _ _ _, fun t x h => .inl ⟨x, h⟩, fun l hl => ?_⟩
  have hl' : l ∈ (if ((R i).Log.length : Int) > farM (R i) m then [letterE (farR (R i) m) m.From] else []) := hl
  split at hl'
  ·rw [List.mem_singleton.1 hl']
   have := letterE_mi inv hi (by rw [upd_i]; exact hr) hf
   rw [upd_i] at this
   exact this
  ·cases hl'
theorem take_inv (I : Inv n R G) (hi : i < n) {m : TMsg} (hm : MI n (tm R) G m) (hb : m.Term ≤ 1152921504606846976) : Out n i R G (takeF (R i) m) := by
 unfold takeF
 by_cases h : (1 ≤ m.Kind ∧ m.Kind ≤ 4) ∧ okL_ (R i) m
 case neg => rw [if_neg h]; exact out_same I
 rw [if_pos h]
 obtain ⟨hkind, _, h1, h2, h3, h4⟩ := h
 have go : ∀ {R' : Nat → TRaft} {G' : Gh}, Inv n R' G' → MI n (tm R') G' m → m.Term ≤ (R' i).Term → m.From ≠ (R' i).Me → m.To = (R' i).Me → Out n i R' G' (takeP (R' i) m) := by
  intro R' G' I' hm' hT hne hto
  unfold takeP
  by_cases k1 : m.Kind = 1
  ·rw [if_pos k1]; exact askVote_inv I' hi hm' k1 hne
  rw [if_neg k1]
  by_cases k2 : m.Kind = 2
  ·rw [if_pos k2]; exact vote_inv I' hi hm' k2 hto
  rw [if_neg k2]
  by_cases k3 : m.Kind = 3
  ·rw [if_pos k3]; exact append_inv I' hi hm' k3 hT
  ·rw [if_neg k3]; exact appended_inv I' hi hm' (by omega) hT
 unfold stepR
 split
 ·rename_i hT
  obtain ⟨i1, i2⟩ := yield_inv I hi (t := m.Term) (by omega) hb
  refine Out.after i2 (LeI.same _ _ _) rfl ?_
  have := go i1 (hm.mono i2) (by rw [upd_i]; exact Int.le_refl _) (by rw [upd_i]; exact h3) (by rw [upd_i]; exact h4)
  rw [upd_i] at this
  exact this
 ·rename_i hT
  exact go I hm (by omega) h3 h4
end
end Go.Proofs.Ythpokjkbcdfhiaa.Told.RA
