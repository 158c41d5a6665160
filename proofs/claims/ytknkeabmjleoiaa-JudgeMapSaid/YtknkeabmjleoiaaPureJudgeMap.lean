/- The plain law of JudgeMap: a bare map judges as the seats and the store do. -/
import Derived.Test.YtknkeabmjleoiaaTTxns
import Derived.Test.YtknkeabmjleoiaaTAgain
namespace Go.Proofs.Ytknkeabmjleoiaa.Told.PureJudgeMap
open Go Go.Proofs.Ytknkeabmjleoiaa.Vam Go.Proofs.Ytknkeabmjleoiaa.Told Go.Proofs.Ytknkeabmjleoiaa.Told.PK Go.Proofs.Ytknkeabmjleoiaa.Told.CF Go.Proofs.Ytknkeabmjleoiaa.Told.ST Go.Proofs.Ytknkeabmjleoiaa.Told.JF
set_option linter.unusedSimpArgs false
set_option linter.unusedVariables false
theorem begun_e : diwanlaw18_begun 200 = some true := by kernel_rfl
theorem eqS_t (a : ByteArray) : eqS a a = true := beq_ba.2 rfl
theorem eqS_f {a b : ByteArray} (h : a ≠ b) : eqS a b = false := beq_baf.2 h
theorem aput_look : ∀ (l : List (ByteArray × Int)) (k : ByteArray) (v : Int) (a : ByteArray), alook eqS (aput eqS l k v) a = if a = k then some v else alook eqS l a
 | [], k, v, a => by
  show (bif eqS a k then some v else none) = if a = k then some v else none
  by_cases h : a = k
  ·subst h; rw [eqS_t, if_pos rfl]; rfl
  ·rw [eqS_f h, if_neg h]; rfl
 | (p, q) :: l, k, v, a => by
  have ih := aput_look l k v a
  unfold aput
  by_cases hk : k = p
  ·subst hk
   rw [show eqS k (k, q).1 = true from eqS_t k, cond_true]
   show (bif eqS a k then some v else alook eqS l a) = if a = k then some v else (bif eqS a k then some q else alook eqS l a)
   by_cases h : a = k
   ·subst h; rw [eqS_t, if_pos rfl]; rfl
   ·rw [eqS_f h, if_neg h]; rfl
  ·rw [show eqS k (p, q).1 = false from eqS_f hk, cond_false]
   show (bif eqS a p then some q else alook eqS (aput eqS l k v) a) = if a = k then some v else (bif eqS a p then some q else alook eqS l a)
   rw [ih]
   by_cases h : a = p
   ·subst h; rw [eqS_t, cond_true, cond_true, if_neg (fun g => hk g.symm)]
   ·rw [eqS_f h]; rfl
theorem look_mem : ∀ {l : List (ByteArray × Int)} {k : ByteArray} {v : Int}, alook eqS l k = some v → ∃ x ∈ l, x.2 = v
 | [], _, _, h => by cases h
 | (p, q) :: l, k, v, h => by
  have h' : (bif eqS k p then some q else alook eqS l k) = some v := h
  cases g : eqS k p <;> rw [g] at h'
  ·obtain ⟨x, h1, h2⟩ := look_mem (l := l) h'
   exact ⟨x, by simp [h1], h2⟩
  ·exact ⟨(p, q), by simp, by injection h'⟩
theorem aput_mem : ∀ {l : List (ByteArray × Int)} {k : ByteArray} {v : Int} {x : ByteArray × Int}, x ∈ aput eqS l k v → x = (k, v) ∨ x ∈ l
 | [], k, v, x, h => .inl (List.mem_singleton.1 h)
 | e :: l, k, v, x, h => by
  unfold aput at h
  cases g : eqS k e.1 <;> rw [g] at h
  ·rcases List.mem_cons.1 h with h | h
   ·exact .inr (by simp [h])
   ·rcases aput_mem h with q | q
    ·exact .inl q
    ·exact .inr (by simp [q])
  ·rcases List.mem_cons.1 h with h | h
   ·exact .inl h
   ·exact .inr (by simp [h])
theorem aput_len : ∀ (l : List (ByteArray × Int)) (k : ByteArray) (v : Int), (aput eqS l k v).length = if alook eqS l k = none then l.length + 1 else l.length
 | [], k, v => rfl
 | e :: l, k, v => by
  have ih := aput_len l k v
  unfold aput alook
  cases g : eqS k e.1
  ·simp only [cond_false, List.length_cons, ih]
   by_cases c : alook eqS l k = none
   ·rw [if_pos c, if_pos c]
   ·rw [if_neg c, if_neg c]
  ·simp
theorem addV_pos {l : List TVersion} {v : TVersion} (h : last l ≤ v.Pos) : last (addV l v) = v.Pos := by
 unfold addV
 by_cases g : v.Pos ≤ last l
 ·rw [decide_eq_true g]; show last l = _; omega
 ·rw [decide_eq_false g]; exact last_snoc _ _
theorem last_nil : last [] = 0 := rfl
theorem chainOf_put {pos : Int} (hp : 1 ≤ pos) (w : TWrite) (k : ByteArray) : ∀ {cs : List TChain}, Srt cs → chainOf k (put pos w cs) = bif w.Key.toList == k.toList then addV (chainOf k cs) (TVersion.mk pos w.Val w.Gone) else chainOf k cs
 | [], _ => by
  simp only [put]
  rw [decide_eq_false (by omega)]
  simp only [cond_false, chainOf]
  cases (w.Key.toList == k.toList)
  ·rfl
  ·simp only [cond_true]; rw [add_nil, decide_eq_false (by show ¬ pos < 1; omega)]; rfl
 | c :: r, h => by
  obtain ⟨h1, h2⟩ := List.pairwise_cons.1 h
  have ih := chainOf_put hp w k h2
  simp only [put]
  cases g1 : kl c.Key w.Key
  ·simp only [cond_false]
   cases g2 : (c.Key.toList == w.Key.toList)
   ·simp only [cond_false]
    rw [decide_eq_false (by omega)]
    simp only [cond_false]
    rw [chainOf]
    cases g3 : (w.Key.toList == k.toList)
    ·simp only [cond_false]
    ·simp only [cond_true]
     have hwa : kl w.Key c.Key = true := kl_of_not g1 (beq_baf.1 g2)
     have hk := beq_ba.1 g3
     rw [chainOf_none (cs := c :: r) (fun x hx => by
      rw [← hk]
      rcases List.mem_cons.1 hx with rfl | hx
      ·exact (kl_ne hwa).symm
      ·exact (kl_ne (kl_trans hwa (h1 x hx))).symm), add_nil, decide_eq_false (by show ¬ pos < 1; omega)]; rfl
   ·simp only [cond_true, chainOf]
    have e := beq_ba.1 g2
    rw [← e]
    cases g3 : (c.Key.toList == k.toList)
    ·rfl
    ·rfl
  ·simp only [cond_true, chainOf]
   rw [ih]
   cases g3 : (c.Key.toList == k.toList)
   ·rfl
   ·have hk := beq_ba.1 g3
    have : (w.Key.toList == k.toList) = false := beq_baf.2 (by rw [← hk]; exact (kl_ne g1).symm)
    rw [this]; rfl
theorem put_len {pos : Int} (hp : 1 ≤ pos) (w : TWrite) : ∀ {cs : List TChain}, Srt cs → (∀ c ∈ cs, 1 ≤ last c.L) → (put pos w cs).length = if last (chainOf w.Key cs) = 0 then cs.length + 1 else cs.length
 | [], _, _ => by
  simp only [put]
  rw [decide_eq_false (by omega)]; rfl
 | c :: r, h, hq => by
  obtain ⟨h1, h2⟩ := List.pairwise_cons.1 h
  have ih := put_len hp w h2 fun c hc => hq c (by simp [hc])
  simp only [put]
  cases g1 : kl c.Key w.Key
  ·cases g2 : (c.Key.toList == w.Key.toList)
   ·have hwa : kl w.Key c.Key = true := kl_of_not g1 (beq_baf.1 g2)
    rw [chainOf_none (cs := c :: r) (fun x hx => by
     rcases List.mem_cons.1 hx with rfl | hx
     ·exact (kl_ne hwa).symm
     ·exact (kl_ne (kl_trans hwa (h1 x hx))).symm), last_nil, if_pos rfl, decide_eq_false (by omega)]; rfl
   ·have e : chainOf w.Key (c :: r) = c.L := by simp only [chainOf]; rw [g2]; rfl
    have := hq c (by simp)
    rw [e, if_neg (by omega)]; rfl
  ·have e : chainOf w.Key (c :: r) = chainOf w.Key r := by simp only [chainOf]; rw [beq_baf.2 (kl_ne g1)]; rfl
   rw [e]
   simp only [cond_true, cond_false, List.length_cons, ih]
   split <;> rfl
theorem put_ps {P pos : Int} (hp : 1 ≤ pos) (hP : P ≤ pos) (w : TWrite) : ∀ {cs : List TChain}, (∀ c ∈ cs, 1 ≤ last c.L ∧ last c.L ≤ P) → ∀ c ∈ put pos w cs, 1 ≤ last c.L ∧ last c.L ≤ pos
 | [], _, c, hc => by
  simp only [put] at hc
  rw [decide_eq_false (by omega)] at hc
  rw [List.mem_singleton.1 hc]; exact ⟨hp, Int.le_refl _⟩
 | a :: r, h, c, hc => by
  have ih := put_ps hp hP w fun c hc => h c (List.mem_cons_of_mem a hc)
  have old : ∀ c ∈ a :: r, 1 ≤ last c.L ∧ last c.L ≤ pos := fun c hc => by have := h c hc; omega
  simp only [put] at hc
  cases g1 : kl a.Key w.Key <;> rw [g1] at hc
  ·cases g2 : (a.Key.toList == w.Key.toList) <;> rw [g2] at hc
   ·rw [decide_eq_false (by omega)] at hc
    rcases List.mem_cons.1 hc with q | q
    ·rw [q]; exact ⟨hp, Int.le_refl _⟩
    ·exact old c q
   ·rcases List.mem_cons.1 hc with q | q
    ·rw [q]
     show 1 ≤ last (addV a.L _) ∧ last (addV a.L _) ≤ pos
     rw [addV_pos (v := TVersion.mk pos w.Val w.Gone) (by have := h a (by simp); show _ ≤ pos; omega)]
     exact ⟨hp, Int.le_refl _⟩
    ·exact old c (by simp [q])
  ·rcases List.mem_cons.1 hc with q | q
   ·exact old c (by simp [q])
   ·exact ih c q
theorem last_le {P : Int} (h0 : 0 ≤ P) (k : ByteArray) : ∀ {cs : List TChain}, (∀ c ∈ cs, 1 ≤ last c.L ∧ last c.L ≤ P) → last (chainOf k cs) ≤ P
 | [], _ => h0
 | c :: r, h => by
  simp only [chainOf]
  cases (c.Key.toList == k.toList)
  ·exact last_le h0 k fun c hc => h c (by simp [hc])
  ·exact (h c (by simp)).2
theorem chainOf_mem : ∀ {cs : List TChain}, Srt cs → ∀ c ∈ cs, chainOf c.Key cs = c.L
 | [], _, c, h => by cases h
 | a :: r, h, c, hc => by
  obtain ⟨h1, h2⟩ := List.pairwise_cons.1 h
  simp only [chainOf]
  rcases List.mem_cons.1 hc with rfl | hc
  ·rw [beq_self_eq_true]; rfl
  ·rw [beq_baf.2 (kl_ne (h1 c hc))]
   exact chainOf_mem h2 c hc
structure MV (P : Int) (mp : List (ByteArray × Int)) (cs : List TChain) : Prop where
 look : ∀ k, (alook eqS mp k).getD 0 = last (chainOf k cs)
 len : mp.length = cs.length
 val : ∀ x ∈ mp, 1 ≤ x.2 ∧ x.2 ≤ P
 ps : ∀ c ∈ cs, 1 ≤ last c.L ∧ last c.L ≤ P
 srt : Srt cs
theorem MV.mono {P Q : Int} {mp : List (ByteArray × Int)} {cs : List TChain} (h : MV P mp cs) (hQ : P ≤ Q) : MV Q mp cs :=
 ⟨h.look, h.len, fun x hx => by have := h.val x hx; omega, fun x hx => by have := h.ps x hx; omega, h.srt⟩
theorem MV.put {P pos : Int} {mp : List (ByteArray × Int)} {cs : List TChain} (h : MV P mp cs) (h0 : 0 ≤ P) (hp : 1 ≤ pos) (hP : P ≤ pos) (w : TWrite) : MV pos (aput eqS mp w.Key pos) (put pos w cs) := by
 have hl := last_le h0 w.Key h.ps
 refine ⟨fun k => ?_, ?_, fun x hx => ?_, put_ps hp hP w h.ps, put_srt pos w h.srt⟩
 ·rw [aput_look, chainOf_put hp w k h.srt]
  by_cases g : k = w.Key
  ·subst g
   rw [if_pos rfl, beq_self_eq_true]
   show pos = last (addV _ (TVersion.mk pos w.Val w.Gone))
   rw [addV_pos (v := TVersion.mk pos w.Val w.Gone) (by show _ ≤ pos; omega)]
  ·rw [if_neg g, beq_baf.2 (fun e => g e.symm), h.look]; rfl
 ·rw [aput_len, put_len hp w h.srt fun c hc => (h.ps c hc).1, h.len, ← h.look]
  cases g : alook eqS mp w.Key with
  | none => rfl
  | some v =>
   obtain ⟨x, h1, h2⟩ := look_mem g
   have := h.val x h1
   rw [if_neg (by simp), if_neg (by show ¬ v = 0; omega)]
 ·rcases aput_mem hx with q | q
  ·subst q; exact ⟨hp, Int.le_refl _⟩
  ·have := h.val x q; omega
theorem MV.puts {pos : Int} (hp : 1 ≤ pos) : ∀ {l : List TWrite} {P : Int} {mp : List (ByteArray × Int)} {cs : List TChain}, MV P mp cs → 0 ≤ P → P ≤ pos → MV pos (l.foldl (fun m w => aput eqS m w.Key pos) mp) (puts pos l cs)
 | [], P, mp, cs, h, _, hP => h.mono hP
 | w :: l, P, mp, cs, h, h0, hP => MV.puts hp (l := l) (h.put h0 hp hP w) (by omega) (Int.le_refl _)
def sd (b : TBench) (t : TTxn) : Int := bif decide (t.Seq > seqOf t.Session b.seats) then (bif hold t.Reads b.store.Chains then 1 else 2) else 3
theorem sd_e {b : TBench} {t : TTxn} (hs : SF.Srt b.seats) (h1 : 1 ≤ t.Seq) : (stepF b t).said = b.said ++ [sd b t] ∧ (stepF b t).store.Chains = bif sd b t == 1 then puts (posF b) t.Writes b.store.Chains else b.store.Chains := by
 obtain ⟨g1, _, _⟩ := turnF_seq (t := t.Session) (s := t.Seq) (p := posF b) h1 hs
 unfold stepF sd
 rw [g1]
 cases decide (t.Seq > seqOf t.Session b.seats)
 ·exact ⟨rfl, rfl⟩
 ·cases hold t.Reads b.store.Chains <;> exact ⟨rfl, rfl⟩
def saids (b : TBench) : List TTxn → List Int
 | [] => []
 | t :: r => sd b t :: saids (stepF b t) r
theorem saids_e : ∀ {r : List TTxn} {b : TBench}, SF.Srt b.seats → (∀ t ∈ r, 1 ≤ t.Seq) → (r.foldl stepF b).said = b.said ++ saids b r
 | [], b, _, _ => by simp [saids]
 | t :: r, b, hs, h => by
  have h1 := h t (by simp)
  show (r.foldl stepF (stepF b t)).said = _
  rw [saids_e (b := stepF b t) (by rw [step_seats]; exact (turnF_srt _ _ _ hs).1) fun t ht => h t (by simp [ht]), (sd_e hs h1).1]
  simp [saids]
theorem lp22 (fu : Nat) (l : List TTxn) (v : List Int) (mp : List (ByteArray × Int)) (i : Int) (z : TStore) (a : TA12_int) (S Q : Int) (W : List TWrite) : ∀ (r q : List TRead) (n : Nat) (b : Bool), (q ++ r).length ≤ 1000000 → r.length < n →
  diwanlaw18_JudgeMap.lp22 fu l v mp i z a (TTxn.mk S Q (q ++ r) W) n b (q.length : Int) = some (b && r.all fun x => (alook eqS mp x.Key).getD 0 == x.Version)
 | [], q, n, b, hl, hn => by
  obtain ⟨n, rfl⟩ : ∃ m, n = m + 1 := ⟨n - 1, by omega⟩
  simp only [List.append_nil]
  rw [diwanlaw18_JudgeMap.lp22, br_f (nlt_end _)]; simp
 | t :: r, q, n, b, hl, hn => by
  obtain ⟨n, rfl⟩ : ∃ m, n = m + 1 := ⟨n - 1, by omega⟩
  have e : q ++ t :: r = (q ++ [t]) ++ r := by simp
  have ih := fun b => lp22 fu l v mp i z a S Q W r (q ++ [t]) n b (by rw [← e]; exact hl) (by simp at hn; omega)
  rw [← e] at ih
  rw [diwanlaw18_JudgeMap.lp22, br_t (lt_mid _ _ _), w64_len q r t (by omega)]
  cases b
  ·rw [br_f rfl, ih]; rfl
  ·rw [br_t rfl, ix_mid, ix_mid, ih]; simp
theorem lp22_e {fu : Nat} {l : List TTxn} {v : List Int} {mp : List (ByteArray × Int)} {i : Int} {z : TStore} {a : TA12_int} {t : TTxn} {P : Int} {cs : List TChain} (h : MV P mp cs) (hr : t.Reads.length ≤ 3) (hf : 3 < fu) :
  diwanlaw18_JudgeMap.lp22 fu l v mp i z a t fu true 0 = some (hold t.Reads cs) := by
 have := lp22 fu l v mp i z a t.Session t.Seq t.Writes t.Reads [] fu true (by simp; omega) (by omega)
 simp only [List.nil_append, List.length_nil, Int.natCast_zero, Bool.true_and] at this
 rw [show TTxn.mk t.Session t.Seq t.Reads t.Writes = t from rfl] at this
 rw [this]
 unfold hold
 congr 2
 funext x
 rw [h.look]
 by_cases g : last (chainOf x.Key cs) = x.Version
 ·rw [g]
 ·rw [beq_eq_false_iff_ne.2 g, beq_eq_false_iff_ne.2 (fun e => g e.symm)]
theorem lp47_n {fu n : Nat} {l : List TTxn} {v : List Int} {mp : List (ByteArray × Int)} {i : Nat} {z : TStore} {a : TA12_int} {t : TTxn} {x : Int} (hx : v[i]? = some x) (h1 : (x == 1) = false) (hn : 0 < n) : diwanlaw18_JudgeMap.lp47 fu l v (i : Int) z a t n mp 0 = some mp := by
 obtain ⟨n, rfl⟩ : ∃ m, n = m + 1 := ⟨n - 1, by omega⟩
 rw [diwanlaw18_JudgeMap.lp47]
 by_cases g : (0 : Int) < (t.Writes.length : Int)
 ·rw [br_t (decide_eq_true g), ix_n hx, br_f h1]
 ·rw [br_f (decide_eq_false g)]
theorem lp47 (fu : Nat) (l : List TTxn) (v : List Int) (i : Nat) (hi : i ≤ 1000000) (z : TStore) (a : TA12_int) (S Q : Int) (R : List TRead) (hx : v[i]? = some 1) : ∀ (r q : List TWrite) (n : Nat) (mp : List (ByteArray × Int)), (q ++ r).length ≤ 1000000 → r.length < n →
  diwanlaw18_JudgeMap.lp47 fu l v (i : Int) z a (TTxn.mk S Q R (q ++ r)) n mp (q.length : Int) = some (r.foldl (fun m w => aput eqS m w.Key ((i : Int) + 1)) mp)
 | [], q, n, mp, hl, hn => by
  obtain ⟨n, rfl⟩ : ∃ m, n = m + 1 := ⟨n - 1, by omega⟩
  simp only [List.append_nil]
  rw [diwanlaw18_JudgeMap.lp47, br_f (nlt_end _)]; rfl
 | t :: r, q, n, mp, hl, hn => by
  obtain ⟨n, rfl⟩ : ∃ m, n = m + 1 := ⟨n - 1, by omega⟩
  have e : q ++ t :: r = (q ++ [t]) ++ r := by simp
  have ih := fun mp => lp47 fu l v i hi z a S Q R hx r (q ++ [t]) n mp (by rw [← e]; exact hl) (by simp at hn; omega)
  rw [← e] at ih
  rw [diwanlaw18_JudgeMap.lp47, br_t (lt_mid _ _ _), ix_n hx, br_t (b := ((1 : Int) == 1)) rfl, ix_mid, w64_len q r t (by omega), w64_id (n := (i : Int) + 1) (by omega) (by omega), ih]; rfl
theorem lp47_e {fu : Nat} {l : List TTxn} {v : List Int} {mp : List (ByteArray × Int)} {i : Nat} {z : TStore} {a : TA12_int} {t : TTxn} (hi : i ≤ 1000000) (hx : v[i]? = some 1) (hw : t.Writes.length ≤ 3) (hf : 3 < fu) :
  diwanlaw18_JudgeMap.lp47 fu l v (i : Int) z a t fu mp 0 = some (t.Writes.foldl (fun m w => aput eqS m w.Key ((i : Int) + 1)) mp) := by
 have := lp47 fu l v i hi z a t.Session t.Seq t.Reads hx t.Writes [] fu mp (by simp; omega) (by omega)
 simp only [List.nil_append, List.length_nil, Int.natCast_zero] at this
 exact this
theorem lp16 (fu : Nat) (hf : 3 < fu) (z : TStore) : ∀ (r q : List TTxn) (V : List Int) (v : List Int) (n : Nat) (b : TBench) (a : TA12_int) (mp : List (ByteArray × Int)), (q ++ r).length ≤ 1000000 → V.length = q.length → b.said.length = q.length → v = V ++ saids b r → SF.Srt b.seats → (∀ t ∈ r, 1 ≤ t.Seq ∧ (1 ≤ t.Session ∧ t.Session ≤ 3) ∧ t.Reads.length ≤ 3 ∧ t.Writes.length ≤ 3) → a.c1 = seqOf 1 b.seats → a.c2 = seqOf 2 b.seats → a.c3 = seqOf 3 b.seats → MV (q.length : Int) mp b.store.Chains → r.length < n →
  ∃ mp' P, diwanlaw18_JudgeMap.lp16 fu (q ++ r) v z n mp (q.length : Int) a = some (.inl mp') ∧ MV P mp' (r.foldl stepF b).store.Chains
 | [], q, V, v, n, b, a, mp, hl, hV, hb, hv, hs, ht, a1, a2, a3, hm, hn => by
  obtain ⟨n, rfl⟩ : ∃ m, n = m + 1 := ⟨n - 1, by omega⟩
  simp only [List.append_nil]
  rw [diwanlaw18_JudgeMap.lp16, br_f (nlt_end _)]
  exact ⟨mp, _, rfl, hm⟩
 | t :: r, q, V, v, n, b, a, mp, hl, hV, hb, hv, hs, ht, a1, a2, a3, hm, hn => by
  obtain ⟨n, rfl⟩ : ∃ m, n = m + 1 := ⟨n - 1, by omega⟩
  have e : q ++ t :: r = (q ++ [t]) ++ r := by simp
  obtain ⟨h1, ⟨h2, h3⟩, h4, h5⟩ := ht t (by simp)
  obtain ⟨_, _, g3⟩ := turnF_seq (t := t.Session) (s := t.Seq) (p := posF b) h1 hs
  rw [← step_seats] at g3
  obtain ⟨s1, s2⟩ := sd_e hs h1
  have hpos : posF b = (q.length : Int) + 1 := by unfold posF; rw [hb]
  have ih := fun a' mp' k1 k2 k3 k4 => lp16 fu hf z r (q ++ [t]) (V ++ [sd b t]) v n (stepF b t) a' mp' (by rw [← e]; exact hl) (by simp [hV]) (by rw [s1]; simp [hb]) (by rw [hv]; simp [saids]) (by rw [step_seats]; exact (turnF_srt _ _ _ hs).1) (fun t h => ht t (by simp [h])) k1 k2 k3 k4 (by simp at hn; omega)
  rw [← e, show (((q ++ [t]).length : Nat) : Int) = (q.length : Int) + 1 by simp] at ih
  have hlen : q.length ≤ 1000000 := by simp at hl; omega
  have hw : w64 ((q.length : Int) + 1) = (q.length : Int) + 1 := w64_id (by omega) (by omega)
  have hx : v[q.length]? = some (sd b t) := by
   rw [hv, ← hV]; simp [saids]
  have hm0 : MV ((q.length : Int) + 1) mp b.store.Chains := hm.mono (by omega)
  have hm1 : MV ((q.length : Int) + 1) (t.Writes.foldl (fun m w => aput eqS m w.Key ((q.length : Int) + 1)) mp) (puts (posF b) t.Writes b.store.Chains) := by
   rw [hpos]; exact MV.puts (by omega) hm (by omega) (by omega)
  rw [diwanlaw18_JudgeMap.lp16, br_t (lt_mid _ _ _), ix_mid, bd_s (lp22_e hm h4 hf), jn_e, hw]
  show ∃ mp' P, _ ∧ MV P mp' (r.foldl stepF (stepF b t)).store.Chains
  unfold sd at hx s2
  cases hF : decide (t.Seq > seqOf t.Session b.seats) <;> rw [hF] at hx s2
  ·have hc : (stepF b t).store.Chains = b.store.Chains := s2
   have hq : ∀ u, seqOf u (stepF b t).seats = seqOf u b.seats := fun u => by rw [g3, hF, Bool.and_false]; rfl
   have hx3 : v[q.length]? = some 3 := hx
   have fin := ih a mp (by rw [hq, a1]) (by rw [hq, a2]) (by rw [hq, a3]) (by rw [hc]; exact hm0)
   have c : t.Session = 1 ∨ t.Session = 2 ∨ t.Session = 3 := by omega
   rcases c with c | c | c <;> rw [c] at hF ⊢
   ·rw [br_f (b := ((1 : Int) == 0)) rfl, br_t (b := ((1 : Int) == 1)) rfl, a1, hF]; set_option simprocs false in dsimp only; rw [jn_e, br_f (b := false) rfl]; set_option simprocs false in dsimp only; rw [jn_e, ix_n hx3, br_f (b := (((3 : Int) == 3) == false)) rfl, ix_n hx3, br_f (b := false) rfl, br_f (b := !(((3 : Int) == 1) == false)) rfl, ix_n hx3, br_f (b := decide ((3 : Int) < 1)) rfl, ix_n hx3, br_f (b := decide ((3 : Int) > 3)) rfl, bd_s (lp47_n hx3 rfl (by omega))]
    exact fin
   ·rw [br_f (b := ((2 : Int) == 0)) rfl, br_f (b := ((2 : Int) == 1)) rfl, br_t (b := ((2 : Int) == 2)) rfl, a2, hF]; set_option simprocs false in dsimp only; rw [jn_e, br_f (b := false) rfl]; set_option simprocs false in dsimp only; rw [jn_e, ix_n hx3, br_f (b := (((3 : Int) == 3) == false)) rfl, ix_n hx3, br_f (b := false) rfl, br_f (b := !(((3 : Int) == 1) == false)) rfl, ix_n hx3, br_f (b := decide ((3 : Int) < 1)) rfl, ix_n hx3, br_f (b := decide ((3 : Int) > 3)) rfl, bd_s (lp47_n hx3 rfl (by omega))]
    exact fin
   ·rw [br_f (b := ((3 : Int) == 0)) rfl, br_f (b := ((3 : Int) == 1)) rfl, br_f (b := ((3 : Int) == 2)) rfl, br_t (b := ((3 : Int) == 3)) rfl, a3, hF]; set_option simprocs false in dsimp only; rw [jn_e, br_f (b := false) rfl]; set_option simprocs false in dsimp only; rw [jn_e, ix_n hx3, br_f (b := (((3 : Int) == 3) == false)) rfl, ix_n hx3, br_f (b := false) rfl, br_f (b := !(((3 : Int) == 1) == false)) rfl, ix_n hx3, br_f (b := decide ((3 : Int) < 1)) rfl, ix_n hx3, br_f (b := decide ((3 : Int) > 3)) rfl, bd_s (lp47_n hx3 rfl (by omega))]
    exact fin
  ·have hq : ∀ u, seqOf u (stepF b t).seats = bif t.Session == u then t.Seq else seqOf u b.seats := fun u => by rw [g3, hF, Bool.and_true]
   cases hH : hold t.Reads b.store.Chains <;> rw [hH] at hx s2
   ·have hc : (stepF b t).store.Chains = b.store.Chains := s2
    have hx3 : v[q.length]? = some 2 := hx
    have fin := fun a' k1 k2 k3 => ih a' mp k1 k2 k3 (by rw [hc]; exact hm0)
    have c : t.Session = 1 ∨ t.Session = 2 ∨ t.Session = 3 := by omega
    rcases c with c | c | c <;> rw [c] at hF hq ⊢
    ·rw [br_f (b := ((1 : Int) == 0)) rfl, br_t (b := ((1 : Int) == 1)) rfl, a1, hF]; set_option simprocs false in dsimp only; rw [jn_e, br_t (b := true) rfl, br_f (b := ((1 : Int) == 0)) rfl, br_t (b := ((1 : Int) == 1)) rfl]; set_option simprocs false in dsimp only; rw [jn_e, ix_n hx3, br_f (b := (((2 : Int) == 3) == true)) rfl, ix_n hx3, br_t (b := true) rfl, br_f (b := !(((2 : Int) == 1) == false)) rfl, ix_n hx3, br_f (b := decide ((2 : Int) < 1)) rfl, ix_n hx3, br_f (b := decide ((2 : Int) > 3)) rfl, bd_s (lp47_n hx3 rfl (by omega))]
     exact fin _ (hq 1).symm (by rw [hq 2, a2]; rfl) (by rw [hq 3, a3]; rfl)
    ·rw [br_f (b := ((2 : Int) == 0)) rfl, br_f (b := ((2 : Int) == 1)) rfl, br_t (b := ((2 : Int) == 2)) rfl, a2, hF]; set_option simprocs false in dsimp only; rw [jn_e, br_t (b := true) rfl, br_f (b := ((2 : Int) == 0)) rfl, br_f (b := ((2 : Int) == 1)) rfl, br_t (b := ((2 : Int) == 2)) rfl]; set_option simprocs false in dsimp only; rw [jn_e, ix_n hx3, br_f (b := (((2 : Int) == 3) == true)) rfl, ix_n hx3, br_t (b := true) rfl, br_f (b := !(((2 : Int) == 1) == false)) rfl, ix_n hx3, br_f (b := decide ((2 : Int) < 1)) rfl, ix_n hx3, br_f (b := decide ((2 : Int) > 3)) rfl, bd_s (lp47_n hx3 rfl (by omega))]
     exact fin _ (by rw [hq 1, a1]; rfl) (hq 2).symm (by rw [hq 3, a3]; rfl)
    ·rw [br_f (b := ((3 : Int) == 0)) rfl, br_f (b := ((3 : Int) == 1)) rfl, br_f (b := ((3 : Int) == 2)) rfl, br_t (b := ((3 : Int) == 3)) rfl, a3, hF]; set_option simprocs false in dsimp only; rw [jn_e, br_t (b := true) rfl, br_f (b := ((3 : Int) == 0)) rfl, br_f (b := ((3 : Int) == 1)) rfl, br_f (b := ((3 : Int) == 2)) rfl, br_t (b := ((3 : Int) == 3)) rfl]; set_option simprocs false in dsimp only; rw [jn_e, ix_n hx3, br_f (b := (((2 : Int) == 3) == true)) rfl, ix_n hx3, br_t (b := true) rfl, br_f (b := !(((2 : Int) == 1) == false)) rfl, ix_n hx3, br_f (b := decide ((2 : Int) < 1)) rfl, ix_n hx3, br_f (b := decide ((2 : Int) > 3)) rfl, bd_s (lp47_n hx3 rfl (by omega))]
     exact fin _ (by rw [hq 1, a1]; rfl) (by rw [hq 2, a2]; rfl) (hq 3).symm
   ·have hc : (stepF b t).store.Chains = puts (posF b) t.Writes b.store.Chains := s2
    have hx3 : v[q.length]? = some 1 := hx
    have fin := fun a' k1 k2 k3 => ih a' _ k1 k2 k3 (by rw [hc]; exact hm1)
    have c : t.Session = 1 ∨ t.Session = 2 ∨ t.Session = 3 := by omega
    rcases c with c | c | c <;> rw [c] at hF hq ⊢
    ·rw [br_f (b := ((1 : Int) == 0)) rfl, br_t (b := ((1 : Int) == 1)) rfl, a1, hF]; set_option simprocs false in dsimp only; rw [jn_e, br_t (b := true) rfl, br_f (b := ((1 : Int) == 0)) rfl, br_t (b := ((1 : Int) == 1)) rfl]; set_option simprocs false in dsimp only; rw [jn_e, ix_n hx3, br_f (b := (((1 : Int) == 3) == true)) rfl, ix_n hx3, br_t (b := true) rfl, br_f (b := !(((1 : Int) == 1) == true)) rfl, ix_n hx3, br_f (b := decide ((1 : Int) < 1)) rfl, ix_n hx3, br_f (b := decide ((1 : Int) > 3)) rfl, bd_s (lp47_e hlen hx3 h5 hf)]
     exact fin _ (hq 1).symm (by rw [hq 2, a2]; rfl) (by rw [hq 3, a3]; rfl)
    ·rw [br_f (b := ((2 : Int) == 0)) rfl, br_f (b := ((2 : Int) == 1)) rfl, br_t (b := ((2 : Int) == 2)) rfl, a2, hF]; set_option simprocs false in dsimp only; rw [jn_e, br_t (b := true) rfl, br_f (b := ((2 : Int) == 0)) rfl, br_f (b := ((2 : Int) == 1)) rfl, br_t (b := ((2 : Int) == 2)) rfl]; set_option simprocs false in dsimp only; rw [jn_e, ix_n hx3, br_f (b := (((1 : Int) == 3) == true)) rfl, ix_n hx3, br_t (b := true) rfl, br_f (b := !(((1 : Int) == 1) == true)) rfl, ix_n hx3, br_f (b := decide ((1 : Int) < 1)) rfl, ix_n hx3, br_f (b := decide ((1 : Int) > 3)) rfl, bd_s (lp47_e hlen hx3 h5 hf)]
     exact fin _ (by rw [hq 1, a1]; rfl) (hq 2).symm (by rw [hq 3, a3]; rfl)
    ·rw [br_f (b := ((3 : Int) == 0)) rfl, br_f (b := ((3 : Int) == 1)) rfl, br_f (b := ((3 : Int) == 2)) rfl, br_t (b := ((3 : Int) == 3)) rfl, a3, hF]; set_option simprocs false in dsimp only; rw [jn_e, br_t (b := true) rfl, br_f (b := ((3 : Int) == 0)) rfl, br_f (b := ((3 : Int) == 1)) rfl, br_f (b := ((3 : Int) == 2)) rfl, br_t (b := ((3 : Int) == 3)) rfl]; set_option simprocs false in dsimp only; rw [jn_e, ix_n hx3, br_f (b := (((1 : Int) == 3) == true)) rfl, ix_n hx3, br_t (b := true) rfl, br_f (b := !(((1 : Int) == 1) == true)) rfl, ix_n hx3, br_f (b := decide ((1 : Int) < 1)) rfl, ix_n hx3, br_f (b := decide ((1 : Int) > 3)) rfl, bd_s (lp47_e hlen hx3 h5 hf)]
     exact fin _ (by rw [hq 1, a1]; rfl) (by rw [hq 2, a2]; rfl) (hq 3).symm
theorem lp56 (fu : Nat) (mp : List (ByteArray × Int)) (M : Int) : ∀ (r q : List TChain) (n : Nat), (q ++ r).length ≤ 1000000 → (∀ c ∈ r, c.L.length ≤ 1000 ∧ (alook eqS mp c.Key).getD 0 = last c.L) → r.length < n →
  diwanlaw18_JudgeMap.lp56 fu mp (TStore.mk (q ++ r) M) n (q.length : Int) = some (.inl ())
 | [], q, n, hl, hc, hn => by
  obtain ⟨n, rfl⟩ : ∃ m, n = m + 1 := ⟨n - 1, by omega⟩
  simp only [List.append_nil]
  rw [diwanlaw18_JudgeMap.lp56, br_f (nlt_end _)]
 | c :: r, q, n, hl, hc, hn => by
  obtain ⟨n, rfl⟩ : ∃ m, n = m + 1 := ⟨n - 1, by omega⟩
  have e : q ++ c :: r = (q ++ [c]) ++ r := by simp
  have ih := lp56 fu mp M r (q ++ [c]) n (by rw [← e]; exact hl) (fun c h => hc c (by simp [h])) (by simp at hn; omega)
  rw [← e] at ih
  obtain ⟨h1, h2⟩ := hc c (by simp)
  rw [diwanlaw18_JudgeMap.lp56, br_t (lt_mid _ _ _), ix_mid, ix_mid, bd_s (last_e (l := c.L) (by omega)).2, h2, br_f (by simp), w64_len q r c (by omega), ih]
theorem holds (picks : List Int) (k0 : okL (okI .u8) picks) : ∃ fu, diwanlaw18_JudgeMap fu picks = some true := by
 refine ⟨200, ?_⟩
 unfold diwanlaw18_JudgeMap
 rw [bd_s begun_e, br_f (by rfl)]
 by_cases h1 : (picks.length : Int) > 250
 ·rw [br_t (decide_eq_true h1)]
 rw [br_f (decide_eq_false h1)]
 unfold diwanplay_Made
 rw [bd_s rfl]
 obtain ⟨l, o, t1, _, hl, ht⟩ := txs_e (fu := 200) (Nat.le_refl _) 25 (by decide) (made_inv (l := picks) k0.2 (by omega))
 rw [show (25 : Int) = ((25 : Nat) : Int) from rfl, bd_s t1]
 dsimp only
 obtain ⟨f1, inv⟩ := fold_e (fu := 200) (l := l) (by omega) (by omega) fun t h => ⟨(ht t h).rl, (ht t h).wl⟩
 have e1 := inv.sl
 have hsd := saids_e (r := l) (b := b0) List.Pairwise.nil fun t h => (ht t h).sq.1
 rw [bd_s f1]
 dsimp only
 obtain ⟨mp, P, h16, mv⟩ := lp16 200 (by omega) (foldF l).store l [] [] (foldF l).said 200 b0 (TA12_int.mk 0 0 0 0 0 0 0 0 0 0 0 0) [] (by simp; omega) rfl rfl hsd List.Pairwise.nil (fun t h => ⟨(ht t h).sq.1, (ht t h).se, (ht t h).rl, (ht t h).wl⟩) rfl rfl rfl ⟨fun k => rfl, rfl, (fun x h => by cases h), (fun x h => by cases h), List.Pairwise.nil⟩ (by omega)
 simp only [List.nil_append, List.length_nil, Int.natCast_zero] at h16
 have mv' : MV P mp (foldF l).store.Chains := mv
 have hcm := inv.cm
 rw [br_f (by rw [e1]; simp), bd_s h16]
 dsimp only
 have h56 := lp56 200 mp (foldF l).store.Mark (foldF l).store.Chains [] 200 (by have := hcm.1; simp; omega) (fun c hc => ⟨by have := hcm.2 c hc; omega, by rw [mv'.look, chainOf_mem mv'.srt c hc]⟩) (by have := hcm.1; omega)
 simp only [List.nil_append, List.length_nil, Int.natCast_zero] at h56
 rw [show TStore.mk (foldF l).store.Chains (foldF l).store.Mark = (foldF l).store from rfl] at h56
 rw [bd_s h56]
 dsimp only
 have hz : diwanlaw18_zeros mp = some 0 := by
  unfold diwanlaw18_zeros
  rw [gd_t (List.all_eq_true.2 fun x hx => by have := mv'.val x hx; exact bne_iff_ne.2 (by omega))]
 have hcl := hcm.1
 rw [bd_s hz, mv'.len, Int.sub_zero, w64_id (by omega) (by omega), beq_self_eq_true]
end Go.Proofs.Ytknkeabmjleoiaa.Told.PureJudgeMap
