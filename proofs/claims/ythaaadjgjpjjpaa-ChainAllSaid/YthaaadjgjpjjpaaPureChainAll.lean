/- The plain law of ChainAll. -/
import Derived.Test.YthaaadjgjpjjpaaFitChainAll
import Derived.Test.YthaaadjgjpjjpaaTMath
namespace Go.Proofs.Ythaaadjgjpjjpaa.Told.PureChainAll
open Go Go.Proofs.Ythaaadjgjpjjpaa.Vam Go.Proofs.Ythaaadjgjpjjpaa.Told
set_option linter.unusedSimpArgs false
set_option linter.unusedVariables false
/-- Which rows may be, behind a position. -/
def may : Int → List TVersion → Bool
  | _, [] => true
  | p, v :: r => bif decide (v.Pos ≤ p) then false else bif decide ((v.Val.size : Int) > 16) then false else bif v.Gone && !(v.Val.toList == ByteArray.empty.toList) then false else may v.Pos r
theorem may_cons {p : Int} {v : TVersion} {r : List TVersion} (h : may p (v :: r) = true) : p < v.Pos ∧ (v.Val.size : Int) ≤ 16 ∧ (v.Gone = true → (v.Val.toList == ByteArray.empty.toList) = true) ∧ may v.Pos r = true := by
  simp only [may] at h
  cases h1 : decide (v.Pos ≤ p) <;> rw [h1] at h
  · cases h2 : decide ((v.Val.size : Int) > 16) <;> rw [h2] at h
    · cases h3 : (v.Gone && !(v.Val.toList == ByteArray.empty.toList)) <;> rw [h3] at h
      · refine ⟨by have := of_decide_eq_false h1; omega, by have := of_decide_eq_false h2; omega, fun hg => ?_, h⟩
        rw [hg] at h3
        simpa using h3
      · cases h
    · cases h
  · cases h
theorem lpMay (fu : Nat) : ∀ (r q : List TVersion) (p : Int) (n : Nat), (q ++ r).length ≤ 4611686018427387904 → r.length < n →
    chain_May.lp4 fu (q ++ r) ((q ++ r).length : Int) n p (q.length : Int) = some (bif may p r then .inl () else .inr ())
  | [], q, p, n, hl, hn => by
    obtain ⟨n, rfl⟩ : ∃ m, n = m + 1 := ⟨n - 1, by omega⟩
    simp only [List.append_nil]
    rw [chain_May.lp4, br_f (nlt_end _)]; rfl
  | v :: r, q, p, n, hl, hn => by
    obtain ⟨n, rfl⟩ : ∃ m, n = m + 1 := ⟨n - 1, by omega⟩
    have e : q ++ v :: r = (q ++ [v]) ++ r := by simp
    have ih := lpMay fu r (q ++ [v]) v.Pos n (by rw [← e]; exact hl) (by simp at hn; omega)
    rw [← e] at ih
    rw [chain_May.lp4, br_t (lt_mid _ _ _), ix_mid, w64_len q r v hl, ih]
    simp only [may]
    cases h1 : decide (v.Pos ≤ p)
    · rw [br_f rfl]
      cases h2 : decide ((v.Val.size : Int) > 16)
      · rw [br_f rfl]
        cases h3 : v.Gone
        · rw [br_f rfl]; rfl
        · rw [br_t rfl]
          cases h4 : (v.Val.toList == ByteArray.empty.toList)
          · rfl
          · rfl
      · rw [br_t rfl]; rfl
    · rw [br_t rfl]; rfl
theorem may_e {l : List TVersion} {fu : Nat} (hl : l.length ≤ 4611686018427387904) (hn : l.length < fu) : chain_May fu l = some (may 0 l) := by
  have := lpMay fu l [] 0 fu hl hn
  unfold chain_May
  rw [List.nil_append] at this
  simp only [List.length_nil, Int.natCast_zero] at this
  rw [bd_s this]
  cases may 0 l <;> rfl
/-- The last one's position. -/
def last (l : List TVersion) : Int := match l.getLast? with
  | some v => v.Pos
  | none => 0
theorem last_snoc (q : List TVersion) (v : TVersion) : last (q ++ [v]) = v.Pos := by simp [last]
theorem lpRef (fu : Nat) : ∀ (r q : List TVersion) (n : Nat), (q ++ r).length ≤ 4611686018427387904 → r.length < n → (q = [] ∨ 1 ≤ last q) →
    diwanref13_MayChain.lp3 fu (q ++ r) n (q.length : Int) = some (bif may (last q) r then .inl () else .inr ())
  | [], q, n, hl, hn, hq => by
    obtain ⟨n, rfl⟩ : ∃ m, n = m + 1 := ⟨n - 1, by omega⟩
    simp only [List.append_nil]
    rw [diwanref13_MayChain.lp3, br_f (nlt_end _)]; rfl
  | v :: r, q, n, hl, hn, hq => by
    obtain ⟨n, rfl⟩ : ∃ m, n = m + 1 := ⟨n - 1, by omega⟩
    have e : q ++ v :: r = (q ++ [v]) ++ r := by simp
    have ih := fun h => lpRef fu r (q ++ [v]) n (by rw [← e]; exact hl) (by simp at hn; omega) (.inr h)
    rw [last_snoc, ← e] at ih
    rw [diwanref13_MayChain.lp3, br_t (lt_mid _ _ _), ix_mid, w64_len q r v hl]
    simp only [may]
    cases h0 : decide (v.Pos < 1)
    · have g0 := of_decide_eq_false h0
      rw [br_f rfl, ih (by omega)]
      have rest : ∀ b : Bool, b = decide (v.Pos ≤ last q) → 
          br b (some (Sum.inr ())) (br (decide ((v.Val.size : Int) > 16)) (some (.inr ())) (br v.Gone (br (!(v.Val.toList == ByteArray.empty.toList)) (some (.inr ())) (some (bif may v.Pos r then Sum.inl () else Sum.inr ()))) (some (bif may v.Pos r then Sum.inl () else Sum.inr ())))) =
          some (bif (bif decide (v.Pos ≤ last q) then false else bif decide ((v.Val.size : Int) > 16) then false else bif v.Gone && !(v.Val.toList == ByteArray.empty.toList) then false else may v.Pos r) then Sum.inl () else Sum.inr ()) := by
        intro b hb
        rw [← hb]
        cases b
        · cases decide ((v.Val.size : Int) > 16) <;> cases v.Gone <;> cases (v.Val.toList == ByteArray.empty.toList) <;> rfl
        · rfl
      rcases List.eq_nil_or_concat q with rfl | ⟨q0, u, hu⟩
      · have hl0 : last [] = 0 := rfl
        rw [br_f (by rfl)]
        simp only [List.nil_append, List.length_nil]
        have hz : (v :: r)[0]? = some v := rfl
        rw [ix_n hz, ix_n hz, ix_n hz]
        have := rest false (by rw [hl0]; exact (decide_eq_false (by omega)).symm)
        rw [br_f rfl] at this
        exact this
      · rw [List.concat_eq_append] at hu
        have hlen : q.length = q0.length + 1 := by rw [hu]; simp
        have hw : w64 ((q.length : Int) - 1) = (q0.length : Int) := by rw [w64_id (by omega) (by simp at hl; omega)]; omega
        have hx : (q ++ v :: r)[q0.length]? = some u := by rw [hu]; simp
        rw [br_t (decide_eq_true (by omega)), ix_mid, hw, ix_n hx, ix_mid, ix_mid, ix_mid]
        exact rest _ (by rw [hu, last_snoc])
    · have g0 := of_decide_eq_true h0
      rw [br_t rfl]
      have : decide (v.Pos ≤ last q) = true := decide_eq_true (by
        rcases hq with rfl | hq
        · show v.Pos ≤ 0; omega
        · omega)
      rw [this]; rfl
theorem ref_e {l : List TVersion} {fu : Nat} (hl : l.length ≤ 4611686018427387904) (hn : l.length < fu) : diwanref13_MayChain fu l = some (may 0 l) := by
  have := lpRef fu l [] fu hl hn (.inl rfl)
  unfold diwanref13_MayChain
  rw [List.nil_append] at this
  simp only [List.length_nil, Int.natCast_zero] at this
  rw [bd_s this]
  cases h : may (last []) l <;> rw [show may 0 l = may (last []) l from rfl, h] <;> rfl
/-- How far a row is not above a position. -/
def upg (p : Int) : List TVersion → Nat → Nat → Nat
  | [], _, n => n
  | v :: r, i, n => upg p r (i + 1) (bif decide (v.Pos ≤ p) then i + 1 else n)
theorem lpUp (fu : Nat) (p : Int) : ∀ (r q : List TVersion) (m n : Nat), (q ++ r).length ≤ 4611686018427387904 → r.length < n →
    chain_versions_upto.lp4 fu p (q ++ r) ((q ++ r).length : Int) n (m : Int) (q.length : Int) = some ((upg p r q.length m : Nat) : Int)
  | [], q, m, n, hl, hn => by
    obtain ⟨n, rfl⟩ : ∃ m, n = m + 1 := ⟨n - 1, by omega⟩
    simp only [List.append_nil]
    rw [chain_versions_upto.lp4, br_f (nlt_end _)]; rfl
  | v :: r, q, m, n, hl, hn => by
    obtain ⟨n, rfl⟩ : ∃ m, n = m + 1 := ⟨n - 1, by omega⟩
    have e : q ++ v :: r = (q ++ [v]) ++ r := by simp
    have ih := fun m => lpUp fu p r (q ++ [v]) m n (by rw [← e]; exact hl) (by simp at hn; omega)
    rw [← e] at ih
    rw [chain_versions_upto.lp4, br_t (lt_mid _ _ _), ix_mid, w64_len q r v hl, ih, ih]
    simp only [upg, List.length_append, List.length_singleton]
    cases decide (v.Pos ≤ p) <;> rfl
theorem upto_e {l : List TVersion} {fu : Nat} (p : Int) (hl : l.length ≤ 4611686018427387904) (hn : l.length < fu) : chain_versions_upto fu l p = some ((upg p l 0 0 : Nat) : Int) := by
  unfold chain_versions_upto
  have := lpUp fu p l [] 0 fu hl hn
  simp only [List.nil_append, List.length_nil, Int.natCast_zero] at this
  rw [bd_s this]
theorem upg_hi (p : Int) : ∀ (B : List TVersion) (i n : Nat), (∀ v ∈ B, p < v.Pos) → upg p B i n = n
  | [], _, _, _ => rfl
  | v :: r, i, n, h => by
    have := h v (by simp)
    simp only [upg]; rw [decide_eq_false (by omega)]
    exact upg_hi p r _ _ (fun x hx => h x (by simp [hx]))
theorem upg_lo (p : Int) : ∀ (A B : List TVersion) (v : TVersion) (i n : Nat), v.Pos ≤ p → (∀ v ∈ B, p < v.Pos) → upg p (A ++ v :: B) i n = i + A.length + 1
  | [], B, v, i, n, hv, hB => by
    simp only [List.nil_append, upg]; rw [decide_eq_true hv, upg_hi p B _ _ hB]; rfl
  | a :: A, B, v, i, n, hv, hB => by
    simp only [List.cons_append, upg]; rw [upg_lo p A B v _ _ hv hB]; simp; omega
/-- The last one that is not above a position. -/
theorem cut (p : Int) : ∀ l : List TVersion, (∀ v ∈ l, p < v.Pos) ∨ ∃ A v B, l = A ++ v :: B ∧ v.Pos ≤ p ∧ ∀ x ∈ B, p < x.Pos
  | [] => .inl (by simp)
  | a :: l => by
    rcases cut p l with h | ⟨A, v, B, rfl, h1, h2⟩
    · by_cases ha : a.Pos ≤ p
      · exact .inr ⟨[], a, l, rfl, ha, h⟩
      · refine .inl fun v hv => ?_
        rcases List.mem_cons.1 hv with rfl | hv
        · omega
        · exact h v hv
    · exact .inr ⟨a :: A, v, B, rfl, h1, h2⟩
def none0 : TVersion := TVersion.mk 0 ByteArray.empty false
theorem at_hi {l : List TVersion} {fu : Nat} {p : Int} (hl : l.length ≤ 4611686018427387904) (hn : l.length < fu) (h : ∀ v ∈ l, p < v.Pos) : chain_At fu l p = some (false, none0) := by
  unfold chain_At
  rw [bd_s (upto_e p hl hn), upg_hi p l _ _ h, br_t (by rfl)]; rfl
theorem at_lo {l A B : List TVersion} {v : TVersion} {fu : Nat} {p : Int} (hl : l.length ≤ 4611686018427387904) (hn : l.length < fu) (e : l = A ++ v :: B) (h1 : v.Pos ≤ p) (h2 : ∀ v ∈ B, p < v.Pos) : chain_At fu l p = some (true, v) := by
  unfold chain_At
  rw [bd_s (upto_e p hl hn), e, upg_lo p A B v _ _ h1 h2]
  have hA : A.length < l.length := by rw [e]; simp <;> omega
  have hw : w64 (((0 + A.length + 1 : Nat) : Int) - 1) = (A.length : Int) := by rw [w64_id (by omega) (by omega)]; omega
  rw [hw, ix_mid, br_f (by simp; omega)]
theorem lpAt (fu : Nat) (p : Int) : ∀ (m : Nat) (l : List TVersion) (n : Nat), m ≤ l.length → l.length ≤ 4611686018427387904 → m < n →
    ((∀ (i : Nat) v, i < m → l[i]? = some v → p < v.Pos) → diwanref13_At.lp3 fu l p none0 n ((m : Int) - 1) = some (.inl ())) ∧
    (∀ (k : Nat) v, k < m → l[k]? = some v → v.Pos ≤ p → (∀ (i : Nat) x, k < i → i < m → l[i]? = some x → p < x.Pos) → diwanref13_At.lp3 fu l p none0 n ((m : Int) - 1) = some (.inr v))
  | 0, l, n, hm, hl, hn => by
    obtain ⟨n, rfl⟩ : ∃ m, n = m + 1 := ⟨n - 1, by omega⟩
    refine ⟨fun _ => ?_, fun k v hk => by omega⟩
    rw [diwanref13_At.lp3, br_f (by rfl)]
  | m + 1, l, n, hm, hl, hn => by
    obtain ⟨n, rfl⟩ : ∃ m, n = m + 1 := ⟨n - 1, by omega⟩
    obtain ⟨ih1, ih2⟩ := lpAt fu p m l n (by omega) hl (by omega)
    have hx : l[m]? = some l[m] := List.getElem?_eq_getElem (by omega)
    have he : (((m + 1 : Nat) : Int) - 1) = (m : Int) := by omega
    have hw : w64 ((m : Int) - 1) = (m : Int) - 1 := w64_id (by omega) (by omega)
    rw [he, diwanref13_At.lp3, br_t (decide_eq_true (Int.natCast_nonneg _)), ix_n hx, ix_n hx, hw]
    refine ⟨fun h => ?_, fun k v hk hv hp hi => ?_⟩
    · have := h m _ (by omega) hx
      rw [br_f (decide_eq_false (by omega))]
      exact ih1 fun i v hi => h i v (by omega)
    · by_cases hkm : k = m
      · subst hkm
        rw [hx] at hv
        cases hv
        rw [br_t (decide_eq_true hp)]
      · have := hi m _ (by omega) (by omega) hx
        rw [br_f (decide_eq_false (by omega))]
        exact ih2 k v (by omega) hv hp fun i x h1 h2 => hi i x h1 (by omega)
theorem rat_hi {l : List TVersion} {fu : Nat} {p : Int} (hl : l.length ≤ 4611686018427387904) (hn : l.length < fu) (h : ∀ v ∈ l, p < v.Pos) : diwanref13_At fu l p = some (false, none0) := by
  unfold diwanref13_At
  have := (lpAt fu p l.length l fu (Nat.le_refl _) hl hn).1 fun i v _ hi => h v (List.mem_of_getElem? hi)
  rw [w64_id (by omega) (by omega), show TVersion.mk 0 ByteArray.empty false = none0 from rfl, bd_s this]
theorem rat_lo {l A B : List TVersion} {v : TVersion} {fu : Nat} {p : Int} (hl : l.length ≤ 4611686018427387904) (hn : l.length < fu) (e : l = A ++ v :: B) (h1 : v.Pos ≤ p) (h2 : ∀ v ∈ B, p < v.Pos) : diwanref13_At fu l p = some (true, v) := by
  unfold diwanref13_At
  have hA : A.length < l.length := by rw [e]; simp <;> omega
  have := (lpAt fu p l.length l fu (Nat.le_refl _) hl hn).2 A.length v hA (by rw [e]; simp) h1 fun i x hi hi' hx => by
    rw [e, List.getElem?_append_right (by omega)] at hx
    obtain ⟨d, hd⟩ : ∃ d, i - A.length = d + 1 := ⟨i - A.length - 1, by omega⟩
    rw [hd, List.getElem?_cons_succ] at hx
    exact h2 x (List.mem_of_getElem? hx)
  rw [w64_id (by omega) (by omega), show TVersion.mk 0 ByteArray.empty false = none0 from rfl, bd_s this]
theorem clone_e {l : List TVersion} (h : l.length ≤ 4294967296) : slices_Clone_api_Version l = some l := by
  unfold slices_Clone_api_Version
  rw [gd_t (decide_eq_true (by simpa using h))]
theorem trim_hi {l : List TVersion} {fu : Nat} {p : Int} (hl : l.length ≤ 4294967296) (hn : l.length < fu) (h : ∀ v ∈ l, p < v.Pos) : chain_Trim fu l p = some l := by
  unfold chain_Trim
  rw [bd_s (upto_e p (by omega) hn), upg_hi p l _ _ h]
  have : w64 (((0 : Nat) : Int) - 1) = -1 := by decide
  rw [this]
  rw [gd_t (decide_eq_true ⟨by decide, by simp⟩)]
  rw [show (if (-1 : Int) < 0 then 0 else (-1 : Int)).toNat = 0 from rfl, List.drop_zero, bd_s (clone_e hl)]
theorem trim_lo {l A B : List TVersion} {v : TVersion} {fu : Nat} {p : Int} (hl : l.length ≤ 4294967296) (hn : l.length < fu) (e : l = A ++ v :: B) (h1 : v.Pos ≤ p) (h2 : ∀ v ∈ B, p < v.Pos) : chain_Trim fu l p = some (v :: B) := by
  unfold chain_Trim
  rw [bd_s (upto_e p (by omega) hn)]
  have hA : A.length < l.length := by rw [e]; simp <;> omega
  have hw : w64 (((upg p l 0 0 : Nat) : Int) - 1) = (A.length : Int) := by rw [e, upg_lo p A B v _ _ h1 h2, w64_id (by omega) (by omega)]; omega
  rw [hw, if_neg (by omega), gd_t (decide_eq_true ⟨by omega, by omega⟩)]
  rw [Int.toNat_natCast, show List.drop A.length l = v :: B by rw [e]; simp]
  have hB : (v :: B).length ≤ l.length := by rw [e]; simp
  rw [bd_s (clone_e (by omega))]
/-- What the trimming of the reference keeps. -/
def keep (p : Int) : List TVersion → List TVersion
  | [] => []
  | [v] => [v]
  | v :: u :: r => bif decide (u.Pos ≤ p) then keep p (u :: r) else v :: keep p (u :: r)
theorem lpTrim (fu : Nat) (p : Int) : ∀ (r q out : List TVersion) (n : Nat), (q ++ r).length ≤ 1000000 → out.length ≤ q.length → r.length < n →
    diwanref13_TrimChain.lp4 fu (q ++ r) p n out (q.length : Int) = some (out ++ keep p r)
  | [], q, out, n, hl, ho, hn => by
    obtain ⟨n, rfl⟩ : ∃ m, n = m + 1 := ⟨n - 1, by omega⟩
    simp only [List.append_nil]
    rw [diwanref13_TrimChain.lp4, br_f (nlt_end _)]
    simp [keep]
  | v :: r, q, out, n, hl, ho, hn => by
    obtain ⟨n, rfl⟩ : ∃ m, n = m + 1 := ⟨n - 1, by omega⟩
    have e : q ++ v :: r = (q ++ [v]) ++ r := by simp
    have hl' : q.length + 1 + r.length ≤ 1000000 := by simp at hl; omega
    have ih := fun o h => lpTrim fu p r (q ++ [v]) o n (by rw [← e]; exact hl) (by simp; exact h) (by simp at hn; omega)
    rw [← e] at ih
    rw [diwanref13_TrimChain.lp4, br_t (lt_mid _ _ _), w64_len q r v (by omega), jn_e, ix_mid, gd_t (decide_eq_true (by simp; omega)), ih (out ++ [v]) (by simp; omega), ih out (by omega)]
    cases r with
    | nil =>
      rw [br_f (by simp)]
      simp [keep]
    | cons u r =>
      have hx : (q ++ v :: u :: r)[(q ++ [v]).length]? = some u := by rw [e]; simp
      rw [br_t (decide_eq_true (by simp; omega)), ix_n hx]
      simp only [keep]
      cases decide (u.Pos ≤ p)
      · rw [br_f rfl]; simp
      · rw [br_t rfl]; rfl
theorem rtrim_e {l : List TVersion} {fu : Nat} {p : Int} (hl : l.length ≤ 1000000) (hn : l.length < fu) : diwanref13_TrimChain fu l p = some (keep p l) := by
  unfold diwanref13_TrimChain
  have := lpTrim fu p l [] [] fu hl (Nat.le_refl _) hn
  simp only [List.nil_append, List.length_nil, Int.natCast_zero] at this
  rw [bd_s this]
theorem keep_hi (p : Int) : ∀ (v : TVersion) (l : List TVersion), (∀ x ∈ l, p < x.Pos) → keep p (v :: l) = v :: l
  | v, [], _ => rfl
  | v, u :: r, h => by
    have := h u (by simp)
    simp only [keep]; rw [decide_eq_false (by omega), keep_hi p u r fun x hx => h x (by simp [hx])]; rfl
/-- The rows that may be rise. -/
theorem may_rise : ∀ {l : List TVersion} {q : Int}, may q l = true → ∀ {A B : List TVersion} {v : TVersion}, l = A ++ v :: B → q < v.Pos ∧ ∀ x ∈ A, x.Pos < v.Pos
  | [], _, _, A, B, v, e => by simp at e
  | a :: l, q, h, A, B, v, e => by
    obtain ⟨h1, _, _, h4⟩ := may_cons h
    cases A with
    | nil =>
      simp at e
      obtain ⟨rfl, rfl⟩ := e
      exact ⟨h1, by simp⟩
    | cons b A =>
      simp at e
      obtain ⟨rfl, e⟩ := e
      obtain ⟨g1, g2⟩ := may_rise h4 e
      refine ⟨by omega, fun x hx => ?_⟩
      rcases List.mem_cons.1 hx with rfl | hx
      · exact g1
      · exact g2 x hx
theorem keep_lo (p : Int) : ∀ (A B : List TVersion) (v : TVersion), (∀ x ∈ A, x.Pos ≤ p) → v.Pos ≤ p → (∀ x ∈ B, p < x.Pos) → keep p (A ++ v :: B) = v :: B
  | [], B, v, _, _, hB => keep_hi p v B hB
  | a :: A, B, v, hA, hv, hB => by
    have ih := keep_lo p A B v (fun x hx => hA x (by simp [hx])) hv hB
    cases A with
    | nil =>
      simp only [List.cons_append, List.nil_append, keep] at ih ⊢
      rw [decide_eq_true hv]; exact ih
    | cons b A =>
      simp only [List.cons_append, keep] at ih ⊢
      rw [decide_eq_true (hA b (by simp))]; exact ih
theorem lpSame (fu : Nat) : ∀ (r q : List TVersion) (n : Nat), (q ++ r).length ≤ 4611686018427387904 → r.length < n → diwanref13_SameChain.lp6 fu (q ++ r) (q ++ r) n (q.length : Int) = some (.inl ())
  | [], q, n, hl, hn => by
    obtain ⟨n, rfl⟩ : ∃ m, n = m + 1 := ⟨n - 1, by omega⟩
    simp only [List.append_nil]
    rw [diwanref13_SameChain.lp6, br_f (nlt_end _)]
  | v :: r, q, n, hl, hn => by
    obtain ⟨n, rfl⟩ : ∃ m, n = m + 1 := ⟨n - 1, by omega⟩
    have e : q ++ v :: r = (q ++ [v]) ++ r := by simp
    have ih := lpSame fu r (q ++ [v]) n (by rw [← e]; exact hl) (by simp at hn; omega)
    rw [← e] at ih
    rw [diwanref13_SameChain.lp6, br_t (lt_mid _ _ _), ix_mid, ix_mid, w64_len q r v hl, ih, br_f (by simp)]
theorem same_e {l : List TVersion} {fu : Nat} (hl : l.length ≤ 4611686018427387904) (hn : l.length < fu) : diwanref13_SameChain fu l l = some true := by
  unfold diwanref13_SameChain
  have := lpSame fu l [] fu hl hn
  simp only [List.nil_append, List.length_nil, Int.natCast_zero] at this
  rw [br_f (by simp), bd_s this]
theorem last_e {l : List TVersion} (hl : l.length ≤ 4611686018427387904) : chain_Last l = some (last l) ∧ diwanref13_LastOf l = some (last l) := by
  unfold chain_Last chain_versions_last diwanref13_LastOf
  rcases List.eq_nil_or_concat l with rfl | ⟨q, v, e⟩
  · exact ⟨rfl, rfl⟩
  · rw [List.concat_eq_append] at e
    have hlen : l.length = q.length + 1 := by rw [e]; simp
    have hw : w64 ((l.length : Int) - 1) = (q.length : Int) := by rw [w64_id (by omega) (by omega)]; omega
    have hx : l[q.length]? = some v := by rw [e]; simp
    have hne : ((l.length : Int) == 0) = false := beq_eq_false_iff_ne.2 (by omega)
    rw [br_f hne, hw, ix_n hx, e, last_snoc]
    exact ⟨rfl, rfl⟩
def addV (l : List TVersion) (v : TVersion) : List TVersion := bif decide (v.Pos ≤ last l) then l else l ++ [v]
theorem add_e {l : List TVersion} (v : TVersion) (hl : l.length < 4294967296) : chain_Add l v = some (addV l v) ∧ diwanref13_Add l v = some (addV l v) := by
  obtain ⟨h1, h2⟩ := last_e (l := l) (by omega)
  unfold chain_Add diwanref13_Add addV
  rw [bd_s h1, bd_s h2, bd_s (clone_e (l := l) (by omega)), bd_s (clone_e (l := l) (by omega)), gd_t (decide_eq_true (by simp; omega)), gd_t (decide_eq_true (by simp; omega))]
  cases decide (v.Pos ≤ last l) <;> exact ⟨rfl, rfl⟩
theorem made_lp (fu : Nat) : ∀ (r q : List Int) (out : List TVersion) (p : Int) (n : Nat), (q ++ r).length ≤ 15 → r.length < n → (∀ x ∈ r, okI .u8 x) → out.length ≤ q.length → 0 ≤ p → p ≤ 300 * q.length →
    may 0 out = true → p = last out → ∃ o, diwanlaw15_made.lp5 fu (q ++ r) n out p (q.length : Int) = some o ∧ may 0 o = true ∧ o.length ≤ (q ++ r).length
  | [], q, out, p, n, hl, hn, hr, ho, hp, hp', hm, hlast => by
    obtain ⟨n, rfl⟩ : ∃ m, n = m + 1 := ⟨n - 1, by omega⟩
    simp only [List.append_nil]
    rw [diwanlaw15_made.lp5, br_f (nlt_end _)]
    exact ⟨out, rfl, hm, ho⟩
  | v :: r, q, out, p, n, hl, hn, hr, ho, hp, hp', hm, hlast => by
    obtain ⟨n, rfl⟩ : ∃ m, n = m + 1 := ⟨n - 1, by omega⟩
    have e : q ++ v :: r = (q ++ [v]) ++ r := by simp
    have hl' : q.length + 1 + r.length ≤ 15 := by simp at hl; omega
    obtain ⟨hv0, hv1⟩ := okI_u8 (hr v (by simp))
    have ih := fun o p h1 h2 h3 h4 h5 => made_lp fu r (q ++ [v]) o p n (by rw [← e]; exact hl) (by simp at hn; omega) (fun x hx => hr x (by simp [hx])) h1 h2 h3 h4 h5
    rw [← e] at ih
    have t4 := Int.tmod_eq_emod_of_nonneg (a := v) (b := 4) hv0
    have d4 := Int.tdiv_eq_ediv_of_nonneg (a := v) (b := 4) hv0
    have hP : w64 ((w64 (p + 1)) + (w64 (Int.tmod v 4))) = p + 1 + v % 4 := by
      rw [t4, w64_id (n := p + 1) (by omega) (by omega), w64_id (n := v % 4) (by omega) (by omega), w64_id (by omega) (by omega)]
    have hI : Int.tmod (w8 (Int.tdiv v 4)) 3 = (v / 4) % 3 := by
      rw [d4, w8_id (by omega) (by omega), Int.tmod_eq_emod_of_nonneg (by omega)]
    have hx : ∃ s : ByteArray, ([ByteArray.empty, (⟨#[118]⟩ : ByteArray), (⟨#[119]⟩ : ByteArray)] : List ByteArray)[((v / 4) % 3).toNat]? = some s ∧ s.size ≤ 16 := by
      have : (v / 4 % 3).toNat = 0 ∨ (v / 4 % 3).toNat = 1 ∨ (v / 4 % 3).toNat = 2 := by omega
      rcases this with h | h | h <;> rw [h]
      · exact ⟨_, rfl, by decide⟩
      · exact ⟨_, rfl, by decide⟩
      · exact ⟨_, rfl, by decide⟩
    obtain ⟨s, hs, hs'⟩ := hx
    rw [diwanlaw15_made.lp5, br_t (lt_mid _ _ _), ix_mid, ix_mid, hI, ix_s (by omega) hs, ix_mid, w64_len q r v (by omega), hP]
    have step : ∀ u : TVersion, u.Pos = p + 1 + v % 4 → u.Val.size ≤ 16 → (u.Gone = true → u.Val = ByteArray.empty) → ∃ o, (gd (decide (out.length + ([u] : List TVersion).length ≤ 4294967296)) <|
        diwanlaw15_made.lp5 fu (q ++ v :: r) n (out ++ [u]) (p + 1 + v % 4) ((q ++ [v]).length : Int)) = some o ∧ may 0 o = true ∧ o.length ≤ (q ++ v :: r).length := by
      intro u h1 h2 h3
      rw [gd_t (decide_eq_true (by simp; omega))]
      refine ih _ _ (by simp; omega) (by omega) (by simp; omega) ?_ (by rw [last_snoc, h1])
      have key : ∀ (l : List TVersion) (z : Int), may z l = true → (match l.getLast? with | some x => x.Pos | none => z) < u.Pos → may z (l ++ [u]) = true := by
        intro l
        induction l with
        | nil =>
          intro z _ hz
          simp only [List.nil_append, may]
          rw [decide_eq_false (by simpa using hz), decide_eq_false (by omega)]
          cases hg : u.Gone
          · rfl
          · rw [h3 hg, beq_self_eq_true]; rfl
        | cons a l ihl =>
          intro z hz hz'
          have hz2 := hz
          simp only [may] at hz
          simp only [List.cons_append, may]
          obtain ⟨_, _, _, h4⟩ := may_cons hz2
          have := ihl a.Pos h4 (by
            cases l with
            | nil => simpa using hz'
            | cons b l =>
              rw [List.getLast?_cons_cons] at hz'
              cases hg : (b :: l).getLast? with
              | none => simp at hg
              | some x => rw [hg] at hz'; exact hz')
          rw [h4] at hz
          rw [this]
          exact hz
      refine key out 0 hm ?_
      have : last out < u.Pos := by omega
      exact this
    by_cases h5 : (Int.tmod v 5 == 0) = true
    · rw [br_t h5]
      exact step ⟨p + 1 + v % 4, ByteArray.empty, true⟩ rfl (Nat.zero_le _) (fun _ => rfl)
    · rw [br_f (by simpa using h5)]
      exact step ⟨p + 1 + v % 4, s, false⟩ rfl hs' (fun h => by cases h)
theorem made_e {l : List Int} {fu : Nat} (hl : l.length ≤ 15) (hn : l.length < fu) (h : ∀ x ∈ l, okI .u8 x) : ∃ o, diwanlaw15_made fu l = some o ∧ may 0 o = true ∧ o.length ≤ 15 := by
  obtain ⟨o, h1, h2, h3⟩ := made_lp fu l [] [] 0 fu (by simpa using hl) hn h (Nat.le_refl _) (by omega) (by simp) rfl rfl
  unfold diwanlaw15_made
  simp only [List.nil_append, List.length_nil, Int.natCast_zero] at h1 h3
  exact ⟨o, by rw [bd_s h1], h2, by omega⟩
/-- One position of one row. -/
theorem one {l : List TVersion} {fu : Nat} (hl : l.length ≤ 15) (hn : l.length < fu) (hm : may 0 l = true) (p : Int) : ∃ b v t, chain_At fu l p = some (b, v) ∧ diwanref13_At fu l p = some (b, v) ∧
    chain_Trim fu l p = some t ∧ diwanref13_TrimChain fu l p = some t ∧ diwanref13_SameChain fu t t = some true := by
  rcases cut p l with h | ⟨A, v, B, e, h1, h2⟩
  · refine ⟨_, _, _, at_hi (by omega) hn h, rat_hi (by omega) hn h, trim_hi (by omega) hn h, ?_, same_e (by omega) hn⟩
    rw [rtrim_e (by omega) hn]
    cases l with
    | nil => rfl
    | cons a l => rw [keep_hi p a l fun x hx => h x (by simp [hx])]
  · have hB : (v :: B).length ≤ l.length := by rw [e]; simp
    refine ⟨_, _, _, at_lo (by omega) hn e h1 h2, rat_lo (by omega) hn e h1 h2, trim_lo (by omega) hn e h1 h2, ?_, same_e (by omega) (by omega)⟩
    rw [rtrim_e (by omega) hn, e, keep_lo p A B v (fun x hx => ?_) h1 h2]
    have := (may_rise hm e).2 x hx
    omega
theorem lp34 (fu : Nat) (hf : 20 ≤ fu) (p : Int) (both : List (List TVersion)) (b : Int) {l : List TVersion} (w : TVersion) (hl : l.length ≤ 15) (hm : may 0 l = true) : ∀ (m n : Nat) (i : Int), i = 8 - m → m ≤ 9 → m < n →
    diwanlaw15_ChainAll.lp34 fu p both b l w n i = some (.inl ())
  | 0, n, i, hi, _, hn => by
    obtain ⟨n, rfl⟩ : ∃ m, n = m + 1 := ⟨n - 1, by omega⟩
    rw [diwanlaw15_ChainAll.lp34, br_f (decide_eq_false (by omega))]
  | m + 1, n, i, hi, hm9, hn => by
    obtain ⟨n, rfl⟩ : ∃ m, n = m + 1 := ⟨n - 1, by omega⟩
    have ih := lp34 fu hf p both b w hl hm m n (i + 1) (by omega) (by omega) (by omega)
    rw [diwanlaw15_ChainAll.lp34, br_t (decide_eq_true (by omega)), jn_e, w64_id (n := i + 1) (by omega) (by omega), ih]
    have key : ∀ j : Int, (bd (chain_At fu l j) fun (r42_1, r42_2) =>
        bd (diwanref13_At fu l j) fun (r43_1, r43_2) =>
        br (!((r42_2.Pos == r43_2.Pos) && ((r42_2.Val.toList == r43_2.Val.toList) && ((r42_2.Gone == r43_2.Gone) && true))))
          (some (Sum.inr ()))
          (br (!(r42_1 == r43_1))
            (some (.inr ()))
            (bd (chain_Trim fu l j) fun r44_3 =>
            bd (diwanref13_TrimChain fu l j) fun r44_5 =>
            bd (diwanref13_SameChain fu r44_3 r44_5) fun r44_7 =>
            br (!r44_7)
              (some (.inr ()))
              (some (Sum.inl ()))))) = some (.inl ()) := by
      intro j
      obtain ⟨b, v, t, h1, h2, h3, h4, h5⟩ := one hl (by omega) hm (fu := fu) j
      rw [h1, h2, h3, h4]
      simp only [bd, h5]
      rw [br_f (by simp), br_f (by simp), br_f (by simp)]
    dsimp only
    cases decide (i ≥ 0)
    · rw [br_f rfl]; exact key _
    · rw [br_t rfl]; exact key _
theorem lp26 (fu : Nat) (hf : 20 ≤ fu) (p : Int) (w : TVersion) (both : List (List TVersion)) (hb : both.length = 2) (hl : ∀ l ∈ both, l.length ≤ 15) : ∀ (m n : Nat) (i : Int), i = 2 - m → m ≤ 2 → m < n →
    diwanlaw15_ChainAll.lp26 fu p both w n i = some (.inl ())
  | 0, n, i, hi, _, hn => by
    obtain ⟨n, rfl⟩ : ∃ m, n = m + 1 := ⟨n - 1, by omega⟩
    rw [diwanlaw15_ChainAll.lp26, br_f (decide_eq_false (by omega))]
  | m + 1, n, i, hi, hm9, hn => by
    obtain ⟨n, rfl⟩ : ∃ m, n = m + 1 := ⟨n - 1, by omega⟩
    have ih := lp26 fu hf p w both hb hl m n (i + 1) (by omega) (by omega) (by omega)
    have hx : both[i.toNat]? = some both[i.toNat] := List.getElem?_eq_getElem (by omega)
    have hlen := hl _ (List.mem_of_getElem? hx)
    generalize both[i.toNat]'(by omega) = l at hx hlen
    rw [diwanlaw15_ChainAll.lp26, br_t (decide_eq_true (by omega)), ix_s (by omega) hx, w64_id (n := i + 1) (by omega) (by omega), ih, bd_s (ref_e (by omega) (by omega))]
    cases hm : may 0 l
    · rw [br_t (by rfl)]
    · rw [br_f (by rfl), bd_s (lp34 fu hf p both i w hlen hm 9 fu (-1) (by omega) (by omega) (by omega))]
      dsimp only
      obtain ⟨a1, a2⟩ := last_e (l := l) (by omega)
      obtain ⟨b1, b2⟩ := add_e (l := l) w (by omega)
      have h5 := same_e (l := addV l w) (fu := fu) (by unfold addV; cases decide (w.Pos ≤ last l) <;> simp <;> omega) (by unfold addV; cases decide (w.Pos ≤ last l) <;> simp <;> omega)
      rw [bd_s a1, bd_s a2, br_f (by simp), bd_s b1, bd_s b2, bd_s h5, br_f (by rfl)]
theorem lp11 (fu : Nat) (picks : List Int) (pos : Int) (w : TVersion) : ∀ (r q : List TVersion) (n : Nat), (q ++ r).length ≤ 4611686018427387904 → r.length < n →
    ∃ o, diwanlaw15_ChainAll.lp11 fu picks (q ++ r) pos w n (q.length : Int) = some o
  | [], q, n, hl, hn => by
    obtain ⟨n, rfl⟩ : ∃ m, n = m + 1 := ⟨n - 1, by omega⟩
    simp only [List.append_nil]
    rw [diwanlaw15_ChainAll.lp11, br_f (nlt_end _)]
    exact ⟨_, rfl⟩
  | v :: r, q, n, hl, hn => by
    obtain ⟨n, rfl⟩ : ∃ m, n = m + 1 := ⟨n - 1, by omega⟩
    have e : q ++ v :: r = (q ++ [v]) ++ r := by simp
    obtain ⟨o, ih⟩ := lp11 fu picks pos w r (q ++ [v]) n (by rw [← e]; exact hl) (by simp at hn; omega)
    rw [← e] at ih
    rw [diwanlaw15_ChainAll.lp11, br_t (lt_mid _ _ _), ix_mid, w64_len q r v hl, ih]
    cases decide ((v.Val.size : Int) > 60)
    · rw [br_f rfl]; exact ⟨_, rfl⟩
    · rw [br_t rfl]; exact ⟨_, rfl⟩
theorem begun_e : diwanlaw15_begun 40 = some true := by kernel_rfl
theorem holds (picks : List Int) (l : List TVersion) (v : TVersion) (pos : Int) (k0 : okL (okI .u8) picks) (k1 : okL TVersion.ok l) (k2 : TVersion.ok v) (k3 : okI .i64 pos) : ∃ fu, diwanlaw15_ChainAll fu picks l v pos = some true := by
  refine ⟨40, ?_⟩
  unfold diwanlaw15_ChainAll
  rw [bd_s begun_e, br_f (by rfl)]
  cases h1 : decide ((picks.length : Int) > 15)
  · rw [br_f rfl]
    cases h2 : decide ((l.length : Int) > 10)
    · rw [br_f rfl]
      cases h3 : decide ((v.Val.size : Int) > 60)
      · rw [br_f rfl]
        have g1 := of_decide_eq_false h1
        have g2 := of_decide_eq_false h2
        obtain ⟨o, ho⟩ := lp11 40 picks pos v l [] 40 (by simp; omega) (by omega)
        simp only [List.nil_append, List.length_nil, Int.natCast_zero] at ho
        rw [bd_s ho]
        cases o with
        | inr _ => rfl
        | inl _ =>
          obtain ⟨m, m1, m2, m3⟩ := made_e (l := picks) (fu := 40) (by omega) (by omega) k0.2
          dsimp only
          rw [bd_s m1, bd_s (may_e (l := l) (by omega) (by omega)), bd_s (ref_e (l := l) (by omega) (by omega)), br_f (by simp), bd_s (may_e (l := m) (by omega) (by omega)), m2, br_f (by rfl)]
          rw [bd_s (lp26 40 (by omega) pos v [m, l] rfl (by simp; omega) 2 40 0 (by omega) (by omega) (by omega))]
      · rfl
    · rfl
  · rfl
end Go.Proofs.Ythaaadjgjpjjpaa.Told.PureChainAll
