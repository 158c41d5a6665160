/- The plain law of JudgeBlind: who has read nothing is judged by its turn alone. -/
import Derived.Test.YtknkeabmjleoiaaTTxns
import Derived.Test.YtknkeabmjleoiaaTAgain
namespace Go.Proofs.Ytknkeabmjleoiaa.Told.PureJudgeBlind
open Go Go.Proofs.Ytknkeabmjleoiaa.Vam Go.Proofs.Ytknkeabmjleoiaa.Told Go.Proofs.Ytknkeabmjleoiaa.Told.PK Go.Proofs.Ytknkeabmjleoiaa.Told.ST Go.Proofs.Ytknkeabmjleoiaa.Told.JF
set_option linter.unusedSimpArgs false
set_option linter.unusedVariables false
theorem begun_e : diwanlaw18_begun 200 = some true := by kernel_rfl
def bl (t : TTxn) : TTxn := TTxn.mk t.Session t.Seq [] t.Writes
theorem lp11 (fu : Nat) (z : TA10_int) : ∀ (r q : List TTxn) (n : Nat), (q ++ r).length ≤ 1000000 → r.length < n →
    diwanlaw18_JudgeBlind.lp11 fu z n (q ++ r) (q.length : Int) = some (q ++ r.map bl)
  | [], q, n, hl, hn => by
    obtain ⟨n, rfl⟩ : ∃ m, n = m + 1 := ⟨n - 1, by omega⟩
    simp only [List.append_nil]
    rw [diwanlaw18_JudgeBlind.lp11, br_f (nlt_end _)]; simp
  | t :: r, q, n, hl, hn => by
    obtain ⟨n, rfl⟩ : ∃ m, n = m + 1 := ⟨n - 1, by omega⟩
    have ih := lp11 fu z r (q ++ [bl t]) n (by simp at hl ⊢; omega) (by simp at hn; omega)
    have e2 : (q ++ [t]).length = (q ++ [bl t]).length := by simp
    rw [diwanlaw18_JudgeBlind.lp11, br_t (lt_mid _ _ _), ix_mid, Int.toNat_natCast, SF.set_mid, w64_len q r t (by omega), e2]
    show diwanlaw18_JudgeBlind.lp11 fu z n (q ++ bl t :: r) _ = _
    rw [show q ++ bl t :: r = (q ++ [bl t]) ++ r by simp, ih]; simp
/-- What is said of one that has read nothing. -/
theorem blind_said {b : TBench} {t : TTxn} (hs : SF.Srt b.seats) (h1 : 1 ≤ t.Seq) (hr : t.Reads = []) : (stepF b t).said = b.said ++ [bif decide (t.Seq > seqOf t.Session b.seats) then 1 else 3] := by
  obtain ⟨g1, _, _⟩ := turnF_seq (t := t.Session) (s := t.Seq) (p := posF b) h1 hs
  unfold stepF
  rw [g1, hr]
  cases decide (t.Seq > seqOf t.Session b.seats) <;> rfl
def said (b : TBench) : List TTxn → List Int
  | [] => []
  | t :: r => (bif decide (t.Seq > seqOf t.Session b.seats) then 1 else 3) :: said (stepF b t) r
theorem said_e : ∀ {r : List TTxn} {b : TBench}, SF.Srt b.seats → (∀ t ∈ r, 1 ≤ t.Seq ∧ t.Reads = []) → (r.foldl stepF b).said = b.said ++ said b r
  | [], b, _, _ => by simp [said]
  | t :: r, b, hs, h => by
    obtain ⟨h1, h2⟩ := h t (by simp)
    show (r.foldl stepF (stepF b t)).said = _
    rw [said_e (b := stepF b t) (by rw [step_seats]; exact (turnF_srt _ _ _ hs).1) fun t ht => h t (by simp [ht]), blind_said hs h1 h2]
    simp [said]
theorem lp22 (fu : Nat) : ∀ (r q : List TTxn) (V : List Int) (v : List Int) (n : Nat) (b : TBench) (a : TA10_int), (q ++ r).length ≤ 1000000 → V.length = q.length → v = V ++ said b r → SF.Srt b.seats → (∀ t ∈ r, 1 ≤ t.Seq ∧ 1 ≤ t.Session ∧ t.Session ≤ 3) → a.c1 = seqOf 1 b.seats → a.c2 = seqOf 2 b.seats → a.c3 = seqOf 3 b.seats → r.length < n →
    diwanlaw18_JudgeBlind.lp22 fu (q ++ r) v n (q.length : Int) a = some (.inl ())
  | [], q, V, v, n, b, a, hl, hV, hv, hs, ht, a1, a2, a3, hn => by
    obtain ⟨n, rfl⟩ : ∃ m, n = m + 1 := ⟨n - 1, by omega⟩
    simp only [List.append_nil]
    rw [diwanlaw18_JudgeBlind.lp22, br_f (nlt_end _)]
  | t :: r, q, V, v, n, b, a, hl, hV, hv, hs, ht, a1, a2, a3, hn => by
    obtain ⟨n, rfl⟩ : ∃ m, n = m + 1 := ⟨n - 1, by omega⟩
    have e : q ++ t :: r = (q ++ [t]) ++ r := by simp
    obtain ⟨h1, h2, h3⟩ := ht t (by simp)
    obtain ⟨_, _, g3⟩ := turnF_seq (t := t.Session) (s := t.Seq) (p := posF b) h1 hs
    rw [← step_seats] at g3
    have ih := fun a' k1 k2 k3 => lp22 fu r (q ++ [t]) (V ++ [bif decide (t.Seq > seqOf t.Session b.seats) then 1 else 3]) v n (stepF b t) a' (by rw [← e]; exact hl) (by simp [hV]) (by rw [hv]; simp [said]) (by rw [step_seats]; exact (turnF_srt _ _ _ hs).1) (fun t h => ht t (by simp [h])) k1 k2 k3 (by simp at hn; omega)
    rw [← e] at ih
    have hx : v[q.length]? = some (bif decide (t.Seq > seqOf t.Session b.seats) then 1 else 3) := by
      rw [hv, ← hV]; simp [said]
    have same : (!(((bif decide (t.Seq > seqOf t.Session b.seats) then (1 : Int) else 3) == 1) == decide (t.Seq > seqOf t.Session b.seats))) = false := by
      cases decide (t.Seq > seqOf t.Session b.seats) <;> rfl
    have not2 : ((bif decide (t.Seq > seqOf t.Session b.seats) then (1 : Int) else 3) == 2) = false := by
      cases decide (t.Seq > seqOf t.Session b.seats) <;> rfl
    have mx : ∀ c : Int, (if c < t.Seq then t.Seq else c) = bif decide (t.Seq > c) then t.Seq else c := fun c => by
      by_cases g : c < t.Seq
      · rw [if_pos g, decide_eq_true (show t.Seq > c from g)]; rfl
      · rw [if_neg g, decide_eq_false (show ¬ t.Seq > c from g)]; rfl
    rw [diwanlaw18_JudgeBlind.lp22, br_t (lt_mid _ _ _), ix_mid, jn_e, ix_n hx, ix_mid, w64_len q r t (by omega)]
    have c : t.Session = 1 ∨ t.Session = 2 ∨ t.Session = 3 := by omega
    rcases c with c | c | c <;> rw [c] at same not2 g3 ⊢
    · rw [br_f (b := ((1 : Int) == 0)) rfl, br_t (b := ((1 : Int) == 1)) rfl, a1, br_f same, ix_n (by rw [hx, c]), br_f not2, br_f (b := ((1 : Int) == 0)) rfl, br_t (b := ((1 : Int) == 1)) rfl, ix_mid]
      refine ih _ ?_ ?_ ?_
      · show (if seqOf 1 b.seats < t.Seq then t.Seq else seqOf 1 b.seats) = _
        rw [g3 1, mx]; rfl
      · rw [g3 2, a2]; rfl
      · rw [g3 3, a3]; rfl
    · rw [br_f (b := ((2 : Int) == 0)) rfl, br_f (b := ((2 : Int) == 1)) rfl, br_t (b := ((2 : Int) == 2)) rfl, a2, br_f same, ix_n (by rw [hx, c]), br_f not2, br_f (b := ((2 : Int) == 0)) rfl, br_f (b := ((2 : Int) == 1)) rfl, br_t (b := ((2 : Int) == 2)) rfl, ix_mid]
      refine ih _ ?_ ?_ ?_
      · rw [g3 1, a1]; rfl
      · show (if seqOf 2 b.seats < t.Seq then t.Seq else seqOf 2 b.seats) = _
        rw [g3 2, mx]; rfl
      · rw [g3 3, a3]; rfl
    · rw [br_f (b := ((3 : Int) == 0)) rfl, br_f (b := ((3 : Int) == 1)) rfl, br_f (b := ((3 : Int) == 2)) rfl, br_t (b := ((3 : Int) == 3)) rfl, a3, br_f same, ix_n (by rw [hx, c]), br_f not2, br_f (b := ((3 : Int) == 0)) rfl, br_f (b := ((3 : Int) == 1)) rfl, br_f (b := ((3 : Int) == 2)) rfl, br_t (b := ((3 : Int) == 3)) rfl, ix_mid]
      refine ih _ ?_ ?_ ?_
      · rw [g3 1, a1]; rfl
      · rw [g3 2, a2]; rfl
      · show (if seqOf 3 b.seats < t.Seq then t.Seq else seqOf 3 b.seats) = _
        rw [g3 3, mx]; rfl
theorem holds (picks : List Int) (k0 : okL (okI .u8) picks) : ∃ fu, diwanlaw18_JudgeBlind fu picks = some true := by
  refine ⟨200, ?_⟩
  unfold diwanlaw18_JudgeBlind
  rw [bd_s begun_e, br_f (by rfl)]
  by_cases h1 : (picks.length : Int) > 250
  · rw [br_t (decide_eq_true h1)]
  rw [br_f (decide_eq_false h1)]
  unfold diwanplay_Made
  rw [bd_s rfl]
  obtain ⟨l, o, t1, _, hl, ht⟩ := txs_e (fu := 200) (Nat.le_refl _) 20 (by decide) (made_inv (l := picks) k0.2 (by omega))
  rw [show (20 : Int) = ((20 : Nat) : Int) from rfl, bd_s t1]
  dsimp only
  have h11 := lp11 200 (TA10_int.mk 0 0 0 0 0 0 0 0 0 0) l [] 200 (by simp; omega) (by omega)
  simp only [List.nil_append, List.length_nil, Int.natCast_zero] at h11
  rw [bd_s h11]
  have hm : ∀ t ∈ l.map bl, 1 ≤ t.Seq ∧ t.Reads = [] ∧ t.Writes.length ≤ 3 ∧ 1 ≤ t.Session ∧ t.Session ≤ 3 := fun t h => by
    obtain ⟨u, hu, rfl⟩ := List.mem_map.1 h
    exact ⟨(ht u hu).sq.1, rfl, (ht u hu).wl, (ht u hu).se⟩
  have hml : (l.map bl).length = 20 := by simp [hl]
  obtain ⟨f1, inv⟩ := fold_e (fu := 200) (l := l.map bl) (by omega) (by omega) fun t h => ⟨by rw [(hm t h).2.1]; simp, (hm t h).2.2.1⟩
  have e1 := inv.sl
  have hsd := said_e (r := l.map bl) (b := b0) List.Pairwise.nil fun t h => ⟨(hm t h).1, (hm t h).2.1⟩
  rw [bd_s f1]
  dsimp only
  have h22 := lp22 200 (l.map bl) [] [] (foldF (l.map bl)).said 200 b0 (TA10_int.mk 0 0 0 0 0 0 0 0 0 0) (by simp; omega) rfl hsd List.Pairwise.nil (fun t h => ⟨(hm t h).1, (hm t h).2.2.2⟩) rfl rfl rfl (by omega)
  simp only [List.nil_append, List.length_nil, Int.natCast_zero] at h22
  rw [br_f (by rw [e1]; simp), bd_s h22]
end Go.Proofs.Ytknkeabmjleoiaa.Told.PureJudgeBlind
