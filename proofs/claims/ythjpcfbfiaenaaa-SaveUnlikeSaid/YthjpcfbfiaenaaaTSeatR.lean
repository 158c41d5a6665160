/- A turn by the reference. -/
import Derived.Test.YthjpcfbfiaenaaaTSeat
namespace Go.Proofs.Ythjpcfbfiaenaaa.Told.SF
open Go Go.Proofs.Ythjpcfbfiaenaaa.Vam Go.Proofs.Ythjpcfbfiaenaaa.Told
set_option linter.unusedSimpArgs false
set_option linter.unusedVariables false
theorem rlp (fu : Nat) (seq pos : Int) (t : Int) : ∀ (r A q : List TSeat) (B : List TSeat) (n : Nat), (q ++ r ++ B).length ≤ 1000000 → (∀ v ∈ r, v.Session < t) → (∀ v ∈ B, t ≤ v.Session) → r.length < n →
  diwanref13_Turn.lp4 fu t seq pos (q ++ r ++ B) n (q.length : Int) = some (((q ++ r).length : Nat) : Int)
 | [], A, q, B, n, hl, hr, hB, hn => by
  obtain ⟨n, rfl⟩ : ∃ m, n = m + 1 := ⟨n - 1, by omega⟩
  simp only [List.append_nil] at hl ⊢
  rw [diwanref13_Turn.lp4]
  cases B with
  | nil => rw [br_f (decide_eq_false (by simp))]
  | cons v R =>
   have := hB v (by simp)
   rw [br_t (lt_mid q R v), ix_mid, br_f (decide_eq_false (by omega))]
 | v :: r, A, q, B, n, hl, hr, hB, hn => by
  obtain ⟨n, rfl⟩ : ∃ m, n = m + 1 := ⟨n - 1, by omega⟩
  have e : q ++ v :: r ++ B = (q ++ [v]) ++ r ++ B := by simp
  have e' : q ++ v :: r ++ B = q ++ v :: (r ++ B) := by simp
  have e2 : (q ++ v :: r).length = ((q ++ [v]) ++ r).length := by simp <;> omega
  have ih := rlp fu seq pos t r A (q ++ [v]) B n (by rw [← e]; exact hl) (fun x hx => hr x (by simp [hx])) hB (by simp at hn; omega)
  rw [← e, ← e2] at ih
  rw [e'] at hl ih ⊢
  rw [diwanref13_Turn.lp4, br_t (lt_mid _ _ _), ix_mid, br_t (decide_eq_true (hr v (by simp))), w64_len q (r ++ B) v (by omega), ih]
theorem rturn_e {fu : Nat} {l A B : List TSeat} {t : Int} (seq pos : Int) (e : l = A ++ B) (hA : ∀ v ∈ A, v.Session < t) (hB : ∀ v ∈ B, t ≤ v.Session) (hl : l.length ≤ 1000000) (hf : l.length < fu) : diwanref13_Turn fu l t seq pos = some (turnOf A B t seq pos) := by
 subst e
 have hlen : (A ++ B).length = A.length + B.length := by simp
 have h := rlp fu seq pos t A [] [] B fu (by simpa using hl) hA hB (by omega)
 simp only [List.nil_append, List.length_nil, Int.natCast_zero] at h
 unfold diwanref13_Turn
 rw [gd_t (decide_eq_true (by simp at hl ⊢; omega)), bd_s h, jn_e]
 have ins : (gd (decide ((0 : Int) ≤ (A.length : Int) ∧ (A.length : Int) ≤ ((A ++ B).length : Int))) <|
  gd (decide (([] : List TSeat).length + (List.take (A.length : Int).toNat (A ++ B)).length ≤ 4294967296)) <|
  gd (decide ((List.take (A.length : Int).toNat (A ++ B)).length + ([(TSeat.mk t seq pos)] : List TSeat).length ≤ 4294967296)) <|
  gd (decide ((0 : Int) ≤ (A.length : Int) ∧ (A.length : Int) ≤ ((A ++ B).length : Int))) <|
  gd (decide (((List.take (A.length : Int).toNat (A ++ B)) ++ ([(TSeat.mk t seq pos)] : List TSeat)).length + (List.drop (A.length : Int).toNat (A ++ B)).length ≤ 4294967296)) <|
  some ((((List.take (A.length : Int).toNat (A ++ B)) ++ ([(TSeat.mk t seq pos)] : List TSeat)) ++ (List.drop (A.length : Int).toNat (A ++ B))), true)) = some (A ++ TSeat.mk t seq pos :: B, true) := by
  rw [Int.toNat_natCast, List.take_left' rfl, List.drop_left' rfl]
  rw [gd_t (decide_eq_true (by omega)), gd_t (decide_eq_true (by simp; omega)), gd_t (decide_eq_true (by simp; omega)), gd_t (decide_eq_true (by omega)), gd_t (decide_eq_true (by simp; omega))]
  simp
 rw [ins]
 cases B with
 | nil => rw [br_f (decide_eq_false (by simp))]; rfl
 | cons v R =>
  rw [br_t (lt_mid A R v), ix_mid, ix_mid, ix_mid]
  simp only [turnOf]
  cases h1 : (v.Session == t)
  ·rw [br_f rfl]; rfl
  ·rw [br_t rfl, Int.toNat_natCast, set_mid]
   cases h2 : decide (v.Seq ≥ seq)
   ·rfl
   ·rfl
theorem same_lp (fu : Nat) : ∀ (r q : List TSeat) (n : Nat), (q ++ r).length ≤ 1000000 → r.length < n → diwanref13_SameSeats.lp6 fu (q ++ r) (q ++ r) n (q.length : Int) = some (.inl ())
 | [], q, n, hl, hn => by
  obtain ⟨n, rfl⟩ : ∃ m, n = m + 1 := ⟨n - 1, by omega⟩
  simp only [List.append_nil]
  rw [diwanref13_SameSeats.lp6, br_f (nlt_end _)]
 | v :: r, q, n, hl, hn => by
  obtain ⟨n, rfl⟩ : ∃ m, n = m + 1 := ⟨n - 1, by omega⟩
  have e : q ++ v :: r = (q ++ [v]) ++ r := by simp
  have ih := same_lp fu r (q ++ [v]) n (by rw [← e]; exact hl) (by simp at hn; omega)
  rw [← e] at ih
  rw [diwanref13_SameSeats.lp6, br_t (lt_mid _ _ _), ix_mid, ix_mid, w64_len q r v (by omega), ih, br_f (by simp)]
theorem rsame_e {fu : Nat} {l : List TSeat} (hl : l.length ≤ 1000000) (hf : l.length < fu) : diwanref13_SameSeats fu l l = some true := by
 have := same_lp fu l [] fu hl hf
 simp only [List.nil_append, List.length_nil, Int.natCast_zero] at this
 unfold diwanref13_SameSeats
 rw [br_f (by simp), bd_s this]
end Go.Proofs.Ythjpcfbfiaenaaa.Told.SF
