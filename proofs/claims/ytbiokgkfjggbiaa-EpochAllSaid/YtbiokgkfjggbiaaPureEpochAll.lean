/- The plain law of EpochAll: the program's batches are the document's. -/
import Derived.Test.YtbiokgkfjggbiaaTEp
import Derived.Test.YtbiokgkfjggbiaaTPicks
import Derived.Test.YtbiokgkfjggbiaaTInts
namespace Go.Proofs.Ytbiokgkfjggbiaa.Told.PureEpochAll
open Go Go.Proofs.Ytbiokgkfjggbiaa.Vam Go.Proofs.Ytbiokgkfjggbiaa.Told Go.Proofs.Ytbiokgkfjggbiaa.Told.EP Go.Proofs.Ytbiokgkfjggbiaa.Told.PK Go.Proofs.Ytbiokgkfjggbiaa.Told.JF
set_option linter.unusedSimpArgs false
set_option linter.unusedVariables false
theorem begun_e : diwanlaw13_begun = some true := by kernel_rfl
theorem rows_lp (fu : Nat) : ∀ (r q : List (List Int)) (n : Nat), (q ++ r).length ≤ 1000000 → (∀ x ∈ r, x.length ≤ 1000000 ∧ x.length < fu) → r.length < n → diwanlaw13_EpochAll.lp15 fu (q ++ r) (q ++ r) n (q.length : Int) = some (.inl ())
 | [], q, n, hl, hr, hn => by
  obtain ⟨n, rfl⟩ : ∃ m, n = m + 1 := ⟨n - 1, by omega⟩
  simp only [List.append_nil]
  rw [diwanlaw13_EpochAll.lp15, br_f (nlt_end _)]
 | v :: r, q, n, hl, hr, hn => by
  obtain ⟨n, rfl⟩ : ∃ m, n = m + 1 := ⟨n - 1, by omega⟩
  have e : q ++ v :: r = (q ++ [v]) ++ r := by simp
  have ih := rows_lp fu r (q ++ [v]) n (by rw [← e]; exact hl) (fun x hx => hr x (List.mem_cons_of_mem _ hx)) (by simp at hn; omega)
  rw [← e] at ih
  obtain ⟨h1, h2⟩ := hr v List.mem_cons_self
  rw [diwanlaw13_EpochAll.lp15, br_t (lt_mid _ _ _), ix_mid, ix_mid, bd_s (ints_e h1 h2), br_f (by rfl), w64_len q r v (by omega), ih]
theorem holds (picks : List Int) (n_v : Int) (k0 : okL (okI .u8) picks) (k1 : okI .u8 n_v) : ∃ fu, diwanlaw13_EpochAll fu picks n_v = some true := by
 refine ⟨100, ?_⟩
 unfold diwanlaw13_EpochAll
 rw [bd_s begun_e, br_f (b := !true) rfl]
 by_cases h1 : (picks.length : Int) > 150
 ·rw [br_t (decide_eq_true h1)]
 have hn := okI_u8 k1
 obtain ⟨N, rfl⟩ : ∃ N : Nat, n_v = (N : Int) := ⟨n_v.toNat, by omega⟩
 have ht : w64 (Int.tmod (N : Int) 20) = ((N % 20 : Nat) : Int) := by
  have : Int.tmod (N : Int) 20 = ((N % 20 : Nat) : Int) := by simp [Int.tmod]
  rw [this, w64_id (by omega) (by omega)]
 obtain ⟨l, o', e1, e2, e3, e4⟩ := log_e (fu := 100) (N := N % 20) (by omega) (by omega) (by omega) (made_inv k0.2 (by omega))
 have hl : l.length ≤ 100000 := by omega
 have hc := cut_len l
 have hm : diwanplay_Made picks = some (TPicks.mk picks 0) := rfl
 have hr : diwanref13_Cut l = some (cutB l) := by
  unfold diwanref13_Cut
  rw [gd_t (decide_eq_true hl)]; rfl
 rw [br_f (decide_eq_false h1), bd_s hm, ht, bd_s e1]
 dsimp only
 rw [bd_s (cut_e hl), bd_s hr, br_f (by simp), bd_s (sealed_e hl), w64_id (n := ((cutB l).length : Int) - 1) (by omega) (by omega), br_f (by simp)]
 have lp := rows_lp 100 (cutB l) [] 100 (by simp; omega) (fun x hx => by have := hc.2.2 x hx; omega) (by omega)
 simp only [List.nil_append, List.length_nil, Int.natCast_zero] at lp
 rw [bd_s lp]
end Go.Proofs.Ytbiokgkfjggbiaa.Told.PureEpochAll
