/- The plain law of SaveMay: a shard that may not be has no bytes. -/
import Derived.Test.YthjpcfbfiaenaaaTSv3
import Derived.Test.YthjpcfbfiaenaaaTSv5
namespace Go.Proofs.Ythjpcfbfiaenaaa.Told.PureSaveMay
open Go Go.Proofs.Ythjpcfbfiaenaaa.Vam Go.Proofs.Ythjpcfbfiaenaaa.Told Go.Proofs.Ythjpcfbfiaenaaa.Told.CF Go.Proofs.Ythjpcfbfiaenaaa.Told.PK Go.Proofs.Ythjpcfbfiaenaaa.Told.ST Go.Proofs.Ythjpcfbfiaenaaa.Told.SV
set_option linter.unusedSimpArgs false
set_option linter.unusedVariables false
theorem begun_e : diwanlaw20_begun 200 = some true := by kernel_rfl
theorem say {s t : TShard} {N D : Nat} (h : SI 200 N D s) (hD : D ≤ 15) (hN : N ≤ 45) (hC : t.S.Chains = s.S.Chains) (hS : t.Seats = s.Seats) (hB : t.Bits = s.Bits) (hA : t.Said = s.Said) (hM : t.S.Mark < 9223372036854775808) :
  (bd (save_Put 200 t) fun r => bd (diwanref13_MayShard 200 t) fun m => some ((decide ((r.length : Int) > 0)) == m)) = some true := by
 have hsl := h.sln
 have hb := h.bl
 have ha := h.sl
 have hm : Sml N t.S.Chains := by rw [hC]; exact h.mi.sml
 obtain ⟨b, g1, g2, g3⟩ := may_eq (fu := 200) (s := t) hm (fun c hc => by
  rw [hC] at hc
  have := six_sz (h.mi.ok c hc).1
  omega) (by omega) (by omega) (by rw [hB]; omega) (by rw [hA]; omega) (by rw [hS]; omega)
 cases b
 ·rw [bd_s (put_none g1), bd_s g2]; rfl
 ·obtain ⟨k1, k2⟩ := put_some g1 (g3 rfl) hm (by omega) (by omega) (by rw [hB]; omega) (by rw [hS]; omega) hM (by omega)
  rw [bd_s k1, bd_s g2, decide_eq_true (by omega)]; rfl
theorem holds (picks : List Int) (n_v id which to : Int) (k0 : okL (okI .u8) picks) (k1 : okI .u8 n_v) (k2 : okI .u8 id) (k3 : okI .u8 which) (k4 : okI .i64 to) : ∃ fu, diwanlaw20_SaveMay fu picks n_v id which to = some true := by
 refine ⟨200, ?_⟩
 unfold diwanlaw20_SaveMay
 rw [bd_s begun_e, br_f (b := !true) rfl]
 by_cases h1 : (picks.length : Int) > 250
 ·rw [br_t (decide_eq_true h1)]
 rw [br_f (decide_eq_false h1)]
 obtain ⟨s, N, D, g1, g2, g3, g4⟩ := made_e (fu := 200) (Nat.le_refl _) k0 (by omega) k1 k2 (mark := 0) (by simp [okI, Lit.wf, IntKind.min, IntKind.max, IntKind.bits, IntKind.signed])
 have g1' : diwanlaw20_made 200 picks n_v id 0 = some s := g1
 have hto := okI_i64 k4
 have hM : s.S.Mark < 9223372036854775808 := by have := g2.mark; omega
 rw [bd_s g1']
 cases (Int.tmod which 3 == 0)
 ·rw [br_f rfl]
  cases (Int.tmod which 3 == 1)
  ·rw [br_f rfl]
   exact say g2 g3 g4 rfl rfl rfl rfl (by show to < _; omega)
  ·rw [br_t rfl]
   exact say g2 g3 g4 rfl rfl rfl rfl hM
 ·rw [br_t rfl]
  exact say g2 g3 g4 rfl rfl rfl rfl hM
end Go.Proofs.Ythjpcfbfiaenaaa.Told.PureSaveMay
