/- One Go function told as a Lean function, and that the Go code comes to its answers: out of the print of the program, by the kit and by programs of this session. -/
import Derived.Test.YtiioolggdffdbaaQ0
import Derived.Test.YtiioolggdffdbaaFn
import Derived.Test.YtiioolggdffdbaaLent
namespace Go.Proofs.Ytiioolggdffdbaa.Q
open Go.RowKit Go.Proofs.YtiioolggdffdbaaW.PrintWords Go.Proofs.YtiioolggdffdbaaW.PrintLast Go.Proofs.YtiioolggdffdbaaW.PrintMore
attribute [local go_sem] max2_int min2_int max_two min_two max_three min_three max_four min_four   -- for this text's walks alone
set_option linter.unusedVariables false
set_option linter.unusedSimpArgs false

/-! ### diwanlaw0_Back: function 18 -/
def diwanlaw0_Back.f (l0 : List Int) (l1 : List Int) : Option (Bool) := some ((strOfNums l0).toList == (strOfNums l1).toList)
set_option maxHeartbeats 2000000 in
set_option maxRecDepth 100000 in
theorem diwanlaw0_Back.calls (A0 : Option Addr) (c0 : Nat) (l0 : List Int) (A1 : Option Addr) (c1 : Nat) (l1 : List Int) (r : Bool) (w : World) (hr0 : Kd.C (Kd.int .u8) w A0 l0.length l0) (hc0 : l0.length ≤ c0) (hr1 : Kd.C (Kd.int .u8) w A1 l1.length l1) (hc1 : l1.length ≤ c1) (h : diwanlaw0_Back.f l0 l1 = some r)
    (hcap : l0.length + 6 ≤ c0) (hcm : c0 ≤ 9223372036854775807) (htail : Kd.C (Kd.int .u8) w A0 (l0.length + 6) (l0 ++ Lent.tail6 l0.length)) (hT : Aside0 (r = true)) :
    Calls Try.prog 18 #[.slice A0 l0.length c0, .slice A1 l1.length c1] w fun e w' => e = .returned (.bool r) ∧ Drawn0 w w' := by
  have hr := hT.out
  subst hr
  have he : (strOfNums l0).toList = (strOfNums l1).toList := by
    unfold diwanlaw0_Back.f at h
    simpa using h
  clear h hT
  have hlen : l0.length = l1.length := by
    have := congrArg List.length he
    rw [ByteArray.toList_eq, ByteArray.toList_eq] at this
    simpa [strOfNums] using this
  obtain ⟨n, hn⟩ : ∃ n, n = l0.length := ⟨_, rfl⟩
  have hn1 : l1.length = n := by omega
  rw [← hn] at hr0 hc0 hcap htail ⊢
  rw [hn1] at hr1 hc1 ⊢
  have hv0 := Kd.C_string (P := Try.prog) (A := A0) (c := c0) Try.underlying22 Try.underlying5 Try.underlying9 hr0
  have hv1 := Kd.C_string (P := Try.prog) (A := A1) (c := c1) Try.underlying22 Try.underlying5 Try.underlying9 hr1
  have hq : ((strOfNums l0).toList == (strOfNums l1).toList) = true := beq_iff_eq.mpr he
  have HT := Aside0.mk htail
  have HN := Aside0.mk hn
  clear htail hn hn1 hlen he
  obtain ⟨i0, hi0, _, hsz, _⟩ := info_parts info5
  have hcut := Fn.cut_room (P := Try.prog) 22 5 .i64 Try.underlying22 hi0 A0 n c0 ((n : Int) + 6) (by omega) (by omega)
  have hcn : ((n : Int) + 6).toNat = n + 6 := by omega
  rw [hcn] at hcut
  clear hcn hsz hi0
  have hcd : decide ((c0 : Int) < (n : Int) + 6) = false := decide_eq_false (by omega)
  go_enter Try.func18, Try.ntmps18
  go_wp2
  go_loop [5] (fun v => ∃ i : Nat, n ≤ i ∧ i ≤ n + 6 ∧ v = .int .i64 i) (fun v => n + 6 - (intOf v).toNat)
  case atStart => exact ⟨n, Nat.le_refl _, by omega, rfl⟩
  case round =>
    obtain ⟨i, hi0, hi1, rfl⟩ := hrel
    by_cases hlt : i < n + 6
    · obtain ⟨ad, hA, hx⟩ := Kd.at_int HT.out (i : Int) (by omega) (by omega)
      have hv : rd (l0 ++ Lent.tail6 n) (i : Int) = (85 + (i : Int) % 5) % 256 := by
        have := HN.out
        subst this
        exact Lent.tail6_at l0 i hi0 hlt
      rw [hv, Int.toNat_natCast] at hx
      clear hv
      cases hA
      go_wp2
      go_round
      case rel => exact ⟨i + 1, by omega, by omega, by go_num⟩
      case measure => simp [intOf]; omega
    · go_wp2
      go_ret
      exact ⟨rfl, Drawn0.refl _⟩

end Go.Proofs.Ytiioolggdffdbaa.Q
