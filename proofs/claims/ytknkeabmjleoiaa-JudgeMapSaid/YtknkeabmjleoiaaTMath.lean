/- Words for told functions: what br, ix, gd, bd and the machine's numbers come to. -/
import Derived.Test.YtknkeabmjleoiaaVam2
namespace Go.Proofs.Ytknkeabmjleoiaa.Told
open Go Go.Proofs.Ytknkeabmjleoiaa.Vam
set_option linter.unusedSimpArgs false
section
variable {α β : Type}
theorem br_t {b : Bool} {x y : Option α} (h : b = true) : br b x y = x := by subst h; rfl
theorem br_f {b : Bool} {x y : Option α} (h : b = false) : br b x y = y := by subst h; rfl
theorem gd_t {b : Bool} {k : Option α} (h : b = true) : gd b k = k := by subst h; rfl
theorem bd_s {o : Option α} {x : α} {k : α → Option β} (h : o = some x) : bd o k = k x := by subst h; rfl
theorem jn_e {k : α} {m : α → β} : jn k m = m k := rfl
theorem ix_s {l : List α} {i : Int} {x : α} {k : α → Option β} (h0 : 0 ≤ i) (h : l[i.toNat]? = some x) : ix l i k = k x := by
 unfold ix; rw [decide_eq_true h0, h]; rfl
theorem ix_n {l : List α} {i : Nat} {x : α} {k : α → Option β} (h : l[i]? = some x) : ix l (i : Int) k = k x := ix_s (Int.natCast_nonneg _) (by simpa using h)
theorem ix_mid (q r : List α) (v : α) {k : α → Option β} : ix (q ++ v :: r) (q.length : Int) k = k v := ix_n (by simp)
end
theorem w64_id {n : Int} (h0 : -9223372036854775808 ≤ n) (h1 : n ≤ 9223372036854775807) : w64 n = n := by
 show IntKind.wrap .i64 n = n
 simp [IntKind.wrap, IntKind.min, IntKind.max, IntKind.signed, IntKind.bits]; omega
theorem okI_u8 {n : Int} (h : okI .u8 n) : 0 ≤ n ∧ n < 256 := by
 simp [okI, Lit.wf, IntKind.min, IntKind.max, IntKind.bits, IntKind.signed] at h; omega
theorem lt_mid {α : Type} (q r : List α) (v : α) : decide ((q.length : Int) < ((q ++ v :: r).length : Int)) = true := decide_eq_true (by simp; omega)
theorem nlt_end {α : Type} (q : List α) : decide ((q.length : Int) < (q.length : Int)) = false := decide_eq_false (by omega)
theorem w64_len {α : Type} (q r : List α) (v : α) (h : (q ++ v :: r).length ≤ 4611686018427387904) : w64 ((q.length : Int) + 1) = ((q ++ [v]).length : Int) := by
 rw [w64_id (by omega) (by simp at h; omega)]; simp
end Go.Proofs.Ytknkeabmjleoiaa.Told
