/- Words of this session for bytes that are lent: what stands in the room behind them, and how a made row is filled. Plain lists. -/
import Derived.Test.YtiioolggdffdbaaWMore
import Derived.Test.YtiioolggdffdbaaFn
namespace Go.Proofs.Ytiioolggdffdbaa.Lent
open Go Go.RowKit Go.Proofs.YtiioolggdffdbaaW.PrintWords Go.Proofs.YtiioolggdffdbaaW.PrintLast Go.Proofs.YtiioolggdffdbaaW.PrintMore
/-- What is behind bytes that were lent. -/
def tail6 (n : Nat) : List Int := (List.range 6).map fun i => (85 + ((n + i : Nat) : Int) % 5) % 256
theorem tail6_at (l : List Int) (i : Nat) (h0 : l.length ≤ i) (h1 : i < l.length + 6) : rd (l ++ tail6 l.length) (i : Int) = (85 + (i : Int) % 5) % 256 := by
  unfold rd tail6
  rw [Int.toNat_natCast, List.getD_eq_getElem?_getD, List.getElem?_append_right h0]
  have : i - l.length < 6 := by omega
  have hi : (i : Nat) = l.length + (i - l.length) := by omega
  simp [List.getElem?_range this]
  omega

/-- The first loop: what is below i is filled. -/
def Inv1 (l x : List Int) (i : Int) : Prop := (x.length = l.length + 6 ∧ x.length ≤ 281474976710656) ∧ 0 ≤ i ∧ ∀ j : Nat, (j : Int) < i → j < x.length → x[j]? = some ((85 + (j : Int) % 5) % 256)
theorem Inv1.start (l : List Int) (hl : l.length + 6 ≤ 281474976710656) : Inv1 l (List.replicate (l.length + 6) 0) 0 := ⟨⟨by simp, by simpa using hl⟩, by decide, fun j h => by omega⟩
theorem Inv1.step {l x : List Int} {i : Int} (h : Inv1 l x i) (v : Int) (hv : v = (85 + i % 5) % 256) : Inv1 l (x.set i.toNat v) (i + 1) := by
  obtain ⟨h1, h2, h3⟩ := h
  refine ⟨by simpa using h1, by omega, fun j hj hl => ?_⟩
  have hl' : j < x.length := by simpa using hl
  by_cases e : j = i.toNat
  · subst e
    rw [List.getElem?_set_self (by omega), hv]
    congr 2
    omega
  · rw [List.getElem?_set_ne (by omega)]
    exact h3 j (by omega) hl'
/-- The second loop: the bytes up to i are copied, what is behind them all stays. -/
def Inv2 (l x : List Int) (i : Int) : Prop := (x.length = l.length + 6 ∧ x.length ≤ 281474976710656) ∧ 0 ≤ i ∧ (∀ j : Nat, (j : Int) < i → j < l.length → x[j]? = l[j]?) ∧ ∀ j : Nat, l.length ≤ j → j < x.length → x[j]? = some ((85 + (j : Int) % 5) % 256)
theorem Inv1.next {l x : List Int} {i : Int} (h : Inv1 l x i) (hi : ¬ i < (x.length : Int)) : Inv2 l x 0 :=
  ⟨h.1, by decide, fun j hj => by omega, fun j _ hj => h.2.2 j (by omega) hj⟩
theorem Inv2.step {l x : List Int} {i : Int} (h : Inv2 l x i) (hi : i < (l.length : Int)) (v : Int) (hv : l[i.toNat]? = some v) : Inv2 l (x.set i.toNat v) (i + 1) := by
  obtain ⟨h1, h2, h3, h4⟩ := h
  refine ⟨by simpa using h1, by omega, fun j hj hl => ?_, fun j hj hl => ?_⟩
  · by_cases e : j = i.toNat
    · subst e; rw [List.getElem?_set_self (by omega), hv]
    · rw [List.getElem?_set_ne (by omega)]; exact h3 j (by omega) hl
  · rw [List.getElem?_set_ne (by omega)]; exact h4 j hj (by simpa using hl)
theorem Inv2.full {l x : List Int} {i : Int} (h : Inv2 l x i) (hi : ¬ i < (l.length : Int)) : x = l ++ tail6 l.length := by
  obtain ⟨h1, h2, h3, h4⟩ := h
  have ht : (tail6 l.length).length = 6 := by simp [tail6]
  apply List.ext_getElem?
  intro j
  by_cases hj : j < l.length
  · rw [h3 j (by omega) hj, List.getElem?_append_left hj]
  · by_cases hj6 : j < l.length + 6
    · rw [h4 j (by omega) (by omega)]
      have := tail6_at l j (by omega) hj6
      unfold rd at this
      rw [Int.toNat_natCast, List.getD_eq_getElem?_getD] at this
      rw [← this, List.getElem?_eq_getElem (by simp [ht]; omega)]
      simp
    · rw [List.getElem?_eq_none (by omega), List.getElem?_eq_none (by simp [ht]; omega)]
theorem R_room {α : Type} {d : Kd α} {e n c : Nat} {w : World} {base : Nat} {ok : Nat → Prop} {A : Option Addr} {xs : List α} (h : d.R e w base ok (.slice A n c) xs) : n = xs.length ∧ n ≤ c ∧ c ≤ 9223372036854775807 := by
  have hr := Kd.R_reads' (d := d) h
  obtain ⟨_, inner, ho, _⟩ := h
  refine ⟨hr.1, hr.2.1, ?_⟩
  obtain ⟨_, h1 | ⟨g, cap, cur, hv, _, _, _, hc, _⟩⟩ := ho
  · cases h1.1; decide
  · cases hv; exact hc
theorem fill1 {l x y : List Int} {i : Int} (h : Inv1 l x i) (hi : i < (x.length : Int)) (h0 : 0 ≤ i) (hy : y = x.set i.toNat ((wrap64 (85 + (Int.tmod i 5))) % 256)) : Inv1 l y (wrap64 (i + 1)) := by
  have hb := h.1
  obtain ⟨n, rfl⟩ := Int.eq_ofNat_of_zero_le h0
  have ht : Int.tmod (n : Int) 5 = ((n % 5 : Nat) : Int) := by simp [Int.tmod]
  have e1 : wrap64 (85 + ((n % 5 : Nat) : Int)) = 85 + ((n % 5 : Nat) : Int) := by unfold wrap64; omega
  rw [ht, e1] at hy
  clear ht e1
  have e2 : wrap64 ((n : Int) + 1) = (n : Int) + 1 := by unfold wrap64; omega
  rw [e2, hy]
  exact h.step _ (by omega)
theorem fill2 {l x y : List Int} {i : Int} (h : Inv2 l x i) (hi : i < (l.length : Int)) (h0 : 0 ≤ i) (hy : y = x.set i.toNat (rd l i)) : Inv2 l y (wrap64 (i + 1)) := by
  have hb := h.1
  have e2 : wrap64 (i + 1) = i + 1 := by unfold wrap64; omega
  rw [e2, hy]
  refine h.step hi _ ?_
  unfold rd
  rw [List.getD_eq_getElem?_getD, List.getElem?_eq_getElem (by omega)]
  simp
theorem made {l : List Int} {j : Int} (hl : l.length ≤ 9223372036854775807) (h : wrap64 ((l.length : Int) + 6) = j) (h0 : 0 ≤ j) (h1 : j.toNat ≤ 281474976710656) : List.replicate j.toNat (0 : Int) = List.replicate (l.length + 6) 0 ∧ l.length + 6 ≤ 281474976710656 := by
  have : j.toNat = l.length + 6 := by unfold wrap64 at h; omega
  rw [this]; rw [this] at h1
  exact ⟨rfl, h1⟩
theorem last {W : World} {b : Nat} {ok : Nat → Prop} {A : Option Addr} {c n : Nat} {l x : List Int} (h : Kd.R (Kd.int .u8) 5 W b ok (.slice A n c) x) (hx : x = l ++ tail6 l.length) :
    l.length + 6 ≤ c ∧ c ≤ 9223372036854775807 ∧ Kd.C (Kd.int .u8) W A (l.length + 6) (l ++ tail6 l.length) := by
  obtain ⟨h1, h2, h3⟩ := R_room h
  have hr := (Kd.R_reads' h).2.2
  subst hx
  have hl : (l ++ tail6 l.length).length = l.length + 6 := by simp [tail6]
  rw [hl] at hr
  exact ⟨by omega, h3, hr⟩
theorem hand {W : World} {v : Value} {A : Option Addr} {c n m : Nat} {l t : List Int} (h : n ≤ c ∧ c ≤ m ∧ Kd.C (Kd.int .u8) W A n t) (e : v = .slice A l.length c) : ∃ A_ c_, v = .slice A_ l.length c_ ∧ n ≤ c_ ∧ c_ ≤ m ∧ Kd.C (Kd.int .u8) W A_ n t := ⟨A, c, e, h.1, h.2.1, h.2.2⟩
theorem cutlen {l x y : List Int} (hy : y = x.take ((l.length : Int) : Int).toNat) (hx : x = l ++ tail6 l.length) : y.length = l.length := by
  subst hx; subst hy
  simp
theorem cutis {l x y : List Int} (hy : y = x.take ((l.length : Int) : Int).toNat) (hx : x = l ++ tail6 l.length) : y = l := by
  subst hx; subst hy
  simp
theorem room {W : World} {v : Value} {A : Option Addr} {c : Nat} {l r : List Int} (h : r = l ∧ ∃ A_ c_, v = .slice A_ l.length c_ ∧ l.length + 6 ≤ c_ ∧ c_ ≤ 9223372036854775807 ∧ Kd.C (Kd.int .u8) W A_ (l.length + 6) (l ++ tail6 l.length)) (e : v = .slice A r.length c) :
    r.length + 6 ≤ c ∧ c ≤ 9223372036854775807 ∧ Kd.C (Kd.int .u8) W A (r.length + 6) (r ++ tail6 r.length) := by
  obtain ⟨rfl, A_, c_, e1, h1, h2, h3⟩ := h
  rw [e1] at e
  cases e
  exact ⟨h1, h2, h3⟩
end Go.Proofs.Ytiioolggdffdbaa.Lent
