/- Versions by position: what is seenV as of a position, what is trimmed, added, last. Plain lists alone. -/
import Derived.Test.YthaaadjgjpjjpaaQ21
import Derived.Test.YthaaadjgjpjjpaaQ19
namespace Go.Proofs.Ythaaadjgjpjjpaa.CMath
open Go Go.RowKit Go.Proofs.Ythaaadjgjpjjpaa.Q Go.Proofs.YthaaadjgjpjjpaaW.PrintWords Go.Proofs.YthaaadjgjpjjpaaW.PrintLast Go.Proofs.YthaaadjgjpjjpaaW.PrintMore

theorem wrap64_id {n : Int} (h0 : -9223372036854775808 ≤ n) (h1 : n ≤ 9223372036854775807) : wrap64 n = n := by unfold wrap64; omega
theorem wf_u8 {n : Int} (h : (Lit.int .u8 n).wf = true) : 0 ≤ n ∧ n < 256 := by
  simp [Lit.wf, IntKind.min, IntKind.max, IntKind.bits, IntKind.signed] at h
  omega
theorem rd_at (q r : List S25) (v : S25) : rd_T25 (q ++ v :: r) (q.length : Int) = v := by
  unfold rd_T25
  rw [Int.toNat_natCast, List.getD_eq_getElem?_getD, List.getElem?_append_right (Nat.le_refl _)]
  simp

/-- How many are not above a position: all up to the last such one. -/
def upg (p : Int) : List S25 → Nat → Nat → Nat
  | [], _, n => n
  | v :: r, i, n => upg p r (i + 1) (if v.f0 ≤ p then i + 1 else n)
theorem upto_l0 (p : Int) : ∀ (r q : List S25) (n k : Nat), (q ++ r).length ≤ 9000000000000000000 → r.length < k → chain_versions_upto.l0 k p (n : Int) (q ++ r) ((q ++ r).length : Int) (q.length : Int) = some ((upg p r q.length n : Nat) : Int) := by
  intro r
  induction r with
  | nil =>
    intro q n k hl hk
    obtain ⟨k, rfl⟩ : ∃ m, k = m + 1 := ⟨k - 1, by omega⟩
    simp only [chain_versions_upto.l0]
    rw [if_neg (by simp)]; rfl
  | cons v r ih =>
    intro q n k hl hk
    obtain ⟨k, rfl⟩ : ∃ m, k = m + 1 := ⟨k - 1, by omega⟩
    have hlt : (q.length : Int) < ((q ++ v :: r).length : Int) := by simp; omega
    have h0 : 0 ≤ (q.length : Int) := Int.natCast_nonneg _
    have hk' : r.length < k := by simp at hk; omega
    have hw : wrap64 ((q.length : Int) + 1) = ((q ++ [v]).length : Int) := by
      rw [wrap64_id (by omega) (by simp at hl; omega)]; simp
    have e : q ++ v :: r = (q ++ [v]) ++ r := by simp
    simp only [chain_versions_upto.l0]
    rw [if_pos hlt, if_pos h0, if_pos hlt, rd_at, hw]
    have hih := fun m => ih (q ++ [v]) m k (by rw [← e]; exact hl) hk'
    rw [← e] at hih
    have hq : (q ++ [v]).length = q.length + 1 := by simp
    by_cases h : v.f0 ≤ p
    · rw [if_pos h, hih, hq]; simp only [upg]; rw [if_pos h]
    · rw [if_neg h, hih, hq]; simp only [upg]; rw [if_neg h]
theorem upto_f {l : List S25} {k : Nat} (p : Int) (hl : l.length ≤ 9000000000000000000) (hk : l.length < k) : chain_versions_upto.f k l p = some ((upg p l 0 0 : Nat) : Int) := by
  unfold chain_versions_upto.f
  exact upto_l0 p l [] 0 k hl hk
theorem upg_hi (p : Int) : ∀ (B : List S25) (i n : Nat), (∀ v ∈ B, p < v.f0) → upg p B i n = n
  | [], _, _, _ => rfl
  | v :: r, i, n, h => by
    have := h v (by simp)
    simp only [upg]; rw [if_neg (by omega)]
    exact upg_hi p r _ _ (fun x hx => h x (by simp [hx]))
theorem upg_lo (p : Int) : ∀ (A B : List S25) (i n : Nat), (∀ v ∈ A, v.f0 ≤ p) → (∀ v ∈ B, p < v.f0) → upg p (A ++ B) i n = if A = [] then n else i + A.length
  | [], B, i, n, _, hB => by rw [List.nil_append, upg_hi p B i n hB, if_pos rfl]
  | v :: A, B, i, n, hA, hB => by
    simp only [List.cons_append, upg]; rw [if_pos (hA v (by simp)), upg_lo p A B _ _ (fun x hx => hA x (by simp [hx])) hB]
    by_cases h : A = []
    · subst h; simp
    · rw [if_neg h, if_neg (by simp)]; simp; omega
/-- A row in two: what is not above p, and what is. -/
structure Part (p : Int) (l A B : List S25) : Prop where
  eq : l = A ++ B
  lo : ∀ v ∈ A, v.f0 ≤ p
  hi : ∀ v ∈ B, p < v.f0
theorem upto_part {p : Int} {l A B : List S25} (h : Part p l A B) {k : Nat} (hl : l.length ≤ 9000000000000000000) (hk : l.length < k) : chain_versions_upto.f k l p = some (A.length : Int) := by
  rw [upto_f p hl hk, h.eq, upg_lo p A B 0 0 h.lo h.hi]
  by_cases e : A = []
  · subst e; rfl
  · rw [if_neg e, Nat.zero_add]

def seenV (A : List S25) : Int × ByteArray × Bool × Bool := match A.getLast? with
  | none => (0, ⟨#[]⟩, false, false)
  | some v => (v.f0, v.f1, v.f2, true)
theorem at_part {p : Int} {l A B : List S25} (h : Part p l A B) {k : Nat} (hl : l.length ≤ 9000000000000000000) (hk : l.length < k) : chain_At.f k l p = some (seenV A) := by
  unfold chain_At.f
  rw [upto_part h hl hk]
  simp only [Option.bind_some]
  rcases List.eq_nil_or_concat A with e | ⟨A0, v, e⟩
  · subst e; rfl
  · rw [List.concat_eq_append] at e
    subst e
    have hlen : l.length = A0.length + 1 + B.length := by rw [h.eq]; simp; omega
    have hw : wrap64 (((A0 ++ [v]).length : Int) - 1) = (A0.length : Int) := by rw [wrap64_id (by simp) (by simp; omega)]; simp
    have hr : rd_T25 l (A0.length : Int) = v := by rw [h.eq, List.append_assoc]; exact rd_at A0 B v
    rw [if_neg (by simp; omega), hw, if_pos (Int.natCast_nonneg _), if_pos (by omega), hr]
    simp [seenV]
theorem clone_f {l : List S25} (h : l.length < 4398046511104) : slices_Clone_Version.f l = some l := by
  unfold slices_Clone_Version.f
  simp only [Option.bind_some]
  rw [if_pos (by simpa using h)]; rfl
theorem trim_part {p : Int} {l A B : List S25} (h : Part p l A B) {k : Nat} (hl : l.length < 4398046511104) (hk : l.length < k) : chain_Trim.f k l p = some (l.drop (A.length - 1)) := by
  unfold chain_Trim.f
  rw [upto_part h (by omega) hk]
  simp only [Option.bind_some]
  have hlen : A.length ≤ l.length := by rw [h.eq]; simp
  have hm : mx (wrap64 ((A.length : Int) - 1)) 0 = ((A.length - 1 : Nat) : Int) := by
    rw [wrap64_id (by omega) (by omega)]; unfold mx; omega
  rw [hm, if_pos (Int.natCast_nonneg _), if_pos (by omega), Int.toNat_natCast, clone_f (by simp; omega)]
  rfl
def lastPos (l : List S25) : Int := match l.getLast? with
  | none => 0
  | some v => v.f0
theorem last_f {l : List S25} (hl : l.length ≤ 9000000000000000000) : chain_Last.f l = some (lastPos l) := by
  unfold chain_Last.f chain_versions_last.f
  rcases List.eq_nil_or_concat l with e | ⟨A0, v, e⟩
  · subst e; rfl
  · rw [List.concat_eq_append] at e
    subst e
    have hw : wrap64 (((A0 ++ [v]).length : Int) - 1) = (A0.length : Int) := by rw [wrap64_id (by simp) (by simp at hl ⊢; omega)]; simp
    rw [if_neg (by simp; omega), hw, if_pos (Int.natCast_nonneg _), if_pos (by simp; omega), rd_at A0 [] v]
    simp [lastPos]
theorem add_old {l : List S25} (x : Int) (s : ByteArray) (g : Bool) (hl : l.length < 4398046511104) (h : x ≤ lastPos l) : chain_Add.f l x s g = some l := by
  unfold chain_Add.f
  rw [last_f (by omega)]
  simp only [Option.bind_some]
  rw [if_pos h, clone_f hl]; rfl
theorem add_new {l : List S25} (x : Int) (s : ByteArray) (g : Bool) (hl : l.length + 1 < 4398046511104) (h : ¬ x ≤ lastPos l) : chain_Add.f l x s g = some (l ++ [⟨x, s, g⟩]) := by
  unfold chain_Add.f
  rw [last_f (by omega)]
  simp only [Option.bind_some]
  rw [if_neg h, clone_f (by omega)]
  simp only [Option.bind_some]
  rw [if_pos (by simpa using hl)]
theorem same_l0 (l : List S25) : ∀ (r q : List S25) (k : Nat), l = q ++ r → l.length ≤ 9000000000000000000 → r.length < k → diwanref13_SameChain.l0 k l l (q.length : Int) = some true := by
  intro r
  induction r with
  | nil =>
    intro q k e hl hk
    obtain ⟨k, rfl⟩ : ∃ m, k = m + 1 := ⟨k - 1, by omega⟩
    simp only [diwanref13_SameChain.l0]
    rw [if_neg (by rw [e]; simp)]
  | cons v r ih =>
    intro q k e hl hk
    obtain ⟨k, rfl⟩ : ∃ m, k = m + 1 := ⟨k - 1, by omega⟩
    have hlen : l.length = q.length + 1 + r.length := by rw [e]; simp; omega
    have h0 : 0 ≤ (q.length : Int) := Int.natCast_nonneg _
    have hlt : (q.length : Int) < (l.length : Int) := by omega
    have hk' : r.length < k := by simp at hk; omega
    have hw : wrap64 ((q.length : Int) + 1) = ((q ++ [v]).length : Int) := by
      rw [wrap64_id (by omega) (by omega)]; simp
    simp only [diwanref13_SameChain.l0]
    rw [if_pos hlt, if_pos h0, if_pos hlt, if_neg (by simp), hw]
    exact ih (q ++ [v]) k (by rw [e]; simp) hl hk'
theorem same_f {l : List S25} {k : Nat} (hl : l.length ≤ 9000000000000000000) (hk : l.length < k) : diwanref13_SameChain.f k l l = some true := by
  unfold diwanref13_SameChain.f
  rw [if_pos rfl]
  exact same_l0 l l [] k rfl hl hk
/-- Versions that may be, behind a position. -/
def Rise : Int → List S25 → Prop
  | _, [] => True
  | last, v :: r => last < v.f0 ∧ v.f1.size ≤ 16 ∧ (v.f2 = true → v.f1.toList = []) ∧ Rise v.f0 r
theorem Rise.app : ∀ {a : Int} {A B : List S25}, Rise a (A ++ B) → Rise (match A.getLast? with | none => a | some v => v.f0) B
  | a, [], B, h => h
  | a, v :: A, B, h => by
    have := Rise.app (A := A) h.2.2.2
    cases hA : A.getLast? with
    | none => rw [hA] at this; rw [List.getLast?_cons, hA]; exact this
    | some u => rw [hA] at this; rw [List.getLast?_cons, hA]; exact this
theorem Rise.weak {a b : Int} {B : List S25} (h : Rise b B) (hab : a ≤ b) : Rise a B := by
  cases B with
  | nil => trivial
  | cons v r => exact ⟨Int.lt_of_le_of_lt hab h.1, h.2⟩
theorem Rise.gt : ∀ {a : Int} {l : List S25}, Rise a l → ∀ v ∈ l, a < v.f0
  | a, v :: r, h, u, hu => by
    rcases List.mem_cons.1 hu with e | e
    · subst e; exact h.1
    · exact Int.lt_trans h.1 (Rise.gt h.2.2.2 u e)
theorem Rise.snoc : ∀ {a : Int} {l : List S25} (v : S25), Rise a l → (match l.getLast? with | none => a | some u => u.f0) < v.f0 → v.f1.size ≤ 16 → (v.f2 = true → v.f1.toList = []) → Rise a (l ++ [v])
  | a, [], v, _, h1, h2, h3 => ⟨h1, h2, h3, trivial⟩
  | a, u :: l, v, h, h1, h2, h3 => by
    refine ⟨h.1, h.2.1, h.2.2.1, Rise.snoc v h.2.2.2 ?_ h2 h3⟩
    rw [List.getLast?_cons] at h1
    cases hl : l.getLast? with
    | none => rw [hl] at h1; exact h1
    | some w => rw [hl] at h1; exact h1
theorem le_last : ∀ {a : Int} {l : List S25}, Rise a l → ∀ v ∈ l, v.f0 ≤ (match l.getLast? with | none => a | some u => u.f0)
  | a, u :: l, h, v, hv => by
    rw [List.getLast?_cons]
    cases hl : l.getLast? with
    | none =>
      have : l = [] := by simpa using hl
      subst this
      simp at hv; subst hv; exact Int.le_refl _
    | some w =>
      have hw : w ∈ l := List.mem_of_getLast? hl
      have h2 := le_last h.2.2.2
      rw [hl] at h2
      rcases List.mem_cons.1 hv with e | e
      · subst e; exact Int.le_of_lt (h.2.2.2.gt w hw)
      · exact h2 v e
theorem partV : ∀ {a : Int} (p : Int) {l : List S25}, Rise a l → ∃ A B, Part p l A B
  | _, p, [], _ => ⟨[], [], rfl, by simp, by simp⟩
  | _, p, v :: r, h => by
    by_cases hv : v.f0 ≤ p
    · obtain ⟨A, B, e, h1, h2⟩ := partV p h.2.2.2
      refine ⟨v :: A, B, by rw [e]; rfl, ?_, h2⟩
      intro u hu
      rcases List.mem_cons.1 hu with g | g
      · subst g; exact hv
      · exact h1 u g
    · refine ⟨[], v :: r, rfl, by simp, ?_⟩
      intro u hu
      rcases List.mem_cons.1 hu with g | g
      · subst g; omega
      · have := h.2.2.2.gt u g; omega
theorem may_l0 (l : List S25) : ∀ (r q : List S25) (a : Int) (k : Nat), l = q ++ r → Rise a r → l.length ≤ 9000000000000000000 → r.length < k → chain_May.l0 k a l (l.length : Int) (q.length : Int) = some true := by
  intro r
  induction r with
  | nil =>
    intro q a k e _ hl hk
    obtain ⟨k, rfl⟩ : ∃ m, k = m + 1 := ⟨k - 1, by omega⟩
    simp only [chain_May.l0]
    rw [if_neg (by rw [e]; simp)]
  | cons v r ih =>
    intro q a k e hr hl hk
    obtain ⟨k, rfl⟩ : ∃ m, k = m + 1 := ⟨k - 1, by omega⟩
    have hlen : l.length = q.length + 1 + r.length := by rw [e]; simp; omega
    have h0 : 0 ≤ (q.length : Int) := Int.natCast_nonneg _
    have hlt : (q.length : Int) < (l.length : Int) := by omega
    have hk' : r.length < k := by simp at hk; omega
    have hw : wrap64 ((q.length : Int) + 1) = ((q ++ [v]).length : Int) := by
      rw [wrap64_id (by omega) (by omega)]; simp
    have hv : rd_T25 l (q.length : Int) = v := by rw [e]; exact rd_at q r v
    obtain ⟨r1, r2, r3, r4⟩ := hr
    simp only [chain_May.l0]
    rw [if_pos hlt, if_pos h0, if_pos hlt, hv, hw, if_neg (by omega), if_neg (by omega)]
    have hih := ih (q ++ [v]) v.f0 k (by rw [e]; simp) r4 hl hk'
    by_cases g : v.f2 = true
    · rw [if_pos g, if_pos (r3 g)]; exact hih
    · rw [if_neg g]; exact hih
theorem may_f {l : List S25} {k : Nat} (h : Rise 0 l) (hl : l.length ≤ 9000000000000000000) (hk : l.length < k) : chain_May.f k l = some true := by
  unfold chain_May.f
  exact may_l0 l l [] 0 k rfl h hl hk
/-- What is made of numbers: versions that may be, of small positions. -/
theorem made_l0 (b : List Int) (hb : ∀ x ∈ b, 0 ≤ x ∧ x < 256) : ∀ (r q : List Int) (acc : List S25) (k : Nat), b = q ++ r → Rise 0 acc → acc.length = q.length → 0 ≤ lastPos acc → lastPos acc ≤ 4 * q.length → b.length ≤ 1000 → r.length < k →
    ∃ l, diwanlaw15_made.l0 k b acc (lastPos acc) (q.length : Int) = some l ∧ Rise 0 l ∧ l.length = b.length ∧ lastPos l ≤ 4 * b.length ∧ 0 ≤ lastPos l := by
  intro r
  induction r with
  | nil =>
    intro q acc k e h hl h0 h1 hbl hk
    obtain ⟨k, rfl⟩ : ∃ m, k = m + 1 := ⟨k - 1, by omega⟩
    have : b.length = q.length := by rw [e]; simp
    refine ⟨acc, ?_, h, by omega, by omega, h0⟩
    simp only [diwanlaw15_made.l0]
    rw [if_neg (by omega)]
  | cons x r ih =>
    intro q acc k e h hl h0 h1 hbl hk
    obtain ⟨k, rfl⟩ : ∃ m, k = m + 1 := ⟨k - 1, by omega⟩
    have hlen : b.length = q.length + 1 + r.length := by rw [e]; simp; omega
    have hq0 : 0 ≤ (q.length : Int) := Int.natCast_nonneg _
    have hlt : (q.length : Int) < (b.length : Int) := by omega
    have hk' : r.length < k := by simp at hk; omega
    have hx := hb x (by rw [e]; simp)
    have hrd : rd b (q.length : Int) = x := by
      unfold rd
      rw [Int.toNat_natCast, e, List.getD_eq_getElem?_getD, List.getElem?_append_right (Nat.le_refl _)]
      simp
    obtain ⟨y, rfl⟩ := Int.eq_ofNat_of_zero_le hx.1
    have ht4 : Int.tmod (y : Int) 4 = ((y % 4 : Nat) : Int) := by simp [Int.tmod]
    have ht5 : Int.tmod (y : Int) 5 = ((y % 5 : Nat) : Int) := by simp [Int.tmod]
    have htd : Int.tdiv (y : Int) 4 = ((y / 4 : Nat) : Int) := by simp [Int.tdiv]
    have hqs : (q.length : Int) + 1 = ((q ++ [(y : Int)]).length : Int) := by simp
    obtain ⟨hw1, hw4, hwl, hws⟩ : wrap64 ((q.length : Int) + 1) = (q.length : Int) + 1 ∧ wrap64 (((y % 4 : Nat) : Int)) = ((y % 4 : Nat) : Int) ∧ wrap64 (lastPos acc + 1) = lastPos acc + 1 ∧ wrap64 (lastPos acc + 1 + ((y % 4 : Nat) : Int)) = lastPos acc + 1 + ((y % 4 : Nat) : Int) :=
      ⟨wrap64_id (by omega) (by omega), wrap64_id (by omega) (by omega), wrap64_id (by omega) (by omega), wrap64_id (by omega) (by omega)⟩
    have H1 := Aside0.mk hw1
    have H4 := Aside0.mk hw4
    have HL := Aside0.mk hwl
    have HS := Aside0.mk hws
    clear hw1 hw4 hwl hws
    have hi0 : 0 ≤ ((y / 4 : Nat) : Int) % 256 % 3 := by omega
    have hi1 : ((y / 4 : Nat) : Int) % 256 % 3 < (([(⟨#[]⟩ : ByteArray), (⟨#[118]⟩ : ByteArray), (⟨#[119]⟩ : ByteArray)] : List ByteArray).length : Int) := by simp; omega
    have hsz : ∀ i : Int, 0 ≤ i → i < 3 → (rdOf ByteArray.empty ([(⟨#[]⟩ : ByteArray), (⟨#[118]⟩ : ByteArray), (⟨#[119]⟩ : ByteArray)] : List ByteArray) i).size ≤ 16 := by
      intro i i0 i1
      have : i = 0 ∨ i = 1 ∨ i = 2 := by omega
      rcases this with g | g | g <;> subst g <;> decide
    have hgl : (match acc.getLast? with | none => (0 : Int) | some u => u.f0) = lastPos acc := rfl
    have step : ∀ (s : ByteArray) (g : Bool), s.size ≤ 16 → (g = true → s.toList = []) →
        ∃ l, diwanlaw15_made.l0 k b (acc ++ [⟨lastPos acc + 1 + ((y % 4 : Nat) : Int), s, g⟩]) (lastPos acc + 1 + ((y % 4 : Nat) : Int)) ((q ++ [(y : Int)]).length : Int) = some l ∧ Rise 0 l ∧ l.length = b.length ∧ lastPos l ≤ 4 * b.length ∧ 0 ≤ lastPos l := by
      intro s g hs hg
      have hlp : lastPos (acc ++ [(⟨lastPos acc + 1 + ((y % 4 : Nat) : Int), s, g⟩ : S25)]) = lastPos acc + 1 + ((y % 4 : Nat) : Int) := by simp [lastPos]
      have := ih (q ++ [(y : Int)]) (acc ++ [⟨lastPos acc + 1 + ((y % 4 : Nat) : Int), s, g⟩]) k (by rw [e]; simp) (h.snoc _ (by rw [hgl]; show lastPos acc < lastPos acc + 1 + ((y % 4 : Nat) : Int); omega) hs hg) (by simp [hl]) (by rw [hlp]; omega) (by rw [hlp]; simp; omega) hbl hk'
      rw [hlp] at this
      exact this
    simp only [diwanlaw15_made.l0, Option.bind_some]
    rw [if_pos hlt, if_pos hq0, hrd, ht4, ht5, htd, H4.out, HL.out, HS.out, H1.out, hqs, if_pos hi0, if_pos hi1]
    by_cases h5 : ((y % 5 : Nat) : Int) = 0
    · rw [if_pos h5, if_pos (by omega)]
      exact step _ _ (by decide) (fun _ => by decide +kernel)
    · rw [if_neg h5, if_pos (by omega)]
      exact step _ _ (hsz _ hi0 (by simp at hi1; omega)) (fun g => by cases g)
theorem made_f {b : List Int} {k : Nat} (hb : ∀ x ∈ b, 0 ≤ x ∧ x < 256) (hl : b.length ≤ 1000) (hk : b.length < k) : ∃ l, diwanlaw15_made.f k b = some l ∧ Rise 0 l ∧ l.length = b.length ∧ lastPos l ≤ 4 * b.length ∧ 0 ≤ lastPos l :=
  made_l0 b hb b [] [] k rfl trivial rfl (by decide) (by decide) hl hk
theorem begunT : diwanlaw15_begun.f 40 = some true := by kernel_rfl
end Go.Proofs.Ythaaadjgjpjjpaa.CMath
