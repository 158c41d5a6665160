/- A store's functions: what a key was. -/
import Derived.Test.YtjahlppmahjplaaTStore1
import Derived.Test.YtjahlppmahjplaaTCh4
namespace Go.Proofs.Ytjahlppmahjplaa.Told.ST
open Go Go.Proofs.Ytjahlppmahjplaa.Vam Go.Proofs.Ytjahlppmahjplaa.Told Go.Proofs.Ytjahlppmahjplaa.Told.CF
set_option linter.unusedSimpArgs false
set_option linter.unusedVariables false
/-- A key's versions. -/
def chainOf (k : ByteArray) : List TChain → List TVersion
  | [] => []
  | c :: r => bif c.Key.toList == k.toList then c.L else chainOf k r
theorem chainOf_none {k : ByteArray} : ∀ {cs : List TChain}, (∀ c ∈ cs, c.Key ≠ k) → chainOf k cs = []
  | [], _ => rfl
  | c :: r, h => by
    simp only [chainOf]
    rw [beq_baf.2 (h c (by simp))]
    exact chainOf_none fun c hc => h c (by simp [hc])
theorem chainOf_app {k : ByteArray} : ∀ {A B : List TChain}, (∀ c ∈ A, c.Key ≠ k) → chainOf k (A ++ B) = chainOf k B
  | [], _, _ => rfl
  | c :: r, B, h => by
    simp only [List.cons_append, chainOf]
    rw [beq_baf.2 (h c (by simp))]
    exact chainOf_app fun c hc => h c (by simp [hc])
theorem chain_e {fu N : Nat} {s : TStore} (k : ByteArray) (hs : Srt s.Chains) (hl : s.Chains.length ≤ 1000000) (hf : s.Chains.length < fu) : store_keeper_chain fu s k = some (chainOf k s.Chains) := by
  obtain ⟨A, B, e, hA, hB, hR⟩ := srt_cut s.Chains k hs
  have hs' : s = TStore.mk (A ++ B) s.Mark := by rw [← e]
  rw [e] at hl hf
  unfold store_keeper_chain
  rw [hs', bd_s (find_e hA hB hl hf)]
  dsimp only
  rw [chainOf_app fun c hc => kl_ne (hA c hc)]
  cases B with
  | nil => rw [br_f (by rfl)]; rfl
  | cons v R =>
    cases h : hit (v :: R) k with
    | true =>
      rw [br_t rfl, ix_mid]
      simp only [chainOf]
      rw [show (v.Key.toList == k.toList) = true from h]; rfl
    | false =>
      rw [br_f rfl]
      simp only [chainOf]
      rw [show (v.Key.toList == k.toList) = false from h]
      simp only [cond_false]
      rw [chainOf_none fun c hc => (kl_ne (hR v R rfl c hc)).symm]
/-- The version at a position, if there is one. -/
def atV (p : Int) : List TVersion → TVersion × Bool
  | [] => (none0, false)
  | v :: r => match atV p r with
    | (x, true) => (x, true)
    | (_, false) => bif decide (v.Pos ≤ p) then (v, true) else (none0, false)
theorem atV_hi {p : Int} : ∀ {l : List TVersion}, (∀ v ∈ l, p < v.Pos) → atV p l = (none0, false)
  | [], _ => rfl
  | v :: r, h => by
    have := h v (by simp)
    simp only [atV]
    rw [atV_hi fun x hx => h x (by simp [hx]), decide_eq_false (by omega)]; rfl
theorem atV_lo {p : Int} {v : TVersion} {B : List TVersion} (hv : v.Pos ≤ p) (hB : ∀ x ∈ B, p < x.Pos) : ∀ (A : List TVersion), atV p (A ++ v :: B) = (v, true)
  | [] => by
    simp only [List.nil_append, atV]
    rw [atV_hi hB, decide_eq_true hv]; rfl
  | a :: A => by
    simp only [List.cons_append, atV]
    rw [atV_lo hv hB A]
theorem at_e {fu : Nat} {l : List TVersion} (p : Int) (hl : l.length ≤ 4611686018427387904) (hf : l.length < fu) : chain_At fu l p = some (atV p l) := by
  rcases cut p l with h | ⟨A, v, B, e, h1, h2⟩
  · rw [at_hi hl hf h, atV_hi h]
  · rw [at_lo hl hf e h1 h2, e, atV_lo h1 h2]
def rd (k : ByteArray) (l : List TVersion) (p : Int) : TRead := TRead.mk k (atV p l).1.Pos (atV p l).1.Val ((atV p l).2 && !(atV p l).1.Gone)
theorem read_e {fu : Nat} {l : List TVersion} (k : ByteArray) (p : Int) (hl : l.length ≤ 4611686018427387904) (hf : l.length < fu) : store_read fu k l p = some (rd k l p) := by
  unfold store_read rd
  rw [bd_s (at_e p hl hf)]
  obtain ⟨x, b⟩ := atV p l
  dsimp only
  cases b
  · rw [br_f rfl]; rfl
  · rw [br_t rfl]; rfl
theorem chainOf_len {N : Nat} {k : ByteArray} : ∀ {cs : List TChain}, (∀ c ∈ cs, c.L.length ≤ N) → (chainOf k cs).length ≤ N
  | [], _ => by simp [chainOf]
  | c :: r, h => by
    simp only [chainOf]
    cases (c.Key.toList == k.toList)
    · exact chainOf_len fun c hc => h c (by simp [hc])
    · exact h c (by simp)
def noRead : TRead := TRead.mk ByteArray.empty 0 ByteArray.empty false
def getS (s : TStore) (k : ByteArray) (p : Int) : TRead × Int := bif decide (p < s.Mark) then (noRead, 4) else (rd k (chainOf k s.Chains) p, 0)
theorem get_e {fu N : Nat} {s : TStore} (k : ByteArray) (p : Int) (hs : Srt s.Chains) (hm : Sml N s.Chains) (hN : N ≤ 1000000) (hf : N < fu) : store_Get fu s k p = some (getS s k p) := by
  unfold store_Get getS
  cases decide (p < s.Mark)
  · rw [br_f rfl, bd_s (chain_e (N := N) k hs (by have := hm.1; omega) (by have := hm.1; omega)), bd_s (read_e k p (by have := chainOf_len (k := k) hm.2; omega) (by have := chainOf_len (k := k) hm.2; omega))]; rfl
  · rw [br_t rfl]; rfl
theorem lastS_e {fu N : Nat} {s : TStore} (k : ByteArray) (hs : Srt s.Chains) (hm : Sml N s.Chains) (hN : N ≤ 1000000) (hf : N < fu) : store_Last fu s k = some (last (chainOf k s.Chains)) := by
  unfold store_Last
  rw [bd_s (chain_e (N := N) k hs (by have := hm.1; omega) (by have := hm.1; omega)), bd_s (last_e (by have := chainOf_len (k := k) hm.2; omega)).1]
/-- Is a key within? -/
def inn (k a b : ByteArray) : Bool := bif Op.bytesLess a.toList k.toList || (a.toList == k.toList) then (bif b.toList == ByteArray.empty.toList then true else Op.bytesLess k.toList b.toList) else false
theorem within_e (k a b : ByteArray) : key_Within k a b = some (inn k a b) := by
  unfold key_Within inn
  cases (Op.bytesLess a.toList k.toList || (a.toList == k.toList))
  · rfl
  · cases (b.toList == ByteArray.empty.toList) <;> rfl
def spn (a b : ByteArray) (p : Int) : List TChain → List TRead
  | [] => []
  | c :: r => bif (rd c.Key c.L p).There && inn c.Key a b then rd c.Key c.L p :: spn a b p r else spn a b p r
theorem spn_len (a b : ByteArray) (p : Int) : ∀ cs : List TChain, (spn a b p cs).length ≤ cs.length
  | [] => Nat.le_refl _
  | c :: r => by
    simp only [spn]
    have := spn_len a b p r
    cases ((rd c.Key c.L p).There && inn c.Key a b) <;> simp <;> omega
theorem span_lp (fu : Nat) (a b : ByteArray) (p : Int) : ∀ (r q : List TChain) (out : List TRead) (n : Nat), (q ++ r).length ≤ 1000000 → (∀ c ∈ r, c.L.length ≤ 1000000 ∧ c.L.length < fu) → out.length ≤ q.length → r.length < n →
    store_Span.lp6 fu a b p (q ++ r) ((q ++ r).length : Int) n out (q.length : Int) = some (out ++ spn a b p r)
  | [], q, out, n, hl, hc, ho, hn => by
    obtain ⟨n, rfl⟩ : ∃ m, n = m + 1 := ⟨n - 1, by omega⟩
    simp only [List.append_nil]
    rw [store_Span.lp6, br_f (nlt_end _)]; simp [spn]
  | c :: r, q, out, n, hl, hc, ho, hn => by
    obtain ⟨n, rfl⟩ : ∃ m, n = m + 1 := ⟨n - 1, by omega⟩
    have e : q ++ c :: r = (q ++ [c]) ++ r := by simp
    have ih := fun o h => span_lp fu a b p r (q ++ [c]) o n (by rw [← e]; exact hl) (fun c h => hc c (by simp [h])) h (by simp at hn; omega)
    rw [← e] at ih
    have hcc := hc c (by simp)
    have hl' : q.length + 1 + r.length ≤ 1000000 := by simp at hl; omega
    rw [store_Span.lp6, br_t (lt_mid _ _ _), ix_mid, bd_s (read_e _ _ (by omega) hcc.2), w64_len q r c (by omega)]
    simp only [spn]
    cases (rd c.Key c.L p).There
    · rw [br_f rfl, ih out (by simp; omega)]; rfl
    · rw [br_t rfl, bd_s (within_e _ _ _)]
      cases inn c.Key a b
      · rw [br_f rfl, ih out (by simp; omega)]; rfl
      · rw [br_t rfl, gd_t (decide_eq_true (by simp; omega)), ih (out ++ [rd c.Key c.L p]) (by simp; omega)]; simp
def spanS (s : TStore) (a b : ByteArray) (p : Int) : List TRead × Int := bif decide (p < s.Mark) then ([], 4) else (spn a b p s.Chains, 0)
theorem span_e {fu N : Nat} {s : TStore} (a b : ByteArray) (p : Int) (hm : Sml N s.Chains) (hN : N ≤ 1000000) (hf : N < fu) : store_Span fu s a b p = some (spanS s a b p) := by
  unfold store_Span spanS
  cases decide (p < s.Mark)
  · have := span_lp fu a b p s.Chains [] [] fu (by have := hm.1; simp; omega) (fun c hc => by have := hm.2 c hc; omega) (Nat.le_refl _) (by have := hm.1; omega)
    simp only [List.nil_append, List.length_nil, Int.natCast_zero] at this
    rw [br_f rfl, bd_s this]; rfl
  · rw [br_t rfl]; rfl
end Go.Proofs.Ytjahlppmahjplaa.Told.ST
