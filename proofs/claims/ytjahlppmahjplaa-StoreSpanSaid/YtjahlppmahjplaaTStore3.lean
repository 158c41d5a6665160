/- A store's functions: what is trimmed. -/
import Derived.Test.YtjahlppmahjplaaTStore2
import Derived.Test.YtjahlppmahjplaaTCh5
namespace Go.Proofs.Ytjahlppmahjplaa.Told.ST
open Go Go.Proofs.Ytjahlppmahjplaa.Vam Go.Proofs.Ytjahlppmahjplaa.Told Go.Proofs.Ytjahlppmahjplaa.Told.CF
set_option linter.unusedSimpArgs false
set_option linter.unusedVariables false
/-- What is seen from a position on. -/
def tri (p : Int) : List TVersion → List TVersion
  | [] => []
  | v :: r => bif (atV p r).2 then tri p r else v :: r
theorem tri_hi {p : Int} : ∀ {l : List TVersion}, (∀ v ∈ l, p < v.Pos) → tri p l = l
  | [], _ => rfl
  | v :: r, h => by
    simp only [tri]
    rw [atV_hi fun x hx => h x (by simp [hx])]; rfl
theorem tri_lo {p : Int} {v : TVersion} {B : List TVersion} (hv : v.Pos ≤ p) (hB : ∀ x ∈ B, p < x.Pos) : ∀ (A : List TVersion), tri p (A ++ v :: B) = v :: B
  | [] => by
    simp only [List.nil_append, tri]
    rw [atV_hi hB]; rfl
  | a :: A => by
    simp only [List.cons_append, tri]
    rw [atV_lo hv hB A, tri_lo hv hB A]; rfl
theorem trimC_e {fu : Nat} {l : List TVersion} (p : Int) (hl : l.length ≤ 4294967296) (hf : l.length < fu) : chain_Trim fu l p = some (tri p l) := by
  rcases cut p l with h | ⟨A, v, B, e, h1, h2⟩
  · rw [trim_hi hl hf h, tri_hi h]
  · rw [trim_lo hl hf e h1 h2, e, tri_lo h1 h2]
theorem tri_len (p : Int) : ∀ l : List TVersion, (tri p l).length ≤ l.length
  | [] => Nat.le_refl _
  | v :: r => by
    simp only [tri]
    have := tri_len p r
    cases (atV p r).2 <;> simp <;> omega
def trs (p : Int) (cs : List TChain) : List TChain := cs.map fun c => TChain.mk c.Key (tri p c.L)
theorem trimS_lp (fu : Nat) (p : Int) (z : TStore) (M : Int) : ∀ (r q : List TChain) (n : Nat), (q ++ r).length ≤ 1000000 → (∀ c ∈ r, c.L.length ≤ 1000000 ∧ c.L.length < fu) → r.length < n →
    store_Trim.lp7 fu p ((q ++ r).length : Int) z n (q.length : Int) (TStore.mk (q ++ r) M) = some (TStore.mk (q ++ trs p r) M)
  | [], q, n, hl, hc, hn => by
    obtain ⟨n, rfl⟩ : ∃ m, n = m + 1 := ⟨n - 1, by omega⟩
    simp only [List.append_nil]
    rw [store_Trim.lp7, br_f (nlt_end _)]; simp [trs]
  | c :: r, q, n, hl, hc, hn => by
    obtain ⟨n, rfl⟩ : ∃ m, n = m + 1 := ⟨n - 1, by omega⟩
    have hcc := hc c (by simp)
    have ih := trimS_lp fu p z M r (q ++ [TChain.mk c.Key (tri p c.L)]) n (by simp at hl ⊢; omega) (fun c h => hc c (by simp [h])) (by simp at hn; omega)
    have el : ((q ++ [TChain.mk c.Key (tri p c.L)]) ++ r).length = (q ++ c :: r).length := by simp
    rw [el] at ih
    rw [store_Trim.lp7, br_t (lt_mid _ _ _)]
    dsimp only
    rw [ix_mid, bd_s (trimC_e p (by omega) hcc.2), ix_mid, Int.toNat_natCast, set_mid, w64_len q r c (by omega)]
    have e2 : (q ++ [c]).length = (q ++ [TChain.mk c.Key (tri p c.L)]).length := by simp
    rw [e2, show q ++ TChain.mk c.Key (tri p c.L) :: r = (q ++ [TChain.mk c.Key (tri p c.L)]) ++ r by simp, ih]
    simp [trs]
def trimS (s : TStore) (p : Int) : TStore := bif decide (p ≤ s.Mark) then s else TStore.mk (trs p s.Chains) p
theorem trimS_e {fu N : Nat} {s : TStore} (p : Int) (hm : Sml N s.Chains) (hN : N ≤ 1000000) (hf : N < fu) : store_Trim fu s p = some (trimS s p) := by
  unfold store_Trim trimS
  rw [bd_s (twin_e ⟨by have := hm.1; omega, fun c hc => by have := hm.2 c hc; omega⟩ (by have := hm.1; omega))]
  cases decide (p ≤ s.Mark)
  · have := trimS_lp fu p (TStore.mk [] 0) s.Mark s.Chains [] fu (by have := hm.1; simp; omega) (fun c hc => by have := hm.2 c hc; omega) (by have := hm.1; omega)
    simp only [List.nil_append, List.length_nil, Int.natCast_zero] at this
    rw [br_f rfl, bd_s this]; rfl
  · rw [br_t rfl]; rfl
theorem trs_srt (p : Int) {cs : List TChain} (h : Srt cs) : Srt (trs p cs) := by
  unfold Srt trs
  rw [List.pairwise_map]
  exact h
theorem trs_sml (p : Int) {N : Nat} {cs : List TChain} (h : Sml N cs) : Sml N (trs p cs) := by
  refine ⟨by simpa [trs] using h.1, fun c hc => ?_⟩
  obtain ⟨c', h1, rfl⟩ := List.mem_map.1 hc
  have := tri_len p c'.L
  have := h.2 c' h1
  simp only; omega
end Go.Proofs.Ytjahlppmahjplaa.Told.ST
