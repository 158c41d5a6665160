/- A store's functions: what a key was. -/
import Derived.Test.YthjpcfbfiaenaaaTStoreC
import Derived.Test.YthjpcfbfiaenaaaTCh4
namespace Go.Proofs.Ythjpcfbfiaenaaa.Told.ST
open Go Go.Proofs.Ythjpcfbfiaenaaa.Vam Go.Proofs.Ythjpcfbfiaenaaa.Told Go.Proofs.Ythjpcfbfiaenaaa.Told.CF
set_option linter.unusedSimpArgs false
set_option linter.unusedVariables false
def atV (p : Int) : List TVersion → TVersion × Bool
 | [] => (none0, false)
 | v :: r => match atV p r with
  | (x, true) => (x, true)
  | (_, false) => bif decide (v.Pos ≤ p) then (v, true) else (none0, false)
theorem atV_hi {p : Int} : ∀ {l : List TVersion}, (∀ v ∈ l, p < v.Pos) → atV p l = (none0, false)
 | [], _ => rfl
 | v :: r, h => by
  have := h v (by simp)
  simp only [atV]
  rw [atV_hi fun x hx => h x (by simp [hx]), decide_eq_false (by omega)]; rfl
theorem atV_lo {p : Int} {v : TVersion} {B : List TVersion} (hv : v.Pos ≤ p) (hB : ∀ x ∈ B, p < x.Pos) : ∀ (A : List TVersion), atV p (A ++ v :: B) = (v, true)
 | [] => by
  simp only [List.nil_append, atV]
  rw [atV_hi hB, decide_eq_true hv]; rfl
 | a :: A => by
  simp only [List.cons_append, atV]
  rw [atV_lo hv hB A]
def rd (k : ByteArray) (l : List TVersion) (p : Int) : TRead := TRead.mk k (atV p l).1.Pos (atV p l).1.Val ((atV p l).2 && !(atV p l).1.Gone)
def noRead : TRead := TRead.mk ByteArray.empty 0 ByteArray.empty false
def getS (s : TStore) (k : ByteArray) (p : Int) : TRead × Int := bif decide (p < s.Mark) then (noRead, 4) else (rd k (chainOf k s.Chains) p, 0)
def inn (k a b : ByteArray) : Bool := bif Op.bytesLess a.toList k.toList || (a.toList == k.toList) then (bif b.toList == ByteArray.empty.toList then true else Op.bytesLess k.toList b.toList) else false
def spn (a b : ByteArray) (p : Int) : List TChain → List TRead
 | [] => []
 | c :: r => bif (rd c.Key c.L p).There && inn c.Key a b then rd c.Key c.L p :: spn a b p r else spn a b p r
theorem spn_len (a b : ByteArray) (p : Int) : ∀ cs : List TChain, (spn a b p cs).length ≤ cs.length
 | [] => Nat.le_refl _
 | c :: r => by
  simp only [spn]
  have := spn_len a b p r
  cases ((rd c.Key c.L p).There && inn c.Key a b) <;> simp <;> omega
def spanS (s : TStore) (a b : ByteArray) (p : Int) : List TRead × Int := bif decide (p < s.Mark) then ([], 4) else (spn a b p s.Chains, 0)
end Go.Proofs.Ythjpcfbfiaenaaa.Told.ST
