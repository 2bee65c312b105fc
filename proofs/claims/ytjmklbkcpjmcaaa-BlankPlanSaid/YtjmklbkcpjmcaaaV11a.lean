/-
  What sum computes.
-/
import Derived.Test.YtjmklbkcpjmcaaaV10
namespace Go.Proofs.Ytjmklbkcpjmcaaa.V
open Go Go.RowKit Go.Proofs.Ytjmklbkcpjmcaaa.H
set_option linter.unusedVariables false
set_option linter.unusedSimpArgs false

def vSub (a b : Pt) : Pt := (a.1 - b.1, a.2 - b.2)
/-- the edge that leaves vertex number i, around and around -/
def ed (p : List Pt) (i : Nat) : Pt := vSub (nth p ((i + 1) % p.length)) (nth p (i % p.length))
def sumPt (p q : List Pt) (i k : Nat) : Pt := vAdd (nth q (k % q.length)) (nth p (i % p.length))

def sumR (p q : List Pt) : Nat → Nat → Nat → List Pt
  | 0, _, _ => []
  | fuel + 1, i, k =>
    if i < p.length ∨ k < q.length then
      sumPt p q i k :: (if k = q.length ∨ (i < p.length ∧ 0 ≤ crossP (ed p i) (ed q k)) then
          (if k < q.length ∧ crossP (ed p i) (ed q k) = 0 then sumR p q fuel (i + 1) (k + 1) else sumR p q fuel (i + 1) k)
        else sumR p q fuel i (k + 1))
    else []

def sumF (p q : List Pt) : List Pt := sumR p q (p.length + q.length) 0 0
def SumF (p q : List Pt) : List Pt × Int := if validF p && validF q then (madeL (sumF p q), madeE (sumF p q)) else ([], 2)

theorem sumR_len (p q : List Pt) : ∀ fuel i k, (sumR p q fuel i k).length ≤ fuel
  | 0, _, _ => Nat.le_refl _
  | fuel + 1, i, k => by
    have h1 := sumR_len p q fuel (i + 1) (k + 1)
    have h2 := sumR_len p q fuel (i + 1) k
    have h3 := sumR_len p q fuel i (k + 1)
    unfold sumR
    (repeat' split) <;> simp <;> omega

end Go.Proofs.Ytjmklbkcpjmcaaa.V
