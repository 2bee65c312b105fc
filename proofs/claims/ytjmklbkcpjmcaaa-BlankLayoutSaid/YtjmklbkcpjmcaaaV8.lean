/-
  place, Place, Area, extreme, Extreme.
-/
import Derived.Test.YtjmklbkcpjmcaaaV7
import Derived.Test.YtjmklbkcpjmcaaaH5
namespace Go.Proofs.Ytjmklbkcpjmcaaa.V
open Go Go.RowKit Go.Proofs.Ytjmklbkcpjmcaaa.H
set_option linter.unusedVariables false
set_option linter.unusedSimpArgs false

theorem trn_bd {a b c : Pt} : True := trivial

/-- on which side of edge k a point is -/
def side (ps : List Pt) (v : Pt) (k : Nat) : Int := trn (nth ps k) (nx ps k) v
/-- where a point lies -/
def placeF (ps : List Pt) (v : Pt) : Int :=
  if ∃ k, k < ps.length ∧ side ps v k < 0 then -1 else if ∃ k, k < ps.length ∧ side ps v k = 0 then 0 else 1

theorem placeF_neg {ps : List Pt} {v : Pt} {k : Nat} (hk : k < ps.length) (h : side ps v k < 0) : placeF ps v = -1 := if_pos ⟨k, hk, h⟩

structure PlG where
  at' : Int
  res : Int

end Go.Proofs.Ytjmklbkcpjmcaaa.V
