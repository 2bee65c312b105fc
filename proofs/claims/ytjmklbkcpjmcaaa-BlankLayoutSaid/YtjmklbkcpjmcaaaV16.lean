/-
  What sum computes.
  alive: the triangle, by computation.
-/
import Derived.Test.YtjmklbkcpjmcaaaV10
namespace Go.Proofs.Ytjmklbkcpjmcaaa.V
open Go Go.RowKit Go.Proofs.Ytjmklbkcpjmcaaa.H
set_option linter.unusedVariables false
set_option linter.unusedSimpArgs false

def vSub (a b : Pt) : Pt := (a.1 - b.1, a.2 - b.2)
/-- the edge that leaves vertex number i, around and around -/
def ed (p : List Pt) (i : Nat) : Pt := vSub (nth p ((i + 1) % p.length)) (nth p (i % p.length))
def sumPt (p q : List Pt) (i k : Nat) : Pt := vAdd (nth q (k % q.length)) (nth p (i % p.length))

def sumR (p q : List Pt) : Nat → Nat → Nat → List Pt
  | 0, _, _ => []
  | fuel + 1, i, k =>
    if i < p.length ∨ k < q.length then
      sumPt p q i k :: (if k = q.length ∨ (i < p.length ∧ 0 ≤ crossP (ed p i) (ed q k)) then
          (if k < q.length ∧ crossP (ed p i) (ed q k) = 0 then sumR p q fuel (i + 1) (k + 1) else sumR p q fuel (i + 1) k)
        else sumR p q fuel i (k + 1))
    else []

def sumF (p q : List Pt) : List Pt := sumR p q (p.length + q.length) 0 0
def SumF (p q : List Pt) : List Pt × Int := if validF p && validF q then (madeL (sumF p q), madeE (sumF p q)) else ([], 2)

theorem sumR_len (p q : List Pt) : ∀ fuel i k, (sumR p q fuel i k).length ≤ fuel
  | 0, _, _ => Nat.le_refl _
  | fuel + 1, i, k => by
    have h1 := sumR_len p q fuel (i + 1) (k + 1)
    have h2 := sumR_len p q fuel (i + 1) k
    have h3 := sumR_len p q fuel i (k + 1)
    unfold sumR
    (repeat' split) <;> simp <;> omega

end Go.Proofs.Ytjmklbkcpjmcaaa.V

namespace Go.Proofs.Ytjmklbkcpjmcaaa.V
open Go Go.RowKit Go.Proofs.Ytjmklbkcpjmcaaa.H
set_option linter.unusedVariables false
set_option linter.unusedSimpArgs false

abbrev tri : List Pt := [(0, 0), (2, 0), (0, 2)]
theorem srt_tri : srt tri = tri := (srt_eq (List.Perm.refl _) (by simp [SortedL, lt2])).symm
theorem hull_tri : hullF tri = tri := by rw [hullF, srt_tri]; decide
theorem valid_tri : validF tri = true := by rw [validF, hull_tri]; decide
abbrev trf : List Pt := [(0, -2), (0, 0), (-2, 0)]
theorem srt_trf : srt (tri.map vNeg) = [(0, -2), (-2, 0), (0, 0)] := (srt_eq (by decide) (by simp [SortedL, lt2])).symm
theorem hull_trf : hullF (tri.map vNeg) = trf := by rw [hullF, srt_trf]; decide
theorem flip_tri : FlipF tri = (trf, 0) := by rw [FlipF, if_pos valid_tri, hull_trf]
theorem srt_trf2 : srt trf = [(0, -2), (-2, 0), (0, 0)] := (srt_eq (by decide) (by simp [SortedL, lt2])).symm
theorem valid_trf : validF trf = true := by rw [validF, hullF, srt_trf2]; decide
abbrev hex : List Pt := [(0, -2), (2, -2), (2, 0), (0, 2), (-2, 2), (-2, 0)]
theorem sum_tri : sumF tri trf = hex := by decide
theorem srt_hex : srt hex = [(0, -2), (2, -2), (-2, 0), (2, 0), (-2, 2), (0, 2)] := (srt_eq (by decide) (by simp [SortedL, lt2])).symm
theorem valid_hex : validF hex = true := by rw [validF, hullF, srt_hex]; decide
theorem area_hex : AreaF hex = (24, 0) := by rw [AreaF, if_pos valid_hex]; decide

end Go.Proofs.Ytjmklbkcpjmcaaa.V
