/-
  alive: the triangle, by computation.
-/
import Derived.Test.YtjmklbkcpjmcaaaV11a
namespace Go.Proofs.Ytjmklbkcpjmcaaa.V
open Go Go.RowKit Go.Proofs.Ytjmklbkcpjmcaaa.H
set_option linter.unusedVariables false
set_option linter.unusedSimpArgs false

abbrev tri : List Pt := [(0, 0), (2, 0), (0, 2)]
theorem srt_tri : srt tri = tri := (srt_eq (List.Perm.refl _) (by simp [SortedL, lt2])).symm
theorem hull_tri : hullF tri = tri := by rw [hullF, srt_tri]; decide
theorem valid_tri : validF tri = true := by rw [validF, hull_tri]; decide
abbrev trf : List Pt := [(0, -2), (0, 0), (-2, 0)]
theorem srt_trf : srt (tri.map vNeg) = [(0, -2), (-2, 0), (0, 0)] := (srt_eq (by decide) (by simp [SortedL, lt2])).symm
theorem hull_trf : hullF (tri.map vNeg) = trf := by rw [hullF, srt_trf]; decide
theorem flip_tri : FlipF tri = (trf, 0) := by rw [FlipF, if_pos valid_tri, hull_trf]
theorem srt_trf2 : srt trf = [(0, -2), (-2, 0), (0, 0)] := (srt_eq (by decide) (by simp [SortedL, lt2])).symm
theorem valid_trf : validF trf = true := by rw [validF, hullF, srt_trf2]; decide
abbrev hex : List Pt := [(0, -2), (2, -2), (2, 0), (0, 2), (-2, 2), (-2, 0)]
theorem sum_tri : sumF tri trf = hex := by decide
theorem srt_hex : srt hex = [(0, -2), (2, -2), (-2, 0), (2, 0), (-2, 2), (0, 2)] := (srt_eq (by decide) (by simp [SortedL, lt2])).symm
theorem valid_hex : validF hex = true := by rw [validF, hullF, srt_hex]; decide
theorem area_hex : AreaF hex = (24, 0) := by rw [AreaF, if_pos valid_hex]; decide

end Go.Proofs.Ytjmklbkcpjmcaaa.V
