/-
  The fields of a vector in memory.
-/
import Derived.Test.YtjmklbkcpjmcaaaV9
namespace Go.Proofs.Ytjmklbkcpjmcaaa.V
open Go Go.RowKit Go.Proofs.Ytjmklbkcpjmcaaa.H
set_option linter.unusedVariables false
set_option linter.unusedSimpArgs false

theorem Sees.fx {J : Jd} {L : List Res} {a : Addr} {q : Pt} (h : Sees J L a (enc q)) : Sees J L (a.add 0) [int q.1] := fun w hm j u hu => by
  cases j with
  | zero => rw [add_add]; exact h w hm 0 u hu
  | succ j => cases hu
theorem Sees.fy {J : Jd} {L : List Res} {a : Addr} {q : Pt} (h : Sees J L a (enc q)) : Sees J L (a.add 1) [int q.2] := fun w hm j u hu => by
  cases j with
  | zero => rw [add_add]; exact h w hm 1 u hu
  | succ j => cases hu

theorem bld0V (w : World) : (Instr.build 52 #[]).run P w = .ok (vec 0 0) w := by kernel_rfl

end Go.Proofs.Ytjmklbkcpjmcaaa.V
