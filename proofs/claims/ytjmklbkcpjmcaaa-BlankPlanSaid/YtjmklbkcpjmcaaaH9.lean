/-
  The frame of these proofs, tenth part: equality of bools.
-/
import Derived.Test.YtjmklbkcpjmcaaaH8
import Derived.Laws.StructEq
namespace Go.Proofs.Ytjmklbkcpjmcaaa.H
open Go Go.RowKit
set_option linter.unusedVariables false
set_option linter.unusedSimpArgs false

section
variable {J : Jd} {ops : Array Oper} {dest : Option (List Nat)} {Q : Post} {i : Nat} {rest : List (Nat × Kind)} {E : Env} {ds : List Deferred} {L : List Res}
variable {d : Option Nat} {ty : TypeId} {pos : String} {aft : Array Edge} {g : Option (Nat × Bool)}

/-- equality of bools -/
theorem run_eqB {P : Program} {w : World} {t : TypeId} {a b : Bool} (ht : P.underlying t = some .bool) : (Op.equal t (.bool a) (.bool b)).run P w = .ok (a == b) w := by
  obtain ⟨d, hd⟩ : ∃ d, Op.maxDepth = d + 1 := ⟨9999, rfl⟩
  unfold Op.equal
  rw [hd]
  exact run_equalIn_bool' w d t a b ht

theorem Plan.eqB {xt yt : TypeId} {x y : Operand} {a b : Bool} (ho : ops[i]? = some ⟨d, .binOp .eql xt x y yt, ty, pos, aft, g⟩) (hg : wantE ops ⟨d, .binOp .eql xt x y yt, ty, pos, aft, g⟩ E = true)
    (ht : J.P.underlying xt = some .bool) (hx : ev E x = .bool a) (hy : ev E y = .bool b) (k : Plan J ops dest Q rest (upd E d (.bool (a == b))) ds L) : Plan J ops dest Q ((i, .st) :: rest) E ds L :=
  Plan.st ho hg (St.of_exec (by intro c h; cases h) fun w _ => by
    unfold execOp
    simp only [hx, hy]
    simp [eqGuard, binOp, run_eqB ht, Result.andThen]) k

theorem Plan.neB {xt yt : TypeId} {x y : Operand} {a b : Bool} (ho : ops[i]? = some ⟨d, .binOp .neq xt x y yt, ty, pos, aft, g⟩) (hg : wantE ops ⟨d, .binOp .neq xt x y yt, ty, pos, aft, g⟩ E = true)
    (ht : J.P.underlying xt = some .bool) (hx : ev E x = .bool a) (hy : ev E y = .bool b) (k : Plan J ops dest Q rest (upd E d (.bool (!(a == b)))) ds L) : Plan J ops dest Q ((i, .st) :: rest) E ds L :=
  Plan.st ho hg (St.of_exec (by intro c h; cases h) fun w _ => by
    unfold execOp
    simp only [hx, hy]
    simp [eqGuard, binOp, run_eqB ht, Result.andThen]) k

end
end Go.Proofs.Ytjmklbkcpjmcaaa.H
