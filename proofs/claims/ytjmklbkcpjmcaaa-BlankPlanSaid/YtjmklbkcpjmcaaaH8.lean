/-
  The frame of these proofs, ninth part: min and max.
-/
import Derived.Test.YtjmklbkcpjmcaaaH7
import Derived.Laws.Small
namespace Go.Proofs.Ytjmklbkcpjmcaaa.H
open Go Go.RowKit
set_option linter.unusedVariables false
set_option linter.unusedSimpArgs false

section
variable {J : Jd} {ops : Array Oper} {dest : Option (List Nat)} {Q : Post} {i : Nat} {rest : List (Nat × Kind)} {E : Env} {ds : List Deferred} {L : List Res}
variable {d : Option Nat} {ty : TypeId} {pos : String} {aft : Array Edge} {g : Option (Nat × Bool)}

def maxI (a b : Int) : Int := if b > a then b else a
def minI (a b : Int) : Int := if b < a then b else a

theorem Plan.max {x y : Operand} {ts : Array TypeId} {a b : Int} {kd : IntKind} (ho : ops[i]? = some ⟨d, .call ⟨.builtin .max, #[x, y], ts⟩, ty, pos, aft, g⟩)
    (hg : wantE ops ⟨d, .call ⟨.builtin .max, #[x, y], ts⟩, ty, pos, aft, g⟩ E = true) (hx : ev E x = .int kd a) (hy : ev E y = .int kd b)
    (k : Plan J ops dest Q rest (upd E d (.int kd (maxI a b))) ds L) : Plan J ops dest Q ((i, .st) :: rest) E ds L :=
  Plan.st ho hg (St.of_exec (by intro c h; cases h) fun w _ => by
    unfold execOp
    simp [resolve, hx, hy, invoke, builtin, run_max_int2, Result.andThen, maxI]) k

theorem Plan.min {x y : Operand} {ts : Array TypeId} {a b : Int} {kd : IntKind} (ho : ops[i]? = some ⟨d, .call ⟨.builtin .min, #[x, y], ts⟩, ty, pos, aft, g⟩)
    (hg : wantE ops ⟨d, .call ⟨.builtin .min, #[x, y], ts⟩, ty, pos, aft, g⟩ E = true) (hx : ev E x = .int kd a) (hy : ev E y = .int kd b)
    (k : Plan J ops dest Q rest (upd E d (.int kd (minI a b))) ds L) : Plan J ops dest Q ((i, .st) :: rest) E ds L :=
  Plan.st ho hg (St.of_exec (by intro c h; cases h) fun w _ => by
    unfold execOp
    have hmin : ∀ w, (Builtin.min_ ts ty #[.int kd a, .int kd b]).run J.P w = .ok (.int kd (if b < a then b else a)) w := fun w => by
      simp [Builtin.min_, Builtin.min2]
    simp [resolve, hx, hy, invoke, builtin, hmin, Result.andThen, minI]) k
/-- division and remainder of signed numbers -/
theorem Plan.remT {xt yt : TypeId} {x y : Operand} {a b : Int} (ho : ops[i]? = some ⟨d, .binOp .rem xt x y yt, ty, pos, aft, g⟩)
    (hg : wantE ops ⟨d, .binOp .rem xt x y yt, ty, pos, aft, g⟩ E = true) (hx : ev E x = .int .i64 a) (hy : ev E y = .int .i64 b) (hb : b ≠ 0)
    (k : Plan J ops dest Q rest (upd E d (.int .i64 (a.tmod b))) ds L) : Plan J ops dest Q ((i, .st) :: rest) E ds L :=
  Plan.st ho hg (St.of_exec (by intro c h; cases h) fun w _ => by
    unfold execOp
    simp [hx, hy, eqGuard, binOp, Op.intDiv, hb, Result.andThen]) k

theorem Plan.quoT {xt yt : TypeId} {x y : Operand} {a b : Int} (ho : ops[i]? = some ⟨d, .binOp .quo xt x y yt, ty, pos, aft, g⟩)
    (hg : wantE ops ⟨d, .binOp .quo xt x y yt, ty, pos, aft, g⟩ E = true) (hx : ev E x = .int .i64 a) (hy : ev E y = .int .i64 b) (h : -9223372036854775807 ≤ a ∧ a ≤ 9223372036854775807 ∧ b ≠ 0)
    (k : Plan J ops dest Q rest (upd E d (.int .i64 (a.tdiv b))) ds L) : Plan J ops dest Q ((i, .st) :: rest) E ds L :=
  Plan.st ho hg (St.of_exec (by intro c h; cases h) fun w _ => by
    unfold execOp
    have hb := h.2.2
    have h1 : (a.tdiv b).natAbs ≤ a.natAbs := by rw [Int.natAbs_tdiv]; exact Nat.div_le_self _ _
    have hw := wrap_i64 (n := a.tdiv b) (by omega) (by omega)
    simp [hx, hy, eqGuard, binOp, Op.intDiv, hb, Result.andThen, hw]) k

end
end Go.Proofs.Ytjmklbkcpjmcaaa.H
