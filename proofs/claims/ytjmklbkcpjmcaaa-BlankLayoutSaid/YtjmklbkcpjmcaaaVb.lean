/-
  The types of layer 4: grids, blanks, maps of vectors.
-/
import Derived.Test.YtjmklbkcpjmcaaaV13
import Derived.Test.YtjmklbkcpjmcaaaH5
namespace Go.Proofs.Ytjmklbkcpjmcaaa.V
open Go Go.RowKit Go.Proofs.Ytjmklbkcpjmcaaa.H
set_option linter.unusedVariables false
set_option linter.unusedSimpArgs false

abbrev Gd := Int × Int × Int
abbrev gdv (a b d : Int) : Value := .agg #[.int .i64 a, .int .i64 b, .int .i64 d]
abbrev gd (g : Gd) : Value := gdv g.1 g.2.1 g.2.2

theorem aggGrid (w : World) : (isAgg 26).run P w = .ok true w := by kernel_rfl
theorem sizGrid (w : World) : (sizeOf 26).run P w = .ok 3 w := by kernel_rfl
theorem zerGrid (w : World) : (zeroValue 26).run P w = .ok (gdv 0 0 0) w := by kernel_rfl
theorem fldGrid0 (w : World) (a : Addr) : (Instr.fieldAt 26 (.pointer (some a)) 0).run P w = .ok (.pointer (some (a.add 0))) w := by kernel_rfl
theorem fldGrid1 (w : World) (a : Addr) : (Instr.fieldAt 26 (.pointer (some a)) 1).run P w = .ok (.pointer (some (a.add 1))) w := by kernel_rfl
theorem fldGrid2 (w : World) (a : Addr) : (Instr.fieldAt 26 (.pointer (some a)) 2).run P w = .ok (.pointer (some (a.add 2))) w := by kernel_rfl
theorem bldGrid (a b d : Int) (w : World) : (Instr.build 26 #[(0, int a), (1, int b), (2, int d)]).run P w = .ok (gdv a b d) w := by kernel_rfl
theorem bld0Grid (w : World) : (Instr.build 26 #[]).run P w = .ok (gdv 0 0 0) w := by kernel_rfl
theorem aggshape (w : World) : (isAgg 96).run P w = .ok true w := by kernel_rfl
theorem sizshape (w : World) : (sizeOf 96).run P w = .ok 2 w := by kernel_rfl
theorem fldshape0 (w : World) (a : Addr) : (Instr.fieldAt 96 (.pointer (some a)) 0).run P w = .ok (.pointer (some (a.add 0))) w := by kernel_rfl
theorem fldshape1 (w : World) (a : Addr) : (Instr.fieldAt 96 (.pointer (some a)) 1).run P w = .ok (.pointer (some (a.add 1))) w := by kernel_rfl
theorem bldshape (A : Option Addr) (n c : Nat) (m : Option Nat) (w : World) : (Instr.build 96 #[(0, .slice A n c), (1, .map m)]).run P w = .ok (.agg #[.slice A n c, .map m]) w := by kernel_rfl
theorem aggMap_api_Vec_bool (w : World) : (isAgg 94).run P w = .ok false w := by kernel_rfl
theorem sizMap_api_Vec_bool (w : World) : (sizeOf 94).run P w = .ok 1 w := by kernel_rfl
theorem undMap_api_Vec_bool : P.underlying 94 = some (.map 52 4) := by kernel_rfl

theorem chkVec (e : Bool) (a b : Int) (w : World) : (Instr.checkKey e 10000 52 (vec a b)).run P w = .ok () w := by
  cases e <;> kernel_rfl

theorem keysVec : Keys P 52 vc where
  desc := ⟨_, undV, fun a b => rfl⟩
  chk e k w := chkVec e _ _ w
  eq a b w := by
    show (Op.equalIn 10000 52 (vec a.1 a.2) (vec b.1 b.2)).run P w = _
    rw [eqVec]
    congr 1
    obtain ⟨a1, a2⟩ := a
    obtain ⟨b1, b2⟩ := b
    by_cases h1 : a1 = b1 <;> by_cases h2 : a2 = b2 <;> simp [h1, h2]
  same a := by
    show Instr.sameBits 10000 (.agg #[.int .i64 a.1, .int .i64 a.2]) (.agg #[.int .i64 a.1, .int .i64 a.2]) = true
    simp [Instr.sameBits]

/-- a key that is not there -/
theorem putK_new {K V : Type} [DecidableEq K] {k : K} {v : V} {l : List (K × V)} (h : ∀ x ∈ l, x.1 ≠ k) : putK k v l = l ++ [(k, v)] := by
  unfold putK keyAt
  rw [List.findIdx?_eq_none_iff.2 (fun x hx => by simpa using h x hx)]

end Go.Proofs.Ytjmklbkcpjmcaaa.V
