/-
  The types of layer 4: items, cuts, the cutter, pairs of numbers.
-/
import Derived.Test.YtjmklbkcpjmcaaaB3
import Derived.Test.YtjmklbkcpjmcaaaL1
import Derived.Test.YtjmklbkcpjmcaaaHb
import Derived.ChangeKeysEq
namespace Go.Proofs.Ytjmklbkcpjmcaaa.V
open Go Go.RowKit Go.Proofs.Ytjmklbkcpjmcaaa.H Go.Proofs.Ytjmklbkcpjmcaaa.LL
set_option linter.unusedVariables false
set_option linter.unusedSimpArgs false

abbrev itv (a b c : Int) : Value := .agg #[.int .i64 a, .int .i64 b, .int .i64 c]
abbrev encT (i : It) : List Value := [int i.1, int i.2.1, int i.2.2]
theorem encT3 (i : It) : (encT i).length = 3 := rfl
theorem encT1 (i : It) : (encT i).all (·.oneCell') = true := rfl

theorem aggItem (w : World) : (isAgg 37).run P w = .ok true w := by kernel_rfl
theorem sizItem (w : World) : (sizeOf 37).run P w = .ok 3 w := by kernel_rfl
theorem sizapiItem (w : World) : (sizeOf 37).run P w = .ok 3 w := by kernel_rfl
theorem zerItem (w : World) : (zeroValue 37).run P w = .ok (itv 0 0 0) w := by kernel_rfl
theorem fldItem0 (w : World) (a : Addr) : (Instr.fieldAt 37 (.pointer (some a)) 0).run P w = .ok (.pointer (some (a.add 0))) w := by kernel_rfl
theorem fldItem1 (w : World) (a : Addr) : (Instr.fieldAt 37 (.pointer (some a)) 1).run P w = .ok (.pointer (some (a.add 1))) w := by kernel_rfl
theorem fldItem2 (w : World) (a : Addr) : (Instr.fieldAt 37 (.pointer (some a)) 2).run P w = .ok (.pointer (some (a.add 2))) w := by kernel_rfl
theorem bldItem (a b c : Int) (w : World) : (Instr.build 37 #[(0, int a), (1, int b), (2, int c)]).run P w = .ok (itv a b c) w := by kernel_rfl
theorem bld0Item (w : World) : (Instr.build 37 #[]).run P w = .ok (itv 0 0 0) w := by kernel_rfl
theorem slapiItem : P.underlying 30 = some (.slice 37) := by kernel_rfl
theorem agg_api_Item (w : World) : (isAgg 30).run P w = .ok false w := by kernel_rfl
theorem siz_api_Item (w : World) : (sizeOf 30).run P w = .ok 1 w := by kernel_rfl

theorem aggCut (w : World) : (isAgg 69).run P w = .ok true w := by kernel_rfl
theorem sizCut (w : World) : (sizeOf 69).run P w = .ok 2 w := by kernel_rfl
theorem sizapiCut (w : World) : (sizeOf 69).run P w = .ok 2 w := by kernel_rfl
theorem zerCut (w : World) : (zeroValue 69).run P w = .ok (vec 0 0) w := by kernel_rfl
theorem fldCut0 (w : World) (a : Addr) : (Instr.fieldAt 69 (.pointer (some a)) 0).run P w = .ok (.pointer (some (a.add 0))) w := by kernel_rfl
theorem fldCut1 (w : World) (a : Addr) : (Instr.fieldAt 69 (.pointer (some a)) 1).run P w = .ok (.pointer (some (a.add 1))) w := by kernel_rfl
theorem bldCut (a b : Int) (w : World) : (Instr.build 69 #[(0, int a), (1, int b)]).run P w = .ok (vec a b) w := by kernel_rfl
theorem bld0Cut (w : World) : (Instr.build 69 #[]).run P w = .ok (vec 0 0) w := by kernel_rfl
theorem slapiCut : P.underlying 32 = some (.slice 69) := by kernel_rfl
theorem agg_api_Cut (w : World) : (isAgg 32).run P w = .ok false w := by kernel_rfl
theorem siz_api_Cut (w : World) : (sizeOf 32).run P w = .ok 1 w := by kernel_rfl
theorem infapiCut : ∃ ti, P.info? 69 = some ti ∧ (ti.zero, ti.size, ti.bytes) = (some (vec 0 0), 2, 16) := by
  have e : (P.info? 69).map (fun ti => (ti.zero, ti.size, ti.bytes)) = some (some (vec 0 0), 2, 16) := by kernel_rfl
  obtain ⟨ti, h1, h2⟩ := Option.map_eq_some_iff.1 e
  exact ⟨ti, h1, h2⟩
theorem bsCut1 (a b : Int) (w : World) : (Instr.buildSlice 32 1 #[(0, vec a b)]).run P w = .ok (.slice (some ⟨w.heap.size, 0, none⟩) 1 1) (w.alloc (.cells #[int a, int b] 69 (0, 0))) := by kernel_rfl
abbrev ownC (o : Option Nat) (c : Nat) (xs : List Ct2) : Res := Res.own enc 2 69 o c xs
theorem slSsapiCut : P.underlying 127 = some (.slice 32) := by kernel_rfl
theorem sizSsapiCut (w : World) : (sizeOf 32).run P w = .ok 1 w := by kernel_rfl

theorem aggcutter (w : World) : (isAgg 79).run P w = .ok true w := by kernel_rfl
theorem sizcutter (w : World) : (sizeOf 79).run P w = .ok 2 w := by kernel_rfl
theorem fldcutter0 (w : World) (a : Addr) : (Instr.fieldAt 79 (.pointer (some a)) 0).run P w = .ok (.pointer (some (a.add 0))) w := by kernel_rfl
theorem fldcutter1 (w : World) (a : Addr) : (Instr.fieldAt 79 (.pointer (some a)) 1).run P w = .ok (.pointer (some (a.add 1))) w := by kernel_rfl
theorem bldcutter (A : Option Addr) (n c : Nat) (m : Option Nat) (w : World) : (Instr.build 79 #[(0, .slice A n c), (1, .map m)]).run P w = .ok (.agg #[.slice A n c, .map m]) w := by kernel_rfl
theorem aggMap_2_int_int (w : World) : (isAgg 77).run P w = .ok false w := by kernel_rfl
theorem undMap_2_int_int : P.underlying 77 = some (.map 114 3) := by kernel_rfl
theorem agg2int (w : World) : (isAgg 114).run P w = .ok true w := by kernel_rfl
theorem siz2int (w : World) : (sizeOf 114).run P w = .ok 2 w := by kernel_rfl
theorem zer2int (w : World) : (zeroValue 114).run P w = .ok (vec 0 0) w := by kernel_rfl
theorem bld2int (a b : Int) (w : World) : (Instr.build 114 #[(0, int a), (1, int b)]).run P w = .ok (vec a b) w := by kernel_rfl

theorem und2 : P.underlying 114 = some (.array 2 3) := by kernel_rfl
theorem inf1 : ∃ ti, P.info? 3 = some ti := by
  have e : (P.info? 3).isSome = true := by kernel_rfl
  exact Option.isSome_iff_exists.1 e
theorem cells1 : P.cellsOf 3 = 1 := by kernel_rfl
theorem eq2 (a b c d : Int) (w : World) : (Op.equalIn 10000 114 (vec a b) (vec c d)).run P w = .ok (a == c && b == d) w := by
  obtain ⟨ti, hi⟩ := inf1
  rw [run_equalIn_array w 9999 _ _ und2 hi, cells1]
  have e1 : (part 3 #[int a, int b] (0 * 1)).run P w = .ok (int a) w := by kernel_rfl
  have e2 : (part 3 #[int c, int d] (0 * 1)).run P w = .ok (int c) w := by kernel_rfl
  have e3 : (part 3 #[int a, int b] (1 * 1)).run P w = .ok (int b) w := by kernel_rfl
  have e4 : (part 3 #[int c, int d] (1 * 1)).run P w = .ok (int d) w := by kernel_rfl
  have e5 : (Op.equalIn 9999 3 (int a) (int c)).run P w = .ok (a == c) w := run_equalIn_int w _ _ _ _ _ _ undI
  have e6 : (Op.equalIn 9999 3 (int b) (int d)).run P w = .ok (b == d) w := run_equalIn_int w _ _ _ _ _ _ undI
  have hr : List.range 2 = [0, 1] := by decide
  rw [hr]
  simp only [Op.eqItems, Sem.run_bind, e1, e2, e5, Result.andThen_ok]
  cases h1 : (a == c)
  · simp
  · simp only [Bool.true_and]
    simp [Sem.run_bind, e3, e4, e6]
    by_cases hbd : b = d <;> simp [hbd]

theorem chk2 (e : Bool) (a b : Int) (w : World) : (Instr.checkKey e 10000 114 (vec a b)).run P w = .ok () w := by
  cases e <;> kernel_rfl
theorem keys2 : Keys P 114 vc where
  desc := ⟨_, und2, fun a b => rfl⟩
  chk e k w := chk2 e _ _ w
  eq a b w := by
    show (Op.equalIn 10000 114 (vec a.1 a.2) (vec b.1 b.2)).run P w = _
    rw [eq2]
    congr 1
    obtain ⟨a1, a2⟩ := a
    obtain ⟨b1, b2⟩ := b
    by_cases h1 : a1 = b1 <;> by_cases h2 : a2 = b2 <;> simp [h1, h2]
  same a := by
    show Instr.sameBits 10000 (.agg #[.int .i64 a.1, .int .i64 a.2]) (.agg #[.int .i64 a.1, .int .i64 a.2]) = true
    simp [Instr.sameBits]

end Go.Proofs.Ytjmklbkcpjmcaaa.V
