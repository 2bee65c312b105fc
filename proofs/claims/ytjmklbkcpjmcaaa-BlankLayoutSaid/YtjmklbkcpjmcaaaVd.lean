/-
  The types of layer 4: items, cuts, the cutter, pairs of numbers.
  Grids, cuts and items that are equal or not.
-/
import Derived.Test.YtjmklbkcpjmcaaaB3
import Derived.Test.YtjmklbkcpjmcaaaL1
import Derived.Test.YtjmklbkcpjmcaaaH5
import Derived.ChangeKeysEq
namespace Go.Proofs.Ytjmklbkcpjmcaaa.V
open Go Go.RowKit Go.Proofs.Ytjmklbkcpjmcaaa.H Go.Proofs.Ytjmklbkcpjmcaaa.LL
set_option linter.unusedVariables false
set_option linter.unusedSimpArgs false

abbrev itv (a b c : Int) : Value := .agg #[.int .i64 a, .int .i64 b, .int .i64 c]
abbrev encT (i : It) : List Value := [int i.1, int i.2.1, int i.2.2]
theorem encT3 (i : It) : (encT i).length = 3 := rfl
theorem encT1 (i : It) : (encT i).all (·.oneCell') = true := rfl

theorem aggItem (w : World) : (isAgg 37).run P w = .ok true w := by kernel_rfl
theorem sizItem (w : World) : (sizeOf 37).run P w = .ok 3 w := by kernel_rfl
theorem sizapiItem (w : World) : (sizeOf 37).run P w = .ok 3 w := by kernel_rfl
theorem zerItem (w : World) : (zeroValue 37).run P w = .ok (itv 0 0 0) w := by kernel_rfl
theorem fldItem0 (w : World) (a : Addr) : (Instr.fieldAt 37 (.pointer (some a)) 0).run P w = .ok (.pointer (some (a.add 0))) w := by kernel_rfl
theorem fldItem1 (w : World) (a : Addr) : (Instr.fieldAt 37 (.pointer (some a)) 1).run P w = .ok (.pointer (some (a.add 1))) w := by kernel_rfl
theorem fldItem2 (w : World) (a : Addr) : (Instr.fieldAt 37 (.pointer (some a)) 2).run P w = .ok (.pointer (some (a.add 2))) w := by kernel_rfl
theorem bldItem (a b c : Int) (w : World) : (Instr.build 37 #[(0, int a), (1, int b), (2, int c)]).run P w = .ok (itv a b c) w := by kernel_rfl
theorem bld0Item (w : World) : (Instr.build 37 #[]).run P w = .ok (itv 0 0 0) w := by kernel_rfl
theorem slapiItem : P.underlying 30 = some (.slice 37) := by kernel_rfl
theorem agg_api_Item (w : World) : (isAgg 30).run P w = .ok false w := by kernel_rfl
theorem siz_api_Item (w : World) : (sizeOf 30).run P w = .ok 1 w := by kernel_rfl

theorem aggCut (w : World) : (isAgg 69).run P w = .ok true w := by kernel_rfl
theorem sizCut (w : World) : (sizeOf 69).run P w = .ok 2 w := by kernel_rfl
theorem sizapiCut (w : World) : (sizeOf 69).run P w = .ok 2 w := by kernel_rfl
theorem zerCut (w : World) : (zeroValue 69).run P w = .ok (vec 0 0) w := by kernel_rfl
theorem fldCut0 (w : World) (a : Addr) : (Instr.fieldAt 69 (.pointer (some a)) 0).run P w = .ok (.pointer (some (a.add 0))) w := by kernel_rfl
theorem fldCut1 (w : World) (a : Addr) : (Instr.fieldAt 69 (.pointer (some a)) 1).run P w = .ok (.pointer (some (a.add 1))) w := by kernel_rfl
theorem bldCut (a b : Int) (w : World) : (Instr.build 69 #[(0, int a), (1, int b)]).run P w = .ok (vec a b) w := by kernel_rfl
theorem bld0Cut (w : World) : (Instr.build 69 #[]).run P w = .ok (vec 0 0) w := by kernel_rfl
theorem slapiCut : P.underlying 32 = some (.slice 69) := by kernel_rfl
theorem agg_api_Cut (w : World) : (isAgg 32).run P w = .ok false w := by kernel_rfl
theorem siz_api_Cut (w : World) : (sizeOf 32).run P w = .ok 1 w := by kernel_rfl
theorem infapiCut : ∃ ti, P.info? 69 = some ti ∧ (ti.zero, ti.size, ti.bytes) = (some (vec 0 0), 2, 16) := by
  have e : (P.info? 69).map (fun ti => (ti.zero, ti.size, ti.bytes)) = some (some (vec 0 0), 2, 16) := by kernel_rfl
  obtain ⟨ti, h1, h2⟩ := Option.map_eq_some_iff.1 e
  exact ⟨ti, h1, h2⟩
theorem bsCut1 (a b : Int) (w : World) : (Instr.buildSlice 32 1 #[(0, vec a b)]).run P w = .ok (.slice (some ⟨w.heap.size, 0, none⟩) 1 1) (w.alloc (.cells #[int a, int b] 69 (0, 0))) := by kernel_rfl
abbrev ownC (o : Option Nat) (c : Nat) (xs : List Ct2) : Res := Res.own enc 2 69 o c xs
theorem slSsapiCut : P.underlying 127 = some (.slice 32) := by kernel_rfl
theorem sizSsapiCut (w : World) : (sizeOf 32).run P w = .ok 1 w := by kernel_rfl

theorem aggcutter (w : World) : (isAgg 79).run P w = .ok true w := by kernel_rfl
theorem sizcutter (w : World) : (sizeOf 79).run P w = .ok 2 w := by kernel_rfl
theorem fldcutter0 (w : World) (a : Addr) : (Instr.fieldAt 79 (.pointer (some a)) 0).run P w = .ok (.pointer (some (a.add 0))) w := by kernel_rfl
theorem fldcutter1 (w : World) (a : Addr) : (Instr.fieldAt 79 (.pointer (some a)) 1).run P w = .ok (.pointer (some (a.add 1))) w := by kernel_rfl
theorem bldcutter (A : Option Addr) (n c : Nat) (m : Option Nat) (w : World) : (Instr.build 79 #[(0, .slice A n c), (1, .map m)]).run P w = .ok (.agg #[.slice A n c, .map m]) w := by kernel_rfl
theorem aggMap_2_int_int (w : World) : (isAgg 77).run P w = .ok false w := by kernel_rfl
theorem undMap_2_int_int : P.underlying 77 = some (.map 114 3) := by kernel_rfl
theorem agg2int (w : World) : (isAgg 114).run P w = .ok true w := by kernel_rfl
theorem siz2int (w : World) : (sizeOf 114).run P w = .ok 2 w := by kernel_rfl
theorem zer2int (w : World) : (zeroValue 114).run P w = .ok (vec 0 0) w := by kernel_rfl
theorem bld2int (a b : Int) (w : World) : (Instr.build 114 #[(0, int a), (1, int b)]).run P w = .ok (vec a b) w := by kernel_rfl

theorem und2 : P.underlying 114 = some (.array 2 3) := by kernel_rfl
theorem inf1 : ∃ ti, P.info? 3 = some ti := by
  have e : (P.info? 3).isSome = true := by kernel_rfl
  exact Option.isSome_iff_exists.1 e
theorem cells1 : P.cellsOf 3 = 1 := by kernel_rfl
theorem eq2 (a b c d : Int) (w : World) : (Op.equalIn 10000 114 (vec a b) (vec c d)).run P w = .ok (a == c && b == d) w := by
  obtain ⟨ti, hi⟩ := inf1
  rw [run_equalIn_array w 9999 _ _ und2 hi, cells1]
  have e1 : (part 3 #[int a, int b] (0 * 1)).run P w = .ok (int a) w := by kernel_rfl
  have e2 : (part 3 #[int c, int d] (0 * 1)).run P w = .ok (int c) w := by kernel_rfl
  have e3 : (part 3 #[int a, int b] (1 * 1)).run P w = .ok (int b) w := by kernel_rfl
  have e4 : (part 3 #[int c, int d] (1 * 1)).run P w = .ok (int d) w := by kernel_rfl
  have e5 : (Op.equalIn 9999 3 (int a) (int c)).run P w = .ok (a == c) w := run_equalIn_int w _ _ _ _ _ _ undI
  have e6 : (Op.equalIn 9999 3 (int b) (int d)).run P w = .ok (b == d) w := run_equalIn_int w _ _ _ _ _ _ undI
  have hr : List.range 2 = [0, 1] := by decide
  rw [hr]
  simp only [Op.eqItems, Sem.run_bind, e1, e2, e5, Result.andThen_ok]
  cases h1 : (a == c)
  · simp
  · simp only [Bool.true_and]
    simp [Sem.run_bind, e3, e4, e6]
    by_cases hbd : b = d <;> simp [hbd]

theorem chk2 (e : Bool) (a b : Int) (w : World) : (Instr.checkKey e 10000 114 (vec a b)).run P w = .ok () w := by
  cases e <;> kernel_rfl
theorem keys2 : Keys P 114 vc where
  desc := ⟨_, und2, fun a b => rfl⟩
  chk e k w := chk2 e _ _ w
  eq a b w := by
    show (Op.equalIn 10000 114 (vec a.1 a.2) (vec b.1 b.2)).run P w = _
    rw [eq2]
    congr 1
    obtain ⟨a1, a2⟩ := a
    obtain ⟨b1, b2⟩ := b
    by_cases h1 : a1 = b1 <;> by_cases h2 : a2 = b2 <;> simp [h1, h2]
  same a := by
    show Instr.sameBits 10000 (.agg #[.int .i64 a.1, .int .i64 a.2]) (.agg #[.int .i64 a.1, .int .i64 a.2]) = true
    simp [Instr.sameBits]

end Go.Proofs.Ytjmklbkcpjmcaaa.V

namespace Go.Proofs.Ytjmklbkcpjmcaaa.V
open Go Go.RowKit Go.Proofs.Ytjmklbkcpjmcaaa.H Go.Proofs.Ytjmklbkcpjmcaaa.LL
set_option linter.unusedVariables false
set_option linter.unusedSimpArgs false

theorem eq2f {t : TypeId} (und : P.underlying t = some (.struct (P.fieldsOf t))) (hs : P.stoodInHeld t = false) (fl : (P.fieldsOf t).toList.map (fun f => (f.name == "_", f.type, f.offset)) = [(false, 3, 0), (false, 3, 1)])
    (a b c d : Int) (w : World) : (Op.equalIn 10000 t (vec a b) (vec c d)).run P w = .ok (a == c && b == d) w := by
  rw [run_equalIn_struct w 9999 t _ _ und hs]
  generalize (P.fieldsOf t).toList = fs at fl
  obtain ⟨f, g, rfl⟩ : ∃ f g, fs = [f, g] := by
    have hl := congrArg List.length fl
    match fs, hl with
    | [f, g], _ => exact ⟨f, g, rfl⟩
  simp only [List.map_cons, List.map_nil, List.cons.injEq, Prod.mk.injEq, and_true] at fl
  obtain ⟨⟨hn, ht, ho⟩, hn2, ht2, ho2⟩ := fl
  have hn : f.name ≠ "_" := by simpa using hn
  have hn2 : g.name ≠ "_" := by simpa using hn2
  have e1 : (part f.type #[int a, int b] f.offset).run P w = .ok (int a) w := by rw [ht, ho]; kernel_rfl
  have e2 : (part f.type #[int c, int d] f.offset).run P w = .ok (int c) w := by rw [ht, ho]; kernel_rfl
  have e3 : (part g.type #[int a, int b] g.offset).run P w = .ok (int b) w := by rw [ht2, ho2]; kernel_rfl
  have e4 : (part g.type #[int c, int d] g.offset).run P w = .ok (int d) w := by rw [ht2, ho2]; kernel_rfl
  have e5 : (Op.equalIn 9999 f.type (int a) (int c)).run P w = .ok (a == c) w := by rw [ht]; exact run_equalIn_int w _ _ _ _ _ _ undI
  have e6 : (Op.equalIn 9999 g.type (int b) (int d)).run P w = .ok (b == d) w := by rw [ht2]; exact run_equalIn_int w _ _ _ _ _ _ undI
  simp only [Op.eqFields, if_pos hn, if_pos hn2, Sem.run_bind, e1, e2, e5, Result.andThen_ok]
  cases h1 : (a == c)
  · simp
  · simp only [Bool.true_and]
    simp [Sem.run_bind, e3, e4, e6]
    by_cases hbd : b = d <;> simp [hbd]

theorem eq3f {t : TypeId} (und : P.underlying t = some (.struct (P.fieldsOf t))) (hs : P.stoodInHeld t = false) (fl : (P.fieldsOf t).toList.map (fun f => (f.name == "_", f.type, f.offset)) = [(false, 3, 0), (false, 3, 1), (false, 3, 2)])
    (a b c a' b' c' : Int) (w : World) : (Op.equalIn 10000 t (itv a b c) (itv a' b' c')).run P w = .ok (a == a' && b == b' && c == c') w := by
  rw [run_equalIn_struct w 9999 t _ _ und hs]
  generalize (P.fieldsOf t).toList = fs at fl
  obtain ⟨f, g, h, rfl⟩ : ∃ f g h, fs = [f, g, h] := by
    have hl := congrArg List.length fl
    match fs, hl with
    | [f, g, h], _ => exact ⟨f, g, h, rfl⟩
  simp only [List.map_cons, List.map_nil, List.cons.injEq, Prod.mk.injEq, and_true] at fl
  obtain ⟨⟨hn, ht, ho⟩, ⟨hn2, ht2, ho2⟩, hn3, ht3, ho3⟩ := fl
  have hn : f.name ≠ "_" := by simpa using hn
  have hn2 : g.name ≠ "_" := by simpa using hn2
  have hn3 : h.name ≠ "_" := by simpa using hn3
  have e1 : (part f.type #[int a, int b, int c] f.offset).run P w = .ok (int a) w := by rw [ht, ho]; kernel_rfl
  have e2 : (part f.type #[int a', int b', int c'] f.offset).run P w = .ok (int a') w := by rw [ht, ho]; kernel_rfl
  have e3 : (part g.type #[int a, int b, int c] g.offset).run P w = .ok (int b) w := by rw [ht2, ho2]; kernel_rfl
  have e4 : (part g.type #[int a', int b', int c'] g.offset).run P w = .ok (int b') w := by rw [ht2, ho2]; kernel_rfl
  have e7 : (part h.type #[int a, int b, int c] h.offset).run P w = .ok (int c) w := by rw [ht3, ho3]; kernel_rfl
  have e8 : (part h.type #[int a', int b', int c'] h.offset).run P w = .ok (int c') w := by rw [ht3, ho3]; kernel_rfl
  have e5 : (Op.equalIn 9999 f.type (int a) (int a')).run P w = .ok (a == a') w := by rw [ht]; exact run_equalIn_int w _ _ _ _ _ _ undI
  have e6 : (Op.equalIn 9999 g.type (int b) (int b')).run P w = .ok (b == b') w := by rw [ht2]; exact run_equalIn_int w _ _ _ _ _ _ undI
  have e9 : (Op.equalIn 9999 h.type (int c) (int c')).run P w = .ok (c == c') w := by rw [ht3]; exact run_equalIn_int w _ _ _ _ _ _ undI
  simp only [Op.eqFields, if_pos hn, if_pos hn2, if_pos hn3, Sem.run_bind, e1, e2, e5, Result.andThen_ok]
  cases h1 : (a == a')
  · simp
  · simp only [Bool.true_and]
    simp only [Sem.run_bind, e3, e4, e6, Result.andThen_ok, Bool.not_true, Bool.false_eq_true, if_false]
    cases h2 : (b == b')
    · simp
    · simp [Sem.run_bind, e7, e8, e9]
      by_cases hcd : c = c' <;> simp [hcd]

/-- values of a struct that the machine tells apart -/
structure EqT (kt : TypeId) {K : Type} [DecidableEq K] (ek : K → Value) : Prop where
  agg : ∀ k, ∃ cs, ek k = .agg cs
  gd : ∀ (op : BinOp) (x y : Operand) (a b : K) (w : World), (eqGuard op kt x y (ek a) (ek b)).run P w = .ok () w
  eq : ∀ (a b : K) (w : World), (Op.equalIn 10000 kt (ek a) (ek b)).run P w = .ok (decide (a = b)) w

theorem eqtGrid : EqT 26 gd where
  agg k := ⟨_, rfl⟩
  gd op x y a b w := run_eqGuard_agg w op _ x y _ _ (by kernel_rfl)
  eq a b w := by
    refine (eq3f (by kernel_rfl) (by kernel_rfl) (by kernel_rfl) a.1 a.2.1 a.2.2 b.1 b.2.1 b.2.2 w).trans ?_
    congr 1
    rw [Bool.eq_iff_iff]; simp [Prod.ext_iff, and_assoc]
theorem eqtItem : EqT 37 (fun i : It => itv i.1 i.2.1 i.2.2) where
  agg k := ⟨_, rfl⟩
  gd op x y a b w := run_eqGuard_agg w op _ x y _ _ (by kernel_rfl)
  eq a b w := by
    refine (eq3f (by kernel_rfl) (by kernel_rfl) (by kernel_rfl) a.1 a.2.1 a.2.2 b.1 b.2.1 b.2.2 w).trans ?_
    congr 1
    rw [Bool.eq_iff_iff]; simp [Prod.ext_iff, and_assoc]
theorem eqtCut : EqT 69 vc where
  agg k := ⟨_, rfl⟩
  gd op x y a b w := run_eqGuard_agg w op _ x y _ _ (by kernel_rfl)
  eq a b w := by
    refine (eq2f (by kernel_rfl) (by kernel_rfl) (by kernel_rfl) a.1 a.2 b.1 b.2 w).trans ?_
    congr 1
    rw [Bool.eq_iff_iff]; simp [Prod.ext_iff]

section
variable {J : Jd} {ops : Array Oper} {dest : Option (List Nat)} {Q : Post} {i : Nat} {rest : List (Nat × Kind)} {E : Env} {ds : List Deferred} {L : List Res}
variable {d : Option Nat} {ty : TypeId} {pos : String} {aft : Array Edge} {g : Option (Nat × Bool)} {kt : TypeId} {K : Type} [DecidableEq K] {ek : K → Value}
theorem run_eqT {op : BinOp} {x y : Operand} (hT : EqT kt ek) {p q : K} {w : World} {n : Bool} (hx : ev E x = ek p) (hy : ev E y = ek q) (hop : op = .eql ∧ n = decide (p = q) ∨ op = .neq ∧ n = !decide (p = q)) :
    (execOp (ev E) ⟨d, .binOp op kt x y kt, ty, pos, aft, g⟩).run P w = .ok (.value (.bool n)) w := by
  have hg := hT.gd op x y p q w
  have he := hT.eq p q w
  obtain ⟨c1, h1⟩ := hT.agg p
  obtain ⟨c2, h2⟩ := hT.agg q
  unfold execOp
  simp only [hx, hy, Sem.run_bind, hg, Result.andThen_ok]
  rw [h1, h2] at he ⊢
  rcases hop with ⟨rfl, rfl⟩ | ⟨rfl, rfl⟩
  · rw [run_eql_struct, he]; rfl
  · rw [run_neq_struct, he]; rfl

theorem Plan.eqT {x y : Operand} (hT : EqT kt ek) (p q : K) (hP : J.P = P) (ho : ops[i]? = some ⟨d, .binOp .eql kt x y kt, ty, pos, aft, g⟩) (hg : wantE ops ⟨d, .binOp .eql kt x y kt, ty, pos, aft, g⟩ E = true)
    (hx : ev E x = ek p) (hy : ev E y = ek q) (kt' : p = q → Plan J ops dest Q rest (upd E d (.bool true)) ds L) (kf : p ≠ q → Plan J ops dest Q rest (upd E d (.bool false)) ds L) : Plan J ops dest Q ((i, .st) :: rest) E ds L :=
  Plan.st ho hg (St.of_exec (by intro c h; cases h) fun w _ => by rw [hP]; exact run_eqT hT hx hy (.inl ⟨rfl, rfl⟩)) (by
    by_cases h : p = q
    · rw [decide_eq_true h]; exact kt' h
    · rw [decide_eq_false h]; exact kf h)

theorem Plan.neT {x y : Operand} (hT : EqT kt ek) (p q : K) (hP : J.P = P) (ho : ops[i]? = some ⟨d, .binOp .neq kt x y kt, ty, pos, aft, g⟩) (hg : wantE ops ⟨d, .binOp .neq kt x y kt, ty, pos, aft, g⟩ E = true)
    (hx : ev E x = ek p) (hy : ev E y = ek q) (kt' : p ≠ q → Plan J ops dest Q rest (upd E d (.bool true)) ds L) (kf : p = q → Plan J ops dest Q rest (upd E d (.bool false)) ds L) : Plan J ops dest Q ((i, .st) :: rest) E ds L :=
  Plan.st ho hg (St.of_exec (by intro c h; cases h) fun w _ => by rw [hP]; exact run_eqT hT hx hy (.inr ⟨rfl, rfl⟩)) (by
    by_cases h : p = q
    · rw [decide_eq_true h]; exact kf h
    · rw [decide_eq_false h]; exact kt' h)
end

end Go.Proofs.Ytjmklbkcpjmcaaa.V
