/-
  The frame of these proofs, third part: the operations one by one.
-/
import Derived.Test.YtjmklbkcpjmcaaaH1
import Derived.Laws.AppendOwn
import Derived.Laws.Slices
namespace Go.Proofs.Ytjmklbkcpjmcaaa.H
open Go Go.RowKit
set_option linter.unusedVariables false
set_option linter.unusedSimpArgs false

section
variable {J : Jd} {ops : Array Oper} {dest : Option (List Nat)} {Q : Post} {i : Nat} {rest : List (Nat × Kind)} {E : Env} {ds : List Deferred} {L : List Res}
variable {d : Option Nat} {ty : TypeId} {pos : String} {aft : Array Edge} {g : Option (Nat × Bool)}

theorem St.of_exec {o : Oper} {v : Value} (hd : ∀ c, o.op ≠ .defer c) (h : ∀ w, Mem J.w0 J.X L w → (execOp (ev E) o).run J.P w = .ok (.value v) w) : St J o E L v := fun w hm => by
  rw [Oper.semAt_eq _ _ _ hd]; exact h w hm

theorem Plan.st {o : Oper} {v : Value} (ho : ops[i]? = some o) (hg : wantE ops o E = true) (hs : St J o E L v) (k : Plan J ops dest Q rest (upd E o.dst v) ds L) :
    Plan J ops dest Q ((i, .st) :: rest) E ds L := ⟨o, ho, .inl ⟨hg, v, hs, k⟩⟩

/-- an operation whose guard says no -/
theorem Plan.no {o : Oper} (ho : ops[i]? = some o) (hg : wantE ops o E = false) (k : Plan J ops dest Q rest (upd E o.dst undef) ds L) :
    Plan J ops dest Q ((i, .st) :: rest) E ds L := ⟨o, ho, .inr ⟨hg, k⟩⟩
/-- an operation that reads only what nobody turns: the same step, with nothing known -/
theorem Plan.so {E1 : Env} (h : Plan J ops dest (fun _ E' _ _ => E' = E1) [(i, .st)] E ds []) (k : Plan J ops dest Q rest E1 ds L) : Plan J ops dest Q ((i, .so) :: rest) E ds L := by
  obtain ⟨o, ho, h⟩ := h
  refine ⟨o, ho, ?_⟩
  rcases h with ⟨hw, v, hst, hp⟩ | ⟨hw, hp⟩
  · have hp : upd E o.dst v = E1 := hp
    exact .inl ⟨hw, v, hst, by rw [hp]; exact k⟩
  · have hp : upd E o.dst undef = E1 := hp
    exact .inr ⟨hw, by rw [hp]; exact k⟩
theorem Plan.noE {o : Oper} (ho : ops[i]? = some o) (hg : wantE ops o E = false) (k : Plan J ops dest Q rest (upd E o.dst undef) ds L) :
    Plan J ops dest Q ((i, .ef) :: rest) E ds L := ⟨o, ho, .inr ⟨hg, k⟩⟩

theorem Plan.done (h : Q .normal E ds L) : Plan J ops dest Q [] E ds L := h

/-! moves -/
theorem Plan.move {x : Operand} {v : Value} (ho : ops[i]? = some ⟨d, .move x, ty, pos, aft, g⟩) (hg : wantE ops ⟨d, .move x, ty, pos, aft, g⟩ E = true) (hx : ev E x = v)
    (k : Plan J ops dest Q rest (upd E d v) ds L) : Plan J ops dest Q ((i, .st) :: rest) E ds L :=
  Plan.st ho hg (St.of_exec (by intro c h; cases h) fun w _ => by subst hx; rfl) k
theorem Plan.assign {x : Operand} {v : Value} (ho : ops[i]? = some ⟨d, .assign x, ty, pos, aft, g⟩) (hg : wantE ops ⟨d, .assign x, ty, pos, aft, g⟩ E = true) (hx : ev E x = v)
    (k : Plan J ops dest Q rest (upd E d v) ds L) : Plan J ops dest Q ((i, .st) :: rest) E ds L :=
  Plan.st ho hg (St.of_exec (by intro c h; cases h) fun w _ => by subst hx; rfl) k

theorem run_lift_value {s : Sem Value} {P : Program} {w : World} {v : Value} (h : s.run P w = .ok v w) : (do pure (.value (← s)) : Sem Next).run P w = .ok (.value v) w := by
  rw [Sem.run_bind, h]; rfl

theorem Plan.pick {c a b : Operand} {t : Bool} {v : Value} (ho : ops[i]? = some ⟨d, .pick c a b, ty, pos, aft, g⟩) (hg : wantE ops ⟨d, .pick c a b, ty, pos, aft, g⟩ E = true)
    (hc : ev E c = .bool t) (hx : (bif t then ev E a else ev E b) = v) (k : Plan J ops dest Q rest (upd E d v) ds L) : Plan J ops dest Q ((i, .st) :: rest) E ds L :=
  Plan.st ho hg (St.of_exec (by intro c h; cases h) fun w _ => by
    unfold execOp; simp only [hc, asBool, Sem.run_bind, Sem.run_pure, Result.andThen]
    subst hx; cases t <;> rfl) k

/-! numbers -/
def arith (op : BinOp) (a b : Int) : Option Int :=
  match op with
  | .add => some (a + b)
  | .sub => some (a - b)
  | .mul => some (a * b)
  | _ => none

theorem run_arith {op : BinOp} {a b n : Int} {P : Program} {w : World} {kd : IntKind} {xt : TypeId} {x y : Operand} {E : Env} (hx : ev E x = .int kd a) (hy : ev E y = .int kd b) (hn : arith op a b = some n)
    {d : Option Nat} {yt ty : TypeId} {pos : String} {aft : Array Edge} {g : Option (Nat × Bool)} :
    (execOp (ev E) ⟨d, .binOp op xt x y yt, ty, pos, aft, g⟩).run P w = .ok (.value (.int kd (kd.wrap n))) w := by
  unfold execOp
  simp only [hx, hy]
  cases op <;> simp only [arith] at hn <;> first | (cases hn; done) | skip
  all_goals (obtain rfl := Option.some.inj hn; simp [eqGuard, binOp, Op.intArith, Result.andThen])

theorem wrap_i64 {n : Int} (h1 : -9223372036854775808 ≤ n) (h2 : n ≤ 9223372036854775807) : IntKind.i64.wrap n = n := by
  simp [IntKind.wrap, IntKind.bits, IntKind.signed]; omega

/-- an int sum, difference or product that stays within its kind -/
theorem Plan.arithI {op : BinOp} {xt yt : TypeId} {x y : Operand} {a b n : Int} (ho : ops[i]? = some ⟨d, .binOp op xt x y yt, ty, pos, aft, g⟩)
    (hg : wantE ops ⟨d, .binOp op xt x y yt, ty, pos, aft, g⟩ E = true) (hx : ev E x = .int .i64 a) (hy : ev E y = .int .i64 b) (hn : arith op a b = some n)
    (h1 : -9223372036854775808 ≤ n ∧ n ≤ 9223372036854775807) (k : Plan J ops dest Q rest (upd E d (.int .i64 n)) ds L) : Plan J ops dest Q ((i, .st) :: rest) E ds L :=
  Plan.st ho hg (St.of_exec (by intro c h; cases h) fun w _ => by rw [run_arith hx hy hn, wrap_i64 h1.1 h1.2]) k

/-- an int sum, difference or product, whatever it is -/
theorem Plan.arithW {op : BinOp} {xt yt : TypeId} {x y : Operand} {a b n : Int} {kd : IntKind} (ho : ops[i]? = some ⟨d, .binOp op xt x y yt, ty, pos, aft, g⟩)
    (hg : wantE ops ⟨d, .binOp op xt x y yt, ty, pos, aft, g⟩ E = true) (hx : ev E x = .int kd a) (hy : ev E y = .int kd b) (hn : arith op a b = some n)
    (k : Plan J ops dest Q rest (upd E d (.int kd (kd.wrap n))) ds L) : Plan J ops dest Q ((i, .st) :: rest) E ds L :=
  Plan.st ho hg (St.of_exec (by intro c h; cases h) fun w _ => run_arith hx hy hn) k

theorem Plan.rem {xt yt : TypeId} {x y : Operand} {a b : Int} (ho : ops[i]? = some ⟨d, .binOp .rem xt x y yt, ty, pos, aft, g⟩)
    (hg : wantE ops ⟨d, .binOp .rem xt x y yt, ty, pos, aft, g⟩ E = true) (hx : ev E x = .int .i64 a) (hy : ev E y = .int .i64 b) (h : 0 ≤ a ∧ 0 < b)
    (k : Plan J ops dest Q rest (upd E d (.int .i64 (a % b))) ds L) : Plan J ops dest Q ((i, .st) :: rest) E ds L :=
  Plan.st ho hg (St.of_exec (by intro c h; cases h) fun w _ => by
    unfold execOp
    have hb : b ≠ 0 := by omega
    have ht : a.tmod b = a % b := Int.tmod_eq_emod_of_nonneg h.1
    simp [hx, hy, eqGuard, binOp, Op.intDiv, hb, Result.andThen, ht]) k

theorem Plan.quo {xt yt : TypeId} {x y : Operand} {a b : Int} (ho : ops[i]? = some ⟨d, .binOp .quo xt x y yt, ty, pos, aft, g⟩)
    (hg : wantE ops ⟨d, .binOp .quo xt x y yt, ty, pos, aft, g⟩ E = true) (hx : ev E x = .int .i64 a) (hy : ev E y = .int .i64 b) (h : 0 ≤ a ∧ a ≤ 9223372036854775807 ∧ 0 < b)
    (k : Plan J ops dest Q rest (upd E d (.int .i64 (a / b))) ds L) : Plan J ops dest Q ((i, .st) :: rest) E ds L :=
  Plan.st ho hg (St.of_exec (by intro c h; cases h) fun w _ => by
    unfold execOp
    have hb : b ≠ 0 := by omega
    have ht : a.tdiv b = a / b := Int.tdiv_eq_ediv_of_nonneg h.1
    have h1 : 0 ≤ a / b := Int.ediv_nonneg h.1 (by omega)
    have h2 : a / b ≤ a := Int.ediv_le_self b h.1
    have hw := wrap_i64 (n := a / b) (by omega) (by omega)
    simp [hx, hy, eqGuard, binOp, Op.intDiv, hb, Result.andThen, ht, hw]) k

def cmpI (op : BinOp) (a b : Int) : Option Bool :=
  match op with
  | .eql => some (decide (a = b))
  | .neq => some (!decide (a = b))
  | .lss => some (decide (a < b))
  | .leq => some (decide (a ≤ b))
  | .gtr => some (decide (a > b))
  | .geq => some (decide (a ≥ b))
  | _ => none

theorem run_cmpI {op : BinOp} {a b : Int} {n : Bool} {P : Program} {w : World} {kd : IntKind} {xt : TypeId} {x y : Operand} {E : Env} (hx : ev E x = .int kd a) (hy : ev E y = .int kd b) (hn : cmpI op a b = some n)
    {d : Option Nat} {yt ty : TypeId} {pos : String} {aft : Array Edge} {g : Option (Nat × Bool)} :
    (execOp (ev E) ⟨d, .binOp op xt x y yt, ty, pos, aft, g⟩).run P w = .ok (.value (.bool n)) w := by
  unfold execOp
  simp only [hx, hy]
  cases op <;> simp only [cmpI] at hn <;> first | (cases hn; done) | skip
  all_goals (obtain rfl := Option.some.inj hn; simp [eqGuard, binOp, Op.intCmp, Result.andThen, BEq.beq, bne])

/-- a comparison of ints, its answer as it stands -/
theorem Plan.cmp {op : BinOp} {xt yt : TypeId} {x y : Operand} {a b : Int} {n : Bool} {kd : IntKind} (ho : ops[i]? = some ⟨d, .binOp op xt x y yt, ty, pos, aft, g⟩)
    (hg : wantE ops ⟨d, .binOp op xt x y yt, ty, pos, aft, g⟩ E = true) (hx : ev E x = .int kd a) (hy : ev E y = .int kd b) (hn : cmpI op a b = some n)
    (k : Plan J ops dest Q rest (upd E d (.bool n)) ds L) : Plan J ops dest Q ((i, .st) :: rest) E ds L :=
  Plan.st ho hg (St.of_exec (by intro c h; cases h) fun w _ => run_cmpI hx hy hn) k

/-- a comparison of ints, both answers -/
theorem Plan.cmp2 {op : BinOp} {xt yt : TypeId} {x y : Operand} {a b : Int} {n : Bool} {kd : IntKind} (ho : ops[i]? = some ⟨d, .binOp op xt x y yt, ty, pos, aft, g⟩)
    (hg : wantE ops ⟨d, .binOp op xt x y yt, ty, pos, aft, g⟩ E = true) (hx : ev E x = .int kd a) (hy : ev E y = .int kd b) (hn : cmpI op a b = some n)
    (kt : n = true → Plan J ops dest Q rest (upd E d (.bool true)) ds L) (kf : n = false → Plan J ops dest Q rest (upd E d (.bool false)) ds L) : Plan J ops dest Q ((i, .st) :: rest) E ds L := by
  refine Plan.cmp ho hg hx hy hn ?_
  cases n with
  | true => exact kt rfl
  | false => exact kf rfl

theorem Plan.not {xt : TypeId} {x : Operand} {b : Bool} (ho : ops[i]? = some ⟨d, .unOp .not xt x, ty, pos, aft, g⟩) (hg : wantE ops ⟨d, .unOp .not xt x, ty, pos, aft, g⟩ E = true)
    (hx : ev E x = .bool b) (k : Plan J ops dest Q rest (upd E d (.bool (!b))) ds L) : Plan J ops dest Q ((i, .st) :: rest) E ds L :=
  Plan.st ho hg (St.of_exec (by intro c h; cases h) fun w _ => by unfold execOp; simp [hx, Op.unary, Result.andThen]) k

theorem Plan.neg {xt : TypeId} {x : Operand} {a : Int} (ho : ops[i]? = some ⟨d, .unOp .neg xt x, ty, pos, aft, g⟩) (hg : wantE ops ⟨d, .unOp .neg xt x, ty, pos, aft, g⟩ E = true)
    (hx : ev E x = .int .i64 a) (h : -9223372036854775807 ≤ a ∧ a ≤ 9223372036854775807) (k : Plan J ops dest Q rest (upd E d (.int .i64 (-a))) ds L) : Plan J ops dest Q ((i, .st) :: rest) E ds L :=
  Plan.st ho hg (St.of_exec (by intro c h; cases h) fun w _ => by
    unfold execOp
    have := wrap_i64 (n := -a) (by omega) (by omega)
    simp [hx, Op.unary, Op.intArith, Result.andThen, this]) k

theorem Plan.extract {x : Operand} {n : Nat} {vs : Array Value} {v : Value} (ho : ops[i]? = some ⟨d, .extract x n, ty, pos, aft, g⟩) (hg : wantE ops ⟨d, .extract x n, ty, pos, aft, g⟩ E = true)
    (hx : ev E x = .tuple vs) (hv : vs[n]? = some v) (k : Plan J ops dest Q rest (upd E d v) ds L) : Plan J ops dest Q ((i, .st) :: rest) E ds L :=
  Plan.st ho hg (St.of_exec (by intro c h; cases h) fun w _ => by unfold execOp; simp [hx, Instr.extract, hv, Result.andThen]) k

theorem map_list {α β : Type} (f : α → β) (xs : Array α) : xs.map f = (xs.toList.map f).toArray := by
  cases xs; simp

theorem Plan.makeFunc {fn : Fn} {first captured : Array Operand} {f c : List Value} (ho : ops[i]? = some ⟨d, .makeFunc fn first captured, ty, pos, aft, g⟩)
    (hg : wantE ops ⟨d, .makeFunc fn first captured, ty, pos, aft, g⟩ E = true) (hf : first.toList.map (ev E) = f) (hc : captured.toList.map (ev E) = c)
    (k : Plan J ops dest Q rest (upd E d (.func fn f.toArray c.toArray)) ds L) : Plan J ops dest Q ((i, .st) :: rest) E ds L :=
  Plan.st ho hg (St.of_exec (by intro c h; cases h) fun w _ => by subst hf hc; rw [← map_list, ← map_list]; rfl) k

/-! slices -/
theorem Plan.len {st e : TypeId} {x : Operand} {A : Option Addr} {n c : Nat} (ho : ops[i]? = some ⟨d, .call ⟨.builtin .len, #[x], #[st]⟩, ty, pos, aft, g⟩)
    (hg : wantE ops ⟨d, .call ⟨.builtin .len, #[x], #[st]⟩, ty, pos, aft, g⟩ E = true) (hs : J.P.underlying st = some (.slice e)) (hx : ev E x = .slice A n c)
    (k : Plan J ops dest Q rest (upd E d (.int .i64 n)) ds L) : Plan J ops dest Q ((i, .st) :: rest) E ds L :=
  Plan.st ho hg (St.of_exec (by intro c h; cases h) fun w _ => by
    unfold execOp
    simp [resolve, hx, invoke, builtin, Builtin.len_, run_underlying hs, goInt, Result.andThen]) k

theorem Plan.indexAddr {st e : TypeId} {x y : Operand} {ad : Addr} {n c : Nat} {kd : IntKind} {j : Int} {sz : Nat} (ho : ops[i]? = some ⟨d, .indexAddr st x y, ty, pos, aft, g⟩)
    (hg : wantE ops ⟨d, .indexAddr st x y, ty, pos, aft, g⟩ E = true) (hs : J.P.underlying st = some (.slice e)) (hsz : ∀ w, (sizeOf e).run J.P w = .ok sz w)
    (hx : ev E x = .slice (some ad) n c) (hy : ev E y = .int kd j) (hj : 0 ≤ j ∧ j < n)
    (k : Plan J ops dest Q rest (upd E d (.pointer (some (ad.add (j.toNat * sz))))) ds L) : Plan J ops dest Q ((i, .st) :: rest) E ds L :=
  Plan.st ho hg (St.of_exec (by intro c h; cases h) fun w _ => by
    unfold execOp
    simp [hx, hy, Instr.indexAt, asIntOf, run_underlying hs, hj.1, hj.2, hsz, Result.andThen]) k

theorem Plan.fieldAddr {st : TypeId} {x : Operand} {f off : Nat} {ad : Addr} (ho : ops[i]? = some ⟨d, .fieldAddr st x f, ty, pos, aft, g⟩)
    (hg : wantE ops ⟨d, .fieldAddr st x f, ty, pos, aft, g⟩ E = true) (hpl : ∀ w a, (Instr.fieldAt st (.pointer (some a)) f).run J.P w = .ok (.pointer (some (a.add off))) w)
    (hx : ev E x = .pointer (some ad)) (k : Plan J ops dest Q rest (upd E d (.pointer (some (ad.add off)))) ds L) : Plan J ops dest Q ((i, .st) :: rest) E ds L :=
  Plan.st ho hg (St.of_exec (by intro c h; cases h) fun w _ => by
    unfold execOp
    simp only [hx]
    exact run_lift_value (hpl w ad)) k

end
end Go.Proofs.Ytjmklbkcpjmcaaa.H
