/-
  The frame of these proofs, fourth part: memory, calls, functions.
-/
import Derived.Test.YtjmklbkcpjmcaaaH2
import Derived.Laws.Cells
import Derived.Laws.CopyRow
import Derived.Maps.AppendAt
namespace Go.Proofs.Ytjmklbkcpjmcaaa.H
open Go Go.RowKit
set_option linter.unusedVariables false
set_option linter.unusedSimpArgs false

/-- the cells vs lie at a -/
def Sees (J : Jd) (L : List Res) (a : Addr) (vs : List Value) : Prop := ∀ w, Mem J.w0 J.X L w → ∀ j u, vs[j]? = some u → w.cell? (a.add j) = some u

/-- the cells vs lie at a in one world -/
def Lies (w : World) (a : Addr) (vs : List Value) : Prop := ∀ j u, vs[j]? = some u → w.cell? (a.add j) = some u

theorem mem_of_get {L : List Res} {j : Nat} {r : Res} (h : L[j]? = some r) : r ∈ L := List.mem_of_getElem? h

theorem Mem.cells {w0 w : World} {X : List Nat} {L : List Res} {j b : Nat} {cs : Array Value} {t : TypeId} (hm : Mem w0 X L w) (hj : L[j]? = some (Res.blk b cs t)) : w.heap[b]? = some (.cells cs t (0, 0)) :=
  hm.res _ (mem_of_get hj)

theorem cell_of_heap {w : World} {b : Nat} {cs : Array Value} {t : TypeId} {fr : Nat × Nat} (h : w.heap[b]? = some (.cells cs t fr)) (o : Nat) : w.cell? ⟨b, o, none⟩ = cs[o]? := by
  simp [World.cell?, h]

theorem Sees.blk {J : Jd} {L : List Res} {b o : Nat} {cs : Array Value} {t : TypeId} {vs : List Value} (j : Nat) (hj : L[j]? = some (Res.blk b cs t)) (hv : ∀ j u, vs[j]? = some u → cs[o + j]? = some u) :
    Sees J L ⟨b, o, none⟩ vs := fun w hm j' u hu => by
  rw [Addr.add_lit, cell_of_heap (hm.cells hj)]; exact hv j' u hu

theorem Sees.all {J : Jd} {L : List Res} {b : Nat} {cs : Array Value} {t : TypeId} (j : Nat) (hj : L[j]? = some (Res.blk b cs t)) : Sees J L ⟨b, 0, none⟩ cs.toList :=
  Sees.blk j hj fun j u h => by rw [Nat.zero_add]; simpa using h

theorem Sees.old {J : Jd} {L : List Res} {a : Addr} {vs : List Value} (h : Lies J.w0 a vs) (hX : a.block ∉ J.X) : Sees J L a vs := fun w hm j u hu => by
  have h1 := h j u hu
  have hb : (a.add j).block = a.block := by unfold Addr.add; split <;> rfl
  have hlt : (a.add j).block < J.w0.heap.size := World.block_lt_of_cell? _ _ h1
  rw [← h1]
  exact World.cell?_of_block (hm.old _ hlt (by rw [hb]; exact hX))

theorem Sees.one {J : Jd} {L : List Res} {b o : Nat} {cs : Array Value} {t : TypeId} {v : Value} (j : Nat) (hj : L[j]? = some (Res.blk b cs t)) (hv : cs[o]? = some v) : Sees J L ⟨b, o, none⟩ [v] :=
  Sees.blk j hj fun j u h => by
    cases j with
    | zero => rw [← h]; exact hv
    | succ j => cases h

section
variable {J : Jd} {ops : Array Oper} {dest : Option (List Nat)} {Q : Post} {i : Nat} {rest : List (Nat × Kind)} {E : Env} {ds : List Deferred} {L : List Res}
variable {d : Option Nat} {ty : TypeId} {pos : String} {aft : Array Edge} {g : Option (Nat × Bool)}

/-! loads -/
theorem run_loadVar_one {P : Program} {w : World} {t : TypeId} {a : Addr} {v : Value} (ha : (isAgg t).run P w = .ok false w) (hc : w.cell? a = some v) : (loadVar t a).run P w = .ok v w := by
  unfold loadVar
  rw [Sem.run_bind, ha]
  simp [hc]
theorem run_loadVar_agg {P : Program} {w : World} {t : TypeId} {a : Addr} {vs : List Value} (ha : (isAgg t).run P w = .ok true w) (hs : (sizeOf t).run P w = .ok vs.length w)
    (hc : Lies w a vs) : (loadVar t a).run P w = .ok (.agg vs.toArray) w := by
  unfold loadVar
  rw [Sem.run_bind, ha]
  simp only [Result.andThen_ok, if_true, Sem.run_bind, hs, run_loadCells_list w a vs hc]
  rfl

theorem addr_add_zero (a : Addr) : a.add 0 = a := rfl

theorem Plan.load {t : TypeId} {x : Operand} {a : Addr} {v : Value} (ho : ops[i]? = some ⟨d, .load t x, ty, pos, aft, g⟩) (hg : wantE ops ⟨d, .load t x, ty, pos, aft, g⟩ E = true)
    (ha : ∀ w, (isAgg t).run J.P w = .ok false w) (hx : ev E x = .pointer (some a)) (hs : Sees J L a [v]) (k : Plan J ops dest Q rest (upd E d v) ds L) : Plan J ops dest Q ((i, .st) :: rest) E ds L :=
  Plan.st ho hg (St.of_exec (by intro c h; cases h) fun w hm => by
    unfold execOp
    have := hs w hm 0 v rfl
    rw [addr_add_zero] at this
    simp only [hx, Instr.loadAt, Instr.sureAddr]
    exact run_lift_value (run_loadVar_one (ha w) this)) k

theorem Plan.loadAgg {t : TypeId} {x : Operand} {a : Addr} {vs : List Value} {n : Nat} (ho : ops[i]? = some ⟨d, .load t x, ty, pos, aft, g⟩) (hg : wantE ops ⟨d, .load t x, ty, pos, aft, g⟩ E = true)
    (ha : ∀ w, (isAgg t).run J.P w = .ok true w) (hz : ∀ w, (sizeOf t).run J.P w = .ok n w) (hx : ev E x = .pointer (some a)) (hs : Sees J L a vs) (hn : vs.length = n)
    (k : Plan J ops dest Q rest (upd E d (.agg vs.toArray)) ds L) : Plan J ops dest Q ((i, .st) :: rest) E ds L :=
  Plan.st ho hg (St.of_exec (by intro c h; cases h) fun w hm => by
    unfold execOp
    subst hn
    simp only [hx, Instr.loadAt, Instr.sureAddr]
    exact run_lift_value (run_loadVar_agg (ha w) (hz w) (hs w hm))) k

/-- a whole variable of an aggregate type -/
theorem Plan.loadAll {t t' : TypeId} {x : Operand} {b : Nat} {cs : Array Value} (j : Nat) (ho : ops[i]? = some ⟨d, .load t x, ty, pos, aft, g⟩) (hg : wantE ops ⟨d, .load t x, ty, pos, aft, g⟩ E = true)
    (ha : ∀ w, (isAgg t).run J.P w = .ok true w) {n : Nat} (hz : ∀ w, (sizeOf t).run J.P w = .ok n w) (hx : ev E x = .pointer (some ⟨b, 0, none⟩)) (hj : L[j]? = some (Res.blk b cs t')) (hn : cs.size = n)
    (k : Plan J ops dest Q rest (upd E d (.agg cs)) ds L) : Plan J ops dest Q ((i, .st) :: rest) E ds L :=
  Plan.loadAgg ho hg ha hz hx (Sees.all j hj) (by simpa using hn) (by simpa using k)

/-! what acts -/
theorem Plan.ef {o : Oper} (ho : ops[i]? = some o) (hg : wantE ops o E = true) (hd : ∀ c, o.op ≠ .defer c)
    (h : ∀ Rf w, Mem J.w0 J.X (L ++ Rf) w → EffR J Rf (fun v L' => (∀ D, dest = some D → i ∉ D → ∀ Rf, Sub J (L ++ Rf) (L' ++ Rf)) ∧ Plan J ops dest Q rest (upd E o.dst v) ds L') ((execOp (ev E) o).run J.P w)) :
    Plan J ops dest Q ((i, .ef) :: rest) E ds L := ⟨o, ho, .inl ⟨hg, fun Rf w hm => by rw [Oper.semAt_eq _ _ _ hd]; exact h Rf w hm⟩⟩

/-- a new variable -/
theorem Plan.alloc {t : TypeId} {z : Value} (ho : ops[i]? = some ⟨d, .alloc t, ty, pos, aft, none⟩) (hz : ∀ w, (zeroValue t).run J.P w = .ok z w)
    (k : ∀ b, Plan J ops dest Q rest (upd E d (.pointer (some ⟨b, 0, none⟩))) ds (Res.blk b z.cells t :: L)) : Plan J ops dest Q ((i, .al) :: rest) E ds L :=
  ⟨_, t, z, ho, rfl, rfl, hz, fun b => ⟨_, .refl _, k b⟩⟩

theorem Plan.box {t : TypeId} {x : Operand} {v : Value} {cs : Array Value} (ho : ops[i]? = some ⟨d, .box t x, ty, pos, aft, g⟩) (hg : wantE ops ⟨d, .box t x, ty, pos, aft, g⟩ E = true) (hx : ev E x = v) (hv : v.cells = cs)
    (k : ∀ b, Plan J ops dest Q rest (upd E d (.pointer (some ⟨b, 0, none⟩))) ds (Res.blk b cs t :: L)) : Plan J ops dest Q ((i, .ef) :: rest) E ds L :=
  Plan.ef ho hg (by intro c h; cases h) fun Rf w hm => by
    have hr : (execOp (ev E) ⟨d, .box t x, ty, pos, aft, g⟩).run J.P w = .ok (.value (.pointer (some ⟨w.heap.size, 0, none⟩))) (w.alloc (.cells cs t (0, 0))) := by
      unfold execOp; subst hx hv; rfl
    rw [hr]
    exact ⟨Res.blk w.heap.size cs t :: L, hm.alloc cs t, fun D _ _ Rf w' hm' => hm'.sub (List.sublist_cons_self _ _), k _⟩

theorem Plan.boxA {t : TypeId} {x : Operand} {cs : Array Value} (ho : ops[i]? = some ⟨d, .box t x, ty, pos, aft, g⟩) (hg : wantE ops ⟨d, .box t x, ty, pos, aft, g⟩ E = true) (hx : ev E x = .agg cs)
    (k : ∀ b, Plan J ops dest Q rest (upd E d (.pointer (some ⟨b, 0, none⟩))) ds (Res.blk b cs t :: L)) : Plan J ops dest Q ((i, .ef) :: rest) E ds L := Plan.box ho hg hx rfl k
theorem Plan.boxS {t : TypeId} {x : Operand} {A : Option Addr} {n c : Nat} (ho : ops[i]? = some ⟨d, .box t x, ty, pos, aft, g⟩) (hg : wantE ops ⟨d, .box t x, ty, pos, aft, g⟩ E = true) (hx : ev E x = .slice A n c)
    (k : ∀ b, Plan J ops dest Q rest (upd E d (.pointer (some ⟨b, 0, none⟩))) ds (Res.blk b #[.slice A n c] t :: L)) : Plan J ops dest Q ((i, .ef) :: rest) E ds L := Plan.box ho hg hx rfl k

/-! a stretch of cells of a block of one's own is written -/
theorem Mem.set {w0 w : World} {X : List Nat} {L Rf : List Res} {j b : Nat} {cs : Array Value} {t : TypeId} (hm : Mem w0 X (L ++ Rf) w) (hj : L[j]? = some (Res.blk b cs t)) (cs' : Array Value) :
    Mem w0 X (L.set j (Res.blk b cs' t) ++ Rf) (w.setRow b cs') := by
  have hlt : j < L.length := (List.getElem?_eq_some_iff.1 hj).1
  have hget : L[j] = Res.blk b cs t := (List.getElem?_eq_some_iff.1 hj).2
  have hL : L = L.take j ++ Res.blk b cs t :: L.drop (j + 1) := by rw [← hget]; simp
  have hS : L.set j (Res.blk b cs' t) = L.take j ++ Res.blk b cs' t :: L.drop (j + 1) := by rw [List.set_eq_take_append_cons_drop, if_pos hlt]
  have hp1 : (L ++ Rf).Perm (Res.blk b cs t :: (L.take j ++ L.drop (j + 1) ++ Rf)) := by
    rw (occs := .pos [1]) [hL]
    exact List.perm_middle.append_right Rf
  have hp2 : (Res.blk b cs' t :: (L.take j ++ L.drop (j + 1) ++ Rf)).Perm (L.set j (Res.blk b cs' t) ++ Rf) := by
    rw [hS]
    exact (List.perm_middle.append_right Rf).symm
  refine Mem.perm ?_ hp2
  have hm := hm.perm hp1
  generalize L.take j ++ L.drop (j + 1) ++ Rf = M at hm
  have hh : w.heap[b]? = some (.cells cs t (0, 0)) := hm.res _ List.mem_cons_self
  have hb := hm.foot _ List.mem_cons_self b (List.mem_singleton.2 rfl)
  have hsep := List.pairwise_cons.1 hm.sep
  have hsz : (w.setRow b cs').heap.size = w.heap.size := by simp [World.setRow]
  have hoth : ∀ k, k ≠ b → (w.setRow b cs').heap[k]? = w.heap[k]? := fun k hk => setRow_other w b k cs' hk
  refine ⟨hm.os, hm.tape, hm.dr, hm.output, by rw [hsz]; exact hm.size, fun k hk hX => ?_, ?_, ?_, ?_⟩
  · rw [hoth k (fun e => by subst e; rcases hb.2 with h | h; · omega
                            · exact hX h)]
    exact hm.old k hk hX
  · intro r hr
    rcases List.mem_cons.1 hr with rfl | hr1
    · exact setRow_heap w b cs cs' t (0, 0) hh
    · exact r.loc w _ (fun k hk => hoth k (fun e => hsep.1 r hr1 b (List.mem_singleton.2 rfl) (e ▸ hk))) (hm.res r (List.mem_cons_of_mem _ hr1))
  · intro r hr k hk
    rw [hsz]
    rcases List.mem_cons.1 hr with rfl | hr
    · obtain rfl := List.mem_singleton.1 hk; exact hb
    · exact hm.foot r (List.mem_cons_of_mem _ hr) k hk
  · exact List.pairwise_cons.2 ⟨fun s hs k hk => hsep.1 s hs k hk, hsep.2⟩

theorem run_storeVar_at {P : Program} {w : World} {t t' : TypeId} {b o : Nat} {cs : Array Value} {v : Value} {n : Nat} (hs : (sizeOf t).run P w = .ok n w) (hn : v.cells.size = n) (hb : w.heap[b]? = some (.cells cs t' (0, 0)))
    (hfit : o + n ≤ cs.size) (h1 : ∀ u ∈ v.cells.toList, u.oneCell' = true) :
    (storeVar t ⟨b, o, none⟩ v).run P w = .ok () (w.setRow b (cs.toList.take o ++ v.cells.toList ++ cs.toList.drop (o + n)).toArray) := by
  unfold storeVar
  have := run_storeCells_at P b o t' v.cells.toList 0 cs w hb (by simpa [hn] using hfit) h1
  simp only [Nat.add_zero, Array.length_toList, hn] at this
  simp [Sem.run_bind, hs, hn, this]

/-- a store into a block of one's own -/
theorem Plan.store {t t' : TypeId} {x y : Operand} {b o : Nat} {cs cs' : Array Value} {v : Value} {n : Nat} (j : Nat) (ho : ops[i]? = some ⟨d, .store t x y, ty, pos, aft, g⟩)
    (hg : wantE ops ⟨d, .store t x y, ty, pos, aft, g⟩ E = true) (hD : ∀ D, dest = some D → i ∈ D) (hz : ∀ w, (sizeOf t).run J.P w = .ok n w) (hx : ev E x = .pointer (some ⟨b, o, none⟩)) (hy : ev E y = v)
    (hj : L[j]? = some (Res.blk b cs t')) (hn : v.cells.size = n) (hfit : o + n ≤ cs.size) (h1 : ∀ u ∈ v.cells.toList, u.oneCell' = true)
    (hcs : (cs.toList.take o ++ v.cells.toList ++ cs.toList.drop (o + n)).toArray = cs')
    (k : Plan J ops dest Q rest (upd E d undef) ds (L.set j (Res.blk b cs' t'))) : Plan J ops dest Q ((i, .ef) :: rest) E ds L :=
  Plan.ef ho hg (by intro c h; cases h) fun Rf w hm => by
    have hb : w.heap[b]? = some (.cells cs t' (0, 0)) := hm.res _ (List.mem_append_left _ (mem_of_get hj))
    have hr : (execOp (ev E) ⟨d, .store t x y, ty, pos, aft, g⟩).run J.P w = .ok .skip (w.setRow b cs') := by
      unfold execOp
      subst hcs
      simp only [hx, hy, Instr.storeAt, Instr.sureAddr]
      have := run_storeVar_at (hz w) hn hb hfit h1
      simp [Sem.run_bind, this]
    rw [hr]
    exact ⟨_, hm.set hj cs', fun D hD' hi => absurd (hD D hD') hi, k⟩

/-- a whole variable is written -/
theorem Plan.storeAll {t t' : TypeId} {x y : Operand} {b : Nat} {cs cs' : Array Value} {v : Value} {n : Nat} (j : Nat) (ho : ops[i]? = some ⟨d, .store t x y, ty, pos, aft, g⟩)
    (hg : wantE ops ⟨d, .store t x y, ty, pos, aft, g⟩ E = true) (hD : ∀ D, dest = some D → i ∈ D) (hz : ∀ w, (sizeOf t).run J.P w = .ok n w) (hx : ev E x = .pointer (some ⟨b, 0, none⟩)) (hy : ev E y = v)
    (hj : L[j]? = some (Res.blk b cs t')) (hv : v.cells = cs') (hn : cs'.size = n) (hc : cs.size = n) (h1 : ∀ u ∈ cs'.toList, u.oneCell' = true)
    (k : Plan J ops dest Q rest (upd E d undef) ds (L.set j (Res.blk b cs' t'))) : Plan J ops dest Q ((i, .ef) :: rest) E ds L := by
  subst hv
  refine Plan.store j ho hg hD hz hx hy hj hn (by omega) h1 (cs' := v.cells) ?_ k
  have : cs.toList.drop (0 + n) = [] := List.drop_of_length_le (by simp; omega)
  rw [this]; simp

theorem ones_spec {cs : Array Value} (h : (cs.toList.all (·.oneCell')) = true) : ∀ u ∈ cs.toList, u.oneCell' = true := List.all_eq_true.1 h
theorem Plan.storeA {t t' : TypeId} {x y : Operand} {b : Nat} {cs cs' : Array Value} {n : Nat} (j : Nat) (ho : ops[i]? = some ⟨d, .store t x y, ty, pos, aft, g⟩)
    (hg : wantE ops ⟨d, .store t x y, ty, pos, aft, g⟩ E = true) (hD : ∀ D, dest = some D → i ∈ D) (hz : ∀ w, (sizeOf t).run J.P w = .ok n w) (hx : ev E x = .pointer (some ⟨b, 0, none⟩)) (hy : ev E y = .agg cs')
    (hj : L[j]? = some (Res.blk b cs t')) (hn : cs'.size = n) (hc : cs.size = n) (h1 : (cs'.toList.all (·.oneCell')) = true)
    (k : Plan J ops dest Q rest (upd E d undef) ds (L.set j (Res.blk b cs' t'))) : Plan J ops dest Q ((i, .ef) :: rest) E ds L :=
  Plan.storeAll j ho hg hD hz hx hy hj rfl hn hc (ones_spec h1) k
theorem Plan.storeI {t t' : TypeId} {x y : Operand} {b : Nat} {cs : Array Value} {kd : IntKind} {n : Int} (j : Nat) (ho : ops[i]? = some ⟨d, .store t x y, ty, pos, aft, g⟩)
    (hg : wantE ops ⟨d, .store t x y, ty, pos, aft, g⟩ E = true) (hD : ∀ D, dest = some D → i ∈ D) (hz : ∀ w, (sizeOf t).run J.P w = .ok 1 w) (hx : ev E x = .pointer (some ⟨b, 0, none⟩)) (hy : ev E y = .int kd n)
    (hj : L[j]? = some (Res.blk b cs t')) (hc : cs.size = 1)
    (k : Plan J ops dest Q rest (upd E d undef) ds (L.set j (Res.blk b #[.int kd n] t'))) : Plan J ops dest Q ((i, .ef) :: rest) E ds L :=
  Plan.storeAll j ho hg hD hz hx hy hj rfl rfl hc (ones_spec rfl) k
theorem Plan.storeB {t t' : TypeId} {x y : Operand} {b : Nat} {cs : Array Value} {n : Bool} (j : Nat) (ho : ops[i]? = some ⟨d, .store t x y, ty, pos, aft, g⟩)
    (hg : wantE ops ⟨d, .store t x y, ty, pos, aft, g⟩ E = true) (hD : ∀ D, dest = some D → i ∈ D) (hz : ∀ w, (sizeOf t).run J.P w = .ok 1 w) (hx : ev E x = .pointer (some ⟨b, 0, none⟩)) (hy : ev E y = .bool n)
    (hj : L[j]? = some (Res.blk b cs t')) (hc : cs.size = 1)
    (k : Plan J ops dest Q rest (upd E d undef) ds (L.set j (Res.blk b #[.bool n] t'))) : Plan J ops dest Q ((i, .ef) :: rest) E ds L :=
  Plan.storeAll j ho hg hD hz hx hy hj rfl rfl hc (ones_spec rfl) k
theorem Plan.storeF {t t' : TypeId} {x y : Operand} {b : Nat} {cs : Array Value} {fn : Fn} {f c : Array Value} (j : Nat) (ho : ops[i]? = some ⟨d, .store t x y, ty, pos, aft, g⟩)
    (hg : wantE ops ⟨d, .store t x y, ty, pos, aft, g⟩ E = true) (hD : ∀ D, dest = some D → i ∈ D) (hz : ∀ w, (sizeOf t).run J.P w = .ok 1 w) (hx : ev E x = .pointer (some ⟨b, 0, none⟩)) (hy : ev E y = .func fn f c)
    (hj : L[j]? = some (Res.blk b cs t')) (hc : cs.size = 1)
    (k : Plan J ops dest Q rest (upd E d undef) ds (L.set j (Res.blk b #[.func fn f c] t'))) : Plan J ops dest Q ((i, .ef) :: rest) E ds L :=
  Plan.storeAll j ho hg hD hz hx hy hj rfl rfl hc (ones_spec rfl) k

/-! aggregates -/
theorem Plan.build {t : TypeId} {parts : Array (Nat × Operand)} {ps : List (Nat × Value)} {v : Value} (ho : ops[i]? = some ⟨d, .build t parts, ty, pos, aft, g⟩) (hg : wantE ops ⟨d, .build t parts, ty, pos, aft, g⟩ E = true)
    (hp : parts.toList.map (fun x => (x.1, ev E x.2)) = ps) (hb : ∀ w, (Instr.build t ps.toArray).run J.P w = .ok v w) (k : Plan J ops dest Q rest (upd E d v) ds L) : Plan J ops dest Q ((i, .st) :: rest) E ds L :=
  Plan.st ho hg (St.of_exec (by intro c h; cases h) fun w hm => by
    unfold execOp
    subst hp
    have := run_lift_value (hb w)
    rw [← map_list] at this
    exact this) k

/-! calls -/
/-- the number leads to a function with a body -/
def Enters (P : Program) (f : FuncId) : Prop := ∀ args w, (callFunc f args).run P w = .ok (.enter f args) w

/-- a contract: it returns; blocks X of the old world may have changed -/
def Ct (P : Program) (f : FuncId) (args : Array Value) (w : World) (X : List Nat) (R : Value → List Res → Prop) : Prop :=
  Enters P f ∧ Calls P f args w fun e w' => ∃ v L, e = .returned v ∧ Mem w X L w' ∧ R v L

theorem Ct.mono {P : Program} {f : FuncId} {args : Array Value} {w : World} {X : List Nat} {R R' : Value → List Res → Prop} (h : Ct P f args w X R) (hr : ∀ v L, R v L → R' v L) : Ct P f args w X R' :=
  ⟨h.1, Calls.mono h.2 fun _ _ ⟨v, L, h1, h2, h3⟩ => ⟨v, L, h1, h2, hr _ _ h3⟩⟩

/-- a call of a function that is known by its number, by its contract; n resources in front are handed over -/
theorem Plan.callF {f : FuncId} {xs : Array Operand} {ts : Array TypeId} {args : List Value} {R : Value → List Res → Prop} (X : List Nat) (n : Nat)
    (ho : ops[i]? = some ⟨d, .call ⟨.value (.func f), xs, ts⟩, ty, pos, aft, g⟩) (hg : wantE ops ⟨d, .call ⟨.value (.func f), xs, ts⟩, ty, pos, aft, g⟩ E = true)
    (ha : xs.toList.map (ev E) = args) (hD : n = 0 ∨ ∀ D, dest = some D → i ∈ D)
    (hX : ∀ b ∈ X, ∃ r ∈ L.take n, b ∈ r.foot)
    (hc : ∀ w, Mem J.w0 J.X L w → Ct J.P f args.toArray w X R) (k : ∀ v Ln, R v Ln → Plan J ops dest Q rest (upd E d v) ds (Ln ++ L.drop n)) : Plan J ops dest Q ((i, .ef) :: rest) E ds L :=
  Plan.ef ho hg (by intro c h; cases h) fun Rf w hm => by
    obtain ⟨hf, hcall⟩ := hc w (hm.sub (List.sublist_append_left _ _))
    have hr : (execOp (ev E) ⟨d, .call ⟨.value (.func f), xs, ts⟩, ty, pos, aft, g⟩).run J.P w = .ok (.enter f args.toArray) w := by
      unfold execOp
      subst ha
      simp [resolve, ev, Deferred.ofValue, invoke, hf _ _, map_list]
    rw [hr]
    refine Calls.mono hcall ?_
    rintro e w' ⟨v, Ln, rfl, h2, h3⟩
    have hm' : Mem J.w0 J.X (L.take n ++ (L.drop n ++ Rf)) w := by rw [← List.append_assoc, List.take_append_drop]; exact hm
    refine ⟨v, Ln ++ L.drop n, rfl, ?_, fun D hD' hi => ?_, k v Ln h3⟩
    · rw [List.append_assoc]; exact hm'.call h2 hX
    · rcases hD with rfl | hD
      · intro Rf w1 hm1
        refine hm1.sub ?_
        simp only [List.drop_zero]
        exact (List.sublist_append_right Ln L).append_right Rf
      · exact absurd (hD D hD') hi

/-- a call of a function value that is made of a function and captured values -/
theorem Plan.callV {f : FuncId} {x : Operand} {cap : Array Value} {xs : Array Operand} {ts : Array TypeId} {args : List Value} {R : Value → List Res → Prop} (X : List Nat) (n : Nat)
    (ho : ops[i]? = some ⟨d, .call ⟨.value x, xs, ts⟩, ty, pos, aft, g⟩) (hg : wantE ops ⟨d, .call ⟨.value x, xs, ts⟩, ty, pos, aft, g⟩ E = true) (hx : ev E x = .func (.func f) #[] cap)
    (ha : xs.toList.map (ev E) ++ cap.toList = args) (hD : n = 0 ∨ ∀ D, dest = some D → i ∈ D)
    (hX : ∀ b ∈ X, ∃ r ∈ L.take n, b ∈ r.foot)
    (hc : ∀ w, Mem J.w0 J.X L w → Ct J.P f args.toArray w X R) (k : ∀ v Ln, R v Ln → Plan J ops dest Q rest (upd E d v) ds (Ln ++ L.drop n)) : Plan J ops dest Q ((i, .ef) :: rest) E ds L :=
  Plan.ef ho hg (by intro c h; cases h) fun Rf w hm => by
    obtain ⟨hf, hcall⟩ := hc w (hm.sub (List.sublist_append_left _ _))
    have hr : (execOp (ev E) ⟨d, .call ⟨.value x, xs, ts⟩, ty, pos, aft, g⟩).run J.P w = .ok (.enter f args.toArray) w := by
      unfold execOp
      subst ha
      simp [resolve, hx, Deferred.ofValue, invoke, hf _ _, map_list]
    rw [hr]
    refine Calls.mono hcall ?_
    rintro e w' ⟨v, Ln, rfl, h2, h3⟩
    have hm' : Mem J.w0 J.X (L.take n ++ (L.drop n ++ Rf)) w := by rw [← List.append_assoc, List.take_append_drop]; exact hm
    refine ⟨v, Ln ++ L.drop n, rfl, ?_, fun D hD' hi => ?_, k v Ln h3⟩
    · rw [List.append_assoc]; exact hm'.call h2 hX
    · rcases hD with rfl | hD
      · intro Rf w1 hm1
        refine hm1.sub ?_
        simp only [List.drop_zero]
        exact (List.sublist_append_right Ln L).append_right Rf
      · exact absurd (hD D hD') hi

end

theorem hDn {i : Nat} : ∀ D, (none : Option (List Nat)) = some D → i ∈ D := fun D h => by cases h
theorem hDs {i : Nat} {D0 : List Nat} (h : i ∈ D0) : ∀ D, some D0 = some D → i ∈ D := fun D h' => by injection h' with h'; subst h'; exact h
theorem ne_of_t {p : Prop} [Decidable p] (h : (!decide p) = true) : ¬ p := by simpa using h
theorem eq_of_f {p : Prop} [Decidable p] (h : (!decide p) = false) : p := by simpa using h

theorem Plan.splitB {J : Jd} {ops : Array Oper} {dest : Option (List Nat)} {Q : Post} {π : List (Nat × Kind)} {E : Env} {d : Option Nat} {ds : List Deferred} {L : List Res} {b : Bool}
    (kt : b = true → Plan J ops dest Q π (upd E d (.bool true)) ds L) (kf : b = false → Plan J ops dest Q π (upd E d (.bool false)) ds L) : Plan J ops dest Q π (upd E d (.bool b)) ds L := by
  cases b with
  | true => exact kt rfl
  | false => exact kf rfl

theorem own_loadAgg {J : Jd} {L : List Res} {b : Nat} {cs : Array Value} {t t' : TypeId} {n : Nat} (j : Nat) (hj : L[j]? = some (Res.blk b cs t')) (ha : ∀ w, (isAgg t).run J.P w = .ok true w)
    (hz : ∀ w, (sizeOf t).run J.P w = .ok n w) (hn : cs.size = n) : ∀ w, Mem J.w0 J.X L w → (loadVar t ⟨b, 0, none⟩).run J.P w = .ok (.agg cs) w := fun w hm => by
  have := run_loadVar_agg (ha w) (vs := cs.toList) (by rw [Array.length_toList, hn]; exact hz w) (Sees.all j hj w hm)
  simpa using this
theorem own_loadOne {J : Jd} {L : List Res} {b : Nat} {cs : Array Value} {t t' : TypeId} {v : Value} (j : Nat) (hj : L[j]? = some (Res.blk b cs t')) (ha : ∀ w, (isAgg t).run J.P w = .ok false w)
    (hv : cs[0]? = some v) : ∀ w, Mem J.w0 J.X L w → (loadVar t ⟨b, 0, none⟩).run J.P w = .ok v w := fun w hm => run_loadVar_one (ha w) (Sees.one j hj hv w hm 0 v rfl)

theorem zerosOk_of {P : Program} {ops : Array Oper} (Z : List (TypeId × Value)) (hZ : ∀ p ∈ Z, ∀ w, (zeroValue p.1).run P w = .ok p.2 w)
    (h : (ops.toList.all fun o => match o.op with | .alloc t => Z.any (fun p => Nat.beq p.1 t) | _ => true) = true) : zerosOk P ops := by
  intro k o t hk ho
  have := List.all_eq_true.1 h o (Array.mem_toList_iff.2 (Array.mem_of_getElem? hk))
  simp only [ho, List.any_eq_true] at this
  obtain ⟨p, hp, he⟩ := this
  have he := Nat.eq_of_beq_eq_true he
  subst he
  exact ⟨p.2, hZ p hp⟩

/-! functions -/
def argEnv : List Value → Env
  | [], _ => undef
  | v :: _, 0 => v
  | _ :: vs, t + 1 => argEnv vs t

theorem argEnv_get : ∀ (vs : List Value) (t : Nat), argEnv vs t = vs.getD t undef
  | [], _ => rfl
  | _ :: _, 0 => rfl
  | _ :: vs, t + 1 => by simp [argEnv, argEnv_get vs t]

/-- what a function hands back: slots, or variables in memory -/
inductive Gives (J : Jd) (E : Env) (L : List Res) : List ResultVar → List Value → Prop where
  | nil : Gives J E L [] []
  | tmp {t : Tmp} {v : Value} {rs : List ResultVar} {vs : List Value} (h : E t = v) (k : Gives J E L rs vs) : Gives J E L (.tmp t :: rs) (v :: vs)
  | cell {a : Tmp} {t : TypeId} {ad : Addr} {v : Value} {rs : List ResultVar} {vs : List Value} (h : E a = .pointer (some ad)) (hv : ∀ w, Mem J.w0 J.X L w → (loadVar t ad).run J.P w = .ok v w)
      (k : Gives J E L rs vs) : Gives J E L (.cell a t :: rs) (v :: vs)

def packed (vs : List Value) : Value := if h : vs.length = 1 then vs[0] else .tuple vs.toArray

def resOf (tmps : Array Value) : ResultVar → Sem Value
  | .tmp t => pure (tmps.getD t undef)
  | .cell a t => do loadVar t (← asAddr (tmps.getD a undef))

theorem results_list {J : Jd} {N : Nat} {ds : List Deferred} {a : Act} {E : Env} {L : List Res} {w : World} (hr : Rep N ds a E) (hm : Mem J.w0 J.X L w) : ∀ {rs : List ResultVar} {vs : List Value}, Gives J E L rs vs →
    (rs.mapM (resOf a.tmps)).run J.P w = .ok vs w
  | _, _, .nil => rfl
  | _, _, .tmp (t := t) h k => by
    have h1 : (resOf a.tmps (.tmp t)).run J.P w = .ok (E t) w := by simp only [resOf, hr.get]; rfl
    rw [List.mapM_cons, Sem.run_bind, h1, Result.andThen_ok, Sem.run_bind, results_list hr hm k, h]
    rfl
  | _, _, .cell (a := a') (t := t) (v := v) h hv k => by
    have h1 : (resOf a.tmps (.cell a' t)).run J.P w = .ok v w := by simp only [resOf, hr.get, h, asAddr, Sem.run_bind, Sem.run_pure, Result.andThen_ok]; exact hv w hm
    rw [List.mapM_cons, Sem.run_bind, h1, Result.andThen_ok, Sem.run_bind, results_list hr hm k]
    rfl

theorem results_run {J : Jd} {N : Nat} {ds : List Deferred} {a : Act} {E : Env} {L : List Res} {w : World} (hr : Rep N ds a E) (hm : Mem J.w0 J.X L w) {fn : Func} {rs : List ResultVar} {vs : List Value}
    (hrs : fn.results.toList = rs) (h : Gives J E L rs vs) : (results fn a.tmps).run J.P w = .ok (packed vs) w := by
  have hres : results fn a.tmps = (do let vs ← fn.results.mapM (resOf a.tmps); pure (if h : vs.size = 1 then vs[0] else .tuple vs)) := by
    unfold results
    congr 1
  rw [hres, Array.mapM_eq_mapM_toList, hrs]
  have := results_list hr hm h
  rw [Sem.run_bind, Sem.run_map, this]
  simp only [Result.andThen_ok, Sem.run_pure]
  unfold packed
  by_cases h1 : vs.length = 1 <;> simp [h1]

def retPost (J : Jd) (rs : List ResultVar) (R : Value → List Res → Prop) : Post := fun e E ds L =>
  match e with
  | .normal | .ret => ds = [] ∧ ∃ vs L', Gives J E L rs vs ∧ L'.Sublist L ∧ R (packed vs) L'
  | _ => False

/-- a function, by its body -/
theorem Ct.of_body {P : Program} {f : FuncId} {fn : Func} {c : Code} {rs : List ResultVar} {N : Nat} {args : Array Value} {w : World} {X : List Nat} {L : List Res} {R : Value → List Res → Prop}
    (hf : P.funcs[f]? = some fn) (hb : fn.body = some c) (hrs : fn.results.toList = rs) (hN : fn.ntmps = N) (hn : (fn.name == "runtime.NumGoroutine") = false) (hargs : Nat.ble args.size N = true) (hm : Mem w X L w)
    (h : HW ⟨P, none, N, w, X⟩ c (retPost ⟨P, none, N, w, X⟩ rs R) (argEnv args.toList) [] L) : Ct P f args w X R := by
  refine ⟨fun args w => by
    have h1 : fn.name ≠ "runtime.NumGoroutine" := by simpa using hn
    simp [callFunc, hf, h1, hb, mark], ?_⟩
  refine callsIn_fw (r := none) (n := 0).1 (callsIn_of_wp hf hb trivial ?_)
  have hr : Rep N [] { tmps := args ++ Array.replicate (fn.ntmps - args.size) undef, defers := [] } (argEnv args.toList) := by
    have hargs := Nat.le_of_ble_eq_true hargs
    refine ⟨by simp; omega, rfl, fun t => ?_⟩
    rw [argEnv_get]
    simp only [Array.getD_eq_getD_getElem?, List.getD_eq_getElem?_getD, Array.getElem?_append, Array.getElem?_toList]
    by_cases ht : t < args.size
    · simp [ht]
    · simp only [ht, if_false, Array.getElem?_eq_none (Nat.le_of_not_lt ht), Option.getD_none, Array.getElem?_replicate]
      split <;> rfl
  refine wpIn_mono (h _ _ hr hm) ?_
  rintro e a w' ⟨E, ds, L', h1, h2, h3⟩
  cases e with
  | normal => obtain ⟨rfl, vs, L2, hg, hs, hR⟩ := h3; exact ⟨h1.defs, _, results_run h1 h2 hrs hg, _, L2, rfl, h2.sub hs, hR⟩
  | ret => obtain ⟨rfl, vs, L2, hg, hs, hR⟩ := h3; exact ⟨h1.defs, _, results_run h1 h2 hrs hg, _, L2, rfl, h2.sub hs, hR⟩
  | exit id => exact h3.elim
  | goto l => exact h3.elim
  | panic c => exact h3.elim
  | outgrown => exact h3.elim

end Go.Proofs.Ytjmklbkcpjmcaaa.H
