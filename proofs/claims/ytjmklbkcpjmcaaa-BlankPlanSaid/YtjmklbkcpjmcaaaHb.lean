/-
  The frame of these proofs, eleventh part: scopes, checked pointers.
  The frame of these proofs, twelfth part: calls that are handed one resource by its place; capacities.
  The frame of these proofs, thirteenth part: append of new zeros to nothing.
  The frame of these proofs, fourteenth part: small unsigned numbers.
-/
import Derived.Test.YtjmklbkcpjmcaaaHa
import Derived.Scope
import Derived.Test.YtjmklbkcpjmcaaaH6
import Derived.Lib.AppendZeros
namespace Go.Proofs.Ytjmklbkcpjmcaaa.H
open Go Go.RowKit
set_option linter.unusedVariables false
set_option linter.unusedSimpArgs false

section
variable {F : Fence} {n : Nat} {P : Program} {Q : Exit → Act → World → Prop} {a : Act} {w : World}
theorem stepR_scope {b : Frame} {k : List Item} {cs : List Frame} {c : Code} : step P (lone (b.atR a (.code (.scope c) :: k)) cs w) = .next (lone (b.atR a (.code c :: .inScope c :: k)) cs w) :=
  step_lone_go (by simp [stepG, stepG.exec, Frame.atR])
theorem stepR_inScope {b : Frame} {k : List Item} {cs : List Frame} {c : Code} : step P (lone (b.atR a (.inScope c :: k)) cs w) = .next (lone (b.atR a k) cs w) :=
  step_lone_go (by simp [stepG, stepG.exec, Frame.atR])

/-- a scope through which the run goes without a goto -/
theorem wpIn_scope {c : Code} (h : c.wpIn F n P (Exit.noGoto Q) a w) : (Code.scope c).wpIn F n P Q a w := by
  intro b k cs hro hb hr
  have h0 : (lone (b.atR a (.code (.scope c) :: k)) cs w).fenced P F := fenced_calm hb hr rfl
  obtain ⟨e, a₁, w₁, hq, harr⟩ := h b (.inScope c :: k) cs hro hb hr
  cases e with
  | normal => exact ⟨.normal, a₁, w₁, hq, .head h0 stepR_scope (StepsIn.trans harr (.one (fenced_calm hb hr rfl) stepR_inScope))⟩
  | exit id' =>
    have hx : exitTo id' (.inScope c :: k) = exitTo id' k := by simp [exitTo]
    exact ⟨.exit id', a₁, w₁, hq, fun k' hk => .head h0 stepR_scope (harr.1 k' (by rw [hx]; exact hk)),
      fun hr' hk => let ⟨k₁, h1, h2⟩ := harr.2 hr' (by rw [hx]; exact hk); ⟨k₁, h1, .head h0 stepR_scope h2⟩⟩
  | goto l => exact hq.elim
  | ret => exact ⟨_, a₁, w₁, hq, .of_steps (.one h0 stepR_scope) harr⟩
  | panic ch => exact ⟨_, a₁, w₁, hq, .of_steps (.one h0 stepR_scope) harr⟩
  | outgrown => exact ⟨_, a₁, w₁, hq, .of_steps (.one h0 stepR_scope) harr⟩
end

def noGoto (Q : Post) : Post := fun e => match e with
  | .goto _ => fun _ _ _ => False
  | e => Q e

theorem HW.scope {J : Jd} {c : Code} {Q : Post} {E : Env} {ds : List Deferred} {L : List Res} (h : HW J c (noGoto Q) E ds L) : HW J (.scope c) Q E ds L := fun a w hr hm => by
  refine wpIn_scope (wpIn_mono (h a w hr hm) ?_)
  rintro e a' w' ⟨E', ds', L', h1, h2, h3⟩
  cases e <;> first | exact ⟨E', ds', L', h1, h2, h3⟩ | exact h3.elim

section
variable {J : Jd} {ops : Array Oper} {dest : Option (List Nat)} {Q : Post} {i : Nat} {rest : List (Nat × Kind)} {E : Env} {ds : List Deferred} {L : List Res}
variable {d : Option Nat} {ty : TypeId} {pos : String} {aft : Array Edge} {g : Option (Nat × Bool)}
theorem Plan.nilCheck {x : Operand} {ad : Addr} (ho : ops[i]? = some ⟨d, .nilCheck x, ty, pos, aft, g⟩) (hg : wantE ops ⟨d, .nilCheck x, ty, pos, aft, g⟩ E = true) (hx : ev E x = .pointer (some ad))
    (k : Plan J ops dest Q rest (upd E d (.pointer (some ad))) ds L) : Plan J ops dest Q ((i, .st) :: rest) E ds L :=
  Plan.st ho hg (St.of_exec (by intro c h; cases h) fun w _ => by unfold execOp; simp only [hx]; rfl) k
end

/-- a cell of a block that was there before -/
theorem Sees.oldOne {J : Jd} {L : List Res} {b o : Nat} {cs : Array Value} {t : TypeId} {v : Value} (h : J.w0.heap[b]? = some (.cells cs t (0, 0))) (hX : b ∉ J.X) (hv : cs[o]? = some v) : Sees J L ⟨b, o, none⟩ [v] := fun w hm j u hu => by
  have h' := (hm.old b (Array.getElem?_eq_some_iff.1 h).1 hX).trans h
  rw [Addr.add_lit, cell_of_heap h']
  cases j with
  | zero => rw [← hu]; exact hv
  | succ j => simp at hu

end Go.Proofs.Ytjmklbkcpjmcaaa.H

namespace Go.Proofs.Ytjmklbkcpjmcaaa.H
open Go Go.RowKit
set_option linter.unusedVariables false
set_option linter.unusedSimpArgs false

section
variable {J : Jd} {ops : Array Oper} {dest : Option (List Nat)} {Q : Post} {i : Nat} {rest : List (Nat × Kind)} {E : Env} {ds : List Deferred} {L : List Res}
variable {d : Option Nat} {ty : TypeId} {pos : String} {aft : Array Edge} {g : Option (Nat × Bool)}
/-- a call of a function that is known by its number, by its contract; the resource at place j is handed over -/
theorem Plan.callJ {f : FuncId} {xs : Array Operand} {ts : Array TypeId} {args : List Value} {R : Value → List Res → Prop} (X : List Nat) (j : Nat)
    (ho : ops[i]? = some ⟨d, .call ⟨.value (.func f), xs, ts⟩, ty, pos, aft, g⟩) (hg : wantE ops ⟨d, .call ⟨.value (.func f), xs, ts⟩, ty, pos, aft, g⟩ E = true)
    (ha : xs.toList.map (ev E) = args) (hD : ∀ D, dest = some D → i ∈ D)
    (hX : ∃ r, L[j]? = some r ∧ ∀ b ∈ X, b ∈ r.foot)
    (hc : ∀ w, Mem J.w0 J.X L w → Ct J.P f args.toArray w X R) (k : ∀ v Ln, R v Ln → Plan J ops dest Q rest (upd E d v) ds (Ln ++ L.eraseIdx j)) : Plan J ops dest Q ((i, .ef) :: rest) E ds L :=
  Plan.ef ho hg (by intro c h; cases h) fun Rf w hm => by
    obtain ⟨hf, hcall⟩ := hc w (hm.sub (List.sublist_append_left _ _))
    have hr : (execOp (ev E) ⟨d, .call ⟨.value (.func f), xs, ts⟩, ty, pos, aft, g⟩).run J.P w = .ok (.enter f args.toArray) w := by
      unfold execOp
      subst ha
      simp [resolve, ev, Deferred.ofValue, invoke, hf _ _, map_list]
    rw [hr]
    refine Calls.mono hcall ?_
    rintro e w' ⟨v, Ln, rfl, h2, h3⟩
    obtain ⟨r, hj, hX⟩ := hX
    obtain ⟨hlt, hget⟩ := List.getElem?_eq_some_iff.1 hj
    have hp : (L ++ Rf).Perm ([r] ++ (L.eraseIdx j ++ Rf)) := by
      rw [← List.append_assoc]
      refine List.Perm.append_right Rf ?_
      have e : L = L.take j ++ r :: L.drop (j + 1) := by rw [← hget]; simp
      rw [List.eraseIdx_eq_take_drop_succ]
      refine List.Perm.trans (List.Perm.of_eq e) List.perm_middle
    refine ⟨v, Ln ++ L.eraseIdx j, rfl, ?_, fun D hD' hi => absurd (hD D hD') hi, k v Ln h3⟩
    rw [List.append_assoc]
    exact (hm.perm hp).call h2 fun b hb => ⟨r, by simp, hX b hb⟩

/-- the capacity of a slice -/
theorem Plan.cap {st e : TypeId} {x : Operand} {A : Option Addr} {n c : Nat} (ho : ops[i]? = some ⟨d, .call ⟨.builtin .cap, #[x], #[st]⟩, ty, pos, aft, g⟩)
    (hg : wantE ops ⟨d, .call ⟨.builtin .cap, #[x], #[st]⟩, ty, pos, aft, g⟩ E = true) (hs : J.P.underlying st = some (.slice e)) (hx : ev E x = .slice A n c)
    (k : Plan J ops dest Q rest (upd E d (.int .i64 c)) ds L) : Plan J ops dest Q ((i, .st) :: rest) E ds L :=
  Plan.st ho hg (St.of_exec (by intro c h; cases h) fun w _ => by
    unfold execOp
    simp [resolve, hx, invoke, builtin, Builtin.cap_, run_underlying hs, goInt, Result.andThen]) k
end

theorem Lies.notMap {w : World} {a : Addr} {vs : List Value} {b n : Nat} {es : Array MapEntry} (h : Lies w a vs) (hv : 0 < vs.length) (hb : w.heap[b]? = some (.map es n)) : a.block ≠ b := by
  intro e
  have h0 := h 0 vs[0] (by rw [List.getElem?_eq_getElem hv])
  have hbl : (a.add 0).block = a.block := by unfold Addr.add; split <;> rfl
  have hlt := World.block_lt_of_cell? _ _ h0
  unfold World.cell? at h0
  rw [hbl, e, hb] at h0
  simp at h0

theorem Rd.memMap {α : Type} {enc : α → List Value} {k : Nat} {w0 w : World} {L : List Res} {A : Option Addr} {xs : List α} {b n : Nat} {es : Array MapEntry} (h : Rd enc k w0 A xs) (hm : Mem w0 [b] L w) (hb : w0.heap[b]? = some (.map es n))
    (hk : ∀ x, 0 < (enc x).length) : Rd enc k w A xs := fun i hi => by
  obtain ⟨a, e, hl⟩ := h i hi
  refine ⟨a, e, hl.keep fun b' hb' e' => hm.old b' hb' ?_⟩
  have := hl.notMap (hk _) hb
  simp only [List.mem_singleton]
  rw [e']
  exact this

/-- a map that came in and may be changed -/
theorem Mem.ownMap {K V : Type} {ek : K → Value} {ev' : V → Value} {w : World} {b : Nat} {l : List (K × V)} (h : w.heap[b]? = some (.map (ents ek ev' 0 l).toArray l.length)) : Mem w [b] [Res.mp ek ev' b l] w := by
  have hb : b < w.heap.size := (Array.getElem?_eq_some_iff.1 h).1
  refine ⟨rfl, rfl, Nat.le_refl _, rfl, Nat.le_refl _, fun _ _ _ => rfl, fun r hr => ?_, fun r hr c hc => ?_, List.pairwise_singleton _ _⟩
  · obtain rfl := List.mem_singleton.1 hr
    exact h
  · obtain rfl := List.mem_singleton.1 hr
    have hc : c = b := by simpa [Res.mp, Res.obj] using hc
    subst hc
    exact ⟨hb, .inr (by simp)⟩

theorem mem_putK {K V : Type} [DecidableEq K] {k : K} {v : V} {l : List (K × V)} {e : K × V} (h : e ∈ putK k v l) : e ∈ l ∨ e = (k, v) := by
  unfold putK at h
  split at h
  · rcases List.mem_or_eq_of_mem_set h with h | h
    · exact .inl h
    · exact .inr h
  · rcases List.mem_append.1 h with h | h
    · exact .inl h
    · exact .inr (List.mem_singleton.1 h)

theorem valAt_mem {K V : Type} [DecidableEq K] {k : K} {v : V} {l : List (K × V)} (h : valAt k l = some v) : (k, v) ∈ l := by
  unfold valAt at h
  obtain ⟨e, he, rfl⟩ := Option.map_eq_some_iff.1 h
  have h1 := List.find?_some he
  have h2 := List.mem_of_find?_eq_some he
  obtain ⟨a, b⟩ := e
  simp only [decide_eq_true_eq] at h1
  subst h1
  exact h2

end Go.Proofs.Ytjmklbkcpjmcaaa.H

namespace Go.Proofs.Ytjmklbkcpjmcaaa.H
open Go Go.RowKit
set_option linter.unusedVariables false
set_option linter.unusedSimpArgs false

section
variable {J : Jd} {ops : Array Oper} {dest : Option (List Nat)} {Q : Post} {i : Nat} {rest : List (Nat × Kind)} {E : Env} {ds : List Deferred} {L : List Res}
variable {d : Option Nat} {ty : TypeId} {pos : String} {aft : Array Edge} {g : Option (Nat × Bool)}
/-- append(nothing, n zeros): room of one's own -/
theorem Plan.appendZ0 {α : Type} {st tn e : TypeId} {kn : IntKind} {x y : Operand} {z : Value} {sz bytes n : Nat} (enc : α → List Value)
    (ho : ops[i]? = some ⟨d, .call ⟨.builtin .append, #[x, y], #[st, tn]⟩, ty, pos, aft, g⟩) (hg : wantE ops ⟨d, .call ⟨.builtin .append, #[x, y], #[st, tn]⟩, ty, pos, aft, g⟩ E = true)
    (ht : J.P.underlying st = some (.slice e)) (htn : J.P.underlying tn = some (.int kn)) (hinf : ∃ ti, J.P.info? e = some ti ∧ (ti.zero, ti.size, ti.bytes) = (some z, sz, bytes)) (hzs : z.cells.size = sz) (hpos : 0 < sz)
    (hx : ev E x = .slice none 0 0) (hy : ev E y = .int .i64 (n : Int)) (h0 : 0 < n) (hb : n * bytes ≤ 281474976710656) (hn : n ≤ maxLen)
    (k : ∀ b c', n ≤ c' → Plan J ops dest Q rest (upd E d (.slice (some ⟨b, 0, none⟩) n c')) ds (Res.own enc sz e (some b) c' ([] : List α) :: L)) : Plan J ops dest Q ((i, .ef) :: rest) E ds L :=
  Plan.ef ho hg (by intro c h; cases h) fun Rf w hm => by
    obtain ⟨ti, hi, hty⟩ := hinf
    have hz : ti.zero = some z := congrArg (·.1) hty
    have hs : ti.size = sz := congrArg (·.2.1) hty
    have hby : ti.bytes = bytes := congrArg (·.2.2) hty
    have hn' : (n : Int) ≤ 9223372036854775807 := by simp only [maxLen] at hn; omega
    have hrun := Lib.run_append_nil_zeros (P := J.P) w st tn ty e ti z .i64 kn ht htn hi hz n h0 (by omega) hn' (by rw [hby]; exact hb)
    have hr : (execOp (ev E) ⟨d, .call ⟨.builtin .append, #[x, y], #[st, tn]⟩, ty, pos, aft, g⟩).run J.P w = .ok (.value (.slice (some ⟨w.heap.size, 0, none⟩) n (grownCap w n 0 e))) (w.drew.alloc (.cells (Builtin.zeroCells z.cells n ++ Builtin.zeroCells z.cells (grownCap w n 0 e - n)) e)) := by
      unfold execOp
      simp [resolve, hx, hy, invoke, builtin, hrun, Result.andThen]
    rw [hr]
    have hge := grownCap_ge w n 0 e
    have hmx := grownCap_le_maxLen w n 0 e hn
    have hm0 : Mem J.w0 J.X (L ++ Rf) w.drew := hm.drawn (w.drawn + 1) (Nat.le_succ _)
    have hm1 : Mem J.w0 J.X ((Res.blk w.heap.size (Builtin.zeroCells z.cells n ++ Builtin.zeroCells z.cells (grownCap w n 0 e - n)) e :: L) ++ Rf) (w.drew.alloc (.cells (Builtin.zeroCells z.cells n ++ Builtin.zeroCells z.cells (grownCap w n 0 e - n)) e (0, 0))) := hm0.alloc _ e
    have hm2 := Mem.swap 0 hm1 rfl (Res.own enc sz e (some w.heap.size) (grownCap w n 0 e) ([] : List α)) (List.Sublist.refl _) (fun hh => by
      refine ⟨by simp, .inr ⟨w.heap.size, grownCap w n 0 e, _, rfl, Nat.zero_le _, hh, by simp, hmx, ?_, by simp⟩⟩
      rw [Array.size_append, size_zeroCells, size_zeroCells, hzs, ← Nat.add_mul]
      congr 1
      omega)
    exact ⟨Res.own enc sz e (some w.heap.size) (grownCap w n 0 e) ([] : List α) :: L, hm2, fun D _ _ Rf w' hm' => hm'.sub (List.sublist_cons_self _ _), k _ _ hge⟩
end

end Go.Proofs.Ytjmklbkcpjmcaaa.H

namespace Go.Proofs.Ytjmklbkcpjmcaaa.H
open Go Go.RowKit
set_option linter.unusedVariables false
set_option linter.unusedSimpArgs false

section
variable {J : Jd} {ops : Array Oper} {dest : Option (List Nat)} {Q : Post} {i : Nat} {rest : List (Nat × Kind)} {E : Env} {ds : List Deferred} {L : List Res}
variable {d : Option Nat} {ty : TypeId} {pos : String} {aft : Array Edge} {g : Option (Nat × Bool)}
theorem wrap_u8 {n : Int} (h0 : 0 ≤ n) (h1 : n ≤ 255) : IntKind.u8.wrap n = n := by
  simp [IntKind.wrap, IntKind.bits, IntKind.signed]; omega

theorem Plan.remU {xt yt : TypeId} {x y : Operand} {a b : Int} (ho : ops[i]? = some ⟨d, .binOp .rem xt x y yt, ty, pos, aft, g⟩)
    (hg : wantE ops ⟨d, .binOp .rem xt x y yt, ty, pos, aft, g⟩ E = true) (hx : ev E x = .int .u8 a) (hy : ev E y = .int .u8 b) (h : 0 ≤ a ∧ 0 < b)
    (k : Plan J ops dest Q rest (upd E d (.int .u8 (a % b))) ds L) : Plan J ops dest Q ((i, .st) :: rest) E ds L :=
  Plan.st ho hg (St.of_exec (by intro c h; cases h) fun w _ => by
    unfold execOp
    have hb : b ≠ 0 := by omega
    have ht : a.tmod b = a % b := Int.tmod_eq_emod_of_nonneg h.1
    simp [hx, hy, eqGuard, binOp, Op.intDiv, hb, Result.andThen, ht]) k

theorem Plan.quoU {xt yt : TypeId} {x y : Operand} {a b : Int} (ho : ops[i]? = some ⟨d, .binOp .quo xt x y yt, ty, pos, aft, g⟩)
    (hg : wantE ops ⟨d, .binOp .quo xt x y yt, ty, pos, aft, g⟩ E = true) (hx : ev E x = .int .u8 a) (hy : ev E y = .int .u8 b) (h : 0 ≤ a ∧ a ≤ 255 ∧ 0 < b)
    (k : Plan J ops dest Q rest (upd E d (.int .u8 (a / b))) ds L) : Plan J ops dest Q ((i, .st) :: rest) E ds L :=
  Plan.st ho hg (St.of_exec (by intro c h; cases h) fun w _ => by
    unfold execOp
    have hb : b ≠ 0 := by omega
    have ht : a.tdiv b = a / b := Int.tdiv_eq_ediv_of_nonneg h.1
    have h1 : 0 ≤ a / b := Int.ediv_nonneg h.1 (by omega)
    have h2 : a / b ≤ a := Int.ediv_le_self b h.1
    have hw := wrap_u8 (n := a / b) (by omega) (by omega)
    simp [hx, hy, eqGuard, binOp, Op.intDiv, hb, Result.andThen, ht, hw]) k

theorem Plan.convI {src dst : TypeId} {x : Operand} {kd : IntKind} {n : Int} (ho : ops[i]? = some ⟨d, .convert src dst x, ty, pos, aft, g⟩) (hg : wantE ops ⟨d, .convert src dst x, ty, pos, aft, g⟩ E = true)
    (hs : ∃ ds, J.P.underlying src = some ds) (hd : J.P.underlying dst = some (.int .i64)) (hx : ev E x = .int kd n) (h : -9223372036854775808 ≤ n ∧ n ≤ 9223372036854775807)
    (k : Plan J ops dest Q rest (upd E d (.int .i64 n)) ds L) : Plan J ops dest Q ((i, .st) :: rest) E ds L :=
  Plan.st ho hg (St.of_exec (by intro c h; cases h) fun w _ => by
    unfold execOp convert
    obtain ⟨ds, hs⟩ := hs
    have hw := wrap_i64 (n := n) (by omega) (by omega)
    simp [hx, run_underlying hs, run_underlying hd, Conv.intToInt, hw, Result.andThen]) k
end

end Go.Proofs.Ytjmklbkcpjmcaaa.H
