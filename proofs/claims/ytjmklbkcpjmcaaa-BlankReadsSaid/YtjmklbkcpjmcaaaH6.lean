/-
  The frame of these proofs, seventh part: slices of one's own that are written in place.
-/
import Derived.Test.YtjmklbkcpjmcaaaH5
namespace Go.Proofs.Ytjmklbkcpjmcaaa.H
open Go Go.RowKit
set_option linter.unusedVariables false
set_option linter.unusedSimpArgs false

section
variable {α : Type} {enc : α → List Value} {sz : Nat} {e : TypeId}

theorem mem_setRow {b c : Nat} {xs ys : List α} {w : World} (hk : ∀ x, (enc x).length = sz) (h : (Res.own enc sz e (some b) c xs).holds w) {cur cs' : Array Value} (h1 : w.heap[b]? = some (.cells cur e (0, 0))) (hs : cs'.size = cur.size)
    (hys : ys.length ≤ c) (hcs : cs'.toList.take (ys.length * sz) = ys.flatMap enc) : Mem w [b] [Res.own enc sz e (some b) c ys] (w.setRow b cs') := by
  obtain ⟨cur', h1', h2, h3, h4, h5⟩ := Res.own_cells h b rfl
  obtain rfl : cur = cur' := by rw [h1] at h1'; injection h1' with h1'; injection h1'
  have hb : b < w.heap.size := (Array.getElem?_eq_some_iff.1 h1).1
  refine ⟨rfl, rfl, Nat.le_refl _, rfl, by simp, fun j hj hX => setRow_other w b j cs' (fun e => hX (by rw [e]; exact List.mem_singleton.2 rfl)), ?_, ?_, List.pairwise_singleton _ _⟩
  · intro r hr
    obtain rfl := List.mem_singleton.1 hr
    exact ⟨length_flatMap hk _, .inr ⟨b, c, cs', rfl, Nat.zero_le _, setRow_heap w b cur cs' e (0, 0) h1, hys, h4, by rw [hs]; exact h2, hcs⟩⟩
  · intro r hr j hj
    obtain rfl := List.mem_singleton.1 hr
    obtain rfl := List.mem_singleton.1 hj
    exact ⟨by simpa using hb, .inr (List.mem_singleton.2 rfl)⟩

theorem flatMap_set (hk : ∀ x, (enc x).length = sz) : ∀ (xs : List α) (m : Nat) (y : α), m < xs.length → (xs.set m y).flatMap enc = (xs.flatMap enc).take (m * sz) ++ enc y ++ (xs.flatMap enc).drop (m * sz + sz)
  | [], m, _, h => absurd h (Nat.not_lt_zero _)
  | x :: xs, 0, y, _ => by
    simp only [List.set_cons_zero, List.flatMap_cons, Nat.zero_mul, List.take_zero, List.nil_append, Nat.zero_add]
    rw [List.drop_left' (hk x)]
  | x :: xs, m + 1, y, h => by
    simp only [List.set_cons_succ, List.flatMap_cons]
    rw [flatMap_set hk xs m y (by simpa using h), List.take_append, List.drop_append, hk, List.take_of_length_le (l := enc x) (by rw [hk, Nat.add_mul]; omega), List.drop_of_length_le (l := enc x) (by rw [hk, Nat.add_mul]; omega)]
    have e1 : (m + 1) * sz - sz = m * sz := by rw [Nat.add_mul]; omega
    have e2 : (m + 1) * sz + sz - sz = m * sz + sz := by rw [Nat.add_mul]; omega
    rw [e1, e2]
    simp

theorem take_splice (l v : List Value) (o n t : Nat) (hv : v.length = n) (ho : o + n ≤ t) (hl : t ≤ l.length) : (l.take o ++ v ++ l.drop (o + n)).take t = (l.take t).take o ++ v ++ (l.take t).drop (o + n) := by
  apply List.ext_getElem?
  intro i
  by_cases hi : i < t
  · rw [List.getElem?_take_of_lt hi]
    simp only [List.getElem?_append, List.length_append, List.length_take, hv, List.getElem?_take, List.getElem?_drop]
    have e1 : min o l.length = o := by omega
    have e2 : min o (min t l.length) = o := by omega
    rw [e1, e2]
    by_cases h1 : i < o + n
    · rw [if_pos h1, if_pos h1]
      by_cases h2 : i < o
      · simp [h2, hi]
      · simp [h2]
    · rw [if_neg h1, if_neg h1, if_pos (by omega)]
  · rw [List.getElem?_eq_none (by simp; omega), List.getElem?_eq_none (by simp; omega)]

theorem step_set {P : Program} {b c m : Nat} {xs : List α} {y : α} {v : Value} {t : TypeId} {w : World} (hk : ∀ x, (enc x).length = sz) (h1 : ∀ x, (enc x).all (·.oneCell') = true)
    (h : (Res.own enc sz e (some b) c xs).holds w) (hm : m < xs.length) (hz : (sizeOf t).run P w = .ok sz w) (hv : v.cells = (enc y).toArray) :
    ∃ w', (storeVar t ((⟨b, 0, none⟩ : Addr).add (m * sz)) v).run P w = .ok () w' ∧ Mem w [b] [Res.own enc sz e (some b) c (xs.set m y)] w' := by
  obtain ⟨cur, hb, h2, h3, h4, h5⟩ := Res.own_cells h b rfl
  have hfit : (m + 1) * sz ≤ xs.length * sz := Nat.mul_le_mul_right _ hm
  have hfit2 : xs.length * sz ≤ c * sz := Nat.mul_le_mul_right _ h3
  rw [Nat.add_mul, Nat.one_mul] at hfit
  have hvs : v.cells.size = sz := by rw [hv]; simpa using hk y
  have hr := run_storeVar_at (P := P) (w := w) (t := t) (b := b) (o := m * sz) (v := v) (n := sz) hz hvs hb (by omega) (by rw [hv]; exact List.all_eq_true.1 (h1 y))
  rw [Addr.add_lit, Nat.zero_add]
  refine ⟨_, hr, mem_setRow hk h hb ?_ (by simpa using h3) ?_⟩
  · have : v.cells.toList.length = sz := by simpa using hvs
    simp [hvs]; omega
  · rw [List.length_set, List.toList_toArray, take_splice _ _ _ _ _ (by simpa using hvs) hfit (by simp; omega), h5, flatMap_set hk xs m y hm, hv]

theorem zeroCells_oneCell {z : Value} (hz : (z.cells.toList.all (·.oneCell')) = true) (n : Nat) : ∀ u ∈ (Builtin.zeroCells z.cells n).toList, u.oneCell' = true := by
  intro u hu
  simp only [Builtin.zeroCells, Array.toList_map, List.mem_map] at hu
  obtain ⟨i, hi, rfl⟩ := hu
  have hi : i < n * z.cells.size := by simpa using hi
  have hp : 0 < z.cells.size := by rcases Nat.eq_zero_or_pos z.cells.size with h | h
                                   · rw [h] at hi; omega
                                   · exact h
  have hlt := Nat.mod_lt i hp
  rw [getElem!_pos z.cells _ hlt]
  exact List.all_eq_true.1 hz _ (by simp)

theorem step_clear {P : Program} {st ety : TypeId} {b c lo n k' : Nat} {xs : List α} {z : Value} {w : World} (hk : ∀ x, (enc x).length = sz) (ht : P.underlying st = some (.slice e)) (hz : (zeroValue e).run P w = .ok z w) (hzs : z.cells.size = sz)
    (hz1 : (z.cells.toList.all (·.oneCell')) = true) (h : (Res.own enc sz e (some b) c xs).holds w) (hn : n = xs.length - lo) (hlo : lo < xs.length) :
    ∃ w', (Builtin.clear_ #[st] ety #[.slice (some ((⟨b, 0, none⟩ : Addr).add (lo * sz))) n k']).run P w = .ok (.tuple #[]) w' ∧ Mem w [b] [Res.own enc sz e (some b) c (xs.take lo)] w' := by
  obtain ⟨cur, hb, h2, h3, h4, h5⟩ := Res.own_cells h b rfl
  have hzl : (Builtin.zeroCells z.cells n).toList.length = n * sz := by simp [Builtin.zeroCells, hzs]
  have hfit : lo * sz + n * sz = xs.length * sz := by rw [← Nat.add_mul]; congr 1; omega
  have hfit2 : xs.length * sz ≤ c * sz := Nat.mul_le_mul_right _ h3
  have hr := run_storeCells_at P b (lo * sz) e (Builtin.zeroCells z.cells n).toList 0 cur w hb (by rw [hzl]; omega) (zeroCells_oneCell hz1 n)
  simp only [Nat.add_zero] at hr
  have hn0 : n ≠ 0 := by omega
  refine ⟨w.setRow b (List.take (lo * sz) cur.toList ++ (Builtin.zeroCells z.cells n).toList ++ List.drop (lo * sz + (Builtin.zeroCells z.cells n).toList.length) cur.toList).toArray, ?_, mem_setRow hk h hb ?_ (ys := xs.take lo) (by simp; omega) ?_⟩
  · rw [Addr.add_lit, Nat.zero_add]
    obtain ⟨n', rfl⟩ : ∃ n', n = n' + 1 := ⟨n - 1, by omega⟩
    simp [Builtin.clear_, run_underlying ht, hz, hr]
  · have : lo * sz + (n * sz + (c * sz - (lo * sz + n * sz))) = c * sz := by omega
    simp only [List.size_toArray, List.length_append, List.length_take, List.length_drop, hzl, Array.length_toList, h2]
    omega
  · have hl : (xs.take lo).length = lo := by simp; omega
    rw [hl, List.toList_toArray, List.append_assoc, List.take_left' (by simp; omega)]
    have h6 := congrArg (List.take (lo * sz)) h5
    rw [List.take_take, Nat.min_eq_left (by omega)] at h6
    rw [h6]
    have h7 := congrArg (List.flatMap enc) (List.take_append_drop lo xs)
    rw [List.flatMap_append] at h7
    rw [← h7, List.take_left' (by rw [length_flatMap hk, hl])]

end

section
variable {J : Jd} {ops : Array Oper} {dest : Option (List Nat)} {Q : Post} {i : Nat} {rest : List (Nat × Kind)} {E : Env} {ds : List Deferred} {L : List Res}
variable {d : Option Nat} {ty : TypeId} {pos : String} {aft : Array Edge} {g : Option (Nat × Bool)}
variable {α : Type} {enc : α → List Value} {sz : Nat} {e : TypeId}

/-- an element of a slice of one's own is written -/
theorem Plan.storeOwn {t : TypeId} {x y : Operand} {b c : Nat} {o : Option Nat} {xs : List α} {v : Value} (yv : α) (m j : Nat) (ho : ops[i]? = some ⟨d, .store t x y, ty, pos, aft, g⟩)
    (hg : wantE ops ⟨d, .store t x y, ty, pos, aft, g⟩ E = true) (hD : ∀ D, dest = some D → i ∈ D) (hz : ∀ w, (sizeOf t).run J.P w = .ok sz w) (hk : ∀ x, (enc x).length = sz) (h1 : ∀ x, (enc x).all (·.oneCell') = true)
    (hx : ev E x = .pointer (some ((⟨b, 0, none⟩ : Addr).add (m * sz)))) (hy : ev E y = v) (hv : v.cells = (enc yv).toArray)
    (hj : L[j]? = some (Res.own enc sz e o c xs)) (hob : o = some b) (hm : m < xs.length)
    (k : Plan J ops dest Q rest (upd E d undef) ds (L.set j (Res.own enc sz e o c (xs.set m yv)))) : Plan J ops dest Q ((i, .ef) :: rest) E ds L :=
  Plan.ef ho hg (by intro c h; cases h) fun Rf w hw => by
    subst hob
    obtain ⟨w', hr, hs⟩ := step_set (P := J.P) (y := yv) (v := v) hk h1 (hw.res _ (List.mem_append_left _ (mem_of_get hj))) hm (hz w) hv
    have hrun : (execOp (ev E) ⟨d, .store t x y, ty, pos, aft, g⟩).run J.P w = .ok .skip w' := by
      unfold execOp
      simp only [hx, hy, Instr.storeAt, Instr.sureAddr]
      simp [Sem.run_bind, hr]
    rw [hrun]
    exact ⟨_, Mem.step j hw hj hs, fun D hD' hi => absurd (hD D hD') hi, k⟩

/-- what lies behind an element of a slice of one's own is cleared -/
theorem Plan.clearOwn {st : TypeId} {x : Operand} {b c n k' : Nat} {o : Option Nat} {xs : List α} {z : Value} (lo j : Nat)
    (ho : ops[i]? = some ⟨d, .call ⟨.builtin .clear, #[x], #[st]⟩, ty, pos, aft, g⟩) (hg : wantE ops ⟨d, .call ⟨.builtin .clear, #[x], #[st]⟩, ty, pos, aft, g⟩ E = true)
    (hD : ∀ D, dest = some D → i ∈ D) (ht : J.P.underlying st = some (.slice e)) (hz : ∀ w, (zeroValue e).run J.P w = .ok z w) (hzs : z.cells.size = sz) (hz1 : (z.cells.toList.all (·.oneCell')) = true) (hk : ∀ x, (enc x).length = sz)
    (hx : ev E x = .slice (some ((⟨b, 0, none⟩ : Addr).add (lo * sz))) n k') (hj : L[j]? = some (Res.own enc sz e o c xs)) (hob : o = some b) (hn : n = xs.length - lo) (hlo : lo < xs.length)
    (k : Plan J ops dest Q rest (upd E d (.tuple #[])) ds (L.set j (Res.own enc sz e o c (xs.take lo)))) : Plan J ops dest Q ((i, .ef) :: rest) E ds L :=
  Plan.ef ho hg (by intro c h; cases h) fun Rf w hw => by
    subst hob
    obtain ⟨w', hr, hs⟩ := step_clear (P := J.P) (ety := ty) (k' := k') hk ht (hz w) hzs hz1 (hw.res _ (List.mem_append_left _ (mem_of_get hj))) hn hlo
    have hrun : (execOp (ev E) ⟨d, .call ⟨.builtin .clear, #[x], #[st]⟩, ty, pos, aft, g⟩).run J.P w = .ok (.value (.tuple #[])) w' := by
      unfold execOp
      simp [resolve, hx, invoke, builtin, hr, Result.andThen]
    rw [hrun]
    exact ⟨_, Mem.step j hw hj hs, fun D hD' hi => absurd (hD D hD') hi, k⟩

theorem run_sliceLo {P : Program} {w : World} {st : TypeId} {a : Addr} {n c lo : Nat} {kd : IntKind} (ht : P.underlying st = some (.slice e)) (hsz : (sizeOf e).run P w = .ok sz w) (h : lo ≤ n) (hc : lo < c) :
    (Instr.sliceAt st (.slice (some a) n c) (some (.int kd (lo : Int))) none none).run P w = .ok (.slice (some (a.add (lo * sz))) (n - lo) (c - lo)) w := by
  have h1 : (lo : Int) ≤ (n : Int) := by omega
  have h2 : c ≠ lo := by omega
  simp [Instr.sliceAt, Instr.slice, run_underlying ht, Instr.sliceBounds, Instr.sliceBound, asIntOf, h1, h, hsz, h2]

theorem Plan.sliceLo {st : TypeId} {x y : Operand} {A : Option Addr} {a : Addr} {n c : Nat} {kd : IntKind} {q : Int} (lo : Nat) (ho : ops[i]? = some ⟨d, .slice st x (some y) none none, ty, pos, aft, g⟩)
    (hg : wantE ops ⟨d, .slice st x (some y) none none, ty, pos, aft, g⟩ E = true) (ht : J.P.underlying st = some (.slice e)) (hsz : ∀ w, (sizeOf e).run J.P w = .ok sz w) (hx : ev E x = .slice A n c) (hA : A = some a)
    (hy : ev E y = .int kd q) (hq : q = (lo : Int)) (h : lo ≤ n) (hc : lo < c) (k : Plan J ops dest Q rest (upd E d (.slice (some (a.add (lo * sz))) (n - lo) (c - lo))) ds L) : Plan J ops dest Q ((i, .st) :: rest) E ds L :=
  Plan.st ho hg (St.of_exec (by intro c h; cases h) fun w _ => by
    subst hq hA
    unfold execOp
    simp only [hx, Option.map_some, Option.map_none, hy]
    exact run_lift_value (run_sliceLo ht (hsz w) h hc)) k

end

end Go.Proofs.Ytjmklbkcpjmcaaa.H
