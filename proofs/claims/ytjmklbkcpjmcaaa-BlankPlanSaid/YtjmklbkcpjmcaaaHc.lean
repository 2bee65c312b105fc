/-
  The frame of these proofs, further: slices that are cut at any place, slices that are made, blocks that are handed over.
-/
import Derived.Test.YtjmklbkcpjmcaaaHb
import Derived.Laws.MakeOwn
namespace Go.Proofs.Ytjmklbkcpjmcaaa.H
open Go Go.RowKit
set_option linter.unusedVariables false
set_option linter.unusedSimpArgs false

/-- blocks that a slice of n elements does not lie in -/
def Off (X : List Nat) (A : Option Addr) (n : Nat) : Prop := ∀ a, A = some a → 0 < n → a.block ∉ X

theorem Addr.add_block (a : Addr) (n : Nat) : (a.add n).block = a.block := by
  unfold Addr.add
  split <;> rfl

theorem Rd.memX {α : Type} {enc : α → List Value} {k : Nat} {w0 w : World} {X : List Nat} {L : List Res} {A : Option Addr} {xs : List α} (h : Rd enc k w0 A xs) (hm : Mem w0 X L w) (ho : Off X A xs.length) : Rd enc k w A xs := fun i hi => by
  obtain ⟨a, e, hl⟩ := h i hi
  refine ⟨a, e, hl.keep fun b' hb' e' => hm.old b' hb' ?_⟩
  rw [e', Addr.add_block]
  exact ho a e (by omega)

theorem Off.nil {A : Option Addr} {n : Nat} : Off [] A n := fun a _ _ h => by simp at h
theorem Off.mono {X : List Nat} {A : Option Addr} {n m : Nat} (h : Off X A n) (hm : 0 < m → 0 < n) : Off X A m := fun a e hp => h a e (hm hp)

/-- a slice that came in lies in no block that was made later -/
theorem Rd.off {α : Type} {enc : α → List Value} {k : Nat} {w : World} {A : Option Addr} {xs : List α} (h : Rd enc k w A xs) (hk : ∀ x, 0 < (enc x).length) {X : List Nat} (hX : ∀ b ∈ X, w.heap.size ≤ b) : Off X A xs.length := fun a e hn hb => by
  obtain ⟨a', e', hl⟩ := h 0 hn
  rw [e] at e'
  obtain rfl : a = a' := by injection e'
  have hv : 0 < (enc xs[0]).length := hk _
  have h1 := hl 0 (enc xs[0])[0] (List.getElem?_eq_getElem hv)
  have hlt : ((a.add (0 * k)).add 0).block < w.heap.size := World.block_lt_of_cell? _ _ h1
  rw [Addr.add_block, Addr.add_block] at hlt
  have := hX _ hb
  omega

theorem Sees.rdX {J : Jd} {L : List Res} {α : Type} {enc : α → List Value} {k : Nat} {a : Addr} {xs : List α} (h : Rd enc k J.w0 (some a) xs) (hX : Off J.X (some a) xs.length) (i : Nat) (hi : i < xs.length) : Sees J L (a.add (i * k)) (enc xs[i]) := by
  obtain ⟨a', e, hl⟩ := h i hi
  obtain rfl : a = a' := by injection e
  exact Sees.old hl (by rw [Addr.add_block]; exact hX a rfl (by omega))

theorem Sees.nth {J : Jd} {L : List Res} {a : Addr} {vs : List Value} {v : Value} (h : Sees J L a vs) (j : Nat) (hv : vs[j]? = some v) : Sees J L (a.add j) [v] := fun w hm j' u hu => by
  cases j' with
  | zero =>
    simp only [List.getElem?_cons_zero, Option.some.injEq] at hu
    subst hu
    rw [H.add_add]
    exact h w hm j v hv
  | succ j' => cases hu

/-- blocks that came in and may be changed -/
theorem Mem.own2 {w : World} {r s : Res} (hr : r.holds w) (hs : s.holds w) (fr : ∀ b ∈ r.foot, b < w.heap.size) (fs : ∀ b ∈ s.foot, b < w.heap.size) (hd : ∀ b ∈ r.foot, b ∉ s.foot) : Mem w (r.foot ++ s.foot) [r, s] w :=
  ⟨rfl, rfl, Nat.le_refl _, rfl, Nat.le_refl _, fun _ _ _ => rfl, fun q hq => by
    rcases List.mem_cons.1 hq with rfl | hq
    · exact hr
    · obtain rfl := List.mem_singleton.1 hq
      exact hs, fun q hq b hb => by
    rcases List.mem_cons.1 hq with rfl | hq
    · exact ⟨fr b hb, .inr (List.mem_append_left _ hb)⟩
    · obtain rfl := List.mem_singleton.1 hq
      exact ⟨fs b hb, .inr (List.mem_append_right _ hb)⟩, List.pairwise_cons.2 ⟨fun q hq => by
    obtain rfl := List.mem_singleton.1 hq
    exact hd, List.pairwise_singleton _ _⟩⟩
theorem Mem.own1 {w : World} {r : Res} (hr : r.holds w) (fr : ∀ b ∈ r.foot, b < w.heap.size) : Mem w r.foot [r] w :=
  ⟨rfl, rfl, Nat.le_refl _, rfl, Nat.le_refl _, fun _ _ _ => rfl, fun q hq => by
    obtain rfl := List.mem_singleton.1 hq
    exact hr, fun q hq b hb => by
    obtain rfl := List.mem_singleton.1 hq
    exact ⟨fr b hb, .inr hb⟩, List.pairwise_singleton _ _⟩

theorem Res.own_lt {α : Type} {enc : α → List Value} {sz : Nat} {e : TypeId} {b c : Nat} {xs : List α} {w : World} (h : (Res.own enc sz e (some b) c xs).holds w) : b < w.heap.size := by
  obtain ⟨cur, h1, _⟩ := Res.own_cells h b rfl
  exact (Array.getElem?_eq_some_iff.1 h1).1

/-- the address of x[lo:] -/
def cutA (A : Option Addr) (c lo sz : Nat) : Option Addr := if c = lo then A else A.map (·.add (lo * sz))

theorem Rd.cut {α : Type} {enc : α → List Value} {k : Nat} {w : World} {A : Option Addr} {xs : List α} {c : Nat} (h : Rd enc k w A xs) (hc : xs.length ≤ c) (lo : Nat) : Rd enc k w (cutA A c lo k) (xs.drop lo) := fun i hi => by
  rw [List.length_drop] at hi
  obtain ⟨a, rfl, hl⟩ := h (lo + i) (by omega)
  refine ⟨a.add (lo * k), ?_, ?_⟩
  · unfold cutA
    rw [if_neg (by omega)]
    rfl
  · rw [List.getElem_drop, H.add_add]
    have : lo * k + i * k = (lo + i) * k := by rw [Nat.add_mul]
    rw [this]
    exact hl

theorem Off.cut {X : List Nat} {A : Option Addr} {n c lo k : Nat} (h : Off X A n) : Off X (cutA A c lo k) (n - lo) := fun a e hp => by
  unfold cutA at e
  split at e
  · exact h a e (by omega)
  · obtain ⟨a', rfl, rfl⟩ := Option.map_eq_some_iff.1 e
    rw [Addr.add_block]
    exact h a' rfl (by omega)

theorem run_sliceLoA {P : Program} {w : World} {st e : TypeId} {A : Option Addr} {n c lo sz : Nat} {kd : IntKind} (ht : P.underlying st = some (.slice e)) (hsz : (sizeOf e).run P w = .ok sz w) (h : lo ≤ n) :
    (Instr.sliceAt st (.slice A n c) (some (.int kd (lo : Int))) none none).run P w = .ok (.slice (cutA A c lo sz) (n - lo) (c - lo)) w := by
  have h1 : (lo : Int) ≤ (n : Int) := by omega
  simp [Instr.sliceAt, Instr.slice, run_underlying ht, Instr.sliceBounds, Instr.sliceBound, asIntOf, h1, h, hsz, cutA]

theorem run_lift_value2 {P : Program} {s : Sem Value} {w w' : World} {v : Value} (h : s.run P w = .ok v w') : (do pure (.value (← s)) : Sem Next).run P w = .ok (.value v) w' := by
  simp [h]

theorem made_flat {α : Type} {enc : α → List Value} {x0 : α} {z : Value} {sz : Nat} (hz : z.cells.toList = enc x0) (hpos : 0 < sz) (hsz : z.cells.size = sz) (n : Nat) : (madeCells z.cells (n * sz)).toList = (List.replicate n x0).flatMap enc := by
  have hlen : ∀ x ∈ List.replicate n x0, (enc x).length = sz := fun x hx => by
    rw [List.eq_of_mem_replicate hx, ← hz, Array.length_toList, hsz]
  have h0 : (enc x0).length = sz := by rw [← hz, Array.length_toList, hsz]
  refine List.ext_getElem ?_ fun i h1 h2 => ?_
  · rw [Array.length_toList, size_madeCells]
    clear hlen
    induction n with
    | zero => simp
    | succ n ih => rw [List.replicate_succ, List.flatMap_cons, List.length_append, ← ih, h0, Nat.add_mul]; omega
  · rw [Array.length_toList, size_madeCells] at h1
    have e1 : (madeCells z.cells (n * sz)).toList[i] = (enc x0)[i % sz]'(by rw [h0]; exact Nat.mod_lt _ hpos) := by
      have hm : i % sz < z.cells.size := by rw [hsz]; exact Nat.mod_lt _ hpos
      simp only [madeCells, Array.getElem_toList, Array.getElem_map, Array.getElem_range, hsz]
      rw [getElem!_pos z.cells (i % sz) hm, ← Array.getElem_toList]
      simp only [hz]
    rw [e1]
    clear e1 hlen
    revert h2
    induction n generalizing i with
    | zero => omega
    | succ n ih =>
      intro h2
      simp only [List.replicate_succ, List.flatMap_cons]
      by_cases hi : i < sz
      · rw [List.getElem_append_left (by rw [h0]; exact hi)]
        simp only [Nat.mod_eq_of_lt hi]
      · have hn : (n + 1) * sz = n * sz + sz := by rw [Nat.add_mul]; omega
        have hi2 : i - sz < n * sz := by omega
        rw [List.getElem_append_right (by rw [h0]; omega)]
        simp only [h0]
        have e2 : i % sz = (i - sz) % sz := by rw [← Nat.mod_eq_sub_mod (by omega)]
        simp only [e2]
        exact ih (i - sz) (by rw [Array.length_toList, size_madeCells]; exact hi2) hi2 (by simp only [List.replicate_succ, List.flatMap_cons, List.length_append, h0] at h2; omega)

section
variable {J : Jd} {ops : Array Oper} {dest : Option (List Nat)} {Q : Post} {i : Nat} {rest : List (Nat × Kind)} {E : Env} {ds : List Deferred} {L : List Res}
variable {d : Option Nat} {ty : TypeId} {pos : String} {aft : Array Edge} {g : Option (Nat × Bool)}
theorem Plan.sliceLoA {st e : TypeId} {x y : Operand} {A : Option Addr} {n c sz : Nat} {kd : IntKind} {q : Int} (lo : Nat) (ho : ops[i]? = some ⟨d, .slice st x (some y) none none, ty, pos, aft, g⟩)
    (hg : wantE ops ⟨d, .slice st x (some y) none none, ty, pos, aft, g⟩ E = true) (ht : J.P.underlying st = some (.slice e)) (hsz : ∀ w, (sizeOf e).run J.P w = .ok sz w) (hx : ev E x = .slice A n c)
    (hy : ev E y = .int kd q) (hq : q = (lo : Int)) (h : lo ≤ n) (k : Plan J ops dest Q rest (upd E d (.slice (cutA A c lo sz) (n - lo) (c - lo))) ds L) : Plan J ops dest Q ((i, .st) :: rest) E ds L :=
  Plan.st ho hg (St.of_exec (by intro c h; cases h) fun w _ => by
    subst hq
    unfold execOp
    simp only [hx, Option.map_some, Option.map_none, hy]
    exact run_lift_value (run_sliceLoA ht (hsz w) h)) k

theorem run_append0 {P : Program} {st ety e : TypeId} {A B : Option Addr} {n c k : Nat} {w : World} (ht : P.underlying st = some (.slice e)) (hi : ∃ ti, P.info? e = some ti) (h : n ≤ c) :
    (Builtin.append_ #[st, st] ety #[.slice A n c, .slice B 0 k]).run P w = .ok (.slice A n c) w := by
  obtain ⟨ti, hi⟩ := hi
  cases A <;> cases B <;> simp [Builtin.append_, run_underlying ht, sizeOf, typeInfo, hi, Builtin.lenOf, Builtin.firstCells, h, storeCells, loadCells, loadCellsFrom]

/-- append(x, y...), y a slice that came in -/
theorem Plan.appendRd {α : Type} {enc : α → List Value} {sz : Nat} {e : TypeId} {st : TypeId} {x y : Operand} {z : Value} {bytes : Nat} {o : Option Nat} {n m c k' : Nat} {xs ys : List α} {A : Option Addr} (j : Nat)
    (ho : ops[i]? = some ⟨d, .call ⟨.builtin .append, #[x, y], #[st, st]⟩, ty, pos, aft, g⟩) (hg : wantE ops ⟨d, .call ⟨.builtin .append, #[x, y], #[st, st]⟩, ty, pos, aft, g⟩ E = true)
    (hD : ∀ D, dest = some D → i ∈ D) (ht : J.P.underlying st = some (.slice e)) (hinf : ∃ ti, J.P.info? e = some ti ∧ (ti.zero, ti.size, ti.bytes) = (some z, sz, bytes)) (hzs : z.cells.size = sz) (hpos : 0 < sz)
    (hk : ∀ x, (enc x).length = sz) (h1 : ∀ x, (enc x).all (·.oneCell') = true)
    (hj : L[j]? = some (Res.own enc sz e o c xs)) (hx : ev E x = slv o n c) (hn : n = xs.length) (hy : ev E y = .slice A m k') (hm : m = ys.length) (hys : ∀ w, Mem J.w0 J.X L w → Rd enc sz w A ys)
    (hb : (xs.length + ys.length) * bytes ≤ 140737488355328) (hl : xs.length + ys.length ≤ 9223372036854775807)
    (k : ∀ o' c', Plan J ops dest Q rest (upd E d (slv o' (xs.length + ys.length) c')) ds (L.set j (Res.own enc sz e o' c' (xs ++ ys)))) : Plan J ops dest Q ((i, .ef) :: rest) E ds L := by
  cases ys with
  | nil =>
    refine Plan.ef ho hg (by intro c h; cases h) fun Rf w hw => ?_
    subst hn hm
    obtain ⟨ti, hi, hty⟩ := hinf
    have hcap := (Res.own_cap (hw.res _ (List.mem_append_left _ (mem_of_get hj)))).1
    have hrun : (execOp (ev E) ⟨d, .call ⟨.builtin .append, #[x, y], #[st, st]⟩, ty, pos, aft, g⟩).run J.P w = .ok (.value (slv o xs.length c)) w := by
      unfold execOp
      simp [resolve, hx, hy, invoke, builtin, run_append0 ht ⟨ti, hi⟩ hcap, Result.andThen]
    rw [hrun]
    have hk0 := k o c
    have e1 : L.set j (Res.own enc sz e o c (xs ++ [])) = L := by
      rw [List.append_nil]
      obtain ⟨hlt, hget⟩ := List.getElem?_eq_some_iff.1 hj
      rw [← hget, List.set_getElem_self]
    rw [e1] at hk0
    exact ⟨L, hw, fun D _ _ Rf => Sub.refl _ _, hk0⟩
  | cons y0 ys =>
    cases A with
    | none =>
      refine Plan.ef ho hg (by intro c h; cases h) fun Rf w hw => ?_
      obtain ⟨a, e, _⟩ := hys w (hw.sub (List.sublist_append_left _ _)) 0 (by simp)
      cases e
    | some a =>
      exact Plan.append (enc := enc) (ys := y0 :: ys) (a := a) j ho hg hD ht hinf hzs hpos hk h1 hj hx hn hy hm (fun w hw => (hys w hw).all hk) hb hl k

/-- make([]T, n) -/
theorem Plan.makeOwn {α : Type} {st e : TypeId} {x : Operand} {z : Value} {sz bytes : Nat} (enc : α → List Value) (x0 : α) (n : Nat)
    (ho : ops[i]? = some ⟨d, .makeSlice st x x, ty, pos, aft, g⟩) (hg : wantE ops ⟨d, .makeSlice st x x, ty, pos, aft, g⟩ E = true)
    (ht : J.P.underlying st = some (.slice e)) (hinf : ∃ ti, J.P.info? e = some ti ∧ (ti.zero, ti.size, ti.bytes) = (some z, sz, bytes)) (hz : z.cells.toList = enc x0) (hpos : 0 < sz) (hsz : z.cells.size = sz)
    {kd : IntKind} {q : Int} (hx : ev E x = .int kd q) (hq : q = (n : Int)) (hb : bytes * n ≤ 281474976710656) (hn : n ≤ 9223372036854775807)
    (k : ∀ b, Plan J ops dest Q rest (upd E d (slv (some b) n n)) ds (Res.own enc sz e (some b) n (List.replicate n x0) :: L)) : Plan J ops dest Q ((i, .ef) :: rest) E ds L :=
  Plan.ef ho hg (by intro c h; cases h) fun Rf w hm => by
    subst hq
    obtain ⟨ti, hi, hty⟩ := hinf
    have hz1 : ti.zero = some z := congrArg (·.1) hty
    have hs : ti.size = sz := congrArg (·.2.1) hty
    have hby : ti.bytes = bytes := congrArg (·.2.2) hty
    have hb' : (ti.bytes : Int) * (n : Int) ≤ 281474976710656 := by
      have h : ((ti.bytes * n : Nat) : Int) ≤ 281474976710656 := by rw [hby]; omega
      rwa [Int.natCast_mul] at h
    have hrun := run_make (P := J.P) w st e ti z ht hi hz1 kd kd (n : Int) (n : Int) (by omega) (Int.le_refl _) hb' (by omega)
    simp only [Int.toNat_natCast, hs] at hrun
    have hr : (execOp (ev E) ⟨d, .makeSlice st x x, ty, pos, aft, g⟩).run J.P w = .ok (.value (.slice (some ⟨w.heap.size, 0, none⟩) n n)) (w.alloc (.cells (madeCells z.cells (n * sz)) e)) := by
      unfold execOp
      simp only [hx]
      exact run_lift_value2 hrun
    rw [hr]
    have hm1 : Mem J.w0 J.X ((Res.blk w.heap.size (madeCells z.cells (n * sz)) e :: L) ++ Rf) (w.alloc (.cells (madeCells z.cells (n * sz)) e (0, 0))) := hm.alloc _ e
    have hm2 := Mem.swap 0 hm1 rfl (Res.own enc sz e (some w.heap.size) n (List.replicate n x0)) (List.Sublist.refl _) (fun hh => by
      refine own_of_blk ?_ ?_ (by simp only [maxLen, List.length_replicate]; exact hn) (by simp) hh
      · exact made_flat hz hpos hsz n
      · rw [size_madeCells]; simp)
    exact ⟨Res.own enc sz e (some w.heap.size) n (List.replicate n x0) :: L, hm2, fun D _ _ Rf w' hm' => hm'.sub (List.sublist_cons_self _ _), k _⟩
end

end Go.Proofs.Ytjmklbkcpjmcaaa.H
