/-
  The frame of these proofs, sixth part: slices of one's own.
  The frame of these proofs, seventh part: slices of one's own that are written in place.
  The frame of these proofs, eighth part: range over a function.
  The frame of these proofs, ninth part: min and max.
  The frame of these proofs, tenth part: equality of bools.
  The frame of these proofs, tenth part: maps that only grow.
  The frame of these proofs, eleventh part: scopes, checked pointers.
  The frame of these proofs, twelfth part: calls that are handed one resource by its place; capacities.
  The frame of these proofs, thirteenth part: append of new zeros to nothing.
  The frame of these proofs, fourteenth part: small unsigned numbers.
  The frame of these proofs, further: slices that are cut at any place, slices that are made, blocks that are handed over.
-/
import Derived.Test.YtjmklbkcpjmcaaaH0
import Derived.Laws.StructEq
import Derived.RangeFuncLeaves
import Derived.RangeFuncRecord
import Derived.Laws.Small
import Derived.Maps.RangeRun
import Derived.Scope
import Derived.Lib.AppendZeros
import Derived.Laws.MakeOwn
namespace Go.Proofs.Ytjmklbkcpjmcaaa.H
open Go Go.RowKit
set_option linter.unusedVariables false
set_option linter.unusedSimpArgs false

/-- the address of a slice of one's own: block o from its head, or nil -/
def at0 (o : Option Nat) : Option Addr := o.map fun b => ⟨b, 0, none⟩
abbrev slv (o : Option Nat) (n c : Nat) : Value := .slice (at0 o) n c

theorem slv_eq {o : Option Nat} {n m c : Nat} (h : n = m) : slv o n c = slv o m c := by rw [h]

theorem heap_own {w w' : World} {base : Nat} {e : TypeId} {sz n c : Nat} {o : Option Nat} {cells : List Value} (h : w.ownsRow base e sz (slv o n c) n cells) (hb : ∀ b, o = some b → w'.heap[b]? = w.heap[b]?) :
    w'.ownsRow base e sz (slv o n c) n cells := by
  refine ⟨h.1, ?_⟩
  rcases h.2 with h2 | ⟨g, cap, cur, h1, h2, h3, h4⟩
  · exact .inl h2
  · cases o with
    | none => simp [at0] at h1
    | some b =>
      have hg : g = b := by simp [at0] at h1; omega
      subst hg
      exact .inr ⟨g, cap, cur, h1, h2, (hb g rfl).trans h3, h4⟩

/-- a slice of one's own: its elements xs, each of sz cells -/
def Res.own {α : Type} (enc : α → List Value) (sz : Nat) (e : TypeId) (o : Option Nat) (c : Nat) (xs : List α) : Res where
  foot := o.toList
  holds := fun w => w.ownsRow 0 e sz (slv o xs.length c) xs.length (xs.flatMap enc)
  loc := fun w w' h hw => heap_own hw fun b hb => h b (by rw [hb]; exact List.mem_singleton.2 rfl)

section facts
variable {α : Type} {enc : α → List Value} {sz : Nat} {e : TypeId} {o : Option Nat} {c : Nat} {xs : List α} {w : World}

theorem Res.own_nil (w : World) : (Res.own enc sz e none 0 ([] : List α)).holds w := World.ownsRow_nil w 0 e sz

theorem Res.own_cells (h : (Res.own enc sz e o c xs).holds w) (b : Nat) (hb : o = some b) : ∃ cur : Array Value, w.heap[b]? = some (.cells cur e (0, 0)) ∧ cur.size = c * sz ∧ xs.length ≤ c ∧ c ≤ maxLen ∧
    cur.toList.take (xs.length * sz) = xs.flatMap enc := by
  subst hb
  rcases h.2 with h2 | ⟨g, cap, cur, h1, h2, h3, h4, h5, h6, h7⟩
  · simp [at0] at h2
  · simp only [at0, Option.map_some, Value.slice.injEq, Option.some.injEq, Addr.mk.injEq] at h1
    obtain ⟨⟨rfl, _⟩, _, rfl⟩ := h1
    exact ⟨cur, h3, h6, h4, h5, h7⟩

theorem Res.own_some (h : (Res.own enc sz e o c xs).holds w) (hx : 0 < xs.length) : ∃ b, o = some b := by
  cases o with
  | some b => exact ⟨b, rfl⟩
  | none =>
    rcases h.2 with ⟨_, h2⟩ | ⟨g, cap, cur, h1, _⟩
    · omega
    · simp [at0] at h1

theorem Res.own_cap (h : (Res.own enc sz e o c xs).holds w) : xs.length ≤ c ∧ (o = none → xs = [] ∧ c = 0) := by
  cases o with
  | some b => obtain ⟨_, _, _, h3, _⟩ := Res.own_cells h b rfl; exact ⟨h3, fun h => (by cases h)⟩
  | none =>
    rcases h.2 with ⟨h1, h2⟩ | ⟨g, cap, cur, h1, _⟩
    · have : xs = [] := List.eq_nil_of_length_eq_zero h2
      subst this
      have hc : c = 0 := by simpa [at0] using h1
      exact ⟨by omega, fun _ => ⟨rfl, hc⟩⟩
    · simp [at0] at h1

theorem flatMap_get (hk : ∀ x, (enc x).length = sz) : ∀ (xs : List α) (i : Nat) (hi : i < xs.length) (j : Nat), j < sz → (xs.flatMap enc)[i * sz + j]? = (enc xs[i])[j]?
  | [], i, hi, _, _ => absurd hi (Nat.not_lt_zero _)
  | x :: xs, 0, _, j, hj => by
    simp only [List.flatMap_cons, Nat.zero_mul, Nat.zero_add, List.getElem_cons_zero]
    rw [List.getElem?_append_left (by rw [hk]; exact hj)]
  | x :: xs, i + 1, hi, j, hj => by
    simp only [List.flatMap_cons, List.getElem_cons_succ]
    rw [List.getElem?_append_right (by rw [hk, Nat.add_mul]; omega), hk]
    have : (i + 1) * sz + j - sz = i * sz + j := by rw [Nat.add_mul]; omega
    rw [this]
    exact flatMap_get hk xs i (by simpa using hi) j hj

theorem length_flatMap (hk : ∀ x, (enc x).length = sz) : ∀ xs : List α, (xs.flatMap enc).length = xs.length * sz
  | [] => by simp
  | x :: xs => by simp only [List.flatMap_cons, List.length_append, hk, length_flatMap hk xs, List.length_cons, Nat.add_mul]; omega

/-- an element of a slice of one's own -/
theorem Res.own_elem (hk : ∀ x, (enc x).length = sz) (h : (Res.own enc sz e o c xs).holds w) (b : Nat) (hb : o = some b) (i : Nat) (hi : i < xs.length) : Lies w ((⟨b, 0, none⟩ : Addr).add (i * sz)) (enc xs[i]) := by
  obtain ⟨cur, h1, h2, h3, h4, h5⟩ := Res.own_cells h b hb
  intro j u hu
  have hj : j < sz := by
    rw [← hk xs[i]]
    exact (List.getElem?_eq_some_iff.1 hu).1
  have hlt : i * sz + j < xs.length * sz := by
    have : (i + 1) * sz ≤ xs.length * sz := Nat.mul_le_mul_right _ hi
    rw [Nat.add_mul] at this; omega
  rw [Addr.add_lit, Addr.add_lit, cell_of_heap h1]
  have := flatMap_get hk xs i hi j hj
  rw [← h5, List.getElem?_take_of_lt hlt, hu] at this
  simpa using this

theorem Res.own_rd (hk : ∀ x, (enc x).length = sz) (h : (Res.own enc sz e o c xs).holds w) : Rd enc sz w (at0 o) xs := fun i hi => by
  obtain ⟨b, rfl⟩ := Res.own_some h (by omega)
  exact ⟨⟨b, 0, none⟩, rfl, Res.own_elem hk h b rfl i hi⟩
end facts

theorem Mem.addNil {α : Type} {enc : α → List Value} {sz : Nat} {e : TypeId} {w0 w : World} {X : List Nat} {L : List Res} (h : Mem w0 X L w) : Mem w0 X (Res.own enc sz e none 0 ([] : List α) :: L) w :=
  ⟨h.os, h.tape, h.dr, h.output, h.size, h.old, fun r hr => by
    rcases List.mem_cons.1 hr with rfl | hr
    · exact Res.own_nil w
    · exact h.res r hr, fun r hr b hb => by
    rcases List.mem_cons.1 hr with rfl | hr
    · cases hb
    · exact h.foot r hr b hb, List.pairwise_cons.2 ⟨fun s _ b hb => (by cases hb), h.sep⟩⟩

/-- what is known may be said otherwise -/
theorem HW.conv {J : Jd} {c : Code} {Q : Post} {E : Env} {ds : List Deferred} {L : List Res} (L' : List Res) (hL : ∀ w, Mem J.w0 J.X L w → Mem J.w0 J.X L' w) (h : HW J c Q E ds L') : HW J c Q E ds L :=
  fun a w hr hm => h a w hr (hL w hm)

theorem HW.addNil {J : Jd} {c : Code} {Q : Post} {E : Env} {ds : List Deferred} {L : List Res} {α : Type} (enc : α → List Value) (sz : Nat) (e : TypeId)
    (h : HW J c Q E ds (Res.own enc sz e none 0 ([] : List α) :: L)) : HW J c Q E ds L := HW.conv _ (fun _ hm => hm.addNil) h

/-- one resource in place of another one with the same blocks or fewer -/
theorem Mem.swap {w0 w : World} {X : List Nat} {L Rf : List Res} {r : Res} (j : Nat) (hm : Mem w0 X (L ++ Rf) w) (hj : L[j]? = some r) (r' : Res) (hf : r'.foot.Sublist r.foot) (hh : r.holds w → r'.holds w) :
    Mem w0 X (L.set j r' ++ Rf) w := by
  have hlt : j < L.length := (List.getElem?_eq_some_iff.1 hj).1
  have hget : L[j] = r := (List.getElem?_eq_some_iff.1 hj).2
  have hL : L = L.take j ++ r :: L.drop (j + 1) := by rw [← hget]; simp
  have hS : L.set j r' = L.take j ++ r' :: L.drop (j + 1) := by rw [List.set_eq_take_append_cons_drop, if_pos hlt]
  have hp1 : (L ++ Rf).Perm (r :: (L.take j ++ L.drop (j + 1) ++ Rf)) := by
    rw (occs := .pos [1]) [hL]
    exact List.perm_middle.append_right Rf
  have hp2 : (r' :: (L.take j ++ L.drop (j + 1) ++ Rf)).Perm (L.set j r' ++ Rf) := by
    rw [hS]
    exact (List.perm_middle.append_right Rf).symm
  refine Mem.perm ?_ hp2
  have hm := hm.perm hp1
  generalize L.take j ++ L.drop (j + 1) ++ Rf = M at hm
  have hsep := List.pairwise_cons.1 hm.sep
  refine ⟨hm.os, hm.tape, hm.dr, hm.output, hm.size, hm.old, ?_, ?_, ?_⟩
  · intro r1 hr
    rcases List.mem_cons.1 hr with rfl | hr1
    · exact hh (hm.res _ List.mem_cons_self)
    · exact hm.res r1 (List.mem_cons_of_mem _ hr1)
  · intro r1 hr k hk
    rcases List.mem_cons.1 hr with rfl | hr1
    · exact hm.foot r List.mem_cons_self k (hf.subset hk)
    · exact hm.foot r1 (List.mem_cons_of_mem _ hr1) k hk
  · exact List.pairwise_cons.2 ⟨fun s hs k hk => hsep.1 s hs k (hf.subset hk), hsep.2⟩

/-- a resource is taken away and comes back changed, with the world -/
theorem Mem.step {w0 w w' : World} {X : List Nat} {L Rf : List Res} {r r' : Res} (j : Nat) (hm : Mem w0 X (L ++ Rf) w) (hj : L[j]? = some r) (hs : Mem w r.foot [r'] w') : Mem w0 X (L.set j r' ++ Rf) w' := by
  have hlt : j < L.length := (List.getElem?_eq_some_iff.1 hj).1
  have hget : L[j] = r := (List.getElem?_eq_some_iff.1 hj).2
  have hL : L = L.take j ++ r :: L.drop (j + 1) := by rw [← hget]; simp
  have hS : L.set j r' = L.take j ++ r' :: L.drop (j + 1) := by rw [List.set_eq_take_append_cons_drop, if_pos hlt]
  have hp1 : (L ++ Rf).Perm ([r] ++ (L.take j ++ L.drop (j + 1) ++ Rf)) := by
    rw (occs := .pos [1]) [hL]
    exact List.perm_middle.append_right Rf
  have hp2 : ([r'] ++ (L.take j ++ L.drop (j + 1) ++ Rf)).Perm (L.set j r' ++ Rf) := by
    rw [hS]
    exact (List.perm_middle.append_right Rf).symm
  exact ((hm.perm hp1).call hs (fun b hb => ⟨r, List.mem_singleton.2 rfl, hb⟩)).perm hp2

section
variable {J : Jd} {ops : Array Oper} {dest : Option (List Nat)} {Q : Post} {i : Nat} {rest : List (Nat × Kind)} {E : Env} {ds : List Deferred} {L : List Res}
variable {d : Option Nat} {ty : TypeId} {pos : String} {aft : Array Edge} {g : Option (Nat × Bool)}
variable {α : Type} {enc : α → List Value} {sz : Nat} {e : TypeId}

theorem Sees.own {o : Option Nat} {c : Nat} {xs : List α} (j : Nat) (hk : ∀ x, (enc x).length = sz) (hj : L[j]? = some (Res.own enc sz e o c xs)) (b : Nat) (hb : o = some b) (m : Nat) (hm : m < xs.length) :
    Sees J L ((⟨b, 0, none⟩ : Addr).add (m * sz)) (enc xs[m]) := fun w hw => Res.own_elem hk (hw.res _ (mem_of_get hj)) b hb m hm

theorem Sees.ownAll {o : Option Nat} {c : Nat} {xs : List α} (j : Nat) (hj : L[j]? = some (Res.own enc sz e o c xs)) (b : Nat) (hb : o = some b) : Sees J L ⟨b, 0, none⟩ (xs.flatMap enc) := fun w hw j' u hu => by
  obtain ⟨cur, h1, h2, h3, h4, h5⟩ := Res.own_cells (hw.res _ (mem_of_get hj)) b hb
  rw [Addr.add_lit, cell_of_heap h1, Nat.zero_add]
  rw [← h5] at hu
  rw [List.getElem?_take] at hu
  split at hu
  · simpa using hu
  · cases hu

/-! append -/
theorem run_append {P : Program} {w : World} {st ety : TypeId} {ti : TypeInfo} {z : Value} {bytes : Nat} (ht : P.underlying st = some (.slice e)) (hi : P.info? e = some ti) (hz : ti.zero = some z)
    (hsz : ti.size = sz) (hby : ti.bytes = bytes) (hzs : z.cells.size = sz) (hpos : 0 < sz) (hk : ∀ x, (enc x).length = sz) (h1 : ∀ x, (enc x).all (·.oneCell') = true)
    {o : Option Nat} {c : Nat} {xs ys : List α} (hown : (Res.own enc sz e o c xs).holds w) {a : Addr} {m : Nat} (hys : Lies w a (ys.flatMap enc))
    (hb : (xs.length + ys.length) * bytes ≤ 140737488355328) (hl : xs.length + ys.length ≤ maxLen) {X : List Nat} :
    ∃ o' c' w', (Builtin.append_ #[st, st] ety #[slv o xs.length c, .slice (some a) ys.length m]).run P w = .ok (slv o' (xs.length + ys.length) c') w' ∧
      Mem w (Res.own enc sz e o c xs).foot [Res.own enc sz e o' c' (xs ++ ys)] w' := by
  have hone : ∀ u ∈ ys.flatMap enc, u.oneCell' = true := by
    intro u hu
    obtain ⟨y, _, hu⟩ := List.mem_flatMap.1 hu
    exact List.all_eq_true.1 (h1 y) u hu
  obtain ⟨v', w', hr, how, hg, hnil, hat⟩ := run_append_own_at (P := P) w 0 st ety e ti z sz bytes ht hi hz hsz hby hzs hpos (slv o xs.length c) xs.length (xs.flatMap enc) hown a ys.length m (ys.flatMap enc)
    (length_flatMap hk ys) hys hone hl hb (Nat.zero_le _)
  have hshape : ∃ o' c', v' = slv o' (xs.length + ys.length) c' := by
    rcases how.2 with ⟨rfl, h0⟩ | ⟨g', cap, cur, rfl, _⟩
    · exact ⟨none, 0, by rw [h0]; rfl⟩
    · exact ⟨some g', cap, rfl⟩
  obtain ⟨o', c', rfl⟩ := hshape
  have hob : ∀ (o : Option Nat) (n c : Nat), (slv o n c).ownBlock = o := fun o n c => by cases o <;> rfl
  rw [hob, hob] at hat
  rw [hob] at hg
  refine ⟨o', c', w', hr, hg.os, hg.tape, drawn_run _ _ _ _ _ hr, hg.output, hg.size, ?_, ?_, ?_, List.pairwise_singleton _ _⟩
  · intro b hb hX
    refine hg.block b hb fun h => hX ?_
    show b ∈ o.toList
    rw [← h]; exact List.mem_singleton.2 rfl
  · intro r hr
    obtain rfl := List.mem_singleton.1 hr
    show w'.ownsRow 0 e sz (slv o' (xs ++ ys).length c') (xs ++ ys).length ((xs ++ ys).flatMap enc)
    rw [List.length_append, List.flatMap_append]
    exact how
  · intro r hr b hb
    obtain rfl := List.mem_singleton.1 hr
    have hb : b ∈ o'.toList := hb
    have hbo : o' = some b := by cases o' with
      | none => cases hb
      | some k => rw [List.mem_singleton.1 hb]
    have hlt := how.lt b (by rw [hob]; exact hbo)
    refine ⟨hlt.2, ?_⟩
    rcases hat with h | h
    · right; show b ∈ o.toList; rw [← h, hbo]; exact List.mem_singleton.2 rfl
    · left; rw [hbo] at h; injection h with h; omega

/-- append onto a slice of one's own -/
theorem Plan.append {st : TypeId} {x y : Operand} {z : Value} {bytes : Nat} {o : Option Nat} {n m c k' : Nat} {xs ys : List α} {a : Addr} (j : Nat)
    (ho : ops[i]? = some ⟨d, .call ⟨.builtin .append, #[x, y], #[st, st]⟩, ty, pos, aft, g⟩) (hg : wantE ops ⟨d, .call ⟨.builtin .append, #[x, y], #[st, st]⟩, ty, pos, aft, g⟩ E = true)
    (hD : ∀ D, dest = some D → i ∈ D) (ht : J.P.underlying st = some (.slice e)) (hinf : ∃ ti, J.P.info? e = some ti ∧ (ti.zero, ti.size, ti.bytes) = (some z, sz, bytes)) (hzs : z.cells.size = sz) (hpos : 0 < sz)
    (hk : ∀ x, (enc x).length = sz) (h1 : ∀ x, (enc x).all (·.oneCell') = true)
    (hj : L[j]? = some (Res.own enc sz e o c xs)) (hx : ev E x = slv o n c) (hn : n = xs.length) (hy : ev E y = .slice (some a) m k') (hm : m = ys.length) (hys : Sees J L a (ys.flatMap enc))
    (hb : (xs.length + ys.length) * bytes ≤ 140737488355328) (hl : xs.length + ys.length ≤ 9223372036854775807)
    (k : ∀ o' c', Plan J ops dest Q rest (upd E d (slv o' (xs.length + ys.length) c')) ds (L.set j (Res.own enc sz e o' c' (xs ++ ys)))) : Plan J ops dest Q ((i, .ef) :: rest) E ds L :=
  Plan.ef ho hg (by intro c h; cases h) fun Rf w hw => by
    subst hn hm
    obtain ⟨ti, hi, hty⟩ := hinf
    obtain ⟨o', c', w', hr, hs⟩ := run_append (P := J.P) (w := w) (X := J.X) ht hi (congrArg (·.1) hty) (congrArg (·.2.1) hty) (congrArg (·.2.2) hty) hzs hpos hk h1 (hw.res _ (List.mem_append_left _ (mem_of_get hj)))
      (hys w (hw.sub (List.sublist_append_left _ _))) hb (by simp only [maxLen]; exact hl) (ety := ty) (m := k')
    have hrun : (execOp (ev E) ⟨d, .call ⟨.builtin .append, #[x, y], #[st, st]⟩, ty, pos, aft, g⟩).run J.P w = .ok (.value (slv o' (xs.length + ys.length) c')) w' := by
      unfold execOp
      simp [resolve, hx, hy, invoke, builtin, hr, Result.andThen]
    rw [hrun]
    exact ⟨_, Mem.step j hw hj hs, fun D hD' hi => absurd (hD D hD') hi, k o' c'⟩

/-! slice literals -/
theorem Plan.buildSlice {st : TypeId} {len : Nat} {parts : Array (Nat × Operand)} {ps : List (Nat × Value)} {cs : Array Value} (ho : ops[i]? = some ⟨d, .buildSlice st len parts, ty, pos, aft, g⟩)
    (hg : wantE ops ⟨d, .buildSlice st len parts, ty, pos, aft, g⟩ E = true) (hp : parts.toList.map (fun x => (x.1, ev E x.2)) = ps)
    (hb : ∀ w, (Instr.buildSlice st len ps.toArray).run J.P w = .ok (.slice (some ⟨w.heap.size, 0, none⟩) len len) (w.alloc (.cells cs e (0, 0))))
    (k : ∀ b, Plan J ops dest Q rest (upd E d (.slice (some ⟨b, 0, none⟩) len len)) ds (Res.blk b cs e :: L)) : Plan J ops dest Q ((i, .ef) :: rest) E ds L :=
  Plan.ef ho hg (by intro c h; cases h) fun Rf w hm => by
    have hr : (execOp (ev E) ⟨d, .buildSlice st len parts, ty, pos, aft, g⟩).run J.P w = .ok (.value (.slice (some ⟨w.heap.size, 0, none⟩) len len)) (w.alloc (.cells cs e (0, 0))) := by
      unfold execOp
      subst hp
      have := hb w
      rw [← map_list] at this
      simp only [Sem.run_bind]
      erw [this]
      rfl
    rw [hr]
    exact ⟨Res.blk w.heap.size cs e :: L, hm.alloc cs e, fun D _ _ Rf w' hm' => hm'.sub (List.sublist_cons_self _ _), k _⟩

/-- a block that is a whole slice -/
theorem own_of_blk {b c : Nat} {cs : Array Value} {xs : List α} {w : World} (hc : cs.toList = xs.flatMap enc) (hs : cs.size = xs.length * sz) (hl : xs.length ≤ maxLen) (hcap : c = xs.length)
    (h : (Res.blk b cs e).holds w) : (Res.own enc sz e (some b) c xs).holds w := by
  subst hcap
  refine ⟨by rw [← hc, Array.length_toList, hs], .inr ⟨b, xs.length, cs, rfl, Nat.zero_le _, h, Nat.le_refl _, hl, hs, ?_⟩⟩
  rw [← hc, ← hs]
  exact List.take_of_length_le (by simp)

/-- a slice literal, as a slice of one's own -/
theorem Plan.buildOwn {st : TypeId} {len : Nat} {parts : Array (Nat × Operand)} {ps : List (Nat × Value)} {cs : Array Value} {xs : List α} (ho : ops[i]? = some ⟨d, .buildSlice st len parts, ty, pos, aft, g⟩)
    (hg : wantE ops ⟨d, .buildSlice st len parts, ty, pos, aft, g⟩ E = true) (hp : parts.toList.map (fun x => (x.1, ev E x.2)) = ps)
    (hb : ∀ w, (Instr.buildSlice st len ps.toArray).run J.P w = .ok (.slice (some ⟨w.heap.size, 0, none⟩) len len) (w.alloc (.cells cs e (0, 0))))
    (hc : cs.toList = xs.flatMap enc) (hs : cs.size = len * sz) (hl : xs.length ≤ 9223372036854775807) (hcap : len = xs.length)
    (k : ∀ b, Plan J ops dest Q rest (upd E d (slv (some b) len len)) ds (Res.own enc sz e (some b) len xs :: L)) : Plan J ops dest Q ((i, .ef) :: rest) E ds L :=
  Plan.ef ho hg (by intro c h; cases h) fun Rf w hm => by
    have hr : (execOp (ev E) ⟨d, .buildSlice st len parts, ty, pos, aft, g⟩).run J.P w = .ok (.value (.slice (some ⟨w.heap.size, 0, none⟩) len len)) (w.alloc (.cells cs e (0, 0))) := by
      unfold execOp
      subst hp
      have := hb w
      rw [← map_list] at this
      simp only [Sem.run_bind]
      erw [this]
      rfl
    rw [hr]
    subst hcap
    have hm1 : Mem J.w0 J.X ((Res.blk w.heap.size cs e :: L) ++ Rf) (w.alloc (.cells cs e (0, 0))) := hm.alloc cs e
    have hm2 := Mem.swap 0 hm1 rfl (Res.own enc sz e (some w.heap.size) xs.length xs) (List.Sublist.refl _) (own_of_blk hc hs hl rfl)
    exact ⟨Res.own enc sz e (some w.heap.size) xs.length xs :: L, hm2, fun D _ _ Rf w' hm' => hm'.sub (List.sublist_cons_self _ _), k _⟩

theorem add_add (a : Addr) (m n : Nat) : (a.add m).add n = a.add (m + n) := by
  unfold Addr.add
  by_cases hm : m = 0
  · subst hm; simp
  · by_cases hn : n = 0
    · subst hn; simp
    · simp [hm, hn, Nat.add_assoc]

/-- all cells of a slice that came in -/
theorem Rd.all {k : Nat} {w : World} {a : Addr} {xs : List α} (hk : ∀ x, (enc x).length = k) (h : Rd enc k w (some a) xs) : Lies w a (xs.flatMap enc) := by
  intro j u hu
  rcases Nat.eq_zero_or_pos k with rfl | hpos
  · have : xs.flatMap enc = [] := List.eq_nil_of_length_eq_zero (by rw [length_flatMap hk]; simp)
    rw [this] at hu; cases hu
  · have hj : j < xs.length * k := by
      rw [← length_flatMap hk xs]
      exact (List.getElem?_eq_some_iff.1 hu).1
    have hi : j / k < xs.length := Nat.div_lt_of_lt_mul (by rw [Nat.mul_comm]; exact hj)
    have hr : j % k < k := Nat.mod_lt _ hpos
    have hjk : j / k * k + j % k = j := by rw [Nat.mul_comm]; exact Nat.div_add_mod j k
    obtain ⟨a', e1, hl⟩ := h (j / k) hi
    obtain rfl : a = a' := by injection e1
    have h1 := flatMap_get hk xs (j / k) hi (j % k) hr
    rw [hjk, hu] at h1
    have h2 := hl (j % k) u h1.symm
    rw [add_add, hjk] at h2
    exact h2

theorem Sees.rdAll {k : Nat} {a : Addr} {xs : List α} (hk : ∀ x, (enc x).length = k) (h : Rd enc k J.w0 (some a) xs) (hX : J.X = []) : Sees J L a (xs.flatMap enc) := fun w hm => by
  rw [hX] at hm
  exact Rd.all hk (h.mem hm)

/-! nil -/
theorem run_eqNil {P : Program} {w : World} {st : TypeId} {A : Option Addr} {n c : Nat} (ht : P.underlying st = some (.slice e)) : (Op.equal st (.slice A n c) (.slice none 0 0)).run P w = .ok A.isNone w := by
  obtain ⟨d, hd⟩ : ∃ d, Op.maxDepth = d + 1 := ⟨9999, rfl⟩
  unfold Op.equal
  rw [hd]
  cases A with
  | none => simp [Op.equalIn, run_underlying ht]
  | some a => simp [Op.equalIn, run_underlying ht]

theorem Plan.eqNil {st yt : TypeId} {x y : Operand} {A : Option Addr} {n c : Nat} (ho : ops[i]? = some ⟨d, .binOp .eql st x y yt, ty, pos, aft, g⟩) (hg : wantE ops ⟨d, .binOp .eql st x y yt, ty, pos, aft, g⟩ E = true)
    (ht : J.P.underlying st = some (.slice e)) (hx : ev E x = .slice A n c) (hy : ev E y = .slice none 0 0) (k : Plan J ops dest Q rest (upd E d (.bool A.isNone)) ds L) : Plan J ops dest Q ((i, .st) :: rest) E ds L :=
  Plan.st ho hg (St.of_exec (by intro c h; cases h) fun w _ => by
    unfold execOp
    simp [hx, hy, eqGuard, binOp, run_eqNil ht, Result.andThen]) k

/-! parts of slices -/
theorem run_sliceHi {P : Program} {w : World} {st : TypeId} {A : Option Addr} {n c hi : Nat} {kd : IntKind} (ht : P.underlying st = some (.slice e)) (hsz : (sizeOf e).run P w = .ok sz w) (h : hi ≤ c) :
    (Instr.sliceAt st (.slice A n c) none (some (.int kd (hi : Int))) none).run P w = .ok (.slice A hi c) w := by
  have h1 : (hi : Int) ≤ (c : Int) := by omega
  have e1 : (if c = 0 then A else A.map (fun x => x.add 0)) = A := by cases A <;> simp [addr_add_zero]
  simp [Instr.sliceAt, Instr.slice, run_underlying ht, Instr.sliceBounds, Instr.sliceBound, asIntOf, h1, h, hsz, e1]

theorem Plan.sliceHi {st : TypeId} {x y : Operand} {A : Option Addr} {n c : Nat} {kd : IntKind} {q : Int} (hi : Nat) (ho : ops[i]? = some ⟨d, .slice st x none (some y) none, ty, pos, aft, g⟩)
    (hg : wantE ops ⟨d, .slice st x none (some y) none, ty, pos, aft, g⟩ E = true) (ht : J.P.underlying st = some (.slice e)) (hsz : ∀ w, (sizeOf e).run J.P w = .ok sz w) (hx : ev E x = .slice A n c)
    (hy : ev E y = .int kd q) (hq : q = (hi : Int)) (h : hi ≤ c) (k : Plan J ops dest Q rest (upd E d (.slice A hi c)) ds L) : Plan J ops dest Q ((i, .st) :: rest) E ds L :=
  Plan.st ho hg (St.of_exec (by intro c h; cases h) fun w _ => by
    subst hq
    unfold execOp
    simp only [hx, Option.map_some, Option.map_none, hy]
    exact run_lift_value (run_sliceHi ht (hsz w) h)) k

/-- a slice of one's own, cut to its first elements -/
theorem Res.own_take {o : Option Nat} {c : Nat} {xs : List α} {w : World} (hk : ∀ x, (enc x).length = sz) (m : Nat) (hm : m ≤ xs.length) (h : (Res.own enc sz e o c xs).holds w) : (Res.own enc sz e o c (xs.take m)).holds w := by
  have hlen : (xs.take m).length = m := by simp [hm]
  have htk : (xs.take m).flatMap enc = (xs.flatMap enc).take (m * sz) := by
    have h1 := congrArg (List.flatMap enc) (List.take_append_drop m xs)
    rw [List.flatMap_append] at h1
    rw [← h1]
    exact (List.take_left' (by rw [length_flatMap hk, hlen])).symm
  cases o with
  | none =>
    obtain ⟨h1, h2⟩ := (Res.own_cap h).2 rfl
    subst h1 h2
    simpa using Res.own_nil w
  | some b =>
    obtain ⟨cur, h1, h2, h3, h4, h5⟩ := Res.own_cells h b rfl
    refine ⟨length_flatMap hk _, .inr ⟨b, c, cur, rfl, Nat.zero_le _, h1, by rw [hlen]; omega, h4, h2, ?_⟩⟩
    rw [htk, hlen, ← h5, List.take_take]
    congr 1
    exact (Nat.min_eq_left (Nat.mul_le_mul_right _ hm)).symm

end

end Go.Proofs.Ytjmklbkcpjmcaaa.H

namespace Go.Proofs.Ytjmklbkcpjmcaaa.H
open Go Go.RowKit
set_option linter.unusedVariables false
set_option linter.unusedSimpArgs false

section
variable {α : Type} {enc : α → List Value} {sz : Nat} {e : TypeId}

theorem mem_setRow {b c : Nat} {xs ys : List α} {w : World} (hk : ∀ x, (enc x).length = sz) (h : (Res.own enc sz e (some b) c xs).holds w) {cur cs' : Array Value} (h1 : w.heap[b]? = some (.cells cur e (0, 0))) (hs : cs'.size = cur.size)
    (hys : ys.length ≤ c) (hcs : cs'.toList.take (ys.length * sz) = ys.flatMap enc) : Mem w [b] [Res.own enc sz e (some b) c ys] (w.setRow b cs') := by
  obtain ⟨cur', h1', h2, h3, h4, h5⟩ := Res.own_cells h b rfl
  obtain rfl : cur = cur' := by rw [h1] at h1'; injection h1' with h1'; injection h1'
  have hb : b < w.heap.size := (Array.getElem?_eq_some_iff.1 h1).1
  refine ⟨rfl, rfl, Nat.le_refl _, rfl, by simp, fun j hj hX => setRow_other w b j cs' (fun e => hX (by rw [e]; exact List.mem_singleton.2 rfl)), ?_, ?_, List.pairwise_singleton _ _⟩
  · intro r hr
    obtain rfl := List.mem_singleton.1 hr
    exact ⟨length_flatMap hk _, .inr ⟨b, c, cs', rfl, Nat.zero_le _, setRow_heap w b cur cs' e (0, 0) h1, hys, h4, by rw [hs]; exact h2, hcs⟩⟩
  · intro r hr j hj
    obtain rfl := List.mem_singleton.1 hr
    obtain rfl := List.mem_singleton.1 hj
    exact ⟨by simpa using hb, .inr (List.mem_singleton.2 rfl)⟩

theorem flatMap_set (hk : ∀ x, (enc x).length = sz) : ∀ (xs : List α) (m : Nat) (y : α), m < xs.length → (xs.set m y).flatMap enc = (xs.flatMap enc).take (m * sz) ++ enc y ++ (xs.flatMap enc).drop (m * sz + sz)
  | [], m, _, h => absurd h (Nat.not_lt_zero _)
  | x :: xs, 0, y, _ => by
    simp only [List.set_cons_zero, List.flatMap_cons, Nat.zero_mul, List.take_zero, List.nil_append, Nat.zero_add]
    rw [List.drop_left' (hk x)]
  | x :: xs, m + 1, y, h => by
    simp only [List.set_cons_succ, List.flatMap_cons]
    rw [flatMap_set hk xs m y (by simpa using h), List.take_append, List.drop_append, hk, List.take_of_length_le (l := enc x) (by rw [hk, Nat.add_mul]; omega), List.drop_of_length_le (l := enc x) (by rw [hk, Nat.add_mul]; omega)]
    have e1 : (m + 1) * sz - sz = m * sz := by rw [Nat.add_mul]; omega
    have e2 : (m + 1) * sz + sz - sz = m * sz + sz := by rw [Nat.add_mul]; omega
    rw [e1, e2]
    simp

theorem take_splice (l v : List Value) (o n t : Nat) (hv : v.length = n) (ho : o + n ≤ t) (hl : t ≤ l.length) : (l.take o ++ v ++ l.drop (o + n)).take t = (l.take t).take o ++ v ++ (l.take t).drop (o + n) := by
  apply List.ext_getElem?
  intro i
  by_cases hi : i < t
  · rw [List.getElem?_take_of_lt hi]
    simp only [List.getElem?_append, List.length_append, List.length_take, hv, List.getElem?_take, List.getElem?_drop]
    have e1 : min o l.length = o := by omega
    have e2 : min o (min t l.length) = o := by omega
    rw [e1, e2]
    by_cases h1 : i < o + n
    · rw [if_pos h1, if_pos h1]
      by_cases h2 : i < o
      · simp [h2, hi]
      · simp [h2]
    · rw [if_neg h1, if_neg h1, if_pos (by omega)]
  · rw [List.getElem?_eq_none (by simp; omega), List.getElem?_eq_none (by simp; omega)]

theorem step_set {P : Program} {b c m : Nat} {xs : List α} {y : α} {v : Value} {t : TypeId} {w : World} (hk : ∀ x, (enc x).length = sz) (h1 : ∀ x, (enc x).all (·.oneCell') = true)
    (h : (Res.own enc sz e (some b) c xs).holds w) (hm : m < xs.length) (hz : (sizeOf t).run P w = .ok sz w) (hv : v.cells = (enc y).toArray) :
    ∃ w', (storeVar t ((⟨b, 0, none⟩ : Addr).add (m * sz)) v).run P w = .ok () w' ∧ Mem w [b] [Res.own enc sz e (some b) c (xs.set m y)] w' := by
  obtain ⟨cur, hb, h2, h3, h4, h5⟩ := Res.own_cells h b rfl
  have hfit : (m + 1) * sz ≤ xs.length * sz := Nat.mul_le_mul_right _ hm
  have hfit2 : xs.length * sz ≤ c * sz := Nat.mul_le_mul_right _ h3
  rw [Nat.add_mul, Nat.one_mul] at hfit
  have hvs : v.cells.size = sz := by rw [hv]; simpa using hk y
  have hr := run_storeVar_at (P := P) (w := w) (t := t) (b := b) (o := m * sz) (v := v) (n := sz) hz hvs hb (by omega) (by rw [hv]; exact List.all_eq_true.1 (h1 y))
  rw [Addr.add_lit, Nat.zero_add]
  refine ⟨_, hr, mem_setRow hk h hb ?_ (by simpa using h3) ?_⟩
  · have : v.cells.toList.length = sz := by simpa using hvs
    simp [hvs]; omega
  · rw [List.length_set, List.toList_toArray, take_splice _ _ _ _ _ (by simpa using hvs) hfit (by simp; omega), h5, flatMap_set hk xs m y hm, hv]

theorem zeroCells_oneCell {z : Value} (hz : (z.cells.toList.all (·.oneCell')) = true) (n : Nat) : ∀ u ∈ (Builtin.zeroCells z.cells n).toList, u.oneCell' = true := by
  intro u hu
  simp only [Builtin.zeroCells, Array.toList_map, List.mem_map] at hu
  obtain ⟨i, hi, rfl⟩ := hu
  have hi : i < n * z.cells.size := by simpa using hi
  have hp : 0 < z.cells.size := by rcases Nat.eq_zero_or_pos z.cells.size with h | h
                                   · rw [h] at hi; omega
                                   · exact h
  have hlt := Nat.mod_lt i hp
  rw [getElem!_pos z.cells _ hlt]
  exact List.all_eq_true.1 hz _ (by simp)

theorem step_clear {P : Program} {st ety : TypeId} {b c lo n k' : Nat} {xs : List α} {z : Value} {w : World} (hk : ∀ x, (enc x).length = sz) (ht : P.underlying st = some (.slice e)) (hz : (zeroValue e).run P w = .ok z w) (hzs : z.cells.size = sz)
    (hz1 : (z.cells.toList.all (·.oneCell')) = true) (h : (Res.own enc sz e (some b) c xs).holds w) (hn : n = xs.length - lo) (hlo : lo < xs.length) :
    ∃ w', (Builtin.clear_ #[st] ety #[.slice (some ((⟨b, 0, none⟩ : Addr).add (lo * sz))) n k']).run P w = .ok (.tuple #[]) w' ∧ Mem w [b] [Res.own enc sz e (some b) c (xs.take lo)] w' := by
  obtain ⟨cur, hb, h2, h3, h4, h5⟩ := Res.own_cells h b rfl
  have hzl : (Builtin.zeroCells z.cells n).toList.length = n * sz := by simp [Builtin.zeroCells, hzs]
  have hfit : lo * sz + n * sz = xs.length * sz := by rw [← Nat.add_mul]; congr 1; omega
  have hfit2 : xs.length * sz ≤ c * sz := Nat.mul_le_mul_right _ h3
  have hr := run_storeCells_at P b (lo * sz) e (Builtin.zeroCells z.cells n).toList 0 cur w hb (by rw [hzl]; omega) (zeroCells_oneCell hz1 n)
  simp only [Nat.add_zero] at hr
  have hn0 : n ≠ 0 := by omega
  refine ⟨w.setRow b (List.take (lo * sz) cur.toList ++ (Builtin.zeroCells z.cells n).toList ++ List.drop (lo * sz + (Builtin.zeroCells z.cells n).toList.length) cur.toList).toArray, ?_, mem_setRow hk h hb ?_ (ys := xs.take lo) (by simp; omega) ?_⟩
  · rw [Addr.add_lit, Nat.zero_add]
    obtain ⟨n', rfl⟩ : ∃ n', n = n' + 1 := ⟨n - 1, by omega⟩
    simp [Builtin.clear_, run_underlying ht, hz, hr]
  · have : lo * sz + (n * sz + (c * sz - (lo * sz + n * sz))) = c * sz := by omega
    simp only [List.size_toArray, List.length_append, List.length_take, List.length_drop, hzl, Array.length_toList, h2]
    omega
  · have hl : (xs.take lo).length = lo := by simp; omega
    rw [hl, List.toList_toArray, List.append_assoc, List.take_left' (by simp; omega)]
    have h6 := congrArg (List.take (lo * sz)) h5
    rw [List.take_take, Nat.min_eq_left (by omega)] at h6
    rw [h6]
    have h7 := congrArg (List.flatMap enc) (List.take_append_drop lo xs)
    rw [List.flatMap_append] at h7
    rw [← h7, List.take_left' (by rw [length_flatMap hk, hl])]

end

section
variable {J : Jd} {ops : Array Oper} {dest : Option (List Nat)} {Q : Post} {i : Nat} {rest : List (Nat × Kind)} {E : Env} {ds : List Deferred} {L : List Res}
variable {d : Option Nat} {ty : TypeId} {pos : String} {aft : Array Edge} {g : Option (Nat × Bool)}
variable {α : Type} {enc : α → List Value} {sz : Nat} {e : TypeId}

/-- an element of a slice of one's own is written -/
theorem Plan.storeOwn {t : TypeId} {x y : Operand} {b c : Nat} {o : Option Nat} {xs : List α} {v : Value} (yv : α) (m j : Nat) (ho : ops[i]? = some ⟨d, .store t x y, ty, pos, aft, g⟩)
    (hg : wantE ops ⟨d, .store t x y, ty, pos, aft, g⟩ E = true) (hD : ∀ D, dest = some D → i ∈ D) (hz : ∀ w, (sizeOf t).run J.P w = .ok sz w) (hk : ∀ x, (enc x).length = sz) (h1 : ∀ x, (enc x).all (·.oneCell') = true)
    (hx : ev E x = .pointer (some ((⟨b, 0, none⟩ : Addr).add (m * sz)))) (hy : ev E y = v) (hv : v.cells = (enc yv).toArray)
    (hj : L[j]? = some (Res.own enc sz e o c xs)) (hob : o = some b) (hm : m < xs.length)
    (k : Plan J ops dest Q rest (upd E d undef) ds (L.set j (Res.own enc sz e o c (xs.set m yv)))) : Plan J ops dest Q ((i, .ef) :: rest) E ds L :=
  Plan.ef ho hg (by intro c h; cases h) fun Rf w hw => by
    subst hob
    obtain ⟨w', hr, hs⟩ := step_set (P := J.P) (y := yv) (v := v) hk h1 (hw.res _ (List.mem_append_left _ (mem_of_get hj))) hm (hz w) hv
    have hrun : (execOp (ev E) ⟨d, .store t x y, ty, pos, aft, g⟩).run J.P w = .ok .skip w' := by
      unfold execOp
      simp only [hx, hy, Instr.storeAt, Instr.sureAddr]
      simp [Sem.run_bind, hr]
    rw [hrun]
    exact ⟨_, Mem.step j hw hj hs, fun D hD' hi => absurd (hD D hD') hi, k⟩

/-- what lies behind an element of a slice of one's own is cleared -/
theorem Plan.clearOwn {st : TypeId} {x : Operand} {b c n k' : Nat} {o : Option Nat} {xs : List α} {z : Value} (lo j : Nat)
    (ho : ops[i]? = some ⟨d, .call ⟨.builtin .clear, #[x], #[st]⟩, ty, pos, aft, g⟩) (hg : wantE ops ⟨d, .call ⟨.builtin .clear, #[x], #[st]⟩, ty, pos, aft, g⟩ E = true)
    (hD : ∀ D, dest = some D → i ∈ D) (ht : J.P.underlying st = some (.slice e)) (hz : ∀ w, (zeroValue e).run J.P w = .ok z w) (hzs : z.cells.size = sz) (hz1 : (z.cells.toList.all (·.oneCell')) = true) (hk : ∀ x, (enc x).length = sz)
    (hx : ev E x = .slice (some ((⟨b, 0, none⟩ : Addr).add (lo * sz))) n k') (hj : L[j]? = some (Res.own enc sz e o c xs)) (hob : o = some b) (hn : n = xs.length - lo) (hlo : lo < xs.length)
    (k : Plan J ops dest Q rest (upd E d (.tuple #[])) ds (L.set j (Res.own enc sz e o c (xs.take lo)))) : Plan J ops dest Q ((i, .ef) :: rest) E ds L :=
  Plan.ef ho hg (by intro c h; cases h) fun Rf w hw => by
    subst hob
    obtain ⟨w', hr, hs⟩ := step_clear (P := J.P) (ety := ty) (k' := k') hk ht (hz w) hzs hz1 (hw.res _ (List.mem_append_left _ (mem_of_get hj))) hn hlo
    have hrun : (execOp (ev E) ⟨d, .call ⟨.builtin .clear, #[x], #[st]⟩, ty, pos, aft, g⟩).run J.P w = .ok (.value (.tuple #[])) w' := by
      unfold execOp
      simp [resolve, hx, invoke, builtin, hr, Result.andThen]
    rw [hrun]
    exact ⟨_, Mem.step j hw hj hs, fun D hD' hi => absurd (hD D hD') hi, k⟩

theorem run_sliceLo {P : Program} {w : World} {st : TypeId} {a : Addr} {n c lo : Nat} {kd : IntKind} (ht : P.underlying st = some (.slice e)) (hsz : (sizeOf e).run P w = .ok sz w) (h : lo ≤ n) (hc : lo < c) :
    (Instr.sliceAt st (.slice (some a) n c) (some (.int kd (lo : Int))) none none).run P w = .ok (.slice (some (a.add (lo * sz))) (n - lo) (c - lo)) w := by
  have h1 : (lo : Int) ≤ (n : Int) := by omega
  have h2 : c ≠ lo := by omega
  simp [Instr.sliceAt, Instr.slice, run_underlying ht, Instr.sliceBounds, Instr.sliceBound, asIntOf, h1, h, hsz, h2]

theorem Plan.sliceLo {st : TypeId} {x y : Operand} {A : Option Addr} {a : Addr} {n c : Nat} {kd : IntKind} {q : Int} (lo : Nat) (ho : ops[i]? = some ⟨d, .slice st x (some y) none none, ty, pos, aft, g⟩)
    (hg : wantE ops ⟨d, .slice st x (some y) none none, ty, pos, aft, g⟩ E = true) (ht : J.P.underlying st = some (.slice e)) (hsz : ∀ w, (sizeOf e).run J.P w = .ok sz w) (hx : ev E x = .slice A n c) (hA : A = some a)
    (hy : ev E y = .int kd q) (hq : q = (lo : Int)) (h : lo ≤ n) (hc : lo < c) (k : Plan J ops dest Q rest (upd E d (.slice (some (a.add (lo * sz))) (n - lo) (c - lo))) ds L) : Plan J ops dest Q ((i, .st) :: rest) E ds L :=
  Plan.st ho hg (St.of_exec (by intro c h; cases h) fun w _ => by
    subst hq hA
    unfold execOp
    simp only [hx, Option.map_some, Option.map_none, hy]
    exact run_lift_value (run_sliceLo ht (hsz w) h hc)) k

end

end Go.Proofs.Ytjmklbkcpjmcaaa.H

namespace Go.Proofs.Ytjmklbkcpjmcaaa.H
open Go Go.RowKit
set_option linter.unusedVariables false
set_option linter.unusedSimpArgs false

/-- a block that is no row of cells -/
def Res.obj (b : Nat) (o : Obj) : Res where
  foot := [b]
  holds := fun w => w.heap[b]? = some o
  loc := fun w w' h hw => (h b (List.mem_singleton.2 rfl)).trans hw

theorem Mem.allocO {w0 w : World} {X : List Nat} {L : List Res} (h : Mem w0 X L w) (o : Obj) : Mem w0 X (Res.obj w.heap.size o :: L) (w.alloc o) := by
  have hnew : (w.alloc o).heap[w.heap.size]? = some o := World.alloc_heap_new w _
  have hold : ∀ k, k < w.heap.size → (w.alloc o).heap[k]? = w.heap[k]? := fun k hk => Below.heap_alloc _ _ _ hk
  refine ⟨h.os, h.tape, h.dr, h.output, by simp; exact Nat.le_succ_of_le h.size, fun b hb hX => (hold b (Nat.lt_of_lt_of_le hb h.size)).trans (h.old b hb hX), ?_, ?_, ?_⟩
  · intro r hr
    rcases List.mem_cons.1 hr with rfl | hr
    · exact hnew
    · exact r.loc w _ (fun b hb => hold b (h.foot r hr b hb).1) (h.res r hr)
  · intro r hr b hb
    rcases List.mem_cons.1 hr with rfl | hr
    · obtain rfl := List.mem_singleton.1 hb
      exact ⟨by simp, .inl h.size⟩
    · have := h.foot r hr b hb
      exact ⟨by simp; omega, this.2⟩
  · refine List.pairwise_cons.2 ⟨fun s hs b hb hb' => ?_, h.sep⟩
    obtain rfl := List.mem_singleton.1 hb
    exact Nat.lt_irrefl _ (h.foot s hs _ hb').1

/-- a block is written whole -/
theorem Mem.putO {w0 w : World} {X : List Nat} {L : List Res} {b : Nat} {o : Obj} (h : Mem w0 X (Res.obj b o :: L) w) (o' : Obj) : Mem w0 X (Res.obj b o' :: L) (w.putObj b o') := by
  have hb := h.foot _ List.mem_cons_self b (List.mem_singleton.2 rfl)
  have hsep := List.pairwise_cons.1 h.sep
  refine ⟨h.os, h.tape, h.dr, h.output, by simpa using h.size, fun k hk hX => ?_, ?_, ?_, List.pairwise_cons.2 ⟨hsep.1, hsep.2⟩⟩
  · rw [World.putObj_heap_other (fun e => by subst e; rcases hb.2 with h1 | h1; omega; exact hX h1)]
    exact h.old k hk hX
  · intro r hr
    rcases List.mem_cons.1 hr with rfl | hr1
    · exact World.putObj_heap_same hb.1
    · exact r.loc w _ (fun k hk => World.putObj_heap_other (fun e => hsep.1 r hr1 b (List.mem_singleton.2 rfl) (e ▸ hk))) (h.res r (List.mem_cons_of_mem _ hr1))
  · intro r hr k hk
    simp only [World.putObj_size]
    rcases List.mem_cons.1 hr with rfl | hr
    · exact h.foot (Res.obj b o) List.mem_cons_self k hk
    · exact h.foot r (List.mem_cons_of_mem _ hr) k hk

/-! resources in a bundle -/
def Sep (L : List Res) : Prop := L.Pairwise (fun r s => ∀ b ∈ r.foot, b ∉ s.foot)

def Res.all (L : List Res) : Res where
  foot := L.flatMap Res.foot
  holds := fun w => Sep L ∧ ∀ r ∈ L, r.holds w
  loc := fun w w' h hw => ⟨hw.1, fun r hr => r.loc w w' (fun b hb => h b (List.mem_flatMap.2 ⟨r, hr, hb⟩)) (hw.2 r hr)⟩

theorem Mem.bundle {w0 w : World} {X : List Nat} {L L' : List Res} (h : Mem w0 X (L ++ L') w) : Mem w0 X (Res.all L :: L') w := by
  have hs := List.pairwise_append.1 h.sep
  refine ⟨h.os, h.tape, h.dr, h.output, h.size, h.old, ?_, ?_, List.pairwise_cons.2 ⟨?_, hs.2.1⟩⟩
  · intro r hr
    rcases List.mem_cons.1 hr with rfl | hr
    · exact ⟨hs.1, fun r hr => h.res r (List.mem_append_left _ hr)⟩
    · exact h.res r (List.mem_append_right _ hr)
  · intro r hr b hb
    rcases List.mem_cons.1 hr with rfl | hr
    · obtain ⟨r, hr, hb⟩ := List.mem_flatMap.1 hb
      exact h.foot r (List.mem_append_left _ hr) b hb
    · exact h.foot r (List.mem_append_right _ hr) b hb
  · intro s hs' b hb hb'
    obtain ⟨r, hr, hb⟩ := List.mem_flatMap.1 hb
    exact hs.2.2 r hr s hs' b hb hb'

theorem Mem.unbundle {w0 w : World} {X : List Nat} {L L' : List Res} (h : Mem w0 X (Res.all L :: L') w) : Mem w0 X (L ++ L') w := by
  have hall := h.res (Res.all L) List.mem_cons_self
  have hs := List.pairwise_cons.1 h.sep
  refine ⟨h.os, h.tape, h.dr, h.output, h.size, h.old, ?_, ?_, List.pairwise_append.2 ⟨hall.1, hs.2, ?_⟩⟩
  · intro r hr
    rcases List.mem_append.1 hr with hr | hr
    · exact hall.2 r hr
    · exact h.res r (List.mem_cons_of_mem _ hr)
  · intro r hr b hb
    rcases List.mem_append.1 hr with hr | hr
    · exact h.foot (Res.all L) List.mem_cons_self b (List.mem_flatMap.2 ⟨r, hr, hb⟩)
    · exact h.foot r (List.mem_cons_of_mem _ hr) b hb
  · intro r hr s hs' b hb hb'
    exact hs.1 s hs' b (List.mem_flatMap.2 ⟨r, hr, hb⟩) hb'

/-! calls of a yield -/
def YieldC (P : Program) (l : Nat) (args : List Value) (w : World) (X : List Nat) (R : Value → List Res → Prop) : Prop :=
  ∃ fn tmps assign body, (Instr.yield l args.toArray).run P w = .ok (.round l fn tmps assign body) w ∧ ∀ r, RoundIn (Fw r) 0 P l fn tmps assign body w fun e w' => ∃ v L, e = .returned v ∧ Mem w X L w' ∧ R v L

section
variable {J : Jd} {ops : Array Oper} {dest : Option (List Nat)} {Q : Post} {i : Nat} {rest : List (Nat × Kind)} {E : Env} {ds : List Deferred} {L : List Res}
variable {d : Option Nat} {ty : TypeId} {pos : String} {aft : Array Edge} {g : Option (Nat × Bool)}

/-- a call of a yield; n resources in front are handed over -/
theorem Plan.callY {l : Nat} {x : Operand} {xs : Array Operand} {ts : Array TypeId} {args : List Value} {R : Value → List Res → Prop} (X : List Nat) (n : Nat)
    (ho : ops[i]? = some ⟨d, .call ⟨.value x, xs, ts⟩, ty, pos, aft, g⟩) (hg : wantE ops ⟨d, .call ⟨.value x, xs, ts⟩, ty, pos, aft, g⟩ E = true) (hx : ev E x = .func (.yield l) #[] #[])
    (ha : xs.toList.map (ev E) = args) (hD : n = 0 ∨ ∀ D, dest = some D → i ∈ D)
    (hX : ∀ b ∈ X, ∃ r ∈ L.take n, b ∈ r.foot)
    (hc : ∀ w, Mem J.w0 J.X L w → YieldC J.P l args w X R) (k : ∀ v Ln, R v Ln → Plan J ops dest Q rest (upd E d v) ds (Ln ++ L.drop n)) : Plan J ops dest Q ((i, .ef) :: rest) E ds L :=
  Plan.ef ho hg (by intro c h; cases h) fun Rf w hm => by
    obtain ⟨fn, tmps, assign, body, hy, hround⟩ := hc w (hm.sub (List.sublist_append_left _ _))
    have hr : (execOp (ev E) ⟨d, .call ⟨.value x, xs, ts⟩, ty, pos, aft, g⟩).run J.P w = .ok (.round l fn tmps assign body) w := by
      unfold execOp
      subst ha
      have hy' : (Instr.yield l (xs.map (ev E))).run J.P w = .ok (.round l fn tmps assign body) w := by rw [map_list]; exact hy
      simp [resolve, hx, Deferred.ofValue, invoke, hy']
    rw [hr]
    refine RoundIn.mono (hround J.r) ?_
    rintro e w' ⟨v, Ln, rfl, h2, h3⟩
    have hm' : Mem J.w0 J.X (L.take n ++ (L.drop n ++ Rf)) w := by rw [← List.append_assoc, List.take_append_drop]; exact hm
    refine ⟨v, Ln ++ L.drop n, rfl, ?_, fun D hD' hi => ?_, k v Ln h3⟩
    · rw [List.append_assoc]; exact hm'.call h2 hX
    · rcases hD with rfl | hD
      · intro Rf w1 hm1
        refine hm1.sub ?_
        simp only [List.drop_zero]
        exact (List.sublist_append_right Ln L).append_right Rf
      · exact absurd (hD D hD') hi
end

/-- the contract of an iterator: it hands over args 0, args 1, .. args (n - 1), until one is refused; it leaves blocks X to the one that takes them -/
def SeqC (P : Program) (f : FuncId) (lb : Array Value) (n : Nat) (args : Nat → List Value) (w : World) (X : List Nat) : Prop :=
  ∀ {G : Type} (l : Nat) (Y : G → Res) (ok : Nat → G → Prop) (okX : G → Prop) (g0 : G), (Y g0).foot = X → Mem w X [Y g0] w → ok 0 g0 →
    (∀ k g w', k < n → ok k g → Mem w X [Y g] w' → YieldC P l (args k) w' (Y g).foot (fun v L => ∃ g', L = [Y g'] ∧ (v = .bool true ∧ ok (k + 1) g' ∨ v = .bool false ∧ okX g'))) →
    Ct P f (#[.func (.yield l) #[] #[]] ++ lb) w X (fun _ L => ∃ g', L = [Y g'] ∧ (ok n g' ∨ okX g'))

def mark (D : Nat) : Deferred := { target := .collected D, args := #[] }
abbrev Res.dfr (D : Nat) : Res := Res.obj D (.deferred (some []))

def updP (E : Env) : List Nat → List Value → Env
  | p :: ps, v :: vs => updP (upd E (some p) v) ps vs
  | _, _ => E

theorem Rep.updP {N : Nat} {ds : List Deferred} : ∀ {ps : List Nat} {vs : List Value} {E : Env} {a : Act}, Rep N ds a E → (∀ p ∈ ps, p < N) →
    Rep N ds { a with tmps := (ps.zip vs).foldl (fun t (p, v) => t.setIfInBounds p v) a.tmps } (updP E ps vs)
  | [], vs, E, a, h, _ => by cases vs <;> exact h
  | p :: ps, [], E, a, h, _ => h
  | p :: ps, v :: vs, E, a, h, hp => by
    have h1 := h.put (some p) v (fun d hd => by injection hd with hd; subst hd; exact hp _ List.mem_cons_self)
    exact Rep.updP (ps := ps) (vs := vs) h1 (fun q hq => hp q (List.mem_cons_of_mem _ hq))

/-- how a round is left -/
def roundQ (J : Jd) {G : Type} (I : G → List Res) (okN : G → Prop) (okX : Code → G → Prop) : Post := fun e E ds L =>
  match e with
  | .normal => ∃ g', okN g' ∧ Ent J L (I g')
  | .ret => ∃ g', okX .ret g' ∧ Ent J L (I g')
  | .exit id => ∃ g', okX (.exit id) g' ∧ Ent J L (I g')
  | _ => False

theorem Mem.rebase {w0 w0' w w' : World} {X : List Nat} {L : List Res} {l : Nat} {o o' : Obj} (hl : w0.heap[l]? = some o) (hlX : l ∉ X) (h : Mem w0 X L w) (h0 : w0' = w0.putObj l o') (hw : w' = w.putObj l o') : Mem w0' X L w' := by
  subst h0 hw
  have hlt : l < w0.heap.size := (Array.getElem?_eq_some_iff.1 hl).1
  refine ⟨h.os, h.tape, h.dr, h.output, by simpa using h.size, fun b hb hX => ?_, fun r hr => ?_, fun r hr b hb => by simpa using h.foot r hr b hb, h.sep⟩
  · simp only [World.putObj_size] at hb
    by_cases e : b = l
    · subst e
      rw [World.putObj_heap_same hlt, World.putObj_heap_same (Nat.lt_of_lt_of_le hlt h.size)]
    · rw [World.putObj_heap_other e, World.putObj_heap_other e]
      exact h.old b hb hX
  · refine r.loc w _ (fun b hb => World.putObj_heap_other (fun e => ?_)) (h.res r hr)
    subst e
    rcases (h.foot r hr b hb).2 with h1 | h1
    · omega
    · exact hlX h1

/-- range over a function -/
theorem HW.rangeFunc {G : Type} {J : Jd} {g : Operand} {ps : Array Tmp} {assign body : Code} {Q : Post} {E : Env} {ds : List Deferred} {L : List Res} {gf : FuncId} {lb : Array Value}
    (n : Nat) (args : Nat → List Value) (I : G → List Res) (Lk : List Res) (ok : Nat → G → Prop) (okX : Code → G → Prop) (g0 : G)
    (hr : J.r = none) (hg : ev E g = .func (.func gf) #[] lb) (hps : (ps.toList.all fun p => Nat.blt p J.N) = true) (hlen : ∀ k, (args k).length = ps.size)
    (hL : Ent J L (I g0 ++ Lk)) (h0 : ok 0 g0)
    (hseq : ∀ w X, Mem J.w0 J.X Lk w → (∀ b ∈ X, (J.w0.heap.size ≤ b ∨ b ∈ J.X) ∧ ∀ r ∈ Lk, b ∉ r.foot) → SeqC J.P gf lb n args w X)
    (hround : ∀ l k s wa wb, k < n → ok k s → Mem J.w0 J.X (I s ++ Lk) wa → Mem J.w0 J.X (I s ++ Lk) wb →
      HW ⟨J.P, some l, J.N, wa, (I s).flatMap Res.foot⟩ assign (thenPost (HW ⟨J.P, some l, J.N, wb, (I s).flatMap Res.foot⟩ body (roundQ ⟨J.P, some l, J.N, wb, (I s).flatMap Res.foot⟩ I (ok (k + 1)) okX)) (fun _ _ _ _ => False))
        (updP E ps.toList (args k)) [] (I s))
    (hdone : ∀ D s, ok n s → Q .normal E (mark D :: ds) (Res.dfr D :: (I s ++ Lk)))
    (hstop : ∀ D c s, okX c s → HW J c Q E (mark D :: ds) (Res.dfr D :: (I s ++ Lk))) : HW J (.rangeFunc g ps assign body) Q E ds L := fun a w hrp hm => by
  refine wpIn_rangeFunc ?_
  intro fn hfn
  have hm0 := hL w hm
  obtain ⟨rec, hrec⟩ : ∃ rec : LoopState → Option Code → Loop, rec = fun st pe => { state := st, pending := pe, fn, tmps := a.tmps, params := ps, assign, body, defers := w.heap.size } := ⟨_, rfl⟩
  obtain ⟨W1, hW1⟩ : ∃ W1, (w.alloc (.deferred (some []))).alloc (.loop (rec .ready none)) = W1 := ⟨_, rfl⟩
  have hm1 : Mem J.w0 J.X (Res.obj (w.heap.size + 1) (.loop (rec .ready none)) :: Res.dfr w.heap.size :: (I g0 ++ Lk)) W1 := by
    have h1 := (hm0.allocO (.deferred (some []))).allocO (.loop (rec .ready none))
    rw [World.size_alloc, hW1] at h1
    exact h1
  obtain ⟨l, hl⟩ : ∃ l, l = w.heap.size + 1 := ⟨_, rfl⟩
  obtain ⟨D, hD⟩ : ∃ D, D = w.heap.size := ⟨_, rfl⟩
  have hlD : l ≠ D := by omega
  rw [← hl, ← hD] at hm1
  -- the caller's own, with the record, in a bundle
  let stOf : Option Code → Loop := fun j => match j with | none => rec .ready none | some c => rec .done (some c)
  let Y : G × Option Code → Res := fun s => Res.all (Res.obj l (.loop (stOf s.2)) :: Res.dfr D :: I s.1)
  have hmY : Mem J.w0 J.X (Y (g0, none) :: Lk) W1 := Mem.bundle (L := Res.obj l (.loop (stOf none)) :: Res.dfr D :: I g0) hm1
  have hXfoot : ∀ b ∈ (Y (g0, none)).foot, b < W1.heap.size ∧ (J.w0.heap.size ≤ b ∨ b ∈ J.X) := fun b hb => hmY.foot _ List.mem_cons_self b hb
  have hsepY := List.pairwise_cons.1 hmY.sep
  have hq : SeqC J.P gf lb n args W1 (Y (g0, none)).foot := hseq W1 (Y (g0, none)).foot (hmY.sub (List.sublist_cons_self _ _)) (fun b hb => ⟨(hXfoot b hb).2, fun r hr' => hsepY.1 r hr' b hb⟩)
  have hself : Mem W1 (Y (g0, none)).foot [Y (g0, none)] W1 := ⟨rfl, rfl, Nat.le_refl _, rfl, Nat.le_refl _, fun _ _ _ => rfl, fun r hr' => by
      obtain rfl := List.mem_singleton.1 hr'; exact hmY.res _ List.mem_cons_self, fun r hr' b hb => by
      obtain rfl := List.mem_singleton.1 hr'; exact ⟨(hXfoot b hb).1, .inr hb⟩, List.pairwise_singleton _ _⟩
  have hctr := hq l Y (fun k s => ok k s.1 ∧ s.2 = none) (fun s => ∃ c, s.2 = some c ∧ okX c s.1) (g0, none) rfl hself ⟨h0, rfl⟩ (by
    rintro k ⟨s, j⟩ w' hk ⟨hok, hj⟩ hmw
    simp only at hok hj
    subst hj
    -- what holds at a round's start, for the caller
    have hcall : Mem J.w0 J.X (Y (s, none) :: Lk) w' := Mem.call (L1 := [Y (g0, none)]) (L2 := Lk) (Ln := [Y (s, none)]) hmY hmw (fun b hb => ⟨_, List.mem_singleton.2 rfl, hb⟩)
    have hun := Mem.unbundle hcall
    have hloc := Mem.unbundle (L' := []) hmw
    rw [List.append_nil] at hloc
    have hrl : w'.heap[l]? = some (.loop (rec .ready none)) := hloc.res _ List.mem_cons_self
    have hrD : w'.heap[D]? = some (.deferred (some [])) := hloc.res (Res.dfr D) (by simp)
    have hlt : l < w'.heap.size := (Array.getElem?_eq_some_iff.1 hrl).1
    have hltD : D < w'.heap.size := (Array.getElem?_eq_some_iff.1 hrD).1
    have hsep := List.pairwise_cons.1 hloc.sep
    have hsep2 := List.pairwise_cons.1 hsep.2
    have hlI : l ∉ (I s).flatMap Res.foot := fun h => by
      obtain ⟨r, hr', hb⟩ := List.mem_flatMap.1 h
      exact hsep.1 r (List.mem_cons_of_mem _ hr') l (List.mem_singleton.2 rfl) hb
    have hDI : D ∉ (I s).flatMap Res.foot := fun h => by
      obtain ⟨r, hr', hb⟩ := List.mem_flatMap.1 h
      exact hsep2.1 r hr' D (List.mem_singleton.2 rfl) hb
    have hma : Mem J.w0 J.X (I s ++ Lk) w' := hun.sub (.cons _ (.cons _ (.refl _)))
    have hmb : Mem J.w0 J.X (I s ++ Lk) (w'.putObj l (.loop { rec .ready none with state := .busy })) := (Mem.putO hun (.loop { rec .ready none with state := .busy })).sub (.cons _ (.cons _ (.refl _)))
    have hselfI : ∀ {W : World}, Mem J.w0 J.X (I s ++ Lk) W → Mem W ((I s).flatMap Res.foot) (I s) W := fun {W} h => ⟨rfl, rfl, Nat.le_refl _, rfl, Nat.le_refl _, fun _ _ _ => rfl, fun r hr' => h.res r (List.mem_append_left _ hr'), fun r hr' b hb =>
      ⟨(h.foot r (List.mem_append_left _ hr') b hb).1, .inr (List.mem_flatMap.2 ⟨r, hr', hb⟩)⟩, (List.pairwise_append.1 h.sep).1⟩
    have hrd := hround l k s w' _ hk hok hma hmb
    have hy := run_yield (P := J.P) (args := (args k).toArray) hrl (by rw [hrec]; simpa using hlen k)
    rw [hrec] at hy
    refine ⟨fn, _, assign, body, hy, fun r => roundIn_of_wpIn (F := Fw r) hfn ?_⟩
    have hrep : Rep J.N [] { tmps := a.tmps, defers := [] } E := ⟨hrp.size, rfl, hrp.get⟩
    have hrep1 := Rep.updP (ps := ps.toList) (vs := args k) hrep (fun p hp => by simpa [Nat.blt_eq] using List.all_eq_true.1 hps p hp)
    have hfold : (ps.zip (args k).toArray).foldl (fun tmps (t, a) => tmps.setIfInBounds t a) a.tmps = (ps.toList.zip (args k)).foldl (fun t (p, v) => t.setIfInBounds p v) a.tmps := by
      rw [← Array.foldl_toList, Array.toList_zip]
    have hw1 := hrd _ w' hrep1 (hselfI hma)
    rw [← hfold] at hw1
    refine wpIn_mono hw1 ?_
    rintro e a1 w1 ⟨E1, ds1, L1, hr1, hmm1, hq1⟩
    cases e with
    | exit id => exact hq1.elim
    | goto t => exact hq1.elim
    | ret => exact hq1.elim
    | panic c => exact hq1.elim
    | outgrown => exact hq1.elim
    | normal =>
      have hl1 : w1.heap[l]? = some (.loop (rec .ready none)) := (hmm1.old l hlt hlI).trans hrl
      have hmm2 := Mem.rebase (o' := .loop { rec .ready none with state := .busy }) hrl hlI hmm1 rfl rfl
      refine ⟨_, run_beginRound hl1 (by rw [hrec]), ?_⟩
      refine wpIn_mono (hq1 a1 _ hr1 hmm2) ?_
      rintro e a2 w2 ⟨E2, ds2, L2, hr2, hmm3, hq2⟩
      have fin : ∀ (jump : Option Code) (s' : G), Ent ⟨J.P, some l, J.N, w'.putObj l (.loop { rec .ready none with state := .busy }), (I s).flatMap Res.foot⟩ L2 (I s') →
          ∃ w4, (Instr.endRound l jump).run J.P w2 = .ok (.bool jump.isNone) w4 ∧ Mem w' (Y (s, none)).foot [Y (s', jump)] w4 := fun jump s' hE => by
        have hm5 := hE _ hmm3
        have hl2 : w2.heap[l]? = some (.loop { rec .ready none with state := .busy }) := (hm5.old l (by simpa using hlt) hlI).trans (World.putObj_heap_same hlt)
        have hD2 : w2.heap[D]? = some (.deferred (some [])) := (hm5.old D (by simpa using hltD) hDI).trans ((World.putObj_heap_other (Ne.symm hlD)).trans hrD)
        have hl2' : l < w2.heap.size := (Array.getElem?_eq_some_iff.1 hl2).1
        have hD2' : D < w2.heap.size := (Array.getElem?_eq_some_iff.1 hD2).1
        have he := run_endRound (P := J.P) jump hl2
        have hst : ({ { rec .ready none with state := .busy } with state := if jump.isNone then .ready else .done, pending := jump } : Loop) = stOf jump := by
          rw [hrec]; cases jump <;> simp [stOf, hrec]
        rw [hst] at he
        have hnl : ∀ r ∈ I s', ∀ b ∈ r.foot, b ≠ l ∧ b ≠ D := fun r hr' b hb => by
          have := hm5.foot r hr' b hb
          constructor
          · rintro rfl
            rcases this.2 with h1 | h1
            · simp at h1; omega
            · exact hlI h1
          · rintro rfl
            rcases this.2 with h1 | h1
            · simp at h1; omega
            · exact hDI h1
        refine ⟨_, he, ?_⟩
        have hbig : Mem w' (Y (s, none)).foot (Res.obj l (.loop (stOf jump)) :: Res.dfr D :: I s') (w2.putObj l (.loop (stOf jump))) := by
          refine ⟨hm5.os, hm5.tape, hm5.dr, hm5.output, by have := hm5.size; simp only [World.putObj_size] at this ⊢; exact this, fun b hb hX => ?_, ?_, ?_, ?_⟩
          · have hbl : b ≠ l := fun e => hX (by subst e; exact List.mem_flatMap.2 ⟨_, List.mem_cons_self, List.mem_singleton.2 rfl⟩)
            have hbI : b ∉ (I s).flatMap Res.foot := fun h => hX (by
              obtain ⟨r, hr', hb'⟩ := List.mem_flatMap.1 h
              exact List.mem_flatMap.2 ⟨r, List.mem_cons_of_mem _ (List.mem_cons_of_mem _ hr'), hb'⟩)
            rw [World.putObj_heap_other hbl, hm5.old b (by simpa using hb) hbI, World.putObj_heap_other hbl]
          · intro r hr'
            rcases List.mem_cons.1 hr' with rfl | hr'
            · exact World.putObj_heap_same hl2'
            · rcases List.mem_cons.1 hr' with rfl | hr'
              · exact (World.putObj_heap_other (Ne.symm hlD)).trans hD2
              · exact r.loc w2 _ (fun b hb => World.putObj_heap_other (hnl r hr' b hb).1) (hm5.res r hr')
          · intro r hr' b hb
            simp only [World.putObj_size]
            rcases List.mem_cons.1 hr' with rfl | hr'
            · obtain rfl := List.mem_singleton.1 hb
              exact ⟨hl2', .inr (List.mem_flatMap.2 ⟨_, List.mem_cons_self, List.mem_singleton.2 rfl⟩)⟩
            · rcases List.mem_cons.1 hr' with rfl | hr'
              · obtain rfl := List.mem_singleton.1 hb
                exact ⟨hD2', .inr (List.mem_flatMap.2 ⟨Res.dfr b, List.mem_cons_of_mem _ List.mem_cons_self, List.mem_singleton.2 rfl⟩)⟩
              · have := hm5.foot r hr' b hb
                refine ⟨this.1, this.2.imp (fun h => by simpa using h) fun h => ?_⟩
                obtain ⟨r2, hr2, hb2⟩ := List.mem_flatMap.1 h
                exact List.mem_flatMap.2 ⟨r2, List.mem_cons_of_mem _ (List.mem_cons_of_mem _ hr2), hb2⟩
          · refine List.pairwise_cons.2 ⟨fun r hr' b hb hb' => ?_, List.pairwise_cons.2 ⟨fun r hr' b hb hb' => ?_, hm5.sep⟩⟩
            · obtain rfl := List.mem_singleton.1 hb
              rcases List.mem_cons.1 hr' with rfl | hr'
              · exact hlD (List.mem_singleton.1 hb')
              · exact (hnl r hr' b hb').1 rfl
            · obtain rfl := List.mem_singleton.1 hb
              exact (hnl r hr' b hb').2 rfl
        have := Mem.bundle (L := Res.obj l (.loop (stOf jump)) :: Res.dfr D :: I s') (L' := []) (by rw [List.append_nil]; exact hbig)
        exact this
      cases e with
      | normal =>
        obtain ⟨s', hok', hE⟩ := hq2
        obtain ⟨w4, he, hm4⟩ := fin none s' hE
        exact ⟨_, w4, he, _, _, rfl, hm4, (s', none), rfl, .inl ⟨rfl, hok', rfl⟩⟩
      | ret =>
        obtain ⟨s', hok', hE⟩ := hq2
        obtain ⟨w4, he, hm4⟩ := fin (some .ret) s' hE
        exact ⟨_, w4, he, _, _, rfl, hm4, (s', some .ret), rfl, .inr ⟨rfl, _, rfl, hok'⟩⟩
      | exit id =>
        obtain ⟨s', hok', hE⟩ := hq2
        obtain ⟨w4, he, hm4⟩ := fin (some (.exit id)) s' hE
        exact ⟨_, w4, he, _, _, rfl, hm4, (s', some (.exit id)), rfl, .inr ⟨rfl, _, rfl, hok'⟩⟩
      | goto t => exact hq2.elim
      | panic c => exact hq2.elim
      | outgrown => exact hq2.elim)
  refine ⟨l, [mark D], W1, { target := .fn (.func gf) lb, args := #[.func (.yield l) #[] #[]] }, W1, gf, #[.func (.yield l) #[] #[]] ++ lb, W1, ?_, ?_, fun _ _ => trivial, ?_, fun h => by simp [Fence.wide] at h, ?_⟩
  · rw [hr, ← hW1, hrec, hl, hD]; exact run_enterLoop_outer _ _ _ _ _
  · have hge : a.eval g = .func (.func gf) #[] lb := by rw [hrp.eval]; exact hg
    have hc : ∀ v, a.eval (.const v) = v := fun _ => rfl
    simp [rangeCall, resolve, hge, hc, Deferred.ofValue]
  · simp [invoke, hctr.1 _ _]
  · refine callsIn_fw.2 (Calls.mono hctr.2 ?_)
    rintro e w3 ⟨v, L3, rfl, hm3, ⟨s, j⟩, rfl, hs⟩
    have hcall : Mem J.w0 J.X (Y (s, j) :: Lk) w3 := Mem.call (L1 := [Y (g0, none)]) (L2 := Lk) (Ln := [Y (s, j)]) hmY hm3 (fun b hb => ⟨_, List.mem_singleton.2 rfl, hb⟩)
    have hun : Mem J.w0 J.X (Res.obj l (.loop (stOf j)) :: (Res.dfr D :: (I s ++ Lk))) w3 := Mem.unbundle hcall
    have hrl : w3.heap[l]? = some (.loop (stOf j)) := hun.res _ List.mem_cons_self
    have hend := run_endLoop (P := J.P) hrl (by cases j <;> simp [stOf, hrec])
    have hput := (Mem.putO hun (.loop { stOf j with state := .exhausted })).sub (List.sublist_cons_self _ _)
    have hrep : Rep J.N (mark D :: ds) { a with defers := [mark D] ++ a.defers } E := ⟨hrp.size, by rw [hrp.defs]; rfl, hrp.get⟩
    rcases hs with ⟨hok, hj⟩ | ⟨c, hj, hok⟩
    · simp only at hj hok
      subst hj
      refine ⟨none, _, by rw [hend]; simp [stOf, hrec], ⟨E, mark D :: ds, _, hrep, hput, hdone D s hok⟩⟩
    · simp only at hj hok
      subst hj
      refine ⟨some c, _, by rw [hend]; simp [stOf, hrec], hstop D c s hok _ _ hrep hput⟩

/-! functions that hold a range over a function -/
def retPostM (J : Jd) (rs : List ResultVar) (R : Value → List Res → Prop) : Post := fun e E ds L =>
  match e with
  | .normal | .ret => ∃ (Ds : List Nat) (vs : List Value) (L' L2 : List Res), ds = Ds.map mark ∧ Ent J L (Ds.map Res.dfr ++ L') ∧ Gives J E L' rs vs ∧ L2.Sublist L' ∧ R (packed vs) L2
  | _ => False

theorem leaves_marks {J : Jd} {fn : Func} {tmps : Array Value} {v : Value} {Rr : Ending → World → Prop} {L' : List Res} (hres : ∀ w, Mem J.w0 J.X L' w → (results fn tmps).run J.P w = .ok v w) (hR : ∀ w, Mem J.w0 J.X L' w → Rr (.returned v) w) :
    ∀ (Ds : List Nat) (w : World), Mem J.w0 J.X (Ds.map Res.dfr ++ L') w → LeavesInM (Fw J.r) 0 J.P fn tmps Rr (Ds.map mark) .returning w
  | [], w, hm => ⟨v, hres w hm, hR w hm⟩
  | D :: Ds, w, hm => by
    refine ⟨by simp, .inl ⟨D, w.putObj D (.deferred none), rfl, ?_, ?_⟩⟩
    · exact run_takeDeferred (hm.res (Res.dfr D) List.mem_cons_self)
    · exact leaves_marks hres hR Ds _ ((Mem.putO hm (.deferred none)).sub (List.sublist_cons_self _ _))

theorem Ct.of_bodyM {P : Program} {f : FuncId} {fn : Func} {c : Code} {rs : List ResultVar} {N : Nat} {args : Array Value} {w : World} {X : List Nat} {L : List Res} {R : Value → List Res → Prop}
    (hf : P.funcs[f]? = some fn) (hb : fn.body = some c) (hrs : fn.results.toList = rs) (hN : fn.ntmps = N) (hn : (fn.name == "runtime.NumGoroutine") = false) (hargs : Nat.ble args.size N = true) (hm : Mem w X L w)
    (h : HW ⟨P, none, N, w, X⟩ c (retPostM ⟨P, none, N, w, X⟩ rs R) (argEnv args.toList) [] L) : Ct P f args w X R := by
  refine ⟨fun args w => by
    have h1 : fn.name ≠ "runtime.NumGoroutine" := by simpa using hn
    simp [callFunc, hf, h1, hb, Go.mark], ?_⟩
  refine callsIn_fw (r := none) (n := 0).1 (callsIn_of_wp_marks hf hb trivial ?_)
  have hr : Rep N [] { tmps := args ++ Array.replicate (fn.ntmps - args.size) undef, defers := [] } (argEnv args.toList) := by
    have hargs := Nat.le_of_ble_eq_true hargs
    refine ⟨by simp; omega, rfl, fun t => ?_⟩
    rw [argEnv_get]
    simp only [Array.getD_eq_getD_getElem?, List.getD_eq_getElem?_getD, Array.getElem?_append, Array.getElem?_toList]
    by_cases ht : t < args.size
    · simp [ht]
    · simp only [ht, if_false, Array.getElem?_eq_none (Nat.le_of_not_lt ht), Option.getD_none, Array.getElem?_replicate]
      split <;> rfl
  refine wpIn_mono (h _ _ hr hm) ?_
  rintro e a w' ⟨E, ds, L', h1, h2, h3⟩
  have key : (∃ (Ds : List Nat) (vs : List Value) (L'' L3 : List Res), ds = Ds.map mark ∧ Ent ⟨P, none, N, w, X⟩ L' (Ds.map Res.dfr ++ L'') ∧ Gives ⟨P, none, N, w, X⟩ E L'' rs vs ∧ L3.Sublist L'' ∧ R (packed vs) L3) →
      LeavesInM (Fw none) 0 P fn a.tmps (fun e w' => ∃ v L, e = .returned v ∧ Mem w X L w' ∧ R v L) a.defers .returning w' := by
    rintro ⟨Ds, vs, L2, L3, rfl, hE, hg, hsub, hR⟩
    have := leaves_marks (J := ⟨P, none, N, w, X⟩) (fn := fn) (tmps := a.tmps) (v := packed vs) (Rr := fun e w' => ∃ v L, e = .returned v ∧ Mem w X L w' ∧ R v L)
      (fun w1 hm1 => results_run h1 hm1 hrs hg) (fun w1 hm1 => ⟨_, L3, rfl, hm1.sub hsub, hR⟩) Ds w' (hE w' h2)
    rw [h1.defs]
    exact this
  cases e with
  | normal => exact key h3
  | ret => exact key h3
  | exit id => exact h3.elim
  | goto l => exact h3.elim
  | panic c => exact h3.elim
  | outgrown => exact h3.elim

end Go.Proofs.Ytjmklbkcpjmcaaa.H

namespace Go.Proofs.Ytjmklbkcpjmcaaa.H
open Go Go.RowKit
set_option linter.unusedVariables false
set_option linter.unusedSimpArgs false

section
variable {J : Jd} {ops : Array Oper} {dest : Option (List Nat)} {Q : Post} {i : Nat} {rest : List (Nat × Kind)} {E : Env} {ds : List Deferred} {L : List Res}
variable {d : Option Nat} {ty : TypeId} {pos : String} {aft : Array Edge} {g : Option (Nat × Bool)}

def maxI (a b : Int) : Int := if b > a then b else a
def minI (a b : Int) : Int := if b < a then b else a

theorem Plan.max {x y : Operand} {ts : Array TypeId} {a b : Int} {kd : IntKind} (ho : ops[i]? = some ⟨d, .call ⟨.builtin .max, #[x, y], ts⟩, ty, pos, aft, g⟩)
    (hg : wantE ops ⟨d, .call ⟨.builtin .max, #[x, y], ts⟩, ty, pos, aft, g⟩ E = true) (hx : ev E x = .int kd a) (hy : ev E y = .int kd b)
    (k : Plan J ops dest Q rest (upd E d (.int kd (maxI a b))) ds L) : Plan J ops dest Q ((i, .st) :: rest) E ds L :=
  Plan.st ho hg (St.of_exec (by intro c h; cases h) fun w _ => by
    unfold execOp
    simp [resolve, hx, hy, invoke, builtin, run_max_int2, Result.andThen, maxI]) k

theorem Plan.min {x y : Operand} {ts : Array TypeId} {a b : Int} {kd : IntKind} (ho : ops[i]? = some ⟨d, .call ⟨.builtin .min, #[x, y], ts⟩, ty, pos, aft, g⟩)
    (hg : wantE ops ⟨d, .call ⟨.builtin .min, #[x, y], ts⟩, ty, pos, aft, g⟩ E = true) (hx : ev E x = .int kd a) (hy : ev E y = .int kd b)
    (k : Plan J ops dest Q rest (upd E d (.int kd (minI a b))) ds L) : Plan J ops dest Q ((i, .st) :: rest) E ds L :=
  Plan.st ho hg (St.of_exec (by intro c h; cases h) fun w _ => by
    unfold execOp
    have hmin : ∀ w, (Builtin.min_ ts ty #[.int kd a, .int kd b]).run J.P w = .ok (.int kd (if b < a then b else a)) w := fun w => by
      simp [Builtin.min_, Builtin.min2]
    simp [resolve, hx, hy, invoke, builtin, hmin, Result.andThen, minI]) k
/-- division and remainder of signed numbers -/
theorem Plan.remT {xt yt : TypeId} {x y : Operand} {a b : Int} (ho : ops[i]? = some ⟨d, .binOp .rem xt x y yt, ty, pos, aft, g⟩)
    (hg : wantE ops ⟨d, .binOp .rem xt x y yt, ty, pos, aft, g⟩ E = true) (hx : ev E x = .int .i64 a) (hy : ev E y = .int .i64 b) (hb : b ≠ 0)
    (k : Plan J ops dest Q rest (upd E d (.int .i64 (a.tmod b))) ds L) : Plan J ops dest Q ((i, .st) :: rest) E ds L :=
  Plan.st ho hg (St.of_exec (by intro c h; cases h) fun w _ => by
    unfold execOp
    simp [hx, hy, eqGuard, binOp, Op.intDiv, hb, Result.andThen]) k

theorem Plan.quoT {xt yt : TypeId} {x y : Operand} {a b : Int} (ho : ops[i]? = some ⟨d, .binOp .quo xt x y yt, ty, pos, aft, g⟩)
    (hg : wantE ops ⟨d, .binOp .quo xt x y yt, ty, pos, aft, g⟩ E = true) (hx : ev E x = .int .i64 a) (hy : ev E y = .int .i64 b) (h : -9223372036854775807 ≤ a ∧ a ≤ 9223372036854775807 ∧ b ≠ 0)
    (k : Plan J ops dest Q rest (upd E d (.int .i64 (a.tdiv b))) ds L) : Plan J ops dest Q ((i, .st) :: rest) E ds L :=
  Plan.st ho hg (St.of_exec (by intro c h; cases h) fun w _ => by
    unfold execOp
    have hb := h.2.2
    have h1 : (a.tdiv b).natAbs ≤ a.natAbs := by rw [Int.natAbs_tdiv]; exact Nat.div_le_self _ _
    have hw := wrap_i64 (n := a.tdiv b) (by omega) (by omega)
    simp [hx, hy, eqGuard, binOp, Op.intDiv, hb, Result.andThen, hw]) k

end
end Go.Proofs.Ytjmklbkcpjmcaaa.H

namespace Go.Proofs.Ytjmklbkcpjmcaaa.H
open Go Go.RowKit
set_option linter.unusedVariables false
set_option linter.unusedSimpArgs false

section
variable {J : Jd} {ops : Array Oper} {dest : Option (List Nat)} {Q : Post} {i : Nat} {rest : List (Nat × Kind)} {E : Env} {ds : List Deferred} {L : List Res}
variable {d : Option Nat} {ty : TypeId} {pos : String} {aft : Array Edge} {g : Option (Nat × Bool)}

/-- equality of bools -/
theorem run_eqB {P : Program} {w : World} {t : TypeId} {a b : Bool} (ht : P.underlying t = some .bool) : (Op.equal t (.bool a) (.bool b)).run P w = .ok (a == b) w := by
  obtain ⟨d, hd⟩ : ∃ d, Op.maxDepth = d + 1 := ⟨9999, rfl⟩
  unfold Op.equal
  rw [hd]
  exact run_equalIn_bool' w d t a b ht

theorem Plan.eqB {xt yt : TypeId} {x y : Operand} {a b : Bool} (ho : ops[i]? = some ⟨d, .binOp .eql xt x y yt, ty, pos, aft, g⟩) (hg : wantE ops ⟨d, .binOp .eql xt x y yt, ty, pos, aft, g⟩ E = true)
    (ht : J.P.underlying xt = some .bool) (hx : ev E x = .bool a) (hy : ev E y = .bool b) (k : Plan J ops dest Q rest (upd E d (.bool (a == b))) ds L) : Plan J ops dest Q ((i, .st) :: rest) E ds L :=
  Plan.st ho hg (St.of_exec (by intro c h; cases h) fun w _ => by
    unfold execOp
    simp only [hx, hy]
    simp [eqGuard, binOp, run_eqB ht, Result.andThen]) k

theorem Plan.neB {xt yt : TypeId} {x y : Operand} {a b : Bool} (ho : ops[i]? = some ⟨d, .binOp .neq xt x y yt, ty, pos, aft, g⟩) (hg : wantE ops ⟨d, .binOp .neq xt x y yt, ty, pos, aft, g⟩ E = true)
    (ht : J.P.underlying xt = some .bool) (hx : ev E x = .bool a) (hy : ev E y = .bool b) (k : Plan J ops dest Q rest (upd E d (.bool (!(a == b)))) ds L) : Plan J ops dest Q ((i, .st) :: rest) E ds L :=
  Plan.st ho hg (St.of_exec (by intro c h; cases h) fun w _ => by
    unfold execOp
    simp only [hx, hy]
    simp [eqGuard, binOp, run_eqB ht, Result.andThen]) k

end
end Go.Proofs.Ytjmklbkcpjmcaaa.H

namespace Go.Proofs.Ytjmklbkcpjmcaaa.H
open Go Go.RowKit
set_option linter.unusedVariables false
set_option linter.unusedSimpArgs false
set_option linter.unusedSectionVars false

/-- keys of one type: how they lie, and that the machine tells them apart -/
structure Keys (P : Program) (kt : TypeId) {K : Type} [DecidableEq K] (ek : K → Value) : Prop where
  desc : ∃ ds, P.underlying kt = some ds ∧ ∀ a b, Instr.sameNow ds (ek a) (ek b) = none
  chk : ∀ (e : Bool) (k : K) (w : World), (Instr.checkKey e 10000 kt (ek k)).run P w = .ok () w
  eq : ∀ (a b : K) (w : World), (Op.equal kt (ek a) (ek b)).run P w = .ok (decide (a = b)) w
  same : ∀ a : K, Instr.sameBits 10000 (ek a) (ek a) = true

section
variable {P : Program} {kt : TypeId} {K V : Type} [DecidableEq K] {ek : K → Value} {ev' : V → Value}

/-- the entries of a map, in the order of their coming -/
def ents (ek : K → Value) (ev' : V → Value) : Nat → List (K × V) → List MapEntry
  | _, [] => []
  | i, (k, v) :: r => { key := ek k, val := ev' v, born := i } :: ents ek ev' (i + 1) r

theorem ents_len (i : Nat) : ∀ l : List (K × V), (ents ek ev' i l).length = l.length
  | [] => rfl
  | (k, v) :: r => by rw [ents, List.length_cons, ents_len (i + 1) r, List.length_cons]
theorem ents_get : ∀ (l : List (K × V)) (i j : Nat) (h : j < l.length), (ents ek ev' i l)[j]? = some { key := ek l[j].1, val := ev' l[j].2, born := i + j }
  | [], _, _, h => absurd h (Nat.not_lt_zero _)
  | (k, v) :: r, i, 0, _ => rfl
  | (k, v) :: r, i, j + 1, h => by
    rw [ents, List.getElem?_cons_succ, ents_get r (i + 1) j (by simpa using h)]
    simp; omega
theorem ents_append : ∀ (l r : List (K × V)) (i : Nat), ents ek ev' i (l ++ r) = ents ek ev' i l ++ ents ek ev' (i + l.length) r
  | [], r, i => rfl
  | (k, v) :: l, r, i => by
    rw [List.cons_append, ents, ents_append l r (i + 1), ents, List.cons_append, List.length_cons]
    congr 3; omega
theorem ents_set : ∀ (l : List (K × V)) (i j : Nat) (k : K) (v v' : V) (h : l[j]? = some (k, v)), ents ek ev' i (l.set j (k, v')) = (ents ek ev' i l).modify j (fun e => { e with key := ek k, val := ev' v' })
  | [], _, _, _, _, _, h => by simp at h
  | (k', v0) :: r, i, 0, k, v, v', h => by
    simp only [List.getElem?_cons_zero, Option.some.injEq, Prod.mk.injEq] at h
    obtain ⟨rfl, rfl⟩ := h
    rfl
  | (k', v0) :: r, i, j + 1, k, v, v', h => by
    rw [List.set_cons_succ, ents, ents_set r (i + 1) j k v v' (by simpa using h), ents]
    rfl

/-- where a key lies -/
def keyAt (k : K) (l : List (K × V)) : Option Nat := l.findIdx? fun x => decide (x.1 = k)
/-- what a map holds for a key -/
def valAt (k : K) (l : List (K × V)) : Option V := (l.find? fun x => decide (x.1 = k)).map (·.2)
/-- a map with a value for a key -/
def putK (k : K) (v : V) (l : List (K × V)) : List (K × V) := match keyAt k l with
  | some i => l.set i (k, v)
  | none => l ++ [(k, v)]

theorem run_findAsking (hK : Keys P kt ek) (k : K) (w : World) : ∀ (l : List (K × V)) (b i : Nat), (Instr.findAsking kt (ek k) (ents ek ev' b l) i).run P w = .ok ((l.findIdx? fun x => decide (x.1 = k)).bind fun j => (l[j]?).map fun x => (i + j, ev' x.2)) w
  | [], b, i => rfl
  | (k', v) :: r, b, i => by
    have ih := run_findAsking hK k w r (b + 1) (i + 1)
    rw [ents]
    unfold Instr.findAsking
    simp only [Sem.run_bind, hK.eq, Result.andThen]
    by_cases h : k = k'
    · subst h
      simp [Sem.run_ite, List.findIdx?_cons]
    · have h' : ¬ k' = k := fun e => h e.symm
      simp only [h, decide_false, Bool.false_eq_true, if_false]
      rw [ih]
      simp only [List.findIdx?_cons, h', decide_false, Bool.false_eq_true, if_false]
      cases List.findIdx? (fun x => decide (x.1 = k)) r with
      | none => rfl
      | some j =>
        simp only [Option.map_some, Option.bind_some, List.getElem?_cons_succ]
        have e : i + 1 + j = i + (j + 1) := by omega
        rw [e]

theorem run_findKey (hK : Keys P kt ek) (k : K) (l : List (K × V)) (w : World) : (Instr.findKey kt (ek k) (ents ek ev' 0 l)).run P w = .ok ((keyAt k l).bind fun j => (l[j]?).map fun x => (j, ev' x.2)) w := by
  obtain ⟨ds, hd, hn⟩ := hK.desc
  unfold Instr.findKey
  simp only [Sem.run_bind, run_underlying hd, Result.andThen]
  cases l with
  | nil => rfl
  | cons x r =>
    obtain ⟨k', v⟩ := x
    have : Instr.findNow ds (ek k) (ents ek ev' 0 ((k', v) :: r)) 0 = none := by
      rw [ents]; unfold Instr.findNow; rw [hn k k']
    rw [this]
    have h := run_findAsking (ev' := ev') hK k w ((k', v) :: r) 0 0
    simp only [Nat.zero_add] at h
    exact h

theorem keyAt_get {k : K} {l : List (K × V)} {j : Nat} (h : keyAt k l = some j) : ∃ v, l[j]? = some (k, v) := by
  unfold keyAt at h
  rw [List.findIdx?_eq_some_iff_getElem] at h
  obtain ⟨h1, h2, _⟩ := h
  have h2 : l[j].1 = k := by simpa using h2
  exact ⟨l[j].2, by rw [List.getElem?_eq_getElem h1, ← h2]⟩
end

/-- a map of one's own -/
abbrev Res.mp {K V : Type} (ek : K → Value) (ev' : V → Value) (b : Nat) (l : List (K × V)) : Res := Res.obj b (.map (ents ek ev' 0 l).toArray l.length)
/-- an iterator over it that has seen some entries -/
abbrev Res.it (b m n : Nat) (seen : List Nat) : Res := Res.obj b (.mapIter (some m) n seen.toArray n)

theorem Mem.putAt {w0 w : World} {X : List Nat} {L Rf : List Res} {b : Nat} {o : Obj} (j : Nat) (hm : Mem w0 X (L ++ Rf) w) (hj : L[j]? = some (Res.obj b o)) (o' : Obj) : Mem w0 X (L.set j (Res.obj b o') ++ Rf) (w.putObj b o') := by
  have hlt : j < L.length := (List.getElem?_eq_some_iff.1 hj).1
  have hget : L[j] = Res.obj b o := (List.getElem?_eq_some_iff.1 hj).2
  have hL : L = L.take j ++ Res.obj b o :: L.drop (j + 1) := by rw [← hget]; simp
  have hS : L.set j (Res.obj b o') = L.take j ++ Res.obj b o' :: L.drop (j + 1) := by rw [List.set_eq_take_append_cons_drop, if_pos hlt]
  have hp1 : (L ++ Rf).Perm (Res.obj b o :: (L.take j ++ L.drop (j + 1) ++ Rf)) := by
    rw (occs := .pos [1]) [hL]
    exact List.perm_middle.append_right Rf
  have hp2 : (Res.obj b o' :: (L.take j ++ L.drop (j + 1) ++ Rf)).Perm (L.set j (Res.obj b o') ++ Rf) := by
    rw [hS]
    exact (List.perm_middle.append_right Rf).symm
  exact ((hm.perm hp1).putO o').perm hp2

section
variable {J : Jd} {ops : Array Oper} {dest : Option (List Nat)} {Q : Post} {i : Nat} {rest : List (Nat × Kind)} {E : Env} {ds : List Deferred} {L : List Res}
variable {d : Option Nat} {ty : TypeId} {pos : String} {aft : Array Edge} {g : Option (Nat × Bool)}
variable {kt : TypeId} {K V : Type} [DecidableEq K] {ek : K → Value} {ev' : V → Value}

theorem run_newObj (P : Program) (o : Obj) (w : World) : (newObj o).run P w = .ok w.heap.size (w.alloc o) := rfl

theorem Plan.makeMap {t : TypeId} (ek : K → Value) (ev' : V → Value) (ho : ops[i]? = some ⟨d, .makeMap t none, ty, pos, aft, g⟩) (hg : wantE ops ⟨d, .makeMap t none, ty, pos, aft, g⟩ E = true)
    (k : ∀ b, Plan J ops dest Q rest (upd E d (.map (some b))) ds (Res.mp ek ev' b [] :: L)) : Plan J ops dest Q ((i, .ef) :: rest) E ds L :=
  Plan.ef ho hg (by intro c h; cases h) fun Rf w hm => by
    have hr : (execOp (ev E) ⟨d, .makeMap t none, ty, pos, aft, g⟩).run J.P w = .ok (.value (.map (some w.heap.size))) (w.alloc (.map #[] 0)) := rfl
    rw [hr]
    exact ⟨Res.mp ek ev' w.heap.size [] :: L, hm.allocO _, fun D _ _ Rf w' hm' => hm'.sub (List.sublist_cons_self _ _), k _⟩

theorem run_getObj {P : Program} {w : World} {b : Nat} {o : Obj} (h : w.heap[b]? = some o) (hc : ∀ cs t f, o ≠ .cells cs t f) : (getObj b).run P w = .ok o w := by
  unfold getObj Sem.run
  simp only [h]
  cases o <;> first | rfl | exact absurd rfl (hc _ _ _)
theorem run_setObj {P : Program} {w : World} {b : Nat} {o : Obj} (o' : Obj) (h : w.heap[b]? = some o) (hc : ∀ cs t f, o ≠ .cells cs t f) : (setObj b o').run P w = .ok () (w.putObj b o') := by
  unfold setObj Sem.run
  simp only [h]
  cases o <;> first | rfl | exact absurd rfl (hc _ _ _)

theorem run_mapUpdate {P : Program} {mt et : TypeId} (hK : Keys P kt ek) (ht : P.underlying mt = some (.map kt et)) {w : World} {b : Nat} {l : List (K × V)} (hb : w.heap[b]? = some (.map (ents ek ev' 0 l).toArray l.length)) (k : K) (v : V) :
    (Instr.mapUpdate mt (.map (some b)) (ek k) (ev' v)).run P w = .ok () (w.putObj b (.map (ents ek ev' 0 (putK k v l)).toArray (putK k v l).length)) := by
  unfold Instr.mapUpdate
  simp only [Sem.run_bind, run_underlying ht, Result.andThen, run_getObj hb (by intros; simp), hK.chk, run_findKey hK]
  unfold putK
  cases hk : keyAt k l with
  | none =>
    simp only [Option.bind_none]
    rw [run_setObj _ hb (by intros; simp)]
    congr 2
    rw [ents_append, List.length_append]
    simp [ents]
  | some j =>
    obtain ⟨v0, hv⟩ := keyAt_get hk
    have hj : j < l.length := (List.getElem?_eq_some_iff.1 hv).1
    have hkey : ((((ents ek ev' 0 l).toArray)[j]?).map (·.key)).getD (ek k) = ek k := by
      have hg := ents_get (ek := ek) (ev' := ev') l 0 j hj
      have : l[j].1 = k := by rw [List.getElem?_eq_getElem hj, Option.some.injEq] at hv; rw [hv]
      rw [List.getElem?_toArray, hg, this]
      rfl
    simp only [hv, Option.bind_some, Option.map_some]
    simp only [Sem.run_bind]
    rw [hkey]
    unfold Instr.keyThatStays
    rw [if_pos (hK.same k)]
    simp only [Sem.run_pure, Result.andThen]
    rw [run_setObj _ hb (by intros; simp)]
    congr 2
    rw [ents_set l 0 j k v0 v hv, List.length_set]
    simp

/-- a value is put into a map -/
theorem Plan.mapUpdate {mt et : TypeId} {m x y : Operand} {b : Nat} {l : List (K × V)} {k : K} {v : V} (j : Nat) (hK : Keys J.P kt ek) (ht : J.P.underlying mt = some (.map kt et)) (ho : ops[i]? = some ⟨d, .mapUpdate mt m x y, ty, pos, aft, g⟩)
    (hg : wantE ops ⟨d, .mapUpdate mt m x y, ty, pos, aft, g⟩ E = true) (hD : ∀ D, dest = some D → i ∈ D) (hm' : ev E m = .map (some b)) (hx : ev E x = ek k) (hy : ev E y = ev' v) (hj : L[j]? = some (Res.mp ek ev' b l))
    (k' : Plan J ops dest Q rest (upd E d undef) ds (L.set j (Res.mp ek ev' b (putK k v l)))) : Plan J ops dest Q ((i, .ef) :: rest) E ds L :=
  Plan.ef ho hg (by intro c h; cases h) fun Rf w hm => by
    have hb : w.heap[b]? = some (.map (ents ek ev' 0 l).toArray l.length) := hm.res _ (List.mem_append_left _ (mem_of_get hj))
    have hr : (execOp (ev E) ⟨d, .mapUpdate mt m x y, ty, pos, aft, g⟩).run J.P w = .ok .skip (w.putObj b (.map (ents ek ev' 0 (putK k v l)).toArray (putK k v l).length)) := by
      unfold execOp
      simp only [hm', hx, hy, Sem.run_bind, run_mapUpdate hK ht hb, Result.andThen]
      rfl
    rw [hr]
    exact ⟨_, Mem.putAt j hm hj _, fun D hD' hi => absurd (hD D hD') hi, k'⟩

theorem find_keyAt (k : K) : ∀ l : List (K × V), (keyAt k l).bind (fun j => (l[j]?).map fun x => (j, ev' x.2)) = none ∧ valAt k l = none ∨ ∃ j v, (keyAt k l).bind (fun j => (l[j]?).map fun x => (j, ev' x.2)) = some (j, ev' v) ∧ valAt k l = some v := by
  intro l
  cases hk : keyAt k l with
  | none =>
    refine .inl ⟨rfl, ?_⟩
    unfold keyAt at hk
    unfold valAt
    rw [List.findIdx?_eq_none_iff] at hk
    rw [List.find?_eq_none.2 (fun x hx => by have := hk x hx; simpa using this)]; rfl
  | some j =>
    obtain ⟨v, hv⟩ := keyAt_get hk
    refine .inr ⟨j, v, by simp [hv], ?_⟩
    unfold keyAt at hk
    unfold valAt
    rw [List.findIdx?_eq_some_iff_getElem] at hk
    obtain ⟨h1, h2, h3⟩ := hk
    have : l.find? (fun x => decide (x.1 = k)) = some l[j] := by
      rw [List.find?_eq_some_iff_getElem]
      exact ⟨h2, j, h1, rfl, fun i hi => by have := h3 i hi; simpa using this⟩
    rw [this]
    rw [List.getElem?_eq_getElem h1, Option.some.injEq] at hv
    rw [hv]; rfl

/-- a map is asked, with 'is it there?' -/
theorem Plan.lookupOk {mt et : TypeId} {m x : Operand} {b : Nat} {l : List (K × V)} {k : K} {z : Value} (j : Nat) (hK : Keys J.P kt ek) (ht : J.P.underlying mt = some (.map kt et)) (hz : ∀ w, (zeroValue et).run J.P w = .ok z w)
    (ho : ops[i]? = some ⟨d, .lookup mt m x true, ty, pos, aft, g⟩) (hg : wantE ops ⟨d, .lookup mt m x true, ty, pos, aft, g⟩ E = true) (hm' : ev E m = .map (some b)) (hx : ev E x = ek k) (hj : L[j]? = some (Res.mp ek ev' b l))
    (k1 : ∀ v, valAt k l = some v → Plan J ops dest Q rest (upd E d (.tuple #[ev' v, .bool true])) ds L) (k2 : valAt k l = none → Plan J ops dest Q rest (upd E d (.tuple #[z, .bool false])) ds L) : Plan J ops dest Q ((i, .st) :: rest) E ds L := by
  have key : ∀ w, Mem J.w0 J.X L w → (Instr.lookup mt (.map (some b)) (ek k) true).run J.P w = .ok (match valAt k l with | some v => .tuple #[ev' v, .bool true] | none => .tuple #[z, .bool false]) w := fun w hm => by
    have hb : w.heap[b]? = some (.map (ents ek ev' 0 l).toArray l.length) := hm.res _ (mem_of_get hj)
    unfold Instr.lookup
    simp only [Sem.run_bind, run_underlying ht, Result.andThen, run_getObj hb (by intros; simp), Sem.run_pure, hK.chk, run_findKey hK]
    rcases find_keyAt (ev' := ev') k l with ⟨h1, h2⟩ | ⟨j', v, h1, h2⟩
    · rw [h1, h2]; simp only [Sem.run_bind, hz, Result.andThen, Sem.run_pure]; rfl
    · rw [h1, h2]; simp only [Sem.run_pure, Result.andThen]; rfl
  refine Plan.st (v := match valAt k l with | some v => .tuple #[ev' v, .bool true] | none => .tuple #[z, .bool false]) ho hg (St.of_exec (by intro c h; cases h) fun w hm => by
    unfold execOp
    simp only [hm', hx, Sem.run_bind, key w hm, Result.andThen]
    rfl) ?_
  cases h : valAt k l with
  | none => exact k2 h
  | some v => exact k1 v h

/-- a map that may be read: one's own, or one that was there before -/
def MapAt (J : Jd) (L : List Res) (ek : K → Value) (ev' : V → Value) (b : Nat) (l : List (K × V)) : Prop :=
  (∃ j : Nat, L[j]? = some (Res.mp ek ev' b l)) ∨ (J.w0.heap[b]? = some (.map (ents ek ev' 0 l).toArray l.length) ∧ b ∉ J.X)
theorem MapAt.own {l : List (K × V)} {b : Nat} (j : Nat) (h : L[j]? = some (Res.mp ek ev' b l)) : MapAt J L ek ev' b l := Or.inl ⟨j, h⟩
theorem MapAt.old {l : List (K × V)} {b : Nat} (h : J.w0.heap[b]? = some (.map (ents ek ev' 0 l).toArray l.length)) (hX : b ∉ J.X) : MapAt J L ek ev' b l := Or.inr ⟨h, hX⟩
theorem MapAt.get {l : List (K × V)} {b : Nat} {Rf : List Res} {w : World} (h : MapAt J L ek ev' b l) (hm : Mem J.w0 J.X (L ++ Rf) w) : w.heap[b]? = some (.map (ents ek ev' 0 l).toArray l.length) := by
  rcases h with ⟨j, hj⟩ | ⟨h, hX⟩
  · exact hm.res _ (List.mem_append_left _ (mem_of_get hj))
  · exact (hm.old b (Array.getElem?_eq_some_iff.1 h).1 hX).trans h
theorem MapAt.get0 {l : List (K × V)} {b : Nat} {w : World} (h : MapAt J L ek ev' b l) (hm : Mem J.w0 J.X L w) : w.heap[b]? = some (.map (ents ek ev' 0 l).toArray l.length) :=
  h.get (Rf := []) (by rw [List.append_nil]; exact hm)

/-- an iterator is made -/
theorem Plan.range {mt et : TypeId} {m : Operand} {b : Nat} {l : List (K × V)} (jm : MapAt J L ek ev' b l) (ht : J.P.underlying mt = some (.map kt et)) (ho : ops[i]? = some ⟨d, .range mt m, ty, pos, aft, g⟩) (hg : wantE ops ⟨d, .range mt m, ty, pos, aft, g⟩ E = true)
    (hm' : ev E m = .map (some b)) (k : ∀ r, Plan J ops dest Q rest (upd E d (.pointer (some ⟨r, 0, none⟩))) ds (Res.it r b l.length [] :: L)) : Plan J ops dest Q ((i, .ef) :: rest) E ds L :=
  Plan.ef ho hg (by intro c h; cases h) fun Rf w hm => by
    have hb : w.heap[b]? = some (.map (ents ek ev' 0 l).toArray l.length) := jm.get hm
    have hr : (execOp (ev E) ⟨d, .range mt m, ty, pos, aft, g⟩).run J.P w = .ok (.value (.pointer (some ⟨w.heap.size, 0, none⟩))) (w.alloc (.mapIter (some b) l.length #[] l.length)) := by
      unfold execOp Instr.range
      simp only [hm', Sem.run_bind, run_underlying ht, Result.andThen, run_getObj hb (by intros; simp), Sem.run_pure, run_newObj]
    rw [hr]
    exact ⟨Res.it w.heap.size b l.length [] :: L, hm.allocO _, fun D _ _ Rf w' hm' => hm'.sub (List.sublist_cons_self _ _), k _⟩

/-- a step of an iterator: over, or any entry that it has not seen -/
theorem Plan.next {it : Operand} {r b : Nat} {l : List (K × V)} {seen : List Nat} (jm : MapAt J L ek ev' b l) (ji : Nat) (ho : ops[i]? = some ⟨d, .next it false, ty, pos, aft, g⟩) (hg : wantE ops ⟨d, .next it false, ty, pos, aft, g⟩ E = true) (hD : ∀ D, dest = some D → i ∈ D)
    (hi : ev E it = .pointer (some ⟨r, 0, none⟩)) (hji : L[ji]? = some (Res.it r b l.length seen))
    (k1 : (∀ j, j < l.length → j ∈ seen) → Plan J ops dest Q rest (upd E d (.tuple #[.bool false])) ds L)
    (k2 : ∀ j (h : j < l.length), j ∉ seen → Plan J ops dest Q rest (upd E d (.tuple #[.bool true, ek l[j].1, ev' l[j].2])) ds (L.set ji (Res.it r b l.length (seen ++ [j])))) : Plan J ops dest Q ((i, .ef) :: rest) E ds L :=
  Plan.ef ho hg (by intro c h; cases h) fun Rf w hm => by
    have hb : w.heap[b]? = some (.map (ents ek ev' 0 l).toArray l.length) := jm.get hm
    have hr : w.heap[r]? = some (.mapIter (some b) l.length seen.toArray l.length) := hm.res _ (List.mem_append_left _ (mem_of_get hji))
    have hmem : ∀ x ∈ ents ek ev' 0 l, ∃ j, ∃ h : j < l.length, x = { key := ek l[j].1, val := ev' l[j].2, born := j } := fun x hx => by
      obtain ⟨j, hj, rfl⟩ := List.getElem_of_mem hx
      rw [ents_len] at hj
      have := ents_get (ek := ek) (ev' := ev') l 0 j hj
      rw [List.getElem?_eq_getElem (by rw [ents_len]; exact hj), Option.some.injEq, Nat.zero_add] at this
      exact ⟨j, hj, this⟩
    rcases run_next_at (P := J.P) w ty r b l.length l.length seen.toArray (ents ek ev' 0 l).toArray l.length hr hb (fun x hx => by
      obtain ⟨j, hj, rfl⟩ := hmem x (by simpa using hx)
      exact hj) (Nat.le_refl _) with ⟨h0, hrun⟩ | ⟨e, he, w1, hw1, hrun⟩
    · have hex : (execOp (ev E) ⟨d, .next it false, ty, pos, aft, g⟩).run J.P w = .ok (.value (.tuple #[.bool false])) w := by
        unfold execOp
        simp only [hi, Sem.run_bind, hrun, Result.andThen]
        rfl
      rw [hex]
      refine ⟨L, hm, fun D hD' hi' => absurd (hD D hD') hi', k1 fun j hj => ?_⟩
      refine Classical.byContradiction fun hns => ?_
      have hin : ({ key := ek l[j].1, val := ev' l[j].2, born := j } : MapEntry) ∈ (leftOf (ents ek ev' 0 l).toArray seen.toArray).toList := by
        have hg' := ents_get (ek := ek) (ev' := ev') l 0 j hj
        rw [Nat.zero_add] at hg'
        have := List.mem_of_getElem? hg'
        unfold leftOf
        simp only [Array.toList_filter, List.mem_filter]
        exact ⟨by simpa using this, by simpa using hns⟩
      have := List.length_pos_of_mem hin
      simp only [Array.length_toList] at this
      omega
    · have he' : e ∈ ents ek ev' 0 l ∧ e.born ∉ seen := by
        unfold leftOf at he
        simp only [Array.toList_filter, List.mem_filter] at he
        exact ⟨by simpa using he.1, by simpa using he.2⟩
      obtain ⟨j, hj, rfl⟩ := hmem e he'.1
      have hex : (execOp (ev E) ⟨d, .next it false, ty, pos, aft, g⟩).run J.P w = .ok (.value (.tuple #[.bool true, ek l[j].1, ev' l[j].2])) (w1.putObj r (.mapIter (some b) l.length (seen ++ [j]).toArray l.length)) := by
        unfold execOp
        simp only [hi, Sem.run_bind, hrun, Result.andThen]
        have : seen.toArray.push j = (seen ++ [j]).toArray := by simp
        rw [this]
        rfl
      rw [hex]
      have hm1 : Mem J.w0 J.X (L ++ Rf) w1 := by
        rcases hw1 with rfl | rfl
        · exact hm
        · exact hm.drawn (w.drawn + 1) (Nat.le_succ _)
      exact ⟨_, Mem.putAt ji hm1 hji _, fun D hD' hi' => absurd (hD D hD') hi', k2 j hj he'.2⟩

theorem run_entryOf {P : Program} {w : World} {r b : Nat} {l : List (K × V)} {seen : List Nat} {j : Nat} (hj : j < l.length) (hb : w.heap[b]? = some (.map (ents ek ev' 0 l).toArray l.length)) (hr : w.heap[r]? = some (.mapIter (some b) l.length (seen ++ [j]).toArray l.length)) :
    (Instr.entry (.pointer (some ⟨r, 0, none⟩))).run P w = .ok (.tuple #[ek l[j].1, ev' l[j].2]) w := by
  have hborn : (ents ek ev' 0 l).map (·.born) = List.range l.length := by
    have : ∀ (l : List (K × V)) (i : Nat), (ents ek ev' i l).map (·.born) = List.range' i l.length := by
      intro l
      induction l with
      | nil => intro i; rfl
      | cons x l ih => intro i; obtain ⟨k, v⟩ := x; rw [ents, List.map_cons, ih, List.length_cons, List.range'_succ]
    rw [this, List.range_eq_range']
  have hg := ents_get (ek := ek) (ev' := ev') l 0 j hj
  rw [Nat.zero_add] at hg
  have he := List.mem_of_getElem? hg
  have hp : (seen ++ [j]).toArray = seen.toArray.push j := by simp
  rw [hp] at hr
  exact run_entry_at (P := P) w r b l.length seen.toArray (ents ek ev' 0 l).toArray l.length { key := ek l[j].1, val := ev' l[j].2, born := j } hr hb (by simpa using he) (by
    simp only [hborn]
    exact List.nodup_range)

/-- the entry of the last step, read again -/
theorem Plan.entry {it : Operand} {r b : Nat} {l : List (K × V)} {seen : List Nat} {j : Nat} (jm : MapAt J L ek ev' b l) (ji : Nat) (hj : j < l.length) (ho : ops[i]? = some ⟨d, .entry it, ty, pos, aft, g⟩) (hg : wantE ops ⟨d, .entry it, ty, pos, aft, g⟩ E = true)
    (hi : ev E it = .pointer (some ⟨r, 0, none⟩)) (hji : L[ji]? = some (Res.it r b l.length (seen ++ [j])))
    (k : Plan J ops dest Q rest (upd E d (.tuple #[ek l[j].1, ev' l[j].2])) ds L) : Plan J ops dest Q ((i, .st) :: rest) E ds L :=
  Plan.st ho hg (St.of_exec (by intro c h; cases h) fun w hm => by
    have hb : w.heap[b]? = some (.map (ents ek ev' 0 l).toArray l.length) := jm.get0 hm
    have hr : w.heap[r]? = some (.mapIter (some b) l.length (seen ++ [j]).toArray l.length) := hm.res _ (mem_of_get hji)
    unfold execOp
    simp only [hi, Sem.run_bind, run_entryOf hj hb hr, Result.andThen]
    rfl) k
end

end Go.Proofs.Ytjmklbkcpjmcaaa.H

namespace Go.Proofs.Ytjmklbkcpjmcaaa.H
open Go Go.RowKit
set_option linter.unusedVariables false
set_option linter.unusedSimpArgs false

section
variable {F : Fence} {n : Nat} {P : Program} {Q : Exit → Act → World → Prop} {a : Act} {w : World}
theorem stepR_scope {b : Frame} {k : List Item} {cs : List Frame} {c : Code} : step P (lone (b.atR a (.code (.scope c) :: k)) cs w) = .next (lone (b.atR a (.code c :: .inScope c :: k)) cs w) :=
  step_lone_go (by simp [stepG, stepG.exec, Frame.atR])
theorem stepR_inScope {b : Frame} {k : List Item} {cs : List Frame} {c : Code} : step P (lone (b.atR a (.inScope c :: k)) cs w) = .next (lone (b.atR a k) cs w) :=
  step_lone_go (by simp [stepG, stepG.exec, Frame.atR])

/-- a scope through which the run goes without a goto -/
theorem wpIn_scope {c : Code} (h : c.wpIn F n P (Exit.noGoto Q) a w) : (Code.scope c).wpIn F n P Q a w := by
  intro b k cs hro hb hr
  have h0 : (lone (b.atR a (.code (.scope c) :: k)) cs w).fenced P F := fenced_calm hb hr rfl
  obtain ⟨e, a₁, w₁, hq, harr⟩ := h b (.inScope c :: k) cs hro hb hr
  cases e with
  | normal => exact ⟨.normal, a₁, w₁, hq, .head h0 stepR_scope (StepsIn.trans harr (.one (fenced_calm hb hr rfl) stepR_inScope))⟩
  | exit id' =>
    have hx : exitTo id' (.inScope c :: k) = exitTo id' k := by simp [exitTo]
    exact ⟨.exit id', a₁, w₁, hq, fun k' hk => .head h0 stepR_scope (harr.1 k' (by rw [hx]; exact hk)),
      fun hr' hk => let ⟨k₁, h1, h2⟩ := harr.2 hr' (by rw [hx]; exact hk); ⟨k₁, h1, .head h0 stepR_scope h2⟩⟩
  | goto l => exact hq.elim
  | ret => exact ⟨_, a₁, w₁, hq, .of_steps (.one h0 stepR_scope) harr⟩
  | panic ch => exact ⟨_, a₁, w₁, hq, .of_steps (.one h0 stepR_scope) harr⟩
  | outgrown => exact ⟨_, a₁, w₁, hq, .of_steps (.one h0 stepR_scope) harr⟩
end

def noGoto (Q : Post) : Post := fun e => match e with
  | .goto _ => fun _ _ _ => False
  | e => Q e

theorem HW.scope {J : Jd} {c : Code} {Q : Post} {E : Env} {ds : List Deferred} {L : List Res} (h : HW J c (noGoto Q) E ds L) : HW J (.scope c) Q E ds L := fun a w hr hm => by
  refine wpIn_scope (wpIn_mono (h a w hr hm) ?_)
  rintro e a' w' ⟨E', ds', L', h1, h2, h3⟩
  cases e <;> first | exact ⟨E', ds', L', h1, h2, h3⟩ | exact h3.elim

section
variable {J : Jd} {ops : Array Oper} {dest : Option (List Nat)} {Q : Post} {i : Nat} {rest : List (Nat × Kind)} {E : Env} {ds : List Deferred} {L : List Res}
variable {d : Option Nat} {ty : TypeId} {pos : String} {aft : Array Edge} {g : Option (Nat × Bool)}
theorem Plan.nilCheck {x : Operand} {ad : Addr} (ho : ops[i]? = some ⟨d, .nilCheck x, ty, pos, aft, g⟩) (hg : wantE ops ⟨d, .nilCheck x, ty, pos, aft, g⟩ E = true) (hx : ev E x = .pointer (some ad))
    (k : Plan J ops dest Q rest (upd E d (.pointer (some ad))) ds L) : Plan J ops dest Q ((i, .st) :: rest) E ds L :=
  Plan.st ho hg (St.of_exec (by intro c h; cases h) fun w _ => by unfold execOp; simp only [hx]; rfl) k
end

/-- a cell of a block that was there before -/
theorem Sees.oldOne {J : Jd} {L : List Res} {b o : Nat} {cs : Array Value} {t : TypeId} {v : Value} (h : J.w0.heap[b]? = some (.cells cs t (0, 0))) (hX : b ∉ J.X) (hv : cs[o]? = some v) : Sees J L ⟨b, o, none⟩ [v] := fun w hm j u hu => by
  have h' := (hm.old b (Array.getElem?_eq_some_iff.1 h).1 hX).trans h
  rw [Addr.add_lit, cell_of_heap h']
  cases j with
  | zero => rw [← hu]; exact hv
  | succ j => simp at hu

end Go.Proofs.Ytjmklbkcpjmcaaa.H

namespace Go.Proofs.Ytjmklbkcpjmcaaa.H
open Go Go.RowKit
set_option linter.unusedVariables false
set_option linter.unusedSimpArgs false

section
variable {J : Jd} {ops : Array Oper} {dest : Option (List Nat)} {Q : Post} {i : Nat} {rest : List (Nat × Kind)} {E : Env} {ds : List Deferred} {L : List Res}
variable {d : Option Nat} {ty : TypeId} {pos : String} {aft : Array Edge} {g : Option (Nat × Bool)}
/-- a call of a function that is known by its number, by its contract; the resource at place j is handed over -/
theorem Plan.callJ {f : FuncId} {xs : Array Operand} {ts : Array TypeId} {args : List Value} {R : Value → List Res → Prop} (X : List Nat) (j : Nat)
    (ho : ops[i]? = some ⟨d, .call ⟨.value (.func f), xs, ts⟩, ty, pos, aft, g⟩) (hg : wantE ops ⟨d, .call ⟨.value (.func f), xs, ts⟩, ty, pos, aft, g⟩ E = true)
    (ha : xs.toList.map (ev E) = args) (hD : ∀ D, dest = some D → i ∈ D)
    (hX : ∃ r, L[j]? = some r ∧ ∀ b ∈ X, b ∈ r.foot)
    (hc : ∀ w, Mem J.w0 J.X L w → Ct J.P f args.toArray w X R) (k : ∀ v Ln, R v Ln → Plan J ops dest Q rest (upd E d v) ds (Ln ++ L.eraseIdx j)) : Plan J ops dest Q ((i, .ef) :: rest) E ds L :=
  Plan.ef ho hg (by intro c h; cases h) fun Rf w hm => by
    obtain ⟨hf, hcall⟩ := hc w (hm.sub (List.sublist_append_left _ _))
    have hr : (execOp (ev E) ⟨d, .call ⟨.value (.func f), xs, ts⟩, ty, pos, aft, g⟩).run J.P w = .ok (.enter f args.toArray) w := by
      unfold execOp
      subst ha
      simp [resolve, ev, Deferred.ofValue, invoke, hf _ _, map_list]
    rw [hr]
    refine Calls.mono hcall ?_
    rintro e w' ⟨v, Ln, rfl, h2, h3⟩
    obtain ⟨r, hj, hX⟩ := hX
    obtain ⟨hlt, hget⟩ := List.getElem?_eq_some_iff.1 hj
    have hp : (L ++ Rf).Perm ([r] ++ (L.eraseIdx j ++ Rf)) := by
      rw [← List.append_assoc]
      refine List.Perm.append_right Rf ?_
      have e : L = L.take j ++ r :: L.drop (j + 1) := by rw [← hget]; simp
      rw [List.eraseIdx_eq_take_drop_succ]
      refine List.Perm.trans (List.Perm.of_eq e) List.perm_middle
    refine ⟨v, Ln ++ L.eraseIdx j, rfl, ?_, fun D hD' hi => absurd (hD D hD') hi, k v Ln h3⟩
    rw [List.append_assoc]
    exact (hm.perm hp).call h2 fun b hb => ⟨r, by simp, hX b hb⟩

/-- the capacity of a slice -/
theorem Plan.cap {st e : TypeId} {x : Operand} {A : Option Addr} {n c : Nat} (ho : ops[i]? = some ⟨d, .call ⟨.builtin .cap, #[x], #[st]⟩, ty, pos, aft, g⟩)
    (hg : wantE ops ⟨d, .call ⟨.builtin .cap, #[x], #[st]⟩, ty, pos, aft, g⟩ E = true) (hs : J.P.underlying st = some (.slice e)) (hx : ev E x = .slice A n c)
    (k : Plan J ops dest Q rest (upd E d (.int .i64 c)) ds L) : Plan J ops dest Q ((i, .st) :: rest) E ds L :=
  Plan.st ho hg (St.of_exec (by intro c h; cases h) fun w _ => by
    unfold execOp
    simp [resolve, hx, invoke, builtin, Builtin.cap_, run_underlying hs, goInt, Result.andThen]) k
end

theorem Lies.notMap {w : World} {a : Addr} {vs : List Value} {b n : Nat} {es : Array MapEntry} (h : Lies w a vs) (hv : 0 < vs.length) (hb : w.heap[b]? = some (.map es n)) : a.block ≠ b := by
  intro e
  have h0 := h 0 vs[0] (by rw [List.getElem?_eq_getElem hv])
  have hbl : (a.add 0).block = a.block := by unfold Addr.add; split <;> rfl
  have hlt := World.block_lt_of_cell? _ _ h0
  unfold World.cell? at h0
  rw [hbl, e, hb] at h0
  simp at h0

theorem Rd.memMap {α : Type} {enc : α → List Value} {k : Nat} {w0 w : World} {L : List Res} {A : Option Addr} {xs : List α} {b n : Nat} {es : Array MapEntry} (h : Rd enc k w0 A xs) (hm : Mem w0 [b] L w) (hb : w0.heap[b]? = some (.map es n))
    (hk : ∀ x, 0 < (enc x).length) : Rd enc k w A xs := fun i hi => by
  obtain ⟨a, e, hl⟩ := h i hi
  refine ⟨a, e, hl.keep fun b' hb' e' => hm.old b' hb' ?_⟩
  have := hl.notMap (hk _) hb
  simp only [List.mem_singleton]
  rw [e']
  exact this

/-- a map that came in and may be changed -/
theorem Mem.ownMap {K V : Type} {ek : K → Value} {ev' : V → Value} {w : World} {b : Nat} {l : List (K × V)} (h : w.heap[b]? = some (.map (ents ek ev' 0 l).toArray l.length)) : Mem w [b] [Res.mp ek ev' b l] w := by
  have hb : b < w.heap.size := (Array.getElem?_eq_some_iff.1 h).1
  refine ⟨rfl, rfl, Nat.le_refl _, rfl, Nat.le_refl _, fun _ _ _ => rfl, fun r hr => ?_, fun r hr c hc => ?_, List.pairwise_singleton _ _⟩
  · obtain rfl := List.mem_singleton.1 hr
    exact h
  · obtain rfl := List.mem_singleton.1 hr
    have hc : c = b := by simpa [Res.mp, Res.obj] using hc
    subst hc
    exact ⟨hb, .inr (by simp)⟩

theorem mem_putK {K V : Type} [DecidableEq K] {k : K} {v : V} {l : List (K × V)} {e : K × V} (h : e ∈ putK k v l) : e ∈ l ∨ e = (k, v) := by
  unfold putK at h
  split at h
  · rcases List.mem_or_eq_of_mem_set h with h | h
    · exact .inl h
    · exact .inr h
  · rcases List.mem_append.1 h with h | h
    · exact .inl h
    · exact .inr (List.mem_singleton.1 h)

theorem valAt_mem {K V : Type} [DecidableEq K] {k : K} {v : V} {l : List (K × V)} (h : valAt k l = some v) : (k, v) ∈ l := by
  unfold valAt at h
  obtain ⟨e, he, rfl⟩ := Option.map_eq_some_iff.1 h
  have h1 := List.find?_some he
  have h2 := List.mem_of_find?_eq_some he
  obtain ⟨a, b⟩ := e
  simp only [decide_eq_true_eq] at h1
  subst h1
  exact h2

end Go.Proofs.Ytjmklbkcpjmcaaa.H

namespace Go.Proofs.Ytjmklbkcpjmcaaa.H
open Go Go.RowKit
set_option linter.unusedVariables false
set_option linter.unusedSimpArgs false

section
variable {J : Jd} {ops : Array Oper} {dest : Option (List Nat)} {Q : Post} {i : Nat} {rest : List (Nat × Kind)} {E : Env} {ds : List Deferred} {L : List Res}
variable {d : Option Nat} {ty : TypeId} {pos : String} {aft : Array Edge} {g : Option (Nat × Bool)}
/-- append(nothing, n zeros): room of one's own -/
theorem Plan.appendZ0 {α : Type} {st tn e : TypeId} {kn : IntKind} {x y : Operand} {z : Value} {sz bytes n : Nat} (enc : α → List Value)
    (ho : ops[i]? = some ⟨d, .call ⟨.builtin .append, #[x, y], #[st, tn]⟩, ty, pos, aft, g⟩) (hg : wantE ops ⟨d, .call ⟨.builtin .append, #[x, y], #[st, tn]⟩, ty, pos, aft, g⟩ E = true)
    (ht : J.P.underlying st = some (.slice e)) (htn : J.P.underlying tn = some (.int kn)) (hinf : ∃ ti, J.P.info? e = some ti ∧ (ti.zero, ti.size, ti.bytes) = (some z, sz, bytes)) (hzs : z.cells.size = sz) (hpos : 0 < sz)
    (hx : ev E x = .slice none 0 0) (hy : ev E y = .int .i64 (n : Int)) (h0 : 0 < n) (hb : n * bytes ≤ 281474976710656) (hn : n ≤ maxLen)
    (k : ∀ b c', n ≤ c' → Plan J ops dest Q rest (upd E d (.slice (some ⟨b, 0, none⟩) n c')) ds (Res.own enc sz e (some b) c' ([] : List α) :: L)) : Plan J ops dest Q ((i, .ef) :: rest) E ds L :=
  Plan.ef ho hg (by intro c h; cases h) fun Rf w hm => by
    obtain ⟨ti, hi, hty⟩ := hinf
    have hz : ti.zero = some z := congrArg (·.1) hty
    have hs : ti.size = sz := congrArg (·.2.1) hty
    have hby : ti.bytes = bytes := congrArg (·.2.2) hty
    have hn' : (n : Int) ≤ 9223372036854775807 := by simp only [maxLen] at hn; omega
    have hrun := Lib.run_append_nil_zeros (P := J.P) w st tn ty e ti z .i64 kn ht htn hi hz n h0 (by omega) hn' (by rw [hby]; exact hb)
    have hr : (execOp (ev E) ⟨d, .call ⟨.builtin .append, #[x, y], #[st, tn]⟩, ty, pos, aft, g⟩).run J.P w = .ok (.value (.slice (some ⟨w.heap.size, 0, none⟩) n (grownCap w n 0 e))) (w.drew.alloc (.cells (Builtin.zeroCells z.cells n ++ Builtin.zeroCells z.cells (grownCap w n 0 e - n)) e)) := by
      unfold execOp
      simp [resolve, hx, hy, invoke, builtin, hrun, Result.andThen]
    rw [hr]
    have hge := grownCap_ge w n 0 e
    have hmx := grownCap_le_maxLen w n 0 e hn
    have hm0 : Mem J.w0 J.X (L ++ Rf) w.drew := hm.drawn (w.drawn + 1) (Nat.le_succ _)
    have hm1 : Mem J.w0 J.X ((Res.blk w.heap.size (Builtin.zeroCells z.cells n ++ Builtin.zeroCells z.cells (grownCap w n 0 e - n)) e :: L) ++ Rf) (w.drew.alloc (.cells (Builtin.zeroCells z.cells n ++ Builtin.zeroCells z.cells (grownCap w n 0 e - n)) e (0, 0))) := hm0.alloc _ e
    have hm2 := Mem.swap 0 hm1 rfl (Res.own enc sz e (some w.heap.size) (grownCap w n 0 e) ([] : List α)) (List.Sublist.refl _) (fun hh => by
      refine ⟨by simp, .inr ⟨w.heap.size, grownCap w n 0 e, _, rfl, Nat.zero_le _, hh, by simp, hmx, ?_, by simp⟩⟩
      rw [Array.size_append, size_zeroCells, size_zeroCells, hzs, ← Nat.add_mul]
      congr 1
      omega)
    exact ⟨Res.own enc sz e (some w.heap.size) (grownCap w n 0 e) ([] : List α) :: L, hm2, fun D _ _ Rf w' hm' => hm'.sub (List.sublist_cons_self _ _), k _ _ hge⟩
end

end Go.Proofs.Ytjmklbkcpjmcaaa.H

namespace Go.Proofs.Ytjmklbkcpjmcaaa.H
open Go Go.RowKit
set_option linter.unusedVariables false
set_option linter.unusedSimpArgs false

section
variable {J : Jd} {ops : Array Oper} {dest : Option (List Nat)} {Q : Post} {i : Nat} {rest : List (Nat × Kind)} {E : Env} {ds : List Deferred} {L : List Res}
variable {d : Option Nat} {ty : TypeId} {pos : String} {aft : Array Edge} {g : Option (Nat × Bool)}
theorem wrap_u8 {n : Int} (h0 : 0 ≤ n) (h1 : n ≤ 255) : IntKind.u8.wrap n = n := by
  simp [IntKind.wrap, IntKind.bits, IntKind.signed]; omega

theorem Plan.remU {xt yt : TypeId} {x y : Operand} {a b : Int} (ho : ops[i]? = some ⟨d, .binOp .rem xt x y yt, ty, pos, aft, g⟩)
    (hg : wantE ops ⟨d, .binOp .rem xt x y yt, ty, pos, aft, g⟩ E = true) (hx : ev E x = .int .u8 a) (hy : ev E y = .int .u8 b) (h : 0 ≤ a ∧ 0 < b)
    (k : Plan J ops dest Q rest (upd E d (.int .u8 (a % b))) ds L) : Plan J ops dest Q ((i, .st) :: rest) E ds L :=
  Plan.st ho hg (St.of_exec (by intro c h; cases h) fun w _ => by
    unfold execOp
    have hb : b ≠ 0 := by omega
    have ht : a.tmod b = a % b := Int.tmod_eq_emod_of_nonneg h.1
    simp [hx, hy, eqGuard, binOp, Op.intDiv, hb, Result.andThen, ht]) k

theorem Plan.quoU {xt yt : TypeId} {x y : Operand} {a b : Int} (ho : ops[i]? = some ⟨d, .binOp .quo xt x y yt, ty, pos, aft, g⟩)
    (hg : wantE ops ⟨d, .binOp .quo xt x y yt, ty, pos, aft, g⟩ E = true) (hx : ev E x = .int .u8 a) (hy : ev E y = .int .u8 b) (h : 0 ≤ a ∧ a ≤ 255 ∧ 0 < b)
    (k : Plan J ops dest Q rest (upd E d (.int .u8 (a / b))) ds L) : Plan J ops dest Q ((i, .st) :: rest) E ds L :=
  Plan.st ho hg (St.of_exec (by intro c h; cases h) fun w _ => by
    unfold execOp
    have hb : b ≠ 0 := by omega
    have ht : a.tdiv b = a / b := Int.tdiv_eq_ediv_of_nonneg h.1
    have h1 : 0 ≤ a / b := Int.ediv_nonneg h.1 (by omega)
    have h2 : a / b ≤ a := Int.ediv_le_self b h.1
    have hw := wrap_u8 (n := a / b) (by omega) (by omega)
    simp [hx, hy, eqGuard, binOp, Op.intDiv, hb, Result.andThen, ht, hw]) k

theorem Plan.convI {src dst : TypeId} {x : Operand} {kd : IntKind} {n : Int} (ho : ops[i]? = some ⟨d, .convert src dst x, ty, pos, aft, g⟩) (hg : wantE ops ⟨d, .convert src dst x, ty, pos, aft, g⟩ E = true)
    (hs : ∃ ds, J.P.underlying src = some ds) (hd : J.P.underlying dst = some (.int .i64)) (hx : ev E x = .int kd n) (h : -9223372036854775808 ≤ n ∧ n ≤ 9223372036854775807)
    (k : Plan J ops dest Q rest (upd E d (.int .i64 n)) ds L) : Plan J ops dest Q ((i, .st) :: rest) E ds L :=
  Plan.st ho hg (St.of_exec (by intro c h; cases h) fun w _ => by
    unfold execOp convert
    obtain ⟨ds, hs⟩ := hs
    have hw := wrap_i64 (n := n) (by omega) (by omega)
    simp [hx, run_underlying hs, run_underlying hd, Conv.intToInt, hw, Result.andThen]) k
end

end Go.Proofs.Ytjmklbkcpjmcaaa.H

namespace Go.Proofs.Ytjmklbkcpjmcaaa.H
open Go Go.RowKit
set_option linter.unusedVariables false
set_option linter.unusedSimpArgs false

/-- blocks that a slice of n elements does not lie in -/
def Off (X : List Nat) (A : Option Addr) (n : Nat) : Prop := ∀ a, A = some a → 0 < n → a.block ∉ X

theorem Addr.add_block (a : Addr) (n : Nat) : (a.add n).block = a.block := by
  unfold Addr.add
  split <;> rfl

theorem Rd.memX {α : Type} {enc : α → List Value} {k : Nat} {w0 w : World} {X : List Nat} {L : List Res} {A : Option Addr} {xs : List α} (h : Rd enc k w0 A xs) (hm : Mem w0 X L w) (ho : Off X A xs.length) : Rd enc k w A xs := fun i hi => by
  obtain ⟨a, e, hl⟩ := h i hi
  refine ⟨a, e, hl.keep fun b' hb' e' => hm.old b' hb' ?_⟩
  rw [e', Addr.add_block]
  exact ho a e (by omega)

theorem Off.nil {A : Option Addr} {n : Nat} : Off [] A n := fun a _ _ h => by simp at h
theorem Off.mono {X : List Nat} {A : Option Addr} {n m : Nat} (h : Off X A n) (hm : 0 < m → 0 < n) : Off X A m := fun a e hp => h a e (hm hp)

/-- a slice that came in lies in no block that was made later -/
theorem Rd.off {α : Type} {enc : α → List Value} {k : Nat} {w : World} {A : Option Addr} {xs : List α} (h : Rd enc k w A xs) (hk : ∀ x, 0 < (enc x).length) {X : List Nat} (hX : ∀ b ∈ X, w.heap.size ≤ b) : Off X A xs.length := fun a e hn hb => by
  obtain ⟨a', e', hl⟩ := h 0 hn
  rw [e] at e'
  obtain rfl : a = a' := by injection e'
  have hv : 0 < (enc xs[0]).length := hk _
  have h1 := hl 0 (enc xs[0])[0] (List.getElem?_eq_getElem hv)
  have hlt : ((a.add (0 * k)).add 0).block < w.heap.size := World.block_lt_of_cell? _ _ h1
  rw [Addr.add_block, Addr.add_block] at hlt
  have := hX _ hb
  omega

theorem Sees.rdX {J : Jd} {L : List Res} {α : Type} {enc : α → List Value} {k : Nat} {a : Addr} {xs : List α} (h : Rd enc k J.w0 (some a) xs) (hX : Off J.X (some a) xs.length) (i : Nat) (hi : i < xs.length) : Sees J L (a.add (i * k)) (enc xs[i]) := by
  obtain ⟨a', e, hl⟩ := h i hi
  obtain rfl : a = a' := by injection e
  exact Sees.old hl (by rw [Addr.add_block]; exact hX a rfl (by omega))

theorem Sees.nth {J : Jd} {L : List Res} {a : Addr} {vs : List Value} {v : Value} (h : Sees J L a vs) (j : Nat) (hv : vs[j]? = some v) : Sees J L (a.add j) [v] := fun w hm j' u hu => by
  cases j' with
  | zero =>
    simp only [List.getElem?_cons_zero, Option.some.injEq] at hu
    subst hu
    rw [H.add_add]
    exact h w hm j v hv
  | succ j' => cases hu

/-- blocks that came in and may be changed -/
theorem Mem.own2 {w : World} {r s : Res} (hr : r.holds w) (hs : s.holds w) (fr : ∀ b ∈ r.foot, b < w.heap.size) (fs : ∀ b ∈ s.foot, b < w.heap.size) (hd : ∀ b ∈ r.foot, b ∉ s.foot) : Mem w (r.foot ++ s.foot) [r, s] w :=
  ⟨rfl, rfl, Nat.le_refl _, rfl, Nat.le_refl _, fun _ _ _ => rfl, fun q hq => by
    rcases List.mem_cons.1 hq with rfl | hq
    · exact hr
    · obtain rfl := List.mem_singleton.1 hq
      exact hs, fun q hq b hb => by
    rcases List.mem_cons.1 hq with rfl | hq
    · exact ⟨fr b hb, .inr (List.mem_append_left _ hb)⟩
    · obtain rfl := List.mem_singleton.1 hq
      exact ⟨fs b hb, .inr (List.mem_append_right _ hb)⟩, List.pairwise_cons.2 ⟨fun q hq => by
    obtain rfl := List.mem_singleton.1 hq
    exact hd, List.pairwise_singleton _ _⟩⟩
theorem Mem.own1 {w : World} {r : Res} (hr : r.holds w) (fr : ∀ b ∈ r.foot, b < w.heap.size) : Mem w r.foot [r] w :=
  ⟨rfl, rfl, Nat.le_refl _, rfl, Nat.le_refl _, fun _ _ _ => rfl, fun q hq => by
    obtain rfl := List.mem_singleton.1 hq
    exact hr, fun q hq b hb => by
    obtain rfl := List.mem_singleton.1 hq
    exact ⟨fr b hb, .inr hb⟩, List.pairwise_singleton _ _⟩

theorem Res.own_lt {α : Type} {enc : α → List Value} {sz : Nat} {e : TypeId} {b c : Nat} {xs : List α} {w : World} (h : (Res.own enc sz e (some b) c xs).holds w) : b < w.heap.size := by
  obtain ⟨cur, h1, _⟩ := Res.own_cells h b rfl
  exact (Array.getElem?_eq_some_iff.1 h1).1

/-- the address of x[lo:] -/
def cutA (A : Option Addr) (c lo sz : Nat) : Option Addr := if c = lo then A else A.map (·.add (lo * sz))

theorem Rd.cut {α : Type} {enc : α → List Value} {k : Nat} {w : World} {A : Option Addr} {xs : List α} {c : Nat} (h : Rd enc k w A xs) (hc : xs.length ≤ c) (lo : Nat) : Rd enc k w (cutA A c lo k) (xs.drop lo) := fun i hi => by
  rw [List.length_drop] at hi
  obtain ⟨a, rfl, hl⟩ := h (lo + i) (by omega)
  refine ⟨a.add (lo * k), ?_, ?_⟩
  · unfold cutA
    rw [if_neg (by omega)]
    rfl
  · rw [List.getElem_drop, H.add_add]
    have : lo * k + i * k = (lo + i) * k := by rw [Nat.add_mul]
    rw [this]
    exact hl

theorem Off.cut {X : List Nat} {A : Option Addr} {n c lo k : Nat} (h : Off X A n) : Off X (cutA A c lo k) (n - lo) := fun a e hp => by
  unfold cutA at e
  split at e
  · exact h a e (by omega)
  · obtain ⟨a', rfl, rfl⟩ := Option.map_eq_some_iff.1 e
    rw [Addr.add_block]
    exact h a' rfl (by omega)

theorem run_sliceLoA {P : Program} {w : World} {st e : TypeId} {A : Option Addr} {n c lo sz : Nat} {kd : IntKind} (ht : P.underlying st = some (.slice e)) (hsz : (sizeOf e).run P w = .ok sz w) (h : lo ≤ n) :
    (Instr.sliceAt st (.slice A n c) (some (.int kd (lo : Int))) none none).run P w = .ok (.slice (cutA A c lo sz) (n - lo) (c - lo)) w := by
  have h1 : (lo : Int) ≤ (n : Int) := by omega
  simp [Instr.sliceAt, Instr.slice, run_underlying ht, Instr.sliceBounds, Instr.sliceBound, asIntOf, h1, h, hsz, cutA]

theorem run_lift_value2 {P : Program} {s : Sem Value} {w w' : World} {v : Value} (h : s.run P w = .ok v w') : (do pure (.value (← s)) : Sem Next).run P w = .ok (.value v) w' := by
  simp [h]

theorem made_flat {α : Type} {enc : α → List Value} {x0 : α} {z : Value} {sz : Nat} (hz : z.cells.toList = enc x0) (hpos : 0 < sz) (hsz : z.cells.size = sz) (n : Nat) : (madeCells z.cells (n * sz)).toList = (List.replicate n x0).flatMap enc := by
  have hlen : ∀ x ∈ List.replicate n x0, (enc x).length = sz := fun x hx => by
    rw [List.eq_of_mem_replicate hx, ← hz, Array.length_toList, hsz]
  have h0 : (enc x0).length = sz := by rw [← hz, Array.length_toList, hsz]
  refine List.ext_getElem ?_ fun i h1 h2 => ?_
  · rw [Array.length_toList, size_madeCells]
    clear hlen
    induction n with
    | zero => simp
    | succ n ih => rw [List.replicate_succ, List.flatMap_cons, List.length_append, ← ih, h0, Nat.add_mul]; omega
  · rw [Array.length_toList, size_madeCells] at h1
    have e1 : (madeCells z.cells (n * sz)).toList[i] = (enc x0)[i % sz]'(by rw [h0]; exact Nat.mod_lt _ hpos) := by
      have hm : i % sz < z.cells.size := by rw [hsz]; exact Nat.mod_lt _ hpos
      simp only [madeCells, Array.getElem_toList, Array.getElem_map, Array.getElem_range, hsz]
      rw [getElem!_pos z.cells (i % sz) hm, ← Array.getElem_toList]
      simp only [hz]
    rw [e1]
    clear e1 hlen
    revert h2
    induction n generalizing i with
    | zero => omega
    | succ n ih =>
      intro h2
      simp only [List.replicate_succ, List.flatMap_cons]
      by_cases hi : i < sz
      · rw [List.getElem_append_left (by rw [h0]; exact hi)]
        simp only [Nat.mod_eq_of_lt hi]
      · have hn : (n + 1) * sz = n * sz + sz := by rw [Nat.add_mul]; omega
        have hi2 : i - sz < n * sz := by omega
        rw [List.getElem_append_right (by rw [h0]; omega)]
        simp only [h0]
        have e2 : i % sz = (i - sz) % sz := by rw [← Nat.mod_eq_sub_mod (by omega)]
        simp only [e2]
        exact ih (i - sz) (by rw [Array.length_toList, size_madeCells]; exact hi2) hi2 (by simp only [List.replicate_succ, List.flatMap_cons, List.length_append, h0] at h2; omega)

section
variable {J : Jd} {ops : Array Oper} {dest : Option (List Nat)} {Q : Post} {i : Nat} {rest : List (Nat × Kind)} {E : Env} {ds : List Deferred} {L : List Res}
variable {d : Option Nat} {ty : TypeId} {pos : String} {aft : Array Edge} {g : Option (Nat × Bool)}
theorem Plan.sliceLoA {st e : TypeId} {x y : Operand} {A : Option Addr} {n c sz : Nat} {kd : IntKind} {q : Int} (lo : Nat) (ho : ops[i]? = some ⟨d, .slice st x (some y) none none, ty, pos, aft, g⟩)
    (hg : wantE ops ⟨d, .slice st x (some y) none none, ty, pos, aft, g⟩ E = true) (ht : J.P.underlying st = some (.slice e)) (hsz : ∀ w, (sizeOf e).run J.P w = .ok sz w) (hx : ev E x = .slice A n c)
    (hy : ev E y = .int kd q) (hq : q = (lo : Int)) (h : lo ≤ n) (k : Plan J ops dest Q rest (upd E d (.slice (cutA A c lo sz) (n - lo) (c - lo))) ds L) : Plan J ops dest Q ((i, .st) :: rest) E ds L :=
  Plan.st ho hg (St.of_exec (by intro c h; cases h) fun w _ => by
    subst hq
    unfold execOp
    simp only [hx, Option.map_some, Option.map_none, hy]
    exact run_lift_value (run_sliceLoA ht (hsz w) h)) k

theorem run_append0 {P : Program} {st ety e : TypeId} {A B : Option Addr} {n c k : Nat} {w : World} (ht : P.underlying st = some (.slice e)) (hi : ∃ ti, P.info? e = some ti) (h : n ≤ c) :
    (Builtin.append_ #[st, st] ety #[.slice A n c, .slice B 0 k]).run P w = .ok (.slice A n c) w := by
  obtain ⟨ti, hi⟩ := hi
  cases A <;> cases B <;> simp [Builtin.append_, run_underlying ht, sizeOf, typeInfo, hi, Builtin.lenOf, Builtin.firstCells, h, storeCells, loadCells, loadCellsFrom]

/-- append(x, y...), y a slice that came in -/
theorem Plan.appendRd {α : Type} {enc : α → List Value} {sz : Nat} {e : TypeId} {st : TypeId} {x y : Operand} {z : Value} {bytes : Nat} {o : Option Nat} {n m c k' : Nat} {xs ys : List α} {A : Option Addr} (j : Nat)
    (ho : ops[i]? = some ⟨d, .call ⟨.builtin .append, #[x, y], #[st, st]⟩, ty, pos, aft, g⟩) (hg : wantE ops ⟨d, .call ⟨.builtin .append, #[x, y], #[st, st]⟩, ty, pos, aft, g⟩ E = true)
    (hD : ∀ D, dest = some D → i ∈ D) (ht : J.P.underlying st = some (.slice e)) (hinf : ∃ ti, J.P.info? e = some ti ∧ (ti.zero, ti.size, ti.bytes) = (some z, sz, bytes)) (hzs : z.cells.size = sz) (hpos : 0 < sz)
    (hk : ∀ x, (enc x).length = sz) (h1 : ∀ x, (enc x).all (·.oneCell') = true)
    (hj : L[j]? = some (Res.own enc sz e o c xs)) (hx : ev E x = slv o n c) (hn : n = xs.length) (hy : ev E y = .slice A m k') (hm : m = ys.length) (hys : ∀ w, Mem J.w0 J.X L w → Rd enc sz w A ys)
    (hb : (xs.length + ys.length) * bytes ≤ 140737488355328) (hl : xs.length + ys.length ≤ 9223372036854775807)
    (k : ∀ o' c', Plan J ops dest Q rest (upd E d (slv o' (xs.length + ys.length) c')) ds (L.set j (Res.own enc sz e o' c' (xs ++ ys)))) : Plan J ops dest Q ((i, .ef) :: rest) E ds L := by
  cases ys with
  | nil =>
    refine Plan.ef ho hg (by intro c h; cases h) fun Rf w hw => ?_
    subst hn hm
    obtain ⟨ti, hi, hty⟩ := hinf
    have hcap := (Res.own_cap (hw.res _ (List.mem_append_left _ (mem_of_get hj)))).1
    have hrun : (execOp (ev E) ⟨d, .call ⟨.builtin .append, #[x, y], #[st, st]⟩, ty, pos, aft, g⟩).run J.P w = .ok (.value (slv o xs.length c)) w := by
      unfold execOp
      simp [resolve, hx, hy, invoke, builtin, run_append0 ht ⟨ti, hi⟩ hcap, Result.andThen]
    rw [hrun]
    have hk0 := k o c
    have e1 : L.set j (Res.own enc sz e o c (xs ++ [])) = L := by
      rw [List.append_nil]
      obtain ⟨hlt, hget⟩ := List.getElem?_eq_some_iff.1 hj
      rw [← hget, List.set_getElem_self]
    rw [e1] at hk0
    exact ⟨L, hw, fun D _ _ Rf => Sub.refl _ _, hk0⟩
  | cons y0 ys =>
    cases A with
    | none =>
      refine Plan.ef ho hg (by intro c h; cases h) fun Rf w hw => ?_
      obtain ⟨a, e, _⟩ := hys w (hw.sub (List.sublist_append_left _ _)) 0 (by simp)
      cases e
    | some a =>
      exact Plan.append (enc := enc) (ys := y0 :: ys) (a := a) j ho hg hD ht hinf hzs hpos hk h1 hj hx hn hy hm (fun w hw => (hys w hw).all hk) hb hl k

/-- make([]T, n) -/
theorem Plan.makeOwn {α : Type} {st e : TypeId} {x : Operand} {z : Value} {sz bytes : Nat} (enc : α → List Value) (x0 : α) (n : Nat)
    (ho : ops[i]? = some ⟨d, .makeSlice st x x, ty, pos, aft, g⟩) (hg : wantE ops ⟨d, .makeSlice st x x, ty, pos, aft, g⟩ E = true)
    (ht : J.P.underlying st = some (.slice e)) (hinf : ∃ ti, J.P.info? e = some ti ∧ (ti.zero, ti.size, ti.bytes) = (some z, sz, bytes)) (hz : z.cells.toList = enc x0) (hpos : 0 < sz) (hsz : z.cells.size = sz)
    {kd : IntKind} {q : Int} (hx : ev E x = .int kd q) (hq : q = (n : Int)) (hb : bytes * n ≤ 281474976710656) (hn : n ≤ 9223372036854775807)
    (k : ∀ b, Plan J ops dest Q rest (upd E d (slv (some b) n n)) ds (Res.own enc sz e (some b) n (List.replicate n x0) :: L)) : Plan J ops dest Q ((i, .ef) :: rest) E ds L :=
  Plan.ef ho hg (by intro c h; cases h) fun Rf w hm => by
    subst hq
    obtain ⟨ti, hi, hty⟩ := hinf
    have hz1 : ti.zero = some z := congrArg (·.1) hty
    have hs : ti.size = sz := congrArg (·.2.1) hty
    have hby : ti.bytes = bytes := congrArg (·.2.2) hty
    have hb' : (ti.bytes : Int) * (n : Int) ≤ 281474976710656 := by
      have h : ((ti.bytes * n : Nat) : Int) ≤ 281474976710656 := by rw [hby]; omega
      rwa [Int.natCast_mul] at h
    have hrun := run_make (P := J.P) w st e ti z ht hi hz1 kd kd (n : Int) (n : Int) (by omega) (Int.le_refl _) hb' (by omega)
    simp only [Int.toNat_natCast, hs] at hrun
    have hr : (execOp (ev E) ⟨d, .makeSlice st x x, ty, pos, aft, g⟩).run J.P w = .ok (.value (.slice (some ⟨w.heap.size, 0, none⟩) n n)) (w.alloc (.cells (madeCells z.cells (n * sz)) e)) := by
      unfold execOp
      simp only [hx]
      exact run_lift_value2 hrun
    rw [hr]
    have hm1 : Mem J.w0 J.X ((Res.blk w.heap.size (madeCells z.cells (n * sz)) e :: L) ++ Rf) (w.alloc (.cells (madeCells z.cells (n * sz)) e (0, 0))) := hm.alloc _ e
    have hm2 := Mem.swap 0 hm1 rfl (Res.own enc sz e (some w.heap.size) n (List.replicate n x0)) (List.Sublist.refl _) (fun hh => by
      refine own_of_blk ?_ ?_ (by simp only [maxLen, List.length_replicate]; exact hn) (by simp) hh
      · exact made_flat hz hpos hsz n
      · rw [size_madeCells]; simp)
    exact ⟨Res.own enc sz e (some w.heap.size) n (List.replicate n x0) :: L, hm2, fun D _ _ Rf w' hm' => hm'.sub (List.sublist_cons_self _ _), k _⟩
end

end Go.Proofs.Ytjmklbkcpjmcaaa.H
