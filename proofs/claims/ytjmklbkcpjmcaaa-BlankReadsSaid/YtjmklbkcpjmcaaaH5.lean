/-
  The frame of these proofs, sixth part: slices of one's own.
-/
import Derived.Test.YtjmklbkcpjmcaaaH4
import Derived.Laws.StructEq
namespace Go.Proofs.Ytjmklbkcpjmcaaa.H
open Go Go.RowKit
set_option linter.unusedVariables false
set_option linter.unusedSimpArgs false

/-- the address of a slice of one's own: block o from its head, or nil -/
def at0 (o : Option Nat) : Option Addr := o.map fun b => ⟨b, 0, none⟩
abbrev slv (o : Option Nat) (n c : Nat) : Value := .slice (at0 o) n c

theorem slv_eq {o : Option Nat} {n m c : Nat} (h : n = m) : slv o n c = slv o m c := by rw [h]

theorem heap_own {w w' : World} {base : Nat} {e : TypeId} {sz n c : Nat} {o : Option Nat} {cells : List Value} (h : w.ownsRow base e sz (slv o n c) n cells) (hb : ∀ b, o = some b → w'.heap[b]? = w.heap[b]?) :
    w'.ownsRow base e sz (slv o n c) n cells := by
  refine ⟨h.1, ?_⟩
  rcases h.2 with h2 | ⟨g, cap, cur, h1, h2, h3, h4⟩
  · exact .inl h2
  · cases o with
    | none => simp [at0] at h1
    | some b =>
      have hg : g = b := by simp [at0] at h1; omega
      subst hg
      exact .inr ⟨g, cap, cur, h1, h2, (hb g rfl).trans h3, h4⟩

/-- a slice of one's own: its elements xs, each of sz cells -/
def Res.own {α : Type} (enc : α → List Value) (sz : Nat) (e : TypeId) (o : Option Nat) (c : Nat) (xs : List α) : Res where
  foot := o.toList
  holds := fun w => w.ownsRow 0 e sz (slv o xs.length c) xs.length (xs.flatMap enc)
  loc := fun w w' h hw => heap_own hw fun b hb => h b (by rw [hb]; exact List.mem_singleton.2 rfl)

section facts
variable {α : Type} {enc : α → List Value} {sz : Nat} {e : TypeId} {o : Option Nat} {c : Nat} {xs : List α} {w : World}

theorem Res.own_nil (w : World) : (Res.own enc sz e none 0 ([] : List α)).holds w := World.ownsRow_nil w 0 e sz

theorem Res.own_cells (h : (Res.own enc sz e o c xs).holds w) (b : Nat) (hb : o = some b) : ∃ cur : Array Value, w.heap[b]? = some (.cells cur e (0, 0)) ∧ cur.size = c * sz ∧ xs.length ≤ c ∧ c ≤ maxLen ∧
    cur.toList.take (xs.length * sz) = xs.flatMap enc := by
  subst hb
  rcases h.2 with h2 | ⟨g, cap, cur, h1, h2, h3, h4, h5, h6, h7⟩
  · simp [at0] at h2
  · simp only [at0, Option.map_some, Value.slice.injEq, Option.some.injEq, Addr.mk.injEq] at h1
    obtain ⟨⟨rfl, _⟩, _, rfl⟩ := h1
    exact ⟨cur, h3, h6, h4, h5, h7⟩

theorem Res.own_some (h : (Res.own enc sz e o c xs).holds w) (hx : 0 < xs.length) : ∃ b, o = some b := by
  cases o with
  | some b => exact ⟨b, rfl⟩
  | none =>
    rcases h.2 with ⟨_, h2⟩ | ⟨g, cap, cur, h1, _⟩
    · omega
    · simp [at0] at h1

theorem Res.own_cap (h : (Res.own enc sz e o c xs).holds w) : xs.length ≤ c ∧ (o = none → xs = [] ∧ c = 0) := by
  cases o with
  | some b => obtain ⟨_, _, _, h3, _⟩ := Res.own_cells h b rfl; exact ⟨h3, fun h => (by cases h)⟩
  | none =>
    rcases h.2 with ⟨h1, h2⟩ | ⟨g, cap, cur, h1, _⟩
    · have : xs = [] := List.eq_nil_of_length_eq_zero h2
      subst this
      have hc : c = 0 := by simpa [at0] using h1
      exact ⟨by omega, fun _ => ⟨rfl, hc⟩⟩
    · simp [at0] at h1

theorem flatMap_get (hk : ∀ x, (enc x).length = sz) : ∀ (xs : List α) (i : Nat) (hi : i < xs.length) (j : Nat), j < sz → (xs.flatMap enc)[i * sz + j]? = (enc xs[i])[j]?
  | [], i, hi, _, _ => absurd hi (Nat.not_lt_zero _)
  | x :: xs, 0, _, j, hj => by
    simp only [List.flatMap_cons, Nat.zero_mul, Nat.zero_add, List.getElem_cons_zero]
    rw [List.getElem?_append_left (by rw [hk]; exact hj)]
  | x :: xs, i + 1, hi, j, hj => by
    simp only [List.flatMap_cons, List.getElem_cons_succ]
    rw [List.getElem?_append_right (by rw [hk, Nat.add_mul]; omega), hk]
    have : (i + 1) * sz + j - sz = i * sz + j := by rw [Nat.add_mul]; omega
    rw [this]
    exact flatMap_get hk xs i (by simpa using hi) j hj

theorem length_flatMap (hk : ∀ x, (enc x).length = sz) : ∀ xs : List α, (xs.flatMap enc).length = xs.length * sz
  | [] => by simp
  | x :: xs => by simp only [List.flatMap_cons, List.length_append, hk, length_flatMap hk xs, List.length_cons, Nat.add_mul]; omega

/-- an element of a slice of one's own -/
theorem Res.own_elem (hk : ∀ x, (enc x).length = sz) (h : (Res.own enc sz e o c xs).holds w) (b : Nat) (hb : o = some b) (i : Nat) (hi : i < xs.length) : Lies w ((⟨b, 0, none⟩ : Addr).add (i * sz)) (enc xs[i]) := by
  obtain ⟨cur, h1, h2, h3, h4, h5⟩ := Res.own_cells h b hb
  intro j u hu
  have hj : j < sz := by
    rw [← hk xs[i]]
    exact (List.getElem?_eq_some_iff.1 hu).1
  have hlt : i * sz + j < xs.length * sz := by
    have : (i + 1) * sz ≤ xs.length * sz := Nat.mul_le_mul_right _ hi
    rw [Nat.add_mul] at this; omega
  rw [Addr.add_lit, Addr.add_lit, cell_of_heap h1]
  have := flatMap_get hk xs i hi j hj
  rw [← h5, List.getElem?_take_of_lt hlt, hu] at this
  simpa using this

theorem Res.own_rd (hk : ∀ x, (enc x).length = sz) (h : (Res.own enc sz e o c xs).holds w) : Rd enc sz w (at0 o) xs := fun i hi => by
  obtain ⟨b, rfl⟩ := Res.own_some h (by omega)
  exact ⟨⟨b, 0, none⟩, rfl, Res.own_elem hk h b rfl i hi⟩
end facts

theorem Mem.addNil {α : Type} {enc : α → List Value} {sz : Nat} {e : TypeId} {w0 w : World} {X : List Nat} {L : List Res} (h : Mem w0 X L w) : Mem w0 X (Res.own enc sz e none 0 ([] : List α) :: L) w :=
  ⟨h.os, h.tape, h.dr, h.output, h.size, h.old, fun r hr => by
    rcases List.mem_cons.1 hr with rfl | hr
    · exact Res.own_nil w
    · exact h.res r hr, fun r hr b hb => by
    rcases List.mem_cons.1 hr with rfl | hr
    · cases hb
    · exact h.foot r hr b hb, List.pairwise_cons.2 ⟨fun s _ b hb => (by cases hb), h.sep⟩⟩

/-- what is known may be said otherwise -/
theorem HW.conv {J : Jd} {c : Code} {Q : Post} {E : Env} {ds : List Deferred} {L : List Res} (L' : List Res) (hL : ∀ w, Mem J.w0 J.X L w → Mem J.w0 J.X L' w) (h : HW J c Q E ds L') : HW J c Q E ds L :=
  fun a w hr hm => h a w hr (hL w hm)

theorem HW.addNil {J : Jd} {c : Code} {Q : Post} {E : Env} {ds : List Deferred} {L : List Res} {α : Type} (enc : α → List Value) (sz : Nat) (e : TypeId)
    (h : HW J c Q E ds (Res.own enc sz e none 0 ([] : List α) :: L)) : HW J c Q E ds L := HW.conv _ (fun _ hm => hm.addNil) h

/-- one resource in place of another one with the same blocks or fewer -/
theorem Mem.swap {w0 w : World} {X : List Nat} {L Rf : List Res} {r : Res} (j : Nat) (hm : Mem w0 X (L ++ Rf) w) (hj : L[j]? = some r) (r' : Res) (hf : r'.foot.Sublist r.foot) (hh : r.holds w → r'.holds w) :
    Mem w0 X (L.set j r' ++ Rf) w := by
  have hlt : j < L.length := (List.getElem?_eq_some_iff.1 hj).1
  have hget : L[j] = r := (List.getElem?_eq_some_iff.1 hj).2
  have hL : L = L.take j ++ r :: L.drop (j + 1) := by rw [← hget]; simp
  have hS : L.set j r' = L.take j ++ r' :: L.drop (j + 1) := by rw [List.set_eq_take_append_cons_drop, if_pos hlt]
  have hp1 : (L ++ Rf).Perm (r :: (L.take j ++ L.drop (j + 1) ++ Rf)) := by
    rw (occs := .pos [1]) [hL]
    exact List.perm_middle.append_right Rf
  have hp2 : (r' :: (L.take j ++ L.drop (j + 1) ++ Rf)).Perm (L.set j r' ++ Rf) := by
    rw [hS]
    exact (List.perm_middle.append_right Rf).symm
  refine Mem.perm ?_ hp2
  have hm := hm.perm hp1
  generalize L.take j ++ L.drop (j + 1) ++ Rf = M at hm
  have hsep := List.pairwise_cons.1 hm.sep
  refine ⟨hm.os, hm.tape, hm.dr, hm.output, hm.size, hm.old, ?_, ?_, ?_⟩
  · intro r1 hr
    rcases List.mem_cons.1 hr with rfl | hr1
    · exact hh (hm.res _ List.mem_cons_self)
    · exact hm.res r1 (List.mem_cons_of_mem _ hr1)
  · intro r1 hr k hk
    rcases List.mem_cons.1 hr with rfl | hr1
    · exact hm.foot r List.mem_cons_self k (hf.subset hk)
    · exact hm.foot r1 (List.mem_cons_of_mem _ hr1) k hk
  · exact List.pairwise_cons.2 ⟨fun s hs k hk => hsep.1 s hs k (hf.subset hk), hsep.2⟩

/-- a resource is taken away and comes back changed, with the world -/
theorem Mem.step {w0 w w' : World} {X : List Nat} {L Rf : List Res} {r r' : Res} (j : Nat) (hm : Mem w0 X (L ++ Rf) w) (hj : L[j]? = some r) (hs : Mem w r.foot [r'] w') : Mem w0 X (L.set j r' ++ Rf) w' := by
  have hlt : j < L.length := (List.getElem?_eq_some_iff.1 hj).1
  have hget : L[j] = r := (List.getElem?_eq_some_iff.1 hj).2
  have hL : L = L.take j ++ r :: L.drop (j + 1) := by rw [← hget]; simp
  have hS : L.set j r' = L.take j ++ r' :: L.drop (j + 1) := by rw [List.set_eq_take_append_cons_drop, if_pos hlt]
  have hp1 : (L ++ Rf).Perm ([r] ++ (L.take j ++ L.drop (j + 1) ++ Rf)) := by
    rw (occs := .pos [1]) [hL]
    exact List.perm_middle.append_right Rf
  have hp2 : ([r'] ++ (L.take j ++ L.drop (j + 1) ++ Rf)).Perm (L.set j r' ++ Rf) := by
    rw [hS]
    exact (List.perm_middle.append_right Rf).symm
  exact ((hm.perm hp1).call hs (fun b hb => ⟨r, List.mem_singleton.2 rfl, hb⟩)).perm hp2

section
variable {J : Jd} {ops : Array Oper} {dest : Option (List Nat)} {Q : Post} {i : Nat} {rest : List (Nat × Kind)} {E : Env} {ds : List Deferred} {L : List Res}
variable {d : Option Nat} {ty : TypeId} {pos : String} {aft : Array Edge} {g : Option (Nat × Bool)}
variable {α : Type} {enc : α → List Value} {sz : Nat} {e : TypeId}

theorem Sees.own {o : Option Nat} {c : Nat} {xs : List α} (j : Nat) (hk : ∀ x, (enc x).length = sz) (hj : L[j]? = some (Res.own enc sz e o c xs)) (b : Nat) (hb : o = some b) (m : Nat) (hm : m < xs.length) :
    Sees J L ((⟨b, 0, none⟩ : Addr).add (m * sz)) (enc xs[m]) := fun w hw => Res.own_elem hk (hw.res _ (mem_of_get hj)) b hb m hm

theorem Sees.ownAll {o : Option Nat} {c : Nat} {xs : List α} (j : Nat) (hj : L[j]? = some (Res.own enc sz e o c xs)) (b : Nat) (hb : o = some b) : Sees J L ⟨b, 0, none⟩ (xs.flatMap enc) := fun w hw j' u hu => by
  obtain ⟨cur, h1, h2, h3, h4, h5⟩ := Res.own_cells (hw.res _ (mem_of_get hj)) b hb
  rw [Addr.add_lit, cell_of_heap h1, Nat.zero_add]
  rw [← h5] at hu
  rw [List.getElem?_take] at hu
  split at hu
  · simpa using hu
  · cases hu

/-! append -/
theorem run_append {P : Program} {w : World} {st ety : TypeId} {ti : TypeInfo} {z : Value} {bytes : Nat} (ht : P.underlying st = some (.slice e)) (hi : P.info? e = some ti) (hz : ti.zero = some z)
    (hsz : ti.size = sz) (hby : ti.bytes = bytes) (hzs : z.cells.size = sz) (hpos : 0 < sz) (hk : ∀ x, (enc x).length = sz) (h1 : ∀ x, (enc x).all (·.oneCell') = true)
    {o : Option Nat} {c : Nat} {xs ys : List α} (hown : (Res.own enc sz e o c xs).holds w) {a : Addr} {m : Nat} (hys : Lies w a (ys.flatMap enc))
    (hb : (xs.length + ys.length) * bytes ≤ 140737488355328) (hl : xs.length + ys.length ≤ maxLen) {X : List Nat} :
    ∃ o' c' w', (Builtin.append_ #[st, st] ety #[slv o xs.length c, .slice (some a) ys.length m]).run P w = .ok (slv o' (xs.length + ys.length) c') w' ∧
      Mem w (Res.own enc sz e o c xs).foot [Res.own enc sz e o' c' (xs ++ ys)] w' := by
  have hone : ∀ u ∈ ys.flatMap enc, u.oneCell' = true := by
    intro u hu
    obtain ⟨y, _, hu⟩ := List.mem_flatMap.1 hu
    exact List.all_eq_true.1 (h1 y) u hu
  obtain ⟨v', w', hr, how, hg, hnil, hat⟩ := run_append_own_at (P := P) w 0 st ety e ti z sz bytes ht hi hz hsz hby hzs hpos (slv o xs.length c) xs.length (xs.flatMap enc) hown a ys.length m (ys.flatMap enc)
    (length_flatMap hk ys) hys hone hl hb (Nat.zero_le _)
  have hshape : ∃ o' c', v' = slv o' (xs.length + ys.length) c' := by
    rcases how.2 with ⟨rfl, h0⟩ | ⟨g', cap, cur, rfl, _⟩
    · exact ⟨none, 0, by rw [h0]; rfl⟩
    · exact ⟨some g', cap, rfl⟩
  obtain ⟨o', c', rfl⟩ := hshape
  have hob : ∀ (o : Option Nat) (n c : Nat), (slv o n c).ownBlock = o := fun o n c => by cases o <;> rfl
  rw [hob, hob] at hat
  rw [hob] at hg
  refine ⟨o', c', w', hr, hg.os, hg.tape, drawn_run _ _ _ _ _ hr, hg.output, hg.size, ?_, ?_, ?_, List.pairwise_singleton _ _⟩
  · intro b hb hX
    refine hg.block b hb fun h => hX ?_
    show b ∈ o.toList
    rw [← h]; exact List.mem_singleton.2 rfl
  · intro r hr
    obtain rfl := List.mem_singleton.1 hr
    show w'.ownsRow 0 e sz (slv o' (xs ++ ys).length c') (xs ++ ys).length ((xs ++ ys).flatMap enc)
    rw [List.length_append, List.flatMap_append]
    exact how
  · intro r hr b hb
    obtain rfl := List.mem_singleton.1 hr
    have hb : b ∈ o'.toList := hb
    have hbo : o' = some b := by cases o' with
      | none => cases hb
      | some k => rw [List.mem_singleton.1 hb]
    have hlt := how.lt b (by rw [hob]; exact hbo)
    refine ⟨hlt.2, ?_⟩
    rcases hat with h | h
    · right; show b ∈ o.toList; rw [← h, hbo]; exact List.mem_singleton.2 rfl
    · left; rw [hbo] at h; injection h with h; omega

/-- append onto a slice of one's own -/
theorem Plan.append {st : TypeId} {x y : Operand} {z : Value} {bytes : Nat} {o : Option Nat} {n m c k' : Nat} {xs ys : List α} {a : Addr} (j : Nat)
    (ho : ops[i]? = some ⟨d, .call ⟨.builtin .append, #[x, y], #[st, st]⟩, ty, pos, aft, g⟩) (hg : wantE ops ⟨d, .call ⟨.builtin .append, #[x, y], #[st, st]⟩, ty, pos, aft, g⟩ E = true)
    (hD : ∀ D, dest = some D → i ∈ D) (ht : J.P.underlying st = some (.slice e)) (hinf : ∃ ti, J.P.info? e = some ti ∧ (ti.zero, ti.size, ti.bytes) = (some z, sz, bytes)) (hzs : z.cells.size = sz) (hpos : 0 < sz)
    (hk : ∀ x, (enc x).length = sz) (h1 : ∀ x, (enc x).all (·.oneCell') = true)
    (hj : L[j]? = some (Res.own enc sz e o c xs)) (hx : ev E x = slv o n c) (hn : n = xs.length) (hy : ev E y = .slice (some a) m k') (hm : m = ys.length) (hys : Sees J L a (ys.flatMap enc))
    (hb : (xs.length + ys.length) * bytes ≤ 140737488355328) (hl : xs.length + ys.length ≤ 9223372036854775807)
    (k : ∀ o' c', Plan J ops dest Q rest (upd E d (slv o' (xs.length + ys.length) c')) ds (L.set j (Res.own enc sz e o' c' (xs ++ ys)))) : Plan J ops dest Q ((i, .ef) :: rest) E ds L :=
  Plan.ef ho hg (by intro c h; cases h) fun Rf w hw => by
    subst hn hm
    obtain ⟨ti, hi, hty⟩ := hinf
    obtain ⟨o', c', w', hr, hs⟩ := run_append (P := J.P) (w := w) (X := J.X) ht hi (congrArg (·.1) hty) (congrArg (·.2.1) hty) (congrArg (·.2.2) hty) hzs hpos hk h1 (hw.res _ (List.mem_append_left _ (mem_of_get hj)))
      (hys w (hw.sub (List.sublist_append_left _ _))) hb (by simp only [maxLen]; exact hl) (ety := ty) (m := k')
    have hrun : (execOp (ev E) ⟨d, .call ⟨.builtin .append, #[x, y], #[st, st]⟩, ty, pos, aft, g⟩).run J.P w = .ok (.value (slv o' (xs.length + ys.length) c')) w' := by
      unfold execOp
      simp [resolve, hx, hy, invoke, builtin, hr, Result.andThen]
    rw [hrun]
    exact ⟨_, Mem.step j hw hj hs, fun D hD' hi => absurd (hD D hD') hi, k o' c'⟩

/-! slice literals -/
theorem Plan.buildSlice {st : TypeId} {len : Nat} {parts : Array (Nat × Operand)} {ps : List (Nat × Value)} {cs : Array Value} (ho : ops[i]? = some ⟨d, .buildSlice st len parts, ty, pos, aft, g⟩)
    (hg : wantE ops ⟨d, .buildSlice st len parts, ty, pos, aft, g⟩ E = true) (hp : parts.toList.map (fun x => (x.1, ev E x.2)) = ps)
    (hb : ∀ w, (Instr.buildSlice st len ps.toArray).run J.P w = .ok (.slice (some ⟨w.heap.size, 0, none⟩) len len) (w.alloc (.cells cs e (0, 0))))
    (k : ∀ b, Plan J ops dest Q rest (upd E d (.slice (some ⟨b, 0, none⟩) len len)) ds (Res.blk b cs e :: L)) : Plan J ops dest Q ((i, .ef) :: rest) E ds L :=
  Plan.ef ho hg (by intro c h; cases h) fun Rf w hm => by
    have hr : (execOp (ev E) ⟨d, .buildSlice st len parts, ty, pos, aft, g⟩).run J.P w = .ok (.value (.slice (some ⟨w.heap.size, 0, none⟩) len len)) (w.alloc (.cells cs e (0, 0))) := by
      unfold execOp
      subst hp
      have := hb w
      rw [← map_list] at this
      simp only [Sem.run_bind]
      erw [this]
      rfl
    rw [hr]
    exact ⟨Res.blk w.heap.size cs e :: L, hm.alloc cs e, fun D _ _ Rf w' hm' => hm'.sub (List.sublist_cons_self _ _), k _⟩

/-- a block that is a whole slice -/
theorem own_of_blk {b c : Nat} {cs : Array Value} {xs : List α} {w : World} (hc : cs.toList = xs.flatMap enc) (hs : cs.size = xs.length * sz) (hl : xs.length ≤ maxLen) (hcap : c = xs.length)
    (h : (Res.blk b cs e).holds w) : (Res.own enc sz e (some b) c xs).holds w := by
  subst hcap
  refine ⟨by rw [← hc, Array.length_toList, hs], .inr ⟨b, xs.length, cs, rfl, Nat.zero_le _, h, Nat.le_refl _, hl, hs, ?_⟩⟩
  rw [← hc, ← hs]
  exact List.take_of_length_le (by simp)

/-- a slice literal, as a slice of one's own -/
theorem Plan.buildOwn {st : TypeId} {len : Nat} {parts : Array (Nat × Operand)} {ps : List (Nat × Value)} {cs : Array Value} {xs : List α} (ho : ops[i]? = some ⟨d, .buildSlice st len parts, ty, pos, aft, g⟩)
    (hg : wantE ops ⟨d, .buildSlice st len parts, ty, pos, aft, g⟩ E = true) (hp : parts.toList.map (fun x => (x.1, ev E x.2)) = ps)
    (hb : ∀ w, (Instr.buildSlice st len ps.toArray).run J.P w = .ok (.slice (some ⟨w.heap.size, 0, none⟩) len len) (w.alloc (.cells cs e (0, 0))))
    (hc : cs.toList = xs.flatMap enc) (hs : cs.size = len * sz) (hl : xs.length ≤ 9223372036854775807) (hcap : len = xs.length)
    (k : ∀ b, Plan J ops dest Q rest (upd E d (slv (some b) len len)) ds (Res.own enc sz e (some b) len xs :: L)) : Plan J ops dest Q ((i, .ef) :: rest) E ds L :=
  Plan.ef ho hg (by intro c h; cases h) fun Rf w hm => by
    have hr : (execOp (ev E) ⟨d, .buildSlice st len parts, ty, pos, aft, g⟩).run J.P w = .ok (.value (.slice (some ⟨w.heap.size, 0, none⟩) len len)) (w.alloc (.cells cs e (0, 0))) := by
      unfold execOp
      subst hp
      have := hb w
      rw [← map_list] at this
      simp only [Sem.run_bind]
      erw [this]
      rfl
    rw [hr]
    subst hcap
    have hm1 : Mem J.w0 J.X ((Res.blk w.heap.size cs e :: L) ++ Rf) (w.alloc (.cells cs e (0, 0))) := hm.alloc cs e
    have hm2 := Mem.swap 0 hm1 rfl (Res.own enc sz e (some w.heap.size) xs.length xs) (List.Sublist.refl _) (own_of_blk hc hs hl rfl)
    exact ⟨Res.own enc sz e (some w.heap.size) xs.length xs :: L, hm2, fun D _ _ Rf w' hm' => hm'.sub (List.sublist_cons_self _ _), k _⟩

theorem add_add (a : Addr) (m n : Nat) : (a.add m).add n = a.add (m + n) := by
  unfold Addr.add
  by_cases hm : m = 0
  · subst hm; simp
  · by_cases hn : n = 0
    · subst hn; simp
    · simp [hm, hn, Nat.add_assoc]

/-- all cells of a slice that came in -/
theorem Rd.all {k : Nat} {w : World} {a : Addr} {xs : List α} (hk : ∀ x, (enc x).length = k) (h : Rd enc k w (some a) xs) : Lies w a (xs.flatMap enc) := by
  intro j u hu
  rcases Nat.eq_zero_or_pos k with rfl | hpos
  · have : xs.flatMap enc = [] := List.eq_nil_of_length_eq_zero (by rw [length_flatMap hk]; simp)
    rw [this] at hu; cases hu
  · have hj : j < xs.length * k := by
      rw [← length_flatMap hk xs]
      exact (List.getElem?_eq_some_iff.1 hu).1
    have hi : j / k < xs.length := Nat.div_lt_of_lt_mul (by rw [Nat.mul_comm]; exact hj)
    have hr : j % k < k := Nat.mod_lt _ hpos
    have hjk : j / k * k + j % k = j := by rw [Nat.mul_comm]; exact Nat.div_add_mod j k
    obtain ⟨a', e1, hl⟩ := h (j / k) hi
    obtain rfl : a = a' := by injection e1
    have h1 := flatMap_get hk xs (j / k) hi (j % k) hr
    rw [hjk, hu] at h1
    have h2 := hl (j % k) u h1.symm
    rw [add_add, hjk] at h2
    exact h2

theorem Sees.rdAll {k : Nat} {a : Addr} {xs : List α} (hk : ∀ x, (enc x).length = k) (h : Rd enc k J.w0 (some a) xs) (hX : J.X = []) : Sees J L a (xs.flatMap enc) := fun w hm => by
  rw [hX] at hm
  exact Rd.all hk (h.mem hm)

/-! nil -/
theorem run_eqNil {P : Program} {w : World} {st : TypeId} {A : Option Addr} {n c : Nat} (ht : P.underlying st = some (.slice e)) : (Op.equal st (.slice A n c) (.slice none 0 0)).run P w = .ok A.isNone w := by
  obtain ⟨d, hd⟩ : ∃ d, Op.maxDepth = d + 1 := ⟨9999, rfl⟩
  unfold Op.equal
  rw [hd]
  cases A with
  | none => simp [Op.equalIn, run_underlying ht]
  | some a => simp [Op.equalIn, run_underlying ht]

theorem Plan.eqNil {st yt : TypeId} {x y : Operand} {A : Option Addr} {n c : Nat} (ho : ops[i]? = some ⟨d, .binOp .eql st x y yt, ty, pos, aft, g⟩) (hg : wantE ops ⟨d, .binOp .eql st x y yt, ty, pos, aft, g⟩ E = true)
    (ht : J.P.underlying st = some (.slice e)) (hx : ev E x = .slice A n c) (hy : ev E y = .slice none 0 0) (k : Plan J ops dest Q rest (upd E d (.bool A.isNone)) ds L) : Plan J ops dest Q ((i, .st) :: rest) E ds L :=
  Plan.st ho hg (St.of_exec (by intro c h; cases h) fun w _ => by
    unfold execOp
    simp [hx, hy, eqGuard, binOp, run_eqNil ht, Result.andThen]) k

/-! parts of slices -/
theorem run_sliceHi {P : Program} {w : World} {st : TypeId} {A : Option Addr} {n c hi : Nat} {kd : IntKind} (ht : P.underlying st = some (.slice e)) (hsz : (sizeOf e).run P w = .ok sz w) (h : hi ≤ c) :
    (Instr.sliceAt st (.slice A n c) none (some (.int kd (hi : Int))) none).run P w = .ok (.slice A hi c) w := by
  have h1 : (hi : Int) ≤ (c : Int) := by omega
  have e1 : (if c = 0 then A else A.map (fun x => x.add 0)) = A := by cases A <;> simp [addr_add_zero]
  simp [Instr.sliceAt, Instr.slice, run_underlying ht, Instr.sliceBounds, Instr.sliceBound, asIntOf, h1, h, hsz, e1]

theorem Plan.sliceHi {st : TypeId} {x y : Operand} {A : Option Addr} {n c : Nat} {kd : IntKind} {q : Int} (hi : Nat) (ho : ops[i]? = some ⟨d, .slice st x none (some y) none, ty, pos, aft, g⟩)
    (hg : wantE ops ⟨d, .slice st x none (some y) none, ty, pos, aft, g⟩ E = true) (ht : J.P.underlying st = some (.slice e)) (hsz : ∀ w, (sizeOf e).run J.P w = .ok sz w) (hx : ev E x = .slice A n c)
    (hy : ev E y = .int kd q) (hq : q = (hi : Int)) (h : hi ≤ c) (k : Plan J ops dest Q rest (upd E d (.slice A hi c)) ds L) : Plan J ops dest Q ((i, .st) :: rest) E ds L :=
  Plan.st ho hg (St.of_exec (by intro c h; cases h) fun w _ => by
    subst hq
    unfold execOp
    simp only [hx, Option.map_some, Option.map_none, hy]
    exact run_lift_value (run_sliceHi ht (hsz w) h)) k

/-- a slice of one's own, cut to its first elements -/
theorem Res.own_take {o : Option Nat} {c : Nat} {xs : List α} {w : World} (hk : ∀ x, (enc x).length = sz) (m : Nat) (hm : m ≤ xs.length) (h : (Res.own enc sz e o c xs).holds w) : (Res.own enc sz e o c (xs.take m)).holds w := by
  have hlen : (xs.take m).length = m := by simp [hm]
  have htk : (xs.take m).flatMap enc = (xs.flatMap enc).take (m * sz) := by
    have h1 := congrArg (List.flatMap enc) (List.take_append_drop m xs)
    rw [List.flatMap_append] at h1
    rw [← h1]
    exact (List.take_left' (by rw [length_flatMap hk, hlen])).symm
  cases o with
  | none =>
    obtain ⟨h1, h2⟩ := (Res.own_cap h).2 rfl
    subst h1 h2
    simpa using Res.own_nil w
  | some b =>
    obtain ⟨cur, h1, h2, h3, h4, h5⟩ := Res.own_cells h b rfl
    refine ⟨length_flatMap hk _, .inr ⟨b, c, cur, rfl, Nat.zero_le _, h1, by rw [hlen]; omega, h4, h2, ?_⟩⟩
    rw [htk, hlen, ← h5, List.take_take]
    congr 1
    exact (Nat.min_eq_left (Nat.mul_le_mul_right _ hm)).symm

end

end Go.Proofs.Ytjmklbkcpjmcaaa.H
