/-
  The frame of these proofs, tenth part: maps that only grow.
-/
import Derived.Test.YtjmklbkcpjmcaaaH9
import Derived.Maps.RangeRun
namespace Go.Proofs.Ytjmklbkcpjmcaaa.H
open Go Go.RowKit
set_option linter.unusedVariables false
set_option linter.unusedSimpArgs false
set_option linter.unusedSectionVars false

/-- keys of one type: how they lie, and that the machine tells them apart -/
structure Keys (P : Program) (kt : TypeId) {K : Type} [DecidableEq K] (ek : K → Value) : Prop where
  desc : ∃ ds, P.underlying kt = some ds ∧ ∀ a b, Instr.sameNow ds (ek a) (ek b) = none
  chk : ∀ (e : Bool) (k : K) (w : World), (Instr.checkKey e 10000 kt (ek k)).run P w = .ok () w
  eq : ∀ (a b : K) (w : World), (Op.equal kt (ek a) (ek b)).run P w = .ok (decide (a = b)) w
  same : ∀ a : K, Instr.sameBits 10000 (ek a) (ek a) = true

section
variable {P : Program} {kt : TypeId} {K V : Type} [DecidableEq K] {ek : K → Value} {ev' : V → Value}

/-- the entries of a map, in the order of their coming -/
def ents (ek : K → Value) (ev' : V → Value) : Nat → List (K × V) → List MapEntry
  | _, [] => []
  | i, (k, v) :: r => { key := ek k, val := ev' v, born := i } :: ents ek ev' (i + 1) r

theorem ents_len (i : Nat) : ∀ l : List (K × V), (ents ek ev' i l).length = l.length
  | [] => rfl
  | (k, v) :: r => by rw [ents, List.length_cons, ents_len (i + 1) r, List.length_cons]
theorem ents_get : ∀ (l : List (K × V)) (i j : Nat) (h : j < l.length), (ents ek ev' i l)[j]? = some { key := ek l[j].1, val := ev' l[j].2, born := i + j }
  | [], _, _, h => absurd h (Nat.not_lt_zero _)
  | (k, v) :: r, i, 0, _ => rfl
  | (k, v) :: r, i, j + 1, h => by
    rw [ents, List.getElem?_cons_succ, ents_get r (i + 1) j (by simpa using h)]
    simp; omega
theorem ents_append : ∀ (l r : List (K × V)) (i : Nat), ents ek ev' i (l ++ r) = ents ek ev' i l ++ ents ek ev' (i + l.length) r
  | [], r, i => rfl
  | (k, v) :: l, r, i => by
    rw [List.cons_append, ents, ents_append l r (i + 1), ents, List.cons_append, List.length_cons]
    congr 3; omega
theorem ents_set : ∀ (l : List (K × V)) (i j : Nat) (k : K) (v v' : V) (h : l[j]? = some (k, v)), ents ek ev' i (l.set j (k, v')) = (ents ek ev' i l).modify j (fun e => { e with key := ek k, val := ev' v' })
  | [], _, _, _, _, _, h => by simp at h
  | (k', v0) :: r, i, 0, k, v, v', h => by
    simp only [List.getElem?_cons_zero, Option.some.injEq, Prod.mk.injEq] at h
    obtain ⟨rfl, rfl⟩ := h
    rfl
  | (k', v0) :: r, i, j + 1, k, v, v', h => by
    rw [List.set_cons_succ, ents, ents_set r (i + 1) j k v v' (by simpa using h), ents]
    rfl

/-- where a key lies -/
def keyAt (k : K) (l : List (K × V)) : Option Nat := l.findIdx? fun x => decide (x.1 = k)
/-- what a map holds for a key -/
def valAt (k : K) (l : List (K × V)) : Option V := (l.find? fun x => decide (x.1 = k)).map (·.2)
/-- a map with a value for a key -/
def putK (k : K) (v : V) (l : List (K × V)) : List (K × V) := match keyAt k l with
  | some i => l.set i (k, v)
  | none => l ++ [(k, v)]

theorem run_findAsking (hK : Keys P kt ek) (k : K) (w : World) : ∀ (l : List (K × V)) (b i : Nat), (Instr.findAsking kt (ek k) (ents ek ev' b l) i).run P w = .ok ((l.findIdx? fun x => decide (x.1 = k)).bind fun j => (l[j]?).map fun x => (i + j, ev' x.2)) w
  | [], b, i => rfl
  | (k', v) :: r, b, i => by
    have ih := run_findAsking hK k w r (b + 1) (i + 1)
    rw [ents]
    unfold Instr.findAsking
    simp only [Sem.run_bind, hK.eq, Result.andThen]
    by_cases h : k = k'
    · subst h
      simp [Sem.run_ite, List.findIdx?_cons]
    · have h' : ¬ k' = k := fun e => h e.symm
      simp only [h, decide_false, Bool.false_eq_true, if_false]
      rw [ih]
      simp only [List.findIdx?_cons, h', decide_false, Bool.false_eq_true, if_false]
      cases List.findIdx? (fun x => decide (x.1 = k)) r with
      | none => rfl
      | some j =>
        simp only [Option.map_some, Option.bind_some, List.getElem?_cons_succ]
        have e : i + 1 + j = i + (j + 1) := by omega
        rw [e]

theorem run_findKey (hK : Keys P kt ek) (k : K) (l : List (K × V)) (w : World) : (Instr.findKey kt (ek k) (ents ek ev' 0 l)).run P w = .ok ((keyAt k l).bind fun j => (l[j]?).map fun x => (j, ev' x.2)) w := by
  obtain ⟨ds, hd, hn⟩ := hK.desc
  unfold Instr.findKey
  simp only [Sem.run_bind, run_underlying hd, Result.andThen]
  cases l with
  | nil => rfl
  | cons x r =>
    obtain ⟨k', v⟩ := x
    have : Instr.findNow ds (ek k) (ents ek ev' 0 ((k', v) :: r)) 0 = none := by
      rw [ents]; unfold Instr.findNow; rw [hn k k']
    rw [this]
    have h := run_findAsking (ev' := ev') hK k w ((k', v) :: r) 0 0
    simp only [Nat.zero_add] at h
    exact h

theorem keyAt_get {k : K} {l : List (K × V)} {j : Nat} (h : keyAt k l = some j) : ∃ v, l[j]? = some (k, v) := by
  unfold keyAt at h
  rw [List.findIdx?_eq_some_iff_getElem] at h
  obtain ⟨h1, h2, _⟩ := h
  have h2 : l[j].1 = k := by simpa using h2
  exact ⟨l[j].2, by rw [List.getElem?_eq_getElem h1, ← h2]⟩
end

/-- a map of one's own -/
abbrev Res.mp {K V : Type} (ek : K → Value) (ev' : V → Value) (b : Nat) (l : List (K × V)) : Res := Res.obj b (.map (ents ek ev' 0 l).toArray l.length)
/-- an iterator over it that has seen some entries -/
abbrev Res.it (b m n : Nat) (seen : List Nat) : Res := Res.obj b (.mapIter (some m) n seen.toArray n)

theorem Mem.putAt {w0 w : World} {X : List Nat} {L Rf : List Res} {b : Nat} {o : Obj} (j : Nat) (hm : Mem w0 X (L ++ Rf) w) (hj : L[j]? = some (Res.obj b o)) (o' : Obj) : Mem w0 X (L.set j (Res.obj b o') ++ Rf) (w.putObj b o') := by
  have hlt : j < L.length := (List.getElem?_eq_some_iff.1 hj).1
  have hget : L[j] = Res.obj b o := (List.getElem?_eq_some_iff.1 hj).2
  have hL : L = L.take j ++ Res.obj b o :: L.drop (j + 1) := by rw [← hget]; simp
  have hS : L.set j (Res.obj b o') = L.take j ++ Res.obj b o' :: L.drop (j + 1) := by rw [List.set_eq_take_append_cons_drop, if_pos hlt]
  have hp1 : (L ++ Rf).Perm (Res.obj b o :: (L.take j ++ L.drop (j + 1) ++ Rf)) := by
    rw (occs := .pos [1]) [hL]
    exact List.perm_middle.append_right Rf
  have hp2 : (Res.obj b o' :: (L.take j ++ L.drop (j + 1) ++ Rf)).Perm (L.set j (Res.obj b o') ++ Rf) := by
    rw [hS]
    exact (List.perm_middle.append_right Rf).symm
  exact ((hm.perm hp1).putO o').perm hp2

section
variable {J : Jd} {ops : Array Oper} {dest : Option (List Nat)} {Q : Post} {i : Nat} {rest : List (Nat × Kind)} {E : Env} {ds : List Deferred} {L : List Res}
variable {d : Option Nat} {ty : TypeId} {pos : String} {aft : Array Edge} {g : Option (Nat × Bool)}
variable {kt : TypeId} {K V : Type} [DecidableEq K] {ek : K → Value} {ev' : V → Value}

theorem run_newObj (P : Program) (o : Obj) (w : World) : (newObj o).run P w = .ok w.heap.size (w.alloc o) := rfl

theorem Plan.makeMap {t : TypeId} (ek : K → Value) (ev' : V → Value) (ho : ops[i]? = some ⟨d, .makeMap t none, ty, pos, aft, g⟩) (hg : wantE ops ⟨d, .makeMap t none, ty, pos, aft, g⟩ E = true)
    (k : ∀ b, Plan J ops dest Q rest (upd E d (.map (some b))) ds (Res.mp ek ev' b [] :: L)) : Plan J ops dest Q ((i, .ef) :: rest) E ds L :=
  Plan.ef ho hg (by intro c h; cases h) fun Rf w hm => by
    have hr : (execOp (ev E) ⟨d, .makeMap t none, ty, pos, aft, g⟩).run J.P w = .ok (.value (.map (some w.heap.size))) (w.alloc (.map #[] 0)) := rfl
    rw [hr]
    exact ⟨Res.mp ek ev' w.heap.size [] :: L, hm.allocO _, fun D _ _ Rf w' hm' => hm'.sub (List.sublist_cons_self _ _), k _⟩

theorem run_getObj {P : Program} {w : World} {b : Nat} {o : Obj} (h : w.heap[b]? = some o) (hc : ∀ cs t f, o ≠ .cells cs t f) : (getObj b).run P w = .ok o w := by
  unfold getObj Sem.run
  simp only [h]
  cases o <;> first | rfl | exact absurd rfl (hc _ _ _)
theorem run_setObj {P : Program} {w : World} {b : Nat} {o : Obj} (o' : Obj) (h : w.heap[b]? = some o) (hc : ∀ cs t f, o ≠ .cells cs t f) : (setObj b o').run P w = .ok () (w.putObj b o') := by
  unfold setObj Sem.run
  simp only [h]
  cases o <;> first | rfl | exact absurd rfl (hc _ _ _)

theorem run_mapUpdate {P : Program} {mt et : TypeId} (hK : Keys P kt ek) (ht : P.underlying mt = some (.map kt et)) {w : World} {b : Nat} {l : List (K × V)} (hb : w.heap[b]? = some (.map (ents ek ev' 0 l).toArray l.length)) (k : K) (v : V) :
    (Instr.mapUpdate mt (.map (some b)) (ek k) (ev' v)).run P w = .ok () (w.putObj b (.map (ents ek ev' 0 (putK k v l)).toArray (putK k v l).length)) := by
  unfold Instr.mapUpdate
  simp only [Sem.run_bind, run_underlying ht, Result.andThen, run_getObj hb (by intros; simp), hK.chk, run_findKey hK]
  unfold putK
  cases hk : keyAt k l with
  | none =>
    simp only [Option.bind_none]
    rw [run_setObj _ hb (by intros; simp)]
    congr 2
    rw [ents_append, List.length_append]
    simp [ents]
  | some j =>
    obtain ⟨v0, hv⟩ := keyAt_get hk
    have hj : j < l.length := (List.getElem?_eq_some_iff.1 hv).1
    have hkey : ((((ents ek ev' 0 l).toArray)[j]?).map (·.key)).getD (ek k) = ek k := by
      have hg := ents_get (ek := ek) (ev' := ev') l 0 j hj
      have : l[j].1 = k := by rw [List.getElem?_eq_getElem hj, Option.some.injEq] at hv; rw [hv]
      rw [List.getElem?_toArray, hg, this]
      rfl
    simp only [hv, Option.bind_some, Option.map_some]
    simp only [Sem.run_bind]
    rw [hkey]
    unfold Instr.keyThatStays
    rw [if_pos (hK.same k)]
    simp only [Sem.run_pure, Result.andThen]
    rw [run_setObj _ hb (by intros; simp)]
    congr 2
    rw [ents_set l 0 j k v0 v hv, List.length_set]
    simp

/-- a value is put into a map -/
theorem Plan.mapUpdate {mt et : TypeId} {m x y : Operand} {b : Nat} {l : List (K × V)} {k : K} {v : V} (j : Nat) (hK : Keys J.P kt ek) (ht : J.P.underlying mt = some (.map kt et)) (ho : ops[i]? = some ⟨d, .mapUpdate mt m x y, ty, pos, aft, g⟩)
    (hg : wantE ops ⟨d, .mapUpdate mt m x y, ty, pos, aft, g⟩ E = true) (hD : ∀ D, dest = some D → i ∈ D) (hm' : ev E m = .map (some b)) (hx : ev E x = ek k) (hy : ev E y = ev' v) (hj : L[j]? = some (Res.mp ek ev' b l))
    (k' : Plan J ops dest Q rest (upd E d undef) ds (L.set j (Res.mp ek ev' b (putK k v l)))) : Plan J ops dest Q ((i, .ef) :: rest) E ds L :=
  Plan.ef ho hg (by intro c h; cases h) fun Rf w hm => by
    have hb : w.heap[b]? = some (.map (ents ek ev' 0 l).toArray l.length) := hm.res _ (List.mem_append_left _ (mem_of_get hj))
    have hr : (execOp (ev E) ⟨d, .mapUpdate mt m x y, ty, pos, aft, g⟩).run J.P w = .ok .skip (w.putObj b (.map (ents ek ev' 0 (putK k v l)).toArray (putK k v l).length)) := by
      unfold execOp
      simp only [hm', hx, hy, Sem.run_bind, run_mapUpdate hK ht hb, Result.andThen]
      rfl
    rw [hr]
    exact ⟨_, Mem.putAt j hm hj _, fun D hD' hi => absurd (hD D hD') hi, k'⟩

theorem find_keyAt (k : K) : ∀ l : List (K × V), (keyAt k l).bind (fun j => (l[j]?).map fun x => (j, ev' x.2)) = none ∧ valAt k l = none ∨ ∃ j v, (keyAt k l).bind (fun j => (l[j]?).map fun x => (j, ev' x.2)) = some (j, ev' v) ∧ valAt k l = some v := by
  intro l
  cases hk : keyAt k l with
  | none =>
    refine .inl ⟨rfl, ?_⟩
    unfold keyAt at hk
    unfold valAt
    rw [List.findIdx?_eq_none_iff] at hk
    rw [List.find?_eq_none.2 (fun x hx => by have := hk x hx; simpa using this)]; rfl
  | some j =>
    obtain ⟨v, hv⟩ := keyAt_get hk
    refine .inr ⟨j, v, by simp [hv], ?_⟩
    unfold keyAt at hk
    unfold valAt
    rw [List.findIdx?_eq_some_iff_getElem] at hk
    obtain ⟨h1, h2, h3⟩ := hk
    have : l.find? (fun x => decide (x.1 = k)) = some l[j] := by
      rw [List.find?_eq_some_iff_getElem]
      exact ⟨h2, j, h1, rfl, fun i hi => by have := h3 i hi; simpa using this⟩
    rw [this]
    rw [List.getElem?_eq_getElem h1, Option.some.injEq] at hv
    rw [hv]; rfl

/-- a map is asked, with 'is it there?' -/
theorem Plan.lookupOk {mt et : TypeId} {m x : Operand} {b : Nat} {l : List (K × V)} {k : K} {z : Value} (j : Nat) (hK : Keys J.P kt ek) (ht : J.P.underlying mt = some (.map kt et)) (hz : ∀ w, (zeroValue et).run J.P w = .ok z w)
    (ho : ops[i]? = some ⟨d, .lookup mt m x true, ty, pos, aft, g⟩) (hg : wantE ops ⟨d, .lookup mt m x true, ty, pos, aft, g⟩ E = true) (hm' : ev E m = .map (some b)) (hx : ev E x = ek k) (hj : L[j]? = some (Res.mp ek ev' b l))
    (k1 : ∀ v, valAt k l = some v → Plan J ops dest Q rest (upd E d (.tuple #[ev' v, .bool true])) ds L) (k2 : valAt k l = none → Plan J ops dest Q rest (upd E d (.tuple #[z, .bool false])) ds L) : Plan J ops dest Q ((i, .st) :: rest) E ds L := by
  have key : ∀ w, Mem J.w0 J.X L w → (Instr.lookup mt (.map (some b)) (ek k) true).run J.P w = .ok (match valAt k l with | some v => .tuple #[ev' v, .bool true] | none => .tuple #[z, .bool false]) w := fun w hm => by
    have hb : w.heap[b]? = some (.map (ents ek ev' 0 l).toArray l.length) := hm.res _ (mem_of_get hj)
    unfold Instr.lookup
    simp only [Sem.run_bind, run_underlying ht, Result.andThen, run_getObj hb (by intros; simp), Sem.run_pure, hK.chk, run_findKey hK]
    rcases find_keyAt (ev' := ev') k l with ⟨h1, h2⟩ | ⟨j', v, h1, h2⟩
    · rw [h1, h2]; simp only [Sem.run_bind, hz, Result.andThen, Sem.run_pure]; rfl
    · rw [h1, h2]; simp only [Sem.run_pure, Result.andThen]; rfl
  refine Plan.st (v := match valAt k l with | some v => .tuple #[ev' v, .bool true] | none => .tuple #[z, .bool false]) ho hg (St.of_exec (by intro c h; cases h) fun w hm => by
    unfold execOp
    simp only [hm', hx, Sem.run_bind, key w hm, Result.andThen]
    rfl) ?_
  cases h : valAt k l with
  | none => exact k2 h
  | some v => exact k1 v h

/-- a map that may be read: one's own, or one that was there before -/
def MapAt (J : Jd) (L : List Res) (ek : K → Value) (ev' : V → Value) (b : Nat) (l : List (K × V)) : Prop :=
  (∃ j : Nat, L[j]? = some (Res.mp ek ev' b l)) ∨ (J.w0.heap[b]? = some (.map (ents ek ev' 0 l).toArray l.length) ∧ b ∉ J.X)
theorem MapAt.own {l : List (K × V)} {b : Nat} (j : Nat) (h : L[j]? = some (Res.mp ek ev' b l)) : MapAt J L ek ev' b l := Or.inl ⟨j, h⟩
theorem MapAt.old {l : List (K × V)} {b : Nat} (h : J.w0.heap[b]? = some (.map (ents ek ev' 0 l).toArray l.length)) (hX : b ∉ J.X) : MapAt J L ek ev' b l := Or.inr ⟨h, hX⟩
theorem MapAt.get {l : List (K × V)} {b : Nat} {Rf : List Res} {w : World} (h : MapAt J L ek ev' b l) (hm : Mem J.w0 J.X (L ++ Rf) w) : w.heap[b]? = some (.map (ents ek ev' 0 l).toArray l.length) := by
  rcases h with ⟨j, hj⟩ | ⟨h, hX⟩
  · exact hm.res _ (List.mem_append_left _ (mem_of_get hj))
  · exact (hm.old b (Array.getElem?_eq_some_iff.1 h).1 hX).trans h
theorem MapAt.get0 {l : List (K × V)} {b : Nat} {w : World} (h : MapAt J L ek ev' b l) (hm : Mem J.w0 J.X L w) : w.heap[b]? = some (.map (ents ek ev' 0 l).toArray l.length) :=
  h.get (Rf := []) (by rw [List.append_nil]; exact hm)

/-- an iterator is made -/
theorem Plan.range {mt et : TypeId} {m : Operand} {b : Nat} {l : List (K × V)} (jm : MapAt J L ek ev' b l) (ht : J.P.underlying mt = some (.map kt et)) (ho : ops[i]? = some ⟨d, .range mt m, ty, pos, aft, g⟩) (hg : wantE ops ⟨d, .range mt m, ty, pos, aft, g⟩ E = true)
    (hm' : ev E m = .map (some b)) (k : ∀ r, Plan J ops dest Q rest (upd E d (.pointer (some ⟨r, 0, none⟩))) ds (Res.it r b l.length [] :: L)) : Plan J ops dest Q ((i, .ef) :: rest) E ds L :=
  Plan.ef ho hg (by intro c h; cases h) fun Rf w hm => by
    have hb : w.heap[b]? = some (.map (ents ek ev' 0 l).toArray l.length) := jm.get hm
    have hr : (execOp (ev E) ⟨d, .range mt m, ty, pos, aft, g⟩).run J.P w = .ok (.value (.pointer (some ⟨w.heap.size, 0, none⟩))) (w.alloc (.mapIter (some b) l.length #[] l.length)) := by
      unfold execOp Instr.range
      simp only [hm', Sem.run_bind, run_underlying ht, Result.andThen, run_getObj hb (by intros; simp), Sem.run_pure, run_newObj]
    rw [hr]
    exact ⟨Res.it w.heap.size b l.length [] :: L, hm.allocO _, fun D _ _ Rf w' hm' => hm'.sub (List.sublist_cons_self _ _), k _⟩

/-- a step of an iterator: over, or any entry that it has not seen -/
theorem Plan.next {it : Operand} {r b : Nat} {l : List (K × V)} {seen : List Nat} (jm : MapAt J L ek ev' b l) (ji : Nat) (ho : ops[i]? = some ⟨d, .next it false, ty, pos, aft, g⟩) (hg : wantE ops ⟨d, .next it false, ty, pos, aft, g⟩ E = true) (hD : ∀ D, dest = some D → i ∈ D)
    (hi : ev E it = .pointer (some ⟨r, 0, none⟩)) (hji : L[ji]? = some (Res.it r b l.length seen))
    (k1 : (∀ j, j < l.length → j ∈ seen) → Plan J ops dest Q rest (upd E d (.tuple #[.bool false])) ds L)
    (k2 : ∀ j (h : j < l.length), j ∉ seen → Plan J ops dest Q rest (upd E d (.tuple #[.bool true, ek l[j].1, ev' l[j].2])) ds (L.set ji (Res.it r b l.length (seen ++ [j])))) : Plan J ops dest Q ((i, .ef) :: rest) E ds L :=
  Plan.ef ho hg (by intro c h; cases h) fun Rf w hm => by
    have hb : w.heap[b]? = some (.map (ents ek ev' 0 l).toArray l.length) := jm.get hm
    have hr : w.heap[r]? = some (.mapIter (some b) l.length seen.toArray l.length) := hm.res _ (List.mem_append_left _ (mem_of_get hji))
    have hmem : ∀ x ∈ ents ek ev' 0 l, ∃ j, ∃ h : j < l.length, x = { key := ek l[j].1, val := ev' l[j].2, born := j } := fun x hx => by
      obtain ⟨j, hj, rfl⟩ := List.getElem_of_mem hx
      rw [ents_len] at hj
      have := ents_get (ek := ek) (ev' := ev') l 0 j hj
      rw [List.getElem?_eq_getElem (by rw [ents_len]; exact hj), Option.some.injEq, Nat.zero_add] at this
      exact ⟨j, hj, this⟩
    rcases run_next_at (P := J.P) w ty r b l.length l.length seen.toArray (ents ek ev' 0 l).toArray l.length hr hb (fun x hx => by
      obtain ⟨j, hj, rfl⟩ := hmem x (by simpa using hx)
      exact hj) (Nat.le_refl _) with ⟨h0, hrun⟩ | ⟨e, he, w1, hw1, hrun⟩
    · have hex : (execOp (ev E) ⟨d, .next it false, ty, pos, aft, g⟩).run J.P w = .ok (.value (.tuple #[.bool false])) w := by
        unfold execOp
        simp only [hi, Sem.run_bind, hrun, Result.andThen]
        rfl
      rw [hex]
      refine ⟨L, hm, fun D hD' hi' => absurd (hD D hD') hi', k1 fun j hj => ?_⟩
      refine Classical.byContradiction fun hns => ?_
      have hin : ({ key := ek l[j].1, val := ev' l[j].2, born := j } : MapEntry) ∈ (leftOf (ents ek ev' 0 l).toArray seen.toArray).toList := by
        have hg' := ents_get (ek := ek) (ev' := ev') l 0 j hj
        rw [Nat.zero_add] at hg'
        have := List.mem_of_getElem? hg'
        unfold leftOf
        simp only [Array.toList_filter, List.mem_filter]
        exact ⟨by simpa using this, by simpa using hns⟩
      have := List.length_pos_of_mem hin
      simp only [Array.length_toList] at this
      omega
    · have he' : e ∈ ents ek ev' 0 l ∧ e.born ∉ seen := by
        unfold leftOf at he
        simp only [Array.toList_filter, List.mem_filter] at he
        exact ⟨by simpa using he.1, by simpa using he.2⟩
      obtain ⟨j, hj, rfl⟩ := hmem e he'.1
      have hex : (execOp (ev E) ⟨d, .next it false, ty, pos, aft, g⟩).run J.P w = .ok (.value (.tuple #[.bool true, ek l[j].1, ev' l[j].2])) (w1.putObj r (.mapIter (some b) l.length (seen ++ [j]).toArray l.length)) := by
        unfold execOp
        simp only [hi, Sem.run_bind, hrun, Result.andThen]
        have : seen.toArray.push j = (seen ++ [j]).toArray := by simp
        rw [this]
        rfl
      rw [hex]
      have hm1 : Mem J.w0 J.X (L ++ Rf) w1 := by
        rcases hw1 with rfl | rfl
        · exact hm
        · exact hm.drawn (w.drawn + 1) (Nat.le_succ _)
      exact ⟨_, Mem.putAt ji hm1 hji _, fun D hD' hi' => absurd (hD D hD') hi', k2 j hj he'.2⟩

theorem run_entryOf {P : Program} {w : World} {r b : Nat} {l : List (K × V)} {seen : List Nat} {j : Nat} (hj : j < l.length) (hb : w.heap[b]? = some (.map (ents ek ev' 0 l).toArray l.length)) (hr : w.heap[r]? = some (.mapIter (some b) l.length (seen ++ [j]).toArray l.length)) :
    (Instr.entry (.pointer (some ⟨r, 0, none⟩))).run P w = .ok (.tuple #[ek l[j].1, ev' l[j].2]) w := by
  have hborn : (ents ek ev' 0 l).map (·.born) = List.range l.length := by
    have : ∀ (l : List (K × V)) (i : Nat), (ents ek ev' i l).map (·.born) = List.range' i l.length := by
      intro l
      induction l with
      | nil => intro i; rfl
      | cons x l ih => intro i; obtain ⟨k, v⟩ := x; rw [ents, List.map_cons, ih, List.length_cons, List.range'_succ]
    rw [this, List.range_eq_range']
  have hg := ents_get (ek := ek) (ev' := ev') l 0 j hj
  rw [Nat.zero_add] at hg
  have he := List.mem_of_getElem? hg
  have hp : (seen ++ [j]).toArray = seen.toArray.push j := by simp
  rw [hp] at hr
  exact run_entry_at (P := P) w r b l.length seen.toArray (ents ek ev' 0 l).toArray l.length { key := ek l[j].1, val := ev' l[j].2, born := j } hr hb (by simpa using he) (by
    simp only [hborn]
    exact List.nodup_range)

/-- the entry of the last step, read again -/
theorem Plan.entry {it : Operand} {r b : Nat} {l : List (K × V)} {seen : List Nat} {j : Nat} (jm : MapAt J L ek ev' b l) (ji : Nat) (hj : j < l.length) (ho : ops[i]? = some ⟨d, .entry it, ty, pos, aft, g⟩) (hg : wantE ops ⟨d, .entry it, ty, pos, aft, g⟩ E = true)
    (hi : ev E it = .pointer (some ⟨r, 0, none⟩)) (hji : L[ji]? = some (Res.it r b l.length (seen ++ [j])))
    (k : Plan J ops dest Q rest (upd E d (.tuple #[ek l[j].1, ev' l[j].2])) ds L) : Plan J ops dest Q ((i, .st) :: rest) E ds L :=
  Plan.st ho hg (St.of_exec (by intro c h; cases h) fun w hm => by
    have hb : w.heap[b]? = some (.map (ents ek ev' 0 l).toArray l.length) := jm.get0 hm
    have hr : w.heap[r]? = some (.mapIter (some b) l.length (seen ++ [j]).toArray l.length) := hm.res _ (mem_of_get hji)
    unfold execOp
    simp only [hi, Sem.run_bind, run_entryOf hj hb hr, Result.andThen]
    rfl) k
end

end Go.Proofs.Ytjmklbkcpjmcaaa.H
