/-
  The frame of these proofs, tenth part: maps that only grow.
  The frame of these proofs, eleventh part: scopes, checked pointers.
  The frame of these proofs, twelfth part: calls that are handed one resource by its place; capacities.
  The frame of these proofs, thirteenth part: append of new zeros to nothing.
  The frame of these proofs, fourteenth part: small unsigned numbers.
  The frame of these proofs, further: slices that are cut at any place, slices that are made, blocks that are handed over.
-/
import Derived.Test.YtjmklbkcpjmcaaaH7
import Derived.Maps.RangeRun
import Derived.Scope
import Derived.Test.YtjmklbkcpjmcaaaH6
import Derived.Lib.AppendZeros
import Derived.Laws.MakeOwn
namespace Go.Proofs.Ytjmklbkcpjmcaaa.H
open Go Go.RowKit
set_option linter.unusedVariables false
set_option linter.unusedSimpArgs false
set_option linter.unusedSectionVars false

/-- keys of one type: how they lie, and that the machine tells them apart -/
structure Keys (P : Program) (kt : TypeId) {K : Type} [DecidableEq K] (ek : K → Value) : Prop where
  desc : ∃ ds, P.underlying kt = some ds ∧ ∀ a b, Instr.sameNow ds (ek a) (ek b) = none
  chk : ∀ (e : Bool) (k : K) (w : World), (Instr.checkKey e 10000 kt (ek k)).run P w = .ok () w
  eq : ∀ (a b : K) (w : World), (Op.equal kt (ek a) (ek b)).run P w = .ok (decide (a = b)) w
  same : ∀ a : K, Instr.sameBits 10000 (ek a) (ek a) = true

section
variable {P : Program} {kt : TypeId} {K V : Type} [DecidableEq K] {ek : K → Value} {ev' : V → Value}

/-- the entries of a map, in the order of their coming -/
def ents (ek : K → Value) (ev' : V → Value) : Nat → List (K × V) → List MapEntry
  | _, [] => []
  | i, (k, v) :: r => { key := ek k, val := ev' v, born := i } :: ents ek ev' (i + 1) r

theorem ents_len (i : Nat) : ∀ l : List (K × V), (ents ek ev' i l).length = l.length
  | [] => rfl
  | (k, v) :: r => by rw [ents, List.length_cons, ents_len (i + 1) r, List.length_cons]
theorem ents_get : ∀ (l : List (K × V)) (i j : Nat) (h : j < l.length), (ents ek ev' i l)[j]? = some { key := ek l[j].1, val := ev' l[j].2, born := i + j }
  | [], _, _, h => absurd h (Nat.not_lt_zero _)
  | (k, v) :: r, i, 0, _ => rfl
  | (k, v) :: r, i, j + 1, h => by
    rw [ents, List.getElem?_cons_succ, ents_get r (i + 1) j (by simpa using h)]
    simp; omega
theorem ents_append : ∀ (l r : List (K × V)) (i : Nat), ents ek ev' i (l ++ r) = ents ek ev' i l ++ ents ek ev' (i + l.length) r
  | [], r, i => rfl
  | (k, v) :: l, r, i => by
    rw [List.cons_append, ents, ents_append l r (i + 1), ents, List.cons_append, List.length_cons]
    congr 3; omega
theorem ents_set : ∀ (l : List (K × V)) (i j : Nat) (k : K) (v v' : V) (h : l[j]? = some (k, v)), ents ek ev' i (l.set j (k, v')) = (ents ek ev' i l).modify j (fun e => { e with key := ek k, val := ev' v' })
  | [], _, _, _, _, _, h => by simp at h
  | (k', v0) :: r, i, 0, k, v, v', h => by
    simp only [List.getElem?_cons_zero, Option.some.injEq, Prod.mk.injEq] at h
    obtain ⟨rfl, rfl⟩ := h
    rfl
  | (k', v0) :: r, i, j + 1, k, v, v', h => by
    rw [List.set_cons_succ, ents, ents_set r (i + 1) j k v v' (by simpa using h), ents]
    rfl

/-- where a key lies -/
def keyAt (k : K) (l : List (K × V)) : Option Nat := l.findIdx? fun x => decide (x.1 = k)
/-- what a map holds for a key -/
def valAt (k : K) (l : List (K × V)) : Option V := (l.find? fun x => decide (x.1 = k)).map (·.2)
/-- a map with a value for a key -/
def putK (k : K) (v : V) (l : List (K × V)) : List (K × V) := match keyAt k l with
  | some i => l.set i (k, v)
  | none => l ++ [(k, v)]

theorem run_findAsking (hK : Keys P kt ek) (k : K) (w : World) : ∀ (l : List (K × V)) (b i : Nat), (Instr.findAsking kt (ek k) (ents ek ev' b l) i).run P w = .ok ((l.findIdx? fun x => decide (x.1 = k)).bind fun j => (l[j]?).map fun x => (i + j, ev' x.2)) w
  | [], b, i => rfl
  | (k', v) :: r, b, i => by
    have ih := run_findAsking hK k w r (b + 1) (i + 1)
    rw [ents]
    unfold Instr.findAsking
    simp only [Sem.run_bind, hK.eq, Result.andThen]
    by_cases h : k = k'
    · subst h
      simp [Sem.run_ite, List.findIdx?_cons]
    · have h' : ¬ k' = k := fun e => h e.symm
      simp only [h, decide_false, Bool.false_eq_true, if_false]
      rw [ih]
      simp only [List.findIdx?_cons, h', decide_false, Bool.false_eq_true, if_false]
      cases List.findIdx? (fun x => decide (x.1 = k)) r with
      | none => rfl
      | some j =>
        simp only [Option.map_some, Option.bind_some, List.getElem?_cons_succ]
        have e : i + 1 + j = i + (j + 1) := by omega
        rw [e]

theorem run_findKey (hK : Keys P kt ek) (k : K) (l : List (K × V)) (w : World) : (Instr.findKey kt (ek k) (ents ek ev' 0 l)).run P w = .ok ((keyAt k l).bind fun j => (l[j]?).map fun x => (j, ev' x.2)) w := by
  obtain ⟨ds, hd, hn⟩ := hK.desc
  unfold Instr.findKey
  simp only [Sem.run_bind, run_underlying hd, Result.andThen]
  cases l with
  | nil => rfl
  | cons x r =>
    obtain ⟨k', v⟩ := x
    have : Instr.findNow ds (ek k) (ents ek ev' 0 ((k', v) :: r)) 0 = none := by
      rw [ents]; unfold Instr.findNow; rw [hn k k']
    rw [this]
    have h := run_findAsking (ev' := ev') hK k w ((k', v) :: r) 0 0
    simp only [Nat.zero_add] at h
    exact h

theorem keyAt_get {k : K} {l : List (K × V)} {j : Nat} (h : keyAt k l = some j) : ∃ v, l[j]? = some (k, v) := by
  unfold keyAt at h
  rw [List.findIdx?_eq_some_iff_getElem] at h
  obtain ⟨h1, h2, _⟩ := h
  have h2 : l[j].1 = k := by simpa using h2
  exact ⟨l[j].2, by rw [List.getElem?_eq_getElem h1, ← h2]⟩
end

/-- a map of one's own -/
abbrev Res.mp {K V : Type} (ek : K → Value) (ev' : V → Value) (b : Nat) (l : List (K × V)) : Res := Res.obj b (.map (ents ek ev' 0 l).toArray l.length)
/-- an iterator over it that has seen some entries -/
abbrev Res.it (b m n : Nat) (seen : List Nat) : Res := Res.obj b (.mapIter (some m) n seen.toArray n)

theorem Mem.putAt {w0 w : World} {X : List Nat} {L Rf : List Res} {b : Nat} {o : Obj} (j : Nat) (hm : Mem w0 X (L ++ Rf) w) (hj : L[j]? = some (Res.obj b o)) (o' : Obj) : Mem w0 X (L.set j (Res.obj b o') ++ Rf) (w.putObj b o') := by
  have hlt : j < L.length := (List.getElem?_eq_some_iff.1 hj).1
  have hget : L[j] = Res.obj b o := (List.getElem?_eq_some_iff.1 hj).2
  have hL : L = L.take j ++ Res.obj b o :: L.drop (j + 1) := by rw [← hget]; simp
  have hS : L.set j (Res.obj b o') = L.take j ++ Res.obj b o' :: L.drop (j + 1) := by rw [List.set_eq_take_append_cons_drop, if_pos hlt]
  have hp1 : (L ++ Rf).Perm (Res.obj b o :: (L.take j ++ L.drop (j + 1) ++ Rf)) := by
    rw (occs := .pos [1]) [hL]
    exact List.perm_middle.append_right Rf
  have hp2 : (Res.obj b o' :: (L.take j ++ L.drop (j + 1) ++ Rf)).Perm (L.set j (Res.obj b o') ++ Rf) := by
    rw [hS]
    exact (List.perm_middle.append_right Rf).symm
  exact ((hm.perm hp1).putO o').perm hp2

section
variable {J : Jd} {ops : Array Oper} {dest : Option (List Nat)} {Q : Post} {i : Nat} {rest : List (Nat × Kind)} {E : Env} {ds : List Deferred} {L : List Res}
variable {d : Option Nat} {ty : TypeId} {pos : String} {aft : Array Edge} {g : Option (Nat × Bool)}
variable {kt : TypeId} {K V : Type} [DecidableEq K] {ek : K → Value} {ev' : V → Value}

theorem run_newObj (P : Program) (o : Obj) (w : World) : (newObj o).run P w = .ok w.heap.size (w.alloc o) := rfl

theorem Plan.makeMap {t : TypeId} (ek : K → Value) (ev' : V → Value) (ho : ops[i]? = some ⟨d, .makeMap t none, ty, pos, aft, g⟩) (hg : wantE ops ⟨d, .makeMap t none, ty, pos, aft, g⟩ E = true)
    (k : ∀ b, Plan J ops dest Q rest (upd E d (.map (some b))) ds (Res.mp ek ev' b [] :: L)) : Plan J ops dest Q ((i, .ef) :: rest) E ds L :=
  Plan.ef ho hg (by intro c h; cases h) fun Rf w hm => by
    have hr : (execOp (ev E) ⟨d, .makeMap t none, ty, pos, aft, g⟩).run J.P w = .ok (.value (.map (some w.heap.size))) (w.alloc (.map #[] 0)) := rfl
    rw [hr]
    exact ⟨Res.mp ek ev' w.heap.size [] :: L, hm.allocO _, fun D _ _ Rf w' hm' => hm'.sub (List.sublist_cons_self _ _), k _⟩

theorem run_getObj {P : Program} {w : World} {b : Nat} {o : Obj} (h : w.heap[b]? = some o) (hc : ∀ cs t f, o ≠ .cells cs t f) : (getObj b).run P w = .ok o w := by
  unfold getObj Sem.run
  simp only [h]
  cases o <;> first | rfl | exact absurd rfl (hc _ _ _)
theorem run_setObj {P : Program} {w : World} {b : Nat} {o : Obj} (o' : Obj) (h : w.heap[b]? = some o) (hc : ∀ cs t f, o ≠ .cells cs t f) : (setObj b o').run P w = .ok () (w.putObj b o') := by
  unfold setObj Sem.run
  simp only [h]
  cases o <;> first | rfl | exact absurd rfl (hc _ _ _)

theorem run_mapUpdate {P : Program} {mt et : TypeId} (hK : Keys P kt ek) (ht : P.underlying mt = some (.map kt et)) {w : World} {b : Nat} {l : List (K × V)} (hb : w.heap[b]? = some (.map (ents ek ev' 0 l).toArray l.length)) (k : K) (v : V) :
    (Instr.mapUpdate mt (.map (some b)) (ek k) (ev' v)).run P w = .ok () (w.putObj b (.map (ents ek ev' 0 (putK k v l)).toArray (putK k v l).length)) := by
  unfold Instr.mapUpdate
  simp only [Sem.run_bind, run_underlying ht, Result.andThen, run_getObj hb (by intros; simp), hK.chk, run_findKey hK]
  unfold putK
  cases hk : keyAt k l with
  | none =>
    simp only [Option.bind_none]
    rw [run_setObj _ hb (by intros; simp)]
    congr 2
    rw [ents_append, List.length_append]
    simp [ents]
  | some j =>
    obtain ⟨v0, hv⟩ := keyAt_get hk
    have hj : j < l.length := (List.getElem?_eq_some_iff.1 hv).1
    have hkey : ((((ents ek ev' 0 l).toArray)[j]?).map (·.key)).getD (ek k) = ek k := by
      have hg := ents_get (ek := ek) (ev' := ev') l 0 j hj
      have : l[j].1 = k := by rw [List.getElem?_eq_getElem hj, Option.some.injEq] at hv; rw [hv]
      rw [List.getElem?_toArray, hg, this]
      rfl
    simp only [hv, Option.bind_some, Option.map_some]
    simp only [Sem.run_bind]
    rw [hkey]
    unfold Instr.keyThatStays
    rw [if_pos (hK.same k)]
    simp only [Sem.run_pure, Result.andThen]
    rw [run_setObj _ hb (by intros; simp)]
    congr 2
    rw [ents_set l 0 j k v0 v hv, List.length_set]
    simp

/-- a value is put into a map -/
theorem Plan.mapUpdate {mt et : TypeId} {m x y : Operand} {b : Nat} {l : List (K × V)} {k : K} {v : V} (j : Nat) (hK : Keys J.P kt ek) (ht : J.P.underlying mt = some (.map kt et)) (ho : ops[i]? = some ⟨d, .mapUpdate mt m x y, ty, pos, aft, g⟩)
    (hg : wantE ops ⟨d, .mapUpdate mt m x y, ty, pos, aft, g⟩ E = true) (hD : ∀ D, dest = some D → i ∈ D) (hm' : ev E m = .map (some b)) (hx : ev E x = ek k) (hy : ev E y = ev' v) (hj : L[j]? = some (Res.mp ek ev' b l))
    (k' : Plan J ops dest Q rest (upd E d undef) ds (L.set j (Res.mp ek ev' b (putK k v l)))) : Plan J ops dest Q ((i, .ef) :: rest) E ds L :=
  Plan.ef ho hg (by intro c h; cases h) fun Rf w hm => by
    have hb : w.heap[b]? = some (.map (ents ek ev' 0 l).toArray l.length) := hm.res _ (List.mem_append_left _ (mem_of_get hj))
    have hr : (execOp (ev E) ⟨d, .mapUpdate mt m x y, ty, pos, aft, g⟩).run J.P w = .ok .skip (w.putObj b (.map (ents ek ev' 0 (putK k v l)).toArray (putK k v l).length)) := by
      unfold execOp
      simp only [hm', hx, hy, Sem.run_bind, run_mapUpdate hK ht hb, Result.andThen]
      rfl
    rw [hr]
    exact ⟨_, Mem.putAt j hm hj _, fun D hD' hi => absurd (hD D hD') hi, k'⟩

theorem find_keyAt (k : K) : ∀ l : List (K × V), (keyAt k l).bind (fun j => (l[j]?).map fun x => (j, ev' x.2)) = none ∧ valAt k l = none ∨ ∃ j v, (keyAt k l).bind (fun j => (l[j]?).map fun x => (j, ev' x.2)) = some (j, ev' v) ∧ valAt k l = some v := by
  intro l
  cases hk : keyAt k l with
  | none =>
    refine .inl ⟨rfl, ?_⟩
    unfold keyAt at hk
    unfold valAt
    rw [List.findIdx?_eq_none_iff] at hk
    rw [List.find?_eq_none.2 (fun x hx => by have := hk x hx; simpa using this)]; rfl
  | some j =>
    obtain ⟨v, hv⟩ := keyAt_get hk
    refine .inr ⟨j, v, by simp [hv], ?_⟩
    unfold keyAt at hk
    unfold valAt
    rw [List.findIdx?_eq_some_iff_getElem] at hk
    obtain ⟨h1, h2, h3⟩ := hk
    have : l.find? (fun x => decide (x.1 = k)) = some l[j] := by
      rw [List.find?_eq_some_iff_getElem]
      exact ⟨h2, j, h1, rfl, fun i hi => by have := h3 i hi; simpa using this⟩
    rw [this]
    rw [List.getElem?_eq_getElem h1, Option.some.injEq] at hv
    rw [hv]; rfl

/-- a map is asked, with 'is it there?' -/
theorem Plan.lookupOk {mt et : TypeId} {m x : Operand} {b : Nat} {l : List (K × V)} {k : K} {z : Value} (j : Nat) (hK : Keys J.P kt ek) (ht : J.P.underlying mt = some (.map kt et)) (hz : ∀ w, (zeroValue et).run J.P w = .ok z w)
    (ho : ops[i]? = some ⟨d, .lookup mt m x true, ty, pos, aft, g⟩) (hg : wantE ops ⟨d, .lookup mt m x true, ty, pos, aft, g⟩ E = true) (hm' : ev E m = .map (some b)) (hx : ev E x = ek k) (hj : L[j]? = some (Res.mp ek ev' b l))
    (k1 : ∀ v, valAt k l = some v → Plan J ops dest Q rest (upd E d (.tuple #[ev' v, .bool true])) ds L) (k2 : valAt k l = none → Plan J ops dest Q rest (upd E d (.tuple #[z, .bool false])) ds L) : Plan J ops dest Q ((i, .st) :: rest) E ds L := by
  have key : ∀ w, Mem J.w0 J.X L w → (Instr.lookup mt (.map (some b)) (ek k) true).run J.P w = .ok (match valAt k l with | some v => .tuple #[ev' v, .bool true] | none => .tuple #[z, .bool false]) w := fun w hm => by
    have hb : w.heap[b]? = some (.map (ents ek ev' 0 l).toArray l.length) := hm.res _ (mem_of_get hj)
    unfold Instr.lookup
    simp only [Sem.run_bind, run_underlying ht, Result.andThen, run_getObj hb (by intros; simp), Sem.run_pure, hK.chk, run_findKey hK]
    rcases find_keyAt (ev' := ev') k l with ⟨h1, h2⟩ | ⟨j', v, h1, h2⟩
    · rw [h1, h2]; simp only [Sem.run_bind, hz, Result.andThen, Sem.run_pure]; rfl
    · rw [h1, h2]; simp only [Sem.run_pure, Result.andThen]; rfl
  refine Plan.st (v := match valAt k l with | some v => .tuple #[ev' v, .bool true] | none => .tuple #[z, .bool false]) ho hg (St.of_exec (by intro c h; cases h) fun w hm => by
    unfold execOp
    simp only [hm', hx, Sem.run_bind, key w hm, Result.andThen]
    rfl) ?_
  cases h : valAt k l with
  | none => exact k2 h
  | some v => exact k1 v h

/-- a map that may be read: one's own, or one that was there before -/
def MapAt (J : Jd) (L : List Res) (ek : K → Value) (ev' : V → Value) (b : Nat) (l : List (K × V)) : Prop :=
  (∃ j : Nat, L[j]? = some (Res.mp ek ev' b l)) ∨ (J.w0.heap[b]? = some (.map (ents ek ev' 0 l).toArray l.length) ∧ b ∉ J.X)
theorem MapAt.own {l : List (K × V)} {b : Nat} (j : Nat) (h : L[j]? = some (Res.mp ek ev' b l)) : MapAt J L ek ev' b l := Or.inl ⟨j, h⟩
theorem MapAt.old {l : List (K × V)} {b : Nat} (h : J.w0.heap[b]? = some (.map (ents ek ev' 0 l).toArray l.length)) (hX : b ∉ J.X) : MapAt J L ek ev' b l := Or.inr ⟨h, hX⟩
theorem MapAt.get {l : List (K × V)} {b : Nat} {Rf : List Res} {w : World} (h : MapAt J L ek ev' b l) (hm : Mem J.w0 J.X (L ++ Rf) w) : w.heap[b]? = some (.map (ents ek ev' 0 l).toArray l.length) := by
  rcases h with ⟨j, hj⟩ | ⟨h, hX⟩
  · exact hm.res _ (List.mem_append_left _ (mem_of_get hj))
  · exact (hm.old b (Array.getElem?_eq_some_iff.1 h).1 hX).trans h
theorem MapAt.get0 {l : List (K × V)} {b : Nat} {w : World} (h : MapAt J L ek ev' b l) (hm : Mem J.w0 J.X L w) : w.heap[b]? = some (.map (ents ek ev' 0 l).toArray l.length) :=
  h.get (Rf := []) (by rw [List.append_nil]; exact hm)

/-- an iterator is made -/
theorem Plan.range {mt et : TypeId} {m : Operand} {b : Nat} {l : List (K × V)} (jm : MapAt J L ek ev' b l) (ht : J.P.underlying mt = some (.map kt et)) (ho : ops[i]? = some ⟨d, .range mt m, ty, pos, aft, g⟩) (hg : wantE ops ⟨d, .range mt m, ty, pos, aft, g⟩ E = true)
    (hm' : ev E m = .map (some b)) (k : ∀ r, Plan J ops dest Q rest (upd E d (.pointer (some ⟨r, 0, none⟩))) ds (Res.it r b l.length [] :: L)) : Plan J ops dest Q ((i, .ef) :: rest) E ds L :=
  Plan.ef ho hg (by intro c h; cases h) fun Rf w hm => by
    have hb : w.heap[b]? = some (.map (ents ek ev' 0 l).toArray l.length) := jm.get hm
    have hr : (execOp (ev E) ⟨d, .range mt m, ty, pos, aft, g⟩).run J.P w = .ok (.value (.pointer (some ⟨w.heap.size, 0, none⟩))) (w.alloc (.mapIter (some b) l.length #[] l.length)) := by
      unfold execOp Instr.range
      simp only [hm', Sem.run_bind, run_underlying ht, Result.andThen, run_getObj hb (by intros; simp), Sem.run_pure, run_newObj]
    rw [hr]
    exact ⟨Res.it w.heap.size b l.length [] :: L, hm.allocO _, fun D _ _ Rf w' hm' => hm'.sub (List.sublist_cons_self _ _), k _⟩

/-- a step of an iterator: over, or any entry that it has not seen -/
theorem Plan.next {it : Operand} {r b : Nat} {l : List (K × V)} {seen : List Nat} (jm : MapAt J L ek ev' b l) (ji : Nat) (ho : ops[i]? = some ⟨d, .next it false, ty, pos, aft, g⟩) (hg : wantE ops ⟨d, .next it false, ty, pos, aft, g⟩ E = true) (hD : ∀ D, dest = some D → i ∈ D)
    (hi : ev E it = .pointer (some ⟨r, 0, none⟩)) (hji : L[ji]? = some (Res.it r b l.length seen))
    (k1 : (∀ j, j < l.length → j ∈ seen) → Plan J ops dest Q rest (upd E d (.tuple #[.bool false])) ds L)
    (k2 : ∀ j (h : j < l.length), j ∉ seen → Plan J ops dest Q rest (upd E d (.tuple #[.bool true, ek l[j].1, ev' l[j].2])) ds (L.set ji (Res.it r b l.length (seen ++ [j])))) : Plan J ops dest Q ((i, .ef) :: rest) E ds L :=
  Plan.ef ho hg (by intro c h; cases h) fun Rf w hm => by
    have hb : w.heap[b]? = some (.map (ents ek ev' 0 l).toArray l.length) := jm.get hm
    have hr : w.heap[r]? = some (.mapIter (some b) l.length seen.toArray l.length) := hm.res _ (List.mem_append_left _ (mem_of_get hji))
    have hmem : ∀ x ∈ ents ek ev' 0 l, ∃ j, ∃ h : j < l.length, x = { key := ek l[j].1, val := ev' l[j].2, born := j } := fun x hx => by
      obtain ⟨j, hj, rfl⟩ := List.getElem_of_mem hx
      rw [ents_len] at hj
      have := ents_get (ek := ek) (ev' := ev') l 0 j hj
      rw [List.getElem?_eq_getElem (by rw [ents_len]; exact hj), Option.some.injEq, Nat.zero_add] at this
      exact ⟨j, hj, this⟩
    rcases run_next_at (P := J.P) w ty r b l.length l.length seen.toArray (ents ek ev' 0 l).toArray l.length hr hb (fun x hx => by
      obtain ⟨j, hj, rfl⟩ := hmem x (by simpa using hx)
      exact hj) (Nat.le_refl _) with ⟨h0, hrun⟩ | ⟨e, he, w1, hw1, hrun⟩
    · have hex : (execOp (ev E) ⟨d, .next it false, ty, pos, aft, g⟩).run J.P w = .ok (.value (.tuple #[.bool false])) w := by
        unfold execOp
        simp only [hi, Sem.run_bind, hrun, Result.andThen]
        rfl
      rw [hex]
      refine ⟨L, hm, fun D hD' hi' => absurd (hD D hD') hi', k1 fun j hj => ?_⟩
      refine Classical.byContradiction fun hns => ?_
      have hin : ({ key := ek l[j].1, val := ev' l[j].2, born := j } : MapEntry) ∈ (leftOf (ents ek ev' 0 l).toArray seen.toArray).toList := by
        have hg' := ents_get (ek := ek) (ev' := ev') l 0 j hj
        rw [Nat.zero_add] at hg'
        have := List.mem_of_getElem? hg'
        unfold leftOf
        simp only [Array.toList_filter, List.mem_filter]
        exact ⟨by simpa using this, by simpa using hns⟩
      have := List.length_pos_of_mem hin
      simp only [Array.length_toList] at this
      omega
    · have he' : e ∈ ents ek ev' 0 l ∧ e.born ∉ seen := by
        unfold leftOf at he
        simp only [Array.toList_filter, List.mem_filter] at he
        exact ⟨by simpa using he.1, by simpa using he.2⟩
      obtain ⟨j, hj, rfl⟩ := hmem e he'.1
      have hex : (execOp (ev E) ⟨d, .next it false, ty, pos, aft, g⟩).run J.P w = .ok (.value (.tuple #[.bool true, ek l[j].1, ev' l[j].2])) (w1.putObj r (.mapIter (some b) l.length (seen ++ [j]).toArray l.length)) := by
        unfold execOp
        simp only [hi, Sem.run_bind, hrun, Result.andThen]
        have : seen.toArray.push j = (seen ++ [j]).toArray := by simp
        rw [this]
        rfl
      rw [hex]
      have hm1 : Mem J.w0 J.X (L ++ Rf) w1 := by
        rcases hw1 with rfl | rfl
        · exact hm
        · exact hm.drawn (w.drawn + 1) (Nat.le_succ _)
      exact ⟨_, Mem.putAt ji hm1 hji _, fun D hD' hi' => absurd (hD D hD') hi', k2 j hj he'.2⟩

theorem run_entryOf {P : Program} {w : World} {r b : Nat} {l : List (K × V)} {seen : List Nat} {j : Nat} (hj : j < l.length) (hb : w.heap[b]? = some (.map (ents ek ev' 0 l).toArray l.length)) (hr : w.heap[r]? = some (.mapIter (some b) l.length (seen ++ [j]).toArray l.length)) :
    (Instr.entry (.pointer (some ⟨r, 0, none⟩))).run P w = .ok (.tuple #[ek l[j].1, ev' l[j].2]) w := by
  have hborn : (ents ek ev' 0 l).map (·.born) = List.range l.length := by
    have : ∀ (l : List (K × V)) (i : Nat), (ents ek ev' i l).map (·.born) = List.range' i l.length := by
      intro l
      induction l with
      | nil => intro i; rfl
      | cons x l ih => intro i; obtain ⟨k, v⟩ := x; rw [ents, List.map_cons, ih, List.length_cons, List.range'_succ]
    rw [this, List.range_eq_range']
  have hg := ents_get (ek := ek) (ev' := ev') l 0 j hj
  rw [Nat.zero_add] at hg
  have he := List.mem_of_getElem? hg
  have hp : (seen ++ [j]).toArray = seen.toArray.push j := by simp
  rw [hp] at hr
  exact run_entry_at (P := P) w r b l.length seen.toArray (ents ek ev' 0 l).toArray l.length { key := ek l[j].1, val := ev' l[j].2, born := j } hr hb (by simpa using he) (by
    simp only [hborn]
    exact List.nodup_range)

/-- the entry of the last step, read again -/
theorem Plan.entry {it : Operand} {r b : Nat} {l : List (K × V)} {seen : List Nat} {j : Nat} (jm : MapAt J L ek ev' b l) (ji : Nat) (hj : j < l.length) (ho : ops[i]? = some ⟨d, .entry it, ty, pos, aft, g⟩) (hg : wantE ops ⟨d, .entry it, ty, pos, aft, g⟩ E = true)
    (hi : ev E it = .pointer (some ⟨r, 0, none⟩)) (hji : L[ji]? = some (Res.it r b l.length (seen ++ [j])))
    (k : Plan J ops dest Q rest (upd E d (.tuple #[ek l[j].1, ev' l[j].2])) ds L) : Plan J ops dest Q ((i, .st) :: rest) E ds L :=
  Plan.st ho hg (St.of_exec (by intro c h; cases h) fun w hm => by
    have hb : w.heap[b]? = some (.map (ents ek ev' 0 l).toArray l.length) := jm.get0 hm
    have hr : w.heap[r]? = some (.mapIter (some b) l.length (seen ++ [j]).toArray l.length) := hm.res _ (mem_of_get hji)
    unfold execOp
    simp only [hi, Sem.run_bind, run_entryOf hj hb hr, Result.andThen]
    rfl) k
end

end Go.Proofs.Ytjmklbkcpjmcaaa.H

namespace Go.Proofs.Ytjmklbkcpjmcaaa.H
open Go Go.RowKit
set_option linter.unusedVariables false
set_option linter.unusedSimpArgs false

section
variable {F : Fence} {n : Nat} {P : Program} {Q : Exit → Act → World → Prop} {a : Act} {w : World}
theorem stepR_scope {b : Frame} {k : List Item} {cs : List Frame} {c : Code} : step P (lone (b.atR a (.code (.scope c) :: k)) cs w) = .next (lone (b.atR a (.code c :: .inScope c :: k)) cs w) :=
  step_lone_go (by simp [stepG, stepG.exec, Frame.atR])
theorem stepR_inScope {b : Frame} {k : List Item} {cs : List Frame} {c : Code} : step P (lone (b.atR a (.inScope c :: k)) cs w) = .next (lone (b.atR a k) cs w) :=
  step_lone_go (by simp [stepG, stepG.exec, Frame.atR])

/-- a scope through which the run goes without a goto -/
theorem wpIn_scope {c : Code} (h : c.wpIn F n P (Exit.noGoto Q) a w) : (Code.scope c).wpIn F n P Q a w := by
  intro b k cs hro hb hr
  have h0 : (lone (b.atR a (.code (.scope c) :: k)) cs w).fenced P F := fenced_calm hb hr rfl
  obtain ⟨e, a₁, w₁, hq, harr⟩ := h b (.inScope c :: k) cs hro hb hr
  cases e with
  | normal => exact ⟨.normal, a₁, w₁, hq, .head h0 stepR_scope (StepsIn.trans harr (.one (fenced_calm hb hr rfl) stepR_inScope))⟩
  | exit id' =>
    have hx : exitTo id' (.inScope c :: k) = exitTo id' k := by simp [exitTo]
    exact ⟨.exit id', a₁, w₁, hq, fun k' hk => .head h0 stepR_scope (harr.1 k' (by rw [hx]; exact hk)),
      fun hr' hk => let ⟨k₁, h1, h2⟩ := harr.2 hr' (by rw [hx]; exact hk); ⟨k₁, h1, .head h0 stepR_scope h2⟩⟩
  | goto l => exact hq.elim
  | ret => exact ⟨_, a₁, w₁, hq, .of_steps (.one h0 stepR_scope) harr⟩
  | panic ch => exact ⟨_, a₁, w₁, hq, .of_steps (.one h0 stepR_scope) harr⟩
  | outgrown => exact ⟨_, a₁, w₁, hq, .of_steps (.one h0 stepR_scope) harr⟩
end

def noGoto (Q : Post) : Post := fun e => match e with
  | .goto _ => fun _ _ _ => False
  | e => Q e

theorem HW.scope {J : Jd} {c : Code} {Q : Post} {E : Env} {ds : List Deferred} {L : List Res} (h : HW J c (noGoto Q) E ds L) : HW J (.scope c) Q E ds L := fun a w hr hm => by
  refine wpIn_scope (wpIn_mono (h a w hr hm) ?_)
  rintro e a' w' ⟨E', ds', L', h1, h2, h3⟩
  cases e <;> first | exact ⟨E', ds', L', h1, h2, h3⟩ | exact h3.elim

section
variable {J : Jd} {ops : Array Oper} {dest : Option (List Nat)} {Q : Post} {i : Nat} {rest : List (Nat × Kind)} {E : Env} {ds : List Deferred} {L : List Res}
variable {d : Option Nat} {ty : TypeId} {pos : String} {aft : Array Edge} {g : Option (Nat × Bool)}
theorem Plan.nilCheck {x : Operand} {ad : Addr} (ho : ops[i]? = some ⟨d, .nilCheck x, ty, pos, aft, g⟩) (hg : wantE ops ⟨d, .nilCheck x, ty, pos, aft, g⟩ E = true) (hx : ev E x = .pointer (some ad))
    (k : Plan J ops dest Q rest (upd E d (.pointer (some ad))) ds L) : Plan J ops dest Q ((i, .st) :: rest) E ds L :=
  Plan.st ho hg (St.of_exec (by intro c h; cases h) fun w _ => by unfold execOp; simp only [hx]; rfl) k
end

/-- a cell of a block that was there before -/
theorem Sees.oldOne {J : Jd} {L : List Res} {b o : Nat} {cs : Array Value} {t : TypeId} {v : Value} (h : J.w0.heap[b]? = some (.cells cs t (0, 0))) (hX : b ∉ J.X) (hv : cs[o]? = some v) : Sees J L ⟨b, o, none⟩ [v] := fun w hm j u hu => by
  have h' := (hm.old b (Array.getElem?_eq_some_iff.1 h).1 hX).trans h
  rw [Addr.add_lit, cell_of_heap h']
  cases j with
  | zero => rw [← hu]; exact hv
  | succ j => simp at hu

end Go.Proofs.Ytjmklbkcpjmcaaa.H

namespace Go.Proofs.Ytjmklbkcpjmcaaa.H
open Go Go.RowKit
set_option linter.unusedVariables false
set_option linter.unusedSimpArgs false

section
variable {J : Jd} {ops : Array Oper} {dest : Option (List Nat)} {Q : Post} {i : Nat} {rest : List (Nat × Kind)} {E : Env} {ds : List Deferred} {L : List Res}
variable {d : Option Nat} {ty : TypeId} {pos : String} {aft : Array Edge} {g : Option (Nat × Bool)}
/-- a call of a function that is known by its number, by its contract; the resource at place j is handed over -/
theorem Plan.callJ {f : FuncId} {xs : Array Operand} {ts : Array TypeId} {args : List Value} {R : Value → List Res → Prop} (X : List Nat) (j : Nat)
    (ho : ops[i]? = some ⟨d, .call ⟨.value (.func f), xs, ts⟩, ty, pos, aft, g⟩) (hg : wantE ops ⟨d, .call ⟨.value (.func f), xs, ts⟩, ty, pos, aft, g⟩ E = true)
    (ha : xs.toList.map (ev E) = args) (hD : ∀ D, dest = some D → i ∈ D)
    (hX : ∃ r, L[j]? = some r ∧ ∀ b ∈ X, b ∈ r.foot)
    (hc : ∀ w, Mem J.w0 J.X L w → Ct J.P f args.toArray w X R) (k : ∀ v Ln, R v Ln → Plan J ops dest Q rest (upd E d v) ds (Ln ++ L.eraseIdx j)) : Plan J ops dest Q ((i, .ef) :: rest) E ds L :=
  Plan.ef ho hg (by intro c h; cases h) fun Rf w hm => by
    obtain ⟨hf, hcall⟩ := hc w (hm.sub (List.sublist_append_left _ _))
    have hr : (execOp (ev E) ⟨d, .call ⟨.value (.func f), xs, ts⟩, ty, pos, aft, g⟩).run J.P w = .ok (.enter f args.toArray) w := by
      unfold execOp
      subst ha
      simp [resolve, ev, Deferred.ofValue, invoke, hf _ _, map_list]
    rw [hr]
    refine Calls.mono hcall ?_
    rintro e w' ⟨v, Ln, rfl, h2, h3⟩
    obtain ⟨r, hj, hX⟩ := hX
    obtain ⟨hlt, hget⟩ := List.getElem?_eq_some_iff.1 hj
    have hp : (L ++ Rf).Perm ([r] ++ (L.eraseIdx j ++ Rf)) := by
      rw [← List.append_assoc]
      refine List.Perm.append_right Rf ?_
      have e : L = L.take j ++ r :: L.drop (j + 1) := by rw [← hget]; simp
      rw [List.eraseIdx_eq_take_drop_succ]
      refine List.Perm.trans (List.Perm.of_eq e) List.perm_middle
    refine ⟨v, Ln ++ L.eraseIdx j, rfl, ?_, fun D hD' hi => absurd (hD D hD') hi, k v Ln h3⟩
    rw [List.append_assoc]
    exact (hm.perm hp).call h2 fun b hb => ⟨r, by simp, hX b hb⟩

/-- the capacity of a slice -/
theorem Plan.cap {st e : TypeId} {x : Operand} {A : Option Addr} {n c : Nat} (ho : ops[i]? = some ⟨d, .call ⟨.builtin .cap, #[x], #[st]⟩, ty, pos, aft, g⟩)
    (hg : wantE ops ⟨d, .call ⟨.builtin .cap, #[x], #[st]⟩, ty, pos, aft, g⟩ E = true) (hs : J.P.underlying st = some (.slice e)) (hx : ev E x = .slice A n c)
    (k : Plan J ops dest Q rest (upd E d (.int .i64 c)) ds L) : Plan J ops dest Q ((i, .st) :: rest) E ds L :=
  Plan.st ho hg (St.of_exec (by intro c h; cases h) fun w _ => by
    unfold execOp
    simp [resolve, hx, invoke, builtin, Builtin.cap_, run_underlying hs, goInt, Result.andThen]) k
end

theorem Lies.notMap {w : World} {a : Addr} {vs : List Value} {b n : Nat} {es : Array MapEntry} (h : Lies w a vs) (hv : 0 < vs.length) (hb : w.heap[b]? = some (.map es n)) : a.block ≠ b := by
  intro e
  have h0 := h 0 vs[0] (by rw [List.getElem?_eq_getElem hv])
  have hbl : (a.add 0).block = a.block := by unfold Addr.add; split <;> rfl
  have hlt := World.block_lt_of_cell? _ _ h0
  unfold World.cell? at h0
  rw [hbl, e, hb] at h0
  simp at h0

theorem Rd.memMap {α : Type} {enc : α → List Value} {k : Nat} {w0 w : World} {L : List Res} {A : Option Addr} {xs : List α} {b n : Nat} {es : Array MapEntry} (h : Rd enc k w0 A xs) (hm : Mem w0 [b] L w) (hb : w0.heap[b]? = some (.map es n))
    (hk : ∀ x, 0 < (enc x).length) : Rd enc k w A xs := fun i hi => by
  obtain ⟨a, e, hl⟩ := h i hi
  refine ⟨a, e, hl.keep fun b' hb' e' => hm.old b' hb' ?_⟩
  have := hl.notMap (hk _) hb
  simp only [List.mem_singleton]
  rw [e']
  exact this

/-- a map that came in and may be changed -/
theorem Mem.ownMap {K V : Type} {ek : K → Value} {ev' : V → Value} {w : World} {b : Nat} {l : List (K × V)} (h : w.heap[b]? = some (.map (ents ek ev' 0 l).toArray l.length)) : Mem w [b] [Res.mp ek ev' b l] w := by
  have hb : b < w.heap.size := (Array.getElem?_eq_some_iff.1 h).1
  refine ⟨rfl, rfl, Nat.le_refl _, rfl, Nat.le_refl _, fun _ _ _ => rfl, fun r hr => ?_, fun r hr c hc => ?_, List.pairwise_singleton _ _⟩
  · obtain rfl := List.mem_singleton.1 hr
    exact h
  · obtain rfl := List.mem_singleton.1 hr
    have hc : c = b := by simpa [Res.mp, Res.obj] using hc
    subst hc
    exact ⟨hb, .inr (by simp)⟩

theorem mem_putK {K V : Type} [DecidableEq K] {k : K} {v : V} {l : List (K × V)} {e : K × V} (h : e ∈ putK k v l) : e ∈ l ∨ e = (k, v) := by
  unfold putK at h
  split at h
  · rcases List.mem_or_eq_of_mem_set h with h | h
    · exact .inl h
    · exact .inr h
  · rcases List.mem_append.1 h with h | h
    · exact .inl h
    · exact .inr (List.mem_singleton.1 h)

theorem valAt_mem {K V : Type} [DecidableEq K] {k : K} {v : V} {l : List (K × V)} (h : valAt k l = some v) : (k, v) ∈ l := by
  unfold valAt at h
  obtain ⟨e, he, rfl⟩ := Option.map_eq_some_iff.1 h
  have h1 := List.find?_some he
  have h2 := List.mem_of_find?_eq_some he
  obtain ⟨a, b⟩ := e
  simp only [decide_eq_true_eq] at h1
  subst h1
  exact h2

end Go.Proofs.Ytjmklbkcpjmcaaa.H

namespace Go.Proofs.Ytjmklbkcpjmcaaa.H
open Go Go.RowKit
set_option linter.unusedVariables false
set_option linter.unusedSimpArgs false

section
variable {J : Jd} {ops : Array Oper} {dest : Option (List Nat)} {Q : Post} {i : Nat} {rest : List (Nat × Kind)} {E : Env} {ds : List Deferred} {L : List Res}
variable {d : Option Nat} {ty : TypeId} {pos : String} {aft : Array Edge} {g : Option (Nat × Bool)}
/-- append(nothing, n zeros): room of one's own -/
theorem Plan.appendZ0 {α : Type} {st tn e : TypeId} {kn : IntKind} {x y : Operand} {z : Value} {sz bytes n : Nat} (enc : α → List Value)
    (ho : ops[i]? = some ⟨d, .call ⟨.builtin .append, #[x, y], #[st, tn]⟩, ty, pos, aft, g⟩) (hg : wantE ops ⟨d, .call ⟨.builtin .append, #[x, y], #[st, tn]⟩, ty, pos, aft, g⟩ E = true)
    (ht : J.P.underlying st = some (.slice e)) (htn : J.P.underlying tn = some (.int kn)) (hinf : ∃ ti, J.P.info? e = some ti ∧ (ti.zero, ti.size, ti.bytes) = (some z, sz, bytes)) (hzs : z.cells.size = sz) (hpos : 0 < sz)
    (hx : ev E x = .slice none 0 0) (hy : ev E y = .int .i64 (n : Int)) (h0 : 0 < n) (hb : n * bytes ≤ 281474976710656) (hn : n ≤ maxLen)
    (k : ∀ b c', n ≤ c' → Plan J ops dest Q rest (upd E d (.slice (some ⟨b, 0, none⟩) n c')) ds (Res.own enc sz e (some b) c' ([] : List α) :: L)) : Plan J ops dest Q ((i, .ef) :: rest) E ds L :=
  Plan.ef ho hg (by intro c h; cases h) fun Rf w hm => by
    obtain ⟨ti, hi, hty⟩ := hinf
    have hz : ti.zero = some z := congrArg (·.1) hty
    have hs : ti.size = sz := congrArg (·.2.1) hty
    have hby : ti.bytes = bytes := congrArg (·.2.2) hty
    have hn' : (n : Int) ≤ 9223372036854775807 := by simp only [maxLen] at hn; omega
    have hrun := Lib.run_append_nil_zeros (P := J.P) w st tn ty e ti z .i64 kn ht htn hi hz n h0 (by omega) hn' (by rw [hby]; exact hb)
    have hr : (execOp (ev E) ⟨d, .call ⟨.builtin .append, #[x, y], #[st, tn]⟩, ty, pos, aft, g⟩).run J.P w = .ok (.value (.slice (some ⟨w.heap.size, 0, none⟩) n (grownCap w n 0 e))) (w.drew.alloc (.cells (Builtin.zeroCells z.cells n ++ Builtin.zeroCells z.cells (grownCap w n 0 e - n)) e)) := by
      unfold execOp
      simp [resolve, hx, hy, invoke, builtin, hrun, Result.andThen]
    rw [hr]
    have hge := grownCap_ge w n 0 e
    have hmx := grownCap_le_maxLen w n 0 e hn
    have hm0 : Mem J.w0 J.X (L ++ Rf) w.drew := hm.drawn (w.drawn + 1) (Nat.le_succ _)
    have hm1 : Mem J.w0 J.X ((Res.blk w.heap.size (Builtin.zeroCells z.cells n ++ Builtin.zeroCells z.cells (grownCap w n 0 e - n)) e :: L) ++ Rf) (w.drew.alloc (.cells (Builtin.zeroCells z.cells n ++ Builtin.zeroCells z.cells (grownCap w n 0 e - n)) e (0, 0))) := hm0.alloc _ e
    have hm2 := Mem.swap 0 hm1 rfl (Res.own enc sz e (some w.heap.size) (grownCap w n 0 e) ([] : List α)) (List.Sublist.refl _) (fun hh => by
      refine ⟨by simp, .inr ⟨w.heap.size, grownCap w n 0 e, _, rfl, Nat.zero_le _, hh, by simp, hmx, ?_, by simp⟩⟩
      rw [Array.size_append, size_zeroCells, size_zeroCells, hzs, ← Nat.add_mul]
      congr 1
      omega)
    exact ⟨Res.own enc sz e (some w.heap.size) (grownCap w n 0 e) ([] : List α) :: L, hm2, fun D _ _ Rf w' hm' => hm'.sub (List.sublist_cons_self _ _), k _ _ hge⟩
end

end Go.Proofs.Ytjmklbkcpjmcaaa.H

namespace Go.Proofs.Ytjmklbkcpjmcaaa.H
open Go Go.RowKit
set_option linter.unusedVariables false
set_option linter.unusedSimpArgs false

section
variable {J : Jd} {ops : Array Oper} {dest : Option (List Nat)} {Q : Post} {i : Nat} {rest : List (Nat × Kind)} {E : Env} {ds : List Deferred} {L : List Res}
variable {d : Option Nat} {ty : TypeId} {pos : String} {aft : Array Edge} {g : Option (Nat × Bool)}
theorem wrap_u8 {n : Int} (h0 : 0 ≤ n) (h1 : n ≤ 255) : IntKind.u8.wrap n = n := by
  simp [IntKind.wrap, IntKind.bits, IntKind.signed]; omega

theorem Plan.remU {xt yt : TypeId} {x y : Operand} {a b : Int} (ho : ops[i]? = some ⟨d, .binOp .rem xt x y yt, ty, pos, aft, g⟩)
    (hg : wantE ops ⟨d, .binOp .rem xt x y yt, ty, pos, aft, g⟩ E = true) (hx : ev E x = .int .u8 a) (hy : ev E y = .int .u8 b) (h : 0 ≤ a ∧ 0 < b)
    (k : Plan J ops dest Q rest (upd E d (.int .u8 (a % b))) ds L) : Plan J ops dest Q ((i, .st) :: rest) E ds L :=
  Plan.st ho hg (St.of_exec (by intro c h; cases h) fun w _ => by
    unfold execOp
    have hb : b ≠ 0 := by omega
    have ht : a.tmod b = a % b := Int.tmod_eq_emod_of_nonneg h.1
    simp [hx, hy, eqGuard, binOp, Op.intDiv, hb, Result.andThen, ht]) k

theorem Plan.quoU {xt yt : TypeId} {x y : Operand} {a b : Int} (ho : ops[i]? = some ⟨d, .binOp .quo xt x y yt, ty, pos, aft, g⟩)
    (hg : wantE ops ⟨d, .binOp .quo xt x y yt, ty, pos, aft, g⟩ E = true) (hx : ev E x = .int .u8 a) (hy : ev E y = .int .u8 b) (h : 0 ≤ a ∧ a ≤ 255 ∧ 0 < b)
    (k : Plan J ops dest Q rest (upd E d (.int .u8 (a / b))) ds L) : Plan J ops dest Q ((i, .st) :: rest) E ds L :=
  Plan.st ho hg (St.of_exec (by intro c h; cases h) fun w _ => by
    unfold execOp
    have hb : b ≠ 0 := by omega
    have ht : a.tdiv b = a / b := Int.tdiv_eq_ediv_of_nonneg h.1
    have h1 : 0 ≤ a / b := Int.ediv_nonneg h.1 (by omega)
    have h2 : a / b ≤ a := Int.ediv_le_self b h.1
    have hw := wrap_u8 (n := a / b) (by omega) (by omega)
    simp [hx, hy, eqGuard, binOp, Op.intDiv, hb, Result.andThen, ht, hw]) k

theorem Plan.convI {src dst : TypeId} {x : Operand} {kd : IntKind} {n : Int} (ho : ops[i]? = some ⟨d, .convert src dst x, ty, pos, aft, g⟩) (hg : wantE ops ⟨d, .convert src dst x, ty, pos, aft, g⟩ E = true)
    (hs : ∃ ds, J.P.underlying src = some ds) (hd : J.P.underlying dst = some (.int .i64)) (hx : ev E x = .int kd n) (h : -9223372036854775808 ≤ n ∧ n ≤ 9223372036854775807)
    (k : Plan J ops dest Q rest (upd E d (.int .i64 n)) ds L) : Plan J ops dest Q ((i, .st) :: rest) E ds L :=
  Plan.st ho hg (St.of_exec (by intro c h; cases h) fun w _ => by
    unfold execOp convert
    obtain ⟨ds, hs⟩ := hs
    have hw := wrap_i64 (n := n) (by omega) (by omega)
    simp [hx, run_underlying hs, run_underlying hd, Conv.intToInt, hw, Result.andThen]) k
end

end Go.Proofs.Ytjmklbkcpjmcaaa.H

namespace Go.Proofs.Ytjmklbkcpjmcaaa.H
open Go Go.RowKit
set_option linter.unusedVariables false
set_option linter.unusedSimpArgs false

/-- blocks that a slice of n elements does not lie in -/
def Off (X : List Nat) (A : Option Addr) (n : Nat) : Prop := ∀ a, A = some a → 0 < n → a.block ∉ X

theorem Addr.add_block (a : Addr) (n : Nat) : (a.add n).block = a.block := by
  unfold Addr.add
  split <;> rfl

theorem Rd.memX {α : Type} {enc : α → List Value} {k : Nat} {w0 w : World} {X : List Nat} {L : List Res} {A : Option Addr} {xs : List α} (h : Rd enc k w0 A xs) (hm : Mem w0 X L w) (ho : Off X A xs.length) : Rd enc k w A xs := fun i hi => by
  obtain ⟨a, e, hl⟩ := h i hi
  refine ⟨a, e, hl.keep fun b' hb' e' => hm.old b' hb' ?_⟩
  rw [e', Addr.add_block]
  exact ho a e (by omega)

theorem Off.nil {A : Option Addr} {n : Nat} : Off [] A n := fun a _ _ h => by simp at h
theorem Off.mono {X : List Nat} {A : Option Addr} {n m : Nat} (h : Off X A n) (hm : 0 < m → 0 < n) : Off X A m := fun a e hp => h a e (hm hp)

/-- a slice that came in lies in no block that was made later -/
theorem Rd.off {α : Type} {enc : α → List Value} {k : Nat} {w : World} {A : Option Addr} {xs : List α} (h : Rd enc k w A xs) (hk : ∀ x, 0 < (enc x).length) {X : List Nat} (hX : ∀ b ∈ X, w.heap.size ≤ b) : Off X A xs.length := fun a e hn hb => by
  obtain ⟨a', e', hl⟩ := h 0 hn
  rw [e] at e'
  obtain rfl : a = a' := by injection e'
  have hv : 0 < (enc xs[0]).length := hk _
  have h1 := hl 0 (enc xs[0])[0] (List.getElem?_eq_getElem hv)
  have hlt : ((a.add (0 * k)).add 0).block < w.heap.size := World.block_lt_of_cell? _ _ h1
  rw [Addr.add_block, Addr.add_block] at hlt
  have := hX _ hb
  omega

theorem Sees.rdX {J : Jd} {L : List Res} {α : Type} {enc : α → List Value} {k : Nat} {a : Addr} {xs : List α} (h : Rd enc k J.w0 (some a) xs) (hX : Off J.X (some a) xs.length) (i : Nat) (hi : i < xs.length) : Sees J L (a.add (i * k)) (enc xs[i]) := by
  obtain ⟨a', e, hl⟩ := h i hi
  obtain rfl : a = a' := by injection e
  exact Sees.old hl (by rw [Addr.add_block]; exact hX a rfl (by omega))

theorem Sees.nth {J : Jd} {L : List Res} {a : Addr} {vs : List Value} {v : Value} (h : Sees J L a vs) (j : Nat) (hv : vs[j]? = some v) : Sees J L (a.add j) [v] := fun w hm j' u hu => by
  cases j' with
  | zero =>
    simp only [List.getElem?_cons_zero, Option.some.injEq] at hu
    subst hu
    rw [H.add_add]
    exact h w hm j v hv
  | succ j' => cases hu

/-- blocks that came in and may be changed -/
theorem Mem.own2 {w : World} {r s : Res} (hr : r.holds w) (hs : s.holds w) (fr : ∀ b ∈ r.foot, b < w.heap.size) (fs : ∀ b ∈ s.foot, b < w.heap.size) (hd : ∀ b ∈ r.foot, b ∉ s.foot) : Mem w (r.foot ++ s.foot) [r, s] w :=
  ⟨rfl, rfl, Nat.le_refl _, rfl, Nat.le_refl _, fun _ _ _ => rfl, fun q hq => by
    rcases List.mem_cons.1 hq with rfl | hq
    · exact hr
    · obtain rfl := List.mem_singleton.1 hq
      exact hs, fun q hq b hb => by
    rcases List.mem_cons.1 hq with rfl | hq
    · exact ⟨fr b hb, .inr (List.mem_append_left _ hb)⟩
    · obtain rfl := List.mem_singleton.1 hq
      exact ⟨fs b hb, .inr (List.mem_append_right _ hb)⟩, List.pairwise_cons.2 ⟨fun q hq => by
    obtain rfl := List.mem_singleton.1 hq
    exact hd, List.pairwise_singleton _ _⟩⟩
theorem Mem.own1 {w : World} {r : Res} (hr : r.holds w) (fr : ∀ b ∈ r.foot, b < w.heap.size) : Mem w r.foot [r] w :=
  ⟨rfl, rfl, Nat.le_refl _, rfl, Nat.le_refl _, fun _ _ _ => rfl, fun q hq => by
    obtain rfl := List.mem_singleton.1 hq
    exact hr, fun q hq b hb => by
    obtain rfl := List.mem_singleton.1 hq
    exact ⟨fr b hb, .inr hb⟩, List.pairwise_singleton _ _⟩

theorem Res.own_lt {α : Type} {enc : α → List Value} {sz : Nat} {e : TypeId} {b c : Nat} {xs : List α} {w : World} (h : (Res.own enc sz e (some b) c xs).holds w) : b < w.heap.size := by
  obtain ⟨cur, h1, _⟩ := Res.own_cells h b rfl
  exact (Array.getElem?_eq_some_iff.1 h1).1

/-- the address of x[lo:] -/
def cutA (A : Option Addr) (c lo sz : Nat) : Option Addr := if c = lo then A else A.map (·.add (lo * sz))

theorem Rd.cut {α : Type} {enc : α → List Value} {k : Nat} {w : World} {A : Option Addr} {xs : List α} {c : Nat} (h : Rd enc k w A xs) (hc : xs.length ≤ c) (lo : Nat) : Rd enc k w (cutA A c lo k) (xs.drop lo) := fun i hi => by
  rw [List.length_drop] at hi
  obtain ⟨a, rfl, hl⟩ := h (lo + i) (by omega)
  refine ⟨a.add (lo * k), ?_, ?_⟩
  · unfold cutA
    rw [if_neg (by omega)]
    rfl
  · rw [List.getElem_drop, H.add_add]
    have : lo * k + i * k = (lo + i) * k := by rw [Nat.add_mul]
    rw [this]
    exact hl

theorem Off.cut {X : List Nat} {A : Option Addr} {n c lo k : Nat} (h : Off X A n) : Off X (cutA A c lo k) (n - lo) := fun a e hp => by
  unfold cutA at e
  split at e
  · exact h a e (by omega)
  · obtain ⟨a', rfl, rfl⟩ := Option.map_eq_some_iff.1 e
    rw [Addr.add_block]
    exact h a' rfl (by omega)

theorem run_sliceLoA {P : Program} {w : World} {st e : TypeId} {A : Option Addr} {n c lo sz : Nat} {kd : IntKind} (ht : P.underlying st = some (.slice e)) (hsz : (sizeOf e).run P w = .ok sz w) (h : lo ≤ n) :
    (Instr.sliceAt st (.slice A n c) (some (.int kd (lo : Int))) none none).run P w = .ok (.slice (cutA A c lo sz) (n - lo) (c - lo)) w := by
  have h1 : (lo : Int) ≤ (n : Int) := by omega
  simp [Instr.sliceAt, Instr.slice, run_underlying ht, Instr.sliceBounds, Instr.sliceBound, asIntOf, h1, h, hsz, cutA]

theorem run_lift_value2 {P : Program} {s : Sem Value} {w w' : World} {v : Value} (h : s.run P w = .ok v w') : (do pure (.value (← s)) : Sem Next).run P w = .ok (.value v) w' := by
  simp [h]

theorem made_flat {α : Type} {enc : α → List Value} {x0 : α} {z : Value} {sz : Nat} (hz : z.cells.toList = enc x0) (hpos : 0 < sz) (hsz : z.cells.size = sz) (n : Nat) : (madeCells z.cells (n * sz)).toList = (List.replicate n x0).flatMap enc := by
  have hlen : ∀ x ∈ List.replicate n x0, (enc x).length = sz := fun x hx => by
    rw [List.eq_of_mem_replicate hx, ← hz, Array.length_toList, hsz]
  have h0 : (enc x0).length = sz := by rw [← hz, Array.length_toList, hsz]
  refine List.ext_getElem ?_ fun i h1 h2 => ?_
  · rw [Array.length_toList, size_madeCells]
    clear hlen
    induction n with
    | zero => simp
    | succ n ih => rw [List.replicate_succ, List.flatMap_cons, List.length_append, ← ih, h0, Nat.add_mul]; omega
  · rw [Array.length_toList, size_madeCells] at h1
    have e1 : (madeCells z.cells (n * sz)).toList[i] = (enc x0)[i % sz]'(by rw [h0]; exact Nat.mod_lt _ hpos) := by
      have hm : i % sz < z.cells.size := by rw [hsz]; exact Nat.mod_lt _ hpos
      simp only [madeCells, Array.getElem_toList, Array.getElem_map, Array.getElem_range, hsz]
      rw [getElem!_pos z.cells (i % sz) hm, ← Array.getElem_toList]
      simp only [hz]
    rw [e1]
    clear e1 hlen
    revert h2
    induction n generalizing i with
    | zero => omega
    | succ n ih =>
      intro h2
      simp only [List.replicate_succ, List.flatMap_cons]
      by_cases hi : i < sz
      · rw [List.getElem_append_left (by rw [h0]; exact hi)]
        simp only [Nat.mod_eq_of_lt hi]
      · have hn : (n + 1) * sz = n * sz + sz := by rw [Nat.add_mul]; omega
        have hi2 : i - sz < n * sz := by omega
        rw [List.getElem_append_right (by rw [h0]; omega)]
        simp only [h0]
        have e2 : i % sz = (i - sz) % sz := by rw [← Nat.mod_eq_sub_mod (by omega)]
        simp only [e2]
        exact ih (i - sz) (by rw [Array.length_toList, size_madeCells]; exact hi2) hi2 (by simp only [List.replicate_succ, List.flatMap_cons, List.length_append, h0] at h2; omega)

section
variable {J : Jd} {ops : Array Oper} {dest : Option (List Nat)} {Q : Post} {i : Nat} {rest : List (Nat × Kind)} {E : Env} {ds : List Deferred} {L : List Res}
variable {d : Option Nat} {ty : TypeId} {pos : String} {aft : Array Edge} {g : Option (Nat × Bool)}
theorem Plan.sliceLoA {st e : TypeId} {x y : Operand} {A : Option Addr} {n c sz : Nat} {kd : IntKind} {q : Int} (lo : Nat) (ho : ops[i]? = some ⟨d, .slice st x (some y) none none, ty, pos, aft, g⟩)
    (hg : wantE ops ⟨d, .slice st x (some y) none none, ty, pos, aft, g⟩ E = true) (ht : J.P.underlying st = some (.slice e)) (hsz : ∀ w, (sizeOf e).run J.P w = .ok sz w) (hx : ev E x = .slice A n c)
    (hy : ev E y = .int kd q) (hq : q = (lo : Int)) (h : lo ≤ n) (k : Plan J ops dest Q rest (upd E d (.slice (cutA A c lo sz) (n - lo) (c - lo))) ds L) : Plan J ops dest Q ((i, .st) :: rest) E ds L :=
  Plan.st ho hg (St.of_exec (by intro c h; cases h) fun w _ => by
    subst hq
    unfold execOp
    simp only [hx, Option.map_some, Option.map_none, hy]
    exact run_lift_value (run_sliceLoA ht (hsz w) h)) k

theorem run_append0 {P : Program} {st ety e : TypeId} {A B : Option Addr} {n c k : Nat} {w : World} (ht : P.underlying st = some (.slice e)) (hi : ∃ ti, P.info? e = some ti) (h : n ≤ c) :
    (Builtin.append_ #[st, st] ety #[.slice A n c, .slice B 0 k]).run P w = .ok (.slice A n c) w := by
  obtain ⟨ti, hi⟩ := hi
  cases A <;> cases B <;> simp [Builtin.append_, run_underlying ht, sizeOf, typeInfo, hi, Builtin.lenOf, Builtin.firstCells, h, storeCells, loadCells, loadCellsFrom]

/-- append(x, y...), y a slice that came in -/
theorem Plan.appendRd {α : Type} {enc : α → List Value} {sz : Nat} {e : TypeId} {st : TypeId} {x y : Operand} {z : Value} {bytes : Nat} {o : Option Nat} {n m c k' : Nat} {xs ys : List α} {A : Option Addr} (j : Nat)
    (ho : ops[i]? = some ⟨d, .call ⟨.builtin .append, #[x, y], #[st, st]⟩, ty, pos, aft, g⟩) (hg : wantE ops ⟨d, .call ⟨.builtin .append, #[x, y], #[st, st]⟩, ty, pos, aft, g⟩ E = true)
    (hD : ∀ D, dest = some D → i ∈ D) (ht : J.P.underlying st = some (.slice e)) (hinf : ∃ ti, J.P.info? e = some ti ∧ (ti.zero, ti.size, ti.bytes) = (some z, sz, bytes)) (hzs : z.cells.size = sz) (hpos : 0 < sz)
    (hk : ∀ x, (enc x).length = sz) (h1 : ∀ x, (enc x).all (·.oneCell') = true)
    (hj : L[j]? = some (Res.own enc sz e o c xs)) (hx : ev E x = slv o n c) (hn : n = xs.length) (hy : ev E y = .slice A m k') (hm : m = ys.length) (hys : ∀ w, Mem J.w0 J.X L w → Rd enc sz w A ys)
    (hb : (xs.length + ys.length) * bytes ≤ 140737488355328) (hl : xs.length + ys.length ≤ 9223372036854775807)
    (k : ∀ o' c', Plan J ops dest Q rest (upd E d (slv o' (xs.length + ys.length) c')) ds (L.set j (Res.own enc sz e o' c' (xs ++ ys)))) : Plan J ops dest Q ((i, .ef) :: rest) E ds L := by
  cases ys with
  | nil =>
    refine Plan.ef ho hg (by intro c h; cases h) fun Rf w hw => ?_
    subst hn hm
    obtain ⟨ti, hi, hty⟩ := hinf
    have hcap := (Res.own_cap (hw.res _ (List.mem_append_left _ (mem_of_get hj)))).1
    have hrun : (execOp (ev E) ⟨d, .call ⟨.builtin .append, #[x, y], #[st, st]⟩, ty, pos, aft, g⟩).run J.P w = .ok (.value (slv o xs.length c)) w := by
      unfold execOp
      simp [resolve, hx, hy, invoke, builtin, run_append0 ht ⟨ti, hi⟩ hcap, Result.andThen]
    rw [hrun]
    have hk0 := k o c
    have e1 : L.set j (Res.own enc sz e o c (xs ++ [])) = L := by
      rw [List.append_nil]
      obtain ⟨hlt, hget⟩ := List.getElem?_eq_some_iff.1 hj
      rw [← hget, List.set_getElem_self]
    rw [e1] at hk0
    exact ⟨L, hw, fun D _ _ Rf => Sub.refl _ _, hk0⟩
  | cons y0 ys =>
    cases A with
    | none =>
      refine Plan.ef ho hg (by intro c h; cases h) fun Rf w hw => ?_
      obtain ⟨a, e, _⟩ := hys w (hw.sub (List.sublist_append_left _ _)) 0 (by simp)
      cases e
    | some a =>
      exact Plan.append (enc := enc) (ys := y0 :: ys) (a := a) j ho hg hD ht hinf hzs hpos hk h1 hj hx hn hy hm (fun w hw => (hys w hw).all hk) hb hl k

/-- make([]T, n) -/
theorem Plan.makeOwn {α : Type} {st e : TypeId} {x : Operand} {z : Value} {sz bytes : Nat} (enc : α → List Value) (x0 : α) (n : Nat)
    (ho : ops[i]? = some ⟨d, .makeSlice st x x, ty, pos, aft, g⟩) (hg : wantE ops ⟨d, .makeSlice st x x, ty, pos, aft, g⟩ E = true)
    (ht : J.P.underlying st = some (.slice e)) (hinf : ∃ ti, J.P.info? e = some ti ∧ (ti.zero, ti.size, ti.bytes) = (some z, sz, bytes)) (hz : z.cells.toList = enc x0) (hpos : 0 < sz) (hsz : z.cells.size = sz)
    {kd : IntKind} {q : Int} (hx : ev E x = .int kd q) (hq : q = (n : Int)) (hb : bytes * n ≤ 281474976710656) (hn : n ≤ 9223372036854775807)
    (k : ∀ b, Plan J ops dest Q rest (upd E d (slv (some b) n n)) ds (Res.own enc sz e (some b) n (List.replicate n x0) :: L)) : Plan J ops dest Q ((i, .ef) :: rest) E ds L :=
  Plan.ef ho hg (by intro c h; cases h) fun Rf w hm => by
    subst hq
    obtain ⟨ti, hi, hty⟩ := hinf
    have hz1 : ti.zero = some z := congrArg (·.1) hty
    have hs : ti.size = sz := congrArg (·.2.1) hty
    have hby : ti.bytes = bytes := congrArg (·.2.2) hty
    have hb' : (ti.bytes : Int) * (n : Int) ≤ 281474976710656 := by
      have h : ((ti.bytes * n : Nat) : Int) ≤ 281474976710656 := by rw [hby]; omega
      rwa [Int.natCast_mul] at h
    have hrun := run_make (P := J.P) w st e ti z ht hi hz1 kd kd (n : Int) (n : Int) (by omega) (Int.le_refl _) hb' (by omega)
    simp only [Int.toNat_natCast, hs] at hrun
    have hr : (execOp (ev E) ⟨d, .makeSlice st x x, ty, pos, aft, g⟩).run J.P w = .ok (.value (.slice (some ⟨w.heap.size, 0, none⟩) n n)) (w.alloc (.cells (madeCells z.cells (n * sz)) e)) := by
      unfold execOp
      simp only [hx]
      exact run_lift_value2 hrun
    rw [hr]
    have hm1 : Mem J.w0 J.X ((Res.blk w.heap.size (madeCells z.cells (n * sz)) e :: L) ++ Rf) (w.alloc (.cells (madeCells z.cells (n * sz)) e (0, 0))) := hm.alloc _ e
    have hm2 := Mem.swap 0 hm1 rfl (Res.own enc sz e (some w.heap.size) n (List.replicate n x0)) (List.Sublist.refl _) (fun hh => by
      refine own_of_blk ?_ ?_ (by simp only [maxLen, List.length_replicate]; exact hn) (by simp) hh
      · exact made_flat hz hpos hsz n
      · rw [size_madeCells]; simp)
    exact ⟨Res.own enc sz e (some w.heap.size) n (List.replicate n x0) :: L, hm2, fun D _ _ Rf w' hm' => hm'.sub (List.sublist_cons_self _ _), k _⟩
end

end Go.Proofs.Ytjmklbkcpjmcaaa.H
