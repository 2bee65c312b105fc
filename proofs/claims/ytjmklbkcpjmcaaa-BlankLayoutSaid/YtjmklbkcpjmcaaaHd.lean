/-
  Rules: a slice in a map grows.
  Rules: a store into a field of an element.
-/
import Derived.Test.YtjmklbkcpjmcaaaH5
import Derived.WideKeyEntry
namespace Go.Proofs.Ytjmklbkcpjmcaaa.H
open Go Go.RowKit
set_option linter.unusedVariables false
set_option linter.unusedSimpArgs false
set_option linter.unusedSectionVars false

section
variable {P : Program} {kt : TypeId} {K V : Type} [DecidableEq K] {ek : K → Value} {ev' : V → Value}

theorem ents_setv : ∀ (l : List (K × V)) (i j : Nat) (k : K) (v v' : V) (h : l[j]? = some (k, v)), ents ek ev' i (l.set j (k, v')) = (ents ek ev' i l).modify j (fun e => { e with val := ev' v' })
  | [], _, _, _, _, _, h => by simp at h
  | (k', v0) :: r, i, 0, k, v, v', h => by
    simp only [List.getElem?_cons_zero, Option.some.injEq, Prod.mk.injEq] at h
    obtain ⟨rfl, rfl⟩ := h
    rfl
  | (k', v0) :: r, i, j + 1, k, v, v', h => by
    rw [List.set_cons_succ, ents, ents_setv r (i + 1) j k v v' (by simpa using h), ents]
    rfl
theorem ents_born (l : List (K × V)) : (ents ek ev' 0 l).map (·.born) = List.range l.length := by
  have : ∀ (l : List (K × V)) (i : Nat), (ents ek ev' i l).map (·.born) = List.range' i l.length := by
    intro l
    induction l with
    | nil => intro i; rfl
    | cons x l ih => intro i; obtain ⟨k, v⟩ := x; rw [ents, List.map_cons, ih, List.length_cons, List.range'_succ]
  rw [this, List.range_eq_range']
theorem ents_find {l : List (K × V)} {j : Nat} (hj : j < l.length) : (ents ek ev' 0 l).toArray.findIdx? (fun e => ((e.born : Nat) : Int) == ((j : Nat) : Int)) = some j := by
  rw [Go.WideElems.findIdx_arr]
  have hg := ents_get (ek := ek) (ev' := ev') l 0 j hj
  rw [Nat.zero_add] at hg
  exact Go.WideElems.findIdx_born (l := (ents ek ev' 0 l)) (j := j) (e0 := { key := ek l[j].1, val := ev' l[j].2, born := j }) (by rw [ents_born]; exact List.nodup_range) hg
theorem set_same : ∀ (l : List (K × V)) (j : Nat) (a : K × V), l[j]? = some a → l.set j a = l := Go.WideElems.set_self

theorem run_mapEntry_none {mt et : TypeId} (hK : Keys P kt ek) (ht : P.underlying mt = some (.map kt et)) {z : Value} (hz : ∀ w, (zeroValue et).run P w = .ok z w) {w : World} {b : Nat} {l : List (K × V)} (hb : w.heap[b]? = some (.map (ents ek ev' 0 l).toArray l.length)) (k : K) (vz : V) (hvz : ev' vz = z) (hk : keyAt k l = none) :
    (Instr.mapEntry mt (.map (some b)) (ek k)).run P w = .ok (.tuple #[z, .int .i64 l.length]) (w.putObj b (.map (ents ek ev' 0 (l ++ [(k, vz)])).toArray (l ++ [(k, vz)]).length)) := by
  subst hvz
  unfold Instr.mapEntry
  simp only [Sem.run_bind, run_underlying ht, Result.andThen, run_getObj hb (by intros; simp), hK.chk, run_findKey hK, hk, Option.bind_none, hz]
  rw [run_setObj _ hb (by intros; simp)]
  simp only [Sem.run_pure, goInt]
  congr 2
  rw [ents_append, List.length_append]
  simp [ents]

theorem run_mapEntry_some {mt et : TypeId} (hK : Keys P kt ek) (ht : P.underlying mt = some (.map kt et)) {w : World} {b : Nat} {l : List (K × V)} (hb : w.heap[b]? = some (.map (ents ek ev' 0 l).toArray l.length)) {k : K} {j : Nat} {v : V} (hk : keyAt k l = some j) (hv : l[j]? = some (k, v)) :
    (Instr.mapEntry mt (.map (some b)) (ek k)).run P w = .ok (.tuple #[ev' v, .int .i64 j]) (w.putObj b (.map (ents ek ev' 0 l).toArray l.length)) := by
  have hj : j < l.length := (List.getElem?_eq_some_iff.1 hv).1
  have hl : l[j] = (k, v) := (List.getElem?_eq_some_iff.1 hv).2
  have hg := ents_get (ek := ek) (ev' := ev') l 0 j hj
  rw [Nat.zero_add, hl] at hg
  have hkey : ((((ents ek ev' 0 l).toArray)[j]?).map (·.key)).getD (ek k) = ek k := by
    rw [List.getElem?_toArray, hg]
    rfl
  have hborn : ((((ents ek ev' 0 l).toArray)[j]?).map (fun x => ((x.born : Nat) : Int))).getD 0 = (j : Int) := by
    rw [List.getElem?_toArray, hg]
    rfl
  unfold Instr.mapEntry
  simp only [Sem.run_bind, run_underlying ht, Result.andThen, run_getObj hb (by intros; simp), hK.chk, run_findKey hK, hk, hv, Option.bind_some, Option.map_some]
  rw [hkey]
  unfold Instr.keyThatStays
  rw [if_pos (hK.same k)]
  simp only [Sem.run_pure, Result.andThen]
  rw [run_setObj _ hb (by intros; simp)]
  simp only [Sem.run_pure, goInt, hborn]
  have e3 : (ents ek ev' 0 l).toArray.modify j (fun e => { e with key := ek k }) = (ents ek ev' 0 l).toArray := by
    apply Array.ext'
    rw [Array.toList_modify]
    simp only [List.toList_toArray]
    rw [Go.ChangeMaps.modify_eq_set _ _ _ _ hg]
    exact Go.WideElems.set_self _ _ _ hg
  rw [e3]

theorem run_entryStore {mt : TypeId} {w : World} {b : Nat} {l : List (K × V)} (hb : w.heap[b]? = some (.map (ents ek ev' 0 l).toArray l.length)) {k : K} {j : Nat} {v0 : V} (hv : l[j]? = some (k, v0)) (v : V) :
    (Instr.entryStore mt (.map (some b)) (.int .i64 j) (ev' v)).run P w = .ok () (w.putObj b (.map (ents ek ev' 0 (l.set j (k, v))).toArray (l.set j (k, v)).length)) := by
  have hj : j < l.length := (List.getElem?_eq_some_iff.1 hv).1
  unfold Instr.entryStore
  simp only [Sem.run_bind, Result.andThen, run_getObj hb (by intros; simp)]
  have ha : (asInt (.int .i64 (j : Int))).run P w = .ok (j : Int) w := rfl
  rw [ha]
  simp only [ents_find hj]
  rw [run_setObj _ hb (by intros; simp)]
  congr 2
  rw [ents_setv l 0 j k v0 v hv, List.length_set]
  simp
end

section
variable {J : Jd} {ops : Array Oper} {dest : Option (List Nat)} {Q : Post} {i : Nat} {rest : List (Nat × Kind)} {E : Env} {ds : List Deferred} {L : List Res}
variable {d : Option Nat} {ty : TypeId} {pos : String} {aft : Array Edge} {g : Option (Nat × Bool)}
variable {kt : TypeId} {K V : Type} [DecidableEq K] {ek : K → Value} {ev' : V → Value}

/-- the entries with one for a key, and its place -/
def entK (k : K) (vz : V) (l : List (K × V)) : List (K × V) × Nat := match keyAt k l with
  | some i => (l, i)
  | none => (l ++ [(k, vz)], l.length)

/-- the entry of a key: there before, or made -/
theorem Plan.mapEntry {mt et : TypeId} {m x : Operand} {b : Nat} {l : List (K × V)} {k : K} {z : Value} (vz : V) (hvz : ev' vz = z) (j : Nat) (hK : Keys J.P kt ek) (ht : J.P.underlying mt = some (.map kt et)) (hz : ∀ w, (zeroValue et).run J.P w = .ok z w)
    (ho : ops[i]? = some ⟨d, .mapEntry mt m x, ty, pos, aft, g⟩) (hg : wantE ops ⟨d, .mapEntry mt m x, ty, pos, aft, g⟩ E = true) (hD : ∀ D, dest = some D → i ∈ D) (hm' : ev E m = .map (some b)) (hx : ev E x = ek k) (hj : L[j]? = some (Res.mp ek ev' b l))
    (k1 : ∀ v, (entK k vz l).1[(entK k vz l).2]? = some (k, v) → Plan J ops dest Q rest (upd E d (.tuple #[ev' v, .int .i64 ((entK k vz l).2 : Nat)])) ds (L.set j (Res.mp ek ev' b (entK k vz l).1))) : Plan J ops dest Q ((i, .ef) :: rest) E ds L :=
  Plan.ef ho hg (by intro c h; cases h) fun Rf w hm => by
    have hb : w.heap[b]? = some (.map (ents ek ev' 0 l).toArray l.length) := hm.res _ (List.mem_append_left _ (mem_of_get hj))
    unfold entK at k1
    cases hk : keyAt k l with
    | none =>
      simp only [hk] at k1
      have hr : (execOp (ev E) ⟨d, .mapEntry mt m x, ty, pos, aft, g⟩).run J.P w = .ok (.value (.tuple #[z, .int .i64 l.length])) (w.putObj b (.map (ents ek ev' 0 (l ++ [(k, vz)])).toArray (l ++ [(k, vz)]).length)) := by
        unfold execOp
        simp only [hm', hx, Sem.run_bind, run_mapEntry_none hK ht hz hb k vz hvz hk, Result.andThen]
        rfl
      rw [hr]
      have h2 := k1 vz (by simp)
      rw [hvz] at h2
      exact ⟨_, Mem.putAt j hm hj _, fun D hD' hi => absurd (hD D hD') hi, h2⟩
    | some t =>
      simp only [hk] at k1
      obtain ⟨v, hv⟩ := keyAt_get hk
      have hr : (execOp (ev E) ⟨d, .mapEntry mt m x, ty, pos, aft, g⟩).run J.P w = .ok (.value (.tuple #[ev' v, .int .i64 t])) (w.putObj b (.map (ents ek ev' 0 l).toArray l.length)) := by
        unfold execOp
        simp only [hm', hx, Sem.run_bind, run_mapEntry_some hK ht hb hk hv, Result.andThen]
        rfl
      rw [hr]
      exact ⟨_, Mem.putAt j hm hj _, fun D hD' hi => absurd (hD D hD') hi, k1 v hv⟩

/-- a value is stored into an entry -/
theorem Plan.entryStore {mt : TypeId} {m s x : Operand} {b t : Nat} {l : List (K × V)} {k : K} {v0 v : V} (j : Nat)
    (ho : ops[i]? = some ⟨d, .entryStore mt m s x, ty, pos, aft, g⟩) (hg : wantE ops ⟨d, .entryStore mt m s x, ty, pos, aft, g⟩ E = true) (hD : ∀ D, dest = some D → i ∈ D) (hm' : ev E m = .map (some b)) (hs : ev E s = .int .i64 (t : Int)) (hx : ev E x = ev' v) (hj : L[j]? = some (Res.mp ek ev' b l))
    (hv : l[t]? = some (k, v0))
    (k1 : Plan J ops dest Q rest (upd E d undef) ds (L.set j (Res.mp ek ev' b (l.set t (k, v))))) : Plan J ops dest Q ((i, .ef) :: rest) E ds L :=
  Plan.ef ho hg (by intro c h; cases h) fun Rf w hm => by
    have hb : w.heap[b]? = some (.map (ents ek ev' 0 l).toArray l.length) := hm.res _ (List.mem_append_left _ (mem_of_get hj))
    have hr : (execOp (ev E) ⟨d, .entryStore mt m s x, ty, pos, aft, g⟩).run J.P w = .ok .skip (w.putObj b (.map (ents ek ev' 0 (l.set t (k, v))).toArray (l.set t (k, v)).length)) := by
      unfold execOp
      simp only [hm', hs, hx, Sem.run_bind, run_entryStore hb hv v, Result.andThen]
      rfl
    rw [hr]
    exact ⟨_, Mem.putAt j hm hj _, fun D hD' hi => absurd (hD D hD') hi, k1⟩
end
end Go.Proofs.Ytjmklbkcpjmcaaa.H

namespace Go.Proofs.Ytjmklbkcpjmcaaa.H
open Go Go.RowKit
set_option linter.unusedVariables false
set_option linter.unusedSimpArgs false
set_option linter.unusedSectionVars false

section
variable {α : Type} {enc : α → List Value} {sz : Nat} {e : TypeId}

theorem flat_set (hk : ∀ x, (enc x).length = sz) {y : α} {k : Nat} {v : Value} (hks : k < sz) : ∀ (xs : List α) (m : Nat) (hm : m < xs.length), enc y = (enc xs[m]).set k v → (xs.flatMap enc).set (m * sz + k) v = (xs.set m y).flatMap enc
  | [], m, hm, _ => absurd hm (Nat.not_lt_zero _)
  | x :: xs, 0, _, h => by
    simp only [List.flatMap_cons, List.set_cons_zero, List.getElem_cons_zero] at h ⊢
    rw [h, Nat.zero_mul, Nat.zero_add, List.set_append_left _ _ (by rw [hk]; exact hks)]
  | x :: xs, m + 1, hm, h => by
    simp only [List.flatMap_cons, List.set_cons_succ]
    rw [← flat_set hk hks xs m (by simpa using hm) (by simpa using h), List.set_append_right _ _ (by rw [hk, Nat.add_mul]; omega), hk]
    congr 2
    rw [Nat.add_mul]; omega

theorem step_fld {P : Program} {b c m k : Nat} {xs : List α} {y : α} {v : Value} {t : TypeId} {w : World} (hk : ∀ x, (enc x).length = sz) (h : (Res.own enc sz e (some b) c xs).holds w) (hm : m < xs.length) (hks : k < sz) (hz : (sizeOf t).run P w = .ok 1 w)
    (hv : v.cells = #[v]) (h1 : v.oneCell' = true) (hy : enc y = (enc xs[m]).set k v) :
    ∃ w', (storeVar t (((⟨b, 0, none⟩ : Addr).add (m * sz)).add k) v).run P w = .ok () w' ∧ Mem w [b] [Res.own enc sz e (some b) c (xs.set m y)] w' := by
  obtain ⟨cur, hb, h2, h3, h4, h5⟩ := Res.own_cells h b rfl
  have hfit : (m + 1) * sz ≤ xs.length * sz := Nat.mul_le_mul_right _ hm
  have hfit2 : xs.length * sz ≤ c * sz := Nat.mul_le_mul_right _ h3
  rw [Nat.add_mul, Nat.one_mul] at hfit
  have hr := run_storeVar_at (P := P) (w := w) (t := t) (b := b) (o := m * sz + k) (v := v) (n := 1) hz (by rw [hv]; rfl) hb (by omega) (by rw [hv]; intro u hu; simp at hu; rw [hu]; exact h1)
  rw [Addr.add_lit, Addr.add_lit, Nat.zero_add]
  refine ⟨_, hr, ?_⟩
  have hc : cur.toList.take (m * sz + k) ++ v.cells.toList ++ cur.toList.drop (m * sz + k + 1) = cur.toList.set (m * sz + k) v := by
    rw [List.set_eq_take_append_cons_drop, if_pos (by simp; omega), hv]
    simp
  rw [hc]
  refine mem_setRow hk h hb (by simp) (by simpa using h3) ?_
  rw [List.length_set, List.toList_toArray, List.take_set, h5]
  exact flat_set hk hks xs m hm hy
end

section
variable {J : Jd} {ops : Array Oper} {dest : Option (List Nat)} {Q : Post} {i : Nat} {rest : List (Nat × Kind)} {E : Env} {ds : List Deferred} {L : List Res}
variable {d : Option Nat} {ty : TypeId} {pos : String} {aft : Array Edge} {g : Option (Nat × Bool)}
variable {α : Type} {enc : α → List Value} {sz : Nat} {e : TypeId}
/-- a store into a field of an element of a slice of one's own -/
theorem Plan.storeFld {t : TypeId} {x y : Operand} {b c : Nat} {o : Option Nat} {xs : List α} {v : Value} (yv : α) (m k j : Nat) (ho : ops[i]? = some ⟨d, .store t x y, ty, pos, aft, g⟩)
    (hg : wantE ops ⟨d, .store t x y, ty, pos, aft, g⟩ E = true) (hD : ∀ D, dest = some D → i ∈ D) (hz : ∀ w, (sizeOf t).run J.P w = .ok 1 w) (hk : ∀ x, (enc x).length = sz)
    (hx : ev E x = .pointer (some (((⟨b, 0, none⟩ : Addr).add (m * sz)).add k))) (hy : ev E y = v) (hv : v.cells = #[v]) (h1 : v.oneCell' = true)
    (hj : L[j]? = some (Res.own enc sz e o c xs)) (hob : o = some b) (hks : k < sz) (hm : m < xs.length) (hyv : enc yv = (enc xs[m]).set k v)
    (kk : Plan J ops dest Q rest (upd E d undef) ds (L.set j (Res.own enc sz e o c (xs.set m yv)))) : Plan J ops dest Q ((i, .ef) :: rest) E ds L :=
  Plan.ef ho hg (by intro c h; cases h) fun Rf w hw => by
    subst hob
    obtain ⟨w', hr, hs⟩ := step_fld (P := J.P) (y := yv) (v := v) hk (hw.res _ (List.mem_append_left _ (mem_of_get hj))) hm hks (hz w) hv h1 hyv
    have hrun : (execOp (ev E) ⟨d, .store t x y, ty, pos, aft, g⟩).run J.P w = .ok .skip w' := by
      unfold execOp
      simp only [hx, hy, Instr.storeAt, Instr.sureAddr]
      simp [Sem.run_bind, hr]
    rw [hrun]
    exact ⟨_, Mem.step j hw hj hs, fun D hD' hi => absurd (hD D hD') hi, kk⟩
end
end Go.Proofs.Ytjmklbkcpjmcaaa.H
