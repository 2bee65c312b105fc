/-
  The frame of these proofs, twelfth part: calls that are handed one resource by its place; capacities.
-/
import Derived.Test.YtjmklbkcpjmcaaaHb
namespace Go.Proofs.Ytjmklbkcpjmcaaa.H
open Go Go.RowKit
set_option linter.unusedVariables false
set_option linter.unusedSimpArgs false

section
variable {J : Jd} {ops : Array Oper} {dest : Option (List Nat)} {Q : Post} {i : Nat} {rest : List (Nat × Kind)} {E : Env} {ds : List Deferred} {L : List Res}
variable {d : Option Nat} {ty : TypeId} {pos : String} {aft : Array Edge} {g : Option (Nat × Bool)}
/-- a call of a function that is known by its number, by its contract; the resource at place j is handed over -/
theorem Plan.callJ {f : FuncId} {xs : Array Operand} {ts : Array TypeId} {args : List Value} {R : Value → List Res → Prop} (X : List Nat) (j : Nat)
    (ho : ops[i]? = some ⟨d, .call ⟨.value (.func f), xs, ts⟩, ty, pos, aft, g⟩) (hg : wantE ops ⟨d, .call ⟨.value (.func f), xs, ts⟩, ty, pos, aft, g⟩ E = true)
    (ha : xs.toList.map (ev E) = args) (hD : ∀ D, dest = some D → i ∈ D)
    (hX : ∃ r, L[j]? = some r ∧ ∀ b ∈ X, b ∈ r.foot)
    (hc : ∀ w, Mem J.w0 J.X L w → Ct J.P f args.toArray w X R) (k : ∀ v Ln, R v Ln → Plan J ops dest Q rest (upd E d v) ds (Ln ++ L.eraseIdx j)) : Plan J ops dest Q ((i, .ef) :: rest) E ds L :=
  Plan.ef ho hg (by intro c h; cases h) fun Rf w hm => by
    obtain ⟨hf, hcall⟩ := hc w (hm.sub (List.sublist_append_left _ _))
    have hr : (execOp (ev E) ⟨d, .call ⟨.value (.func f), xs, ts⟩, ty, pos, aft, g⟩).run J.P w = .ok (.enter f args.toArray) w := by
      unfold execOp
      subst ha
      simp [resolve, ev, Deferred.ofValue, invoke, hf _ _, map_list]
    rw [hr]
    refine Calls.mono hcall ?_
    rintro e w' ⟨v, Ln, rfl, h2, h3⟩
    obtain ⟨r, hj, hX⟩ := hX
    obtain ⟨hlt, hget⟩ := List.getElem?_eq_some_iff.1 hj
    have hp : (L ++ Rf).Perm ([r] ++ (L.eraseIdx j ++ Rf)) := by
      rw [← List.append_assoc]
      refine List.Perm.append_right Rf ?_
      have e : L = L.take j ++ r :: L.drop (j + 1) := by rw [← hget]; simp
      rw [List.eraseIdx_eq_take_drop_succ]
      refine List.Perm.trans (List.Perm.of_eq e) List.perm_middle
    refine ⟨v, Ln ++ L.eraseIdx j, rfl, ?_, fun D hD' hi => absurd (hD D hD') hi, k v Ln h3⟩
    rw [List.append_assoc]
    exact (hm.perm hp).call h2 fun b hb => ⟨r, by simp, hX b hb⟩

/-- the capacity of a slice -/
theorem Plan.cap {st e : TypeId} {x : Operand} {A : Option Addr} {n c : Nat} (ho : ops[i]? = some ⟨d, .call ⟨.builtin .cap, #[x], #[st]⟩, ty, pos, aft, g⟩)
    (hg : wantE ops ⟨d, .call ⟨.builtin .cap, #[x], #[st]⟩, ty, pos, aft, g⟩ E = true) (hs : J.P.underlying st = some (.slice e)) (hx : ev E x = .slice A n c)
    (k : Plan J ops dest Q rest (upd E d (.int .i64 c)) ds L) : Plan J ops dest Q ((i, .st) :: rest) E ds L :=
  Plan.st ho hg (St.of_exec (by intro c h; cases h) fun w _ => by
    unfold execOp
    simp [resolve, hx, invoke, builtin, Builtin.cap_, run_underlying hs, goInt, Result.andThen]) k
end

theorem Lies.notMap {w : World} {a : Addr} {vs : List Value} {b n : Nat} {es : Array MapEntry} (h : Lies w a vs) (hv : 0 < vs.length) (hb : w.heap[b]? = some (.map es n)) : a.block ≠ b := by
  intro e
  have h0 := h 0 vs[0] (by rw [List.getElem?_eq_getElem hv])
  have hbl : (a.add 0).block = a.block := by unfold Addr.add; split <;> rfl
  have hlt := World.block_lt_of_cell? _ _ h0
  unfold World.cell? at h0
  rw [hbl, e, hb] at h0
  simp at h0

theorem Rd.memMap {α : Type} {enc : α → List Value} {k : Nat} {w0 w : World} {L : List Res} {A : Option Addr} {xs : List α} {b n : Nat} {es : Array MapEntry} (h : Rd enc k w0 A xs) (hm : Mem w0 [b] L w) (hb : w0.heap[b]? = some (.map es n))
    (hk : ∀ x, 0 < (enc x).length) : Rd enc k w A xs := fun i hi => by
  obtain ⟨a, e, hl⟩ := h i hi
  refine ⟨a, e, hl.keep fun b' hb' e' => hm.old b' hb' ?_⟩
  have := hl.notMap (hk _) hb
  simp only [List.mem_singleton]
  rw [e']
  exact this

/-- a map that came in and may be changed -/
theorem Mem.ownMap {K V : Type} {ek : K → Value} {ev' : V → Value} {w : World} {b : Nat} {l : List (K × V)} (h : w.heap[b]? = some (.map (ents ek ev' 0 l).toArray l.length)) : Mem w [b] [Res.mp ek ev' b l] w := by
  have hb : b < w.heap.size := (Array.getElem?_eq_some_iff.1 h).1
  refine ⟨rfl, rfl, Nat.le_refl _, rfl, Nat.le_refl _, fun _ _ _ => rfl, fun r hr => ?_, fun r hr c hc => ?_, List.pairwise_singleton _ _⟩
  · obtain rfl := List.mem_singleton.1 hr
    exact h
  · obtain rfl := List.mem_singleton.1 hr
    have hc : c = b := by simpa [Res.mp, Res.obj] using hc
    subst hc
    exact ⟨hb, .inr (by simp)⟩

theorem mem_putK {K V : Type} [DecidableEq K] {k : K} {v : V} {l : List (K × V)} {e : K × V} (h : e ∈ putK k v l) : e ∈ l ∨ e = (k, v) := by
  unfold putK at h
  split at h
  · rcases List.mem_or_eq_of_mem_set h with h | h
    · exact .inl h
    · exact .inr h
  · rcases List.mem_append.1 h with h | h
    · exact .inl h
    · exact .inr (List.mem_singleton.1 h)

theorem valAt_mem {K V : Type} [DecidableEq K] {k : K} {v : V} {l : List (K × V)} (h : valAt k l = some v) : (k, v) ∈ l := by
  unfold valAt at h
  obtain ⟨e, he, rfl⟩ := Option.map_eq_some_iff.1 h
  have h1 := List.find?_some he
  have h2 := List.mem_of_find?_eq_some he
  obtain ⟨a, b⟩ := e
  simp only [decide_eq_true_eq] at h1
  subst h1
  exact h2

end Go.Proofs.Ytjmklbkcpjmcaaa.H
