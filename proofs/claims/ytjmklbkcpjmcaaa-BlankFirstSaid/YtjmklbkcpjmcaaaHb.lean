/-
  The frame of these proofs, eleventh part: scopes, checked pointers.
-/
import Derived.Test.YtjmklbkcpjmcaaaHa
import Derived.Scope
namespace Go.Proofs.Ytjmklbkcpjmcaaa.H
open Go Go.RowKit
set_option linter.unusedVariables false
set_option linter.unusedSimpArgs false

section
variable {F : Fence} {n : Nat} {P : Program} {Q : Exit → Act → World → Prop} {a : Act} {w : World}
theorem stepR_scope {b : Frame} {k : List Item} {cs : List Frame} {c : Code} : step P (lone (b.atR a (.code (.scope c) :: k)) cs w) = .next (lone (b.atR a (.code c :: .inScope c :: k)) cs w) :=
  step_lone_go (by simp [stepG, stepG.exec, Frame.atR])
theorem stepR_inScope {b : Frame} {k : List Item} {cs : List Frame} {c : Code} : step P (lone (b.atR a (.inScope c :: k)) cs w) = .next (lone (b.atR a k) cs w) :=
  step_lone_go (by simp [stepG, stepG.exec, Frame.atR])

/-- a scope through which the run goes without a goto -/
theorem wpIn_scope {c : Code} (h : c.wpIn F n P (Exit.noGoto Q) a w) : (Code.scope c).wpIn F n P Q a w := by
  intro b k cs hro hb hr
  have h0 : (lone (b.atR a (.code (.scope c) :: k)) cs w).fenced P F := fenced_calm hb hr rfl
  obtain ⟨e, a₁, w₁, hq, harr⟩ := h b (.inScope c :: k) cs hro hb hr
  cases e with
  | normal => exact ⟨.normal, a₁, w₁, hq, .head h0 stepR_scope (StepsIn.trans harr (.one (fenced_calm hb hr rfl) stepR_inScope))⟩
  | exit id' =>
    have hx : exitTo id' (.inScope c :: k) = exitTo id' k := by simp [exitTo]
    exact ⟨.exit id', a₁, w₁, hq, fun k' hk => .head h0 stepR_scope (harr.1 k' (by rw [hx]; exact hk)),
      fun hr' hk => let ⟨k₁, h1, h2⟩ := harr.2 hr' (by rw [hx]; exact hk); ⟨k₁, h1, .head h0 stepR_scope h2⟩⟩
  | goto l => exact hq.elim
  | ret => exact ⟨_, a₁, w₁, hq, .of_steps (.one h0 stepR_scope) harr⟩
  | panic ch => exact ⟨_, a₁, w₁, hq, .of_steps (.one h0 stepR_scope) harr⟩
  | outgrown => exact ⟨_, a₁, w₁, hq, .of_steps (.one h0 stepR_scope) harr⟩
end

def noGoto (Q : Post) : Post := fun e => match e with
  | .goto _ => fun _ _ _ => False
  | e => Q e

theorem HW.scope {J : Jd} {c : Code} {Q : Post} {E : Env} {ds : List Deferred} {L : List Res} (h : HW J c (noGoto Q) E ds L) : HW J (.scope c) Q E ds L := fun a w hr hm => by
  refine wpIn_scope (wpIn_mono (h a w hr hm) ?_)
  rintro e a' w' ⟨E', ds', L', h1, h2, h3⟩
  cases e <;> first | exact ⟨E', ds', L', h1, h2, h3⟩ | exact h3.elim

section
variable {J : Jd} {ops : Array Oper} {dest : Option (List Nat)} {Q : Post} {i : Nat} {rest : List (Nat × Kind)} {E : Env} {ds : List Deferred} {L : List Res}
variable {d : Option Nat} {ty : TypeId} {pos : String} {aft : Array Edge} {g : Option (Nat × Bool)}
theorem Plan.nilCheck {x : Operand} {ad : Addr} (ho : ops[i]? = some ⟨d, .nilCheck x, ty, pos, aft, g⟩) (hg : wantE ops ⟨d, .nilCheck x, ty, pos, aft, g⟩ E = true) (hx : ev E x = .pointer (some ad))
    (k : Plan J ops dest Q rest (upd E d (.pointer (some ad))) ds L) : Plan J ops dest Q ((i, .st) :: rest) E ds L :=
  Plan.st ho hg (St.of_exec (by intro c h; cases h) fun w _ => by unfold execOp; simp only [hx]; rfl) k
end

/-- a cell of a block that was there before -/
theorem Sees.oldOne {J : Jd} {L : List Res} {b o : Nat} {cs : Array Value} {t : TypeId} {v : Value} (h : J.w0.heap[b]? = some (.cells cs t (0, 0))) (hX : b ∉ J.X) (hv : cs[o]? = some v) : Sees J L ⟨b, o, none⟩ [v] := fun w hm j u hu => by
  have h' := (hm.old b (Array.getElem?_eq_some_iff.1 h).1 hX).trans h
  rw [Addr.add_lit, cell_of_heap h']
  cases j with
  | zero => rw [← hu]; exact hv
  | succ j => simp at hu

end Go.Proofs.Ytjmklbkcpjmcaaa.H
