/-
  The frame of these proofs, first part: environments, resources, the judgement on code, and a region that draws its order.
  The frame of these proofs, second part: a region that draws its order is walked once, in a planned order.
  The frame of these proofs, third part: the operations one by one.
  The frame of these proofs, fourth part: memory, calls, functions.
  The frame of these proofs, fifth part: loops with named slots, slices that are read, slices of one's own.
-/
import Derived.OrdersIn
import Derived.Below
import Derived.RangeFuncIn
import Derived.RangeFuncMany
import Derived.Laws.AppendOwn
import Derived.Laws.Slices
import Derived.Laws.Cells
import Derived.Laws.CopyRow
import Derived.Maps.AppendAt
namespace Go.Proofs.Ytjmklbkcpjmcaaa.H
open Go Go.RowKit
set_option linter.unusedVariables false
set_option linter.unusedSimpArgs false

abbrev Env := Nat → Value

def upd (E : Env) (d : Option Nat) (v : Value) : Env :=
  match d with
  | some d => fun t => bif Nat.beq t d then v else E t
  | none => E

theorem upd_same (E : Env) (d : Nat) (v : Value) : upd E (some d) v d = v := by simp [upd]
theorem upd_ne (E : Env) {d t : Nat} (v : Value) (h : t ≠ d) : upd E (some d) v t = E t := by
  simp only [upd]
  have : Nat.beq t d = false := by rw [Bool.eq_false_iff]; intro hb; exact h (Nat.eq_of_beq_eq_true hb)
  rw [this]; rfl

def ev (E : Env) : Operand → Value
  | .tmp t => E t
  | .const v => v
  | .global g => .pointer (some ⟨g, 0, none⟩)
  | .func f => .func (.func f) #[] #[]

structure Rep (N : Nat) (ds : List Deferred) (a : Act) (E : Env) : Prop where
  size : a.tmps.size = N
  defs : a.defers = ds
  get : ∀ t, a.tmps.getD t undef = E t

theorem Rep.of_act (a : Act) : Rep a.tmps.size a.defers a (fun t => a.tmps.getD t undef) := ⟨rfl, rfl, fun _ => rfl⟩

theorem Rep.eval {N : Nat} {ds : List Deferred} {a : Act} {E : Env} (h : Rep N ds a E) : a.eval = ev E := by
  funext x
  cases x with
  | tmp t => exact h.get t
  | const v => rfl
  | global g => rfl
  | func f => rfl

theorem Rep.put {N : Nat} {ds : List Deferred} {a : Act} {E : Env} (h : Rep N ds a E) (dst : Option Nat) (v : Value) (hd : ∀ d, dst = some d → d < N) :
    Rep N ds (a.put dst v) (upd E dst v) := by
  cases dst with
  | none => exact h
  | some d =>
    have hlt : d < a.tmps.size := by rw [h.size]; exact hd d rfl
    refine ⟨by simp [Act.put, h.size], h.defs, fun t => ?_⟩
    by_cases e : t = d
    · subst e
      rw [upd_same]
      simp [Act.put, hlt]
    · rw [upd_ne E v e, ← h.get t]
      have : d ≠ t := Ne.symm e
      simp [Act.put, Array.getElem?_setIfInBounds_ne this]

/-! what is drawn only grows -/
theorem drawn_setCell (w : World) (a : Addr) (v : Value) : (w.setCell a v).drawn = w.drawn := by
  unfold World.setCell; split <;> rfl
theorem drawn_freeze (w : World) (a : Addr) (n : Nat) : (w.freeze a n).drawn = w.drawn := by
  unfold World.freeze; split <;> rfl
theorem drawn_ask {α : Type} : ∀ (m : Ask α) (w : World), w.drawn ≤ (w.ask m).2.drawn := by
  intro m
  induction m with
  | done a => intro w; exact Nat.le_refl _
  | ask what range k ih =>
    intro w
    unfold World.ask
    dsimp only
    split
    · exact ih _ w
    · exact Nat.le_trans (Nat.le_succ _) (ih _ { w with drawn := w.drawn + 1 })
theorem drawn_sys (w : World) (c : Sys) : w.drawn ≤ (w.sys c).2.drawn := by
  unfold World.sys
  have := drawn_ask (Kernel.perform c w.os) w
  split
  · exact Nat.le_refl _
  · next r os w' h => rw [h] at this; exact this
theorem drawn_view (w : World) (P : Program) (at_ : Addr) (u : TypeId) (k : Addr) (v : Value) (atomic : Bool) (w' : World) (l : List Addr) (h : w.viewStore P at_ u k v atomic = .ok (w', l)) : w'.drawn = w.drawn := by
  unfold World.viewStore at h
  simp only [bind, Except.bind] at h
  repeat' (split at h)
  all_goals first
    | (cases h; done)
    | (injection h with h; injection h with h1 h2; subst h1; rfl)
theorem drawn_far (w : World) (P : Program) (a : Addr) (v : Value) (atomic : Bool) (w' : World) (l : List Addr) (h : w.farStore P a v atomic = .ok (w', l)) : w'.drawn = w.drawn := by
  unfold World.farStore at h
  split at h
  · split at h
    · next r hr => injection h with h; subst h; exact drawn_view w P _ _ _ _ _ _ _ hr
    · cases h
  · cases h
theorem drawn_run {α : Type} (P : Program) : ∀ (m : Sem α) (w w' : World) (v : α), m.run P w = .ok v w' → w.drawn ≤ w'.drawn := by
  intro m
  induction m with
  | pure a => intro w w' v h; cases h; exact Nat.le_refl _
  | load m a k ih =>
    intro w w' v h
    unfold Sem.run at h
    split at h
    · exact ih _ _ _ _ h
    · split at h
      · exact ih _ _ _ _ h
      · cases h
  | store m a x k ih =>
    intro w w' v h
    have main : (match w.cell? a with
        | some _ => if w.frozen? a then Result.halt (.unsupported (.unsafePointer "a write to bytes that a string shares")) w else k.run P (w.setCell a x)
        | none => match w.farStore P a x (m == Mode.atomic) with
          | .ok (w, _) => k.run P w
          | .error h => .halt h w) = .ok v w' → w.drawn ≤ w'.drawn := by
      intro h
      split at h
      · split at h
        · cases h
        · exact ih (w.setCell a x) _ _ h
      · split at h
        · next w1 l hf => rw [← drawn_far w P a x _ w1 l hf]; exact ih _ _ _ h
        · cases h
    cases x with
    | agg c => simp only [Sem.run] at h; cases h
    | tuple c => simp only [Sem.run] at h; cases h
    | _ => simp only [Sem.run] at h; exact main h
  | new o k ih => intro w w' v h; exact ih _ { w with heap := w.heap.push o } _ _ h
  | shape r k ih => intro w w' v h; exact ih _ _ _ _ h
  | freeze a n k ih => intro w w' v h; rw [← drawn_freeze w a n]; exact ih _ _ _ h
  | frozen a k ih => intro w w' v h; exact ih _ _ _ _ h
  | getObj r k ih =>
    intro w w' v h
    unfold Sem.run at h
    split at h
    · cases h
    · exact ih _ _ _ _ h
    · cases h
  | setObj r o k ih =>
    intro w w' v h
    unfold Sem.run at h
    split at h
    · cases h
    · exact ih { w with heap := w.heap.setIfInBounds r o } _ _ h
    · cases h
  | choose q k ih =>
    intro w w' v h
    unfold Sem.run at h
    split at h
    · exact ih _ _ _ _ h
    · exact Nat.le_trans (Nat.le_succ _) (ih _ { w with drawn := w.drawn + 1 } _ _ h)
  | sys c k ih => intro w w' v h; exact Nat.le_trans (drawn_sys w c) (ih _ _ _ _ h)
  | program k ih => intro w w' v h; exact ih _ _ _ _ h
  | mark m k ih => intro w w' v h; exact ih _ _ _ h
  | halt h => intro w w' v h; cases h

/-- what a resource says of the world, and the blocks that it speaks of -/
structure Res where
  foot : List Nat
  holds : World → Prop
  loc : ∀ w w' : World, (∀ b ∈ foot, w'.heap[b]? = w.heap[b]?) → holds w → holds w'

structure Mem (w0 : World) (X : List Nat) (L : List Res) (w : World) : Prop where
  os : w.os = w0.os
  tape : w.tape = w0.tape
  dr : w0.drawn ≤ w.drawn
  output : w.output = w0.output
  size : w0.heap.size ≤ w.heap.size
  old : ∀ b, b < w0.heap.size → b ∉ X → w.heap[b]? = w0.heap[b]?
  res : ∀ r ∈ L, r.holds w
  foot : ∀ r ∈ L, ∀ b ∈ r.foot, b < w.heap.size ∧ (w0.heap.size ≤ b ∨ b ∈ X)
  sep : L.Pairwise (fun r s => ∀ b ∈ r.foot, b ∉ s.foot)

theorem Mem.refl (w : World) : Mem w [] [] w :=
  ⟨rfl, rfl, Nat.le_refl _, rfl, Nat.le_refl _, fun _ _ _ => rfl, fun _ h => (by cases h), fun _ h => (by cases h), List.Pairwise.nil⟩

theorem Mem.sub {w0 w : World} {X : List Nat} {L L' : List Res} (h : Mem w0 X L w) (hs : L'.Sublist L) : Mem w0 X L' w :=
  ⟨h.os, h.tape, h.dr, h.output, h.size, h.old, fun r hr => h.res r (hs.subset hr), fun r hr => h.foot r (hs.subset hr), h.sep.sublist hs⟩

theorem Mem.perm {w0 w : World} {X : List Nat} {L L' : List Res} (h : Mem w0 X L w) (hs : L.Perm L') : Mem w0 X L' w :=
  ⟨h.os, h.tape, h.dr, h.output, h.size, h.old, fun r hr => h.res r (hs.mem_iff.2 hr), fun r hr => h.foot r (hs.mem_iff.2 hr),
    (hs.pairwise_iff (fun hrs b hb hb' => hrs b hb' hb)).1 h.sep⟩

theorem Mem.nil {w0 w : World} {X : List Nat} {L : List Res} (h : Mem w0 X L w) : Mem w0 X [] w := h.sub (List.nil_sublist _)

theorem Mem.below {w0 w : World} {L : List Res} (h : Mem w0 [] L w) : Below w0.heap.size w0 w :=
  ⟨h.os, h.tape, h.output, h.size, fun k hk => h.old k hk (by simp)⟩

theorem Mem.of_below {w0 w : World} (h : Below w0.heap.size w0 w) (hd : w0.drawn ≤ w.drawn) : Mem w0 [] [] w :=
  ⟨h.os, h.tape, hd, h.output, h.size, fun k hk _ => h.block k hk, fun _ h => (by cases h), fun _ h => (by cases h), List.Pairwise.nil⟩

theorem Mem.drawn {w0 w : World} {X : List Nat} {L : List Res} (h : Mem w0 X L w) (n : Nat) (hn : w.drawn ≤ n) : Mem w0 X L { w with drawn := n } :=
  ⟨h.os, h.tape, Nat.le_trans h.dr hn, h.output, h.size, h.old, fun r hr => r.loc w _ (fun _ _ => rfl) (h.res r hr), h.foot, h.sep⟩

/-- a world step that leaves the blocks of all resources and of the old world alone -/
theorem Mem.call {w0 w w' : World} {X X' : List Nat} {L1 L2 Ln : List Res} (h : Mem w0 X (L1 ++ L2) w) (hc : Mem w X' Ln w')
    (hX : ∀ b ∈ X', ∃ r ∈ L1, b ∈ r.foot) : Mem w0 X (Ln ++ L2) w' := by
  have hsep := List.pairwise_append.1 h.sep
  have hX2 : ∀ b ∈ X', ∀ s ∈ L2, b ∉ s.foot := fun b hb s hs => by
    obtain ⟨r, hr, hbr⟩ := hX b hb
    exact hsep.2.2 r hr s hs b hbr
  have hX0 : ∀ b ∈ X', b < w.heap.size ∧ (w0.heap.size ≤ b ∨ b ∈ X) := fun b hb => by
    obtain ⟨r, hr, hbr⟩ := hX b hb
    exact h.foot r (List.mem_append_left _ hr) b hbr
  refine ⟨hc.os.trans h.os, hc.tape.trans h.tape, Nat.le_trans h.dr hc.dr, hc.output.trans h.output, Nat.le_trans h.size hc.size, ?_, ?_, ?_, ?_⟩
  · intro b hb hbX
    refine (hc.old b (Nat.lt_of_lt_of_le hb h.size) fun hb' => ?_).trans (h.old b hb hbX)
    rcases (hX0 b hb').2 with h1 | h1
    · omega
    · exact hbX h1
  · intro r hr
    rcases List.mem_append.1 hr with hr | hr
    · exact hc.res r hr
    · refine r.loc w w' (fun b hb => ?_) (h.res r (List.mem_append_right _ hr))
      exact hc.old b (h.foot r (List.mem_append_right _ hr) b hb).1 (fun hb' => hX2 b hb' r hr hb)
  · intro r hr b hb
    rcases List.mem_append.1 hr with hr | hr
    · have := hc.foot r hr b hb
      refine ⟨this.1, ?_⟩
      rcases this.2 with h1 | h1
      · exact .inl (Nat.le_trans h.size h1)
      · exact (hX0 b h1).2
    · have := h.foot r (List.mem_append_right _ hr) b hb
      exact ⟨Nat.lt_of_lt_of_le this.1 hc.size, this.2⟩
  · refine List.pairwise_append.2 ⟨hc.sep, hsep.2.1, fun r hr s hs b hb hb' => ?_⟩
    have h1 := hc.foot r hr b hb
    have h2 := h.foot s (List.mem_append_right _ hs) b hb'
    rcases h1.2 with h3 | h3
    · omega
    · exact hX2 b h3 s hs hb'

/-! ### the judgement -/
abbrev Fw (r : Option Nat) : Fence := { Fence.wide with round := r }

structure Jd where
  P : Program
  r : Option Nat
  N : Nat
  w0 : World
  X : List Nat

abbrev Post := Exit → Env → List Deferred → List Res → Prop

def lift (J : Jd) (Q : Post) : Exit → Act → World → Prop := fun e a w => ∃ E ds L, Rep J.N ds a E ∧ Mem J.w0 J.X L w ∧ Q e E ds L

def HW (J : Jd) (c : Code) (Q : Post) (E : Env) (ds : List Deferred) (L : List Res) : Prop :=
  ∀ a w, Rep J.N ds a E → Mem J.w0 J.X L w → c.wpIn (Fw J.r) 0 J.P (lift J Q) a w

def thenPost (K : Env → List Deferred → List Res → Prop) (Q : Post) : Post := fun e =>
  match e with
  | .normal => K
  | e => Q e

theorem HW.mono {J : Jd} {c : Code} {Q Q' : Post} {E : Env} {ds : List Deferred} {L : List Res} (h : HW J c Q E ds L)
    (hq : ∀ e E ds L, Q e E ds L → Q' e E ds L) : HW J c Q' E ds L := fun a w hr hm =>
  wpIn_mono (h a w hr hm) fun _ _ _ ⟨E', ds', L', h1, h2, h3⟩ => ⟨E', ds', L', h1, h2, hq _ _ _ _ h3⟩

theorem HW.skip {J : Jd} {Q : Post} {E : Env} {ds : List Deferred} {L : List Res} (h : Q .normal E ds L) : HW J .skip Q E ds L :=
  fun _ _ hr hm => wpIn_skip ⟨E, ds, L, hr, hm, h⟩
theorem HW.label {J : Jd} {l : Nat} {Q : Post} {E : Env} {ds : List Deferred} {L : List Res} (h : Q .normal E ds L) : HW J (.label l) Q E ds L :=
  fun _ _ hr hm => wpIn_label ⟨E, ds, L, hr, hm, h⟩
theorem HW.exit {J : Jd} {id : Nat} {Q : Post} {E : Env} {ds : List Deferred} {L : List Res} (h : Q (.exit id) E ds L) : HW J (.exit id) Q E ds L :=
  fun _ _ hr hm => wpIn_exit ⟨E, ds, L, hr, hm, h⟩
theorem HW.ret {J : Jd} {Q : Post} {E : Env} {ds : List Deferred} {L : List Res} (h : Q .ret E ds L) : HW J .ret Q E ds L :=
  fun _ _ hr hm => wpIn_ret ⟨E, ds, L, hr, hm, h⟩

theorem HW.seq {J : Jd} {x y : Code} {Q : Post} {E : Env} {ds : List Deferred} {L : List Res} (h : HW J x (thenPost (HW J y Q) Q) E ds L) :
    HW J (.seq x y) Q E ds L := fun a w hr hm => by
  refine wpIn_seq (wpIn_mono (h a w hr hm) ?_)
  rintro e a' w' ⟨E', ds', L', h1, h2, h3⟩
  cases e with
  | normal => exact h3 a' w' h1 h2
  | exit id => exact ⟨E', ds', L', h1, h2, h3⟩
  | goto l => exact ⟨E', ds', L', h1, h2, h3⟩
  | ret => exact ⟨E', ds', L', h1, h2, h3⟩
  | panic c => exact ⟨E', ds', L', h1, h2, h3⟩
  | outgrown => exact ⟨E', ds', L', h1, h2, h3⟩

theorem HW.cond_true {J : Jd} {c : Operand} {x y : Code} {Q : Post} {E : Env} {ds : List Deferred} {L : List Res} (hc : ev E c = .bool true)
    (h : HW J x Q E ds L) : HW J (.cond c x y) Q E ds L := fun a w hr hm =>
  wpIn_cond_true (by rw [hr.eval]; exact hc) (h a w hr hm)
theorem HW.cond_false {J : Jd} {c : Operand} {x y : Code} {Q : Post} {E : Env} {ds : List Deferred} {L : List Res} (hc : ev E c = .bool false)
    (h : HW J y Q E ds L) : HW J (.cond c x y) Q E ds L := fun a w hr hm =>
  wpIn_cond_false (by rw [hr.eval]; exact hc) (h a w hr hm)
theorem HW.cond {J : Jd} {c : Operand} {x y : Code} {Q : Post} {E : Env} {ds : List Deferred} {L : List Res} (b : Bool) (hc : ev E c = .bool b)
    (ht : b = true → HW J x Q E ds L) (hf : b = false → HW J y Q E ds L) : HW J (.cond c x y) Q E ds L := by
  cases b
  · exact HW.cond_false hc (hf rfl)
  · exact HW.cond_true hc (ht rfl)

def blockPost (id : Nat) (Q : Post) : Post := fun e =>
  match e with
  | .exit id' => if id' = id then Q .normal else Q (.exit id')
  | e => Q e

theorem HW.block {J : Jd} {id : Nat} {c : Code} {Q : Post} {E : Env} {ds : List Deferred} {L : List Res} (h : HW J c (blockPost id Q) E ds L) :
    HW J (.block id c) Q E ds L := fun a w hr hm => by
  refine wpIn_block (wpIn_mono (h a w hr hm) ?_)
  rintro e a' w' ⟨E', ds', L', h1, h2, h3⟩
  cases e with
  | exit id' =>
    simp only [blockPost] at h3
    by_cases hid : id' = id
    · simp only [Exit.inBlock, hid, if_true] at h3 ⊢; exact ⟨E', ds', L', h1, h2, h3⟩
    · simp only [Exit.inBlock, hid, if_false] at h3 ⊢; exact ⟨E', ds', L', h1, h2, h3⟩
  | normal => exact ⟨E', ds', L', h1, h2, h3⟩
  | goto l => exact ⟨E', ds', L', h1, h2, h3⟩
  | ret => exact ⟨E', ds', L', h1, h2, h3⟩
  | panic c => exact ⟨E', ds', L', h1, h2, h3⟩
  | outgrown => exact ⟨E', ds', L', h1, h2, h3⟩

/-- a loop, with a ghost number in place of a measure of the state -/
theorem wpIn_loop_ghost {F : Fence} {n : Nat} {P : Program} {Q : Exit → Act → World → Prop} {c : Code} (R : Nat → Act → World → Prop)
    (round : ∀ k a w, R k a w → c.wpIn F n P (Exit.then (fun a' w' => ∃ k', k' < k ∧ R k' a' w') Q) a w) {k0 : Nat} {a : Act} {w : World} (h0 : R k0 a w) :
    (Code.loop c).wpIn F n P Q a w := by
  intro b k cs hro hb hr
  have key : ∀ j a w, R j a w →
      ∃ e a' w', Q e a' w' ∧ ArrivesIn (Machine.fenced P F) P (lone (b.atR a (.code c :: .inLoop c :: k)) cs w) b k cs e a' w' := by
    intro j
    induction j using Nat.strongRecOn with
    | _ j ih =>
      intro a w hI
      obtain ⟨e, a₁, w₁, hq, harr⟩ := round j a w hI b (.inLoop c :: k) cs hro hb hr
      cases e with
      | normal =>
        obtain ⟨j', hlt, hI₁⟩ := hq
        obtain ⟨e₂, a₂, w₂, hq₂, harr₂⟩ := ih j' hlt a₁ w₁ hI₁
        exact ⟨e₂, a₂, w₂, hq₂, .of_steps (StepsIn.trans harr (.one (fenced_calm hb hr rfl) stepR_inLoop)) harr₂⟩
      | exit id => exact ⟨_, a₁, w₁, hq, .pass (x := .inLoop c) rfl (fun _ _ => .inl (by simp)) harr⟩
      | goto l => exact ⟨_, a₁, w₁, hq, .pass (x := .inLoop c) rfl (fun _ _ => .inl (by simp)) harr⟩
      | ret => exact ⟨_, a₁, w₁, hq, .pass (x := .inLoop c) rfl (fun _ _ => .inl (by simp)) harr⟩
      | panic ch => exact ⟨_, a₁, w₁, hq, .pass (x := .inLoop c) rfl (fun _ _ => .inl (by simp)) harr⟩
      | outgrown => exact ⟨_, a₁, w₁, hq, .pass (x := .inLoop c) rfl (fun _ _ => .inl (by simp)) harr⟩
  obtain ⟨e, a', w', hq, harr⟩ := key _ a w h0
  exact ⟨e, a', w', hq, .of_steps (.one (fenced_calm hb hr rfl) stepR_loop) harr⟩

/-- a loop: a ghost state, what holds at each round's head, a measure of the ghost state -/
theorem HW.loop {G : Type} {J : Jd} {c : Code} {Q : Post} {E : Env} {ds : List Deferred} {L : List Res} (Inv : G → Env → List Deferred → List Res → Prop) (μ : G → Nat) (g0 : G)
    (h0 : Inv g0 E ds L) (h : ∀ g E ds L, Inv g E ds L → HW J c (thenPost (fun E' ds' L' => ∃ g', μ g' < μ g ∧ Inv g' E' ds' L') Q) E ds L) :
    HW J (.loop c) Q E ds L := fun a w hr hm => by
  refine wpIn_loop_ghost (fun k a w => ∃ g E ds L, μ g = k ∧ Rep J.N ds a E ∧ Mem J.w0 J.X L w ∧ Inv g E ds L) ?_ ⟨g0, E, ds, L, rfl, hr, hm, h0⟩
  rintro k a w ⟨g, E, ds, L, rfl, hr, hm, hi⟩
  refine wpIn_mono (h g E ds L hi a w hr hm) ?_
  rintro e a' w' ⟨E', ds', L', h1, h2, h3⟩
  cases e with
  | normal => obtain ⟨g', hlt, hi'⟩ := h3; exact ⟨_, hlt, g', E', ds', L', rfl, h1, h2, hi'⟩
  | exit id => exact ⟨E', ds', L', h1, h2, h3⟩
  | goto l => exact ⟨E', ds', L', h1, h2, h3⟩
  | ret => exact ⟨E', ds', L', h1, h2, h3⟩
  | panic c => exact ⟨E', ds', L', h1, h2, h3⟩
  | outgrown => exact ⟨E', ds', L', h1, h2, h3⟩

/-! ### regions -/
def yieldedE (ops : Array Oper) (E : Env) (j : Nat) : Option Bool :=
  match (ops[j]?).bind (·.dst) with
  | some t => match E t with
    | .bool b => some b
    | _ => none
  | none => none

def wantE (ops : Array Oper) (o : Oper) (E : Env) : Bool :=
  match o.guard with
  | none => true
  | some (j, want) => yieldedE ops E j == some want

theorem Rep.yielded {N : Nat} {ds : List Deferred} {a : Act} {E : Env} (h : Rep N ds a E) (ops : Array Oper) : yielded ops a.tmps = yieldedE ops E := by
  funext j
  unfold Go.yielded yieldedE
  cases hb : (ops[j]?).bind (·.dst) with
  | none => rfl
  | some t =>
    have hg := h.get t
    simp only [Option.bind_some]
    rcases Nat.lt_or_ge t a.tmps.size with hlt | hge
    · have : a.tmps[t]? = some (E t) := by rw [← hg]; simp [hlt]
      rw [this]
      cases E t <;> rfl
    · have h1 : a.tmps[t]? = none := by simp [hge]
      have h2 : E t = undef := by rw [← hg]; simp [h1]
      rw [h1, h2]; rfl

theorem Rep.wanted {N : Nat} {ds : List Deferred} {a : Act} {E : Env} (h : Rep N ds a E) (ops : Array Oper) (o : Oper) :
    Region.wanted o (Go.yielded ops a.tmps) = wantE ops o E := by
  unfold Region.wanted wantE
  rw [h.yielded ops]
  cases o.guard <;> rfl

/-- an operation that only reads: its value, whatever the world is (within what is known of it) -/
def St (J : Jd) (o : Oper) (E : Env) (L : List Res) (v : Value) : Prop :=
  ∀ w, Mem J.w0 J.X L w → (o.semAt J.r (ev E)).run J.P w = .ok (.value v) w

def Sub (J : Jd) (L L' : List Res) : Prop := ∀ w, Mem J.w0 J.X L' w → Mem J.w0 J.X L w
theorem Sub.refl (J : Jd) (L : List Res) : Sub J L L := fun _ h => h
theorem Sub.cons (J : Jd) (r : Res) (L : List Res) : Sub J L (r :: L) := fun _ h => h.sub (List.sublist_cons_self _ _)
theorem Sub.app (J : Jd) (M L : List Res) : Sub J L (M ++ L) := fun _ h => h.sub (List.sublist_append_right _ _)

/-- what an operation that acts comes to; Rf: what else is known and is kept -/
def EffR (J : Jd) (Rf : List Res) (K : Value → List Res → Prop) : Result Next → Prop
  | .ok (.value v) w => ∃ L, Mem J.w0 J.X (L ++ Rf) w ∧ K v L
  | .ok .skip w => ∃ L, Mem J.w0 J.X (L ++ Rf) w ∧ K undef L
  | .ok (.enter f args) w => Calls J.P f args w fun e w' => ∃ v L, e = .returned v ∧ Mem J.w0 J.X (L ++ Rf) w' ∧ K v L
  | .ok (.round l f tmps assign body) w => RoundIn (Fw J.r) 0 J.P l f tmps assign body w fun e w' => ∃ v L, e = .returned v ∧ Mem J.w0 J.X (L ++ Rf) w' ∧ K v L
  | _ => False

theorem EffR.mono {J : Jd} {Rf : List Res} {K K' : Value → List Res → Prop} (hk : ∀ v L, K v L → K' v L) {r : Result Next} (h : EffR J Rf K r) : EffR J Rf K' r := by
  cases r with
  | halt x w => exact h.elim
  | ok x w =>
    cases x
    case value v => obtain ⟨L, h1, h2⟩ := h; exact ⟨L, h1, hk _ _ h2⟩
    case skip => obtain ⟨L, h1, h2⟩ := h; exact ⟨L, h1, hk _ _ h2⟩
    case enter f args => exact Calls.mono h fun e w' ⟨v, L, h1, h2, h3⟩ => ⟨v, L, h1, h2, hk _ _ h3⟩
    case round l f tmps assign body => exact RoundIn.mono h fun e w' ⟨v, L, h1, h2, h3⟩ => ⟨v, L, h1, h2, hk _ _ h3⟩
    all_goals exact h.elim

theorem callsIn_fw {r : Option Nat} {n : Nat} {P : Program} {f : FuncId} {args : Array Value} {w : World} {R : Ending → World → Prop} :
    CallsIn (Fw r) n P f args w R ↔ Calls P f args w R := callsIn_wide (n := n)

/-- what an operation that acts comes to, for the machine -/
theorem EffR.upon {J : Jd} {Rf : List Res} {K : Value → List Res → Prop} {o : Oper} {a : Act} {E : Env} {ds : List Deferred} {Q : Exit → Act → World → Prop} (hr : Rep J.N ds a E)
    (hd : ∀ d, o.dst = some d → d < J.N) {r : Result Next} (h : EffR J Rf K r) :
    o.uponIn (Fw J.r) 0 J.P a (fun a' w' => ∃ v L, Rep J.N ds a' (upd E o.dst v) ∧ Mem J.w0 J.X (L ++ Rf) w' ∧ K v L) Q r := by
  cases r with
  | halt x w => exact h.elim
  | ok x w =>
    cases x
    case value v => obtain ⟨L, h1, h2⟩ := h; exact ⟨v, L, hr.put _ _ hd, h1, h2⟩
    case skip => obtain ⟨L, h1, h2⟩ := h; exact ⟨_, L, hr.put _ _ hd, h1, h2⟩
    case enter f args => exact ⟨fun hh => by simp [Fence.wide] at hh, callsIn_fw.2 (Calls.mono h fun e w' ⟨v, L, h1, h2, h3⟩ => by subst h1; exact ⟨v, L, hr.put _ _ hd, h2, h3⟩)⟩
    case round l f tmps assign body => exact ⟨fun hh => by simp [Fence.wide] at hh, RoundIn.mono h fun e w' ⟨v, L, h1, h2, h3⟩ => by subst h1; exact ⟨v, L, hr.put _ _ hd, h2, h3⟩⟩
    all_goals exact h.elim

def Res.blk (b : Nat) (cs : Array Value) (t : TypeId) : Res where
  foot := [b]
  holds := fun w => w.heap[b]? = some (.cells cs t (0, 0))
  loc := fun w w' h hw => (h b (List.mem_singleton.2 rfl)).trans hw

/-- a new block -/
theorem Mem.alloc {w0 w : World} {X : List Nat} {L : List Res} (h : Mem w0 X L w) (cs : Array Value) (t : TypeId) :
    Mem w0 X (Res.blk w.heap.size cs t :: L) (w.alloc (.cells cs t (0, 0))) := by
  have hnew : (w.alloc (.cells cs t (0, 0))).heap[w.heap.size]? = some (.cells cs t (0, 0)) := World.alloc_heap_new w _
  have hold : ∀ k, k < w.heap.size → (w.alloc (.cells cs t (0, 0))).heap[k]? = w.heap[k]? := fun k hk => Below.heap_alloc _ _ _ hk
  refine ⟨h.os, h.tape, h.dr, h.output, by simp; exact Nat.le_succ_of_le h.size, fun b hb hX => (hold b (Nat.lt_of_lt_of_le hb h.size)).trans (h.old b hb hX), ?_, ?_, ?_⟩
  · intro r hr
    rcases List.mem_cons.1 hr with rfl | hr
    · exact hnew
    · exact r.loc w _ (fun b hb => hold b (h.foot r hr b hb).1) (h.res r hr)
  · intro r hr b hb
    rcases List.mem_cons.1 hr with rfl | hr
    · obtain rfl := List.mem_singleton.1 hb
      exact ⟨by simp, .inl h.size⟩
    · have := h.foot r hr b hb
      exact ⟨by simp; omega, this.2⟩
  · refine List.pairwise_cons.2 ⟨fun s hs b hb hb' => ?_, h.sep⟩
    obtain rfl := List.mem_singleton.1 hb
    exact Nat.lt_irrefl _ (h.foot s hs _ hb').1

inductive Kind where
  | st | ef | al | so
  deriving DecidableEq

/-- the operations of a region in a planned order. st: an operation that only reads; so: one that only reads what nobody turns; ef: one that acts; al: a new variable. dest: none: the order is as written; some D: any order, and the operations of D may take away what is known -/
def Plan (J : Jd) (ops : Array Oper) (dest : Option (List Nat)) (Q : Post) : List (Nat × Kind) → Env → List Deferred → List Res → Prop
  | [], E, ds, L => Q .normal E ds L
  | (i, .st) :: rest, E, ds, L => ∃ o, ops[i]? = some o ∧
      ((wantE ops o E = true ∧ ∃ v, St J o E L v ∧ Plan J ops dest Q rest (upd E o.dst v) ds L) ∨
       (wantE ops o E = false ∧ Plan J ops dest Q rest (upd E o.dst undef) ds L))
  | (i, .so) :: rest, E, ds, L => ∃ o, ops[i]? = some o ∧
      ((wantE ops o E = true ∧ ∃ v, St J o E [] v ∧ Plan J ops dest Q rest (upd E o.dst v) ds L) ∨
       (wantE ops o E = false ∧ Plan J ops dest Q rest (upd E o.dst undef) ds L))
  | (i, .ef) :: rest, E, ds, L => ∃ o, ops[i]? = some o ∧
      ((wantE ops o E = true ∧ ∀ Rf w, Mem J.w0 J.X (L ++ Rf) w →
          EffR J Rf (fun v L' => (∀ D, dest = some D → i ∉ D → ∀ Rf, Sub J (L ++ Rf) (L' ++ Rf)) ∧ Plan J ops dest Q rest (upd E o.dst v) ds L') ((o.semAt J.r (ev E)).run J.P w)) ∨
       (wantE ops o E = false ∧ Plan J ops dest Q rest (upd E o.dst undef) ds L))
  | (i, .al) :: rest, E, ds, L => ∃ o t z, ops[i]? = some o ∧ o.op = .alloc t ∧ o.guard = none ∧ (∀ w, (zeroValue t).run J.P w = .ok z w) ∧
      ∀ b, ∃ L', (Res.blk b z.cells t :: L).Perm L' ∧ Plan J ops dest Q rest (upd E o.dst (.pointer (some ⟨b, 0, none⟩))) ds L'

def fits (N : Nat) (ops : Array Oper) : Bool := ops.toList.all fun o => match o.dst with | some d => Nat.blt d N | none => true

theorem fits_spec {N : Nat} {ops : Array Oper} (h : fits N ops = true) {i : Nat} {o : Oper} (hi : ops[i]? = some o) : ∀ d, o.dst = some d → d < N := by
  intro d hd
  have := List.all_eq_true.1 h o (Array.mem_toList_iff.2 (Array.mem_of_getElem? hi))
  rw [hd] at this
  simpa [Nat.blt_eq] using this

theorem Oper.semAt_congr {o : Oper} {ρ ρ' : Operand → Value} (r : Option Nat) (h : ρ = ρ') : o.semAt r ρ = o.semAt r ρ' := by rw [h]

theorem run_alloc {P : Program} {t : TypeId} {z : Value} (hz : ∀ w, (zeroValue t).run P w = .ok z w) (w : World) :
    (Instr.alloc t true (.tuple #[])).run P w = .ok (.pointer (some ⟨w.heap.size, 0, none⟩)) (w.alloc (.cells z.cells t (0, 0))) := by
  unfold Instr.alloc
  simp only [Sem.run_bind, hz, Result.andThen]
  rfl

/-- a new variable is a new block -/
theorem al_upon {J : Jd} {o : Oper} {t : TypeId} {z : Value} (ho : o.op = .alloc t) (hz : ∀ w, (zeroValue t).run J.P w = .ok z w) (ρ : Operand → Value) (w : World) :
    (o.semAt J.r ρ).run J.P w = .ok (.value (.pointer (some ⟨w.heap.size, 0, none⟩))) (w.alloc (.cells z.cells t (0, 0))) := by
  rw [Oper.semAt_eq _ _ _ (by rw [ho]; intro c hc; cases hc)]
  unfold execOp
  rw [ho]
  simp only [Sem.run_bind, run_alloc hz, Result.andThen]
  rfl

/-- one planned operation is one of the machine's -/
theorem plan_op {J : Jd} {ops : Array Oper} {dest : Option (List Nat)} {Q : Post} {i : Nat} {b : Kind} {rest : List (Nat × Kind)} {E : Env} {ds : List Deferred} {L : List Res}
    (hfit : fits J.N ops = true) (h : Plan J ops dest Q ((i, b) :: rest) E ds L) {a : Act} {w : World} (hr : Rep J.N ds a E) (hm : Mem J.w0 J.X L w) :
    wpOpIn (Fw J.r) 0 J.P ops (lift J Q) i (fun a' w' => ∃ E' ds' L', Rep J.N ds' a' E' ∧ Mem J.w0 J.X L' w' ∧ (∀ D, dest = some D → i ∉ D → Sub J L L') ∧ Plan J ops dest Q rest E' ds' L') a w := by
  unfold wpOpIn
  cases b with
  | st =>
    obtain ⟨o, ho, h⟩ := h
    simp only [ho]
    rw [hr.wanted ops o]
    rcases h with ⟨hw, v, hst, hp⟩ | ⟨hw, hp⟩
    · simp only [hw, if_true, Oper.wpIn]
      refine ⟨fun _ _ => trivial, ?_⟩
      rw [Oper.semAt_congr J.r hr.eval, hst w hm]
      exact ⟨_, _, _, hr.put _ _ (fits_spec hfit ho), hm, fun _ _ _ => Sub.refl _ _, hp⟩
    · simp only [hw, Bool.false_eq_true, if_false]
      exact ⟨fun _ _ => trivial, _, _, _, hr.put _ _ (fits_spec hfit ho), hm, fun _ _ _ => Sub.refl _ _, hp⟩
  | so =>
    obtain ⟨o, ho, h⟩ := h
    simp only [ho]
    rw [hr.wanted ops o]
    rcases h with ⟨hw, v, hst, hp⟩ | ⟨hw, hp⟩
    · simp only [hw, if_true, Oper.wpIn]
      refine ⟨fun _ _ => trivial, ?_⟩
      rw [Oper.semAt_congr J.r hr.eval, hst w (hm.sub (List.nil_sublist _))]
      exact ⟨_, _, _, hr.put _ _ (fits_spec hfit ho), hm, fun _ _ _ => Sub.refl _ _, hp⟩
    · simp only [hw, Bool.false_eq_true, if_false]
      exact ⟨fun _ _ => trivial, _, _, _, hr.put _ _ (fits_spec hfit ho), hm, fun _ _ _ => Sub.refl _ _, hp⟩
  | ef =>
    obtain ⟨o, ho, h⟩ := h
    simp only [ho]
    rw [hr.wanted ops o]
    rcases h with ⟨hw, hst⟩ | ⟨hw, hp⟩
    · simp only [hw, if_true]
      refine Oper.wpIn_mono (K := fun a' w' => ∃ v L', Rep J.N ds a' (upd E o.dst v) ∧ Mem J.w0 J.X (L' ++ []) w' ∧ _) ?_ ⟨fun _ _ => trivial, by
        rw [Oper.semAt_congr J.r hr.eval]
        exact EffR.upon hr (fits_spec hfit ho) (hst [] w (by rw [List.append_nil]; exact hm))⟩
      rintro a' w' ⟨v, L', h1, h2, h3, h4⟩
      rw [List.append_nil] at h2
      refine ⟨_, ds, L', h1, h2, fun D hD hi => ?_, h4⟩
      have := h3 D hD hi []
      rwa [List.append_nil, List.append_nil] at this
    · simp only [hw, Bool.false_eq_true, if_false]
      exact ⟨fun _ _ => trivial, _, _, _, hr.put _ _ (fits_spec hfit ho), hm, fun _ _ _ => Sub.refl _ _, hp⟩
  | al =>
    obtain ⟨o, t, z, ho, hop, hg, hz, h⟩ := h
    simp only [ho]
    rw [hr.wanted ops o]
    have hw : wantE ops o E = true := by unfold wantE; rw [hg]
    simp only [hw, if_true, Oper.wpIn]
    refine ⟨fun _ _ => trivial, ?_⟩
    rw [Oper.semAt_congr J.r hr.eval, al_upon hop hz]
    obtain ⟨L', hperm, h⟩ := h w.heap.size
    exact ⟨_, _, L', hr.put _ _ (fits_spec hfit ho), (hm.alloc _ _).perm hperm, fun _ _ _ w' hm' => (hm'.perm hperm.symm).sub (List.sublist_cons_self _ _), h⟩

theorem plan_ops {J : Jd} {ops : Array Oper} {dest : Option (List Nat)} {Q : Post} (hfit : fits J.N ops = true) : ∀ (π : List (Nat × Kind)) (E : Env) (ds : List Deferred) (L : List Res),
    Plan J ops dest Q π E ds L → ∀ a w, Rep J.N ds a E → Mem J.w0 J.X L w → wpOpsIn (Fw J.r) 0 J.P ops (lift J Q) (π.map (·.1)) a w := by
  intro π
  induction π with
  | nil => exact fun E ds L h a w hr hm => ⟨E, ds, L, hr, hm, h⟩
  | cons x π ih =>
    intro E ds L h a w hr hm
    obtain ⟨i, b⟩ := x
    rw [List.map_cons, wpOpsIn_cons]
    refine wpOpIn_mono ?_ (plan_op hfit h hr hm)
    rintro a' w' ⟨E', ds', L', h1, h2, _, h3⟩
    exact ih E' ds' L' h3 a' w' h1 h2

/-- a region whose order is as written -/
theorem HW.region {J : Jd} {id : Nat} {ops : Array Oper} {Q : Post} {E : Env} {ds : List Deferred} {L : List Res} (π : List (Nat × Kind))
    (hfit : fits J.N ops = true) (hπ : π.map (·.1) = List.range ops.size) (h : Plan J ops none Q π E ds L) : HW J (.region id ops false) Q E ds L := fun a w hr hm =>
  wpIn_region (by rw [← hπ]; exact plan_ops hfit π E ds L h a w hr hm)

end Go.Proofs.Ytjmklbkcpjmcaaa.H

namespace Go.Proofs.Ytjmklbkcpjmcaaa.H
open Go Go.RowKit
set_option linter.unusedVariables false
set_option linter.unusedSimpArgs false

def QN (J : Jd) (Q : Post) (a : Act) (L : List Res) : Prop := ∃ E ds, Rep J.N ds a E ∧ Q .normal E ds L

def AnyM (J : Jd) (ops : Array Oper) (D : List Nat) (Q : Post) : Nat → Array Bool → Act → World → List Res → Prop
  | 0, listed, a, w, L => Region.ready .any ops listed = [] ∧ QN J Q a L
  | fuel + 1, listed, a, w, L => (Region.ready .any ops listed = [] → QN J Q a L) ∧
      ∀ i ∈ Region.ready .any ops listed, wpOpIn (Fw J.r) 0 J.P ops (lift J Q) i
        (fun a' w' => ∃ L', Mem J.w0 J.X L' w' ∧ (i ∉ D → Sub J L L') ∧ AnyM J ops D Q fuel (listed.setIfInBounds i true) a' w' L') a w

theorem any_sound {J : Jd} {ops : Array Oper} {D : List Nat} {Q : Post} : ∀ (fuel : Nat) (listed : Array Bool) (a : Act) (w : World) (L : List Res),
    Mem J.w0 J.X L w → AnyM J ops D Q fuel listed a w L → wpAnyIn (Fw J.r) 0 J.P .any ops (lift J Q) fuel listed a w := by
  intro fuel
  induction fuel with
  | zero =>
    intro listed a w L hm h
    obtain ⟨h0, E, ds, hr, hq⟩ := h
    exact ⟨h0, E, ds, L, hr, hm, hq⟩
  | succ fuel ih =>
    intro listed a w L hm h
    refine ⟨fun h0 => ?_, fun i hi => wpOpIn_mono ?_ (h.2 i hi)⟩
    · obtain ⟨E, ds, hr, hq⟩ := h.1 h0
      exact ⟨E, ds, L, hr, hm, hq⟩
    · rintro a' w' ⟨L', hm', _, h'⟩
      exact ih _ a' w' L' hm' h'

/-- what a reading operation gives at an activation -/
def YS (J : Jd) (ops : Array Oper) (o : Oper) (v : Value) (a : Act) (L : List Res) : Prop :=
  (Region.wanted o (yielded ops a.tmps) = true ∧ ∀ w, Mem J.w0 J.X L w → (execOp a.eval o).run J.P w = .ok (.value v) w) ∨
  (Region.wanted o (yielded ops a.tmps) = false ∧ v = undef)

def plainOps (ops : Array Oper) : Bool := ops.toList.all fun o => match o.op with | .select .. => false | .defer .. => false | _ => true

theorem plainOps_sel {ops : Array Oper} (h : plainOps ops = true) {j : Nat} {o : Oper} (hj : ops[j]? = some o) : (∀ cs b, o.op ≠ .select cs b) ∧ ∀ c, o.op ≠ .defer c := by
  have := List.all_eq_true.1 h o (Array.mem_toList_iff.2 (Array.mem_of_getElem? hj))
  constructor
  · intro cs b e; rw [e] at this; simp at this
  · intro c e; rw [e] at this; simp at this

theorem wpOpIn_put_any {F : Fence} {n : Nat} {P : Program} {ops : Array Oper} {Q : Exit → Act → World → Prop} {j : Nat} {oi oj : Oper} {v : Value} (hj : ops[j]? = some oj) (hap : oi.apart ops oj = true)
    (hsi : ∀ cs b, oi.op ≠ .select cs b) (hsj : ∀ cs b, oj.op ≠ .select cs b) (hdj : ∀ c, oj.op ≠ .defer c)
    (hQ : ∀ c a w, Q (.panic c) (a.put oi.dst v) w → Q (.panic c) a w) {K : Act → World → Prop} {a : Act} {w : World}
    (h : wpOpIn F n P ops Q j K (a.put oi.dst v) w) :
    wpOpIn F n P ops Q j (fun a' w' => (execOp a'.eval oi = execOp a.eval oi ∧ Region.wanted oi (yielded ops a'.tmps) = Region.wanted oi (yielded ops a.tmps)) ∧ K (a'.put oi.dst v) w') a w := by
  obtain ⟨h1, h2, h3⟩ := Oper.apart_spec hap
  have keep : ∀ u, execOp (a.put oj.dst u).eval oi = execOp a.eval oi ∧ Region.wanted oi (yielded ops (a.put oj.dst u).tmps) = Region.wanted oi (yielded ops a.tmps) := fun u =>
    ⟨execOp_put oi hsi a oj.dst u h3, wanted_put oi a oj.dst u h3⟩
  unfold wpOpIn at *
  simp only [hj] at *
  rw [wanted_put oj a oi.dst v h1, about_put oj w a oi.dst v h1] at h
  split
  · rename_i hw
    simp only [hw, if_true] at h
    unfold Oper.wpIn at *
    rw [about_put oj w a oi.dst v h1] at h
    refine ⟨h.1, ?_⟩
    have h := h.2
    rw [Oper.semAt_eq _ _ _ hdj, execOp_put oj hsj a oi.dst v h1] at h
    rw [Oper.semAt_eq _ _ _ hdj]
    generalize hrr : (execOp a.eval oj).run P w = r at *
    cases r with
    | ok x w' =>
      cases x <;> simp only [Oper.uponIn] at h ⊢
      case value u => exact ⟨keep u, by rw [← Act.put_comm a v u h2]; exact h⟩
      case skip => exact ⟨keep _, by rw [← Act.put_comm a v undef h2]; exact h⟩
      case defer d =>
        refine ⟨?_, by rw [← Act.put_comm _ v undef h2, ← Act.put_defers]; exact h⟩
        have e1 : execOp ({ a with defers := d :: a.defers } : Act).eval oi = execOp a.eval oi := rfl
        have := execOp_put oi hsi { a with defers := d :: a.defers } oj.dst undef h3
        have h' := wanted_put oi { a with defers := d :: a.defers } oj.dst undef h3
        exact ⟨this.trans e1, h'⟩
      case enter f args =>
        refine ⟨h.1, CallsIn.mono h.2 fun e w'' he => ?_⟩
        cases e with
        | returned u => exact ⟨keep u, by rw [← Act.put_comm a v u h2]; exact he⟩
        | panicked c => exact hQ _ _ _ he
        | outgrown => exact he
      case row row args => exact ⟨h.1, RowsIn.mono h.2 fun u w'' he => ⟨keep u, by rw [← Act.put_comm a v u h2]; exact he⟩⟩
      case round l f tmps assign body =>
        refine ⟨h.1, RoundIn.mono h.2 fun e w'' he => ?_⟩
        cases e with
        | returned u => exact ⟨keep u, by rw [← Act.put_comm a v u h2]; exact he⟩
        | panicked c => exact hQ _ _ _ he
        | outgrown => exact he
    | halt x w' =>
      cases x <;> simp only [Oper.uponIn] at h ⊢
      case panic u => exact hQ _ _ _ h
  · rename_i hw
    simp only [hw] at h
    exact ⟨h.1, keep _, by rw [← Act.put_comm a v undef h2]; exact h.2⟩

def depsOf (ops : Array Oper) (j : Nat) : List Nat :=
  match ops[j]? with
  | some o => (o.after.toList.filter (fun e => Region.binds .any e)).map (·.on)
  | none => []

def Closed (ops : Array Oper) (listed : Array Bool) : Prop :=
  ∀ j, listed.getD j true = true → ∀ k ∈ depsOf ops j, listed.getD k false = true

theorem mem_depsOf {ops : Array Oper} {j k : Nat} {o : Oper} (ho : ops[j]? = some o) : k ∈ depsOf ops j ↔ ∃ e ∈ o.after, Region.binds .any e = true ∧ e.on = k := by
  unfold depsOf
  simp [ho, List.mem_map, List.mem_filter, and_assoc]

theorem ready_deps {ops : Array Oper} {listed : Array Bool} {j : Nat} (h : j ∈ Region.ready .any ops listed) : ∀ k ∈ depsOf ops j, listed.getD k false = true := by
  obtain ⟨_, o, ho, hall⟩ := mem_ready.1 h
  intro k hk
  obtain ⟨e, he, hb, rfl⟩ := (mem_depsOf ho).1 hk
  exact hall e he hb

theorem Closed.step {ops : Array Oper} {listed : Array Bool} (h : Closed ops listed) {j : Nat} (hj : j ∈ Region.ready .any ops listed) : Closed ops (listed.setIfInBounds j true) := by
  intro i hi k hk
  by_cases e : j = i
  · subst e; exact getD_set_true (ready_deps hj k hk)
  · rw [getD_set_ne true e] at hi
    exact getD_set_true (h i hi k hk)

def orM (B : List Nat) : List Nat → Nat
  | [] => 0
  | k :: ks => 2 ^ k ||| (B.getD k 0 ||| orM B ks)

theorem orM_bit (B : List Nat) (i : Nat) : ∀ ks, (orM B ks).testBit i = true → ∃ k ∈ ks, k = i ∨ (B.getD k 0).testBit i = true
  | [], h => by simp [orM] at h
  | k :: ks, h => by
    simp only [orM, Nat.testBit_or, Bool.or_eq_true, Nat.testBit_two_pow] at h
    rcases h with h | h | h
    · exact ⟨k, List.mem_cons_self, .inl (by simpa using h)⟩
    · exact ⟨k, List.mem_cons_self, .inr h⟩
    · obtain ⟨k', hk', h'⟩ := orM_bit B i ks h
      exact ⟨k', List.mem_cons_of_mem _ hk', h'⟩

def mkB (ops : Array Oper) : List Nat := (List.range ops.size).foldl (fun B d => B ++ [orM B (depsOf ops d)]) []

def maskOk (ops : Array Oper) (B : List Nat) : Bool := B.length == ops.size && (List.range ops.size).all fun d => B.getD d 0 == orM B (depsOf ops d) && (depsOf ops d).all fun k => Nat.blt k d

theorem mask_listed {ops : Array Oper} {B : List Nat} (hB : maskOk ops B = true) {listed : Array Bool} (hc : Closed ops listed) (i : Nat) :
    ∀ d, (∀ k ∈ depsOf ops d, listed.getD k false = true) → (B.getD d 0).testBit i = true → listed.getD i false = true := by
  intro d
  induction d using Nat.strongRecOn with
  | _ d ih =>
    intro hd hb
    simp only [maskOk, Bool.and_eq_true, List.all_eq_true, List.mem_range, beq_iff_eq] at hB
    rcases Nat.lt_or_ge d ops.size with hlt | hge
    · obtain ⟨he, hk⟩ := hB.2 d hlt
      rw [he] at hb
      obtain ⟨k, hk1, hk2⟩ := orM_bit B i _ hb
      rcases hk2 with rfl | hk2
      · exact hd k hk1
      · have hkd : k < d := by simpa [Nat.blt_eq] using hk k hk1
        refine ih k hkd (fun k' hk' => hc k ?_ k' hk') hk2
        have h1 := hd k hk1
        rcases Nat.lt_or_ge k listed.size with h' | h'
        · simp [h'] at h1 ⊢; exact h1
        · simp [Array.getElem?_eq_none h'] at h1
    · rw [List.getD_eq_getElem?_getD, List.getElem?_eq_none (by omega)] at hb
      simp at hb

theorem not_listed {listed : Array Bool} {i : Nat} (h : listed.getD i true = false) : listed.getD i false = false := by
  rcases Nat.lt_or_ge i listed.size with h' | h'
  · simp [h'] at h ⊢; exact h
  · simp [Array.getElem?_eq_none h'] at h

def isMove (ops : Array Oper) (i : Nat) : Bool :=
  match ops[i]? with
  | some o => match o.op with
    | .move _ => true
    | _ => false
  | none => false

theorem isMove_spec {ops : Array Oper} {i : Nat} {o : Oper} (ho : ops[i]? = some o) (h : isMove ops i = true) : ∃ x, o.op = .move x := by
  simp only [isMove, ho] at h
  cases hop : o.op <;> simp [hop] at h
  exact ⟨_, rfl⟩

theorem run_move {P : Program} {o : Oper} {x : Operand} (h : o.op = .move x) (ev : Operand → Value) (w : World) : (execOp ev o).run P w = .ok (.value (ev x)) w := by
  unfold execOp; rw [h]; rfl

theorem any_take {J : Jd} {ops : Array Oper} {D B : List Nat} {Q : Post} {i : Nat} {oi : Oper} {v : Value} (hi : ops[i]? = some oi) (hpl : plainOps ops = true) (hB : maskOk ops B = true)
    (hQ : ∀ c a w, lift J Q (.panic c) (a.put oi.dst v) w → lift J Q (.panic c) a w) :
    ∀ (fuel : Nat) (listed : Array Bool) (a : Act) (w : World) (L : List Res), Mem J.w0 J.X L w → Closed ops listed →
      (∀ j oj, ops[j]? = some oj → j ≠ i → listed.getD j true = false → (∀ e ∈ oj.after, Region.binds .any e = true → e.on ≠ i) → oi.apart ops oj = true) →
      ((∀ d ∈ D, listed.getD d true = true ∨ (B.getD d 0).testBit i = true) ∨ (Region.wanted oi (yielded ops a.tmps) = true → ∀ w, Mem J.w0 J.X [] w → (execOp a.eval oi).run J.P w = .ok (.value v) w)) →
      i ∈ Region.ready .any ops listed → YS J ops oi v a L →
      AnyM J ops D Q fuel (listed.setIfInBounds i true) (a.put oi.dst v) w L → AnyM J ops D Q (fuel + 1) listed a w L := by
  have here : ∀ (fuel : Nat) (listed : Array Bool) (a : Act) (w : World) (L : List Res), Mem J.w0 J.X L w → YS J ops oi v a L →
      AnyM J ops D Q fuel (listed.setIfInBounds i true) (a.put oi.dst v) w L →
      wpOpIn (Fw J.r) 0 J.P ops (lift J Q) i (fun a' w' => ∃ L', Mem J.w0 J.X L' w' ∧ (i ∉ D → Sub J L L') ∧ AnyM J ops D Q fuel (listed.setIfInBounds i true) a' w' L') a w := by
    intro fuel listed a w L hm hy H
    unfold wpOpIn
    simp only [hi]
    rcases hy with ⟨hw, hv⟩ | ⟨hw, rfl⟩
    · simp only [hw, if_true, Oper.wpIn]
      refine ⟨fun _ _ => trivial, ?_⟩
      rw [Oper.semAt_eq _ _ _ (plainOps_sel hpl hi).2, hv w hm]
      exact ⟨L, hm, fun _ => Sub.refl _ _, H⟩
    · simp only [hw, Bool.false_eq_true, if_false]
      exact ⟨fun _ _ => trivial, L, hm, fun _ => Sub.refl _ _, H⟩
  intro fuel
  induction fuel with
  | zero =>
    intro listed a w L hm hc _ _ hr hy H
    refine ⟨fun h => (by rw [h] at hr; cases hr), fun j hj => ?_⟩
    by_cases hji : j = i
    · subst hji; exact here 0 listed a w L hm hy H
    · have := ready_mono hj hji
      rw [H.1] at this
      cases this
  | succ fuel ih =>
    intro listed a w L hm hc hfree hD hr hy H
    refine ⟨fun h => (by rw [h] at hr; cases hr), fun j hj => ?_⟩
    by_cases hji : j = i
    · subst hji; exact here (fuel + 1) listed a w L hm hy H
    · have h1 := H.2 j (ready_mono hj hji)
      obtain ⟨hjun, oj, hoj, hall⟩ := mem_ready.1 hj
      have hiun : listed.getD i true = false := (mem_ready.1 hr).1
      have hnot : ∀ e ∈ oj.after, Region.binds .any e = true → e.on ≠ i := fun e he hb heq => by
        have h1 := hall e he hb
        rw [heq, not_listed hiun] at h1
        cases h1
      have hjD : (∀ d ∈ D, listed.getD d true = true ∨ (B.getD d 0).testBit i = true) → j ∉ D := fun hD hjD => by
        rcases hD j hjD with h | h
        · rw [hjun] at h; cases h
        · have := mask_listed hB hc i j (ready_deps hj) h
          rw [not_listed hiun] at this; cases this
      have h2 := wpOpIn_put_any hoj (hfree j oj hoj hji hjun hnot) (plainOps_sel hpl hi).1 (plainOps_sel hpl hoj).1 (plainOps_sel hpl hoj).2 hQ h1
      refine wpOpIn_mono ?_ h2
      rintro a' w' ⟨⟨he, hwt⟩, L', hm', hsub, h3⟩
      refine ⟨L', hm', hsub, ih (listed.setIfInBounds j true) a' w' L' hm' (hc.step hj) ?_ ?_ (ready_mono hr (Ne.symm hji)) ?_ ?_⟩
      · intro k ok hk hki hun hno
        refine hfree k ok hk hki ?_ hno
        by_cases hjk : j = k
        · subst hjk; exact hjun
        · rw [getD_set_ne true hjk] at hun; exact hun
      · refine hD.imp (fun hD d hd => ?_) (fun h hw w1 hm1 => by rw [he]; exact h (by rw [← hwt]; exact hw) w1 hm1)
        rcases hD d hd with h | h
        · left
          by_cases hjd : j = d
          · subst hjd; rw [hjun] at h; cases h
          · rw [getD_set_ne true hjd]; exact h
        · exact .inr h
      · rcases hy with ⟨hw, hv⟩ | ⟨hw, hv⟩
        · refine .inl ⟨by rw [hwt]; exact hw, fun w1 hm1 => ?_⟩
          rw [he]
          rcases hD with hD | hx
          · exact hv w1 (hsub (hjD hD) w1 hm1)
          · exact hx hw w1 (hm1.sub (List.nil_sublist _))
        · exact .inr ⟨by rw [hwt]; exact hw, hv⟩
      · rw [Array.setIfInBounds_comm _ _ hji]
        exact h3

/-! ### new variables may come at any time -/
theorem upd_comm (E : Env) {x y : Option Nat} (v u : Value) (h : ∀ d, x = some d → y ≠ some d) : upd (upd E x v) y u = upd (upd E y u) x v := by
  cases x with
  | none => rfl
  | some d =>
    cases y with
    | none => rfl
    | some e =>
      have hne : d ≠ e := fun he => h d rfl (he ▸ rfl)
      funext t
      by_cases h1 : t = d
      · subst h1; rw [upd_ne _ _ hne, upd_same, upd_same]
      · by_cases h2 : t = e
        · subst h2; rw [upd_same, upd_ne _ _ h1, upd_same]
        · rw [upd_ne _ _ h2, upd_ne _ _ h1, upd_ne _ _ h1, upd_ne _ _ h2]

theorem ev_upd {E : Env} {dst : Option Tmp} {v : Value} {x : Operand} (h : ∀ d, dst = some d → x ≠ .tmp d) : ev (upd E dst v) x = ev E x := by
  cases dst with
  | none => rfl
  | some d =>
    cases x with
    | tmp t => exact upd_ne E v (fun e => h d rfl (e ▸ rfl))
    | _ => rfl

theorem execOp_upd {ops : Array Oper} (o : Oper) (hs : ∀ cs b, o.op ≠ .select cs b) (E : Env) (dst : Option Tmp) (v : Value) (h : ∀ d, dst = some d → d ∉ o.looksAt ops) :
    execOp (ev (upd E dst v)) o = execOp (ev E) o :=
  execOp_congr o hs fun x hx => ev_upd fun d hd hxd => h d hd (by
    subst hxd
    exact List.mem_append_left _ (List.mem_filterMap.2 ⟨.tmp d, by simpa using hx, rfl⟩))

theorem semAt_upd {ops : Array Oper} (r : Option Nat) (o : Oper) (hs : ∀ cs b, o.op ≠ .select cs b) (hd : ∀ c, o.op ≠ .defer c) (E : Env) (dst : Option Tmp) (v : Value) (h : ∀ d, dst = some d → d ∉ o.looksAt ops) :
    o.semAt r (ev (upd E dst v)) = o.semAt r (ev E) := by
  rw [Oper.semAt_eq _ _ _ hd, Oper.semAt_eq _ _ _ hd, execOp_upd o hs E dst v h]

theorem wantE_upd {ops : Array Oper} (o : Oper) (E : Env) (dst : Option Tmp) (v : Value) (h : ∀ d, dst = some d → d ∉ o.looksAt ops) : wantE ops o (upd E dst v) = wantE ops o E := by
  cases dst with
  | none => rfl
  | some d =>
    unfold wantE
    cases hg : o.guard with
    | none => rfl
    | some gw =>
      obtain ⟨g, want⟩ := gw
      have hy : yieldedE ops (upd E (some d) v) g = yieldedE ops E g := by
        unfold yieldedE
        cases ht : (ops[g]?).bind (·.dst) with
        | none => rfl
        | some t =>
          have hne : t ≠ d := fun e => h d rfl (by subst e; simp [Oper.looksAt, hg, ht])
          simp only [upd_ne E v hne]
      simp only [hy]

def als (π : List (Nat × Kind)) : List Nat := (π.filter (fun x => x.2 == .al)).map (·.1)

def setAll (listed : Array Bool) (l : List Nat) : Array Bool := l.foldl (fun a k => a.setIfInBounds k true) listed

/-- the plan goes with the text: what only reads is taken as soon as it can be; what acts is alone but for new variables, which may come at any time -/
def planOk (ops : Array Oper) (B D : List Nat) : List (Nat × Kind) → Array Bool → Bool
  | [], listed => (Region.ready .any ops listed).isEmpty
  | (i, .st) :: rest, listed => (Region.ready .any ops listed).contains i && Region.free .any ops listed i && (isMove ops i || D.all fun d => listed.getD d true || (B.getD d 0).testBit i) &&
      planOk ops B D rest (listed.setIfInBounds i true)
  | (i, .so) :: rest, listed => (Region.ready .any ops listed).contains i && Region.free .any ops listed i && planOk ops B D rest (listed.setIfInBounds i true)
  | (i, _) :: rest, listed => (Region.ready .any ops listed).contains i && ((Region.ready .any ops (setAll listed (als rest))).all fun k => k == i) &&
      planOk ops B D rest (listed.setIfInBounds i true)

theorem planOk_act {ops : Array Oper} {B D : List Nat} {i : Nat} {c : Kind} {rest : List (Nat × Kind)} {listed : Array Bool} (hc : c ≠ .st) (hc2 : c ≠ .so) : planOk ops B D ((i, c) :: rest) listed =
    ((Region.ready .any ops listed).contains i && ((Region.ready .any ops (setAll listed (als rest))).all fun k => k == i) && planOk ops B D rest (listed.setIfInBounds i true)) := by
  cases c with
  | st => exact absurd rfl hc
  | so => exact absurd rfl hc2
  | ef => rfl
  | al => rfl

theorem planOk_ready {ops : Array Oper} {B D : List Nat} {i : Nat} {c : Kind} {rest : List (Nat × Kind)} {listed : Array Bool} (h : planOk ops B D ((i, c) :: rest) listed = true) :
    i ∈ Region.ready .any ops listed ∧ planOk ops B D rest (listed.setIfInBounds i true) = true := by
  cases c with
  | st => simp only [planOk, Bool.and_eq_true, List.contains_iff_mem] at h; exact ⟨h.1.1.1, h.2⟩
  | so => simp only [planOk, Bool.and_eq_true, List.contains_iff_mem] at h; exact ⟨h.1.1, h.2⟩
  | ef => simp only [planOk, Bool.and_eq_true, List.contains_iff_mem] at h; exact ⟨h.1.1, h.2⟩
  | al => simp only [planOk, Bool.and_eq_true, List.contains_iff_mem] at h; exact ⟨h.1.1, h.2⟩

theorem setAll_comm (k : Nat) : ∀ (l : List Nat) (listed : Array Bool), setAll (listed.setIfInBounds k true) l = (setAll listed l).setIfInBounds k true
  | [], _ => rfl
  | x :: l, listed => by
    show setAll ((listed.setIfInBounds k true).setIfInBounds x true) l = (setAll (listed.setIfInBounds x true) l).setIfInBounds k true
    rw [← setAll_comm k l (listed.setIfInBounds x true)]
    by_cases h : k = x
    · subst h; rfl
    · rw [Array.setIfInBounds_comm _ _ h]

theorem setAll_erase (k : Nat) : ∀ (l : List Nat) (listed : Array Bool), k ∈ l → setAll (listed.setIfInBounds k true) (l.erase k) = setAll listed l
  | [], _, h => by cases h
  | x :: l, listed, h => by
    by_cases e : x = k
    · subst e; rw [List.erase_cons_head]; rfl
    · rw [List.erase_cons_tail (by simpa using e)]
      show setAll ((listed.setIfInBounds k true).setIfInBounds x true) (l.erase k) = setAll (listed.setIfInBounds x true) l
      rw [Array.setIfInBounds_comm _ _ (Ne.symm e)]
      exact setAll_erase k l _ ((List.mem_cons.1 h).resolve_left (fun h => e h.symm))

theorem als_erase (k : Nat) : ∀ (π : List (Nat × Kind)), als (π.erase (k, .al)) = (als π).erase k
  | [] => rfl
  | (i, c) :: π => by
    by_cases e : (i, c) = (k, Kind.al)
    · injection e with e1 e2
      subst e1 e2
      rw [List.erase_cons_head]
      show als π = (i :: als π).erase i
      rw [List.erase_cons_head]
    · rw [List.erase_cons_tail (by simpa using e)]
      cases c with
      | st => exact als_erase k π
      | ef => exact als_erase k π
      | so => exact als_erase k π
      | al =>
        have hne : i ≠ k := fun h => e (by rw [h])
        show i :: als (π.erase (k, .al)) = (i :: als π).erase k
        rw [List.erase_cons_tail (by simpa using hne), als_erase k π]

theorem mem_als {k : Nat} {π : List (Nat × Kind)} : k ∈ als π ↔ (k, Kind.al) ∈ π := by
  simp [als, List.mem_map, List.mem_filter]

theorem free_mono {ops : Array Oper} {listed : Array Bool} {i k : Nat} (h : Region.free .any ops listed i = true) : Region.free .any ops (listed.setIfInBounds k true) i = true := by
  unfold Region.free at *
  split
  · rename_i e; simp [e] at h
  · rename_i oi e
    simp only [e, List.all_eq_true] at h ⊢
    intro j hj
    have := h j hj
    simp only [Bool.or_eq_true] at this ⊢
    rcases this with (h1 | h1) | h1
    · exact .inl (.inl h1)
    · refine .inl (.inr ?_)
      by_cases ek : k = j
      · subst ek
        rcases Nat.lt_or_ge k listed.size with h' | h'
        · simp [h']
        · simp [h']
      · rw [getD_set_ne true ek]; exact h1
    · exact .inr h1

theorem getD_set_true' {listed : Array Bool} {i j : Nat} (h : listed.getD j true = true) : (listed.setIfInBounds i true).getD j true = true := by
  by_cases e : i = j
  · subst e
    rcases Nat.lt_or_ge i listed.size with h' | h'
    · simp [h']
    · simp [h']
  · rw [getD_set_ne true e]; exact h

theorem planOk_early {ops : Array Oper} {B D : List Nat} {k : Nat} : ∀ (π : List (Nat × Kind)) (listed : Array Bool), planOk ops B D π listed = true → (π.map (·.1)).Nodup → (k, .al) ∈ π →
    k ∈ Region.ready .any ops listed → planOk ops B D (π.erase (k, .al)) (listed.setIfInBounds k true) = true
  | [], _, _, _, h, _ => by cases h
  | (i, c) :: π, listed, hok, hnd, hmem, hrd => by
    by_cases e : (i, c) = (k, Kind.al)
    · injection e with e1 e2
      subst e1 e2
      rw [List.erase_cons_head]
      exact (planOk_ready hok).2
    · have hmem' : (k, Kind.al) ∈ π := by
        rcases List.mem_cons.1 hmem with h | h
        · exact absurd h.symm e
        · exact h
      rw [List.map_cons, List.nodup_cons] at hnd
      have hik : i ≠ k := fun h => hnd.1 (by rw [show ((i, c) : Nat × Kind).1 = k from h]; exact List.mem_map.2 ⟨_, hmem', rfl⟩)
      rw [List.erase_cons_tail (by simpa using e)]
      have hr := planOk_ready hok
      have ih := planOk_early π (listed.setIfInBounds i true) hr.2 hnd.2 hmem' (ready_mono hrd (Ne.symm hik))
      rw [Array.setIfInBounds_comm _ _ hik] at ih
      have hri := ready_mono hr.1 hik
      cases c with
      | st =>
        simp only [planOk, Bool.and_eq_true, List.contains_iff_mem, List.all_eq_true, Bool.or_eq_true] at hok ⊢
        exact ⟨⟨⟨hri, free_mono hok.1.1.2⟩, hok.1.2.imp id fun h d hd => (h d hd).imp getD_set_true' id⟩, ih⟩
      | so =>
        simp only [planOk, Bool.and_eq_true, List.contains_iff_mem] at hok ⊢
        exact ⟨⟨hri, free_mono hok.1.2⟩, ih⟩
      | ef =>
        simp only [planOk, Bool.and_eq_true, List.contains_iff_mem] at hok ⊢
        rw [als_erase, setAll_erase k _ _ (mem_als.2 hmem')]
        exact ⟨⟨hri, hok.1.2⟩, ih⟩
      | al =>
        simp only [planOk, Bool.and_eq_true, List.contains_iff_mem] at hok ⊢
        rw [als_erase, setAll_erase k _ _ (mem_als.2 hmem')]
        exact ⟨⟨hri, hok.1.2⟩, ih⟩

/-- whatever does not wait for a new variable has nothing to do with its name -/
def alFreeAt (ops : Array Oper) (k : Nat) (o : Oper) : Bool :=
  (List.range ops.size).all fun j =>
    match ops[j]? with
    | some oj => j == k || oj.after.any (fun e => Region.binds .any e && e.on == k) || o.apart ops oj
    | none => true

def isAlloc : Op → Bool
  | .alloc _ => true
  | _ => false

def alFree (ops : Array Oper) : Bool :=
  (List.range ops.size).all fun k =>
    match ops[k]? with
    | some o => !isAlloc o.op || alFreeAt ops k o
    | none => true

theorem alFree_spec {ops : Array Oper} (h : alFree ops = true) {k j : Nat} {o oj : Oper} {t : TypeId} (hk : ops[k]? = some o) (ho : o.op = .alloc t) (hj : ops[j]? = some oj) (hne : j ≠ k)
    (hno : ∀ e ∈ oj.after, Region.binds .any e = true → e.on ≠ k) : o.apart ops oj = true := by
  simp only [alFree, List.all_eq_true, List.mem_range] at h
  have h1 := h k (Array.getElem?_eq_some_iff.1 hk).1
  simp only [hk, ho, isAlloc, Bool.not_true, Bool.false_or, alFreeAt, List.all_eq_true, List.mem_range] at h1
  have h2 := h1 j (Array.getElem?_eq_some_iff.1 hj).1
  simp only [hj, Bool.or_eq_true, beq_iff_eq, hne, false_or] at h2
  rcases h2 with h2 | h2
  · rw [Array.any_eq_true'] at h2
    obtain ⟨e, he, hb⟩ := h2
    simp only [Bool.and_eq_true, beq_iff_eq] at hb
    exact absurd hb.2 (hno e he hb.1)
  · exact h2

theorem Mem.front {w0 w : World} {X : List Nat} {L Rf : List Res} {r : Res} (h : Mem w0 X ((r :: L) ++ Rf) w) : Mem w0 X (L ++ (r :: Rf)) w :=
  h.perm (List.perm_middle (a := r) (l₁ := L) (l₂ := Rf)).symm
theorem Mem.back {w0 w : World} {X : List Nat} {L Rf : List Res} {r : Res} (h : Mem w0 X (L ++ (r :: Rf)) w) : Mem w0 X ((r :: L) ++ Rf) w :=
  h.perm (List.perm_middle (a := r) (l₁ := L) (l₂ := Rf))

theorem Plan.early {J : Jd} {ops : Array Oper} {D B : List Nat} {D0 : List Nat} {Q : Post} {k : Nat} {o : Oper} {t : TypeId} {z : Value} (hpl : plainOps ops = true) (hal : alFree ops = true)
    (hk : ops[k]? = some o) (hop : o.op = .alloc t) (hz : ∀ w, (zeroValue t).run J.P w = .ok z w) (b : Nat) :
    ∀ (π : List (Nat × Kind)) (listed : Array Bool) (E : Env) (ds : List Deferred) (L : List Res), planOk ops B D π listed = true → (π.map (·.1)).Nodup → (k, .al) ∈ π → listed.getD k true = false →
      Plan J ops (some D0) Q π E ds L → ∃ L', (Res.blk b z.cells t :: L).Perm L' ∧ Plan J ops (some D0) Q (π.erase (k, .al)) (upd E o.dst (.pointer (some ⟨b, 0, none⟩))) ds L'
  | [], _, _, _, _, _, _, h, _, _ => by cases h
  | (i, c) :: π, listed, E, ds, L, hok, hnd, hmem, hun, hp => by
    by_cases e : (i, c) = (k, Kind.al)
    · injection e with e1 e2
      subst e1 e2
      rw [List.erase_cons_head]
      obtain ⟨o', t', z', ho', hop', _, hz', h⟩ := hp
      rw [hk] at ho'
      obtain rfl := Option.some.inj ho'
      rw [hop] at hop'
      obtain rfl : t = t' := by injection hop'
      have : z = z' := by
        have h1 := hz J.w0
        rw [hz' J.w0] at h1
        injection h1 with h1
        exact h1.symm
      subst this
      exact h b
    · have hmem' : (k, Kind.al) ∈ π := by
        rcases List.mem_cons.1 hmem with h | h
        · exact absurd h.symm e
        · exact h
      rw [List.map_cons, List.nodup_cons] at hnd
      have hik : i ≠ k := fun h => hnd.1 (by rw [show ((i, c) : Nat × Kind).1 = k from h]; exact List.mem_map.2 ⟨_, hmem', rfl⟩)
      rw [List.erase_cons_tail (by simpa using e)]
      have hr := planOk_ready hok
      have hun' : (listed.setIfInBounds i true).getD k true = false := by rw [getD_set_ne true hik]; exact hun
      obtain ⟨_, oi, hoi, hall⟩ := mem_ready.1 hr.1
      have hnot : ∀ e ∈ oi.after, Region.binds .any e = true → e.on ≠ k := fun e he hb heq => by
        have h1 := hall e he hb
        rw [heq, not_listed hun] at h1
        cases h1
      obtain ⟨h1, h2, h3⟩ := Oper.apart_spec (alFree_spec hal hk hop hoi hik hnot)
      have hsel := plainOps_sel hpl hoi
      have ih := fun E ds L => Plan.early (D0 := D0) (Q := Q) hpl hal hk hop hz b π (listed.setIfInBounds i true) E ds L hr.2 hnd.2 hmem' hun'
      cases c with
      | st =>
        obtain ⟨oi', hoi', hp⟩ := hp
        rw [hoi] at hoi'
        obtain rfl := Option.some.inj hoi'
        rcases hp with ⟨hw, v, hst, hp⟩ | ⟨hw, hp⟩
        · obtain ⟨L', hperm, h⟩ := ih _ _ _ hp
          refine ⟨L', hperm, oi, hoi, .inl ⟨by rw [wantE_upd oi E o.dst _ h1]; exact hw, v, fun w hm => ?_, ?_⟩⟩
          · rw [semAt_upd J.r oi hsel.1 hsel.2 E o.dst _ h1]; exact hst w ((hm.perm hperm.symm).sub (List.sublist_cons_self _ _))
          · rw [upd_comm E _ v h2]; exact h
        · obtain ⟨L', hperm, h⟩ := ih _ _ _ hp
          refine ⟨L', hperm, oi, hoi, .inr ⟨by rw [wantE_upd oi E o.dst _ h1]; exact hw, ?_⟩⟩
          rw [upd_comm E _ undef h2]; exact h
      | so =>
        obtain ⟨oi', hoi', hp⟩ := hp
        rw [hoi] at hoi'
        obtain rfl := Option.some.inj hoi'
        rcases hp with ⟨hw, v, hst, hp⟩ | ⟨hw, hp⟩
        · obtain ⟨L', hperm, h⟩ := ih _ _ _ hp
          refine ⟨L', hperm, oi, hoi, .inl ⟨by rw [wantE_upd oi E o.dst _ h1]; exact hw, v, fun w hm => ?_, ?_⟩⟩
          · rw [semAt_upd J.r oi hsel.1 hsel.2 E o.dst _ h1]; exact hst w hm
          · rw [upd_comm E _ v h2]; exact h
        · obtain ⟨L', hperm, h⟩ := ih _ _ _ hp
          refine ⟨L', hperm, oi, hoi, .inr ⟨by rw [wantE_upd oi E o.dst _ h1]; exact hw, ?_⟩⟩
          rw [upd_comm E _ undef h2]; exact h
      | ef =>
        obtain ⟨oi', hoi', hp⟩ := hp
        rw [hoi] at hoi'
        obtain rfl := Option.some.inj hoi'
        rcases hp with ⟨hw, hst⟩ | ⟨hw, hp⟩
        · refine ⟨Res.blk b z.cells t :: L, .refl _, oi, hoi, .inl ⟨by rw [wantE_upd oi E o.dst _ h1]; exact hw, fun Rf w hm => ?_⟩⟩
          rw [semAt_upd J.r oi hsel.1 hsel.2 E o.dst _ h1]
          have h4 := hst (Res.blk b z.cells t :: Rf) w hm.front
          have conv : ∀ {r : Result Next} {K K' : Value → List Res → Prop}, EffR J (Res.blk b z.cells t :: Rf) K r →
              (∀ v L', K v L' → ∃ L'', (Res.blk b z.cells t :: L').Perm L'' ∧ K' v L'') → EffR J Rf K' r := by
            intro r K K' h hKK
            cases r with
            | halt x w => exact h.elim
            | ok x w =>
              cases x
              case value v => obtain ⟨L, h1, h2⟩ := h; obtain ⟨L'', hp, hk⟩ := hKK _ _ h2; exact ⟨L'', h1.back.perm (hp.append_right _), hk⟩
              case skip => obtain ⟨L, h1, h2⟩ := h; obtain ⟨L'', hp, hk⟩ := hKK _ _ h2; exact ⟨L'', h1.back.perm (hp.append_right _), hk⟩
              case enter f args => exact Calls.mono h fun e w' ⟨v, L, h1, h2, h3⟩ => (hKK _ _ h3).elim fun L'' ⟨hp, hk⟩ => ⟨v, L'', h1, h2.back.perm (hp.append_right _), hk⟩
              case round l f tmps assign body => exact RoundIn.mono h fun e w' ⟨v, L, h1, h2, h3⟩ => (hKK _ _ h3).elim fun L'' ⟨hp, hk⟩ => ⟨v, L'', h1, h2.back.perm (hp.append_right _), hk⟩
              all_goals exact h.elim
          refine conv h4 ?_
          rintro v L' ⟨hg, hp⟩
          obtain ⟨L'', hperm, h⟩ := ih _ _ _ hp
          refine ⟨L'', hperm, fun D hD hi Rf w hm => ?_, ?_⟩
          · exact (hg D hD hi (Res.blk b z.cells t :: Rf) w (hm.perm (hperm.symm.append_right _)).front).back
          · rw [upd_comm E _ v h2]; exact h
        · obtain ⟨L', hperm, h⟩ := ih _ _ _ hp
          refine ⟨L', hperm, oi, hoi, .inr ⟨by rw [wantE_upd oi E o.dst _ h1]; exact hw, ?_⟩⟩
          rw [upd_comm E _ undef h2]; exact h
      | al =>
        obtain ⟨oi', t', z', hoi', hop', hg', hz', hp⟩ := hp
        rw [hoi] at hoi'
        obtain rfl := Option.some.inj hoi'
        refine ⟨Res.blk b z.cells t :: L, .refl _, oi, t', z', hoi, hop', hg', hz', fun b' => ?_⟩
        obtain ⟨L4, hperm4, hp⟩ := hp b'
        obtain ⟨L5, hperm5, h⟩ := ih _ _ _ hp
        refine ⟨L5, ((List.Perm.swap _ _ _).trans (hperm4.cons _)).trans hperm5, ?_⟩
        rw [upd_comm E _ _ h2]; exact h

theorem setAll_getD {k : Nat} {d : Bool} : ∀ (l : List Nat) (listed : Array Bool), k ∉ l → (setAll listed l).getD k d = listed.getD k d
  | [], _, _ => rfl
  | x :: l, listed, h => by
    show (setAll (listed.setIfInBounds x true) l).getD k d = _
    rw [setAll_getD l _ (fun h' => h (List.mem_cons_of_mem _ h')), getD_set_ne d (fun e => h (by rw [e]; exact List.mem_cons_self))]

theorem setAll_ready {ops : Array Oper} {k : Nat} : ∀ (l : List Nat) (listed : Array Bool), k ∉ l → k ∈ Region.ready .any ops listed → k ∈ Region.ready .any ops (setAll listed l)
  | [], _, _, h => h
  | x :: l, listed, hk, h => setAll_ready l _ (fun h' => hk (List.mem_cons_of_mem _ h')) (ready_mono h (fun e => hk (by rw [e]; exact List.mem_cons_self)))

/-- the zero values of the types of new variables -/
def zerosOk (P : Program) (ops : Array Oper) : Prop := ∀ (k : Nat) (o : Oper) (t : TypeId), ops[k]? = some o → o.op = .alloc t → ∃ z, ∀ w, (zeroValue t).run P w = .ok z w

theorem plan_any {J : Jd} {ops : Array Oper} {B D : List Nat} {Q : Post} (hfit : fits J.N ops = true) (hpl : plainOps ops = true) (hB : maskOk ops B = true) (hal : alFree ops = true)
    (hQ : ∀ c E E' ds L, Q (.panic c) E ds L → Q (.panic c) E' ds L) (hz : zerosOk J.P ops) (hg : ∀ (k : Nat) (o : Oper), ops[k]? = some o → (∃ t, o.op = .alloc t) → o.guard = none) :
    ∀ (n : Nat) (π : List (Nat × Kind)) (listed : Array Bool) (a : Act) (w : World) (E : Env) (ds : List Deferred) (L : List Res), π.length = n → planOk ops B D π listed = true → (π.map (·.1)).Nodup →
      (∀ x ∈ π, x.2 = .al → ∃ o t, ops[x.1]? = some o ∧ o.op = .alloc t) → Closed ops listed →
      Plan J ops (some D) Q π E ds L → Rep J.N ds a E → Mem J.w0 J.X L w → AnyM J ops D Q n listed a w L := by
  have hQ' : ∀ (d : Option Nat) (v : Value) c a w, lift J Q (.panic c) (a.put d v) w → lift J Q (.panic c) a w := by
    rintro d v c a w ⟨E, ds, L, hr, hm, hq⟩
    refine ⟨_, ds, L, ⟨?_, ?_, fun t => rfl⟩, hm, hQ _ _ _ _ _ hq⟩
    · rw [← hr.size]; cases d <;> simp [Act.put]
    · rw [← hr.defs]; cases d <;> rfl
  intro n
  induction n with
  | zero =>
    intro π listed a w E ds L hn hok hnd hals hc hp hr hm
    obtain rfl := List.eq_nil_of_length_eq_zero hn
    simp only [planOk, List.isEmpty_iff] at hok
    exact ⟨hok, E, ds, hr, hp⟩
  | succ n ih =>
    intro π listed a w E ds L hn hok hnd hals hc hp hr hm
    obtain ⟨i, b⟩ : Nat × Kind := π.headD (0, .st)
    cases π with
    | nil => cases hn
    | cons x rest =>
      obtain ⟨i, b⟩ := x
      have hn' : rest.length = n := by simpa using hn
      have hnd' := hnd
      rw [List.map_cons, List.nodup_cons] at hnd
      have hals' : ∀ x ∈ rest, x.2 = .al → ∃ o t, ops[x.1]? = some o ∧ o.op = .alloc t := fun x hx => hals x (List.mem_cons_of_mem _ hx)
      by_cases hb : b = .st
      · subst hb
        simp only [planOk, Bool.and_eq_true, List.contains_iff_mem, List.all_eq_true, Bool.or_eq_true] at hok
        obtain ⟨⟨⟨hrd, hfree⟩, hD⟩, hrest⟩ := hok
        obtain ⟨o, ho, hp⟩ := hp
        have hsel := plainOps_sel hpl ho
        have hD := hD.symm
        rcases hp with ⟨hw, v, hst, hp⟩ | ⟨hw, hp⟩
        · have hD2 : (∀ d ∈ D, listed.getD d true = true ∨ (B.getD d 0).testBit i = true) ∨ (Region.wanted o (yielded ops a.tmps) = true → ∀ w, Mem J.w0 J.X [] w → (execOp a.eval o).run J.P w = .ok (.value v) w) := by
            rcases hD with hD | hmv
            · exact .inl hD
            · refine .inr fun _ w1 _ => ?_
              obtain ⟨x, hx⟩ := isMove_spec ho hmv
              have h5 := hst w hm
              rw [← hr.eval, Oper.semAt_eq J.r _ _ hsel.2, run_move hx] at h5
              rw [run_move hx]
              injection h5 with h5
              rw [h5]
          refine any_take (v := v) ho hpl hB (hQ' _ _) _ listed a w L hm hc (fun j oj hj hne hun hno => Region.free_spec ho hfree j oj hj hne hun hno) hD2 hrd (.inl ⟨by rw [hr.wanted]; exact hw, fun w1 hm1 => ?_⟩) ?_
          · rw [hr.eval, ← Oper.semAt_eq J.r _ _ hsel.2]; exact hst w1 hm1
          · exact ih _ _ _ w _ ds L hn' hrest hnd.2 hals' (hc.step hrd) hp (hr.put _ _ (fits_spec hfit ho)) hm
        · have hD2 : (∀ d ∈ D, listed.getD d true = true ∨ (B.getD d 0).testBit i = true) ∨ (Region.wanted o (yielded ops a.tmps) = true → ∀ w, Mem J.w0 J.X [] w → (execOp a.eval o).run J.P w = .ok (.value undef) w) :=
            hD.imp id fun _ hw' => absurd hw' (by rw [hr.wanted, hw]; decide)
          refine any_take (v := undef) ho hpl hB (hQ' _ _) _ listed a w L hm hc (fun j oj hj hne hun hno => Region.free_spec ho hfree j oj hj hne hun hno) hD2 hrd (.inr ⟨by rw [hr.wanted]; exact hw, rfl⟩) ?_
          exact ih _ _ _ w _ ds L hn' hrest hnd.2 hals' (hc.step hrd) hp (hr.put _ _ (fits_spec hfit ho)) hm
      by_cases hb2 : b = .so
      · subst hb2
        simp only [planOk, Bool.and_eq_true, List.contains_iff_mem] at hok
        obtain ⟨⟨hrd, hfree⟩, hrest⟩ := hok
        obtain ⟨o, ho, hp⟩ := hp
        have hsel := plainOps_sel hpl ho
        rcases hp with ⟨hw, v, hst, hp⟩ | ⟨hw, hp⟩
        · refine any_take (v := v) ho hpl hB (hQ' _ _) _ listed a w L hm hc (fun j oj hj hne hun hno => Region.free_spec ho hfree j oj hj hne hun hno) (.inr fun _ w1 hm1 => ?_) hrd (.inl ⟨by rw [hr.wanted]; exact hw, fun w1 hm1 => ?_⟩) ?_
          · rw [hr.eval, ← Oper.semAt_eq J.r _ _ hsel.2]; exact hst w1 hm1
          · rw [hr.eval, ← Oper.semAt_eq J.r _ _ hsel.2]; exact hst w1 (hm1.sub (List.nil_sublist _))
          · exact ih _ _ _ w _ ds L hn' hrest hnd.2 hals' (hc.step hrd) hp (hr.put _ _ (fits_spec hfit ho)) hm
        · refine any_take (v := undef) ho hpl hB (hQ' _ _) _ listed a w L hm hc (fun j oj hj hne hun hno => Region.free_spec ho hfree j oj hj hne hun hno) (.inr fun hw' => absurd hw' (by rw [hr.wanted, hw]; decide)) hrd (.inr ⟨by rw [hr.wanted]; exact hw, rfl⟩) ?_
          exact ih _ _ _ w _ ds L hn' hrest hnd.2 hals' (hc.step hrd) hp (hr.put _ _ (fits_spec hfit ho)) hm
      · have hok' := hok
        rw [planOk_act hb hb2] at hok
        simp only [Bool.and_eq_true, List.contains_iff_mem, List.all_eq_true, beq_iff_eq] at hok
        obtain ⟨⟨hrd, hall⟩, hrest⟩ := hok
        refine ⟨fun h => (by rw [h] at hrd; cases hrd), fun j hj => ?_⟩
        by_cases hji : j = i
        · subst hji
          refine wpOpIn_mono ?_ (plan_op hfit hp hr hm)
          rintro a' w' ⟨E', ds', L', h1, h2, h3, h4⟩
          exact ⟨L', h2, fun hd => h3 D rfl hd, ih _ _ a' w' E' ds' L' hn' hrest hnd.2 hals' (hc.step hrd) h4 h1 h2⟩
        · -- a new variable that comes early
          have hjal : (j, Kind.al) ∈ rest := by
            refine Classical.byContradiction fun hno => ?_
            exact hji (hall j (setAll_ready _ _ (fun h => hno (mem_als.1 h)) hj))
          obtain ⟨o, t, ho, hop⟩ := hals' _ hjal rfl
          obtain ⟨z, hzz⟩ := hz j o t ho hop
          have hun := (mem_ready.1 hj).1
          obtain ⟨L', hperm, hp'⟩ := Plan.early (D := D) (B := B) hpl hal ho hop hzz w.heap.size ((i, b) :: rest) listed E ds L hok' hnd' (List.mem_cons_of_mem _ hjal) hun hp
          have hm' := (hm.alloc z.cells t).perm hperm
          unfold wpOpIn
          simp only [ho]
          have hw : Region.wanted o (yielded ops a.tmps) = true := by unfold Region.wanted; rw [hg j o ho ⟨t, hop⟩]
          simp only [hw, if_true, Oper.wpIn]
          refine ⟨fun _ _ => trivial, ?_⟩
          rw [al_upon hop hzz]
          refine ⟨L', hm', fun _ w1 hm1 => (hm1.perm hperm.symm).sub (List.sublist_cons_self _ _), ?_⟩
          refine ih _ _ _ _ _ ds L' ?_ (planOk_early _ listed hok' hnd' (List.mem_cons_of_mem _ hjal) hj) ?_ ?_ (hc.step hj) hp' (hr.put _ _ (fits_spec hfit ho)) hm'
          · rw [List.length_erase_of_mem (List.mem_cons_of_mem _ hjal)]; simp [hn']
          · exact hnd'.sublist (List.Sublist.map _ List.erase_sublist)
          · exact fun x hx => hals x (List.mem_of_mem_erase hx)

theorem closed_none (ops : Array Oper) : Closed ops (Array.replicate ops.size false) := by
  intro j hj k hk
  rcases Nat.lt_or_ge j ops.size with h | h
  · simp [h] at hj
  · unfold depsOf at hk
    rw [Array.getElem?_eq_none h] at hk
    cases hk

def alsOk (ops : Array Oper) (π : List (Nat × Kind)) : Bool :=
  (π.all fun x => x.2 != .al || match ops[x.1]? with | some o => (match o.op with | .alloc _ => true | _ => false) | none => false) &&
  ops.toList.all fun o => match o.op with | .alloc _ => o.guard.isNone | _ => true

def nodupB : List Nat → Bool
  | [] => true
  | x :: xs => !xs.contains x && nodupB xs

theorem nodupB_spec : ∀ {l : List Nat}, nodupB l = true → l.Nodup
  | [], _ => List.nodup_nil
  | x :: xs, h => by
    simp only [nodupB, Bool.and_eq_true, Bool.not_eq_true'] at h
    exact List.nodup_cons.2 ⟨fun hm => (by rw [List.contains_iff_mem.2 hm] at h; cases h.1), nodupB_spec h.2⟩

/-- all that is asked of the text of a region that draws its order -/
def drawOk (N : Nat) (ops : Array Oper) (D : List Nat) (π : List (Nat × Kind)) : Bool :=
  fits N ops && plainOps ops && maskOk ops (mkB ops) && alFree ops && planOk ops (mkB ops) D π (Array.replicate ops.size false) && (π.length == ops.size) && nodupB (π.map (·.1)) && alsOk ops π

/-- a region that draws its order -/
theorem HW.region_any {J : Jd} {id : Nat} {ops : Array Oper} {Q : Post} {E : Env} {ds : List Deferred} {L : List Res} (D : List Nat) (π : List (Nat × Kind))
    (hmix : J.P.follows .mixedOrders = true) (hok : drawOk J.N ops D π = true) (hQ : ∀ c E E' ds L, Q (.panic c) E ds L → Q (.panic c) E' ds L) (hz : zerosOk J.P ops)
    (h : Plan J ops (some D) Q π E ds L) : HW J (.region id ops true) Q E ds L := fun a w hr hm => by
  simp only [drawOk, Bool.and_eq_true, beq_iff_eq] at hok
  obtain ⟨⟨⟨⟨⟨⟨⟨h1, h2⟩, h3⟩, h4⟩, h5⟩, h6⟩, h7⟩, h8⟩ := hok
  refine wpIn_region_any hmix ?_
  simp only [alsOk, Bool.and_eq_true, List.all_eq_true] at h8
  have hg : ∀ (k : Nat) (o : Oper), ops[k]? = some o → (∃ t, o.op = .alloc t) → o.guard = none := by
    rintro k o hk ⟨t, ht⟩
    have := h8.2 o (Array.mem_toList_iff.2 (Array.mem_of_getElem? hk))
    rw [ht] at this
    simpa using this
  have hals : ∀ x ∈ π, x.2 = .al → ∃ o t, ops[x.1]? = some o ∧ o.op = .alloc t := by
    intro x hx hxa
    have := h8.1 x hx
    rw [hxa] at this
    cases ho : ops[x.1]? with
    | none => simp [ho] at this
    | some o =>
      refine ⟨o, ?_⟩
      cases hop : o.op <;> simp [ho, hop] at this
      exact ⟨_, rfl, rfl⟩
  exact any_sound _ _ _ _ L (hm.drawn _ (Nat.le_succ _)) (plan_any h1 h2 h3 h4 hQ hz hg _ π _ a _ E ds L h6 h5 (nodupB_spec h7) hals (closed_none ops) h hr (hm.drawn (w.drawn + 1) (Nat.le_succ _)))

end Go.Proofs.Ytjmklbkcpjmcaaa.H

namespace Go.Proofs.Ytjmklbkcpjmcaaa.H
open Go Go.RowKit
set_option linter.unusedVariables false
set_option linter.unusedSimpArgs false

section
variable {J : Jd} {ops : Array Oper} {dest : Option (List Nat)} {Q : Post} {i : Nat} {rest : List (Nat × Kind)} {E : Env} {ds : List Deferred} {L : List Res}
variable {d : Option Nat} {ty : TypeId} {pos : String} {aft : Array Edge} {g : Option (Nat × Bool)}

theorem St.of_exec {o : Oper} {v : Value} (hd : ∀ c, o.op ≠ .defer c) (h : ∀ w, Mem J.w0 J.X L w → (execOp (ev E) o).run J.P w = .ok (.value v) w) : St J o E L v := fun w hm => by
  rw [Oper.semAt_eq _ _ _ hd]; exact h w hm

theorem Plan.st {o : Oper} {v : Value} (ho : ops[i]? = some o) (hg : wantE ops o E = true) (hs : St J o E L v) (k : Plan J ops dest Q rest (upd E o.dst v) ds L) :
    Plan J ops dest Q ((i, .st) :: rest) E ds L := ⟨o, ho, .inl ⟨hg, v, hs, k⟩⟩

/-- an operation whose guard says no -/
theorem Plan.no {o : Oper} (ho : ops[i]? = some o) (hg : wantE ops o E = false) (k : Plan J ops dest Q rest (upd E o.dst undef) ds L) :
    Plan J ops dest Q ((i, .st) :: rest) E ds L := ⟨o, ho, .inr ⟨hg, k⟩⟩
/-- an operation that reads only what nobody turns: the same step, with nothing known -/
theorem Plan.so {E1 : Env} (h : Plan J ops dest (fun _ E' _ _ => E' = E1) [(i, .st)] E ds []) (k : Plan J ops dest Q rest E1 ds L) : Plan J ops dest Q ((i, .so) :: rest) E ds L := by
  obtain ⟨o, ho, h⟩ := h
  refine ⟨o, ho, ?_⟩
  rcases h with ⟨hw, v, hst, hp⟩ | ⟨hw, hp⟩
  · have hp : upd E o.dst v = E1 := hp
    exact .inl ⟨hw, v, hst, by rw [hp]; exact k⟩
  · have hp : upd E o.dst undef = E1 := hp
    exact .inr ⟨hw, by rw [hp]; exact k⟩
theorem Plan.noE {o : Oper} (ho : ops[i]? = some o) (hg : wantE ops o E = false) (k : Plan J ops dest Q rest (upd E o.dst undef) ds L) :
    Plan J ops dest Q ((i, .ef) :: rest) E ds L := ⟨o, ho, .inr ⟨hg, k⟩⟩

theorem Plan.done (h : Q .normal E ds L) : Plan J ops dest Q [] E ds L := h

/-! moves -/
theorem Plan.move {x : Operand} {v : Value} (ho : ops[i]? = some ⟨d, .move x, ty, pos, aft, g⟩) (hg : wantE ops ⟨d, .move x, ty, pos, aft, g⟩ E = true) (hx : ev E x = v)
    (k : Plan J ops dest Q rest (upd E d v) ds L) : Plan J ops dest Q ((i, .st) :: rest) E ds L :=
  Plan.st ho hg (St.of_exec (by intro c h; cases h) fun w _ => by subst hx; rfl) k
theorem Plan.assign {x : Operand} {v : Value} (ho : ops[i]? = some ⟨d, .assign x, ty, pos, aft, g⟩) (hg : wantE ops ⟨d, .assign x, ty, pos, aft, g⟩ E = true) (hx : ev E x = v)
    (k : Plan J ops dest Q rest (upd E d v) ds L) : Plan J ops dest Q ((i, .st) :: rest) E ds L :=
  Plan.st ho hg (St.of_exec (by intro c h; cases h) fun w _ => by subst hx; rfl) k

theorem run_lift_value {s : Sem Value} {P : Program} {w : World} {v : Value} (h : s.run P w = .ok v w) : (do pure (.value (← s)) : Sem Next).run P w = .ok (.value v) w := by
  rw [Sem.run_bind, h]; rfl

theorem Plan.pick {c a b : Operand} {t : Bool} {v : Value} (ho : ops[i]? = some ⟨d, .pick c a b, ty, pos, aft, g⟩) (hg : wantE ops ⟨d, .pick c a b, ty, pos, aft, g⟩ E = true)
    (hc : ev E c = .bool t) (hx : (bif t then ev E a else ev E b) = v) (k : Plan J ops dest Q rest (upd E d v) ds L) : Plan J ops dest Q ((i, .st) :: rest) E ds L :=
  Plan.st ho hg (St.of_exec (by intro c h; cases h) fun w _ => by
    unfold execOp; simp only [hc, asBool, Sem.run_bind, Sem.run_pure, Result.andThen]
    subst hx; cases t <;> rfl) k

/-! numbers -/
def arith (op : BinOp) (a b : Int) : Option Int :=
  match op with
  | .add => some (a + b)
  | .sub => some (a - b)
  | .mul => some (a * b)
  | _ => none

theorem run_arith {op : BinOp} {a b n : Int} {P : Program} {w : World} {kd : IntKind} {xt : TypeId} {x y : Operand} {E : Env} (hx : ev E x = .int kd a) (hy : ev E y = .int kd b) (hn : arith op a b = some n)
    {d : Option Nat} {yt ty : TypeId} {pos : String} {aft : Array Edge} {g : Option (Nat × Bool)} :
    (execOp (ev E) ⟨d, .binOp op xt x y yt, ty, pos, aft, g⟩).run P w = .ok (.value (.int kd (kd.wrap n))) w := by
  unfold execOp
  simp only [hx, hy]
  cases op <;> simp only [arith] at hn <;> first | (cases hn; done) | skip
  all_goals (obtain rfl := Option.some.inj hn; simp [eqGuard, binOp, Op.intArith, Result.andThen])

theorem wrap_i64 {n : Int} (h1 : -9223372036854775808 ≤ n) (h2 : n ≤ 9223372036854775807) : IntKind.i64.wrap n = n := by
  simp [IntKind.wrap, IntKind.bits, IntKind.signed]; omega

/-- an int sum, difference or product that stays within its kind -/
theorem Plan.arithI {op : BinOp} {xt yt : TypeId} {x y : Operand} {a b n : Int} (ho : ops[i]? = some ⟨d, .binOp op xt x y yt, ty, pos, aft, g⟩)
    (hg : wantE ops ⟨d, .binOp op xt x y yt, ty, pos, aft, g⟩ E = true) (hx : ev E x = .int .i64 a) (hy : ev E y = .int .i64 b) (hn : arith op a b = some n)
    (h1 : -9223372036854775808 ≤ n ∧ n ≤ 9223372036854775807) (k : Plan J ops dest Q rest (upd E d (.int .i64 n)) ds L) : Plan J ops dest Q ((i, .st) :: rest) E ds L :=
  Plan.st ho hg (St.of_exec (by intro c h; cases h) fun w _ => by rw [run_arith hx hy hn, wrap_i64 h1.1 h1.2]) k

/-- an int sum, difference or product, whatever it is -/
theorem Plan.arithW {op : BinOp} {xt yt : TypeId} {x y : Operand} {a b n : Int} {kd : IntKind} (ho : ops[i]? = some ⟨d, .binOp op xt x y yt, ty, pos, aft, g⟩)
    (hg : wantE ops ⟨d, .binOp op xt x y yt, ty, pos, aft, g⟩ E = true) (hx : ev E x = .int kd a) (hy : ev E y = .int kd b) (hn : arith op a b = some n)
    (k : Plan J ops dest Q rest (upd E d (.int kd (kd.wrap n))) ds L) : Plan J ops dest Q ((i, .st) :: rest) E ds L :=
  Plan.st ho hg (St.of_exec (by intro c h; cases h) fun w _ => run_arith hx hy hn) k

theorem Plan.rem {xt yt : TypeId} {x y : Operand} {a b : Int} (ho : ops[i]? = some ⟨d, .binOp .rem xt x y yt, ty, pos, aft, g⟩)
    (hg : wantE ops ⟨d, .binOp .rem xt x y yt, ty, pos, aft, g⟩ E = true) (hx : ev E x = .int .i64 a) (hy : ev E y = .int .i64 b) (h : 0 ≤ a ∧ 0 < b)
    (k : Plan J ops dest Q rest (upd E d (.int .i64 (a % b))) ds L) : Plan J ops dest Q ((i, .st) :: rest) E ds L :=
  Plan.st ho hg (St.of_exec (by intro c h; cases h) fun w _ => by
    unfold execOp
    have hb : b ≠ 0 := by omega
    have ht : a.tmod b = a % b := Int.tmod_eq_emod_of_nonneg h.1
    simp [hx, hy, eqGuard, binOp, Op.intDiv, hb, Result.andThen, ht]) k

theorem Plan.quo {xt yt : TypeId} {x y : Operand} {a b : Int} (ho : ops[i]? = some ⟨d, .binOp .quo xt x y yt, ty, pos, aft, g⟩)
    (hg : wantE ops ⟨d, .binOp .quo xt x y yt, ty, pos, aft, g⟩ E = true) (hx : ev E x = .int .i64 a) (hy : ev E y = .int .i64 b) (h : 0 ≤ a ∧ a ≤ 9223372036854775807 ∧ 0 < b)
    (k : Plan J ops dest Q rest (upd E d (.int .i64 (a / b))) ds L) : Plan J ops dest Q ((i, .st) :: rest) E ds L :=
  Plan.st ho hg (St.of_exec (by intro c h; cases h) fun w _ => by
    unfold execOp
    have hb : b ≠ 0 := by omega
    have ht : a.tdiv b = a / b := Int.tdiv_eq_ediv_of_nonneg h.1
    have h1 : 0 ≤ a / b := Int.ediv_nonneg h.1 (by omega)
    have h2 : a / b ≤ a := Int.ediv_le_self b h.1
    have hw := wrap_i64 (n := a / b) (by omega) (by omega)
    simp [hx, hy, eqGuard, binOp, Op.intDiv, hb, Result.andThen, ht, hw]) k

def cmpI (op : BinOp) (a b : Int) : Option Bool :=
  match op with
  | .eql => some (decide (a = b))
  | .neq => some (!decide (a = b))
  | .lss => some (decide (a < b))
  | .leq => some (decide (a ≤ b))
  | .gtr => some (decide (a > b))
  | .geq => some (decide (a ≥ b))
  | _ => none

theorem run_cmpI {op : BinOp} {a b : Int} {n : Bool} {P : Program} {w : World} {kd : IntKind} {xt : TypeId} {x y : Operand} {E : Env} (hx : ev E x = .int kd a) (hy : ev E y = .int kd b) (hn : cmpI op a b = some n)
    {d : Option Nat} {yt ty : TypeId} {pos : String} {aft : Array Edge} {g : Option (Nat × Bool)} :
    (execOp (ev E) ⟨d, .binOp op xt x y yt, ty, pos, aft, g⟩).run P w = .ok (.value (.bool n)) w := by
  unfold execOp
  simp only [hx, hy]
  cases op <;> simp only [cmpI] at hn <;> first | (cases hn; done) | skip
  all_goals (obtain rfl := Option.some.inj hn; simp [eqGuard, binOp, Op.intCmp, Result.andThen, BEq.beq, bne])

/-- a comparison of ints, its answer as it stands -/
theorem Plan.cmp {op : BinOp} {xt yt : TypeId} {x y : Operand} {a b : Int} {n : Bool} {kd : IntKind} (ho : ops[i]? = some ⟨d, .binOp op xt x y yt, ty, pos, aft, g⟩)
    (hg : wantE ops ⟨d, .binOp op xt x y yt, ty, pos, aft, g⟩ E = true) (hx : ev E x = .int kd a) (hy : ev E y = .int kd b) (hn : cmpI op a b = some n)
    (k : Plan J ops dest Q rest (upd E d (.bool n)) ds L) : Plan J ops dest Q ((i, .st) :: rest) E ds L :=
  Plan.st ho hg (St.of_exec (by intro c h; cases h) fun w _ => run_cmpI hx hy hn) k

/-- a comparison of ints, both answers -/
theorem Plan.cmp2 {op : BinOp} {xt yt : TypeId} {x y : Operand} {a b : Int} {n : Bool} {kd : IntKind} (ho : ops[i]? = some ⟨d, .binOp op xt x y yt, ty, pos, aft, g⟩)
    (hg : wantE ops ⟨d, .binOp op xt x y yt, ty, pos, aft, g⟩ E = true) (hx : ev E x = .int kd a) (hy : ev E y = .int kd b) (hn : cmpI op a b = some n)
    (kt : n = true → Plan J ops dest Q rest (upd E d (.bool true)) ds L) (kf : n = false → Plan J ops dest Q rest (upd E d (.bool false)) ds L) : Plan J ops dest Q ((i, .st) :: rest) E ds L := by
  refine Plan.cmp ho hg hx hy hn ?_
  cases n with
  | true => exact kt rfl
  | false => exact kf rfl

theorem Plan.not {xt : TypeId} {x : Operand} {b : Bool} (ho : ops[i]? = some ⟨d, .unOp .not xt x, ty, pos, aft, g⟩) (hg : wantE ops ⟨d, .unOp .not xt x, ty, pos, aft, g⟩ E = true)
    (hx : ev E x = .bool b) (k : Plan J ops dest Q rest (upd E d (.bool (!b))) ds L) : Plan J ops dest Q ((i, .st) :: rest) E ds L :=
  Plan.st ho hg (St.of_exec (by intro c h; cases h) fun w _ => by unfold execOp; simp [hx, Op.unary, Result.andThen]) k

theorem Plan.neg {xt : TypeId} {x : Operand} {a : Int} (ho : ops[i]? = some ⟨d, .unOp .neg xt x, ty, pos, aft, g⟩) (hg : wantE ops ⟨d, .unOp .neg xt x, ty, pos, aft, g⟩ E = true)
    (hx : ev E x = .int .i64 a) (h : -9223372036854775807 ≤ a ∧ a ≤ 9223372036854775807) (k : Plan J ops dest Q rest (upd E d (.int .i64 (-a))) ds L) : Plan J ops dest Q ((i, .st) :: rest) E ds L :=
  Plan.st ho hg (St.of_exec (by intro c h; cases h) fun w _ => by
    unfold execOp
    have := wrap_i64 (n := -a) (by omega) (by omega)
    simp [hx, Op.unary, Op.intArith, Result.andThen, this]) k

theorem Plan.extract {x : Operand} {n : Nat} {vs : Array Value} {v : Value} (ho : ops[i]? = some ⟨d, .extract x n, ty, pos, aft, g⟩) (hg : wantE ops ⟨d, .extract x n, ty, pos, aft, g⟩ E = true)
    (hx : ev E x = .tuple vs) (hv : vs[n]? = some v) (k : Plan J ops dest Q rest (upd E d v) ds L) : Plan J ops dest Q ((i, .st) :: rest) E ds L :=
  Plan.st ho hg (St.of_exec (by intro c h; cases h) fun w _ => by unfold execOp; simp [hx, Instr.extract, hv, Result.andThen]) k

theorem map_list {α β : Type} (f : α → β) (xs : Array α) : xs.map f = (xs.toList.map f).toArray := by
  cases xs; simp

theorem Plan.makeFunc {fn : Fn} {first captured : Array Operand} {f c : List Value} (ho : ops[i]? = some ⟨d, .makeFunc fn first captured, ty, pos, aft, g⟩)
    (hg : wantE ops ⟨d, .makeFunc fn first captured, ty, pos, aft, g⟩ E = true) (hf : first.toList.map (ev E) = f) (hc : captured.toList.map (ev E) = c)
    (k : Plan J ops dest Q rest (upd E d (.func fn f.toArray c.toArray)) ds L) : Plan J ops dest Q ((i, .st) :: rest) E ds L :=
  Plan.st ho hg (St.of_exec (by intro c h; cases h) fun w _ => by subst hf hc; rw [← map_list, ← map_list]; rfl) k

/-! slices -/
theorem Plan.len {st e : TypeId} {x : Operand} {A : Option Addr} {n c : Nat} (ho : ops[i]? = some ⟨d, .call ⟨.builtin .len, #[x], #[st]⟩, ty, pos, aft, g⟩)
    (hg : wantE ops ⟨d, .call ⟨.builtin .len, #[x], #[st]⟩, ty, pos, aft, g⟩ E = true) (hs : J.P.underlying st = some (.slice e)) (hx : ev E x = .slice A n c)
    (k : Plan J ops dest Q rest (upd E d (.int .i64 n)) ds L) : Plan J ops dest Q ((i, .st) :: rest) E ds L :=
  Plan.st ho hg (St.of_exec (by intro c h; cases h) fun w _ => by
    unfold execOp
    simp [resolve, hx, invoke, builtin, Builtin.len_, run_underlying hs, goInt, Result.andThen]) k

theorem Plan.indexAddr {st e : TypeId} {x y : Operand} {ad : Addr} {n c : Nat} {kd : IntKind} {j : Int} {sz : Nat} (ho : ops[i]? = some ⟨d, .indexAddr st x y, ty, pos, aft, g⟩)
    (hg : wantE ops ⟨d, .indexAddr st x y, ty, pos, aft, g⟩ E = true) (hs : J.P.underlying st = some (.slice e)) (hsz : ∀ w, (sizeOf e).run J.P w = .ok sz w)
    (hx : ev E x = .slice (some ad) n c) (hy : ev E y = .int kd j) (hj : 0 ≤ j ∧ j < n)
    (k : Plan J ops dest Q rest (upd E d (.pointer (some (ad.add (j.toNat * sz))))) ds L) : Plan J ops dest Q ((i, .st) :: rest) E ds L :=
  Plan.st ho hg (St.of_exec (by intro c h; cases h) fun w _ => by
    unfold execOp
    simp [hx, hy, Instr.indexAt, asIntOf, run_underlying hs, hj.1, hj.2, hsz, Result.andThen]) k

theorem Plan.fieldAddr {st : TypeId} {x : Operand} {f off : Nat} {ad : Addr} (ho : ops[i]? = some ⟨d, .fieldAddr st x f, ty, pos, aft, g⟩)
    (hg : wantE ops ⟨d, .fieldAddr st x f, ty, pos, aft, g⟩ E = true) (hpl : ∀ w a, (Instr.fieldAt st (.pointer (some a)) f).run J.P w = .ok (.pointer (some (a.add off))) w)
    (hx : ev E x = .pointer (some ad)) (k : Plan J ops dest Q rest (upd E d (.pointer (some (ad.add off)))) ds L) : Plan J ops dest Q ((i, .st) :: rest) E ds L :=
  Plan.st ho hg (St.of_exec (by intro c h; cases h) fun w _ => by
    unfold execOp
    simp only [hx]
    exact run_lift_value (hpl w ad)) k

end
end Go.Proofs.Ytjmklbkcpjmcaaa.H

namespace Go.Proofs.Ytjmklbkcpjmcaaa.H
open Go Go.RowKit
set_option linter.unusedVariables false
set_option linter.unusedSimpArgs false

/-- the cells vs lie at a -/
def Sees (J : Jd) (L : List Res) (a : Addr) (vs : List Value) : Prop := ∀ w, Mem J.w0 J.X L w → ∀ j u, vs[j]? = some u → w.cell? (a.add j) = some u

/-- the cells vs lie at a in one world -/
def Lies (w : World) (a : Addr) (vs : List Value) : Prop := ∀ j u, vs[j]? = some u → w.cell? (a.add j) = some u

theorem mem_of_get {L : List Res} {j : Nat} {r : Res} (h : L[j]? = some r) : r ∈ L := List.mem_of_getElem? h

theorem Mem.cells {w0 w : World} {X : List Nat} {L : List Res} {j b : Nat} {cs : Array Value} {t : TypeId} (hm : Mem w0 X L w) (hj : L[j]? = some (Res.blk b cs t)) : w.heap[b]? = some (.cells cs t (0, 0)) :=
  hm.res _ (mem_of_get hj)

theorem cell_of_heap {w : World} {b : Nat} {cs : Array Value} {t : TypeId} {fr : Nat × Nat} (h : w.heap[b]? = some (.cells cs t fr)) (o : Nat) : w.cell? ⟨b, o, none⟩ = cs[o]? := by
  simp [World.cell?, h]

theorem Sees.blk {J : Jd} {L : List Res} {b o : Nat} {cs : Array Value} {t : TypeId} {vs : List Value} (j : Nat) (hj : L[j]? = some (Res.blk b cs t)) (hv : ∀ j u, vs[j]? = some u → cs[o + j]? = some u) :
    Sees J L ⟨b, o, none⟩ vs := fun w hm j' u hu => by
  rw [Addr.add_lit, cell_of_heap (hm.cells hj)]; exact hv j' u hu

theorem Sees.all {J : Jd} {L : List Res} {b : Nat} {cs : Array Value} {t : TypeId} (j : Nat) (hj : L[j]? = some (Res.blk b cs t)) : Sees J L ⟨b, 0, none⟩ cs.toList :=
  Sees.blk j hj fun j u h => by rw [Nat.zero_add]; simpa using h

theorem Sees.old {J : Jd} {L : List Res} {a : Addr} {vs : List Value} (h : Lies J.w0 a vs) (hX : a.block ∉ J.X) : Sees J L a vs := fun w hm j u hu => by
  have h1 := h j u hu
  have hb : (a.add j).block = a.block := by unfold Addr.add; split <;> rfl
  have hlt : (a.add j).block < J.w0.heap.size := World.block_lt_of_cell? _ _ h1
  rw [← h1]
  exact World.cell?_of_block (hm.old _ hlt (by rw [hb]; exact hX))

theorem Sees.one {J : Jd} {L : List Res} {b o : Nat} {cs : Array Value} {t : TypeId} {v : Value} (j : Nat) (hj : L[j]? = some (Res.blk b cs t)) (hv : cs[o]? = some v) : Sees J L ⟨b, o, none⟩ [v] :=
  Sees.blk j hj fun j u h => by
    cases j with
    | zero => rw [← h]; exact hv
    | succ j => cases h

section
variable {J : Jd} {ops : Array Oper} {dest : Option (List Nat)} {Q : Post} {i : Nat} {rest : List (Nat × Kind)} {E : Env} {ds : List Deferred} {L : List Res}
variable {d : Option Nat} {ty : TypeId} {pos : String} {aft : Array Edge} {g : Option (Nat × Bool)}

/-! loads -/
theorem run_loadVar_one {P : Program} {w : World} {t : TypeId} {a : Addr} {v : Value} (ha : (isAgg t).run P w = .ok false w) (hc : w.cell? a = some v) : (loadVar t a).run P w = .ok v w := by
  unfold loadVar
  rw [Sem.run_bind, ha]
  simp [hc]
theorem run_loadVar_agg {P : Program} {w : World} {t : TypeId} {a : Addr} {vs : List Value} (ha : (isAgg t).run P w = .ok true w) (hs : (sizeOf t).run P w = .ok vs.length w)
    (hc : Lies w a vs) : (loadVar t a).run P w = .ok (.agg vs.toArray) w := by
  unfold loadVar
  rw [Sem.run_bind, ha]
  simp only [Result.andThen_ok, if_true, Sem.run_bind, hs, run_loadCells_list w a vs hc]
  rfl

theorem addr_add_zero (a : Addr) : a.add 0 = a := rfl

theorem Plan.load {t : TypeId} {x : Operand} {a : Addr} {v : Value} (ho : ops[i]? = some ⟨d, .load t x, ty, pos, aft, g⟩) (hg : wantE ops ⟨d, .load t x, ty, pos, aft, g⟩ E = true)
    (ha : ∀ w, (isAgg t).run J.P w = .ok false w) (hx : ev E x = .pointer (some a)) (hs : Sees J L a [v]) (k : Plan J ops dest Q rest (upd E d v) ds L) : Plan J ops dest Q ((i, .st) :: rest) E ds L :=
  Plan.st ho hg (St.of_exec (by intro c h; cases h) fun w hm => by
    unfold execOp
    have := hs w hm 0 v rfl
    rw [addr_add_zero] at this
    simp only [hx, Instr.loadAt, Instr.sureAddr]
    exact run_lift_value (run_loadVar_one (ha w) this)) k

theorem Plan.loadAgg {t : TypeId} {x : Operand} {a : Addr} {vs : List Value} {n : Nat} (ho : ops[i]? = some ⟨d, .load t x, ty, pos, aft, g⟩) (hg : wantE ops ⟨d, .load t x, ty, pos, aft, g⟩ E = true)
    (ha : ∀ w, (isAgg t).run J.P w = .ok true w) (hz : ∀ w, (sizeOf t).run J.P w = .ok n w) (hx : ev E x = .pointer (some a)) (hs : Sees J L a vs) (hn : vs.length = n)
    (k : Plan J ops dest Q rest (upd E d (.agg vs.toArray)) ds L) : Plan J ops dest Q ((i, .st) :: rest) E ds L :=
  Plan.st ho hg (St.of_exec (by intro c h; cases h) fun w hm => by
    unfold execOp
    subst hn
    simp only [hx, Instr.loadAt, Instr.sureAddr]
    exact run_lift_value (run_loadVar_agg (ha w) (hz w) (hs w hm))) k

/-- a whole variable of an aggregate type -/
theorem Plan.loadAll {t t' : TypeId} {x : Operand} {b : Nat} {cs : Array Value} (j : Nat) (ho : ops[i]? = some ⟨d, .load t x, ty, pos, aft, g⟩) (hg : wantE ops ⟨d, .load t x, ty, pos, aft, g⟩ E = true)
    (ha : ∀ w, (isAgg t).run J.P w = .ok true w) {n : Nat} (hz : ∀ w, (sizeOf t).run J.P w = .ok n w) (hx : ev E x = .pointer (some ⟨b, 0, none⟩)) (hj : L[j]? = some (Res.blk b cs t')) (hn : cs.size = n)
    (k : Plan J ops dest Q rest (upd E d (.agg cs)) ds L) : Plan J ops dest Q ((i, .st) :: rest) E ds L :=
  Plan.loadAgg ho hg ha hz hx (Sees.all j hj) (by simpa using hn) (by simpa using k)

/-! what acts -/
theorem Plan.ef {o : Oper} (ho : ops[i]? = some o) (hg : wantE ops o E = true) (hd : ∀ c, o.op ≠ .defer c)
    (h : ∀ Rf w, Mem J.w0 J.X (L ++ Rf) w → EffR J Rf (fun v L' => (∀ D, dest = some D → i ∉ D → ∀ Rf, Sub J (L ++ Rf) (L' ++ Rf)) ∧ Plan J ops dest Q rest (upd E o.dst v) ds L') ((execOp (ev E) o).run J.P w)) :
    Plan J ops dest Q ((i, .ef) :: rest) E ds L := ⟨o, ho, .inl ⟨hg, fun Rf w hm => by rw [Oper.semAt_eq _ _ _ hd]; exact h Rf w hm⟩⟩

/-- a new variable -/
theorem Plan.alloc {t : TypeId} {z : Value} (ho : ops[i]? = some ⟨d, .alloc t, ty, pos, aft, none⟩) (hz : ∀ w, (zeroValue t).run J.P w = .ok z w)
    (k : ∀ b, Plan J ops dest Q rest (upd E d (.pointer (some ⟨b, 0, none⟩))) ds (Res.blk b z.cells t :: L)) : Plan J ops dest Q ((i, .al) :: rest) E ds L :=
  ⟨_, t, z, ho, rfl, rfl, hz, fun b => ⟨_, .refl _, k b⟩⟩

theorem Plan.box {t : TypeId} {x : Operand} {v : Value} {cs : Array Value} (ho : ops[i]? = some ⟨d, .box t x, ty, pos, aft, g⟩) (hg : wantE ops ⟨d, .box t x, ty, pos, aft, g⟩ E = true) (hx : ev E x = v) (hv : v.cells = cs)
    (k : ∀ b, Plan J ops dest Q rest (upd E d (.pointer (some ⟨b, 0, none⟩))) ds (Res.blk b cs t :: L)) : Plan J ops dest Q ((i, .ef) :: rest) E ds L :=
  Plan.ef ho hg (by intro c h; cases h) fun Rf w hm => by
    have hr : (execOp (ev E) ⟨d, .box t x, ty, pos, aft, g⟩).run J.P w = .ok (.value (.pointer (some ⟨w.heap.size, 0, none⟩))) (w.alloc (.cells cs t (0, 0))) := by
      unfold execOp; subst hx hv; rfl
    rw [hr]
    exact ⟨Res.blk w.heap.size cs t :: L, hm.alloc cs t, fun D _ _ Rf w' hm' => hm'.sub (List.sublist_cons_self _ _), k _⟩

theorem Plan.boxA {t : TypeId} {x : Operand} {cs : Array Value} (ho : ops[i]? = some ⟨d, .box t x, ty, pos, aft, g⟩) (hg : wantE ops ⟨d, .box t x, ty, pos, aft, g⟩ E = true) (hx : ev E x = .agg cs)
    (k : ∀ b, Plan J ops dest Q rest (upd E d (.pointer (some ⟨b, 0, none⟩))) ds (Res.blk b cs t :: L)) : Plan J ops dest Q ((i, .ef) :: rest) E ds L := Plan.box ho hg hx rfl k
theorem Plan.boxS {t : TypeId} {x : Operand} {A : Option Addr} {n c : Nat} (ho : ops[i]? = some ⟨d, .box t x, ty, pos, aft, g⟩) (hg : wantE ops ⟨d, .box t x, ty, pos, aft, g⟩ E = true) (hx : ev E x = .slice A n c)
    (k : ∀ b, Plan J ops dest Q rest (upd E d (.pointer (some ⟨b, 0, none⟩))) ds (Res.blk b #[.slice A n c] t :: L)) : Plan J ops dest Q ((i, .ef) :: rest) E ds L := Plan.box ho hg hx rfl k

/-! a stretch of cells of a block of one's own is written -/
theorem Mem.set {w0 w : World} {X : List Nat} {L Rf : List Res} {j b : Nat} {cs : Array Value} {t : TypeId} (hm : Mem w0 X (L ++ Rf) w) (hj : L[j]? = some (Res.blk b cs t)) (cs' : Array Value) :
    Mem w0 X (L.set j (Res.blk b cs' t) ++ Rf) (w.setRow b cs') := by
  have hlt : j < L.length := (List.getElem?_eq_some_iff.1 hj).1
  have hget : L[j] = Res.blk b cs t := (List.getElem?_eq_some_iff.1 hj).2
  have hL : L = L.take j ++ Res.blk b cs t :: L.drop (j + 1) := by rw [← hget]; simp
  have hS : L.set j (Res.blk b cs' t) = L.take j ++ Res.blk b cs' t :: L.drop (j + 1) := by rw [List.set_eq_take_append_cons_drop, if_pos hlt]
  have hp1 : (L ++ Rf).Perm (Res.blk b cs t :: (L.take j ++ L.drop (j + 1) ++ Rf)) := by
    rw (occs := .pos [1]) [hL]
    exact List.perm_middle.append_right Rf
  have hp2 : (Res.blk b cs' t :: (L.take j ++ L.drop (j + 1) ++ Rf)).Perm (L.set j (Res.blk b cs' t) ++ Rf) := by
    rw [hS]
    exact (List.perm_middle.append_right Rf).symm
  refine Mem.perm ?_ hp2
  have hm := hm.perm hp1
  generalize L.take j ++ L.drop (j + 1) ++ Rf = M at hm
  have hh : w.heap[b]? = some (.cells cs t (0, 0)) := hm.res _ List.mem_cons_self
  have hb := hm.foot _ List.mem_cons_self b (List.mem_singleton.2 rfl)
  have hsep := List.pairwise_cons.1 hm.sep
  have hsz : (w.setRow b cs').heap.size = w.heap.size := by simp [World.setRow]
  have hoth : ∀ k, k ≠ b → (w.setRow b cs').heap[k]? = w.heap[k]? := fun k hk => setRow_other w b k cs' hk
  refine ⟨hm.os, hm.tape, hm.dr, hm.output, by rw [hsz]; exact hm.size, fun k hk hX => ?_, ?_, ?_, ?_⟩
  · rw [hoth k (fun e => by subst e; rcases hb.2 with h | h; · omega
                            · exact hX h)]
    exact hm.old k hk hX
  · intro r hr
    rcases List.mem_cons.1 hr with rfl | hr1
    · exact setRow_heap w b cs cs' t (0, 0) hh
    · exact r.loc w _ (fun k hk => hoth k (fun e => hsep.1 r hr1 b (List.mem_singleton.2 rfl) (e ▸ hk))) (hm.res r (List.mem_cons_of_mem _ hr1))
  · intro r hr k hk
    rw [hsz]
    rcases List.mem_cons.1 hr with rfl | hr
    · obtain rfl := List.mem_singleton.1 hk; exact hb
    · exact hm.foot r (List.mem_cons_of_mem _ hr) k hk
  · exact List.pairwise_cons.2 ⟨fun s hs k hk => hsep.1 s hs k hk, hsep.2⟩

theorem run_storeVar_at {P : Program} {w : World} {t t' : TypeId} {b o : Nat} {cs : Array Value} {v : Value} {n : Nat} (hs : (sizeOf t).run P w = .ok n w) (hn : v.cells.size = n) (hb : w.heap[b]? = some (.cells cs t' (0, 0)))
    (hfit : o + n ≤ cs.size) (h1 : ∀ u ∈ v.cells.toList, u.oneCell' = true) :
    (storeVar t ⟨b, o, none⟩ v).run P w = .ok () (w.setRow b (cs.toList.take o ++ v.cells.toList ++ cs.toList.drop (o + n)).toArray) := by
  unfold storeVar
  have := run_storeCells_at P b o t' v.cells.toList 0 cs w hb (by simpa [hn] using hfit) h1
  simp only [Nat.add_zero, Array.length_toList, hn] at this
  simp [Sem.run_bind, hs, hn, this]

/-- a store into a block of one's own -/
theorem Plan.store {t t' : TypeId} {x y : Operand} {b o : Nat} {cs cs' : Array Value} {v : Value} {n : Nat} (j : Nat) (ho : ops[i]? = some ⟨d, .store t x y, ty, pos, aft, g⟩)
    (hg : wantE ops ⟨d, .store t x y, ty, pos, aft, g⟩ E = true) (hD : ∀ D, dest = some D → i ∈ D) (hz : ∀ w, (sizeOf t).run J.P w = .ok n w) (hx : ev E x = .pointer (some ⟨b, o, none⟩)) (hy : ev E y = v)
    (hj : L[j]? = some (Res.blk b cs t')) (hn : v.cells.size = n) (hfit : o + n ≤ cs.size) (h1 : ∀ u ∈ v.cells.toList, u.oneCell' = true)
    (hcs : (cs.toList.take o ++ v.cells.toList ++ cs.toList.drop (o + n)).toArray = cs')
    (k : Plan J ops dest Q rest (upd E d undef) ds (L.set j (Res.blk b cs' t'))) : Plan J ops dest Q ((i, .ef) :: rest) E ds L :=
  Plan.ef ho hg (by intro c h; cases h) fun Rf w hm => by
    have hb : w.heap[b]? = some (.cells cs t' (0, 0)) := hm.res _ (List.mem_append_left _ (mem_of_get hj))
    have hr : (execOp (ev E) ⟨d, .store t x y, ty, pos, aft, g⟩).run J.P w = .ok .skip (w.setRow b cs') := by
      unfold execOp
      subst hcs
      simp only [hx, hy, Instr.storeAt, Instr.sureAddr]
      have := run_storeVar_at (hz w) hn hb hfit h1
      simp [Sem.run_bind, this]
    rw [hr]
    exact ⟨_, hm.set hj cs', fun D hD' hi => absurd (hD D hD') hi, k⟩

/-- a whole variable is written -/
theorem Plan.storeAll {t t' : TypeId} {x y : Operand} {b : Nat} {cs cs' : Array Value} {v : Value} {n : Nat} (j : Nat) (ho : ops[i]? = some ⟨d, .store t x y, ty, pos, aft, g⟩)
    (hg : wantE ops ⟨d, .store t x y, ty, pos, aft, g⟩ E = true) (hD : ∀ D, dest = some D → i ∈ D) (hz : ∀ w, (sizeOf t).run J.P w = .ok n w) (hx : ev E x = .pointer (some ⟨b, 0, none⟩)) (hy : ev E y = v)
    (hj : L[j]? = some (Res.blk b cs t')) (hv : v.cells = cs') (hn : cs'.size = n) (hc : cs.size = n) (h1 : ∀ u ∈ cs'.toList, u.oneCell' = true)
    (k : Plan J ops dest Q rest (upd E d undef) ds (L.set j (Res.blk b cs' t'))) : Plan J ops dest Q ((i, .ef) :: rest) E ds L := by
  subst hv
  refine Plan.store j ho hg hD hz hx hy hj hn (by omega) h1 (cs' := v.cells) ?_ k
  have : cs.toList.drop (0 + n) = [] := List.drop_of_length_le (by simp; omega)
  rw [this]; simp

theorem ones_spec {cs : Array Value} (h : (cs.toList.all (·.oneCell')) = true) : ∀ u ∈ cs.toList, u.oneCell' = true := List.all_eq_true.1 h
theorem Plan.storeA {t t' : TypeId} {x y : Operand} {b : Nat} {cs cs' : Array Value} {n : Nat} (j : Nat) (ho : ops[i]? = some ⟨d, .store t x y, ty, pos, aft, g⟩)
    (hg : wantE ops ⟨d, .store t x y, ty, pos, aft, g⟩ E = true) (hD : ∀ D, dest = some D → i ∈ D) (hz : ∀ w, (sizeOf t).run J.P w = .ok n w) (hx : ev E x = .pointer (some ⟨b, 0, none⟩)) (hy : ev E y = .agg cs')
    (hj : L[j]? = some (Res.blk b cs t')) (hn : cs'.size = n) (hc : cs.size = n) (h1 : (cs'.toList.all (·.oneCell')) = true)
    (k : Plan J ops dest Q rest (upd E d undef) ds (L.set j (Res.blk b cs' t'))) : Plan J ops dest Q ((i, .ef) :: rest) E ds L :=
  Plan.storeAll j ho hg hD hz hx hy hj rfl hn hc (ones_spec h1) k
theorem Plan.storeI {t t' : TypeId} {x y : Operand} {b : Nat} {cs : Array Value} {kd : IntKind} {n : Int} (j : Nat) (ho : ops[i]? = some ⟨d, .store t x y, ty, pos, aft, g⟩)
    (hg : wantE ops ⟨d, .store t x y, ty, pos, aft, g⟩ E = true) (hD : ∀ D, dest = some D → i ∈ D) (hz : ∀ w, (sizeOf t).run J.P w = .ok 1 w) (hx : ev E x = .pointer (some ⟨b, 0, none⟩)) (hy : ev E y = .int kd n)
    (hj : L[j]? = some (Res.blk b cs t')) (hc : cs.size = 1)
    (k : Plan J ops dest Q rest (upd E d undef) ds (L.set j (Res.blk b #[.int kd n] t'))) : Plan J ops dest Q ((i, .ef) :: rest) E ds L :=
  Plan.storeAll j ho hg hD hz hx hy hj rfl rfl hc (ones_spec rfl) k
theorem Plan.storeB {t t' : TypeId} {x y : Operand} {b : Nat} {cs : Array Value} {n : Bool} (j : Nat) (ho : ops[i]? = some ⟨d, .store t x y, ty, pos, aft, g⟩)
    (hg : wantE ops ⟨d, .store t x y, ty, pos, aft, g⟩ E = true) (hD : ∀ D, dest = some D → i ∈ D) (hz : ∀ w, (sizeOf t).run J.P w = .ok 1 w) (hx : ev E x = .pointer (some ⟨b, 0, none⟩)) (hy : ev E y = .bool n)
    (hj : L[j]? = some (Res.blk b cs t')) (hc : cs.size = 1)
    (k : Plan J ops dest Q rest (upd E d undef) ds (L.set j (Res.blk b #[.bool n] t'))) : Plan J ops dest Q ((i, .ef) :: rest) E ds L :=
  Plan.storeAll j ho hg hD hz hx hy hj rfl rfl hc (ones_spec rfl) k
theorem Plan.storeF {t t' : TypeId} {x y : Operand} {b : Nat} {cs : Array Value} {fn : Fn} {f c : Array Value} (j : Nat) (ho : ops[i]? = some ⟨d, .store t x y, ty, pos, aft, g⟩)
    (hg : wantE ops ⟨d, .store t x y, ty, pos, aft, g⟩ E = true) (hD : ∀ D, dest = some D → i ∈ D) (hz : ∀ w, (sizeOf t).run J.P w = .ok 1 w) (hx : ev E x = .pointer (some ⟨b, 0, none⟩)) (hy : ev E y = .func fn f c)
    (hj : L[j]? = some (Res.blk b cs t')) (hc : cs.size = 1)
    (k : Plan J ops dest Q rest (upd E d undef) ds (L.set j (Res.blk b #[.func fn f c] t'))) : Plan J ops dest Q ((i, .ef) :: rest) E ds L :=
  Plan.storeAll j ho hg hD hz hx hy hj rfl rfl hc (ones_spec rfl) k

/-! aggregates -/
theorem Plan.build {t : TypeId} {parts : Array (Nat × Operand)} {ps : List (Nat × Value)} {v : Value} (ho : ops[i]? = some ⟨d, .build t parts, ty, pos, aft, g⟩) (hg : wantE ops ⟨d, .build t parts, ty, pos, aft, g⟩ E = true)
    (hp : parts.toList.map (fun x => (x.1, ev E x.2)) = ps) (hb : ∀ w, (Instr.build t ps.toArray).run J.P w = .ok v w) (k : Plan J ops dest Q rest (upd E d v) ds L) : Plan J ops dest Q ((i, .st) :: rest) E ds L :=
  Plan.st ho hg (St.of_exec (by intro c h; cases h) fun w hm => by
    unfold execOp
    subst hp
    have := run_lift_value (hb w)
    rw [← map_list] at this
    exact this) k

/-! calls -/
/-- the number leads to a function with a body -/
def Enters (P : Program) (f : FuncId) : Prop := ∀ args w, (callFunc f args).run P w = .ok (.enter f args) w

/-- a contract: it returns; blocks X of the old world may have changed -/
def Ct (P : Program) (f : FuncId) (args : Array Value) (w : World) (X : List Nat) (R : Value → List Res → Prop) : Prop :=
  Enters P f ∧ Calls P f args w fun e w' => ∃ v L, e = .returned v ∧ Mem w X L w' ∧ R v L

theorem Ct.mono {P : Program} {f : FuncId} {args : Array Value} {w : World} {X : List Nat} {R R' : Value → List Res → Prop} (h : Ct P f args w X R) (hr : ∀ v L, R v L → R' v L) : Ct P f args w X R' :=
  ⟨h.1, Calls.mono h.2 fun _ _ ⟨v, L, h1, h2, h3⟩ => ⟨v, L, h1, h2, hr _ _ h3⟩⟩

/-- a call of a function that is known by its number, by its contract; n resources in front are handed over -/
theorem Plan.callF {f : FuncId} {xs : Array Operand} {ts : Array TypeId} {args : List Value} {R : Value → List Res → Prop} (X : List Nat) (n : Nat)
    (ho : ops[i]? = some ⟨d, .call ⟨.value (.func f), xs, ts⟩, ty, pos, aft, g⟩) (hg : wantE ops ⟨d, .call ⟨.value (.func f), xs, ts⟩, ty, pos, aft, g⟩ E = true)
    (ha : xs.toList.map (ev E) = args) (hD : n = 0 ∨ ∀ D, dest = some D → i ∈ D)
    (hX : ∀ b ∈ X, ∃ r ∈ L.take n, b ∈ r.foot)
    (hc : ∀ w, Mem J.w0 J.X L w → Ct J.P f args.toArray w X R) (k : ∀ v Ln, R v Ln → Plan J ops dest Q rest (upd E d v) ds (Ln ++ L.drop n)) : Plan J ops dest Q ((i, .ef) :: rest) E ds L :=
  Plan.ef ho hg (by intro c h; cases h) fun Rf w hm => by
    obtain ⟨hf, hcall⟩ := hc w (hm.sub (List.sublist_append_left _ _))
    have hr : (execOp (ev E) ⟨d, .call ⟨.value (.func f), xs, ts⟩, ty, pos, aft, g⟩).run J.P w = .ok (.enter f args.toArray) w := by
      unfold execOp
      subst ha
      simp [resolve, ev, Deferred.ofValue, invoke, hf _ _, map_list]
    rw [hr]
    refine Calls.mono hcall ?_
    rintro e w' ⟨v, Ln, rfl, h2, h3⟩
    have hm' : Mem J.w0 J.X (L.take n ++ (L.drop n ++ Rf)) w := by rw [← List.append_assoc, List.take_append_drop]; exact hm
    refine ⟨v, Ln ++ L.drop n, rfl, ?_, fun D hD' hi => ?_, k v Ln h3⟩
    · rw [List.append_assoc]; exact hm'.call h2 hX
    · rcases hD with rfl | hD
      · intro Rf w1 hm1
        refine hm1.sub ?_
        simp only [List.drop_zero]
        exact (List.sublist_append_right Ln L).append_right Rf
      · exact absurd (hD D hD') hi

/-- a call of a function value that is made of a function and captured values -/
theorem Plan.callV {f : FuncId} {x : Operand} {cap : Array Value} {xs : Array Operand} {ts : Array TypeId} {args : List Value} {R : Value → List Res → Prop} (X : List Nat) (n : Nat)
    (ho : ops[i]? = some ⟨d, .call ⟨.value x, xs, ts⟩, ty, pos, aft, g⟩) (hg : wantE ops ⟨d, .call ⟨.value x, xs, ts⟩, ty, pos, aft, g⟩ E = true) (hx : ev E x = .func (.func f) #[] cap)
    (ha : xs.toList.map (ev E) ++ cap.toList = args) (hD : n = 0 ∨ ∀ D, dest = some D → i ∈ D)
    (hX : ∀ b ∈ X, ∃ r ∈ L.take n, b ∈ r.foot)
    (hc : ∀ w, Mem J.w0 J.X L w → Ct J.P f args.toArray w X R) (k : ∀ v Ln, R v Ln → Plan J ops dest Q rest (upd E d v) ds (Ln ++ L.drop n)) : Plan J ops dest Q ((i, .ef) :: rest) E ds L :=
  Plan.ef ho hg (by intro c h; cases h) fun Rf w hm => by
    obtain ⟨hf, hcall⟩ := hc w (hm.sub (List.sublist_append_left _ _))
    have hr : (execOp (ev E) ⟨d, .call ⟨.value x, xs, ts⟩, ty, pos, aft, g⟩).run J.P w = .ok (.enter f args.toArray) w := by
      unfold execOp
      subst ha
      simp [resolve, hx, Deferred.ofValue, invoke, hf _ _, map_list]
    rw [hr]
    refine Calls.mono hcall ?_
    rintro e w' ⟨v, Ln, rfl, h2, h3⟩
    have hm' : Mem J.w0 J.X (L.take n ++ (L.drop n ++ Rf)) w := by rw [← List.append_assoc, List.take_append_drop]; exact hm
    refine ⟨v, Ln ++ L.drop n, rfl, ?_, fun D hD' hi => ?_, k v Ln h3⟩
    · rw [List.append_assoc]; exact hm'.call h2 hX
    · rcases hD with rfl | hD
      · intro Rf w1 hm1
        refine hm1.sub ?_
        simp only [List.drop_zero]
        exact (List.sublist_append_right Ln L).append_right Rf
      · exact absurd (hD D hD') hi

end

theorem hDn {i : Nat} : ∀ D, (none : Option (List Nat)) = some D → i ∈ D := fun D h => by cases h
theorem hDs {i : Nat} {D0 : List Nat} (h : i ∈ D0) : ∀ D, some D0 = some D → i ∈ D := fun D h' => by injection h' with h'; subst h'; exact h
theorem ne_of_t {p : Prop} [Decidable p] (h : (!decide p) = true) : ¬ p := by simpa using h
theorem eq_of_f {p : Prop} [Decidable p] (h : (!decide p) = false) : p := by simpa using h

theorem Plan.splitB {J : Jd} {ops : Array Oper} {dest : Option (List Nat)} {Q : Post} {π : List (Nat × Kind)} {E : Env} {d : Option Nat} {ds : List Deferred} {L : List Res} {b : Bool}
    (kt : b = true → Plan J ops dest Q π (upd E d (.bool true)) ds L) (kf : b = false → Plan J ops dest Q π (upd E d (.bool false)) ds L) : Plan J ops dest Q π (upd E d (.bool b)) ds L := by
  cases b with
  | true => exact kt rfl
  | false => exact kf rfl

theorem own_loadAgg {J : Jd} {L : List Res} {b : Nat} {cs : Array Value} {t t' : TypeId} {n : Nat} (j : Nat) (hj : L[j]? = some (Res.blk b cs t')) (ha : ∀ w, (isAgg t).run J.P w = .ok true w)
    (hz : ∀ w, (sizeOf t).run J.P w = .ok n w) (hn : cs.size = n) : ∀ w, Mem J.w0 J.X L w → (loadVar t ⟨b, 0, none⟩).run J.P w = .ok (.agg cs) w := fun w hm => by
  have := run_loadVar_agg (ha w) (vs := cs.toList) (by rw [Array.length_toList, hn]; exact hz w) (Sees.all j hj w hm)
  simpa using this
theorem own_loadOne {J : Jd} {L : List Res} {b : Nat} {cs : Array Value} {t t' : TypeId} {v : Value} (j : Nat) (hj : L[j]? = some (Res.blk b cs t')) (ha : ∀ w, (isAgg t).run J.P w = .ok false w)
    (hv : cs[0]? = some v) : ∀ w, Mem J.w0 J.X L w → (loadVar t ⟨b, 0, none⟩).run J.P w = .ok v w := fun w hm => run_loadVar_one (ha w) (Sees.one j hj hv w hm 0 v rfl)

theorem zerosOk_of {P : Program} {ops : Array Oper} (Z : List (TypeId × Value)) (hZ : ∀ p ∈ Z, ∀ w, (zeroValue p.1).run P w = .ok p.2 w)
    (h : (ops.toList.all fun o => match o.op with | .alloc t => Z.any (fun p => Nat.beq p.1 t) | _ => true) = true) : zerosOk P ops := by
  intro k o t hk ho
  have := List.all_eq_true.1 h o (Array.mem_toList_iff.2 (Array.mem_of_getElem? hk))
  simp only [ho, List.any_eq_true] at this
  obtain ⟨p, hp, he⟩ := this
  have he := Nat.eq_of_beq_eq_true he
  subst he
  exact ⟨p.2, hZ p hp⟩

/-! functions -/
def argEnv : List Value → Env
  | [], _ => undef
  | v :: _, 0 => v
  | _ :: vs, t + 1 => argEnv vs t

theorem argEnv_get : ∀ (vs : List Value) (t : Nat), argEnv vs t = vs.getD t undef
  | [], _ => rfl
  | _ :: _, 0 => rfl
  | _ :: vs, t + 1 => by simp [argEnv, argEnv_get vs t]

/-- what a function hands back: slots, or variables in memory -/
inductive Gives (J : Jd) (E : Env) (L : List Res) : List ResultVar → List Value → Prop where
  | nil : Gives J E L [] []
  | tmp {t : Tmp} {v : Value} {rs : List ResultVar} {vs : List Value} (h : E t = v) (k : Gives J E L rs vs) : Gives J E L (.tmp t :: rs) (v :: vs)
  | cell {a : Tmp} {t : TypeId} {ad : Addr} {v : Value} {rs : List ResultVar} {vs : List Value} (h : E a = .pointer (some ad)) (hv : ∀ w, Mem J.w0 J.X L w → (loadVar t ad).run J.P w = .ok v w)
      (k : Gives J E L rs vs) : Gives J E L (.cell a t :: rs) (v :: vs)

def packed (vs : List Value) : Value := if h : vs.length = 1 then vs[0] else .tuple vs.toArray

def resOf (tmps : Array Value) : ResultVar → Sem Value
  | .tmp t => pure (tmps.getD t undef)
  | .cell a t => do loadVar t (← asAddr (tmps.getD a undef))

theorem results_list {J : Jd} {N : Nat} {ds : List Deferred} {a : Act} {E : Env} {L : List Res} {w : World} (hr : Rep N ds a E) (hm : Mem J.w0 J.X L w) : ∀ {rs : List ResultVar} {vs : List Value}, Gives J E L rs vs →
    (rs.mapM (resOf a.tmps)).run J.P w = .ok vs w
  | _, _, .nil => rfl
  | _, _, .tmp (t := t) h k => by
    have h1 : (resOf a.tmps (.tmp t)).run J.P w = .ok (E t) w := by simp only [resOf, hr.get]; rfl
    rw [List.mapM_cons, Sem.run_bind, h1, Result.andThen_ok, Sem.run_bind, results_list hr hm k, h]
    rfl
  | _, _, .cell (a := a') (t := t) (v := v) h hv k => by
    have h1 : (resOf a.tmps (.cell a' t)).run J.P w = .ok v w := by simp only [resOf, hr.get, h, asAddr, Sem.run_bind, Sem.run_pure, Result.andThen_ok]; exact hv w hm
    rw [List.mapM_cons, Sem.run_bind, h1, Result.andThen_ok, Sem.run_bind, results_list hr hm k]
    rfl

theorem results_run {J : Jd} {N : Nat} {ds : List Deferred} {a : Act} {E : Env} {L : List Res} {w : World} (hr : Rep N ds a E) (hm : Mem J.w0 J.X L w) {fn : Func} {rs : List ResultVar} {vs : List Value}
    (hrs : fn.results.toList = rs) (h : Gives J E L rs vs) : (results fn a.tmps).run J.P w = .ok (packed vs) w := by
  have hres : results fn a.tmps = (do let vs ← fn.results.mapM (resOf a.tmps); pure (if h : vs.size = 1 then vs[0] else .tuple vs)) := by
    unfold results
    congr 1
  rw [hres, Array.mapM_eq_mapM_toList, hrs]
  have := results_list hr hm h
  rw [Sem.run_bind, Sem.run_map, this]
  simp only [Result.andThen_ok, Sem.run_pure]
  unfold packed
  by_cases h1 : vs.length = 1 <;> simp [h1]

def retPost (J : Jd) (rs : List ResultVar) (R : Value → List Res → Prop) : Post := fun e E ds L =>
  match e with
  | .normal | .ret => ds = [] ∧ ∃ vs L', Gives J E L rs vs ∧ L'.Sublist L ∧ R (packed vs) L'
  | _ => False

/-- a function, by its body -/
theorem Ct.of_body {P : Program} {f : FuncId} {fn : Func} {c : Code} {rs : List ResultVar} {N : Nat} {args : Array Value} {w : World} {X : List Nat} {L : List Res} {R : Value → List Res → Prop}
    (hf : P.funcs[f]? = some fn) (hb : fn.body = some c) (hrs : fn.results.toList = rs) (hN : fn.ntmps = N) (hn : (fn.name == "runtime.NumGoroutine") = false) (hargs : Nat.ble args.size N = true) (hm : Mem w X L w)
    (h : HW ⟨P, none, N, w, X⟩ c (retPost ⟨P, none, N, w, X⟩ rs R) (argEnv args.toList) [] L) : Ct P f args w X R := by
  refine ⟨fun args w => by
    have h1 : fn.name ≠ "runtime.NumGoroutine" := by simpa using hn
    simp [callFunc, hf, h1, hb, mark], ?_⟩
  refine callsIn_fw (r := none) (n := 0).1 (callsIn_of_wp hf hb trivial ?_)
  have hr : Rep N [] { tmps := args ++ Array.replicate (fn.ntmps - args.size) undef, defers := [] } (argEnv args.toList) := by
    have hargs := Nat.le_of_ble_eq_true hargs
    refine ⟨by simp; omega, rfl, fun t => ?_⟩
    rw [argEnv_get]
    simp only [Array.getD_eq_getD_getElem?, List.getD_eq_getElem?_getD, Array.getElem?_append, Array.getElem?_toList]
    by_cases ht : t < args.size
    · simp [ht]
    · simp only [ht, if_false, Array.getElem?_eq_none (Nat.le_of_not_lt ht), Option.getD_none, Array.getElem?_replicate]
      split <;> rfl
  refine wpIn_mono (h _ _ hr hm) ?_
  rintro e a w' ⟨E, ds, L', h1, h2, h3⟩
  cases e with
  | normal => obtain ⟨rfl, vs, L2, hg, hs, hR⟩ := h3; exact ⟨h1.defs, _, results_run h1 h2 hrs hg, _, L2, rfl, h2.sub hs, hR⟩
  | ret => obtain ⟨rfl, vs, L2, hg, hs, hR⟩ := h3; exact ⟨h1.defs, _, results_run h1 h2 hrs hg, _, L2, rfl, h2.sub hs, hR⟩
  | exit id => exact h3.elim
  | goto l => exact h3.elim
  | panic c => exact h3.elim
  | outgrown => exact h3.elim

end Go.Proofs.Ytjmklbkcpjmcaaa.H

namespace Go.Proofs.Ytjmklbkcpjmcaaa.H
open Go Go.RowKit
set_option linter.unusedVariables false
set_option linter.unusedSimpArgs false

theorem HW.sub {J : Jd} {c : Code} {Q : Post} {E : Env} {ds : List Deferred} {L L' : List Res} (h : HW J c Q E ds L) (hs : L.Sublist L') : HW J c Q E ds L' := fun a w hr hm => h a w hr (hm.sub hs)

/-- what follows from memory may be used -/
theorem HW.pure {J : Jd} {c : Code} {Q : Post} {E : Env} {ds : List Deferred} {L : List Res} {p : Prop} (hp : ∀ w, Mem J.w0 J.X L w → p) (h : p → HW J c Q E ds L) : HW J c Q E ds L :=
  fun a w hr hm => h (hp w hm) a w hr hm

def havoc (E : Env) (M : List Nat) (F : Env) : Env := fun t => bif M.any (Nat.beq t) then F t else E t
def updL (E : Env) : List (Nat × Value) → Env
  | [] => E
  | (d, v) :: l => upd (updL E l) (some d) v

def Agree (M : List Nat) (E E0 : Env) : Prop := ∀ t, M.any (Nat.beq t) = false → E t = E0 t

theorem Agree.refl (M : List Nat) (E : Env) : Agree M E E := fun _ _ => rfl
theorem Agree.havoc (M : List Nat) (E F : Env) : Agree M (havoc E M F) E := fun t h => by simp [H.havoc, h]
theorem Agree.upd {M : List Nat} {E E0 : Env} {d : Nat} {v : Value} (hd : M.any (Nat.beq d) = true) (h : Agree M E E0) : Agree M (upd E (some d) v) E0 := fun t ht => by
  rw [upd_ne E v (fun e => by subst e; rw [hd] at ht; cases ht)]; exact h t ht
theorem Agree.updN {M : List Nat} {E E0 : Env} {v : Value} (h : Agree M E E0) : Agree M (H.upd E none v) E0 := h
theorem Agree.updL {M : List Nat} {E E0 : Env} : ∀ {l : List (Nat × Value)}, (l.all fun p => M.any (Nat.beq p.1)) = true → Agree M E E0 → Agree M (updL E l) E0
  | [], _, h => h
  | (d, v) :: l, hl, h => by
    simp only [List.all_cons, Bool.and_eq_true] at hl
    exact Agree.upd hl.1 (Agree.updL hl.2 h)

theorem Agree.havoc2 {M M2 : List Nat} {E E0 F : Env} (hs : (M2.all fun t => M.any (Nat.beq t)) = true) (h : Agree M E E0) : Agree M (H.havoc E M2 F) E0 := fun t ht => by
  have : M2.any (Nat.beq t) = false := by
    rw [Bool.eq_false_iff]
    intro hc
    obtain ⟨x, hx, he⟩ := List.any_eq_true.1 hc
    have := List.all_eq_true.1 hs x hx
    rw [← Nat.eq_of_beq_eq_true he, ht] at this
    cases this
  simp [H.havoc, this]
  exact h t ht

def LiveOk (E : Env) : List (Nat × Value) → Prop
  | [] => True
  | (d, v) :: l => E d = v ∧ LiveOk E l

theorem loopEnv {M : List Nat} {E E0 : Env} (h : Agree M E E0) : ∀ (live : List (Nat × Value)), LiveOk E live → E = updL (havoc E0 M E) live
  | [], _ => by
    funext t
    simp only [updL, havoc]
    cases ht : M.any (Nat.beq t) with
    | true => rfl
    | false => exact h t ht
  | (d, v) :: l, hl => by
    funext t
    simp only [updL]
    by_cases e : t = d
    · subst e; rw [upd_same]; exact hl.1
    · rw [upd_ne _ _ e, ← loopEnv h l hl.2]

/-- what is known may be said otherwise -/
def Ent (J : Jd) (L L' : List Res) : Prop := ∀ w, Mem J.w0 J.X L w → Mem J.w0 J.X L' w
theorem Ent.sub {J : Jd} {L L' : List Res} (h : L'.Sublist L) : Ent J L L' := fun _ hm => hm.sub h
theorem Ent.refl (J : Jd) (L : List Res) : Ent J L L := fun _ h => h
theorem Ent.trans {J : Jd} {L L' L'' : List Res} (h : Ent J L L') (k : Ent J L' L'') : Ent J L L'' := fun w hm => k w (h w hm)
theorem HW.ent {J : Jd} {c : Code} {Q : Post} {E : Env} {ds : List Deferred} {L L' : List Res} (h : HW J c Q E ds L) (hs : Ent J L' L) : HW J c Q E ds L' := fun a w hr hm => h a w hr (hs w hm)

/-- what a round owes -/
def Round (J : Jd) {G : Type} (M : List Nat) (live : G → List (Nat × Value)) (Lg : G → List Res) (ok : G → Prop) (μ : G → Nat) (g : G) (E0 : Env) (ds : List Deferred) (E' : Env) (ds' : List Deferred) (L' : List Res) : Prop :=
  ∃ g', μ g' < μ g ∧ ok g' ∧ ds' = ds ∧ Ent J L' (Lg g') ∧ Agree M E' E0 ∧ LiveOk E' (live g')

/-- a loop. M: the slots that the body writes; live: those that are read later, by a ghost state -/
theorem HW.loopL {G : Type} {J : Jd} {c : Code} {Q : Post} {E : Env} {ds : List Deferred} {L : List Res} (M : List Nat) (live : G → List (Nat × Value)) (Lg : G → List Res) (ok : G → Prop) (μ : G → Nat) (g0 : G)
    (h0 : LiveOk E (live g0)) (hL0 : Ent J L (Lg g0)) (hok : ok g0)
    (h : ∀ g F, ok g → HW J c (thenPost (Round J M live Lg ok μ g E ds) Q) (updL (havoc E M F) (live g)) ds (Lg g)) : HW J (.loop c) Q E ds L := by
  refine HW.loop (fun g E' ds' L' => ok g ∧ ds' = ds ∧ Ent J L' (Lg g) ∧ ∃ F, E' = updL (havoc E M F) (live g)) μ g0 ⟨hok, rfl, hL0, E, loopEnv (Agree.refl M E) _ h0⟩ ?_
  rintro g E' ds' L' ⟨h1, rfl, h3, F, rfl⟩
  refine HW.mono (HW.ent (h g F h1) h3) ?_
  intro e E2 ds2 L2 hq
  cases e with
  | normal =>
    obtain ⟨g', h4, h5, h6, h7, h8, h9⟩ := hq
    exact ⟨g', h4, h5, h6, h7, E2, loopEnv h8 _ h9⟩
  | exit id => exact hq
  | goto l => exact hq
  | ret => exact hq
  | panic c => exact hq
  | outgrown => exact hq

/-- a loop that keeps its resources -/
theorem HW.loopC {G : Type} {J : Jd} {c : Code} {Q : Post} {E : Env} {ds : List Deferred} {L : List Res} (M : List Nat) (live : G → List (Nat × Value)) (ok : G → Prop) (μ : G → Nat) (g0 : G)
    (h0 : LiveOk E (live g0)) (hok : ok g0)
    (h : ∀ g F, ok g → HW J c (thenPost (Round J M live (fun _ => L) ok μ g E ds) Q) (updL (havoc E M F) (live g)) ds L) : HW J (.loop c) Q E ds L :=
  HW.loopL M live (fun _ => L) ok μ g0 h0 (Ent.refl J L) hok h

/-- a point between two pieces of code, at which what is known is put anew -/
theorem HW.mid {G : Type} {J : Jd} {x y : Code} {Q : Post} {E : Env} {ds : List Deferred} {L : List Res} (M : List Nat) (live : G → List (Nat × Value)) (Lg : G → List Res) (ok : G → Prop)
    (hx : HW J x (thenPost (fun E' ds' L' => ∃ g, ok g ∧ ds' = ds ∧ Ent J L' (Lg g) ∧ Agree M E' E ∧ LiveOk E' (live g)) Q) E ds L)
    (hy : ∀ g F, ok g → HW J y Q (updL (havoc E M F) (live g)) ds (Lg g)) : HW J (.seq x y) Q E ds L := by
  refine HW.seq (HW.mono hx ?_)
  intro e E2 ds2 L2 hq
  cases e with
  | normal =>
    obtain ⟨g, h1, rfl, h3, h4, h5⟩ := hq
    have := HW.ent (hy g E2 h1) h3
    rw [← loopEnv h4 _ h5] at this
    exact this
  | exit id => exact hq
  | goto l => exact hq
  | ret => exact hq
  | panic c => exact hq
  | outgrown => exact hq

/-! slices that are read -/
/-- the slice at A holds xs, each element as k cells -/
def Rd {α : Type} (enc : α → List Value) (k : Nat) (w : World) (A : Option Addr) (xs : List α) : Prop :=
  ∀ i (h : i < xs.length), ∃ a, A = some a ∧ Lies w (a.add (i * k)) (enc xs[i])

theorem Lies.keep {w w' : World} {a : Addr} {vs : List Value} (h : Lies w a vs) (hk : ∀ b, b < w.heap.size → b = a.block → w'.heap[b]? = w.heap[b]?) : Lies w' a vs := fun j u hu => by
  have h1 := h j u hu
  have hb : (a.add j).block = a.block := by unfold Addr.add; split <;> rfl
  have hlt : (a.add j).block < w.heap.size := World.block_lt_of_cell? _ _ h1
  rw [← h1]
  exact World.cell?_of_block (hk _ hlt hb)

theorem Lies.mem {w0 w : World} {L : List Res} {a : Addr} {vs : List Value} (h : Lies w0 a vs) (hm : Mem w0 [] L w) : Lies w a vs := h.keep fun b hb _ => hm.old b hb (by simp)

theorem Rd.mem {α : Type} {enc : α → List Value} {k : Nat} {w0 w : World} {L : List Res} {A : Option Addr} {xs : List α} (h : Rd enc k w0 A xs) (hm : Mem w0 [] L w) : Rd enc k w A xs := fun i hi =>
  let ⟨a, e, hl⟩ := h i hi; ⟨a, e, hl.mem hm⟩

theorem Rd.nil {α : Type} {enc : α → List Value} {k : Nat} {w : World} {A : Option Addr} : Rd enc k w A ([] : List α) := fun i hi => absurd hi (Nat.not_lt_zero _)

/-- an element of a slice that came in -/
theorem Sees.rd {J : Jd} {L : List Res} {α : Type} {enc : α → List Value} {k : Nat} {a : Addr} {xs : List α} (h : Rd enc k J.w0 (some a) xs) (hX : J.X = []) (i : Nat) (hi : i < xs.length) : Sees J L (a.add (i * k)) (enc xs[i]) := by
  obtain ⟨a', e, hl⟩ := h i hi
  obtain rfl : a = a' := by injection e
  exact Sees.old hl (by rw [hX]; simp)

section
variable {J : Jd} {ops : Array Oper} {dest : Option (List Nat)} {Q : Post} {i : Nat} {rest : List (Nat × Kind)} {E : Env} {ds : List Deferred} {L : List Res}
variable {d : Option Nat} {ty : TypeId} {pos : String} {aft : Array Edge} {g : Option (Nat × Bool)}

/-- the address of an element, by its number -/
theorem Plan.indexN {st e : TypeId} {x y : Operand} {A : Option Addr} {ad : Addr} {n c : Nat} {kd : IntKind} {j : Int} {sz : Nat} (m : Nat) (ho : ops[i]? = some ⟨d, .indexAddr st x y, ty, pos, aft, g⟩)
    (hg : wantE ops ⟨d, .indexAddr st x y, ty, pos, aft, g⟩ E = true) (hs : J.P.underlying st = some (.slice e)) (hsz : ∀ w, (sizeOf e).run J.P w = .ok sz w)
    (hx : ev E x = .slice A n c) (hA : A = some ad) (hy : ev E y = .int kd j) (hj : j = (m : Int)) (hm : m < n)
    (k : Plan J ops dest Q rest (upd E d (.pointer (some (ad.add (m * sz))))) ds L) : Plan J ops dest Q ((i, .st) :: rest) E ds L := by
  subst hA hj
  exact Plan.indexAddr ho hg hs hsz hx hy ⟨by omega, by omega⟩ (by simpa using k)

end

end Go.Proofs.Ytjmklbkcpjmcaaa.H
