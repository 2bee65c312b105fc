/-
  The frame of these proofs, first part: environments, resources, the judgement on code, and a region that draws its order.
-/
import Derived.OrdersIn
import Derived.Below
import Derived.RangeFuncIn
import Derived.RangeFuncMany
namespace Go.Proofs.Ytjmklbkcpjmcaaa.H
open Go Go.RowKit
set_option linter.unusedVariables false
set_option linter.unusedSimpArgs false

abbrev Env := Nat → Value

def upd (E : Env) (d : Option Nat) (v : Value) : Env :=
  match d with
  | some d => fun t => bif Nat.beq t d then v else E t
  | none => E

theorem upd_same (E : Env) (d : Nat) (v : Value) : upd E (some d) v d = v := by simp [upd]
theorem upd_ne (E : Env) {d t : Nat} (v : Value) (h : t ≠ d) : upd E (some d) v t = E t := by
  simp only [upd]
  have : Nat.beq t d = false := by rw [Bool.eq_false_iff]; intro hb; exact h (Nat.eq_of_beq_eq_true hb)
  rw [this]; rfl

def ev (E : Env) : Operand → Value
  | .tmp t => E t
  | .const v => v
  | .global g => .pointer (some ⟨g, 0, none⟩)
  | .func f => .func (.func f) #[] #[]

structure Rep (N : Nat) (ds : List Deferred) (a : Act) (E : Env) : Prop where
  size : a.tmps.size = N
  defs : a.defers = ds
  get : ∀ t, a.tmps.getD t undef = E t

theorem Rep.of_act (a : Act) : Rep a.tmps.size a.defers a (fun t => a.tmps.getD t undef) := ⟨rfl, rfl, fun _ => rfl⟩

theorem Rep.eval {N : Nat} {ds : List Deferred} {a : Act} {E : Env} (h : Rep N ds a E) : a.eval = ev E := by
  funext x
  cases x with
  | tmp t => exact h.get t
  | const v => rfl
  | global g => rfl
  | func f => rfl

theorem Rep.put {N : Nat} {ds : List Deferred} {a : Act} {E : Env} (h : Rep N ds a E) (dst : Option Nat) (v : Value) (hd : ∀ d, dst = some d → d < N) :
    Rep N ds (a.put dst v) (upd E dst v) := by
  cases dst with
  | none => exact h
  | some d =>
    have hlt : d < a.tmps.size := by rw [h.size]; exact hd d rfl
    refine ⟨by simp [Act.put, h.size], h.defs, fun t => ?_⟩
    by_cases e : t = d
    · subst e
      rw [upd_same]
      simp [Act.put, hlt]
    · rw [upd_ne E v e, ← h.get t]
      have : d ≠ t := Ne.symm e
      simp [Act.put, Array.getElem?_setIfInBounds_ne this]

/-! what is drawn only grows -/
theorem drawn_setCell (w : World) (a : Addr) (v : Value) : (w.setCell a v).drawn = w.drawn := by
  unfold World.setCell; split <;> rfl
theorem drawn_freeze (w : World) (a : Addr) (n : Nat) : (w.freeze a n).drawn = w.drawn := by
  unfold World.freeze; split <;> rfl
theorem drawn_ask {α : Type} : ∀ (m : Ask α) (w : World), w.drawn ≤ (w.ask m).2.drawn := by
  intro m
  induction m with
  | done a => intro w; exact Nat.le_refl _
  | ask what range k ih =>
    intro w
    unfold World.ask
    dsimp only
    split
    · exact ih _ w
    · exact Nat.le_trans (Nat.le_succ _) (ih _ { w with drawn := w.drawn + 1 })
theorem drawn_sys (w : World) (c : Sys) : w.drawn ≤ (w.sys c).2.drawn := by
  unfold World.sys
  have := drawn_ask (Kernel.perform c w.os) w
  split
  · exact Nat.le_refl _
  · next r os w' h => rw [h] at this; exact this
theorem drawn_view (w : World) (P : Program) (at_ : Addr) (u : TypeId) (k : Addr) (v : Value) (atomic : Bool) (w' : World) (l : List Addr) (h : w.viewStore P at_ u k v atomic = .ok (w', l)) : w'.drawn = w.drawn := by
  unfold World.viewStore at h
  simp only [bind, Except.bind] at h
  repeat' (split at h)
  all_goals first
    | (cases h; done)
    | (injection h with h; injection h with h1 h2; subst h1; rfl)
theorem drawn_far (w : World) (P : Program) (a : Addr) (v : Value) (atomic : Bool) (w' : World) (l : List Addr) (h : w.farStore P a v atomic = .ok (w', l)) : w'.drawn = w.drawn := by
  unfold World.farStore at h
  split at h
  · split at h
    · next r hr => injection h with h; subst h; exact drawn_view w P _ _ _ _ _ _ _ hr
    · cases h
  · cases h
theorem drawn_run {α : Type} (P : Program) : ∀ (m : Sem α) (w w' : World) (v : α), m.run P w = .ok v w' → w.drawn ≤ w'.drawn := by
  intro m
  induction m with
  | pure a => intro w w' v h; cases h; exact Nat.le_refl _
  | load m a k ih =>
    intro w w' v h
    unfold Sem.run at h
    split at h
    · exact ih _ _ _ _ h
    · split at h
      · exact ih _ _ _ _ h
      · cases h
  | store m a x k ih =>
    intro w w' v h
    have main : (match w.cell? a with
        | some _ => if w.frozen? a then Result.halt (.unsupported (.unsafePointer "a write to bytes that a string shares")) w else k.run P (w.setCell a x)
        | none => match w.farStore P a x (m == Mode.atomic) with
          | .ok (w, _) => k.run P w
          | .error h => .halt h w) = .ok v w' → w.drawn ≤ w'.drawn := by
      intro h
      split at h
      · split at h
        · cases h
        · exact ih (w.setCell a x) _ _ h
      · split at h
        · next w1 l hf => rw [← drawn_far w P a x _ w1 l hf]; exact ih _ _ _ h
        · cases h
    cases x with
    | agg c => simp only [Sem.run] at h; cases h
    | tuple c => simp only [Sem.run] at h; cases h
    | _ => simp only [Sem.run] at h; exact main h
  | new o k ih => intro w w' v h; exact ih _ { w with heap := w.heap.push o } _ _ h
  | shape r k ih => intro w w' v h; exact ih _ _ _ _ h
  | freeze a n k ih => intro w w' v h; rw [← drawn_freeze w a n]; exact ih _ _ _ h
  | frozen a k ih => intro w w' v h; exact ih _ _ _ _ h
  | getObj r k ih =>
    intro w w' v h
    unfold Sem.run at h
    split at h
    · cases h
    · exact ih _ _ _ _ h
    · cases h
  | setObj r o k ih =>
    intro w w' v h
    unfold Sem.run at h
    split at h
    · cases h
    · exact ih { w with heap := w.heap.setIfInBounds r o } _ _ h
    · cases h
  | choose q k ih =>
    intro w w' v h
    unfold Sem.run at h
    split at h
    · exact ih _ _ _ _ h
    · exact Nat.le_trans (Nat.le_succ _) (ih _ { w with drawn := w.drawn + 1 } _ _ h)
  | sys c k ih => intro w w' v h; exact Nat.le_trans (drawn_sys w c) (ih _ _ _ _ h)
  | program k ih => intro w w' v h; exact ih _ _ _ _ h
  | mark m k ih => intro w w' v h; exact ih _ _ _ h
  | halt h => intro w w' v h; cases h

/-- what a resource says of the world, and the blocks that it speaks of -/
structure Res where
  foot : List Nat
  holds : World → Prop
  loc : ∀ w w' : World, (∀ b ∈ foot, w'.heap[b]? = w.heap[b]?) → holds w → holds w'

structure Mem (w0 : World) (X : List Nat) (L : List Res) (w : World) : Prop where
  os : w.os = w0.os
  tape : w.tape = w0.tape
  dr : w0.drawn ≤ w.drawn
  output : w.output = w0.output
  size : w0.heap.size ≤ w.heap.size
  old : ∀ b, b < w0.heap.size → b ∉ X → w.heap[b]? = w0.heap[b]?
  res : ∀ r ∈ L, r.holds w
  foot : ∀ r ∈ L, ∀ b ∈ r.foot, b < w.heap.size ∧ (w0.heap.size ≤ b ∨ b ∈ X)
  sep : L.Pairwise (fun r s => ∀ b ∈ r.foot, b ∉ s.foot)

theorem Mem.refl (w : World) : Mem w [] [] w :=
  ⟨rfl, rfl, Nat.le_refl _, rfl, Nat.le_refl _, fun _ _ _ => rfl, fun _ h => (by cases h), fun _ h => (by cases h), List.Pairwise.nil⟩

theorem Mem.sub {w0 w : World} {X : List Nat} {L L' : List Res} (h : Mem w0 X L w) (hs : L'.Sublist L) : Mem w0 X L' w :=
  ⟨h.os, h.tape, h.dr, h.output, h.size, h.old, fun r hr => h.res r (hs.subset hr), fun r hr => h.foot r (hs.subset hr), h.sep.sublist hs⟩

theorem Mem.perm {w0 w : World} {X : List Nat} {L L' : List Res} (h : Mem w0 X L w) (hs : L.Perm L') : Mem w0 X L' w :=
  ⟨h.os, h.tape, h.dr, h.output, h.size, h.old, fun r hr => h.res r (hs.mem_iff.2 hr), fun r hr => h.foot r (hs.mem_iff.2 hr),
    (hs.pairwise_iff (fun hrs b hb hb' => hrs b hb' hb)).1 h.sep⟩

theorem Mem.nil {w0 w : World} {X : List Nat} {L : List Res} (h : Mem w0 X L w) : Mem w0 X [] w := h.sub (List.nil_sublist _)

theorem Mem.below {w0 w : World} {L : List Res} (h : Mem w0 [] L w) : Below w0.heap.size w0 w :=
  ⟨h.os, h.tape, h.output, h.size, fun k hk => h.old k hk (by simp)⟩

theorem Mem.of_below {w0 w : World} (h : Below w0.heap.size w0 w) (hd : w0.drawn ≤ w.drawn) : Mem w0 [] [] w :=
  ⟨h.os, h.tape, hd, h.output, h.size, fun k hk _ => h.block k hk, fun _ h => (by cases h), fun _ h => (by cases h), List.Pairwise.nil⟩

theorem Mem.drawn {w0 w : World} {X : List Nat} {L : List Res} (h : Mem w0 X L w) (n : Nat) (hn : w.drawn ≤ n) : Mem w0 X L { w with drawn := n } :=
  ⟨h.os, h.tape, Nat.le_trans h.dr hn, h.output, h.size, h.old, fun r hr => r.loc w _ (fun _ _ => rfl) (h.res r hr), h.foot, h.sep⟩

/-- a world step that leaves the blocks of all resources and of the old world alone -/
theorem Mem.call {w0 w w' : World} {X X' : List Nat} {L1 L2 Ln : List Res} (h : Mem w0 X (L1 ++ L2) w) (hc : Mem w X' Ln w')
    (hX : ∀ b ∈ X', ∃ r ∈ L1, b ∈ r.foot) : Mem w0 X (Ln ++ L2) w' := by
  have hsep := List.pairwise_append.1 h.sep
  have hX2 : ∀ b ∈ X', ∀ s ∈ L2, b ∉ s.foot := fun b hb s hs => by
    obtain ⟨r, hr, hbr⟩ := hX b hb
    exact hsep.2.2 r hr s hs b hbr
  have hX0 : ∀ b ∈ X', b < w.heap.size ∧ (w0.heap.size ≤ b ∨ b ∈ X) := fun b hb => by
    obtain ⟨r, hr, hbr⟩ := hX b hb
    exact h.foot r (List.mem_append_left _ hr) b hbr
  refine ⟨hc.os.trans h.os, hc.tape.trans h.tape, Nat.le_trans h.dr hc.dr, hc.output.trans h.output, Nat.le_trans h.size hc.size, ?_, ?_, ?_, ?_⟩
  · intro b hb hbX
    refine (hc.old b (Nat.lt_of_lt_of_le hb h.size) fun hb' => ?_).trans (h.old b hb hbX)
    rcases (hX0 b hb').2 with h1 | h1
    · omega
    · exact hbX h1
  · intro r hr
    rcases List.mem_append.1 hr with hr | hr
    · exact hc.res r hr
    · refine r.loc w w' (fun b hb => ?_) (h.res r (List.mem_append_right _ hr))
      exact hc.old b (h.foot r (List.mem_append_right _ hr) b hb).1 (fun hb' => hX2 b hb' r hr hb)
  · intro r hr b hb
    rcases List.mem_append.1 hr with hr | hr
    · have := hc.foot r hr b hb
      refine ⟨this.1, ?_⟩
      rcases this.2 with h1 | h1
      · exact .inl (Nat.le_trans h.size h1)
      · exact (hX0 b h1).2
    · have := h.foot r (List.mem_append_right _ hr) b hb
      exact ⟨Nat.lt_of_lt_of_le this.1 hc.size, this.2⟩
  · refine List.pairwise_append.2 ⟨hc.sep, hsep.2.1, fun r hr s hs b hb hb' => ?_⟩
    have h1 := hc.foot r hr b hb
    have h2 := h.foot s (List.mem_append_right _ hs) b hb'
    rcases h1.2 with h3 | h3
    · omega
    · exact hX2 b h3 s hs hb'

/-! ### the judgement -/
abbrev Fw (r : Option Nat) : Fence := { Fence.wide with round := r }

structure Jd where
  P : Program
  r : Option Nat
  N : Nat
  w0 : World
  X : List Nat

abbrev Post := Exit → Env → List Deferred → List Res → Prop

def lift (J : Jd) (Q : Post) : Exit → Act → World → Prop := fun e a w => ∃ E ds L, Rep J.N ds a E ∧ Mem J.w0 J.X L w ∧ Q e E ds L

def HW (J : Jd) (c : Code) (Q : Post) (E : Env) (ds : List Deferred) (L : List Res) : Prop :=
  ∀ a w, Rep J.N ds a E → Mem J.w0 J.X L w → c.wpIn (Fw J.r) 0 J.P (lift J Q) a w

def thenPost (K : Env → List Deferred → List Res → Prop) (Q : Post) : Post := fun e =>
  match e with
  | .normal => K
  | e => Q e

theorem HW.mono {J : Jd} {c : Code} {Q Q' : Post} {E : Env} {ds : List Deferred} {L : List Res} (h : HW J c Q E ds L)
    (hq : ∀ e E ds L, Q e E ds L → Q' e E ds L) : HW J c Q' E ds L := fun a w hr hm =>
  wpIn_mono (h a w hr hm) fun _ _ _ ⟨E', ds', L', h1, h2, h3⟩ => ⟨E', ds', L', h1, h2, hq _ _ _ _ h3⟩

theorem HW.skip {J : Jd} {Q : Post} {E : Env} {ds : List Deferred} {L : List Res} (h : Q .normal E ds L) : HW J .skip Q E ds L :=
  fun _ _ hr hm => wpIn_skip ⟨E, ds, L, hr, hm, h⟩
theorem HW.label {J : Jd} {l : Nat} {Q : Post} {E : Env} {ds : List Deferred} {L : List Res} (h : Q .normal E ds L) : HW J (.label l) Q E ds L :=
  fun _ _ hr hm => wpIn_label ⟨E, ds, L, hr, hm, h⟩
theorem HW.exit {J : Jd} {id : Nat} {Q : Post} {E : Env} {ds : List Deferred} {L : List Res} (h : Q (.exit id) E ds L) : HW J (.exit id) Q E ds L :=
  fun _ _ hr hm => wpIn_exit ⟨E, ds, L, hr, hm, h⟩
theorem HW.ret {J : Jd} {Q : Post} {E : Env} {ds : List Deferred} {L : List Res} (h : Q .ret E ds L) : HW J .ret Q E ds L :=
  fun _ _ hr hm => wpIn_ret ⟨E, ds, L, hr, hm, h⟩

theorem HW.seq {J : Jd} {x y : Code} {Q : Post} {E : Env} {ds : List Deferred} {L : List Res} (h : HW J x (thenPost (HW J y Q) Q) E ds L) :
    HW J (.seq x y) Q E ds L := fun a w hr hm => by
  refine wpIn_seq (wpIn_mono (h a w hr hm) ?_)
  rintro e a' w' ⟨E', ds', L', h1, h2, h3⟩
  cases e with
  | normal => exact h3 a' w' h1 h2
  | exit id => exact ⟨E', ds', L', h1, h2, h3⟩
  | goto l => exact ⟨E', ds', L', h1, h2, h3⟩
  | ret => exact ⟨E', ds', L', h1, h2, h3⟩
  | panic c => exact ⟨E', ds', L', h1, h2, h3⟩
  | outgrown => exact ⟨E', ds', L', h1, h2, h3⟩

theorem HW.cond_true {J : Jd} {c : Operand} {x y : Code} {Q : Post} {E : Env} {ds : List Deferred} {L : List Res} (hc : ev E c = .bool true)
    (h : HW J x Q E ds L) : HW J (.cond c x y) Q E ds L := fun a w hr hm =>
  wpIn_cond_true (by rw [hr.eval]; exact hc) (h a w hr hm)
theorem HW.cond_false {J : Jd} {c : Operand} {x y : Code} {Q : Post} {E : Env} {ds : List Deferred} {L : List Res} (hc : ev E c = .bool false)
    (h : HW J y Q E ds L) : HW J (.cond c x y) Q E ds L := fun a w hr hm =>
  wpIn_cond_false (by rw [hr.eval]; exact hc) (h a w hr hm)
theorem HW.cond {J : Jd} {c : Operand} {x y : Code} {Q : Post} {E : Env} {ds : List Deferred} {L : List Res} (b : Bool) (hc : ev E c = .bool b)
    (ht : b = true → HW J x Q E ds L) (hf : b = false → HW J y Q E ds L) : HW J (.cond c x y) Q E ds L := by
  cases b
  · exact HW.cond_false hc (hf rfl)
  · exact HW.cond_true hc (ht rfl)

def blockPost (id : Nat) (Q : Post) : Post := fun e =>
  match e with
  | .exit id' => if id' = id then Q .normal else Q (.exit id')
  | e => Q e

theorem HW.block {J : Jd} {id : Nat} {c : Code} {Q : Post} {E : Env} {ds : List Deferred} {L : List Res} (h : HW J c (blockPost id Q) E ds L) :
    HW J (.block id c) Q E ds L := fun a w hr hm => by
  refine wpIn_block (wpIn_mono (h a w hr hm) ?_)
  rintro e a' w' ⟨E', ds', L', h1, h2, h3⟩
  cases e with
  | exit id' =>
    simp only [blockPost] at h3
    by_cases hid : id' = id
    · simp only [Exit.inBlock, hid, if_true] at h3 ⊢; exact ⟨E', ds', L', h1, h2, h3⟩
    · simp only [Exit.inBlock, hid, if_false] at h3 ⊢; exact ⟨E', ds', L', h1, h2, h3⟩
  | normal => exact ⟨E', ds', L', h1, h2, h3⟩
  | goto l => exact ⟨E', ds', L', h1, h2, h3⟩
  | ret => exact ⟨E', ds', L', h1, h2, h3⟩
  | panic c => exact ⟨E', ds', L', h1, h2, h3⟩
  | outgrown => exact ⟨E', ds', L', h1, h2, h3⟩

/-- a loop, with a ghost number in place of a measure of the state -/
theorem wpIn_loop_ghost {F : Fence} {n : Nat} {P : Program} {Q : Exit → Act → World → Prop} {c : Code} (R : Nat → Act → World → Prop)
    (round : ∀ k a w, R k a w → c.wpIn F n P (Exit.then (fun a' w' => ∃ k', k' < k ∧ R k' a' w') Q) a w) {k0 : Nat} {a : Act} {w : World} (h0 : R k0 a w) :
    (Code.loop c).wpIn F n P Q a w := by
  intro b k cs hro hb hr
  have key : ∀ j a w, R j a w →
      ∃ e a' w', Q e a' w' ∧ ArrivesIn (Machine.fenced P F) P (lone (b.atR a (.code c :: .inLoop c :: k)) cs w) b k cs e a' w' := by
    intro j
    induction j using Nat.strongRecOn with
    | _ j ih =>
      intro a w hI
      obtain ⟨e, a₁, w₁, hq, harr⟩ := round j a w hI b (.inLoop c :: k) cs hro hb hr
      cases e with
      | normal =>
        obtain ⟨j', hlt, hI₁⟩ := hq
        obtain ⟨e₂, a₂, w₂, hq₂, harr₂⟩ := ih j' hlt a₁ w₁ hI₁
        exact ⟨e₂, a₂, w₂, hq₂, .of_steps (StepsIn.trans harr (.one (fenced_calm hb hr rfl) stepR_inLoop)) harr₂⟩
      | exit id => exact ⟨_, a₁, w₁, hq, .pass (x := .inLoop c) rfl (fun _ _ => .inl (by simp)) harr⟩
      | goto l => exact ⟨_, a₁, w₁, hq, .pass (x := .inLoop c) rfl (fun _ _ => .inl (by simp)) harr⟩
      | ret => exact ⟨_, a₁, w₁, hq, .pass (x := .inLoop c) rfl (fun _ _ => .inl (by simp)) harr⟩
      | panic ch => exact ⟨_, a₁, w₁, hq, .pass (x := .inLoop c) rfl (fun _ _ => .inl (by simp)) harr⟩
      | outgrown => exact ⟨_, a₁, w₁, hq, .pass (x := .inLoop c) rfl (fun _ _ => .inl (by simp)) harr⟩
  obtain ⟨e, a', w', hq, harr⟩ := key _ a w h0
  exact ⟨e, a', w', hq, .of_steps (.one (fenced_calm hb hr rfl) stepR_loop) harr⟩

/-- a loop: a ghost state, what holds at each round's head, a measure of the ghost state -/
theorem HW.loop {G : Type} {J : Jd} {c : Code} {Q : Post} {E : Env} {ds : List Deferred} {L : List Res} (Inv : G → Env → List Deferred → List Res → Prop) (μ : G → Nat) (g0 : G)
    (h0 : Inv g0 E ds L) (h : ∀ g E ds L, Inv g E ds L → HW J c (thenPost (fun E' ds' L' => ∃ g', μ g' < μ g ∧ Inv g' E' ds' L') Q) E ds L) :
    HW J (.loop c) Q E ds L := fun a w hr hm => by
  refine wpIn_loop_ghost (fun k a w => ∃ g E ds L, μ g = k ∧ Rep J.N ds a E ∧ Mem J.w0 J.X L w ∧ Inv g E ds L) ?_ ⟨g0, E, ds, L, rfl, hr, hm, h0⟩
  rintro k a w ⟨g, E, ds, L, rfl, hr, hm, hi⟩
  refine wpIn_mono (h g E ds L hi a w hr hm) ?_
  rintro e a' w' ⟨E', ds', L', h1, h2, h3⟩
  cases e with
  | normal => obtain ⟨g', hlt, hi'⟩ := h3; exact ⟨_, hlt, g', E', ds', L', rfl, h1, h2, hi'⟩
  | exit id => exact ⟨E', ds', L', h1, h2, h3⟩
  | goto l => exact ⟨E', ds', L', h1, h2, h3⟩
  | ret => exact ⟨E', ds', L', h1, h2, h3⟩
  | panic c => exact ⟨E', ds', L', h1, h2, h3⟩
  | outgrown => exact ⟨E', ds', L', h1, h2, h3⟩

/-! ### regions -/
def yieldedE (ops : Array Oper) (E : Env) (j : Nat) : Option Bool :=
  match (ops[j]?).bind (·.dst) with
  | some t => match E t with
    | .bool b => some b
    | _ => none
  | none => none

def wantE (ops : Array Oper) (o : Oper) (E : Env) : Bool :=
  match o.guard with
  | none => true
  | some (j, want) => yieldedE ops E j == some want

theorem Rep.yielded {N : Nat} {ds : List Deferred} {a : Act} {E : Env} (h : Rep N ds a E) (ops : Array Oper) : yielded ops a.tmps = yieldedE ops E := by
  funext j
  unfold Go.yielded yieldedE
  cases hb : (ops[j]?).bind (·.dst) with
  | none => rfl
  | some t =>
    have hg := h.get t
    simp only [Option.bind_some]
    rcases Nat.lt_or_ge t a.tmps.size with hlt | hge
    · have : a.tmps[t]? = some (E t) := by rw [← hg]; simp [hlt]
      rw [this]
      cases E t <;> rfl
    · have h1 : a.tmps[t]? = none := by simp [hge]
      have h2 : E t = undef := by rw [← hg]; simp [h1]
      rw [h1, h2]; rfl

theorem Rep.wanted {N : Nat} {ds : List Deferred} {a : Act} {E : Env} (h : Rep N ds a E) (ops : Array Oper) (o : Oper) :
    Region.wanted o (Go.yielded ops a.tmps) = wantE ops o E := by
  unfold Region.wanted wantE
  rw [h.yielded ops]
  cases o.guard <;> rfl

/-- an operation that only reads: its value, whatever the world is (within what is known of it) -/
def St (J : Jd) (o : Oper) (E : Env) (L : List Res) (v : Value) : Prop :=
  ∀ w, Mem J.w0 J.X L w → (o.semAt J.r (ev E)).run J.P w = .ok (.value v) w

def Sub (J : Jd) (L L' : List Res) : Prop := ∀ w, Mem J.w0 J.X L' w → Mem J.w0 J.X L w
theorem Sub.refl (J : Jd) (L : List Res) : Sub J L L := fun _ h => h
theorem Sub.cons (J : Jd) (r : Res) (L : List Res) : Sub J L (r :: L) := fun _ h => h.sub (List.sublist_cons_self _ _)
theorem Sub.app (J : Jd) (M L : List Res) : Sub J L (M ++ L) := fun _ h => h.sub (List.sublist_append_right _ _)

/-- what an operation that acts comes to; Rf: what else is known and is kept -/
def EffR (J : Jd) (Rf : List Res) (K : Value → List Res → Prop) : Result Next → Prop
  | .ok (.value v) w => ∃ L, Mem J.w0 J.X (L ++ Rf) w ∧ K v L
  | .ok .skip w => ∃ L, Mem J.w0 J.X (L ++ Rf) w ∧ K undef L
  | .ok (.enter f args) w => Calls J.P f args w fun e w' => ∃ v L, e = .returned v ∧ Mem J.w0 J.X (L ++ Rf) w' ∧ K v L
  | .ok (.round l f tmps assign body) w => RoundIn (Fw J.r) 0 J.P l f tmps assign body w fun e w' => ∃ v L, e = .returned v ∧ Mem J.w0 J.X (L ++ Rf) w' ∧ K v L
  | _ => False

theorem EffR.mono {J : Jd} {Rf : List Res} {K K' : Value → List Res → Prop} (hk : ∀ v L, K v L → K' v L) {r : Result Next} (h : EffR J Rf K r) : EffR J Rf K' r := by
  cases r with
  | halt x w => exact h.elim
  | ok x w =>
    cases x
    case value v => obtain ⟨L, h1, h2⟩ := h; exact ⟨L, h1, hk _ _ h2⟩
    case skip => obtain ⟨L, h1, h2⟩ := h; exact ⟨L, h1, hk _ _ h2⟩
    case enter f args => exact Calls.mono h fun e w' ⟨v, L, h1, h2, h3⟩ => ⟨v, L, h1, h2, hk _ _ h3⟩
    case round l f tmps assign body => exact RoundIn.mono h fun e w' ⟨v, L, h1, h2, h3⟩ => ⟨v, L, h1, h2, hk _ _ h3⟩
    all_goals exact h.elim

theorem callsIn_fw {r : Option Nat} {n : Nat} {P : Program} {f : FuncId} {args : Array Value} {w : World} {R : Ending → World → Prop} :
    CallsIn (Fw r) n P f args w R ↔ Calls P f args w R := callsIn_wide (n := n)

/-- what an operation that acts comes to, for the machine -/
theorem EffR.upon {J : Jd} {Rf : List Res} {K : Value → List Res → Prop} {o : Oper} {a : Act} {E : Env} {ds : List Deferred} {Q : Exit → Act → World → Prop} (hr : Rep J.N ds a E)
    (hd : ∀ d, o.dst = some d → d < J.N) {r : Result Next} (h : EffR J Rf K r) :
    o.uponIn (Fw J.r) 0 J.P a (fun a' w' => ∃ v L, Rep J.N ds a' (upd E o.dst v) ∧ Mem J.w0 J.X (L ++ Rf) w' ∧ K v L) Q r := by
  cases r with
  | halt x w => exact h.elim
  | ok x w =>
    cases x
    case value v => obtain ⟨L, h1, h2⟩ := h; exact ⟨v, L, hr.put _ _ hd, h1, h2⟩
    case skip => obtain ⟨L, h1, h2⟩ := h; exact ⟨_, L, hr.put _ _ hd, h1, h2⟩
    case enter f args => exact ⟨fun hh => by simp [Fence.wide] at hh, callsIn_fw.2 (Calls.mono h fun e w' ⟨v, L, h1, h2, h3⟩ => by subst h1; exact ⟨v, L, hr.put _ _ hd, h2, h3⟩)⟩
    case round l f tmps assign body => exact ⟨fun hh => by simp [Fence.wide] at hh, RoundIn.mono h fun e w' ⟨v, L, h1, h2, h3⟩ => by subst h1; exact ⟨v, L, hr.put _ _ hd, h2, h3⟩⟩
    all_goals exact h.elim

def Res.blk (b : Nat) (cs : Array Value) (t : TypeId) : Res where
  foot := [b]
  holds := fun w => w.heap[b]? = some (.cells cs t (0, 0))
  loc := fun w w' h hw => (h b (List.mem_singleton.2 rfl)).trans hw

/-- a new block -/
theorem Mem.alloc {w0 w : World} {X : List Nat} {L : List Res} (h : Mem w0 X L w) (cs : Array Value) (t : TypeId) :
    Mem w0 X (Res.blk w.heap.size cs t :: L) (w.alloc (.cells cs t (0, 0))) := by
  have hnew : (w.alloc (.cells cs t (0, 0))).heap[w.heap.size]? = some (.cells cs t (0, 0)) := World.alloc_heap_new w _
  have hold : ∀ k, k < w.heap.size → (w.alloc (.cells cs t (0, 0))).heap[k]? = w.heap[k]? := fun k hk => Below.heap_alloc _ _ _ hk
  refine ⟨h.os, h.tape, h.dr, h.output, by simp; exact Nat.le_succ_of_le h.size, fun b hb hX => (hold b (Nat.lt_of_lt_of_le hb h.size)).trans (h.old b hb hX), ?_, ?_, ?_⟩
  · intro r hr
    rcases List.mem_cons.1 hr with rfl | hr
    · exact hnew
    · exact r.loc w _ (fun b hb => hold b (h.foot r hr b hb).1) (h.res r hr)
  · intro r hr b hb
    rcases List.mem_cons.1 hr with rfl | hr
    · obtain rfl := List.mem_singleton.1 hb
      exact ⟨by simp, .inl h.size⟩
    · have := h.foot r hr b hb
      exact ⟨by simp; omega, this.2⟩
  · refine List.pairwise_cons.2 ⟨fun s hs b hb hb' => ?_, h.sep⟩
    obtain rfl := List.mem_singleton.1 hb
    exact Nat.lt_irrefl _ (h.foot s hs _ hb').1

inductive Kind where
  | st | ef | al | so
  deriving DecidableEq

/-- the operations of a region in a planned order. st: an operation that only reads; so: one that only reads what nobody turns; ef: one that acts; al: a new variable. dest: none: the order is as written; some D: any order, and the operations of D may take away what is known -/
def Plan (J : Jd) (ops : Array Oper) (dest : Option (List Nat)) (Q : Post) : List (Nat × Kind) → Env → List Deferred → List Res → Prop
  | [], E, ds, L => Q .normal E ds L
  | (i, .st) :: rest, E, ds, L => ∃ o, ops[i]? = some o ∧
      ((wantE ops o E = true ∧ ∃ v, St J o E L v ∧ Plan J ops dest Q rest (upd E o.dst v) ds L) ∨
       (wantE ops o E = false ∧ Plan J ops dest Q rest (upd E o.dst undef) ds L))
  | (i, .so) :: rest, E, ds, L => ∃ o, ops[i]? = some o ∧
      ((wantE ops o E = true ∧ ∃ v, St J o E [] v ∧ Plan J ops dest Q rest (upd E o.dst v) ds L) ∨
       (wantE ops o E = false ∧ Plan J ops dest Q rest (upd E o.dst undef) ds L))
  | (i, .ef) :: rest, E, ds, L => ∃ o, ops[i]? = some o ∧
      ((wantE ops o E = true ∧ ∀ Rf w, Mem J.w0 J.X (L ++ Rf) w →
          EffR J Rf (fun v L' => (∀ D, dest = some D → i ∉ D → ∀ Rf, Sub J (L ++ Rf) (L' ++ Rf)) ∧ Plan J ops dest Q rest (upd E o.dst v) ds L') ((o.semAt J.r (ev E)).run J.P w)) ∨
       (wantE ops o E = false ∧ Plan J ops dest Q rest (upd E o.dst undef) ds L))
  | (i, .al) :: rest, E, ds, L => ∃ o t z, ops[i]? = some o ∧ o.op = .alloc t ∧ o.guard = none ∧ (∀ w, (zeroValue t).run J.P w = .ok z w) ∧
      ∀ b, ∃ L', (Res.blk b z.cells t :: L).Perm L' ∧ Plan J ops dest Q rest (upd E o.dst (.pointer (some ⟨b, 0, none⟩))) ds L'

def fits (N : Nat) (ops : Array Oper) : Bool := ops.toList.all fun o => match o.dst with | some d => Nat.blt d N | none => true

theorem fits_spec {N : Nat} {ops : Array Oper} (h : fits N ops = true) {i : Nat} {o : Oper} (hi : ops[i]? = some o) : ∀ d, o.dst = some d → d < N := by
  intro d hd
  have := List.all_eq_true.1 h o (Array.mem_toList_iff.2 (Array.mem_of_getElem? hi))
  rw [hd] at this
  simpa [Nat.blt_eq] using this

theorem Oper.semAt_congr {o : Oper} {ρ ρ' : Operand → Value} (r : Option Nat) (h : ρ = ρ') : o.semAt r ρ = o.semAt r ρ' := by rw [h]

theorem run_alloc {P : Program} {t : TypeId} {z : Value} (hz : ∀ w, (zeroValue t).run P w = .ok z w) (w : World) :
    (Instr.alloc t true (.tuple #[])).run P w = .ok (.pointer (some ⟨w.heap.size, 0, none⟩)) (w.alloc (.cells z.cells t (0, 0))) := by
  unfold Instr.alloc
  simp only [Sem.run_bind, hz, Result.andThen]
  rfl

/-- a new variable is a new block -/
theorem al_upon {J : Jd} {o : Oper} {t : TypeId} {z : Value} (ho : o.op = .alloc t) (hz : ∀ w, (zeroValue t).run J.P w = .ok z w) (ρ : Operand → Value) (w : World) :
    (o.semAt J.r ρ).run J.P w = .ok (.value (.pointer (some ⟨w.heap.size, 0, none⟩))) (w.alloc (.cells z.cells t (0, 0))) := by
  rw [Oper.semAt_eq _ _ _ (by rw [ho]; intro c hc; cases hc)]
  unfold execOp
  rw [ho]
  simp only [Sem.run_bind, run_alloc hz, Result.andThen]
  rfl

/-- one planned operation is one of the machine's -/
theorem plan_op {J : Jd} {ops : Array Oper} {dest : Option (List Nat)} {Q : Post} {i : Nat} {b : Kind} {rest : List (Nat × Kind)} {E : Env} {ds : List Deferred} {L : List Res}
    (hfit : fits J.N ops = true) (h : Plan J ops dest Q ((i, b) :: rest) E ds L) {a : Act} {w : World} (hr : Rep J.N ds a E) (hm : Mem J.w0 J.X L w) :
    wpOpIn (Fw J.r) 0 J.P ops (lift J Q) i (fun a' w' => ∃ E' ds' L', Rep J.N ds' a' E' ∧ Mem J.w0 J.X L' w' ∧ (∀ D, dest = some D → i ∉ D → Sub J L L') ∧ Plan J ops dest Q rest E' ds' L') a w := by
  unfold wpOpIn
  cases b with
  | st =>
    obtain ⟨o, ho, h⟩ := h
    simp only [ho]
    rw [hr.wanted ops o]
    rcases h with ⟨hw, v, hst, hp⟩ | ⟨hw, hp⟩
    · simp only [hw, if_true, Oper.wpIn]
      refine ⟨fun _ _ => trivial, ?_⟩
      rw [Oper.semAt_congr J.r hr.eval, hst w hm]
      exact ⟨_, _, _, hr.put _ _ (fits_spec hfit ho), hm, fun _ _ _ => Sub.refl _ _, hp⟩
    · simp only [hw, Bool.false_eq_true, if_false]
      exact ⟨fun _ _ => trivial, _, _, _, hr.put _ _ (fits_spec hfit ho), hm, fun _ _ _ => Sub.refl _ _, hp⟩
  | so =>
    obtain ⟨o, ho, h⟩ := h
    simp only [ho]
    rw [hr.wanted ops o]
    rcases h with ⟨hw, v, hst, hp⟩ | ⟨hw, hp⟩
    · simp only [hw, if_true, Oper.wpIn]
      refine ⟨fun _ _ => trivial, ?_⟩
      rw [Oper.semAt_congr J.r hr.eval, hst w (hm.sub (List.nil_sublist _))]
      exact ⟨_, _, _, hr.put _ _ (fits_spec hfit ho), hm, fun _ _ _ => Sub.refl _ _, hp⟩
    · simp only [hw, Bool.false_eq_true, if_false]
      exact ⟨fun _ _ => trivial, _, _, _, hr.put _ _ (fits_spec hfit ho), hm, fun _ _ _ => Sub.refl _ _, hp⟩
  | ef =>
    obtain ⟨o, ho, h⟩ := h
    simp only [ho]
    rw [hr.wanted ops o]
    rcases h with ⟨hw, hst⟩ | ⟨hw, hp⟩
    · simp only [hw, if_true]
      refine Oper.wpIn_mono (K := fun a' w' => ∃ v L', Rep J.N ds a' (upd E o.dst v) ∧ Mem J.w0 J.X (L' ++ []) w' ∧ _) ?_ ⟨fun _ _ => trivial, by
        rw [Oper.semAt_congr J.r hr.eval]
        exact EffR.upon hr (fits_spec hfit ho) (hst [] w (by rw [List.append_nil]; exact hm))⟩
      rintro a' w' ⟨v, L', h1, h2, h3, h4⟩
      rw [List.append_nil] at h2
      refine ⟨_, ds, L', h1, h2, fun D hD hi => ?_, h4⟩
      have := h3 D hD hi []
      rwa [List.append_nil, List.append_nil] at this
    · simp only [hw, Bool.false_eq_true, if_false]
      exact ⟨fun _ _ => trivial, _, _, _, hr.put _ _ (fits_spec hfit ho), hm, fun _ _ _ => Sub.refl _ _, hp⟩
  | al =>
    obtain ⟨o, t, z, ho, hop, hg, hz, h⟩ := h
    simp only [ho]
    rw [hr.wanted ops o]
    have hw : wantE ops o E = true := by unfold wantE; rw [hg]
    simp only [hw, if_true, Oper.wpIn]
    refine ⟨fun _ _ => trivial, ?_⟩
    rw [Oper.semAt_congr J.r hr.eval, al_upon hop hz]
    obtain ⟨L', hperm, h⟩ := h w.heap.size
    exact ⟨_, _, L', hr.put _ _ (fits_spec hfit ho), (hm.alloc _ _).perm hperm, fun _ _ _ w' hm' => (hm'.perm hperm.symm).sub (List.sublist_cons_self _ _), h⟩

theorem plan_ops {J : Jd} {ops : Array Oper} {dest : Option (List Nat)} {Q : Post} (hfit : fits J.N ops = true) : ∀ (π : List (Nat × Kind)) (E : Env) (ds : List Deferred) (L : List Res),
    Plan J ops dest Q π E ds L → ∀ a w, Rep J.N ds a E → Mem J.w0 J.X L w → wpOpsIn (Fw J.r) 0 J.P ops (lift J Q) (π.map (·.1)) a w := by
  intro π
  induction π with
  | nil => exact fun E ds L h a w hr hm => ⟨E, ds, L, hr, hm, h⟩
  | cons x π ih =>
    intro E ds L h a w hr hm
    obtain ⟨i, b⟩ := x
    rw [List.map_cons, wpOpsIn_cons]
    refine wpOpIn_mono ?_ (plan_op hfit h hr hm)
    rintro a' w' ⟨E', ds', L', h1, h2, _, h3⟩
    exact ih E' ds' L' h3 a' w' h1 h2

/-- a region whose order is as written -/
theorem HW.region {J : Jd} {id : Nat} {ops : Array Oper} {Q : Post} {E : Env} {ds : List Deferred} {L : List Res} (π : List (Nat × Kind))
    (hfit : fits J.N ops = true) (hπ : π.map (·.1) = List.range ops.size) (h : Plan J ops none Q π E ds L) : HW J (.region id ops false) Q E ds L := fun a w hr hm =>
  wpIn_region (by rw [← hπ]; exact plan_ops hfit π E ds L h a w hr hm)

end Go.Proofs.Ytjmklbkcpjmcaaa.H
