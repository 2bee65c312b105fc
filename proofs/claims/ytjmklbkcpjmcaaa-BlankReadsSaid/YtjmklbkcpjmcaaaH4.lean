/-
  The frame of these proofs, fifth part: loops with named slots, slices that are read, slices of one's own.
-/
import Derived.Test.YtjmklbkcpjmcaaaH3
namespace Go.Proofs.Ytjmklbkcpjmcaaa.H
open Go Go.RowKit
set_option linter.unusedVariables false
set_option linter.unusedSimpArgs false

theorem HW.sub {J : Jd} {c : Code} {Q : Post} {E : Env} {ds : List Deferred} {L L' : List Res} (h : HW J c Q E ds L) (hs : L.Sublist L') : HW J c Q E ds L' := fun a w hr hm => h a w hr (hm.sub hs)

/-- what follows from memory may be used -/
theorem HW.pure {J : Jd} {c : Code} {Q : Post} {E : Env} {ds : List Deferred} {L : List Res} {p : Prop} (hp : ∀ w, Mem J.w0 J.X L w → p) (h : p → HW J c Q E ds L) : HW J c Q E ds L :=
  fun a w hr hm => h (hp w hm) a w hr hm

def havoc (E : Env) (M : List Nat) (F : Env) : Env := fun t => bif M.any (Nat.beq t) then F t else E t
def updL (E : Env) : List (Nat × Value) → Env
  | [] => E
  | (d, v) :: l => upd (updL E l) (some d) v

def Agree (M : List Nat) (E E0 : Env) : Prop := ∀ t, M.any (Nat.beq t) = false → E t = E0 t

theorem Agree.refl (M : List Nat) (E : Env) : Agree M E E := fun _ _ => rfl
theorem Agree.havoc (M : List Nat) (E F : Env) : Agree M (havoc E M F) E := fun t h => by simp [H.havoc, h]
theorem Agree.upd {M : List Nat} {E E0 : Env} {d : Nat} {v : Value} (hd : M.any (Nat.beq d) = true) (h : Agree M E E0) : Agree M (upd E (some d) v) E0 := fun t ht => by
  rw [upd_ne E v (fun e => by subst e; rw [hd] at ht; cases ht)]; exact h t ht
theorem Agree.updN {M : List Nat} {E E0 : Env} {v : Value} (h : Agree M E E0) : Agree M (H.upd E none v) E0 := h
theorem Agree.updL {M : List Nat} {E E0 : Env} : ∀ {l : List (Nat × Value)}, (l.all fun p => M.any (Nat.beq p.1)) = true → Agree M E E0 → Agree M (updL E l) E0
  | [], _, h => h
  | (d, v) :: l, hl, h => by
    simp only [List.all_cons, Bool.and_eq_true] at hl
    exact Agree.upd hl.1 (Agree.updL hl.2 h)

theorem Agree.havoc2 {M M2 : List Nat} {E E0 F : Env} (hs : (M2.all fun t => M.any (Nat.beq t)) = true) (h : Agree M E E0) : Agree M (H.havoc E M2 F) E0 := fun t ht => by
  have : M2.any (Nat.beq t) = false := by
    rw [Bool.eq_false_iff]
    intro hc
    obtain ⟨x, hx, he⟩ := List.any_eq_true.1 hc
    have := List.all_eq_true.1 hs x hx
    rw [← Nat.eq_of_beq_eq_true he, ht] at this
    cases this
  simp [H.havoc, this]
  exact h t ht

def LiveOk (E : Env) : List (Nat × Value) → Prop
  | [] => True
  | (d, v) :: l => E d = v ∧ LiveOk E l

theorem loopEnv {M : List Nat} {E E0 : Env} (h : Agree M E E0) : ∀ (live : List (Nat × Value)), LiveOk E live → E = updL (havoc E0 M E) live
  | [], _ => by
    funext t
    simp only [updL, havoc]
    cases ht : M.any (Nat.beq t) with
    | true => rfl
    | false => exact h t ht
  | (d, v) :: l, hl => by
    funext t
    simp only [updL]
    by_cases e : t = d
    · subst e; rw [upd_same]; exact hl.1
    · rw [upd_ne _ _ e, ← loopEnv h l hl.2]

/-- what is known may be said otherwise -/
def Ent (J : Jd) (L L' : List Res) : Prop := ∀ w, Mem J.w0 J.X L w → Mem J.w0 J.X L' w
theorem Ent.sub {J : Jd} {L L' : List Res} (h : L'.Sublist L) : Ent J L L' := fun _ hm => hm.sub h
theorem Ent.refl (J : Jd) (L : List Res) : Ent J L L := fun _ h => h
theorem Ent.trans {J : Jd} {L L' L'' : List Res} (h : Ent J L L') (k : Ent J L' L'') : Ent J L L'' := fun w hm => k w (h w hm)
theorem HW.ent {J : Jd} {c : Code} {Q : Post} {E : Env} {ds : List Deferred} {L L' : List Res} (h : HW J c Q E ds L) (hs : Ent J L' L) : HW J c Q E ds L' := fun a w hr hm => h a w hr (hs w hm)

/-- what a round owes -/
def Round (J : Jd) {G : Type} (M : List Nat) (live : G → List (Nat × Value)) (Lg : G → List Res) (ok : G → Prop) (μ : G → Nat) (g : G) (E0 : Env) (ds : List Deferred) (E' : Env) (ds' : List Deferred) (L' : List Res) : Prop :=
  ∃ g', μ g' < μ g ∧ ok g' ∧ ds' = ds ∧ Ent J L' (Lg g') ∧ Agree M E' E0 ∧ LiveOk E' (live g')

/-- a loop. M: the slots that the body writes; live: those that are read later, by a ghost state -/
theorem HW.loopL {G : Type} {J : Jd} {c : Code} {Q : Post} {E : Env} {ds : List Deferred} {L : List Res} (M : List Nat) (live : G → List (Nat × Value)) (Lg : G → List Res) (ok : G → Prop) (μ : G → Nat) (g0 : G)
    (h0 : LiveOk E (live g0)) (hL0 : Ent J L (Lg g0)) (hok : ok g0)
    (h : ∀ g F, ok g → HW J c (thenPost (Round J M live Lg ok μ g E ds) Q) (updL (havoc E M F) (live g)) ds (Lg g)) : HW J (.loop c) Q E ds L := by
  refine HW.loop (fun g E' ds' L' => ok g ∧ ds' = ds ∧ Ent J L' (Lg g) ∧ ∃ F, E' = updL (havoc E M F) (live g)) μ g0 ⟨hok, rfl, hL0, E, loopEnv (Agree.refl M E) _ h0⟩ ?_
  rintro g E' ds' L' ⟨h1, rfl, h3, F, rfl⟩
  refine HW.mono (HW.ent (h g F h1) h3) ?_
  intro e E2 ds2 L2 hq
  cases e with
  | normal =>
    obtain ⟨g', h4, h5, h6, h7, h8, h9⟩ := hq
    exact ⟨g', h4, h5, h6, h7, E2, loopEnv h8 _ h9⟩
  | exit id => exact hq
  | goto l => exact hq
  | ret => exact hq
  | panic c => exact hq
  | outgrown => exact hq

/-- a loop that keeps its resources -/
theorem HW.loopC {G : Type} {J : Jd} {c : Code} {Q : Post} {E : Env} {ds : List Deferred} {L : List Res} (M : List Nat) (live : G → List (Nat × Value)) (ok : G → Prop) (μ : G → Nat) (g0 : G)
    (h0 : LiveOk E (live g0)) (hok : ok g0)
    (h : ∀ g F, ok g → HW J c (thenPost (Round J M live (fun _ => L) ok μ g E ds) Q) (updL (havoc E M F) (live g)) ds L) : HW J (.loop c) Q E ds L :=
  HW.loopL M live (fun _ => L) ok μ g0 h0 (Ent.refl J L) hok h

/-- a point between two pieces of code, at which what is known is put anew -/
theorem HW.mid {G : Type} {J : Jd} {x y : Code} {Q : Post} {E : Env} {ds : List Deferred} {L : List Res} (M : List Nat) (live : G → List (Nat × Value)) (Lg : G → List Res) (ok : G → Prop)
    (hx : HW J x (thenPost (fun E' ds' L' => ∃ g, ok g ∧ ds' = ds ∧ Ent J L' (Lg g) ∧ Agree M E' E ∧ LiveOk E' (live g)) Q) E ds L)
    (hy : ∀ g F, ok g → HW J y Q (updL (havoc E M F) (live g)) ds (Lg g)) : HW J (.seq x y) Q E ds L := by
  refine HW.seq (HW.mono hx ?_)
  intro e E2 ds2 L2 hq
  cases e with
  | normal =>
    obtain ⟨g, h1, rfl, h3, h4, h5⟩ := hq
    have := HW.ent (hy g E2 h1) h3
    rw [← loopEnv h4 _ h5] at this
    exact this
  | exit id => exact hq
  | goto l => exact hq
  | ret => exact hq
  | panic c => exact hq
  | outgrown => exact hq

/-! slices that are read -/
/-- the slice at A holds xs, each element as k cells -/
def Rd {α : Type} (enc : α → List Value) (k : Nat) (w : World) (A : Option Addr) (xs : List α) : Prop :=
  ∀ i (h : i < xs.length), ∃ a, A = some a ∧ Lies w (a.add (i * k)) (enc xs[i])

theorem Lies.keep {w w' : World} {a : Addr} {vs : List Value} (h : Lies w a vs) (hk : ∀ b, b < w.heap.size → b = a.block → w'.heap[b]? = w.heap[b]?) : Lies w' a vs := fun j u hu => by
  have h1 := h j u hu
  have hb : (a.add j).block = a.block := by unfold Addr.add; split <;> rfl
  have hlt : (a.add j).block < w.heap.size := World.block_lt_of_cell? _ _ h1
  rw [← h1]
  exact World.cell?_of_block (hk _ hlt hb)

theorem Lies.mem {w0 w : World} {L : List Res} {a : Addr} {vs : List Value} (h : Lies w0 a vs) (hm : Mem w0 [] L w) : Lies w a vs := h.keep fun b hb _ => hm.old b hb (by simp)

theorem Rd.mem {α : Type} {enc : α → List Value} {k : Nat} {w0 w : World} {L : List Res} {A : Option Addr} {xs : List α} (h : Rd enc k w0 A xs) (hm : Mem w0 [] L w) : Rd enc k w A xs := fun i hi =>
  let ⟨a, e, hl⟩ := h i hi; ⟨a, e, hl.mem hm⟩

theorem Rd.nil {α : Type} {enc : α → List Value} {k : Nat} {w : World} {A : Option Addr} : Rd enc k w A ([] : List α) := fun i hi => absurd hi (Nat.not_lt_zero _)

/-- an element of a slice that came in -/
theorem Sees.rd {J : Jd} {L : List Res} {α : Type} {enc : α → List Value} {k : Nat} {a : Addr} {xs : List α} (h : Rd enc k J.w0 (some a) xs) (hX : J.X = []) (i : Nat) (hi : i < xs.length) : Sees J L (a.add (i * k)) (enc xs[i]) := by
  obtain ⟨a', e, hl⟩ := h i hi
  obtain rfl : a = a' := by injection e
  exact Sees.old hl (by rw [hX]; simp)

section
variable {J : Jd} {ops : Array Oper} {dest : Option (List Nat)} {Q : Post} {i : Nat} {rest : List (Nat × Kind)} {E : Env} {ds : List Deferred} {L : List Res}
variable {d : Option Nat} {ty : TypeId} {pos : String} {aft : Array Edge} {g : Option (Nat × Bool)}

/-- the address of an element, by its number -/
theorem Plan.indexN {st e : TypeId} {x y : Operand} {A : Option Addr} {ad : Addr} {n c : Nat} {kd : IntKind} {j : Int} {sz : Nat} (m : Nat) (ho : ops[i]? = some ⟨d, .indexAddr st x y, ty, pos, aft, g⟩)
    (hg : wantE ops ⟨d, .indexAddr st x y, ty, pos, aft, g⟩ E = true) (hs : J.P.underlying st = some (.slice e)) (hsz : ∀ w, (sizeOf e).run J.P w = .ok sz w)
    (hx : ev E x = .slice A n c) (hA : A = some ad) (hy : ev E y = .int kd j) (hj : j = (m : Int)) (hm : m < n)
    (k : Plan J ops dest Q rest (upd E d (.pointer (some (ad.add (m * sz))))) ds L) : Plan J ops dest Q ((i, .st) :: rest) E ds L := by
  subst hA hj
  exact Plan.indexAddr ho hg hs hsz hx hy ⟨by omega, by omega⟩ (by simpa using k)

end

end Go.Proofs.Ytjmklbkcpjmcaaa.H
