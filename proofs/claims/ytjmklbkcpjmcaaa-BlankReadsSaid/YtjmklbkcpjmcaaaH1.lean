/-
  The frame of these proofs, second part: a region that draws its order is walked once, in a planned order.
-/
import Derived.Test.YtjmklbkcpjmcaaaH0
namespace Go.Proofs.Ytjmklbkcpjmcaaa.H
open Go Go.RowKit
set_option linter.unusedVariables false
set_option linter.unusedSimpArgs false

def QN (J : Jd) (Q : Post) (a : Act) (L : List Res) : Prop := ∃ E ds, Rep J.N ds a E ∧ Q .normal E ds L

def AnyM (J : Jd) (ops : Array Oper) (D : List Nat) (Q : Post) : Nat → Array Bool → Act → World → List Res → Prop
  | 0, listed, a, w, L => Region.ready .any ops listed = [] ∧ QN J Q a L
  | fuel + 1, listed, a, w, L => (Region.ready .any ops listed = [] → QN J Q a L) ∧
      ∀ i ∈ Region.ready .any ops listed, wpOpIn (Fw J.r) 0 J.P ops (lift J Q) i
        (fun a' w' => ∃ L', Mem J.w0 J.X L' w' ∧ (i ∉ D → Sub J L L') ∧ AnyM J ops D Q fuel (listed.setIfInBounds i true) a' w' L') a w

theorem any_sound {J : Jd} {ops : Array Oper} {D : List Nat} {Q : Post} : ∀ (fuel : Nat) (listed : Array Bool) (a : Act) (w : World) (L : List Res),
    Mem J.w0 J.X L w → AnyM J ops D Q fuel listed a w L → wpAnyIn (Fw J.r) 0 J.P .any ops (lift J Q) fuel listed a w := by
  intro fuel
  induction fuel with
  | zero =>
    intro listed a w L hm h
    obtain ⟨h0, E, ds, hr, hq⟩ := h
    exact ⟨h0, E, ds, L, hr, hm, hq⟩
  | succ fuel ih =>
    intro listed a w L hm h
    refine ⟨fun h0 => ?_, fun i hi => wpOpIn_mono ?_ (h.2 i hi)⟩
    · obtain ⟨E, ds, hr, hq⟩ := h.1 h0
      exact ⟨E, ds, L, hr, hm, hq⟩
    · rintro a' w' ⟨L', hm', _, h'⟩
      exact ih _ a' w' L' hm' h'

/-- what a reading operation gives at an activation -/
def YS (J : Jd) (ops : Array Oper) (o : Oper) (v : Value) (a : Act) (L : List Res) : Prop :=
  (Region.wanted o (yielded ops a.tmps) = true ∧ ∀ w, Mem J.w0 J.X L w → (execOp a.eval o).run J.P w = .ok (.value v) w) ∨
  (Region.wanted o (yielded ops a.tmps) = false ∧ v = undef)

def plainOps (ops : Array Oper) : Bool := ops.toList.all fun o => match o.op with | .select .. => false | .defer .. => false | _ => true

theorem plainOps_sel {ops : Array Oper} (h : plainOps ops = true) {j : Nat} {o : Oper} (hj : ops[j]? = some o) : (∀ cs b, o.op ≠ .select cs b) ∧ ∀ c, o.op ≠ .defer c := by
  have := List.all_eq_true.1 h o (Array.mem_toList_iff.2 (Array.mem_of_getElem? hj))
  constructor
  · intro cs b e; rw [e] at this; simp at this
  · intro c e; rw [e] at this; simp at this

theorem wpOpIn_put_any {F : Fence} {n : Nat} {P : Program} {ops : Array Oper} {Q : Exit → Act → World → Prop} {j : Nat} {oi oj : Oper} {v : Value} (hj : ops[j]? = some oj) (hap : oi.apart ops oj = true)
    (hsi : ∀ cs b, oi.op ≠ .select cs b) (hsj : ∀ cs b, oj.op ≠ .select cs b) (hdj : ∀ c, oj.op ≠ .defer c)
    (hQ : ∀ c a w, Q (.panic c) (a.put oi.dst v) w → Q (.panic c) a w) {K : Act → World → Prop} {a : Act} {w : World}
    (h : wpOpIn F n P ops Q j K (a.put oi.dst v) w) :
    wpOpIn F n P ops Q j (fun a' w' => (execOp a'.eval oi = execOp a.eval oi ∧ Region.wanted oi (yielded ops a'.tmps) = Region.wanted oi (yielded ops a.tmps)) ∧ K (a'.put oi.dst v) w') a w := by
  obtain ⟨h1, h2, h3⟩ := Oper.apart_spec hap
  have keep : ∀ u, execOp (a.put oj.dst u).eval oi = execOp a.eval oi ∧ Region.wanted oi (yielded ops (a.put oj.dst u).tmps) = Region.wanted oi (yielded ops a.tmps) := fun u =>
    ⟨execOp_put oi hsi a oj.dst u h3, wanted_put oi a oj.dst u h3⟩
  unfold wpOpIn at *
  simp only [hj] at *
  rw [wanted_put oj a oi.dst v h1, about_put oj w a oi.dst v h1] at h
  split
  · rename_i hw
    simp only [hw, if_true] at h
    unfold Oper.wpIn at *
    rw [about_put oj w a oi.dst v h1] at h
    refine ⟨h.1, ?_⟩
    have h := h.2
    rw [Oper.semAt_eq _ _ _ hdj, execOp_put oj hsj a oi.dst v h1] at h
    rw [Oper.semAt_eq _ _ _ hdj]
    generalize hrr : (execOp a.eval oj).run P w = r at *
    cases r with
    | ok x w' =>
      cases x <;> simp only [Oper.uponIn] at h ⊢
      case value u => exact ⟨keep u, by rw [← Act.put_comm a v u h2]; exact h⟩
      case skip => exact ⟨keep _, by rw [← Act.put_comm a v undef h2]; exact h⟩
      case defer d =>
        refine ⟨?_, by rw [← Act.put_comm _ v undef h2, ← Act.put_defers]; exact h⟩
        have e1 : execOp ({ a with defers := d :: a.defers } : Act).eval oi = execOp a.eval oi := rfl
        have := execOp_put oi hsi { a with defers := d :: a.defers } oj.dst undef h3
        have h' := wanted_put oi { a with defers := d :: a.defers } oj.dst undef h3
        exact ⟨this.trans e1, h'⟩
      case enter f args =>
        refine ⟨h.1, CallsIn.mono h.2 fun e w'' he => ?_⟩
        cases e with
        | returned u => exact ⟨keep u, by rw [← Act.put_comm a v u h2]; exact he⟩
        | panicked c => exact hQ _ _ _ he
        | outgrown => exact he
      case row row args => exact ⟨h.1, RowsIn.mono h.2 fun u w'' he => ⟨keep u, by rw [← Act.put_comm a v u h2]; exact he⟩⟩
      case round l f tmps assign body =>
        refine ⟨h.1, RoundIn.mono h.2 fun e w'' he => ?_⟩
        cases e with
        | returned u => exact ⟨keep u, by rw [← Act.put_comm a v u h2]; exact he⟩
        | panicked c => exact hQ _ _ _ he
        | outgrown => exact he
    | halt x w' =>
      cases x <;> simp only [Oper.uponIn] at h ⊢
      case panic u => exact hQ _ _ _ h
  · rename_i hw
    simp only [hw] at h
    exact ⟨h.1, keep _, by rw [← Act.put_comm a v undef h2]; exact h.2⟩

def depsOf (ops : Array Oper) (j : Nat) : List Nat :=
  match ops[j]? with
  | some o => (o.after.toList.filter (fun e => Region.binds .any e)).map (·.on)
  | none => []

def Closed (ops : Array Oper) (listed : Array Bool) : Prop :=
  ∀ j, listed.getD j true = true → ∀ k ∈ depsOf ops j, listed.getD k false = true

theorem mem_depsOf {ops : Array Oper} {j k : Nat} {o : Oper} (ho : ops[j]? = some o) : k ∈ depsOf ops j ↔ ∃ e ∈ o.after, Region.binds .any e = true ∧ e.on = k := by
  unfold depsOf
  simp [ho, List.mem_map, List.mem_filter, and_assoc]

theorem ready_deps {ops : Array Oper} {listed : Array Bool} {j : Nat} (h : j ∈ Region.ready .any ops listed) : ∀ k ∈ depsOf ops j, listed.getD k false = true := by
  obtain ⟨_, o, ho, hall⟩ := mem_ready.1 h
  intro k hk
  obtain ⟨e, he, hb, rfl⟩ := (mem_depsOf ho).1 hk
  exact hall e he hb

theorem Closed.step {ops : Array Oper} {listed : Array Bool} (h : Closed ops listed) {j : Nat} (hj : j ∈ Region.ready .any ops listed) : Closed ops (listed.setIfInBounds j true) := by
  intro i hi k hk
  by_cases e : j = i
  · subst e; exact getD_set_true (ready_deps hj k hk)
  · rw [getD_set_ne true e] at hi
    exact getD_set_true (h i hi k hk)

def orM (B : List Nat) : List Nat → Nat
  | [] => 0
  | k :: ks => 2 ^ k ||| (B.getD k 0 ||| orM B ks)

theorem orM_bit (B : List Nat) (i : Nat) : ∀ ks, (orM B ks).testBit i = true → ∃ k ∈ ks, k = i ∨ (B.getD k 0).testBit i = true
  | [], h => by simp [orM] at h
  | k :: ks, h => by
    simp only [orM, Nat.testBit_or, Bool.or_eq_true, Nat.testBit_two_pow] at h
    rcases h with h | h | h
    · exact ⟨k, List.mem_cons_self, .inl (by simpa using h)⟩
    · exact ⟨k, List.mem_cons_self, .inr h⟩
    · obtain ⟨k', hk', h'⟩ := orM_bit B i ks h
      exact ⟨k', List.mem_cons_of_mem _ hk', h'⟩

def mkB (ops : Array Oper) : List Nat := (List.range ops.size).foldl (fun B d => B ++ [orM B (depsOf ops d)]) []

def maskOk (ops : Array Oper) (B : List Nat) : Bool := B.length == ops.size && (List.range ops.size).all fun d => B.getD d 0 == orM B (depsOf ops d) && (depsOf ops d).all fun k => Nat.blt k d

theorem mask_listed {ops : Array Oper} {B : List Nat} (hB : maskOk ops B = true) {listed : Array Bool} (hc : Closed ops listed) (i : Nat) :
    ∀ d, (∀ k ∈ depsOf ops d, listed.getD k false = true) → (B.getD d 0).testBit i = true → listed.getD i false = true := by
  intro d
  induction d using Nat.strongRecOn with
  | _ d ih =>
    intro hd hb
    simp only [maskOk, Bool.and_eq_true, List.all_eq_true, List.mem_range, beq_iff_eq] at hB
    rcases Nat.lt_or_ge d ops.size with hlt | hge
    · obtain ⟨he, hk⟩ := hB.2 d hlt
      rw [he] at hb
      obtain ⟨k, hk1, hk2⟩ := orM_bit B i _ hb
      rcases hk2 with rfl | hk2
      · exact hd k hk1
      · have hkd : k < d := by simpa [Nat.blt_eq] using hk k hk1
        refine ih k hkd (fun k' hk' => hc k ?_ k' hk') hk2
        have h1 := hd k hk1
        rcases Nat.lt_or_ge k listed.size with h' | h'
        · simp [h'] at h1 ⊢; exact h1
        · simp [Array.getElem?_eq_none h'] at h1
    · rw [List.getD_eq_getElem?_getD, List.getElem?_eq_none (by omega)] at hb
      simp at hb

theorem not_listed {listed : Array Bool} {i : Nat} (h : listed.getD i true = false) : listed.getD i false = false := by
  rcases Nat.lt_or_ge i listed.size with h' | h'
  · simp [h'] at h ⊢; exact h
  · simp [Array.getElem?_eq_none h'] at h

def isMove (ops : Array Oper) (i : Nat) : Bool :=
  match ops[i]? with
  | some o => match o.op with
    | .move _ => true
    | _ => false
  | none => false

theorem isMove_spec {ops : Array Oper} {i : Nat} {o : Oper} (ho : ops[i]? = some o) (h : isMove ops i = true) : ∃ x, o.op = .move x := by
  simp only [isMove, ho] at h
  cases hop : o.op <;> simp [hop] at h
  exact ⟨_, rfl⟩

theorem run_move {P : Program} {o : Oper} {x : Operand} (h : o.op = .move x) (ev : Operand → Value) (w : World) : (execOp ev o).run P w = .ok (.value (ev x)) w := by
  unfold execOp; rw [h]; rfl

theorem any_take {J : Jd} {ops : Array Oper} {D B : List Nat} {Q : Post} {i : Nat} {oi : Oper} {v : Value} (hi : ops[i]? = some oi) (hpl : plainOps ops = true) (hB : maskOk ops B = true)
    (hQ : ∀ c a w, lift J Q (.panic c) (a.put oi.dst v) w → lift J Q (.panic c) a w) :
    ∀ (fuel : Nat) (listed : Array Bool) (a : Act) (w : World) (L : List Res), Mem J.w0 J.X L w → Closed ops listed →
      (∀ j oj, ops[j]? = some oj → j ≠ i → listed.getD j true = false → (∀ e ∈ oj.after, Region.binds .any e = true → e.on ≠ i) → oi.apart ops oj = true) →
      ((∀ d ∈ D, listed.getD d true = true ∨ (B.getD d 0).testBit i = true) ∨ (Region.wanted oi (yielded ops a.tmps) = true → ∀ w, Mem J.w0 J.X [] w → (execOp a.eval oi).run J.P w = .ok (.value v) w)) →
      i ∈ Region.ready .any ops listed → YS J ops oi v a L →
      AnyM J ops D Q fuel (listed.setIfInBounds i true) (a.put oi.dst v) w L → AnyM J ops D Q (fuel + 1) listed a w L := by
  have here : ∀ (fuel : Nat) (listed : Array Bool) (a : Act) (w : World) (L : List Res), Mem J.w0 J.X L w → YS J ops oi v a L →
      AnyM J ops D Q fuel (listed.setIfInBounds i true) (a.put oi.dst v) w L →
      wpOpIn (Fw J.r) 0 J.P ops (lift J Q) i (fun a' w' => ∃ L', Mem J.w0 J.X L' w' ∧ (i ∉ D → Sub J L L') ∧ AnyM J ops D Q fuel (listed.setIfInBounds i true) a' w' L') a w := by
    intro fuel listed a w L hm hy H
    unfold wpOpIn
    simp only [hi]
    rcases hy with ⟨hw, hv⟩ | ⟨hw, rfl⟩
    · simp only [hw, if_true, Oper.wpIn]
      refine ⟨fun _ _ => trivial, ?_⟩
      rw [Oper.semAt_eq _ _ _ (plainOps_sel hpl hi).2, hv w hm]
      exact ⟨L, hm, fun _ => Sub.refl _ _, H⟩
    · simp only [hw, Bool.false_eq_true, if_false]
      exact ⟨fun _ _ => trivial, L, hm, fun _ => Sub.refl _ _, H⟩
  intro fuel
  induction fuel with
  | zero =>
    intro listed a w L hm hc _ _ hr hy H
    refine ⟨fun h => (by rw [h] at hr; cases hr), fun j hj => ?_⟩
    by_cases hji : j = i
    · subst hji; exact here 0 listed a w L hm hy H
    · have := ready_mono hj hji
      rw [H.1] at this
      cases this
  | succ fuel ih =>
    intro listed a w L hm hc hfree hD hr hy H
    refine ⟨fun h => (by rw [h] at hr; cases hr), fun j hj => ?_⟩
    by_cases hji : j = i
    · subst hji; exact here (fuel + 1) listed a w L hm hy H
    · have h1 := H.2 j (ready_mono hj hji)
      obtain ⟨hjun, oj, hoj, hall⟩ := mem_ready.1 hj
      have hiun : listed.getD i true = false := (mem_ready.1 hr).1
      have hnot : ∀ e ∈ oj.after, Region.binds .any e = true → e.on ≠ i := fun e he hb heq => by
        have h1 := hall e he hb
        rw [heq, not_listed hiun] at h1
        cases h1
      have hjD : (∀ d ∈ D, listed.getD d true = true ∨ (B.getD d 0).testBit i = true) → j ∉ D := fun hD hjD => by
        rcases hD j hjD with h | h
        · rw [hjun] at h; cases h
        · have := mask_listed hB hc i j (ready_deps hj) h
          rw [not_listed hiun] at this; cases this
      have h2 := wpOpIn_put_any hoj (hfree j oj hoj hji hjun hnot) (plainOps_sel hpl hi).1 (plainOps_sel hpl hoj).1 (plainOps_sel hpl hoj).2 hQ h1
      refine wpOpIn_mono ?_ h2
      rintro a' w' ⟨⟨he, hwt⟩, L', hm', hsub, h3⟩
      refine ⟨L', hm', hsub, ih (listed.setIfInBounds j true) a' w' L' hm' (hc.step hj) ?_ ?_ (ready_mono hr (Ne.symm hji)) ?_ ?_⟩
      · intro k ok hk hki hun hno
        refine hfree k ok hk hki ?_ hno
        by_cases hjk : j = k
        · subst hjk; exact hjun
        · rw [getD_set_ne true hjk] at hun; exact hun
      · refine hD.imp (fun hD d hd => ?_) (fun h hw w1 hm1 => by rw [he]; exact h (by rw [← hwt]; exact hw) w1 hm1)
        rcases hD d hd with h | h
        · left
          by_cases hjd : j = d
          · subst hjd; rw [hjun] at h; cases h
          · rw [getD_set_ne true hjd]; exact h
        · exact .inr h
      · rcases hy with ⟨hw, hv⟩ | ⟨hw, hv⟩
        · refine .inl ⟨by rw [hwt]; exact hw, fun w1 hm1 => ?_⟩
          rw [he]
          rcases hD with hD | hx
          · exact hv w1 (hsub (hjD hD) w1 hm1)
          · exact hx hw w1 (hm1.sub (List.nil_sublist _))
        · exact .inr ⟨by rw [hwt]; exact hw, hv⟩
      · rw [Array.setIfInBounds_comm _ _ hji]
        exact h3

/-! ### new variables may come at any time -/
theorem upd_comm (E : Env) {x y : Option Nat} (v u : Value) (h : ∀ d, x = some d → y ≠ some d) : upd (upd E x v) y u = upd (upd E y u) x v := by
  cases x with
  | none => rfl
  | some d =>
    cases y with
    | none => rfl
    | some e =>
      have hne : d ≠ e := fun he => h d rfl (he ▸ rfl)
      funext t
      by_cases h1 : t = d
      · subst h1; rw [upd_ne _ _ hne, upd_same, upd_same]
      · by_cases h2 : t = e
        · subst h2; rw [upd_same, upd_ne _ _ h1, upd_same]
        · rw [upd_ne _ _ h2, upd_ne _ _ h1, upd_ne _ _ h1, upd_ne _ _ h2]

theorem ev_upd {E : Env} {dst : Option Tmp} {v : Value} {x : Operand} (h : ∀ d, dst = some d → x ≠ .tmp d) : ev (upd E dst v) x = ev E x := by
  cases dst with
  | none => rfl
  | some d =>
    cases x with
    | tmp t => exact upd_ne E v (fun e => h d rfl (e ▸ rfl))
    | _ => rfl

theorem execOp_upd {ops : Array Oper} (o : Oper) (hs : ∀ cs b, o.op ≠ .select cs b) (E : Env) (dst : Option Tmp) (v : Value) (h : ∀ d, dst = some d → d ∉ o.looksAt ops) :
    execOp (ev (upd E dst v)) o = execOp (ev E) o :=
  execOp_congr o hs fun x hx => ev_upd fun d hd hxd => h d hd (by
    subst hxd
    exact List.mem_append_left _ (List.mem_filterMap.2 ⟨.tmp d, by simpa using hx, rfl⟩))

theorem semAt_upd {ops : Array Oper} (r : Option Nat) (o : Oper) (hs : ∀ cs b, o.op ≠ .select cs b) (hd : ∀ c, o.op ≠ .defer c) (E : Env) (dst : Option Tmp) (v : Value) (h : ∀ d, dst = some d → d ∉ o.looksAt ops) :
    o.semAt r (ev (upd E dst v)) = o.semAt r (ev E) := by
  rw [Oper.semAt_eq _ _ _ hd, Oper.semAt_eq _ _ _ hd, execOp_upd o hs E dst v h]

theorem wantE_upd {ops : Array Oper} (o : Oper) (E : Env) (dst : Option Tmp) (v : Value) (h : ∀ d, dst = some d → d ∉ o.looksAt ops) : wantE ops o (upd E dst v) = wantE ops o E := by
  cases dst with
  | none => rfl
  | some d =>
    unfold wantE
    cases hg : o.guard with
    | none => rfl
    | some gw =>
      obtain ⟨g, want⟩ := gw
      have hy : yieldedE ops (upd E (some d) v) g = yieldedE ops E g := by
        unfold yieldedE
        cases ht : (ops[g]?).bind (·.dst) with
        | none => rfl
        | some t =>
          have hne : t ≠ d := fun e => h d rfl (by subst e; simp [Oper.looksAt, hg, ht])
          simp only [upd_ne E v hne]
      simp only [hy]

def als (π : List (Nat × Kind)) : List Nat := (π.filter (fun x => x.2 == .al)).map (·.1)

def setAll (listed : Array Bool) (l : List Nat) : Array Bool := l.foldl (fun a k => a.setIfInBounds k true) listed

/-- the plan goes with the text: what only reads is taken as soon as it can be; what acts is alone but for new variables, which may come at any time -/
def planOk (ops : Array Oper) (B D : List Nat) : List (Nat × Kind) → Array Bool → Bool
  | [], listed => (Region.ready .any ops listed).isEmpty
  | (i, .st) :: rest, listed => (Region.ready .any ops listed).contains i && Region.free .any ops listed i && (isMove ops i || D.all fun d => listed.getD d true || (B.getD d 0).testBit i) &&
      planOk ops B D rest (listed.setIfInBounds i true)
  | (i, .so) :: rest, listed => (Region.ready .any ops listed).contains i && Region.free .any ops listed i && planOk ops B D rest (listed.setIfInBounds i true)
  | (i, _) :: rest, listed => (Region.ready .any ops listed).contains i && ((Region.ready .any ops (setAll listed (als rest))).all fun k => k == i) &&
      planOk ops B D rest (listed.setIfInBounds i true)

theorem planOk_act {ops : Array Oper} {B D : List Nat} {i : Nat} {c : Kind} {rest : List (Nat × Kind)} {listed : Array Bool} (hc : c ≠ .st) (hc2 : c ≠ .so) : planOk ops B D ((i, c) :: rest) listed =
    ((Region.ready .any ops listed).contains i && ((Region.ready .any ops (setAll listed (als rest))).all fun k => k == i) && planOk ops B D rest (listed.setIfInBounds i true)) := by
  cases c with
  | st => exact absurd rfl hc
  | so => exact absurd rfl hc2
  | ef => rfl
  | al => rfl

theorem planOk_ready {ops : Array Oper} {B D : List Nat} {i : Nat} {c : Kind} {rest : List (Nat × Kind)} {listed : Array Bool} (h : planOk ops B D ((i, c) :: rest) listed = true) :
    i ∈ Region.ready .any ops listed ∧ planOk ops B D rest (listed.setIfInBounds i true) = true := by
  cases c with
  | st => simp only [planOk, Bool.and_eq_true, List.contains_iff_mem] at h; exact ⟨h.1.1.1, h.2⟩
  | so => simp only [planOk, Bool.and_eq_true, List.contains_iff_mem] at h; exact ⟨h.1.1, h.2⟩
  | ef => simp only [planOk, Bool.and_eq_true, List.contains_iff_mem] at h; exact ⟨h.1.1, h.2⟩
  | al => simp only [planOk, Bool.and_eq_true, List.contains_iff_mem] at h; exact ⟨h.1.1, h.2⟩

theorem setAll_comm (k : Nat) : ∀ (l : List Nat) (listed : Array Bool), setAll (listed.setIfInBounds k true) l = (setAll listed l).setIfInBounds k true
  | [], _ => rfl
  | x :: l, listed => by
    show setAll ((listed.setIfInBounds k true).setIfInBounds x true) l = (setAll (listed.setIfInBounds x true) l).setIfInBounds k true
    rw [← setAll_comm k l (listed.setIfInBounds x true)]
    by_cases h : k = x
    · subst h; rfl
    · rw [Array.setIfInBounds_comm _ _ h]

theorem setAll_erase (k : Nat) : ∀ (l : List Nat) (listed : Array Bool), k ∈ l → setAll (listed.setIfInBounds k true) (l.erase k) = setAll listed l
  | [], _, h => by cases h
  | x :: l, listed, h => by
    by_cases e : x = k
    · subst e; rw [List.erase_cons_head]; rfl
    · rw [List.erase_cons_tail (by simpa using e)]
      show setAll ((listed.setIfInBounds k true).setIfInBounds x true) (l.erase k) = setAll (listed.setIfInBounds x true) l
      rw [Array.setIfInBounds_comm _ _ (Ne.symm e)]
      exact setAll_erase k l _ ((List.mem_cons.1 h).resolve_left (fun h => e h.symm))

theorem als_erase (k : Nat) : ∀ (π : List (Nat × Kind)), als (π.erase (k, .al)) = (als π).erase k
  | [] => rfl
  | (i, c) :: π => by
    by_cases e : (i, c) = (k, Kind.al)
    · injection e with e1 e2
      subst e1 e2
      rw [List.erase_cons_head]
      show als π = (i :: als π).erase i
      rw [List.erase_cons_head]
    · rw [List.erase_cons_tail (by simpa using e)]
      cases c with
      | st => exact als_erase k π
      | ef => exact als_erase k π
      | so => exact als_erase k π
      | al =>
        have hne : i ≠ k := fun h => e (by rw [h])
        show i :: als (π.erase (k, .al)) = (i :: als π).erase k
        rw [List.erase_cons_tail (by simpa using hne), als_erase k π]

theorem mem_als {k : Nat} {π : List (Nat × Kind)} : k ∈ als π ↔ (k, Kind.al) ∈ π := by
  simp [als, List.mem_map, List.mem_filter]

theorem free_mono {ops : Array Oper} {listed : Array Bool} {i k : Nat} (h : Region.free .any ops listed i = true) : Region.free .any ops (listed.setIfInBounds k true) i = true := by
  unfold Region.free at *
  split
  · rename_i e; simp [e] at h
  · rename_i oi e
    simp only [e, List.all_eq_true] at h ⊢
    intro j hj
    have := h j hj
    simp only [Bool.or_eq_true] at this ⊢
    rcases this with (h1 | h1) | h1
    · exact .inl (.inl h1)
    · refine .inl (.inr ?_)
      by_cases ek : k = j
      · subst ek
        rcases Nat.lt_or_ge k listed.size with h' | h'
        · simp [h']
        · simp [h']
      · rw [getD_set_ne true ek]; exact h1
    · exact .inr h1

theorem getD_set_true' {listed : Array Bool} {i j : Nat} (h : listed.getD j true = true) : (listed.setIfInBounds i true).getD j true = true := by
  by_cases e : i = j
  · subst e
    rcases Nat.lt_or_ge i listed.size with h' | h'
    · simp [h']
    · simp [h']
  · rw [getD_set_ne true e]; exact h

theorem planOk_early {ops : Array Oper} {B D : List Nat} {k : Nat} : ∀ (π : List (Nat × Kind)) (listed : Array Bool), planOk ops B D π listed = true → (π.map (·.1)).Nodup → (k, .al) ∈ π →
    k ∈ Region.ready .any ops listed → planOk ops B D (π.erase (k, .al)) (listed.setIfInBounds k true) = true
  | [], _, _, _, h, _ => by cases h
  | (i, c) :: π, listed, hok, hnd, hmem, hrd => by
    by_cases e : (i, c) = (k, Kind.al)
    · injection e with e1 e2
      subst e1 e2
      rw [List.erase_cons_head]
      exact (planOk_ready hok).2
    · have hmem' : (k, Kind.al) ∈ π := by
        rcases List.mem_cons.1 hmem with h | h
        · exact absurd h.symm e
        · exact h
      rw [List.map_cons, List.nodup_cons] at hnd
      have hik : i ≠ k := fun h => hnd.1 (by rw [show ((i, c) : Nat × Kind).1 = k from h]; exact List.mem_map.2 ⟨_, hmem', rfl⟩)
      rw [List.erase_cons_tail (by simpa using e)]
      have hr := planOk_ready hok
      have ih := planOk_early π (listed.setIfInBounds i true) hr.2 hnd.2 hmem' (ready_mono hrd (Ne.symm hik))
      rw [Array.setIfInBounds_comm _ _ hik] at ih
      have hri := ready_mono hr.1 hik
      cases c with
      | st =>
        simp only [planOk, Bool.and_eq_true, List.contains_iff_mem, List.all_eq_true, Bool.or_eq_true] at hok ⊢
        exact ⟨⟨⟨hri, free_mono hok.1.1.2⟩, hok.1.2.imp id fun h d hd => (h d hd).imp getD_set_true' id⟩, ih⟩
      | so =>
        simp only [planOk, Bool.and_eq_true, List.contains_iff_mem] at hok ⊢
        exact ⟨⟨hri, free_mono hok.1.2⟩, ih⟩
      | ef =>
        simp only [planOk, Bool.and_eq_true, List.contains_iff_mem] at hok ⊢
        rw [als_erase, setAll_erase k _ _ (mem_als.2 hmem')]
        exact ⟨⟨hri, hok.1.2⟩, ih⟩
      | al =>
        simp only [planOk, Bool.and_eq_true, List.contains_iff_mem] at hok ⊢
        rw [als_erase, setAll_erase k _ _ (mem_als.2 hmem')]
        exact ⟨⟨hri, hok.1.2⟩, ih⟩

/-- whatever does not wait for a new variable has nothing to do with its name -/
def alFreeAt (ops : Array Oper) (k : Nat) (o : Oper) : Bool :=
  (List.range ops.size).all fun j =>
    match ops[j]? with
    | some oj => j == k || oj.after.any (fun e => Region.binds .any e && e.on == k) || o.apart ops oj
    | none => true

def isAlloc : Op → Bool
  | .alloc _ => true
  | _ => false

def alFree (ops : Array Oper) : Bool :=
  (List.range ops.size).all fun k =>
    match ops[k]? with
    | some o => !isAlloc o.op || alFreeAt ops k o
    | none => true

theorem alFree_spec {ops : Array Oper} (h : alFree ops = true) {k j : Nat} {o oj : Oper} {t : TypeId} (hk : ops[k]? = some o) (ho : o.op = .alloc t) (hj : ops[j]? = some oj) (hne : j ≠ k)
    (hno : ∀ e ∈ oj.after, Region.binds .any e = true → e.on ≠ k) : o.apart ops oj = true := by
  simp only [alFree, List.all_eq_true, List.mem_range] at h
  have h1 := h k (Array.getElem?_eq_some_iff.1 hk).1
  simp only [hk, ho, isAlloc, Bool.not_true, Bool.false_or, alFreeAt, List.all_eq_true, List.mem_range] at h1
  have h2 := h1 j (Array.getElem?_eq_some_iff.1 hj).1
  simp only [hj, Bool.or_eq_true, beq_iff_eq, hne, false_or] at h2
  rcases h2 with h2 | h2
  · rw [Array.any_eq_true'] at h2
    obtain ⟨e, he, hb⟩ := h2
    simp only [Bool.and_eq_true, beq_iff_eq] at hb
    exact absurd hb.2 (hno e he hb.1)
  · exact h2

theorem Mem.front {w0 w : World} {X : List Nat} {L Rf : List Res} {r : Res} (h : Mem w0 X ((r :: L) ++ Rf) w) : Mem w0 X (L ++ (r :: Rf)) w :=
  h.perm (List.perm_middle (a := r) (l₁ := L) (l₂ := Rf)).symm
theorem Mem.back {w0 w : World} {X : List Nat} {L Rf : List Res} {r : Res} (h : Mem w0 X (L ++ (r :: Rf)) w) : Mem w0 X ((r :: L) ++ Rf) w :=
  h.perm (List.perm_middle (a := r) (l₁ := L) (l₂ := Rf))

theorem Plan.early {J : Jd} {ops : Array Oper} {D B : List Nat} {D0 : List Nat} {Q : Post} {k : Nat} {o : Oper} {t : TypeId} {z : Value} (hpl : plainOps ops = true) (hal : alFree ops = true)
    (hk : ops[k]? = some o) (hop : o.op = .alloc t) (hz : ∀ w, (zeroValue t).run J.P w = .ok z w) (b : Nat) :
    ∀ (π : List (Nat × Kind)) (listed : Array Bool) (E : Env) (ds : List Deferred) (L : List Res), planOk ops B D π listed = true → (π.map (·.1)).Nodup → (k, .al) ∈ π → listed.getD k true = false →
      Plan J ops (some D0) Q π E ds L → ∃ L', (Res.blk b z.cells t :: L).Perm L' ∧ Plan J ops (some D0) Q (π.erase (k, .al)) (upd E o.dst (.pointer (some ⟨b, 0, none⟩))) ds L'
  | [], _, _, _, _, _, _, h, _, _ => by cases h
  | (i, c) :: π, listed, E, ds, L, hok, hnd, hmem, hun, hp => by
    by_cases e : (i, c) = (k, Kind.al)
    · injection e with e1 e2
      subst e1 e2
      rw [List.erase_cons_head]
      obtain ⟨o', t', z', ho', hop', _, hz', h⟩ := hp
      rw [hk] at ho'
      obtain rfl := Option.some.inj ho'
      rw [hop] at hop'
      obtain rfl : t = t' := by injection hop'
      have : z = z' := by
        have h1 := hz J.w0
        rw [hz' J.w0] at h1
        injection h1 with h1
        exact h1.symm
      subst this
      exact h b
    · have hmem' : (k, Kind.al) ∈ π := by
        rcases List.mem_cons.1 hmem with h | h
        · exact absurd h.symm e
        · exact h
      rw [List.map_cons, List.nodup_cons] at hnd
      have hik : i ≠ k := fun h => hnd.1 (by rw [show ((i, c) : Nat × Kind).1 = k from h]; exact List.mem_map.2 ⟨_, hmem', rfl⟩)
      rw [List.erase_cons_tail (by simpa using e)]
      have hr := planOk_ready hok
      have hun' : (listed.setIfInBounds i true).getD k true = false := by rw [getD_set_ne true hik]; exact hun
      obtain ⟨_, oi, hoi, hall⟩ := mem_ready.1 hr.1
      have hnot : ∀ e ∈ oi.after, Region.binds .any e = true → e.on ≠ k := fun e he hb heq => by
        have h1 := hall e he hb
        rw [heq, not_listed hun] at h1
        cases h1
      obtain ⟨h1, h2, h3⟩ := Oper.apart_spec (alFree_spec hal hk hop hoi hik hnot)
      have hsel := plainOps_sel hpl hoi
      have ih := fun E ds L => Plan.early (D0 := D0) (Q := Q) hpl hal hk hop hz b π (listed.setIfInBounds i true) E ds L hr.2 hnd.2 hmem' hun'
      cases c with
      | st =>
        obtain ⟨oi', hoi', hp⟩ := hp
        rw [hoi] at hoi'
        obtain rfl := Option.some.inj hoi'
        rcases hp with ⟨hw, v, hst, hp⟩ | ⟨hw, hp⟩
        · obtain ⟨L', hperm, h⟩ := ih _ _ _ hp
          refine ⟨L', hperm, oi, hoi, .inl ⟨by rw [wantE_upd oi E o.dst _ h1]; exact hw, v, fun w hm => ?_, ?_⟩⟩
          · rw [semAt_upd J.r oi hsel.1 hsel.2 E o.dst _ h1]; exact hst w ((hm.perm hperm.symm).sub (List.sublist_cons_self _ _))
          · rw [upd_comm E _ v h2]; exact h
        · obtain ⟨L', hperm, h⟩ := ih _ _ _ hp
          refine ⟨L', hperm, oi, hoi, .inr ⟨by rw [wantE_upd oi E o.dst _ h1]; exact hw, ?_⟩⟩
          rw [upd_comm E _ undef h2]; exact h
      | so =>
        obtain ⟨oi', hoi', hp⟩ := hp
        rw [hoi] at hoi'
        obtain rfl := Option.some.inj hoi'
        rcases hp with ⟨hw, v, hst, hp⟩ | ⟨hw, hp⟩
        · obtain ⟨L', hperm, h⟩ := ih _ _ _ hp
          refine ⟨L', hperm, oi, hoi, .inl ⟨by rw [wantE_upd oi E o.dst _ h1]; exact hw, v, fun w hm => ?_, ?_⟩⟩
          · rw [semAt_upd J.r oi hsel.1 hsel.2 E o.dst _ h1]; exact hst w hm
          · rw [upd_comm E _ v h2]; exact h
        · obtain ⟨L', hperm, h⟩ := ih _ _ _ hp
          refine ⟨L', hperm, oi, hoi, .inr ⟨by rw [wantE_upd oi E o.dst _ h1]; exact hw, ?_⟩⟩
          rw [upd_comm E _ undef h2]; exact h
      | ef =>
        obtain ⟨oi', hoi', hp⟩ := hp
        rw [hoi] at hoi'
        obtain rfl := Option.some.inj hoi'
        rcases hp with ⟨hw, hst⟩ | ⟨hw, hp⟩
        · refine ⟨Res.blk b z.cells t :: L, .refl _, oi, hoi, .inl ⟨by rw [wantE_upd oi E o.dst _ h1]; exact hw, fun Rf w hm => ?_⟩⟩
          rw [semAt_upd J.r oi hsel.1 hsel.2 E o.dst _ h1]
          have h4 := hst (Res.blk b z.cells t :: Rf) w hm.front
          have conv : ∀ {r : Result Next} {K K' : Value → List Res → Prop}, EffR J (Res.blk b z.cells t :: Rf) K r →
              (∀ v L', K v L' → ∃ L'', (Res.blk b z.cells t :: L').Perm L'' ∧ K' v L'') → EffR J Rf K' r := by
            intro r K K' h hKK
            cases r with
            | halt x w => exact h.elim
            | ok x w =>
              cases x
              case value v => obtain ⟨L, h1, h2⟩ := h; obtain ⟨L'', hp, hk⟩ := hKK _ _ h2; exact ⟨L'', h1.back.perm (hp.append_right _), hk⟩
              case skip => obtain ⟨L, h1, h2⟩ := h; obtain ⟨L'', hp, hk⟩ := hKK _ _ h2; exact ⟨L'', h1.back.perm (hp.append_right _), hk⟩
              case enter f args => exact Calls.mono h fun e w' ⟨v, L, h1, h2, h3⟩ => (hKK _ _ h3).elim fun L'' ⟨hp, hk⟩ => ⟨v, L'', h1, h2.back.perm (hp.append_right _), hk⟩
              case round l f tmps assign body => exact RoundIn.mono h fun e w' ⟨v, L, h1, h2, h3⟩ => (hKK _ _ h3).elim fun L'' ⟨hp, hk⟩ => ⟨v, L'', h1, h2.back.perm (hp.append_right _), hk⟩
              all_goals exact h.elim
          refine conv h4 ?_
          rintro v L' ⟨hg, hp⟩
          obtain ⟨L'', hperm, h⟩ := ih _ _ _ hp
          refine ⟨L'', hperm, fun D hD hi Rf w hm => ?_, ?_⟩
          · exact (hg D hD hi (Res.blk b z.cells t :: Rf) w (hm.perm (hperm.symm.append_right _)).front).back
          · rw [upd_comm E _ v h2]; exact h
        · obtain ⟨L', hperm, h⟩ := ih _ _ _ hp
          refine ⟨L', hperm, oi, hoi, .inr ⟨by rw [wantE_upd oi E o.dst _ h1]; exact hw, ?_⟩⟩
          rw [upd_comm E _ undef h2]; exact h
      | al =>
        obtain ⟨oi', t', z', hoi', hop', hg', hz', hp⟩ := hp
        rw [hoi] at hoi'
        obtain rfl := Option.some.inj hoi'
        refine ⟨Res.blk b z.cells t :: L, .refl _, oi, t', z', hoi, hop', hg', hz', fun b' => ?_⟩
        obtain ⟨L4, hperm4, hp⟩ := hp b'
        obtain ⟨L5, hperm5, h⟩ := ih _ _ _ hp
        refine ⟨L5, ((List.Perm.swap _ _ _).trans (hperm4.cons _)).trans hperm5, ?_⟩
        rw [upd_comm E _ _ h2]; exact h

theorem setAll_getD {k : Nat} {d : Bool} : ∀ (l : List Nat) (listed : Array Bool), k ∉ l → (setAll listed l).getD k d = listed.getD k d
  | [], _, _ => rfl
  | x :: l, listed, h => by
    show (setAll (listed.setIfInBounds x true) l).getD k d = _
    rw [setAll_getD l _ (fun h' => h (List.mem_cons_of_mem _ h')), getD_set_ne d (fun e => h (by rw [e]; exact List.mem_cons_self))]

theorem setAll_ready {ops : Array Oper} {k : Nat} : ∀ (l : List Nat) (listed : Array Bool), k ∉ l → k ∈ Region.ready .any ops listed → k ∈ Region.ready .any ops (setAll listed l)
  | [], _, _, h => h
  | x :: l, listed, hk, h => setAll_ready l _ (fun h' => hk (List.mem_cons_of_mem _ h')) (ready_mono h (fun e => hk (by rw [e]; exact List.mem_cons_self)))

/-- the zero values of the types of new variables -/
def zerosOk (P : Program) (ops : Array Oper) : Prop := ∀ (k : Nat) (o : Oper) (t : TypeId), ops[k]? = some o → o.op = .alloc t → ∃ z, ∀ w, (zeroValue t).run P w = .ok z w

theorem plan_any {J : Jd} {ops : Array Oper} {B D : List Nat} {Q : Post} (hfit : fits J.N ops = true) (hpl : plainOps ops = true) (hB : maskOk ops B = true) (hal : alFree ops = true)
    (hQ : ∀ c E E' ds L, Q (.panic c) E ds L → Q (.panic c) E' ds L) (hz : zerosOk J.P ops) (hg : ∀ (k : Nat) (o : Oper), ops[k]? = some o → (∃ t, o.op = .alloc t) → o.guard = none) :
    ∀ (n : Nat) (π : List (Nat × Kind)) (listed : Array Bool) (a : Act) (w : World) (E : Env) (ds : List Deferred) (L : List Res), π.length = n → planOk ops B D π listed = true → (π.map (·.1)).Nodup →
      (∀ x ∈ π, x.2 = .al → ∃ o t, ops[x.1]? = some o ∧ o.op = .alloc t) → Closed ops listed →
      Plan J ops (some D) Q π E ds L → Rep J.N ds a E → Mem J.w0 J.X L w → AnyM J ops D Q n listed a w L := by
  have hQ' : ∀ (d : Option Nat) (v : Value) c a w, lift J Q (.panic c) (a.put d v) w → lift J Q (.panic c) a w := by
    rintro d v c a w ⟨E, ds, L, hr, hm, hq⟩
    refine ⟨_, ds, L, ⟨?_, ?_, fun t => rfl⟩, hm, hQ _ _ _ _ _ hq⟩
    · rw [← hr.size]; cases d <;> simp [Act.put]
    · rw [← hr.defs]; cases d <;> rfl
  intro n
  induction n with
  | zero =>
    intro π listed a w E ds L hn hok hnd hals hc hp hr hm
    obtain rfl := List.eq_nil_of_length_eq_zero hn
    simp only [planOk, List.isEmpty_iff] at hok
    exact ⟨hok, E, ds, hr, hp⟩
  | succ n ih =>
    intro π listed a w E ds L hn hok hnd hals hc hp hr hm
    obtain ⟨i, b⟩ : Nat × Kind := π.headD (0, .st)
    cases π with
    | nil => cases hn
    | cons x rest =>
      obtain ⟨i, b⟩ := x
      have hn' : rest.length = n := by simpa using hn
      have hnd' := hnd
      rw [List.map_cons, List.nodup_cons] at hnd
      have hals' : ∀ x ∈ rest, x.2 = .al → ∃ o t, ops[x.1]? = some o ∧ o.op = .alloc t := fun x hx => hals x (List.mem_cons_of_mem _ hx)
      by_cases hb : b = .st
      · subst hb
        simp only [planOk, Bool.and_eq_true, List.contains_iff_mem, List.all_eq_true, Bool.or_eq_true] at hok
        obtain ⟨⟨⟨hrd, hfree⟩, hD⟩, hrest⟩ := hok
        obtain ⟨o, ho, hp⟩ := hp
        have hsel := plainOps_sel hpl ho
        have hD := hD.symm
        rcases hp with ⟨hw, v, hst, hp⟩ | ⟨hw, hp⟩
        · have hD2 : (∀ d ∈ D, listed.getD d true = true ∨ (B.getD d 0).testBit i = true) ∨ (Region.wanted o (yielded ops a.tmps) = true → ∀ w, Mem J.w0 J.X [] w → (execOp a.eval o).run J.P w = .ok (.value v) w) := by
            rcases hD with hD | hmv
            · exact .inl hD
            · refine .inr fun _ w1 _ => ?_
              obtain ⟨x, hx⟩ := isMove_spec ho hmv
              have h5 := hst w hm
              rw [← hr.eval, Oper.semAt_eq J.r _ _ hsel.2, run_move hx] at h5
              rw [run_move hx]
              injection h5 with h5
              rw [h5]
          refine any_take (v := v) ho hpl hB (hQ' _ _) _ listed a w L hm hc (fun j oj hj hne hun hno => Region.free_spec ho hfree j oj hj hne hun hno) hD2 hrd (.inl ⟨by rw [hr.wanted]; exact hw, fun w1 hm1 => ?_⟩) ?_
          · rw [hr.eval, ← Oper.semAt_eq J.r _ _ hsel.2]; exact hst w1 hm1
          · exact ih _ _ _ w _ ds L hn' hrest hnd.2 hals' (hc.step hrd) hp (hr.put _ _ (fits_spec hfit ho)) hm
        · have hD2 : (∀ d ∈ D, listed.getD d true = true ∨ (B.getD d 0).testBit i = true) ∨ (Region.wanted o (yielded ops a.tmps) = true → ∀ w, Mem J.w0 J.X [] w → (execOp a.eval o).run J.P w = .ok (.value undef) w) :=
            hD.imp id fun _ hw' => absurd hw' (by rw [hr.wanted, hw]; decide)
          refine any_take (v := undef) ho hpl hB (hQ' _ _) _ listed a w L hm hc (fun j oj hj hne hun hno => Region.free_spec ho hfree j oj hj hne hun hno) hD2 hrd (.inr ⟨by rw [hr.wanted]; exact hw, rfl⟩) ?_
          exact ih _ _ _ w _ ds L hn' hrest hnd.2 hals' (hc.step hrd) hp (hr.put _ _ (fits_spec hfit ho)) hm
      by_cases hb2 : b = .so
      · subst hb2
        simp only [planOk, Bool.and_eq_true, List.contains_iff_mem] at hok
        obtain ⟨⟨hrd, hfree⟩, hrest⟩ := hok
        obtain ⟨o, ho, hp⟩ := hp
        have hsel := plainOps_sel hpl ho
        rcases hp with ⟨hw, v, hst, hp⟩ | ⟨hw, hp⟩
        · refine any_take (v := v) ho hpl hB (hQ' _ _) _ listed a w L hm hc (fun j oj hj hne hun hno => Region.free_spec ho hfree j oj hj hne hun hno) (.inr fun _ w1 hm1 => ?_) hrd (.inl ⟨by rw [hr.wanted]; exact hw, fun w1 hm1 => ?_⟩) ?_
          · rw [hr.eval, ← Oper.semAt_eq J.r _ _ hsel.2]; exact hst w1 hm1
          · rw [hr.eval, ← Oper.semAt_eq J.r _ _ hsel.2]; exact hst w1 (hm1.sub (List.nil_sublist _))
          · exact ih _ _ _ w _ ds L hn' hrest hnd.2 hals' (hc.step hrd) hp (hr.put _ _ (fits_spec hfit ho)) hm
        · refine any_take (v := undef) ho hpl hB (hQ' _ _) _ listed a w L hm hc (fun j oj hj hne hun hno => Region.free_spec ho hfree j oj hj hne hun hno) (.inr fun hw' => absurd hw' (by rw [hr.wanted, hw]; decide)) hrd (.inr ⟨by rw [hr.wanted]; exact hw, rfl⟩) ?_
          exact ih _ _ _ w _ ds L hn' hrest hnd.2 hals' (hc.step hrd) hp (hr.put _ _ (fits_spec hfit ho)) hm
      · have hok' := hok
        rw [planOk_act hb hb2] at hok
        simp only [Bool.and_eq_true, List.contains_iff_mem, List.all_eq_true, beq_iff_eq] at hok
        obtain ⟨⟨hrd, hall⟩, hrest⟩ := hok
        refine ⟨fun h => (by rw [h] at hrd; cases hrd), fun j hj => ?_⟩
        by_cases hji : j = i
        · subst hji
          refine wpOpIn_mono ?_ (plan_op hfit hp hr hm)
          rintro a' w' ⟨E', ds', L', h1, h2, h3, h4⟩
          exact ⟨L', h2, fun hd => h3 D rfl hd, ih _ _ a' w' E' ds' L' hn' hrest hnd.2 hals' (hc.step hrd) h4 h1 h2⟩
        · -- a new variable that comes early
          have hjal : (j, Kind.al) ∈ rest := by
            refine Classical.byContradiction fun hno => ?_
            exact hji (hall j (setAll_ready _ _ (fun h => hno (mem_als.1 h)) hj))
          obtain ⟨o, t, ho, hop⟩ := hals' _ hjal rfl
          obtain ⟨z, hzz⟩ := hz j o t ho hop
          have hun := (mem_ready.1 hj).1
          obtain ⟨L', hperm, hp'⟩ := Plan.early (D := D) (B := B) hpl hal ho hop hzz w.heap.size ((i, b) :: rest) listed E ds L hok' hnd' (List.mem_cons_of_mem _ hjal) hun hp
          have hm' := (hm.alloc z.cells t).perm hperm
          unfold wpOpIn
          simp only [ho]
          have hw : Region.wanted o (yielded ops a.tmps) = true := by unfold Region.wanted; rw [hg j o ho ⟨t, hop⟩]
          simp only [hw, if_true, Oper.wpIn]
          refine ⟨fun _ _ => trivial, ?_⟩
          rw [al_upon hop hzz]
          refine ⟨L', hm', fun _ w1 hm1 => (hm1.perm hperm.symm).sub (List.sublist_cons_self _ _), ?_⟩
          refine ih _ _ _ _ _ ds L' ?_ (planOk_early _ listed hok' hnd' (List.mem_cons_of_mem _ hjal) hj) ?_ ?_ (hc.step hj) hp' (hr.put _ _ (fits_spec hfit ho)) hm'
          · rw [List.length_erase_of_mem (List.mem_cons_of_mem _ hjal)]; simp [hn']
          · exact hnd'.sublist (List.Sublist.map _ List.erase_sublist)
          · exact fun x hx => hals x (List.mem_of_mem_erase hx)

theorem closed_none (ops : Array Oper) : Closed ops (Array.replicate ops.size false) := by
  intro j hj k hk
  rcases Nat.lt_or_ge j ops.size with h | h
  · simp [h] at hj
  · unfold depsOf at hk
    rw [Array.getElem?_eq_none h] at hk
    cases hk

def alsOk (ops : Array Oper) (π : List (Nat × Kind)) : Bool :=
  (π.all fun x => x.2 != .al || match ops[x.1]? with | some o => (match o.op with | .alloc _ => true | _ => false) | none => false) &&
  ops.toList.all fun o => match o.op with | .alloc _ => o.guard.isNone | _ => true

def nodupB : List Nat → Bool
  | [] => true
  | x :: xs => !xs.contains x && nodupB xs

theorem nodupB_spec : ∀ {l : List Nat}, nodupB l = true → l.Nodup
  | [], _ => List.nodup_nil
  | x :: xs, h => by
    simp only [nodupB, Bool.and_eq_true, Bool.not_eq_true'] at h
    exact List.nodup_cons.2 ⟨fun hm => (by rw [List.contains_iff_mem.2 hm] at h; cases h.1), nodupB_spec h.2⟩

/-- all that is asked of the text of a region that draws its order -/
def drawOk (N : Nat) (ops : Array Oper) (D : List Nat) (π : List (Nat × Kind)) : Bool :=
  fits N ops && plainOps ops && maskOk ops (mkB ops) && alFree ops && planOk ops (mkB ops) D π (Array.replicate ops.size false) && (π.length == ops.size) && nodupB (π.map (·.1)) && alsOk ops π

/-- a region that draws its order -/
theorem HW.region_any {J : Jd} {id : Nat} {ops : Array Oper} {Q : Post} {E : Env} {ds : List Deferred} {L : List Res} (D : List Nat) (π : List (Nat × Kind))
    (hmix : J.P.follows .mixedOrders = true) (hok : drawOk J.N ops D π = true) (hQ : ∀ c E E' ds L, Q (.panic c) E ds L → Q (.panic c) E' ds L) (hz : zerosOk J.P ops)
    (h : Plan J ops (some D) Q π E ds L) : HW J (.region id ops true) Q E ds L := fun a w hr hm => by
  simp only [drawOk, Bool.and_eq_true, beq_iff_eq] at hok
  obtain ⟨⟨⟨⟨⟨⟨⟨h1, h2⟩, h3⟩, h4⟩, h5⟩, h6⟩, h7⟩, h8⟩ := hok
  refine wpIn_region_any hmix ?_
  simp only [alsOk, Bool.and_eq_true, List.all_eq_true] at h8
  have hg : ∀ (k : Nat) (o : Oper), ops[k]? = some o → (∃ t, o.op = .alloc t) → o.guard = none := by
    rintro k o hk ⟨t, ht⟩
    have := h8.2 o (Array.mem_toList_iff.2 (Array.mem_of_getElem? hk))
    rw [ht] at this
    simpa using this
  have hals : ∀ x ∈ π, x.2 = .al → ∃ o t, ops[x.1]? = some o ∧ o.op = .alloc t := by
    intro x hx hxa
    have := h8.1 x hx
    rw [hxa] at this
    cases ho : ops[x.1]? with
    | none => simp [ho] at this
    | some o =>
      refine ⟨o, ?_⟩
      cases hop : o.op <;> simp [ho, hop] at this
      exact ⟨_, rfl, rfl⟩
  exact any_sound _ _ _ _ L (hm.drawn _ (Nat.le_succ _)) (plan_any h1 h2 h3 h4 hQ hz hg _ π _ a _ E ds L h6 h5 (nodupB_spec h7) hals (closed_none ops) h hr (hm.drawn (w.drawn + 1) (Nat.le_succ _)))

end Go.Proofs.Ytjmklbkcpjmcaaa.H
