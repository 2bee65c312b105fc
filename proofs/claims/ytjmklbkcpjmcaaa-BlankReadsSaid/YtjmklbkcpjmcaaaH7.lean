/-
  The frame of these proofs, eighth part: range over a function.
  The frame of these proofs, ninth part: min and max.
  The frame of these proofs, tenth part: equality of bools.
-/
import Derived.Test.YtjmklbkcpjmcaaaH4
import Derived.RangeFuncLeaves
import Derived.RangeFuncRecord
import Derived.Laws.Small
import Derived.Laws.StructEq
namespace Go.Proofs.Ytjmklbkcpjmcaaa.H
open Go Go.RowKit
set_option linter.unusedVariables false
set_option linter.unusedSimpArgs false

/-- a block that is no row of cells -/
def Res.obj (b : Nat) (o : Obj) : Res where
  foot := [b]
  holds := fun w => w.heap[b]? = some o
  loc := fun w w' h hw => (h b (List.mem_singleton.2 rfl)).trans hw

theorem Mem.allocO {w0 w : World} {X : List Nat} {L : List Res} (h : Mem w0 X L w) (o : Obj) : Mem w0 X (Res.obj w.heap.size o :: L) (w.alloc o) := by
  have hnew : (w.alloc o).heap[w.heap.size]? = some o := World.alloc_heap_new w _
  have hold : ∀ k, k < w.heap.size → (w.alloc o).heap[k]? = w.heap[k]? := fun k hk => Below.heap_alloc _ _ _ hk
  refine ⟨h.os, h.tape, h.dr, h.output, by simp; exact Nat.le_succ_of_le h.size, fun b hb hX => (hold b (Nat.lt_of_lt_of_le hb h.size)).trans (h.old b hb hX), ?_, ?_, ?_⟩
  · intro r hr
    rcases List.mem_cons.1 hr with rfl | hr
    · exact hnew
    · exact r.loc w _ (fun b hb => hold b (h.foot r hr b hb).1) (h.res r hr)
  · intro r hr b hb
    rcases List.mem_cons.1 hr with rfl | hr
    · obtain rfl := List.mem_singleton.1 hb
      exact ⟨by simp, .inl h.size⟩
    · have := h.foot r hr b hb
      exact ⟨by simp; omega, this.2⟩
  · refine List.pairwise_cons.2 ⟨fun s hs b hb hb' => ?_, h.sep⟩
    obtain rfl := List.mem_singleton.1 hb
    exact Nat.lt_irrefl _ (h.foot s hs _ hb').1

/-- a block is written whole -/
theorem Mem.putO {w0 w : World} {X : List Nat} {L : List Res} {b : Nat} {o : Obj} (h : Mem w0 X (Res.obj b o :: L) w) (o' : Obj) : Mem w0 X (Res.obj b o' :: L) (w.putObj b o') := by
  have hb := h.foot _ List.mem_cons_self b (List.mem_singleton.2 rfl)
  have hsep := List.pairwise_cons.1 h.sep
  refine ⟨h.os, h.tape, h.dr, h.output, by simpa using h.size, fun k hk hX => ?_, ?_, ?_, List.pairwise_cons.2 ⟨hsep.1, hsep.2⟩⟩
  · rw [World.putObj_heap_other (fun e => by subst e; rcases hb.2 with h1 | h1; omega; exact hX h1)]
    exact h.old k hk hX
  · intro r hr
    rcases List.mem_cons.1 hr with rfl | hr1
    · exact World.putObj_heap_same hb.1
    · exact r.loc w _ (fun k hk => World.putObj_heap_other (fun e => hsep.1 r hr1 b (List.mem_singleton.2 rfl) (e ▸ hk))) (h.res r (List.mem_cons_of_mem _ hr1))
  · intro r hr k hk
    simp only [World.putObj_size]
    rcases List.mem_cons.1 hr with rfl | hr
    · exact h.foot (Res.obj b o) List.mem_cons_self k hk
    · exact h.foot r (List.mem_cons_of_mem _ hr) k hk

/-! resources in a bundle -/
def Sep (L : List Res) : Prop := L.Pairwise (fun r s => ∀ b ∈ r.foot, b ∉ s.foot)

def Res.all (L : List Res) : Res where
  foot := L.flatMap Res.foot
  holds := fun w => Sep L ∧ ∀ r ∈ L, r.holds w
  loc := fun w w' h hw => ⟨hw.1, fun r hr => r.loc w w' (fun b hb => h b (List.mem_flatMap.2 ⟨r, hr, hb⟩)) (hw.2 r hr)⟩

theorem Mem.bundle {w0 w : World} {X : List Nat} {L L' : List Res} (h : Mem w0 X (L ++ L') w) : Mem w0 X (Res.all L :: L') w := by
  have hs := List.pairwise_append.1 h.sep
  refine ⟨h.os, h.tape, h.dr, h.output, h.size, h.old, ?_, ?_, List.pairwise_cons.2 ⟨?_, hs.2.1⟩⟩
  · intro r hr
    rcases List.mem_cons.1 hr with rfl | hr
    · exact ⟨hs.1, fun r hr => h.res r (List.mem_append_left _ hr)⟩
    · exact h.res r (List.mem_append_right _ hr)
  · intro r hr b hb
    rcases List.mem_cons.1 hr with rfl | hr
    · obtain ⟨r, hr, hb⟩ := List.mem_flatMap.1 hb
      exact h.foot r (List.mem_append_left _ hr) b hb
    · exact h.foot r (List.mem_append_right _ hr) b hb
  · intro s hs' b hb hb'
    obtain ⟨r, hr, hb⟩ := List.mem_flatMap.1 hb
    exact hs.2.2 r hr s hs' b hb hb'

theorem Mem.unbundle {w0 w : World} {X : List Nat} {L L' : List Res} (h : Mem w0 X (Res.all L :: L') w) : Mem w0 X (L ++ L') w := by
  have hall := h.res (Res.all L) List.mem_cons_self
  have hs := List.pairwise_cons.1 h.sep
  refine ⟨h.os, h.tape, h.dr, h.output, h.size, h.old, ?_, ?_, List.pairwise_append.2 ⟨hall.1, hs.2, ?_⟩⟩
  · intro r hr
    rcases List.mem_append.1 hr with hr | hr
    · exact hall.2 r hr
    · exact h.res r (List.mem_cons_of_mem _ hr)
  · intro r hr b hb
    rcases List.mem_append.1 hr with hr | hr
    · exact h.foot (Res.all L) List.mem_cons_self b (List.mem_flatMap.2 ⟨r, hr, hb⟩)
    · exact h.foot r (List.mem_cons_of_mem _ hr) b hb
  · intro r hr s hs' b hb hb'
    exact hs.1 s hs' b (List.mem_flatMap.2 ⟨r, hr, hb⟩) hb'

/-! calls of a yield -/
def YieldC (P : Program) (l : Nat) (args : List Value) (w : World) (X : List Nat) (R : Value → List Res → Prop) : Prop :=
  ∃ fn tmps assign body, (Instr.yield l args.toArray).run P w = .ok (.round l fn tmps assign body) w ∧ ∀ r, RoundIn (Fw r) 0 P l fn tmps assign body w fun e w' => ∃ v L, e = .returned v ∧ Mem w X L w' ∧ R v L

section
variable {J : Jd} {ops : Array Oper} {dest : Option (List Nat)} {Q : Post} {i : Nat} {rest : List (Nat × Kind)} {E : Env} {ds : List Deferred} {L : List Res}
variable {d : Option Nat} {ty : TypeId} {pos : String} {aft : Array Edge} {g : Option (Nat × Bool)}

/-- a call of a yield; n resources in front are handed over -/
theorem Plan.callY {l : Nat} {x : Operand} {xs : Array Operand} {ts : Array TypeId} {args : List Value} {R : Value → List Res → Prop} (X : List Nat) (n : Nat)
    (ho : ops[i]? = some ⟨d, .call ⟨.value x, xs, ts⟩, ty, pos, aft, g⟩) (hg : wantE ops ⟨d, .call ⟨.value x, xs, ts⟩, ty, pos, aft, g⟩ E = true) (hx : ev E x = .func (.yield l) #[] #[])
    (ha : xs.toList.map (ev E) = args) (hD : n = 0 ∨ ∀ D, dest = some D → i ∈ D)
    (hX : ∀ b ∈ X, ∃ r ∈ L.take n, b ∈ r.foot)
    (hc : ∀ w, Mem J.w0 J.X L w → YieldC J.P l args w X R) (k : ∀ v Ln, R v Ln → Plan J ops dest Q rest (upd E d v) ds (Ln ++ L.drop n)) : Plan J ops dest Q ((i, .ef) :: rest) E ds L :=
  Plan.ef ho hg (by intro c h; cases h) fun Rf w hm => by
    obtain ⟨fn, tmps, assign, body, hy, hround⟩ := hc w (hm.sub (List.sublist_append_left _ _))
    have hr : (execOp (ev E) ⟨d, .call ⟨.value x, xs, ts⟩, ty, pos, aft, g⟩).run J.P w = .ok (.round l fn tmps assign body) w := by
      unfold execOp
      subst ha
      have hy' : (Instr.yield l (xs.map (ev E))).run J.P w = .ok (.round l fn tmps assign body) w := by rw [map_list]; exact hy
      simp [resolve, hx, Deferred.ofValue, invoke, hy']
    rw [hr]
    refine RoundIn.mono (hround J.r) ?_
    rintro e w' ⟨v, Ln, rfl, h2, h3⟩
    have hm' : Mem J.w0 J.X (L.take n ++ (L.drop n ++ Rf)) w := by rw [← List.append_assoc, List.take_append_drop]; exact hm
    refine ⟨v, Ln ++ L.drop n, rfl, ?_, fun D hD' hi => ?_, k v Ln h3⟩
    · rw [List.append_assoc]; exact hm'.call h2 hX
    · rcases hD with rfl | hD
      · intro Rf w1 hm1
        refine hm1.sub ?_
        simp only [List.drop_zero]
        exact (List.sublist_append_right Ln L).append_right Rf
      · exact absurd (hD D hD') hi
end

/-- the contract of an iterator: it hands over args 0, args 1, .. args (n - 1), until one is refused; it leaves blocks X to the one that takes them -/
def SeqC (P : Program) (f : FuncId) (lb : Array Value) (n : Nat) (args : Nat → List Value) (w : World) (X : List Nat) : Prop :=
  ∀ {G : Type} (l : Nat) (Y : G → Res) (ok : Nat → G → Prop) (okX : G → Prop) (g0 : G), (Y g0).foot = X → Mem w X [Y g0] w → ok 0 g0 →
    (∀ k g w', k < n → ok k g → Mem w X [Y g] w' → YieldC P l (args k) w' (Y g).foot (fun v L => ∃ g', L = [Y g'] ∧ (v = .bool true ∧ ok (k + 1) g' ∨ v = .bool false ∧ okX g'))) →
    Ct P f (#[.func (.yield l) #[] #[]] ++ lb) w X (fun _ L => ∃ g', L = [Y g'] ∧ (ok n g' ∨ okX g'))

def mark (D : Nat) : Deferred := { target := .collected D, args := #[] }
abbrev Res.dfr (D : Nat) : Res := Res.obj D (.deferred (some []))

def updP (E : Env) : List Nat → List Value → Env
  | p :: ps, v :: vs => updP (upd E (some p) v) ps vs
  | _, _ => E

theorem Rep.updP {N : Nat} {ds : List Deferred} : ∀ {ps : List Nat} {vs : List Value} {E : Env} {a : Act}, Rep N ds a E → (∀ p ∈ ps, p < N) →
    Rep N ds { a with tmps := (ps.zip vs).foldl (fun t (p, v) => t.setIfInBounds p v) a.tmps } (updP E ps vs)
  | [], vs, E, a, h, _ => by cases vs <;> exact h
  | p :: ps, [], E, a, h, _ => h
  | p :: ps, v :: vs, E, a, h, hp => by
    have h1 := h.put (some p) v (fun d hd => by injection hd with hd; subst hd; exact hp _ List.mem_cons_self)
    exact Rep.updP (ps := ps) (vs := vs) h1 (fun q hq => hp q (List.mem_cons_of_mem _ hq))

/-- how a round is left -/
def roundQ (J : Jd) {G : Type} (I : G → List Res) (okN : G → Prop) (okX : Code → G → Prop) : Post := fun e E ds L =>
  match e with
  | .normal => ∃ g', okN g' ∧ Ent J L (I g')
  | .ret => ∃ g', okX .ret g' ∧ Ent J L (I g')
  | .exit id => ∃ g', okX (.exit id) g' ∧ Ent J L (I g')
  | _ => False

theorem Mem.rebase {w0 w0' w w' : World} {X : List Nat} {L : List Res} {l : Nat} {o o' : Obj} (hl : w0.heap[l]? = some o) (hlX : l ∉ X) (h : Mem w0 X L w) (h0 : w0' = w0.putObj l o') (hw : w' = w.putObj l o') : Mem w0' X L w' := by
  subst h0 hw
  have hlt : l < w0.heap.size := (Array.getElem?_eq_some_iff.1 hl).1
  refine ⟨h.os, h.tape, h.dr, h.output, by simpa using h.size, fun b hb hX => ?_, fun r hr => ?_, fun r hr b hb => by simpa using h.foot r hr b hb, h.sep⟩
  · simp only [World.putObj_size] at hb
    by_cases e : b = l
    · subst e
      rw [World.putObj_heap_same hlt, World.putObj_heap_same (Nat.lt_of_lt_of_le hlt h.size)]
    · rw [World.putObj_heap_other e, World.putObj_heap_other e]
      exact h.old b hb hX
  · refine r.loc w _ (fun b hb => World.putObj_heap_other (fun e => ?_)) (h.res r hr)
    subst e
    rcases (h.foot r hr b hb).2 with h1 | h1
    · omega
    · exact hlX h1

/-- range over a function -/
theorem HW.rangeFunc {G : Type} {J : Jd} {g : Operand} {ps : Array Tmp} {assign body : Code} {Q : Post} {E : Env} {ds : List Deferred} {L : List Res} {gf : FuncId} {lb : Array Value}
    (n : Nat) (args : Nat → List Value) (I : G → List Res) (Lk : List Res) (ok : Nat → G → Prop) (okX : Code → G → Prop) (g0 : G)
    (hr : J.r = none) (hg : ev E g = .func (.func gf) #[] lb) (hps : (ps.toList.all fun p => Nat.blt p J.N) = true) (hlen : ∀ k, (args k).length = ps.size)
    (hL : Ent J L (I g0 ++ Lk)) (h0 : ok 0 g0)
    (hseq : ∀ w X, Mem J.w0 J.X Lk w → (∀ b ∈ X, (J.w0.heap.size ≤ b ∨ b ∈ J.X) ∧ ∀ r ∈ Lk, b ∉ r.foot) → SeqC J.P gf lb n args w X)
    (hround : ∀ l k s wa wb, k < n → ok k s → Mem J.w0 J.X (I s ++ Lk) wa → Mem J.w0 J.X (I s ++ Lk) wb →
      HW ⟨J.P, some l, J.N, wa, (I s).flatMap Res.foot⟩ assign (thenPost (HW ⟨J.P, some l, J.N, wb, (I s).flatMap Res.foot⟩ body (roundQ ⟨J.P, some l, J.N, wb, (I s).flatMap Res.foot⟩ I (ok (k + 1)) okX)) (fun _ _ _ _ => False))
        (updP E ps.toList (args k)) [] (I s))
    (hdone : ∀ D s, ok n s → Q .normal E (mark D :: ds) (Res.dfr D :: (I s ++ Lk)))
    (hstop : ∀ D c s, okX c s → HW J c Q E (mark D :: ds) (Res.dfr D :: (I s ++ Lk))) : HW J (.rangeFunc g ps assign body) Q E ds L := fun a w hrp hm => by
  refine wpIn_rangeFunc ?_
  intro fn hfn
  have hm0 := hL w hm
  obtain ⟨rec, hrec⟩ : ∃ rec : LoopState → Option Code → Loop, rec = fun st pe => { state := st, pending := pe, fn, tmps := a.tmps, params := ps, assign, body, defers := w.heap.size } := ⟨_, rfl⟩
  obtain ⟨W1, hW1⟩ : ∃ W1, (w.alloc (.deferred (some []))).alloc (.loop (rec .ready none)) = W1 := ⟨_, rfl⟩
  have hm1 : Mem J.w0 J.X (Res.obj (w.heap.size + 1) (.loop (rec .ready none)) :: Res.dfr w.heap.size :: (I g0 ++ Lk)) W1 := by
    have h1 := (hm0.allocO (.deferred (some []))).allocO (.loop (rec .ready none))
    rw [World.size_alloc, hW1] at h1
    exact h1
  obtain ⟨l, hl⟩ : ∃ l, l = w.heap.size + 1 := ⟨_, rfl⟩
  obtain ⟨D, hD⟩ : ∃ D, D = w.heap.size := ⟨_, rfl⟩
  have hlD : l ≠ D := by omega
  rw [← hl, ← hD] at hm1
  -- the caller's own, with the record, in a bundle
  let stOf : Option Code → Loop := fun j => match j with | none => rec .ready none | some c => rec .done (some c)
  let Y : G × Option Code → Res := fun s => Res.all (Res.obj l (.loop (stOf s.2)) :: Res.dfr D :: I s.1)
  have hmY : Mem J.w0 J.X (Y (g0, none) :: Lk) W1 := Mem.bundle (L := Res.obj l (.loop (stOf none)) :: Res.dfr D :: I g0) hm1
  have hXfoot : ∀ b ∈ (Y (g0, none)).foot, b < W1.heap.size ∧ (J.w0.heap.size ≤ b ∨ b ∈ J.X) := fun b hb => hmY.foot _ List.mem_cons_self b hb
  have hsepY := List.pairwise_cons.1 hmY.sep
  have hq : SeqC J.P gf lb n args W1 (Y (g0, none)).foot := hseq W1 (Y (g0, none)).foot (hmY.sub (List.sublist_cons_self _ _)) (fun b hb => ⟨(hXfoot b hb).2, fun r hr' => hsepY.1 r hr' b hb⟩)
  have hself : Mem W1 (Y (g0, none)).foot [Y (g0, none)] W1 := ⟨rfl, rfl, Nat.le_refl _, rfl, Nat.le_refl _, fun _ _ _ => rfl, fun r hr' => by
      obtain rfl := List.mem_singleton.1 hr'; exact hmY.res _ List.mem_cons_self, fun r hr' b hb => by
      obtain rfl := List.mem_singleton.1 hr'; exact ⟨(hXfoot b hb).1, .inr hb⟩, List.pairwise_singleton _ _⟩
  have hctr := hq l Y (fun k s => ok k s.1 ∧ s.2 = none) (fun s => ∃ c, s.2 = some c ∧ okX c s.1) (g0, none) rfl hself ⟨h0, rfl⟩ (by
    rintro k ⟨s, j⟩ w' hk ⟨hok, hj⟩ hmw
    simp only at hok hj
    subst hj
    -- what holds at a round's start, for the caller
    have hcall : Mem J.w0 J.X (Y (s, none) :: Lk) w' := Mem.call (L1 := [Y (g0, none)]) (L2 := Lk) (Ln := [Y (s, none)]) hmY hmw (fun b hb => ⟨_, List.mem_singleton.2 rfl, hb⟩)
    have hun := Mem.unbundle hcall
    have hloc := Mem.unbundle (L' := []) hmw
    rw [List.append_nil] at hloc
    have hrl : w'.heap[l]? = some (.loop (rec .ready none)) := hloc.res _ List.mem_cons_self
    have hrD : w'.heap[D]? = some (.deferred (some [])) := hloc.res (Res.dfr D) (by simp)
    have hlt : l < w'.heap.size := (Array.getElem?_eq_some_iff.1 hrl).1
    have hltD : D < w'.heap.size := (Array.getElem?_eq_some_iff.1 hrD).1
    have hsep := List.pairwise_cons.1 hloc.sep
    have hsep2 := List.pairwise_cons.1 hsep.2
    have hlI : l ∉ (I s).flatMap Res.foot := fun h => by
      obtain ⟨r, hr', hb⟩ := List.mem_flatMap.1 h
      exact hsep.1 r (List.mem_cons_of_mem _ hr') l (List.mem_singleton.2 rfl) hb
    have hDI : D ∉ (I s).flatMap Res.foot := fun h => by
      obtain ⟨r, hr', hb⟩ := List.mem_flatMap.1 h
      exact hsep2.1 r hr' D (List.mem_singleton.2 rfl) hb
    have hma : Mem J.w0 J.X (I s ++ Lk) w' := hun.sub (.cons _ (.cons _ (.refl _)))
    have hmb : Mem J.w0 J.X (I s ++ Lk) (w'.putObj l (.loop { rec .ready none with state := .busy })) := (Mem.putO hun (.loop { rec .ready none with state := .busy })).sub (.cons _ (.cons _ (.refl _)))
    have hselfI : ∀ {W : World}, Mem J.w0 J.X (I s ++ Lk) W → Mem W ((I s).flatMap Res.foot) (I s) W := fun {W} h => ⟨rfl, rfl, Nat.le_refl _, rfl, Nat.le_refl _, fun _ _ _ => rfl, fun r hr' => h.res r (List.mem_append_left _ hr'), fun r hr' b hb =>
      ⟨(h.foot r (List.mem_append_left _ hr') b hb).1, .inr (List.mem_flatMap.2 ⟨r, hr', hb⟩)⟩, (List.pairwise_append.1 h.sep).1⟩
    have hrd := hround l k s w' _ hk hok hma hmb
    have hy := run_yield (P := J.P) (args := (args k).toArray) hrl (by rw [hrec]; simpa using hlen k)
    rw [hrec] at hy
    refine ⟨fn, _, assign, body, hy, fun r => roundIn_of_wpIn (F := Fw r) hfn ?_⟩
    have hrep : Rep J.N [] { tmps := a.tmps, defers := [] } E := ⟨hrp.size, rfl, hrp.get⟩
    have hrep1 := Rep.updP (ps := ps.toList) (vs := args k) hrep (fun p hp => by simpa [Nat.blt_eq] using List.all_eq_true.1 hps p hp)
    have hfold : (ps.zip (args k).toArray).foldl (fun tmps (t, a) => tmps.setIfInBounds t a) a.tmps = (ps.toList.zip (args k)).foldl (fun t (p, v) => t.setIfInBounds p v) a.tmps := by
      rw [← Array.foldl_toList, Array.toList_zip]
    have hw1 := hrd _ w' hrep1 (hselfI hma)
    rw [← hfold] at hw1
    refine wpIn_mono hw1 ?_
    rintro e a1 w1 ⟨E1, ds1, L1, hr1, hmm1, hq1⟩
    cases e with
    | exit id => exact hq1.elim
    | goto t => exact hq1.elim
    | ret => exact hq1.elim
    | panic c => exact hq1.elim
    | outgrown => exact hq1.elim
    | normal =>
      have hl1 : w1.heap[l]? = some (.loop (rec .ready none)) := (hmm1.old l hlt hlI).trans hrl
      have hmm2 := Mem.rebase (o' := .loop { rec .ready none with state := .busy }) hrl hlI hmm1 rfl rfl
      refine ⟨_, run_beginRound hl1 (by rw [hrec]), ?_⟩
      refine wpIn_mono (hq1 a1 _ hr1 hmm2) ?_
      rintro e a2 w2 ⟨E2, ds2, L2, hr2, hmm3, hq2⟩
      have fin : ∀ (jump : Option Code) (s' : G), Ent ⟨J.P, some l, J.N, w'.putObj l (.loop { rec .ready none with state := .busy }), (I s).flatMap Res.foot⟩ L2 (I s') →
          ∃ w4, (Instr.endRound l jump).run J.P w2 = .ok (.bool jump.isNone) w4 ∧ Mem w' (Y (s, none)).foot [Y (s', jump)] w4 := fun jump s' hE => by
        have hm5 := hE _ hmm3
        have hl2 : w2.heap[l]? = some (.loop { rec .ready none with state := .busy }) := (hm5.old l (by simpa using hlt) hlI).trans (World.putObj_heap_same hlt)
        have hD2 : w2.heap[D]? = some (.deferred (some [])) := (hm5.old D (by simpa using hltD) hDI).trans ((World.putObj_heap_other (Ne.symm hlD)).trans hrD)
        have hl2' : l < w2.heap.size := (Array.getElem?_eq_some_iff.1 hl2).1
        have hD2' : D < w2.heap.size := (Array.getElem?_eq_some_iff.1 hD2).1
        have he := run_endRound (P := J.P) jump hl2
        have hst : ({ { rec .ready none with state := .busy } with state := if jump.isNone then .ready else .done, pending := jump } : Loop) = stOf jump := by
          rw [hrec]; cases jump <;> simp [stOf, hrec]
        rw [hst] at he
        have hnl : ∀ r ∈ I s', ∀ b ∈ r.foot, b ≠ l ∧ b ≠ D := fun r hr' b hb => by
          have := hm5.foot r hr' b hb
          constructor
          · rintro rfl
            rcases this.2 with h1 | h1
            · simp at h1; omega
            · exact hlI h1
          · rintro rfl
            rcases this.2 with h1 | h1
            · simp at h1; omega
            · exact hDI h1
        refine ⟨_, he, ?_⟩
        have hbig : Mem w' (Y (s, none)).foot (Res.obj l (.loop (stOf jump)) :: Res.dfr D :: I s') (w2.putObj l (.loop (stOf jump))) := by
          refine ⟨hm5.os, hm5.tape, hm5.dr, hm5.output, by have := hm5.size; simp only [World.putObj_size] at this ⊢; exact this, fun b hb hX => ?_, ?_, ?_, ?_⟩
          · have hbl : b ≠ l := fun e => hX (by subst e; exact List.mem_flatMap.2 ⟨_, List.mem_cons_self, List.mem_singleton.2 rfl⟩)
            have hbI : b ∉ (I s).flatMap Res.foot := fun h => hX (by
              obtain ⟨r, hr', hb'⟩ := List.mem_flatMap.1 h
              exact List.mem_flatMap.2 ⟨r, List.mem_cons_of_mem _ (List.mem_cons_of_mem _ hr'), hb'⟩)
            rw [World.putObj_heap_other hbl, hm5.old b (by simpa using hb) hbI, World.putObj_heap_other hbl]
          · intro r hr'
            rcases List.mem_cons.1 hr' with rfl | hr'
            · exact World.putObj_heap_same hl2'
            · rcases List.mem_cons.1 hr' with rfl | hr'
              · exact (World.putObj_heap_other (Ne.symm hlD)).trans hD2
              · exact r.loc w2 _ (fun b hb => World.putObj_heap_other (hnl r hr' b hb).1) (hm5.res r hr')
          · intro r hr' b hb
            simp only [World.putObj_size]
            rcases List.mem_cons.1 hr' with rfl | hr'
            · obtain rfl := List.mem_singleton.1 hb
              exact ⟨hl2', .inr (List.mem_flatMap.2 ⟨_, List.mem_cons_self, List.mem_singleton.2 rfl⟩)⟩
            · rcases List.mem_cons.1 hr' with rfl | hr'
              · obtain rfl := List.mem_singleton.1 hb
                exact ⟨hD2', .inr (List.mem_flatMap.2 ⟨Res.dfr b, List.mem_cons_of_mem _ List.mem_cons_self, List.mem_singleton.2 rfl⟩)⟩
              · have := hm5.foot r hr' b hb
                refine ⟨this.1, this.2.imp (fun h => by simpa using h) fun h => ?_⟩
                obtain ⟨r2, hr2, hb2⟩ := List.mem_flatMap.1 h
                exact List.mem_flatMap.2 ⟨r2, List.mem_cons_of_mem _ (List.mem_cons_of_mem _ hr2), hb2⟩
          · refine List.pairwise_cons.2 ⟨fun r hr' b hb hb' => ?_, List.pairwise_cons.2 ⟨fun r hr' b hb hb' => ?_, hm5.sep⟩⟩
            · obtain rfl := List.mem_singleton.1 hb
              rcases List.mem_cons.1 hr' with rfl | hr'
              · exact hlD (List.mem_singleton.1 hb')
              · exact (hnl r hr' b hb').1 rfl
            · obtain rfl := List.mem_singleton.1 hb
              exact (hnl r hr' b hb').2 rfl
        have := Mem.bundle (L := Res.obj l (.loop (stOf jump)) :: Res.dfr D :: I s') (L' := []) (by rw [List.append_nil]; exact hbig)
        exact this
      cases e with
      | normal =>
        obtain ⟨s', hok', hE⟩ := hq2
        obtain ⟨w4, he, hm4⟩ := fin none s' hE
        exact ⟨_, w4, he, _, _, rfl, hm4, (s', none), rfl, .inl ⟨rfl, hok', rfl⟩⟩
      | ret =>
        obtain ⟨s', hok', hE⟩ := hq2
        obtain ⟨w4, he, hm4⟩ := fin (some .ret) s' hE
        exact ⟨_, w4, he, _, _, rfl, hm4, (s', some .ret), rfl, .inr ⟨rfl, _, rfl, hok'⟩⟩
      | exit id =>
        obtain ⟨s', hok', hE⟩ := hq2
        obtain ⟨w4, he, hm4⟩ := fin (some (.exit id)) s' hE
        exact ⟨_, w4, he, _, _, rfl, hm4, (s', some (.exit id)), rfl, .inr ⟨rfl, _, rfl, hok'⟩⟩
      | goto t => exact hq2.elim
      | panic c => exact hq2.elim
      | outgrown => exact hq2.elim)
  refine ⟨l, [mark D], W1, { target := .fn (.func gf) lb, args := #[.func (.yield l) #[] #[]] }, W1, gf, #[.func (.yield l) #[] #[]] ++ lb, W1, ?_, ?_, fun _ _ => trivial, ?_, fun h => by simp [Fence.wide] at h, ?_⟩
  · rw [hr, ← hW1, hrec, hl, hD]; exact run_enterLoop_outer _ _ _ _ _
  · have hge : a.eval g = .func (.func gf) #[] lb := by rw [hrp.eval]; exact hg
    have hc : ∀ v, a.eval (.const v) = v := fun _ => rfl
    simp [rangeCall, resolve, hge, hc, Deferred.ofValue]
  · simp [invoke, hctr.1 _ _]
  · refine callsIn_fw.2 (Calls.mono hctr.2 ?_)
    rintro e w3 ⟨v, L3, rfl, hm3, ⟨s, j⟩, rfl, hs⟩
    have hcall : Mem J.w0 J.X (Y (s, j) :: Lk) w3 := Mem.call (L1 := [Y (g0, none)]) (L2 := Lk) (Ln := [Y (s, j)]) hmY hm3 (fun b hb => ⟨_, List.mem_singleton.2 rfl, hb⟩)
    have hun : Mem J.w0 J.X (Res.obj l (.loop (stOf j)) :: (Res.dfr D :: (I s ++ Lk))) w3 := Mem.unbundle hcall
    have hrl : w3.heap[l]? = some (.loop (stOf j)) := hun.res _ List.mem_cons_self
    have hend := run_endLoop (P := J.P) hrl (by cases j <;> simp [stOf, hrec])
    have hput := (Mem.putO hun (.loop { stOf j with state := .exhausted })).sub (List.sublist_cons_self _ _)
    have hrep : Rep J.N (mark D :: ds) { a with defers := [mark D] ++ a.defers } E := ⟨hrp.size, by rw [hrp.defs]; rfl, hrp.get⟩
    rcases hs with ⟨hok, hj⟩ | ⟨c, hj, hok⟩
    · simp only at hj hok
      subst hj
      refine ⟨none, _, by rw [hend]; simp [stOf, hrec], ⟨E, mark D :: ds, _, hrep, hput, hdone D s hok⟩⟩
    · simp only at hj hok
      subst hj
      refine ⟨some c, _, by rw [hend]; simp [stOf, hrec], hstop D c s hok _ _ hrep hput⟩

/-! functions that hold a range over a function -/
def retPostM (J : Jd) (rs : List ResultVar) (R : Value → List Res → Prop) : Post := fun e E ds L =>
  match e with
  | .normal | .ret => ∃ (Ds : List Nat) (vs : List Value) (L' L2 : List Res), ds = Ds.map mark ∧ Ent J L (Ds.map Res.dfr ++ L') ∧ Gives J E L' rs vs ∧ L2.Sublist L' ∧ R (packed vs) L2
  | _ => False

theorem leaves_marks {J : Jd} {fn : Func} {tmps : Array Value} {v : Value} {Rr : Ending → World → Prop} {L' : List Res} (hres : ∀ w, Mem J.w0 J.X L' w → (results fn tmps).run J.P w = .ok v w) (hR : ∀ w, Mem J.w0 J.X L' w → Rr (.returned v) w) :
    ∀ (Ds : List Nat) (w : World), Mem J.w0 J.X (Ds.map Res.dfr ++ L') w → LeavesInM (Fw J.r) 0 J.P fn tmps Rr (Ds.map mark) .returning w
  | [], w, hm => ⟨v, hres w hm, hR w hm⟩
  | D :: Ds, w, hm => by
    refine ⟨by simp, .inl ⟨D, w.putObj D (.deferred none), rfl, ?_, ?_⟩⟩
    · exact run_takeDeferred (hm.res (Res.dfr D) List.mem_cons_self)
    · exact leaves_marks hres hR Ds _ ((Mem.putO hm (.deferred none)).sub (List.sublist_cons_self _ _))

theorem Ct.of_bodyM {P : Program} {f : FuncId} {fn : Func} {c : Code} {rs : List ResultVar} {N : Nat} {args : Array Value} {w : World} {X : List Nat} {L : List Res} {R : Value → List Res → Prop}
    (hf : P.funcs[f]? = some fn) (hb : fn.body = some c) (hrs : fn.results.toList = rs) (hN : fn.ntmps = N) (hn : (fn.name == "runtime.NumGoroutine") = false) (hargs : Nat.ble args.size N = true) (hm : Mem w X L w)
    (h : HW ⟨P, none, N, w, X⟩ c (retPostM ⟨P, none, N, w, X⟩ rs R) (argEnv args.toList) [] L) : Ct P f args w X R := by
  refine ⟨fun args w => by
    have h1 : fn.name ≠ "runtime.NumGoroutine" := by simpa using hn
    simp [callFunc, hf, h1, hb, Go.mark], ?_⟩
  refine callsIn_fw (r := none) (n := 0).1 (callsIn_of_wp_marks hf hb trivial ?_)
  have hr : Rep N [] { tmps := args ++ Array.replicate (fn.ntmps - args.size) undef, defers := [] } (argEnv args.toList) := by
    have hargs := Nat.le_of_ble_eq_true hargs
    refine ⟨by simp; omega, rfl, fun t => ?_⟩
    rw [argEnv_get]
    simp only [Array.getD_eq_getD_getElem?, List.getD_eq_getElem?_getD, Array.getElem?_append, Array.getElem?_toList]
    by_cases ht : t < args.size
    · simp [ht]
    · simp only [ht, if_false, Array.getElem?_eq_none (Nat.le_of_not_lt ht), Option.getD_none, Array.getElem?_replicate]
      split <;> rfl
  refine wpIn_mono (h _ _ hr hm) ?_
  rintro e a w' ⟨E, ds, L', h1, h2, h3⟩
  have key : (∃ (Ds : List Nat) (vs : List Value) (L'' L3 : List Res), ds = Ds.map mark ∧ Ent ⟨P, none, N, w, X⟩ L' (Ds.map Res.dfr ++ L'') ∧ Gives ⟨P, none, N, w, X⟩ E L'' rs vs ∧ L3.Sublist L'' ∧ R (packed vs) L3) →
      LeavesInM (Fw none) 0 P fn a.tmps (fun e w' => ∃ v L, e = .returned v ∧ Mem w X L w' ∧ R v L) a.defers .returning w' := by
    rintro ⟨Ds, vs, L2, L3, rfl, hE, hg, hsub, hR⟩
    have := leaves_marks (J := ⟨P, none, N, w, X⟩) (fn := fn) (tmps := a.tmps) (v := packed vs) (Rr := fun e w' => ∃ v L, e = .returned v ∧ Mem w X L w' ∧ R v L)
      (fun w1 hm1 => results_run h1 hm1 hrs hg) (fun w1 hm1 => ⟨_, L3, rfl, hm1.sub hsub, hR⟩) Ds w' (hE w' h2)
    rw [h1.defs]
    exact this
  cases e with
  | normal => exact key h3
  | ret => exact key h3
  | exit id => exact h3.elim
  | goto l => exact h3.elim
  | panic c => exact h3.elim
  | outgrown => exact h3.elim

end Go.Proofs.Ytjmklbkcpjmcaaa.H

namespace Go.Proofs.Ytjmklbkcpjmcaaa.H
open Go Go.RowKit
set_option linter.unusedVariables false
set_option linter.unusedSimpArgs false

section
variable {J : Jd} {ops : Array Oper} {dest : Option (List Nat)} {Q : Post} {i : Nat} {rest : List (Nat × Kind)} {E : Env} {ds : List Deferred} {L : List Res}
variable {d : Option Nat} {ty : TypeId} {pos : String} {aft : Array Edge} {g : Option (Nat × Bool)}

def maxI (a b : Int) : Int := if b > a then b else a
def minI (a b : Int) : Int := if b < a then b else a

theorem Plan.max {x y : Operand} {ts : Array TypeId} {a b : Int} {kd : IntKind} (ho : ops[i]? = some ⟨d, .call ⟨.builtin .max, #[x, y], ts⟩, ty, pos, aft, g⟩)
    (hg : wantE ops ⟨d, .call ⟨.builtin .max, #[x, y], ts⟩, ty, pos, aft, g⟩ E = true) (hx : ev E x = .int kd a) (hy : ev E y = .int kd b)
    (k : Plan J ops dest Q rest (upd E d (.int kd (maxI a b))) ds L) : Plan J ops dest Q ((i, .st) :: rest) E ds L :=
  Plan.st ho hg (St.of_exec (by intro c h; cases h) fun w _ => by
    unfold execOp
    simp [resolve, hx, hy, invoke, builtin, run_max_int2, Result.andThen, maxI]) k

theorem Plan.min {x y : Operand} {ts : Array TypeId} {a b : Int} {kd : IntKind} (ho : ops[i]? = some ⟨d, .call ⟨.builtin .min, #[x, y], ts⟩, ty, pos, aft, g⟩)
    (hg : wantE ops ⟨d, .call ⟨.builtin .min, #[x, y], ts⟩, ty, pos, aft, g⟩ E = true) (hx : ev E x = .int kd a) (hy : ev E y = .int kd b)
    (k : Plan J ops dest Q rest (upd E d (.int kd (minI a b))) ds L) : Plan J ops dest Q ((i, .st) :: rest) E ds L :=
  Plan.st ho hg (St.of_exec (by intro c h; cases h) fun w _ => by
    unfold execOp
    have hmin : ∀ w, (Builtin.min_ ts ty #[.int kd a, .int kd b]).run J.P w = .ok (.int kd (if b < a then b else a)) w := fun w => by
      simp [Builtin.min_, Builtin.min2]
    simp [resolve, hx, hy, invoke, builtin, hmin, Result.andThen, minI]) k
/-- division and remainder of signed numbers -/
theorem Plan.remT {xt yt : TypeId} {x y : Operand} {a b : Int} (ho : ops[i]? = some ⟨d, .binOp .rem xt x y yt, ty, pos, aft, g⟩)
    (hg : wantE ops ⟨d, .binOp .rem xt x y yt, ty, pos, aft, g⟩ E = true) (hx : ev E x = .int .i64 a) (hy : ev E y = .int .i64 b) (hb : b ≠ 0)
    (k : Plan J ops dest Q rest (upd E d (.int .i64 (a.tmod b))) ds L) : Plan J ops dest Q ((i, .st) :: rest) E ds L :=
  Plan.st ho hg (St.of_exec (by intro c h; cases h) fun w _ => by
    unfold execOp
    simp [hx, hy, eqGuard, binOp, Op.intDiv, hb, Result.andThen]) k

theorem Plan.quoT {xt yt : TypeId} {x y : Operand} {a b : Int} (ho : ops[i]? = some ⟨d, .binOp .quo xt x y yt, ty, pos, aft, g⟩)
    (hg : wantE ops ⟨d, .binOp .quo xt x y yt, ty, pos, aft, g⟩ E = true) (hx : ev E x = .int .i64 a) (hy : ev E y = .int .i64 b) (h : -9223372036854775807 ≤ a ∧ a ≤ 9223372036854775807 ∧ b ≠ 0)
    (k : Plan J ops dest Q rest (upd E d (.int .i64 (a.tdiv b))) ds L) : Plan J ops dest Q ((i, .st) :: rest) E ds L :=
  Plan.st ho hg (St.of_exec (by intro c h; cases h) fun w _ => by
    unfold execOp
    have hb := h.2.2
    have h1 : (a.tdiv b).natAbs ≤ a.natAbs := by rw [Int.natAbs_tdiv]; exact Nat.div_le_self _ _
    have hw := wrap_i64 (n := a.tdiv b) (by omega) (by omega)
    simp [hx, hy, eqGuard, binOp, Op.intDiv, hb, Result.andThen, hw]) k

end
end Go.Proofs.Ytjmklbkcpjmcaaa.H

namespace Go.Proofs.Ytjmklbkcpjmcaaa.H
open Go Go.RowKit
set_option linter.unusedVariables false
set_option linter.unusedSimpArgs false

section
variable {J : Jd} {ops : Array Oper} {dest : Option (List Nat)} {Q : Post} {i : Nat} {rest : List (Nat × Kind)} {E : Env} {ds : List Deferred} {L : List Res}
variable {d : Option Nat} {ty : TypeId} {pos : String} {aft : Array Edge} {g : Option (Nat × Bool)}

/-- equality of bools -/
theorem run_eqB {P : Program} {w : World} {t : TypeId} {a b : Bool} (ht : P.underlying t = some .bool) : (Op.equal t (.bool a) (.bool b)).run P w = .ok (a == b) w := by
  obtain ⟨d, hd⟩ : ∃ d, Op.maxDepth = d + 1 := ⟨9999, rfl⟩
  unfold Op.equal
  rw [hd]
  exact run_equalIn_bool' w d t a b ht

theorem Plan.eqB {xt yt : TypeId} {x y : Operand} {a b : Bool} (ho : ops[i]? = some ⟨d, .binOp .eql xt x y yt, ty, pos, aft, g⟩) (hg : wantE ops ⟨d, .binOp .eql xt x y yt, ty, pos, aft, g⟩ E = true)
    (ht : J.P.underlying xt = some .bool) (hx : ev E x = .bool a) (hy : ev E y = .bool b) (k : Plan J ops dest Q rest (upd E d (.bool (a == b))) ds L) : Plan J ops dest Q ((i, .st) :: rest) E ds L :=
  Plan.st ho hg (St.of_exec (by intro c h; cases h) fun w _ => by
    unfold execOp
    simp only [hx, hy]
    simp [eqGuard, binOp, run_eqB ht, Result.andThen]) k

theorem Plan.neB {xt yt : TypeId} {x y : Operand} {a b : Bool} (ho : ops[i]? = some ⟨d, .binOp .neq xt x y yt, ty, pos, aft, g⟩) (hg : wantE ops ⟨d, .binOp .neq xt x y yt, ty, pos, aft, g⟩ E = true)
    (ht : J.P.underlying xt = some .bool) (hx : ev E x = .bool a) (hy : ev E y = .bool b) (k : Plan J ops dest Q rest (upd E d (.bool (!(a == b)))) ds L) : Plan J ops dest Q ((i, .st) :: rest) E ds L :=
  Plan.st ho hg (St.of_exec (by intro c h; cases h) fun w _ => by
    unfold execOp
    simp only [hx, hy]
    simp [eqGuard, binOp, run_eqB ht, Result.andThen]) k

end
end Go.Proofs.Ytjmklbkcpjmcaaa.H
