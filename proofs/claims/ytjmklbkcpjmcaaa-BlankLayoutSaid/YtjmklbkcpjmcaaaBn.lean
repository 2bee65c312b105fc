/-
  Witness, of the program and of the reference; Admissible of the reference.
  Package tinplateref04: asks, Admissible, nearer, Witness; BlankGrids, its contract.
  Admissible and Witness, whole; BlankGrids, its contract.
-/
import Derived.Test.YtjmklbkcpjmcaaaBj
import Derived.Test.YtjmklbkcpjmcaaaBa
import Derived.Test.YtjmklbkcpjmcaaaV15
namespace Go.Proofs.Ytjmklbkcpjmcaaa.V
open Go Go.RowKit Go.Proofs.Ytjmklbkcpjmcaaa.H Go.Proofs.Ytjmklbkcpjmcaaa.LL
set_option linter.unusedVariables false
set_option linter.unusedSimpArgs false

theorem Sees.rdV {J : Jd} {L : List Res} {α : Type} {en : α → List Value} {k : Nat} {a : Addr} {xs : List α} (h : Rd en k J.w0 (some a) xs) (hX : Off J.X (some a) xs.length) (i : Nat) (hi : i < xs.length) {x : α} (hx : xs[i] = x) : Sees J L (a.add (i * k)) (en x) := by
  subst hx
  exact Sees.rdX h hX i hi

theorem Sees.ownV {J : Jd} {L : List Res} {α : Type} {en : α → List Value} {sz : Nat} {e : TypeId} {o : Option Nat} {c : Nat} {xs : List α} (j : Nat) (hk : ∀ x, (en x).length = sz) (hj : L[j]? = some (Res.own en sz e o c xs)) (b : Nat) (hb : o = some b) (m : Nat) (hm : m < xs.length) {x : α} (hx : xs[m] = x) : Sees J L ((⟨b, 0, none⟩ : Addr).add (m * sz)) (en x) := by
  subst hx
  exact Sees.own j hk hj b hb m hm

def nn (a : Pt) : Int := a.1 * a.1 + a.2 * a.2
/-- a comes before b as a witness -/
def near (a b : Pt) : Bool := decide (nn a < nn b ∨ (nn a = nn b ∧ (b.1 < a.1 ∨ (a.1 = b.1 ∧ b.2 < a.2))))
theorem near_tri {a b : Pt} (h : near a b = false) : a = b ∨ near b a = true := by
  have h1 := of_decide_eq_false h
  by_cases he : a = b
  · exact .inl he
  · refine .inr (decide_eq_true ?_)
    have h2 : ¬ (a.1 = b.1 ∧ a.2 = b.2) := fun e => he (Prod.ext e.1 e.2)
    omega
theorem near_trans {a b c : Pt} (h1 : near a b = true) (h2 : near b c = true) : near a c = true := by
  have h1 := of_decide_eq_true h1
  have h2 := of_decide_eq_true h2
  exact decide_eq_true (by omega)
theorem near_irr {a b : Pt} (h : near a b = true) (h2 : near b a = true) : False := by
  have h1 := of_decide_eq_true h
  have h2 := of_decide_eq_true h2
  omega
def wcmp (a b : Pt) : Int := orL [cmpI (nn a) (nn b), cmpI b.1 a.1, cmpI b.2 a.2]
theorem wcmp_near (a b : Pt) : wcmp a b < 0 ↔ near a b = true := by
  unfold wcmp near
  rw [decide_eq_true_eq]
  generalize nn a = x
  generalize nn b = y
  simp only [orL, cmpI]
  (repeat' split) <;> omega
theorem nn_bd {a : Pt} (h : Bd 12 a.1 ∧ Bd 12 a.2) : -144 ≤ a.1 * a.1 ∧ a.1 * a.1 ≤ 144 ∧ -144 ≤ a.2 * a.2 ∧ a.2 * a.2 ≤ 144 := by
  have h1 := mul_bd h.1 h.1
  have h2 := mul_bd h.2 h.2
  omega

theorem bsI3 (a b c : Int) (w : World) : (Instr.buildSlice 43 3 #[(0, int a), (1, int b), (2, int c)]).run P w = .ok (.slice (some ⟨w.heap.size, 0, none⟩) 3 3) (w.alloc (.cells #[int a, int b, int c] 3 (0, 0))) := by kernel_rfl

theorem witness1_ct (a b : Pt) (w : World) (ha : Bd 12 a.1 ∧ Bd 12 a.2) (hb : Bd 12 b.1 ∧ Bd 12 b.2) : Ct P 60 #[vc a, vc b] w [] (fun r L => r = int (wcmp a b) ∧ L = []) := by
  have q1 := nn_bd ha
  have q2 := nn_bd hb
  refine Ct.of_body (rs := [.tmp 4]) (N := 40) (L := []) Try.func60 rfl rfl rfl (by kernel_rfl) rfl (Mem.refl w) ?_
  refine HW.seq (HW.region [(0, .ef), (1, .ef), (2, .st)] rfl rfl ?_)
  refine Plan.boxA rfl rfl rfl fun b2 => ?_
  refine Plan.boxA rfl rfl rfl fun b3 => ?_
  refine Plan.assign (v := .int _ _) rfl rfl rfl ?_
  refine Plan.done ?_
  refine HW.seq (HW.region_any [] [(0, .st), (1, .st), (2, .st), (3, .st), (4, .st), (5, .st), (6, .st), (7, .st), (8, .st), (9, .st), (10, .st), (11, .st), (12, .st), (13, .st), (14, .st), (15, .st), (16, .st), (17, .st), (18, .st), (19, .st), (20, .st), (21, .st), (23, .st), (24, .st), (25, .st), (26, .st), (28, .st), (29, .st), (30, .st), (31, .st), (22, .ef), (27, .ef), (32, .ef), (33, .ef), (34, .ef), (35, .st)] mix (by kernel_rfl) (fun _ _ _ _ _ h => h) (zeros rfl) ?_)
  refine Plan.fieldAddr rfl rfl fldV0 rfl ?_
  refine Plan.load (v := .int _ _) rfl rfl aggI rfl (Sees.one 1 rfl rfl) ?_
  refine Plan.fieldAddr rfl rfl fldV0 rfl ?_
  refine Plan.load (v := .int _ _) rfl rfl aggI rfl (Sees.one 1 rfl rfl) ?_
  refine Plan.arithI rfl rfl rfl rfl rfl (by omega) ?_
  refine Plan.fieldAddr rfl rfl fldV1 rfl ?_
  refine Plan.load (v := .int _ _) rfl rfl aggI rfl (Sees.one 1 rfl rfl) ?_
  refine Plan.fieldAddr rfl rfl fldV1 rfl ?_
  refine Plan.load (v := .int _ _) rfl rfl aggI rfl (Sees.one 1 rfl rfl) ?_
  refine Plan.arithI rfl rfl rfl rfl rfl (by omega) ?_
  refine Plan.arithI rfl rfl rfl rfl rfl (by omega) ?_
  refine Plan.fieldAddr rfl rfl fldV0 rfl ?_
  refine Plan.load (v := .int _ _) rfl rfl aggI rfl (Sees.one 0 rfl rfl) ?_
  refine Plan.fieldAddr rfl rfl fldV0 rfl ?_
  refine Plan.load (v := .int _ _) rfl rfl aggI rfl (Sees.one 0 rfl rfl) ?_
  refine Plan.arithI rfl rfl rfl rfl rfl (by omega) ?_
  refine Plan.fieldAddr rfl rfl fldV1 rfl ?_
  refine Plan.load (v := .int _ _) rfl rfl aggI rfl (Sees.one 0 rfl rfl) ?_
  refine Plan.fieldAddr rfl rfl fldV1 rfl ?_
  refine Plan.load (v := .int _ _) rfl rfl aggI rfl (Sees.one 0 rfl rfl) ?_
  refine Plan.arithI rfl rfl rfl rfl rfl (by omega) ?_
  refine Plan.arithI rfl rfl rfl rfl rfl (by omega) ?_
  refine Plan.fieldAddr rfl rfl fldV0 rfl ?_
  refine Plan.load (v := .int _ _) rfl rfl aggI rfl (Sees.one 0 rfl rfl) ?_
  refine Plan.fieldAddr rfl rfl fldV0 rfl ?_
  refine Plan.load (v := .int _ _) rfl rfl aggI rfl (Sees.one 1 rfl rfl) ?_
  refine Plan.fieldAddr rfl rfl fldV1 rfl ?_
  refine Plan.load (v := .int _ _) rfl rfl aggI rfl (Sees.one 0 rfl rfl) ?_
  refine Plan.fieldAddr rfl rfl fldV1 rfl ?_
  refine Plan.load (v := .int _ _) rfl rfl aggI rfl (Sees.one 1 rfl rfl) ?_
  refine Plan.callF [] 0 rfl rfl rfl (.inl rfl) (by simp) (fun w hm => compare_ct _ _ _) ?_   -- cmp.Compare[int]
  rintro v Ln ⟨rfl, rfl⟩
  refine Plan.callF [] 0 rfl rfl rfl (.inl rfl) (by simp) (fun w hm => compare_ct _ _ _) ?_   -- cmp.Compare[int]
  rintro v Ln ⟨rfl, rfl⟩
  refine Plan.callF [] 0 rfl rfl rfl (.inl rfl) (by simp) (fun w hm => compare_ct _ _ _) ?_   -- cmp.Compare[int]
  rintro v Ln ⟨rfl, rfl⟩
  refine Plan.buildOwn (xs := [cmpI (nn a) (nn b), cmpI b.1 a.1, cmpI b.2 a.2]) (enc := encI) (sz := 1) rfl rfl rfl (bsI3 _ _ _) rfl rfl (by simp) rfl fun b38 => ?_
  refine Plan.callF [] 0 rfl rfl rfl (.inl rfl) (by simp) (fun w hm => or_ct (some ⟨b38, 0, none⟩) [cmpI (nn a) (nn b), cmpI b.1 a.1, cmpI b.2 a.2] 3 w (Res.own_rd encI1 (hm.res _ List.mem_cons_self)) (by simp)) ?_   -- cmp.Or[int]
  rintro v Ln ⟨rfl, rfl⟩
  refine Plan.assign (v := .int _ _) rfl rfl rfl ?_
  refine Plan.done ?_
  exact HW.ret ⟨rfl, _, [], .tmp rfl .nil, List.nil_sublist _, rfl, rfl⟩

def IsMin (xs : List Pt) (m : Pt) : Prop := m ∈ xs ∧ ∀ u ∈ xs, u = m ∨ near m u = true
theorem isMin_yes {xs : List Pt} {k : Nat} {m : Pt} (h : IsMin (xs.take k) m) (hk : k < xs.length) (hn : near xs[k] m = true) : IsMin (xs.take (k + 1)) xs[k] := by
  rw [List.take_add_one, List.getElem?_eq_getElem hk]
  refine ⟨List.mem_append_right _ (by simp), fun u hu => ?_⟩
  rcases List.mem_append.1 hu with hu | hu
  · rcases h.2 u hu with rfl | h2
    · exact .inr hn
    · exact .inr (near_trans hn h2)
  · exact .inl (by simpa using hu)
theorem isMin_no {xs : List Pt} {k : Nat} {m : Pt} (h : IsMin (xs.take k) m) (hk : k < xs.length) (hn : near xs[k] m = false) : IsMin (xs.take (k + 1)) m := by
  rw [List.take_add_one, List.getElem?_eq_getElem hk]
  refine ⟨List.mem_append_left _ h.1, fun u hu => ?_⟩
  rcases List.mem_append.1 hu with hu | hu
  · exact h.2 u hu
  · obtain rfl : u = xs[k] := by simpa using hu
    exact near_tri hn

structure MnG where
  k : Nat
  m : Pt

theorem minFunc_ct (A : Option Addr) (xs : List Pt) (n c : Nat) (fid : Nat) (cap : Array Value) (f : Pt → Pt → Int) (w : World) (hp : Rd enc 2 w A xs) (hn : n = xs.length) (h0 : 0 < xs.length) (hlen : xs.length ≤ 1000000) (hf : ∀ a b, f a b < 0 ↔ near a b = true)
    (hpred : ∀ a ∈ xs, ∀ b ∈ xs, ∀ w', Ct P fid ([vc a, vc b] ++ cap.toList).toArray w' [] (fun v L => v = int (f a b) ∧ L = [])) :
    Ct P 59 #[.slice A n c, .func (.func fid) #[] cap] w [] (fun r L => ∃ m, IsMin xs m ∧ r = vc m ∧ L = []) := by
  subst hn
  obtain ⟨ad, rfl, _⟩ := hp 0 h0
  obtain ⟨x0, hx0⟩ : ∃ x0, xs[0] = x0 := ⟨_, rfl⟩
  refine Ct.of_body (rs := [.cell 4 52]) (N := 33) (L := []) Try.func59 rfl rfl rfl (by kernel_rfl) rfl (Mem.refl w) ?_
  refine HW.seq (HW.region [(0, .al)] rfl rfl ?_)
  refine Plan.alloc rfl zerV fun b4 => ?_
  refine Plan.done ?_
  refine HW.seq ?_
  refine HW.seq (HW.region [(0, .st), (1, .st), (2, .st)] rfl rfl ?_)
  refine Plan.move (v := .slice _ _ _) rfl rfl rfl ?_
  refine Plan.len rfl rfl slV rfl ?_
  refine Plan.cmp2 rfl rfl rfl rfl rfl (fun h9 => ?_) (fun h9 => ?_)
  · replace h9 := of_decide_eq_true h9
    omega
  · replace h9 := of_decide_eq_false h9
    refine Plan.done ?_
    refine HW.cond_false rfl ?_
    refine HW.skip ?_
    refine HW.seq (HW.region [(0, .st), (1, .st), (2, .st), (3, .al), (4, .ef)] rfl rfl ?_)
    refine Plan.move (v := .slice _ _ _) rfl rfl rfl ?_
    refine Plan.indexN (0) rfl rfl slV sizV rfl rfl rfl rfl (h0) ?_
    refine Plan.loadAgg rfl rfl aggV sizV rfl (Sees.rdV hp Off.nil 0 h0 hx0) rfl ?_
    refine Plan.alloc rfl zerV fun b5 => ?_
    refine Plan.storeA 0 rfl rfl hDn sizV rfl rfl rfl rfl rfl rfl ?_
    refine Plan.done ?_
    refine HW.seq ?_
    refine HW.seq (HW.region [(0, .st)] rfl rfl ?_)
    refine Plan.assign (v := .int _ _) rfl rfl rfl ?_
    refine Plan.done ?_
    refine HW.block ?_
    refine HW.loopL (G := MnG) [6, 14, 15, 16, 17, 18, 19, 20, 21, 22, 23, 24, 25, 26, 27, 28, 29, 30, 31] (fun g => [(6, int g.k)]) (fun g => [Res.blk b5 #[int g.m.1, int g.m.2] 52, Res.blk b4 #[int 0, int 0] 52]) (fun g => 1 ≤ g.k ∧ g.k ≤ xs.length ∧ IsMin (xs.take g.k) g.m) (fun g => xs.length - g.k) (⟨1, x0⟩) ⟨rfl, trivial⟩ (fun w' hm => hm) (⟨Nat.le_refl 1, h0, by
        have e : xs.take 1 = [x0] := by
          cases xs with
          | nil => simp at h0
          | cons y ys => simp at hx0; simp [hx0]
        show IsMin (xs.take 1) x0
        rw [e]
        exact ⟨by simp, fun u hu => .inl (by simpa using hu)⟩⟩) (fun g F hok => ?_)
    obtain ⟨k, mm⟩ := g
    obtain ⟨k1, k2, hmin⟩ := hok
    dsimp only at k1 k2 hmin
    dsimp only
    refine HW.seq ?_
    refine HW.seq (HW.region [(0, .st), (1, .st), (2, .st), (3, .st)] rfl rfl ?_)
    refine Plan.move (v := .int _ _) rfl rfl rfl ?_
    refine Plan.move (v := .slice _ _ _) rfl rfl rfl ?_
    refine Plan.len rfl rfl slV rfl ?_
    refine Plan.cmp2 rfl rfl rfl rfl rfl (fun h17 => ?_) (fun h17 => ?_)
    · replace h17 := of_decide_eq_true h17
      have hlt : k < xs.length := by omega
      obtain ⟨xk, hxk⟩ : ∃ xk, xs[k] = xk := ⟨_, rfl⟩
      have hmm : mm ∈ xs := List.mem_of_mem_take hmin.1
      have hxm : xk ∈ xs := by rw [← hxk]; exact List.getElem_mem hlt
      refine Plan.done ?_
      refine HW.cond_true rfl ?_
      refine HW.skip ?_
      refine HW.seq ?_
      refine HW.block ?_
      refine HW.seq (HW.region_any [] [(0, .st), (1, .st), (2, .st), (3, .st), (4, .st), (5, .st), (6, .ef), (7, .st)] mix (by kernel_rfl) (fun _ _ _ _ _ h => h) (zeros rfl) ?_)
      refine Plan.move (v := .func _ _ _) rfl rfl rfl ?_
      refine Plan.move (v := .slice _ _ _) rfl rfl rfl ?_
      refine Plan.move (v := .int _ _) rfl rfl rfl ?_
      refine Plan.indexN (k) rfl rfl slV sizV rfl rfl rfl rfl (hlt) ?_
      refine Plan.loadAgg rfl rfl aggV sizV rfl (Sees.rdV hp Off.nil k hlt hxk) rfl ?_
      refine Plan.loadAll 0 rfl rfl aggV sizV rfl rfl rfl ?_
      refine Plan.callV (R := fun v L => v = int (f xk mm) ∧ L = []) [] 0 rfl rfl rfl rfl (.inl rfl) (by simp) (fun w hm => hpred xk hxm mm hmm w) ?_
      rintro v Ln ⟨rfl, rfl⟩
      refine Plan.cmp2 rfl rfl rfl rfl rfl (fun h27 => ?_) (fun h27 => ?_)
      · replace h27 := of_decide_eq_true h27
        have hne : near xs[k] mm = true := by rw [hxk]; exact (hf xk mm).1 h27
        refine Plan.done ?_
        refine HW.cond_true rfl ?_
        refine HW.region [(0, .st), (1, .st), (2, .st), (3, .st), (4, .ef)] rfl rfl ?_
        refine Plan.move (v := .slice _ _ _) rfl rfl rfl ?_
        refine Plan.move (v := .int _ _) rfl rfl rfl ?_
        refine Plan.indexN (k) rfl rfl slV sizV rfl rfl rfl rfl (hlt) ?_
        refine Plan.loadAgg rfl rfl aggV sizV rfl (Sees.rdV hp Off.nil k hlt hxk) rfl ?_
        refine Plan.storeA 0 rfl rfl hDn sizV rfl rfl rfl rfl rfl rfl ?_
        refine Plan.done ?_
        refine HW.region [(0, .st), (1, .st), (2, .st)] rfl rfl ?_
        refine Plan.move (v := .int _ _) rfl rfl rfl ?_
        refine Plan.arithI rfl rfl rfl rfl rfl (by omega) ?_
        refine Plan.assign (v := .int _ _) rfl rfl rfl ?_
        refine Plan.done ?_
        exact ⟨⟨k + 1, xk⟩, by dsimp only; omega, ⟨by show 1 ≤ k + 1; omega, hlt, by have := isMin_yes hmin hlt hne; rw [hxk] at this; exact this⟩, rfl, Ent.sub (.refl _), (by repeat (first | exact Agree.havoc _ _ _ | refine Agree.updN ?_ | refine Agree.upd rfl ?_ | refine Agree.updL rfl ?_ | refine Agree.havoc2 rfl ?_)), ⟨rfl, trivial⟩⟩
      · replace h27 := of_decide_eq_false h27
        have hne : near xs[k] mm = false := by
          rw [hxk]
          rcases Bool.eq_false_or_eq_true (near xk mm) with h | h
          · exact absurd ((hf xk mm).2 h) h27
          · exact h
        refine Plan.done ?_
        refine HW.cond_false rfl ?_
        refine HW.skip ?_
        refine HW.region [(0, .st), (1, .st), (2, .st)] rfl rfl ?_
        refine Plan.move (v := .int _ _) rfl rfl rfl ?_
        refine Plan.arithI rfl rfl rfl rfl rfl (by omega) ?_
        refine Plan.assign (v := .int _ _) rfl rfl rfl ?_
        refine Plan.done ?_
        exact ⟨⟨k + 1, mm⟩, by dsimp only; omega, ⟨by show 1 ≤ k + 1; omega, hlt, isMin_no hmin hlt hne⟩, rfl, Ent.sub (.refl _), (by repeat (first | exact Agree.havoc _ _ _ | refine Agree.updN ?_ | refine Agree.upd rfl ?_ | refine Agree.updL rfl ?_ | refine Agree.havoc2 rfl ?_)), ⟨rfl, trivial⟩⟩
    · replace h17 := of_decide_eq_false h17
      have hke : k = xs.length := by omega
      rw [hke, List.take_length] at hmin
      refine Plan.done ?_
      refine HW.cond_false rfl ?_
      refine HW.exit ?_
      refine HW.seq (HW.region [(0, .st), (1, .ef)] rfl rfl ?_)
      refine Plan.loadAll 0 rfl rfl aggV sizV rfl rfl rfl ?_
      refine Plan.storeA 1 rfl rfl hDn sizV rfl rfl rfl rfl rfl rfl ?_
      refine Plan.done ?_
      exact HW.ret ⟨rfl, _, [], .cell rfl (own_loadAgg 1 rfl aggV sizV rfl) .nil, List.nil_sublist _, mm, hmin, rfl, rfl⟩

/-- what Witness returns -/
def WitR (p : List Pt) (g : Gd) (v : Pt) (e : Int) : Prop :=
  (e = 10 ∧ v = (0, 0) ∧ ∀ u ∈ hits p, hasG g u = false) ∨ (e = 0 ∧ (v ∈ hits p ∧ hasG g v = true) ∧ ∀ u ∈ hits p, hasG g u = true → u = v ∨ near v u = true)
theorem WitR.unique {p : List Pt} {g : Gd} {v v' : Pt} {e e' : Int} (h : WitR p g v e) (h' : WitR p g v' e') : v = v' ∧ e = e' := by
  rcases h with ⟨rfl, rfl, h⟩ | ⟨rfl, h1, h⟩ <;> rcases h' with ⟨rfl, rfl, h'⟩ | ⟨rfl, h1', h'⟩
  · exact ⟨rfl, rfl⟩
  · rw [h _ h1'.1] at h1'; cases h1'.2
  · rw [h' _ h1.1] at h1; cases h1.2
  · refine ⟨?_, rfl⟩
    rcases h' v h1.1 h1.2 with h2 | h2
    · exact h2
    · rcases h v' h1'.1 h1'.2 with h3 | h3
      · exact h3.symm
      · exact (near_irr h2 h3).elim

structure WtG where
  seen : List Nat
  xs : List Pt
  o : Option Nat
  c : Nat

theorem fresh_nil (n : Nat) : fresh n [] = n := by
  unfold fresh
  rw [List.filter_eq_self.2 (fun a _ => by simp)]
  simp

theorem tag_get {l : List Pt} {j : Nat} (h : j < (tag l).length) : (tag l)[j].1 = l[j]'(by simpa [tag] using h) := by simp [tag]

set_option maxRecDepth 100000 in
set_option maxHeartbeats 1000000 in
theorem WitnessB_ok (A : Option Addr) (p : List Pt) (n c : Nat) (a b d : Int) (w : World) (hp : Rd enc 2 w A p) (hn : n = p.length) (hlen : p.length ≤ 1000000) (hb : blankF p = true) (hg : goodG (a, b, d) = true) :
    Ct P 30 #[.slice A n c, gdv a b d] w [] (fun r L => ∃ v e, WitR p (a, b, d) v e ∧ r = .tuple #[vc v, int e] ∧ L = []) := by
  subst hn
  have htl : (tag (hits p)).length = (hits p).length := by simp [tag]
  have hl625 : (hits p).length ≤ 625 := hits_len p 625
  refine Ct.of_body (rs := [.cell 4 52, .tmp 5]) (N := 42) (L := []) Try.func30 rfl rfl rfl (by kernel_rfl) rfl (Mem.refl w) ?_
  refine HW.seq (HW.region [(0, .ef), (1, .al), (2, .st)] rfl rfl ?_)
  refine Plan.boxA rfl rfl rfl fun b3 => ?_
  refine Plan.alloc rfl zerV fun b4 => ?_
  refine Plan.assign (v := .int _ _) rfl rfl rfl ?_
  refine Plan.done ?_
  refine HW.seq (HW.region [(0, .st), (1, .st), (2, .ef), (3, .st), (4, .st), (5, .st), (6, .st), (7, .st)] rfl rfl ?_)
  refine Plan.move (v := .slice _ _ _) rfl rfl rfl ?_
  refine Plan.loadAll 1 rfl rfl aggGrid sizGrid rfl rfl rfl ?_
  refine Plan.callF [] 0 rfl rfl rfl (.inl rfl) (by simp) (fun w hm => checked_ct A p _ c a b d w (hp.mem hm) rfl hlen hb hg) ?_
  rintro v Ln ⟨sb, m, rfl, rfl⟩
  refine Plan.move (v := .tuple _) rfl rfl rfl ?_
  refine Plan.extract (v := .pointer _) rfl rfl rfl rfl ?_
  refine Plan.extract (v := .int _ _) rfl rfl rfl rfl ?_
  refine Plan.assign (v := .pointer _) rfl rfl rfl ?_
  refine Plan.assign (v := .int _ _) rfl rfl rfl ?_
  refine Plan.done ?_
  refine HW.seq ?_
  refine HW.seq (HW.region [(0, .st), (1, .st)] rfl rfl ?_)
  refine Plan.move (v := .int _ _) rfl rfl rfl ?_
  refine Plan.cmp2 rfl rfl rfl rfl rfl (fun h17 => ?_) (fun h17 => ?_)
  · replace h17 := ne_of_t h17
    exact absurd rfl h17
  · replace h17 := eq_of_f h17
    refine Plan.done ?_
    refine HW.cond_false rfl ?_
    refine HW.skip ?_
    refine HW.seq (HW.region [(0, .st)] rfl rfl ?_)
    refine Plan.assign (v := .slice _ _ _) rfl rfl rfl ?_
    refine Plan.done ?_
    refine HW.seq ?_
    refine HW.seq (HW.region [(0, .st), (1, .st), (2, .st), (3, .st), (4, .ef)] rfl rfl ?_)
    refine Plan.move (v := .pointer _) rfl rfl rfl ?_
    refine Plan.nilCheck rfl rfl rfl ?_
    refine Plan.fieldAddr rfl rfl fldshape1 rfl ?_
    refine Plan.load (v := .map _) rfl rfl aggMap_api_Vec_bool rfl (Sees.one 0 rfl rfl) ?_
    refine Plan.range (MapAt.own 1 rfl) undMap_api_Vec_bool rfl rfl rfl fun r24 => ?_
    refine Plan.done ?_
    refine HW.block ?_
    refine HW.loopL (G := WtG) [8, 9, 25, 26, 27, 28, 29, 30, 31, 32, 33, 34, 35] (fun g => [(8, slv g.o g.xs.length g.c)]) (fun g => [Res.it r24 m (tag (hits p)).length g.seen, ownV g.o g.c g.xs, Res.blk sb #[.slice A p.length c, .map (some m)] 96, Res.mp vc Value.bool m (tag (hits p)), Res.blk b4 #[int 0, int 0] 52, Res.blk b3 #[int a, int b, int d] 26]) (fun g => (∀ v ∈ g.xs, v ∈ hits p ∧ hasG (a, b, d) v = true) ∧ (∀ j ∈ g.seen, ∀ h : j < (hits p).length, hasG (a, b, d) (hits p)[j] = true → (hits p)[j] ∈ g.xs) ∧ g.xs.length + fresh (tag (hits p)).length g.seen ≤ 625) (fun g => fresh (tag (hits p)).length g.seen) (⟨[], [], none, 0⟩) ⟨rfl, trivial⟩ (fun w' hm => hm.addNil.perm (List.Perm.swap _ _ _)) (⟨fun v hv => (by simp at hv), fun j hj => (by simp at hj), by simp only [List.length_nil, fresh_nil]; omega⟩) (fun g F hok => ?_)
    obtain ⟨seen, xs, o, c1⟩ := g
    obtain ⟨hx1, hx2, hx3⟩ := hok
    dsimp only at hx1 hx2 hx3
    dsimp only
    refine HW.seq (HW.region [(0, .ef), (1, .st)] rfl rfl ?_)
    refine Plan.next (MapAt.own 3 rfl) (0) rfl rfl hDn rfl rfl (fun hov25 => ?_) (fun j25 hj25 hns25 => ?_)
    · skip
      have hcov : ∀ u ∈ hits p, hasG (a, b, d) u = true → u ∈ xs := fun u hu hgu => by
        obtain ⟨j, hj, rfl⟩ := List.getElem_of_mem hu
        exact hx2 j (hov25 j (by rw [htl]; exact hj)) hj hgu
      refine Plan.extract (v := .bool _) rfl rfl rfl rfl ?_
      refine Plan.done ?_
      refine HW.seq ?_
      refine HW.cond_false rfl ?_
      refine HW.exit ?_
      refine HW.seq ?_
      refine HW.seq (HW.region [(0, .st), (1, .st), (2, .st)] rfl rfl ?_)
      refine Plan.move (v := .slice _ _ _) rfl rfl rfl ?_
      refine Plan.len rfl rfl slV rfl ?_
      refine Plan.cmp2 rfl rfl rfl rfl rfl (fun h38 => ?_) (fun h38 => ?_)
      · replace h38 := of_decide_eq_true h38
        have hx0 : xs = [] := List.eq_nil_of_length_eq_zero (by omega)
        refine Plan.done ?_
        refine HW.cond_true rfl ?_
        refine HW.seq (HW.region [(0, .st), (1, .ef), (2, .st)] rfl rfl ?_)
        refine Plan.build rfl rfl rfl (bld0) ?_
        refine Plan.storeA 4 rfl rfl hDn sizV rfl rfl rfl rfl rfl rfl ?_
        refine Plan.assign (v := .int _ _) rfl rfl rfl ?_
        refine Plan.done ?_
        exact HW.ret ⟨rfl, _, [], .cell rfl (own_loadAgg 4 rfl aggV sizV rfl) (.tmp rfl .nil), List.nil_sublist _, (0, 0), 10, .inl ⟨rfl, rfl, fun u hu => by
            rcases Bool.eq_false_or_eq_true (hasG (a, b, d) u) with h | h
            · have := hcov u hu h
              rw [hx0] at this
              simp at this
            · exact h⟩, rfl, rfl⟩
      · replace h38 := of_decide_eq_false h38
        have hxp : 0 < xs.length := by omega
        refine Plan.done ?_
        refine HW.cond_false rfl ?_
        refine HW.skip ?_
        refine HW.seq (HW.region [(0, .st), (1, .ef), (2, .ef), (3, .st)] rfl rfl ?_)
        refine Plan.move (v := .slice _ _ _) rfl rfl rfl ?_
        refine Plan.callF [] 0 rfl rfl rfl (.inl rfl) (by simp) (fun w hm => minFunc_ct (at0 o) xs _ c1 _ #[] wcmp w (Res.own_rd enc2 (hm.res (ownV o c1 xs) (by simp))) rfl hxp (by omega) wcmp_near (fun x hx y hy w' => witness1_ct x y w' (hits_bd (hx1 x hx).1) (hits_bd (hx1 y hy).1))) ?_   -- slices.MinFunc[[]tinplate/api.Vec,tinplate/api.Vec]
        rintro v Ln ⟨mn, hmn, rfl, rfl⟩
        refine Plan.storeA 4 rfl rfl hDn sizV rfl rfl rfl rfl rfl rfl ?_
        refine Plan.assign (v := .int _ _) rfl rfl rfl ?_
        refine Plan.done ?_
        exact HW.ret ⟨rfl, _, [], .cell rfl (own_loadAgg 4 rfl aggV sizV rfl) (.tmp rfl .nil), List.nil_sublist _, mn, 0, .inr ⟨rfl, hx1 mn hmn.1, fun u hu hgu => hmn.2 u (hcov u hu hgu)⟩, rfl, rfl⟩
    · skip
      have hjl : j25 < (hits p).length := by rw [← htl]; exact hj25
      have hv := tag_get hj25
      have hmem := List.getElem_mem hjl
      have hbd := hits_bd hmem
      rw [← hv] at hbd
      have hfr := fresh_lt hj25 hns25
      refine Plan.extract (v := .bool _) rfl rfl rfl rfl ?_
      refine Plan.done ?_
      refine HW.seq ?_
      refine HW.cond_true rfl ?_
      refine HW.skip ?_
      refine HW.block ?_
      refine HW.seq (HW.region [(0, .st), (1, .st), (2, .al), (3, .ef)] rfl rfl ?_)
      refine Plan.entry (MapAt.own 3 rfl) (0) (hj25) rfl rfl rfl rfl ?_
      refine Plan.extract (v := .agg _) rfl rfl rfl rfl ?_
      refine Plan.alloc rfl zerV fun b9 => ?_
      refine Plan.storeA 0 rfl rfl hDn sizV rfl rfl rfl rfl rfl rfl ?_
      refine Plan.done ?_
      refine HW.seq (HW.region [(0, .st), (1, .st), (2, .ef)] rfl rfl ?_)
      refine Plan.loadAll 6 rfl rfl aggGrid sizGrid rfl rfl rfl ?_
      refine Plan.loadAll 0 rfl rfl aggV sizV rfl rfl rfl ?_
      refine Plan.callF [] 0 rfl rfl rfl (.inl rfl) (by simp) (fun w hm => has_ct a b d _ _ w hg (hbd.1.mono (by omega)) (hbd.2.mono (by omega))) ?_
      rintro v Ln ⟨rfl, rfl⟩
      refine Plan.splitB (fun h31 => ?_) (fun h31 => ?_)
      · skip
        refine Plan.done ?_
        refine HW.cond_true rfl ?_
        refine HW.region [(0, .st), (1, .st), (2, .ef), (3, .ef), (4, .st)] rfl rfl ?_
        refine Plan.move (v := .slice _ _ _) rfl rfl rfl ?_
        refine Plan.loadAll 0 rfl rfl aggV sizV rfl rfl rfl ?_
        refine Plan.buildOwn (xs := [(tag (hits p))[j25].1]) (enc := enc) (sz := 2) rfl rfl rfl (bs1 _ _) rfl rfl (by simp) rfl fun b34 => ?_
        refine Plan.append (enc := enc) (sz := 2) (ys := [(tag (hits p))[j25].1]) (3) rfl rfl hDn slV infV rfl (by decide) enc2 enc1 rfl rfl rfl rfl rfl (Sees.ownAll 0 rfl b34 rfl) (by simp; omega) (by simp; omega) fun o35 c35 => ?_
        refine Plan.assign (v := .slice _ _ _) rfl rfl rfl ?_
        refine Plan.done ?_
        exact ⟨⟨seen ++ [j25], xs ++ [(tag (hits p))[j25].1], o35, c35⟩, hfr, ⟨fun v hv' => (by
            rcases List.mem_append.1 hv' with h | h
            · exact hx1 v h
            · obtain rfl := List.mem_singleton.1 h
              exact ⟨by rw [hv]; exact hmem, h31⟩), fun j hj h hgj => (by
            rcases List.mem_append.1 hj with hj | hj
            · exact List.mem_append_left _ (hx2 j hj h hgj)
            · obtain rfl := List.mem_singleton.1 hj
              exact List.mem_append_right _ (by rw [hv]; simp)), by simp only [List.length_append, List.length_singleton]; omega⟩, rfl, Ent.sub (.cons _ (.cons _ (.refl _))), (by repeat (first | exact Agree.havoc _ _ _ | refine Agree.updN ?_ | refine Agree.upd rfl ?_ | refine Agree.updL rfl ?_ | refine Agree.havoc2 rfl ?_)), ⟨slv_eq (by simp), trivial⟩⟩
      · skip
        refine Plan.done ?_
        refine HW.cond_false rfl ?_
        refine HW.skip ?_
        exact ⟨⟨seen ++ [j25], xs, o, c1⟩, hfr, ⟨hx1, fun j hj h hgj => (by
            rcases List.mem_append.1 hj with hj | hj
            · exact hx2 j hj h hgj
            · obtain rfl := List.mem_singleton.1 hj
              rw [← hv, h31] at hgj
              cases hgj), by dsimp only; omega⟩, rfl, Ent.sub (.cons _ (.refl _)), (by repeat (first | exact Agree.havoc _ _ _ | refine Agree.updN ?_ | refine Agree.upd rfl ?_ | refine Agree.updL rfl ?_ | refine Agree.havoc2 rfl ?_)), ⟨rfl, trivial⟩⟩

theorem WitnessB_bad (A : Option Addr) (p : List Pt) (n c : Nat) (a b d : Int) (w : World) (hp : Rd enc 2 w A p) (hn : n = p.length) (hlen : p.length ≤ 1000000) (hb : blankF p = true) (hg : goodG (a, b, d) = false) :
    Ct P 30 #[.slice A n c, gdv a b d] w [] (fun r L => r = .tuple #[vc (0, 0), int 2] ∧ L = []) := by
  subst hn
  refine Ct.of_body (rs := [.cell 4 52, .tmp 5]) (N := 42) (L := []) Try.func30 rfl rfl rfl (by kernel_rfl) rfl (Mem.refl w) ?_
  refine HW.seq (HW.region [(0, .ef), (1, .al), (2, .st)] rfl rfl ?_)
  refine Plan.boxA rfl rfl rfl fun b3 => ?_
  refine Plan.alloc rfl zerV fun b4 => ?_
  refine Plan.assign (v := .int _ _) rfl rfl rfl ?_
  refine Plan.done ?_
  refine HW.seq (HW.region [(0, .st), (1, .st), (2, .ef), (3, .st), (4, .st), (5, .st), (6, .st), (7, .st)] rfl rfl ?_)
  refine Plan.move (v := .slice _ _ _) rfl rfl rfl ?_
  refine Plan.loadAll 1 rfl rfl aggGrid sizGrid rfl rfl rfl ?_
  refine Plan.callF [] 0 rfl rfl rfl (.inl rfl) (by simp) (fun w hm => checked_ct_bad A p _ c a b d w (hp.mem hm) rfl hlen hb hg) ?_
  rintro v Ln ⟨rfl, rfl⟩
  refine Plan.move (v := .tuple _) rfl rfl rfl ?_
  refine Plan.extract (v := .pointer _) rfl rfl rfl rfl ?_
  refine Plan.extract (v := .int _ _) rfl rfl rfl rfl ?_
  refine Plan.assign (v := .pointer _) rfl rfl rfl ?_
  refine Plan.assign (v := .int _ _) rfl rfl rfl ?_
  refine Plan.done ?_
  refine HW.seq ?_
  refine HW.seq (HW.region [(0, .st), (1, .st)] rfl rfl ?_)
  refine Plan.move (v := .int _ _) rfl rfl rfl ?_
  refine Plan.cmp2 rfl rfl rfl rfl rfl (fun h17 => ?_) (fun h17 => ?_)
  · replace h17 := ne_of_t h17
    refine Plan.done ?_
    refine HW.cond_true rfl ?_
    refine HW.seq (HW.region [(0, .st), (1, .st), (2, .ef), (3, .st)] rfl rfl ?_)
    refine Plan.build rfl rfl rfl (bld0) ?_
    refine Plan.move (v := .int _ _) rfl rfl rfl ?_
    refine Plan.storeA 0 rfl rfl hDn sizV rfl rfl rfl rfl rfl rfl ?_
    refine Plan.assign (v := .int _ _) rfl rfl rfl ?_
    refine Plan.done ?_
    exact HW.ret ⟨rfl, _, [], .cell rfl (own_loadAgg 0 rfl aggV sizV rfl) (.tmp rfl .nil), List.nil_sublist _, rfl, rfl⟩
  · replace h17 := eq_of_f h17
    exact absurd h17 (by decide)
theorem WitnessB_no (A : Option Addr) (p : List Pt) (n c : Nat) (a b d : Int) (w : World) (hp : Rd enc 2 w A p) (hn : n = p.length) (hlen : p.length ≤ 1000000) (hb : blankF p = false) :
    Ct P 30 #[.slice A n c, gdv a b d] w [] (fun r L => r = .tuple #[vc (0, 0), int 2] ∧ L = []) := by
  subst hn
  refine Ct.of_body (rs := [.cell 4 52, .tmp 5]) (N := 42) (L := []) Try.func30 rfl rfl rfl (by kernel_rfl) rfl (Mem.refl w) ?_
  refine HW.seq (HW.region [(0, .ef), (1, .al), (2, .st)] rfl rfl ?_)
  refine Plan.boxA rfl rfl rfl fun b3 => ?_
  refine Plan.alloc rfl zerV fun b4 => ?_
  refine Plan.assign (v := .int _ _) rfl rfl rfl ?_
  refine Plan.done ?_
  refine HW.seq (HW.region [(0, .st), (1, .st), (2, .ef), (3, .st), (4, .st), (5, .st), (6, .st), (7, .st)] rfl rfl ?_)
  refine Plan.move (v := .slice _ _ _) rfl rfl rfl ?_
  refine Plan.loadAll 1 rfl rfl aggGrid sizGrid rfl rfl rfl ?_
  refine Plan.callF [] 0 rfl rfl rfl (.inl rfl) (by simp) (fun w hm => checked_ct_no A p _ c a b d w (hp.mem hm) rfl hlen hb) ?_
  rintro v Ln ⟨rfl, rfl⟩
  refine Plan.move (v := .tuple _) rfl rfl rfl ?_
  refine Plan.extract (v := .pointer _) rfl rfl rfl rfl ?_
  refine Plan.extract (v := .int _ _) rfl rfl rfl rfl ?_
  refine Plan.assign (v := .pointer _) rfl rfl rfl ?_
  refine Plan.assign (v := .int _ _) rfl rfl rfl ?_
  refine Plan.done ?_
  refine HW.seq ?_
  refine HW.seq (HW.region [(0, .st), (1, .st)] rfl rfl ?_)
  refine Plan.move (v := .int _ _) rfl rfl rfl ?_
  refine Plan.cmp2 rfl rfl rfl rfl rfl (fun h17 => ?_) (fun h17 => ?_)
  · replace h17 := ne_of_t h17
    refine Plan.done ?_
    refine HW.cond_true rfl ?_
    refine HW.seq (HW.region [(0, .st), (1, .st), (2, .ef), (3, .st)] rfl rfl ?_)
    refine Plan.build rfl rfl rfl (bld0) ?_
    refine Plan.move (v := .int _ _) rfl rfl rfl ?_
    refine Plan.storeA 0 rfl rfl hDn sizV rfl rfl rfl rfl rfl rfl ?_
    refine Plan.assign (v := .int _ _) rfl rfl rfl ?_
    refine Plan.done ?_
    exact HW.ret ⟨rfl, _, [], .cell rfl (own_loadAgg 0 rfl aggV sizV rfl) (.tmp rfl .nil), List.nil_sublist _, rfl, rfl⟩
  · replace h17 := eq_of_f h17
    exact absurd h17 (by decide)

end Go.Proofs.Ytjmklbkcpjmcaaa.V

namespace Go.Proofs.Ytjmklbkcpjmcaaa.V
open Go Go.RowKit Go.Proofs.Ytjmklbkcpjmcaaa.H Go.Proofs.Ytjmklbkcpjmcaaa.LL
set_option linter.unusedVariables false
set_option linter.unusedSimpArgs false

theorem asksR_ct (A : Option Addr) (p : List Pt) (n c : Nat) (a b d : Int) (w : World) (hp : Rd enc 2 w A p) (hn : n = p.length) (hlen : p.length ≤ 1000000) :
    Ct P 57 #[.slice A n c, gdv a b d] w [] (fun r L => r = int (if (blankF p && goodG (a, b, d)) = true then 0 else 2) ∧ L = []) := by
  subst hn
  have ht : ∀ {x : Int}, x = (if (blankF p && goodG (a, b, d)) = true then 0 else 2) → (int x = int (if (blankF p && goodG (a, b, d)) = true then 0 else 2)) := fun h => by rw [h]
  refine Ct.of_body (rs := [.tmp 4]) (N := 13) (L := []) Try.func57 rfl rfl rfl (by kernel_rfl) rfl (Mem.refl w) ?_
  refine HW.seq (HW.region [(0, .ef), (1, .st)] rfl rfl ?_)
  refine Plan.boxA rfl rfl rfl fun b3 => ?_
  refine Plan.assign (v := .int _ _) rfl rfl rfl ?_
  refine Plan.done ?_
  refine HW.seq ?_
  refine HW.seq (HW.region [(0, .st), (1, .ef), (2, .st), (3, .st), (4, .st), (5, .ef), (6, .st), (7, .st)] rfl rfl ?_)
  refine Plan.move (v := .slice _ _ _) rfl rfl rfl ?_
  refine Plan.callF [] 0 rfl rfl rfl (.inl rfl) (by simp) (fun w hm => blankR_ct A p _ c w (hp.mem hm) rfl hlen) ?_
  rintro v Ln ⟨rfl, rfl⟩
  refine Plan.splitB (fun h6 => ?_) (fun h6 => ?_)
  · skip
    refine Plan.not rfl rfl rfl ?_
    refine Plan.move (v := .bool _) rfl rfl rfl ?_
    refine Plan.loadAll 0 rfl rfl aggGrid sizGrid rfl rfl rfl ?_
    refine Plan.callF [] 0 rfl rfl rfl (.inl rfl) (by simp) (fun w hm => goodR_ct a b d w) ?_
    rintro v Ln ⟨rfl, rfl⟩
    refine Plan.splitB (fun h10 => ?_) (fun h10 => ?_)
    · skip
      refine Plan.not rfl rfl rfl ?_
      refine Plan.pick (v := .bool _) rfl rfl rfl rfl ?_
      refine Plan.done ?_
      refine HW.cond_false rfl ?_
      refine HW.skip ?_
      refine HW.seq (HW.region [(0, .st)] rfl rfl ?_)
      refine Plan.assign (v := .int _ _) rfl rfl rfl ?_
      refine Plan.done ?_
      exact HW.ret ⟨rfl, _, [], .tmp rfl .nil, List.nil_sublist _, ht (by rw [h6, h10]; rfl), rfl⟩
    · skip
      refine Plan.not rfl rfl rfl ?_
      refine Plan.pick (v := .bool _) rfl rfl rfl rfl ?_
      refine Plan.done ?_
      refine HW.cond_true rfl ?_
      refine HW.seq (HW.region [(0, .st)] rfl rfl ?_)
      refine Plan.assign (v := .int _ _) rfl rfl rfl ?_
      refine Plan.done ?_
      exact HW.ret ⟨rfl, _, [], .tmp rfl .nil, List.nil_sublist _, ht (by rw [h6, h10]; rfl), rfl⟩
  · skip
    refine Plan.not rfl rfl rfl ?_
    refine Plan.move (v := .bool _) rfl rfl rfl ?_
    refine Plan.no rfl rfl ?_
    refine Plan.noE rfl rfl ?_
    refine Plan.no rfl rfl ?_
    refine Plan.pick (v := .bool _) rfl rfl rfl rfl ?_
    refine Plan.done ?_
    refine HW.cond_true rfl ?_
    refine HW.seq (HW.region [(0, .st)] rfl rfl ?_)
    refine Plan.assign (v := .int _ _) rfl rfl rfl ?_
    refine Plan.done ?_
    exact HW.ret ⟨rfl, _, [], .tmp rfl .nil, List.nil_sublist _, ht (by rw [h6]; rfl), rfl⟩

theorem AdmissibleR_ok (A : Option Addr) (p : List Pt) (n c : Nat) (a b d : Int) (w : World) (hp : Rd enc 2 w A p) (hn : n = p.length) (hlen : p.length ≤ 1000000) (hb : blankF p = true) (hg : goodG (a, b, d) = true) :
    Ct P 29 #[.slice A n c, gdv a b d] w [] (fun r L => r = .tuple #[.bool (admB p (a, b, d)), int 0] ∧ L = []) := by
  subst hn
  have hc0 : (blankF p && goodG (a, b, d)) = true := by rw [hb, hg]; rfl
  have hs : ∀ w, Rd enc 2 w A p → Ct P 57 #[.slice A p.length c, gdv a b d] w [] (fun r L => r = int 0 ∧ L = []) := fun w h => by
    have := asksR_ct A p p.length c a b d w h rfl hlen
    simp only [if_pos hc0] at this
    exact this
  refine Ct.of_body (rs := [.tmp 4, .tmp 5]) (N := 17) (L := []) Try.func29 rfl rfl rfl (by kernel_rfl) rfl (Mem.refl w) ?_
  refine HW.seq (HW.region [(0, .ef), (1, .st), (2, .st)] rfl rfl ?_)
  refine Plan.boxA rfl rfl rfl fun b3 => ?_
  refine Plan.assign (v := .bool _) rfl rfl rfl ?_
  refine Plan.assign (v := .int _ _) rfl rfl rfl ?_
  refine Plan.done ?_
  refine HW.seq (HW.region [(0, .st), (1, .st), (2, .ef), (3, .st)] rfl rfl ?_)
  refine Plan.move (v := .slice _ _ _) rfl rfl rfl ?_
  refine Plan.loadAll 0 rfl rfl aggGrid sizGrid rfl rfl rfl ?_
  refine Plan.callF [] 0 rfl rfl rfl (.inl rfl) (by simp) (fun w hm => hs w (hp.mem hm)) ?_
  rintro v Ln ⟨rfl, rfl⟩
  refine Plan.assign (v := .int _ _) rfl rfl rfl ?_
  refine Plan.done ?_
  refine HW.seq ?_
  refine HW.seq (HW.region [(0, .st), (1, .st)] rfl rfl ?_)
  refine Plan.move (v := .int _ _) rfl rfl rfl ?_
  refine Plan.cmp2 rfl rfl rfl rfl rfl (fun h11 => ?_) (fun h11 => ?_)
  · replace h11 := ne_of_t h11
    exact absurd rfl h11
  · replace h11 := eq_of_f h11
    refine Plan.done ?_
    refine HW.cond_false rfl ?_
    refine HW.skip ?_
    refine HW.seq (HW.region_any [] [(0, .st), (2, .st), (1, .ef), (3, .ef), (4, .st), (5, .st)] mix (by kernel_rfl) (fun _ _ _ _ _ h => h) (zeros rfl) ?_)
    refine Plan.move (v := .slice _ _ _) rfl rfl rfl ?_
    refine Plan.loadAll 0 rfl rfl aggGrid sizGrid rfl rfl rfl ?_
    refine Plan.callF [] 0 rfl rfl rfl (.inl rfl) (by simp) (fun w hm => crossing_ct A p _ c w (hp.mem hm) rfl hb) ?_
    rintro v Ln ⟨o, c1, rfl, rfl⟩
    refine Plan.callF [] 0 rfl rfl rfl (.inl rfl) (by simp) (fun w hm => free_ct (at0 o) (hits p) a b d _ c1 w (Res.own_rd enc2 (hm.res (ownV o c1 (hits p)) (by simp))) rfl (Nat.le_trans (hits_len p 625) (by decide)) hg (fun v hv => ⟨(hits_bd hv).1.mono (by omega), (hits_bd hv).2.mono (by omega)⟩)) ?_
    rintro v Ln ⟨rfl, rfl⟩
    refine Plan.splitB (fun h16 => ?_) (fun h16 => ?_)
    · skip
      refine Plan.assign (v := .bool _) rfl rfl rfl ?_
      refine Plan.assign (v := .int _ _) rfl rfl rfl ?_
      refine Plan.done ?_
      exact HW.ret ⟨rfl, _, [], .tmp rfl (.tmp rfl .nil), List.nil_sublist _, (by rw [admB, h16]; rfl), rfl⟩
    · skip
      refine Plan.assign (v := .bool _) rfl rfl rfl ?_
      refine Plan.assign (v := .int _ _) rfl rfl rfl ?_
      refine Plan.done ?_
      exact HW.ret ⟨rfl, _, [], .tmp rfl (.tmp rfl .nil), List.nil_sublist _, (by rw [admB, h16]; rfl), rfl⟩

theorem AdmissibleR_no (A : Option Addr) (p : List Pt) (n c : Nat) (a b d : Int) (w : World) (hp : Rd enc 2 w A p) (hn : n = p.length) (hlen : p.length ≤ 1000000) (hb : (blankF p && goodG (a, b, d)) = false) :
    Ct P 29 #[.slice A n c, gdv a b d] w [] (fun r L => r = .tuple #[.bool false, int 2] ∧ L = []) := by
  subst hn
  have hs : ∀ w, Rd enc 2 w A p → Ct P 57 #[.slice A p.length c, gdv a b d] w [] (fun r L => r = int 2 ∧ L = []) := fun w h => by
    have := asksR_ct A p p.length c a b d w h rfl hlen
    simp only [if_neg (show ¬ (blankF p && goodG (a, b, d)) = true by rw [hb]; decide)] at this
    exact this
  refine Ct.of_body (rs := [.tmp 4, .tmp 5]) (N := 17) (L := []) Try.func29 rfl rfl rfl (by kernel_rfl) rfl (Mem.refl w) ?_
  refine HW.seq (HW.region [(0, .ef), (1, .st), (2, .st)] rfl rfl ?_)
  refine Plan.boxA rfl rfl rfl fun b3 => ?_
  refine Plan.assign (v := .bool _) rfl rfl rfl ?_
  refine Plan.assign (v := .int _ _) rfl rfl rfl ?_
  refine Plan.done ?_
  refine HW.seq (HW.region [(0, .st), (1, .st), (2, .ef), (3, .st)] rfl rfl ?_)
  refine Plan.move (v := .slice _ _ _) rfl rfl rfl ?_
  refine Plan.loadAll 0 rfl rfl aggGrid sizGrid rfl rfl rfl ?_
  refine Plan.callF [] 0 rfl rfl rfl (.inl rfl) (by simp) (fun w hm => hs w (hp.mem hm)) ?_
  rintro v Ln ⟨rfl, rfl⟩
  refine Plan.assign (v := .int _ _) rfl rfl rfl ?_
  refine Plan.done ?_
  refine HW.seq ?_
  refine HW.seq (HW.region [(0, .st), (1, .st)] rfl rfl ?_)
  refine Plan.move (v := .int _ _) rfl rfl rfl ?_
  refine Plan.cmp2 rfl rfl rfl rfl rfl (fun h11 => ?_) (fun h11 => ?_)
  · replace h11 := ne_of_t h11
    refine Plan.done ?_
    refine HW.cond_true rfl ?_
    refine HW.seq (HW.region [(0, .st), (1, .st), (2, .st)] rfl rfl ?_)
    refine Plan.move (v := .int _ _) rfl rfl rfl ?_
    refine Plan.assign (v := .bool _) rfl rfl rfl ?_
    refine Plan.assign (v := .int _ _) rfl rfl rfl ?_
    refine Plan.done ?_
    exact HW.ret ⟨rfl, _, [], .tmp rfl (.tmp rfl .nil), List.nil_sublist _, rfl, rfl⟩
  · replace h11 := eq_of_f h11
    exact absurd h11 (by decide)

theorem nearer_ct (a b : Pt) (w : World) (ha : Bd 12 a.1 ∧ Bd 12 a.2) (hb : Bd 12 b.1 ∧ Bd 12 b.2) : Ct P 63 #[vc a, vc b] w [] (fun r L => r = .bool (near a b) ∧ L = []) := by
  have q1 := nn_bd ha
  have q2 := nn_bd hb
  have ht : ∀ {x : Bool}, x = decide (a.1 * a.1 + a.2 * a.2 < b.1 * b.1 + b.2 * b.2 ∨ (a.1 * a.1 + a.2 * a.2 = b.1 * b.1 + b.2 * b.2 ∧ (b.1 < a.1 ∨ (a.1 = b.1 ∧ b.2 < a.2)))) → (Value.bool x = .bool (near a b)) := fun h => by rw [h]; rfl
  refine Ct.of_body (rs := [.tmp 4]) (N := 54) (L := []) Try.func63 rfl rfl rfl (by kernel_rfl) rfl (Mem.refl w) ?_
  refine HW.seq (HW.region [(0, .ef), (1, .ef), (2, .st)] rfl rfl ?_)
  refine Plan.boxA rfl rfl rfl fun b2 => ?_
  refine Plan.boxA rfl rfl rfl fun b3 => ?_
  refine Plan.assign (v := .bool _) rfl rfl rfl ?_
  refine Plan.done ?_
  refine HW.seq (HW.region_any [] [(0, .st), (1, .st), (2, .st), (3, .st), (4, .st), (5, .st), (6, .st), (7, .st), (8, .st), (9, .st), (10, .st), (11, .st), (12, .st), (13, .st), (14, .st), (15, .st), (16, .st), (17, .st), (18, .st), (19, .st), (20, .st), (21, .st), (22, .st), (23, .st)] mix (by kernel_rfl) (fun _ _ _ _ _ h => h) (zeros rfl) ?_)
  refine Plan.fieldAddr rfl rfl fldV0 rfl ?_
  refine Plan.load (v := .int _ _) rfl rfl aggI rfl (Sees.one 1 rfl rfl) ?_
  refine Plan.fieldAddr rfl rfl fldV0 rfl ?_
  refine Plan.load (v := .int _ _) rfl rfl aggI rfl (Sees.one 1 rfl rfl) ?_
  refine Plan.arithI rfl rfl rfl rfl rfl (by omega) ?_
  refine Plan.fieldAddr rfl rfl fldV1 rfl ?_
  refine Plan.load (v := .int _ _) rfl rfl aggI rfl (Sees.one 1 rfl rfl) ?_
  refine Plan.fieldAddr rfl rfl fldV1 rfl ?_
  refine Plan.load (v := .int _ _) rfl rfl aggI rfl (Sees.one 1 rfl rfl) ?_
  refine Plan.arithI rfl rfl rfl rfl rfl (by omega) ?_
  refine Plan.arithI rfl rfl rfl rfl rfl (by omega) ?_
  refine Plan.fieldAddr rfl rfl fldV0 rfl ?_
  refine Plan.load (v := .int _ _) rfl rfl aggI rfl (Sees.one 0 rfl rfl) ?_
  refine Plan.fieldAddr rfl rfl fldV0 rfl ?_
  refine Plan.load (v := .int _ _) rfl rfl aggI rfl (Sees.one 0 rfl rfl) ?_
  refine Plan.arithI rfl rfl rfl rfl rfl (by omega) ?_
  refine Plan.fieldAddr rfl rfl fldV1 rfl ?_
  refine Plan.load (v := .int _ _) rfl rfl aggI rfl (Sees.one 0 rfl rfl) ?_
  refine Plan.fieldAddr rfl rfl fldV1 rfl ?_
  refine Plan.load (v := .int _ _) rfl rfl aggI rfl (Sees.one 0 rfl rfl) ?_
  refine Plan.arithI rfl rfl rfl rfl rfl (by omega) ?_
  refine Plan.arithI rfl rfl rfl rfl rfl (by omega) ?_
  refine Plan.assign (v := .int _ _) rfl rfl rfl ?_
  refine Plan.assign (v := .int _ _) rfl rfl rfl ?_
  refine Plan.done ?_
  refine HW.seq ?_
  refine HW.seq (HW.region [(0, .st), (1, .st), (2, .st)] rfl rfl ?_)
  refine Plan.move (v := .int _ _) rfl rfl rfl ?_
  refine Plan.move (v := .int _ _) rfl rfl rfl ?_
  refine Plan.cmp2 rfl rfl rfl rfl rfl (fun h31 => ?_) (fun h31 => ?_)
  · replace h31 := ne_of_t h31
    refine Plan.done ?_
    refine HW.cond_true rfl ?_
    refine HW.seq (HW.region [(0, .st), (1, .st), (2, .st), (3, .st)] rfl rfl ?_)
    refine Plan.move (v := .int _ _) rfl rfl rfl ?_
    refine Plan.move (v := .int _ _) rfl rfl rfl ?_
    refine Plan.cmp2 rfl rfl rfl rfl rfl (fun h34 => ?_) (fun h34 => ?_)
    · replace h34 := of_decide_eq_true h34
      refine Plan.assign (v := .bool _) rfl rfl rfl ?_
      refine Plan.done ?_
      exact HW.ret ⟨rfl, _, [], .tmp rfl .nil, List.nil_sublist _, ht (decide_eq_true (by omega)).symm, rfl⟩
    · replace h34 := of_decide_eq_false h34
      refine Plan.assign (v := .bool _) rfl rfl rfl ?_
      refine Plan.done ?_
      exact HW.ret ⟨rfl, _, [], .tmp rfl .nil, List.nil_sublist _, ht (decide_eq_false (by omega)).symm, rfl⟩
  · replace h31 := eq_of_f h31
    refine Plan.done ?_
    refine HW.cond_false rfl ?_
    refine HW.skip ?_
    refine HW.seq (HW.region [(0, .st), (1, .st), (2, .st), (3, .st), (4, .st), (5, .st), (6, .st), (7, .st), (8, .st), (9, .st), (10, .st), (11, .st), (12, .st), (13, .st), (14, .st), (15, .st), (16, .st), (17, .st), (18, .st), (19, .st)] rfl rfl ?_)
    refine Plan.fieldAddr rfl rfl fldV0 rfl ?_
    refine Plan.load (v := .int _ _) rfl rfl aggI rfl (Sees.one 1 rfl rfl) ?_
    refine Plan.fieldAddr rfl rfl fldV0 rfl ?_
    refine Plan.load (v := .int _ _) rfl rfl aggI rfl (Sees.one 0 rfl rfl) ?_
    refine Plan.cmp2 rfl rfl rfl rfl rfl (fun h39 => ?_) (fun h39 => ?_)
    · replace h39 := of_decide_eq_true h39
      refine Plan.move (v := .bool _) rfl rfl rfl ?_
      refine Plan.no rfl rfl ?_
      refine Plan.no rfl rfl ?_
      refine Plan.no rfl rfl ?_
      refine Plan.no rfl rfl ?_
      refine Plan.no rfl rfl ?_
      refine Plan.no rfl rfl ?_
      refine Plan.no rfl rfl ?_
      refine Plan.no rfl rfl ?_
      refine Plan.no rfl rfl ?_
      refine Plan.no rfl rfl ?_
      refine Plan.no rfl rfl ?_
      refine Plan.no rfl rfl ?_
      refine Plan.pick (v := .bool _) rfl rfl rfl rfl ?_
      refine Plan.assign (v := .bool _) rfl rfl rfl ?_
      refine Plan.done ?_
      exact HW.ret ⟨rfl, _, [], .tmp rfl .nil, List.nil_sublist _, ht (decide_eq_true (by omega)).symm, rfl⟩
    · replace h39 := of_decide_eq_false h39
      refine Plan.move (v := .bool _) rfl rfl rfl ?_
      refine Plan.fieldAddr rfl rfl fldV0 rfl ?_
      refine Plan.load (v := .int _ _) rfl rfl aggI rfl (Sees.one 1 rfl rfl) ?_
      refine Plan.fieldAddr rfl rfl fldV0 rfl ?_
      refine Plan.load (v := .int _ _) rfl rfl aggI rfl (Sees.one 0 rfl rfl) ?_
      refine Plan.cmp2 rfl rfl rfl rfl rfl (fun h45 => ?_) (fun h45 => ?_)
      · replace h45 := of_decide_eq_true h45
        refine Plan.move (v := .bool _) rfl rfl rfl ?_
        refine Plan.fieldAddr rfl rfl fldV1 rfl ?_
        refine Plan.load (v := .int _ _) rfl rfl aggI rfl (Sees.one 1 rfl rfl) ?_
        refine Plan.fieldAddr rfl rfl fldV1 rfl ?_
        refine Plan.load (v := .int _ _) rfl rfl aggI rfl (Sees.one 0 rfl rfl) ?_
        refine Plan.cmp2 rfl rfl rfl rfl rfl (fun h51 => ?_) (fun h51 => ?_)
        · replace h51 := of_decide_eq_true h51
          refine Plan.pick (v := .bool _) rfl rfl rfl rfl ?_
          refine Plan.pick (v := .bool _) rfl rfl rfl rfl ?_
          refine Plan.assign (v := .bool _) rfl rfl rfl ?_
          refine Plan.done ?_
          exact HW.ret ⟨rfl, _, [], .tmp rfl .nil, List.nil_sublist _, ht (decide_eq_true (by omega)).symm, rfl⟩
        · replace h51 := of_decide_eq_false h51
          refine Plan.pick (v := .bool _) rfl rfl rfl rfl ?_
          refine Plan.pick (v := .bool _) rfl rfl rfl rfl ?_
          refine Plan.assign (v := .bool _) rfl rfl rfl ?_
          refine Plan.done ?_
          exact HW.ret ⟨rfl, _, [], .tmp rfl .nil, List.nil_sublist _, ht (decide_eq_false (by omega)).symm, rfl⟩
      · replace h45 := of_decide_eq_false h45
        refine Plan.move (v := .bool _) rfl rfl rfl ?_
        refine Plan.no rfl rfl ?_
        refine Plan.no rfl rfl ?_
        refine Plan.no rfl rfl ?_
        refine Plan.no rfl rfl ?_
        refine Plan.no rfl rfl ?_
        refine Plan.pick (v := .bool _) rfl rfl rfl rfl ?_
        refine Plan.pick (v := .bool _) rfl rfl rfl rfl ?_
        refine Plan.assign (v := .bool _) rfl rfl rfl ?_
        refine Plan.done ?_
        exact HW.ret ⟨rfl, _, [], .tmp rfl .nil, List.nil_sublist _, ht (decide_eq_false (by omega)).symm, rfl⟩

/-- the best so far -/
def BestO (g : Gd) (l : List Pt) (m : Pt) : Prop := (m = (0, 0) ∧ ∀ u ∈ l, hasG g u = false) ∨ (m ≠ (0, 0) ∧ (m ∈ l ∧ hasG g m = true) ∧ ∀ u ∈ l, hasG g u = true → u = m ∨ near m u = true)

theorem hits_ne {p : List Pt} {v : Pt} (h : v ∈ hits p) : v ≠ (0, 0) := by
  simp only [hitsN, List.mem_filter, hitB, Bool.and_eq_true, decide_eq_true_eq] at h
  exact h.2.2

theorem take_succ_mem {l : List Pt} {k : Nat} (hk : k < l.length) {u : Pt} (hu : u ∈ l.take (k + 1)) : u ∈ l.take k ∨ u = l[k] := by
  rw [List.take_add_one, List.getElem?_eq_getElem hk] at hu
  rcases List.mem_append.1 hu with h | h
  · exact .inl h
  · exact .inr (by simpa using h)
theorem mem_take_succ {l : List Pt} {k : Nat} (hk : k < l.length) {u : Pt} (hu : u ∈ l.take k ∨ u = l[k]) : u ∈ l.take (k + 1) := by
  rw [List.take_add_one, List.getElem?_eq_getElem hk]
  rcases hu with h | rfl
  · exact List.mem_append_left _ h
  · exact List.mem_append_right _ (by simp)
theorem BestO.no {g : Gd} {l : List Pt} {m : Pt} {k : Nat} (h : BestO g (l.take k) m) (hk : k < l.length) (hx : hasG g l[k] = false) : BestO g (l.take (k + 1)) m := by
  rcases h with ⟨h0, h⟩ | ⟨h0, ⟨h1, h2⟩, h⟩
  · refine .inl ⟨h0, fun u hu => ?_⟩
    rcases take_succ_mem hk hu with hu | rfl
    · exact h u hu
    · exact hx
  · refine .inr ⟨h0, ⟨mem_take_succ hk (.inl h1), h2⟩, fun u hu hgu => ?_⟩
    rcases take_succ_mem hk hu with hu | rfl
    · exact h u hu hgu
    · rw [hx] at hgu; cases hgu
theorem BestO.new {g : Gd} {l : List Pt} {m : Pt} {k : Nat} (h : BestO g (l.take k) m) (hk : k < l.length) (hx : hasG g l[k] = true) (hne : l[k] ≠ (0, 0)) (hn : m = (0, 0) ∨ near l[k] m = true) : BestO g (l.take (k + 1)) l[k] := by
  refine .inr ⟨hne, ⟨mem_take_succ hk (.inr rfl), hx⟩, fun u hu hgu => ?_⟩
  rcases take_succ_mem hk hu with hu | rfl
  · rcases h with ⟨h0, h⟩ | ⟨h0, ⟨h1, h2⟩, h⟩
    · rw [h u hu] at hgu; cases hgu
    · rcases hn with hn | hn
      · exact absurd hn h0
      · rcases h u hu hgu with rfl | h3
        · exact .inr hn
        · exact .inr (near_trans hn h3)
  · exact .inl rfl
theorem BestO.keep {g : Gd} {l : List Pt} {m : Pt} {k : Nat} (h : BestO g (l.take k) m) (hk : k < l.length) (hm : m ≠ (0, 0)) (hn : near l[k] m = false) : BestO g (l.take (k + 1)) m := by
  rcases h with ⟨h0, h⟩ | ⟨h0, ⟨h1, h2⟩, h⟩
  · exact absurd h0 hm
  · refine .inr ⟨h0, ⟨mem_take_succ hk (.inl h1), h2⟩, fun u hu hgu => ?_⟩
    rcases take_succ_mem hk hu with hu | rfl
    · exact h u hu hgu
    · exact near_tri hn

set_option maxRecDepth 100000 in
set_option maxHeartbeats 1000000 in
theorem WitnessR_ok (A : Option Addr) (p : List Pt) (n c : Nat) (a b d : Int) (w : World) (hp : Rd enc 2 w A p) (hn : n = p.length) (hlen : p.length ≤ 1000000) (hb : blankF p = true) (hg : goodG (a, b, d) = true) :
    Ct P 31 #[.slice A n c, gdv a b d] w [] (fun r L => ∃ v e, WitR p (a, b, d) v e ∧ r = .tuple #[vc v, int e] ∧ L = []) := by
  subst hn
  have hc0 : (blankF p && goodG (a, b, d)) = true := by rw [hb, hg]; rfl
  have hs : ∀ w, Rd enc 2 w A p → Ct P 57 #[.slice A p.length c, gdv a b d] w [] (fun r L => r = int 0 ∧ L = []) := fun w h => by
    have := asksR_ct A p p.length c a b d w h rfl hlen
    simp only [if_pos hc0] at this
    exact this
  have hl625 : (hits p).length ≤ 625 := hits_len p 625
  refine Ct.of_body (rs := [.cell 4 52, .tmp 5]) (N := 54) (L := []) Try.func31 rfl rfl rfl (by kernel_rfl) rfl (Mem.refl w) ?_
  refine HW.seq (HW.region [(0, .ef), (1, .al), (2, .st)] rfl rfl ?_)
  refine Plan.boxA rfl rfl rfl fun b3 => ?_
  refine Plan.alloc rfl zerV fun b4 => ?_
  refine Plan.assign (v := .int _ _) rfl rfl rfl ?_
  refine Plan.done ?_
  refine HW.seq (HW.region [(0, .st), (1, .st), (2, .ef), (3, .st)] rfl rfl ?_)
  refine Plan.move (v := .slice _ _ _) rfl rfl rfl ?_
  refine Plan.loadAll 1 rfl rfl aggGrid sizGrid rfl rfl rfl ?_
  refine Plan.callF [] 0 rfl rfl rfl (.inl rfl) (by simp) (fun w hm => hs w (hp.mem hm)) ?_
  rintro v Ln ⟨rfl, rfl⟩
  refine Plan.assign (v := .int _ _) rfl rfl rfl ?_
  refine Plan.done ?_
  refine HW.seq ?_
  refine HW.seq (HW.region [(0, .st), (1, .st)] rfl rfl ?_)
  refine Plan.move (v := .int _ _) rfl rfl rfl ?_
  refine Plan.cmp2 rfl rfl rfl rfl rfl (fun h14 => ?_) (fun h14 => ?_)
  · replace h14 := ne_of_t h14
    exact absurd rfl h14
  · replace h14 := eq_of_f h14
    refine Plan.done ?_
    refine HW.cond_false rfl ?_
    refine HW.skip ?_
    refine HW.seq (HW.region [(0, .st), (1, .al), (2, .ef)] rfl rfl ?_)
    refine Plan.build rfl rfl rfl (bld0) ?_
    refine Plan.alloc rfl zerV fun b7 => ?_
    refine Plan.storeA 0 rfl rfl hDn sizV rfl rfl rfl rfl rfl rfl ?_
    refine Plan.done ?_
    refine HW.seq (HW.region [(0, .st), (1, .ef), (2, .st)] rfl rfl ?_)
    refine Plan.move (v := .slice _ _ _) rfl rfl rfl ?_
    refine Plan.callF [] 0 rfl rfl rfl (.inl rfl) (by simp) (fun w hm => crossing_ct A p _ c w (hp.mem hm) rfl hb) ?_
    rintro v Ln ⟨o, c1, rfl, rfl⟩
    refine Plan.assign (v := .slice _ _ _) rfl rfl rfl ?_
    refine Plan.done ?_
    refine HW.seq ?_
    refine HW.seq (HW.region [(0, .st)] rfl rfl ?_)
    refine Plan.assign (v := .int _ _) rfl rfl rfl ?_
    refine Plan.done ?_
    refine HW.block ?_
    refine HW.loopL (G := MnG) [9, 20, 21, 22, 23, 24, 25, 26, 27, 28, 29, 30, 31, 32, 33, 34, 35, 36, 37, 38, 39, 40, 41, 42, 43, 44, 45, 46, 47, 48] (fun g => [(9, int g.k)]) (fun g => [ownV o c1 (hits p), Res.blk b7 #[int g.m.1, int g.m.2] 52, Res.blk b4 #[int 0, int 0] 52, Res.blk b3 #[int a, int b, int d] 26]) (fun g => g.k ≤ (hits p).length ∧ BestO (a, b, d) ((hits p).take g.k) g.m) (fun g => (hits p).length - g.k) (⟨0, (0, 0)⟩) ⟨rfl, trivial⟩ (fun w' hm => hm) (⟨Nat.zero_le _, .inl ⟨rfl, fun u hu => by simp at hu⟩⟩) (fun g F hok => ?_)
    obtain ⟨k, mm⟩ := g
    obtain ⟨hk, hbo⟩ := hok
    dsimp only at hk hbo
    dsimp only
    refine HW.seq ?_
    refine HW.seq (HW.region [(0, .st), (1, .st), (2, .st), (3, .st)] rfl rfl ?_)
    refine Plan.move (v := .int _ _) rfl rfl rfl ?_
    refine Plan.move (v := .slice _ _ _) rfl rfl rfl ?_
    refine Plan.len rfl rfl slV rfl ?_
    refine Plan.cmp2 rfl rfl rfl rfl rfl (fun h23 => ?_) (fun h23 => ?_)
    · replace h23 := of_decide_eq_true h23
      have hlt : k < (hits p).length := by omega
      obtain ⟨xk, hxk⟩ : ∃ xk, (hits p)[k] = xk := ⟨_, rfl⟩
      have hmem : xk ∈ hits p := by rw [← hxk]; exact List.getElem_mem hlt
      have hbd := hits_bd hmem
      have hne := hits_ne hmem
      refine Plan.done ?_
      refine HW.cond_true rfl ?_
      refine HW.skip ?_
      refine HW.seq ?_
      refine HW.block ?_
      refine HW.pure (p := ∃ b, o = some b) (fun w' hm => Res.own_some (hm.res _ List.mem_cons_self) (by omega)) fun hob => ?_
      obtain ⟨bo, rfl⟩ := hob
      refine HW.seq (HW.region_any [] [(0, .st), (1, .st), (2, .st), (3, .st), (4, .st), (5, .ef), (6, .st), (7, .st), (8, .st), (9, .st), (10, .st), (11, .st), (12, .st), (13, .st), (14, .st), (15, .st), (16, .ef), (17, .st), (18, .st)] mix (by kernel_rfl) (fun _ _ _ _ _ h => h) (zeros rfl) ?_)
      refine Plan.loadAll 3 rfl rfl aggGrid sizGrid rfl rfl rfl ?_
      refine Plan.move (v := .slice _ _ _) rfl rfl rfl ?_
      refine Plan.move (v := .int _ _) rfl rfl rfl ?_
      refine Plan.indexN (k) rfl rfl slV sizV rfl rfl rfl rfl (hlt) ?_
      refine Plan.loadAgg rfl rfl aggV sizV rfl (Sees.ownV 0 enc2 rfl bo rfl k hlt hxk) rfl ?_
      refine Plan.callF [] 0 rfl rfl rfl (.inl rfl) (by simp) (fun w hm => inR_ct a b d _ _ w hg (hbd.1.mono (by omega)) (hbd.2.mono (by omega))) ?_
      rintro v Ln ⟨rfl, rfl⟩
      refine Plan.splitB (fun h31 => ?_) (fun h31 => ?_)
      · skip
        refine Plan.move (v := .bool _) rfl rfl rfl ?_
        refine Plan.loadAll 1 rfl rfl aggV sizV rfl rfl rfl ?_
        refine Plan.build rfl rfl rfl (bld0) ?_
        refine Plan.eqV mm ((0, 0)) rfl rfl rfl rfl rfl (fun h35 => ?_) (fun h35 => ?_)
        · skip
          refine Plan.move (v := .bool _) rfl rfl rfl ?_
          refine Plan.no rfl rfl ?_
          refine Plan.no rfl rfl ?_
          refine Plan.no rfl rfl ?_
          refine Plan.no rfl rfl ?_
          refine Plan.no rfl rfl ?_
          refine Plan.noE rfl rfl ?_
          refine Plan.pick (v := .bool _) rfl rfl rfl rfl ?_
          refine Plan.pick (v := .bool _) rfl rfl rfl rfl ?_
          refine Plan.done ?_
          refine HW.cond_true rfl ?_
          refine HW.region [(0, .st), (1, .st), (2, .st), (3, .st), (4, .ef)] rfl rfl ?_
          refine Plan.move (v := .slice _ _ _) rfl rfl rfl ?_
          refine Plan.move (v := .int _ _) rfl rfl rfl ?_
          refine Plan.indexN (k) rfl rfl slV sizV rfl rfl rfl rfl (hlt) ?_
          refine Plan.loadAgg rfl rfl aggV sizV rfl (Sees.ownV 0 enc2 rfl bo rfl k hlt hxk) rfl ?_
          refine Plan.storeA 1 rfl rfl hDn sizV rfl rfl rfl rfl rfl rfl ?_
          refine Plan.done ?_
          refine HW.region [(0, .st), (1, .st), (2, .st)] rfl rfl ?_
          refine Plan.move (v := .int _ _) rfl rfl rfl ?_
          refine Plan.arithI rfl rfl rfl rfl rfl (by omega) ?_
          refine Plan.assign (v := .int _ _) rfl rfl rfl ?_
          refine Plan.done ?_
          exact ⟨⟨k + 1, xk⟩, by dsimp only; omega, ⟨hlt, by have := hbo.new hlt (by rw [hxk]; exact h31) (by rw [hxk]; exact hne) (.inl h35); rw [hxk] at this; exact this⟩, rfl, Ent.sub (.refl _), (by repeat (first | exact Agree.havoc _ _ _ | refine Agree.updN ?_ | refine Agree.upd rfl ?_ | refine Agree.updL rfl ?_ | refine Agree.havoc2 rfl ?_)), ⟨rfl, trivial⟩⟩
        · skip
          have hmb : Bd 12 mm.1 ∧ Bd 12 mm.2 := by
            rcases hbo with ⟨h0, _⟩ | ⟨_, ⟨h1, _⟩, _⟩
            · exact absurd h0 h35
            · exact hits_bd (List.mem_of_mem_take h1)
          refine Plan.move (v := .bool _) rfl rfl rfl ?_
          refine Plan.move (v := .slice _ _ _) rfl rfl rfl ?_
          refine Plan.move (v := .int _ _) rfl rfl rfl ?_
          refine Plan.indexN (k) rfl rfl slV sizV rfl rfl rfl rfl (hlt) ?_
          refine Plan.loadAgg rfl rfl aggV sizV rfl (Sees.ownV 0 enc2 rfl bo rfl k hlt hxk) rfl ?_
          refine Plan.loadAll 1 rfl rfl aggV sizV rfl rfl rfl ?_
          refine Plan.callF [] 0 rfl rfl rfl (.inl rfl) (by simp) (fun w hm => nearer_ct xk mm w hbd hmb) ?_
          rintro v Ln ⟨rfl, rfl⟩
          refine Plan.splitB (fun h42 => ?_) (fun h42 => ?_)
          · skip
            refine Plan.pick (v := .bool _) rfl rfl rfl rfl ?_
            refine Plan.pick (v := .bool _) rfl rfl rfl rfl ?_
            refine Plan.done ?_
            refine HW.cond_true rfl ?_
            refine HW.region [(0, .st), (1, .st), (2, .st), (3, .st), (4, .ef)] rfl rfl ?_
            refine Plan.move (v := .slice _ _ _) rfl rfl rfl ?_
            refine Plan.move (v := .int _ _) rfl rfl rfl ?_
            refine Plan.indexN (k) rfl rfl slV sizV rfl rfl rfl rfl (hlt) ?_
            refine Plan.loadAgg rfl rfl aggV sizV rfl (Sees.ownV 0 enc2 rfl bo rfl k hlt hxk) rfl ?_
            refine Plan.storeA 1 rfl rfl hDn sizV rfl rfl rfl rfl rfl rfl ?_
            refine Plan.done ?_
            refine HW.region [(0, .st), (1, .st), (2, .st)] rfl rfl ?_
            refine Plan.move (v := .int _ _) rfl rfl rfl ?_
            refine Plan.arithI rfl rfl rfl rfl rfl (by omega) ?_
            refine Plan.assign (v := .int _ _) rfl rfl rfl ?_
            refine Plan.done ?_
            exact ⟨⟨k + 1, xk⟩, by dsimp only; omega, ⟨hlt, by have := hbo.new hlt (by rw [hxk]; exact h31) (by rw [hxk]; exact hne) (.inr (by rw [hxk]; exact h42)); rw [hxk] at this; exact this⟩, rfl, Ent.sub (.refl _), (by repeat (first | exact Agree.havoc _ _ _ | refine Agree.updN ?_ | refine Agree.upd rfl ?_ | refine Agree.updL rfl ?_ | refine Agree.havoc2 rfl ?_)), ⟨rfl, trivial⟩⟩
          · skip
            refine Plan.pick (v := .bool _) rfl rfl rfl rfl ?_
            refine Plan.pick (v := .bool _) rfl rfl rfl rfl ?_
            refine Plan.done ?_
            refine HW.cond_false rfl ?_
            refine HW.skip ?_
            refine HW.region [(0, .st), (1, .st), (2, .st)] rfl rfl ?_
            refine Plan.move (v := .int _ _) rfl rfl rfl ?_
            refine Plan.arithI rfl rfl rfl rfl rfl (by omega) ?_
            refine Plan.assign (v := .int _ _) rfl rfl rfl ?_
            refine Plan.done ?_
            exact ⟨⟨k + 1, mm⟩, by dsimp only; omega, ⟨hlt, hbo.keep hlt h35 (by rw [hxk]; exact h42)⟩, rfl, Ent.sub (.refl _), (by repeat (first | exact Agree.havoc _ _ _ | refine Agree.updN ?_ | refine Agree.upd rfl ?_ | refine Agree.updL rfl ?_ | refine Agree.havoc2 rfl ?_)), ⟨rfl, trivial⟩⟩
      · skip
        refine Plan.move (v := .bool _) rfl rfl rfl ?_
        refine Plan.no rfl rfl ?_
        refine Plan.no rfl rfl ?_
        refine Plan.no rfl rfl ?_
        refine Plan.no rfl rfl ?_
        refine Plan.no rfl rfl ?_
        refine Plan.no rfl rfl ?_
        refine Plan.no rfl rfl ?_
        refine Plan.no rfl rfl ?_
        refine Plan.no rfl rfl ?_
        refine Plan.noE rfl rfl ?_
        refine Plan.no rfl rfl ?_
        refine Plan.pick (v := .bool _) rfl rfl rfl rfl ?_
        refine Plan.done ?_
        refine HW.cond_false rfl ?_
        refine HW.skip ?_
        refine HW.region [(0, .st), (1, .st), (2, .st)] rfl rfl ?_
        refine Plan.move (v := .int _ _) rfl rfl rfl ?_
        refine Plan.arithI rfl rfl rfl rfl rfl (by omega) ?_
        refine Plan.assign (v := .int _ _) rfl rfl rfl ?_
        refine Plan.done ?_
        exact ⟨⟨k + 1, mm⟩, by dsimp only; omega, ⟨hlt, hbo.no hlt (by rw [hxk]; exact h31)⟩, rfl, Ent.sub (.refl _), (by repeat (first | exact Agree.havoc _ _ _ | refine Agree.updN ?_ | refine Agree.upd rfl ?_ | refine Agree.updL rfl ?_ | refine Agree.havoc2 rfl ?_)), ⟨rfl, trivial⟩⟩
    · replace h23 := of_decide_eq_false h23
      have hke : k = (hits p).length := by omega
      rw [hke, List.take_length] at hbo
      refine Plan.done ?_
      refine HW.cond_false rfl ?_
      refine HW.exit ?_
      refine HW.seq ?_
      refine HW.seq (HW.region [(0, .st), (1, .st), (2, .st)] rfl rfl ?_)
      refine Plan.loadAll 1 rfl rfl aggV sizV rfl rfl rfl ?_
      refine Plan.build rfl rfl rfl (bld0) ?_
      refine Plan.eqV mm ((0, 0)) rfl rfl rfl rfl rfl (fun h51 => ?_) (fun h51 => ?_)
      · skip
        refine Plan.done ?_
        refine HW.cond_true rfl ?_
        refine HW.seq (HW.region [(0, .st), (1, .ef), (2, .st)] rfl rfl ?_)
        refine Plan.loadAll 1 rfl rfl aggV sizV rfl rfl rfl ?_
        refine Plan.storeA 2 rfl rfl hDn sizV rfl rfl rfl rfl rfl rfl ?_
        refine Plan.assign (v := .int _ _) rfl rfl rfl ?_
        refine Plan.done ?_
        exact HW.ret ⟨rfl, _, [], .cell rfl (own_loadAgg 2 rfl aggV sizV rfl) (.tmp rfl .nil), List.nil_sublist _, mm, 10, .inl ⟨rfl, h51, by
            rcases hbo with ⟨_, h⟩ | ⟨h0, _⟩
            · exact h
            · exact absurd h51 h0⟩, rfl, rfl⟩
      · skip
        refine Plan.done ?_
        refine HW.cond_false rfl ?_
        refine HW.skip ?_
        refine HW.seq (HW.region [(0, .st), (1, .ef), (2, .st)] rfl rfl ?_)
        refine Plan.loadAll 1 rfl rfl aggV sizV rfl rfl rfl ?_
        refine Plan.storeA 2 rfl rfl hDn sizV rfl rfl rfl rfl rfl rfl ?_
        refine Plan.assign (v := .int _ _) rfl rfl rfl ?_
        refine Plan.done ?_
        exact HW.ret ⟨rfl, _, [], .cell rfl (own_loadAgg 2 rfl aggV sizV rfl) (.tmp rfl .nil), List.nil_sublist _, mm, 0, .inr (by
            rcases hbo with ⟨h0, _⟩ | ⟨_, h1, h2⟩
            · exact absurd h0 h51
            · exact ⟨rfl, h1, h2⟩), rfl, rfl⟩

theorem WitnessR_no (A : Option Addr) (p : List Pt) (n c : Nat) (a b d : Int) (w : World) (hp : Rd enc 2 w A p) (hn : n = p.length) (hlen : p.length ≤ 1000000) (hb : (blankF p && goodG (a, b, d)) = false) :
    Ct P 31 #[.slice A n c, gdv a b d] w [] (fun r L => r = .tuple #[vc (0, 0), int 2] ∧ L = []) := by
  subst hn
  have hs : ∀ w, Rd enc 2 w A p → Ct P 57 #[.slice A p.length c, gdv a b d] w [] (fun r L => r = int 2 ∧ L = []) := fun w h => by
    have := asksR_ct A p p.length c a b d w h rfl hlen
    simp only [if_neg (show ¬ (blankF p && goodG (a, b, d)) = true by rw [hb]; decide)] at this
    exact this
  refine Ct.of_body (rs := [.cell 4 52, .tmp 5]) (N := 54) (L := []) Try.func31 rfl rfl rfl (by kernel_rfl) rfl (Mem.refl w) ?_
  refine HW.seq (HW.region [(0, .ef), (1, .al), (2, .st)] rfl rfl ?_)
  refine Plan.boxA rfl rfl rfl fun b3 => ?_
  refine Plan.alloc rfl zerV fun b4 => ?_
  refine Plan.assign (v := .int _ _) rfl rfl rfl ?_
  refine Plan.done ?_
  refine HW.seq (HW.region [(0, .st), (1, .st), (2, .ef), (3, .st)] rfl rfl ?_)
  refine Plan.move (v := .slice _ _ _) rfl rfl rfl ?_
  refine Plan.loadAll 1 rfl rfl aggGrid sizGrid rfl rfl rfl ?_
  refine Plan.callF [] 0 rfl rfl rfl (.inl rfl) (by simp) (fun w hm => hs w (hp.mem hm)) ?_
  rintro v Ln ⟨rfl, rfl⟩
  refine Plan.assign (v := .int _ _) rfl rfl rfl ?_
  refine Plan.done ?_
  refine HW.seq ?_
  refine HW.seq (HW.region [(0, .st), (1, .st)] rfl rfl ?_)
  refine Plan.move (v := .int _ _) rfl rfl rfl ?_
  refine Plan.cmp2 rfl rfl rfl rfl rfl (fun h14 => ?_) (fun h14 => ?_)
  · replace h14 := ne_of_t h14
    refine Plan.done ?_
    refine HW.cond_true rfl ?_
    refine HW.seq (HW.region [(0, .st), (1, .st), (2, .ef), (3, .st)] rfl rfl ?_)
    refine Plan.build rfl rfl rfl (bld0) ?_
    refine Plan.move (v := .int _ _) rfl rfl rfl ?_
    refine Plan.storeA 0 rfl rfl hDn sizV rfl rfl rfl rfl rfl rfl ?_
    refine Plan.assign (v := .int _ _) rfl rfl rfl ?_
    refine Plan.done ?_
    exact HW.ret ⟨rfl, _, [], .cell rfl (own_loadAgg 0 rfl aggV sizV rfl) (.tmp rfl .nil), List.nil_sublist _, rfl, rfl⟩
  · replace h14 := eq_of_f h14
    exact absurd h14 (by decide)

end Go.Proofs.Ytjmklbkcpjmcaaa.V

namespace Go.Proofs.Ytjmklbkcpjmcaaa.V
open Go Go.RowKit Go.Proofs.Ytjmklbkcpjmcaaa.H Go.Proofs.Ytjmklbkcpjmcaaa.LL
set_option linter.unusedVariables false
set_option linter.unusedSimpArgs false

theorem undB2 : P.underlying 4 = some .bool := by kernel_rfl

theorem AdmissibleR_ct (A : Option Addr) (p : List Pt) (n c : Nat) (a b d : Int) (w : World) (hp : Rd enc 2 w A p) (hn : n = p.length) (hlen : p.length ≤ 1000000) :
    Ct P 29 #[.slice A n c, gdv a b d] w [] (fun r L => r = .tuple #[.bool (AdmissibleF p (a, b, d)).1, int (AdmissibleF p (a, b, d)).2] ∧ L = []) := by
  rcases Bool.eq_false_or_eq_true (blankF p && goodG (a, b, d)) with hb | hb
  · have hF : AdmissibleF p (a, b, d) = (admB p (a, b, d), 0) := by rw [AdmissibleF, if_pos hb]
    simp only [hF]
    simp only [Bool.and_eq_true] at hb
    exact AdmissibleR_ok A p n c a b d w hp hn hlen hb.1 hb.2
  · have hF : AdmissibleF p (a, b, d) = (false, 2) := by rw [AdmissibleF, if_neg (by rw [hb]; decide)]
    simp only [hF]
    exact AdmissibleR_no A p n c a b d w hp hn hlen hb

/-- what Witness returns, whole -/
def WitS (p : List Pt) (g : Gd) (v : Pt) (e : Int) : Prop := if (blankF p && goodG g) = true then WitR p g v e else (v = (0, 0) ∧ e = 2)
theorem WitS.unique {p : List Pt} {g : Gd} {v v' : Pt} {e e' : Int} (h : WitS p g v e) (h' : WitS p g v' e') : v = v' ∧ e = e' := by
  unfold WitS at h h'
  split at h
  · next hc => rw [if_pos hc] at h'; exact h.unique h'
  · next hc => rw [if_neg hc] at h'; exact ⟨h.1.trans h'.1.symm, h.2.trans h'.2.symm⟩

theorem WitnessB_ct (A : Option Addr) (p : List Pt) (n c : Nat) (a b d : Int) (w : World) (hp : Rd enc 2 w A p) (hn : n = p.length) (hlen : p.length ≤ 1000000) :
    Ct P 30 #[.slice A n c, gdv a b d] w [] (fun r L => ∃ v e, WitS p (a, b, d) v e ∧ r = .tuple #[vc v, int e] ∧ L = []) := by
  rcases Bool.eq_false_or_eq_true (blankF p) with hb | hb
  · rcases Bool.eq_false_or_eq_true (goodG (a, b, d)) with hg | hg
    · refine (WitnessB_ok A p n c a b d w hp hn hlen hb hg).mono ?_
      rintro r L ⟨v, e, h, hr, hL⟩
      exact ⟨v, e, by rw [WitS, if_pos (by rw [hb, hg]; rfl)]; exact h, hr, hL⟩
    · refine (WitnessB_bad A p n c a b d w hp hn hlen hb hg).mono ?_
      rintro r L ⟨hr, hL⟩
      exact ⟨(0, 0), 2, by rw [WitS, if_neg (by rw [hb, hg]; decide)]; exact ⟨rfl, rfl⟩, hr, hL⟩
  · refine (WitnessB_no A p n c a b d w hp hn hlen hb).mono ?_
    rintro r L ⟨hr, hL⟩
    exact ⟨(0, 0), 2, by rw [WitS, if_neg (by rw [hb, Bool.false_and]; decide)]; exact ⟨rfl, rfl⟩, hr, hL⟩
theorem WitnessR_ct (A : Option Addr) (p : List Pt) (n c : Nat) (a b d : Int) (w : World) (hp : Rd enc 2 w A p) (hn : n = p.length) (hlen : p.length ≤ 1000000) :
    Ct P 31 #[.slice A n c, gdv a b d] w [] (fun r L => ∃ v e, WitS p (a, b, d) v e ∧ r = .tuple #[vc v, int e] ∧ L = []) := by
  rcases Bool.eq_false_or_eq_true (blankF p && goodG (a, b, d)) with hb | hb
  · have hb2 := hb
    simp only [Bool.and_eq_true] at hb2
    refine (WitnessR_ok A p n c a b d w hp hn hlen hb2.1 hb2.2).mono ?_
    rintro r L ⟨v, e, h, hr, hL⟩
    exact ⟨v, e, by rw [WitS, if_pos hb]; exact h, hr, hL⟩
  · refine (WitnessR_no A p n c a b d w hp hn hlen hb).mono ?_
    rintro r L ⟨hr, hL⟩
    exact ⟨(0, 0), 2, by rw [WitS, if_neg (by rw [hb]; decide)]; exact ⟨rfl, rfl⟩, hr, hL⟩

theorem Grids_far (A : Option Addr) (p : List Pt) (n c : Nat) (x y z : Int) (w : World) (hn : n = p.length) (h60 : ¬ p.length ≤ 60) :
    Ct P 10 #[.slice A n c, gdv x y z] w [] (fun r L => r = .bool true ∧ L = []) := by
  subst hn
  refine Ct.of_body (rs := [.tmp 4]) (N := 67) (L := []) Try.func10 rfl rfl rfl (by kernel_rfl) rfl (Mem.refl w) ?_
  refine HW.seq (HW.region [(0, .ef), (1, .st)] rfl rfl ?_)
  refine Plan.boxA rfl rfl rfl fun b3 => ?_
  refine Plan.assign (v := .bool _) rfl rfl rfl ?_
  refine Plan.done ?_
  refine HW.seq ?_
  refine HW.seq (HW.region [(0, .st), (1, .ef), (2, .st)] rfl rfl ?_)
  refine Plan.move (v := .slice _ _ _) rfl rfl rfl ?_
  refine Plan.callF [] 0 rfl rfl rfl (.inl rfl) (by simp) (fun w hm => few_ct A p _ c w rfl) ?_
  rintro v Ln ⟨rfl, rfl⟩
  refine Plan.splitB (fun h13 => ?_) (fun h13 => ?_)
  · skip
    exact absurd (of_decide_eq_true h13) h60
  · skip
    refine Plan.not rfl rfl rfl ?_
    refine Plan.done ?_
    refine HW.cond_true rfl ?_
    refine HW.seq (HW.region [(0, .ef), (1, .st)] rfl rfl ?_)
    refine Plan.callF [] 0 rfl rfl rfl (.inl rfl) (by simp) (fun w hm => alive_ct w) ?_
    rintro v Ln ⟨rfl, rfl⟩
    refine Plan.splitB (fun h15 => ?_) (fun h15 => ?_)
    · skip
      refine Plan.assign (v := .bool _) rfl rfl rfl ?_
      refine Plan.done ?_
      exact HW.ret ⟨rfl, _, [], .tmp rfl .nil, List.nil_sublist _, rfl, rfl⟩
    · skip
      exact absurd h15 (by decide)

set_option maxRecDepth 100000 in
set_option maxHeartbeats 1000000 in
theorem Grids_ok (A : Option Addr) (p : List Pt) (n c : Nat) (x y z : Int) (w : World) (hp : Rd enc 2 w A p) (hn : n = p.length) (h60 : p.length ≤ 60) :
    Ct P 10 #[.slice A n c, gdv x y z] w [] (fun r L => r = .bool true ∧ L = []) := by
  subst hn
  have undB := undB2
  obtain ⟨⟨ok, er⟩, hF⟩ : ∃ q, AdmissibleF p (x, y, z) = q := ⟨_, rfl⟩
  refine Ct.of_body (rs := [.tmp 4]) (N := 67) (L := []) Try.func10 rfl rfl rfl (by kernel_rfl) rfl (Mem.refl w) ?_
  refine HW.seq (HW.region [(0, .ef), (1, .st)] rfl rfl ?_)
  refine Plan.boxA rfl rfl rfl fun b3 => ?_
  refine Plan.assign (v := .bool _) rfl rfl rfl ?_
  refine Plan.done ?_
  refine HW.seq ?_
  refine HW.seq (HW.region [(0, .st), (1, .ef), (2, .st)] rfl rfl ?_)
  refine Plan.move (v := .slice _ _ _) rfl rfl rfl ?_
  refine Plan.callF [] 0 rfl rfl rfl (.inl rfl) (by simp) (fun w hm => few_ct A p _ c w rfl) ?_
  rintro v Ln ⟨rfl, rfl⟩
  refine Plan.splitB (fun h13 => ?_) (fun h13 => ?_)
  · skip
    refine Plan.not rfl rfl rfl ?_
    refine Plan.done ?_
    refine HW.cond_false rfl ?_
    refine HW.skip ?_
    refine HW.seq (HW.region [(0, .ef), (1, .st), (2, .ef), (3, .st)] rfl rfl ?_)
    refine Plan.buildOwn (xs := ([] : List Pt)) (enc := enc) (sz := 2) rfl rfl rfl (bs0) rfl rfl (by simp) rfl fun b16 => ?_
    refine Plan.move (v := .slice _ _ _) rfl rfl rfl ?_
    refine Plan.appendRd (enc := enc) (sz := 2) (ys := p) (0) rfl rfl hDn slV infV rfl (by decide) enc2 enc1 rfl rfl rfl rfl rfl (fun w hm => hp.mem hm) (by simp; omega) (by simp; omega) fun o18 c18 => ?_
    refine Plan.assign (v := .slice _ _ _) rfl rfl rfl ?_
    refine Plan.done ?_
    refine HW.seq (HW.region [(0, .st), (1, .st), (2, .ef), (3, .st), (4, .st), (5, .st), (6, .st), (7, .st)] rfl rfl ?_)
    refine Plan.move (v := .slice _ _ _) rfl rfl rfl ?_
    refine Plan.loadAll 1 rfl rfl aggGrid sizGrid rfl rfl rfl ?_
    refine Plan.callF [] 0 rfl rfl rfl (.inl rfl) (by simp) (fun w hm => (by have h5 := Admissible_ct (at0 o18) p (0 + p.length) c18 x y z w (Res.own_rd enc2 (hm.res (ownV o18 c18 ([] ++ p)) (by simp))) (by simp) (by omega); rw [hF] at h5; exact h5)) ?_
    rintro v Ln ⟨rfl, rfl⟩
    refine Plan.move (v := .tuple _) rfl rfl rfl ?_
    refine Plan.extract (v := .bool _) rfl rfl rfl rfl ?_
    refine Plan.splitB (fun h23 => ?_) (fun h23 => ?_)
    · skip
      obtain rfl := h23
      refine Plan.extract (v := .int _ _) rfl rfl rfl rfl ?_
      refine Plan.assign (v := .bool _) rfl rfl rfl ?_
      refine Plan.assign (v := .int _ _) rfl rfl rfl ?_
      refine Plan.done ?_
      refine HW.seq (HW.region [(0, .st), (1, .st), (2, .ef), (3, .st), (4, .st), (5, .st), (6, .st), (7, .st)] rfl rfl ?_)
      refine Plan.move (v := .slice _ _ _) rfl rfl rfl ?_
      refine Plan.loadAll 1 rfl rfl aggGrid sizGrid rfl rfl rfl ?_
      refine Plan.callF [] 0 rfl rfl rfl (.inl rfl) (by simp) (fun w hm => (by have h5 := AdmissibleR_ct A p p.length c x y z w (hp.mem hm) rfl (by omega); rw [hF] at h5; exact h5)) ?_
      rintro v Ln ⟨rfl, rfl⟩
      refine Plan.move (v := .tuple _) rfl rfl rfl ?_
      refine Plan.extract (v := .bool _) rfl rfl rfl rfl ?_
      refine Plan.extract (v := .int _ _) rfl rfl rfl rfl ?_
      refine Plan.assign (v := .bool _) rfl rfl rfl ?_
      refine Plan.assign (v := .int _ _) rfl rfl rfl ?_
      refine Plan.done ?_
      refine HW.seq ?_
      refine HW.seq (HW.region [(0, .st), (1, .st), (2, .st), (3, .st), (4, .st), (5, .st), (6, .st), (7, .st)] rfl rfl ?_)
      refine Plan.move (v := .bool _) rfl rfl rfl ?_
      refine Plan.move (v := .bool _) rfl rfl rfl ?_
      refine Plan.neB rfl rfl undB rfl rfl ?_
      refine Plan.move (v := .bool _) rfl rfl rfl ?_
      refine Plan.move (v := .int _ _) rfl rfl rfl ?_
      refine Plan.move (v := .int _ _) rfl rfl rfl ?_
      refine Plan.cmp2 rfl rfl rfl rfl rfl (fun h37 => ?_) (fun h37 => ?_)
      · replace h37 := ne_of_t h37
        exact absurd rfl h37
      · replace h37 := eq_of_f h37
        refine Plan.pick (v := .bool _) rfl rfl rfl rfl ?_
        refine Plan.done ?_
        refine HW.cond_false rfl ?_
        refine HW.skip ?_
        refine HW.seq (HW.region [(0, .st), (1, .st), (2, .ef), (3, .st), (4, .st), (5, .st), (6, .al), (7, .ef), (8, .st)] rfl rfl ?_)
        refine Plan.move (v := .slice _ _ _) rfl rfl rfl ?_
        refine Plan.loadAll 1 rfl rfl aggGrid sizGrid rfl rfl rfl ?_
        refine Plan.callF [] 0 rfl rfl rfl (.inl rfl) (by simp) (fun w hm => WitnessB_ct (at0 o18) p _ c18 x y z w (Res.own_rd enc2 (hm.res (ownV o18 c18 ([] ++ p)) (by simp))) (by simp) (by omega)) ?_
        rintro v Ln ⟨v1, e1, hw1, rfl, rfl⟩
        refine Plan.move (v := .tuple _) rfl rfl rfl ?_
        refine Plan.extract (v := .agg _) rfl rfl rfl rfl ?_
        refine Plan.extract (v := .int _ _) rfl rfl rfl rfl ?_
        refine Plan.alloc rfl zerV fun b10 => ?_
        refine Plan.storeA 0 rfl rfl hDn sizV rfl rfl rfl rfl rfl rfl ?_
        refine Plan.assign (v := .int _ _) rfl rfl rfl ?_
        refine Plan.done ?_
        refine HW.seq (HW.region [(0, .st), (1, .st), (2, .ef), (3, .st), (4, .st), (5, .st), (6, .al), (7, .ef), (8, .st)] rfl rfl ?_)
        refine Plan.move (v := .slice _ _ _) rfl rfl rfl ?_
        refine Plan.loadAll 2 rfl rfl aggGrid sizGrid rfl rfl rfl ?_
        refine Plan.callF [] 0 rfl rfl rfl (.inl rfl) (by simp) (fun w hm => WitnessR_ct A p _ c x y z w (hp.mem hm) rfl (by omega)) ?_
        rintro v Ln ⟨v2, e2, hw2, rfl, rfl⟩
        obtain ⟨rfl, rfl⟩ := hw1.unique hw2
        refine Plan.move (v := .tuple _) rfl rfl rfl ?_
        refine Plan.extract (v := .agg _) rfl rfl rfl rfl ?_
        refine Plan.extract (v := .int _ _) rfl rfl rfl rfl ?_
        refine Plan.alloc rfl zerV fun b11 => ?_
        refine Plan.storeA 0 rfl rfl hDn sizV rfl rfl rfl rfl rfl rfl ?_
        refine Plan.assign (v := .int _ _) rfl rfl rfl ?_
        refine Plan.done ?_
        refine HW.seq (HW.region [(0, .st), (1, .st), (2, .st), (3, .st), (4, .st), (5, .st), (6, .st), (7, .st), (8, .st), (9, .st), (10, .st), (11, .ef), (12, .st), (13, .st), (14, .ef), (15, .st), (16, .st)] rfl rfl ?_)
        refine Plan.loadAll 1 rfl rfl aggV sizV rfl rfl rfl ?_
        refine Plan.loadAll 0 rfl rfl aggV sizV rfl rfl rfl ?_
        refine Plan.eqV v1 v1 rfl rfl rfl rfl rfl (fun h53 => ?_) (fun h53 => ?_)
        · skip
          refine Plan.move (v := .bool _) rfl rfl rfl ?_
          refine Plan.move (v := .int _ _) rfl rfl rfl ?_
          refine Plan.move (v := .int _ _) rfl rfl rfl ?_
          refine Plan.cmp2 rfl rfl rfl rfl rfl (fun h57 => ?_) (fun h57 => ?_)
          · replace h57 := of_decide_eq_true h57
            refine Plan.pick (v := .bool _) rfl rfl rfl rfl ?_
            refine Plan.move (v := .bool _) rfl rfl rfl ?_
            refine Plan.move (v := .slice _ _ _) rfl rfl rfl ?_
            refine Plan.move (v := .slice _ _ _) rfl rfl rfl ?_
            refine Plan.callF [] 0 rfl rfl rfl (.inl rfl) (by simp) (fun w hm => same_ct (at0 o18) A p p _ c18 _ c w (Res.own_rd enc2 (hm.res (ownV o18 c18 ([] ++ p)) (by simp))) (hp.mem hm) (by simp) rfl (by omega) (by omega)) ?_
            rintro v Ln ⟨rfl, rfl⟩
            refine Plan.splitB (fun h62 => ?_) (fun h62 => ?_)
            · skip
              refine Plan.pick (v := .bool _) rfl rfl rfl rfl ?_
              refine Plan.move (v := .bool _) rfl rfl rfl ?_
              refine Plan.callF [] 0 rfl rfl rfl (.inl rfl) (by simp) (fun w hm => alive_ct w) ?_
              rintro v Ln ⟨rfl, rfl⟩
              refine Plan.splitB (fun h65 => ?_) (fun h65 => ?_)
              · skip
                refine Plan.pick (v := .bool _) rfl rfl rfl rfl ?_
                refine Plan.assign (v := .bool _) rfl rfl rfl ?_
                refine Plan.done ?_
                exact HW.ret ⟨rfl, _, [], .tmp rfl .nil, List.nil_sublist _, rfl, rfl⟩
              · skip
                exact absurd h65 (by decide)
            · skip
              simp at h62
          · replace h57 := of_decide_eq_false h57
            exact absurd rfl h57
        · skip
          exact absurd rfl h53
    · skip
      obtain rfl := h23
      refine Plan.extract (v := .int _ _) rfl rfl rfl rfl ?_
      refine Plan.assign (v := .bool _) rfl rfl rfl ?_
      refine Plan.assign (v := .int _ _) rfl rfl rfl ?_
      refine Plan.done ?_
      refine HW.seq (HW.region [(0, .st), (1, .st), (2, .ef), (3, .st), (4, .st), (5, .st), (6, .st), (7, .st)] rfl rfl ?_)
      refine Plan.move (v := .slice _ _ _) rfl rfl rfl ?_
      refine Plan.loadAll 1 rfl rfl aggGrid sizGrid rfl rfl rfl ?_
      refine Plan.callF [] 0 rfl rfl rfl (.inl rfl) (by simp) (fun w hm => (by have h5 := AdmissibleR_ct A p p.length c x y z w (hp.mem hm) rfl (by omega); rw [hF] at h5; exact h5)) ?_
      rintro v Ln ⟨rfl, rfl⟩
      refine Plan.move (v := .tuple _) rfl rfl rfl ?_
      refine Plan.extract (v := .bool _) rfl rfl rfl rfl ?_
      refine Plan.extract (v := .int _ _) rfl rfl rfl rfl ?_
      refine Plan.assign (v := .bool _) rfl rfl rfl ?_
      refine Plan.assign (v := .int _ _) rfl rfl rfl ?_
      refine Plan.done ?_
      refine HW.seq ?_
      refine HW.seq (HW.region [(0, .st), (1, .st), (2, .st), (3, .st), (4, .st), (5, .st), (6, .st), (7, .st)] rfl rfl ?_)
      refine Plan.move (v := .bool _) rfl rfl rfl ?_
      refine Plan.move (v := .bool _) rfl rfl rfl ?_
      refine Plan.neB rfl rfl undB rfl rfl ?_
      refine Plan.move (v := .bool _) rfl rfl rfl ?_
      refine Plan.move (v := .int _ _) rfl rfl rfl ?_
      refine Plan.move (v := .int _ _) rfl rfl rfl ?_
      refine Plan.cmp2 rfl rfl rfl rfl rfl (fun h37 => ?_) (fun h37 => ?_)
      · replace h37 := ne_of_t h37
        exact absurd rfl h37
      · replace h37 := eq_of_f h37
        refine Plan.pick (v := .bool _) rfl rfl rfl rfl ?_
        refine Plan.done ?_
        refine HW.cond_false rfl ?_
        refine HW.skip ?_
        refine HW.seq (HW.region [(0, .st), (1, .st), (2, .ef), (3, .st), (4, .st), (5, .st), (6, .al), (7, .ef), (8, .st)] rfl rfl ?_)
        refine Plan.move (v := .slice _ _ _) rfl rfl rfl ?_
        refine Plan.loadAll 1 rfl rfl aggGrid sizGrid rfl rfl rfl ?_
        refine Plan.callF [] 0 rfl rfl rfl (.inl rfl) (by simp) (fun w hm => WitnessB_ct (at0 o18) p _ c18 x y z w (Res.own_rd enc2 (hm.res (ownV o18 c18 ([] ++ p)) (by simp))) (by simp) (by omega)) ?_
        rintro v Ln ⟨v1, e1, hw1, rfl, rfl⟩
        refine Plan.move (v := .tuple _) rfl rfl rfl ?_
        refine Plan.extract (v := .agg _) rfl rfl rfl rfl ?_
        refine Plan.extract (v := .int _ _) rfl rfl rfl rfl ?_
        refine Plan.alloc rfl zerV fun b10 => ?_
        refine Plan.storeA 0 rfl rfl hDn sizV rfl rfl rfl rfl rfl rfl ?_
        refine Plan.assign (v := .int _ _) rfl rfl rfl ?_
        refine Plan.done ?_
        refine HW.seq (HW.region [(0, .st), (1, .st), (2, .ef), (3, .st), (4, .st), (5, .st), (6, .al), (7, .ef), (8, .st)] rfl rfl ?_)
        refine Plan.move (v := .slice _ _ _) rfl rfl rfl ?_
        refine Plan.loadAll 2 rfl rfl aggGrid sizGrid rfl rfl rfl ?_
        refine Plan.callF [] 0 rfl rfl rfl (.inl rfl) (by simp) (fun w hm => WitnessR_ct A p _ c x y z w (hp.mem hm) rfl (by omega)) ?_
        rintro v Ln ⟨v2, e2, hw2, rfl, rfl⟩
        obtain ⟨rfl, rfl⟩ := hw1.unique hw2
        refine Plan.move (v := .tuple _) rfl rfl rfl ?_
        refine Plan.extract (v := .agg _) rfl rfl rfl rfl ?_
        refine Plan.extract (v := .int _ _) rfl rfl rfl rfl ?_
        refine Plan.alloc rfl zerV fun b11 => ?_
        refine Plan.storeA 0 rfl rfl hDn sizV rfl rfl rfl rfl rfl rfl ?_
        refine Plan.assign (v := .int _ _) rfl rfl rfl ?_
        refine Plan.done ?_
        refine HW.seq (HW.region [(0, .st), (1, .st), (2, .st), (3, .st), (4, .st), (5, .st), (6, .st), (7, .st), (8, .st), (9, .st), (10, .st), (11, .ef), (12, .st), (13, .st), (14, .ef), (15, .st), (16, .st)] rfl rfl ?_)
        refine Plan.loadAll 1 rfl rfl aggV sizV rfl rfl rfl ?_
        refine Plan.loadAll 0 rfl rfl aggV sizV rfl rfl rfl ?_
        refine Plan.eqV v1 v1 rfl rfl rfl rfl rfl (fun h53 => ?_) (fun h53 => ?_)
        · skip
          refine Plan.move (v := .bool _) rfl rfl rfl ?_
          refine Plan.move (v := .int _ _) rfl rfl rfl ?_
          refine Plan.move (v := .int _ _) rfl rfl rfl ?_
          refine Plan.cmp2 rfl rfl rfl rfl rfl (fun h57 => ?_) (fun h57 => ?_)
          · replace h57 := of_decide_eq_true h57
            refine Plan.pick (v := .bool _) rfl rfl rfl rfl ?_
            refine Plan.move (v := .bool _) rfl rfl rfl ?_
            refine Plan.move (v := .slice _ _ _) rfl rfl rfl ?_
            refine Plan.move (v := .slice _ _ _) rfl rfl rfl ?_
            refine Plan.callF [] 0 rfl rfl rfl (.inl rfl) (by simp) (fun w hm => same_ct (at0 o18) A p p _ c18 _ c w (Res.own_rd enc2 (hm.res (ownV o18 c18 ([] ++ p)) (by simp))) (hp.mem hm) (by simp) rfl (by omega) (by omega)) ?_
            rintro v Ln ⟨rfl, rfl⟩
            refine Plan.splitB (fun h62 => ?_) (fun h62 => ?_)
            · skip
              refine Plan.pick (v := .bool _) rfl rfl rfl rfl ?_
              refine Plan.move (v := .bool _) rfl rfl rfl ?_
              refine Plan.callF [] 0 rfl rfl rfl (.inl rfl) (by simp) (fun w hm => alive_ct w) ?_
              rintro v Ln ⟨rfl, rfl⟩
              refine Plan.splitB (fun h65 => ?_) (fun h65 => ?_)
              · skip
                refine Plan.pick (v := .bool _) rfl rfl rfl rfl ?_
                refine Plan.assign (v := .bool _) rfl rfl rfl ?_
                refine Plan.done ?_
                exact HW.ret ⟨rfl, _, [], .tmp rfl .nil, List.nil_sublist _, rfl, rfl⟩
              · skip
                exact absurd h65 (by decide)
            · skip
              simp at h62
          · replace h57 := of_decide_eq_false h57
            exact absurd rfl h57
        · skip
          exact absurd rfl h53
  · skip
    exact absurd h60 (of_decide_eq_false h13)

theorem blankGrids_ct (A : Option Addr) (p : List Pt) (x y z : Int) (n c : Nat) (w : World) (hp : Rd enc 2 w A p) (hn : n = p.length) :
    Ct P 10 #[.slice A n c, gdv x y z] w [] (fun r L => r = .bool true ∧ L = []) := by
  by_cases h60 : p.length ≤ 60
  · exact Grids_ok A p n c x y z w hp hn h60
  · exact Grids_far A p n c x y z w hn h60

end Go.Proofs.Ytjmklbkcpjmcaaa.V
