/-
  Package blank: of, valid, has.
-/
import Derived.Test.YtjmklbkcpjmcaaaVb
namespace Go.Proofs.Ytjmklbkcpjmcaaa.V
open Go Go.RowKit Go.Proofs.Ytjmklbkcpjmcaaa.H
set_option linter.unusedVariables false
set_option linter.unusedSimpArgs false

def offB (v : Pt) : Bool := decide (v.1 < 0 ∨ v.2 < 0 ∨ 12 < v.1 ∨ 12 < v.2)
def blankF (p : List Pt) : Bool := validF p && !p.any offB
def goodG (g : Gd) : Bool := decide (1 ≤ g.1 ∧ g.1 ≤ 400 ∧ 1 ≤ g.2.2 ∧ g.2.2 ≤ 400 ∧ 0 ≤ g.2.1 ∧ g.2.1 < g.2.2)
def hasG (g : Gd) (v : Pt) : Bool := decide (v.1.tmod g.1 = 0) && decide ((v.2 - v.1.tdiv g.1 * g.2.1).tmod g.2.2 = 0)
/-- the n-th vector of the box, in order -/
def bx (n : Nat) : Pt := (((n / 25 : Nat) : Int) - 12, ((n % 25 : Nat) : Int) - 12)
def hitB (p : List Pt) (v : Pt) : Bool := (OverlapF p (MoveF p v).1).1 && decide (v ≠ (0, 0))
def hitsN (p : List Pt) (n : Nat) : List Pt := ((List.range n).map bx).filter (hitB p)
/-- the vectors by which two of a blank collide -/
abbrev hits (p : List Pt) : List Pt := hitsN p 625
def tag (l : List Pt) : List (Pt × Bool) := l.map fun v => (v, true)

theorem bx_inj {m n : Nat} (h : bx m = bx n) : m = n := by
  simp only [bx, Prod.mk.injEq] at h
  omega
theorem bx_at {i j : Nat} (h : j < 25) : bx (25 * i + j) = ((i : Int) - 12, (j : Int) - 12) := by
  simp only [bx, Prod.mk.injEq]
  omega
theorem hitsN_yes {p : List Pt} {n : Nat} (h : hitB p (bx n) = true) : putK (bx n) true (tag (hitsN p n)) = tag (hitsN p (n + 1)) := by
  rw [putK_new]
  · unfold hitsN tag
    rw [List.range_succ, List.map_append, List.filter_append, List.map_append]
    simp [h]
  · intro x hx
    simp only [tag, hitsN, List.mem_map, List.mem_filter, List.mem_range] at hx
    obtain ⟨v, ⟨⟨m, hm, rfl⟩, _⟩, rfl⟩ := hx
    intro he
    have := bx_inj he
    omega
theorem hitsN_no {p : List Pt} {n : Nat} (h : hitB p (bx n) = false) : hitsN p (n + 1) = hitsN p n := by
  unfold hitsN
  rw [List.range_succ, List.map_append, List.filter_append]
  simp [h]

theorem blankF_spec {p : List Pt} (h : blankF p = true) : validF p = true ∧ p.any offB = false := by
  simp only [blankF, Bool.and_eq_true, Bool.not_eq_true'] at h
  exact h

theorem MoveF_len' (p : List Pt) (v : Pt) : (MoveF p v).1.length ≤ 2 * p.length := by
  have := hullF_len (p.map (vAdd v))
  rw [List.length_map] at this
  unfold MoveF
  split
  · unfold madeL; split
    · exact this
    · simp
  · simp

theorem of1_ct (v : Pt) (w : World) : Ct P 78 #[vc v] w [] (fun r L => r = .bool (offB v) ∧ L = []) := by
  have ht : ∀ {p : Bool}, p = offB v → (Value.bool p = .bool (offB v)) := fun h => by rw [h]
  refine Ct.of_body (rs := [.tmp 2]) (N := 21) (L := []) Try.func78 rfl rfl rfl (by kernel_rfl) rfl (Mem.refl w) ?_
  refine HW.seq (HW.region [(0, .ef), (1, .st)] rfl rfl ?_)
  refine Plan.boxA rfl rfl rfl fun b1 => ?_
  refine Plan.assign (v := .bool _) rfl rfl rfl ?_
  refine Plan.done ?_
  refine HW.seq (HW.region [(0, .st), (1, .st), (2, .st), (3, .st), (4, .st), (5, .st), (6, .st), (7, .st), (8, .st), (9, .st), (10, .st), (11, .st), (12, .st), (13, .st), (14, .st), (15, .st), (16, .st), (17, .st), (18, .st)] rfl rfl ?_)
  refine Plan.fieldAddr rfl rfl fldV0 rfl ?_
  refine Plan.load (v := .int _ _) rfl rfl aggI rfl (Sees.one 0 rfl rfl) ?_
  refine Plan.cmp2 rfl rfl rfl rfl rfl (fun h5 => ?_) (fun h5 => ?_)
  · replace h5 := of_decide_eq_true h5
    refine Plan.move (v := .bool _) rfl rfl rfl ?_
    refine Plan.no rfl rfl ?_
    refine Plan.no rfl rfl ?_
    refine Plan.no rfl rfl ?_
    refine Plan.pick (v := .bool _) rfl rfl rfl rfl ?_
    refine Plan.move (v := .bool _) rfl rfl rfl ?_
    refine Plan.no rfl rfl ?_
    refine Plan.no rfl rfl ?_
    refine Plan.no rfl rfl ?_
    refine Plan.pick (v := .bool _) rfl rfl rfl rfl ?_
    refine Plan.move (v := .bool _) rfl rfl rfl ?_
    refine Plan.no rfl rfl ?_
    refine Plan.no rfl rfl ?_
    refine Plan.no rfl rfl ?_
    refine Plan.pick (v := .bool _) rfl rfl rfl rfl ?_
    refine Plan.assign (v := .bool _) rfl rfl rfl ?_
    refine Plan.done ?_
    exact HW.ret ⟨rfl, _, [], .tmp rfl .nil, List.nil_sublist _, ht (by simp [offB]; omega), rfl⟩
  · replace h5 := of_decide_eq_false h5
    refine Plan.move (v := .bool _) rfl rfl rfl ?_
    refine Plan.fieldAddr rfl rfl fldV1 rfl ?_
    refine Plan.load (v := .int _ _) rfl rfl aggI rfl (Sees.one 0 rfl rfl) ?_
    refine Plan.cmp2 rfl rfl rfl rfl rfl (fun h9 => ?_) (fun h9 => ?_)
    · replace h9 := of_decide_eq_true h9
      refine Plan.pick (v := .bool _) rfl rfl rfl rfl ?_
      refine Plan.move (v := .bool _) rfl rfl rfl ?_
      refine Plan.no rfl rfl ?_
      refine Plan.no rfl rfl ?_
      refine Plan.no rfl rfl ?_
      refine Plan.pick (v := .bool _) rfl rfl rfl rfl ?_
      refine Plan.move (v := .bool _) rfl rfl rfl ?_
      refine Plan.no rfl rfl ?_
      refine Plan.no rfl rfl ?_
      refine Plan.no rfl rfl ?_
      refine Plan.pick (v := .bool _) rfl rfl rfl rfl ?_
      refine Plan.assign (v := .bool _) rfl rfl rfl ?_
      refine Plan.done ?_
      exact HW.ret ⟨rfl, _, [], .tmp rfl .nil, List.nil_sublist _, ht (by simp [offB]; omega), rfl⟩
    · replace h9 := of_decide_eq_false h9
      refine Plan.pick (v := .bool _) rfl rfl rfl rfl ?_
      refine Plan.move (v := .bool _) rfl rfl rfl ?_
      refine Plan.fieldAddr rfl rfl fldV0 rfl ?_
      refine Plan.load (v := .int _ _) rfl rfl aggI rfl (Sees.one 0 rfl rfl) ?_
      refine Plan.cmp2 rfl rfl rfl rfl rfl (fun h14 => ?_) (fun h14 => ?_)
      · replace h14 := of_decide_eq_true h14
        refine Plan.pick (v := .bool _) rfl rfl rfl rfl ?_
        refine Plan.move (v := .bool _) rfl rfl rfl ?_
        refine Plan.no rfl rfl ?_
        refine Plan.no rfl rfl ?_
        refine Plan.no rfl rfl ?_
        refine Plan.pick (v := .bool _) rfl rfl rfl rfl ?_
        refine Plan.assign (v := .bool _) rfl rfl rfl ?_
        refine Plan.done ?_
        exact HW.ret ⟨rfl, _, [], .tmp rfl .nil, List.nil_sublist _, ht (by simp [offB]; omega), rfl⟩
      · replace h14 := of_decide_eq_false h14
        refine Plan.pick (v := .bool _) rfl rfl rfl rfl ?_
        refine Plan.move (v := .bool _) rfl rfl rfl ?_
        refine Plan.fieldAddr rfl rfl fldV1 rfl ?_
        refine Plan.load (v := .int _ _) rfl rfl aggI rfl (Sees.one 0 rfl rfl) ?_
        refine Plan.cmp2 rfl rfl rfl rfl rfl (fun h19 => ?_) (fun h19 => ?_)
        · replace h19 := of_decide_eq_true h19
          refine Plan.pick (v := .bool _) rfl rfl rfl rfl ?_
          refine Plan.assign (v := .bool _) rfl rfl rfl ?_
          refine Plan.done ?_
          exact HW.ret ⟨rfl, _, [], .tmp rfl .nil, List.nil_sublist _, ht (by simp [offB]; omega), rfl⟩
        · replace h19 := of_decide_eq_false h19
          refine Plan.pick (v := .bool _) rfl rfl rfl rfl ?_
          refine Plan.assign (v := .bool _) rfl rfl rfl ?_
          refine Plan.done ?_
          exact HW.ret ⟨rfl, _, [], .tmp rfl .nil, List.nil_sublist _, ht (by simp [offB]; omega), rfl⟩

theorem validG_ct (a b d : Int) (w : World) : Ct P 84 #[gdv a b d] w [] (fun r L => r = .bool (goodG (a, b, d)) ∧ L = []) := by
  have ht : ∀ {p : Bool}, p = goodG (a, b, d) → (Value.bool p = .bool (goodG (a, b, d))) := fun h => by rw [h]
  refine Ct.of_body (rs := [.tmp 2]) (N := 33) (L := []) Try.func84 rfl rfl rfl (by kernel_rfl) rfl (Mem.refl w) ?_
  refine HW.seq (HW.region [(0, .ef), (1, .st)] rfl rfl ?_)
  refine Plan.boxA rfl rfl rfl fun b1 => ?_
  refine Plan.assign (v := .bool _) rfl rfl rfl ?_
  refine Plan.done ?_
  refine HW.seq (HW.region [(0, .st), (1, .st), (2, .st), (3, .st), (4, .st), (5, .st), (6, .st), (7, .st), (8, .st), (9, .st), (10, .st), (11, .st), (12, .st), (13, .st), (14, .st), (15, .st), (16, .st), (17, .st), (18, .st), (19, .st), (20, .st), (21, .st), (22, .st), (23, .st), (24, .st), (25, .st), (26, .st), (27, .st), (28, .st), (29, .st), (30, .st)] rfl rfl ?_)
  refine Plan.fieldAddr rfl rfl fldGrid0 rfl ?_
  refine Plan.load (v := .int _ _) rfl rfl aggI rfl (Sees.one 0 rfl rfl) ?_
  refine Plan.cmp2 rfl rfl rfl rfl rfl (fun h5 => ?_) (fun h5 => ?_)
  · replace h5 := of_decide_eq_true h5
    refine Plan.move (v := .bool _) rfl rfl rfl ?_
    refine Plan.fieldAddr rfl rfl fldGrid0 rfl ?_
    refine Plan.load (v := .int _ _) rfl rfl aggI rfl (Sees.one 0 rfl rfl) ?_
    refine Plan.cmp2 rfl rfl rfl rfl rfl (fun h9 => ?_) (fun h9 => ?_)
    · replace h9 := of_decide_eq_true h9
      refine Plan.pick (v := .bool _) rfl rfl rfl rfl ?_
      refine Plan.move (v := .bool _) rfl rfl rfl ?_
      refine Plan.fieldAddr rfl rfl fldGrid2 rfl ?_
      refine Plan.load (v := .int _ _) rfl rfl aggI rfl (Sees.one 0 rfl rfl) ?_
      refine Plan.cmp2 rfl rfl rfl rfl rfl (fun h14 => ?_) (fun h14 => ?_)
      · replace h14 := of_decide_eq_true h14
        refine Plan.pick (v := .bool _) rfl rfl rfl rfl ?_
        refine Plan.move (v := .bool _) rfl rfl rfl ?_
        refine Plan.fieldAddr rfl rfl fldGrid2 rfl ?_
        refine Plan.load (v := .int _ _) rfl rfl aggI rfl (Sees.one 0 rfl rfl) ?_
        refine Plan.cmp2 rfl rfl rfl rfl rfl (fun h19 => ?_) (fun h19 => ?_)
        · replace h19 := of_decide_eq_true h19
          refine Plan.pick (v := .bool _) rfl rfl rfl rfl ?_
          refine Plan.move (v := .bool _) rfl rfl rfl ?_
          refine Plan.fieldAddr rfl rfl fldGrid1 rfl ?_
          refine Plan.load (v := .int _ _) rfl rfl aggI rfl (Sees.one 0 rfl rfl) ?_
          refine Plan.cmp2 rfl rfl rfl rfl rfl (fun h24 => ?_) (fun h24 => ?_)
          · replace h24 := of_decide_eq_true h24
            refine Plan.pick (v := .bool _) rfl rfl rfl rfl ?_
            refine Plan.move (v := .bool _) rfl rfl rfl ?_
            refine Plan.fieldAddr rfl rfl fldGrid1 rfl ?_
            refine Plan.load (v := .int _ _) rfl rfl aggI rfl (Sees.one 0 rfl rfl) ?_
            refine Plan.fieldAddr rfl rfl fldGrid2 rfl ?_
            refine Plan.load (v := .int _ _) rfl rfl aggI rfl (Sees.one 0 rfl rfl) ?_
            refine Plan.cmp2 rfl rfl rfl rfl rfl (fun h31 => ?_) (fun h31 => ?_)
            · replace h31 := of_decide_eq_true h31
              refine Plan.pick (v := .bool _) rfl rfl rfl rfl ?_
              refine Plan.assign (v := .bool _) rfl rfl rfl ?_
              refine Plan.done ?_
              exact HW.ret ⟨rfl, _, [], .tmp rfl .nil, List.nil_sublist _, ht (by simp [goodG]; omega), rfl⟩
            · replace h31 := of_decide_eq_false h31
              refine Plan.pick (v := .bool _) rfl rfl rfl rfl ?_
              refine Plan.assign (v := .bool _) rfl rfl rfl ?_
              refine Plan.done ?_
              exact HW.ret ⟨rfl, _, [], .tmp rfl .nil, List.nil_sublist _, ht (by simp [goodG]; omega), rfl⟩
          · replace h24 := of_decide_eq_false h24
            refine Plan.pick (v := .bool _) rfl rfl rfl rfl ?_
            refine Plan.move (v := .bool _) rfl rfl rfl ?_
            refine Plan.no rfl rfl ?_
            refine Plan.no rfl rfl ?_
            refine Plan.no rfl rfl ?_
            refine Plan.no rfl rfl ?_
            refine Plan.no rfl rfl ?_
            refine Plan.pick (v := .bool _) rfl rfl rfl rfl ?_
            refine Plan.assign (v := .bool _) rfl rfl rfl ?_
            refine Plan.done ?_
            exact HW.ret ⟨rfl, _, [], .tmp rfl .nil, List.nil_sublist _, ht (by simp [goodG]; omega), rfl⟩
        · replace h19 := of_decide_eq_false h19
          refine Plan.pick (v := .bool _) rfl rfl rfl rfl ?_
          refine Plan.move (v := .bool _) rfl rfl rfl ?_
          refine Plan.no rfl rfl ?_
          refine Plan.no rfl rfl ?_
          refine Plan.no rfl rfl ?_
          refine Plan.pick (v := .bool _) rfl rfl rfl rfl ?_
          refine Plan.move (v := .bool _) rfl rfl rfl ?_
          refine Plan.no rfl rfl ?_
          refine Plan.no rfl rfl ?_
          refine Plan.no rfl rfl ?_
          refine Plan.no rfl rfl ?_
          refine Plan.no rfl rfl ?_
          refine Plan.pick (v := .bool _) rfl rfl rfl rfl ?_
          refine Plan.assign (v := .bool _) rfl rfl rfl ?_
          refine Plan.done ?_
          exact HW.ret ⟨rfl, _, [], .tmp rfl .nil, List.nil_sublist _, ht (by simp [goodG]; omega), rfl⟩
      · replace h14 := of_decide_eq_false h14
        refine Plan.pick (v := .bool _) rfl rfl rfl rfl ?_
        refine Plan.move (v := .bool _) rfl rfl rfl ?_
        refine Plan.no rfl rfl ?_
        refine Plan.no rfl rfl ?_
        refine Plan.no rfl rfl ?_
        refine Plan.pick (v := .bool _) rfl rfl rfl rfl ?_
        refine Plan.move (v := .bool _) rfl rfl rfl ?_
        refine Plan.no rfl rfl ?_
        refine Plan.no rfl rfl ?_
        refine Plan.no rfl rfl ?_
        refine Plan.pick (v := .bool _) rfl rfl rfl rfl ?_
        refine Plan.move (v := .bool _) rfl rfl rfl ?_
        refine Plan.no rfl rfl ?_
        refine Plan.no rfl rfl ?_
        refine Plan.no rfl rfl ?_
        refine Plan.no rfl rfl ?_
        refine Plan.no rfl rfl ?_
        refine Plan.pick (v := .bool _) rfl rfl rfl rfl ?_
        refine Plan.assign (v := .bool _) rfl rfl rfl ?_
        refine Plan.done ?_
        exact HW.ret ⟨rfl, _, [], .tmp rfl .nil, List.nil_sublist _, ht (by simp [goodG]; omega), rfl⟩
    · replace h9 := of_decide_eq_false h9
      refine Plan.pick (v := .bool _) rfl rfl rfl rfl ?_
      refine Plan.move (v := .bool _) rfl rfl rfl ?_
      refine Plan.no rfl rfl ?_
      refine Plan.no rfl rfl ?_
      refine Plan.no rfl rfl ?_
      refine Plan.pick (v := .bool _) rfl rfl rfl rfl ?_
      refine Plan.move (v := .bool _) rfl rfl rfl ?_
      refine Plan.no rfl rfl ?_
      refine Plan.no rfl rfl ?_
      refine Plan.no rfl rfl ?_
      refine Plan.pick (v := .bool _) rfl rfl rfl rfl ?_
      refine Plan.move (v := .bool _) rfl rfl rfl ?_
      refine Plan.no rfl rfl ?_
      refine Plan.no rfl rfl ?_
      refine Plan.no rfl rfl ?_
      refine Plan.pick (v := .bool _) rfl rfl rfl rfl ?_
      refine Plan.move (v := .bool _) rfl rfl rfl ?_
      refine Plan.no rfl rfl ?_
      refine Plan.no rfl rfl ?_
      refine Plan.no rfl rfl ?_
      refine Plan.no rfl rfl ?_
      refine Plan.no rfl rfl ?_
      refine Plan.pick (v := .bool _) rfl rfl rfl rfl ?_
      refine Plan.assign (v := .bool _) rfl rfl rfl ?_
      refine Plan.done ?_
      exact HW.ret ⟨rfl, _, [], .tmp rfl .nil, List.nil_sublist _, ht (by simp [goodG]; omega), rfl⟩
  · replace h5 := of_decide_eq_false h5
    refine Plan.move (v := .bool _) rfl rfl rfl ?_
    refine Plan.no rfl rfl ?_
    refine Plan.no rfl rfl ?_
    refine Plan.no rfl rfl ?_
    refine Plan.pick (v := .bool _) rfl rfl rfl rfl ?_
    refine Plan.move (v := .bool _) rfl rfl rfl ?_
    refine Plan.no rfl rfl ?_
    refine Plan.no rfl rfl ?_
    refine Plan.no rfl rfl ?_
    refine Plan.pick (v := .bool _) rfl rfl rfl rfl ?_
    refine Plan.move (v := .bool _) rfl rfl rfl ?_
    refine Plan.no rfl rfl ?_
    refine Plan.no rfl rfl ?_
    refine Plan.no rfl rfl ?_
    refine Plan.pick (v := .bool _) rfl rfl rfl rfl ?_
    refine Plan.move (v := .bool _) rfl rfl rfl ?_
    refine Plan.no rfl rfl ?_
    refine Plan.no rfl rfl ?_
    refine Plan.no rfl rfl ?_
    refine Plan.pick (v := .bool _) rfl rfl rfl rfl ?_
    refine Plan.move (v := .bool _) rfl rfl rfl ?_
    refine Plan.no rfl rfl ?_
    refine Plan.no rfl rfl ?_
    refine Plan.no rfl rfl ?_
    refine Plan.no rfl rfl ?_
    refine Plan.no rfl rfl ?_
    refine Plan.pick (v := .bool _) rfl rfl rfl rfl ?_
    refine Plan.assign (v := .bool _) rfl rfl rfl ?_
    refine Plan.done ?_
    exact HW.ret ⟨rfl, _, [], .tmp rfl .nil, List.nil_sublist _, ht (by simp [goodG]; omega), rfl⟩

theorem quo_bd {a b : Int} {N : Int} (ha : Bd N a) : Bd N (a.tdiv b) := by
  obtain ⟨h1, h2⟩ := ha
  have h4 : (a.tdiv b).natAbs ≤ a.natAbs := by rw [Int.natAbs_tdiv]; exact Nat.div_le_self _ _
  unfold Bd
  omega

theorem has_ct (a b d x y : Int) (w : World) (hg : goodG (a, b, d) = true) (hx : Bd 100000 x) (hy : Bd 100000 y) : Ct P 58 #[gdv a b d, vec x y] w [] (fun r L => r = .bool (hasG (a, b, d) (x, y)) ∧ L = []) := by
  have ht : ∀ {p : Bool}, p = hasG (a, b, d) (x, y) → (Value.bool p = .bool (hasG (a, b, d) (x, y))) := fun h => by rw [h]
  obtain ⟨a1, a2, d1, d2, b1, b2⟩ := of_decide_eq_true hg
  simp only at a1 a2 d1 d2 b1 b2
  have q2 := quo_bd (b := a) hx
  have q1 := mul_bd q2 (b := b) (M := 400) (by omega)
  unfold Bd at q2 hx hy
  refine Ct.of_body (rs := [.tmp 4]) (N := 28) (L := []) Try.func58 rfl rfl rfl (by kernel_rfl) rfl (Mem.refl w) ?_
  refine HW.seq (HW.region [(0, .ef), (1, .ef), (2, .st)] rfl rfl ?_)
  refine Plan.boxA rfl rfl rfl fun b2 => ?_
  refine Plan.boxA rfl rfl rfl fun b3 => ?_
  refine Plan.assign (v := .bool _) rfl rfl rfl ?_
  refine Plan.done ?_
  refine HW.seq (HW.region_any [] [(0, .st), (1, .st), (2, .st), (3, .st), (4, .st), (5, .st), (6, .st), (7, .st), (8, .st), (9, .st), (10, .st), (11, .st), (12, .st), (13, .st), (14, .st), (15, .st), (16, .st), (17, .st), (18, .st), (19, .st), (20, .st), (21, .st), (22, .st), (23, .st)] mix (by kernel_rfl) (fun _ _ _ _ _ h => h) (zeros rfl) ?_)
  refine Plan.fieldAddr rfl rfl fldV0 rfl ?_
  refine Plan.load (v := .int _ _) rfl rfl aggI rfl (Sees.one 0 rfl rfl) ?_
  refine Plan.fieldAddr rfl rfl fldGrid0 rfl ?_
  refine Plan.load (v := .int _ _) rfl rfl aggI rfl (Sees.one 1 rfl rfl) ?_
  refine Plan.remT rfl rfl rfl rfl (by omega) ?_
  refine Plan.cmp2 rfl rfl rfl rfl rfl (fun h10 => ?_) (fun h10 => ?_)
  · replace h10 := of_decide_eq_true h10
    refine Plan.move (v := .bool _) rfl rfl rfl ?_
    refine Plan.fieldAddr rfl rfl fldV1 rfl ?_
    refine Plan.load (v := .int _ _) rfl rfl aggI rfl (Sees.one 0 rfl rfl) ?_
    refine Plan.fieldAddr rfl rfl fldV0 rfl ?_
    refine Plan.load (v := .int _ _) rfl rfl aggI rfl (Sees.one 0 rfl rfl) ?_
    refine Plan.fieldAddr rfl rfl fldGrid0 rfl ?_
    refine Plan.load (v := .int _ _) rfl rfl aggI rfl (Sees.one 1 rfl rfl) ?_
    refine Plan.quoT rfl rfl rfl rfl (by omega) ?_
    refine Plan.fieldAddr rfl rfl fldGrid1 rfl ?_
    refine Plan.load (v := .int _ _) rfl rfl aggI rfl (Sees.one 1 rfl rfl) ?_
    refine Plan.arithI rfl rfl rfl rfl rfl (by omega) ?_
    refine Plan.arithI rfl rfl rfl rfl rfl (by omega) ?_
    refine Plan.fieldAddr rfl rfl fldGrid2 rfl ?_
    refine Plan.load (v := .int _ _) rfl rfl aggI rfl (Sees.one 1 rfl rfl) ?_
    refine Plan.remT rfl rfl rfl rfl (by omega) ?_
    refine Plan.cmp2 rfl rfl rfl rfl rfl (fun h26 => ?_) (fun h26 => ?_)
    · replace h26 := of_decide_eq_true h26
      refine Plan.pick (v := .bool _) rfl rfl rfl rfl ?_
      refine Plan.assign (v := .bool _) rfl rfl rfl ?_
      refine Plan.done ?_
      exact HW.ret ⟨rfl, _, [], .tmp rfl .nil, List.nil_sublist _, ht (by simp only [hasG]; simp [h10, h26]), rfl⟩
    · replace h26 := of_decide_eq_false h26
      refine Plan.pick (v := .bool _) rfl rfl rfl rfl ?_
      refine Plan.assign (v := .bool _) rfl rfl rfl ?_
      refine Plan.done ?_
      exact HW.ret ⟨rfl, _, [], .tmp rfl .nil, List.nil_sublist _, ht (by simp only [hasG]; simp [h10, h26]), rfl⟩
  · replace h10 := of_decide_eq_false h10
    refine Plan.move (v := .bool _) rfl rfl rfl ?_
    refine Plan.no rfl rfl ?_
    refine Plan.no rfl rfl ?_
    refine Plan.no rfl rfl ?_
    refine Plan.no rfl rfl ?_
    refine Plan.no rfl rfl ?_
    refine Plan.no rfl rfl ?_
    refine Plan.no rfl rfl ?_
    refine Plan.no rfl rfl ?_
    refine Plan.no rfl rfl ?_
    refine Plan.no rfl rfl ?_
    refine Plan.no rfl rfl ?_
    refine Plan.no rfl rfl ?_
    refine Plan.no rfl rfl ?_
    refine Plan.no rfl rfl ?_
    refine Plan.no rfl rfl ?_
    refine Plan.pick (v := .bool _) rfl rfl rfl rfl ?_
    refine Plan.assign (v := .bool _) rfl rfl rfl ?_
    refine Plan.done ?_
    exact HW.ret ⟨rfl, _, [], .tmp rfl .nil, List.nil_sublist _, ht (by simp only [hasG]; simp [h10]), rfl⟩

structure OfG where
  n : Nat

theorem of_ct (A : Option Addr) (p : List Pt) (n c : Nat) (w : World) (hp : Rd enc 2 w A p) (hn : n = p.length) (hlen : p.length ≤ 1000000) (hb : blankF p = true) :
    Ct P 41 #[.slice A n c] w [] (fun r L => ∃ b m, r = .tuple #[.pointer (some ⟨b, 0, none⟩), .bool true] ∧ L = [Res.blk b #[.slice A n c, .map (some m)] 96, Res.mp vc Value.bool m (tag (hits p))]) := by
  subst hn
  obtain ⟨hv, ho⟩ := blankF_spec hb
  obtain ⟨v1, v2, v3, v4⟩ := validF_spec hv
  refine Ct.of_body (rs := [.tmp 2, .tmp 3]) (N := 58) (L := []) Try.func41 rfl rfl rfl (by kernel_rfl) rfl (Mem.refl w) ?_
  refine HW.seq (HW.region [(0, .st), (1, .st)] rfl rfl ?_)
  refine Plan.assign (v := .pointer _) rfl rfl rfl ?_
  refine Plan.assign (v := .bool _) rfl rfl rfl ?_
  refine Plan.done ?_
  refine HW.seq ?_
  refine HW.seq (HW.region [(0, .st), (1, .ef), (2, .st), (3, .st), (4, .st), (5, .ef), (6, .st)] rfl rfl ?_)
  refine Plan.move (v := .slice _ _ _) rfl rfl rfl ?_
  refine Plan.callF [] 0 rfl rfl rfl (.inl rfl) (by simp) (fun w hm => Valid_ct A p c _ w (hp.mem hm) rfl (by omega)) ?_   -- tinplate/convex.Valid
  rintro v Ln ⟨rfl, rfl⟩
  refine Plan.splitB (fun h13 => ?_) (fun h13 => ?_)
  · skip
    refine Plan.not rfl rfl rfl ?_
    refine Plan.move (v := .bool _) rfl rfl rfl ?_
    refine Plan.move (v := .slice _ _ _) rfl rfl rfl ?_
    refine Plan.callF [] 0 rfl rfl rfl (.inl rfl) (by simp) (fun w hm => containsFunc_ct A p c _ #[] offB w (hp.mem hm) (by omega) (fun q _ L' w' _ => of1_ct q w')) ?_   -- slices.ContainsFunc[[]tinplate/api.Vec,tinplate/api.Vec]
    rintro v Ln ⟨rfl, rfl⟩
    refine Plan.splitB (fun h17 => ?_) (fun h17 => ?_)
    · skip
      exact absurd ho (by rw [h17]; decide)
    · skip
      refine Plan.pick (v := .bool _) rfl rfl rfl rfl ?_
      refine Plan.done ?_
      refine HW.cond_false rfl ?_
      refine HW.skip ?_
      refine HW.seq (HW.region [(0, .st), (1, .ef), (2, .st), (3, .ef), (4, .st)] rfl rfl ?_)
      refine Plan.move (v := .slice _ _ _) rfl rfl rfl ?_
      refine Plan.makeMap vc Value.bool rfl rfl fun b20 => ?_
      refine Plan.build rfl rfl rfl (fun w => bldshape ..) ?_
      refine Plan.boxA rfl rfl rfl fun b22 => ?_
      refine Plan.assign (v := .pointer _) rfl rfl rfl ?_
      refine Plan.done ?_
      refine HW.seq ?_
      refine HW.seq (HW.region [(0, .st)] rfl rfl ?_)
      refine Plan.assign (v := .int _ _) rfl rfl rfl ?_
      refine Plan.done ?_
      refine HW.block ?_
      refine HW.loopL (G := OfG) [5, 6, 7, 8, 9, 10, 11, 23, 24, 25, 26, 27, 28, 29, 30, 31, 32, 33, 34, 35, 36, 37, 38, 39, 40, 41, 42, 43, 44, 45, 46, 47, 48, 49, 50, 51, 52, 53, 54, 55, 56] (fun g => [(5, int ((g.n : Int) - 12))]) (fun g => [Res.blk b22 #[.slice A p.length c, .map (some b20)] 96, Res.mp vc Value.bool b20 (tag (hitsN p (25 * g.n)))]) (fun g => g.n ≤ 25) (fun g => 25 - g.n) (⟨0⟩) ⟨rfl, trivial⟩ (fun w' hm => hm) (Nat.zero_le _) (fun g F hok => ?_)
      obtain ⟨i⟩ := g
      simp only at hok
      dsimp only
      refine HW.seq ?_
      refine HW.seq (HW.region [(0, .st), (1, .st)] rfl rfl ?_)
      refine Plan.move (v := .int _ _) rfl rfl rfl ?_
      refine Plan.cmp2 rfl rfl rfl rfl rfl (fun h24 => ?_) (fun h24 => ?_)
      · replace h24 := of_decide_eq_true h24
        refine Plan.done ?_
        refine HW.cond_true rfl ?_
        refine HW.skip ?_
        refine HW.seq ?_
        refine HW.block ?_
        refine HW.seq (HW.region [(0, .st)] rfl rfl ?_)
        refine Plan.assign (v := .int _ _) rfl rfl rfl ?_
        refine Plan.done ?_
        refine HW.block ?_
        refine HW.loopL (G := OfG) [6, 7, 8, 9, 10, 11, 27, 28, 29, 30, 31, 32, 33, 34, 35, 36, 37, 38, 39, 40, 41, 42, 43, 44, 45, 46, 47, 48, 49, 50, 51, 52, 53, 54, 55, 56] (fun g => [(6, int ((g.n : Int) - 12))]) (fun g => [Res.blk b22 #[.slice A p.length c, .map (some b20)] 96, Res.mp vc Value.bool b20 (tag (hitsN p (25 * i + g.n)))]) (fun g => g.n ≤ 25) (fun g => 25 - g.n) (⟨0⟩) ⟨rfl, trivial⟩ (fun w' hm => hm) (Nat.zero_le _) (fun g F hok => ?_)
        obtain ⟨j⟩ := g
        rename_i hok1
        simp only at hok
        dsimp only
        refine HW.seq ?_
        refine HW.seq (HW.region [(0, .st), (1, .st)] rfl rfl ?_)
        refine Plan.move (v := .int _ _) rfl rfl rfl ?_
        refine Plan.cmp2 rfl rfl rfl rfl rfl (fun h28 => ?_) (fun h28 => ?_)
        · replace h28 := of_decide_eq_true h28
          have hj : j < 25 := by omega
          have he := bx_at (i := i) hj
          refine Plan.done ?_
          refine HW.cond_true rfl ?_
          refine HW.skip ?_
          refine HW.seq ?_
          refine HW.block ?_
          refine HW.seq (HW.region [(0, .st), (1, .st), (2, .st), (3, .al), (4, .ef)] rfl rfl ?_)
          refine Plan.move (v := .int _ _) rfl rfl rfl ?_
          refine Plan.move (v := .int _ _) rfl rfl rfl ?_
          refine Plan.build rfl rfl rfl (bldV _ _) ?_
          refine Plan.alloc rfl zerV fun b7 => ?_
          refine Plan.storeA 0 rfl rfl hDn sizV rfl rfl rfl rfl rfl rfl ?_
          refine Plan.done ?_
          refine HW.seq (HW.region [(0, .st), (1, .st), (2, .ef), (3, .st), (4, .st), (5, .st), (6, .st), (7, .st)] rfl rfl ?_)
          refine Plan.move (v := .slice _ _ _) rfl rfl rfl ?_
          refine Plan.loadAll 0 rfl rfl aggV sizV rfl rfl rfl ?_
          refine Plan.callF [] 0 rfl rfl rfl (.inl rfl) (by simp) (fun w hm => Move_ct A p ((i : Int) - 12, (j : Int) - 12) _ c w (hp.mem hm) rfl hlen) ?_   -- tinplate/convex.Move
          rintro v Ln ⟨o, c1, rfl, rfl⟩
          refine Plan.move (v := .tuple _) rfl rfl rfl ?_
          refine Plan.extract (v := .slice _ _ _) rfl rfl rfl rfl ?_
          refine Plan.extract (v := .int _ _) rfl rfl rfl rfl ?_
          refine Plan.assign (v := .slice _ _ _) rfl rfl rfl ?_
          refine Plan.assign (v := .int _ _) rfl rfl rfl ?_
          refine Plan.done ?_
          refine HW.seq (HW.region [(0, .st), (1, .st), (2, .ef), (3, .st), (4, .st), (5, .st), (6, .st), (7, .st)] rfl rfl ?_)
          refine Plan.move (v := .slice _ _ _) rfl rfl rfl ?_
          refine Plan.move (v := .slice _ _ _) rfl rfl rfl ?_
          refine Plan.callF [] 0 rfl rfl rfl (.inl rfl) (by simp) (fun w hm => Overlap_ct A (at0 o) p (MoveF p ((i : Int) - 12, (j : Int) - 12)).1 _ c _ c1 w (hp.mem hm) (Res.own_rd enc2 (hm.res _ List.mem_cons_self)) rfl rfl hlen (by have := MoveF_len' p ((i : Int) - 12, (j : Int) - 12); omega)) ?_   -- tinplate/convex.Overlap
          rintro v Ln ⟨rfl, rfl⟩
          refine Plan.move (v := .tuple _) rfl rfl rfl ?_
          refine Plan.extract (v := .bool _) rfl rfl rfl rfl ?_
          refine Plan.splitB (fun h44 => ?_) (fun h44 => ?_)
          · skip
            refine Plan.extract (v := .int _ _) rfl rfl rfl rfl ?_
            refine Plan.assign (v := .bool _) rfl rfl rfl ?_
            refine Plan.assign (v := .int _ _) rfl rfl rfl ?_
            refine Plan.done ?_
            refine HW.seq (HW.region [(0, .st), (1, .st), (2, .st), (3, .st), (4, .st), (5, .st)] rfl rfl ?_)
            refine Plan.move (v := .bool _) rfl rfl rfl ?_
            refine Plan.move (v := .bool _) rfl rfl rfl ?_
            refine Plan.loadAll 1 rfl rfl aggV sizV rfl rfl rfl ?_
            refine Plan.build rfl rfl rfl (bld0) ?_
            refine Plan.neV (((i : Int) - 12, (j : Int) - 12)) ((0, 0)) rfl rfl rfl rfl rfl (fun h50 => ?_) (fun h50 => ?_)
            · skip
              refine Plan.pick (v := .bool _) rfl rfl rfl rfl ?_
              refine Plan.done ?_
              refine HW.cond_true rfl ?_
              refine HW.region_any [5] [(0, .st), (1, .st), (2, .st), (3, .st), (4, .st), (5, .ef)] mix (by kernel_rfl) (fun _ _ _ _ _ h => h) (zeros rfl) ?_
              refine Plan.move (v := .pointer _) rfl rfl rfl ?_
              refine Plan.nilCheck rfl rfl rfl ?_
              refine Plan.fieldAddr rfl rfl fldshape1 rfl ?_
              refine Plan.load (v := .map _) rfl rfl aggMap_api_Vec_bool rfl (Sees.one 2 rfl rfl) ?_
              refine Plan.loadAll 1 rfl rfl aggV sizV rfl rfl rfl ?_
              refine Plan.mapUpdate (3) (keysVec) (ev' := Value.bool) (v := true) (k := ((i : Int) - 12, (j : Int) - 12)) undMap_api_Vec_bool rfl rfl (hDs (by decide)) rfl rfl rfl rfl ?_
              refine Plan.done ?_
              refine HW.region [(0, .st), (1, .st), (2, .st)] rfl rfl ?_
              refine Plan.move (v := .int _ _) rfl rfl rfl ?_
              refine Plan.arithI rfl rfl rfl rfl rfl (by omega) ?_
              refine Plan.assign (v := .int _ _) rfl rfl rfl ?_
              refine Plan.done ?_
              exact ⟨⟨j + 1⟩, by simp only; omega, hj, rfl, (fun w' hm => by
                  have e : tag (hitsN p (25 * i + (j + 1))) = putK ((i : Int) - 12, (j : Int) - 12) true (tag (hitsN p (25 * i + j))) := by
                    rw [← he]; exact (hitsN_yes (n := 25 * i + j) (by rw [he, hitB, h44, decide_eq_true h50]; rfl)).symm
                  show Mem _ _ [_, Res.mp vc Value.bool b20 (tag (hitsN p (25 * i + (j + 1))))] w'
                  rw [e]
                  exact hm.sub (.cons _ (.cons _ (.refl _)))), (by repeat (first | exact Agree.havoc _ _ _ | refine Agree.updN ?_ | refine Agree.upd rfl ?_ | refine Agree.updL rfl ?_ | refine Agree.havoc2 rfl ?_)), ⟨int_eq (by dsimp only; omega), trivial⟩⟩
            · skip
              refine Plan.pick (v := .bool _) rfl rfl rfl rfl ?_
              refine Plan.done ?_
              refine HW.cond_false rfl ?_
              refine HW.skip ?_
              refine HW.region [(0, .st), (1, .st), (2, .st)] rfl rfl ?_
              refine Plan.move (v := .int _ _) rfl rfl rfl ?_
              refine Plan.arithI rfl rfl rfl rfl rfl (by omega) ?_
              refine Plan.assign (v := .int _ _) rfl rfl rfl ?_
              refine Plan.done ?_
              exact ⟨⟨j + 1⟩, by simp only; omega, hj, rfl, (fun w' hm => by
                  have e : hitsN p (25 * i + (j + 1)) = hitsN p (25 * i + j) := hitsN_no (n := 25 * i + j) (by rw [he, hitB, h44]; simpa using h50)
                  show Mem _ _ [_, Res.mp vc Value.bool b20 (tag (hitsN p (25 * i + (j + 1))))] w'
                  rw [e]
                  exact hm.sub (.cons _ (.cons _ (.refl _)))), (by repeat (first | exact Agree.havoc _ _ _ | refine Agree.updN ?_ | refine Agree.upd rfl ?_ | refine Agree.updL rfl ?_ | refine Agree.havoc2 rfl ?_)), ⟨int_eq (by dsimp only; omega), trivial⟩⟩
          · skip
            refine Plan.extract (v := .int _ _) rfl rfl rfl rfl ?_
            refine Plan.assign (v := .bool _) rfl rfl rfl ?_
            refine Plan.assign (v := .int _ _) rfl rfl rfl ?_
            refine Plan.done ?_
            refine HW.seq (HW.region [(0, .st), (1, .st), (2, .st), (3, .st), (4, .st), (5, .st)] rfl rfl ?_)
            refine Plan.move (v := .bool _) rfl rfl rfl ?_
            refine Plan.move (v := .bool _) rfl rfl rfl ?_
            refine Plan.no rfl rfl ?_
            refine Plan.no rfl rfl ?_
            refine Plan.no rfl rfl ?_
            refine Plan.pick (v := .bool _) rfl rfl rfl rfl ?_
            refine Plan.done ?_
            refine HW.cond_false rfl ?_
            refine HW.skip ?_
            refine HW.region [(0, .st), (1, .st), (2, .st)] rfl rfl ?_
            refine Plan.move (v := .int _ _) rfl rfl rfl ?_
            refine Plan.arithI rfl rfl rfl rfl rfl (by omega) ?_
            refine Plan.assign (v := .int _ _) rfl rfl rfl ?_
            refine Plan.done ?_
            exact ⟨⟨j + 1⟩, by simp only; omega, hj, rfl, (fun w' hm => by
                have e : hitsN p (25 * i + (j + 1)) = hitsN p (25 * i + j) := hitsN_no (n := 25 * i + j) (by rw [he, hitB, h44]; rfl)
                show Mem _ _ [_, Res.mp vc Value.bool b20 (tag (hitsN p (25 * i + (j + 1))))] w'
                rw [e]
                exact hm.sub (.cons _ (.cons _ (.refl _)))), (by repeat (first | exact Agree.havoc _ _ _ | refine Agree.updN ?_ | refine Agree.upd rfl ?_ | refine Agree.updL rfl ?_ | refine Agree.havoc2 rfl ?_)), ⟨int_eq (by dsimp only; omega), trivial⟩⟩
        · replace h28 := of_decide_eq_false h28
          have hj : j = 25 := by omega
          subst hj
          refine Plan.done ?_
          refine HW.cond_false rfl ?_
          refine HW.exit ?_
          refine HW.region [(0, .st), (1, .st), (2, .st)] rfl rfl ?_
          refine Plan.move (v := .int _ _) rfl rfl rfl ?_
          refine Plan.arithI rfl rfl rfl rfl rfl (by omega) ?_
          refine Plan.assign (v := .int _ _) rfl rfl rfl ?_
          refine Plan.done ?_
          exact ⟨⟨i + 1⟩, by simp only; omega, (by show i + 1 ≤ 25; omega), rfl, Ent.sub (.refl _), (by repeat (first | exact Agree.havoc _ _ _ | refine Agree.updN ?_ | refine Agree.upd rfl ?_ | refine Agree.updL rfl ?_ | refine Agree.havoc2 rfl ?_)), ⟨int_eq (by dsimp only; omega), trivial⟩⟩
      · replace h24 := of_decide_eq_false h24
        have hi : i = 25 := by omega
        subst hi
        refine Plan.done ?_
        refine HW.cond_false rfl ?_
        refine HW.exit ?_
        refine HW.seq (HW.region [(0, .st), (1, .st), (2, .st)] rfl rfl ?_)
        refine Plan.move (v := .pointer _) rfl rfl rfl ?_
        refine Plan.assign (v := .pointer _) rfl rfl rfl ?_
        refine Plan.assign (v := .bool _) rfl rfl rfl ?_
        refine Plan.done ?_
        exact HW.ret ⟨rfl, _, [Res.blk b22 #[.slice A p.length c, .map (some b20)] 96, Res.mp vc Value.bool b20 (tag (hits p))], .tmp rfl (.tmp rfl .nil), .refl _, b22, b20, rfl, rfl⟩
  · skip
    exact absurd hv (by rw [h13]; decide)

theorem of_ct_no (A : Option Addr) (p : List Pt) (n c : Nat) (w : World) (hp : Rd enc 2 w A p) (hn : n = p.length) (hlen : p.length ≤ 1000000) (hb : blankF p = false) :
    Ct P 41 #[.slice A n c] w [] (fun r L => r = .tuple #[.pointer none, .bool false] ∧ L = []) := by
  subst hn
  refine Ct.of_body (rs := [.tmp 2, .tmp 3]) (N := 58) (L := []) Try.func41 rfl rfl rfl (by kernel_rfl) rfl (Mem.refl w) ?_
  refine HW.seq (HW.region [(0, .st), (1, .st)] rfl rfl ?_)
  refine Plan.assign (v := .pointer _) rfl rfl rfl ?_
  refine Plan.assign (v := .bool _) rfl rfl rfl ?_
  refine Plan.done ?_
  refine HW.seq ?_
  refine HW.seq (HW.region [(0, .st), (1, .ef), (2, .st), (3, .st), (4, .st), (5, .ef), (6, .st)] rfl rfl ?_)
  refine Plan.move (v := .slice _ _ _) rfl rfl rfl ?_
  refine Plan.callF [] 0 rfl rfl rfl (.inl rfl) (by simp) (fun w hm => Valid_ct A p c _ w (hp.mem hm) rfl (by omega)) ?_   -- tinplate/convex.Valid
  rintro v Ln ⟨rfl, rfl⟩
  refine Plan.splitB (fun h13 => ?_) (fun h13 => ?_)
  · skip
    refine Plan.not rfl rfl rfl ?_
    refine Plan.move (v := .bool _) rfl rfl rfl ?_
    refine Plan.move (v := .slice _ _ _) rfl rfl rfl ?_
    refine Plan.callF [] 0 rfl rfl rfl (.inl rfl) (by simp) (fun w hm => containsFunc_ct A p c _ #[] offB w (hp.mem hm) (by omega) (fun q _ L' w' _ => of1_ct q w')) ?_   -- slices.ContainsFunc[[]tinplate/api.Vec,tinplate/api.Vec]
    rintro v Ln ⟨rfl, rfl⟩
    refine Plan.splitB (fun h17 => ?_) (fun h17 => ?_)
    · skip
      refine Plan.pick (v := .bool _) rfl rfl rfl rfl ?_
      refine Plan.done ?_
      refine HW.cond_true rfl ?_
      refine HW.seq (HW.region [(0, .st), (1, .st)] rfl rfl ?_)
      refine Plan.assign (v := .pointer _) rfl rfl rfl ?_
      refine Plan.assign (v := .bool _) rfl rfl rfl ?_
      refine Plan.done ?_
      exact HW.ret ⟨rfl, _, [], .tmp rfl (.tmp rfl .nil), List.nil_sublist _, rfl, rfl⟩
    · skip
      exact absurd hb (by rw [blankF, h13, h17]; decide)
  · skip
    refine Plan.not rfl rfl rfl ?_
    refine Plan.move (v := .bool _) rfl rfl rfl ?_
    refine Plan.no rfl rfl ?_
    refine Plan.noE rfl rfl ?_
    refine Plan.pick (v := .bool _) rfl rfl rfl rfl ?_
    refine Plan.done ?_
    refine HW.cond_true rfl ?_
    refine HW.seq (HW.region [(0, .st), (1, .st)] rfl rfl ?_)
    refine Plan.assign (v := .pointer _) rfl rfl rfl ?_
    refine Plan.assign (v := .bool _) rfl rfl rfl ?_
    refine Plan.done ?_
    exact HW.ret ⟨rfl, _, [], .tmp rfl (.tmp rfl .nil), List.nil_sublist _, rfl, rfl⟩

end Go.Proofs.Ytjmklbkcpjmcaaa.V
