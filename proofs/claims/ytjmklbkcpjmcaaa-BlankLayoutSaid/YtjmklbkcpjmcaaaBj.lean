/-
  Package tinplateref04: In, Good, Blank, Collide, crossing, free; tinplateref03: result, Move.
-/
import Derived.Test.YtjmklbkcpjmcaaaO1
import Derived.Test.YtjmklbkcpjmcaaaV27
namespace Go.Proofs.Ytjmklbkcpjmcaaa.V
open Go Go.RowKit Go.Proofs.Ytjmklbkcpjmcaaa.H Go.Proofs.Ytjmklbkcpjmcaaa.LL
set_option linter.unusedVariables false
set_option linter.unusedSimpArgs false

theorem inR_ct (a b d x y : Int) (w : World) (hg : goodG (a, b, d) = true) (hx : Bd 100000 x) (hy : Bd 100000 y) : Ct P 34 #[gdv a b d, vec x y] w [] (fun r L => r = .bool (hasG (a, b, d) (x, y)) ∧ L = []) := by
  have ht : ∀ {p : Bool}, p = hasG (a, b, d) (x, y) → (Value.bool p = .bool (hasG (a, b, d) (x, y))) := fun h => by rw [h]
  obtain ⟨a1, a2, d1, d2, b1, b2⟩ := of_decide_eq_true hg
  simp only at a1 a2 d1 d2 b1 b2
  have q2 := quo_bd (b := a) hx
  have q1 := mul_bd q2 (b := b) (M := 400) (by omega)
  unfold Bd at q2 hx hy
  refine Ct.of_body (rs := [.tmp 4]) (N := 28) (L := []) Try.func34 rfl rfl rfl (by kernel_rfl) rfl (Mem.refl w) ?_
  refine HW.seq (HW.region [(0, .ef), (1, .ef), (2, .st)] rfl rfl ?_)
  refine Plan.boxA rfl rfl rfl fun b2 => ?_
  refine Plan.boxA rfl rfl rfl fun b3 => ?_
  refine Plan.assign (v := .bool _) rfl rfl rfl ?_
  refine Plan.done ?_
  refine HW.seq (HW.region_any [] [(0, .st), (1, .st), (2, .st), (3, .st), (4, .st), (5, .st), (6, .st), (7, .st), (8, .st), (9, .st), (10, .st), (11, .st), (12, .st), (13, .st), (14, .st), (15, .st), (16, .st), (17, .st), (18, .st), (19, .st), (20, .st), (21, .st), (22, .st), (23, .st)] mix (by kernel_rfl) (fun _ _ _ _ _ h => h) (zeros rfl) ?_)
  refine Plan.fieldAddr rfl rfl fldV0 rfl ?_
  refine Plan.load (v := .int _ _) rfl rfl aggI rfl (Sees.one 0 rfl rfl) ?_
  refine Plan.fieldAddr rfl rfl fldGrid0 rfl ?_
  refine Plan.load (v := .int _ _) rfl rfl aggI rfl (Sees.one 1 rfl rfl) ?_
  refine Plan.remT rfl rfl rfl rfl (by omega) ?_
  refine Plan.cmp2 rfl rfl rfl rfl rfl (fun h10 => ?_) (fun h10 => ?_)
  · replace h10 := of_decide_eq_true h10
    refine Plan.move (v := .bool _) rfl rfl rfl ?_
    refine Plan.fieldAddr rfl rfl fldV1 rfl ?_
    refine Plan.load (v := .int _ _) rfl rfl aggI rfl (Sees.one 0 rfl rfl) ?_
    refine Plan.fieldAddr rfl rfl fldV0 rfl ?_
    refine Plan.load (v := .int _ _) rfl rfl aggI rfl (Sees.one 0 rfl rfl) ?_
    refine Plan.fieldAddr rfl rfl fldGrid0 rfl ?_
    refine Plan.load (v := .int _ _) rfl rfl aggI rfl (Sees.one 1 rfl rfl) ?_
    refine Plan.quoT rfl rfl rfl rfl (by omega) ?_
    refine Plan.fieldAddr rfl rfl fldGrid1 rfl ?_
    refine Plan.load (v := .int _ _) rfl rfl aggI rfl (Sees.one 1 rfl rfl) ?_
    refine Plan.arithI rfl rfl rfl rfl rfl (by omega) ?_
    refine Plan.arithI rfl rfl rfl rfl rfl (by omega) ?_
    refine Plan.fieldAddr rfl rfl fldGrid2 rfl ?_
    refine Plan.load (v := .int _ _) rfl rfl aggI rfl (Sees.one 1 rfl rfl) ?_
    refine Plan.remT rfl rfl rfl rfl (by omega) ?_
    refine Plan.cmp2 rfl rfl rfl rfl rfl (fun h26 => ?_) (fun h26 => ?_)
    · replace h26 := of_decide_eq_true h26
      refine Plan.pick (v := .bool _) rfl rfl rfl rfl ?_
      refine Plan.assign (v := .bool _) rfl rfl rfl ?_
      refine Plan.done ?_
      exact HW.ret ⟨rfl, _, [], .tmp rfl .nil, List.nil_sublist _, ht (by simp only [hasG]; simp [h10, h26]), rfl⟩
    · replace h26 := of_decide_eq_false h26
      refine Plan.pick (v := .bool _) rfl rfl rfl rfl ?_
      refine Plan.assign (v := .bool _) rfl rfl rfl ?_
      refine Plan.done ?_
      exact HW.ret ⟨rfl, _, [], .tmp rfl .nil, List.nil_sublist _, ht (by simp only [hasG]; simp [h10, h26]), rfl⟩
  · replace h10 := of_decide_eq_false h10
    refine Plan.move (v := .bool _) rfl rfl rfl ?_
    refine Plan.no rfl rfl ?_
    refine Plan.no rfl rfl ?_
    refine Plan.no rfl rfl ?_
    refine Plan.no rfl rfl ?_
    refine Plan.no rfl rfl ?_
    refine Plan.no rfl rfl ?_
    refine Plan.no rfl rfl ?_
    refine Plan.no rfl rfl ?_
    refine Plan.no rfl rfl ?_
    refine Plan.no rfl rfl ?_
    refine Plan.no rfl rfl ?_
    refine Plan.no rfl rfl ?_
    refine Plan.no rfl rfl ?_
    refine Plan.no rfl rfl ?_
    refine Plan.no rfl rfl ?_
    refine Plan.pick (v := .bool _) rfl rfl rfl rfl ?_
    refine Plan.assign (v := .bool _) rfl rfl rfl ?_
    refine Plan.done ?_
    exact HW.ret ⟨rfl, _, [], .tmp rfl .nil, List.nil_sublist _, ht (by simp only [hasG]; simp [h10]), rfl⟩

theorem goodR_ct (a b d : Int) (w : World) : Ct P 86 #[gdv a b d] w [] (fun r L => r = .bool (goodG (a, b, d)) ∧ L = []) := by
  have ht : ∀ {p : Bool}, p = goodG (a, b, d) → (Value.bool p = .bool (goodG (a, b, d))) := fun h => by rw [h]
  refine Ct.of_body (rs := [.tmp 2]) (N := 33) (L := []) Try.func86 rfl rfl rfl (by kernel_rfl) rfl (Mem.refl w) ?_
  refine HW.seq (HW.region [(0, .ef), (1, .st)] rfl rfl ?_)
  refine Plan.boxA rfl rfl rfl fun b1 => ?_
  refine Plan.assign (v := .bool _) rfl rfl rfl ?_
  refine Plan.done ?_
  refine HW.seq (HW.region [(0, .st), (1, .st), (2, .st), (3, .st), (4, .st), (5, .st), (6, .st), (7, .st), (8, .st), (9, .st), (10, .st), (11, .st), (12, .st), (13, .st), (14, .st), (15, .st), (16, .st), (17, .st), (18, .st), (19, .st), (20, .st), (21, .st), (22, .st), (23, .st), (24, .st), (25, .st), (26, .st), (27, .st), (28, .st), (29, .st), (30, .st)] rfl rfl ?_)
  refine Plan.fieldAddr rfl rfl fldGrid0 rfl ?_
  refine Plan.load (v := .int _ _) rfl rfl aggI rfl (Sees.one 0 rfl rfl) ?_
  refine Plan.cmp2 rfl rfl rfl rfl rfl (fun h5 => ?_) (fun h5 => ?_)
  · replace h5 := of_decide_eq_true h5
    refine Plan.move (v := .bool _) rfl rfl rfl ?_
    refine Plan.fieldAddr rfl rfl fldGrid0 rfl ?_
    refine Plan.load (v := .int _ _) rfl rfl aggI rfl (Sees.one 0 rfl rfl) ?_
    refine Plan.cmp2 rfl rfl rfl rfl rfl (fun h9 => ?_) (fun h9 => ?_)
    · replace h9 := of_decide_eq_true h9
      refine Plan.pick (v := .bool _) rfl rfl rfl rfl ?_
      refine Plan.move (v := .bool _) rfl rfl rfl ?_
      refine Plan.fieldAddr rfl rfl fldGrid2 rfl ?_
      refine Plan.load (v := .int _ _) rfl rfl aggI rfl (Sees.one 0 rfl rfl) ?_
      refine Plan.cmp2 rfl rfl rfl rfl rfl (fun h14 => ?_) (fun h14 => ?_)
      · replace h14 := of_decide_eq_true h14
        refine Plan.pick (v := .bool _) rfl rfl rfl rfl ?_
        refine Plan.move (v := .bool _) rfl rfl rfl ?_
        refine Plan.fieldAddr rfl rfl fldGrid2 rfl ?_
        refine Plan.load (v := .int _ _) rfl rfl aggI rfl (Sees.one 0 rfl rfl) ?_
        refine Plan.cmp2 rfl rfl rfl rfl rfl (fun h19 => ?_) (fun h19 => ?_)
        · replace h19 := of_decide_eq_true h19
          refine Plan.pick (v := .bool _) rfl rfl rfl rfl ?_
          refine Plan.move (v := .bool _) rfl rfl rfl ?_
          refine Plan.fieldAddr rfl rfl fldGrid1 rfl ?_
          refine Plan.load (v := .int _ _) rfl rfl aggI rfl (Sees.one 0 rfl rfl) ?_
          refine Plan.cmp2 rfl rfl rfl rfl rfl (fun h24 => ?_) (fun h24 => ?_)
          · replace h24 := of_decide_eq_true h24
            refine Plan.pick (v := .bool _) rfl rfl rfl rfl ?_
            refine Plan.move (v := .bool _) rfl rfl rfl ?_
            refine Plan.fieldAddr rfl rfl fldGrid1 rfl ?_
            refine Plan.load (v := .int _ _) rfl rfl aggI rfl (Sees.one 0 rfl rfl) ?_
            refine Plan.fieldAddr rfl rfl fldGrid2 rfl ?_
            refine Plan.load (v := .int _ _) rfl rfl aggI rfl (Sees.one 0 rfl rfl) ?_
            refine Plan.cmp2 rfl rfl rfl rfl rfl (fun h31 => ?_) (fun h31 => ?_)
            · replace h31 := of_decide_eq_true h31
              refine Plan.pick (v := .bool _) rfl rfl rfl rfl ?_
              refine Plan.assign (v := .bool _) rfl rfl rfl ?_
              refine Plan.done ?_
              exact HW.ret ⟨rfl, _, [], .tmp rfl .nil, List.nil_sublist _, ht (by simp [goodG]; omega), rfl⟩
            · replace h31 := of_decide_eq_false h31
              refine Plan.pick (v := .bool _) rfl rfl rfl rfl ?_
              refine Plan.assign (v := .bool _) rfl rfl rfl ?_
              refine Plan.done ?_
              exact HW.ret ⟨rfl, _, [], .tmp rfl .nil, List.nil_sublist _, ht (by simp [goodG]; omega), rfl⟩
          · replace h24 := of_decide_eq_false h24
            refine Plan.pick (v := .bool _) rfl rfl rfl rfl ?_
            refine Plan.move (v := .bool _) rfl rfl rfl ?_
            refine Plan.no rfl rfl ?_
            refine Plan.no rfl rfl ?_
            refine Plan.no rfl rfl ?_
            refine Plan.no rfl rfl ?_
            refine Plan.no rfl rfl ?_
            refine Plan.pick (v := .bool _) rfl rfl rfl rfl ?_
            refine Plan.assign (v := .bool _) rfl rfl rfl ?_
            refine Plan.done ?_
            exact HW.ret ⟨rfl, _, [], .tmp rfl .nil, List.nil_sublist _, ht (by simp [goodG]; omega), rfl⟩
        · replace h19 := of_decide_eq_false h19
          refine Plan.pick (v := .bool _) rfl rfl rfl rfl ?_
          refine Plan.move (v := .bool _) rfl rfl rfl ?_
          refine Plan.no rfl rfl ?_
          refine Plan.no rfl rfl ?_
          refine Plan.no rfl rfl ?_
          refine Plan.pick (v := .bool _) rfl rfl rfl rfl ?_
          refine Plan.move (v := .bool _) rfl rfl rfl ?_
          refine Plan.no rfl rfl ?_
          refine Plan.no rfl rfl ?_
          refine Plan.no rfl rfl ?_
          refine Plan.no rfl rfl ?_
          refine Plan.no rfl rfl ?_
          refine Plan.pick (v := .bool _) rfl rfl rfl rfl ?_
          refine Plan.assign (v := .bool _) rfl rfl rfl ?_
          refine Plan.done ?_
          exact HW.ret ⟨rfl, _, [], .tmp rfl .nil, List.nil_sublist _, ht (by simp [goodG]; omega), rfl⟩
      · replace h14 := of_decide_eq_false h14
        refine Plan.pick (v := .bool _) rfl rfl rfl rfl ?_
        refine Plan.move (v := .bool _) rfl rfl rfl ?_
        refine Plan.no rfl rfl ?_
        refine Plan.no rfl rfl ?_
        refine Plan.no rfl rfl ?_
        refine Plan.pick (v := .bool _) rfl rfl rfl rfl ?_
        refine Plan.move (v := .bool _) rfl rfl rfl ?_
        refine Plan.no rfl rfl ?_
        refine Plan.no rfl rfl ?_
        refine Plan.no rfl rfl ?_
        refine Plan.pick (v := .bool _) rfl rfl rfl rfl ?_
        refine Plan.move (v := .bool _) rfl rfl rfl ?_
        refine Plan.no rfl rfl ?_
        refine Plan.no rfl rfl ?_
        refine Plan.no rfl rfl ?_
        refine Plan.no rfl rfl ?_
        refine Plan.no rfl rfl ?_
        refine Plan.pick (v := .bool _) rfl rfl rfl rfl ?_
        refine Plan.assign (v := .bool _) rfl rfl rfl ?_
        refine Plan.done ?_
        exact HW.ret ⟨rfl, _, [], .tmp rfl .nil, List.nil_sublist _, ht (by simp [goodG]; omega), rfl⟩
    · replace h9 := of_decide_eq_false h9
      refine Plan.pick (v := .bool _) rfl rfl rfl rfl ?_
      refine Plan.move (v := .bool _) rfl rfl rfl ?_
      refine Plan.no rfl rfl ?_
      refine Plan.no rfl rfl ?_
      refine Plan.no rfl rfl ?_
      refine Plan.pick (v := .bool _) rfl rfl rfl rfl ?_
      refine Plan.move (v := .bool _) rfl rfl rfl ?_
      refine Plan.no rfl rfl ?_
      refine Plan.no rfl rfl ?_
      refine Plan.no rfl rfl ?_
      refine Plan.pick (v := .bool _) rfl rfl rfl rfl ?_
      refine Plan.move (v := .bool _) rfl rfl rfl ?_
      refine Plan.no rfl rfl ?_
      refine Plan.no rfl rfl ?_
      refine Plan.no rfl rfl ?_
      refine Plan.pick (v := .bool _) rfl rfl rfl rfl ?_
      refine Plan.move (v := .bool _) rfl rfl rfl ?_
      refine Plan.no rfl rfl ?_
      refine Plan.no rfl rfl ?_
      refine Plan.no rfl rfl ?_
      refine Plan.no rfl rfl ?_
      refine Plan.no rfl rfl ?_
      refine Plan.pick (v := .bool _) rfl rfl rfl rfl ?_
      refine Plan.assign (v := .bool _) rfl rfl rfl ?_
      refine Plan.done ?_
      exact HW.ret ⟨rfl, _, [], .tmp rfl .nil, List.nil_sublist _, ht (by simp [goodG]; omega), rfl⟩
  · replace h5 := of_decide_eq_false h5
    refine Plan.move (v := .bool _) rfl rfl rfl ?_
    refine Plan.no rfl rfl ?_
    refine Plan.no rfl rfl ?_
    refine Plan.no rfl rfl ?_
    refine Plan.pick (v := .bool _) rfl rfl rfl rfl ?_
    refine Plan.move (v := .bool _) rfl rfl rfl ?_
    refine Plan.no rfl rfl ?_
    refine Plan.no rfl rfl ?_
    refine Plan.no rfl rfl ?_
    refine Plan.pick (v := .bool _) rfl rfl rfl rfl ?_
    refine Plan.move (v := .bool _) rfl rfl rfl ?_
    refine Plan.no rfl rfl ?_
    refine Plan.no rfl rfl ?_
    refine Plan.no rfl rfl ?_
    refine Plan.pick (v := .bool _) rfl rfl rfl rfl ?_
    refine Plan.move (v := .bool _) rfl rfl rfl ?_
    refine Plan.no rfl rfl ?_
    refine Plan.no rfl rfl ?_
    refine Plan.no rfl rfl ?_
    refine Plan.pick (v := .bool _) rfl rfl rfl rfl ?_
    refine Plan.move (v := .bool _) rfl rfl rfl ?_
    refine Plan.no rfl rfl ?_
    refine Plan.no rfl rfl ?_
    refine Plan.no rfl rfl ?_
    refine Plan.no rfl rfl ?_
    refine Plan.no rfl rfl ?_
    refine Plan.pick (v := .bool _) rfl rfl rfl rfl ?_
    refine Plan.assign (v := .bool _) rfl rfl rfl ?_
    refine Plan.done ?_
    exact HW.ret ⟨rfl, _, [], .tmp rfl .nil, List.nil_sublist _, ht (by simp [goodG]; omega), rfl⟩

theorem any_off {p : List Pt} {k : Nat} (hk : k < p.length) (h : p[k].1 < 0 ∨ p[k].2 < 0 ∨ 12 < p[k].1 ∨ 12 < p[k].2) : blankF p = false := by
  have : p.any offB = true := List.any_eq_true.2 ⟨p[k], List.getElem_mem hk, decide_eq_true h⟩
  rw [blankF, this]
  simp

theorem blankR_ct (A : Option Addr) (p : List Pt) (n c : Nat) (w : World) (hp : Rd enc 2 w A p) (hn : n = p.length) (hlen : p.length ≤ 1000000) :
    Ct P 43 #[.slice A n c] w [] (fun r L => r = .bool (blankF p) ∧ L = []) := by
  subst hn
  have ht : ∀ {b : Bool}, b = blankF p → (Value.bool b = .bool (blankF p)) := fun h => by rw [h]
  refine Ct.of_body (rs := [.tmp 2]) (N := 42) (L := []) Try.func43 rfl rfl rfl (by kernel_rfl) rfl (Mem.refl w) ?_
  refine HW.seq (HW.region [(0, .st)] rfl rfl ?_)
  refine Plan.assign (v := .bool _) rfl rfl rfl ?_
  refine Plan.done ?_
  refine HW.seq ?_
  refine HW.seq (HW.region [(0, .st)] rfl rfl ?_)
  refine Plan.assign (v := .int _ _) rfl rfl rfl ?_
  refine Plan.done ?_
  refine HW.block ?_
  refine HW.loopC (G := Nat) [2, 3, 4, 5, 6, 7, 8, 9, 10, 11, 12, 13, 14, 15, 16, 17, 18, 19, 20, 21, 22, 23, 24, 25, 26, 27, 28, 29, 30, 31, 32, 33, 34, 35, 36, 37, 38, 39] (fun g => [(3, int g)]) (fun g => g ≤ p.length ∧ ∀ j (h : j < p.length), j < g → offB p[j] = false) (fun g => p.length - g) (0) ⟨rfl, trivial⟩ (⟨Nat.zero_le _, fun j h hj => absurd hj (Nat.not_lt_zero _)⟩) (fun g F hok => ?_)
  obtain ⟨hk, hno⟩ := hok
  refine HW.seq ?_
  refine HW.seq (HW.region [(0, .st), (1, .st), (2, .st), (3, .st)] rfl rfl ?_)
  refine Plan.move (v := .int _ _) rfl rfl rfl ?_
  refine Plan.move (v := .slice _ _ _) rfl rfl rfl ?_
  refine Plan.len rfl rfl slV rfl ?_
  refine Plan.cmp2 rfl rfl rfl rfl rfl (fun h7 => ?_) (fun h7 => ?_)
  · replace h7 := of_decide_eq_true h7
    have hlt : g < p.length := by omega
    obtain ⟨ad, rfl, hl1⟩ := hp g hlt
    refine Plan.done ?_
    refine HW.cond_true rfl ?_
    refine HW.skip ?_
    refine HW.seq ?_
    refine HW.block ?_
    refine HW.seq (HW.region [(0, .st), (1, .st), (2, .st), (3, .st), (4, .st), (5, .st), (6, .st), (7, .st), (8, .st), (9, .st), (10, .st), (11, .st), (12, .st), (13, .st), (14, .st), (15, .st), (16, .st), (17, .st), (18, .st), (19, .st), (20, .st), (21, .st), (22, .st), (23, .st), (24, .st), (25, .st), (26, .st), (27, .st), (28, .st), (29, .st)] rfl rfl ?_)
    refine Plan.move (v := .slice _ _ _) rfl rfl rfl ?_
    refine Plan.move (v := .int _ _) rfl rfl rfl ?_
    refine Plan.indexN (g) rfl rfl slV sizV rfl rfl rfl rfl (hlt) ?_
    refine Plan.fieldAddr rfl rfl fldV0 rfl ?_
    refine Plan.load (v := .int _ _) rfl rfl aggI rfl (Sees.fx (Sees.old hl1 (by simp))) ?_
    refine Plan.cmp2 rfl rfl rfl rfl rfl (fun h15 => ?_) (fun h15 => ?_)
    · replace h15 := of_decide_eq_true h15
      refine Plan.move (v := .bool _) rfl rfl rfl ?_
      refine Plan.no rfl rfl ?_
      refine Plan.no rfl rfl ?_
      refine Plan.no rfl rfl ?_
      refine Plan.no rfl rfl ?_
      refine Plan.no rfl rfl ?_
      refine Plan.no rfl rfl ?_
      refine Plan.pick (v := .bool _) rfl rfl rfl rfl ?_
      refine Plan.move (v := .bool _) rfl rfl rfl ?_
      refine Plan.no rfl rfl ?_
      refine Plan.no rfl rfl ?_
      refine Plan.no rfl rfl ?_
      refine Plan.no rfl rfl ?_
      refine Plan.no rfl rfl ?_
      refine Plan.no rfl rfl ?_
      refine Plan.pick (v := .bool _) rfl rfl rfl rfl ?_
      refine Plan.move (v := .bool _) rfl rfl rfl ?_
      refine Plan.no rfl rfl ?_
      refine Plan.no rfl rfl ?_
      refine Plan.no rfl rfl ?_
      refine Plan.no rfl rfl ?_
      refine Plan.no rfl rfl ?_
      refine Plan.no rfl rfl ?_
      refine Plan.pick (v := .bool _) rfl rfl rfl rfl ?_
      refine Plan.done ?_
      refine HW.cond_true rfl ?_
      refine HW.seq (HW.region [(0, .st)] rfl rfl ?_)
      refine Plan.assign (v := .bool _) rfl rfl rfl ?_
      refine Plan.done ?_
      exact HW.ret ⟨rfl, _, [], .tmp rfl .nil, List.nil_sublist _, ht (any_off hlt (by omega)).symm, rfl⟩
    · replace h15 := of_decide_eq_false h15
      refine Plan.move (v := .bool _) rfl rfl rfl ?_
      refine Plan.move (v := .slice _ _ _) rfl rfl rfl ?_
      refine Plan.move (v := .int _ _) rfl rfl rfl ?_
      refine Plan.indexN (g) rfl rfl slV sizV rfl rfl rfl rfl (hlt) ?_
      refine Plan.fieldAddr rfl rfl fldV0 rfl ?_
      refine Plan.load (v := .int _ _) rfl rfl aggI rfl (Sees.fx (Sees.old hl1 (by simp))) ?_
      refine Plan.cmp2 rfl rfl rfl rfl rfl (fun h22 => ?_) (fun h22 => ?_)
      · replace h22 := of_decide_eq_true h22
        refine Plan.pick (v := .bool _) rfl rfl rfl rfl ?_
        refine Plan.move (v := .bool _) rfl rfl rfl ?_
        refine Plan.no rfl rfl ?_
        refine Plan.no rfl rfl ?_
        refine Plan.no rfl rfl ?_
        refine Plan.no rfl rfl ?_
        refine Plan.no rfl rfl ?_
        refine Plan.no rfl rfl ?_
        refine Plan.pick (v := .bool _) rfl rfl rfl rfl ?_
        refine Plan.move (v := .bool _) rfl rfl rfl ?_
        refine Plan.no rfl rfl ?_
        refine Plan.no rfl rfl ?_
        refine Plan.no rfl rfl ?_
        refine Plan.no rfl rfl ?_
        refine Plan.no rfl rfl ?_
        refine Plan.no rfl rfl ?_
        refine Plan.pick (v := .bool _) rfl rfl rfl rfl ?_
        refine Plan.done ?_
        refine HW.cond_true rfl ?_
        refine HW.seq (HW.region [(0, .st)] rfl rfl ?_)
        refine Plan.assign (v := .bool _) rfl rfl rfl ?_
        refine Plan.done ?_
        exact HW.ret ⟨rfl, _, [], .tmp rfl .nil, List.nil_sublist _, ht (any_off hlt (by omega)).symm, rfl⟩
      · replace h22 := of_decide_eq_false h22
        refine Plan.pick (v := .bool _) rfl rfl rfl rfl ?_
        refine Plan.move (v := .bool _) rfl rfl rfl ?_
        refine Plan.move (v := .slice _ _ _) rfl rfl rfl ?_
        refine Plan.move (v := .int _ _) rfl rfl rfl ?_
        refine Plan.indexN (g) rfl rfl slV sizV rfl rfl rfl rfl (hlt) ?_
        refine Plan.fieldAddr rfl rfl fldV1 rfl ?_
        refine Plan.load (v := .int _ _) rfl rfl aggI rfl (Sees.fy (Sees.old hl1 (by simp))) ?_
        refine Plan.cmp2 rfl rfl rfl rfl rfl (fun h30 => ?_) (fun h30 => ?_)
        · replace h30 := of_decide_eq_true h30
          refine Plan.pick (v := .bool _) rfl rfl rfl rfl ?_
          refine Plan.move (v := .bool _) rfl rfl rfl ?_
          refine Plan.no rfl rfl ?_
          refine Plan.no rfl rfl ?_
          refine Plan.no rfl rfl ?_
          refine Plan.no rfl rfl ?_
          refine Plan.no rfl rfl ?_
          refine Plan.no rfl rfl ?_
          refine Plan.pick (v := .bool _) rfl rfl rfl rfl ?_
          refine Plan.done ?_
          refine HW.cond_true rfl ?_
          refine HW.seq (HW.region [(0, .st)] rfl rfl ?_)
          refine Plan.assign (v := .bool _) rfl rfl rfl ?_
          refine Plan.done ?_
          exact HW.ret ⟨rfl, _, [], .tmp rfl .nil, List.nil_sublist _, ht (any_off hlt (by omega)).symm, rfl⟩
        · replace h30 := of_decide_eq_false h30
          refine Plan.pick (v := .bool _) rfl rfl rfl rfl ?_
          refine Plan.move (v := .bool _) rfl rfl rfl ?_
          refine Plan.move (v := .slice _ _ _) rfl rfl rfl ?_
          refine Plan.move (v := .int _ _) rfl rfl rfl ?_
          refine Plan.indexN (g) rfl rfl slV sizV rfl rfl rfl rfl (hlt) ?_
          refine Plan.fieldAddr rfl rfl fldV1 rfl ?_
          refine Plan.load (v := .int _ _) rfl rfl aggI rfl (Sees.fy (Sees.old hl1 (by simp))) ?_
          refine Plan.cmp2 rfl rfl rfl rfl rfl (fun h38 => ?_) (fun h38 => ?_)
          · replace h38 := of_decide_eq_true h38
            refine Plan.pick (v := .bool _) rfl rfl rfl rfl ?_
            refine Plan.done ?_
            refine HW.cond_true rfl ?_
            refine HW.seq (HW.region [(0, .st)] rfl rfl ?_)
            refine Plan.assign (v := .bool _) rfl rfl rfl ?_
            refine Plan.done ?_
            exact HW.ret ⟨rfl, _, [], .tmp rfl .nil, List.nil_sublist _, ht (any_off hlt (by omega)).symm, rfl⟩
          · replace h38 := of_decide_eq_false h38
            have hgood : offB p[g] = false := decide_eq_false (by omega)
            refine Plan.pick (v := .bool _) rfl rfl rfl rfl ?_
            refine Plan.done ?_
            refine HW.cond_false rfl ?_
            refine HW.skip ?_
            refine HW.region [(0, .st), (1, .st), (2, .st)] rfl rfl ?_
            refine Plan.move (v := .int _ _) rfl rfl rfl ?_
            refine Plan.arithI rfl rfl rfl rfl rfl (by omega) ?_
            refine Plan.assign (v := .int _ _) rfl rfl rfl ?_
            refine Plan.done ?_
            exact ⟨g + 1, by simp only; omega, ⟨hlt, fun j hj hjk => by rcases Nat.lt_succ_iff_lt_or_eq.1 hjk with h | rfl <;> (first | exact hno j hj h | exact hgood)⟩, rfl, Ent.sub (.refl _), (by repeat (first | exact Agree.havoc _ _ _ | refine Agree.updN ?_ | refine Agree.upd rfl ?_ | refine Agree.updL rfl ?_ | refine Agree.havoc2 rfl ?_)), ⟨rfl, trivial⟩⟩
  · replace h7 := of_decide_eq_false h7
    have hall : p.any offB = false := by
      rw [List.any_eq_false]
      intro q hq
      obtain ⟨j, hj, rfl⟩ := List.getElem_of_mem hq
      rw [hno j hj (by omega)]
      decide
    refine Plan.done ?_
    refine HW.cond_false rfl ?_
    refine HW.exit ?_
    refine HW.seq (HW.region [(0, .st), (1, .ef), (2, .st)] rfl rfl ?_)
    refine Plan.move (v := .slice _ _ _) rfl rfl rfl ?_
    refine Plan.callF [] 0 rfl rfl rfl (.inl rfl) (by simp) (fun w hm => rvalid_ct A p _ c w (hp.mem hm) rfl) ?_   -- tinplate/tinplateref03.Valid
    rintro v Ln ⟨rfl, rfl⟩
    refine Plan.splitB (fun h41 => ?_) (fun h41 => ?_)
    · skip
      refine Plan.assign (v := .bool _) rfl rfl rfl ?_
      refine Plan.done ?_
      exact HW.ret ⟨rfl, _, [], .tmp rfl .nil, List.nil_sublist _, ht (by rw [blankF, h41, hall]; rfl), rfl⟩
    · skip
      refine Plan.assign (v := .bool _) rfl rfl rfl ?_
      refine Plan.done ?_
      exact HW.ret ⟨rfl, _, [], .tmp rfl .nil, List.nil_sublist _, ht (by rw [blankF, h41, hall]; rfl), rfl⟩

theorem resultR_ct (A : Option Addr) (p : List Pt) (n c : Nat) (w : World) (hp : Rd enc 2 w A p) (hn : n = p.length) (hlen : p.length ≤ 32) (hall : ∀ q ∈ p, okB q.1 q.2 = true) :
    Ct P 97 #[.slice A n c] w [] (fun r L => r = .tuple #[.slice A n c, int 0] ∧ L = []) := by
  subst hn
  refine Ct.of_body (rs := [.tmp 2, .tmp 3]) (N := 21) (L := []) Try.func97 rfl rfl rfl (by kernel_rfl) rfl (Mem.refl w) ?_
  refine HW.seq (HW.region [(0, .st), (1, .st)] rfl rfl ?_)
  refine Plan.assign (v := .slice _ _ _) rfl rfl rfl ?_
  refine Plan.assign (v := .int _ _) rfl rfl rfl ?_
  refine Plan.done ?_
  refine HW.seq ?_
  refine HW.seq (HW.region [(0, .st)] rfl rfl ?_)
  refine Plan.assign (v := .int _ _) rfl rfl rfl ?_
  refine Plan.done ?_
  refine HW.block ?_
  refine HW.loopC (G := Nat) [2, 3, 4, 5, 6, 7, 8, 9, 10, 11, 12, 13, 14, 15, 16] (fun g => [(4, int g)]) (fun g => g ≤ p.length) (fun g => p.length - g) (0) ⟨rfl, trivial⟩ (Nat.zero_le _) (fun g F hok => ?_)
  refine HW.seq ?_
  refine HW.seq (HW.region [(0, .st), (1, .st), (2, .st), (3, .st)] rfl rfl ?_)
  refine Plan.move (v := .int _ _) rfl rfl rfl ?_
  refine Plan.move (v := .slice _ _ _) rfl rfl rfl ?_
  refine Plan.len rfl rfl slV rfl ?_
  refine Plan.cmp2 rfl rfl rfl rfl rfl (fun h8 => ?_) (fun h8 => ?_)
  · replace h8 := of_decide_eq_true h8
    have hlt : g < p.length := by omega
    obtain ⟨ad, rfl, hl1⟩ := hp g hlt
    refine Plan.done ?_
    refine HW.cond_true rfl ?_
    refine HW.skip ?_
    refine HW.seq ?_
    refine HW.block ?_
    refine HW.seq (HW.region [(0, .st), (1, .st), (2, .st), (3, .st), (4, .ef), (5, .st)] rfl rfl ?_)
    refine Plan.move (v := .slice _ _ _) rfl rfl rfl ?_
    refine Plan.move (v := .int _ _) rfl rfl rfl ?_
    refine Plan.indexN (g) rfl rfl slV sizV rfl rfl rfl rfl (hlt) ?_
    refine Plan.loadAgg rfl rfl aggV sizV rfl (Sees.old hl1 (by simp)) rfl ?_
    refine Plan.callF [] 0 rfl rfl rfl (.inl rfl) (by simp) (fun w hm => Good_ct _ w) ?_   -- tinplate/tinplateref03.Good
    rintro v Ln ⟨rfl, rfl⟩
    refine Plan.splitB (fun h15 => ?_) (fun h15 => ?_)
    · skip
      refine Plan.not rfl rfl rfl ?_
      refine Plan.done ?_
      refine HW.cond_false rfl ?_
      refine HW.skip ?_
      refine HW.region [(0, .st), (1, .st), (2, .st)] rfl rfl ?_
      refine Plan.move (v := .int _ _) rfl rfl rfl ?_
      refine Plan.arithI rfl rfl rfl rfl rfl (by omega) ?_
      refine Plan.assign (v := .int _ _) rfl rfl rfl ?_
      refine Plan.done ?_
      exact ⟨g + 1, by simp only; omega, hlt, rfl, Ent.sub (.refl _), (by repeat (first | exact Agree.havoc _ _ _ | refine Agree.updN ?_ | refine Agree.upd rfl ?_ | refine Agree.updL rfl ?_ | refine Agree.havoc2 rfl ?_)), ⟨rfl, trivial⟩⟩
    · skip
      exact absurd (hall _ (List.getElem_mem hlt)) (by rw [h15]; decide)
  · replace h8 := of_decide_eq_false h8
    refine Plan.done ?_
    refine HW.cond_false rfl ?_
    refine HW.exit ?_
    refine HW.seq ?_
    refine HW.seq (HW.region [(0, .st), (1, .st), (2, .st)] rfl rfl ?_)
    refine Plan.move (v := .slice _ _ _) rfl rfl rfl ?_
    refine Plan.len rfl rfl slV rfl ?_
    refine Plan.cmp2 rfl rfl rfl rfl rfl (fun h19 => ?_) (fun h19 => ?_)
    · replace h19 := of_decide_eq_true h19
      omega
    · replace h19 := of_decide_eq_false h19
      refine Plan.done ?_
      refine HW.cond_false rfl ?_
      refine HW.skip ?_
      refine HW.seq (HW.region [(0, .st), (1, .st), (2, .st)] rfl rfl ?_)
      refine Plan.move (v := .slice _ _ _) rfl rfl rfl ?_
      refine Plan.assign (v := .slice _ _ _) rfl rfl rfl ?_
      refine Plan.assign (v := .int _ _) rfl rfl rfl ?_
      refine Plan.done ?_
      exact HW.ret ⟨rfl, _, [], .tmp rfl (.tmp rfl .nil), List.nil_sublist _, rfl, rfl⟩

theorem moveR_ct (A : Option Addr) (p : List Pt) (v : Pt) (n c : Nat) (w : World) (hp : Rd enc 2 w A p) (hn : n = p.length) (hb : blankF p = true) (hv : Bd2 900 v.1 v.2) :
    Ct P 71 #[.slice A n c, vc v] w [] (fun r L => ∃ o c', r = .tuple #[slv o p.length c', int 0] ∧ L = [ownV o c' (p.map (vAdd v))]) := by
  subst hn
  have hvp := (blankF_spec hb).1
  obtain ⟨v1, v2, v3, v4⟩ := validF_spec hvp
  obtain ⟨⟨_, _⟩, ⟨_, _⟩⟩ := hv
  refine Ct.of_body (rs := [.tmp 4, .tmp 5]) (N := 20) (L := []) Try.func71 rfl rfl rfl (by kernel_rfl) rfl (Mem.refl w) ?_
  refine HW.seq (HW.region [(0, .ef), (1, .st), (2, .st)] rfl rfl ?_)
  refine Plan.boxA rfl rfl rfl fun b3 => ?_
  refine Plan.assign (v := .slice _ _ _) rfl rfl rfl ?_
  refine Plan.assign (v := .int _ _) rfl rfl rfl ?_
  refine Plan.done ?_
  refine HW.seq ?_
  refine HW.seq (HW.region [(0, .st), (1, .ef), (2, .st), (3, .st), (4, .st), (5, .ef), (6, .st), (7, .st)] rfl rfl ?_)
  refine Plan.move (v := .slice _ _ _) rfl rfl rfl ?_
  refine Plan.callF [] 0 rfl rfl rfl (.inl rfl) (by simp) (fun w hm => rvalid_ct A p _ c w (hp.mem hm) rfl) ?_   -- tinplate/tinplateref03.Valid
  rintro v Ln ⟨rfl, rfl⟩
  refine Plan.splitB (fun h7 => ?_) (fun h7 => ?_)
  · skip
    refine Plan.not rfl rfl rfl ?_
    refine Plan.move (v := .bool _) rfl rfl rfl ?_
    refine Plan.loadAll 0 rfl rfl aggV sizV rfl rfl rfl ?_
    refine Plan.callF [] 0 rfl rfl rfl (.inl rfl) (by simp) (fun w hm => Good_ct v w) ?_   -- tinplate/tinplateref03.Good
    rintro v Ln ⟨rfl, rfl⟩
    refine Plan.splitB (fun h11 => ?_) (fun h11 => ?_)
    · skip
      refine Plan.not rfl rfl rfl ?_
      refine Plan.pick (v := .bool _) rfl rfl rfl rfl ?_
      refine Plan.done ?_
      refine HW.cond_false rfl ?_
      refine HW.skip ?_
      refine HW.seq (HW.region [(0, .st), (1, .st), (2, .ef), (3, .ef), (4, .st), (5, .st), (6, .st), (7, .st)] rfl rfl ?_)
      refine Plan.move (v := .slice _ _ _) rfl rfl rfl ?_
      refine Plan.loadAll 0 rfl rfl aggV sizV rfl rfl rfl ?_
      refine Plan.callF [] 0 rfl rfl rfl (.inl rfl) (by simp) (fun w hm => rmoved_ct A p v _ c w (hp.mem hm) rfl (by omega) (by omega) (fun q hq => (v3 q hq).mono (by omega)) ⟨⟨by omega, by omega⟩, ⟨by omega, by omega⟩⟩) ?_   -- tinplate/tinplateref03.moved
      rintro v Ln ⟨o, c1, b, rfl, rfl, hob⟩
      refine Plan.callF [] 0 rfl rfl rfl (.inl rfl) (by simp) (fun w hm => resultR_ct (at0 o) (p.map (vAdd v)) _ c1 w (Res.own_rd enc2 (hm.res (ownV o c1 (p.map (vAdd v))) (by simp))) (by simp) (by simp; omega) (fun q hq => by
          obtain ⟨u, hu, rfl⟩ := List.mem_map.1 hq
          have := blank_bd hb hu
          exact decide_eq_true (show -1000 ≤ u.1 + v.1 ∧ u.1 + v.1 ≤ 1000 ∧ -1000 ≤ u.2 + v.2 ∧ u.2 + v.2 ≤ 1000 by omega))) ?_   -- tinplate/tinplateref03.result
      rintro v Ln ⟨rfl, rfl⟩
      refine Plan.extract (v := .slice _ _ _) rfl rfl rfl rfl ?_
      refine Plan.extract (v := .int _ _) rfl rfl rfl rfl ?_
      refine Plan.assign (v := .slice _ _ _) rfl rfl rfl ?_
      refine Plan.assign (v := .int _ _) rfl rfl rfl ?_
      refine Plan.done ?_
      exact HW.ret ⟨rfl, _, [ownV o c1 (p.map (vAdd v))], .tmp rfl (.tmp rfl .nil), .cons_cons _ (List.nil_sublist _), o, c1, rfl, rfl⟩
    · skip
      exact absurd (of_decide_eq_false h11) (by omega)
  · skip
    exact absurd hvp (by rw [h7]; decide)

theorem collide_ct (A : Option Addr) (p : List Pt) (v : Pt) (n c : Nat) (w : World) (hp : Rd enc 2 w A p) (hn : n = p.length) (hb : blankF p = true) :
    Ct P 35 #[.slice A n c, vc v] w [] (fun r L => r = .bool (collB p v) ∧ L = []) := by
  subst hn
  have ht : ∀ {b : Bool}, b = collB p v → (Value.bool b = .bool (collB p v)) := fun h => by rw [h]
  have hno : v.1 ≤ -12 ∨ 12 ≤ v.1 ∨ v.2 ≤ -12 ∨ 12 ≤ v.2 → collB p v = false := fun h => by
    rw [collB, show inB v = false from decide_eq_false (by omega)]
    rfl
  refine Ct.of_body (rs := [.tmp 4]) (N := 40) (L := []) Try.func35 rfl rfl rfl (by kernel_rfl) rfl (Mem.refl w) ?_
  refine HW.seq (HW.region [(0, .ef), (1, .st)] rfl rfl ?_)
  refine Plan.boxA rfl rfl rfl fun b3 => ?_
  refine Plan.assign (v := .bool _) rfl rfl rfl ?_
  refine Plan.done ?_
  refine HW.seq ?_
  refine HW.seq (HW.region [(0, .st), (1, .st), (2, .st), (3, .st), (4, .st), (5, .st), (6, .st), (7, .st), (8, .st), (9, .st), (10, .st), (11, .st), (12, .st), (13, .st), (14, .st), (15, .st), (16, .st), (17, .st)] rfl rfl ?_)
  refine Plan.fieldAddr rfl rfl fldV0 rfl ?_
  refine Plan.load (v := .int _ _) rfl rfl aggI rfl (Sees.one 0 rfl rfl) ?_
  refine Plan.cmp2 rfl rfl rfl rfl rfl (fun h11 => ?_) (fun h11 => ?_)
  · replace h11 := of_decide_eq_true h11
    refine Plan.move (v := .bool _) rfl rfl rfl ?_
    refine Plan.no rfl rfl ?_
    refine Plan.no rfl rfl ?_
    refine Plan.no rfl rfl ?_
    refine Plan.pick (v := .bool _) rfl rfl rfl rfl ?_
    refine Plan.move (v := .bool _) rfl rfl rfl ?_
    refine Plan.no rfl rfl ?_
    refine Plan.no rfl rfl ?_
    refine Plan.no rfl rfl ?_
    refine Plan.pick (v := .bool _) rfl rfl rfl rfl ?_
    refine Plan.move (v := .bool _) rfl rfl rfl ?_
    refine Plan.no rfl rfl ?_
    refine Plan.no rfl rfl ?_
    refine Plan.no rfl rfl ?_
    refine Plan.pick (v := .bool _) rfl rfl rfl rfl ?_
    refine Plan.done ?_
    refine HW.cond_true rfl ?_
    refine HW.seq (HW.region [(0, .st)] rfl rfl ?_)
    refine Plan.assign (v := .bool _) rfl rfl rfl ?_
    refine Plan.done ?_
    exact HW.ret ⟨rfl, _, [], .tmp rfl .nil, List.nil_sublist _, ht (hno (by omega)).symm, rfl⟩
  · replace h11 := of_decide_eq_false h11
    refine Plan.move (v := .bool _) rfl rfl rfl ?_
    refine Plan.fieldAddr rfl rfl fldV0 rfl ?_
    refine Plan.load (v := .int _ _) rfl rfl aggI rfl (Sees.one 0 rfl rfl) ?_
    refine Plan.cmp2 rfl rfl rfl rfl rfl (fun h15 => ?_) (fun h15 => ?_)
    · replace h15 := of_decide_eq_true h15
      refine Plan.pick (v := .bool _) rfl rfl rfl rfl ?_
      refine Plan.move (v := .bool _) rfl rfl rfl ?_
      refine Plan.no rfl rfl ?_
      refine Plan.no rfl rfl ?_
      refine Plan.no rfl rfl ?_
      refine Plan.pick (v := .bool _) rfl rfl rfl rfl ?_
      refine Plan.move (v := .bool _) rfl rfl rfl ?_
      refine Plan.no rfl rfl ?_
      refine Plan.no rfl rfl ?_
      refine Plan.no rfl rfl ?_
      refine Plan.pick (v := .bool _) rfl rfl rfl rfl ?_
      refine Plan.done ?_
      refine HW.cond_true rfl ?_
      refine HW.seq (HW.region [(0, .st)] rfl rfl ?_)
      refine Plan.assign (v := .bool _) rfl rfl rfl ?_
      refine Plan.done ?_
      exact HW.ret ⟨rfl, _, [], .tmp rfl .nil, List.nil_sublist _, ht (hno (by omega)).symm, rfl⟩
    · replace h15 := of_decide_eq_false h15
      refine Plan.pick (v := .bool _) rfl rfl rfl rfl ?_
      refine Plan.move (v := .bool _) rfl rfl rfl ?_
      refine Plan.fieldAddr rfl rfl fldV1 rfl ?_
      refine Plan.load (v := .int _ _) rfl rfl aggI rfl (Sees.one 0 rfl rfl) ?_
      refine Plan.cmp2 rfl rfl rfl rfl rfl (fun h20 => ?_) (fun h20 => ?_)
      · replace h20 := of_decide_eq_true h20
        refine Plan.pick (v := .bool _) rfl rfl rfl rfl ?_
        refine Plan.move (v := .bool _) rfl rfl rfl ?_
        refine Plan.no rfl rfl ?_
        refine Plan.no rfl rfl ?_
        refine Plan.no rfl rfl ?_
        refine Plan.pick (v := .bool _) rfl rfl rfl rfl ?_
        refine Plan.done ?_
        refine HW.cond_true rfl ?_
        refine HW.seq (HW.region [(0, .st)] rfl rfl ?_)
        refine Plan.assign (v := .bool _) rfl rfl rfl ?_
        refine Plan.done ?_
        exact HW.ret ⟨rfl, _, [], .tmp rfl .nil, List.nil_sublist _, ht (hno (by omega)).symm, rfl⟩
      · replace h20 := of_decide_eq_false h20
        refine Plan.pick (v := .bool _) rfl rfl rfl rfl ?_
        refine Plan.move (v := .bool _) rfl rfl rfl ?_
        refine Plan.fieldAddr rfl rfl fldV1 rfl ?_
        refine Plan.load (v := .int _ _) rfl rfl aggI rfl (Sees.one 0 rfl rfl) ?_
        refine Plan.cmp2 rfl rfl rfl rfl rfl (fun h25 => ?_) (fun h25 => ?_)
        · replace h25 := of_decide_eq_true h25
          refine Plan.pick (v := .bool _) rfl rfl rfl rfl ?_
          refine Plan.done ?_
          refine HW.cond_true rfl ?_
          refine HW.seq (HW.region [(0, .st)] rfl rfl ?_)
          refine Plan.assign (v := .bool _) rfl rfl rfl ?_
          refine Plan.done ?_
          exact HW.ret ⟨rfl, _, [], .tmp rfl .nil, List.nil_sublist _, ht (hno (by omega)).symm, rfl⟩
        · replace h25 := of_decide_eq_false h25
          have hi : inB v = true := decide_eq_true (by omega)
          have hvb := inB_bd hi
          refine Plan.pick (v := .bool _) rfl rfl rfl rfl ?_
          refine Plan.done ?_
          refine HW.cond_false rfl ?_
          refine HW.skip ?_
          refine HW.seq (HW.region [(0, .st), (1, .st), (2, .ef), (3, .st), (4, .st), (5, .st), (6, .st), (7, .st)] rfl rfl ?_)
          refine Plan.move (v := .slice _ _ _) rfl rfl rfl ?_
          refine Plan.loadAll 0 rfl rfl aggV sizV rfl rfl rfl ?_
          refine Plan.callF [] 0 rfl rfl rfl (.inl rfl) (by simp) (fun w hm => moveR_ct A p v _ c w (hp.mem hm) rfl hb hvb) ?_   -- tinplate/tinplateref03.Move
          rintro v Ln ⟨o, c1, rfl, rfl⟩
          refine Plan.move (v := .tuple _) rfl rfl rfl ?_
          refine Plan.extract (v := .slice _ _ _) rfl rfl rfl rfl ?_
          refine Plan.extract (v := .int _ _) rfl rfl rfl rfl ?_
          refine Plan.assign (v := .slice _ _ _) rfl rfl rfl ?_
          refine Plan.assign (v := .int _ _) rfl rfl rfl ?_
          refine Plan.done ?_
          refine HW.seq (HW.region [(0, .st), (1, .st), (2, .ef), (3, .st), (4, .st), (5, .st), (6, .st), (7, .st)] rfl rfl ?_)
          refine Plan.move (v := .slice _ _ _) rfl rfl rfl ?_
          refine Plan.move (v := .slice _ _ _) rfl rfl rfl ?_
          refine Plan.callF [] 0 rfl rfl rfl (.inl rfl) (by simp) (fun w hm => rOverlap_ct A (at0 o) p (p.map (vAdd v)) _ c _ c1 w (hp.mem hm) (Res.own_rd enc2 (hm.res (ownV o c1 (p.map (vAdd v))) (by simp))) rfl (by simp)) ?_   -- tinplate/tinplateref03.Overlap
          rintro v Ln ⟨rfl, rfl⟩
          refine Plan.move (v := .tuple _) rfl rfl rfl ?_
          refine Plan.extract (v := .bool _) rfl rfl rfl rfl ?_
          refine Plan.extract (v := .int _ _) rfl rfl rfl rfl ?_
          refine Plan.assign (v := .bool _) rfl rfl rfl ?_
          refine Plan.assign (v := .int _ _) rfl rfl rfl ?_
          refine Plan.done ?_
          refine HW.seq (HW.region [(0, .st), (1, .st)] rfl rfl ?_)
          refine Plan.move (v := .bool _) rfl rfl rfl ?_
          refine Plan.assign (v := .bool _) rfl rfl rfl ?_
          refine Plan.done ?_
          exact HW.ret ⟨rfl, _, [], .tmp rfl .nil, List.nil_sublist _, ht (by rw [over_move hb hvb, collB, hi]; rfl), rfl⟩

theorem hits_len (p : List Pt) (n : Nat) : (hitsN p n).length ≤ n := by
  unfold hitsN
  refine Nat.le_trans (List.length_filter_le _ _) ?_
  simp

theorem hitsN_app {p : List Pt} {n : Nat} (h : hitB p (bx n) = true) : hitsN p (n + 1) = hitsN p n ++ [bx n] := by
  unfold hitsN
  rw [List.range_succ, List.map_append, List.filter_append]
  simp [h]

structure CrG where
  n : Nat
  o : Option Nat
  c : Nat

theorem crossing_ct (A : Option Addr) (p : List Pt) (n c : Nat) (w : World) (hp : Rd enc 2 w A p) (hn : n = p.length) (hb : blankF p = true) :
    Ct P 44 #[.slice A n c] w [] (fun r L => ∃ o c', r = slv o (hits p).length c' ∧ L = [ownV o c' (hits p)]) := by
  subst hn
  refine Ct.of_body (rs := [.tmp 2]) (N := 31) (L := []) Try.func44 rfl rfl rfl (by kernel_rfl) rfl (Mem.refl w) ?_
  refine HW.seq (HW.region [(0, .st)] rfl rfl ?_)
  refine Plan.assign (v := .slice _ _ _) rfl rfl rfl ?_
  refine Plan.done ?_
  refine HW.seq (HW.region [(0, .st)] rfl rfl ?_)
  refine Plan.assign (v := .slice _ _ _) rfl rfl rfl ?_
  refine Plan.done ?_
  refine HW.seq ?_
  refine HW.seq (HW.region [(0, .st)] rfl rfl ?_)
  refine Plan.assign (v := .int _ _) rfl rfl rfl ?_
  refine Plan.done ?_
  refine HW.block ?_
  refine HW.loopL (G := CrG) [3, 4, 5, 6, 7, 8, 9, 10, 11, 12, 13, 14, 15, 16, 17, 18, 19, 20, 21, 22, 23, 24, 25, 26, 27, 28, 29] (fun g => [(3, slv g.o (hitsN p (25 * g.n)).length g.c), (4, int ((g.n : Int) - 12))]) (fun g => [ownV g.o g.c (hitsN p (25 * g.n))]) (fun g => g.n ≤ 25) (fun g => 25 - g.n) (⟨0, none, 0⟩) ⟨rfl, rfl, trivial⟩ (fun w' hm => hm.addNil) (Nat.zero_le _) (fun g F hok => ?_)
  obtain ⟨i, o, c1⟩ := g
  simp only at hok
  dsimp only
  refine HW.seq ?_
  refine HW.seq (HW.region [(0, .st), (1, .st)] rfl rfl ?_)
  refine Plan.move (v := .int _ _) rfl rfl rfl ?_
  refine Plan.cmp2 rfl rfl rfl rfl rfl (fun h8 => ?_) (fun h8 => ?_)
  · replace h8 := of_decide_eq_true h8
    have hi : i < 25 := by omega
    refine Plan.done ?_
    refine HW.cond_true rfl ?_
    refine HW.skip ?_
    refine HW.seq ?_
    refine HW.block ?_
    refine HW.seq (HW.region [(0, .st)] rfl rfl ?_)
    refine Plan.assign (v := .int _ _) rfl rfl rfl ?_
    refine Plan.done ?_
    refine HW.block ?_
    refine HW.loopL (G := CrG) [3, 5, 6, 11, 12, 13, 14, 15, 16, 17, 18, 19, 20, 21, 22, 23, 24, 25, 26, 27, 28, 29] (fun g => [(3, slv g.o (hitsN p (25 * i + g.n)).length g.c), (5, int ((g.n : Int) - 12))]) (fun g => [ownV g.o g.c (hitsN p (25 * i + g.n))]) (fun g => g.n ≤ 25) (fun g => 25 - g.n) (⟨0, o, c1⟩) ⟨rfl, rfl, trivial⟩ (fun w' hm => hm) (Nat.zero_le _) (fun g F hok => ?_)
    obtain ⟨j, o2, c2⟩ := g
    rename_i hok1
    simp only at hok
    dsimp only
    refine HW.seq ?_
    refine HW.seq (HW.region [(0, .st), (1, .st)] rfl rfl ?_)
    refine Plan.move (v := .int _ _) rfl rfl rfl ?_
    refine Plan.cmp2 rfl rfl rfl rfl rfl (fun h12 => ?_) (fun h12 => ?_)
    · replace h12 := of_decide_eq_true h12
      have hj : j < 25 := by omega
      have he := bx_at (i := i) hj
      have hvb : Bd2 900 ((i : Int) - 12) ((j : Int) - 12) := ⟨⟨by omega, by omega⟩, ⟨by omega, by omega⟩⟩
      have hhc := hit_coll hb (v := ((i : Int) - 12, (j : Int) - 12)) hvb
      refine Plan.done ?_
      refine HW.cond_true rfl ?_
      refine HW.skip ?_
      refine HW.seq ?_
      refine HW.block ?_
      refine HW.seq (HW.region [(0, .st), (1, .st), (2, .st), (3, .al), (4, .ef)] rfl rfl ?_)
      refine Plan.move (v := .int _ _) rfl rfl rfl ?_
      refine Plan.move (v := .int _ _) rfl rfl rfl ?_
      refine Plan.build rfl rfl rfl (bldV _ _) ?_
      refine Plan.alloc rfl zerV fun b6 => ?_
      refine Plan.storeA 0 rfl rfl hDn sizV rfl rfl rfl rfl rfl rfl ?_
      refine Plan.done ?_
      refine HW.seq (HW.region [(0, .st), (1, .st), (2, .st), (3, .st), (4, .st), (5, .st), (6, .ef), (7, .st)] rfl rfl ?_)
      refine Plan.loadAll 0 rfl rfl aggV sizV rfl rfl rfl ?_
      refine Plan.build rfl rfl rfl (bld0) ?_
      refine Plan.neV (((i : Int) - 12, (j : Int) - 12)) ((0, 0)) rfl rfl rfl rfl rfl (fun h20 => ?_) (fun h20 => ?_)
      · skip
        refine Plan.move (v := .bool _) rfl rfl rfl ?_
        refine Plan.move (v := .slice _ _ _) rfl rfl rfl ?_
        refine Plan.loadAll 0 rfl rfl aggV sizV rfl rfl rfl ?_
        refine Plan.callF [] 0 rfl rfl rfl (.inl rfl) (by simp) (fun w hm => collide_ct A p ((i : Int) - 12, (j : Int) - 12) _ c w (hp.mem hm) rfl hb) ?_   -- tinplate/tinplateref04.Collide
        rintro v Ln ⟨rfl, rfl⟩
        refine Plan.splitB (fun h24 => ?_) (fun h24 => ?_)
        · skip
          have hhit : hitB p (bx (25 * i + j)) = true := by rw [he, hhc, h24, decide_eq_true h20]; rfl
          have hap := hitsN_app hhit
          have hl := hits_len p (25 * i + j)
          refine Plan.pick (v := .bool _) rfl rfl rfl rfl ?_
          refine Plan.done ?_
          refine HW.cond_true rfl ?_
          refine HW.region [(0, .st), (1, .st), (2, .ef), (3, .ef), (4, .st)] rfl rfl ?_
          refine Plan.move (v := .slice _ _ _) rfl rfl rfl ?_
          refine Plan.loadAll 0 rfl rfl aggV sizV rfl rfl rfl ?_
          refine Plan.buildOwn (xs := [((i : Int) - 12, (j : Int) - 12)]) (enc := enc) (sz := 2) rfl rfl rfl (bs1 _ _) rfl rfl (by simp) rfl fun b28 => ?_
          refine Plan.append (enc := enc) (sz := 2) (ys := [((i : Int) - 12, (j : Int) - 12)]) (2) rfl rfl hDn slV infV rfl (by decide) enc2 enc1 rfl rfl rfl rfl rfl (Sees.ownAll 0 rfl b28 rfl) (by simp; omega) (by simp; omega) fun o29 c29 => ?_
          refine Plan.assign (v := .slice _ _ _) rfl rfl rfl ?_
          refine Plan.done ?_
          refine HW.region [(0, .st), (1, .st), (2, .st)] rfl rfl ?_
          refine Plan.move (v := .int _ _) rfl rfl rfl ?_
          refine Plan.arithI rfl rfl rfl rfl rfl (by omega) ?_
          refine Plan.assign (v := .int _ _) rfl rfl rfl ?_
          refine Plan.done ?_
          exact ⟨⟨j + 1, o29, c29⟩, by dsimp only; omega, hj, rfl, (fun w' hm => by
              show Mem _ _ [ownV o29 c29 (hitsN p (25 * i + j + 1))] w'
              rw [hap, he]
              exact hm.sub (.cons _ (.cons _ (.refl _)))), (by repeat (first | exact Agree.havoc _ _ _ | refine Agree.updN ?_ | refine Agree.upd rfl ?_ | refine Agree.updL rfl ?_ | refine Agree.havoc2 rfl ?_)), ⟨slv_eq (by show _ = (hitsN p (25 * i + j + 1)).length; rw [hap]; simp), int_eq (by dsimp only; omega), trivial⟩⟩
        · skip
          have hhit : hitB p (bx (25 * i + j)) = false := by rw [he, hhc, h24, Bool.and_false]
          have hap := hitsN_no hhit
          refine Plan.pick (v := .bool _) rfl rfl rfl rfl ?_
          refine Plan.done ?_
          refine HW.cond_false rfl ?_
          refine HW.skip ?_
          refine HW.region [(0, .st), (1, .st), (2, .st)] rfl rfl ?_
          refine Plan.move (v := .int _ _) rfl rfl rfl ?_
          refine Plan.arithI rfl rfl rfl rfl rfl (by omega) ?_
          refine Plan.assign (v := .int _ _) rfl rfl rfl ?_
          refine Plan.done ?_
          exact ⟨⟨j + 1, o2, c2⟩, by dsimp only; omega, hj, rfl, (fun w' hm => by
              show Mem _ _ [ownV o2 c2 (hitsN p (25 * i + j + 1))] w'
              rw [hap]
              exact hm.sub (.cons _ (.refl _))), (by repeat (first | exact Agree.havoc _ _ _ | refine Agree.updN ?_ | refine Agree.upd rfl ?_ | refine Agree.updL rfl ?_ | refine Agree.havoc2 rfl ?_)), ⟨slv_eq (by show _ = (hitsN p (25 * i + j + 1)).length; rw [hap]), int_eq (by dsimp only; omega), trivial⟩⟩
      · skip
        have hhit : hitB p (bx (25 * i + j)) = false := by rw [he, hhc, decide_eq_false (by simpa using h20), Bool.false_and]
        have hap := hitsN_no hhit
        refine Plan.move (v := .bool _) rfl rfl rfl ?_
        refine Plan.no rfl rfl ?_
        refine Plan.no rfl rfl ?_
        refine Plan.noE rfl rfl ?_
        refine Plan.pick (v := .bool _) rfl rfl rfl rfl ?_
        refine Plan.done ?_
        refine HW.cond_false rfl ?_
        refine HW.skip ?_
        refine HW.region [(0, .st), (1, .st), (2, .st)] rfl rfl ?_
        refine Plan.move (v := .int _ _) rfl rfl rfl ?_
        refine Plan.arithI rfl rfl rfl rfl rfl (by omega) ?_
        refine Plan.assign (v := .int _ _) rfl rfl rfl ?_
        refine Plan.done ?_
        exact ⟨⟨j + 1, o2, c2⟩, by dsimp only; omega, hj, rfl, (fun w' hm => by
            show Mem _ _ [ownV o2 c2 (hitsN p (25 * i + j + 1))] w'
            rw [hap]
            exact hm.sub (.cons _ (.refl _))), (by repeat (first | exact Agree.havoc _ _ _ | refine Agree.updN ?_ | refine Agree.upd rfl ?_ | refine Agree.updL rfl ?_ | refine Agree.havoc2 rfl ?_)), ⟨slv_eq (by show _ = (hitsN p (25 * i + j + 1)).length; rw [hap]), int_eq (by dsimp only; omega), trivial⟩⟩
    · replace h12 := of_decide_eq_false h12
      have hje : j = 25 := by omega
      subst hje
      refine Plan.done ?_
      refine HW.cond_false rfl ?_
      refine HW.exit ?_
      refine HW.region [(0, .st), (1, .st), (2, .st)] rfl rfl ?_
      refine Plan.move (v := .int _ _) rfl rfl rfl ?_
      refine Plan.arithI rfl rfl rfl rfl rfl (by omega) ?_
      refine Plan.assign (v := .int _ _) rfl rfl rfl ?_
      refine Plan.done ?_
      exact ⟨⟨i + 1, o2, c2⟩, by dsimp only; omega, hi, rfl, Ent.sub (.refl _), (by repeat (first | exact Agree.havoc _ _ _ | refine Agree.updN ?_ | refine Agree.upd rfl ?_ | refine Agree.updL rfl ?_ | refine Agree.havoc2 rfl ?_)), ⟨rfl, int_eq (by dsimp only; omega), trivial⟩⟩
  · replace h8 := of_decide_eq_false h8
    have hie : i = 25 := by omega
    subst hie
    refine Plan.done ?_
    refine HW.cond_false rfl ?_
    refine HW.exit ?_
    refine HW.seq (HW.region [(0, .st), (1, .st)] rfl rfl ?_)
    refine Plan.move (v := .slice _ _ _) rfl rfl rfl ?_
    refine Plan.assign (v := .slice _ _ _) rfl rfl rfl ?_
    refine Plan.done ?_
    exact HW.ret ⟨rfl, _, [ownV o c1 (hits p)], .tmp rfl .nil, .refl _, o, c1, rfl, rfl⟩

theorem free_ct (A : Option Addr) (l : List Pt) (a b d : Int) (n c : Nat) (w : World) (hp : Rd enc 2 w A l) (hn : n = l.length) (hlen : l.length ≤ 1000000) (hg : goodG (a, b, d) = true) (hbd : ∀ v ∈ l, Bd 100000 v.1 ∧ Bd 100000 v.2) :
    Ct P 45 #[.slice A n c, gdv a b d] w [] (fun r L => r = .bool (!l.any (hasG (a, b, d))) ∧ L = []) := by
  subst hn
  have ht : ∀ {x : Bool}, x = !l.any (hasG (a, b, d)) → (Value.bool x = .bool (!l.any (hasG (a, b, d)))) := fun h => by rw [h]
  refine Ct.of_body (rs := [.tmp 4]) (N := 18) (L := []) Try.func45 rfl rfl rfl (by kernel_rfl) rfl (Mem.refl w) ?_
  refine HW.seq (HW.region [(0, .ef), (1, .st)] rfl rfl ?_)
  refine Plan.boxA rfl rfl rfl fun b3 => ?_
  refine Plan.assign (v := .bool _) rfl rfl rfl ?_
  refine Plan.done ?_
  refine HW.seq ?_
  refine HW.seq (HW.region [(0, .st)] rfl rfl ?_)
  refine Plan.assign (v := .int _ _) rfl rfl rfl ?_
  refine Plan.done ?_
  refine HW.block ?_
  refine HW.loopC (G := Nat) [4, 5, 6, 7, 8, 9, 10, 11, 12, 13, 14, 15, 16, 17] (fun g => [(5, int g)]) (fun g => g ≤ l.length ∧ ∀ j (h : j < l.length), j < g → hasG (a, b, d) l[j] = false) (fun g => l.length - g) (0) ⟨rfl, trivial⟩ (⟨Nat.zero_le _, fun j h hj => absurd hj (Nat.not_lt_zero _)⟩) (fun g F hok => ?_)
  obtain ⟨hk, hno⟩ := hok
  refine HW.seq ?_
  refine HW.seq (HW.region [(0, .st), (1, .st), (2, .st), (3, .st)] rfl rfl ?_)
  refine Plan.move (v := .int _ _) rfl rfl rfl ?_
  refine Plan.move (v := .slice _ _ _) rfl rfl rfl ?_
  refine Plan.len rfl rfl slV rfl ?_
  refine Plan.cmp2 rfl rfl rfl rfl rfl (fun h9 => ?_) (fun h9 => ?_)
  · replace h9 := of_decide_eq_true h9
    have hlt : g < l.length := by omega
    obtain ⟨ad, rfl, hl1⟩ := hp g hlt
    have hbg := hbd _ (List.getElem_mem hlt)
    refine Plan.done ?_
    refine HW.cond_true rfl ?_
    refine HW.skip ?_
    refine HW.seq ?_
    refine HW.block ?_
    refine HW.seq (HW.region_any [] [(0, .st), (1, .st), (2, .st), (3, .st), (4, .st), (5, .ef)] mix (by kernel_rfl) (fun _ _ _ _ _ h => h) (zeros rfl) ?_)
    refine Plan.loadAll 0 rfl rfl aggGrid sizGrid rfl rfl rfl ?_
    refine Plan.move (v := .slice _ _ _) rfl rfl rfl ?_
    refine Plan.move (v := .int _ _) rfl rfl rfl ?_
    refine Plan.indexN (g) rfl rfl slV sizV rfl rfl rfl rfl (hlt) ?_
    refine Plan.loadAgg rfl rfl aggV sizV rfl (Sees.old hl1 (by simp)) rfl ?_
    refine Plan.callF [] 0 rfl rfl rfl (.inl rfl) (by simp) (fun w hm => inR_ct a b d _ _ w hg hbg.1 hbg.2) ?_   -- tinplate/tinplateref04.In
    rintro v Ln ⟨rfl, rfl⟩
    refine Plan.splitB (fun h17 => ?_) (fun h17 => ?_)
    · skip
      refine Plan.done ?_
      refine HW.cond_true rfl ?_
      refine HW.seq (HW.region [(0, .st)] rfl rfl ?_)
      refine Plan.assign (v := .bool _) rfl rfl rfl ?_
      refine Plan.done ?_
      exact HW.ret ⟨rfl, _, [], .tmp rfl .nil, List.nil_sublist _, ht (by rw [List.any_eq_true.2 ⟨l[g], List.getElem_mem hlt, h17⟩]; rfl), rfl⟩
    · skip
      refine Plan.done ?_
      refine HW.cond_false rfl ?_
      refine HW.skip ?_
      refine HW.region [(0, .st), (1, .st), (2, .st)] rfl rfl ?_
      refine Plan.move (v := .int _ _) rfl rfl rfl ?_
      refine Plan.arithI rfl rfl rfl rfl rfl (by omega) ?_
      refine Plan.assign (v := .int _ _) rfl rfl rfl ?_
      refine Plan.done ?_
      exact ⟨g + 1, by simp only; omega, ⟨hlt, fun j hj hjk => by rcases Nat.lt_succ_iff_lt_or_eq.1 hjk with h | rfl <;> (first | exact hno j hj h | exact h17)⟩, rfl, Ent.sub (.refl _), (by repeat (first | exact Agree.havoc _ _ _ | refine Agree.updN ?_ | refine Agree.upd rfl ?_ | refine Agree.updL rfl ?_ | refine Agree.havoc2 rfl ?_)), ⟨rfl, trivial⟩⟩
  · replace h9 := of_decide_eq_false h9
    have hall : l.any (hasG (a, b, d)) = false := by
      rw [List.any_eq_false]
      intro q hq
      obtain ⟨j, hj, rfl⟩ := List.getElem_of_mem hq
      rw [hno j hj (by omega)]
      decide
    refine Plan.done ?_
    refine HW.cond_false rfl ?_
    refine HW.exit ?_
    refine HW.seq (HW.region [(0, .st)] rfl rfl ?_)
    refine Plan.assign (v := .bool _) rfl rfl rfl ?_
    refine Plan.done ?_
    exact HW.ret ⟨rfl, _, [], .tmp rfl .nil, List.nil_sublist _, ht (by rw [hall]; rfl), rfl⟩

end Go.Proofs.Ytjmklbkcpjmcaaa.V
