/-
  The specification's helpers (package tinplateref03): Good, Twice, Lower, floor, area, place, Valid.
-/
import Derived.Test.YtjmklbkcpjmcaaaVs
import Derived.Test.YtjmklbkcpjmcaaaP1
namespace Go.Proofs.Ytjmklbkcpjmcaaa.V
open Go Go.RowKit Go.Proofs.Ytjmklbkcpjmcaaa.H
set_option linter.unusedVariables false
set_option linter.unusedSimpArgs false

theorem Good_ct (v : Pt) (w : World) : Ct P 96 #[vc v] w [] (fun r L => r = .bool (okB v.1 v.2) ∧ L = []) := by
  have ht : ∀ {p : Bool}, p = okB v.1 v.2 → (Value.bool p = .bool (okB v.1 v.2)) := fun h => by rw [h]
  refine Ct.of_body (rs := [.tmp 2]) (N := 21) (L := []) Try.func96 rfl rfl rfl (by kernel_rfl) rfl (Mem.refl w) ?_
  refine HW.seq (HW.region [(0, .ef), (1, .st)] rfl rfl ?_)
  refine Plan.boxA rfl rfl rfl fun b1 => ?_
  refine Plan.assign (v := .bool _) rfl rfl rfl ?_
  refine Plan.done ?_
  refine HW.seq (HW.region [(0, .st), (1, .st), (2, .st), (3, .st), (4, .st), (5, .st), (6, .st), (7, .st), (8, .st), (9, .st), (10, .st), (11, .st), (12, .st), (13, .st), (14, .st), (15, .st), (16, .st), (17, .st), (18, .st)] rfl rfl ?_)
  refine Plan.fieldAddr rfl rfl fldV0 rfl ?_
  refine Plan.load (v := .int _ _) rfl rfl aggI rfl (Sees.one 0 rfl rfl) ?_
  refine Plan.cmp2 rfl rfl rfl rfl rfl (fun h5 => ?_) (fun h5 => ?_)
  · replace h5 := of_decide_eq_true h5
    refine Plan.move (v := .bool _) rfl rfl rfl ?_
    refine Plan.fieldAddr rfl rfl fldV0 rfl ?_
    refine Plan.load (v := .int _ _) rfl rfl aggI rfl (Sees.one 0 rfl rfl) ?_
    refine Plan.cmp2 rfl rfl rfl rfl rfl (fun h9 => ?_) (fun h9 => ?_)
    · replace h9 := of_decide_eq_true h9
      refine Plan.pick (v := .bool _) rfl rfl rfl rfl ?_
      refine Plan.move (v := .bool _) rfl rfl rfl ?_
      refine Plan.fieldAddr rfl rfl fldV1 rfl ?_
      refine Plan.load (v := .int _ _) rfl rfl aggI rfl (Sees.one 0 rfl rfl) ?_
      refine Plan.cmp2 rfl rfl rfl rfl rfl (fun h14 => ?_) (fun h14 => ?_)
      · replace h14 := of_decide_eq_true h14
        refine Plan.pick (v := .bool _) rfl rfl rfl rfl ?_
        refine Plan.move (v := .bool _) rfl rfl rfl ?_
        refine Plan.fieldAddr rfl rfl fldV1 rfl ?_
        refine Plan.load (v := .int _ _) rfl rfl aggI rfl (Sees.one 0 rfl rfl) ?_
        refine Plan.cmp2 rfl rfl rfl rfl rfl (fun h19 => ?_) (fun h19 => ?_)
        · replace h19 := of_decide_eq_true h19
          refine Plan.pick (v := .bool _) rfl rfl rfl rfl ?_
          refine Plan.assign (v := .bool _) rfl rfl rfl ?_
          refine Plan.done ?_
          exact HW.ret ⟨rfl, _, [], .tmp rfl .nil, List.nil_sublist _, ht (by simp [okB]; omega), rfl⟩
        · replace h19 := of_decide_eq_false h19
          refine Plan.pick (v := .bool _) rfl rfl rfl rfl ?_
          refine Plan.assign (v := .bool _) rfl rfl rfl ?_
          refine Plan.done ?_
          exact HW.ret ⟨rfl, _, [], .tmp rfl .nil, List.nil_sublist _, ht (by simp [okB]; omega), rfl⟩
      · replace h14 := of_decide_eq_false h14
        refine Plan.pick (v := .bool _) rfl rfl rfl rfl ?_
        refine Plan.move (v := .bool _) rfl rfl rfl ?_
        refine Plan.no rfl rfl ?_
        refine Plan.no rfl rfl ?_
        refine Plan.no rfl rfl ?_
        refine Plan.pick (v := .bool _) rfl rfl rfl rfl ?_
        refine Plan.assign (v := .bool _) rfl rfl rfl ?_
        refine Plan.done ?_
        exact HW.ret ⟨rfl, _, [], .tmp rfl .nil, List.nil_sublist _, ht (by simp [okB]; omega), rfl⟩
    · replace h9 := of_decide_eq_false h9
      refine Plan.pick (v := .bool _) rfl rfl rfl rfl ?_
      refine Plan.move (v := .bool _) rfl rfl rfl ?_
      refine Plan.no rfl rfl ?_
      refine Plan.no rfl rfl ?_
      refine Plan.no rfl rfl ?_
      refine Plan.pick (v := .bool _) rfl rfl rfl rfl ?_
      refine Plan.move (v := .bool _) rfl rfl rfl ?_
      refine Plan.no rfl rfl ?_
      refine Plan.no rfl rfl ?_
      refine Plan.no rfl rfl ?_
      refine Plan.pick (v := .bool _) rfl rfl rfl rfl ?_
      refine Plan.assign (v := .bool _) rfl rfl rfl ?_
      refine Plan.done ?_
      exact HW.ret ⟨rfl, _, [], .tmp rfl .nil, List.nil_sublist _, ht (by simp [okB]; omega), rfl⟩
  · replace h5 := of_decide_eq_false h5
    refine Plan.move (v := .bool _) rfl rfl rfl ?_
    refine Plan.no rfl rfl ?_
    refine Plan.no rfl rfl ?_
    refine Plan.no rfl rfl ?_
    refine Plan.pick (v := .bool _) rfl rfl rfl rfl ?_
    refine Plan.move (v := .bool _) rfl rfl rfl ?_
    refine Plan.no rfl rfl ?_
    refine Plan.no rfl rfl ?_
    refine Plan.no rfl rfl ?_
    refine Plan.pick (v := .bool _) rfl rfl rfl rfl ?_
    refine Plan.move (v := .bool _) rfl rfl rfl ?_
    refine Plan.no rfl rfl ?_
    refine Plan.no rfl rfl ?_
    refine Plan.no rfl rfl ?_
    refine Plan.pick (v := .bool _) rfl rfl rfl rfl ?_
    refine Plan.assign (v := .bool _) rfl rfl rfl ?_
    refine Plan.done ?_
    exact HW.ret ⟨rfl, _, [], .tmp rfl .nil, List.nil_sublist _, ht (by simp [okB]; omega), rfl⟩

theorem Lower_ct (a b : Pt) (w : World) : Ct P 103 #[vc a, vc b] w [] (fun r L => r = .bool (decide (lt2 a b)) ∧ L = []) := by
  have ht : ∀ {p : Bool}, p = decide (lt2 a b) → (Value.bool p = .bool (decide (lt2 a b))) := fun h => by rw [h]
  refine Ct.of_body (rs := [.tmp 4]) (N := 24) (L := []) Try.func103 rfl rfl rfl (by kernel_rfl) rfl (Mem.refl w) ?_
  refine HW.seq (HW.region [(0, .ef), (1, .ef), (2, .st)] rfl rfl ?_)
  refine Plan.boxA rfl rfl rfl fun b2 => ?_
  refine Plan.boxA rfl rfl rfl fun b3 => ?_
  refine Plan.assign (v := .bool _) rfl rfl rfl ?_
  refine Plan.done ?_
  refine HW.seq (HW.region [(0, .st), (1, .st), (2, .st), (3, .st), (4, .st), (5, .st), (6, .st), (7, .st), (8, .st), (9, .st), (10, .st), (11, .st), (12, .st), (13, .st), (14, .st), (15, .st), (16, .st), (17, .st), (18, .st), (19, .st)] rfl rfl ?_)
  refine Plan.fieldAddr rfl rfl fldV1 rfl ?_
  refine Plan.load (v := .int _ _) rfl rfl aggI rfl (Sees.one 1 rfl rfl) ?_
  refine Plan.fieldAddr rfl rfl fldV1 rfl ?_
  refine Plan.load (v := .int _ _) rfl rfl aggI rfl (Sees.one 0 rfl rfl) ?_
  refine Plan.cmp2 rfl rfl rfl rfl rfl (fun h9 => ?_) (fun h9 => ?_)
  · replace h9 := of_decide_eq_true h9
    refine Plan.move (v := .bool _) rfl rfl rfl ?_
    refine Plan.no rfl rfl ?_
    refine Plan.no rfl rfl ?_
    refine Plan.no rfl rfl ?_
    refine Plan.no rfl rfl ?_
    refine Plan.no rfl rfl ?_
    refine Plan.no rfl rfl ?_
    refine Plan.no rfl rfl ?_
    refine Plan.no rfl rfl ?_
    refine Plan.no rfl rfl ?_
    refine Plan.no rfl rfl ?_
    refine Plan.no rfl rfl ?_
    refine Plan.no rfl rfl ?_
    refine Plan.pick (v := .bool _) rfl rfl rfl rfl ?_
    refine Plan.assign (v := .bool _) rfl rfl rfl ?_
    refine Plan.done ?_
    exact HW.ret ⟨rfl, _, [], .tmp rfl .nil, List.nil_sublist _, ht (by symm; first | exact decide_eq_true (by unfold lt2; omega) | exact decide_eq_false (by unfold lt2; omega)), rfl⟩
  · replace h9 := of_decide_eq_false h9
    refine Plan.move (v := .bool _) rfl rfl rfl ?_
    refine Plan.fieldAddr rfl rfl fldV1 rfl ?_
    refine Plan.load (v := .int _ _) rfl rfl aggI rfl (Sees.one 1 rfl rfl) ?_
    refine Plan.fieldAddr rfl rfl fldV1 rfl ?_
    refine Plan.load (v := .int _ _) rfl rfl aggI rfl (Sees.one 0 rfl rfl) ?_
    refine Plan.cmp2 rfl rfl rfl rfl rfl (fun h15 => ?_) (fun h15 => ?_)
    · replace h15 := of_decide_eq_true h15
      refine Plan.move (v := .bool _) rfl rfl rfl ?_
      refine Plan.fieldAddr rfl rfl fldV0 rfl ?_
      refine Plan.load (v := .int _ _) rfl rfl aggI rfl (Sees.one 1 rfl rfl) ?_
      refine Plan.fieldAddr rfl rfl fldV0 rfl ?_
      refine Plan.load (v := .int _ _) rfl rfl aggI rfl (Sees.one 0 rfl rfl) ?_
      refine Plan.cmp2 rfl rfl rfl rfl rfl (fun h21 => ?_) (fun h21 => ?_)
      · replace h21 := of_decide_eq_true h21
        refine Plan.pick (v := .bool _) rfl rfl rfl rfl ?_
        refine Plan.pick (v := .bool _) rfl rfl rfl rfl ?_
        refine Plan.assign (v := .bool _) rfl rfl rfl ?_
        refine Plan.done ?_
        exact HW.ret ⟨rfl, _, [], .tmp rfl .nil, List.nil_sublist _, ht (by symm; first | exact decide_eq_true (by unfold lt2; omega) | exact decide_eq_false (by unfold lt2; omega)), rfl⟩
      · replace h21 := of_decide_eq_false h21
        refine Plan.pick (v := .bool _) rfl rfl rfl rfl ?_
        refine Plan.pick (v := .bool _) rfl rfl rfl rfl ?_
        refine Plan.assign (v := .bool _) rfl rfl rfl ?_
        refine Plan.done ?_
        exact HW.ret ⟨rfl, _, [], .tmp rfl .nil, List.nil_sublist _, ht (by symm; first | exact decide_eq_true (by unfold lt2; omega) | exact decide_eq_false (by unfold lt2; omega)), rfl⟩
    · replace h15 := of_decide_eq_false h15
      refine Plan.move (v := .bool _) rfl rfl rfl ?_
      refine Plan.no rfl rfl ?_
      refine Plan.no rfl rfl ?_
      refine Plan.no rfl rfl ?_
      refine Plan.no rfl rfl ?_
      refine Plan.no rfl rfl ?_
      refine Plan.pick (v := .bool _) rfl rfl rfl rfl ?_
      refine Plan.pick (v := .bool _) rfl rfl rfl rfl ?_
      refine Plan.assign (v := .bool _) rfl rfl rfl ?_
      refine Plan.done ?_
      exact HW.ret ⟨rfl, _, [], .tmp rfl .nil, List.nil_sublist _, ht (by symm; first | exact decide_eq_true (by unfold lt2; omega) | exact decide_eq_false (by unfold lt2; omega)), rfl⟩

theorem Twice_ct (a b c : Pt) (w : World) (ha : Bd2 100000 a.1 a.2) (hb : Bd2 100000 b.1 b.2) (hc : Bd2 100000 c.1 c.2) : Ct P 104 #[vc a, vc b, vc c] w [] (fun r L => r = int (trn a b c) ∧ L = []) := by
  obtain ⟨⟨_, _⟩, ⟨_, _⟩⟩ := ha
  obtain ⟨⟨_, _⟩, ⟨_, _⟩⟩ := hb
  obtain ⟨⟨_, _⟩, ⟨_, _⟩⟩ := hc
  have m1 := mul_bd (a := b.1 - a.1) (b := c.2 - a.2) (N := 200000) (M := 200000) ⟨by omega, by omega⟩ ⟨by omega, by omega⟩
  have m2 := mul_bd (a := b.2 - a.2) (b := c.1 - a.1) (N := 200000) (M := 200000) ⟨by omega, by omega⟩ ⟨by omega, by omega⟩
  refine Ct.of_body (rs := [.tmp 6]) (N := 30) (L := []) Try.func104 rfl rfl rfl (by kernel_rfl) rfl (Mem.refl w) ?_
  refine HW.seq (HW.region [(0, .ef), (1, .ef), (2, .ef), (3, .st)] rfl rfl ?_)
  refine Plan.boxA rfl rfl rfl fun b3 => ?_
  refine Plan.boxA rfl rfl rfl fun b4 => ?_
  refine Plan.boxA rfl rfl rfl fun b5 => ?_
  refine Plan.assign (v := .int _ _) rfl rfl rfl ?_
  refine Plan.done ?_
  refine HW.seq (HW.region [(0, .st), (1, .st), (2, .st), (3, .st), (4, .st), (5, .st), (6, .st), (7, .st), (8, .st), (9, .st), (10, .st), (11, .st), (12, .st), (13, .st), (14, .st), (15, .st), (16, .st), (17, .st), (18, .st), (19, .st), (20, .st), (21, .st), (22, .st), (23, .st)] rfl rfl ?_)
  refine Plan.fieldAddr rfl rfl fldV0 rfl ?_
  refine Plan.load (v := .int _ _) rfl rfl aggI rfl (Sees.one 1 rfl rfl) ?_
  refine Plan.fieldAddr rfl rfl fldV0 rfl ?_
  refine Plan.load (v := .int _ _) rfl rfl aggI rfl (Sees.one 2 rfl rfl) ?_
  refine Plan.arithI rfl rfl rfl rfl rfl (by omega) ?_
  refine Plan.fieldAddr rfl rfl fldV1 rfl ?_
  refine Plan.load (v := .int _ _) rfl rfl aggI rfl (Sees.one 0 rfl rfl) ?_
  refine Plan.fieldAddr rfl rfl fldV1 rfl ?_
  refine Plan.load (v := .int _ _) rfl rfl aggI rfl (Sees.one 2 rfl rfl) ?_
  refine Plan.arithI rfl rfl rfl rfl rfl (by omega) ?_
  refine Plan.arithI rfl rfl rfl rfl rfl (by omega) ?_
  refine Plan.fieldAddr rfl rfl fldV1 rfl ?_
  refine Plan.load (v := .int _ _) rfl rfl aggI rfl (Sees.one 1 rfl rfl) ?_
  refine Plan.fieldAddr rfl rfl fldV1 rfl ?_
  refine Plan.load (v := .int _ _) rfl rfl aggI rfl (Sees.one 2 rfl rfl) ?_
  refine Plan.arithI rfl rfl rfl rfl rfl (by omega) ?_
  refine Plan.fieldAddr rfl rfl fldV0 rfl ?_
  refine Plan.load (v := .int _ _) rfl rfl aggI rfl (Sees.one 0 rfl rfl) ?_
  refine Plan.fieldAddr rfl rfl fldV0 rfl ?_
  refine Plan.load (v := .int _ _) rfl rfl aggI rfl (Sees.one 2 rfl rfl) ?_
  refine Plan.arithI rfl rfl rfl rfl rfl (by omega) ?_
  refine Plan.arithI rfl rfl rfl rfl rfl (by omega) ?_
  refine Plan.arithI rfl rfl rfl rfl rfl (by omega) ?_
  refine Plan.assign (v := .int _ _) rfl rfl rfl ?_
  refine Plan.done ?_
  exact HW.ret ⟨rfl, _, [], .tmp rfl .nil, List.nil_sublist _, rfl, rfl⟩

theorem trn_bd1 {a b c : Pt} (ha : Bd2 100000 a.1 a.2) (hb : Bd2 100000 b.1 b.2) (hc : Bd2 100000 c.1 c.2) : -80000000000 ≤ trn a b c ∧ trn a b c ≤ 80000000000 := by
  obtain ⟨⟨_, _⟩, ⟨_, _⟩⟩ := ha
  obtain ⟨⟨_, _⟩, ⟨_, _⟩⟩ := hb
  obtain ⟨⟨_, _⟩, ⟨_, _⟩⟩ := hc
  have m1 := mul_bd (a := b.1 - a.1) (b := c.2 - a.2) (N := 200000) (M := 200000) ⟨by omega, by omega⟩ ⟨by omega, by omega⟩
  have m2 := mul_bd (a := b.2 - a.2) (b := c.1 - a.1) (N := 200000) (M := 200000) ⟨by omega, by omega⟩ ⟨by omega, by omega⟩
  unfold trn turnI crossI
  omega

theorem ediv_of {a b q r : Int} (h : a = b * q + r) (h0 : 0 ≤ r) (h1 : r < b) : a / b = q := by
  rw [h, Int.add_comm, Int.add_mul_ediv_left _ _ (by omega), Int.ediv_eq_zero_of_lt h0 h1]; omega

theorem tdiv_floor {a b : Int} (hb : 0 < b) : (Int.tmod a b < 0 → a / b = Int.tdiv a b - 1) ∧ (¬ Int.tmod a b < 0 → a / b = Int.tdiv a b) := by
  have h1 := Int.mul_tdiv_add_tmod a b
  have h2 : (Int.tmod a b).natAbs < b.natAbs := by
    rw [Int.natAbs_tmod]
    exact Nat.mod_lt _ (by omega)
  constructor
  · intro h
    refine ediv_of (r := Int.tmod a b + b) ?_ (by omega) (by omega)
    rw [Int.mul_sub, Int.mul_one]; omega
  · intro h
    exact ediv_of (r := Int.tmod a b) (by omega) (by omega) (by omega)

/-- the fan of triangles at the first vertex -/
def fanT (ps : List Pt) (i : Nat) : Int := trn (nth ps 0) (nth ps (i + 1)) (nth ps (i + 2))
theorem fan_area {ps : List Pt} (h : 3 ≤ ps.length) : sumN (fanT ps) (ps.length - 2) = areaC ps := by
  obtain ⟨n, hn⟩ : ∃ n, ps.length = n + 2 := ⟨ps.length - 2, by omega⟩
  have e : sumN (fanT ps) (ps.length - 2) = sumN (fun i => crossP (nth ps (1 + i)) (nx ps (1 + i)) - (crossP (nth ps 0) (nth ps (i + 1 + 1)) - crossP (nth ps 0) (nth ps (i + 1)))) (ps.length - 2) := sumN_congr _ fun i hi => by
    have e1 : nx ps (1 + i) = nth ps (i + 2) := by unfold nx; rw [Nat.mod_eq_of_lt (by omega)]; congr 1; omega
    rw [e1, Nat.add_comm 1 i]
    unfold fanT trn turnI crossP crossI
    rw [show i + 1 + 1 = i + 2 from rfl]
    grind
  rw [e, sumN_minus (fun i => crossP (nth ps (1 + i)) (nx ps (1 + i))), sumN_tele (fun i => crossP (nth ps 0) (nth ps (i + 1)))]
  unfold areaC
  rw [hn, sumN, sumN_first (fun k => crossP (nth ps k) (nx ps k))]
  have e2 : nx ps 0 = nth ps (0 + 1) := by unfold nx; rw [Nat.mod_eq_of_lt (by omega)]
  have e3 : nx ps (n + 1) = nth ps 0 := by unfold nx; rw [show n + 1 + 1 = ps.length by omega, Nat.mod_self]
  rw [e2, e3, show n + 2 - 2 = n by omega]
  have e4 : crossP (nth ps (n + 1)) (nth ps 0) = - crossP (nth ps 0) (nth ps (n + 1)) := by unfold crossP crossI; grind
  omega

structure RPl where
  k : Nat
  at' : Int

theorem rplace_ct (A : Option Addr) (ps : List Pt) (v : Pt) (n c : Nat) (w : World) (hp : Rd enc 2 w A ps) (hn : n = ps.length) (hlen : ps.length ≤ 1000000) (hbd : ∀ q ∈ ps, Bd2 100000 q.1 q.2) (hv : Bd2 100000 v.1 v.2) :
    Ct P 116 #[.slice A n c, vc v] w [] (fun r L => r = int (placeF ps v) ∧ L = []) := by
  subst hn
  refine Ct.of_body (rs := [.tmp 4]) (N := 33) (L := []) Try.func116 rfl rfl rfl (by kernel_rfl) rfl (Mem.refl w) ?_
  refine HW.seq (HW.region [(0, .ef), (1, .st)] rfl rfl ?_)
  refine Plan.boxA rfl rfl rfl fun b3 => ?_
  refine Plan.assign (v := .int _ _) rfl rfl rfl ?_
  refine Plan.done ?_
  refine HW.seq (HW.region [(0, .st)] rfl rfl ?_)
  refine Plan.assign (v := .int _ _) rfl rfl rfl ?_
  refine Plan.done ?_
  refine HW.seq ?_
  refine HW.seq (HW.region [(0, .st)] rfl rfl ?_)
  refine Plan.assign (v := .int _ _) rfl rfl rfl ?_
  refine Plan.done ?_
  refine HW.block ?_
  refine HW.loopC (G := RPl) [4, 5, 6, 7, 8, 9, 10, 11, 12, 13, 14, 15, 16, 17, 18, 19, 20, 21, 22, 23, 24, 25, 26, 27, 28, 29, 30, 31] (fun g => [(6, int g.k), (5, int g.at')]) (fun g => g.k ≤ ps.length ∧ (∀ j, j < g.k → 0 ≤ side ps v j) ∧ ((g.at' = 1 ∧ ∀ j, j < g.k → side ps v j ≠ 0) ∨ (g.at' = 0 ∧ ∃ j, j < g.k ∧ side ps v j = 0))) (fun g => ps.length - g.k) (⟨0, 1⟩) ⟨rfl, rfl, trivial⟩ (⟨Nat.zero_le _, fun j hj => absurd hj (Nat.not_lt_zero _), .inl ⟨rfl, fun j hj => absurd hj (Nat.not_lt_zero _)⟩⟩) (fun g F hok => ?_)
  obtain ⟨k, at1⟩ := g
  obtain ⟨hk, hpos, hat⟩ := hok
  simp only at hk hpos hat
  dsimp only
  refine HW.seq ?_
  refine HW.seq (HW.region [(0, .st), (1, .st), (2, .st), (3, .st)] rfl rfl ?_)
  refine Plan.move (v := .int _ _) rfl rfl rfl ?_
  refine Plan.move (v := .slice _ _ _) rfl rfl rfl ?_
  refine Plan.len rfl rfl slV rfl ?_
  refine Plan.cmp2 rfl rfl rfl rfl rfl (fun h11 => ?_) (fun h11 => ?_)
  · replace h11 := of_decide_eq_true h11
    have hlt : k < ps.length := by omega
    have hlt2 : (k + 1) % ps.length < ps.length := Nat.mod_lt _ (by omega)
    have hmod : ((k : Int) + 1) % (ps.length : Int) = (((k + 1) % ps.length : Nat) : Int) := by rw [Int.natCast_emod, Int.natCast_add]; rfl
    obtain ⟨a1, rfl, l1⟩ := hp k hlt
    obtain ⟨a2, e2, l2⟩ := hp ((k + 1) % ps.length) hlt2
    obtain rfl : a1 = a2 := by injection e2
    refine Plan.done ?_
    refine HW.cond_true rfl ?_
    refine HW.skip ?_
    refine HW.seq ?_
    refine HW.block ?_
    refine HW.seq (HW.region_any [] [(0, .st), (1, .st), (2, .st), (3, .st), (4, .st), (5, .st), (6, .st), (7, .st), (8, .st), (9, .st), (10, .st), (11, .st), (12, .st), (13, .ef), (14, .st)] mix (by kernel_rfl) (fun _ _ _ _ _ h => h) (zeros rfl) ?_)
    refine Plan.move (v := .slice _ _ _) rfl rfl rfl ?_
    refine Plan.move (v := .int _ _) rfl rfl rfl ?_
    refine Plan.indexN (k) rfl rfl slV sizV rfl rfl rfl rfl (hlt) ?_
    refine Plan.loadAgg rfl rfl aggV sizV rfl (Sees.old l1 (by simp)) rfl ?_
    refine Plan.move (v := .slice _ _ _) rfl rfl rfl ?_
    refine Plan.move (v := .int _ _) rfl rfl rfl ?_
    refine Plan.arithI rfl rfl rfl rfl rfl (by omega) ?_
    refine Plan.move (v := .slice _ _ _) rfl rfl rfl ?_
    refine Plan.len rfl rfl slV rfl ?_
    refine Plan.rem rfl rfl rfl rfl (by omega) ?_
    refine Plan.indexN ((k + 1) % ps.length) rfl rfl slV sizV rfl rfl rfl hmod (hlt2) ?_
    refine Plan.loadAgg rfl rfl aggV sizV rfl (Sees.old l2 (by simp)) rfl ?_
    refine Plan.loadAll 0 rfl rfl aggV sizV rfl rfl rfl ?_
    refine Plan.callF [] 0 rfl rfl rfl (.inl rfl) (by simp) (fun w hm => Twice_ct _ _ _ w (hbd _ (List.getElem_mem hlt)) (hbd _ (List.getElem_mem hlt2)) hv) ?_   -- tinplate/tinplateref03.Twice
    rintro v Ln ⟨rfl, rfl⟩
    have hside : trn ps[k] ps[(k + 1) % ps.length] v = side ps v k := by unfold side nx; rw [nth_get hlt, nth_get hlt2]
    rw [hside]
    refine Plan.assign (v := .int _ _) rfl rfl rfl ?_
    refine Plan.done ?_
    refine HW.seq ?_
    refine HW.seq (HW.region [(0, .st), (1, .st)] rfl rfl ?_)
    refine Plan.move (v := .int _ _) rfl rfl rfl ?_
    refine Plan.cmp2 rfl rfl rfl rfl rfl (fun h29 => ?_) (fun h29 => ?_)
    · replace h29 := of_decide_eq_true h29
      refine Plan.done ?_
      refine HW.cond_true rfl ?_
      refine HW.seq (HW.region [(0, .st)] rfl rfl ?_)
      refine Plan.assign (v := .int _ _) rfl rfl rfl ?_
      refine Plan.done ?_
      exact HW.ret ⟨rfl, _, [], .tmp rfl .nil, List.nil_sublist _, (by rw [placeF_neg hlt h29]; rfl), rfl⟩
    · replace h29 := of_decide_eq_false h29
      refine Plan.done ?_
      refine HW.cond_false rfl ?_
      refine HW.skip ?_
      refine HW.seq (HW.region [(0, .st), (1, .st)] rfl rfl ?_)
      refine Plan.move (v := .int _ _) rfl rfl rfl ?_
      refine Plan.cmp2 rfl rfl rfl rfl rfl (fun h31 => ?_) (fun h31 => ?_)
      · replace h31 := of_decide_eq_true h31
        refine Plan.done ?_
        refine HW.cond_true rfl ?_
        refine HW.region [(0, .st)] rfl rfl ?_
        refine Plan.assign (v := .int _ _) rfl rfl rfl ?_
        refine Plan.done ?_
        refine HW.region [(0, .st), (1, .st), (2, .st)] rfl rfl ?_
        refine Plan.move (v := .int _ _) rfl rfl rfl ?_
        refine Plan.arithI rfl rfl rfl rfl rfl (by omega) ?_
        refine Plan.assign (v := .int _ _) rfl rfl rfl ?_
        refine Plan.done ?_
        exact ⟨⟨k + 1, 0⟩, by simp only; omega, ⟨hlt, fun j hj => by rcases Nat.lt_succ_iff_lt_or_eq.1 hj with h | rfl; exact hpos j h; omega, .inr ⟨rfl, k, Nat.lt_succ_self k, h31⟩⟩, rfl, Ent.sub (.refl _), (by repeat (first | exact Agree.havoc _ _ _ | refine Agree.updN ?_ | refine Agree.upd rfl ?_ | refine Agree.updL rfl ?_ | refine Agree.havoc2 rfl ?_)), ⟨rfl, rfl, trivial⟩⟩
      · replace h31 := of_decide_eq_false h31
        refine Plan.done ?_
        refine HW.cond_false rfl ?_
        refine HW.skip ?_
        refine HW.region [(0, .st), (1, .st), (2, .st)] rfl rfl ?_
        refine Plan.move (v := .int _ _) rfl rfl rfl ?_
        refine Plan.arithI rfl rfl rfl rfl rfl (by omega) ?_
        refine Plan.assign (v := .int _ _) rfl rfl rfl ?_
        refine Plan.done ?_
        exact ⟨⟨k + 1, at1⟩, by simp only; omega, ⟨hlt, fun j hj => by rcases Nat.lt_succ_iff_lt_or_eq.1 hj with h | rfl; exact hpos j h; omega, hat.imp (fun h => ⟨h.1, fun j hj => by rcases Nat.lt_succ_iff_lt_or_eq.1 hj with h' | rfl; exact h.2 j h'; exact h31⟩) (fun ⟨h, j, h1, h2⟩ => ⟨h, j, by show j < k + 1; omega, h2⟩)⟩, rfl, Ent.sub (.refl _), (by repeat (first | exact Agree.havoc _ _ _ | refine Agree.updN ?_ | refine Agree.upd rfl ?_ | refine Agree.updL rfl ?_ | refine Agree.havoc2 rfl ?_)), ⟨rfl, rfl, trivial⟩⟩
  · replace h11 := of_decide_eq_false h11
    refine Plan.done ?_
    refine HW.cond_false rfl ?_
    refine HW.exit ?_
    refine HW.seq (HW.region [(0, .st), (1, .st)] rfl rfl ?_)
    refine Plan.move (v := .int _ _) rfl rfl rfl ?_
    refine Plan.assign (v := .int _ _) rfl rfl rfl ?_
    refine Plan.done ?_
    have hkn : k = ps.length := by omega
    subst hkn
    have hfin : at1 = placeF ps v := by
      unfold placeF
      rw [if_neg (fun ⟨j, h1, h2⟩ => by have := hpos j h1; omega)]
      rcases hat with ⟨h1, h2⟩ | ⟨h1, h2⟩
      · rw [if_neg (fun ⟨j, h3, h4⟩ => h2 j h3 h4)]; exact h1
      · rw [if_pos h2]; exact h1
    exact HW.ret ⟨rfl, _, [], .tmp rfl .nil, List.nil_sublist _, (by rw [← hfin]; rfl), rfl⟩

end Go.Proofs.Ytjmklbkcpjmcaaa.V
