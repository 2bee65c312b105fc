/-
  Packages blank and tinplateref04: mod, offset, modulo, Offset.
  Plain laws: the places of a blank on a sheet, their classes, and the best class.
-/
import Derived.Test.YtjmklbkcpjmcaaaB1
import Derived.Test.YtjmklbkcpjmcaaaHd
import Derived.Test.YtjmklbkcpjmcaaaO1
namespace Go.Proofs.Ytjmklbkcpjmcaaa.V
open Go Go.RowKit Go.Proofs.Ytjmklbkcpjmcaaa.H
set_option linter.unusedVariables false
set_option linter.unusedSimpArgs false

theorem tmod_bds (n : Int) {m : Int} (hm : 0 < m) : -m < n.tmod m ∧ n.tmod m < m := by
  rcases Int.le_total 0 n with h | h
  · have h1 := Int.emod_nonneg n (show m ≠ 0 by omega)
    have h2 := Int.emod_lt_of_pos n hm
    rw [Int.tmod_eq_emod_of_nonneg h]
    omega
  · have h1 := Int.emod_nonneg (-n) (show m ≠ 0 by omega)
    have h2 := Int.emod_lt_of_pos (-n) hm
    have h3 : n.tmod m = -((-n).tmod m) := by rw [Int.neg_tmod, Int.neg_neg]
    rw [h3, Int.tmod_eq_emod_of_nonneg (by omega)]
    omega
theorem modE (n : Int) {m : Int} (hm : 0 < m) : (n.tmod m + m).tmod m = n % m := by
  have h1 := tmod_bds n hm
  rw [Int.tmod_eq_emod_of_nonneg (by omega), Int.add_emod_right, Int.tmod_def, Int.sub_mul_emod_self_left]

theorem mod_ct (n m : Int) (w : World) (hm : 0 < m) (hm2 : m ≤ 100000) (hn : Bd 1000000000 n) : Ct P 85 #[int n, int m] w [] (fun r L => r = int (n % m) ∧ L = []) := by
  have hb := tmod_bds n hm
  have he := modE n hm
  refine Ct.of_body (rs := [.tmp 4]) (N := 12) (L := []) Try.func85 rfl rfl rfl (by kernel_rfl) rfl (Mem.refl w) ?_
  refine HW.seq (HW.region [(0, .st)] rfl rfl ?_)
  refine Plan.assign (v := .int _ _) rfl rfl rfl ?_
  refine Plan.done ?_
  refine HW.seq (HW.region [(0, .st), (1, .st), (2, .st), (3, .st), (4, .st), (5, .st), (6, .st), (7, .st)] rfl rfl ?_)
  refine Plan.move (v := .int _ _) rfl rfl rfl ?_
  refine Plan.move (v := .int _ _) rfl rfl rfl ?_
  refine Plan.remT rfl rfl rfl rfl (by omega) ?_
  refine Plan.move (v := .int _ _) rfl rfl rfl ?_
  refine Plan.arithI rfl rfl rfl rfl rfl (by omega) ?_
  refine Plan.move (v := .int _ _) rfl rfl rfl ?_
  refine Plan.remT rfl rfl rfl rfl (by omega) ?_
  refine Plan.assign (v := .int _ _) rfl rfl rfl ?_
  refine Plan.done ?_
  exact HW.ret ⟨rfl, _, [], .tmp rfl .nil, List.nil_sublist _, int_eq he, rfl⟩
theorem modulo_ct (n m : Int) (w : World) (hm : 0 < m) (hm2 : m ≤ 100000) (hn : Bd 1000000000 n) : Ct P 74 #[int n, int m] w [] (fun r L => r = int (n % m) ∧ L = []) := by
  have hb := tmod_bds n hm
  have he := modE n hm
  refine Ct.of_body (rs := [.tmp 4]) (N := 12) (L := []) Try.func74 rfl rfl rfl (by kernel_rfl) rfl (Mem.refl w) ?_
  refine HW.seq (HW.region [(0, .st)] rfl rfl ?_)
  refine Plan.assign (v := .int _ _) rfl rfl rfl ?_
  refine Plan.done ?_
  refine HW.seq (HW.region [(0, .st), (1, .st), (2, .st), (3, .st), (4, .st), (5, .st), (6, .st), (7, .st)] rfl rfl ?_)
  refine Plan.move (v := .int _ _) rfl rfl rfl ?_
  refine Plan.move (v := .int _ _) rfl rfl rfl ?_
  refine Plan.remT rfl rfl rfl rfl (by omega) ?_
  refine Plan.move (v := .int _ _) rfl rfl rfl ?_
  refine Plan.arithI rfl rfl rfl rfl rfl (by omega) ?_
  refine Plan.move (v := .int _ _) rfl rfl rfl ?_
  refine Plan.remT rfl rfl rfl rfl (by omega) ?_
  refine Plan.assign (v := .int _ _) rfl rfl rfl ?_
  refine Plan.done ?_
  exact HW.ret ⟨rfl, _, [], .tmp rfl .nil, List.nil_sublist _, int_eq he, rfl⟩

/-- the class of a vector -/
def offF (g : Gd) (v : Pt) : Pt := (v.1 % g.1, (v.2 - v.1 / g.1 * g.2.1) % g.2.2)
theorem off_div (x : Int) {a : Int} (ha : 0 < a) : (x - x % a).tdiv a = x / a := by
  have h := Int.mul_ediv_add_emod x a
  have e : x - x % a = a * (x / a) := by omega
  rw [e, Int.mul_tdiv_cancel_left _ (by omega)]
theorem ediv_bd {x a : Int} (ha : 0 < a) (hx : Bd 2000 x) : -2001 ≤ x / a ∧ x / a ≤ 2000 := by
  have h := Int.mul_ediv_add_emod x a
  have h1 := Int.emod_nonneg x (show a ≠ 0 by omega)
  have h2 := Int.emod_lt_of_pos x ha
  unfold Bd at hx
  constructor
  · rcases Int.lt_or_le (x / a) (-2001) with h3 | h3
    · exfalso
      have h5 : x / a * 1 ≥ x / a * a := Int.mul_le_mul_of_nonpos_left (by omega) (by omega)
      have h6 : a * (x / a) = x / a * a := Int.mul_comm _ _
      have h7 : a * (x / a) ≤ a * (-2002) := Int.mul_le_mul_of_nonneg_left (by omega) (by omega)
      omega
    · exact h3
  · rcases Int.lt_or_le 2000 (x / a) with h3 | h3
    · exfalso
      have h7 : a * 2001 ≤ a * (x / a) := Int.mul_le_mul_of_nonneg_left (by omega) (by omega)
      omega
    · exact h3
theorem good_spec {a b d : Int} (h : goodG (a, b, d) = true) : 1 ≤ a ∧ a ≤ 400 ∧ 1 ≤ d ∧ d ≤ 400 ∧ 0 ≤ b ∧ b < d := of_decide_eq_true h

theorem offset_ct (a b d x y : Int) (w : World) (hg : goodG (a, b, d) = true) (hx : Bd 2000 x) (hy : Bd 2000 y) : Ct P 56 #[gdv a b d, vec x y] w [] (fun r L => r = vc (offF (a, b, d) (x, y)) ∧ L = []) := by
  obtain ⟨a1, a2, d1, d2, b1, b2⟩ := good_spec hg
  have h0 := off_div x (a := a) (by omega)
  have h1 := Int.emod_nonneg x (show a ≠ 0 by omega)
  have h2 := Int.emod_lt_of_pos x (show 0 < a by omega)
  have h3 := ediv_bd (show 0 < a by omega) hx
  have h4 := mul_bd (a := x / a) (b := b) (N := 2001) (M := 400) (by omega) (by omega)
  unfold Bd at hx hy
  refine Ct.of_body (rs := [.cell 4 52]) (N := 29) (L := []) Try.func56 rfl rfl rfl (by kernel_rfl) rfl (Mem.refl w) ?_
  refine HW.seq (HW.region [(0, .ef), (1, .ef), (2, .al)] rfl rfl ?_)
  refine Plan.boxA rfl rfl rfl fun b2 => ?_
  refine Plan.boxA rfl rfl rfl fun b3 => ?_
  refine Plan.alloc rfl zerV fun b4 => ?_
  refine Plan.done ?_
  refine HW.seq (HW.region [(0, .st), (1, .st), (2, .st), (3, .st), (4, .ef), (5, .st)] rfl rfl ?_)
  refine Plan.fieldAddr rfl rfl fldV0 rfl ?_
  refine Plan.load (v := .int _ _) rfl rfl aggI rfl (Sees.one 1 rfl rfl) ?_
  refine Plan.fieldAddr rfl rfl fldGrid0 rfl ?_
  refine Plan.load (v := .int _ _) rfl rfl aggI rfl (Sees.one 2 rfl rfl) ?_
  refine Plan.callF [] 0 rfl rfl rfl (.inl rfl) (by simp) (fun w hm => mod_ct x a w (by omega) (by omega) ⟨by omega, by omega⟩) ?_   -- tinplate/blank.mod
  rintro v Ln ⟨rfl, rfl⟩
  refine Plan.assign (v := .int _ _) rfl rfl rfl ?_
  refine Plan.done ?_
  refine HW.seq (HW.region_any [18] [(0, .st), (1, .st), (2, .st), (3, .st), (4, .st), (5, .st), (6, .st), (7, .st), (8, .st), (9, .st), (10, .st), (11, .st), (12, .st), (13, .st), (14, .st), (15, .st), (16, .ef), (17, .st), (18, .ef)] mix (by kernel_rfl) (fun _ _ _ _ _ h => h) (zeros rfl) ?_)
  refine Plan.move (v := .int _ _) rfl rfl rfl ?_
  refine Plan.fieldAddr rfl rfl fldV1 rfl ?_
  refine Plan.load (v := .int _ _) rfl rfl aggI rfl (Sees.one 1 rfl rfl) ?_
  refine Plan.fieldAddr rfl rfl fldV0 rfl ?_
  refine Plan.load (v := .int _ _) rfl rfl aggI rfl (Sees.one 1 rfl rfl) ?_
  refine Plan.move (v := .int _ _) rfl rfl rfl ?_
  refine Plan.arithI rfl rfl rfl rfl rfl (by omega) ?_
  refine Plan.fieldAddr rfl rfl fldGrid0 rfl ?_
  refine Plan.load (v := .int _ _) rfl rfl aggI rfl (Sees.one 2 rfl rfl) ?_
  refine Plan.quoT rfl rfl rfl rfl (by omega) ?_
  refine Plan.fieldAddr rfl rfl fldGrid1 rfl ?_
  refine Plan.load (v := .int _ _) rfl rfl aggI rfl (Sees.one 2 rfl rfl) ?_
  refine Plan.arithI rfl rfl rfl rfl rfl (by rw [h0]; omega) ?_
  refine Plan.arithI rfl rfl rfl rfl rfl (by rw [h0]; omega) ?_
  refine Plan.fieldAddr rfl rfl fldGrid2 rfl ?_
  refine Plan.load (v := .int _ _) rfl rfl aggI rfl (Sees.one 2 rfl rfl) ?_
  refine Plan.callF [] 0 rfl rfl rfl (.inl rfl) (by simp) (fun w hm => (by have h5 := mod_ct (y - x / a * b) d w (by omega) (by omega) ⟨by omega, by omega⟩; rw [← h0] at h5; exact h5)) ?_   -- tinplate/blank.mod
  rintro v Ln ⟨rfl, rfl⟩
  refine Plan.build rfl rfl rfl (bldV _ _) ?_
  refine Plan.storeA 0 rfl rfl (hDs (by decide)) sizV rfl rfl rfl rfl rfl rfl ?_
  refine Plan.done ?_
  exact HW.ret ⟨rfl, _, [], .cell rfl (own_loadAgg 0 rfl aggV sizV rfl) .nil, List.nil_sublist _, (by show _ = vc (x % a, (y - x / a * b) % d); rw [h0]; rfl), rfl⟩
theorem OffsetR_ct (a b d x y : Int) (w : World) (hg : goodG (a, b, d) = true) (hx : Bd 2000 x) (hy : Bd 2000 y) : Ct P 38 #[gdv a b d, vec x y] w [] (fun r L => r = vc (offF (a, b, d) (x, y)) ∧ L = []) := by
  obtain ⟨a1, a2, d1, d2, b1, b2⟩ := good_spec hg
  have h0 := off_div x (a := a) (by omega)
  have h1 := Int.emod_nonneg x (show a ≠ 0 by omega)
  have h2 := Int.emod_lt_of_pos x (show 0 < a by omega)
  have h3 := ediv_bd (show 0 < a by omega) hx
  have h4 := mul_bd (a := x / a) (b := b) (N := 2001) (M := 400) (by omega) (by omega)
  unfold Bd at hx hy
  refine Ct.of_body (rs := [.cell 4 52]) (N := 29) (L := []) Try.func38 rfl rfl rfl (by kernel_rfl) rfl (Mem.refl w) ?_
  refine HW.seq (HW.region [(0, .ef), (1, .ef), (2, .al)] rfl rfl ?_)
  refine Plan.boxA rfl rfl rfl fun b2 => ?_
  refine Plan.boxA rfl rfl rfl fun b3 => ?_
  refine Plan.alloc rfl zerV fun b4 => ?_
  refine Plan.done ?_
  refine HW.seq (HW.region [(0, .st), (1, .st), (2, .st), (3, .st), (4, .ef), (5, .st)] rfl rfl ?_)
  refine Plan.fieldAddr rfl rfl fldV0 rfl ?_
  refine Plan.load (v := .int _ _) rfl rfl aggI rfl (Sees.one 1 rfl rfl) ?_
  refine Plan.fieldAddr rfl rfl fldGrid0 rfl ?_
  refine Plan.load (v := .int _ _) rfl rfl aggI rfl (Sees.one 2 rfl rfl) ?_
  refine Plan.callF [] 0 rfl rfl rfl (.inl rfl) (by simp) (fun w hm => modulo_ct x a w (by omega) (by omega) ⟨by omega, by omega⟩) ?_   -- tinplate/tinplateref04.modulo
  rintro v Ln ⟨rfl, rfl⟩
  refine Plan.assign (v := .int _ _) rfl rfl rfl ?_
  refine Plan.done ?_
  refine HW.seq (HW.region_any [18] [(0, .st), (1, .st), (2, .st), (3, .st), (4, .st), (5, .st), (6, .st), (7, .st), (8, .st), (9, .st), (10, .st), (11, .st), (12, .st), (13, .st), (14, .st), (15, .st), (16, .ef), (17, .st), (18, .ef)] mix (by kernel_rfl) (fun _ _ _ _ _ h => h) (zeros rfl) ?_)
  refine Plan.move (v := .int _ _) rfl rfl rfl ?_
  refine Plan.fieldAddr rfl rfl fldV1 rfl ?_
  refine Plan.load (v := .int _ _) rfl rfl aggI rfl (Sees.one 1 rfl rfl) ?_
  refine Plan.fieldAddr rfl rfl fldV0 rfl ?_
  refine Plan.load (v := .int _ _) rfl rfl aggI rfl (Sees.one 1 rfl rfl) ?_
  refine Plan.move (v := .int _ _) rfl rfl rfl ?_
  refine Plan.arithI rfl rfl rfl rfl rfl (by omega) ?_
  refine Plan.fieldAddr rfl rfl fldGrid0 rfl ?_
  refine Plan.load (v := .int _ _) rfl rfl aggI rfl (Sees.one 2 rfl rfl) ?_
  refine Plan.quoT rfl rfl rfl rfl (by omega) ?_
  refine Plan.fieldAddr rfl rfl fldGrid1 rfl ?_
  refine Plan.load (v := .int _ _) rfl rfl aggI rfl (Sees.one 2 rfl rfl) ?_
  refine Plan.arithI rfl rfl rfl rfl rfl (by rw [h0]; omega) ?_
  refine Plan.arithI rfl rfl rfl rfl rfl (by rw [h0]; omega) ?_
  refine Plan.fieldAddr rfl rfl fldGrid2 rfl ?_
  refine Plan.load (v := .int _ _) rfl rfl aggI rfl (Sees.one 2 rfl rfl) ?_
  refine Plan.callF [] 0 rfl rfl rfl (.inl rfl) (by simp) (fun w hm => (by have h5 := modulo_ct (y - x / a * b) d w (by omega) (by omega) ⟨by omega, by omega⟩; rw [← h0] at h5; exact h5)) ?_   -- tinplate/tinplateref04.modulo
  rintro v Ln ⟨rfl, rfl⟩
  refine Plan.build rfl rfl rfl (bldV _ _) ?_
  refine Plan.storeA 0 rfl rfl (hDs (by decide)) sizV rfl rfl rfl rfl rfl rfl ?_
  refine Plan.done ?_
  exact HW.ret ⟨rfl, _, [], .cell rfl (own_loadAgg 0 rfl aggV sizV rfl) .nil, List.nil_sublist _, (by show _ = vc (x % a, (y - x / a * b) % d); rw [h0]; rfl), rfl⟩

end Go.Proofs.Ytjmklbkcpjmcaaa.V

namespace Go.Proofs.Ytjmklbkcpjmcaaa.V
open Go Go.RowKit Go.Proofs.Ytjmklbkcpjmcaaa.H
set_option linter.unusedVariables false
set_option linter.unusedSimpArgs false

/-! the box of a blank -/
def mnT (f : Pt → Int) (p : List Pt) : Nat → Int
  | 0 => f (nth p 0)
  | k + 1 => minI (mnT f p k) (f (nth p k))
def mxT (f : Pt → Int) (p : List Pt) : Nat → Int
  | 0 => f (nth p 0)
  | k + 1 => maxI (mxT f p k) (f (nth p k))
theorem mnT_one (f : Pt → Int) (p : List Pt) : mnT f p 1 = f (nth p 0) := if_neg (Int.lt_irrefl _)
theorem mxT_one (f : Pt → Int) (p : List Pt) : mxT f p 1 = f (nth p 0) := if_neg (Int.lt_irrefl _)
theorem mnT_le (f : Pt → Int) (p : List Pt) : ∀ k i, i < k → mnT f p k ≤ f (nth p i)
  | 0, i, h => absurd h (Nat.not_lt_zero _)
  | k + 1, i, h => by
    have h1 : i < k → mnT f p k ≤ f (nth p i) := mnT_le f p k i
    simp only [mnT, minI]
    by_cases e : i = k
    · subst e; split <;> omega
    · have := h1 (by omega); split <;> omega
theorem mxT_le (f : Pt → Int) (p : List Pt) : ∀ k i, i < k → f (nth p i) ≤ mxT f p k
  | 0, i, h => absurd h (Nat.not_lt_zero _)
  | k + 1, i, h => by
    have h1 : i < k → f (nth p i) ≤ mxT f p k := mxT_le f p k i
    simp only [mxT, maxI]
    by_cases e : i = k
    · subst e; split <;> omega
    · have := h1 (by omega); split <;> omega
theorem mnT_at (f : Pt → Int) (p : List Pt) : ∀ k, 0 < p.length → k ≤ p.length → ∃ i, i < p.length ∧ mnT f p k = f (nth p i)
  | 0, h0, _ => ⟨0, h0, rfl⟩
  | k + 1, h0, hk => by
    obtain ⟨i, hi, he⟩ := mnT_at f p k h0 (by omega)
    simp only [mnT, minI]
    split
    · exact ⟨k, by omega, rfl⟩
    · exact ⟨i, hi, he⟩
theorem mxT_at (f : Pt → Int) (p : List Pt) : ∀ k, 0 < p.length → k ≤ p.length → ∃ i, i < p.length ∧ mxT f p k = f (nth p i)
  | 0, h0, _ => ⟨0, h0, rfl⟩
  | k + 1, h0, hk => by
    obtain ⟨i, hi, he⟩ := mxT_at f p k h0 (by omega)
    simp only [mxT, maxI]
    split
    · exact ⟨k, by omega, rfl⟩
    · exact ⟨i, hi, he⟩
def fX (v : Pt) : Int := v.1
def fY (v : Pt) : Int := v.2
def X1 (p : List Pt) : Int := mnT fX p p.length
def X2 (p : List Pt) : Int := mxT fX p p.length
def Y1 (p : List Pt) : Int := mnT fY p p.length
def Y2 (p : List Pt) : Int := mxT fY p p.length

theorem box_in {p : List Pt} {q : Pt} (hq : q ∈ p) : X1 p ≤ q.1 ∧ q.1 ≤ X2 p ∧ Y1 p ≤ q.2 ∧ q.2 ≤ Y2 p := by
  obtain ⟨i, hi, rfl⟩ := List.getElem_of_mem hq
  rw [← nth_get hi]
  exact ⟨mnT_le fX p _ _ hi, mxT_le fX p _ _ hi, mnT_le fY p _ _ hi, mxT_le fY p _ _ hi⟩
theorem box_spec {p : List Pt} (hb : blankF p = true) : 0 ≤ X1 p ∧ X1 p ≤ X2 p ∧ X2 p ≤ 12 ∧ 0 ≤ Y1 p ∧ Y1 p ≤ Y2 p ∧ Y2 p ≤ 12 := by
  obtain ⟨v1, v2, v3, v4⟩ := validF_spec (blankF_spec hb).1
  have h0 : 0 < p.length := by omega
  obtain ⟨i1, j1, e1⟩ := mnT_at fX p p.length h0 (Nat.le_refl _)
  obtain ⟨i2, j2, e2⟩ := mxT_at fX p p.length h0 (Nat.le_refl _)
  obtain ⟨i3, j3, e3⟩ := mnT_at fY p p.length h0 (Nat.le_refl _)
  obtain ⟨i4, j4, e4⟩ := mxT_at fY p p.length h0 (Nat.le_refl _)
  have b1 := blank_bd hb (nth_mem j1)
  have b2 := blank_bd hb (nth_mem j2)
  have b3 := blank_bd hb (nth_mem j3)
  have b4 := blank_bd hb (nth_mem j4)
  have c := box_in (nth_mem h0)
  unfold X1 X2 Y1 Y2 at *
  rw [e1, e2, e3, e4] at *
  unfold fX fY at *
  omega

/-! the places -/
def nxF (p : List Pt) (w : Int) : Nat := (w - X2 p + X1 p + 1).toNat
def nyF (p : List Pt) (h : Int) : Nat := (h - Y2 p + Y1 p + 1).toNat
def plA (p : List Pt) (nx k : Nat) : Pt := (((k % nx : Nat) : Int) - X1 p, ((k / nx : Nat) : Int) - Y1 p)
def plN (p : List Pt) (nx n : Nat) : List Pt := (List.range n).map (plA p nx)
def pls (p : List Pt) (w h : Int) : List Pt := plN p (nxF p w) (nyF p h * nxF p w)
theorem plN_succ (p : List Pt) (nx n : Nat) : plN p nx (n + 1) = plN p nx n ++ [plA p nx n] := by
  simp [plN, List.range_succ]
theorem plN_len (p : List Pt) (nx n : Nat) : (plN p nx n).length = n := by simp [plN]
theorem plA_at (p : List Pt) {nx i j : Nat} (h : i < nx) : plA p nx (j * nx + i) = ((i : Int) - X1 p, (j : Int) - Y1 p) := by
  have e1 : (j * nx + i) % nx = i := by rw [Nat.mul_comm, Nat.mul_add_mod, Nat.mod_eq_of_lt h]
  have e2 : (j * nx + i) / nx = j := by rw [Nat.mul_comm, Nat.mul_add_div (by omega), Nat.div_eq_of_lt h, Nat.add_zero]
  rw [plA, e1, e2]
theorem pls_mem {p : List Pt} {w h : Int} {v : Pt} : v ∈ pls p w h ↔ (-X1 p ≤ v.1 ∧ v.1 ≤ w - X2 p) ∧ -Y1 p ≤ v.2 ∧ v.2 ≤ h - Y2 p := by
  unfold pls plN
  simp only [List.mem_map, List.mem_range]
  constructor
  · rintro ⟨k, hk, rfl⟩
    have hx : 0 < nxF p w := by
      rcases Nat.eq_zero_or_pos (nxF p w) with h0 | h0
      · rw [h0] at hk; simp at hk
      · exact h0
    have h1 := Nat.mod_lt k hx
    have h2 : k / nxF p w < nyF p h := (Nat.div_lt_iff_lt_mul hx).2 hk
    unfold plA
    simp only
    generalize k % nxF p w = i at *
    generalize k / nxF p w = j at *
    unfold nxF at h1
    unfold nyF at h2
    omega
  · rintro ⟨⟨a1, a2⟩, a3, a4⟩
    have hi : (v.1 + X1 p).toNat < nxF p w := by unfold nxF; omega
    have hj : (v.2 + Y1 p).toNat < nyF p h := by unfold nyF; omega
    refine ⟨(v.2 + Y1 p).toNat * nxF p w + (v.1 + X1 p).toNat, ?_, ?_⟩
    · have := Nat.mul_le_mul_right (nxF p w) hj
      rw [Nat.succ_mul] at this
      omega
    · rw [plA_at p hi]
      exact Prod.ext (by simp only; omega) (by simp only; omega)
theorem size_bd {p : List Pt} (hb : blankF p = true) {w h : Int} (hw : w ≤ 100) (hh : h ≤ 100) : nxF p w ≤ 101 ∧ nyF p h ≤ 101 ∧ nyF p h * nxF p w ≤ 10201 := by
  have := box_spec hb
  have h1 : nxF p w ≤ 101 := by unfold nxF; omega
  have h2 : nyF p h ≤ 101 := by unfold nyF; omega
  exact ⟨h1, h2, Nat.mul_le_mul h2 h1⟩
theorem pls_bd {p : List Pt} (hb : blankF p = true) {w h : Int} (hw : w ≤ 100) (hh : h ≤ 100) {v : Pt} (hv : v ∈ pls p w h) : Bd 100 v.1 ∧ Bd 100 v.2 := by
  have := box_spec hb
  have := pls_mem.1 hv
  unfold Bd
  omega
theorem plA_bd {p : List Pt} (hb : blankF p = true) {w h : Int} (hw : w ≤ 100) (hh : h ≤ 100) {k : Nat} (hk : k < nyF p h * nxF p w) : Bd 100 (plA p (nxF p w) k).1 ∧ Bd 100 (plA p (nxF p w) k).2 :=
  pls_bd hb hw hh (List.mem_map.2 ⟨k, List.mem_range.2 hk, rfl⟩)

/-! the classes -/
def cellF (d : Int) (c : Nat) : Pt := ((c : Int) / d, (c : Int) % d)
def idxF (g : Gd) (v : Pt) : Nat := ((offF g v).1 * g.2.2 + (offF g v).2).toNat
def clsF (g : Gd) (l : List Pt) (o : Pt) : List Pt := l.filter fun v => decide (offF g v = o)
def cntF (g : Gd) (l : List Pt) (c : Nat) : Nat := (clsF g l (cellF g.2.2 c)).length
theorem off_bd {a b d : Int} (hg : goodG (a, b, d) = true) (v : Pt) : 0 ≤ (offF (a, b, d) v).1 ∧ (offF (a, b, d) v).1 < a ∧ 0 ≤ (offF (a, b, d) v).2 ∧ (offF (a, b, d) v).2 < d := by
  obtain ⟨a1, a2, d1, d2, b1, b2⟩ := good_spec hg
  unfold offF
  exact ⟨Int.emod_nonneg _ (by omega), Int.emod_lt_of_pos _ (by omega), Int.emod_nonneg _ (by simp only; omega), Int.emod_lt_of_pos _ (by simp only; omega)⟩
theorem cell_eq {d x y : Int} (hd : 0 < d) (hx : 0 ≤ x) (hy : 0 ≤ y) (hy2 : y < d) : cellF d (x * d + y).toNat = (x, y) := by
  have h0 : 0 ≤ x * d := Int.mul_nonneg hx (by omega)
  have e : (((x * d + y).toNat : Nat) : Int) = y + d * x := by rw [Int.mul_comm d x]; omega
  unfold cellF
  rw [e, Int.add_mul_ediv_left _ _ (by omega), Int.add_mul_emod_self_left, Int.ediv_eq_zero_of_lt hy hy2, Int.emod_eq_of_lt hy hy2, Int.zero_add]
theorem cell_idx {a b d : Int} (hg : goodG (a, b, d) = true) (v : Pt) : cellF d (idxF (a, b, d) v) = offF (a, b, d) v := by
  obtain ⟨a1, a2, d1, d2, b1, b2⟩ := good_spec hg
  obtain ⟨o1, o2, o3, o4⟩ := off_bd hg v
  exact cell_eq (by omega) o1 o3 o4
theorem idx_lt {a b d : Int} (hg : goodG (a, b, d) = true) (v : Pt) : idxF (a, b, d) v < (a * d).toNat := by
  obtain ⟨a1, a2, d1, d2, b1, b2⟩ := good_spec hg
  obtain ⟨o1, o2, o3, o4⟩ := off_bd hg v
  have h1 : (offF (a, b, d) v).1 * d ≤ (a - 1) * d := Int.mul_le_mul_of_nonneg_right (by omega) (by omega)
  rw [Int.sub_mul, Int.one_mul] at h1
  have h2 : 0 ≤ (offF (a, b, d) v).1 * d := Int.mul_nonneg o1 (by omega)
  unfold idxF
  simp only
  omega
theorem cell_inj {d : Int} (hd : 0 < d) {m n : Nat} (h : cellF d m = cellF d n) : m = n := by
  simp only [cellF, Prod.mk.injEq] at h
  have h1 := Int.mul_ediv_add_emod m d
  have h2 := Int.mul_ediv_add_emod n d
  rw [h.1, h.2] at h1
  omega
def lexlt (a b : Pt) : Prop := a.1 < b.1 ∨ a.1 = b.1 ∧ a.2 < b.2
theorem cell_lt {d : Int} (hd : 0 < d) {m n : Nat} (h : m < n) : lexlt (cellF d m) (cellF d n) := by
  have h1 := Int.mul_ediv_add_emod m d
  have h2 := Int.mul_ediv_add_emod n d
  have h3 := Int.emod_lt_of_pos m hd
  have h4 := Int.emod_nonneg n (show d ≠ 0 by omega)
  have h5 : (m : Int) / d ≤ (n : Int) / d := Int.ediv_le_ediv hd (by omega)
  unfold lexlt cellF
  simp only
  rcases Int.lt_or_eq_of_le h5 with h6 | h6
  · exact .inl h6
  · refine .inr ⟨h6, ?_⟩
    rw [h6] at h1
    omega
theorem cnt_push {a b d : Int} (hg : goodG (a, b, d) = true) (l : List Pt) (v : Pt) (c : Nat) : cntF (a, b, d) (l ++ [v]) c = cntF (a, b, d) l c + if idxF (a, b, d) v = c then 1 else 0 := by
  obtain ⟨a1, a2, d1, d2, b1, b2⟩ := good_spec hg
  have hc := cell_idx hg v
  unfold cntF clsF
  rw [List.filter_append, List.length_append]
  congr 1
  by_cases h : idxF (a, b, d) v = c
  · rw [if_pos h]
    subst h
    simp [hc]
  · rw [if_neg h]
    have : offF (a, b, d) v ≠ cellF d c := fun e => h (cell_inj (show 0 < d by omega) (hc.trans e))
    simp [this]

/-! the first greatest of some numbers -/
def bst (f : Nat → Nat) : Nat → Nat
  | 0 => 0
  | i + 1 => if f (bst f i) < f (i + 1) then i + 1 else bst f i
theorem bst_spec (f : Nat → Nat) : ∀ n, bst f n ≤ n ∧ (∀ j, j ≤ n → f j ≤ f (bst f n)) ∧ ∀ j, j < bst f n → f j < f (bst f n)
  | 0 => ⟨Nat.le_refl _, fun j hj => by rw [Nat.le_zero.1 hj]; exact Nat.le_refl _, fun j hj => absurd hj (Nat.not_lt_zero _)⟩
  | n + 1 => by
    obtain ⟨h1, h2, h3⟩ := bst_spec f n
    by_cases h : f (bst f n) < f (n + 1)
    · rw [bst, if_pos h]
      refine ⟨Nat.le_refl _, fun j hj => ?_, fun j hj => ?_⟩
      · rcases Nat.lt_or_ge j (n + 1) with h4 | h4
        · have := h2 j (by omega); omega
        · rw [show j = n + 1 by omega]; exact Nat.le_refl _
      · have := h2 j (by omega); omega
    · rw [bst, if_neg h]
      refine ⟨by omega, fun j hj => ?_, h3⟩
      rcases Nat.lt_or_ge j (n + 1) with h4 | h4
      · exact h2 j (by omega)
      · rw [show j = n + 1 by omega]; omega
theorem bst_uniq (f : Nat → Nat) {n m : Nat} (hm : m ≤ n) (h1 : ∀ j, j ≤ n → f j ≤ f m) (h2 : ∀ j, j < m → f j < f m) : bst f n = m := by
  obtain ⟨b1, b2, b3⟩ := bst_spec f n
  rcases Nat.lt_trichotomy (bst f n) m with h | h | h
  · have := h2 _ h; have := b2 m hm; omega
  · exact h
  · have := b3 _ h; have := h1 _ b1; omega

/-- the largest layout of the least offset -/
def LayL (p : List Pt) (g : Gd) (w h : Int) : List Pt := clsF g (pls p w h) (cellF g.2.2 (bst (cntF g (pls p w h)) ((g.1 * g.2.2).toNat - 1)))
def LayB (p : List Pt) (g : Gd) (w h : Int) : Bool := blankF p && goodG g && admB p g && decide (1 ≤ w ∧ w ≤ 100 ∧ 1 ≤ h ∧ h ≤ 100)
def LayF (p : List Pt) (g : Gd) (w h : Int) : List Pt × Int := if LayB p g w h then (LayL p g w h, 0) else ([], 2)

/-! what grows in the map -/
structure LE where
  o : Option Nat
  c : Nat
  ys : List Pt
abbrev evS (e : LE) : Value := slv e.o e.ys.length e.c
def nilE : LE := ⟨none, 0, []⟩
structure GrOK (f : Pt → Pt) (pre : List Pt) (es : List (Pt × LE)) : Prop where
  nd : ∀ i j (hi : i < es.length) (hj : j < es.length), es[i].1 = es[j].1 → i = j
  own : ∀ i (hi : i < es.length), es[i].2.ys = pre.filter (fun v => decide (f v = es[i].1)) ∧ es[i].2.ys ≠ []
  all : ∀ v ∈ pre, ∃ i, ∃ hi : i < es.length, es[i].1 = f v
theorem GrOK.nil (f : Pt → Pt) : GrOK f [] [] := ⟨fun i j hi => absurd hi (Nat.not_lt_zero _), fun i hi => absurd hi (Nat.not_lt_zero _), fun v hv => by simp at hv⟩
theorem keyAt_none {K V : Type} [DecidableEq K] {k : K} {l : List (K × V)} (h : keyAt k l = none) : ∀ i (hi : i < l.length), l[i].1 ≠ k := fun i hi e => by
  unfold keyAt at h
  rw [List.findIdx?_eq_none_iff] at h
  have := h l[i] (List.getElem_mem hi)
  simp [e] at this
theorem GrOK.step {f : Pt → Pt} {pre : List Pt} {es : List (Pt × LE)} (h : GrOK f pre es) (p : Pt) {v : LE} (hv : (entK (f p) nilE es).1[(entK (f p) nilE es).2]? = some (f p, v)) (o : Option Nat) (c : Nat) :
    GrOK f (pre ++ [p]) ((entK (f p) nilE es).1.set (entK (f p) nilE es).2 (f p, ⟨o, c, v.ys ++ [p]⟩)) := by
  unfold entK at hv ⊢
  cases hk : keyAt (f p) es with
  | some t =>
    simp only [hk] at hv ⊢
    obtain ⟨ht, he⟩ := List.getElem?_eq_some_iff.1 hv
    have hkey : ∀ i (hi : i < (es.set t (f p, ⟨o, c, v.ys ++ [p]⟩)).length), (es.set t (f p, (⟨o, c, v.ys ++ [p]⟩ : LE)))[i].1 = (es[i]'(by simpa using hi)).1 := fun i hi => by
      rw [List.getElem_set]
      split
      · next e => subst e; rw [he]
      · rfl
    refine ⟨fun i j hi hj e => ?_, fun i hi => ?_, fun u hu => ?_⟩
    · rw [hkey, hkey] at e
      exact h.nd i j (by simpa using hi) (by simpa using hj) e
    · rw [hkey, List.getElem_set]
      have hi' : i < es.length := by simpa using hi
      obtain ⟨q1, q2⟩ := h.own i hi'
      split
      · next e =>
        subst e
        rw [he] at q1 ⊢
        simp only at q1 ⊢
        rw [List.filter_append, ← q1]
        simp
      · next e =>
        have hne : ¬ f p = es[i].1 := fun e2 => e (h.nd t i ht hi' (by rw [he]; exact e2))
        rw [List.filter_append, ← q1]
        simp only [List.filter_cons, decide_eq_false hne, List.filter_nil]
        exact ⟨by simp, q2⟩
    · rcases List.mem_append.1 hu with hu | hu
      · obtain ⟨i, hi, e⟩ := h.all u hu
        exact ⟨i, by simpa using hi, by rw [hkey]; exact e⟩
      · obtain rfl := List.mem_singleton.1 hu
        exact ⟨t, by simpa using ht, by rw [hkey, he]⟩
  | none =>
    simp only [hk] at hv ⊢
    have hkn := keyAt_none hk
    rw [List.getElem?_append_right (Nat.le_refl _), Nat.sub_self] at hv
    simp only [List.getElem?_cons_zero, Option.some.injEq, Prod.mk.injEq] at hv
    obtain ⟨-, rfl⟩ := hv
    have e0 : (es ++ [(f p, nilE)]).set es.length (f p, (⟨o, c, nilE.ys ++ [p]⟩ : LE)) = es ++ [(f p, ⟨o, c, [p]⟩)] := by
      rw [List.set_append_right _ _ (Nat.le_refl _), Nat.sub_self]
      rfl
    rw [e0]
    have hpre : pre.filter (fun u => decide (f u = f p)) = [] := by
      rw [List.filter_eq_nil_iff]
      intro u hu e
      obtain ⟨i, hi, e2⟩ := h.all u hu
      exact hkn i hi (e2.trans (of_decide_eq_true e))
    refine ⟨fun i j hi hj e => ?_, fun i hi => ?_, fun u hu => ?_⟩
    · simp only [List.length_append, List.length_cons, List.length_nil] at hi hj
      by_cases h1 : i < es.length <;> by_cases h2 : j < es.length
      · rw [List.getElem_append_left h1, List.getElem_append_left h2] at e
        exact h.nd i j h1 h2 e
      · rw [List.getElem_append_left h1, List.getElem_append_right (by omega)] at e
        simp only [show j - es.length = 0 by omega, List.getElem_cons_zero] at e
        exact absurd e (hkn i h1)
      · rw [List.getElem_append_right (by omega), List.getElem_append_left h2] at e
        simp only [show i - es.length = 0 by omega, List.getElem_cons_zero] at e
        exact absurd e.symm (hkn j h2)
      · omega
    · simp only [List.length_append, List.length_cons, List.length_nil] at hi
      by_cases h1 : i < es.length
      · rw [List.getElem_append_left h1]
        obtain ⟨q1, q2⟩ := h.own i h1
        have hne : ¬ f p = es[i].1 := fun e2 => hkn i h1 e2.symm
        rw [List.filter_append, ← q1]
        simp only [List.filter_cons, decide_eq_false hne, List.filter_nil]
        exact ⟨by simp, q2⟩
      · rw [List.getElem_append_right (by omega)]
        simp only [show i - es.length = 0 by omega, List.getElem_cons_zero]
        rw [List.filter_append, hpre]
        simp
    · rcases List.mem_append.1 hu with hu | hu
      · obtain ⟨i, hi, e⟩ := h.all u hu
        exact ⟨i, by simp; omega, by rw [List.getElem_append_left hi]; exact e⟩
      · obtain rfl := List.mem_singleton.1 hu
        exact ⟨es.length, by simp, by rw [List.getElem_append_right (Nat.le_refl _)]; simp⟩

/-- the best of all entries is the largest layout of the least offset -/
theorem GrOK.best {a b d : Int} (hg : goodG (a, b, d) = true) {p : List Pt} {w h : Int} {es : List (Pt × LE)} (hG : GrOK (offF (a, b, d)) (pls p w h) es) {j : Nat} (hj : j < es.length)
    (hbest : ∀ i (hi : i < es.length), es[i].2.ys.length < es[j].2.ys.length ∨ es[i].2.ys.length = es[j].2.ys.length ∧ ¬ lexlt es[i].1 es[j].1) : es[j].2.ys = LayL p (a, b, d) w h := by
  obtain ⟨a1, a2, d1, d2, b1, b2⟩ := good_spec hg
  obtain ⟨q1, q2⟩ := hG.own j hj
  obtain ⟨u, hu⟩ := List.exists_mem_of_ne_nil _ q2
  rw [q1, List.mem_filter] at hu
  have hou := of_decide_eq_true hu.2
  have hcell := cell_idx hg u
  rw [hou] at hcell
  have hlt := idx_lt hg u
  have hcntj : cntF (a, b, d) (pls p w h) (idxF (a, b, d) u) = es[j].2.ys.length := by
    unfold cntF clsF
    simp only
    rw [hcell, ← q1]
  have hpos : 0 < es[j].2.ys.length := List.length_pos_iff.2 q2
  have key : ∀ c, cntF (a, b, d) (pls p w h) c = 0 ∨ ∃ i, ∃ hi : i < es.length, es[i].1 = cellF d c ∧ cntF (a, b, d) (pls p w h) c = es[i].2.ys.length := fun c => by
    by_cases h0 : clsF (a, b, d) (pls p w h) (cellF d c) = []
    · left; unfold cntF; simp only; rw [h0]; rfl
    · right
      obtain ⟨x, hx⟩ := List.exists_mem_of_ne_nil _ h0
      unfold clsF at hx
      rw [List.mem_filter] at hx
      have hox := of_decide_eq_true hx.2
      obtain ⟨i, hi, e⟩ := hG.all x hx.1
      refine ⟨i, hi, e.trans hox, ?_⟩
      rw [(hG.own i hi).1]
      unfold cntF clsF
      simp only
      rw [e, hox]
  have hb := bst_uniq (cntF (a, b, d) (pls p w h)) (n := (a * d).toNat - 1) (m := idxF (a, b, d) u) (by omega) (fun c _ => by
    rcases key c with h0 | ⟨i, hi, _, e2⟩
    · omega
    · have := hbest i hi
      omega) (fun c hc => by
    rcases key c with h0 | ⟨i, hi, e1, e2⟩
    · omega
    · rcases hbest i hi with h3 | ⟨h3, h4⟩
      · omega
      · exfalso
        refine h4 ?_
        rw [e1, ← hcell]
        exact cell_lt (by omega) hc)
  unfold LayL
  simp only
  rw [hb, hcell]
  exact q1
theorem GrOK.none {a b d : Int} {p : List Pt} {w h : Int} {es : List (Pt × LE)} (hG : GrOK (offF (a, b, d)) (pls p w h) es) (hj : es.length = 0) : LayL p (a, b, d) w h = [] := by
  have h0 : pls p w h = [] := List.eq_nil_iff_forall_not_mem.2 fun v hv => by
    obtain ⟨i, hi, _⟩ := hG.all v hv
    omega
  unfold LayL clsF
  rw [h0]
  rfl

end Go.Proofs.Ytjmklbkcpjmcaaa.V
