/-
  Rows of a polygon, plainly: what bounds a row on the right and on the left.
  Pick's theorem for convex polygons, by counting rows.
-/
import Derived.Test.YtjmklbkcpjmcaaaP1
import Derived.Test.YtjmklbkcpjmcaaaG1
namespace Go.Proofs.Ytjmklbkcpjmcaaa.V
open Go Go.RowKit Go.Proofs.Ytjmklbkcpjmcaaa.H
set_option linter.unusedVariables false
set_option linter.unusedSimpArgs false

/-- the bound of a row by a rising chain -/
def frG (s : Int) (u : Nat → Pt) : Nat → Int → Int
  | 0, _ => 0
  | k + 1, y => if (u k).2 ≤ y then bnd s (u k) (u (k + 1)) y else frG s u k y

theorem chain_le {u : Nat → Pt} {K : Nat} (h : ∀ k, k < K → (u k).2 ≤ (u (k + 1)).2) {a b : Nat} (hab : a ≤ b) (hb : b ≤ K) : (u a).2 ≤ (u b).2 :=
  rises (G := fun i => (u i).2) b hab fun i h1 h2 => h i (by omega)

theorem frG_sum {s : Int} (hs : s = 0 ∨ s = 1) (u : Nat → Pt) : ∀ K, (∀ k, k < K → (u k).2 ≤ (u (k + 1)).2) → 2 * sumN (fun t => frG s u K ((u 0).2 + t)) ((u K).2 - (u 0).2).toNat = sumN (fun k => Fz s (u k) (u (k + 1))) K
  | 0, _ => by rw [Int.sub_self]; rfl
  | K + 1, h => by
    have ih := frG_sum hs u K (fun k hk => h k (by omega))
    have h1 := chain_le (K := K + 1) h (Nat.zero_le K) (Nat.le_succ K)
    have h2 := h K (Nat.lt_succ_self K)
    have e : ((u (K + 1)).2 - (u 0).2).toNat = ((u K).2 - (u 0).2).toNat + ((u (K + 1)).2 - (u K).2).toNat := by omega
    rw [e, sumN_split, Int.mul_add]
    have e1 : sumN (fun t => frG s u (K + 1) ((u 0).2 + t)) ((u K).2 - (u 0).2).toNat = sumN (fun t => frG s u K ((u 0).2 + t)) ((u K).2 - (u 0).2).toNat := sumN_congr _ fun t ht => by
      rw [frG, if_neg (by omega)]
    have e2 : sumN (fun t => frG s u (K + 1) ((u 0).2 + ((((u K).2 - (u 0).2).toNat + t : Nat) : Int))) ((u (K + 1)).2 - (u K).2).toNat = sumN (fun t => bnd s (u K) (u (K + 1)) ((u K).2 + t)) ((u (K + 1)).2 - (u K).2).toNat := sumN_congr _ fun t ht => by
      have e3 : (u 0).2 + ((((u K).2 - (u 0).2).toNat + t : Nat) : Int) = (u K).2 + t := by omega
      rw [e3, frG, if_pos (by omega)]
    rw [e1, e2, ih, sum_bnd hs h2, sumN]

theorem frG_find0 (s : Int) (u : Nat → Pt) (y : Int) (h0 : (u 0).2 ≤ y) : ∀ K, 0 < K → ∃ k, k < K ∧ (u k).2 ≤ y ∧ frG s u K y = bnd s (u k) (u (k + 1)) y ∧ (k + 1 < K → y < (u (k + 1)).2)
  | 0, h => absurd h (Nat.lt_irrefl 0)
  | K + 1, _ => by
    by_cases hc : (u K).2 ≤ y
    · exact ⟨K, Nat.lt_succ_self K, hc, by rw [frG, if_pos hc], fun h => by omega⟩
    · have hK : 0 < K := by
        rcases Nat.eq_zero_or_pos K with rfl | h
        · exact absurd h0 hc
        · exact h
      obtain ⟨k, h1, h2, h3, h4⟩ := frG_find0 s u y h0 K hK
      refine ⟨k, by omega, h2, by rw [frG, if_neg hc]; exact h3, fun h => ?_⟩
      rcases Nat.lt_or_eq_of_le (show k + 1 ≤ K by omega) with h5 | h5
      · exact h4 h5
      · rw [h5]; omega

theorem frG_find (s : Int) (u : Nat → Pt) (y : Int) {K : Nat} (hm : ∀ k, k < K → (u k).2 ≤ (u (k + 1)).2) (hK : 0 < K) (hl : (u (K - 1)).2 < (u K).2) (h0 : (u 0).2 ≤ y) (h1 : y ≤ (u K).2) :
    ∃ k, k < K ∧ (u k).2 ≤ y ∧ y ≤ (u (k + 1)).2 ∧ (u k).2 < (u (k + 1)).2 ∧ frG s u K y = bnd s (u k) (u (k + 1)) y ∧ (y < (u K).2 → y < (u (k + 1)).2) := by
  obtain ⟨k, a1, a2, a3, a4⟩ := frG_find0 s u y h0 K hK
  refine ⟨k, a1, a2, ?_, ?_, a3, ?_⟩ <;> rcases Nat.lt_or_eq_of_le (show k + 1 ≤ K by omega) with h5 | h5
  · exact Int.le_of_lt (a4 h5)
  · rw [h5]; exact h1
  · have := a4 h5; omega
  · have : k = K - 1 := by omega
    rw [h5, this]; exact hl
  · exact fun _ => a4 h5
  · rw [h5]; exact id

/-! the two chains of a polygon -/
structure Up (p : List Pt) (m m' : Nat) : Prop where
  m0 : 0 < m
  mn : m' < p.length
  mm : m' = m ∨ m' = m + 1
  up : ∀ i, i < m → 0 ≤ (E p i).2 ∧ ((E p i).2 = 0 → i = 0 ∧ 0 < (E p i).1)
  dn : ∀ j, m ≤ j → j < p.length → (E p j).2 ≤ 0 ∧ ((E p j).2 = 0 → j = m ∧ (E p j).1 < 0)
  ht : (vt p 0).2 < (vt p m).2
  flat : m' = m + 1 ↔ (E p m).2 = 0

theorem E2 (p : List Pt) (k : Nat) : (vt p (k + 1)).2 = (vt p k).2 + (E p k).2 := by unfold E sb; simp only; omega
theorem E1 (p : List Pt) (k : Nat) : (vt p (k + 1)).1 = (vt p k).1 + (E p k).1 := by unfold E sb; simp only; omega

theorem Sr.chains {p : List Pt} (h : Sr p) (hb : Near p) : ∃ m m', Up p m m' := by
  have hl := h.len
  obtain ⟨m, m0, mn, hu, hd⟩ := h.top
  have hx : ∀ k, -1000000 < (E p k).1 ∧ (E p k).1 < 1000000 := fun k => by
    have := hb _ (vt_mem (p := p) (by omega) (k + 1)) _ (vt_mem (p := p) (by omega) k)
    unfold E sb; exact this
  have hup : ∀ i, i < m → 0 ≤ (E p i).2 ∧ ((E p i).2 = 0 → i = 0 ∧ 0 < (E p i).1) := fun i hi => by
    have h1 := hu i hi
    have h1' := h1
    have h2 := hx i
    unfold hh at h1
    refine ⟨by omega, fun h3 => ⟨?_, by omega⟩⟩
    rcases Nat.eq_zero_or_pos i with h4 | h4
    · exact h4
    · have h5 := h.srt 0 i h4 (by omega)
      have h6 := hu 0 m0
      have h7 := hx 0
      unfold An at h5
      have h8 : 0 < cr (E p 0) (E p i) := by omega
      unfold cr at h8
      rw [h3, Int.mul_zero] at h8
      have h9 : 0 ≤ (E p 0).2 := by unfold hh at h6; omega
      have := npp h9 (show 0 ≤ (E p i).1 by omega)
      omega
  have hdn : ∀ j, m ≤ j → j < p.length → (E p j).2 ≤ 0 ∧ ((E p j).2 = 0 → j = m ∧ (E p j).1 < 0) := fun j hj hjn => by
    have h1 := hd j hj hjn
    have h1' := h1
    have h2 := hx j
    unfold hh at h1
    refine ⟨by omega, fun h3 => ⟨?_, by omega⟩⟩
    rcases Nat.lt_or_eq_of_le hj with h4 | h4
    · have h5 := h.srt m j h4 hjn
      have h6 := hd m (Nat.le_refl _) mn
      have h7 := hx m
      unfold An at h5
      have h8 : 0 < cr (E p m) (E p j) := by omega
      unfold cr at h8
      rw [h3, Int.mul_zero] at h8
      have h9 : (E p m).2 ≤ 0 := by unfold hh at h6; omega
      have := nnn h9 (show (E p j).1 ≤ 0 by omega)
      omega
    · exact h4.symm
  have hrise : ∀ a b, a ≤ b → b ≤ m → (vt p a).2 ≤ (vt p b).2 := fun a b hab hbm => rises (G := fun i => (vt p i).2) b hab (fun i h1 h2 => by
    have := E2 p i; have := (hup i (by omega)).1; omega)
  have hfall : ∀ a b, m ≤ a → a ≤ b → b ≤ p.length → (vt p b).2 ≤ (vt p a).2 := fun a b ha hab hbn => falls (G := fun i => (vt p i).2) b hab (fun i h1 h2 => by
    have := E2 p i; have := (hdn i (by omega) (by omega)).1; omega)
  have ht : (vt p 0).2 < (vt p m).2 := by
    rcases Nat.lt_or_eq_of_le (show m ≤ p.length - 1 by omega) with h1 | h1
    · have h2 := hdn (p.length - 1) (by omega) (by omega)
      have h3 := hfall m (p.length - 1) (Nat.le_refl _) (by omega) (by omega)
      have h4 := E2 p (p.length - 1)
      rw [show p.length - 1 + 1 = p.length by omega, vt_n] at h4
      omega
    · have h2 := hup 1 (by omega)
      have h3 := hrise 0 1 (by omega) (by omega)
      have h4 := hrise 2 m (by omega) (Nat.le_refl _)
      have h5 := E2 p 1
      have h6 : (vt p (1 + 1)).2 = (vt p 2).2 := rfl
      omega
  by_cases hf : (E p m).2 = 0
  · refine ⟨m, m + 1, m0, ?_, .inr rfl, hup, hdn, ht, ⟨fun _ => hf, fun _ => rfl⟩⟩
    rcases Nat.lt_or_eq_of_le (show m + 1 ≤ p.length by omega) with h1 | h1
    · exact h1
    · have h4 := E2 p m
      rw [h1, vt_n] at h4
      omega
  · exact ⟨m, m, m0, mn, .inl rfl, hup, hdn, ht, ⟨fun h1 => by omega, fun h1 => absurd h1 hf⟩⟩

/-- the left chain, from below, mirrored -/
def lu (p : List Pt) (k : Nat) : Pt := (-(vt p (p.length - k)).1, (vt p (p.length - k)).2)

/-- the bounds of a row: x ≤ rR and -x ≤ rL -/
def rR (s : Int) (p : List Pt) (m : Nat) (y : Int) : Int := frG s (vt p) m y
def rL (s : Int) (p : List Pt) (m' : Nat) (y : Int) : Int := frG s (lu p) (p.length - m') y

theorem Up.mono {p : List Pt} {m m' : Nat} (h : Up p m m') : (∀ k, k < m → (vt p k).2 ≤ (vt p (k + 1)).2) ∧ (vt p (m - 1)).2 < (vt p m).2 := by
  refine ⟨fun k hk => by have := (h.up k hk).1; have := E2 p k; omega, ?_⟩
  have h1 := h.up (m - 1) (by have := h.m0; omega)
  have h2 := E2 p (m - 1)
  have h3 := h.m0
  rw [show m - 1 + 1 = m by omega] at h2
  have h4 := h.ht
  by_cases h5 : (E p (m - 1)).2 = 0
  · have h6 := (h1.2 h5).1
    rw [h6] at h2
    have : (vt p 0).2 = (vt p m).2 := by rw [h6] at h5; omega
    omega
  · omega

theorem Up.monoL {p : List Pt} {m m' : Nat} (h : Up p m m') : (∀ k, k < p.length - m' → (lu p k).2 ≤ (lu p (k + 1)).2) ∧ (lu p (p.length - m' - 1)).2 < (lu p (p.length - m')).2 ∧ (lu p (p.length - m')).2 = (vt p m).2 := by
  have hmm := h.mm
  have hmn := h.mn
  have step : ∀ k, k < p.length - m' → (lu p (k + 1)).2 = (lu p k).2 - (E p (p.length - (k + 1))).2 := fun k hk => by
    have := E2 p (p.length - (k + 1))
    rw [show p.length - (k + 1) + 1 = p.length - k by omega] at this
    unfold lu
    simp only
    omega
  refine ⟨fun k hk => ?_, ?_, ?_⟩
  · have := step k hk
    have := (h.dn (p.length - (k + 1)) (by omega) (by omega)).1
    omega
  · have h1 := step (p.length - m' - 1) (by omega)
    rw [show p.length - m' - 1 + 1 = p.length - m' by omega, show p.length - (p.length - m') = m' by omega] at h1
    have h2 := h.dn m' (by omega) hmn
    have h3 := h.flat
    by_cases h4 : (E p m').2 = 0
    · have h5 := (h2.2 h4).1
      rw [h5] at h4
      have := h3.2 h4
      omega
    · omega
  · unfold lu
    simp only
    rw [show p.length - (p.length - m') = m' by omega]
    rcases hmm with h1 | h1
    · rw [h1]
    · have := E2 p m
      have := h.flat.1 h1
      rw [h1]; omega

/-- a row of a region -/
structure Row (p : List Pt) (m m' : Nat) (s y : Int) (i j : Nat) : Prop where
  im : i < m
  jm : m ≤ j
  jn : j < p.length
  i1 : (vt p i).2 ≤ y
  i2 : y ≤ (vt p (i + 1)).2
  i3 : (vt p i).2 < (vt p (i + 1)).2
  j1 : (vt p (j + 1)).2 ≤ y
  j2 : y ≤ (vt p j).2
  j3 : (vt p (j + 1)).2 < (vt p j).2
  i4 : y < (vt p m).2 → y < (vt p (i + 1)).2
  r : ∀ x, x ≤ rR s p m y ↔ s ≤ side p (x, y) i
  l : ∀ x, -x ≤ rL s p m' y ↔ s ≤ side p (x, y) j

theorem Up.row {p : List Pt} {m m' : Nat} (h : Up p m m') (s y : Int) (h1 : (vt p 0).2 ≤ y) (h2 : y ≤ (vt p m).2) : ∃ i j, Row p m m' s y i j := by
  have hmm := h.mm
  have hmn := h.mn
  obtain ⟨ma, mb⟩ := h.mono
  obtain ⟨la, lb, lc⟩ := h.monoL
  obtain ⟨i, a1, a2, a3, a4, a5, a6⟩ := frG_find s (vt p) y ma h.m0 mb h1 h2
  obtain ⟨k, b1, b2, b3, b4, b5, b6⟩ := frG_find s (lu p) y la (by omega) lb (by
    have : (lu p 0).2 = (vt p 0).2 := by unfold lu; simp only; rw [Nat.sub_zero, vt_n]
    omega) (by omega)
  obtain ⟨j, hj⟩ : ∃ j, j = p.length - (k + 1) := ⟨_, rfl⟩
  have hj1 : p.length - k = j + 1 := by omega
  have e1 : lu p (k + 1) = (-(vt p j).1, (vt p j).2) := by unfold lu; rw [← hj]
  have e2 : lu p k = (-(vt p (j + 1)).1, (vt p (j + 1)).2) := by unfold lu; rw [hj1]
  rw [e2] at b2
  rw [e1] at b3
  rw [e1, e2] at b4 b5
  simp only at b2 b3 b4
  refine ⟨i, j, a1, by omega, by omega, a2, a3, a4, b2, b3, b4, a6, fun x => ?_, fun x => ?_⟩
  · unfold rR
    rw [a5, bnd_iff a4, side_E (by omega)]
    have : (vt p (i + 1)).1 - (vt p i).1 = (E p i).1 := by have := E1 p i; omega
    rw [this]
    have : (vt p (i + 1)).2 - (vt p i).2 = (E p i).2 := by have := E2 p i; omega
    rw [this]
    unfold cr
    simp only
    have : (E p i).1 * (y - (vt p i).2) - (E p i).2 * (x - (vt p i).1) = (E p i).1 * y - (E p i).2 * x - ((E p i).1 * (vt p i).2 - (E p i).2 * (vt p i).1) := by grind
    omega
  · unfold rL
    rw [b5, bnd_iff (a := (-(vt p (j + 1)).1, (vt p (j + 1)).2)) (b := (-(vt p j).1, (vt p j).2)) b4, side_E (by omega)]
    simp only
    have e5 := E1 p j
    have e6 := E2 p j
    have e7 := cr_E_vt p j
    rw [← e7]
    unfold cr
    simp only
    have f1 : -(vt p j).1 - -(vt p (j + 1)).1 = (E p j).1 := by omega
    have f2 : (vt p j).2 - (vt p (j + 1)).2 = -(E p j).2 := by omega
    rw [f1, f2]
    have : (E p j).1 * (y - (vt p (j + 1)).2) - -(E p j).2 * (-x - -(vt p (j + 1)).1) = (E p j).1 * y - (E p j).2 * x - ((E p j).1 * (vt p (j + 1)).2 - (E p j).2 * (vt p (j + 1)).1) := by grind
    omega

/-- a linear function on a row, by an edge that crosses it -/
theorem on_row (e a b z : Pt) (c : Int) : (b.2 - a.2) * (cr e z - c) = (b.2 - z.2) * (cr e a - c) + (z.2 - a.2) * (cr e b - c) + e.2 * cr (sb b a) (sb z a) := by
  unfold cr sb; grind

theorem Row.at_i {p : List Pt} {m m' : Nat} {s y : Int} {i j : Nat} (h : Row p m m' s y i j) (e : Pt) (c x : Int) :
    ((vt p (i + 1)).2 - (vt p i).2) * (cr e (x, y) - c) = ((vt p (i + 1)).2 - y) * (cr e (vt p i) - c) + (y - (vt p i).2) * (cr e (vt p (i + 1)) - c) + e.2 * side p (x, y) i := by
  have := on_row e (vt p i) (vt p (i + 1)) (x, y) c
  have h1 : i < p.length := by have := h.im; have := h.jm; have := h.jn; omega
  rw [this, side_E h1]
  have e2 : cr (sb (vt p (i + 1)) (vt p i)) (sb (x, y) (vt p i)) = cr (E p i) (x, y) - cr (E p i) (vt p i) := by rw [cr_sb]; rfl
  rw [e2]
theorem Row.at_j {p : List Pt} {m m' : Nat} {s y : Int} {i j : Nat} (h : Row p m m' s y i j) (e : Pt) (c x : Int) :
    ((vt p j).2 - (vt p (j + 1)).2) * (cr e (x, y) - c) = ((vt p j).2 - y) * (cr e (vt p (j + 1)) - c) + (y - (vt p (j + 1)).2) * (cr e (vt p j) - c) - e.2 * side p (x, y) j := by
  have := on_row e (vt p (j + 1)) (vt p j) (x, y) c
  rw [this, side_E h.jn]
  have e2 : cr (sb (vt p j) (vt p (j + 1))) (sb (x, y) (vt p (j + 1))) = -(cr (E p j) (x, y) - cr (E p j) (vt p j)) := by
    have e3 : sb (vt p j) (vt p (j + 1)) = (0 - (E p j).1, 0 - (E p j).2) := by unfold E sb; exact Prod.ext (by simp only; omega) (by simp only; omega)
    have e4 := cr_E_vt p j
    rw [cr_sb, e3]
    have e5 : ∀ v, cr (0 - (E p j).1, 0 - (E p j).2) v = - cr (E p j) v := fun v => by unfold cr; grind
    rw [e5, e5, e4]; omega
  rw [e2, Int.mul_neg]; simp only; omega

theorem Row.inC {p : List Pt} {m m' : Nat} {y : Int} {i j : Nat} (h : Row p m m' 0 y i j) (hs : Sr p) (x : Int) : InC p (x, y) ↔ x ≤ rR 0 p m y ∧ -x ≤ rL 0 p m' y := by
  have hi : i < p.length := by have := h.im; have := h.jm; have := h.jn; omega
  have hl := hs.len
  rw [h.r, h.l]
  constructor
  · exact fun hc => ⟨hc i hi, hc j h.jn⟩
  · rintro ⟨h1, h2⟩ k hk
    have hv : ∀ q, 0 ≤ cr (E p k) (vt p q) - cr (E p k) (vt p k) := fun q => by
      have := hs.in_self (vt_mem (p := p) (by omega) q) k hk
      rw [side_E hk] at this
      exact this
    rw [side_E hk]
    rcases Int.lt_or_le (E p k).2 0 with hn | hn
    · have e := h.at_j (E p k) (cr (E p k) (vt p k)) x
      have a1 := npp (show 0 ≤ (vt p j).2 - y by have := h.j2; omega) (hv (j + 1))
      have a2 := npp (show 0 ≤ y - (vt p (j + 1)).2 by have := h.j1; omega) (hv j)
      have a3 := nnp (Int.le_of_lt hn) h2
      have := h.j3
      refine fnon (b := (vt p j).2 - (vt p (j + 1)).2) ?_ (by omega)
      rw [Int.mul_comm, e]; omega
    · have e := h.at_i (E p k) (cr (E p k) (vt p k)) x
      have a1 := npp (show 0 ≤ (vt p (i + 1)).2 - y by have := h.i2; omega) (hv i)
      have a2 := npp (show 0 ≤ y - (vt p i).2 by have := h.i1; omega) (hv (i + 1))
      have a3 := npp hn h1
      have := h.i3
      refine fnon (b := (vt p (i + 1)).2 - (vt p i).2) ?_ (by omega)
      rw [Int.mul_comm, e]; omega

theorem Row.inI {p : List Pt} {m m' : Nat} {y : Int} {i j : Nat} (h : Row p m m' 1 y i j) (hs : Sr p) (hu : Up p m m') (y1 : (vt p 0).2 < y) (y2 : y < (vt p m).2) (x : Int) : InI p (x, y) ↔ x ≤ rR 1 p m y ∧ -x ≤ rL 1 p m' y := by
  have hi : i < p.length := by have := h.im; have := h.jm; have := h.jn; omega
  have hl := hs.len
  rw [h.r, h.l]
  constructor
  · exact fun hc => ⟨hc i hi, hc j h.jn⟩
  · rintro ⟨h1, h2⟩ k hk
    have hv : ∀ q, 0 ≤ cr (E p k) (vt p q) - cr (E p k) (vt p k) := fun q => by
      have := hs.in_self (vt_mem (p := p) (by omega) q) k hk
      rw [side_E hk] at this
      exact this
    rw [side_E hk]
    rcases Int.lt_trichotomy (E p k).2 0 with hn | hn | hn
    · have e := h.at_j (E p k) (cr (E p k) (vt p k)) x
      have a1 := npp (show 0 ≤ (vt p j).2 - y by have := h.j2; omega) (hv (j + 1))
      have a2 := npp (show 0 ≤ y - (vt p (j + 1)).2 by have := h.j1; omega) (hv j)
      have a3 := mnp hn (show 0 < side p (x, y) j by omega)
      have := h.j3
      refine fpos (b := (vt p j).2 - (vt p (j + 1)).2) ?_ (by omega)
      rw [Int.mul_comm, e]; omega
    · have e1 : cr (E p k) (x, y) - cr (E p k) (vt p k) = (E p k).1 * (y - (vt p k).2) := by
        unfold cr; rw [hn]; simp only; grind
      rw [e1]
      rcases Nat.lt_or_ge k m with hk2 | hk2
      · obtain ⟨z1, z2⟩ := (hu.up k hk2).2 hn
        subst z1
        exact mpp z2 (by omega)
      · obtain ⟨z1, z2⟩ := (hu.dn k hk2 hk).2 hn
        subst z1
        exact mnn z2 (by omega)
    · have e := h.at_i (E p k) (cr (E p k) (vt p k)) x
      have a1 := npp (show 0 ≤ (vt p (i + 1)).2 - y by have := h.i2; omega) (hv i)
      have a2 := npp (show 0 ≤ y - (vt p i).2 by have := h.i1; omega) (hv (i + 1))
      have a3 := mpp hn (show 0 < side p (x, y) i by omega)
      have := h.i3
      refine fpos (b := (vt p (i + 1)).2 - (vt p i).2) ?_ (by omega)
      rw [Int.mul_comm, e]; omega

theorem Row.width0 {p : List Pt} {m m' : Nat} {y : Int} {i j : Nat} (h : Row p m m' 0 y i j) (hs : Sr p) : 0 ≤ rR 0 p m y + rL 0 p m' y + 1 := by
  have hl := hs.len
  refine Int.le_of_not_gt fun hlt => ?_
  have h1 := h.r (rR 0 p m y + 1)
  have h2 := h.l (rR 0 p m y + 1)
  obtain ⟨x, hx⟩ : ∃ x, x = rR 0 p m y + 1 := ⟨_, rfl⟩
  rw [← hx] at h1 h2
  have h1' : side p (x, y) i < 0 := by omega
  have h2' : side p (x, y) j < 0 := by omega
  have hv : ∀ q, 0 ≤ cr (E p j) (vt p q) - cr (E p j) (vt p j) := fun q => by
    have := hs.in_self (vt_mem (p := p) (by omega) q) j h.jn
    rw [side_E h.jn] at this
    exact this
  have e := h.at_i (E p j) (cr (E p j) (vt p j)) x
  have a1 := npp (show 0 ≤ (vt p (i + 1)).2 - y by have := h.i2; omega) (hv i)
  have a2 := npp (show 0 ≤ y - (vt p i).2 by have := h.i1; omega) (hv (i + 1))
  have e2 := E2 p j
  have j3 := h.j3
  have i3 := h.i3
  have a3 := mnn (show (E p j).2 < 0 by omega) h1'
  rw [side_E h.jn] at h2'
  have := mpn (show 0 < (vt p (i + 1)).2 - (vt p i).2 by omega) h2'
  omega

theorem Row.width1 {p : List Pt} {m m' : Nat} {y : Int} {i j : Nat} (h : Row p m m' 1 y i j) (hs : Sr p) (y1 : (vt p 0).2 < y) (y2 : y < (vt p m).2) : 0 ≤ rR 1 p m y + rL 1 p m' y + 1 := by
  have hl := hs.len
  have him := h.im
  have hjm := h.jm
  have hjn := h.jn
  refine Int.le_of_not_gt fun hlt => ?_
  have h1 := h.r (rR 1 p m y + 1)
  have h2 := h.l (rR 1 p m y + 1)
  obtain ⟨x, hx⟩ : ∃ x, x = rR 1 p m y + 1 := ⟨_, rfl⟩
  rw [← hx] at h1 h2
  have h1' : side p (x, y) i ≤ 0 := by omega
  have h2' : side p (x, y) j ≤ 0 := by omega
  have hv : ∀ q, 0 ≤ cr (E p j) (vt p q) - cr (E p j) (vt p j) := fun q => by
    have := hs.in_self (vt_mem (p := p) (by omega) q) j h.jn
    rw [side_E h.jn] at this
    exact this
  have hvs : ∀ q, q < p.length → q ≠ j → q ≠ (j + 1) % p.length → 0 < cr (E p j) (vt p q) - cr (E p j) (vt p j) := fun q hq n1 n2 => by
    have := hs.cv.left j q h.jn hq n1 n2
    rw [side_E h.jn, ← vt_lt hq] at this
    exact this
  have e := h.at_i (E p j) (cr (E p j) (vt p j)) x
  have e2 := E2 p j
  have j3 := h.j3
  have i3 := h.i3
  have i4 := h.i4 y2
  have a3 := nnn (show (E p j).2 ≤ 0 by omega) h1'
  rw [side_E h.jn] at h2'
  have b := npn (show 0 ≤ (vt p (i + 1)).2 - (vt p i).2 by omega) h2'
  by_cases hc : i = (j + 1) % p.length
  · have hj : j + 1 = p.length := by
      rcases Nat.lt_or_eq_of_le (show j + 1 ≤ p.length by omega) with h5 | h5
      · rw [Nat.mod_eq_of_lt h5] at hc; omega
      · exact h5
    rw [hj, Nat.mod_self] at hc
    subst hc
    have a1 := npp (show 0 ≤ (vt p (0 + 1)).2 - y by omega) (hv 0)
    have a2 := mpp (show 0 < y - (vt p 0).2 by omega) (hvs (0 + 1) (by omega) (by omega) (by rw [hj, Nat.mod_self]; omega))
    omega
  · have a1 := mpp (show 0 < (vt p (i + 1)).2 - y by omega) (hvs i (by omega) (by omega) hc)
    have a2 := npp (show 0 ≤ y - (vt p i).2 by have := h.i1; omega) (hv (i + 1))
    omega

end Go.Proofs.Ytjmklbkcpjmcaaa.V

namespace Go.Proofs.Ytjmklbkcpjmcaaa.V
open Go Go.RowKit Go.Proofs.Ytjmklbkcpjmcaaa.H
set_option linter.unusedVariables false
set_option linter.unusedSimpArgs false

theorem sumN_le {f g : Nat → Int} : ∀ n, (∀ k, k < n → f k ≤ g k) → sumN f n ≤ sumN g n
  | 0, _ => Int.le_refl _
  | n + 1, h => by
    have := sumN_le n (fun k hk => h k (by omega)); have := h n (by omega); simp only [sumN]; omega

/-- how many points of a row lie so -/
def cntRow (Q : Int → Prop) [DecidablePred Q] : Int := sumN (fun ix => if Q ((ix : Nat) - 499999) then 1 else 0) 999999
/-- how many lattice points lie in a polygon, and in its interior -/
def cC (p : List Pt) : Int := sumN (fun iy => cntRow fun x => InC p (x, (iy : Nat) - 499999)) 999999
def cI (p : List Pt) : Int := sumN (fun iy => cntRow fun x => InI p (x, (iy : Nat) - 499999)) 999999

theorem cntRow_le {Q R : Int → Prop} [DecidablePred Q] [DecidablePred R] (h : ∀ x, Q x → R x) : cntRow Q ≤ cntRow R :=
  sumN_le _ fun k _ => by
    split
    · next h1 => rw [if_pos (h _ h1)]; exact Int.le_refl _
    · split <;> omega

theorem cC_le {p q : List Pt} (h : ∀ x, InC p x → InC q x) : cC p ≤ cC q := sumN_le _ fun k _ => cntRow_le fun x hx => h _ hx
theorem cI_le {p q : List Pt} (h : ∀ x, InI p x → InI q x) : cI p ≤ cI q := sumN_le _ fun k _ => cntRow_le fun x hx => h _ hx

theorem cntRow_none {Q : Int → Prop} [DecidablePred Q] (h : ∀ x, ¬ Q x) : cntRow Q = 0 := sumN_zero _ fun k _ => if_neg (h _)

theorem cntRow_iv {Q : Int → Prop} [DecidablePred Q] {R L : Int} (h : ∀ x, Q x ↔ x ≤ R ∧ -x ≤ L) (hin : ∀ x, Q x → -499999 ≤ x ∧ x ≤ 499999) (hw : 0 ≤ R + L + 1) : cntRow Q = R + L + 1 := by
  have key : ∀ N : Nat, sumN (fun ix => if Q ((ix : Nat) - 499999) then (1 : Int) else 0) N = max 0 (min (R + 500000) N - max (499999 - L) 0) := by
    intro N
    induction N with
    | zero => simp only [sumN]; omega
    | succ N ih =>
      simp only [sumN]
      rw [ih]
      by_cases hq : Q ((N : Nat) - 499999)
      · rw [if_pos hq]
        have := (h _).1 hq
        omega
      · rw [if_neg hq]
        have : ¬ (((N : Nat) : Int) - 499999 ≤ R ∧ -(((N : Nat) : Int) - 499999) ≤ L) := fun h1 => hq ((h _).2 h1)
        omega
  unfold cntRow
  rw [key]
  by_cases h0 : R + L + 1 = 0
  · omega
  · have h1 := hin R ((h R).2 ⟨by omega, by omega⟩)
    have h2 := hin (-L) ((h (-L)).2 ⟨by omega, by omega⟩)
    omega

theorem eq_of_le_iff {a b : Int} (h : ∀ x, x ≤ a ↔ x ≤ b) : a = b := by
  have h1 := (h a).1 (Int.le_refl _)
  have h2 := (h b).2 (Int.le_refl _)
  omega

section
variable {p : List Pt} {m m' : Nat}

theorem Up.rise (hu : Up p m m') {a b : Nat} (hab : a ≤ b) (hb : b ≤ m) : (vt p a).2 ≤ (vt p b).2 :=
  rises (G := fun i => (vt p i).2) b hab fun i h1 h2 => by have := E2 p i; have := (hu.up i (by omega)).1; omega
theorem Up.fall (hu : Up p m m') {a b : Nat} (ha : m ≤ a) (hab : a ≤ b) (hb : b ≤ p.length) : (vt p b).2 ≤ (vt p a).2 :=
  falls (G := fun i => (vt p i).2) b hab fun i h1 h2 => by have := E2 p i; have := (hu.dn i (by omega) (by omega)).1; omega
theorem Up.range (hu : Up p m m') {v : Pt} (hv : v ∈ p) : (vt p 0).2 ≤ v.2 ∧ v.2 ≤ (vt p m).2 := by
  obtain ⟨k, hk, rfl⟩ := mem_vt hv
  have hmn : m ≤ p.length := by have := hu.mn; have := hu.mm; omega
  rcases Nat.lt_or_ge k m with h | h
  · exact ⟨hu.rise (Nat.zero_le _) (Nat.le_of_lt h), hu.rise (Nat.le_of_lt h) (Nat.le_refl _)⟩
  · have h1 := hu.fall h (Nat.le_of_lt hk) (Nat.le_refl _)
    rw [vt_n] at h1
    exact ⟨h1, hu.fall (Nat.le_refl _) h (Nat.le_of_lt hk)⟩

theorem Sr.box (hs : Sr p) (hu : Up p m m') (hb : ∀ v ∈ p, -499999 ≤ v.1 ∧ v.1 ≤ 499999) {x y : Int} : (InC p (x, y) → (vt p 0).2 ≤ y ∧ y ≤ (vt p m).2 ∧ -499999 ≤ x ∧ x ≤ 499999) ∧ (InI p (x, y) → (vt p 0).2 < y ∧ y < (vt p m).2) := by
  obtain ⟨v1, a1, _, a2, a3⟩ := hs.corner (e := (1, 0)) (by decide)
  obtain ⟨v2, b1, _, b2, b3⟩ := hs.corner (e := (-1, 0)) (by decide)
  obtain ⟨v3, c1, _, c2, _⟩ := hs.corner (e := (0, 1)) (by decide)
  obtain ⟨v4, d1, _, d2, _⟩ := hs.corner (e := (0, -1)) (by decide)
  have e1 := hu.range a1
  have e2 := hu.range b1
  have e3 := hb _ c1
  have e4 := hb _ d1
  unfold cr at *
  simp only at *
  constructor
  · intro h
    have := a2 _ h
    have := b2 _ h
    have := c2 _ h
    have := d2 _ h
    simp only at *
    omega
  · intro h
    have := a3 _ h
    have := b3 _ h
    simp only at *
    omega

theorem Up.top (hu : Up p m m') (hs : Sr p) : rR 0 p m (vt p m).2 = (vt p m).1 ∧ rL 0 p m' (vt p m).2 = -(vt p m').1 := by
  have hmm := hu.mm
  have hmn := hu.mn
  obtain ⟨i, j, h⟩ := hu.row 0 (vt p m).2 (Int.le_of_lt hu.ht) (Int.le_refl _)
  have him := h.im
  have hjm := h.jm
  have hjn := h.jn
  have hi : i + 1 = m := by
    rcases Nat.lt_or_eq_of_le (show i + 1 ≤ m by omega) with h1 | h1
    · have h2 := hu.up (i + 1) h1
      have h3 := E2 p (i + 1)
      have h4 := hu.rise (a := i + 1 + 1) (b := m) (by omega) (Nat.le_refl _)
      have h5 := h.i2
      have : (E p (i + 1)).2 ≠ 0 := fun h6 => by have := (h2.2 h6).1; omega
      omega
    · exact h1
  have hj : j = m' := by
    have h2 := h.j2
    have h3 := h.j3
    have h4 := E2 p j
    rcases Nat.lt_or_ge m' j with h1 | h1
    · have h5 := hu.dn m' (by omega) hmn
      have h6 := E2 p m'
      have h7 := hu.fall (a := m' + 1) (b := j) (by omega) (by omega) (by omega)
      have h8 := hu.fall (a := m) (b := m') (Nat.le_refl _) (by omega) (by omega)
      have : (E p m').2 ≠ 0 := fun h9 => by
        have h10 := (h5.2 h9).1
        rw [h10] at h9
        have := hu.flat.2 h9
        omega
      omega
    · rcases hmm with h5 | h5
      · omega
      · have := hu.flat.1 h5
        have : j ≠ m := fun h6 => by rw [h6] at h4 h3; omega
        omega
  constructor
  · refine eq_of_le_iff fun x => ?_
    rw [h.r, side_E (by omega), ← cr_E_vt, hi]
    have e2 := E2 p i
    rw [hi] at e2
    have i3 := h.i3
    rw [hi] at i3
    have e : cr (E p i) (x, (vt p m).2) - cr (E p i) (vt p m) = (E p i).2 * ((vt p m).1 - x) := by unfold cr; simp only; grind
    rw [e]
    constructor
    · intro h1
      have := fnon (a := (vt p m).1 - x) (b := (E p i).2) (by rw [Int.mul_comm]; exact h1) (by omega)
      omega
    · intro h1
      exact npp (by omega) (by omega)
  · refine eq_of_le_iff fun x => ?_
    have h1 := h.l (-x)
    rw [Int.neg_neg] at h1
    rw [h1, side_E hjn, hj]
    have e2 := E2 p j
    rw [hj] at e2
    have j3 := h.j3
    rw [hj] at j3
    have ey : (vt p m').2 = (vt p m).2 := by
      rcases hmm with h5 | h5
      · rw [h5]
      · have := hu.flat.1 h5
        have := E2 p m
        rw [h5]; omega
    have e : cr (E p m') (-x, (vt p m).2) - cr (E p m') (vt p m') = (E p m').2 * (x + (vt p m').1) := by
      rw [← ey]; unfold cr; simp only; grind
    rw [e]
    constructor
    · intro h1
      have := gnop (a := x + (vt p m').1) (b := (E p m').2) (by rw [Int.mul_comm]; exact h1) (by omega)
      omega
    · intro h1
      exact nnn (by omega) (by omega)

/-- the length of a flat edge below -/
def W0 (p : List Pt) : Int := if (E p 0).2 = 0 then (E p 0).1 else 0

theorem Up.bottom (hu : Up p m m') (hs : Sr p) : rR 1 p m (vt p 0).2 = (vt p 0).1 + W0 p - 1 ∧ rL 1 p m' (vt p 0).2 = -(vt p 0).1 - 1 := by
  have hmm := hu.mm
  have hmn := hu.mn
  obtain ⟨i, j, h⟩ := hu.row 1 (vt p 0).2 (Int.le_refl _) (Int.le_of_lt hu.ht)
  have him := h.im
  have hjm := h.jm
  have hjn := h.jn
  have hyi : (vt p i).2 = (vt p 0).2 := by have := h.i1; have := hu.rise (a := 0) (b := i) (Nat.zero_le _) (by omega); omega
  have hx : (vt p i).1 = (vt p 0).1 + W0 p := by
    have e2 := E2 p 0
    have e1 := E1 p 0
    unfold W0
    rcases Nat.eq_zero_or_pos i with h1 | h1
    · subst h1
      have i3 := h.i3
      rw [if_neg (by omega)]; omega
    · have h3 := hu.rise (a := 0 + 1) (b := i) (by omega) (by omega)
      have h4 := (hu.up 0 (by omega)).1
      rw [if_pos (by omega)]
      rcases Nat.lt_or_eq_of_le (show 1 ≤ i by omega) with h5 | h5
      · have h6 := hu.up 1 (by omega)
        have h7 := E2 p 1
        have h8 := hu.rise (a := 1 + 1) (b := i) (by omega) (by omega)
        have h9 := hu.rise (a := 0) (b := 1) (by omega) (by omega)
        have : (E p 1).2 ≠ 0 := fun h10 => by have := (h6.2 h10).1; omega
        omega
      · rw [← h5]; exact e1
  have hj : j + 1 = p.length := by
    rcases Nat.lt_or_eq_of_le (show j + 1 ≤ p.length by omega) with h1 | h1
    · have h2 := hu.dn (p.length - 1) (by omega) (by omega)
      have h3 := E2 p (p.length - 1)
      rw [show p.length - 1 + 1 = p.length by omega, vt_n] at h3
      have h4 := hu.fall (a := j + 1) (b := p.length - 1) (by omega) (by omega) (by omega)
      have h5 := h.j1
      have : (E p (p.length - 1)).2 ≠ 0 := fun h6 => by have := (h2.2 h6).1; omega
      omega
    · exact h1
  constructor
  · refine eq_of_le_iff fun x => ?_
    rw [h.r, side_E (by omega)]
    have e2 := E2 p i
    have i3 := h.i3
    have e : cr (E p i) (x, (vt p 0).2) - cr (E p i) (vt p i) = (E p i).2 * ((vt p i).1 - x) := by rw [← hyi]; unfold cr; simp only; grind
    rw [e, ← hx]
    constructor
    · intro h1
      have := fpos (a := (vt p i).1 - x) (b := (E p i).2) (by rw [Int.mul_comm]; omega) (by omega)
      omega
    · intro h1
      exact mpp (by omega) (by omega)
  · refine eq_of_le_iff fun x => ?_
    have h1 := h.l (-x)
    rw [Int.neg_neg] at h1
    rw [h1, side_E hjn, ← cr_E_vt, hj, vt_n]
    have e2 := E2 p j
    have j3 := h.j3
    have e : cr (E p j) (-x, (vt p 0).2) - cr (E p j) (vt p 0) = (E p j).2 * (x + (vt p 0).1) := by unfold cr; simp only; grind
    rw [e]
    constructor
    · intro h1
      have := gneg (a := x + (vt p 0).1) (b := (E p j).2) (by rw [Int.mul_comm]; omega) (by omega)
      omega
    · intro h1
      exact mnn (by omega) (by omega)

/-! the sums of the bounds -/
def Tz (s : Int) (p : List Pt) (k : Nat) : Int := ((vt p k).1 + (vt p (k + 1)).1) * ((vt p (k + 1)).2 - (vt p k).2) + (1 - 2 * s) * (gcdE (vt p k) (vt p (k + 1)) : Nat)

theorem gcdE_flat {a b : Pt} (h : a.2 = b.2) : (gcdE a b : Int) = ((b.1 - a.1).natAbs : Nat) := by
  unfold gcdE
  rw [h, Int.sub_self]
  simp

theorem gcdE_mu (a b : Pt) : gcdE (-b.1, b.2) (-a.1, a.2) = gcdE a b := by
  unfold gcdE
  congr 1
  · simp only; omega
  · simp only; omega

theorem sumN_only (c : Int) : ∀ m, 0 < m → sumN (fun k => if k = 0 then c else 0) m = c
  | 0, h => absurd h (Nat.lt_irrefl 0)
  | m + 1, _ => by
    rw [sumN_first, sumN_zero m (fun k _ => if_neg (by omega))]; simp

theorem Up.sumR (hu : Up p m m') {s : Int} (hs : s = 0 ∨ s = 1) : sumN (fun k => Fz s (vt p k) (vt p (k + 1))) m = sumN (Tz s p) m - ((vt p m).1 - (vt p 0).1) - ((vt p m).2 - (vt p 0).2) + 2 * s * W0 p := by
  have e : sumN (fun k => Fz s (vt p k) (vt p (k + 1))) m = sumN (fun k => (Tz s p k - ((vt p (k + 1)).1 - (vt p k).1)) - ((vt p (k + 1)).2 - (vt p k).2) + (if k = 0 then 2 * s * W0 p else 0)) m := sumN_congr m fun k hk => by
    have e1 := E1 p k
    have e2 := E2 p k
    have h1 := hu.up k hk
    unfold Fz Tz
    by_cases hf : (vt p k).2 = (vt p (k + 1)).2
    · obtain ⟨hk0, hx⟩ := h1.2 (by omega)
      subst hk0
      rw [if_pos hf, if_pos rfl, gcdE_flat hf, hf, Int.sub_self, Int.mul_zero]
      have hW : W0 p = (E p 0).1 := by unfold W0; rw [if_pos (by omega)]
      rw [hW]
      rcases hs with rfl | rfl <;> omega
    · rw [if_neg hf]
      split
      · next hk0 =>
        subst hk0
        have hW : W0 p = 0 := by unfold W0; rw [if_neg (by omega)]
        rw [hW]; omega
      · omega
  rw [e, sumN_plus (fun k => (Tz s p k - ((vt p (k + 1)).1 - (vt p k).1)) - ((vt p (k + 1)).2 - (vt p k).2)), sumN_only _ m hu.m0, sumN_minus (fun k => Tz s p k - ((vt p (k + 1)).1 - (vt p k).1)), sumN_minus (Tz s p), sumN_tele (fun k => (vt p k).1), sumN_tele (fun k => (vt p k).2)]

theorem Up.sumL (hu : Up p m m') {s : Int} (hs : s = 0 ∨ s = 1) : sumN (fun k => Fz s (lu p k) (lu p (k + 1))) (p.length - m') = sumN (fun k => Tz s p (m + k)) (p.length - m) - ((vt p 0).1 - (vt p m).1) + ((vt p 0).2 - (vt p m).2) - 2 * (1 - s) * ((vt p m).1 - (vt p m').1) := by
  have hmm := hu.mm
  have hmn := hu.mn
  rw [sumN_rev]
  have e : sumN (fun k => Fz s (lu p (p.length - m' - 1 - k)) (lu p (p.length - m' - 1 - k + 1))) (p.length - m') = sumN (fun k => (Tz s p (m' + k) - ((vt p (m' + (k + 1))).1 - (vt p (m' + k)).1)) + ((vt p (m' + (k + 1))).2 - (vt p (m' + k)).2)) (p.length - m') := sumN_congr _ fun k hk => by
    have a1 : p.length - (p.length - m' - 1 - k) = m' + k + 1 := by omega
    have a2 : p.length - (p.length - m' - 1 - k + 1) = m' + k := by omega
    unfold lu
    rw [a1, a2, ← Nat.add_assoc]
    have e2 := E2 p (m' + k)
    have h1 := hu.dn (m' + k) (by omega) (by omega)
    have hne : (E p (m' + k)).2 ≠ 0 := fun h2 => by
      have h3 := (h1.2 h2).1
      rw [h3] at h2
      have := hu.flat.2 h2
      omega
    unfold Fz Tz
    rw [if_neg (by simp only; omega), gcdE_mu]
    simp only
    have : (-(vt p (m' + k + 1)).1 + -(vt p (m' + k)).1) * ((vt p (m' + k)).2 - (vt p (m' + k + 1)).2) = ((vt p (m' + k)).1 + (vt p (m' + k + 1)).1) * ((vt p (m' + k + 1)).2 - (vt p (m' + k)).2) := by grind
    rw [this]
    omega
  rw [e, sumN_plus (fun k => Tz s p (m' + k) - ((vt p (m' + (k + 1))).1 - (vt p (m' + k)).1)), sumN_minus (fun k => Tz s p (m' + k)), sumN_tele (fun k => (vt p (m' + k)).1), sumN_tele (fun k => (vt p (m' + k)).2)]
  rw [show m' + (p.length - m') = p.length by omega, vt_n, Nat.add_zero]
  rcases hmm with h1 | h1
  · subst h1; rcases hs with rfl | rfl <;> omega
  · have hf := hu.flat.1 h1
    have e1 := E1 p m
    have e2 := E2 p m
    have hd := (hu.dn m (Nat.le_refl _) (by omega)).2 hf
    rw [show p.length - m = (p.length - m') + 1 by omega, sumN_first (fun k => Tz s p (m + k))]
    have e3 : sumN (fun k => Tz s p (m + (1 + k))) (p.length - m') = sumN (fun k => Tz s p (m' + k)) (p.length - m') := sumN_congr _ fun k _ => by
      rw [show m + (1 + k) = m' + k by omega]
    rw [e3, Nat.add_zero]
    have e4 : Tz s p m = (1 - 2 * s) * ((vt p m).1 - (vt p m').1) := by
      unfold Tz
      rw [gcdE_flat (by omega), show (vt p (m + 1)).2 - (vt p m).2 = 0 by omega, Int.mul_zero, h1]
      rcases hs with rfl | rfl <;> omega
    rw [e4]
    rw [h1]
    rcases hs with rfl | rfl <;> omega

theorem sum_T (s : Int) : sumN (Tz s p) p.length = areaC p + (1 - 2 * s) * onC p := by
  have e : sumN (Tz s p) p.length = sumN (fun k => crossP (nth p k) (nx p k) + ((vt p (k + 1)).1 * (vt p (k + 1)).2 - (vt p k).1 * (vt p k).2) + (1 - 2 * s) * (gcdE (nth p k) (nx p k) : Nat)) p.length := sumN_congr _ fun k hk => by
    unfold Tz
    rw [← vt_nx, ← vt_lt hk]
    have : ((vt p k).1 + (vt p (k + 1)).1) * ((vt p (k + 1)).2 - (vt p k).2) = crossP (vt p k) (vt p (k + 1)) + ((vt p (k + 1)).1 * (vt p (k + 1)).2 - (vt p k).1 * (vt p k).2) := by unfold crossP crossI; grind
    rw [this]
  rw [e, sumN_plus (fun k => crossP (nth p k) (nx p k) + ((vt p (k + 1)).1 * (vt p (k + 1)).2 - (vt p k).1 * (vt p k).2)), sumN_plus (fun k => crossP (nth p k) (nx p k)), sumN_tele (fun k => (vt p k).1 * (vt p k).2), sumN_mulc, vt_n]
  unfold areaC onC
  omega

theorem Up.sums (hu : Up p m m') {s : Int} (hs : s = 0 ∨ s = 1) : 2 * sumN (fun t => rR s p m ((vt p 0).2 + t)) ((vt p m).2 - (vt p 0).2).toNat + 2 * sumN (fun t => rL s p m' ((vt p 0).2 + t)) ((vt p m).2 - (vt p 0).2).toNat = areaC p + (1 - 2 * s) * onC p - 2 * ((vt p m).2 - (vt p 0).2) + 2 * s * W0 p - 2 * (1 - s) * ((vt p m).1 - (vt p m').1) := by
  have hmm := hu.mm
  have hmn := hu.mn
  have h1 := frG_sum hs (vt p) m hu.mono.1
  obtain ⟨la, _, lc⟩ := hu.monoL
  have h2 := frG_sum hs (lu p) (p.length - m') la
  rw [lc] at h2
  have l0 : (lu p 0).2 = (vt p 0).2 := by unfold lu; simp only; rw [Nat.sub_zero, vt_n]
  rw [l0] at h2
  have e1 : sumN (fun t => rR s p m ((vt p 0).2 + t)) ((vt p m).2 - (vt p 0).2).toNat = sumN (fun t => frG s (vt p) m ((vt p 0).2 + t)) ((vt p m).2 - (vt p 0).2).toNat := rfl
  have e2 : sumN (fun t => rL s p m' ((vt p 0).2 + t)) ((vt p m).2 - (vt p 0).2).toNat = sumN (fun t => frG s (lu p) (p.length - m') ((vt p 0).2 + t)) ((vt p m).2 - (vt p 0).2).toNat := rfl
  rw [e1, e2, h1, h2, hu.sumR hs, hu.sumL hs]
  have h3 := sumN_split (Tz s p) m (p.length - m)
  rw [show m + (p.length - m) = p.length by omega, sum_T] at h3
  omega

/-- a sum over all rows is one over those of the polygon -/
theorem rows_only {f : Int → Int} {a b : Int} (ha : -499999 ≤ a) (hab : a ≤ b) (hb : b ≤ 499999) (h1 : ∀ y, y < a → f y = 0) (h2 : ∀ y, b < y → f y = 0) : sumN (fun iy => f ((iy : Nat) - 499999)) 999999 = sumN (fun t => f (a + t)) (b - a).toNat + f b := by
  have e : 999999 = (a + 499999).toNat + ((b - a).toNat + (1 + (499999 - b).toNat)) := by omega
  rw [e, sumN_split, sumN_split, sumN_split]
  rw [sumN_zero (a + 499999).toNat (fun k hk => h1 _ (by omega))]
  rw [sumN_zero (499999 - b).toNat (fun k hk => h2 _ (by omega))]
  have e1 : sumN (fun k => f ((((a + 499999).toNat + k : Nat) : Int) - 499999)) (b - a).toNat = sumN (fun t => f (a + t)) (b - a).toNat := sumN_congr _ fun k hk => by
    congr 1; omega
  rw [e1]
  have e2 : sumN (fun k => f ((((a + 499999).toNat + ((b - a).toNat + k) : Nat) : Int) - 499999)) 1 = f b := by
    simp only [sumN, Int.zero_add]
    congr 1; omega
  rw [e2]
  omega

theorem pick {p : List Pt} (hs : Sr p) (hb : ∀ v ∈ p, Bd2 499999 v.1 v.2) : 2 * cC p = areaC p + onC p + 2 ∧ 2 * cI p = areaC p - onC p + 2 := by
  have hl := hs.len
  obtain ⟨m, m', hu⟩ := hs.chains (fun a ha b hb' => by obtain ⟨h1, h1'⟩ := (hb a ha).1; obtain ⟨h2, h2'⟩ := (hb b hb').1; omega)
  have hbx : ∀ v ∈ p, -499999 ≤ v.1 ∧ v.1 ≤ 499999 := fun v hv => (hb v hv).1
  have y0 := (hb _ (vt_mem (p := p) (by omega) 0)).2
  have ym := (hb _ (vt_mem (p := p) (by omega) m)).2
  have hbox := fun x y => hs.box hu hbx (x := x) (y := y)
  have ht := hu.ht
  constructor
  · have e := rows_only (f := fun y => cntRow fun x => InC p (x, y)) (a := (vt p 0).2) (b := (vt p m).2) y0.1 (by omega) ym.2
      (fun y hy => cntRow_none fun x hx => by have := (hbox x y).1 hx; omega) (fun y hy => cntRow_none fun x hx => by have := (hbox x y).1 hx; omega)
    have hrow : ∀ y, (vt p 0).2 ≤ y → y ≤ (vt p m).2 → (cntRow fun x => InC p (x, y)) = rR 0 p m y + rL 0 p m' y + 1 := fun y h1 h2 => by
      obtain ⟨i, j, h⟩ := hu.row 0 y h1 h2
      exact cntRow_iv (fun x => h.inC hs x) (fun x hx => ((hbox x y).1 hx).2.2) (h.width0 hs)
    have e1 : cC p = _ := e
    have e2 : sumN (fun t => cntRow fun x => InC p (x, (vt p 0).2 + t)) ((vt p m).2 - (vt p 0).2).toNat = sumN (fun t => (rR 0 p m ((vt p 0).2 + t) + rL 0 p m' ((vt p 0).2 + t)) + 1) ((vt p m).2 - (vt p 0).2).toNat := sumN_congr _ fun t ht => hrow _ (by omega) (by omega)
    rw [e1, e2, hrow _ (by omega) (Int.le_refl _), (hu.top hs).1, (hu.top hs).2, sumN_plus (fun t => rR 0 p m ((vt p 0).2 + t) + rL 0 p m' ((vt p 0).2 + t)), sumN_plus (fun t => rR 0 p m ((vt p 0).2 + t)), sumN_const]
    have := hu.sums (s := 0) (.inl rfl)
    omega
  · have e := rows_only (f := fun y => cntRow fun x => InI p (x, y)) (a := (vt p 0).2) (b := (vt p m).2) y0.1 (by omega) ym.2
      (fun y hy => cntRow_none fun x hx => by have := (hbox x y).2 hx; omega) (fun y hy => cntRow_none fun x hx => by have := (hbox x y).2 hx; omega)
    have hrow : ∀ y, (vt p 0).2 < y → y < (vt p m).2 → (cntRow fun x => InI p (x, y)) = rR 1 p m y + rL 1 p m' y + 1 := fun y h1 h2 => by
      obtain ⟨i, j, h⟩ := hu.row 1 y (Int.le_of_lt h1) (Int.le_of_lt h2)
      exact cntRow_iv (fun x => h.inI hs hu h1 h2 x) (fun x hx => ((hbox x y).1 hx.c).2.2) (h.width1 hs h1 h2)
    have e1 : cI p = _ := e
    have ez : (cntRow fun x => InI p (x, (vt p m).2)) = 0 := cntRow_none fun x hx => by have := (hbox x _).2 hx; omega
    have ez2 : (cntRow fun x => InI p (x, (vt p 0).2 + ((0 : Nat) : Int))) = 0 := cntRow_none fun x hx => by have := (hbox x _).2 hx; omega
    rw [e1, ez]
    have hsum := hu.sums (s := 1) (.inr rfl)
    obtain ⟨b1, b2⟩ := hu.bottom hs
    obtain ⟨h', hh'⟩ : ∃ h', ((vt p m).2 - (vt p 0).2).toNat = h' + 1 := ⟨((vt p m).2 - (vt p 0).2).toNat - 1, by omega⟩
    rw [hh'] at hsum ⊢
    rw [sumN_first (fun t => cntRow fun x => InI p (x, (vt p 0).2 + t)), ez2]
    rw [sumN_first (fun t => rR 1 p m ((vt p 0).2 + t)), sumN_first (fun t => rL 1 p m' ((vt p 0).2 + t))] at hsum
    have e2 : sumN (fun k => cntRow fun x => InI p (x, (vt p 0).2 + ((1 + k : Nat) : Int))) h' = sumN (fun k => (rR 1 p m ((vt p 0).2 + ((1 + k : Nat) : Int)) + rL 1 p m' ((vt p 0).2 + ((1 + k : Nat) : Int))) + 1) h' := sumN_congr _ fun t ht => hrow _ (by omega) (by omega)
    rw [e2, sumN_plus (fun k => rR 1 p m ((vt p 0).2 + ((1 + k : Nat) : Int)) + rL 1 p m' ((vt p 0).2 + ((1 + k : Nat) : Int))), sumN_plus (fun k => rR 1 p m ((vt p 0).2 + ((1 + k : Nat) : Int))), sumN_const]
    have z0 : (vt p 0).2 + ((0 : Nat) : Int) = (vt p 0).2 := by omega
    rw [z0, b1, b2] at hsum
    omega
end

end Go.Proofs.Ytjmklbkcpjmcaaa.V
