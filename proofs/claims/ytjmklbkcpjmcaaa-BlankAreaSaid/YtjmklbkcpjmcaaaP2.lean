/-
  Rows of a polygon, plainly: what bounds a row on the right and on the left.
-/
import Derived.Test.YtjmklbkcpjmcaaaP1
import Derived.Test.YtjmklbkcpjmcaaaG1
namespace Go.Proofs.Ytjmklbkcpjmcaaa.V
open Go Go.RowKit Go.Proofs.Ytjmklbkcpjmcaaa.H
set_option linter.unusedVariables false
set_option linter.unusedSimpArgs false

/-- the bound of a row by a rising chain -/
def frG (s : Int) (u : Nat → Pt) : Nat → Int → Int
  | 0, _ => 0
  | k + 1, y => if (u k).2 ≤ y then bnd s (u k) (u (k + 1)) y else frG s u k y

theorem chain_le {u : Nat → Pt} {K : Nat} (h : ∀ k, k < K → (u k).2 ≤ (u (k + 1)).2) {a b : Nat} (hab : a ≤ b) (hb : b ≤ K) : (u a).2 ≤ (u b).2 :=
  rises (G := fun i => (u i).2) b hab fun i h1 h2 => h i (by omega)

theorem frG_sum {s : Int} (hs : s = 0 ∨ s = 1) (u : Nat → Pt) : ∀ K, (∀ k, k < K → (u k).2 ≤ (u (k + 1)).2) → 2 * sumN (fun t => frG s u K ((u 0).2 + t)) ((u K).2 - (u 0).2).toNat = sumN (fun k => Fz s (u k) (u (k + 1))) K
  | 0, _ => by rw [Int.sub_self]; rfl
  | K + 1, h => by
    have ih := frG_sum hs u K (fun k hk => h k (by omega))
    have h1 := chain_le (K := K + 1) h (Nat.zero_le K) (Nat.le_succ K)
    have h2 := h K (Nat.lt_succ_self K)
    have e : ((u (K + 1)).2 - (u 0).2).toNat = ((u K).2 - (u 0).2).toNat + ((u (K + 1)).2 - (u K).2).toNat := by omega
    rw [e, sumN_split, Int.mul_add]
    have e1 : sumN (fun t => frG s u (K + 1) ((u 0).2 + t)) ((u K).2 - (u 0).2).toNat = sumN (fun t => frG s u K ((u 0).2 + t)) ((u K).2 - (u 0).2).toNat := sumN_congr _ fun t ht => by
      rw [frG, if_neg (by omega)]
    have e2 : sumN (fun t => frG s u (K + 1) ((u 0).2 + ((((u K).2 - (u 0).2).toNat + t : Nat) : Int))) ((u (K + 1)).2 - (u K).2).toNat = sumN (fun t => bnd s (u K) (u (K + 1)) ((u K).2 + t)) ((u (K + 1)).2 - (u K).2).toNat := sumN_congr _ fun t ht => by
      have e3 : (u 0).2 + ((((u K).2 - (u 0).2).toNat + t : Nat) : Int) = (u K).2 + t := by omega
      rw [e3, frG, if_pos (by omega)]
    rw [e1, e2, ih, sum_bnd hs h2, sumN]

theorem frG_find0 (s : Int) (u : Nat → Pt) (y : Int) (h0 : (u 0).2 ≤ y) : ∀ K, 0 < K → ∃ k, k < K ∧ (u k).2 ≤ y ∧ frG s u K y = bnd s (u k) (u (k + 1)) y ∧ (k + 1 < K → y < (u (k + 1)).2)
  | 0, h => absurd h (Nat.lt_irrefl 0)
  | K + 1, _ => by
    by_cases hc : (u K).2 ≤ y
    · exact ⟨K, Nat.lt_succ_self K, hc, by rw [frG, if_pos hc], fun h => by omega⟩
    · have hK : 0 < K := by
        rcases Nat.eq_zero_or_pos K with rfl | h
        · exact absurd h0 hc
        · exact h
      obtain ⟨k, h1, h2, h3, h4⟩ := frG_find0 s u y h0 K hK
      refine ⟨k, by omega, h2, by rw [frG, if_neg hc]; exact h3, fun h => ?_⟩
      rcases Nat.lt_or_eq_of_le (show k + 1 ≤ K by omega) with h5 | h5
      · exact h4 h5
      · rw [h5]; omega

theorem frG_find (s : Int) (u : Nat → Pt) (y : Int) {K : Nat} (hm : ∀ k, k < K → (u k).2 ≤ (u (k + 1)).2) (hK : 0 < K) (hl : (u (K - 1)).2 < (u K).2) (h0 : (u 0).2 ≤ y) (h1 : y ≤ (u K).2) :
    ∃ k, k < K ∧ (u k).2 ≤ y ∧ y ≤ (u (k + 1)).2 ∧ (u k).2 < (u (k + 1)).2 ∧ frG s u K y = bnd s (u k) (u (k + 1)) y ∧ (y < (u K).2 → y < (u (k + 1)).2) := by
  obtain ⟨k, a1, a2, a3, a4⟩ := frG_find0 s u y h0 K hK
  refine ⟨k, a1, a2, ?_, ?_, a3, ?_⟩ <;> rcases Nat.lt_or_eq_of_le (show k + 1 ≤ K by omega) with h5 | h5
  · exact Int.le_of_lt (a4 h5)
  · rw [h5]; exact h1
  · have := a4 h5; omega
  · have : k = K - 1 := by omega
    rw [h5, this]; exact hl
  · exact fun _ => a4 h5
  · rw [h5]; exact id

/-! the two chains of a polygon -/
structure Up (p : List Pt) (m m' : Nat) : Prop where
  m0 : 0 < m
  mn : m' < p.length
  mm : m' = m ∨ m' = m + 1
  up : ∀ i, i < m → 0 ≤ (E p i).2 ∧ ((E p i).2 = 0 → i = 0 ∧ 0 < (E p i).1)
  dn : ∀ j, m ≤ j → j < p.length → (E p j).2 ≤ 0 ∧ ((E p j).2 = 0 → j = m ∧ (E p j).1 < 0)
  ht : (vt p 0).2 < (vt p m).2
  flat : m' = m + 1 ↔ (E p m).2 = 0

theorem E2 (p : List Pt) (k : Nat) : (vt p (k + 1)).2 = (vt p k).2 + (E p k).2 := by unfold E sb; simp only; omega
theorem E1 (p : List Pt) (k : Nat) : (vt p (k + 1)).1 = (vt p k).1 + (E p k).1 := by unfold E sb; simp only; omega

theorem Sr.chains {p : List Pt} (h : Sr p) (hb : Near p) : ∃ m m', Up p m m' := by
  have hl := h.len
  obtain ⟨m, m0, mn, hu, hd⟩ := h.top
  have hx : ∀ k, -1000000 < (E p k).1 ∧ (E p k).1 < 1000000 := fun k => by
    have := hb _ (vt_mem (p := p) (by omega) (k + 1)) _ (vt_mem (p := p) (by omega) k)
    unfold E sb; exact this
  have hup : ∀ i, i < m → 0 ≤ (E p i).2 ∧ ((E p i).2 = 0 → i = 0 ∧ 0 < (E p i).1) := fun i hi => by
    have h1 := hu i hi
    have h1' := h1
    have h2 := hx i
    unfold hh at h1
    refine ⟨by omega, fun h3 => ⟨?_, by omega⟩⟩
    rcases Nat.eq_zero_or_pos i with h4 | h4
    · exact h4
    · have h5 := h.srt 0 i h4 (by omega)
      have h6 := hu 0 m0
      have h7 := hx 0
      unfold An at h5
      have h8 : 0 < cr (E p 0) (E p i) := by omega
      unfold cr at h8
      rw [h3, Int.mul_zero] at h8
      have h9 : 0 ≤ (E p 0).2 := by unfold hh at h6; omega
      have := npp h9 (show 0 ≤ (E p i).1 by omega)
      omega
  have hdn : ∀ j, m ≤ j → j < p.length → (E p j).2 ≤ 0 ∧ ((E p j).2 = 0 → j = m ∧ (E p j).1 < 0) := fun j hj hjn => by
    have h1 := hd j hj hjn
    have h1' := h1
    have h2 := hx j
    unfold hh at h1
    refine ⟨by omega, fun h3 => ⟨?_, by omega⟩⟩
    rcases Nat.lt_or_eq_of_le hj with h4 | h4
    · have h5 := h.srt m j h4 hjn
      have h6 := hd m (Nat.le_refl _) mn
      have h7 := hx m
      unfold An at h5
      have h8 : 0 < cr (E p m) (E p j) := by omega
      unfold cr at h8
      rw [h3, Int.mul_zero] at h8
      have h9 : (E p m).2 ≤ 0 := by unfold hh at h6; omega
      have := nnn h9 (show (E p j).1 ≤ 0 by omega)
      omega
    · exact h4.symm
  have hrise : ∀ a b, a ≤ b → b ≤ m → (vt p a).2 ≤ (vt p b).2 := fun a b hab hbm => rises (G := fun i => (vt p i).2) b hab (fun i h1 h2 => by
    have := E2 p i; have := (hup i (by omega)).1; omega)
  have hfall : ∀ a b, m ≤ a → a ≤ b → b ≤ p.length → (vt p b).2 ≤ (vt p a).2 := fun a b ha hab hbn => falls (G := fun i => (vt p i).2) b hab (fun i h1 h2 => by
    have := E2 p i; have := (hdn i (by omega) (by omega)).1; omega)
  have ht : (vt p 0).2 < (vt p m).2 := by
    rcases Nat.lt_or_eq_of_le (show m ≤ p.length - 1 by omega) with h1 | h1
    · have h2 := hdn (p.length - 1) (by omega) (by omega)
      have h3 := hfall m (p.length - 1) (Nat.le_refl _) (by omega) (by omega)
      have h4 := E2 p (p.length - 1)
      rw [show p.length - 1 + 1 = p.length by omega, vt_n] at h4
      omega
    · have h2 := hup 1 (by omega)
      have h3 := hrise 0 1 (by omega) (by omega)
      have h4 := hrise 2 m (by omega) (Nat.le_refl _)
      have h5 := E2 p 1
      have h6 : (vt p (1 + 1)).2 = (vt p 2).2 := rfl
      omega
  by_cases hf : (E p m).2 = 0
  · refine ⟨m, m + 1, m0, ?_, .inr rfl, hup, hdn, ht, ⟨fun _ => hf, fun _ => rfl⟩⟩
    rcases Nat.lt_or_eq_of_le (show m + 1 ≤ p.length by omega) with h1 | h1
    · exact h1
    · have h4 := E2 p m
      rw [h1, vt_n] at h4
      omega
  · exact ⟨m, m, m0, mn, .inl rfl, hup, hdn, ht, ⟨fun h1 => by omega, fun h1 => absurd h1 hf⟩⟩

/-- the left chain, from below, mirrored -/
def lu (p : List Pt) (k : Nat) : Pt := (-(vt p (p.length - k)).1, (vt p (p.length - k)).2)

/-- the bounds of a row: x ≤ rR and -x ≤ rL -/
def rR (s : Int) (p : List Pt) (m : Nat) (y : Int) : Int := frG s (vt p) m y
def rL (s : Int) (p : List Pt) (m' : Nat) (y : Int) : Int := frG s (lu p) (p.length - m') y

theorem Up.mono {p : List Pt} {m m' : Nat} (h : Up p m m') : (∀ k, k < m → (vt p k).2 ≤ (vt p (k + 1)).2) ∧ (vt p (m - 1)).2 < (vt p m).2 := by
  refine ⟨fun k hk => by have := (h.up k hk).1; have := E2 p k; omega, ?_⟩
  have h1 := h.up (m - 1) (by have := h.m0; omega)
  have h2 := E2 p (m - 1)
  have h3 := h.m0
  rw [show m - 1 + 1 = m by omega] at h2
  have h4 := h.ht
  by_cases h5 : (E p (m - 1)).2 = 0
  · have h6 := (h1.2 h5).1
    rw [h6] at h2
    have : (vt p 0).2 = (vt p m).2 := by rw [h6] at h5; omega
    omega
  · omega

theorem Up.monoL {p : List Pt} {m m' : Nat} (h : Up p m m') : (∀ k, k < p.length - m' → (lu p k).2 ≤ (lu p (k + 1)).2) ∧ (lu p (p.length - m' - 1)).2 < (lu p (p.length - m')).2 ∧ (lu p (p.length - m')).2 = (vt p m).2 := by
  have hmm := h.mm
  have hmn := h.mn
  have step : ∀ k, k < p.length - m' → (lu p (k + 1)).2 = (lu p k).2 - (E p (p.length - (k + 1))).2 := fun k hk => by
    have := E2 p (p.length - (k + 1))
    rw [show p.length - (k + 1) + 1 = p.length - k by omega] at this
    unfold lu
    simp only
    omega
  refine ⟨fun k hk => ?_, ?_, ?_⟩
  · have := step k hk
    have := (h.dn (p.length - (k + 1)) (by omega) (by omega)).1
    omega
  · have h1 := step (p.length - m' - 1) (by omega)
    rw [show p.length - m' - 1 + 1 = p.length - m' by omega, show p.length - (p.length - m') = m' by omega] at h1
    have h2 := h.dn m' (by omega) hmn
    have h3 := h.flat
    by_cases h4 : (E p m').2 = 0
    · have h5 := (h2.2 h4).1
      rw [h5] at h4
      have := h3.2 h4
      omega
    · omega
  · unfold lu
    simp only
    rw [show p.length - (p.length - m') = m' by omega]
    rcases hmm with h1 | h1
    · rw [h1]
    · have := E2 p m
      have := h.flat.1 h1
      rw [h1]; omega

/-- a row of a region -/
structure Row (p : List Pt) (m m' : Nat) (s y : Int) (i j : Nat) : Prop where
  im : i < m
  jm : m ≤ j
  jn : j < p.length
  i1 : (vt p i).2 ≤ y
  i2 : y ≤ (vt p (i + 1)).2
  i3 : (vt p i).2 < (vt p (i + 1)).2
  j1 : (vt p (j + 1)).2 ≤ y
  j2 : y ≤ (vt p j).2
  j3 : (vt p (j + 1)).2 < (vt p j).2
  i4 : y < (vt p m).2 → y < (vt p (i + 1)).2
  r : ∀ x, x ≤ rR s p m y ↔ s ≤ side p (x, y) i
  l : ∀ x, -x ≤ rL s p m' y ↔ s ≤ side p (x, y) j

theorem Up.row {p : List Pt} {m m' : Nat} (h : Up p m m') (s y : Int) (h1 : (vt p 0).2 ≤ y) (h2 : y ≤ (vt p m).2) : ∃ i j, Row p m m' s y i j := by
  have hmm := h.mm
  have hmn := h.mn
  obtain ⟨ma, mb⟩ := h.mono
  obtain ⟨la, lb, lc⟩ := h.monoL
  obtain ⟨i, a1, a2, a3, a4, a5, a6⟩ := frG_find s (vt p) y ma h.m0 mb h1 h2
  obtain ⟨k, b1, b2, b3, b4, b5, b6⟩ := frG_find s (lu p) y la (by omega) lb (by
    have : (lu p 0).2 = (vt p 0).2 := by unfold lu; simp only; rw [Nat.sub_zero, vt_n]
    omega) (by omega)
  obtain ⟨j, hj⟩ : ∃ j, j = p.length - (k + 1) := ⟨_, rfl⟩
  have hj1 : p.length - k = j + 1 := by omega
  have e1 : lu p (k + 1) = (-(vt p j).1, (vt p j).2) := by unfold lu; rw [← hj]
  have e2 : lu p k = (-(vt p (j + 1)).1, (vt p (j + 1)).2) := by unfold lu; rw [hj1]
  rw [e2] at b2
  rw [e1] at b3
  rw [e1, e2] at b4 b5
  simp only at b2 b3 b4
  refine ⟨i, j, a1, by omega, by omega, a2, a3, a4, b2, b3, b4, a6, fun x => ?_, fun x => ?_⟩
  · unfold rR
    rw [a5, bnd_iff a4, side_E (by omega)]
    have : (vt p (i + 1)).1 - (vt p i).1 = (E p i).1 := by have := E1 p i; omega
    rw [this]
    have : (vt p (i + 1)).2 - (vt p i).2 = (E p i).2 := by have := E2 p i; omega
    rw [this]
    unfold cr
    simp only
    have : (E p i).1 * (y - (vt p i).2) - (E p i).2 * (x - (vt p i).1) = (E p i).1 * y - (E p i).2 * x - ((E p i).1 * (vt p i).2 - (E p i).2 * (vt p i).1) := by grind
    omega
  · unfold rL
    rw [b5, bnd_iff (a := (-(vt p (j + 1)).1, (vt p (j + 1)).2)) (b := (-(vt p j).1, (vt p j).2)) b4, side_E (by omega)]
    simp only
    have e5 := E1 p j
    have e6 := E2 p j
    have e7 := cr_E_vt p j
    rw [← e7]
    unfold cr
    simp only
    have f1 : -(vt p j).1 - -(vt p (j + 1)).1 = (E p j).1 := by omega
    have f2 : (vt p j).2 - (vt p (j + 1)).2 = -(E p j).2 := by omega
    rw [f1, f2]
    have : (E p j).1 * (y - (vt p (j + 1)).2) - -(E p j).2 * (-x - -(vt p (j + 1)).1) = (E p j).1 * y - (E p j).2 * x - ((E p j).1 * (vt p (j + 1)).2 - (E p j).2 * (vt p (j + 1)).1) := by grind
    omega

/-- a linear function on a row, by an edge that crosses it -/
theorem on_row (e a b z : Pt) (c : Int) : (b.2 - a.2) * (cr e z - c) = (b.2 - z.2) * (cr e a - c) + (z.2 - a.2) * (cr e b - c) + e.2 * cr (sb b a) (sb z a) := by
  unfold cr sb; grind

theorem Row.at_i {p : List Pt} {m m' : Nat} {s y : Int} {i j : Nat} (h : Row p m m' s y i j) (e : Pt) (c x : Int) :
    ((vt p (i + 1)).2 - (vt p i).2) * (cr e (x, y) - c) = ((vt p (i + 1)).2 - y) * (cr e (vt p i) - c) + (y - (vt p i).2) * (cr e (vt p (i + 1)) - c) + e.2 * side p (x, y) i := by
  have := on_row e (vt p i) (vt p (i + 1)) (x, y) c
  have h1 : i < p.length := by have := h.im; have := h.jm; have := h.jn; omega
  rw [this, side_E h1]
  have e2 : cr (sb (vt p (i + 1)) (vt p i)) (sb (x, y) (vt p i)) = cr (E p i) (x, y) - cr (E p i) (vt p i) := by rw [cr_sb]; rfl
  rw [e2]
theorem Row.at_j {p : List Pt} {m m' : Nat} {s y : Int} {i j : Nat} (h : Row p m m' s y i j) (e : Pt) (c x : Int) :
    ((vt p j).2 - (vt p (j + 1)).2) * (cr e (x, y) - c) = ((vt p j).2 - y) * (cr e (vt p (j + 1)) - c) + (y - (vt p (j + 1)).2) * (cr e (vt p j) - c) - e.2 * side p (x, y) j := by
  have := on_row e (vt p (j + 1)) (vt p j) (x, y) c
  rw [this, side_E h.jn]
  have e2 : cr (sb (vt p j) (vt p (j + 1))) (sb (x, y) (vt p (j + 1))) = -(cr (E p j) (x, y) - cr (E p j) (vt p j)) := by
    have e3 : sb (vt p j) (vt p (j + 1)) = (0 - (E p j).1, 0 - (E p j).2) := by unfold E sb; exact Prod.ext (by simp only; omega) (by simp only; omega)
    have e4 := cr_E_vt p j
    rw [cr_sb, e3]
    have e5 : ∀ v, cr (0 - (E p j).1, 0 - (E p j).2) v = - cr (E p j) v := fun v => by unfold cr; grind
    rw [e5, e5, e4]; omega
  rw [e2, Int.mul_neg]; simp only; omega

theorem Row.inC {p : List Pt} {m m' : Nat} {y : Int} {i j : Nat} (h : Row p m m' 0 y i j) (hs : Sr p) (x : Int) : InC p (x, y) ↔ x ≤ rR 0 p m y ∧ -x ≤ rL 0 p m' y := by
  have hi : i < p.length := by have := h.im; have := h.jm; have := h.jn; omega
  have hl := hs.len
  rw [h.r, h.l]
  constructor
  · exact fun hc => ⟨hc i hi, hc j h.jn⟩
  · rintro ⟨h1, h2⟩ k hk
    have hv : ∀ q, 0 ≤ cr (E p k) (vt p q) - cr (E p k) (vt p k) := fun q => by
      have := hs.in_self (vt_mem (p := p) (by omega) q) k hk
      rw [side_E hk] at this
      exact this
    rw [side_E hk]
    rcases Int.lt_or_le (E p k).2 0 with hn | hn
    · have e := h.at_j (E p k) (cr (E p k) (vt p k)) x
      have a1 := npp (show 0 ≤ (vt p j).2 - y by have := h.j2; omega) (hv (j + 1))
      have a2 := npp (show 0 ≤ y - (vt p (j + 1)).2 by have := h.j1; omega) (hv j)
      have a3 := nnp (Int.le_of_lt hn) h2
      have := h.j3
      refine fnon (b := (vt p j).2 - (vt p (j + 1)).2) ?_ (by omega)
      rw [Int.mul_comm, e]; omega
    · have e := h.at_i (E p k) (cr (E p k) (vt p k)) x
      have a1 := npp (show 0 ≤ (vt p (i + 1)).2 - y by have := h.i2; omega) (hv i)
      have a2 := npp (show 0 ≤ y - (vt p i).2 by have := h.i1; omega) (hv (i + 1))
      have a3 := npp hn h1
      have := h.i3
      refine fnon (b := (vt p (i + 1)).2 - (vt p i).2) ?_ (by omega)
      rw [Int.mul_comm, e]; omega

theorem Row.inI {p : List Pt} {m m' : Nat} {y : Int} {i j : Nat} (h : Row p m m' 1 y i j) (hs : Sr p) (hu : Up p m m') (y1 : (vt p 0).2 < y) (y2 : y < (vt p m).2) (x : Int) : InI p (x, y) ↔ x ≤ rR 1 p m y ∧ -x ≤ rL 1 p m' y := by
  have hi : i < p.length := by have := h.im; have := h.jm; have := h.jn; omega
  have hl := hs.len
  rw [h.r, h.l]
  constructor
  · exact fun hc => ⟨hc i hi, hc j h.jn⟩
  · rintro ⟨h1, h2⟩ k hk
    have hv : ∀ q, 0 ≤ cr (E p k) (vt p q) - cr (E p k) (vt p k) := fun q => by
      have := hs.in_self (vt_mem (p := p) (by omega) q) k hk
      rw [side_E hk] at this
      exact this
    rw [side_E hk]
    rcases Int.lt_trichotomy (E p k).2 0 with hn | hn | hn
    · have e := h.at_j (E p k) (cr (E p k) (vt p k)) x
      have a1 := npp (show 0 ≤ (vt p j).2 - y by have := h.j2; omega) (hv (j + 1))
      have a2 := npp (show 0 ≤ y - (vt p (j + 1)).2 by have := h.j1; omega) (hv j)
      have a3 := mnp hn (show 0 < side p (x, y) j by omega)
      have := h.j3
      refine fpos (b := (vt p j).2 - (vt p (j + 1)).2) ?_ (by omega)
      rw [Int.mul_comm, e]; omega
    · have e1 : cr (E p k) (x, y) - cr (E p k) (vt p k) = (E p k).1 * (y - (vt p k).2) := by
        unfold cr; rw [hn]; simp only; grind
      rw [e1]
      rcases Nat.lt_or_ge k m with hk2 | hk2
      · obtain ⟨z1, z2⟩ := (hu.up k hk2).2 hn
        subst z1
        exact mpp z2 (by omega)
      · obtain ⟨z1, z2⟩ := (hu.dn k hk2 hk).2 hn
        subst z1
        exact mnn z2 (by omega)
    · have e := h.at_i (E p k) (cr (E p k) (vt p k)) x
      have a1 := npp (show 0 ≤ (vt p (i + 1)).2 - y by have := h.i2; omega) (hv i)
      have a2 := npp (show 0 ≤ y - (vt p i).2 by have := h.i1; omega) (hv (i + 1))
      have a3 := mpp hn (show 0 < side p (x, y) i by omega)
      have := h.i3
      refine fpos (b := (vt p (i + 1)).2 - (vt p i).2) ?_ (by omega)
      rw [Int.mul_comm, e]; omega

theorem Row.width0 {p : List Pt} {m m' : Nat} {y : Int} {i j : Nat} (h : Row p m m' 0 y i j) (hs : Sr p) : 0 ≤ rR 0 p m y + rL 0 p m' y + 1 := by
  have hl := hs.len
  refine Int.le_of_not_gt fun hlt => ?_
  have h1 := h.r (rR 0 p m y + 1)
  have h2 := h.l (rR 0 p m y + 1)
  obtain ⟨x, hx⟩ : ∃ x, x = rR 0 p m y + 1 := ⟨_, rfl⟩
  rw [← hx] at h1 h2
  have h1' : side p (x, y) i < 0 := by omega
  have h2' : side p (x, y) j < 0 := by omega
  have hv : ∀ q, 0 ≤ cr (E p j) (vt p q) - cr (E p j) (vt p j) := fun q => by
    have := hs.in_self (vt_mem (p := p) (by omega) q) j h.jn
    rw [side_E h.jn] at this
    exact this
  have e := h.at_i (E p j) (cr (E p j) (vt p j)) x
  have a1 := npp (show 0 ≤ (vt p (i + 1)).2 - y by have := h.i2; omega) (hv i)
  have a2 := npp (show 0 ≤ y - (vt p i).2 by have := h.i1; omega) (hv (i + 1))
  have e2 := E2 p j
  have j3 := h.j3
  have i3 := h.i3
  have a3 := mnn (show (E p j).2 < 0 by omega) h1'
  rw [side_E h.jn] at h2'
  have := mpn (show 0 < (vt p (i + 1)).2 - (vt p i).2 by omega) h2'
  omega

theorem Row.width1 {p : List Pt} {m m' : Nat} {y : Int} {i j : Nat} (h : Row p m m' 1 y i j) (hs : Sr p) (y1 : (vt p 0).2 < y) (y2 : y < (vt p m).2) : 0 ≤ rR 1 p m y + rL 1 p m' y + 1 := by
  have hl := hs.len
  have him := h.im
  have hjm := h.jm
  have hjn := h.jn
  refine Int.le_of_not_gt fun hlt => ?_
  have h1 := h.r (rR 1 p m y + 1)
  have h2 := h.l (rR 1 p m y + 1)
  obtain ⟨x, hx⟩ : ∃ x, x = rR 1 p m y + 1 := ⟨_, rfl⟩
  rw [← hx] at h1 h2
  have h1' : side p (x, y) i ≤ 0 := by omega
  have h2' : side p (x, y) j ≤ 0 := by omega
  have hv : ∀ q, 0 ≤ cr (E p j) (vt p q) - cr (E p j) (vt p j) := fun q => by
    have := hs.in_self (vt_mem (p := p) (by omega) q) j h.jn
    rw [side_E h.jn] at this
    exact this
  have hvs : ∀ q, q < p.length → q ≠ j → q ≠ (j + 1) % p.length → 0 < cr (E p j) (vt p q) - cr (E p j) (vt p j) := fun q hq n1 n2 => by
    have := hs.cv.left j q h.jn hq n1 n2
    rw [side_E h.jn, ← vt_lt hq] at this
    exact this
  have e := h.at_i (E p j) (cr (E p j) (vt p j)) x
  have e2 := E2 p j
  have j3 := h.j3
  have i3 := h.i3
  have i4 := h.i4 y2
  have a3 := nnn (show (E p j).2 ≤ 0 by omega) h1'
  rw [side_E h.jn] at h2'
  have b := npn (show 0 ≤ (vt p (i + 1)).2 - (vt p i).2 by omega) h2'
  by_cases hc : i = (j + 1) % p.length
  · have hj : j + 1 = p.length := by
      rcases Nat.lt_or_eq_of_le (show j + 1 ≤ p.length by omega) with h5 | h5
      · rw [Nat.mod_eq_of_lt h5] at hc; omega
      · exact h5
    rw [hj, Nat.mod_self] at hc
    subst hc
    have a1 := npp (show 0 ≤ (vt p (0 + 1)).2 - y by omega) (hv 0)
    have a2 := mpp (show 0 < y - (vt p 0).2 by omega) (hvs (0 + 1) (by omega) (by omega) (by rw [hj, Nat.mod_self]; omega))
    omega
  · have a1 := mpp (show 0 < (vt p (i + 1)).2 - y by omega) (hvs i (by omega) (by omega) hc)
    have a2 := npp (show 0 ≤ y - (vt p i).2 by have := h.i1; omega) (hv (i + 1))
    omega

end Go.Proofs.Ytjmklbkcpjmcaaa.V
