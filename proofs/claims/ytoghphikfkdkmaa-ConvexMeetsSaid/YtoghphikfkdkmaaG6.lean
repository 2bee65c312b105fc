/-
  Polygons, plainly: directions and points of a polygon.
-/
import Derived.Test.YtoghphikfkdkmaaG5
namespace Go.Proofs.Ytoghphikfkdkmaa.V
open Go Go.RowKit Go.Proofs.Ytoghphikfkdkmaa.H
set_option linter.unusedVariables false
set_option linter.unusedSimpArgs false

/-- in the region, border and all -/
def InC (p : List Pt) (x : Pt) : Prop := ∀ k, k < p.length → 0 ≤ side p x k
/-- in its interior -/
def InI (p : List Pt) (x : Pt) : Prop := ∀ k, k < p.length → 0 < side p x k
instance (p : List Pt) (x : Pt) : Decidable (InC p x) := by unfold InC; exact inferInstance
instance (p : List Pt) (x : Pt) : Decidable (InI p x) := by unfold InI; exact inferInstance
theorem InI.c {p : List Pt} {x : Pt} (h : InI p x) : InC p x := fun k hk => Int.le_of_lt (h k hk)

theorem place_lt (p : List Pt) (x : Pt) : placeF p x < 0 ↔ ¬ InC p x := by
  unfold placeF InC
  split
  · next h =>
    obtain ⟨k, h1, h2⟩ := h
    exact ⟨fun _ h3 => by have := h3 k h1; omega, fun _ => by omega⟩
  · next h =>
    refine ⟨fun h3 => ?_, fun h3 => absurd (fun k hk => ?_) h3⟩
    · split at h3 <;> omega
    · exact Int.le_of_not_gt fun h4 => h ⟨k, hk, h4⟩
theorem place_one (p : List Pt) (x : Pt) : placeF p x = 1 ↔ InI p x := by
  unfold placeF InI
  split
  · next h =>
    obtain ⟨k, h1, h2⟩ := h
    exact ⟨fun h3 => by omega, fun h3 => by have := h3 k h1; omega⟩
  · next h =>
    split
    · next h2 =>
      obtain ⟨k, h1, h2⟩ := h2
      exact ⟨fun h3 => by omega, fun h3 => by have := h3 k h1; omega⟩
    · next h2 =>
      refine ⟨fun _ k hk => ?_, fun _ => rfl⟩
      rcases Int.lt_trichotomy (side p x k) 0 with h3 | h3 | h3
      · exact absurd ⟨k, hk, h3⟩ h
      · exact absurd ⟨k, hk, h3⟩ h2
      · exact h3

/-- where a direction stands among the edges -/
theorem Sr.pos {p : List Pt} (h : Sr p) {e : Pt} (he : hh e ≠ 0) : ∃ k, k ≤ p.length ∧ (∀ i, i < k → An (E p i) e) ∧ ∀ i, k ≤ i → i < p.length → Ae e (E p i) := by
  have key : ∀ k, k ≤ p.length → (∀ i, i < k → An (E p i) e) ∨ ∃ m, m < k ∧ (∀ i, i < m → An (E p i) e) ∧ Ae e (E p m) := by
    intro k
    induction k with
    | zero => exact fun _ => .inl fun i hi => by omega
    | succ k ih =>
      intro hk
      rcases ih (by omega) with h1 | ⟨m, h1, h2, h3⟩
      · rcases An.total (h.ne k (by omega)) he with h2 | h2
        · refine .inl fun i hi => ?_
          rcases Nat.lt_or_eq_of_le (Nat.le_of_lt_succ hi) with h3 | rfl
          · exact h1 i h3
          · exact h2
        · exact .inr ⟨k, by omega, h1, h2⟩
      · exact .inr ⟨m, by omega, h2, h3⟩
  rcases key p.length (Nat.le_refl _) with h1 | ⟨m, h1, h2, h3⟩
  · exact ⟨p.length, Nat.le_refl _, h1, fun i h2 h3 => by omega⟩
  · refine ⟨m, by omega, h2, fun i h4 h5 => ?_⟩
    rcases Nat.lt_or_eq_of_le h4 with h6 | rfl
    · exact h3.trans (h.srt m i h6 h5).ae
    · exact h3

theorem cr_E_vt (p : List Pt) (k : Nat) : cr (E p k) (vt p (k + 1)) = cr (E p k) (vt p k) := by
  have : cr (E p k) (E p k) = 0 := cr_self _
  have e3 : cr (E p k) (E p k) = cr (E p k) (vt p (k + 1)) - cr (E p k) (vt p k) := by
    conv => lhs; arg 2; unfold E
    rw [cr_sb]
  omega

/-- two vectors that turn left, and one between them -/
theorem between {a b e z : Pt} (hab : 0 < cr a b) (h1 : 0 < cr a e) (h2 : 0 ≤ cr e b) : (0 ≤ cr a z → 0 ≤ cr b z → 0 ≤ cr e z) ∧ (0 ≤ cr a z → 0 < cr b z → 0 < cr e z) := by
  have id : cr e z * cr a b = cr e b * cr a z + cr a e * cr b z := by unfold cr; grind
  constructor
  · intro ha hb
    have e1 := npp h2 ha
    have e2 := npp (Int.le_of_lt h1) hb
    exact fnon (b := cr a b) (by omega) hab
  · intro ha hb
    have e1 := npp h2 ha
    have e2 := mpp h1 hb
    exact fpos (b := cr a b) (by omega) hab

theorem btw_ud {a b e : Pt} (ha : 0 < hh a) (hb : hh b < 0) (hab : 0 < cr a b) : (0 < hh e → 0 < cr a e → 0 < cr e b) ∧ (hh e < 0 → 0 ≤ cr e b → 0 < cr a e) := by
  have pk := pluck a e b
  rw [cr_neg a b] at pk
  constructor
  · intro he h
    have e1 := mpn h hb
    have e2 := mnp (show -cr a b < 0 by omega) he
    exact fpos (b := hh a) (by omega) ha
  · intro he h
    have e1 := npp h (Int.le_of_lt ha)
    have e2 := mnn (show -cr a b < 0 by omega) he
    exact gpos (b := hh b) (by omega) hb
theorem btw_du {a b e : Pt} (ha : hh a < 0) (hb : 0 < hh b) (hab : 0 < cr a b) : (0 < hh e → 0 ≤ cr e b → 0 < cr a e) ∧ (hh e < 0 → 0 < cr a e → 0 < cr e b) := by
  have pk := pluck a e b
  rw [cr_neg a b] at pk
  constructor
  · intro he h
    have e1 := npn h (Int.le_of_lt ha)
    have e2 := mnp (show -cr a b < 0 by omega) he
    exact fpos (b := hh b) (by omega) hb
  · intro he h
    have e1 := mpp h hb
    have e2 := mnn (show -cr a b < 0 by omega) he
    exact gpos (b := hh a) (by omega) ha

/-- the points of a polygon do not lie to the right of a line by its vertex of that direction -/
theorem Sr.cone {p : List Pt} (h : Sr p) {e : Pt} (he : hh e ≠ 0) {k : Nat} (hk : k ≤ p.length) (h1 : ∀ i, i < k → An (E p i) e) (h2 : ∀ i, k ≤ i → i < p.length → Ae e (E p i)) (x : Pt) :
    (InC p x → cr e (vt p k) ≤ cr e x) ∧ (InI p x → cr e (vt p k) < cr e x) := by
  have hl := h.len
  have hcv := h.cv
  obtain ⟨m, m0, mn, hu, hd⟩ := h.top
  -- the edges at the vertex
  obtain ⟨i, j, hi, hj, hi2, hj2, hab, ha1, ha2⟩ : ∃ i j, i < p.length ∧ j < p.length ∧ vt p (i + 1) = vt p k ∧ vt p j = vt p k ∧ 0 < cr (E p i) (E p j) ∧ 0 < cr (E p i) e ∧ 0 ≤ cr e (E p j) := by
    rcases Nat.eq_zero_or_pos k with rfl | hk0
    · have ht := hcv.turn (k := p.length - 1) (by omega)
      rw [show p.length - 1 + 1 = p.length by omega, Nat.mod_self] at ht
      have a1 := h2 0 (Nat.le_refl _) (by omega)
      have a2 := hu 0 m0
      have a3 := hd (p.length - 1) (by omega) (by omega)
      unfold Ae at a1
      have b := (btw_du (e := e) a3 a2 ht).1 (by omega) (by omega)
      exact ⟨p.length - 1, 0, by omega, by omega, by rw [show p.length - 1 + 1 = p.length by omega, vt_n], rfl, ht, b, by omega⟩
    · rcases Nat.lt_or_eq_of_le hk with hkn | rfl
      · have ht := hcv.turn (k := k - 1) (by omega)
        rw [show k - 1 + 1 = k by omega, Nat.mod_eq_of_lt hkn] at ht
        have a1 := h1 (k - 1) (by omega)
        have a2 := h2 k (Nat.le_refl _) hkn
        have a3 := h.srt (k - 1) k (by omega) hkn
        refine ⟨k - 1, k, by omega, hkn, by rw [show k - 1 + 1 = k by omega], rfl, ht, ?_, ?_⟩
        · unfold An at a1 a3
          unfold Ae at a2
          rcases a1 with ⟨c1, c2⟩ | ⟨_, c⟩
          · exact (btw_ud (e := e) c1 (by omega) ht).2 c2 (by omega)
          · exact c
        · unfold An at a1 a3
          unfold Ae at a2
          rcases a2 with ⟨c1, c2⟩ | ⟨_, c⟩
          · exact Int.le_of_lt ((btw_ud (e := e) (a := E p (k - 1)) (by omega) c2 ht).1 c1 (by omega))
          · exact c
      · have ht := hcv.turn (k := p.length - 1) (by omega)
        rw [show p.length - 1 + 1 = p.length by omega, Nat.mod_self] at ht
        have a1 := h1 (p.length - 1) (by omega)
        have a2 := hu 0 m0
        have a3 := hd (p.length - 1) (by omega) (by omega)
        unfold An at a1
        have b := (btw_du (e := e) a3 a2 ht).2 (by omega) (by omega)
        exact ⟨p.length - 1, 0, by omega, by omega, by rw [show p.length - 1 + 1 = p.length by omega], (vt_n p).symm, ht, by omega, Int.le_of_lt b⟩
  have sa : cr (E p i) (sb x (vt p k)) = side p x i := by
    rw [side_E hi, cr_sb, ← hi2, cr_E_vt]
  have sb' : cr (E p j) (sb x (vt p k)) = side p x j := by
    rw [side_E hj, cr_sb, ← hj2]
  obtain ⟨b1, b2⟩ := between (z := sb x (vt p k)) hab ha1 ha2
  rw [sa, sb', cr_sb] at b1 b2
  exact ⟨fun hx => by have := b1 (hx i hi) (hx j hj); omega, fun hx => by have := b2 (Int.le_of_lt (hx i hi)) (hx j hj); omega⟩

/-- the corner of a polygon for a direction -/
theorem Sr.corner {p : List Pt} (h : Sr p) {e : Pt} (he : hh e ≠ 0) : ∃ v ∈ p, (∀ y ∈ p, cr e v ≤ cr e y) ∧ (∀ x, InC p x → cr e v ≤ cr e x) ∧ ∀ x, InI p x → cr e v < cr e x := by
  have hl := h.len
  obtain ⟨k, hk, h1, h2⟩ := h.pos he
  refine ⟨vt p k, vt_mem (by omega) k, fun y hy => ?_, fun x hx => (h.cone he hk h1 h2 x).1 hx, fun x hx => (h.cone he hk h1 h2 x).2 hx⟩
  obtain ⟨j, hj, rfl⟩ := mem_vt hy
  exact h.supp he hk (fun i hi => (h1 i hi).ae) h2 j (by omega)

theorem Sr.in_self {p : List Pt} (h : Sr p) {y : Pt} (hy : y ∈ p) : InC p y := fun k hk => by
  obtain ⟨j, hj, rfl⟩ := mem_vt hy
  rw [side_E hk]
  have := h.supp (h.ne k hk) (Nat.le_of_lt hk) (fun i hi => (h.srt i k hi hk).ae) (fun i h1 h2 => by
    rcases Nat.lt_or_eq_of_le h1 with h3 | rfl
    · exact (h.srt k i h3 h2).ae
    · exact Ae.refl (h.ne k hk)) j (by omega)
  omega

/-- a polygon whose vertices lie in another one lies in it -/
theorem sub_in {p q : List Pt} (hp : Sr p) (hq : Sr q) (h : ∀ y ∈ p, InC q y) (x : Pt) : (InC p x → InC q x) ∧ (InI p x → InI q x) := by
  have key : ∀ k, k < q.length → ∃ v ∈ p, (∀ x, InC p x → cr (E q k) v ≤ cr (E q k) x) ∧ ∀ x, InI p x → cr (E q k) v < cr (E q k) x := fun k hk => by
    obtain ⟨v, h1, _, h2, h3⟩ := hp.corner (hq.ne k hk)
    exact ⟨v, h1, h2, h3⟩
  constructor
  · intro hx k hk
    obtain ⟨v, h1, h2, h3⟩ := key k hk
    have a := h v h1 k hk
    have b := h2 x hx
    rw [side_E hk] at a ⊢
    omega
  · intro hx k hk
    obtain ⟨v, h1, h2, h3⟩ := key k hk
    have a := h v h1 k hk
    have b := h3 x hx
    rw [side_E hk] at a ⊢
    omega

end Go.Proofs.Ytoghphikfkdkmaa.V
